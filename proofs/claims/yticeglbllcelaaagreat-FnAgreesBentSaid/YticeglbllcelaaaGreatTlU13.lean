import Derived.Test.YticeglbllcelaaaGreatTlU12
import Derived.Lib.ConvBytes
set_option linter.unusedVariables false
namespace Go.TL
open Go
end Go.TL
