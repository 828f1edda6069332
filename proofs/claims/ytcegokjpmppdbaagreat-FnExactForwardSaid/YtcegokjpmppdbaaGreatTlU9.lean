import Derived.Test.YtcegokjpmppdbaaGreatTlU8
set_option linter.unusedVariables false
namespace Go.TL
open Go
end Go.TL
