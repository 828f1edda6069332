import Derived.Test.YtajadnlejdpceaaTlU8
set_option linter.unusedVariables false
namespace Go.TL
open Go
end Go.TL
