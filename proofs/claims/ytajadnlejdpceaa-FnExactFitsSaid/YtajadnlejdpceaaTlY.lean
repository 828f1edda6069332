import Derived.Test.YtajadnlejdpceaaTlX
import Derived.Laws.StructEq
set_option linter.unusedVariables false
namespace Go.TL
end Go.TL
