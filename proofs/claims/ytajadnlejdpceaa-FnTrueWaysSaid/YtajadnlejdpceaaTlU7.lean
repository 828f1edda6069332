import Derived.Test.YtajadnlejdpceaaTlU6
set_option linter.unusedVariables false
namespace Go.TL
end Go.TL
