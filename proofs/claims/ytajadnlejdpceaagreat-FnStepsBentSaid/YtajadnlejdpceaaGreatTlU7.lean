import Derived.Test.YtajadnlejdpceaaGreatTlU6
set_option linter.unusedVariables false
namespace Go.TL
end Go.TL
