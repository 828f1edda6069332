import Derived.Test.YtcegokjpmppdbaaGreatTlU6
set_option linter.unusedVariables false
namespace Go.TL
end Go.TL
