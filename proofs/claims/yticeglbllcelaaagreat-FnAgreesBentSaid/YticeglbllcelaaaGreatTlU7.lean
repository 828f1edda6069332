import Derived.Test.YticeglbllcelaaaGreatTlU6
set_option linter.unusedVariables false
namespace Go.TL
end Go.TL
