/- What is looked at ahead in code: where results go, and the plans of regions that draw their order. -/
import Derived.Test.YtapfloegpaadgaaGreatSyKeep2
set_option linter.unusedVariables false
set_option linter.unusedSimpArgs false
namespace Go.Sy

end Go.Sy
