/- Numbers that are written. -/
import Derived.Test.YtefkkflmiabfeaaGreatDoorLmU
set_option linter.unusedVariables false
set_option linter.unusedSimpArgs false
set_option maxRecDepth 100000
namespace Go.Lm
section
variable {R : Type}
end
end Go.Lm
