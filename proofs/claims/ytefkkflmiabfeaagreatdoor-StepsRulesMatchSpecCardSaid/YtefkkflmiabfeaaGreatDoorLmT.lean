/- Words joined by blanks. -/
import Derived.Test.YtefkkflmiabfeaaGreatDoorLmO
import Derived.Test.YtefkkflmiabfeaaGreatDoorLmR5
import Derived.Test.YtefkkflmiabfeaaGreatDoorLmX3
set_option linter.unusedVariables false
set_option linter.unusedSimpArgs false
set_option maxRecDepth 100000
namespace Go.Lm
section
variable {R : Type}
end
end Go.Lm
