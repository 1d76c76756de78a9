/- Blocks that a call makes and forgets, beside one that it hands back. -/
import Derived.Test.YtefkkflmiabfeaaGreatDoorLmHc
set_option linter.unusedVariables false
set_option linter.unusedSimpArgs false
namespace Go.Lm
section
variable {R : Type} {P : Program}
end
end Go.Lm
