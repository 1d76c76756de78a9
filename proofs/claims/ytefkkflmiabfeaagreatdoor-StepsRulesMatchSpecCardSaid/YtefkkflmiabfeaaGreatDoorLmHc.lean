/- A call that grows a builder that holds nothing. -/
import Derived.Test.YtefkkflmiabfeaaGreatDoorLmHb
set_option linter.unusedVariables false
set_option linter.unusedSimpArgs false
namespace Go.Lm
section
variable {R : Type} {P : Program}
end
end Go.Lm
