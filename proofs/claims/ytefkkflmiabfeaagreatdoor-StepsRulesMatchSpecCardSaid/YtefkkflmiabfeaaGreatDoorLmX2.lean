/- Nothing more: all functions stand in LmX. -/
import Derived.Test.YtefkkflmiabfeaaGreatDoorLmX
set_option linter.unusedVariables false
set_option linter.unusedSimpArgs false
