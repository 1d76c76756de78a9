/- Nothing more: all functions stand in LmX. -/
import Derived.Test.YtnapepffpbbkoaaGreatDoorLmX
