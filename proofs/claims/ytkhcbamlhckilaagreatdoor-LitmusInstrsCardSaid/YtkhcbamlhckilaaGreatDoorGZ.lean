/- The walk, whole. -/
import Derived.Test.YtkhcbamlhckilaaGreatDoorGB
import Derived.Test.YtkhcbamlhckilaaGreatDoorG1
import Derived.Test.YtkhcbamlhckilaaGreatDoorG2
import Derived.Test.YtkhcbamlhckilaaGreatDoorG3
import Derived.Test.YtkhcbamlhckilaaGreatDoorG4
import Derived.Test.YtkhcbamlhckilaaGreatDoorG5
