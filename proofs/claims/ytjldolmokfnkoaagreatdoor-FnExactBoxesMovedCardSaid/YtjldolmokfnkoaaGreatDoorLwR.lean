/- All rules. Conditions: none. -/
import Derived.Test.YtjldolmokfnkoaaGreatDoorLwR0
import Derived.Test.YtjldolmokfnkoaaGreatDoorLwR1
import Derived.Test.YtjldolmokfnkoaaGreatDoorLwR2
import Derived.Test.YtjldolmokfnkoaaGreatDoorLwR3
import Derived.Test.YtjldolmokfnkoaaGreatDoorLwR4
import Derived.Test.YtjldolmokfnkoaaGreatDoorLwR5
import Derived.Test.YtjldolmokfnkoaaGreatDoorLwR6
import Derived.Test.YtjldolmokfnkoaaGreatDoorLwR7
import Derived.Test.YtjldolmokfnkoaaGreatDoorLwR8
import Derived.Test.YtjldolmokfnkoaaGreatDoorLwR9
namespace Go.Fw.Law
open Go Go.Fw
end Go.Fw.Law
