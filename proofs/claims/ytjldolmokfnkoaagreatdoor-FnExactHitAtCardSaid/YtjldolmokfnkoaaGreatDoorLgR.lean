/- All rules. Conditions: none. -/
import Derived.Test.YtjldolmokfnkoaaGreatDoorLgR0
import Derived.Test.YtjldolmokfnkoaaGreatDoorLgR1
import Derived.Test.YtjldolmokfnkoaaGreatDoorLgR2
import Derived.Test.YtjldolmokfnkoaaGreatDoorLgR3
import Derived.Test.YtjldolmokfnkoaaGreatDoorLgR4
import Derived.Test.YtjldolmokfnkoaaGreatDoorLgR5
import Derived.Test.YtjldolmokfnkoaaGreatDoorLgR6
import Derived.Test.YtjldolmokfnkoaaGreatDoorLgR7
import Derived.Test.YtjldolmokfnkoaaGreatDoorLgR8
import Derived.Test.YtjldolmokfnkoaaGreatDoorLgR9
namespace Go.Fw.Law
open Go Go.Fw
end Go.Fw.Law
