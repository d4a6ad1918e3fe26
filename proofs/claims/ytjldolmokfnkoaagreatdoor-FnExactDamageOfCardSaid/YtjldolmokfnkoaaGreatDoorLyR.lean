/- All rules. Conditions: none. -/
import Derived.Test.YtjldolmokfnkoaaGreatDoorLyR0
import Derived.Test.YtjldolmokfnkoaaGreatDoorLyR1
import Derived.Test.YtjldolmokfnkoaaGreatDoorLyR2
import Derived.Test.YtjldolmokfnkoaaGreatDoorLyR3
import Derived.Test.YtjldolmokfnkoaaGreatDoorLyR4
import Derived.Test.YtjldolmokfnkoaaGreatDoorLyR5
import Derived.Test.YtjldolmokfnkoaaGreatDoorLyR6
import Derived.Test.YtjldolmokfnkoaaGreatDoorLyR7
import Derived.Test.YtjldolmokfnkoaaGreatDoorLyR8
import Derived.Test.YtjldolmokfnkoaaGreatDoorLyR9
namespace Go.Fw.Law
open Go Go.Fw
end Go.Fw.Law
