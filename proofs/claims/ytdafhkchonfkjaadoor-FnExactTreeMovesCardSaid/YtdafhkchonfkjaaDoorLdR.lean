/- All rules. Conditions: none. -/
import Derived.Test.YtdafhkchonfkjaaDoorLdR0
import Derived.Test.YtdafhkchonfkjaaDoorLdR1
import Derived.Test.YtdafhkchonfkjaaDoorLdR2
import Derived.Test.YtdafhkchonfkjaaDoorLdR3
import Derived.Test.YtdafhkchonfkjaaDoorLdR4
import Derived.Test.YtdafhkchonfkjaaDoorLdR5
import Derived.Test.YtdafhkchonfkjaaDoorLdR6
import Derived.Test.YtdafhkchonfkjaaDoorLdR7
namespace Go.Fw.Law
open Go Go.Fw
end Go.Fw.Law
