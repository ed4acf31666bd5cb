/- The functions of the seat. -/
import Derived.Test.YtcdbmkidaecdiaaGreatC16z1
import Derived.Test.YtcdbmkidaecdiaaGreatC16z2
import Derived.Test.YtcdbmkidaecdiaaGreatC16z3
import Derived.Test.YtcdbmkidaecdiaaGreatC16z4
