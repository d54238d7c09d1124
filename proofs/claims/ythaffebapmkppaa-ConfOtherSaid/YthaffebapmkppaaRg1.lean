/- The symbolic executor, part 30: regions that draw their order, where what a call has made may be looked at behind it. -/
import Derived.Test.YthaffebapmkppaaEE

namespace Go.Eng

end Go.Eng
