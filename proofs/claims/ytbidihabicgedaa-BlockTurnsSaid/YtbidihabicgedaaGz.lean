/- The printed walks, together; no condition. -/
import Derived.Test.YtbidihabicgedaaG0
import Derived.Test.YtbidihabicgedaaG1
import Derived.Test.YtbidihabicgedaaG2
