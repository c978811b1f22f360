/- The printed walks, together; no condition. -/
import Derived.Test.YtnjijflgafghmaaG0
import Derived.Test.YtnjijflgafghmaaG1
