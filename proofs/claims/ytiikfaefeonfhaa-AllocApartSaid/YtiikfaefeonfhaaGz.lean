/- The printed walks, together; no condition. -/
import Derived.Test.YtiikfaefeonfhaaG0
import Derived.Test.YtiikfaefeonfhaaG1
