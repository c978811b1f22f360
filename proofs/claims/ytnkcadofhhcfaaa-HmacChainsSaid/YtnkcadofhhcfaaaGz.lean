/- The printed walks, together; no condition. -/
import Derived.Test.YtnkcadofhhcfaaaG0
import Derived.Test.YtnkcadofhhcfaaaG1
import Derived.Test.YtnkcadofhhcfaaaG2
import Derived.Test.YtnkcadofhhcfaaaG3
