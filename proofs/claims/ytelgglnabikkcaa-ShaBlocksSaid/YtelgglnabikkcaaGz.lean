/- The printed walks, together; no condition. -/
import Derived.Test.YtelgglnabikkcaaG0
import Derived.Test.YtelgglnabikkcaaG1
import Derived.Test.YtelgglnabikkcaaG2
import Derived.Test.YtelgglnabikkcaaG3
