/- The printed walks, together; no condition. -/
import Derived.Test.YthhhkphbhlafbaaG0
import Derived.Test.YthhhkphbhlafbaaG1
import Derived.Test.YthhhkphbhlafbaaG2
import Derived.Test.YthhhkphbhlafbaaG3
import Derived.Test.YthhhkphbhlafbaaG4
