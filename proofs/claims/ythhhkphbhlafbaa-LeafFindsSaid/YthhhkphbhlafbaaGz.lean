/- The printed walks, together; no condition. -/
import Derived.Test.YthhhkphbhlafbaaG0
