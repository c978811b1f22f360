/- The pure statement of AllocNobody; no condition. -/
import Derived.Test.YtiikfaefeonfhaaSAllocNobody
set_option maxRecDepth 100000
namespace Go.Proofs.Ytiikfaefeonfhaa.Pure
open Go Go.RowKit Go.Proofs.Ytiikfaefeonfhaa.Sx Go.Proofs.Ytiikfaefeonfhaa.G
theorem AllocNobody : S.AllocNobody := fun _ _ _ _ => ⟨100, rfl⟩
end Go.Proofs.Ytiikfaefeonfhaa.Pure
