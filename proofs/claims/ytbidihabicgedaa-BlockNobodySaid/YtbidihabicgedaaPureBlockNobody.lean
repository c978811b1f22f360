/- The pure statement of BlockNobody; no condition. -/
import Derived.Test.YtbidihabicgedaaSBlockNobody
set_option maxRecDepth 100000
namespace Go.Proofs.Ytbidihabicgedaa.Pure
open Go Go.RowKit Go.Proofs.Ytbidihabicgedaa.Sx Go.Proofs.Ytbidihabicgedaa.G
theorem BlockNobody : S.BlockNobody := fun _ _ _ _ _ => ⟨100, rfl⟩
end Go.Proofs.Ytbidihabicgedaa.Pure
