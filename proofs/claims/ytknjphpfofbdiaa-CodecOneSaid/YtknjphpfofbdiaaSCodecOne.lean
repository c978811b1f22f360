/- The one pure statement of the law CodecOne, over what the printed walk computes; no condition. -/
import Derived.Test.YtknjphpfofbdiaaGCodecOne
namespace Go.Proofs.Ytknjphpfofbdiaa.S
open Go Go.RowKit Go.Proofs.Ytknjphpfofbdiaa.Sx Go.Proofs.Ytknjphpfofbdiaa.G
def CodecOne : Prop := ∀ (l0 : List Int), l0.length * 1 ≤ 140737488351232 → (∀ x ∈ l0, (Lit.int .u8 x).wf = true) → ∃ k, shadowboxlaw01_CodecOne.f k l0 = some true
end Go.Proofs.Ytknjphpfofbdiaa.S
