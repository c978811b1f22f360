/- The one pure statement of the law CodecBack, over what the printed walk computes; no condition. -/
import Derived.Test.YtknjphpfofbdiaaGCodecBack
namespace Go.Proofs.Ytknjphpfofbdiaa.S
open Go Go.RowKit Go.Proofs.Ytknjphpfofbdiaa.Sx Go.Proofs.Ytknjphpfofbdiaa.G
def CodecBack : Prop := ∀ (a0 : Int) (a1 : ByteArray) (l2 : List Int), (Lit.int .u64 a0).wf = true → a1.size ≤ 140737488351232 → l2.length * 1 ≤ 140737488351232 → (∀ x ∈ l2, (Lit.int .u8 x).wf = true) → ∃ k, shadowboxlaw01_CodecBack.f k a0 a1 l2 = some true
end Go.Proofs.Ytknjphpfofbdiaa.S
