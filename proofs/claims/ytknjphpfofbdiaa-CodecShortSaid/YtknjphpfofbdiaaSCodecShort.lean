/- The one pure statement of the law CodecShort, over what the printed walk computes; no condition. -/
import Derived.Test.YtknjphpfofbdiaaGCodecShort
namespace Go.Proofs.Ytknjphpfofbdiaa.S
open Go Go.RowKit Go.Proofs.Ytknjphpfofbdiaa.Sx Go.Proofs.Ytknjphpfofbdiaa.G
def CodecShort : Prop := ∀ (l0 : List Int) (a1 : Int), l0.length * 1 ≤ 140737488351232 → (∀ x ∈ l0, (Lit.int .u8 x).wf = true) → (Lit.int .u64 a1).wf = true → ∃ k, shadowboxlaw01_CodecShort.f k l0 a1 = some true
end Go.Proofs.Ytknjphpfofbdiaa.S
