/- The one pure statement of the law CodecFixed, over what the printed walk computes; no condition. -/
import Derived.Test.YtknjphpfofbdiaaGCodecFixed
namespace Go.Proofs.Ytknjphpfofbdiaa.S
open Go Go.RowKit Go.Proofs.Ytknjphpfofbdiaa.Sx Go.Proofs.Ytknjphpfofbdiaa.G
def CodecFixed : Prop := ∀ (l0 : List Int) (a1 : Int) (a2 : Int), l0.length * 1 ≤ 140737488351232 → (∀ x ∈ l0, (Lit.int .u8 x).wf = true) → (Lit.int .i64 a1).wf = true → (Lit.int .u64 a2).wf = true → ∃ k, shadowboxlaw01_CodecFixed.f k l0 a1 a2 = some true
end Go.Proofs.Ytknjphpfofbdiaa.S
