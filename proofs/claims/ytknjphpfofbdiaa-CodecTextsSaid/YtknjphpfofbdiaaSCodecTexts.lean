/- The one pure statement of the law CodecTexts, over what the printed walk computes; no condition. -/
import Derived.Test.YtknjphpfofbdiaaGCodecTexts
namespace Go.Proofs.Ytknjphpfofbdiaa.S
open Go Go.RowKit Go.Proofs.Ytknjphpfofbdiaa.Sx Go.Proofs.Ytknjphpfofbdiaa.G
def CodecTexts : Prop := ∀ (l0 : List Int) (a1 : ByteArray) (a2 : Int), l0.length * 1 ≤ 140737488351232 → (∀ x ∈ l0, (Lit.int .u8 x).wf = true) → a1.size ≤ 140737488351232 → (Lit.int .i64 a2).wf = true → ∃ k, shadowboxlaw01_CodecTexts.f k l0 a1 a2 = some true
end Go.Proofs.Ytknjphpfofbdiaa.S
