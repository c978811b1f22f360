/- The one pure statement of the law HmacChains, over what the printed walk computes; no condition. -/
import Derived.Test.YtnkcadofhhcfaaaGHmacChains
namespace Go.Proofs.Ytnkcadofhhcfaaa.S
open Go Go.RowKit Go.Proofs.Ytnkcadofhhcfaaa.Sx Go.Proofs.Ytnkcadofhhcfaaa.G
def HmacChains : Prop := ∀ (l0 : List Int) (l1 : List ByteArray) (l2 : List Int), l0.length * 1 ≤ 140737488351232 → (∀ x ∈ l0, (Lit.int .u8 x).wf = true) → l1.length * 16 ≤ 140737488351232 → (∀ x ∈ l1, x.size ≤ maxLen) → l2.length * 1 ≤ 140737488351232 → (∀ x ∈ l2, (Lit.int .u8 x).wf = true) → ∃ k, shadowboxlaw12_HmacChains.f k l0 l1 l2 = some true
end Go.Proofs.Ytnkcadofhhcfaaa.S
