/- The one pure statement of the law LeafBack, over what the printed walk computes; no condition. -/
import Derived.Test.YthhhkphbhlafbaaGLeafBack
namespace Go.Proofs.Ythhhkphbhlafbaa.S
open Go Go.RowKit Go.Proofs.Ythhhkphbhlafbaa.Sx Go.Proofs.Ythhhkphbhlafbaa.G
def LeafBack : Prop := ∀ (a0 : (Int × (List (List Int)) × (List (List Int)) × (List (Int × Int × Int × Int × (Vc Int 32))))), (Lit.int .i64 a0.1).wf = true ∧ (((a0.2.1.length ≤ maxLen ∧ ∀ y ∈ a0.2.1, (y.length ≤ maxLen ∧ ∀ z ∈ y, (Lit.int .u8 z).wf = true)))) ∧ (((a0.2.2.1.length ≤ maxLen ∧ ∀ y ∈ a0.2.2.1, (y.length ≤ maxLen ∧ ∀ z ∈ y, (Lit.int .u8 z).wf = true)))) ∧ ((a0.2.2.2.length ≤ maxLen ∧ ∀ y ∈ a0.2.2.2, (Lit.int .i64 y.1).wf = true ∧ (Lit.int .i64 y.2.1).wf = true ∧ (Lit.int .i64 y.2.2.1).wf = true ∧ (Lit.int .u32 y.2.2.2.1).wf = true ∧ (∀ z ∈ y.2.2.2.2.1, (Lit.int .u8 z).wf = true))) → ∃ k, shadowboxlaw16_LeafBack.f k a0 = some true
end Go.Proofs.Ythhhkphbhlafbaa.S
