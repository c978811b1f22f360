/- The pure statement of RecordBytes; no condition. -/
import Derived.Test.YthhhkphbhlafbaaSRecordBytes
import Derived.Test.YthhhkphbhlafbaaRfw
set_option linter.unusedVariables false
set_option linter.unusedSimpArgs false
namespace Go.Proofs.Ythhhkphbhlafbaa.Pure
open Go Go.RowKit Go.Proofs.Ythhhkphbhlafbaa.Sx Go.Proofs.Ythhhkphbhlafbaa.G Go.Proofs.Ythhhkphbhlafbaa.Bt Go.Proofs.Ythhhkphbhlafbaa.Rcd Go.Proofs.Ythhhkphbhlafbaa.Rcv Go.Proofs.Ythhhkphbhlafbaa.Rrd Go.Proofs.Ythhhkphbhlafbaa.Rfw
theorem same_lo2 (a : Ver) (hl : a.2.2.2.2.2.2.length ≤ 1000) : ∀ (j i k : Nat), i + j = a.2.2.2.2.2.2.length → j < k → shadowboxref36_Same.lo2 a a k (i : Int) = some true := by
  intro j
  induction j with
  | zero =>
    intro i k hi hk
    obtain ⟨k, rfl⟩ : ∃ m, k = m + 1 := ⟨k - 1, by omega⟩
    rw [shadowboxref36_Same.lo2, if_neg (by omega)]
  | succ j ih =>
    intro i k hi hk
    obtain ⟨k, rfl⟩ : ∃ m, k = m + 1 := ⟨k - 1, by omega⟩
    rw [shadowboxref36_Same.lo2, if_pos (by omega), if_pos (by omega), if_pos (by omega), if_pos (by simp), wi64 (by omega) (by omega)]
    exact ih (i + 1) k (by omega) (by omega)
theorem same_self (a : Ver) (hl : a.2.2.2.2.2.2.length ≤ 1000) {k : Nat} (hk : 2000 ≤ k) : shadowboxref36_Same.f k a a = some true := by
  unfold shadowboxref36_Same.f shadowboxref36_Same.jo1
  rw [if_pos rfl, if_pos rfl, if_pos rfl, if_pos rfl, if_pos (by simp), if_pos (by simp), if_pos rfl]
  exact same_lo2 a hl a.2.2.2.2.2.2.length 0 k (by omega) (by omega)
theorem RecordBytes : S.RecordBytes := by
  intro a l ha h1 h2
  have hl : a.2.2.2.2.2.2.length ≤ 9223372036854775807 := ha.2.2.2.2.2.2.1
  refine ⟨a.2.2.2.2.2.2.length + 5000, ?_⟩
  generalize hk : a.2.2.2.2.2.2.length + 5000 = k
  unfold shadowboxlaw36_RecordBytes.f
  obtain ⟨b, e, hb⟩ := few_val hl (k := k) (by omega)
  rw [show shadowboxlaw36_few.f k (a.1, a.2.1, a.2.2.1, a.2.2.2.1, a.2.2.2.2.1, a.2.2.2.2.2.1, a.2.2.2.2.2.2) = some b from e]
  simp only [Option.bind_some]
  cases b
  case false => rfl
  rw [if_pos rfl]
  have hm := hb rfl
  by_cases h9 : (l.length : Int) > 900
  · rw [if_pos h9]
  rw [if_neg h9]
  unfold shadowboxlaw36_RecordBytes.jo1
  rw [show record_Put.f k (a.1, a.2.1, a.2.2.1, a.2.2.2.1, a.2.2.2.2.1, a.2.2.2.2.2.1, a.2.2.2.2.2.2) = some (putS a) from put_val (a := a) (by omega) (by omega)]
  simp only [Option.bind_some]
  rw [show shadowboxref36_Put.f k (a.1, a.2.1, a.2.2.1, a.2.2.2.1, a.2.2.2.2.1, a.2.2.2.2.2.1, a.2.2.2.2.2.2) = some (putS a) from refPut_val (a := a) (by omega)]
  simp only [Option.bind_some]
  obtain ⟨r, e1, e2, hr⟩ := read_both (k := k) (by omega) (b := l) ⟨bytes_of h2, by omega⟩
  rw [e1]
  simp only [Option.bind_some]
  rw [e2]
  simp only [Option.bind_some]
  rw [if_pos (by simp), if_pos True.intro, show record_Right.f k (a.1, a.2.1, a.2.2.1, a.2.2.2.1, a.2.2.2.2.1, a.2.2.2.2.2.1, a.2.2.2.2.2.2) = some (rok a) from right_val (a := a) (by omega) (by omega)]
  simp only [Option.bind_some]
  rw [show shadowboxref36_Right.f k (a.1, a.2.1, a.2.2.1, a.2.2.2.1, a.2.2.2.2.1, a.2.2.2.2.2.1, a.2.2.2.2.2.2) = some (rok a) from refRight_val (a := a) (by omega)]
  simp only [Option.bind_some]
  rw [if_pos (by simp), show shadowboxref36_Same.f k (r.1.1, r.1.2.1, r.1.2.2.1, r.1.2.2.2.1, r.1.2.2.2.2.1, r.1.2.2.2.2.2.1, r.1.2.2.2.2.2.2) (r.1.1, r.1.2.1, r.1.2.2.1, r.1.2.2.2.1, r.1.2.2.2.2.1, r.1.2.2.2.2.2.1, r.1.2.2.2.2.2.2) = some true from same_self r.1 (by omega) (by omega)]
  simp only [Option.bind_some]
  rw [if_pos True.intro, if_pos True.intro, right_val (by simp) (by simp; omega), rok_one (.inr rfl)]
  rfl
end Go.Proofs.Ythhhkphbhlafbaa.Pure
