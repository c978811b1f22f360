/- What a greedy cut does: pieces that are full; no condition. -/
import Derived.Test.YtnkcadofhhcfaaaPrc
set_option linter.unusedVariables false
set_option linter.unusedSimpArgs false
namespace Go.Proofs.Ytnkcadofhhcfaaa.Prt
open Go Go.RowKit Go.Proofs.Ytnkcadofhhcfaaa.Sx Go.Proofs.Ytnkcadofhhcfaaa.G Go.Proofs.Ytnkcadofhhcfaaa.Bt
theorem and_i64 (a : Int) {m : Nat} (hm : m < 2 ^ 63) : 0 ≤ bits .and .i64 a (m : Int) ∧ bits .and .i64 a (m : Int) ≤ m := by
  simp only [bits, bvi]
  have h1 : (BitVec.ofInt IntKind.i64.bits a &&& BitVec.ofNat IntKind.i64.bits m).toNat ≤ m := by
    rw [BitVec.toNat_and]
    refine Nat.le_trans Nat.and_le_right ?_
    simp only [BitVec.toNat_ofNat]
    exact Nat.mod_le _ _
  rw [wi64 (by omega) (by omega)]
  omega
def S (l : List Int) (p x : Int) : Int := ((l.take x.toNat).drop p.toNat).sum
/-- Pieces from p on: none is empty, none above b, and with the next one's first each would be. -/
def Ok (b : Int) (l : List Int) : Int → List Int → Prop
  | p, [] => p = (l.length : Int)
  | p, x :: r => p < x ∧ x ≤ (l.length : Int) ∧ S l p x ≤ b ∧ (x < (l.length : Int) → S l p x + l.getD x.toNat 0 > b) ∧ Ok b l x r
theorem gr_ok {b : Int} (hb0 : 0 ≤ b) {l : List Int} (hl : In b l) : ∀ (j i p : Nat), i + j = l.length → p ≤ i → (p < i ∨ (i = 0 ∧ 0 < l.length)) → S l p i ≤ b → Ok b l p (gr b (l.drop i) i (S l p i)) := by
  intro j
  induction j with
  | zero =>
    intro i p h1 h2 h3 h4
    rw [List.drop_of_length_le (by omega), gr]
    exact ⟨by omega, by omega, h4, fun h => by omega, by show (i : Int) = _; omega⟩
  | succ j ih =>
    intro i p h1 h2 h3 h4
    have hi : i < l.length := by omega
    have hx := getD_in hl hi
    have hS : S l p (i + 1 : Nat) = S l p i + l.getD i 0 := by
      have := take_sum l hi h2
      simpa [S] using this
    have hS2 : S l i (i + 1 : Nat) = l.getD i 0 := by
      have := take_sum l hi (Nat.le_refl i)
      rw [List.drop_of_length_le (by simp; omega : (l.take i).length ≤ i), List.sum_nil] at this
      simpa [S] using this
    rw [drop_cons hi, gr]
    by_cases c : 0 < i ∧ S l p i + l.getD i 0 > b
    · rw [if_pos c]
      refine ⟨by omega, by omega, h4, fun _ => by rw [Int.toNat_natCast]; exact c.2, ?_⟩
      have := ih (i + 1) i (by omega) (by omega) (.inl (by omega)) (by rw [hS2]; exact hx.2)
      rw [hS2] at this
      exact this
    · rw [if_neg c, ← hS]
      refine ih (i + 1) p (by omega) (by omega) (.inl (by omega)) ?_
      rw [hS]
      by_cases h0 : 0 < i
      · have : ¬ S l p i + l.getD i 0 > b := fun h => c ⟨h0, h⟩
        omega
      · have e : i = 0 := by omega
        subst e
        have : S l p ((0 : Nat) : Int) = 0 := by simp [S]
        omega
theorem ok_ris {b : Int} {l : List Int} : ∀ {E : List Int} {p : Int}, Ok b l p E → ris E p (l.length : Int) = true
  | [], p, h => decide_eq_true h
  | x :: r, p, h => by
    unfold ris
    rw [if_neg (by have := h.1; omega)]
    exact ok_ris h.2.2.2.2
def AllS (l : List Int) (G : Int) : Int → List Int → Prop
  | _, [] => True
  | p, x :: r => S l p x ≤ G ∧ AllS l G x r
theorem gs_ge (l : List Int) : ∀ (E : List Int) (best p : Int), best ≤ gs l best p E ∧ AllS l (gs l best p E) p E
  | [], best, p => ⟨Int.le_refl _, trivial⟩
  | x :: r, best, p => by
    have ih := gs_ge l r (if best < ((l.take x.toNat).drop p.toNat).sum then ((l.take x.toNat).drop p.toNat).sum else best) x
    unfold gs AllS
    refine ⟨?_, ?_, ih.2⟩
    · have := ih.1
      split at this <;> omega
    · have := ih.1
      unfold S
      split at this <;> omega
theorem gs_le {b : Int} {l : List Int} : ∀ {E : List Int} {best p : Int}, Ok b l p E → best ≤ b → gs l best p E ≤ b
  | [], best, p, _, h => h
  | x :: r, best, p, ho, h => by
    unfold gs
    refine gs_le ho.2.2.2.2 ?_
    have := ho.2.2.1
    unfold S at this
    split <;> omega
end Go.Proofs.Ytnkcadofhhcfaaa.Prt
