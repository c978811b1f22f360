/- The pure statement of LeafFinds; no condition. -/
import Derived.Test.YthhhkphbhlafbaaSLeafFinds
import Derived.Test.YthhhkphbhlafbaaLfd
set_option linter.unusedVariables false
set_option linter.unusedSimpArgs false
namespace Go.Proofs.Ythhhkphbhlafbaa.Pure
open Go Go.RowKit Go.Proofs.Ythhhkphbhlafbaa.Sx Go.Proofs.Ythhhkphbhlafbaa.G Go.Proofs.Ythhhkphbhlafbaa.Bt Go.Proofs.Ythhhkphbhlafbaa.Lfd
theorem one_b {k : Nat} (hk : 10 ≤ k) : leaf_Find.f k ((0 : Int), [[(98 : Int)]], ([] : List (List Int)), ([] : List (Int × Int × Int × Int × (Vc Int 32)))) ([(97 : Int)]) = some (-1) := by
  obtain ⟨q, e, h1, h2, h3⟩ := find_val (a := ((0 : Int), [[(98 : Int)]], ([] : List (List Int)), ([] : List (Int × Int × Int × Int × (Vc Int 32))))) (by simp) (fun i hi => by simp at hi) [97] (k := k) (by simp; omega)
  have hb : bL (ka [[(98 : Int)]] 0) (kb [97]) = false := by decide +kernel
  have hq : q = 0 := by
    by_cases e : q = 0
    · exact e
    · have := h2 0 (by omega)
      rw [hb] at this
      cases this
  subst hq
  have hn : ¬ ka [[(98 : Int)]] 0 = kb [97] := by decide +kernel
  rw [e, if_neg (fun h => hn h.2)]
  rfl
theorem jo3_val {l : List (List Int)} (hl : l.length ≤ 1000) (ha : Asc l) (x : List Int) (t : Int) (q : Nat) (ht : t = if q < l.length ∧ ka l q = kb x then (q : Int) else (q : Int) - 1) (hq : At l x q) : shadowboxlaw16_LeafFinds.jo3 x l t = some true := by
  obtain ⟨h1, h2, h3⟩ := hq
  -- what is behind t is above the key
  have nxt : ∀ m : Nat, (m : Int) = t + 1 → m < l.length → (!(Op.bytesLess (ka l m) (kb x) || (ka l m == kb x))) = true := by
    intro m hm hml
    by_cases c : q < l.length ∧ ka l q = kb x
    · rw [if_pos c] at ht
      have hlt := ha.lt (show q < m by omega) hml
      rw [c.2] at hlt
      have e1 := bL_asymm hlt
      have e2 : ¬ ka l m = kb x := fun e => by rw [e, bL_irr] at hlt; cases hlt
      show (!(bL (ka l m) (kb x) || (ka l m == kb x))) = true
      rw [e1]
      simpa using e2
    · rw [if_neg c] at ht
      obtain rfl : m = q := by omega
      have e1 := h3 m (Nat.le_refl _) hml
      have e2 : ¬ ka l m = kb x := fun e => c ⟨hml, e⟩
      show (!(bL (ka l m) (kb x) || (ka l m == kb x))) = true
      rw [e1]
      simpa using e2
  have hr : -1 ≤ t ∧ t < 1000 := by split at ht <;> omega
  have tail : (if (IntKind.wrap .i64 (t + (1 : Int))) ≥ (l.length : Int) then some true else (if 0 ≤ IntKind.wrap .i64 (t + (1 : Int)) then (if IntKind.wrap .i64 (t + (1 : Int)) < (l.length : Int) then lt (strOfNums ((l).getD (IntKind.wrap .i64 (t + (1 : Int))).toNat ([] : List Int))) fun y16 => some (!(Op.bytesLess y16.toList (strOfNums x).toList || (y16.toList == (strOfNums x).toList))) else none) else none)) = some true := by
    rw [wi64 (by omega) (by omega)]
    by_cases c : t + 1 ≥ (l.length : Int)
    · rw [if_pos c]
    · rw [if_neg c, if_pos (by omega), if_pos (by omega)]
      simp only [lt]
      exact congrArg some (nxt (t + 1).toNat (by omega) (by omega))
  unfold shadowboxlaw16_LeafFinds.jo3
  by_cases h0 : t < 0
  · rw [if_pos h0]
    exact tail
  · have hn : t.toNat < l.length := by split at ht <;> omega
    rw [if_neg h0, if_pos (by omega), if_pos (by omega)]
    simp only [lt]
    have hle : (Op.bytesLess (ka l t.toNat) (kb x) || (ka l t.toNat == kb x)) = true := by
      by_cases c : q < l.length ∧ ka l q = kb x
      · rw [if_pos c] at ht
        obtain rfl : t.toNat = q := by omega
        rw [c.2]
        simp
      · rw [if_neg c] at ht
        have := h2 t.toNat (by omega)
        rw [show Op.bytesLess (ka l t.toNat) (kb x) = true from this]
        rfl
    refine Eq.trans (if_pos hle) ?_
    exact tail
theorem jo2_val {l : List (List Int)} (hl : l.length ≤ 300) (ha : Asc l) (x : List Int) {k : Nat} (hk : 1000 ≤ k) : shadowboxlaw16_LeafFinds.jo2 k x l = some true := by
  unfold shadowboxlaw16_LeafFinds.jo2
  obtain ⟨q, e, hq⟩ := find_val (a := ((0 : Int), l, ([] : List (List Int)), ([] : List (Int × Int × Int × Int × (Vc Int 32))))) (by show l.length ≤ _; omega) ha x (k := k) (by show l.length < _; omega)
  rw [e]
  simp only [Option.bind_some]
  have := hq.1
  have h3 : q ≤ l.length := hq.1
  rw [if_neg (by split <;> omega), if_neg (by split <;> omega)]
  exact jo3_val (by omega) ha x _ q rfl hq
theorem lo4_val {l : List (List Int)} (hl : l.length ≤ 300) (J : Option Bool) (hJ : Asc l → J = some true) : ∀ (j i k : Nat), 1 ≤ i → (i + j = l.length ∨ l.length = 0 ∧ j = 0) → j + 20 < k → (∀ m, m + 1 < i → m + 1 < l.length → bL (ka l m) (ka l (m + 1)) = true) → shadowboxlaw16_LeafFinds.lo4 l J k (i : Int) = some true := by
  intro j
  induction j with
  | zero =>
    intro i k hi0 hi hk h
    obtain ⟨k, rfl⟩ : ∃ m, k = m + 1 := ⟨k - 1, by omega⟩
    rw [shadowboxlaw16_LeafFinds.lo4, if_neg (by omega)]
    exact hJ fun m hm => h m (by omega) hm
  | succ j ih =>
    intro i k hi0 hi hk h
    obtain ⟨k, rfl⟩ : ∃ m, k = m + 1 := ⟨k - 1, by omega⟩
    rw [shadowboxlaw16_LeafFinds.lo4, if_pos (by omega), wi64 (n := (i : Int) - 1) (by omega) (by omega), if_pos (by omega), if_pos (by omega)]
    simp only [lt]
    rw [if_pos (by omega), Int.toNat_natCast, show ((i : Int) - 1).toNat = i - 1 by omega]
    show (if bL (ka l (i - 1)) (ka l i) = true then _ else _) = _
    by_cases c : bL (ka l (i - 1)) (ka l i) = true
    · rw [if_pos c, wi64 (by omega) (by omega)]
      refine ih (i + 1) k (by omega) (by omega) (by omega) fun m hm hm2 => ?_
      by_cases e : m + 1 = i
      · subst e
        exact c
      · exact h m (by omega) hm2
    · rw [if_neg c, one_b (by omega)]
      rfl
theorem LeafFinds : S.LeafFinds := by
  intro l x h1 h2 h3 h4
  refine ⟨5000, ?_⟩
  unfold shadowboxlaw16_LeafFinds.f
  have key : ∀ m : List (List Int), m.length ≤ 300 → shadowboxlaw16_LeafFinds.jo1 5000 x m = some true := by
    intro m hm
    unfold shadowboxlaw16_LeafFinds.jo1
    refine lo4_val hm _ (fun ha => jo2_val hm ha x (by omega)) (m.length - 1) 1 5000 (by omega) (by omega) (by omega) (fun q h => by omega)
  by_cases c : (l.length : Int) > 300
  · rw [if_pos c, if_pos (by omega)]
    simp only [lt]
    exact key _ (by simp; omega)
  · rw [if_neg c]
    exact key _ (by omega)
end Go.Proofs.Ythhhkphbhlafbaa.Pure
