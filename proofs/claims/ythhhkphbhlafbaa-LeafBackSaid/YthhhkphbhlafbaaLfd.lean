/- What a key's search among a leaf's keys computes; no condition. -/
import Derived.Test.YthhhkphbhlafbaaGz
import Derived.Test.YthhhkphbhlafbaaBits
import Derived.Lib.Bytealg
set_option linter.unusedVariables false
set_option linter.unusedSimpArgs false
namespace Go.Proofs.Ythhhkphbhlafbaa.Lfd
open Go Go.RowKit Go.Proofs.Ythhhkphbhlafbaa.Sx Go.Proofs.Ythhhkphbhlafbaa.G Go.Proofs.Ythhhkphbhlafbaa.Bt
/-! ### The order of bytes -/
abbrev bL := Go.Op.bytesLess
theorem bL_irr : ∀ a, bL a a = false
  | [] => rfl
  | x :: a => by simp [bL, Go.Op.bytesLess, UInt8.lt_irrefl]; exact bL_irr a
theorem bL_cons (x y : UInt8) (a b : List UInt8) : bL (x :: a) (y :: b) = true ↔ x.toNat < y.toNat ∨ x = y ∧ bL a b = true := by
  simp [bL, Go.Op.bytesLess, UInt8.lt_iff_toNat_lt]
theorem bL_trans : ∀ {a b c : List UInt8}, bL a b = true → bL b c = true → bL a c = true
  | _, [], _, h, _ => by simp [bL, Go.Op.bytesLess] at h
  | _, _ :: _, [], _, h => by simp [bL, Go.Op.bytesLess] at h
  | [], _ :: _, _ :: _, _, _ => rfl
  | x :: a, y :: b, z :: c, h1, h2 => by
    rw [bL_cons] at h1 h2 ⊢
    rcases h1 with h1 | ⟨rfl, h1⟩
    · rcases h2 with h2 | ⟨rfl, h2⟩
      · exact .inl (by omega)
      · exact .inl h1
    · rcases h2 with h2 | ⟨rfl, h2⟩
      · exact .inl h2
      · exact .inr ⟨rfl, bL_trans h1 h2⟩
theorem bL_asymm {a b : List UInt8} (h : bL a b = true) : bL b a = false := by
  cases e : bL b a
  · rfl
  · have := bL_trans h e
    rw [bL_irr] at this
    cases this
def kb (l : List Int) : List UInt8 := (strOfNums l).toList
theorem cmpB : ∀ (a b : List UInt8), (Lib.compareBytes a b < 0 ↔ bL a b = true) ∧ (Lib.compareBytes a b = 0 ↔ a = b)
  | [], [] => by simp [Lib.compareBytes, bL, Go.Op.bytesLess]
  | [], _ :: _ => by simp [Lib.compareBytes, bL, Go.Op.bytesLess]
  | _ :: _, [] => by simp [Lib.compareBytes, bL, Go.Op.bytesLess]
  | x :: a, y :: b => by
    have ih := cmpB a b
    rw [bL_cons, Lib.compareBytes]
    simp only [UInt8.lt_iff_toNat_lt]
    by_cases h1 : x.toNat < y.toNat
    · rw [if_pos h1]
      refine ⟨⟨fun _ => .inl h1, fun _ => by decide⟩, ⟨fun h => by omega, fun h => ?_⟩⟩
      injection h with h _
      rw [h] at h1
      omega
    · rw [if_neg h1]
      by_cases h2 : y.toNat < x.toNat
      · rw [if_pos h2]
        refine ⟨⟨fun h => by omega, fun h => ?_⟩, ⟨fun h => by omega, fun h => ?_⟩⟩
        · rcases h with h | ⟨h, _⟩
          · exact absurd h h1
          · rw [h] at h2; omega
        · injection h with h _
          rw [h] at h2; omega
      · rw [if_neg h2]
        have e : x = y := UInt8.toNat_inj.1 (by omega)
        subst e
        refine ⟨ih.1.trans ⟨fun h => .inr ⟨rfl, h⟩, fun h => ?_⟩, ih.2.trans ⟨fun h => by rw [h], fun h => ?_⟩⟩
        · rcases h with h | ⟨_, h⟩
          · omega
          · exact h
        · injection h
theorem bcmp_eq (l m : List Int) : bcmp l m = Lib.compareBytes (kb l) (kb m) := by
  unfold bcmp kb
  rw [Lib.cmp_eq, Lib.toList_data, Lib.toList_data]
theorem bcmp_lt (l m : List Int) : bcmp l m < 0 ↔ bL (kb l) (kb m) = true := by rw [bcmp_eq]; exact (cmpB _ _).1
theorem bcmp_zero (l m : List Int) : bcmp l m = 0 ↔ kb l = kb m := by rw [bcmp_eq]; exact (cmpB _ _).2
theorem bL_tri {a b : List UInt8} (h : bL a b = false) (h2 : a ≠ b) : bL b a = true := by
  have h1 := cmpB a b
  have h3 := cmpB b a
  have key : ∀ (a b : List UInt8), bL a b = true ∨ a = b ∨ bL b a = true := by
    intro a
    induction a with
    | nil => intro b; cases b <;> simp [bL, Go.Op.bytesLess]
    | cons x a ih =>
      intro b
      cases b with
      | nil => simp [bL, Go.Op.bytesLess]
      | cons y b =>
        rw [bL_cons, bL_cons]
        by_cases e : x = y
        · subst e
          rcases ih b with h | h | h
          · exact .inl (.inr ⟨rfl, h⟩)
          · exact .inr (.inl (by rw [h]))
          · exact .inr (.inr (.inr ⟨rfl, h⟩))
        · have : x.toNat ≠ y.toNat := fun h => e (UInt8.toNat_inj.1 h)
          by_cases h : x.toNat < y.toNat
          · exact .inl (.inl h)
          · exact .inr (.inr (.inl (by omega)))
  rcases key a b with h4 | h4 | h4
  · rw [h] at h4; cases h4
  · exact absurd h4 h2
  · exact h4
/-! ### The search -/
def ka (l : List (List Int)) (i : Nat) : List UInt8 := kb (l.getD i [])
def Asc (l : List (List Int)) : Prop := ∀ i, i + 1 < l.length → bL (ka l i) (ka l (i + 1)) = true
theorem Asc.lt {l : List (List Int)} (h : Asc l) : ∀ {j i : Nat}, i < j → j < l.length → bL (ka l i) (ka l j) = true := by
  intro j
  induction j with
  | zero => intro i hi; omega
  | succ j ih =>
    intro i hi hj
    by_cases e : i = j
    · subst e; exact h i hj
    · exact bL_trans (ih (i := i) (by omega) (by omega)) (h j hj)
/-- Where a key stands: behind what is below it. -/
def At (l : List (List Int)) (x : List Int) (i : Nat) : Prop := i ≤ l.length ∧ (∀ m, m < i → bL (ka l m) (kb x) = true) ∧ ∀ m, i ≤ m → m < l.length → bL (ka l m) (kb x) = false
theorem bin_lo1 {l : List (List Int)} (hl : l.length ≤ 1000000) (h : Asc l) (x : List Int) : ∀ (d k i j : Nat), j - i ≤ d → d < k → i ≤ j → j ≤ l.length → (∀ m, m < i → bL (ka l m) (kb x) = true) → (∀ m, j ≤ m → m < l.length → bL (ka l m) (kb x) = false) →
    ∃ q : Nat, slices_BinarySearchFunc_29_s30.lo1 l x k (i : Int) (j : Int) = some ((q : Int), decide (q < l.length ∧ ka l q = kb x)) ∧ At l x q := by
  intro d
  induction d with
  | zero =>
    intro k i j hd hk hij hj h1 h2
    obtain ⟨k, rfl⟩ : ∃ m, k = m + 1 := ⟨k - 1, by omega⟩
    obtain rfl : i = j := by omega
    refine ⟨i, ?_, hj, h1, h2⟩
    rw [slices_BinarySearchFunc_29_s30.lo1, if_neg (by omega)]
    by_cases hi : i < l.length
    · rw [if_pos (by omega), if_pos (by omega), Int.toNat_natCast]
      simp only [bytes_Compare.f, Option.bind_some]
      congr 2
      exact decide_eq_decide.2 ((bcmp_zero _ _).trans ⟨fun e => ⟨hi, e⟩, fun e => e.2⟩)
    · rw [if_neg (by omega), decide_eq_false (fun e => hi e.1)]
  | succ d ih =>
    intro k i j hd hk hij hj h1 h2
    by_cases e : i = j
    · exact ih k i j (by omega) (by omega) hij hj h1 h2
    obtain ⟨k, rfl⟩ : ∃ m, k = m + 1 := ⟨k - 1, by omega⟩
    rw [slices_BinarySearchFunc_29_s30.lo1, if_pos (by omega)]
    simp only [lt]
    rw [wi64 (n := (i : Int) + j) (by omega) (by omega), wu64, show ((i : Int) + j) % 18446744073709551616 = (i : Int) + j by omega, fd _ (by decide), show ((i : Int) + j) / 2 = (((i + j) / 2 : Nat) : Int) by omega]
    generalize hm : (i + j) / 2 = m
    rw [wi64 (n := (m : Int)) (by omega) (by omega), if_pos (by omega), if_pos (by omega), Int.toNat_natCast]
    simp only [bytes_Compare.f, Option.bind_some]
    by_cases hc : bcmp (l.getD m []) x < 0
    · have hb : bL (ka l m) (kb x) = true := (bcmp_lt _ _).1 hc
      rw [if_pos hc, wi64 (by omega) (by omega)]
      refine ih k (m + 1) j (by omega) (by omega) (by omega) hj (fun q hq => ?_) h2
      by_cases e2 : q = m
      · subst e2; exact hb
      · exact bL_trans (h.lt (by omega) (by omega)) hb
    · have hb : bL (ka l m) (kb x) = false := by
        cases e2 : bL (ka l m) (kb x)
        · rfl
        · exact absurd ((bcmp_lt _ _).2 e2) hc
      rw [if_neg hc]
      refine ih k i m (by omega) (by omega) (by omega) (by omega) h1 (fun q hq hq2 => ?_)
      by_cases e2 : q = m
      · subst e2; exact hb
      · cases e3 : bL (ka l q) (kb x)
        · rfl
        · have := bL_trans (h.lt (show m < q by omega) hq2) e3
          rw [hb] at this
          cases this
abbrev Nd := Int × (List (List Int)) × (List (List Int)) × (List (Int × Int × Int × Int × (Vc Int 32)))
theorem find_val {a : Nd} (hl : a.2.1.length ≤ 1000000) (h : Asc a.2.1) (x : List Int) {k : Nat} (hk : a.2.1.length < k) : ∃ q : Nat, leaf_Find.f k a x = some (if q < a.2.1.length ∧ ka a.2.1 q = kb x then (q : Int) else (q : Int) - 1) ∧ At a.2.1 x q := by
  obtain ⟨q, e, hq⟩ := bin_lo1 hl h x a.2.1.length k 0 a.2.1.length (by omega) hk (by omega) (by omega) (fun m hm => by omega) (fun m h1 h2 => by omega)
  refine ⟨q, ?_, hq⟩
  unfold leaf_Find.f slices_BinarySearchFunc_29_s30.f
  rw [show (0 : Int) = ((0 : Nat) : Int) from rfl, e]
  simp only [Option.bind_some, decide_eq_true_eq]
  have := hq.1
  split
  · rfl
  · rw [wi64 (by omega) (by omega)]
end Go.Proofs.Ythhhkphbhlafbaa.Lfd
