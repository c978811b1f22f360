/- The pure statement of ExtentSets; no condition. -/
import Derived.Test.YtiikfaefeonfhaaSExtentSets
import Derived.Test.YtiikfaefeonfhaaExm
set_option linter.unusedVariables false
set_option linter.unusedSimpArgs false
namespace Go.Proofs.Ytiikfaefeonfhaa.Pure
open Go Go.RowKit Go.Proofs.Ytiikfaefeonfhaa.Sx Go.Proofs.Ytiikfaefeonfhaa.G Go.Proofs.Ytiikfaefeonfhaa.Bt Go.Proofs.Ytiikfaefeonfhaa.Ext Go.Proofs.Ytiikfaefeonfhaa.Exv Go.Proofs.Ytiikfaefeonfhaa.Exm

/-! ### Bits -/
theorem b64 : IntKind.u64.bits = 64 := rfl
theorem wu {i : Nat} (hi : i < 64) : IntKind.wrap .u64 (i : Int) = (i : Int) := by rw [wu64]; omega
theorem pow_lt {i : Nat} (hi : i < 64) : 2 ^ i < 2 ^ 64 := Nat.pow_lt_pow_right (by decide) hi
theorem shl1 {i : Nat} (hi : i < 64) : shlv .u64 (1 : Int) (IntKind.wrap .u64 (i : Int)) = ((2 ^ i : Nat) : Int) := by
  unfold shlv
  rw [wu hi, show min ((i : Int)).toNat IntKind.u64.bits = i by rw [b64]; omega, Int.one_mul, wu64]
  have := pow_lt hi
  have e : ((2 : Int) ^ i) = ((2 ^ i : Nat) : Int) := by simp
  rw [e]
  generalize 2 ^ i = p at *
  omega
theorem shr1 {W i : Nat} (hi : i < 64) : shrv .u64 (W : Int) (IntKind.wrap .u64 (i : Int)) = ((W / 2 ^ i : Nat) : Int) := by
  unfold shrv
  rw [wu hi, show min ((i : Int)).toNat IntKind.u64.bits = i by rw [b64]; omega]
  have e : ((2 : Int) ^ i) = ((2 ^ i : Nat) : Int) := by simp
  rw [e, fd _ (Int.natCast_nonneg _)]
  simp
theorem or64 {a b : Nat} (ha : a < 2 ^ 64) (hb : b < 2 ^ 64) : bits .or .u64 (a : Int) (b : Int) = ((a ||| b : Nat) : Int) := or_u .u64 rfl a b ha hb
theorem and64 {a b : Nat} (ha : a < 2 ^ 64) (hb : b < 2 ^ 64) : bits .and .u64 (a : Int) (b : Int) = ((a &&& b : Nat) : Int) := and_u .u64 rfl a b ha hb
theorem andn64 {a b : Nat} (ha : a < 2 ^ 64) (hb : b < 2 ^ 64) : bits .andNot .u64 (a : Int) (b : Int) = ((a &&& (2 ^ 64 - 1 - b) : Nat) : Int) := andNot_u .u64 rfl a b ha hb
def orR : Nat → Nat → Nat → Nat
  | W, _, 0 => W
  | W, x, j + 1 => orR (W ||| 2 ^ x) (x + 1) j
theorem orR_lt : ∀ (j x W : Nat), W < 2 ^ 64 → x + j ≤ 64 → orR W x j < 2 ^ 64
  | 0, x, W, h, _ => h
  | j + 1, x, W, h, hx => orR_lt j (x + 1) _ (Nat.or_lt_two_pow h (pow_lt (by omega))) (by omega)
theorem orR_bit : ∀ (j x W i : Nat), (orR W x j).testBit i = (W.testBit i || decide (x ≤ i ∧ i < x + j))
  | 0, x, W, i => by
    rw [decide_eq_false (by omega)]
    simp [orR]
  | j + 1, x, W, i => by
    rw [orR, orR_bit j (x + 1), Nat.testBit_or, Nat.testBit_two_pow]
    by_cases e : x = i
    · subst e
      simp
    · rw [decide_eq_false e, Bool.or_false]
      congr 1
      exact decide_eq_decide.2 (by omega)
theorem lo6_val {e : Nat} (he : e ≤ 64) (jo : Int → Option Bool) : ∀ (j x k W : Nat), x + j = e → j < k → W < 2 ^ 64 → shadowboxlaw09_ExtentSets.lo6 (e : Int) jo k (W : Int) (x : Int) = jo ((orR W x j : Nat) : Int) := by
  intro j
  induction j with
  | zero =>
    intro x k W hx hk hW
    obtain ⟨k, rfl⟩ : ∃ q, k = q + 1 := ⟨k - 1, by omega⟩
    rw [shadowboxlaw09_ExtentSets.lo6, if_neg (by omega)]
    rfl
  | succ j ih =>
    intro x k W hx hk hW
    obtain ⟨k, rfl⟩ : ∃ q, k = q + 1 := ⟨k - 1, by omega⟩
    have hx64 : x < 64 := by omega
    rw [shadowboxlaw09_ExtentSets.lo6, if_pos (by omega), if_pos (by rw [wu hx64]; omega)]
    simp only [lt]
    rw [shl1 hx64, or64 hW (pow_lt hx64), wi64 (by omega) (by omega), show ((x : Int) + 1) = ((x + 1 : Nat) : Int) from by omega, ih (x + 1) k _ (by omega) (by omega) (Nat.or_lt_two_pow hW (pow_lt hx64))]
    rfl
/-! ### The set of a list -/
structure Inv (l : List Sp) (W : Nat) : Prop where
  ok : Ok (-1) l
  le : ∀ x ∈ l, x.2 ≤ 64
  lt : W < 2 ^ 64
  bit : ∀ k : Nat, k < 64 → W.testBit k = decide (mem l (k : Int))
theorem Inv.vd {l : List Sp} {W : Nat} (h : Inv l W) : Vd 1099511627776 l := ⟨h.ok, fun x hx => by have := h.le x hx; omega⟩
theorem len_of {l : List Sp} (h : Ok (-1) l) (h2 : ∀ x ∈ l, x.2 ≤ 64) : l.length ≤ 65 := by
  have := ok_len h h2 (by omega)
  omega
theorem has1 {l : List Sp} (h : Ok (-1) l) (h2 : ∀ x ∈ l, x.2 ≤ 64) {k : Nat} (hk : k < 64) : hasV l ((k : Int), (k : Int) + 1) = decide (mem l (k : Int)) := by
  have hv : Vd 1099511627776 l := ⟨h, fun x hx => by have := h2 x hx; omega⟩
  unfold hasV
  rw [if_pos (vb_vd.2 hv), if_pos (show rt ((k : Int), (k : Int) + 1) = true from decide_eq_true ⟨by simp only []; omega, by simp only []; omega, by simp only []; omega⟩), Bool.eq_iff_iff, hasB_iff h (by omega), decide_eq_true_eq]
  exact ⟨fun h3 => h3 _ (Int.le_refl _) (by omega), fun h3 q hq hq' => by rwa [show q = (k : Int) by omega]⟩
def setR (l : List Sp) : Nat → Nat → Nat → Nat
  | W, _, 0 => W
  | W, x, j + 1 => setR l (if mem l (x : Int) then W ||| 2 ^ x else W) (x + 1) j
theorem setR_bit (l : List Sp) : ∀ (j x W i : Nat), (setR l W x j).testBit i = (W.testBit i || decide (x ≤ i ∧ i < x + j ∧ mem l (i : Int)))
  | 0, x, W, i => by
    rw [decide_eq_false (by omega)]
    simp [setR]
  | j + 1, x, W, i => by
    rw [setR, setR_bit l j (x + 1)]
    by_cases hm : mem l (x : Int)
    · rw [if_pos hm, Nat.testBit_or, Nat.testBit_two_pow]
      by_cases e : x = i
      · subst e
        simp [hm]
      · rw [decide_eq_false e, Bool.or_false]
        congr 1
        exact decide_eq_decide.2 ⟨fun h => ⟨by omega, by omega, h.2.2⟩, fun h => ⟨by omega, by omega, h.2.2⟩⟩
    · rw [if_neg hm]
      congr 1
      refine decide_eq_decide.2 ⟨fun h => ⟨by omega, by omega, h.2.2⟩, fun h => ⟨?_, by omega, h.2.2⟩⟩
      by_cases e : x = i
      · subst e; exact absurd h.2.2 hm
      · omega
theorem setR_lt (l : List Sp) : ∀ (j x W : Nat), W < 2 ^ 64 → x + j ≤ 64 → setR l W x j < 2 ^ 64
  | 0, x, W, h, _ => h
  | j + 1, x, W, h, hx => setR_lt l j (x + 1) _ (by split; exact Nat.or_lt_two_pow h (pow_lt (by omega)); exact h) (by omega)
theorem set_lo1 {l : List Sp} (h : Ok (-1) l) (h2 : ∀ x ∈ l, x.2 ≤ 64) : ∀ (j x k W : Nat), x + j = 64 → j + 70 < k → W < 2 ^ 64 → shadowboxlaw09_set.lo1 l k (W : Int) (x : Int) = some ((setR l W x j : Nat) : Int) := by
  have hlen := len_of h h2
  intro j
  induction j with
  | zero =>
    intro x k W hx hk hW
    obtain ⟨k, rfl⟩ : ∃ q, k = q + 1 := ⟨k - 1, by omega⟩
    rw [shadowboxlaw09_set.lo1, if_neg (by omega)]
    rfl
  | succ j ih =>
    intro x k W hx hk hW
    obtain ⟨k, rfl⟩ : ∃ q, k = q + 1 := ⟨k - 1, by omega⟩
    have hx64 : x < 64 := by omega
    rw [shadowboxlaw09_set.lo1, if_pos (by omega), wi64 (by omega) (by omega), Has_val (by omega) (by omega), has1 h h2 hx64, Option.bind_some, show ((x : Int) + 1) = ((x + 1 : Nat) : Int) from by omega, setR]
    by_cases hm : mem l (x : Int)
    · rw [decide_eq_true hm, if_pos rfl, if_pos (by rw [wu hx64]; omega), if_pos hm]
      simp only [lt]
      rw [shl1 hx64, or64 hW (pow_lt hx64), ih (x + 1) k _ (by omega) (by omega) (Nat.or_lt_two_pow hW (pow_lt hx64))]
    · rw [decide_eq_false hm, if_neg (by decide), if_neg hm, ih (x + 1) k _ (by omega) (by omega) hW]
theorem set_val {l : List Sp} {W : Nat} (h : Inv l W) {k : Nat} (hk : 140 < k) : shadowboxlaw09_set.f k l = some (W : Int) := by
  unfold shadowboxlaw09_set.f
  have h1 := set_lo1 h.ok h.le 64 0 k 0 (by omega) (by omega) (by decide)
  rw [show ((0 : Nat) : Int) = 0 from rfl] at h1
  rw [h1]
  congr 2
  apply Nat.eq_of_testBit_eq
  intro i
  rw [setR_bit]
  by_cases hi : i < 64
  · rw [h.bit i hi]
    simp only [Nat.zero_testBit, Bool.false_or]
    exact decide_eq_decide.2 ⟨fun h => h.2.2, fun h => ⟨by omega, by omega, h⟩⟩
  · rw [decide_eq_false (by omega), Nat.testBit_lt_two_pow (Nat.lt_of_lt_of_le h.lt (Nat.pow_le_pow_right (by decide) (by omega)))]
    simp
/-! ### A step -/
theorem inv_add {l : List Sp} {W : Nat} (h : Inv l W) {a e : Nat} (h1 : a < e) (h2 : e ≤ 64) : addV l ((a : Int), (e : Int)) = add l a e ∧ Inv (add l a e) (W ||| orR 0 a (e - a)) := by
  have hb : orR 0 a (e - a) < 2 ^ 64 := orR_lt _ _ _ (by decide) (by omega)
  refine ⟨?_, ok_add h.ok (by omega) (by omega), add_le h.le (by omega), Nat.or_lt_two_pow h.lt hb, fun k hk => ?_⟩
  · unfold addV
    rw [if_pos (vb_vd.2 h.vd), if_pos (show rt ((a : Int), (e : Int)) = true from decide_eq_true ⟨by simp only []; omega, by simp only []; omega, by simp only []; omega⟩)]
  · rw [Nat.testBit_or, h.bit k hk, orR_bit, Nat.zero_testBit, Bool.false_or, ← Bool.decide_or]
    refine decide_eq_decide.2 ?_
    rw [mem_add (ok_pos h.ok) (by omega)]
    constructor
    · rintro (h | h)
      · exact .inl h
      · exact .inr (by omega)
    · rintro (h | h)
      · exact .inl h
      · exact .inr (by omega)
theorem inv_rem {l : List Sp} {W : Nat} (h : Inv l W) {a e : Nat} (h1 : a < e) (h2 : e ≤ 64) : remV l ((a : Int), (e : Int)) = rem l a e ∧ Inv (rem l a e) (W &&& (2 ^ 64 - 1 - orR 0 a (e - a))) := by
  have hb : orR 0 a (e - a) < 2 ^ 64 := orR_lt _ _ _ (by decide) (by omega)
  refine ⟨?_, ok_rem h.ok (by omega), rem_le (ok_pos h.ok) h.le, Nat.lt_of_le_of_lt Nat.and_le_left h.lt, fun k hk => ?_⟩
  · unfold remV
    rw [if_pos (vb_vd.2 h.vd), if_pos (show rt ((a : Int), (e : Int)) = true from decide_eq_true ⟨by simp only []; omega, by simp only []; omega, by simp only []; omega⟩)]
  · rw [Nat.testBit_and, h.bit k hk, show 2 ^ 64 - 1 - orR 0 a (e - a) = 2 ^ 64 - (orR 0 a (e - a) + 1) by omega, Nat.testBit_two_pow_sub_succ hb, orR_bit, Nat.zero_testBit, Bool.false_or, decide_eq_true hk, Bool.true_and, ← decide_not, ← Bool.decide_and]
    refine decide_eq_decide.2 ?_
    rw [mem_rem (ok_pos h.ok) (by omega)]
    constructor
    · rintro ⟨h, h'⟩
      exact ⟨h, by omega⟩
    · rintro ⟨h, h'⟩
      exact ⟨h, by omega⟩
theorem meets_bits {l : List Sp} {W : Nat} (h : Inv l W) {a e : Nat} (h1 : a < e) (h2 : e ≤ 64) : (meetV l ((a : Int), (e : Int)) == !decide (((W &&& orR 0 a (e - a) : Nat) : Int) = 0)) = true := by
  have hr : rt ((a : Int), (e : Int)) = true := decide_eq_true ⟨by simp only []; omega, by simp only []; omega, by simp only []; omega⟩
  have e1 : meetV l ((a : Int), (e : Int)) = meetB a e l := by
    unfold meetV
    rw [if_pos (vb_vd.2 h.vd), if_pos hr]
  rw [e1, beq_iff_eq, ← decide_not, Bool.eq_iff_iff, meetB_iff (ok_pos h.ok) (by omega), decide_eq_true_eq]
  constructor
  · rintro ⟨k, h3, h4, h5⟩ h6
    have h7 : W &&& orR 0 a (e - a) = 0 := by omega
    have h8 := congrArg (fun z => Nat.testBit z k.toNat) h7
    simp only [Nat.testBit_and, Nat.zero_testBit, orR_bit, Bool.false_or] at h8
    rw [h.bit k.toNat (by omega), show ((k.toNat : Nat) : Int) = k by omega, decide_eq_true h5, decide_eq_true (by omega)] at h8
    cases h8
  · intro h6
    have h7 : W &&& orR 0 a (e - a) ≠ 0 := by omega
    obtain ⟨i, hi⟩ := Nat.exists_testBit_of_ne_zero h7
    simp only [Nat.testBit_and, Nat.zero_testBit, orR_bit, Bool.false_or, Bool.and_eq_true, decide_eq_true_eq] at hi
    have hi64 : i < 64 := by omega
    have h8 := hi.1
    rw [h.bit i hi64, decide_eq_true_eq] at h8
    exact ⟨i, by omega, by omega, h8⟩
theorem jo5_val {l0 : List (Vc Int 3)} {l : List Sp} {W a e x k : Nat} (h : Inv l W) (h1 : a < e) (h2 : e ≤ 64) (hx : x < 100) (hk : 150 < k) (y24 : Int) (ha : bits .and .i64 y24 63 = (a : Int)) (lo : List Sp → Int → Int → Option Bool)
    (hlo : ∀ l' W', Inv l' W' → lo l' (W' : Int) ((x + 1 : Nat) : Int) = some true) : shadowboxlaw09_ExtentSets.jo5 l0 l (W : Int) (x : Int) k y24 (e : Int) lo ((orR 0 a (e - a) : Nat) : Int) = some true := by
  have hb : orR 0 a (e - a) < 2 ^ 64 := orR_lt _ _ _ (by decide) (by omega)
  have hlen := len_of h.ok h.le
  have hw : IntKind.wrap .i64 ((x : Int) + 1) = ((x + 1 : Nat) : Int) := by rw [wi64 (by omega) (by omega)]; omega
  unfold shadowboxlaw09_ExtentSets.jo5
  rw [if_pos (by decide)]
  simp only [lt]
  rw [ha, hw]
  split
  · obtain ⟨e1, h3⟩ := inv_add h h1 h2
    have hl3 := len_of h3.ok h3.le
    rw [Add_val (by omega) (by omega), e1, Option.bind_some, Valid_val (by omega) (by omega), Option.bind_some, if_pos (vb_vd.2 h3.vd), set_val h3 (by omega), Option.bind_some, or64 h.lt hb, if_pos rfl, Meets_val (by omega) (by omega), Option.bind_some, and64 h3.lt hb, if_pos (meets_bits h3 h1 h2)]
    exact hlo _ _ h3
  · obtain ⟨e1, h3⟩ := inv_rem h h1 h2
    have hl3 := len_of h3.ok h3.le
    rw [Remove_val (by omega) (by omega), e1, Option.bind_some, Valid_val (by omega) (by omega), Option.bind_some, if_pos (vb_vd.2 h3.vd), set_val h3 (by omega), Option.bind_some, andn64 h.lt hb, if_pos rfl, Meets_val (by omega) (by omega), Option.bind_some, and64 h3.lt hb, if_pos (meets_bits h3 h1 h2)]
    exact hlo _ _ h3
theorem and_i64 (a : Int) {m : Nat} (hm : m < 2 ^ 63) : 0 ≤ bits .and .i64 a (m : Int) ∧ bits .and .i64 a (m : Int) ≤ m := by
  simp only [bits, bvi]
  have h1 : (BitVec.ofInt IntKind.i64.bits a &&& BitVec.ofNat IntKind.i64.bits m).toNat ≤ m := by
    rw [BitVec.toNat_and]
    refine Nat.le_trans Nat.and_le_right ?_
    simp only [BitVec.toNat_ofNat]
    exact Nat.mod_le _ _
  rw [wi64 (by omega) (by omega)]
  omega
theorem lo3_val {l0 : List (Vc Int 3)} (jo : List Sp → Int → Option Bool) (hjo : ∀ l W, Inv l W → jo l (W : Int) = some true) : ∀ (j x k : Nat) (l : List Sp) (W : Nat), x + j = 60 → j + 300 < k → Inv l W → shadowboxlaw09_ExtentSets.lo3 l0 jo k l (W : Int) (x : Int) = some true := by
  intro j
  induction j with
  | zero =>
    intro x k l W hx hk h
    obtain ⟨k, rfl⟩ : ∃ q, k = q + 1 := ⟨k - 1, by omega⟩
    rw [shadowboxlaw09_ExtentSets.lo3]
    split
    · rw [if_neg (by omega)]
      exact hjo l W h
    · exact hjo l W h
  | succ j ih =>
    intro x k l W hx hk h
    obtain ⟨k, rfl⟩ : ∃ q, k = q + 1 := ⟨k - 1, by omega⟩
    rw [shadowboxlaw09_ExtentSets.lo3]
    split
    · rw [if_pos (by omega)]
      unfold shadowboxlaw09_ExtentSets.jo4
      rw [if_pos (by omega), if_pos (by assumption), if_pos (by decide)]
      simp only [lt]
      rw [if_pos (by decide)]
      generalize (l0.getD ((x : Int)).toNat (vrep 3 (0 : Int))).1.getD ((1 : Int)).toNat (0 : Int) = y24
      generalize (l0.getD ((x : Int)).toNat (vrep 3 (0 : Int))).1.getD ((2 : Int)).toNat (0 : Int) = y29
      obtain ⟨b1, b2⟩ := and_i64 y24 (m := 63) (by decide)
      obtain ⟨b3, b4⟩ := and_i64 y29 (m := 15) (by decide)
      rw [show ((63 : Nat) : Int) = 63 from rfl] at b1 b2
      rw [show ((15 : Nat) : Int) = 15 from rfl] at b3 b4
      obtain ⟨a, ha⟩ : ∃ a : Nat, bits .and .i64 y24 63 = (a : Int) := ⟨(bits .and .i64 y24 63).toNat, by omega⟩
      obtain ⟨b, hb⟩ : ∃ b : Nat, bits .and .i64 y29 15 = (b : Int) := ⟨(bits .and .i64 y29 15).toNat, by omega⟩
      rw [ha, hb]
      rw [ha] at b1 b2
      rw [hb] at b3 b4
      rw [wi64 (n := 1 + (b : Int)) (by omega) (by omega), wi64 (n := (a : Int) + (1 + (b : Int))) (by omega) (by omega)]
      obtain ⟨e, he⟩ : ∃ e : Nat, (if (64 : Int) < (a : Int) + (1 + (b : Int)) then (64 : Int) else (a : Int) + (1 + (b : Int))) = (e : Int) := by
        split
        · exact ⟨64, rfl⟩
        · exact ⟨a + (1 + b), by omega⟩
      rw [he]
      have hae : a < e ∧ e ≤ 64 := by split at he <;> omega
      have := lo6_val hae.2 (shadowboxlaw09_ExtentSets.jo5 l0 l (W : Int) (x : Int) k y24 (e : Int) (shadowboxlaw09_ExtentSets.lo3 l0 jo k)) (e - a) a k 0 (by omega) (by omega) (by decide)
      rw [show ((0 : Nat) : Int) = 0 from rfl] at this
      rw [this]
      exact jo5_val h hae.1 hae.2 (by omega) (by omega) y24 ha _ (fun l' W' h' => ih (x + 1) k l' W' (by omega) (by omega) h')
    · exact hjo l W h
/-! ### The count -/
theorem lo2_val {l : List Sp} {W : Nat} (h : Inv l W) : ∀ (j x k : Nat) (acc : Int), x + j = 64 → j + 100 < k → 0 ≤ acc → acc ≤ x → acc + cnt (fun q => decide (mem l q)) (x : Int) j = tot l → shadowboxlaw09_ExtentSets.lo2 l (W : Int) k acc (x : Int) = some true := by
  have hlen := len_of h.ok h.le
  intro j
  induction j with
  | zero =>
    intro x k acc hx hk h0 h1 h2
    obtain ⟨k, rfl⟩ : ∃ q, k = q + 1 := ⟨k - 1, by omega⟩
    rw [shadowboxlaw09_ExtentSets.lo2, if_neg (by omega), Total_val (by omega) (by omega), Option.bind_some]
    have e : totV l = acc := by
      unfold totV
      rw [if_pos (vb_vd.2 h.vd), ← h2]
      simp [cnt]
    rw [if_pos e, Add_val (l := []) (by simp) (by simp; omega), show addV [] ((3 : Int), (9 : Int)) = [((3 : Int), (9 : Int))] by decide +kernel, Option.bind_some, Find_val (l := [((3 : Int), (9 : Int))]) (by simp) (by simp; omega), show fndV [((3 : Int), (9 : Int))] 6 = 3 by decide +kernel]
    rfl
  | succ j ih =>
    intro x k acc hx hk h0 h1 h2
    obtain ⟨k, rfl⟩ : ∃ q, k = q + 1 := ⟨k - 1, by omega⟩
    have hx64 : x < 64 := by omega
    rw [shadowboxlaw09_ExtentSets.lo2, if_pos (by omega), if_pos (by rw [wu hx64]; omega)]
    simp only [Sx.lt]
    have hW : W / 2 ^ x < 2 ^ 64 := Nat.lt_of_le_of_lt (Nat.div_le_self _ _) h.lt
    have hb := h.bit x hx64
    rw [Nat.testBit_eq_decide_div_mod_eq] at hb
    have hb' : W / 2 ^ x % 2 = 1 ↔ mem l (x : Int) := decide_eq_decide.1 hb
    have hm2 : W / 2 ^ x % 2 < 2 := Nat.mod_lt _ (by decide)
    rw [shr1 hx64]
    generalize W / 2 ^ x = V at *
    rw [and_u64_one _ (by omega) (by omega), wi64 (n := (V : Int) % 2) (by omega) (by omega), wi64 (n := acc + _) (by omega) (by omega), wi64 (n := (x : Int) + 1) (by omega) (by omega), show ((x : Int) + 1) = ((x + 1 : Nat) : Int) from by omega]
    simp only [cnt] at h2
    rw [show ((x : Int) + 1) = ((x + 1 : Nat) : Int) from by omega] at h2
    refine ih (x + 1) k _ (by omega) (by omega) (by omega) (by omega) ?_
    by_cases hm : mem l (x : Int)
    · have := hb'.2 hm
      rw [if_pos (by simpa using hm)] at h2
      omega
    · have : V % 2 = 0 := by
        have : ¬ V % 2 = 1 := fun h => hm (hb'.1 h)
        omega
      rw [if_neg (by simpa using hm)] at h2
      omega
theorem jo1_val {l : List Sp} {W : Nat} (h : Inv l W) {k : Nat} (hk : 200 < k) : shadowboxlaw09_ExtentSets.jo1 k l (W : Int) = some true := by
  unfold shadowboxlaw09_ExtentSets.jo1
  have := lo2_val h 64 0 k 0 (by omega) (by omega) (Int.le_refl _) (by omega) (by
    rw [Int.zero_add]
    exact cnt_mem 64 0 l h.ok h.le)
  exact this
theorem ExtentSets : S.ExtentSets := by
  intro l hl hw
  refine ⟨1000, ?_⟩
  unfold shadowboxlaw09_ExtentSets.f
  have := lo3_val (l0 := l) (shadowboxlaw09_ExtentSets.jo1 1000) (fun l W h => jo1_val h (by omega)) 60 0 1000 [] 0 (by omega) (by omega) ⟨trivial, fun x hx => (by cases hx), by decide, fun k hk => by
    rw [Nat.zero_testBit]
    exact (decide_eq_false (fun h => h)).symm⟩
  exact this
end Go.Proofs.Ytiikfaefeonfhaa.Pure
