/- The pure statement of LeafBack; no condition. -/
import Derived.Test.YthhhkphbhlafbaaSLeafBack
import Derived.Test.YthhhkphbhlafbaaLrd
set_option linter.unusedVariables false
set_option linter.unusedSimpArgs false
namespace Go.Proofs.Ythhhkphbhlafbaa.Pure
open Go Go.RowKit Go.Proofs.Ythhhkphbhlafbaa.Sx Go.Proofs.Ythhhkphbhlafbaa.G Go.Proofs.Ythhhkphbhlafbaa.Bt Go.Proofs.Ythhhkphbhlafbaa.Rcd Go.Proofs.Ythhhkphbhlafbaa.Stx Go.Proofs.Ythhhkphbhlafbaa.Lfd Go.Proofs.Ythhhkphbhlafbaa.Lfv Go.Proofs.Ythhhkphbhlafbaa.Lrd
open Go.Proofs.Ythhhkphbhlafbaa.Ptr (Pt zp rightB putL)
open Go.Proofs.Ythhhkphbhlafbaa.Ptp (WfP putL_len)
/-! ### Few -/
theorem few_lo2 {a : Lf} (hl : a.2.2.1.length ≤ 9223372036854775807) : ∀ (j i k : Nat) (x : Int), i + j = a.2.2.1.length → j < k → ∃ b, shadowboxlaw16_few.lo2 a k x (i : Int) = some b := by
  intro j
  induction j with
  | zero =>
    intro i k x hi hk
    obtain ⟨k, rfl⟩ : ∃ m, k = m + 1 := ⟨k - 1, by omega⟩
    rw [shadowboxlaw16_few.lo2, if_neg (by omega)]
    exact ⟨_, rfl⟩
  | succ j ih =>
    intro i k x hi hk
    obtain ⟨k, rfl⟩ : ∃ m, k = m + 1 := ⟨k - 1, by omega⟩
    rw [shadowboxlaw16_few.lo2, if_pos (by omega)]
    by_cases h : x < 12000
    · rw [if_pos h, if_pos (by omega)]
      simp only [lt]
      rw [wi64 (n := (i : Int) + 1) (by omega) (by omega)]
      exact ih (i + 1) k _ (by omega) (by omega)
    · rw [if_neg h]; exact ⟨_, rfl⟩
theorem few_lo3 {a : Lf} (hl : a.2.1.length ≤ 9223372036854775807) (J : Int → Option Bool) (hJ : ∀ x, ∃ b, J x = some b) : ∀ (j i k : Nat) (x : Int), i + j = a.2.1.length → j < k → ∃ b, shadowboxlaw16_few.lo3 a J k x (i : Int) = some b := by
  intro j
  induction j with
  | zero =>
    intro i k x hi hk
    obtain ⟨k, rfl⟩ : ∃ m, k = m + 1 := ⟨k - 1, by omega⟩
    rw [shadowboxlaw16_few.lo3, if_neg (by omega)]
    exact hJ _
  | succ j ih =>
    intro i k x hi hk
    obtain ⟨k, rfl⟩ : ∃ m, k = m + 1 := ⟨k - 1, by omega⟩
    rw [shadowboxlaw16_few.lo3, if_pos (by omega)]
    by_cases h : x < 3000
    · rw [if_pos h, if_pos (by omega)]
      simp only [lt]
      rw [wi64 (n := (i : Int) + 1) (by omega) (by omega)]
      exact ih (i + 1) k _ (by omega) (by omega)
    · rw [if_neg h]; exact hJ _
theorem few_val {a : Lf} (h1 : a.2.1.length ≤ 9223372036854775807) (h2 : a.2.2.1.length ≤ 9223372036854775807) {k : Nat} (hk : a.2.1.length + a.2.2.1.length < k) : ∃ b, shadowboxlaw16_few.f k a = some b := by
  unfold shadowboxlaw16_few.f
  simp only [lt]
  exact few_lo3 h1 _ (fun x => few_lo2 h2 a.2.2.1.length 0 k x (by omega) (by omega)) a.2.1.length 0 k _ (by omega) (by omega)
/-! ### Lengths -/
theorem sx1 {v : Int} (h0 : 0 ≤ v) (h1 : v < 128) : (sx v).length = 1 := by
  rw [sx_len h0 (by omega)]
  exact isGr_unique (gr_is h0 (by omega)).2 ⟨by omega, by simp; omega, .inl rfl⟩
theorem sx2 {v : Int} (h0 : 128 ≤ v) (h1 : v < 16384) : (sx v).length = 2 := by
  rw [sx_len (by omega) (by omega)]
  exact isGr_unique (gr_is (by omega) (by omega)).2 ⟨by omega, by simp; omega, .inr (by simp; omega)⟩
theorem sx12 {v : Int} (h0 : 0 ≤ v) (h1 : v < 16384) : 1 ≤ (sx v).length ∧ (sx v).length ≤ 2 := by
  by_cases h : v < 128
  · rw [sx1 h0 h]; omega
  · rw [sx2 (by omega) h1]; omega
noncomputable def wt (a : Lf) (i : Nat) : Int := 1 + ((sx ((gk a.2.1 i).length : Int)).length + (gk a.2.1 i).length) + (if a.1 = 0 then ((sx ((gk a.2.2.1 i).length : Int)).length : Int) + (gk a.2.2.1 i).length else 52)
theorem kent_wt {a : Lf} (hs : Sm a) {i : Nat} (hi : i < a.2.1.length) : (kent a i).length ≤ 1 + ((sx ((gk a.2.1 i).length : Int)).length + (gk a.2.1 i).length) := by
  have h1 := hs.ks i hi
  have h2 := (cpl_le (kp a.2.1 i) (gk a.2.1 i)).2
  unfold kent
  generalize cpl (kp a.2.1 i) (gk a.2.1 i) = c at *
  rw [List.length_append, tx, List.length_append, bl_length, son_size, List.length_drop]
  generalize hL : (gk a.2.1 i).length = L at *
  have s1 := sx12 (v := (c : Int)) (by omega) (by omega)
  have s2 := sx12 (v := ((L - c : Nat) : Int)) (by omega) (by omega)
  have s3 := sx12 (v := (L : Int)) (by omega) (by omega)
  by_cases hc : c < 128
  · have := sx1 (v := (c : Int)) (by omega) (by omega)
    by_cases hl : L < 128
    · have := sx1 (v := ((L - c : Nat) : Int)) (by omega) (by omega)
      omega
    · have := sx2 (v := (L : Int)) (by omega) (by omega)
      omega
  · have := sx1 (v := ((L - c : Nat) : Int)) (by omega) (by omega)
    have := sx2 (v := (L : Int)) (by omega) (by omega)
    omega
theorem vent_wt {a : Lf} (i : Nat) : ((vent a i).length : Int) = if a.1 = 0 then ((sx ((gk a.2.2.1 i).length : Int)).length : Int) + (gk a.2.2.1 i).length else 52 := by
  unfold vent
  by_cases h0 : a.1 = 0
  · rw [if_pos h0, if_pos h0, tx, List.length_append, bl_length, son_size]
    omega
  · rw [if_neg h0, if_neg h0, putL_len]
    rfl
theorem text_len {n : Nat} (hn : n ≤ 100000) {k : Nat} (hk : 11 ≤ k) : leaf_text.f k (n : Int) = some (((sx (n : Int)).length : Int) + n) := by
  have s := sx_le (v := (n : Int)) (by omega) (by omega)
  unfold leaf_text.f
  rw [wu64, show (n : Int) % 18446744073709551616 = n by omega, short_is (by simp) (by omega) (by omega) hk]
  simp only [Option.bind_some, lt, List.nil_append]
  rw [wi64 (by omega) (by omega)]
theorem weight0 {a b : List Int} (ha : a.length ≤ 100000) (hb : b.length ≤ 100000) {k : Nat} (hk : 11 ≤ k) : leaf_Weight.f k a b false = some (1 + ((sx (a.length : Int)).length + a.length) + (((sx (b.length : Int)).length : Int) + b.length)) := by
  have s1 := sx_le (v := (a.length : Int)) (by omega) (by omega)
  have s2 := sx_le (v := (b.length : Int)) (by omega) (by omega)
  unfold leaf_Weight.f
  rw [if_neg (by decide), text_len ha hk]
  simp only [Option.bind_some]
  rw [text_len hb hk]
  simp only [Option.bind_some, lt]
  rw [wi64 (n := 1 + (((sx (a.length : Int)).length : Int) + a.length)) (by omega) (by omega), wi64 (by omega) (by omega)]
theorem weight1 {a : List Int} (ha : a.length ≤ 100000) (b : List Int) {k : Nat} (hk : 11 ≤ k) : leaf_Weight.f k a b true = some ((1 : Int) + (((sx (a.length : Int)).length : Int) + a.length) + 52) := by
  have s1 := sx_le (v := (a.length : Int)) (by omega) (by omega)
  unfold leaf_Weight.f
  rw [if_pos rfl, text_len ha hk]
  simp only [Option.bind_some, lt]
  rw [wi64 (n := 1 + (((sx (a.length : Int)).length : Int) + a.length)) (by omega) (by omega), wi64 (by omega) (by omega)]
/-! ### Each key is found -/
theorem bL_app : ∀ (a : List UInt8) (x : UInt8), bL a (a ++ [x]) = true
  | [], x => rfl
  | y :: a, x => by
    rw [List.cons_append, bL_cons]
    exact .inr ⟨rfl, bL_app a x⟩
theorem kb_app (a : List Int) (x : Int) : kb (a ++ [x]) = kb a ++ [UInt8.ofNat x.toNat] := by
  unfold kb
  rw [Lib.toList_data, Lib.toList_data, strOfNums_data, strOfNums_data, List.map_append]
  simp
theorem find_own {a : Lf} (hn : a.2.1.length ≤ 4096) (ha : Asc a.2.1) {i : Nat} (hi : i < a.2.1.length) {k : Nat} (hk : 5000 ≤ k) : leaf_Find.f k a (gk a.2.1 i) = some (i : Int) := by
  obtain ⟨q, e, h1, h2, h3⟩ := find_val (a := a) (by omega) ha (gk a.2.1 i) (k := k) (by omega)
  have hq : q = i := by
    by_cases c1 : q < i
    · have e1 := h3 q (Nat.le_refl _) (by omega)
      have e2 := ha.lt c1 hi
      rw [show bL (ka a.2.1 q) (kb (gk a.2.1 i)) = true from e2] at e1
      cases e1
    · by_cases c2 : i < q
      · have e1 := h2 i c2
        rw [show bL (ka a.2.1 i) (kb (gk a.2.1 i)) = false from bL_irr _] at e1
        cases e1
      · omega
  subst hq
  rw [e, if_pos ⟨hi, rfl⟩]
theorem find_next {a : Lf} (hn : a.2.1.length ≤ 4096) (ha : Asc a.2.1) {i : Nat} (hi : i < a.2.1.length) {k : Nat} (hk : 5000 ≤ k) : ∃ r, leaf_Find.f k a (gk a.2.1 i ++ [0]) = some r ∧ (i : Int) ≤ r := by
  obtain ⟨q, e, h1, h2, h3⟩ := find_val (a := a) (by omega) ha (gk a.2.1 i ++ [0]) (k := k) (by omega)
  have hq : i < q := by
    by_cases c : i < q
    · exact c
    · have e1 := h3 i (by omega) hi
      rw [kb_app] at e1
      rw [show bL (ka a.2.1 i) (kb (gk a.2.1 i) ++ [UInt8.ofNat (0 : Int).toNat]) = true from bL_app _ _] at e1
      cases e1
  exact ⟨_, e, by split <;> omega⟩
/-! ### The law -/
theorem jo6_val {a : Lf} (hs : Sm a) {i : Nat} (hi : i < a.2.1.length) {x : Int} (hx : 0 ≤ x ∧ x ≤ 100000000) {k : Nat} (hk : 5000 ≤ k) (e : Int) (g : Int → Int → Option Bool) : shadowboxlaw16_LeafBack.jo6 a (a, e) x (i : Int) k g = g (x + wt a i) ((i + 1 : Nat) : Int) := by
  have hn := hs.n
  have h1 := hs.ks i hi
  have s1 := sx_le (v := ((gk a.2.1 i).length : Int)) (by omega) (by omega)
  unfold shadowboxlaw16_LeafBack.jo6 wt
  by_cases h0 : a.1 = 0
  · have hv := hs.v h0
    have h2 := hs.vs i (by omega)
    have s2 := sx_le (v := ((gk a.2.2.1 i).length : Int)) (by omega) (by omega)
    rw [if_pos h0, if_pos h0, if_pos (by omega), if_pos (by show (i : Int) < (a.2.2.1.length : Int); omega)]
    simp only [lt]
    rw [if_pos (by omega), if_pos (by simp), if_pos (by omega), Int.toNat_natCast]
    rw [show leaf_Weight.f k (a.2.1.getD i []) (a.2.2.1.getD i []) false = some (1 + ((sx ((gk a.2.1 i).length : Int)).length + (gk a.2.1 i).length) + (((sx ((gk a.2.2.1 i).length : Int)).length : Int) + (gk a.2.2.1 i).length)) from weight0 (a := gk a.2.1 i) (b := gk a.2.2.1 i) (by omega) (by omega) (by omega)]
    simp only [Option.bind_some]
    rw [wi64 (n := (i : Int) + 1) (by omega) (by omega), wi64 (by omega) (by omega)]
    rfl
  · have hp := hs.p h0
    rw [if_neg h0, if_neg h0, if_pos (by omega), if_pos (by show (i : Int) < (a.2.2.2.length : Int); omega), if_pos (by omega), if_pos (by simp), if_pos (by omega), Int.toNat_natCast]
    rw [show leaf_Weight.f k (a.2.1.getD i []) ([] : List Int) true = some ((1 : Int) + (((sx ((gk a.2.1 i).length : Int)).length : Int) + (gk a.2.1 i).length) + 52) from weight1 (a := gk a.2.1 i) (by omega) [] (by omega)]
    simp only [Option.bind_some]
    rw [wi64 (n := (i : Int) + 1) (by omega) (by omega), wi64 (by omega) (by omega)]
    rfl
theorem jo5_val {a : Lf} (hs : Sm a) (ha : Asc a.2.1) {i : Nat} (hi : i < a.2.1.length) {x : Int} (hx : 0 ≤ x ∧ x ≤ 100000000) {k : Nat} (hk : 5000 ≤ k) (e : Int) (g : Int → Int → Option Bool) : shadowboxlaw16_LeafBack.jo5 a (a, e) x (i : Int) k g = g (x + wt a i) ((i + 1 : Nat) : Int) := by
  have hn := hs.n
  have h1 := hs.ks i hi
  unfold shadowboxlaw16_LeafBack.jo5
  rw [if_pos (by omega), if_pos (by show (i : Int) < (a.2.1.length : Int); omega)]
  simp only [lt, Int.toNat_natCast]
  rw [if_pos (by omega), if_pos (by simp)]
  rw [show leaf_Find.f k ((a, e).1.1, (a, e).1.2.1, (a, e).1.2.2.1, (a, e).1.2.2.2) (a.2.1.getD i []) = some (i : Int) from find_own hn.2 ha hi hk]
  simp only [Option.bind_some, List.nil_append]
  obtain ⟨r, e1, hr⟩ := find_next hn.2 ha hi hk
  have hl : (a.2.1.getD i []).length ≤ 160 := h1
  rw [if_pos True.intro, if_pos (by rw [List.length_nil]; omega), if_pos (by show ((a.2.1.getD i []).length + 1) * 1 ≤ _; omega), show leaf_Find.f k (a.1, a.2.1, a.2.2.1, a.2.2.2) (a.2.1.getD i [] ++ [0]) = some r from e1]
  simp only [Option.bind_some]
  rw [if_neg (by omega)]
  exact jo6_val hs hi hx hk e g
theorem wt_le {a : Lf} (hs : Sm a) {i : Nat} (hi : i < a.2.1.length) : 0 ≤ wt a i ∧ wt a i ≤ 2000 := by
  have h1 := hs.ks i hi
  have s1 := sx_le (v := ((gk a.2.1 i).length : Int)) (by omega) (by omega)
  unfold wt
  by_cases h0 : a.1 = 0
  · have hv := hs.v h0
    have h2 := hs.vs i (by omega)
    have s2 := sx_le (v := ((gk a.2.2.1 i).length : Int)) (by omega) (by omega)
    rw [if_pos h0]
    omega
  · rw [if_neg h0]
    omega
theorem back_lo4 {a : Lf} (hs : Sm a) (ha : Asc a.2.1) (hle : (enc a).length ≤ 4096) (e f : Int) : ∀ (j i k : Nat) (x : Int), i + j = a.2.1.length → j + 6000 < k → 0 ≤ x → x ≤ 4 + 2000 * (i : Int) → ((enc a).length : Int) ≤ x + (ents a j i).length → shadowboxlaw16_LeafBack.lo4 a (enc a, f) (a, e) k x (i : Int) = some true := by
  have hn := hs.n
  intro j
  induction j with
  | zero =>
    intro i k x hi hk h0 h1 h2
    obtain ⟨k, rfl⟩ : ∃ m, k = m + 1 := ⟨k - 1, by omega⟩
    rw [ents, List.length_nil] at h2
    rw [shadowboxlaw16_LeafBack.lo4, if_neg (by omega), if_pos (by show ((enc a).length : Int) ≤ x; omega)]
    exact congrArg some (decide_eq_true (by show ((enc a).length : Int) ≤ 4096; omega))
  | succ j ih =>
    intro i k x hi hk h0 h1 h2
    obtain ⟨k, rfl⟩ : ∃ m, k = m + 1 := ⟨k - 1, by omega⟩
    have hi' : i < a.2.1.length := by omega
    have w := wt_le hs hi'
    rw [shadowboxlaw16_LeafBack.lo4, if_pos (by omega), jo5_val hs ha hi' (by omega) (by omega)]
    refine ih (i + 1) k (x + wt a i) (by omega) (by omega) (by omega) (by omega) ?_
    have w1 := kent_wt hs hi'
    have w2 := vent_wt (a := a) i
    rw [ents, List.length_append, List.length_append] at h2
    have w3 : ((kent a i).length : Int) + (vent a i).length ≤ wt a i := by
      unfold wt
      rw [w2]
      generalize (kent a i).length = y at *
      omega
    generalize (kent a i).length = y at *
    generalize (vent a i).length = z at *
    generalize (ents a j (i + 1)).length = q at *
    generalize (enc a).length = v at *
    omega
theorem one_put {k : Nat} (hk : 20000 ≤ k) : ∃ b, leaf_Put.f k ((0 : Int), [([] : List Int)], [([] : List Int)], ([] : List (Int × Int × Int × Int × (Vc Int 32)))) = some (b, 0) ∧ b.length = 5 := by
  have hs : shp ((0 : Int), [([] : List Int)], [([] : List Int)], ([] : List (Int × Int × Int × Int × (Vc Int 32)))) = true := by decide
  have hl : (enc ((0 : Int), [([] : List Int)], [([] : List Int)], ([] : List (Int × Int × Int × Int × (Vc Int 32))))).length = 5 := by
    have e0 : (sx 0).length = 1 := sx1 (by decide) (by decide)
    have e1 : (sx 1).length = 1 := sx1 (by decide) (by decide)
    have e2 : (tx (strOfNums [])).length = 1 := by
      rw [tx, List.length_append, bl_length, son_size]
      exact congrArg (· + 0) e0
    have e3 : kent ((0 : Int), [([] : List Int)], [([] : List Int)], ([] : List (Int × Int × Int × Int × (Vc Int 32)))) 0 = sx 0 ++ tx (strOfNums []) := rfl
    have e4 : vent ((0 : Int), [([] : List Int)], [([] : List Int)], ([] : List (Int × Int × Int × Int × (Vc Int 32)))) 0 = tx (strOfNums []) := by unfold vent; rw [if_pos rfl]; rfl
    show (sx (u 0) ++ (sx 1 ++ (kent _ 0 ++ (vent _ 0 ++ [])))).length = 5
    rw [e3, e4, show u 0 = 0 by decide]
    simp only [List.length_append, List.length_nil, e0, e1, e2]
  refine ⟨_, ?_, hl⟩
  rw [put_val hk]
  unfold putS
  rw [if_pos hs, if_neg (by rw [hl]; decide)]
theorem LeafBack : S.LeafBack := by
  intro a ha
  have h1 : a.2.1.length ≤ 9223372036854775807 := ha.2.1.1
  have h2 : a.2.2.1.length ≤ 9223372036854775807 := ha.2.2.1.1
  have hw : Wf a := ⟨fun x hx => bytes_of (ha.2.1.2 x hx).2, fun x hx => bytes_of (ha.2.2.1.2 x hx).2, fun x hx => by
    have h := ha.2.2.2.2 x hx
    refine ⟨?_, bytes_of h.2.2.2.2⟩
    have := h.2.2.2.1
    simp only [Lit.wf, IntKind.min, IntKind.max, IntKind.signed, IntKind.bits, Bool.and_eq_true] at this
    simp at this
    omega⟩
  refine ⟨a.2.1.length + a.2.2.1.length + 30000, ?_⟩
  generalize hk : a.2.1.length + a.2.2.1.length + 30000 = k
  unfold shadowboxlaw16_LeafBack.f
  obtain ⟨b, e⟩ := few_val h1 h2 (k := k) (by omega)
  rw [show shadowboxlaw16_few.f k (a.1, a.2.1, a.2.2.1, a.2.2.2) = some b from e]
  simp only [Option.bind_some]
  cases b
  case false => rfl
  rw [if_pos rfl]
  unfold shadowboxlaw16_LeafBack.jo1
  rw [show leaf_Put.f k (a.1, a.2.1, a.2.2.1, a.2.2.2) = some (putS a) from put_val (a := a) (by omega)]
  simp only [Option.bind_some]
  by_cases hr : rok a = true
  · obtain ⟨hr1, hr2⟩ := rok_sm hr
    obtain ⟨hs, hasc, _⟩ := shp_sm hr1
    have hn := hs.n
    have hlv := hs.lvl
    have hp : putS a = (enc a, 0) := by unfold putS; rw [if_pos hr1, if_neg (by omega)]
    rw [hp, if_pos rfl]
    unfold shadowboxlaw16_LeafBack.jo2
    rw [show leaf_Read.f k (enc a, (0 : Int)).1 = some (a, 0) from read_back hr hw (by omega)]
    simp only [Option.bind_some]
    rw [if_pos True.intro, if_pos True.intro, if_pos True.intro, if_pos True.intro, if_pos True.intro]
    unfold shadowboxlaw16_LeafBack.jo3
    refine back_lo4 hs hasc hr2 0 0 a.2.1.length 0 k 4 (by omega) (by omega) (by omega) (by omega) ?_
    have e1 : (sx (u a.1)).length = 1 := sx1 (u0 _) (by unfold u; omega)
    have e2 := sx12 (v := (a.2.1.length : Int)) (by omega) (by omega)
    rw [enc, List.length_append, List.length_append, e1]
    generalize (ents a a.2.1.length 0).length = q
    omega
  · have hp : ∃ c, putS a = ([], c) ∧ c ≠ 0 := by
      unfold putS
      by_cases hr1 : shp a = true
      · rw [if_pos hr1]
        have : ¬ ((enc a).length : Int) ≤ 4096 := fun h => hr (by unfold rok; rw [hr1, decide_eq_true h]; rfl)
        rw [if_pos (by omega)]
        exact ⟨_, rfl, by decide⟩
      · rw [if_neg hr1]
        exact ⟨_, rfl, by decide⟩
    obtain ⟨c, hp, hc⟩ := hp
    obtain ⟨o, e1, e2⟩ := one_put (k := k) (by omega)
    rw [hp, if_neg hc, e1]
    simp only [Option.bind_some]
    rw [if_pos (by simp), show leaf_Right.f k (a.1, a.2.1, a.2.2.1, a.2.2.2) = some (rok a) from right_val (a := a) (by omega)]
    simp only [Option.bind_some]
    rw [if_neg hr, if_pos True.intro, e2]
    rfl
end Go.Proofs.Ythhhkphbhlafbaa.Pure
