/- The pure statement of AllocKeeps; no condition. -/
import Derived.Test.YtiikfaefeonfhaaSAllocKeeps
import Derived.Test.YtiikfaefeonfhaaAlv
set_option linter.unusedVariables false
set_option linter.unusedSimpArgs false
namespace Go.Proofs.Ytiikfaefeonfhaa.Pure
open Go Go.RowKit Go.Proofs.Ytiikfaefeonfhaa.Sx Go.Proofs.Ytiikfaefeonfhaa.G Go.Proofs.Ytiikfaefeonfhaa.Bt Go.Proofs.Ytiikfaefeonfhaa.Ext Go.Proofs.Ytiikfaefeonfhaa.Exv Go.Proofs.Ytiikfaefeonfhaa.Exm Go.Proofs.Ytiikfaefeonfhaa.Alv

def frm (n c : Nat) : List Sp := if c < n then [((c : Int), (n : Int))] else []
theorem frm_sm {n : Nat} (hn : n ≤ 63) (c : Nat) : Sm (frm n c) := by
  unfold frm
  split
  · exact ⟨⟨by simp only []; omega, by simp only []; omega, trivial⟩, fun x hx => by
      have : x = ((c : Int), (n : Int)) := by simpa using hx
      subst this
      simp only []
      omega⟩
  · exact Sm.nil
theorem frm_vb {n : Nat} (hn : n ≤ 63) (c : Nat) : vb (-1) (frm n c) = true := vb_vd.2 (frm_sm hn c).vd
theorem frm_tot {n c : Nat} (hn : n ≤ 63) (hc : c ≤ n) : totV (frm n c) = (n : Int) - c := by
  unfold totV
  rw [if_pos (frm_vb hn c)]
  unfold frm
  split
  · simp [tot]
  · simp only [tot]; omega
theorem frm_new {n : Nat} (hn : n ≤ 63) : addV [] ((0 : Int), (n : Int)) = frm n 0 := by
  unfold addV frm
  rw [if_pos (show vb (-1) [] = true from rfl)]
  by_cases h : 0 < n
  · rw [if_pos (show rt ((0 : Int), (n : Int)) = true from decide_eq_true ⟨by simp only []; omega, by simp only []; omega, by simp only []; omega⟩), if_pos h]
    rfl
  · rw [if_neg h, if_neg (fun h2 => by have h3 := of_decide_eq_true h2; simp only [] at h3; omega)]
theorem frm_take {n c : Nat} (hn : n ≤ 63) : takeF (frm n c) 1 = if c < n then ((c : Int), 0, frm n (c + 1)) else (0, 15, frm n c) := by
  have hv := frm_vb hn c
  unfold takeF fndV
  rw [if_neg (show ¬ (1 : Int) < 1 by decide), if_pos hv]
  by_cases h : c < n
  · have e : frm n c = [((c : Int), (n : Int))] := by unfold frm; rw [if_pos h]
    rw [if_pos h, e]
    have e2 : fnd 1 [((c : Int), (n : Int))] = (c : Int) := by rw [fnd, if_pos (by simp only []; omega)]
    rw [e2, if_neg (by omega)]
    have e3 : remV [((c : Int), (n : Int))] ((c : Int), (c : Int) + 1) = frm n (c + 1) := by
      unfold remV
      rw [if_pos (e ▸ hv), if_pos (show rt ((c : Int), (c : Int) + 1) = true from decide_eq_true ⟨by simp only []; omega, by simp only []; omega, by simp only []; omega⟩)]
      unfold rem frm
      rw [if_neg (by simp only []; omega), if_neg (by simp only []; omega)]
      by_cases h2 : c + 1 < n
      · rw [if_pos (by simp only []; omega), if_pos h2]
        rfl
      · rw [if_neg (by simp only []; omega), if_neg h2]
        rfl
    rw [e3]
  · have e : frm n c = [] := by unfold frm; rw [if_neg h]
    rw [if_neg h, e]
    rfl
def st (n : Nat) (r : Int) (c : Nat) (w : List Sp) : Al := mk ((0 : Int), (n : Int)) r (frm n c) w
theorem take_kept {n q : Nat} {r : Int} (hn : n ≤ 63) (hq : (q : Int) = n - r) (hr : 0 ≤ r) (w : List Sp) {c k : Nat} (hc : c ≤ q) (hk : 1100 < k) : alloc_Alloc_Take.f k (st n r c w) (wOf []) 1 false = some (if c < q then ((c : Int), 0, st n r (c + 1) w) else (0, 15, st n r c w)) := by
  unfold st
  rw [Take_kept (frm_sm hn c) (by decide) (by decide) hk, frm_tot hn (by omega), frm_take hn]
  by_cases h : c < q
  · rw [if_neg (show ¬ (n : Int) - c - 1 < r by omega), if_pos h, if_pos (show c < n by omega)]
  · rw [if_pos (show (n : Int) - c - 1 < r by omega), if_neg h]
theorem take_spare {n : Nat} {r : Int} (hn : n ≤ 63) (w : List Sp) {c k : Nat} (hk : 1100 < k) : alloc_Alloc_Take.f k (st n r c w) (wOf []) 1 true = some (if c < n then ((c : Int), 0, st n r (c + 1) w) else (0, 15, st n r c w)) := by
  unfold st
  rw [Take_spare (frm_sm hn c) (by decide) (by decide) hk, frm_take hn]
  by_cases h : c < n
  · rw [if_pos h, if_pos h]
  · rw [if_neg h, if_neg h]
theorem lo5_val {n q : Nat} {r : Int} (hn : n ≤ 63) (hq : (q : Int) = n - r) (hr : 0 ≤ r) (hr2 : r ≤ n) (a0 : Int) (ha : bits .and .i64 a0 63 = (n : Int)) (w : List Sp) (z : Int) (t : Al) (jo : Int → Al → Option Bool) : ∀ (j i k c : Nat), i + j = n + 2 → j + 1200 < k → c ≤ q →
    shadowboxlaw10_AllocKeeps.lo5 a0 ((t, wOf []), z) jo k (c : Int) (i : Int) (st n r c w) = jo ((min (c + j) q : Nat) : Int) (st n r (min (c + j) q) w) := by
  intro j
  induction j with
  | zero =>
    intro i k c hi hk hc
    obtain ⟨k, rfl⟩ : ∃ q, k = q + 1 := ⟨k - 1, by omega⟩
    rw [shadowboxlaw10_AllocKeeps.lo5]
    simp only [Sx.lt, ha]
    rw [wi64 (by omega) (by omega), if_neg (show ¬ (i : Int) < n + 2 by omega), show min (c + 0) q = c by omega]
  | succ j ih =>
    intro i k c hi hk hc
    obtain ⟨k, rfl⟩ : ∃ q, k = q + 1 := ⟨k - 1, by omega⟩
    rw [shadowboxlaw10_AllocKeeps.lo5]
    simp only [Sx.lt, ha]
    rw [wi64 (n := (n : Int) + 2) (by omega) (by omega), if_pos (show (i : Int) < n + 2 by omega)]
    show (alloc_Alloc_Take.f k (st n r c w) (wOf []) 1 false).bind _ = _
    rw [take_kept hn hq hr w hc (by omega), Option.bind_some]
    have hw : IntKind.wrap .i64 ((i : Int) + 1) = ((i + 1 : Nat) : Int) := by rw [wi64 (by omega) (by omega)]; omega
    have hwc : IntKind.wrap .i64 ((c : Int) + 1) = ((c + 1 : Nat) : Int) := by rw [wi64 (by omega) (by omega)]; omega
    by_cases h : c < q
    · rw [if_pos h]
      show (if (0 : Int) = 0 then shadowboxlaw10_AllocKeeps.lo5 a0 ((t, wOf []), z) jo k (IntKind.wrap .i64 ((c : Int) + 1)) (IntKind.wrap .i64 ((i : Int) + 1)) (st n r (c + 1) w) else shadowboxlaw10_AllocKeeps.lo5 a0 ((t, wOf []), z) jo k (c : Int) (IntKind.wrap .i64 ((i : Int) + 1)) (st n r (c + 1) w)) = _
      rw [if_pos rfl, hw, hwc, ih (i + 1) k (c + 1) (by omega) (by omega) (by omega), show c + 1 + j = c + (j + 1) by omega]
    · rw [if_neg h]
      show (if (15 : Int) = 0 then shadowboxlaw10_AllocKeeps.lo5 a0 ((t, wOf []), z) jo k (IntKind.wrap .i64 ((c : Int) + 1)) (IntKind.wrap .i64 ((i : Int) + 1)) (st n r c w) else shadowboxlaw10_AllocKeeps.lo5 a0 ((t, wOf []), z) jo k (c : Int) (IntKind.wrap .i64 ((i : Int) + 1)) (st n r c w)) = _
      rw [if_neg (by decide), hw, ih (i + 1) k c (by omega) (by omega) hc, show min (c + j) q = min (c + (j + 1)) q by omega]
theorem lo4_val {n q : Nat} {r : Int} (hn : n ≤ 63) (a0 : Int) (ha : bits .and .i64 a0 63 = (n : Int)) (w : List Sp) (z : Int) (t : Al) (jo : Int → Al → Option Bool) : ∀ (j i k c : Nat), i + j = n + 2 → j + 1200 < k → c ≤ n → q ≤ c →
    shadowboxlaw10_AllocKeeps.lo4 a0 ((t, wOf []), z) jo k ((c - q : Nat) : Int) (i : Int) (st n r c w) = jo ((min (c + j) n - q : Nat) : Int) (st n r (min (c + j) n) w) := by
  intro j
  induction j with
  | zero =>
    intro i k c hi hk hc hqc
    obtain ⟨k, rfl⟩ : ∃ q, k = q + 1 := ⟨k - 1, by omega⟩
    rw [shadowboxlaw10_AllocKeeps.lo4]
    simp only [Sx.lt, ha]
    rw [wi64 (by omega) (by omega), if_neg (show ¬ (i : Int) < n + 2 by omega), show min (c + 0) n = c by omega]
  | succ j ih =>
    intro i k c hi hk hc hqc
    obtain ⟨k, rfl⟩ : ∃ q, k = q + 1 := ⟨k - 1, by omega⟩
    rw [shadowboxlaw10_AllocKeeps.lo4]
    simp only [Sx.lt, ha]
    rw [wi64 (n := (n : Int) + 2) (by omega) (by omega), if_pos (show (i : Int) < n + 2 by omega)]
    show (alloc_Alloc_Take.f k (st n r c w) (wOf []) 1 true).bind _ = _
    rw [take_spare hn w (by omega), Option.bind_some]
    have hw : IntKind.wrap .i64 ((i : Int) + 1) = ((i + 1 : Nat) : Int) := by rw [wi64 (by omega) (by omega)]; omega
    have hwc : IntKind.wrap .i64 (((c - q : Nat) : Int) + 1) = ((c + 1 - q : Nat) : Int) := by rw [wi64 (by omega) (by omega)]; omega
    by_cases h : c < n
    · rw [if_pos h]
      show (if (0 : Int) = 0 then shadowboxlaw10_AllocKeeps.lo4 a0 ((t, wOf []), z) jo k (IntKind.wrap .i64 (((c - q : Nat) : Int) + 1)) (IntKind.wrap .i64 ((i : Int) + 1)) (st n r (c + 1) w) else shadowboxlaw10_AllocKeeps.lo4 a0 ((t, wOf []), z) jo k ((c - q : Nat) : Int) (IntKind.wrap .i64 ((i : Int) + 1)) (st n r (c + 1) w)) = _
      rw [if_pos rfl, hw, hwc, ih (i + 1) k (c + 1) (by omega) (by omega) (by omega) (by omega), show c + 1 + j = c + (j + 1) by omega]
    · rw [if_neg h]
      show (if (15 : Int) = 0 then shadowboxlaw10_AllocKeeps.lo4 a0 ((t, wOf []), z) jo k (IntKind.wrap .i64 (((c - q : Nat) : Int) + 1)) (IntKind.wrap .i64 ((i : Int) + 1)) (st n r c w) else shadowboxlaw10_AllocKeeps.lo4 a0 ((t, wOf []), z) jo k ((c - q : Nat) : Int) (IntKind.wrap .i64 ((i : Int) + 1)) (st n r c w)) = _
      rw [if_neg (by decide), hw, ih (i + 1) k c (by omega) (by omega) hc hqc, show min (c + j) n = min (c + (j + 1)) n by omega]
theorem and63 (a : Int) : 0 ≤ bits .and .i64 a 63 ∧ bits .and .i64 a 63 ≤ 63 := by
  have h : 0 ≤ bits .and .i64 a ((63 : Nat) : Int) ∧ bits .and .i64 a ((63 : Nat) : Int) ≤ ((63 : Nat) : Int) := by
    simp only [bits, bvi]
    have h1 : (BitVec.ofInt IntKind.i64.bits a &&& BitVec.ofNat IntKind.i64.bits 63).toNat ≤ 63 := by
      rw [BitVec.toNat_and]
      refine Nat.le_trans Nat.and_le_right ?_
      simp only [BitVec.toNat_ofNat]
      exact Nat.mod_le _ _
    rw [wi64 (by omega) (by omega)]
    omega
  exact h
theorem AllocKeeps : S.AllocKeeps := by
  intro a0 a1 h0 h1
  refine ⟨5000, ?_⟩
  obtain ⟨b1, b2⟩ := and63 a0
  obtain ⟨n, hn⟩ : ∃ n : Nat, bits .and .i64 a0 63 = (n : Int) := ⟨(bits .and .i64 a0 63).toNat, by omega⟩
  have hn63 : n ≤ 63 := by omega
  have w1 : -9223372036854775808 ≤ a1 ∧ a1 < 9223372036854775808 := by
    simp only [Lit.wf, IntKind.min, IntKind.max, IntKind.bits, IntKind.signed, Bool.and_eq_true, decide_eq_true_eq, if_true] at h1
    omega
  unfold shadowboxlaw10_AllocKeeps.f
  simp only [Sx.lt, hn]
  have ht : -((n : Int) + 1) < Int.tmod a1 ((n : Int) + 1) ∧ Int.tmod a1 ((n : Int) + 1) < (n : Int) + 1 := ⟨by have := Int.lt_tmod_of_pos a1 (show (0 : Int) < (n : Int) + 1 by omega); omega, Int.tmod_lt_of_pos a1 (by omega)⟩
  rw [wi64 (n := (n : Int) + 1) (by omega) (by omega), if_pos (by omega), wi64 (n := Int.tmod a1 ((n : Int) + 1) + n) (by omega) (by omega), if_pos (by omega), wi64 (n := Int.tmod a1 ((n : Int) + 1) + n + 1) (by omega) (by omega)]
  obtain ⟨r, hr⟩ : ∃ r, Int.tmod (Int.tmod a1 ((n : Int) + 1) + n + 1) ((n : Int) + 1) = r := ⟨_, rfl⟩
  rw [hr]
  have hr0 : 0 ≤ r ∧ r ≤ n := by
    rw [tm _ (by omega)] at hr
    have := Int.emod_nonneg (Int.tmod a1 ((n : Int) + 1) + n + 1) (show (n : Int) + 1 ≠ 0 by omega)
    have := Int.emod_lt_of_pos (Int.tmod a1 ((n : Int) + 1) + n + 1) (show (0 : Int) < (n : Int) + 1 by omega)
    omega
  obtain ⟨q, hq⟩ : ∃ q : Nat, (q : Int) = n - r := ⟨((n : Int) - r).toNat, by omega⟩
  rw [New_val (by decide) (by omega) (by omega) hr0.1 (by omega) (by omega), Option.bind_some, if_pos rfl, frm_new hn63]
  unfold shadowboxlaw10_AllocKeeps.jo1
  have e1 := lo5_val hn63 hq hr0.1 hr0.2 a0 hn (frm n 0) 0 (mk ((0 : Int), (n : Int)) r (frm n 0) (frm n 0)) (shadowboxlaw10_AllocKeeps.jo2 5000 a0 r ((mk ((0 : Int), (n : Int)) r (frm n 0) (frm n 0), wOf []), 0)) (n + 2) 0 5000 0 (by omega) (by omega) (by omega)
  rw [show min (0 + (n + 2)) q = q by omega] at e1
  refine Eq.trans e1 ?_
  unfold shadowboxlaw10_AllocKeeps.jo2
  have e2 := lo4_val (q := q) (r := r) hn63 a0 hn (frm n 0) 0 (mk ((0 : Int), (n : Int)) r (frm n 0) (frm n 0)) (shadowboxlaw10_AllocKeeps.jo3 5000 a0 r ((mk ((0 : Int), (n : Int)) r (frm n 0) (frm n 0), wOf []), 0) (q : Int)) (n + 2) 0 5000 q (by omega) (by omega) (by omega) (Nat.le_refl _)
  rw [show min (q + (n + 2)) n = n by omega, show q - q = 0 by omega] at e2
  refine Eq.trans e2 ?_
  unfold shadowboxlaw10_AllocKeeps.jo3
  show (alloc_Alloc_Take.f 5000 (st n r n (frm n 0)) (wOf []) 1 true).bind _ = _
  rw [take_spare hn63 _ (by omega), Option.bind_some, if_neg (show ¬ n < n by omega)]
  simp only [Sx.lt, hn]
  unfold st
  rw [show IntKind.wrap .i64 ((n : Int) - r) = (q : Int) by rw [wi64 (by omega) (by omega)]; omega, if_pos rfl, if_pos (show ((n - q : Nat) : Int) = r by omega)]
  show (alloc_Alloc_Used.f 5000 (mk ((0 : Int), (n : Int)) r (frm n n) (frm n 0)) (wOf [])).bind _ = _
  rw [Used_val ⟨Int.le_refl 0, by simp only []; omega, by simp only []; omega⟩ (frm_sm hn63 n) (fun s hs => by cases hs) (by simp) (by omega), Option.bind_some, frm_tot hn63 (Nat.le_refl _)]
  simp only [decide_true]
  rw [if_pos (by show (n : Int) - 0 - ((n : Int) - n) - totV [] = n; have : totV [] = 0 := rfl; omega)]
end Go.Proofs.Ytiikfaefeonfhaa.Pure
