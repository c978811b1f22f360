/- Blocks on a disk: what the program computes; no condition. -/
import Derived.Test.YtbidihabicgedaaDkv
import Derived.Test.YtbidihabicgedaaPtc
set_option linter.unusedVariables false
set_option linter.unusedSimpArgs false
namespace Go.Proofs.Ytbidihabicgedaa.Blk
open Go Go.RowKit Go.Proofs.Ytbidihabicgedaa.Sx Go.Proofs.Ytbidihabicgedaa.G Go.Proofs.Ytbidihabicgedaa.Bt Go.Proofs.Ytbidihabicgedaa.Cod Go.Proofs.Ytbidihabicgedaa.Ptr Go.Proofs.Ytbidihabicgedaa.Dkv

def rdS (w : Mr) (i : Int) : Vc Int 512 := (mget i w.1).getD (w.2.getD i.toNat zs)
theorem bkRead_val (d : Dk) {w : Mr} {i : Int} (h : 0 ≤ i ∧ i < w.2.length) (k : Nat) : disk_Disk_Read.f k d w i = some ((rdS w i).1, 0) := by
  show (disk_Disk_check.f k _ w i).bind _ = _
  rw [Dkv.check_val _ _ h, Option.bind_some, if_pos rfl]
  unfold rdS
  cases hm : mget i w.1 with
  | none => rw [if_neg (by simp), if_pos h.1, if_pos h.2]; rfl
  | some v => rw [if_pos (by simp)]; rfl
def chk (w : Mr) (a : Pt) : Int := if (w.2.length : Int) = 0 then 1 else if rightB a = true then (if a.1 + secs a.2.2.1 > w.2.length then 2 else 0) else 2
theorem rightB_iff (a : Pt) : rightB a = true ↔ 1 ≤ a.2.1 ∧ a.2.1 ≤ 1152921504606846976 ∧ 1 ≤ a.2.2.1 ∧ a.2.2.1 ≤ 65536 ∧ 2 ≤ a.1 ∧ a.1 + secs a.2.2.1 ≤ 8192 := by unfold rightB; exact decide_eq_true_iff
theorem bcheck_val (d : Dk) (w : Mr) (a : Pt) (k : Nat) : block_check.f k d w a = some (chk w a) := by
  show (disk_Disk_Len.f k _ w).bind _ = _
  show (some (w.2.length : Int)).bind _ = _
  rw [Option.bind_some]
  unfold chk
  by_cases h0 : (w.2.length : Int) = 0
  · rw [if_pos h0, if_pos h0]
  · rw [if_neg h0, if_neg h0, Right_val, Option.bind_some]
    by_cases hr : rightB a = true
    · have hb := (rightB_iff a).1 hr
      have hs := secs_bound a.2.2.1
      rw [if_pos hr, if_pos hr, Sectors_val, Option.bind_some]
      show (if IntKind.wrap .i64 (a.1 + secs a.2.2.1) > (w.2.length : Int) then _ else _) = _
      rw [wi64 (by omega) (by omega)]
      split <;> rfl
    · rw [if_neg hr, if_neg hr]
/-- The bytes of one sector. -/
def sec (l : List Int) (i : Nat) : List Int := (l.drop (i * 512)).take 512
theorem sec_cut (l : List Int) (i : Nat) : (l.take (min ((i + 1) * 512) l.length)).drop (i * 512) = sec l i := by
  unfold sec
  rw [List.drop_take]
  by_cases h : (i + 1) * 512 ≤ l.length
  · rw [Nat.min_eq_left h, show (i + 1) * 512 - i * 512 = 512 by omega]
  · rw [Nat.min_eq_right (by omega)]
    rw [List.take_of_length_le (by simp), List.take_of_length_le (by simp; omega)]
theorem sec_len (l : List Int) (i : Nat) : (sec l i).length ≤ 512 := by unfold sec; simp; omega
/-- What waits behind so many sectors more. -/
def wl (a : Int) (l : List Int) : Nat → Nat → List (Int × Vc Int 512) → List (Int × Vc Int 512)
  | 0, _, m => m
  | j + 1, i, m => wl a l j (i + 1) (mput (a + i) (vcopy zs (sec l i)) m)
abbrev dk0 : Dk := mkD false 0 false
theorem wlo_val {a b : Int} {l : List Int} (hb : Bytes l) (hl : l.length ≤ 65536) {n : Nat} (hn : (n : Int) = secs l.length) (h1 : 1 ≤ l.length) {M : List (Vc Int 512)} (ha : 0 ≤ a) (hM : a + n ≤ M.length) (hM2 : M.length ≤ 100000) : ∀ (j i k : Nat) (m : List (Int × Vc Int 512)), i + j = n → j + 300000 ≤ k →
    block_Write.lo3 a b l (n : Int) k (i : Int) dk0 (m, M) = some (ofL a b l, 0, dk0, (wl a l j i m, M)) := by
  have hs := secs_bound (l.length : Int)
  have hn2 : n * 512 < l.length + 512 ∧ l.length ≤ n * 512 := by
    unfold secs at hn
    rw [if_neg (by omega), if_neg (by omega)] at hn
    omega
  intro j
  induction j with
  | zero =>
    intro i k m hi hk
    obtain ⟨k, rfl⟩ : ∃ q, k = q + 1 := ⟨k - 1, by omega⟩
    rw [block_Write.lo3, if_neg (by omega), Of_val a b hb (by omega) (by omega), Option.bind_some]
    rfl
  | succ j ih =>
    intro i k m hi hk
    obtain ⟨k, rfl⟩ : ∃ q, k = q + 1 := ⟨k - 1, by omega⟩
    rw [block_Write.lo3, if_pos (by omega)]
    unfold block_Write.jo4
    simp only [Sx.lt]
    have e1 : IntKind.wrap .i64 (IntKind.wrap .i64 ((i : Int) + 1) * 512) = (((i + 1) * 512 : Nat) : Int) := by rw [wi64 (n := (i : Int) + 1) (by omega) (by omega), wi64 (by omega) (by omega)]; omega
    have e2 : IntKind.wrap .i64 ((i : Int) * 512) = ((i * 512 : Nat) : Int) := by rw [wi64 (by omega) (by omega)]; omega
    have e3 : (if (l.length : Int) < (((i + 1) * 512 : Nat) : Int) then (l.length : Int) else (((i + 1) * 512 : Nat) : Int)) = ((min ((i + 1) * 512) l.length : Nat) : Int) := by split <;> omega
    rw [e1, e2, e3, if_pos (by omega), if_pos (by omega), if_pos (by omega), if_pos (by omega), show (((min ((i + 1) * 512) l.length : Nat) : Int)).toNat = min ((i + 1) * 512) l.length from by omega, show (((i * 512 : Nat) : Int)).toNat = i * 512 from by omega, sec_cut, wi64 (n := a + i) (by omega) (by omega)]
    show (disk_Disk_Write.f k dk0 (m, M) (a + i) (sec l i)).bind _ = _
    rw [Write_val (by decide) (by simp only []; omega) (sec_len l i), Option.bind_some]
    show block_Write.lo3 a b l (n : Int) k (IntKind.wrap .i64 ((i : Int) + 1)) dk0 (mput (a + i) (vcopy zs (sec l i)) m, M) = _
    rw [wi64 (by omega) (by omega), show (i : Int) + 1 = ((i + 1 : Nat) : Int) from by omega, ih (i + 1) k _ (by omega) (by omega)]
    rfl
theorem bWrite_val {a b : Int} {l : List Int} (hb : Bytes l) (hl : l.length ≤ 65536) {m : List (Int × Vc Int 512)} {M : List (Vc Int 512)} (hM : 1 ≤ M.length) (hM2 : M.length ≤ 100000) {k : Nat} (hk : 400000 ≤ k) :
    block_Write.f k dk0 (m, M) a b l = some (if chk (m, M) (a, b, (l.length : Int), 0, vrep 32 0) = 0 then (ofL a b l, 0, dk0, (wl a l (secs l.length).toNat 0 m, M)) else (zp, chk (m, M) (a, b, (l.length : Int), 0, vrep 32 0), dk0, (m, M))) := by
  have hs := secs_bound (l.length : Int)
  show (some (M.length : Int)).bind _ = _
  rw [Option.bind_some, if_neg (by omega)]
  show (block_check.f k dk0 (m, M) (a, b, (l.length : Int), 0, vrep 32 0)).bind _ = _
  rw [bcheck_val, Option.bind_some]
  by_cases hc : chk (m, M) (a, b, (l.length : Int), 0, vrep 32 0) = 0
  · rw [if_pos hc, if_pos hc]
    have hr : rightB (a, b, (l.length : Int), 0, vrep 32 0) = true ∧ a + secs l.length ≤ M.length := by
      unfold chk at hc
      rw [if_neg (show ¬ (M.length : Int) = 0 by omega)] at hc
      by_cases h : rightB (a, b, (l.length : Int), 0, vrep 32 0) = true
      · rw [if_pos h] at hc
        refine ⟨h, ?_⟩
        by_cases h2 : a + secs l.length > (M.length : Int)
        · exact absurd ((if_pos h2).symm.trans hc) (by decide)
        · omega
      · rw [if_neg h] at hc
        exact absurd hc (by decide)
    have h6 := (rightB_iff _).1 hr.1
    simp only [] at h6
    show (pointer_Sectors.f k (a, b, (l.length : Int), 0, vrep 32 0)).bind _ = _
    rw [Sectors_val, Option.bind_some]
    show block_Write.lo3 a b l (secs l.length) k 0 dk0 (m, M) = _
    have := wlo_val (a := a) (b := b) hb hl (n := (secs l.length).toNat) (by omega) (by omega) (M := M) (by omega) (by omega) hM2 (secs l.length).toNat 0 k m (by omega) (by omega)
    rw [show (((secs l.length).toNat : Nat) : Int) = secs l.length by omega] at this
    exact this
  · rw [if_neg hc, if_neg hc]
    rfl
/-! ### What is read -/
theorem mget_put (k k' : Int) (v : Vc Int 512) : ∀ l : List (Int × Vc Int 512), mget k (mput k' v l) = if k = k' then some v else mget k l
  | [] => by
    simp only [mput, mget]
    by_cases h : k = k'
    · subst h; simp
    · rw [if_neg (fun e => h e.symm), if_neg h]
  | p :: r => by
    unfold mput
    by_cases h1 : p.1 = k'
    · rw [if_pos h1]
      simp only [mget]
      by_cases h : k = k'
      · subst h; simp
      · rw [if_neg (fun e => h e.symm), if_neg h, if_neg (by omega)]
    · rw [if_neg h1]
      simp only [mget, mget_put k k' v r]
      by_cases h : k = k'
      · subst h; rw [if_neg h1, if_pos rfl, if_pos rfl]
      · rw [if_neg h, if_neg h]
theorem mget_wl (a : Int) (l : List Int) (x : Int) : ∀ (j i : Nat) (m : List (Int × Vc Int 512)), mget x (wl a l j i m) = if a + i ≤ x ∧ x < a + i + j then some (vcopy zs (sec l (x - a).toNat)) else mget x m := by
  intro j
  induction j with
  | zero => intro i m; rw [if_neg (by omega)]; rfl
  | succ j ih =>
    intro i m
    show mget x (wl a l j (i + 1) (mput (a + i) (vcopy zs (sec l i)) m)) = _
    rw [ih, mget_put]
    by_cases h1 : x = a + i
    · subst h1
      rw [if_neg (by omega), if_pos rfl, if_pos (by omega), show (a + (i : Int) - a).toNat = i from by omega]
    · rw [if_neg h1]
      by_cases h2 : a + ((i + 1 : Nat) : Int) ≤ x ∧ x < a + ((i + 1 : Nat) : Int) + j
      · rw [if_pos h2, if_pos (by omega)]
      · rw [if_neg h2, if_neg (by omega)]
theorem wl_len (a : Int) (l : List Int) : ∀ (j i : Nat) (m : List (Int × Vc Int 512)), (∀ p ∈ m, p.1 < a + i) → (wl a l j i m).length = m.length + j := by
  intro j
  induction j with
  | zero => intro i m _; rfl
  | succ j ih =>
    intro i m hm
    have hn : mget (a + i) m = none := mget_none.2 (fun p hp => by have := hm p hp; omega)
    show (wl a l j (i + 1) (mput (a + i) (vcopy zs (sec l i)) m)).length = _
    rw [ih, mput_new hn]
    · simp; omega
    · intro p hp
      rw [mput_new hn] at hp
      rcases List.mem_append.1 hp with h | h
      · have := hm p h; omega
      · have : p = (a + (i : Int), vcopy zs (sec l i)) := by simpa using h
        subst this
        simp only []
        omega
theorem vsec_get (l : List Int) (i : Nat) {k : Nat} (hk : k < 512) : (vcopy zs (sec l i)).1[k]? = some (l.getD (i * 512 + k) 0) := by
  have hl := sec_len l i
  show ((sec l i).take 512 ++ (List.replicate 512 (0 : Int)).drop (sec l i).length)[k]? = _
  rw [List.take_of_length_le hl]
  by_cases h : k < (sec l i).length
  · rw [List.getElem?_append_left h]
    unfold sec at h ⊢
    rw [List.getElem?_take, if_pos hk, List.getElem?_drop]
    have : i * 512 + k < l.length := by simp at h; omega
    simp [List.getD, List.getElem?_eq_getElem this]
  · rw [List.getElem?_append_right (by omega), List.getElem?_drop, List.getElem?_replicate, if_pos (by omega)]
    unfold sec at h
    have : l.length ≤ i * 512 + k := by simp at h; omega
    simp [List.getD, List.getElem?_eq_none this]
/-- What is read of l behind i sectors. -/
def upto (l : List Int) (i : Nat) : List Int := l.take (i * 512) ++ List.replicate (l.length - i * 512) 0
theorem upto_len (l : List Int) (i : Nat) : (upto l i).length = l.length := by unfold upto; simp; omega
theorem upto_get (l : List Int) (i p : Nat) : (upto l i)[p]? = if p < l.length then (if p < i * 512 then some (l.getD p 0) else some 0) else none := by
  unfold upto
  by_cases h : p < l.length
  · rw [if_pos h]
    by_cases h2 : p < i * 512
    · rw [if_pos h2, List.getElem?_append_left (by simp; omega), List.getElem?_take, if_pos h2]
      simp [List.getD, List.getElem?_eq_getElem h]
    · rw [if_neg h2, List.getElem?_append_right (by simp; omega), List.getElem?_replicate, if_pos (by simp; omega)]
  · rw [if_neg h, List.getElem?_eq_none (by simp; omega)]
theorem upto_zero (l : List Int) : upto l 0 = List.replicate l.length 0 := by simp [upto]
theorem upto_all {l : List Int} {n : Nat} (h : l.length ≤ n * 512) : upto l n = l := by
  unfold upto
  rw [List.take_of_length_le h, show l.length - n * 512 = 0 by omega]
  simp
theorem lcopy_get {l m : List Int} {a : Nat} (ha : a ≤ l.length) (p : Nat) : (lcopy l a m)[p]? = if p < l.length then (if p < a then l[p]? else if p < a + m.length then m[p - a]? else l[p]?) else none := by
  by_cases hp : p < l.length
  · rw [if_pos hp]
    unfold lcopy
    by_cases h1 : p < a
    · rw [if_pos h1, List.append_assoc, List.getElem?_append_left (by simp; omega), List.getElem?_take, if_pos h1]
    · rw [if_neg h1]
      by_cases h2 : p < a + m.length
      · rw [if_pos h2, List.getElem?_append_left (by simp; omega), List.getElem?_append_right (by simp; omega), List.getElem?_take, List.length_take, show min a l.length = a by omega, if_pos (by omega)]
      · rw [if_neg h2, List.getElem?_append_right (by simp; omega), List.getElem?_drop]
        congr 1
        simp
        omega
  · rw [if_neg hp, List.getElem?_eq_none (by rw [lcopy_length ha]; omega)]
theorem upto_step (l : List Int) {i i' : Nat} (hi : i * 512 ≤ l.length) (hi' : i' = i + 1) : lcopy (upto l i) (i * 512) (vcopy zs (sec l i)).1 = upto l i' := by
  apply List.ext_getElem?
  intro p
  have hv : (vcopy zs (sec l i)).1.length = 512 := (vcopy zs (sec l i)).2
  have e1 := lcopy_get (l := upto l i) (m := (vcopy zs (sec l i)).1) (by rw [upto_len]; exact hi) p
  rw [upto_len, hv] at e1
  clear hv
  have e2 := upto_get l i p
  have e3 := upto_get l i' p
  have e4 : p < i * 512 + 512 ↔ p < i' * 512 := by omega
  obtain ⟨A, hA⟩ : ∃ A, i * 512 = A := ⟨_, rfl⟩
  obtain ⟨B, hB⟩ : ∃ B, i' * 512 = B := ⟨_, rfl⟩
  have hve : ∀ k, k < 512 → (vcopy zs (sec l i)).1[k]? = some (l.getD (A + k) 0) := fun k hk => by rw [← hA]; exact vsec_get l i hk
  rw [hA] at e1 e2 e4 ⊢
  rw [hB] at e3 e4
  rw [e1, e3]
  by_cases hp : p < l.length
  · rw [if_pos hp, if_pos hp]
    rw [if_pos hp] at e2
    by_cases h1 : p < A
    · rw [if_pos h1] at e2
      rw [if_pos h1, if_pos (e4.1 (by omega)), e2]
    · rw [if_neg h1] at e2
      rw [if_neg h1]
      by_cases h2 : p < A + 512
      · rw [if_pos h2, if_pos (e4.1 h2), hve _ (by omega), show A + (p - A) = p by omega]
      · rw [if_neg h2, if_neg (fun h => h2 (e4.2 h)), e2]
  · rw [if_neg hp, if_neg hp]
theorem rlo_val {p : Pt} {l : List Int} (hb : Bytes l) (hl : l.length ≤ 65536) {n : Nat} (hn : (n : Int) = secs l.length) (h1 : 1 ≤ l.length) {w : Mr} (ha : 0 ≤ p.1) (hM : p.1 + n ≤ w.2.length) (hM2 : w.2.length ≤ 100000) (hr : ∀ i : Nat, i < n → rdS w (p.1 + i) = vcopy zs (sec l i)) (d : Dk) : ∀ (j i k : Nat), i + j = n → j + 300000 ≤ k →
    block_Read.lo2 d w p (n : Int) k (upto l i) (i : Int) = some (if checkL p l = 0 then (l, 0) else ([], 12)) := by
  have hs := secs_bound (l.length : Int)
  have hn2 : n * 512 < l.length + 512 ∧ l.length ≤ n * 512 := by
    unfold secs at hn
    rw [if_neg (by omega), if_neg (by omega)] at hn
    omega
  intro j
  induction j with
  | zero =>
    intro i k hi hk
    obtain ⟨k, rfl⟩ : ∃ q, k = q + 1 := ⟨k - 1, by omega⟩
    obtain rfl : i = n := by omega
    rw [block_Read.lo2, if_neg (by omega), upto_all hn2.2, Check_val p hb (by omega) (by omega), Option.bind_some]
    split <;> rfl
  | succ j ih =>
    intro i k hi hk
    obtain ⟨k, rfl⟩ : ∃ q, k = q + 1 := ⟨k - 1, by omega⟩
    rw [block_Read.lo2, if_pos (by omega)]
    unfold block_Read.jo3
    have e2 : IntKind.wrap .i64 ((i : Int) * 512) = ((i * 512 : Nat) : Int) := by rw [wi64 (by omega) (by omega)]; omega
    rw [wi64 (n := p.1 + i) (by omega) (by omega), e2]
    show (disk_Disk_Read.f k d w (p.1 + i)).bind _ = _
    rw [Blk.bkRead_val d (by omega), Option.bind_some, if_pos rfl, if_pos (by omega), upto_len, if_pos (by omega), hr i (by omega)]
    simp only [Sx.lt]
    rw [show (((i * 512 : Nat) : Int)).toNat = i * 512 from by omega, upto_step l (by omega) rfl, wi64 (by omega) (by omega), show (i : Int) + 1 = ((i + 1 : Nat) : Int) from by omega, ih (i + 1) k (by omega) (by omega)]
theorem bRead_bad {w : Mr} {p : Pt} (h : chk w p ≠ 0) (d : Dk) (k : Nat) : block_Read.f k d w p = some ([], chk w p) := by
  show (block_check.f k d w p).bind _ = _
  rw [bcheck_val, Option.bind_some, if_neg h]
theorem bRead_val {w : Mr} {p : Pt} {l : List Int} (h : chk w p = 0) (hb : Bytes l) (hp : p.2.2.1 = l.length) (hM2 : w.2.length ≤ 100000) (hr : ∀ i : Nat, (i : Int) < secs l.length → rdS w (p.1 + i) = vcopy zs (sec l i)) (d : Dk) {k : Nat} (hk : 400000 ≤ k) : block_Read.f k d w p = some (if checkL p l = 0 then (l, 0) else ([], 12)) := by
  have hs := secs_bound (l.length : Int)
  have hc : rightB p = true ∧ p.1 + secs l.length ≤ w.2.length := by
    unfold chk at h
    by_cases h0 : (w.2.length : Int) = 0
    · rw [if_pos h0] at h; exact absurd h (by decide)
    · rw [if_neg h0] at h
      by_cases h1 : rightB p = true
      · rw [if_pos h1] at h
        refine ⟨h1, ?_⟩
        by_cases h2 : p.1 + secs p.2.2.1 > (w.2.length : Int)
        · exact absurd ((if_pos h2).symm.trans h) (by decide)
        · rw [hp] at h2; omega
      · rw [if_neg h1] at h; exact absurd h (by decide)
  have h6 := (rightB_iff p).1 hc.1
  rw [hp] at h6
  show (block_check.f k d w p).bind _ = _
  rw [bcheck_val, Option.bind_some, if_pos h]
  unfold block_Read.jo1
  rw [hp, if_pos (by omega), if_pos (Int.le_refl _), if_pos (by omega), if_pos (by omega), Sectors_val, Option.bind_some, hp]
  have := rlo_val (p := p) hb (by omega) (n := (secs l.length).toNat) (by omega) (by omega) (w := w) (by omega) (by omega) hM2 (fun i hi => hr i (by omega)) d (secs l.length).toNat 0 k (by omega) (by omega)
  rw [upto_zero, show (((secs l.length).toNat : Nat) : Int) = secs l.length by omega] at this
  exact this
end Go.Proofs.Ytbidihabicgedaa.Blk
