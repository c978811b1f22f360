/- The pure statement of BlockWrites; no condition. -/
import Derived.Test.YtbidihabicgedaaSBlockWrites
import Derived.Test.YtbidihabicgedaaBlk
set_option linter.unusedVariables false
set_option linter.unusedSimpArgs false
namespace Go.Proofs.Ytbidihabicgedaa.Pure
open Go Go.RowKit Go.Proofs.Ytbidihabicgedaa.Sx Go.Proofs.Ytbidihabicgedaa.G Go.Proofs.Ytbidihabicgedaa.Bt Go.Proofs.Ytbidihabicgedaa.Cod Go.Proofs.Ytbidihabicgedaa.Ptr Go.Proofs.Ytbidihabicgedaa.Dkv Go.Proofs.Ytbidihabicgedaa.Blk

theorem rightB_congr {p q : Pt} (h1 : p.1 = q.1) (h2 : p.2.1 = q.2.1) (h3 : p.2.2.1 = q.2.2.1) : rightB p = rightB q := by unfold rightB; rw [h1, h2, h3]
theorem chk_congr {w w' : Mr} {p q : Pt} (hw : w.2 = w'.2) (h1 : p.1 = q.1) (h2 : p.2.1 = q.2.1) (h3 : p.2.2.1 = q.2.2.1) : chk w p = chk w' q := by
  unfold chk
  rw [rightB_congr h1 h2 h3, hw, h1, h3]
theorem chk_of {w : Mr} {p : Pt} (hM : 1 ≤ w.2.length) : chk w p = if rightB p = true then (if p.1 + secs p.2.2.1 > w.2.length then 2 else 0) else 2 := by
  unfold chk
  rw [if_neg (by omega)]
theorem check_of {a b : Int} {l : List Int} (hr : rightB (ofL a b l) = true) : checkL (ofL a b l) l = 0 := by
  unfold checkL
  rw [if_pos hr, if_pos (show (l.length : Int) = (ofL a b l).2.2.1 from rfl), if_pos (show ((Crc.goS 0 l : Nat) : Int) = (ofL a b l).2.2.2.1 from rfl), if_pos (show (Sha.sumL l).1 = (ofL a b l).2.2.2.2.1 from rfl)]
theorem pt_eq (q : Pt) : ((q.1 == q.1) && ((q.2.1 == q.2.1) && ((q.2.2.1 == q.2.2.1) && ((q.2.2.2.1 == q.2.2.2.1) && (q.2.2.2.2.1 == q.2.2.2.2.1))))) = true := by simp
theorem zp_eq : ((zp.1 == (0 : Int)) && ((zp.2.1 == (0 : Int)) && ((zp.2.2.1 == (0 : Int)) && ((zp.2.2.2.1 == (0 : Int)) && (zp.2.2.2.2.1 == (vrep 32 (0 : Int)).1))))) = true := by
  unfold zp
  simp
/-- Where it does not fit. -/
theorem jo3_no {n : Nat} (hn : 1 ≤ n ∧ n ≤ 64) {l : List Int} {q : Pt} (y2 : Int) (hc : chk (([] : List (Int × Vc Int 512)), List.replicate n zs) q = 2) : shadowboxlaw07_BlockWrites.jo3 500000 y2 l (zp, 2, dk0, (([] : List (Int × Vc Int 512)), List.replicate n zs)) q false = some true := by
  unfold shadowboxlaw07_BlockWrites.jo3
  rw [if_neg (by decide)]
  show (block_Read.f 500000 dk0 (([] : List (Int × Vc Int 512)), List.replicate n zs) q).bind _ = _
  rw [bRead_bad (by rw [hc]; decide), Option.bind_some, hc, New_val (by decide), Option.bind_some]
  show (block_Write.f 500000 dk0 (([] : List (Int × Vc Int 512)), List.replicate (9 : Int).toNat zs) 2 1 [120]).bind _ = _
  have h9 : chk (([] : List (Int × Vc Int 512)), List.replicate (9 : Int).toNat zs) (2, 1, (([120] : List Int).length : Int), 0, vrep 32 0) = 0 := by
    rw [chk_of (by simp)]
    have hr : rightB (2, 1, (([120] : List Int).length : Int), 0, vrep 32 0) = true := (rightB_iff _).2 (by decide)
    rw [if_pos hr, if_neg (by simp only [List.length_replicate]; decide)]
  rw [bWrite_val (fun x hx => by have : x = 120 := by simpa using hx
                                 omega) (by simp) (by simp) (by simp) (by omega), if_pos h9, Option.bind_some, if_pos rfl, if_pos zp_eq, if_pos rfl, if_pos rfl]
  rfl
theorem rd_get {a : Int} {l : List Int} {n ns : Nat} (hns : (l.length : Int) ≤ ns * 512 ∧ (ns : Int) * 512 < l.length + 512) {i : Nat} (hi : i < n) {x : Nat} (hx : x < 512) :
    (rdS (wl a l ns 0 [], List.replicate n zs) (i : Int)).1.getD x 0 = if 0 ≤ 512 * ((i : Int) - a) + x ∧ 512 * ((i : Int) - a) + x < l.length then l.getD (512 * ((i : Int) - a) + x).toNat 0 else 0 := by
  unfold rdS
  rw [mget_wl]
  by_cases h : a + ((0 : Nat) : Int) ≤ (i : Int) ∧ (i : Int) < a + ((0 : Nat) : Int) + ns
  · rw [if_pos h, Option.getD_some, List.getD_eq_getElem?_getD, vsec_get l _ hx, Option.getD_some]
    have e : (512 * ((i : Int) - a) + x).toNat = ((i : Int) - a).toNat * 512 + x := by omega
    by_cases h2 : 0 ≤ 512 * ((i : Int) - a) + x ∧ 512 * ((i : Int) - a) + x < l.length
    · rw [if_pos h2, e]
    · rw [if_neg h2]
      have : l.length ≤ ((i : Int) - a).toNat * 512 + x := by omega
      simp [List.getD, List.getElem?_eq_none this]
  · rw [if_neg h]
    show (((none : Option (Vc Int 512)).getD ((List.replicate n zs).getD ((i : Int)).toNat zs)).1.getD x 0) = _
    rw [Option.getD_none, show ((i : Int)).toNat = i from by omega]
    have e : (List.replicate n zs).getD i zs = zs := by simp [List.getD, List.getElem?_replicate, hi]
    have e0 : zs.1.getD x 0 = 0 := by
      show (List.replicate 512 (0 : Int)).getD x 0 = 0
      rw [List.getD_eq_getElem?_getD, List.getElem?_replicate]
      split <;> rfl
    rw [e, e0, if_neg (by omega)]
theorem lo9_val {a : Int} {l : List Int} (hl : l.length ≤ 3000) {q : Pt} (hq : q.1 = a) (ha : 0 ≤ a ∧ a ≤ 8192) {i : Nat} (hi : i ≤ 64) {t : List Int × Int} (ht : t.1.length = 512) (hS : ∀ x : Nat, x < 512 → t.1.getD x 0 = if 0 ≤ 512 * ((i : Int) - a) + x ∧ 512 * ((i : Int) - a) + x < l.length then l.getD (512 * ((i : Int) - a) + x).toNat 0 else 0) (lo6 : Int → Option Bool) : ∀ (j x k : Nat), x + j = 512 → j < k → shadowboxlaw07_BlockWrites.lo9 l q (i : Int) t lo6 k (x : Int) = lo6 ((i + 1 : Nat) : Int) := by
  intro j
  induction j with
  | zero =>
    intro x k hx hk
    obtain ⟨k, rfl⟩ : ∃ q, k = q + 1 := ⟨k - 1, by omega⟩
    rw [shadowboxlaw07_BlockWrites.lo9, if_neg (by omega), wi64 (by omega) (by omega)]
    rfl
  | succ j ih =>
    intro x k hx hk
    obtain ⟨k, rfl⟩ : ∃ q, k = q + 1 := ⟨k - 1, by omega⟩
    rw [shadowboxlaw07_BlockWrites.lo9, if_pos (by omega)]
    unfold shadowboxlaw07_BlockWrites.jo10
    simp only [Sx.lt]
    rw [hq, wi64 (n := (i : Int) - a) (by omega) (by omega), wi64 (n := 512 * ((i : Int) - a)) (by omega) (by omega), wi64 (n := 512 * ((i : Int) - a) + x) (by omega) (by omega), wi64 (n := (x : Int) + 1) (by omega) (by omega), show ((x : Int)).toNat = x from by omega, hS x (by omega), ht, show (x : Int) + 1 = ((x + 1 : Nat) : Int) from by omega]
    have go : shadowboxlaw07_BlockWrites.lo9 l q (i : Int) t lo6 k ((x + 1 : Nat) : Int) = lo6 ((i + 1 : Nat) : Int) := ih (x + 1) k (by omega) (by omega)
    obtain ⟨z, hz⟩ : ∃ z, 512 * ((i : Int) - a) + (x : Int) = z := ⟨_, rfl⟩
    rw [hz]
    have hx0 : (0 : Int) ≤ (x : Int) := by omega
    have hx1 : (x : Int) < ((512 : Nat) : Int) := by omega
    by_cases c1 : z ≥ 0
    · rw [if_pos c1]
      by_cases c2 : z < (l.length : Int)
      · rw [if_pos c2, if_pos (show 0 ≤ z from c1), if_pos c2, if_pos hx0, if_pos hx1, if_pos (show 0 ≤ z ∧ z < (l.length : Int) from ⟨c1, c2⟩), if_pos rfl, go]
      · rw [if_neg c2, if_pos hx0, if_pos hx1, if_neg (show ¬ (0 ≤ z ∧ z < (l.length : Int)) from fun h => c2 h.2), if_pos rfl, go]
    · rw [if_neg c1, if_pos hx0, if_pos hx1, if_neg (show ¬ (0 ≤ z ∧ z < (l.length : Int)) from fun h => c1 h.1), if_pos rfl, go]
theorem lo6_val {a : Int} {l : List Int} (hl : l.length ≤ 3000) {q : Pt} (hq : q.1 = a) (ha : 0 ≤ a ∧ a ≤ 8192) {n ns : Nat} (hn : n ≤ 64) (hns : (l.length : Int) ≤ ns * 512 ∧ (ns : Int) * 512 < l.length + 512) (e : Int) : ∀ (j i k : Nat), i + j = n → j + 1000 < k → shadowboxlaw07_BlockWrites.lo6 (n : Int) l (q, e, dk0, (wl a l ns 0 [], List.replicate n zs)) q k (i : Int) = some true := by
  intro j
  induction j with
  | zero =>
    intro i k hi hk
    obtain ⟨k, rfl⟩ : ∃ q, k = q + 1 := ⟨k - 1, by omega⟩
    rw [shadowboxlaw07_BlockWrites.lo6, if_neg (by omega)]
  | succ j ih =>
    intro i k hi hk
    obtain ⟨k, rfl⟩ : ∃ q, k = q + 1 := ⟨k - 1, by omega⟩
    rw [shadowboxlaw07_BlockWrites.lo6, if_pos (by omega)]
    unfold shadowboxlaw07_BlockWrites.jo7
    show (disk_Disk_Read.f k dk0 (wl a l ns 0 [], List.replicate n zs) (i : Int)).bind _ = _
    rw [Blk.Read_val _ (by simp only [List.length_replicate]; omega), Option.bind_some, if_pos rfl]
    have h512 : (rdS (wl a l ns 0 [], List.replicate n zs) (i : Int)).1.length = 512 := (rdS (wl a l ns 0 [], List.replicate n zs) (i : Int)).2
    rw [if_pos (by rw [h512]; rfl)]
    unfold shadowboxlaw07_BlockWrites.jo8
    have := lo9_val (t := ((rdS (wl a l ns 0 [], List.replicate n zs) (i : Int)).1, 0)) hl hq ha (i := i) (by omega) h512 (fun x hx => rd_get hns (by omega) hx) (shadowboxlaw07_BlockWrites.lo6 (n : Int) l (q, e, dk0, (wl a l ns 0 [], List.replicate n zs)) q k) 512 0 k (by omega) (by omega)
    refine Eq.trans this ?_
    exact ih (i + 1) k (by omega) (by omega)
theorem jo1_val {a1 : Vc Int 2} {l : List Int} (hb : Bytes l) (hl : l.length ≤ 3000) {n : Nat} (hn : 1 ≤ n ∧ n ≤ 64) : shadowboxlaw07_BlockWrites.jo1 500000 a1 (n : Int) l = some true := by
  unfold shadowboxlaw07_BlockWrites.jo1
  rw [New_val (by omega), Option.bind_some, if_pos rfl]
  unfold shadowboxlaw07_BlockWrites.jo2
  rw [if_pos (by decide), if_pos (by decide), show ((n : Int)).toNat = n from by omega]
  obtain ⟨a, ha⟩ : ∃ a, a1.1.getD ((0 : Int)).toNat (0 : Int) = a := ⟨_, rfl⟩
  obtain ⟨b, hb1⟩ : ∃ b, a1.1.getD ((1 : Int)).toNat (0 : Int) = b := ⟨_, rfl⟩
  rw [ha, hb1]
  show (block_Write.f 500000 dk0 (([] : List (Int × Vc Int 512)), List.replicate n zs) a b l).bind _ = _
  rw [bWrite_val hb (by omega) (by simp; omega) (by simp; omega) (by omega), Option.bind_some, rOf_val a b hb (by omega) (by omega), Option.bind_some, rRight_val, Option.bind_some]
  have hko := fun h => check_of (a := a) (b := b) (l := l) h
  have h1 : (ofL a b l).1 = a := rfl
  have h2 : (ofL a b l).2.1 = b := rfl
  have h3 : (ofL a b l).2.2.1 = (l.length : Int) := rfl
  obtain ⟨q, hq⟩ : ∃ q, ofL a b l = q := ⟨_, rfl⟩
  rw [hq] at hko h1 h2 h3 ⊢
  have hcq : chk (([] : List (Int × Vc Int 512)), List.replicate n zs) (a, b, (l.length : Int), 0, vrep 32 0) = chk (([] : List (Int × Vc Int 512)), List.replicate n zs) q := chk_congr rfl h1.symm h2.symm h3.symm
  rw [hcq]
  have hcv := chk_of (w := (([] : List (Int × Vc Int 512)), List.replicate n zs)) (p := q) (by simp; omega)
  have hs := secs_bound (l.length : Int)
  by_cases hr : rightB q = true
  · have h6 := (rightB_iff q).1 hr
    rw [if_pos hr] at hcv
    rw [h1, h3] at hcv h6
    rw [if_pos hr, rSectors_val, Option.bind_some, h1, h3, wi64 (by omega) (by omega)]
    have hML : (List.replicate n zs).length = n := by simp
    rw [hML] at hcv
    by_cases hf : a + secs l.length ≤ (n : Int)
    · rw [if_neg (by omega)] at hcv
      rw [hcv, if_pos rfl, decide_eq_true hf]
      unfold shadowboxlaw07_BlockWrites.jo3
      rw [if_pos rfl]
      unfold shadowboxlaw07_BlockWrites.jo4
      obtain ⟨ns, hns⟩ : ∃ ns, (secs l.length).toNat = ns := ⟨_, rfl⟩
      rw [hns]
      have hnb : (l.length : Int) ≤ ns * 512 ∧ (ns : Int) * 512 < l.length + 512 := by
        unfold secs at hns
        rw [if_neg (by omega), if_neg (by omega)] at hns
        omega
      show (block_Read.f 500000 dk0 (wl a l ns 0 [], List.replicate n zs) q).bind _ = _
      rw [bRead_val (w := (wl a l ns 0 [], List.replicate n zs)) (l := l) ((chk_congr rfl rfl rfl rfl).trans hcv) hb h3 (by simp; omega) (fun i hi => by
        show (mget (q.1 + i) (wl a l ns 0 [])).getD _ = _
        rw [h1, mget_wl, if_pos (by omega), Option.getD_some, show (a + (i : Int) - a).toNat = i from by omega]) _ (by omega), hko hr, if_pos rfl, Option.bind_some, if_pos rfl, if_pos (pt_eq q), if_pos rfl, if_pos (by simp), rSectors_val]
      show (if ((wl a l ns 0 []).length : Int) = secs q.2.2.1 then _ else _) = _
      rw [wl_len a l ns 0 [] (fun p hp => by cases hp), h3, if_pos (by simp; omega)]
      unfold shadowboxlaw07_BlockWrites.jo5
      exact lo6_val hl h1 (by omega) hn.2 hnb 0 n 0 500000 (by omega) (by omega)
    · rw [if_pos (by omega)] at hcv
      rw [hcv, if_neg (by decide), decide_eq_false hf]
      exact jo3_no hn _ hcv
  · rw [if_neg hr] at hcv
    rw [if_neg hr, hcv, if_neg (by decide)]
    exact jo3_no hn _ hcv
theorem BlockWrites : S.BlockWrites := by
  intro a0 a1 l2 h0 h1 hl hw
  refine ⟨500000, ?_⟩
  have hb := bytes_of hw
  have b1 := and_i64 a0 (m := 63) (by decide)
  have b2 : 0 ≤ bits .and .i64 a0 63 ∧ bits .and .i64 a0 63 ≤ 63 := b1
  obtain ⟨n, hn⟩ : ∃ n : Nat, (n : Int) = 1 + bits .and .i64 a0 63 := ⟨(1 + bits .and .i64 a0 63).toNat, by omega⟩
  unfold shadowboxlaw07_BlockWrites.f
  simp only [Sx.lt]
  rw [wi64 (by omega) (by omega), ← hn]
  by_cases h : (l2.length : Int) > 3000
  · rw [if_pos h, if_pos (by omega)]
    exact jo1_val (hb.take _) (by simp; omega) (by omega)
  · rw [if_neg h]
    exact jo1_val hb (by omega) (by omega)
end Go.Proofs.Ytbidihabicgedaa.Pure
