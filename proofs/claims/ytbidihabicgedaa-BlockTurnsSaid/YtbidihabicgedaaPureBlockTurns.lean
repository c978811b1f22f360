/- The pure statement of BlockTurns; no condition. -/
import Derived.Test.YtbidihabicgedaaSBlockTurns
import Derived.Test.YtbidihabicgedaaBlk
import Derived.Test.YtbidihabicgedaaDcr
import Derived.Test.YtbidihabicgedaaTrn
set_option linter.unusedVariables false
set_option linter.unusedSimpArgs false
namespace Go.Proofs.Ytbidihabicgedaa.Pure
open Go Go.RowKit Go.Proofs.Ytbidihabicgedaa.Sx Go.Proofs.Ytbidihabicgedaa.G Go.Proofs.Ytbidihabicgedaa.Bt Go.Proofs.Ytbidihabicgedaa.Cod Go.Proofs.Ytbidihabicgedaa.Ptr Go.Proofs.Ytbidihabicgedaa.Dkv Go.Proofs.Ytbidihabicgedaa.Blk Go.Proofs.Ytbidihabicgedaa.Trn
open Go.Proofs.Ytbidihabicgedaa.Crc (goS F T T_xor T_add T_pow T_inj T_zero num By xor_add)

theorem chk_of {w : Mr} {p : Pt} (hM : 1 ≤ w.2.length) : chk w p = if rightB p = true then (if p.1 + secs p.2.2.1 > w.2.length then 2 else 0) else 2 := by
  unfold chk
  rw [if_neg (by omega)]
theorem check_of {a b : Int} {l : List Int} (hr : rightB (ofL a b l) = true) : checkL (ofL a b l) l = 0 := by
  unfold checkL
  rw [if_pos hr, if_pos (show (l.length : Int) = (ofL a b l).2.2.1 from rfl), if_pos (show ((Crc.goS 0 l : Nat) : Int) = (ofL a b l).2.2.2.1 from rfl), if_pos (show (Sha.sumL l).1 = (ofL a b l).2.2.2.2.1 from rfl)]
theorem check_not {a b : Int} {l m : List Int} (hr : rightB (ofL a b l) = true) (hl : m.length = l.length) (hc : goS 0 m ≠ goS 0 l) : checkL (ofL a b l) m = 12 := by
  unfold checkL
  rw [if_pos hr, if_pos (show (m.length : Int) = (ofL a b l).2.2.1 by rw [hl]; rfl), if_neg (show ¬ ((Crc.goS 0 m : Nat) : Int) = (ofL a b l).2.2.2.1 from fun h => hc (by have : ((Crc.goS 0 m : Nat) : Int) = ((Crc.goS 0 l : Nat) : Int) := h; omega))]
/-! ### What is written, as a list -/
theorem wl_app (a : Int) (l : List Int) : ∀ (j i : Nat) (m : List (Int × Vc Int 512)), (∀ p ∈ m, p.1 < a + i) → wl a l j i m = m ++ (List.range j).map fun t => (a + ((i + t : Nat) : Int), vcopy zs (sec l (i + t))) := by
  intro j
  induction j with
  | zero => intro i m _; simp [wl]
  | succ j ih =>
    intro i m hm
    have hn : mget (a + i) m = none := mget_none.2 (fun p hp => by have := hm p hp; omega)
    show wl a l j (i + 1) (mput (a + i) (vcopy zs (sec l i)) m) = _
    rw [mput_new hn, ih (i + 1) _ (fun p hp => by
      rcases List.mem_append.1 hp with h | h
      · have := hm p h; omega
      · have : p = (a + (i : Int), vcopy zs (sec l i)) := by simpa using h
        subst this
        show a + (i : Int) < a + ((i + 1 : Nat) : Int)
        omega), List.append_assoc, List.range_succ_eq_map]
    simp only [List.map_cons, List.map_map, List.singleton_append, Nat.add_zero]
    congr 2
    apply List.map_congr_left
    intro t _
    simp only [Function.comp_apply]
    rw [show i + 1 + t = i + t.succ by omega]
def Wl (a : Nat) (l : List Int) (n : Nat) : List (Int × Vc Int 512) := (List.range n).map fun t => (((a + t : Nat) : Int), vcopy zs (sec l t))
theorem wl_Wl (a : Nat) (l : List Int) (n : Nat) : wl (a : Int) l n 0 [] = Wl a l n := by
  rw [wl_app _ _ _ _ _ (fun p h => by cases h), List.nil_append]
  unfold Wl
  apply List.map_congr_left
  intro t _
  rw [Nat.zero_add]
  congr 1
theorem Wl_succ (a : Nat) (l : List Int) (n : Nat) : Wl a l (n + 1) = Wl a l n ++ [(((a + n : Nat) : Int), vcopy zs (sec l n))] := by simp [Wl, List.range_succ]
theorem Wl_len (a : Nat) (l : List Int) (n : Nat) : (Wl a l n).length = n := by simp [Wl]
theorem Wl_in {a : Nat} {l : List Int} {n : Nat} {p : Int × Vc Int 512} (h : p ∈ Wl a l n) : (a : Int) ≤ p.1 ∧ p.1 < ((a + n : Nat) : Int) := by
  obtain ⟨t, ht, rfl⟩ := List.mem_map.1 h
  have := List.mem_range.1 ht
  simp only []
  omega
theorem Wl_fold (a : Nat) (l : List Int) : ∀ (n : Nat) {L : List (Vc Int 512)}, a + n ≤ L.length → ∀ j, j < L.length → ((Wl a l n).foldl (fun L p => L.set p.1.toNat p.2) L).getD j zs = if a ≤ j ∧ j < a + n then vcopy zs (sec l (j - a)) else L.getD j zs
  | 0, L, _, j, _ => by rw [if_neg (by omega)]; rfl
  | n + 1, L, h, j, hj => by
    rw [Wl_succ, List.foldl_append]
    simp only [List.foldl_cons, List.foldl_nil, Int.toNat_natCast]
    rw [Dcr.getD_set _ _ _ _ _ (by rw [fold_set_len]; omega), Wl_fold a l n (by omega) j hj]
    by_cases c : a + n = j
    · subst c; rw [if_pos rfl, if_pos (by omega), Nat.add_sub_cancel_left]
    · rw [if_neg c]
      by_cases c2 : a ≤ j ∧ j < a + n
      · rw [if_pos c2, if_pos (by omega)]
      · rw [if_neg c2, if_neg (by omega)]
/-! ### Bits that are turned -/
theorem turn_same {l m : List Int} {by_ at_ : Nat} (hlen : m.length = l.length) (hb : by_ < 2 ^ 32) (hat : at_ + 32 ≤ 8 * l.length) (hn : num m = num l ^^^ (by_ * 2 ^ at_)) : goS 0 m = goS 0 l ↔ by_ = 0 := by
  have key : F (0 ^^^ 4294967295) m = F (0 ^^^ 4294967295) l ^^^ T (8 * l.length - at_) by_ := by
    unfold F
    rw [hlen, hn, ← Nat.xor_assoc, T_xor]
    congr 1
    have := T_add at_ (8 * l.length - at_) (by_ * 2 ^ at_)
    rw [show at_ + (8 * l.length - at_) = 8 * l.length by omega, T_pow] at this
    exact this
  unfold goS
  rw [key]
  constructor
  · intro h
    exact T_inj _ hb (xor_eq_self.1 (xor_inj h))
  · rintro rfl
    rw [T_zero, Nat.xor_zero]
theorem turn_loop (l0 : List Int) (b at_ : Nat) (hb : b < 2 ^ 32) (hl4 : l0.length ≤ 4000) (hat : at_ + 32 ≤ 8 * l0.length) (jo : List Int → Option Bool) : ∀ (j i k : Nat) (l : List Int), i + j = 32 → j < k → By l → l.length = l0.length → num l = num l0 ^^^ ((b % 2 ^ i) * 2 ^ at_) →
    ∃ l', By l' ∧ l'.length = l0.length ∧ num l' = num l0 ^^^ (b * 2 ^ at_) ∧ shadowboxlaw07_BlockTurns.lo7 (b : Int) (at_ : Int) jo k l (i : Int) = jo l' := by
  intro j
  induction j with
  | zero =>
    intro i k l hi hk hl hlen hn
    obtain ⟨k, rfl⟩ : ∃ m, k = m + 1 := ⟨k - 1, by omega⟩
    have hi32 : i = 32 := by omega
    subst hi32
    rw [Nat.mod_eq_of_lt hb] at hn
    refine ⟨l, hl, hlen, hn, ?_⟩
    unfold shadowboxlaw07_BlockTurns.lo7
    rw [if_neg (by omega)]
  | succ j ih =>
    intro i k l hi hk hl hlen hn
    obtain ⟨k, rfl⟩ : ∃ m, k = m + 1 := ⟨k - 1, by omega⟩
    rw [shadowboxlaw07_BlockTurns.lo7]
    unfold shadowboxlaw07_BlockTurns.jo8
    rw [if_pos (by omega), if_pos (by rw [wu64]; omega), shr_bit hb (by omega), wi64 (n := (i : Int) + 1) (by omega) (by omega), show (i : Int) + 1 = ((i + 1 : Nat) : Int) by omega]
    simp only [Sx.lt]
    have hmod : b % 2 ^ (i + 1) = b % 2 ^ i + b / 2 ^ i % 2 * 2 ^ i := by
      rw [Nat.pow_succ, Nat.mod_mul, Nat.mul_comm]
    by_cases hbit : b / 2 ^ i % 2 = 1
    · rw [if_pos (by omega), wi64 (n := (at_ : Int) + (i : Int)) (by omega) (by omega), td _ (by omega), tm _ (by omega)]
      rw [show ((at_ : Int) + (i : Int)) / 8 = (((at_ + i) / 8 : Nat) : Int) by omega, show ((at_ : Int) + (i : Int)) % 8 = (((at_ + i) % 8 : Nat) : Int) by omega, wi64 (by omega) (by omega)]
      rw [if_pos (by omega), if_pos (by omega), if_pos (by rw [wu64]; omega), one_bit (by omega), Int.toNat_natCast]
      rw [if_pos (by omega), if_pos (by omega)]
      have hlt : (at_ + i) / 8 < l.length := by omega
      have hg : l.getD ((at_ + i) / 8) 0 = l[(at_ + i) / 8] := by simp [List.getD_eq_getElem?_getD, List.getElem?_eq_getElem hlt]
      have hx := hl _ (List.getElem_mem hlt)
      obtain ⟨c, hc⟩ := Int.eq_ofNat_of_zero_le hx.1
      have hp : 2 ^ ((at_ + i) % 8) < 256 := Nat.lt_of_lt_of_le (Nat.pow_lt_pow_right (by decide) (Nat.mod_lt _ (by decide))) (by decide)
      have hxor : bits .xor .u8 (l.getD ((at_ + i) / 8) 0) ((2 ^ ((at_ + i) % 8) : Nat) : Int) = (((l.getD ((at_ + i) / 8) 0).toNat ^^^ 2 ^ ((at_ + i) % 8) : Nat) : Int) := by
        rw [hg, hc, Int.toNat_natCast]
        exact xor_u .u8 rfl c _ (by simp only [IntKind.bits]; omega) (by simp only [IntKind.bits]; exact hp)
      rw [hxor]
      refine ih (i + 1) k _ (by omega) (by omega) (Trn.By.set hl _ _ hlt hp) (by rw [List.length_set]; exact hlen) ?_
      rw [num_set l _ _ hl hlt hp, hn, hmod, hbit, Nat.one_mul]
      have e1 : b % 2 ^ i + 2 ^ i = (b % 2 ^ i) ^^^ (1 * 2 ^ i) := by
        rw [xor_add (Nat.mod_lt _ (Nat.pow_pos (by decide))), Nat.one_mul]
      rw [e1, Nat.one_mul, xor_mul, ← Nat.pow_add, ← Nat.pow_add, Nat.xor_assoc]
      congr 3
      omega
    · rw [if_neg (by omega)]
      refine ih (i + 1) k l (by omega) (by omega) hl hlen ?_
      rw [hn, hmod, show b / 2 ^ i % 2 = 0 by omega, Nat.zero_mul, Nat.add_zero]
/-! ### The law -/
theorem right9 {l : List Int} (h1 : 1 ≤ l.length) (h2 : l.length ≤ 3000) (c : Int) (v : Vc Int 32) : rightB (5, 9, (l.length : Int), c, v) = true := by
  have hs := secs_bound (l.length : Int)
  have : secs (l.length : Int) ≤ 6 := by
    unfold secs
    rw [if_neg (by omega), if_neg (by omega)]
    omega
  exact (rightB_iff _).2 ⟨show (1 : Int) ≤ 9 by decide, show (9 : Int) ≤ 1152921504606846976 by decide, by simp only []; omega, by simp only []; omega, show (2 : Int) ≤ 5 by decide, by simp only []; omega⟩
theorem secs6 {l : List Int} (h1 : 1 ≤ l.length) (h2 : l.length ≤ 3000) : 1 ≤ secs (l.length : Int) ∧ secs (l.length : Int) ≤ 6 := by
  unfold secs
  rw [if_neg (by omega), if_neg (by omega)]
  omega
theorem small_val (k : Nat) (hk : 400000 ≤ k) (jo1 : Option Bool) : shadowboxlaw07_BlockTurns.jo9 k jo1 true = some true := by
  unfold shadowboxlaw07_BlockTurns.jo9
  rw [if_pos rfl, New_val (by decide), Option.bind_some]
  show (block_Write.f k dk0 (([] : List (Int × Vc Int 512)), List.replicate (9 : Int).toNat zs) 2 1 [120]).bind _ = _
  have h9 : chk (([] : List (Int × Vc Int 512)), List.replicate (9 : Int).toNat zs) (2, 1, (([120] : List Int).length : Int), 0, vrep 32 0) = 0 := by
    rw [chk_of (by simp)]
    have hr : rightB (2, 1, (([120] : List Int).length : Int), 0, vrep 32 0) = true := (rightB_iff _).2 (by decide)
    rw [if_pos hr, if_neg (by simp only [List.length_replicate]; decide)]
  rw [bWrite_val (fun x hx => by have : x = 120 := by simpa using hx
                                 omega) (by simp) (by simp) (by simp) hk, if_pos h9, Option.bind_some, if_pos rfl, if_pos rfl]
  rfl
/-- A block is written on a disk of 20 sectors. -/
theorem write9 {l : List Int} (hb : Bytes l) (h1 : 1 ≤ l.length) (h2 : l.length ≤ 3000) {M : List (Vc Int 512)} (hM : M.length = 20) {k : Nat} (hk : 400000 ≤ k) :
    block_Write.f k dk0 (([] : List (Int × Vc Int 512)), M) 5 9 l = some (ofL 5 9 l, 0, dk0, (Wl 5 l (secs l.length).toNat, M)) := by
  have hs := secs6 h1 h2
  have hc : chk (([] : List (Int × Vc Int 512)), M) (5, 9, (l.length : Int), 0, vrep 32 0) = 0 := by
    rw [chk_of (by show 1 ≤ M.length; omega), if_pos (right9 h1 h2 _ _), if_neg (by show ¬ (5 : Int) + secs (l.length : Int) > (M.length : Int); omega)]
  rw [bWrite_val hb (by omega) (by omega) (by omega) hk, if_pos hc, show (5 : Int) = ((5 : Nat) : Int) from rfl, wl_Wl]
theorem rd_wl {l : List Int} {n : Nat} {M : List (Vc Int 512)} {i : Nat} (hi : i < n) : rdS (Wl 5 l n, M) ((5 : Int) + i) = vcopy zs (sec l i) := by
  unfold rdS
  show (mget _ (Wl 5 l n)).getD _ = _
  rw [← wl_Wl, mget_wl, if_pos (by omega), Option.getD_some, show ((5 : Int) + (i : Int) - ((5 : Nat) : Int)).toNat = i by omega]
def M20 : List (Vc Int 512) := List.replicate 20 zs
theorem M20_len : M20.length = 20 := by simp [M20]
theorem jo6_val {l0 : List Int} {b : Nat} {t : List Int × Int} (h : t = if b = 0 then (l0, 0) else ([], 12)) : shadowboxlaw07_BlockTurns.jo6 l0 (b : Int) t = some true := by
  unfold shadowboxlaw07_BlockTurns.jo6
  by_cases c : b = 0
  · rw [if_pos c] at h
    rw [h, if_pos (by omega), if_pos rfl, if_pos (by simp)]
  · rw [if_neg c] at h
    rw [h, if_neg (by omega), if_pos rfl]
    rfl
theorem jo1_val {l0 : List Int} (hb : Bytes l0) (h4 : 4 ≤ l0.length) (h3 : l0.length ≤ 3000) (a1 : Int) {b : Nat} (hbl : b < 2 ^ 32) {k : Nat} (hk : 500000 ≤ k) : shadowboxlaw07_BlockTurns.jo1 k l0 a1 (b : Int) = some true := by
  have hs := secs6 (l := l0) (by omega) h3
  unfold shadowboxlaw07_BlockTurns.jo1
  rw [New_val (by decide), Option.bind_some, if_pos rfl]
  unfold shadowboxlaw07_BlockTurns.jo2
  rw [if_pos (by simp only [List.length_nil]; omega), List.nil_append]
  show (block_Write.f k dk0 (([] : List (Int × Vc Int 512)), M20) 5 9 l0).bind _ = _
  rw [write9 hb (by omega) h3 M20_len (by omega), Option.bind_some, if_pos rfl]
  show (disk_Disk_Flush.f k dk0 (Wl 5 l0 (secs l0.length).toNat, M20)).bind _ = _
  rw [Flush_val (by decide) (fun p hp => by have := Wl_in hp; show 0 ≤ p.1 ∧ p.1 < (M20.length : Int); rw [M20_len]; omega) (by show (Wl 5 l0 (secs l0.length).toNat).length < k; rw [Wl_len]; omega), Option.bind_some]
  obtain ⟨M, hM⟩ : ∃ M, (Wl 5 l0 (secs l0.length).toNat).foldl (fun L p => L.set p.1.toNat p.2) M20 = M := ⟨_, rfl⟩
  have hMl : M.length = 20 := by rw [← hM, fold_set_len, M20_len]
  have hMg : ∀ i : Nat, (i : Int) < secs l0.length → M.getD (5 + i) zs = vcopy zs (sec l0 i) := fun i hi => by
    rw [← hM, Wl_fold 5 l0 _ (by rw [M20_len]; omega) _ (by rw [M20_len]; omega), if_pos (by omega), Nat.add_sub_cancel_left]
  show (if (0 : Int) = 0 then shadowboxlaw07_BlockTurns.jo3 k l0 a1 (b : Int) _ dk0 (([] : List (Int × Vc Int 512)), (Wl 5 l0 (secs l0.length).toNat).foldl (fun L p => L.set p.1.toNat p.2) M20) else _) = _
  rw [hM, if_pos rfl]
  unfold shadowboxlaw07_BlockTurns.jo3
  simp only [Sx.lt]
  rw [wi64 (n := 8 * (l0.length : Int)) (by omega) (by omega), wi64 (n := 8 * (l0.length : Int) - 31) (by omega) (by omega), if_pos (by omega), List.nil_append]
  generalize hm : 8 * (l0.length : Int) - 31 = m
  have h3' : -m < Int.tmod a1 m ∧ Int.tmod a1 m < m := ⟨Int.lt_tmod_of_pos a1 (by omega), Int.tmod_lt_of_pos a1 (by omega)⟩
  rw [wi64 (n := Int.tmod a1 m + m) (by omega) (by omega), tm _ (by omega)]
  have h6 := Int.emod_nonneg (Int.tmod a1 m + m) (show m ≠ 0 by omega)
  have h7 := Int.emod_lt_of_pos (Int.tmod a1 m + m) (show 0 < m by omega)
  obtain ⟨at_, hat⟩ := Int.eq_ofNat_of_zero_le h6
  rw [hat]
  obtain ⟨l', e1, e2, e3, e4⟩ := turn_loop l0 b at_ hbl (by omega) (by omega) (shadowboxlaw07_BlockTurns.jo4 k l0 (b : Int) (ofL 5 9 l0, 0, dk0, (Wl 5 l0 (secs l0.length).toNat, M20)) dk0 (([] : List (Int × Vc Int 512)), M)) 32 0 k l0 (by omega) (by omega) hb rfl (by simp [Nat.mod_one])
  refine e4.trans ?_
  unfold shadowboxlaw07_BlockTurns.jo4
  show (block_Write.f k dk0 (([] : List (Int × Vc Int 512)), M) 5 9 l').bind _ = _
  rw [write9 e1 (by omega) (by omega) hMl (by omega), Option.bind_some, if_pos rfl]
  unfold shadowboxlaw07_BlockTurns.jo5
  have hr : rightB (ofL 5 9 l0) = true := right9 (by omega) h3 _ _
  have hcw : ∀ W : List (Int × Vc Int 512), chk (W, M) (ofL 5 9 l0) = 0 := fun W => by
    rw [chk_of (by show 1 ≤ M.length; omega), if_pos hr, if_neg (by show ¬ (5 : Int) + secs (l0.length : Int) > (M.length : Int); omega)]
  show (block_Read.f k dk0 (Wl 5 l' (secs l'.length).toNat, M) (ofL 5 9 l0)).bind _ = _
  rw [bRead_val (w := (Wl 5 l' (secs l'.length).toNat, M)) (p := ofL 5 9 l0) (l := l') (hcw _) e1 (by show (l0.length : Int) = _; rw [e2]) (by show M.length ≤ _; omega) (fun i hi => by show rdS _ ((5 : Int) + i) = _; exact rd_wl (by omega)) dk0 (by omega), Option.bind_some]
  show (disk_Disk_Crash.f k dk0 (Wl 5 l' (secs l'.length).toNat, M) []).bind _ = _
  have hs' := secs6 (l := l') (by omega) (by omega)
  rw [Dcr.Crash_nil (by show (Wl 5 l' (secs l'.length).toNat).length < k; rw [Wl_len]; omega) (by show (Wl 5 l' (secs l'.length).toNat).length ≤ _; rw [Wl_len]; omega) (by show 0 < M.length; omega) (by show M.length ≤ _; omega), Option.bind_some]
  show (block_Read.f k dk0 (([] : List (Int × Vc Int 512)), M) (ofL 5 9 l0)).bind _ = _
  rw [bRead_val (w := (([] : List (Int × Vc Int 512)), M)) (p := ofL 5 9 l0) (l := l0) (hcw _) hb rfl (by show M.length ≤ _; omega) (fun i hi => by
    show (none : Option (Vc Int 512)).getD (M.getD ((5 : Int) + i).toNat zs) = _
    rw [Option.getD_none, show ((5 : Int) + (i : Int)).toNat = 5 + i by omega]
    exact hMg i hi) dk0 (by omega), Option.bind_some, check_of hr, if_pos rfl, if_pos rfl, if_pos rfl, if_pos (by simp)]
  refine jo6_val ?_
  have hts := turn_same (l := l0) (m := l') e2 hbl (by omega) e3
  by_cases c : b = 0
  · subst c
    have hll : l' = l0 := num_inj e1 hb e2 (by rw [e3, Nat.zero_mul, Nat.xor_zero])
    rw [hll, check_of hr, if_pos rfl, if_pos rfl]
  · rw [check_not hr e2 (fun h => c (hts.1 h)), if_neg (by decide), if_neg c]
theorem BlockTurns : S.BlockTurns := by
  intro l0 a1 a2 hl hb h1 h2
  have hb := bytes_of hb
  simp only [Lit.wf, IntKind.min, IntKind.max, IntKind.signed, IntKind.bits, Bool.and_eq_true] at h1 h2
  simp at h1 h2
  obtain ⟨b, rfl⟩ := Int.eq_ofNat_of_zero_le h2.1
  refine ⟨500000, ?_⟩
  unfold shadowboxlaw07_BlockTurns.f
  by_cases c1 : (l0.length : Int) < 4
  · rw [if_pos c1]
    exact small_val _ (by omega) _
  · rw [if_neg c1]
    by_cases c2 : (l0.length : Int) > 3000
    · rw [decide_eq_true c2]
      exact small_val _ (by omega) _
    · rw [decide_eq_false c2]
      unfold shadowboxlaw07_BlockTurns.jo9
      rw [if_neg (by decide)]
      exact jo1_val hb (by omega) (by omega) a1 (by omega) (by omega)
end Go.Proofs.Ytbidihabicgedaa.Pure
