/- The pure statement of DiskFuses; no condition. -/
import Derived.Test.YtodfejnjfigkoaaSDiskFuses
import Derived.Test.YtodfejnjfigkoaaDkv
set_option linter.unusedVariables false
set_option linter.unusedSimpArgs false
namespace Go.Proofs.Ytodfejnjfigkoaa.Pure
open Go Go.RowKit Go.Proofs.Ytodfejnjfigkoaa.Sx Go.Proofs.Ytodfejnjfigkoaa.G Go.Proofs.Ytodfejnjfigkoaa.Bt Go.Proofs.Ytodfejnjfigkoaa.Dkv

theorem andm (a : Int) (m : Nat) (hm : m ≤ 1000) : 0 ≤ bits .and .i64 a (m : Int) ∧ bits .and .i64 a (m : Int) ≤ (m : Int) := by
  simp only [bits, bvi]
  have h1 : (BitVec.ofInt IntKind.i64.bits a &&& BitVec.ofNat IntKind.i64.bits m).toNat ≤ m := by
    rw [BitVec.toNat_and]
    refine Nat.le_trans Nat.and_le_right ?_
    simp only [BitVec.toNat_ofNat]
    exact Nat.mod_le _ _
  rw [wi64 (by omega) (by omega)]
  omega
/-- How often power is asked for in so many rounds. -/
def U (i : Nat) : Nat := i + i / 3
/-- The state behind i rounds: what is done, what power is left, whether it is gone. -/
structure Iv (n i : Nat) (dn : Nat) (left : Int) (gone : Bool) : Prop where
  lo : U i ≤ n → gone = false ∧ left = (n : Int) - U i ∧ dn = i
  hi : n < U i → gone = true ∧ dn ≤ n
  ge : 0 ≤ left ∧ left ≤ 1000
/-- One round. -/
def rnd (i : Nat) (left : Int) (gone : Bool) : Int × Dk := if i % 3 = 2 then sp true (sp true left gone).2.2.2.2.1 (sp true left gone).2.2.2.2.2 else sp true left gone
theorem sp_mk (left : Int) (gone : Bool) : (sp true left gone).2 = mkD true (sp true left gone).2.2.2.2.1 (sp true left gone).2.2.2.2.2 := by
  unfold sp
  split
  · rfl
  · split
    · split <;> rfl
    · rfl
theorem rnd_mk (i : Nat) (left : Int) (gone : Bool) : (rnd i left gone).2 = mkD true (rnd i left gone).2.2.2.2.1 (rnd i left gone).2.2.2.2.2 := by
  unfold rnd
  split
  · exact sp_mk _ _
  · exact sp_mk _ _
theorem rnd_cases (i : Nat) (left : Int) (gone : Bool) : (rnd i left gone).1 = 0 ∨ (rnd i left gone).1 = 17 := by
  unfold rnd
  split
  · exact sp_cases _ _ _
  · exact sp_cases _ _ _
theorem sp_gone (left : Int) : sp true left true = (17, mkD true left true) := rfl
theorem sp_zero : sp true 0 false = (17, mkD true 0 true) := rfl
theorem sp_ok {left : Int} (h : left ≠ 0) : sp true left false = (0, mkD true (left - 1) false) := by
  unfold sp
  rw [if_neg (by decide), if_pos rfl, if_neg h]
theorem sp_ge {left : Int} (h : 0 ≤ left ∧ left ≤ 1000) (gone : Bool) : 0 ≤ (sp true left gone).2.2.2.2.1 ∧ (sp true left gone).2.2.2.2.1 ≤ 1000 := by
  cases gone with
  | true => rw [sp_gone]; exact h
  | false =>
    by_cases hl : left = 0
    · subst hl; rw [sp_zero]; exact h
    · rw [sp_ok hl]; show 0 ≤ left - 1 ∧ left - 1 ≤ 1000; omega
theorem U_succ (i : Nat) : U (i + 1) = U i + if i % 3 = 2 then 2 else 1 := by
  unfold U
  split <;> omega
theorem Iv.step {n i dn : Nat} {left : Int} {gone : Bool} (h : Iv n i dn left gone) : Iv n (i + 1) (if (rnd i left gone).1 = 0 then dn + 1 else dn) (rnd i left gone).2.2.2.2.1 (rnd i left gone).2.2.2.2.2 := by
  have hu := U_succ i
  have hge : 0 ≤ (rnd i left gone).2.2.2.2.1 ∧ (rnd i left gone).2.2.2.2.1 ≤ 1000 := by
    unfold rnd
    split
    · exact sp_ge (sp_ge h.ge _) _
    · exact sp_ge h.ge _
  by_cases c : n < U i
  · obtain ⟨rfl, hd⟩ := h.hi c
    have e : rnd i left true = (17, mkD true left true) := by
      unfold rnd
      split
      · rw [sp_gone]; rfl
      · rfl
    rw [e] at hge ⊢
    exact ⟨fun hh => by omega, fun _ => ⟨rfl, by rw [if_neg (show ¬ (17 : Int) = 0 by decide)]; exact hd⟩, hge⟩
  · obtain ⟨rfl, hl, rfl⟩ := h.lo (by omega)
    have hUi : dn ≤ U dn := Nat.le_add_right _ _
    by_cases m : dn % 3 = 2
    · rw [if_pos m] at hu
      have e0 : rnd dn left false = sp true (sp true left false).2.2.2.2.1 (sp true left false).2.2.2.2.2 := by unfold rnd; rw [if_pos m]
      by_cases c0 : left = 0
      · subst c0
        have e : rnd dn 0 false = (17, mkD true 0 true) := by rw [e0, sp_zero]; rfl
        rw [e] at hge ⊢
        exact ⟨fun hh => by omega, fun _ => ⟨rfl, by rw [if_neg (show ¬ (17 : Int) = 0 by decide)]; omega⟩, hge⟩
      · rw [sp_ok c0] at e0
        by_cases c1 : left = 1
        · subst c1
          have e : rnd dn 1 false = (17, mkD true 0 true) := by rw [e0]; rfl
          rw [e] at hge ⊢
          exact ⟨fun hh => by omega, fun _ => ⟨rfl, by rw [if_neg (show ¬ (17 : Int) = 0 by decide)]; omega⟩, hge⟩
        · have e : rnd dn left false = (0, mkD true (left - 2) false) := by
            rw [e0]
            show sp true (left - 1) false = _
            rw [sp_ok (by omega)]
            rw [show left - 1 - 1 = left - 2 by omega]
          rw [e] at hge ⊢
          exact ⟨fun hh => ⟨rfl, by show left - 2 = _; omega, by rw [if_pos (show (0 : Int) = 0 from rfl)]⟩, fun hh => by omega, hge⟩
    · rw [if_neg m] at hu
      have e0 : rnd dn left false = sp true left false := by unfold rnd; rw [if_neg m]
      by_cases c0 : left = 0
      · subst c0
        rw [sp_zero] at e0
        rw [e0] at hge ⊢
        exact ⟨fun hh => by omega, fun _ => ⟨rfl, by rw [if_neg (show ¬ (17 : Int) = 0 by decide)]; omega⟩, hge⟩
      · rw [sp_ok c0] at e0
        rw [e0] at hge ⊢
        exact ⟨fun hh => ⟨rfl, by show left - 1 = _; omega, by rw [if_pos (show (0 : Int) = 0 from rfl)]⟩, fun hh => by omega, hge⟩
theorem and3 (i : Nat) : 0 ≤ bits .and .i64 (i : Int) 3 ∧ bits .and .i64 (i : Int) 3 < 4 := by
  have := andm (i : Int) 3 (by omega)
  have h1 : 0 ≤ bits .and .i64 (i : Int) 3 := this.1
  have h2 : bits .and .i64 (i : Int) 3 ≤ 3 := this.2
  omega
/-- What each round asks at its end. -/
theorem tail_val {left : Int} {gone : Bool} {w : Mr} {b : Nat} (hg : Gd 4 w b) {k : Nat} {β : Type} (F : Dk → Mr → Option Bool) :
    ((disk_Disk_Write.f k (mkD true left gone) w (9 : Int) ([] : List Int)).bind fun t28 => (if t28.1 = (2 : Int) then (if (513 : Int) ≤ (513 : Int) then (if (513 : Int) ≤ 140737488355328 then (if (1 : Int) * (513 : Int) ≤ 281474976710656 then (disk_Disk_Write.f k ((), (), t28.2.1.2.2.1, t28.2.1.2.2.2.1, t28.2.1.2.2.2.2) t28.2.2 (0 : Int) (List.replicate ((513 : Int)).toNat (0 : Int))).bind fun t36 => (if t36.1 = (3 : Int) then F t36.2.1 t36.2.2 else some false) else none) else none) else none) else some false)) = F (mkD true left gone) w := by
  have h4 := hg.len
  rw [Write_far (by omega), Option.bind_some, if_pos rfl, if_pos (by decide), if_pos (by decide), if_pos (by decide)]
  show (disk_Disk_Write.f k (mkD true left gone) w (0 : Int) _).bind _ = _
  rw [Write_big (by omega) (by rw [List.length_replicate]; decide), Option.bind_some, if_pos rfl]
theorem round_val {i dn : Nat} {left : Int} {gone : Bool} (hl : 0 ≤ left ∧ left ≤ 1000) {w : Mr} {b : Nat} (hg : Gd 4 w b) (hi : i ≤ 63) (hd : dn ≤ 63) {k : Nat} (hk : b + 1 < k) (lo : Int → Int → Dk → Mr → Option Bool) :
    ∃ w', Gd 4 w' (b + 1) ∧ shadowboxlaw05_DiskFuses.jo5 (dn : Int) (i : Int) (mkD true left gone) w k lo = lo ((if (rnd i left gone).1 = 0 then dn + 1 else dn : Nat) : Int) ((i + 1 : Nat) : Int) (rnd i left gone).2 w' := by
  have h4 := hg.len
  have ha := and3 i
  have hw1 : IntKind.wrap .i64 ((i : Int) + 1) = ((i + 1 : Nat) : Int) := by rw [wi64 (by omega) (by omega)]; omega
  have hw2 : IntKind.wrap .i64 ((dn : Int) + 1) = ((dn + 1 : Nat) : Int) := by rw [wi64 (by omega) (by omega)]; omega
  have htm : Int.tmod (i : Int) 3 = ((i % 3 : Nat) : Int) := by
    rw [Int.tmod_eq_emod_of_nonneg (by omega)]
    omega
  obtain ⟨w1, hw1e⟩ : ∃ w1, w1 = (if (sp true left gone).1 = 0 then (mput (bits .and .i64 (i : Int) 3) (vcopy zs [IntKind.wrap .u8 (i : Int)]) w.1, w.2) else w) := ⟨_, rfl⟩
  have hg1 : Gd 4 w1 (b + 1) := by
    rw [hw1e]
    split
    · exact hg.put (by omega) _
    · exact hg.mono (by omega)
  unfold shadowboxlaw05_DiskFuses.jo5
  show ∃ w', Gd 4 w' (b + 1) ∧ (disk_Disk_Write.f k (mkD true left gone) w (bits .and .i64 (i : Int) 3) [IntKind.wrap .u8 (i : Int)]).bind _ = _
  rw [Write_val (by omega) (by omega) (by simp), Option.bind_some, ← hw1e, hw1, hw2, htm]
  have hge := sp_ge hl gone
  have hmk := sp_mk left gone
  obtain ⟨e1, l1, g1, hs1⟩ : ∃ e1 l1 g1, sp true left gone = (e1, mkD true l1 g1) := ⟨_, _, _, Prod.ext rfl hmk⟩
  have hc1 := sp_cases true left gone
  rw [hs1] at hge hc1 ⊢
  have hge' : 0 ≤ l1 ∧ l1 ≤ 1000 := hge
  by_cases m : i % 3 = 2
  · have er : rnd i left gone = sp true l1 g1 := by unfold rnd; rw [if_pos m, hs1]; rfl
    rw [if_pos (show ((i % 3 : Nat) : Int) = 2 by omega), er]
    obtain ⟨w2, hw2e⟩ : ∃ w2, w2 = (if (sp true l1 g1).1 = 0 then flushed w1 else w1) := ⟨_, rfl⟩
    have hg2 : Gd 4 w2 (b + 1) := by
      rw [hw2e]
      split
      · exact hg1.flush _
      · exact hg1
    have hmk2 := sp_mk l1 g1
    have hc2 := sp_cases true l1 g1
    show ∃ w', Gd 4 w' (b + 1) ∧ (disk_Disk_Flush.f k (mkD true l1 g1) w1).bind _ = _
    rw [Flush_val (by omega) hg1.keys (by have := hg1.few; omega), Option.bind_some, ← hw2e]
    obtain ⟨e2, l2, g2, hs2⟩ : ∃ e2 l2 g2, sp true l1 g1 = (e2, mkD true l2 g2) := ⟨_, _, _, Prod.ext rfl hmk2⟩
    rw [hs2] at hc2 ⊢
    refine ⟨w2, hg2, ?_⟩
    rcases hc2 with h | h
    · simp only [] at h
      subst h
      rw [if_pos (show (0 : Int) = 0 from rfl), if_pos (show (0 : Int) = 0 from rfl)]
      exact tail_val (β := Unit) hg2 (fun d w => lo ((dn + 1 : Nat) : Int) ((i + 1 : Nat) : Int) d w)
    · simp only [] at h
      subst h
      rw [if_neg (show ¬ (17 : Int) = 0 by decide), if_neg (show ¬ (17 : Int) = 0 by decide), if_pos (show (17 : Int) = 17 from rfl)]
      exact tail_val (β := Unit) hg2 (fun d w => lo (dn : Int) ((i + 1 : Nat) : Int) d w)
  · have er : rnd i left gone = (e1, mkD true l1 g1) := by unfold rnd; rw [if_neg m, hs1]
    rw [if_neg (show ¬ ((i % 3 : Nat) : Int) = 2 by omega), er]
    refine ⟨w1, hg1, ?_⟩
    rcases hc1 with h | h
    · simp only [] at h
      subst h
      rw [if_pos (show (0 : Int) = 0 from rfl), if_pos (show (0 : Int) = 0 from rfl)]
      exact tail_val (β := Unit) hg1 (fun d w => lo ((dn + 1 : Nat) : Int) ((i + 1 : Nat) : Int) d w)
    · simp only [] at h
      subst h
      rw [if_neg (show ¬ (17 : Int) = 0 by decide), if_neg (show ¬ (17 : Int) = 0 by decide), if_pos (show (17 : Int) = 17 from rfl)]
      exact tail_val (β := Unit) hg1 (fun d w => lo (dn : Int) ((i + 1 : Nat) : Int) d w)
theorem lo4_val {n tr : Nat} {a1 : Int} (ha : bits .and .i64 a1 63 = (tr : Int)) (htr : tr ≤ 63) (jo : Int → Dk → Mr → Option Bool) : ∀ (j i dn k b : Nat) (left : Int) (gone : Bool) (w : Mr), i + j = tr → 2 * j + b + 2 < k → dn ≤ i → Iv n i dn left gone → Gd 4 w b →
    ∃ dn' left' gone' w', Iv n tr dn' left' gone' ∧ Gd 4 w' (b + j) ∧ shadowboxlaw05_DiskFuses.lo4 a1 jo k (dn : Int) (i : Int) (mkD true left gone) w = jo (dn' : Int) (mkD true left' gone') w' := by
  intro j
  induction j with
  | zero =>
    intro i dn k b left gone w hi hk hd hI hg
    obtain ⟨k, rfl⟩ : ∃ q, k = q + 1 := ⟨k - 1, by omega⟩
    obtain rfl : i = tr := by omega
    refine ⟨dn, left, gone, w, hI, hg, ?_⟩
    rw [shadowboxlaw05_DiskFuses.lo4, ha, if_neg (by omega)]
  | succ j ih =>
    intro i dn k b left gone w hi hk hd hI hg
    obtain ⟨k, rfl⟩ : ∃ q, k = q + 1 := ⟨k - 1, by omega⟩
    rw [shadowboxlaw05_DiskFuses.lo4, ha, if_pos (by omega)]
    obtain ⟨w', hg', e⟩ := round_val (dn := dn) (i := i) (gone := gone) hI.ge hg (by omega) (by omega) (k := k) (by omega) (shadowboxlaw05_DiskFuses.lo4 a1 jo k)
    rw [e, rnd_mk]
    obtain ⟨dn', left', gone', w'', h1, h2, h3⟩ := ih (i + 1) (if (rnd i left gone).1 = 0 then dn + 1 else dn) k (b + 1) (rnd i left gone).2.2.2.2.1 (rnd i left gone).2.2.2.2.2 w' (by omega) (by omega) (by split <;> omega) hI.step hg'
    exact ⟨dn', left', gone', w'', h1, h2.mono (by omega), h3⟩
theorem lo3_val {tr : Nat} {a0 a1 : Int} (ha : bits .and .i64 a1 63 = (tr : Int)) (htr : tr ≤ 63) (x7 : Int) (d : Dk) (w : Mr) : ∀ (j i k : Nat), i + j = tr → j + 200 < k → ∃ k', 100 < k' ∧ shadowboxlaw05_DiskFuses.lo3 a0 a1 x7 d w k ((U i : Nat) : Int) (i : Int) = (if ((U tr : Nat) : Int) > (bits .and .i64 a0 (31 : Int)) then (disk_Disk_Fuse.f k' ((), (), d.2.2.1, d.2.2.2.1, d.2.2.2.2) w (5 : Int)).bind fun t12 => (disk_Disk_Flush.f k' ((), (), t12.2.2.1, t12.2.2.2.1, t12.2.2.2.2) w).bind fun t15 => (if t15.1 = (17 : Int) then some (decide (x7 ≤ (bits .and .i64 a0 (31 : Int)))) else some false) else some (decide (x7 = (bits .and .i64 a1 (63 : Int))))) := by
  intro j
  induction j with
  | zero =>
    intro i k hi hk
    obtain ⟨k, rfl⟩ : ∃ q, k = q + 1 := ⟨k - 1, by omega⟩
    obtain rfl : i = tr := by omega
    refine ⟨k, by omega, ?_⟩
    rw [shadowboxlaw05_DiskFuses.lo3, if_neg (by omega)]
  | succ j ih =>
    intro i k hi hk
    obtain ⟨k, rfl⟩ : ∃ q, k = q + 1 := ⟨k - 1, by omega⟩
    have hu := U_succ i
    have hub : U i ≤ 100 := by unfold U; omega
    have htm : Int.tmod (i : Int) 3 = ((i % 3 : Nat) : Int) := by
      rw [Int.tmod_eq_emod_of_nonneg (by omega)]
      omega
    obtain ⟨k', h1, h2⟩ := ih (i + 1) k (by omega) (by omega)
    refine ⟨k', h1, ?_⟩
    rw [shadowboxlaw05_DiskFuses.lo3, if_pos (show (i : Int) < bits .and .i64 a1 63 by omega), htm, ← h2, wi64 (n := (i : Int) + 1) (by omega) (by omega), wi64 (n := ((U i : Nat) : Int) + 1) (by omega) (by omega)]
    by_cases m : i % 3 = 2
    · rw [if_pos (show ((i % 3 : Nat) : Int) = 2 by omega)]
      simp only [Sx.lt]
      rw [if_pos m] at hu
      rw [wi64 (by omega) (by omega), show ((U i : Nat) : Int) + 1 + 1 = ((U (i + 1) : Nat) : Int) by omega, show (i : Int) + 1 = ((i + 1 : Nat) : Int) by omega]
    · rw [if_neg (show ¬ ((i % 3 : Nat) : Int) = 2 by omega)]
      rw [if_neg m] at hu
      rw [show ((U i : Nat) : Int) + 1 = ((U (i + 1) : Nat) : Int) by omega, show (i : Int) + 1 = ((i + 1 : Nat) : Int) by omega]
theorem DiskFuses : S.DiskFuses := by
  intro a0 a1 h0 h1
  refine ⟨1000, ?_⟩
  have b0 := andm a0 31 (by omega)
  have b1 := andm a1 63 (by omega)
  obtain ⟨n, hn⟩ : ∃ n : Nat, bits .and .i64 a0 31 = (n : Int) := ⟨(bits .and .i64 a0 31).toNat, by have : 0 ≤ bits .and .i64 a0 31 := b0.1; omega⟩
  obtain ⟨tr, htr⟩ : ∃ n : Nat, bits .and .i64 a1 63 = (n : Int) := ⟨(bits .and .i64 a1 63).toNat, by have : 0 ≤ bits .and .i64 a1 63 := b1.1; omega⟩
  have hn31 : n ≤ 31 := by have : bits .and .i64 a0 31 ≤ 31 := b0.2; omega
  have ht63 : tr ≤ 63 := by have : bits .and .i64 a1 63 ≤ 63 := b1.2; omega
  unfold shadowboxlaw05_DiskFuses.f
  rw [New_val (by decide), Option.bind_some, if_pos rfl]
  unfold shadowboxlaw05_DiskFuses.jo1
  have hf : disk_Disk_Fuse.f 1000 (mkD false 0 false) ([], List.replicate (4 : Int).toNat zs) (bits .and .i64 a0 31) = some (mkD true (n : Int) false) := by
    unfold disk_Disk_Fuse.f
    rw [hn]
    simp only [Sx.lt]
    rw [if_neg (by omega)]
    rfl
  show (disk_Disk_Fuse.f 1000 (mkD false 0 false) ([], List.replicate (4 : Int).toNat zs) (bits .and .i64 a0 31)).bind _ = _
  rw [hf, Option.bind_some]
  have hI : Iv n 0 0 (n : Int) false := ⟨fun _ => ⟨rfl, by show (n : Int) = n - 0; omega, rfl⟩, fun h => by unfold U at h; omega, by omega⟩
  have hg : Gd 4 (([] : List (Int × Vc Int 512)), List.replicate (4 : Int).toNat zs) 0 := ⟨rfl, fun p hp => (by cases hp), Nat.zero_le _⟩
  obtain ⟨dn, left, gone, w, hI', hg', e⟩ := lo4_val (n := n) htr ht63 (shadowboxlaw05_DiskFuses.jo2 1000 a0 a1) tr 0 0 1000 0 (n : Int) false _ (by omega) (by omega) (Nat.le_refl _) hI hg
  refine Eq.trans e ?_
  unfold shadowboxlaw05_DiskFuses.jo2
  obtain ⟨k', hk', e2⟩ := lo3_val (a0 := a0) htr ht63 (dn : Int) (mkD true left gone) w tr 0 1000 (by omega) (by omega)
  refine Eq.trans e2 ?_
  rw [hn, htr]
  by_cases c : ((U tr : Nat) : Int) > (n : Int)
  · rw [if_pos c]
    obtain ⟨rfl, hd⟩ := hI'.hi (by omega)
    have hf2 : disk_Disk_Fuse.f k' (mkD true left true) w 5 = some (mkD true 5 true) := rfl
    show (disk_Disk_Fuse.f k' (mkD true left true) w 5).bind _ = _
    rw [hf2, Option.bind_some]
    show (disk_Disk_Flush.f k' (mkD true 5 true) w).bind _ = _
    rw [Flush_val (by decide) hg'.keys (by have := hg'.few; omega), Option.bind_some, sp_gone, if_pos rfl]
    exact congrArg some (decide_eq_true (by omega))
  · rw [if_neg c]
    obtain ⟨_, _, rfl⟩ := hI'.lo (by omega)
    exact congrArg some (decide_eq_true rfl)
end Go.Proofs.Ytodfejnjfigkoaa.Pure
