/- The pure statement of ExtentBack; no condition. -/
import Derived.Test.YtiikfaefeonfhaaSExtentBack
import Derived.Test.YtiikfaefeonfhaaExm
set_option linter.unusedVariables false
set_option linter.unusedSimpArgs false
namespace Go.Proofs.Ytiikfaefeonfhaa.Pure
open Go Go.RowKit Go.Proofs.Ytiikfaefeonfhaa.Sx Go.Proofs.Ytiikfaefeonfhaa.G Go.Proofs.Ytiikfaefeonfhaa.Bt Go.Proofs.Ytiikfaefeonfhaa.Ext Go.Proofs.Ytiikfaefeonfhaa.Exv Go.Proofs.Ytiikfaefeonfhaa.Exm

theorem same_lo5 {l : List Sp} (hl : l.length ≤ 1000) : ∀ (j x k : Nat), x + j = l.length → j < k → shadowboxlaw09_ExtentBack.lo5 l l k (x : Int) = some true := by
  intro j
  induction j with
  | zero =>
    intro x k hx hk
    obtain ⟨k, rfl⟩ : ∃ q, k = q + 1 := ⟨k - 1, by omega⟩
    rw [shadowboxlaw09_ExtentBack.lo5, if_neg (by omega)]
  | succ j ih =>
    intro x k hx hk
    obtain ⟨k, rfl⟩ : ∃ q, k = q + 1 := ⟨k - 1, by omega⟩
    rw [shadowboxlaw09_ExtentBack.lo5, if_pos (by omega), if_pos (by omega), if_pos (by omega), if_pos (by simp), wi64 (by omega) (by omega), show ((x : Int) + 1) = ((x + 1 : Nat) : Int) from by omega, ih (x + 1) k (by omega) (by omega)]
theorem other : extent_Has.f 3000 ([((1 : Int), (4 : Int))]) ((1 : Int), (4 : Int)) = some true := by
  rw [Has_val (by simp) (by simp)]
  decide +kernel
theorem jo2_val {l : List Sp} {s : Sp} (hl : l.length ≤ 500) (hv : Vd 1099511627776 l) (h1 : 0 ≤ s.1) (h2 : s.1 < s.2) (h3 : s.2 ≤ 1099511627776) (hm : meetB s.1 s.2 l = false) : shadowboxlaw09_ExtentBack.jo2 3000 s l = some true := by
  have hd : ∀ k, mem l k → ¬ (s.1 ≤ k ∧ k < s.2) := fun k hk hks => by
    have := (meetB_iff (ok_pos hv.1) h2).2 ⟨k, hks.1, hks.2, hk⟩
    rw [hm] at this
    cases this
  have hr : rt s = true := decide_eq_true ⟨h1, h2, h3⟩
  have hva := hv.add h1 h2 h3
  have e1 : addV l s = add l s.1 s.2 := by unfold addV; rw [if_pos (vb_vd.2 hv), if_pos hr]
  have hal := add_len l s.1 s.2
  have e2 : hasV (add l s.1 s.2) s = true := by
    unfold hasV
    rw [if_pos (vb_vd.2 hva), if_pos hr, hasB_iff hva.1 h2]
    intro k hk hk'
    exact (mem_add (ok_pos hv.1) h2).2 (.inr ⟨hk, hk'⟩)
  have e3 : totV (add l s.1 s.2) = totV l + (s.2 - s.1) := by
    unfold totV
    rw [if_pos (vb_vd.2 hva), if_pos (vb_vd.2 hv), tot_add hv h1 h2 h3 hd]
  have e4 : remV (add l s.1 s.2) s = l := by
    unfold remV
    rw [if_pos (vb_vd.2 hva), if_pos hr, rem_add hv.1 h1 h2 hd]
  have e5 : 0 ≤ totV l ∧ totV l ≤ 1099511627777 := by
    unfold totV
    rw [if_pos (vb_vd.2 hv)]
    have := tot_le hv.1 hv.2 (by omega)
    omega
  unfold shadowboxlaw09_ExtentBack.jo2
  rw [Add_val (by omega) (by omega), e1, Option.bind_some, Has_val (by omega) (by omega), e2, Option.bind_some, if_pos rfl, Total_val (by omega) (by omega), e3, Option.bind_some, Total_val (by omega) (by omega), Option.bind_some]
  simp only [lt]
  rw [wi64 (n := totV l + s.2) (by omega) (by omega), wi64 (by omega) (by omega), if_pos (by omega)]
  unfold shadowboxlaw09_ExtentBack.jo3
  rw [Remove_val (by omega) (by omega), e4, Option.bind_some, if_pos rfl]
  exact same_lo5 (by omega) l.length 0 3000 (by omega) (by omega)
theorem jo1_val {l : List Sp} (s : Sp) (hl : l.length ≤ 500) : shadowboxlaw09_ExtentBack.jo1 3000 s l = some true := by
  unfold shadowboxlaw09_ExtentBack.jo1
  rw [Valid_val (by omega) (by omega), Option.bind_some, Meets_val (by omega) (by omega), Option.bind_some, other, Option.bind_some]
  by_cases h : vb (-1) l = true
  · rw [if_pos h]
    cases hm : meetV l s with
    | true => rw [if_pos rfl]
    | false =>
      rw [if_neg (by decide)]
      split
      · rfl
      · split
        · rfl
        · split
          · rfl
          · rename_i h1 h2 h3
            have hr : rt s = true := decide_eq_true ⟨by omega, by omega, by omega⟩
            refine jo2_val hl (vb_vd.1 h) (by omega) (by omega) (by omega) ?_
            unfold meetV at hm
            rwa [if_pos h, if_pos hr] at hm
  · rw [if_neg h]
theorem ExtentBack : S.ExtentBack := by
  intro l s hl hw hs
  refine ⟨3000, ?_⟩
  unfold shadowboxlaw09_ExtentBack.f
  split
  · rw [if_pos (by omega)]
    exact jo1_val s (by simp; omega)
  · exact jo1_val s (by omega)
end Go.Proofs.Ytiikfaefeonfhaa.Pure
