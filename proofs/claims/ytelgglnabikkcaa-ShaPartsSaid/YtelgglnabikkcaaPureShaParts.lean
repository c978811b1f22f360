/- The pure statement of ShaParts; no condition. -/
import Derived.Test.YtelgglnabikkcaaSShaParts
import Derived.Test.YtelgglnabikkcaaSht
set_option linter.unusedVariables false
namespace Go.Proofs.Ytelgglnabikkcaa.Pure
open Go Go.RowKit Go.Proofs.Ytelgglnabikkcaa.Sx Go.Proofs.Ytelgglnabikkcaa.G Go.Proofs.Ytelgglnabikkcaa.Bt Go.Proofs.Ytelgglnabikkcaa.Sha
def smS : Nat → Vc Int 8 × Int → List Int → Vc Int 8 × Int
  | 0, s, l => s
  | j + 1, s, l => smS j (blk s (l.take 64)) (l.drop 64)
theorem smS_wf : ∀ (j : Nat) (s : Vc Int 8 × Int) (l : List Int), Wf s → Wf (smS j s l)
  | 0, _, _, h => h
  | j + 1, s, l, h => smS_wf j _ _ (blk_wf h _)
theorem sm_fin : ∀ (j : Nat) (s : Vc Int 8 × Int) (l : List Int), sm j s l = fin (smS j s l) (l.drop (64 * j))
  | 0, _, _ => rfl
  | j + 1, s, l => by
    rw [sm, smS, sm_fin j, List.drop_drop, show 64 + 64 * j = 64 * (j + 1) by omega]
theorem smS_bytes : ∀ (j : Nat) (s : Vc Int 8 × Int) (l : List Int), s.2 + 64 * j < 18446744073709551616 → 0 ≤ s.2 → (smS j s l).2 = s.2 + 64 * j
  | 0, _, _, _, _ => by simp [smS]
  | j + 1, s, l, h, h0 => by
    have hb : (blk s (l.take 64)).2 = s.2 + 64 := by rw [blk_bytes, wu64]; omega
    rw [smS, smS_bytes j _ _ (by rw [hb]; omega) (by rw [hb]; omega), hb]
    omega
theorem Parts_lo3 (jo : List Int → Vc Int 8 × Int → Option Bool) : ∀ (j k : Nat) (s : Vc Int 8 × Int) (l : List Int), Wf s → By l → l.length / 64 = j → l.length ≤ 140737488355000 → j + 130 ≤ k → shadowboxlaw03_ShaParts.lo3 jo k l s = jo (l.drop (64 * j)) (smS j s l) := by
  intro j
  induction j with
  | zero =>
    intro k s l hs hb hj hl hk
    obtain ⟨k, rfl⟩ : ∃ k', k = k' + 1 := ⟨k - 1, by omega⟩
    rw [shadowboxlaw03_ShaParts.lo3, if_neg (by omega)]
    rfl
  | succ j ih =>
    intro k s l hs hb hj hl hk
    obtain ⟨k, rfl⟩ : ∃ k', k = k' + 1 := ⟨k - 1, by omega⟩
    have h64 : 64 ≤ l.length := by omega
    rw [shadowboxlaw03_ShaParts.lo3, if_pos (by omega), if_pos (by omega)]
    simp only [lt]
    rw [show ((64 : Int)).toNat = 64 from rfl, if_pos (by simp; omega), Block_val hs (by rw [vpad_take (by simp; omega)]; exact (hb.take 64).take 64) (by omega)]
    simp only [Option.bind_some]
    rw [vpad_take (by simp; omega), List.take_take, Nat.min_self, ih k _ _ (blk_wf hs _) (hb.drop 64) (by simp; omega) (by simp; omega) (by omega), List.drop_drop, show 64 + 64 * j = 64 * (j + 1) by omega]
    rfl
theorem nil_by : By [] := fun x hx => by cases hx
theorem sum_nil : (sumL []).1.getD 0 0 = 227 := by
  have : decide ((sumL []).1.getD 0 0 = 227) = true := by decide +kernel
  exact of_decide_eq_true this
theorem parts_one {l : List Int} (hb : By l) (hl : l.length ≤ 4000) : shadowboxlaw03_ShaParts.jo1 1000 l = some true := by
  unfold shadowboxlaw03_ShaParts.jo1 sha_Begin.f
  simp only [Option.bind_some]
  have e := Parts_lo3 (shadowboxlaw03_ShaParts.jo2 1000 l) (l.length / 64) 1000 Sha.s0 l s0_wf hb rfl (by omega) (by omega)
  rw [show ((sha_Begin.cst0, 0) : Vc Int 8 × Int) = Sha.s0 from rfl, e]
  unfold shadowboxlaw03_ShaParts.jo2
  simp only [lt]
  have h2 : (smS (l.length / 64) Sha.s0 l).2 = 64 * (l.length / 64 : Nat) := by
    rw [smS_bytes _ _ _ (by show (0 : Int) + _ < _; omega) (by show (0 : Int) ≤ 0; omega)]
    show (0 : Int) + _ = _
    omega
  have hd : (l.drop (64 * (l.length / 64))).length = l.length - 64 * (l.length / 64) := List.length_drop
  rw [h2, hd, wi64 (by omega) (by omega), wu64, if_pos (by omega), End_val (smS_wf _ _ _ s0_wf) (hb.drop _) (by rw [hd]; omega) (by omega), Sum_val hb (by omega) (by omega)]
  simp only [Option.bind_some]
  rw [show endS (smS (l.length / 64) Sha.s0 l) ((l.drop (64 * (l.length / 64))).take 63) (IntKind.wrap .u64 ((smS (l.length / 64) Sha.s0 l).2 + IntKind.wrap .u64 (((l.drop (64 * (l.length / 64))).take 63).length : Int))) = sumL l from (sm_fin _ _ _).symm, if_pos (by simp), Text_val hb (by omega) (by omega), Sum_val nil_by (by simp) (by simp)]
  simp only [Option.bind_some]
  rw [textL_size, if_pos (by omega), if_pos (by omega), show ((0 : Int)).toNat = 0 from rfl, sum_nil]
  rfl
theorem ShaParts : S.ShaParts := by
  intro l hl hw
  refine ⟨1000, ?_⟩
  have hb := lwf hw
  unfold shadowboxlaw03_ShaParts.f
  by_cases h : (l.length : Int) > 4000
  · rw [if_pos h, if_pos (by omega)]
    simp only [lt]
    exact parts_one (hb.take _) (by simp; omega)
  · rw [if_neg h]
    exact parts_one hb (by omega)
end Go.Proofs.Ytelgglnabikkcaa.Pure
