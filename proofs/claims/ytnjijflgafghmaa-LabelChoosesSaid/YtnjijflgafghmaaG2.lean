/- Printed by a program of this session (sz.py): plain functions, and walks that show that the code comes to them; no condition. -/
import Derived.Test.YtnjijflgafghmaaProg
import Derived.Test.YtnjijflgafghmaaTy
import Derived.Test.YtnjijflgafghmaaG0
import Derived.Test.YtnjijflgafghmaaG1
set_option linter.unusedVariables false
set_option linter.unusedSimpArgs false
namespace Go.Proofs.Ytnjijflgafghmaa.G
open Go Go.RowKit Go.Proofs.Ytnjijflgafghmaa.Sx

/-! ### shadowbox/shadowboxref06.Right: function 15 -/
def shadowboxref06_Right.tab1 : List (List Nat) := [[], [0], [0, 1], [0, 1, 2], [0, 1, 2, 3], [0, 1, 2, 3, 4], [0, 1, 2, 3, 4, 5], [0, 1, 2, 3, 4, 5, 6], [0, 1, 2, 3, 4, 5, 6, 7], [0, 1, 2, 3, 4, 5, 6, 7, 8], [0, 1, 2, 3, 4, 5, 6, 7, 8, 9], [0, 1, 2, 3, 4, 5, 6, 7, 8, 9, 10], [0, 1, 2, 3, 4, 5, 6, 7, 8, 9, 10, 11], [0, 1, 2, 3, 4, 5, 6, 7, 8, 9, 10, 11, 12], [0, 1, 2, 3, 4, 5, 6, 7, 8, 9, 10, 11, 12, 13], [0, 1, 2, 3, 4, 5, 6, 7, 8, 9, 10, 11, 12, 13, 14], [0, 1, 2, 3, 4, 5, 6, 7, 8, 9, 10, 11, 12, 13, 14, 15], [0, 1, 2, 3, 4, 5, 6, 7, 8, 9, 10, 11, 12, 13, 14, 15, 16], [0, 1, 2, 3, 4, 5, 6, 7, 8, 9, 10, 11, 12, 13, 14, 15, 16, 17], [0, 1, 2, 3, 4, 5, 6, 7, 8, 9, 10, 11, 12, 13, 14, 15, 16, 17, 18], [0, 1, 2, 3, 4, 5, 6, 7, 8, 9, 10, 11, 12, 13, 14, 15, 16, 17, 18, 19], [0, 1, 2, 3, 4, 5, 6, 7, 8, 9, 10, 11, 12, 13, 14, 15, 16, 17, 18, 19, 20], [0, 1, 2, 3, 4, 5, 6, 7, 8, 9, 10, 11, 12, 13, 14, 15, 16, 17, 18, 19, 20, 21], [0, 1, 2, 3, 4, 5, 6, 7, 8, 9, 10, 11, 12, 13, 14, 15, 16, 17, 18, 19, 20, 21, 22], [0, 1, 2, 3, 4, 5, 6, 7, 8, 9, 10, 11, 12, 13, 14, 15, 16, 17, 18, 19, 20, 21, 22, 23], [0, 1, 2, 3, 4, 5, 6, 7, 8, 9, 10, 11, 12, 13, 14, 15, 16, 17, 18, 19, 20, 21, 22, 23, 24], [0, 1, 2, 3, 4, 5, 6, 7, 8, 9, 10, 11, 12, 13, 14, 15, 16, 17, 18, 19, 20, 21, 22, 23, 24, 25], [0, 1, 2, 3, 4, 5, 6, 7, 8, 9, 10, 11, 12, 13, 14, 15, 16, 17, 18, 19, 20, 21, 22, 23, 24, 25, 26], [0, 1, 2, 3, 4, 5, 6, 7, 8, 9, 10, 11, 12, 13, 14, 15, 16, 17, 18, 19, 20, 21, 22, 23, 24, 25, 26, 27], [0, 1, 2, 3, 4, 5, 6, 7, 8, 9, 10, 11, 12, 13, 14, 15, 16, 17, 18, 19, 20, 21, 22, 23, 24, 25, 26, 27, 28], [0, 1, 2, 3, 4, 5, 6, 7, 8, 9, 10, 11, 12, 13, 14, 15, 16, 17, 18, 19, 20, 21, 22, 23, 24, 25, 26, 27, 28, 29], [0, 1, 2, 3, 4, 5, 6, 7, 8, 9, 10, 11, 12, 13, 14, 15, 16, 17, 18, 19, 20, 21, 22, 23, 24, 25, 26, 27, 28], [0, 1, 2, 3, 4, 5, 6, 7, 8, 9, 10, 11, 12, 13, 14, 15, 16, 17, 18, 19, 20, 21, 22, 23, 24, 25, 26, 27, 28, 31], [0, 1, 2, 3, 4, 5, 6, 7, 8, 9, 10, 11, 12, 13, 14, 15, 16, 17, 18, 19, 20, 21, 22, 23, 24, 25, 26, 27, 28, 29, 30, 31, 32], [0, 1, 2, 3, 4, 5, 6, 7, 8, 9, 10, 11, 12, 13, 14, 15, 16, 17, 18, 19, 20, 21, 22, 23, 24, 25, 26, 27, 28, 29, 30, 31, 32, 33], [0, 1, 2, 3, 4, 5, 6, 7, 8, 9, 10, 11, 12, 13, 14, 15, 16, 17, 18, 19, 20, 21, 22, 23, 24, 25, 26, 27, 28, 29, 30, 31, 32, 33, 34], [0, 1, 2, 3, 4, 5, 6, 7, 8, 9, 10, 11, 12, 13, 14, 15, 16, 17, 18, 19, 20, 21, 22, 23, 24, 25, 26, 27, 28, 29, 30, 31, 32, 33, 34, 35]]
def shadowboxref06_Right.f (k : Nat) (a0 : (Int × Int × Int × Int × (Vc Int 32))) : Option (Bool) :=
  (if a0.2.1 ≥ (1 : Int) then (if a0.2.1 ≤ (1152921504606846976 : Int) then (if a0.2.2.1 ≥ (1 : Int) then (if a0.2.2.1 ≤ (65536 : Int) then (if a0.1 ≥ (2 : Int) then (if a0.1 ≤ (8192 : Int) then (shadowboxref06_Sectors.f k a0).bind fun t10 => some (decide ((IntKind.wrap .i64 (a0.1 + t10)) ≤ (8192 : Int))) else some false) else some false) else some false) else some false) else some false) else some false)
set_option maxRecDepth 100000 in
set_option maxHeartbeats 4000000 in
theorem shadowboxref06_Right.calls (k : Nat) (a0 : (Int × Int × Int × Int × (Vc Int 32))) (r : Bool) (b : Bs) (hs0 : St b (stl []) b.w) (H : shadowboxref06_Right.f k a0 = some r) :
    Calls Try.prog 15 #[.agg ⟨([Value.int .i64 a0.1] ++ ([Value.int .i64 a0.2.1] ++ ([Value.int .i64 a0.2.2.1] ++ ([Value.int .u32 a0.2.2.2.1] ++ en (Value.int .u8) a0.2.2.2.2.1))))⟩] b.w fun e w' => ∃ x : Unit, e = .returned (.bool r) ∧ St b (stl []) w' := by
  unfold shadowboxref06_Right.f at H
  refine enterb (n := 39) Try.func15 rfl (by kernel_rfl) (by kernel_rfl) hs0 ?_
  refine cs_sub (s0) (sub_nil _) ?_
  refine cs_seq ?_
  refine cs_region (l := [_, _]) ?_
  refine ls_new rfl rfl (by kernel_rfl) 0 (fun g => .pointer (some ⟨g, 0, none⟩)) (.cells ⟨([Value.int .i64 a0.1] ++ ([Value.int .i64 a0.2.1] ++ ([Value.int .i64 a0.2.2.1] ++ ([Value.int .u32 a0.2.2.2.1] ++ en (Value.int .u8) a0.2.2.2.2.1))))⟩ 25) (fun w => by kernel_rfl) ?_
  intro g1
  refine ls_val (v := .bool false) rfl rfl (by kernel_rfl) (fun w => by kernel_rfl) ?_
  refine ls_end ?_
  refine qn_then ?_
  refine cs_seq ?_
  obtain ⟨s3_0, hs3_0⟩ : ∃ z : Value → Sto → Prop, z = (fun v R => v = .pointer (some ⟨g1, (0 + 1), none⟩) ∧ R = s0) := ⟨_, rfl⟩
  refine have_op (l := [_, _, _, _, _, _, _, _, _, _, _, _, _, _, _, _, _, _, _, _, _, _, _, _, _, _, _, _, _, _, _, _, _, _, _, _, _]) shadowboxref06_Right.tab1 1 0 (fun sp => sp 0 = s3_0) (fun sp on hA hon => ?_) (fun ops3_0 => ?_)
  · refine ⟨fun o ho vs Rs f' S' w hp hf hx hS hR hs => ?_⟩
    obtain rfl := Option.some.inj ho
    rw [hA, hs3_0]
    refine And.intro (fun a ha => (want_none rfl a ha).trans hon.symm) (And.intro (fun _ => ?_) (fun h => by rw [hon] at h; cases h))
    have hF := fr_next (rfl) ((hx 1 (by kernel_rfl)).trans (by kernel_rfl : (_ : Value) = .pointer (some ⟨g1, 0, none⟩)))
    refine ls_fr hF ?_
    refine ls_val (v := .pointer (some ⟨g1, (0 + 1), none⟩)) rfl rfl (by kernel_rfl) (fun w => by kernel_rfl) ?_
    exact ls_fin s0 (.pointer (some ⟨g1, (0 + 1), none⟩)) (congrArg (fun z => upd z 3 _) hF.symm) ⟨rfl, rfl⟩ (sub_nil _)
  obtain ⟨s3_1, hs3_1⟩ : ∃ z : Value → Sto → Prop, z = (fun v R => v = .int .i64 a0.2.1 ∧ R = s0) := ⟨_, rfl⟩
  refine have_op (l := [_, _, _, _, _, _, _, _, _, _, _, _, _, _, _, _, _, _, _, _, _, _, _, _, _, _, _, _, _, _, _, _, _, _, _, _, _]) shadowboxref06_Right.tab1 1 1 (fun sp => sp 1 = s3_1 ∧ sp 0 = s3_0) (fun sp on hA hon => ?_) (fun ops3_1 => ?_)
  · refine ⟨fun o ho vs Rs f' S' w hp hf hx hS hR hs => ?_⟩
    obtain rfl := Option.some.inj ho
    obtain ⟨hv0, hR0⟩ := (spe hA.2 hs3_0 (hp 0 (by kernel_rfl)))
    rw [hA.1, hs3_1]
    refine And.intro (fun a ha => (want_none rfl a ha).trans hon.symm) (And.intro (fun _ => ?_) (fun h => by rw [hon] at h; cases h))
    have hF := fr_next (rfl) ((hf 0 3 (by kernel_rfl) rfl).trans hv0)
    refine ls_fr hF ?_
    refine ls_load (a0 := ⟨g1, (0 + 1), none⟩) (v := .int .i64 a0.2.1) (de := (TypeDesc.int .i64)) rfl rfl (by kernel_rfl) rfl (by kernel_rfl) (by kernel_rfl) (by kernel_rfl) (fun w1 hs1 => cell_step hs1.below.bw (hs.var (k := 0) ((hS 0 (by kernel_rfl)).trans (by exact rfl)) (Sub4.trans (Sub4.all _) (Sub4.skip (n := 1) (len1 _) (Sub4.head _ _))))) ?_
    exact ls_fin s0 (.int .i64 a0.2.1) (congrArg (fun z => upd z 4 _) hF.symm) ⟨rfl, rfl⟩ (sub_nil _)
  obtain ⟨s3_2, hs3_2⟩ : ∃ z : Value → Sto → Prop, z = (fun v R => v = .bool (decide (a0.2.1 ≥ (1 : Int))) ∧ R = s0) := ⟨_, rfl⟩
  refine have_op (l := [_, _, _, _, _, _, _, _, _, _, _, _, _, _, _, _, _, _, _, _, _, _, _, _, _, _, _, _, _, _, _, _, _, _, _, _, _]) shadowboxref06_Right.tab1 1 2 (fun sp => sp 2 = s3_2 ∧ sp 1 = s3_1) (fun sp on hA hon => ?_) (fun ops3_2 => ?_)
  · refine ⟨fun o ho vs Rs f' S' w hp hf hx hS hR hs => ?_⟩
    obtain rfl := Option.some.inj ho
    obtain ⟨hv1, hR1⟩ := (spe hA.2 hs3_1 (hp 1 (by kernel_rfl)))
    rw [hA.1, hs3_2]
    refine And.intro (fun a ha => (want_none rfl a ha).trans hon.symm) (And.intro (fun _ => ?_) (fun h => by rw [hon] at h; cases h))
    have hF := fr_next (rfl) ((hf 1 4 (by kernel_rfl) rfl).trans hv1)
    refine ls_fr hF ?_
    refine ls_val (v := .bool (decide (a0.2.1 ≥ (1 : Int)))) rfl rfl (by kernel_rfl) (fun w => by kernel_rfl) ?_
    exact ls_fin s0 (.bool (decide (a0.2.1 ≥ (1 : Int)))) (congrArg (fun z => upd z 5 _) hF.symm) ⟨rfl, rfl⟩ (sub_nil _)
  obtain ⟨s3_3, hs3_3⟩ : ∃ z : Value → Sto → Prop, z = (fun v R => v = .bool (decide (a0.2.1 ≥ (1 : Int))) ∧ R = s0) := ⟨_, rfl⟩
  refine have_op (l := [_, _, _, _, _, _, _, _, _, _, _, _, _, _, _, _, _, _, _, _, _, _, _, _, _, _, _, _, _, _, _, _, _, _, _, _, _]) shadowboxref06_Right.tab1 1 3 (fun sp => sp 3 = s3_3 ∧ sp 2 = s3_2) (fun sp on hA hon => ?_) (fun ops3_3 => ?_)
  · refine ⟨fun o ho vs Rs f' S' w hp hf hx hS hR hs => ?_⟩
    obtain rfl := Option.some.inj ho
    obtain ⟨hv2, hR2⟩ := (spe hA.2 hs3_2 (hp 2 (by kernel_rfl)))
    rw [hA.1, hs3_3]
    refine And.intro (fun a ha => (want_none rfl a ha).trans hon.symm) (And.intro (fun _ => ?_) (fun h => by rw [hon] at h; cases h))
    have hF := fr_next (rfl) ((hf 2 5 (by kernel_rfl) rfl).trans hv2)
    refine ls_fr hF ?_
    refine ls_val (v := .bool (decide (a0.2.1 ≥ (1 : Int)))) rfl rfl (by kernel_rfl) (fun w => by kernel_rfl) ?_
    exact ls_fin s0 (.bool (decide (a0.2.1 ≥ (1 : Int)))) (congrArg (fun z => upd z 6 _) hF.symm) ⟨rfl, rfl⟩ (sub_nil _)
  by_cases q4 : a0.2.1 ≥ (1 : Int)
  · replace H := ite_t q4 H
    obtain ⟨s3_4, hs3_4⟩ : ∃ z : Value → Sto → Prop, z = (fun v R => v = .pointer (some ⟨g1, (0 + 1), none⟩) ∧ R = s0) := ⟨_, rfl⟩
    refine have_op (l := [_, _, _, _, _, _, _, _, _, _, _, _, _, _, _, _, _, _, _, _, _, _, _, _, _, _, _, _, _, _, _, _, _, _, _, _, _]) shadowboxref06_Right.tab1 1 4 (fun sp => sp 4 = s3_4 ∧ sp 3 = s3_3) (fun sp on hA hon => ?_) (fun ops3_4 => ?_)
    · refine ⟨fun o ho vs Rs f' S' w hp hf hx hS hR hs => ?_⟩
      obtain rfl := Option.some.inj ho
      obtain ⟨hv3, hR3⟩ := (spe hA.2 hs3_3 (hp 3 (by kernel_rfl)))
      rw [hA.1, hs3_4]
      refine And.intro (fun a ha => (want_is (j := 3) (t := 6) (r := true) rfl rfl (by kernel_rfl) (((hf 3 6 (by kernel_rfl) rfl).trans hv3).trans (congrArg Value.bool (show (decide (a0.2.1 ≥ (1 : Int))) = true from dec_t q4))) rfl a ha).trans hon.symm) (And.intro (fun _ => ?_) (fun h => by rw [hon] at h; cases h))
      have hF := fr_next (fr_next (rfl) ((hx 1 (by kernel_rfl)).trans (by kernel_rfl : (_ : Value) = .pointer (some ⟨g1, 0, none⟩)))) (((hf 3 6 (by kernel_rfl) rfl).trans hv3).trans (congrArg Value.bool (show (decide (a0.2.1 ≥ (1 : Int))) = true from dec_t q4)))
      refine ls_fr hF ?_
      refine ls_val (v := .pointer (some ⟨g1, (0 + 1), none⟩)) rfl rfl (by kernel_rfl) (fun w => by kernel_rfl) ?_
      exact ls_fin s0 (.pointer (some ⟨g1, (0 + 1), none⟩)) (congrArg (fun z => upd z 7 _) hF.symm) ⟨rfl, rfl⟩ (sub_nil _)
    obtain ⟨s3_5, hs3_5⟩ : ∃ z : Value → Sto → Prop, z = (fun v R => v = .int .i64 a0.2.1 ∧ R = s0) := ⟨_, rfl⟩
    refine have_op (l := [_, _, _, _, _, _, _, _, _, _, _, _, _, _, _, _, _, _, _, _, _, _, _, _, _, _, _, _, _, _, _, _, _, _, _, _, _]) shadowboxref06_Right.tab1 1 5 (fun sp => sp 5 = s3_5 ∧ sp 3 = s3_3 ∧ sp 4 = s3_4) (fun sp on hA hon => ?_) (fun ops3_5 => ?_)
    · refine ⟨fun o ho vs Rs f' S' w hp hf hx hS hR hs => ?_⟩
      obtain rfl := Option.some.inj ho
      obtain ⟨hv3, hR3⟩ := (spe hA.2.1 hs3_3 (hp 3 (by kernel_rfl)))
      obtain ⟨hv4, hR4⟩ := (spe hA.2.2 hs3_4 (hp 4 (by kernel_rfl)))
      rw [hA.1, hs3_5]
      refine And.intro (fun a ha => (want_is (j := 3) (t := 6) (r := true) rfl rfl (by kernel_rfl) (((hf 3 6 (by kernel_rfl) rfl).trans hv3).trans (congrArg Value.bool (show (decide (a0.2.1 ≥ (1 : Int))) = true from dec_t q4))) rfl a ha).trans hon.symm) (And.intro (fun _ => ?_) (fun h => by rw [hon] at h; cases h))
      have hF := fr_next (fr_next (rfl) (((hf 3 6 (by kernel_rfl) rfl).trans hv3).trans (congrArg Value.bool (show (decide (a0.2.1 ≥ (1 : Int))) = true from dec_t q4)))) ((hf 4 7 (by kernel_rfl) rfl).trans hv4)
      refine ls_fr hF ?_
      refine ls_load (a0 := ⟨g1, (0 + 1), none⟩) (v := .int .i64 a0.2.1) (de := (TypeDesc.int .i64)) rfl rfl (by kernel_rfl) rfl (by kernel_rfl) (by kernel_rfl) (by kernel_rfl) (fun w1 hs1 => cell_step hs1.below.bw (hs.var (k := 0) ((hS 0 (by kernel_rfl)).trans (by exact rfl)) (Sub4.trans (Sub4.all _) (Sub4.skip (n := 1) (len1 _) (Sub4.head _ _))))) ?_
      exact ls_fin s0 (.int .i64 a0.2.1) (congrArg (fun z => upd z 8 _) hF.symm) ⟨rfl, rfl⟩ (sub_nil _)
    obtain ⟨s3_6, hs3_6⟩ : ∃ z : Value → Sto → Prop, z = (fun v R => v = .bool (decide (a0.2.1 ≤ (1152921504606846976 : Int))) ∧ R = s0) := ⟨_, rfl⟩
    refine have_op (l := [_, _, _, _, _, _, _, _, _, _, _, _, _, _, _, _, _, _, _, _, _, _, _, _, _, _, _, _, _, _, _, _, _, _, _, _, _]) shadowboxref06_Right.tab1 1 6 (fun sp => sp 6 = s3_6 ∧ sp 3 = s3_3 ∧ sp 5 = s3_5) (fun sp on hA hon => ?_) (fun ops3_6 => ?_)
    · refine ⟨fun o ho vs Rs f' S' w hp hf hx hS hR hs => ?_⟩
      obtain rfl := Option.some.inj ho
      obtain ⟨hv3, hR3⟩ := (spe hA.2.1 hs3_3 (hp 3 (by kernel_rfl)))
      obtain ⟨hv5, hR5⟩ := (spe hA.2.2 hs3_5 (hp 5 (by kernel_rfl)))
      rw [hA.1, hs3_6]
      refine And.intro (fun a ha => (want_is (j := 3) (t := 6) (r := true) rfl rfl (by kernel_rfl) (((hf 3 6 (by kernel_rfl) rfl).trans hv3).trans (congrArg Value.bool (show (decide (a0.2.1 ≥ (1 : Int))) = true from dec_t q4))) rfl a ha).trans hon.symm) (And.intro (fun _ => ?_) (fun h => by rw [hon] at h; cases h))
      have hF := fr_next (fr_next (rfl) (((hf 3 6 (by kernel_rfl) rfl).trans hv3).trans (congrArg Value.bool (show (decide (a0.2.1 ≥ (1 : Int))) = true from dec_t q4)))) ((hf 5 8 (by kernel_rfl) rfl).trans hv5)
      refine ls_fr hF ?_
      refine ls_val (v := .bool (decide (a0.2.1 ≤ (1152921504606846976 : Int)))) rfl rfl (by kernel_rfl) (fun w => by kernel_rfl) ?_
      exact ls_fin s0 (.bool (decide (a0.2.1 ≤ (1152921504606846976 : Int)))) (congrArg (fun z => upd z 9 _) hF.symm) ⟨rfl, rfl⟩ (sub_nil _)
    obtain ⟨s3_7, hs3_7⟩ : ∃ z : Value → Sto → Prop, z = (fun v R => v = .bool (decide (a0.2.1 ≤ (1152921504606846976 : Int))) ∧ R = s0) := ⟨_, rfl⟩
    refine have_op (l := [_, _, _, _, _, _, _, _, _, _, _, _, _, _, _, _, _, _, _, _, _, _, _, _, _, _, _, _, _, _, _, _, _, _, _, _, _]) shadowboxref06_Right.tab1 1 7 (fun sp => sp 7 = s3_7 ∧ sp 3 = s3_3 ∧ sp 6 = s3_6) (fun sp on hA hon => ?_) (fun ops3_7 => ?_)
    · refine ⟨fun o ho vs Rs f' S' w hp hf hx hS hR hs => ?_⟩
      obtain rfl := Option.some.inj ho
      obtain ⟨hv3, hR3⟩ := (spe hA.2.1 hs3_3 (hp 3 (by kernel_rfl)))
      obtain ⟨hv6, hR6⟩ := (spe hA.2.2 hs3_6 (hp 6 (by kernel_rfl)))
      rw [hA.1, hs3_7]
      refine And.intro (fun a ha => (want_none rfl a ha).trans hon.symm) (And.intro (fun _ => ?_) (fun h => by rw [hon] at h; cases h))
      have hF := fr_next (fr_next (rfl) (((hf 3 6 (by kernel_rfl) rfl).trans hv3).trans (congrArg Value.bool (show (decide (a0.2.1 ≥ (1 : Int))) = true from dec_t q4)))) ((hf 6 9 (by kernel_rfl) rfl).trans hv6)
      refine ls_fr hF ?_
      refine ls_val (v := .bool (decide (a0.2.1 ≤ (1152921504606846976 : Int)))) rfl rfl (by kernel_rfl) (fun w => by kernel_rfl) ?_
      exact ls_fin s0 (.bool (decide (a0.2.1 ≤ (1152921504606846976 : Int)))) (congrArg (fun z => upd z 10 _) hF.symm) ⟨rfl, rfl⟩ (sub_nil _)
    obtain ⟨s3_8, hs3_8⟩ : ∃ z : Value → Sto → Prop, z = (fun v R => v = .bool (decide (a0.2.1 ≤ (1152921504606846976 : Int))) ∧ R = s0) := ⟨_, rfl⟩
    refine have_op (l := [_, _, _, _, _, _, _, _, _, _, _, _, _, _, _, _, _, _, _, _, _, _, _, _, _, _, _, _, _, _, _, _, _, _, _, _, _]) shadowboxref06_Right.tab1 1 8 (fun sp => sp 8 = s3_8 ∧ sp 7 = s3_7) (fun sp on hA hon => ?_) (fun ops3_8 => ?_)
    · refine ⟨fun o ho vs Rs f' S' w hp hf hx hS hR hs => ?_⟩
      obtain rfl := Option.some.inj ho
      obtain ⟨hv7, hR7⟩ := (spe hA.2 hs3_7 (hp 7 (by kernel_rfl)))
      rw [hA.1, hs3_8]
      refine And.intro (fun a ha => (want_none rfl a ha).trans hon.symm) (And.intro (fun _ => ?_) (fun h => by rw [hon] at h; cases h))
      have hF := fr_next (rfl) ((hf 7 10 (by kernel_rfl) rfl).trans hv7)
      refine ls_fr hF ?_
      refine ls_val (v := .bool (decide (a0.2.1 ≤ (1152921504606846976 : Int)))) rfl rfl (by kernel_rfl) (fun w => by kernel_rfl) ?_
      exact ls_fin s0 (.bool (decide (a0.2.1 ≤ (1152921504606846976 : Int)))) (congrArg (fun z => upd z 11 _) hF.symm) ⟨rfl, rfl⟩ (sub_nil _)
    by_cases q5 : a0.2.1 ≤ (1152921504606846976 : Int)
    · replace H := ite_t q5 H
      obtain ⟨s3_9, hs3_9⟩ : ∃ z : Value → Sto → Prop, z = (fun v R => v = .pointer (some ⟨g1, (0 + 2), none⟩) ∧ R = s0) := ⟨_, rfl⟩
      refine have_op (l := [_, _, _, _, _, _, _, _, _, _, _, _, _, _, _, _, _, _, _, _, _, _, _, _, _, _, _, _, _, _, _, _, _, _, _, _, _]) shadowboxref06_Right.tab1 1 9 (fun sp => sp 9 = s3_9 ∧ sp 8 = s3_8) (fun sp on hA hon => ?_) (fun ops3_9 => ?_)
      · refine ⟨fun o ho vs Rs f' S' w hp hf hx hS hR hs => ?_⟩
        obtain rfl := Option.some.inj ho
        obtain ⟨hv8, hR8⟩ := (spe hA.2 hs3_8 (hp 8 (by kernel_rfl)))
        rw [hA.1, hs3_9]
        refine And.intro (fun a ha => (want_is (j := 8) (t := 11) (r := true) rfl rfl (by kernel_rfl) (((hf 8 11 (by kernel_rfl) rfl).trans hv8).trans (congrArg Value.bool (show (decide (a0.2.1 ≤ (1152921504606846976 : Int))) = true from dec_t q5))) rfl a ha).trans hon.symm) (And.intro (fun _ => ?_) (fun h => by rw [hon] at h; cases h))
        have hF := fr_next (fr_next (rfl) ((hx 1 (by kernel_rfl)).trans (by kernel_rfl : (_ : Value) = .pointer (some ⟨g1, 0, none⟩)))) (((hf 8 11 (by kernel_rfl) rfl).trans hv8).trans (congrArg Value.bool (show (decide (a0.2.1 ≤ (1152921504606846976 : Int))) = true from dec_t q5)))
        refine ls_fr hF ?_
        refine ls_val (v := .pointer (some ⟨g1, (0 + 2), none⟩)) rfl rfl (by kernel_rfl) (fun w => by kernel_rfl) ?_
        exact ls_fin s0 (.pointer (some ⟨g1, (0 + 2), none⟩)) (congrArg (fun z => upd z 12 _) hF.symm) ⟨rfl, rfl⟩ (sub_nil _)
      obtain ⟨s3_10, hs3_10⟩ : ∃ z : Value → Sto → Prop, z = (fun v R => v = .int .i64 a0.2.2.1 ∧ R = s0) := ⟨_, rfl⟩
      refine have_op (l := [_, _, _, _, _, _, _, _, _, _, _, _, _, _, _, _, _, _, _, _, _, _, _, _, _, _, _, _, _, _, _, _, _, _, _, _, _]) shadowboxref06_Right.tab1 1 10 (fun sp => sp 10 = s3_10 ∧ sp 8 = s3_8 ∧ sp 9 = s3_9) (fun sp on hA hon => ?_) (fun ops3_10 => ?_)
      · refine ⟨fun o ho vs Rs f' S' w hp hf hx hS hR hs => ?_⟩
        obtain rfl := Option.some.inj ho
        obtain ⟨hv8, hR8⟩ := (spe hA.2.1 hs3_8 (hp 8 (by kernel_rfl)))
        obtain ⟨hv9, hR9⟩ := (spe hA.2.2 hs3_9 (hp 9 (by kernel_rfl)))
        rw [hA.1, hs3_10]
        refine And.intro (fun a ha => (want_is (j := 8) (t := 11) (r := true) rfl rfl (by kernel_rfl) (((hf 8 11 (by kernel_rfl) rfl).trans hv8).trans (congrArg Value.bool (show (decide (a0.2.1 ≤ (1152921504606846976 : Int))) = true from dec_t q5))) rfl a ha).trans hon.symm) (And.intro (fun _ => ?_) (fun h => by rw [hon] at h; cases h))
        have hF := fr_next (fr_next (rfl) (((hf 8 11 (by kernel_rfl) rfl).trans hv8).trans (congrArg Value.bool (show (decide (a0.2.1 ≤ (1152921504606846976 : Int))) = true from dec_t q5)))) ((hf 9 12 (by kernel_rfl) rfl).trans hv9)
        refine ls_fr hF ?_
        refine ls_load (a0 := ⟨g1, (0 + 2), none⟩) (v := .int .i64 a0.2.2.1) (de := (TypeDesc.int .i64)) rfl rfl (by kernel_rfl) rfl (by kernel_rfl) (by kernel_rfl) (by kernel_rfl) (fun w1 hs1 => cell_step hs1.below.bw (hs.var (k := 0) ((hS 0 (by kernel_rfl)).trans (by exact rfl)) (Sub4.trans (Sub4.all _) (Sub4.skip (n := 1) (len1 _) (Sub4.skip (n := 1) (len1 _) (Sub4.head _ _)))))) ?_
        exact ls_fin s0 (.int .i64 a0.2.2.1) (congrArg (fun z => upd z 13 _) hF.symm) ⟨rfl, rfl⟩ (sub_nil _)
      obtain ⟨s3_11, hs3_11⟩ : ∃ z : Value → Sto → Prop, z = (fun v R => v = .bool (decide (a0.2.2.1 ≥ (1 : Int))) ∧ R = s0) := ⟨_, rfl⟩
      refine have_op (l := [_, _, _, _, _, _, _, _, _, _, _, _, _, _, _, _, _, _, _, _, _, _, _, _, _, _, _, _, _, _, _, _, _, _, _, _, _]) shadowboxref06_Right.tab1 1 11 (fun sp => sp 11 = s3_11 ∧ sp 8 = s3_8 ∧ sp 10 = s3_10) (fun sp on hA hon => ?_) (fun ops3_11 => ?_)
      · refine ⟨fun o ho vs Rs f' S' w hp hf hx hS hR hs => ?_⟩
        obtain rfl := Option.some.inj ho
        obtain ⟨hv8, hR8⟩ := (spe hA.2.1 hs3_8 (hp 8 (by kernel_rfl)))
        obtain ⟨hv10, hR10⟩ := (spe hA.2.2 hs3_10 (hp 10 (by kernel_rfl)))
        rw [hA.1, hs3_11]
        refine And.intro (fun a ha => (want_is (j := 8) (t := 11) (r := true) rfl rfl (by kernel_rfl) (((hf 8 11 (by kernel_rfl) rfl).trans hv8).trans (congrArg Value.bool (show (decide (a0.2.1 ≤ (1152921504606846976 : Int))) = true from dec_t q5))) rfl a ha).trans hon.symm) (And.intro (fun _ => ?_) (fun h => by rw [hon] at h; cases h))
        have hF := fr_next (fr_next (rfl) (((hf 8 11 (by kernel_rfl) rfl).trans hv8).trans (congrArg Value.bool (show (decide (a0.2.1 ≤ (1152921504606846976 : Int))) = true from dec_t q5)))) ((hf 10 13 (by kernel_rfl) rfl).trans hv10)
        refine ls_fr hF ?_
        refine ls_val (v := .bool (decide (a0.2.2.1 ≥ (1 : Int)))) rfl rfl (by kernel_rfl) (fun w => by kernel_rfl) ?_
        exact ls_fin s0 (.bool (decide (a0.2.2.1 ≥ (1 : Int)))) (congrArg (fun z => upd z 14 _) hF.symm) ⟨rfl, rfl⟩ (sub_nil _)
      obtain ⟨s3_12, hs3_12⟩ : ∃ z : Value → Sto → Prop, z = (fun v R => v = .bool (decide (a0.2.2.1 ≥ (1 : Int))) ∧ R = s0) := ⟨_, rfl⟩
      refine have_op (l := [_, _, _, _, _, _, _, _, _, _, _, _, _, _, _, _, _, _, _, _, _, _, _, _, _, _, _, _, _, _, _, _, _, _, _, _, _]) shadowboxref06_Right.tab1 1 12 (fun sp => sp 12 = s3_12 ∧ sp 8 = s3_8 ∧ sp 11 = s3_11) (fun sp on hA hon => ?_) (fun ops3_12 => ?_)
      · refine ⟨fun o ho vs Rs f' S' w hp hf hx hS hR hs => ?_⟩
        obtain rfl := Option.some.inj ho
        obtain ⟨hv8, hR8⟩ := (spe hA.2.1 hs3_8 (hp 8 (by kernel_rfl)))
        obtain ⟨hv11, hR11⟩ := (spe hA.2.2 hs3_11 (hp 11 (by kernel_rfl)))
        rw [hA.1, hs3_12]
        refine And.intro (fun a ha => (want_none rfl a ha).trans hon.symm) (And.intro (fun _ => ?_) (fun h => by rw [hon] at h; cases h))
        have hF := fr_next (fr_next (rfl) (((hf 8 11 (by kernel_rfl) rfl).trans hv8).trans (congrArg Value.bool (show (decide (a0.2.1 ≤ (1152921504606846976 : Int))) = true from dec_t q5)))) ((hf 11 14 (by kernel_rfl) rfl).trans hv11)
        refine ls_fr hF ?_
        refine ls_val (v := .bool (decide (a0.2.2.1 ≥ (1 : Int)))) rfl rfl (by kernel_rfl) (fun w => by kernel_rfl) ?_
        exact ls_fin s0 (.bool (decide (a0.2.2.1 ≥ (1 : Int)))) (congrArg (fun z => upd z 15 _) hF.symm) ⟨rfl, rfl⟩ (sub_nil _)
      obtain ⟨s3_13, hs3_13⟩ : ∃ z : Value → Sto → Prop, z = (fun v R => v = .bool (decide (a0.2.2.1 ≥ (1 : Int))) ∧ R = s0) := ⟨_, rfl⟩
      refine have_op (l := [_, _, _, _, _, _, _, _, _, _, _, _, _, _, _, _, _, _, _, _, _, _, _, _, _, _, _, _, _, _, _, _, _, _, _, _, _]) shadowboxref06_Right.tab1 1 13 (fun sp => sp 13 = s3_13 ∧ sp 12 = s3_12) (fun sp on hA hon => ?_) (fun ops3_13 => ?_)
      · refine ⟨fun o ho vs Rs f' S' w hp hf hx hS hR hs => ?_⟩
        obtain rfl := Option.some.inj ho
        obtain ⟨hv12, hR12⟩ := (spe hA.2 hs3_12 (hp 12 (by kernel_rfl)))
        rw [hA.1, hs3_13]
        refine And.intro (fun a ha => (want_none rfl a ha).trans hon.symm) (And.intro (fun _ => ?_) (fun h => by rw [hon] at h; cases h))
        have hF := fr_next (rfl) ((hf 12 15 (by kernel_rfl) rfl).trans hv12)
        refine ls_fr hF ?_
        refine ls_val (v := .bool (decide (a0.2.2.1 ≥ (1 : Int)))) rfl rfl (by kernel_rfl) (fun w => by kernel_rfl) ?_
        exact ls_fin s0 (.bool (decide (a0.2.2.1 ≥ (1 : Int)))) (congrArg (fun z => upd z 16 _) hF.symm) ⟨rfl, rfl⟩ (sub_nil _)
      by_cases q6 : a0.2.2.1 ≥ (1 : Int)
      · replace H := ite_t q6 H
        obtain ⟨s3_14, hs3_14⟩ : ∃ z : Value → Sto → Prop, z = (fun v R => v = .pointer (some ⟨g1, (0 + 2), none⟩) ∧ R = s0) := ⟨_, rfl⟩
        refine have_op (l := [_, _, _, _, _, _, _, _, _, _, _, _, _, _, _, _, _, _, _, _, _, _, _, _, _, _, _, _, _, _, _, _, _, _, _, _, _]) shadowboxref06_Right.tab1 1 14 (fun sp => sp 14 = s3_14 ∧ sp 13 = s3_13) (fun sp on hA hon => ?_) (fun ops3_14 => ?_)
        · refine ⟨fun o ho vs Rs f' S' w hp hf hx hS hR hs => ?_⟩
          obtain rfl := Option.some.inj ho
          obtain ⟨hv13, hR13⟩ := (spe hA.2 hs3_13 (hp 13 (by kernel_rfl)))
          rw [hA.1, hs3_14]
          refine And.intro (fun a ha => (want_is (j := 13) (t := 16) (r := true) rfl rfl (by kernel_rfl) (((hf 13 16 (by kernel_rfl) rfl).trans hv13).trans (congrArg Value.bool (show (decide (a0.2.2.1 ≥ (1 : Int))) = true from dec_t q6))) rfl a ha).trans hon.symm) (And.intro (fun _ => ?_) (fun h => by rw [hon] at h; cases h))
          have hF := fr_next (fr_next (rfl) ((hx 1 (by kernel_rfl)).trans (by kernel_rfl : (_ : Value) = .pointer (some ⟨g1, 0, none⟩)))) (((hf 13 16 (by kernel_rfl) rfl).trans hv13).trans (congrArg Value.bool (show (decide (a0.2.2.1 ≥ (1 : Int))) = true from dec_t q6)))
          refine ls_fr hF ?_
          refine ls_val (v := .pointer (some ⟨g1, (0 + 2), none⟩)) rfl rfl (by kernel_rfl) (fun w => by kernel_rfl) ?_
          exact ls_fin s0 (.pointer (some ⟨g1, (0 + 2), none⟩)) (congrArg (fun z => upd z 17 _) hF.symm) ⟨rfl, rfl⟩ (sub_nil _)
        obtain ⟨s3_15, hs3_15⟩ : ∃ z : Value → Sto → Prop, z = (fun v R => v = .int .i64 a0.2.2.1 ∧ R = s0) := ⟨_, rfl⟩
        refine have_op (l := [_, _, _, _, _, _, _, _, _, _, _, _, _, _, _, _, _, _, _, _, _, _, _, _, _, _, _, _, _, _, _, _, _, _, _, _, _]) shadowboxref06_Right.tab1 1 15 (fun sp => sp 15 = s3_15 ∧ sp 13 = s3_13 ∧ sp 14 = s3_14) (fun sp on hA hon => ?_) (fun ops3_15 => ?_)
        · refine ⟨fun o ho vs Rs f' S' w hp hf hx hS hR hs => ?_⟩
          obtain rfl := Option.some.inj ho
          obtain ⟨hv13, hR13⟩ := (spe hA.2.1 hs3_13 (hp 13 (by kernel_rfl)))
          obtain ⟨hv14, hR14⟩ := (spe hA.2.2 hs3_14 (hp 14 (by kernel_rfl)))
          rw [hA.1, hs3_15]
          refine And.intro (fun a ha => (want_is (j := 13) (t := 16) (r := true) rfl rfl (by kernel_rfl) (((hf 13 16 (by kernel_rfl) rfl).trans hv13).trans (congrArg Value.bool (show (decide (a0.2.2.1 ≥ (1 : Int))) = true from dec_t q6))) rfl a ha).trans hon.symm) (And.intro (fun _ => ?_) (fun h => by rw [hon] at h; cases h))
          have hF := fr_next (fr_next (rfl) (((hf 13 16 (by kernel_rfl) rfl).trans hv13).trans (congrArg Value.bool (show (decide (a0.2.2.1 ≥ (1 : Int))) = true from dec_t q6)))) ((hf 14 17 (by kernel_rfl) rfl).trans hv14)
          refine ls_fr hF ?_
          refine ls_load (a0 := ⟨g1, (0 + 2), none⟩) (v := .int .i64 a0.2.2.1) (de := (TypeDesc.int .i64)) rfl rfl (by kernel_rfl) rfl (by kernel_rfl) (by kernel_rfl) (by kernel_rfl) (fun w1 hs1 => cell_step hs1.below.bw (hs.var (k := 0) ((hS 0 (by kernel_rfl)).trans (by exact rfl)) (Sub4.trans (Sub4.all _) (Sub4.skip (n := 1) (len1 _) (Sub4.skip (n := 1) (len1 _) (Sub4.head _ _)))))) ?_
          exact ls_fin s0 (.int .i64 a0.2.2.1) (congrArg (fun z => upd z 18 _) hF.symm) ⟨rfl, rfl⟩ (sub_nil _)
        obtain ⟨s3_16, hs3_16⟩ : ∃ z : Value → Sto → Prop, z = (fun v R => v = .bool (decide (a0.2.2.1 ≤ (65536 : Int))) ∧ R = s0) := ⟨_, rfl⟩
        refine have_op (l := [_, _, _, _, _, _, _, _, _, _, _, _, _, _, _, _, _, _, _, _, _, _, _, _, _, _, _, _, _, _, _, _, _, _, _, _, _]) shadowboxref06_Right.tab1 1 16 (fun sp => sp 16 = s3_16 ∧ sp 13 = s3_13 ∧ sp 15 = s3_15) (fun sp on hA hon => ?_) (fun ops3_16 => ?_)
        · refine ⟨fun o ho vs Rs f' S' w hp hf hx hS hR hs => ?_⟩
          obtain rfl := Option.some.inj ho
          obtain ⟨hv13, hR13⟩ := (spe hA.2.1 hs3_13 (hp 13 (by kernel_rfl)))
          obtain ⟨hv15, hR15⟩ := (spe hA.2.2 hs3_15 (hp 15 (by kernel_rfl)))
          rw [hA.1, hs3_16]
          refine And.intro (fun a ha => (want_is (j := 13) (t := 16) (r := true) rfl rfl (by kernel_rfl) (((hf 13 16 (by kernel_rfl) rfl).trans hv13).trans (congrArg Value.bool (show (decide (a0.2.2.1 ≥ (1 : Int))) = true from dec_t q6))) rfl a ha).trans hon.symm) (And.intro (fun _ => ?_) (fun h => by rw [hon] at h; cases h))
          have hF := fr_next (fr_next (rfl) (((hf 13 16 (by kernel_rfl) rfl).trans hv13).trans (congrArg Value.bool (show (decide (a0.2.2.1 ≥ (1 : Int))) = true from dec_t q6)))) ((hf 15 18 (by kernel_rfl) rfl).trans hv15)
          refine ls_fr hF ?_
          refine ls_val (v := .bool (decide (a0.2.2.1 ≤ (65536 : Int)))) rfl rfl (by kernel_rfl) (fun w => by kernel_rfl) ?_
          exact ls_fin s0 (.bool (decide (a0.2.2.1 ≤ (65536 : Int)))) (congrArg (fun z => upd z 19 _) hF.symm) ⟨rfl, rfl⟩ (sub_nil _)
        obtain ⟨s3_17, hs3_17⟩ : ∃ z : Value → Sto → Prop, z = (fun v R => v = .bool (decide (a0.2.2.1 ≤ (65536 : Int))) ∧ R = s0) := ⟨_, rfl⟩
        refine have_op (l := [_, _, _, _, _, _, _, _, _, _, _, _, _, _, _, _, _, _, _, _, _, _, _, _, _, _, _, _, _, _, _, _, _, _, _, _, _]) shadowboxref06_Right.tab1 1 17 (fun sp => sp 17 = s3_17 ∧ sp 13 = s3_13 ∧ sp 16 = s3_16) (fun sp on hA hon => ?_) (fun ops3_17 => ?_)
        · refine ⟨fun o ho vs Rs f' S' w hp hf hx hS hR hs => ?_⟩
          obtain rfl := Option.some.inj ho
          obtain ⟨hv13, hR13⟩ := (spe hA.2.1 hs3_13 (hp 13 (by kernel_rfl)))
          obtain ⟨hv16, hR16⟩ := (spe hA.2.2 hs3_16 (hp 16 (by kernel_rfl)))
          rw [hA.1, hs3_17]
          refine And.intro (fun a ha => (want_none rfl a ha).trans hon.symm) (And.intro (fun _ => ?_) (fun h => by rw [hon] at h; cases h))
          have hF := fr_next (fr_next (rfl) (((hf 13 16 (by kernel_rfl) rfl).trans hv13).trans (congrArg Value.bool (show (decide (a0.2.2.1 ≥ (1 : Int))) = true from dec_t q6)))) ((hf 16 19 (by kernel_rfl) rfl).trans hv16)
          refine ls_fr hF ?_
          refine ls_val (v := .bool (decide (a0.2.2.1 ≤ (65536 : Int)))) rfl rfl (by kernel_rfl) (fun w => by kernel_rfl) ?_
          exact ls_fin s0 (.bool (decide (a0.2.2.1 ≤ (65536 : Int)))) (congrArg (fun z => upd z 20 _) hF.symm) ⟨rfl, rfl⟩ (sub_nil _)
        obtain ⟨s3_18, hs3_18⟩ : ∃ z : Value → Sto → Prop, z = (fun v R => v = .bool (decide (a0.2.2.1 ≤ (65536 : Int))) ∧ R = s0) := ⟨_, rfl⟩
        refine have_op (l := [_, _, _, _, _, _, _, _, _, _, _, _, _, _, _, _, _, _, _, _, _, _, _, _, _, _, _, _, _, _, _, _, _, _, _, _, _]) shadowboxref06_Right.tab1 1 18 (fun sp => sp 18 = s3_18 ∧ sp 17 = s3_17) (fun sp on hA hon => ?_) (fun ops3_18 => ?_)
        · refine ⟨fun o ho vs Rs f' S' w hp hf hx hS hR hs => ?_⟩
          obtain rfl := Option.some.inj ho
          obtain ⟨hv17, hR17⟩ := (spe hA.2 hs3_17 (hp 17 (by kernel_rfl)))
          rw [hA.1, hs3_18]
          refine And.intro (fun a ha => (want_none rfl a ha).trans hon.symm) (And.intro (fun _ => ?_) (fun h => by rw [hon] at h; cases h))
          have hF := fr_next (rfl) ((hf 17 20 (by kernel_rfl) rfl).trans hv17)
          refine ls_fr hF ?_
          refine ls_val (v := .bool (decide (a0.2.2.1 ≤ (65536 : Int)))) rfl rfl (by kernel_rfl) (fun w => by kernel_rfl) ?_
          exact ls_fin s0 (.bool (decide (a0.2.2.1 ≤ (65536 : Int)))) (congrArg (fun z => upd z 21 _) hF.symm) ⟨rfl, rfl⟩ (sub_nil _)
        by_cases q7 : a0.2.2.1 ≤ (65536 : Int)
        · replace H := ite_t q7 H
          obtain ⟨s3_19, hs3_19⟩ : ∃ z : Value → Sto → Prop, z = (fun v R => v = .pointer (some ⟨g1, (0 + 0), none⟩) ∧ R = s0) := ⟨_, rfl⟩
          refine have_op (l := [_, _, _, _, _, _, _, _, _, _, _, _, _, _, _, _, _, _, _, _, _, _, _, _, _, _, _, _, _, _, _, _, _, _, _, _, _]) shadowboxref06_Right.tab1 1 19 (fun sp => sp 19 = s3_19 ∧ sp 18 = s3_18) (fun sp on hA hon => ?_) (fun ops3_19 => ?_)
          · refine ⟨fun o ho vs Rs f' S' w hp hf hx hS hR hs => ?_⟩
            obtain rfl := Option.some.inj ho
            obtain ⟨hv18, hR18⟩ := (spe hA.2 hs3_18 (hp 18 (by kernel_rfl)))
            rw [hA.1, hs3_19]
            refine And.intro (fun a ha => (want_is (j := 18) (t := 21) (r := true) rfl rfl (by kernel_rfl) (((hf 18 21 (by kernel_rfl) rfl).trans hv18).trans (congrArg Value.bool (show (decide (a0.2.2.1 ≤ (65536 : Int))) = true from dec_t q7))) rfl a ha).trans hon.symm) (And.intro (fun _ => ?_) (fun h => by rw [hon] at h; cases h))
            have hF := fr_next (fr_next (rfl) ((hx 1 (by kernel_rfl)).trans (by kernel_rfl : (_ : Value) = .pointer (some ⟨g1, 0, none⟩)))) (((hf 18 21 (by kernel_rfl) rfl).trans hv18).trans (congrArg Value.bool (show (decide (a0.2.2.1 ≤ (65536 : Int))) = true from dec_t q7)))
            refine ls_fr hF ?_
            refine ls_val (v := .pointer (some ⟨g1, (0 + 0), none⟩)) rfl rfl (by kernel_rfl) (fun w => by kernel_rfl) ?_
            exact ls_fin s0 (.pointer (some ⟨g1, (0 + 0), none⟩)) (congrArg (fun z => upd z 22 _) hF.symm) ⟨rfl, rfl⟩ (sub_nil _)
          obtain ⟨s3_20, hs3_20⟩ : ∃ z : Value → Sto → Prop, z = (fun v R => v = .int .i64 a0.1 ∧ R = s0) := ⟨_, rfl⟩
          refine have_op (l := [_, _, _, _, _, _, _, _, _, _, _, _, _, _, _, _, _, _, _, _, _, _, _, _, _, _, _, _, _, _, _, _, _, _, _, _, _]) shadowboxref06_Right.tab1 1 20 (fun sp => sp 20 = s3_20 ∧ sp 18 = s3_18 ∧ sp 19 = s3_19) (fun sp on hA hon => ?_) (fun ops3_20 => ?_)
          · refine ⟨fun o ho vs Rs f' S' w hp hf hx hS hR hs => ?_⟩
            obtain rfl := Option.some.inj ho
            obtain ⟨hv18, hR18⟩ := (spe hA.2.1 hs3_18 (hp 18 (by kernel_rfl)))
            obtain ⟨hv19, hR19⟩ := (spe hA.2.2 hs3_19 (hp 19 (by kernel_rfl)))
            rw [hA.1, hs3_20]
            refine And.intro (fun a ha => (want_is (j := 18) (t := 21) (r := true) rfl rfl (by kernel_rfl) (((hf 18 21 (by kernel_rfl) rfl).trans hv18).trans (congrArg Value.bool (show (decide (a0.2.2.1 ≤ (65536 : Int))) = true from dec_t q7))) rfl a ha).trans hon.symm) (And.intro (fun _ => ?_) (fun h => by rw [hon] at h; cases h))
            have hF := fr_next (fr_next (rfl) (((hf 18 21 (by kernel_rfl) rfl).trans hv18).trans (congrArg Value.bool (show (decide (a0.2.2.1 ≤ (65536 : Int))) = true from dec_t q7)))) ((hf 19 22 (by kernel_rfl) rfl).trans hv19)
            refine ls_fr hF ?_
            refine ls_load (a0 := ⟨g1, (0 + 0), none⟩) (v := .int .i64 a0.1) (de := (TypeDesc.int .i64)) rfl rfl (by kernel_rfl) rfl (by kernel_rfl) (by kernel_rfl) (by kernel_rfl) (fun w1 hs1 => cell_step hs1.below.bw (hs.var (k := 0) ((hS 0 (by kernel_rfl)).trans (by exact rfl)) (Sub4.trans (Sub4.all _) (Sub4.head _ _)))) ?_
            exact ls_fin s0 (.int .i64 a0.1) (congrArg (fun z => upd z 23 _) hF.symm) ⟨rfl, rfl⟩ (sub_nil _)
          obtain ⟨s3_21, hs3_21⟩ : ∃ z : Value → Sto → Prop, z = (fun v R => v = .bool (decide (a0.1 ≥ (2 : Int))) ∧ R = s0) := ⟨_, rfl⟩
          refine have_op (l := [_, _, _, _, _, _, _, _, _, _, _, _, _, _, _, _, _, _, _, _, _, _, _, _, _, _, _, _, _, _, _, _, _, _, _, _, _]) shadowboxref06_Right.tab1 1 21 (fun sp => sp 21 = s3_21 ∧ sp 18 = s3_18 ∧ sp 20 = s3_20) (fun sp on hA hon => ?_) (fun ops3_21 => ?_)
          · refine ⟨fun o ho vs Rs f' S' w hp hf hx hS hR hs => ?_⟩
            obtain rfl := Option.some.inj ho
            obtain ⟨hv18, hR18⟩ := (spe hA.2.1 hs3_18 (hp 18 (by kernel_rfl)))
            obtain ⟨hv20, hR20⟩ := (spe hA.2.2 hs3_20 (hp 20 (by kernel_rfl)))
            rw [hA.1, hs3_21]
            refine And.intro (fun a ha => (want_is (j := 18) (t := 21) (r := true) rfl rfl (by kernel_rfl) (((hf 18 21 (by kernel_rfl) rfl).trans hv18).trans (congrArg Value.bool (show (decide (a0.2.2.1 ≤ (65536 : Int))) = true from dec_t q7))) rfl a ha).trans hon.symm) (And.intro (fun _ => ?_) (fun h => by rw [hon] at h; cases h))
            have hF := fr_next (fr_next (rfl) (((hf 18 21 (by kernel_rfl) rfl).trans hv18).trans (congrArg Value.bool (show (decide (a0.2.2.1 ≤ (65536 : Int))) = true from dec_t q7)))) ((hf 20 23 (by kernel_rfl) rfl).trans hv20)
            refine ls_fr hF ?_
            refine ls_val (v := .bool (decide (a0.1 ≥ (2 : Int)))) rfl rfl (by kernel_rfl) (fun w => by kernel_rfl) ?_
            exact ls_fin s0 (.bool (decide (a0.1 ≥ (2 : Int)))) (congrArg (fun z => upd z 24 _) hF.symm) ⟨rfl, rfl⟩ (sub_nil _)
          obtain ⟨s3_22, hs3_22⟩ : ∃ z : Value → Sto → Prop, z = (fun v R => v = .bool (decide (a0.1 ≥ (2 : Int))) ∧ R = s0) := ⟨_, rfl⟩
          refine have_op (l := [_, _, _, _, _, _, _, _, _, _, _, _, _, _, _, _, _, _, _, _, _, _, _, _, _, _, _, _, _, _, _, _, _, _, _, _, _]) shadowboxref06_Right.tab1 1 22 (fun sp => sp 22 = s3_22 ∧ sp 18 = s3_18 ∧ sp 21 = s3_21) (fun sp on hA hon => ?_) (fun ops3_22 => ?_)
          · refine ⟨fun o ho vs Rs f' S' w hp hf hx hS hR hs => ?_⟩
            obtain rfl := Option.some.inj ho
            obtain ⟨hv18, hR18⟩ := (spe hA.2.1 hs3_18 (hp 18 (by kernel_rfl)))
            obtain ⟨hv21, hR21⟩ := (spe hA.2.2 hs3_21 (hp 21 (by kernel_rfl)))
            rw [hA.1, hs3_22]
            refine And.intro (fun a ha => (want_none rfl a ha).trans hon.symm) (And.intro (fun _ => ?_) (fun h => by rw [hon] at h; cases h))
            have hF := fr_next (fr_next (rfl) (((hf 18 21 (by kernel_rfl) rfl).trans hv18).trans (congrArg Value.bool (show (decide (a0.2.2.1 ≤ (65536 : Int))) = true from dec_t q7)))) ((hf 21 24 (by kernel_rfl) rfl).trans hv21)
            refine ls_fr hF ?_
            refine ls_val (v := .bool (decide (a0.1 ≥ (2 : Int)))) rfl rfl (by kernel_rfl) (fun w => by kernel_rfl) ?_
            exact ls_fin s0 (.bool (decide (a0.1 ≥ (2 : Int)))) (congrArg (fun z => upd z 25 _) hF.symm) ⟨rfl, rfl⟩ (sub_nil _)
          obtain ⟨s3_23, hs3_23⟩ : ∃ z : Value → Sto → Prop, z = (fun v R => v = .bool (decide (a0.1 ≥ (2 : Int))) ∧ R = s0) := ⟨_, rfl⟩
          refine have_op (l := [_, _, _, _, _, _, _, _, _, _, _, _, _, _, _, _, _, _, _, _, _, _, _, _, _, _, _, _, _, _, _, _, _, _, _, _, _]) shadowboxref06_Right.tab1 1 23 (fun sp => sp 23 = s3_23 ∧ sp 22 = s3_22) (fun sp on hA hon => ?_) (fun ops3_23 => ?_)
          · refine ⟨fun o ho vs Rs f' S' w hp hf hx hS hR hs => ?_⟩
            obtain rfl := Option.some.inj ho
            obtain ⟨hv22, hR22⟩ := (spe hA.2 hs3_22 (hp 22 (by kernel_rfl)))
            rw [hA.1, hs3_23]
            refine And.intro (fun a ha => (want_none rfl a ha).trans hon.symm) (And.intro (fun _ => ?_) (fun h => by rw [hon] at h; cases h))
            have hF := fr_next (rfl) ((hf 22 25 (by kernel_rfl) rfl).trans hv22)
            refine ls_fr hF ?_
            refine ls_val (v := .bool (decide (a0.1 ≥ (2 : Int)))) rfl rfl (by kernel_rfl) (fun w => by kernel_rfl) ?_
            exact ls_fin s0 (.bool (decide (a0.1 ≥ (2 : Int)))) (congrArg (fun z => upd z 26 _) hF.symm) ⟨rfl, rfl⟩ (sub_nil _)
          by_cases q8 : a0.1 ≥ (2 : Int)
          · replace H := ite_t q8 H
            obtain ⟨s3_24, hs3_24⟩ : ∃ z : Value → Sto → Prop, z = (fun v R => v = .pointer (some ⟨g1, (0 + 0), none⟩) ∧ R = s0) := ⟨_, rfl⟩
            refine have_op (l := [_, _, _, _, _, _, _, _, _, _, _, _, _, _, _, _, _, _, _, _, _, _, _, _, _, _, _, _, _, _, _, _, _, _, _, _, _]) shadowboxref06_Right.tab1 1 24 (fun sp => sp 24 = s3_24 ∧ sp 23 = s3_23) (fun sp on hA hon => ?_) (fun ops3_24 => ?_)
            · refine ⟨fun o ho vs Rs f' S' w hp hf hx hS hR hs => ?_⟩
              obtain rfl := Option.some.inj ho
              obtain ⟨hv23, hR23⟩ := (spe hA.2 hs3_23 (hp 23 (by kernel_rfl)))
              rw [hA.1, hs3_24]
              refine And.intro (fun a ha => (want_is (j := 23) (t := 26) (r := true) rfl rfl (by kernel_rfl) (((hf 23 26 (by kernel_rfl) rfl).trans hv23).trans (congrArg Value.bool (show (decide (a0.1 ≥ (2 : Int))) = true from dec_t q8))) rfl a ha).trans hon.symm) (And.intro (fun _ => ?_) (fun h => by rw [hon] at h; cases h))
              have hF := fr_next (fr_next (rfl) ((hx 1 (by kernel_rfl)).trans (by kernel_rfl : (_ : Value) = .pointer (some ⟨g1, 0, none⟩)))) (((hf 23 26 (by kernel_rfl) rfl).trans hv23).trans (congrArg Value.bool (show (decide (a0.1 ≥ (2 : Int))) = true from dec_t q8)))
              refine ls_fr hF ?_
              refine ls_val (v := .pointer (some ⟨g1, (0 + 0), none⟩)) rfl rfl (by kernel_rfl) (fun w => by kernel_rfl) ?_
              exact ls_fin s0 (.pointer (some ⟨g1, (0 + 0), none⟩)) (congrArg (fun z => upd z 27 _) hF.symm) ⟨rfl, rfl⟩ (sub_nil _)
            obtain ⟨s3_25, hs3_25⟩ : ∃ z : Value → Sto → Prop, z = (fun v R => v = .int .i64 a0.1 ∧ R = s0) := ⟨_, rfl⟩
            refine have_op (l := [_, _, _, _, _, _, _, _, _, _, _, _, _, _, _, _, _, _, _, _, _, _, _, _, _, _, _, _, _, _, _, _, _, _, _, _, _]) shadowboxref06_Right.tab1 1 25 (fun sp => sp 25 = s3_25 ∧ sp 23 = s3_23 ∧ sp 24 = s3_24) (fun sp on hA hon => ?_) (fun ops3_25 => ?_)
            · refine ⟨fun o ho vs Rs f' S' w hp hf hx hS hR hs => ?_⟩
              obtain rfl := Option.some.inj ho
              obtain ⟨hv23, hR23⟩ := (spe hA.2.1 hs3_23 (hp 23 (by kernel_rfl)))
              obtain ⟨hv24, hR24⟩ := (spe hA.2.2 hs3_24 (hp 24 (by kernel_rfl)))
              rw [hA.1, hs3_25]
              refine And.intro (fun a ha => (want_is (j := 23) (t := 26) (r := true) rfl rfl (by kernel_rfl) (((hf 23 26 (by kernel_rfl) rfl).trans hv23).trans (congrArg Value.bool (show (decide (a0.1 ≥ (2 : Int))) = true from dec_t q8))) rfl a ha).trans hon.symm) (And.intro (fun _ => ?_) (fun h => by rw [hon] at h; cases h))
              have hF := fr_next (fr_next (rfl) (((hf 23 26 (by kernel_rfl) rfl).trans hv23).trans (congrArg Value.bool (show (decide (a0.1 ≥ (2 : Int))) = true from dec_t q8)))) ((hf 24 27 (by kernel_rfl) rfl).trans hv24)
              refine ls_fr hF ?_
              refine ls_load (a0 := ⟨g1, (0 + 0), none⟩) (v := .int .i64 a0.1) (de := (TypeDesc.int .i64)) rfl rfl (by kernel_rfl) rfl (by kernel_rfl) (by kernel_rfl) (by kernel_rfl) (fun w1 hs1 => cell_step hs1.below.bw (hs.var (k := 0) ((hS 0 (by kernel_rfl)).trans (by exact rfl)) (Sub4.trans (Sub4.all _) (Sub4.head _ _)))) ?_
              exact ls_fin s0 (.int .i64 a0.1) (congrArg (fun z => upd z 28 _) hF.symm) ⟨rfl, rfl⟩ (sub_nil _)
            obtain ⟨s3_26, hs3_26⟩ : ∃ z : Value → Sto → Prop, z = (fun v R => v = .bool (decide (a0.1 ≤ (8192 : Int))) ∧ R = s0) := ⟨_, rfl⟩
            refine have_op (l := [_, _, _, _, _, _, _, _, _, _, _, _, _, _, _, _, _, _, _, _, _, _, _, _, _, _, _, _, _, _, _, _, _, _, _, _, _]) shadowboxref06_Right.tab1 1 26 (fun sp => sp 26 = s3_26 ∧ sp 23 = s3_23 ∧ sp 25 = s3_25) (fun sp on hA hon => ?_) (fun ops3_26 => ?_)
            · refine ⟨fun o ho vs Rs f' S' w hp hf hx hS hR hs => ?_⟩
              obtain rfl := Option.some.inj ho
              obtain ⟨hv23, hR23⟩ := (spe hA.2.1 hs3_23 (hp 23 (by kernel_rfl)))
              obtain ⟨hv25, hR25⟩ := (spe hA.2.2 hs3_25 (hp 25 (by kernel_rfl)))
              rw [hA.1, hs3_26]
              refine And.intro (fun a ha => (want_is (j := 23) (t := 26) (r := true) rfl rfl (by kernel_rfl) (((hf 23 26 (by kernel_rfl) rfl).trans hv23).trans (congrArg Value.bool (show (decide (a0.1 ≥ (2 : Int))) = true from dec_t q8))) rfl a ha).trans hon.symm) (And.intro (fun _ => ?_) (fun h => by rw [hon] at h; cases h))
              have hF := fr_next (fr_next (rfl) (((hf 23 26 (by kernel_rfl) rfl).trans hv23).trans (congrArg Value.bool (show (decide (a0.1 ≥ (2 : Int))) = true from dec_t q8)))) ((hf 25 28 (by kernel_rfl) rfl).trans hv25)
              refine ls_fr hF ?_
              refine ls_val (v := .bool (decide (a0.1 ≤ (8192 : Int)))) rfl rfl (by kernel_rfl) (fun w => by kernel_rfl) ?_
              exact ls_fin s0 (.bool (decide (a0.1 ≤ (8192 : Int)))) (congrArg (fun z => upd z 29 _) hF.symm) ⟨rfl, rfl⟩ (sub_nil _)
            obtain ⟨s3_27, hs3_27⟩ : ∃ z : Value → Sto → Prop, z = (fun v R => v = .bool (decide (a0.1 ≤ (8192 : Int))) ∧ R = s0) := ⟨_, rfl⟩
            refine have_op (l := [_, _, _, _, _, _, _, _, _, _, _, _, _, _, _, _, _, _, _, _, _, _, _, _, _, _, _, _, _, _, _, _, _, _, _, _, _]) shadowboxref06_Right.tab1 1 27 (fun sp => sp 27 = s3_27 ∧ sp 23 = s3_23 ∧ sp 26 = s3_26) (fun sp on hA hon => ?_) (fun ops3_27 => ?_)
            · refine ⟨fun o ho vs Rs f' S' w hp hf hx hS hR hs => ?_⟩
              obtain rfl := Option.some.inj ho
              obtain ⟨hv23, hR23⟩ := (spe hA.2.1 hs3_23 (hp 23 (by kernel_rfl)))
              obtain ⟨hv26, hR26⟩ := (spe hA.2.2 hs3_26 (hp 26 (by kernel_rfl)))
              rw [hA.1, hs3_27]
              refine And.intro (fun a ha => (want_none rfl a ha).trans hon.symm) (And.intro (fun _ => ?_) (fun h => by rw [hon] at h; cases h))
              have hF := fr_next (fr_next (rfl) (((hf 23 26 (by kernel_rfl) rfl).trans hv23).trans (congrArg Value.bool (show (decide (a0.1 ≥ (2 : Int))) = true from dec_t q8)))) ((hf 26 29 (by kernel_rfl) rfl).trans hv26)
              refine ls_fr hF ?_
              refine ls_val (v := .bool (decide (a0.1 ≤ (8192 : Int)))) rfl rfl (by kernel_rfl) (fun w => by kernel_rfl) ?_
              exact ls_fin s0 (.bool (decide (a0.1 ≤ (8192 : Int)))) (congrArg (fun z => upd z 30 _) hF.symm) ⟨rfl, rfl⟩ (sub_nil _)
            obtain ⟨s3_28, hs3_28⟩ : ∃ z : Value → Sto → Prop, z = (fun v R => v = .bool (decide (a0.1 ≤ (8192 : Int))) ∧ R = s0) := ⟨_, rfl⟩
            refine have_op (l := [_, _, _, _, _, _, _, _, _, _, _, _, _, _, _, _, _, _, _, _, _, _, _, _, _, _, _, _, _, _, _, _, _, _, _, _, _]) shadowboxref06_Right.tab1 1 28 (fun sp => sp 28 = s3_28 ∧ sp 27 = s3_27) (fun sp on hA hon => ?_) (fun ops3_28 => ?_)
            · refine ⟨fun o ho vs Rs f' S' w hp hf hx hS hR hs => ?_⟩
              obtain rfl := Option.some.inj ho
              obtain ⟨hv27, hR27⟩ := (spe hA.2 hs3_27 (hp 27 (by kernel_rfl)))
              rw [hA.1, hs3_28]
              refine And.intro (fun a ha => (want_none rfl a ha).trans hon.symm) (And.intro (fun _ => ?_) (fun h => by rw [hon] at h; cases h))
              have hF := fr_next (rfl) ((hf 27 30 (by kernel_rfl) rfl).trans hv27)
              refine ls_fr hF ?_
              refine ls_val (v := .bool (decide (a0.1 ≤ (8192 : Int)))) rfl rfl (by kernel_rfl) (fun w => by kernel_rfl) ?_
              exact ls_fin s0 (.bool (decide (a0.1 ≤ (8192 : Int)))) (congrArg (fun z => upd z 31 _) hF.symm) ⟨rfl, rfl⟩ (sub_nil _)
            by_cases q9 : a0.1 ≤ (8192 : Int)
            · replace H := ite_t q9 H
              obtain ⟨s3_29, hs3_29⟩ : ∃ z : Value → Sto → Prop, z = (fun v R => v = .pointer (some ⟨g1, (0 + 0), none⟩) ∧ R = s0) := ⟨_, rfl⟩
              refine have_op (l := [_, _, _, _, _, _, _, _, _, _, _, _, _, _, _, _, _, _, _, _, _, _, _, _, _, _, _, _, _, _, _, _, _, _, _, _, _]) shadowboxref06_Right.tab1 1 29 (fun sp => sp 29 = s3_29 ∧ sp 28 = s3_28) (fun sp on hA hon => ?_) (fun ops3_29 => ?_)
              · refine ⟨fun o ho vs Rs f' S' w hp hf hx hS hR hs => ?_⟩
                obtain rfl := Option.some.inj ho
                obtain ⟨hv28, hR28⟩ := (spe hA.2 hs3_28 (hp 28 (by kernel_rfl)))
                rw [hA.1, hs3_29]
                refine And.intro (fun a ha => (want_is (j := 28) (t := 31) (r := true) rfl rfl (by kernel_rfl) (((hf 28 31 (by kernel_rfl) rfl).trans hv28).trans (congrArg Value.bool (show (decide (a0.1 ≤ (8192 : Int))) = true from dec_t q9))) rfl a ha).trans hon.symm) (And.intro (fun _ => ?_) (fun h => by rw [hon] at h; cases h))
                have hF := fr_next (fr_next (rfl) ((hx 1 (by kernel_rfl)).trans (by kernel_rfl : (_ : Value) = .pointer (some ⟨g1, 0, none⟩)))) (((hf 28 31 (by kernel_rfl) rfl).trans hv28).trans (congrArg Value.bool (show (decide (a0.1 ≤ (8192 : Int))) = true from dec_t q9)))
                refine ls_fr hF ?_
                refine ls_val (v := .pointer (some ⟨g1, (0 + 0), none⟩)) rfl rfl (by kernel_rfl) (fun w => by kernel_rfl) ?_
                exact ls_fin s0 (.pointer (some ⟨g1, (0 + 0), none⟩)) (congrArg (fun z => upd z 32 _) hF.symm) ⟨rfl, rfl⟩ (sub_nil _)
              obtain ⟨s3_30, hs3_30⟩ : ∃ z : Value → Sto → Prop, z = (fun v R => v = .int .i64 a0.1 ∧ R = s0) := ⟨_, rfl⟩
              refine have_op (l := [_, _, _, _, _, _, _, _, _, _, _, _, _, _, _, _, _, _, _, _, _, _, _, _, _, _, _, _, _, _, _, _, _, _, _, _, _]) shadowboxref06_Right.tab1 1 30 (fun sp => sp 30 = s3_30 ∧ sp 28 = s3_28 ∧ sp 29 = s3_29) (fun sp on hA hon => ?_) (fun ops3_30 => ?_)
              · refine ⟨fun o ho vs Rs f' S' w hp hf hx hS hR hs => ?_⟩
                obtain rfl := Option.some.inj ho
                obtain ⟨hv28, hR28⟩ := (spe hA.2.1 hs3_28 (hp 28 (by kernel_rfl)))
                obtain ⟨hv29, hR29⟩ := (spe hA.2.2 hs3_29 (hp 29 (by kernel_rfl)))
                rw [hA.1, hs3_30]
                refine And.intro (fun a ha => (want_is (j := 28) (t := 31) (r := true) rfl rfl (by kernel_rfl) (((hf 28 31 (by kernel_rfl) rfl).trans hv28).trans (congrArg Value.bool (show (decide (a0.1 ≤ (8192 : Int))) = true from dec_t q9))) rfl a ha).trans hon.symm) (And.intro (fun _ => ?_) (fun h => by rw [hon] at h; cases h))
                have hF := fr_next (fr_next (rfl) (((hf 28 31 (by kernel_rfl) rfl).trans hv28).trans (congrArg Value.bool (show (decide (a0.1 ≤ (8192 : Int))) = true from dec_t q9)))) ((hf 29 32 (by kernel_rfl) rfl).trans hv29)
                refine ls_fr hF ?_
                refine ls_load (a0 := ⟨g1, (0 + 0), none⟩) (v := .int .i64 a0.1) (de := (TypeDesc.int .i64)) rfl rfl (by kernel_rfl) rfl (by kernel_rfl) (by kernel_rfl) (by kernel_rfl) (fun w1 hs1 => cell_step hs1.below.bw (hs.var (k := 0) ((hS 0 (by kernel_rfl)).trans (by exact rfl)) (Sub4.trans (Sub4.all _) (Sub4.head _ _)))) ?_
                exact ls_fin s0 (.int .i64 a0.1) (congrArg (fun z => upd z 33 _) hF.symm) ⟨rfl, rfl⟩ (sub_nil _)
              obtain ⟨s3_31, hs3_31⟩ : ∃ z : Value → Sto → Prop, z = (fun v R => v = .agg ⟨([Value.int .i64 a0.1] ++ ([Value.int .i64 a0.2.1] ++ ([Value.int .i64 a0.2.2.1] ++ ([Value.int .u32 a0.2.2.2.1] ++ en (Value.int .u8) a0.2.2.2.2.1))))⟩ ∧ R = s0) := ⟨_, rfl⟩
              refine have_op (l := [_, _, _, _, _, _, _, _, _, _, _, _, _, _, _, _, _, _, _, _, _, _, _, _, _, _, _, _, _, _, _, _, _, _, _, _, _]) shadowboxref06_Right.tab1 1 31 (fun sp => sp 31 = s3_31 ∧ sp 28 = s3_28) (fun sp on hA hon => ?_) (fun ops3_31 => ?_)
              · refine ⟨fun o ho vs Rs f' S' w hp hf hx hS hR hs => ?_⟩
                obtain rfl := Option.some.inj ho
                obtain ⟨hv28, hR28⟩ := (spe hA.2 hs3_28 (hp 28 (by kernel_rfl)))
                rw [hA.1, hs3_31]
                refine And.intro (fun a ha => (want_is (j := 28) (t := 31) (r := true) rfl rfl (by kernel_rfl) (((hf 28 31 (by kernel_rfl) rfl).trans hv28).trans (congrArg Value.bool (show (decide (a0.1 ≤ (8192 : Int))) = true from dec_t q9))) rfl a ha).trans hon.symm) (And.intro (fun _ => ?_) (fun h => by rw [hon] at h; cases h))
                have hF := fr_next (fr_next (rfl) ((hx 1 (by kernel_rfl)).trans (by kernel_rfl : (_ : Value) = .pointer (some ⟨g1, 0, none⟩)))) (((hf 28 31 (by kernel_rfl) rfl).trans hv28).trans (congrArg Value.bool (show (decide (a0.1 ≤ (8192 : Int))) = true from dec_t q9)))
                refine ls_fr hF ?_
                refine ls_loadagg (a := ⟨g1, 0, none⟩) (sub := ([Value.int .i64 a0.1] ++ ([Value.int .i64 a0.2.1] ++ ([Value.int .i64 a0.2.2.1] ++ ([Value.int .u32 a0.2.2.2.1] ++ en (Value.int .u8) a0.2.2.2.2.1))))) rfl rfl (by kernel_rfl) rfl (by kernel_rfl) (by kernel_rfl) (by kernel_rfl) (len_app (len1 _) (len_app (len1 _) (len_app (len1 _) (len_app (len1 _) (len_en _ a0.2.2.2.2))))) (fun w1 hs1 => Rd.step (hs.vars (k := 0) ((hS 0 (by kernel_rfl)).trans (by exact rfl)) (Sub4.all _)) hs1.below.bw) ?_
                exact ls_fin s0 (.agg ⟨([Value.int .i64 a0.1] ++ ([Value.int .i64 a0.2.1] ++ ([Value.int .i64 a0.2.2.1] ++ ([Value.int .u32 a0.2.2.2.1] ++ en (Value.int .u8) a0.2.2.2.2.1))))⟩) (congrArg (fun z => upd z 34 _) hF.symm) ⟨rfl, rfl⟩ (sub_nil _)
              obtain ⟨t10, hc11, H⟩ := bind_some H
              obtain ⟨s3_32, hs3_32⟩ : ∃ z : Value → Sto → Prop, z = (fun v R => ∃ x12 : Unit, v = .int .i64 t10 ∧ R = stl []) := ⟨_, rfl⟩
              refine have_op (l := [_, _, _, _, _, _, _, _, _, _, _, _, _, _, _, _, _, _, _, _, _, _, _, _, _, _, _, _, _, _, _, _, _, _, _, _, _]) shadowboxref06_Right.tab1 1 32 (fun sp => sp 32 = s3_32 ∧ sp 28 = s3_28 ∧ sp 31 = s3_31) (fun sp on hA hon => ?_) (fun ops3_32 => ?_)
              · refine ⟨fun o ho vs Rs f' S' w hp hf hx hS hR hs => ?_⟩
                obtain rfl := Option.some.inj ho
                obtain ⟨hv28, hR28⟩ := (spe hA.2.1 hs3_28 (hp 28 (by kernel_rfl)))
                obtain ⟨hv31, hR31⟩ := (spe hA.2.2 hs3_31 (hp 31 (by kernel_rfl)))
                rw [hA.1, hs3_32]
                refine And.intro (fun a ha => (want_is (j := 28) (t := 31) (r := true) rfl rfl (by kernel_rfl) (((hf 28 31 (by kernel_rfl) rfl).trans hv28).trans (congrArg Value.bool (show (decide (a0.1 ≤ (8192 : Int))) = true from dec_t q9))) rfl a ha).trans hon.symm) (And.intro (fun _ => ?_) (fun h => by rw [hon] at h; cases h))
                have hF := fr_next (fr_next (rfl) (((hf 28 31 (by kernel_rfl) rfl).trans hv28).trans (congrArg Value.bool (show (decide (a0.1 ≤ (8192 : Int))) = true from dec_t q9)))) ((hf 31 34 (by kernel_rfl) rfl).trans hv31)
                refine ls_fr hF ?_
                refine ls_call (fid := 17) (vals := #[.agg ⟨([Value.int .i64 a0.1] ++ ([Value.int .i64 a0.2.1] ++ ([Value.int .i64 a0.2.2.1] ++ ([Value.int .u32 a0.2.2.2.1] ++ en (Value.int .u8) a0.2.2.2.2.1))))⟩]) (X := Unit) (fun x => .int .i64 t10) (fun x => stl []) 0 rfl rfl (by kernel_rfl) (fun w => by kernel_rfl) (fun w1 hs1 => shadowboxref06_Sectors.calls k a0 t10 (bw w1) (St.refl w1)  hc11) ?_
                intro x12
                exact ls_fin (stl []) (.int .i64 t10) (congrArg (fun z => upd z 35 _) hF.symm) ⟨x12, rfl, rfl⟩ (sub_join _)
              refine cs_draw shadowboxref06_Right.tab1 33 1 (spl [s3_0, s3_1, s3_2, s3_3, s3_4, s3_5, s3_6, s3_7, s3_8, s3_9, s3_10, s3_11, s3_12, s3_13, s3_14, s3_15, s3_16, s3_17, s3_18, s3_19, s3_20, s3_21, s3_22, s3_23, s3_24, s3_25, s3_26, s3_27, s3_28, s3_29, s3_30, s3_31, s3_32]) (onl [true, true, true, true, true, true, true, true, true, true, true, true, true, true, true, true, true, true, true, true, true, true, true, true, true, true, true, true, true, true, true, true, true]) (by kernel_rfl) (by kernel_rfl) (by kernel_rfl) (by kernel_rfl) (rs := [_, _, _, _]) rfl (by kernel_rfl) (by kernel_rfl) (all_snoc (all_snoc (all_snoc (all_snoc (all_snoc (all_snoc (all_snoc (all_snoc (all_snoc (all_snoc (all_snoc (all_snoc (all_snoc (all_snoc (all_snoc (all_snoc (all_snoc (all_snoc (all_snoc (all_snoc (all_snoc (all_snoc (all_snoc (all_snoc (all_snoc (all_snoc (all_snoc (all_snoc (all_snoc (all_snoc (all_snoc (all_snoc (all_snoc (all_nil) (ops3_0 _ _ rfl rfl)) (ops3_1 _ _ ⟨rfl, rfl⟩ rfl)) (ops3_2 _ _ ⟨rfl, rfl⟩ rfl)) (ops3_3 _ _ ⟨rfl, rfl⟩ rfl)) (ops3_4 _ _ ⟨rfl, rfl⟩ rfl)) (ops3_5 _ _ ⟨rfl, rfl, rfl⟩ rfl)) (ops3_6 _ _ ⟨rfl, rfl, rfl⟩ rfl)) (ops3_7 _ _ ⟨rfl, rfl, rfl⟩ rfl)) (ops3_8 _ _ ⟨rfl, rfl⟩ rfl)) (ops3_9 _ _ ⟨rfl, rfl⟩ rfl)) (ops3_10 _ _ ⟨rfl, rfl, rfl⟩ rfl)) (ops3_11 _ _ ⟨rfl, rfl, rfl⟩ rfl)) (ops3_12 _ _ ⟨rfl, rfl, rfl⟩ rfl)) (ops3_13 _ _ ⟨rfl, rfl⟩ rfl)) (ops3_14 _ _ ⟨rfl, rfl⟩ rfl)) (ops3_15 _ _ ⟨rfl, rfl, rfl⟩ rfl)) (ops3_16 _ _ ⟨rfl, rfl, rfl⟩ rfl)) (ops3_17 _ _ ⟨rfl, rfl, rfl⟩ rfl)) (ops3_18 _ _ ⟨rfl, rfl⟩ rfl)) (ops3_19 _ _ ⟨rfl, rfl⟩ rfl)) (ops3_20 _ _ ⟨rfl, rfl, rfl⟩ rfl)) (ops3_21 _ _ ⟨rfl, rfl, rfl⟩ rfl)) (ops3_22 _ _ ⟨rfl, rfl, rfl⟩ rfl)) (ops3_23 _ _ ⟨rfl, rfl⟩ rfl)) (ops3_24 _ _ ⟨rfl, rfl⟩ rfl)) (ops3_25 _ _ ⟨rfl, rfl, rfl⟩ rfl)) (ops3_26 _ _ ⟨rfl, rfl, rfl⟩ rfl)) (ops3_27 _ _ ⟨rfl, rfl, rfl⟩ rfl)) (ops3_28 _ _ ⟨rfl, rfl⟩ rfl)) (ops3_29 _ _ ⟨rfl, rfl⟩ rfl)) (ops3_30 _ _ ⟨rfl, rfl, rfl⟩ rfl)) (ops3_31 _ _ ⟨rfl, rfl⟩ rfl)) (ops3_32 _ _ ⟨rfl, rfl, rfl⟩ rfl)) ?_
              intro vs Rs f' S' hp hf hx hS hR
              obtain ⟨hv28, hR28⟩ := (spe rfl hs3_28 (hp 28 (by kernel_rfl)))
              obtain ⟨hv30, hR30⟩ := (spe rfl hs3_30 (hp 30 (by kernel_rfl)))
              obtain ⟨x12, hv32, hR32⟩ := (spe rfl hs3_32 (hp 32 (by kernel_rfl)))
              refine ls_fr (F := upd (upd (upd f' 31 (.bool (decide (a0.1 ≤ (8192 : Int))))) 33 (.int .i64 a0.1)) 35 (.int .i64 t10)) (fr_next (fr_next (fr_next (rfl) ((hf 28 31 (by kernel_rfl) rfl).trans hv28)) ((hf 30 33 (by kernel_rfl) rfl).trans hv30)) ((hf 32 35 (by kernel_rfl) rfl).trans hv32)) ?_
              refine ls_sub (s0) (sub_nil _) ?_
              refine ls_know (c := true) (dec_t q9) 31 (by kernel_rfl) ?_
              refine ls_on (j := 28) (t := 31) (b := true) rfl rfl (by kernel_rfl) (by kernel_rfl) ?_
              refine ls_val (v := .int .i64 (IntKind.wrap .i64 (a0.1 + t10))) rfl rfl (by kernel_rfl) (fun w => by kernel_rfl) ?_
              refine ls_on (j := 28) (t := 31) (b := true) rfl rfl (by kernel_rfl) (by kernel_rfl) ?_
              refine ls_val (v := .bool (decide ((IntKind.wrap .i64 (a0.1 + t10)) ≤ (8192 : Int)))) rfl rfl (by kernel_rfl) (fun w => by kernel_rfl) ?_
              refine ls_val (v := .bool (decide ((IntKind.wrap .i64 (a0.1 + t10)) ≤ (8192 : Int)))) rfl rfl (by kernel_rfl) (fun w => by kernel_rfl) ?_
              refine ls_val (v := .bool (decide ((IntKind.wrap .i64 (a0.1 + t10)) ≤ (8192 : Int)))) rfl rfl (by kernel_rfl) (fun w => by kernel_rfl) ?_
              refine ls_end ?_
              refine qn_then ?_
              refine cs_ret' ?_
              obtain rfl := Option.some.inj H
              refine qr_res (rs := [_]) rfl (fun w' hs => ⟨[.bool (decide ((IntKind.wrap .i64 (a0.1 + t10)) ≤ (8192 : Int)))], (res_tmp (by kernel_rfl) (.nil)), (), rfl, hs.pick (ts := []) (cs := []) trivial (by decide)⟩)
            · replace H := ite_f q9 H
              refine cs_draw shadowboxref06_Right.tab1 33 1 (spl [s3_0, s3_1, s3_2, s3_3, s3_4, s3_5, s3_6, s3_7, s3_8, s3_9, s3_10, s3_11, s3_12, s3_13, s3_14, s3_15, s3_16, s3_17, s3_18, s3_19, s3_20, s3_21, s3_22, s3_23, s3_24, s3_25, s3_26, s3_27, s3_28, spu, spu, spu, spu]) (onl [true, true, true, true, true, true, true, true, true, true, true, true, true, true, true, true, true, true, true, true, true, true, true, true, true, true, true, true, true, false, false, false, false]) (by kernel_rfl) (by kernel_rfl) (by kernel_rfl) (by kernel_rfl) (rs := [_, _, _, _]) rfl (by kernel_rfl) (by kernel_rfl) (all_snoc (all_snoc (all_snoc (all_snoc (all_snoc (all_snoc (all_snoc (all_snoc (all_snoc (all_snoc (all_snoc (all_snoc (all_snoc (all_snoc (all_snoc (all_snoc (all_snoc (all_snoc (all_snoc (all_snoc (all_snoc (all_snoc (all_snoc (all_snoc (all_snoc (all_snoc (all_snoc (all_snoc (all_snoc (all_snoc (all_snoc (all_snoc (all_snoc (all_nil) (ops3_0 _ _ rfl rfl)) (ops3_1 _ _ ⟨rfl, rfl⟩ rfl)) (ops3_2 _ _ ⟨rfl, rfl⟩ rfl)) (ops3_3 _ _ ⟨rfl, rfl⟩ rfl)) (ops3_4 _ _ ⟨rfl, rfl⟩ rfl)) (ops3_5 _ _ ⟨rfl, rfl, rfl⟩ rfl)) (ops3_6 _ _ ⟨rfl, rfl, rfl⟩ rfl)) (ops3_7 _ _ ⟨rfl, rfl, rfl⟩ rfl)) (ops3_8 _ _ ⟨rfl, rfl⟩ rfl)) (ops3_9 _ _ ⟨rfl, rfl⟩ rfl)) (ops3_10 _ _ ⟨rfl, rfl, rfl⟩ rfl)) (ops3_11 _ _ ⟨rfl, rfl, rfl⟩ rfl)) (ops3_12 _ _ ⟨rfl, rfl, rfl⟩ rfl)) (ops3_13 _ _ ⟨rfl, rfl⟩ rfl)) (ops3_14 _ _ ⟨rfl, rfl⟩ rfl)) (ops3_15 _ _ ⟨rfl, rfl, rfl⟩ rfl)) (ops3_16 _ _ ⟨rfl, rfl, rfl⟩ rfl)) (ops3_17 _ _ ⟨rfl, rfl, rfl⟩ rfl)) (ops3_18 _ _ ⟨rfl, rfl⟩ rfl)) (ops3_19 _ _ ⟨rfl, rfl⟩ rfl)) (ops3_20 _ _ ⟨rfl, rfl, rfl⟩ rfl)) (ops3_21 _ _ ⟨rfl, rfl, rfl⟩ rfl)) (ops3_22 _ _ ⟨rfl, rfl, rfl⟩ rfl)) (ops3_23 _ _ ⟨rfl, rfl⟩ rfl)) (ops3_24 _ _ ⟨rfl, rfl⟩ rfl)) (ops3_25 _ _ ⟨rfl, rfl, rfl⟩ rfl)) (ops3_26 _ _ ⟨rfl, rfl, rfl⟩ rfl)) (ops3_27 _ _ ⟨rfl, rfl, rfl⟩ rfl)) (ops3_28 _ _ ⟨rfl, rfl⟩ rfl)) (op_offi 29 28 31 true rfl rfl (by kernel_rfl) (by kernel_rfl) rfl (fun v R h => by rw [hs3_28] at h; obtain ⟨h, _⟩ := h; exact h.trans (congrArg Value.bool (show (decide (a0.1 ≤ (8192 : Int))) = false from dec_f q9))) rfl rfl)) (op_offi 30 28 31 true rfl rfl (by kernel_rfl) (by kernel_rfl) rfl (fun v R h => by rw [hs3_28] at h; obtain ⟨h, _⟩ := h; exact h.trans (congrArg Value.bool (show (decide (a0.1 ≤ (8192 : Int))) = false from dec_f q9))) rfl rfl)) (op_offi 31 28 31 true rfl rfl (by kernel_rfl) (by kernel_rfl) rfl (fun v R h => by rw [hs3_28] at h; obtain ⟨h, _⟩ := h; exact h.trans (congrArg Value.bool (show (decide (a0.1 ≤ (8192 : Int))) = false from dec_f q9))) rfl rfl)) (op_offi 32 28 31 true rfl rfl (by kernel_rfl) (by kernel_rfl) rfl (fun v R h => by rw [hs3_28] at h; obtain ⟨h, _⟩ := h; exact h.trans (congrArg Value.bool (show (decide (a0.1 ≤ (8192 : Int))) = false from dec_f q9))) rfl rfl)) ?_
              intro vs Rs f' S' hp hf hx hS hR
              obtain ⟨hv28, hR28⟩ := (spe rfl hs3_28 (hp 28 (by kernel_rfl)))
              obtain ⟨hv30, hR30⟩ := (spe rfl rfl (hp 30 (by kernel_rfl)) : spu _ _)
              obtain ⟨hv32, hR32⟩ := (spe rfl rfl (hp 32 (by kernel_rfl)) : spu _ _)
              refine ls_fr (F := upd f' 31 (.bool (decide (a0.1 ≤ (8192 : Int))))) (fr_next (rfl) ((hf 28 31 (by kernel_rfl) rfl).trans hv28)) ?_
              refine ls_sub (s0) (sub_nil _) ?_
              refine ls_know (c := false) (dec_f q9) 31 (by kernel_rfl) ?_
              refine ls_off (j := 28) (t := 31) (b := true) (c := false) rfl rfl (by kernel_rfl) (by kernel_rfl) rfl rfl (by kernel_rfl) ?_
              refine ls_off (j := 28) (t := 31) (b := true) (c := false) rfl rfl (by kernel_rfl) (by kernel_rfl) rfl rfl (by kernel_rfl) ?_
              refine ls_val (v := .bool false) rfl rfl (by kernel_rfl) (fun w => by kernel_rfl) ?_
              refine ls_val (v := .bool false) rfl rfl (by kernel_rfl) (fun w => by kernel_rfl) ?_
              refine ls_end ?_
              refine qn_then ?_
              refine cs_ret' ?_
              obtain rfl := Option.some.inj H
              refine qr_res (rs := [_]) rfl (fun w' hs => ⟨[.bool false], (res_tmp (by kernel_rfl) (.nil)), (), rfl, hs.pick (ts := []) (cs := []) trivial (by decide)⟩)
          · replace H := ite_f q8 H
            obtain ⟨s3_27, hs3_27⟩ : ∃ z : Value → Sto → Prop, z = (fun v R => v = .bool false ∧ R = s0) := ⟨_, rfl⟩
            refine have_op (l := [_, _, _, _, _, _, _, _, _, _, _, _, _, _, _, _, _, _, _, _, _, _, _, _, _, _, _, _, _, _, _, _, _, _, _, _, _]) shadowboxref06_Right.tab1 1 27 (fun sp => sp 27 = s3_27 ∧ sp 23 = s3_23 ∧ sp 26 = spu) (fun sp on hA hon => ?_) (fun ops3_27 => ?_)
            · refine ⟨fun o ho vs Rs f' S' w hp hf hx hS hR hs => ?_⟩
              obtain rfl := Option.some.inj ho
              obtain ⟨hv23, hR23⟩ := (spe hA.2.1 hs3_23 (hp 23 (by kernel_rfl)))
              obtain ⟨hv26, hR26⟩ := (spe hA.2.2 rfl (hp 26 (by kernel_rfl)) : spu _ _)
              rw [hA.1, hs3_27]
              refine And.intro (fun a ha => (want_none rfl a ha).trans hon.symm) (And.intro (fun _ => ?_) (fun h => by rw [hon] at h; cases h))
              have hF := fr_next (fr_next (rfl) (((hf 23 26 (by kernel_rfl) rfl).trans hv23).trans (congrArg Value.bool (show (decide (a0.1 ≥ (2 : Int))) = false from dec_f q8)))) ((hf 26 29 (by kernel_rfl) rfl).trans hv26)
              refine ls_fr hF ?_
              refine ls_val (v := .bool false) rfl rfl (by kernel_rfl) (fun w => by kernel_rfl) ?_
              exact ls_fin s0 (.bool false) (congrArg (fun z => upd z 30 _) hF.symm) ⟨rfl, rfl⟩ (sub_nil _)
            obtain ⟨s3_28, hs3_28⟩ : ∃ z : Value → Sto → Prop, z = (fun v R => v = .bool false ∧ R = s0) := ⟨_, rfl⟩
            refine have_op (l := [_, _, _, _, _, _, _, _, _, _, _, _, _, _, _, _, _, _, _, _, _, _, _, _, _, _, _, _, _, _, _, _, _, _, _, _, _]) shadowboxref06_Right.tab1 1 28 (fun sp => sp 28 = s3_28 ∧ sp 27 = s3_27) (fun sp on hA hon => ?_) (fun ops3_28 => ?_)
            · refine ⟨fun o ho vs Rs f' S' w hp hf hx hS hR hs => ?_⟩
              obtain rfl := Option.some.inj ho
              obtain ⟨hv27, hR27⟩ := (spe hA.2 hs3_27 (hp 27 (by kernel_rfl)))
              rw [hA.1, hs3_28]
              refine And.intro (fun a ha => (want_none rfl a ha).trans hon.symm) (And.intro (fun _ => ?_) (fun h => by rw [hon] at h; cases h))
              have hF := fr_next (rfl) ((hf 27 30 (by kernel_rfl) rfl).trans hv27)
              refine ls_fr hF ?_
              refine ls_val (v := .bool false) rfl rfl (by kernel_rfl) (fun w => by kernel_rfl) ?_
              exact ls_fin s0 (.bool false) (congrArg (fun z => upd z 31 _) hF.symm) ⟨rfl, rfl⟩ (sub_nil _)
            refine cs_draw shadowboxref06_Right.tab1 33 1 (spl [s3_0, s3_1, s3_2, s3_3, s3_4, s3_5, s3_6, s3_7, s3_8, s3_9, s3_10, s3_11, s3_12, s3_13, s3_14, s3_15, s3_16, s3_17, s3_18, s3_19, s3_20, s3_21, s3_22, s3_23, spu, spu, spu, s3_27, s3_28, spu, spu, spu, spu]) (onl [true, true, true, true, true, true, true, true, true, true, true, true, true, true, true, true, true, true, true, true, true, true, true, true, false, false, false, true, true, false, false, false, false]) (by kernel_rfl) (by kernel_rfl) (by kernel_rfl) (by kernel_rfl) (rs := [_, _, _, _]) rfl (by kernel_rfl) (by kernel_rfl) (all_snoc (all_snoc (all_snoc (all_snoc (all_snoc (all_snoc (all_snoc (all_snoc (all_snoc (all_snoc (all_snoc (all_snoc (all_snoc (all_snoc (all_snoc (all_snoc (all_snoc (all_snoc (all_snoc (all_snoc (all_snoc (all_snoc (all_snoc (all_snoc (all_snoc (all_snoc (all_snoc (all_snoc (all_snoc (all_snoc (all_snoc (all_snoc (all_snoc (all_nil) (ops3_0 _ _ rfl rfl)) (ops3_1 _ _ ⟨rfl, rfl⟩ rfl)) (ops3_2 _ _ ⟨rfl, rfl⟩ rfl)) (ops3_3 _ _ ⟨rfl, rfl⟩ rfl)) (ops3_4 _ _ ⟨rfl, rfl⟩ rfl)) (ops3_5 _ _ ⟨rfl, rfl, rfl⟩ rfl)) (ops3_6 _ _ ⟨rfl, rfl, rfl⟩ rfl)) (ops3_7 _ _ ⟨rfl, rfl, rfl⟩ rfl)) (ops3_8 _ _ ⟨rfl, rfl⟩ rfl)) (ops3_9 _ _ ⟨rfl, rfl⟩ rfl)) (ops3_10 _ _ ⟨rfl, rfl, rfl⟩ rfl)) (ops3_11 _ _ ⟨rfl, rfl, rfl⟩ rfl)) (ops3_12 _ _ ⟨rfl, rfl, rfl⟩ rfl)) (ops3_13 _ _ ⟨rfl, rfl⟩ rfl)) (ops3_14 _ _ ⟨rfl, rfl⟩ rfl)) (ops3_15 _ _ ⟨rfl, rfl, rfl⟩ rfl)) (ops3_16 _ _ ⟨rfl, rfl, rfl⟩ rfl)) (ops3_17 _ _ ⟨rfl, rfl, rfl⟩ rfl)) (ops3_18 _ _ ⟨rfl, rfl⟩ rfl)) (ops3_19 _ _ ⟨rfl, rfl⟩ rfl)) (ops3_20 _ _ ⟨rfl, rfl, rfl⟩ rfl)) (ops3_21 _ _ ⟨rfl, rfl, rfl⟩ rfl)) (ops3_22 _ _ ⟨rfl, rfl, rfl⟩ rfl)) (ops3_23 _ _ ⟨rfl, rfl⟩ rfl)) (op_offi 24 23 26 true rfl rfl (by kernel_rfl) (by kernel_rfl) rfl (fun v R h => by rw [hs3_23] at h; obtain ⟨h, _⟩ := h; exact h.trans (congrArg Value.bool (show (decide (a0.1 ≥ (2 : Int))) = false from dec_f q8))) rfl rfl)) (op_offi 25 23 26 true rfl rfl (by kernel_rfl) (by kernel_rfl) rfl (fun v R h => by rw [hs3_23] at h; obtain ⟨h, _⟩ := h; exact h.trans (congrArg Value.bool (show (decide (a0.1 ≥ (2 : Int))) = false from dec_f q8))) rfl rfl)) (op_offi 26 23 26 true rfl rfl (by kernel_rfl) (by kernel_rfl) rfl (fun v R h => by rw [hs3_23] at h; obtain ⟨h, _⟩ := h; exact h.trans (congrArg Value.bool (show (decide (a0.1 ≥ (2 : Int))) = false from dec_f q8))) rfl rfl)) (ops3_27 _ _ ⟨rfl, rfl, rfl⟩ rfl)) (ops3_28 _ _ ⟨rfl, rfl⟩ rfl)) (op_offi 29 28 31 true rfl rfl (by kernel_rfl) (by kernel_rfl) rfl (fun v R h => by rw [hs3_28] at h; obtain ⟨h, _⟩ := h; exact h) rfl rfl)) (op_offi 30 28 31 true rfl rfl (by kernel_rfl) (by kernel_rfl) rfl (fun v R h => by rw [hs3_28] at h; obtain ⟨h, _⟩ := h; exact h) rfl rfl)) (op_offi 31 28 31 true rfl rfl (by kernel_rfl) (by kernel_rfl) rfl (fun v R h => by rw [hs3_28] at h; obtain ⟨h, _⟩ := h; exact h) rfl rfl)) (op_offi 32 28 31 true rfl rfl (by kernel_rfl) (by kernel_rfl) rfl (fun v R h => by rw [hs3_28] at h; obtain ⟨h, _⟩ := h; exact h) rfl rfl)) ?_
            intro vs Rs f' S' hp hf hx hS hR
            obtain ⟨hv28, hR28⟩ := (spe rfl hs3_28 (hp 28 (by kernel_rfl)))
            obtain ⟨hv30, hR30⟩ := (spe rfl rfl (hp 30 (by kernel_rfl)) : spu _ _)
            obtain ⟨hv32, hR32⟩ := (spe rfl rfl (hp 32 (by kernel_rfl)) : spu _ _)
            refine ls_fr (F := upd f' 31 (.bool false)) (fr_next (rfl) ((hf 28 31 (by kernel_rfl) rfl).trans hv28)) ?_
            refine ls_sub (s0) (sub_nil _) ?_
            refine ls_off (j := 28) (t := 31) (b := true) (c := false) rfl rfl (by kernel_rfl) (by kernel_rfl) rfl rfl (by kernel_rfl) ?_
            refine ls_off (j := 28) (t := 31) (b := true) (c := false) rfl rfl (by kernel_rfl) (by kernel_rfl) rfl rfl (by kernel_rfl) ?_
            refine ls_val (v := .bool false) rfl rfl (by kernel_rfl) (fun w => by kernel_rfl) ?_
            refine ls_val (v := .bool false) rfl rfl (by kernel_rfl) (fun w => by kernel_rfl) ?_
            refine ls_end ?_
            refine qn_then ?_
            refine cs_ret' ?_
            obtain rfl := Option.some.inj H
            refine qr_res (rs := [_]) rfl (fun w' hs => ⟨[.bool false], (res_tmp (by kernel_rfl) (.nil)), (), rfl, hs.pick (ts := []) (cs := []) trivial (by decide)⟩)
        · replace H := ite_f q7 H
          obtain ⟨s3_22, hs3_22⟩ : ∃ z : Value → Sto → Prop, z = (fun v R => v = .bool false ∧ R = s0) := ⟨_, rfl⟩
          refine have_op (l := [_, _, _, _, _, _, _, _, _, _, _, _, _, _, _, _, _, _, _, _, _, _, _, _, _, _, _, _, _, _, _, _, _, _, _, _, _]) shadowboxref06_Right.tab1 1 22 (fun sp => sp 22 = s3_22 ∧ sp 18 = s3_18 ∧ sp 21 = spu) (fun sp on hA hon => ?_) (fun ops3_22 => ?_)
          · refine ⟨fun o ho vs Rs f' S' w hp hf hx hS hR hs => ?_⟩
            obtain rfl := Option.some.inj ho
            obtain ⟨hv18, hR18⟩ := (spe hA.2.1 hs3_18 (hp 18 (by kernel_rfl)))
            obtain ⟨hv21, hR21⟩ := (spe hA.2.2 rfl (hp 21 (by kernel_rfl)) : spu _ _)
            rw [hA.1, hs3_22]
            refine And.intro (fun a ha => (want_none rfl a ha).trans hon.symm) (And.intro (fun _ => ?_) (fun h => by rw [hon] at h; cases h))
            have hF := fr_next (fr_next (rfl) (((hf 18 21 (by kernel_rfl) rfl).trans hv18).trans (congrArg Value.bool (show (decide (a0.2.2.1 ≤ (65536 : Int))) = false from dec_f q7)))) ((hf 21 24 (by kernel_rfl) rfl).trans hv21)
            refine ls_fr hF ?_
            refine ls_val (v := .bool false) rfl rfl (by kernel_rfl) (fun w => by kernel_rfl) ?_
            exact ls_fin s0 (.bool false) (congrArg (fun z => upd z 25 _) hF.symm) ⟨rfl, rfl⟩ (sub_nil _)
          obtain ⟨s3_23, hs3_23⟩ : ∃ z : Value → Sto → Prop, z = (fun v R => v = .bool false ∧ R = s0) := ⟨_, rfl⟩
          refine have_op (l := [_, _, _, _, _, _, _, _, _, _, _, _, _, _, _, _, _, _, _, _, _, _, _, _, _, _, _, _, _, _, _, _, _, _, _, _, _]) shadowboxref06_Right.tab1 1 23 (fun sp => sp 23 = s3_23 ∧ sp 22 = s3_22) (fun sp on hA hon => ?_) (fun ops3_23 => ?_)
          · refine ⟨fun o ho vs Rs f' S' w hp hf hx hS hR hs => ?_⟩
            obtain rfl := Option.some.inj ho
            obtain ⟨hv22, hR22⟩ := (spe hA.2 hs3_22 (hp 22 (by kernel_rfl)))
            rw [hA.1, hs3_23]
            refine And.intro (fun a ha => (want_none rfl a ha).trans hon.symm) (And.intro (fun _ => ?_) (fun h => by rw [hon] at h; cases h))
            have hF := fr_next (rfl) ((hf 22 25 (by kernel_rfl) rfl).trans hv22)
            refine ls_fr hF ?_
            refine ls_val (v := .bool false) rfl rfl (by kernel_rfl) (fun w => by kernel_rfl) ?_
            exact ls_fin s0 (.bool false) (congrArg (fun z => upd z 26 _) hF.symm) ⟨rfl, rfl⟩ (sub_nil _)
          obtain ⟨s3_27, hs3_27⟩ : ∃ z : Value → Sto → Prop, z = (fun v R => v = .bool false ∧ R = s0) := ⟨_, rfl⟩
          refine have_op (l := [_, _, _, _, _, _, _, _, _, _, _, _, _, _, _, _, _, _, _, _, _, _, _, _, _, _, _, _, _, _, _, _, _, _, _, _, _]) shadowboxref06_Right.tab1 1 27 (fun sp => sp 27 = s3_27 ∧ sp 23 = s3_23 ∧ sp 26 = spu) (fun sp on hA hon => ?_) (fun ops3_27 => ?_)
          · refine ⟨fun o ho vs Rs f' S' w hp hf hx hS hR hs => ?_⟩
            obtain rfl := Option.some.inj ho
            obtain ⟨hv23, hR23⟩ := (spe hA.2.1 hs3_23 (hp 23 (by kernel_rfl)))
            obtain ⟨hv26, hR26⟩ := (spe hA.2.2 rfl (hp 26 (by kernel_rfl)) : spu _ _)
            rw [hA.1, hs3_27]
            refine And.intro (fun a ha => (want_none rfl a ha).trans hon.symm) (And.intro (fun _ => ?_) (fun h => by rw [hon] at h; cases h))
            have hF := fr_next (fr_next (rfl) ((hf 23 26 (by kernel_rfl) rfl).trans hv23)) ((hf 26 29 (by kernel_rfl) rfl).trans hv26)
            refine ls_fr hF ?_
            refine ls_val (v := .bool false) rfl rfl (by kernel_rfl) (fun w => by kernel_rfl) ?_
            exact ls_fin s0 (.bool false) (congrArg (fun z => upd z 30 _) hF.symm) ⟨rfl, rfl⟩ (sub_nil _)
          obtain ⟨s3_28, hs3_28⟩ : ∃ z : Value → Sto → Prop, z = (fun v R => v = .bool false ∧ R = s0) := ⟨_, rfl⟩
          refine have_op (l := [_, _, _, _, _, _, _, _, _, _, _, _, _, _, _, _, _, _, _, _, _, _, _, _, _, _, _, _, _, _, _, _, _, _, _, _, _]) shadowboxref06_Right.tab1 1 28 (fun sp => sp 28 = s3_28 ∧ sp 27 = s3_27) (fun sp on hA hon => ?_) (fun ops3_28 => ?_)
          · refine ⟨fun o ho vs Rs f' S' w hp hf hx hS hR hs => ?_⟩
            obtain rfl := Option.some.inj ho
            obtain ⟨hv27, hR27⟩ := (spe hA.2 hs3_27 (hp 27 (by kernel_rfl)))
            rw [hA.1, hs3_28]
            refine And.intro (fun a ha => (want_none rfl a ha).trans hon.symm) (And.intro (fun _ => ?_) (fun h => by rw [hon] at h; cases h))
            have hF := fr_next (rfl) ((hf 27 30 (by kernel_rfl) rfl).trans hv27)
            refine ls_fr hF ?_
            refine ls_val (v := .bool false) rfl rfl (by kernel_rfl) (fun w => by kernel_rfl) ?_
            exact ls_fin s0 (.bool false) (congrArg (fun z => upd z 31 _) hF.symm) ⟨rfl, rfl⟩ (sub_nil _)
          refine cs_draw shadowboxref06_Right.tab1 33 1 (spl [s3_0, s3_1, s3_2, s3_3, s3_4, s3_5, s3_6, s3_7, s3_8, s3_9, s3_10, s3_11, s3_12, s3_13, s3_14, s3_15, s3_16, s3_17, s3_18, spu, spu, spu, s3_22, s3_23, spu, spu, spu, s3_27, s3_28, spu, spu, spu, spu]) (onl [true, true, true, true, true, true, true, true, true, true, true, true, true, true, true, true, true, true, true, false, false, false, true, true, false, false, false, true, true, false, false, false, false]) (by kernel_rfl) (by kernel_rfl) (by kernel_rfl) (by kernel_rfl) (rs := [_, _, _, _]) rfl (by kernel_rfl) (by kernel_rfl) (all_snoc (all_snoc (all_snoc (all_snoc (all_snoc (all_snoc (all_snoc (all_snoc (all_snoc (all_snoc (all_snoc (all_snoc (all_snoc (all_snoc (all_snoc (all_snoc (all_snoc (all_snoc (all_snoc (all_snoc (all_snoc (all_snoc (all_snoc (all_snoc (all_snoc (all_snoc (all_snoc (all_snoc (all_snoc (all_snoc (all_snoc (all_snoc (all_snoc (all_nil) (ops3_0 _ _ rfl rfl)) (ops3_1 _ _ ⟨rfl, rfl⟩ rfl)) (ops3_2 _ _ ⟨rfl, rfl⟩ rfl)) (ops3_3 _ _ ⟨rfl, rfl⟩ rfl)) (ops3_4 _ _ ⟨rfl, rfl⟩ rfl)) (ops3_5 _ _ ⟨rfl, rfl, rfl⟩ rfl)) (ops3_6 _ _ ⟨rfl, rfl, rfl⟩ rfl)) (ops3_7 _ _ ⟨rfl, rfl, rfl⟩ rfl)) (ops3_8 _ _ ⟨rfl, rfl⟩ rfl)) (ops3_9 _ _ ⟨rfl, rfl⟩ rfl)) (ops3_10 _ _ ⟨rfl, rfl, rfl⟩ rfl)) (ops3_11 _ _ ⟨rfl, rfl, rfl⟩ rfl)) (ops3_12 _ _ ⟨rfl, rfl, rfl⟩ rfl)) (ops3_13 _ _ ⟨rfl, rfl⟩ rfl)) (ops3_14 _ _ ⟨rfl, rfl⟩ rfl)) (ops3_15 _ _ ⟨rfl, rfl, rfl⟩ rfl)) (ops3_16 _ _ ⟨rfl, rfl, rfl⟩ rfl)) (ops3_17 _ _ ⟨rfl, rfl, rfl⟩ rfl)) (ops3_18 _ _ ⟨rfl, rfl⟩ rfl)) (op_offi 19 18 21 true rfl rfl (by kernel_rfl) (by kernel_rfl) rfl (fun v R h => by rw [hs3_18] at h; obtain ⟨h, _⟩ := h; exact h.trans (congrArg Value.bool (show (decide (a0.2.2.1 ≤ (65536 : Int))) = false from dec_f q7))) rfl rfl)) (op_offi 20 18 21 true rfl rfl (by kernel_rfl) (by kernel_rfl) rfl (fun v R h => by rw [hs3_18] at h; obtain ⟨h, _⟩ := h; exact h.trans (congrArg Value.bool (show (decide (a0.2.2.1 ≤ (65536 : Int))) = false from dec_f q7))) rfl rfl)) (op_offi 21 18 21 true rfl rfl (by kernel_rfl) (by kernel_rfl) rfl (fun v R h => by rw [hs3_18] at h; obtain ⟨h, _⟩ := h; exact h.trans (congrArg Value.bool (show (decide (a0.2.2.1 ≤ (65536 : Int))) = false from dec_f q7))) rfl rfl)) (ops3_22 _ _ ⟨rfl, rfl, rfl⟩ rfl)) (ops3_23 _ _ ⟨rfl, rfl⟩ rfl)) (op_offi 24 23 26 true rfl rfl (by kernel_rfl) (by kernel_rfl) rfl (fun v R h => by rw [hs3_23] at h; obtain ⟨h, _⟩ := h; exact h) rfl rfl)) (op_offi 25 23 26 true rfl rfl (by kernel_rfl) (by kernel_rfl) rfl (fun v R h => by rw [hs3_23] at h; obtain ⟨h, _⟩ := h; exact h) rfl rfl)) (op_offi 26 23 26 true rfl rfl (by kernel_rfl) (by kernel_rfl) rfl (fun v R h => by rw [hs3_23] at h; obtain ⟨h, _⟩ := h; exact h) rfl rfl)) (ops3_27 _ _ ⟨rfl, rfl, rfl⟩ rfl)) (ops3_28 _ _ ⟨rfl, rfl⟩ rfl)) (op_offi 29 28 31 true rfl rfl (by kernel_rfl) (by kernel_rfl) rfl (fun v R h => by rw [hs3_28] at h; obtain ⟨h, _⟩ := h; exact h) rfl rfl)) (op_offi 30 28 31 true rfl rfl (by kernel_rfl) (by kernel_rfl) rfl (fun v R h => by rw [hs3_28] at h; obtain ⟨h, _⟩ := h; exact h) rfl rfl)) (op_offi 31 28 31 true rfl rfl (by kernel_rfl) (by kernel_rfl) rfl (fun v R h => by rw [hs3_28] at h; obtain ⟨h, _⟩ := h; exact h) rfl rfl)) (op_offi 32 28 31 true rfl rfl (by kernel_rfl) (by kernel_rfl) rfl (fun v R h => by rw [hs3_28] at h; obtain ⟨h, _⟩ := h; exact h) rfl rfl)) ?_
          intro vs Rs f' S' hp hf hx hS hR
          obtain ⟨hv28, hR28⟩ := (spe rfl hs3_28 (hp 28 (by kernel_rfl)))
          obtain ⟨hv30, hR30⟩ := (spe rfl rfl (hp 30 (by kernel_rfl)) : spu _ _)
          obtain ⟨hv32, hR32⟩ := (spe rfl rfl (hp 32 (by kernel_rfl)) : spu _ _)
          refine ls_fr (F := upd f' 31 (.bool false)) (fr_next (rfl) ((hf 28 31 (by kernel_rfl) rfl).trans hv28)) ?_
          refine ls_sub (s0) (sub_nil _) ?_
          refine ls_off (j := 28) (t := 31) (b := true) (c := false) rfl rfl (by kernel_rfl) (by kernel_rfl) rfl rfl (by kernel_rfl) ?_
          refine ls_off (j := 28) (t := 31) (b := true) (c := false) rfl rfl (by kernel_rfl) (by kernel_rfl) rfl rfl (by kernel_rfl) ?_
          refine ls_val (v := .bool false) rfl rfl (by kernel_rfl) (fun w => by kernel_rfl) ?_
          refine ls_val (v := .bool false) rfl rfl (by kernel_rfl) (fun w => by kernel_rfl) ?_
          refine ls_end ?_
          refine qn_then ?_
          refine cs_ret' ?_
          obtain rfl := Option.some.inj H
          refine qr_res (rs := [_]) rfl (fun w' hs => ⟨[.bool false], (res_tmp (by kernel_rfl) (.nil)), (), rfl, hs.pick (ts := []) (cs := []) trivial (by decide)⟩)
      · replace H := ite_f q6 H
        obtain ⟨s3_17, hs3_17⟩ : ∃ z : Value → Sto → Prop, z = (fun v R => v = .bool false ∧ R = s0) := ⟨_, rfl⟩
        refine have_op (l := [_, _, _, _, _, _, _, _, _, _, _, _, _, _, _, _, _, _, _, _, _, _, _, _, _, _, _, _, _, _, _, _, _, _, _, _, _]) shadowboxref06_Right.tab1 1 17 (fun sp => sp 17 = s3_17 ∧ sp 13 = s3_13 ∧ sp 16 = spu) (fun sp on hA hon => ?_) (fun ops3_17 => ?_)
        · refine ⟨fun o ho vs Rs f' S' w hp hf hx hS hR hs => ?_⟩
          obtain rfl := Option.some.inj ho
          obtain ⟨hv13, hR13⟩ := (spe hA.2.1 hs3_13 (hp 13 (by kernel_rfl)))
          obtain ⟨hv16, hR16⟩ := (spe hA.2.2 rfl (hp 16 (by kernel_rfl)) : spu _ _)
          rw [hA.1, hs3_17]
          refine And.intro (fun a ha => (want_none rfl a ha).trans hon.symm) (And.intro (fun _ => ?_) (fun h => by rw [hon] at h; cases h))
          have hF := fr_next (fr_next (rfl) (((hf 13 16 (by kernel_rfl) rfl).trans hv13).trans (congrArg Value.bool (show (decide (a0.2.2.1 ≥ (1 : Int))) = false from dec_f q6)))) ((hf 16 19 (by kernel_rfl) rfl).trans hv16)
          refine ls_fr hF ?_
          refine ls_val (v := .bool false) rfl rfl (by kernel_rfl) (fun w => by kernel_rfl) ?_
          exact ls_fin s0 (.bool false) (congrArg (fun z => upd z 20 _) hF.symm) ⟨rfl, rfl⟩ (sub_nil _)
        obtain ⟨s3_18, hs3_18⟩ : ∃ z : Value → Sto → Prop, z = (fun v R => v = .bool false ∧ R = s0) := ⟨_, rfl⟩
        refine have_op (l := [_, _, _, _, _, _, _, _, _, _, _, _, _, _, _, _, _, _, _, _, _, _, _, _, _, _, _, _, _, _, _, _, _, _, _, _, _]) shadowboxref06_Right.tab1 1 18 (fun sp => sp 18 = s3_18 ∧ sp 17 = s3_17) (fun sp on hA hon => ?_) (fun ops3_18 => ?_)
        · refine ⟨fun o ho vs Rs f' S' w hp hf hx hS hR hs => ?_⟩
          obtain rfl := Option.some.inj ho
          obtain ⟨hv17, hR17⟩ := (spe hA.2 hs3_17 (hp 17 (by kernel_rfl)))
          rw [hA.1, hs3_18]
          refine And.intro (fun a ha => (want_none rfl a ha).trans hon.symm) (And.intro (fun _ => ?_) (fun h => by rw [hon] at h; cases h))
          have hF := fr_next (rfl) ((hf 17 20 (by kernel_rfl) rfl).trans hv17)
          refine ls_fr hF ?_
          refine ls_val (v := .bool false) rfl rfl (by kernel_rfl) (fun w => by kernel_rfl) ?_
          exact ls_fin s0 (.bool false) (congrArg (fun z => upd z 21 _) hF.symm) ⟨rfl, rfl⟩ (sub_nil _)
        obtain ⟨s3_22, hs3_22⟩ : ∃ z : Value → Sto → Prop, z = (fun v R => v = .bool false ∧ R = s0) := ⟨_, rfl⟩
        refine have_op (l := [_, _, _, _, _, _, _, _, _, _, _, _, _, _, _, _, _, _, _, _, _, _, _, _, _, _, _, _, _, _, _, _, _, _, _, _, _]) shadowboxref06_Right.tab1 1 22 (fun sp => sp 22 = s3_22 ∧ sp 18 = s3_18 ∧ sp 21 = spu) (fun sp on hA hon => ?_) (fun ops3_22 => ?_)
        · refine ⟨fun o ho vs Rs f' S' w hp hf hx hS hR hs => ?_⟩
          obtain rfl := Option.some.inj ho
          obtain ⟨hv18, hR18⟩ := (spe hA.2.1 hs3_18 (hp 18 (by kernel_rfl)))
          obtain ⟨hv21, hR21⟩ := (spe hA.2.2 rfl (hp 21 (by kernel_rfl)) : spu _ _)
          rw [hA.1, hs3_22]
          refine And.intro (fun a ha => (want_none rfl a ha).trans hon.symm) (And.intro (fun _ => ?_) (fun h => by rw [hon] at h; cases h))
          have hF := fr_next (fr_next (rfl) ((hf 18 21 (by kernel_rfl) rfl).trans hv18)) ((hf 21 24 (by kernel_rfl) rfl).trans hv21)
          refine ls_fr hF ?_
          refine ls_val (v := .bool false) rfl rfl (by kernel_rfl) (fun w => by kernel_rfl) ?_
          exact ls_fin s0 (.bool false) (congrArg (fun z => upd z 25 _) hF.symm) ⟨rfl, rfl⟩ (sub_nil _)
        obtain ⟨s3_23, hs3_23⟩ : ∃ z : Value → Sto → Prop, z = (fun v R => v = .bool false ∧ R = s0) := ⟨_, rfl⟩
        refine have_op (l := [_, _, _, _, _, _, _, _, _, _, _, _, _, _, _, _, _, _, _, _, _, _, _, _, _, _, _, _, _, _, _, _, _, _, _, _, _]) shadowboxref06_Right.tab1 1 23 (fun sp => sp 23 = s3_23 ∧ sp 22 = s3_22) (fun sp on hA hon => ?_) (fun ops3_23 => ?_)
        · refine ⟨fun o ho vs Rs f' S' w hp hf hx hS hR hs => ?_⟩
          obtain rfl := Option.some.inj ho
          obtain ⟨hv22, hR22⟩ := (spe hA.2 hs3_22 (hp 22 (by kernel_rfl)))
          rw [hA.1, hs3_23]
          refine And.intro (fun a ha => (want_none rfl a ha).trans hon.symm) (And.intro (fun _ => ?_) (fun h => by rw [hon] at h; cases h))
          have hF := fr_next (rfl) ((hf 22 25 (by kernel_rfl) rfl).trans hv22)
          refine ls_fr hF ?_
          refine ls_val (v := .bool false) rfl rfl (by kernel_rfl) (fun w => by kernel_rfl) ?_
          exact ls_fin s0 (.bool false) (congrArg (fun z => upd z 26 _) hF.symm) ⟨rfl, rfl⟩ (sub_nil _)
        obtain ⟨s3_27, hs3_27⟩ : ∃ z : Value → Sto → Prop, z = (fun v R => v = .bool false ∧ R = s0) := ⟨_, rfl⟩
        refine have_op (l := [_, _, _, _, _, _, _, _, _, _, _, _, _, _, _, _, _, _, _, _, _, _, _, _, _, _, _, _, _, _, _, _, _, _, _, _, _]) shadowboxref06_Right.tab1 1 27 (fun sp => sp 27 = s3_27 ∧ sp 23 = s3_23 ∧ sp 26 = spu) (fun sp on hA hon => ?_) (fun ops3_27 => ?_)
        · refine ⟨fun o ho vs Rs f' S' w hp hf hx hS hR hs => ?_⟩
          obtain rfl := Option.some.inj ho
          obtain ⟨hv23, hR23⟩ := (spe hA.2.1 hs3_23 (hp 23 (by kernel_rfl)))
          obtain ⟨hv26, hR26⟩ := (spe hA.2.2 rfl (hp 26 (by kernel_rfl)) : spu _ _)
          rw [hA.1, hs3_27]
          refine And.intro (fun a ha => (want_none rfl a ha).trans hon.symm) (And.intro (fun _ => ?_) (fun h => by rw [hon] at h; cases h))
          have hF := fr_next (fr_next (rfl) ((hf 23 26 (by kernel_rfl) rfl).trans hv23)) ((hf 26 29 (by kernel_rfl) rfl).trans hv26)
          refine ls_fr hF ?_
          refine ls_val (v := .bool false) rfl rfl (by kernel_rfl) (fun w => by kernel_rfl) ?_
          exact ls_fin s0 (.bool false) (congrArg (fun z => upd z 30 _) hF.symm) ⟨rfl, rfl⟩ (sub_nil _)
        obtain ⟨s3_28, hs3_28⟩ : ∃ z : Value → Sto → Prop, z = (fun v R => v = .bool false ∧ R = s0) := ⟨_, rfl⟩
        refine have_op (l := [_, _, _, _, _, _, _, _, _, _, _, _, _, _, _, _, _, _, _, _, _, _, _, _, _, _, _, _, _, _, _, _, _, _, _, _, _]) shadowboxref06_Right.tab1 1 28 (fun sp => sp 28 = s3_28 ∧ sp 27 = s3_27) (fun sp on hA hon => ?_) (fun ops3_28 => ?_)
        · refine ⟨fun o ho vs Rs f' S' w hp hf hx hS hR hs => ?_⟩
          obtain rfl := Option.some.inj ho
          obtain ⟨hv27, hR27⟩ := (spe hA.2 hs3_27 (hp 27 (by kernel_rfl)))
          rw [hA.1, hs3_28]
          refine And.intro (fun a ha => (want_none rfl a ha).trans hon.symm) (And.intro (fun _ => ?_) (fun h => by rw [hon] at h; cases h))
          have hF := fr_next (rfl) ((hf 27 30 (by kernel_rfl) rfl).trans hv27)
          refine ls_fr hF ?_
          refine ls_val (v := .bool false) rfl rfl (by kernel_rfl) (fun w => by kernel_rfl) ?_
          exact ls_fin s0 (.bool false) (congrArg (fun z => upd z 31 _) hF.symm) ⟨rfl, rfl⟩ (sub_nil _)
        refine cs_draw shadowboxref06_Right.tab1 33 1 (spl [s3_0, s3_1, s3_2, s3_3, s3_4, s3_5, s3_6, s3_7, s3_8, s3_9, s3_10, s3_11, s3_12, s3_13, spu, spu, spu, s3_17, s3_18, spu, spu, spu, s3_22, s3_23, spu, spu, spu, s3_27, s3_28, spu, spu, spu, spu]) (onl [true, true, true, true, true, true, true, true, true, true, true, true, true, true, false, false, false, true, true, false, false, false, true, true, false, false, false, true, true, false, false, false, false]) (by kernel_rfl) (by kernel_rfl) (by kernel_rfl) (by kernel_rfl) (rs := [_, _, _, _]) rfl (by kernel_rfl) (by kernel_rfl) (all_snoc (all_snoc (all_snoc (all_snoc (all_snoc (all_snoc (all_snoc (all_snoc (all_snoc (all_snoc (all_snoc (all_snoc (all_snoc (all_snoc (all_snoc (all_snoc (all_snoc (all_snoc (all_snoc (all_snoc (all_snoc (all_snoc (all_snoc (all_snoc (all_snoc (all_snoc (all_snoc (all_snoc (all_snoc (all_snoc (all_snoc (all_snoc (all_snoc (all_nil) (ops3_0 _ _ rfl rfl)) (ops3_1 _ _ ⟨rfl, rfl⟩ rfl)) (ops3_2 _ _ ⟨rfl, rfl⟩ rfl)) (ops3_3 _ _ ⟨rfl, rfl⟩ rfl)) (ops3_4 _ _ ⟨rfl, rfl⟩ rfl)) (ops3_5 _ _ ⟨rfl, rfl, rfl⟩ rfl)) (ops3_6 _ _ ⟨rfl, rfl, rfl⟩ rfl)) (ops3_7 _ _ ⟨rfl, rfl, rfl⟩ rfl)) (ops3_8 _ _ ⟨rfl, rfl⟩ rfl)) (ops3_9 _ _ ⟨rfl, rfl⟩ rfl)) (ops3_10 _ _ ⟨rfl, rfl, rfl⟩ rfl)) (ops3_11 _ _ ⟨rfl, rfl, rfl⟩ rfl)) (ops3_12 _ _ ⟨rfl, rfl, rfl⟩ rfl)) (ops3_13 _ _ ⟨rfl, rfl⟩ rfl)) (op_offi 14 13 16 true rfl rfl (by kernel_rfl) (by kernel_rfl) rfl (fun v R h => by rw [hs3_13] at h; obtain ⟨h, _⟩ := h; exact h.trans (congrArg Value.bool (show (decide (a0.2.2.1 ≥ (1 : Int))) = false from dec_f q6))) rfl rfl)) (op_offi 15 13 16 true rfl rfl (by kernel_rfl) (by kernel_rfl) rfl (fun v R h => by rw [hs3_13] at h; obtain ⟨h, _⟩ := h; exact h.trans (congrArg Value.bool (show (decide (a0.2.2.1 ≥ (1 : Int))) = false from dec_f q6))) rfl rfl)) (op_offi 16 13 16 true rfl rfl (by kernel_rfl) (by kernel_rfl) rfl (fun v R h => by rw [hs3_13] at h; obtain ⟨h, _⟩ := h; exact h.trans (congrArg Value.bool (show (decide (a0.2.2.1 ≥ (1 : Int))) = false from dec_f q6))) rfl rfl)) (ops3_17 _ _ ⟨rfl, rfl, rfl⟩ rfl)) (ops3_18 _ _ ⟨rfl, rfl⟩ rfl)) (op_offi 19 18 21 true rfl rfl (by kernel_rfl) (by kernel_rfl) rfl (fun v R h => by rw [hs3_18] at h; obtain ⟨h, _⟩ := h; exact h) rfl rfl)) (op_offi 20 18 21 true rfl rfl (by kernel_rfl) (by kernel_rfl) rfl (fun v R h => by rw [hs3_18] at h; obtain ⟨h, _⟩ := h; exact h) rfl rfl)) (op_offi 21 18 21 true rfl rfl (by kernel_rfl) (by kernel_rfl) rfl (fun v R h => by rw [hs3_18] at h; obtain ⟨h, _⟩ := h; exact h) rfl rfl)) (ops3_22 _ _ ⟨rfl, rfl, rfl⟩ rfl)) (ops3_23 _ _ ⟨rfl, rfl⟩ rfl)) (op_offi 24 23 26 true rfl rfl (by kernel_rfl) (by kernel_rfl) rfl (fun v R h => by rw [hs3_23] at h; obtain ⟨h, _⟩ := h; exact h) rfl rfl)) (op_offi 25 23 26 true rfl rfl (by kernel_rfl) (by kernel_rfl) rfl (fun v R h => by rw [hs3_23] at h; obtain ⟨h, _⟩ := h; exact h) rfl rfl)) (op_offi 26 23 26 true rfl rfl (by kernel_rfl) (by kernel_rfl) rfl (fun v R h => by rw [hs3_23] at h; obtain ⟨h, _⟩ := h; exact h) rfl rfl)) (ops3_27 _ _ ⟨rfl, rfl, rfl⟩ rfl)) (ops3_28 _ _ ⟨rfl, rfl⟩ rfl)) (op_offi 29 28 31 true rfl rfl (by kernel_rfl) (by kernel_rfl) rfl (fun v R h => by rw [hs3_28] at h; obtain ⟨h, _⟩ := h; exact h) rfl rfl)) (op_offi 30 28 31 true rfl rfl (by kernel_rfl) (by kernel_rfl) rfl (fun v R h => by rw [hs3_28] at h; obtain ⟨h, _⟩ := h; exact h) rfl rfl)) (op_offi 31 28 31 true rfl rfl (by kernel_rfl) (by kernel_rfl) rfl (fun v R h => by rw [hs3_28] at h; obtain ⟨h, _⟩ := h; exact h) rfl rfl)) (op_offi 32 28 31 true rfl rfl (by kernel_rfl) (by kernel_rfl) rfl (fun v R h => by rw [hs3_28] at h; obtain ⟨h, _⟩ := h; exact h) rfl rfl)) ?_
        intro vs Rs f' S' hp hf hx hS hR
        obtain ⟨hv28, hR28⟩ := (spe rfl hs3_28 (hp 28 (by kernel_rfl)))
        obtain ⟨hv30, hR30⟩ := (spe rfl rfl (hp 30 (by kernel_rfl)) : spu _ _)
        obtain ⟨hv32, hR32⟩ := (spe rfl rfl (hp 32 (by kernel_rfl)) : spu _ _)
        refine ls_fr (F := upd f' 31 (.bool false)) (fr_next (rfl) ((hf 28 31 (by kernel_rfl) rfl).trans hv28)) ?_
        refine ls_sub (s0) (sub_nil _) ?_
        refine ls_off (j := 28) (t := 31) (b := true) (c := false) rfl rfl (by kernel_rfl) (by kernel_rfl) rfl rfl (by kernel_rfl) ?_
        refine ls_off (j := 28) (t := 31) (b := true) (c := false) rfl rfl (by kernel_rfl) (by kernel_rfl) rfl rfl (by kernel_rfl) ?_
        refine ls_val (v := .bool false) rfl rfl (by kernel_rfl) (fun w => by kernel_rfl) ?_
        refine ls_val (v := .bool false) rfl rfl (by kernel_rfl) (fun w => by kernel_rfl) ?_
        refine ls_end ?_
        refine qn_then ?_
        refine cs_ret' ?_
        obtain rfl := Option.some.inj H
        refine qr_res (rs := [_]) rfl (fun w' hs => ⟨[.bool false], (res_tmp (by kernel_rfl) (.nil)), (), rfl, hs.pick (ts := []) (cs := []) trivial (by decide)⟩)
    · replace H := ite_f q5 H
      obtain ⟨s3_12, hs3_12⟩ : ∃ z : Value → Sto → Prop, z = (fun v R => v = .bool false ∧ R = s0) := ⟨_, rfl⟩
      refine have_op (l := [_, _, _, _, _, _, _, _, _, _, _, _, _, _, _, _, _, _, _, _, _, _, _, _, _, _, _, _, _, _, _, _, _, _, _, _, _]) shadowboxref06_Right.tab1 1 12 (fun sp => sp 12 = s3_12 ∧ sp 8 = s3_8 ∧ sp 11 = spu) (fun sp on hA hon => ?_) (fun ops3_12 => ?_)
      · refine ⟨fun o ho vs Rs f' S' w hp hf hx hS hR hs => ?_⟩
        obtain rfl := Option.some.inj ho
        obtain ⟨hv8, hR8⟩ := (spe hA.2.1 hs3_8 (hp 8 (by kernel_rfl)))
        obtain ⟨hv11, hR11⟩ := (spe hA.2.2 rfl (hp 11 (by kernel_rfl)) : spu _ _)
        rw [hA.1, hs3_12]
        refine And.intro (fun a ha => (want_none rfl a ha).trans hon.symm) (And.intro (fun _ => ?_) (fun h => by rw [hon] at h; cases h))
        have hF := fr_next (fr_next (rfl) (((hf 8 11 (by kernel_rfl) rfl).trans hv8).trans (congrArg Value.bool (show (decide (a0.2.1 ≤ (1152921504606846976 : Int))) = false from dec_f q5)))) ((hf 11 14 (by kernel_rfl) rfl).trans hv11)
        refine ls_fr hF ?_
        refine ls_val (v := .bool false) rfl rfl (by kernel_rfl) (fun w => by kernel_rfl) ?_
        exact ls_fin s0 (.bool false) (congrArg (fun z => upd z 15 _) hF.symm) ⟨rfl, rfl⟩ (sub_nil _)
      obtain ⟨s3_13, hs3_13⟩ : ∃ z : Value → Sto → Prop, z = (fun v R => v = .bool false ∧ R = s0) := ⟨_, rfl⟩
      refine have_op (l := [_, _, _, _, _, _, _, _, _, _, _, _, _, _, _, _, _, _, _, _, _, _, _, _, _, _, _, _, _, _, _, _, _, _, _, _, _]) shadowboxref06_Right.tab1 1 13 (fun sp => sp 13 = s3_13 ∧ sp 12 = s3_12) (fun sp on hA hon => ?_) (fun ops3_13 => ?_)
      · refine ⟨fun o ho vs Rs f' S' w hp hf hx hS hR hs => ?_⟩
        obtain rfl := Option.some.inj ho
        obtain ⟨hv12, hR12⟩ := (spe hA.2 hs3_12 (hp 12 (by kernel_rfl)))
        rw [hA.1, hs3_13]
        refine And.intro (fun a ha => (want_none rfl a ha).trans hon.symm) (And.intro (fun _ => ?_) (fun h => by rw [hon] at h; cases h))
        have hF := fr_next (rfl) ((hf 12 15 (by kernel_rfl) rfl).trans hv12)
        refine ls_fr hF ?_
        refine ls_val (v := .bool false) rfl rfl (by kernel_rfl) (fun w => by kernel_rfl) ?_
        exact ls_fin s0 (.bool false) (congrArg (fun z => upd z 16 _) hF.symm) ⟨rfl, rfl⟩ (sub_nil _)
      obtain ⟨s3_17, hs3_17⟩ : ∃ z : Value → Sto → Prop, z = (fun v R => v = .bool false ∧ R = s0) := ⟨_, rfl⟩
      refine have_op (l := [_, _, _, _, _, _, _, _, _, _, _, _, _, _, _, _, _, _, _, _, _, _, _, _, _, _, _, _, _, _, _, _, _, _, _, _, _]) shadowboxref06_Right.tab1 1 17 (fun sp => sp 17 = s3_17 ∧ sp 13 = s3_13 ∧ sp 16 = spu) (fun sp on hA hon => ?_) (fun ops3_17 => ?_)
      · refine ⟨fun o ho vs Rs f' S' w hp hf hx hS hR hs => ?_⟩
        obtain rfl := Option.some.inj ho
        obtain ⟨hv13, hR13⟩ := (spe hA.2.1 hs3_13 (hp 13 (by kernel_rfl)))
        obtain ⟨hv16, hR16⟩ := (spe hA.2.2 rfl (hp 16 (by kernel_rfl)) : spu _ _)
        rw [hA.1, hs3_17]
        refine And.intro (fun a ha => (want_none rfl a ha).trans hon.symm) (And.intro (fun _ => ?_) (fun h => by rw [hon] at h; cases h))
        have hF := fr_next (fr_next (rfl) ((hf 13 16 (by kernel_rfl) rfl).trans hv13)) ((hf 16 19 (by kernel_rfl) rfl).trans hv16)
        refine ls_fr hF ?_
        refine ls_val (v := .bool false) rfl rfl (by kernel_rfl) (fun w => by kernel_rfl) ?_
        exact ls_fin s0 (.bool false) (congrArg (fun z => upd z 20 _) hF.symm) ⟨rfl, rfl⟩ (sub_nil _)
      obtain ⟨s3_18, hs3_18⟩ : ∃ z : Value → Sto → Prop, z = (fun v R => v = .bool false ∧ R = s0) := ⟨_, rfl⟩
      refine have_op (l := [_, _, _, _, _, _, _, _, _, _, _, _, _, _, _, _, _, _, _, _, _, _, _, _, _, _, _, _, _, _, _, _, _, _, _, _, _]) shadowboxref06_Right.tab1 1 18 (fun sp => sp 18 = s3_18 ∧ sp 17 = s3_17) (fun sp on hA hon => ?_) (fun ops3_18 => ?_)
      · refine ⟨fun o ho vs Rs f' S' w hp hf hx hS hR hs => ?_⟩
        obtain rfl := Option.some.inj ho
        obtain ⟨hv17, hR17⟩ := (spe hA.2 hs3_17 (hp 17 (by kernel_rfl)))
        rw [hA.1, hs3_18]
        refine And.intro (fun a ha => (want_none rfl a ha).trans hon.symm) (And.intro (fun _ => ?_) (fun h => by rw [hon] at h; cases h))
        have hF := fr_next (rfl) ((hf 17 20 (by kernel_rfl) rfl).trans hv17)
        refine ls_fr hF ?_
        refine ls_val (v := .bool false) rfl rfl (by kernel_rfl) (fun w => by kernel_rfl) ?_
        exact ls_fin s0 (.bool false) (congrArg (fun z => upd z 21 _) hF.symm) ⟨rfl, rfl⟩ (sub_nil _)
      obtain ⟨s3_22, hs3_22⟩ : ∃ z : Value → Sto → Prop, z = (fun v R => v = .bool false ∧ R = s0) := ⟨_, rfl⟩
      refine have_op (l := [_, _, _, _, _, _, _, _, _, _, _, _, _, _, _, _, _, _, _, _, _, _, _, _, _, _, _, _, _, _, _, _, _, _, _, _, _]) shadowboxref06_Right.tab1 1 22 (fun sp => sp 22 = s3_22 ∧ sp 18 = s3_18 ∧ sp 21 = spu) (fun sp on hA hon => ?_) (fun ops3_22 => ?_)
      · refine ⟨fun o ho vs Rs f' S' w hp hf hx hS hR hs => ?_⟩
        obtain rfl := Option.some.inj ho
        obtain ⟨hv18, hR18⟩ := (spe hA.2.1 hs3_18 (hp 18 (by kernel_rfl)))
        obtain ⟨hv21, hR21⟩ := (spe hA.2.2 rfl (hp 21 (by kernel_rfl)) : spu _ _)
        rw [hA.1, hs3_22]
        refine And.intro (fun a ha => (want_none rfl a ha).trans hon.symm) (And.intro (fun _ => ?_) (fun h => by rw [hon] at h; cases h))
        have hF := fr_next (fr_next (rfl) ((hf 18 21 (by kernel_rfl) rfl).trans hv18)) ((hf 21 24 (by kernel_rfl) rfl).trans hv21)
        refine ls_fr hF ?_
        refine ls_val (v := .bool false) rfl rfl (by kernel_rfl) (fun w => by kernel_rfl) ?_
        exact ls_fin s0 (.bool false) (congrArg (fun z => upd z 25 _) hF.symm) ⟨rfl, rfl⟩ (sub_nil _)
      obtain ⟨s3_23, hs3_23⟩ : ∃ z : Value → Sto → Prop, z = (fun v R => v = .bool false ∧ R = s0) := ⟨_, rfl⟩
      refine have_op (l := [_, _, _, _, _, _, _, _, _, _, _, _, _, _, _, _, _, _, _, _, _, _, _, _, _, _, _, _, _, _, _, _, _, _, _, _, _]) shadowboxref06_Right.tab1 1 23 (fun sp => sp 23 = s3_23 ∧ sp 22 = s3_22) (fun sp on hA hon => ?_) (fun ops3_23 => ?_)
      · refine ⟨fun o ho vs Rs f' S' w hp hf hx hS hR hs => ?_⟩
        obtain rfl := Option.some.inj ho
        obtain ⟨hv22, hR22⟩ := (spe hA.2 hs3_22 (hp 22 (by kernel_rfl)))
        rw [hA.1, hs3_23]
        refine And.intro (fun a ha => (want_none rfl a ha).trans hon.symm) (And.intro (fun _ => ?_) (fun h => by rw [hon] at h; cases h))
        have hF := fr_next (rfl) ((hf 22 25 (by kernel_rfl) rfl).trans hv22)
        refine ls_fr hF ?_
        refine ls_val (v := .bool false) rfl rfl (by kernel_rfl) (fun w => by kernel_rfl) ?_
        exact ls_fin s0 (.bool false) (congrArg (fun z => upd z 26 _) hF.symm) ⟨rfl, rfl⟩ (sub_nil _)
      obtain ⟨s3_27, hs3_27⟩ : ∃ z : Value → Sto → Prop, z = (fun v R => v = .bool false ∧ R = s0) := ⟨_, rfl⟩
      refine have_op (l := [_, _, _, _, _, _, _, _, _, _, _, _, _, _, _, _, _, _, _, _, _, _, _, _, _, _, _, _, _, _, _, _, _, _, _, _, _]) shadowboxref06_Right.tab1 1 27 (fun sp => sp 27 = s3_27 ∧ sp 23 = s3_23 ∧ sp 26 = spu) (fun sp on hA hon => ?_) (fun ops3_27 => ?_)
      · refine ⟨fun o ho vs Rs f' S' w hp hf hx hS hR hs => ?_⟩
        obtain rfl := Option.some.inj ho
        obtain ⟨hv23, hR23⟩ := (spe hA.2.1 hs3_23 (hp 23 (by kernel_rfl)))
        obtain ⟨hv26, hR26⟩ := (spe hA.2.2 rfl (hp 26 (by kernel_rfl)) : spu _ _)
        rw [hA.1, hs3_27]
        refine And.intro (fun a ha => (want_none rfl a ha).trans hon.symm) (And.intro (fun _ => ?_) (fun h => by rw [hon] at h; cases h))
        have hF := fr_next (fr_next (rfl) ((hf 23 26 (by kernel_rfl) rfl).trans hv23)) ((hf 26 29 (by kernel_rfl) rfl).trans hv26)
        refine ls_fr hF ?_
        refine ls_val (v := .bool false) rfl rfl (by kernel_rfl) (fun w => by kernel_rfl) ?_
        exact ls_fin s0 (.bool false) (congrArg (fun z => upd z 30 _) hF.symm) ⟨rfl, rfl⟩ (sub_nil _)
      obtain ⟨s3_28, hs3_28⟩ : ∃ z : Value → Sto → Prop, z = (fun v R => v = .bool false ∧ R = s0) := ⟨_, rfl⟩
      refine have_op (l := [_, _, _, _, _, _, _, _, _, _, _, _, _, _, _, _, _, _, _, _, _, _, _, _, _, _, _, _, _, _, _, _, _, _, _, _, _]) shadowboxref06_Right.tab1 1 28 (fun sp => sp 28 = s3_28 ∧ sp 27 = s3_27) (fun sp on hA hon => ?_) (fun ops3_28 => ?_)
      · refine ⟨fun o ho vs Rs f' S' w hp hf hx hS hR hs => ?_⟩
        obtain rfl := Option.some.inj ho
        obtain ⟨hv27, hR27⟩ := (spe hA.2 hs3_27 (hp 27 (by kernel_rfl)))
        rw [hA.1, hs3_28]
        refine And.intro (fun a ha => (want_none rfl a ha).trans hon.symm) (And.intro (fun _ => ?_) (fun h => by rw [hon] at h; cases h))
        have hF := fr_next (rfl) ((hf 27 30 (by kernel_rfl) rfl).trans hv27)
        refine ls_fr hF ?_
        refine ls_val (v := .bool false) rfl rfl (by kernel_rfl) (fun w => by kernel_rfl) ?_
        exact ls_fin s0 (.bool false) (congrArg (fun z => upd z 31 _) hF.symm) ⟨rfl, rfl⟩ (sub_nil _)
      refine cs_draw shadowboxref06_Right.tab1 33 1 (spl [s3_0, s3_1, s3_2, s3_3, s3_4, s3_5, s3_6, s3_7, s3_8, spu, spu, spu, s3_12, s3_13, spu, spu, spu, s3_17, s3_18, spu, spu, spu, s3_22, s3_23, spu, spu, spu, s3_27, s3_28, spu, spu, spu, spu]) (onl [true, true, true, true, true, true, true, true, true, false, false, false, true, true, false, false, false, true, true, false, false, false, true, true, false, false, false, true, true, false, false, false, false]) (by kernel_rfl) (by kernel_rfl) (by kernel_rfl) (by kernel_rfl) (rs := [_, _, _, _]) rfl (by kernel_rfl) (by kernel_rfl) (all_snoc (all_snoc (all_snoc (all_snoc (all_snoc (all_snoc (all_snoc (all_snoc (all_snoc (all_snoc (all_snoc (all_snoc (all_snoc (all_snoc (all_snoc (all_snoc (all_snoc (all_snoc (all_snoc (all_snoc (all_snoc (all_snoc (all_snoc (all_snoc (all_snoc (all_snoc (all_snoc (all_snoc (all_snoc (all_snoc (all_snoc (all_snoc (all_snoc (all_nil) (ops3_0 _ _ rfl rfl)) (ops3_1 _ _ ⟨rfl, rfl⟩ rfl)) (ops3_2 _ _ ⟨rfl, rfl⟩ rfl)) (ops3_3 _ _ ⟨rfl, rfl⟩ rfl)) (ops3_4 _ _ ⟨rfl, rfl⟩ rfl)) (ops3_5 _ _ ⟨rfl, rfl, rfl⟩ rfl)) (ops3_6 _ _ ⟨rfl, rfl, rfl⟩ rfl)) (ops3_7 _ _ ⟨rfl, rfl, rfl⟩ rfl)) (ops3_8 _ _ ⟨rfl, rfl⟩ rfl)) (op_offi 9 8 11 true rfl rfl (by kernel_rfl) (by kernel_rfl) rfl (fun v R h => by rw [hs3_8] at h; obtain ⟨h, _⟩ := h; exact h.trans (congrArg Value.bool (show (decide (a0.2.1 ≤ (1152921504606846976 : Int))) = false from dec_f q5))) rfl rfl)) (op_offi 10 8 11 true rfl rfl (by kernel_rfl) (by kernel_rfl) rfl (fun v R h => by rw [hs3_8] at h; obtain ⟨h, _⟩ := h; exact h.trans (congrArg Value.bool (show (decide (a0.2.1 ≤ (1152921504606846976 : Int))) = false from dec_f q5))) rfl rfl)) (op_offi 11 8 11 true rfl rfl (by kernel_rfl) (by kernel_rfl) rfl (fun v R h => by rw [hs3_8] at h; obtain ⟨h, _⟩ := h; exact h.trans (congrArg Value.bool (show (decide (a0.2.1 ≤ (1152921504606846976 : Int))) = false from dec_f q5))) rfl rfl)) (ops3_12 _ _ ⟨rfl, rfl, rfl⟩ rfl)) (ops3_13 _ _ ⟨rfl, rfl⟩ rfl)) (op_offi 14 13 16 true rfl rfl (by kernel_rfl) (by kernel_rfl) rfl (fun v R h => by rw [hs3_13] at h; obtain ⟨h, _⟩ := h; exact h) rfl rfl)) (op_offi 15 13 16 true rfl rfl (by kernel_rfl) (by kernel_rfl) rfl (fun v R h => by rw [hs3_13] at h; obtain ⟨h, _⟩ := h; exact h) rfl rfl)) (op_offi 16 13 16 true rfl rfl (by kernel_rfl) (by kernel_rfl) rfl (fun v R h => by rw [hs3_13] at h; obtain ⟨h, _⟩ := h; exact h) rfl rfl)) (ops3_17 _ _ ⟨rfl, rfl, rfl⟩ rfl)) (ops3_18 _ _ ⟨rfl, rfl⟩ rfl)) (op_offi 19 18 21 true rfl rfl (by kernel_rfl) (by kernel_rfl) rfl (fun v R h => by rw [hs3_18] at h; obtain ⟨h, _⟩ := h; exact h) rfl rfl)) (op_offi 20 18 21 true rfl rfl (by kernel_rfl) (by kernel_rfl) rfl (fun v R h => by rw [hs3_18] at h; obtain ⟨h, _⟩ := h; exact h) rfl rfl)) (op_offi 21 18 21 true rfl rfl (by kernel_rfl) (by kernel_rfl) rfl (fun v R h => by rw [hs3_18] at h; obtain ⟨h, _⟩ := h; exact h) rfl rfl)) (ops3_22 _ _ ⟨rfl, rfl, rfl⟩ rfl)) (ops3_23 _ _ ⟨rfl, rfl⟩ rfl)) (op_offi 24 23 26 true rfl rfl (by kernel_rfl) (by kernel_rfl) rfl (fun v R h => by rw [hs3_23] at h; obtain ⟨h, _⟩ := h; exact h) rfl rfl)) (op_offi 25 23 26 true rfl rfl (by kernel_rfl) (by kernel_rfl) rfl (fun v R h => by rw [hs3_23] at h; obtain ⟨h, _⟩ := h; exact h) rfl rfl)) (op_offi 26 23 26 true rfl rfl (by kernel_rfl) (by kernel_rfl) rfl (fun v R h => by rw [hs3_23] at h; obtain ⟨h, _⟩ := h; exact h) rfl rfl)) (ops3_27 _ _ ⟨rfl, rfl, rfl⟩ rfl)) (ops3_28 _ _ ⟨rfl, rfl⟩ rfl)) (op_offi 29 28 31 true rfl rfl (by kernel_rfl) (by kernel_rfl) rfl (fun v R h => by rw [hs3_28] at h; obtain ⟨h, _⟩ := h; exact h) rfl rfl)) (op_offi 30 28 31 true rfl rfl (by kernel_rfl) (by kernel_rfl) rfl (fun v R h => by rw [hs3_28] at h; obtain ⟨h, _⟩ := h; exact h) rfl rfl)) (op_offi 31 28 31 true rfl rfl (by kernel_rfl) (by kernel_rfl) rfl (fun v R h => by rw [hs3_28] at h; obtain ⟨h, _⟩ := h; exact h) rfl rfl)) (op_offi 32 28 31 true rfl rfl (by kernel_rfl) (by kernel_rfl) rfl (fun v R h => by rw [hs3_28] at h; obtain ⟨h, _⟩ := h; exact h) rfl rfl)) ?_
      intro vs Rs f' S' hp hf hx hS hR
      obtain ⟨hv28, hR28⟩ := (spe rfl hs3_28 (hp 28 (by kernel_rfl)))
      obtain ⟨hv30, hR30⟩ := (spe rfl rfl (hp 30 (by kernel_rfl)) : spu _ _)
      obtain ⟨hv32, hR32⟩ := (spe rfl rfl (hp 32 (by kernel_rfl)) : spu _ _)
      refine ls_fr (F := upd f' 31 (.bool false)) (fr_next (rfl) ((hf 28 31 (by kernel_rfl) rfl).trans hv28)) ?_
      refine ls_sub (s0) (sub_nil _) ?_
      refine ls_off (j := 28) (t := 31) (b := true) (c := false) rfl rfl (by kernel_rfl) (by kernel_rfl) rfl rfl (by kernel_rfl) ?_
      refine ls_off (j := 28) (t := 31) (b := true) (c := false) rfl rfl (by kernel_rfl) (by kernel_rfl) rfl rfl (by kernel_rfl) ?_
      refine ls_val (v := .bool false) rfl rfl (by kernel_rfl) (fun w => by kernel_rfl) ?_
      refine ls_val (v := .bool false) rfl rfl (by kernel_rfl) (fun w => by kernel_rfl) ?_
      refine ls_end ?_
      refine qn_then ?_
      refine cs_ret' ?_
      obtain rfl := Option.some.inj H
      refine qr_res (rs := [_]) rfl (fun w' hs => ⟨[.bool false], (res_tmp (by kernel_rfl) (.nil)), (), rfl, hs.pick (ts := []) (cs := []) trivial (by decide)⟩)
  · replace H := ite_f q4 H
    obtain ⟨s3_7, hs3_7⟩ : ∃ z : Value → Sto → Prop, z = (fun v R => v = .bool false ∧ R = s0) := ⟨_, rfl⟩
    refine have_op (l := [_, _, _, _, _, _, _, _, _, _, _, _, _, _, _, _, _, _, _, _, _, _, _, _, _, _, _, _, _, _, _, _, _, _, _, _, _]) shadowboxref06_Right.tab1 1 7 (fun sp => sp 7 = s3_7 ∧ sp 3 = s3_3 ∧ sp 6 = spu) (fun sp on hA hon => ?_) (fun ops3_7 => ?_)
    · refine ⟨fun o ho vs Rs f' S' w hp hf hx hS hR hs => ?_⟩
      obtain rfl := Option.some.inj ho
      obtain ⟨hv3, hR3⟩ := (spe hA.2.1 hs3_3 (hp 3 (by kernel_rfl)))
      obtain ⟨hv6, hR6⟩ := (spe hA.2.2 rfl (hp 6 (by kernel_rfl)) : spu _ _)
      rw [hA.1, hs3_7]
      refine And.intro (fun a ha => (want_none rfl a ha).trans hon.symm) (And.intro (fun _ => ?_) (fun h => by rw [hon] at h; cases h))
      have hF := fr_next (fr_next (rfl) (((hf 3 6 (by kernel_rfl) rfl).trans hv3).trans (congrArg Value.bool (show (decide (a0.2.1 ≥ (1 : Int))) = false from dec_f q4)))) ((hf 6 9 (by kernel_rfl) rfl).trans hv6)
      refine ls_fr hF ?_
      refine ls_val (v := .bool false) rfl rfl (by kernel_rfl) (fun w => by kernel_rfl) ?_
      exact ls_fin s0 (.bool false) (congrArg (fun z => upd z 10 _) hF.symm) ⟨rfl, rfl⟩ (sub_nil _)
    obtain ⟨s3_8, hs3_8⟩ : ∃ z : Value → Sto → Prop, z = (fun v R => v = .bool false ∧ R = s0) := ⟨_, rfl⟩
    refine have_op (l := [_, _, _, _, _, _, _, _, _, _, _, _, _, _, _, _, _, _, _, _, _, _, _, _, _, _, _, _, _, _, _, _, _, _, _, _, _]) shadowboxref06_Right.tab1 1 8 (fun sp => sp 8 = s3_8 ∧ sp 7 = s3_7) (fun sp on hA hon => ?_) (fun ops3_8 => ?_)
    · refine ⟨fun o ho vs Rs f' S' w hp hf hx hS hR hs => ?_⟩
      obtain rfl := Option.some.inj ho
      obtain ⟨hv7, hR7⟩ := (spe hA.2 hs3_7 (hp 7 (by kernel_rfl)))
      rw [hA.1, hs3_8]
      refine And.intro (fun a ha => (want_none rfl a ha).trans hon.symm) (And.intro (fun _ => ?_) (fun h => by rw [hon] at h; cases h))
      have hF := fr_next (rfl) ((hf 7 10 (by kernel_rfl) rfl).trans hv7)
      refine ls_fr hF ?_
      refine ls_val (v := .bool false) rfl rfl (by kernel_rfl) (fun w => by kernel_rfl) ?_
      exact ls_fin s0 (.bool false) (congrArg (fun z => upd z 11 _) hF.symm) ⟨rfl, rfl⟩ (sub_nil _)
    obtain ⟨s3_12, hs3_12⟩ : ∃ z : Value → Sto → Prop, z = (fun v R => v = .bool false ∧ R = s0) := ⟨_, rfl⟩
    refine have_op (l := [_, _, _, _, _, _, _, _, _, _, _, _, _, _, _, _, _, _, _, _, _, _, _, _, _, _, _, _, _, _, _, _, _, _, _, _, _]) shadowboxref06_Right.tab1 1 12 (fun sp => sp 12 = s3_12 ∧ sp 8 = s3_8 ∧ sp 11 = spu) (fun sp on hA hon => ?_) (fun ops3_12 => ?_)
    · refine ⟨fun o ho vs Rs f' S' w hp hf hx hS hR hs => ?_⟩
      obtain rfl := Option.some.inj ho
      obtain ⟨hv8, hR8⟩ := (spe hA.2.1 hs3_8 (hp 8 (by kernel_rfl)))
      obtain ⟨hv11, hR11⟩ := (spe hA.2.2 rfl (hp 11 (by kernel_rfl)) : spu _ _)
      rw [hA.1, hs3_12]
      refine And.intro (fun a ha => (want_none rfl a ha).trans hon.symm) (And.intro (fun _ => ?_) (fun h => by rw [hon] at h; cases h))
      have hF := fr_next (fr_next (rfl) ((hf 8 11 (by kernel_rfl) rfl).trans hv8)) ((hf 11 14 (by kernel_rfl) rfl).trans hv11)
      refine ls_fr hF ?_
      refine ls_val (v := .bool false) rfl rfl (by kernel_rfl) (fun w => by kernel_rfl) ?_
      exact ls_fin s0 (.bool false) (congrArg (fun z => upd z 15 _) hF.symm) ⟨rfl, rfl⟩ (sub_nil _)
    obtain ⟨s3_13, hs3_13⟩ : ∃ z : Value → Sto → Prop, z = (fun v R => v = .bool false ∧ R = s0) := ⟨_, rfl⟩
    refine have_op (l := [_, _, _, _, _, _, _, _, _, _, _, _, _, _, _, _, _, _, _, _, _, _, _, _, _, _, _, _, _, _, _, _, _, _, _, _, _]) shadowboxref06_Right.tab1 1 13 (fun sp => sp 13 = s3_13 ∧ sp 12 = s3_12) (fun sp on hA hon => ?_) (fun ops3_13 => ?_)
    · refine ⟨fun o ho vs Rs f' S' w hp hf hx hS hR hs => ?_⟩
      obtain rfl := Option.some.inj ho
      obtain ⟨hv12, hR12⟩ := (spe hA.2 hs3_12 (hp 12 (by kernel_rfl)))
      rw [hA.1, hs3_13]
      refine And.intro (fun a ha => (want_none rfl a ha).trans hon.symm) (And.intro (fun _ => ?_) (fun h => by rw [hon] at h; cases h))
      have hF := fr_next (rfl) ((hf 12 15 (by kernel_rfl) rfl).trans hv12)
      refine ls_fr hF ?_
      refine ls_val (v := .bool false) rfl rfl (by kernel_rfl) (fun w => by kernel_rfl) ?_
      exact ls_fin s0 (.bool false) (congrArg (fun z => upd z 16 _) hF.symm) ⟨rfl, rfl⟩ (sub_nil _)
    obtain ⟨s3_17, hs3_17⟩ : ∃ z : Value → Sto → Prop, z = (fun v R => v = .bool false ∧ R = s0) := ⟨_, rfl⟩
    refine have_op (l := [_, _, _, _, _, _, _, _, _, _, _, _, _, _, _, _, _, _, _, _, _, _, _, _, _, _, _, _, _, _, _, _, _, _, _, _, _]) shadowboxref06_Right.tab1 1 17 (fun sp => sp 17 = s3_17 ∧ sp 13 = s3_13 ∧ sp 16 = spu) (fun sp on hA hon => ?_) (fun ops3_17 => ?_)
    · refine ⟨fun o ho vs Rs f' S' w hp hf hx hS hR hs => ?_⟩
      obtain rfl := Option.some.inj ho
      obtain ⟨hv13, hR13⟩ := (spe hA.2.1 hs3_13 (hp 13 (by kernel_rfl)))
      obtain ⟨hv16, hR16⟩ := (spe hA.2.2 rfl (hp 16 (by kernel_rfl)) : spu _ _)
      rw [hA.1, hs3_17]
      refine And.intro (fun a ha => (want_none rfl a ha).trans hon.symm) (And.intro (fun _ => ?_) (fun h => by rw [hon] at h; cases h))
      have hF := fr_next (fr_next (rfl) ((hf 13 16 (by kernel_rfl) rfl).trans hv13)) ((hf 16 19 (by kernel_rfl) rfl).trans hv16)
      refine ls_fr hF ?_
      refine ls_val (v := .bool false) rfl rfl (by kernel_rfl) (fun w => by kernel_rfl) ?_
      exact ls_fin s0 (.bool false) (congrArg (fun z => upd z 20 _) hF.symm) ⟨rfl, rfl⟩ (sub_nil _)
    obtain ⟨s3_18, hs3_18⟩ : ∃ z : Value → Sto → Prop, z = (fun v R => v = .bool false ∧ R = s0) := ⟨_, rfl⟩
    refine have_op (l := [_, _, _, _, _, _, _, _, _, _, _, _, _, _, _, _, _, _, _, _, _, _, _, _, _, _, _, _, _, _, _, _, _, _, _, _, _]) shadowboxref06_Right.tab1 1 18 (fun sp => sp 18 = s3_18 ∧ sp 17 = s3_17) (fun sp on hA hon => ?_) (fun ops3_18 => ?_)
    · refine ⟨fun o ho vs Rs f' S' w hp hf hx hS hR hs => ?_⟩
      obtain rfl := Option.some.inj ho
      obtain ⟨hv17, hR17⟩ := (spe hA.2 hs3_17 (hp 17 (by kernel_rfl)))
      rw [hA.1, hs3_18]
      refine And.intro (fun a ha => (want_none rfl a ha).trans hon.symm) (And.intro (fun _ => ?_) (fun h => by rw [hon] at h; cases h))
      have hF := fr_next (rfl) ((hf 17 20 (by kernel_rfl) rfl).trans hv17)
      refine ls_fr hF ?_
      refine ls_val (v := .bool false) rfl rfl (by kernel_rfl) (fun w => by kernel_rfl) ?_
      exact ls_fin s0 (.bool false) (congrArg (fun z => upd z 21 _) hF.symm) ⟨rfl, rfl⟩ (sub_nil _)
    obtain ⟨s3_22, hs3_22⟩ : ∃ z : Value → Sto → Prop, z = (fun v R => v = .bool false ∧ R = s0) := ⟨_, rfl⟩
    refine have_op (l := [_, _, _, _, _, _, _, _, _, _, _, _, _, _, _, _, _, _, _, _, _, _, _, _, _, _, _, _, _, _, _, _, _, _, _, _, _]) shadowboxref06_Right.tab1 1 22 (fun sp => sp 22 = s3_22 ∧ sp 18 = s3_18 ∧ sp 21 = spu) (fun sp on hA hon => ?_) (fun ops3_22 => ?_)
    · refine ⟨fun o ho vs Rs f' S' w hp hf hx hS hR hs => ?_⟩
      obtain rfl := Option.some.inj ho
      obtain ⟨hv18, hR18⟩ := (spe hA.2.1 hs3_18 (hp 18 (by kernel_rfl)))
      obtain ⟨hv21, hR21⟩ := (spe hA.2.2 rfl (hp 21 (by kernel_rfl)) : spu _ _)
      rw [hA.1, hs3_22]
      refine And.intro (fun a ha => (want_none rfl a ha).trans hon.symm) (And.intro (fun _ => ?_) (fun h => by rw [hon] at h; cases h))
      have hF := fr_next (fr_next (rfl) ((hf 18 21 (by kernel_rfl) rfl).trans hv18)) ((hf 21 24 (by kernel_rfl) rfl).trans hv21)
      refine ls_fr hF ?_
      refine ls_val (v := .bool false) rfl rfl (by kernel_rfl) (fun w => by kernel_rfl) ?_
      exact ls_fin s0 (.bool false) (congrArg (fun z => upd z 25 _) hF.symm) ⟨rfl, rfl⟩ (sub_nil _)
    obtain ⟨s3_23, hs3_23⟩ : ∃ z : Value → Sto → Prop, z = (fun v R => v = .bool false ∧ R = s0) := ⟨_, rfl⟩
    refine have_op (l := [_, _, _, _, _, _, _, _, _, _, _, _, _, _, _, _, _, _, _, _, _, _, _, _, _, _, _, _, _, _, _, _, _, _, _, _, _]) shadowboxref06_Right.tab1 1 23 (fun sp => sp 23 = s3_23 ∧ sp 22 = s3_22) (fun sp on hA hon => ?_) (fun ops3_23 => ?_)
    · refine ⟨fun o ho vs Rs f' S' w hp hf hx hS hR hs => ?_⟩
      obtain rfl := Option.some.inj ho
      obtain ⟨hv22, hR22⟩ := (spe hA.2 hs3_22 (hp 22 (by kernel_rfl)))
      rw [hA.1, hs3_23]
      refine And.intro (fun a ha => (want_none rfl a ha).trans hon.symm) (And.intro (fun _ => ?_) (fun h => by rw [hon] at h; cases h))
      have hF := fr_next (rfl) ((hf 22 25 (by kernel_rfl) rfl).trans hv22)
      refine ls_fr hF ?_
      refine ls_val (v := .bool false) rfl rfl (by kernel_rfl) (fun w => by kernel_rfl) ?_
      exact ls_fin s0 (.bool false) (congrArg (fun z => upd z 26 _) hF.symm) ⟨rfl, rfl⟩ (sub_nil _)
    obtain ⟨s3_27, hs3_27⟩ : ∃ z : Value → Sto → Prop, z = (fun v R => v = .bool false ∧ R = s0) := ⟨_, rfl⟩
    refine have_op (l := [_, _, _, _, _, _, _, _, _, _, _, _, _, _, _, _, _, _, _, _, _, _, _, _, _, _, _, _, _, _, _, _, _, _, _, _, _]) shadowboxref06_Right.tab1 1 27 (fun sp => sp 27 = s3_27 ∧ sp 23 = s3_23 ∧ sp 26 = spu) (fun sp on hA hon => ?_) (fun ops3_27 => ?_)
    · refine ⟨fun o ho vs Rs f' S' w hp hf hx hS hR hs => ?_⟩
      obtain rfl := Option.some.inj ho
      obtain ⟨hv23, hR23⟩ := (spe hA.2.1 hs3_23 (hp 23 (by kernel_rfl)))
      obtain ⟨hv26, hR26⟩ := (spe hA.2.2 rfl (hp 26 (by kernel_rfl)) : spu _ _)
      rw [hA.1, hs3_27]
      refine And.intro (fun a ha => (want_none rfl a ha).trans hon.symm) (And.intro (fun _ => ?_) (fun h => by rw [hon] at h; cases h))
      have hF := fr_next (fr_next (rfl) ((hf 23 26 (by kernel_rfl) rfl).trans hv23)) ((hf 26 29 (by kernel_rfl) rfl).trans hv26)
      refine ls_fr hF ?_
      refine ls_val (v := .bool false) rfl rfl (by kernel_rfl) (fun w => by kernel_rfl) ?_
      exact ls_fin s0 (.bool false) (congrArg (fun z => upd z 30 _) hF.symm) ⟨rfl, rfl⟩ (sub_nil _)
    obtain ⟨s3_28, hs3_28⟩ : ∃ z : Value → Sto → Prop, z = (fun v R => v = .bool false ∧ R = s0) := ⟨_, rfl⟩
    refine have_op (l := [_, _, _, _, _, _, _, _, _, _, _, _, _, _, _, _, _, _, _, _, _, _, _, _, _, _, _, _, _, _, _, _, _, _, _, _, _]) shadowboxref06_Right.tab1 1 28 (fun sp => sp 28 = s3_28 ∧ sp 27 = s3_27) (fun sp on hA hon => ?_) (fun ops3_28 => ?_)
    · refine ⟨fun o ho vs Rs f' S' w hp hf hx hS hR hs => ?_⟩
      obtain rfl := Option.some.inj ho
      obtain ⟨hv27, hR27⟩ := (spe hA.2 hs3_27 (hp 27 (by kernel_rfl)))
      rw [hA.1, hs3_28]
      refine And.intro (fun a ha => (want_none rfl a ha).trans hon.symm) (And.intro (fun _ => ?_) (fun h => by rw [hon] at h; cases h))
      have hF := fr_next (rfl) ((hf 27 30 (by kernel_rfl) rfl).trans hv27)
      refine ls_fr hF ?_
      refine ls_val (v := .bool false) rfl rfl (by kernel_rfl) (fun w => by kernel_rfl) ?_
      exact ls_fin s0 (.bool false) (congrArg (fun z => upd z 31 _) hF.symm) ⟨rfl, rfl⟩ (sub_nil _)
    refine cs_draw shadowboxref06_Right.tab1 33 1 (spl [s3_0, s3_1, s3_2, s3_3, spu, spu, spu, s3_7, s3_8, spu, spu, spu, s3_12, s3_13, spu, spu, spu, s3_17, s3_18, spu, spu, spu, s3_22, s3_23, spu, spu, spu, s3_27, s3_28, spu, spu, spu, spu]) (onl [true, true, true, true, false, false, false, true, true, false, false, false, true, true, false, false, false, true, true, false, false, false, true, true, false, false, false, true, true, false, false, false, false]) (by kernel_rfl) (by kernel_rfl) (by kernel_rfl) (by kernel_rfl) (rs := [_, _, _, _]) rfl (by kernel_rfl) (by kernel_rfl) (all_snoc (all_snoc (all_snoc (all_snoc (all_snoc (all_snoc (all_snoc (all_snoc (all_snoc (all_snoc (all_snoc (all_snoc (all_snoc (all_snoc (all_snoc (all_snoc (all_snoc (all_snoc (all_snoc (all_snoc (all_snoc (all_snoc (all_snoc (all_snoc (all_snoc (all_snoc (all_snoc (all_snoc (all_snoc (all_snoc (all_snoc (all_snoc (all_snoc (all_nil) (ops3_0 _ _ rfl rfl)) (ops3_1 _ _ ⟨rfl, rfl⟩ rfl)) (ops3_2 _ _ ⟨rfl, rfl⟩ rfl)) (ops3_3 _ _ ⟨rfl, rfl⟩ rfl)) (op_offi 4 3 6 true rfl rfl (by kernel_rfl) (by kernel_rfl) rfl (fun v R h => by rw [hs3_3] at h; obtain ⟨h, _⟩ := h; exact h.trans (congrArg Value.bool (show (decide (a0.2.1 ≥ (1 : Int))) = false from dec_f q4))) rfl rfl)) (op_offi 5 3 6 true rfl rfl (by kernel_rfl) (by kernel_rfl) rfl (fun v R h => by rw [hs3_3] at h; obtain ⟨h, _⟩ := h; exact h.trans (congrArg Value.bool (show (decide (a0.2.1 ≥ (1 : Int))) = false from dec_f q4))) rfl rfl)) (op_offi 6 3 6 true rfl rfl (by kernel_rfl) (by kernel_rfl) rfl (fun v R h => by rw [hs3_3] at h; obtain ⟨h, _⟩ := h; exact h.trans (congrArg Value.bool (show (decide (a0.2.1 ≥ (1 : Int))) = false from dec_f q4))) rfl rfl)) (ops3_7 _ _ ⟨rfl, rfl, rfl⟩ rfl)) (ops3_8 _ _ ⟨rfl, rfl⟩ rfl)) (op_offi 9 8 11 true rfl rfl (by kernel_rfl) (by kernel_rfl) rfl (fun v R h => by rw [hs3_8] at h; obtain ⟨h, _⟩ := h; exact h) rfl rfl)) (op_offi 10 8 11 true rfl rfl (by kernel_rfl) (by kernel_rfl) rfl (fun v R h => by rw [hs3_8] at h; obtain ⟨h, _⟩ := h; exact h) rfl rfl)) (op_offi 11 8 11 true rfl rfl (by kernel_rfl) (by kernel_rfl) rfl (fun v R h => by rw [hs3_8] at h; obtain ⟨h, _⟩ := h; exact h) rfl rfl)) (ops3_12 _ _ ⟨rfl, rfl, rfl⟩ rfl)) (ops3_13 _ _ ⟨rfl, rfl⟩ rfl)) (op_offi 14 13 16 true rfl rfl (by kernel_rfl) (by kernel_rfl) rfl (fun v R h => by rw [hs3_13] at h; obtain ⟨h, _⟩ := h; exact h) rfl rfl)) (op_offi 15 13 16 true rfl rfl (by kernel_rfl) (by kernel_rfl) rfl (fun v R h => by rw [hs3_13] at h; obtain ⟨h, _⟩ := h; exact h) rfl rfl)) (op_offi 16 13 16 true rfl rfl (by kernel_rfl) (by kernel_rfl) rfl (fun v R h => by rw [hs3_13] at h; obtain ⟨h, _⟩ := h; exact h) rfl rfl)) (ops3_17 _ _ ⟨rfl, rfl, rfl⟩ rfl)) (ops3_18 _ _ ⟨rfl, rfl⟩ rfl)) (op_offi 19 18 21 true rfl rfl (by kernel_rfl) (by kernel_rfl) rfl (fun v R h => by rw [hs3_18] at h; obtain ⟨h, _⟩ := h; exact h) rfl rfl)) (op_offi 20 18 21 true rfl rfl (by kernel_rfl) (by kernel_rfl) rfl (fun v R h => by rw [hs3_18] at h; obtain ⟨h, _⟩ := h; exact h) rfl rfl)) (op_offi 21 18 21 true rfl rfl (by kernel_rfl) (by kernel_rfl) rfl (fun v R h => by rw [hs3_18] at h; obtain ⟨h, _⟩ := h; exact h) rfl rfl)) (ops3_22 _ _ ⟨rfl, rfl, rfl⟩ rfl)) (ops3_23 _ _ ⟨rfl, rfl⟩ rfl)) (op_offi 24 23 26 true rfl rfl (by kernel_rfl) (by kernel_rfl) rfl (fun v R h => by rw [hs3_23] at h; obtain ⟨h, _⟩ := h; exact h) rfl rfl)) (op_offi 25 23 26 true rfl rfl (by kernel_rfl) (by kernel_rfl) rfl (fun v R h => by rw [hs3_23] at h; obtain ⟨h, _⟩ := h; exact h) rfl rfl)) (op_offi 26 23 26 true rfl rfl (by kernel_rfl) (by kernel_rfl) rfl (fun v R h => by rw [hs3_23] at h; obtain ⟨h, _⟩ := h; exact h) rfl rfl)) (ops3_27 _ _ ⟨rfl, rfl, rfl⟩ rfl)) (ops3_28 _ _ ⟨rfl, rfl⟩ rfl)) (op_offi 29 28 31 true rfl rfl (by kernel_rfl) (by kernel_rfl) rfl (fun v R h => by rw [hs3_28] at h; obtain ⟨h, _⟩ := h; exact h) rfl rfl)) (op_offi 30 28 31 true rfl rfl (by kernel_rfl) (by kernel_rfl) rfl (fun v R h => by rw [hs3_28] at h; obtain ⟨h, _⟩ := h; exact h) rfl rfl)) (op_offi 31 28 31 true rfl rfl (by kernel_rfl) (by kernel_rfl) rfl (fun v R h => by rw [hs3_28] at h; obtain ⟨h, _⟩ := h; exact h) rfl rfl)) (op_offi 32 28 31 true rfl rfl (by kernel_rfl) (by kernel_rfl) rfl (fun v R h => by rw [hs3_28] at h; obtain ⟨h, _⟩ := h; exact h) rfl rfl)) ?_
    intro vs Rs f' S' hp hf hx hS hR
    obtain ⟨hv28, hR28⟩ := (spe rfl hs3_28 (hp 28 (by kernel_rfl)))
    obtain ⟨hv30, hR30⟩ := (spe rfl rfl (hp 30 (by kernel_rfl)) : spu _ _)
    obtain ⟨hv32, hR32⟩ := (spe rfl rfl (hp 32 (by kernel_rfl)) : spu _ _)
    refine ls_fr (F := upd f' 31 (.bool false)) (fr_next (rfl) ((hf 28 31 (by kernel_rfl) rfl).trans hv28)) ?_
    refine ls_sub (s0) (sub_nil _) ?_
    refine ls_off (j := 28) (t := 31) (b := true) (c := false) rfl rfl (by kernel_rfl) (by kernel_rfl) rfl rfl (by kernel_rfl) ?_
    refine ls_off (j := 28) (t := 31) (b := true) (c := false) rfl rfl (by kernel_rfl) (by kernel_rfl) rfl rfl (by kernel_rfl) ?_
    refine ls_val (v := .bool false) rfl rfl (by kernel_rfl) (fun w => by kernel_rfl) ?_
    refine ls_val (v := .bool false) rfl rfl (by kernel_rfl) (fun w => by kernel_rfl) ?_
    refine ls_end ?_
    refine qn_then ?_
    refine cs_ret' ?_
    obtain rfl := Option.some.inj H
    refine qr_res (rs := [_]) rfl (fun w' hs => ⟨[.bool false], (res_tmp (by kernel_rfl) (.nil)), (), rfl, hs.pick (ts := []) (cs := []) trivial (by decide)⟩)

/-! ### shadowbox/shadowboxref01.Take: function 32 -/
def shadowboxref01_Take.lo2 (l0 : List Int) (a1 : Int) : Nat → Int → Int → Option (Int × (List Int) × Bool)
  | 0, _, _ => none
  | k2 + 1, x7_2, x8_2 => (if x8_2 ≥ (0 : Int) then (if 0 ≤ x8_2 then (if x8_2 < (l0.length : Int) then lt (IntKind.wrap .u64 ((l0).getD (x8_2).toNat (0 : Int))) fun y6 => lt (IntKind.wrap .u64 ((IntKind.wrap .u64 (x7_2 * (256 : Int))) + y6)) fun y8 => (shadowboxref01_Take.lo2 l0 a1 k2) y8 (IntKind.wrap .i64 (x8_2 - (1 : Int))) else none) else none) else (if 0 ≤ a1 then (if a1 ≤ (l0.length : Int) then lt (l0.drop (a1).toNat) fun xl17 => (if (([] : List Int).length + xl17.length) * 1 ≤ 140737488355328 then some (x7_2, (([] : List Int) ++ xl17), true) else none) else none) else none))
def shadowboxref01_Take.jo1 (k : Nat) (l0 : List Int) (a1 : Int) : Option (Int × (List Int) × Bool) := shadowboxref01_Take.lo2 l0 a1 k (0 : Int) (IntKind.wrap .i64 (a1 - (1 : Int)))
def shadowboxref01_Take.f (k : Nat) (l0 : List Int) (a1 : Int) : Option (Int × (List Int) × Bool) :=
  (if a1 < (1 : Int) then some ((0 : Int), ([] : List Int), false) else (if a1 > (8 : Int) then some ((0 : Int), ([] : List Int), false) else (if (l0.length : Int) < a1 then some ((0 : Int), ([] : List Int), false) else (shadowboxref01_Take.jo1 k l0 a1))))
set_option maxRecDepth 100000 in
set_option maxHeartbeats 4000000 in
theorem shadowboxref01_Take.calls (k : Nat) (A0 : Option Addr) (c0 : Nat) (l0 : List Int) (a1 : Int) (r : Int × (List Int) × Bool) (b : Bs) (hs0 : St b (stl []) b.w) (R0 : Ro b A0 (em (Ec.int 5 .u8) l0)) (C0 : l0.length ≤ c0) (H : shadowboxref01_Take.f k l0 a1 = some r) :
    Calls Try.prog 32 #[.slice A0 l0.length c0, .int .i64 a1] b.w fun e w' => ∃ x : (Option Addr × Nat), e = .returned (.tuple #[.int .u64 r.1, .slice x.1 r.2.1.length x.2, .bool r.2.2]) ∧ St b (stl [Ck.sl (Ec.int 5 .u8) x.1 x.2 r.2.1]) w' := by
  unfold shadowboxref01_Take.f at H
  refine enterb (n := 41) Try.func32 rfl (by kernel_rfl) (by kernel_rfl) hs0 ?_
  refine cs_sub (s0) (sub_nil _) ?_
  refine cs_seq ?_
  refine cs_region (l := [_, _, _]) ?_
  refine ls_val (v := .int .u64 (0 : Int)) rfl rfl (by kernel_rfl) (fun w => by kernel_rfl) ?_
  refine ls_val (v := .slice none 0 0) rfl rfl (by kernel_rfl) (fun w => by kernel_rfl) ?_
  refine ls_val (v := .bool false) rfl rfl (by kernel_rfl) (fun w => by kernel_rfl) ?_
  refine ls_end ?_
  refine qn_then ?_
  refine cs_cut (fun f S => ∃ (fR : Fr), f = upd (upd fR 0 (.slice A0 l0.length c0)) 1 (.int .i64 a1) ∧ S = s0 ∧ shadowboxref01_Take.jo1 k l0 a1 = some r) ?_ ?_
  · skip
    refine cs_seq ?_
    refine cs_region (l := [_, _, _, _, _, _, _, _, _, _, _, _]) ?_
    refine ls_val (v := .int .i64 a1) rfl rfl (by kernel_rfl) (fun w => by kernel_rfl) ?_
    refine ls_val (v := .bool (decide (a1 < (1 : Int)))) rfl rfl (by kernel_rfl) (fun w => by kernel_rfl) ?_
    refine ls_val (v := .bool (decide (a1 < (1 : Int)))) rfl rfl (by kernel_rfl) (fun w => by kernel_rfl) ?_
    by_cases q25 : a1 < (1 : Int)
    · replace H := ite_t q25 H
      refine ls_know (c := true) (dec_t q25) 11 (by kernel_rfl) ?_
      refine ls_off (j := 2) (t := 11) (b := false) (c := true) rfl rfl (by kernel_rfl) (by kernel_rfl) rfl rfl (by kernel_rfl) ?_
      refine ls_off (j := 2) (t := 11) (b := false) (c := true) rfl rfl (by kernel_rfl) (by kernel_rfl) rfl rfl (by kernel_rfl) ?_
      refine ls_val (v := .bool true) rfl rfl (by kernel_rfl) (fun w => by kernel_rfl) ?_
      refine ls_val (v := .bool true) rfl rfl (by kernel_rfl) (fun w => by kernel_rfl) ?_
      refine ls_off (j := 6) (t := 15) (b := false) (c := true) rfl rfl (by kernel_rfl) (by kernel_rfl) rfl rfl (by kernel_rfl) ?_
      refine ls_off (j := 6) (t := 15) (b := false) (c := true) rfl rfl (by kernel_rfl) (by kernel_rfl) rfl rfl (by kernel_rfl) ?_
      refine ls_off (j := 6) (t := 15) (b := false) (c := true) rfl rfl (by kernel_rfl) (by kernel_rfl) rfl rfl (by kernel_rfl) ?_
      refine ls_off (j := 6) (t := 15) (b := false) (c := true) rfl rfl (by kernel_rfl) (by kernel_rfl) rfl rfl (by kernel_rfl) ?_
      refine ls_val (v := .bool true) rfl rfl (by kernel_rfl) (fun w => by kernel_rfl) ?_
      refine ls_end ?_
      refine qn_then ?_
      refine cs_true (by kernel_rfl) ?_
      refine cs_seq ?_
      refine cs_region (l := [_, _, _]) ?_
      refine ls_val (v := .int .u64 (0 : Int)) rfl rfl (by kernel_rfl) (fun w => by kernel_rfl) ?_
      refine ls_val (v := .slice none 0 0) rfl rfl (by kernel_rfl) (fun w => by kernel_rfl) ?_
      refine ls_val (v := .bool false) rfl rfl (by kernel_rfl) (fun w => by kernel_rfl) ?_
      refine ls_end ?_
      refine qn_then ?_
      refine cs_ret' ?_
      refine qr_then ?_
      refine qr_nilrow 0 (Ec.int 5 .u8) ?_
      obtain rfl := Option.some.inj H
      refine qr_res (rs := [_, _, _]) rfl (fun w' hs => ⟨[.int .u64 (0 : Int), .slice none 0 0, .bool false], (res_tmp (by kernel_rfl) (res_tmp (by kernel_rfl) (res_tmp (by kernel_rfl) (.nil)))), (none, 0), rfl, hs.pick (ts := [0]) (cs := [Ck.sl (Ec.int 5 .u8) none 0 ([] : List Int)]) ⟨by exact rfl, trivial⟩ (by decide)⟩)
    · replace H := ite_f q25 H
      refine ls_know (c := false) (dec_f q25) 11 (by kernel_rfl) ?_
      refine ls_on (j := 2) (t := 11) (b := false) rfl rfl (by kernel_rfl) (by kernel_rfl) ?_
      refine ls_val (v := .int .i64 a1) rfl rfl (by kernel_rfl) (fun w => by kernel_rfl) ?_
      refine ls_on (j := 2) (t := 11) (b := false) rfl rfl (by kernel_rfl) (by kernel_rfl) ?_
      refine ls_val (v := .bool (decide (a1 > (8 : Int)))) rfl rfl (by kernel_rfl) (fun w => by kernel_rfl) ?_
      refine ls_val (v := .bool (decide (a1 > (8 : Int)))) rfl rfl (by kernel_rfl) (fun w => by kernel_rfl) ?_
      refine ls_val (v := .bool (decide (a1 > (8 : Int)))) rfl rfl (by kernel_rfl) (fun w => by kernel_rfl) ?_
      by_cases q26 : a1 > (8 : Int)
      · replace H := ite_t q26 H
        refine ls_know (c := true) (dec_t q26) 15 (by kernel_rfl) ?_
        refine ls_off (j := 6) (t := 15) (b := false) (c := true) rfl rfl (by kernel_rfl) (by kernel_rfl) rfl rfl (by kernel_rfl) ?_
        refine ls_off (j := 6) (t := 15) (b := false) (c := true) rfl rfl (by kernel_rfl) (by kernel_rfl) rfl rfl (by kernel_rfl) ?_
        refine ls_off (j := 6) (t := 15) (b := false) (c := true) rfl rfl (by kernel_rfl) (by kernel_rfl) rfl rfl (by kernel_rfl) ?_
        refine ls_off (j := 6) (t := 15) (b := false) (c := true) rfl rfl (by kernel_rfl) (by kernel_rfl) rfl rfl (by kernel_rfl) ?_
        refine ls_val (v := .bool true) rfl rfl (by kernel_rfl) (fun w => by kernel_rfl) ?_
        refine ls_end ?_
        refine qn_then ?_
        refine cs_true (by kernel_rfl) ?_
        refine cs_seq ?_
        refine cs_region (l := [_, _, _]) ?_
        refine ls_val (v := .int .u64 (0 : Int)) rfl rfl (by kernel_rfl) (fun w => by kernel_rfl) ?_
        refine ls_val (v := .slice none 0 0) rfl rfl (by kernel_rfl) (fun w => by kernel_rfl) ?_
        refine ls_val (v := .bool false) rfl rfl (by kernel_rfl) (fun w => by kernel_rfl) ?_
        refine ls_end ?_
        refine qn_then ?_
        refine cs_ret' ?_
        refine qr_then ?_
        refine qr_nilrow 0 (Ec.int 5 .u8) ?_
        obtain rfl := Option.some.inj H
        refine qr_res (rs := [_, _, _]) rfl (fun w' hs => ⟨[.int .u64 (0 : Int), .slice none 0 0, .bool false], (res_tmp (by kernel_rfl) (res_tmp (by kernel_rfl) (res_tmp (by kernel_rfl) (.nil)))), (none, 0), rfl, hs.pick (ts := [0]) (cs := [Ck.sl (Ec.int 5 .u8) none 0 ([] : List Int)]) ⟨by exact rfl, trivial⟩ (by decide)⟩)
      · replace H := ite_f q26 H
        refine ls_know (c := false) (dec_f q26) 15 (by kernel_rfl) ?_
        refine ls_on (j := 6) (t := 15) (b := false) rfl rfl (by kernel_rfl) (by kernel_rfl) ?_
        refine ls_val (v := .slice A0 l0.length c0) rfl rfl (by kernel_rfl) (fun w => by kernel_rfl) ?_
        refine ls_on (j := 6) (t := 15) (b := false) rfl rfl (by kernel_rfl) (by kernel_rfl) ?_
        refine ls_val (v := .int .i64 (l0.length : Int)) rfl rfl (by kernel_rfl) (fun w => by kernel_rfl) ?_
        refine ls_on (j := 6) (t := 15) (b := false) rfl rfl (by kernel_rfl) (by kernel_rfl) ?_
        refine ls_val (v := .int .i64 a1) rfl rfl (by kernel_rfl) (fun w => by kernel_rfl) ?_
        refine ls_on (j := 6) (t := 15) (b := false) rfl rfl (by kernel_rfl) (by kernel_rfl) ?_
        refine ls_val (v := .bool (decide ((l0.length : Int) < a1))) rfl rfl (by kernel_rfl) (fun w => by kernel_rfl) ?_
        refine ls_val (v := .bool (decide ((l0.length : Int) < a1))) rfl rfl (by kernel_rfl) (fun w => by kernel_rfl) ?_
        refine ls_end ?_
        refine qn_then ?_
        by_cases q27 : (l0.length : Int) < a1
        · replace H := ite_t q27 H
          refine cs_know (c := true) (dec_t q27) 20 (by kernel_rfl) ?_
          refine cs_true (by kernel_rfl) ?_
          refine cs_seq ?_
          refine cs_region (l := [_, _, _]) ?_
          refine ls_val (v := .int .u64 (0 : Int)) rfl rfl (by kernel_rfl) (fun w => by kernel_rfl) ?_
          refine ls_val (v := .slice none 0 0) rfl rfl (by kernel_rfl) (fun w => by kernel_rfl) ?_
          refine ls_val (v := .bool false) rfl rfl (by kernel_rfl) (fun w => by kernel_rfl) ?_
          refine ls_end ?_
          refine qn_then ?_
          refine cs_ret' ?_
          refine qr_then ?_
          refine qr_nilrow 0 (Ec.int 5 .u8) ?_
          obtain rfl := Option.some.inj H
          refine qr_res (rs := [_, _, _]) rfl (fun w' hs => ⟨[.int .u64 (0 : Int), .slice none 0 0, .bool false], (res_tmp (by kernel_rfl) (res_tmp (by kernel_rfl) (res_tmp (by kernel_rfl) (.nil)))), (none, 0), rfl, hs.pick (ts := [0]) (cs := [Ck.sl (Ec.int 5 .u8) none 0 ([] : List Int)]) ⟨by exact rfl, trivial⟩ (by decide)⟩)
        · replace H := ite_f q27 H
          refine cs_know (c := false) (dec_f q27) 20 (by kernel_rfl) ?_
          refine cs_false (by kernel_rfl) ?_
          refine cs_skip' ?_
          refine qn_meet (s0) ⟨_, fr_next (fr_next (rfl) (by kernel_rfl)) (by kernel_rfl), rfl, H⟩ (sub_nil _)
  · rintro f S ⟨fr1, rfl, rfl, H⟩
    replace H : (shadowboxref01_Take.lo2 l0 a1 k (0 : Int) (IntKind.wrap .i64 (a1 - (1 : Int)))) = some r := H
    refine cs_seq ?_
    refine cs_region (l := [_]) ?_
    refine ls_val (v := .int .u64 (0 : Int)) rfl rfl (by kernel_rfl) (fun w => by kernel_rfl) ?_
    refine ls_end ?_
    refine qn_then ?_
    refine cs_seq ?_
    refine cs_seq ?_
    refine cs_region (l := [_, _, _]) ?_
    refine ls_val (v := .int .i64 a1) rfl rfl (by kernel_rfl) (fun w => by kernel_rfl) ?_
    refine ls_val (v := .int .i64 (IntKind.wrap .i64 (a1 - (1 : Int)))) rfl rfl (by kernel_rfl) (fun w => by kernel_rfl) ?_
    refine ls_val (v := .int .i64 (IntKind.wrap .i64 (a1 - (1 : Int)))) rfl rfl (by kernel_rfl) (fun w => by kernel_rfl) ?_
    refine ls_end ?_
    refine qn_then ?_
    refine cs_block ?_
    refine cs_sub (s0) (sub_nil _) ?_
    refine cs_loop (fun kk f S => ∃ (fR : Fr) (x7_2 : Int) (x8_2 : Int), f = upd (upd (upd (upd fR 0 (.slice A0 l0.length c0)) 1 (.int .i64 a1)) 7 (.int .u64 x7_2)) 8 (.int .i64 x8_2) ∧ S = s0 ∧ shadowboxref01_Take.lo2 l0 a1 kk x7_2 x8_2 = some r) k ?_ ?_ ?_
    · exact ⟨_, (0 : Int), (IntKind.wrap .i64 (a1 - (1 : Int))), fr_next (fr_next (fr_next (fr_next (rfl) (by kernel_rfl)) (by kernel_rfl)) (by kernel_rfl)) (by kernel_rfl), rfl, H⟩
    · rintro f S ⟨fr2, x7_2, x8_2, rfl, rfl, H⟩; cases H
    · rintro k2 f S ⟨fr2, x7_2, x8_2, rfl, rfl, H⟩
      replace H : ((if x8_2 ≥ (0 : Int) then (if 0 ≤ x8_2 then (if x8_2 < (l0.length : Int) then lt (IntKind.wrap .u64 ((l0).getD (x8_2).toNat (0 : Int))) fun y6 => lt (IntKind.wrap .u64 ((IntKind.wrap .u64 (x7_2 * (256 : Int))) + y6)) fun y8 => (shadowboxref01_Take.lo2 l0 a1 k2) y8 (IntKind.wrap .i64 (x8_2 - (1 : Int))) else none) else none) else (if 0 ≤ a1 then (if a1 ≤ (l0.length : Int) then lt (l0.drop (a1).toNat) fun xl17 => (if (([] : List Int).length + xl17.length) * 1 ≤ 140737488355328 then some (x7_2, (([] : List Int) ++ xl17), true) else none) else none) else none))) = some r := H
      refine cs_seq ?_
      refine cs_seq ?_
      refine cs_region (l := [_, _]) ?_
      refine ls_val (v := .int .i64 x8_2) rfl rfl (by kernel_rfl) (fun w => by kernel_rfl) ?_
      refine ls_val (v := .bool (decide (x8_2 ≥ (0 : Int)))) rfl rfl (by kernel_rfl) (fun w => by kernel_rfl) ?_
      refine ls_end ?_
      refine qn_then ?_
      by_cases q1 : x8_2 ≥ (0 : Int)
      · replace H := ite_t q1 H
        refine cs_know (c := true) (dec_t q1) 24 (by kernel_rfl) ?_
        refine cs_true (by kernel_rfl) ?_
        refine cs_skip' ?_
        refine qn_then ?_
        refine cs_seq ?_
        refine cs_block ?_
        refine cs_region (l := [_, _, _, _, _, _, _, _, _]) ?_
        refine ls_val (v := .int .u64 x7_2) rfl rfl (by kernel_rfl) (fun w => by kernel_rfl) ?_
        refine ls_val (v := .int .u64 (IntKind.wrap .u64 (x7_2 * (256 : Int)))) rfl rfl (by kernel_rfl) (fun w => by kernel_rfl) ?_
        refine ls_val (v := .slice A0 l0.length c0) rfl rfl (by kernel_rfl) (fun w => by kernel_rfl) ?_
        refine ls_val (v := .int .i64 x8_2) rfl rfl (by kernel_rfl) (fun w => by kernel_rfl) ?_
        obtain ⟨q2, H⟩ := ite_need H
        obtain ⟨q3, H⟩ := ite_need H
        obtain ⟨ad4, hA5⟩ := ido_at (T := (Ec.int 5 .u8)) (l := l0) (i := x8_2) R0 q2 q3
        refine ls_idxv (Ec.int 5 .u8) (A := A0) (c := c0) (l := l0) (k := .i64) (i := x8_2) (z := 1) (ad := ad4) rfl rfl (by kernel_rfl) hA5 rfl (by kernel_rfl) (by kernel_rfl) (by kernel_rfl) (by kernel_rfl) q2 q3 ?_
        refine ls_load (a0 := (ad4.add ((x8_2).toNat * 1))) (v := .int .u8 ((l0).getD (x8_2).toNat (0 : Int))) (de := (TypeDesc.int .u8)) rfl rfl (by kernel_rfl) rfl (by kernel_rfl) (by kernel_rfl) (by kernel_rfl) (fun w hs => (hs.old R0).at hA5 (em_sub (Ec.int 5 .u8) l0 (i := (x8_2).toNat) (by have h0 : (0 : Int) ≤ x8_2 := q2; have h1 : x8_2 < (l0.length : Int) := q3; omega))) ?_
        obtain ⟨y6, hy7, H⟩ := lt_some H
        refine ls_val (v := .int .u64 (IntKind.wrap .u64 ((l0).getD (x8_2).toNat (0 : Int)))) rfl rfl (by kernel_rfl) (fun w => by kernel_rfl) ?_
        refine ls_ren 33 (v := .int .u64 (IntKind.wrap .u64 ((l0).getD (x8_2).toNat (0 : Int)))) (v' := .int .u64 y6) (by kernel_rfl) (by rw [hy7]) ?_
        obtain ⟨y8, hy9, H⟩ := lt_some H
        refine ls_val (v := .int .u64 (IntKind.wrap .u64 ((IntKind.wrap .u64 (x7_2 * (256 : Int))) + y6))) rfl rfl (by kernel_rfl) (fun w => by kernel_rfl) ?_
        refine ls_ren 34 (v := .int .u64 (IntKind.wrap .u64 ((IntKind.wrap .u64 (x7_2 * (256 : Int))) + y6))) (v' := .int .u64 y8) (by kernel_rfl) (by rw [hy9]) ?_
        refine ls_val (v := .int .u64 y8) rfl rfl (by kernel_rfl) (fun w => by kernel_rfl) ?_
        refine ls_end ?_
        refine qn_block ?_
        refine qn_then ?_
        refine cs_region (l := [_, _, _]) ?_
        refine ls_val (v := .int .i64 x8_2) rfl rfl (by kernel_rfl) (fun w => by kernel_rfl) ?_
        refine ls_val (v := .int .i64 (IntKind.wrap .i64 (x8_2 - (1 : Int)))) rfl rfl (by kernel_rfl) (fun w => by kernel_rfl) ?_
        refine ls_val (v := .int .i64 (IntKind.wrap .i64 (x8_2 - (1 : Int)))) rfl rfl (by kernel_rfl) (fun w => by kernel_rfl) ?_
        refine ls_end ?_
        refine qn_again k2 (s0) (Nat.le_refl _) ⟨_, y8, (IntKind.wrap .i64 (x8_2 - (1 : Int))), fr_next (fr_next (fr_next (fr_next (rfl) (by kernel_rfl)) (by kernel_rfl)) (by kernel_rfl)) (by kernel_rfl), rfl, H⟩ (sub_nil _)
      · replace H := ite_f q1 H
        refine cs_know (c := false) (dec_f q1) 24 (by kernel_rfl) ?_
        refine cs_false (by kernel_rfl) ?_
        refine cs_exit' ?_
        refine qx_then ?_
        refine qx_then ?_
        refine qx_same ?_
        refine qn_then ?_
        refine cs_seq ?_
        refine cs_region (l := [_, _, _, _, _, _, _, _, _]) ?_
        refine ls_val (v := .int .u64 x7_2) rfl rfl (by kernel_rfl) (fun w => by kernel_rfl) ?_
        refine ls_lit (Ec.int 5 .u8) 0 rfl rfl (by kernel_rfl) ([] : List Int) (by exact of_decide_eq_true (by kernel_rfl)) (fun w => by kernel_rfl) ?_
        intro g10
        refine ls_val (v := .slice A0 l0.length c0) rfl rfl (by kernel_rfl) (fun w => by kernel_rfl) ?_
        refine ls_val (v := .int .i64 a1) rfl rfl (by kernel_rfl) (fun w => by kernel_rfl) ?_
        obtain ⟨q11, H⟩ := ite_need H
        obtain ⟨q12, H⟩ := ite_need H
        obtain ⟨xl17, hy18, H⟩ := lt_some H
        have hz20 : (a1).toNat ≤ l0.length := by omega
        have hz21 : l0.length ≤ l0.length := by omega
        obtain ⟨xA13, xc14, he19, xC16, xR15⟩ := cut_at (A := A0) (c := c0) (l := l0) (Ec.int 5 .u8) ((a1).toNat) l0.length hz20 hz21 C0 R0 (m := xl17) (by rw [← hy18] <;> simp) (z := 1) rfl
        refine ls_cutv (A := A0) (c := c0) (m := l0.length) (z := 1) (e := 5) (a := (a1).toNat) (b := l0.length) rfl rfl (by kernel_rfl) rfl (by kernel_rfl) (by kernel_rfl) (by kernel_rfl) (.inr ⟨.i64, by rw [Int.toNat_of_nonneg (by first | assumption | omega)]; kernel_rfl⟩) (.inl ⟨rfl, rfl⟩) hz20 hz21 C0 he19 ?_
        obtain ⟨q22, H⟩ := ite_need H
        refine ls_app (Ec.int 5 .u8) (A := (some ⟨g10, 0, none⟩)) (c := ([] : List Int).length) (B := xA13) (cb := xc14) (z := (Value.int .u8 0)) (l := ([] : List Int)) (m := xl17) (bytes := 1) 0 rfl rfl (by kernel_rfl) rfl (by kernel_rfl) (by exact rfl) (by kernel_rfl) (fun w hs => (hs.old xR15)) (by kernel_rfl) (by kernel_rfl) rfl (by decide) q22 ?_
        intro xA23 xc24
        refine ls_val (v := .int .u64 x7_2) rfl rfl (by kernel_rfl) (fun w => by kernel_rfl) ?_
        refine ls_val (v := .slice xA23 (([] : List Int) ++ xl17).length xc24) rfl rfl (by kernel_rfl) (fun w => by kernel_rfl) ?_
        refine ls_val (v := .bool true) rfl rfl (by kernel_rfl) (fun w => by kernel_rfl) ?_
        refine ls_end ?_
        refine qn_then ?_
        refine cs_ret' ?_
        obtain rfl := Option.some.inj H
        refine qr_res (rs := [_, _, _]) rfl (fun w' hs => ⟨[.int .u64 x7_2, .slice xA23 (([] : List Int) ++ xl17).length xc24, .bool true], (res_tmp (by kernel_rfl) (res_tmp (by kernel_rfl) (res_tmp (by kernel_rfl) (.nil)))), (xA23, xc24), rfl, hs.pick (ts := [0]) (cs := [Ck.sl (Ec.int 5 .u8) xA23 xc24 (([] : List Int) ++ xl17)]) ⟨by exact rfl, trivial⟩ (by decide)⟩)

/-! ### shadowbox/shadowboxref06.Read: function 11 -/
def shadowboxref06_Read.lo2 (l0 : List Int) : Nat → Int → ((Int × Int × Int × Int × (Vc Int 32))) → Option ((Int × Int × Int × Int × (Vc Int 32)) × Int)
  | 0, _, _ => none
  | k2 + 1, x17_2, m5_2 => (if x17_2 < (32 : Int) then (if 0 ≤ IntKind.wrap .i64 ((20 : Int) + x17_2) then (if IntKind.wrap .i64 ((20 : Int) + x17_2) < (l0.length : Int) then lt (((l0).getD (IntKind.wrap .i64 ((20 : Int) + x17_2)).toNat (0 : Int))) fun y63 => (if 0 ≤ x17_2 then lt (vset m5_2.2.2.2.2 (x17_2).toNat y63) fun y66 => (shadowboxref06_Read.lo2 l0 k2) (IntKind.wrap .i64 (x17_2 + (1 : Int))) (m5_2.1, m5_2.2.1, m5_2.2.2.1, m5_2.2.2.2.1, y66) else none) else none) else none) else (shadowboxref06_None.f k2 m5_2).bind fun t68 => (if t68 = true then some (m5_2, (0 : Int)) else (shadowboxref06_Right.f k2 m5_2).bind fun t72 => (if t72 = true then some (m5_2, (0 : Int)) else some (((0 : Int), (0 : Int), (0 : Int), (0 : Int), (vrep 32 (0 : Int))), (11 : Int)))))
def shadowboxref06_Read.jo1 (k : Nat) (l0 : List Int) : Option ((Int × Int × Int × Int × (Vc Int 32)) × Int) := (if (4 : Int) ≤ (l0.length : Int) then lt (l0.take ((4 : Int)).toNat) fun xl7 => (shadowboxref01_Take.f k xl7 (4 : Int)).bind fun t12 => (if (8 : Int) ≤ (l0.length : Int) then (if (4 : Int) ≤ (8 : Int) then lt ((l0.take ((8 : Int)).toNat).drop ((4 : Int)).toNat) fun xl21 => (shadowboxref01_Take.f k xl21 (4 : Int)).bind fun t26 => (if (16 : Int) ≤ (l0.length : Int) then (if (8 : Int) ≤ (16 : Int) then lt ((l0.take ((16 : Int)).toNat).drop ((8 : Int)).toNat) fun xl35 => (shadowboxref01_Take.f k xl35 (8 : Int)).bind fun t40 => (if (20 : Int) ≤ (l0.length : Int) then (if (16 : Int) ≤ (20 : Int) then lt ((l0.take ((20 : Int)).toNat).drop ((16 : Int)).toNat) fun xl49 => (shadowboxref01_Take.f k xl49 (4 : Int)).bind fun t54 => shadowboxref06_Read.lo2 l0 k (0 : Int) (IntKind.wrap .i64 t12.1, IntKind.wrap .i64 t40.1, IntKind.wrap .i64 t26.1, IntKind.wrap .u32 t54.1, (vrep 32 (0 : Int))) else none) else none) else none) else none) else none) else none) else none)
def shadowboxref06_Read.f (k : Nat) (l0 : List Int) : Option ((Int × Int × Int × Int × (Vc Int 32)) × Int) :=
  (if (l0.length : Int) < (52 : Int) then some (((0 : Int), (0 : Int), (0 : Int), (0 : Int), (vrep 32 (0 : Int))), (10 : Int)) else (shadowboxref06_Read.jo1 k l0))
set_option maxRecDepth 100000 in
set_option maxHeartbeats 4000000 in
theorem shadowboxref06_Read.calls (k : Nat) (A0 : Option Addr) (c0 : Nat) (l0 : List Int) (r : (Int × Int × Int × Int × (Vc Int 32)) × Int) (b : Bs) (hs0 : St b (stl []) b.w) (R0 : Ro b A0 (em (Ec.int 5 .u8) l0)) (C0 : l0.length ≤ c0) (H : shadowboxref06_Read.f k l0 = some r) :
    Calls Try.prog 11 #[.slice A0 l0.length c0] b.w fun e w' => ∃ x : Unit, e = .returned (.tuple #[.agg ⟨([Value.int .i64 r.1.1] ++ ([Value.int .i64 r.1.2.1] ++ ([Value.int .i64 r.1.2.2.1] ++ ([Value.int .u32 r.1.2.2.2.1] ++ en (Value.int .u8) r.1.2.2.2.2.1))))⟩, .int .i64 r.2]) ∧ St b (stl []) w' := by
  unfold shadowboxref06_Read.f at H
  refine enterb (n := 81) Try.func11 rfl (by kernel_rfl) (by kernel_rfl) hs0 ?_
  refine cs_sub (s0) (sub_nil _) ?_
  refine cs_seq ?_
  refine cs_region (l := [_, _]) ?_
  refine ls_new rfl rfl (by kernel_rfl) 0 (fun g => .pointer (some ⟨g, 0, none⟩)) (.cells ⟨([Value.int .i64 (0 : Int)] ++ ([Value.int .i64 (0 : Int)] ++ ([Value.int .i64 (0 : Int)] ++ ([Value.int .u32 (0 : Int)] ++ en (Value.int .u8) (vrep 32 (0 : Int)).1))))⟩ 25) (fun w => by kernel_rfl) ?_
  intro g1
  refine ls_val (v := .int .i64 (0 : Int)) rfl rfl (by kernel_rfl) (fun w => by kernel_rfl) ?_
  refine ls_end ?_
  refine qn_then ?_
  refine cs_cut (fun f S => ∃ (fR : Fr), f = upd (upd fR 0 (.slice A0 l0.length c0)) 2 (.pointer (some ⟨g1, 0, none⟩)) ∧ S = sput s0 0 (some (Ck.var 25 g1 (([Value.int .i64 (0 : Int)] ++ ([Value.int .i64 (0 : Int)] ++ ([Value.int .i64 (0 : Int)] ++ ([Value.int .u32 (0 : Int)] ++ en (Value.int .u8) (vrep 32 (0 : Int)).1))))))) ∧ shadowboxref06_Read.jo1 k l0 = some r) ?_ ?_
  · skip
    refine cs_seq ?_
    refine cs_region (l := [_, _, _]) ?_
    refine ls_val (v := .slice A0 l0.length c0) rfl rfl (by kernel_rfl) (fun w => by kernel_rfl) ?_
    refine ls_val (v := .int .i64 (l0.length : Int)) rfl rfl (by kernel_rfl) (fun w => by kernel_rfl) ?_
    refine ls_val (v := .bool (decide ((l0.length : Int) < (52 : Int)))) rfl rfl (by kernel_rfl) (fun w => by kernel_rfl) ?_
    refine ls_end ?_
    refine qn_then ?_
    by_cases q76 : (l0.length : Int) < (52 : Int)
    · replace H := ite_t q76 H
      refine cs_know (c := true) (dec_t q76) 20 (by kernel_rfl) ?_
      refine cs_true (by kernel_rfl) ?_
      refine cs_seq ?_
      refine cs_region (l := [_, _, _]) ?_
      refine ls_build (ps := []) (pl := #[(0, 1), (1, 1), (2, 1), (3, 1), (4, 32)]) (zv := .agg ⟨([Value.int .i64 (0 : Int)] ++ ([Value.int .i64 (0 : Int)] ++ ([Value.int .i64 (0 : Int)] ++ ([Value.int .u32 (0 : Int)] ++ en (Value.int .u8) (vrep 32 (0 : Int)).1))))⟩) (zc := ([Value.int .i64 (0 : Int)] ++ ([Value.int .i64 (0 : Int)] ++ ([Value.int .i64 (0 : Int)] ++ ([Value.int .u32 (0 : Int)] ++ en (Value.int .u8) (vrep 32 (0 : Int)).1))))) (r := ([Value.int .i64 (0 : Int)] ++ ([Value.int .i64 (0 : Int)] ++ ([Value.int .i64 (0 : Int)] ++ ([Value.int .u32 (0 : Int)] ++ en (Value.int .u8) (vrep 32 (0 : Int)).1))))) rfl rfl (by kernel_rfl) rfl (by kernel_rfl) (by kernel_rfl) (fun w => by kernel_rfl) (fun w => by kernel_rfl) rfl fill_nil ?_
      refine ls_storec (g := g1) (off := 0) (v := .agg ⟨([Value.int .i64 (0 : Int)] ++ ([Value.int .i64 (0 : Int)] ++ ([Value.int .i64 (0 : Int)] ++ ([Value.int .u32 (0 : Int)] ++ en (Value.int .u8) (vrep 32 (0 : Int)).1))))⟩) (vs := ([Value.int .i64 (0 : Int)] ++ ([Value.int .i64 (0 : Int)] ++ ([Value.int .i64 (0 : Int)] ++ ([Value.int .u32 (0 : Int)] ++ en (Value.int .u8) (vrep 32 (0 : Int)).1))))) (cs := ([Value.int .i64 (0 : Int)] ++ ([Value.int .i64 (0 : Int)] ++ ([Value.int .i64 (0 : Int)] ++ ([Value.int .u32 (0 : Int)] ++ en (Value.int .u8) (vrep 32 (0 : Int)).1))))) (ty := 25) 0 rfl rfl rfl (by kernel_rfl) (by kernel_rfl) (by kernel_rfl) (by exact rfl) (by kernel_rfl) (len_app (len1 _) (len_app (len1 _) (len_app (len1 _) (len_app (len1 _) (len_en _ (vrep 32 (0 : Int))))))) (one_app (one_cons rfl one_nil) (one_app (one_cons rfl one_nil) (one_app (one_cons rfl one_nil) (one_app (one_cons rfl one_nil) (one_en (fun _ => rfl) _))))) (hl_of (Sub4.all _) (len_eq (len_app (len1 _) (len_app (len1 _) (len_app (len1 _) (len_app (len1 _) (len_en _ (vrep 32 (0 : Int))))))) (len_app (len1 _) (len_app (len1 _) (len_app (len1 _) (len_app (len1 _) (len_en _ (vrep 32 (0 : Int))))))))) (cs' := ([Value.int .i64 (0 : Int)] ++ ([Value.int .i64 (0 : Int)] ++ ([Value.int .i64 (0 : Int)] ++ ([Value.int .u32 (0 : Int)] ++ en (Value.int .u8) (vrep 32 (0 : Int)).1))))) (splc_all (len_eq (len_app (len1 _) (len_app (len1 _) (len_app (len1 _) (len_app (len1 _) (len_en _ (vrep 32 (0 : Int))))))) (len_app (len1 _) (len_app (len1 _) (len_app (len1 _) (len_app (len1 _) (len_en _ (vrep 32 (0 : Int))))))))) ?_
      refine ls_val (v := .int .i64 (10 : Int)) rfl rfl (by kernel_rfl) (fun w => by kernel_rfl) ?_
      refine ls_end ?_
      refine qn_then ?_
      refine cs_ret' ?_
      refine qr_then ?_
      obtain rfl := Option.some.inj H
      refine qr_res (rs := [_, _]) rfl (fun w' hs => ⟨[.agg ⟨([Value.int .i64 (0 : Int)] ++ ([Value.int .i64 (0 : Int)] ++ ([Value.int .i64 (0 : Int)] ++ ([Value.int .u32 (0 : Int)] ++ en (Value.int .u8) (vrep 32 (0 : Int)).1))))⟩, .int .i64 (10 : Int)], (.cell (by kernel_rfl) (run_cellres (by kernel_rfl) (by kernel_rfl) (len_app (len1 _) (len_app (len1 _) (len_app (len1 _) (len_app (len1 _) (len_en _ (vrep 32 (0 : Int))))))) (hs.holds 0 _ (by exact rfl))) (res_tmp (by kernel_rfl) (.nil))), (), rfl, hs.pick (ts := []) (cs := []) trivial (by decide)⟩)
    · replace H := ite_f q76 H
      refine cs_know (c := false) (dec_f q76) 20 (by kernel_rfl) ?_
      refine cs_false (by kernel_rfl) ?_
      refine cs_skip' ?_
      refine qn_meet (sput s0 0 (some (Ck.var 25 g1 (([Value.int .i64 (0 : Int)] ++ ([Value.int .i64 (0 : Int)] ++ ([Value.int .i64 (0 : Int)] ++ ([Value.int .u32 (0 : Int)] ++ en (Value.int .u8) (vrep 32 (0 : Int)).1)))))))) ⟨_, fr_next (fr_next (rfl) (by kernel_rfl)) (by kernel_rfl), rfl, H⟩ (sub_put (by exact rfl) (sub_nil _))
  · rintro f S ⟨fr1, rfl, rfl, H⟩
    replace H : ((if (4 : Int) ≤ (l0.length : Int) then lt (l0.take ((4 : Int)).toNat) fun xl7 => (shadowboxref01_Take.f k xl7 (4 : Int)).bind fun t12 => (if (8 : Int) ≤ (l0.length : Int) then (if (4 : Int) ≤ (8 : Int) then lt ((l0.take ((8 : Int)).toNat).drop ((4 : Int)).toNat) fun xl21 => (shadowboxref01_Take.f k xl21 (4 : Int)).bind fun t26 => (if (16 : Int) ≤ (l0.length : Int) then (if (8 : Int) ≤ (16 : Int) then lt ((l0.take ((16 : Int)).toNat).drop ((8 : Int)).toNat) fun xl35 => (shadowboxref01_Take.f k xl35 (8 : Int)).bind fun t40 => (if (20 : Int) ≤ (l0.length : Int) then (if (16 : Int) ≤ (20 : Int) then lt ((l0.take ((20 : Int)).toNat).drop ((16 : Int)).toNat) fun xl49 => (shadowboxref01_Take.f k xl49 (4 : Int)).bind fun t54 => shadowboxref06_Read.lo2 l0 k (0 : Int) (IntKind.wrap .i64 t12.1, IntKind.wrap .i64 t40.1, IntKind.wrap .i64 t26.1, IntKind.wrap .u32 t54.1, (vrep 32 (0 : Int))) else none) else none) else none) else none) else none) else none) else none)) = some r := H
    refine cs_seq ?_
    refine cs_region (l := [_, _, _, _, _, _, _, _, _, _]) ?_
    refine ls_val (v := .slice A0 l0.length c0) rfl rfl (by kernel_rfl) (fun w => by kernel_rfl) ?_
    obtain ⟨q2, H⟩ := ite_need H
    obtain ⟨xl7, hy8, H⟩ := lt_some H
    have hz10 : 0 ≤ ((4 : Int)).toNat := by omega
    have hz11 : ((4 : Int)).toNat ≤ l0.length := by omega
    obtain ⟨xA3, xc4, he9, xC6, xR5⟩ := cut_at (A := A0) (c := c0) (l := l0) (Ec.int 5 .u8) 0 (((4 : Int)).toNat) hz10 hz11 C0 R0 (m := xl7) (by rw [← hy8] <;> simp) (z := 1) rfl
    refine ls_cutv (A := A0) (c := c0) (m := l0.length) (z := 1) (e := 5) (a := 0) (b := ((4 : Int)).toNat) rfl rfl (by kernel_rfl) rfl (by kernel_rfl) (by kernel_rfl) (by kernel_rfl) (.inl ⟨rfl, rfl⟩) (.inr ⟨.i64, by rw [Int.toNat_of_nonneg (by first | assumption | omega)]; kernel_rfl⟩) hz10 hz11 C0 he9 ?_
    obtain ⟨t12, hc13, H⟩ := bind_some H
    refine ls_callb (fid := 32) (vals := #[.slice xA3 xl7.length xc4, .int .i64 (4 : Int)]) (X := (Option Addr × Nat)) (fun x => .tuple #[.int .u64 t12.1, .slice x.1 t12.2.1.length x.2, .bool t12.2.2]) (fun x => stl [Ck.sl (Ec.int 5 .u8) x.1 x.2 t12.2.1]) [] [] [] [] 1 rfl rfl (by kernel_rfl) (fun w => by kernel_rfl) trivial trivial (by decide) (fun w hs hb => shadowboxref01_Take.calls k xA3 xc4 xl7 (4 : Int) t12 (lent b w [] []) hb (hs.ro xR5 _ _) xC6 hc13) ?_
    intro x14
    refine ls_val (v := .tuple #[.int .u64 t12.1, .slice x14.1 t12.2.1.length x14.2, .bool t12.2.2]) rfl rfl (by kernel_rfl) (fun w => by kernel_rfl) ?_
    refine ls_val (v := .int .u64 t12.1) rfl rfl (by kernel_rfl) (fun w => by kernel_rfl) ?_
    refine ls_val (v := .slice x14.1 t12.2.1.length x14.2) rfl rfl (by kernel_rfl) (fun w => by kernel_rfl) ?_
    refine ls_val (v := .bool t12.2.2) rfl rfl (by kernel_rfl) (fun w => by kernel_rfl) ?_
    refine ls_val (v := .int .u64 t12.1) rfl rfl (by kernel_rfl) (fun w => by kernel_rfl) ?_
    refine ls_val (v := .slice x14.1 t12.2.1.length x14.2) rfl rfl (by kernel_rfl) (fun w => by kernel_rfl) ?_
    refine ls_val (v := .bool t12.2.2) rfl rfl (by kernel_rfl) (fun w => by kernel_rfl) ?_
    refine ls_end ?_
    refine qn_then ?_
    refine cs_seq ?_
    refine cs_region (l := [_, _, _, _, _, _, _, _, _, _]) ?_
    refine ls_val (v := .slice A0 l0.length c0) rfl rfl (by kernel_rfl) (fun w => by kernel_rfl) ?_
    obtain ⟨q15, H⟩ := ite_need H
    obtain ⟨q16, H⟩ := ite_need H
    obtain ⟨xl21, hy22, H⟩ := lt_some H
    have hz24 : ((4 : Int)).toNat ≤ ((8 : Int)).toNat := by omega
    have hz25 : ((8 : Int)).toNat ≤ l0.length := by omega
    obtain ⟨xA17, xc18, he23, xC20, xR19⟩ := cut_at (A := A0) (c := c0) (l := l0) (Ec.int 5 .u8) (((4 : Int)).toNat) (((8 : Int)).toNat) hz24 hz25 C0 R0 (m := xl21) (by rw [← hy22] <;> simp) (z := 1) rfl
    refine ls_cutv (A := A0) (c := c0) (m := l0.length) (z := 1) (e := 5) (a := ((4 : Int)).toNat) (b := ((8 : Int)).toNat) rfl rfl (by kernel_rfl) rfl (by kernel_rfl) (by kernel_rfl) (by kernel_rfl) (.inr ⟨.i64, by rw [Int.toNat_of_nonneg (by first | assumption | omega)]; kernel_rfl⟩) (.inr ⟨.i64, by rw [Int.toNat_of_nonneg (by first | assumption | omega)]; kernel_rfl⟩) hz24 hz25 C0 he23 ?_
    obtain ⟨t26, hc27, H⟩ := bind_some H
    refine ls_callb (fid := 32) (vals := #[.slice xA17 xl21.length xc18, .int .i64 (4 : Int)]) (X := (Option Addr × Nat)) (fun x => .tuple #[.int .u64 t26.1, .slice x.1 t26.2.1.length x.2, .bool t26.2.2]) (fun x => stl [Ck.sl (Ec.int 5 .u8) x.1 x.2 t26.2.1]) [] [] [] [] 2 rfl rfl (by kernel_rfl) (fun w => by kernel_rfl) trivial trivial (by decide) (fun w hs hb => shadowboxref01_Take.calls k xA17 xc18 xl21 (4 : Int) t26 (lent b w [] []) hb (hs.ro xR19 _ _) xC20 hc27) ?_
    intro x28
    refine ls_val (v := .tuple #[.int .u64 t26.1, .slice x28.1 t26.2.1.length x28.2, .bool t26.2.2]) rfl rfl (by kernel_rfl) (fun w => by kernel_rfl) ?_
    refine ls_val (v := .int .u64 t26.1) rfl rfl (by kernel_rfl) (fun w => by kernel_rfl) ?_
    refine ls_val (v := .slice x28.1 t26.2.1.length x28.2) rfl rfl (by kernel_rfl) (fun w => by kernel_rfl) ?_
    refine ls_val (v := .bool t26.2.2) rfl rfl (by kernel_rfl) (fun w => by kernel_rfl) ?_
    refine ls_val (v := .int .u64 t26.1) rfl rfl (by kernel_rfl) (fun w => by kernel_rfl) ?_
    refine ls_val (v := .slice x28.1 t26.2.1.length x28.2) rfl rfl (by kernel_rfl) (fun w => by kernel_rfl) ?_
    refine ls_val (v := .bool t26.2.2) rfl rfl (by kernel_rfl) (fun w => by kernel_rfl) ?_
    refine ls_end ?_
    refine qn_then ?_
    refine cs_seq ?_
    refine cs_region (l := [_, _, _, _, _, _, _, _, _, _]) ?_
    refine ls_val (v := .slice A0 l0.length c0) rfl rfl (by kernel_rfl) (fun w => by kernel_rfl) ?_
    obtain ⟨q29, H⟩ := ite_need H
    obtain ⟨q30, H⟩ := ite_need H
    obtain ⟨xl35, hy36, H⟩ := lt_some H
    have hz38 : ((8 : Int)).toNat ≤ ((16 : Int)).toNat := by omega
    have hz39 : ((16 : Int)).toNat ≤ l0.length := by omega
    obtain ⟨xA31, xc32, he37, xC34, xR33⟩ := cut_at (A := A0) (c := c0) (l := l0) (Ec.int 5 .u8) (((8 : Int)).toNat) (((16 : Int)).toNat) hz38 hz39 C0 R0 (m := xl35) (by rw [← hy36] <;> simp) (z := 1) rfl
    refine ls_cutv (A := A0) (c := c0) (m := l0.length) (z := 1) (e := 5) (a := ((8 : Int)).toNat) (b := ((16 : Int)).toNat) rfl rfl (by kernel_rfl) rfl (by kernel_rfl) (by kernel_rfl) (by kernel_rfl) (.inr ⟨.i64, by rw [Int.toNat_of_nonneg (by first | assumption | omega)]; kernel_rfl⟩) (.inr ⟨.i64, by rw [Int.toNat_of_nonneg (by first | assumption | omega)]; kernel_rfl⟩) hz38 hz39 C0 he37 ?_
    obtain ⟨t40, hc41, H⟩ := bind_some H
    refine ls_callb (fid := 32) (vals := #[.slice xA31 xl35.length xc32, .int .i64 (8 : Int)]) (X := (Option Addr × Nat)) (fun x => .tuple #[.int .u64 t40.1, .slice x.1 t40.2.1.length x.2, .bool t40.2.2]) (fun x => stl [Ck.sl (Ec.int 5 .u8) x.1 x.2 t40.2.1]) [] [] [] [] 3 rfl rfl (by kernel_rfl) (fun w => by kernel_rfl) trivial trivial (by decide) (fun w hs hb => shadowboxref01_Take.calls k xA31 xc32 xl35 (8 : Int) t40 (lent b w [] []) hb (hs.ro xR33 _ _) xC34 hc41) ?_
    intro x42
    refine ls_val (v := .tuple #[.int .u64 t40.1, .slice x42.1 t40.2.1.length x42.2, .bool t40.2.2]) rfl rfl (by kernel_rfl) (fun w => by kernel_rfl) ?_
    refine ls_val (v := .int .u64 t40.1) rfl rfl (by kernel_rfl) (fun w => by kernel_rfl) ?_
    refine ls_val (v := .slice x42.1 t40.2.1.length x42.2) rfl rfl (by kernel_rfl) (fun w => by kernel_rfl) ?_
    refine ls_val (v := .bool t40.2.2) rfl rfl (by kernel_rfl) (fun w => by kernel_rfl) ?_
    refine ls_val (v := .int .u64 t40.1) rfl rfl (by kernel_rfl) (fun w => by kernel_rfl) ?_
    refine ls_val (v := .slice x42.1 t40.2.1.length x42.2) rfl rfl (by kernel_rfl) (fun w => by kernel_rfl) ?_
    refine ls_val (v := .bool t40.2.2) rfl rfl (by kernel_rfl) (fun w => by kernel_rfl) ?_
    refine ls_end ?_
    refine qn_then ?_
    refine cs_seq ?_
    refine cs_region (l := [_, _, _, _, _, _, _, _, _, _]) ?_
    refine ls_val (v := .slice A0 l0.length c0) rfl rfl (by kernel_rfl) (fun w => by kernel_rfl) ?_
    obtain ⟨q43, H⟩ := ite_need H
    obtain ⟨q44, H⟩ := ite_need H
    obtain ⟨xl49, hy50, H⟩ := lt_some H
    have hz52 : ((16 : Int)).toNat ≤ ((20 : Int)).toNat := by omega
    have hz53 : ((20 : Int)).toNat ≤ l0.length := by omega
    obtain ⟨xA45, xc46, he51, xC48, xR47⟩ := cut_at (A := A0) (c := c0) (l := l0) (Ec.int 5 .u8) (((16 : Int)).toNat) (((20 : Int)).toNat) hz52 hz53 C0 R0 (m := xl49) (by rw [← hy50] <;> simp) (z := 1) rfl
    refine ls_cutv (A := A0) (c := c0) (m := l0.length) (z := 1) (e := 5) (a := ((16 : Int)).toNat) (b := ((20 : Int)).toNat) rfl rfl (by kernel_rfl) rfl (by kernel_rfl) (by kernel_rfl) (by kernel_rfl) (.inr ⟨.i64, by rw [Int.toNat_of_nonneg (by first | assumption | omega)]; kernel_rfl⟩) (.inr ⟨.i64, by rw [Int.toNat_of_nonneg (by first | assumption | omega)]; kernel_rfl⟩) hz52 hz53 C0 he51 ?_
    obtain ⟨t54, hc55, H⟩ := bind_some H
    refine ls_callb (fid := 32) (vals := #[.slice xA45 xl49.length xc46, .int .i64 (4 : Int)]) (X := (Option Addr × Nat)) (fun x => .tuple #[.int .u64 t54.1, .slice x.1 t54.2.1.length x.2, .bool t54.2.2]) (fun x => stl [Ck.sl (Ec.int 5 .u8) x.1 x.2 t54.2.1]) [] [] [] [] 4 rfl rfl (by kernel_rfl) (fun w => by kernel_rfl) trivial trivial (by decide) (fun w hs hb => shadowboxref01_Take.calls k xA45 xc46 xl49 (4 : Int) t54 (lent b w [] []) hb (hs.ro xR47 _ _) xC48 hc55) ?_
    intro x56
    refine ls_val (v := .tuple #[.int .u64 t54.1, .slice x56.1 t54.2.1.length x56.2, .bool t54.2.2]) rfl rfl (by kernel_rfl) (fun w => by kernel_rfl) ?_
    refine ls_val (v := .int .u64 t54.1) rfl rfl (by kernel_rfl) (fun w => by kernel_rfl) ?_
    refine ls_val (v := .slice x56.1 t54.2.1.length x56.2) rfl rfl (by kernel_rfl) (fun w => by kernel_rfl) ?_
    refine ls_val (v := .bool t54.2.2) rfl rfl (by kernel_rfl) (fun w => by kernel_rfl) ?_
    refine ls_val (v := .int .u64 t54.1) rfl rfl (by kernel_rfl) (fun w => by kernel_rfl) ?_
    refine ls_val (v := .slice x56.1 t54.2.1.length x56.2) rfl rfl (by kernel_rfl) (fun w => by kernel_rfl) ?_
    refine ls_val (v := .bool t54.2.2) rfl rfl (by kernel_rfl) (fun w => by kernel_rfl) ?_
    refine ls_end ?_
    refine qn_then ?_
    refine cs_seq ?_
    refine cs_region (l := [_, _, _, _, _, _, _, _, _, _, _]) ?_
    refine ls_val (v := .int .u64 t12.1) rfl rfl (by kernel_rfl) (fun w => by kernel_rfl) ?_
    refine ls_val (v := .int .i64 (IntKind.wrap .i64 t12.1)) rfl rfl (by kernel_rfl) (fun w => by kernel_rfl) ?_
    refine ls_val (v := .int .u64 t26.1) rfl rfl (by kernel_rfl) (fun w => by kernel_rfl) ?_
    refine ls_val (v := .int .i64 (IntKind.wrap .i64 t26.1)) rfl rfl (by kernel_rfl) (fun w => by kernel_rfl) ?_
    refine ls_val (v := .int .u64 t40.1) rfl rfl (by kernel_rfl) (fun w => by kernel_rfl) ?_
    refine ls_val (v := .int .i64 (IntKind.wrap .i64 t40.1)) rfl rfl (by kernel_rfl) (fun w => by kernel_rfl) ?_
    refine ls_val (v := .int .u64 t54.1) rfl rfl (by kernel_rfl) (fun w => by kernel_rfl) ?_
    refine ls_val (v := .int .u32 (IntKind.wrap .u32 t54.1)) rfl rfl (by kernel_rfl) (fun w => by kernel_rfl) ?_
    refine ls_build (ps := [(0, .int .i64 (IntKind.wrap .i64 t12.1)), (2, .int .i64 (IntKind.wrap .i64 t26.1)), (1, .int .i64 (IntKind.wrap .i64 t40.1)), (3, .int .u32 (IntKind.wrap .u32 t54.1))]) (pl := #[(0, 1), (1, 1), (2, 1), (3, 1), (4, 32)]) (zv := .agg ⟨([Value.int .i64 (0 : Int)] ++ ([Value.int .i64 (0 : Int)] ++ ([Value.int .i64 (0 : Int)] ++ ([Value.int .u32 (0 : Int)] ++ en (Value.int .u8) (vrep 32 (0 : Int)).1))))⟩) (zc := ([Value.int .i64 (0 : Int)] ++ ([Value.int .i64 (0 : Int)] ++ ([Value.int .i64 (0 : Int)] ++ ([Value.int .u32 (0 : Int)] ++ en (Value.int .u8) (vrep 32 (0 : Int)).1))))) (r := ([Value.int .i64 (IntKind.wrap .i64 t12.1)] ++ ([Value.int .i64 (IntKind.wrap .i64 t40.1)] ++ ([Value.int .i64 (IntKind.wrap .i64 t26.1)] ++ ([Value.int .u32 (IntKind.wrap .u32 t54.1)] ++ en (Value.int .u8) (vrep 32 (0 : Int)).1))))) rfl rfl (by kernel_rfl) rfl (by kernel_rfl) (by kernel_rfl) (fun w => by kernel_rfl) (fun w => by kernel_rfl) rfl (fill_cons (vs := [Value.int .i64 (IntKind.wrap .i64 t12.1)]) (cs' := ([Value.int .i64 (IntKind.wrap .i64 t12.1)] ++ ([Value.int .i64 (0 : Int)] ++ ([Value.int .i64 (0 : Int)] ++ ([Value.int .u32 (0 : Int)] ++ en (Value.int .u8) (vrep 32 (0 : Int)).1))))) (off := 0) (size := 1) rfl (by kernel_rfl) (len1 _) (le_of_len (len_app (len1 _) (len_app (len1 _) (len_app (len1 _) (len_app (len1 _) (len_en _ (vrep 32 (0 : Int))))))) (by decide)) (splc_in (Sub4.all _) (splc_head (len_eq (len1 _) (len1 _))) (splc_all (len_eq (len_app (len1 _) (len_app (len1 _) (len_app (len1 _) (len_app (len1 _) (len_en _ (vrep 32 (0 : Int))))))) (len_app (len1 _) (len_app (len1 _) (len_app (len1 _) (len_app (len1 _) (len_en _ (vrep 32 (0 : Int))))))))) (hl_of (Sub4.head _ _) (len_eq (len1 _) (len1 _)))) (fill_cons (vs := [Value.int .i64 (IntKind.wrap .i64 t26.1)]) (cs' := ([Value.int .i64 (IntKind.wrap .i64 t12.1)] ++ ([Value.int .i64 (0 : Int)] ++ ([Value.int .i64 (IntKind.wrap .i64 t26.1)] ++ ([Value.int .u32 (0 : Int)] ++ en (Value.int .u8) (vrep 32 (0 : Int)).1))))) (off := 2) (size := 1) rfl (by kernel_rfl) (len1 _) (le_of_len (len_app (len1 _) (len_app (len1 _) (len_app (len1 _) (len_app (len1 _) (len_en _ (vrep 32 (0 : Int))))))) (by decide)) (splc_in (Sub4.all _) (splc_skip (n := 1) (len1 _) (splc_skip (n := 1) (len1 _) (splc_head (len_eq (len1 _) (len1 _))))) (splc_all (len_eq (len_app (len1 _) (len_app (len1 _) (len_app (len1 _) (len_app (len1 _) (len_en _ (vrep 32 (0 : Int))))))) (len_app (len1 _) (len_app (len1 _) (len_app (len1 _) (len_app (len1 _) (len_en _ (vrep 32 (0 : Int))))))))) (hl_of (Sub4.skip (n := 1) (len1 _) (Sub4.skip (n := 1) (len1 _) (Sub4.head _ _))) (len_eq (len1 _) (len1 _)))) (fill_cons (vs := [Value.int .i64 (IntKind.wrap .i64 t40.1)]) (cs' := ([Value.int .i64 (IntKind.wrap .i64 t12.1)] ++ ([Value.int .i64 (IntKind.wrap .i64 t40.1)] ++ ([Value.int .i64 (IntKind.wrap .i64 t26.1)] ++ ([Value.int .u32 (0 : Int)] ++ en (Value.int .u8) (vrep 32 (0 : Int)).1))))) (off := 1) (size := 1) rfl (by kernel_rfl) (len1 _) (le_of_len (len_app (len1 _) (len_app (len1 _) (len_app (len1 _) (len_app (len1 _) (len_en _ (vrep 32 (0 : Int))))))) (by decide)) (splc_in (Sub4.all _) (splc_skip (n := 1) (len1 _) (splc_head (len_eq (len1 _) (len1 _)))) (splc_all (len_eq (len_app (len1 _) (len_app (len1 _) (len_app (len1 _) (len_app (len1 _) (len_en _ (vrep 32 (0 : Int))))))) (len_app (len1 _) (len_app (len1 _) (len_app (len1 _) (len_app (len1 _) (len_en _ (vrep 32 (0 : Int))))))))) (hl_of (Sub4.skip (n := 1) (len1 _) (Sub4.head _ _)) (len_eq (len1 _) (len1 _)))) (fill_cons (vs := [Value.int .u32 (IntKind.wrap .u32 t54.1)]) (cs' := ([Value.int .i64 (IntKind.wrap .i64 t12.1)] ++ ([Value.int .i64 (IntKind.wrap .i64 t40.1)] ++ ([Value.int .i64 (IntKind.wrap .i64 t26.1)] ++ ([Value.int .u32 (IntKind.wrap .u32 t54.1)] ++ en (Value.int .u8) (vrep 32 (0 : Int)).1))))) (off := 3) (size := 1) rfl (by kernel_rfl) (len1 _) (le_of_len (len_app (len1 _) (len_app (len1 _) (len_app (len1 _) (len_app (len1 _) (len_en _ (vrep 32 (0 : Int))))))) (by decide)) (splc_in (Sub4.all _) (splc_skip (n := 1) (len1 _) (splc_skip (n := 1) (len1 _) (splc_skip (n := 1) (len1 _) (splc_head (len_eq (len1 _) (len1 _)))))) (splc_all (len_eq (len_app (len1 _) (len_app (len1 _) (len_app (len1 _) (len_app (len1 _) (len_en _ (vrep 32 (0 : Int))))))) (len_app (len1 _) (len_app (len1 _) (len_app (len1 _) (len_app (len1 _) (len_en _ (vrep 32 (0 : Int))))))))) (hl_of (Sub4.skip (n := 1) (len1 _) (Sub4.skip (n := 1) (len1 _) (Sub4.skip (n := 1) (len1 _) (Sub4.head _ _)))) (len_eq (len1 _) (len1 _)))) fill_nil)))) ?_
    refine ls_new rfl rfl (by kernel_rfl) 5 (fun g => .pointer (some ⟨g, 0, none⟩)) (.cells ⟨([Value.int .i64 (0 : Int)] ++ ([Value.int .i64 (0 : Int)] ++ ([Value.int .i64 (0 : Int)] ++ ([Value.int .u32 (0 : Int)] ++ en (Value.int .u8) (vrep 32 (0 : Int)).1))))⟩ 25) (fun w => by kernel_rfl) ?_
    intro g57
    refine ls_storec (g := g57) (off := 0) (v := .agg ⟨([Value.int .i64 (IntKind.wrap .i64 t12.1)] ++ ([Value.int .i64 (IntKind.wrap .i64 t40.1)] ++ ([Value.int .i64 (IntKind.wrap .i64 t26.1)] ++ ([Value.int .u32 (IntKind.wrap .u32 t54.1)] ++ en (Value.int .u8) (vrep 32 (0 : Int)).1))))⟩) (vs := ([Value.int .i64 (IntKind.wrap .i64 t12.1)] ++ ([Value.int .i64 (IntKind.wrap .i64 t40.1)] ++ ([Value.int .i64 (IntKind.wrap .i64 t26.1)] ++ ([Value.int .u32 (IntKind.wrap .u32 t54.1)] ++ en (Value.int .u8) (vrep 32 (0 : Int)).1))))) (cs := ([Value.int .i64 (0 : Int)] ++ ([Value.int .i64 (0 : Int)] ++ ([Value.int .i64 (0 : Int)] ++ ([Value.int .u32 (0 : Int)] ++ en (Value.int .u8) (vrep 32 (0 : Int)).1))))) (ty := 25) 5 rfl rfl rfl (by kernel_rfl) (by kernel_rfl) (by kernel_rfl) (by exact rfl) (by kernel_rfl) (len_app (len1 _) (len_app (len1 _) (len_app (len1 _) (len_app (len1 _) (len_en _ (vrep 32 (0 : Int))))))) (one_app (one_cons rfl one_nil) (one_app (one_cons rfl one_nil) (one_app (one_cons rfl one_nil) (one_app (one_cons rfl one_nil) (one_en (fun _ => rfl) _))))) (hl_of (Sub4.all _) (len_eq (len_app (len1 _) (len_app (len1 _) (len_app (len1 _) (len_app (len1 _) (len_en _ (vrep 32 (0 : Int))))))) (len_app (len1 _) (len_app (len1 _) (len_app (len1 _) (len_app (len1 _) (len_en _ (vrep 32 (0 : Int))))))))) (cs' := ([Value.int .i64 (IntKind.wrap .i64 t12.1)] ++ ([Value.int .i64 (IntKind.wrap .i64 t40.1)] ++ ([Value.int .i64 (IntKind.wrap .i64 t26.1)] ++ ([Value.int .u32 (IntKind.wrap .u32 t54.1)] ++ en (Value.int .u8) (vrep 32 (0 : Int)).1))))) (splc_all (len_eq (len_app (len1 _) (len_app (len1 _) (len_app (len1 _) (len_app (len1 _) (len_en _ (vrep 32 (0 : Int))))))) (len_app (len1 _) (len_app (len1 _) (len_app (len1 _) (len_app (len1 _) (len_en _ (vrep 32 (0 : Int))))))))) ?_
    refine ls_end ?_
    refine qn_then ?_
    refine cs_seq ?_
    refine cs_seq ?_
    refine cs_region (l := [_]) ?_
    refine ls_val (v := .int .i64 (0 : Int)) rfl rfl (by kernel_rfl) (fun w => by kernel_rfl) ?_
    refine ls_end ?_
    refine qn_then ?_
    refine cs_block ?_
    refine cs_sub (sput (sput s0 0 (some (Ck.var 25 g1 (([Value.int .i64 (0 : Int)] ++ ([Value.int .i64 (0 : Int)] ++ ([Value.int .i64 (0 : Int)] ++ ([Value.int .u32 (0 : Int)] ++ en (Value.int .u8) (vrep 32 (0 : Int)).1)))))))) 5 (some (Ck.var 25 g57 (([Value.int .i64 (IntKind.wrap .i64 t12.1)] ++ ([Value.int .i64 (IntKind.wrap .i64 t40.1)] ++ ([Value.int .i64 (IntKind.wrap .i64 t26.1)] ++ ([Value.int .u32 (IntKind.wrap .u32 t54.1)] ++ en (Value.int .u8) (vrep 32 (0 : Int)).1)))))))) (sub_put (by exact rfl) (sub_put (by exact rfl) (sub_nil _))) ?_
    refine cs_loop (fun kk f S => ∃ (fR : Fr) (x17_2 : Int) (m5_2 : (Int × Int × Int × Int × (Vc Int 32))), f = upd (upd (upd (upd fR 0 (.slice A0 l0.length c0)) 2 (.pointer (some ⟨g1, 0, none⟩))) 16 (.pointer (some ⟨g57, 0, none⟩))) 17 (.int .i64 x17_2) ∧ S = sput (sput s0 0 (some (Ck.var 25 g1 (([Value.int .i64 (0 : Int)] ++ ([Value.int .i64 (0 : Int)] ++ ([Value.int .i64 (0 : Int)] ++ ([Value.int .u32 (0 : Int)] ++ en (Value.int .u8) (vrep 32 (0 : Int)).1)))))))) 5 (some (Ck.var 25 g57 (([Value.int .i64 m5_2.1] ++ ([Value.int .i64 m5_2.2.1] ++ ([Value.int .i64 m5_2.2.2.1] ++ ([Value.int .u32 m5_2.2.2.2.1] ++ en (Value.int .u8) m5_2.2.2.2.2.1))))))) ∧ shadowboxref06_Read.lo2 l0 kk x17_2 m5_2 = some r) k ?_ ?_ ?_
    · exact ⟨_, (0 : Int), (IntKind.wrap .i64 t12.1, IntKind.wrap .i64 t40.1, IntKind.wrap .i64 t26.1, IntKind.wrap .u32 t54.1, (vrep 32 (0 : Int))), fr_next (fr_next (fr_next (fr_next (rfl) (by kernel_rfl)) (by kernel_rfl)) (by kernel_rfl)) (by kernel_rfl), rfl, H⟩
    · rintro f S ⟨fr2, x17_2, m5_2, rfl, rfl, H⟩; cases H
    · rintro k2 f S ⟨fr2, x17_2, m5_2, rfl, rfl, H⟩
      replace H : ((if x17_2 < (32 : Int) then (if 0 ≤ IntKind.wrap .i64 ((20 : Int) + x17_2) then (if IntKind.wrap .i64 ((20 : Int) + x17_2) < (l0.length : Int) then lt (((l0).getD (IntKind.wrap .i64 ((20 : Int) + x17_2)).toNat (0 : Int))) fun y63 => (if 0 ≤ x17_2 then lt (vset m5_2.2.2.2.2 (x17_2).toNat y63) fun y66 => (shadowboxref06_Read.lo2 l0 k2) (IntKind.wrap .i64 (x17_2 + (1 : Int))) (m5_2.1, m5_2.2.1, m5_2.2.2.1, m5_2.2.2.2.1, y66) else none) else none) else none) else (shadowboxref06_None.f k2 m5_2).bind fun t68 => (if t68 = true then some (m5_2, (0 : Int)) else (shadowboxref06_Right.f k2 m5_2).bind fun t72 => (if t72 = true then some (m5_2, (0 : Int)) else some (((0 : Int), (0 : Int), (0 : Int), (0 : Int), (vrep 32 (0 : Int))), (11 : Int)))))) = some r := H
      refine cs_seq ?_
      refine cs_seq ?_
      refine cs_region (l := [_, _]) ?_
      refine ls_val (v := .int .i64 x17_2) rfl rfl (by kernel_rfl) (fun w => by kernel_rfl) ?_
      refine ls_val (v := .bool (decide (x17_2 < (32 : Int)))) rfl rfl (by kernel_rfl) (fun w => by kernel_rfl) ?_
      refine ls_end ?_
      refine qn_then ?_
      by_cases q58 : x17_2 < (32 : Int)
      · replace H := ite_t q58 H
        refine cs_know (c := true) (dec_t q58) 60 (by kernel_rfl) ?_
        refine cs_true (by kernel_rfl) ?_
        refine cs_skip' ?_
        refine qn_then ?_
        refine cs_seq ?_
        refine cs_block ?_
        refine cs_region (l := [_, _, _, _, _, _, _, _, _]) ?_
        refine ls_val (v := .int .i64 x17_2) rfl rfl (by kernel_rfl) (fun w => by kernel_rfl) ?_
        refine ls_val (v := .slice A0 l0.length c0) rfl rfl (by kernel_rfl) (fun w => by kernel_rfl) ?_
        refine ls_val (v := .int .i64 x17_2) rfl rfl (by kernel_rfl) (fun w => by kernel_rfl) ?_
        refine ls_val (v := .int .i64 (IntKind.wrap .i64 ((20 : Int) + x17_2))) rfl rfl (by kernel_rfl) (fun w => by kernel_rfl) ?_
        obtain ⟨q59, H⟩ := ite_need H
        obtain ⟨q60, H⟩ := ite_need H
        obtain ⟨ad61, hA62⟩ := ido_at (T := (Ec.int 5 .u8)) (l := l0) (i := IntKind.wrap .i64 ((20 : Int) + x17_2)) R0 q59 q60
        refine ls_idxv (Ec.int 5 .u8) (A := A0) (c := c0) (l := l0) (k := .i64) (i := IntKind.wrap .i64 ((20 : Int) + x17_2)) (z := 1) (ad := ad61) rfl rfl (by kernel_rfl) hA62 rfl (by kernel_rfl) (by kernel_rfl) (by kernel_rfl) (by kernel_rfl) q59 q60 ?_
        obtain ⟨y63, hy64, H⟩ := lt_some H
        refine ls_load (a0 := (ad61.add ((IntKind.wrap .i64 ((20 : Int) + x17_2)).toNat * 1))) (v := .int .u8 ((l0).getD (IntKind.wrap .i64 ((20 : Int) + x17_2)).toNat (0 : Int))) (de := (TypeDesc.int .u8)) rfl rfl (by kernel_rfl) rfl (by kernel_rfl) (by kernel_rfl) (by kernel_rfl) (fun w hs => (hs.old R0).at hA62 (em_sub (Ec.int 5 .u8) l0 (i := (IntKind.wrap .i64 ((20 : Int) + x17_2)).toNat) (by have h0 : (0 : Int) ≤ IntKind.wrap .i64 ((20 : Int) + x17_2) := q59; have h1 : IntKind.wrap .i64 ((20 : Int) + x17_2) < (l0.length : Int) := q60; omega))) ?_
        refine ls_ren 68 (v := .int .u8 ((l0).getD (IntKind.wrap .i64 ((20 : Int) + x17_2)).toNat (0 : Int))) (v' := .int .u8 y63) (by kernel_rfl) (by rw [hy64]) ?_
        refine ls_val (v := .pointer (some ⟨g57, (0 + 4), none⟩)) rfl rfl (by kernel_rfl) (fun w => by kernel_rfl) ?_
        obtain ⟨q65, H⟩ := ite_need H
        refine ls_idxa1 (g := g57) (off := (0 + 4)) (i := x17_2) (kk := .i64) (ln := 32) (e := 5) rfl rfl (by kernel_rfl) rfl (by kernel_rfl) (by kernel_rfl) (by kernel_rfl) (by kernel_rfl) q65 q58 ?_
        obtain ⟨y66, hy67, H⟩ := lt_some H
        refine ls_storec (g := g57) (off := ((0 + 4) + (x17_2).toNat)) (v := .int .u8 y63) (vs := [Value.int .u8 y63]) (cs := ([Value.int .i64 m5_2.1] ++ ([Value.int .i64 m5_2.2.1] ++ ([Value.int .i64 m5_2.2.2.1] ++ ([Value.int .u32 m5_2.2.2.2.1] ++ en (Value.int .u8) m5_2.2.2.2.2.1))))) (ty := 25) 5 rfl rfl rfl (by kernel_rfl) (by kernel_rfl) (by kernel_rfl) (by exact rfl) (by kernel_rfl) (len1 _) (one_cons rfl one_nil) (hl_of (Sub4.trans (Sub4.trans (Sub4.all _) (Sub4.skip (n := 1) (len1 _) (Sub4.skip (n := 1) (len1 _) (Sub4.skip (n := 1) (len1 _) (Sub4.skip (n := 1) (len1 _) (Sub4.all _)))))) (Sub4.one (Value.int .u8) m5_2.2.2.2.2.1 0 (by have := m5_2.2.2.2.2.2; omega))) (len_eq (len1 _) (len1 _))) (cs' := ([Value.int .i64 m5_2.1] ++ ([Value.int .i64 m5_2.2.1] ++ ([Value.int .i64 m5_2.2.2.1] ++ ([Value.int .u32 m5_2.2.2.2.1] ++ en (Value.int .u8) y66.1))))) (splc_in (Sub4.trans (Sub4.all _) (Sub4.skip (n := 1) (len1 _) (Sub4.skip (n := 1) (len1 _) (Sub4.skip (n := 1) (len1 _) (Sub4.skip (n := 1) (len1 _) (Sub4.all _)))))) ((splc_one (Value.int .u8) m5_2.2.2.2.2.1 y63 (by have := m5_2.2.2.2.2.2; omega)).trans (congrArg (fun z : (Vc Int 32) => en (Value.int .u8) z.1) hy67)) (splc_in (Sub4.all _) (splc_skip (n := 1) (len1 _) (splc_skip (n := 1) (len1 _) (splc_skip (n := 1) (len1 _) (splc_skip (n := 1) (len1 _) (splc_all (len_eq (len_en _ y66) (len_en _ m5_2.2.2.2.2))))))) (splc_all (len_eq (len_app (len1 _) (len_app (len1 _) (len_app (len1 _) (len_app (len1 _) (len_en _ y66))))) (len_app (len1 _) (len_app (len1 _) (len_app (len1 _) (len_app (len1 _) (len_en _ m5_2.2.2.2.2))))))) (hl_of (Sub4.skip (n := 1) (len1 _) (Sub4.skip (n := 1) (len1 _) (Sub4.skip (n := 1) (len1 _) (Sub4.skip (n := 1) (len1 _) (Sub4.all _))))) (len_eq (len_en _ y66) (len_en _ m5_2.2.2.2.2)))) (hl_of (Sub4.one (Value.int .u8) m5_2.2.2.2.2.1 0 (by have := m5_2.2.2.2.2.2; omega)) (len_eq (len1 _) (len1 _)))) ?_
        refine ls_end ?_
        refine qn_block ?_
        refine qn_then ?_
        refine cs_region (l := [_, _, _]) ?_
        refine ls_val (v := .int .i64 x17_2) rfl rfl (by kernel_rfl) (fun w => by kernel_rfl) ?_
        refine ls_val (v := .int .i64 (IntKind.wrap .i64 (x17_2 + (1 : Int)))) rfl rfl (by kernel_rfl) (fun w => by kernel_rfl) ?_
        refine ls_val (v := .int .i64 (IntKind.wrap .i64 (x17_2 + (1 : Int)))) rfl rfl (by kernel_rfl) (fun w => by kernel_rfl) ?_
        refine ls_end ?_
        refine qn_again k2 (sput (sput s0 0 (some (Ck.var 25 g1 (([Value.int .i64 (0 : Int)] ++ ([Value.int .i64 (0 : Int)] ++ ([Value.int .i64 (0 : Int)] ++ ([Value.int .u32 (0 : Int)] ++ en (Value.int .u8) (vrep 32 (0 : Int)).1)))))))) 5 (some (Ck.var 25 g57 (([Value.int .i64 m5_2.1] ++ ([Value.int .i64 m5_2.2.1] ++ ([Value.int .i64 m5_2.2.2.1] ++ ([Value.int .u32 m5_2.2.2.2.1] ++ en (Value.int .u8) y66.1)))))))) (Nat.le_refl _) ⟨_, (IntKind.wrap .i64 (x17_2 + (1 : Int))), (m5_2.1, m5_2.2.1, m5_2.2.2.1, m5_2.2.2.2.1, y66), fr_next (fr_next (fr_next (fr_next (rfl) (by kernel_rfl)) (by kernel_rfl)) (by kernel_rfl)) (by kernel_rfl), rfl, H⟩ (sub_put (by exact rfl) (sub_put (by exact rfl) (sub_nil _)))
      · replace H := ite_f q58 H
        refine cs_know (c := false) (dec_f q58) 60 (by kernel_rfl) ?_
        refine cs_false (by kernel_rfl) ?_
        refine cs_exit' ?_
        refine qx_then ?_
        refine qx_then ?_
        refine qx_same ?_
        refine qn_then ?_
        refine cs_seq ?_
        refine cs_seq ?_
        refine cs_region (l := [_, _, _, _, _, _, _, _]) ?_
        refine ls_loadagg (a := ⟨g57, 0, none⟩) (sub := ([Value.int .i64 m5_2.1] ++ ([Value.int .i64 m5_2.2.1] ++ ([Value.int .i64 m5_2.2.2.1] ++ ([Value.int .u32 m5_2.2.2.2.1] ++ en (Value.int .u8) m5_2.2.2.2.2.1))))) rfl rfl (by kernel_rfl) rfl (by kernel_rfl) (by kernel_rfl) (by kernel_rfl) (len_app (len1 _) (len_app (len1 _) (len_app (len1 _) (len_app (len1 _) (len_en _ m5_2.2.2.2.2))))) (fun w hs => (hs.vars (k := 5) (by exact rfl) (Sub4.all _))) ?_
        obtain ⟨t68, hc69, H⟩ := bind_some H
        refine ls_callb (fid := 13) (vals := #[.agg ⟨([Value.int .i64 m5_2.1] ++ ([Value.int .i64 m5_2.2.1] ++ ([Value.int .i64 m5_2.2.2.1] ++ ([Value.int .u32 m5_2.2.2.2.1] ++ en (Value.int .u8) m5_2.2.2.2.2.1))))⟩]) (X := Unit) (fun x => .bool t68) (fun x => stl []) [] [] [] [] 6 rfl rfl (by kernel_rfl) (fun w => by kernel_rfl) trivial trivial (by decide) (fun w hs hb => shadowboxref06_None.calls k2 m5_2 t68 (lent b w [] []) hb  hc69) ?_
        intro x70
        refine ls_val (v := .bool (!t68)) rfl rfl (by kernel_rfl) (fun w => by kernel_rfl) ?_
        refine ls_val (v := .bool (!t68)) rfl rfl (by kernel_rfl) (fun w => by kernel_rfl) ?_
        by_cases q71 : t68 = true
        · replace H := ite_t q71 H
          refine ls_know (c := false) (congrArg Bool.not (q71)) 74 (by kernel_rfl) ?_
          refine ls_off (j := 3) (t := 74) (b := true) (c := false) rfl rfl (by kernel_rfl) (by kernel_rfl) rfl rfl (by kernel_rfl) ?_
          refine ls_off (j := 3) (t := 74) (b := true) (c := false) rfl rfl (by kernel_rfl) (by kernel_rfl) rfl rfl (by kernel_rfl) ?_
          refine ls_off (j := 3) (t := 74) (b := true) (c := false) rfl rfl (by kernel_rfl) (by kernel_rfl) rfl rfl (by kernel_rfl) ?_
          refine ls_val (v := .bool false) rfl rfl (by kernel_rfl) (fun w => by kernel_rfl) ?_
          refine ls_end ?_
          refine qn_then ?_
          refine cs_false (by kernel_rfl) ?_
          refine cs_skip' ?_
          refine qn_then ?_
          refine cs_seq ?_
          refine cs_region (l := [_, _, _]) ?_
          refine ls_loadagg (a := ⟨g57, 0, none⟩) (sub := ([Value.int .i64 m5_2.1] ++ ([Value.int .i64 m5_2.2.1] ++ ([Value.int .i64 m5_2.2.2.1] ++ ([Value.int .u32 m5_2.2.2.2.1] ++ en (Value.int .u8) m5_2.2.2.2.2.1))))) rfl rfl (by kernel_rfl) rfl (by kernel_rfl) (by kernel_rfl) (by kernel_rfl) (len_app (len1 _) (len_app (len1 _) (len_app (len1 _) (len_app (len1 _) (len_en _ m5_2.2.2.2.2))))) (fun w hs => (hs.vars (k := 5) (by exact rfl) (Sub4.all _))) ?_
          refine ls_storec (g := g1) (off := 0) (v := .agg ⟨([Value.int .i64 m5_2.1] ++ ([Value.int .i64 m5_2.2.1] ++ ([Value.int .i64 m5_2.2.2.1] ++ ([Value.int .u32 m5_2.2.2.2.1] ++ en (Value.int .u8) m5_2.2.2.2.2.1))))⟩) (vs := ([Value.int .i64 m5_2.1] ++ ([Value.int .i64 m5_2.2.1] ++ ([Value.int .i64 m5_2.2.2.1] ++ ([Value.int .u32 m5_2.2.2.2.1] ++ en (Value.int .u8) m5_2.2.2.2.2.1))))) (cs := ([Value.int .i64 (0 : Int)] ++ ([Value.int .i64 (0 : Int)] ++ ([Value.int .i64 (0 : Int)] ++ ([Value.int .u32 (0 : Int)] ++ en (Value.int .u8) (vrep 32 (0 : Int)).1))))) (ty := 25) 0 rfl rfl rfl (by kernel_rfl) (by kernel_rfl) (by kernel_rfl) (by exact rfl) (by kernel_rfl) (len_app (len1 _) (len_app (len1 _) (len_app (len1 _) (len_app (len1 _) (len_en _ m5_2.2.2.2.2))))) (one_app (one_cons rfl one_nil) (one_app (one_cons rfl one_nil) (one_app (one_cons rfl one_nil) (one_app (one_cons rfl one_nil) (one_en (fun _ => rfl) _))))) (hl_of (Sub4.all _) (len_eq (len_app (len1 _) (len_app (len1 _) (len_app (len1 _) (len_app (len1 _) (len_en _ m5_2.2.2.2.2))))) (len_app (len1 _) (len_app (len1 _) (len_app (len1 _) (len_app (len1 _) (len_en _ (vrep 32 (0 : Int))))))))) (cs' := ([Value.int .i64 m5_2.1] ++ ([Value.int .i64 m5_2.2.1] ++ ([Value.int .i64 m5_2.2.2.1] ++ ([Value.int .u32 m5_2.2.2.2.1] ++ en (Value.int .u8) m5_2.2.2.2.2.1))))) (splc_all (len_eq (len_app (len1 _) (len_app (len1 _) (len_app (len1 _) (len_app (len1 _) (len_en _ m5_2.2.2.2.2))))) (len_app (len1 _) (len_app (len1 _) (len_app (len1 _) (len_app (len1 _) (len_en _ (vrep 32 (0 : Int))))))))) ?_
          refine ls_val (v := .int .i64 (0 : Int)) rfl rfl (by kernel_rfl) (fun w => by kernel_rfl) ?_
          refine ls_end ?_
          refine qn_then ?_
          refine cs_ret' ?_
          obtain rfl := Option.some.inj H
          refine qr_res (rs := [_, _]) rfl (fun w' hs => ⟨[.agg ⟨([Value.int .i64 m5_2.1] ++ ([Value.int .i64 m5_2.2.1] ++ ([Value.int .i64 m5_2.2.2.1] ++ ([Value.int .u32 m5_2.2.2.2.1] ++ en (Value.int .u8) m5_2.2.2.2.2.1))))⟩, .int .i64 (0 : Int)], (.cell (by kernel_rfl) (run_cellres (by kernel_rfl) (by kernel_rfl) (len_app (len1 _) (len_app (len1 _) (len_app (len1 _) (len_app (len1 _) (len_en _ m5_2.2.2.2.2))))) (hs.holds 0 _ (by exact rfl))) (res_tmp (by kernel_rfl) (.nil))), (), rfl, hs.pick (ts := []) (cs := []) trivial (by decide)⟩)
        · replace H := ite_f q71 H
          refine ls_know (c := true) (congrArg Bool.not (Bool.eq_false_iff.mpr q71)) 74 (by kernel_rfl) ?_
          refine ls_on (j := 3) (t := 74) (b := true) rfl rfl (by kernel_rfl) (by kernel_rfl) ?_
          refine ls_loadagg (a := ⟨g57, 0, none⟩) (sub := ([Value.int .i64 m5_2.1] ++ ([Value.int .i64 m5_2.2.1] ++ ([Value.int .i64 m5_2.2.2.1] ++ ([Value.int .u32 m5_2.2.2.2.1] ++ en (Value.int .u8) m5_2.2.2.2.2.1))))) rfl rfl (by kernel_rfl) rfl (by kernel_rfl) (by kernel_rfl) (by kernel_rfl) (len_app (len1 _) (len_app (len1 _) (len_app (len1 _) (len_app (len1 _) (len_en _ m5_2.2.2.2.2))))) (fun w hs => (hs.vars (k := 5) (by exact rfl) (Sub4.all _))) ?_
          refine ls_on (j := 3) (t := 74) (b := true) rfl rfl (by kernel_rfl) (by kernel_rfl) ?_
          obtain ⟨t72, hc73, H⟩ := bind_some H
          refine ls_callb (fid := 15) (vals := #[.agg ⟨([Value.int .i64 m5_2.1] ++ ([Value.int .i64 m5_2.2.1] ++ ([Value.int .i64 m5_2.2.2.1] ++ ([Value.int .u32 m5_2.2.2.2.1] ++ en (Value.int .u8) m5_2.2.2.2.2.1))))⟩]) (X := Unit) (fun x => .bool t72) (fun x => stl []) [] [] [] [] 6 rfl rfl (by kernel_rfl) (fun w => by kernel_rfl) trivial trivial (by decide) (fun w hs hb => shadowboxref06_Right.calls k2 m5_2 t72 (lent b w [] []) hb  hc73) ?_
          intro x74
          refine ls_on (j := 3) (t := 74) (b := true) rfl rfl (by kernel_rfl) (by kernel_rfl) ?_
          refine ls_val (v := .bool (!t72)) rfl rfl (by kernel_rfl) (fun w => by kernel_rfl) ?_
          refine ls_val (v := .bool (!t72)) rfl rfl (by kernel_rfl) (fun w => by kernel_rfl) ?_
          refine ls_end ?_
          refine qn_then ?_
          by_cases q75 : t72 = true
          · replace H := ite_t q75 H
            refine cs_know (c := false) (congrArg Bool.not (q75)) 78 (by kernel_rfl) ?_
            refine cs_false (by kernel_rfl) ?_
            refine cs_skip' ?_
            refine qn_then ?_
            refine cs_seq ?_
            refine cs_region (l := [_, _, _]) ?_
            refine ls_loadagg (a := ⟨g57, 0, none⟩) (sub := ([Value.int .i64 m5_2.1] ++ ([Value.int .i64 m5_2.2.1] ++ ([Value.int .i64 m5_2.2.2.1] ++ ([Value.int .u32 m5_2.2.2.2.1] ++ en (Value.int .u8) m5_2.2.2.2.2.1))))) rfl rfl (by kernel_rfl) rfl (by kernel_rfl) (by kernel_rfl) (by kernel_rfl) (len_app (len1 _) (len_app (len1 _) (len_app (len1 _) (len_app (len1 _) (len_en _ m5_2.2.2.2.2))))) (fun w hs => (hs.vars (k := 5) (by exact rfl) (Sub4.all _))) ?_
            refine ls_storec (g := g1) (off := 0) (v := .agg ⟨([Value.int .i64 m5_2.1] ++ ([Value.int .i64 m5_2.2.1] ++ ([Value.int .i64 m5_2.2.2.1] ++ ([Value.int .u32 m5_2.2.2.2.1] ++ en (Value.int .u8) m5_2.2.2.2.2.1))))⟩) (vs := ([Value.int .i64 m5_2.1] ++ ([Value.int .i64 m5_2.2.1] ++ ([Value.int .i64 m5_2.2.2.1] ++ ([Value.int .u32 m5_2.2.2.2.1] ++ en (Value.int .u8) m5_2.2.2.2.2.1))))) (cs := ([Value.int .i64 (0 : Int)] ++ ([Value.int .i64 (0 : Int)] ++ ([Value.int .i64 (0 : Int)] ++ ([Value.int .u32 (0 : Int)] ++ en (Value.int .u8) (vrep 32 (0 : Int)).1))))) (ty := 25) 0 rfl rfl rfl (by kernel_rfl) (by kernel_rfl) (by kernel_rfl) (by exact rfl) (by kernel_rfl) (len_app (len1 _) (len_app (len1 _) (len_app (len1 _) (len_app (len1 _) (len_en _ m5_2.2.2.2.2))))) (one_app (one_cons rfl one_nil) (one_app (one_cons rfl one_nil) (one_app (one_cons rfl one_nil) (one_app (one_cons rfl one_nil) (one_en (fun _ => rfl) _))))) (hl_of (Sub4.all _) (len_eq (len_app (len1 _) (len_app (len1 _) (len_app (len1 _) (len_app (len1 _) (len_en _ m5_2.2.2.2.2))))) (len_app (len1 _) (len_app (len1 _) (len_app (len1 _) (len_app (len1 _) (len_en _ (vrep 32 (0 : Int))))))))) (cs' := ([Value.int .i64 m5_2.1] ++ ([Value.int .i64 m5_2.2.1] ++ ([Value.int .i64 m5_2.2.2.1] ++ ([Value.int .u32 m5_2.2.2.2.1] ++ en (Value.int .u8) m5_2.2.2.2.2.1))))) (splc_all (len_eq (len_app (len1 _) (len_app (len1 _) (len_app (len1 _) (len_app (len1 _) (len_en _ m5_2.2.2.2.2))))) (len_app (len1 _) (len_app (len1 _) (len_app (len1 _) (len_app (len1 _) (len_en _ (vrep 32 (0 : Int))))))))) ?_
            refine ls_val (v := .int .i64 (0 : Int)) rfl rfl (by kernel_rfl) (fun w => by kernel_rfl) ?_
            refine ls_end ?_
            refine qn_then ?_
            refine cs_ret' ?_
            obtain rfl := Option.some.inj H
            refine qr_res (rs := [_, _]) rfl (fun w' hs => ⟨[.agg ⟨([Value.int .i64 m5_2.1] ++ ([Value.int .i64 m5_2.2.1] ++ ([Value.int .i64 m5_2.2.2.1] ++ ([Value.int .u32 m5_2.2.2.2.1] ++ en (Value.int .u8) m5_2.2.2.2.2.1))))⟩, .int .i64 (0 : Int)], (.cell (by kernel_rfl) (run_cellres (by kernel_rfl) (by kernel_rfl) (len_app (len1 _) (len_app (len1 _) (len_app (len1 _) (len_app (len1 _) (len_en _ m5_2.2.2.2.2))))) (hs.holds 0 _ (by exact rfl))) (res_tmp (by kernel_rfl) (.nil))), (), rfl, hs.pick (ts := []) (cs := []) trivial (by decide)⟩)
          · replace H := ite_f q75 H
            refine cs_know (c := true) (congrArg Bool.not (Bool.eq_false_iff.mpr q75)) 78 (by kernel_rfl) ?_
            refine cs_true (by kernel_rfl) ?_
            refine cs_seq ?_
            refine cs_region (l := [_, _, _]) ?_
            refine ls_build (ps := []) (pl := #[(0, 1), (1, 1), (2, 1), (3, 1), (4, 32)]) (zv := .agg ⟨([Value.int .i64 (0 : Int)] ++ ([Value.int .i64 (0 : Int)] ++ ([Value.int .i64 (0 : Int)] ++ ([Value.int .u32 (0 : Int)] ++ en (Value.int .u8) (vrep 32 (0 : Int)).1))))⟩) (zc := ([Value.int .i64 (0 : Int)] ++ ([Value.int .i64 (0 : Int)] ++ ([Value.int .i64 (0 : Int)] ++ ([Value.int .u32 (0 : Int)] ++ en (Value.int .u8) (vrep 32 (0 : Int)).1))))) (r := ([Value.int .i64 (0 : Int)] ++ ([Value.int .i64 (0 : Int)] ++ ([Value.int .i64 (0 : Int)] ++ ([Value.int .u32 (0 : Int)] ++ en (Value.int .u8) (vrep 32 (0 : Int)).1))))) rfl rfl (by kernel_rfl) rfl (by kernel_rfl) (by kernel_rfl) (fun w => by kernel_rfl) (fun w => by kernel_rfl) rfl fill_nil ?_
            refine ls_storec (g := g1) (off := 0) (v := .agg ⟨([Value.int .i64 (0 : Int)] ++ ([Value.int .i64 (0 : Int)] ++ ([Value.int .i64 (0 : Int)] ++ ([Value.int .u32 (0 : Int)] ++ en (Value.int .u8) (vrep 32 (0 : Int)).1))))⟩) (vs := ([Value.int .i64 (0 : Int)] ++ ([Value.int .i64 (0 : Int)] ++ ([Value.int .i64 (0 : Int)] ++ ([Value.int .u32 (0 : Int)] ++ en (Value.int .u8) (vrep 32 (0 : Int)).1))))) (cs := ([Value.int .i64 (0 : Int)] ++ ([Value.int .i64 (0 : Int)] ++ ([Value.int .i64 (0 : Int)] ++ ([Value.int .u32 (0 : Int)] ++ en (Value.int .u8) (vrep 32 (0 : Int)).1))))) (ty := 25) 0 rfl rfl rfl (by kernel_rfl) (by kernel_rfl) (by kernel_rfl) (by exact rfl) (by kernel_rfl) (len_app (len1 _) (len_app (len1 _) (len_app (len1 _) (len_app (len1 _) (len_en _ (vrep 32 (0 : Int))))))) (one_app (one_cons rfl one_nil) (one_app (one_cons rfl one_nil) (one_app (one_cons rfl one_nil) (one_app (one_cons rfl one_nil) (one_en (fun _ => rfl) _))))) (hl_of (Sub4.all _) (len_eq (len_app (len1 _) (len_app (len1 _) (len_app (len1 _) (len_app (len1 _) (len_en _ (vrep 32 (0 : Int))))))) (len_app (len1 _) (len_app (len1 _) (len_app (len1 _) (len_app (len1 _) (len_en _ (vrep 32 (0 : Int))))))))) (cs' := ([Value.int .i64 (0 : Int)] ++ ([Value.int .i64 (0 : Int)] ++ ([Value.int .i64 (0 : Int)] ++ ([Value.int .u32 (0 : Int)] ++ en (Value.int .u8) (vrep 32 (0 : Int)).1))))) (splc_all (len_eq (len_app (len1 _) (len_app (len1 _) (len_app (len1 _) (len_app (len1 _) (len_en _ (vrep 32 (0 : Int))))))) (len_app (len1 _) (len_app (len1 _) (len_app (len1 _) (len_app (len1 _) (len_en _ (vrep 32 (0 : Int))))))))) ?_
            refine ls_val (v := .int .i64 (11 : Int)) rfl rfl (by kernel_rfl) (fun w => by kernel_rfl) ?_
            refine ls_end ?_
            refine qn_then ?_
            refine cs_ret' ?_
            refine qr_then ?_
            obtain rfl := Option.some.inj H
            refine qr_res (rs := [_, _]) rfl (fun w' hs => ⟨[.agg ⟨([Value.int .i64 (0 : Int)] ++ ([Value.int .i64 (0 : Int)] ++ ([Value.int .i64 (0 : Int)] ++ ([Value.int .u32 (0 : Int)] ++ en (Value.int .u8) (vrep 32 (0 : Int)).1))))⟩, .int .i64 (11 : Int)], (.cell (by kernel_rfl) (run_cellres (by kernel_rfl) (by kernel_rfl) (len_app (len1 _) (len_app (len1 _) (len_app (len1 _) (len_app (len1 _) (len_en _ (vrep 32 (0 : Int))))))) (hs.holds 0 _ (by exact rfl))) (res_tmp (by kernel_rfl) (.nil))), (), rfl, hs.pick (ts := []) (cs := []) trivial (by decide)⟩)

/-! ### shadowbox/shadowboxref01.Fixed: function 35 -/
def shadowboxref01_Fixed.lo1 (a1 : Int) : Nat → Int → (List Int) → Int → Option ((List Int))
  | 0, _, _, _ => none
  | k1 + 1, x2_1, l7_1, x8_1 => (if x8_1 < a1 then (if a1 ≤ (8 : Int) then lt (IntKind.wrap .u8 (Int.tmod x2_1 (256 : Int))) fun y7 => (if (l7_1.length + ([y7]).length) * 1 ≤ 140737488355328 then lt (IntKind.wrap .u64 (Int.tdiv x2_1 (256 : Int))) fun y13 => (shadowboxref01_Fixed.lo1 a1 k1) y13 (l7_1 ++ [y7]) (IntKind.wrap .i64 (x8_1 + (1 : Int))) else none) else some l7_1) else some l7_1)
def shadowboxref01_Fixed.f (k : Nat) (l0 : List Int) (a1 : Int) (a2 : Int) : Option ((List Int)) :=
  (if (([] : List Int).length + l0.length) * 1 ≤ 140737488355328 then shadowboxref01_Fixed.lo1 a1 k a2 (([] : List Int) ++ l0) (0 : Int) else none)
set_option maxRecDepth 100000 in
set_option maxHeartbeats 4000000 in
theorem shadowboxref01_Fixed.calls (k : Nat) (A0 : Option Addr) (c0 : Nat) (l0 : List Int) (a1 : Int) (a2 : Int) (r : (List Int)) (b : Bs) (hs0 : St b (stl []) b.w) (R0 : Ro b A0 (em (Ec.int 5 .u8) l0)) (C0 : l0.length ≤ c0) (H : shadowboxref01_Fixed.f k l0 a1 a2 = some r) :
    Calls Try.prog 35 #[.slice A0 l0.length c0, .int .i64 a1, .int .u64 a2] b.w fun e w' => ∃ x : (Option Addr × Nat), e = .returned (.slice x.1 r.length x.2) ∧ St b (stl [Ck.sl (Ec.int 5 .u8) x.1 x.2 r]) w' := by
  unfold shadowboxref01_Fixed.f at H
  refine enterb (n := 30) Try.func35 rfl (by kernel_rfl) (by kernel_rfl) hs0 ?_
  refine cs_sub (s0) (sub_nil _) ?_
  refine cs_seq ?_
  refine cs_region (l := [_]) ?_
  refine ls_val (v := .slice none 0 0) rfl rfl (by kernel_rfl) (fun w => by kernel_rfl) ?_
  refine ls_end ?_
  refine qn_then ?_
  refine cs_seq ?_
  refine cs_region (l := [_, _, _, _]) ?_
  refine ls_lit (Ec.int 5 .u8) 0 rfl rfl (by kernel_rfl) ([] : List Int) (by exact of_decide_eq_true (by kernel_rfl)) (fun w => by kernel_rfl) ?_
  intro g1
  refine ls_val (v := .slice A0 l0.length c0) rfl rfl (by kernel_rfl) (fun w => by kernel_rfl) ?_
  obtain ⟨q2, H⟩ := ite_need H
  refine ls_app (Ec.int 5 .u8) (A := (some ⟨g1, 0, none⟩)) (c := ([] : List Int).length) (B := A0) (cb := c0) (z := (Value.int .u8 0)) (l := ([] : List Int)) (m := l0) (bytes := 1) 0 rfl rfl (by kernel_rfl) rfl (by kernel_rfl) (by exact rfl) (by kernel_rfl) (fun w hs => (hs.old R0)) (by kernel_rfl) (by kernel_rfl) rfl (by decide) q2 ?_
  intro xA3 xc4
  refine ls_val (v := .slice xA3 (([] : List Int) ++ l0).length xc4) rfl rfl (by kernel_rfl) (fun w => by kernel_rfl) ?_
  refine ls_end ?_
  refine qn_then ?_
  refine cs_seq ?_
  refine cs_seq ?_
  refine cs_region (l := [_]) ?_
  refine ls_val (v := .int .i64 (0 : Int)) rfl rfl (by kernel_rfl) (fun w => by kernel_rfl) ?_
  refine ls_end ?_
  refine qn_then ?_
  refine cs_block ?_
  refine cs_sub (sput s0 0 (some (Ck.sl (Ec.int 5 .u8) xA3 xc4 (([] : List Int) ++ l0)))) (sub_put (by exact rfl) (sub_nil _)) ?_
  refine cs_loop (fun kk f S => ∃ (fR : Fr) (x2_1 : Int) (A7_1 : Option Addr) (c7_1 : Nat) (l7_1 : List Int) (x8_1 : Int), f = upd (upd (upd (upd fR 1 (.int .i64 a1)) 2 (.int .u64 x2_1)) 7 (.slice A7_1 l7_1.length c7_1)) 8 (.int .i64 x8_1) ∧ S = sput s0 0 (some (Ck.sl (Ec.int 5 .u8) A7_1 c7_1 l7_1)) ∧ shadowboxref01_Fixed.lo1 a1 kk x2_1 l7_1 x8_1 = some r) k ?_ ?_ ?_
  · exact ⟨_, a2, xA3, xc4, (([] : List Int) ++ l0), (0 : Int), fr_next (fr_next (fr_next (fr_next (rfl) (by kernel_rfl)) (by kernel_rfl)) (by kernel_rfl)) (by kernel_rfl), rfl, H⟩
  · rintro f S ⟨fr1, x2_1, A7_1, c7_1, l7_1, x8_1, rfl, rfl, H⟩; cases H
  · rintro k1 f S ⟨fr1, x2_1, A7_1, c7_1, l7_1, x8_1, rfl, rfl, H⟩
    replace H : ((if x8_1 < a1 then (if a1 ≤ (8 : Int) then lt (IntKind.wrap .u8 (Int.tmod x2_1 (256 : Int))) fun y7 => (if (l7_1.length + ([y7]).length) * 1 ≤ 140737488355328 then lt (IntKind.wrap .u64 (Int.tdiv x2_1 (256 : Int))) fun y13 => (shadowboxref01_Fixed.lo1 a1 k1) y13 (l7_1 ++ [y7]) (IntKind.wrap .i64 (x8_1 + (1 : Int))) else none) else some l7_1) else some l7_1)) = some r := H
    refine cs_seq ?_
    refine cs_seq ?_
    refine cs_region (l := [_, _, _, _, _, _, _]) ?_
    refine ls_val (v := .int .i64 x8_1) rfl rfl (by kernel_rfl) (fun w => by kernel_rfl) ?_
    refine ls_val (v := .int .i64 a1) rfl rfl (by kernel_rfl) (fun w => by kernel_rfl) ?_
    refine ls_val (v := .bool (decide (x8_1 < a1))) rfl rfl (by kernel_rfl) (fun w => by kernel_rfl) ?_
    refine ls_val (v := .bool (decide (x8_1 < a1))) rfl rfl (by kernel_rfl) (fun w => by kernel_rfl) ?_
    by_cases q5 : x8_1 < a1
    · replace H := ite_t q5 H
      refine ls_know (c := true) (dec_t q5) 15 (by kernel_rfl) ?_
      refine ls_on (j := 3) (t := 15) (b := true) rfl rfl (by kernel_rfl) (by kernel_rfl) ?_
      refine ls_val (v := .int .i64 a1) rfl rfl (by kernel_rfl) (fun w => by kernel_rfl) ?_
      refine ls_on (j := 3) (t := 15) (b := true) rfl rfl (by kernel_rfl) (by kernel_rfl) ?_
      refine ls_val (v := .bool (decide (a1 ≤ (8 : Int)))) rfl rfl (by kernel_rfl) (fun w => by kernel_rfl) ?_
      refine ls_val (v := .bool (decide (a1 ≤ (8 : Int)))) rfl rfl (by kernel_rfl) (fun w => by kernel_rfl) ?_
      refine ls_end ?_
      refine qn_then ?_
      by_cases q6 : a1 ≤ (8 : Int)
      · replace H := ite_t q6 H
        refine cs_know (c := true) (dec_t q6) 18 (by kernel_rfl) ?_
        refine cs_true (by kernel_rfl) ?_
        refine cs_skip' ?_
        refine qn_then ?_
        refine cs_seq ?_
        refine cs_block ?_
        refine cs_seq ?_
        refine cs_region (l := [_, _, _, _, _, _, _]) ?_
        refine ls_val (v := .slice A7_1 l7_1.length c7_1) rfl rfl (by kernel_rfl) (fun w => by kernel_rfl) ?_
        refine ls_val (v := .int .u64 x2_1) rfl rfl (by kernel_rfl) (fun w => by kernel_rfl) ?_
        refine ls_val (v := .int .u64 (Int.tmod x2_1 (256 : Int))) rfl rfl (by kernel_rfl) (fun w => by kernel_rfl) ?_
        obtain ⟨y7, hy8, H⟩ := lt_some H
        refine ls_val (v := .int .u8 (IntKind.wrap .u8 (Int.tmod x2_1 (256 : Int)))) rfl rfl (by kernel_rfl) (fun w => by kernel_rfl) ?_
        refine ls_ren 24 (v := .int .u8 (IntKind.wrap .u8 (Int.tmod x2_1 (256 : Int)))) (v' := .int .u8 y7) (by kernel_rfl) (by rw [hy8]) ?_
        refine ls_lit (Ec.int 5 .u8) 1 rfl rfl (by kernel_rfl) ([y7]) (by exact of_decide_eq_true (by kernel_rfl)) (fun w => by kernel_rfl) ?_
        intro g9
        obtain ⟨q10, H⟩ := ite_need H
        refine ls_app (Ec.int 5 .u8) (A := A7_1) (c := c7_1) (B := (some ⟨g9, 0, none⟩)) (cb := [y7].length) (z := (Value.int .u8 0)) (l := l7_1) (m := [y7]) (bytes := 1) 0 rfl rfl (by kernel_rfl) rfl (by kernel_rfl) (by exact rfl) (by kernel_rfl) (fun w hs => (hs.rd (k := 1) (by exact rfl))) (by kernel_rfl) (by kernel_rfl) rfl (by decide) q10 ?_
        intro xA11 xc12
        refine ls_val (v := .slice xA11 (l7_1 ++ [y7]).length xc12) rfl rfl (by kernel_rfl) (fun w => by kernel_rfl) ?_
        refine ls_end ?_
        refine qn_then ?_
        refine cs_region (l := [_, _, _]) ?_
        refine ls_val (v := .int .u64 x2_1) rfl rfl (by kernel_rfl) (fun w => by kernel_rfl) ?_
        obtain ⟨y13, hy14, H⟩ := lt_some H
        refine ls_val (v := .int .u64 (IntKind.wrap .u64 (Int.tdiv x2_1 (256 : Int)))) rfl rfl (by kernel_rfl) (fun w => by kernel_rfl) ?_
        refine ls_ren 28 (v := .int .u64 (IntKind.wrap .u64 (Int.tdiv x2_1 (256 : Int)))) (v' := .int .u64 y13) (by kernel_rfl) (by rw [hy14]) ?_
        refine ls_val (v := .int .u64 y13) rfl rfl (by kernel_rfl) (fun w => by kernel_rfl) ?_
        refine ls_end ?_
        refine qn_block ?_
        refine qn_then ?_
        refine cs_region (l := [_, _, _]) ?_
        refine ls_val (v := .int .i64 x8_1) rfl rfl (by kernel_rfl) (fun w => by kernel_rfl) ?_
        refine ls_val (v := .int .i64 (IntKind.wrap .i64 (x8_1 + (1 : Int)))) rfl rfl (by kernel_rfl) (fun w => by kernel_rfl) ?_
        refine ls_val (v := .int .i64 (IntKind.wrap .i64 (x8_1 + (1 : Int)))) rfl rfl (by kernel_rfl) (fun w => by kernel_rfl) ?_
        refine ls_end ?_
        refine qn_again k1 (sput s0 0 (some (Ck.sl (Ec.int 5 .u8) xA11 xc12 (l7_1 ++ [y7])))) (Nat.le_refl _) ⟨_, y13, xA11, xc12, (l7_1 ++ [y7]), (IntKind.wrap .i64 (x8_1 + (1 : Int))), fr_next (fr_next (fr_next (fr_next (rfl) (by kernel_rfl)) (by kernel_rfl)) (by kernel_rfl)) (by kernel_rfl), rfl, H⟩ (sub_put (by exact rfl) (sub_nil _))
      · replace H := ite_f q6 H
        refine cs_know (c := false) (dec_f q6) 18 (by kernel_rfl) ?_
        refine cs_false (by kernel_rfl) ?_
        refine cs_exit' ?_
        refine qx_then ?_
        refine qx_then ?_
        refine qx_same ?_
        refine qn_then ?_
        refine cs_seq ?_
        refine cs_region (l := [_, _]) ?_
        refine ls_val (v := .slice A7_1 l7_1.length c7_1) rfl rfl (by kernel_rfl) (fun w => by kernel_rfl) ?_
        refine ls_val (v := .slice A7_1 l7_1.length c7_1) rfl rfl (by kernel_rfl) (fun w => by kernel_rfl) ?_
        refine ls_end ?_
        refine qn_then ?_
        refine cs_ret' ?_
        obtain rfl := Option.some.inj H
        refine qr_res (rs := [_]) rfl (fun w' hs => ⟨[.slice A7_1 l7_1.length c7_1], (res_tmp (by kernel_rfl) (.nil)), (A7_1, c7_1), rfl, hs.pick (ts := [0]) (cs := [Ck.sl (Ec.int 5 .u8) A7_1 c7_1 l7_1]) ⟨by exact rfl, trivial⟩ (by decide)⟩)
    · replace H := ite_f q5 H
      refine ls_know (c := false) (dec_f q5) 15 (by kernel_rfl) ?_
      refine ls_off (j := 3) (t := 15) (b := true) (c := false) rfl rfl (by kernel_rfl) (by kernel_rfl) rfl rfl (by kernel_rfl) ?_
      refine ls_off (j := 3) (t := 15) (b := true) (c := false) rfl rfl (by kernel_rfl) (by kernel_rfl) rfl rfl (by kernel_rfl) ?_
      refine ls_val (v := .bool false) rfl rfl (by kernel_rfl) (fun w => by kernel_rfl) ?_
      refine ls_end ?_
      refine qn_then ?_
      refine cs_false (by kernel_rfl) ?_
      refine cs_exit' ?_
      refine qx_then ?_
      refine qx_then ?_
      refine qx_same ?_
      refine qn_then ?_
      refine cs_seq ?_
      refine cs_region (l := [_, _]) ?_
      refine ls_val (v := .slice A7_1 l7_1.length c7_1) rfl rfl (by kernel_rfl) (fun w => by kernel_rfl) ?_
      refine ls_val (v := .slice A7_1 l7_1.length c7_1) rfl rfl (by kernel_rfl) (fun w => by kernel_rfl) ?_
      refine ls_end ?_
      refine qn_then ?_
      refine cs_ret' ?_
      obtain rfl := Option.some.inj H
      refine qr_res (rs := [_]) rfl (fun w' hs => ⟨[.slice A7_1 l7_1.length c7_1], (res_tmp (by kernel_rfl) (.nil)), (A7_1, c7_1), rfl, hs.pick (ts := [0]) (cs := [Ck.sl (Ec.int 5 .u8) A7_1 c7_1 l7_1]) ⟨by exact rfl, trivial⟩ (by decide)⟩)

/-! ### shadowbox/shadowboxref06.Put: function 19 -/
def shadowboxref06_Put.lo1 (a1 : (Int × Int × Int × Int × (Vc Int 32))) : Nat → (List Int) → Int → Option ((List Int))
  | 0, _, _ => none
  | k1 + 1, l0_1, x5_1 => (if x5_1 < (32 : Int) then (if 0 ≤ x5_1 then lt ((a1.2.2.2.2.1.getD (x5_1).toNat (0 : Int))) fun y16 => (if (l0_1.length + ([y16]).length) * 1 ≤ 140737488355328 then (shadowboxref06_Put.lo1 a1 k1) (l0_1 ++ [y16]) (IntKind.wrap .i64 (x5_1 + (1 : Int))) else none) else none) else some l0_1)
def shadowboxref06_Put.f (k : Nat) (l0 : List Int) (a1 : (Int × Int × Int × Int × (Vc Int 32))) : Option ((List Int)) :=
  (shadowboxref01_Fixed.f k l0 (4 : Int) (IntKind.wrap .u64 a1.1)).bind fun t2 => (shadowboxref01_Fixed.f k t2 (4 : Int) (IntKind.wrap .u64 a1.2.2.1)).bind fun t5 => (shadowboxref01_Fixed.f k t5 (8 : Int) (IntKind.wrap .u64 a1.2.1)).bind fun t8 => (shadowboxref01_Fixed.f k t8 (4 : Int) (IntKind.wrap .u64 a1.2.2.2.1)).bind fun t11 => shadowboxref06_Put.lo1 a1 k t11 (0 : Int)
set_option maxRecDepth 100000 in
set_option maxHeartbeats 4000000 in
theorem shadowboxref06_Put.calls (k : Nat) (A0 : Option Addr) (c0 : Nat) (l0 : List Int) (a1 : (Int × Int × Int × Int × (Vc Int 32))) (r : (List Int)) (b : Bs) (hs0 : St b (stl []) b.w) (R0 : Ro b A0 (em (Ec.int 5 .u8) l0)) (C0 : l0.length ≤ c0) (H : shadowboxref06_Put.f k l0 a1 = some r) :
    Calls Try.prog 19 #[.slice A0 l0.length c0, .agg ⟨([Value.int .i64 a1.1] ++ ([Value.int .i64 a1.2.1] ++ ([Value.int .i64 a1.2.2.1] ++ ([Value.int .u32 a1.2.2.2.1] ++ en (Value.int .u8) a1.2.2.2.2.1))))⟩] b.w fun e w' => ∃ x : (Option Addr × Nat), e = .returned (.slice x.1 r.length x.2) ∧ St b (stl [Ck.sl (Ec.int 5 .u8) x.1 x.2 r]) w' := by
  unfold shadowboxref06_Put.f at H
  refine enterb (n := 38) Try.func19 rfl (by kernel_rfl) (by kernel_rfl) hs0 ?_
  refine cs_sub (s0) (sub_nil _) ?_
  refine cs_seq ?_
  refine cs_region (l := [_, _]) ?_
  refine ls_new rfl rfl (by kernel_rfl) 0 (fun g => .pointer (some ⟨g, 0, none⟩)) (.cells ⟨([Value.int .i64 a1.1] ++ ([Value.int .i64 a1.2.1] ++ ([Value.int .i64 a1.2.2.1] ++ ([Value.int .u32 a1.2.2.2.1] ++ en (Value.int .u8) a1.2.2.2.2.1))))⟩ 25) (fun w => by kernel_rfl) ?_
  intro g1
  refine ls_val (v := .slice none 0 0) rfl rfl (by kernel_rfl) (fun w => by kernel_rfl) ?_
  refine ls_end ?_
  refine qn_then ?_
  refine cs_seq ?_
  refine cs_region (l := [_, _, _, _, _, _]) ?_
  refine ls_val (v := .slice A0 l0.length c0) rfl rfl (by kernel_rfl) (fun w => by kernel_rfl) ?_
  refine ls_val (v := .pointer (some ⟨g1, (0 + 0), none⟩)) rfl rfl (by kernel_rfl) (fun w => by kernel_rfl) ?_
  refine ls_load (a0 := ⟨g1, (0 + 0), none⟩) (v := .int .i64 a1.1) (de := (TypeDesc.int .i64)) rfl rfl (by kernel_rfl) rfl (by kernel_rfl) (by kernel_rfl) (by kernel_rfl) (fun w hs => (hs.var (k := 0) (by exact rfl) (Sub4.trans (Sub4.all _) (Sub4.head _ _)))) ?_
  refine ls_val (v := .int .u64 (IntKind.wrap .u64 a1.1)) rfl rfl (by kernel_rfl) (fun w => by kernel_rfl) ?_
  obtain ⟨t2, hc3, H⟩ := bind_some H
  refine ls_callb (fid := 35) (vals := #[.slice A0 l0.length c0, .int .i64 (4 : Int), .int .u64 (IntKind.wrap .u64 a1.1)]) (X := (Option Addr × Nat)) (fun x => .slice x.1 t2.length x.2) (fun x => stl [Ck.sl (Ec.int 5 .u8) x.1 x.2 t2]) [] [] [] [] 1 rfl rfl (by kernel_rfl) (fun w => by kernel_rfl) trivial trivial (by decide) (fun w hs hb => shadowboxref01_Fixed.calls k A0 c0 l0 (4 : Int) (IntKind.wrap .u64 a1.1) t2 (lent b w [] []) hb (hs.ro R0 _ _) C0 hc3) ?_
  intro x4
  refine ls_val (v := .slice x4.1 t2.length x4.2) rfl rfl (by kernel_rfl) (fun w => by kernel_rfl) ?_
  refine ls_end ?_
  refine qn_then ?_
  refine cs_seq ?_
  refine cs_region (l := [_, _, _, _, _, _]) ?_
  refine ls_val (v := .slice x4.1 t2.length x4.2) rfl rfl (by kernel_rfl) (fun w => by kernel_rfl) ?_
  refine ls_val (v := .pointer (some ⟨g1, (0 + 2), none⟩)) rfl rfl (by kernel_rfl) (fun w => by kernel_rfl) ?_
  refine ls_load (a0 := ⟨g1, (0 + 2), none⟩) (v := .int .i64 a1.2.2.1) (de := (TypeDesc.int .i64)) rfl rfl (by kernel_rfl) rfl (by kernel_rfl) (by kernel_rfl) (by kernel_rfl) (fun w hs => (hs.var (k := 0) (by exact rfl) (Sub4.trans (Sub4.all _) (Sub4.skip (n := 1) (len1 _) (Sub4.skip (n := 1) (len1 _) (Sub4.head _ _)))))) ?_
  refine ls_val (v := .int .u64 (IntKind.wrap .u64 a1.2.2.1)) rfl rfl (by kernel_rfl) (fun w => by kernel_rfl) ?_
  obtain ⟨t5, hc6, H⟩ := bind_some H
  refine ls_callb (fid := 35) (vals := #[.slice x4.1 t2.length x4.2, .int .i64 (4 : Int), .int .u64 (IntKind.wrap .u64 a1.2.2.1)]) (X := (Option Addr × Nat)) (fun x => .slice x.1 t5.length x.2) (fun x => stl [Ck.sl (Ec.int 5 .u8) x.1 x.2 t5]) [] [1] [] [Ck.sl (Ec.int 5 .u8) x4.1 x4.2 t2] 2 rfl rfl (by kernel_rfl) (fun w => by kernel_rfl) trivial ⟨by exact rfl, trivial⟩ (by decide) (fun w hs hb => shadowboxref01_Fixed.calls k x4.1 x4.2 t2 (4 : Int) (IntKind.wrap .u64 a1.2.2.1) t5 (lent b w [] [Ck.sl (Ec.int 5 .u8) x4.1 x4.2 t2]) hb (hs.ror (k := 1) (by exact rfl) (.head _)) (hs.cap (k := 1) (by exact rfl)) hc6) ?_
  intro x7
  refine ls_val (v := .slice x7.1 t5.length x7.2) rfl rfl (by kernel_rfl) (fun w => by kernel_rfl) ?_
  refine ls_end ?_
  refine qn_then ?_
  refine cs_seq ?_
  refine cs_region (l := [_, _, _, _, _, _]) ?_
  refine ls_val (v := .slice x7.1 t5.length x7.2) rfl rfl (by kernel_rfl) (fun w => by kernel_rfl) ?_
  refine ls_val (v := .pointer (some ⟨g1, (0 + 1), none⟩)) rfl rfl (by kernel_rfl) (fun w => by kernel_rfl) ?_
  refine ls_load (a0 := ⟨g1, (0 + 1), none⟩) (v := .int .i64 a1.2.1) (de := (TypeDesc.int .i64)) rfl rfl (by kernel_rfl) rfl (by kernel_rfl) (by kernel_rfl) (by kernel_rfl) (fun w hs => (hs.var (k := 0) (by exact rfl) (Sub4.trans (Sub4.all _) (Sub4.skip (n := 1) (len1 _) (Sub4.head _ _))))) ?_
  refine ls_val (v := .int .u64 (IntKind.wrap .u64 a1.2.1)) rfl rfl (by kernel_rfl) (fun w => by kernel_rfl) ?_
  obtain ⟨t8, hc9, H⟩ := bind_some H
  refine ls_callb (fid := 35) (vals := #[.slice x7.1 t5.length x7.2, .int .i64 (8 : Int), .int .u64 (IntKind.wrap .u64 a1.2.1)]) (X := (Option Addr × Nat)) (fun x => .slice x.1 t8.length x.2) (fun x => stl [Ck.sl (Ec.int 5 .u8) x.1 x.2 t8]) [] [2] [] [Ck.sl (Ec.int 5 .u8) x7.1 x7.2 t5] 3 rfl rfl (by kernel_rfl) (fun w => by kernel_rfl) trivial ⟨by exact rfl, trivial⟩ (by decide) (fun w hs hb => shadowboxref01_Fixed.calls k x7.1 x7.2 t5 (8 : Int) (IntKind.wrap .u64 a1.2.1) t8 (lent b w [] [Ck.sl (Ec.int 5 .u8) x7.1 x7.2 t5]) hb (hs.ror (k := 2) (by exact rfl) (.head _)) (hs.cap (k := 2) (by exact rfl)) hc9) ?_
  intro x10
  refine ls_val (v := .slice x10.1 t8.length x10.2) rfl rfl (by kernel_rfl) (fun w => by kernel_rfl) ?_
  refine ls_end ?_
  refine qn_then ?_
  refine cs_seq ?_
  refine cs_region (l := [_, _, _, _, _, _]) ?_
  refine ls_val (v := .slice x10.1 t8.length x10.2) rfl rfl (by kernel_rfl) (fun w => by kernel_rfl) ?_
  refine ls_val (v := .pointer (some ⟨g1, (0 + 3), none⟩)) rfl rfl (by kernel_rfl) (fun w => by kernel_rfl) ?_
  refine ls_load (a0 := ⟨g1, (0 + 3), none⟩) (v := .int .u32 a1.2.2.2.1) (de := (TypeDesc.int .u32)) rfl rfl (by kernel_rfl) rfl (by kernel_rfl) (by kernel_rfl) (by kernel_rfl) (fun w hs => (hs.var (k := 0) (by exact rfl) (Sub4.trans (Sub4.all _) (Sub4.skip (n := 1) (len1 _) (Sub4.skip (n := 1) (len1 _) (Sub4.skip (n := 1) (len1 _) (Sub4.head _ _))))))) ?_
  refine ls_val (v := .int .u64 (IntKind.wrap .u64 a1.2.2.2.1)) rfl rfl (by kernel_rfl) (fun w => by kernel_rfl) ?_
  obtain ⟨t11, hc12, H⟩ := bind_some H
  refine ls_callb (fid := 35) (vals := #[.slice x10.1 t8.length x10.2, .int .i64 (4 : Int), .int .u64 (IntKind.wrap .u64 a1.2.2.2.1)]) (X := (Option Addr × Nat)) (fun x => .slice x.1 t11.length x.2) (fun x => stl [Ck.sl (Ec.int 5 .u8) x.1 x.2 t11]) [] [3] [] [Ck.sl (Ec.int 5 .u8) x10.1 x10.2 t8] 4 rfl rfl (by kernel_rfl) (fun w => by kernel_rfl) trivial ⟨by exact rfl, trivial⟩ (by decide) (fun w hs hb => shadowboxref01_Fixed.calls k x10.1 x10.2 t8 (4 : Int) (IntKind.wrap .u64 a1.2.2.2.1) t11 (lent b w [] [Ck.sl (Ec.int 5 .u8) x10.1 x10.2 t8]) hb (hs.ror (k := 3) (by exact rfl) (.head _)) (hs.cap (k := 3) (by exact rfl)) hc12) ?_
  intro x13
  refine ls_val (v := .slice x13.1 t11.length x13.2) rfl rfl (by kernel_rfl) (fun w => by kernel_rfl) ?_
  refine ls_end ?_
  refine qn_then ?_
  refine cs_seq ?_
  refine cs_seq ?_
  refine cs_region (l := [_]) ?_
  refine ls_val (v := .int .i64 (0 : Int)) rfl rfl (by kernel_rfl) (fun w => by kernel_rfl) ?_
  refine ls_end ?_
  refine qn_then ?_
  refine cs_block ?_
  refine cs_sub (sput (sput s0 0 (some (Ck.var 25 g1 (([Value.int .i64 a1.1] ++ ([Value.int .i64 a1.2.1] ++ ([Value.int .i64 a1.2.2.1] ++ ([Value.int .u32 a1.2.2.2.1] ++ en (Value.int .u8) a1.2.2.2.2.1)))))))) 4 (some (Ck.sl (Ec.int 5 .u8) x13.1 x13.2 t11))) (sub_put (by exact rfl) (sub_put (by exact rfl) (sub_nil _))) ?_
  refine cs_loop (fun kk f S => ∃ (fR : Fr) (A0_1 : Option Addr) (c0_1 : Nat) (l0_1 : List Int) (x5_1 : Int), f = upd (upd (upd fR 0 (.slice A0_1 l0_1.length c0_1)) 3 (.pointer (some ⟨g1, 0, none⟩))) 5 (.int .i64 x5_1) ∧ S = sput (sput s0 0 (some (Ck.var 25 g1 (([Value.int .i64 a1.1] ++ ([Value.int .i64 a1.2.1] ++ ([Value.int .i64 a1.2.2.1] ++ ([Value.int .u32 a1.2.2.2.1] ++ en (Value.int .u8) a1.2.2.2.2.1)))))))) 4 (some (Ck.sl (Ec.int 5 .u8) A0_1 c0_1 l0_1)) ∧ shadowboxref06_Put.lo1 a1 kk l0_1 x5_1 = some r) k ?_ ?_ ?_
  · exact ⟨_, x13.1, x13.2, t11, (0 : Int), fr_next (fr_next (fr_next (rfl) (by kernel_rfl)) (by kernel_rfl)) (by kernel_rfl), rfl, H⟩
  · rintro f S ⟨fr1, A0_1, c0_1, l0_1, x5_1, rfl, rfl, H⟩; cases H
  · rintro k1 f S ⟨fr1, A0_1, c0_1, l0_1, x5_1, rfl, rfl, H⟩
    replace H : ((if x5_1 < (32 : Int) then (if 0 ≤ x5_1 then lt ((a1.2.2.2.2.1.getD (x5_1).toNat (0 : Int))) fun y16 => (if (l0_1.length + ([y16]).length) * 1 ≤ 140737488355328 then (shadowboxref06_Put.lo1 a1 k1) (l0_1 ++ [y16]) (IntKind.wrap .i64 (x5_1 + (1 : Int))) else none) else none) else some l0_1)) = some r := H
    refine cs_seq ?_
    refine cs_seq ?_
    refine cs_region (l := [_, _]) ?_
    refine ls_val (v := .int .i64 x5_1) rfl rfl (by kernel_rfl) (fun w => by kernel_rfl) ?_
    refine ls_val (v := .bool (decide (x5_1 < (32 : Int)))) rfl rfl (by kernel_rfl) (fun w => by kernel_rfl) ?_
    refine ls_end ?_
    refine qn_then ?_
    by_cases q14 : x5_1 < (32 : Int)
    · replace H := ite_t q14 H
      refine cs_know (c := true) (dec_t q14) 27 (by kernel_rfl) ?_
      refine cs_true (by kernel_rfl) ?_
      refine cs_skip' ?_
      refine qn_then ?_
      refine cs_seq ?_
      refine cs_block ?_
      refine cs_region (l := [_, _, _, _, _, _, _, _]) ?_
      refine ls_val (v := .slice A0_1 l0_1.length c0_1) rfl rfl (by kernel_rfl) (fun w => by kernel_rfl) ?_
      refine ls_val (v := .int .i64 x5_1) rfl rfl (by kernel_rfl) (fun w => by kernel_rfl) ?_
      refine ls_val (v := .pointer (some ⟨g1, (0 + 4), none⟩)) rfl rfl (by kernel_rfl) (fun w => by kernel_rfl) ?_
      obtain ⟨q15, H⟩ := ite_need H
      refine ls_idxa1 (g := g1) (off := (0 + 4)) (i := x5_1) (kk := .i64) (ln := 32) (e := 5) rfl rfl (by kernel_rfl) rfl (by kernel_rfl) (by kernel_rfl) (by kernel_rfl) (by kernel_rfl) q15 q14 ?_
      obtain ⟨y16, hy17, H⟩ := lt_some H
      refine ls_load (a0 := ⟨g1, ((0 + 4) + (x5_1).toNat), none⟩) (v := .int .u8 (a1.2.2.2.2.1.getD (x5_1).toNat (0 : Int))) (de := (TypeDesc.int .u8)) rfl rfl (by kernel_rfl) rfl (by kernel_rfl) (by kernel_rfl) (by kernel_rfl) (fun w hs => (hs.var (k := 0) (by exact rfl) (Sub4.trans (Sub4.trans (Sub4.all _) (Sub4.skip (n := 1) (len1 _) (Sub4.skip (n := 1) (len1 _) (Sub4.skip (n := 1) (len1 _) (Sub4.skip (n := 1) (len1 _) (Sub4.all _)))))) (Sub4.one (Value.int .u8) a1.2.2.2.2.1 0 (by have := a1.2.2.2.2.2; omega))))) ?_
      refine ls_ren 34 (v := .int .u8 (a1.2.2.2.2.1.getD (x5_1).toNat (0 : Int))) (v' := .int .u8 y16) (by kernel_rfl) (by rw [hy17]) ?_
      refine ls_lit (Ec.int 5 .u8) 5 rfl rfl (by kernel_rfl) ([y16]) (by exact of_decide_eq_true (by kernel_rfl)) (fun w => by kernel_rfl) ?_
      intro g18
      obtain ⟨q19, H⟩ := ite_need H
      refine ls_app (Ec.int 5 .u8) (A := A0_1) (c := c0_1) (B := (some ⟨g18, 0, none⟩)) (cb := [y16].length) (z := (Value.int .u8 0)) (l := l0_1) (m := [y16]) (bytes := 1) 4 rfl rfl (by kernel_rfl) rfl (by kernel_rfl) (by exact rfl) (by kernel_rfl) (fun w hs => (hs.rd (k := 5) (by exact rfl))) (by kernel_rfl) (by kernel_rfl) rfl (by decide) q19 ?_
      intro xA20 xc21
      refine ls_val (v := .slice xA20 (l0_1 ++ [y16]).length xc21) rfl rfl (by kernel_rfl) (fun w => by kernel_rfl) ?_
      refine ls_end ?_
      refine qn_block ?_
      refine qn_then ?_
      refine cs_region (l := [_, _, _]) ?_
      refine ls_val (v := .int .i64 x5_1) rfl rfl (by kernel_rfl) (fun w => by kernel_rfl) ?_
      refine ls_val (v := .int .i64 (IntKind.wrap .i64 (x5_1 + (1 : Int)))) rfl rfl (by kernel_rfl) (fun w => by kernel_rfl) ?_
      refine ls_val (v := .int .i64 (IntKind.wrap .i64 (x5_1 + (1 : Int)))) rfl rfl (by kernel_rfl) (fun w => by kernel_rfl) ?_
      refine ls_end ?_
      refine qn_again k1 (sput (sput s0 0 (some (Ck.var 25 g1 (([Value.int .i64 a1.1] ++ ([Value.int .i64 a1.2.1] ++ ([Value.int .i64 a1.2.2.1] ++ ([Value.int .u32 a1.2.2.2.1] ++ en (Value.int .u8) a1.2.2.2.2.1)))))))) 4 (some (Ck.sl (Ec.int 5 .u8) xA20 xc21 (l0_1 ++ [y16])))) (Nat.le_refl _) ⟨_, xA20, xc21, (l0_1 ++ [y16]), (IntKind.wrap .i64 (x5_1 + (1 : Int))), fr_next (fr_next (fr_next (rfl) (by kernel_rfl)) (by kernel_rfl)) (by kernel_rfl), rfl, H⟩ (sub_put (by exact rfl) (sub_put (by exact rfl) (sub_nil _)))
    · replace H := ite_f q14 H
      refine cs_know (c := false) (dec_f q14) 27 (by kernel_rfl) ?_
      refine cs_false (by kernel_rfl) ?_
      refine cs_exit' ?_
      refine qx_then ?_
      refine qx_then ?_
      refine qx_same ?_
      refine qn_then ?_
      refine cs_seq ?_
      refine cs_region (l := [_, _]) ?_
      refine ls_val (v := .slice A0_1 l0_1.length c0_1) rfl rfl (by kernel_rfl) (fun w => by kernel_rfl) ?_
      refine ls_val (v := .slice A0_1 l0_1.length c0_1) rfl rfl (by kernel_rfl) (fun w => by kernel_rfl) ?_
      refine ls_end ?_
      refine qn_then ?_
      refine cs_ret' ?_
      obtain rfl := Option.some.inj H
      refine qr_res (rs := [_]) rfl (fun w' hs => ⟨[.slice A0_1 l0_1.length c0_1], (res_tmp (by kernel_rfl) (.nil)), (A0_1, c0_1), rfl, hs.pick (ts := [4]) (cs := [Ck.sl (Ec.int 5 .u8) A0_1 c0_1 l0_1]) ⟨by exact rfl, trivial⟩ (by decide)⟩)

/-! ### shadowbox/shadowboxref02.turn: function 49 -/
def shadowboxref02_turn.lo1 : Nat → Int → Int → Int → Int → Int → Option (Int)
  | 0, _, _, _, _, _ => none
  | k1 + 1, x0_1, x1_1, x5_1, x6_1, x7_1 => (if x7_1 < (32 : Int) then (if (Int.tmod x0_1 (2 : Int)) = (Int.tmod x1_1 (2 : Int)) then lt (IntKind.wrap .u32 (Int.tdiv x0_1 (2 : Int))) fun y3 => lt (IntKind.wrap .u32 (Int.tdiv x1_1 (2 : Int))) fun y5 => (shadowboxref02_turn.lo1 k1) y3 y5 x5_1 (IntKind.wrap .u32 (x6_1 * (2 : Int))) (IntKind.wrap .i64 (x7_1 + (1 : Int))) else lt (IntKind.wrap .u32 (Int.tdiv x0_1 (2 : Int))) fun y7 => lt (IntKind.wrap .u32 (Int.tdiv x1_1 (2 : Int))) fun y9 => (shadowboxref02_turn.lo1 k1) y7 y9 (IntKind.wrap .u32 (x5_1 + x6_1)) (IntKind.wrap .u32 (x6_1 * (2 : Int))) (IntKind.wrap .i64 (x7_1 + (1 : Int)))) else some x5_1)
def shadowboxref02_turn.f (k : Nat) (a0 : Int) (a1 : Int) : Option (Int) :=
  shadowboxref02_turn.lo1 k a0 a1 (0 : Int) (1 : Int) (0 : Int)
set_option maxRecDepth 100000 in
set_option maxHeartbeats 4000000 in
theorem shadowboxref02_turn.calls (k : Nat) (a0 : Int) (a1 : Int) (r : Int) (b : Bs) (hs0 : St b (stl []) b.w) (H : shadowboxref02_turn.f k a0 a1 = some r) :
    Calls Try.prog 49 #[.int .u32 a0, .int .u32 a1] b.w fun e w' => ∃ x : Unit, e = .returned (.int .u32 r) ∧ St b (stl []) w' := by
  unfold shadowboxref02_turn.f at H
  refine enterb (n := 27) Try.func49 rfl (by kernel_rfl) (by kernel_rfl) hs0 ?_
  refine cs_sub (s0) (sub_nil _) ?_
  refine cs_seq ?_
  refine cs_region (l := [_]) ?_
  refine ls_val (v := .int .u32 (0 : Int)) rfl rfl (by kernel_rfl) (fun w => by kernel_rfl) ?_
  refine ls_end ?_
  refine qn_then ?_
  refine cs_seq ?_
  refine cs_region (l := [_]) ?_
  refine ls_val (v := .int .u32 (0 : Int)) rfl rfl (by kernel_rfl) (fun w => by kernel_rfl) ?_
  refine ls_end ?_
  refine qn_then ?_
  refine cs_seq ?_
  refine cs_region (l := [_]) ?_
  refine ls_val (v := .int .u32 (1 : Int)) rfl rfl (by kernel_rfl) (fun w => by kernel_rfl) ?_
  refine ls_end ?_
  refine qn_then ?_
  refine cs_seq ?_
  refine cs_seq ?_
  refine cs_region (l := [_]) ?_
  refine ls_val (v := .int .i64 (0 : Int)) rfl rfl (by kernel_rfl) (fun w => by kernel_rfl) ?_
  refine ls_end ?_
  refine qn_then ?_
  refine cs_block ?_
  refine cs_sub (s0) (sub_nil _) ?_
  refine cs_loop (fun kk f S => ∃ (fR : Fr) (x0_1 : Int) (x1_1 : Int) (x5_1 : Int) (x6_1 : Int) (x7_1 : Int), f = upd (upd (upd (upd (upd fR 0 (.int .u32 x0_1)) 1 (.int .u32 x1_1)) 5 (.int .u32 x5_1)) 6 (.int .u32 x6_1)) 7 (.int .i64 x7_1) ∧ S = s0 ∧ shadowboxref02_turn.lo1 kk x0_1 x1_1 x5_1 x6_1 x7_1 = some r) k ?_ ?_ ?_
  · exact ⟨_, a0, a1, (0 : Int), (1 : Int), (0 : Int), fr_next (fr_next (fr_next (fr_next (fr_next (rfl) (by kernel_rfl)) (by kernel_rfl)) (by kernel_rfl)) (by kernel_rfl)) (by kernel_rfl), rfl, H⟩
  · rintro f S ⟨fr1, x0_1, x1_1, x5_1, x6_1, x7_1, rfl, rfl, H⟩; cases H
  · rintro k1 f S ⟨fr1, x0_1, x1_1, x5_1, x6_1, x7_1, rfl, rfl, H⟩
    replace H : ((if x7_1 < (32 : Int) then (if (Int.tmod x0_1 (2 : Int)) = (Int.tmod x1_1 (2 : Int)) then lt (IntKind.wrap .u32 (Int.tdiv x0_1 (2 : Int))) fun y3 => lt (IntKind.wrap .u32 (Int.tdiv x1_1 (2 : Int))) fun y5 => (shadowboxref02_turn.lo1 k1) y3 y5 x5_1 (IntKind.wrap .u32 (x6_1 * (2 : Int))) (IntKind.wrap .i64 (x7_1 + (1 : Int))) else lt (IntKind.wrap .u32 (Int.tdiv x0_1 (2 : Int))) fun y7 => lt (IntKind.wrap .u32 (Int.tdiv x1_1 (2 : Int))) fun y9 => (shadowboxref02_turn.lo1 k1) y7 y9 (IntKind.wrap .u32 (x5_1 + x6_1)) (IntKind.wrap .u32 (x6_1 * (2 : Int))) (IntKind.wrap .i64 (x7_1 + (1 : Int)))) else some x5_1)) = some r := H
    refine cs_seq ?_
    refine cs_seq ?_
    refine cs_region (l := [_, _]) ?_
    refine ls_val (v := .int .i64 x7_1) rfl rfl (by kernel_rfl) (fun w => by kernel_rfl) ?_
    refine ls_val (v := .bool (decide (x7_1 < (32 : Int)))) rfl rfl (by kernel_rfl) (fun w => by kernel_rfl) ?_
    refine ls_end ?_
    refine qn_then ?_
    by_cases q1 : x7_1 < (32 : Int)
    · replace H := ite_t q1 H
      refine cs_know (c := true) (dec_t q1) 9 (by kernel_rfl) ?_
      refine cs_true (by kernel_rfl) ?_
      refine cs_skip' ?_
      refine qn_then ?_
      refine cs_seq ?_
      refine cs_block ?_
      refine cs_seq ?_
      refine cs_seq ?_
      refine cs_region (l := [_, _, _, _, _]) ?_
      refine ls_val (v := .int .u32 x0_1) rfl rfl (by kernel_rfl) (fun w => by kernel_rfl) ?_
      refine ls_val (v := .int .u32 (Int.tmod x0_1 (2 : Int))) rfl rfl (by kernel_rfl) (fun w => by kernel_rfl) ?_
      refine ls_val (v := .int .u32 x1_1) rfl rfl (by kernel_rfl) (fun w => by kernel_rfl) ?_
      refine ls_val (v := .int .u32 (Int.tmod x1_1 (2 : Int))) rfl rfl (by kernel_rfl) (fun w => by kernel_rfl) ?_
      refine ls_val (v := .bool (!decide ((Int.tmod x0_1 (2 : Int)) = (Int.tmod x1_1 (2 : Int))))) rfl rfl (by kernel_rfl) (fun w => by kernel_rfl) ?_
      refine ls_end ?_
      refine qn_then ?_
      by_cases q2 : (Int.tmod x0_1 (2 : Int)) = (Int.tmod x1_1 (2 : Int))
      · replace H := ite_t q2 H
        refine cs_know (c := false) (congrArg Bool.not (dec_t q2)) 16 (by kernel_rfl) ?_
        refine cs_false (by kernel_rfl) ?_
        refine cs_skip' ?_
        refine qn_then ?_
        refine cs_seq ?_
        refine cs_region (l := [_, _, _]) ?_
        refine ls_val (v := .int .u32 x0_1) rfl rfl (by kernel_rfl) (fun w => by kernel_rfl) ?_
        obtain ⟨y3, hy4, H⟩ := lt_some H
        refine ls_val (v := .int .u32 (IntKind.wrap .u32 (Int.tdiv x0_1 (2 : Int)))) rfl rfl (by kernel_rfl) (fun w => by kernel_rfl) ?_
        refine ls_ren 21 (v := .int .u32 (IntKind.wrap .u32 (Int.tdiv x0_1 (2 : Int)))) (v' := .int .u32 y3) (by kernel_rfl) (by rw [hy4]) ?_
        refine ls_val (v := .int .u32 y3) rfl rfl (by kernel_rfl) (fun w => by kernel_rfl) ?_
        refine ls_end ?_
        refine qn_then ?_
        refine cs_seq ?_
        refine cs_region (l := [_, _, _]) ?_
        refine ls_val (v := .int .u32 x1_1) rfl rfl (by kernel_rfl) (fun w => by kernel_rfl) ?_
        obtain ⟨y5, hy6, H⟩ := lt_some H
        refine ls_val (v := .int .u32 (IntKind.wrap .u32 (Int.tdiv x1_1 (2 : Int)))) rfl rfl (by kernel_rfl) (fun w => by kernel_rfl) ?_
        refine ls_ren 23 (v := .int .u32 (IntKind.wrap .u32 (Int.tdiv x1_1 (2 : Int)))) (v' := .int .u32 y5) (by kernel_rfl) (by rw [hy6]) ?_
        refine ls_val (v := .int .u32 y5) rfl rfl (by kernel_rfl) (fun w => by kernel_rfl) ?_
        refine ls_end ?_
        refine qn_then ?_
        refine cs_region (l := [_, _, _]) ?_
        refine ls_val (v := .int .u32 x6_1) rfl rfl (by kernel_rfl) (fun w => by kernel_rfl) ?_
        refine ls_val (v := .int .u32 (IntKind.wrap .u32 (x6_1 * (2 : Int)))) rfl rfl (by kernel_rfl) (fun w => by kernel_rfl) ?_
        refine ls_val (v := .int .u32 (IntKind.wrap .u32 (x6_1 * (2 : Int)))) rfl rfl (by kernel_rfl) (fun w => by kernel_rfl) ?_
        refine ls_end ?_
        refine qn_block ?_
        refine qn_then ?_
        refine cs_region (l := [_, _, _]) ?_
        refine ls_val (v := .int .i64 x7_1) rfl rfl (by kernel_rfl) (fun w => by kernel_rfl) ?_
        refine ls_val (v := .int .i64 (IntKind.wrap .i64 (x7_1 + (1 : Int)))) rfl rfl (by kernel_rfl) (fun w => by kernel_rfl) ?_
        refine ls_val (v := .int .i64 (IntKind.wrap .i64 (x7_1 + (1 : Int)))) rfl rfl (by kernel_rfl) (fun w => by kernel_rfl) ?_
        refine ls_end ?_
        refine qn_again k1 (s0) (Nat.le_refl _) ⟨_, y3, y5, x5_1, (IntKind.wrap .u32 (x6_1 * (2 : Int))), (IntKind.wrap .i64 (x7_1 + (1 : Int))), fr_next (fr_next (fr_next (fr_next (fr_next (rfl) (by kernel_rfl)) (by kernel_rfl)) (by kernel_rfl)) (by kernel_rfl)) (by kernel_rfl), rfl, H⟩ (sub_nil _)
      · replace H := ite_f q2 H
        refine cs_know (c := true) (congrArg Bool.not (dec_f q2)) 16 (by kernel_rfl) ?_
        refine cs_true (by kernel_rfl) ?_
        refine cs_region (l := [_, _, _, _]) ?_
        refine ls_val (v := .int .u32 x5_1) rfl rfl (by kernel_rfl) (fun w => by kernel_rfl) ?_
        refine ls_val (v := .int .u32 x6_1) rfl rfl (by kernel_rfl) (fun w => by kernel_rfl) ?_
        refine ls_val (v := .int .u32 (IntKind.wrap .u32 (x5_1 + x6_1))) rfl rfl (by kernel_rfl) (fun w => by kernel_rfl) ?_
        refine ls_val (v := .int .u32 (IntKind.wrap .u32 (x5_1 + x6_1))) rfl rfl (by kernel_rfl) (fun w => by kernel_rfl) ?_
        refine ls_end ?_
        refine qn_then ?_
        refine cs_seq ?_
        refine cs_region (l := [_, _, _]) ?_
        refine ls_val (v := .int .u32 x0_1) rfl rfl (by kernel_rfl) (fun w => by kernel_rfl) ?_
        obtain ⟨y7, hy8, H⟩ := lt_some H
        refine ls_val (v := .int .u32 (IntKind.wrap .u32 (Int.tdiv x0_1 (2 : Int)))) rfl rfl (by kernel_rfl) (fun w => by kernel_rfl) ?_
        refine ls_ren 21 (v := .int .u32 (IntKind.wrap .u32 (Int.tdiv x0_1 (2 : Int)))) (v' := .int .u32 y7) (by kernel_rfl) (by rw [hy8]) ?_
        refine ls_val (v := .int .u32 y7) rfl rfl (by kernel_rfl) (fun w => by kernel_rfl) ?_
        refine ls_end ?_
        refine qn_then ?_
        refine cs_seq ?_
        refine cs_region (l := [_, _, _]) ?_
        refine ls_val (v := .int .u32 x1_1) rfl rfl (by kernel_rfl) (fun w => by kernel_rfl) ?_
        obtain ⟨y9, hy10, H⟩ := lt_some H
        refine ls_val (v := .int .u32 (IntKind.wrap .u32 (Int.tdiv x1_1 (2 : Int)))) rfl rfl (by kernel_rfl) (fun w => by kernel_rfl) ?_
        refine ls_ren 23 (v := .int .u32 (IntKind.wrap .u32 (Int.tdiv x1_1 (2 : Int)))) (v' := .int .u32 y9) (by kernel_rfl) (by rw [hy10]) ?_
        refine ls_val (v := .int .u32 y9) rfl rfl (by kernel_rfl) (fun w => by kernel_rfl) ?_
        refine ls_end ?_
        refine qn_then ?_
        refine cs_region (l := [_, _, _]) ?_
        refine ls_val (v := .int .u32 x6_1) rfl rfl (by kernel_rfl) (fun w => by kernel_rfl) ?_
        refine ls_val (v := .int .u32 (IntKind.wrap .u32 (x6_1 * (2 : Int)))) rfl rfl (by kernel_rfl) (fun w => by kernel_rfl) ?_
        refine ls_val (v := .int .u32 (IntKind.wrap .u32 (x6_1 * (2 : Int)))) rfl rfl (by kernel_rfl) (fun w => by kernel_rfl) ?_
        refine ls_end ?_
        refine qn_block ?_
        refine qn_then ?_
        refine cs_region (l := [_, _, _]) ?_
        refine ls_val (v := .int .i64 x7_1) rfl rfl (by kernel_rfl) (fun w => by kernel_rfl) ?_
        refine ls_val (v := .int .i64 (IntKind.wrap .i64 (x7_1 + (1 : Int)))) rfl rfl (by kernel_rfl) (fun w => by kernel_rfl) ?_
        refine ls_val (v := .int .i64 (IntKind.wrap .i64 (x7_1 + (1 : Int)))) rfl rfl (by kernel_rfl) (fun w => by kernel_rfl) ?_
        refine ls_end ?_
        refine qn_again k1 (s0) (Nat.le_refl _) ⟨_, y7, y9, (IntKind.wrap .u32 (x5_1 + x6_1)), (IntKind.wrap .u32 (x6_1 * (2 : Int))), (IntKind.wrap .i64 (x7_1 + (1 : Int))), fr_next (fr_next (fr_next (fr_next (fr_next (rfl) (by kernel_rfl)) (by kernel_rfl)) (by kernel_rfl)) (by kernel_rfl)) (by kernel_rfl), rfl, H⟩ (sub_nil _)
    · replace H := ite_f q1 H
      refine cs_know (c := false) (dec_f q1) 9 (by kernel_rfl) ?_
      refine cs_false (by kernel_rfl) ?_
      refine cs_exit' ?_
      refine qx_then ?_
      refine qx_then ?_
      refine qx_same ?_
      refine qn_then ?_
      refine cs_seq ?_
      refine cs_region (l := [_, _]) ?_
      refine ls_val (v := .int .u32 x5_1) rfl rfl (by kernel_rfl) (fun w => by kernel_rfl) ?_
      refine ls_val (v := .int .u32 x5_1) rfl rfl (by kernel_rfl) (fun w => by kernel_rfl) ?_
      refine ls_end ?_
      refine qn_then ?_
      refine cs_ret' ?_
      obtain rfl := Option.some.inj H
      refine qr_res (rs := [_]) rfl (fun w' hs => ⟨[.int .u32 x5_1], (res_tmp (by kernel_rfl) (.nil)), (), rfl, hs.pick (ts := []) (cs := []) trivial (by decide)⟩)

/-! ### shadowbox/shadowboxref02.Go: function 38 -/
def shadowboxref02_Go.lo3 (x6_1 : Int) (lo1 : Int → Int → Option (Int)) : Nat → Int → Int → Option (Int)
  | 0, _, _ => none
  | k3 + 1, x5_3, x7_3 => (if x7_3 < (8 : Int) then (if (Int.tmod x5_3 (2 : Int)) = (1 : Int) then lt (IntKind.wrap .u32 (Int.tdiv x5_3 (2 : Int))) fun y14 => (shadowboxref02_turn.f k3 y14 (2197175160 : Int)).bind fun t16 => (shadowboxref02_Go.lo3 x6_1 lo1 k3) t16 (IntKind.wrap .i64 (x7_3 + (1 : Int))) else lt (IntKind.wrap .u32 (Int.tdiv x5_3 (2 : Int))) fun y19 => (shadowboxref02_Go.lo3 x6_1 lo1 k3) y19 (IntKind.wrap .i64 (x7_3 + (1 : Int)))) else lo1 x5_3 (IntKind.wrap .i64 (x6_1 + (1 : Int))))
def shadowboxref02_Go.jo2 (l1 : List Int) (x5_1 : Int) (x6_1 : Int) (k1 : Nat) (lo1 : Int → Int → Option (Int)) : Option (Int) := (if 0 ≤ x6_1 then (if x6_1 < (l1.length : Int) then lt (IntKind.wrap .u32 ((l1).getD (x6_1).toNat (0 : Int))) fun y7 => (shadowboxref02_turn.f k1 x5_1 y7).bind fun t9 => shadowboxref02_Go.lo3 x6_1 lo1 k1 t9 (0 : Int) else none) else none)
def shadowboxref02_Go.lo1 (l1 : List Int) : Nat → Int → Int → Option (Int)
  | 0, _, _ => none
  | k1 + 1, x5_1, x6_1 => (if x6_1 < (l1.length : Int) then (shadowboxref02_Go.jo2 l1 x5_1 x6_1 k1 (shadowboxref02_Go.lo1 l1 k1)) else lt (IntKind.wrap .u32 ((4294967295 : Int) - x5_1)) fun y22 => some y22)
def shadowboxref02_Go.f (k : Nat) (a0 : Int) (l1 : List Int) : Option (Int) :=
  lt (IntKind.wrap .u32 ((4294967295 : Int) - a0)) fun y1 => shadowboxref02_Go.lo1 l1 k y1 (0 : Int)
set_option maxRecDepth 100000 in
set_option maxHeartbeats 4000000 in
theorem shadowboxref02_Go.calls (k : Nat) (a0 : Int) (A1 : Option Addr) (c1 : Nat) (l1 : List Int) (r : Int) (b : Bs) (hs0 : St b (stl []) b.w) (R1 : Ro b A1 (em (Ec.int 5 .u8) l1)) (C1 : l1.length ≤ c1) (H : shadowboxref02_Go.f k a0 l1 = some r) :
    Calls Try.prog 38 #[.int .u32 a0, .slice A1 l1.length c1] b.w fun e w' => ∃ x : Unit, e = .returned (.int .u32 r) ∧ St b (stl []) w' := by
  unfold shadowboxref02_Go.f at H
  refine enterb (n := 37) Try.func38 rfl (by kernel_rfl) (by kernel_rfl) hs0 ?_
  refine cs_sub (s0) (sub_nil _) ?_
  refine cs_seq ?_
  refine cs_region (l := [_]) ?_
  refine ls_val (v := .int .u32 (0 : Int)) rfl rfl (by kernel_rfl) (fun w => by kernel_rfl) ?_
  refine ls_end ?_
  refine qn_then ?_
  refine cs_seq ?_
  refine cs_region (l := [_, _, _]) ?_
  refine ls_val (v := .int .u32 a0) rfl rfl (by kernel_rfl) (fun w => by kernel_rfl) ?_
  obtain ⟨y1, hy2, H⟩ := lt_some H
  refine ls_val (v := .int .u32 (IntKind.wrap .u32 ((4294967295 : Int) - a0))) rfl rfl (by kernel_rfl) (fun w => by kernel_rfl) ?_
  refine ls_ren 9 (v := .int .u32 (IntKind.wrap .u32 ((4294967295 : Int) - a0))) (v' := .int .u32 y1) (by kernel_rfl) (by rw [hy2]) ?_
  refine ls_val (v := .int .u32 y1) rfl rfl (by kernel_rfl) (fun w => by kernel_rfl) ?_
  refine ls_end ?_
  refine qn_then ?_
  refine cs_seq ?_
  refine cs_seq ?_
  refine cs_region (l := [_]) ?_
  refine ls_val (v := .int .i64 (0 : Int)) rfl rfl (by kernel_rfl) (fun w => by kernel_rfl) ?_
  refine ls_end ?_
  refine qn_then ?_
  refine cs_block ?_
  refine cs_sub (s0) (sub_nil _) ?_
  refine cs_loop (fun kk f S => ∃ (fR : Fr) (x5_1 : Int) (x6_1 : Int), f = upd (upd (upd fR 1 (.slice A1 l1.length c1)) 5 (.int .u32 x5_1)) 6 (.int .i64 x6_1) ∧ S = s0 ∧ shadowboxref02_Go.lo1 l1 kk x5_1 x6_1 = some r) k ?_ ?_ ?_
  · exact ⟨_, y1, (0 : Int), fr_next (fr_next (fr_next (rfl) (by kernel_rfl)) (by kernel_rfl)) (by kernel_rfl), rfl, H⟩
  · rintro f S ⟨fr1, x5_1, x6_1, rfl, rfl, H⟩; cases H
  · rintro k1 f S ⟨fr1, x5_1, x6_1, rfl, rfl, H⟩
    replace H : ((if x6_1 < (l1.length : Int) then (shadowboxref02_Go.jo2 l1 x5_1 x6_1 k1 (shadowboxref02_Go.lo1 l1 k1)) else lt (IntKind.wrap .u32 ((4294967295 : Int) - x5_1)) fun y22 => some y22)) = some r := H
    refine cs_cut (fun f S => ∃ (fR : Fr), f = upd (upd (upd fR 1 (.slice A1 l1.length c1)) 5 (.int .u32 x5_1)) 6 (.int .i64 x6_1) ∧ S = s0 ∧ shadowboxref02_Go.jo2 l1 x5_1 x6_1 k1 (shadowboxref02_Go.lo1 l1 k1) = some r) ?_ ?_
    · skip
      refine cs_seq ?_
      refine cs_region (l := [_, _, _, _]) ?_
      refine ls_val (v := .int .i64 x6_1) rfl rfl (by kernel_rfl) (fun w => by kernel_rfl) ?_
      refine ls_val (v := .slice A1 l1.length c1) rfl rfl (by kernel_rfl) (fun w => by kernel_rfl) ?_
      refine ls_val (v := .int .i64 (l1.length : Int)) rfl rfl (by kernel_rfl) (fun w => by kernel_rfl) ?_
      refine ls_val (v := .bool (decide (x6_1 < (l1.length : Int)))) rfl rfl (by kernel_rfl) (fun w => by kernel_rfl) ?_
      refine ls_end ?_
      refine qn_then ?_
      by_cases q21 : x6_1 < (l1.length : Int)
      · replace H := ite_t q21 H
        refine cs_know (c := true) (dec_t q21) 13 (by kernel_rfl) ?_
        refine cs_true (by kernel_rfl) ?_
        refine cs_skip' ?_
        refine qn_meet (s0) ⟨_, fr_next (fr_next (fr_next (rfl) (by kernel_rfl)) (by kernel_rfl)) (by kernel_rfl), rfl, H⟩ (sub_nil _)
      · replace H := ite_f q21 H
        refine cs_know (c := false) (dec_f q21) 13 (by kernel_rfl) ?_
        refine cs_false (by kernel_rfl) ?_
        refine cs_exit' ?_
        refine qx_then ?_
        refine qx_then ?_
        refine qx_same ?_
        refine qn_then ?_
        refine cs_seq ?_
        refine cs_region (l := [_, _, _]) ?_
        refine ls_val (v := .int .u32 x5_1) rfl rfl (by kernel_rfl) (fun w => by kernel_rfl) ?_
        obtain ⟨y22, hy23, H⟩ := lt_some H
        refine ls_val (v := .int .u32 (IntKind.wrap .u32 ((4294967295 : Int) - x5_1))) rfl rfl (by kernel_rfl) (fun w => by kernel_rfl) ?_
        refine ls_ren 36 (v := .int .u32 (IntKind.wrap .u32 ((4294967295 : Int) - x5_1))) (v' := .int .u32 y22) (by kernel_rfl) (by rw [hy23]) ?_
        refine ls_val (v := .int .u32 y22) rfl rfl (by kernel_rfl) (fun w => by kernel_rfl) ?_
        refine ls_end ?_
        refine qn_then ?_
        refine cs_ret' ?_
        obtain rfl := Option.some.inj H
        refine qr_res (rs := [_]) rfl (fun w' hs => ⟨[.int .u32 y22], (res_tmp (by kernel_rfl) (.nil)), (), rfl, hs.pick (ts := []) (cs := []) trivial (by decide)⟩)
    · rintro f S ⟨fr2, rfl, rfl, H⟩
      replace H : ((if 0 ≤ x6_1 then (if x6_1 < (l1.length : Int) then lt (IntKind.wrap .u32 ((l1).getD (x6_1).toNat (0 : Int))) fun y7 => (shadowboxref02_turn.f k1 x5_1 y7).bind fun t9 => shadowboxref02_Go.lo3 x6_1 (shadowboxref02_Go.lo1 l1 k1) k1 t9 (0 : Int) else none) else none)) = some r := H
      refine cs_seq ?_
      refine cs_block ?_
      refine cs_seq ?_
      refine cs_region (l := [_, _, _, _, _, _, _, _]) ?_
      refine ls_val (v := .int .u32 x5_1) rfl rfl (by kernel_rfl) (fun w => by kernel_rfl) ?_
      refine ls_val (v := .slice A1 l1.length c1) rfl rfl (by kernel_rfl) (fun w => by kernel_rfl) ?_
      refine ls_val (v := .int .i64 x6_1) rfl rfl (by kernel_rfl) (fun w => by kernel_rfl) ?_
      obtain ⟨q3, H⟩ := ite_need H
      obtain ⟨q4, H⟩ := ite_need H
      obtain ⟨ad5, hA6⟩ := ido_at (T := (Ec.int 5 .u8)) (l := l1) (i := x6_1) R1 q3 q4
      refine ls_idxv (Ec.int 5 .u8) (A := A1) (c := c1) (l := l1) (k := .i64) (i := x6_1) (z := 1) (ad := ad5) rfl rfl (by kernel_rfl) hA6 rfl (by kernel_rfl) (by kernel_rfl) (by kernel_rfl) (by kernel_rfl) q3 q4 ?_
      refine ls_load (a0 := (ad5.add ((x6_1).toNat * 1))) (v := .int .u8 ((l1).getD (x6_1).toNat (0 : Int))) (de := (TypeDesc.int .u8)) rfl rfl (by kernel_rfl) rfl (by kernel_rfl) (by kernel_rfl) (by kernel_rfl) (fun w hs => (hs.old R1).at hA6 (em_sub (Ec.int 5 .u8) l1 (i := (x6_1).toNat) (by have h0 : (0 : Int) ≤ x6_1 := q3; have h1 : x6_1 < (l1.length : Int) := q4; omega))) ?_
      obtain ⟨y7, hy8, H⟩ := lt_some H
      refine ls_val (v := .int .u32 (IntKind.wrap .u32 ((l1).getD (x6_1).toNat (0 : Int)))) rfl rfl (by kernel_rfl) (fun w => by kernel_rfl) ?_
      refine ls_ren 21 (v := .int .u32 (IntKind.wrap .u32 ((l1).getD (x6_1).toNat (0 : Int)))) (v' := .int .u32 y7) (by kernel_rfl) (by rw [hy8]) ?_
      obtain ⟨t9, hc10, H⟩ := bind_some H
      refine ls_callb (fid := 49) (vals := #[.int .u32 x5_1, .int .u32 y7]) (X := Unit) (fun x => .int .u32 t9) (fun x => stl []) [] [] [] [] 0 rfl rfl (by kernel_rfl) (fun w => by kernel_rfl) trivial trivial (by decide) (fun w hs hb => shadowboxref02_turn.calls k1 x5_1 y7 t9 (lent b w [] []) hb  hc10) ?_
      intro x11
      refine ls_val (v := .int .u32 t9) rfl rfl (by kernel_rfl) (fun w => by kernel_rfl) ?_
      refine ls_end ?_
      refine qn_then ?_
      refine cs_seq ?_
      refine cs_region (l := [_]) ?_
      refine ls_val (v := .int .i64 (0 : Int)) rfl rfl (by kernel_rfl) (fun w => by kernel_rfl) ?_
      refine ls_end ?_
      refine qn_then ?_
      refine cs_block ?_
      refine cs_sub (s0) (sub_nil _) ?_
      refine cs_loop (fun kk f S => ∃ (fR : Fr) (x5_3 : Int) (x7_3 : Int), f = upd (upd (upd (upd fR 1 (.slice A1 l1.length c1)) 5 (.int .u32 x5_3)) 6 (.int .i64 x6_1)) 7 (.int .i64 x7_3) ∧ S = s0 ∧ shadowboxref02_Go.lo3 x6_1 (shadowboxref02_Go.lo1 l1 k1) kk x5_3 x7_3 = some r) k1 ?_ ?_ ?_
      · exact ⟨_, t9, (0 : Int), fr_next (fr_next (fr_next (fr_next (rfl) (by kernel_rfl)) (by kernel_rfl)) (by kernel_rfl)) (by kernel_rfl), rfl, H⟩
      · rintro f S ⟨fr3, x5_3, x7_3, rfl, rfl, H⟩; cases H
      · rintro k3 f S ⟨fr3, x5_3, x7_3, rfl, rfl, H⟩
        replace H : ((if x7_3 < (8 : Int) then (if (Int.tmod x5_3 (2 : Int)) = (1 : Int) then lt (IntKind.wrap .u32 (Int.tdiv x5_3 (2 : Int))) fun y14 => (shadowboxref02_turn.f k3 y14 (2197175160 : Int)).bind fun t16 => (shadowboxref02_Go.lo3 x6_1 (shadowboxref02_Go.lo1 l1 k1) k3) t16 (IntKind.wrap .i64 (x7_3 + (1 : Int))) else lt (IntKind.wrap .u32 (Int.tdiv x5_3 (2 : Int))) fun y19 => (shadowboxref02_Go.lo3 x6_1 (shadowboxref02_Go.lo1 l1 k1) k3) y19 (IntKind.wrap .i64 (x7_3 + (1 : Int)))) else (shadowboxref02_Go.lo1 l1 k1) x5_3 (IntKind.wrap .i64 (x6_1 + (1 : Int))))) = some r := H
        refine cs_seq ?_
        refine cs_seq ?_
        refine cs_region (l := [_, _]) ?_
        refine ls_val (v := .int .i64 x7_3) rfl rfl (by kernel_rfl) (fun w => by kernel_rfl) ?_
        refine ls_val (v := .bool (decide (x7_3 < (8 : Int)))) rfl rfl (by kernel_rfl) (fun w => by kernel_rfl) ?_
        refine ls_end ?_
        refine qn_then ?_
        by_cases q12 : x7_3 < (8 : Int)
        · replace H := ite_t q12 H
          refine cs_know (c := true) (dec_t q12) 24 (by kernel_rfl) ?_
          refine cs_true (by kernel_rfl) ?_
          refine cs_skip' ?_
          refine qn_then ?_
          refine cs_seq ?_
          refine cs_block ?_
          refine cs_seq ?_
          refine cs_region (l := [_, _, _]) ?_
          refine ls_val (v := .int .u32 x5_3) rfl rfl (by kernel_rfl) (fun w => by kernel_rfl) ?_
          refine ls_val (v := .int .u32 (Int.tmod x5_3 (2 : Int))) rfl rfl (by kernel_rfl) (fun w => by kernel_rfl) ?_
          refine ls_val (v := .bool (decide ((Int.tmod x5_3 (2 : Int)) = (1 : Int)))) rfl rfl (by kernel_rfl) (fun w => by kernel_rfl) ?_
          refine ls_end ?_
          refine qn_then ?_
          by_cases q13 : (Int.tmod x5_3 (2 : Int)) = (1 : Int)
          · replace H := ite_t q13 H
            refine cs_know (c := true) (dec_t q13) 29 (by kernel_rfl) ?_
            refine cs_true (by kernel_rfl) ?_
            refine cs_region (l := [_, _, _, _]) ?_
            refine ls_val (v := .int .u32 x5_3) rfl rfl (by kernel_rfl) (fun w => by kernel_rfl) ?_
            obtain ⟨y14, hy15, H⟩ := lt_some H
            refine ls_val (v := .int .u32 (IntKind.wrap .u32 (Int.tdiv x5_3 (2 : Int)))) rfl rfl (by kernel_rfl) (fun w => by kernel_rfl) ?_
            refine ls_ren 31 (v := .int .u32 (IntKind.wrap .u32 (Int.tdiv x5_3 (2 : Int)))) (v' := .int .u32 y14) (by kernel_rfl) (by rw [hy15]) ?_
            obtain ⟨t16, hc17, H⟩ := bind_some H
            refine ls_callb (fid := 49) (vals := #[.int .u32 y14, .int .u32 (2197175160 : Int)]) (X := Unit) (fun x => .int .u32 t16) (fun x => stl []) [] [] [] [] 0 rfl rfl (by kernel_rfl) (fun w => by kernel_rfl) trivial trivial (by decide) (fun w hs hb => shadowboxref02_turn.calls k3 y14 (2197175160 : Int) t16 (lent b w [] []) hb  hc17) ?_
            intro x18
            refine ls_val (v := .int .u32 t16) rfl rfl (by kernel_rfl) (fun w => by kernel_rfl) ?_
            refine ls_end ?_
            refine qn_block ?_
            refine qn_then ?_
            refine cs_region (l := [_, _, _]) ?_
            refine ls_val (v := .int .i64 x7_3) rfl rfl (by kernel_rfl) (fun w => by kernel_rfl) ?_
            refine ls_val (v := .int .i64 (IntKind.wrap .i64 (x7_3 + (1 : Int)))) rfl rfl (by kernel_rfl) (fun w => by kernel_rfl) ?_
            refine ls_val (v := .int .i64 (IntKind.wrap .i64 (x7_3 + (1 : Int)))) rfl rfl (by kernel_rfl) (fun w => by kernel_rfl) ?_
            refine ls_end ?_
            refine qn_again k3 (s0) (Nat.le_refl _) ⟨_, t16, (IntKind.wrap .i64 (x7_3 + (1 : Int))), fr_next (fr_next (fr_next (fr_next (rfl) (by kernel_rfl)) (by kernel_rfl)) (by kernel_rfl)) (by kernel_rfl), rfl, H⟩ (sub_nil _)
          · replace H := ite_f q13 H
            refine cs_know (c := false) (dec_f q13) 29 (by kernel_rfl) ?_
            refine cs_false (by kernel_rfl) ?_
            refine cs_region (l := [_, _, _]) ?_
            refine ls_val (v := .int .u32 x5_3) rfl rfl (by kernel_rfl) (fun w => by kernel_rfl) ?_
            obtain ⟨y19, hy20, H⟩ := lt_some H
            refine ls_val (v := .int .u32 (IntKind.wrap .u32 (Int.tdiv x5_3 (2 : Int)))) rfl rfl (by kernel_rfl) (fun w => by kernel_rfl) ?_
            refine ls_ren 34 (v := .int .u32 (IntKind.wrap .u32 (Int.tdiv x5_3 (2 : Int)))) (v' := .int .u32 y19) (by kernel_rfl) (by rw [hy20]) ?_
            refine ls_val (v := .int .u32 y19) rfl rfl (by kernel_rfl) (fun w => by kernel_rfl) ?_
            refine ls_end ?_
            refine qn_block ?_
            refine qn_then ?_
            refine cs_region (l := [_, _, _]) ?_
            refine ls_val (v := .int .i64 x7_3) rfl rfl (by kernel_rfl) (fun w => by kernel_rfl) ?_
            refine ls_val (v := .int .i64 (IntKind.wrap .i64 (x7_3 + (1 : Int)))) rfl rfl (by kernel_rfl) (fun w => by kernel_rfl) ?_
            refine ls_val (v := .int .i64 (IntKind.wrap .i64 (x7_3 + (1 : Int)))) rfl rfl (by kernel_rfl) (fun w => by kernel_rfl) ?_
            refine ls_end ?_
            refine qn_again k3 (s0) (Nat.le_refl _) ⟨_, y19, (IntKind.wrap .i64 (x7_3 + (1 : Int))), fr_next (fr_next (fr_next (fr_next (rfl) (by kernel_rfl)) (by kernel_rfl)) (by kernel_rfl)) (by kernel_rfl), rfl, H⟩ (sub_nil _)
        · replace H := ite_f q12 H
          refine cs_know (c := false) (dec_f q12) 24 (by kernel_rfl) ?_
          refine cs_false (by kernel_rfl) ?_
          refine cs_exit' ?_
          refine qx_then ?_
          refine qx_then ?_
          refine qx_same ?_
          refine qn_block ?_
          refine qn_then ?_
          refine cs_region (l := [_, _, _]) ?_
          refine ls_val (v := .int .i64 x6_1) rfl rfl (by kernel_rfl) (fun w => by kernel_rfl) ?_
          refine ls_val (v := .int .i64 (IntKind.wrap .i64 (x6_1 + (1 : Int)))) rfl rfl (by kernel_rfl) (fun w => by kernel_rfl) ?_
          refine ls_val (v := .int .i64 (IntKind.wrap .i64 (x6_1 + (1 : Int)))) rfl rfl (by kernel_rfl) (fun w => by kernel_rfl) ?_
          refine ls_end ?_
          refine qn_again k1 (s0) (Nat.le_refl _) ⟨_, x5_3, (IntKind.wrap .i64 (x6_1 + (1 : Int))), fr_next (fr_next (fr_next (rfl) (by kernel_rfl)) (by kernel_rfl)) (by kernel_rfl), rfl, H⟩ (sub_nil _)

/-! ### shadowbox/shadowboxref08.in: function 55 -/
def shadowboxref08_in.f (k : Nat) (a0 : Int) : Option (Bool) :=
  (if a0 ≥ (1 : Int) then some (decide (a0 ≤ (1152921504606846976 : Int))) else some false)
set_option maxRecDepth 100000 in
set_option maxHeartbeats 4000000 in
theorem shadowboxref08_in.calls (k : Nat) (a0 : Int) (r : Bool) (b : Bs) (hs0 : St b (stl []) b.w) (H : shadowboxref08_in.f k a0 = some r) :
    Calls Try.prog 55 #[.int .i64 a0] b.w fun e w' => ∃ x : Unit, e = .returned (.bool r) ∧ St b (stl []) w' := by
  unfold shadowboxref08_in.f at H
  refine enterb (n := 9) Try.func55 rfl (by kernel_rfl) (by kernel_rfl) hs0 ?_
  refine cs_sub (s0) (sub_nil _) ?_
  refine cs_seq ?_
  refine cs_region (l := [_]) ?_
  refine ls_val (v := .bool false) rfl rfl (by kernel_rfl) (fun w => by kernel_rfl) ?_
  refine ls_end ?_
  refine qn_then ?_
  refine cs_seq ?_
  refine cs_region (l := [_, _, _, _, _, _, _]) ?_
  refine ls_val (v := .int .i64 a0) rfl rfl (by kernel_rfl) (fun w => by kernel_rfl) ?_
  refine ls_val (v := .bool (decide (a0 ≥ (1 : Int)))) rfl rfl (by kernel_rfl) (fun w => by kernel_rfl) ?_
  refine ls_val (v := .bool (decide (a0 ≥ (1 : Int)))) rfl rfl (by kernel_rfl) (fun w => by kernel_rfl) ?_
  by_cases q1 : a0 ≥ (1 : Int)
  · replace H := ite_t q1 H
    refine ls_know (c := true) (dec_t q1) 5 (by kernel_rfl) ?_
    refine ls_on (j := 2) (t := 5) (b := true) rfl rfl (by kernel_rfl) (by kernel_rfl) ?_
    refine ls_val (v := .int .i64 a0) rfl rfl (by kernel_rfl) (fun w => by kernel_rfl) ?_
    refine ls_on (j := 2) (t := 5) (b := true) rfl rfl (by kernel_rfl) (by kernel_rfl) ?_
    refine ls_val (v := .bool (decide (a0 ≤ (1152921504606846976 : Int)))) rfl rfl (by kernel_rfl) (fun w => by kernel_rfl) ?_
    refine ls_val (v := .bool (decide (a0 ≤ (1152921504606846976 : Int)))) rfl rfl (by kernel_rfl) (fun w => by kernel_rfl) ?_
    refine ls_val (v := .bool (decide (a0 ≤ (1152921504606846976 : Int)))) rfl rfl (by kernel_rfl) (fun w => by kernel_rfl) ?_
    refine ls_end ?_
    refine qn_then ?_
    refine cs_ret' ?_
    obtain rfl := Option.some.inj H
    refine qr_res (rs := [_]) rfl (fun w' hs => ⟨[.bool (decide (a0 ≤ (1152921504606846976 : Int)))], (res_tmp (by kernel_rfl) (.nil)), (), rfl, hs.pick (ts := []) (cs := []) trivial (by decide)⟩)
  · replace H := ite_f q1 H
    refine ls_know (c := false) (dec_f q1) 5 (by kernel_rfl) ?_
    refine ls_off (j := 2) (t := 5) (b := true) (c := false) rfl rfl (by kernel_rfl) (by kernel_rfl) rfl rfl (by kernel_rfl) ?_
    refine ls_off (j := 2) (t := 5) (b := true) (c := false) rfl rfl (by kernel_rfl) (by kernel_rfl) rfl rfl (by kernel_rfl) ?_
    refine ls_val (v := .bool false) rfl rfl (by kernel_rfl) (fun w => by kernel_rfl) ?_
    refine ls_val (v := .bool false) rfl rfl (by kernel_rfl) (fun w => by kernel_rfl) ?_
    refine ls_end ?_
    refine qn_then ?_
    refine cs_ret' ?_
    obtain rfl := Option.some.inj H
    refine qr_res (rs := [_]) rfl (fun w' hs => ⟨[.bool false], (res_tmp (by kernel_rfl) (.nil)), (), rfl, hs.pick (ts := []) (cs := []) trivial (by decide)⟩)

/-! ### shadowbox/shadowboxref08.Right: function 42 -/
def shadowboxref08_Right.f (k : Nat) (a0 : (Int × (Int × Int × Int × Int × (Vc Int 32)) × Int)) : Option (Bool) :=
  (shadowboxref08_in.f k a0.1).bind fun t2 => (if t2 = true then (shadowboxref08_in.f k a0.2.2).bind fun t6 => (if t6 = true then (shadowboxref06_None.f k a0.2.1).bind fun t10 => (if t10 = true then some true else (shadowboxref06_Right.f k a0.2.1).bind fun t14 => (if t14 = true then some (decide (a0.2.1.2.1 ≤ a0.1)) else some false)) else some false) else some false)
set_option maxRecDepth 100000 in
set_option maxHeartbeats 4000000 in
theorem shadowboxref08_Right.calls (k : Nat) (a0 : (Int × (Int × Int × Int × Int × (Vc Int 32)) × Int)) (r : Bool) (b : Bs) (hs0 : St b (stl []) b.w) (H : shadowboxref08_Right.f k a0 = some r) :
    Calls Try.prog 42 #[.agg ⟨([Value.int .i64 a0.1] ++ (([Value.int .i64 a0.2.1.1] ++ ([Value.int .i64 a0.2.1.2.1] ++ ([Value.int .i64 a0.2.1.2.2.1] ++ ([Value.int .u32 a0.2.1.2.2.2.1] ++ en (Value.int .u8) a0.2.1.2.2.2.2.1)))) ++ [Value.int .i64 a0.2.2]))⟩] b.w fun e w' => ∃ x : Unit, e = .returned (.bool r) ∧ St b (stl []) w' := by
  unfold shadowboxref08_Right.f at H
  refine enterb (n := 29) Try.func42 rfl (by kernel_rfl) (by kernel_rfl) hs0 ?_
  refine cs_sub (s0) (sub_nil _) ?_
  refine cs_seq ?_
  refine cs_region (l := [_, _]) ?_
  refine ls_new rfl rfl (by kernel_rfl) 0 (fun g => .pointer (some ⟨g, 0, none⟩)) (.cells ⟨([Value.int .i64 a0.1] ++ (([Value.int .i64 a0.2.1.1] ++ ([Value.int .i64 a0.2.1.2.1] ++ ([Value.int .i64 a0.2.1.2.2.1] ++ ([Value.int .u32 a0.2.1.2.2.2.1] ++ en (Value.int .u8) a0.2.1.2.2.2.2.1)))) ++ [Value.int .i64 a0.2.2]))⟩ 47) (fun w => by kernel_rfl) ?_
  intro g1
  refine ls_val (v := .bool false) rfl rfl (by kernel_rfl) (fun w => by kernel_rfl) ?_
  refine ls_end ?_
  refine qn_then ?_
  refine cs_seq ?_
  refine cs_region (l := [_, _, _, _, _, _, _, _, _, _, _, _, _, _, _, _, _, _, _, _, _, _, _, _, _, _, _]) ?_
  refine ls_val (v := .pointer (some ⟨g1, (0 + 0), none⟩)) rfl rfl (by kernel_rfl) (fun w => by kernel_rfl) ?_
  refine ls_load (a0 := ⟨g1, (0 + 0), none⟩) (v := .int .i64 a0.1) (de := (TypeDesc.int .i64)) rfl rfl (by kernel_rfl) rfl (by kernel_rfl) (by kernel_rfl) (by kernel_rfl) (fun w hs => (hs.var (k := 0) (by exact rfl) (Sub4.trans (Sub4.all _) (Sub4.head _ _)))) ?_
  obtain ⟨t2, hc3, H⟩ := bind_some H
  refine ls_callb (fid := 55) (vals := #[.int .i64 a0.1]) (X := Unit) (fun x => .bool t2) (fun x => stl []) [] [] [] [] 1 rfl rfl (by kernel_rfl) (fun w => by kernel_rfl) trivial trivial (by decide) (fun w hs hb => shadowboxref08_in.calls k a0.1 t2 (lent b w [] []) hb  hc3) ?_
  intro x4
  refine ls_val (v := .bool t2) rfl rfl (by kernel_rfl) (fun w => by kernel_rfl) ?_
  by_cases q5 : t2 = true
  · replace H := ite_t q5 H
    refine ls_know (c := true) (q5) 6 (by kernel_rfl) ?_
    refine ls_on (j := 3) (t := 6) (b := true) rfl rfl (by kernel_rfl) (by kernel_rfl) ?_
    refine ls_val (v := .pointer (some ⟨g1, (0 + 37), none⟩)) rfl rfl (by kernel_rfl) (fun w => by kernel_rfl) ?_
    refine ls_on (j := 3) (t := 6) (b := true) rfl rfl (by kernel_rfl) (by kernel_rfl) ?_
    refine ls_load (a0 := ⟨g1, (0 + 37), none⟩) (v := .int .i64 a0.2.2) (de := (TypeDesc.int .i64)) rfl rfl (by kernel_rfl) rfl (by kernel_rfl) (by kernel_rfl) (by kernel_rfl) (fun w hs => (hs.var (k := 0) (by exact rfl) (Sub4.trans (Sub4.all _) (Sub4.skip (n := 1) (len1 _) (Sub4.skip (n := 36) (len_app (len1 _) (len_app (len1 _) (len_app (len1 _) (len_app (len1 _) (len_en _ a0.2.1.2.2.2.2))))) (Sub4.all _)))))) ?_
    refine ls_on (j := 3) (t := 6) (b := true) rfl rfl (by kernel_rfl) (by kernel_rfl) ?_
    obtain ⟨t6, hc7, H⟩ := bind_some H
    refine ls_callb (fid := 55) (vals := #[.int .i64 a0.2.2]) (X := Unit) (fun x => .bool t6) (fun x => stl []) [] [] [] [] 1 rfl rfl (by kernel_rfl) (fun w => by kernel_rfl) trivial trivial (by decide) (fun w hs hb => shadowboxref08_in.calls k a0.2.2 t6 (lent b w [] []) hb  hc7) ?_
    intro x8
    refine ls_val (v := .bool t6) rfl rfl (by kernel_rfl) (fun w => by kernel_rfl) ?_
    refine ls_val (v := .bool t6) rfl rfl (by kernel_rfl) (fun w => by kernel_rfl) ?_
    by_cases q9 : t6 = true
    · replace H := ite_t q9 H
      refine ls_know (c := true) (q9) 11 (by kernel_rfl) ?_
      refine ls_on (j := 8) (t := 11) (b := true) rfl rfl (by kernel_rfl) (by kernel_rfl) ?_
      refine ls_val (v := .pointer (some ⟨g1, (0 + 1), none⟩)) rfl rfl (by kernel_rfl) (fun w => by kernel_rfl) ?_
      refine ls_on (j := 8) (t := 11) (b := true) rfl rfl (by kernel_rfl) (by kernel_rfl) ?_
      refine ls_loadagg (a := ⟨g1, (0 + 1), none⟩) (sub := ([Value.int .i64 a0.2.1.1] ++ ([Value.int .i64 a0.2.1.2.1] ++ ([Value.int .i64 a0.2.1.2.2.1] ++ ([Value.int .u32 a0.2.1.2.2.2.1] ++ en (Value.int .u8) a0.2.1.2.2.2.2.1))))) rfl rfl (by kernel_rfl) rfl (by kernel_rfl) (by kernel_rfl) (by kernel_rfl) (len_app (len1 _) (len_app (len1 _) (len_app (len1 _) (len_app (len1 _) (len_en _ a0.2.1.2.2.2.2))))) (fun w hs => (hs.vars (k := 0) (by exact rfl) (Sub4.trans (Sub4.all _) (Sub4.skip (n := 1) (len1 _) (Sub4.head _ _))))) ?_
      refine ls_on (j := 8) (t := 11) (b := true) rfl rfl (by kernel_rfl) (by kernel_rfl) ?_
      obtain ⟨t10, hc11, H⟩ := bind_some H
      refine ls_callb (fid := 13) (vals := #[.agg ⟨([Value.int .i64 a0.2.1.1] ++ ([Value.int .i64 a0.2.1.2.1] ++ ([Value.int .i64 a0.2.1.2.2.1] ++ ([Value.int .u32 a0.2.1.2.2.2.1] ++ en (Value.int .u8) a0.2.1.2.2.2.2.1))))⟩]) (X := Unit) (fun x => .bool t10) (fun x => stl []) [] [] [] [] 1 rfl rfl (by kernel_rfl) (fun w => by kernel_rfl) trivial trivial (by decide) (fun w hs hb => shadowboxref06_None.calls k a0.2.1 t10 (lent b w [] []) hb  hc11) ?_
      intro x12
      refine ls_on (j := 8) (t := 11) (b := true) rfl rfl (by kernel_rfl) (by kernel_rfl) ?_
      refine ls_val (v := .bool t10) rfl rfl (by kernel_rfl) (fun w => by kernel_rfl) ?_
      by_cases q13 : t10 = true
      · replace H := ite_t q13 H
        refine ls_know (c := true) (q13) 15 (by kernel_rfl) ?_
        refine ls_off (j := 12) (t := 15) (b := false) (c := true) rfl rfl (by kernel_rfl) (by kernel_rfl) rfl rfl (by kernel_rfl) ?_
        refine ls_off (j := 12) (t := 15) (b := false) (c := true) rfl rfl (by kernel_rfl) (by kernel_rfl) rfl rfl (by kernel_rfl) ?_
        refine ls_off (j := 12) (t := 15) (b := false) (c := true) rfl rfl (by kernel_rfl) (by kernel_rfl) rfl rfl (by kernel_rfl) ?_
        refine ls_off (j := 12) (t := 15) (b := false) (c := true) rfl rfl (by kernel_rfl) (by kernel_rfl) rfl rfl (by kernel_rfl) ?_
        refine ls_offu (j := 16) (t := 19) (b := true) rfl rfl (by kernel_rfl) (by kernel_rfl) rfl (by kernel_rfl) ?_
        refine ls_offu (j := 16) (t := 19) (b := true) rfl rfl (by kernel_rfl) (by kernel_rfl) rfl (by kernel_rfl) ?_
        refine ls_offu (j := 16) (t := 19) (b := true) rfl rfl (by kernel_rfl) (by kernel_rfl) rfl (by kernel_rfl) ?_
        refine ls_offu (j := 16) (t := 19) (b := true) rfl rfl (by kernel_rfl) (by kernel_rfl) rfl (by kernel_rfl) ?_
        refine ls_offu (j := 16) (t := 19) (b := true) rfl rfl (by kernel_rfl) (by kernel_rfl) rfl (by kernel_rfl) ?_
        refine ls_offu (j := 16) (t := 19) (b := true) rfl rfl (by kernel_rfl) (by kernel_rfl) rfl (by kernel_rfl) ?_
        refine ls_off (j := 12) (t := 15) (b := false) (c := true) rfl rfl (by kernel_rfl) (by kernel_rfl) rfl rfl (by kernel_rfl) ?_
        refine ls_on (j := 8) (t := 11) (b := true) rfl rfl (by kernel_rfl) (by kernel_rfl) ?_
        refine ls_val (v := .bool true) rfl rfl (by kernel_rfl) (fun w => by kernel_rfl) ?_
        refine ls_val (v := .bool true) rfl rfl (by kernel_rfl) (fun w => by kernel_rfl) ?_
        refine ls_val (v := .bool true) rfl rfl (by kernel_rfl) (fun w => by kernel_rfl) ?_
        refine ls_end ?_
        refine qn_then ?_
        refine cs_ret' ?_
        obtain rfl := Option.some.inj H
        refine qr_res (rs := [_]) rfl (fun w' hs => ⟨[.bool true], (res_tmp (by kernel_rfl) (.nil)), (), rfl, hs.pick (ts := []) (cs := []) trivial (by decide)⟩)
      · replace H := ite_f q13 H
        refine ls_know (c := false) (Bool.eq_false_iff.mpr q13) 15 (by kernel_rfl) ?_
        refine ls_on (j := 12) (t := 15) (b := false) rfl rfl (by kernel_rfl) (by kernel_rfl) ?_
        refine ls_val (v := .pointer (some ⟨g1, (0 + 1), none⟩)) rfl rfl (by kernel_rfl) (fun w => by kernel_rfl) ?_
        refine ls_on (j := 12) (t := 15) (b := false) rfl rfl (by kernel_rfl) (by kernel_rfl) ?_
        refine ls_loadagg (a := ⟨g1, (0 + 1), none⟩) (sub := ([Value.int .i64 a0.2.1.1] ++ ([Value.int .i64 a0.2.1.2.1] ++ ([Value.int .i64 a0.2.1.2.2.1] ++ ([Value.int .u32 a0.2.1.2.2.2.1] ++ en (Value.int .u8) a0.2.1.2.2.2.2.1))))) rfl rfl (by kernel_rfl) rfl (by kernel_rfl) (by kernel_rfl) (by kernel_rfl) (len_app (len1 _) (len_app (len1 _) (len_app (len1 _) (len_app (len1 _) (len_en _ a0.2.1.2.2.2.2))))) (fun w hs => (hs.vars (k := 0) (by exact rfl) (Sub4.trans (Sub4.all _) (Sub4.skip (n := 1) (len1 _) (Sub4.head _ _))))) ?_
        refine ls_on (j := 12) (t := 15) (b := false) rfl rfl (by kernel_rfl) (by kernel_rfl) ?_
        obtain ⟨t14, hc15, H⟩ := bind_some H
        refine ls_callb (fid := 15) (vals := #[.agg ⟨([Value.int .i64 a0.2.1.1] ++ ([Value.int .i64 a0.2.1.2.1] ++ ([Value.int .i64 a0.2.1.2.2.1] ++ ([Value.int .u32 a0.2.1.2.2.2.1] ++ en (Value.int .u8) a0.2.1.2.2.2.2.1))))⟩]) (X := Unit) (fun x => .bool t14) (fun x => stl []) [] [] [] [] 1 rfl rfl (by kernel_rfl) (fun w => by kernel_rfl) trivial trivial (by decide) (fun w hs hb => shadowboxref06_Right.calls k a0.2.1 t14 (lent b w [] []) hb  hc15) ?_
        intro x16
        refine ls_on (j := 12) (t := 15) (b := false) rfl rfl (by kernel_rfl) (by kernel_rfl) ?_
        refine ls_val (v := .bool t14) rfl rfl (by kernel_rfl) (fun w => by kernel_rfl) ?_
        by_cases q17 : t14 = true
        · replace H := ite_t q17 H
          refine ls_know (c := true) (q17) 19 (by kernel_rfl) ?_
          refine ls_on (j := 16) (t := 19) (b := true) rfl rfl (by kernel_rfl) (by kernel_rfl) ?_
          refine ls_val (v := .pointer (some ⟨g1, (0 + 1), none⟩)) rfl rfl (by kernel_rfl) (fun w => by kernel_rfl) ?_
          refine ls_on (j := 16) (t := 19) (b := true) rfl rfl (by kernel_rfl) (by kernel_rfl) ?_
          refine ls_val (v := .pointer (some ⟨g1, ((0 + 1) + 1), none⟩)) rfl rfl (by kernel_rfl) (fun w => by kernel_rfl) ?_
          refine ls_on (j := 16) (t := 19) (b := true) rfl rfl (by kernel_rfl) (by kernel_rfl) ?_
          refine ls_load (a0 := ⟨g1, ((0 + 1) + 1), none⟩) (v := .int .i64 a0.2.1.2.1) (de := (TypeDesc.int .i64)) rfl rfl (by kernel_rfl) rfl (by kernel_rfl) (by kernel_rfl) (by kernel_rfl) (fun w hs => (hs.var (k := 0) (by exact rfl) (Sub4.trans (Sub4.trans (Sub4.all _) (Sub4.skip (n := 1) (len1 _) (Sub4.head _ _))) (Sub4.skip (n := 1) (len1 _) (Sub4.head _ _))))) ?_
          refine ls_on (j := 16) (t := 19) (b := true) rfl rfl (by kernel_rfl) (by kernel_rfl) ?_
          refine ls_val (v := .pointer (some ⟨g1, (0 + 0), none⟩)) rfl rfl (by kernel_rfl) (fun w => by kernel_rfl) ?_
          refine ls_on (j := 16) (t := 19) (b := true) rfl rfl (by kernel_rfl) (by kernel_rfl) ?_
          refine ls_load (a0 := ⟨g1, (0 + 0), none⟩) (v := .int .i64 a0.1) (de := (TypeDesc.int .i64)) rfl rfl (by kernel_rfl) rfl (by kernel_rfl) (by kernel_rfl) (by kernel_rfl) (fun w hs => (hs.var (k := 0) (by exact rfl) (Sub4.trans (Sub4.all _) (Sub4.head _ _)))) ?_
          refine ls_on (j := 16) (t := 19) (b := true) rfl rfl (by kernel_rfl) (by kernel_rfl) ?_
          refine ls_val (v := .bool (decide (a0.2.1.2.1 ≤ a0.1))) rfl rfl (by kernel_rfl) (fun w => by kernel_rfl) ?_
          refine ls_on (j := 12) (t := 15) (b := false) rfl rfl (by kernel_rfl) (by kernel_rfl) ?_
          refine ls_val (v := .bool (decide (a0.2.1.2.1 ≤ a0.1))) rfl rfl (by kernel_rfl) (fun w => by kernel_rfl) ?_
          refine ls_on (j := 8) (t := 11) (b := true) rfl rfl (by kernel_rfl) (by kernel_rfl) ?_
          refine ls_val (v := .bool (decide (a0.2.1.2.1 ≤ a0.1))) rfl rfl (by kernel_rfl) (fun w => by kernel_rfl) ?_
          refine ls_val (v := .bool (decide (a0.2.1.2.1 ≤ a0.1))) rfl rfl (by kernel_rfl) (fun w => by kernel_rfl) ?_
          refine ls_val (v := .bool (decide (a0.2.1.2.1 ≤ a0.1))) rfl rfl (by kernel_rfl) (fun w => by kernel_rfl) ?_
          refine ls_end ?_
          refine qn_then ?_
          refine cs_ret' ?_
          obtain rfl := Option.some.inj H
          refine qr_res (rs := [_]) rfl (fun w' hs => ⟨[.bool (decide (a0.2.1.2.1 ≤ a0.1))], (res_tmp (by kernel_rfl) (.nil)), (), rfl, hs.pick (ts := []) (cs := []) trivial (by decide)⟩)
        · replace H := ite_f q17 H
          refine ls_know (c := false) (Bool.eq_false_iff.mpr q17) 19 (by kernel_rfl) ?_
          refine ls_off (j := 16) (t := 19) (b := true) (c := false) rfl rfl (by kernel_rfl) (by kernel_rfl) rfl rfl (by kernel_rfl) ?_
          refine ls_off (j := 16) (t := 19) (b := true) (c := false) rfl rfl (by kernel_rfl) (by kernel_rfl) rfl rfl (by kernel_rfl) ?_
          refine ls_off (j := 16) (t := 19) (b := true) (c := false) rfl rfl (by kernel_rfl) (by kernel_rfl) rfl rfl (by kernel_rfl) ?_
          refine ls_off (j := 16) (t := 19) (b := true) (c := false) rfl rfl (by kernel_rfl) (by kernel_rfl) rfl rfl (by kernel_rfl) ?_
          refine ls_off (j := 16) (t := 19) (b := true) (c := false) rfl rfl (by kernel_rfl) (by kernel_rfl) rfl rfl (by kernel_rfl) ?_
          refine ls_off (j := 16) (t := 19) (b := true) (c := false) rfl rfl (by kernel_rfl) (by kernel_rfl) rfl rfl (by kernel_rfl) ?_
          refine ls_on (j := 12) (t := 15) (b := false) rfl rfl (by kernel_rfl) (by kernel_rfl) ?_
          refine ls_val (v := .bool false) rfl rfl (by kernel_rfl) (fun w => by kernel_rfl) ?_
          refine ls_on (j := 8) (t := 11) (b := true) rfl rfl (by kernel_rfl) (by kernel_rfl) ?_
          refine ls_val (v := .bool false) rfl rfl (by kernel_rfl) (fun w => by kernel_rfl) ?_
          refine ls_val (v := .bool false) rfl rfl (by kernel_rfl) (fun w => by kernel_rfl) ?_
          refine ls_val (v := .bool false) rfl rfl (by kernel_rfl) (fun w => by kernel_rfl) ?_
          refine ls_end ?_
          refine qn_then ?_
          refine cs_ret' ?_
          obtain rfl := Option.some.inj H
          refine qr_res (rs := [_]) rfl (fun w' hs => ⟨[.bool false], (res_tmp (by kernel_rfl) (.nil)), (), rfl, hs.pick (ts := []) (cs := []) trivial (by decide)⟩)
    · replace H := ite_f q9 H
      refine ls_know (c := false) (Bool.eq_false_iff.mpr q9) 11 (by kernel_rfl) ?_
      refine ls_off (j := 8) (t := 11) (b := true) (c := false) rfl rfl (by kernel_rfl) (by kernel_rfl) rfl rfl (by kernel_rfl) ?_
      refine ls_off (j := 8) (t := 11) (b := true) (c := false) rfl rfl (by kernel_rfl) (by kernel_rfl) rfl rfl (by kernel_rfl) ?_
      refine ls_off (j := 8) (t := 11) (b := true) (c := false) rfl rfl (by kernel_rfl) (by kernel_rfl) rfl rfl (by kernel_rfl) ?_
      refine ls_off (j := 8) (t := 11) (b := true) (c := false) rfl rfl (by kernel_rfl) (by kernel_rfl) rfl rfl (by kernel_rfl) ?_
      refine ls_offu (j := 12) (t := 15) (b := false) rfl rfl (by kernel_rfl) (by kernel_rfl) rfl (by kernel_rfl) ?_
      refine ls_offu (j := 12) (t := 15) (b := false) rfl rfl (by kernel_rfl) (by kernel_rfl) rfl (by kernel_rfl) ?_
      refine ls_offu (j := 12) (t := 15) (b := false) rfl rfl (by kernel_rfl) (by kernel_rfl) rfl (by kernel_rfl) ?_
      refine ls_offu (j := 12) (t := 15) (b := false) rfl rfl (by kernel_rfl) (by kernel_rfl) rfl (by kernel_rfl) ?_
      refine ls_offu (j := 16) (t := 19) (b := true) rfl rfl (by kernel_rfl) (by kernel_rfl) rfl (by kernel_rfl) ?_
      refine ls_offu (j := 16) (t := 19) (b := true) rfl rfl (by kernel_rfl) (by kernel_rfl) rfl (by kernel_rfl) ?_
      refine ls_offu (j := 16) (t := 19) (b := true) rfl rfl (by kernel_rfl) (by kernel_rfl) rfl (by kernel_rfl) ?_
      refine ls_offu (j := 16) (t := 19) (b := true) rfl rfl (by kernel_rfl) (by kernel_rfl) rfl (by kernel_rfl) ?_
      refine ls_offu (j := 16) (t := 19) (b := true) rfl rfl (by kernel_rfl) (by kernel_rfl) rfl (by kernel_rfl) ?_
      refine ls_offu (j := 16) (t := 19) (b := true) rfl rfl (by kernel_rfl) (by kernel_rfl) rfl (by kernel_rfl) ?_
      refine ls_offu (j := 12) (t := 15) (b := false) rfl rfl (by kernel_rfl) (by kernel_rfl) rfl (by kernel_rfl) ?_
      refine ls_off (j := 8) (t := 11) (b := true) (c := false) rfl rfl (by kernel_rfl) (by kernel_rfl) rfl rfl (by kernel_rfl) ?_
      refine ls_val (v := .bool false) rfl rfl (by kernel_rfl) (fun w => by kernel_rfl) ?_
      refine ls_val (v := .bool false) rfl rfl (by kernel_rfl) (fun w => by kernel_rfl) ?_
      refine ls_end ?_
      refine qn_then ?_
      refine cs_ret' ?_
      obtain rfl := Option.some.inj H
      refine qr_res (rs := [_]) rfl (fun w' hs => ⟨[.bool false], (res_tmp (by kernel_rfl) (.nil)), (), rfl, hs.pick (ts := []) (cs := []) trivial (by decide)⟩)
  · replace H := ite_f q5 H
    refine ls_know (c := false) (Bool.eq_false_iff.mpr q5) 6 (by kernel_rfl) ?_
    refine ls_off (j := 3) (t := 6) (b := true) (c := false) rfl rfl (by kernel_rfl) (by kernel_rfl) rfl rfl (by kernel_rfl) ?_
    refine ls_off (j := 3) (t := 6) (b := true) (c := false) rfl rfl (by kernel_rfl) (by kernel_rfl) rfl rfl (by kernel_rfl) ?_
    refine ls_off (j := 3) (t := 6) (b := true) (c := false) rfl rfl (by kernel_rfl) (by kernel_rfl) rfl rfl (by kernel_rfl) ?_
    refine ls_val (v := .bool false) rfl rfl (by kernel_rfl) (fun w => by kernel_rfl) ?_
    refine ls_val (v := .bool false) rfl rfl (by kernel_rfl) (fun w => by kernel_rfl) ?_
    refine ls_off (j := 8) (t := 11) (b := true) (c := false) rfl rfl (by kernel_rfl) (by kernel_rfl) rfl rfl (by kernel_rfl) ?_
    refine ls_off (j := 8) (t := 11) (b := true) (c := false) rfl rfl (by kernel_rfl) (by kernel_rfl) rfl rfl (by kernel_rfl) ?_
    refine ls_off (j := 8) (t := 11) (b := true) (c := false) rfl rfl (by kernel_rfl) (by kernel_rfl) rfl rfl (by kernel_rfl) ?_
    refine ls_off (j := 8) (t := 11) (b := true) (c := false) rfl rfl (by kernel_rfl) (by kernel_rfl) rfl rfl (by kernel_rfl) ?_
    refine ls_offu (j := 12) (t := 15) (b := false) rfl rfl (by kernel_rfl) (by kernel_rfl) rfl (by kernel_rfl) ?_
    refine ls_offu (j := 12) (t := 15) (b := false) rfl rfl (by kernel_rfl) (by kernel_rfl) rfl (by kernel_rfl) ?_
    refine ls_offu (j := 12) (t := 15) (b := false) rfl rfl (by kernel_rfl) (by kernel_rfl) rfl (by kernel_rfl) ?_
    refine ls_offu (j := 12) (t := 15) (b := false) rfl rfl (by kernel_rfl) (by kernel_rfl) rfl (by kernel_rfl) ?_
    refine ls_offu (j := 16) (t := 19) (b := true) rfl rfl (by kernel_rfl) (by kernel_rfl) rfl (by kernel_rfl) ?_
    refine ls_offu (j := 16) (t := 19) (b := true) rfl rfl (by kernel_rfl) (by kernel_rfl) rfl (by kernel_rfl) ?_
    refine ls_offu (j := 16) (t := 19) (b := true) rfl rfl (by kernel_rfl) (by kernel_rfl) rfl (by kernel_rfl) ?_
    refine ls_offu (j := 16) (t := 19) (b := true) rfl rfl (by kernel_rfl) (by kernel_rfl) rfl (by kernel_rfl) ?_
    refine ls_offu (j := 16) (t := 19) (b := true) rfl rfl (by kernel_rfl) (by kernel_rfl) rfl (by kernel_rfl) ?_
    refine ls_offu (j := 16) (t := 19) (b := true) rfl rfl (by kernel_rfl) (by kernel_rfl) rfl (by kernel_rfl) ?_
    refine ls_offu (j := 12) (t := 15) (b := false) rfl rfl (by kernel_rfl) (by kernel_rfl) rfl (by kernel_rfl) ?_
    refine ls_off (j := 8) (t := 11) (b := true) (c := false) rfl rfl (by kernel_rfl) (by kernel_rfl) rfl rfl (by kernel_rfl) ?_
    refine ls_val (v := .bool false) rfl rfl (by kernel_rfl) (fun w => by kernel_rfl) ?_
    refine ls_val (v := .bool false) rfl rfl (by kernel_rfl) (fun w => by kernel_rfl) ?_
    refine ls_end ?_
    refine qn_then ?_
    refine cs_ret' ?_
    obtain rfl := Option.some.inj H
    refine qr_res (rs := [_]) rfl (fun w' hs => ⟨[.bool false], (res_tmp (by kernel_rfl) (.nil)), (), rfl, hs.pick (ts := []) (cs := []) trivial (by decide)⟩)

end Go.Proofs.Ytnjijflgafghmaa.G
