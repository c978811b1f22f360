/- Printed by a program of this session (sz.py): plain functions, and walks that show that the code comes to them; no condition. -/
import Derived.Test.YtnjijflgafghmaaProg
import Derived.Test.YtnjijflgafghmaaTy
import Derived.Test.YtnjijflgafghmaaG0
set_option linter.unusedVariables false
set_option linter.unusedSimpArgs false
namespace Go.Proofs.Ytnjijflgafghmaa.G
open Go Go.RowKit Go.Proofs.Ytnjijflgafghmaa.Sx

/-! ### shadowbox/shadowboxref06.Right: function 15 -/
def shadowboxref06_Right.tab1 : List (List Nat) := [[], [0], [0, 1], [0, 1, 2], [0, 1, 2, 3], [0, 1, 2, 3, 4], [0, 1, 2, 3, 4, 5], [0, 1, 2, 3, 4, 5, 6], [0, 1, 2, 3, 4, 5, 6, 7], [0, 1, 2, 3, 4, 5, 6, 7, 8], [0, 1, 2, 3, 4, 5, 6, 7, 8, 9], [0, 1, 2, 3, 4, 5, 6, 7, 8, 9, 10], [0, 1, 2, 3, 4, 5, 6, 7, 8, 9, 10, 11], [0, 1, 2, 3, 4, 5, 6, 7, 8, 9, 10, 11, 12], [0, 1, 2, 3, 4, 5, 6, 7, 8, 9, 10, 11, 12, 13], [0, 1, 2, 3, 4, 5, 6, 7, 8, 9, 10, 11, 12, 13, 14], [0, 1, 2, 3, 4, 5, 6, 7, 8, 9, 10, 11, 12, 13, 14, 15], [0, 1, 2, 3, 4, 5, 6, 7, 8, 9, 10, 11, 12, 13, 14, 15, 16], [0, 1, 2, 3, 4, 5, 6, 7, 8, 9, 10, 11, 12, 13, 14, 15, 16, 17], [0, 1, 2, 3, 4, 5, 6, 7, 8, 9, 10, 11, 12, 13, 14, 15, 16, 17, 18], [0, 1, 2, 3, 4, 5, 6, 7, 8, 9, 10, 11, 12, 13, 14, 15, 16, 17, 18, 19], [0, 1, 2, 3, 4, 5, 6, 7, 8, 9, 10, 11, 12, 13, 14, 15, 16, 17, 18, 19, 20], [0, 1, 2, 3, 4, 5, 6, 7, 8, 9, 10, 11, 12, 13, 14, 15, 16, 17, 18, 19, 20, 21], [0, 1, 2, 3, 4, 5, 6, 7, 8, 9, 10, 11, 12, 13, 14, 15, 16, 17, 18, 19, 20, 21, 22], [0, 1, 2, 3, 4, 5, 6, 7, 8, 9, 10, 11, 12, 13, 14, 15, 16, 17, 18, 19, 20, 21, 22, 23], [0, 1, 2, 3, 4, 5, 6, 7, 8, 9, 10, 11, 12, 13, 14, 15, 16, 17, 18, 19, 20, 21, 22, 23, 24], [0, 1, 2, 3, 4, 5, 6, 7, 8, 9, 10, 11, 12, 13, 14, 15, 16, 17, 18, 19, 20, 21, 22, 23, 24, 25], [0, 1, 2, 3, 4, 5, 6, 7, 8, 9, 10, 11, 12, 13, 14, 15, 16, 17, 18, 19, 20, 21, 22, 23, 24, 25, 26], [0, 1, 2, 3, 4, 5, 6, 7, 8, 9, 10, 11, 12, 13, 14, 15, 16, 17, 18, 19, 20, 21, 22, 23, 24, 25, 26, 27], [0, 1, 2, 3, 4, 5, 6, 7, 8, 9, 10, 11, 12, 13, 14, 15, 16, 17, 18, 19, 20, 21, 22, 23, 24, 25, 26, 27, 28], [0, 1, 2, 3, 4, 5, 6, 7, 8, 9, 10, 11, 12, 13, 14, 15, 16, 17, 18, 19, 20, 21, 22, 23, 24, 25, 26, 27, 28, 29], [0, 1, 2, 3, 4, 5, 6, 7, 8, 9, 10, 11, 12, 13, 14, 15, 16, 17, 18, 19, 20, 21, 22, 23, 24, 25, 26, 27, 28], [0, 1, 2, 3, 4, 5, 6, 7, 8, 9, 10, 11, 12, 13, 14, 15, 16, 17, 18, 19, 20, 21, 22, 23, 24, 25, 26, 27, 28, 31], [0, 1, 2, 3, 4, 5, 6, 7, 8, 9, 10, 11, 12, 13, 14, 15, 16, 17, 18, 19, 20, 21, 22, 23, 24, 25, 26, 27, 28, 29, 30, 31, 32], [0, 1, 2, 3, 4, 5, 6, 7, 8, 9, 10, 11, 12, 13, 14, 15, 16, 17, 18, 19, 20, 21, 22, 23, 24, 25, 26, 27, 28, 29, 30, 31, 32, 33], [0, 1, 2, 3, 4, 5, 6, 7, 8, 9, 10, 11, 12, 13, 14, 15, 16, 17, 18, 19, 20, 21, 22, 23, 24, 25, 26, 27, 28, 29, 30, 31, 32, 33, 34], [0, 1, 2, 3, 4, 5, 6, 7, 8, 9, 10, 11, 12, 13, 14, 15, 16, 17, 18, 19, 20, 21, 22, 23, 24, 25, 26, 27, 28, 29, 30, 31, 32, 33, 34, 35]]
def shadowboxref06_Right.f (k : Nat) (a0 : (Int × Int × Int × Int × (Vc Int 32))) : Option (Bool) :=
  (if a0.2.1 ≥ (1 : Int) then (if a0.2.1 ≤ (1152921504606846976 : Int) then (if a0.2.2.1 ≥ (1 : Int) then (if a0.2.2.1 ≤ (65536 : Int) then (if a0.1 ≥ (2 : Int) then (if a0.1 ≤ (8192 : Int) then (shadowboxref06_Sectors.f k a0).bind fun t10 => some (decide ((IntKind.wrap .i64 (a0.1 + t10)) ≤ (8192 : Int))) else some false) else some false) else some false) else some false) else some false) else some false)
set_option maxRecDepth 100000 in
set_option maxHeartbeats 4000000 in
theorem shadowboxref06_Right.calls (k : Nat) (a0 : (Int × Int × Int × Int × (Vc Int 32))) (r : Bool) (b : Bs) (hs0 : St b (stl []) b.w) (H : shadowboxref06_Right.f k a0 = some r) :
    Calls Try.prog 15 #[.agg ⟨([Value.int .i64 a0.1] ++ ([Value.int .i64 a0.2.1] ++ ([Value.int .i64 a0.2.2.1] ++ ([Value.int .u32 a0.2.2.2.1] ++ en (Value.int .u8) a0.2.2.2.2.1))))⟩] b.w fun e w' => ∃ x : Unit, e = .returned (.bool r) ∧ St b (stl []) w' := by
  unfold shadowboxref06_Right.f at H
  refine enterb (n := 39) Try.func15 rfl (by kernel_rfl) (by kernel_rfl) hs0 ?_
  refine cs_sub (s0) (sub_nil _) ?_
  refine cs_seq ?_
  refine cs_region (l := [_, _]) ?_
  refine ls_new rfl rfl (by kernel_rfl) 0 (fun g => .pointer (some ⟨g, 0, none⟩)) (.cells ⟨([Value.int .i64 a0.1] ++ ([Value.int .i64 a0.2.1] ++ ([Value.int .i64 a0.2.2.1] ++ ([Value.int .u32 a0.2.2.2.1] ++ en (Value.int .u8) a0.2.2.2.2.1))))⟩ 25) (fun w => by kernel_rfl) ?_
  intro g1
  refine ls_val (v := .bool false) rfl rfl (by kernel_rfl) (fun w => by kernel_rfl) ?_
  refine ls_end ?_
  refine qn_then ?_
  refine cs_seq ?_
  obtain ⟨s3_0, hs3_0⟩ : ∃ z : Value → Sto → Prop, z = (fun v R => v = .pointer (some ⟨g1, (0 + 1), none⟩) ∧ R = s0) := ⟨_, rfl⟩
  refine have_op (l := [_, _, _, _, _, _, _, _, _, _, _, _, _, _, _, _, _, _, _, _, _, _, _, _, _, _, _, _, _, _, _, _, _, _, _, _, _]) shadowboxref06_Right.tab1 1 0 (fun sp => sp 0 = s3_0) (fun sp on hA hon => ?_) (fun ops3_0 => ?_)
  · refine ⟨fun o ho vs Rs f' S' w hp hf hx hS hR hs => ?_⟩
    obtain rfl := Option.some.inj ho
    rw [hA, hs3_0]
    refine And.intro (fun a ha => (want_none rfl a ha).trans hon.symm) (And.intro (fun _ => ?_) (fun h => by rw [hon] at h; cases h))
    have hF := fr_next (rfl) ((hx 1 (by kernel_rfl)).trans (by kernel_rfl : (_ : Value) = .pointer (some ⟨g1, 0, none⟩)))
    refine ls_fr hF ?_
    refine ls_val (v := .pointer (some ⟨g1, (0 + 1), none⟩)) rfl rfl (by kernel_rfl) (fun w => by kernel_rfl) ?_
    exact ls_fin s0 (.pointer (some ⟨g1, (0 + 1), none⟩)) (congrArg (fun z => upd z 3 _) hF.symm) ⟨rfl, rfl⟩ (sub_nil _)
  obtain ⟨s3_1, hs3_1⟩ : ∃ z : Value → Sto → Prop, z = (fun v R => v = .int .i64 a0.2.1 ∧ R = s0) := ⟨_, rfl⟩
  refine have_op (l := [_, _, _, _, _, _, _, _, _, _, _, _, _, _, _, _, _, _, _, _, _, _, _, _, _, _, _, _, _, _, _, _, _, _, _, _, _]) shadowboxref06_Right.tab1 1 1 (fun sp => sp 1 = s3_1 ∧ sp 0 = s3_0) (fun sp on hA hon => ?_) (fun ops3_1 => ?_)
  · refine ⟨fun o ho vs Rs f' S' w hp hf hx hS hR hs => ?_⟩
    obtain rfl := Option.some.inj ho
    obtain ⟨hv0, hR0⟩ := (spe hA.2 hs3_0 (hp 0 (by kernel_rfl)))
    rw [hA.1, hs3_1]
    refine And.intro (fun a ha => (want_none rfl a ha).trans hon.symm) (And.intro (fun _ => ?_) (fun h => by rw [hon] at h; cases h))
    have hF := fr_next (rfl) ((hf 0 3 (by kernel_rfl) rfl).trans hv0)
    refine ls_fr hF ?_
    refine ls_load (a0 := ⟨g1, (0 + 1), none⟩) (v := .int .i64 a0.2.1) (de := (TypeDesc.int .i64)) rfl rfl (by kernel_rfl) rfl (by kernel_rfl) (by kernel_rfl) (by kernel_rfl) (fun w1 hs1 => cell_step hs1.below.bw (hs.var (k := 0) ((hS 0 (by kernel_rfl)).trans (by exact rfl)) (Sub4.trans (Sub4.all _) (Sub4.skip (n := 1) (len1 _) (Sub4.head _ _))))) ?_
    exact ls_fin s0 (.int .i64 a0.2.1) (congrArg (fun z => upd z 4 _) hF.symm) ⟨rfl, rfl⟩ (sub_nil _)
  obtain ⟨s3_2, hs3_2⟩ : ∃ z : Value → Sto → Prop, z = (fun v R => v = .bool (decide (a0.2.1 ≥ (1 : Int))) ∧ R = s0) := ⟨_, rfl⟩
  refine have_op (l := [_, _, _, _, _, _, _, _, _, _, _, _, _, _, _, _, _, _, _, _, _, _, _, _, _, _, _, _, _, _, _, _, _, _, _, _, _]) shadowboxref06_Right.tab1 1 2 (fun sp => sp 2 = s3_2 ∧ sp 1 = s3_1) (fun sp on hA hon => ?_) (fun ops3_2 => ?_)
  · refine ⟨fun o ho vs Rs f' S' w hp hf hx hS hR hs => ?_⟩
    obtain rfl := Option.some.inj ho
    obtain ⟨hv1, hR1⟩ := (spe hA.2 hs3_1 (hp 1 (by kernel_rfl)))
    rw [hA.1, hs3_2]
    refine And.intro (fun a ha => (want_none rfl a ha).trans hon.symm) (And.intro (fun _ => ?_) (fun h => by rw [hon] at h; cases h))
    have hF := fr_next (rfl) ((hf 1 4 (by kernel_rfl) rfl).trans hv1)
    refine ls_fr hF ?_
    refine ls_val (v := .bool (decide (a0.2.1 ≥ (1 : Int)))) rfl rfl (by kernel_rfl) (fun w => by kernel_rfl) ?_
    exact ls_fin s0 (.bool (decide (a0.2.1 ≥ (1 : Int)))) (congrArg (fun z => upd z 5 _) hF.symm) ⟨rfl, rfl⟩ (sub_nil _)
  obtain ⟨s3_3, hs3_3⟩ : ∃ z : Value → Sto → Prop, z = (fun v R => v = .bool (decide (a0.2.1 ≥ (1 : Int))) ∧ R = s0) := ⟨_, rfl⟩
  refine have_op (l := [_, _, _, _, _, _, _, _, _, _, _, _, _, _, _, _, _, _, _, _, _, _, _, _, _, _, _, _, _, _, _, _, _, _, _, _, _]) shadowboxref06_Right.tab1 1 3 (fun sp => sp 3 = s3_3 ∧ sp 2 = s3_2) (fun sp on hA hon => ?_) (fun ops3_3 => ?_)
  · refine ⟨fun o ho vs Rs f' S' w hp hf hx hS hR hs => ?_⟩
    obtain rfl := Option.some.inj ho
    obtain ⟨hv2, hR2⟩ := (spe hA.2 hs3_2 (hp 2 (by kernel_rfl)))
    rw [hA.1, hs3_3]
    refine And.intro (fun a ha => (want_none rfl a ha).trans hon.symm) (And.intro (fun _ => ?_) (fun h => by rw [hon] at h; cases h))
    have hF := fr_next (rfl) ((hf 2 5 (by kernel_rfl) rfl).trans hv2)
    refine ls_fr hF ?_
    refine ls_val (v := .bool (decide (a0.2.1 ≥ (1 : Int)))) rfl rfl (by kernel_rfl) (fun w => by kernel_rfl) ?_
    exact ls_fin s0 (.bool (decide (a0.2.1 ≥ (1 : Int)))) (congrArg (fun z => upd z 6 _) hF.symm) ⟨rfl, rfl⟩ (sub_nil _)
  by_cases q4 : a0.2.1 ≥ (1 : Int)
  · replace H := ite_t q4 H
    obtain ⟨s3_4, hs3_4⟩ : ∃ z : Value → Sto → Prop, z = (fun v R => v = .pointer (some ⟨g1, (0 + 1), none⟩) ∧ R = s0) := ⟨_, rfl⟩
    refine have_op (l := [_, _, _, _, _, _, _, _, _, _, _, _, _, _, _, _, _, _, _, _, _, _, _, _, _, _, _, _, _, _, _, _, _, _, _, _, _]) shadowboxref06_Right.tab1 1 4 (fun sp => sp 4 = s3_4 ∧ sp 3 = s3_3) (fun sp on hA hon => ?_) (fun ops3_4 => ?_)
    · refine ⟨fun o ho vs Rs f' S' w hp hf hx hS hR hs => ?_⟩
      obtain rfl := Option.some.inj ho
      obtain ⟨hv3, hR3⟩ := (spe hA.2 hs3_3 (hp 3 (by kernel_rfl)))
      rw [hA.1, hs3_4]
      refine And.intro (fun a ha => (want_is (j := 3) (t := 6) (r := true) rfl rfl (by kernel_rfl) (((hf 3 6 (by kernel_rfl) rfl).trans hv3).trans (congrArg Value.bool (show (decide (a0.2.1 ≥ (1 : Int))) = true from dec_t q4))) rfl a ha).trans hon.symm) (And.intro (fun _ => ?_) (fun h => by rw [hon] at h; cases h))
      have hF := fr_next (fr_next (rfl) ((hx 1 (by kernel_rfl)).trans (by kernel_rfl : (_ : Value) = .pointer (some ⟨g1, 0, none⟩)))) (((hf 3 6 (by kernel_rfl) rfl).trans hv3).trans (congrArg Value.bool (show (decide (a0.2.1 ≥ (1 : Int))) = true from dec_t q4)))
      refine ls_fr hF ?_
      refine ls_val (v := .pointer (some ⟨g1, (0 + 1), none⟩)) rfl rfl (by kernel_rfl) (fun w => by kernel_rfl) ?_
      exact ls_fin s0 (.pointer (some ⟨g1, (0 + 1), none⟩)) (congrArg (fun z => upd z 7 _) hF.symm) ⟨rfl, rfl⟩ (sub_nil _)
    obtain ⟨s3_5, hs3_5⟩ : ∃ z : Value → Sto → Prop, z = (fun v R => v = .int .i64 a0.2.1 ∧ R = s0) := ⟨_, rfl⟩
    refine have_op (l := [_, _, _, _, _, _, _, _, _, _, _, _, _, _, _, _, _, _, _, _, _, _, _, _, _, _, _, _, _, _, _, _, _, _, _, _, _]) shadowboxref06_Right.tab1 1 5 (fun sp => sp 5 = s3_5 ∧ sp 3 = s3_3 ∧ sp 4 = s3_4) (fun sp on hA hon => ?_) (fun ops3_5 => ?_)
    · refine ⟨fun o ho vs Rs f' S' w hp hf hx hS hR hs => ?_⟩
      obtain rfl := Option.some.inj ho
      obtain ⟨hv3, hR3⟩ := (spe hA.2.1 hs3_3 (hp 3 (by kernel_rfl)))
      obtain ⟨hv4, hR4⟩ := (spe hA.2.2 hs3_4 (hp 4 (by kernel_rfl)))
      rw [hA.1, hs3_5]
      refine And.intro (fun a ha => (want_is (j := 3) (t := 6) (r := true) rfl rfl (by kernel_rfl) (((hf 3 6 (by kernel_rfl) rfl).trans hv3).trans (congrArg Value.bool (show (decide (a0.2.1 ≥ (1 : Int))) = true from dec_t q4))) rfl a ha).trans hon.symm) (And.intro (fun _ => ?_) (fun h => by rw [hon] at h; cases h))
      have hF := fr_next (fr_next (rfl) (((hf 3 6 (by kernel_rfl) rfl).trans hv3).trans (congrArg Value.bool (show (decide (a0.2.1 ≥ (1 : Int))) = true from dec_t q4)))) ((hf 4 7 (by kernel_rfl) rfl).trans hv4)
      refine ls_fr hF ?_
      refine ls_load (a0 := ⟨g1, (0 + 1), none⟩) (v := .int .i64 a0.2.1) (de := (TypeDesc.int .i64)) rfl rfl (by kernel_rfl) rfl (by kernel_rfl) (by kernel_rfl) (by kernel_rfl) (fun w1 hs1 => cell_step hs1.below.bw (hs.var (k := 0) ((hS 0 (by kernel_rfl)).trans (by exact rfl)) (Sub4.trans (Sub4.all _) (Sub4.skip (n := 1) (len1 _) (Sub4.head _ _))))) ?_
      exact ls_fin s0 (.int .i64 a0.2.1) (congrArg (fun z => upd z 8 _) hF.symm) ⟨rfl, rfl⟩ (sub_nil _)
    obtain ⟨s3_6, hs3_6⟩ : ∃ z : Value → Sto → Prop, z = (fun v R => v = .bool (decide (a0.2.1 ≤ (1152921504606846976 : Int))) ∧ R = s0) := ⟨_, rfl⟩
    refine have_op (l := [_, _, _, _, _, _, _, _, _, _, _, _, _, _, _, _, _, _, _, _, _, _, _, _, _, _, _, _, _, _, _, _, _, _, _, _, _]) shadowboxref06_Right.tab1 1 6 (fun sp => sp 6 = s3_6 ∧ sp 3 = s3_3 ∧ sp 5 = s3_5) (fun sp on hA hon => ?_) (fun ops3_6 => ?_)
    · refine ⟨fun o ho vs Rs f' S' w hp hf hx hS hR hs => ?_⟩
      obtain rfl := Option.some.inj ho
      obtain ⟨hv3, hR3⟩ := (spe hA.2.1 hs3_3 (hp 3 (by kernel_rfl)))
      obtain ⟨hv5, hR5⟩ := (spe hA.2.2 hs3_5 (hp 5 (by kernel_rfl)))
      rw [hA.1, hs3_6]
      refine And.intro (fun a ha => (want_is (j := 3) (t := 6) (r := true) rfl rfl (by kernel_rfl) (((hf 3 6 (by kernel_rfl) rfl).trans hv3).trans (congrArg Value.bool (show (decide (a0.2.1 ≥ (1 : Int))) = true from dec_t q4))) rfl a ha).trans hon.symm) (And.intro (fun _ => ?_) (fun h => by rw [hon] at h; cases h))
      have hF := fr_next (fr_next (rfl) (((hf 3 6 (by kernel_rfl) rfl).trans hv3).trans (congrArg Value.bool (show (decide (a0.2.1 ≥ (1 : Int))) = true from dec_t q4)))) ((hf 5 8 (by kernel_rfl) rfl).trans hv5)
      refine ls_fr hF ?_
      refine ls_val (v := .bool (decide (a0.2.1 ≤ (1152921504606846976 : Int)))) rfl rfl (by kernel_rfl) (fun w => by kernel_rfl) ?_
      exact ls_fin s0 (.bool (decide (a0.2.1 ≤ (1152921504606846976 : Int)))) (congrArg (fun z => upd z 9 _) hF.symm) ⟨rfl, rfl⟩ (sub_nil _)
    obtain ⟨s3_7, hs3_7⟩ : ∃ z : Value → Sto → Prop, z = (fun v R => v = .bool (decide (a0.2.1 ≤ (1152921504606846976 : Int))) ∧ R = s0) := ⟨_, rfl⟩
    refine have_op (l := [_, _, _, _, _, _, _, _, _, _, _, _, _, _, _, _, _, _, _, _, _, _, _, _, _, _, _, _, _, _, _, _, _, _, _, _, _]) shadowboxref06_Right.tab1 1 7 (fun sp => sp 7 = s3_7 ∧ sp 3 = s3_3 ∧ sp 6 = s3_6) (fun sp on hA hon => ?_) (fun ops3_7 => ?_)
    · refine ⟨fun o ho vs Rs f' S' w hp hf hx hS hR hs => ?_⟩
      obtain rfl := Option.some.inj ho
      obtain ⟨hv3, hR3⟩ := (spe hA.2.1 hs3_3 (hp 3 (by kernel_rfl)))
      obtain ⟨hv6, hR6⟩ := (spe hA.2.2 hs3_6 (hp 6 (by kernel_rfl)))
      rw [hA.1, hs3_7]
      refine And.intro (fun a ha => (want_none rfl a ha).trans hon.symm) (And.intro (fun _ => ?_) (fun h => by rw [hon] at h; cases h))
      have hF := fr_next (fr_next (rfl) (((hf 3 6 (by kernel_rfl) rfl).trans hv3).trans (congrArg Value.bool (show (decide (a0.2.1 ≥ (1 : Int))) = true from dec_t q4)))) ((hf 6 9 (by kernel_rfl) rfl).trans hv6)
      refine ls_fr hF ?_
      refine ls_val (v := .bool (decide (a0.2.1 ≤ (1152921504606846976 : Int)))) rfl rfl (by kernel_rfl) (fun w => by kernel_rfl) ?_
      exact ls_fin s0 (.bool (decide (a0.2.1 ≤ (1152921504606846976 : Int)))) (congrArg (fun z => upd z 10 _) hF.symm) ⟨rfl, rfl⟩ (sub_nil _)
    obtain ⟨s3_8, hs3_8⟩ : ∃ z : Value → Sto → Prop, z = (fun v R => v = .bool (decide (a0.2.1 ≤ (1152921504606846976 : Int))) ∧ R = s0) := ⟨_, rfl⟩
    refine have_op (l := [_, _, _, _, _, _, _, _, _, _, _, _, _, _, _, _, _, _, _, _, _, _, _, _, _, _, _, _, _, _, _, _, _, _, _, _, _]) shadowboxref06_Right.tab1 1 8 (fun sp => sp 8 = s3_8 ∧ sp 7 = s3_7) (fun sp on hA hon => ?_) (fun ops3_8 => ?_)
    · refine ⟨fun o ho vs Rs f' S' w hp hf hx hS hR hs => ?_⟩
      obtain rfl := Option.some.inj ho
      obtain ⟨hv7, hR7⟩ := (spe hA.2 hs3_7 (hp 7 (by kernel_rfl)))
      rw [hA.1, hs3_8]
      refine And.intro (fun a ha => (want_none rfl a ha).trans hon.symm) (And.intro (fun _ => ?_) (fun h => by rw [hon] at h; cases h))
      have hF := fr_next (rfl) ((hf 7 10 (by kernel_rfl) rfl).trans hv7)
      refine ls_fr hF ?_
      refine ls_val (v := .bool (decide (a0.2.1 ≤ (1152921504606846976 : Int)))) rfl rfl (by kernel_rfl) (fun w => by kernel_rfl) ?_
      exact ls_fin s0 (.bool (decide (a0.2.1 ≤ (1152921504606846976 : Int)))) (congrArg (fun z => upd z 11 _) hF.symm) ⟨rfl, rfl⟩ (sub_nil _)
    by_cases q5 : a0.2.1 ≤ (1152921504606846976 : Int)
    · replace H := ite_t q5 H
      obtain ⟨s3_9, hs3_9⟩ : ∃ z : Value → Sto → Prop, z = (fun v R => v = .pointer (some ⟨g1, (0 + 2), none⟩) ∧ R = s0) := ⟨_, rfl⟩
      refine have_op (l := [_, _, _, _, _, _, _, _, _, _, _, _, _, _, _, _, _, _, _, _, _, _, _, _, _, _, _, _, _, _, _, _, _, _, _, _, _]) shadowboxref06_Right.tab1 1 9 (fun sp => sp 9 = s3_9 ∧ sp 8 = s3_8) (fun sp on hA hon => ?_) (fun ops3_9 => ?_)
      · refine ⟨fun o ho vs Rs f' S' w hp hf hx hS hR hs => ?_⟩
        obtain rfl := Option.some.inj ho
        obtain ⟨hv8, hR8⟩ := (spe hA.2 hs3_8 (hp 8 (by kernel_rfl)))
        rw [hA.1, hs3_9]
        refine And.intro (fun a ha => (want_is (j := 8) (t := 11) (r := true) rfl rfl (by kernel_rfl) (((hf 8 11 (by kernel_rfl) rfl).trans hv8).trans (congrArg Value.bool (show (decide (a0.2.1 ≤ (1152921504606846976 : Int))) = true from dec_t q5))) rfl a ha).trans hon.symm) (And.intro (fun _ => ?_) (fun h => by rw [hon] at h; cases h))
        have hF := fr_next (fr_next (rfl) ((hx 1 (by kernel_rfl)).trans (by kernel_rfl : (_ : Value) = .pointer (some ⟨g1, 0, none⟩)))) (((hf 8 11 (by kernel_rfl) rfl).trans hv8).trans (congrArg Value.bool (show (decide (a0.2.1 ≤ (1152921504606846976 : Int))) = true from dec_t q5)))
        refine ls_fr hF ?_
        refine ls_val (v := .pointer (some ⟨g1, (0 + 2), none⟩)) rfl rfl (by kernel_rfl) (fun w => by kernel_rfl) ?_
        exact ls_fin s0 (.pointer (some ⟨g1, (0 + 2), none⟩)) (congrArg (fun z => upd z 12 _) hF.symm) ⟨rfl, rfl⟩ (sub_nil _)
      obtain ⟨s3_10, hs3_10⟩ : ∃ z : Value → Sto → Prop, z = (fun v R => v = .int .i64 a0.2.2.1 ∧ R = s0) := ⟨_, rfl⟩
      refine have_op (l := [_, _, _, _, _, _, _, _, _, _, _, _, _, _, _, _, _, _, _, _, _, _, _, _, _, _, _, _, _, _, _, _, _, _, _, _, _]) shadowboxref06_Right.tab1 1 10 (fun sp => sp 10 = s3_10 ∧ sp 8 = s3_8 ∧ sp 9 = s3_9) (fun sp on hA hon => ?_) (fun ops3_10 => ?_)
      · refine ⟨fun o ho vs Rs f' S' w hp hf hx hS hR hs => ?_⟩
        obtain rfl := Option.some.inj ho
        obtain ⟨hv8, hR8⟩ := (spe hA.2.1 hs3_8 (hp 8 (by kernel_rfl)))
        obtain ⟨hv9, hR9⟩ := (spe hA.2.2 hs3_9 (hp 9 (by kernel_rfl)))
        rw [hA.1, hs3_10]
        refine And.intro (fun a ha => (want_is (j := 8) (t := 11) (r := true) rfl rfl (by kernel_rfl) (((hf 8 11 (by kernel_rfl) rfl).trans hv8).trans (congrArg Value.bool (show (decide (a0.2.1 ≤ (1152921504606846976 : Int))) = true from dec_t q5))) rfl a ha).trans hon.symm) (And.intro (fun _ => ?_) (fun h => by rw [hon] at h; cases h))
        have hF := fr_next (fr_next (rfl) (((hf 8 11 (by kernel_rfl) rfl).trans hv8).trans (congrArg Value.bool (show (decide (a0.2.1 ≤ (1152921504606846976 : Int))) = true from dec_t q5)))) ((hf 9 12 (by kernel_rfl) rfl).trans hv9)
        refine ls_fr hF ?_
        refine ls_load (a0 := ⟨g1, (0 + 2), none⟩) (v := .int .i64 a0.2.2.1) (de := (TypeDesc.int .i64)) rfl rfl (by kernel_rfl) rfl (by kernel_rfl) (by kernel_rfl) (by kernel_rfl) (fun w1 hs1 => cell_step hs1.below.bw (hs.var (k := 0) ((hS 0 (by kernel_rfl)).trans (by exact rfl)) (Sub4.trans (Sub4.all _) (Sub4.skip (n := 1) (len1 _) (Sub4.skip (n := 1) (len1 _) (Sub4.head _ _)))))) ?_
        exact ls_fin s0 (.int .i64 a0.2.2.1) (congrArg (fun z => upd z 13 _) hF.symm) ⟨rfl, rfl⟩ (sub_nil _)
      obtain ⟨s3_11, hs3_11⟩ : ∃ z : Value → Sto → Prop, z = (fun v R => v = .bool (decide (a0.2.2.1 ≥ (1 : Int))) ∧ R = s0) := ⟨_, rfl⟩
      refine have_op (l := [_, _, _, _, _, _, _, _, _, _, _, _, _, _, _, _, _, _, _, _, _, _, _, _, _, _, _, _, _, _, _, _, _, _, _, _, _]) shadowboxref06_Right.tab1 1 11 (fun sp => sp 11 = s3_11 ∧ sp 8 = s3_8 ∧ sp 10 = s3_10) (fun sp on hA hon => ?_) (fun ops3_11 => ?_)
      · refine ⟨fun o ho vs Rs f' S' w hp hf hx hS hR hs => ?_⟩
        obtain rfl := Option.some.inj ho
        obtain ⟨hv8, hR8⟩ := (spe hA.2.1 hs3_8 (hp 8 (by kernel_rfl)))
        obtain ⟨hv10, hR10⟩ := (spe hA.2.2 hs3_10 (hp 10 (by kernel_rfl)))
        rw [hA.1, hs3_11]
        refine And.intro (fun a ha => (want_is (j := 8) (t := 11) (r := true) rfl rfl (by kernel_rfl) (((hf 8 11 (by kernel_rfl) rfl).trans hv8).trans (congrArg Value.bool (show (decide (a0.2.1 ≤ (1152921504606846976 : Int))) = true from dec_t q5))) rfl a ha).trans hon.symm) (And.intro (fun _ => ?_) (fun h => by rw [hon] at h; cases h))
        have hF := fr_next (fr_next (rfl) (((hf 8 11 (by kernel_rfl) rfl).trans hv8).trans (congrArg Value.bool (show (decide (a0.2.1 ≤ (1152921504606846976 : Int))) = true from dec_t q5)))) ((hf 10 13 (by kernel_rfl) rfl).trans hv10)
        refine ls_fr hF ?_
        refine ls_val (v := .bool (decide (a0.2.2.1 ≥ (1 : Int)))) rfl rfl (by kernel_rfl) (fun w => by kernel_rfl) ?_
        exact ls_fin s0 (.bool (decide (a0.2.2.1 ≥ (1 : Int)))) (congrArg (fun z => upd z 14 _) hF.symm) ⟨rfl, rfl⟩ (sub_nil _)
      obtain ⟨s3_12, hs3_12⟩ : ∃ z : Value → Sto → Prop, z = (fun v R => v = .bool (decide (a0.2.2.1 ≥ (1 : Int))) ∧ R = s0) := ⟨_, rfl⟩
      refine have_op (l := [_, _, _, _, _, _, _, _, _, _, _, _, _, _, _, _, _, _, _, _, _, _, _, _, _, _, _, _, _, _, _, _, _, _, _, _, _]) shadowboxref06_Right.tab1 1 12 (fun sp => sp 12 = s3_12 ∧ sp 8 = s3_8 ∧ sp 11 = s3_11) (fun sp on hA hon => ?_) (fun ops3_12 => ?_)
      · refine ⟨fun o ho vs Rs f' S' w hp hf hx hS hR hs => ?_⟩
        obtain rfl := Option.some.inj ho
        obtain ⟨hv8, hR8⟩ := (spe hA.2.1 hs3_8 (hp 8 (by kernel_rfl)))
        obtain ⟨hv11, hR11⟩ := (spe hA.2.2 hs3_11 (hp 11 (by kernel_rfl)))
        rw [hA.1, hs3_12]
        refine And.intro (fun a ha => (want_none rfl a ha).trans hon.symm) (And.intro (fun _ => ?_) (fun h => by rw [hon] at h; cases h))
        have hF := fr_next (fr_next (rfl) (((hf 8 11 (by kernel_rfl) rfl).trans hv8).trans (congrArg Value.bool (show (decide (a0.2.1 ≤ (1152921504606846976 : Int))) = true from dec_t q5)))) ((hf 11 14 (by kernel_rfl) rfl).trans hv11)
        refine ls_fr hF ?_
        refine ls_val (v := .bool (decide (a0.2.2.1 ≥ (1 : Int)))) rfl rfl (by kernel_rfl) (fun w => by kernel_rfl) ?_
        exact ls_fin s0 (.bool (decide (a0.2.2.1 ≥ (1 : Int)))) (congrArg (fun z => upd z 15 _) hF.symm) ⟨rfl, rfl⟩ (sub_nil _)
      obtain ⟨s3_13, hs3_13⟩ : ∃ z : Value → Sto → Prop, z = (fun v R => v = .bool (decide (a0.2.2.1 ≥ (1 : Int))) ∧ R = s0) := ⟨_, rfl⟩
      refine have_op (l := [_, _, _, _, _, _, _, _, _, _, _, _, _, _, _, _, _, _, _, _, _, _, _, _, _, _, _, _, _, _, _, _, _, _, _, _, _]) shadowboxref06_Right.tab1 1 13 (fun sp => sp 13 = s3_13 ∧ sp 12 = s3_12) (fun sp on hA hon => ?_) (fun ops3_13 => ?_)
      · refine ⟨fun o ho vs Rs f' S' w hp hf hx hS hR hs => ?_⟩
        obtain rfl := Option.some.inj ho
        obtain ⟨hv12, hR12⟩ := (spe hA.2 hs3_12 (hp 12 (by kernel_rfl)))
        rw [hA.1, hs3_13]
        refine And.intro (fun a ha => (want_none rfl a ha).trans hon.symm) (And.intro (fun _ => ?_) (fun h => by rw [hon] at h; cases h))
        have hF := fr_next (rfl) ((hf 12 15 (by kernel_rfl) rfl).trans hv12)
        refine ls_fr hF ?_
        refine ls_val (v := .bool (decide (a0.2.2.1 ≥ (1 : Int)))) rfl rfl (by kernel_rfl) (fun w => by kernel_rfl) ?_
        exact ls_fin s0 (.bool (decide (a0.2.2.1 ≥ (1 : Int)))) (congrArg (fun z => upd z 16 _) hF.symm) ⟨rfl, rfl⟩ (sub_nil _)
      by_cases q6 : a0.2.2.1 ≥ (1 : Int)
      · replace H := ite_t q6 H
        obtain ⟨s3_14, hs3_14⟩ : ∃ z : Value → Sto → Prop, z = (fun v R => v = .pointer (some ⟨g1, (0 + 2), none⟩) ∧ R = s0) := ⟨_, rfl⟩
        refine have_op (l := [_, _, _, _, _, _, _, _, _, _, _, _, _, _, _, _, _, _, _, _, _, _, _, _, _, _, _, _, _, _, _, _, _, _, _, _, _]) shadowboxref06_Right.tab1 1 14 (fun sp => sp 14 = s3_14 ∧ sp 13 = s3_13) (fun sp on hA hon => ?_) (fun ops3_14 => ?_)
        · refine ⟨fun o ho vs Rs f' S' w hp hf hx hS hR hs => ?_⟩
          obtain rfl := Option.some.inj ho
          obtain ⟨hv13, hR13⟩ := (spe hA.2 hs3_13 (hp 13 (by kernel_rfl)))
          rw [hA.1, hs3_14]
          refine And.intro (fun a ha => (want_is (j := 13) (t := 16) (r := true) rfl rfl (by kernel_rfl) (((hf 13 16 (by kernel_rfl) rfl).trans hv13).trans (congrArg Value.bool (show (decide (a0.2.2.1 ≥ (1 : Int))) = true from dec_t q6))) rfl a ha).trans hon.symm) (And.intro (fun _ => ?_) (fun h => by rw [hon] at h; cases h))
          have hF := fr_next (fr_next (rfl) ((hx 1 (by kernel_rfl)).trans (by kernel_rfl : (_ : Value) = .pointer (some ⟨g1, 0, none⟩)))) (((hf 13 16 (by kernel_rfl) rfl).trans hv13).trans (congrArg Value.bool (show (decide (a0.2.2.1 ≥ (1 : Int))) = true from dec_t q6)))
          refine ls_fr hF ?_
          refine ls_val (v := .pointer (some ⟨g1, (0 + 2), none⟩)) rfl rfl (by kernel_rfl) (fun w => by kernel_rfl) ?_
          exact ls_fin s0 (.pointer (some ⟨g1, (0 + 2), none⟩)) (congrArg (fun z => upd z 17 _) hF.symm) ⟨rfl, rfl⟩ (sub_nil _)
        obtain ⟨s3_15, hs3_15⟩ : ∃ z : Value → Sto → Prop, z = (fun v R => v = .int .i64 a0.2.2.1 ∧ R = s0) := ⟨_, rfl⟩
        refine have_op (l := [_, _, _, _, _, _, _, _, _, _, _, _, _, _, _, _, _, _, _, _, _, _, _, _, _, _, _, _, _, _, _, _, _, _, _, _, _]) shadowboxref06_Right.tab1 1 15 (fun sp => sp 15 = s3_15 ∧ sp 13 = s3_13 ∧ sp 14 = s3_14) (fun sp on hA hon => ?_) (fun ops3_15 => ?_)
        · refine ⟨fun o ho vs Rs f' S' w hp hf hx hS hR hs => ?_⟩
          obtain rfl := Option.some.inj ho
          obtain ⟨hv13, hR13⟩ := (spe hA.2.1 hs3_13 (hp 13 (by kernel_rfl)))
          obtain ⟨hv14, hR14⟩ := (spe hA.2.2 hs3_14 (hp 14 (by kernel_rfl)))
          rw [hA.1, hs3_15]
          refine And.intro (fun a ha => (want_is (j := 13) (t := 16) (r := true) rfl rfl (by kernel_rfl) (((hf 13 16 (by kernel_rfl) rfl).trans hv13).trans (congrArg Value.bool (show (decide (a0.2.2.1 ≥ (1 : Int))) = true from dec_t q6))) rfl a ha).trans hon.symm) (And.intro (fun _ => ?_) (fun h => by rw [hon] at h; cases h))
          have hF := fr_next (fr_next (rfl) (((hf 13 16 (by kernel_rfl) rfl).trans hv13).trans (congrArg Value.bool (show (decide (a0.2.2.1 ≥ (1 : Int))) = true from dec_t q6)))) ((hf 14 17 (by kernel_rfl) rfl).trans hv14)
          refine ls_fr hF ?_
          refine ls_load (a0 := ⟨g1, (0 + 2), none⟩) (v := .int .i64 a0.2.2.1) (de := (TypeDesc.int .i64)) rfl rfl (by kernel_rfl) rfl (by kernel_rfl) (by kernel_rfl) (by kernel_rfl) (fun w1 hs1 => cell_step hs1.below.bw (hs.var (k := 0) ((hS 0 (by kernel_rfl)).trans (by exact rfl)) (Sub4.trans (Sub4.all _) (Sub4.skip (n := 1) (len1 _) (Sub4.skip (n := 1) (len1 _) (Sub4.head _ _)))))) ?_
          exact ls_fin s0 (.int .i64 a0.2.2.1) (congrArg (fun z => upd z 18 _) hF.symm) ⟨rfl, rfl⟩ (sub_nil _)
        obtain ⟨s3_16, hs3_16⟩ : ∃ z : Value → Sto → Prop, z = (fun v R => v = .bool (decide (a0.2.2.1 ≤ (65536 : Int))) ∧ R = s0) := ⟨_, rfl⟩
        refine have_op (l := [_, _, _, _, _, _, _, _, _, _, _, _, _, _, _, _, _, _, _, _, _, _, _, _, _, _, _, _, _, _, _, _, _, _, _, _, _]) shadowboxref06_Right.tab1 1 16 (fun sp => sp 16 = s3_16 ∧ sp 13 = s3_13 ∧ sp 15 = s3_15) (fun sp on hA hon => ?_) (fun ops3_16 => ?_)
        · refine ⟨fun o ho vs Rs f' S' w hp hf hx hS hR hs => ?_⟩
          obtain rfl := Option.some.inj ho
          obtain ⟨hv13, hR13⟩ := (spe hA.2.1 hs3_13 (hp 13 (by kernel_rfl)))
          obtain ⟨hv15, hR15⟩ := (spe hA.2.2 hs3_15 (hp 15 (by kernel_rfl)))
          rw [hA.1, hs3_16]
          refine And.intro (fun a ha => (want_is (j := 13) (t := 16) (r := true) rfl rfl (by kernel_rfl) (((hf 13 16 (by kernel_rfl) rfl).trans hv13).trans (congrArg Value.bool (show (decide (a0.2.2.1 ≥ (1 : Int))) = true from dec_t q6))) rfl a ha).trans hon.symm) (And.intro (fun _ => ?_) (fun h => by rw [hon] at h; cases h))
          have hF := fr_next (fr_next (rfl) (((hf 13 16 (by kernel_rfl) rfl).trans hv13).trans (congrArg Value.bool (show (decide (a0.2.2.1 ≥ (1 : Int))) = true from dec_t q6)))) ((hf 15 18 (by kernel_rfl) rfl).trans hv15)
          refine ls_fr hF ?_
          refine ls_val (v := .bool (decide (a0.2.2.1 ≤ (65536 : Int)))) rfl rfl (by kernel_rfl) (fun w => by kernel_rfl) ?_
          exact ls_fin s0 (.bool (decide (a0.2.2.1 ≤ (65536 : Int)))) (congrArg (fun z => upd z 19 _) hF.symm) ⟨rfl, rfl⟩ (sub_nil _)
        obtain ⟨s3_17, hs3_17⟩ : ∃ z : Value → Sto → Prop, z = (fun v R => v = .bool (decide (a0.2.2.1 ≤ (65536 : Int))) ∧ R = s0) := ⟨_, rfl⟩
        refine have_op (l := [_, _, _, _, _, _, _, _, _, _, _, _, _, _, _, _, _, _, _, _, _, _, _, _, _, _, _, _, _, _, _, _, _, _, _, _, _]) shadowboxref06_Right.tab1 1 17 (fun sp => sp 17 = s3_17 ∧ sp 13 = s3_13 ∧ sp 16 = s3_16) (fun sp on hA hon => ?_) (fun ops3_17 => ?_)
        · refine ⟨fun o ho vs Rs f' S' w hp hf hx hS hR hs => ?_⟩
          obtain rfl := Option.some.inj ho
          obtain ⟨hv13, hR13⟩ := (spe hA.2.1 hs3_13 (hp 13 (by kernel_rfl)))
          obtain ⟨hv16, hR16⟩ := (spe hA.2.2 hs3_16 (hp 16 (by kernel_rfl)))
          rw [hA.1, hs3_17]
          refine And.intro (fun a ha => (want_none rfl a ha).trans hon.symm) (And.intro (fun _ => ?_) (fun h => by rw [hon] at h; cases h))
          have hF := fr_next (fr_next (rfl) (((hf 13 16 (by kernel_rfl) rfl).trans hv13).trans (congrArg Value.bool (show (decide (a0.2.2.1 ≥ (1 : Int))) = true from dec_t q6)))) ((hf 16 19 (by kernel_rfl) rfl).trans hv16)
          refine ls_fr hF ?_
          refine ls_val (v := .bool (decide (a0.2.2.1 ≤ (65536 : Int)))) rfl rfl (by kernel_rfl) (fun w => by kernel_rfl) ?_
          exact ls_fin s0 (.bool (decide (a0.2.2.1 ≤ (65536 : Int)))) (congrArg (fun z => upd z 20 _) hF.symm) ⟨rfl, rfl⟩ (sub_nil _)
        obtain ⟨s3_18, hs3_18⟩ : ∃ z : Value → Sto → Prop, z = (fun v R => v = .bool (decide (a0.2.2.1 ≤ (65536 : Int))) ∧ R = s0) := ⟨_, rfl⟩
        refine have_op (l := [_, _, _, _, _, _, _, _, _, _, _, _, _, _, _, _, _, _, _, _, _, _, _, _, _, _, _, _, _, _, _, _, _, _, _, _, _]) shadowboxref06_Right.tab1 1 18 (fun sp => sp 18 = s3_18 ∧ sp 17 = s3_17) (fun sp on hA hon => ?_) (fun ops3_18 => ?_)
        · refine ⟨fun o ho vs Rs f' S' w hp hf hx hS hR hs => ?_⟩
          obtain rfl := Option.some.inj ho
          obtain ⟨hv17, hR17⟩ := (spe hA.2 hs3_17 (hp 17 (by kernel_rfl)))
          rw [hA.1, hs3_18]
          refine And.intro (fun a ha => (want_none rfl a ha).trans hon.symm) (And.intro (fun _ => ?_) (fun h => by rw [hon] at h; cases h))
          have hF := fr_next (rfl) ((hf 17 20 (by kernel_rfl) rfl).trans hv17)
          refine ls_fr hF ?_
          refine ls_val (v := .bool (decide (a0.2.2.1 ≤ (65536 : Int)))) rfl rfl (by kernel_rfl) (fun w => by kernel_rfl) ?_
          exact ls_fin s0 (.bool (decide (a0.2.2.1 ≤ (65536 : Int)))) (congrArg (fun z => upd z 21 _) hF.symm) ⟨rfl, rfl⟩ (sub_nil _)
        by_cases q7 : a0.2.2.1 ≤ (65536 : Int)
        · replace H := ite_t q7 H
          obtain ⟨s3_19, hs3_19⟩ : ∃ z : Value → Sto → Prop, z = (fun v R => v = .pointer (some ⟨g1, (0 + 0), none⟩) ∧ R = s0) := ⟨_, rfl⟩
          refine have_op (l := [_, _, _, _, _, _, _, _, _, _, _, _, _, _, _, _, _, _, _, _, _, _, _, _, _, _, _, _, _, _, _, _, _, _, _, _, _]) shadowboxref06_Right.tab1 1 19 (fun sp => sp 19 = s3_19 ∧ sp 18 = s3_18) (fun sp on hA hon => ?_) (fun ops3_19 => ?_)
          · refine ⟨fun o ho vs Rs f' S' w hp hf hx hS hR hs => ?_⟩
            obtain rfl := Option.some.inj ho
            obtain ⟨hv18, hR18⟩ := (spe hA.2 hs3_18 (hp 18 (by kernel_rfl)))
            rw [hA.1, hs3_19]
            refine And.intro (fun a ha => (want_is (j := 18) (t := 21) (r := true) rfl rfl (by kernel_rfl) (((hf 18 21 (by kernel_rfl) rfl).trans hv18).trans (congrArg Value.bool (show (decide (a0.2.2.1 ≤ (65536 : Int))) = true from dec_t q7))) rfl a ha).trans hon.symm) (And.intro (fun _ => ?_) (fun h => by rw [hon] at h; cases h))
            have hF := fr_next (fr_next (rfl) ((hx 1 (by kernel_rfl)).trans (by kernel_rfl : (_ : Value) = .pointer (some ⟨g1, 0, none⟩)))) (((hf 18 21 (by kernel_rfl) rfl).trans hv18).trans (congrArg Value.bool (show (decide (a0.2.2.1 ≤ (65536 : Int))) = true from dec_t q7)))
            refine ls_fr hF ?_
            refine ls_val (v := .pointer (some ⟨g1, (0 + 0), none⟩)) rfl rfl (by kernel_rfl) (fun w => by kernel_rfl) ?_
            exact ls_fin s0 (.pointer (some ⟨g1, (0 + 0), none⟩)) (congrArg (fun z => upd z 22 _) hF.symm) ⟨rfl, rfl⟩ (sub_nil _)
          obtain ⟨s3_20, hs3_20⟩ : ∃ z : Value → Sto → Prop, z = (fun v R => v = .int .i64 a0.1 ∧ R = s0) := ⟨_, rfl⟩
          refine have_op (l := [_, _, _, _, _, _, _, _, _, _, _, _, _, _, _, _, _, _, _, _, _, _, _, _, _, _, _, _, _, _, _, _, _, _, _, _, _]) shadowboxref06_Right.tab1 1 20 (fun sp => sp 20 = s3_20 ∧ sp 18 = s3_18 ∧ sp 19 = s3_19) (fun sp on hA hon => ?_) (fun ops3_20 => ?_)
          · refine ⟨fun o ho vs Rs f' S' w hp hf hx hS hR hs => ?_⟩
            obtain rfl := Option.some.inj ho
            obtain ⟨hv18, hR18⟩ := (spe hA.2.1 hs3_18 (hp 18 (by kernel_rfl)))
            obtain ⟨hv19, hR19⟩ := (spe hA.2.2 hs3_19 (hp 19 (by kernel_rfl)))
            rw [hA.1, hs3_20]
            refine And.intro (fun a ha => (want_is (j := 18) (t := 21) (r := true) rfl rfl (by kernel_rfl) (((hf 18 21 (by kernel_rfl) rfl).trans hv18).trans (congrArg Value.bool (show (decide (a0.2.2.1 ≤ (65536 : Int))) = true from dec_t q7))) rfl a ha).trans hon.symm) (And.intro (fun _ => ?_) (fun h => by rw [hon] at h; cases h))
            have hF := fr_next (fr_next (rfl) (((hf 18 21 (by kernel_rfl) rfl).trans hv18).trans (congrArg Value.bool (show (decide (a0.2.2.1 ≤ (65536 : Int))) = true from dec_t q7)))) ((hf 19 22 (by kernel_rfl) rfl).trans hv19)
            refine ls_fr hF ?_
            refine ls_load (a0 := ⟨g1, (0 + 0), none⟩) (v := .int .i64 a0.1) (de := (TypeDesc.int .i64)) rfl rfl (by kernel_rfl) rfl (by kernel_rfl) (by kernel_rfl) (by kernel_rfl) (fun w1 hs1 => cell_step hs1.below.bw (hs.var (k := 0) ((hS 0 (by kernel_rfl)).trans (by exact rfl)) (Sub4.trans (Sub4.all _) (Sub4.head _ _)))) ?_
            exact ls_fin s0 (.int .i64 a0.1) (congrArg (fun z => upd z 23 _) hF.symm) ⟨rfl, rfl⟩ (sub_nil _)
          obtain ⟨s3_21, hs3_21⟩ : ∃ z : Value → Sto → Prop, z = (fun v R => v = .bool (decide (a0.1 ≥ (2 : Int))) ∧ R = s0) := ⟨_, rfl⟩
          refine have_op (l := [_, _, _, _, _, _, _, _, _, _, _, _, _, _, _, _, _, _, _, _, _, _, _, _, _, _, _, _, _, _, _, _, _, _, _, _, _]) shadowboxref06_Right.tab1 1 21 (fun sp => sp 21 = s3_21 ∧ sp 18 = s3_18 ∧ sp 20 = s3_20) (fun sp on hA hon => ?_) (fun ops3_21 => ?_)
          · refine ⟨fun o ho vs Rs f' S' w hp hf hx hS hR hs => ?_⟩
            obtain rfl := Option.some.inj ho
            obtain ⟨hv18, hR18⟩ := (spe hA.2.1 hs3_18 (hp 18 (by kernel_rfl)))
            obtain ⟨hv20, hR20⟩ := (spe hA.2.2 hs3_20 (hp 20 (by kernel_rfl)))
            rw [hA.1, hs3_21]
            refine And.intro (fun a ha => (want_is (j := 18) (t := 21) (r := true) rfl rfl (by kernel_rfl) (((hf 18 21 (by kernel_rfl) rfl).trans hv18).trans (congrArg Value.bool (show (decide (a0.2.2.1 ≤ (65536 : Int))) = true from dec_t q7))) rfl a ha).trans hon.symm) (And.intro (fun _ => ?_) (fun h => by rw [hon] at h; cases h))
            have hF := fr_next (fr_next (rfl) (((hf 18 21 (by kernel_rfl) rfl).trans hv18).trans (congrArg Value.bool (show (decide (a0.2.2.1 ≤ (65536 : Int))) = true from dec_t q7)))) ((hf 20 23 (by kernel_rfl) rfl).trans hv20)
            refine ls_fr hF ?_
            refine ls_val (v := .bool (decide (a0.1 ≥ (2 : Int)))) rfl rfl (by kernel_rfl) (fun w => by kernel_rfl) ?_
            exact ls_fin s0 (.bool (decide (a0.1 ≥ (2 : Int)))) (congrArg (fun z => upd z 24 _) hF.symm) ⟨rfl, rfl⟩ (sub_nil _)
          obtain ⟨s3_22, hs3_22⟩ : ∃ z : Value → Sto → Prop, z = (fun v R => v = .bool (decide (a0.1 ≥ (2 : Int))) ∧ R = s0) := ⟨_, rfl⟩
          refine have_op (l := [_, _, _, _, _, _, _, _, _, _, _, _, _, _, _, _, _, _, _, _, _, _, _, _, _, _, _, _, _, _, _, _, _, _, _, _, _]) shadowboxref06_Right.tab1 1 22 (fun sp => sp 22 = s3_22 ∧ sp 18 = s3_18 ∧ sp 21 = s3_21) (fun sp on hA hon => ?_) (fun ops3_22 => ?_)
          · refine ⟨fun o ho vs Rs f' S' w hp hf hx hS hR hs => ?_⟩
            obtain rfl := Option.some.inj ho
            obtain ⟨hv18, hR18⟩ := (spe hA.2.1 hs3_18 (hp 18 (by kernel_rfl)))
            obtain ⟨hv21, hR21⟩ := (spe hA.2.2 hs3_21 (hp 21 (by kernel_rfl)))
            rw [hA.1, hs3_22]
            refine And.intro (fun a ha => (want_none rfl a ha).trans hon.symm) (And.intro (fun _ => ?_) (fun h => by rw [hon] at h; cases h))
            have hF := fr_next (fr_next (rfl) (((hf 18 21 (by kernel_rfl) rfl).trans hv18).trans (congrArg Value.bool (show (decide (a0.2.2.1 ≤ (65536 : Int))) = true from dec_t q7)))) ((hf 21 24 (by kernel_rfl) rfl).trans hv21)
            refine ls_fr hF ?_
            refine ls_val (v := .bool (decide (a0.1 ≥ (2 : Int)))) rfl rfl (by kernel_rfl) (fun w => by kernel_rfl) ?_
            exact ls_fin s0 (.bool (decide (a0.1 ≥ (2 : Int)))) (congrArg (fun z => upd z 25 _) hF.symm) ⟨rfl, rfl⟩ (sub_nil _)
          obtain ⟨s3_23, hs3_23⟩ : ∃ z : Value → Sto → Prop, z = (fun v R => v = .bool (decide (a0.1 ≥ (2 : Int))) ∧ R = s0) := ⟨_, rfl⟩
          refine have_op (l := [_, _, _, _, _, _, _, _, _, _, _, _, _, _, _, _, _, _, _, _, _, _, _, _, _, _, _, _, _, _, _, _, _, _, _, _, _]) shadowboxref06_Right.tab1 1 23 (fun sp => sp 23 = s3_23 ∧ sp 22 = s3_22) (fun sp on hA hon => ?_) (fun ops3_23 => ?_)
          · refine ⟨fun o ho vs Rs f' S' w hp hf hx hS hR hs => ?_⟩
            obtain rfl := Option.some.inj ho
            obtain ⟨hv22, hR22⟩ := (spe hA.2 hs3_22 (hp 22 (by kernel_rfl)))
            rw [hA.1, hs3_23]
            refine And.intro (fun a ha => (want_none rfl a ha).trans hon.symm) (And.intro (fun _ => ?_) (fun h => by rw [hon] at h; cases h))
            have hF := fr_next (rfl) ((hf 22 25 (by kernel_rfl) rfl).trans hv22)
            refine ls_fr hF ?_
            refine ls_val (v := .bool (decide (a0.1 ≥ (2 : Int)))) rfl rfl (by kernel_rfl) (fun w => by kernel_rfl) ?_
            exact ls_fin s0 (.bool (decide (a0.1 ≥ (2 : Int)))) (congrArg (fun z => upd z 26 _) hF.symm) ⟨rfl, rfl⟩ (sub_nil _)
          by_cases q8 : a0.1 ≥ (2 : Int)
          · replace H := ite_t q8 H
            obtain ⟨s3_24, hs3_24⟩ : ∃ z : Value → Sto → Prop, z = (fun v R => v = .pointer (some ⟨g1, (0 + 0), none⟩) ∧ R = s0) := ⟨_, rfl⟩
            refine have_op (l := [_, _, _, _, _, _, _, _, _, _, _, _, _, _, _, _, _, _, _, _, _, _, _, _, _, _, _, _, _, _, _, _, _, _, _, _, _]) shadowboxref06_Right.tab1 1 24 (fun sp => sp 24 = s3_24 ∧ sp 23 = s3_23) (fun sp on hA hon => ?_) (fun ops3_24 => ?_)
            · refine ⟨fun o ho vs Rs f' S' w hp hf hx hS hR hs => ?_⟩
              obtain rfl := Option.some.inj ho
              obtain ⟨hv23, hR23⟩ := (spe hA.2 hs3_23 (hp 23 (by kernel_rfl)))
              rw [hA.1, hs3_24]
              refine And.intro (fun a ha => (want_is (j := 23) (t := 26) (r := true) rfl rfl (by kernel_rfl) (((hf 23 26 (by kernel_rfl) rfl).trans hv23).trans (congrArg Value.bool (show (decide (a0.1 ≥ (2 : Int))) = true from dec_t q8))) rfl a ha).trans hon.symm) (And.intro (fun _ => ?_) (fun h => by rw [hon] at h; cases h))
              have hF := fr_next (fr_next (rfl) ((hx 1 (by kernel_rfl)).trans (by kernel_rfl : (_ : Value) = .pointer (some ⟨g1, 0, none⟩)))) (((hf 23 26 (by kernel_rfl) rfl).trans hv23).trans (congrArg Value.bool (show (decide (a0.1 ≥ (2 : Int))) = true from dec_t q8)))
              refine ls_fr hF ?_
              refine ls_val (v := .pointer (some ⟨g1, (0 + 0), none⟩)) rfl rfl (by kernel_rfl) (fun w => by kernel_rfl) ?_
              exact ls_fin s0 (.pointer (some ⟨g1, (0 + 0), none⟩)) (congrArg (fun z => upd z 27 _) hF.symm) ⟨rfl, rfl⟩ (sub_nil _)
            obtain ⟨s3_25, hs3_25⟩ : ∃ z : Value → Sto → Prop, z = (fun v R => v = .int .i64 a0.1 ∧ R = s0) := ⟨_, rfl⟩
            refine have_op (l := [_, _, _, _, _, _, _, _, _, _, _, _, _, _, _, _, _, _, _, _, _, _, _, _, _, _, _, _, _, _, _, _, _, _, _, _, _]) shadowboxref06_Right.tab1 1 25 (fun sp => sp 25 = s3_25 ∧ sp 23 = s3_23 ∧ sp 24 = s3_24) (fun sp on hA hon => ?_) (fun ops3_25 => ?_)
            · refine ⟨fun o ho vs Rs f' S' w hp hf hx hS hR hs => ?_⟩
              obtain rfl := Option.some.inj ho
              obtain ⟨hv23, hR23⟩ := (spe hA.2.1 hs3_23 (hp 23 (by kernel_rfl)))
              obtain ⟨hv24, hR24⟩ := (spe hA.2.2 hs3_24 (hp 24 (by kernel_rfl)))
              rw [hA.1, hs3_25]
              refine And.intro (fun a ha => (want_is (j := 23) (t := 26) (r := true) rfl rfl (by kernel_rfl) (((hf 23 26 (by kernel_rfl) rfl).trans hv23).trans (congrArg Value.bool (show (decide (a0.1 ≥ (2 : Int))) = true from dec_t q8))) rfl a ha).trans hon.symm) (And.intro (fun _ => ?_) (fun h => by rw [hon] at h; cases h))
              have hF := fr_next (fr_next (rfl) (((hf 23 26 (by kernel_rfl) rfl).trans hv23).trans (congrArg Value.bool (show (decide (a0.1 ≥ (2 : Int))) = true from dec_t q8)))) ((hf 24 27 (by kernel_rfl) rfl).trans hv24)
              refine ls_fr hF ?_
              refine ls_load (a0 := ⟨g1, (0 + 0), none⟩) (v := .int .i64 a0.1) (de := (TypeDesc.int .i64)) rfl rfl (by kernel_rfl) rfl (by kernel_rfl) (by kernel_rfl) (by kernel_rfl) (fun w1 hs1 => cell_step hs1.below.bw (hs.var (k := 0) ((hS 0 (by kernel_rfl)).trans (by exact rfl)) (Sub4.trans (Sub4.all _) (Sub4.head _ _)))) ?_
              exact ls_fin s0 (.int .i64 a0.1) (congrArg (fun z => upd z 28 _) hF.symm) ⟨rfl, rfl⟩ (sub_nil _)
            obtain ⟨s3_26, hs3_26⟩ : ∃ z : Value → Sto → Prop, z = (fun v R => v = .bool (decide (a0.1 ≤ (8192 : Int))) ∧ R = s0) := ⟨_, rfl⟩
            refine have_op (l := [_, _, _, _, _, _, _, _, _, _, _, _, _, _, _, _, _, _, _, _, _, _, _, _, _, _, _, _, _, _, _, _, _, _, _, _, _]) shadowboxref06_Right.tab1 1 26 (fun sp => sp 26 = s3_26 ∧ sp 23 = s3_23 ∧ sp 25 = s3_25) (fun sp on hA hon => ?_) (fun ops3_26 => ?_)
            · refine ⟨fun o ho vs Rs f' S' w hp hf hx hS hR hs => ?_⟩
              obtain rfl := Option.some.inj ho
              obtain ⟨hv23, hR23⟩ := (spe hA.2.1 hs3_23 (hp 23 (by kernel_rfl)))
              obtain ⟨hv25, hR25⟩ := (spe hA.2.2 hs3_25 (hp 25 (by kernel_rfl)))
              rw [hA.1, hs3_26]
              refine And.intro (fun a ha => (want_is (j := 23) (t := 26) (r := true) rfl rfl (by kernel_rfl) (((hf 23 26 (by kernel_rfl) rfl).trans hv23).trans (congrArg Value.bool (show (decide (a0.1 ≥ (2 : Int))) = true from dec_t q8))) rfl a ha).trans hon.symm) (And.intro (fun _ => ?_) (fun h => by rw [hon] at h; cases h))
              have hF := fr_next (fr_next (rfl) (((hf 23 26 (by kernel_rfl) rfl).trans hv23).trans (congrArg Value.bool (show (decide (a0.1 ≥ (2 : Int))) = true from dec_t q8)))) ((hf 25 28 (by kernel_rfl) rfl).trans hv25)
              refine ls_fr hF ?_
              refine ls_val (v := .bool (decide (a0.1 ≤ (8192 : Int)))) rfl rfl (by kernel_rfl) (fun w => by kernel_rfl) ?_
              exact ls_fin s0 (.bool (decide (a0.1 ≤ (8192 : Int)))) (congrArg (fun z => upd z 29 _) hF.symm) ⟨rfl, rfl⟩ (sub_nil _)
            obtain ⟨s3_27, hs3_27⟩ : ∃ z : Value → Sto → Prop, z = (fun v R => v = .bool (decide (a0.1 ≤ (8192 : Int))) ∧ R = s0) := ⟨_, rfl⟩
            refine have_op (l := [_, _, _, _, _, _, _, _, _, _, _, _, _, _, _, _, _, _, _, _, _, _, _, _, _, _, _, _, _, _, _, _, _, _, _, _, _]) shadowboxref06_Right.tab1 1 27 (fun sp => sp 27 = s3_27 ∧ sp 23 = s3_23 ∧ sp 26 = s3_26) (fun sp on hA hon => ?_) (fun ops3_27 => ?_)
            · refine ⟨fun o ho vs Rs f' S' w hp hf hx hS hR hs => ?_⟩
              obtain rfl := Option.some.inj ho
              obtain ⟨hv23, hR23⟩ := (spe hA.2.1 hs3_23 (hp 23 (by kernel_rfl)))
              obtain ⟨hv26, hR26⟩ := (spe hA.2.2 hs3_26 (hp 26 (by kernel_rfl)))
              rw [hA.1, hs3_27]
              refine And.intro (fun a ha => (want_none rfl a ha).trans hon.symm) (And.intro (fun _ => ?_) (fun h => by rw [hon] at h; cases h))
              have hF := fr_next (fr_next (rfl) (((hf 23 26 (by kernel_rfl) rfl).trans hv23).trans (congrArg Value.bool (show (decide (a0.1 ≥ (2 : Int))) = true from dec_t q8)))) ((hf 26 29 (by kernel_rfl) rfl).trans hv26)
              refine ls_fr hF ?_
              refine ls_val (v := .bool (decide (a0.1 ≤ (8192 : Int)))) rfl rfl (by kernel_rfl) (fun w => by kernel_rfl) ?_
              exact ls_fin s0 (.bool (decide (a0.1 ≤ (8192 : Int)))) (congrArg (fun z => upd z 30 _) hF.symm) ⟨rfl, rfl⟩ (sub_nil _)
            obtain ⟨s3_28, hs3_28⟩ : ∃ z : Value → Sto → Prop, z = (fun v R => v = .bool (decide (a0.1 ≤ (8192 : Int))) ∧ R = s0) := ⟨_, rfl⟩
            refine have_op (l := [_, _, _, _, _, _, _, _, _, _, _, _, _, _, _, _, _, _, _, _, _, _, _, _, _, _, _, _, _, _, _, _, _, _, _, _, _]) shadowboxref06_Right.tab1 1 28 (fun sp => sp 28 = s3_28 ∧ sp 27 = s3_27) (fun sp on hA hon => ?_) (fun ops3_28 => ?_)
            · refine ⟨fun o ho vs Rs f' S' w hp hf hx hS hR hs => ?_⟩
              obtain rfl := Option.some.inj ho
              obtain ⟨hv27, hR27⟩ := (spe hA.2 hs3_27 (hp 27 (by kernel_rfl)))
              rw [hA.1, hs3_28]
              refine And.intro (fun a ha => (want_none rfl a ha).trans hon.symm) (And.intro (fun _ => ?_) (fun h => by rw [hon] at h; cases h))
              have hF := fr_next (rfl) ((hf 27 30 (by kernel_rfl) rfl).trans hv27)
              refine ls_fr hF ?_
              refine ls_val (v := .bool (decide (a0.1 ≤ (8192 : Int)))) rfl rfl (by kernel_rfl) (fun w => by kernel_rfl) ?_
              exact ls_fin s0 (.bool (decide (a0.1 ≤ (8192 : Int)))) (congrArg (fun z => upd z 31 _) hF.symm) ⟨rfl, rfl⟩ (sub_nil _)
            by_cases q9 : a0.1 ≤ (8192 : Int)
            · replace H := ite_t q9 H
              obtain ⟨s3_29, hs3_29⟩ : ∃ z : Value → Sto → Prop, z = (fun v R => v = .pointer (some ⟨g1, (0 + 0), none⟩) ∧ R = s0) := ⟨_, rfl⟩
              refine have_op (l := [_, _, _, _, _, _, _, _, _, _, _, _, _, _, _, _, _, _, _, _, _, _, _, _, _, _, _, _, _, _, _, _, _, _, _, _, _]) shadowboxref06_Right.tab1 1 29 (fun sp => sp 29 = s3_29 ∧ sp 28 = s3_28) (fun sp on hA hon => ?_) (fun ops3_29 => ?_)
              · refine ⟨fun o ho vs Rs f' S' w hp hf hx hS hR hs => ?_⟩
                obtain rfl := Option.some.inj ho
                obtain ⟨hv28, hR28⟩ := (spe hA.2 hs3_28 (hp 28 (by kernel_rfl)))
                rw [hA.1, hs3_29]
                refine And.intro (fun a ha => (want_is (j := 28) (t := 31) (r := true) rfl rfl (by kernel_rfl) (((hf 28 31 (by kernel_rfl) rfl).trans hv28).trans (congrArg Value.bool (show (decide (a0.1 ≤ (8192 : Int))) = true from dec_t q9))) rfl a ha).trans hon.symm) (And.intro (fun _ => ?_) (fun h => by rw [hon] at h; cases h))
                have hF := fr_next (fr_next (rfl) ((hx 1 (by kernel_rfl)).trans (by kernel_rfl : (_ : Value) = .pointer (some ⟨g1, 0, none⟩)))) (((hf 28 31 (by kernel_rfl) rfl).trans hv28).trans (congrArg Value.bool (show (decide (a0.1 ≤ (8192 : Int))) = true from dec_t q9)))
                refine ls_fr hF ?_
                refine ls_val (v := .pointer (some ⟨g1, (0 + 0), none⟩)) rfl rfl (by kernel_rfl) (fun w => by kernel_rfl) ?_
                exact ls_fin s0 (.pointer (some ⟨g1, (0 + 0), none⟩)) (congrArg (fun z => upd z 32 _) hF.symm) ⟨rfl, rfl⟩ (sub_nil _)
              obtain ⟨s3_30, hs3_30⟩ : ∃ z : Value → Sto → Prop, z = (fun v R => v = .int .i64 a0.1 ∧ R = s0) := ⟨_, rfl⟩
              refine have_op (l := [_, _, _, _, _, _, _, _, _, _, _, _, _, _, _, _, _, _, _, _, _, _, _, _, _, _, _, _, _, _, _, _, _, _, _, _, _]) shadowboxref06_Right.tab1 1 30 (fun sp => sp 30 = s3_30 ∧ sp 28 = s3_28 ∧ sp 29 = s3_29) (fun sp on hA hon => ?_) (fun ops3_30 => ?_)
              · refine ⟨fun o ho vs Rs f' S' w hp hf hx hS hR hs => ?_⟩
                obtain rfl := Option.some.inj ho
                obtain ⟨hv28, hR28⟩ := (spe hA.2.1 hs3_28 (hp 28 (by kernel_rfl)))
                obtain ⟨hv29, hR29⟩ := (spe hA.2.2 hs3_29 (hp 29 (by kernel_rfl)))
                rw [hA.1, hs3_30]
                refine And.intro (fun a ha => (want_is (j := 28) (t := 31) (r := true) rfl rfl (by kernel_rfl) (((hf 28 31 (by kernel_rfl) rfl).trans hv28).trans (congrArg Value.bool (show (decide (a0.1 ≤ (8192 : Int))) = true from dec_t q9))) rfl a ha).trans hon.symm) (And.intro (fun _ => ?_) (fun h => by rw [hon] at h; cases h))
                have hF := fr_next (fr_next (rfl) (((hf 28 31 (by kernel_rfl) rfl).trans hv28).trans (congrArg Value.bool (show (decide (a0.1 ≤ (8192 : Int))) = true from dec_t q9)))) ((hf 29 32 (by kernel_rfl) rfl).trans hv29)
                refine ls_fr hF ?_
                refine ls_load (a0 := ⟨g1, (0 + 0), none⟩) (v := .int .i64 a0.1) (de := (TypeDesc.int .i64)) rfl rfl (by kernel_rfl) rfl (by kernel_rfl) (by kernel_rfl) (by kernel_rfl) (fun w1 hs1 => cell_step hs1.below.bw (hs.var (k := 0) ((hS 0 (by kernel_rfl)).trans (by exact rfl)) (Sub4.trans (Sub4.all _) (Sub4.head _ _)))) ?_
                exact ls_fin s0 (.int .i64 a0.1) (congrArg (fun z => upd z 33 _) hF.symm) ⟨rfl, rfl⟩ (sub_nil _)
              obtain ⟨s3_31, hs3_31⟩ : ∃ z : Value → Sto → Prop, z = (fun v R => v = .agg ⟨([Value.int .i64 a0.1] ++ ([Value.int .i64 a0.2.1] ++ ([Value.int .i64 a0.2.2.1] ++ ([Value.int .u32 a0.2.2.2.1] ++ en (Value.int .u8) a0.2.2.2.2.1))))⟩ ∧ R = s0) := ⟨_, rfl⟩
              refine have_op (l := [_, _, _, _, _, _, _, _, _, _, _, _, _, _, _, _, _, _, _, _, _, _, _, _, _, _, _, _, _, _, _, _, _, _, _, _, _]) shadowboxref06_Right.tab1 1 31 (fun sp => sp 31 = s3_31 ∧ sp 28 = s3_28) (fun sp on hA hon => ?_) (fun ops3_31 => ?_)
              · refine ⟨fun o ho vs Rs f' S' w hp hf hx hS hR hs => ?_⟩
                obtain rfl := Option.some.inj ho
                obtain ⟨hv28, hR28⟩ := (spe hA.2 hs3_28 (hp 28 (by kernel_rfl)))
                rw [hA.1, hs3_31]
                refine And.intro (fun a ha => (want_is (j := 28) (t := 31) (r := true) rfl rfl (by kernel_rfl) (((hf 28 31 (by kernel_rfl) rfl).trans hv28).trans (congrArg Value.bool (show (decide (a0.1 ≤ (8192 : Int))) = true from dec_t q9))) rfl a ha).trans hon.symm) (And.intro (fun _ => ?_) (fun h => by rw [hon] at h; cases h))
                have hF := fr_next (fr_next (rfl) ((hx 1 (by kernel_rfl)).trans (by kernel_rfl : (_ : Value) = .pointer (some ⟨g1, 0, none⟩)))) (((hf 28 31 (by kernel_rfl) rfl).trans hv28).trans (congrArg Value.bool (show (decide (a0.1 ≤ (8192 : Int))) = true from dec_t q9)))
                refine ls_fr hF ?_
                refine ls_loadagg (a := ⟨g1, 0, none⟩) (sub := ([Value.int .i64 a0.1] ++ ([Value.int .i64 a0.2.1] ++ ([Value.int .i64 a0.2.2.1] ++ ([Value.int .u32 a0.2.2.2.1] ++ en (Value.int .u8) a0.2.2.2.2.1))))) rfl rfl (by kernel_rfl) rfl (by kernel_rfl) (by kernel_rfl) (by kernel_rfl) (len_app (len1 _) (len_app (len1 _) (len_app (len1 _) (len_app (len1 _) (len_en _ a0.2.2.2.2))))) (fun w1 hs1 => Rd.step (hs.vars (k := 0) ((hS 0 (by kernel_rfl)).trans (by exact rfl)) (Sub4.all _)) hs1.below.bw) ?_
                exact ls_fin s0 (.agg ⟨([Value.int .i64 a0.1] ++ ([Value.int .i64 a0.2.1] ++ ([Value.int .i64 a0.2.2.1] ++ ([Value.int .u32 a0.2.2.2.1] ++ en (Value.int .u8) a0.2.2.2.2.1))))⟩) (congrArg (fun z => upd z 34 _) hF.symm) ⟨rfl, rfl⟩ (sub_nil _)
              obtain ⟨t10, hc11, H⟩ := bind_some H
              obtain ⟨s3_32, hs3_32⟩ : ∃ z : Value → Sto → Prop, z = (fun v R => ∃ x12 : Unit, v = .int .i64 t10 ∧ R = stl []) := ⟨_, rfl⟩
              refine have_op (l := [_, _, _, _, _, _, _, _, _, _, _, _, _, _, _, _, _, _, _, _, _, _, _, _, _, _, _, _, _, _, _, _, _, _, _, _, _]) shadowboxref06_Right.tab1 1 32 (fun sp => sp 32 = s3_32 ∧ sp 28 = s3_28 ∧ sp 31 = s3_31) (fun sp on hA hon => ?_) (fun ops3_32 => ?_)
              · refine ⟨fun o ho vs Rs f' S' w hp hf hx hS hR hs => ?_⟩
                obtain rfl := Option.some.inj ho
                obtain ⟨hv28, hR28⟩ := (spe hA.2.1 hs3_28 (hp 28 (by kernel_rfl)))
                obtain ⟨hv31, hR31⟩ := (spe hA.2.2 hs3_31 (hp 31 (by kernel_rfl)))
                rw [hA.1, hs3_32]
                refine And.intro (fun a ha => (want_is (j := 28) (t := 31) (r := true) rfl rfl (by kernel_rfl) (((hf 28 31 (by kernel_rfl) rfl).trans hv28).trans (congrArg Value.bool (show (decide (a0.1 ≤ (8192 : Int))) = true from dec_t q9))) rfl a ha).trans hon.symm) (And.intro (fun _ => ?_) (fun h => by rw [hon] at h; cases h))
                have hF := fr_next (fr_next (rfl) (((hf 28 31 (by kernel_rfl) rfl).trans hv28).trans (congrArg Value.bool (show (decide (a0.1 ≤ (8192 : Int))) = true from dec_t q9)))) ((hf 31 34 (by kernel_rfl) rfl).trans hv31)
                refine ls_fr hF ?_
                refine ls_call (fid := 17) (vals := #[.agg ⟨([Value.int .i64 a0.1] ++ ([Value.int .i64 a0.2.1] ++ ([Value.int .i64 a0.2.2.1] ++ ([Value.int .u32 a0.2.2.2.1] ++ en (Value.int .u8) a0.2.2.2.2.1))))⟩]) (X := Unit) (fun x => .int .i64 t10) (fun x => stl []) 0 rfl rfl (by kernel_rfl) (fun w => by kernel_rfl) (fun w1 hs1 => shadowboxref06_Sectors.calls k a0 t10 (bw w1) (St.refl w1)  hc11) ?_
                intro x12
                exact ls_fin (stl []) (.int .i64 t10) (congrArg (fun z => upd z 35 _) hF.symm) ⟨x12, rfl, rfl⟩ (sub_join _)
              refine cs_draw shadowboxref06_Right.tab1 33 1 (spl [s3_0, s3_1, s3_2, s3_3, s3_4, s3_5, s3_6, s3_7, s3_8, s3_9, s3_10, s3_11, s3_12, s3_13, s3_14, s3_15, s3_16, s3_17, s3_18, s3_19, s3_20, s3_21, s3_22, s3_23, s3_24, s3_25, s3_26, s3_27, s3_28, s3_29, s3_30, s3_31, s3_32]) (onl [true, true, true, true, true, true, true, true, true, true, true, true, true, true, true, true, true, true, true, true, true, true, true, true, true, true, true, true, true, true, true, true, true]) (by kernel_rfl) (by kernel_rfl) (by kernel_rfl) (by kernel_rfl) (rs := [_, _, _, _]) rfl (by kernel_rfl) (by kernel_rfl) (all_snoc (all_snoc (all_snoc (all_snoc (all_snoc (all_snoc (all_snoc (all_snoc (all_snoc (all_snoc (all_snoc (all_snoc (all_snoc (all_snoc (all_snoc (all_snoc (all_snoc (all_snoc (all_snoc (all_snoc (all_snoc (all_snoc (all_snoc (all_snoc (all_snoc (all_snoc (all_snoc (all_snoc (all_snoc (all_snoc (all_snoc (all_snoc (all_snoc (all_nil) (ops3_0 _ _ rfl rfl)) (ops3_1 _ _ ⟨rfl, rfl⟩ rfl)) (ops3_2 _ _ ⟨rfl, rfl⟩ rfl)) (ops3_3 _ _ ⟨rfl, rfl⟩ rfl)) (ops3_4 _ _ ⟨rfl, rfl⟩ rfl)) (ops3_5 _ _ ⟨rfl, rfl, rfl⟩ rfl)) (ops3_6 _ _ ⟨rfl, rfl, rfl⟩ rfl)) (ops3_7 _ _ ⟨rfl, rfl, rfl⟩ rfl)) (ops3_8 _ _ ⟨rfl, rfl⟩ rfl)) (ops3_9 _ _ ⟨rfl, rfl⟩ rfl)) (ops3_10 _ _ ⟨rfl, rfl, rfl⟩ rfl)) (ops3_11 _ _ ⟨rfl, rfl, rfl⟩ rfl)) (ops3_12 _ _ ⟨rfl, rfl, rfl⟩ rfl)) (ops3_13 _ _ ⟨rfl, rfl⟩ rfl)) (ops3_14 _ _ ⟨rfl, rfl⟩ rfl)) (ops3_15 _ _ ⟨rfl, rfl, rfl⟩ rfl)) (ops3_16 _ _ ⟨rfl, rfl, rfl⟩ rfl)) (ops3_17 _ _ ⟨rfl, rfl, rfl⟩ rfl)) (ops3_18 _ _ ⟨rfl, rfl⟩ rfl)) (ops3_19 _ _ ⟨rfl, rfl⟩ rfl)) (ops3_20 _ _ ⟨rfl, rfl, rfl⟩ rfl)) (ops3_21 _ _ ⟨rfl, rfl, rfl⟩ rfl)) (ops3_22 _ _ ⟨rfl, rfl, rfl⟩ rfl)) (ops3_23 _ _ ⟨rfl, rfl⟩ rfl)) (ops3_24 _ _ ⟨rfl, rfl⟩ rfl)) (ops3_25 _ _ ⟨rfl, rfl, rfl⟩ rfl)) (ops3_26 _ _ ⟨rfl, rfl, rfl⟩ rfl)) (ops3_27 _ _ ⟨rfl, rfl, rfl⟩ rfl)) (ops3_28 _ _ ⟨rfl, rfl⟩ rfl)) (ops3_29 _ _ ⟨rfl, rfl⟩ rfl)) (ops3_30 _ _ ⟨rfl, rfl, rfl⟩ rfl)) (ops3_31 _ _ ⟨rfl, rfl⟩ rfl)) (ops3_32 _ _ ⟨rfl, rfl, rfl⟩ rfl)) ?_
              intro vs Rs f' S' hp hf hx hS hR
              obtain ⟨hv28, hR28⟩ := (spe rfl hs3_28 (hp 28 (by kernel_rfl)))
              obtain ⟨hv30, hR30⟩ := (spe rfl hs3_30 (hp 30 (by kernel_rfl)))
              obtain ⟨x12, hv32, hR32⟩ := (spe rfl hs3_32 (hp 32 (by kernel_rfl)))
              refine ls_fr (F := upd (upd (upd f' 31 (.bool (decide (a0.1 ≤ (8192 : Int))))) 33 (.int .i64 a0.1)) 35 (.int .i64 t10)) (fr_next (fr_next (fr_next (rfl) ((hf 28 31 (by kernel_rfl) rfl).trans hv28)) ((hf 30 33 (by kernel_rfl) rfl).trans hv30)) ((hf 32 35 (by kernel_rfl) rfl).trans hv32)) ?_
              refine ls_sub (s0) (sub_nil _) ?_
              refine ls_know (c := true) (dec_t q9) 31 (by kernel_rfl) ?_
              refine ls_on (j := 28) (t := 31) (b := true) rfl rfl (by kernel_rfl) (by kernel_rfl) ?_
              refine ls_val (v := .int .i64 (IntKind.wrap .i64 (a0.1 + t10))) rfl rfl (by kernel_rfl) (fun w => by kernel_rfl) ?_
              refine ls_on (j := 28) (t := 31) (b := true) rfl rfl (by kernel_rfl) (by kernel_rfl) ?_
              refine ls_val (v := .bool (decide ((IntKind.wrap .i64 (a0.1 + t10)) ≤ (8192 : Int)))) rfl rfl (by kernel_rfl) (fun w => by kernel_rfl) ?_
              refine ls_val (v := .bool (decide ((IntKind.wrap .i64 (a0.1 + t10)) ≤ (8192 : Int)))) rfl rfl (by kernel_rfl) (fun w => by kernel_rfl) ?_
              refine ls_val (v := .bool (decide ((IntKind.wrap .i64 (a0.1 + t10)) ≤ (8192 : Int)))) rfl rfl (by kernel_rfl) (fun w => by kernel_rfl) ?_
              refine ls_end ?_
              refine qn_then ?_
              refine cs_ret' ?_
              obtain rfl := Option.some.inj H
              refine qr_res (rs := [_]) rfl (fun w' hs => ⟨[.bool (decide ((IntKind.wrap .i64 (a0.1 + t10)) ≤ (8192 : Int)))], (res_tmp (by kernel_rfl) (.nil)), (), rfl, hs.pick (ts := []) (cs := []) trivial (by decide)⟩)
            · replace H := ite_f q9 H
              refine cs_draw shadowboxref06_Right.tab1 33 1 (spl [s3_0, s3_1, s3_2, s3_3, s3_4, s3_5, s3_6, s3_7, s3_8, s3_9, s3_10, s3_11, s3_12, s3_13, s3_14, s3_15, s3_16, s3_17, s3_18, s3_19, s3_20, s3_21, s3_22, s3_23, s3_24, s3_25, s3_26, s3_27, s3_28, spu, spu, spu, spu]) (onl [true, true, true, true, true, true, true, true, true, true, true, true, true, true, true, true, true, true, true, true, true, true, true, true, true, true, true, true, true, false, false, false, false]) (by kernel_rfl) (by kernel_rfl) (by kernel_rfl) (by kernel_rfl) (rs := [_, _, _, _]) rfl (by kernel_rfl) (by kernel_rfl) (all_snoc (all_snoc (all_snoc (all_snoc (all_snoc (all_snoc (all_snoc (all_snoc (all_snoc (all_snoc (all_snoc (all_snoc (all_snoc (all_snoc (all_snoc (all_snoc (all_snoc (all_snoc (all_snoc (all_snoc (all_snoc (all_snoc (all_snoc (all_snoc (all_snoc (all_snoc (all_snoc (all_snoc (all_snoc (all_snoc (all_snoc (all_snoc (all_snoc (all_nil) (ops3_0 _ _ rfl rfl)) (ops3_1 _ _ ⟨rfl, rfl⟩ rfl)) (ops3_2 _ _ ⟨rfl, rfl⟩ rfl)) (ops3_3 _ _ ⟨rfl, rfl⟩ rfl)) (ops3_4 _ _ ⟨rfl, rfl⟩ rfl)) (ops3_5 _ _ ⟨rfl, rfl, rfl⟩ rfl)) (ops3_6 _ _ ⟨rfl, rfl, rfl⟩ rfl)) (ops3_7 _ _ ⟨rfl, rfl, rfl⟩ rfl)) (ops3_8 _ _ ⟨rfl, rfl⟩ rfl)) (ops3_9 _ _ ⟨rfl, rfl⟩ rfl)) (ops3_10 _ _ ⟨rfl, rfl, rfl⟩ rfl)) (ops3_11 _ _ ⟨rfl, rfl, rfl⟩ rfl)) (ops3_12 _ _ ⟨rfl, rfl, rfl⟩ rfl)) (ops3_13 _ _ ⟨rfl, rfl⟩ rfl)) (ops3_14 _ _ ⟨rfl, rfl⟩ rfl)) (ops3_15 _ _ ⟨rfl, rfl, rfl⟩ rfl)) (ops3_16 _ _ ⟨rfl, rfl, rfl⟩ rfl)) (ops3_17 _ _ ⟨rfl, rfl, rfl⟩ rfl)) (ops3_18 _ _ ⟨rfl, rfl⟩ rfl)) (ops3_19 _ _ ⟨rfl, rfl⟩ rfl)) (ops3_20 _ _ ⟨rfl, rfl, rfl⟩ rfl)) (ops3_21 _ _ ⟨rfl, rfl, rfl⟩ rfl)) (ops3_22 _ _ ⟨rfl, rfl, rfl⟩ rfl)) (ops3_23 _ _ ⟨rfl, rfl⟩ rfl)) (ops3_24 _ _ ⟨rfl, rfl⟩ rfl)) (ops3_25 _ _ ⟨rfl, rfl, rfl⟩ rfl)) (ops3_26 _ _ ⟨rfl, rfl, rfl⟩ rfl)) (ops3_27 _ _ ⟨rfl, rfl, rfl⟩ rfl)) (ops3_28 _ _ ⟨rfl, rfl⟩ rfl)) (op_offi 29 28 31 true rfl rfl (by kernel_rfl) (by kernel_rfl) rfl (fun v R h => by rw [hs3_28] at h; obtain ⟨h, _⟩ := h; exact h.trans (congrArg Value.bool (show (decide (a0.1 ≤ (8192 : Int))) = false from dec_f q9))) rfl rfl)) (op_offi 30 28 31 true rfl rfl (by kernel_rfl) (by kernel_rfl) rfl (fun v R h => by rw [hs3_28] at h; obtain ⟨h, _⟩ := h; exact h.trans (congrArg Value.bool (show (decide (a0.1 ≤ (8192 : Int))) = false from dec_f q9))) rfl rfl)) (op_offi 31 28 31 true rfl rfl (by kernel_rfl) (by kernel_rfl) rfl (fun v R h => by rw [hs3_28] at h; obtain ⟨h, _⟩ := h; exact h.trans (congrArg Value.bool (show (decide (a0.1 ≤ (8192 : Int))) = false from dec_f q9))) rfl rfl)) (op_offi 32 28 31 true rfl rfl (by kernel_rfl) (by kernel_rfl) rfl (fun v R h => by rw [hs3_28] at h; obtain ⟨h, _⟩ := h; exact h.trans (congrArg Value.bool (show (decide (a0.1 ≤ (8192 : Int))) = false from dec_f q9))) rfl rfl)) ?_
              intro vs Rs f' S' hp hf hx hS hR
              obtain ⟨hv28, hR28⟩ := (spe rfl hs3_28 (hp 28 (by kernel_rfl)))
              obtain ⟨hv30, hR30⟩ := (spe rfl rfl (hp 30 (by kernel_rfl)) : spu _ _)
              obtain ⟨hv32, hR32⟩ := (spe rfl rfl (hp 32 (by kernel_rfl)) : spu _ _)
              refine ls_fr (F := upd f' 31 (.bool (decide (a0.1 ≤ (8192 : Int))))) (fr_next (rfl) ((hf 28 31 (by kernel_rfl) rfl).trans hv28)) ?_
              refine ls_sub (s0) (sub_nil _) ?_
              refine ls_know (c := false) (dec_f q9) 31 (by kernel_rfl) ?_
              refine ls_off (j := 28) (t := 31) (b := true) (c := false) rfl rfl (by kernel_rfl) (by kernel_rfl) rfl rfl (by kernel_rfl) ?_
              refine ls_off (j := 28) (t := 31) (b := true) (c := false) rfl rfl (by kernel_rfl) (by kernel_rfl) rfl rfl (by kernel_rfl) ?_
              refine ls_val (v := .bool false) rfl rfl (by kernel_rfl) (fun w => by kernel_rfl) ?_
              refine ls_val (v := .bool false) rfl rfl (by kernel_rfl) (fun w => by kernel_rfl) ?_
              refine ls_end ?_
              refine qn_then ?_
              refine cs_ret' ?_
              obtain rfl := Option.some.inj H
              refine qr_res (rs := [_]) rfl (fun w' hs => ⟨[.bool false], (res_tmp (by kernel_rfl) (.nil)), (), rfl, hs.pick (ts := []) (cs := []) trivial (by decide)⟩)
          · replace H := ite_f q8 H
            obtain ⟨s3_27, hs3_27⟩ : ∃ z : Value → Sto → Prop, z = (fun v R => v = .bool false ∧ R = s0) := ⟨_, rfl⟩
            refine have_op (l := [_, _, _, _, _, _, _, _, _, _, _, _, _, _, _, _, _, _, _, _, _, _, _, _, _, _, _, _, _, _, _, _, _, _, _, _, _]) shadowboxref06_Right.tab1 1 27 (fun sp => sp 27 = s3_27 ∧ sp 23 = s3_23 ∧ sp 26 = spu) (fun sp on hA hon => ?_) (fun ops3_27 => ?_)
            · refine ⟨fun o ho vs Rs f' S' w hp hf hx hS hR hs => ?_⟩
              obtain rfl := Option.some.inj ho
              obtain ⟨hv23, hR23⟩ := (spe hA.2.1 hs3_23 (hp 23 (by kernel_rfl)))
              obtain ⟨hv26, hR26⟩ := (spe hA.2.2 rfl (hp 26 (by kernel_rfl)) : spu _ _)
              rw [hA.1, hs3_27]
              refine And.intro (fun a ha => (want_none rfl a ha).trans hon.symm) (And.intro (fun _ => ?_) (fun h => by rw [hon] at h; cases h))
              have hF := fr_next (fr_next (rfl) (((hf 23 26 (by kernel_rfl) rfl).trans hv23).trans (congrArg Value.bool (show (decide (a0.1 ≥ (2 : Int))) = false from dec_f q8)))) ((hf 26 29 (by kernel_rfl) rfl).trans hv26)
              refine ls_fr hF ?_
              refine ls_val (v := .bool false) rfl rfl (by kernel_rfl) (fun w => by kernel_rfl) ?_
              exact ls_fin s0 (.bool false) (congrArg (fun z => upd z 30 _) hF.symm) ⟨rfl, rfl⟩ (sub_nil _)
            obtain ⟨s3_28, hs3_28⟩ : ∃ z : Value → Sto → Prop, z = (fun v R => v = .bool false ∧ R = s0) := ⟨_, rfl⟩
            refine have_op (l := [_, _, _, _, _, _, _, _, _, _, _, _, _, _, _, _, _, _, _, _, _, _, _, _, _, _, _, _, _, _, _, _, _, _, _, _, _]) shadowboxref06_Right.tab1 1 28 (fun sp => sp 28 = s3_28 ∧ sp 27 = s3_27) (fun sp on hA hon => ?_) (fun ops3_28 => ?_)
            · refine ⟨fun o ho vs Rs f' S' w hp hf hx hS hR hs => ?_⟩
              obtain rfl := Option.some.inj ho
              obtain ⟨hv27, hR27⟩ := (spe hA.2 hs3_27 (hp 27 (by kernel_rfl)))
              rw [hA.1, hs3_28]
              refine And.intro (fun a ha => (want_none rfl a ha).trans hon.symm) (And.intro (fun _ => ?_) (fun h => by rw [hon] at h; cases h))
              have hF := fr_next (rfl) ((hf 27 30 (by kernel_rfl) rfl).trans hv27)
              refine ls_fr hF ?_
              refine ls_val (v := .bool false) rfl rfl (by kernel_rfl) (fun w => by kernel_rfl) ?_
              exact ls_fin s0 (.bool false) (congrArg (fun z => upd z 31 _) hF.symm) ⟨rfl, rfl⟩ (sub_nil _)
            refine cs_draw shadowboxref06_Right.tab1 33 1 (spl [s3_0, s3_1, s3_2, s3_3, s3_4, s3_5, s3_6, s3_7, s3_8, s3_9, s3_10, s3_11, s3_12, s3_13, s3_14, s3_15, s3_16, s3_17, s3_18, s3_19, s3_20, s3_21, s3_22, s3_23, spu, spu, spu, s3_27, s3_28, spu, spu, spu, spu]) (onl [true, true, true, true, true, true, true, true, true, true, true, true, true, true, true, true, true, true, true, true, true, true, true, true, false, false, false, true, true, false, false, false, false]) (by kernel_rfl) (by kernel_rfl) (by kernel_rfl) (by kernel_rfl) (rs := [_, _, _, _]) rfl (by kernel_rfl) (by kernel_rfl) (all_snoc (all_snoc (all_snoc (all_snoc (all_snoc (all_snoc (all_snoc (all_snoc (all_snoc (all_snoc (all_snoc (all_snoc (all_snoc (all_snoc (all_snoc (all_snoc (all_snoc (all_snoc (all_snoc (all_snoc (all_snoc (all_snoc (all_snoc (all_snoc (all_snoc (all_snoc (all_snoc (all_snoc (all_snoc (all_snoc (all_snoc (all_snoc (all_snoc (all_nil) (ops3_0 _ _ rfl rfl)) (ops3_1 _ _ ⟨rfl, rfl⟩ rfl)) (ops3_2 _ _ ⟨rfl, rfl⟩ rfl)) (ops3_3 _ _ ⟨rfl, rfl⟩ rfl)) (ops3_4 _ _ ⟨rfl, rfl⟩ rfl)) (ops3_5 _ _ ⟨rfl, rfl, rfl⟩ rfl)) (ops3_6 _ _ ⟨rfl, rfl, rfl⟩ rfl)) (ops3_7 _ _ ⟨rfl, rfl, rfl⟩ rfl)) (ops3_8 _ _ ⟨rfl, rfl⟩ rfl)) (ops3_9 _ _ ⟨rfl, rfl⟩ rfl)) (ops3_10 _ _ ⟨rfl, rfl, rfl⟩ rfl)) (ops3_11 _ _ ⟨rfl, rfl, rfl⟩ rfl)) (ops3_12 _ _ ⟨rfl, rfl, rfl⟩ rfl)) (ops3_13 _ _ ⟨rfl, rfl⟩ rfl)) (ops3_14 _ _ ⟨rfl, rfl⟩ rfl)) (ops3_15 _ _ ⟨rfl, rfl, rfl⟩ rfl)) (ops3_16 _ _ ⟨rfl, rfl, rfl⟩ rfl)) (ops3_17 _ _ ⟨rfl, rfl, rfl⟩ rfl)) (ops3_18 _ _ ⟨rfl, rfl⟩ rfl)) (ops3_19 _ _ ⟨rfl, rfl⟩ rfl)) (ops3_20 _ _ ⟨rfl, rfl, rfl⟩ rfl)) (ops3_21 _ _ ⟨rfl, rfl, rfl⟩ rfl)) (ops3_22 _ _ ⟨rfl, rfl, rfl⟩ rfl)) (ops3_23 _ _ ⟨rfl, rfl⟩ rfl)) (op_offi 24 23 26 true rfl rfl (by kernel_rfl) (by kernel_rfl) rfl (fun v R h => by rw [hs3_23] at h; obtain ⟨h, _⟩ := h; exact h.trans (congrArg Value.bool (show (decide (a0.1 ≥ (2 : Int))) = false from dec_f q8))) rfl rfl)) (op_offi 25 23 26 true rfl rfl (by kernel_rfl) (by kernel_rfl) rfl (fun v R h => by rw [hs3_23] at h; obtain ⟨h, _⟩ := h; exact h.trans (congrArg Value.bool (show (decide (a0.1 ≥ (2 : Int))) = false from dec_f q8))) rfl rfl)) (op_offi 26 23 26 true rfl rfl (by kernel_rfl) (by kernel_rfl) rfl (fun v R h => by rw [hs3_23] at h; obtain ⟨h, _⟩ := h; exact h.trans (congrArg Value.bool (show (decide (a0.1 ≥ (2 : Int))) = false from dec_f q8))) rfl rfl)) (ops3_27 _ _ ⟨rfl, rfl, rfl⟩ rfl)) (ops3_28 _ _ ⟨rfl, rfl⟩ rfl)) (op_offi 29 28 31 true rfl rfl (by kernel_rfl) (by kernel_rfl) rfl (fun v R h => by rw [hs3_28] at h; obtain ⟨h, _⟩ := h; exact h) rfl rfl)) (op_offi 30 28 31 true rfl rfl (by kernel_rfl) (by kernel_rfl) rfl (fun v R h => by rw [hs3_28] at h; obtain ⟨h, _⟩ := h; exact h) rfl rfl)) (op_offi 31 28 31 true rfl rfl (by kernel_rfl) (by kernel_rfl) rfl (fun v R h => by rw [hs3_28] at h; obtain ⟨h, _⟩ := h; exact h) rfl rfl)) (op_offi 32 28 31 true rfl rfl (by kernel_rfl) (by kernel_rfl) rfl (fun v R h => by rw [hs3_28] at h; obtain ⟨h, _⟩ := h; exact h) rfl rfl)) ?_
            intro vs Rs f' S' hp hf hx hS hR
            obtain ⟨hv28, hR28⟩ := (spe rfl hs3_28 (hp 28 (by kernel_rfl)))
            obtain ⟨hv30, hR30⟩ := (spe rfl rfl (hp 30 (by kernel_rfl)) : spu _ _)
            obtain ⟨hv32, hR32⟩ := (spe rfl rfl (hp 32 (by kernel_rfl)) : spu _ _)
            refine ls_fr (F := upd f' 31 (.bool false)) (fr_next (rfl) ((hf 28 31 (by kernel_rfl) rfl).trans hv28)) ?_
            refine ls_sub (s0) (sub_nil _) ?_
            refine ls_off (j := 28) (t := 31) (b := true) (c := false) rfl rfl (by kernel_rfl) (by kernel_rfl) rfl rfl (by kernel_rfl) ?_
            refine ls_off (j := 28) (t := 31) (b := true) (c := false) rfl rfl (by kernel_rfl) (by kernel_rfl) rfl rfl (by kernel_rfl) ?_
            refine ls_val (v := .bool false) rfl rfl (by kernel_rfl) (fun w => by kernel_rfl) ?_
            refine ls_val (v := .bool false) rfl rfl (by kernel_rfl) (fun w => by kernel_rfl) ?_
            refine ls_end ?_
            refine qn_then ?_
            refine cs_ret' ?_
            obtain rfl := Option.some.inj H
            refine qr_res (rs := [_]) rfl (fun w' hs => ⟨[.bool false], (res_tmp (by kernel_rfl) (.nil)), (), rfl, hs.pick (ts := []) (cs := []) trivial (by decide)⟩)
        · replace H := ite_f q7 H
          obtain ⟨s3_22, hs3_22⟩ : ∃ z : Value → Sto → Prop, z = (fun v R => v = .bool false ∧ R = s0) := ⟨_, rfl⟩
          refine have_op (l := [_, _, _, _, _, _, _, _, _, _, _, _, _, _, _, _, _, _, _, _, _, _, _, _, _, _, _, _, _, _, _, _, _, _, _, _, _]) shadowboxref06_Right.tab1 1 22 (fun sp => sp 22 = s3_22 ∧ sp 18 = s3_18 ∧ sp 21 = spu) (fun sp on hA hon => ?_) (fun ops3_22 => ?_)
          · refine ⟨fun o ho vs Rs f' S' w hp hf hx hS hR hs => ?_⟩
            obtain rfl := Option.some.inj ho
            obtain ⟨hv18, hR18⟩ := (spe hA.2.1 hs3_18 (hp 18 (by kernel_rfl)))
            obtain ⟨hv21, hR21⟩ := (spe hA.2.2 rfl (hp 21 (by kernel_rfl)) : spu _ _)
            rw [hA.1, hs3_22]
            refine And.intro (fun a ha => (want_none rfl a ha).trans hon.symm) (And.intro (fun _ => ?_) (fun h => by rw [hon] at h; cases h))
            have hF := fr_next (fr_next (rfl) (((hf 18 21 (by kernel_rfl) rfl).trans hv18).trans (congrArg Value.bool (show (decide (a0.2.2.1 ≤ (65536 : Int))) = false from dec_f q7)))) ((hf 21 24 (by kernel_rfl) rfl).trans hv21)
            refine ls_fr hF ?_
            refine ls_val (v := .bool false) rfl rfl (by kernel_rfl) (fun w => by kernel_rfl) ?_
            exact ls_fin s0 (.bool false) (congrArg (fun z => upd z 25 _) hF.symm) ⟨rfl, rfl⟩ (sub_nil _)
          obtain ⟨s3_23, hs3_23⟩ : ∃ z : Value → Sto → Prop, z = (fun v R => v = .bool false ∧ R = s0) := ⟨_, rfl⟩
          refine have_op (l := [_, _, _, _, _, _, _, _, _, _, _, _, _, _, _, _, _, _, _, _, _, _, _, _, _, _, _, _, _, _, _, _, _, _, _, _, _]) shadowboxref06_Right.tab1 1 23 (fun sp => sp 23 = s3_23 ∧ sp 22 = s3_22) (fun sp on hA hon => ?_) (fun ops3_23 => ?_)
          · refine ⟨fun o ho vs Rs f' S' w hp hf hx hS hR hs => ?_⟩
            obtain rfl := Option.some.inj ho
            obtain ⟨hv22, hR22⟩ := (spe hA.2 hs3_22 (hp 22 (by kernel_rfl)))
            rw [hA.1, hs3_23]
            refine And.intro (fun a ha => (want_none rfl a ha).trans hon.symm) (And.intro (fun _ => ?_) (fun h => by rw [hon] at h; cases h))
            have hF := fr_next (rfl) ((hf 22 25 (by kernel_rfl) rfl).trans hv22)
            refine ls_fr hF ?_
            refine ls_val (v := .bool false) rfl rfl (by kernel_rfl) (fun w => by kernel_rfl) ?_
            exact ls_fin s0 (.bool false) (congrArg (fun z => upd z 26 _) hF.symm) ⟨rfl, rfl⟩ (sub_nil _)
          obtain ⟨s3_27, hs3_27⟩ : ∃ z : Value → Sto → Prop, z = (fun v R => v = .bool false ∧ R = s0) := ⟨_, rfl⟩
          refine have_op (l := [_, _, _, _, _, _, _, _, _, _, _, _, _, _, _, _, _, _, _, _, _, _, _, _, _, _, _, _, _, _, _, _, _, _, _, _, _]) shadowboxref06_Right.tab1 1 27 (fun sp => sp 27 = s3_27 ∧ sp 23 = s3_23 ∧ sp 26 = spu) (fun sp on hA hon => ?_) (fun ops3_27 => ?_)
          · refine ⟨fun o ho vs Rs f' S' w hp hf hx hS hR hs => ?_⟩
            obtain rfl := Option.some.inj ho
            obtain ⟨hv23, hR23⟩ := (spe hA.2.1 hs3_23 (hp 23 (by kernel_rfl)))
            obtain ⟨hv26, hR26⟩ := (spe hA.2.2 rfl (hp 26 (by kernel_rfl)) : spu _ _)
            rw [hA.1, hs3_27]
            refine And.intro (fun a ha => (want_none rfl a ha).trans hon.symm) (And.intro (fun _ => ?_) (fun h => by rw [hon] at h; cases h))
            have hF := fr_next (fr_next (rfl) ((hf 23 26 (by kernel_rfl) rfl).trans hv23)) ((hf 26 29 (by kernel_rfl) rfl).trans hv26)
            refine ls_fr hF ?_
            refine ls_val (v := .bool false) rfl rfl (by kernel_rfl) (fun w => by kernel_rfl) ?_
            exact ls_fin s0 (.bool false) (congrArg (fun z => upd z 30 _) hF.symm) ⟨rfl, rfl⟩ (sub_nil _)
          obtain ⟨s3_28, hs3_28⟩ : ∃ z : Value → Sto → Prop, z = (fun v R => v = .bool false ∧ R = s0) := ⟨_, rfl⟩
          refine have_op (l := [_, _, _, _, _, _, _, _, _, _, _, _, _, _, _, _, _, _, _, _, _, _, _, _, _, _, _, _, _, _, _, _, _, _, _, _, _]) shadowboxref06_Right.tab1 1 28 (fun sp => sp 28 = s3_28 ∧ sp 27 = s3_27) (fun sp on hA hon => ?_) (fun ops3_28 => ?_)
          · refine ⟨fun o ho vs Rs f' S' w hp hf hx hS hR hs => ?_⟩
            obtain rfl := Option.some.inj ho
            obtain ⟨hv27, hR27⟩ := (spe hA.2 hs3_27 (hp 27 (by kernel_rfl)))
            rw [hA.1, hs3_28]
            refine And.intro (fun a ha => (want_none rfl a ha).trans hon.symm) (And.intro (fun _ => ?_) (fun h => by rw [hon] at h; cases h))
            have hF := fr_next (rfl) ((hf 27 30 (by kernel_rfl) rfl).trans hv27)
            refine ls_fr hF ?_
            refine ls_val (v := .bool false) rfl rfl (by kernel_rfl) (fun w => by kernel_rfl) ?_
            exact ls_fin s0 (.bool false) (congrArg (fun z => upd z 31 _) hF.symm) ⟨rfl, rfl⟩ (sub_nil _)
          refine cs_draw shadowboxref06_Right.tab1 33 1 (spl [s3_0, s3_1, s3_2, s3_3, s3_4, s3_5, s3_6, s3_7, s3_8, s3_9, s3_10, s3_11, s3_12, s3_13, s3_14, s3_15, s3_16, s3_17, s3_18, spu, spu, spu, s3_22, s3_23, spu, spu, spu, s3_27, s3_28, spu, spu, spu, spu]) (onl [true, true, true, true, true, true, true, true, true, true, true, true, true, true, true, true, true, true, true, false, false, false, true, true, false, false, false, true, true, false, false, false, false]) (by kernel_rfl) (by kernel_rfl) (by kernel_rfl) (by kernel_rfl) (rs := [_, _, _, _]) rfl (by kernel_rfl) (by kernel_rfl) (all_snoc (all_snoc (all_snoc (all_snoc (all_snoc (all_snoc (all_snoc (all_snoc (all_snoc (all_snoc (all_snoc (all_snoc (all_snoc (all_snoc (all_snoc (all_snoc (all_snoc (all_snoc (all_snoc (all_snoc (all_snoc (all_snoc (all_snoc (all_snoc (all_snoc (all_snoc (all_snoc (all_snoc (all_snoc (all_snoc (all_snoc (all_snoc (all_snoc (all_nil) (ops3_0 _ _ rfl rfl)) (ops3_1 _ _ ⟨rfl, rfl⟩ rfl)) (ops3_2 _ _ ⟨rfl, rfl⟩ rfl)) (ops3_3 _ _ ⟨rfl, rfl⟩ rfl)) (ops3_4 _ _ ⟨rfl, rfl⟩ rfl)) (ops3_5 _ _ ⟨rfl, rfl, rfl⟩ rfl)) (ops3_6 _ _ ⟨rfl, rfl, rfl⟩ rfl)) (ops3_7 _ _ ⟨rfl, rfl, rfl⟩ rfl)) (ops3_8 _ _ ⟨rfl, rfl⟩ rfl)) (ops3_9 _ _ ⟨rfl, rfl⟩ rfl)) (ops3_10 _ _ ⟨rfl, rfl, rfl⟩ rfl)) (ops3_11 _ _ ⟨rfl, rfl, rfl⟩ rfl)) (ops3_12 _ _ ⟨rfl, rfl, rfl⟩ rfl)) (ops3_13 _ _ ⟨rfl, rfl⟩ rfl)) (ops3_14 _ _ ⟨rfl, rfl⟩ rfl)) (ops3_15 _ _ ⟨rfl, rfl, rfl⟩ rfl)) (ops3_16 _ _ ⟨rfl, rfl, rfl⟩ rfl)) (ops3_17 _ _ ⟨rfl, rfl, rfl⟩ rfl)) (ops3_18 _ _ ⟨rfl, rfl⟩ rfl)) (op_offi 19 18 21 true rfl rfl (by kernel_rfl) (by kernel_rfl) rfl (fun v R h => by rw [hs3_18] at h; obtain ⟨h, _⟩ := h; exact h.trans (congrArg Value.bool (show (decide (a0.2.2.1 ≤ (65536 : Int))) = false from dec_f q7))) rfl rfl)) (op_offi 20 18 21 true rfl rfl (by kernel_rfl) (by kernel_rfl) rfl (fun v R h => by rw [hs3_18] at h; obtain ⟨h, _⟩ := h; exact h.trans (congrArg Value.bool (show (decide (a0.2.2.1 ≤ (65536 : Int))) = false from dec_f q7))) rfl rfl)) (op_offi 21 18 21 true rfl rfl (by kernel_rfl) (by kernel_rfl) rfl (fun v R h => by rw [hs3_18] at h; obtain ⟨h, _⟩ := h; exact h.trans (congrArg Value.bool (show (decide (a0.2.2.1 ≤ (65536 : Int))) = false from dec_f q7))) rfl rfl)) (ops3_22 _ _ ⟨rfl, rfl, rfl⟩ rfl)) (ops3_23 _ _ ⟨rfl, rfl⟩ rfl)) (op_offi 24 23 26 true rfl rfl (by kernel_rfl) (by kernel_rfl) rfl (fun v R h => by rw [hs3_23] at h; obtain ⟨h, _⟩ := h; exact h) rfl rfl)) (op_offi 25 23 26 true rfl rfl (by kernel_rfl) (by kernel_rfl) rfl (fun v R h => by rw [hs3_23] at h; obtain ⟨h, _⟩ := h; exact h) rfl rfl)) (op_offi 26 23 26 true rfl rfl (by kernel_rfl) (by kernel_rfl) rfl (fun v R h => by rw [hs3_23] at h; obtain ⟨h, _⟩ := h; exact h) rfl rfl)) (ops3_27 _ _ ⟨rfl, rfl, rfl⟩ rfl)) (ops3_28 _ _ ⟨rfl, rfl⟩ rfl)) (op_offi 29 28 31 true rfl rfl (by kernel_rfl) (by kernel_rfl) rfl (fun v R h => by rw [hs3_28] at h; obtain ⟨h, _⟩ := h; exact h) rfl rfl)) (op_offi 30 28 31 true rfl rfl (by kernel_rfl) (by kernel_rfl) rfl (fun v R h => by rw [hs3_28] at h; obtain ⟨h, _⟩ := h; exact h) rfl rfl)) (op_offi 31 28 31 true rfl rfl (by kernel_rfl) (by kernel_rfl) rfl (fun v R h => by rw [hs3_28] at h; obtain ⟨h, _⟩ := h; exact h) rfl rfl)) (op_offi 32 28 31 true rfl rfl (by kernel_rfl) (by kernel_rfl) rfl (fun v R h => by rw [hs3_28] at h; obtain ⟨h, _⟩ := h; exact h) rfl rfl)) ?_
          intro vs Rs f' S' hp hf hx hS hR
          obtain ⟨hv28, hR28⟩ := (spe rfl hs3_28 (hp 28 (by kernel_rfl)))
          obtain ⟨hv30, hR30⟩ := (spe rfl rfl (hp 30 (by kernel_rfl)) : spu _ _)
          obtain ⟨hv32, hR32⟩ := (spe rfl rfl (hp 32 (by kernel_rfl)) : spu _ _)
          refine ls_fr (F := upd f' 31 (.bool false)) (fr_next (rfl) ((hf 28 31 (by kernel_rfl) rfl).trans hv28)) ?_
          refine ls_sub (s0) (sub_nil _) ?_
          refine ls_off (j := 28) (t := 31) (b := true) (c := false) rfl rfl (by kernel_rfl) (by kernel_rfl) rfl rfl (by kernel_rfl) ?_
          refine ls_off (j := 28) (t := 31) (b := true) (c := false) rfl rfl (by kernel_rfl) (by kernel_rfl) rfl rfl (by kernel_rfl) ?_
          refine ls_val (v := .bool false) rfl rfl (by kernel_rfl) (fun w => by kernel_rfl) ?_
          refine ls_val (v := .bool false) rfl rfl (by kernel_rfl) (fun w => by kernel_rfl) ?_
          refine ls_end ?_
          refine qn_then ?_
          refine cs_ret' ?_
          obtain rfl := Option.some.inj H
          refine qr_res (rs := [_]) rfl (fun w' hs => ⟨[.bool false], (res_tmp (by kernel_rfl) (.nil)), (), rfl, hs.pick (ts := []) (cs := []) trivial (by decide)⟩)
      · replace H := ite_f q6 H
        obtain ⟨s3_17, hs3_17⟩ : ∃ z : Value → Sto → Prop, z = (fun v R => v = .bool false ∧ R = s0) := ⟨_, rfl⟩
        refine have_op (l := [_, _, _, _, _, _, _, _, _, _, _, _, _, _, _, _, _, _, _, _, _, _, _, _, _, _, _, _, _, _, _, _, _, _, _, _, _]) shadowboxref06_Right.tab1 1 17 (fun sp => sp 17 = s3_17 ∧ sp 13 = s3_13 ∧ sp 16 = spu) (fun sp on hA hon => ?_) (fun ops3_17 => ?_)
        · refine ⟨fun o ho vs Rs f' S' w hp hf hx hS hR hs => ?_⟩
          obtain rfl := Option.some.inj ho
          obtain ⟨hv13, hR13⟩ := (spe hA.2.1 hs3_13 (hp 13 (by kernel_rfl)))
          obtain ⟨hv16, hR16⟩ := (spe hA.2.2 rfl (hp 16 (by kernel_rfl)) : spu _ _)
          rw [hA.1, hs3_17]
          refine And.intro (fun a ha => (want_none rfl a ha).trans hon.symm) (And.intro (fun _ => ?_) (fun h => by rw [hon] at h; cases h))
          have hF := fr_next (fr_next (rfl) (((hf 13 16 (by kernel_rfl) rfl).trans hv13).trans (congrArg Value.bool (show (decide (a0.2.2.1 ≥ (1 : Int))) = false from dec_f q6)))) ((hf 16 19 (by kernel_rfl) rfl).trans hv16)
          refine ls_fr hF ?_
          refine ls_val (v := .bool false) rfl rfl (by kernel_rfl) (fun w => by kernel_rfl) ?_
          exact ls_fin s0 (.bool false) (congrArg (fun z => upd z 20 _) hF.symm) ⟨rfl, rfl⟩ (sub_nil _)
        obtain ⟨s3_18, hs3_18⟩ : ∃ z : Value → Sto → Prop, z = (fun v R => v = .bool false ∧ R = s0) := ⟨_, rfl⟩
        refine have_op (l := [_, _, _, _, _, _, _, _, _, _, _, _, _, _, _, _, _, _, _, _, _, _, _, _, _, _, _, _, _, _, _, _, _, _, _, _, _]) shadowboxref06_Right.tab1 1 18 (fun sp => sp 18 = s3_18 ∧ sp 17 = s3_17) (fun sp on hA hon => ?_) (fun ops3_18 => ?_)
        · refine ⟨fun o ho vs Rs f' S' w hp hf hx hS hR hs => ?_⟩
          obtain rfl := Option.some.inj ho
          obtain ⟨hv17, hR17⟩ := (spe hA.2 hs3_17 (hp 17 (by kernel_rfl)))
          rw [hA.1, hs3_18]
          refine And.intro (fun a ha => (want_none rfl a ha).trans hon.symm) (And.intro (fun _ => ?_) (fun h => by rw [hon] at h; cases h))
          have hF := fr_next (rfl) ((hf 17 20 (by kernel_rfl) rfl).trans hv17)
          refine ls_fr hF ?_
          refine ls_val (v := .bool false) rfl rfl (by kernel_rfl) (fun w => by kernel_rfl) ?_
          exact ls_fin s0 (.bool false) (congrArg (fun z => upd z 21 _) hF.symm) ⟨rfl, rfl⟩ (sub_nil _)
        obtain ⟨s3_22, hs3_22⟩ : ∃ z : Value → Sto → Prop, z = (fun v R => v = .bool false ∧ R = s0) := ⟨_, rfl⟩
        refine have_op (l := [_, _, _, _, _, _, _, _, _, _, _, _, _, _, _, _, _, _, _, _, _, _, _, _, _, _, _, _, _, _, _, _, _, _, _, _, _]) shadowboxref06_Right.tab1 1 22 (fun sp => sp 22 = s3_22 ∧ sp 18 = s3_18 ∧ sp 21 = spu) (fun sp on hA hon => ?_) (fun ops3_22 => ?_)
        · refine ⟨fun o ho vs Rs f' S' w hp hf hx hS hR hs => ?_⟩
          obtain rfl := Option.some.inj ho
          obtain ⟨hv18, hR18⟩ := (spe hA.2.1 hs3_18 (hp 18 (by kernel_rfl)))
          obtain ⟨hv21, hR21⟩ := (spe hA.2.2 rfl (hp 21 (by kernel_rfl)) : spu _ _)
          rw [hA.1, hs3_22]
          refine And.intro (fun a ha => (want_none rfl a ha).trans hon.symm) (And.intro (fun _ => ?_) (fun h => by rw [hon] at h; cases h))
          have hF := fr_next (fr_next (rfl) ((hf 18 21 (by kernel_rfl) rfl).trans hv18)) ((hf 21 24 (by kernel_rfl) rfl).trans hv21)
          refine ls_fr hF ?_
          refine ls_val (v := .bool false) rfl rfl (by kernel_rfl) (fun w => by kernel_rfl) ?_
          exact ls_fin s0 (.bool false) (congrArg (fun z => upd z 25 _) hF.symm) ⟨rfl, rfl⟩ (sub_nil _)
        obtain ⟨s3_23, hs3_23⟩ : ∃ z : Value → Sto → Prop, z = (fun v R => v = .bool false ∧ R = s0) := ⟨_, rfl⟩
        refine have_op (l := [_, _, _, _, _, _, _, _, _, _, _, _, _, _, _, _, _, _, _, _, _, _, _, _, _, _, _, _, _, _, _, _, _, _, _, _, _]) shadowboxref06_Right.tab1 1 23 (fun sp => sp 23 = s3_23 ∧ sp 22 = s3_22) (fun sp on hA hon => ?_) (fun ops3_23 => ?_)
        · refine ⟨fun o ho vs Rs f' S' w hp hf hx hS hR hs => ?_⟩
          obtain rfl := Option.some.inj ho
          obtain ⟨hv22, hR22⟩ := (spe hA.2 hs3_22 (hp 22 (by kernel_rfl)))
          rw [hA.1, hs3_23]
          refine And.intro (fun a ha => (want_none rfl a ha).trans hon.symm) (And.intro (fun _ => ?_) (fun h => by rw [hon] at h; cases h))
          have hF := fr_next (rfl) ((hf 22 25 (by kernel_rfl) rfl).trans hv22)
          refine ls_fr hF ?_
          refine ls_val (v := .bool false) rfl rfl (by kernel_rfl) (fun w => by kernel_rfl) ?_
          exact ls_fin s0 (.bool false) (congrArg (fun z => upd z 26 _) hF.symm) ⟨rfl, rfl⟩ (sub_nil _)
        obtain ⟨s3_27, hs3_27⟩ : ∃ z : Value → Sto → Prop, z = (fun v R => v = .bool false ∧ R = s0) := ⟨_, rfl⟩
        refine have_op (l := [_, _, _, _, _, _, _, _, _, _, _, _, _, _, _, _, _, _, _, _, _, _, _, _, _, _, _, _, _, _, _, _, _, _, _, _, _]) shadowboxref06_Right.tab1 1 27 (fun sp => sp 27 = s3_27 ∧ sp 23 = s3_23 ∧ sp 26 = spu) (fun sp on hA hon => ?_) (fun ops3_27 => ?_)
        · refine ⟨fun o ho vs Rs f' S' w hp hf hx hS hR hs => ?_⟩
          obtain rfl := Option.some.inj ho
          obtain ⟨hv23, hR23⟩ := (spe hA.2.1 hs3_23 (hp 23 (by kernel_rfl)))
          obtain ⟨hv26, hR26⟩ := (spe hA.2.2 rfl (hp 26 (by kernel_rfl)) : spu _ _)
          rw [hA.1, hs3_27]
          refine And.intro (fun a ha => (want_none rfl a ha).trans hon.symm) (And.intro (fun _ => ?_) (fun h => by rw [hon] at h; cases h))
          have hF := fr_next (fr_next (rfl) ((hf 23 26 (by kernel_rfl) rfl).trans hv23)) ((hf 26 29 (by kernel_rfl) rfl).trans hv26)
          refine ls_fr hF ?_
          refine ls_val (v := .bool false) rfl rfl (by kernel_rfl) (fun w => by kernel_rfl) ?_
          exact ls_fin s0 (.bool false) (congrArg (fun z => upd z 30 _) hF.symm) ⟨rfl, rfl⟩ (sub_nil _)
        obtain ⟨s3_28, hs3_28⟩ : ∃ z : Value → Sto → Prop, z = (fun v R => v = .bool false ∧ R = s0) := ⟨_, rfl⟩
        refine have_op (l := [_, _, _, _, _, _, _, _, _, _, _, _, _, _, _, _, _, _, _, _, _, _, _, _, _, _, _, _, _, _, _, _, _, _, _, _, _]) shadowboxref06_Right.tab1 1 28 (fun sp => sp 28 = s3_28 ∧ sp 27 = s3_27) (fun sp on hA hon => ?_) (fun ops3_28 => ?_)
        · refine ⟨fun o ho vs Rs f' S' w hp hf hx hS hR hs => ?_⟩
          obtain rfl := Option.some.inj ho
          obtain ⟨hv27, hR27⟩ := (spe hA.2 hs3_27 (hp 27 (by kernel_rfl)))
          rw [hA.1, hs3_28]
          refine And.intro (fun a ha => (want_none rfl a ha).trans hon.symm) (And.intro (fun _ => ?_) (fun h => by rw [hon] at h; cases h))
          have hF := fr_next (rfl) ((hf 27 30 (by kernel_rfl) rfl).trans hv27)
          refine ls_fr hF ?_
          refine ls_val (v := .bool false) rfl rfl (by kernel_rfl) (fun w => by kernel_rfl) ?_
          exact ls_fin s0 (.bool false) (congrArg (fun z => upd z 31 _) hF.symm) ⟨rfl, rfl⟩ (sub_nil _)
        refine cs_draw shadowboxref06_Right.tab1 33 1 (spl [s3_0, s3_1, s3_2, s3_3, s3_4, s3_5, s3_6, s3_7, s3_8, s3_9, s3_10, s3_11, s3_12, s3_13, spu, spu, spu, s3_17, s3_18, spu, spu, spu, s3_22, s3_23, spu, spu, spu, s3_27, s3_28, spu, spu, spu, spu]) (onl [true, true, true, true, true, true, true, true, true, true, true, true, true, true, false, false, false, true, true, false, false, false, true, true, false, false, false, true, true, false, false, false, false]) (by kernel_rfl) (by kernel_rfl) (by kernel_rfl) (by kernel_rfl) (rs := [_, _, _, _]) rfl (by kernel_rfl) (by kernel_rfl) (all_snoc (all_snoc (all_snoc (all_snoc (all_snoc (all_snoc (all_snoc (all_snoc (all_snoc (all_snoc (all_snoc (all_snoc (all_snoc (all_snoc (all_snoc (all_snoc (all_snoc (all_snoc (all_snoc (all_snoc (all_snoc (all_snoc (all_snoc (all_snoc (all_snoc (all_snoc (all_snoc (all_snoc (all_snoc (all_snoc (all_snoc (all_snoc (all_snoc (all_nil) (ops3_0 _ _ rfl rfl)) (ops3_1 _ _ ⟨rfl, rfl⟩ rfl)) (ops3_2 _ _ ⟨rfl, rfl⟩ rfl)) (ops3_3 _ _ ⟨rfl, rfl⟩ rfl)) (ops3_4 _ _ ⟨rfl, rfl⟩ rfl)) (ops3_5 _ _ ⟨rfl, rfl, rfl⟩ rfl)) (ops3_6 _ _ ⟨rfl, rfl, rfl⟩ rfl)) (ops3_7 _ _ ⟨rfl, rfl, rfl⟩ rfl)) (ops3_8 _ _ ⟨rfl, rfl⟩ rfl)) (ops3_9 _ _ ⟨rfl, rfl⟩ rfl)) (ops3_10 _ _ ⟨rfl, rfl, rfl⟩ rfl)) (ops3_11 _ _ ⟨rfl, rfl, rfl⟩ rfl)) (ops3_12 _ _ ⟨rfl, rfl, rfl⟩ rfl)) (ops3_13 _ _ ⟨rfl, rfl⟩ rfl)) (op_offi 14 13 16 true rfl rfl (by kernel_rfl) (by kernel_rfl) rfl (fun v R h => by rw [hs3_13] at h; obtain ⟨h, _⟩ := h; exact h.trans (congrArg Value.bool (show (decide (a0.2.2.1 ≥ (1 : Int))) = false from dec_f q6))) rfl rfl)) (op_offi 15 13 16 true rfl rfl (by kernel_rfl) (by kernel_rfl) rfl (fun v R h => by rw [hs3_13] at h; obtain ⟨h, _⟩ := h; exact h.trans (congrArg Value.bool (show (decide (a0.2.2.1 ≥ (1 : Int))) = false from dec_f q6))) rfl rfl)) (op_offi 16 13 16 true rfl rfl (by kernel_rfl) (by kernel_rfl) rfl (fun v R h => by rw [hs3_13] at h; obtain ⟨h, _⟩ := h; exact h.trans (congrArg Value.bool (show (decide (a0.2.2.1 ≥ (1 : Int))) = false from dec_f q6))) rfl rfl)) (ops3_17 _ _ ⟨rfl, rfl, rfl⟩ rfl)) (ops3_18 _ _ ⟨rfl, rfl⟩ rfl)) (op_offi 19 18 21 true rfl rfl (by kernel_rfl) (by kernel_rfl) rfl (fun v R h => by rw [hs3_18] at h; obtain ⟨h, _⟩ := h; exact h) rfl rfl)) (op_offi 20 18 21 true rfl rfl (by kernel_rfl) (by kernel_rfl) rfl (fun v R h => by rw [hs3_18] at h; obtain ⟨h, _⟩ := h; exact h) rfl rfl)) (op_offi 21 18 21 true rfl rfl (by kernel_rfl) (by kernel_rfl) rfl (fun v R h => by rw [hs3_18] at h; obtain ⟨h, _⟩ := h; exact h) rfl rfl)) (ops3_22 _ _ ⟨rfl, rfl, rfl⟩ rfl)) (ops3_23 _ _ ⟨rfl, rfl⟩ rfl)) (op_offi 24 23 26 true rfl rfl (by kernel_rfl) (by kernel_rfl) rfl (fun v R h => by rw [hs3_23] at h; obtain ⟨h, _⟩ := h; exact h) rfl rfl)) (op_offi 25 23 26 true rfl rfl (by kernel_rfl) (by kernel_rfl) rfl (fun v R h => by rw [hs3_23] at h; obtain ⟨h, _⟩ := h; exact h) rfl rfl)) (op_offi 26 23 26 true rfl rfl (by kernel_rfl) (by kernel_rfl) rfl (fun v R h => by rw [hs3_23] at h; obtain ⟨h, _⟩ := h; exact h) rfl rfl)) (ops3_27 _ _ ⟨rfl, rfl, rfl⟩ rfl)) (ops3_28 _ _ ⟨rfl, rfl⟩ rfl)) (op_offi 29 28 31 true rfl rfl (by kernel_rfl) (by kernel_rfl) rfl (fun v R h => by rw [hs3_28] at h; obtain ⟨h, _⟩ := h; exact h) rfl rfl)) (op_offi 30 28 31 true rfl rfl (by kernel_rfl) (by kernel_rfl) rfl (fun v R h => by rw [hs3_28] at h; obtain ⟨h, _⟩ := h; exact h) rfl rfl)) (op_offi 31 28 31 true rfl rfl (by kernel_rfl) (by kernel_rfl) rfl (fun v R h => by rw [hs3_28] at h; obtain ⟨h, _⟩ := h; exact h) rfl rfl)) (op_offi 32 28 31 true rfl rfl (by kernel_rfl) (by kernel_rfl) rfl (fun v R h => by rw [hs3_28] at h; obtain ⟨h, _⟩ := h; exact h) rfl rfl)) ?_
        intro vs Rs f' S' hp hf hx hS hR
        obtain ⟨hv28, hR28⟩ := (spe rfl hs3_28 (hp 28 (by kernel_rfl)))
        obtain ⟨hv30, hR30⟩ := (spe rfl rfl (hp 30 (by kernel_rfl)) : spu _ _)
        obtain ⟨hv32, hR32⟩ := (spe rfl rfl (hp 32 (by kernel_rfl)) : spu _ _)
        refine ls_fr (F := upd f' 31 (.bool false)) (fr_next (rfl) ((hf 28 31 (by kernel_rfl) rfl).trans hv28)) ?_
        refine ls_sub (s0) (sub_nil _) ?_
        refine ls_off (j := 28) (t := 31) (b := true) (c := false) rfl rfl (by kernel_rfl) (by kernel_rfl) rfl rfl (by kernel_rfl) ?_
        refine ls_off (j := 28) (t := 31) (b := true) (c := false) rfl rfl (by kernel_rfl) (by kernel_rfl) rfl rfl (by kernel_rfl) ?_
        refine ls_val (v := .bool false) rfl rfl (by kernel_rfl) (fun w => by kernel_rfl) ?_
        refine ls_val (v := .bool false) rfl rfl (by kernel_rfl) (fun w => by kernel_rfl) ?_
        refine ls_end ?_
        refine qn_then ?_
        refine cs_ret' ?_
        obtain rfl := Option.some.inj H
        refine qr_res (rs := [_]) rfl (fun w' hs => ⟨[.bool false], (res_tmp (by kernel_rfl) (.nil)), (), rfl, hs.pick (ts := []) (cs := []) trivial (by decide)⟩)
    · replace H := ite_f q5 H
      obtain ⟨s3_12, hs3_12⟩ : ∃ z : Value → Sto → Prop, z = (fun v R => v = .bool false ∧ R = s0) := ⟨_, rfl⟩
      refine have_op (l := [_, _, _, _, _, _, _, _, _, _, _, _, _, _, _, _, _, _, _, _, _, _, _, _, _, _, _, _, _, _, _, _, _, _, _, _, _]) shadowboxref06_Right.tab1 1 12 (fun sp => sp 12 = s3_12 ∧ sp 8 = s3_8 ∧ sp 11 = spu) (fun sp on hA hon => ?_) (fun ops3_12 => ?_)
      · refine ⟨fun o ho vs Rs f' S' w hp hf hx hS hR hs => ?_⟩
        obtain rfl := Option.some.inj ho
        obtain ⟨hv8, hR8⟩ := (spe hA.2.1 hs3_8 (hp 8 (by kernel_rfl)))
        obtain ⟨hv11, hR11⟩ := (spe hA.2.2 rfl (hp 11 (by kernel_rfl)) : spu _ _)
        rw [hA.1, hs3_12]
        refine And.intro (fun a ha => (want_none rfl a ha).trans hon.symm) (And.intro (fun _ => ?_) (fun h => by rw [hon] at h; cases h))
        have hF := fr_next (fr_next (rfl) (((hf 8 11 (by kernel_rfl) rfl).trans hv8).trans (congrArg Value.bool (show (decide (a0.2.1 ≤ (1152921504606846976 : Int))) = false from dec_f q5)))) ((hf 11 14 (by kernel_rfl) rfl).trans hv11)
        refine ls_fr hF ?_
        refine ls_val (v := .bool false) rfl rfl (by kernel_rfl) (fun w => by kernel_rfl) ?_
        exact ls_fin s0 (.bool false) (congrArg (fun z => upd z 15 _) hF.symm) ⟨rfl, rfl⟩ (sub_nil _)
      obtain ⟨s3_13, hs3_13⟩ : ∃ z : Value → Sto → Prop, z = (fun v R => v = .bool false ∧ R = s0) := ⟨_, rfl⟩
      refine have_op (l := [_, _, _, _, _, _, _, _, _, _, _, _, _, _, _, _, _, _, _, _, _, _, _, _, _, _, _, _, _, _, _, _, _, _, _, _, _]) shadowboxref06_Right.tab1 1 13 (fun sp => sp 13 = s3_13 ∧ sp 12 = s3_12) (fun sp on hA hon => ?_) (fun ops3_13 => ?_)
      · refine ⟨fun o ho vs Rs f' S' w hp hf hx hS hR hs => ?_⟩
        obtain rfl := Option.some.inj ho
        obtain ⟨hv12, hR12⟩ := (spe hA.2 hs3_12 (hp 12 (by kernel_rfl)))
        rw [hA.1, hs3_13]
        refine And.intro (fun a ha => (want_none rfl a ha).trans hon.symm) (And.intro (fun _ => ?_) (fun h => by rw [hon] at h; cases h))
        have hF := fr_next (rfl) ((hf 12 15 (by kernel_rfl) rfl).trans hv12)
        refine ls_fr hF ?_
        refine ls_val (v := .bool false) rfl rfl (by kernel_rfl) (fun w => by kernel_rfl) ?_
        exact ls_fin s0 (.bool false) (congrArg (fun z => upd z 16 _) hF.symm) ⟨rfl, rfl⟩ (sub_nil _)
      obtain ⟨s3_17, hs3_17⟩ : ∃ z : Value → Sto → Prop, z = (fun v R => v = .bool false ∧ R = s0) := ⟨_, rfl⟩
      refine have_op (l := [_, _, _, _, _, _, _, _, _, _, _, _, _, _, _, _, _, _, _, _, _, _, _, _, _, _, _, _, _, _, _, _, _, _, _, _, _]) shadowboxref06_Right.tab1 1 17 (fun sp => sp 17 = s3_17 ∧ sp 13 = s3_13 ∧ sp 16 = spu) (fun sp on hA hon => ?_) (fun ops3_17 => ?_)
      · refine ⟨fun o ho vs Rs f' S' w hp hf hx hS hR hs => ?_⟩
        obtain rfl := Option.some.inj ho
        obtain ⟨hv13, hR13⟩ := (spe hA.2.1 hs3_13 (hp 13 (by kernel_rfl)))
        obtain ⟨hv16, hR16⟩ := (spe hA.2.2 rfl (hp 16 (by kernel_rfl)) : spu _ _)
        rw [hA.1, hs3_17]
        refine And.intro (fun a ha => (want_none rfl a ha).trans hon.symm) (And.intro (fun _ => ?_) (fun h => by rw [hon] at h; cases h))
        have hF := fr_next (fr_next (rfl) ((hf 13 16 (by kernel_rfl) rfl).trans hv13)) ((hf 16 19 (by kernel_rfl) rfl).trans hv16)
        refine ls_fr hF ?_
        refine ls_val (v := .bool false) rfl rfl (by kernel_rfl) (fun w => by kernel_rfl) ?_
        exact ls_fin s0 (.bool false) (congrArg (fun z => upd z 20 _) hF.symm) ⟨rfl, rfl⟩ (sub_nil _)
      obtain ⟨s3_18, hs3_18⟩ : ∃ z : Value → Sto → Prop, z = (fun v R => v = .bool false ∧ R = s0) := ⟨_, rfl⟩
      refine have_op (l := [_, _, _, _, _, _, _, _, _, _, _, _, _, _, _, _, _, _, _, _, _, _, _, _, _, _, _, _, _, _, _, _, _, _, _, _, _]) shadowboxref06_Right.tab1 1 18 (fun sp => sp 18 = s3_18 ∧ sp 17 = s3_17) (fun sp on hA hon => ?_) (fun ops3_18 => ?_)
      · refine ⟨fun o ho vs Rs f' S' w hp hf hx hS hR hs => ?_⟩
        obtain rfl := Option.some.inj ho
        obtain ⟨hv17, hR17⟩ := (spe hA.2 hs3_17 (hp 17 (by kernel_rfl)))
        rw [hA.1, hs3_18]
        refine And.intro (fun a ha => (want_none rfl a ha).trans hon.symm) (And.intro (fun _ => ?_) (fun h => by rw [hon] at h; cases h))
        have hF := fr_next (rfl) ((hf 17 20 (by kernel_rfl) rfl).trans hv17)
        refine ls_fr hF ?_
        refine ls_val (v := .bool false) rfl rfl (by kernel_rfl) (fun w => by kernel_rfl) ?_
        exact ls_fin s0 (.bool false) (congrArg (fun z => upd z 21 _) hF.symm) ⟨rfl, rfl⟩ (sub_nil _)
      obtain ⟨s3_22, hs3_22⟩ : ∃ z : Value → Sto → Prop, z = (fun v R => v = .bool false ∧ R = s0) := ⟨_, rfl⟩
      refine have_op (l := [_, _, _, _, _, _, _, _, _, _, _, _, _, _, _, _, _, _, _, _, _, _, _, _, _, _, _, _, _, _, _, _, _, _, _, _, _]) shadowboxref06_Right.tab1 1 22 (fun sp => sp 22 = s3_22 ∧ sp 18 = s3_18 ∧ sp 21 = spu) (fun sp on hA hon => ?_) (fun ops3_22 => ?_)
      · refine ⟨fun o ho vs Rs f' S' w hp hf hx hS hR hs => ?_⟩
        obtain rfl := Option.some.inj ho
        obtain ⟨hv18, hR18⟩ := (spe hA.2.1 hs3_18 (hp 18 (by kernel_rfl)))
        obtain ⟨hv21, hR21⟩ := (spe hA.2.2 rfl (hp 21 (by kernel_rfl)) : spu _ _)
        rw [hA.1, hs3_22]
        refine And.intro (fun a ha => (want_none rfl a ha).trans hon.symm) (And.intro (fun _ => ?_) (fun h => by rw [hon] at h; cases h))
        have hF := fr_next (fr_next (rfl) ((hf 18 21 (by kernel_rfl) rfl).trans hv18)) ((hf 21 24 (by kernel_rfl) rfl).trans hv21)
        refine ls_fr hF ?_
        refine ls_val (v := .bool false) rfl rfl (by kernel_rfl) (fun w => by kernel_rfl) ?_
        exact ls_fin s0 (.bool false) (congrArg (fun z => upd z 25 _) hF.symm) ⟨rfl, rfl⟩ (sub_nil _)
      obtain ⟨s3_23, hs3_23⟩ : ∃ z : Value → Sto → Prop, z = (fun v R => v = .bool false ∧ R = s0) := ⟨_, rfl⟩
      refine have_op (l := [_, _, _, _, _, _, _, _, _, _, _, _, _, _, _, _, _, _, _, _, _, _, _, _, _, _, _, _, _, _, _, _, _, _, _, _, _]) shadowboxref06_Right.tab1 1 23 (fun sp => sp 23 = s3_23 ∧ sp 22 = s3_22) (fun sp on hA hon => ?_) (fun ops3_23 => ?_)
      · refine ⟨fun o ho vs Rs f' S' w hp hf hx hS hR hs => ?_⟩
        obtain rfl := Option.some.inj ho
        obtain ⟨hv22, hR22⟩ := (spe hA.2 hs3_22 (hp 22 (by kernel_rfl)))
        rw [hA.1, hs3_23]
        refine And.intro (fun a ha => (want_none rfl a ha).trans hon.symm) (And.intro (fun _ => ?_) (fun h => by rw [hon] at h; cases h))
        have hF := fr_next (rfl) ((hf 22 25 (by kernel_rfl) rfl).trans hv22)
        refine ls_fr hF ?_
        refine ls_val (v := .bool false) rfl rfl (by kernel_rfl) (fun w => by kernel_rfl) ?_
        exact ls_fin s0 (.bool false) (congrArg (fun z => upd z 26 _) hF.symm) ⟨rfl, rfl⟩ (sub_nil _)
      obtain ⟨s3_27, hs3_27⟩ : ∃ z : Value → Sto → Prop, z = (fun v R => v = .bool false ∧ R = s0) := ⟨_, rfl⟩
      refine have_op (l := [_, _, _, _, _, _, _, _, _, _, _, _, _, _, _, _, _, _, _, _, _, _, _, _, _, _, _, _, _, _, _, _, _, _, _, _, _]) shadowboxref06_Right.tab1 1 27 (fun sp => sp 27 = s3_27 ∧ sp 23 = s3_23 ∧ sp 26 = spu) (fun sp on hA hon => ?_) (fun ops3_27 => ?_)
      · refine ⟨fun o ho vs Rs f' S' w hp hf hx hS hR hs => ?_⟩
        obtain rfl := Option.some.inj ho
        obtain ⟨hv23, hR23⟩ := (spe hA.2.1 hs3_23 (hp 23 (by kernel_rfl)))
        obtain ⟨hv26, hR26⟩ := (spe hA.2.2 rfl (hp 26 (by kernel_rfl)) : spu _ _)
        rw [hA.1, hs3_27]
        refine And.intro (fun a ha => (want_none rfl a ha).trans hon.symm) (And.intro (fun _ => ?_) (fun h => by rw [hon] at h; cases h))
        have hF := fr_next (fr_next (rfl) ((hf 23 26 (by kernel_rfl) rfl).trans hv23)) ((hf 26 29 (by kernel_rfl) rfl).trans hv26)
        refine ls_fr hF ?_
        refine ls_val (v := .bool false) rfl rfl (by kernel_rfl) (fun w => by kernel_rfl) ?_
        exact ls_fin s0 (.bool false) (congrArg (fun z => upd z 30 _) hF.symm) ⟨rfl, rfl⟩ (sub_nil _)
      obtain ⟨s3_28, hs3_28⟩ : ∃ z : Value → Sto → Prop, z = (fun v R => v = .bool false ∧ R = s0) := ⟨_, rfl⟩
      refine have_op (l := [_, _, _, _, _, _, _, _, _, _, _, _, _, _, _, _, _, _, _, _, _, _, _, _, _, _, _, _, _, _, _, _, _, _, _, _, _]) shadowboxref06_Right.tab1 1 28 (fun sp => sp 28 = s3_28 ∧ sp 27 = s3_27) (fun sp on hA hon => ?_) (fun ops3_28 => ?_)
      · refine ⟨fun o ho vs Rs f' S' w hp hf hx hS hR hs => ?_⟩
        obtain rfl := Option.some.inj ho
        obtain ⟨hv27, hR27⟩ := (spe hA.2 hs3_27 (hp 27 (by kernel_rfl)))
        rw [hA.1, hs3_28]
        refine And.intro (fun a ha => (want_none rfl a ha).trans hon.symm) (And.intro (fun _ => ?_) (fun h => by rw [hon] at h; cases h))
        have hF := fr_next (rfl) ((hf 27 30 (by kernel_rfl) rfl).trans hv27)
        refine ls_fr hF ?_
        refine ls_val (v := .bool false) rfl rfl (by kernel_rfl) (fun w => by kernel_rfl) ?_
        exact ls_fin s0 (.bool false) (congrArg (fun z => upd z 31 _) hF.symm) ⟨rfl, rfl⟩ (sub_nil _)
      refine cs_draw shadowboxref06_Right.tab1 33 1 (spl [s3_0, s3_1, s3_2, s3_3, s3_4, s3_5, s3_6, s3_7, s3_8, spu, spu, spu, s3_12, s3_13, spu, spu, spu, s3_17, s3_18, spu, spu, spu, s3_22, s3_23, spu, spu, spu, s3_27, s3_28, spu, spu, spu, spu]) (onl [true, true, true, true, true, true, true, true, true, false, false, false, true, true, false, false, false, true, true, false, false, false, true, true, false, false, false, true, true, false, false, false, false]) (by kernel_rfl) (by kernel_rfl) (by kernel_rfl) (by kernel_rfl) (rs := [_, _, _, _]) rfl (by kernel_rfl) (by kernel_rfl) (all_snoc (all_snoc (all_snoc (all_snoc (all_snoc (all_snoc (all_snoc (all_snoc (all_snoc (all_snoc (all_snoc (all_snoc (all_snoc (all_snoc (all_snoc (all_snoc (all_snoc (all_snoc (all_snoc (all_snoc (all_snoc (all_snoc (all_snoc (all_snoc (all_snoc (all_snoc (all_snoc (all_snoc (all_snoc (all_snoc (all_snoc (all_snoc (all_snoc (all_nil) (ops3_0 _ _ rfl rfl)) (ops3_1 _ _ ⟨rfl, rfl⟩ rfl)) (ops3_2 _ _ ⟨rfl, rfl⟩ rfl)) (ops3_3 _ _ ⟨rfl, rfl⟩ rfl)) (ops3_4 _ _ ⟨rfl, rfl⟩ rfl)) (ops3_5 _ _ ⟨rfl, rfl, rfl⟩ rfl)) (ops3_6 _ _ ⟨rfl, rfl, rfl⟩ rfl)) (ops3_7 _ _ ⟨rfl, rfl, rfl⟩ rfl)) (ops3_8 _ _ ⟨rfl, rfl⟩ rfl)) (op_offi 9 8 11 true rfl rfl (by kernel_rfl) (by kernel_rfl) rfl (fun v R h => by rw [hs3_8] at h; obtain ⟨h, _⟩ := h; exact h.trans (congrArg Value.bool (show (decide (a0.2.1 ≤ (1152921504606846976 : Int))) = false from dec_f q5))) rfl rfl)) (op_offi 10 8 11 true rfl rfl (by kernel_rfl) (by kernel_rfl) rfl (fun v R h => by rw [hs3_8] at h; obtain ⟨h, _⟩ := h; exact h.trans (congrArg Value.bool (show (decide (a0.2.1 ≤ (1152921504606846976 : Int))) = false from dec_f q5))) rfl rfl)) (op_offi 11 8 11 true rfl rfl (by kernel_rfl) (by kernel_rfl) rfl (fun v R h => by rw [hs3_8] at h; obtain ⟨h, _⟩ := h; exact h.trans (congrArg Value.bool (show (decide (a0.2.1 ≤ (1152921504606846976 : Int))) = false from dec_f q5))) rfl rfl)) (ops3_12 _ _ ⟨rfl, rfl, rfl⟩ rfl)) (ops3_13 _ _ ⟨rfl, rfl⟩ rfl)) (op_offi 14 13 16 true rfl rfl (by kernel_rfl) (by kernel_rfl) rfl (fun v R h => by rw [hs3_13] at h; obtain ⟨h, _⟩ := h; exact h) rfl rfl)) (op_offi 15 13 16 true rfl rfl (by kernel_rfl) (by kernel_rfl) rfl (fun v R h => by rw [hs3_13] at h; obtain ⟨h, _⟩ := h; exact h) rfl rfl)) (op_offi 16 13 16 true rfl rfl (by kernel_rfl) (by kernel_rfl) rfl (fun v R h => by rw [hs3_13] at h; obtain ⟨h, _⟩ := h; exact h) rfl rfl)) (ops3_17 _ _ ⟨rfl, rfl, rfl⟩ rfl)) (ops3_18 _ _ ⟨rfl, rfl⟩ rfl)) (op_offi 19 18 21 true rfl rfl (by kernel_rfl) (by kernel_rfl) rfl (fun v R h => by rw [hs3_18] at h; obtain ⟨h, _⟩ := h; exact h) rfl rfl)) (op_offi 20 18 21 true rfl rfl (by kernel_rfl) (by kernel_rfl) rfl (fun v R h => by rw [hs3_18] at h; obtain ⟨h, _⟩ := h; exact h) rfl rfl)) (op_offi 21 18 21 true rfl rfl (by kernel_rfl) (by kernel_rfl) rfl (fun v R h => by rw [hs3_18] at h; obtain ⟨h, _⟩ := h; exact h) rfl rfl)) (ops3_22 _ _ ⟨rfl, rfl, rfl⟩ rfl)) (ops3_23 _ _ ⟨rfl, rfl⟩ rfl)) (op_offi 24 23 26 true rfl rfl (by kernel_rfl) (by kernel_rfl) rfl (fun v R h => by rw [hs3_23] at h; obtain ⟨h, _⟩ := h; exact h) rfl rfl)) (op_offi 25 23 26 true rfl rfl (by kernel_rfl) (by kernel_rfl) rfl (fun v R h => by rw [hs3_23] at h; obtain ⟨h, _⟩ := h; exact h) rfl rfl)) (op_offi 26 23 26 true rfl rfl (by kernel_rfl) (by kernel_rfl) rfl (fun v R h => by rw [hs3_23] at h; obtain ⟨h, _⟩ := h; exact h) rfl rfl)) (ops3_27 _ _ ⟨rfl, rfl, rfl⟩ rfl)) (ops3_28 _ _ ⟨rfl, rfl⟩ rfl)) (op_offi 29 28 31 true rfl rfl (by kernel_rfl) (by kernel_rfl) rfl (fun v R h => by rw [hs3_28] at h; obtain ⟨h, _⟩ := h; exact h) rfl rfl)) (op_offi 30 28 31 true rfl rfl (by kernel_rfl) (by kernel_rfl) rfl (fun v R h => by rw [hs3_28] at h; obtain ⟨h, _⟩ := h; exact h) rfl rfl)) (op_offi 31 28 31 true rfl rfl (by kernel_rfl) (by kernel_rfl) rfl (fun v R h => by rw [hs3_28] at h; obtain ⟨h, _⟩ := h; exact h) rfl rfl)) (op_offi 32 28 31 true rfl rfl (by kernel_rfl) (by kernel_rfl) rfl (fun v R h => by rw [hs3_28] at h; obtain ⟨h, _⟩ := h; exact h) rfl rfl)) ?_
      intro vs Rs f' S' hp hf hx hS hR
      obtain ⟨hv28, hR28⟩ := (spe rfl hs3_28 (hp 28 (by kernel_rfl)))
      obtain ⟨hv30, hR30⟩ := (spe rfl rfl (hp 30 (by kernel_rfl)) : spu _ _)
      obtain ⟨hv32, hR32⟩ := (spe rfl rfl (hp 32 (by kernel_rfl)) : spu _ _)
      refine ls_fr (F := upd f' 31 (.bool false)) (fr_next (rfl) ((hf 28 31 (by kernel_rfl) rfl).trans hv28)) ?_
      refine ls_sub (s0) (sub_nil _) ?_
      refine ls_off (j := 28) (t := 31) (b := true) (c := false) rfl rfl (by kernel_rfl) (by kernel_rfl) rfl rfl (by kernel_rfl) ?_
      refine ls_off (j := 28) (t := 31) (b := true) (c := false) rfl rfl (by kernel_rfl) (by kernel_rfl) rfl rfl (by kernel_rfl) ?_
      refine ls_val (v := .bool false) rfl rfl (by kernel_rfl) (fun w => by kernel_rfl) ?_
      refine ls_val (v := .bool false) rfl rfl (by kernel_rfl) (fun w => by kernel_rfl) ?_
      refine ls_end ?_
      refine qn_then ?_
      refine cs_ret' ?_
      obtain rfl := Option.some.inj H
      refine qr_res (rs := [_]) rfl (fun w' hs => ⟨[.bool false], (res_tmp (by kernel_rfl) (.nil)), (), rfl, hs.pick (ts := []) (cs := []) trivial (by decide)⟩)
  · replace H := ite_f q4 H
    obtain ⟨s3_7, hs3_7⟩ : ∃ z : Value → Sto → Prop, z = (fun v R => v = .bool false ∧ R = s0) := ⟨_, rfl⟩
    refine have_op (l := [_, _, _, _, _, _, _, _, _, _, _, _, _, _, _, _, _, _, _, _, _, _, _, _, _, _, _, _, _, _, _, _, _, _, _, _, _]) shadowboxref06_Right.tab1 1 7 (fun sp => sp 7 = s3_7 ∧ sp 3 = s3_3 ∧ sp 6 = spu) (fun sp on hA hon => ?_) (fun ops3_7 => ?_)
    · refine ⟨fun o ho vs Rs f' S' w hp hf hx hS hR hs => ?_⟩
      obtain rfl := Option.some.inj ho
      obtain ⟨hv3, hR3⟩ := (spe hA.2.1 hs3_3 (hp 3 (by kernel_rfl)))
      obtain ⟨hv6, hR6⟩ := (spe hA.2.2 rfl (hp 6 (by kernel_rfl)) : spu _ _)
      rw [hA.1, hs3_7]
      refine And.intro (fun a ha => (want_none rfl a ha).trans hon.symm) (And.intro (fun _ => ?_) (fun h => by rw [hon] at h; cases h))
      have hF := fr_next (fr_next (rfl) (((hf 3 6 (by kernel_rfl) rfl).trans hv3).trans (congrArg Value.bool (show (decide (a0.2.1 ≥ (1 : Int))) = false from dec_f q4)))) ((hf 6 9 (by kernel_rfl) rfl).trans hv6)
      refine ls_fr hF ?_
      refine ls_val (v := .bool false) rfl rfl (by kernel_rfl) (fun w => by kernel_rfl) ?_
      exact ls_fin s0 (.bool false) (congrArg (fun z => upd z 10 _) hF.symm) ⟨rfl, rfl⟩ (sub_nil _)
    obtain ⟨s3_8, hs3_8⟩ : ∃ z : Value → Sto → Prop, z = (fun v R => v = .bool false ∧ R = s0) := ⟨_, rfl⟩
    refine have_op (l := [_, _, _, _, _, _, _, _, _, _, _, _, _, _, _, _, _, _, _, _, _, _, _, _, _, _, _, _, _, _, _, _, _, _, _, _, _]) shadowboxref06_Right.tab1 1 8 (fun sp => sp 8 = s3_8 ∧ sp 7 = s3_7) (fun sp on hA hon => ?_) (fun ops3_8 => ?_)
    · refine ⟨fun o ho vs Rs f' S' w hp hf hx hS hR hs => ?_⟩
      obtain rfl := Option.some.inj ho
      obtain ⟨hv7, hR7⟩ := (spe hA.2 hs3_7 (hp 7 (by kernel_rfl)))
      rw [hA.1, hs3_8]
      refine And.intro (fun a ha => (want_none rfl a ha).trans hon.symm) (And.intro (fun _ => ?_) (fun h => by rw [hon] at h; cases h))
      have hF := fr_next (rfl) ((hf 7 10 (by kernel_rfl) rfl).trans hv7)
      refine ls_fr hF ?_
      refine ls_val (v := .bool false) rfl rfl (by kernel_rfl) (fun w => by kernel_rfl) ?_
      exact ls_fin s0 (.bool false) (congrArg (fun z => upd z 11 _) hF.symm) ⟨rfl, rfl⟩ (sub_nil _)
    obtain ⟨s3_12, hs3_12⟩ : ∃ z : Value → Sto → Prop, z = (fun v R => v = .bool false ∧ R = s0) := ⟨_, rfl⟩
    refine have_op (l := [_, _, _, _, _, _, _, _, _, _, _, _, _, _, _, _, _, _, _, _, _, _, _, _, _, _, _, _, _, _, _, _, _, _, _, _, _]) shadowboxref06_Right.tab1 1 12 (fun sp => sp 12 = s3_12 ∧ sp 8 = s3_8 ∧ sp 11 = spu) (fun sp on hA hon => ?_) (fun ops3_12 => ?_)
    · refine ⟨fun o ho vs Rs f' S' w hp hf hx hS hR hs => ?_⟩
      obtain rfl := Option.some.inj ho
      obtain ⟨hv8, hR8⟩ := (spe hA.2.1 hs3_8 (hp 8 (by kernel_rfl)))
      obtain ⟨hv11, hR11⟩ := (spe hA.2.2 rfl (hp 11 (by kernel_rfl)) : spu _ _)
      rw [hA.1, hs3_12]
      refine And.intro (fun a ha => (want_none rfl a ha).trans hon.symm) (And.intro (fun _ => ?_) (fun h => by rw [hon] at h; cases h))
      have hF := fr_next (fr_next (rfl) ((hf 8 11 (by kernel_rfl) rfl).trans hv8)) ((hf 11 14 (by kernel_rfl) rfl).trans hv11)
      refine ls_fr hF ?_
      refine ls_val (v := .bool false) rfl rfl (by kernel_rfl) (fun w => by kernel_rfl) ?_
      exact ls_fin s0 (.bool false) (congrArg (fun z => upd z 15 _) hF.symm) ⟨rfl, rfl⟩ (sub_nil _)
    obtain ⟨s3_13, hs3_13⟩ : ∃ z : Value → Sto → Prop, z = (fun v R => v = .bool false ∧ R = s0) := ⟨_, rfl⟩
    refine have_op (l := [_, _, _, _, _, _, _, _, _, _, _, _, _, _, _, _, _, _, _, _, _, _, _, _, _, _, _, _, _, _, _, _, _, _, _, _, _]) shadowboxref06_Right.tab1 1 13 (fun sp => sp 13 = s3_13 ∧ sp 12 = s3_12) (fun sp on hA hon => ?_) (fun ops3_13 => ?_)
    · refine ⟨fun o ho vs Rs f' S' w hp hf hx hS hR hs => ?_⟩
      obtain rfl := Option.some.inj ho
      obtain ⟨hv12, hR12⟩ := (spe hA.2 hs3_12 (hp 12 (by kernel_rfl)))
      rw [hA.1, hs3_13]
      refine And.intro (fun a ha => (want_none rfl a ha).trans hon.symm) (And.intro (fun _ => ?_) (fun h => by rw [hon] at h; cases h))
      have hF := fr_next (rfl) ((hf 12 15 (by kernel_rfl) rfl).trans hv12)
      refine ls_fr hF ?_
      refine ls_val (v := .bool false) rfl rfl (by kernel_rfl) (fun w => by kernel_rfl) ?_
      exact ls_fin s0 (.bool false) (congrArg (fun z => upd z 16 _) hF.symm) ⟨rfl, rfl⟩ (sub_nil _)
    obtain ⟨s3_17, hs3_17⟩ : ∃ z : Value → Sto → Prop, z = (fun v R => v = .bool false ∧ R = s0) := ⟨_, rfl⟩
    refine have_op (l := [_, _, _, _, _, _, _, _, _, _, _, _, _, _, _, _, _, _, _, _, _, _, _, _, _, _, _, _, _, _, _, _, _, _, _, _, _]) shadowboxref06_Right.tab1 1 17 (fun sp => sp 17 = s3_17 ∧ sp 13 = s3_13 ∧ sp 16 = spu) (fun sp on hA hon => ?_) (fun ops3_17 => ?_)
    · refine ⟨fun o ho vs Rs f' S' w hp hf hx hS hR hs => ?_⟩
      obtain rfl := Option.some.inj ho
      obtain ⟨hv13, hR13⟩ := (spe hA.2.1 hs3_13 (hp 13 (by kernel_rfl)))
      obtain ⟨hv16, hR16⟩ := (spe hA.2.2 rfl (hp 16 (by kernel_rfl)) : spu _ _)
      rw [hA.1, hs3_17]
      refine And.intro (fun a ha => (want_none rfl a ha).trans hon.symm) (And.intro (fun _ => ?_) (fun h => by rw [hon] at h; cases h))
      have hF := fr_next (fr_next (rfl) ((hf 13 16 (by kernel_rfl) rfl).trans hv13)) ((hf 16 19 (by kernel_rfl) rfl).trans hv16)
      refine ls_fr hF ?_
      refine ls_val (v := .bool false) rfl rfl (by kernel_rfl) (fun w => by kernel_rfl) ?_
      exact ls_fin s0 (.bool false) (congrArg (fun z => upd z 20 _) hF.symm) ⟨rfl, rfl⟩ (sub_nil _)
    obtain ⟨s3_18, hs3_18⟩ : ∃ z : Value → Sto → Prop, z = (fun v R => v = .bool false ∧ R = s0) := ⟨_, rfl⟩
    refine have_op (l := [_, _, _, _, _, _, _, _, _, _, _, _, _, _, _, _, _, _, _, _, _, _, _, _, _, _, _, _, _, _, _, _, _, _, _, _, _]) shadowboxref06_Right.tab1 1 18 (fun sp => sp 18 = s3_18 ∧ sp 17 = s3_17) (fun sp on hA hon => ?_) (fun ops3_18 => ?_)
    · refine ⟨fun o ho vs Rs f' S' w hp hf hx hS hR hs => ?_⟩
      obtain rfl := Option.some.inj ho
      obtain ⟨hv17, hR17⟩ := (spe hA.2 hs3_17 (hp 17 (by kernel_rfl)))
      rw [hA.1, hs3_18]
      refine And.intro (fun a ha => (want_none rfl a ha).trans hon.symm) (And.intro (fun _ => ?_) (fun h => by rw [hon] at h; cases h))
      have hF := fr_next (rfl) ((hf 17 20 (by kernel_rfl) rfl).trans hv17)
      refine ls_fr hF ?_
      refine ls_val (v := .bool false) rfl rfl (by kernel_rfl) (fun w => by kernel_rfl) ?_
      exact ls_fin s0 (.bool false) (congrArg (fun z => upd z 21 _) hF.symm) ⟨rfl, rfl⟩ (sub_nil _)
    obtain ⟨s3_22, hs3_22⟩ : ∃ z : Value → Sto → Prop, z = (fun v R => v = .bool false ∧ R = s0) := ⟨_, rfl⟩
    refine have_op (l := [_, _, _, _, _, _, _, _, _, _, _, _, _, _, _, _, _, _, _, _, _, _, _, _, _, _, _, _, _, _, _, _, _, _, _, _, _]) shadowboxref06_Right.tab1 1 22 (fun sp => sp 22 = s3_22 ∧ sp 18 = s3_18 ∧ sp 21 = spu) (fun sp on hA hon => ?_) (fun ops3_22 => ?_)
    · refine ⟨fun o ho vs Rs f' S' w hp hf hx hS hR hs => ?_⟩
      obtain rfl := Option.some.inj ho
      obtain ⟨hv18, hR18⟩ := (spe hA.2.1 hs3_18 (hp 18 (by kernel_rfl)))
      obtain ⟨hv21, hR21⟩ := (spe hA.2.2 rfl (hp 21 (by kernel_rfl)) : spu _ _)
      rw [hA.1, hs3_22]
      refine And.intro (fun a ha => (want_none rfl a ha).trans hon.symm) (And.intro (fun _ => ?_) (fun h => by rw [hon] at h; cases h))
      have hF := fr_next (fr_next (rfl) ((hf 18 21 (by kernel_rfl) rfl).trans hv18)) ((hf 21 24 (by kernel_rfl) rfl).trans hv21)
      refine ls_fr hF ?_
      refine ls_val (v := .bool false) rfl rfl (by kernel_rfl) (fun w => by kernel_rfl) ?_
      exact ls_fin s0 (.bool false) (congrArg (fun z => upd z 25 _) hF.symm) ⟨rfl, rfl⟩ (sub_nil _)
    obtain ⟨s3_23, hs3_23⟩ : ∃ z : Value → Sto → Prop, z = (fun v R => v = .bool false ∧ R = s0) := ⟨_, rfl⟩
    refine have_op (l := [_, _, _, _, _, _, _, _, _, _, _, _, _, _, _, _, _, _, _, _, _, _, _, _, _, _, _, _, _, _, _, _, _, _, _, _, _]) shadowboxref06_Right.tab1 1 23 (fun sp => sp 23 = s3_23 ∧ sp 22 = s3_22) (fun sp on hA hon => ?_) (fun ops3_23 => ?_)
    · refine ⟨fun o ho vs Rs f' S' w hp hf hx hS hR hs => ?_⟩
      obtain rfl := Option.some.inj ho
      obtain ⟨hv22, hR22⟩ := (spe hA.2 hs3_22 (hp 22 (by kernel_rfl)))
      rw [hA.1, hs3_23]
      refine And.intro (fun a ha => (want_none rfl a ha).trans hon.symm) (And.intro (fun _ => ?_) (fun h => by rw [hon] at h; cases h))
      have hF := fr_next (rfl) ((hf 22 25 (by kernel_rfl) rfl).trans hv22)
      refine ls_fr hF ?_
      refine ls_val (v := .bool false) rfl rfl (by kernel_rfl) (fun w => by kernel_rfl) ?_
      exact ls_fin s0 (.bool false) (congrArg (fun z => upd z 26 _) hF.symm) ⟨rfl, rfl⟩ (sub_nil _)
    obtain ⟨s3_27, hs3_27⟩ : ∃ z : Value → Sto → Prop, z = (fun v R => v = .bool false ∧ R = s0) := ⟨_, rfl⟩
    refine have_op (l := [_, _, _, _, _, _, _, _, _, _, _, _, _, _, _, _, _, _, _, _, _, _, _, _, _, _, _, _, _, _, _, _, _, _, _, _, _]) shadowboxref06_Right.tab1 1 27 (fun sp => sp 27 = s3_27 ∧ sp 23 = s3_23 ∧ sp 26 = spu) (fun sp on hA hon => ?_) (fun ops3_27 => ?_)
    · refine ⟨fun o ho vs Rs f' S' w hp hf hx hS hR hs => ?_⟩
      obtain rfl := Option.some.inj ho
      obtain ⟨hv23, hR23⟩ := (spe hA.2.1 hs3_23 (hp 23 (by kernel_rfl)))
      obtain ⟨hv26, hR26⟩ := (spe hA.2.2 rfl (hp 26 (by kernel_rfl)) : spu _ _)
      rw [hA.1, hs3_27]
      refine And.intro (fun a ha => (want_none rfl a ha).trans hon.symm) (And.intro (fun _ => ?_) (fun h => by rw [hon] at h; cases h))
      have hF := fr_next (fr_next (rfl) ((hf 23 26 (by kernel_rfl) rfl).trans hv23)) ((hf 26 29 (by kernel_rfl) rfl).trans hv26)
      refine ls_fr hF ?_
      refine ls_val (v := .bool false) rfl rfl (by kernel_rfl) (fun w => by kernel_rfl) ?_
      exact ls_fin s0 (.bool false) (congrArg (fun z => upd z 30 _) hF.symm) ⟨rfl, rfl⟩ (sub_nil _)
    obtain ⟨s3_28, hs3_28⟩ : ∃ z : Value → Sto → Prop, z = (fun v R => v = .bool false ∧ R = s0) := ⟨_, rfl⟩
    refine have_op (l := [_, _, _, _, _, _, _, _, _, _, _, _, _, _, _, _, _, _, _, _, _, _, _, _, _, _, _, _, _, _, _, _, _, _, _, _, _]) shadowboxref06_Right.tab1 1 28 (fun sp => sp 28 = s3_28 ∧ sp 27 = s3_27) (fun sp on hA hon => ?_) (fun ops3_28 => ?_)
    · refine ⟨fun o ho vs Rs f' S' w hp hf hx hS hR hs => ?_⟩
      obtain rfl := Option.some.inj ho
      obtain ⟨hv27, hR27⟩ := (spe hA.2 hs3_27 (hp 27 (by kernel_rfl)))
      rw [hA.1, hs3_28]
      refine And.intro (fun a ha => (want_none rfl a ha).trans hon.symm) (And.intro (fun _ => ?_) (fun h => by rw [hon] at h; cases h))
      have hF := fr_next (rfl) ((hf 27 30 (by kernel_rfl) rfl).trans hv27)
      refine ls_fr hF ?_
      refine ls_val (v := .bool false) rfl rfl (by kernel_rfl) (fun w => by kernel_rfl) ?_
      exact ls_fin s0 (.bool false) (congrArg (fun z => upd z 31 _) hF.symm) ⟨rfl, rfl⟩ (sub_nil _)
    refine cs_draw shadowboxref06_Right.tab1 33 1 (spl [s3_0, s3_1, s3_2, s3_3, spu, spu, spu, s3_7, s3_8, spu, spu, spu, s3_12, s3_13, spu, spu, spu, s3_17, s3_18, spu, spu, spu, s3_22, s3_23, spu, spu, spu, s3_27, s3_28, spu, spu, spu, spu]) (onl [true, true, true, true, false, false, false, true, true, false, false, false, true, true, false, false, false, true, true, false, false, false, true, true, false, false, false, true, true, false, false, false, false]) (by kernel_rfl) (by kernel_rfl) (by kernel_rfl) (by kernel_rfl) (rs := [_, _, _, _]) rfl (by kernel_rfl) (by kernel_rfl) (all_snoc (all_snoc (all_snoc (all_snoc (all_snoc (all_snoc (all_snoc (all_snoc (all_snoc (all_snoc (all_snoc (all_snoc (all_snoc (all_snoc (all_snoc (all_snoc (all_snoc (all_snoc (all_snoc (all_snoc (all_snoc (all_snoc (all_snoc (all_snoc (all_snoc (all_snoc (all_snoc (all_snoc (all_snoc (all_snoc (all_snoc (all_snoc (all_snoc (all_nil) (ops3_0 _ _ rfl rfl)) (ops3_1 _ _ ⟨rfl, rfl⟩ rfl)) (ops3_2 _ _ ⟨rfl, rfl⟩ rfl)) (ops3_3 _ _ ⟨rfl, rfl⟩ rfl)) (op_offi 4 3 6 true rfl rfl (by kernel_rfl) (by kernel_rfl) rfl (fun v R h => by rw [hs3_3] at h; obtain ⟨h, _⟩ := h; exact h.trans (congrArg Value.bool (show (decide (a0.2.1 ≥ (1 : Int))) = false from dec_f q4))) rfl rfl)) (op_offi 5 3 6 true rfl rfl (by kernel_rfl) (by kernel_rfl) rfl (fun v R h => by rw [hs3_3] at h; obtain ⟨h, _⟩ := h; exact h.trans (congrArg Value.bool (show (decide (a0.2.1 ≥ (1 : Int))) = false from dec_f q4))) rfl rfl)) (op_offi 6 3 6 true rfl rfl (by kernel_rfl) (by kernel_rfl) rfl (fun v R h => by rw [hs3_3] at h; obtain ⟨h, _⟩ := h; exact h.trans (congrArg Value.bool (show (decide (a0.2.1 ≥ (1 : Int))) = false from dec_f q4))) rfl rfl)) (ops3_7 _ _ ⟨rfl, rfl, rfl⟩ rfl)) (ops3_8 _ _ ⟨rfl, rfl⟩ rfl)) (op_offi 9 8 11 true rfl rfl (by kernel_rfl) (by kernel_rfl) rfl (fun v R h => by rw [hs3_8] at h; obtain ⟨h, _⟩ := h; exact h) rfl rfl)) (op_offi 10 8 11 true rfl rfl (by kernel_rfl) (by kernel_rfl) rfl (fun v R h => by rw [hs3_8] at h; obtain ⟨h, _⟩ := h; exact h) rfl rfl)) (op_offi 11 8 11 true rfl rfl (by kernel_rfl) (by kernel_rfl) rfl (fun v R h => by rw [hs3_8] at h; obtain ⟨h, _⟩ := h; exact h) rfl rfl)) (ops3_12 _ _ ⟨rfl, rfl, rfl⟩ rfl)) (ops3_13 _ _ ⟨rfl, rfl⟩ rfl)) (op_offi 14 13 16 true rfl rfl (by kernel_rfl) (by kernel_rfl) rfl (fun v R h => by rw [hs3_13] at h; obtain ⟨h, _⟩ := h; exact h) rfl rfl)) (op_offi 15 13 16 true rfl rfl (by kernel_rfl) (by kernel_rfl) rfl (fun v R h => by rw [hs3_13] at h; obtain ⟨h, _⟩ := h; exact h) rfl rfl)) (op_offi 16 13 16 true rfl rfl (by kernel_rfl) (by kernel_rfl) rfl (fun v R h => by rw [hs3_13] at h; obtain ⟨h, _⟩ := h; exact h) rfl rfl)) (ops3_17 _ _ ⟨rfl, rfl, rfl⟩ rfl)) (ops3_18 _ _ ⟨rfl, rfl⟩ rfl)) (op_offi 19 18 21 true rfl rfl (by kernel_rfl) (by kernel_rfl) rfl (fun v R h => by rw [hs3_18] at h; obtain ⟨h, _⟩ := h; exact h) rfl rfl)) (op_offi 20 18 21 true rfl rfl (by kernel_rfl) (by kernel_rfl) rfl (fun v R h => by rw [hs3_18] at h; obtain ⟨h, _⟩ := h; exact h) rfl rfl)) (op_offi 21 18 21 true rfl rfl (by kernel_rfl) (by kernel_rfl) rfl (fun v R h => by rw [hs3_18] at h; obtain ⟨h, _⟩ := h; exact h) rfl rfl)) (ops3_22 _ _ ⟨rfl, rfl, rfl⟩ rfl)) (ops3_23 _ _ ⟨rfl, rfl⟩ rfl)) (op_offi 24 23 26 true rfl rfl (by kernel_rfl) (by kernel_rfl) rfl (fun v R h => by rw [hs3_23] at h; obtain ⟨h, _⟩ := h; exact h) rfl rfl)) (op_offi 25 23 26 true rfl rfl (by kernel_rfl) (by kernel_rfl) rfl (fun v R h => by rw [hs3_23] at h; obtain ⟨h, _⟩ := h; exact h) rfl rfl)) (op_offi 26 23 26 true rfl rfl (by kernel_rfl) (by kernel_rfl) rfl (fun v R h => by rw [hs3_23] at h; obtain ⟨h, _⟩ := h; exact h) rfl rfl)) (ops3_27 _ _ ⟨rfl, rfl, rfl⟩ rfl)) (ops3_28 _ _ ⟨rfl, rfl⟩ rfl)) (op_offi 29 28 31 true rfl rfl (by kernel_rfl) (by kernel_rfl) rfl (fun v R h => by rw [hs3_28] at h; obtain ⟨h, _⟩ := h; exact h) rfl rfl)) (op_offi 30 28 31 true rfl rfl (by kernel_rfl) (by kernel_rfl) rfl (fun v R h => by rw [hs3_28] at h; obtain ⟨h, _⟩ := h; exact h) rfl rfl)) (op_offi 31 28 31 true rfl rfl (by kernel_rfl) (by kernel_rfl) rfl (fun v R h => by rw [hs3_28] at h; obtain ⟨h, _⟩ := h; exact h) rfl rfl)) (op_offi 32 28 31 true rfl rfl (by kernel_rfl) (by kernel_rfl) rfl (fun v R h => by rw [hs3_28] at h; obtain ⟨h, _⟩ := h; exact h) rfl rfl)) ?_
    intro vs Rs f' S' hp hf hx hS hR
    obtain ⟨hv28, hR28⟩ := (spe rfl hs3_28 (hp 28 (by kernel_rfl)))
    obtain ⟨hv30, hR30⟩ := (spe rfl rfl (hp 30 (by kernel_rfl)) : spu _ _)
    obtain ⟨hv32, hR32⟩ := (spe rfl rfl (hp 32 (by kernel_rfl)) : spu _ _)
    refine ls_fr (F := upd f' 31 (.bool false)) (fr_next (rfl) ((hf 28 31 (by kernel_rfl) rfl).trans hv28)) ?_
    refine ls_sub (s0) (sub_nil _) ?_
    refine ls_off (j := 28) (t := 31) (b := true) (c := false) rfl rfl (by kernel_rfl) (by kernel_rfl) rfl rfl (by kernel_rfl) ?_
    refine ls_off (j := 28) (t := 31) (b := true) (c := false) rfl rfl (by kernel_rfl) (by kernel_rfl) rfl rfl (by kernel_rfl) ?_
    refine ls_val (v := .bool false) rfl rfl (by kernel_rfl) (fun w => by kernel_rfl) ?_
    refine ls_val (v := .bool false) rfl rfl (by kernel_rfl) (fun w => by kernel_rfl) ?_
    refine ls_end ?_
    refine qn_then ?_
    refine cs_ret' ?_
    obtain rfl := Option.some.inj H
    refine qr_res (rs := [_]) rfl (fun w' hs => ⟨[.bool false], (res_tmp (by kernel_rfl) (.nil)), (), rfl, hs.pick (ts := []) (cs := []) trivial (by decide)⟩)

/-! ### shadowbox/shadowboxref08.in: function 55 -/
def shadowboxref08_in.f (k : Nat) (a0 : Int) : Option (Bool) :=
  (if a0 ≥ (1 : Int) then some (decide (a0 ≤ (1152921504606846976 : Int))) else some false)
set_option maxRecDepth 100000 in
set_option maxHeartbeats 4000000 in
theorem shadowboxref08_in.calls (k : Nat) (a0 : Int) (r : Bool) (b : Bs) (hs0 : St b (stl []) b.w) (H : shadowboxref08_in.f k a0 = some r) :
    Calls Try.prog 55 #[.int .i64 a0] b.w fun e w' => ∃ x : Unit, e = .returned (.bool r) ∧ St b (stl []) w' := by
  unfold shadowboxref08_in.f at H
  refine enterb (n := 9) Try.func55 rfl (by kernel_rfl) (by kernel_rfl) hs0 ?_
  refine cs_sub (s0) (sub_nil _) ?_
  refine cs_seq ?_
  refine cs_region (l := [_]) ?_
  refine ls_val (v := .bool false) rfl rfl (by kernel_rfl) (fun w => by kernel_rfl) ?_
  refine ls_end ?_
  refine qn_then ?_
  refine cs_seq ?_
  refine cs_region (l := [_, _, _, _, _, _, _]) ?_
  refine ls_val (v := .int .i64 a0) rfl rfl (by kernel_rfl) (fun w => by kernel_rfl) ?_
  refine ls_val (v := .bool (decide (a0 ≥ (1 : Int)))) rfl rfl (by kernel_rfl) (fun w => by kernel_rfl) ?_
  refine ls_val (v := .bool (decide (a0 ≥ (1 : Int)))) rfl rfl (by kernel_rfl) (fun w => by kernel_rfl) ?_
  by_cases q1 : a0 ≥ (1 : Int)
  · replace H := ite_t q1 H
    refine ls_know (c := true) (dec_t q1) 5 (by kernel_rfl) ?_
    refine ls_on (j := 2) (t := 5) (b := true) rfl rfl (by kernel_rfl) (by kernel_rfl) ?_
    refine ls_val (v := .int .i64 a0) rfl rfl (by kernel_rfl) (fun w => by kernel_rfl) ?_
    refine ls_on (j := 2) (t := 5) (b := true) rfl rfl (by kernel_rfl) (by kernel_rfl) ?_
    refine ls_val (v := .bool (decide (a0 ≤ (1152921504606846976 : Int)))) rfl rfl (by kernel_rfl) (fun w => by kernel_rfl) ?_
    refine ls_val (v := .bool (decide (a0 ≤ (1152921504606846976 : Int)))) rfl rfl (by kernel_rfl) (fun w => by kernel_rfl) ?_
    refine ls_val (v := .bool (decide (a0 ≤ (1152921504606846976 : Int)))) rfl rfl (by kernel_rfl) (fun w => by kernel_rfl) ?_
    refine ls_end ?_
    refine qn_then ?_
    refine cs_ret' ?_
    obtain rfl := Option.some.inj H
    refine qr_res (rs := [_]) rfl (fun w' hs => ⟨[.bool (decide (a0 ≤ (1152921504606846976 : Int)))], (res_tmp (by kernel_rfl) (.nil)), (), rfl, hs.pick (ts := []) (cs := []) trivial (by decide)⟩)
  · replace H := ite_f q1 H
    refine ls_know (c := false) (dec_f q1) 5 (by kernel_rfl) ?_
    refine ls_off (j := 2) (t := 5) (b := true) (c := false) rfl rfl (by kernel_rfl) (by kernel_rfl) rfl rfl (by kernel_rfl) ?_
    refine ls_off (j := 2) (t := 5) (b := true) (c := false) rfl rfl (by kernel_rfl) (by kernel_rfl) rfl rfl (by kernel_rfl) ?_
    refine ls_val (v := .bool false) rfl rfl (by kernel_rfl) (fun w => by kernel_rfl) ?_
    refine ls_val (v := .bool false) rfl rfl (by kernel_rfl) (fun w => by kernel_rfl) ?_
    refine ls_end ?_
    refine qn_then ?_
    refine cs_ret' ?_
    obtain rfl := Option.some.inj H
    refine qr_res (rs := [_]) rfl (fun w' hs => ⟨[.bool false], (res_tmp (by kernel_rfl) (.nil)), (), rfl, hs.pick (ts := []) (cs := []) trivial (by decide)⟩)

/-! ### shadowbox/shadowboxref08.Right: function 42 -/
def shadowboxref08_Right.f (k : Nat) (a0 : (Int × (Int × Int × Int × Int × (Vc Int 32)) × Int)) : Option (Bool) :=
  (shadowboxref08_in.f k a0.1).bind fun t2 => (if t2 = true then (shadowboxref08_in.f k a0.2.2).bind fun t6 => (if t6 = true then (shadowboxref06_None.f k a0.2.1).bind fun t10 => (if t10 = true then some true else (shadowboxref06_Right.f k a0.2.1).bind fun t14 => (if t14 = true then some (decide (a0.2.1.2.1 ≤ a0.1)) else some false)) else some false) else some false)
set_option maxRecDepth 100000 in
set_option maxHeartbeats 4000000 in
theorem shadowboxref08_Right.calls (k : Nat) (a0 : (Int × (Int × Int × Int × Int × (Vc Int 32)) × Int)) (r : Bool) (b : Bs) (hs0 : St b (stl []) b.w) (H : shadowboxref08_Right.f k a0 = some r) :
    Calls Try.prog 42 #[.agg ⟨([Value.int .i64 a0.1] ++ (([Value.int .i64 a0.2.1.1] ++ ([Value.int .i64 a0.2.1.2.1] ++ ([Value.int .i64 a0.2.1.2.2.1] ++ ([Value.int .u32 a0.2.1.2.2.2.1] ++ en (Value.int .u8) a0.2.1.2.2.2.2.1)))) ++ [Value.int .i64 a0.2.2]))⟩] b.w fun e w' => ∃ x : Unit, e = .returned (.bool r) ∧ St b (stl []) w' := by
  unfold shadowboxref08_Right.f at H
  refine enterb (n := 29) Try.func42 rfl (by kernel_rfl) (by kernel_rfl) hs0 ?_
  refine cs_sub (s0) (sub_nil _) ?_
  refine cs_seq ?_
  refine cs_region (l := [_, _]) ?_
  refine ls_new rfl rfl (by kernel_rfl) 0 (fun g => .pointer (some ⟨g, 0, none⟩)) (.cells ⟨([Value.int .i64 a0.1] ++ (([Value.int .i64 a0.2.1.1] ++ ([Value.int .i64 a0.2.1.2.1] ++ ([Value.int .i64 a0.2.1.2.2.1] ++ ([Value.int .u32 a0.2.1.2.2.2.1] ++ en (Value.int .u8) a0.2.1.2.2.2.2.1)))) ++ [Value.int .i64 a0.2.2]))⟩ 47) (fun w => by kernel_rfl) ?_
  intro g1
  refine ls_val (v := .bool false) rfl rfl (by kernel_rfl) (fun w => by kernel_rfl) ?_
  refine ls_end ?_
  refine qn_then ?_
  refine cs_seq ?_
  refine cs_region (l := [_, _, _, _, _, _, _, _, _, _, _, _, _, _, _, _, _, _, _, _, _, _, _, _, _, _, _]) ?_
  refine ls_val (v := .pointer (some ⟨g1, (0 + 0), none⟩)) rfl rfl (by kernel_rfl) (fun w => by kernel_rfl) ?_
  refine ls_load (a0 := ⟨g1, (0 + 0), none⟩) (v := .int .i64 a0.1) (de := (TypeDesc.int .i64)) rfl rfl (by kernel_rfl) rfl (by kernel_rfl) (by kernel_rfl) (by kernel_rfl) (fun w hs => (hs.var (k := 0) (by exact rfl) (Sub4.trans (Sub4.all _) (Sub4.head _ _)))) ?_
  obtain ⟨t2, hc3, H⟩ := bind_some H
  refine ls_callb (fid := 55) (vals := #[.int .i64 a0.1]) (X := Unit) (fun x => .bool t2) (fun x => stl []) [] [] [] [] 1 rfl rfl (by kernel_rfl) (fun w => by kernel_rfl) trivial trivial (by decide) (fun w hs hb => shadowboxref08_in.calls k a0.1 t2 (lent b w [] []) hb  hc3) ?_
  intro x4
  refine ls_val (v := .bool t2) rfl rfl (by kernel_rfl) (fun w => by kernel_rfl) ?_
  by_cases q5 : t2 = true
  · replace H := ite_t q5 H
    refine ls_know (c := true) (q5) 6 (by kernel_rfl) ?_
    refine ls_on (j := 3) (t := 6) (b := true) rfl rfl (by kernel_rfl) (by kernel_rfl) ?_
    refine ls_val (v := .pointer (some ⟨g1, (0 + 37), none⟩)) rfl rfl (by kernel_rfl) (fun w => by kernel_rfl) ?_
    refine ls_on (j := 3) (t := 6) (b := true) rfl rfl (by kernel_rfl) (by kernel_rfl) ?_
    refine ls_load (a0 := ⟨g1, (0 + 37), none⟩) (v := .int .i64 a0.2.2) (de := (TypeDesc.int .i64)) rfl rfl (by kernel_rfl) rfl (by kernel_rfl) (by kernel_rfl) (by kernel_rfl) (fun w hs => (hs.var (k := 0) (by exact rfl) (Sub4.trans (Sub4.all _) (Sub4.skip (n := 1) (len1 _) (Sub4.skip (n := 36) (len_app (len1 _) (len_app (len1 _) (len_app (len1 _) (len_app (len1 _) (len_en _ a0.2.1.2.2.2.2))))) (Sub4.all _)))))) ?_
    refine ls_on (j := 3) (t := 6) (b := true) rfl rfl (by kernel_rfl) (by kernel_rfl) ?_
    obtain ⟨t6, hc7, H⟩ := bind_some H
    refine ls_callb (fid := 55) (vals := #[.int .i64 a0.2.2]) (X := Unit) (fun x => .bool t6) (fun x => stl []) [] [] [] [] 1 rfl rfl (by kernel_rfl) (fun w => by kernel_rfl) trivial trivial (by decide) (fun w hs hb => shadowboxref08_in.calls k a0.2.2 t6 (lent b w [] []) hb  hc7) ?_
    intro x8
    refine ls_val (v := .bool t6) rfl rfl (by kernel_rfl) (fun w => by kernel_rfl) ?_
    refine ls_val (v := .bool t6) rfl rfl (by kernel_rfl) (fun w => by kernel_rfl) ?_
    by_cases q9 : t6 = true
    · replace H := ite_t q9 H
      refine ls_know (c := true) (q9) 11 (by kernel_rfl) ?_
      refine ls_on (j := 8) (t := 11) (b := true) rfl rfl (by kernel_rfl) (by kernel_rfl) ?_
      refine ls_val (v := .pointer (some ⟨g1, (0 + 1), none⟩)) rfl rfl (by kernel_rfl) (fun w => by kernel_rfl) ?_
      refine ls_on (j := 8) (t := 11) (b := true) rfl rfl (by kernel_rfl) (by kernel_rfl) ?_
      refine ls_loadagg (a := ⟨g1, (0 + 1), none⟩) (sub := ([Value.int .i64 a0.2.1.1] ++ ([Value.int .i64 a0.2.1.2.1] ++ ([Value.int .i64 a0.2.1.2.2.1] ++ ([Value.int .u32 a0.2.1.2.2.2.1] ++ en (Value.int .u8) a0.2.1.2.2.2.2.1))))) rfl rfl (by kernel_rfl) rfl (by kernel_rfl) (by kernel_rfl) (by kernel_rfl) (len_app (len1 _) (len_app (len1 _) (len_app (len1 _) (len_app (len1 _) (len_en _ a0.2.1.2.2.2.2))))) (fun w hs => (hs.vars (k := 0) (by exact rfl) (Sub4.trans (Sub4.all _) (Sub4.skip (n := 1) (len1 _) (Sub4.head _ _))))) ?_
      refine ls_on (j := 8) (t := 11) (b := true) rfl rfl (by kernel_rfl) (by kernel_rfl) ?_
      obtain ⟨t10, hc11, H⟩ := bind_some H
      refine ls_callb (fid := 13) (vals := #[.agg ⟨([Value.int .i64 a0.2.1.1] ++ ([Value.int .i64 a0.2.1.2.1] ++ ([Value.int .i64 a0.2.1.2.2.1] ++ ([Value.int .u32 a0.2.1.2.2.2.1] ++ en (Value.int .u8) a0.2.1.2.2.2.2.1))))⟩]) (X := Unit) (fun x => .bool t10) (fun x => stl []) [] [] [] [] 1 rfl rfl (by kernel_rfl) (fun w => by kernel_rfl) trivial trivial (by decide) (fun w hs hb => shadowboxref06_None.calls k a0.2.1 t10 (lent b w [] []) hb  hc11) ?_
      intro x12
      refine ls_on (j := 8) (t := 11) (b := true) rfl rfl (by kernel_rfl) (by kernel_rfl) ?_
      refine ls_val (v := .bool t10) rfl rfl (by kernel_rfl) (fun w => by kernel_rfl) ?_
      by_cases q13 : t10 = true
      · replace H := ite_t q13 H
        refine ls_know (c := true) (q13) 15 (by kernel_rfl) ?_
        refine ls_off (j := 12) (t := 15) (b := false) (c := true) rfl rfl (by kernel_rfl) (by kernel_rfl) rfl rfl (by kernel_rfl) ?_
        refine ls_off (j := 12) (t := 15) (b := false) (c := true) rfl rfl (by kernel_rfl) (by kernel_rfl) rfl rfl (by kernel_rfl) ?_
        refine ls_off (j := 12) (t := 15) (b := false) (c := true) rfl rfl (by kernel_rfl) (by kernel_rfl) rfl rfl (by kernel_rfl) ?_
        refine ls_off (j := 12) (t := 15) (b := false) (c := true) rfl rfl (by kernel_rfl) (by kernel_rfl) rfl rfl (by kernel_rfl) ?_
        refine ls_offu (j := 16) (t := 19) (b := true) rfl rfl (by kernel_rfl) (by kernel_rfl) rfl (by kernel_rfl) ?_
        refine ls_offu (j := 16) (t := 19) (b := true) rfl rfl (by kernel_rfl) (by kernel_rfl) rfl (by kernel_rfl) ?_
        refine ls_offu (j := 16) (t := 19) (b := true) rfl rfl (by kernel_rfl) (by kernel_rfl) rfl (by kernel_rfl) ?_
        refine ls_offu (j := 16) (t := 19) (b := true) rfl rfl (by kernel_rfl) (by kernel_rfl) rfl (by kernel_rfl) ?_
        refine ls_offu (j := 16) (t := 19) (b := true) rfl rfl (by kernel_rfl) (by kernel_rfl) rfl (by kernel_rfl) ?_
        refine ls_offu (j := 16) (t := 19) (b := true) rfl rfl (by kernel_rfl) (by kernel_rfl) rfl (by kernel_rfl) ?_
        refine ls_off (j := 12) (t := 15) (b := false) (c := true) rfl rfl (by kernel_rfl) (by kernel_rfl) rfl rfl (by kernel_rfl) ?_
        refine ls_on (j := 8) (t := 11) (b := true) rfl rfl (by kernel_rfl) (by kernel_rfl) ?_
        refine ls_val (v := .bool true) rfl rfl (by kernel_rfl) (fun w => by kernel_rfl) ?_
        refine ls_val (v := .bool true) rfl rfl (by kernel_rfl) (fun w => by kernel_rfl) ?_
        refine ls_val (v := .bool true) rfl rfl (by kernel_rfl) (fun w => by kernel_rfl) ?_
        refine ls_end ?_
        refine qn_then ?_
        refine cs_ret' ?_
        obtain rfl := Option.some.inj H
        refine qr_res (rs := [_]) rfl (fun w' hs => ⟨[.bool true], (res_tmp (by kernel_rfl) (.nil)), (), rfl, hs.pick (ts := []) (cs := []) trivial (by decide)⟩)
      · replace H := ite_f q13 H
        refine ls_know (c := false) (Bool.eq_false_iff.mpr q13) 15 (by kernel_rfl) ?_
        refine ls_on (j := 12) (t := 15) (b := false) rfl rfl (by kernel_rfl) (by kernel_rfl) ?_
        refine ls_val (v := .pointer (some ⟨g1, (0 + 1), none⟩)) rfl rfl (by kernel_rfl) (fun w => by kernel_rfl) ?_
        refine ls_on (j := 12) (t := 15) (b := false) rfl rfl (by kernel_rfl) (by kernel_rfl) ?_
        refine ls_loadagg (a := ⟨g1, (0 + 1), none⟩) (sub := ([Value.int .i64 a0.2.1.1] ++ ([Value.int .i64 a0.2.1.2.1] ++ ([Value.int .i64 a0.2.1.2.2.1] ++ ([Value.int .u32 a0.2.1.2.2.2.1] ++ en (Value.int .u8) a0.2.1.2.2.2.2.1))))) rfl rfl (by kernel_rfl) rfl (by kernel_rfl) (by kernel_rfl) (by kernel_rfl) (len_app (len1 _) (len_app (len1 _) (len_app (len1 _) (len_app (len1 _) (len_en _ a0.2.1.2.2.2.2))))) (fun w hs => (hs.vars (k := 0) (by exact rfl) (Sub4.trans (Sub4.all _) (Sub4.skip (n := 1) (len1 _) (Sub4.head _ _))))) ?_
        refine ls_on (j := 12) (t := 15) (b := false) rfl rfl (by kernel_rfl) (by kernel_rfl) ?_
        obtain ⟨t14, hc15, H⟩ := bind_some H
        refine ls_callb (fid := 15) (vals := #[.agg ⟨([Value.int .i64 a0.2.1.1] ++ ([Value.int .i64 a0.2.1.2.1] ++ ([Value.int .i64 a0.2.1.2.2.1] ++ ([Value.int .u32 a0.2.1.2.2.2.1] ++ en (Value.int .u8) a0.2.1.2.2.2.2.1))))⟩]) (X := Unit) (fun x => .bool t14) (fun x => stl []) [] [] [] [] 1 rfl rfl (by kernel_rfl) (fun w => by kernel_rfl) trivial trivial (by decide) (fun w hs hb => shadowboxref06_Right.calls k a0.2.1 t14 (lent b w [] []) hb  hc15) ?_
        intro x16
        refine ls_on (j := 12) (t := 15) (b := false) rfl rfl (by kernel_rfl) (by kernel_rfl) ?_
        refine ls_val (v := .bool t14) rfl rfl (by kernel_rfl) (fun w => by kernel_rfl) ?_
        by_cases q17 : t14 = true
        · replace H := ite_t q17 H
          refine ls_know (c := true) (q17) 19 (by kernel_rfl) ?_
          refine ls_on (j := 16) (t := 19) (b := true) rfl rfl (by kernel_rfl) (by kernel_rfl) ?_
          refine ls_val (v := .pointer (some ⟨g1, (0 + 1), none⟩)) rfl rfl (by kernel_rfl) (fun w => by kernel_rfl) ?_
          refine ls_on (j := 16) (t := 19) (b := true) rfl rfl (by kernel_rfl) (by kernel_rfl) ?_
          refine ls_val (v := .pointer (some ⟨g1, ((0 + 1) + 1), none⟩)) rfl rfl (by kernel_rfl) (fun w => by kernel_rfl) ?_
          refine ls_on (j := 16) (t := 19) (b := true) rfl rfl (by kernel_rfl) (by kernel_rfl) ?_
          refine ls_load (a0 := ⟨g1, ((0 + 1) + 1), none⟩) (v := .int .i64 a0.2.1.2.1) (de := (TypeDesc.int .i64)) rfl rfl (by kernel_rfl) rfl (by kernel_rfl) (by kernel_rfl) (by kernel_rfl) (fun w hs => (hs.var (k := 0) (by exact rfl) (Sub4.trans (Sub4.trans (Sub4.all _) (Sub4.skip (n := 1) (len1 _) (Sub4.head _ _))) (Sub4.skip (n := 1) (len1 _) (Sub4.head _ _))))) ?_
          refine ls_on (j := 16) (t := 19) (b := true) rfl rfl (by kernel_rfl) (by kernel_rfl) ?_
          refine ls_val (v := .pointer (some ⟨g1, (0 + 0), none⟩)) rfl rfl (by kernel_rfl) (fun w => by kernel_rfl) ?_
          refine ls_on (j := 16) (t := 19) (b := true) rfl rfl (by kernel_rfl) (by kernel_rfl) ?_
          refine ls_load (a0 := ⟨g1, (0 + 0), none⟩) (v := .int .i64 a0.1) (de := (TypeDesc.int .i64)) rfl rfl (by kernel_rfl) rfl (by kernel_rfl) (by kernel_rfl) (by kernel_rfl) (fun w hs => (hs.var (k := 0) (by exact rfl) (Sub4.trans (Sub4.all _) (Sub4.head _ _)))) ?_
          refine ls_on (j := 16) (t := 19) (b := true) rfl rfl (by kernel_rfl) (by kernel_rfl) ?_
          refine ls_val (v := .bool (decide (a0.2.1.2.1 ≤ a0.1))) rfl rfl (by kernel_rfl) (fun w => by kernel_rfl) ?_
          refine ls_on (j := 12) (t := 15) (b := false) rfl rfl (by kernel_rfl) (by kernel_rfl) ?_
          refine ls_val (v := .bool (decide (a0.2.1.2.1 ≤ a0.1))) rfl rfl (by kernel_rfl) (fun w => by kernel_rfl) ?_
          refine ls_on (j := 8) (t := 11) (b := true) rfl rfl (by kernel_rfl) (by kernel_rfl) ?_
          refine ls_val (v := .bool (decide (a0.2.1.2.1 ≤ a0.1))) rfl rfl (by kernel_rfl) (fun w => by kernel_rfl) ?_
          refine ls_val (v := .bool (decide (a0.2.1.2.1 ≤ a0.1))) rfl rfl (by kernel_rfl) (fun w => by kernel_rfl) ?_
          refine ls_val (v := .bool (decide (a0.2.1.2.1 ≤ a0.1))) rfl rfl (by kernel_rfl) (fun w => by kernel_rfl) ?_
          refine ls_end ?_
          refine qn_then ?_
          refine cs_ret' ?_
          obtain rfl := Option.some.inj H
          refine qr_res (rs := [_]) rfl (fun w' hs => ⟨[.bool (decide (a0.2.1.2.1 ≤ a0.1))], (res_tmp (by kernel_rfl) (.nil)), (), rfl, hs.pick (ts := []) (cs := []) trivial (by decide)⟩)
        · replace H := ite_f q17 H
          refine ls_know (c := false) (Bool.eq_false_iff.mpr q17) 19 (by kernel_rfl) ?_
          refine ls_off (j := 16) (t := 19) (b := true) (c := false) rfl rfl (by kernel_rfl) (by kernel_rfl) rfl rfl (by kernel_rfl) ?_
          refine ls_off (j := 16) (t := 19) (b := true) (c := false) rfl rfl (by kernel_rfl) (by kernel_rfl) rfl rfl (by kernel_rfl) ?_
          refine ls_off (j := 16) (t := 19) (b := true) (c := false) rfl rfl (by kernel_rfl) (by kernel_rfl) rfl rfl (by kernel_rfl) ?_
          refine ls_off (j := 16) (t := 19) (b := true) (c := false) rfl rfl (by kernel_rfl) (by kernel_rfl) rfl rfl (by kernel_rfl) ?_
          refine ls_off (j := 16) (t := 19) (b := true) (c := false) rfl rfl (by kernel_rfl) (by kernel_rfl) rfl rfl (by kernel_rfl) ?_
          refine ls_off (j := 16) (t := 19) (b := true) (c := false) rfl rfl (by kernel_rfl) (by kernel_rfl) rfl rfl (by kernel_rfl) ?_
          refine ls_on (j := 12) (t := 15) (b := false) rfl rfl (by kernel_rfl) (by kernel_rfl) ?_
          refine ls_val (v := .bool false) rfl rfl (by kernel_rfl) (fun w => by kernel_rfl) ?_
          refine ls_on (j := 8) (t := 11) (b := true) rfl rfl (by kernel_rfl) (by kernel_rfl) ?_
          refine ls_val (v := .bool false) rfl rfl (by kernel_rfl) (fun w => by kernel_rfl) ?_
          refine ls_val (v := .bool false) rfl rfl (by kernel_rfl) (fun w => by kernel_rfl) ?_
          refine ls_val (v := .bool false) rfl rfl (by kernel_rfl) (fun w => by kernel_rfl) ?_
          refine ls_end ?_
          refine qn_then ?_
          refine cs_ret' ?_
          obtain rfl := Option.some.inj H
          refine qr_res (rs := [_]) rfl (fun w' hs => ⟨[.bool false], (res_tmp (by kernel_rfl) (.nil)), (), rfl, hs.pick (ts := []) (cs := []) trivial (by decide)⟩)
    · replace H := ite_f q9 H
      refine ls_know (c := false) (Bool.eq_false_iff.mpr q9) 11 (by kernel_rfl) ?_
      refine ls_off (j := 8) (t := 11) (b := true) (c := false) rfl rfl (by kernel_rfl) (by kernel_rfl) rfl rfl (by kernel_rfl) ?_
      refine ls_off (j := 8) (t := 11) (b := true) (c := false) rfl rfl (by kernel_rfl) (by kernel_rfl) rfl rfl (by kernel_rfl) ?_
      refine ls_off (j := 8) (t := 11) (b := true) (c := false) rfl rfl (by kernel_rfl) (by kernel_rfl) rfl rfl (by kernel_rfl) ?_
      refine ls_off (j := 8) (t := 11) (b := true) (c := false) rfl rfl (by kernel_rfl) (by kernel_rfl) rfl rfl (by kernel_rfl) ?_
      refine ls_offu (j := 12) (t := 15) (b := false) rfl rfl (by kernel_rfl) (by kernel_rfl) rfl (by kernel_rfl) ?_
      refine ls_offu (j := 12) (t := 15) (b := false) rfl rfl (by kernel_rfl) (by kernel_rfl) rfl (by kernel_rfl) ?_
      refine ls_offu (j := 12) (t := 15) (b := false) rfl rfl (by kernel_rfl) (by kernel_rfl) rfl (by kernel_rfl) ?_
      refine ls_offu (j := 12) (t := 15) (b := false) rfl rfl (by kernel_rfl) (by kernel_rfl) rfl (by kernel_rfl) ?_
      refine ls_offu (j := 16) (t := 19) (b := true) rfl rfl (by kernel_rfl) (by kernel_rfl) rfl (by kernel_rfl) ?_
      refine ls_offu (j := 16) (t := 19) (b := true) rfl rfl (by kernel_rfl) (by kernel_rfl) rfl (by kernel_rfl) ?_
      refine ls_offu (j := 16) (t := 19) (b := true) rfl rfl (by kernel_rfl) (by kernel_rfl) rfl (by kernel_rfl) ?_
      refine ls_offu (j := 16) (t := 19) (b := true) rfl rfl (by kernel_rfl) (by kernel_rfl) rfl (by kernel_rfl) ?_
      refine ls_offu (j := 16) (t := 19) (b := true) rfl rfl (by kernel_rfl) (by kernel_rfl) rfl (by kernel_rfl) ?_
      refine ls_offu (j := 16) (t := 19) (b := true) rfl rfl (by kernel_rfl) (by kernel_rfl) rfl (by kernel_rfl) ?_
      refine ls_offu (j := 12) (t := 15) (b := false) rfl rfl (by kernel_rfl) (by kernel_rfl) rfl (by kernel_rfl) ?_
      refine ls_off (j := 8) (t := 11) (b := true) (c := false) rfl rfl (by kernel_rfl) (by kernel_rfl) rfl rfl (by kernel_rfl) ?_
      refine ls_val (v := .bool false) rfl rfl (by kernel_rfl) (fun w => by kernel_rfl) ?_
      refine ls_val (v := .bool false) rfl rfl (by kernel_rfl) (fun w => by kernel_rfl) ?_
      refine ls_end ?_
      refine qn_then ?_
      refine cs_ret' ?_
      obtain rfl := Option.some.inj H
      refine qr_res (rs := [_]) rfl (fun w' hs => ⟨[.bool false], (res_tmp (by kernel_rfl) (.nil)), (), rfl, hs.pick (ts := []) (cs := []) trivial (by decide)⟩)
  · replace H := ite_f q5 H
    refine ls_know (c := false) (Bool.eq_false_iff.mpr q5) 6 (by kernel_rfl) ?_
    refine ls_off (j := 3) (t := 6) (b := true) (c := false) rfl rfl (by kernel_rfl) (by kernel_rfl) rfl rfl (by kernel_rfl) ?_
    refine ls_off (j := 3) (t := 6) (b := true) (c := false) rfl rfl (by kernel_rfl) (by kernel_rfl) rfl rfl (by kernel_rfl) ?_
    refine ls_off (j := 3) (t := 6) (b := true) (c := false) rfl rfl (by kernel_rfl) (by kernel_rfl) rfl rfl (by kernel_rfl) ?_
    refine ls_val (v := .bool false) rfl rfl (by kernel_rfl) (fun w => by kernel_rfl) ?_
    refine ls_val (v := .bool false) rfl rfl (by kernel_rfl) (fun w => by kernel_rfl) ?_
    refine ls_off (j := 8) (t := 11) (b := true) (c := false) rfl rfl (by kernel_rfl) (by kernel_rfl) rfl rfl (by kernel_rfl) ?_
    refine ls_off (j := 8) (t := 11) (b := true) (c := false) rfl rfl (by kernel_rfl) (by kernel_rfl) rfl rfl (by kernel_rfl) ?_
    refine ls_off (j := 8) (t := 11) (b := true) (c := false) rfl rfl (by kernel_rfl) (by kernel_rfl) rfl rfl (by kernel_rfl) ?_
    refine ls_off (j := 8) (t := 11) (b := true) (c := false) rfl rfl (by kernel_rfl) (by kernel_rfl) rfl rfl (by kernel_rfl) ?_
    refine ls_offu (j := 12) (t := 15) (b := false) rfl rfl (by kernel_rfl) (by kernel_rfl) rfl (by kernel_rfl) ?_
    refine ls_offu (j := 12) (t := 15) (b := false) rfl rfl (by kernel_rfl) (by kernel_rfl) rfl (by kernel_rfl) ?_
    refine ls_offu (j := 12) (t := 15) (b := false) rfl rfl (by kernel_rfl) (by kernel_rfl) rfl (by kernel_rfl) ?_
    refine ls_offu (j := 12) (t := 15) (b := false) rfl rfl (by kernel_rfl) (by kernel_rfl) rfl (by kernel_rfl) ?_
    refine ls_offu (j := 16) (t := 19) (b := true) rfl rfl (by kernel_rfl) (by kernel_rfl) rfl (by kernel_rfl) ?_
    refine ls_offu (j := 16) (t := 19) (b := true) rfl rfl (by kernel_rfl) (by kernel_rfl) rfl (by kernel_rfl) ?_
    refine ls_offu (j := 16) (t := 19) (b := true) rfl rfl (by kernel_rfl) (by kernel_rfl) rfl (by kernel_rfl) ?_
    refine ls_offu (j := 16) (t := 19) (b := true) rfl rfl (by kernel_rfl) (by kernel_rfl) rfl (by kernel_rfl) ?_
    refine ls_offu (j := 16) (t := 19) (b := true) rfl rfl (by kernel_rfl) (by kernel_rfl) rfl (by kernel_rfl) ?_
    refine ls_offu (j := 16) (t := 19) (b := true) rfl rfl (by kernel_rfl) (by kernel_rfl) rfl (by kernel_rfl) ?_
    refine ls_offu (j := 12) (t := 15) (b := false) rfl rfl (by kernel_rfl) (by kernel_rfl) rfl (by kernel_rfl) ?_
    refine ls_off (j := 8) (t := 11) (b := true) (c := false) rfl rfl (by kernel_rfl) (by kernel_rfl) rfl rfl (by kernel_rfl) ?_
    refine ls_val (v := .bool false) rfl rfl (by kernel_rfl) (fun w => by kernel_rfl) ?_
    refine ls_val (v := .bool false) rfl rfl (by kernel_rfl) (fun w => by kernel_rfl) ?_
    refine ls_end ?_
    refine qn_then ?_
    refine cs_ret' ?_
    obtain rfl := Option.some.inj H
    refine qr_res (rs := [_]) rfl (fun w' hs => ⟨[.bool false], (res_tmp (by kernel_rfl) (.nil)), (), rfl, hs.pick (ts := []) (cs := []) trivial (by decide)⟩)

/-! ### shadowbox/shadowboxref08.Seal: function 25 -/
def shadowboxref08_Seal.lo2 (a0 : (Int × (Int × Int × Int × Int × (Vc Int 32)) × Int)) : Nat → (List Int) → Option ((List Int) × Int × Int)
  | 0, _ => none
  | k2 + 1, l5_2 => (if (l5_2.length : Int) < (500 : Int) then (if (l5_2.length + ([(0 : Int)]).length) * 1 ≤ 140737488355328 then (shadowboxref08_Seal.lo2 a0 k2) (l5_2 ++ [(0 : Int)]) else none) else (shadowboxref02_Go.f k2 (0 : Int) l5_2).bind fun t19 => (shadowboxref01_Fixed.f k2 l5_2 (4 : Int) (IntKind.wrap .u64 t19)).bind fun t22 => (shadowboxref01_Fixed.f k2 t22 (8 : Int) (IntKind.wrap .u64 a0.1)).bind fun t25 => some (t25, Int.tmod a0.1 (2 : Int), (0 : Int)))
def shadowboxref08_Seal.jo1 (k : Nat) (a0 : (Int × (Int × Int × Int × Int × (Vc Int 32)) × Int)) : Option ((List Int) × Int × Int) := (shadowboxref01_Fixed.f k ([] : List Int) (8 : Int) (IntKind.wrap .u64 a0.1)).bind fun t2 => (if t2.length + (⟨#[83, 66, 88, 49]⟩ : ByteArray).size ≤ 140737488355328 then (shadowboxref01_Fixed.f k (t2 ++ bl (⟨#[83, 66, 88, 49]⟩ : ByteArray)) (8 : Int) (IntKind.wrap .u64 a0.2.2)).bind fun t8 => (shadowboxref06_Put.f k t8 a0.2.1).bind fun t11 => shadowboxref08_Seal.lo2 a0 k t11 else none)
def shadowboxref08_Seal.f (k : Nat) (a0 : (Int × (Int × Int × Int × Int × (Vc Int 32)) × Int)) : Option ((List Int) × Int × Int) :=
  (shadowboxref08_Right.f k a0).bind fun t28 => (if t28 = true then (shadowboxref08_Seal.jo1 k a0) else some (([] : List Int), (0 : Int), (2 : Int)))
set_option maxRecDepth 100000 in
set_option maxHeartbeats 4000000 in
theorem shadowboxref08_Seal.calls (k : Nat) (a0 : (Int × (Int × Int × Int × Int × (Vc Int 32)) × Int)) (r : (List Int) × Int × Int) (b : Bs) (hs0 : St b (stl []) b.w) (H : shadowboxref08_Seal.f k a0 = some r) :
    Calls Try.prog 25 #[.agg ⟨([Value.int .i64 a0.1] ++ (([Value.int .i64 a0.2.1.1] ++ ([Value.int .i64 a0.2.1.2.1] ++ ([Value.int .i64 a0.2.1.2.2.1] ++ ([Value.int .u32 a0.2.1.2.2.2.1] ++ en (Value.int .u8) a0.2.1.2.2.2.2.1)))) ++ [Value.int .i64 a0.2.2]))⟩] b.w fun e w' => ∃ x : (Option Addr × Nat), e = .returned (.tuple #[.slice x.1 r.1.length x.2, .int .i64 r.2.1, .int .i64 r.2.2]) ∧ St b (stl [Ck.sl (Ec.int 5 .u8) x.1 x.2 r.1]) w' := by
  unfold shadowboxref08_Seal.f at H
  refine enterb (n := 43) Try.func25 rfl (by kernel_rfl) (by kernel_rfl) hs0 ?_
  refine cs_sub (s0) (sub_nil _) ?_
  refine cs_seq ?_
  refine cs_region (l := [_, _, _, _]) ?_
  refine ls_new rfl rfl (by kernel_rfl) 0 (fun g => .pointer (some ⟨g, 0, none⟩)) (.cells ⟨([Value.int .i64 a0.1] ++ (([Value.int .i64 a0.2.1.1] ++ ([Value.int .i64 a0.2.1.2.1] ++ ([Value.int .i64 a0.2.1.2.2.1] ++ ([Value.int .u32 a0.2.1.2.2.2.1] ++ en (Value.int .u8) a0.2.1.2.2.2.2.1)))) ++ [Value.int .i64 a0.2.2]))⟩ 47) (fun w => by kernel_rfl) ?_
  intro g1
  refine ls_val (v := .slice none 0 0) rfl rfl (by kernel_rfl) (fun w => by kernel_rfl) ?_
  refine ls_val (v := .int .i64 (0 : Int)) rfl rfl (by kernel_rfl) (fun w => by kernel_rfl) ?_
  refine ls_val (v := .int .i64 (0 : Int)) rfl rfl (by kernel_rfl) (fun w => by kernel_rfl) ?_
  refine ls_end ?_
  refine qn_then ?_
  refine cs_cut (fun f S => ∃ (fR : Fr), f = upd fR 1 (.pointer (some ⟨g1, 0, none⟩)) ∧ S = sput s0 0 (some (Ck.var 47 g1 (([Value.int .i64 a0.1] ++ (([Value.int .i64 a0.2.1.1] ++ ([Value.int .i64 a0.2.1.2.1] ++ ([Value.int .i64 a0.2.1.2.2.1] ++ ([Value.int .u32 a0.2.1.2.2.2.1] ++ en (Value.int .u8) a0.2.1.2.2.2.2.1)))) ++ [Value.int .i64 a0.2.2]))))) ∧ shadowboxref08_Seal.jo1 k a0 = some r) ?_ ?_
  · skip
    refine cs_seq ?_
    refine cs_region (l := [_, _, _]) ?_
    refine ls_loadagg (a := ⟨g1, 0, none⟩) (sub := ([Value.int .i64 a0.1] ++ (([Value.int .i64 a0.2.1.1] ++ ([Value.int .i64 a0.2.1.2.1] ++ ([Value.int .i64 a0.2.1.2.2.1] ++ ([Value.int .u32 a0.2.1.2.2.2.1] ++ en (Value.int .u8) a0.2.1.2.2.2.2.1)))) ++ [Value.int .i64 a0.2.2]))) rfl rfl (by kernel_rfl) rfl (by kernel_rfl) (by kernel_rfl) (by kernel_rfl) (len_app (len1 _) (len_app (len_app (len1 _) (len_app (len1 _) (len_app (len1 _) (len_app (len1 _) (len_en _ a0.2.1.2.2.2.2))))) (len1 _))) (fun w hs => (hs.vars (k := 0) (by exact rfl) (Sub4.all _))) ?_
    obtain ⟨t28, hc29, H⟩ := bind_some H
    refine ls_callb (fid := 42) (vals := #[.agg ⟨([Value.int .i64 a0.1] ++ (([Value.int .i64 a0.2.1.1] ++ ([Value.int .i64 a0.2.1.2.1] ++ ([Value.int .i64 a0.2.1.2.2.1] ++ ([Value.int .u32 a0.2.1.2.2.2.1] ++ en (Value.int .u8) a0.2.1.2.2.2.2.1)))) ++ [Value.int .i64 a0.2.2]))⟩]) (X := Unit) (fun x => .bool t28) (fun x => stl []) [] [] [] [] 1 rfl rfl (by kernel_rfl) (fun w => by kernel_rfl) trivial trivial (by decide) (fun w hs hb => shadowboxref08_Right.calls k a0 t28 (lent b w [] []) hb  hc29) ?_
    intro x30
    refine ls_val (v := .bool (!t28)) rfl rfl (by kernel_rfl) (fun w => by kernel_rfl) ?_
    refine ls_end ?_
    refine qn_then ?_
    by_cases q31 : t28 = true
    · replace H := ite_t q31 H
      refine cs_know (c := false) (congrArg Bool.not (q31)) 8 (by kernel_rfl) ?_
      refine cs_false (by kernel_rfl) ?_
      refine cs_skip' ?_
      refine qn_meet (sput s0 0 (some (Ck.var 47 g1 (([Value.int .i64 a0.1] ++ (([Value.int .i64 a0.2.1.1] ++ ([Value.int .i64 a0.2.1.2.1] ++ ([Value.int .i64 a0.2.1.2.2.1] ++ ([Value.int .u32 a0.2.1.2.2.2.1] ++ en (Value.int .u8) a0.2.1.2.2.2.2.1)))) ++ [Value.int .i64 a0.2.2])))))) ⟨_, fr_next (rfl) (by kernel_rfl), rfl, H⟩ (sub_put (by exact rfl) (sub_nil _))
    · replace H := ite_f q31 H
      refine cs_know (c := true) (congrArg Bool.not (Bool.eq_false_iff.mpr q31)) 8 (by kernel_rfl) ?_
      refine cs_true (by kernel_rfl) ?_
      refine cs_seq ?_
      refine cs_region (l := [_, _, _]) ?_
      refine ls_val (v := .slice none 0 0) rfl rfl (by kernel_rfl) (fun w => by kernel_rfl) ?_
      refine ls_val (v := .int .i64 (0 : Int)) rfl rfl (by kernel_rfl) (fun w => by kernel_rfl) ?_
      refine ls_val (v := .int .i64 (2 : Int)) rfl rfl (by kernel_rfl) (fun w => by kernel_rfl) ?_
      refine ls_end ?_
      refine qn_then ?_
      refine cs_ret' ?_
      refine qr_then ?_
      refine qr_nilrow 1 (Ec.int 5 .u8) ?_
      obtain rfl := Option.some.inj H
      refine qr_res (rs := [_, _, _]) rfl (fun w' hs => ⟨[.slice none 0 0, .int .i64 (0 : Int), .int .i64 (2 : Int)], (res_tmp (by kernel_rfl) (res_tmp (by kernel_rfl) (res_tmp (by kernel_rfl) (.nil)))), (none, 0), rfl, hs.pick (ts := [1]) (cs := [Ck.sl (Ec.int 5 .u8) none 0 ([] : List Int)]) ⟨by exact rfl, trivial⟩ (by decide)⟩)
  · rintro f S ⟨fr1, rfl, rfl, H⟩
    replace H : ((shadowboxref01_Fixed.f k ([] : List Int) (8 : Int) (IntKind.wrap .u64 a0.1)).bind fun t2 => (if t2.length + (⟨#[83, 66, 88, 49]⟩ : ByteArray).size ≤ 140737488355328 then (shadowboxref01_Fixed.f k (t2 ++ bl (⟨#[83, 66, 88, 49]⟩ : ByteArray)) (8 : Int) (IntKind.wrap .u64 a0.2.2)).bind fun t8 => (shadowboxref06_Put.f k t8 a0.2.1).bind fun t11 => shadowboxref08_Seal.lo2 a0 k t11 else none)) = some r := H
    refine cs_seq ?_
    refine cs_region (l := [_, _, _, _, _]) ?_
    refine ls_val (v := .pointer (some ⟨g1, (0 + 0), none⟩)) rfl rfl (by kernel_rfl) (fun w => by kernel_rfl) ?_
    refine ls_load (a0 := ⟨g1, (0 + 0), none⟩) (v := .int .i64 a0.1) (de := (TypeDesc.int .i64)) rfl rfl (by kernel_rfl) rfl (by kernel_rfl) (by kernel_rfl) (by kernel_rfl) (fun w hs => (hs.var (k := 0) (by exact rfl) (Sub4.trans (Sub4.all _) (Sub4.head _ _)))) ?_
    refine ls_val (v := .int .u64 (IntKind.wrap .u64 a0.1)) rfl rfl (by kernel_rfl) (fun w => by kernel_rfl) ?_
    obtain ⟨t2, hc3, H⟩ := bind_some H
    refine ls_callb (fid := 35) (vals := #[.slice none ([] : List Int).length 0, .int .i64 (8 : Int), .int .u64 (IntKind.wrap .u64 a0.1)]) (X := (Option Addr × Nat)) (fun x => .slice x.1 t2.length x.2) (fun x => stl [Ck.sl (Ec.int 5 .u8) x.1 x.2 t2]) [] [] [] [] 1 rfl rfl (by kernel_rfl) (fun w => by kernel_rfl) trivial trivial (by decide) (fun w hs hb => shadowboxref01_Fixed.calls k none 0 ([] : List Int) (8 : Int) (IntKind.wrap .u64 a0.1) t2 (lent b w [] []) hb (Ro.nil _ _) (Nat.le_refl 0) hc3) ?_
    intro x4
    refine ls_val (v := .slice x4.1 t2.length x4.2) rfl rfl (by kernel_rfl) (fun w => by kernel_rfl) ?_
    refine ls_end ?_
    refine qn_then ?_
    refine cs_seq ?_
    refine cs_region (l := [_, _, _]) ?_
    refine ls_val (v := .slice x4.1 t2.length x4.2) rfl rfl (by kernel_rfl) (fun w => by kernel_rfl) ?_
    obtain ⟨q5, H⟩ := ite_need H
    refine ls_apps (A := x4.1) (c := x4.2) (e := 5) (l := t2) (y := (⟨#[83, 66, 88, 49]⟩ : ByteArray)) 1 rfl rfl (by kernel_rfl) rfl (by kernel_rfl) (by exact rfl) (by kernel_rfl) (by kernel_rfl) (by kernel_rfl) (by kernel_rfl) q5 ?_
    intro xA6 xc7
    refine ls_val (v := .slice xA6 (t2 ++ bl (⟨#[83, 66, 88, 49]⟩ : ByteArray)).length xc7) rfl rfl (by kernel_rfl) (fun w => by kernel_rfl) ?_
    refine ls_end ?_
    refine qn_then ?_
    refine cs_seq ?_
    refine cs_region (l := [_, _, _, _, _, _]) ?_
    refine ls_val (v := .slice xA6 (t2 ++ bl (⟨#[83, 66, 88, 49]⟩ : ByteArray)).length xc7) rfl rfl (by kernel_rfl) (fun w => by kernel_rfl) ?_
    refine ls_val (v := .pointer (some ⟨g1, (0 + 37), none⟩)) rfl rfl (by kernel_rfl) (fun w => by kernel_rfl) ?_
    refine ls_load (a0 := ⟨g1, (0 + 37), none⟩) (v := .int .i64 a0.2.2) (de := (TypeDesc.int .i64)) rfl rfl (by kernel_rfl) rfl (by kernel_rfl) (by kernel_rfl) (by kernel_rfl) (fun w hs => (hs.var (k := 0) (by exact rfl) (Sub4.trans (Sub4.all _) (Sub4.skip (n := 1) (len1 _) (Sub4.skip (n := 36) (len_app (len1 _) (len_app (len1 _) (len_app (len1 _) (len_app (len1 _) (len_en _ a0.2.1.2.2.2.2))))) (Sub4.all _)))))) ?_
    refine ls_val (v := .int .u64 (IntKind.wrap .u64 a0.2.2)) rfl rfl (by kernel_rfl) (fun w => by kernel_rfl) ?_
    obtain ⟨t8, hc9, H⟩ := bind_some H
    refine ls_callb (fid := 35) (vals := #[.slice xA6 (t2 ++ bl (⟨#[83, 66, 88, 49]⟩ : ByteArray)).length xc7, .int .i64 (8 : Int), .int .u64 (IntKind.wrap .u64 a0.2.2)]) (X := (Option Addr × Nat)) (fun x => .slice x.1 t8.length x.2) (fun x => stl [Ck.sl (Ec.int 5 .u8) x.1 x.2 t8]) [] [1] [] [Ck.sl (Ec.int 5 .u8) xA6 xc7 (t2 ++ bl (⟨#[83, 66, 88, 49]⟩ : ByteArray))] 2 rfl rfl (by kernel_rfl) (fun w => by kernel_rfl) trivial ⟨by exact rfl, trivial⟩ (by decide) (fun w hs hb => shadowboxref01_Fixed.calls k xA6 xc7 (t2 ++ bl (⟨#[83, 66, 88, 49]⟩ : ByteArray)) (8 : Int) (IntKind.wrap .u64 a0.2.2) t8 (lent b w [] [Ck.sl (Ec.int 5 .u8) xA6 xc7 (t2 ++ bl (⟨#[83, 66, 88, 49]⟩ : ByteArray))]) hb (hs.ror (k := 1) (by exact rfl) (.head _)) (hs.cap (k := 1) (by exact rfl)) hc9) ?_
    intro x10
    refine ls_val (v := .slice x10.1 t8.length x10.2) rfl rfl (by kernel_rfl) (fun w => by kernel_rfl) ?_
    refine ls_end ?_
    refine qn_then ?_
    refine cs_seq ?_
    refine cs_region (l := [_, _, _, _, _]) ?_
    refine ls_val (v := .slice x10.1 t8.length x10.2) rfl rfl (by kernel_rfl) (fun w => by kernel_rfl) ?_
    refine ls_val (v := .pointer (some ⟨g1, (0 + 1), none⟩)) rfl rfl (by kernel_rfl) (fun w => by kernel_rfl) ?_
    refine ls_loadagg (a := ⟨g1, (0 + 1), none⟩) (sub := ([Value.int .i64 a0.2.1.1] ++ ([Value.int .i64 a0.2.1.2.1] ++ ([Value.int .i64 a0.2.1.2.2.1] ++ ([Value.int .u32 a0.2.1.2.2.2.1] ++ en (Value.int .u8) a0.2.1.2.2.2.2.1))))) rfl rfl (by kernel_rfl) rfl (by kernel_rfl) (by kernel_rfl) (by kernel_rfl) (len_app (len1 _) (len_app (len1 _) (len_app (len1 _) (len_app (len1 _) (len_en _ a0.2.1.2.2.2.2))))) (fun w hs => (hs.vars (k := 0) (by exact rfl) (Sub4.trans (Sub4.all _) (Sub4.skip (n := 1) (len1 _) (Sub4.head _ _))))) ?_
    obtain ⟨t11, hc12, H⟩ := bind_some H
    refine ls_callb (fid := 19) (vals := #[.slice x10.1 t8.length x10.2, .agg ⟨([Value.int .i64 a0.2.1.1] ++ ([Value.int .i64 a0.2.1.2.1] ++ ([Value.int .i64 a0.2.1.2.2.1] ++ ([Value.int .u32 a0.2.1.2.2.2.1] ++ en (Value.int .u8) a0.2.1.2.2.2.2.1))))⟩]) (X := (Option Addr × Nat)) (fun x => .slice x.1 t11.length x.2) (fun x => stl [Ck.sl (Ec.int 5 .u8) x.1 x.2 t11]) [] [2] [] [Ck.sl (Ec.int 5 .u8) x10.1 x10.2 t8] 3 rfl rfl (by kernel_rfl) (fun w => by kernel_rfl) trivial ⟨by exact rfl, trivial⟩ (by decide) (fun w hs hb => shadowboxref06_Put.calls k x10.1 x10.2 t8 a0.2.1 t11 (lent b w [] [Ck.sl (Ec.int 5 .u8) x10.1 x10.2 t8]) hb (hs.ror (k := 2) (by exact rfl) (.head _)) (hs.cap (k := 2) (by exact rfl)) hc12) ?_
    intro x13
    refine ls_val (v := .slice x13.1 t11.length x13.2) rfl rfl (by kernel_rfl) (fun w => by kernel_rfl) ?_
    refine ls_end ?_
    refine qn_then ?_
    refine cs_seq ?_
    refine cs_block ?_
    refine cs_sub (sput (sput s0 0 (some (Ck.var 47 g1 (([Value.int .i64 a0.1] ++ (([Value.int .i64 a0.2.1.1] ++ ([Value.int .i64 a0.2.1.2.1] ++ ([Value.int .i64 a0.2.1.2.2.1] ++ ([Value.int .u32 a0.2.1.2.2.2.1] ++ en (Value.int .u8) a0.2.1.2.2.2.2.1)))) ++ [Value.int .i64 a0.2.2])))))) 3 (some (Ck.sl (Ec.int 5 .u8) x13.1 x13.2 t11))) (sub_put (by exact rfl) (sub_put (by exact rfl) (sub_nil _))) ?_
    refine cs_loop (fun kk f S => ∃ (fR : Fr) (A5_2 : Option Addr) (c5_2 : Nat) (l5_2 : List Int), f = upd (upd fR 1 (.pointer (some ⟨g1, 0, none⟩))) 5 (.slice A5_2 l5_2.length c5_2) ∧ S = sput (sput s0 0 (some (Ck.var 47 g1 (([Value.int .i64 a0.1] ++ (([Value.int .i64 a0.2.1.1] ++ ([Value.int .i64 a0.2.1.2.1] ++ ([Value.int .i64 a0.2.1.2.2.1] ++ ([Value.int .u32 a0.2.1.2.2.2.1] ++ en (Value.int .u8) a0.2.1.2.2.2.2.1)))) ++ [Value.int .i64 a0.2.2])))))) 3 (some (Ck.sl (Ec.int 5 .u8) A5_2 c5_2 l5_2)) ∧ shadowboxref08_Seal.lo2 a0 kk l5_2 = some r) k ?_ ?_ ?_
    · exact ⟨_, x13.1, x13.2, t11, fr_next (fr_next (rfl) (by kernel_rfl)) (by kernel_rfl), rfl, H⟩
    · rintro f S ⟨fr2, A5_2, c5_2, l5_2, rfl, rfl, H⟩; cases H
    · rintro k2 f S ⟨fr2, A5_2, c5_2, l5_2, rfl, rfl, H⟩
      replace H : ((if (l5_2.length : Int) < (500 : Int) then (if (l5_2.length + ([(0 : Int)]).length) * 1 ≤ 140737488355328 then (shadowboxref08_Seal.lo2 a0 k2) (l5_2 ++ [(0 : Int)]) else none) else (shadowboxref02_Go.f k2 (0 : Int) l5_2).bind fun t19 => (shadowboxref01_Fixed.f k2 l5_2 (4 : Int) (IntKind.wrap .u64 t19)).bind fun t22 => (shadowboxref01_Fixed.f k2 t22 (8 : Int) (IntKind.wrap .u64 a0.1)).bind fun t25 => some (t25, Int.tmod a0.1 (2 : Int), (0 : Int)))) = some r := H
      refine cs_seq ?_
      refine cs_seq ?_
      refine cs_region (l := [_, _, _]) ?_
      refine ls_val (v := .slice A5_2 l5_2.length c5_2) rfl rfl (by kernel_rfl) (fun w => by kernel_rfl) ?_
      refine ls_val (v := .int .i64 (l5_2.length : Int)) rfl rfl (by kernel_rfl) (fun w => by kernel_rfl) ?_
      refine ls_val (v := .bool (decide ((l5_2.length : Int) < (500 : Int)))) rfl rfl (by kernel_rfl) (fun w => by kernel_rfl) ?_
      refine ls_end ?_
      refine qn_then ?_
      by_cases q14 : (l5_2.length : Int) < (500 : Int)
      · replace H := ite_t q14 H
        refine cs_know (c := true) (dec_t q14) 26 (by kernel_rfl) ?_
        refine cs_true (by kernel_rfl) ?_
        refine cs_skip' ?_
        refine qn_then ?_
        refine cs_block ?_
        refine cs_region (l := [_, _, _, _]) ?_
        refine ls_val (v := .slice A5_2 l5_2.length c5_2) rfl rfl (by kernel_rfl) (fun w => by kernel_rfl) ?_
        refine ls_lit (Ec.int 5 .u8) 4 rfl rfl (by kernel_rfl) ([(0 : Int)]) (by exact of_decide_eq_true (by kernel_rfl)) (fun w => by kernel_rfl) ?_
        intro g15
        obtain ⟨q16, H⟩ := ite_need H
        refine ls_app (Ec.int 5 .u8) (A := A5_2) (c := c5_2) (B := (some ⟨g15, 0, none⟩)) (cb := [(0 : Int)].length) (z := (Value.int .u8 0)) (l := l5_2) (m := [(0 : Int)]) (bytes := 1) 3 rfl rfl (by kernel_rfl) rfl (by kernel_rfl) (by exact rfl) (by kernel_rfl) (fun w hs => (hs.rd (k := 4) (by exact rfl))) (by kernel_rfl) (by kernel_rfl) rfl (by decide) q16 ?_
        intro xA17 xc18
        refine ls_val (v := .slice xA17 (l5_2 ++ [(0 : Int)]).length xc18) rfl rfl (by kernel_rfl) (fun w => by kernel_rfl) ?_
        refine ls_end ?_
        refine qn_block ?_
        refine qn_again k2 (sput (sput s0 0 (some (Ck.var 47 g1 (([Value.int .i64 a0.1] ++ (([Value.int .i64 a0.2.1.1] ++ ([Value.int .i64 a0.2.1.2.1] ++ ([Value.int .i64 a0.2.1.2.2.1] ++ ([Value.int .u32 a0.2.1.2.2.2.1] ++ en (Value.int .u8) a0.2.1.2.2.2.2.1)))) ++ [Value.int .i64 a0.2.2])))))) 3 (some (Ck.sl (Ec.int 5 .u8) xA17 xc18 (l5_2 ++ [(0 : Int)])))) (Nat.le_refl _) ⟨_, xA17, xc18, (l5_2 ++ [(0 : Int)]), fr_next (fr_next (rfl) (by kernel_rfl)) (by kernel_rfl), rfl, H⟩ (sub_put (by exact rfl) (sub_put (by exact rfl) (sub_nil _)))
      · replace H := ite_f q14 H
        refine cs_know (c := false) (dec_f q14) 26 (by kernel_rfl) ?_
        refine cs_false (by kernel_rfl) ?_
        refine cs_exit' ?_
        refine qx_then ?_
        refine qx_then ?_
        refine qx_same ?_
        refine qn_then ?_
        refine cs_seq ?_
        refine cs_region (l := [_, _, _, _, _, _]) ?_
        refine ls_val (v := .slice A5_2 l5_2.length c5_2) rfl rfl (by kernel_rfl) (fun w => by kernel_rfl) ?_
        refine ls_val (v := .slice A5_2 l5_2.length c5_2) rfl rfl (by kernel_rfl) (fun w => by kernel_rfl) ?_
        obtain ⟨t19, hc20, H⟩ := bind_some H
        refine ls_callb (fid := 38) (vals := #[.int .u32 (0 : Int), .slice A5_2 l5_2.length c5_2]) (X := Unit) (fun x => .int .u32 t19) (fun x => stl []) [] [3] [] [Ck.sl (Ec.int 5 .u8) A5_2 c5_2 l5_2] 4 rfl rfl (by kernel_rfl) (fun w => by kernel_rfl) trivial ⟨by exact rfl, trivial⟩ (by decide) (fun w hs hb => shadowboxref02_Go.calls k2 (0 : Int) A5_2 c5_2 l5_2 t19 (lent b w [] [Ck.sl (Ec.int 5 .u8) A5_2 c5_2 l5_2]) hb (hs.ror (k := 3) (by exact rfl) (.head _)) (hs.cap (k := 3) (by exact rfl)) hc20) ?_
        intro x21
        refine ls_val (v := .int .u64 (IntKind.wrap .u64 t19)) rfl rfl (by kernel_rfl) (fun w => by kernel_rfl) ?_
        obtain ⟨t22, hc23, H⟩ := bind_some H
        refine ls_callb (fid := 35) (vals := #[.slice A5_2 l5_2.length c5_2, .int .i64 (4 : Int), .int .u64 (IntKind.wrap .u64 t19)]) (X := (Option Addr × Nat)) (fun x => .slice x.1 t22.length x.2) (fun x => stl [Ck.sl (Ec.int 5 .u8) x.1 x.2 t22]) [] [3] [] [Ck.sl (Ec.int 5 .u8) A5_2 c5_2 l5_2] 4 rfl rfl (by kernel_rfl) (fun w => by kernel_rfl) trivial ⟨by exact rfl, trivial⟩ (by decide) (fun w hs hb => shadowboxref01_Fixed.calls k2 A5_2 c5_2 l5_2 (4 : Int) (IntKind.wrap .u64 t19) t22 (lent b w [] [Ck.sl (Ec.int 5 .u8) A5_2 c5_2 l5_2]) hb (hs.ror (k := 3) (by exact rfl) (.head _)) (hs.cap (k := 3) (by exact rfl)) hc23) ?_
        intro x24
        refine ls_val (v := .slice x24.1 t22.length x24.2) rfl rfl (by kernel_rfl) (fun w => by kernel_rfl) ?_
        refine ls_end ?_
        refine qn_then ?_
        refine cs_seq ?_
        obtain ⟨t25, hc26, H⟩ := bind_some H
        refine cs_sub (sput (sput (sput s0 0 (some (Ck.var 47 g1 (([Value.int .i64 a0.1] ++ (([Value.int .i64 a0.2.1.1] ++ ([Value.int .i64 a0.2.1.2.1] ++ ([Value.int .i64 a0.2.1.2.2.1] ++ ([Value.int .u32 a0.2.1.2.2.2.1] ++ en (Value.int .u8) a0.2.1.2.2.2.2.1)))) ++ [Value.int .i64 a0.2.2])))))) 3 (some (Ck.sl (Ec.int 5 .u8) A5_2 c5_2 l5_2))) 4 (some (Ck.sl (Ec.int 5 .u8) x24.1 x24.2 t22))) (sub_put (by exact rfl) (sub_put (by exact rfl) (sub_put (by exact rfl) (sub_nil _)))) ?_
        refine cs_chain (l := [_, _, _, _, _, _, _, _, _, _, _]) [[], [], [1], [1, 2], [0, 1, 2, 3], [], [5], [5, 6], [0, 1, 2, 3, 4], [0, 1, 2, 3, 4, 5, 6, 7, 8], [0, 1, 2, 3, 4, 5, 6, 7, 8, 9]] 9 (fun u => [0, 3, 4].contains u) (efl [false, false, false, false, true, false, false, false, false]) (pvl [.val (.slice x24.1 t22.length x24.2), .val (.pointer (some ⟨g1, (0 + 0), none⟩)), .val (.int .i64 a0.1), .val (.int .u64 (IntKind.wrap .u64 a0.1)), .eff 4, .val (.pointer (some ⟨g1, (0 + 0), none⟩)), .val (.int .i64 a0.1), .val (.int .i64 (Int.tmod a0.1 (2 : Int))), .eff 4]) (Esl [fun (es : Nat → Value) (S' : Sto) => S' = sput (sput (sput s0 0 (some (Ck.var 47 g1 (([Value.int .i64 a0.1] ++ (([Value.int .i64 a0.2.1.1] ++ ([Value.int .i64 a0.2.1.2.1] ++ ([Value.int .i64 a0.2.1.2.2.1] ++ ([Value.int .u32 a0.2.1.2.2.2.1] ++ en (Value.int .u8) a0.2.1.2.2.2.2.1)))) ++ [Value.int .i64 a0.2.2])))))) 3 (some (Ck.sl (Ec.int 5 .u8) A5_2 c5_2 l5_2))) 4 (some (Ck.sl (Ec.int 5 .u8) x24.1 x24.2 t22)), fun (es : Nat → Value) (S' : Sto) => ∃ (x27 : (Option Addr × Nat)), es 4 = .slice x27.1 t25.length x27.2 ∧ S' = sput (sput (sput (sput s0 0 (some (Ck.var 47 g1 (([Value.int .i64 a0.1] ++ (([Value.int .i64 a0.2.1.1] ++ ([Value.int .i64 a0.2.1.2.1] ++ ([Value.int .i64 a0.2.1.2.2.1] ++ ([Value.int .u32 a0.2.1.2.2.2.1] ++ en (Value.int .u8) a0.2.1.2.2.2.2.1)))) ++ [Value.int .i64 a0.2.2])))))) 3 (some (Ck.sl (Ec.int 5 .u8) A5_2 c5_2 l5_2))) 4 (some (Ck.sl (Ec.int 5 .u8) x24.1 x24.2 t22))) 5 (some (Ck.sl (Ec.int 5 .u8) x27.1 x27.2 t25))] [0, 0, 0, 0, 0, 0, 0, 0, 0, 1]) (nxl [0, 0, 0, 0, 9, 0, 0, 0, 0]) (onl [true, true, true, true, true, true, true, true, true]) 4 (by kernel_rfl) (by kernel_rfl) (by kernel_rfl) (by kernel_rfl) (by kernel_rfl) (rs := [_, _]) rfl (by kernel_rfl) (by kernel_rfl) (fun es => ?_) ?_ ?_
        · exact (rfl : sput (sput (sput s0 0 (some (Ck.var 47 g1 (([Value.int .i64 a0.1] ++ (([Value.int .i64 a0.2.1.1] ++ ([Value.int .i64 a0.2.1.2.1] ++ ([Value.int .i64 a0.2.1.2.2.1] ++ ([Value.int .u32 a0.2.1.2.2.2.1] ++ en (Value.int .u8) a0.2.1.2.2.2.2.1)))) ++ [Value.int .i64 a0.2.2])))))) 3 (some (Ck.sl (Ec.int 5 .u8) A5_2 c5_2 l5_2))) 4 (some (Ck.sl (Ec.int 5 .u8) x24.1 x24.2 t22)) = sput (sput (sput s0 0 (some (Ck.var 47 g1 (([Value.int .i64 a0.1] ++ (([Value.int .i64 a0.2.1.1] ++ ([Value.int .i64 a0.2.1.2.1] ++ ([Value.int .i64 a0.2.1.2.2.1] ++ ([Value.int .u32 a0.2.1.2.2.2.1] ++ en (Value.int .u8) a0.2.1.2.2.2.2.1)))) ++ [Value.int .i64 a0.2.2])))))) 3 (some (Ck.sl (Ec.int 5 .u8) A5_2 c5_2 l5_2))) 4 (some (Ck.sl (Ec.int 5 .u8) x24.1 x24.2 t22)))
        · refine all_snoc (all_snoc (all_snoc (all_snoc (all_snoc (all_snoc (all_snoc (all_snoc (all_snoc (all_nil) ?_) ?_) ?_) ?_) ?_) ?_) ?_) ?_) ?_
          · refine ⟨fun o ho es vs f' S' hve hvp hf hx hK hE => ?_⟩
            obtain rfl := Option.some.inj ho
            refine ⟨want_none rfl, fun _ _ => ?_, (fun _ h => by cases h), (fun h _ => by cases h), (fun h _ => by cases h)⟩
            have hF := fr_next (rfl) ((hx 5 (by kernel_rfl)).trans (by kernel_rfl : (_ : Value) = .slice x24.1 t22.length x24.2))
            refine ls_fr hF ?_
            refine ls_val (v := .slice x24.1 t22.length x24.2) rfl rfl (by kernel_rfl) (fun w => by kernel_rfl) ?_
            exact ls_finp (.slice x24.1 t22.length x24.2) (congrArg (fun z => upd z 35 _) hF.symm) rfl
          · refine ⟨fun o ho es vs f' S' hve hvp hf hx hK hE => ?_⟩
            obtain rfl := Option.some.inj ho
            refine ⟨want_none rfl, fun _ _ => ?_, (fun _ h => by cases h), (fun h _ => by cases h), (fun h _ => by cases h)⟩
            have hF := fr_next (rfl) ((hx 1 (by kernel_rfl)).trans (by kernel_rfl : (_ : Value) = .pointer (some ⟨g1, 0, none⟩)))
            refine ls_fr hF ?_
            refine ls_val (v := .pointer (some ⟨g1, (0 + 0), none⟩)) rfl rfl (by kernel_rfl) (fun w => by kernel_rfl) ?_
            exact ls_finp (.pointer (some ⟨g1, (0 + 0), none⟩)) (congrArg (fun z => upd z 36 _) hF.symm) rfl
          · refine ⟨fun o ho es vs f' S' hve hvp hf hx hK hE => ?_⟩
            obtain rfl := Option.some.inj ho
            refine ⟨want_none rfl, fun _ _ => ?_, (fun _ h => by cases h), (fun h _ => by cases h), (fun h _ => by cases h)⟩
            have hF := fr_next (rfl) ((hf 1 36 (by kernel_rfl) rfl).trans (show vs 1 = .pointer (some ⟨g1, (0 + 0), none⟩) from hvp 1 (by kernel_rfl)))
            refine ls_fr hF ?_
            refine ls_load (a0 := ⟨g1, (0 + 0), none⟩) (v := .int .i64 a0.1) (de := (TypeDesc.int .i64)) rfl rfl (by kernel_rfl) rfl (by kernel_rfl) (by kernel_rfl) (by kernel_rfl) (fun w hs => (hs.var (k := 0) ((hK 0 (by rfl)).trans (by exact rfl)) (Sub4.trans (Sub4.all _) (Sub4.head _ _)))) ?_
            exact ls_finp (.int .i64 a0.1) (congrArg (fun z => upd z 37 _) hF.symm) rfl
          · refine ⟨fun o ho es vs f' S' hve hvp hf hx hK hE => ?_⟩
            obtain rfl := Option.some.inj ho
            refine ⟨want_none rfl, fun _ _ => ?_, (fun _ h => by cases h), (fun h _ => by cases h), (fun h _ => by cases h)⟩
            have hF := fr_next (rfl) ((hf 2 37 (by kernel_rfl) rfl).trans (show vs 2 = .int .i64 a0.1 from hvp 2 (by kernel_rfl)))
            refine ls_fr hF ?_
            refine ls_val (v := .int .u64 (IntKind.wrap .u64 a0.1)) rfl rfl (by kernel_rfl) (fun w => by kernel_rfl) ?_
            exact ls_finp (.int .u64 (IntKind.wrap .u64 a0.1)) (congrArg (fun z => upd z 38 _) hF.symm) rfl
          · refine ⟨fun o ho es vs f' S' hve hvp hf hx hK hE => ?_⟩
            obtain rfl := Option.some.inj ho
            obtain rfl := hE rfl
            refine ⟨want_none rfl, (fun h _ => by cases h), (fun h _ => by cases h), fun _ _ => ?_, (fun _ h => by cases h)⟩
            have hF := fr_next (fr_next (rfl) ((hf 0 35 (by kernel_rfl) rfl).trans (show vs 0 = .slice x24.1 t22.length x24.2 from hvp 0 (by kernel_rfl)))) ((hf 3 38 (by kernel_rfl) rfl).trans (show vs 3 = .int .u64 (IntKind.wrap .u64 a0.1) from hvp 3 (by kernel_rfl)))
            refine ls_fr hF ?_
            refine ls_callb (fid := 35) (vals := #[.slice x24.1 t22.length x24.2, .int .i64 (8 : Int), .int .u64 (IntKind.wrap .u64 a0.1)]) (X := (Option Addr × Nat)) (fun x => .slice x.1 t25.length x.2) (fun x => stl [Ck.sl (Ec.int 5 .u8) x.1 x.2 t25]) [] [4] [] [Ck.sl (Ec.int 5 .u8) x24.1 x24.2 t22] 5 rfl rfl (by kernel_rfl) (fun w => by kernel_rfl) trivial ⟨by exact rfl, trivial⟩ (by decide) (fun w hs hb => shadowboxref01_Fixed.calls k2 x24.1 x24.2 t22 (8 : Int) (IntKind.wrap .u64 a0.1) t25 (lent b w [] [Ck.sl (Ec.int 5 .u8) x24.1 x24.2 t22]) hb (hs.ror (k := 4) (by exact rfl) (.head _)) (hs.cap (k := 4) (by exact rfl)) hc26) ?_
            intro x27
            exact ls_fine (sput (sput (sput (sput s0 0 (some (Ck.var 47 g1 (([Value.int .i64 a0.1] ++ (([Value.int .i64 a0.2.1.1] ++ ([Value.int .i64 a0.2.1.2.1] ++ ([Value.int .i64 a0.2.1.2.2.1] ++ ([Value.int .u32 a0.2.1.2.2.2.1] ++ en (Value.int .u8) a0.2.1.2.2.2.2.1)))) ++ [Value.int .i64 a0.2.2])))))) 3 (some (Ck.sl (Ec.int 5 .u8) A5_2 c5_2 l5_2))) 4 (some (Ck.sl (Ec.int 5 .u8) x24.1 x24.2 t22))) 5 (some (Ck.sl (Ec.int 5 .u8) x27.1 x27.2 t25))) (.slice x27.1 t25.length x27.2) (congrArg (fun z => upd z 39 _) hF.symm) (show (fun (es : Nat → Value) (S' : Sto) => ∃ (x27 : (Option Addr × Nat)), es 4 = .slice x27.1 t25.length x27.2 ∧ S' = sput (sput (sput (sput s0 0 (some (Ck.var 47 g1 (([Value.int .i64 a0.1] ++ (([Value.int .i64 a0.2.1.1] ++ ([Value.int .i64 a0.2.1.2.1] ++ ([Value.int .i64 a0.2.1.2.2.1] ++ ([Value.int .u32 a0.2.1.2.2.2.1] ++ en (Value.int .u8) a0.2.1.2.2.2.2.1)))) ++ [Value.int .i64 a0.2.2])))))) 3 (some (Ck.sl (Ec.int 5 .u8) A5_2 c5_2 l5_2))) 4 (some (Ck.sl (Ec.int 5 .u8) x24.1 x24.2 t22))) 5 (some (Ck.sl (Ec.int 5 .u8) x27.1 x27.2 t25))) (upv es 4 (.slice x27.1 t25.length x27.2)) (sput (sput (sput (sput s0 0 (some (Ck.var 47 g1 (([Value.int .i64 a0.1] ++ (([Value.int .i64 a0.2.1.1] ++ ([Value.int .i64 a0.2.1.2.1] ++ ([Value.int .i64 a0.2.1.2.2.1] ++ ([Value.int .u32 a0.2.1.2.2.2.1] ++ en (Value.int .u8) a0.2.1.2.2.2.2.1)))) ++ [Value.int .i64 a0.2.2])))))) 3 (some (Ck.sl (Ec.int 5 .u8) A5_2 c5_2 l5_2))) 4 (some (Ck.sl (Ec.int 5 .u8) x24.1 x24.2 t22))) 5 (some (Ck.sl (Ec.int 5 .u8) x27.1 x27.2 t25))) from ⟨x27, rfl, rfl⟩) rfl (keep_cons (by exact rfl) (keep_cons (by exact rfl) (keep_cons (by exact rfl) (keep_nil)))) (sub_put (by exact rfl) (sub_put (by exact rfl) (sub_put (by exact rfl) (sub_put (by exact rfl) (sub_nil _)))))
          · refine ⟨fun o ho es vs f' S' hve hvp hf hx hK hE => ?_⟩
            obtain rfl := Option.some.inj ho
            refine ⟨want_none rfl, fun _ _ => ?_, (fun _ h => by cases h), (fun h _ => by cases h), (fun h _ => by cases h)⟩
            have hF := fr_next (rfl) ((hx 1 (by kernel_rfl)).trans (by kernel_rfl : (_ : Value) = .pointer (some ⟨g1, 0, none⟩)))
            refine ls_fr hF ?_
            refine ls_val (v := .pointer (some ⟨g1, (0 + 0), none⟩)) rfl rfl (by kernel_rfl) (fun w => by kernel_rfl) ?_
            exact ls_finp (.pointer (some ⟨g1, (0 + 0), none⟩)) (congrArg (fun z => upd z 40 _) hF.symm) rfl
          · refine ⟨fun o ho es vs f' S' hve hvp hf hx hK hE => ?_⟩
            obtain rfl := Option.some.inj ho
            refine ⟨want_none rfl, fun _ _ => ?_, (fun _ h => by cases h), (fun h _ => by cases h), (fun h _ => by cases h)⟩
            have hF := fr_next (rfl) ((hf 5 40 (by kernel_rfl) rfl).trans (show vs 5 = .pointer (some ⟨g1, (0 + 0), none⟩) from hvp 5 (by kernel_rfl)))
            refine ls_fr hF ?_
            refine ls_load (a0 := ⟨g1, (0 + 0), none⟩) (v := .int .i64 a0.1) (de := (TypeDesc.int .i64)) rfl rfl (by kernel_rfl) rfl (by kernel_rfl) (by kernel_rfl) (by kernel_rfl) (fun w hs => (hs.var (k := 0) ((hK 0 (by rfl)).trans (by exact rfl)) (Sub4.trans (Sub4.all _) (Sub4.head _ _)))) ?_
            exact ls_finp (.int .i64 a0.1) (congrArg (fun z => upd z 41 _) hF.symm) rfl
          · refine ⟨fun o ho es vs f' S' hve hvp hf hx hK hE => ?_⟩
            obtain rfl := Option.some.inj ho
            refine ⟨want_none rfl, fun _ _ => ?_, (fun _ h => by cases h), (fun h _ => by cases h), (fun h _ => by cases h)⟩
            have hF := fr_next (rfl) ((hf 6 41 (by kernel_rfl) rfl).trans (show vs 6 = .int .i64 a0.1 from hvp 6 (by kernel_rfl)))
            refine ls_fr hF ?_
            refine ls_val (v := .int .i64 (Int.tmod a0.1 (2 : Int))) rfl rfl (by kernel_rfl) (fun w => by kernel_rfl) ?_
            exact ls_finp (.int .i64 (Int.tmod a0.1 (2 : Int))) (congrArg (fun z => upd z 42 _) hF.symm) rfl
          · refine ⟨fun o ho es vs f' S' hve hvp hf hx hK hE => ?_⟩
            obtain rfl := Option.some.inj ho
            refine ⟨want_none rfl, fun _ _ => ?_, (fun _ h => by cases h), (fun h _ => by cases h), (fun h _ => by cases h)⟩
            have hF := fr_next (rfl) ((hf 4 39 (by kernel_rfl) rfl).trans (show vs 4 = es 4 from hvp 4 (by kernel_rfl)))
            refine ls_fr hF ?_
            refine ls_val (v := es 4) rfl rfl (by kernel_rfl) (fun w => by kernel_rfl) ?_
            exact ls_finp (es 4) (congrArg (fun z => upd z 2 _) hF.symm) rfl
        · intro es vs f' S' hve hvp hf hx hK hE
          obtain ⟨x27, hv4, rfl⟩ := hE
          refine ls_fr (F := upd (upd f' 2 (.slice x27.1 t25.length x27.2)) 42 (.int .i64 (Int.tmod a0.1 (2 : Int)))) (fr_next (fr_next (rfl) (((hf 8 2 (by kernel_rfl) rfl).trans (show vs 8 = es 4 from hvp 8 (by kernel_rfl))).trans hv4)) ((hf 7 42 (by kernel_rfl) rfl).trans (show vs 7 = .int .i64 (Int.tmod a0.1 (2 : Int)) from hvp 7 (by kernel_rfl)))) ?_
          refine ls_sub (sput s0 5 (some (Ck.sl (Ec.int 5 .u8) x27.1 x27.2 t25))) (sub_put (by exact rfl) (sub_nil _)) ?_
          refine ls_val (v := .int .i64 (Int.tmod a0.1 (2 : Int))) rfl rfl (by kernel_rfl) (fun w => by kernel_rfl) ?_
          refine ls_val (v := .int .i64 (0 : Int)) rfl rfl (by kernel_rfl) (fun w => by kernel_rfl) ?_
          refine ls_end ?_
          refine qn_then ?_
          refine cs_ret' ?_
          obtain rfl := Option.some.inj H
          refine qr_res (rs := [_, _, _]) rfl (fun w' hs => ⟨[.slice x27.1 t25.length x27.2, .int .i64 (Int.tmod a0.1 (2 : Int)), .int .i64 (0 : Int)], (res_tmp (by kernel_rfl) (res_tmp (by kernel_rfl) (res_tmp (by kernel_rfl) (.nil)))), (x27.1, x27.2), rfl, hs.pick (ts := [5]) (cs := [Ck.sl (Ec.int 5 .u8) x27.1 x27.2 t25]) ⟨by exact rfl, trivial⟩ (by decide)⟩)

/-! ### shadowbox/codec.Take: function 31 -/
def codec_Take.lo2 (l0 : List Int) (a1 : Int) (xl7 : List Int) : Nat → Int → Int → Option (Int × (List Int) × Bool)
  | 0, _, _ => none
  | k2 + 1, x4_2, x25_2 => (if x25_2 < (xl7.length : Int) then (if 0 ≤ x25_2 then lt (IntKind.wrap .u64 ((xl7).getD (x25_2).toNat (0 : Int))) fun y16 => (if 0 ≤ IntKind.wrap .i64 ((8 : Int) * x25_2) then lt (shlv .u64 y16 (IntKind.wrap .i64 ((8 : Int) * x25_2))) fun y19 => (codec_Take.lo2 l0 a1 xl7 k2) (bits .or .u64 x4_2 y19) (IntKind.wrap .i64 (x25_2 + (1 : Int))) else none) else none) else lt (l0.drop (a1).toNat) fun xl26 => (if (([] : List Int).length + xl26.length) * 1 ≤ 140737488355328 then some (x4_2, (([] : List Int) ++ xl26), true) else none))
def codec_Take.jo1 (k : Nat) (l0 : List Int) (a1 : Int) (x4_1 : Int) : Option (Int × (List Int) × Bool) := (if 0 ≤ a1 then (if a1 ≤ (l0.length : Int) then lt (l0.take (a1).toNat) fun xl7 => codec_Take.lo2 l0 a1 xl7 k x4_1 (0 : Int) else none) else none)
def codec_Take.f (k : Nat) (l0 : List Int) (a1 : Int) : Option (Int × (List Int) × Bool) :=
  (if a1 < (1 : Int) then some ((0 : Int), ([] : List Int), false) else (if a1 > (8 : Int) then some ((0 : Int), ([] : List Int), false) else (if (l0.length : Int) < a1 then some ((0 : Int), ([] : List Int), false) else (codec_Take.jo1 k l0 a1) (0 : Int))))
set_option maxRecDepth 100000 in
set_option maxHeartbeats 4000000 in
theorem codec_Take.calls (k : Nat) (A0 : Option Addr) (c0 : Nat) (l0 : List Int) (a1 : Int) (r : Int × (List Int) × Bool) (b : Bs) (hs0 : St b (stl []) b.w) (R0 : Ro b A0 (em (Ec.int 5 .u8) l0)) (C0 : l0.length ≤ c0) (H : codec_Take.f k l0 a1 = some r) :
    Calls Try.prog 31 #[.slice A0 l0.length c0, .int .i64 a1] b.w fun e w' => ∃ x : (Option Addr × Nat), e = .returned (.tuple #[.int .u64 r.1, .slice x.1 r.2.1.length x.2, .bool r.2.2]) ∧ St b (stl [Ck.sl (Ec.int 5 .u8) x.1 x.2 r.2.1]) w' := by
  unfold codec_Take.f at H
  refine enterb (n := 44) Try.func31 rfl (by kernel_rfl) (by kernel_rfl) hs0 ?_
  refine cs_sub (s0) (sub_nil _) ?_
  refine cs_seq ?_
  refine cs_region (l := [_, _, _]) ?_
  refine ls_val (v := .int .u64 (0 : Int)) rfl rfl (by kernel_rfl) (fun w => by kernel_rfl) ?_
  refine ls_val (v := .slice none 0 0) rfl rfl (by kernel_rfl) (fun w => by kernel_rfl) ?_
  refine ls_val (v := .bool false) rfl rfl (by kernel_rfl) (fun w => by kernel_rfl) ?_
  refine ls_end ?_
  refine qn_then ?_
  refine cs_cut (fun f S => ∃ (fR : Fr) (x4_1 : Int), f = upd (upd (upd fR 0 (.slice A0 l0.length c0)) 1 (.int .i64 a1)) 4 (.int .u64 x4_1) ∧ S = s0 ∧ codec_Take.jo1 k l0 a1 x4_1 = some r) ?_ ?_
  · skip
    refine cs_seq ?_
    refine cs_region (l := [_, _, _, _, _, _, _, _, _, _, _, _]) ?_
    refine ls_val (v := .int .i64 a1) rfl rfl (by kernel_rfl) (fun w => by kernel_rfl) ?_
    refine ls_val (v := .bool (decide (a1 < (1 : Int)))) rfl rfl (by kernel_rfl) (fun w => by kernel_rfl) ?_
    refine ls_val (v := .bool (decide (a1 < (1 : Int)))) rfl rfl (by kernel_rfl) (fun w => by kernel_rfl) ?_
    by_cases q34 : a1 < (1 : Int)
    · replace H := ite_t q34 H
      refine ls_know (c := true) (dec_t q34) 11 (by kernel_rfl) ?_
      refine ls_off (j := 2) (t := 11) (b := false) (c := true) rfl rfl (by kernel_rfl) (by kernel_rfl) rfl rfl (by kernel_rfl) ?_
      refine ls_off (j := 2) (t := 11) (b := false) (c := true) rfl rfl (by kernel_rfl) (by kernel_rfl) rfl rfl (by kernel_rfl) ?_
      refine ls_val (v := .bool true) rfl rfl (by kernel_rfl) (fun w => by kernel_rfl) ?_
      refine ls_val (v := .bool true) rfl rfl (by kernel_rfl) (fun w => by kernel_rfl) ?_
      refine ls_off (j := 6) (t := 15) (b := false) (c := true) rfl rfl (by kernel_rfl) (by kernel_rfl) rfl rfl (by kernel_rfl) ?_
      refine ls_off (j := 6) (t := 15) (b := false) (c := true) rfl rfl (by kernel_rfl) (by kernel_rfl) rfl rfl (by kernel_rfl) ?_
      refine ls_off (j := 6) (t := 15) (b := false) (c := true) rfl rfl (by kernel_rfl) (by kernel_rfl) rfl rfl (by kernel_rfl) ?_
      refine ls_off (j := 6) (t := 15) (b := false) (c := true) rfl rfl (by kernel_rfl) (by kernel_rfl) rfl rfl (by kernel_rfl) ?_
      refine ls_val (v := .bool true) rfl rfl (by kernel_rfl) (fun w => by kernel_rfl) ?_
      refine ls_end ?_
      refine qn_then ?_
      refine cs_true (by kernel_rfl) ?_
      refine cs_seq ?_
      refine cs_region (l := [_, _, _]) ?_
      refine ls_val (v := .int .u64 (0 : Int)) rfl rfl (by kernel_rfl) (fun w => by kernel_rfl) ?_
      refine ls_val (v := .slice none 0 0) rfl rfl (by kernel_rfl) (fun w => by kernel_rfl) ?_
      refine ls_val (v := .bool false) rfl rfl (by kernel_rfl) (fun w => by kernel_rfl) ?_
      refine ls_end ?_
      refine qn_then ?_
      refine cs_ret' ?_
      refine qr_then ?_
      refine qr_nilrow 0 (Ec.int 5 .u8) ?_
      obtain rfl := Option.some.inj H
      refine qr_res (rs := [_, _, _]) rfl (fun w' hs => ⟨[.int .u64 (0 : Int), .slice none 0 0, .bool false], (res_tmp (by kernel_rfl) (res_tmp (by kernel_rfl) (res_tmp (by kernel_rfl) (.nil)))), (none, 0), rfl, hs.pick (ts := [0]) (cs := [Ck.sl (Ec.int 5 .u8) none 0 ([] : List Int)]) ⟨by exact rfl, trivial⟩ (by decide)⟩)
    · replace H := ite_f q34 H
      refine ls_know (c := false) (dec_f q34) 11 (by kernel_rfl) ?_
      refine ls_on (j := 2) (t := 11) (b := false) rfl rfl (by kernel_rfl) (by kernel_rfl) ?_
      refine ls_val (v := .int .i64 a1) rfl rfl (by kernel_rfl) (fun w => by kernel_rfl) ?_
      refine ls_on (j := 2) (t := 11) (b := false) rfl rfl (by kernel_rfl) (by kernel_rfl) ?_
      refine ls_val (v := .bool (decide (a1 > (8 : Int)))) rfl rfl (by kernel_rfl) (fun w => by kernel_rfl) ?_
      refine ls_val (v := .bool (decide (a1 > (8 : Int)))) rfl rfl (by kernel_rfl) (fun w => by kernel_rfl) ?_
      refine ls_val (v := .bool (decide (a1 > (8 : Int)))) rfl rfl (by kernel_rfl) (fun w => by kernel_rfl) ?_
      by_cases q35 : a1 > (8 : Int)
      · replace H := ite_t q35 H
        refine ls_know (c := true) (dec_t q35) 15 (by kernel_rfl) ?_
        refine ls_off (j := 6) (t := 15) (b := false) (c := true) rfl rfl (by kernel_rfl) (by kernel_rfl) rfl rfl (by kernel_rfl) ?_
        refine ls_off (j := 6) (t := 15) (b := false) (c := true) rfl rfl (by kernel_rfl) (by kernel_rfl) rfl rfl (by kernel_rfl) ?_
        refine ls_off (j := 6) (t := 15) (b := false) (c := true) rfl rfl (by kernel_rfl) (by kernel_rfl) rfl rfl (by kernel_rfl) ?_
        refine ls_off (j := 6) (t := 15) (b := false) (c := true) rfl rfl (by kernel_rfl) (by kernel_rfl) rfl rfl (by kernel_rfl) ?_
        refine ls_val (v := .bool true) rfl rfl (by kernel_rfl) (fun w => by kernel_rfl) ?_
        refine ls_end ?_
        refine qn_then ?_
        refine cs_true (by kernel_rfl) ?_
        refine cs_seq ?_
        refine cs_region (l := [_, _, _]) ?_
        refine ls_val (v := .int .u64 (0 : Int)) rfl rfl (by kernel_rfl) (fun w => by kernel_rfl) ?_
        refine ls_val (v := .slice none 0 0) rfl rfl (by kernel_rfl) (fun w => by kernel_rfl) ?_
        refine ls_val (v := .bool false) rfl rfl (by kernel_rfl) (fun w => by kernel_rfl) ?_
        refine ls_end ?_
        refine qn_then ?_
        refine cs_ret' ?_
        refine qr_then ?_
        refine qr_nilrow 0 (Ec.int 5 .u8) ?_
        obtain rfl := Option.some.inj H
        refine qr_res (rs := [_, _, _]) rfl (fun w' hs => ⟨[.int .u64 (0 : Int), .slice none 0 0, .bool false], (res_tmp (by kernel_rfl) (res_tmp (by kernel_rfl) (res_tmp (by kernel_rfl) (.nil)))), (none, 0), rfl, hs.pick (ts := [0]) (cs := [Ck.sl (Ec.int 5 .u8) none 0 ([] : List Int)]) ⟨by exact rfl, trivial⟩ (by decide)⟩)
      · replace H := ite_f q35 H
        refine ls_know (c := false) (dec_f q35) 15 (by kernel_rfl) ?_
        refine ls_on (j := 6) (t := 15) (b := false) rfl rfl (by kernel_rfl) (by kernel_rfl) ?_
        refine ls_val (v := .slice A0 l0.length c0) rfl rfl (by kernel_rfl) (fun w => by kernel_rfl) ?_
        refine ls_on (j := 6) (t := 15) (b := false) rfl rfl (by kernel_rfl) (by kernel_rfl) ?_
        refine ls_val (v := .int .i64 (l0.length : Int)) rfl rfl (by kernel_rfl) (fun w => by kernel_rfl) ?_
        refine ls_on (j := 6) (t := 15) (b := false) rfl rfl (by kernel_rfl) (by kernel_rfl) ?_
        refine ls_val (v := .int .i64 a1) rfl rfl (by kernel_rfl) (fun w => by kernel_rfl) ?_
        refine ls_on (j := 6) (t := 15) (b := false) rfl rfl (by kernel_rfl) (by kernel_rfl) ?_
        refine ls_val (v := .bool (decide ((l0.length : Int) < a1))) rfl rfl (by kernel_rfl) (fun w => by kernel_rfl) ?_
        refine ls_val (v := .bool (decide ((l0.length : Int) < a1))) rfl rfl (by kernel_rfl) (fun w => by kernel_rfl) ?_
        refine ls_end ?_
        refine qn_then ?_
        by_cases q36 : (l0.length : Int) < a1
        · replace H := ite_t q36 H
          refine cs_know (c := true) (dec_t q36) 20 (by kernel_rfl) ?_
          refine cs_true (by kernel_rfl) ?_
          refine cs_seq ?_
          refine cs_region (l := [_, _, _]) ?_
          refine ls_val (v := .int .u64 (0 : Int)) rfl rfl (by kernel_rfl) (fun w => by kernel_rfl) ?_
          refine ls_val (v := .slice none 0 0) rfl rfl (by kernel_rfl) (fun w => by kernel_rfl) ?_
          refine ls_val (v := .bool false) rfl rfl (by kernel_rfl) (fun w => by kernel_rfl) ?_
          refine ls_end ?_
          refine qn_then ?_
          refine cs_ret' ?_
          refine qr_then ?_
          refine qr_nilrow 0 (Ec.int 5 .u8) ?_
          obtain rfl := Option.some.inj H
          refine qr_res (rs := [_, _, _]) rfl (fun w' hs => ⟨[.int .u64 (0 : Int), .slice none 0 0, .bool false], (res_tmp (by kernel_rfl) (res_tmp (by kernel_rfl) (res_tmp (by kernel_rfl) (.nil)))), (none, 0), rfl, hs.pick (ts := [0]) (cs := [Ck.sl (Ec.int 5 .u8) none 0 ([] : List Int)]) ⟨by exact rfl, trivial⟩ (by decide)⟩)
        · replace H := ite_f q36 H
          refine cs_know (c := false) (dec_f q36) 20 (by kernel_rfl) ?_
          refine cs_false (by kernel_rfl) ?_
          refine cs_skip' ?_
          refine qn_meet (s0) ⟨_, (0 : Int), fr_next (fr_next (fr_next (rfl) (by kernel_rfl)) (by kernel_rfl)) (by kernel_rfl), rfl, H⟩ (sub_nil _)
  · rintro f S ⟨fr1, x4_1, rfl, rfl, H⟩
    replace H : ((if 0 ≤ a1 then (if a1 ≤ (l0.length : Int) then lt (l0.take (a1).toNat) fun xl7 => codec_Take.lo2 l0 a1 xl7 k x4_1 (0 : Int) else none) else none)) = some r := H
    refine cs_seq ?_
    refine cs_seq ?_
    refine cs_region (l := [_, _, _, _, _]) ?_
    refine ls_val (v := .slice A0 l0.length c0) rfl rfl (by kernel_rfl) (fun w => by kernel_rfl) ?_
    refine ls_val (v := .int .i64 a1) rfl rfl (by kernel_rfl) (fun w => by kernel_rfl) ?_
    obtain ⟨q1, H⟩ := ite_need H
    obtain ⟨q2, H⟩ := ite_need H
    obtain ⟨xl7, hy8, H⟩ := lt_some H
    have hz10 : 0 ≤ (a1).toNat := by omega
    have hz11 : (a1).toNat ≤ l0.length := by omega
    obtain ⟨xA3, xc4, he9, xC6, xR5⟩ := cut_at (A := A0) (c := c0) (l := l0) (Ec.int 5 .u8) 0 ((a1).toNat) hz10 hz11 C0 R0 (m := xl7) (by rw [← hy8] <;> simp) (z := 1) rfl
    refine ls_cutv (A := A0) (c := c0) (m := l0.length) (z := 1) (e := 5) (a := 0) (b := (a1).toNat) rfl rfl (by kernel_rfl) rfl (by kernel_rfl) (by kernel_rfl) (by kernel_rfl) (.inl ⟨rfl, rfl⟩) (.inr ⟨.i64, by rw [Int.toNat_of_nonneg (by first | assumption | omega)]; kernel_rfl⟩) hz10 hz11 C0 he9 ?_
    refine ls_val (v := .int .i64 (xl7.length : Int)) rfl rfl (by kernel_rfl) (fun w => by kernel_rfl) ?_
    refine ls_val (v := .int .i64 (0 : Int)) rfl rfl (by kernel_rfl) (fun w => by kernel_rfl) ?_
    refine ls_end ?_
    refine qn_then ?_
    refine cs_block ?_
    refine cs_sub (s0) (sub_nil _) ?_
    refine cs_loop (fun kk f S => ∃ (fR : Fr) (x4_2 : Int) (x25_2 : Int), f = upd (upd (upd (upd (upd (upd fR 0 (.slice A0 l0.length c0)) 1 (.int .i64 a1)) 4 (.int .u64 x4_2)) 23 (.slice xA3 xl7.length xc4)) 24 (.int .i64 (xl7.length : Int))) 25 (.int .i64 x25_2) ∧ S = s0 ∧ codec_Take.lo2 l0 a1 xl7 kk x4_2 x25_2 = some r) k ?_ ?_ ?_
    · exact ⟨_, x4_1, (0 : Int), fr_next (fr_next (fr_next (fr_next (fr_next (fr_next (rfl) (by kernel_rfl)) (by kernel_rfl)) (by kernel_rfl)) (by kernel_rfl)) (by kernel_rfl)) (by kernel_rfl), rfl, H⟩
    · rintro f S ⟨fr2, x4_2, x25_2, rfl, rfl, H⟩; cases H
    · rintro k2 f S ⟨fr2, x4_2, x25_2, rfl, rfl, H⟩
      replace H : ((if x25_2 < (xl7.length : Int) then (if 0 ≤ x25_2 then lt (IntKind.wrap .u64 ((xl7).getD (x25_2).toNat (0 : Int))) fun y16 => (if 0 ≤ IntKind.wrap .i64 ((8 : Int) * x25_2) then lt (shlv .u64 y16 (IntKind.wrap .i64 ((8 : Int) * x25_2))) fun y19 => (codec_Take.lo2 l0 a1 xl7 k2) (bits .or .u64 x4_2 y19) (IntKind.wrap .i64 (x25_2 + (1 : Int))) else none) else none) else lt (l0.drop (a1).toNat) fun xl26 => (if (([] : List Int).length + xl26.length) * 1 ≤ 140737488355328 then some (x4_2, (([] : List Int) ++ xl26), true) else none))) = some r := H
      refine cs_seq ?_
      refine cs_region (l := [_]) ?_
      refine ls_val (v := .bool (decide (x25_2 < (xl7.length : Int)))) rfl rfl (by kernel_rfl) (fun w => by kernel_rfl) ?_
      refine ls_end ?_
      refine qn_then ?_
      refine cs_seq ?_
      by_cases q12 : x25_2 < (xl7.length : Int)
      · replace H := ite_t q12 H
        refine cs_know (c := true) (dec_t q12) 26 (by kernel_rfl) ?_
        refine cs_true (by kernel_rfl) ?_
        refine cs_skip' ?_
        refine qn_then ?_
        refine cs_seq ?_
        refine cs_block ?_
        refine cs_seq ?_
        refine cs_region (l := [_, _, _, _, _]) ?_
        refine ls_val (v := .int .i64 x25_2) rfl rfl (by kernel_rfl) (fun w => by kernel_rfl) ?_
        obtain ⟨q13, H⟩ := ite_need H
        obtain ⟨ad14, hA15⟩ := ido_at (T := (Ec.int 5 .u8)) (l := xl7) (i := x25_2) xR5 q13 q12
        refine ls_idxv (Ec.int 5 .u8) (A := xA3) (c := xc4) (l := xl7) (k := .i64) (i := x25_2) (z := 1) (ad := ad14) rfl rfl (by kernel_rfl) hA15 rfl (by kernel_rfl) (by kernel_rfl) (by kernel_rfl) (by kernel_rfl) q13 q12 ?_
        refine ls_load (a0 := (ad14.add ((x25_2).toNat * 1))) (v := .int .u8 ((xl7).getD (x25_2).toNat (0 : Int))) (de := (TypeDesc.int .u8)) rfl rfl (by kernel_rfl) rfl (by kernel_rfl) (by kernel_rfl) (by kernel_rfl) (fun w hs => (hs.old xR5).at hA15 (em_sub (Ec.int 5 .u8) xl7 (i := (x25_2).toNat) (by have h0 : (0 : Int) ≤ x25_2 := q13; have h1 : x25_2 < (xl7.length : Int) := q12; omega))) ?_
        refine ls_val (v := .int .i64 x25_2) rfl rfl (by kernel_rfl) (fun w => by kernel_rfl) ?_
        refine ls_val (v := .int .u8 ((xl7).getD (x25_2).toNat (0 : Int))) rfl rfl (by kernel_rfl) (fun w => by kernel_rfl) ?_
        refine ls_end ?_
        refine qn_then ?_
        refine cs_region (l := [_, _, _, _, _, _, _, _]) ?_
        refine ls_val (v := .int .u64 x4_2) rfl rfl (by kernel_rfl) (fun w => by kernel_rfl) ?_
        refine ls_val (v := .int .u8 ((xl7).getD (x25_2).toNat (0 : Int))) rfl rfl (by kernel_rfl) (fun w => by kernel_rfl) ?_
        obtain ⟨y16, hy17, H⟩ := lt_some H
        refine ls_val (v := .int .u64 (IntKind.wrap .u64 ((xl7).getD (x25_2).toNat (0 : Int)))) rfl rfl (by kernel_rfl) (fun w => by kernel_rfl) ?_
        refine ls_ren 32 (v := .int .u64 (IntKind.wrap .u64 ((xl7).getD (x25_2).toNat (0 : Int)))) (v' := .int .u64 y16) (by kernel_rfl) (by rw [hy17]) ?_
        refine ls_val (v := .int .i64 x25_2) rfl rfl (by kernel_rfl) (fun w => by kernel_rfl) ?_
        refine ls_val (v := .int .i64 (IntKind.wrap .i64 ((8 : Int) * x25_2))) rfl rfl (by kernel_rfl) (fun w => by kernel_rfl) ?_
        obtain ⟨q18, H⟩ := ite_need H
        obtain ⟨y19, hy20, H⟩ := lt_some H
        refine ls_shiftl (k := .u64) (yk := .i64) (x := y16) (y := (IntKind.wrap .i64 ((8 : Int) * x25_2))) rfl rfl (by kernel_rfl) (fun w => by kernel_rfl) q18 ?_
        refine ls_ren 35 (v := .int .u64 (shlv .u64 y16 (IntKind.wrap .i64 ((8 : Int) * x25_2)))) (v' := .int .u64 y19) (by kernel_rfl) (by rw [hy20]) ?_
        refine ls_val (v := .int .u64 (bits .or .u64 x4_2 y19)) rfl rfl (by kernel_rfl) (fun w => by kernel_rfl) ?_
        refine ls_val (v := .int .u64 (bits .or .u64 x4_2 y19)) rfl rfl (by kernel_rfl) (fun w => by kernel_rfl) ?_
        refine ls_end ?_
        refine qn_block ?_
        refine qn_then ?_
        refine cs_region (l := [_, _]) ?_
        refine ls_val (v := .int .i64 (IntKind.wrap .i64 (x25_2 + (1 : Int)))) rfl rfl (by kernel_rfl) (fun w => by kernel_rfl) ?_
        refine ls_val (v := .int .i64 (IntKind.wrap .i64 (x25_2 + (1 : Int)))) rfl rfl (by kernel_rfl) (fun w => by kernel_rfl) ?_
        refine ls_end ?_
        refine qn_again k2 (s0) (Nat.le_refl _) ⟨_, (bits .or .u64 x4_2 y19), (IntKind.wrap .i64 (x25_2 + (1 : Int))), fr_next (fr_next (fr_next (fr_next (fr_next (fr_next (rfl) (by kernel_rfl)) (by kernel_rfl)) (by kernel_rfl)) (by kernel_rfl)) (by kernel_rfl)) (by kernel_rfl), rfl, H⟩ (sub_nil _)
      · replace H := ite_f q12 H
        refine cs_know (c := false) (dec_f q12) 26 (by kernel_rfl) ?_
        refine cs_false (by kernel_rfl) ?_
        refine cs_exit' ?_
        refine qx_then ?_
        refine qx_then ?_
        refine qx_same ?_
        refine qn_then ?_
        refine cs_seq ?_
        refine cs_region (l := [_, _, _, _, _, _, _, _, _]) ?_
        refine ls_val (v := .int .u64 x4_2) rfl rfl (by kernel_rfl) (fun w => by kernel_rfl) ?_
        refine ls_lit (Ec.int 5 .u8) 0 rfl rfl (by kernel_rfl) ([] : List Int) (by exact of_decide_eq_true (by kernel_rfl)) (fun w => by kernel_rfl) ?_
        intro g21
        refine ls_val (v := .slice A0 l0.length c0) rfl rfl (by kernel_rfl) (fun w => by kernel_rfl) ?_
        refine ls_val (v := .int .i64 a1) rfl rfl (by kernel_rfl) (fun w => by kernel_rfl) ?_
        obtain ⟨xl26, hy27, H⟩ := lt_some H
        have hz29 : (a1).toNat ≤ l0.length := by omega
        have hz30 : l0.length ≤ l0.length := by omega
        obtain ⟨xA22, xc23, he28, xC25, xR24⟩ := cut_at (A := A0) (c := c0) (l := l0) (Ec.int 5 .u8) ((a1).toNat) l0.length hz29 hz30 C0 R0 (m := xl26) (by rw [← hy27] <;> simp) (z := 1) rfl
        refine ls_cutv (A := A0) (c := c0) (m := l0.length) (z := 1) (e := 5) (a := (a1).toNat) (b := l0.length) rfl rfl (by kernel_rfl) rfl (by kernel_rfl) (by kernel_rfl) (by kernel_rfl) (.inr ⟨.i64, by rw [Int.toNat_of_nonneg (by first | assumption | omega)]; kernel_rfl⟩) (.inl ⟨rfl, rfl⟩) hz29 hz30 C0 he28 ?_
        obtain ⟨q31, H⟩ := ite_need H
        refine ls_app (Ec.int 5 .u8) (A := (some ⟨g21, 0, none⟩)) (c := ([] : List Int).length) (B := xA22) (cb := xc23) (z := (Value.int .u8 0)) (l := ([] : List Int)) (m := xl26) (bytes := 1) 0 rfl rfl (by kernel_rfl) rfl (by kernel_rfl) (by exact rfl) (by kernel_rfl) (fun w hs => (hs.old xR24)) (by kernel_rfl) (by kernel_rfl) rfl (by decide) q31 ?_
        intro xA32 xc33
        refine ls_val (v := .int .u64 x4_2) rfl rfl (by kernel_rfl) (fun w => by kernel_rfl) ?_
        refine ls_val (v := .slice xA32 (([] : List Int) ++ xl26).length xc33) rfl rfl (by kernel_rfl) (fun w => by kernel_rfl) ?_
        refine ls_val (v := .bool true) rfl rfl (by kernel_rfl) (fun w => by kernel_rfl) ?_
        refine ls_end ?_
        refine qn_then ?_
        refine cs_ret' ?_
        obtain rfl := Option.some.inj H
        refine qr_res (rs := [_, _, _]) rfl (fun w' hs => ⟨[.int .u64 x4_2, .slice xA32 (([] : List Int) ++ xl26).length xc33, .bool true], (res_tmp (by kernel_rfl) (res_tmp (by kernel_rfl) (res_tmp (by kernel_rfl) (.nil)))), (xA32, xc33), rfl, hs.pick (ts := [0]) (cs := [Ck.sl (Ec.int 5 .u8) xA32 xc33 (([] : List Int) ++ xl26)]) ⟨by exact rfl, trivial⟩ (by decide)⟩)

/-! ### shadowbox/pointer.Read$1: function 30 -/
def pointer_Read_1.f (k : Nat) (a0 : Int) (v1 : (List Int)) : Option (Int × (List Int)) :=
  (if 0 ≤ a0 then (if a0 ≤ (v1.length : Int) then lt (v1.take (a0).toNat) fun xl7 => (codec_Take.f k xl7 a0).bind fun t12 => lt (v1.drop (a0).toNat) fun xl19 => some (t12.1, xl19) else none) else none)
set_option maxRecDepth 100000 in
set_option maxHeartbeats 4000000 in
theorem pointer_Read_1.calls (k : Nat) (a0 : Int) (pg1 : Nat) (A1 : Option Addr) (c1 : Nat) (v1 : (List Int)) (r : Int × (List Int)) (b : Bs) (hs0 : St b (stl [Ck.var 26 pg1 ([Value.slice A1 v1.length c1])]) b.w) (R1 : Ro b A1 (em (Ec.int 5 .u8) v1)) (C1 : v1.length ≤ c1) (H : pointer_Read_1.f k a0 v1 = some r) :
    Calls Try.prog 30 #[.int .i64 a0, .pointer (some ⟨pg1, 0, none⟩)] b.w fun e w' => ∃ x : (Option Addr × Nat), e = .returned (.int .u64 r.1) ∧ ((Ro b x.1 (em (Ec.int 5 .u8) r.2) ∧ r.2.length ≤ x.2)) ∧ St b (stl [Ck.var 26 pg1 ([Value.slice x.1 r.2.length x.2])]) w' := by
  unfold pointer_Read_1.f at H
  refine enterb (n := 20) Try.func30 rfl (by kernel_rfl) (by kernel_rfl) hs0 ?_
  refine cs_sub (sput s0 0 (some (Ck.var 26 pg1 ([Value.slice A1 v1.length c1])))) (sub_put (by exact rfl) (sub_nil _)) ?_
  refine cs_seq ?_
  refine cs_region (l := [_]) ?_
  refine ls_val (v := .int .u64 (0 : Int)) rfl rfl (by kernel_rfl) (fun w => by kernel_rfl) ?_
  refine ls_end ?_
  refine qn_then ?_
  refine cs_seq ?_
  refine cs_region (l := [_, _, _, _, _, _, _, _, _, _, _, _]) ?_
  refine ls_load (a0 := ⟨pg1, 0, none⟩) (v := .slice A1 v1.length c1) (de := (TypeDesc.slice 5)) rfl rfl (by kernel_rfl) rfl (by kernel_rfl) (by kernel_rfl) (by kernel_rfl) (fun w hs => (hs.var (k := 0) (by exact rfl) (Sub4.all _))) ?_
  refine ls_val (v := .int .i64 a0) rfl rfl (by kernel_rfl) (fun w => by kernel_rfl) ?_
  obtain ⟨q1, H⟩ := ite_need H
  obtain ⟨q2, H⟩ := ite_need H
  obtain ⟨xl7, hy8, H⟩ := lt_some H
  have hz10 : 0 ≤ (a0).toNat := by omega
  have hz11 : (a0).toNat ≤ v1.length := by omega
  obtain ⟨xA3, xc4, he9, xC6, xR5⟩ := cut_at (A := A1) (c := c1) (l := v1) (Ec.int 5 .u8) 0 ((a0).toNat) hz10 hz11 C1 R1 (m := xl7) (by rw [← hy8] <;> simp) (z := 1) rfl
  refine ls_cutv (A := A1) (c := c1) (m := v1.length) (z := 1) (e := 5) (a := 0) (b := (a0).toNat) rfl rfl (by kernel_rfl) rfl (by kernel_rfl) (by kernel_rfl) (by kernel_rfl) (.inl ⟨rfl, rfl⟩) (.inr ⟨.i64, by rw [Int.toNat_of_nonneg (by first | assumption | omega)]; kernel_rfl⟩) hz10 hz11 C1 he9 ?_
  refine ls_val (v := .int .i64 a0) rfl rfl (by kernel_rfl) (fun w => by kernel_rfl) ?_
  obtain ⟨t12, hc13, H⟩ := bind_some H
  refine ls_callb (fid := 31) (vals := #[.slice xA3 xl7.length xc4, .int .i64 a0]) (X := (Option Addr × Nat)) (fun x => .tuple #[.int .u64 t12.1, .slice x.1 t12.2.1.length x.2, .bool t12.2.2]) (fun x => stl [Ck.sl (Ec.int 5 .u8) x.1 x.2 t12.2.1]) [] [] [] [] 1 rfl rfl (by kernel_rfl) (fun w => by kernel_rfl) trivial trivial (by decide) (fun w hs hb => codec_Take.calls k xA3 xc4 xl7 a0 t12 (lent b w [] []) hb (hs.ro xR5 _ _) xC6 hc13) ?_
  intro x14
  refine ls_val (v := .tuple #[.int .u64 t12.1, .slice x14.1 t12.2.1.length x14.2, .bool t12.2.2]) rfl rfl (by kernel_rfl) (fun w => by kernel_rfl) ?_
  refine ls_val (v := .int .u64 t12.1) rfl rfl (by kernel_rfl) (fun w => by kernel_rfl) ?_
  refine ls_val (v := .slice x14.1 t12.2.1.length x14.2) rfl rfl (by kernel_rfl) (fun w => by kernel_rfl) ?_
  refine ls_val (v := .bool t12.2.2) rfl rfl (by kernel_rfl) (fun w => by kernel_rfl) ?_
  refine ls_val (v := .int .u64 t12.1) rfl rfl (by kernel_rfl) (fun w => by kernel_rfl) ?_
  refine ls_val (v := .slice x14.1 t12.2.1.length x14.2) rfl rfl (by kernel_rfl) (fun w => by kernel_rfl) ?_
  refine ls_val (v := .bool t12.2.2) rfl rfl (by kernel_rfl) (fun w => by kernel_rfl) ?_
  refine ls_end ?_
  refine qn_then ?_
  refine cs_seq ?_
  refine cs_region (l := [_, _, _, _]) ?_
  refine ls_load (a0 := ⟨pg1, 0, none⟩) (v := .slice A1 v1.length c1) (de := (TypeDesc.slice 5)) rfl rfl (by kernel_rfl) rfl (by kernel_rfl) (by kernel_rfl) (by kernel_rfl) (fun w hs => (hs.var (k := 0) (by exact rfl) (Sub4.all _))) ?_
  refine ls_val (v := .int .i64 a0) rfl rfl (by kernel_rfl) (fun w => by kernel_rfl) ?_
  obtain ⟨xl19, hy20, H⟩ := lt_some H
  have hz22 : (a0).toNat ≤ v1.length := by omega
  have hz23 : v1.length ≤ v1.length := by omega
  obtain ⟨xA15, xc16, he21, xC18, xR17⟩ := cut_at (A := A1) (c := c1) (l := v1) (Ec.int 5 .u8) ((a0).toNat) v1.length hz22 hz23 C1 R1 (m := xl19) (by rw [← hy20] <;> simp) (z := 1) rfl
  refine ls_cutv (A := A1) (c := c1) (m := v1.length) (z := 1) (e := 5) (a := (a0).toNat) (b := v1.length) rfl rfl (by kernel_rfl) rfl (by kernel_rfl) (by kernel_rfl) (by kernel_rfl) (.inr ⟨.i64, by rw [Int.toNat_of_nonneg (by first | assumption | omega)]; kernel_rfl⟩) (.inl ⟨rfl, rfl⟩) hz22 hz23 C1 he21 ?_
  refine ls_storec (g := pg1) (off := 0) (v := .slice xA15 xl19.length xc16) (vs := [Value.slice xA15 xl19.length xc16]) (cs := [Value.slice A1 v1.length c1]) (ty := 26) 0 rfl rfl rfl (by kernel_rfl) (by kernel_rfl) (by kernel_rfl) (by exact rfl) (by kernel_rfl) (len1 _) (one_cons rfl one_nil) (hl_of (Sub4.all _) (len_eq (len1 _) (len1 _))) (cs' := [Value.slice xA15 xl19.length xc16]) (splc_all (len_eq (len1 _) (len1 _))) ?_
  refine ls_end ?_
  refine qn_then ?_
  refine cs_seq ?_
  refine cs_region (l := [_, _]) ?_
  refine ls_val (v := .int .u64 t12.1) rfl rfl (by kernel_rfl) (fun w => by kernel_rfl) ?_
  refine ls_val (v := .int .u64 t12.1) rfl rfl (by kernel_rfl) (fun w => by kernel_rfl) ?_
  refine ls_end ?_
  refine qn_then ?_
  refine cs_ret' ?_
  obtain rfl := Option.some.inj H
  refine qr_res (rs := [_]) rfl (fun w' hs => ⟨[.int .u64 t12.1], (res_tmp (by kernel_rfl) (.nil)), (xA15, xc16), rfl, ⟨xR17, xC18⟩, hs.pick (ts := [0]) (cs := [Ck.var 26 pg1 ([Value.slice xA15 xl19.length xc16])]) ⟨by exact rfl, trivial⟩ (by decide)⟩)

/-! ### shadowbox/pointer.Read: function 10 -/
def pointer_Read.jo1 (k : Nat) (l0 : List Int) : Option ((Int × Int × Int × Int × (Vc Int 32)) × Int) := (if (52 : Int) ≤ (l0.length : Int) then lt (l0.take ((52 : Int)).toNat) fun xl8 => (pointer_Read_1.f k (4 : Int) xl8).bind fun t13 => (pointer_Read_1.f k (4 : Int) t13.2).bind fun t19 => (pointer_Read_1.f k (8 : Int) t19.2).bind fun t25 => (pointer_Read_1.f k (4 : Int) t25.2).bind fun t31 => (if 32 ≤ t31.2.length then (pointer_None.f k (IntKind.wrap .i64 t13.1, IntKind.wrap .i64 t25.1, IntKind.wrap .i64 t19.1, IntKind.wrap .u32 t31.1, (vpad 32 0 t31.2))).bind fun t40 => (if t40 = true then some ((IntKind.wrap .i64 t13.1, IntKind.wrap .i64 t25.1, IntKind.wrap .i64 t19.1, IntKind.wrap .u32 t31.1, (vpad 32 0 t31.2)), (0 : Int)) else (pointer_Right.f k (IntKind.wrap .i64 t13.1, IntKind.wrap .i64 t25.1, IntKind.wrap .i64 t19.1, IntKind.wrap .u32 t31.1, (vpad 32 0 t31.2))).bind fun t44 => (if t44 = true then some ((IntKind.wrap .i64 t13.1, IntKind.wrap .i64 t25.1, IntKind.wrap .i64 t19.1, IntKind.wrap .u32 t31.1, (vpad 32 0 t31.2)), (0 : Int)) else some (((0 : Int), (0 : Int), (0 : Int), (0 : Int), (vrep 32 (0 : Int))), (11 : Int)))) else none) else none)
def pointer_Read.f (k : Nat) (l0 : List Int) : Option ((Int × Int × Int × Int × (Vc Int 32)) × Int) :=
  (if (l0.length : Int) < (52 : Int) then some (((0 : Int), (0 : Int), (0 : Int), (0 : Int), (vrep 32 (0 : Int))), (10 : Int)) else (pointer_Read.jo1 k l0))
set_option maxRecDepth 100000 in
set_option maxHeartbeats 4000000 in
theorem pointer_Read.calls (k : Nat) (A0 : Option Addr) (c0 : Nat) (l0 : List Int) (r : (Int × Int × Int × Int × (Vc Int 32)) × Int) (b : Bs) (hs0 : St b (stl []) b.w) (R0 : Ro b A0 (em (Ec.int 5 .u8) l0)) (C0 : l0.length ≤ c0) (H : pointer_Read.f k l0 = some r) :
    Calls Try.prog 10 #[.slice A0 l0.length c0] b.w fun e w' => ∃ x : Unit, e = .returned (.tuple #[.agg ⟨([Value.int .i64 r.1.1] ++ ([Value.int .i64 r.1.2.1] ++ ([Value.int .i64 r.1.2.2.1] ++ ([Value.int .u32 r.1.2.2.2.1] ++ en (Value.int .u8) r.1.2.2.2.2.1))))⟩, .int .i64 r.2]) ∧ St b (stl []) w' := by
  unfold pointer_Read.f at H
  refine enterb (n := 42) Try.func10 rfl (by kernel_rfl) (by kernel_rfl) hs0 ?_
  refine cs_sub (s0) (sub_nil _) ?_
  refine cs_seq ?_
  refine cs_region (l := [_, _, _]) ?_
  refine ls_new rfl rfl (by kernel_rfl) 0 (fun g => .pointer (some ⟨g, 0, none⟩)) (.cells ⟨[Value.slice A0 l0.length c0]⟩ 26) (fun w => by kernel_rfl) ?_
  intro g1
  refine ls_new rfl rfl (by kernel_rfl) 1 (fun g => .pointer (some ⟨g, 0, none⟩)) (.cells ⟨([Value.int .i64 (0 : Int)] ++ ([Value.int .i64 (0 : Int)] ++ ([Value.int .i64 (0 : Int)] ++ ([Value.int .u32 (0 : Int)] ++ en (Value.int .u8) (vrep 32 (0 : Int)).1))))⟩ 25) (fun w => by kernel_rfl) ?_
  intro g2
  refine ls_val (v := .int .i64 (0 : Int)) rfl rfl (by kernel_rfl) (fun w => by kernel_rfl) ?_
  refine ls_end ?_
  refine qn_then ?_
  refine cs_cut (fun f S => ∃ (fR : Fr), f = upd (upd fR 1 (.pointer (some ⟨g1, 0, none⟩))) 2 (.pointer (some ⟨g2, 0, none⟩)) ∧ S = sput (sput s0 0 (some (Ck.var 26 g1 ([Value.slice A0 l0.length c0])))) 1 (some (Ck.var 25 g2 (([Value.int .i64 (0 : Int)] ++ ([Value.int .i64 (0 : Int)] ++ ([Value.int .i64 (0 : Int)] ++ ([Value.int .u32 (0 : Int)] ++ en (Value.int .u8) (vrep 32 (0 : Int)).1))))))) ∧ pointer_Read.jo1 k l0 = some r) ?_ ?_
  · skip
    refine cs_seq ?_
    refine cs_region (l := [_, _, _]) ?_
    refine ls_load (a0 := ⟨g1, 0, none⟩) (v := .slice A0 l0.length c0) (de := (TypeDesc.slice 5)) rfl rfl (by kernel_rfl) rfl (by kernel_rfl) (by kernel_rfl) (by kernel_rfl) (fun w hs => (hs.var (k := 0) (by exact rfl) (Sub4.all _))) ?_
    refine ls_val (v := .int .i64 (l0.length : Int)) rfl rfl (by kernel_rfl) (fun w => by kernel_rfl) ?_
    refine ls_val (v := .bool (decide ((l0.length : Int) < (52 : Int)))) rfl rfl (by kernel_rfl) (fun w => by kernel_rfl) ?_
    refine ls_end ?_
    refine qn_then ?_
    by_cases q48 : (l0.length : Int) < (52 : Int)
    · replace H := ite_t q48 H
      refine cs_know (c := true) (dec_t q48) 7 (by kernel_rfl) ?_
      refine cs_true (by kernel_rfl) ?_
      refine cs_seq ?_
      refine cs_region (l := [_, _, _]) ?_
      refine ls_build (ps := []) (pl := #[(0, 1), (1, 1), (2, 1), (3, 1), (4, 32)]) (zv := .agg ⟨([Value.int .i64 (0 : Int)] ++ ([Value.int .i64 (0 : Int)] ++ ([Value.int .i64 (0 : Int)] ++ ([Value.int .u32 (0 : Int)] ++ en (Value.int .u8) (vrep 32 (0 : Int)).1))))⟩) (zc := ([Value.int .i64 (0 : Int)] ++ ([Value.int .i64 (0 : Int)] ++ ([Value.int .i64 (0 : Int)] ++ ([Value.int .u32 (0 : Int)] ++ en (Value.int .u8) (vrep 32 (0 : Int)).1))))) (r := ([Value.int .i64 (0 : Int)] ++ ([Value.int .i64 (0 : Int)] ++ ([Value.int .i64 (0 : Int)] ++ ([Value.int .u32 (0 : Int)] ++ en (Value.int .u8) (vrep 32 (0 : Int)).1))))) rfl rfl (by kernel_rfl) rfl (by kernel_rfl) (by kernel_rfl) (fun w => by kernel_rfl) (fun w => by kernel_rfl) rfl fill_nil ?_
      refine ls_storec (g := g2) (off := 0) (v := .agg ⟨([Value.int .i64 (0 : Int)] ++ ([Value.int .i64 (0 : Int)] ++ ([Value.int .i64 (0 : Int)] ++ ([Value.int .u32 (0 : Int)] ++ en (Value.int .u8) (vrep 32 (0 : Int)).1))))⟩) (vs := ([Value.int .i64 (0 : Int)] ++ ([Value.int .i64 (0 : Int)] ++ ([Value.int .i64 (0 : Int)] ++ ([Value.int .u32 (0 : Int)] ++ en (Value.int .u8) (vrep 32 (0 : Int)).1))))) (cs := ([Value.int .i64 (0 : Int)] ++ ([Value.int .i64 (0 : Int)] ++ ([Value.int .i64 (0 : Int)] ++ ([Value.int .u32 (0 : Int)] ++ en (Value.int .u8) (vrep 32 (0 : Int)).1))))) (ty := 25) 1 rfl rfl rfl (by kernel_rfl) (by kernel_rfl) (by kernel_rfl) (by exact rfl) (by kernel_rfl) (len_app (len1 _) (len_app (len1 _) (len_app (len1 _) (len_app (len1 _) (len_en _ (vrep 32 (0 : Int))))))) (one_app (one_cons rfl one_nil) (one_app (one_cons rfl one_nil) (one_app (one_cons rfl one_nil) (one_app (one_cons rfl one_nil) (one_en (fun _ => rfl) _))))) (hl_of (Sub4.all _) (len_eq (len_app (len1 _) (len_app (len1 _) (len_app (len1 _) (len_app (len1 _) (len_en _ (vrep 32 (0 : Int))))))) (len_app (len1 _) (len_app (len1 _) (len_app (len1 _) (len_app (len1 _) (len_en _ (vrep 32 (0 : Int))))))))) (cs' := ([Value.int .i64 (0 : Int)] ++ ([Value.int .i64 (0 : Int)] ++ ([Value.int .i64 (0 : Int)] ++ ([Value.int .u32 (0 : Int)] ++ en (Value.int .u8) (vrep 32 (0 : Int)).1))))) (splc_all (len_eq (len_app (len1 _) (len_app (len1 _) (len_app (len1 _) (len_app (len1 _) (len_en _ (vrep 32 (0 : Int))))))) (len_app (len1 _) (len_app (len1 _) (len_app (len1 _) (len_app (len1 _) (len_en _ (vrep 32 (0 : Int))))))))) ?_
      refine ls_val (v := .int .i64 (10 : Int)) rfl rfl (by kernel_rfl) (fun w => by kernel_rfl) ?_
      refine ls_end ?_
      refine qn_then ?_
      refine cs_ret' ?_
      refine qr_then ?_
      obtain rfl := Option.some.inj H
      refine qr_res (rs := [_, _]) rfl (fun w' hs => ⟨[.agg ⟨([Value.int .i64 (0 : Int)] ++ ([Value.int .i64 (0 : Int)] ++ ([Value.int .i64 (0 : Int)] ++ ([Value.int .u32 (0 : Int)] ++ en (Value.int .u8) (vrep 32 (0 : Int)).1))))⟩, .int .i64 (10 : Int)], (.cell (by kernel_rfl) (run_cellres (by kernel_rfl) (by kernel_rfl) (len_app (len1 _) (len_app (len1 _) (len_app (len1 _) (len_app (len1 _) (len_en _ (vrep 32 (0 : Int))))))) (hs.holds 1 _ (by exact rfl))) (res_tmp (by kernel_rfl) (.nil))), (), rfl, hs.pick (ts := []) (cs := []) trivial (by decide)⟩)
    · replace H := ite_f q48 H
      refine cs_know (c := false) (dec_f q48) 7 (by kernel_rfl) ?_
      refine cs_false (by kernel_rfl) ?_
      refine cs_skip' ?_
      refine qn_meet (sput (sput s0 0 (some (Ck.var 26 g1 ([Value.slice A0 l0.length c0])))) 1 (some (Ck.var 25 g2 (([Value.int .i64 (0 : Int)] ++ ([Value.int .i64 (0 : Int)] ++ ([Value.int .i64 (0 : Int)] ++ ([Value.int .u32 (0 : Int)] ++ en (Value.int .u8) (vrep 32 (0 : Int)).1)))))))) ⟨_, fr_next (fr_next (rfl) (by kernel_rfl)) (by kernel_rfl), rfl, H⟩ (sub_put (by exact rfl) (sub_put (by exact rfl) (sub_nil _)))
  · rintro f S ⟨fr1, rfl, rfl, H⟩
    replace H : ((if (52 : Int) ≤ (l0.length : Int) then lt (l0.take ((52 : Int)).toNat) fun xl8 => (pointer_Read_1.f k (4 : Int) xl8).bind fun t13 => (pointer_Read_1.f k (4 : Int) t13.2).bind fun t19 => (pointer_Read_1.f k (8 : Int) t19.2).bind fun t25 => (pointer_Read_1.f k (4 : Int) t25.2).bind fun t31 => (if 32 ≤ t31.2.length then (pointer_None.f k (IntKind.wrap .i64 t13.1, IntKind.wrap .i64 t25.1, IntKind.wrap .i64 t19.1, IntKind.wrap .u32 t31.1, (vpad 32 0 t31.2))).bind fun t40 => (if t40 = true then some ((IntKind.wrap .i64 t13.1, IntKind.wrap .i64 t25.1, IntKind.wrap .i64 t19.1, IntKind.wrap .u32 t31.1, (vpad 32 0 t31.2)), (0 : Int)) else (pointer_Right.f k (IntKind.wrap .i64 t13.1, IntKind.wrap .i64 t25.1, IntKind.wrap .i64 t19.1, IntKind.wrap .u32 t31.1, (vpad 32 0 t31.2))).bind fun t44 => (if t44 = true then some ((IntKind.wrap .i64 t13.1, IntKind.wrap .i64 t25.1, IntKind.wrap .i64 t19.1, IntKind.wrap .u32 t31.1, (vpad 32 0 t31.2)), (0 : Int)) else some (((0 : Int), (0 : Int), (0 : Int), (0 : Int), (vrep 32 (0 : Int))), (11 : Int)))) else none) else none)) = some r := H
    refine cs_seq ?_
    refine cs_region (l := [_, _, _]) ?_
    refine ls_load (a0 := ⟨g1, 0, none⟩) (v := .slice A0 l0.length c0) (de := (TypeDesc.slice 5)) rfl rfl (by kernel_rfl) rfl (by kernel_rfl) (by kernel_rfl) (by kernel_rfl) (fun w hs => (hs.var (k := 0) (by exact rfl) (Sub4.all _))) ?_
    obtain ⟨q3, H⟩ := ite_need H
    obtain ⟨xl8, hy9, H⟩ := lt_some H
    have hz11 : 0 ≤ ((52 : Int)).toNat := by omega
    have hz12 : ((52 : Int)).toNat ≤ l0.length := by omega
    obtain ⟨xA4, xc5, he10, xC7, xR6⟩ := cut_at (A := A0) (c := c0) (l := l0) (Ec.int 5 .u8) 0 (((52 : Int)).toNat) hz11 hz12 C0 R0 (m := xl8) (by rw [← hy9] <;> simp) (z := 1) rfl
    refine ls_cutv (A := A0) (c := c0) (m := l0.length) (z := 1) (e := 5) (a := 0) (b := ((52 : Int)).toNat) rfl rfl (by kernel_rfl) rfl (by kernel_rfl) (by kernel_rfl) (by kernel_rfl) (.inl ⟨rfl, rfl⟩) (.inr ⟨.i64, by rw [Int.toNat_of_nonneg (by first | assumption | omega)]; kernel_rfl⟩) hz11 hz12 C0 he10 ?_
    refine ls_storec (g := g1) (off := 0) (v := .slice xA4 xl8.length xc5) (vs := [Value.slice xA4 xl8.length xc5]) (cs := [Value.slice A0 l0.length c0]) (ty := 26) 0 rfl rfl rfl (by kernel_rfl) (by kernel_rfl) (by kernel_rfl) (by exact rfl) (by kernel_rfl) (len1 _) (one_cons rfl one_nil) (hl_of (Sub4.all _) (len_eq (len1 _) (len1 _))) (cs' := [Value.slice xA4 xl8.length xc5]) (splc_all (len_eq (len1 _) (len1 _))) ?_
    refine ls_end ?_
    refine qn_then ?_
    refine cs_seq ?_
    refine cs_region (l := [_, _]) ?_
    refine ls_val (v := .func (.func 30) #[] #[.pointer (some ⟨g1, 0, none⟩)]) rfl rfl (by kernel_rfl) (fun w => by kernel_rfl) ?_
    refine ls_val (v := .func (.func 30) #[] #[.pointer (some ⟨g1, 0, none⟩)]) rfl rfl (by kernel_rfl) (fun w => by kernel_rfl) ?_
    refine ls_end ?_
    refine qn_then ?_
    refine cs_seq ?_
    refine cs_region (l := [_, _, _, _, _, _, _, _, _, _]) ?_
    refine ls_val (v := .func (.func 30) #[] #[.pointer (some ⟨g1, 0, none⟩)]) rfl rfl (by kernel_rfl) (fun w => by kernel_rfl) ?_
    obtain ⟨t13, hc14, H⟩ := bind_some H
    refine ls_callg (fid := 30) (vals := #[.int .i64 (4 : Int), .pointer (some ⟨g1, 0, none⟩)]) (X := (Option Addr × Nat)) (fun x => .int .u64 t13.1) (fun x => stl [Ck.var 26 g1 ([Value.slice x.1 t13.2.length x.2])]) (fun x B => (Ro B x.1 (em (Ec.int 5 .u8) t13.2) ∧ t13.2.length ≤ x.2)) [0] [Ck.var 26 g1 ([Value.slice xA4 xl8.length xc5])] 2 rfl rfl (by kernel_rfl) (fun w => by kernel_rfl) ⟨by exact rfl, trivial⟩ (by decide) (fun x b b' h hf => ⟨h _ _ hf.1, hf.2⟩) (fun w hs hb => pointer_Read_1.calls k (4 : Int) g1 xA4 xc5 xl8 t13 (lent b w [Ck.var 26 g1 ([Value.slice xA4 xl8.length xc5])] []) hb (hs.ro xR6 _ _) xC7 hc14) ?_
    intro x15 hf18
    obtain ⟨fR16, fC17⟩ := hf18
    refine ls_val (v := .int .i64 (IntKind.wrap .i64 t13.1)) rfl rfl (by kernel_rfl) (fun w => by kernel_rfl) ?_
    refine ls_val (v := .func (.func 30) #[] #[.pointer (some ⟨g1, 0, none⟩)]) rfl rfl (by kernel_rfl) (fun w => by kernel_rfl) ?_
    obtain ⟨t19, hc20, H⟩ := bind_some H
    refine ls_callg (fid := 30) (vals := #[.int .i64 (4 : Int), .pointer (some ⟨g1, 0, none⟩)]) (X := (Option Addr × Nat)) (fun x => .int .u64 t19.1) (fun x => stl [Ck.var 26 g1 ([Value.slice x.1 t19.2.length x.2])]) (fun x B => (Ro B x.1 (em (Ec.int 5 .u8) t19.2) ∧ t19.2.length ≤ x.2)) [0] [Ck.var 26 g1 ([Value.slice x15.1 t13.2.length x15.2])] 2 rfl rfl (by kernel_rfl) (fun w => by kernel_rfl) ⟨by exact rfl, trivial⟩ (by decide) (fun x b b' h hf => ⟨h _ _ hf.1, hf.2⟩) (fun w hs hb => pointer_Read_1.calls k (4 : Int) g1 x15.1 x15.2 t13.2 t19 (lent b w [Ck.var 26 g1 ([Value.slice x15.1 t13.2.length x15.2])] []) hb (hs.ro fR16 _ _) fC17 hc20) ?_
    intro x21 hf24
    obtain ⟨fR22, fC23⟩ := hf24
    refine ls_val (v := .int .i64 (IntKind.wrap .i64 t19.1)) rfl rfl (by kernel_rfl) (fun w => by kernel_rfl) ?_
    refine ls_val (v := .pointer (some ⟨g2, (0 + 0), none⟩)) rfl rfl (by kernel_rfl) (fun w => by kernel_rfl) ?_
    refine ls_storec (g := g2) (off := (0 + 0)) (v := .int .i64 (IntKind.wrap .i64 t13.1)) (vs := [Value.int .i64 (IntKind.wrap .i64 t13.1)]) (cs := ([Value.int .i64 (0 : Int)] ++ ([Value.int .i64 (0 : Int)] ++ ([Value.int .i64 (0 : Int)] ++ ([Value.int .u32 (0 : Int)] ++ en (Value.int .u8) (vrep 32 (0 : Int)).1))))) (ty := 25) 1 rfl rfl rfl (by kernel_rfl) (by kernel_rfl) (by kernel_rfl) (by exact rfl) (by kernel_rfl) (len1 _) (one_cons rfl one_nil) (hl_of (Sub4.trans (Sub4.all _) (Sub4.head _ _)) (len_eq (len1 _) (len1 _))) (cs' := ([Value.int .i64 (IntKind.wrap .i64 t13.1)] ++ ([Value.int .i64 (0 : Int)] ++ ([Value.int .i64 (0 : Int)] ++ ([Value.int .u32 (0 : Int)] ++ en (Value.int .u8) (vrep 32 (0 : Int)).1))))) (splc_in (Sub4.all _) (splc_head (len_eq (len1 _) (len1 _))) (splc_all (len_eq (len_app (len1 _) (len_app (len1 _) (len_app (len1 _) (len_app (len1 _) (len_en _ (vrep 32 (0 : Int))))))) (len_app (len1 _) (len_app (len1 _) (len_app (len1 _) (len_app (len1 _) (len_en _ (vrep 32 (0 : Int))))))))) (hl_of (Sub4.head _ _) (len_eq (len1 _) (len1 _)))) ?_
    refine ls_val (v := .pointer (some ⟨g2, (0 + 2), none⟩)) rfl rfl (by kernel_rfl) (fun w => by kernel_rfl) ?_
    refine ls_storec (g := g2) (off := (0 + 2)) (v := .int .i64 (IntKind.wrap .i64 t19.1)) (vs := [Value.int .i64 (IntKind.wrap .i64 t19.1)]) (cs := ([Value.int .i64 (IntKind.wrap .i64 t13.1)] ++ ([Value.int .i64 (0 : Int)] ++ ([Value.int .i64 (0 : Int)] ++ ([Value.int .u32 (0 : Int)] ++ en (Value.int .u8) (vrep 32 (0 : Int)).1))))) (ty := 25) 1 rfl rfl rfl (by kernel_rfl) (by kernel_rfl) (by kernel_rfl) (by exact rfl) (by kernel_rfl) (len1 _) (one_cons rfl one_nil) (hl_of (Sub4.trans (Sub4.all _) (Sub4.skip (n := 1) (len1 _) (Sub4.skip (n := 1) (len1 _) (Sub4.head _ _)))) (len_eq (len1 _) (len1 _))) (cs' := ([Value.int .i64 (IntKind.wrap .i64 t13.1)] ++ ([Value.int .i64 (0 : Int)] ++ ([Value.int .i64 (IntKind.wrap .i64 t19.1)] ++ ([Value.int .u32 (0 : Int)] ++ en (Value.int .u8) (vrep 32 (0 : Int)).1))))) (splc_in (Sub4.all _) (splc_skip (n := 1) (len1 _) (splc_skip (n := 1) (len1 _) (splc_head (len_eq (len1 _) (len1 _))))) (splc_all (len_eq (len_app (len1 _) (len_app (len1 _) (len_app (len1 _) (len_app (len1 _) (len_en _ (vrep 32 (0 : Int))))))) (len_app (len1 _) (len_app (len1 _) (len_app (len1 _) (len_app (len1 _) (len_en _ (vrep 32 (0 : Int))))))))) (hl_of (Sub4.skip (n := 1) (len1 _) (Sub4.skip (n := 1) (len1 _) (Sub4.head _ _))) (len_eq (len1 _) (len1 _)))) ?_
    refine ls_end ?_
    refine qn_then ?_
    refine cs_seq ?_
    refine cs_region (l := [_, _, _, _, _]) ?_
    refine ls_val (v := .func (.func 30) #[] #[.pointer (some ⟨g1, 0, none⟩)]) rfl rfl (by kernel_rfl) (fun w => by kernel_rfl) ?_
    obtain ⟨t25, hc26, H⟩ := bind_some H
    refine ls_callg (fid := 30) (vals := #[.int .i64 (8 : Int), .pointer (some ⟨g1, 0, none⟩)]) (X := (Option Addr × Nat)) (fun x => .int .u64 t25.1) (fun x => stl [Ck.var 26 g1 ([Value.slice x.1 t25.2.length x.2])]) (fun x B => (Ro B x.1 (em (Ec.int 5 .u8) t25.2) ∧ t25.2.length ≤ x.2)) [0] [Ck.var 26 g1 ([Value.slice x21.1 t19.2.length x21.2])] 2 rfl rfl (by kernel_rfl) (fun w => by kernel_rfl) ⟨by exact rfl, trivial⟩ (by decide) (fun x b b' h hf => ⟨h _ _ hf.1, hf.2⟩) (fun w hs hb => pointer_Read_1.calls k (8 : Int) g1 x21.1 x21.2 t19.2 t25 (lent b w [Ck.var 26 g1 ([Value.slice x21.1 t19.2.length x21.2])] []) hb (hs.ro fR22 _ _) fC23 hc26) ?_
    intro x27 hf30
    obtain ⟨fR28, fC29⟩ := hf30
    refine ls_val (v := .int .i64 (IntKind.wrap .i64 t25.1)) rfl rfl (by kernel_rfl) (fun w => by kernel_rfl) ?_
    refine ls_val (v := .pointer (some ⟨g2, (0 + 1), none⟩)) rfl rfl (by kernel_rfl) (fun w => by kernel_rfl) ?_
    refine ls_storec (g := g2) (off := (0 + 1)) (v := .int .i64 (IntKind.wrap .i64 t25.1)) (vs := [Value.int .i64 (IntKind.wrap .i64 t25.1)]) (cs := ([Value.int .i64 (IntKind.wrap .i64 t13.1)] ++ ([Value.int .i64 (0 : Int)] ++ ([Value.int .i64 (IntKind.wrap .i64 t19.1)] ++ ([Value.int .u32 (0 : Int)] ++ en (Value.int .u8) (vrep 32 (0 : Int)).1))))) (ty := 25) 1 rfl rfl rfl (by kernel_rfl) (by kernel_rfl) (by kernel_rfl) (by exact rfl) (by kernel_rfl) (len1 _) (one_cons rfl one_nil) (hl_of (Sub4.trans (Sub4.all _) (Sub4.skip (n := 1) (len1 _) (Sub4.head _ _))) (len_eq (len1 _) (len1 _))) (cs' := ([Value.int .i64 (IntKind.wrap .i64 t13.1)] ++ ([Value.int .i64 (IntKind.wrap .i64 t25.1)] ++ ([Value.int .i64 (IntKind.wrap .i64 t19.1)] ++ ([Value.int .u32 (0 : Int)] ++ en (Value.int .u8) (vrep 32 (0 : Int)).1))))) (splc_in (Sub4.all _) (splc_skip (n := 1) (len1 _) (splc_head (len_eq (len1 _) (len1 _)))) (splc_all (len_eq (len_app (len1 _) (len_app (len1 _) (len_app (len1 _) (len_app (len1 _) (len_en _ (vrep 32 (0 : Int))))))) (len_app (len1 _) (len_app (len1 _) (len_app (len1 _) (len_app (len1 _) (len_en _ (vrep 32 (0 : Int))))))))) (hl_of (Sub4.skip (n := 1) (len1 _) (Sub4.head _ _)) (len_eq (len1 _) (len1 _)))) ?_
    refine ls_end ?_
    refine qn_then ?_
    refine cs_seq ?_
    refine cs_region (l := [_, _, _, _, _]) ?_
    refine ls_val (v := .func (.func 30) #[] #[.pointer (some ⟨g1, 0, none⟩)]) rfl rfl (by kernel_rfl) (fun w => by kernel_rfl) ?_
    obtain ⟨t31, hc32, H⟩ := bind_some H
    refine ls_callg (fid := 30) (vals := #[.int .i64 (4 : Int), .pointer (some ⟨g1, 0, none⟩)]) (X := (Option Addr × Nat)) (fun x => .int .u64 t31.1) (fun x => stl [Ck.var 26 g1 ([Value.slice x.1 t31.2.length x.2])]) (fun x B => (Ro B x.1 (em (Ec.int 5 .u8) t31.2) ∧ t31.2.length ≤ x.2)) [0] [Ck.var 26 g1 ([Value.slice x27.1 t25.2.length x27.2])] 2 rfl rfl (by kernel_rfl) (fun w => by kernel_rfl) ⟨by exact rfl, trivial⟩ (by decide) (fun x b b' h hf => ⟨h _ _ hf.1, hf.2⟩) (fun w hs hb => pointer_Read_1.calls k (4 : Int) g1 x27.1 x27.2 t25.2 t31 (lent b w [Ck.var 26 g1 ([Value.slice x27.1 t25.2.length x27.2])] []) hb (hs.ro fR28 _ _) fC29 hc32) ?_
    intro x33 hf36
    obtain ⟨fR34, fC35⟩ := hf36
    refine ls_val (v := .int .u32 (IntKind.wrap .u32 t31.1)) rfl rfl (by kernel_rfl) (fun w => by kernel_rfl) ?_
    refine ls_val (v := .pointer (some ⟨g2, (0 + 3), none⟩)) rfl rfl (by kernel_rfl) (fun w => by kernel_rfl) ?_
    refine ls_storec (g := g2) (off := (0 + 3)) (v := .int .u32 (IntKind.wrap .u32 t31.1)) (vs := [Value.int .u32 (IntKind.wrap .u32 t31.1)]) (cs := ([Value.int .i64 (IntKind.wrap .i64 t13.1)] ++ ([Value.int .i64 (IntKind.wrap .i64 t25.1)] ++ ([Value.int .i64 (IntKind.wrap .i64 t19.1)] ++ ([Value.int .u32 (0 : Int)] ++ en (Value.int .u8) (vrep 32 (0 : Int)).1))))) (ty := 25) 1 rfl rfl rfl (by kernel_rfl) (by kernel_rfl) (by kernel_rfl) (by exact rfl) (by kernel_rfl) (len1 _) (one_cons rfl one_nil) (hl_of (Sub4.trans (Sub4.all _) (Sub4.skip (n := 1) (len1 _) (Sub4.skip (n := 1) (len1 _) (Sub4.skip (n := 1) (len1 _) (Sub4.head _ _))))) (len_eq (len1 _) (len1 _))) (cs' := ([Value.int .i64 (IntKind.wrap .i64 t13.1)] ++ ([Value.int .i64 (IntKind.wrap .i64 t25.1)] ++ ([Value.int .i64 (IntKind.wrap .i64 t19.1)] ++ ([Value.int .u32 (IntKind.wrap .u32 t31.1)] ++ en (Value.int .u8) (vrep 32 (0 : Int)).1))))) (splc_in (Sub4.all _) (splc_skip (n := 1) (len1 _) (splc_skip (n := 1) (len1 _) (splc_skip (n := 1) (len1 _) (splc_head (len_eq (len1 _) (len1 _)))))) (splc_all (len_eq (len_app (len1 _) (len_app (len1 _) (len_app (len1 _) (len_app (len1 _) (len_en _ (vrep 32 (0 : Int))))))) (len_app (len1 _) (len_app (len1 _) (len_app (len1 _) (len_app (len1 _) (len_en _ (vrep 32 (0 : Int))))))))) (hl_of (Sub4.skip (n := 1) (len1 _) (Sub4.skip (n := 1) (len1 _) (Sub4.skip (n := 1) (len1 _) (Sub4.head _ _)))) (len_eq (len1 _) (len1 _)))) ?_
    refine ls_end ?_
    refine qn_then ?_
    refine cs_seq ?_
    refine cs_region (l := [_, _, _, _, _]) ?_
    refine ls_load (a0 := ⟨g1, 0, none⟩) (v := .slice x33.1 t31.2.length x33.2) (de := (TypeDesc.slice 5)) rfl rfl (by kernel_rfl) rfl (by kernel_rfl) (by kernel_rfl) (by kernel_rfl) (fun w hs => (hs.var (k := 0) (by exact rfl) (Sub4.all _))) ?_
    obtain ⟨q37, H⟩ := ite_need H
    obtain ⟨ad38, hA39⟩ := ido_at (T := (Ec.int 5 .u8)) (l := t31.2) (i := (0 : Int)) fR34 (by decide) (by have := q37; omega)
    refine ls_toarr (e := 5) (A := x33.1) (m := t31.2.length) (c := x33.2) rfl rfl (by kernel_rfl) rfl (by kernel_rfl) (by kernel_rfl) q37 hA39 ?_
    refine ls_loadagg (a := (ad38.add 0)) (sub := en (Value.int .u8) (vpad 32 0 t31.2).1) rfl rfl (by kernel_rfl) rfl (by kernel_rfl) (by kernel_rfl) (by kernel_rfl) (len_en _ (vpad 32 0 t31.2)) (fun w hs => ((hs.old fR34).vpad q37 0).part hA39 (Sub4.all _)) ?_
    refine ls_val (v := .pointer (some ⟨g2, (0 + 4), none⟩)) rfl rfl (by kernel_rfl) (fun w => by kernel_rfl) ?_
    refine ls_storec (g := g2) (off := (0 + 4)) (v := .agg ⟨en (Value.int .u8) (vpad 32 0 t31.2).1⟩) (vs := en (Value.int .u8) (vpad 32 0 t31.2).1) (cs := ([Value.int .i64 (IntKind.wrap .i64 t13.1)] ++ ([Value.int .i64 (IntKind.wrap .i64 t25.1)] ++ ([Value.int .i64 (IntKind.wrap .i64 t19.1)] ++ ([Value.int .u32 (IntKind.wrap .u32 t31.1)] ++ en (Value.int .u8) (vrep 32 (0 : Int)).1))))) (ty := 25) 1 rfl rfl rfl (by kernel_rfl) (by kernel_rfl) (by kernel_rfl) (by exact rfl) (by kernel_rfl) (len_en _ (vpad 32 0 t31.2)) (one_en (fun _ => rfl) _) (hl_of (Sub4.trans (Sub4.all _) (Sub4.skip (n := 1) (len1 _) (Sub4.skip (n := 1) (len1 _) (Sub4.skip (n := 1) (len1 _) (Sub4.skip (n := 1) (len1 _) (Sub4.all _)))))) (len_eq (len_en _ (vpad 32 0 t31.2)) (len_en _ (vrep 32 (0 : Int))))) (cs' := ([Value.int .i64 (IntKind.wrap .i64 t13.1)] ++ ([Value.int .i64 (IntKind.wrap .i64 t25.1)] ++ ([Value.int .i64 (IntKind.wrap .i64 t19.1)] ++ ([Value.int .u32 (IntKind.wrap .u32 t31.1)] ++ en (Value.int .u8) (vpad 32 0 t31.2).1))))) (splc_in (Sub4.all _) (splc_skip (n := 1) (len1 _) (splc_skip (n := 1) (len1 _) (splc_skip (n := 1) (len1 _) (splc_skip (n := 1) (len1 _) (splc_all (len_eq (len_en _ (vpad 32 0 t31.2)) (len_en _ (vrep 32 (0 : Int))))))))) (splc_all (len_eq (len_app (len1 _) (len_app (len1 _) (len_app (len1 _) (len_app (len1 _) (len_en _ (vpad 32 0 t31.2)))))) (len_app (len1 _) (len_app (len1 _) (len_app (len1 _) (len_app (len1 _) (len_en _ (vrep 32 (0 : Int))))))))) (hl_of (Sub4.skip (n := 1) (len1 _) (Sub4.skip (n := 1) (len1 _) (Sub4.skip (n := 1) (len1 _) (Sub4.skip (n := 1) (len1 _) (Sub4.all _))))) (len_eq (len_en _ (vpad 32 0 t31.2)) (len_en _ (vrep 32 (0 : Int)))))) ?_
    refine ls_end ?_
    refine qn_then ?_
    refine cs_seq ?_
    refine cs_seq ?_
    refine cs_region (l := [_, _, _, _, _, _, _, _]) ?_
    refine ls_loadagg (a := ⟨g2, 0, none⟩) (sub := ([Value.int .i64 (IntKind.wrap .i64 t13.1)] ++ ([Value.int .i64 (IntKind.wrap .i64 t25.1)] ++ ([Value.int .i64 (IntKind.wrap .i64 t19.1)] ++ ([Value.int .u32 (IntKind.wrap .u32 t31.1)] ++ en (Value.int .u8) (vpad 32 0 t31.2).1))))) rfl rfl (by kernel_rfl) rfl (by kernel_rfl) (by kernel_rfl) (by kernel_rfl) (len_app (len1 _) (len_app (len1 _) (len_app (len1 _) (len_app (len1 _) (len_en _ (vpad 32 0 t31.2)))))) (fun w hs => (hs.vars (k := 1) (by exact rfl) (Sub4.all _))) ?_
    obtain ⟨t40, hc41, H⟩ := bind_some H
    refine ls_callb (fid := 12) (vals := #[.agg ⟨([Value.int .i64 (IntKind.wrap .i64 t13.1)] ++ ([Value.int .i64 (IntKind.wrap .i64 t25.1)] ++ ([Value.int .i64 (IntKind.wrap .i64 t19.1)] ++ ([Value.int .u32 (IntKind.wrap .u32 t31.1)] ++ en (Value.int .u8) (vpad 32 0 t31.2).1))))⟩]) (X := Unit) (fun x => .bool t40) (fun x => stl []) [] [] [] [] 2 rfl rfl (by kernel_rfl) (fun w => by kernel_rfl) trivial trivial (by decide) (fun w hs hb => pointer_None.calls k (IntKind.wrap .i64 t13.1, IntKind.wrap .i64 t25.1, IntKind.wrap .i64 t19.1, IntKind.wrap .u32 t31.1, (vpad 32 0 t31.2)) t40 (lent b w [] []) hb  hc41) ?_
    intro x42
    refine ls_val (v := .bool (!t40)) rfl rfl (by kernel_rfl) (fun w => by kernel_rfl) ?_
    refine ls_val (v := .bool (!t40)) rfl rfl (by kernel_rfl) (fun w => by kernel_rfl) ?_
    by_cases q43 : t40 = true
    · replace H := ite_t q43 H
      refine ls_know (c := false) (congrArg Bool.not (q43)) 35 (by kernel_rfl) ?_
      refine ls_off (j := 3) (t := 35) (b := true) (c := false) rfl rfl (by kernel_rfl) (by kernel_rfl) rfl rfl (by kernel_rfl) ?_
      refine ls_off (j := 3) (t := 35) (b := true) (c := false) rfl rfl (by kernel_rfl) (by kernel_rfl) rfl rfl (by kernel_rfl) ?_
      refine ls_off (j := 3) (t := 35) (b := true) (c := false) rfl rfl (by kernel_rfl) (by kernel_rfl) rfl rfl (by kernel_rfl) ?_
      refine ls_val (v := .bool false) rfl rfl (by kernel_rfl) (fun w => by kernel_rfl) ?_
      refine ls_end ?_
      refine qn_then ?_
      refine cs_false (by kernel_rfl) ?_
      refine cs_skip' ?_
      refine qn_then ?_
      refine cs_seq ?_
      refine cs_region (l := [_, _, _]) ?_
      refine ls_loadagg (a := ⟨g2, 0, none⟩) (sub := ([Value.int .i64 (IntKind.wrap .i64 t13.1)] ++ ([Value.int .i64 (IntKind.wrap .i64 t25.1)] ++ ([Value.int .i64 (IntKind.wrap .i64 t19.1)] ++ ([Value.int .u32 (IntKind.wrap .u32 t31.1)] ++ en (Value.int .u8) (vpad 32 0 t31.2).1))))) rfl rfl (by kernel_rfl) rfl (by kernel_rfl) (by kernel_rfl) (by kernel_rfl) (len_app (len1 _) (len_app (len1 _) (len_app (len1 _) (len_app (len1 _) (len_en _ (vpad 32 0 t31.2)))))) (fun w hs => (hs.vars (k := 1) (by exact rfl) (Sub4.all _))) ?_
      refine ls_storec (g := g2) (off := 0) (v := .agg ⟨([Value.int .i64 (IntKind.wrap .i64 t13.1)] ++ ([Value.int .i64 (IntKind.wrap .i64 t25.1)] ++ ([Value.int .i64 (IntKind.wrap .i64 t19.1)] ++ ([Value.int .u32 (IntKind.wrap .u32 t31.1)] ++ en (Value.int .u8) (vpad 32 0 t31.2).1))))⟩) (vs := ([Value.int .i64 (IntKind.wrap .i64 t13.1)] ++ ([Value.int .i64 (IntKind.wrap .i64 t25.1)] ++ ([Value.int .i64 (IntKind.wrap .i64 t19.1)] ++ ([Value.int .u32 (IntKind.wrap .u32 t31.1)] ++ en (Value.int .u8) (vpad 32 0 t31.2).1))))) (cs := ([Value.int .i64 (IntKind.wrap .i64 t13.1)] ++ ([Value.int .i64 (IntKind.wrap .i64 t25.1)] ++ ([Value.int .i64 (IntKind.wrap .i64 t19.1)] ++ ([Value.int .u32 (IntKind.wrap .u32 t31.1)] ++ en (Value.int .u8) (vpad 32 0 t31.2).1))))) (ty := 25) 1 rfl rfl rfl (by kernel_rfl) (by kernel_rfl) (by kernel_rfl) (by exact rfl) (by kernel_rfl) (len_app (len1 _) (len_app (len1 _) (len_app (len1 _) (len_app (len1 _) (len_en _ (vpad 32 0 t31.2)))))) (one_app (one_cons rfl one_nil) (one_app (one_cons rfl one_nil) (one_app (one_cons rfl one_nil) (one_app (one_cons rfl one_nil) (one_en (fun _ => rfl) _))))) (hl_of (Sub4.all _) (len_eq (len_app (len1 _) (len_app (len1 _) (len_app (len1 _) (len_app (len1 _) (len_en _ (vpad 32 0 t31.2)))))) (len_app (len1 _) (len_app (len1 _) (len_app (len1 _) (len_app (len1 _) (len_en _ (vpad 32 0 t31.2)))))))) (cs' := ([Value.int .i64 (IntKind.wrap .i64 t13.1)] ++ ([Value.int .i64 (IntKind.wrap .i64 t25.1)] ++ ([Value.int .i64 (IntKind.wrap .i64 t19.1)] ++ ([Value.int .u32 (IntKind.wrap .u32 t31.1)] ++ en (Value.int .u8) (vpad 32 0 t31.2).1))))) (splc_all (len_eq (len_app (len1 _) (len_app (len1 _) (len_app (len1 _) (len_app (len1 _) (len_en _ (vpad 32 0 t31.2)))))) (len_app (len1 _) (len_app (len1 _) (len_app (len1 _) (len_app (len1 _) (len_en _ (vpad 32 0 t31.2)))))))) ?_
      refine ls_val (v := .int .i64 (0 : Int)) rfl rfl (by kernel_rfl) (fun w => by kernel_rfl) ?_
      refine ls_end ?_
      refine qn_then ?_
      refine cs_ret' ?_
      obtain rfl := Option.some.inj H
      refine qr_res (rs := [_, _]) rfl (fun w' hs => ⟨[.agg ⟨([Value.int .i64 (IntKind.wrap .i64 t13.1)] ++ ([Value.int .i64 (IntKind.wrap .i64 t25.1)] ++ ([Value.int .i64 (IntKind.wrap .i64 t19.1)] ++ ([Value.int .u32 (IntKind.wrap .u32 t31.1)] ++ en (Value.int .u8) (vpad 32 0 t31.2).1))))⟩, .int .i64 (0 : Int)], (.cell (by kernel_rfl) (run_cellres (by kernel_rfl) (by kernel_rfl) (len_app (len1 _) (len_app (len1 _) (len_app (len1 _) (len_app (len1 _) (len_en _ (vpad 32 0 t31.2)))))) (hs.holds 1 _ (by exact rfl))) (res_tmp (by kernel_rfl) (.nil))), (), rfl, hs.pick (ts := []) (cs := []) trivial (by decide)⟩)
    · replace H := ite_f q43 H
      refine ls_know (c := true) (congrArg Bool.not (Bool.eq_false_iff.mpr q43)) 35 (by kernel_rfl) ?_
      refine ls_on (j := 3) (t := 35) (b := true) rfl rfl (by kernel_rfl) (by kernel_rfl) ?_
      refine ls_loadagg (a := ⟨g2, 0, none⟩) (sub := ([Value.int .i64 (IntKind.wrap .i64 t13.1)] ++ ([Value.int .i64 (IntKind.wrap .i64 t25.1)] ++ ([Value.int .i64 (IntKind.wrap .i64 t19.1)] ++ ([Value.int .u32 (IntKind.wrap .u32 t31.1)] ++ en (Value.int .u8) (vpad 32 0 t31.2).1))))) rfl rfl (by kernel_rfl) rfl (by kernel_rfl) (by kernel_rfl) (by kernel_rfl) (len_app (len1 _) (len_app (len1 _) (len_app (len1 _) (len_app (len1 _) (len_en _ (vpad 32 0 t31.2)))))) (fun w hs => (hs.vars (k := 1) (by exact rfl) (Sub4.all _))) ?_
      refine ls_on (j := 3) (t := 35) (b := true) rfl rfl (by kernel_rfl) (by kernel_rfl) ?_
      obtain ⟨t44, hc45, H⟩ := bind_some H
      refine ls_callb (fid := 14) (vals := #[.agg ⟨([Value.int .i64 (IntKind.wrap .i64 t13.1)] ++ ([Value.int .i64 (IntKind.wrap .i64 t25.1)] ++ ([Value.int .i64 (IntKind.wrap .i64 t19.1)] ++ ([Value.int .u32 (IntKind.wrap .u32 t31.1)] ++ en (Value.int .u8) (vpad 32 0 t31.2).1))))⟩]) (X := Unit) (fun x => .bool t44) (fun x => stl []) [] [] [] [] 2 rfl rfl (by kernel_rfl) (fun w => by kernel_rfl) trivial trivial (by decide) (fun w hs hb => pointer_Right.calls k (IntKind.wrap .i64 t13.1, IntKind.wrap .i64 t25.1, IntKind.wrap .i64 t19.1, IntKind.wrap .u32 t31.1, (vpad 32 0 t31.2)) t44 (lent b w [] []) hb  hc45) ?_
      intro x46
      refine ls_on (j := 3) (t := 35) (b := true) rfl rfl (by kernel_rfl) (by kernel_rfl) ?_
      refine ls_val (v := .bool (!t44)) rfl rfl (by kernel_rfl) (fun w => by kernel_rfl) ?_
      refine ls_val (v := .bool (!t44)) rfl rfl (by kernel_rfl) (fun w => by kernel_rfl) ?_
      refine ls_end ?_
      refine qn_then ?_
      by_cases q47 : t44 = true
      · replace H := ite_t q47 H
        refine cs_know (c := false) (congrArg Bool.not (q47)) 39 (by kernel_rfl) ?_
        refine cs_false (by kernel_rfl) ?_
        refine cs_skip' ?_
        refine qn_then ?_
        refine cs_seq ?_
        refine cs_region (l := [_, _, _]) ?_
        refine ls_loadagg (a := ⟨g2, 0, none⟩) (sub := ([Value.int .i64 (IntKind.wrap .i64 t13.1)] ++ ([Value.int .i64 (IntKind.wrap .i64 t25.1)] ++ ([Value.int .i64 (IntKind.wrap .i64 t19.1)] ++ ([Value.int .u32 (IntKind.wrap .u32 t31.1)] ++ en (Value.int .u8) (vpad 32 0 t31.2).1))))) rfl rfl (by kernel_rfl) rfl (by kernel_rfl) (by kernel_rfl) (by kernel_rfl) (len_app (len1 _) (len_app (len1 _) (len_app (len1 _) (len_app (len1 _) (len_en _ (vpad 32 0 t31.2)))))) (fun w hs => (hs.vars (k := 1) (by exact rfl) (Sub4.all _))) ?_
        refine ls_storec (g := g2) (off := 0) (v := .agg ⟨([Value.int .i64 (IntKind.wrap .i64 t13.1)] ++ ([Value.int .i64 (IntKind.wrap .i64 t25.1)] ++ ([Value.int .i64 (IntKind.wrap .i64 t19.1)] ++ ([Value.int .u32 (IntKind.wrap .u32 t31.1)] ++ en (Value.int .u8) (vpad 32 0 t31.2).1))))⟩) (vs := ([Value.int .i64 (IntKind.wrap .i64 t13.1)] ++ ([Value.int .i64 (IntKind.wrap .i64 t25.1)] ++ ([Value.int .i64 (IntKind.wrap .i64 t19.1)] ++ ([Value.int .u32 (IntKind.wrap .u32 t31.1)] ++ en (Value.int .u8) (vpad 32 0 t31.2).1))))) (cs := ([Value.int .i64 (IntKind.wrap .i64 t13.1)] ++ ([Value.int .i64 (IntKind.wrap .i64 t25.1)] ++ ([Value.int .i64 (IntKind.wrap .i64 t19.1)] ++ ([Value.int .u32 (IntKind.wrap .u32 t31.1)] ++ en (Value.int .u8) (vpad 32 0 t31.2).1))))) (ty := 25) 1 rfl rfl rfl (by kernel_rfl) (by kernel_rfl) (by kernel_rfl) (by exact rfl) (by kernel_rfl) (len_app (len1 _) (len_app (len1 _) (len_app (len1 _) (len_app (len1 _) (len_en _ (vpad 32 0 t31.2)))))) (one_app (one_cons rfl one_nil) (one_app (one_cons rfl one_nil) (one_app (one_cons rfl one_nil) (one_app (one_cons rfl one_nil) (one_en (fun _ => rfl) _))))) (hl_of (Sub4.all _) (len_eq (len_app (len1 _) (len_app (len1 _) (len_app (len1 _) (len_app (len1 _) (len_en _ (vpad 32 0 t31.2)))))) (len_app (len1 _) (len_app (len1 _) (len_app (len1 _) (len_app (len1 _) (len_en _ (vpad 32 0 t31.2)))))))) (cs' := ([Value.int .i64 (IntKind.wrap .i64 t13.1)] ++ ([Value.int .i64 (IntKind.wrap .i64 t25.1)] ++ ([Value.int .i64 (IntKind.wrap .i64 t19.1)] ++ ([Value.int .u32 (IntKind.wrap .u32 t31.1)] ++ en (Value.int .u8) (vpad 32 0 t31.2).1))))) (splc_all (len_eq (len_app (len1 _) (len_app (len1 _) (len_app (len1 _) (len_app (len1 _) (len_en _ (vpad 32 0 t31.2)))))) (len_app (len1 _) (len_app (len1 _) (len_app (len1 _) (len_app (len1 _) (len_en _ (vpad 32 0 t31.2)))))))) ?_
        refine ls_val (v := .int .i64 (0 : Int)) rfl rfl (by kernel_rfl) (fun w => by kernel_rfl) ?_
        refine ls_end ?_
        refine qn_then ?_
        refine cs_ret' ?_
        obtain rfl := Option.some.inj H
        refine qr_res (rs := [_, _]) rfl (fun w' hs => ⟨[.agg ⟨([Value.int .i64 (IntKind.wrap .i64 t13.1)] ++ ([Value.int .i64 (IntKind.wrap .i64 t25.1)] ++ ([Value.int .i64 (IntKind.wrap .i64 t19.1)] ++ ([Value.int .u32 (IntKind.wrap .u32 t31.1)] ++ en (Value.int .u8) (vpad 32 0 t31.2).1))))⟩, .int .i64 (0 : Int)], (.cell (by kernel_rfl) (run_cellres (by kernel_rfl) (by kernel_rfl) (len_app (len1 _) (len_app (len1 _) (len_app (len1 _) (len_app (len1 _) (len_en _ (vpad 32 0 t31.2)))))) (hs.holds 1 _ (by exact rfl))) (res_tmp (by kernel_rfl) (.nil))), (), rfl, hs.pick (ts := []) (cs := []) trivial (by decide)⟩)
      · replace H := ite_f q47 H
        refine cs_know (c := true) (congrArg Bool.not (Bool.eq_false_iff.mpr q47)) 39 (by kernel_rfl) ?_
        refine cs_true (by kernel_rfl) ?_
        refine cs_seq ?_
        refine cs_region (l := [_, _, _]) ?_
        refine ls_build (ps := []) (pl := #[(0, 1), (1, 1), (2, 1), (3, 1), (4, 32)]) (zv := .agg ⟨([Value.int .i64 (0 : Int)] ++ ([Value.int .i64 (0 : Int)] ++ ([Value.int .i64 (0 : Int)] ++ ([Value.int .u32 (0 : Int)] ++ en (Value.int .u8) (vrep 32 (0 : Int)).1))))⟩) (zc := ([Value.int .i64 (0 : Int)] ++ ([Value.int .i64 (0 : Int)] ++ ([Value.int .i64 (0 : Int)] ++ ([Value.int .u32 (0 : Int)] ++ en (Value.int .u8) (vrep 32 (0 : Int)).1))))) (r := ([Value.int .i64 (0 : Int)] ++ ([Value.int .i64 (0 : Int)] ++ ([Value.int .i64 (0 : Int)] ++ ([Value.int .u32 (0 : Int)] ++ en (Value.int .u8) (vrep 32 (0 : Int)).1))))) rfl rfl (by kernel_rfl) rfl (by kernel_rfl) (by kernel_rfl) (fun w => by kernel_rfl) (fun w => by kernel_rfl) rfl fill_nil ?_
        refine ls_storec (g := g2) (off := 0) (v := .agg ⟨([Value.int .i64 (0 : Int)] ++ ([Value.int .i64 (0 : Int)] ++ ([Value.int .i64 (0 : Int)] ++ ([Value.int .u32 (0 : Int)] ++ en (Value.int .u8) (vrep 32 (0 : Int)).1))))⟩) (vs := ([Value.int .i64 (0 : Int)] ++ ([Value.int .i64 (0 : Int)] ++ ([Value.int .i64 (0 : Int)] ++ ([Value.int .u32 (0 : Int)] ++ en (Value.int .u8) (vrep 32 (0 : Int)).1))))) (cs := ([Value.int .i64 (IntKind.wrap .i64 t13.1)] ++ ([Value.int .i64 (IntKind.wrap .i64 t25.1)] ++ ([Value.int .i64 (IntKind.wrap .i64 t19.1)] ++ ([Value.int .u32 (IntKind.wrap .u32 t31.1)] ++ en (Value.int .u8) (vpad 32 0 t31.2).1))))) (ty := 25) 1 rfl rfl rfl (by kernel_rfl) (by kernel_rfl) (by kernel_rfl) (by exact rfl) (by kernel_rfl) (len_app (len1 _) (len_app (len1 _) (len_app (len1 _) (len_app (len1 _) (len_en _ (vrep 32 (0 : Int))))))) (one_app (one_cons rfl one_nil) (one_app (one_cons rfl one_nil) (one_app (one_cons rfl one_nil) (one_app (one_cons rfl one_nil) (one_en (fun _ => rfl) _))))) (hl_of (Sub4.all _) (len_eq (len_app (len1 _) (len_app (len1 _) (len_app (len1 _) (len_app (len1 _) (len_en _ (vrep 32 (0 : Int))))))) (len_app (len1 _) (len_app (len1 _) (len_app (len1 _) (len_app (len1 _) (len_en _ (vpad 32 0 t31.2)))))))) (cs' := ([Value.int .i64 (0 : Int)] ++ ([Value.int .i64 (0 : Int)] ++ ([Value.int .i64 (0 : Int)] ++ ([Value.int .u32 (0 : Int)] ++ en (Value.int .u8) (vrep 32 (0 : Int)).1))))) (splc_all (len_eq (len_app (len1 _) (len_app (len1 _) (len_app (len1 _) (len_app (len1 _) (len_en _ (vrep 32 (0 : Int))))))) (len_app (len1 _) (len_app (len1 _) (len_app (len1 _) (len_app (len1 _) (len_en _ (vpad 32 0 t31.2)))))))) ?_
        refine ls_val (v := .int .i64 (11 : Int)) rfl rfl (by kernel_rfl) (fun w => by kernel_rfl) ?_
        refine ls_end ?_
        refine qn_then ?_
        refine cs_ret' ?_
        refine qr_then ?_
        obtain rfl := Option.some.inj H
        refine qr_res (rs := [_, _]) rfl (fun w' hs => ⟨[.agg ⟨([Value.int .i64 (0 : Int)] ++ ([Value.int .i64 (0 : Int)] ++ ([Value.int .i64 (0 : Int)] ++ ([Value.int .u32 (0 : Int)] ++ en (Value.int .u8) (vrep 32 (0 : Int)).1))))⟩, .int .i64 (11 : Int)], (.cell (by kernel_rfl) (run_cellres (by kernel_rfl) (by kernel_rfl) (len_app (len1 _) (len_app (len1 _) (len_app (len1 _) (len_app (len1 _) (len_en _ (vrep 32 (0 : Int))))))) (hs.holds 1 _ (by exact rfl))) (res_tmp (by kernel_rfl) (.nil))), (), rfl, hs.pick (ts := []) (cs := []) trivial (by decide)⟩)

/-! ### shadowbox/label.Open$1: function 43 -/
def label_Open_1.f (k : Nat) (v0 : (List Int)) : Option (Int × (List Int)) :=
  (codec_Take.f k v0 (8 : Int)).bind fun t1 => some (IntKind.wrap .i64 t1.1, t1.2.1)
set_option maxRecDepth 100000 in
set_option maxHeartbeats 4000000 in
theorem label_Open_1.calls (k : Nat) (pg0 : Nat) (A0 : Option Addr) (c0 : Nat) (v0 : (List Int)) (r : Int × (List Int)) (b : Bs) (hs0 : St b (stl [Ck.var 26 pg0 ([Value.slice A0 v0.length c0])]) b.w) (R0 : Ro b A0 (em (Ec.int 5 .u8) v0)) (C0 : v0.length ≤ c0) (H : label_Open_1.f k v0 = some r) :
    Calls Try.prog 43 #[.pointer (some ⟨pg0, 0, none⟩)] b.w fun e w' => ∃ b', b.le b' ∧ ∃ x : (Option Addr × Nat), e = .returned (.int .i64 r.1) ∧ ((Ro b' x.1 (em (Ec.int 5 .u8) r.2) ∧ r.2.length ≤ x.2)) ∧ St b' (stl [Ck.var 26 pg0 ([Value.slice x.1 r.2.length x.2])]) w' := by
  unfold label_Open_1.f at H
  refine enterb (n := 14) Try.func43 rfl (by kernel_rfl) (by kernel_rfl) hs0 ?_
  refine cs_sub (sput s0 0 (some (Ck.var 26 pg0 ([Value.slice A0 v0.length c0])))) (sub_put (by exact rfl) (sub_nil _)) ?_
  refine cs_seq ?_
  refine cs_region (l := [_]) ?_
  refine ls_val (v := .int .i64 (0 : Int)) rfl rfl (by kernel_rfl) (fun w => by kernel_rfl) ?_
  refine ls_end ?_
  refine qn_then ?_
  refine cs_seq ?_
  refine cs_region (l := [_, _, _, _, _, _, _, _, _]) ?_
  refine ls_load (a0 := ⟨pg0, 0, none⟩) (v := .slice A0 v0.length c0) (de := (TypeDesc.slice 5)) rfl rfl (by kernel_rfl) rfl (by kernel_rfl) (by kernel_rfl) (by kernel_rfl) (fun w hs => (hs.var (k := 0) (by exact rfl) (Sub4.all _))) ?_
  obtain ⟨t1, hc2, H⟩ := bind_some H
  refine ls_callb (fid := 31) (vals := #[.slice A0 v0.length c0, .int .i64 (8 : Int)]) (X := (Option Addr × Nat)) (fun x => .tuple #[.int .u64 t1.1, .slice x.1 t1.2.1.length x.2, .bool t1.2.2]) (fun x => stl [Ck.sl (Ec.int 5 .u8) x.1 x.2 t1.2.1]) [] [] [] [] 1 rfl rfl (by kernel_rfl) (fun w => by kernel_rfl) trivial trivial (by decide) (fun w hs hb => codec_Take.calls k A0 c0 v0 (8 : Int) t1 (lent b w [] []) hb (hs.ro R0 _ _) C0 hc2) ?_
  intro x3
  refine ls_val (v := .tuple #[.int .u64 t1.1, .slice x3.1 t1.2.1.length x3.2, .bool t1.2.2]) rfl rfl (by kernel_rfl) (fun w => by kernel_rfl) ?_
  refine ls_val (v := .int .u64 t1.1) rfl rfl (by kernel_rfl) (fun w => by kernel_rfl) ?_
  refine ls_val (v := .slice x3.1 t1.2.1.length x3.2) rfl rfl (by kernel_rfl) (fun w => by kernel_rfl) ?_
  refine ls_val (v := .bool t1.2.2) rfl rfl (by kernel_rfl) (fun w => by kernel_rfl) ?_
  refine ls_val (v := .int .u64 t1.1) rfl rfl (by kernel_rfl) (fun w => by kernel_rfl) ?_
  refine ls_val (v := .slice x3.1 t1.2.1.length x3.2) rfl rfl (by kernel_rfl) (fun w => by kernel_rfl) ?_
  refine ls_val (v := .bool t1.2.2) rfl rfl (by kernel_rfl) (fun w => by kernel_rfl) ?_
  refine ls_end ?_
  refine qn_then ?_
  refine cs_seq ?_
  refine cs_region (l := [_, _]) ?_
  refine ls_val (v := .slice x3.1 t1.2.1.length x3.2) rfl rfl (by kernel_rfl) (fun w => by kernel_rfl) ?_
  refine ls_storec (g := pg0) (off := 0) (v := .slice x3.1 t1.2.1.length x3.2) (vs := [Value.slice x3.1 t1.2.1.length x3.2]) (cs := [Value.slice A0 v0.length c0]) (ty := 26) 0 rfl rfl rfl (by kernel_rfl) (by kernel_rfl) (by kernel_rfl) (by exact rfl) (by kernel_rfl) (len1 _) (one_cons rfl one_nil) (hl_of (Sub4.all _) (len_eq (len1 _) (len1 _))) (cs' := [Value.slice x3.1 t1.2.1.length x3.2]) (splc_all (len_eq (len1 _) (len1 _))) ?_
  refine ls_end ?_
  refine qn_then ?_
  refine cs_seq ?_
  refine cs_region (l := [_, _, _]) ?_
  refine ls_val (v := .int .u64 t1.1) rfl rfl (by kernel_rfl) (fun w => by kernel_rfl) ?_
  refine ls_val (v := .int .i64 (IntKind.wrap .i64 t1.1)) rfl rfl (by kernel_rfl) (fun w => by kernel_rfl) ?_
  refine ls_val (v := .int .i64 (IntKind.wrap .i64 t1.1)) rfl rfl (by kernel_rfl) (fun w => by kernel_rfl) ?_
  refine ls_end ?_
  refine qn_then ?_
  refine cs_ret' ?_
  refine qr_freeze (T := (Ec.int 5 .u8)) (A := x3.1) (c := x3.2) (l := t1.2.1) 1 (by exact rfl) ?_
  intro bs4 hle5 hok6 fR7 fC8
  obtain rfl := Option.some.inj H
  refine qr_res (rs := [_]) rfl (fun w' hs => ⟨[.int .i64 (IntKind.wrap .i64 t1.1)], (res_tmp (by kernel_rfl) (.nil)), bs4, hle5, (x3.1, x3.2), rfl, ⟨fR7, fC8⟩, hs.pick (ts := [0]) (cs := [Ck.var 26 pg0 ([Value.slice x3.1 t1.2.1.length x3.2])]) ⟨by exact rfl, trivial⟩ (by decide)⟩)

end Go.Proofs.Ytnjijflgafghmaa.G
