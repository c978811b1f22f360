/- Printed by a program of this session (sz.py): plain functions, and walks that show that the code comes to them; no condition. -/
import Derived.Test.YtnkcadofhhcfaaaProg
import Derived.Test.YtnkcadofhhcfaaaTy
import Derived.Test.YtnkcadofhhcfaaaG0
set_option linter.unusedVariables false
set_option linter.unusedSimpArgs false
namespace Go.Proofs.Ytnkcadofhhcfaaa.G
open Go Go.RowKit Go.Proofs.Ytnkcadofhhcfaaa.Sx

/-! ### shadowbox/shadowboxlaw17.least: function 21 -/
def shadowboxlaw17_least.tab0 : List (List Nat) := [[], [0], [0, 1], [], [3], [3, 4], [], [0, 1, 2, 6], [0, 1, 2, 3, 4, 5, 6, 7]]
def shadowboxlaw17_least.lo3 (l0 : List Int) (a1 : Int) (x6_1 : Int) (x7_1 : Int) (x8_1 : Int) (lo1 : Int → Int → Int → Option (Int × Int)) : Nat → Int → Int → Int → Int → Option (Int × Int)
  | 0, _, _, _, _ => none
  | k3 + 1, x9_3, x10_3, x11_3, x12_3 => (if x12_3 < (l0.length : Int) then lt (IntKind.wrap .u64 (IntKind.wrap .i64 (x12_3 - (1 : Int)))) fun y9 => (if 0 ≤ y9 then lt (bits .and .i64 (shrv .i64 x8_1 y9) (1 : Int)) fun y12 => (if y12 = (1 : Int) then (if 0 ≤ x12_3 then lt (IntKind.wrap .i64 ((0 : Int) + ((l0).getD (x12_3).toNat (0 : Int)))) fun y18 => (shadowboxlaw17_least.lo3 l0 a1 x6_1 x7_1 x8_1 lo1 k3) (IntKind.wrap .i64 (x9_3 + (1 : Int))) y18 (if x11_3 < y18 then y18 else x11_3) (IntKind.wrap .i64 (x12_3 + (1 : Int))) else none) else (if 0 ≤ x12_3 then lt (IntKind.wrap .i64 (x10_3 + ((l0).getD (x12_3).toNat (0 : Int)))) fun y23 => (shadowboxlaw17_least.lo3 l0 a1 x6_1 x7_1 x8_1 lo1 k3) x9_3 y23 (if x11_3 < y23 then y23 else x11_3) (IntKind.wrap .i64 (x12_3 + (1 : Int))) else none)) else none) else (if x11_3 ≤ a1 then (if x9_3 < x6_1 then lo1 x9_3 x11_3 (IntKind.wrap .i64 (x8_1 + (1 : Int))) else (if x9_3 = x6_1 then (if x11_3 < x7_1 then lo1 x9_3 x11_3 (IntKind.wrap .i64 (x8_1 + (1 : Int))) else lo1 x6_1 x7_1 (IntKind.wrap .i64 (x8_1 + (1 : Int)))) else lo1 x6_1 x7_1 (IntKind.wrap .i64 (x8_1 + (1 : Int))))) else lo1 x6_1 x7_1 (IntKind.wrap .i64 (x8_1 + (1 : Int)))))
def shadowboxlaw17_least.jo2 (l0 : List Int) (a1 : Int) (x6_1 : Int) (x7_1 : Int) (x8_1 : Int) (k1 : Nat) (lo1 : Int → Int → Int → Option (Int × Int)) : Option (Int × Int) := (if (0 : Int) < (l0.length : Int) then shadowboxlaw17_least.lo3 l0 a1 x6_1 x7_1 x8_1 lo1 k1 (1 : Int) ((l0).getD ((0 : Int)).toNat (0 : Int)) ((l0).getD ((0 : Int)).toNat (0 : Int)) (1 : Int) else none)
def shadowboxlaw17_least.lo1 (l0 : List Int) (a1 : Int) : Nat → Int → Int → Int → Option (Int × Int)
  | 0, _, _, _ => none
  | k1 + 1, x6_1, x7_1, x8_1 => lt (IntKind.wrap .i64 ((l0.length : Int) - (1 : Int))) fun y29 => (if 0 ≤ IntKind.wrap .u64 y29 then lt (shlv .i64 (1 : Int) (IntKind.wrap .u64 y29)) fun y32 => (if x8_1 < y32 then (shadowboxlaw17_least.jo2 l0 a1 x6_1 x7_1 x8_1 k1 (shadowboxlaw17_least.lo1 l0 a1 k1)) else some (x6_1, x7_1)) else none)
def shadowboxlaw17_least.f (k : Nat) (l0 : List Int) (a1 : Int) : Option (Int × Int) :=
  shadowboxlaw17_least.lo1 l0 a1 k (99 : Int) (0 : Int) (0 : Int)
set_option maxRecDepth 100000 in
set_option maxHeartbeats 4000000 in
theorem shadowboxlaw17_least.calls (k : Nat) (A0 : Option Addr) (c0 : Nat) (l0 : List Int) (a1 : Int) (r : Int × Int) (b : Bs) (hs0 : St b (stl []) b.w) (R0 : Ro b A0 (em (Ec.int 3 .i64) l0)) (C0 : l0.length ≤ c0) (H : shadowboxlaw17_least.f k l0 a1 = some r) :
    Calls Try.prog 21 #[.slice A0 l0.length c0, .int .i64 a1] b.w fun e w' => ∃ x : Unit, e = .returned (.tuple #[.int .i64 r.1, .int .i64 r.2]) ∧ St b (stl []) w' := by
  unfold shadowboxlaw17_least.f at H
  refine enterb (n := 74) Try.func21 rfl (by kernel_rfl) (by kernel_rfl) hs0 ?_
  refine cs_sub (s0) (sub_nil _) ?_
  refine cs_seq ?_
  refine cs_region (l := [_, _]) ?_
  refine ls_val (v := .int .i64 (0 : Int)) rfl rfl (by kernel_rfl) (fun w => by kernel_rfl) ?_
  refine ls_val (v := .int .i64 (0 : Int)) rfl rfl (by kernel_rfl) (fun w => by kernel_rfl) ?_
  refine ls_end ?_
  refine qn_then ?_
  refine cs_seq ?_
  refine cs_region (l := [_, _]) ?_
  refine ls_val (v := .int .i64 (99 : Int)) rfl rfl (by kernel_rfl) (fun w => by kernel_rfl) ?_
  refine ls_val (v := .int .i64 (0 : Int)) rfl rfl (by kernel_rfl) (fun w => by kernel_rfl) ?_
  refine ls_end ?_
  refine qn_then ?_
  refine cs_seq ?_
  refine cs_seq ?_
  refine cs_region (l := [_]) ?_
  refine ls_val (v := .int .i64 (0 : Int)) rfl rfl (by kernel_rfl) (fun w => by kernel_rfl) ?_
  refine ls_end ?_
  refine qn_then ?_
  refine cs_block ?_
  refine cs_sub (s0) (sub_nil _) ?_
  refine cs_loop (fun kk f S => ∃ (fR : Fr) (x6_1 : Int) (x7_1 : Int) (x8_1 : Int), f = upd (upd (upd (upd (upd fR 0 (.slice A0 l0.length c0)) 1 (.int .i64 a1)) 6 (.int .i64 x6_1)) 7 (.int .i64 x7_1)) 8 (.int .i64 x8_1) ∧ S = s0 ∧ shadowboxlaw17_least.lo1 l0 a1 kk x6_1 x7_1 x8_1 = some r) k ?_ ?_ ?_
  · exact ⟨_, (99 : Int), (0 : Int), (0 : Int), fr_next (fr_next (fr_next (fr_next (fr_next (rfl) (by kernel_rfl)) (by kernel_rfl)) (by kernel_rfl)) (by kernel_rfl)) (by kernel_rfl), rfl, H⟩
  · rintro f S ⟨fr1, x6_1, x7_1, x8_1, rfl, rfl, H⟩; cases H
  · rintro k1 f S ⟨fr1, x6_1, x7_1, x8_1, rfl, rfl, H⟩
    replace H : (lt (IntKind.wrap .i64 ((l0.length : Int) - (1 : Int))) fun y29 => (if 0 ≤ IntKind.wrap .u64 y29 then lt (shlv .i64 (1 : Int) (IntKind.wrap .u64 y29)) fun y32 => (if x8_1 < y32 then (shadowboxlaw17_least.jo2 l0 a1 x6_1 x7_1 x8_1 k1 (shadowboxlaw17_least.lo1 l0 a1 k1)) else some (x6_1, x7_1)) else none)) = some r := H
    refine cs_cut (fun f S => ∃ (fR : Fr), f = upd (upd (upd (upd (upd fR 0 (.slice A0 l0.length c0)) 1 (.int .i64 a1)) 6 (.int .i64 x6_1)) 7 (.int .i64 x7_1)) 8 (.int .i64 x8_1) ∧ S = s0 ∧ shadowboxlaw17_least.jo2 l0 a1 x6_1 x7_1 x8_1 k1 (shadowboxlaw17_least.lo1 l0 a1 k1) = some r) ?_ ?_
    · skip
      refine cs_seq ?_
      refine cs_region (l := [_, _, _, _, _, _, _]) ?_
      refine ls_val (v := .int .i64 x8_1) rfl rfl (by kernel_rfl) (fun w => by kernel_rfl) ?_
      refine ls_val (v := .slice A0 l0.length c0) rfl rfl (by kernel_rfl) (fun w => by kernel_rfl) ?_
      refine ls_val (v := .int .i64 (l0.length : Int)) rfl rfl (by kernel_rfl) (fun w => by kernel_rfl) ?_
      obtain ⟨y29, hy30, H⟩ := lt_some H
      refine ls_val (v := .int .i64 (IntKind.wrap .i64 ((l0.length : Int) - (1 : Int)))) rfl rfl (by kernel_rfl) (fun w => by kernel_rfl) ?_
      refine ls_ren 16 (v := .int .i64 (IntKind.wrap .i64 ((l0.length : Int) - (1 : Int)))) (v' := .int .i64 y29) (by kernel_rfl) (by rw [hy30]) ?_
      refine ls_val (v := .int .u64 (IntKind.wrap .u64 y29)) rfl rfl (by kernel_rfl) (fun w => by kernel_rfl) ?_
      obtain ⟨q31, H⟩ := ite_need H
      obtain ⟨y32, hy33, H⟩ := lt_some H
      refine ls_shiftl (k := .i64) (yk := .u64) (x := (1 : Int)) (y := (IntKind.wrap .u64 y29)) rfl rfl (by kernel_rfl) (fun w => by kernel_rfl) q31 ?_
      refine ls_ren 18 (v := .int .i64 (shlv .i64 (1 : Int) (IntKind.wrap .u64 y29))) (v' := .int .i64 y32) (by kernel_rfl) (by rw [hy33]) ?_
      refine ls_val (v := .bool (decide (x8_1 < y32))) rfl rfl (by kernel_rfl) (fun w => by kernel_rfl) ?_
      refine ls_end ?_
      refine qn_then ?_
      by_cases q34 : x8_1 < y32
      · replace H := ite_t q34 H
        refine cs_know (c := true) (dec_t q34) 19 (by kernel_rfl) ?_
        refine cs_true (by kernel_rfl) ?_
        refine cs_skip' ?_
        refine qn_meet (s0) ⟨_, fr_next (fr_next (fr_next (fr_next (fr_next (rfl) (by kernel_rfl)) (by kernel_rfl)) (by kernel_rfl)) (by kernel_rfl)) (by kernel_rfl), rfl, H⟩ (sub_nil _)
      · replace H := ite_f q34 H
        refine cs_know (c := false) (dec_f q34) 19 (by kernel_rfl) ?_
        refine cs_false (by kernel_rfl) ?_
        refine cs_exit' ?_
        refine qx_then ?_
        refine qx_then ?_
        refine qx_same ?_
        refine qn_then ?_
        refine cs_seq ?_
        refine cs_region (l := [_, _, _, _]) ?_
        refine ls_val (v := .int .i64 x6_1) rfl rfl (by kernel_rfl) (fun w => by kernel_rfl) ?_
        refine ls_val (v := .int .i64 x7_1) rfl rfl (by kernel_rfl) (fun w => by kernel_rfl) ?_
        refine ls_val (v := .int .i64 x6_1) rfl rfl (by kernel_rfl) (fun w => by kernel_rfl) ?_
        refine ls_val (v := .int .i64 x7_1) rfl rfl (by kernel_rfl) (fun w => by kernel_rfl) ?_
        refine ls_end ?_
        refine qn_then ?_
        refine cs_ret' ?_
        obtain rfl := Option.some.inj H
        refine qr_res (rs := [_, _]) rfl (fun w' hs => ⟨[.int .i64 x6_1, .int .i64 x7_1], (res_tmp (by kernel_rfl) (res_tmp (by kernel_rfl) (.nil))), (), rfl, hs.pick (ts := []) (cs := []) trivial (by decide)⟩)
    · rintro f S ⟨fr2, rfl, rfl, H⟩
      replace H : ((if (0 : Int) < (l0.length : Int) then shadowboxlaw17_least.lo3 l0 a1 x6_1 x7_1 x8_1 (shadowboxlaw17_least.lo1 l0 a1 k1) k1 (1 : Int) ((l0).getD ((0 : Int)).toNat (0 : Int)) ((l0).getD ((0 : Int)).toNat (0 : Int)) (1 : Int) else none)) = some r := H
      refine cs_seq ?_
      refine cs_block ?_
      refine cs_seq ?_
      obtain ⟨s2_0, hs2_0⟩ : ∃ z : Value → Sto → Prop, z = (fun v R => v = .slice A0 l0.length c0 ∧ R = s0) := ⟨_, rfl⟩
      refine have_op (l := [_, _, _, _, _, _, _, _, _]) shadowboxlaw17_least.tab0 0 0 (fun sp => sp 0 = s2_0) (fun sp on hA hon => ?_) (fun ops2_0 => ?_)
      · refine ⟨fun o ho vs Rs f' S' w hp hf hx hS hR hs => ?_⟩
        obtain rfl := Option.some.inj ho
        rw [hA, hs2_0]
        refine And.intro (fun a ha => (want_none rfl a ha).trans hon.symm) (And.intro (fun _ => ?_) (fun h => by rw [hon] at h; cases h))
        have hF := fr_next (rfl) ((hx 0 (by kernel_rfl)).trans (by kernel_rfl : (_ : Value) = .slice A0 l0.length c0))
        refine ls_fr hF ?_
        refine ls_val (v := .slice A0 l0.length c0) rfl rfl (by kernel_rfl) (fun w => by kernel_rfl) ?_
        exact ls_fin s0 (.slice A0 l0.length c0) (congrArg (fun z => upd z 22 _) hF.symm) ⟨rfl, rfl⟩ (sub_nil _)
      obtain ⟨q3, H⟩ := ite_need H
      obtain ⟨ad4, hA5⟩ := ido_at (T := (Ec.int 3 .i64)) (l := l0) (i := (0 : Int)) R0 (by decide) q3
      obtain ⟨s2_1, hs2_1⟩ : ∃ z : Value → Sto → Prop, z = (fun v R => v = .pointer (some (ad4.add (((0 : Int)).toNat * 1))) ∧ R = s0) := ⟨_, rfl⟩
      refine have_op (l := [_, _, _, _, _, _, _, _, _]) shadowboxlaw17_least.tab0 0 1 (fun sp => sp 1 = s2_1 ∧ sp 0 = s2_0) (fun sp on hA hon => ?_) (fun ops2_1 => ?_)
      · refine ⟨fun o ho vs Rs f' S' w hp hf hx hS hR hs => ?_⟩
        obtain rfl := Option.some.inj ho
        obtain ⟨hv0, hR0⟩ := (spe hA.2 hs2_0 (hp 0 (by kernel_rfl)))
        rw [hA.1, hs2_1]
        refine And.intro (fun a ha => (want_none rfl a ha).trans hon.symm) (And.intro (fun _ => ?_) (fun h => by rw [hon] at h; cases h))
        have hF := fr_next (rfl) ((hf 0 22 (by kernel_rfl) rfl).trans hv0)
        refine ls_fr hF ?_
        refine ls_idxv (Ec.int 3 .i64) (A := A0) (c := c0) (l := l0) (k := .i64) (i := (0 : Int)) (z := 1) (ad := ad4) rfl rfl (by kernel_rfl) hA5 rfl (by kernel_rfl) (by kernel_rfl) (by kernel_rfl) (by kernel_rfl) (by decide) q3 ?_
        exact ls_fin s0 (.pointer (some (ad4.add (((0 : Int)).toNat * 1)))) (congrArg (fun z => upd z 23 _) hF.symm) ⟨rfl, rfl⟩ (sub_nil _)
      obtain ⟨s2_2, hs2_2⟩ : ∃ z : Value → Sto → Prop, z = (fun v R => v = .int .i64 ((l0).getD ((0 : Int)).toNat (0 : Int)) ∧ R = s0) := ⟨_, rfl⟩
      refine have_op (l := [_, _, _, _, _, _, _, _, _]) shadowboxlaw17_least.tab0 0 2 (fun sp => sp 2 = s2_2 ∧ sp 1 = s2_1) (fun sp on hA hon => ?_) (fun ops2_2 => ?_)
      · refine ⟨fun o ho vs Rs f' S' w hp hf hx hS hR hs => ?_⟩
        obtain rfl := Option.some.inj ho
        obtain ⟨hv1, hR1⟩ := (spe hA.2 hs2_1 (hp 1 (by kernel_rfl)))
        rw [hA.1, hs2_2]
        refine And.intro (fun a ha => (want_none rfl a ha).trans hon.symm) (And.intro (fun _ => ?_) (fun h => by rw [hon] at h; cases h))
        have hF := fr_next (rfl) ((hf 1 23 (by kernel_rfl) rfl).trans hv1)
        refine ls_fr hF ?_
        refine ls_load (a0 := (ad4.add (((0 : Int)).toNat * 1))) (v := .int .i64 ((l0).getD ((0 : Int)).toNat (0 : Int))) (de := (TypeDesc.int .i64)) rfl rfl (by kernel_rfl) rfl (by kernel_rfl) (by kernel_rfl) (by kernel_rfl) (fun w1 hs1 => (Rd.step (hs.old R0) hs1.below.bw).at hA5 (em_sub (Ec.int 3 .i64) l0 (i := ((0 : Int)).toNat) (by have h0 : (0 : Int) ≤ (0 : Int) := (by decide); have h1 : (0 : Int) < (l0.length : Int) := q3; omega))) ?_
        exact ls_fin s0 (.int .i64 ((l0).getD ((0 : Int)).toNat (0 : Int))) (congrArg (fun z => upd z 24 _) hF.symm) ⟨rfl, rfl⟩ (sub_nil _)
      obtain ⟨s2_3, hs2_3⟩ : ∃ z : Value → Sto → Prop, z = (fun v R => v = .slice A0 l0.length c0 ∧ R = s0) := ⟨_, rfl⟩
      refine have_op (l := [_, _, _, _, _, _, _, _, _]) shadowboxlaw17_least.tab0 0 3 (fun sp => sp 3 = s2_3) (fun sp on hA hon => ?_) (fun ops2_3 => ?_)
      · refine ⟨fun o ho vs Rs f' S' w hp hf hx hS hR hs => ?_⟩
        obtain rfl := Option.some.inj ho
        rw [hA, hs2_3]
        refine And.intro (fun a ha => (want_none rfl a ha).trans hon.symm) (And.intro (fun _ => ?_) (fun h => by rw [hon] at h; cases h))
        have hF := fr_next (rfl) ((hx 0 (by kernel_rfl)).trans (by kernel_rfl : (_ : Value) = .slice A0 l0.length c0))
        refine ls_fr hF ?_
        refine ls_val (v := .slice A0 l0.length c0) rfl rfl (by kernel_rfl) (fun w => by kernel_rfl) ?_
        exact ls_fin s0 (.slice A0 l0.length c0) (congrArg (fun z => upd z 25 _) hF.symm) ⟨rfl, rfl⟩ (sub_nil _)
      obtain ⟨ad6, hA7⟩ := ido_at (T := (Ec.int 3 .i64)) (l := l0) (i := (0 : Int)) R0 (by decide) q3
      obtain ⟨s2_4, hs2_4⟩ : ∃ z : Value → Sto → Prop, z = (fun v R => v = .pointer (some (ad6.add (((0 : Int)).toNat * 1))) ∧ R = s0) := ⟨_, rfl⟩
      refine have_op (l := [_, _, _, _, _, _, _, _, _]) shadowboxlaw17_least.tab0 0 4 (fun sp => sp 4 = s2_4 ∧ sp 3 = s2_3) (fun sp on hA hon => ?_) (fun ops2_4 => ?_)
      · refine ⟨fun o ho vs Rs f' S' w hp hf hx hS hR hs => ?_⟩
        obtain rfl := Option.some.inj ho
        obtain ⟨hv3, hR3⟩ := (spe hA.2 hs2_3 (hp 3 (by kernel_rfl)))
        rw [hA.1, hs2_4]
        refine And.intro (fun a ha => (want_none rfl a ha).trans hon.symm) (And.intro (fun _ => ?_) (fun h => by rw [hon] at h; cases h))
        have hF := fr_next (rfl) ((hf 3 25 (by kernel_rfl) rfl).trans hv3)
        refine ls_fr hF ?_
        refine ls_idxv (Ec.int 3 .i64) (A := A0) (c := c0) (l := l0) (k := .i64) (i := (0 : Int)) (z := 1) (ad := ad6) rfl rfl (by kernel_rfl) hA7 rfl (by kernel_rfl) (by kernel_rfl) (by kernel_rfl) (by kernel_rfl) (by decide) q3 ?_
        exact ls_fin s0 (.pointer (some (ad6.add (((0 : Int)).toNat * 1)))) (congrArg (fun z => upd z 26 _) hF.symm) ⟨rfl, rfl⟩ (sub_nil _)
      obtain ⟨s2_5, hs2_5⟩ : ∃ z : Value → Sto → Prop, z = (fun v R => v = .int .i64 ((l0).getD ((0 : Int)).toNat (0 : Int)) ∧ R = s0) := ⟨_, rfl⟩
      refine have_op (l := [_, _, _, _, _, _, _, _, _]) shadowboxlaw17_least.tab0 0 5 (fun sp => sp 5 = s2_5 ∧ sp 4 = s2_4) (fun sp on hA hon => ?_) (fun ops2_5 => ?_)
      · refine ⟨fun o ho vs Rs f' S' w hp hf hx hS hR hs => ?_⟩
        obtain rfl := Option.some.inj ho
        obtain ⟨hv4, hR4⟩ := (spe hA.2 hs2_4 (hp 4 (by kernel_rfl)))
        rw [hA.1, hs2_5]
        refine And.intro (fun a ha => (want_none rfl a ha).trans hon.symm) (And.intro (fun _ => ?_) (fun h => by rw [hon] at h; cases h))
        have hF := fr_next (rfl) ((hf 4 26 (by kernel_rfl) rfl).trans hv4)
        refine ls_fr hF ?_
        refine ls_load (a0 := (ad6.add (((0 : Int)).toNat * 1))) (v := .int .i64 ((l0).getD ((0 : Int)).toNat (0 : Int))) (de := (TypeDesc.int .i64)) rfl rfl (by kernel_rfl) rfl (by kernel_rfl) (by kernel_rfl) (by kernel_rfl) (fun w1 hs1 => (Rd.step (hs.old R0) hs1.below.bw).at hA7 (em_sub (Ec.int 3 .i64) l0 (i := ((0 : Int)).toNat) (by have h0 : (0 : Int) ≤ (0 : Int) := (by decide); have h1 : (0 : Int) < (l0.length : Int) := q3; omega))) ?_
        exact ls_fin s0 (.int .i64 ((l0).getD ((0 : Int)).toNat (0 : Int))) (congrArg (fun z => upd z 27 _) hF.symm) ⟨rfl, rfl⟩ (sub_nil _)
      obtain ⟨s2_6, hs2_6⟩ : ∃ z : Value → Sto → Prop, z = (fun v R => v = .int .i64 (1 : Int) ∧ R = s0) := ⟨_, rfl⟩
      refine have_op (l := [_, _, _, _, _, _, _, _, _]) shadowboxlaw17_least.tab0 0 6 (fun sp => sp 6 = s2_6) (fun sp on hA hon => ?_) (fun ops2_6 => ?_)
      · refine ⟨fun o ho vs Rs f' S' w hp hf hx hS hR hs => ?_⟩
        obtain rfl := Option.some.inj ho
        rw [hA, hs2_6]
        refine And.intro (fun a ha => (want_none rfl a ha).trans hon.symm) (And.intro (fun _ => ?_) (fun h => by rw [hon] at h; cases h))
        have hF : f' = f' := rfl
        refine ls_val (v := .int .i64 (1 : Int)) rfl rfl (by kernel_rfl) (fun w => by kernel_rfl) ?_
        exact ls_fin s0 (.int .i64 (1 : Int)) (congrArg (fun z => upd z 9 _) hF.symm) ⟨rfl, rfl⟩ (sub_nil _)
      obtain ⟨s2_7, hs2_7⟩ : ∃ z : Value → Sto → Prop, z = (fun v R => v = .int .i64 ((l0).getD ((0 : Int)).toNat (0 : Int)) ∧ R = s0) := ⟨_, rfl⟩
      refine have_op (l := [_, _, _, _, _, _, _, _, _]) shadowboxlaw17_least.tab0 0 7 (fun sp => sp 7 = s2_7 ∧ sp 2 = s2_2) (fun sp on hA hon => ?_) (fun ops2_7 => ?_)
      · refine ⟨fun o ho vs Rs f' S' w hp hf hx hS hR hs => ?_⟩
        obtain rfl := Option.some.inj ho
        obtain ⟨hv2, hR2⟩ := (spe hA.2 hs2_2 (hp 2 (by kernel_rfl)))
        rw [hA.1, hs2_7]
        refine And.intro (fun a ha => (want_none rfl a ha).trans hon.symm) (And.intro (fun _ => ?_) (fun h => by rw [hon] at h; cases h))
        have hF := fr_next (rfl) ((hf 2 24 (by kernel_rfl) rfl).trans hv2)
        refine ls_fr hF ?_
        refine ls_val (v := .int .i64 ((l0).getD ((0 : Int)).toNat (0 : Int))) rfl rfl (by kernel_rfl) (fun w => by kernel_rfl) ?_
        exact ls_fin s0 (.int .i64 ((l0).getD ((0 : Int)).toNat (0 : Int))) (congrArg (fun z => upd z 10 _) hF.symm) ⟨rfl, rfl⟩ (sub_nil _)
      refine cs_draw shadowboxlaw17_least.tab0 8 0 (spl [s2_0, s2_1, s2_2, s2_3, s2_4, s2_5, s2_6, s2_7]) (onl [true, true, true, true, true, true, true, true]) (by kernel_rfl) (by kernel_rfl) (by kernel_rfl) (by kernel_rfl) (rs := [_]) rfl (by kernel_rfl) (by kernel_rfl) (all_snoc (all_snoc (all_snoc (all_snoc (all_snoc (all_snoc (all_snoc (all_snoc (all_nil) (ops2_0 _ _ rfl rfl)) (ops2_1 _ _ ⟨rfl, rfl⟩ rfl)) (ops2_2 _ _ ⟨rfl, rfl⟩ rfl)) (ops2_3 _ _ rfl rfl)) (ops2_4 _ _ ⟨rfl, rfl⟩ rfl)) (ops2_5 _ _ ⟨rfl, rfl⟩ rfl)) (ops2_6 _ _ rfl rfl)) (ops2_7 _ _ ⟨rfl, rfl⟩ rfl)) ?_
      intro vs Rs f' S' hp hf hx hS hR
      obtain ⟨hv5, hR5⟩ := (spe rfl hs2_5 (hp 5 (by kernel_rfl)))
      obtain ⟨hv6, hR6⟩ := (spe rfl hs2_6 (hp 6 (by kernel_rfl)))
      obtain ⟨hv7, hR7⟩ := (spe rfl hs2_7 (hp 7 (by kernel_rfl)))
      refine ls_fr (F := upd (upd (upd (upd (upd (upd (upd (upd f' 0 (.slice A0 l0.length c0)) 1 (.int .i64 a1)) 6 (.int .i64 x6_1)) 7 (.int .i64 x7_1)) 8 (.int .i64 x8_1)) 9 (.int .i64 (1 : Int))) 10 (.int .i64 ((l0).getD ((0 : Int)).toNat (0 : Int)))) 27 (.int .i64 ((l0).getD ((0 : Int)).toNat (0 : Int)))) (fr_next (fr_next (fr_next (fr_next (fr_next (fr_next (fr_next (fr_next (rfl) ((hx 0 (by kernel_rfl)).trans (by kernel_rfl : (_ : Value) = .slice A0 l0.length c0))) ((hx 1 (by kernel_rfl)).trans (by kernel_rfl : (_ : Value) = .int .i64 a1))) ((hx 6 (by kernel_rfl)).trans (by kernel_rfl : (_ : Value) = .int .i64 x6_1))) ((hx 7 (by kernel_rfl)).trans (by kernel_rfl : (_ : Value) = .int .i64 x7_1))) ((hx 8 (by kernel_rfl)).trans (by kernel_rfl : (_ : Value) = .int .i64 x8_1))) ((hf 6 9 (by kernel_rfl) rfl).trans hv6)) ((hf 7 10 (by kernel_rfl) rfl).trans hv7)) ((hf 5 27 (by kernel_rfl) rfl).trans hv5)) ?_
      refine ls_sub (s0) (sub_nil _) ?_
      refine ls_val (v := .int .i64 ((l0).getD ((0 : Int)).toNat (0 : Int))) rfl rfl (by kernel_rfl) (fun w => by kernel_rfl) ?_
      refine ls_end ?_
      refine qn_then ?_
      refine cs_seq ?_
      refine cs_seq ?_
      refine cs_region (l := [_]) ?_
      refine ls_val (v := .int .i64 (1 : Int)) rfl rfl (by kernel_rfl) (fun w => by kernel_rfl) ?_
      refine ls_end ?_
      refine qn_then ?_
      refine cs_block ?_
      refine cs_sub (s0) (sub_nil _) ?_
      refine cs_loop (fun kk f S => ∃ (fR : Fr) (x9_3 : Int) (x10_3 : Int) (x11_3 : Int) (x12_3 : Int), f = upd (upd (upd (upd (upd (upd (upd (upd (upd fR 0 (.slice A0 l0.length c0)) 1 (.int .i64 a1)) 6 (.int .i64 x6_1)) 7 (.int .i64 x7_1)) 8 (.int .i64 x8_1)) 9 (.int .i64 x9_3)) 10 (.int .i64 x10_3)) 11 (.int .i64 x11_3)) 12 (.int .i64 x12_3) ∧ S = s0 ∧ shadowboxlaw17_least.lo3 l0 a1 x6_1 x7_1 x8_1 (shadowboxlaw17_least.lo1 l0 a1 k1) kk x9_3 x10_3 x11_3 x12_3 = some r) k1 ?_ ?_ ?_
      · exact ⟨_, (1 : Int), ((l0).getD ((0 : Int)).toNat (0 : Int)), ((l0).getD ((0 : Int)).toNat (0 : Int)), (1 : Int), fr_next (fr_next (fr_next (fr_next (fr_next (fr_next (fr_next (fr_next (fr_next (rfl) (by kernel_rfl)) (by kernel_rfl)) (by kernel_rfl)) (by kernel_rfl)) (by kernel_rfl)) (by kernel_rfl)) (by kernel_rfl)) (by kernel_rfl)) (by kernel_rfl), rfl, H⟩
      · rintro f S ⟨fr3, x9_3, x10_3, x11_3, x12_3, rfl, rfl, H⟩; cases H
      · rintro k3 f S ⟨fr3, x9_3, x10_3, x11_3, x12_3, rfl, rfl, H⟩
        replace H : ((if x12_3 < (l0.length : Int) then lt (IntKind.wrap .u64 (IntKind.wrap .i64 (x12_3 - (1 : Int)))) fun y9 => (if 0 ≤ y9 then lt (bits .and .i64 (shrv .i64 x8_1 y9) (1 : Int)) fun y12 => (if y12 = (1 : Int) then (if 0 ≤ x12_3 then lt (IntKind.wrap .i64 ((0 : Int) + ((l0).getD (x12_3).toNat (0 : Int)))) fun y18 => (shadowboxlaw17_least.lo3 l0 a1 x6_1 x7_1 x8_1 (shadowboxlaw17_least.lo1 l0 a1 k1) k3) (IntKind.wrap .i64 (x9_3 + (1 : Int))) y18 (if x11_3 < y18 then y18 else x11_3) (IntKind.wrap .i64 (x12_3 + (1 : Int))) else none) else (if 0 ≤ x12_3 then lt (IntKind.wrap .i64 (x10_3 + ((l0).getD (x12_3).toNat (0 : Int)))) fun y23 => (shadowboxlaw17_least.lo3 l0 a1 x6_1 x7_1 x8_1 (shadowboxlaw17_least.lo1 l0 a1 k1) k3) x9_3 y23 (if x11_3 < y23 then y23 else x11_3) (IntKind.wrap .i64 (x12_3 + (1 : Int))) else none)) else none) else (if x11_3 ≤ a1 then (if x9_3 < x6_1 then (shadowboxlaw17_least.lo1 l0 a1 k1) x9_3 x11_3 (IntKind.wrap .i64 (x8_1 + (1 : Int))) else (if x9_3 = x6_1 then (if x11_3 < x7_1 then (shadowboxlaw17_least.lo1 l0 a1 k1) x9_3 x11_3 (IntKind.wrap .i64 (x8_1 + (1 : Int))) else (shadowboxlaw17_least.lo1 l0 a1 k1) x6_1 x7_1 (IntKind.wrap .i64 (x8_1 + (1 : Int)))) else (shadowboxlaw17_least.lo1 l0 a1 k1) x6_1 x7_1 (IntKind.wrap .i64 (x8_1 + (1 : Int))))) else (shadowboxlaw17_least.lo1 l0 a1 k1) x6_1 x7_1 (IntKind.wrap .i64 (x8_1 + (1 : Int)))))) = some r := H
        refine cs_seq ?_
        refine cs_seq ?_
        refine cs_region (l := [_, _, _, _]) ?_
        refine ls_val (v := .int .i64 x12_3) rfl rfl (by kernel_rfl) (fun w => by kernel_rfl) ?_
        refine ls_val (v := .slice A0 l0.length c0) rfl rfl (by kernel_rfl) (fun w => by kernel_rfl) ?_
        refine ls_val (v := .int .i64 (l0.length : Int)) rfl rfl (by kernel_rfl) (fun w => by kernel_rfl) ?_
        refine ls_val (v := .bool (decide (x12_3 < (l0.length : Int)))) rfl rfl (by kernel_rfl) (fun w => by kernel_rfl) ?_
        refine ls_end ?_
        refine qn_then ?_
        by_cases q8 : x12_3 < (l0.length : Int)
        · replace H := ite_t q8 H
          refine cs_know (c := true) (dec_t q8) 31 (by kernel_rfl) ?_
          refine cs_true (by kernel_rfl) ?_
          refine cs_skip' ?_
          refine qn_then ?_
          refine cs_seq ?_
          refine cs_block ?_
          refine cs_seq ?_
          refine cs_seq ?_
          refine cs_region (l := [_, _, _, _, _, _, _]) ?_
          refine ls_val (v := .int .i64 x8_1) rfl rfl (by kernel_rfl) (fun w => by kernel_rfl) ?_
          refine ls_val (v := .int .i64 x12_3) rfl rfl (by kernel_rfl) (fun w => by kernel_rfl) ?_
          refine ls_val (v := .int .i64 (IntKind.wrap .i64 (x12_3 - (1 : Int)))) rfl rfl (by kernel_rfl) (fun w => by kernel_rfl) ?_
          obtain ⟨y9, hy10, H⟩ := lt_some H
          refine ls_val (v := .int .u64 (IntKind.wrap .u64 (IntKind.wrap .i64 (x12_3 - (1 : Int))))) rfl rfl (by kernel_rfl) (fun w => by kernel_rfl) ?_
          refine ls_ren 37 (v := .int .u64 (IntKind.wrap .u64 (IntKind.wrap .i64 (x12_3 - (1 : Int))))) (v' := .int .u64 y9) (by kernel_rfl) (by rw [hy10]) ?_
          obtain ⟨q11, H⟩ := ite_need H
          refine ls_shiftr (k := .i64) (yk := .u64) (x := x8_1) (y := y9) rfl rfl (by kernel_rfl) (fun w => by kernel_rfl) q11 ?_
          obtain ⟨y12, hy13, H⟩ := lt_some H
          refine ls_val (v := .int .i64 (bits .and .i64 (shrv .i64 x8_1 y9) (1 : Int))) rfl rfl (by kernel_rfl) (fun w => by kernel_rfl) ?_
          refine ls_ren 39 (v := .int .i64 (bits .and .i64 (shrv .i64 x8_1 y9) (1 : Int))) (v' := .int .i64 y12) (by kernel_rfl) (by rw [hy13]) ?_
          refine ls_val (v := .bool (decide (y12 = (1 : Int)))) rfl rfl (by kernel_rfl) (fun w => by kernel_rfl) ?_
          refine ls_end ?_
          refine qn_then ?_
          by_cases q14 : y12 = (1 : Int)
          · replace H := ite_t q14 H
            refine cs_know (c := true) (dec_t q14) 40 (by kernel_rfl) ?_
            refine cs_true (by kernel_rfl) ?_
            refine cs_seq ?_
            refine cs_region (l := [_, _, _]) ?_
            refine ls_val (v := .int .i64 x9_3) rfl rfl (by kernel_rfl) (fun w => by kernel_rfl) ?_
            refine ls_val (v := .int .i64 (IntKind.wrap .i64 (x9_3 + (1 : Int)))) rfl rfl (by kernel_rfl) (fun w => by kernel_rfl) ?_
            refine ls_val (v := .int .i64 (IntKind.wrap .i64 (x9_3 + (1 : Int)))) rfl rfl (by kernel_rfl) (fun w => by kernel_rfl) ?_
            refine ls_end ?_
            refine qn_then ?_
            refine cs_region (l := [_]) ?_
            refine ls_val (v := .int .i64 (0 : Int)) rfl rfl (by kernel_rfl) (fun w => by kernel_rfl) ?_
            refine ls_end ?_
            refine qn_then ?_
            refine cs_seq ?_
            refine cs_region (l := [_, _, _, _, _, _, _]) ?_
            refine ls_val (v := .int .i64 (0 : Int)) rfl rfl (by kernel_rfl) (fun w => by kernel_rfl) ?_
            refine ls_val (v := .slice A0 l0.length c0) rfl rfl (by kernel_rfl) (fun w => by kernel_rfl) ?_
            refine ls_val (v := .int .i64 x12_3) rfl rfl (by kernel_rfl) (fun w => by kernel_rfl) ?_
            obtain ⟨q15, H⟩ := ite_need H
            obtain ⟨ad16, hA17⟩ := ido_at (T := (Ec.int 3 .i64)) (l := l0) (i := x12_3) R0 q15 q8
            refine ls_idxv (Ec.int 3 .i64) (A := A0) (c := c0) (l := l0) (k := .i64) (i := x12_3) (z := 1) (ad := ad16) rfl rfl (by kernel_rfl) hA17 rfl (by kernel_rfl) (by kernel_rfl) (by kernel_rfl) (by kernel_rfl) q15 q8 ?_
            refine ls_load (a0 := (ad16.add ((x12_3).toNat * 1))) (v := .int .i64 ((l0).getD (x12_3).toNat (0 : Int))) (de := (TypeDesc.int .i64)) rfl rfl (by kernel_rfl) rfl (by kernel_rfl) (by kernel_rfl) (by kernel_rfl) (fun w hs => (hs.old R0).at hA17 (em_sub (Ec.int 3 .i64) l0 (i := (x12_3).toNat) (by have h0 : (0 : Int) ≤ x12_3 := q15; have h1 : x12_3 < (l0.length : Int) := q8; omega))) ?_
            obtain ⟨y18, hy19, H⟩ := lt_some H
            refine ls_val (v := .int .i64 (IntKind.wrap .i64 ((0 : Int) + ((l0).getD (x12_3).toNat (0 : Int))))) rfl rfl (by kernel_rfl) (fun w => by kernel_rfl) ?_
            refine ls_ren 48 (v := .int .i64 (IntKind.wrap .i64 ((0 : Int) + ((l0).getD (x12_3).toNat (0 : Int))))) (v' := .int .i64 y18) (by kernel_rfl) (by rw [hy19]) ?_
            refine ls_val (v := .int .i64 y18) rfl rfl (by kernel_rfl) (fun w => by kernel_rfl) ?_
            refine ls_end ?_
            refine qn_then ?_
            refine cs_region (l := [_, _, _, _]) ?_
            refine ls_val (v := .int .i64 x11_3) rfl rfl (by kernel_rfl) (fun w => by kernel_rfl) ?_
            refine ls_val (v := .int .i64 y18) rfl rfl (by kernel_rfl) (fun w => by kernel_rfl) ?_
            refine ls_val (v := .int .i64 (if x11_3 < y18 then y18 else x11_3)) rfl rfl (by kernel_rfl) (fun w => by kernel_rfl) ?_
            refine ls_val (v := .int .i64 (if x11_3 < y18 then y18 else x11_3)) rfl rfl (by kernel_rfl) (fun w => by kernel_rfl) ?_
            refine ls_end ?_
            refine qn_block ?_
            refine qn_then ?_
            refine cs_region (l := [_, _, _]) ?_
            refine ls_val (v := .int .i64 x12_3) rfl rfl (by kernel_rfl) (fun w => by kernel_rfl) ?_
            refine ls_val (v := .int .i64 (IntKind.wrap .i64 (x12_3 + (1 : Int)))) rfl rfl (by kernel_rfl) (fun w => by kernel_rfl) ?_
            refine ls_val (v := .int .i64 (IntKind.wrap .i64 (x12_3 + (1 : Int)))) rfl rfl (by kernel_rfl) (fun w => by kernel_rfl) ?_
            refine ls_end ?_
            refine qn_again k3 (s0) (Nat.le_refl _) ⟨_, (IntKind.wrap .i64 (x9_3 + (1 : Int))), y18, (if x11_3 < y18 then y18 else x11_3), (IntKind.wrap .i64 (x12_3 + (1 : Int))), fr_next (fr_next (fr_next (fr_next (fr_next (fr_next (fr_next (fr_next (fr_next (rfl) (by kernel_rfl)) (by kernel_rfl)) (by kernel_rfl)) (by kernel_rfl)) (by kernel_rfl)) (by kernel_rfl)) (by kernel_rfl)) (by kernel_rfl)) (by kernel_rfl), rfl, H⟩ (sub_nil _)
          · replace H := ite_f q14 H
            refine cs_know (c := false) (dec_f q14) 40 (by kernel_rfl) ?_
            refine cs_false (by kernel_rfl) ?_
            refine cs_skip' ?_
            refine qn_then ?_
            refine cs_seq ?_
            refine cs_region (l := [_, _, _, _, _, _, _]) ?_
            refine ls_val (v := .int .i64 x10_3) rfl rfl (by kernel_rfl) (fun w => by kernel_rfl) ?_
            refine ls_val (v := .slice A0 l0.length c0) rfl rfl (by kernel_rfl) (fun w => by kernel_rfl) ?_
            refine ls_val (v := .int .i64 x12_3) rfl rfl (by kernel_rfl) (fun w => by kernel_rfl) ?_
            obtain ⟨q20, H⟩ := ite_need H
            obtain ⟨ad21, hA22⟩ := ido_at (T := (Ec.int 3 .i64)) (l := l0) (i := x12_3) R0 q20 q8
            refine ls_idxv (Ec.int 3 .i64) (A := A0) (c := c0) (l := l0) (k := .i64) (i := x12_3) (z := 1) (ad := ad21) rfl rfl (by kernel_rfl) hA22 rfl (by kernel_rfl) (by kernel_rfl) (by kernel_rfl) (by kernel_rfl) q20 q8 ?_
            refine ls_load (a0 := (ad21.add ((x12_3).toNat * 1))) (v := .int .i64 ((l0).getD (x12_3).toNat (0 : Int))) (de := (TypeDesc.int .i64)) rfl rfl (by kernel_rfl) rfl (by kernel_rfl) (by kernel_rfl) (by kernel_rfl) (fun w hs => (hs.old R0).at hA22 (em_sub (Ec.int 3 .i64) l0 (i := (x12_3).toNat) (by have h0 : (0 : Int) ≤ x12_3 := q20; have h1 : x12_3 < (l0.length : Int) := q8; omega))) ?_
            obtain ⟨y23, hy24, H⟩ := lt_some H
            refine ls_val (v := .int .i64 (IntKind.wrap .i64 (x10_3 + ((l0).getD (x12_3).toNat (0 : Int))))) rfl rfl (by kernel_rfl) (fun w => by kernel_rfl) ?_
            refine ls_ren 48 (v := .int .i64 (IntKind.wrap .i64 (x10_3 + ((l0).getD (x12_3).toNat (0 : Int))))) (v' := .int .i64 y23) (by kernel_rfl) (by rw [hy24]) ?_
            refine ls_val (v := .int .i64 y23) rfl rfl (by kernel_rfl) (fun w => by kernel_rfl) ?_
            refine ls_end ?_
            refine qn_then ?_
            refine cs_region (l := [_, _, _, _]) ?_
            refine ls_val (v := .int .i64 x11_3) rfl rfl (by kernel_rfl) (fun w => by kernel_rfl) ?_
            refine ls_val (v := .int .i64 y23) rfl rfl (by kernel_rfl) (fun w => by kernel_rfl) ?_
            refine ls_val (v := .int .i64 (if x11_3 < y23 then y23 else x11_3)) rfl rfl (by kernel_rfl) (fun w => by kernel_rfl) ?_
            refine ls_val (v := .int .i64 (if x11_3 < y23 then y23 else x11_3)) rfl rfl (by kernel_rfl) (fun w => by kernel_rfl) ?_
            refine ls_end ?_
            refine qn_block ?_
            refine qn_then ?_
            refine cs_region (l := [_, _, _]) ?_
            refine ls_val (v := .int .i64 x12_3) rfl rfl (by kernel_rfl) (fun w => by kernel_rfl) ?_
            refine ls_val (v := .int .i64 (IntKind.wrap .i64 (x12_3 + (1 : Int)))) rfl rfl (by kernel_rfl) (fun w => by kernel_rfl) ?_
            refine ls_val (v := .int .i64 (IntKind.wrap .i64 (x12_3 + (1 : Int)))) rfl rfl (by kernel_rfl) (fun w => by kernel_rfl) ?_
            refine ls_end ?_
            refine qn_again k3 (s0) (Nat.le_refl _) ⟨_, x9_3, y23, (if x11_3 < y23 then y23 else x11_3), (IntKind.wrap .i64 (x12_3 + (1 : Int))), fr_next (fr_next (fr_next (fr_next (fr_next (fr_next (fr_next (fr_next (fr_next (rfl) (by kernel_rfl)) (by kernel_rfl)) (by kernel_rfl)) (by kernel_rfl)) (by kernel_rfl)) (by kernel_rfl)) (by kernel_rfl)) (by kernel_rfl)) (by kernel_rfl), rfl, H⟩ (sub_nil _)
        · replace H := ite_f q8 H
          refine cs_know (c := false) (dec_f q8) 31 (by kernel_rfl) ?_
          refine cs_false (by kernel_rfl) ?_
          refine cs_exit' ?_
          refine qx_then ?_
          refine qx_then ?_
          refine qx_same ?_
          refine qn_then ?_
          refine cs_seq ?_
          refine cs_region (l := [_, _, _, _, _, _, _, _, _, _, _, _, _, _, _, _, _, _]) ?_
          refine ls_val (v := .int .i64 x11_3) rfl rfl (by kernel_rfl) (fun w => by kernel_rfl) ?_
          refine ls_val (v := .int .i64 a1) rfl rfl (by kernel_rfl) (fun w => by kernel_rfl) ?_
          refine ls_val (v := .bool (decide (x11_3 ≤ a1))) rfl rfl (by kernel_rfl) (fun w => by kernel_rfl) ?_
          refine ls_val (v := .bool (decide (x11_3 ≤ a1))) rfl rfl (by kernel_rfl) (fun w => by kernel_rfl) ?_
          by_cases q25 : x11_3 ≤ a1
          · replace H := ite_t q25 H
            refine ls_know (c := true) (dec_t q25) 55 (by kernel_rfl) ?_
            refine ls_on (j := 3) (t := 55) (b := true) rfl rfl (by kernel_rfl) (by kernel_rfl) ?_
            refine ls_val (v := .int .i64 x9_3) rfl rfl (by kernel_rfl) (fun w => by kernel_rfl) ?_
            refine ls_on (j := 3) (t := 55) (b := true) rfl rfl (by kernel_rfl) (by kernel_rfl) ?_
            refine ls_val (v := .int .i64 x6_1) rfl rfl (by kernel_rfl) (fun w => by kernel_rfl) ?_
            refine ls_on (j := 3) (t := 55) (b := true) rfl rfl (by kernel_rfl) (by kernel_rfl) ?_
            refine ls_val (v := .bool (decide (x9_3 < x6_1))) rfl rfl (by kernel_rfl) (fun w => by kernel_rfl) ?_
            refine ls_on (j := 3) (t := 55) (b := true) rfl rfl (by kernel_rfl) (by kernel_rfl) ?_
            refine ls_val (v := .bool (decide (x9_3 < x6_1))) rfl rfl (by kernel_rfl) (fun w => by kernel_rfl) ?_
            by_cases q26 : x9_3 < x6_1
            · replace H := ite_t q26 H
              refine ls_know (c := true) (dec_t q26) 59 (by kernel_rfl) ?_
              refine ls_off (j := 7) (t := 59) (b := false) (c := true) rfl rfl (by kernel_rfl) (by kernel_rfl) rfl rfl (by kernel_rfl) ?_
              refine ls_off (j := 7) (t := 59) (b := false) (c := true) rfl rfl (by kernel_rfl) (by kernel_rfl) rfl rfl (by kernel_rfl) ?_
              refine ls_off (j := 7) (t := 59) (b := false) (c := true) rfl rfl (by kernel_rfl) (by kernel_rfl) rfl rfl (by kernel_rfl) ?_
              refine ls_off (j := 7) (t := 59) (b := false) (c := true) rfl rfl (by kernel_rfl) (by kernel_rfl) rfl rfl (by kernel_rfl) ?_
              refine ls_offu (j := 11) (t := 63) (b := true) rfl rfl (by kernel_rfl) (by kernel_rfl) rfl (by kernel_rfl) ?_
              refine ls_offu (j := 11) (t := 63) (b := true) rfl rfl (by kernel_rfl) (by kernel_rfl) rfl (by kernel_rfl) ?_
              refine ls_offu (j := 11) (t := 63) (b := true) rfl rfl (by kernel_rfl) (by kernel_rfl) rfl (by kernel_rfl) ?_
              refine ls_off (j := 7) (t := 59) (b := false) (c := true) rfl rfl (by kernel_rfl) (by kernel_rfl) rfl rfl (by kernel_rfl) ?_
              refine ls_on (j := 3) (t := 55) (b := true) rfl rfl (by kernel_rfl) (by kernel_rfl) ?_
              refine ls_val (v := .bool true) rfl rfl (by kernel_rfl) (fun w => by kernel_rfl) ?_
              refine ls_val (v := .bool true) rfl rfl (by kernel_rfl) (fun w => by kernel_rfl) ?_
              refine ls_end ?_
              refine qn_then ?_
              refine cs_true (by kernel_rfl) ?_
              refine cs_region (l := [_, _, _, _]) ?_
              refine ls_val (v := .int .i64 x9_3) rfl rfl (by kernel_rfl) (fun w => by kernel_rfl) ?_
              refine ls_val (v := .int .i64 x11_3) rfl rfl (by kernel_rfl) (fun w => by kernel_rfl) ?_
              refine ls_val (v := .int .i64 x9_3) rfl rfl (by kernel_rfl) (fun w => by kernel_rfl) ?_
              refine ls_val (v := .int .i64 x11_3) rfl rfl (by kernel_rfl) (fun w => by kernel_rfl) ?_
              refine ls_end ?_
              refine qn_block ?_
              refine qn_then ?_
              refine cs_region (l := [_, _, _]) ?_
              refine ls_val (v := .int .i64 x8_1) rfl rfl (by kernel_rfl) (fun w => by kernel_rfl) ?_
              refine ls_val (v := .int .i64 (IntKind.wrap .i64 (x8_1 + (1 : Int)))) rfl rfl (by kernel_rfl) (fun w => by kernel_rfl) ?_
              refine ls_val (v := .int .i64 (IntKind.wrap .i64 (x8_1 + (1 : Int)))) rfl rfl (by kernel_rfl) (fun w => by kernel_rfl) ?_
              refine ls_end ?_
              refine qn_again k1 (s0) (Nat.le_refl _) ⟨_, x9_3, x11_3, (IntKind.wrap .i64 (x8_1 + (1 : Int))), fr_next (fr_next (fr_next (fr_next (fr_next (rfl) (by kernel_rfl)) (by kernel_rfl)) (by kernel_rfl)) (by kernel_rfl)) (by kernel_rfl), rfl, H⟩ (sub_nil _)
            · replace H := ite_f q26 H
              refine ls_know (c := false) (dec_f q26) 59 (by kernel_rfl) ?_
              refine ls_on (j := 7) (t := 59) (b := false) rfl rfl (by kernel_rfl) (by kernel_rfl) ?_
              refine ls_val (v := .int .i64 x9_3) rfl rfl (by kernel_rfl) (fun w => by kernel_rfl) ?_
              refine ls_on (j := 7) (t := 59) (b := false) rfl rfl (by kernel_rfl) (by kernel_rfl) ?_
              refine ls_val (v := .int .i64 x6_1) rfl rfl (by kernel_rfl) (fun w => by kernel_rfl) ?_
              refine ls_on (j := 7) (t := 59) (b := false) rfl rfl (by kernel_rfl) (by kernel_rfl) ?_
              refine ls_val (v := .bool (decide (x9_3 = x6_1))) rfl rfl (by kernel_rfl) (fun w => by kernel_rfl) ?_
              refine ls_on (j := 7) (t := 59) (b := false) rfl rfl (by kernel_rfl) (by kernel_rfl) ?_
              refine ls_val (v := .bool (decide (x9_3 = x6_1))) rfl rfl (by kernel_rfl) (fun w => by kernel_rfl) ?_
              by_cases q27 : x9_3 = x6_1
              · replace H := ite_t q27 H
                refine ls_know (c := true) (dec_t q27) 63 (by kernel_rfl) ?_
                refine ls_on (j := 11) (t := 63) (b := true) rfl rfl (by kernel_rfl) (by kernel_rfl) ?_
                refine ls_val (v := .int .i64 x11_3) rfl rfl (by kernel_rfl) (fun w => by kernel_rfl) ?_
                refine ls_on (j := 11) (t := 63) (b := true) rfl rfl (by kernel_rfl) (by kernel_rfl) ?_
                refine ls_val (v := .int .i64 x7_1) rfl rfl (by kernel_rfl) (fun w => by kernel_rfl) ?_
                refine ls_on (j := 11) (t := 63) (b := true) rfl rfl (by kernel_rfl) (by kernel_rfl) ?_
                refine ls_val (v := .bool (decide (x11_3 < x7_1))) rfl rfl (by kernel_rfl) (fun w => by kernel_rfl) ?_
                refine ls_on (j := 7) (t := 59) (b := false) rfl rfl (by kernel_rfl) (by kernel_rfl) ?_
                refine ls_val (v := .bool (decide (x11_3 < x7_1))) rfl rfl (by kernel_rfl) (fun w => by kernel_rfl) ?_
                refine ls_on (j := 3) (t := 55) (b := true) rfl rfl (by kernel_rfl) (by kernel_rfl) ?_
                refine ls_val (v := .bool (decide (x11_3 < x7_1))) rfl rfl (by kernel_rfl) (fun w => by kernel_rfl) ?_
                refine ls_val (v := .bool (decide (x11_3 < x7_1))) rfl rfl (by kernel_rfl) (fun w => by kernel_rfl) ?_
                refine ls_end ?_
                refine qn_then ?_
                by_cases q28 : x11_3 < x7_1
                · replace H := ite_t q28 H
                  refine cs_know (c := true) (dec_t q28) 69 (by kernel_rfl) ?_
                  refine cs_true (by kernel_rfl) ?_
                  refine cs_region (l := [_, _, _, _]) ?_
                  refine ls_val (v := .int .i64 x9_3) rfl rfl (by kernel_rfl) (fun w => by kernel_rfl) ?_
                  refine ls_val (v := .int .i64 x11_3) rfl rfl (by kernel_rfl) (fun w => by kernel_rfl) ?_
                  refine ls_val (v := .int .i64 x9_3) rfl rfl (by kernel_rfl) (fun w => by kernel_rfl) ?_
                  refine ls_val (v := .int .i64 x11_3) rfl rfl (by kernel_rfl) (fun w => by kernel_rfl) ?_
                  refine ls_end ?_
                  refine qn_block ?_
                  refine qn_then ?_
                  refine cs_region (l := [_, _, _]) ?_
                  refine ls_val (v := .int .i64 x8_1) rfl rfl (by kernel_rfl) (fun w => by kernel_rfl) ?_
                  refine ls_val (v := .int .i64 (IntKind.wrap .i64 (x8_1 + (1 : Int)))) rfl rfl (by kernel_rfl) (fun w => by kernel_rfl) ?_
                  refine ls_val (v := .int .i64 (IntKind.wrap .i64 (x8_1 + (1 : Int)))) rfl rfl (by kernel_rfl) (fun w => by kernel_rfl) ?_
                  refine ls_end ?_
                  refine qn_again k1 (s0) (Nat.le_refl _) ⟨_, x9_3, x11_3, (IntKind.wrap .i64 (x8_1 + (1 : Int))), fr_next (fr_next (fr_next (fr_next (fr_next (rfl) (by kernel_rfl)) (by kernel_rfl)) (by kernel_rfl)) (by kernel_rfl)) (by kernel_rfl), rfl, H⟩ (sub_nil _)
                · replace H := ite_f q28 H
                  refine cs_know (c := false) (dec_f q28) 69 (by kernel_rfl) ?_
                  refine cs_false (by kernel_rfl) ?_
                  refine cs_skip' ?_
                  refine qn_block ?_
                  refine qn_then ?_
                  refine cs_region (l := [_, _, _]) ?_
                  refine ls_val (v := .int .i64 x8_1) rfl rfl (by kernel_rfl) (fun w => by kernel_rfl) ?_
                  refine ls_val (v := .int .i64 (IntKind.wrap .i64 (x8_1 + (1 : Int)))) rfl rfl (by kernel_rfl) (fun w => by kernel_rfl) ?_
                  refine ls_val (v := .int .i64 (IntKind.wrap .i64 (x8_1 + (1 : Int)))) rfl rfl (by kernel_rfl) (fun w => by kernel_rfl) ?_
                  refine ls_end ?_
                  refine qn_again k1 (s0) (Nat.le_refl _) ⟨_, x6_1, x7_1, (IntKind.wrap .i64 (x8_1 + (1 : Int))), fr_next (fr_next (fr_next (fr_next (fr_next (rfl) (by kernel_rfl)) (by kernel_rfl)) (by kernel_rfl)) (by kernel_rfl)) (by kernel_rfl), rfl, H⟩ (sub_nil _)
              · replace H := ite_f q27 H
                refine ls_know (c := false) (dec_f q27) 63 (by kernel_rfl) ?_
                refine ls_off (j := 11) (t := 63) (b := true) (c := false) rfl rfl (by kernel_rfl) (by kernel_rfl) rfl rfl (by kernel_rfl) ?_
                refine ls_off (j := 11) (t := 63) (b := true) (c := false) rfl rfl (by kernel_rfl) (by kernel_rfl) rfl rfl (by kernel_rfl) ?_
                refine ls_off (j := 11) (t := 63) (b := true) (c := false) rfl rfl (by kernel_rfl) (by kernel_rfl) rfl rfl (by kernel_rfl) ?_
                refine ls_on (j := 7) (t := 59) (b := false) rfl rfl (by kernel_rfl) (by kernel_rfl) ?_
                refine ls_val (v := .bool false) rfl rfl (by kernel_rfl) (fun w => by kernel_rfl) ?_
                refine ls_on (j := 3) (t := 55) (b := true) rfl rfl (by kernel_rfl) (by kernel_rfl) ?_
                refine ls_val (v := .bool false) rfl rfl (by kernel_rfl) (fun w => by kernel_rfl) ?_
                refine ls_val (v := .bool false) rfl rfl (by kernel_rfl) (fun w => by kernel_rfl) ?_
                refine ls_end ?_
                refine qn_then ?_
                refine cs_false (by kernel_rfl) ?_
                refine cs_skip' ?_
                refine qn_block ?_
                refine qn_then ?_
                refine cs_region (l := [_, _, _]) ?_
                refine ls_val (v := .int .i64 x8_1) rfl rfl (by kernel_rfl) (fun w => by kernel_rfl) ?_
                refine ls_val (v := .int .i64 (IntKind.wrap .i64 (x8_1 + (1 : Int)))) rfl rfl (by kernel_rfl) (fun w => by kernel_rfl) ?_
                refine ls_val (v := .int .i64 (IntKind.wrap .i64 (x8_1 + (1 : Int)))) rfl rfl (by kernel_rfl) (fun w => by kernel_rfl) ?_
                refine ls_end ?_
                refine qn_again k1 (s0) (Nat.le_refl _) ⟨_, x6_1, x7_1, (IntKind.wrap .i64 (x8_1 + (1 : Int))), fr_next (fr_next (fr_next (fr_next (fr_next (rfl) (by kernel_rfl)) (by kernel_rfl)) (by kernel_rfl)) (by kernel_rfl)) (by kernel_rfl), rfl, H⟩ (sub_nil _)
          · replace H := ite_f q25 H
            refine ls_know (c := false) (dec_f q25) 55 (by kernel_rfl) ?_
            refine ls_off (j := 3) (t := 55) (b := true) (c := false) rfl rfl (by kernel_rfl) (by kernel_rfl) rfl rfl (by kernel_rfl) ?_
            refine ls_off (j := 3) (t := 55) (b := true) (c := false) rfl rfl (by kernel_rfl) (by kernel_rfl) rfl rfl (by kernel_rfl) ?_
            refine ls_off (j := 3) (t := 55) (b := true) (c := false) rfl rfl (by kernel_rfl) (by kernel_rfl) rfl rfl (by kernel_rfl) ?_
            refine ls_off (j := 3) (t := 55) (b := true) (c := false) rfl rfl (by kernel_rfl) (by kernel_rfl) rfl rfl (by kernel_rfl) ?_
            refine ls_offu (j := 7) (t := 59) (b := false) rfl rfl (by kernel_rfl) (by kernel_rfl) rfl (by kernel_rfl) ?_
            refine ls_offu (j := 7) (t := 59) (b := false) rfl rfl (by kernel_rfl) (by kernel_rfl) rfl (by kernel_rfl) ?_
            refine ls_offu (j := 7) (t := 59) (b := false) rfl rfl (by kernel_rfl) (by kernel_rfl) rfl (by kernel_rfl) ?_
            refine ls_offu (j := 7) (t := 59) (b := false) rfl rfl (by kernel_rfl) (by kernel_rfl) rfl (by kernel_rfl) ?_
            refine ls_offu (j := 11) (t := 63) (b := true) rfl rfl (by kernel_rfl) (by kernel_rfl) rfl (by kernel_rfl) ?_
            refine ls_offu (j := 11) (t := 63) (b := true) rfl rfl (by kernel_rfl) (by kernel_rfl) rfl (by kernel_rfl) ?_
            refine ls_offu (j := 11) (t := 63) (b := true) rfl rfl (by kernel_rfl) (by kernel_rfl) rfl (by kernel_rfl) ?_
            refine ls_offu (j := 7) (t := 59) (b := false) rfl rfl (by kernel_rfl) (by kernel_rfl) rfl (by kernel_rfl) ?_
            refine ls_off (j := 3) (t := 55) (b := true) (c := false) rfl rfl (by kernel_rfl) (by kernel_rfl) rfl rfl (by kernel_rfl) ?_
            refine ls_val (v := .bool false) rfl rfl (by kernel_rfl) (fun w => by kernel_rfl) ?_
            refine ls_end ?_
            refine qn_then ?_
            refine cs_false (by kernel_rfl) ?_
            refine cs_skip' ?_
            refine qn_block ?_
            refine qn_then ?_
            refine cs_region (l := [_, _, _]) ?_
            refine ls_val (v := .int .i64 x8_1) rfl rfl (by kernel_rfl) (fun w => by kernel_rfl) ?_
            refine ls_val (v := .int .i64 (IntKind.wrap .i64 (x8_1 + (1 : Int)))) rfl rfl (by kernel_rfl) (fun w => by kernel_rfl) ?_
            refine ls_val (v := .int .i64 (IntKind.wrap .i64 (x8_1 + (1 : Int)))) rfl rfl (by kernel_rfl) (fun w => by kernel_rfl) ?_
            refine ls_end ?_
            refine qn_again k1 (s0) (Nat.le_refl _) ⟨_, x6_1, x7_1, (IntKind.wrap .i64 (x8_1 + (1 : Int))), fr_next (fr_next (fr_next (fr_next (fr_next (rfl) (by kernel_rfl)) (by kernel_rfl)) (by kernel_rfl)) (by kernel_rfl)) (by kernel_rfl), rfl, H⟩ (sub_nil _)

end Go.Proofs.Ytnkcadofhhcfaaa.G
