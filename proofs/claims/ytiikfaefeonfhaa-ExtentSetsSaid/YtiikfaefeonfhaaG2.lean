/- Printed by a program of this session (sz.py): plain functions, and walks that show that the code comes to them; no condition. -/
import Derived.Test.YtiikfaefeonfhaaProg
import Derived.Test.YtiikfaefeonfhaaTy
import Derived.Test.YtiikfaefeonfhaaG0
import Derived.Test.YtiikfaefeonfhaaG1
set_option linter.unusedVariables false
set_option linter.unusedSimpArgs false
namespace Go.Proofs.Ytiikfaefeonfhaa.G
open Go Go.RowKit Go.Proofs.Ytiikfaefeonfhaa.Sx

/-! ### shadowbox/shadowboxref09.Has: function 20 -/
def shadowboxref09_Has.tab2 : List (List Nat) := [[], [], [0, 1], [0, 1, 2], [0, 1, 2, 3], [], [5], [0, 1, 2, 3, 4, 5, 6], [0, 1, 2, 3, 4, 5, 6, 7], [0, 1, 2, 3, 4, 5, 6, 7, 8], [0, 1, 2, 3, 4, 5, 6, 7, 8, 9], [0, 1, 2, 3, 4, 5, 6, 7, 8], [0, 1, 2, 3, 4, 5, 6, 7, 8], [0, 1, 2, 3, 4, 5, 6, 7, 8, 11, 12], [0, 1, 2, 3, 4, 5, 6, 7, 8, 11, 12, 13], [0, 1, 2, 3, 4, 5, 6, 7, 8, 11, 12, 13, 14], [0, 1, 2, 3, 4, 5, 6, 7, 8, 9, 10, 11, 12, 13, 14, 15], [0, 1, 2, 3, 4, 5, 6, 7, 8, 9, 10, 11, 12, 13, 14, 15, 16]]
def shadowboxref09_Has.lo2 (l0 : List (Int × Int)) (a1 : (Int × Int)) : Nat → Int → Option (Bool)
  | 0, _ => none
  | k2 + 1, x5_2 => (if x5_2 < (l0.length : Int) then (if 0 ≤ x5_2 then lt (((l0).getD (x5_2).toNat ((0 : Int), (0 : Int))).1) fun y8 => (if y8 ≤ a1.1 then lt (((l0).getD (x5_2).toNat ((0 : Int), (0 : Int))).2) fun y13 => (if a1.2 ≤ y13 then some true else (shadowboxref09_Has.lo2 l0 a1 k2) (IntKind.wrap .i64 (x5_2 + (1 : Int)))) else (shadowboxref09_Has.lo2 l0 a1 k2) (IntKind.wrap .i64 (x5_2 + (1 : Int)))) else none) else some false)
def shadowboxref09_Has.jo1 (k : Nat) (l0 : List (Int × Int)) (a1 : (Int × Int)) : Option (Bool) := shadowboxref09_Has.lo2 l0 a1 k (0 : Int)
def shadowboxref09_Has.f (k : Nat) (l0 : List (Int × Int)) (a1 : (Int × Int)) : Option (Bool) :=
  (shadowboxref09_Valid.f k l0).bind fun t16 => (if t16 = true then (shadowboxref09_right.f k a1).bind fun t20 => (if t20 = true then (shadowboxref09_Has.jo1 k l0 a1) else some false) else some false)
set_option maxRecDepth 100000 in
set_option maxHeartbeats 4000000 in
theorem shadowboxref09_Has.calls (k : Nat) (A0 : Option Addr) (c0 : Nat) (l0 : List (Int × Int)) (a1 : (Int × Int)) (r : Bool) (b : Bs) (hs0 : St b (stl []) b.w) (R0 : Ro b A0 (em T31 l0)) (C0 : l0.length ≤ c0) (H : shadowboxref09_Has.f k l0 a1 = some r) :
    Calls Try.prog 20 #[.slice A0 l0.length c0, .agg ⟨([Value.int .i64 a1.1] ++ [Value.int .i64 a1.2])⟩] b.w fun e w' => ∃ x : Unit, e = .returned (.bool r) ∧ St b (stl []) w' := by
  unfold shadowboxref09_Has.f at H
  refine enterb (n := 38) Try.func20 rfl (by kernel_rfl) (by kernel_rfl) hs0 ?_
  refine cs_sub (s0) (sub_nil _) ?_
  refine cs_seq ?_
  refine cs_region (l := [_, _]) ?_
  refine ls_new rfl rfl (by kernel_rfl) 0 (fun g => .pointer (some ⟨g, 0, none⟩)) (.cells ⟨([Value.int .i64 a1.1] ++ [Value.int .i64 a1.2])⟩ 31) (fun w => by kernel_rfl) ?_
  intro g1
  refine ls_val (v := .bool false) rfl rfl (by kernel_rfl) (fun w => by kernel_rfl) ?_
  refine ls_end ?_
  refine qn_then ?_
  refine cs_cut (fun f S => ∃ (fR : Fr), f = upd (upd fR 0 (.slice A0 l0.length c0)) 3 (.pointer (some ⟨g1, 0, none⟩)) ∧ S = sput s0 0 (some (Ck.var 31 g1 (([Value.int .i64 a1.1] ++ [Value.int .i64 a1.2])))) ∧ shadowboxref09_Has.jo1 k l0 a1 = some r) ?_ ?_
  · skip
    refine cs_seq ?_
    refine cs_region (l := [_, _, _, _, _, _, _, _]) ?_
    refine ls_val (v := .slice A0 l0.length c0) rfl rfl (by kernel_rfl) (fun w => by kernel_rfl) ?_
    obtain ⟨t16, hc17, H⟩ := bind_some H
    refine ls_callb (fid := 22) (vals := #[.slice A0 l0.length c0]) (X := Unit) (fun x => .bool t16) (fun x => stl []) [] [] [] [] 1 rfl rfl (by kernel_rfl) (fun w => by kernel_rfl) trivial trivial (by decide) (fun w hs hb => shadowboxref09_Valid.calls k A0 c0 l0 t16 (lent b w [] []) hb (hs.ro R0 _ _) C0 hc17) ?_
    intro x18
    refine ls_val (v := .bool (!t16)) rfl rfl (by kernel_rfl) (fun w => by kernel_rfl) ?_
    refine ls_val (v := .bool (!t16)) rfl rfl (by kernel_rfl) (fun w => by kernel_rfl) ?_
    by_cases q19 : t16 = true
    · replace H := ite_t q19 H
      refine ls_know (c := false) (congrArg Bool.not (q19)) 9 (by kernel_rfl) ?_
      refine ls_on (j := 3) (t := 9) (b := false) rfl rfl (by kernel_rfl) (by kernel_rfl) ?_
      refine ls_loadagg (a := ⟨g1, 0, none⟩) (sub := ([Value.int .i64 a1.1] ++ [Value.int .i64 a1.2])) rfl rfl (by kernel_rfl) rfl (by kernel_rfl) (by kernel_rfl) (by kernel_rfl) (len_app (len1 _) (len1 _)) (fun w hs => (hs.vars (k := 0) (by exact rfl) (Sub4.all _))) ?_
      refine ls_on (j := 3) (t := 9) (b := false) rfl rfl (by kernel_rfl) (by kernel_rfl) ?_
      obtain ⟨t20, hc21, H⟩ := bind_some H
      refine ls_callb (fid := 45) (vals := #[.agg ⟨([Value.int .i64 a1.1] ++ [Value.int .i64 a1.2])⟩]) (X := Unit) (fun x => .bool t20) (fun x => stl []) [] [] [] [] 1 rfl rfl (by kernel_rfl) (fun w => by kernel_rfl) trivial trivial (by decide) (fun w hs hb => shadowboxref09_right.calls k a1 t20 (lent b w [] []) hb  hc21) ?_
      intro x22
      refine ls_on (j := 3) (t := 9) (b := false) rfl rfl (by kernel_rfl) (by kernel_rfl) ?_
      refine ls_val (v := .bool (!t20)) rfl rfl (by kernel_rfl) (fun w => by kernel_rfl) ?_
      refine ls_val (v := .bool (!t20)) rfl rfl (by kernel_rfl) (fun w => by kernel_rfl) ?_
      refine ls_end ?_
      refine qn_then ?_
      by_cases q23 : t20 = true
      · replace H := ite_t q23 H
        refine cs_know (c := false) (congrArg Bool.not (q23)) 13 (by kernel_rfl) ?_
        refine cs_false (by kernel_rfl) ?_
        refine cs_skip' ?_
        refine qn_meet (sput s0 0 (some (Ck.var 31 g1 (([Value.int .i64 a1.1] ++ [Value.int .i64 a1.2]))))) ⟨_, fr_next (fr_next (rfl) (by kernel_rfl)) (by kernel_rfl), rfl, H⟩ (sub_put (by exact rfl) (sub_nil _))
      · replace H := ite_f q23 H
        refine cs_know (c := true) (congrArg Bool.not (Bool.eq_false_iff.mpr q23)) 13 (by kernel_rfl) ?_
        refine cs_true (by kernel_rfl) ?_
        refine cs_seq ?_
        refine cs_region (l := [_]) ?_
        refine ls_val (v := .bool false) rfl rfl (by kernel_rfl) (fun w => by kernel_rfl) ?_
        refine ls_end ?_
        refine qn_then ?_
        refine cs_ret' ?_
        refine qr_then ?_
        obtain rfl := Option.some.inj H
        refine qr_res (rs := [_]) rfl (fun w' hs => ⟨[.bool false], (res_tmp (by kernel_rfl) (.nil)), (), rfl, hs.pick (ts := []) (cs := []) trivial (by decide)⟩)
    · replace H := ite_f q19 H
      refine ls_know (c := true) (congrArg Bool.not (Bool.eq_false_iff.mpr q19)) 9 (by kernel_rfl) ?_
      refine ls_off (j := 3) (t := 9) (b := false) (c := true) rfl rfl (by kernel_rfl) (by kernel_rfl) rfl rfl (by kernel_rfl) ?_
      refine ls_off (j := 3) (t := 9) (b := false) (c := true) rfl rfl (by kernel_rfl) (by kernel_rfl) rfl rfl (by kernel_rfl) ?_
      refine ls_off (j := 3) (t := 9) (b := false) (c := true) rfl rfl (by kernel_rfl) (by kernel_rfl) rfl rfl (by kernel_rfl) ?_
      refine ls_val (v := .bool true) rfl rfl (by kernel_rfl) (fun w => by kernel_rfl) ?_
      refine ls_end ?_
      refine qn_then ?_
      refine cs_true (by kernel_rfl) ?_
      refine cs_seq ?_
      refine cs_region (l := [_]) ?_
      refine ls_val (v := .bool false) rfl rfl (by kernel_rfl) (fun w => by kernel_rfl) ?_
      refine ls_end ?_
      refine qn_then ?_
      refine cs_ret' ?_
      refine qr_then ?_
      obtain rfl := Option.some.inj H
      refine qr_res (rs := [_]) rfl (fun w' hs => ⟨[.bool false], (res_tmp (by kernel_rfl) (.nil)), (), rfl, hs.pick (ts := []) (cs := []) trivial (by decide)⟩)
  · rintro f S ⟨fr1, rfl, rfl, H⟩
    replace H : (shadowboxref09_Has.lo2 l0 a1 k (0 : Int)) = some r := H
    refine cs_seq ?_
    refine cs_seq ?_
    refine cs_region (l := [_]) ?_
    refine ls_val (v := .int .i64 (0 : Int)) rfl rfl (by kernel_rfl) (fun w => by kernel_rfl) ?_
    refine ls_end ?_
    refine qn_then ?_
    refine cs_block ?_
    refine cs_sub (sput s0 0 (some (Ck.var 31 g1 (([Value.int .i64 a1.1] ++ [Value.int .i64 a1.2]))))) (sub_put (by exact rfl) (sub_nil _)) ?_
    refine cs_loop (fun kk f S => ∃ (fR : Fr) (x5_2 : Int), f = upd (upd (upd fR 0 (.slice A0 l0.length c0)) 3 (.pointer (some ⟨g1, 0, none⟩))) 5 (.int .i64 x5_2) ∧ S = sput s0 0 (some (Ck.var 31 g1 (([Value.int .i64 a1.1] ++ [Value.int .i64 a1.2])))) ∧ shadowboxref09_Has.lo2 l0 a1 kk x5_2 = some r) k ?_ ?_ ?_
    · exact ⟨_, (0 : Int), fr_next (fr_next (fr_next (rfl) (by kernel_rfl)) (by kernel_rfl)) (by kernel_rfl), rfl, H⟩
    · rintro f S ⟨fr2, x5_2, rfl, rfl, H⟩; cases H
    · rintro k2 f S ⟨fr2, x5_2, rfl, rfl, H⟩
      replace H : ((if x5_2 < (l0.length : Int) then (if 0 ≤ x5_2 then lt (((l0).getD (x5_2).toNat ((0 : Int), (0 : Int))).1) fun y8 => (if y8 ≤ a1.1 then lt (((l0).getD (x5_2).toNat ((0 : Int), (0 : Int))).2) fun y13 => (if a1.2 ≤ y13 then some true else (shadowboxref09_Has.lo2 l0 a1 k2) (IntKind.wrap .i64 (x5_2 + (1 : Int)))) else (shadowboxref09_Has.lo2 l0 a1 k2) (IntKind.wrap .i64 (x5_2 + (1 : Int)))) else none) else some false)) = some r := H
      refine cs_seq ?_
      refine cs_seq ?_
      refine cs_region (l := [_, _, _, _]) ?_
      refine ls_val (v := .int .i64 x5_2) rfl rfl (by kernel_rfl) (fun w => by kernel_rfl) ?_
      refine ls_val (v := .slice A0 l0.length c0) rfl rfl (by kernel_rfl) (fun w => by kernel_rfl) ?_
      refine ls_val (v := .int .i64 (l0.length : Int)) rfl rfl (by kernel_rfl) (fun w => by kernel_rfl) ?_
      refine ls_val (v := .bool (decide (x5_2 < (l0.length : Int)))) rfl rfl (by kernel_rfl) (fun w => by kernel_rfl) ?_
      refine ls_end ?_
      refine qn_then ?_
      by_cases q2 : x5_2 < (l0.length : Int)
      · replace H := ite_t q2 H
        refine cs_know (c := true) (dec_t q2) 17 (by kernel_rfl) ?_
        refine cs_true (by kernel_rfl) ?_
        refine cs_skip' ?_
        refine qn_then ?_
        refine cs_seq ?_
        refine cs_block ?_
        refine cs_seq ?_
        obtain ⟨s4_0, hs4_0⟩ : ∃ z : Value → Sto → Prop, z = (fun v R => v = .slice A0 l0.length c0 ∧ R = s0) := ⟨_, rfl⟩
        refine have_op (l := [_, _, _, _, _, _, _, _, _, _, _, _, _, _, _, _, _, _]) shadowboxref09_Has.tab2 1 0 (fun sp => sp 0 = s4_0) (fun sp on hA hon => ?_) (fun ops4_0 => ?_)
        · refine ⟨fun o ho vs Rs f' S' w hp hf hx hS hR hs => ?_⟩
          obtain rfl := Option.some.inj ho
          rw [hA, hs4_0]
          refine And.intro (fun a ha => (want_none rfl a ha).trans hon.symm) (And.intro (fun _ => ?_) (fun h => by rw [hon] at h; cases h))
          have hF := fr_next (rfl) ((hx 0 (by kernel_rfl)).trans (by kernel_rfl : (_ : Value) = .slice A0 l0.length c0))
          refine ls_fr hF ?_
          refine ls_val (v := .slice A0 l0.length c0) rfl rfl (by kernel_rfl) (fun w => by kernel_rfl) ?_
          exact ls_fin s0 (.slice A0 l0.length c0) (congrArg (fun z => upd z 20 _) hF.symm) ⟨rfl, rfl⟩ (sub_nil _)
        obtain ⟨s4_1, hs4_1⟩ : ∃ z : Value → Sto → Prop, z = (fun v R => v = .int .i64 x5_2 ∧ R = s0) := ⟨_, rfl⟩
        refine have_op (l := [_, _, _, _, _, _, _, _, _, _, _, _, _, _, _, _, _, _]) shadowboxref09_Has.tab2 1 1 (fun sp => sp 1 = s4_1) (fun sp on hA hon => ?_) (fun ops4_1 => ?_)
        · refine ⟨fun o ho vs Rs f' S' w hp hf hx hS hR hs => ?_⟩
          obtain rfl := Option.some.inj ho
          rw [hA, hs4_1]
          refine And.intro (fun a ha => (want_none rfl a ha).trans hon.symm) (And.intro (fun _ => ?_) (fun h => by rw [hon] at h; cases h))
          have hF := fr_next (rfl) ((hx 5 (by kernel_rfl)).trans (by kernel_rfl : (_ : Value) = .int .i64 x5_2))
          refine ls_fr hF ?_
          refine ls_val (v := .int .i64 x5_2) rfl rfl (by kernel_rfl) (fun w => by kernel_rfl) ?_
          exact ls_fin s0 (.int .i64 x5_2) (congrArg (fun z => upd z 21 _) hF.symm) ⟨rfl, rfl⟩ (sub_nil _)
        obtain ⟨q5, H⟩ := ite_need H
        obtain ⟨ad6, hA7⟩ := ido_at (T := T31) (l := l0) (i := x5_2) R0 q5 q2
        obtain ⟨s4_2, hs4_2⟩ : ∃ z : Value → Sto → Prop, z = (fun v R => v = .pointer (some (ad6.add ((x5_2).toNat * 2))) ∧ R = s0) := ⟨_, rfl⟩
        refine have_op (l := [_, _, _, _, _, _, _, _, _, _, _, _, _, _, _, _, _, _]) shadowboxref09_Has.tab2 1 2 (fun sp => sp 2 = s4_2 ∧ sp 0 = s4_0 ∧ sp 1 = s4_1) (fun sp on hA hon => ?_) (fun ops4_2 => ?_)
        · refine ⟨fun o ho vs Rs f' S' w hp hf hx hS hR hs => ?_⟩
          obtain rfl := Option.some.inj ho
          obtain ⟨hv0, hR0⟩ := (spe hA.2.1 hs4_0 (hp 0 (by kernel_rfl)))
          obtain ⟨hv1, hR1⟩ := (spe hA.2.2 hs4_1 (hp 1 (by kernel_rfl)))
          rw [hA.1, hs4_2]
          refine And.intro (fun a ha => (want_none rfl a ha).trans hon.symm) (And.intro (fun _ => ?_) (fun h => by rw [hon] at h; cases h))
          have hF := fr_next (fr_next (rfl) ((hf 0 20 (by kernel_rfl) rfl).trans hv0)) ((hf 1 21 (by kernel_rfl) rfl).trans hv1)
          refine ls_fr hF ?_
          refine ls_idxv T31 (A := A0) (c := c0) (l := l0) (k := .i64) (i := x5_2) (z := 2) (ad := ad6) rfl rfl (by kernel_rfl) hA7 rfl (by kernel_rfl) (by kernel_rfl) (by kernel_rfl) (by kernel_rfl) q5 q2 ?_
          exact ls_fin s0 (.pointer (some (ad6.add ((x5_2).toNat * 2)))) (congrArg (fun z => upd z 22 _) hF.symm) ⟨rfl, rfl⟩ (sub_nil _)
        obtain ⟨s4_3, hs4_3⟩ : ∃ z : Value → Sto → Prop, z = (fun v R => v = .pointer (some (ad6.add (((x5_2).toNat * 2) + 0))) ∧ R = s0) := ⟨_, rfl⟩
        refine have_op (l := [_, _, _, _, _, _, _, _, _, _, _, _, _, _, _, _, _, _]) shadowboxref09_Has.tab2 1 3 (fun sp => sp 3 = s4_3 ∧ sp 2 = s4_2) (fun sp on hA hon => ?_) (fun ops4_3 => ?_)
        · refine ⟨fun o ho vs Rs f' S' w hp hf hx hS hR hs => ?_⟩
          obtain rfl := Option.some.inj ho
          obtain ⟨hv2, hR2⟩ := (spe hA.2 hs4_2 (hp 2 (by kernel_rfl)))
          rw [hA.1, hs4_3]
          refine And.intro (fun a ha => (want_none rfl a ha).trans hon.symm) (And.intro (fun _ => ?_) (fun h => by rw [hon] at h; cases h))
          have hF := fr_next (rfl) ((hf 2 22 (by kernel_rfl) rfl).trans hv2)
          refine ls_fr hF ?_
          refine ls_fieldm (ad := ad6) (off := ((x5_2).toNat * 2)) rfl rfl (by kernel_rfl) 0 (fun w => by kernel_rfl) ?_
          exact ls_fin s0 (.pointer (some (ad6.add (((x5_2).toNat * 2) + 0)))) (congrArg (fun z => upd z 23 _) hF.symm) ⟨rfl, rfl⟩ (sub_nil _)
        obtain ⟨y8, hy9, H⟩ := lt_some H
        obtain ⟨s4_4, hs4_4⟩ : ∃ z : Value → Sto → Prop, z = (fun v R => v = .int .i64 y8 ∧ R = s0) := ⟨_, rfl⟩
        refine have_op (l := [_, _, _, _, _, _, _, _, _, _, _, _, _, _, _, _, _, _]) shadowboxref09_Has.tab2 1 4 (fun sp => sp 4 = s4_4 ∧ sp 3 = s4_3) (fun sp on hA hon => ?_) (fun ops4_4 => ?_)
        · refine ⟨fun o ho vs Rs f' S' w hp hf hx hS hR hs => ?_⟩
          obtain rfl := Option.some.inj ho
          obtain ⟨hv3, hR3⟩ := (spe hA.2 hs4_3 (hp 3 (by kernel_rfl)))
          rw [hA.1, hs4_4]
          refine And.intro (fun a ha => (want_none rfl a ha).trans hon.symm) (And.intro (fun _ => ?_) (fun h => by rw [hon] at h; cases h))
          have hF := fr_next (rfl) ((hf 3 23 (by kernel_rfl) rfl).trans hv3)
          refine ls_fr hF ?_
          refine ls_load (a0 := (ad6.add (((x5_2).toNat * 2) + 0))) (v := .int .i64 (((l0).getD (x5_2).toNat ((0 : Int), (0 : Int))).1)) (de := (TypeDesc.int .i64)) rfl rfl (by kernel_rfl) rfl (by kernel_rfl) (by kernel_rfl) (by kernel_rfl) (fun w1 hs1 => (Rd.step (hs.old R0) hs1.below.bw).at hA7 (Sub4.trans (em_sub T31 l0 (i := (x5_2).toNat) (by have h0 : (0 : Int) ≤ x5_2 := q5; have h1 : x5_2 < (l0.length : Int) := q2; omega)) (Sub4.head _ _))) ?_
          refine ls_ren 24 (v := .int .i64 (((l0).getD (x5_2).toNat ((0 : Int), (0 : Int))).1)) (v' := .int .i64 y8) (by kernel_rfl) (by rw [hy9]) ?_
          exact ls_fin s0 (.int .i64 y8) ((upd_upd _ _ _ _).trans (congrArg (fun z => upd z 24 _) hF.symm)) ⟨rfl, rfl⟩ (sub_nil _)
        obtain ⟨s4_5, hs4_5⟩ : ∃ z : Value → Sto → Prop, z = (fun v R => v = .pointer (some ⟨g1, (0 + 0), none⟩) ∧ R = s0) := ⟨_, rfl⟩
        refine have_op (l := [_, _, _, _, _, _, _, _, _, _, _, _, _, _, _, _, _, _]) shadowboxref09_Has.tab2 1 5 (fun sp => sp 5 = s4_5) (fun sp on hA hon => ?_) (fun ops4_5 => ?_)
        · refine ⟨fun o ho vs Rs f' S' w hp hf hx hS hR hs => ?_⟩
          obtain rfl := Option.some.inj ho
          rw [hA, hs4_5]
          refine And.intro (fun a ha => (want_none rfl a ha).trans hon.symm) (And.intro (fun _ => ?_) (fun h => by rw [hon] at h; cases h))
          have hF := fr_next (rfl) ((hx 3 (by kernel_rfl)).trans (by kernel_rfl : (_ : Value) = .pointer (some ⟨g1, 0, none⟩)))
          refine ls_fr hF ?_
          refine ls_val (v := .pointer (some ⟨g1, (0 + 0), none⟩)) rfl rfl (by kernel_rfl) (fun w => by kernel_rfl) ?_
          exact ls_fin s0 (.pointer (some ⟨g1, (0 + 0), none⟩)) (congrArg (fun z => upd z 25 _) hF.symm) ⟨rfl, rfl⟩ (sub_nil _)
        obtain ⟨s4_6, hs4_6⟩ : ∃ z : Value → Sto → Prop, z = (fun v R => v = .int .i64 a1.1 ∧ R = s0) := ⟨_, rfl⟩
        refine have_op (l := [_, _, _, _, _, _, _, _, _, _, _, _, _, _, _, _, _, _]) shadowboxref09_Has.tab2 1 6 (fun sp => sp 6 = s4_6 ∧ sp 5 = s4_5) (fun sp on hA hon => ?_) (fun ops4_6 => ?_)
        · refine ⟨fun o ho vs Rs f' S' w hp hf hx hS hR hs => ?_⟩
          obtain rfl := Option.some.inj ho
          obtain ⟨hv5, hR5⟩ := (spe hA.2 hs4_5 (hp 5 (by kernel_rfl)))
          rw [hA.1, hs4_6]
          refine And.intro (fun a ha => (want_none rfl a ha).trans hon.symm) (And.intro (fun _ => ?_) (fun h => by rw [hon] at h; cases h))
          have hF := fr_next (rfl) ((hf 5 25 (by kernel_rfl) rfl).trans hv5)
          refine ls_fr hF ?_
          refine ls_load (a0 := ⟨g1, (0 + 0), none⟩) (v := .int .i64 a1.1) (de := (TypeDesc.int .i64)) rfl rfl (by kernel_rfl) rfl (by kernel_rfl) (by kernel_rfl) (by kernel_rfl) (fun w1 hs1 => cell_step hs1.below.bw (hs.var (k := 0) ((hS 0 (by kernel_rfl)).trans (by exact rfl)) (Sub4.trans (Sub4.all _) (Sub4.head _ _)))) ?_
          exact ls_fin s0 (.int .i64 a1.1) (congrArg (fun z => upd z 26 _) hF.symm) ⟨rfl, rfl⟩ (sub_nil _)
        obtain ⟨s4_7, hs4_7⟩ : ∃ z : Value → Sto → Prop, z = (fun v R => v = .bool (decide (y8 ≤ a1.1)) ∧ R = s0) := ⟨_, rfl⟩
        refine have_op (l := [_, _, _, _, _, _, _, _, _, _, _, _, _, _, _, _, _, _]) shadowboxref09_Has.tab2 1 7 (fun sp => sp 7 = s4_7 ∧ sp 4 = s4_4 ∧ sp 6 = s4_6) (fun sp on hA hon => ?_) (fun ops4_7 => ?_)
        · refine ⟨fun o ho vs Rs f' S' w hp hf hx hS hR hs => ?_⟩
          obtain rfl := Option.some.inj ho
          obtain ⟨hv4, hR4⟩ := (spe hA.2.1 hs4_4 (hp 4 (by kernel_rfl)))
          obtain ⟨hv6, hR6⟩ := (spe hA.2.2 hs4_6 (hp 6 (by kernel_rfl)))
          rw [hA.1, hs4_7]
          refine And.intro (fun a ha => (want_none rfl a ha).trans hon.symm) (And.intro (fun _ => ?_) (fun h => by rw [hon] at h; cases h))
          have hF := fr_next (fr_next (rfl) ((hf 4 24 (by kernel_rfl) rfl).trans hv4)) ((hf 6 26 (by kernel_rfl) rfl).trans hv6)
          refine ls_fr hF ?_
          refine ls_val (v := .bool (decide (y8 ≤ a1.1))) rfl rfl (by kernel_rfl) (fun w => by kernel_rfl) ?_
          exact ls_fin s0 (.bool (decide (y8 ≤ a1.1))) (congrArg (fun z => upd z 27 _) hF.symm) ⟨rfl, rfl⟩ (sub_nil _)
        obtain ⟨s4_8, hs4_8⟩ : ∃ z : Value → Sto → Prop, z = (fun v R => v = .bool (decide (y8 ≤ a1.1)) ∧ R = s0) := ⟨_, rfl⟩
        refine have_op (l := [_, _, _, _, _, _, _, _, _, _, _, _, _, _, _, _, _, _]) shadowboxref09_Has.tab2 1 8 (fun sp => sp 8 = s4_8 ∧ sp 7 = s4_7) (fun sp on hA hon => ?_) (fun ops4_8 => ?_)
        · refine ⟨fun o ho vs Rs f' S' w hp hf hx hS hR hs => ?_⟩
          obtain rfl := Option.some.inj ho
          obtain ⟨hv7, hR7⟩ := (spe hA.2 hs4_7 (hp 7 (by kernel_rfl)))
          rw [hA.1, hs4_8]
          refine And.intro (fun a ha => (want_none rfl a ha).trans hon.symm) (And.intro (fun _ => ?_) (fun h => by rw [hon] at h; cases h))
          have hF := fr_next (rfl) ((hf 7 27 (by kernel_rfl) rfl).trans hv7)
          refine ls_fr hF ?_
          refine ls_val (v := .bool (decide (y8 ≤ a1.1))) rfl rfl (by kernel_rfl) (fun w => by kernel_rfl) ?_
          exact ls_fin s0 (.bool (decide (y8 ≤ a1.1))) (congrArg (fun z => upd z 28 _) hF.symm) ⟨rfl, rfl⟩ (sub_nil _)
        by_cases q10 : y8 ≤ a1.1
        · replace H := ite_t q10 H
          obtain ⟨s4_9, hs4_9⟩ : ∃ z : Value → Sto → Prop, z = (fun v R => v = .pointer (some ⟨g1, (0 + 1), none⟩) ∧ R = s0) := ⟨_, rfl⟩
          refine have_op (l := [_, _, _, _, _, _, _, _, _, _, _, _, _, _, _, _, _, _]) shadowboxref09_Has.tab2 1 9 (fun sp => sp 9 = s4_9 ∧ sp 8 = s4_8) (fun sp on hA hon => ?_) (fun ops4_9 => ?_)
          · refine ⟨fun o ho vs Rs f' S' w hp hf hx hS hR hs => ?_⟩
            obtain rfl := Option.some.inj ho
            obtain ⟨hv8, hR8⟩ := (spe hA.2 hs4_8 (hp 8 (by kernel_rfl)))
            rw [hA.1, hs4_9]
            refine And.intro (fun a ha => (want_is (j := 8) (t := 28) (r := true) rfl rfl (by kernel_rfl) (((hf 8 28 (by kernel_rfl) rfl).trans hv8).trans (congrArg Value.bool (show (decide (y8 ≤ a1.1)) = true from dec_t q10))) rfl a ha).trans hon.symm) (And.intro (fun _ => ?_) (fun h => by rw [hon] at h; cases h))
            have hF := fr_next (fr_next (rfl) ((hx 3 (by kernel_rfl)).trans (by kernel_rfl : (_ : Value) = .pointer (some ⟨g1, 0, none⟩)))) (((hf 8 28 (by kernel_rfl) rfl).trans hv8).trans (congrArg Value.bool (show (decide (y8 ≤ a1.1)) = true from dec_t q10)))
            refine ls_fr hF ?_
            refine ls_val (v := .pointer (some ⟨g1, (0 + 1), none⟩)) rfl rfl (by kernel_rfl) (fun w => by kernel_rfl) ?_
            exact ls_fin s0 (.pointer (some ⟨g1, (0 + 1), none⟩)) (congrArg (fun z => upd z 29 _) hF.symm) ⟨rfl, rfl⟩ (sub_nil _)
          obtain ⟨s4_10, hs4_10⟩ : ∃ z : Value → Sto → Prop, z = (fun v R => v = .int .i64 a1.2 ∧ R = s0) := ⟨_, rfl⟩
          refine have_op (l := [_, _, _, _, _, _, _, _, _, _, _, _, _, _, _, _, _, _]) shadowboxref09_Has.tab2 1 10 (fun sp => sp 10 = s4_10 ∧ sp 8 = s4_8 ∧ sp 9 = s4_9) (fun sp on hA hon => ?_) (fun ops4_10 => ?_)
          · refine ⟨fun o ho vs Rs f' S' w hp hf hx hS hR hs => ?_⟩
            obtain rfl := Option.some.inj ho
            obtain ⟨hv8, hR8⟩ := (spe hA.2.1 hs4_8 (hp 8 (by kernel_rfl)))
            obtain ⟨hv9, hR9⟩ := (spe hA.2.2 hs4_9 (hp 9 (by kernel_rfl)))
            rw [hA.1, hs4_10]
            refine And.intro (fun a ha => (want_is (j := 8) (t := 28) (r := true) rfl rfl (by kernel_rfl) (((hf 8 28 (by kernel_rfl) rfl).trans hv8).trans (congrArg Value.bool (show (decide (y8 ≤ a1.1)) = true from dec_t q10))) rfl a ha).trans hon.symm) (And.intro (fun _ => ?_) (fun h => by rw [hon] at h; cases h))
            have hF := fr_next (fr_next (rfl) (((hf 8 28 (by kernel_rfl) rfl).trans hv8).trans (congrArg Value.bool (show (decide (y8 ≤ a1.1)) = true from dec_t q10)))) ((hf 9 29 (by kernel_rfl) rfl).trans hv9)
            refine ls_fr hF ?_
            refine ls_load (a0 := ⟨g1, (0 + 1), none⟩) (v := .int .i64 a1.2) (de := (TypeDesc.int .i64)) rfl rfl (by kernel_rfl) rfl (by kernel_rfl) (by kernel_rfl) (by kernel_rfl) (fun w1 hs1 => cell_step hs1.below.bw (hs.var (k := 0) ((hS 0 (by kernel_rfl)).trans (by exact rfl)) (Sub4.trans (Sub4.all _) (Sub4.skip (n := 1) (len1 _) (Sub4.all _))))) ?_
            exact ls_fin s0 (.int .i64 a1.2) (congrArg (fun z => upd z 30 _) hF.symm) ⟨rfl, rfl⟩ (sub_nil _)
          obtain ⟨s4_11, hs4_11⟩ : ∃ z : Value → Sto → Prop, z = (fun v R => v = .slice A0 l0.length c0 ∧ R = s0) := ⟨_, rfl⟩
          refine have_op (l := [_, _, _, _, _, _, _, _, _, _, _, _, _, _, _, _, _, _]) shadowboxref09_Has.tab2 1 11 (fun sp => sp 11 = s4_11 ∧ sp 8 = s4_8) (fun sp on hA hon => ?_) (fun ops4_11 => ?_)
          · refine ⟨fun o ho vs Rs f' S' w hp hf hx hS hR hs => ?_⟩
            obtain rfl := Option.some.inj ho
            obtain ⟨hv8, hR8⟩ := (spe hA.2 hs4_8 (hp 8 (by kernel_rfl)))
            rw [hA.1, hs4_11]
            refine And.intro (fun a ha => (want_is (j := 8) (t := 28) (r := true) rfl rfl (by kernel_rfl) (((hf 8 28 (by kernel_rfl) rfl).trans hv8).trans (congrArg Value.bool (show (decide (y8 ≤ a1.1)) = true from dec_t q10))) rfl a ha).trans hon.symm) (And.intro (fun _ => ?_) (fun h => by rw [hon] at h; cases h))
            have hF := fr_next (fr_next (rfl) ((hx 0 (by kernel_rfl)).trans (by kernel_rfl : (_ : Value) = .slice A0 l0.length c0))) (((hf 8 28 (by kernel_rfl) rfl).trans hv8).trans (congrArg Value.bool (show (decide (y8 ≤ a1.1)) = true from dec_t q10)))
            refine ls_fr hF ?_
            refine ls_val (v := .slice A0 l0.length c0) rfl rfl (by kernel_rfl) (fun w => by kernel_rfl) ?_
            exact ls_fin s0 (.slice A0 l0.length c0) (congrArg (fun z => upd z 31 _) hF.symm) ⟨rfl, rfl⟩ (sub_nil _)
          obtain ⟨s4_12, hs4_12⟩ : ∃ z : Value → Sto → Prop, z = (fun v R => v = .int .i64 x5_2 ∧ R = s0) := ⟨_, rfl⟩
          refine have_op (l := [_, _, _, _, _, _, _, _, _, _, _, _, _, _, _, _, _, _]) shadowboxref09_Has.tab2 1 12 (fun sp => sp 12 = s4_12 ∧ sp 8 = s4_8) (fun sp on hA hon => ?_) (fun ops4_12 => ?_)
          · refine ⟨fun o ho vs Rs f' S' w hp hf hx hS hR hs => ?_⟩
            obtain rfl := Option.some.inj ho
            obtain ⟨hv8, hR8⟩ := (spe hA.2 hs4_8 (hp 8 (by kernel_rfl)))
            rw [hA.1, hs4_12]
            refine And.intro (fun a ha => (want_is (j := 8) (t := 28) (r := true) rfl rfl (by kernel_rfl) (((hf 8 28 (by kernel_rfl) rfl).trans hv8).trans (congrArg Value.bool (show (decide (y8 ≤ a1.1)) = true from dec_t q10))) rfl a ha).trans hon.symm) (And.intro (fun _ => ?_) (fun h => by rw [hon] at h; cases h))
            have hF := fr_next (fr_next (rfl) ((hx 5 (by kernel_rfl)).trans (by kernel_rfl : (_ : Value) = .int .i64 x5_2))) (((hf 8 28 (by kernel_rfl) rfl).trans hv8).trans (congrArg Value.bool (show (decide (y8 ≤ a1.1)) = true from dec_t q10)))
            refine ls_fr hF ?_
            refine ls_val (v := .int .i64 x5_2) rfl rfl (by kernel_rfl) (fun w => by kernel_rfl) ?_
            exact ls_fin s0 (.int .i64 x5_2) (congrArg (fun z => upd z 32 _) hF.symm) ⟨rfl, rfl⟩ (sub_nil _)
          obtain ⟨ad11, hA12⟩ := ido_at (T := T31) (l := l0) (i := x5_2) R0 q5 q2
          obtain ⟨s4_13, hs4_13⟩ : ∃ z : Value → Sto → Prop, z = (fun v R => v = .pointer (some (ad11.add ((x5_2).toNat * 2))) ∧ R = s0) := ⟨_, rfl⟩
          refine have_op (l := [_, _, _, _, _, _, _, _, _, _, _, _, _, _, _, _, _, _]) shadowboxref09_Has.tab2 1 13 (fun sp => sp 13 = s4_13 ∧ sp 8 = s4_8 ∧ sp 11 = s4_11 ∧ sp 12 = s4_12) (fun sp on hA hon => ?_) (fun ops4_13 => ?_)
          · refine ⟨fun o ho vs Rs f' S' w hp hf hx hS hR hs => ?_⟩
            obtain rfl := Option.some.inj ho
            obtain ⟨hv8, hR8⟩ := (spe hA.2.1 hs4_8 (hp 8 (by kernel_rfl)))
            obtain ⟨hv11, hR11⟩ := (spe hA.2.2.1 hs4_11 (hp 11 (by kernel_rfl)))
            obtain ⟨hv12, hR12⟩ := (spe hA.2.2.2 hs4_12 (hp 12 (by kernel_rfl)))
            rw [hA.1, hs4_13]
            refine And.intro (fun a ha => (want_is (j := 8) (t := 28) (r := true) rfl rfl (by kernel_rfl) (((hf 8 28 (by kernel_rfl) rfl).trans hv8).trans (congrArg Value.bool (show (decide (y8 ≤ a1.1)) = true from dec_t q10))) rfl a ha).trans hon.symm) (And.intro (fun _ => ?_) (fun h => by rw [hon] at h; cases h))
            have hF := fr_next (fr_next (fr_next (rfl) (((hf 8 28 (by kernel_rfl) rfl).trans hv8).trans (congrArg Value.bool (show (decide (y8 ≤ a1.1)) = true from dec_t q10)))) ((hf 11 31 (by kernel_rfl) rfl).trans hv11)) ((hf 12 32 (by kernel_rfl) rfl).trans hv12)
            refine ls_fr hF ?_
            refine ls_idxv T31 (A := A0) (c := c0) (l := l0) (k := .i64) (i := x5_2) (z := 2) (ad := ad11) rfl rfl (by kernel_rfl) hA12 rfl (by kernel_rfl) (by kernel_rfl) (by kernel_rfl) (by kernel_rfl) q5 q2 ?_
            exact ls_fin s0 (.pointer (some (ad11.add ((x5_2).toNat * 2)))) (congrArg (fun z => upd z 33 _) hF.symm) ⟨rfl, rfl⟩ (sub_nil _)
          obtain ⟨s4_14, hs4_14⟩ : ∃ z : Value → Sto → Prop, z = (fun v R => v = .pointer (some (ad11.add (((x5_2).toNat * 2) + 1))) ∧ R = s0) := ⟨_, rfl⟩
          refine have_op (l := [_, _, _, _, _, _, _, _, _, _, _, _, _, _, _, _, _, _]) shadowboxref09_Has.tab2 1 14 (fun sp => sp 14 = s4_14 ∧ sp 8 = s4_8 ∧ sp 13 = s4_13) (fun sp on hA hon => ?_) (fun ops4_14 => ?_)
          · refine ⟨fun o ho vs Rs f' S' w hp hf hx hS hR hs => ?_⟩
            obtain rfl := Option.some.inj ho
            obtain ⟨hv8, hR8⟩ := (spe hA.2.1 hs4_8 (hp 8 (by kernel_rfl)))
            obtain ⟨hv13, hR13⟩ := (spe hA.2.2 hs4_13 (hp 13 (by kernel_rfl)))
            rw [hA.1, hs4_14]
            refine And.intro (fun a ha => (want_is (j := 8) (t := 28) (r := true) rfl rfl (by kernel_rfl) (((hf 8 28 (by kernel_rfl) rfl).trans hv8).trans (congrArg Value.bool (show (decide (y8 ≤ a1.1)) = true from dec_t q10))) rfl a ha).trans hon.symm) (And.intro (fun _ => ?_) (fun h => by rw [hon] at h; cases h))
            have hF := fr_next (fr_next (rfl) (((hf 8 28 (by kernel_rfl) rfl).trans hv8).trans (congrArg Value.bool (show (decide (y8 ≤ a1.1)) = true from dec_t q10)))) ((hf 13 33 (by kernel_rfl) rfl).trans hv13)
            refine ls_fr hF ?_
            refine ls_fieldm (ad := ad11) (off := ((x5_2).toNat * 2)) rfl rfl (by kernel_rfl) 1 (fun w => by kernel_rfl) ?_
            exact ls_fin s0 (.pointer (some (ad11.add (((x5_2).toNat * 2) + 1)))) (congrArg (fun z => upd z 34 _) hF.symm) ⟨rfl, rfl⟩ (sub_nil _)
          obtain ⟨y13, hy14, H⟩ := lt_some H
          obtain ⟨s4_15, hs4_15⟩ : ∃ z : Value → Sto → Prop, z = (fun v R => v = .int .i64 y13 ∧ R = s0) := ⟨_, rfl⟩
          refine have_op (l := [_, _, _, _, _, _, _, _, _, _, _, _, _, _, _, _, _, _]) shadowboxref09_Has.tab2 1 15 (fun sp => sp 15 = s4_15 ∧ sp 8 = s4_8 ∧ sp 14 = s4_14) (fun sp on hA hon => ?_) (fun ops4_15 => ?_)
          · refine ⟨fun o ho vs Rs f' S' w hp hf hx hS hR hs => ?_⟩
            obtain rfl := Option.some.inj ho
            obtain ⟨hv8, hR8⟩ := (spe hA.2.1 hs4_8 (hp 8 (by kernel_rfl)))
            obtain ⟨hv14, hR14⟩ := (spe hA.2.2 hs4_14 (hp 14 (by kernel_rfl)))
            rw [hA.1, hs4_15]
            refine And.intro (fun a ha => (want_is (j := 8) (t := 28) (r := true) rfl rfl (by kernel_rfl) (((hf 8 28 (by kernel_rfl) rfl).trans hv8).trans (congrArg Value.bool (show (decide (y8 ≤ a1.1)) = true from dec_t q10))) rfl a ha).trans hon.symm) (And.intro (fun _ => ?_) (fun h => by rw [hon] at h; cases h))
            have hF := fr_next (fr_next (rfl) (((hf 8 28 (by kernel_rfl) rfl).trans hv8).trans (congrArg Value.bool (show (decide (y8 ≤ a1.1)) = true from dec_t q10)))) ((hf 14 34 (by kernel_rfl) rfl).trans hv14)
            refine ls_fr hF ?_
            refine ls_load (a0 := (ad11.add (((x5_2).toNat * 2) + 1))) (v := .int .i64 (((l0).getD (x5_2).toNat ((0 : Int), (0 : Int))).2)) (de := (TypeDesc.int .i64)) rfl rfl (by kernel_rfl) rfl (by kernel_rfl) (by kernel_rfl) (by kernel_rfl) (fun w1 hs1 => (Rd.step (hs.old R0) hs1.below.bw).at hA12 (Sub4.trans (em_sub T31 l0 (i := (x5_2).toNat) (by have h0 : (0 : Int) ≤ x5_2 := q5; have h1 : x5_2 < (l0.length : Int) := q2; omega)) (Sub4.skip (n := 1) (len1 _) (Sub4.all _)))) ?_
            refine ls_ren 35 (v := .int .i64 (((l0).getD (x5_2).toNat ((0 : Int), (0 : Int))).2)) (v' := .int .i64 y13) (by kernel_rfl) (by rw [hy14]) ?_
            exact ls_fin s0 (.int .i64 y13) ((upd_upd _ _ _ _).trans (congrArg (fun z => upd z 35 _) hF.symm)) ⟨rfl, rfl⟩ (sub_nil _)
          refine cs_draw shadowboxref09_Has.tab2 16 1 (spl [s4_0, s4_1, s4_2, s4_3, s4_4, s4_5, s4_6, s4_7, s4_8, s4_9, s4_10, s4_11, s4_12, s4_13, s4_14, s4_15]) (onl [true, true, true, true, true, true, true, true, true, true, true, true, true, true, true, true]) (by kernel_rfl) (by kernel_rfl) (by kernel_rfl) (by kernel_rfl) (rs := [_, _]) rfl (by kernel_rfl) (by kernel_rfl) (all_snoc (all_snoc (all_snoc (all_snoc (all_snoc (all_snoc (all_snoc (all_snoc (all_snoc (all_snoc (all_snoc (all_snoc (all_snoc (all_snoc (all_snoc (all_snoc (all_nil) (ops4_0 _ _ rfl rfl)) (ops4_1 _ _ rfl rfl)) (ops4_2 _ _ ⟨rfl, rfl, rfl⟩ rfl)) (ops4_3 _ _ ⟨rfl, rfl⟩ rfl)) (ops4_4 _ _ ⟨rfl, rfl⟩ rfl)) (ops4_5 _ _ rfl rfl)) (ops4_6 _ _ ⟨rfl, rfl⟩ rfl)) (ops4_7 _ _ ⟨rfl, rfl, rfl⟩ rfl)) (ops4_8 _ _ ⟨rfl, rfl⟩ rfl)) (ops4_9 _ _ ⟨rfl, rfl⟩ rfl)) (ops4_10 _ _ ⟨rfl, rfl, rfl⟩ rfl)) (ops4_11 _ _ ⟨rfl, rfl⟩ rfl)) (ops4_12 _ _ ⟨rfl, rfl⟩ rfl)) (ops4_13 _ _ ⟨rfl, rfl, rfl, rfl⟩ rfl)) (ops4_14 _ _ ⟨rfl, rfl, rfl⟩ rfl)) (ops4_15 _ _ ⟨rfl, rfl, rfl⟩ rfl)) ?_
          intro vs Rs f' S' hp hf hx hS hR
          obtain ⟨hv8, hR8⟩ := (spe rfl hs4_8 (hp 8 (by kernel_rfl)))
          obtain ⟨hv9, hR9⟩ := (spe rfl hs4_9 (hp 9 (by kernel_rfl)))
          obtain ⟨hv10, hR10⟩ := (spe rfl hs4_10 (hp 10 (by kernel_rfl)))
          obtain ⟨hv11, hR11⟩ := (spe rfl hs4_11 (hp 11 (by kernel_rfl)))
          obtain ⟨hv12, hR12⟩ := (spe rfl hs4_12 (hp 12 (by kernel_rfl)))
          obtain ⟨hv13, hR13⟩ := (spe rfl hs4_13 (hp 13 (by kernel_rfl)))
          obtain ⟨hv14, hR14⟩ := (spe rfl hs4_14 (hp 14 (by kernel_rfl)))
          obtain ⟨hv15, hR15⟩ := (spe rfl hs4_15 (hp 15 (by kernel_rfl)))
          refine ls_fr (F := upd (upd (upd (upd (upd (upd (upd (upd (upd (upd (upd f' 0 (.slice A0 l0.length c0)) 3 (.pointer (some ⟨g1, 0, none⟩))) 5 (.int .i64 x5_2)) 28 (.bool (decide (y8 ≤ a1.1)))) 29 (.pointer (some ⟨g1, (0 + 1), none⟩))) 30 (.int .i64 a1.2)) 31 (.slice A0 l0.length c0)) 32 (.int .i64 x5_2)) 33 (.pointer (some (ad11.add ((x5_2).toNat * 2))))) 34 (.pointer (some (ad11.add (((x5_2).toNat * 2) + 1))))) 35 (.int .i64 y13)) (fr_next (fr_next (fr_next (fr_next (fr_next (fr_next (fr_next (fr_next (fr_next (fr_next (fr_next (rfl) ((hx 0 (by kernel_rfl)).trans (by kernel_rfl : (_ : Value) = .slice A0 l0.length c0))) ((hx 3 (by kernel_rfl)).trans (by kernel_rfl : (_ : Value) = .pointer (some ⟨g1, 0, none⟩)))) ((hx 5 (by kernel_rfl)).trans (by kernel_rfl : (_ : Value) = .int .i64 x5_2))) ((hf 8 28 (by kernel_rfl) rfl).trans hv8)) ((hf 9 29 (by kernel_rfl) rfl).trans hv9)) ((hf 10 30 (by kernel_rfl) rfl).trans hv10)) ((hf 11 31 (by kernel_rfl) rfl).trans hv11)) ((hf 12 32 (by kernel_rfl) rfl).trans hv12)) ((hf 13 33 (by kernel_rfl) rfl).trans hv13)) ((hf 14 34 (by kernel_rfl) rfl).trans hv14)) ((hf 15 35 (by kernel_rfl) rfl).trans hv15)) ?_
          refine ls_sub (sput s0 0 (some (Ck.var 31 g1 (([Value.int .i64 a1.1] ++ [Value.int .i64 a1.2]))))) (sub_put ((hS 0 (by kernel_rfl)).trans (by exact rfl)) (sub_nil _)) ?_
          refine ls_know (c := true) (dec_t q10) 28 (by kernel_rfl) ?_
          refine ls_on (j := 8) (t := 28) (b := true) rfl rfl (by kernel_rfl) (by kernel_rfl) ?_
          refine ls_val (v := .bool (decide (a1.2 ≤ y13))) rfl rfl (by kernel_rfl) (fun w => by kernel_rfl) ?_
          refine ls_val (v := .bool (decide (a1.2 ≤ y13))) rfl rfl (by kernel_rfl) (fun w => by kernel_rfl) ?_
          refine ls_end ?_
          refine qn_then ?_
          by_cases q15 : a1.2 ≤ y13
          · replace H := ite_t q15 H
            refine cs_know (c := true) (dec_t q15) 37 (by kernel_rfl) ?_
            refine cs_true (by kernel_rfl) ?_
            refine cs_seq ?_
            refine cs_region (l := [_]) ?_
            refine ls_val (v := .bool true) rfl rfl (by kernel_rfl) (fun w => by kernel_rfl) ?_
            refine ls_end ?_
            refine qn_then ?_
            refine cs_ret' ?_
            refine qr_block ?_
            refine qr_then ?_
            refine qr_then ?_
            refine qr_block ?_
            refine qr_then ?_
            obtain rfl := Option.some.inj H
            refine qr_res (rs := [_]) rfl (fun w' hs => ⟨[.bool true], (res_tmp (by kernel_rfl) (.nil)), (), rfl, hs.pick (ts := []) (cs := []) trivial (by decide)⟩)
          · replace H := ite_f q15 H
            refine cs_know (c := false) (dec_f q15) 37 (by kernel_rfl) ?_
            refine cs_false (by kernel_rfl) ?_
            refine cs_skip' ?_
            refine qn_block ?_
            refine qn_then ?_
            refine cs_region (l := [_, _, _]) ?_
            refine ls_val (v := .int .i64 x5_2) rfl rfl (by kernel_rfl) (fun w => by kernel_rfl) ?_
            refine ls_val (v := .int .i64 (IntKind.wrap .i64 (x5_2 + (1 : Int)))) rfl rfl (by kernel_rfl) (fun w => by kernel_rfl) ?_
            refine ls_val (v := .int .i64 (IntKind.wrap .i64 (x5_2 + (1 : Int)))) rfl rfl (by kernel_rfl) (fun w => by kernel_rfl) ?_
            refine ls_end ?_
            refine qn_again k2 (sput s0 0 (some (Ck.var 31 g1 (([Value.int .i64 a1.1] ++ [Value.int .i64 a1.2]))))) (Nat.le_refl _) ⟨_, (IntKind.wrap .i64 (x5_2 + (1 : Int))), fr_next (fr_next (fr_next (rfl) (by kernel_rfl)) (by kernel_rfl)) (by kernel_rfl), rfl, H⟩ (sub_put (by exact rfl) (sub_nil _))
        · replace H := ite_f q10 H
          refine cs_draw shadowboxref09_Has.tab2 16 1 (spl [s4_0, s4_1, s4_2, s4_3, s4_4, s4_5, s4_6, s4_7, s4_8, spu, spu, spu, spu, spu, spu, spu]) (onl [true, true, true, true, true, true, true, true, true, false, false, false, false, false, false, false]) (by kernel_rfl) (by kernel_rfl) (by kernel_rfl) (by kernel_rfl) (rs := [_, _]) rfl (by kernel_rfl) (by kernel_rfl) (all_snoc (all_snoc (all_snoc (all_snoc (all_snoc (all_snoc (all_snoc (all_snoc (all_snoc (all_snoc (all_snoc (all_snoc (all_snoc (all_snoc (all_snoc (all_snoc (all_nil) (ops4_0 _ _ rfl rfl)) (ops4_1 _ _ rfl rfl)) (ops4_2 _ _ ⟨rfl, rfl, rfl⟩ rfl)) (ops4_3 _ _ ⟨rfl, rfl⟩ rfl)) (ops4_4 _ _ ⟨rfl, rfl⟩ rfl)) (ops4_5 _ _ rfl rfl)) (ops4_6 _ _ ⟨rfl, rfl⟩ rfl)) (ops4_7 _ _ ⟨rfl, rfl, rfl⟩ rfl)) (ops4_8 _ _ ⟨rfl, rfl⟩ rfl)) (op_offi 9 8 28 true rfl rfl (by kernel_rfl) (by kernel_rfl) rfl (fun v R h => by rw [hs4_8] at h; obtain ⟨h, _⟩ := h; exact h.trans (congrArg Value.bool (show (decide (y8 ≤ a1.1)) = false from dec_f q10))) rfl rfl)) (op_offi 10 8 28 true rfl rfl (by kernel_rfl) (by kernel_rfl) rfl (fun v R h => by rw [hs4_8] at h; obtain ⟨h, _⟩ := h; exact h.trans (congrArg Value.bool (show (decide (y8 ≤ a1.1)) = false from dec_f q10))) rfl rfl)) (op_offi 11 8 28 true rfl rfl (by kernel_rfl) (by kernel_rfl) rfl (fun v R h => by rw [hs4_8] at h; obtain ⟨h, _⟩ := h; exact h.trans (congrArg Value.bool (show (decide (y8 ≤ a1.1)) = false from dec_f q10))) rfl rfl)) (op_offi 12 8 28 true rfl rfl (by kernel_rfl) (by kernel_rfl) rfl (fun v R h => by rw [hs4_8] at h; obtain ⟨h, _⟩ := h; exact h.trans (congrArg Value.bool (show (decide (y8 ≤ a1.1)) = false from dec_f q10))) rfl rfl)) (op_offi 13 8 28 true rfl rfl (by kernel_rfl) (by kernel_rfl) rfl (fun v R h => by rw [hs4_8] at h; obtain ⟨h, _⟩ := h; exact h.trans (congrArg Value.bool (show (decide (y8 ≤ a1.1)) = false from dec_f q10))) rfl rfl)) (op_offi 14 8 28 true rfl rfl (by kernel_rfl) (by kernel_rfl) rfl (fun v R h => by rw [hs4_8] at h; obtain ⟨h, _⟩ := h; exact h.trans (congrArg Value.bool (show (decide (y8 ≤ a1.1)) = false from dec_f q10))) rfl rfl)) (op_offi 15 8 28 true rfl rfl (by kernel_rfl) (by kernel_rfl) rfl (fun v R h => by rw [hs4_8] at h; obtain ⟨h, _⟩ := h; exact h.trans (congrArg Value.bool (show (decide (y8 ≤ a1.1)) = false from dec_f q10))) rfl rfl)) ?_
          intro vs Rs f' S' hp hf hx hS hR
          obtain ⟨hv8, hR8⟩ := (spe rfl hs4_8 (hp 8 (by kernel_rfl)))
          obtain ⟨hv9, hR9⟩ := (spe rfl rfl (hp 9 (by kernel_rfl)) : spu _ _)
          obtain ⟨hv10, hR10⟩ := (spe rfl rfl (hp 10 (by kernel_rfl)) : spu _ _)
          obtain ⟨hv11, hR11⟩ := (spe rfl rfl (hp 11 (by kernel_rfl)) : spu _ _)
          obtain ⟨hv12, hR12⟩ := (spe rfl rfl (hp 12 (by kernel_rfl)) : spu _ _)
          obtain ⟨hv13, hR13⟩ := (spe rfl rfl (hp 13 (by kernel_rfl)) : spu _ _)
          obtain ⟨hv14, hR14⟩ := (spe rfl rfl (hp 14 (by kernel_rfl)) : spu _ _)
          obtain ⟨hv15, hR15⟩ := (spe rfl rfl (hp 15 (by kernel_rfl)) : spu _ _)
          refine ls_fr (F := upd (upd (upd (upd f' 0 (.slice A0 l0.length c0)) 3 (.pointer (some ⟨g1, 0, none⟩))) 5 (.int .i64 x5_2)) 28 (.bool (decide (y8 ≤ a1.1)))) (fr_next (fr_next (fr_next (fr_next (rfl) ((hx 0 (by kernel_rfl)).trans (by kernel_rfl : (_ : Value) = .slice A0 l0.length c0))) ((hx 3 (by kernel_rfl)).trans (by kernel_rfl : (_ : Value) = .pointer (some ⟨g1, 0, none⟩)))) ((hx 5 (by kernel_rfl)).trans (by kernel_rfl : (_ : Value) = .int .i64 x5_2))) ((hf 8 28 (by kernel_rfl) rfl).trans hv8)) ?_
          refine ls_sub (sput s0 0 (some (Ck.var 31 g1 (([Value.int .i64 a1.1] ++ [Value.int .i64 a1.2]))))) (sub_put ((hS 0 (by kernel_rfl)).trans (by exact rfl)) (sub_nil _)) ?_
          refine ls_know (c := false) (dec_f q10) 28 (by kernel_rfl) ?_
          refine ls_off (j := 8) (t := 28) (b := true) (c := false) rfl rfl (by kernel_rfl) (by kernel_rfl) rfl rfl (by kernel_rfl) ?_
          refine ls_val (v := .bool false) rfl rfl (by kernel_rfl) (fun w => by kernel_rfl) ?_
          refine ls_end ?_
          refine qn_then ?_
          refine cs_false (by kernel_rfl) ?_
          refine cs_skip' ?_
          refine qn_block ?_
          refine qn_then ?_
          refine cs_region (l := [_, _, _]) ?_
          refine ls_val (v := .int .i64 x5_2) rfl rfl (by kernel_rfl) (fun w => by kernel_rfl) ?_
          refine ls_val (v := .int .i64 (IntKind.wrap .i64 (x5_2 + (1 : Int)))) rfl rfl (by kernel_rfl) (fun w => by kernel_rfl) ?_
          refine ls_val (v := .int .i64 (IntKind.wrap .i64 (x5_2 + (1 : Int)))) rfl rfl (by kernel_rfl) (fun w => by kernel_rfl) ?_
          refine ls_end ?_
          refine qn_again k2 (sput s0 0 (some (Ck.var 31 g1 (([Value.int .i64 a1.1] ++ [Value.int .i64 a1.2]))))) (Nat.le_refl _) ⟨_, (IntKind.wrap .i64 (x5_2 + (1 : Int))), fr_next (fr_next (fr_next (rfl) (by kernel_rfl)) (by kernel_rfl)) (by kernel_rfl), rfl, H⟩ (sub_put (by exact rfl) (sub_nil _))
      · replace H := ite_f q2 H
        refine cs_know (c := false) (dec_f q2) 17 (by kernel_rfl) ?_
        refine cs_false (by kernel_rfl) ?_
        refine cs_exit' ?_
        refine qx_then ?_
        refine qx_then ?_
        refine qx_same ?_
        refine qn_then ?_
        refine cs_seq ?_
        refine cs_region (l := [_]) ?_
        refine ls_val (v := .bool false) rfl rfl (by kernel_rfl) (fun w => by kernel_rfl) ?_
        refine ls_end ?_
        refine qn_then ?_
        refine cs_ret' ?_
        obtain rfl := Option.some.inj H
        refine qr_res (rs := [_]) rfl (fun w' hs => ⟨[.bool false], (res_tmp (by kernel_rfl) (.nil)), (), rfl, hs.pick (ts := []) (cs := []) trivial (by decide)⟩)

/-! ### shadowbox/shadowboxref09.Meets: function 21 -/
def shadowboxref09_Meets.tab2 : List (List Nat) := [[], [], [0, 1], [0, 1, 2], [0, 1, 2, 3], [], [5], [0, 1, 2, 3, 4, 5, 6], [0, 1, 2, 3, 4, 5, 6, 7], [0, 1, 2, 3, 4, 5, 6, 7, 8], [0, 1, 2, 3, 4, 5, 6, 7, 8, 9], [0, 1, 2, 3, 4, 5, 6, 7, 8], [0, 1, 2, 3, 4, 5, 6, 7, 8], [0, 1, 2, 3, 4, 5, 6, 7, 8, 11, 12], [0, 1, 2, 3, 4, 5, 6, 7, 8, 11, 12, 13], [0, 1, 2, 3, 4, 5, 6, 7, 8, 11, 12, 13, 14], [0, 1, 2, 3, 4, 5, 6, 7, 8, 9, 10, 11, 12, 13, 14, 15], [0, 1, 2, 3, 4, 5, 6, 7, 8, 9, 10, 11, 12, 13, 14, 15, 16]]
def shadowboxref09_Meets.lo2 (l0 : List (Int × Int)) (a1 : (Int × Int)) : Nat → Int → Option (Bool)
  | 0, _ => none
  | k2 + 1, x5_2 => (if x5_2 < (l0.length : Int) then (if 0 ≤ x5_2 then lt (((l0).getD (x5_2).toNat ((0 : Int), (0 : Int))).1) fun y8 => (if y8 < a1.2 then lt (((l0).getD (x5_2).toNat ((0 : Int), (0 : Int))).2) fun y13 => (if a1.1 < y13 then some true else (shadowboxref09_Meets.lo2 l0 a1 k2) (IntKind.wrap .i64 (x5_2 + (1 : Int)))) else (shadowboxref09_Meets.lo2 l0 a1 k2) (IntKind.wrap .i64 (x5_2 + (1 : Int)))) else none) else some false)
def shadowboxref09_Meets.jo1 (k : Nat) (l0 : List (Int × Int)) (a1 : (Int × Int)) : Option (Bool) := shadowboxref09_Meets.lo2 l0 a1 k (0 : Int)
def shadowboxref09_Meets.f (k : Nat) (l0 : List (Int × Int)) (a1 : (Int × Int)) : Option (Bool) :=
  (shadowboxref09_Valid.f k l0).bind fun t16 => (if t16 = true then (shadowboxref09_right.f k a1).bind fun t20 => (if t20 = true then (shadowboxref09_Meets.jo1 k l0 a1) else some false) else some false)
set_option maxRecDepth 100000 in
set_option maxHeartbeats 4000000 in
theorem shadowboxref09_Meets.calls (k : Nat) (A0 : Option Addr) (c0 : Nat) (l0 : List (Int × Int)) (a1 : (Int × Int)) (r : Bool) (b : Bs) (hs0 : St b (stl []) b.w) (R0 : Ro b A0 (em T31 l0)) (C0 : l0.length ≤ c0) (H : shadowboxref09_Meets.f k l0 a1 = some r) :
    Calls Try.prog 21 #[.slice A0 l0.length c0, .agg ⟨([Value.int .i64 a1.1] ++ [Value.int .i64 a1.2])⟩] b.w fun e w' => ∃ x : Unit, e = .returned (.bool r) ∧ St b (stl []) w' := by
  unfold shadowboxref09_Meets.f at H
  refine enterb (n := 38) Try.func21 rfl (by kernel_rfl) (by kernel_rfl) hs0 ?_
  refine cs_sub (s0) (sub_nil _) ?_
  refine cs_seq ?_
  refine cs_region (l := [_, _]) ?_
  refine ls_new rfl rfl (by kernel_rfl) 0 (fun g => .pointer (some ⟨g, 0, none⟩)) (.cells ⟨([Value.int .i64 a1.1] ++ [Value.int .i64 a1.2])⟩ 31) (fun w => by kernel_rfl) ?_
  intro g1
  refine ls_val (v := .bool false) rfl rfl (by kernel_rfl) (fun w => by kernel_rfl) ?_
  refine ls_end ?_
  refine qn_then ?_
  refine cs_cut (fun f S => ∃ (fR : Fr), f = upd (upd fR 0 (.slice A0 l0.length c0)) 3 (.pointer (some ⟨g1, 0, none⟩)) ∧ S = sput s0 0 (some (Ck.var 31 g1 (([Value.int .i64 a1.1] ++ [Value.int .i64 a1.2])))) ∧ shadowboxref09_Meets.jo1 k l0 a1 = some r) ?_ ?_
  · skip
    refine cs_seq ?_
    refine cs_region (l := [_, _, _, _, _, _, _, _]) ?_
    refine ls_val (v := .slice A0 l0.length c0) rfl rfl (by kernel_rfl) (fun w => by kernel_rfl) ?_
    obtain ⟨t16, hc17, H⟩ := bind_some H
    refine ls_callb (fid := 22) (vals := #[.slice A0 l0.length c0]) (X := Unit) (fun x => .bool t16) (fun x => stl []) [] [] [] [] 1 rfl rfl (by kernel_rfl) (fun w => by kernel_rfl) trivial trivial (by decide) (fun w hs hb => shadowboxref09_Valid.calls k A0 c0 l0 t16 (lent b w [] []) hb (hs.ro R0 _ _) C0 hc17) ?_
    intro x18
    refine ls_val (v := .bool (!t16)) rfl rfl (by kernel_rfl) (fun w => by kernel_rfl) ?_
    refine ls_val (v := .bool (!t16)) rfl rfl (by kernel_rfl) (fun w => by kernel_rfl) ?_
    by_cases q19 : t16 = true
    · replace H := ite_t q19 H
      refine ls_know (c := false) (congrArg Bool.not (q19)) 9 (by kernel_rfl) ?_
      refine ls_on (j := 3) (t := 9) (b := false) rfl rfl (by kernel_rfl) (by kernel_rfl) ?_
      refine ls_loadagg (a := ⟨g1, 0, none⟩) (sub := ([Value.int .i64 a1.1] ++ [Value.int .i64 a1.2])) rfl rfl (by kernel_rfl) rfl (by kernel_rfl) (by kernel_rfl) (by kernel_rfl) (len_app (len1 _) (len1 _)) (fun w hs => (hs.vars (k := 0) (by exact rfl) (Sub4.all _))) ?_
      refine ls_on (j := 3) (t := 9) (b := false) rfl rfl (by kernel_rfl) (by kernel_rfl) ?_
      obtain ⟨t20, hc21, H⟩ := bind_some H
      refine ls_callb (fid := 45) (vals := #[.agg ⟨([Value.int .i64 a1.1] ++ [Value.int .i64 a1.2])⟩]) (X := Unit) (fun x => .bool t20) (fun x => stl []) [] [] [] [] 1 rfl rfl (by kernel_rfl) (fun w => by kernel_rfl) trivial trivial (by decide) (fun w hs hb => shadowboxref09_right.calls k a1 t20 (lent b w [] []) hb  hc21) ?_
      intro x22
      refine ls_on (j := 3) (t := 9) (b := false) rfl rfl (by kernel_rfl) (by kernel_rfl) ?_
      refine ls_val (v := .bool (!t20)) rfl rfl (by kernel_rfl) (fun w => by kernel_rfl) ?_
      refine ls_val (v := .bool (!t20)) rfl rfl (by kernel_rfl) (fun w => by kernel_rfl) ?_
      refine ls_end ?_
      refine qn_then ?_
      by_cases q23 : t20 = true
      · replace H := ite_t q23 H
        refine cs_know (c := false) (congrArg Bool.not (q23)) 13 (by kernel_rfl) ?_
        refine cs_false (by kernel_rfl) ?_
        refine cs_skip' ?_
        refine qn_meet (sput s0 0 (some (Ck.var 31 g1 (([Value.int .i64 a1.1] ++ [Value.int .i64 a1.2]))))) ⟨_, fr_next (fr_next (rfl) (by kernel_rfl)) (by kernel_rfl), rfl, H⟩ (sub_put (by exact rfl) (sub_nil _))
      · replace H := ite_f q23 H
        refine cs_know (c := true) (congrArg Bool.not (Bool.eq_false_iff.mpr q23)) 13 (by kernel_rfl) ?_
        refine cs_true (by kernel_rfl) ?_
        refine cs_seq ?_
        refine cs_region (l := [_]) ?_
        refine ls_val (v := .bool false) rfl rfl (by kernel_rfl) (fun w => by kernel_rfl) ?_
        refine ls_end ?_
        refine qn_then ?_
        refine cs_ret' ?_
        refine qr_then ?_
        obtain rfl := Option.some.inj H
        refine qr_res (rs := [_]) rfl (fun w' hs => ⟨[.bool false], (res_tmp (by kernel_rfl) (.nil)), (), rfl, hs.pick (ts := []) (cs := []) trivial (by decide)⟩)
    · replace H := ite_f q19 H
      refine ls_know (c := true) (congrArg Bool.not (Bool.eq_false_iff.mpr q19)) 9 (by kernel_rfl) ?_
      refine ls_off (j := 3) (t := 9) (b := false) (c := true) rfl rfl (by kernel_rfl) (by kernel_rfl) rfl rfl (by kernel_rfl) ?_
      refine ls_off (j := 3) (t := 9) (b := false) (c := true) rfl rfl (by kernel_rfl) (by kernel_rfl) rfl rfl (by kernel_rfl) ?_
      refine ls_off (j := 3) (t := 9) (b := false) (c := true) rfl rfl (by kernel_rfl) (by kernel_rfl) rfl rfl (by kernel_rfl) ?_
      refine ls_val (v := .bool true) rfl rfl (by kernel_rfl) (fun w => by kernel_rfl) ?_
      refine ls_end ?_
      refine qn_then ?_
      refine cs_true (by kernel_rfl) ?_
      refine cs_seq ?_
      refine cs_region (l := [_]) ?_
      refine ls_val (v := .bool false) rfl rfl (by kernel_rfl) (fun w => by kernel_rfl) ?_
      refine ls_end ?_
      refine qn_then ?_
      refine cs_ret' ?_
      refine qr_then ?_
      obtain rfl := Option.some.inj H
      refine qr_res (rs := [_]) rfl (fun w' hs => ⟨[.bool false], (res_tmp (by kernel_rfl) (.nil)), (), rfl, hs.pick (ts := []) (cs := []) trivial (by decide)⟩)
  · rintro f S ⟨fr1, rfl, rfl, H⟩
    replace H : (shadowboxref09_Meets.lo2 l0 a1 k (0 : Int)) = some r := H
    refine cs_seq ?_
    refine cs_seq ?_
    refine cs_region (l := [_]) ?_
    refine ls_val (v := .int .i64 (0 : Int)) rfl rfl (by kernel_rfl) (fun w => by kernel_rfl) ?_
    refine ls_end ?_
    refine qn_then ?_
    refine cs_block ?_
    refine cs_sub (sput s0 0 (some (Ck.var 31 g1 (([Value.int .i64 a1.1] ++ [Value.int .i64 a1.2]))))) (sub_put (by exact rfl) (sub_nil _)) ?_
    refine cs_loop (fun kk f S => ∃ (fR : Fr) (x5_2 : Int), f = upd (upd (upd fR 0 (.slice A0 l0.length c0)) 3 (.pointer (some ⟨g1, 0, none⟩))) 5 (.int .i64 x5_2) ∧ S = sput s0 0 (some (Ck.var 31 g1 (([Value.int .i64 a1.1] ++ [Value.int .i64 a1.2])))) ∧ shadowboxref09_Meets.lo2 l0 a1 kk x5_2 = some r) k ?_ ?_ ?_
    · exact ⟨_, (0 : Int), fr_next (fr_next (fr_next (rfl) (by kernel_rfl)) (by kernel_rfl)) (by kernel_rfl), rfl, H⟩
    · rintro f S ⟨fr2, x5_2, rfl, rfl, H⟩; cases H
    · rintro k2 f S ⟨fr2, x5_2, rfl, rfl, H⟩
      replace H : ((if x5_2 < (l0.length : Int) then (if 0 ≤ x5_2 then lt (((l0).getD (x5_2).toNat ((0 : Int), (0 : Int))).1) fun y8 => (if y8 < a1.2 then lt (((l0).getD (x5_2).toNat ((0 : Int), (0 : Int))).2) fun y13 => (if a1.1 < y13 then some true else (shadowboxref09_Meets.lo2 l0 a1 k2) (IntKind.wrap .i64 (x5_2 + (1 : Int)))) else (shadowboxref09_Meets.lo2 l0 a1 k2) (IntKind.wrap .i64 (x5_2 + (1 : Int)))) else none) else some false)) = some r := H
      refine cs_seq ?_
      refine cs_seq ?_
      refine cs_region (l := [_, _, _, _]) ?_
      refine ls_val (v := .int .i64 x5_2) rfl rfl (by kernel_rfl) (fun w => by kernel_rfl) ?_
      refine ls_val (v := .slice A0 l0.length c0) rfl rfl (by kernel_rfl) (fun w => by kernel_rfl) ?_
      refine ls_val (v := .int .i64 (l0.length : Int)) rfl rfl (by kernel_rfl) (fun w => by kernel_rfl) ?_
      refine ls_val (v := .bool (decide (x5_2 < (l0.length : Int)))) rfl rfl (by kernel_rfl) (fun w => by kernel_rfl) ?_
      refine ls_end ?_
      refine qn_then ?_
      by_cases q2 : x5_2 < (l0.length : Int)
      · replace H := ite_t q2 H
        refine cs_know (c := true) (dec_t q2) 17 (by kernel_rfl) ?_
        refine cs_true (by kernel_rfl) ?_
        refine cs_skip' ?_
        refine qn_then ?_
        refine cs_seq ?_
        refine cs_block ?_
        refine cs_seq ?_
        obtain ⟨s4_0, hs4_0⟩ : ∃ z : Value → Sto → Prop, z = (fun v R => v = .slice A0 l0.length c0 ∧ R = s0) := ⟨_, rfl⟩
        refine have_op (l := [_, _, _, _, _, _, _, _, _, _, _, _, _, _, _, _, _, _]) shadowboxref09_Meets.tab2 1 0 (fun sp => sp 0 = s4_0) (fun sp on hA hon => ?_) (fun ops4_0 => ?_)
        · refine ⟨fun o ho vs Rs f' S' w hp hf hx hS hR hs => ?_⟩
          obtain rfl := Option.some.inj ho
          rw [hA, hs4_0]
          refine And.intro (fun a ha => (want_none rfl a ha).trans hon.symm) (And.intro (fun _ => ?_) (fun h => by rw [hon] at h; cases h))
          have hF := fr_next (rfl) ((hx 0 (by kernel_rfl)).trans (by kernel_rfl : (_ : Value) = .slice A0 l0.length c0))
          refine ls_fr hF ?_
          refine ls_val (v := .slice A0 l0.length c0) rfl rfl (by kernel_rfl) (fun w => by kernel_rfl) ?_
          exact ls_fin s0 (.slice A0 l0.length c0) (congrArg (fun z => upd z 20 _) hF.symm) ⟨rfl, rfl⟩ (sub_nil _)
        obtain ⟨s4_1, hs4_1⟩ : ∃ z : Value → Sto → Prop, z = (fun v R => v = .int .i64 x5_2 ∧ R = s0) := ⟨_, rfl⟩
        refine have_op (l := [_, _, _, _, _, _, _, _, _, _, _, _, _, _, _, _, _, _]) shadowboxref09_Meets.tab2 1 1 (fun sp => sp 1 = s4_1) (fun sp on hA hon => ?_) (fun ops4_1 => ?_)
        · refine ⟨fun o ho vs Rs f' S' w hp hf hx hS hR hs => ?_⟩
          obtain rfl := Option.some.inj ho
          rw [hA, hs4_1]
          refine And.intro (fun a ha => (want_none rfl a ha).trans hon.symm) (And.intro (fun _ => ?_) (fun h => by rw [hon] at h; cases h))
          have hF := fr_next (rfl) ((hx 5 (by kernel_rfl)).trans (by kernel_rfl : (_ : Value) = .int .i64 x5_2))
          refine ls_fr hF ?_
          refine ls_val (v := .int .i64 x5_2) rfl rfl (by kernel_rfl) (fun w => by kernel_rfl) ?_
          exact ls_fin s0 (.int .i64 x5_2) (congrArg (fun z => upd z 21 _) hF.symm) ⟨rfl, rfl⟩ (sub_nil _)
        obtain ⟨q5, H⟩ := ite_need H
        obtain ⟨ad6, hA7⟩ := ido_at (T := T31) (l := l0) (i := x5_2) R0 q5 q2
        obtain ⟨s4_2, hs4_2⟩ : ∃ z : Value → Sto → Prop, z = (fun v R => v = .pointer (some (ad6.add ((x5_2).toNat * 2))) ∧ R = s0) := ⟨_, rfl⟩
        refine have_op (l := [_, _, _, _, _, _, _, _, _, _, _, _, _, _, _, _, _, _]) shadowboxref09_Meets.tab2 1 2 (fun sp => sp 2 = s4_2 ∧ sp 0 = s4_0 ∧ sp 1 = s4_1) (fun sp on hA hon => ?_) (fun ops4_2 => ?_)
        · refine ⟨fun o ho vs Rs f' S' w hp hf hx hS hR hs => ?_⟩
          obtain rfl := Option.some.inj ho
          obtain ⟨hv0, hR0⟩ := (spe hA.2.1 hs4_0 (hp 0 (by kernel_rfl)))
          obtain ⟨hv1, hR1⟩ := (spe hA.2.2 hs4_1 (hp 1 (by kernel_rfl)))
          rw [hA.1, hs4_2]
          refine And.intro (fun a ha => (want_none rfl a ha).trans hon.symm) (And.intro (fun _ => ?_) (fun h => by rw [hon] at h; cases h))
          have hF := fr_next (fr_next (rfl) ((hf 0 20 (by kernel_rfl) rfl).trans hv0)) ((hf 1 21 (by kernel_rfl) rfl).trans hv1)
          refine ls_fr hF ?_
          refine ls_idxv T31 (A := A0) (c := c0) (l := l0) (k := .i64) (i := x5_2) (z := 2) (ad := ad6) rfl rfl (by kernel_rfl) hA7 rfl (by kernel_rfl) (by kernel_rfl) (by kernel_rfl) (by kernel_rfl) q5 q2 ?_
          exact ls_fin s0 (.pointer (some (ad6.add ((x5_2).toNat * 2)))) (congrArg (fun z => upd z 22 _) hF.symm) ⟨rfl, rfl⟩ (sub_nil _)
        obtain ⟨s4_3, hs4_3⟩ : ∃ z : Value → Sto → Prop, z = (fun v R => v = .pointer (some (ad6.add (((x5_2).toNat * 2) + 0))) ∧ R = s0) := ⟨_, rfl⟩
        refine have_op (l := [_, _, _, _, _, _, _, _, _, _, _, _, _, _, _, _, _, _]) shadowboxref09_Meets.tab2 1 3 (fun sp => sp 3 = s4_3 ∧ sp 2 = s4_2) (fun sp on hA hon => ?_) (fun ops4_3 => ?_)
        · refine ⟨fun o ho vs Rs f' S' w hp hf hx hS hR hs => ?_⟩
          obtain rfl := Option.some.inj ho
          obtain ⟨hv2, hR2⟩ := (spe hA.2 hs4_2 (hp 2 (by kernel_rfl)))
          rw [hA.1, hs4_3]
          refine And.intro (fun a ha => (want_none rfl a ha).trans hon.symm) (And.intro (fun _ => ?_) (fun h => by rw [hon] at h; cases h))
          have hF := fr_next (rfl) ((hf 2 22 (by kernel_rfl) rfl).trans hv2)
          refine ls_fr hF ?_
          refine ls_fieldm (ad := ad6) (off := ((x5_2).toNat * 2)) rfl rfl (by kernel_rfl) 0 (fun w => by kernel_rfl) ?_
          exact ls_fin s0 (.pointer (some (ad6.add (((x5_2).toNat * 2) + 0)))) (congrArg (fun z => upd z 23 _) hF.symm) ⟨rfl, rfl⟩ (sub_nil _)
        obtain ⟨y8, hy9, H⟩ := lt_some H
        obtain ⟨s4_4, hs4_4⟩ : ∃ z : Value → Sto → Prop, z = (fun v R => v = .int .i64 y8 ∧ R = s0) := ⟨_, rfl⟩
        refine have_op (l := [_, _, _, _, _, _, _, _, _, _, _, _, _, _, _, _, _, _]) shadowboxref09_Meets.tab2 1 4 (fun sp => sp 4 = s4_4 ∧ sp 3 = s4_3) (fun sp on hA hon => ?_) (fun ops4_4 => ?_)
        · refine ⟨fun o ho vs Rs f' S' w hp hf hx hS hR hs => ?_⟩
          obtain rfl := Option.some.inj ho
          obtain ⟨hv3, hR3⟩ := (spe hA.2 hs4_3 (hp 3 (by kernel_rfl)))
          rw [hA.1, hs4_4]
          refine And.intro (fun a ha => (want_none rfl a ha).trans hon.symm) (And.intro (fun _ => ?_) (fun h => by rw [hon] at h; cases h))
          have hF := fr_next (rfl) ((hf 3 23 (by kernel_rfl) rfl).trans hv3)
          refine ls_fr hF ?_
          refine ls_load (a0 := (ad6.add (((x5_2).toNat * 2) + 0))) (v := .int .i64 (((l0).getD (x5_2).toNat ((0 : Int), (0 : Int))).1)) (de := (TypeDesc.int .i64)) rfl rfl (by kernel_rfl) rfl (by kernel_rfl) (by kernel_rfl) (by kernel_rfl) (fun w1 hs1 => (Rd.step (hs.old R0) hs1.below.bw).at hA7 (Sub4.trans (em_sub T31 l0 (i := (x5_2).toNat) (by have h0 : (0 : Int) ≤ x5_2 := q5; have h1 : x5_2 < (l0.length : Int) := q2; omega)) (Sub4.head _ _))) ?_
          refine ls_ren 24 (v := .int .i64 (((l0).getD (x5_2).toNat ((0 : Int), (0 : Int))).1)) (v' := .int .i64 y8) (by kernel_rfl) (by rw [hy9]) ?_
          exact ls_fin s0 (.int .i64 y8) ((upd_upd _ _ _ _).trans (congrArg (fun z => upd z 24 _) hF.symm)) ⟨rfl, rfl⟩ (sub_nil _)
        obtain ⟨s4_5, hs4_5⟩ : ∃ z : Value → Sto → Prop, z = (fun v R => v = .pointer (some ⟨g1, (0 + 1), none⟩) ∧ R = s0) := ⟨_, rfl⟩
        refine have_op (l := [_, _, _, _, _, _, _, _, _, _, _, _, _, _, _, _, _, _]) shadowboxref09_Meets.tab2 1 5 (fun sp => sp 5 = s4_5) (fun sp on hA hon => ?_) (fun ops4_5 => ?_)
        · refine ⟨fun o ho vs Rs f' S' w hp hf hx hS hR hs => ?_⟩
          obtain rfl := Option.some.inj ho
          rw [hA, hs4_5]
          refine And.intro (fun a ha => (want_none rfl a ha).trans hon.symm) (And.intro (fun _ => ?_) (fun h => by rw [hon] at h; cases h))
          have hF := fr_next (rfl) ((hx 3 (by kernel_rfl)).trans (by kernel_rfl : (_ : Value) = .pointer (some ⟨g1, 0, none⟩)))
          refine ls_fr hF ?_
          refine ls_val (v := .pointer (some ⟨g1, (0 + 1), none⟩)) rfl rfl (by kernel_rfl) (fun w => by kernel_rfl) ?_
          exact ls_fin s0 (.pointer (some ⟨g1, (0 + 1), none⟩)) (congrArg (fun z => upd z 25 _) hF.symm) ⟨rfl, rfl⟩ (sub_nil _)
        obtain ⟨s4_6, hs4_6⟩ : ∃ z : Value → Sto → Prop, z = (fun v R => v = .int .i64 a1.2 ∧ R = s0) := ⟨_, rfl⟩
        refine have_op (l := [_, _, _, _, _, _, _, _, _, _, _, _, _, _, _, _, _, _]) shadowboxref09_Meets.tab2 1 6 (fun sp => sp 6 = s4_6 ∧ sp 5 = s4_5) (fun sp on hA hon => ?_) (fun ops4_6 => ?_)
        · refine ⟨fun o ho vs Rs f' S' w hp hf hx hS hR hs => ?_⟩
          obtain rfl := Option.some.inj ho
          obtain ⟨hv5, hR5⟩ := (spe hA.2 hs4_5 (hp 5 (by kernel_rfl)))
          rw [hA.1, hs4_6]
          refine And.intro (fun a ha => (want_none rfl a ha).trans hon.symm) (And.intro (fun _ => ?_) (fun h => by rw [hon] at h; cases h))
          have hF := fr_next (rfl) ((hf 5 25 (by kernel_rfl) rfl).trans hv5)
          refine ls_fr hF ?_
          refine ls_load (a0 := ⟨g1, (0 + 1), none⟩) (v := .int .i64 a1.2) (de := (TypeDesc.int .i64)) rfl rfl (by kernel_rfl) rfl (by kernel_rfl) (by kernel_rfl) (by kernel_rfl) (fun w1 hs1 => cell_step hs1.below.bw (hs.var (k := 0) ((hS 0 (by kernel_rfl)).trans (by exact rfl)) (Sub4.trans (Sub4.all _) (Sub4.skip (n := 1) (len1 _) (Sub4.all _))))) ?_
          exact ls_fin s0 (.int .i64 a1.2) (congrArg (fun z => upd z 26 _) hF.symm) ⟨rfl, rfl⟩ (sub_nil _)
        obtain ⟨s4_7, hs4_7⟩ : ∃ z : Value → Sto → Prop, z = (fun v R => v = .bool (decide (y8 < a1.2)) ∧ R = s0) := ⟨_, rfl⟩
        refine have_op (l := [_, _, _, _, _, _, _, _, _, _, _, _, _, _, _, _, _, _]) shadowboxref09_Meets.tab2 1 7 (fun sp => sp 7 = s4_7 ∧ sp 4 = s4_4 ∧ sp 6 = s4_6) (fun sp on hA hon => ?_) (fun ops4_7 => ?_)
        · refine ⟨fun o ho vs Rs f' S' w hp hf hx hS hR hs => ?_⟩
          obtain rfl := Option.some.inj ho
          obtain ⟨hv4, hR4⟩ := (spe hA.2.1 hs4_4 (hp 4 (by kernel_rfl)))
          obtain ⟨hv6, hR6⟩ := (spe hA.2.2 hs4_6 (hp 6 (by kernel_rfl)))
          rw [hA.1, hs4_7]
          refine And.intro (fun a ha => (want_none rfl a ha).trans hon.symm) (And.intro (fun _ => ?_) (fun h => by rw [hon] at h; cases h))
          have hF := fr_next (fr_next (rfl) ((hf 4 24 (by kernel_rfl) rfl).trans hv4)) ((hf 6 26 (by kernel_rfl) rfl).trans hv6)
          refine ls_fr hF ?_
          refine ls_val (v := .bool (decide (y8 < a1.2))) rfl rfl (by kernel_rfl) (fun w => by kernel_rfl) ?_
          exact ls_fin s0 (.bool (decide (y8 < a1.2))) (congrArg (fun z => upd z 27 _) hF.symm) ⟨rfl, rfl⟩ (sub_nil _)
        obtain ⟨s4_8, hs4_8⟩ : ∃ z : Value → Sto → Prop, z = (fun v R => v = .bool (decide (y8 < a1.2)) ∧ R = s0) := ⟨_, rfl⟩
        refine have_op (l := [_, _, _, _, _, _, _, _, _, _, _, _, _, _, _, _, _, _]) shadowboxref09_Meets.tab2 1 8 (fun sp => sp 8 = s4_8 ∧ sp 7 = s4_7) (fun sp on hA hon => ?_) (fun ops4_8 => ?_)
        · refine ⟨fun o ho vs Rs f' S' w hp hf hx hS hR hs => ?_⟩
          obtain rfl := Option.some.inj ho
          obtain ⟨hv7, hR7⟩ := (spe hA.2 hs4_7 (hp 7 (by kernel_rfl)))
          rw [hA.1, hs4_8]
          refine And.intro (fun a ha => (want_none rfl a ha).trans hon.symm) (And.intro (fun _ => ?_) (fun h => by rw [hon] at h; cases h))
          have hF := fr_next (rfl) ((hf 7 27 (by kernel_rfl) rfl).trans hv7)
          refine ls_fr hF ?_
          refine ls_val (v := .bool (decide (y8 < a1.2))) rfl rfl (by kernel_rfl) (fun w => by kernel_rfl) ?_
          exact ls_fin s0 (.bool (decide (y8 < a1.2))) (congrArg (fun z => upd z 28 _) hF.symm) ⟨rfl, rfl⟩ (sub_nil _)
        by_cases q10 : y8 < a1.2
        · replace H := ite_t q10 H
          obtain ⟨s4_9, hs4_9⟩ : ∃ z : Value → Sto → Prop, z = (fun v R => v = .pointer (some ⟨g1, (0 + 0), none⟩) ∧ R = s0) := ⟨_, rfl⟩
          refine have_op (l := [_, _, _, _, _, _, _, _, _, _, _, _, _, _, _, _, _, _]) shadowboxref09_Meets.tab2 1 9 (fun sp => sp 9 = s4_9 ∧ sp 8 = s4_8) (fun sp on hA hon => ?_) (fun ops4_9 => ?_)
          · refine ⟨fun o ho vs Rs f' S' w hp hf hx hS hR hs => ?_⟩
            obtain rfl := Option.some.inj ho
            obtain ⟨hv8, hR8⟩ := (spe hA.2 hs4_8 (hp 8 (by kernel_rfl)))
            rw [hA.1, hs4_9]
            refine And.intro (fun a ha => (want_is (j := 8) (t := 28) (r := true) rfl rfl (by kernel_rfl) (((hf 8 28 (by kernel_rfl) rfl).trans hv8).trans (congrArg Value.bool (show (decide (y8 < a1.2)) = true from dec_t q10))) rfl a ha).trans hon.symm) (And.intro (fun _ => ?_) (fun h => by rw [hon] at h; cases h))
            have hF := fr_next (fr_next (rfl) ((hx 3 (by kernel_rfl)).trans (by kernel_rfl : (_ : Value) = .pointer (some ⟨g1, 0, none⟩)))) (((hf 8 28 (by kernel_rfl) rfl).trans hv8).trans (congrArg Value.bool (show (decide (y8 < a1.2)) = true from dec_t q10)))
            refine ls_fr hF ?_
            refine ls_val (v := .pointer (some ⟨g1, (0 + 0), none⟩)) rfl rfl (by kernel_rfl) (fun w => by kernel_rfl) ?_
            exact ls_fin s0 (.pointer (some ⟨g1, (0 + 0), none⟩)) (congrArg (fun z => upd z 29 _) hF.symm) ⟨rfl, rfl⟩ (sub_nil _)
          obtain ⟨s4_10, hs4_10⟩ : ∃ z : Value → Sto → Prop, z = (fun v R => v = .int .i64 a1.1 ∧ R = s0) := ⟨_, rfl⟩
          refine have_op (l := [_, _, _, _, _, _, _, _, _, _, _, _, _, _, _, _, _, _]) shadowboxref09_Meets.tab2 1 10 (fun sp => sp 10 = s4_10 ∧ sp 8 = s4_8 ∧ sp 9 = s4_9) (fun sp on hA hon => ?_) (fun ops4_10 => ?_)
          · refine ⟨fun o ho vs Rs f' S' w hp hf hx hS hR hs => ?_⟩
            obtain rfl := Option.some.inj ho
            obtain ⟨hv8, hR8⟩ := (spe hA.2.1 hs4_8 (hp 8 (by kernel_rfl)))
            obtain ⟨hv9, hR9⟩ := (spe hA.2.2 hs4_9 (hp 9 (by kernel_rfl)))
            rw [hA.1, hs4_10]
            refine And.intro (fun a ha => (want_is (j := 8) (t := 28) (r := true) rfl rfl (by kernel_rfl) (((hf 8 28 (by kernel_rfl) rfl).trans hv8).trans (congrArg Value.bool (show (decide (y8 < a1.2)) = true from dec_t q10))) rfl a ha).trans hon.symm) (And.intro (fun _ => ?_) (fun h => by rw [hon] at h; cases h))
            have hF := fr_next (fr_next (rfl) (((hf 8 28 (by kernel_rfl) rfl).trans hv8).trans (congrArg Value.bool (show (decide (y8 < a1.2)) = true from dec_t q10)))) ((hf 9 29 (by kernel_rfl) rfl).trans hv9)
            refine ls_fr hF ?_
            refine ls_load (a0 := ⟨g1, (0 + 0), none⟩) (v := .int .i64 a1.1) (de := (TypeDesc.int .i64)) rfl rfl (by kernel_rfl) rfl (by kernel_rfl) (by kernel_rfl) (by kernel_rfl) (fun w1 hs1 => cell_step hs1.below.bw (hs.var (k := 0) ((hS 0 (by kernel_rfl)).trans (by exact rfl)) (Sub4.trans (Sub4.all _) (Sub4.head _ _)))) ?_
            exact ls_fin s0 (.int .i64 a1.1) (congrArg (fun z => upd z 30 _) hF.symm) ⟨rfl, rfl⟩ (sub_nil _)
          obtain ⟨s4_11, hs4_11⟩ : ∃ z : Value → Sto → Prop, z = (fun v R => v = .slice A0 l0.length c0 ∧ R = s0) := ⟨_, rfl⟩
          refine have_op (l := [_, _, _, _, _, _, _, _, _, _, _, _, _, _, _, _, _, _]) shadowboxref09_Meets.tab2 1 11 (fun sp => sp 11 = s4_11 ∧ sp 8 = s4_8) (fun sp on hA hon => ?_) (fun ops4_11 => ?_)
          · refine ⟨fun o ho vs Rs f' S' w hp hf hx hS hR hs => ?_⟩
            obtain rfl := Option.some.inj ho
            obtain ⟨hv8, hR8⟩ := (spe hA.2 hs4_8 (hp 8 (by kernel_rfl)))
            rw [hA.1, hs4_11]
            refine And.intro (fun a ha => (want_is (j := 8) (t := 28) (r := true) rfl rfl (by kernel_rfl) (((hf 8 28 (by kernel_rfl) rfl).trans hv8).trans (congrArg Value.bool (show (decide (y8 < a1.2)) = true from dec_t q10))) rfl a ha).trans hon.symm) (And.intro (fun _ => ?_) (fun h => by rw [hon] at h; cases h))
            have hF := fr_next (fr_next (rfl) ((hx 0 (by kernel_rfl)).trans (by kernel_rfl : (_ : Value) = .slice A0 l0.length c0))) (((hf 8 28 (by kernel_rfl) rfl).trans hv8).trans (congrArg Value.bool (show (decide (y8 < a1.2)) = true from dec_t q10)))
            refine ls_fr hF ?_
            refine ls_val (v := .slice A0 l0.length c0) rfl rfl (by kernel_rfl) (fun w => by kernel_rfl) ?_
            exact ls_fin s0 (.slice A0 l0.length c0) (congrArg (fun z => upd z 31 _) hF.symm) ⟨rfl, rfl⟩ (sub_nil _)
          obtain ⟨s4_12, hs4_12⟩ : ∃ z : Value → Sto → Prop, z = (fun v R => v = .int .i64 x5_2 ∧ R = s0) := ⟨_, rfl⟩
          refine have_op (l := [_, _, _, _, _, _, _, _, _, _, _, _, _, _, _, _, _, _]) shadowboxref09_Meets.tab2 1 12 (fun sp => sp 12 = s4_12 ∧ sp 8 = s4_8) (fun sp on hA hon => ?_) (fun ops4_12 => ?_)
          · refine ⟨fun o ho vs Rs f' S' w hp hf hx hS hR hs => ?_⟩
            obtain rfl := Option.some.inj ho
            obtain ⟨hv8, hR8⟩ := (spe hA.2 hs4_8 (hp 8 (by kernel_rfl)))
            rw [hA.1, hs4_12]
            refine And.intro (fun a ha => (want_is (j := 8) (t := 28) (r := true) rfl rfl (by kernel_rfl) (((hf 8 28 (by kernel_rfl) rfl).trans hv8).trans (congrArg Value.bool (show (decide (y8 < a1.2)) = true from dec_t q10))) rfl a ha).trans hon.symm) (And.intro (fun _ => ?_) (fun h => by rw [hon] at h; cases h))
            have hF := fr_next (fr_next (rfl) ((hx 5 (by kernel_rfl)).trans (by kernel_rfl : (_ : Value) = .int .i64 x5_2))) (((hf 8 28 (by kernel_rfl) rfl).trans hv8).trans (congrArg Value.bool (show (decide (y8 < a1.2)) = true from dec_t q10)))
            refine ls_fr hF ?_
            refine ls_val (v := .int .i64 x5_2) rfl rfl (by kernel_rfl) (fun w => by kernel_rfl) ?_
            exact ls_fin s0 (.int .i64 x5_2) (congrArg (fun z => upd z 32 _) hF.symm) ⟨rfl, rfl⟩ (sub_nil _)
          obtain ⟨ad11, hA12⟩ := ido_at (T := T31) (l := l0) (i := x5_2) R0 q5 q2
          obtain ⟨s4_13, hs4_13⟩ : ∃ z : Value → Sto → Prop, z = (fun v R => v = .pointer (some (ad11.add ((x5_2).toNat * 2))) ∧ R = s0) := ⟨_, rfl⟩
          refine have_op (l := [_, _, _, _, _, _, _, _, _, _, _, _, _, _, _, _, _, _]) shadowboxref09_Meets.tab2 1 13 (fun sp => sp 13 = s4_13 ∧ sp 8 = s4_8 ∧ sp 11 = s4_11 ∧ sp 12 = s4_12) (fun sp on hA hon => ?_) (fun ops4_13 => ?_)
          · refine ⟨fun o ho vs Rs f' S' w hp hf hx hS hR hs => ?_⟩
            obtain rfl := Option.some.inj ho
            obtain ⟨hv8, hR8⟩ := (spe hA.2.1 hs4_8 (hp 8 (by kernel_rfl)))
            obtain ⟨hv11, hR11⟩ := (spe hA.2.2.1 hs4_11 (hp 11 (by kernel_rfl)))
            obtain ⟨hv12, hR12⟩ := (spe hA.2.2.2 hs4_12 (hp 12 (by kernel_rfl)))
            rw [hA.1, hs4_13]
            refine And.intro (fun a ha => (want_is (j := 8) (t := 28) (r := true) rfl rfl (by kernel_rfl) (((hf 8 28 (by kernel_rfl) rfl).trans hv8).trans (congrArg Value.bool (show (decide (y8 < a1.2)) = true from dec_t q10))) rfl a ha).trans hon.symm) (And.intro (fun _ => ?_) (fun h => by rw [hon] at h; cases h))
            have hF := fr_next (fr_next (fr_next (rfl) (((hf 8 28 (by kernel_rfl) rfl).trans hv8).trans (congrArg Value.bool (show (decide (y8 < a1.2)) = true from dec_t q10)))) ((hf 11 31 (by kernel_rfl) rfl).trans hv11)) ((hf 12 32 (by kernel_rfl) rfl).trans hv12)
            refine ls_fr hF ?_
            refine ls_idxv T31 (A := A0) (c := c0) (l := l0) (k := .i64) (i := x5_2) (z := 2) (ad := ad11) rfl rfl (by kernel_rfl) hA12 rfl (by kernel_rfl) (by kernel_rfl) (by kernel_rfl) (by kernel_rfl) q5 q2 ?_
            exact ls_fin s0 (.pointer (some (ad11.add ((x5_2).toNat * 2)))) (congrArg (fun z => upd z 33 _) hF.symm) ⟨rfl, rfl⟩ (sub_nil _)
          obtain ⟨s4_14, hs4_14⟩ : ∃ z : Value → Sto → Prop, z = (fun v R => v = .pointer (some (ad11.add (((x5_2).toNat * 2) + 1))) ∧ R = s0) := ⟨_, rfl⟩
          refine have_op (l := [_, _, _, _, _, _, _, _, _, _, _, _, _, _, _, _, _, _]) shadowboxref09_Meets.tab2 1 14 (fun sp => sp 14 = s4_14 ∧ sp 8 = s4_8 ∧ sp 13 = s4_13) (fun sp on hA hon => ?_) (fun ops4_14 => ?_)
          · refine ⟨fun o ho vs Rs f' S' w hp hf hx hS hR hs => ?_⟩
            obtain rfl := Option.some.inj ho
            obtain ⟨hv8, hR8⟩ := (spe hA.2.1 hs4_8 (hp 8 (by kernel_rfl)))
            obtain ⟨hv13, hR13⟩ := (spe hA.2.2 hs4_13 (hp 13 (by kernel_rfl)))
            rw [hA.1, hs4_14]
            refine And.intro (fun a ha => (want_is (j := 8) (t := 28) (r := true) rfl rfl (by kernel_rfl) (((hf 8 28 (by kernel_rfl) rfl).trans hv8).trans (congrArg Value.bool (show (decide (y8 < a1.2)) = true from dec_t q10))) rfl a ha).trans hon.symm) (And.intro (fun _ => ?_) (fun h => by rw [hon] at h; cases h))
            have hF := fr_next (fr_next (rfl) (((hf 8 28 (by kernel_rfl) rfl).trans hv8).trans (congrArg Value.bool (show (decide (y8 < a1.2)) = true from dec_t q10)))) ((hf 13 33 (by kernel_rfl) rfl).trans hv13)
            refine ls_fr hF ?_
            refine ls_fieldm (ad := ad11) (off := ((x5_2).toNat * 2)) rfl rfl (by kernel_rfl) 1 (fun w => by kernel_rfl) ?_
            exact ls_fin s0 (.pointer (some (ad11.add (((x5_2).toNat * 2) + 1)))) (congrArg (fun z => upd z 34 _) hF.symm) ⟨rfl, rfl⟩ (sub_nil _)
          obtain ⟨y13, hy14, H⟩ := lt_some H
          obtain ⟨s4_15, hs4_15⟩ : ∃ z : Value → Sto → Prop, z = (fun v R => v = .int .i64 y13 ∧ R = s0) := ⟨_, rfl⟩
          refine have_op (l := [_, _, _, _, _, _, _, _, _, _, _, _, _, _, _, _, _, _]) shadowboxref09_Meets.tab2 1 15 (fun sp => sp 15 = s4_15 ∧ sp 8 = s4_8 ∧ sp 14 = s4_14) (fun sp on hA hon => ?_) (fun ops4_15 => ?_)
          · refine ⟨fun o ho vs Rs f' S' w hp hf hx hS hR hs => ?_⟩
            obtain rfl := Option.some.inj ho
            obtain ⟨hv8, hR8⟩ := (spe hA.2.1 hs4_8 (hp 8 (by kernel_rfl)))
            obtain ⟨hv14, hR14⟩ := (spe hA.2.2 hs4_14 (hp 14 (by kernel_rfl)))
            rw [hA.1, hs4_15]
            refine And.intro (fun a ha => (want_is (j := 8) (t := 28) (r := true) rfl rfl (by kernel_rfl) (((hf 8 28 (by kernel_rfl) rfl).trans hv8).trans (congrArg Value.bool (show (decide (y8 < a1.2)) = true from dec_t q10))) rfl a ha).trans hon.symm) (And.intro (fun _ => ?_) (fun h => by rw [hon] at h; cases h))
            have hF := fr_next (fr_next (rfl) (((hf 8 28 (by kernel_rfl) rfl).trans hv8).trans (congrArg Value.bool (show (decide (y8 < a1.2)) = true from dec_t q10)))) ((hf 14 34 (by kernel_rfl) rfl).trans hv14)
            refine ls_fr hF ?_
            refine ls_load (a0 := (ad11.add (((x5_2).toNat * 2) + 1))) (v := .int .i64 (((l0).getD (x5_2).toNat ((0 : Int), (0 : Int))).2)) (de := (TypeDesc.int .i64)) rfl rfl (by kernel_rfl) rfl (by kernel_rfl) (by kernel_rfl) (by kernel_rfl) (fun w1 hs1 => (Rd.step (hs.old R0) hs1.below.bw).at hA12 (Sub4.trans (em_sub T31 l0 (i := (x5_2).toNat) (by have h0 : (0 : Int) ≤ x5_2 := q5; have h1 : x5_2 < (l0.length : Int) := q2; omega)) (Sub4.skip (n := 1) (len1 _) (Sub4.all _)))) ?_
            refine ls_ren 35 (v := .int .i64 (((l0).getD (x5_2).toNat ((0 : Int), (0 : Int))).2)) (v' := .int .i64 y13) (by kernel_rfl) (by rw [hy14]) ?_
            exact ls_fin s0 (.int .i64 y13) ((upd_upd _ _ _ _).trans (congrArg (fun z => upd z 35 _) hF.symm)) ⟨rfl, rfl⟩ (sub_nil _)
          refine cs_draw shadowboxref09_Meets.tab2 16 1 (spl [s4_0, s4_1, s4_2, s4_3, s4_4, s4_5, s4_6, s4_7, s4_8, s4_9, s4_10, s4_11, s4_12, s4_13, s4_14, s4_15]) (onl [true, true, true, true, true, true, true, true, true, true, true, true, true, true, true, true]) (by kernel_rfl) (by kernel_rfl) (by kernel_rfl) (by kernel_rfl) (rs := [_, _]) rfl (by kernel_rfl) (by kernel_rfl) (all_snoc (all_snoc (all_snoc (all_snoc (all_snoc (all_snoc (all_snoc (all_snoc (all_snoc (all_snoc (all_snoc (all_snoc (all_snoc (all_snoc (all_snoc (all_snoc (all_nil) (ops4_0 _ _ rfl rfl)) (ops4_1 _ _ rfl rfl)) (ops4_2 _ _ ⟨rfl, rfl, rfl⟩ rfl)) (ops4_3 _ _ ⟨rfl, rfl⟩ rfl)) (ops4_4 _ _ ⟨rfl, rfl⟩ rfl)) (ops4_5 _ _ rfl rfl)) (ops4_6 _ _ ⟨rfl, rfl⟩ rfl)) (ops4_7 _ _ ⟨rfl, rfl, rfl⟩ rfl)) (ops4_8 _ _ ⟨rfl, rfl⟩ rfl)) (ops4_9 _ _ ⟨rfl, rfl⟩ rfl)) (ops4_10 _ _ ⟨rfl, rfl, rfl⟩ rfl)) (ops4_11 _ _ ⟨rfl, rfl⟩ rfl)) (ops4_12 _ _ ⟨rfl, rfl⟩ rfl)) (ops4_13 _ _ ⟨rfl, rfl, rfl, rfl⟩ rfl)) (ops4_14 _ _ ⟨rfl, rfl, rfl⟩ rfl)) (ops4_15 _ _ ⟨rfl, rfl, rfl⟩ rfl)) ?_
          intro vs Rs f' S' hp hf hx hS hR
          obtain ⟨hv8, hR8⟩ := (spe rfl hs4_8 (hp 8 (by kernel_rfl)))
          obtain ⟨hv9, hR9⟩ := (spe rfl hs4_9 (hp 9 (by kernel_rfl)))
          obtain ⟨hv10, hR10⟩ := (spe rfl hs4_10 (hp 10 (by kernel_rfl)))
          obtain ⟨hv11, hR11⟩ := (spe rfl hs4_11 (hp 11 (by kernel_rfl)))
          obtain ⟨hv12, hR12⟩ := (spe rfl hs4_12 (hp 12 (by kernel_rfl)))
          obtain ⟨hv13, hR13⟩ := (spe rfl hs4_13 (hp 13 (by kernel_rfl)))
          obtain ⟨hv14, hR14⟩ := (spe rfl hs4_14 (hp 14 (by kernel_rfl)))
          obtain ⟨hv15, hR15⟩ := (spe rfl hs4_15 (hp 15 (by kernel_rfl)))
          refine ls_fr (F := upd (upd (upd (upd (upd (upd (upd (upd (upd (upd (upd f' 0 (.slice A0 l0.length c0)) 3 (.pointer (some ⟨g1, 0, none⟩))) 5 (.int .i64 x5_2)) 28 (.bool (decide (y8 < a1.2)))) 29 (.pointer (some ⟨g1, (0 + 0), none⟩))) 30 (.int .i64 a1.1)) 31 (.slice A0 l0.length c0)) 32 (.int .i64 x5_2)) 33 (.pointer (some (ad11.add ((x5_2).toNat * 2))))) 34 (.pointer (some (ad11.add (((x5_2).toNat * 2) + 1))))) 35 (.int .i64 y13)) (fr_next (fr_next (fr_next (fr_next (fr_next (fr_next (fr_next (fr_next (fr_next (fr_next (fr_next (rfl) ((hx 0 (by kernel_rfl)).trans (by kernel_rfl : (_ : Value) = .slice A0 l0.length c0))) ((hx 3 (by kernel_rfl)).trans (by kernel_rfl : (_ : Value) = .pointer (some ⟨g1, 0, none⟩)))) ((hx 5 (by kernel_rfl)).trans (by kernel_rfl : (_ : Value) = .int .i64 x5_2))) ((hf 8 28 (by kernel_rfl) rfl).trans hv8)) ((hf 9 29 (by kernel_rfl) rfl).trans hv9)) ((hf 10 30 (by kernel_rfl) rfl).trans hv10)) ((hf 11 31 (by kernel_rfl) rfl).trans hv11)) ((hf 12 32 (by kernel_rfl) rfl).trans hv12)) ((hf 13 33 (by kernel_rfl) rfl).trans hv13)) ((hf 14 34 (by kernel_rfl) rfl).trans hv14)) ((hf 15 35 (by kernel_rfl) rfl).trans hv15)) ?_
          refine ls_sub (sput s0 0 (some (Ck.var 31 g1 (([Value.int .i64 a1.1] ++ [Value.int .i64 a1.2]))))) (sub_put ((hS 0 (by kernel_rfl)).trans (by exact rfl)) (sub_nil _)) ?_
          refine ls_know (c := true) (dec_t q10) 28 (by kernel_rfl) ?_
          refine ls_on (j := 8) (t := 28) (b := true) rfl rfl (by kernel_rfl) (by kernel_rfl) ?_
          refine ls_val (v := .bool (decide (a1.1 < y13))) rfl rfl (by kernel_rfl) (fun w => by kernel_rfl) ?_
          refine ls_val (v := .bool (decide (a1.1 < y13))) rfl rfl (by kernel_rfl) (fun w => by kernel_rfl) ?_
          refine ls_end ?_
          refine qn_then ?_
          by_cases q15 : a1.1 < y13
          · replace H := ite_t q15 H
            refine cs_know (c := true) (dec_t q15) 37 (by kernel_rfl) ?_
            refine cs_true (by kernel_rfl) ?_
            refine cs_seq ?_
            refine cs_region (l := [_]) ?_
            refine ls_val (v := .bool true) rfl rfl (by kernel_rfl) (fun w => by kernel_rfl) ?_
            refine ls_end ?_
            refine qn_then ?_
            refine cs_ret' ?_
            refine qr_block ?_
            refine qr_then ?_
            refine qr_then ?_
            refine qr_block ?_
            refine qr_then ?_
            obtain rfl := Option.some.inj H
            refine qr_res (rs := [_]) rfl (fun w' hs => ⟨[.bool true], (res_tmp (by kernel_rfl) (.nil)), (), rfl, hs.pick (ts := []) (cs := []) trivial (by decide)⟩)
          · replace H := ite_f q15 H
            refine cs_know (c := false) (dec_f q15) 37 (by kernel_rfl) ?_
            refine cs_false (by kernel_rfl) ?_
            refine cs_skip' ?_
            refine qn_block ?_
            refine qn_then ?_
            refine cs_region (l := [_, _, _]) ?_
            refine ls_val (v := .int .i64 x5_2) rfl rfl (by kernel_rfl) (fun w => by kernel_rfl) ?_
            refine ls_val (v := .int .i64 (IntKind.wrap .i64 (x5_2 + (1 : Int)))) rfl rfl (by kernel_rfl) (fun w => by kernel_rfl) ?_
            refine ls_val (v := .int .i64 (IntKind.wrap .i64 (x5_2 + (1 : Int)))) rfl rfl (by kernel_rfl) (fun w => by kernel_rfl) ?_
            refine ls_end ?_
            refine qn_again k2 (sput s0 0 (some (Ck.var 31 g1 (([Value.int .i64 a1.1] ++ [Value.int .i64 a1.2]))))) (Nat.le_refl _) ⟨_, (IntKind.wrap .i64 (x5_2 + (1 : Int))), fr_next (fr_next (fr_next (rfl) (by kernel_rfl)) (by kernel_rfl)) (by kernel_rfl), rfl, H⟩ (sub_put (by exact rfl) (sub_nil _))
        · replace H := ite_f q10 H
          refine cs_draw shadowboxref09_Meets.tab2 16 1 (spl [s4_0, s4_1, s4_2, s4_3, s4_4, s4_5, s4_6, s4_7, s4_8, spu, spu, spu, spu, spu, spu, spu]) (onl [true, true, true, true, true, true, true, true, true, false, false, false, false, false, false, false]) (by kernel_rfl) (by kernel_rfl) (by kernel_rfl) (by kernel_rfl) (rs := [_, _]) rfl (by kernel_rfl) (by kernel_rfl) (all_snoc (all_snoc (all_snoc (all_snoc (all_snoc (all_snoc (all_snoc (all_snoc (all_snoc (all_snoc (all_snoc (all_snoc (all_snoc (all_snoc (all_snoc (all_snoc (all_nil) (ops4_0 _ _ rfl rfl)) (ops4_1 _ _ rfl rfl)) (ops4_2 _ _ ⟨rfl, rfl, rfl⟩ rfl)) (ops4_3 _ _ ⟨rfl, rfl⟩ rfl)) (ops4_4 _ _ ⟨rfl, rfl⟩ rfl)) (ops4_5 _ _ rfl rfl)) (ops4_6 _ _ ⟨rfl, rfl⟩ rfl)) (ops4_7 _ _ ⟨rfl, rfl, rfl⟩ rfl)) (ops4_8 _ _ ⟨rfl, rfl⟩ rfl)) (op_offi 9 8 28 true rfl rfl (by kernel_rfl) (by kernel_rfl) rfl (fun v R h => by rw [hs4_8] at h; obtain ⟨h, _⟩ := h; exact h.trans (congrArg Value.bool (show (decide (y8 < a1.2)) = false from dec_f q10))) rfl rfl)) (op_offi 10 8 28 true rfl rfl (by kernel_rfl) (by kernel_rfl) rfl (fun v R h => by rw [hs4_8] at h; obtain ⟨h, _⟩ := h; exact h.trans (congrArg Value.bool (show (decide (y8 < a1.2)) = false from dec_f q10))) rfl rfl)) (op_offi 11 8 28 true rfl rfl (by kernel_rfl) (by kernel_rfl) rfl (fun v R h => by rw [hs4_8] at h; obtain ⟨h, _⟩ := h; exact h.trans (congrArg Value.bool (show (decide (y8 < a1.2)) = false from dec_f q10))) rfl rfl)) (op_offi 12 8 28 true rfl rfl (by kernel_rfl) (by kernel_rfl) rfl (fun v R h => by rw [hs4_8] at h; obtain ⟨h, _⟩ := h; exact h.trans (congrArg Value.bool (show (decide (y8 < a1.2)) = false from dec_f q10))) rfl rfl)) (op_offi 13 8 28 true rfl rfl (by kernel_rfl) (by kernel_rfl) rfl (fun v R h => by rw [hs4_8] at h; obtain ⟨h, _⟩ := h; exact h.trans (congrArg Value.bool (show (decide (y8 < a1.2)) = false from dec_f q10))) rfl rfl)) (op_offi 14 8 28 true rfl rfl (by kernel_rfl) (by kernel_rfl) rfl (fun v R h => by rw [hs4_8] at h; obtain ⟨h, _⟩ := h; exact h.trans (congrArg Value.bool (show (decide (y8 < a1.2)) = false from dec_f q10))) rfl rfl)) (op_offi 15 8 28 true rfl rfl (by kernel_rfl) (by kernel_rfl) rfl (fun v R h => by rw [hs4_8] at h; obtain ⟨h, _⟩ := h; exact h.trans (congrArg Value.bool (show (decide (y8 < a1.2)) = false from dec_f q10))) rfl rfl)) ?_
          intro vs Rs f' S' hp hf hx hS hR
          obtain ⟨hv8, hR8⟩ := (spe rfl hs4_8 (hp 8 (by kernel_rfl)))
          obtain ⟨hv9, hR9⟩ := (spe rfl rfl (hp 9 (by kernel_rfl)) : spu _ _)
          obtain ⟨hv10, hR10⟩ := (spe rfl rfl (hp 10 (by kernel_rfl)) : spu _ _)
          obtain ⟨hv11, hR11⟩ := (spe rfl rfl (hp 11 (by kernel_rfl)) : spu _ _)
          obtain ⟨hv12, hR12⟩ := (spe rfl rfl (hp 12 (by kernel_rfl)) : spu _ _)
          obtain ⟨hv13, hR13⟩ := (spe rfl rfl (hp 13 (by kernel_rfl)) : spu _ _)
          obtain ⟨hv14, hR14⟩ := (spe rfl rfl (hp 14 (by kernel_rfl)) : spu _ _)
          obtain ⟨hv15, hR15⟩ := (spe rfl rfl (hp 15 (by kernel_rfl)) : spu _ _)
          refine ls_fr (F := upd (upd (upd (upd f' 0 (.slice A0 l0.length c0)) 3 (.pointer (some ⟨g1, 0, none⟩))) 5 (.int .i64 x5_2)) 28 (.bool (decide (y8 < a1.2)))) (fr_next (fr_next (fr_next (fr_next (rfl) ((hx 0 (by kernel_rfl)).trans (by kernel_rfl : (_ : Value) = .slice A0 l0.length c0))) ((hx 3 (by kernel_rfl)).trans (by kernel_rfl : (_ : Value) = .pointer (some ⟨g1, 0, none⟩)))) ((hx 5 (by kernel_rfl)).trans (by kernel_rfl : (_ : Value) = .int .i64 x5_2))) ((hf 8 28 (by kernel_rfl) rfl).trans hv8)) ?_
          refine ls_sub (sput s0 0 (some (Ck.var 31 g1 (([Value.int .i64 a1.1] ++ [Value.int .i64 a1.2]))))) (sub_put ((hS 0 (by kernel_rfl)).trans (by exact rfl)) (sub_nil _)) ?_
          refine ls_know (c := false) (dec_f q10) 28 (by kernel_rfl) ?_
          refine ls_off (j := 8) (t := 28) (b := true) (c := false) rfl rfl (by kernel_rfl) (by kernel_rfl) rfl rfl (by kernel_rfl) ?_
          refine ls_val (v := .bool false) rfl rfl (by kernel_rfl) (fun w => by kernel_rfl) ?_
          refine ls_end ?_
          refine qn_then ?_
          refine cs_false (by kernel_rfl) ?_
          refine cs_skip' ?_
          refine qn_block ?_
          refine qn_then ?_
          refine cs_region (l := [_, _, _]) ?_
          refine ls_val (v := .int .i64 x5_2) rfl rfl (by kernel_rfl) (fun w => by kernel_rfl) ?_
          refine ls_val (v := .int .i64 (IntKind.wrap .i64 (x5_2 + (1 : Int)))) rfl rfl (by kernel_rfl) (fun w => by kernel_rfl) ?_
          refine ls_val (v := .int .i64 (IntKind.wrap .i64 (x5_2 + (1 : Int)))) rfl rfl (by kernel_rfl) (fun w => by kernel_rfl) ?_
          refine ls_end ?_
          refine qn_again k2 (sput s0 0 (some (Ck.var 31 g1 (([Value.int .i64 a1.1] ++ [Value.int .i64 a1.2]))))) (Nat.le_refl _) ⟨_, (IntKind.wrap .i64 (x5_2 + (1 : Int))), fr_next (fr_next (fr_next (rfl) (by kernel_rfl)) (by kernel_rfl)) (by kernel_rfl), rfl, H⟩ (sub_put (by exact rfl) (sub_nil _))
      · replace H := ite_f q2 H
        refine cs_know (c := false) (dec_f q2) 17 (by kernel_rfl) ?_
        refine cs_false (by kernel_rfl) ?_
        refine cs_exit' ?_
        refine qx_then ?_
        refine qx_then ?_
        refine qx_same ?_
        refine qn_then ?_
        refine cs_seq ?_
        refine cs_region (l := [_]) ?_
        refine ls_val (v := .bool false) rfl rfl (by kernel_rfl) (fun w => by kernel_rfl) ?_
        refine ls_end ?_
        refine qn_then ?_
        refine cs_ret' ?_
        obtain rfl := Option.some.inj H
        refine qr_res (rs := [_]) rfl (fun w' hs => ⟨[.bool false], (res_tmp (by kernel_rfl) (.nil)), (), rfl, hs.pick (ts := []) (cs := []) trivial (by decide)⟩)

/-! ### shadowbox/shadowboxref09.Total: function 23 -/
def shadowboxref09_Total.tab5 : List (List Nat) := [[], [], [], [1, 2], [1, 2, 3], [1, 2, 3, 4], [0, 1, 2, 3, 4, 5], [], [], [7, 8], [7, 8, 9], [7, 8, 9, 10], [0, 1, 2, 3, 4, 5, 6, 7, 8, 9, 10, 11], [0, 1, 2, 3, 4, 5, 6, 7, 8, 9, 10, 11, 12]]
def shadowboxref09_Total.lo1 (l0 : List (Int × Int)) : Nat → Int → Int → Option (Int)
  | 0, _, _ => none
  | k1 + 1, x3_1, x4_1 => (if x4_1 < (l0.length : Int) then (shadowboxref09_Valid.f k1 l0).bind fun t2 => (if t2 = true then (if 0 ≤ x4_1 then lt (((l0).getD (x4_1).toNat ((0 : Int), (0 : Int))).2) fun y11 => lt (((l0).getD (x4_1).toNat ((0 : Int), (0 : Int))).1) fun y15 => lt (IntKind.wrap .i64 ((IntKind.wrap .i64 (x3_1 + y11)) - y15)) fun y17 => (shadowboxref09_Total.lo1 l0 k1) y17 (IntKind.wrap .i64 (x4_1 + (1 : Int))) else none) else some x3_1) else some x3_1)
def shadowboxref09_Total.f (k : Nat) (l0 : List (Int × Int)) : Option (Int) :=
  shadowboxref09_Total.lo1 l0 k (0 : Int) (0 : Int)
set_option maxRecDepth 100000 in
set_option maxHeartbeats 4000000 in
theorem shadowboxref09_Total.calls (k : Nat) (A0 : Option Addr) (c0 : Nat) (l0 : List (Int × Int)) (r : Int) (b : Bs) (hs0 : St b (stl []) b.w) (R0 : Ro b A0 (em T31 l0)) (C0 : l0.length ≤ c0) (H : shadowboxref09_Total.f k l0 = some r) :
    Calls Try.prog 23 #[.slice A0 l0.length c0] b.w fun e w' => ∃ x : Unit, e = .returned (.int .i64 r) ∧ St b (stl []) w' := by
  unfold shadowboxref09_Total.f at H
  refine enterb (n := 29) Try.func23 rfl (by kernel_rfl) (by kernel_rfl) hs0 ?_
  refine cs_sub (s0) (sub_nil _) ?_
  refine cs_seq ?_
  refine cs_region (l := [_]) ?_
  refine ls_val (v := .int .i64 (0 : Int)) rfl rfl (by kernel_rfl) (fun w => by kernel_rfl) ?_
  refine ls_end ?_
  refine qn_then ?_
  refine cs_seq ?_
  refine cs_region (l := [_]) ?_
  refine ls_val (v := .int .i64 (0 : Int)) rfl rfl (by kernel_rfl) (fun w => by kernel_rfl) ?_
  refine ls_end ?_
  refine qn_then ?_
  refine cs_seq ?_
  refine cs_seq ?_
  refine cs_region (l := [_]) ?_
  refine ls_val (v := .int .i64 (0 : Int)) rfl rfl (by kernel_rfl) (fun w => by kernel_rfl) ?_
  refine ls_end ?_
  refine qn_then ?_
  refine cs_block ?_
  refine cs_sub (s0) (sub_nil _) ?_
  refine cs_loop (fun kk f S => ∃ (fR : Fr) (x3_1 : Int) (x4_1 : Int), f = upd (upd (upd fR 0 (.slice A0 l0.length c0)) 3 (.int .i64 x3_1)) 4 (.int .i64 x4_1) ∧ S = s0 ∧ shadowboxref09_Total.lo1 l0 kk x3_1 x4_1 = some r) k ?_ ?_ ?_
  · exact ⟨_, (0 : Int), (0 : Int), fr_next (fr_next (fr_next (rfl) (by kernel_rfl)) (by kernel_rfl)) (by kernel_rfl), rfl, H⟩
  · rintro f S ⟨fr1, x3_1, x4_1, rfl, rfl, H⟩; cases H
  · rintro k1 f S ⟨fr1, x3_1, x4_1, rfl, rfl, H⟩
    replace H : ((if x4_1 < (l0.length : Int) then (shadowboxref09_Valid.f k1 l0).bind fun t2 => (if t2 = true then (if 0 ≤ x4_1 then lt (((l0).getD (x4_1).toNat ((0 : Int), (0 : Int))).2) fun y11 => lt (((l0).getD (x4_1).toNat ((0 : Int), (0 : Int))).1) fun y15 => lt (IntKind.wrap .i64 ((IntKind.wrap .i64 (x3_1 + y11)) - y15)) fun y17 => (shadowboxref09_Total.lo1 l0 k1) y17 (IntKind.wrap .i64 (x4_1 + (1 : Int))) else none) else some x3_1) else some x3_1)) = some r := H
    refine cs_seq ?_
    refine cs_seq ?_
    refine cs_region (l := [_, _, _, _, _, _, _, _]) ?_
    refine ls_val (v := .int .i64 x4_1) rfl rfl (by kernel_rfl) (fun w => by kernel_rfl) ?_
    refine ls_val (v := .slice A0 l0.length c0) rfl rfl (by kernel_rfl) (fun w => by kernel_rfl) ?_
    refine ls_val (v := .int .i64 (l0.length : Int)) rfl rfl (by kernel_rfl) (fun w => by kernel_rfl) ?_
    refine ls_val (v := .bool (decide (x4_1 < (l0.length : Int)))) rfl rfl (by kernel_rfl) (fun w => by kernel_rfl) ?_
    refine ls_val (v := .bool (decide (x4_1 < (l0.length : Int)))) rfl rfl (by kernel_rfl) (fun w => by kernel_rfl) ?_
    by_cases q1 : x4_1 < (l0.length : Int)
    · replace H := ite_t q1 H
      refine ls_know (c := true) (dec_t q1) 9 (by kernel_rfl) ?_
      refine ls_on (j := 4) (t := 9) (b := true) rfl rfl (by kernel_rfl) (by kernel_rfl) ?_
      refine ls_val (v := .slice A0 l0.length c0) rfl rfl (by kernel_rfl) (fun w => by kernel_rfl) ?_
      refine ls_on (j := 4) (t := 9) (b := true) rfl rfl (by kernel_rfl) (by kernel_rfl) ?_
      obtain ⟨t2, hc3, H⟩ := bind_some H
      refine ls_callb (fid := 22) (vals := #[.slice A0 l0.length c0]) (X := Unit) (fun x => .bool t2) (fun x => stl []) [] [] [] [] 0 rfl rfl (by kernel_rfl) (fun w => by kernel_rfl) trivial trivial (by decide) (fun w hs hb => shadowboxref09_Valid.calls k1 A0 c0 l0 t2 (lent b w [] []) hb (hs.ro R0 _ _) C0 hc3) ?_
      intro x4
      refine ls_val (v := .bool t2) rfl rfl (by kernel_rfl) (fun w => by kernel_rfl) ?_
      refine ls_end ?_
      refine qn_then ?_
      by_cases q5 : t2 = true
      · replace H := ite_t q5 H
        refine cs_know (c := true) (q5) 12 (by kernel_rfl) ?_
        refine cs_true (by kernel_rfl) ?_
        refine cs_skip' ?_
        refine qn_then ?_
        refine cs_seq ?_
        refine cs_block ?_
        obtain ⟨s7_0, hs7_0⟩ : ∃ z : Value → Sto → Prop, z = (fun v R => v = .int .i64 x3_1 ∧ R = s0) := ⟨_, rfl⟩
        refine have_op (l := [_, _, _, _, _, _, _, _, _, _, _, _, _, _]) shadowboxref09_Total.tab5 0 0 (fun sp => sp 0 = s7_0) (fun sp on hA hon => ?_) (fun ops7_0 => ?_)
        · refine ⟨fun o ho vs Rs f' S' w hp hf hx hS hR hs => ?_⟩
          obtain rfl := Option.some.inj ho
          rw [hA, hs7_0]
          refine And.intro (fun a ha => (want_none rfl a ha).trans hon.symm) (And.intro (fun _ => ?_) (fun h => by rw [hon] at h; cases h))
          have hF := fr_next (rfl) ((hx 3 (by kernel_rfl)).trans (by kernel_rfl : (_ : Value) = .int .i64 x3_1))
          refine ls_fr hF ?_
          refine ls_val (v := .int .i64 x3_1) rfl rfl (by kernel_rfl) (fun w => by kernel_rfl) ?_
          exact ls_fin s0 (.int .i64 x3_1) (congrArg (fun z => upd z 15 _) hF.symm) ⟨rfl, rfl⟩ (sub_nil _)
        obtain ⟨s7_1, hs7_1⟩ : ∃ z : Value → Sto → Prop, z = (fun v R => v = .slice A0 l0.length c0 ∧ R = s0) := ⟨_, rfl⟩
        refine have_op (l := [_, _, _, _, _, _, _, _, _, _, _, _, _, _]) shadowboxref09_Total.tab5 0 1 (fun sp => sp 1 = s7_1) (fun sp on hA hon => ?_) (fun ops7_1 => ?_)
        · refine ⟨fun o ho vs Rs f' S' w hp hf hx hS hR hs => ?_⟩
          obtain rfl := Option.some.inj ho
          rw [hA, hs7_1]
          refine And.intro (fun a ha => (want_none rfl a ha).trans hon.symm) (And.intro (fun _ => ?_) (fun h => by rw [hon] at h; cases h))
          have hF := fr_next (rfl) ((hx 0 (by kernel_rfl)).trans (by kernel_rfl : (_ : Value) = .slice A0 l0.length c0))
          refine ls_fr hF ?_
          refine ls_val (v := .slice A0 l0.length c0) rfl rfl (by kernel_rfl) (fun w => by kernel_rfl) ?_
          exact ls_fin s0 (.slice A0 l0.length c0) (congrArg (fun z => upd z 16 _) hF.symm) ⟨rfl, rfl⟩ (sub_nil _)
        obtain ⟨s7_2, hs7_2⟩ : ∃ z : Value → Sto → Prop, z = (fun v R => v = .int .i64 x4_1 ∧ R = s0) := ⟨_, rfl⟩
        refine have_op (l := [_, _, _, _, _, _, _, _, _, _, _, _, _, _]) shadowboxref09_Total.tab5 0 2 (fun sp => sp 2 = s7_2) (fun sp on hA hon => ?_) (fun ops7_2 => ?_)
        · refine ⟨fun o ho vs Rs f' S' w hp hf hx hS hR hs => ?_⟩
          obtain rfl := Option.some.inj ho
          rw [hA, hs7_2]
          refine And.intro (fun a ha => (want_none rfl a ha).trans hon.symm) (And.intro (fun _ => ?_) (fun h => by rw [hon] at h; cases h))
          have hF := fr_next (rfl) ((hx 4 (by kernel_rfl)).trans (by kernel_rfl : (_ : Value) = .int .i64 x4_1))
          refine ls_fr hF ?_
          refine ls_val (v := .int .i64 x4_1) rfl rfl (by kernel_rfl) (fun w => by kernel_rfl) ?_
          exact ls_fin s0 (.int .i64 x4_1) (congrArg (fun z => upd z 17 _) hF.symm) ⟨rfl, rfl⟩ (sub_nil _)
        obtain ⟨q8, H⟩ := ite_need H
        obtain ⟨ad9, hA10⟩ := ido_at (T := T31) (l := l0) (i := x4_1) R0 q8 q1
        obtain ⟨s7_3, hs7_3⟩ : ∃ z : Value → Sto → Prop, z = (fun v R => v = .pointer (some (ad9.add ((x4_1).toNat * 2))) ∧ R = s0) := ⟨_, rfl⟩
        refine have_op (l := [_, _, _, _, _, _, _, _, _, _, _, _, _, _]) shadowboxref09_Total.tab5 0 3 (fun sp => sp 3 = s7_3 ∧ sp 1 = s7_1 ∧ sp 2 = s7_2) (fun sp on hA hon => ?_) (fun ops7_3 => ?_)
        · refine ⟨fun o ho vs Rs f' S' w hp hf hx hS hR hs => ?_⟩
          obtain rfl := Option.some.inj ho
          obtain ⟨hv1, hR1⟩ := (spe hA.2.1 hs7_1 (hp 1 (by kernel_rfl)))
          obtain ⟨hv2, hR2⟩ := (spe hA.2.2 hs7_2 (hp 2 (by kernel_rfl)))
          rw [hA.1, hs7_3]
          refine And.intro (fun a ha => (want_none rfl a ha).trans hon.symm) (And.intro (fun _ => ?_) (fun h => by rw [hon] at h; cases h))
          have hF := fr_next (fr_next (rfl) ((hf 1 16 (by kernel_rfl) rfl).trans hv1)) ((hf 2 17 (by kernel_rfl) rfl).trans hv2)
          refine ls_fr hF ?_
          refine ls_idxv T31 (A := A0) (c := c0) (l := l0) (k := .i64) (i := x4_1) (z := 2) (ad := ad9) rfl rfl (by kernel_rfl) hA10 rfl (by kernel_rfl) (by kernel_rfl) (by kernel_rfl) (by kernel_rfl) q8 q1 ?_
          exact ls_fin s0 (.pointer (some (ad9.add ((x4_1).toNat * 2)))) (congrArg (fun z => upd z 18 _) hF.symm) ⟨rfl, rfl⟩ (sub_nil _)
        obtain ⟨s7_4, hs7_4⟩ : ∃ z : Value → Sto → Prop, z = (fun v R => v = .pointer (some (ad9.add (((x4_1).toNat * 2) + 1))) ∧ R = s0) := ⟨_, rfl⟩
        refine have_op (l := [_, _, _, _, _, _, _, _, _, _, _, _, _, _]) shadowboxref09_Total.tab5 0 4 (fun sp => sp 4 = s7_4 ∧ sp 3 = s7_3) (fun sp on hA hon => ?_) (fun ops7_4 => ?_)
        · refine ⟨fun o ho vs Rs f' S' w hp hf hx hS hR hs => ?_⟩
          obtain rfl := Option.some.inj ho
          obtain ⟨hv3, hR3⟩ := (spe hA.2 hs7_3 (hp 3 (by kernel_rfl)))
          rw [hA.1, hs7_4]
          refine And.intro (fun a ha => (want_none rfl a ha).trans hon.symm) (And.intro (fun _ => ?_) (fun h => by rw [hon] at h; cases h))
          have hF := fr_next (rfl) ((hf 3 18 (by kernel_rfl) rfl).trans hv3)
          refine ls_fr hF ?_
          refine ls_fieldm (ad := ad9) (off := ((x4_1).toNat * 2)) rfl rfl (by kernel_rfl) 1 (fun w => by kernel_rfl) ?_
          exact ls_fin s0 (.pointer (some (ad9.add (((x4_1).toNat * 2) + 1)))) (congrArg (fun z => upd z 19 _) hF.symm) ⟨rfl, rfl⟩ (sub_nil _)
        obtain ⟨y11, hy12, H⟩ := lt_some H
        obtain ⟨s7_5, hs7_5⟩ : ∃ z : Value → Sto → Prop, z = (fun v R => v = .int .i64 y11 ∧ R = s0) := ⟨_, rfl⟩
        refine have_op (l := [_, _, _, _, _, _, _, _, _, _, _, _, _, _]) shadowboxref09_Total.tab5 0 5 (fun sp => sp 5 = s7_5 ∧ sp 4 = s7_4) (fun sp on hA hon => ?_) (fun ops7_5 => ?_)
        · refine ⟨fun o ho vs Rs f' S' w hp hf hx hS hR hs => ?_⟩
          obtain rfl := Option.some.inj ho
          obtain ⟨hv4, hR4⟩ := (spe hA.2 hs7_4 (hp 4 (by kernel_rfl)))
          rw [hA.1, hs7_5]
          refine And.intro (fun a ha => (want_none rfl a ha).trans hon.symm) (And.intro (fun _ => ?_) (fun h => by rw [hon] at h; cases h))
          have hF := fr_next (rfl) ((hf 4 19 (by kernel_rfl) rfl).trans hv4)
          refine ls_fr hF ?_
          refine ls_load (a0 := (ad9.add (((x4_1).toNat * 2) + 1))) (v := .int .i64 (((l0).getD (x4_1).toNat ((0 : Int), (0 : Int))).2)) (de := (TypeDesc.int .i64)) rfl rfl (by kernel_rfl) rfl (by kernel_rfl) (by kernel_rfl) (by kernel_rfl) (fun w1 hs1 => (Rd.step (hs.old R0) hs1.below.bw).at hA10 (Sub4.trans (em_sub T31 l0 (i := (x4_1).toNat) (by have h0 : (0 : Int) ≤ x4_1 := q8; have h1 : x4_1 < (l0.length : Int) := q1; omega)) (Sub4.skip (n := 1) (len1 _) (Sub4.all _)))) ?_
          refine ls_ren 20 (v := .int .i64 (((l0).getD (x4_1).toNat ((0 : Int), (0 : Int))).2)) (v' := .int .i64 y11) (by kernel_rfl) (by rw [hy12]) ?_
          exact ls_fin s0 (.int .i64 y11) ((upd_upd _ _ _ _).trans (congrArg (fun z => upd z 20 _) hF.symm)) ⟨rfl, rfl⟩ (sub_nil _)
        obtain ⟨s7_6, hs7_6⟩ : ∃ z : Value → Sto → Prop, z = (fun v R => v = .int .i64 (IntKind.wrap .i64 (x3_1 + y11)) ∧ R = s0) := ⟨_, rfl⟩
        refine have_op (l := [_, _, _, _, _, _, _, _, _, _, _, _, _, _]) shadowboxref09_Total.tab5 0 6 (fun sp => sp 6 = s7_6 ∧ sp 0 = s7_0 ∧ sp 5 = s7_5) (fun sp on hA hon => ?_) (fun ops7_6 => ?_)
        · refine ⟨fun o ho vs Rs f' S' w hp hf hx hS hR hs => ?_⟩
          obtain rfl := Option.some.inj ho
          obtain ⟨hv0, hR0⟩ := (spe hA.2.1 hs7_0 (hp 0 (by kernel_rfl)))
          obtain ⟨hv5, hR5⟩ := (spe hA.2.2 hs7_5 (hp 5 (by kernel_rfl)))
          rw [hA.1, hs7_6]
          refine And.intro (fun a ha => (want_none rfl a ha).trans hon.symm) (And.intro (fun _ => ?_) (fun h => by rw [hon] at h; cases h))
          have hF := fr_next (fr_next (rfl) ((hf 0 15 (by kernel_rfl) rfl).trans hv0)) ((hf 5 20 (by kernel_rfl) rfl).trans hv5)
          refine ls_fr hF ?_
          refine ls_val (v := .int .i64 (IntKind.wrap .i64 (x3_1 + y11))) rfl rfl (by kernel_rfl) (fun w => by kernel_rfl) ?_
          exact ls_fin s0 (.int .i64 (IntKind.wrap .i64 (x3_1 + y11))) (congrArg (fun z => upd z 21 _) hF.symm) ⟨rfl, rfl⟩ (sub_nil _)
        obtain ⟨s7_7, hs7_7⟩ : ∃ z : Value → Sto → Prop, z = (fun v R => v = .slice A0 l0.length c0 ∧ R = s0) := ⟨_, rfl⟩
        refine have_op (l := [_, _, _, _, _, _, _, _, _, _, _, _, _, _]) shadowboxref09_Total.tab5 0 7 (fun sp => sp 7 = s7_7) (fun sp on hA hon => ?_) (fun ops7_7 => ?_)
        · refine ⟨fun o ho vs Rs f' S' w hp hf hx hS hR hs => ?_⟩
          obtain rfl := Option.some.inj ho
          rw [hA, hs7_7]
          refine And.intro (fun a ha => (want_none rfl a ha).trans hon.symm) (And.intro (fun _ => ?_) (fun h => by rw [hon] at h; cases h))
          have hF := fr_next (rfl) ((hx 0 (by kernel_rfl)).trans (by kernel_rfl : (_ : Value) = .slice A0 l0.length c0))
          refine ls_fr hF ?_
          refine ls_val (v := .slice A0 l0.length c0) rfl rfl (by kernel_rfl) (fun w => by kernel_rfl) ?_
          exact ls_fin s0 (.slice A0 l0.length c0) (congrArg (fun z => upd z 22 _) hF.symm) ⟨rfl, rfl⟩ (sub_nil _)
        obtain ⟨s7_8, hs7_8⟩ : ∃ z : Value → Sto → Prop, z = (fun v R => v = .int .i64 x4_1 ∧ R = s0) := ⟨_, rfl⟩
        refine have_op (l := [_, _, _, _, _, _, _, _, _, _, _, _, _, _]) shadowboxref09_Total.tab5 0 8 (fun sp => sp 8 = s7_8) (fun sp on hA hon => ?_) (fun ops7_8 => ?_)
        · refine ⟨fun o ho vs Rs f' S' w hp hf hx hS hR hs => ?_⟩
          obtain rfl := Option.some.inj ho
          rw [hA, hs7_8]
          refine And.intro (fun a ha => (want_none rfl a ha).trans hon.symm) (And.intro (fun _ => ?_) (fun h => by rw [hon] at h; cases h))
          have hF := fr_next (rfl) ((hx 4 (by kernel_rfl)).trans (by kernel_rfl : (_ : Value) = .int .i64 x4_1))
          refine ls_fr hF ?_
          refine ls_val (v := .int .i64 x4_1) rfl rfl (by kernel_rfl) (fun w => by kernel_rfl) ?_
          exact ls_fin s0 (.int .i64 x4_1) (congrArg (fun z => upd z 23 _) hF.symm) ⟨rfl, rfl⟩ (sub_nil _)
        obtain ⟨ad13, hA14⟩ := ido_at (T := T31) (l := l0) (i := x4_1) R0 q8 q1
        obtain ⟨s7_9, hs7_9⟩ : ∃ z : Value → Sto → Prop, z = (fun v R => v = .pointer (some (ad13.add ((x4_1).toNat * 2))) ∧ R = s0) := ⟨_, rfl⟩
        refine have_op (l := [_, _, _, _, _, _, _, _, _, _, _, _, _, _]) shadowboxref09_Total.tab5 0 9 (fun sp => sp 9 = s7_9 ∧ sp 7 = s7_7 ∧ sp 8 = s7_8) (fun sp on hA hon => ?_) (fun ops7_9 => ?_)
        · refine ⟨fun o ho vs Rs f' S' w hp hf hx hS hR hs => ?_⟩
          obtain rfl := Option.some.inj ho
          obtain ⟨hv7, hR7⟩ := (spe hA.2.1 hs7_7 (hp 7 (by kernel_rfl)))
          obtain ⟨hv8, hR8⟩ := (spe hA.2.2 hs7_8 (hp 8 (by kernel_rfl)))
          rw [hA.1, hs7_9]
          refine And.intro (fun a ha => (want_none rfl a ha).trans hon.symm) (And.intro (fun _ => ?_) (fun h => by rw [hon] at h; cases h))
          have hF := fr_next (fr_next (rfl) ((hf 7 22 (by kernel_rfl) rfl).trans hv7)) ((hf 8 23 (by kernel_rfl) rfl).trans hv8)
          refine ls_fr hF ?_
          refine ls_idxv T31 (A := A0) (c := c0) (l := l0) (k := .i64) (i := x4_1) (z := 2) (ad := ad13) rfl rfl (by kernel_rfl) hA14 rfl (by kernel_rfl) (by kernel_rfl) (by kernel_rfl) (by kernel_rfl) q8 q1 ?_
          exact ls_fin s0 (.pointer (some (ad13.add ((x4_1).toNat * 2)))) (congrArg (fun z => upd z 24 _) hF.symm) ⟨rfl, rfl⟩ (sub_nil _)
        obtain ⟨s7_10, hs7_10⟩ : ∃ z : Value → Sto → Prop, z = (fun v R => v = .pointer (some (ad13.add (((x4_1).toNat * 2) + 0))) ∧ R = s0) := ⟨_, rfl⟩
        refine have_op (l := [_, _, _, _, _, _, _, _, _, _, _, _, _, _]) shadowboxref09_Total.tab5 0 10 (fun sp => sp 10 = s7_10 ∧ sp 9 = s7_9) (fun sp on hA hon => ?_) (fun ops7_10 => ?_)
        · refine ⟨fun o ho vs Rs f' S' w hp hf hx hS hR hs => ?_⟩
          obtain rfl := Option.some.inj ho
          obtain ⟨hv9, hR9⟩ := (spe hA.2 hs7_9 (hp 9 (by kernel_rfl)))
          rw [hA.1, hs7_10]
          refine And.intro (fun a ha => (want_none rfl a ha).trans hon.symm) (And.intro (fun _ => ?_) (fun h => by rw [hon] at h; cases h))
          have hF := fr_next (rfl) ((hf 9 24 (by kernel_rfl) rfl).trans hv9)
          refine ls_fr hF ?_
          refine ls_fieldm (ad := ad13) (off := ((x4_1).toNat * 2)) rfl rfl (by kernel_rfl) 0 (fun w => by kernel_rfl) ?_
          exact ls_fin s0 (.pointer (some (ad13.add (((x4_1).toNat * 2) + 0)))) (congrArg (fun z => upd z 25 _) hF.symm) ⟨rfl, rfl⟩ (sub_nil _)
        obtain ⟨y15, hy16, H⟩ := lt_some H
        obtain ⟨s7_11, hs7_11⟩ : ∃ z : Value → Sto → Prop, z = (fun v R => v = .int .i64 y15 ∧ R = s0) := ⟨_, rfl⟩
        refine have_op (l := [_, _, _, _, _, _, _, _, _, _, _, _, _, _]) shadowboxref09_Total.tab5 0 11 (fun sp => sp 11 = s7_11 ∧ sp 10 = s7_10) (fun sp on hA hon => ?_) (fun ops7_11 => ?_)
        · refine ⟨fun o ho vs Rs f' S' w hp hf hx hS hR hs => ?_⟩
          obtain rfl := Option.some.inj ho
          obtain ⟨hv10, hR10⟩ := (spe hA.2 hs7_10 (hp 10 (by kernel_rfl)))
          rw [hA.1, hs7_11]
          refine And.intro (fun a ha => (want_none rfl a ha).trans hon.symm) (And.intro (fun _ => ?_) (fun h => by rw [hon] at h; cases h))
          have hF := fr_next (rfl) ((hf 10 25 (by kernel_rfl) rfl).trans hv10)
          refine ls_fr hF ?_
          refine ls_load (a0 := (ad13.add (((x4_1).toNat * 2) + 0))) (v := .int .i64 (((l0).getD (x4_1).toNat ((0 : Int), (0 : Int))).1)) (de := (TypeDesc.int .i64)) rfl rfl (by kernel_rfl) rfl (by kernel_rfl) (by kernel_rfl) (by kernel_rfl) (fun w1 hs1 => (Rd.step (hs.old R0) hs1.below.bw).at hA14 (Sub4.trans (em_sub T31 l0 (i := (x4_1).toNat) (by have h0 : (0 : Int) ≤ x4_1 := q8; have h1 : x4_1 < (l0.length : Int) := q1; omega)) (Sub4.head _ _))) ?_
          refine ls_ren 26 (v := .int .i64 (((l0).getD (x4_1).toNat ((0 : Int), (0 : Int))).1)) (v' := .int .i64 y15) (by kernel_rfl) (by rw [hy16]) ?_
          exact ls_fin s0 (.int .i64 y15) ((upd_upd _ _ _ _).trans (congrArg (fun z => upd z 26 _) hF.symm)) ⟨rfl, rfl⟩ (sub_nil _)
        refine cs_draw shadowboxref09_Total.tab5 12 0 (spl [s7_0, s7_1, s7_2, s7_3, s7_4, s7_5, s7_6, s7_7, s7_8, s7_9, s7_10, s7_11]) (onl [true, true, true, true, true, true, true, true, true, true, true, true]) (by kernel_rfl) (by kernel_rfl) (by kernel_rfl) (by kernel_rfl) (rs := [_, _]) rfl (by kernel_rfl) (by kernel_rfl) (all_snoc (all_snoc (all_snoc (all_snoc (all_snoc (all_snoc (all_snoc (all_snoc (all_snoc (all_snoc (all_snoc (all_snoc (all_nil) (ops7_0 _ _ rfl rfl)) (ops7_1 _ _ rfl rfl)) (ops7_2 _ _ rfl rfl)) (ops7_3 _ _ ⟨rfl, rfl, rfl⟩ rfl)) (ops7_4 _ _ ⟨rfl, rfl⟩ rfl)) (ops7_5 _ _ ⟨rfl, rfl⟩ rfl)) (ops7_6 _ _ ⟨rfl, rfl, rfl⟩ rfl)) (ops7_7 _ _ rfl rfl)) (ops7_8 _ _ rfl rfl)) (ops7_9 _ _ ⟨rfl, rfl, rfl⟩ rfl)) (ops7_10 _ _ ⟨rfl, rfl⟩ rfl)) (ops7_11 _ _ ⟨rfl, rfl⟩ rfl)) ?_
        intro vs Rs f' S' hp hf hx hS hR
        obtain ⟨hv6, hR6⟩ := (spe rfl hs7_6 (hp 6 (by kernel_rfl)))
        obtain ⟨hv11, hR11⟩ := (spe rfl hs7_11 (hp 11 (by kernel_rfl)))
        refine ls_fr (F := upd (upd (upd (upd (upd (upd f' 0 (.slice A0 l0.length c0)) 4 (.int .i64 x4_1)) 10 (.slice A0 l0.length c0)) 11 (.bool t2)) 21 (.int .i64 (IntKind.wrap .i64 (x3_1 + y11)))) 26 (.int .i64 y15)) (fr_next (fr_next (fr_next (fr_next (fr_next (fr_next (rfl) ((hx 0 (by kernel_rfl)).trans (by kernel_rfl : (_ : Value) = .slice A0 l0.length c0))) ((hx 4 (by kernel_rfl)).trans (by kernel_rfl : (_ : Value) = .int .i64 x4_1))) ((hx 10 (by kernel_rfl)).trans (by kernel_rfl : (_ : Value) = .slice A0 l0.length c0))) ((hx 11 (by kernel_rfl)).trans (by kernel_rfl : (_ : Value) = .bool t2))) ((hf 6 21 (by kernel_rfl) rfl).trans hv6)) ((hf 11 26 (by kernel_rfl) rfl).trans hv11)) ?_
        refine ls_sub (s0) (sub_nil _) ?_
        obtain ⟨y17, hy18, H⟩ := lt_some H
        refine ls_val (v := .int .i64 (IntKind.wrap .i64 ((IntKind.wrap .i64 (x3_1 + y11)) - y15))) rfl rfl (by kernel_rfl) (fun w => by kernel_rfl) ?_
        refine ls_ren 27 (v := .int .i64 (IntKind.wrap .i64 ((IntKind.wrap .i64 (x3_1 + y11)) - y15))) (v' := .int .i64 y17) (by kernel_rfl) (by rw [hy18]) ?_
        refine ls_val (v := .int .i64 y17) rfl rfl (by kernel_rfl) (fun w => by kernel_rfl) ?_
        refine ls_end ?_
        refine qn_block ?_
        refine qn_then ?_
        refine cs_region (l := [_, _, _]) ?_
        refine ls_val (v := .int .i64 x4_1) rfl rfl (by kernel_rfl) (fun w => by kernel_rfl) ?_
        refine ls_val (v := .int .i64 (IntKind.wrap .i64 (x4_1 + (1 : Int)))) rfl rfl (by kernel_rfl) (fun w => by kernel_rfl) ?_
        refine ls_val (v := .int .i64 (IntKind.wrap .i64 (x4_1 + (1 : Int)))) rfl rfl (by kernel_rfl) (fun w => by kernel_rfl) ?_
        refine ls_end ?_
        refine qn_again k1 (s0) (Nat.le_refl _) ⟨_, y17, (IntKind.wrap .i64 (x4_1 + (1 : Int))), fr_next (fr_next (fr_next (rfl) (by kernel_rfl)) (by kernel_rfl)) (by kernel_rfl), rfl, H⟩ (sub_nil _)
      · replace H := ite_f q5 H
        refine cs_know (c := false) (Bool.eq_false_iff.mpr q5) 12 (by kernel_rfl) ?_
        refine cs_false (by kernel_rfl) ?_
        refine cs_exit' ?_
        refine qx_then ?_
        refine qx_then ?_
        refine qx_same ?_
        refine qn_then ?_
        refine cs_seq ?_
        refine cs_region (l := [_, _]) ?_
        refine ls_val (v := .int .i64 x3_1) rfl rfl (by kernel_rfl) (fun w => by kernel_rfl) ?_
        refine ls_val (v := .int .i64 x3_1) rfl rfl (by kernel_rfl) (fun w => by kernel_rfl) ?_
        refine ls_end ?_
        refine qn_then ?_
        refine cs_ret' ?_
        obtain rfl := Option.some.inj H
        refine qr_res (rs := [_]) rfl (fun w' hs => ⟨[.int .i64 x3_1], (res_tmp (by kernel_rfl) (.nil)), (), rfl, hs.pick (ts := []) (cs := []) trivial (by decide)⟩)
    · replace H := ite_f q1 H
      refine ls_know (c := false) (dec_f q1) 9 (by kernel_rfl) ?_
      refine ls_off (j := 4) (t := 9) (b := true) (c := false) rfl rfl (by kernel_rfl) (by kernel_rfl) rfl rfl (by kernel_rfl) ?_
      refine ls_off (j := 4) (t := 9) (b := true) (c := false) rfl rfl (by kernel_rfl) (by kernel_rfl) rfl rfl (by kernel_rfl) ?_
      refine ls_val (v := .bool false) rfl rfl (by kernel_rfl) (fun w => by kernel_rfl) ?_
      refine ls_end ?_
      refine qn_then ?_
      refine cs_false (by kernel_rfl) ?_
      refine cs_exit' ?_
      refine qx_then ?_
      refine qx_then ?_
      refine qx_same ?_
      refine qn_then ?_
      refine cs_seq ?_
      refine cs_region (l := [_, _]) ?_
      refine ls_val (v := .int .i64 x3_1) rfl rfl (by kernel_rfl) (fun w => by kernel_rfl) ?_
      refine ls_val (v := .int .i64 x3_1) rfl rfl (by kernel_rfl) (fun w => by kernel_rfl) ?_
      refine ls_end ?_
      refine qn_then ?_
      refine cs_ret' ?_
      obtain rfl := Option.some.inj H
      refine qr_res (rs := [_]) rfl (fun w' hs => ⟨[.int .i64 x3_1], (res_tmp (by kernel_rfl) (.nil)), (), rfl, hs.pick (ts := []) (cs := []) trivial (by decide)⟩)

/-! ### shadowbox/extent.Find$1: function 47 -/
def extent_Find_1.f (k : Nat) (a0 : (Int × Int)) (v1 : Int) : Option (Bool) :=
  some (decide ((IntKind.wrap .i64 (a0.2 - a0.1)) ≥ v1))
set_option maxRecDepth 100000 in
set_option maxHeartbeats 4000000 in
theorem extent_Find_1.calls (k : Nat) (a0 : (Int × Int)) (pg1 : Nat) (v1 : Int) (r : Bool) (b : Bs) (hs0 : St b (stl [Ck.var 3 pg1 ([Value.int .i64 v1])]) b.w) (H : extent_Find_1.f k a0 v1 = some r) :
    Calls Try.prog 47 #[.agg ⟨([Value.int .i64 a0.1] ++ [Value.int .i64 a0.2])⟩, .pointer (some ⟨pg1, 0, none⟩)] b.w fun e w' => ∃ x : Unit, e = .returned (.bool r) ∧ St b (stl [Ck.var 3 pg1 ([Value.int .i64 v1])]) w' := by
  unfold extent_Find_1.f at H
  refine enterb (n := 11) Try.func47 rfl (by kernel_rfl) (by kernel_rfl) hs0 ?_
  refine cs_sub (sput s0 0 (some (Ck.var 3 pg1 ([Value.int .i64 v1])))) (sub_put (by exact rfl) (sub_nil _)) ?_
  refine cs_seq ?_
  refine cs_region (l := [_, _]) ?_
  refine ls_new rfl rfl (by kernel_rfl) 1 (fun g => .pointer (some ⟨g, 0, none⟩)) (.cells ⟨([Value.int .i64 a0.1] ++ [Value.int .i64 a0.2])⟩ 24) (fun w => by kernel_rfl) ?_
  intro g1
  refine ls_val (v := .bool false) rfl rfl (by kernel_rfl) (fun w => by kernel_rfl) ?_
  refine ls_end ?_
  refine qn_then ?_
  refine cs_seq ?_
  refine cs_region (l := [_, _, _, _, _, _, _, _]) ?_
  refine ls_val (v := .pointer (some ⟨g1, (0 + 1), none⟩)) rfl rfl (by kernel_rfl) (fun w => by kernel_rfl) ?_
  refine ls_load (a0 := ⟨g1, (0 + 1), none⟩) (v := .int .i64 a0.2) (de := (TypeDesc.int .i64)) rfl rfl (by kernel_rfl) rfl (by kernel_rfl) (by kernel_rfl) (by kernel_rfl) (fun w hs => (hs.var (k := 1) (by exact rfl) (Sub4.trans (Sub4.all _) (Sub4.skip (n := 1) (len1 _) (Sub4.all _))))) ?_
  refine ls_val (v := .pointer (some ⟨g1, (0 + 0), none⟩)) rfl rfl (by kernel_rfl) (fun w => by kernel_rfl) ?_
  refine ls_load (a0 := ⟨g1, (0 + 0), none⟩) (v := .int .i64 a0.1) (de := (TypeDesc.int .i64)) rfl rfl (by kernel_rfl) rfl (by kernel_rfl) (by kernel_rfl) (by kernel_rfl) (fun w hs => (hs.var (k := 1) (by exact rfl) (Sub4.trans (Sub4.all _) (Sub4.head _ _)))) ?_
  refine ls_val (v := .int .i64 (IntKind.wrap .i64 (a0.2 - a0.1))) rfl rfl (by kernel_rfl) (fun w => by kernel_rfl) ?_
  refine ls_load (a0 := ⟨pg1, 0, none⟩) (v := .int .i64 v1) (de := (TypeDesc.int .i64)) rfl rfl (by kernel_rfl) rfl (by kernel_rfl) (by kernel_rfl) (by kernel_rfl) (fun w hs => (hs.var (k := 0) (by exact rfl) (Sub4.all _))) ?_
  refine ls_val (v := .bool (decide ((IntKind.wrap .i64 (a0.2 - a0.1)) ≥ v1))) rfl rfl (by kernel_rfl) (fun w => by kernel_rfl) ?_
  refine ls_val (v := .bool (decide ((IntKind.wrap .i64 (a0.2 - a0.1)) ≥ v1))) rfl rfl (by kernel_rfl) (fun w => by kernel_rfl) ?_
  refine ls_end ?_
  refine qn_then ?_
  refine cs_ret' ?_
  obtain rfl := Option.some.inj H
  refine qr_res (rs := [_]) rfl (fun w' hs => ⟨[.bool (decide ((IntKind.wrap .i64 (a0.2 - a0.1)) ≥ v1))], (res_tmp (by kernel_rfl) (.nil)), (), rfl, hs.pick (ts := [0]) (cs := [Ck.var 3 pg1 ([Value.int .i64 v1])]) ⟨by exact rfl, trivial⟩ (by decide)⟩)

/-! ### slices.IndexFunc[[]shadowbox/extent.Span,shadowbox/extent.Span], specialized: function 46 -/
def slices_IndexFunc_46_s47.lo1 (l0 : List (Int × Int)) (v1_0 : Int) : Nat → Int → Option (Int)
  | 0, _ => none
  | k1 + 1, x8_1 => (if x8_1 < (l0.length : Int) then (if 0 ≤ x8_1 then (extent_Find_1.f k1 ((l0).getD (x8_1).toNat ((0 : Int), (0 : Int))) v1_0).bind fun t5 => (if t5 = true then some x8_1 else (slices_IndexFunc_46_s47.lo1 l0 v1_0 k1) (IntKind.wrap .i64 (x8_1 + (1 : Int)))) else none) else some (-1 : Int))
def slices_IndexFunc_46_s47.f (k : Nat) (l0 : List (Int × Int)) (v1_0 : Int) : Option (Int) :=
  slices_IndexFunc_46_s47.lo1 l0 v1_0 k (0 : Int)
set_option maxRecDepth 100000 in
set_option maxHeartbeats 4000000 in
theorem slices_IndexFunc_46_s47.calls (k : Nat) (A0 : Option Addr) (c0 : Nat) (l0 : List (Int × Int)) (pg1_0 : Nat) (v1_0 : Int) (r : Int) (b : Bs) (hs0 : St b (stl [Ck.var 3 pg1_0 ([Value.int .i64 v1_0])]) b.w) (R0 : Ro b A0 (em T24 l0)) (C0 : l0.length ≤ c0) (H : slices_IndexFunc_46_s47.f k l0 v1_0 = some r) :
    Calls Try.prog 46 #[.slice A0 l0.length c0, .func (.func 47) #[] #[.pointer (some ⟨pg1_0, 0, none⟩)]] b.w fun e w' => ∃ x : Unit, e = .returned (.int .i64 r) ∧ St b (stl [Ck.var 3 pg1_0 ([Value.int .i64 v1_0])]) w' := by
  unfold slices_IndexFunc_46_s47.f at H
  refine enterb (n := 19) Try.func46 rfl (by kernel_rfl) (by kernel_rfl) hs0 ?_
  refine cs_sub (sput s0 0 (some (Ck.var 3 pg1_0 ([Value.int .i64 v1_0])))) (sub_put (by exact rfl) (sub_nil _)) ?_
  refine cs_seq ?_
  refine cs_region (l := [_]) ?_
  refine ls_val (v := .int .i64 (0 : Int)) rfl rfl (by kernel_rfl) (fun w => by kernel_rfl) ?_
  refine ls_end ?_
  refine qn_then ?_
  refine cs_seq ?_
  refine cs_seq ?_
  refine cs_region (l := [_, _, _]) ?_
  refine ls_val (v := .slice A0 l0.length c0) rfl rfl (by kernel_rfl) (fun w => by kernel_rfl) ?_
  refine ls_val (v := .int .i64 (l0.length : Int)) rfl rfl (by kernel_rfl) (fun w => by kernel_rfl) ?_
  refine ls_val (v := .int .i64 (0 : Int)) rfl rfl (by kernel_rfl) (fun w => by kernel_rfl) ?_
  refine ls_end ?_
  refine qn_then ?_
  refine cs_block ?_
  refine cs_sub (sput s0 0 (some (Ck.var 3 pg1_0 ([Value.int .i64 v1_0])))) (sub_put (by exact rfl) (sub_nil _)) ?_
  refine cs_loop (fun kk f S => ∃ (fR : Fr) (x8_1 : Int), f = upd (upd (upd (upd fR 0 (.slice A0 l0.length c0)) 1 (.func (.func 47) #[] #[.pointer (some ⟨pg1_0, 0, none⟩)])) 7 (.int .i64 (l0.length : Int))) 8 (.int .i64 x8_1) ∧ S = sput s0 0 (some (Ck.var 3 pg1_0 ([Value.int .i64 v1_0]))) ∧ slices_IndexFunc_46_s47.lo1 l0 v1_0 kk x8_1 = some r) k ?_ ?_ ?_
  · exact ⟨_, (0 : Int), fr_next (fr_next (fr_next (fr_next (rfl) (by kernel_rfl)) (by kernel_rfl)) (by kernel_rfl)) (by kernel_rfl), rfl, H⟩
  · rintro f S ⟨fr1, x8_1, rfl, rfl, H⟩; cases H
  · rintro k1 f S ⟨fr1, x8_1, rfl, rfl, H⟩
    replace H : ((if x8_1 < (l0.length : Int) then (if 0 ≤ x8_1 then (extent_Find_1.f k1 ((l0).getD (x8_1).toNat ((0 : Int), (0 : Int))) v1_0).bind fun t5 => (if t5 = true then some x8_1 else (slices_IndexFunc_46_s47.lo1 l0 v1_0 k1) (IntKind.wrap .i64 (x8_1 + (1 : Int)))) else none) else some (-1 : Int))) = some r := H
    refine cs_seq ?_
    refine cs_region (l := [_]) ?_
    refine ls_val (v := .bool (decide (x8_1 < (l0.length : Int)))) rfl rfl (by kernel_rfl) (fun w => by kernel_rfl) ?_
    refine ls_end ?_
    refine qn_then ?_
    refine cs_seq ?_
    by_cases q1 : x8_1 < (l0.length : Int)
    · replace H := ite_t q1 H
      refine cs_know (c := true) (dec_t q1) 9 (by kernel_rfl) ?_
      refine cs_true (by kernel_rfl) ?_
      refine cs_skip' ?_
      refine qn_then ?_
      refine cs_seq ?_
      refine cs_block ?_
      refine cs_seq ?_
      refine cs_region (l := [_, _]) ?_
      refine ls_val (v := .int .i64 x8_1) rfl rfl (by kernel_rfl) (fun w => by kernel_rfl) ?_
      refine ls_val (v := .int .i64 x8_1) rfl rfl (by kernel_rfl) (fun w => by kernel_rfl) ?_
      refine ls_end ?_
      refine qn_then ?_
      refine cs_seq ?_
      refine cs_region (l := [_, _, _, _, _, _]) ?_
      refine ls_val (v := .func (.func 47) #[] #[.pointer (some ⟨pg1_0, 0, none⟩)]) rfl rfl (by kernel_rfl) (fun w => by kernel_rfl) ?_
      refine ls_val (v := .slice A0 l0.length c0) rfl rfl (by kernel_rfl) (fun w => by kernel_rfl) ?_
      refine ls_val (v := .int .i64 x8_1) rfl rfl (by kernel_rfl) (fun w => by kernel_rfl) ?_
      obtain ⟨q2, H⟩ := ite_need H
      obtain ⟨ad3, hA4⟩ := ido_at (T := T24) (l := l0) (i := x8_1) R0 q2 q1
      refine ls_idxv T24 (A := A0) (c := c0) (l := l0) (k := .i64) (i := x8_1) (z := 2) (ad := ad3) rfl rfl (by kernel_rfl) hA4 rfl (by kernel_rfl) (by kernel_rfl) (by kernel_rfl) (by kernel_rfl) q2 q1 ?_
      refine ls_loadagg (a := (ad3.add ((x8_1).toNat * 2))) (sub := ([Value.int .i64 (((l0).getD (x8_1).toNat ((0 : Int), (0 : Int))).1)] ++ [Value.int .i64 (((l0).getD (x8_1).toNat ((0 : Int), (0 : Int))).2)])) rfl rfl (by kernel_rfl) rfl (by kernel_rfl) (by kernel_rfl) (by kernel_rfl) (len_app (len1 _) (len1 _)) (fun w hs => (hs.old R0).part hA4 (em_sub T24 l0 (i := (x8_1).toNat) (by have h0 : (0 : Int) ≤ x8_1 := q2; have h1 : x8_1 < (l0.length : Int) := q1; omega))) ?_
      obtain ⟨t5, hc6, H⟩ := bind_some H
      refine ls_callb (fid := 47) (vals := #[.agg ⟨([Value.int .i64 (((l0).getD (x8_1).toNat ((0 : Int), (0 : Int))).1)] ++ [Value.int .i64 (((l0).getD (x8_1).toNat ((0 : Int), (0 : Int))).2)])⟩, .pointer (some ⟨pg1_0, 0, none⟩)]) (X := Unit) (fun x => .bool t5) (fun x => stl [Ck.var 3 pg1_0 ([Value.int .i64 v1_0])]) [0] [] [Ck.var 3 pg1_0 ([Value.int .i64 v1_0])] [] 1 rfl rfl (by kernel_rfl) (fun w => by kernel_rfl) ⟨by exact rfl, trivial⟩ trivial (by decide) (fun w hs hb => extent_Find_1.calls k1 ((l0).getD (x8_1).toNat ((0 : Int), (0 : Int))) pg1_0 v1_0 t5 (lent b w [Ck.var 3 pg1_0 ([Value.int .i64 v1_0])] []) hb  hc6) ?_
      intro x7
      refine ls_end ?_
      refine qn_then ?_
      by_cases q8 : t5 = true
      · replace H := ite_t q8 H
        refine cs_know (c := true) (q8) 16 (by kernel_rfl) ?_
        refine cs_true (by kernel_rfl) ?_
        refine cs_seq ?_
        refine cs_region (l := [_, _]) ?_
        refine ls_val (v := .int .i64 x8_1) rfl rfl (by kernel_rfl) (fun w => by kernel_rfl) ?_
        refine ls_val (v := .int .i64 x8_1) rfl rfl (by kernel_rfl) (fun w => by kernel_rfl) ?_
        refine ls_end ?_
        refine qn_then ?_
        refine cs_ret' ?_
        refine qr_block ?_
        refine qr_then ?_
        refine qr_then ?_
        refine qr_block ?_
        refine qr_then ?_
        obtain rfl := Option.some.inj H
        refine qr_res (rs := [_]) rfl (fun w' hs => ⟨[.int .i64 x8_1], (res_tmp (by kernel_rfl) (.nil)), (), rfl, hs.pick (ts := [0]) (cs := [Ck.var 3 pg1_0 ([Value.int .i64 v1_0])]) ⟨by exact rfl, trivial⟩ (by decide)⟩)
      · replace H := ite_f q8 H
        refine cs_know (c := false) (Bool.eq_false_iff.mpr q8) 16 (by kernel_rfl) ?_
        refine cs_false (by kernel_rfl) ?_
        refine cs_skip' ?_
        refine qn_block ?_
        refine qn_then ?_
        refine cs_region (l := [_, _]) ?_
        refine ls_val (v := .int .i64 (IntKind.wrap .i64 (x8_1 + (1 : Int)))) rfl rfl (by kernel_rfl) (fun w => by kernel_rfl) ?_
        refine ls_val (v := .int .i64 (IntKind.wrap .i64 (x8_1 + (1 : Int)))) rfl rfl (by kernel_rfl) (fun w => by kernel_rfl) ?_
        refine ls_end ?_
        refine qn_again k1 (sput s0 0 (some (Ck.var 3 pg1_0 ([Value.int .i64 v1_0])))) (Nat.le_refl _) ⟨_, (IntKind.wrap .i64 (x8_1 + (1 : Int))), fr_next (fr_next (fr_next (fr_next (rfl) (by kernel_rfl)) (by kernel_rfl)) (by kernel_rfl)) (by kernel_rfl), rfl, H⟩ (sub_put (by exact rfl) (sub_nil _))
    · replace H := ite_f q1 H
      refine cs_know (c := false) (dec_f q1) 9 (by kernel_rfl) ?_
      refine cs_false (by kernel_rfl) ?_
      refine cs_exit' ?_
      refine qx_then ?_
      refine qx_then ?_
      refine qx_same ?_
      refine qn_then ?_
      refine cs_seq ?_
      refine cs_region (l := [_]) ?_
      refine ls_val (v := .int .i64 (-1 : Int)) rfl rfl (by kernel_rfl) (fun w => by kernel_rfl) ?_
      refine ls_end ?_
      refine qn_then ?_
      refine cs_ret' ?_
      obtain rfl := Option.some.inj H
      refine qr_res (rs := [_]) rfl (fun w' hs => ⟨[.int .i64 (-1 : Int)], (res_tmp (by kernel_rfl) (.nil)), (), rfl, hs.pick (ts := [0]) (cs := [Ck.var 3 pg1_0 ([Value.int .i64 v1_0])]) ⟨by exact rfl, trivial⟩ (by decide)⟩)

/-! ### shadowbox/extent.Find: function 24 -/
def extent_Find.f (k : Nat) (l0 : List (Int × Int)) (a1 : Int) : Option (Int) :=
  (slices_IndexFunc_46_s47.f k l0 a1).bind fun t2 => (if a1 < (1 : Int) then some (-1 : Int) else (if t2 < (0 : Int) then some (-1 : Int) else (extent_Valid.f k l0).bind fun t7 => (if t7 = true then (if 0 ≤ t2 then (if t2 < (l0.length : Int) then lt (((l0).getD (t2).toNat ((0 : Int), (0 : Int))).1) fun y15 => some y15 else none) else none) else some (-1 : Int))))
set_option maxRecDepth 100000 in
set_option maxHeartbeats 4000000 in
theorem extent_Find.calls (k : Nat) (A0 : Option Addr) (c0 : Nat) (l0 : List (Int × Int)) (a1 : Int) (r : Int) (b : Bs) (hs0 : St b (stl []) b.w) (R0 : Ro b A0 (em T24 l0)) (C0 : l0.length ≤ c0) (H : extent_Find.f k l0 a1 = some r) :
    Calls Try.prog 24 #[.slice A0 l0.length c0, .int .i64 a1] b.w fun e w' => ∃ x : Unit, e = .returned (.int .i64 r) ∧ St b (stl []) w' := by
  unfold extent_Find.f at H
  refine enterb (n := 25) Try.func24 rfl (by kernel_rfl) (by kernel_rfl) hs0 ?_
  refine cs_sub (s0) (sub_nil _) ?_
  refine cs_seq ?_
  refine cs_region (l := [_, _]) ?_
  refine ls_new rfl rfl (by kernel_rfl) 0 (fun g => .pointer (some ⟨g, 0, none⟩)) (.cells ⟨[Value.int .i64 a1]⟩ 3) (fun w => by kernel_rfl) ?_
  intro g1
  refine ls_val (v := .int .i64 (0 : Int)) rfl rfl (by kernel_rfl) (fun w => by kernel_rfl) ?_
  refine ls_end ?_
  refine qn_then ?_
  refine cs_seq ?_
  refine cs_region (l := [_, _, _, _]) ?_
  refine ls_val (v := .slice A0 l0.length c0) rfl rfl (by kernel_rfl) (fun w => by kernel_rfl) ?_
  refine ls_val (v := .func (.func 47) #[] #[.pointer (some ⟨g1, 0, none⟩)]) rfl rfl (by kernel_rfl) (fun w => by kernel_rfl) ?_
  obtain ⟨t2, hc3, H⟩ := bind_some H
  refine ls_callb (fid := 46) (vals := #[.slice A0 l0.length c0, .func (.func 47) #[] #[.pointer (some ⟨g1, 0, none⟩)]]) (X := Unit) (fun x => .int .i64 t2) (fun x => stl [Ck.var 3 g1 ([Value.int .i64 a1])]) [0] [] [Ck.var 3 g1 ([Value.int .i64 a1])] [] 1 rfl rfl (by kernel_rfl) (fun w => by kernel_rfl) ⟨by exact rfl, trivial⟩ trivial (by decide) (fun w hs hb => slices_IndexFunc_46_s47.calls k A0 c0 l0 g1 a1 t2 (lent b w [Ck.var 3 g1 ([Value.int .i64 a1])] []) hb (hs.ro R0 _ _) C0 hc3) ?_
  intro x4
  refine ls_val (v := .int .i64 t2) rfl rfl (by kernel_rfl) (fun w => by kernel_rfl) ?_
  refine ls_end ?_
  refine qn_then ?_
  refine cs_seq ?_
  refine cs_seq ?_
  refine cs_region (l := [_, _, _, _, _, _, _, _, _, _, _]) ?_
  refine ls_load (a0 := ⟨g1, 0, none⟩) (v := .int .i64 a1) (de := (TypeDesc.int .i64)) rfl rfl (by kernel_rfl) rfl (by kernel_rfl) (by kernel_rfl) (by kernel_rfl) (fun w hs => (hs.var (k := 0) (by exact rfl) (Sub4.all _))) ?_
  refine ls_val (v := .bool (decide (a1 < (1 : Int)))) rfl rfl (by kernel_rfl) (fun w => by kernel_rfl) ?_
  refine ls_val (v := .bool (decide (a1 < (1 : Int)))) rfl rfl (by kernel_rfl) (fun w => by kernel_rfl) ?_
  by_cases q5 : a1 < (1 : Int)
  · replace H := ite_t q5 H
    refine ls_know (c := true) (dec_t q5) 11 (by kernel_rfl) ?_
    refine ls_off (j := 2) (t := 11) (b := false) (c := true) rfl rfl (by kernel_rfl) (by kernel_rfl) rfl rfl (by kernel_rfl) ?_
    refine ls_off (j := 2) (t := 11) (b := false) (c := true) rfl rfl (by kernel_rfl) (by kernel_rfl) rfl rfl (by kernel_rfl) ?_
    refine ls_val (v := .bool true) rfl rfl (by kernel_rfl) (fun w => by kernel_rfl) ?_
    refine ls_val (v := .bool true) rfl rfl (by kernel_rfl) (fun w => by kernel_rfl) ?_
    refine ls_off (j := 6) (t := 15) (b := false) (c := true) rfl rfl (by kernel_rfl) (by kernel_rfl) rfl rfl (by kernel_rfl) ?_
    refine ls_off (j := 6) (t := 15) (b := false) (c := true) rfl rfl (by kernel_rfl) (by kernel_rfl) rfl rfl (by kernel_rfl) ?_
    refine ls_off (j := 6) (t := 15) (b := false) (c := true) rfl rfl (by kernel_rfl) (by kernel_rfl) rfl rfl (by kernel_rfl) ?_
    refine ls_val (v := .bool true) rfl rfl (by kernel_rfl) (fun w => by kernel_rfl) ?_
    refine ls_end ?_
    refine qn_then ?_
    refine cs_true (by kernel_rfl) ?_
    refine cs_seq ?_
    refine cs_region (l := [_]) ?_
    refine ls_val (v := .int .i64 (-1 : Int)) rfl rfl (by kernel_rfl) (fun w => by kernel_rfl) ?_
    refine ls_end ?_
    refine qn_then ?_
    refine cs_ret' ?_
    refine qr_then ?_
    obtain rfl := Option.some.inj H
    refine qr_res (rs := [_]) rfl (fun w' hs => ⟨[.int .i64 (-1 : Int)], (res_tmp (by kernel_rfl) (.nil)), (), rfl, hs.pick (ts := []) (cs := []) trivial (by decide)⟩)
  · replace H := ite_f q5 H
    refine ls_know (c := false) (dec_f q5) 11 (by kernel_rfl) ?_
    refine ls_on (j := 2) (t := 11) (b := false) rfl rfl (by kernel_rfl) (by kernel_rfl) ?_
    refine ls_val (v := .int .i64 t2) rfl rfl (by kernel_rfl) (fun w => by kernel_rfl) ?_
    refine ls_on (j := 2) (t := 11) (b := false) rfl rfl (by kernel_rfl) (by kernel_rfl) ?_
    refine ls_val (v := .bool (decide (t2 < (0 : Int)))) rfl rfl (by kernel_rfl) (fun w => by kernel_rfl) ?_
    refine ls_val (v := .bool (decide (t2 < (0 : Int)))) rfl rfl (by kernel_rfl) (fun w => by kernel_rfl) ?_
    refine ls_val (v := .bool (decide (t2 < (0 : Int)))) rfl rfl (by kernel_rfl) (fun w => by kernel_rfl) ?_
    by_cases q6 : t2 < (0 : Int)
    · replace H := ite_t q6 H
      refine ls_know (c := true) (dec_t q6) 15 (by kernel_rfl) ?_
      refine ls_off (j := 6) (t := 15) (b := false) (c := true) rfl rfl (by kernel_rfl) (by kernel_rfl) rfl rfl (by kernel_rfl) ?_
      refine ls_off (j := 6) (t := 15) (b := false) (c := true) rfl rfl (by kernel_rfl) (by kernel_rfl) rfl rfl (by kernel_rfl) ?_
      refine ls_off (j := 6) (t := 15) (b := false) (c := true) rfl rfl (by kernel_rfl) (by kernel_rfl) rfl rfl (by kernel_rfl) ?_
      refine ls_val (v := .bool true) rfl rfl (by kernel_rfl) (fun w => by kernel_rfl) ?_
      refine ls_end ?_
      refine qn_then ?_
      refine cs_true (by kernel_rfl) ?_
      refine cs_seq ?_
      refine cs_region (l := [_]) ?_
      refine ls_val (v := .int .i64 (-1 : Int)) rfl rfl (by kernel_rfl) (fun w => by kernel_rfl) ?_
      refine ls_end ?_
      refine qn_then ?_
      refine cs_ret' ?_
      refine qr_then ?_
      obtain rfl := Option.some.inj H
      refine qr_res (rs := [_]) rfl (fun w' hs => ⟨[.int .i64 (-1 : Int)], (res_tmp (by kernel_rfl) (.nil)), (), rfl, hs.pick (ts := []) (cs := []) trivial (by decide)⟩)
    · replace H := ite_f q6 H
      refine ls_know (c := false) (dec_f q6) 15 (by kernel_rfl) ?_
      refine ls_on (j := 6) (t := 15) (b := false) rfl rfl (by kernel_rfl) (by kernel_rfl) ?_
      refine ls_val (v := .slice A0 l0.length c0) rfl rfl (by kernel_rfl) (fun w => by kernel_rfl) ?_
      refine ls_on (j := 6) (t := 15) (b := false) rfl rfl (by kernel_rfl) (by kernel_rfl) ?_
      obtain ⟨t7, hc8, H⟩ := bind_some H
      refine ls_callb (fid := 10) (vals := #[.slice A0 l0.length c0]) (X := Unit) (fun x => .bool t7) (fun x => stl []) [] [] [] [] 1 rfl rfl (by kernel_rfl) (fun w => by kernel_rfl) trivial trivial (by decide) (fun w hs hb => extent_Valid.calls k A0 c0 l0 t7 (lent b w [] []) hb (hs.ro R0 _ _) C0 hc8) ?_
      intro x9
      refine ls_on (j := 6) (t := 15) (b := false) rfl rfl (by kernel_rfl) (by kernel_rfl) ?_
      refine ls_val (v := .bool (!t7)) rfl rfl (by kernel_rfl) (fun w => by kernel_rfl) ?_
      refine ls_val (v := .bool (!t7)) rfl rfl (by kernel_rfl) (fun w => by kernel_rfl) ?_
      refine ls_end ?_
      refine qn_then ?_
      by_cases q10 : t7 = true
      · replace H := ite_t q10 H
        refine cs_know (c := false) (congrArg Bool.not (q10)) 19 (by kernel_rfl) ?_
        refine cs_false (by kernel_rfl) ?_
        refine cs_skip' ?_
        refine qn_then ?_
        refine cs_seq ?_
        refine cs_region (l := [_, _, _, _, _, _]) ?_
        refine ls_val (v := .slice A0 l0.length c0) rfl rfl (by kernel_rfl) (fun w => by kernel_rfl) ?_
        refine ls_val (v := .int .i64 t2) rfl rfl (by kernel_rfl) (fun w => by kernel_rfl) ?_
        obtain ⟨q11, H⟩ := ite_need H
        obtain ⟨q12, H⟩ := ite_need H
        obtain ⟨ad13, hA14⟩ := ido_at (T := T24) (l := l0) (i := t2) R0 q11 q12
        refine ls_idxv T24 (A := A0) (c := c0) (l := l0) (k := .i64) (i := t2) (z := 2) (ad := ad13) rfl rfl (by kernel_rfl) hA14 rfl (by kernel_rfl) (by kernel_rfl) (by kernel_rfl) (by kernel_rfl) q11 q12 ?_
        refine ls_fieldm (ad := ad13) (off := ((t2).toNat * 2)) rfl rfl (by kernel_rfl) 0 (fun w => by kernel_rfl) ?_
        obtain ⟨y15, hy16, H⟩ := lt_some H
        refine ls_load (a0 := (ad13.add (((t2).toNat * 2) + 0))) (v := .int .i64 (((l0).getD (t2).toNat ((0 : Int), (0 : Int))).1)) (de := (TypeDesc.int .i64)) rfl rfl (by kernel_rfl) rfl (by kernel_rfl) (by kernel_rfl) (by kernel_rfl) (fun w hs => (hs.old R0).at hA14 (Sub4.trans (em_sub T24 l0 (i := (t2).toNat) (by have h0 : (0 : Int) ≤ t2 := q11; have h1 : t2 < (l0.length : Int) := q12; omega)) (Sub4.head _ _))) ?_
        refine ls_ren 24 (v := .int .i64 (((l0).getD (t2).toNat ((0 : Int), (0 : Int))).1)) (v' := .int .i64 y15) (by kernel_rfl) (by rw [hy16]) ?_
        refine ls_val (v := .int .i64 y15) rfl rfl (by kernel_rfl) (fun w => by kernel_rfl) ?_
        refine ls_end ?_
        refine qn_then ?_
        refine cs_ret' ?_
        obtain rfl := Option.some.inj H
        refine qr_res (rs := [_]) rfl (fun w' hs => ⟨[.int .i64 y15], (res_tmp (by kernel_rfl) (.nil)), (), rfl, hs.pick (ts := []) (cs := []) trivial (by decide)⟩)
      · replace H := ite_f q10 H
        refine cs_know (c := true) (congrArg Bool.not (Bool.eq_false_iff.mpr q10)) 19 (by kernel_rfl) ?_
        refine cs_true (by kernel_rfl) ?_
        refine cs_seq ?_
        refine cs_region (l := [_]) ?_
        refine ls_val (v := .int .i64 (-1 : Int)) rfl rfl (by kernel_rfl) (fun w => by kernel_rfl) ?_
        refine ls_end ?_
        refine qn_then ?_
        refine cs_ret' ?_
        refine qr_then ?_
        obtain rfl := Option.some.inj H
        refine qr_res (rs := [_]) rfl (fun w' hs => ⟨[.int .i64 (-1 : Int)], (res_tmp (by kernel_rfl) (.nil)), (), rfl, hs.pick (ts := []) (cs := []) trivial (by decide)⟩)

/-! ### shadowbox/shadowboxref09.Find: function 25 -/
def shadowboxref09_Find.tab1 : List (List Nat) := [[], [], [0, 1], [0, 1, 2], [0, 1, 2, 3], [], [], [5, 6], [5, 6, 7], [5, 6, 7, 8], [0, 1, 2, 3, 4, 5, 6, 7, 8, 9], [], [0, 1, 2, 3, 4, 5, 6, 7, 8, 9, 10, 11]]
def shadowboxref09_Find.lo2 (l0 : List (Int × Int)) (a1 : Int) : Nat → Int → Option (Int)
  | 0, _ => none
  | k2 + 1, x5_2 => (if x5_2 < (l0.length : Int) then (if 0 ≤ x5_2 then lt (((l0).getD (x5_2).toNat ((0 : Int), (0 : Int))).2) fun y7 => lt (((l0).getD (x5_2).toNat ((0 : Int), (0 : Int))).1) fun y11 => (if (IntKind.wrap .i64 (y7 - y11)) ≥ a1 then lt (((l0).getD (x5_2).toNat ((0 : Int), (0 : Int))).1) fun y16 => some y16 else (shadowboxref09_Find.lo2 l0 a1 k2) (IntKind.wrap .i64 (x5_2 + (1 : Int)))) else none) else some (-1 : Int))
def shadowboxref09_Find.jo1 (k : Nat) (l0 : List (Int × Int)) (a1 : Int) : Option (Int) := shadowboxref09_Find.lo2 l0 a1 k (0 : Int)
def shadowboxref09_Find.f (k : Nat) (l0 : List (Int × Int)) (a1 : Int) : Option (Int) :=
  (if a1 < (1 : Int) then some (-1 : Int) else (shadowboxref09_Valid.f k l0).bind fun t19 => (if t19 = true then (shadowboxref09_Find.jo1 k l0 a1) else some (-1 : Int)))
set_option maxRecDepth 100000 in
set_option maxHeartbeats 4000000 in
theorem shadowboxref09_Find.calls (k : Nat) (A0 : Option Addr) (c0 : Nat) (l0 : List (Int × Int)) (a1 : Int) (r : Int) (b : Bs) (hs0 : St b (stl []) b.w) (R0 : Ro b A0 (em T31 l0)) (C0 : l0.length ≤ c0) (H : shadowboxref09_Find.f k l0 a1 = some r) :
    Calls Try.prog 25 #[.slice A0 l0.length c0, .int .i64 a1] b.w fun e w' => ∃ x : Unit, e = .returned (.int .i64 r) ∧ St b (stl []) w' := by
  unfold shadowboxref09_Find.f at H
  refine enterb (n := 37) Try.func25 rfl (by kernel_rfl) (by kernel_rfl) hs0 ?_
  refine cs_sub (s0) (sub_nil _) ?_
  refine cs_seq ?_
  refine cs_region (l := [_]) ?_
  refine ls_val (v := .int .i64 (0 : Int)) rfl rfl (by kernel_rfl) (fun w => by kernel_rfl) ?_
  refine ls_end ?_
  refine qn_then ?_
  refine cs_cut (fun f S => ∃ (fR : Fr), f = upd (upd fR 0 (.slice A0 l0.length c0)) 1 (.int .i64 a1) ∧ S = s0 ∧ shadowboxref09_Find.jo1 k l0 a1 = some r) ?_ ?_
  · skip
    refine cs_seq ?_
    refine cs_region (l := [_, _, _, _, _, _, _]) ?_
    refine ls_val (v := .int .i64 a1) rfl rfl (by kernel_rfl) (fun w => by kernel_rfl) ?_
    refine ls_val (v := .bool (decide (a1 < (1 : Int)))) rfl rfl (by kernel_rfl) (fun w => by kernel_rfl) ?_
    refine ls_val (v := .bool (decide (a1 < (1 : Int)))) rfl rfl (by kernel_rfl) (fun w => by kernel_rfl) ?_
    by_cases q18 : a1 < (1 : Int)
    · replace H := ite_t q18 H
      refine ls_know (c := true) (dec_t q18) 8 (by kernel_rfl) ?_
      refine ls_off (j := 2) (t := 8) (b := false) (c := true) rfl rfl (by kernel_rfl) (by kernel_rfl) rfl rfl (by kernel_rfl) ?_
      refine ls_off (j := 2) (t := 8) (b := false) (c := true) rfl rfl (by kernel_rfl) (by kernel_rfl) rfl rfl (by kernel_rfl) ?_
      refine ls_off (j := 2) (t := 8) (b := false) (c := true) rfl rfl (by kernel_rfl) (by kernel_rfl) rfl rfl (by kernel_rfl) ?_
      refine ls_val (v := .bool true) rfl rfl (by kernel_rfl) (fun w => by kernel_rfl) ?_
      refine ls_end ?_
      refine qn_then ?_
      refine cs_true (by kernel_rfl) ?_
      refine cs_seq ?_
      refine cs_region (l := [_]) ?_
      refine ls_val (v := .int .i64 (-1 : Int)) rfl rfl (by kernel_rfl) (fun w => by kernel_rfl) ?_
      refine ls_end ?_
      refine qn_then ?_
      refine cs_ret' ?_
      refine qr_then ?_
      obtain rfl := Option.some.inj H
      refine qr_res (rs := [_]) rfl (fun w' hs => ⟨[.int .i64 (-1 : Int)], (res_tmp (by kernel_rfl) (.nil)), (), rfl, hs.pick (ts := []) (cs := []) trivial (by decide)⟩)
    · replace H := ite_f q18 H
      refine ls_know (c := false) (dec_f q18) 8 (by kernel_rfl) ?_
      refine ls_on (j := 2) (t := 8) (b := false) rfl rfl (by kernel_rfl) (by kernel_rfl) ?_
      refine ls_val (v := .slice A0 l0.length c0) rfl rfl (by kernel_rfl) (fun w => by kernel_rfl) ?_
      refine ls_on (j := 2) (t := 8) (b := false) rfl rfl (by kernel_rfl) (by kernel_rfl) ?_
      obtain ⟨t19, hc20, H⟩ := bind_some H
      refine ls_callb (fid := 22) (vals := #[.slice A0 l0.length c0]) (X := Unit) (fun x => .bool t19) (fun x => stl []) [] [] [] [] 0 rfl rfl (by kernel_rfl) (fun w => by kernel_rfl) trivial trivial (by decide) (fun w hs hb => shadowboxref09_Valid.calls k A0 c0 l0 t19 (lent b w [] []) hb (hs.ro R0 _ _) C0 hc20) ?_
      intro x21
      refine ls_on (j := 2) (t := 8) (b := false) rfl rfl (by kernel_rfl) (by kernel_rfl) ?_
      refine ls_val (v := .bool (!t19)) rfl rfl (by kernel_rfl) (fun w => by kernel_rfl) ?_
      refine ls_val (v := .bool (!t19)) rfl rfl (by kernel_rfl) (fun w => by kernel_rfl) ?_
      refine ls_end ?_
      refine qn_then ?_
      by_cases q22 : t19 = true
      · replace H := ite_t q22 H
        refine cs_know (c := false) (congrArg Bool.not (q22)) 12 (by kernel_rfl) ?_
        refine cs_false (by kernel_rfl) ?_
        refine cs_skip' ?_
        refine qn_meet (s0) ⟨_, fr_next (fr_next (rfl) (by kernel_rfl)) (by kernel_rfl), rfl, H⟩ (sub_nil _)
      · replace H := ite_f q22 H
        refine cs_know (c := true) (congrArg Bool.not (Bool.eq_false_iff.mpr q22)) 12 (by kernel_rfl) ?_
        refine cs_true (by kernel_rfl) ?_
        refine cs_seq ?_
        refine cs_region (l := [_]) ?_
        refine ls_val (v := .int .i64 (-1 : Int)) rfl rfl (by kernel_rfl) (fun w => by kernel_rfl) ?_
        refine ls_end ?_
        refine qn_then ?_
        refine cs_ret' ?_
        refine qr_then ?_
        obtain rfl := Option.some.inj H
        refine qr_res (rs := [_]) rfl (fun w' hs => ⟨[.int .i64 (-1 : Int)], (res_tmp (by kernel_rfl) (.nil)), (), rfl, hs.pick (ts := []) (cs := []) trivial (by decide)⟩)
  · rintro f S ⟨fr1, rfl, rfl, H⟩
    replace H : (shadowboxref09_Find.lo2 l0 a1 k (0 : Int)) = some r := H
    refine cs_seq ?_
    refine cs_seq ?_
    refine cs_region (l := [_]) ?_
    refine ls_val (v := .int .i64 (0 : Int)) rfl rfl (by kernel_rfl) (fun w => by kernel_rfl) ?_
    refine ls_end ?_
    refine qn_then ?_
    refine cs_block ?_
    refine cs_sub (s0) (sub_nil _) ?_
    refine cs_loop (fun kk f S => ∃ (fR : Fr) (x5_2 : Int), f = upd (upd (upd fR 0 (.slice A0 l0.length c0)) 1 (.int .i64 a1)) 5 (.int .i64 x5_2) ∧ S = s0 ∧ shadowboxref09_Find.lo2 l0 a1 kk x5_2 = some r) k ?_ ?_ ?_
    · exact ⟨_, (0 : Int), fr_next (fr_next (fr_next (rfl) (by kernel_rfl)) (by kernel_rfl)) (by kernel_rfl), rfl, H⟩
    · rintro f S ⟨fr2, x5_2, rfl, rfl, H⟩; cases H
    · rintro k2 f S ⟨fr2, x5_2, rfl, rfl, H⟩
      replace H : ((if x5_2 < (l0.length : Int) then (if 0 ≤ x5_2 then lt (((l0).getD (x5_2).toNat ((0 : Int), (0 : Int))).2) fun y7 => lt (((l0).getD (x5_2).toNat ((0 : Int), (0 : Int))).1) fun y11 => (if (IntKind.wrap .i64 (y7 - y11)) ≥ a1 then lt (((l0).getD (x5_2).toNat ((0 : Int), (0 : Int))).1) fun y16 => some y16 else (shadowboxref09_Find.lo2 l0 a1 k2) (IntKind.wrap .i64 (x5_2 + (1 : Int)))) else none) else some (-1 : Int))) = some r := H
      refine cs_seq ?_
      refine cs_seq ?_
      refine cs_region (l := [_, _, _, _]) ?_
      refine ls_val (v := .int .i64 x5_2) rfl rfl (by kernel_rfl) (fun w => by kernel_rfl) ?_
      refine ls_val (v := .slice A0 l0.length c0) rfl rfl (by kernel_rfl) (fun w => by kernel_rfl) ?_
      refine ls_val (v := .int .i64 (l0.length : Int)) rfl rfl (by kernel_rfl) (fun w => by kernel_rfl) ?_
      refine ls_val (v := .bool (decide (x5_2 < (l0.length : Int)))) rfl rfl (by kernel_rfl) (fun w => by kernel_rfl) ?_
      refine ls_end ?_
      refine qn_then ?_
      by_cases q1 : x5_2 < (l0.length : Int)
      · replace H := ite_t q1 H
        refine cs_know (c := true) (dec_t q1) 16 (by kernel_rfl) ?_
        refine cs_true (by kernel_rfl) ?_
        refine cs_skip' ?_
        refine qn_then ?_
        refine cs_seq ?_
        refine cs_block ?_
        refine cs_seq ?_
        obtain ⟨s3_0, hs3_0⟩ : ∃ z : Value → Sto → Prop, z = (fun v R => v = .slice A0 l0.length c0 ∧ R = s0) := ⟨_, rfl⟩
        refine have_op (l := [_, _, _, _, _, _, _, _, _, _, _, _, _]) shadowboxref09_Find.tab1 0 0 (fun sp => sp 0 = s3_0) (fun sp on hA hon => ?_) (fun ops3_0 => ?_)
        · refine ⟨fun o ho vs Rs f' S' w hp hf hx hS hR hs => ?_⟩
          obtain rfl := Option.some.inj ho
          rw [hA, hs3_0]
          refine And.intro (fun a ha => (want_none rfl a ha).trans hon.symm) (And.intro (fun _ => ?_) (fun h => by rw [hon] at h; cases h))
          have hF := fr_next (rfl) ((hx 0 (by kernel_rfl)).trans (by kernel_rfl : (_ : Value) = .slice A0 l0.length c0))
          refine ls_fr hF ?_
          refine ls_val (v := .slice A0 l0.length c0) rfl rfl (by kernel_rfl) (fun w => by kernel_rfl) ?_
          exact ls_fin s0 (.slice A0 l0.length c0) (congrArg (fun z => upd z 19 _) hF.symm) ⟨rfl, rfl⟩ (sub_nil _)
        obtain ⟨s3_1, hs3_1⟩ : ∃ z : Value → Sto → Prop, z = (fun v R => v = .int .i64 x5_2 ∧ R = s0) := ⟨_, rfl⟩
        refine have_op (l := [_, _, _, _, _, _, _, _, _, _, _, _, _]) shadowboxref09_Find.tab1 0 1 (fun sp => sp 1 = s3_1) (fun sp on hA hon => ?_) (fun ops3_1 => ?_)
        · refine ⟨fun o ho vs Rs f' S' w hp hf hx hS hR hs => ?_⟩
          obtain rfl := Option.some.inj ho
          rw [hA, hs3_1]
          refine And.intro (fun a ha => (want_none rfl a ha).trans hon.symm) (And.intro (fun _ => ?_) (fun h => by rw [hon] at h; cases h))
          have hF := fr_next (rfl) ((hx 5 (by kernel_rfl)).trans (by kernel_rfl : (_ : Value) = .int .i64 x5_2))
          refine ls_fr hF ?_
          refine ls_val (v := .int .i64 x5_2) rfl rfl (by kernel_rfl) (fun w => by kernel_rfl) ?_
          exact ls_fin s0 (.int .i64 x5_2) (congrArg (fun z => upd z 20 _) hF.symm) ⟨rfl, rfl⟩ (sub_nil _)
        obtain ⟨q4, H⟩ := ite_need H
        obtain ⟨ad5, hA6⟩ := ido_at (T := T31) (l := l0) (i := x5_2) R0 q4 q1
        obtain ⟨s3_2, hs3_2⟩ : ∃ z : Value → Sto → Prop, z = (fun v R => v = .pointer (some (ad5.add ((x5_2).toNat * 2))) ∧ R = s0) := ⟨_, rfl⟩
        refine have_op (l := [_, _, _, _, _, _, _, _, _, _, _, _, _]) shadowboxref09_Find.tab1 0 2 (fun sp => sp 2 = s3_2 ∧ sp 0 = s3_0 ∧ sp 1 = s3_1) (fun sp on hA hon => ?_) (fun ops3_2 => ?_)
        · refine ⟨fun o ho vs Rs f' S' w hp hf hx hS hR hs => ?_⟩
          obtain rfl := Option.some.inj ho
          obtain ⟨hv0, hR0⟩ := (spe hA.2.1 hs3_0 (hp 0 (by kernel_rfl)))
          obtain ⟨hv1, hR1⟩ := (spe hA.2.2 hs3_1 (hp 1 (by kernel_rfl)))
          rw [hA.1, hs3_2]
          refine And.intro (fun a ha => (want_none rfl a ha).trans hon.symm) (And.intro (fun _ => ?_) (fun h => by rw [hon] at h; cases h))
          have hF := fr_next (fr_next (rfl) ((hf 0 19 (by kernel_rfl) rfl).trans hv0)) ((hf 1 20 (by kernel_rfl) rfl).trans hv1)
          refine ls_fr hF ?_
          refine ls_idxv T31 (A := A0) (c := c0) (l := l0) (k := .i64) (i := x5_2) (z := 2) (ad := ad5) rfl rfl (by kernel_rfl) hA6 rfl (by kernel_rfl) (by kernel_rfl) (by kernel_rfl) (by kernel_rfl) q4 q1 ?_
          exact ls_fin s0 (.pointer (some (ad5.add ((x5_2).toNat * 2)))) (congrArg (fun z => upd z 21 _) hF.symm) ⟨rfl, rfl⟩ (sub_nil _)
        obtain ⟨s3_3, hs3_3⟩ : ∃ z : Value → Sto → Prop, z = (fun v R => v = .pointer (some (ad5.add (((x5_2).toNat * 2) + 1))) ∧ R = s0) := ⟨_, rfl⟩
        refine have_op (l := [_, _, _, _, _, _, _, _, _, _, _, _, _]) shadowboxref09_Find.tab1 0 3 (fun sp => sp 3 = s3_3 ∧ sp 2 = s3_2) (fun sp on hA hon => ?_) (fun ops3_3 => ?_)
        · refine ⟨fun o ho vs Rs f' S' w hp hf hx hS hR hs => ?_⟩
          obtain rfl := Option.some.inj ho
          obtain ⟨hv2, hR2⟩ := (spe hA.2 hs3_2 (hp 2 (by kernel_rfl)))
          rw [hA.1, hs3_3]
          refine And.intro (fun a ha => (want_none rfl a ha).trans hon.symm) (And.intro (fun _ => ?_) (fun h => by rw [hon] at h; cases h))
          have hF := fr_next (rfl) ((hf 2 21 (by kernel_rfl) rfl).trans hv2)
          refine ls_fr hF ?_
          refine ls_fieldm (ad := ad5) (off := ((x5_2).toNat * 2)) rfl rfl (by kernel_rfl) 1 (fun w => by kernel_rfl) ?_
          exact ls_fin s0 (.pointer (some (ad5.add (((x5_2).toNat * 2) + 1)))) (congrArg (fun z => upd z 22 _) hF.symm) ⟨rfl, rfl⟩ (sub_nil _)
        obtain ⟨y7, hy8, H⟩ := lt_some H
        obtain ⟨s3_4, hs3_4⟩ : ∃ z : Value → Sto → Prop, z = (fun v R => v = .int .i64 y7 ∧ R = s0) := ⟨_, rfl⟩
        refine have_op (l := [_, _, _, _, _, _, _, _, _, _, _, _, _]) shadowboxref09_Find.tab1 0 4 (fun sp => sp 4 = s3_4 ∧ sp 3 = s3_3) (fun sp on hA hon => ?_) (fun ops3_4 => ?_)
        · refine ⟨fun o ho vs Rs f' S' w hp hf hx hS hR hs => ?_⟩
          obtain rfl := Option.some.inj ho
          obtain ⟨hv3, hR3⟩ := (spe hA.2 hs3_3 (hp 3 (by kernel_rfl)))
          rw [hA.1, hs3_4]
          refine And.intro (fun a ha => (want_none rfl a ha).trans hon.symm) (And.intro (fun _ => ?_) (fun h => by rw [hon] at h; cases h))
          have hF := fr_next (rfl) ((hf 3 22 (by kernel_rfl) rfl).trans hv3)
          refine ls_fr hF ?_
          refine ls_load (a0 := (ad5.add (((x5_2).toNat * 2) + 1))) (v := .int .i64 (((l0).getD (x5_2).toNat ((0 : Int), (0 : Int))).2)) (de := (TypeDesc.int .i64)) rfl rfl (by kernel_rfl) rfl (by kernel_rfl) (by kernel_rfl) (by kernel_rfl) (fun w1 hs1 => (Rd.step (hs.old R0) hs1.below.bw).at hA6 (Sub4.trans (em_sub T31 l0 (i := (x5_2).toNat) (by have h0 : (0 : Int) ≤ x5_2 := q4; have h1 : x5_2 < (l0.length : Int) := q1; omega)) (Sub4.skip (n := 1) (len1 _) (Sub4.all _)))) ?_
          refine ls_ren 23 (v := .int .i64 (((l0).getD (x5_2).toNat ((0 : Int), (0 : Int))).2)) (v' := .int .i64 y7) (by kernel_rfl) (by rw [hy8]) ?_
          exact ls_fin s0 (.int .i64 y7) ((upd_upd _ _ _ _).trans (congrArg (fun z => upd z 23 _) hF.symm)) ⟨rfl, rfl⟩ (sub_nil _)
        obtain ⟨s3_5, hs3_5⟩ : ∃ z : Value → Sto → Prop, z = (fun v R => v = .slice A0 l0.length c0 ∧ R = s0) := ⟨_, rfl⟩
        refine have_op (l := [_, _, _, _, _, _, _, _, _, _, _, _, _]) shadowboxref09_Find.tab1 0 5 (fun sp => sp 5 = s3_5) (fun sp on hA hon => ?_) (fun ops3_5 => ?_)
        · refine ⟨fun o ho vs Rs f' S' w hp hf hx hS hR hs => ?_⟩
          obtain rfl := Option.some.inj ho
          rw [hA, hs3_5]
          refine And.intro (fun a ha => (want_none rfl a ha).trans hon.symm) (And.intro (fun _ => ?_) (fun h => by rw [hon] at h; cases h))
          have hF := fr_next (rfl) ((hx 0 (by kernel_rfl)).trans (by kernel_rfl : (_ : Value) = .slice A0 l0.length c0))
          refine ls_fr hF ?_
          refine ls_val (v := .slice A0 l0.length c0) rfl rfl (by kernel_rfl) (fun w => by kernel_rfl) ?_
          exact ls_fin s0 (.slice A0 l0.length c0) (congrArg (fun z => upd z 24 _) hF.symm) ⟨rfl, rfl⟩ (sub_nil _)
        obtain ⟨s3_6, hs3_6⟩ : ∃ z : Value → Sto → Prop, z = (fun v R => v = .int .i64 x5_2 ∧ R = s0) := ⟨_, rfl⟩
        refine have_op (l := [_, _, _, _, _, _, _, _, _, _, _, _, _]) shadowboxref09_Find.tab1 0 6 (fun sp => sp 6 = s3_6) (fun sp on hA hon => ?_) (fun ops3_6 => ?_)
        · refine ⟨fun o ho vs Rs f' S' w hp hf hx hS hR hs => ?_⟩
          obtain rfl := Option.some.inj ho
          rw [hA, hs3_6]
          refine And.intro (fun a ha => (want_none rfl a ha).trans hon.symm) (And.intro (fun _ => ?_) (fun h => by rw [hon] at h; cases h))
          have hF := fr_next (rfl) ((hx 5 (by kernel_rfl)).trans (by kernel_rfl : (_ : Value) = .int .i64 x5_2))
          refine ls_fr hF ?_
          refine ls_val (v := .int .i64 x5_2) rfl rfl (by kernel_rfl) (fun w => by kernel_rfl) ?_
          exact ls_fin s0 (.int .i64 x5_2) (congrArg (fun z => upd z 25 _) hF.symm) ⟨rfl, rfl⟩ (sub_nil _)
        obtain ⟨ad9, hA10⟩ := ido_at (T := T31) (l := l0) (i := x5_2) R0 q4 q1
        obtain ⟨s3_7, hs3_7⟩ : ∃ z : Value → Sto → Prop, z = (fun v R => v = .pointer (some (ad9.add ((x5_2).toNat * 2))) ∧ R = s0) := ⟨_, rfl⟩
        refine have_op (l := [_, _, _, _, _, _, _, _, _, _, _, _, _]) shadowboxref09_Find.tab1 0 7 (fun sp => sp 7 = s3_7 ∧ sp 5 = s3_5 ∧ sp 6 = s3_6) (fun sp on hA hon => ?_) (fun ops3_7 => ?_)
        · refine ⟨fun o ho vs Rs f' S' w hp hf hx hS hR hs => ?_⟩
          obtain rfl := Option.some.inj ho
          obtain ⟨hv5, hR5⟩ := (spe hA.2.1 hs3_5 (hp 5 (by kernel_rfl)))
          obtain ⟨hv6, hR6⟩ := (spe hA.2.2 hs3_6 (hp 6 (by kernel_rfl)))
          rw [hA.1, hs3_7]
          refine And.intro (fun a ha => (want_none rfl a ha).trans hon.symm) (And.intro (fun _ => ?_) (fun h => by rw [hon] at h; cases h))
          have hF := fr_next (fr_next (rfl) ((hf 5 24 (by kernel_rfl) rfl).trans hv5)) ((hf 6 25 (by kernel_rfl) rfl).trans hv6)
          refine ls_fr hF ?_
          refine ls_idxv T31 (A := A0) (c := c0) (l := l0) (k := .i64) (i := x5_2) (z := 2) (ad := ad9) rfl rfl (by kernel_rfl) hA10 rfl (by kernel_rfl) (by kernel_rfl) (by kernel_rfl) (by kernel_rfl) q4 q1 ?_
          exact ls_fin s0 (.pointer (some (ad9.add ((x5_2).toNat * 2)))) (congrArg (fun z => upd z 26 _) hF.symm) ⟨rfl, rfl⟩ (sub_nil _)
        obtain ⟨s3_8, hs3_8⟩ : ∃ z : Value → Sto → Prop, z = (fun v R => v = .pointer (some (ad9.add (((x5_2).toNat * 2) + 0))) ∧ R = s0) := ⟨_, rfl⟩
        refine have_op (l := [_, _, _, _, _, _, _, _, _, _, _, _, _]) shadowboxref09_Find.tab1 0 8 (fun sp => sp 8 = s3_8 ∧ sp 7 = s3_7) (fun sp on hA hon => ?_) (fun ops3_8 => ?_)
        · refine ⟨fun o ho vs Rs f' S' w hp hf hx hS hR hs => ?_⟩
          obtain rfl := Option.some.inj ho
          obtain ⟨hv7, hR7⟩ := (spe hA.2 hs3_7 (hp 7 (by kernel_rfl)))
          rw [hA.1, hs3_8]
          refine And.intro (fun a ha => (want_none rfl a ha).trans hon.symm) (And.intro (fun _ => ?_) (fun h => by rw [hon] at h; cases h))
          have hF := fr_next (rfl) ((hf 7 26 (by kernel_rfl) rfl).trans hv7)
          refine ls_fr hF ?_
          refine ls_fieldm (ad := ad9) (off := ((x5_2).toNat * 2)) rfl rfl (by kernel_rfl) 0 (fun w => by kernel_rfl) ?_
          exact ls_fin s0 (.pointer (some (ad9.add (((x5_2).toNat * 2) + 0)))) (congrArg (fun z => upd z 27 _) hF.symm) ⟨rfl, rfl⟩ (sub_nil _)
        obtain ⟨y11, hy12, H⟩ := lt_some H
        obtain ⟨s3_9, hs3_9⟩ : ∃ z : Value → Sto → Prop, z = (fun v R => v = .int .i64 y11 ∧ R = s0) := ⟨_, rfl⟩
        refine have_op (l := [_, _, _, _, _, _, _, _, _, _, _, _, _]) shadowboxref09_Find.tab1 0 9 (fun sp => sp 9 = s3_9 ∧ sp 8 = s3_8) (fun sp on hA hon => ?_) (fun ops3_9 => ?_)
        · refine ⟨fun o ho vs Rs f' S' w hp hf hx hS hR hs => ?_⟩
          obtain rfl := Option.some.inj ho
          obtain ⟨hv8, hR8⟩ := (spe hA.2 hs3_8 (hp 8 (by kernel_rfl)))
          rw [hA.1, hs3_9]
          refine And.intro (fun a ha => (want_none rfl a ha).trans hon.symm) (And.intro (fun _ => ?_) (fun h => by rw [hon] at h; cases h))
          have hF := fr_next (rfl) ((hf 8 27 (by kernel_rfl) rfl).trans hv8)
          refine ls_fr hF ?_
          refine ls_load (a0 := (ad9.add (((x5_2).toNat * 2) + 0))) (v := .int .i64 (((l0).getD (x5_2).toNat ((0 : Int), (0 : Int))).1)) (de := (TypeDesc.int .i64)) rfl rfl (by kernel_rfl) rfl (by kernel_rfl) (by kernel_rfl) (by kernel_rfl) (fun w1 hs1 => (Rd.step (hs.old R0) hs1.below.bw).at hA10 (Sub4.trans (em_sub T31 l0 (i := (x5_2).toNat) (by have h0 : (0 : Int) ≤ x5_2 := q4; have h1 : x5_2 < (l0.length : Int) := q1; omega)) (Sub4.head _ _))) ?_
          refine ls_ren 28 (v := .int .i64 (((l0).getD (x5_2).toNat ((0 : Int), (0 : Int))).1)) (v' := .int .i64 y11) (by kernel_rfl) (by rw [hy12]) ?_
          exact ls_fin s0 (.int .i64 y11) ((upd_upd _ _ _ _).trans (congrArg (fun z => upd z 28 _) hF.symm)) ⟨rfl, rfl⟩ (sub_nil _)
        obtain ⟨s3_10, hs3_10⟩ : ∃ z : Value → Sto → Prop, z = (fun v R => v = .int .i64 (IntKind.wrap .i64 (y7 - y11)) ∧ R = s0) := ⟨_, rfl⟩
        refine have_op (l := [_, _, _, _, _, _, _, _, _, _, _, _, _]) shadowboxref09_Find.tab1 0 10 (fun sp => sp 10 = s3_10 ∧ sp 4 = s3_4 ∧ sp 9 = s3_9) (fun sp on hA hon => ?_) (fun ops3_10 => ?_)
        · refine ⟨fun o ho vs Rs f' S' w hp hf hx hS hR hs => ?_⟩
          obtain rfl := Option.some.inj ho
          obtain ⟨hv4, hR4⟩ := (spe hA.2.1 hs3_4 (hp 4 (by kernel_rfl)))
          obtain ⟨hv9, hR9⟩ := (spe hA.2.2 hs3_9 (hp 9 (by kernel_rfl)))
          rw [hA.1, hs3_10]
          refine And.intro (fun a ha => (want_none rfl a ha).trans hon.symm) (And.intro (fun _ => ?_) (fun h => by rw [hon] at h; cases h))
          have hF := fr_next (fr_next (rfl) ((hf 4 23 (by kernel_rfl) rfl).trans hv4)) ((hf 9 28 (by kernel_rfl) rfl).trans hv9)
          refine ls_fr hF ?_
          refine ls_val (v := .int .i64 (IntKind.wrap .i64 (y7 - y11))) rfl rfl (by kernel_rfl) (fun w => by kernel_rfl) ?_
          exact ls_fin s0 (.int .i64 (IntKind.wrap .i64 (y7 - y11))) (congrArg (fun z => upd z 29 _) hF.symm) ⟨rfl, rfl⟩ (sub_nil _)
        obtain ⟨s3_11, hs3_11⟩ : ∃ z : Value → Sto → Prop, z = (fun v R => v = .int .i64 a1 ∧ R = s0) := ⟨_, rfl⟩
        refine have_op (l := [_, _, _, _, _, _, _, _, _, _, _, _, _]) shadowboxref09_Find.tab1 0 11 (fun sp => sp 11 = s3_11) (fun sp on hA hon => ?_) (fun ops3_11 => ?_)
        · refine ⟨fun o ho vs Rs f' S' w hp hf hx hS hR hs => ?_⟩
          obtain rfl := Option.some.inj ho
          rw [hA, hs3_11]
          refine And.intro (fun a ha => (want_none rfl a ha).trans hon.symm) (And.intro (fun _ => ?_) (fun h => by rw [hon] at h; cases h))
          have hF := fr_next (rfl) ((hx 1 (by kernel_rfl)).trans (by kernel_rfl : (_ : Value) = .int .i64 a1))
          refine ls_fr hF ?_
          refine ls_val (v := .int .i64 a1) rfl rfl (by kernel_rfl) (fun w => by kernel_rfl) ?_
          exact ls_fin s0 (.int .i64 a1) (congrArg (fun z => upd z 30 _) hF.symm) ⟨rfl, rfl⟩ (sub_nil _)
        refine cs_draw shadowboxref09_Find.tab1 12 0 (spl [s3_0, s3_1, s3_2, s3_3, s3_4, s3_5, s3_6, s3_7, s3_8, s3_9, s3_10, s3_11]) (onl [true, true, true, true, true, true, true, true, true, true, true, true]) (by kernel_rfl) (by kernel_rfl) (by kernel_rfl) (by kernel_rfl) (rs := [_]) rfl (by kernel_rfl) (by kernel_rfl) (all_snoc (all_snoc (all_snoc (all_snoc (all_snoc (all_snoc (all_snoc (all_snoc (all_snoc (all_snoc (all_snoc (all_snoc (all_nil) (ops3_0 _ _ rfl rfl)) (ops3_1 _ _ rfl rfl)) (ops3_2 _ _ ⟨rfl, rfl, rfl⟩ rfl)) (ops3_3 _ _ ⟨rfl, rfl⟩ rfl)) (ops3_4 _ _ ⟨rfl, rfl⟩ rfl)) (ops3_5 _ _ rfl rfl)) (ops3_6 _ _ rfl rfl)) (ops3_7 _ _ ⟨rfl, rfl, rfl⟩ rfl)) (ops3_8 _ _ ⟨rfl, rfl⟩ rfl)) (ops3_9 _ _ ⟨rfl, rfl⟩ rfl)) (ops3_10 _ _ ⟨rfl, rfl, rfl⟩ rfl)) (ops3_11 _ _ rfl rfl)) ?_
        intro vs Rs f' S' hp hf hx hS hR
        obtain ⟨hv10, hR10⟩ := (spe rfl hs3_10 (hp 10 (by kernel_rfl)))
        obtain ⟨hv11, hR11⟩ := (spe rfl hs3_11 (hp 11 (by kernel_rfl)))
        refine ls_fr (F := upd (upd (upd (upd (upd f' 0 (.slice A0 l0.length c0)) 1 (.int .i64 a1)) 5 (.int .i64 x5_2)) 29 (.int .i64 (IntKind.wrap .i64 (y7 - y11)))) 30 (.int .i64 a1)) (fr_next (fr_next (fr_next (fr_next (fr_next (rfl) ((hx 0 (by kernel_rfl)).trans (by kernel_rfl : (_ : Value) = .slice A0 l0.length c0))) ((hx 1 (by kernel_rfl)).trans (by kernel_rfl : (_ : Value) = .int .i64 a1))) ((hx 5 (by kernel_rfl)).trans (by kernel_rfl : (_ : Value) = .int .i64 x5_2))) ((hf 10 29 (by kernel_rfl) rfl).trans hv10)) ((hf 11 30 (by kernel_rfl) rfl).trans hv11)) ?_
        refine ls_sub (s0) (sub_nil _) ?_
        refine ls_val (v := .bool (decide ((IntKind.wrap .i64 (y7 - y11)) ≥ a1))) rfl rfl (by kernel_rfl) (fun w => by kernel_rfl) ?_
        refine ls_end ?_
        refine qn_then ?_
        by_cases q13 : (IntKind.wrap .i64 (y7 - y11)) ≥ a1
        · replace H := ite_t q13 H
          refine cs_know (c := true) (dec_t q13) 31 (by kernel_rfl) ?_
          refine cs_true (by kernel_rfl) ?_
          refine cs_seq ?_
          refine cs_region (l := [_, _, _, _, _, _]) ?_
          refine ls_val (v := .slice A0 l0.length c0) rfl rfl (by kernel_rfl) (fun w => by kernel_rfl) ?_
          refine ls_val (v := .int .i64 x5_2) rfl rfl (by kernel_rfl) (fun w => by kernel_rfl) ?_
          obtain ⟨ad14, hA15⟩ := ido_at (T := T31) (l := l0) (i := x5_2) R0 q4 q1
          refine ls_idxv T31 (A := A0) (c := c0) (l := l0) (k := .i64) (i := x5_2) (z := 2) (ad := ad14) rfl rfl (by kernel_rfl) hA15 rfl (by kernel_rfl) (by kernel_rfl) (by kernel_rfl) (by kernel_rfl) q4 q1 ?_
          refine ls_fieldm (ad := ad14) (off := ((x5_2).toNat * 2)) rfl rfl (by kernel_rfl) 0 (fun w => by kernel_rfl) ?_
          obtain ⟨y16, hy17, H⟩ := lt_some H
          refine ls_load (a0 := (ad14.add (((x5_2).toNat * 2) + 0))) (v := .int .i64 (((l0).getD (x5_2).toNat ((0 : Int), (0 : Int))).1)) (de := (TypeDesc.int .i64)) rfl rfl (by kernel_rfl) rfl (by kernel_rfl) (by kernel_rfl) (by kernel_rfl) (fun w hs => (hs.old R0).at hA15 (Sub4.trans (em_sub T31 l0 (i := (x5_2).toNat) (by have h0 : (0 : Int) ≤ x5_2 := q4; have h1 : x5_2 < (l0.length : Int) := q1; omega)) (Sub4.head _ _))) ?_
          refine ls_ren 36 (v := .int .i64 (((l0).getD (x5_2).toNat ((0 : Int), (0 : Int))).1)) (v' := .int .i64 y16) (by kernel_rfl) (by rw [hy17]) ?_
          refine ls_val (v := .int .i64 y16) rfl rfl (by kernel_rfl) (fun w => by kernel_rfl) ?_
          refine ls_end ?_
          refine qn_then ?_
          refine cs_ret' ?_
          refine qr_block ?_
          refine qr_then ?_
          refine qr_then ?_
          refine qr_block ?_
          refine qr_then ?_
          obtain rfl := Option.some.inj H
          refine qr_res (rs := [_]) rfl (fun w' hs => ⟨[.int .i64 y16], (res_tmp (by kernel_rfl) (.nil)), (), rfl, hs.pick (ts := []) (cs := []) trivial (by decide)⟩)
        · replace H := ite_f q13 H
          refine cs_know (c := false) (dec_f q13) 31 (by kernel_rfl) ?_
          refine cs_false (by kernel_rfl) ?_
          refine cs_skip' ?_
          refine qn_block ?_
          refine qn_then ?_
          refine cs_region (l := [_, _, _]) ?_
          refine ls_val (v := .int .i64 x5_2) rfl rfl (by kernel_rfl) (fun w => by kernel_rfl) ?_
          refine ls_val (v := .int .i64 (IntKind.wrap .i64 (x5_2 + (1 : Int)))) rfl rfl (by kernel_rfl) (fun w => by kernel_rfl) ?_
          refine ls_val (v := .int .i64 (IntKind.wrap .i64 (x5_2 + (1 : Int)))) rfl rfl (by kernel_rfl) (fun w => by kernel_rfl) ?_
          refine ls_end ?_
          refine qn_again k2 (s0) (Nat.le_refl _) ⟨_, (IntKind.wrap .i64 (x5_2 + (1 : Int))), fr_next (fr_next (fr_next (rfl) (by kernel_rfl)) (by kernel_rfl)) (by kernel_rfl), rfl, H⟩ (sub_nil _)
      · replace H := ite_f q1 H
        refine cs_know (c := false) (dec_f q1) 16 (by kernel_rfl) ?_
        refine cs_false (by kernel_rfl) ?_
        refine cs_exit' ?_
        refine qx_then ?_
        refine qx_then ?_
        refine qx_same ?_
        refine qn_then ?_
        refine cs_seq ?_
        refine cs_region (l := [_]) ?_
        refine ls_val (v := .int .i64 (-1 : Int)) rfl rfl (by kernel_rfl) (fun w => by kernel_rfl) ?_
        refine ls_end ?_
        refine qn_then ?_
        refine cs_ret' ?_
        obtain rfl := Option.some.inj H
        refine qr_res (rs := [_]) rfl (fun w' hs => ⟨[.int .i64 (-1 : Int)], (res_tmp (by kernel_rfl) (.nil)), (), rfl, hs.pick (ts := []) (cs := []) trivial (by decide)⟩)

/-! ### shadowbox/shadowboxlaw09.set: function 26 -/
def shadowboxlaw09_set.lo1 (l0 : List (Int × Int)) : Nat → Int → Int → Option (Int)
  | 0, _, _ => none
  | k1 + 1, x3_1, x4_1 => (if x4_1 < (64 : Int) then (extent_Has.f k1 l0 (x4_1, IntKind.wrap .i64 (x4_1 + (1 : Int)))).bind fun t2 => (if t2 = true then (if 0 ≤ IntKind.wrap .u64 x4_1 then lt (shlv .u64 (1 : Int) (IntKind.wrap .u64 x4_1)) fun y7 => (shadowboxlaw09_set.lo1 l0 k1) (bits .or .u64 x3_1 y7) (IntKind.wrap .i64 (x4_1 + (1 : Int))) else none) else (shadowboxlaw09_set.lo1 l0 k1) x3_1 (IntKind.wrap .i64 (x4_1 + (1 : Int)))) else some x3_1)
def shadowboxlaw09_set.f (k : Nat) (l0 : List (Int × Int)) : Option (Int) :=
  shadowboxlaw09_set.lo1 l0 k (0 : Int) (0 : Int)
set_option maxRecDepth 100000 in
set_option maxHeartbeats 4000000 in
theorem shadowboxlaw09_set.calls (k : Nat) (A0 : Option Addr) (c0 : Nat) (l0 : List (Int × Int)) (r : Int) (b : Bs) (hs0 : St b (stl []) b.w) (R0 : Ro b A0 (em T24 l0)) (C0 : l0.length ≤ c0) (H : shadowboxlaw09_set.f k l0 = some r) :
    Calls Try.prog 26 #[.slice A0 l0.length c0] b.w fun e w' => ∃ x : Unit, e = .returned (.int .u64 r) ∧ St b (stl []) w' := by
  unfold shadowboxlaw09_set.f at H
  refine enterb (n := 21) Try.func26 rfl (by kernel_rfl) (by kernel_rfl) hs0 ?_
  refine cs_sub (s0) (sub_nil _) ?_
  refine cs_seq ?_
  refine cs_region (l := [_]) ?_
  refine ls_val (v := .int .u64 (0 : Int)) rfl rfl (by kernel_rfl) (fun w => by kernel_rfl) ?_
  refine ls_end ?_
  refine qn_then ?_
  refine cs_seq ?_
  refine cs_region (l := [_]) ?_
  refine ls_val (v := .int .u64 (0 : Int)) rfl rfl (by kernel_rfl) (fun w => by kernel_rfl) ?_
  refine ls_end ?_
  refine qn_then ?_
  refine cs_seq ?_
  refine cs_seq ?_
  refine cs_region (l := [_]) ?_
  refine ls_val (v := .int .i64 (0 : Int)) rfl rfl (by kernel_rfl) (fun w => by kernel_rfl) ?_
  refine ls_end ?_
  refine qn_then ?_
  refine cs_block ?_
  refine cs_sub (s0) (sub_nil _) ?_
  refine cs_loop (fun kk f S => ∃ (fR : Fr) (x3_1 : Int) (x4_1 : Int), f = upd (upd (upd fR 0 (.slice A0 l0.length c0)) 3 (.int .u64 x3_1)) 4 (.int .i64 x4_1) ∧ S = s0 ∧ shadowboxlaw09_set.lo1 l0 kk x3_1 x4_1 = some r) k ?_ ?_ ?_
  · exact ⟨_, (0 : Int), (0 : Int), fr_next (fr_next (fr_next (rfl) (by kernel_rfl)) (by kernel_rfl)) (by kernel_rfl), rfl, H⟩
  · rintro f S ⟨fr1, x3_1, x4_1, rfl, rfl, H⟩; cases H
  · rintro k1 f S ⟨fr1, x3_1, x4_1, rfl, rfl, H⟩
    replace H : ((if x4_1 < (64 : Int) then (extent_Has.f k1 l0 (x4_1, IntKind.wrap .i64 (x4_1 + (1 : Int)))).bind fun t2 => (if t2 = true then (if 0 ≤ IntKind.wrap .u64 x4_1 then lt (shlv .u64 (1 : Int) (IntKind.wrap .u64 x4_1)) fun y7 => (shadowboxlaw09_set.lo1 l0 k1) (bits .or .u64 x3_1 y7) (IntKind.wrap .i64 (x4_1 + (1 : Int))) else none) else (shadowboxlaw09_set.lo1 l0 k1) x3_1 (IntKind.wrap .i64 (x4_1 + (1 : Int)))) else some x3_1)) = some r := H
    refine cs_seq ?_
    refine cs_seq ?_
    refine cs_region (l := [_, _]) ?_
    refine ls_val (v := .int .i64 x4_1) rfl rfl (by kernel_rfl) (fun w => by kernel_rfl) ?_
    refine ls_val (v := .bool (decide (x4_1 < (64 : Int)))) rfl rfl (by kernel_rfl) (fun w => by kernel_rfl) ?_
    refine ls_end ?_
    refine qn_then ?_
    by_cases q1 : x4_1 < (64 : Int)
    · replace H := ite_t q1 H
      refine cs_know (c := true) (dec_t q1) 6 (by kernel_rfl) ?_
      refine cs_true (by kernel_rfl) ?_
      refine cs_skip' ?_
      refine qn_then ?_
      refine cs_seq ?_
      refine cs_block ?_
      refine cs_seq ?_
      refine cs_region (l := [_, _, _, _, _, _]) ?_
      refine ls_val (v := .slice A0 l0.length c0) rfl rfl (by kernel_rfl) (fun w => by kernel_rfl) ?_
      refine ls_val (v := .int .i64 x4_1) rfl rfl (by kernel_rfl) (fun w => by kernel_rfl) ?_
      refine ls_val (v := .int .i64 x4_1) rfl rfl (by kernel_rfl) (fun w => by kernel_rfl) ?_
      refine ls_val (v := .int .i64 (IntKind.wrap .i64 (x4_1 + (1 : Int)))) rfl rfl (by kernel_rfl) (fun w => by kernel_rfl) ?_
      refine ls_val (v := .agg ⟨([Value.int .i64 x4_1] ++ [Value.int .i64 (IntKind.wrap .i64 (x4_1 + (1 : Int)))])⟩) rfl rfl (by kernel_rfl) (fun w => by kernel_rfl) ?_
      obtain ⟨t2, hc3, H⟩ := bind_some H
      refine ls_callb (fid := 12) (vals := #[.slice A0 l0.length c0, .agg ⟨([Value.int .i64 x4_1] ++ [Value.int .i64 (IntKind.wrap .i64 (x4_1 + (1 : Int)))])⟩]) (X := Unit) (fun x => .bool t2) (fun x => stl []) [] [] [] [] 0 rfl rfl (by kernel_rfl) (fun w => by kernel_rfl) trivial trivial (by decide) (fun w hs hb => extent_Has.calls k1 A0 c0 l0 (x4_1, IntKind.wrap .i64 (x4_1 + (1 : Int))) t2 (lent b w [] []) hb (hs.ro R0 _ _) C0 hc3) ?_
      intro x4
      refine ls_end ?_
      refine qn_then ?_
      by_cases q5 : t2 = true
      · replace H := ite_t q5 H
        refine cs_know (c := true) (q5) 14 (by kernel_rfl) ?_
        refine cs_true (by kernel_rfl) ?_
        refine cs_region (l := [_, _, _, _, _, _]) ?_
        refine ls_val (v := .int .u64 x3_1) rfl rfl (by kernel_rfl) (fun w => by kernel_rfl) ?_
        refine ls_val (v := .int .i64 x4_1) rfl rfl (by kernel_rfl) (fun w => by kernel_rfl) ?_
        refine ls_val (v := .int .u64 (IntKind.wrap .u64 x4_1)) rfl rfl (by kernel_rfl) (fun w => by kernel_rfl) ?_
        obtain ⟨q6, H⟩ := ite_need H
        obtain ⟨y7, hy8, H⟩ := lt_some H
        refine ls_shiftl (k := .u64) (yk := .u64) (x := (1 : Int)) (y := (IntKind.wrap .u64 x4_1)) rfl rfl (by kernel_rfl) (fun w => by kernel_rfl) q6 ?_
        refine ls_ren 18 (v := .int .u64 (shlv .u64 (1 : Int) (IntKind.wrap .u64 x4_1))) (v' := .int .u64 y7) (by kernel_rfl) (by rw [hy8]) ?_
        refine ls_val (v := .int .u64 (bits .or .u64 x3_1 y7)) rfl rfl (by kernel_rfl) (fun w => by kernel_rfl) ?_
        refine ls_val (v := .int .u64 (bits .or .u64 x3_1 y7)) rfl rfl (by kernel_rfl) (fun w => by kernel_rfl) ?_
        refine ls_end ?_
        refine qn_block ?_
        refine qn_then ?_
        refine cs_region (l := [_, _, _]) ?_
        refine ls_val (v := .int .i64 x4_1) rfl rfl (by kernel_rfl) (fun w => by kernel_rfl) ?_
        refine ls_val (v := .int .i64 (IntKind.wrap .i64 (x4_1 + (1 : Int)))) rfl rfl (by kernel_rfl) (fun w => by kernel_rfl) ?_
        refine ls_val (v := .int .i64 (IntKind.wrap .i64 (x4_1 + (1 : Int)))) rfl rfl (by kernel_rfl) (fun w => by kernel_rfl) ?_
        refine ls_end ?_
        refine qn_again k1 (s0) (Nat.le_refl _) ⟨_, (bits .or .u64 x3_1 y7), (IntKind.wrap .i64 (x4_1 + (1 : Int))), fr_next (fr_next (fr_next (rfl) (by kernel_rfl)) (by kernel_rfl)) (by kernel_rfl), rfl, H⟩ (sub_nil _)
      · replace H := ite_f q5 H
        refine cs_know (c := false) (Bool.eq_false_iff.mpr q5) 14 (by kernel_rfl) ?_
        refine cs_false (by kernel_rfl) ?_
        refine cs_skip' ?_
        refine qn_block ?_
        refine qn_then ?_
        refine cs_region (l := [_, _, _]) ?_
        refine ls_val (v := .int .i64 x4_1) rfl rfl (by kernel_rfl) (fun w => by kernel_rfl) ?_
        refine ls_val (v := .int .i64 (IntKind.wrap .i64 (x4_1 + (1 : Int)))) rfl rfl (by kernel_rfl) (fun w => by kernel_rfl) ?_
        refine ls_val (v := .int .i64 (IntKind.wrap .i64 (x4_1 + (1 : Int)))) rfl rfl (by kernel_rfl) (fun w => by kernel_rfl) ?_
        refine ls_end ?_
        refine qn_again k1 (s0) (Nat.le_refl _) ⟨_, x3_1, (IntKind.wrap .i64 (x4_1 + (1 : Int))), fr_next (fr_next (fr_next (rfl) (by kernel_rfl)) (by kernel_rfl)) (by kernel_rfl), rfl, H⟩ (sub_nil _)
    · replace H := ite_f q1 H
      refine cs_know (c := false) (dec_f q1) 6 (by kernel_rfl) ?_
      refine cs_false (by kernel_rfl) ?_
      refine cs_exit' ?_
      refine qx_then ?_
      refine qx_then ?_
      refine qx_same ?_
      refine qn_then ?_
      refine cs_seq ?_
      refine cs_region (l := [_, _]) ?_
      refine ls_val (v := .int .u64 x3_1) rfl rfl (by kernel_rfl) (fun w => by kernel_rfl) ?_
      refine ls_val (v := .int .u64 x3_1) rfl rfl (by kernel_rfl) (fun w => by kernel_rfl) ?_
      refine ls_end ?_
      refine qn_then ?_
      refine cs_ret' ?_
      obtain rfl := Option.some.inj H
      refine qr_res (rs := [_]) rfl (fun w' hs => ⟨[.int .u64 x3_1], (res_tmp (by kernel_rfl) (.nil)), (), rfl, hs.pick (ts := []) (cs := []) trivial (by decide)⟩)

end Go.Proofs.Ytiikfaefeonfhaa.G
