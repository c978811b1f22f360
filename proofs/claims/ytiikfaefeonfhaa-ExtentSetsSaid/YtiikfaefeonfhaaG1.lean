/- Printed by a program of this session (sz.py): plain functions, and walks that show that the code comes to them; no condition. -/
import Derived.Test.YtiikfaefeonfhaaProg
import Derived.Test.YtiikfaefeonfhaaTy
import Derived.Test.YtiikfaefeonfhaaG0
set_option linter.unusedVariables false
set_option linter.unusedSimpArgs false
namespace Go.Proofs.Ytiikfaefeonfhaa.G
open Go Go.RowKit Go.Proofs.Ytiikfaefeonfhaa.Sx

/-! ### shadowbox/extent.Remove: function 15 -/
def extent_Remove.lo4 (l0 : List (Int × Int)) (a1 : (Int × Int)) (x6_2 : Int) (y10 : Int) (y12 : Int) (lo2 : Int → (List (Int × Int)) → Option ((List (Int × Int)))) : Nat → (List (Int × Int)) → Int → Option ((List (Int × Int)))
  | 0, _, _ => none
  | k4 + 1, l7_4, x58_4 => (if x58_4 < (2 : Int) then (if 0 ≤ x58_4 then (extent_Span_right.f k4 ((⟨[(y10, a1.1), (a1.2, y12)], rfl⟩ : (Vc (Int × Int) 2)).1.getD (x58_4).toNat ((0 : Int), (0 : Int)))).bind fun t17 => (if t17 = true then lt (((⟨[(y10, a1.1), (a1.2, y12)], rfl⟩ : (Vc (Int × Int) 2)).1.getD (x58_4).toNat ((0 : Int), (0 : Int))).1) fun y21 => lt (((l0).getD (x6_2).toNat ((0 : Int), (0 : Int))).1) fun y23 => (if y21 ≥ y23 then (if (l7_4.length + ([((⟨[(y10, a1.1), (a1.2, y12)], rfl⟩ : (Vc (Int × Int) 2)).1.getD (x58_4).toNat ((0 : Int), (0 : Int)))]).length) * 16 ≤ 140737488355328 then (extent_Remove.lo4 l0 a1 x6_2 y10 y12 lo2 k4) (l7_4 ++ [((⟨[(y10, a1.1), (a1.2, y12)], rfl⟩ : (Vc (Int × Int) 2)).1.getD (x58_4).toNat ((0 : Int), (0 : Int)))]) (IntKind.wrap .i64 (x58_4 + (1 : Int))) else none) else (extent_Remove.lo4 l0 a1 x6_2 y10 y12 lo2 k4) l7_4 (IntKind.wrap .i64 (x58_4 + (1 : Int)))) else (extent_Remove.lo4 l0 a1 x6_2 y10 y12 lo2 k4) l7_4 (IntKind.wrap .i64 (x58_4 + (1 : Int)))) else none) else lo2 (IntKind.wrap .i64 (x6_2 + (1 : Int))) l7_4)
def extent_Remove.jo3 (l0 : List (Int × Int)) (a1 : (Int × Int)) (x6_2 : Int) (l7_2 : List (Int × Int)) (k2 : Nat) (lo2 : Int → (List (Int × Int)) → Option ((List (Int × Int)))) (x33_3 : Int) (x36_3 : Int) (x38_3 : Int) (x39_3 : Bool) : Option ((List (Int × Int))) := (if 0 ≤ x6_2 then (if x6_2 < (l0.length : Int) then lt (((l0).getD (x6_2).toNat ((0 : Int), (0 : Int))).1) fun y10 => lt (((l0).getD (x6_2).toNat ((0 : Int), (0 : Int))).2) fun y12 => extent_Remove.lo4 l0 a1 x6_2 y10 y12 lo2 k2 l7_2 (0 : Int) else none) else none)
def extent_Remove.tab29 : List (List Nat) := [[], [], [1], [0, 1, 2], [0, 1, 2, 3], [0, 1, 2, 3, 4], [0, 1, 2, 3, 4], [0, 1, 2, 3, 4, 5, 6], [0, 1, 2, 3, 4, 5, 6, 7], [0, 1, 2, 3, 4, 5, 6, 7, 8], [0, 1, 2, 3, 4], [0, 1, 2, 3, 4, 10], [0, 1, 2, 3, 4, 5, 6, 7, 8, 9, 10, 11], [0, 1, 2, 3, 4, 5, 6, 7, 8, 9, 10, 11, 12]]
def extent_Remove.lo2 (l0 : List (Int × Int)) (a1 : (Int × Int)) (t2 : Int) : Nat → Int → (List (Int × Int)) → Option ((List (Int × Int)))
  | 0, _, _ => none
  | k2 + 1, x6_2, l7_2 => (if x6_2 < (l0.length : Int) then (if 0 ≤ x6_2 then lt (((l0).getD (x6_2).toNat ((0 : Int), (0 : Int))).1) fun y36 => (if y36 < a1.2 then (extent_Remove.jo3 l0 a1 x6_2 l7_2 k2 (extent_Remove.lo2 l0 a1 t2 k2)) x6_2 y36 a1.2 (decide (y36 < a1.2)) else (extent_replace_44.f k2 l0 t2 x6_2 l7_2).bind fun t39 => some t39) else none) else (extent_replace_44.f k2 l0 t2 x6_2 l7_2).bind fun t42 => some t42)
def extent_Remove.jo1 (k : Nat) (l0 : List (Int × Int)) (a1 : (Int × Int)) : Option ((List (Int × Int))) := (extent_first.f k l0 (IntKind.wrap .i64 (a1.1 + (1 : Int)))).bind fun t2 => extent_Remove.lo2 l0 a1 t2 k t2 ([] : List (Int × Int))
def extent_Remove.f (k : Nat) (l0 : List (Int × Int)) (a1 : (Int × Int)) : Option ((List (Int × Int))) :=
  (extent_Valid.f k l0).bind fun t45 => (if t45 = true then (extent_Span_right.f k a1).bind fun t49 => (if t49 = true then (extent_Remove.jo1 k l0 a1) else (slices_Clone_43.f k l0).bind fun t53 => some t53) else (slices_Clone_43.f k l0).bind fun t56 => some t56)
set_option maxRecDepth 100000 in
set_option maxHeartbeats 4000000 in
theorem extent_Remove.calls (k : Nat) (A0 : Option Addr) (c0 : Nat) (l0 : List (Int × Int)) (a1 : (Int × Int)) (r : (List (Int × Int))) (b : Bs) (hs0 : St b (stl []) b.w) (R0 : Ro b A0 (em T24 l0)) (C0 : l0.length ≤ c0) (H : extent_Remove.f k l0 a1 = some r) :
    Calls Try.prog 15 #[.slice A0 l0.length c0, .agg ⟨([Value.int .i64 a1.1] ++ [Value.int .i64 a1.2])⟩] b.w fun e w' => ∃ x : (Option Addr × Nat), e = .returned (.slice x.1 r.length x.2) ∧ St b (stl [Ck.sl T24 x.1 x.2 r]) w' := by
  unfold extent_Remove.f at H
  refine enterb (n := 80) Try.func15 rfl (by kernel_rfl) (by kernel_rfl) hs0 ?_
  refine cs_sub (s0) (sub_nil _) ?_
  refine cs_seq ?_
  refine cs_region (l := [_, _]) ?_
  refine ls_new rfl rfl (by kernel_rfl) 0 (fun g => .pointer (some ⟨g, 0, none⟩)) (.cells ⟨([Value.int .i64 a1.1] ++ [Value.int .i64 a1.2])⟩ 24) (fun w => by kernel_rfl) ?_
  intro g1
  refine ls_val (v := .slice none 0 0) rfl rfl (by kernel_rfl) (fun w => by kernel_rfl) ?_
  refine ls_end ?_
  refine qn_then ?_
  refine cs_cut (fun f S => ∃ (fR : Fr), f = upd (upd fR 0 (.slice A0 l0.length c0)) 3 (.pointer (some ⟨g1, 0, none⟩)) ∧ S = sput s0 0 (some (Ck.var 24 g1 (([Value.int .i64 a1.1] ++ [Value.int .i64 a1.2])))) ∧ extent_Remove.jo1 k l0 a1 = some r) ?_ ?_
  · skip
    refine cs_seq ?_
    refine cs_region (l := [_, _, _, _, _, _, _, _]) ?_
    refine ls_val (v := .slice A0 l0.length c0) rfl rfl (by kernel_rfl) (fun w => by kernel_rfl) ?_
    obtain ⟨t45, hc46, H⟩ := bind_some H
    refine ls_callb (fid := 10) (vals := #[.slice A0 l0.length c0]) (X := Unit) (fun x => .bool t45) (fun x => stl []) [] [] [] [] 1 rfl rfl (by kernel_rfl) (fun w => by kernel_rfl) trivial trivial (by decide) (fun w hs hb => extent_Valid.calls k A0 c0 l0 t45 (lent b w [] []) hb (hs.ro R0 _ _) C0 hc46) ?_
    intro x47
    refine ls_val (v := .bool (!t45)) rfl rfl (by kernel_rfl) (fun w => by kernel_rfl) ?_
    refine ls_val (v := .bool (!t45)) rfl rfl (by kernel_rfl) (fun w => by kernel_rfl) ?_
    by_cases q48 : t45 = true
    · replace H := ite_t q48 H
      refine ls_know (c := false) (congrArg Bool.not (q48)) 14 (by kernel_rfl) ?_
      refine ls_on (j := 3) (t := 14) (b := false) rfl rfl (by kernel_rfl) (by kernel_rfl) ?_
      refine ls_loadagg (a := ⟨g1, 0, none⟩) (sub := ([Value.int .i64 a1.1] ++ [Value.int .i64 a1.2])) rfl rfl (by kernel_rfl) rfl (by kernel_rfl) (by kernel_rfl) (by kernel_rfl) (len_app (len1 _) (len1 _)) (fun w hs => (hs.vars (k := 0) (by exact rfl) (Sub4.all _))) ?_
      refine ls_on (j := 3) (t := 14) (b := false) rfl rfl (by kernel_rfl) (by kernel_rfl) ?_
      obtain ⟨t49, hc50, H⟩ := bind_some H
      refine ls_callb (fid := 41) (vals := #[.agg ⟨([Value.int .i64 a1.1] ++ [Value.int .i64 a1.2])⟩]) (X := Unit) (fun x => .bool t49) (fun x => stl []) [] [] [] [] 1 rfl rfl (by kernel_rfl) (fun w => by kernel_rfl) trivial trivial (by decide) (fun w hs hb => extent_Span_right.calls k a1 t49 (lent b w [] []) hb  hc50) ?_
      intro x51
      refine ls_on (j := 3) (t := 14) (b := false) rfl rfl (by kernel_rfl) (by kernel_rfl) ?_
      refine ls_val (v := .bool (!t49)) rfl rfl (by kernel_rfl) (fun w => by kernel_rfl) ?_
      refine ls_val (v := .bool (!t49)) rfl rfl (by kernel_rfl) (fun w => by kernel_rfl) ?_
      refine ls_end ?_
      refine qn_then ?_
      by_cases q52 : t49 = true
      · replace H := ite_t q52 H
        refine cs_know (c := false) (congrArg Bool.not (q52)) 18 (by kernel_rfl) ?_
        refine cs_false (by kernel_rfl) ?_
        refine cs_skip' ?_
        refine qn_meet (sput s0 0 (some (Ck.var 24 g1 (([Value.int .i64 a1.1] ++ [Value.int .i64 a1.2]))))) ⟨_, fr_next (fr_next (rfl) (by kernel_rfl)) (by kernel_rfl), rfl, H⟩ (sub_put (by exact rfl) (sub_nil _))
      · replace H := ite_f q52 H
        refine cs_know (c := true) (congrArg Bool.not (Bool.eq_false_iff.mpr q52)) 18 (by kernel_rfl) ?_
        refine cs_true (by kernel_rfl) ?_
        refine cs_seq ?_
        refine cs_region (l := [_, _, _]) ?_
        refine ls_val (v := .slice A0 l0.length c0) rfl rfl (by kernel_rfl) (fun w => by kernel_rfl) ?_
        obtain ⟨t53, hc54, H⟩ := bind_some H
        refine ls_callb (fid := 43) (vals := #[.slice A0 l0.length c0]) (X := (Option Addr × Nat)) (fun x => .slice x.1 t53.length x.2) (fun x => stl [Ck.sl T24 x.1 x.2 t53]) [] [] [] [] 1 rfl rfl (by kernel_rfl) (fun w => by kernel_rfl) trivial trivial (by decide) (fun w hs hb => slices_Clone_43.calls k A0 c0 l0 t53 (lent b w [] []) hb (hs.ro R0 _ _) C0 hc54) ?_
        intro x55
        refine ls_val (v := .slice x55.1 t53.length x55.2) rfl rfl (by kernel_rfl) (fun w => by kernel_rfl) ?_
        refine ls_end ?_
        refine qn_then ?_
        refine cs_ret' ?_
        refine qr_then ?_
        obtain rfl := Option.some.inj H
        refine qr_res (rs := [_]) rfl (fun w' hs => ⟨[.slice x55.1 t53.length x55.2], (res_tmp (by kernel_rfl) (.nil)), (x55.1, x55.2), rfl, hs.pick (ts := [1]) (cs := [Ck.sl T24 x55.1 x55.2 t53]) ⟨by exact rfl, trivial⟩ (by decide)⟩)
    · replace H := ite_f q48 H
      refine ls_know (c := true) (congrArg Bool.not (Bool.eq_false_iff.mpr q48)) 14 (by kernel_rfl) ?_
      refine ls_off (j := 3) (t := 14) (b := false) (c := true) rfl rfl (by kernel_rfl) (by kernel_rfl) rfl rfl (by kernel_rfl) ?_
      refine ls_off (j := 3) (t := 14) (b := false) (c := true) rfl rfl (by kernel_rfl) (by kernel_rfl) rfl rfl (by kernel_rfl) ?_
      refine ls_off (j := 3) (t := 14) (b := false) (c := true) rfl rfl (by kernel_rfl) (by kernel_rfl) rfl rfl (by kernel_rfl) ?_
      refine ls_val (v := .bool true) rfl rfl (by kernel_rfl) (fun w => by kernel_rfl) ?_
      refine ls_end ?_
      refine qn_then ?_
      refine cs_true (by kernel_rfl) ?_
      refine cs_seq ?_
      refine cs_region (l := [_, _, _]) ?_
      refine ls_val (v := .slice A0 l0.length c0) rfl rfl (by kernel_rfl) (fun w => by kernel_rfl) ?_
      obtain ⟨t56, hc57, H⟩ := bind_some H
      refine ls_callb (fid := 43) (vals := #[.slice A0 l0.length c0]) (X := (Option Addr × Nat)) (fun x => .slice x.1 t56.length x.2) (fun x => stl [Ck.sl T24 x.1 x.2 t56]) [] [] [] [] 1 rfl rfl (by kernel_rfl) (fun w => by kernel_rfl) trivial trivial (by decide) (fun w hs hb => slices_Clone_43.calls k A0 c0 l0 t56 (lent b w [] []) hb (hs.ro R0 _ _) C0 hc57) ?_
      intro x58
      refine ls_val (v := .slice x58.1 t56.length x58.2) rfl rfl (by kernel_rfl) (fun w => by kernel_rfl) ?_
      refine ls_end ?_
      refine qn_then ?_
      refine cs_ret' ?_
      refine qr_then ?_
      obtain rfl := Option.some.inj H
      refine qr_res (rs := [_]) rfl (fun w' hs => ⟨[.slice x58.1 t56.length x58.2], (res_tmp (by kernel_rfl) (.nil)), (x58.1, x58.2), rfl, hs.pick (ts := [1]) (cs := [Ck.sl T24 x58.1 x58.2 t56]) ⟨by exact rfl, trivial⟩ (by decide)⟩)
  · rintro f S ⟨fr1, rfl, rfl, H⟩
    replace H : ((extent_first.f k l0 (IntKind.wrap .i64 (a1.1 + (1 : Int)))).bind fun t2 => extent_Remove.lo2 l0 a1 t2 k t2 ([] : List (Int × Int))) = some r := H
    refine cs_seq ?_
    refine cs_region (l := [_, _, _, _, _, _]) ?_
    refine ls_val (v := .slice A0 l0.length c0) rfl rfl (by kernel_rfl) (fun w => by kernel_rfl) ?_
    refine ls_val (v := .pointer (some ⟨g1, (0 + 0), none⟩)) rfl rfl (by kernel_rfl) (fun w => by kernel_rfl) ?_
    refine ls_load (a0 := ⟨g1, (0 + 0), none⟩) (v := .int .i64 a1.1) (de := (TypeDesc.int .i64)) rfl rfl (by kernel_rfl) rfl (by kernel_rfl) (by kernel_rfl) (by kernel_rfl) (fun w hs => (hs.var (k := 0) (by exact rfl) (Sub4.trans (Sub4.all _) (Sub4.head _ _)))) ?_
    refine ls_val (v := .int .i64 (IntKind.wrap .i64 (a1.1 + (1 : Int)))) rfl rfl (by kernel_rfl) (fun w => by kernel_rfl) ?_
    obtain ⟨t2, hc3, H⟩ := bind_some H
    refine ls_callb (fid := 42) (vals := #[.slice A0 l0.length c0, .int .i64 (IntKind.wrap .i64 (a1.1 + (1 : Int)))]) (X := Unit) (fun x => .int .i64 t2) (fun x => stl []) [] [] [] [] 1 rfl rfl (by kernel_rfl) (fun w => by kernel_rfl) trivial trivial (by decide) (fun w hs hb => extent_first.calls k A0 c0 l0 (IntKind.wrap .i64 (a1.1 + (1 : Int))) t2 (lent b w [] []) hb (hs.ro R0 _ _) C0 hc3) ?_
    intro x4
    refine ls_val (v := .int .i64 t2) rfl rfl (by kernel_rfl) (fun w => by kernel_rfl) ?_
    refine ls_end ?_
    refine qn_then ?_
    refine cs_seq ?_
    refine cs_region (l := [_, _]) ?_
    refine ls_val (v := .int .i64 t2) rfl rfl (by kernel_rfl) (fun w => by kernel_rfl) ?_
    refine ls_val (v := .int .i64 t2) rfl rfl (by kernel_rfl) (fun w => by kernel_rfl) ?_
    refine ls_end ?_
    refine qn_then ?_
    refine cs_seq ?_
    refine cs_region (l := [_]) ?_
    refine ls_val (v := .slice none 0 0) rfl rfl (by kernel_rfl) (fun w => by kernel_rfl) ?_
    refine ls_end ?_
    refine qn_then ?_
    refine cs_seq ?_
    refine cs_block ?_
    refine cs_nilrow 1 T24 ?_
    refine cs_sub (sput (sput s0 0 (some (Ck.var 24 g1 (([Value.int .i64 a1.1] ++ [Value.int .i64 a1.2]))))) 1 (some (Ck.sl T24 none 0 ([] : List (Int × Int))))) (sub_put (by exact rfl) (sub_put (by exact rfl) (sub_nil _))) ?_
    refine cs_loop (fun kk f S => ∃ (fR : Fr) (x6_2 : Int) (A7_2 : Option Addr) (c7_2 : Nat) (l7_2 : List (Int × Int)), f = upd (upd (upd (upd (upd fR 0 (.slice A0 l0.length c0)) 3 (.pointer (some ⟨g1, 0, none⟩))) 5 (.int .i64 t2)) 6 (.int .i64 x6_2)) 7 (.slice A7_2 l7_2.length c7_2) ∧ S = sput (sput s0 0 (some (Ck.var 24 g1 (([Value.int .i64 a1.1] ++ [Value.int .i64 a1.2]))))) 1 (some (Ck.sl T24 A7_2 c7_2 l7_2)) ∧ extent_Remove.lo2 l0 a1 t2 kk x6_2 l7_2 = some r) k ?_ ?_ ?_
    · exact ⟨_, t2, none, 0, ([] : List (Int × Int)), fr_next (fr_next (fr_next (fr_next (fr_next (rfl) (by kernel_rfl)) (by kernel_rfl)) (by kernel_rfl)) (by kernel_rfl)) (by kernel_rfl), rfl, H⟩
    · rintro f S ⟨fr2, x6_2, A7_2, c7_2, l7_2, rfl, rfl, H⟩; cases H
    · rintro k2 f S ⟨fr2, x6_2, A7_2, c7_2, l7_2, rfl, rfl, H⟩
      replace H : ((if x6_2 < (l0.length : Int) then (if 0 ≤ x6_2 then lt (((l0).getD (x6_2).toNat ((0 : Int), (0 : Int))).1) fun y36 => (if y36 < a1.2 then (extent_Remove.jo3 l0 a1 x6_2 l7_2 k2 (extent_Remove.lo2 l0 a1 t2 k2)) x6_2 y36 a1.2 (decide (y36 < a1.2)) else (extent_replace_44.f k2 l0 t2 x6_2 l7_2).bind fun t39 => some t39) else none) else (extent_replace_44.f k2 l0 t2 x6_2 l7_2).bind fun t42 => some t42)) = some r := H
      refine cs_cut (fun f S => ∃ (fR : Fr) (x33_3 : Int) (x36_3 : Int) (x38_3 : Int) (x39_3 : Bool), f = upd (upd (upd (upd (upd (upd (upd (upd (upd fR 0 (.slice A0 l0.length c0)) 3 (.pointer (some ⟨g1, 0, none⟩))) 5 (.int .i64 t2)) 6 (.int .i64 x6_2)) 7 (.slice A7_2 l7_2.length c7_2)) 33 (.int .i64 x33_3)) 36 (.int .i64 x36_3)) 38 (.int .i64 x38_3)) 39 (.bool x39_3) ∧ S = sput (sput s0 0 (some (Ck.var 24 g1 (([Value.int .i64 a1.1] ++ [Value.int .i64 a1.2]))))) 1 (some (Ck.sl T24 A7_2 c7_2 l7_2)) ∧ extent_Remove.jo3 l0 a1 x6_2 l7_2 k2 (extent_Remove.lo2 l0 a1 t2 k2) x33_3 x36_3 x38_3 x39_3 = some r) ?_ ?_
      · skip
        refine cs_seq ?_
        obtain ⟨s31_0, hs31_0⟩ : ∃ z : Value → Sto → Prop, z = (fun v R => v = .int .i64 x6_2 ∧ R = s0) := ⟨_, rfl⟩
        refine have_op (l := [_, _, _, _, _, _, _, _, _, _, _, _, _, _]) extent_Remove.tab29 2 0 (fun sp => sp 0 = s31_0) (fun sp on hA hon => ?_) (fun ops31_0 => ?_)
        · refine ⟨fun o ho vs Rs f' S' w hp hf hx hS hR hs => ?_⟩
          obtain rfl := Option.some.inj ho
          rw [hA, hs31_0]
          refine And.intro (fun a ha => (want_none rfl a ha).trans hon.symm) (And.intro (fun _ => ?_) (fun h => by rw [hon] at h; cases h))
          have hF := fr_next (rfl) ((hx 6 (by kernel_rfl)).trans (by kernel_rfl : (_ : Value) = .int .i64 x6_2))
          refine ls_fr hF ?_
          refine ls_val (v := .int .i64 x6_2) rfl rfl (by kernel_rfl) (fun w => by kernel_rfl) ?_
          exact ls_fin s0 (.int .i64 x6_2) (congrArg (fun z => upd z 27 _) hF.symm) ⟨rfl, rfl⟩ (sub_nil _)
        obtain ⟨s31_1, hs31_1⟩ : ∃ z : Value → Sto → Prop, z = (fun v R => v = .slice A0 l0.length c0 ∧ R = s0) := ⟨_, rfl⟩
        refine have_op (l := [_, _, _, _, _, _, _, _, _, _, _, _, _, _]) extent_Remove.tab29 2 1 (fun sp => sp 1 = s31_1) (fun sp on hA hon => ?_) (fun ops31_1 => ?_)
        · refine ⟨fun o ho vs Rs f' S' w hp hf hx hS hR hs => ?_⟩
          obtain rfl := Option.some.inj ho
          rw [hA, hs31_1]
          refine And.intro (fun a ha => (want_none rfl a ha).trans hon.symm) (And.intro (fun _ => ?_) (fun h => by rw [hon] at h; cases h))
          have hF := fr_next (rfl) ((hx 0 (by kernel_rfl)).trans (by kernel_rfl : (_ : Value) = .slice A0 l0.length c0))
          refine ls_fr hF ?_
          refine ls_val (v := .slice A0 l0.length c0) rfl rfl (by kernel_rfl) (fun w => by kernel_rfl) ?_
          exact ls_fin s0 (.slice A0 l0.length c0) (congrArg (fun z => upd z 28 _) hF.symm) ⟨rfl, rfl⟩ (sub_nil _)
        obtain ⟨s31_2, hs31_2⟩ : ∃ z : Value → Sto → Prop, z = (fun v R => v = .int .i64 (l0.length : Int) ∧ R = s0) := ⟨_, rfl⟩
        refine have_op (l := [_, _, _, _, _, _, _, _, _, _, _, _, _, _]) extent_Remove.tab29 2 2 (fun sp => sp 2 = s31_2 ∧ sp 1 = s31_1) (fun sp on hA hon => ?_) (fun ops31_2 => ?_)
        · refine ⟨fun o ho vs Rs f' S' w hp hf hx hS hR hs => ?_⟩
          obtain rfl := Option.some.inj ho
          obtain ⟨hv1, hR1⟩ := (spe hA.2 hs31_1 (hp 1 (by kernel_rfl)))
          rw [hA.1, hs31_2]
          refine And.intro (fun a ha => (want_none rfl a ha).trans hon.symm) (And.intro (fun _ => ?_) (fun h => by rw [hon] at h; cases h))
          have hF := fr_next (rfl) ((hf 1 28 (by kernel_rfl) rfl).trans hv1)
          refine ls_fr hF ?_
          refine ls_val (v := .int .i64 (l0.length : Int)) rfl rfl (by kernel_rfl) (fun w => by kernel_rfl) ?_
          exact ls_fin s0 (.int .i64 (l0.length : Int)) (congrArg (fun z => upd z 29 _) hF.symm) ⟨rfl, rfl⟩ (sub_nil _)
        obtain ⟨s31_3, hs31_3⟩ : ∃ z : Value → Sto → Prop, z = (fun v R => v = .bool (decide (x6_2 < (l0.length : Int))) ∧ R = s0) := ⟨_, rfl⟩
        refine have_op (l := [_, _, _, _, _, _, _, _, _, _, _, _, _, _]) extent_Remove.tab29 2 3 (fun sp => sp 3 = s31_3 ∧ sp 0 = s31_0 ∧ sp 2 = s31_2) (fun sp on hA hon => ?_) (fun ops31_3 => ?_)
        · refine ⟨fun o ho vs Rs f' S' w hp hf hx hS hR hs => ?_⟩
          obtain rfl := Option.some.inj ho
          obtain ⟨hv0, hR0⟩ := (spe hA.2.1 hs31_0 (hp 0 (by kernel_rfl)))
          obtain ⟨hv2, hR2⟩ := (spe hA.2.2 hs31_2 (hp 2 (by kernel_rfl)))
          rw [hA.1, hs31_3]
          refine And.intro (fun a ha => (want_none rfl a ha).trans hon.symm) (And.intro (fun _ => ?_) (fun h => by rw [hon] at h; cases h))
          have hF := fr_next (fr_next (rfl) ((hf 0 27 (by kernel_rfl) rfl).trans hv0)) ((hf 2 29 (by kernel_rfl) rfl).trans hv2)
          refine ls_fr hF ?_
          refine ls_val (v := .bool (decide (x6_2 < (l0.length : Int)))) rfl rfl (by kernel_rfl) (fun w => by kernel_rfl) ?_
          exact ls_fin s0 (.bool (decide (x6_2 < (l0.length : Int)))) (congrArg (fun z => upd z 30 _) hF.symm) ⟨rfl, rfl⟩ (sub_nil _)
        obtain ⟨s31_4, hs31_4⟩ : ∃ z : Value → Sto → Prop, z = (fun v R => v = .bool (decide (x6_2 < (l0.length : Int))) ∧ R = s0) := ⟨_, rfl⟩
        refine have_op (l := [_, _, _, _, _, _, _, _, _, _, _, _, _, _]) extent_Remove.tab29 2 4 (fun sp => sp 4 = s31_4 ∧ sp 3 = s31_3) (fun sp on hA hon => ?_) (fun ops31_4 => ?_)
        · refine ⟨fun o ho vs Rs f' S' w hp hf hx hS hR hs => ?_⟩
          obtain rfl := Option.some.inj ho
          obtain ⟨hv3, hR3⟩ := (spe hA.2 hs31_3 (hp 3 (by kernel_rfl)))
          rw [hA.1, hs31_4]
          refine And.intro (fun a ha => (want_none rfl a ha).trans hon.symm) (And.intro (fun _ => ?_) (fun h => by rw [hon] at h; cases h))
          have hF := fr_next (rfl) ((hf 3 30 (by kernel_rfl) rfl).trans hv3)
          refine ls_fr hF ?_
          refine ls_val (v := .bool (decide (x6_2 < (l0.length : Int)))) rfl rfl (by kernel_rfl) (fun w => by kernel_rfl) ?_
          exact ls_fin s0 (.bool (decide (x6_2 < (l0.length : Int)))) (congrArg (fun z => upd z 31 _) hF.symm) ⟨rfl, rfl⟩ (sub_nil _)
        by_cases q32 : x6_2 < (l0.length : Int)
        · replace H := ite_t q32 H
          obtain ⟨s31_5, hs31_5⟩ : ∃ z : Value → Sto → Prop, z = (fun v R => v = .slice A0 l0.length c0 ∧ R = s0) := ⟨_, rfl⟩
          refine have_op (l := [_, _, _, _, _, _, _, _, _, _, _, _, _, _]) extent_Remove.tab29 2 5 (fun sp => sp 5 = s31_5 ∧ sp 4 = s31_4) (fun sp on hA hon => ?_) (fun ops31_5 => ?_)
          · refine ⟨fun o ho vs Rs f' S' w hp hf hx hS hR hs => ?_⟩
            obtain rfl := Option.some.inj ho
            obtain ⟨hv4, hR4⟩ := (spe hA.2 hs31_4 (hp 4 (by kernel_rfl)))
            rw [hA.1, hs31_5]
            refine And.intro (fun a ha => (want_is (j := 4) (t := 31) (r := true) rfl rfl (by kernel_rfl) (((hf 4 31 (by kernel_rfl) rfl).trans hv4).trans (congrArg Value.bool (show (decide (x6_2 < (l0.length : Int))) = true from dec_t q32))) rfl a ha).trans hon.symm) (And.intro (fun _ => ?_) (fun h => by rw [hon] at h; cases h))
            have hF := fr_next (fr_next (rfl) ((hx 0 (by kernel_rfl)).trans (by kernel_rfl : (_ : Value) = .slice A0 l0.length c0))) (((hf 4 31 (by kernel_rfl) rfl).trans hv4).trans (congrArg Value.bool (show (decide (x6_2 < (l0.length : Int))) = true from dec_t q32)))
            refine ls_fr hF ?_
            refine ls_val (v := .slice A0 l0.length c0) rfl rfl (by kernel_rfl) (fun w => by kernel_rfl) ?_
            exact ls_fin s0 (.slice A0 l0.length c0) (congrArg (fun z => upd z 32 _) hF.symm) ⟨rfl, rfl⟩ (sub_nil _)
          obtain ⟨s31_6, hs31_6⟩ : ∃ z : Value → Sto → Prop, z = (fun v R => v = .int .i64 x6_2 ∧ R = s0) := ⟨_, rfl⟩
          refine have_op (l := [_, _, _, _, _, _, _, _, _, _, _, _, _, _]) extent_Remove.tab29 2 6 (fun sp => sp 6 = s31_6 ∧ sp 4 = s31_4) (fun sp on hA hon => ?_) (fun ops31_6 => ?_)
          · refine ⟨fun o ho vs Rs f' S' w hp hf hx hS hR hs => ?_⟩
            obtain rfl := Option.some.inj ho
            obtain ⟨hv4, hR4⟩ := (spe hA.2 hs31_4 (hp 4 (by kernel_rfl)))
            rw [hA.1, hs31_6]
            refine And.intro (fun a ha => (want_is (j := 4) (t := 31) (r := true) rfl rfl (by kernel_rfl) (((hf 4 31 (by kernel_rfl) rfl).trans hv4).trans (congrArg Value.bool (show (decide (x6_2 < (l0.length : Int))) = true from dec_t q32))) rfl a ha).trans hon.symm) (And.intro (fun _ => ?_) (fun h => by rw [hon] at h; cases h))
            have hF := fr_next (fr_next (rfl) ((hx 6 (by kernel_rfl)).trans (by kernel_rfl : (_ : Value) = .int .i64 x6_2))) (((hf 4 31 (by kernel_rfl) rfl).trans hv4).trans (congrArg Value.bool (show (decide (x6_2 < (l0.length : Int))) = true from dec_t q32)))
            refine ls_fr hF ?_
            refine ls_val (v := .int .i64 x6_2) rfl rfl (by kernel_rfl) (fun w => by kernel_rfl) ?_
            exact ls_fin s0 (.int .i64 x6_2) (congrArg (fun z => upd z 33 _) hF.symm) ⟨rfl, rfl⟩ (sub_nil _)
          obtain ⟨q33, H⟩ := ite_need H
          obtain ⟨ad34, hA35⟩ := ido_at (T := T24) (l := l0) (i := x6_2) R0 q33 q32
          obtain ⟨s31_7, hs31_7⟩ : ∃ z : Value → Sto → Prop, z = (fun v R => v = .pointer (some (ad34.add ((x6_2).toNat * 2))) ∧ R = s0) := ⟨_, rfl⟩
          refine have_op (l := [_, _, _, _, _, _, _, _, _, _, _, _, _, _]) extent_Remove.tab29 2 7 (fun sp => sp 7 = s31_7 ∧ sp 4 = s31_4 ∧ sp 5 = s31_5 ∧ sp 6 = s31_6) (fun sp on hA hon => ?_) (fun ops31_7 => ?_)
          · refine ⟨fun o ho vs Rs f' S' w hp hf hx hS hR hs => ?_⟩
            obtain rfl := Option.some.inj ho
            obtain ⟨hv4, hR4⟩ := (spe hA.2.1 hs31_4 (hp 4 (by kernel_rfl)))
            obtain ⟨hv5, hR5⟩ := (spe hA.2.2.1 hs31_5 (hp 5 (by kernel_rfl)))
            obtain ⟨hv6, hR6⟩ := (spe hA.2.2.2 hs31_6 (hp 6 (by kernel_rfl)))
            rw [hA.1, hs31_7]
            refine And.intro (fun a ha => (want_is (j := 4) (t := 31) (r := true) rfl rfl (by kernel_rfl) (((hf 4 31 (by kernel_rfl) rfl).trans hv4).trans (congrArg Value.bool (show (decide (x6_2 < (l0.length : Int))) = true from dec_t q32))) rfl a ha).trans hon.symm) (And.intro (fun _ => ?_) (fun h => by rw [hon] at h; cases h))
            have hF := fr_next (fr_next (fr_next (rfl) (((hf 4 31 (by kernel_rfl) rfl).trans hv4).trans (congrArg Value.bool (show (decide (x6_2 < (l0.length : Int))) = true from dec_t q32)))) ((hf 5 32 (by kernel_rfl) rfl).trans hv5)) ((hf 6 33 (by kernel_rfl) rfl).trans hv6)
            refine ls_fr hF ?_
            refine ls_idxv T24 (A := A0) (c := c0) (l := l0) (k := .i64) (i := x6_2) (z := 2) (ad := ad34) rfl rfl (by kernel_rfl) hA35 rfl (by kernel_rfl) (by kernel_rfl) (by kernel_rfl) (by kernel_rfl) q33 q32 ?_
            exact ls_fin s0 (.pointer (some (ad34.add ((x6_2).toNat * 2)))) (congrArg (fun z => upd z 34 _) hF.symm) ⟨rfl, rfl⟩ (sub_nil _)
          obtain ⟨s31_8, hs31_8⟩ : ∃ z : Value → Sto → Prop, z = (fun v R => v = .pointer (some (ad34.add (((x6_2).toNat * 2) + 0))) ∧ R = s0) := ⟨_, rfl⟩
          refine have_op (l := [_, _, _, _, _, _, _, _, _, _, _, _, _, _]) extent_Remove.tab29 2 8 (fun sp => sp 8 = s31_8 ∧ sp 4 = s31_4 ∧ sp 7 = s31_7) (fun sp on hA hon => ?_) (fun ops31_8 => ?_)
          · refine ⟨fun o ho vs Rs f' S' w hp hf hx hS hR hs => ?_⟩
            obtain rfl := Option.some.inj ho
            obtain ⟨hv4, hR4⟩ := (spe hA.2.1 hs31_4 (hp 4 (by kernel_rfl)))
            obtain ⟨hv7, hR7⟩ := (spe hA.2.2 hs31_7 (hp 7 (by kernel_rfl)))
            rw [hA.1, hs31_8]
            refine And.intro (fun a ha => (want_is (j := 4) (t := 31) (r := true) rfl rfl (by kernel_rfl) (((hf 4 31 (by kernel_rfl) rfl).trans hv4).trans (congrArg Value.bool (show (decide (x6_2 < (l0.length : Int))) = true from dec_t q32))) rfl a ha).trans hon.symm) (And.intro (fun _ => ?_) (fun h => by rw [hon] at h; cases h))
            have hF := fr_next (fr_next (rfl) (((hf 4 31 (by kernel_rfl) rfl).trans hv4).trans (congrArg Value.bool (show (decide (x6_2 < (l0.length : Int))) = true from dec_t q32)))) ((hf 7 34 (by kernel_rfl) rfl).trans hv7)
            refine ls_fr hF ?_
            refine ls_fieldm (ad := ad34) (off := ((x6_2).toNat * 2)) rfl rfl (by kernel_rfl) 0 (fun w => by kernel_rfl) ?_
            exact ls_fin s0 (.pointer (some (ad34.add (((x6_2).toNat * 2) + 0)))) (congrArg (fun z => upd z 35 _) hF.symm) ⟨rfl, rfl⟩ (sub_nil _)
          obtain ⟨y36, hy37, H⟩ := lt_some H
          obtain ⟨s31_9, hs31_9⟩ : ∃ z : Value → Sto → Prop, z = (fun v R => v = .int .i64 y36 ∧ R = s0) := ⟨_, rfl⟩
          refine have_op (l := [_, _, _, _, _, _, _, _, _, _, _, _, _, _]) extent_Remove.tab29 2 9 (fun sp => sp 9 = s31_9 ∧ sp 4 = s31_4 ∧ sp 8 = s31_8) (fun sp on hA hon => ?_) (fun ops31_9 => ?_)
          · refine ⟨fun o ho vs Rs f' S' w hp hf hx hS hR hs => ?_⟩
            obtain rfl := Option.some.inj ho
            obtain ⟨hv4, hR4⟩ := (spe hA.2.1 hs31_4 (hp 4 (by kernel_rfl)))
            obtain ⟨hv8, hR8⟩ := (spe hA.2.2 hs31_8 (hp 8 (by kernel_rfl)))
            rw [hA.1, hs31_9]
            refine And.intro (fun a ha => (want_is (j := 4) (t := 31) (r := true) rfl rfl (by kernel_rfl) (((hf 4 31 (by kernel_rfl) rfl).trans hv4).trans (congrArg Value.bool (show (decide (x6_2 < (l0.length : Int))) = true from dec_t q32))) rfl a ha).trans hon.symm) (And.intro (fun _ => ?_) (fun h => by rw [hon] at h; cases h))
            have hF := fr_next (fr_next (rfl) (((hf 4 31 (by kernel_rfl) rfl).trans hv4).trans (congrArg Value.bool (show (decide (x6_2 < (l0.length : Int))) = true from dec_t q32)))) ((hf 8 35 (by kernel_rfl) rfl).trans hv8)
            refine ls_fr hF ?_
            refine ls_load (a0 := (ad34.add (((x6_2).toNat * 2) + 0))) (v := .int .i64 (((l0).getD (x6_2).toNat ((0 : Int), (0 : Int))).1)) (de := (TypeDesc.int .i64)) rfl rfl (by kernel_rfl) rfl (by kernel_rfl) (by kernel_rfl) (by kernel_rfl) (fun w1 hs1 => (Rd.step (hs.old R0) hs1.below.bw).at hA35 (Sub4.trans (em_sub T24 l0 (i := (x6_2).toNat) (by have h0 : (0 : Int) ≤ x6_2 := q33; have h1 : x6_2 < (l0.length : Int) := q32; omega)) (Sub4.head _ _))) ?_
            refine ls_ren 36 (v := .int .i64 (((l0).getD (x6_2).toNat ((0 : Int), (0 : Int))).1)) (v' := .int .i64 y36) (by kernel_rfl) (by rw [hy37]) ?_
            exact ls_fin s0 (.int .i64 y36) ((upd_upd _ _ _ _).trans (congrArg (fun z => upd z 36 _) hF.symm)) ⟨rfl, rfl⟩ (sub_nil _)
          obtain ⟨s31_10, hs31_10⟩ : ∃ z : Value → Sto → Prop, z = (fun v R => v = .pointer (some ⟨g1, (0 + 1), none⟩) ∧ R = s0) := ⟨_, rfl⟩
          refine have_op (l := [_, _, _, _, _, _, _, _, _, _, _, _, _, _]) extent_Remove.tab29 2 10 (fun sp => sp 10 = s31_10 ∧ sp 4 = s31_4) (fun sp on hA hon => ?_) (fun ops31_10 => ?_)
          · refine ⟨fun o ho vs Rs f' S' w hp hf hx hS hR hs => ?_⟩
            obtain rfl := Option.some.inj ho
            obtain ⟨hv4, hR4⟩ := (spe hA.2 hs31_4 (hp 4 (by kernel_rfl)))
            rw [hA.1, hs31_10]
            refine And.intro (fun a ha => (want_is (j := 4) (t := 31) (r := true) rfl rfl (by kernel_rfl) (((hf 4 31 (by kernel_rfl) rfl).trans hv4).trans (congrArg Value.bool (show (decide (x6_2 < (l0.length : Int))) = true from dec_t q32))) rfl a ha).trans hon.symm) (And.intro (fun _ => ?_) (fun h => by rw [hon] at h; cases h))
            have hF := fr_next (fr_next (rfl) ((hx 3 (by kernel_rfl)).trans (by kernel_rfl : (_ : Value) = .pointer (some ⟨g1, 0, none⟩)))) (((hf 4 31 (by kernel_rfl) rfl).trans hv4).trans (congrArg Value.bool (show (decide (x6_2 < (l0.length : Int))) = true from dec_t q32)))
            refine ls_fr hF ?_
            refine ls_val (v := .pointer (some ⟨g1, (0 + 1), none⟩)) rfl rfl (by kernel_rfl) (fun w => by kernel_rfl) ?_
            exact ls_fin s0 (.pointer (some ⟨g1, (0 + 1), none⟩)) (congrArg (fun z => upd z 37 _) hF.symm) ⟨rfl, rfl⟩ (sub_nil _)
          obtain ⟨s31_11, hs31_11⟩ : ∃ z : Value → Sto → Prop, z = (fun v R => v = .int .i64 a1.2 ∧ R = s0) := ⟨_, rfl⟩
          refine have_op (l := [_, _, _, _, _, _, _, _, _, _, _, _, _, _]) extent_Remove.tab29 2 11 (fun sp => sp 11 = s31_11 ∧ sp 4 = s31_4 ∧ sp 10 = s31_10) (fun sp on hA hon => ?_) (fun ops31_11 => ?_)
          · refine ⟨fun o ho vs Rs f' S' w hp hf hx hS hR hs => ?_⟩
            obtain rfl := Option.some.inj ho
            obtain ⟨hv4, hR4⟩ := (spe hA.2.1 hs31_4 (hp 4 (by kernel_rfl)))
            obtain ⟨hv10, hR10⟩ := (spe hA.2.2 hs31_10 (hp 10 (by kernel_rfl)))
            rw [hA.1, hs31_11]
            refine And.intro (fun a ha => (want_is (j := 4) (t := 31) (r := true) rfl rfl (by kernel_rfl) (((hf 4 31 (by kernel_rfl) rfl).trans hv4).trans (congrArg Value.bool (show (decide (x6_2 < (l0.length : Int))) = true from dec_t q32))) rfl a ha).trans hon.symm) (And.intro (fun _ => ?_) (fun h => by rw [hon] at h; cases h))
            have hF := fr_next (fr_next (rfl) (((hf 4 31 (by kernel_rfl) rfl).trans hv4).trans (congrArg Value.bool (show (decide (x6_2 < (l0.length : Int))) = true from dec_t q32)))) ((hf 10 37 (by kernel_rfl) rfl).trans hv10)
            refine ls_fr hF ?_
            refine ls_load (a0 := ⟨g1, (0 + 1), none⟩) (v := .int .i64 a1.2) (de := (TypeDesc.int .i64)) rfl rfl (by kernel_rfl) rfl (by kernel_rfl) (by kernel_rfl) (by kernel_rfl) (fun w1 hs1 => cell_step hs1.below.bw (hs.var (k := 0) ((hS 0 (by kernel_rfl)).trans (by exact rfl)) (Sub4.trans (Sub4.all _) (Sub4.skip (n := 1) (len1 _) (Sub4.all _))))) ?_
            exact ls_fin s0 (.int .i64 a1.2) (congrArg (fun z => upd z 38 _) hF.symm) ⟨rfl, rfl⟩ (sub_nil _)
          refine cs_draw extent_Remove.tab29 12 2 (spl [s31_0, s31_1, s31_2, s31_3, s31_4, s31_5, s31_6, s31_7, s31_8, s31_9, s31_10, s31_11]) (onl [true, true, true, true, true, true, true, true, true, true, true, true]) (by kernel_rfl) (by kernel_rfl) (by kernel_rfl) (by kernel_rfl) (rs := [_, _]) rfl (by kernel_rfl) (by kernel_rfl) (all_snoc (all_snoc (all_snoc (all_snoc (all_snoc (all_snoc (all_snoc (all_snoc (all_snoc (all_snoc (all_snoc (all_snoc (all_nil) (ops31_0 _ _ rfl rfl)) (ops31_1 _ _ rfl rfl)) (ops31_2 _ _ ⟨rfl, rfl⟩ rfl)) (ops31_3 _ _ ⟨rfl, rfl, rfl⟩ rfl)) (ops31_4 _ _ ⟨rfl, rfl⟩ rfl)) (ops31_5 _ _ ⟨rfl, rfl⟩ rfl)) (ops31_6 _ _ ⟨rfl, rfl⟩ rfl)) (ops31_7 _ _ ⟨rfl, rfl, rfl, rfl⟩ rfl)) (ops31_8 _ _ ⟨rfl, rfl, rfl⟩ rfl)) (ops31_9 _ _ ⟨rfl, rfl, rfl⟩ rfl)) (ops31_10 _ _ ⟨rfl, rfl⟩ rfl)) (ops31_11 _ _ ⟨rfl, rfl, rfl⟩ rfl)) ?_
          intro vs Rs f' S' hp hf hx hS hR
          obtain ⟨hv4, hR4⟩ := (spe rfl hs31_4 (hp 4 (by kernel_rfl)))
          obtain ⟨hv5, hR5⟩ := (spe rfl hs31_5 (hp 5 (by kernel_rfl)))
          obtain ⟨hv6, hR6⟩ := (spe rfl hs31_6 (hp 6 (by kernel_rfl)))
          obtain ⟨hv7, hR7⟩ := (spe rfl hs31_7 (hp 7 (by kernel_rfl)))
          obtain ⟨hv8, hR8⟩ := (spe rfl hs31_8 (hp 8 (by kernel_rfl)))
          obtain ⟨hv9, hR9⟩ := (spe rfl hs31_9 (hp 9 (by kernel_rfl)))
          obtain ⟨hv10, hR10⟩ := (spe rfl hs31_10 (hp 10 (by kernel_rfl)))
          obtain ⟨hv11, hR11⟩ := (spe rfl hs31_11 (hp 11 (by kernel_rfl)))
          refine ls_fr (F := upd (upd (upd (upd (upd (upd (upd (upd (upd (upd (upd (upd (upd f' 0 (.slice A0 l0.length c0)) 3 (.pointer (some ⟨g1, 0, none⟩))) 5 (.int .i64 t2)) 6 (.int .i64 x6_2)) 7 (.slice A7_2 l7_2.length c7_2)) 31 (.bool (decide (x6_2 < (l0.length : Int))))) 32 (.slice A0 l0.length c0)) 33 (.int .i64 x6_2)) 34 (.pointer (some (ad34.add ((x6_2).toNat * 2))))) 35 (.pointer (some (ad34.add (((x6_2).toNat * 2) + 0))))) 36 (.int .i64 y36)) 37 (.pointer (some ⟨g1, (0 + 1), none⟩))) 38 (.int .i64 a1.2)) (fr_next (fr_next (fr_next (fr_next (fr_next (fr_next (fr_next (fr_next (fr_next (fr_next (fr_next (fr_next (fr_next (rfl) ((hx 0 (by kernel_rfl)).trans (by kernel_rfl : (_ : Value) = .slice A0 l0.length c0))) ((hx 3 (by kernel_rfl)).trans (by kernel_rfl : (_ : Value) = .pointer (some ⟨g1, 0, none⟩)))) ((hx 5 (by kernel_rfl)).trans (by kernel_rfl : (_ : Value) = .int .i64 t2))) ((hx 6 (by kernel_rfl)).trans (by kernel_rfl : (_ : Value) = .int .i64 x6_2))) ((hx 7 (by kernel_rfl)).trans (by kernel_rfl : (_ : Value) = .slice A7_2 l7_2.length c7_2))) ((hf 4 31 (by kernel_rfl) rfl).trans hv4)) ((hf 5 32 (by kernel_rfl) rfl).trans hv5)) ((hf 6 33 (by kernel_rfl) rfl).trans hv6)) ((hf 7 34 (by kernel_rfl) rfl).trans hv7)) ((hf 8 35 (by kernel_rfl) rfl).trans hv8)) ((hf 9 36 (by kernel_rfl) rfl).trans hv9)) ((hf 10 37 (by kernel_rfl) rfl).trans hv10)) ((hf 11 38 (by kernel_rfl) rfl).trans hv11)) ?_
          refine ls_sub (sput (sput s0 0 (some (Ck.var 24 g1 (([Value.int .i64 a1.1] ++ [Value.int .i64 a1.2]))))) 1 (some (Ck.sl T24 A7_2 c7_2 l7_2))) (sub_put ((hS 1 (by kernel_rfl)).trans (by exact rfl)) (sub_put ((hS 0 (by kernel_rfl)).trans (by exact rfl)) (sub_nil _))) ?_
          refine ls_know (c := true) (dec_t q32) 31 (by kernel_rfl) ?_
          refine ls_on (j := 4) (t := 31) (b := true) rfl rfl (by kernel_rfl) (by kernel_rfl) ?_
          refine ls_val (v := .bool (decide (y36 < a1.2))) rfl rfl (by kernel_rfl) (fun w => by kernel_rfl) ?_
          refine ls_val (v := .bool (decide (y36 < a1.2))) rfl rfl (by kernel_rfl) (fun w => by kernel_rfl) ?_
          refine ls_end ?_
          refine qn_then ?_
          by_cases q38 : y36 < a1.2
          · replace H := ite_t q38 H
            refine cs_know (c := true) (dec_t q38) 40 (by kernel_rfl) ?_
            refine cs_true (by kernel_rfl) ?_
            refine cs_skip' ?_
            refine qn_meet (sput (sput s0 0 (some (Ck.var 24 g1 (([Value.int .i64 a1.1] ++ [Value.int .i64 a1.2]))))) 1 (some (Ck.sl T24 A7_2 c7_2 l7_2))) ⟨_, x6_2, y36, a1.2, (decide (y36 < a1.2)), fr_next (fr_next (fr_next (fr_next (fr_next (fr_next (fr_next (fr_next (fr_next (rfl) (by kernel_rfl)) (by kernel_rfl)) (by kernel_rfl)) (by kernel_rfl)) (by kernel_rfl)) (by kernel_rfl)) (by kernel_rfl)) (by kernel_rfl)) (by kernel_rfl), rfl, H⟩ (sub_put (by exact rfl) (sub_put (by exact rfl) (sub_nil _)))
          · replace H := ite_f q38 H
            refine cs_know (c := false) (dec_f q38) 40 (by kernel_rfl) ?_
            refine cs_false (by kernel_rfl) ?_
            refine cs_exit' ?_
            refine qx_then ?_
            refine qx_then ?_
            refine qx_same ?_
            refine qn_then ?_
            refine cs_seq ?_
            refine cs_region (l := [_, _, _, _, _, _]) ?_
            refine ls_val (v := .slice A0 l0.length c0) rfl rfl (by kernel_rfl) (fun w => by kernel_rfl) ?_
            refine ls_val (v := .int .i64 t2) rfl rfl (by kernel_rfl) (fun w => by kernel_rfl) ?_
            refine ls_val (v := .int .i64 x6_2) rfl rfl (by kernel_rfl) (fun w => by kernel_rfl) ?_
            refine ls_val (v := .slice A7_2 l7_2.length c7_2) rfl rfl (by kernel_rfl) (fun w => by kernel_rfl) ?_
            obtain ⟨t39, hc40, H⟩ := bind_some H
            refine ls_callb (fid := 44) (vals := #[.slice A0 l0.length c0, .int .i64 t2, .int .i64 x6_2, .slice A7_2 l7_2.length c7_2]) (X := (Option Addr × Nat)) (fun x => .slice x.1 t39.length x.2) (fun x => stl [Ck.sl T24 x.1 x.2 t39]) [] [1] [] [Ck.sl T24 A7_2 c7_2 l7_2] 98 rfl rfl (by kernel_rfl) (fun w => by kernel_rfl) trivial ⟨by exact rfl, trivial⟩ (by decide) (fun w hs hb => extent_replace_44.calls k2 A0 c0 l0 t2 x6_2 A7_2 c7_2 l7_2 t39 (lent b w [] [Ck.sl T24 A7_2 c7_2 l7_2]) hb (hs.ro R0 _ _) C0 (hs.ror (k := 1) (by exact rfl) (.head _)) (hs.cap (k := 1) (by exact rfl)) hc40) ?_
            intro x41
            refine ls_val (v := .slice x41.1 t39.length x41.2) rfl rfl (by kernel_rfl) (fun w => by kernel_rfl) ?_
            refine ls_end ?_
            refine qn_then ?_
            refine cs_ret' ?_
            obtain rfl := Option.some.inj H
            refine qr_res (rs := [_]) rfl (fun w' hs => ⟨[.slice x41.1 t39.length x41.2], (res_tmp (by kernel_rfl) (.nil)), (x41.1, x41.2), rfl, hs.pick (ts := [98]) (cs := [Ck.sl T24 x41.1 x41.2 t39]) ⟨by exact rfl, trivial⟩ (by decide)⟩)
        · replace H := ite_f q32 H
          refine cs_draw extent_Remove.tab29 12 2 (spl [s31_0, s31_1, s31_2, s31_3, s31_4, spu, spu, spu, spu, spu, spu, spu]) (onl [true, true, true, true, true, false, false, false, false, false, false, false]) (by kernel_rfl) (by kernel_rfl) (by kernel_rfl) (by kernel_rfl) (rs := [_, _]) rfl (by kernel_rfl) (by kernel_rfl) (all_snoc (all_snoc (all_snoc (all_snoc (all_snoc (all_snoc (all_snoc (all_snoc (all_snoc (all_snoc (all_snoc (all_snoc (all_nil) (ops31_0 _ _ rfl rfl)) (ops31_1 _ _ rfl rfl)) (ops31_2 _ _ ⟨rfl, rfl⟩ rfl)) (ops31_3 _ _ ⟨rfl, rfl, rfl⟩ rfl)) (ops31_4 _ _ ⟨rfl, rfl⟩ rfl)) (op_offi 5 4 31 true rfl rfl (by kernel_rfl) (by kernel_rfl) rfl (fun v R h => by rw [hs31_4] at h; obtain ⟨h, _⟩ := h; exact h.trans (congrArg Value.bool (show (decide (x6_2 < (l0.length : Int))) = false from dec_f q32))) rfl rfl)) (op_offi 6 4 31 true rfl rfl (by kernel_rfl) (by kernel_rfl) rfl (fun v R h => by rw [hs31_4] at h; obtain ⟨h, _⟩ := h; exact h.trans (congrArg Value.bool (show (decide (x6_2 < (l0.length : Int))) = false from dec_f q32))) rfl rfl)) (op_offi 7 4 31 true rfl rfl (by kernel_rfl) (by kernel_rfl) rfl (fun v R h => by rw [hs31_4] at h; obtain ⟨h, _⟩ := h; exact h.trans (congrArg Value.bool (show (decide (x6_2 < (l0.length : Int))) = false from dec_f q32))) rfl rfl)) (op_offi 8 4 31 true rfl rfl (by kernel_rfl) (by kernel_rfl) rfl (fun v R h => by rw [hs31_4] at h; obtain ⟨h, _⟩ := h; exact h.trans (congrArg Value.bool (show (decide (x6_2 < (l0.length : Int))) = false from dec_f q32))) rfl rfl)) (op_offi 9 4 31 true rfl rfl (by kernel_rfl) (by kernel_rfl) rfl (fun v R h => by rw [hs31_4] at h; obtain ⟨h, _⟩ := h; exact h.trans (congrArg Value.bool (show (decide (x6_2 < (l0.length : Int))) = false from dec_f q32))) rfl rfl)) (op_offi 10 4 31 true rfl rfl (by kernel_rfl) (by kernel_rfl) rfl (fun v R h => by rw [hs31_4] at h; obtain ⟨h, _⟩ := h; exact h.trans (congrArg Value.bool (show (decide (x6_2 < (l0.length : Int))) = false from dec_f q32))) rfl rfl)) (op_offi 11 4 31 true rfl rfl (by kernel_rfl) (by kernel_rfl) rfl (fun v R h => by rw [hs31_4] at h; obtain ⟨h, _⟩ := h; exact h.trans (congrArg Value.bool (show (decide (x6_2 < (l0.length : Int))) = false from dec_f q32))) rfl rfl)) ?_
          intro vs Rs f' S' hp hf hx hS hR
          obtain ⟨hv4, hR4⟩ := (spe rfl hs31_4 (hp 4 (by kernel_rfl)))
          obtain ⟨hv5, hR5⟩ := (spe rfl rfl (hp 5 (by kernel_rfl)) : spu _ _)
          obtain ⟨hv6, hR6⟩ := (spe rfl rfl (hp 6 (by kernel_rfl)) : spu _ _)
          obtain ⟨hv7, hR7⟩ := (spe rfl rfl (hp 7 (by kernel_rfl)) : spu _ _)
          obtain ⟨hv8, hR8⟩ := (spe rfl rfl (hp 8 (by kernel_rfl)) : spu _ _)
          obtain ⟨hv9, hR9⟩ := (spe rfl rfl (hp 9 (by kernel_rfl)) : spu _ _)
          obtain ⟨hv10, hR10⟩ := (spe rfl rfl (hp 10 (by kernel_rfl)) : spu _ _)
          obtain ⟨hv11, hR11⟩ := (spe rfl rfl (hp 11 (by kernel_rfl)) : spu _ _)
          refine ls_fr (F := upd (upd (upd (upd (upd (upd f' 0 (.slice A0 l0.length c0)) 3 (.pointer (some ⟨g1, 0, none⟩))) 5 (.int .i64 t2)) 6 (.int .i64 x6_2)) 7 (.slice A7_2 l7_2.length c7_2)) 31 (.bool (decide (x6_2 < (l0.length : Int))))) (fr_next (fr_next (fr_next (fr_next (fr_next (fr_next (rfl) ((hx 0 (by kernel_rfl)).trans (by kernel_rfl : (_ : Value) = .slice A0 l0.length c0))) ((hx 3 (by kernel_rfl)).trans (by kernel_rfl : (_ : Value) = .pointer (some ⟨g1, 0, none⟩)))) ((hx 5 (by kernel_rfl)).trans (by kernel_rfl : (_ : Value) = .int .i64 t2))) ((hx 6 (by kernel_rfl)).trans (by kernel_rfl : (_ : Value) = .int .i64 x6_2))) ((hx 7 (by kernel_rfl)).trans (by kernel_rfl : (_ : Value) = .slice A7_2 l7_2.length c7_2))) ((hf 4 31 (by kernel_rfl) rfl).trans hv4)) ?_
          refine ls_sub (sput (sput s0 0 (some (Ck.var 24 g1 (([Value.int .i64 a1.1] ++ [Value.int .i64 a1.2]))))) 1 (some (Ck.sl T24 A7_2 c7_2 l7_2))) (sub_put ((hS 1 (by kernel_rfl)).trans (by exact rfl)) (sub_put ((hS 0 (by kernel_rfl)).trans (by exact rfl)) (sub_nil _))) ?_
          refine ls_know (c := false) (dec_f q32) 31 (by kernel_rfl) ?_
          refine ls_off (j := 4) (t := 31) (b := true) (c := false) rfl rfl (by kernel_rfl) (by kernel_rfl) rfl rfl (by kernel_rfl) ?_
          refine ls_val (v := .bool false) rfl rfl (by kernel_rfl) (fun w => by kernel_rfl) ?_
          refine ls_end ?_
          refine qn_then ?_
          refine cs_false (by kernel_rfl) ?_
          refine cs_exit' ?_
          refine qx_then ?_
          refine qx_then ?_
          refine qx_same ?_
          refine qn_then ?_
          refine cs_seq ?_
          refine cs_region (l := [_, _, _, _, _, _]) ?_
          refine ls_val (v := .slice A0 l0.length c0) rfl rfl (by kernel_rfl) (fun w => by kernel_rfl) ?_
          refine ls_val (v := .int .i64 t2) rfl rfl (by kernel_rfl) (fun w => by kernel_rfl) ?_
          refine ls_val (v := .int .i64 x6_2) rfl rfl (by kernel_rfl) (fun w => by kernel_rfl) ?_
          refine ls_val (v := .slice A7_2 l7_2.length c7_2) rfl rfl (by kernel_rfl) (fun w => by kernel_rfl) ?_
          obtain ⟨t42, hc43, H⟩ := bind_some H
          refine ls_callb (fid := 44) (vals := #[.slice A0 l0.length c0, .int .i64 t2, .int .i64 x6_2, .slice A7_2 l7_2.length c7_2]) (X := (Option Addr × Nat)) (fun x => .slice x.1 t42.length x.2) (fun x => stl [Ck.sl T24 x.1 x.2 t42]) [] [1] [] [Ck.sl T24 A7_2 c7_2 l7_2] 98 rfl rfl (by kernel_rfl) (fun w => by kernel_rfl) trivial ⟨by exact rfl, trivial⟩ (by decide) (fun w hs hb => extent_replace_44.calls k2 A0 c0 l0 t2 x6_2 A7_2 c7_2 l7_2 t42 (lent b w [] [Ck.sl T24 A7_2 c7_2 l7_2]) hb (hs.ro R0 _ _) C0 (hs.ror (k := 1) (by exact rfl) (.head _)) (hs.cap (k := 1) (by exact rfl)) hc43) ?_
          intro x44
          refine ls_val (v := .slice x44.1 t42.length x44.2) rfl rfl (by kernel_rfl) (fun w => by kernel_rfl) ?_
          refine ls_end ?_
          refine qn_then ?_
          refine cs_ret' ?_
          obtain rfl := Option.some.inj H
          refine qr_res (rs := [_]) rfl (fun w' hs => ⟨[.slice x44.1 t42.length x44.2], (res_tmp (by kernel_rfl) (.nil)), (x44.1, x44.2), rfl, hs.pick (ts := [98]) (cs := [Ck.sl T24 x44.1 x44.2 t42]) ⟨by exact rfl, trivial⟩ (by decide)⟩)
      · rintro f S ⟨fr3, x33_3, x36_3, x38_3, x39_3, rfl, rfl, H⟩
        replace H : ((if 0 ≤ x6_2 then (if x6_2 < (l0.length : Int) then lt (((l0).getD (x6_2).toNat ((0 : Int), (0 : Int))).1) fun y10 => lt (((l0).getD (x6_2).toNat ((0 : Int), (0 : Int))).2) fun y12 => extent_Remove.lo4 l0 a1 x6_2 y10 y12 (extent_Remove.lo2 l0 a1 t2 k2) k2 l7_2 (0 : Int) else none) else none)) = some r := H
        refine cs_seq ?_
        refine cs_block ?_
        refine cs_seq ?_
        refine cs_region (l := [_, _, _, _, _, _]) ?_
        refine ls_val (v := .slice A0 l0.length c0) rfl rfl (by kernel_rfl) (fun w => by kernel_rfl) ?_
        refine ls_val (v := .int .i64 x6_2) rfl rfl (by kernel_rfl) (fun w => by kernel_rfl) ?_
        obtain ⟨q5, H⟩ := ite_need H
        obtain ⟨q6, H⟩ := ite_need H
        obtain ⟨ad7, hA8⟩ := ido_at (T := T24) (l := l0) (i := x6_2) R0 q5 q6
        refine ls_idxv T24 (A := A0) (c := c0) (l := l0) (k := .i64) (i := x6_2) (z := 2) (ad := ad7) rfl rfl (by kernel_rfl) hA8 rfl (by kernel_rfl) (by kernel_rfl) (by kernel_rfl) (by kernel_rfl) q5 q6 ?_
        refine ls_loadagg (a := (ad7.add ((x6_2).toNat * 2))) (sub := ([Value.int .i64 (((l0).getD (x6_2).toNat ((0 : Int), (0 : Int))).1)] ++ [Value.int .i64 (((l0).getD (x6_2).toNat ((0 : Int), (0 : Int))).2)])) rfl rfl (by kernel_rfl) rfl (by kernel_rfl) (by kernel_rfl) (by kernel_rfl) (len_app (len1 _) (len1 _)) (fun w hs => (hs.old R0).part hA8 (em_sub T24 l0 (i := (x6_2).toNat) (by have h0 : (0 : Int) ≤ x6_2 := q5; have h1 : x6_2 < (l0.length : Int) := q6; omega))) ?_
        refine ls_new rfl rfl (by kernel_rfl) 2 (fun g => .pointer (some ⟨g, 0, none⟩)) (.cells ⟨([Value.int .i64 (0 : Int)] ++ [Value.int .i64 (0 : Int)])⟩ 24) (fun w => by kernel_rfl) ?_
        intro g9
        refine ls_storec (g := g9) (off := 0) (v := .agg ⟨([Value.int .i64 (((l0).getD (x6_2).toNat ((0 : Int), (0 : Int))).1)] ++ [Value.int .i64 (((l0).getD (x6_2).toNat ((0 : Int), (0 : Int))).2)])⟩) (vs := ([Value.int .i64 (((l0).getD (x6_2).toNat ((0 : Int), (0 : Int))).1)] ++ [Value.int .i64 (((l0).getD (x6_2).toNat ((0 : Int), (0 : Int))).2)])) (cs := ([Value.int .i64 (0 : Int)] ++ [Value.int .i64 (0 : Int)])) (ty := 24) 2 rfl rfl rfl (by kernel_rfl) (by kernel_rfl) (by kernel_rfl) (by exact rfl) (by kernel_rfl) (len_app (len1 _) (len1 _)) (one_app (one_cons rfl one_nil) (one_cons rfl one_nil)) (hl_of (Sub4.all _) (len_eq (len_app (len1 _) (len1 _)) (len_app (len1 _) (len1 _)))) (cs' := ([Value.int .i64 (((l0).getD (x6_2).toNat ((0 : Int), (0 : Int))).1)] ++ [Value.int .i64 (((l0).getD (x6_2).toNat ((0 : Int), (0 : Int))).2)])) (splc_all (len_eq (len_app (len1 _) (len1 _)) (len_app (len1 _) (len1 _)))) ?_
        refine ls_end ?_
        refine qn_then ?_
        refine cs_seq ?_
        refine cs_region (l := [_, _, _, _, _, _, _, _, _, _, _, _]) ?_
        refine ls_val (v := .pointer (some ⟨g9, (0 + 0), none⟩)) rfl rfl (by kernel_rfl) (fun w => by kernel_rfl) ?_
        obtain ⟨y10, hy11, H⟩ := lt_some H
        refine ls_load (a0 := ⟨g9, (0 + 0), none⟩) (v := .int .i64 (((l0).getD (x6_2).toNat ((0 : Int), (0 : Int))).1)) (de := (TypeDesc.int .i64)) rfl rfl (by kernel_rfl) rfl (by kernel_rfl) (by kernel_rfl) (by kernel_rfl) (fun w hs => (hs.var (k := 2) (by exact rfl) (Sub4.trans (Sub4.all _) (Sub4.head _ _)))) ?_
        refine ls_ren 48 (v := .int .i64 (((l0).getD (x6_2).toNat ((0 : Int), (0 : Int))).1)) (v' := .int .i64 y10) (by kernel_rfl) (by rw [hy11]) ?_
        refine ls_val (v := .pointer (some ⟨g1, (0 + 0), none⟩)) rfl rfl (by kernel_rfl) (fun w => by kernel_rfl) ?_
        refine ls_load (a0 := ⟨g1, (0 + 0), none⟩) (v := .int .i64 a1.1) (de := (TypeDesc.int .i64)) rfl rfl (by kernel_rfl) rfl (by kernel_rfl) (by kernel_rfl) (by kernel_rfl) (fun w hs => (hs.var (k := 0) (by exact rfl) (Sub4.trans (Sub4.all _) (Sub4.head _ _)))) ?_
        refine ls_val (v := .agg ⟨([Value.int .i64 y10] ++ [Value.int .i64 a1.1])⟩) rfl rfl (by kernel_rfl) (fun w => by kernel_rfl) ?_
        refine ls_val (v := .pointer (some ⟨g1, (0 + 1), none⟩)) rfl rfl (by kernel_rfl) (fun w => by kernel_rfl) ?_
        refine ls_load (a0 := ⟨g1, (0 + 1), none⟩) (v := .int .i64 a1.2) (de := (TypeDesc.int .i64)) rfl rfl (by kernel_rfl) rfl (by kernel_rfl) (by kernel_rfl) (by kernel_rfl) (fun w hs => (hs.var (k := 0) (by exact rfl) (Sub4.trans (Sub4.all _) (Sub4.skip (n := 1) (len1 _) (Sub4.all _))))) ?_
        refine ls_val (v := .pointer (some ⟨g9, (0 + 1), none⟩)) rfl rfl (by kernel_rfl) (fun w => by kernel_rfl) ?_
        obtain ⟨y12, hy13, H⟩ := lt_some H
        refine ls_load (a0 := ⟨g9, (0 + 1), none⟩) (v := .int .i64 (((l0).getD (x6_2).toNat ((0 : Int), (0 : Int))).2)) (de := (TypeDesc.int .i64)) rfl rfl (by kernel_rfl) rfl (by kernel_rfl) (by kernel_rfl) (by kernel_rfl) (fun w hs => (hs.var (k := 2) (by exact rfl) (Sub4.trans (Sub4.all _) (Sub4.skip (n := 1) (len1 _) (Sub4.all _))))) ?_
        refine ls_ren 55 (v := .int .i64 (((l0).getD (x6_2).toNat ((0 : Int), (0 : Int))).2)) (v' := .int .i64 y12) (by kernel_rfl) (by rw [hy13]) ?_
        refine ls_val (v := .agg ⟨([Value.int .i64 a1.2] ++ [Value.int .i64 y12])⟩) rfl rfl (by kernel_rfl) (fun w => by kernel_rfl) ?_
        refine ls_val (v := .agg ⟨em T24 (⟨[(y10, a1.1), (a1.2, y12)], rfl⟩ : (Vc (Int × Int) 2)).1⟩) rfl rfl (by kernel_rfl) (fun w => by kernel_rfl) ?_
        refine ls_val (v := .int .i64 (0 : Int)) rfl rfl (by kernel_rfl) (fun w => by kernel_rfl) ?_
        refine ls_end ?_
        refine qn_then ?_
        refine cs_block ?_
        refine cs_sub (sput (sput (sput s0 0 (some (Ck.var 24 g1 (([Value.int .i64 a1.1] ++ [Value.int .i64 a1.2]))))) 1 (some (Ck.sl T24 A7_2 c7_2 l7_2))) 2 (some (Ck.var 24 g9 (([Value.int .i64 (((l0).getD (x6_2).toNat ((0 : Int), (0 : Int))).1)] ++ [Value.int .i64 (((l0).getD (x6_2).toNat ((0 : Int), (0 : Int))).2)]))))) (sub_put (by exact rfl) (sub_put (by exact rfl) (sub_put (by exact rfl) (sub_nil _)))) ?_
        refine cs_loop (fun kk f S => ∃ (fR : Fr) (A7_4 : Option Addr) (c7_4 : Nat) (l7_4 : List (Int × Int)) (x58_4 : Int), f = upd (upd (upd (upd (upd (upd (upd (upd (upd (upd (upd (upd fR 0 (.slice A0 l0.length c0)) 3 (.pointer (some ⟨g1, 0, none⟩))) 5 (.int .i64 t2)) 6 (.int .i64 x6_2)) 7 (.slice A7_4 l7_4.length c7_4)) 8 (.pointer (some ⟨g9, 0, none⟩))) 33 (.int .i64 x33_3)) 36 (.int .i64 x36_3)) 38 (.int .i64 x38_3)) 39 (.bool x39_3)) 57 (.agg ⟨em T24 (⟨[(y10, a1.1), (a1.2, y12)], rfl⟩ : (Vc (Int × Int) 2)).1⟩)) 58 (.int .i64 x58_4) ∧ S = sput (sput (sput s0 0 (some (Ck.var 24 g1 (([Value.int .i64 a1.1] ++ [Value.int .i64 a1.2]))))) 1 (some (Ck.sl T24 A7_4 c7_4 l7_4))) 2 (some (Ck.var 24 g9 (([Value.int .i64 (((l0).getD (x6_2).toNat ((0 : Int), (0 : Int))).1)] ++ [Value.int .i64 (((l0).getD (x6_2).toNat ((0 : Int), (0 : Int))).2)])))) ∧ extent_Remove.lo4 l0 a1 x6_2 y10 y12 (extent_Remove.lo2 l0 a1 t2 k2) kk l7_4 x58_4 = some r) k2 ?_ ?_ ?_
        · exact ⟨_, A7_2, c7_2, l7_2, (0 : Int), fr_next (fr_next (fr_next (fr_next (fr_next (fr_next (fr_next (fr_next (fr_next (fr_next (fr_next (fr_next (rfl) (by kernel_rfl)) (by kernel_rfl)) (by kernel_rfl)) (by kernel_rfl)) (by kernel_rfl)) (by kernel_rfl)) (by kernel_rfl)) (by kernel_rfl)) (by kernel_rfl)) (by kernel_rfl)) (by kernel_rfl)) (by kernel_rfl), rfl, H⟩
        · rintro f S ⟨fr4, A7_4, c7_4, l7_4, x58_4, rfl, rfl, H⟩; cases H
        · rintro k4 f S ⟨fr4, A7_4, c7_4, l7_4, x58_4, rfl, rfl, H⟩
          replace H : ((if x58_4 < (2 : Int) then (if 0 ≤ x58_4 then (extent_Span_right.f k4 ((⟨[(y10, a1.1), (a1.2, y12)], rfl⟩ : (Vc (Int × Int) 2)).1.getD (x58_4).toNat ((0 : Int), (0 : Int)))).bind fun t17 => (if t17 = true then lt (((⟨[(y10, a1.1), (a1.2, y12)], rfl⟩ : (Vc (Int × Int) 2)).1.getD (x58_4).toNat ((0 : Int), (0 : Int))).1) fun y21 => lt (((l0).getD (x6_2).toNat ((0 : Int), (0 : Int))).1) fun y23 => (if y21 ≥ y23 then (if (l7_4.length + ([((⟨[(y10, a1.1), (a1.2, y12)], rfl⟩ : (Vc (Int × Int) 2)).1.getD (x58_4).toNat ((0 : Int), (0 : Int)))]).length) * 16 ≤ 140737488355328 then (extent_Remove.lo4 l0 a1 x6_2 y10 y12 (extent_Remove.lo2 l0 a1 t2 k2) k4) (l7_4 ++ [((⟨[(y10, a1.1), (a1.2, y12)], rfl⟩ : (Vc (Int × Int) 2)).1.getD (x58_4).toNat ((0 : Int), (0 : Int)))]) (IntKind.wrap .i64 (x58_4 + (1 : Int))) else none) else (extent_Remove.lo4 l0 a1 x6_2 y10 y12 (extent_Remove.lo2 l0 a1 t2 k2) k4) l7_4 (IntKind.wrap .i64 (x58_4 + (1 : Int)))) else (extent_Remove.lo4 l0 a1 x6_2 y10 y12 (extent_Remove.lo2 l0 a1 t2 k2) k4) l7_4 (IntKind.wrap .i64 (x58_4 + (1 : Int)))) else none) else (extent_Remove.lo2 l0 a1 t2 k2) (IntKind.wrap .i64 (x6_2 + (1 : Int))) l7_4)) = some r := H
          refine cs_seq ?_
          refine cs_region (l := [_]) ?_
          refine ls_val (v := .bool (decide (x58_4 < (2 : Int)))) rfl rfl (by kernel_rfl) (fun w => by kernel_rfl) ?_
          refine ls_end ?_
          refine qn_then ?_
          refine cs_seq ?_
          by_cases q14 : x58_4 < (2 : Int)
          · replace H := ite_t q14 H
            refine cs_know (c := true) (dec_t q14) 59 (by kernel_rfl) ?_
            refine cs_true (by kernel_rfl) ?_
            refine cs_skip' ?_
            refine qn_then ?_
            refine cs_seq ?_
            refine cs_block ?_
            refine cs_seq ?_
            refine cs_region (l := [_, _, _]) ?_
            obtain ⟨q15, H⟩ := ite_need H
            refine ls_indexm (z := 0) T24 (v := (⟨[(y10, a1.1), (a1.2, y12)], rfl⟩ : (Vc (Int × Int) 2))) (i := x58_4) (kk := .i64) (ln := 2) rfl rfl (by kernel_rfl) rfl (by kernel_rfl) (by kernel_rfl) (by kernel_rfl) (by kernel_rfl) (by kernel_rfl) q15 q14 ?_
            refine ls_new rfl rfl (by kernel_rfl) 3 (fun g => .pointer (some ⟨g, 0, none⟩)) (.cells ⟨([Value.int .i64 (0 : Int)] ++ [Value.int .i64 (0 : Int)])⟩ 24) (fun w => by kernel_rfl) ?_
            intro g16
            refine ls_storec (g := g16) (off := 0) (v := .agg ⟨([Value.int .i64 (((⟨[(y10, a1.1), (a1.2, y12)], rfl⟩ : (Vc (Int × Int) 2)).1.getD (x58_4).toNat ((0 : Int), (0 : Int))).1)] ++ [Value.int .i64 (((⟨[(y10, a1.1), (a1.2, y12)], rfl⟩ : (Vc (Int × Int) 2)).1.getD (x58_4).toNat ((0 : Int), (0 : Int))).2)])⟩) (vs := ([Value.int .i64 (((⟨[(y10, a1.1), (a1.2, y12)], rfl⟩ : (Vc (Int × Int) 2)).1.getD (x58_4).toNat ((0 : Int), (0 : Int))).1)] ++ [Value.int .i64 (((⟨[(y10, a1.1), (a1.2, y12)], rfl⟩ : (Vc (Int × Int) 2)).1.getD (x58_4).toNat ((0 : Int), (0 : Int))).2)])) (cs := ([Value.int .i64 (0 : Int)] ++ [Value.int .i64 (0 : Int)])) (ty := 24) 3 rfl rfl rfl (by kernel_rfl) (by kernel_rfl) (by kernel_rfl) (by exact rfl) (by kernel_rfl) (len_app (len1 _) (len1 _)) (one_app (one_cons rfl one_nil) (one_cons rfl one_nil)) (hl_of (Sub4.all _) (len_eq (len_app (len1 _) (len1 _)) (len_app (len1 _) (len1 _)))) (cs' := ([Value.int .i64 (((⟨[(y10, a1.1), (a1.2, y12)], rfl⟩ : (Vc (Int × Int) 2)).1.getD (x58_4).toNat ((0 : Int), (0 : Int))).1)] ++ [Value.int .i64 (((⟨[(y10, a1.1), (a1.2, y12)], rfl⟩ : (Vc (Int × Int) 2)).1.getD (x58_4).toNat ((0 : Int), (0 : Int))).2)])) (splc_all (len_eq (len_app (len1 _) (len1 _)) (len_app (len1 _) (len1 _)))) ?_
            refine ls_end ?_
            refine qn_then ?_
            refine cs_seq ?_
            refine cs_region (l := [_, _, _, _, _, _, _, _, _]) ?_
            refine ls_loadagg (a := ⟨g16, 0, none⟩) (sub := ([Value.int .i64 (((⟨[(y10, a1.1), (a1.2, y12)], rfl⟩ : (Vc (Int × Int) 2)).1.getD (x58_4).toNat ((0 : Int), (0 : Int))).1)] ++ [Value.int .i64 (((⟨[(y10, a1.1), (a1.2, y12)], rfl⟩ : (Vc (Int × Int) 2)).1.getD (x58_4).toNat ((0 : Int), (0 : Int))).2)])) rfl rfl (by kernel_rfl) rfl (by kernel_rfl) (by kernel_rfl) (by kernel_rfl) (len_app (len1 _) (len1 _)) (fun w hs => (hs.vars (k := 3) (by exact rfl) (Sub4.all _))) ?_
            obtain ⟨t17, hc18, H⟩ := bind_some H
            refine ls_callb (fid := 41) (vals := #[.agg ⟨([Value.int .i64 (((⟨[(y10, a1.1), (a1.2, y12)], rfl⟩ : (Vc (Int × Int) 2)).1.getD (x58_4).toNat ((0 : Int), (0 : Int))).1)] ++ [Value.int .i64 (((⟨[(y10, a1.1), (a1.2, y12)], rfl⟩ : (Vc (Int × Int) 2)).1.getD (x58_4).toNat ((0 : Int), (0 : Int))).2)])⟩]) (X := Unit) (fun x => .bool t17) (fun x => stl []) [] [] [] [] 4 rfl rfl (by kernel_rfl) (fun w => by kernel_rfl) trivial trivial (by decide) (fun w hs hb => extent_Span_right.calls k4 ((⟨[(y10, a1.1), (a1.2, y12)], rfl⟩ : (Vc (Int × Int) 2)).1.getD (x58_4).toNat ((0 : Int), (0 : Int))) t17 (lent b w [] []) hb  hc18) ?_
            intro x19
            refine ls_val (v := .bool t17) rfl rfl (by kernel_rfl) (fun w => by kernel_rfl) ?_
            by_cases q20 : t17 = true
            · replace H := ite_t q20 H
              refine ls_know (c := true) (q20) 63 (by kernel_rfl) ?_
              refine ls_on (j := 2) (t := 63) (b := true) rfl rfl (by kernel_rfl) (by kernel_rfl) ?_
              refine ls_val (v := .pointer (some ⟨g16, (0 + 0), none⟩)) rfl rfl (by kernel_rfl) (fun w => by kernel_rfl) ?_
              refine ls_on (j := 2) (t := 63) (b := true) rfl rfl (by kernel_rfl) (by kernel_rfl) ?_
              obtain ⟨y21, hy22, H⟩ := lt_some H
              refine ls_load (a0 := ⟨g16, (0 + 0), none⟩) (v := .int .i64 (((⟨[(y10, a1.1), (a1.2, y12)], rfl⟩ : (Vc (Int × Int) 2)).1.getD (x58_4).toNat ((0 : Int), (0 : Int))).1)) (de := (TypeDesc.int .i64)) rfl rfl (by kernel_rfl) rfl (by kernel_rfl) (by kernel_rfl) (by kernel_rfl) (fun w hs => (hs.var (k := 3) (by exact rfl) (Sub4.trans (Sub4.all _) (Sub4.head _ _)))) ?_
              refine ls_ren 65 (v := .int .i64 (((⟨[(y10, a1.1), (a1.2, y12)], rfl⟩ : (Vc (Int × Int) 2)).1.getD (x58_4).toNat ((0 : Int), (0 : Int))).1)) (v' := .int .i64 y21) (by kernel_rfl) (by rw [hy22]) ?_
              refine ls_on (j := 2) (t := 63) (b := true) rfl rfl (by kernel_rfl) (by kernel_rfl) ?_
              refine ls_val (v := .pointer (some ⟨g9, (0 + 0), none⟩)) rfl rfl (by kernel_rfl) (fun w => by kernel_rfl) ?_
              refine ls_on (j := 2) (t := 63) (b := true) rfl rfl (by kernel_rfl) (by kernel_rfl) ?_
              obtain ⟨y23, hy24, H⟩ := lt_some H
              refine ls_load (a0 := ⟨g9, (0 + 0), none⟩) (v := .int .i64 (((l0).getD (x6_2).toNat ((0 : Int), (0 : Int))).1)) (de := (TypeDesc.int .i64)) rfl rfl (by kernel_rfl) rfl (by kernel_rfl) (by kernel_rfl) (by kernel_rfl) (fun w hs => (hs.var (k := 2) (by exact rfl) (Sub4.trans (Sub4.all _) (Sub4.head _ _)))) ?_
              refine ls_ren 67 (v := .int .i64 (((l0).getD (x6_2).toNat ((0 : Int), (0 : Int))).1)) (v' := .int .i64 y23) (by kernel_rfl) (by rw [hy24]) ?_
              refine ls_on (j := 2) (t := 63) (b := true) rfl rfl (by kernel_rfl) (by kernel_rfl) ?_
              refine ls_val (v := .bool (decide (y21 ≥ y23))) rfl rfl (by kernel_rfl) (fun w => by kernel_rfl) ?_
              refine ls_val (v := .bool (decide (y21 ≥ y23))) rfl rfl (by kernel_rfl) (fun w => by kernel_rfl) ?_
              refine ls_end ?_
              refine qn_then ?_
              by_cases q25 : y21 ≥ y23
              · replace H := ite_t q25 H
                refine cs_know (c := true) (dec_t q25) 69 (by kernel_rfl) ?_
                refine cs_true (by kernel_rfl) ?_
                refine cs_region (l := [_, _, _, _, _]) ?_
                refine ls_val (v := .slice A7_4 l7_4.length c7_4) rfl rfl (by kernel_rfl) (fun w => by kernel_rfl) ?_
                refine ls_loadagg (a := ⟨g16, 0, none⟩) (sub := ([Value.int .i64 (((⟨[(y10, a1.1), (a1.2, y12)], rfl⟩ : (Vc (Int × Int) 2)).1.getD (x58_4).toNat ((0 : Int), (0 : Int))).1)] ++ [Value.int .i64 (((⟨[(y10, a1.1), (a1.2, y12)], rfl⟩ : (Vc (Int × Int) 2)).1.getD (x58_4).toNat ((0 : Int), (0 : Int))).2)])) rfl rfl (by kernel_rfl) rfl (by kernel_rfl) (by kernel_rfl) (by kernel_rfl) (len_app (len1 _) (len1 _)) (fun w hs => (hs.vars (k := 3) (by exact rfl) (Sub4.all _))) ?_
                refine ls_lit T24 4 rfl rfl (by kernel_rfl) ([((⟨[(y10, a1.1), (a1.2, y12)], rfl⟩ : (Vc (Int × Int) 2)).1.getD (x58_4).toNat ((0 : Int), (0 : Int)))]) (by exact of_decide_eq_true (by kernel_rfl)) (fun w => by kernel_rfl) ?_
                intro g26
                obtain ⟨q27, H⟩ := ite_need H
                refine ls_app T24 (A := A7_4) (c := c7_4) (B := (some ⟨g26, 0, none⟩)) (cb := [((⟨[(y10, a1.1), (a1.2, y12)], rfl⟩ : (Vc (Int × Int) 2)).1.getD (x58_4).toNat ((0 : Int), (0 : Int)))].length) (z := (.agg ⟨([Value.int .i64 (0 : Int)] ++ [Value.int .i64 (0 : Int)])⟩)) (l := l7_4) (m := [((⟨[(y10, a1.1), (a1.2, y12)], rfl⟩ : (Vc (Int × Int) 2)).1.getD (x58_4).toNat ((0 : Int), (0 : Int)))]) (bytes := 16) 1 rfl rfl (by kernel_rfl) rfl (by kernel_rfl) (by exact rfl) (by kernel_rfl) (fun w hs => (hs.rd (k := 4) (by exact rfl))) (by kernel_rfl) (by kernel_rfl) rfl (by decide) q27 ?_
                intro xA28 xc29
                refine ls_val (v := .slice xA28 (l7_4 ++ [((⟨[(y10, a1.1), (a1.2, y12)], rfl⟩ : (Vc (Int × Int) 2)).1.getD (x58_4).toNat ((0 : Int), (0 : Int)))]).length xc29) rfl rfl (by kernel_rfl) (fun w => by kernel_rfl) ?_
                refine ls_end ?_
                refine qn_block ?_
                refine qn_then ?_
                refine cs_region (l := [_, _]) ?_
                refine ls_val (v := .int .i64 (IntKind.wrap .i64 (x58_4 + (1 : Int)))) rfl rfl (by kernel_rfl) (fun w => by kernel_rfl) ?_
                refine ls_val (v := .int .i64 (IntKind.wrap .i64 (x58_4 + (1 : Int)))) rfl rfl (by kernel_rfl) (fun w => by kernel_rfl) ?_
                refine ls_end ?_
                refine qn_again k4 (sput (sput (sput s0 0 (some (Ck.var 24 g1 (([Value.int .i64 a1.1] ++ [Value.int .i64 a1.2]))))) 1 (some (Ck.sl T24 xA28 xc29 (l7_4 ++ [((⟨[(y10, a1.1), (a1.2, y12)], rfl⟩ : (Vc (Int × Int) 2)).1.getD (x58_4).toNat ((0 : Int), (0 : Int)))])))) 2 (some (Ck.var 24 g9 (([Value.int .i64 (((l0).getD (x6_2).toNat ((0 : Int), (0 : Int))).1)] ++ [Value.int .i64 (((l0).getD (x6_2).toNat ((0 : Int), (0 : Int))).2)]))))) (Nat.le_refl _) ⟨_, xA28, xc29, (l7_4 ++ [((⟨[(y10, a1.1), (a1.2, y12)], rfl⟩ : (Vc (Int × Int) 2)).1.getD (x58_4).toNat ((0 : Int), (0 : Int)))]), (IntKind.wrap .i64 (x58_4 + (1 : Int))), fr_next (fr_next (fr_next (fr_next (fr_next (fr_next (fr_next (fr_next (fr_next (fr_next (fr_next (fr_next (rfl) (by kernel_rfl)) (by kernel_rfl)) (by kernel_rfl)) (by kernel_rfl)) (by kernel_rfl)) (by kernel_rfl)) (by kernel_rfl)) (by kernel_rfl)) (by kernel_rfl)) (by kernel_rfl)) (by kernel_rfl)) (by kernel_rfl), rfl, H⟩ (sub_put (by exact rfl) (sub_put (by exact rfl) (sub_put (by exact rfl) (sub_nil _))))
              · replace H := ite_f q25 H
                refine cs_know (c := false) (dec_f q25) 69 (by kernel_rfl) ?_
                refine cs_false (by kernel_rfl) ?_
                refine cs_skip' ?_
                refine qn_block ?_
                refine qn_then ?_
                refine cs_region (l := [_, _]) ?_
                refine ls_val (v := .int .i64 (IntKind.wrap .i64 (x58_4 + (1 : Int)))) rfl rfl (by kernel_rfl) (fun w => by kernel_rfl) ?_
                refine ls_val (v := .int .i64 (IntKind.wrap .i64 (x58_4 + (1 : Int)))) rfl rfl (by kernel_rfl) (fun w => by kernel_rfl) ?_
                refine ls_end ?_
                refine qn_again k4 (sput (sput (sput s0 0 (some (Ck.var 24 g1 (([Value.int .i64 a1.1] ++ [Value.int .i64 a1.2]))))) 1 (some (Ck.sl T24 A7_4 c7_4 l7_4))) 2 (some (Ck.var 24 g9 (([Value.int .i64 (((l0).getD (x6_2).toNat ((0 : Int), (0 : Int))).1)] ++ [Value.int .i64 (((l0).getD (x6_2).toNat ((0 : Int), (0 : Int))).2)]))))) (Nat.le_refl _) ⟨_, A7_4, c7_4, l7_4, (IntKind.wrap .i64 (x58_4 + (1 : Int))), fr_next (fr_next (fr_next (fr_next (fr_next (fr_next (fr_next (fr_next (fr_next (fr_next (fr_next (fr_next (rfl) (by kernel_rfl)) (by kernel_rfl)) (by kernel_rfl)) (by kernel_rfl)) (by kernel_rfl)) (by kernel_rfl)) (by kernel_rfl)) (by kernel_rfl)) (by kernel_rfl)) (by kernel_rfl)) (by kernel_rfl)) (by kernel_rfl), rfl, H⟩ (sub_put (by exact rfl) (sub_put (by exact rfl) (sub_put (by exact rfl) (sub_nil _))))
            · replace H := ite_f q20 H
              refine ls_know (c := false) (Bool.eq_false_iff.mpr q20) 63 (by kernel_rfl) ?_
              refine ls_off (j := 2) (t := 63) (b := true) (c := false) rfl rfl (by kernel_rfl) (by kernel_rfl) rfl rfl (by kernel_rfl) ?_
              refine ls_off (j := 2) (t := 63) (b := true) (c := false) rfl rfl (by kernel_rfl) (by kernel_rfl) rfl rfl (by kernel_rfl) ?_
              refine ls_off (j := 2) (t := 63) (b := true) (c := false) rfl rfl (by kernel_rfl) (by kernel_rfl) rfl rfl (by kernel_rfl) ?_
              refine ls_off (j := 2) (t := 63) (b := true) (c := false) rfl rfl (by kernel_rfl) (by kernel_rfl) rfl rfl (by kernel_rfl) ?_
              refine ls_off (j := 2) (t := 63) (b := true) (c := false) rfl rfl (by kernel_rfl) (by kernel_rfl) rfl rfl (by kernel_rfl) ?_
              refine ls_val (v := .bool false) rfl rfl (by kernel_rfl) (fun w => by kernel_rfl) ?_
              refine ls_end ?_
              refine qn_then ?_
              refine cs_false (by kernel_rfl) ?_
              refine cs_skip' ?_
              refine qn_block ?_
              refine qn_then ?_
              refine cs_region (l := [_, _]) ?_
              refine ls_val (v := .int .i64 (IntKind.wrap .i64 (x58_4 + (1 : Int)))) rfl rfl (by kernel_rfl) (fun w => by kernel_rfl) ?_
              refine ls_val (v := .int .i64 (IntKind.wrap .i64 (x58_4 + (1 : Int)))) rfl rfl (by kernel_rfl) (fun w => by kernel_rfl) ?_
              refine ls_end ?_
              refine qn_again k4 (sput (sput (sput s0 0 (some (Ck.var 24 g1 (([Value.int .i64 a1.1] ++ [Value.int .i64 a1.2]))))) 1 (some (Ck.sl T24 A7_4 c7_4 l7_4))) 2 (some (Ck.var 24 g9 (([Value.int .i64 (((l0).getD (x6_2).toNat ((0 : Int), (0 : Int))).1)] ++ [Value.int .i64 (((l0).getD (x6_2).toNat ((0 : Int), (0 : Int))).2)]))))) (Nat.le_refl _) ⟨_, A7_4, c7_4, l7_4, (IntKind.wrap .i64 (x58_4 + (1 : Int))), fr_next (fr_next (fr_next (fr_next (fr_next (fr_next (fr_next (fr_next (fr_next (fr_next (fr_next (fr_next (rfl) (by kernel_rfl)) (by kernel_rfl)) (by kernel_rfl)) (by kernel_rfl)) (by kernel_rfl)) (by kernel_rfl)) (by kernel_rfl)) (by kernel_rfl)) (by kernel_rfl)) (by kernel_rfl)) (by kernel_rfl)) (by kernel_rfl), rfl, H⟩ (sub_put (by exact rfl) (sub_put (by exact rfl) (sub_put (by exact rfl) (sub_nil _))))
          · replace H := ite_f q14 H
            refine cs_know (c := false) (dec_f q14) 59 (by kernel_rfl) ?_
            refine cs_false (by kernel_rfl) ?_
            refine cs_exit' ?_
            refine qx_then ?_
            refine qx_then ?_
            refine qx_same ?_
            refine qn_block ?_
            refine qn_then ?_
            refine cs_region (l := [_, _, _]) ?_
            refine ls_val (v := .int .i64 x6_2) rfl rfl (by kernel_rfl) (fun w => by kernel_rfl) ?_
            refine ls_val (v := .int .i64 (IntKind.wrap .i64 (x6_2 + (1 : Int)))) rfl rfl (by kernel_rfl) (fun w => by kernel_rfl) ?_
            refine ls_val (v := .int .i64 (IntKind.wrap .i64 (x6_2 + (1 : Int)))) rfl rfl (by kernel_rfl) (fun w => by kernel_rfl) ?_
            refine ls_end ?_
            refine qn_again k2 (sput (sput s0 0 (some (Ck.var 24 g1 (([Value.int .i64 a1.1] ++ [Value.int .i64 a1.2]))))) 1 (some (Ck.sl T24 A7_4 c7_4 l7_4))) (Nat.le_refl _) ⟨_, (IntKind.wrap .i64 (x6_2 + (1 : Int))), A7_4, c7_4, l7_4, fr_next (fr_next (fr_next (fr_next (fr_next (rfl) (by kernel_rfl)) (by kernel_rfl)) (by kernel_rfl)) (by kernel_rfl)) (by kernel_rfl), rfl, H⟩ (sub_put (by exact rfl) (sub_put (by exact rfl) (sub_nil _)))

/-! ### shadowbox/shadowboxlaw09.own: function 16 -/
def shadowboxlaw09_own.lo1 (l0 : List (Int × Int)) : Nat → (List (Int × Int)) → Int → Option ((List (Int × Int)))
  | 0, _, _ => none
  | k1 + 1, l3_1, x4_1 => (if x4_1 < (l0.length : Int) then (if 0 ≤ x4_1 then (if (l3_1.length + ([((l0).getD (x4_1).toNat ((0 : Int), (0 : Int)))]).length) * 16 ≤ 140737488355328 then (shadowboxlaw09_own.lo1 l0 k1) (l3_1 ++ [((l0).getD (x4_1).toNat ((0 : Int), (0 : Int)))]) (IntKind.wrap .i64 (x4_1 + (1 : Int))) else none) else none) else some l3_1)
def shadowboxlaw09_own.f (k : Nat) (l0 : List (Int × Int)) : Option ((List (Int × Int))) :=
  shadowboxlaw09_own.lo1 l0 k ([] : List (Int × Int)) (0 : Int)
set_option maxRecDepth 100000 in
set_option maxHeartbeats 4000000 in
theorem shadowboxlaw09_own.calls (k : Nat) (A0 : Option Addr) (c0 : Nat) (l0 : List (Int × Int)) (r : (List (Int × Int))) (b : Bs) (hs0 : St b (stl []) b.w) (R0 : Ro b A0 (em T24 l0)) (C0 : l0.length ≤ c0) (H : shadowboxlaw09_own.f k l0 = some r) :
    Calls Try.prog 16 #[.slice A0 l0.length c0] b.w fun e w' => ∃ x : (Option Addr × Nat), e = .returned (.slice x.1 r.length x.2) ∧ St b (stl [Ck.sl T31 x.1 x.2 r]) w' := by
  unfold shadowboxlaw09_own.f at H
  refine enterb (n := 19) Try.func16 rfl (by kernel_rfl) (by kernel_rfl) hs0 ?_
  refine cs_sub (s0) (sub_nil _) ?_
  refine cs_seq ?_
  refine cs_region (l := [_]) ?_
  refine ls_val (v := .slice none 0 0) rfl rfl (by kernel_rfl) (fun w => by kernel_rfl) ?_
  refine ls_end ?_
  refine qn_then ?_
  refine cs_seq ?_
  refine cs_region (l := [_]) ?_
  refine ls_val (v := .slice none 0 0) rfl rfl (by kernel_rfl) (fun w => by kernel_rfl) ?_
  refine ls_end ?_
  refine qn_then ?_
  refine cs_seq ?_
  refine cs_seq ?_
  refine cs_region (l := [_]) ?_
  refine ls_val (v := .int .i64 (0 : Int)) rfl rfl (by kernel_rfl) (fun w => by kernel_rfl) ?_
  refine ls_end ?_
  refine qn_then ?_
  refine cs_block ?_
  refine cs_nilrow 0 T31 ?_
  refine cs_sub (sput s0 0 (some (Ck.sl T31 none 0 ([] : List (Int × Int))))) (sub_put (by exact rfl) (sub_nil _)) ?_
  refine cs_loop (fun kk f S => ∃ (fR : Fr) (A3_1 : Option Addr) (c3_1 : Nat) (l3_1 : List (Int × Int)) (x4_1 : Int), f = upd (upd (upd fR 0 (.slice A0 l0.length c0)) 3 (.slice A3_1 l3_1.length c3_1)) 4 (.int .i64 x4_1) ∧ S = sput s0 0 (some (Ck.sl T31 A3_1 c3_1 l3_1)) ∧ shadowboxlaw09_own.lo1 l0 kk l3_1 x4_1 = some r) k ?_ ?_ ?_
  · exact ⟨_, none, 0, ([] : List (Int × Int)), (0 : Int), fr_next (fr_next (fr_next (rfl) (by kernel_rfl)) (by kernel_rfl)) (by kernel_rfl), rfl, H⟩
  · rintro f S ⟨fr1, A3_1, c3_1, l3_1, x4_1, rfl, rfl, H⟩; cases H
  · rintro k1 f S ⟨fr1, A3_1, c3_1, l3_1, x4_1, rfl, rfl, H⟩
    replace H : ((if x4_1 < (l0.length : Int) then (if 0 ≤ x4_1 then (if (l3_1.length + ([((l0).getD (x4_1).toNat ((0 : Int), (0 : Int)))]).length) * 16 ≤ 140737488355328 then (shadowboxlaw09_own.lo1 l0 k1) (l3_1 ++ [((l0).getD (x4_1).toNat ((0 : Int), (0 : Int)))]) (IntKind.wrap .i64 (x4_1 + (1 : Int))) else none) else none) else some l3_1)) = some r := H
    refine cs_seq ?_
    refine cs_seq ?_
    refine cs_region (l := [_, _, _, _]) ?_
    refine ls_val (v := .int .i64 x4_1) rfl rfl (by kernel_rfl) (fun w => by kernel_rfl) ?_
    refine ls_val (v := .slice A0 l0.length c0) rfl rfl (by kernel_rfl) (fun w => by kernel_rfl) ?_
    refine ls_val (v := .int .i64 (l0.length : Int)) rfl rfl (by kernel_rfl) (fun w => by kernel_rfl) ?_
    refine ls_val (v := .bool (decide (x4_1 < (l0.length : Int)))) rfl rfl (by kernel_rfl) (fun w => by kernel_rfl) ?_
    refine ls_end ?_
    refine qn_then ?_
    by_cases q1 : x4_1 < (l0.length : Int)
    · replace H := ite_t q1 H
      refine cs_know (c := true) (dec_t q1) 8 (by kernel_rfl) ?_
      refine cs_true (by kernel_rfl) ?_
      refine cs_skip' ?_
      refine qn_then ?_
      refine cs_seq ?_
      refine cs_block ?_
      refine cs_region (l := [_, _, _, _, _, _, _, _]) ?_
      refine ls_val (v := .slice A3_1 l3_1.length c3_1) rfl rfl (by kernel_rfl) (fun w => by kernel_rfl) ?_
      refine ls_val (v := .slice A0 l0.length c0) rfl rfl (by kernel_rfl) (fun w => by kernel_rfl) ?_
      refine ls_val (v := .int .i64 x4_1) rfl rfl (by kernel_rfl) (fun w => by kernel_rfl) ?_
      obtain ⟨q2, H⟩ := ite_need H
      obtain ⟨ad3, hA4⟩ := ido_at (T := T24) (l := l0) (i := x4_1) R0 q2 q1
      refine ls_idxv T24 (A := A0) (c := c0) (l := l0) (k := .i64) (i := x4_1) (z := 2) (ad := ad3) rfl rfl (by kernel_rfl) hA4 rfl (by kernel_rfl) (by kernel_rfl) (by kernel_rfl) (by kernel_rfl) q2 q1 ?_
      refine ls_loadagg (a := (ad3.add ((x4_1).toNat * 2))) (sub := ([Value.int .i64 (((l0).getD (x4_1).toNat ((0 : Int), (0 : Int))).1)] ++ [Value.int .i64 (((l0).getD (x4_1).toNat ((0 : Int), (0 : Int))).2)])) rfl rfl (by kernel_rfl) rfl (by kernel_rfl) (by kernel_rfl) (by kernel_rfl) (len_app (len1 _) (len1 _)) (fun w hs => (hs.old R0).part hA4 (em_sub T24 l0 (i := (x4_1).toNat) (by have h0 : (0 : Int) ≤ x4_1 := q2; have h1 : x4_1 < (l0.length : Int) := q1; omega))) ?_
      refine ls_lit T31 1 rfl rfl (by kernel_rfl) ([((l0).getD (x4_1).toNat ((0 : Int), (0 : Int)))]) (by exact of_decide_eq_true (by kernel_rfl)) (fun w => by kernel_rfl) ?_
      intro g5
      obtain ⟨q6, H⟩ := ite_need H
      refine ls_app T31 (A := A3_1) (c := c3_1) (B := (some ⟨g5, 0, none⟩)) (cb := [((l0).getD (x4_1).toNat ((0 : Int), (0 : Int)))].length) (z := (.agg ⟨([Value.int .i64 (0 : Int)] ++ [Value.int .i64 (0 : Int)])⟩)) (l := l3_1) (m := [((l0).getD (x4_1).toNat ((0 : Int), (0 : Int)))]) (bytes := 16) 0 rfl rfl (by kernel_rfl) rfl (by kernel_rfl) (by exact rfl) (by kernel_rfl) (fun w hs => (hs.rd (k := 1) (by exact rfl))) (by kernel_rfl) (by kernel_rfl) rfl (by decide) q6 ?_
      intro xA7 xc8
      refine ls_val (v := .slice xA7 (l3_1 ++ [((l0).getD (x4_1).toNat ((0 : Int), (0 : Int)))]).length xc8) rfl rfl (by kernel_rfl) (fun w => by kernel_rfl) ?_
      refine ls_end ?_
      refine qn_block ?_
      refine qn_then ?_
      refine cs_region (l := [_, _, _]) ?_
      refine ls_val (v := .int .i64 x4_1) rfl rfl (by kernel_rfl) (fun w => by kernel_rfl) ?_
      refine ls_val (v := .int .i64 (IntKind.wrap .i64 (x4_1 + (1 : Int)))) rfl rfl (by kernel_rfl) (fun w => by kernel_rfl) ?_
      refine ls_val (v := .int .i64 (IntKind.wrap .i64 (x4_1 + (1 : Int)))) rfl rfl (by kernel_rfl) (fun w => by kernel_rfl) ?_
      refine ls_end ?_
      refine qn_again k1 (sput s0 0 (some (Ck.sl T31 xA7 xc8 (l3_1 ++ [((l0).getD (x4_1).toNat ((0 : Int), (0 : Int)))])))) (Nat.le_refl _) ⟨_, xA7, xc8, (l3_1 ++ [((l0).getD (x4_1).toNat ((0 : Int), (0 : Int)))]), (IntKind.wrap .i64 (x4_1 + (1 : Int))), fr_next (fr_next (fr_next (rfl) (by kernel_rfl)) (by kernel_rfl)) (by kernel_rfl), rfl, H⟩ (sub_put (by exact rfl) (sub_nil _))
    · replace H := ite_f q1 H
      refine cs_know (c := false) (dec_f q1) 8 (by kernel_rfl) ?_
      refine cs_false (by kernel_rfl) ?_
      refine cs_exit' ?_
      refine qx_then ?_
      refine qx_then ?_
      refine qx_same ?_
      refine qn_then ?_
      refine cs_seq ?_
      refine cs_region (l := [_, _]) ?_
      refine ls_val (v := .slice A3_1 l3_1.length c3_1) rfl rfl (by kernel_rfl) (fun w => by kernel_rfl) ?_
      refine ls_val (v := .slice A3_1 l3_1.length c3_1) rfl rfl (by kernel_rfl) (fun w => by kernel_rfl) ?_
      refine ls_end ?_
      refine qn_then ?_
      refine cs_ret' ?_
      obtain rfl := Option.some.inj H
      refine qr_res (rs := [_]) rfl (fun w' hs => ⟨[.slice A3_1 l3_1.length c3_1], (res_tmp (by kernel_rfl) (.nil)), (A3_1, c3_1), rfl, hs.pick (ts := [0]) (cs := [Ck.sl T31 A3_1 c3_1 l3_1]) ⟨by exact rfl, trivial⟩ (by decide)⟩)

/-! ### shadowbox/shadowboxlaw09.same: function 17 -/
def shadowboxlaw09_same.tab1 : List (List Nat) := [[], [], [0, 1], [0, 1, 2], [], [], [4, 5], [4, 5, 6], [0, 1, 2, 3, 4, 5, 6, 7]]
def shadowboxlaw09_same.lo2 (l0 : List (Int × Int)) (l1 : List (Int × Int)) : Nat → Int → Option (Bool)
  | 0, _ => none
  | k2 + 1, x5_2 => (if x5_2 < (l0.length : Int) then (if 0 ≤ x5_2 then (if x5_2 < (l1.length : Int) then (if ((((l0).getD (x5_2).toNat ((0 : Int), (0 : Int))).1 == ((l1).getD (x5_2).toNat ((0 : Int), (0 : Int))).1) && (((l0).getD (x5_2).toNat ((0 : Int), (0 : Int))).2 == ((l1).getD (x5_2).toNat ((0 : Int), (0 : Int))).2)) = true then (shadowboxlaw09_same.lo2 l0 l1 k2) (IntKind.wrap .i64 (x5_2 + (1 : Int))) else some false) else none) else none) else some true)
def shadowboxlaw09_same.jo1 (k : Nat) (l0 : List (Int × Int)) (l1 : List (Int × Int)) : Option (Bool) := shadowboxlaw09_same.lo2 l0 l1 k (0 : Int)
def shadowboxlaw09_same.f (k : Nat) (l0 : List (Int × Int)) (l1 : List (Int × Int)) : Option (Bool) :=
  (if (l0.length : Int) = (l1.length : Int) then (shadowboxlaw09_same.jo1 k l0 l1) else some false)
set_option maxRecDepth 100000 in
set_option maxHeartbeats 4000000 in
theorem shadowboxlaw09_same.calls (k : Nat) (A0 : Option Addr) (c0 : Nat) (l0 : List (Int × Int)) (A1 : Option Addr) (c1 : Nat) (l1 : List (Int × Int)) (r : Bool) (b : Bs) (hs0 : St b (stl []) b.w) (R0 : Ro b A0 (em T24 l0)) (C0 : l0.length ≤ c0) (R1 : Ro b A1 (em T31 l1)) (C1 : l1.length ≤ c1) (H : shadowboxlaw09_same.f k l0 l1 = some r) :
    Calls Try.prog 17 #[.slice A0 l0.length c0, .slice A1 l1.length c1] b.w fun e w' => ∃ x : Unit, e = .returned (.bool r) ∧ St b (stl []) w' := by
  unfold shadowboxlaw09_same.f at H
  refine enterb (n := 26) Try.func17 rfl (by kernel_rfl) (by kernel_rfl) hs0 ?_
  refine cs_sub (s0) (sub_nil _) ?_
  refine cs_seq ?_
  refine cs_region (l := [_]) ?_
  refine ls_val (v := .bool false) rfl rfl (by kernel_rfl) (fun w => by kernel_rfl) ?_
  refine ls_end ?_
  refine qn_then ?_
  refine cs_cut (fun f S => ∃ (fR : Fr), f = upd (upd fR 0 (.slice A0 l0.length c0)) 1 (.slice A1 l1.length c1) ∧ S = s0 ∧ shadowboxlaw09_same.jo1 k l0 l1 = some r) ?_ ?_
  · skip
    refine cs_seq ?_
    refine cs_region (l := [_, _, _, _, _]) ?_
    refine ls_val (v := .slice A0 l0.length c0) rfl rfl (by kernel_rfl) (fun w => by kernel_rfl) ?_
    refine ls_val (v := .int .i64 (l0.length : Int)) rfl rfl (by kernel_rfl) (fun w => by kernel_rfl) ?_
    refine ls_val (v := .slice A1 l1.length c1) rfl rfl (by kernel_rfl) (fun w => by kernel_rfl) ?_
    refine ls_val (v := .int .i64 (l1.length : Int)) rfl rfl (by kernel_rfl) (fun w => by kernel_rfl) ?_
    refine ls_val (v := .bool (!decide ((l0.length : Int) = (l1.length : Int)))) rfl rfl (by kernel_rfl) (fun w => by kernel_rfl) ?_
    refine ls_end ?_
    refine qn_then ?_
    by_cases q11 : (l0.length : Int) = (l1.length : Int)
    · replace H := ite_t q11 H
      refine cs_know (c := false) (congrArg Bool.not (dec_t q11)) 10 (by kernel_rfl) ?_
      refine cs_false (by kernel_rfl) ?_
      refine cs_skip' ?_
      refine qn_meet (s0) ⟨_, fr_next (fr_next (rfl) (by kernel_rfl)) (by kernel_rfl), rfl, H⟩ (sub_nil _)
    · replace H := ite_f q11 H
      refine cs_know (c := true) (congrArg Bool.not (dec_f q11)) 10 (by kernel_rfl) ?_
      refine cs_true (by kernel_rfl) ?_
      refine cs_seq ?_
      refine cs_region (l := [_]) ?_
      refine ls_val (v := .bool false) rfl rfl (by kernel_rfl) (fun w => by kernel_rfl) ?_
      refine ls_end ?_
      refine qn_then ?_
      refine cs_ret' ?_
      refine qr_then ?_
      obtain rfl := Option.some.inj H
      refine qr_res (rs := [_]) rfl (fun w' hs => ⟨[.bool false], (res_tmp (by kernel_rfl) (.nil)), (), rfl, hs.pick (ts := []) (cs := []) trivial (by decide)⟩)
  · rintro f S ⟨fr1, rfl, rfl, H⟩
    replace H : (shadowboxlaw09_same.lo2 l0 l1 k (0 : Int)) = some r := H
    refine cs_seq ?_
    refine cs_seq ?_
    refine cs_region (l := [_]) ?_
    refine ls_val (v := .int .i64 (0 : Int)) rfl rfl (by kernel_rfl) (fun w => by kernel_rfl) ?_
    refine ls_end ?_
    refine qn_then ?_
    refine cs_block ?_
    refine cs_sub (s0) (sub_nil _) ?_
    refine cs_loop (fun kk f S => ∃ (fR : Fr) (x5_2 : Int), f = upd (upd (upd fR 0 (.slice A0 l0.length c0)) 1 (.slice A1 l1.length c1)) 5 (.int .i64 x5_2) ∧ S = s0 ∧ shadowboxlaw09_same.lo2 l0 l1 kk x5_2 = some r) k ?_ ?_ ?_
    · exact ⟨_, (0 : Int), fr_next (fr_next (fr_next (rfl) (by kernel_rfl)) (by kernel_rfl)) (by kernel_rfl), rfl, H⟩
    · rintro f S ⟨fr2, x5_2, rfl, rfl, H⟩; cases H
    · rintro k2 f S ⟨fr2, x5_2, rfl, rfl, H⟩
      replace H : ((if x5_2 < (l0.length : Int) then (if 0 ≤ x5_2 then (if x5_2 < (l1.length : Int) then (if ((((l0).getD (x5_2).toNat ((0 : Int), (0 : Int))).1 == ((l1).getD (x5_2).toNat ((0 : Int), (0 : Int))).1) && (((l0).getD (x5_2).toNat ((0 : Int), (0 : Int))).2 == ((l1).getD (x5_2).toNat ((0 : Int), (0 : Int))).2)) = true then (shadowboxlaw09_same.lo2 l0 l1 k2) (IntKind.wrap .i64 (x5_2 + (1 : Int))) else some false) else none) else none) else some true)) = some r := H
      refine cs_seq ?_
      refine cs_seq ?_
      refine cs_region (l := [_, _, _, _]) ?_
      refine ls_val (v := .int .i64 x5_2) rfl rfl (by kernel_rfl) (fun w => by kernel_rfl) ?_
      refine ls_val (v := .slice A0 l0.length c0) rfl rfl (by kernel_rfl) (fun w => by kernel_rfl) ?_
      refine ls_val (v := .int .i64 (l0.length : Int)) rfl rfl (by kernel_rfl) (fun w => by kernel_rfl) ?_
      refine ls_val (v := .bool (decide (x5_2 < (l0.length : Int)))) rfl rfl (by kernel_rfl) (fun w => by kernel_rfl) ?_
      refine ls_end ?_
      refine qn_then ?_
      by_cases q1 : x5_2 < (l0.length : Int)
      · replace H := ite_t q1 H
        refine cs_know (c := true) (dec_t q1) 14 (by kernel_rfl) ?_
        refine cs_true (by kernel_rfl) ?_
        refine cs_skip' ?_
        refine qn_then ?_
        refine cs_seq ?_
        refine cs_block ?_
        refine cs_seq ?_
        obtain ⟨s3_0, hs3_0⟩ : ∃ z : Value → Sto → Prop, z = (fun v R => v = .slice A0 l0.length c0 ∧ R = s0) := ⟨_, rfl⟩
        refine have_op (l := [_, _, _, _, _, _, _, _, _]) shadowboxlaw09_same.tab1 0 0 (fun sp => sp 0 = s3_0) (fun sp on hA hon => ?_) (fun ops3_0 => ?_)
        · refine ⟨fun o ho vs Rs f' S' w hp hf hx hS hR hs => ?_⟩
          obtain rfl := Option.some.inj ho
          rw [hA, hs3_0]
          refine And.intro (fun a ha => (want_none rfl a ha).trans hon.symm) (And.intro (fun _ => ?_) (fun h => by rw [hon] at h; cases h))
          have hF := fr_next (rfl) ((hx 0 (by kernel_rfl)).trans (by kernel_rfl : (_ : Value) = .slice A0 l0.length c0))
          refine ls_fr hF ?_
          refine ls_val (v := .slice A0 l0.length c0) rfl rfl (by kernel_rfl) (fun w => by kernel_rfl) ?_
          exact ls_fin s0 (.slice A0 l0.length c0) (congrArg (fun z => upd z 17 _) hF.symm) ⟨rfl, rfl⟩ (sub_nil _)
        obtain ⟨s3_1, hs3_1⟩ : ∃ z : Value → Sto → Prop, z = (fun v R => v = .int .i64 x5_2 ∧ R = s0) := ⟨_, rfl⟩
        refine have_op (l := [_, _, _, _, _, _, _, _, _]) shadowboxlaw09_same.tab1 0 1 (fun sp => sp 1 = s3_1) (fun sp on hA hon => ?_) (fun ops3_1 => ?_)
        · refine ⟨fun o ho vs Rs f' S' w hp hf hx hS hR hs => ?_⟩
          obtain rfl := Option.some.inj ho
          rw [hA, hs3_1]
          refine And.intro (fun a ha => (want_none rfl a ha).trans hon.symm) (And.intro (fun _ => ?_) (fun h => by rw [hon] at h; cases h))
          have hF := fr_next (rfl) ((hx 5 (by kernel_rfl)).trans (by kernel_rfl : (_ : Value) = .int .i64 x5_2))
          refine ls_fr hF ?_
          refine ls_val (v := .int .i64 x5_2) rfl rfl (by kernel_rfl) (fun w => by kernel_rfl) ?_
          exact ls_fin s0 (.int .i64 x5_2) (congrArg (fun z => upd z 18 _) hF.symm) ⟨rfl, rfl⟩ (sub_nil _)
        obtain ⟨q4, H⟩ := ite_need H
        obtain ⟨ad5, hA6⟩ := ido_at (T := T24) (l := l0) (i := x5_2) R0 q4 q1
        obtain ⟨s3_2, hs3_2⟩ : ∃ z : Value → Sto → Prop, z = (fun v R => v = .pointer (some (ad5.add ((x5_2).toNat * 2))) ∧ R = s0) := ⟨_, rfl⟩
        refine have_op (l := [_, _, _, _, _, _, _, _, _]) shadowboxlaw09_same.tab1 0 2 (fun sp => sp 2 = s3_2 ∧ sp 0 = s3_0 ∧ sp 1 = s3_1) (fun sp on hA hon => ?_) (fun ops3_2 => ?_)
        · refine ⟨fun o ho vs Rs f' S' w hp hf hx hS hR hs => ?_⟩
          obtain rfl := Option.some.inj ho
          obtain ⟨hv0, hR0⟩ := (spe hA.2.1 hs3_0 (hp 0 (by kernel_rfl)))
          obtain ⟨hv1, hR1⟩ := (spe hA.2.2 hs3_1 (hp 1 (by kernel_rfl)))
          rw [hA.1, hs3_2]
          refine And.intro (fun a ha => (want_none rfl a ha).trans hon.symm) (And.intro (fun _ => ?_) (fun h => by rw [hon] at h; cases h))
          have hF := fr_next (fr_next (rfl) ((hf 0 17 (by kernel_rfl) rfl).trans hv0)) ((hf 1 18 (by kernel_rfl) rfl).trans hv1)
          refine ls_fr hF ?_
          refine ls_idxv T24 (A := A0) (c := c0) (l := l0) (k := .i64) (i := x5_2) (z := 2) (ad := ad5) rfl rfl (by kernel_rfl) hA6 rfl (by kernel_rfl) (by kernel_rfl) (by kernel_rfl) (by kernel_rfl) q4 q1 ?_
          exact ls_fin s0 (.pointer (some (ad5.add ((x5_2).toNat * 2)))) (congrArg (fun z => upd z 19 _) hF.symm) ⟨rfl, rfl⟩ (sub_nil _)
        obtain ⟨s3_3, hs3_3⟩ : ∃ z : Value → Sto → Prop, z = (fun v R => v = .agg ⟨([Value.int .i64 (((l0).getD (x5_2).toNat ((0 : Int), (0 : Int))).1)] ++ [Value.int .i64 (((l0).getD (x5_2).toNat ((0 : Int), (0 : Int))).2)])⟩ ∧ R = s0) := ⟨_, rfl⟩
        refine have_op (l := [_, _, _, _, _, _, _, _, _]) shadowboxlaw09_same.tab1 0 3 (fun sp => sp 3 = s3_3 ∧ sp 2 = s3_2) (fun sp on hA hon => ?_) (fun ops3_3 => ?_)
        · refine ⟨fun o ho vs Rs f' S' w hp hf hx hS hR hs => ?_⟩
          obtain rfl := Option.some.inj ho
          obtain ⟨hv2, hR2⟩ := (spe hA.2 hs3_2 (hp 2 (by kernel_rfl)))
          rw [hA.1, hs3_3]
          refine And.intro (fun a ha => (want_none rfl a ha).trans hon.symm) (And.intro (fun _ => ?_) (fun h => by rw [hon] at h; cases h))
          have hF := fr_next (rfl) ((hf 2 19 (by kernel_rfl) rfl).trans hv2)
          refine ls_fr hF ?_
          refine ls_loadagg (a := (ad5.add ((x5_2).toNat * 2))) (sub := ([Value.int .i64 (((l0).getD (x5_2).toNat ((0 : Int), (0 : Int))).1)] ++ [Value.int .i64 (((l0).getD (x5_2).toNat ((0 : Int), (0 : Int))).2)])) rfl rfl (by kernel_rfl) rfl (by kernel_rfl) (by kernel_rfl) (by kernel_rfl) (len_app (len1 _) (len1 _)) (fun w1 hs1 => (Rd.step (hs.old R0) hs1.below.bw).part hA6 (em_sub T24 l0 (i := (x5_2).toNat) (by have h0 : (0 : Int) ≤ x5_2 := q4; have h1 : x5_2 < (l0.length : Int) := q1; omega))) ?_
          exact ls_fin s0 (.agg ⟨([Value.int .i64 (((l0).getD (x5_2).toNat ((0 : Int), (0 : Int))).1)] ++ [Value.int .i64 (((l0).getD (x5_2).toNat ((0 : Int), (0 : Int))).2)])⟩) (congrArg (fun z => upd z 20 _) hF.symm) ⟨rfl, rfl⟩ (sub_nil _)
        obtain ⟨s3_4, hs3_4⟩ : ∃ z : Value → Sto → Prop, z = (fun v R => v = .slice A1 l1.length c1 ∧ R = s0) := ⟨_, rfl⟩
        refine have_op (l := [_, _, _, _, _, _, _, _, _]) shadowboxlaw09_same.tab1 0 4 (fun sp => sp 4 = s3_4) (fun sp on hA hon => ?_) (fun ops3_4 => ?_)
        · refine ⟨fun o ho vs Rs f' S' w hp hf hx hS hR hs => ?_⟩
          obtain rfl := Option.some.inj ho
          rw [hA, hs3_4]
          refine And.intro (fun a ha => (want_none rfl a ha).trans hon.symm) (And.intro (fun _ => ?_) (fun h => by rw [hon] at h; cases h))
          have hF := fr_next (rfl) ((hx 1 (by kernel_rfl)).trans (by kernel_rfl : (_ : Value) = .slice A1 l1.length c1))
          refine ls_fr hF ?_
          refine ls_val (v := .slice A1 l1.length c1) rfl rfl (by kernel_rfl) (fun w => by kernel_rfl) ?_
          exact ls_fin s0 (.slice A1 l1.length c1) (congrArg (fun z => upd z 21 _) hF.symm) ⟨rfl, rfl⟩ (sub_nil _)
        obtain ⟨s3_5, hs3_5⟩ : ∃ z : Value → Sto → Prop, z = (fun v R => v = .int .i64 x5_2 ∧ R = s0) := ⟨_, rfl⟩
        refine have_op (l := [_, _, _, _, _, _, _, _, _]) shadowboxlaw09_same.tab1 0 5 (fun sp => sp 5 = s3_5) (fun sp on hA hon => ?_) (fun ops3_5 => ?_)
        · refine ⟨fun o ho vs Rs f' S' w hp hf hx hS hR hs => ?_⟩
          obtain rfl := Option.some.inj ho
          rw [hA, hs3_5]
          refine And.intro (fun a ha => (want_none rfl a ha).trans hon.symm) (And.intro (fun _ => ?_) (fun h => by rw [hon] at h; cases h))
          have hF := fr_next (rfl) ((hx 5 (by kernel_rfl)).trans (by kernel_rfl : (_ : Value) = .int .i64 x5_2))
          refine ls_fr hF ?_
          refine ls_val (v := .int .i64 x5_2) rfl rfl (by kernel_rfl) (fun w => by kernel_rfl) ?_
          exact ls_fin s0 (.int .i64 x5_2) (congrArg (fun z => upd z 22 _) hF.symm) ⟨rfl, rfl⟩ (sub_nil _)
        obtain ⟨q7, H⟩ := ite_need H
        obtain ⟨ad8, hA9⟩ := ido_at (T := T31) (l := l1) (i := x5_2) R1 q4 q7
        obtain ⟨s3_6, hs3_6⟩ : ∃ z : Value → Sto → Prop, z = (fun v R => v = .pointer (some (ad8.add ((x5_2).toNat * 2))) ∧ R = s0) := ⟨_, rfl⟩
        refine have_op (l := [_, _, _, _, _, _, _, _, _]) shadowboxlaw09_same.tab1 0 6 (fun sp => sp 6 = s3_6 ∧ sp 4 = s3_4 ∧ sp 5 = s3_5) (fun sp on hA hon => ?_) (fun ops3_6 => ?_)
        · refine ⟨fun o ho vs Rs f' S' w hp hf hx hS hR hs => ?_⟩
          obtain rfl := Option.some.inj ho
          obtain ⟨hv4, hR4⟩ := (spe hA.2.1 hs3_4 (hp 4 (by kernel_rfl)))
          obtain ⟨hv5, hR5⟩ := (spe hA.2.2 hs3_5 (hp 5 (by kernel_rfl)))
          rw [hA.1, hs3_6]
          refine And.intro (fun a ha => (want_none rfl a ha).trans hon.symm) (And.intro (fun _ => ?_) (fun h => by rw [hon] at h; cases h))
          have hF := fr_next (fr_next (rfl) ((hf 4 21 (by kernel_rfl) rfl).trans hv4)) ((hf 5 22 (by kernel_rfl) rfl).trans hv5)
          refine ls_fr hF ?_
          refine ls_idxv T31 (A := A1) (c := c1) (l := l1) (k := .i64) (i := x5_2) (z := 2) (ad := ad8) rfl rfl (by kernel_rfl) hA9 rfl (by kernel_rfl) (by kernel_rfl) (by kernel_rfl) (by kernel_rfl) q4 q7 ?_
          exact ls_fin s0 (.pointer (some (ad8.add ((x5_2).toNat * 2)))) (congrArg (fun z => upd z 23 _) hF.symm) ⟨rfl, rfl⟩ (sub_nil _)
        obtain ⟨s3_7, hs3_7⟩ : ∃ z : Value → Sto → Prop, z = (fun v R => v = .agg ⟨([Value.int .i64 (((l1).getD (x5_2).toNat ((0 : Int), (0 : Int))).1)] ++ [Value.int .i64 (((l1).getD (x5_2).toNat ((0 : Int), (0 : Int))).2)])⟩ ∧ R = s0) := ⟨_, rfl⟩
        refine have_op (l := [_, _, _, _, _, _, _, _, _]) shadowboxlaw09_same.tab1 0 7 (fun sp => sp 7 = s3_7 ∧ sp 6 = s3_6) (fun sp on hA hon => ?_) (fun ops3_7 => ?_)
        · refine ⟨fun o ho vs Rs f' S' w hp hf hx hS hR hs => ?_⟩
          obtain rfl := Option.some.inj ho
          obtain ⟨hv6, hR6⟩ := (spe hA.2 hs3_6 (hp 6 (by kernel_rfl)))
          rw [hA.1, hs3_7]
          refine And.intro (fun a ha => (want_none rfl a ha).trans hon.symm) (And.intro (fun _ => ?_) (fun h => by rw [hon] at h; cases h))
          have hF := fr_next (rfl) ((hf 6 23 (by kernel_rfl) rfl).trans hv6)
          refine ls_fr hF ?_
          refine ls_loadagg (a := (ad8.add ((x5_2).toNat * 2))) (sub := ([Value.int .i64 (((l1).getD (x5_2).toNat ((0 : Int), (0 : Int))).1)] ++ [Value.int .i64 (((l1).getD (x5_2).toNat ((0 : Int), (0 : Int))).2)])) rfl rfl (by kernel_rfl) rfl (by kernel_rfl) (by kernel_rfl) (by kernel_rfl) (len_app (len1 _) (len1 _)) (fun w1 hs1 => (Rd.step (hs.old R1) hs1.below.bw).part hA9 (em_sub T31 l1 (i := (x5_2).toNat) (by have h0 : (0 : Int) ≤ x5_2 := q4; have h1 : x5_2 < (l1.length : Int) := q7; omega))) ?_
          exact ls_fin s0 (.agg ⟨([Value.int .i64 (((l1).getD (x5_2).toNat ((0 : Int), (0 : Int))).1)] ++ [Value.int .i64 (((l1).getD (x5_2).toNat ((0 : Int), (0 : Int))).2)])⟩) (congrArg (fun z => upd z 24 _) hF.symm) ⟨rfl, rfl⟩ (sub_nil _)
        refine cs_draw shadowboxlaw09_same.tab1 8 0 (spl [s3_0, s3_1, s3_2, s3_3, s3_4, s3_5, s3_6, s3_7]) (onl [true, true, true, true, true, true, true, true]) (by kernel_rfl) (by kernel_rfl) (by kernel_rfl) (by kernel_rfl) (rs := [_]) rfl (by kernel_rfl) (by kernel_rfl) (all_snoc (all_snoc (all_snoc (all_snoc (all_snoc (all_snoc (all_snoc (all_snoc (all_nil) (ops3_0 _ _ rfl rfl)) (ops3_1 _ _ rfl rfl)) (ops3_2 _ _ ⟨rfl, rfl, rfl⟩ rfl)) (ops3_3 _ _ ⟨rfl, rfl⟩ rfl)) (ops3_4 _ _ rfl rfl)) (ops3_5 _ _ rfl rfl)) (ops3_6 _ _ ⟨rfl, rfl, rfl⟩ rfl)) (ops3_7 _ _ ⟨rfl, rfl⟩ rfl)) ?_
        intro vs Rs f' S' hp hf hx hS hR
        obtain ⟨hv3, hR3⟩ := (spe rfl hs3_3 (hp 3 (by kernel_rfl)))
        obtain ⟨hv7, hR7⟩ := (spe rfl hs3_7 (hp 7 (by kernel_rfl)))
        refine ls_fr (F := upd (upd (upd (upd (upd f' 0 (.slice A0 l0.length c0)) 1 (.slice A1 l1.length c1)) 5 (.int .i64 x5_2)) 20 (.agg ⟨([Value.int .i64 (((l0).getD (x5_2).toNat ((0 : Int), (0 : Int))).1)] ++ [Value.int .i64 (((l0).getD (x5_2).toNat ((0 : Int), (0 : Int))).2)])⟩)) 24 (.agg ⟨([Value.int .i64 (((l1).getD (x5_2).toNat ((0 : Int), (0 : Int))).1)] ++ [Value.int .i64 (((l1).getD (x5_2).toNat ((0 : Int), (0 : Int))).2)])⟩)) (fr_next (fr_next (fr_next (fr_next (fr_next (rfl) ((hx 0 (by kernel_rfl)).trans (by kernel_rfl : (_ : Value) = .slice A0 l0.length c0))) ((hx 1 (by kernel_rfl)).trans (by kernel_rfl : (_ : Value) = .slice A1 l1.length c1))) ((hx 5 (by kernel_rfl)).trans (by kernel_rfl : (_ : Value) = .int .i64 x5_2))) ((hf 3 20 (by kernel_rfl) rfl).trans hv3)) ((hf 7 24 (by kernel_rfl) rfl).trans hv7)) ?_
        refine ls_sub (s0) (sub_nil _) ?_
        refine ls_neq (xs := ([Value.int .i64 (((l0).getD (x5_2).toNat ((0 : Int), (0 : Int))).1)] ++ [Value.int .i64 (((l0).getD (x5_2).toNat ((0 : Int), (0 : Int))).2)])) (ys := ([Value.int .i64 (((l1).getD (x5_2).toNat ((0 : Int), (0 : Int))).1)] ++ [Value.int .i64 (((l1).getD (x5_2).toNat ((0 : Int), (0 : Int))).2)])) (r := ((((l0).getD (x5_2).toNat ((0 : Int), (0 : Int))).1 == ((l1).getD (x5_2).toNat ((0 : Int), (0 : Int))).1) && (((l0).getD (x5_2).toNat ((0 : Int), (0 : Int))).2 == ((l1).getD (x5_2).toNat ((0 : Int), (0 : Int))).2))) rfl rfl (by kernel_rfl) rfl (by kernel_rfl) (by kernel_rfl) (by kernel_rfl) (eq_st (by kernel_rfl) (by kernel_rfl) (eqf_cons (ft := 3) (fo := 0) (by kernel_rfl) (part_one (by kernel_rfl) (Sub4.trans (Sub4.all _) (Sub4.head _ _))) (part_one (by kernel_rfl) (Sub4.trans (Sub4.all _) (Sub4.head _ _))) (eq_int (by kernel_rfl) _ _ _) (eqf_last (ft := 3) (fo := 1) (by kernel_rfl) (part_one (by kernel_rfl) (Sub4.trans (Sub4.all _) (Sub4.skip (n := 1) (len1 _) (Sub4.all _)))) (part_one (by kernel_rfl) (Sub4.trans (Sub4.all _) (Sub4.skip (n := 1) (len1 _) (Sub4.all _)))) (eq_int (by kernel_rfl) _ _ _) (by kernel_rfl)))) ?_
        refine ls_end ?_
        refine qn_then ?_
        by_cases q10 : ((((l0).getD (x5_2).toNat ((0 : Int), (0 : Int))).1 == ((l1).getD (x5_2).toNat ((0 : Int), (0 : Int))).1) && (((l0).getD (x5_2).toNat ((0 : Int), (0 : Int))).2 == ((l1).getD (x5_2).toNat ((0 : Int), (0 : Int))).2)) = true
        · replace H := ite_t q10 H
          refine cs_know (c := false) (congrArg Bool.not (q10)) 25 (by kernel_rfl) ?_
          refine cs_false (by kernel_rfl) ?_
          refine cs_skip' ?_
          refine qn_block ?_
          refine qn_then ?_
          refine cs_region (l := [_, _, _]) ?_
          refine ls_val (v := .int .i64 x5_2) rfl rfl (by kernel_rfl) (fun w => by kernel_rfl) ?_
          refine ls_val (v := .int .i64 (IntKind.wrap .i64 (x5_2 + (1 : Int)))) rfl rfl (by kernel_rfl) (fun w => by kernel_rfl) ?_
          refine ls_val (v := .int .i64 (IntKind.wrap .i64 (x5_2 + (1 : Int)))) rfl rfl (by kernel_rfl) (fun w => by kernel_rfl) ?_
          refine ls_end ?_
          refine qn_again k2 (s0) (Nat.le_refl _) ⟨_, (IntKind.wrap .i64 (x5_2 + (1 : Int))), fr_next (fr_next (fr_next (rfl) (by kernel_rfl)) (by kernel_rfl)) (by kernel_rfl), rfl, H⟩ (sub_nil _)
        · replace H := ite_f q10 H
          refine cs_know (c := true) (congrArg Bool.not (Bool.eq_false_iff.mpr q10)) 25 (by kernel_rfl) ?_
          refine cs_true (by kernel_rfl) ?_
          refine cs_seq ?_
          refine cs_region (l := [_]) ?_
          refine ls_val (v := .bool false) rfl rfl (by kernel_rfl) (fun w => by kernel_rfl) ?_
          refine ls_end ?_
          refine qn_then ?_
          refine cs_ret' ?_
          refine qr_block ?_
          refine qr_then ?_
          refine qr_then ?_
          refine qr_block ?_
          refine qr_then ?_
          obtain rfl := Option.some.inj H
          refine qr_res (rs := [_]) rfl (fun w' hs => ⟨[.bool false], (res_tmp (by kernel_rfl) (.nil)), (), rfl, hs.pick (ts := []) (cs := []) trivial (by decide)⟩)
      · replace H := ite_f q1 H
        refine cs_know (c := false) (dec_f q1) 14 (by kernel_rfl) ?_
        refine cs_false (by kernel_rfl) ?_
        refine cs_exit' ?_
        refine qx_then ?_
        refine qx_then ?_
        refine qx_same ?_
        refine qn_then ?_
        refine cs_seq ?_
        refine cs_region (l := [_]) ?_
        refine ls_val (v := .bool true) rfl rfl (by kernel_rfl) (fun w => by kernel_rfl) ?_
        refine ls_end ?_
        refine qn_then ?_
        refine cs_ret' ?_
        obtain rfl := Option.some.inj H
        refine qr_res (rs := [_]) rfl (fun w' hs => ⟨[.bool true], (res_tmp (by kernel_rfl) (.nil)), (), rfl, hs.pick (ts := []) (cs := []) trivial (by decide)⟩)

/-! ### shadowbox/shadowboxref09.right: function 45 -/
def shadowboxref09_right.f (k : Nat) (a0 : (Int × Int)) : Option (Bool) :=
  (if a0.1 ≥ (0 : Int) then (if a0.1 < a0.2 then some (decide (a0.2 ≤ (1099511627776 : Int))) else some false) else some false)
set_option maxRecDepth 100000 in
set_option maxHeartbeats 4000000 in
theorem shadowboxref09_right.calls (k : Nat) (a0 : (Int × Int)) (r : Bool) (b : Bs) (hs0 : St b (stl []) b.w) (H : shadowboxref09_right.f k a0 = some r) :
    Calls Try.prog 45 #[.agg ⟨([Value.int .i64 a0.1] ++ [Value.int .i64 a0.2])⟩] b.w fun e w' => ∃ x : Unit, e = .returned (.bool r) ∧ St b (stl []) w' := by
  unfold shadowboxref09_right.f at H
  refine enterb (n := 18) Try.func45 rfl (by kernel_rfl) (by kernel_rfl) hs0 ?_
  refine cs_sub (s0) (sub_nil _) ?_
  refine cs_seq ?_
  refine cs_region (l := [_, _]) ?_
  refine ls_new rfl rfl (by kernel_rfl) 0 (fun g => .pointer (some ⟨g, 0, none⟩)) (.cells ⟨([Value.int .i64 a0.1] ++ [Value.int .i64 a0.2])⟩ 31) (fun w => by kernel_rfl) ?_
  intro g1
  refine ls_val (v := .bool false) rfl rfl (by kernel_rfl) (fun w => by kernel_rfl) ?_
  refine ls_end ?_
  refine qn_then ?_
  refine cs_seq ?_
  refine cs_region (l := [_, _, _, _, _, _, _, _, _, _, _, _, _, _, _, _]) ?_
  refine ls_val (v := .pointer (some ⟨g1, (0 + 0), none⟩)) rfl rfl (by kernel_rfl) (fun w => by kernel_rfl) ?_
  refine ls_load (a0 := ⟨g1, (0 + 0), none⟩) (v := .int .i64 a0.1) (de := (TypeDesc.int .i64)) rfl rfl (by kernel_rfl) rfl (by kernel_rfl) (by kernel_rfl) (by kernel_rfl) (fun w hs => (hs.var (k := 0) (by exact rfl) (Sub4.trans (Sub4.all _) (Sub4.head _ _)))) ?_
  refine ls_val (v := .bool (decide (a0.1 ≥ (0 : Int)))) rfl rfl (by kernel_rfl) (fun w => by kernel_rfl) ?_
  refine ls_val (v := .bool (decide (a0.1 ≥ (0 : Int)))) rfl rfl (by kernel_rfl) (fun w => by kernel_rfl) ?_
  by_cases q2 : a0.1 ≥ (0 : Int)
  · replace H := ite_t q2 H
    refine ls_know (c := true) (dec_t q2) 6 (by kernel_rfl) ?_
    refine ls_on (j := 3) (t := 6) (b := true) rfl rfl (by kernel_rfl) (by kernel_rfl) ?_
    refine ls_val (v := .pointer (some ⟨g1, (0 + 0), none⟩)) rfl rfl (by kernel_rfl) (fun w => by kernel_rfl) ?_
    refine ls_on (j := 3) (t := 6) (b := true) rfl rfl (by kernel_rfl) (by kernel_rfl) ?_
    refine ls_load (a0 := ⟨g1, (0 + 0), none⟩) (v := .int .i64 a0.1) (de := (TypeDesc.int .i64)) rfl rfl (by kernel_rfl) rfl (by kernel_rfl) (by kernel_rfl) (by kernel_rfl) (fun w hs => (hs.var (k := 0) (by exact rfl) (Sub4.trans (Sub4.all _) (Sub4.head _ _)))) ?_
    refine ls_on (j := 3) (t := 6) (b := true) rfl rfl (by kernel_rfl) (by kernel_rfl) ?_
    refine ls_val (v := .pointer (some ⟨g1, (0 + 1), none⟩)) rfl rfl (by kernel_rfl) (fun w => by kernel_rfl) ?_
    refine ls_on (j := 3) (t := 6) (b := true) rfl rfl (by kernel_rfl) (by kernel_rfl) ?_
    refine ls_load (a0 := ⟨g1, (0 + 1), none⟩) (v := .int .i64 a0.2) (de := (TypeDesc.int .i64)) rfl rfl (by kernel_rfl) rfl (by kernel_rfl) (by kernel_rfl) (by kernel_rfl) (fun w hs => (hs.var (k := 0) (by exact rfl) (Sub4.trans (Sub4.all _) (Sub4.skip (n := 1) (len1 _) (Sub4.all _))))) ?_
    refine ls_on (j := 3) (t := 6) (b := true) rfl rfl (by kernel_rfl) (by kernel_rfl) ?_
    refine ls_val (v := .bool (decide (a0.1 < a0.2))) rfl rfl (by kernel_rfl) (fun w => by kernel_rfl) ?_
    refine ls_val (v := .bool (decide (a0.1 < a0.2))) rfl rfl (by kernel_rfl) (fun w => by kernel_rfl) ?_
    refine ls_val (v := .bool (decide (a0.1 < a0.2))) rfl rfl (by kernel_rfl) (fun w => by kernel_rfl) ?_
    by_cases q3 : a0.1 < a0.2
    · replace H := ite_t q3 H
      refine ls_know (c := true) (dec_t q3) 13 (by kernel_rfl) ?_
      refine ls_on (j := 10) (t := 13) (b := true) rfl rfl (by kernel_rfl) (by kernel_rfl) ?_
      refine ls_val (v := .pointer (some ⟨g1, (0 + 1), none⟩)) rfl rfl (by kernel_rfl) (fun w => by kernel_rfl) ?_
      refine ls_on (j := 10) (t := 13) (b := true) rfl rfl (by kernel_rfl) (by kernel_rfl) ?_
      refine ls_load (a0 := ⟨g1, (0 + 1), none⟩) (v := .int .i64 a0.2) (de := (TypeDesc.int .i64)) rfl rfl (by kernel_rfl) rfl (by kernel_rfl) (by kernel_rfl) (by kernel_rfl) (fun w hs => (hs.var (k := 0) (by exact rfl) (Sub4.trans (Sub4.all _) (Sub4.skip (n := 1) (len1 _) (Sub4.all _))))) ?_
      refine ls_on (j := 10) (t := 13) (b := true) rfl rfl (by kernel_rfl) (by kernel_rfl) ?_
      refine ls_val (v := .bool (decide (a0.2 ≤ (1099511627776 : Int)))) rfl rfl (by kernel_rfl) (fun w => by kernel_rfl) ?_
      refine ls_val (v := .bool (decide (a0.2 ≤ (1099511627776 : Int)))) rfl rfl (by kernel_rfl) (fun w => by kernel_rfl) ?_
      refine ls_val (v := .bool (decide (a0.2 ≤ (1099511627776 : Int)))) rfl rfl (by kernel_rfl) (fun w => by kernel_rfl) ?_
      refine ls_end ?_
      refine qn_then ?_
      refine cs_ret' ?_
      obtain rfl := Option.some.inj H
      refine qr_res (rs := [_]) rfl (fun w' hs => ⟨[.bool (decide (a0.2 ≤ (1099511627776 : Int)))], (res_tmp (by kernel_rfl) (.nil)), (), rfl, hs.pick (ts := []) (cs := []) trivial (by decide)⟩)
    · replace H := ite_f q3 H
      refine ls_know (c := false) (dec_f q3) 13 (by kernel_rfl) ?_
      refine ls_off (j := 10) (t := 13) (b := true) (c := false) rfl rfl (by kernel_rfl) (by kernel_rfl) rfl rfl (by kernel_rfl) ?_
      refine ls_off (j := 10) (t := 13) (b := true) (c := false) rfl rfl (by kernel_rfl) (by kernel_rfl) rfl rfl (by kernel_rfl) ?_
      refine ls_off (j := 10) (t := 13) (b := true) (c := false) rfl rfl (by kernel_rfl) (by kernel_rfl) rfl rfl (by kernel_rfl) ?_
      refine ls_val (v := .bool false) rfl rfl (by kernel_rfl) (fun w => by kernel_rfl) ?_
      refine ls_val (v := .bool false) rfl rfl (by kernel_rfl) (fun w => by kernel_rfl) ?_
      refine ls_end ?_
      refine qn_then ?_
      refine cs_ret' ?_
      obtain rfl := Option.some.inj H
      refine qr_res (rs := [_]) rfl (fun w' hs => ⟨[.bool false], (res_tmp (by kernel_rfl) (.nil)), (), rfl, hs.pick (ts := []) (cs := []) trivial (by decide)⟩)
  · replace H := ite_f q2 H
    refine ls_know (c := false) (dec_f q2) 6 (by kernel_rfl) ?_
    refine ls_off (j := 3) (t := 6) (b := true) (c := false) rfl rfl (by kernel_rfl) (by kernel_rfl) rfl rfl (by kernel_rfl) ?_
    refine ls_off (j := 3) (t := 6) (b := true) (c := false) rfl rfl (by kernel_rfl) (by kernel_rfl) rfl rfl (by kernel_rfl) ?_
    refine ls_off (j := 3) (t := 6) (b := true) (c := false) rfl rfl (by kernel_rfl) (by kernel_rfl) rfl rfl (by kernel_rfl) ?_
    refine ls_off (j := 3) (t := 6) (b := true) (c := false) rfl rfl (by kernel_rfl) (by kernel_rfl) rfl rfl (by kernel_rfl) ?_
    refine ls_off (j := 3) (t := 6) (b := true) (c := false) rfl rfl (by kernel_rfl) (by kernel_rfl) rfl rfl (by kernel_rfl) ?_
    refine ls_val (v := .bool false) rfl rfl (by kernel_rfl) (fun w => by kernel_rfl) ?_
    refine ls_val (v := .bool false) rfl rfl (by kernel_rfl) (fun w => by kernel_rfl) ?_
    refine ls_off (j := 10) (t := 13) (b := true) (c := false) rfl rfl (by kernel_rfl) (by kernel_rfl) rfl rfl (by kernel_rfl) ?_
    refine ls_off (j := 10) (t := 13) (b := true) (c := false) rfl rfl (by kernel_rfl) (by kernel_rfl) rfl rfl (by kernel_rfl) ?_
    refine ls_off (j := 10) (t := 13) (b := true) (c := false) rfl rfl (by kernel_rfl) (by kernel_rfl) rfl rfl (by kernel_rfl) ?_
    refine ls_val (v := .bool false) rfl rfl (by kernel_rfl) (fun w => by kernel_rfl) ?_
    refine ls_val (v := .bool false) rfl rfl (by kernel_rfl) (fun w => by kernel_rfl) ?_
    refine ls_end ?_
    refine qn_then ?_
    refine cs_ret' ?_
    obtain rfl := Option.some.inj H
    refine qr_res (rs := [_]) rfl (fun w' hs => ⟨[.bool false], (res_tmp (by kernel_rfl) (.nil)), (), rfl, hs.pick (ts := []) (cs := []) trivial (by decide)⟩)

/-! ### shadowbox/shadowboxref09.Valid: function 22 -/
def shadowboxref09_Valid.tab0 : List (List Nat) := [[], [], [0, 1], [0, 1, 2], [0, 1, 2, 3], [0, 1, 2, 3, 4], [0, 1, 2, 3, 4, 5], [0, 1, 2, 3, 4, 5, 6], [0, 1, 2, 3, 4, 5, 6, 7], [0, 1, 2, 3, 4, 5, 6, 7, 8], [0, 1, 2, 3, 4, 5, 6, 7, 8, 9], [0, 1, 2, 3, 4, 5, 6, 7, 8, 9], [0, 1, 2, 3, 4, 5, 6, 7, 8, 9, 10, 11], [0, 1, 2, 3, 4, 5, 6, 7, 8, 9, 10, 11, 12], [0, 1, 2, 3, 4, 5, 6, 7, 8, 9, 10, 11, 12, 13], [0, 1, 2, 3, 4, 5, 6, 7, 8, 9], [0, 1, 2, 3, 4, 5, 6, 7, 8, 9], [0, 1, 2, 3, 4, 5, 6, 7, 8, 9, 16], [0, 1, 2, 3, 4, 5, 6, 7, 8, 9, 15, 16, 17], [0, 1, 2, 3, 4, 5, 6, 7, 8, 9, 15, 16, 17, 18], [0, 1, 2, 3, 4, 5, 6, 7, 8, 9, 15, 16, 17, 18, 19], [0, 1, 2, 3, 4, 5, 6, 7, 8, 9, 10, 11, 12, 13, 14, 15, 16, 17, 18, 19, 20], [0, 1, 2, 3, 4, 5, 6, 7, 8, 9, 10, 11, 12, 13, 14, 15, 16, 17, 18, 19, 20, 21], [0, 1, 2, 3, 4, 5, 6, 7, 8, 9, 10, 11, 12, 13, 14, 15, 16, 17, 18, 19, 20, 21, 22]]
def shadowboxref09_Valid.jo2 (l0 : List (Int × Int)) (x3_1 : Int) (k1 : Nat) (lo1 : Int → Option (Bool)) : Option (Bool) := (if 0 ≤ x3_1 then (if x3_1 < (l0.length : Int) then (shadowboxref09_right.f k1 ((l0).getD (x3_1).toNat ((0 : Int), (0 : Int)))).bind fun t7 => (if t7 = true then (if x3_1 > (0 : Int) then lt (((l0).getD (x3_1).toNat ((0 : Int), (0 : Int))).1) fun y14 => (if 0 ≤ IntKind.wrap .i64 (x3_1 - (1 : Int)) then (if IntKind.wrap .i64 (x3_1 - (1 : Int)) < (l0.length : Int) then lt (((l0).getD (IntKind.wrap .i64 (x3_1 - (1 : Int))).toNat ((0 : Int), (0 : Int))).2) fun y20 => (if y14 ≤ y20 then some false else lo1 (IntKind.wrap .i64 (x3_1 + (1 : Int)))) else none) else none) else lo1 (IntKind.wrap .i64 (x3_1 + (1 : Int)))) else some false) else none) else none)
def shadowboxref09_Valid.lo1 (l0 : List (Int × Int)) : Nat → Int → Option (Bool)
  | 0, _ => none
  | k1 + 1, x3_1 => (if x3_1 < (l0.length : Int) then (shadowboxref09_Valid.jo2 l0 x3_1 k1 (shadowboxref09_Valid.lo1 l0 k1)) else some true)
def shadowboxref09_Valid.f (k : Nat) (l0 : List (Int × Int)) : Option (Bool) :=
  shadowboxref09_Valid.lo1 l0 k (0 : Int)
set_option maxRecDepth 100000 in
set_option maxHeartbeats 4000000 in
theorem shadowboxref09_Valid.calls (k : Nat) (A0 : Option Addr) (c0 : Nat) (l0 : List (Int × Int)) (r : Bool) (b : Bs) (hs0 : St b (stl []) b.w) (R0 : Ro b A0 (em T31 l0)) (C0 : l0.length ≤ c0) (H : shadowboxref09_Valid.f k l0 = some r) :
    Calls Try.prog 22 #[.slice A0 l0.length c0] b.w fun e w' => ∃ x : Unit, e = .returned (.bool r) ∧ St b (stl []) w' := by
  unfold shadowboxref09_Valid.f at H
  refine enterb (n := 34) Try.func22 rfl (by kernel_rfl) (by kernel_rfl) hs0 ?_
  refine cs_sub (s0) (sub_nil _) ?_
  refine cs_seq ?_
  refine cs_region (l := [_]) ?_
  refine ls_val (v := .bool false) rfl rfl (by kernel_rfl) (fun w => by kernel_rfl) ?_
  refine ls_end ?_
  refine qn_then ?_
  refine cs_seq ?_
  refine cs_seq ?_
  refine cs_region (l := [_]) ?_
  refine ls_val (v := .int .i64 (0 : Int)) rfl rfl (by kernel_rfl) (fun w => by kernel_rfl) ?_
  refine ls_end ?_
  refine qn_then ?_
  refine cs_block ?_
  refine cs_sub (s0) (sub_nil _) ?_
  refine cs_loop (fun kk f S => ∃ (fR : Fr) (x3_1 : Int), f = upd (upd fR 0 (.slice A0 l0.length c0)) 3 (.int .i64 x3_1) ∧ S = s0 ∧ shadowboxref09_Valid.lo1 l0 kk x3_1 = some r) k ?_ ?_ ?_
  · exact ⟨_, (0 : Int), fr_next (fr_next (rfl) (by kernel_rfl)) (by kernel_rfl), rfl, H⟩
  · rintro f S ⟨fr1, x3_1, rfl, rfl, H⟩; cases H
  · rintro k1 f S ⟨fr1, x3_1, rfl, rfl, H⟩
    replace H : ((if x3_1 < (l0.length : Int) then (shadowboxref09_Valid.jo2 l0 x3_1 k1 (shadowboxref09_Valid.lo1 l0 k1)) else some true)) = some r := H
    refine cs_cut (fun f S => ∃ (fR : Fr), f = upd (upd fR 0 (.slice A0 l0.length c0)) 3 (.int .i64 x3_1) ∧ S = s0 ∧ shadowboxref09_Valid.jo2 l0 x3_1 k1 (shadowboxref09_Valid.lo1 l0 k1) = some r) ?_ ?_
    · skip
      refine cs_seq ?_
      refine cs_region (l := [_, _, _, _]) ?_
      refine ls_val (v := .int .i64 x3_1) rfl rfl (by kernel_rfl) (fun w => by kernel_rfl) ?_
      refine ls_val (v := .slice A0 l0.length c0) rfl rfl (by kernel_rfl) (fun w => by kernel_rfl) ?_
      refine ls_val (v := .int .i64 (l0.length : Int)) rfl rfl (by kernel_rfl) (fun w => by kernel_rfl) ?_
      refine ls_val (v := .bool (decide (x3_1 < (l0.length : Int)))) rfl rfl (by kernel_rfl) (fun w => by kernel_rfl) ?_
      refine ls_end ?_
      refine qn_then ?_
      by_cases q23 : x3_1 < (l0.length : Int)
      · replace H := ite_t q23 H
        refine cs_know (c := true) (dec_t q23) 7 (by kernel_rfl) ?_
        refine cs_true (by kernel_rfl) ?_
        refine cs_skip' ?_
        refine qn_meet (s0) ⟨_, fr_next (fr_next (rfl) (by kernel_rfl)) (by kernel_rfl), rfl, H⟩ (sub_nil _)
      · replace H := ite_f q23 H
        refine cs_know (c := false) (dec_f q23) 7 (by kernel_rfl) ?_
        refine cs_false (by kernel_rfl) ?_
        refine cs_exit' ?_
        refine qx_then ?_
        refine qx_then ?_
        refine qx_same ?_
        refine qn_then ?_
        refine cs_seq ?_
        refine cs_region (l := [_]) ?_
        refine ls_val (v := .bool true) rfl rfl (by kernel_rfl) (fun w => by kernel_rfl) ?_
        refine ls_end ?_
        refine qn_then ?_
        refine cs_ret' ?_
        obtain rfl := Option.some.inj H
        refine qr_res (rs := [_]) rfl (fun w' hs => ⟨[.bool true], (res_tmp (by kernel_rfl) (.nil)), (), rfl, hs.pick (ts := []) (cs := []) trivial (by decide)⟩)
    · rintro f S ⟨fr2, rfl, rfl, H⟩
      replace H : ((if 0 ≤ x3_1 then (if x3_1 < (l0.length : Int) then (shadowboxref09_right.f k1 ((l0).getD (x3_1).toNat ((0 : Int), (0 : Int)))).bind fun t7 => (if t7 = true then (if x3_1 > (0 : Int) then lt (((l0).getD (x3_1).toNat ((0 : Int), (0 : Int))).1) fun y14 => (if 0 ≤ IntKind.wrap .i64 (x3_1 - (1 : Int)) then (if IntKind.wrap .i64 (x3_1 - (1 : Int)) < (l0.length : Int) then lt (((l0).getD (IntKind.wrap .i64 (x3_1 - (1 : Int))).toNat ((0 : Int), (0 : Int))).2) fun y20 => (if y14 ≤ y20 then some false else (shadowboxref09_Valid.lo1 l0 k1) (IntKind.wrap .i64 (x3_1 + (1 : Int)))) else none) else none) else (shadowboxref09_Valid.lo1 l0 k1) (IntKind.wrap .i64 (x3_1 + (1 : Int)))) else some false) else none) else none)) = some r := H
      refine cs_seq ?_
      refine cs_block ?_
      refine cs_seq ?_
      obtain ⟨s2_0, hs2_0⟩ : ∃ z : Value → Sto → Prop, z = (fun v R => v = .slice A0 l0.length c0 ∧ R = s0) := ⟨_, rfl⟩
      refine have_op (l := [_, _, _, _, _, _, _, _, _, _, _, _, _, _, _, _, _, _, _, _, _, _, _, _]) shadowboxref09_Valid.tab0 0 0 (fun sp => sp 0 = s2_0) (fun sp on hA hon => ?_) (fun ops2_0 => ?_)
      · refine ⟨fun o ho vs Rs f' S' w hp hf hx hS hR hs => ?_⟩
        obtain rfl := Option.some.inj ho
        rw [hA, hs2_0]
        refine And.intro (fun a ha => (want_none rfl a ha).trans hon.symm) (And.intro (fun _ => ?_) (fun h => by rw [hon] at h; cases h))
        have hF := fr_next (rfl) ((hx 0 (by kernel_rfl)).trans (by kernel_rfl : (_ : Value) = .slice A0 l0.length c0))
        refine ls_fr hF ?_
        refine ls_val (v := .slice A0 l0.length c0) rfl rfl (by kernel_rfl) (fun w => by kernel_rfl) ?_
        exact ls_fin s0 (.slice A0 l0.length c0) (congrArg (fun z => upd z 10 _) hF.symm) ⟨rfl, rfl⟩ (sub_nil _)
      obtain ⟨s2_1, hs2_1⟩ : ∃ z : Value → Sto → Prop, z = (fun v R => v = .int .i64 x3_1 ∧ R = s0) := ⟨_, rfl⟩
      refine have_op (l := [_, _, _, _, _, _, _, _, _, _, _, _, _, _, _, _, _, _, _, _, _, _, _, _]) shadowboxref09_Valid.tab0 0 1 (fun sp => sp 1 = s2_1) (fun sp on hA hon => ?_) (fun ops2_1 => ?_)
      · refine ⟨fun o ho vs Rs f' S' w hp hf hx hS hR hs => ?_⟩
        obtain rfl := Option.some.inj ho
        rw [hA, hs2_1]
        refine And.intro (fun a ha => (want_none rfl a ha).trans hon.symm) (And.intro (fun _ => ?_) (fun h => by rw [hon] at h; cases h))
        have hF := fr_next (rfl) ((hx 3 (by kernel_rfl)).trans (by kernel_rfl : (_ : Value) = .int .i64 x3_1))
        refine ls_fr hF ?_
        refine ls_val (v := .int .i64 x3_1) rfl rfl (by kernel_rfl) (fun w => by kernel_rfl) ?_
        exact ls_fin s0 (.int .i64 x3_1) (congrArg (fun z => upd z 11 _) hF.symm) ⟨rfl, rfl⟩ (sub_nil _)
      obtain ⟨q3, H⟩ := ite_need H
      obtain ⟨q4, H⟩ := ite_need H
      obtain ⟨ad5, hA6⟩ := ido_at (T := T31) (l := l0) (i := x3_1) R0 q3 q4
      obtain ⟨s2_2, hs2_2⟩ : ∃ z : Value → Sto → Prop, z = (fun v R => v = .pointer (some (ad5.add ((x3_1).toNat * 2))) ∧ R = s0) := ⟨_, rfl⟩
      refine have_op (l := [_, _, _, _, _, _, _, _, _, _, _, _, _, _, _, _, _, _, _, _, _, _, _, _]) shadowboxref09_Valid.tab0 0 2 (fun sp => sp 2 = s2_2 ∧ sp 0 = s2_0 ∧ sp 1 = s2_1) (fun sp on hA hon => ?_) (fun ops2_2 => ?_)
      · refine ⟨fun o ho vs Rs f' S' w hp hf hx hS hR hs => ?_⟩
        obtain rfl := Option.some.inj ho
        obtain ⟨hv0, hR0⟩ := (spe hA.2.1 hs2_0 (hp 0 (by kernel_rfl)))
        obtain ⟨hv1, hR1⟩ := (spe hA.2.2 hs2_1 (hp 1 (by kernel_rfl)))
        rw [hA.1, hs2_2]
        refine And.intro (fun a ha => (want_none rfl a ha).trans hon.symm) (And.intro (fun _ => ?_) (fun h => by rw [hon] at h; cases h))
        have hF := fr_next (fr_next (rfl) ((hf 0 10 (by kernel_rfl) rfl).trans hv0)) ((hf 1 11 (by kernel_rfl) rfl).trans hv1)
        refine ls_fr hF ?_
        refine ls_idxv T31 (A := A0) (c := c0) (l := l0) (k := .i64) (i := x3_1) (z := 2) (ad := ad5) rfl rfl (by kernel_rfl) hA6 rfl (by kernel_rfl) (by kernel_rfl) (by kernel_rfl) (by kernel_rfl) q3 q4 ?_
        exact ls_fin s0 (.pointer (some (ad5.add ((x3_1).toNat * 2)))) (congrArg (fun z => upd z 12 _) hF.symm) ⟨rfl, rfl⟩ (sub_nil _)
      obtain ⟨s2_3, hs2_3⟩ : ∃ z : Value → Sto → Prop, z = (fun v R => v = .agg ⟨([Value.int .i64 (((l0).getD (x3_1).toNat ((0 : Int), (0 : Int))).1)] ++ [Value.int .i64 (((l0).getD (x3_1).toNat ((0 : Int), (0 : Int))).2)])⟩ ∧ R = s0) := ⟨_, rfl⟩
      refine have_op (l := [_, _, _, _, _, _, _, _, _, _, _, _, _, _, _, _, _, _, _, _, _, _, _, _]) shadowboxref09_Valid.tab0 0 3 (fun sp => sp 3 = s2_3 ∧ sp 2 = s2_2) (fun sp on hA hon => ?_) (fun ops2_3 => ?_)
      · refine ⟨fun o ho vs Rs f' S' w hp hf hx hS hR hs => ?_⟩
        obtain rfl := Option.some.inj ho
        obtain ⟨hv2, hR2⟩ := (spe hA.2 hs2_2 (hp 2 (by kernel_rfl)))
        rw [hA.1, hs2_3]
        refine And.intro (fun a ha => (want_none rfl a ha).trans hon.symm) (And.intro (fun _ => ?_) (fun h => by rw [hon] at h; cases h))
        have hF := fr_next (rfl) ((hf 2 12 (by kernel_rfl) rfl).trans hv2)
        refine ls_fr hF ?_
        refine ls_loadagg (a := (ad5.add ((x3_1).toNat * 2))) (sub := ([Value.int .i64 (((l0).getD (x3_1).toNat ((0 : Int), (0 : Int))).1)] ++ [Value.int .i64 (((l0).getD (x3_1).toNat ((0 : Int), (0 : Int))).2)])) rfl rfl (by kernel_rfl) rfl (by kernel_rfl) (by kernel_rfl) (by kernel_rfl) (len_app (len1 _) (len1 _)) (fun w1 hs1 => (Rd.step (hs.old R0) hs1.below.bw).part hA6 (em_sub T31 l0 (i := (x3_1).toNat) (by have h0 : (0 : Int) ≤ x3_1 := q3; have h1 : x3_1 < (l0.length : Int) := q4; omega))) ?_
        exact ls_fin s0 (.agg ⟨([Value.int .i64 (((l0).getD (x3_1).toNat ((0 : Int), (0 : Int))).1)] ++ [Value.int .i64 (((l0).getD (x3_1).toNat ((0 : Int), (0 : Int))).2)])⟩) (congrArg (fun z => upd z 13 _) hF.symm) ⟨rfl, rfl⟩ (sub_nil _)
      obtain ⟨t7, hc8, H⟩ := bind_some H
      obtain ⟨s2_4, hs2_4⟩ : ∃ z : Value → Sto → Prop, z = (fun v R => ∃ x9 : Unit, v = .bool t7 ∧ R = stl []) := ⟨_, rfl⟩
      refine have_op (l := [_, _, _, _, _, _, _, _, _, _, _, _, _, _, _, _, _, _, _, _, _, _, _, _]) shadowboxref09_Valid.tab0 0 4 (fun sp => sp 4 = s2_4 ∧ sp 3 = s2_3) (fun sp on hA hon => ?_) (fun ops2_4 => ?_)
      · refine ⟨fun o ho vs Rs f' S' w hp hf hx hS hR hs => ?_⟩
        obtain rfl := Option.some.inj ho
        obtain ⟨hv3, hR3⟩ := (spe hA.2 hs2_3 (hp 3 (by kernel_rfl)))
        rw [hA.1, hs2_4]
        refine And.intro (fun a ha => (want_none rfl a ha).trans hon.symm) (And.intro (fun _ => ?_) (fun h => by rw [hon] at h; cases h))
        have hF := fr_next (rfl) ((hf 3 13 (by kernel_rfl) rfl).trans hv3)
        refine ls_fr hF ?_
        refine ls_call (fid := 45) (vals := #[.agg ⟨([Value.int .i64 (((l0).getD (x3_1).toNat ((0 : Int), (0 : Int))).1)] ++ [Value.int .i64 (((l0).getD (x3_1).toNat ((0 : Int), (0 : Int))).2)])⟩]) (X := Unit) (fun x => .bool t7) (fun x => stl []) 0 rfl rfl (by kernel_rfl) (fun w => by kernel_rfl) (fun w1 hs1 => shadowboxref09_right.calls k1 ((l0).getD (x3_1).toNat ((0 : Int), (0 : Int))) t7 (bw w1) (St.refl w1)  hc8) ?_
        intro x9
        exact ls_fin (stl []) (.bool t7) (congrArg (fun z => upd z 14 _) hF.symm) ⟨x9, rfl, rfl⟩ (sub_join _)
      obtain ⟨s2_5, hs2_5⟩ : ∃ z : Value → Sto → Prop, z = (fun v R => v = .bool (!t7) ∧ R = s0) := ⟨_, rfl⟩
      refine have_op (l := [_, _, _, _, _, _, _, _, _, _, _, _, _, _, _, _, _, _, _, _, _, _, _, _]) shadowboxref09_Valid.tab0 0 5 (fun sp => sp 5 = s2_5 ∧ sp 4 = s2_4) (fun sp on hA hon => ?_) (fun ops2_5 => ?_)
      · refine ⟨fun o ho vs Rs f' S' w hp hf hx hS hR hs => ?_⟩
        obtain rfl := Option.some.inj ho
        obtain ⟨x9, hv4, hR4⟩ := (spe hA.2 hs2_4 (hp 4 (by kernel_rfl)))
        rw [hA.1, hs2_5]
        refine And.intro (fun a ha => (want_none rfl a ha).trans hon.symm) (And.intro (fun _ => ?_) (fun h => by rw [hon] at h; cases h))
        have hF := fr_next (rfl) ((hf 4 14 (by kernel_rfl) rfl).trans hv4)
        refine ls_fr hF ?_
        refine ls_val (v := .bool (!t7)) rfl rfl (by kernel_rfl) (fun w => by kernel_rfl) ?_
        exact ls_fin s0 (.bool (!t7)) (congrArg (fun z => upd z 15 _) hF.symm) ⟨rfl, rfl⟩ (sub_nil _)
      obtain ⟨s2_6, hs2_6⟩ : ∃ z : Value → Sto → Prop, z = (fun v R => v = .bool (!t7) ∧ R = s0) := ⟨_, rfl⟩
      refine have_op (l := [_, _, _, _, _, _, _, _, _, _, _, _, _, _, _, _, _, _, _, _, _, _, _, _]) shadowboxref09_Valid.tab0 0 6 (fun sp => sp 6 = s2_6 ∧ sp 5 = s2_5) (fun sp on hA hon => ?_) (fun ops2_6 => ?_)
      · refine ⟨fun o ho vs Rs f' S' w hp hf hx hS hR hs => ?_⟩
        obtain rfl := Option.some.inj ho
        obtain ⟨hv5, hR5⟩ := (spe hA.2 hs2_5 (hp 5 (by kernel_rfl)))
        rw [hA.1, hs2_6]
        refine And.intro (fun a ha => (want_none rfl a ha).trans hon.symm) (And.intro (fun _ => ?_) (fun h => by rw [hon] at h; cases h))
        have hF := fr_next (rfl) ((hf 5 15 (by kernel_rfl) rfl).trans hv5)
        refine ls_fr hF ?_
        refine ls_val (v := .bool (!t7)) rfl rfl (by kernel_rfl) (fun w => by kernel_rfl) ?_
        exact ls_fin s0 (.bool (!t7)) (congrArg (fun z => upd z 16 _) hF.symm) ⟨rfl, rfl⟩ (sub_nil _)
      by_cases q10 : t7 = true
      · replace H := ite_t q10 H
        obtain ⟨s2_7, hs2_7⟩ : ∃ z : Value → Sto → Prop, z = (fun v R => v = .int .i64 x3_1 ∧ R = s0) := ⟨_, rfl⟩
        refine have_op (l := [_, _, _, _, _, _, _, _, _, _, _, _, _, _, _, _, _, _, _, _, _, _, _, _]) shadowboxref09_Valid.tab0 0 7 (fun sp => sp 7 = s2_7 ∧ sp 6 = s2_6) (fun sp on hA hon => ?_) (fun ops2_7 => ?_)
        · refine ⟨fun o ho vs Rs f' S' w hp hf hx hS hR hs => ?_⟩
          obtain rfl := Option.some.inj ho
          obtain ⟨hv6, hR6⟩ := (spe hA.2 hs2_6 (hp 6 (by kernel_rfl)))
          rw [hA.1, hs2_7]
          refine And.intro (fun a ha => (want_is (j := 6) (t := 16) (r := true) rfl rfl (by kernel_rfl) (((hf 6 16 (by kernel_rfl) rfl).trans hv6).trans (congrArg Value.bool (show (!t7) = false from congrArg Bool.not (q10)))) rfl a ha).trans hon.symm) (And.intro (fun _ => ?_) (fun h => by rw [hon] at h; cases h))
          have hF := fr_next (fr_next (rfl) ((hx 3 (by kernel_rfl)).trans (by kernel_rfl : (_ : Value) = .int .i64 x3_1))) (((hf 6 16 (by kernel_rfl) rfl).trans hv6).trans (congrArg Value.bool (show (!t7) = false from congrArg Bool.not (q10))))
          refine ls_fr hF ?_
          refine ls_val (v := .int .i64 x3_1) rfl rfl (by kernel_rfl) (fun w => by kernel_rfl) ?_
          exact ls_fin s0 (.int .i64 x3_1) (congrArg (fun z => upd z 17 _) hF.symm) ⟨rfl, rfl⟩ (sub_nil _)
        obtain ⟨s2_8, hs2_8⟩ : ∃ z : Value → Sto → Prop, z = (fun v R => v = .bool (decide (x3_1 > (0 : Int))) ∧ R = s0) := ⟨_, rfl⟩
        refine have_op (l := [_, _, _, _, _, _, _, _, _, _, _, _, _, _, _, _, _, _, _, _, _, _, _, _]) shadowboxref09_Valid.tab0 0 8 (fun sp => sp 8 = s2_8 ∧ sp 6 = s2_6 ∧ sp 7 = s2_7) (fun sp on hA hon => ?_) (fun ops2_8 => ?_)
        · refine ⟨fun o ho vs Rs f' S' w hp hf hx hS hR hs => ?_⟩
          obtain rfl := Option.some.inj ho
          obtain ⟨hv6, hR6⟩ := (spe hA.2.1 hs2_6 (hp 6 (by kernel_rfl)))
          obtain ⟨hv7, hR7⟩ := (spe hA.2.2 hs2_7 (hp 7 (by kernel_rfl)))
          rw [hA.1, hs2_8]
          refine And.intro (fun a ha => (want_is (j := 6) (t := 16) (r := true) rfl rfl (by kernel_rfl) (((hf 6 16 (by kernel_rfl) rfl).trans hv6).trans (congrArg Value.bool (show (!t7) = false from congrArg Bool.not (q10)))) rfl a ha).trans hon.symm) (And.intro (fun _ => ?_) (fun h => by rw [hon] at h; cases h))
          have hF := fr_next (fr_next (rfl) (((hf 6 16 (by kernel_rfl) rfl).trans hv6).trans (congrArg Value.bool (show (!t7) = false from congrArg Bool.not (q10))))) ((hf 7 17 (by kernel_rfl) rfl).trans hv7)
          refine ls_fr hF ?_
          refine ls_val (v := .bool (decide (x3_1 > (0 : Int)))) rfl rfl (by kernel_rfl) (fun w => by kernel_rfl) ?_
          exact ls_fin s0 (.bool (decide (x3_1 > (0 : Int)))) (congrArg (fun z => upd z 18 _) hF.symm) ⟨rfl, rfl⟩ (sub_nil _)
        obtain ⟨s2_9, hs2_9⟩ : ∃ z : Value → Sto → Prop, z = (fun v R => v = .bool (decide (x3_1 > (0 : Int))) ∧ R = s0) := ⟨_, rfl⟩
        refine have_op (l := [_, _, _, _, _, _, _, _, _, _, _, _, _, _, _, _, _, _, _, _, _, _, _, _]) shadowboxref09_Valid.tab0 0 9 (fun sp => sp 9 = s2_9 ∧ sp 6 = s2_6 ∧ sp 8 = s2_8) (fun sp on hA hon => ?_) (fun ops2_9 => ?_)
        · refine ⟨fun o ho vs Rs f' S' w hp hf hx hS hR hs => ?_⟩
          obtain rfl := Option.some.inj ho
          obtain ⟨hv6, hR6⟩ := (spe hA.2.1 hs2_6 (hp 6 (by kernel_rfl)))
          obtain ⟨hv8, hR8⟩ := (spe hA.2.2 hs2_8 (hp 8 (by kernel_rfl)))
          rw [hA.1, hs2_9]
          refine And.intro (fun a ha => (want_is (j := 6) (t := 16) (r := true) rfl rfl (by kernel_rfl) (((hf 6 16 (by kernel_rfl) rfl).trans hv6).trans (congrArg Value.bool (show (!t7) = false from congrArg Bool.not (q10)))) rfl a ha).trans hon.symm) (And.intro (fun _ => ?_) (fun h => by rw [hon] at h; cases h))
          have hF := fr_next (fr_next (rfl) (((hf 6 16 (by kernel_rfl) rfl).trans hv6).trans (congrArg Value.bool (show (!t7) = false from congrArg Bool.not (q10))))) ((hf 8 18 (by kernel_rfl) rfl).trans hv8)
          refine ls_fr hF ?_
          refine ls_val (v := .bool (decide (x3_1 > (0 : Int)))) rfl rfl (by kernel_rfl) (fun w => by kernel_rfl) ?_
          exact ls_fin s0 (.bool (decide (x3_1 > (0 : Int)))) (congrArg (fun z => upd z 19 _) hF.symm) ⟨rfl, rfl⟩ (sub_nil _)
        by_cases q11 : x3_1 > (0 : Int)
        · replace H := ite_t q11 H
          obtain ⟨s2_10, hs2_10⟩ : ∃ z : Value → Sto → Prop, z = (fun v R => v = .slice A0 l0.length c0 ∧ R = s0) := ⟨_, rfl⟩
          refine have_op (l := [_, _, _, _, _, _, _, _, _, _, _, _, _, _, _, _, _, _, _, _, _, _, _, _]) shadowboxref09_Valid.tab0 0 10 (fun sp => sp 10 = s2_10 ∧ sp 9 = s2_9) (fun sp on hA hon => ?_) (fun ops2_10 => ?_)
          · refine ⟨fun o ho vs Rs f' S' w hp hf hx hS hR hs => ?_⟩
            obtain rfl := Option.some.inj ho
            obtain ⟨hv9, hR9⟩ := (spe hA.2 hs2_9 (hp 9 (by kernel_rfl)))
            rw [hA.1, hs2_10]
            refine And.intro (fun a ha => (want_is (j := 9) (t := 19) (r := true) rfl rfl (by kernel_rfl) (((hf 9 19 (by kernel_rfl) rfl).trans hv9).trans (congrArg Value.bool (show (decide (x3_1 > (0 : Int))) = true from dec_t q11))) rfl a ha).trans hon.symm) (And.intro (fun _ => ?_) (fun h => by rw [hon] at h; cases h))
            have hF := fr_next (fr_next (rfl) ((hx 0 (by kernel_rfl)).trans (by kernel_rfl : (_ : Value) = .slice A0 l0.length c0))) (((hf 9 19 (by kernel_rfl) rfl).trans hv9).trans (congrArg Value.bool (show (decide (x3_1 > (0 : Int))) = true from dec_t q11)))
            refine ls_fr hF ?_
            refine ls_val (v := .slice A0 l0.length c0) rfl rfl (by kernel_rfl) (fun w => by kernel_rfl) ?_
            exact ls_fin s0 (.slice A0 l0.length c0) (congrArg (fun z => upd z 20 _) hF.symm) ⟨rfl, rfl⟩ (sub_nil _)
          obtain ⟨s2_11, hs2_11⟩ : ∃ z : Value → Sto → Prop, z = (fun v R => v = .int .i64 x3_1 ∧ R = s0) := ⟨_, rfl⟩
          refine have_op (l := [_, _, _, _, _, _, _, _, _, _, _, _, _, _, _, _, _, _, _, _, _, _, _, _]) shadowboxref09_Valid.tab0 0 11 (fun sp => sp 11 = s2_11 ∧ sp 9 = s2_9) (fun sp on hA hon => ?_) (fun ops2_11 => ?_)
          · refine ⟨fun o ho vs Rs f' S' w hp hf hx hS hR hs => ?_⟩
            obtain rfl := Option.some.inj ho
            obtain ⟨hv9, hR9⟩ := (spe hA.2 hs2_9 (hp 9 (by kernel_rfl)))
            rw [hA.1, hs2_11]
            refine And.intro (fun a ha => (want_is (j := 9) (t := 19) (r := true) rfl rfl (by kernel_rfl) (((hf 9 19 (by kernel_rfl) rfl).trans hv9).trans (congrArg Value.bool (show (decide (x3_1 > (0 : Int))) = true from dec_t q11))) rfl a ha).trans hon.symm) (And.intro (fun _ => ?_) (fun h => by rw [hon] at h; cases h))
            have hF := fr_next (fr_next (rfl) ((hx 3 (by kernel_rfl)).trans (by kernel_rfl : (_ : Value) = .int .i64 x3_1))) (((hf 9 19 (by kernel_rfl) rfl).trans hv9).trans (congrArg Value.bool (show (decide (x3_1 > (0 : Int))) = true from dec_t q11)))
            refine ls_fr hF ?_
            refine ls_val (v := .int .i64 x3_1) rfl rfl (by kernel_rfl) (fun w => by kernel_rfl) ?_
            exact ls_fin s0 (.int .i64 x3_1) (congrArg (fun z => upd z 21 _) hF.symm) ⟨rfl, rfl⟩ (sub_nil _)
          obtain ⟨ad12, hA13⟩ := ido_at (T := T31) (l := l0) (i := x3_1) R0 q3 q4
          obtain ⟨s2_12, hs2_12⟩ : ∃ z : Value → Sto → Prop, z = (fun v R => v = .pointer (some (ad12.add ((x3_1).toNat * 2))) ∧ R = s0) := ⟨_, rfl⟩
          refine have_op (l := [_, _, _, _, _, _, _, _, _, _, _, _, _, _, _, _, _, _, _, _, _, _, _, _]) shadowboxref09_Valid.tab0 0 12 (fun sp => sp 12 = s2_12 ∧ sp 9 = s2_9 ∧ sp 10 = s2_10 ∧ sp 11 = s2_11) (fun sp on hA hon => ?_) (fun ops2_12 => ?_)
          · refine ⟨fun o ho vs Rs f' S' w hp hf hx hS hR hs => ?_⟩
            obtain rfl := Option.some.inj ho
            obtain ⟨hv9, hR9⟩ := (spe hA.2.1 hs2_9 (hp 9 (by kernel_rfl)))
            obtain ⟨hv10, hR10⟩ := (spe hA.2.2.1 hs2_10 (hp 10 (by kernel_rfl)))
            obtain ⟨hv11, hR11⟩ := (spe hA.2.2.2 hs2_11 (hp 11 (by kernel_rfl)))
            rw [hA.1, hs2_12]
            refine And.intro (fun a ha => (want_is (j := 9) (t := 19) (r := true) rfl rfl (by kernel_rfl) (((hf 9 19 (by kernel_rfl) rfl).trans hv9).trans (congrArg Value.bool (show (decide (x3_1 > (0 : Int))) = true from dec_t q11))) rfl a ha).trans hon.symm) (And.intro (fun _ => ?_) (fun h => by rw [hon] at h; cases h))
            have hF := fr_next (fr_next (fr_next (rfl) (((hf 9 19 (by kernel_rfl) rfl).trans hv9).trans (congrArg Value.bool (show (decide (x3_1 > (0 : Int))) = true from dec_t q11)))) ((hf 10 20 (by kernel_rfl) rfl).trans hv10)) ((hf 11 21 (by kernel_rfl) rfl).trans hv11)
            refine ls_fr hF ?_
            refine ls_idxv T31 (A := A0) (c := c0) (l := l0) (k := .i64) (i := x3_1) (z := 2) (ad := ad12) rfl rfl (by kernel_rfl) hA13 rfl (by kernel_rfl) (by kernel_rfl) (by kernel_rfl) (by kernel_rfl) q3 q4 ?_
            exact ls_fin s0 (.pointer (some (ad12.add ((x3_1).toNat * 2)))) (congrArg (fun z => upd z 22 _) hF.symm) ⟨rfl, rfl⟩ (sub_nil _)
          obtain ⟨s2_13, hs2_13⟩ : ∃ z : Value → Sto → Prop, z = (fun v R => v = .pointer (some (ad12.add (((x3_1).toNat * 2) + 0))) ∧ R = s0) := ⟨_, rfl⟩
          refine have_op (l := [_, _, _, _, _, _, _, _, _, _, _, _, _, _, _, _, _, _, _, _, _, _, _, _]) shadowboxref09_Valid.tab0 0 13 (fun sp => sp 13 = s2_13 ∧ sp 9 = s2_9 ∧ sp 12 = s2_12) (fun sp on hA hon => ?_) (fun ops2_13 => ?_)
          · refine ⟨fun o ho vs Rs f' S' w hp hf hx hS hR hs => ?_⟩
            obtain rfl := Option.some.inj ho
            obtain ⟨hv9, hR9⟩ := (spe hA.2.1 hs2_9 (hp 9 (by kernel_rfl)))
            obtain ⟨hv12, hR12⟩ := (spe hA.2.2 hs2_12 (hp 12 (by kernel_rfl)))
            rw [hA.1, hs2_13]
            refine And.intro (fun a ha => (want_is (j := 9) (t := 19) (r := true) rfl rfl (by kernel_rfl) (((hf 9 19 (by kernel_rfl) rfl).trans hv9).trans (congrArg Value.bool (show (decide (x3_1 > (0 : Int))) = true from dec_t q11))) rfl a ha).trans hon.symm) (And.intro (fun _ => ?_) (fun h => by rw [hon] at h; cases h))
            have hF := fr_next (fr_next (rfl) (((hf 9 19 (by kernel_rfl) rfl).trans hv9).trans (congrArg Value.bool (show (decide (x3_1 > (0 : Int))) = true from dec_t q11)))) ((hf 12 22 (by kernel_rfl) rfl).trans hv12)
            refine ls_fr hF ?_
            refine ls_fieldm (ad := ad12) (off := ((x3_1).toNat * 2)) rfl rfl (by kernel_rfl) 0 (fun w => by kernel_rfl) ?_
            exact ls_fin s0 (.pointer (some (ad12.add (((x3_1).toNat * 2) + 0)))) (congrArg (fun z => upd z 23 _) hF.symm) ⟨rfl, rfl⟩ (sub_nil _)
          obtain ⟨y14, hy15, H⟩ := lt_some H
          obtain ⟨s2_14, hs2_14⟩ : ∃ z : Value → Sto → Prop, z = (fun v R => v = .int .i64 y14 ∧ R = s0) := ⟨_, rfl⟩
          refine have_op (l := [_, _, _, _, _, _, _, _, _, _, _, _, _, _, _, _, _, _, _, _, _, _, _, _]) shadowboxref09_Valid.tab0 0 14 (fun sp => sp 14 = s2_14 ∧ sp 9 = s2_9 ∧ sp 13 = s2_13) (fun sp on hA hon => ?_) (fun ops2_14 => ?_)
          · refine ⟨fun o ho vs Rs f' S' w hp hf hx hS hR hs => ?_⟩
            obtain rfl := Option.some.inj ho
            obtain ⟨hv9, hR9⟩ := (spe hA.2.1 hs2_9 (hp 9 (by kernel_rfl)))
            obtain ⟨hv13, hR13⟩ := (spe hA.2.2 hs2_13 (hp 13 (by kernel_rfl)))
            rw [hA.1, hs2_14]
            refine And.intro (fun a ha => (want_is (j := 9) (t := 19) (r := true) rfl rfl (by kernel_rfl) (((hf 9 19 (by kernel_rfl) rfl).trans hv9).trans (congrArg Value.bool (show (decide (x3_1 > (0 : Int))) = true from dec_t q11))) rfl a ha).trans hon.symm) (And.intro (fun _ => ?_) (fun h => by rw [hon] at h; cases h))
            have hF := fr_next (fr_next (rfl) (((hf 9 19 (by kernel_rfl) rfl).trans hv9).trans (congrArg Value.bool (show (decide (x3_1 > (0 : Int))) = true from dec_t q11)))) ((hf 13 23 (by kernel_rfl) rfl).trans hv13)
            refine ls_fr hF ?_
            refine ls_load (a0 := (ad12.add (((x3_1).toNat * 2) + 0))) (v := .int .i64 (((l0).getD (x3_1).toNat ((0 : Int), (0 : Int))).1)) (de := (TypeDesc.int .i64)) rfl rfl (by kernel_rfl) rfl (by kernel_rfl) (by kernel_rfl) (by kernel_rfl) (fun w1 hs1 => (Rd.step (hs.old R0) hs1.below.bw).at hA13 (Sub4.trans (em_sub T31 l0 (i := (x3_1).toNat) (by have h0 : (0 : Int) ≤ x3_1 := q3; have h1 : x3_1 < (l0.length : Int) := q4; omega)) (Sub4.head _ _))) ?_
            refine ls_ren 24 (v := .int .i64 (((l0).getD (x3_1).toNat ((0 : Int), (0 : Int))).1)) (v' := .int .i64 y14) (by kernel_rfl) (by rw [hy15]) ?_
            exact ls_fin s0 (.int .i64 y14) ((upd_upd _ _ _ _).trans (congrArg (fun z => upd z 24 _) hF.symm)) ⟨rfl, rfl⟩ (sub_nil _)
          obtain ⟨s2_15, hs2_15⟩ : ∃ z : Value → Sto → Prop, z = (fun v R => v = .slice A0 l0.length c0 ∧ R = s0) := ⟨_, rfl⟩
          refine have_op (l := [_, _, _, _, _, _, _, _, _, _, _, _, _, _, _, _, _, _, _, _, _, _, _, _]) shadowboxref09_Valid.tab0 0 15 (fun sp => sp 15 = s2_15 ∧ sp 9 = s2_9) (fun sp on hA hon => ?_) (fun ops2_15 => ?_)
          · refine ⟨fun o ho vs Rs f' S' w hp hf hx hS hR hs => ?_⟩
            obtain rfl := Option.some.inj ho
            obtain ⟨hv9, hR9⟩ := (spe hA.2 hs2_9 (hp 9 (by kernel_rfl)))
            rw [hA.1, hs2_15]
            refine And.intro (fun a ha => (want_is (j := 9) (t := 19) (r := true) rfl rfl (by kernel_rfl) (((hf 9 19 (by kernel_rfl) rfl).trans hv9).trans (congrArg Value.bool (show (decide (x3_1 > (0 : Int))) = true from dec_t q11))) rfl a ha).trans hon.symm) (And.intro (fun _ => ?_) (fun h => by rw [hon] at h; cases h))
            have hF := fr_next (fr_next (rfl) ((hx 0 (by kernel_rfl)).trans (by kernel_rfl : (_ : Value) = .slice A0 l0.length c0))) (((hf 9 19 (by kernel_rfl) rfl).trans hv9).trans (congrArg Value.bool (show (decide (x3_1 > (0 : Int))) = true from dec_t q11)))
            refine ls_fr hF ?_
            refine ls_val (v := .slice A0 l0.length c0) rfl rfl (by kernel_rfl) (fun w => by kernel_rfl) ?_
            exact ls_fin s0 (.slice A0 l0.length c0) (congrArg (fun z => upd z 25 _) hF.symm) ⟨rfl, rfl⟩ (sub_nil _)
          obtain ⟨s2_16, hs2_16⟩ : ∃ z : Value → Sto → Prop, z = (fun v R => v = .int .i64 x3_1 ∧ R = s0) := ⟨_, rfl⟩
          refine have_op (l := [_, _, _, _, _, _, _, _, _, _, _, _, _, _, _, _, _, _, _, _, _, _, _, _]) shadowboxref09_Valid.tab0 0 16 (fun sp => sp 16 = s2_16 ∧ sp 9 = s2_9) (fun sp on hA hon => ?_) (fun ops2_16 => ?_)
          · refine ⟨fun o ho vs Rs f' S' w hp hf hx hS hR hs => ?_⟩
            obtain rfl := Option.some.inj ho
            obtain ⟨hv9, hR9⟩ := (spe hA.2 hs2_9 (hp 9 (by kernel_rfl)))
            rw [hA.1, hs2_16]
            refine And.intro (fun a ha => (want_is (j := 9) (t := 19) (r := true) rfl rfl (by kernel_rfl) (((hf 9 19 (by kernel_rfl) rfl).trans hv9).trans (congrArg Value.bool (show (decide (x3_1 > (0 : Int))) = true from dec_t q11))) rfl a ha).trans hon.symm) (And.intro (fun _ => ?_) (fun h => by rw [hon] at h; cases h))
            have hF := fr_next (fr_next (rfl) ((hx 3 (by kernel_rfl)).trans (by kernel_rfl : (_ : Value) = .int .i64 x3_1))) (((hf 9 19 (by kernel_rfl) rfl).trans hv9).trans (congrArg Value.bool (show (decide (x3_1 > (0 : Int))) = true from dec_t q11)))
            refine ls_fr hF ?_
            refine ls_val (v := .int .i64 x3_1) rfl rfl (by kernel_rfl) (fun w => by kernel_rfl) ?_
            exact ls_fin s0 (.int .i64 x3_1) (congrArg (fun z => upd z 26 _) hF.symm) ⟨rfl, rfl⟩ (sub_nil _)
          obtain ⟨s2_17, hs2_17⟩ : ∃ z : Value → Sto → Prop, z = (fun v R => v = .int .i64 (IntKind.wrap .i64 (x3_1 - (1 : Int))) ∧ R = s0) := ⟨_, rfl⟩
          refine have_op (l := [_, _, _, _, _, _, _, _, _, _, _, _, _, _, _, _, _, _, _, _, _, _, _, _]) shadowboxref09_Valid.tab0 0 17 (fun sp => sp 17 = s2_17 ∧ sp 9 = s2_9 ∧ sp 16 = s2_16) (fun sp on hA hon => ?_) (fun ops2_17 => ?_)
          · refine ⟨fun o ho vs Rs f' S' w hp hf hx hS hR hs => ?_⟩
            obtain rfl := Option.some.inj ho
            obtain ⟨hv9, hR9⟩ := (spe hA.2.1 hs2_9 (hp 9 (by kernel_rfl)))
            obtain ⟨hv16, hR16⟩ := (spe hA.2.2 hs2_16 (hp 16 (by kernel_rfl)))
            rw [hA.1, hs2_17]
            refine And.intro (fun a ha => (want_is (j := 9) (t := 19) (r := true) rfl rfl (by kernel_rfl) (((hf 9 19 (by kernel_rfl) rfl).trans hv9).trans (congrArg Value.bool (show (decide (x3_1 > (0 : Int))) = true from dec_t q11))) rfl a ha).trans hon.symm) (And.intro (fun _ => ?_) (fun h => by rw [hon] at h; cases h))
            have hF := fr_next (fr_next (rfl) (((hf 9 19 (by kernel_rfl) rfl).trans hv9).trans (congrArg Value.bool (show (decide (x3_1 > (0 : Int))) = true from dec_t q11)))) ((hf 16 26 (by kernel_rfl) rfl).trans hv16)
            refine ls_fr hF ?_
            refine ls_val (v := .int .i64 (IntKind.wrap .i64 (x3_1 - (1 : Int)))) rfl rfl (by kernel_rfl) (fun w => by kernel_rfl) ?_
            exact ls_fin s0 (.int .i64 (IntKind.wrap .i64 (x3_1 - (1 : Int)))) (congrArg (fun z => upd z 27 _) hF.symm) ⟨rfl, rfl⟩ (sub_nil _)
          obtain ⟨q16, H⟩ := ite_need H
          obtain ⟨q17, H⟩ := ite_need H
          obtain ⟨ad18, hA19⟩ := ido_at (T := T31) (l := l0) (i := IntKind.wrap .i64 (x3_1 - (1 : Int))) R0 q16 q17
          obtain ⟨s2_18, hs2_18⟩ : ∃ z : Value → Sto → Prop, z = (fun v R => v = .pointer (some (ad18.add ((IntKind.wrap .i64 (x3_1 - (1 : Int))).toNat * 2))) ∧ R = s0) := ⟨_, rfl⟩
          refine have_op (l := [_, _, _, _, _, _, _, _, _, _, _, _, _, _, _, _, _, _, _, _, _, _, _, _]) shadowboxref09_Valid.tab0 0 18 (fun sp => sp 18 = s2_18 ∧ sp 9 = s2_9 ∧ sp 15 = s2_15 ∧ sp 17 = s2_17) (fun sp on hA hon => ?_) (fun ops2_18 => ?_)
          · refine ⟨fun o ho vs Rs f' S' w hp hf hx hS hR hs => ?_⟩
            obtain rfl := Option.some.inj ho
            obtain ⟨hv9, hR9⟩ := (spe hA.2.1 hs2_9 (hp 9 (by kernel_rfl)))
            obtain ⟨hv15, hR15⟩ := (spe hA.2.2.1 hs2_15 (hp 15 (by kernel_rfl)))
            obtain ⟨hv17, hR17⟩ := (spe hA.2.2.2 hs2_17 (hp 17 (by kernel_rfl)))
            rw [hA.1, hs2_18]
            refine And.intro (fun a ha => (want_is (j := 9) (t := 19) (r := true) rfl rfl (by kernel_rfl) (((hf 9 19 (by kernel_rfl) rfl).trans hv9).trans (congrArg Value.bool (show (decide (x3_1 > (0 : Int))) = true from dec_t q11))) rfl a ha).trans hon.symm) (And.intro (fun _ => ?_) (fun h => by rw [hon] at h; cases h))
            have hF := fr_next (fr_next (fr_next (rfl) (((hf 9 19 (by kernel_rfl) rfl).trans hv9).trans (congrArg Value.bool (show (decide (x3_1 > (0 : Int))) = true from dec_t q11)))) ((hf 15 25 (by kernel_rfl) rfl).trans hv15)) ((hf 17 27 (by kernel_rfl) rfl).trans hv17)
            refine ls_fr hF ?_
            refine ls_idxv T31 (A := A0) (c := c0) (l := l0) (k := .i64) (i := IntKind.wrap .i64 (x3_1 - (1 : Int))) (z := 2) (ad := ad18) rfl rfl (by kernel_rfl) hA19 rfl (by kernel_rfl) (by kernel_rfl) (by kernel_rfl) (by kernel_rfl) q16 q17 ?_
            exact ls_fin s0 (.pointer (some (ad18.add ((IntKind.wrap .i64 (x3_1 - (1 : Int))).toNat * 2)))) (congrArg (fun z => upd z 28 _) hF.symm) ⟨rfl, rfl⟩ (sub_nil _)
          obtain ⟨s2_19, hs2_19⟩ : ∃ z : Value → Sto → Prop, z = (fun v R => v = .pointer (some (ad18.add (((IntKind.wrap .i64 (x3_1 - (1 : Int))).toNat * 2) + 1))) ∧ R = s0) := ⟨_, rfl⟩
          refine have_op (l := [_, _, _, _, _, _, _, _, _, _, _, _, _, _, _, _, _, _, _, _, _, _, _, _]) shadowboxref09_Valid.tab0 0 19 (fun sp => sp 19 = s2_19 ∧ sp 9 = s2_9 ∧ sp 18 = s2_18) (fun sp on hA hon => ?_) (fun ops2_19 => ?_)
          · refine ⟨fun o ho vs Rs f' S' w hp hf hx hS hR hs => ?_⟩
            obtain rfl := Option.some.inj ho
            obtain ⟨hv9, hR9⟩ := (spe hA.2.1 hs2_9 (hp 9 (by kernel_rfl)))
            obtain ⟨hv18, hR18⟩ := (spe hA.2.2 hs2_18 (hp 18 (by kernel_rfl)))
            rw [hA.1, hs2_19]
            refine And.intro (fun a ha => (want_is (j := 9) (t := 19) (r := true) rfl rfl (by kernel_rfl) (((hf 9 19 (by kernel_rfl) rfl).trans hv9).trans (congrArg Value.bool (show (decide (x3_1 > (0 : Int))) = true from dec_t q11))) rfl a ha).trans hon.symm) (And.intro (fun _ => ?_) (fun h => by rw [hon] at h; cases h))
            have hF := fr_next (fr_next (rfl) (((hf 9 19 (by kernel_rfl) rfl).trans hv9).trans (congrArg Value.bool (show (decide (x3_1 > (0 : Int))) = true from dec_t q11)))) ((hf 18 28 (by kernel_rfl) rfl).trans hv18)
            refine ls_fr hF ?_
            refine ls_fieldm (ad := ad18) (off := ((IntKind.wrap .i64 (x3_1 - (1 : Int))).toNat * 2)) rfl rfl (by kernel_rfl) 1 (fun w => by kernel_rfl) ?_
            exact ls_fin s0 (.pointer (some (ad18.add (((IntKind.wrap .i64 (x3_1 - (1 : Int))).toNat * 2) + 1)))) (congrArg (fun z => upd z 29 _) hF.symm) ⟨rfl, rfl⟩ (sub_nil _)
          obtain ⟨y20, hy21, H⟩ := lt_some H
          obtain ⟨s2_20, hs2_20⟩ : ∃ z : Value → Sto → Prop, z = (fun v R => v = .int .i64 y20 ∧ R = s0) := ⟨_, rfl⟩
          refine have_op (l := [_, _, _, _, _, _, _, _, _, _, _, _, _, _, _, _, _, _, _, _, _, _, _, _]) shadowboxref09_Valid.tab0 0 20 (fun sp => sp 20 = s2_20 ∧ sp 9 = s2_9 ∧ sp 19 = s2_19) (fun sp on hA hon => ?_) (fun ops2_20 => ?_)
          · refine ⟨fun o ho vs Rs f' S' w hp hf hx hS hR hs => ?_⟩
            obtain rfl := Option.some.inj ho
            obtain ⟨hv9, hR9⟩ := (spe hA.2.1 hs2_9 (hp 9 (by kernel_rfl)))
            obtain ⟨hv19, hR19⟩ := (spe hA.2.2 hs2_19 (hp 19 (by kernel_rfl)))
            rw [hA.1, hs2_20]
            refine And.intro (fun a ha => (want_is (j := 9) (t := 19) (r := true) rfl rfl (by kernel_rfl) (((hf 9 19 (by kernel_rfl) rfl).trans hv9).trans (congrArg Value.bool (show (decide (x3_1 > (0 : Int))) = true from dec_t q11))) rfl a ha).trans hon.symm) (And.intro (fun _ => ?_) (fun h => by rw [hon] at h; cases h))
            have hF := fr_next (fr_next (rfl) (((hf 9 19 (by kernel_rfl) rfl).trans hv9).trans (congrArg Value.bool (show (decide (x3_1 > (0 : Int))) = true from dec_t q11)))) ((hf 19 29 (by kernel_rfl) rfl).trans hv19)
            refine ls_fr hF ?_
            refine ls_load (a0 := (ad18.add (((IntKind.wrap .i64 (x3_1 - (1 : Int))).toNat * 2) + 1))) (v := .int .i64 (((l0).getD (IntKind.wrap .i64 (x3_1 - (1 : Int))).toNat ((0 : Int), (0 : Int))).2)) (de := (TypeDesc.int .i64)) rfl rfl (by kernel_rfl) rfl (by kernel_rfl) (by kernel_rfl) (by kernel_rfl) (fun w1 hs1 => (Rd.step (hs.old R0) hs1.below.bw).at hA19 (Sub4.trans (em_sub T31 l0 (i := (IntKind.wrap .i64 (x3_1 - (1 : Int))).toNat) (by have h0 : (0 : Int) ≤ IntKind.wrap .i64 (x3_1 - (1 : Int)) := q16; have h1 : IntKind.wrap .i64 (x3_1 - (1 : Int)) < (l0.length : Int) := q17; omega)) (Sub4.skip (n := 1) (len1 _) (Sub4.all _)))) ?_
            refine ls_ren 30 (v := .int .i64 (((l0).getD (IntKind.wrap .i64 (x3_1 - (1 : Int))).toNat ((0 : Int), (0 : Int))).2)) (v' := .int .i64 y20) (by kernel_rfl) (by rw [hy21]) ?_
            exact ls_fin s0 (.int .i64 y20) ((upd_upd _ _ _ _).trans (congrArg (fun z => upd z 30 _) hF.symm)) ⟨rfl, rfl⟩ (sub_nil _)
          refine cs_draw shadowboxref09_Valid.tab0 21 0 (spl [s2_0, s2_1, s2_2, s2_3, s2_4, s2_5, s2_6, s2_7, s2_8, s2_9, s2_10, s2_11, s2_12, s2_13, s2_14, s2_15, s2_16, s2_17, s2_18, s2_19, s2_20]) (onl [true, true, true, true, true, true, true, true, true, true, true, true, true, true, true, true, true, true, true, true, true]) (by kernel_rfl) (by kernel_rfl) (by kernel_rfl) (by kernel_rfl) (rs := [_, _, _]) rfl (by kernel_rfl) (by kernel_rfl) (all_snoc (all_snoc (all_snoc (all_snoc (all_snoc (all_snoc (all_snoc (all_snoc (all_snoc (all_snoc (all_snoc (all_snoc (all_snoc (all_snoc (all_snoc (all_snoc (all_snoc (all_snoc (all_snoc (all_snoc (all_snoc (all_nil) (ops2_0 _ _ rfl rfl)) (ops2_1 _ _ rfl rfl)) (ops2_2 _ _ ⟨rfl, rfl, rfl⟩ rfl)) (ops2_3 _ _ ⟨rfl, rfl⟩ rfl)) (ops2_4 _ _ ⟨rfl, rfl⟩ rfl)) (ops2_5 _ _ ⟨rfl, rfl⟩ rfl)) (ops2_6 _ _ ⟨rfl, rfl⟩ rfl)) (ops2_7 _ _ ⟨rfl, rfl⟩ rfl)) (ops2_8 _ _ ⟨rfl, rfl, rfl⟩ rfl)) (ops2_9 _ _ ⟨rfl, rfl, rfl⟩ rfl)) (ops2_10 _ _ ⟨rfl, rfl⟩ rfl)) (ops2_11 _ _ ⟨rfl, rfl⟩ rfl)) (ops2_12 _ _ ⟨rfl, rfl, rfl, rfl⟩ rfl)) (ops2_13 _ _ ⟨rfl, rfl, rfl⟩ rfl)) (ops2_14 _ _ ⟨rfl, rfl, rfl⟩ rfl)) (ops2_15 _ _ ⟨rfl, rfl⟩ rfl)) (ops2_16 _ _ ⟨rfl, rfl⟩ rfl)) (ops2_17 _ _ ⟨rfl, rfl, rfl⟩ rfl)) (ops2_18 _ _ ⟨rfl, rfl, rfl, rfl⟩ rfl)) (ops2_19 _ _ ⟨rfl, rfl, rfl⟩ rfl)) (ops2_20 _ _ ⟨rfl, rfl, rfl⟩ rfl)) ?_
          intro vs Rs f' S' hp hf hx hS hR
          obtain ⟨x9, hv4, hR4⟩ := (spe rfl hs2_4 (hp 4 (by kernel_rfl)))
          obtain ⟨hv6, hR6⟩ := (spe rfl hs2_6 (hp 6 (by kernel_rfl)))
          obtain ⟨hv7, hR7⟩ := (spe rfl hs2_7 (hp 7 (by kernel_rfl)))
          obtain ⟨hv8, hR8⟩ := (spe rfl hs2_8 (hp 8 (by kernel_rfl)))
          obtain ⟨hv9, hR9⟩ := (spe rfl hs2_9 (hp 9 (by kernel_rfl)))
          obtain ⟨hv10, hR10⟩ := (spe rfl hs2_10 (hp 10 (by kernel_rfl)))
          obtain ⟨hv11, hR11⟩ := (spe rfl hs2_11 (hp 11 (by kernel_rfl)))
          obtain ⟨hv12, hR12⟩ := (spe rfl hs2_12 (hp 12 (by kernel_rfl)))
          obtain ⟨hv13, hR13⟩ := (spe rfl hs2_13 (hp 13 (by kernel_rfl)))
          obtain ⟨hv14, hR14⟩ := (spe rfl hs2_14 (hp 14 (by kernel_rfl)))
          obtain ⟨hv15, hR15⟩ := (spe rfl hs2_15 (hp 15 (by kernel_rfl)))
          obtain ⟨hv16, hR16⟩ := (spe rfl hs2_16 (hp 16 (by kernel_rfl)))
          obtain ⟨hv17, hR17⟩ := (spe rfl hs2_17 (hp 17 (by kernel_rfl)))
          obtain ⟨hv18, hR18⟩ := (spe rfl hs2_18 (hp 18 (by kernel_rfl)))
          obtain ⟨hv19, hR19⟩ := (spe rfl hs2_19 (hp 19 (by kernel_rfl)))
          obtain ⟨hv20, hR20⟩ := (spe rfl hs2_20 (hp 20 (by kernel_rfl)))
          refine ls_fr (F := upd (upd (upd (upd (upd (upd (upd (upd (upd (upd (upd (upd (upd (upd (upd (upd (upd f' 0 (.slice A0 l0.length c0)) 3 (.int .i64 x3_1)) 16 (.bool (!t7))) 17 (.int .i64 x3_1)) 18 (.bool (decide (x3_1 > (0 : Int))))) 19 (.bool (decide (x3_1 > (0 : Int))))) 20 (.slice A0 l0.length c0)) 21 (.int .i64 x3_1)) 22 (.pointer (some (ad12.add ((x3_1).toNat * 2))))) 23 (.pointer (some (ad12.add (((x3_1).toNat * 2) + 0))))) 24 (.int .i64 y14)) 25 (.slice A0 l0.length c0)) 26 (.int .i64 x3_1)) 27 (.int .i64 (IntKind.wrap .i64 (x3_1 - (1 : Int))))) 28 (.pointer (some (ad18.add ((IntKind.wrap .i64 (x3_1 - (1 : Int))).toNat * 2))))) 29 (.pointer (some (ad18.add (((IntKind.wrap .i64 (x3_1 - (1 : Int))).toNat * 2) + 1))))) 30 (.int .i64 y20)) (fr_next (fr_next (fr_next (fr_next (fr_next (fr_next (fr_next (fr_next (fr_next (fr_next (fr_next (fr_next (fr_next (fr_next (fr_next (fr_next (fr_next (rfl) ((hx 0 (by kernel_rfl)).trans (by kernel_rfl : (_ : Value) = .slice A0 l0.length c0))) ((hx 3 (by kernel_rfl)).trans (by kernel_rfl : (_ : Value) = .int .i64 x3_1))) ((hf 6 16 (by kernel_rfl) rfl).trans hv6)) ((hf 7 17 (by kernel_rfl) rfl).trans hv7)) ((hf 8 18 (by kernel_rfl) rfl).trans hv8)) ((hf 9 19 (by kernel_rfl) rfl).trans hv9)) ((hf 10 20 (by kernel_rfl) rfl).trans hv10)) ((hf 11 21 (by kernel_rfl) rfl).trans hv11)) ((hf 12 22 (by kernel_rfl) rfl).trans hv12)) ((hf 13 23 (by kernel_rfl) rfl).trans hv13)) ((hf 14 24 (by kernel_rfl) rfl).trans hv14)) ((hf 15 25 (by kernel_rfl) rfl).trans hv15)) ((hf 16 26 (by kernel_rfl) rfl).trans hv16)) ((hf 17 27 (by kernel_rfl) rfl).trans hv17)) ((hf 18 28 (by kernel_rfl) rfl).trans hv18)) ((hf 19 29 (by kernel_rfl) rfl).trans hv19)) ((hf 20 30 (by kernel_rfl) rfl).trans hv20)) ?_
          refine ls_sub (s0) (sub_nil _) ?_
          refine ls_know (c := true) (dec_t q11) 19 (by kernel_rfl) ?_
          refine ls_on (j := 9) (t := 19) (b := true) rfl rfl (by kernel_rfl) (by kernel_rfl) ?_
          refine ls_val (v := .bool (decide (y14 ≤ y20))) rfl rfl (by kernel_rfl) (fun w => by kernel_rfl) ?_
          refine ls_know (c := false) (congrArg Bool.not (q10)) 16 (by kernel_rfl) ?_
          refine ls_on (j := 6) (t := 16) (b := false) rfl rfl (by kernel_rfl) (by kernel_rfl) ?_
          refine ls_val (v := .bool (decide (y14 ≤ y20))) rfl rfl (by kernel_rfl) (fun w => by kernel_rfl) ?_
          refine ls_val (v := .bool (decide (y14 ≤ y20))) rfl rfl (by kernel_rfl) (fun w => by kernel_rfl) ?_
          refine ls_end ?_
          refine qn_then ?_
          by_cases q22 : y14 ≤ y20
          · replace H := ite_t q22 H
            refine cs_know (c := true) (dec_t q22) 33 (by kernel_rfl) ?_
            refine cs_true (by kernel_rfl) ?_
            refine cs_seq ?_
            refine cs_region (l := [_]) ?_
            refine ls_val (v := .bool false) rfl rfl (by kernel_rfl) (fun w => by kernel_rfl) ?_
            refine ls_end ?_
            refine qn_then ?_
            refine cs_ret' ?_
            refine qr_block ?_
            refine qr_then ?_
            refine qr_then ?_
            refine qr_block ?_
            refine qr_then ?_
            obtain rfl := Option.some.inj H
            refine qr_res (rs := [_]) rfl (fun w' hs => ⟨[.bool false], (res_tmp (by kernel_rfl) (.nil)), (), rfl, hs.pick (ts := []) (cs := []) trivial (by decide)⟩)
          · replace H := ite_f q22 H
            refine cs_know (c := false) (dec_f q22) 33 (by kernel_rfl) ?_
            refine cs_false (by kernel_rfl) ?_
            refine cs_skip' ?_
            refine qn_block ?_
            refine qn_then ?_
            refine cs_region (l := [_, _, _]) ?_
            refine ls_val (v := .int .i64 x3_1) rfl rfl (by kernel_rfl) (fun w => by kernel_rfl) ?_
            refine ls_val (v := .int .i64 (IntKind.wrap .i64 (x3_1 + (1 : Int)))) rfl rfl (by kernel_rfl) (fun w => by kernel_rfl) ?_
            refine ls_val (v := .int .i64 (IntKind.wrap .i64 (x3_1 + (1 : Int)))) rfl rfl (by kernel_rfl) (fun w => by kernel_rfl) ?_
            refine ls_end ?_
            refine qn_again k1 (s0) (Nat.le_refl _) ⟨_, (IntKind.wrap .i64 (x3_1 + (1 : Int))), fr_next (fr_next (rfl) (by kernel_rfl)) (by kernel_rfl), rfl, H⟩ (sub_nil _)
        · replace H := ite_f q11 H
          refine cs_draw shadowboxref09_Valid.tab0 21 0 (spl [s2_0, s2_1, s2_2, s2_3, s2_4, s2_5, s2_6, s2_7, s2_8, s2_9, spu, spu, spu, spu, spu, spu, spu, spu, spu, spu, spu]) (onl [true, true, true, true, true, true, true, true, true, true, false, false, false, false, false, false, false, false, false, false, false]) (by kernel_rfl) (by kernel_rfl) (by kernel_rfl) (by kernel_rfl) (rs := [_, _, _]) rfl (by kernel_rfl) (by kernel_rfl) (all_snoc (all_snoc (all_snoc (all_snoc (all_snoc (all_snoc (all_snoc (all_snoc (all_snoc (all_snoc (all_snoc (all_snoc (all_snoc (all_snoc (all_snoc (all_snoc (all_snoc (all_snoc (all_snoc (all_snoc (all_snoc (all_nil) (ops2_0 _ _ rfl rfl)) (ops2_1 _ _ rfl rfl)) (ops2_2 _ _ ⟨rfl, rfl, rfl⟩ rfl)) (ops2_3 _ _ ⟨rfl, rfl⟩ rfl)) (ops2_4 _ _ ⟨rfl, rfl⟩ rfl)) (ops2_5 _ _ ⟨rfl, rfl⟩ rfl)) (ops2_6 _ _ ⟨rfl, rfl⟩ rfl)) (ops2_7 _ _ ⟨rfl, rfl⟩ rfl)) (ops2_8 _ _ ⟨rfl, rfl, rfl⟩ rfl)) (ops2_9 _ _ ⟨rfl, rfl, rfl⟩ rfl)) (op_offi 10 9 19 true rfl rfl (by kernel_rfl) (by kernel_rfl) rfl (fun v R h => by rw [hs2_9] at h; obtain ⟨h, _⟩ := h; exact h.trans (congrArg Value.bool (show (decide (x3_1 > (0 : Int))) = false from dec_f q11))) rfl rfl)) (op_offi 11 9 19 true rfl rfl (by kernel_rfl) (by kernel_rfl) rfl (fun v R h => by rw [hs2_9] at h; obtain ⟨h, _⟩ := h; exact h.trans (congrArg Value.bool (show (decide (x3_1 > (0 : Int))) = false from dec_f q11))) rfl rfl)) (op_offi 12 9 19 true rfl rfl (by kernel_rfl) (by kernel_rfl) rfl (fun v R h => by rw [hs2_9] at h; obtain ⟨h, _⟩ := h; exact h.trans (congrArg Value.bool (show (decide (x3_1 > (0 : Int))) = false from dec_f q11))) rfl rfl)) (op_offi 13 9 19 true rfl rfl (by kernel_rfl) (by kernel_rfl) rfl (fun v R h => by rw [hs2_9] at h; obtain ⟨h, _⟩ := h; exact h.trans (congrArg Value.bool (show (decide (x3_1 > (0 : Int))) = false from dec_f q11))) rfl rfl)) (op_offi 14 9 19 true rfl rfl (by kernel_rfl) (by kernel_rfl) rfl (fun v R h => by rw [hs2_9] at h; obtain ⟨h, _⟩ := h; exact h.trans (congrArg Value.bool (show (decide (x3_1 > (0 : Int))) = false from dec_f q11))) rfl rfl)) (op_offi 15 9 19 true rfl rfl (by kernel_rfl) (by kernel_rfl) rfl (fun v R h => by rw [hs2_9] at h; obtain ⟨h, _⟩ := h; exact h.trans (congrArg Value.bool (show (decide (x3_1 > (0 : Int))) = false from dec_f q11))) rfl rfl)) (op_offi 16 9 19 true rfl rfl (by kernel_rfl) (by kernel_rfl) rfl (fun v R h => by rw [hs2_9] at h; obtain ⟨h, _⟩ := h; exact h.trans (congrArg Value.bool (show (decide (x3_1 > (0 : Int))) = false from dec_f q11))) rfl rfl)) (op_offi 17 9 19 true rfl rfl (by kernel_rfl) (by kernel_rfl) rfl (fun v R h => by rw [hs2_9] at h; obtain ⟨h, _⟩ := h; exact h.trans (congrArg Value.bool (show (decide (x3_1 > (0 : Int))) = false from dec_f q11))) rfl rfl)) (op_offi 18 9 19 true rfl rfl (by kernel_rfl) (by kernel_rfl) rfl (fun v R h => by rw [hs2_9] at h; obtain ⟨h, _⟩ := h; exact h.trans (congrArg Value.bool (show (decide (x3_1 > (0 : Int))) = false from dec_f q11))) rfl rfl)) (op_offi 19 9 19 true rfl rfl (by kernel_rfl) (by kernel_rfl) rfl (fun v R h => by rw [hs2_9] at h; obtain ⟨h, _⟩ := h; exact h.trans (congrArg Value.bool (show (decide (x3_1 > (0 : Int))) = false from dec_f q11))) rfl rfl)) (op_offi 20 9 19 true rfl rfl (by kernel_rfl) (by kernel_rfl) rfl (fun v R h => by rw [hs2_9] at h; obtain ⟨h, _⟩ := h; exact h.trans (congrArg Value.bool (show (decide (x3_1 > (0 : Int))) = false from dec_f q11))) rfl rfl)) ?_
          intro vs Rs f' S' hp hf hx hS hR
          obtain ⟨x9, hv4, hR4⟩ := (spe rfl hs2_4 (hp 4 (by kernel_rfl)))
          obtain ⟨hv6, hR6⟩ := (spe rfl hs2_6 (hp 6 (by kernel_rfl)))
          obtain ⟨hv7, hR7⟩ := (spe rfl hs2_7 (hp 7 (by kernel_rfl)))
          obtain ⟨hv8, hR8⟩ := (spe rfl hs2_8 (hp 8 (by kernel_rfl)))
          obtain ⟨hv9, hR9⟩ := (spe rfl hs2_9 (hp 9 (by kernel_rfl)))
          obtain ⟨hv10, hR10⟩ := (spe rfl rfl (hp 10 (by kernel_rfl)) : spu _ _)
          obtain ⟨hv11, hR11⟩ := (spe rfl rfl (hp 11 (by kernel_rfl)) : spu _ _)
          obtain ⟨hv12, hR12⟩ := (spe rfl rfl (hp 12 (by kernel_rfl)) : spu _ _)
          obtain ⟨hv13, hR13⟩ := (spe rfl rfl (hp 13 (by kernel_rfl)) : spu _ _)
          obtain ⟨hv14, hR14⟩ := (spe rfl rfl (hp 14 (by kernel_rfl)) : spu _ _)
          obtain ⟨hv15, hR15⟩ := (spe rfl rfl (hp 15 (by kernel_rfl)) : spu _ _)
          obtain ⟨hv16, hR16⟩ := (spe rfl rfl (hp 16 (by kernel_rfl)) : spu _ _)
          obtain ⟨hv17, hR17⟩ := (spe rfl rfl (hp 17 (by kernel_rfl)) : spu _ _)
          obtain ⟨hv18, hR18⟩ := (spe rfl rfl (hp 18 (by kernel_rfl)) : spu _ _)
          obtain ⟨hv19, hR19⟩ := (spe rfl rfl (hp 19 (by kernel_rfl)) : spu _ _)
          obtain ⟨hv20, hR20⟩ := (spe rfl rfl (hp 20 (by kernel_rfl)) : spu _ _)
          refine ls_fr (F := upd (upd (upd (upd (upd (upd f' 0 (.slice A0 l0.length c0)) 3 (.int .i64 x3_1)) 16 (.bool (!t7))) 17 (.int .i64 x3_1)) 18 (.bool (decide (x3_1 > (0 : Int))))) 19 (.bool (decide (x3_1 > (0 : Int))))) (fr_next (fr_next (fr_next (fr_next (fr_next (fr_next (rfl) ((hx 0 (by kernel_rfl)).trans (by kernel_rfl : (_ : Value) = .slice A0 l0.length c0))) ((hx 3 (by kernel_rfl)).trans (by kernel_rfl : (_ : Value) = .int .i64 x3_1))) ((hf 6 16 (by kernel_rfl) rfl).trans hv6)) ((hf 7 17 (by kernel_rfl) rfl).trans hv7)) ((hf 8 18 (by kernel_rfl) rfl).trans hv8)) ((hf 9 19 (by kernel_rfl) rfl).trans hv9)) ?_
          refine ls_sub (s0) (sub_nil _) ?_
          refine ls_know (c := false) (dec_f q11) 19 (by kernel_rfl) ?_
          refine ls_off (j := 9) (t := 19) (b := true) (c := false) rfl rfl (by kernel_rfl) (by kernel_rfl) rfl rfl (by kernel_rfl) ?_
          refine ls_know (c := false) (congrArg Bool.not (q10)) 16 (by kernel_rfl) ?_
          refine ls_on (j := 6) (t := 16) (b := false) rfl rfl (by kernel_rfl) (by kernel_rfl) ?_
          refine ls_val (v := .bool false) rfl rfl (by kernel_rfl) (fun w => by kernel_rfl) ?_
          refine ls_val (v := .bool false) rfl rfl (by kernel_rfl) (fun w => by kernel_rfl) ?_
          refine ls_end ?_
          refine qn_then ?_
          refine cs_false (by kernel_rfl) ?_
          refine cs_skip' ?_
          refine qn_block ?_
          refine qn_then ?_
          refine cs_region (l := [_, _, _]) ?_
          refine ls_val (v := .int .i64 x3_1) rfl rfl (by kernel_rfl) (fun w => by kernel_rfl) ?_
          refine ls_val (v := .int .i64 (IntKind.wrap .i64 (x3_1 + (1 : Int)))) rfl rfl (by kernel_rfl) (fun w => by kernel_rfl) ?_
          refine ls_val (v := .int .i64 (IntKind.wrap .i64 (x3_1 + (1 : Int)))) rfl rfl (by kernel_rfl) (fun w => by kernel_rfl) ?_
          refine ls_end ?_
          refine qn_again k1 (s0) (Nat.le_refl _) ⟨_, (IntKind.wrap .i64 (x3_1 + (1 : Int))), fr_next (fr_next (rfl) (by kernel_rfl)) (by kernel_rfl), rfl, H⟩ (sub_nil _)
      · replace H := ite_f q10 H
        refine cs_draw shadowboxref09_Valid.tab0 21 0 (spl [s2_0, s2_1, s2_2, s2_3, s2_4, s2_5, s2_6, spu, spu, spu, spu, spu, spu, spu, spu, spu, spu, spu, spu, spu, spu]) (onl [true, true, true, true, true, true, true, false, false, false, false, false, false, false, false, false, false, false, false, false, false]) (by kernel_rfl) (by kernel_rfl) (by kernel_rfl) (by kernel_rfl) (rs := [_, _, _]) rfl (by kernel_rfl) (by kernel_rfl) (all_snoc (all_snoc (all_snoc (all_snoc (all_snoc (all_snoc (all_snoc (all_snoc (all_snoc (all_snoc (all_snoc (all_snoc (all_snoc (all_snoc (all_snoc (all_snoc (all_snoc (all_snoc (all_snoc (all_snoc (all_snoc (all_nil) (ops2_0 _ _ rfl rfl)) (ops2_1 _ _ rfl rfl)) (ops2_2 _ _ ⟨rfl, rfl, rfl⟩ rfl)) (ops2_3 _ _ ⟨rfl, rfl⟩ rfl)) (ops2_4 _ _ ⟨rfl, rfl⟩ rfl)) (ops2_5 _ _ ⟨rfl, rfl⟩ rfl)) (ops2_6 _ _ ⟨rfl, rfl⟩ rfl)) (op_offi 7 6 16 false rfl rfl (by kernel_rfl) (by kernel_rfl) rfl (fun v R h => by rw [hs2_6] at h; obtain ⟨h, _⟩ := h; exact h.trans (congrArg Value.bool (show (!t7) = true from congrArg Bool.not (Bool.eq_false_iff.mpr q10)))) rfl rfl)) (op_offi 8 6 16 false rfl rfl (by kernel_rfl) (by kernel_rfl) rfl (fun v R h => by rw [hs2_6] at h; obtain ⟨h, _⟩ := h; exact h.trans (congrArg Value.bool (show (!t7) = true from congrArg Bool.not (Bool.eq_false_iff.mpr q10)))) rfl rfl)) (op_offi 9 6 16 false rfl rfl (by kernel_rfl) (by kernel_rfl) rfl (fun v R h => by rw [hs2_6] at h; obtain ⟨h, _⟩ := h; exact h.trans (congrArg Value.bool (show (!t7) = true from congrArg Bool.not (Bool.eq_false_iff.mpr q10)))) rfl rfl)) (op_offu 10 9 19 true rfl rfl (by kernel_rfl) (by kernel_rfl) rfl rfl rfl)) (op_offu 11 9 19 true rfl rfl (by kernel_rfl) (by kernel_rfl) rfl rfl rfl)) (op_offu 12 9 19 true rfl rfl (by kernel_rfl) (by kernel_rfl) rfl rfl rfl)) (op_offu 13 9 19 true rfl rfl (by kernel_rfl) (by kernel_rfl) rfl rfl rfl)) (op_offu 14 9 19 true rfl rfl (by kernel_rfl) (by kernel_rfl) rfl rfl rfl)) (op_offu 15 9 19 true rfl rfl (by kernel_rfl) (by kernel_rfl) rfl rfl rfl)) (op_offu 16 9 19 true rfl rfl (by kernel_rfl) (by kernel_rfl) rfl rfl rfl)) (op_offu 17 9 19 true rfl rfl (by kernel_rfl) (by kernel_rfl) rfl rfl rfl)) (op_offu 18 9 19 true rfl rfl (by kernel_rfl) (by kernel_rfl) rfl rfl rfl)) (op_offu 19 9 19 true rfl rfl (by kernel_rfl) (by kernel_rfl) rfl rfl rfl)) (op_offu 20 9 19 true rfl rfl (by kernel_rfl) (by kernel_rfl) rfl rfl rfl)) ?_
        intro vs Rs f' S' hp hf hx hS hR
        obtain ⟨x9, hv4, hR4⟩ := (spe rfl hs2_4 (hp 4 (by kernel_rfl)))
        obtain ⟨hv6, hR6⟩ := (spe rfl hs2_6 (hp 6 (by kernel_rfl)))
        obtain ⟨hv7, hR7⟩ := (spe rfl rfl (hp 7 (by kernel_rfl)) : spu _ _)
        obtain ⟨hv8, hR8⟩ := (spe rfl rfl (hp 8 (by kernel_rfl)) : spu _ _)
        obtain ⟨hv9, hR9⟩ := (spe rfl rfl (hp 9 (by kernel_rfl)) : spu _ _)
        obtain ⟨hv10, hR10⟩ := (spe rfl rfl (hp 10 (by kernel_rfl)) : spu _ _)
        obtain ⟨hv11, hR11⟩ := (spe rfl rfl (hp 11 (by kernel_rfl)) : spu _ _)
        obtain ⟨hv12, hR12⟩ := (spe rfl rfl (hp 12 (by kernel_rfl)) : spu _ _)
        obtain ⟨hv13, hR13⟩ := (spe rfl rfl (hp 13 (by kernel_rfl)) : spu _ _)
        obtain ⟨hv14, hR14⟩ := (spe rfl rfl (hp 14 (by kernel_rfl)) : spu _ _)
        obtain ⟨hv15, hR15⟩ := (spe rfl rfl (hp 15 (by kernel_rfl)) : spu _ _)
        obtain ⟨hv16, hR16⟩ := (spe rfl rfl (hp 16 (by kernel_rfl)) : spu _ _)
        obtain ⟨hv17, hR17⟩ := (spe rfl rfl (hp 17 (by kernel_rfl)) : spu _ _)
        obtain ⟨hv18, hR18⟩ := (spe rfl rfl (hp 18 (by kernel_rfl)) : spu _ _)
        obtain ⟨hv19, hR19⟩ := (spe rfl rfl (hp 19 (by kernel_rfl)) : spu _ _)
        obtain ⟨hv20, hR20⟩ := (spe rfl rfl (hp 20 (by kernel_rfl)) : spu _ _)
        refine ls_fr (F := upd (upd (upd (upd f' 0 (.slice A0 l0.length c0)) 3 (.int .i64 x3_1)) 16 (.bool (!t7))) 19 undef) (fr_next (fr_next (fr_next (fr_next (rfl) ((hx 0 (by kernel_rfl)).trans (by kernel_rfl : (_ : Value) = .slice A0 l0.length c0))) ((hx 3 (by kernel_rfl)).trans (by kernel_rfl : (_ : Value) = .int .i64 x3_1))) ((hf 6 16 (by kernel_rfl) rfl).trans hv6)) ((hf 9 19 (by kernel_rfl) rfl).trans hv9)) ?_
        refine ls_sub (s0) (sub_nil _) ?_
        refine ls_offu (j := 9) (t := 19) (b := true) rfl rfl (by kernel_rfl) (by kernel_rfl) rfl (by kernel_rfl) ?_
        refine ls_know (c := true) (congrArg Bool.not (Bool.eq_false_iff.mpr q10)) 16 (by kernel_rfl) ?_
        refine ls_off (j := 6) (t := 16) (b := false) (c := true) rfl rfl (by kernel_rfl) (by kernel_rfl) rfl rfl (by kernel_rfl) ?_
        refine ls_val (v := .bool true) rfl rfl (by kernel_rfl) (fun w => by kernel_rfl) ?_
        refine ls_end ?_
        refine qn_then ?_
        refine cs_true (by kernel_rfl) ?_
        refine cs_seq ?_
        refine cs_region (l := [_]) ?_
        refine ls_val (v := .bool false) rfl rfl (by kernel_rfl) (fun w => by kernel_rfl) ?_
        refine ls_end ?_
        refine qn_then ?_
        refine cs_ret' ?_
        refine qr_block ?_
        refine qr_then ?_
        refine qr_then ?_
        refine qr_block ?_
        refine qr_then ?_
        obtain rfl := Option.some.inj H
        refine qr_res (rs := [_]) rfl (fun w' hs => ⟨[.bool false], (res_tmp (by kernel_rfl) (.nil)), (), rfl, hs.pick (ts := []) (cs := []) trivial (by decide)⟩)

/-! ### shadowbox/shadowboxref09.Add: function 18 -/
def shadowboxref09_Add.jo4 (l0 : List (Int × Int)) (x6_2 : Bool) (x7_2 : Int) (m0_2 : (Int × Int)) (lo2 : (List (Int × Int)) → Bool → Int → ((Int × Int)) → Option ((List (Int × Int)))) (l5_4 : List (Int × Int)) : Option ((List (Int × Int))) := lt (((l0).getD (x7_2).toNat ((0 : Int), (0 : Int))).1) fun y7 => (if y7 > m0_2.2 then (if x6_2 = true then (if (l5_4.length + ([((l0).getD (x7_2).toNat ((0 : Int), (0 : Int)))]).length) * 16 ≤ 140737488355328 then lo2 (l5_4 ++ [((l0).getD (x7_2).toNat ((0 : Int), (0 : Int)))]) x6_2 (IntKind.wrap .i64 (x7_2 + (1 : Int))) m0_2 else none) else (if (l5_4.length + ([m0_2]).length) * 16 ≤ 140737488355328 then (if ((l5_4 ++ [m0_2]).length + ([((l0).getD (x7_2).toNat ((0 : Int), (0 : Int)))]).length) * 16 ≤ 140737488355328 then lo2 ((l5_4 ++ [m0_2]) ++ [((l0).getD (x7_2).toNat ((0 : Int), (0 : Int)))]) true (IntKind.wrap .i64 (x7_2 + (1 : Int))) m0_2 else none) else none)) else lt (((l0).getD (x7_2).toNat ((0 : Int), (0 : Int))).1) fun y23 => (if y23 < m0_2.1 then lt (((l0).getD (x7_2).toNat ((0 : Int), (0 : Int))).1) fun y26 => lt (((l0).getD (x7_2).toNat ((0 : Int), (0 : Int))).2) fun y28 => (if y28 > m0_2.2 then lt (((l0).getD (x7_2).toNat ((0 : Int), (0 : Int))).2) fun y31 => lo2 l5_4 x6_2 (IntKind.wrap .i64 (x7_2 + (1 : Int))) (y26, y31) else lo2 l5_4 x6_2 (IntKind.wrap .i64 (x7_2 + (1 : Int))) (y26, m0_2.2)) else lt (((l0).getD (x7_2).toNat ((0 : Int), (0 : Int))).2) fun y33 => (if y33 > m0_2.2 then lt (((l0).getD (x7_2).toNat ((0 : Int), (0 : Int))).2) fun y36 => lo2 l5_4 x6_2 (IntKind.wrap .i64 (x7_2 + (1 : Int))) (m0_2.1, y36) else lo2 l5_4 x6_2 (IntKind.wrap .i64 (x7_2 + (1 : Int))) m0_2)))
def shadowboxref09_Add.jo3 (l0 : List (Int × Int)) (l5_2 : List (Int × Int)) (x6_2 : Bool) (x7_2 : Int) (m0_2 : (Int × Int)) (lo2 : (List (Int × Int)) → Bool → Int → ((Int × Int)) → Option ((List (Int × Int)))) : Option ((List (Int × Int))) := (if 0 ≤ x7_2 then (if x7_2 < (l0.length : Int) then lt (((l0).getD (x7_2).toNat ((0 : Int), (0 : Int))).2) fun y38 => (if y38 < m0_2.1 then (if (l5_2.length + ([((l0).getD (x7_2).toNat ((0 : Int), (0 : Int)))]).length) * 16 ≤ 140737488355328 then lo2 (l5_2 ++ [((l0).getD (x7_2).toNat ((0 : Int), (0 : Int)))]) x6_2 (IntKind.wrap .i64 (x7_2 + (1 : Int))) m0_2 else none) else (shadowboxref09_Add.jo4 l0 x6_2 x7_2 m0_2 lo2) l5_2) else none) else none)
def shadowboxref09_Add.lo2 (l0 : List (Int × Int)) : Nat → (List (Int × Int)) → Bool → Int → ((Int × Int)) → Option ((List (Int × Int)))
  | 0, _, _, _, _ => none
  | k2 + 1, l5_2, x6_2, x7_2, m0_2 => (if x7_2 < (l0.length : Int) then (shadowboxref09_Add.jo3 l0 l5_2 x6_2 x7_2 m0_2 (shadowboxref09_Add.lo2 l0 k2)) else (if x6_2 = true then some l5_2 else (if (l5_2.length + ([m0_2]).length) * 16 ≤ 140737488355328 then some (l5_2 ++ [m0_2]) else none)))
def shadowboxref09_Add.jo1 (k : Nat) (l0 : List (Int × Int)) (a1 : (Int × Int)) : Option ((List (Int × Int))) := shadowboxref09_Add.lo2 l0 k ([] : List (Int × Int)) false (0 : Int) a1
def shadowboxref09_Add.f (k : Nat) (l0 : List (Int × Int)) (a1 : (Int × Int)) : Option ((List (Int × Int))) :=
  (shadowboxref09_Valid.f k l0).bind fun t51 => (if t51 = true then (shadowboxref09_right.f k a1).bind fun t55 => (if t55 = true then (shadowboxref09_Add.jo1 k l0 a1) else (if (([] : List (Int × Int)).length + l0.length) * 16 ≤ 140737488355328 then some (([] : List (Int × Int)) ++ l0) else none)) else (if (([] : List (Int × Int)).length + l0.length) * 16 ≤ 140737488355328 then some (([] : List (Int × Int)) ++ l0) else none))
set_option maxRecDepth 100000 in
set_option maxHeartbeats 4000000 in
theorem shadowboxref09_Add.calls (k : Nat) (A0 : Option Addr) (c0 : Nat) (l0 : List (Int × Int)) (a1 : (Int × Int)) (r : (List (Int × Int))) (b : Bs) (hs0 : St b (stl []) b.w) (R0 : Ro b A0 (em T31 l0)) (C0 : l0.length ≤ c0) (H : shadowboxref09_Add.f k l0 a1 = some r) :
    Calls Try.prog 18 #[.slice A0 l0.length c0, .agg ⟨([Value.int .i64 a1.1] ++ [Value.int .i64 a1.2])⟩] b.w fun e w' => ∃ x : (Option Addr × Nat), e = .returned (.slice x.1 r.length x.2) ∧ St b (stl [Ck.sl T31 x.1 x.2 r]) w' := by
  unfold shadowboxref09_Add.f at H
  refine enterb (n := 77) Try.func18 rfl (by kernel_rfl) (by kernel_rfl) hs0 ?_
  refine cs_sub (s0) (sub_nil _) ?_
  refine cs_seq ?_
  refine cs_region (l := [_, _]) ?_
  refine ls_new rfl rfl (by kernel_rfl) 0 (fun g => .pointer (some ⟨g, 0, none⟩)) (.cells ⟨([Value.int .i64 a1.1] ++ [Value.int .i64 a1.2])⟩ 31) (fun w => by kernel_rfl) ?_
  intro g1
  refine ls_val (v := .slice none 0 0) rfl rfl (by kernel_rfl) (fun w => by kernel_rfl) ?_
  refine ls_end ?_
  refine qn_then ?_
  refine cs_cut (fun f S => ∃ (fR : Fr), f = upd (upd fR 0 (.slice A0 l0.length c0)) 3 (.pointer (some ⟨g1, 0, none⟩)) ∧ S = sput s0 0 (some (Ck.var 31 g1 (([Value.int .i64 a1.1] ++ [Value.int .i64 a1.2])))) ∧ shadowboxref09_Add.jo1 k l0 a1 = some r) ?_ ?_
  · skip
    refine cs_seq ?_
    refine cs_region (l := [_, _, _, _, _, _, _, _]) ?_
    refine ls_val (v := .slice A0 l0.length c0) rfl rfl (by kernel_rfl) (fun w => by kernel_rfl) ?_
    obtain ⟨t51, hc52, H⟩ := bind_some H
    refine ls_callb (fid := 22) (vals := #[.slice A0 l0.length c0]) (X := Unit) (fun x => .bool t51) (fun x => stl []) [] [] [] [] 1 rfl rfl (by kernel_rfl) (fun w => by kernel_rfl) trivial trivial (by decide) (fun w hs hb => shadowboxref09_Valid.calls k A0 c0 l0 t51 (lent b w [] []) hb (hs.ro R0 _ _) C0 hc52) ?_
    intro x53
    refine ls_val (v := .bool (!t51)) rfl rfl (by kernel_rfl) (fun w => by kernel_rfl) ?_
    refine ls_val (v := .bool (!t51)) rfl rfl (by kernel_rfl) (fun w => by kernel_rfl) ?_
    by_cases q54 : t51 = true
    · replace H := ite_t q54 H
      refine ls_know (c := false) (congrArg Bool.not (q54)) 12 (by kernel_rfl) ?_
      refine ls_on (j := 3) (t := 12) (b := false) rfl rfl (by kernel_rfl) (by kernel_rfl) ?_
      refine ls_loadagg (a := ⟨g1, 0, none⟩) (sub := ([Value.int .i64 a1.1] ++ [Value.int .i64 a1.2])) rfl rfl (by kernel_rfl) rfl (by kernel_rfl) (by kernel_rfl) (by kernel_rfl) (len_app (len1 _) (len1 _)) (fun w hs => (hs.vars (k := 0) (by exact rfl) (Sub4.all _))) ?_
      refine ls_on (j := 3) (t := 12) (b := false) rfl rfl (by kernel_rfl) (by kernel_rfl) ?_
      obtain ⟨t55, hc56, H⟩ := bind_some H
      refine ls_callb (fid := 45) (vals := #[.agg ⟨([Value.int .i64 a1.1] ++ [Value.int .i64 a1.2])⟩]) (X := Unit) (fun x => .bool t55) (fun x => stl []) [] [] [] [] 1 rfl rfl (by kernel_rfl) (fun w => by kernel_rfl) trivial trivial (by decide) (fun w hs hb => shadowboxref09_right.calls k a1 t55 (lent b w [] []) hb  hc56) ?_
      intro x57
      refine ls_on (j := 3) (t := 12) (b := false) rfl rfl (by kernel_rfl) (by kernel_rfl) ?_
      refine ls_val (v := .bool (!t55)) rfl rfl (by kernel_rfl) (fun w => by kernel_rfl) ?_
      refine ls_val (v := .bool (!t55)) rfl rfl (by kernel_rfl) (fun w => by kernel_rfl) ?_
      refine ls_end ?_
      refine qn_then ?_
      by_cases q58 : t55 = true
      · replace H := ite_t q58 H
        refine cs_know (c := false) (congrArg Bool.not (q58)) 16 (by kernel_rfl) ?_
        refine cs_false (by kernel_rfl) ?_
        refine cs_skip' ?_
        refine qn_meet (sput s0 0 (some (Ck.var 31 g1 (([Value.int .i64 a1.1] ++ [Value.int .i64 a1.2]))))) ⟨_, fr_next (fr_next (rfl) (by kernel_rfl)) (by kernel_rfl), rfl, H⟩ (sub_put (by exact rfl) (sub_nil _))
      · replace H := ite_f q58 H
        refine cs_know (c := true) (congrArg Bool.not (Bool.eq_false_iff.mpr q58)) 16 (by kernel_rfl) ?_
        refine cs_true (by kernel_rfl) ?_
        refine cs_seq ?_
        refine cs_region (l := [_, _, _, _]) ?_
        refine ls_lit T31 1 rfl rfl (by kernel_rfl) ([] : List (Int × Int)) (by exact of_decide_eq_true (by kernel_rfl)) (fun w => by kernel_rfl) ?_
        intro g59
        refine ls_val (v := .slice A0 l0.length c0) rfl rfl (by kernel_rfl) (fun w => by kernel_rfl) ?_
        obtain ⟨q60, H⟩ := ite_need H
        refine ls_app T31 (A := (some ⟨g59, 0, none⟩)) (c := ([] : List (Int × Int)).length) (B := A0) (cb := c0) (z := (.agg ⟨([Value.int .i64 (0 : Int)] ++ [Value.int .i64 (0 : Int)])⟩)) (l := ([] : List (Int × Int))) (m := l0) (bytes := 16) 1 rfl rfl (by kernel_rfl) rfl (by kernel_rfl) (by exact rfl) (by kernel_rfl) (fun w hs => (hs.old R0)) (by kernel_rfl) (by kernel_rfl) rfl (by decide) q60 ?_
        intro xA61 xc62
        refine ls_val (v := .slice xA61 (([] : List (Int × Int)) ++ l0).length xc62) rfl rfl (by kernel_rfl) (fun w => by kernel_rfl) ?_
        refine ls_end ?_
        refine qn_then ?_
        refine cs_ret' ?_
        refine qr_then ?_
        obtain rfl := Option.some.inj H
        refine qr_res (rs := [_]) rfl (fun w' hs => ⟨[.slice xA61 (([] : List (Int × Int)) ++ l0).length xc62], (res_tmp (by kernel_rfl) (.nil)), (xA61, xc62), rfl, hs.pick (ts := [1]) (cs := [Ck.sl T31 xA61 xc62 (([] : List (Int × Int)) ++ l0)]) ⟨by exact rfl, trivial⟩ (by decide)⟩)
    · replace H := ite_f q54 H
      refine ls_know (c := true) (congrArg Bool.not (Bool.eq_false_iff.mpr q54)) 12 (by kernel_rfl) ?_
      refine ls_off (j := 3) (t := 12) (b := false) (c := true) rfl rfl (by kernel_rfl) (by kernel_rfl) rfl rfl (by kernel_rfl) ?_
      refine ls_off (j := 3) (t := 12) (b := false) (c := true) rfl rfl (by kernel_rfl) (by kernel_rfl) rfl rfl (by kernel_rfl) ?_
      refine ls_off (j := 3) (t := 12) (b := false) (c := true) rfl rfl (by kernel_rfl) (by kernel_rfl) rfl rfl (by kernel_rfl) ?_
      refine ls_val (v := .bool true) rfl rfl (by kernel_rfl) (fun w => by kernel_rfl) ?_
      refine ls_end ?_
      refine qn_then ?_
      refine cs_true (by kernel_rfl) ?_
      refine cs_seq ?_
      refine cs_region (l := [_, _, _, _]) ?_
      refine ls_lit T31 1 rfl rfl (by kernel_rfl) ([] : List (Int × Int)) (by exact of_decide_eq_true (by kernel_rfl)) (fun w => by kernel_rfl) ?_
      intro g63
      refine ls_val (v := .slice A0 l0.length c0) rfl rfl (by kernel_rfl) (fun w => by kernel_rfl) ?_
      obtain ⟨q64, H⟩ := ite_need H
      refine ls_app T31 (A := (some ⟨g63, 0, none⟩)) (c := ([] : List (Int × Int)).length) (B := A0) (cb := c0) (z := (.agg ⟨([Value.int .i64 (0 : Int)] ++ [Value.int .i64 (0 : Int)])⟩)) (l := ([] : List (Int × Int))) (m := l0) (bytes := 16) 1 rfl rfl (by kernel_rfl) rfl (by kernel_rfl) (by exact rfl) (by kernel_rfl) (fun w hs => (hs.old R0)) (by kernel_rfl) (by kernel_rfl) rfl (by decide) q64 ?_
      intro xA65 xc66
      refine ls_val (v := .slice xA65 (([] : List (Int × Int)) ++ l0).length xc66) rfl rfl (by kernel_rfl) (fun w => by kernel_rfl) ?_
      refine ls_end ?_
      refine qn_then ?_
      refine cs_ret' ?_
      refine qr_then ?_
      obtain rfl := Option.some.inj H
      refine qr_res (rs := [_]) rfl (fun w' hs => ⟨[.slice xA65 (([] : List (Int × Int)) ++ l0).length xc66], (res_tmp (by kernel_rfl) (.nil)), (xA65, xc66), rfl, hs.pick (ts := [1]) (cs := [Ck.sl T31 xA65 xc66 (([] : List (Int × Int)) ++ l0)]) ⟨by exact rfl, trivial⟩ (by decide)⟩)
  · rintro f S ⟨fr1, rfl, rfl, H⟩
    replace H : (shadowboxref09_Add.lo2 l0 k ([] : List (Int × Int)) false (0 : Int) a1) = some r := H
    refine cs_seq ?_
    refine cs_region (l := [_]) ?_
    refine ls_val (v := .slice none 0 0) rfl rfl (by kernel_rfl) (fun w => by kernel_rfl) ?_
    refine ls_end ?_
    refine qn_then ?_
    refine cs_seq ?_
    refine cs_region (l := [_]) ?_
    refine ls_val (v := .bool false) rfl rfl (by kernel_rfl) (fun w => by kernel_rfl) ?_
    refine ls_end ?_
    refine qn_then ?_
    refine cs_seq ?_
    refine cs_seq ?_
    refine cs_region (l := [_]) ?_
    refine ls_val (v := .int .i64 (0 : Int)) rfl rfl (by kernel_rfl) (fun w => by kernel_rfl) ?_
    refine ls_end ?_
    refine qn_then ?_
    refine cs_block ?_
    refine cs_nilrow 1 T31 ?_
    refine cs_sub (sput (sput s0 0 (some (Ck.var 31 g1 (([Value.int .i64 a1.1] ++ [Value.int .i64 a1.2]))))) 1 (some (Ck.sl T31 none 0 ([] : List (Int × Int))))) (sub_put (by exact rfl) (sub_put (by exact rfl) (sub_nil _))) ?_
    refine cs_loop (fun kk f S => ∃ (fR : Fr) (A5_2 : Option Addr) (c5_2 : Nat) (l5_2 : List (Int × Int)) (x6_2 : Bool) (x7_2 : Int) (m0_2 : (Int × Int)), f = upd (upd (upd (upd (upd fR 0 (.slice A0 l0.length c0)) 3 (.pointer (some ⟨g1, 0, none⟩))) 5 (.slice A5_2 l5_2.length c5_2)) 6 (.bool x6_2)) 7 (.int .i64 x7_2) ∧ S = sput (sput s0 0 (some (Ck.var 31 g1 (([Value.int .i64 m0_2.1] ++ [Value.int .i64 m0_2.2]))))) 1 (some (Ck.sl T31 A5_2 c5_2 l5_2)) ∧ shadowboxref09_Add.lo2 l0 kk l5_2 x6_2 x7_2 m0_2 = some r) k ?_ ?_ ?_
    · exact ⟨_, none, 0, ([] : List (Int × Int)), false, (0 : Int), a1, fr_next (fr_next (fr_next (fr_next (fr_next (rfl) (by kernel_rfl)) (by kernel_rfl)) (by kernel_rfl)) (by kernel_rfl)) (by kernel_rfl), rfl, H⟩
    · rintro f S ⟨fr2, A5_2, c5_2, l5_2, x6_2, x7_2, m0_2, rfl, rfl, H⟩; cases H
    · rintro k2 f S ⟨fr2, A5_2, c5_2, l5_2, x6_2, x7_2, m0_2, rfl, rfl, H⟩
      replace H : ((if x7_2 < (l0.length : Int) then (shadowboxref09_Add.jo3 l0 l5_2 x6_2 x7_2 m0_2 (shadowboxref09_Add.lo2 l0 k2)) else (if x6_2 = true then some l5_2 else (if (l5_2.length + ([m0_2]).length) * 16 ≤ 140737488355328 then some (l5_2 ++ [m0_2]) else none)))) = some r := H
      refine cs_cut (fun f S => ∃ (fR : Fr), f = upd (upd (upd (upd (upd fR 0 (.slice A0 l0.length c0)) 3 (.pointer (some ⟨g1, 0, none⟩))) 5 (.slice A5_2 l5_2.length c5_2)) 6 (.bool x6_2)) 7 (.int .i64 x7_2) ∧ S = sput (sput s0 0 (some (Ck.var 31 g1 (([Value.int .i64 m0_2.1] ++ [Value.int .i64 m0_2.2]))))) 1 (some (Ck.sl T31 A5_2 c5_2 l5_2)) ∧ shadowboxref09_Add.jo3 l0 l5_2 x6_2 x7_2 m0_2 (shadowboxref09_Add.lo2 l0 k2) = some r) ?_ ?_
      · skip
        refine cs_seq ?_
        refine cs_region (l := [_, _, _, _]) ?_
        refine ls_val (v := .int .i64 x7_2) rfl rfl (by kernel_rfl) (fun w => by kernel_rfl) ?_
        refine ls_val (v := .slice A0 l0.length c0) rfl rfl (by kernel_rfl) (fun w => by kernel_rfl) ?_
        refine ls_val (v := .int .i64 (l0.length : Int)) rfl rfl (by kernel_rfl) (fun w => by kernel_rfl) ?_
        refine ls_val (v := .bool (decide (x7_2 < (l0.length : Int)))) rfl rfl (by kernel_rfl) (fun w => by kernel_rfl) ?_
        refine ls_end ?_
        refine qn_then ?_
        by_cases q45 : x7_2 < (l0.length : Int)
        · replace H := ite_t q45 H
          refine cs_know (c := true) (dec_t q45) 23 (by kernel_rfl) ?_
          refine cs_true (by kernel_rfl) ?_
          refine cs_skip' ?_
          refine qn_meet (sput (sput s0 0 (some (Ck.var 31 g1 (([Value.int .i64 m0_2.1] ++ [Value.int .i64 m0_2.2]))))) 1 (some (Ck.sl T31 A5_2 c5_2 l5_2))) ⟨_, fr_next (fr_next (fr_next (fr_next (fr_next (rfl) (by kernel_rfl)) (by kernel_rfl)) (by kernel_rfl)) (by kernel_rfl)) (by kernel_rfl), rfl, H⟩ (sub_put (by exact rfl) (sub_put (by exact rfl) (sub_nil _)))
        · replace H := ite_f q45 H
          refine cs_know (c := false) (dec_f q45) 23 (by kernel_rfl) ?_
          refine cs_false (by kernel_rfl) ?_
          refine cs_exit' ?_
          refine qx_then ?_
          refine qx_then ?_
          refine qx_same ?_
          refine qn_then ?_
          refine cs_seq ?_
          refine cs_seq ?_
          refine cs_region (l := [_, _]) ?_
          refine ls_val (v := .bool x6_2) rfl rfl (by kernel_rfl) (fun w => by kernel_rfl) ?_
          refine ls_val (v := .bool (!x6_2)) rfl rfl (by kernel_rfl) (fun w => by kernel_rfl) ?_
          refine ls_end ?_
          refine qn_then ?_
          by_cases q46 : x6_2 = true
          · replace H := ite_t q46 H
            refine cs_know (c := false) (congrArg Bool.not (q46)) 71 (by kernel_rfl) ?_
            refine cs_false (by kernel_rfl) ?_
            refine cs_skip' ?_
            refine qn_then ?_
            refine cs_seq ?_
            refine cs_region (l := [_, _]) ?_
            refine ls_val (v := .slice A5_2 l5_2.length c5_2) rfl rfl (by kernel_rfl) (fun w => by kernel_rfl) ?_
            refine ls_val (v := .slice A5_2 l5_2.length c5_2) rfl rfl (by kernel_rfl) (fun w => by kernel_rfl) ?_
            refine ls_end ?_
            refine qn_then ?_
            refine cs_ret' ?_
            obtain rfl := Option.some.inj H
            refine qr_res (rs := [_]) rfl (fun w' hs => ⟨[.slice A5_2 l5_2.length c5_2], (res_tmp (by kernel_rfl) (.nil)), (A5_2, c5_2), rfl, hs.pick (ts := [1]) (cs := [Ck.sl T31 A5_2 c5_2 l5_2]) ⟨by exact rfl, trivial⟩ (by decide)⟩)
          · replace H := ite_f q46 H
            refine cs_know (c := true) (congrArg Bool.not (Bool.eq_false_iff.mpr q46)) 71 (by kernel_rfl) ?_
            refine cs_true (by kernel_rfl) ?_
            refine cs_region (l := [_, _, _, _, _]) ?_
            refine ls_val (v := .slice A5_2 l5_2.length c5_2) rfl rfl (by kernel_rfl) (fun w => by kernel_rfl) ?_
            refine ls_loadagg (a := ⟨g1, 0, none⟩) (sub := ([Value.int .i64 m0_2.1] ++ [Value.int .i64 m0_2.2])) rfl rfl (by kernel_rfl) rfl (by kernel_rfl) (by kernel_rfl) (by kernel_rfl) (len_app (len1 _) (len1 _)) (fun w hs => (hs.vars (k := 0) (by exact rfl) (Sub4.all _))) ?_
            refine ls_lit T31 2 rfl rfl (by kernel_rfl) ([m0_2]) (by exact of_decide_eq_true (by kernel_rfl)) (fun w => by kernel_rfl) ?_
            intro g47
            obtain ⟨q48, H⟩ := ite_need H
            refine ls_app T31 (A := A5_2) (c := c5_2) (B := (some ⟨g47, 0, none⟩)) (cb := [m0_2].length) (z := (.agg ⟨([Value.int .i64 (0 : Int)] ++ [Value.int .i64 (0 : Int)])⟩)) (l := l5_2) (m := [m0_2]) (bytes := 16) 1 rfl rfl (by kernel_rfl) rfl (by kernel_rfl) (by exact rfl) (by kernel_rfl) (fun w hs => (hs.rd (k := 2) (by exact rfl))) (by kernel_rfl) (by kernel_rfl) rfl (by decide) q48 ?_
            intro xA49 xc50
            refine ls_val (v := .slice xA49 (l5_2 ++ [m0_2]).length xc50) rfl rfl (by kernel_rfl) (fun w => by kernel_rfl) ?_
            refine ls_end ?_
            refine qn_then ?_
            refine cs_seq ?_
            refine cs_region (l := [_, _]) ?_
            refine ls_val (v := .slice xA49 (l5_2 ++ [m0_2]).length xc50) rfl rfl (by kernel_rfl) (fun w => by kernel_rfl) ?_
            refine ls_val (v := .slice xA49 (l5_2 ++ [m0_2]).length xc50) rfl rfl (by kernel_rfl) (fun w => by kernel_rfl) ?_
            refine ls_end ?_
            refine qn_then ?_
            refine cs_ret' ?_
            obtain rfl := Option.some.inj H
            refine qr_res (rs := [_]) rfl (fun w' hs => ⟨[.slice xA49 (l5_2 ++ [m0_2]).length xc50], (res_tmp (by kernel_rfl) (.nil)), (xA49, xc50), rfl, hs.pick (ts := [1]) (cs := [Ck.sl T31 xA49 xc50 (l5_2 ++ [m0_2])]) ⟨by exact rfl, trivial⟩ (by decide)⟩)
      · rintro f S ⟨fr3, rfl, rfl, H⟩
        replace H : ((if 0 ≤ x7_2 then (if x7_2 < (l0.length : Int) then lt (((l0).getD (x7_2).toNat ((0 : Int), (0 : Int))).2) fun y38 => (if y38 < m0_2.1 then (if (l5_2.length + ([((l0).getD (x7_2).toNat ((0 : Int), (0 : Int)))]).length) * 16 ≤ 140737488355328 then (shadowboxref09_Add.lo2 l0 k2) (l5_2 ++ [((l0).getD (x7_2).toNat ((0 : Int), (0 : Int)))]) x6_2 (IntKind.wrap .i64 (x7_2 + (1 : Int))) m0_2 else none) else (shadowboxref09_Add.jo4 l0 x6_2 x7_2 m0_2 (shadowboxref09_Add.lo2 l0 k2)) l5_2) else none) else none)) = some r := H
        refine cs_seq ?_
        refine cs_block ?_
        refine cs_seq ?_
        refine cs_region (l := [_, _, _, _, _, _]) ?_
        refine ls_val (v := .slice A0 l0.length c0) rfl rfl (by kernel_rfl) (fun w => by kernel_rfl) ?_
        refine ls_val (v := .int .i64 x7_2) rfl rfl (by kernel_rfl) (fun w => by kernel_rfl) ?_
        obtain ⟨q2, H⟩ := ite_need H
        obtain ⟨q3, H⟩ := ite_need H
        obtain ⟨ad4, hA5⟩ := ido_at (T := T31) (l := l0) (i := x7_2) R0 q2 q3
        refine ls_idxv T31 (A := A0) (c := c0) (l := l0) (k := .i64) (i := x7_2) (z := 2) (ad := ad4) rfl rfl (by kernel_rfl) hA5 rfl (by kernel_rfl) (by kernel_rfl) (by kernel_rfl) (by kernel_rfl) q2 q3 ?_
        refine ls_loadagg (a := (ad4.add ((x7_2).toNat * 2))) (sub := ([Value.int .i64 (((l0).getD (x7_2).toNat ((0 : Int), (0 : Int))).1)] ++ [Value.int .i64 (((l0).getD (x7_2).toNat ((0 : Int), (0 : Int))).2)])) rfl rfl (by kernel_rfl) rfl (by kernel_rfl) (by kernel_rfl) (by kernel_rfl) (len_app (len1 _) (len1 _)) (fun w hs => (hs.old R0).part hA5 (em_sub T31 l0 (i := (x7_2).toNat) (by have h0 : (0 : Int) ≤ x7_2 := q2; have h1 : x7_2 < (l0.length : Int) := q3; omega))) ?_
        refine ls_new rfl rfl (by kernel_rfl) 2 (fun g => .pointer (some ⟨g, 0, none⟩)) (.cells ⟨([Value.int .i64 (0 : Int)] ++ [Value.int .i64 (0 : Int)])⟩ 31) (fun w => by kernel_rfl) ?_
        intro g6
        refine ls_storec (g := g6) (off := 0) (v := .agg ⟨([Value.int .i64 (((l0).getD (x7_2).toNat ((0 : Int), (0 : Int))).1)] ++ [Value.int .i64 (((l0).getD (x7_2).toNat ((0 : Int), (0 : Int))).2)])⟩) (vs := ([Value.int .i64 (((l0).getD (x7_2).toNat ((0 : Int), (0 : Int))).1)] ++ [Value.int .i64 (((l0).getD (x7_2).toNat ((0 : Int), (0 : Int))).2)])) (cs := ([Value.int .i64 (0 : Int)] ++ [Value.int .i64 (0 : Int)])) (ty := 31) 2 rfl rfl rfl (by kernel_rfl) (by kernel_rfl) (by kernel_rfl) (by exact rfl) (by kernel_rfl) (len_app (len1 _) (len1 _)) (one_app (one_cons rfl one_nil) (one_cons rfl one_nil)) (hl_of (Sub4.all _) (len_eq (len_app (len1 _) (len1 _)) (len_app (len1 _) (len1 _)))) (cs' := ([Value.int .i64 (((l0).getD (x7_2).toNat ((0 : Int), (0 : Int))).1)] ++ [Value.int .i64 (((l0).getD (x7_2).toNat ((0 : Int), (0 : Int))).2)])) (splc_all (len_eq (len_app (len1 _) (len1 _)) (len_app (len1 _) (len1 _)))) ?_
        refine ls_end ?_
        refine qn_then ?_
        refine cs_cut (fun f S => ∃ (fR : Fr) (A5_4 : Option Addr) (c5_4 : Nat) (l5_4 : List (Int × Int)), f = upd (upd (upd (upd (upd (upd fR 0 (.slice A0 l0.length c0)) 3 (.pointer (some ⟨g1, 0, none⟩))) 5 (.slice A5_4 l5_4.length c5_4)) 6 (.bool x6_2)) 7 (.int .i64 x7_2)) 8 (.pointer (some ⟨g6, 0, none⟩)) ∧ S = sput (sput (sput s0 0 (some (Ck.var 31 g1 (([Value.int .i64 m0_2.1] ++ [Value.int .i64 m0_2.2]))))) 1 (some (Ck.sl T31 A5_4 c5_4 l5_4))) 2 (some (Ck.var 31 g6 (([Value.int .i64 (((l0).getD (x7_2).toNat ((0 : Int), (0 : Int))).1)] ++ [Value.int .i64 (((l0).getD (x7_2).toNat ((0 : Int), (0 : Int))).2)])))) ∧ shadowboxref09_Add.jo4 l0 x6_2 x7_2 m0_2 (shadowboxref09_Add.lo2 l0 k2) l5_4 = some r) ?_ ?_
        · skip
          refine cs_seq ?_
          refine cs_region (l := [_, _, _, _, _]) ?_
          refine ls_val (v := .pointer (some ⟨g6, (0 + 1), none⟩)) rfl rfl (by kernel_rfl) (fun w => by kernel_rfl) ?_
          obtain ⟨y38, hy39, H⟩ := lt_some H
          refine ls_load (a0 := ⟨g6, (0 + 1), none⟩) (v := .int .i64 (((l0).getD (x7_2).toNat ((0 : Int), (0 : Int))).2)) (de := (TypeDesc.int .i64)) rfl rfl (by kernel_rfl) rfl (by kernel_rfl) (by kernel_rfl) (by kernel_rfl) (fun w hs => (hs.var (k := 2) (by exact rfl) (Sub4.trans (Sub4.all _) (Sub4.skip (n := 1) (len1 _) (Sub4.all _))))) ?_
          refine ls_ren 31 (v := .int .i64 (((l0).getD (x7_2).toNat ((0 : Int), (0 : Int))).2)) (v' := .int .i64 y38) (by kernel_rfl) (by rw [hy39]) ?_
          refine ls_val (v := .pointer (some ⟨g1, (0 + 0), none⟩)) rfl rfl (by kernel_rfl) (fun w => by kernel_rfl) ?_
          refine ls_load (a0 := ⟨g1, (0 + 0), none⟩) (v := .int .i64 m0_2.1) (de := (TypeDesc.int .i64)) rfl rfl (by kernel_rfl) rfl (by kernel_rfl) (by kernel_rfl) (by kernel_rfl) (fun w hs => (hs.var (k := 0) (by exact rfl) (Sub4.trans (Sub4.all _) (Sub4.head _ _)))) ?_
          refine ls_val (v := .bool (decide (y38 < m0_2.1))) rfl rfl (by kernel_rfl) (fun w => by kernel_rfl) ?_
          refine ls_end ?_
          refine qn_then ?_
          by_cases q40 : y38 < m0_2.1
          · replace H := ite_t q40 H
            refine cs_know (c := true) (dec_t q40) 34 (by kernel_rfl) ?_
            refine cs_true (by kernel_rfl) ?_
            refine cs_seq ?_
            refine cs_region (l := [_, _, _, _, _]) ?_
            refine ls_val (v := .slice A5_2 l5_2.length c5_2) rfl rfl (by kernel_rfl) (fun w => by kernel_rfl) ?_
            refine ls_loadagg (a := ⟨g6, 0, none⟩) (sub := ([Value.int .i64 (((l0).getD (x7_2).toNat ((0 : Int), (0 : Int))).1)] ++ [Value.int .i64 (((l0).getD (x7_2).toNat ((0 : Int), (0 : Int))).2)])) rfl rfl (by kernel_rfl) rfl (by kernel_rfl) (by kernel_rfl) (by kernel_rfl) (len_app (len1 _) (len1 _)) (fun w hs => (hs.vars (k := 2) (by exact rfl) (Sub4.all _))) ?_
            refine ls_lit T31 3 rfl rfl (by kernel_rfl) ([((l0).getD (x7_2).toNat ((0 : Int), (0 : Int)))]) (by exact of_decide_eq_true (by kernel_rfl)) (fun w => by kernel_rfl) ?_
            intro g41
            obtain ⟨q42, H⟩ := ite_need H
            refine ls_app T31 (A := A5_2) (c := c5_2) (B := (some ⟨g41, 0, none⟩)) (cb := [((l0).getD (x7_2).toNat ((0 : Int), (0 : Int)))].length) (z := (.agg ⟨([Value.int .i64 (0 : Int)] ++ [Value.int .i64 (0 : Int)])⟩)) (l := l5_2) (m := [((l0).getD (x7_2).toNat ((0 : Int), (0 : Int)))]) (bytes := 16) 1 rfl rfl (by kernel_rfl) rfl (by kernel_rfl) (by exact rfl) (by kernel_rfl) (fun w hs => (hs.rd (k := 3) (by exact rfl))) (by kernel_rfl) (by kernel_rfl) rfl (by decide) q42 ?_
            intro xA43 xc44
            refine ls_val (v := .slice xA43 (l5_2 ++ [((l0).getD (x7_2).toNat ((0 : Int), (0 : Int)))]).length xc44) rfl rfl (by kernel_rfl) (fun w => by kernel_rfl) ?_
            refine ls_end ?_
            refine qn_then ?_
            refine cs_exit' ?_
            refine qx_then ?_
            refine qx_same ?_
            refine qn_then ?_
            refine cs_region (l := [_, _, _]) ?_
            refine ls_val (v := .int .i64 x7_2) rfl rfl (by kernel_rfl) (fun w => by kernel_rfl) ?_
            refine ls_val (v := .int .i64 (IntKind.wrap .i64 (x7_2 + (1 : Int)))) rfl rfl (by kernel_rfl) (fun w => by kernel_rfl) ?_
            refine ls_val (v := .int .i64 (IntKind.wrap .i64 (x7_2 + (1 : Int)))) rfl rfl (by kernel_rfl) (fun w => by kernel_rfl) ?_
            refine ls_end ?_
            refine qn_again k2 (sput (sput s0 0 (some (Ck.var 31 g1 (([Value.int .i64 m0_2.1] ++ [Value.int .i64 m0_2.2]))))) 1 (some (Ck.sl T31 xA43 xc44 (l5_2 ++ [((l0).getD (x7_2).toNat ((0 : Int), (0 : Int)))])))) (Nat.le_refl _) ⟨_, xA43, xc44, (l5_2 ++ [((l0).getD (x7_2).toNat ((0 : Int), (0 : Int)))]), x6_2, (IntKind.wrap .i64 (x7_2 + (1 : Int))), m0_2, fr_next (fr_next (fr_next (fr_next (fr_next (rfl) (by kernel_rfl)) (by kernel_rfl)) (by kernel_rfl)) (by kernel_rfl)) (by kernel_rfl), rfl, H⟩ (sub_put (by exact rfl) (sub_put (by exact rfl) (sub_nil _)))
          · replace H := ite_f q40 H
            refine cs_know (c := false) (dec_f q40) 34 (by kernel_rfl) ?_
            refine cs_false (by kernel_rfl) ?_
            refine cs_skip' ?_
            refine qn_meet (sput (sput (sput s0 0 (some (Ck.var 31 g1 (([Value.int .i64 m0_2.1] ++ [Value.int .i64 m0_2.2]))))) 1 (some (Ck.sl T31 A5_2 c5_2 l5_2))) 2 (some (Ck.var 31 g6 (([Value.int .i64 (((l0).getD (x7_2).toNat ((0 : Int), (0 : Int))).1)] ++ [Value.int .i64 (((l0).getD (x7_2).toNat ((0 : Int), (0 : Int))).2)]))))) ⟨_, A5_2, c5_2, l5_2, fr_next (fr_next (fr_next (fr_next (fr_next (fr_next (rfl) (by kernel_rfl)) (by kernel_rfl)) (by kernel_rfl)) (by kernel_rfl)) (by kernel_rfl)) (by kernel_rfl), rfl, H⟩ (sub_put (by exact rfl) (sub_put (by exact rfl) (sub_put (by exact rfl) (sub_nil _))))
        · rintro f S ⟨fr4, A5_4, c5_4, l5_4, rfl, rfl, H⟩
          replace H : (lt (((l0).getD (x7_2).toNat ((0 : Int), (0 : Int))).1) fun y7 => (if y7 > m0_2.2 then (if x6_2 = true then (if (l5_4.length + ([((l0).getD (x7_2).toNat ((0 : Int), (0 : Int)))]).length) * 16 ≤ 140737488355328 then (shadowboxref09_Add.lo2 l0 k2) (l5_4 ++ [((l0).getD (x7_2).toNat ((0 : Int), (0 : Int)))]) x6_2 (IntKind.wrap .i64 (x7_2 + (1 : Int))) m0_2 else none) else (if (l5_4.length + ([m0_2]).length) * 16 ≤ 140737488355328 then (if ((l5_4 ++ [m0_2]).length + ([((l0).getD (x7_2).toNat ((0 : Int), (0 : Int)))]).length) * 16 ≤ 140737488355328 then (shadowboxref09_Add.lo2 l0 k2) ((l5_4 ++ [m0_2]) ++ [((l0).getD (x7_2).toNat ((0 : Int), (0 : Int)))]) true (IntKind.wrap .i64 (x7_2 + (1 : Int))) m0_2 else none) else none)) else lt (((l0).getD (x7_2).toNat ((0 : Int), (0 : Int))).1) fun y23 => (if y23 < m0_2.1 then lt (((l0).getD (x7_2).toNat ((0 : Int), (0 : Int))).1) fun y26 => lt (((l0).getD (x7_2).toNat ((0 : Int), (0 : Int))).2) fun y28 => (if y28 > m0_2.2 then lt (((l0).getD (x7_2).toNat ((0 : Int), (0 : Int))).2) fun y31 => (shadowboxref09_Add.lo2 l0 k2) l5_4 x6_2 (IntKind.wrap .i64 (x7_2 + (1 : Int))) (y26, y31) else (shadowboxref09_Add.lo2 l0 k2) l5_4 x6_2 (IntKind.wrap .i64 (x7_2 + (1 : Int))) (y26, m0_2.2)) else lt (((l0).getD (x7_2).toNat ((0 : Int), (0 : Int))).2) fun y33 => (if y33 > m0_2.2 then lt (((l0).getD (x7_2).toNat ((0 : Int), (0 : Int))).2) fun y36 => (shadowboxref09_Add.lo2 l0 k2) l5_4 x6_2 (IntKind.wrap .i64 (x7_2 + (1 : Int))) (m0_2.1, y36) else (shadowboxref09_Add.lo2 l0 k2) l5_4 x6_2 (IntKind.wrap .i64 (x7_2 + (1 : Int))) m0_2)))) = some r := H
          refine cs_seq ?_
          refine cs_seq ?_
          refine cs_region (l := [_, _, _, _, _]) ?_
          refine ls_val (v := .pointer (some ⟨g6, (0 + 0), none⟩)) rfl rfl (by kernel_rfl) (fun w => by kernel_rfl) ?_
          obtain ⟨y7, hy8, H⟩ := lt_some H
          refine ls_load (a0 := ⟨g6, (0 + 0), none⟩) (v := .int .i64 (((l0).getD (x7_2).toNat ((0 : Int), (0 : Int))).1)) (de := (TypeDesc.int .i64)) rfl rfl (by kernel_rfl) rfl (by kernel_rfl) (by kernel_rfl) (by kernel_rfl) (fun w hs => (hs.var (k := 2) (by exact rfl) (Sub4.trans (Sub4.all _) (Sub4.head _ _)))) ?_
          refine ls_ren 40 (v := .int .i64 (((l0).getD (x7_2).toNat ((0 : Int), (0 : Int))).1)) (v' := .int .i64 y7) (by kernel_rfl) (by rw [hy8]) ?_
          refine ls_val (v := .pointer (some ⟨g1, (0 + 1), none⟩)) rfl rfl (by kernel_rfl) (fun w => by kernel_rfl) ?_
          refine ls_load (a0 := ⟨g1, (0 + 1), none⟩) (v := .int .i64 m0_2.2) (de := (TypeDesc.int .i64)) rfl rfl (by kernel_rfl) rfl (by kernel_rfl) (by kernel_rfl) (by kernel_rfl) (fun w hs => (hs.var (k := 0) (by exact rfl) (Sub4.trans (Sub4.all _) (Sub4.skip (n := 1) (len1 _) (Sub4.all _))))) ?_
          refine ls_val (v := .bool (decide (y7 > m0_2.2))) rfl rfl (by kernel_rfl) (fun w => by kernel_rfl) ?_
          refine ls_end ?_
          refine qn_then ?_
          by_cases q9 : y7 > m0_2.2
          · replace H := ite_t q9 H
            refine cs_know (c := true) (dec_t q9) 43 (by kernel_rfl) ?_
            refine cs_true (by kernel_rfl) ?_
            refine cs_seq ?_
            refine cs_seq ?_
            refine cs_region (l := [_, _]) ?_
            refine ls_val (v := .bool x6_2) rfl rfl (by kernel_rfl) (fun w => by kernel_rfl) ?_
            refine ls_val (v := .bool (!x6_2)) rfl rfl (by kernel_rfl) (fun w => by kernel_rfl) ?_
            refine ls_end ?_
            refine qn_then ?_
            by_cases q10 : x6_2 = true
            · replace H := ite_t q10 H
              refine cs_know (c := false) (congrArg Bool.not (q10)) 45 (by kernel_rfl) ?_
              refine cs_false (by kernel_rfl) ?_
              refine cs_skip' ?_
              refine qn_then ?_
              refine cs_seq ?_
              refine cs_region (l := [_, _, _, _, _]) ?_
              refine ls_val (v := .slice A5_4 l5_4.length c5_4) rfl rfl (by kernel_rfl) (fun w => by kernel_rfl) ?_
              refine ls_loadagg (a := ⟨g6, 0, none⟩) (sub := ([Value.int .i64 (((l0).getD (x7_2).toNat ((0 : Int), (0 : Int))).1)] ++ [Value.int .i64 (((l0).getD (x7_2).toNat ((0 : Int), (0 : Int))).2)])) rfl rfl (by kernel_rfl) rfl (by kernel_rfl) (by kernel_rfl) (by kernel_rfl) (len_app (len1 _) (len1 _)) (fun w hs => (hs.vars (k := 2) (by exact rfl) (Sub4.all _))) ?_
              refine ls_lit T31 3 rfl rfl (by kernel_rfl) ([((l0).getD (x7_2).toNat ((0 : Int), (0 : Int)))]) (by exact of_decide_eq_true (by kernel_rfl)) (fun w => by kernel_rfl) ?_
              intro g11
              obtain ⟨q12, H⟩ := ite_need H
              refine ls_app T31 (A := A5_4) (c := c5_4) (B := (some ⟨g11, 0, none⟩)) (cb := [((l0).getD (x7_2).toNat ((0 : Int), (0 : Int)))].length) (z := (.agg ⟨([Value.int .i64 (0 : Int)] ++ [Value.int .i64 (0 : Int)])⟩)) (l := l5_4) (m := [((l0).getD (x7_2).toNat ((0 : Int), (0 : Int)))]) (bytes := 16) 1 rfl rfl (by kernel_rfl) rfl (by kernel_rfl) (by exact rfl) (by kernel_rfl) (fun w hs => (hs.rd (k := 3) (by exact rfl))) (by kernel_rfl) (by kernel_rfl) rfl (by decide) q12 ?_
              intro xA13 xc14
              refine ls_val (v := .slice xA13 (l5_4 ++ [((l0).getD (x7_2).toNat ((0 : Int), (0 : Int)))]).length xc14) rfl rfl (by kernel_rfl) (fun w => by kernel_rfl) ?_
              refine ls_end ?_
              refine qn_then ?_
              refine cs_exit' ?_
              refine qx_then ?_
              refine qx_same ?_
              refine qn_then ?_
              refine cs_region (l := [_, _, _]) ?_
              refine ls_val (v := .int .i64 x7_2) rfl rfl (by kernel_rfl) (fun w => by kernel_rfl) ?_
              refine ls_val (v := .int .i64 (IntKind.wrap .i64 (x7_2 + (1 : Int)))) rfl rfl (by kernel_rfl) (fun w => by kernel_rfl) ?_
              refine ls_val (v := .int .i64 (IntKind.wrap .i64 (x7_2 + (1 : Int)))) rfl rfl (by kernel_rfl) (fun w => by kernel_rfl) ?_
              refine ls_end ?_
              refine qn_again k2 (sput (sput s0 0 (some (Ck.var 31 g1 (([Value.int .i64 m0_2.1] ++ [Value.int .i64 m0_2.2]))))) 1 (some (Ck.sl T31 xA13 xc14 (l5_4 ++ [((l0).getD (x7_2).toNat ((0 : Int), (0 : Int)))])))) (Nat.le_refl _) ⟨_, xA13, xc14, (l5_4 ++ [((l0).getD (x7_2).toNat ((0 : Int), (0 : Int)))]), x6_2, (IntKind.wrap .i64 (x7_2 + (1 : Int))), m0_2, fr_next (fr_next (fr_next (fr_next (fr_next (rfl) (by kernel_rfl)) (by kernel_rfl)) (by kernel_rfl)) (by kernel_rfl)) (by kernel_rfl), rfl, H⟩ (sub_put (by exact rfl) (sub_put (by exact rfl) (sub_nil _)))
            · replace H := ite_f q10 H
              refine cs_know (c := true) (congrArg Bool.not (Bool.eq_false_iff.mpr q10)) 45 (by kernel_rfl) ?_
              refine cs_true (by kernel_rfl) ?_
              refine cs_seq ?_
              refine cs_region (l := [_, _, _, _, _]) ?_
              refine ls_val (v := .slice A5_4 l5_4.length c5_4) rfl rfl (by kernel_rfl) (fun w => by kernel_rfl) ?_
              refine ls_loadagg (a := ⟨g1, 0, none⟩) (sub := ([Value.int .i64 m0_2.1] ++ [Value.int .i64 m0_2.2])) rfl rfl (by kernel_rfl) rfl (by kernel_rfl) (by kernel_rfl) (by kernel_rfl) (len_app (len1 _) (len1 _)) (fun w hs => (hs.vars (k := 0) (by exact rfl) (Sub4.all _))) ?_
              refine ls_lit T31 3 rfl rfl (by kernel_rfl) ([m0_2]) (by exact of_decide_eq_true (by kernel_rfl)) (fun w => by kernel_rfl) ?_
              intro g15
              obtain ⟨q16, H⟩ := ite_need H
              refine ls_app T31 (A := A5_4) (c := c5_4) (B := (some ⟨g15, 0, none⟩)) (cb := [m0_2].length) (z := (.agg ⟨([Value.int .i64 (0 : Int)] ++ [Value.int .i64 (0 : Int)])⟩)) (l := l5_4) (m := [m0_2]) (bytes := 16) 1 rfl rfl (by kernel_rfl) rfl (by kernel_rfl) (by exact rfl) (by kernel_rfl) (fun w hs => (hs.rd (k := 3) (by exact rfl))) (by kernel_rfl) (by kernel_rfl) rfl (by decide) q16 ?_
              intro xA17 xc18
              refine ls_val (v := .slice xA17 (l5_4 ++ [m0_2]).length xc18) rfl rfl (by kernel_rfl) (fun w => by kernel_rfl) ?_
              refine ls_end ?_
              refine qn_then ?_
              refine cs_region (l := [_]) ?_
              refine ls_val (v := .bool true) rfl rfl (by kernel_rfl) (fun w => by kernel_rfl) ?_
              refine ls_end ?_
              refine qn_then ?_
              refine cs_seq ?_
              refine cs_region (l := [_, _, _, _, _]) ?_
              refine ls_val (v := .slice xA17 (l5_4 ++ [m0_2]).length xc18) rfl rfl (by kernel_rfl) (fun w => by kernel_rfl) ?_
              refine ls_loadagg (a := ⟨g6, 0, none⟩) (sub := ([Value.int .i64 (((l0).getD (x7_2).toNat ((0 : Int), (0 : Int))).1)] ++ [Value.int .i64 (((l0).getD (x7_2).toNat ((0 : Int), (0 : Int))).2)])) rfl rfl (by kernel_rfl) rfl (by kernel_rfl) (by kernel_rfl) (by kernel_rfl) (len_app (len1 _) (len1 _)) (fun w hs => (hs.vars (k := 2) (by exact rfl) (Sub4.all _))) ?_
              refine ls_lit T31 4 rfl rfl (by kernel_rfl) ([((l0).getD (x7_2).toNat ((0 : Int), (0 : Int)))]) (by exact of_decide_eq_true (by kernel_rfl)) (fun w => by kernel_rfl) ?_
              intro g19
              obtain ⟨q20, H⟩ := ite_need H
              refine ls_app T31 (A := xA17) (c := xc18) (B := (some ⟨g19, 0, none⟩)) (cb := [((l0).getD (x7_2).toNat ((0 : Int), (0 : Int)))].length) (z := (.agg ⟨([Value.int .i64 (0 : Int)] ++ [Value.int .i64 (0 : Int)])⟩)) (l := (l5_4 ++ [m0_2])) (m := [((l0).getD (x7_2).toNat ((0 : Int), (0 : Int)))]) (bytes := 16) 1 rfl rfl (by kernel_rfl) rfl (by kernel_rfl) (by exact rfl) (by kernel_rfl) (fun w hs => (hs.rd (k := 4) (by exact rfl))) (by kernel_rfl) (by kernel_rfl) rfl (by decide) q20 ?_
              intro xA21 xc22
              refine ls_val (v := .slice xA21 ((l5_4 ++ [m0_2]) ++ [((l0).getD (x7_2).toNat ((0 : Int), (0 : Int)))]).length xc22) rfl rfl (by kernel_rfl) (fun w => by kernel_rfl) ?_
              refine ls_end ?_
              refine qn_then ?_
              refine cs_exit' ?_
              refine qx_then ?_
              refine qx_same ?_
              refine qn_then ?_
              refine cs_region (l := [_, _, _]) ?_
              refine ls_val (v := .int .i64 x7_2) rfl rfl (by kernel_rfl) (fun w => by kernel_rfl) ?_
              refine ls_val (v := .int .i64 (IntKind.wrap .i64 (x7_2 + (1 : Int)))) rfl rfl (by kernel_rfl) (fun w => by kernel_rfl) ?_
              refine ls_val (v := .int .i64 (IntKind.wrap .i64 (x7_2 + (1 : Int)))) rfl rfl (by kernel_rfl) (fun w => by kernel_rfl) ?_
              refine ls_end ?_
              refine qn_again k2 (sput (sput s0 0 (some (Ck.var 31 g1 (([Value.int .i64 m0_2.1] ++ [Value.int .i64 m0_2.2]))))) 1 (some (Ck.sl T31 xA21 xc22 ((l5_4 ++ [m0_2]) ++ [((l0).getD (x7_2).toNat ((0 : Int), (0 : Int)))])))) (Nat.le_refl _) ⟨_, xA21, xc22, ((l5_4 ++ [m0_2]) ++ [((l0).getD (x7_2).toNat ((0 : Int), (0 : Int)))]), true, (IntKind.wrap .i64 (x7_2 + (1 : Int))), m0_2, fr_next (fr_next (fr_next (fr_next (fr_next (rfl) (by kernel_rfl)) (by kernel_rfl)) (by kernel_rfl)) (by kernel_rfl)) (by kernel_rfl), rfl, H⟩ (sub_put (by exact rfl) (sub_put (by exact rfl) (sub_nil _)))
          · replace H := ite_f q9 H
            refine cs_know (c := false) (dec_f q9) 43 (by kernel_rfl) ?_
            refine cs_false (by kernel_rfl) ?_
            refine cs_skip' ?_
            refine qn_then ?_
            refine cs_seq ?_
            refine cs_seq ?_
            refine cs_region (l := [_, _, _, _, _]) ?_
            refine ls_val (v := .pointer (some ⟨g6, (0 + 0), none⟩)) rfl rfl (by kernel_rfl) (fun w => by kernel_rfl) ?_
            obtain ⟨y23, hy24, H⟩ := lt_some H
            refine ls_load (a0 := ⟨g6, (0 + 0), none⟩) (v := .int .i64 (((l0).getD (x7_2).toNat ((0 : Int), (0 : Int))).1)) (de := (TypeDesc.int .i64)) rfl rfl (by kernel_rfl) rfl (by kernel_rfl) (by kernel_rfl) (by kernel_rfl) (fun w hs => (hs.var (k := 2) (by exact rfl) (Sub4.trans (Sub4.all _) (Sub4.head _ _)))) ?_
            refine ls_ren 55 (v := .int .i64 (((l0).getD (x7_2).toNat ((0 : Int), (0 : Int))).1)) (v' := .int .i64 y23) (by kernel_rfl) (by rw [hy24]) ?_
            refine ls_val (v := .pointer (some ⟨g1, (0 + 0), none⟩)) rfl rfl (by kernel_rfl) (fun w => by kernel_rfl) ?_
            refine ls_load (a0 := ⟨g1, (0 + 0), none⟩) (v := .int .i64 m0_2.1) (de := (TypeDesc.int .i64)) rfl rfl (by kernel_rfl) rfl (by kernel_rfl) (by kernel_rfl) (by kernel_rfl) (fun w hs => (hs.var (k := 0) (by exact rfl) (Sub4.trans (Sub4.all _) (Sub4.head _ _)))) ?_
            refine ls_val (v := .bool (decide (y23 < m0_2.1))) rfl rfl (by kernel_rfl) (fun w => by kernel_rfl) ?_
            refine ls_end ?_
            refine qn_then ?_
            by_cases q25 : y23 < m0_2.1
            · replace H := ite_t q25 H
              refine cs_know (c := true) (dec_t q25) 58 (by kernel_rfl) ?_
              refine cs_true (by kernel_rfl) ?_
              refine cs_region (l := [_, _, _, _]) ?_
              refine ls_val (v := .pointer (some ⟨g6, (0 + 0), none⟩)) rfl rfl (by kernel_rfl) (fun w => by kernel_rfl) ?_
              obtain ⟨y26, hy27, H⟩ := lt_some H
              refine ls_load (a0 := ⟨g6, (0 + 0), none⟩) (v := .int .i64 (((l0).getD (x7_2).toNat ((0 : Int), (0 : Int))).1)) (de := (TypeDesc.int .i64)) rfl rfl (by kernel_rfl) rfl (by kernel_rfl) (by kernel_rfl) (by kernel_rfl) (fun w hs => (hs.var (k := 2) (by exact rfl) (Sub4.trans (Sub4.all _) (Sub4.head _ _)))) ?_
              refine ls_ren 60 (v := .int .i64 (((l0).getD (x7_2).toNat ((0 : Int), (0 : Int))).1)) (v' := .int .i64 y26) (by kernel_rfl) (by rw [hy27]) ?_
              refine ls_val (v := .pointer (some ⟨g1, (0 + 0), none⟩)) rfl rfl (by kernel_rfl) (fun w => by kernel_rfl) ?_
              refine ls_storec (g := g1) (off := (0 + 0)) (v := .int .i64 y26) (vs := [Value.int .i64 y26]) (cs := ([Value.int .i64 m0_2.1] ++ [Value.int .i64 m0_2.2])) (ty := 31) 0 rfl rfl rfl (by kernel_rfl) (by kernel_rfl) (by kernel_rfl) (by exact rfl) (by kernel_rfl) (len1 _) (one_cons rfl one_nil) (hl_of (Sub4.trans (Sub4.all _) (Sub4.head _ _)) (len_eq (len1 _) (len1 _))) (cs' := ([Value.int .i64 y26] ++ [Value.int .i64 m0_2.2])) (splc_in (Sub4.all _) (splc_head (len_eq (len1 _) (len1 _))) (splc_all (len_eq (len_app (len1 _) (len1 _)) (len_app (len1 _) (len1 _)))) (hl_of (Sub4.head _ _) (len_eq (len1 _) (len1 _)))) ?_
              refine ls_end ?_
              refine qn_then ?_
              refine cs_seq ?_
              refine cs_region (l := [_, _, _, _, _]) ?_
              refine ls_val (v := .pointer (some ⟨g6, (0 + 1), none⟩)) rfl rfl (by kernel_rfl) (fun w => by kernel_rfl) ?_
              obtain ⟨y28, hy29, H⟩ := lt_some H
              refine ls_load (a0 := ⟨g6, (0 + 1), none⟩) (v := .int .i64 (((l0).getD (x7_2).toNat ((0 : Int), (0 : Int))).2)) (de := (TypeDesc.int .i64)) rfl rfl (by kernel_rfl) rfl (by kernel_rfl) (by kernel_rfl) (by kernel_rfl) (fun w hs => (hs.var (k := 2) (by exact rfl) (Sub4.trans (Sub4.all _) (Sub4.skip (n := 1) (len1 _) (Sub4.all _))))) ?_
              refine ls_ren 63 (v := .int .i64 (((l0).getD (x7_2).toNat ((0 : Int), (0 : Int))).2)) (v' := .int .i64 y28) (by kernel_rfl) (by rw [hy29]) ?_
              refine ls_val (v := .pointer (some ⟨g1, (0 + 1), none⟩)) rfl rfl (by kernel_rfl) (fun w => by kernel_rfl) ?_
              refine ls_load (a0 := ⟨g1, (0 + 1), none⟩) (v := .int .i64 m0_2.2) (de := (TypeDesc.int .i64)) rfl rfl (by kernel_rfl) rfl (by kernel_rfl) (by kernel_rfl) (by kernel_rfl) (fun w hs => (hs.var (k := 0) (by exact rfl) (Sub4.trans (Sub4.all _) (Sub4.skip (n := 1) (len1 _) (Sub4.all _))))) ?_
              refine ls_val (v := .bool (decide (y28 > m0_2.2))) rfl rfl (by kernel_rfl) (fun w => by kernel_rfl) ?_
              refine ls_end ?_
              refine qn_then ?_
              by_cases q30 : y28 > m0_2.2
              · replace H := ite_t q30 H
                refine cs_know (c := true) (dec_t q30) 66 (by kernel_rfl) ?_
                refine cs_true (by kernel_rfl) ?_
                refine cs_region (l := [_, _, _, _]) ?_
                refine ls_val (v := .pointer (some ⟨g6, (0 + 1), none⟩)) rfl rfl (by kernel_rfl) (fun w => by kernel_rfl) ?_
                obtain ⟨y31, hy32, H⟩ := lt_some H
                refine ls_load (a0 := ⟨g6, (0 + 1), none⟩) (v := .int .i64 (((l0).getD (x7_2).toNat ((0 : Int), (0 : Int))).2)) (de := (TypeDesc.int .i64)) rfl rfl (by kernel_rfl) rfl (by kernel_rfl) (by kernel_rfl) (by kernel_rfl) (fun w hs => (hs.var (k := 2) (by exact rfl) (Sub4.trans (Sub4.all _) (Sub4.skip (n := 1) (len1 _) (Sub4.all _))))) ?_
                refine ls_ren 68 (v := .int .i64 (((l0).getD (x7_2).toNat ((0 : Int), (0 : Int))).2)) (v' := .int .i64 y31) (by kernel_rfl) (by rw [hy32]) ?_
                refine ls_val (v := .pointer (some ⟨g1, (0 + 1), none⟩)) rfl rfl (by kernel_rfl) (fun w => by kernel_rfl) ?_
                refine ls_storec (g := g1) (off := (0 + 1)) (v := .int .i64 y31) (vs := [Value.int .i64 y31]) (cs := ([Value.int .i64 y26] ++ [Value.int .i64 m0_2.2])) (ty := 31) 0 rfl rfl rfl (by kernel_rfl) (by kernel_rfl) (by kernel_rfl) (by exact rfl) (by kernel_rfl) (len1 _) (one_cons rfl one_nil) (hl_of (Sub4.trans (Sub4.all _) (Sub4.skip (n := 1) (len1 _) (Sub4.all _))) (len_eq (len1 _) (len1 _))) (cs' := ([Value.int .i64 y26] ++ [Value.int .i64 y31])) (splc_in (Sub4.all _) (splc_skip (n := 1) (len1 _) (splc_all (len_eq (len1 _) (len1 _)))) (splc_all (len_eq (len_app (len1 _) (len1 _)) (len_app (len1 _) (len1 _)))) (hl_of (Sub4.skip (n := 1) (len1 _) (Sub4.all _)) (len_eq (len1 _) (len1 _)))) ?_
                refine ls_end ?_
                refine qn_block ?_
                refine qn_then ?_
                refine cs_region (l := [_, _, _]) ?_
                refine ls_val (v := .int .i64 x7_2) rfl rfl (by kernel_rfl) (fun w => by kernel_rfl) ?_
                refine ls_val (v := .int .i64 (IntKind.wrap .i64 (x7_2 + (1 : Int)))) rfl rfl (by kernel_rfl) (fun w => by kernel_rfl) ?_
                refine ls_val (v := .int .i64 (IntKind.wrap .i64 (x7_2 + (1 : Int)))) rfl rfl (by kernel_rfl) (fun w => by kernel_rfl) ?_
                refine ls_end ?_
                refine qn_again k2 (sput (sput s0 0 (some (Ck.var 31 g1 (([Value.int .i64 y26] ++ [Value.int .i64 y31]))))) 1 (some (Ck.sl T31 A5_4 c5_4 l5_4))) (Nat.le_refl _) ⟨_, A5_4, c5_4, l5_4, x6_2, (IntKind.wrap .i64 (x7_2 + (1 : Int))), (y26, y31), fr_next (fr_next (fr_next (fr_next (fr_next (rfl) (by kernel_rfl)) (by kernel_rfl)) (by kernel_rfl)) (by kernel_rfl)) (by kernel_rfl), rfl, H⟩ (sub_put (by exact rfl) (sub_put (by exact rfl) (sub_nil _)))
              · replace H := ite_f q30 H
                refine cs_know (c := false) (dec_f q30) 66 (by kernel_rfl) ?_
                refine cs_false (by kernel_rfl) ?_
                refine cs_skip' ?_
                refine qn_block ?_
                refine qn_then ?_
                refine cs_region (l := [_, _, _]) ?_
                refine ls_val (v := .int .i64 x7_2) rfl rfl (by kernel_rfl) (fun w => by kernel_rfl) ?_
                refine ls_val (v := .int .i64 (IntKind.wrap .i64 (x7_2 + (1 : Int)))) rfl rfl (by kernel_rfl) (fun w => by kernel_rfl) ?_
                refine ls_val (v := .int .i64 (IntKind.wrap .i64 (x7_2 + (1 : Int)))) rfl rfl (by kernel_rfl) (fun w => by kernel_rfl) ?_
                refine ls_end ?_
                refine qn_again k2 (sput (sput s0 0 (some (Ck.var 31 g1 (([Value.int .i64 y26] ++ [Value.int .i64 m0_2.2]))))) 1 (some (Ck.sl T31 A5_4 c5_4 l5_4))) (Nat.le_refl _) ⟨_, A5_4, c5_4, l5_4, x6_2, (IntKind.wrap .i64 (x7_2 + (1 : Int))), (y26, m0_2.2), fr_next (fr_next (fr_next (fr_next (fr_next (rfl) (by kernel_rfl)) (by kernel_rfl)) (by kernel_rfl)) (by kernel_rfl)) (by kernel_rfl), rfl, H⟩ (sub_put (by exact rfl) (sub_put (by exact rfl) (sub_nil _)))
            · replace H := ite_f q25 H
              refine cs_know (c := false) (dec_f q25) 58 (by kernel_rfl) ?_
              refine cs_false (by kernel_rfl) ?_
              refine cs_skip' ?_
              refine qn_then ?_
              refine cs_seq ?_
              refine cs_region (l := [_, _, _, _, _]) ?_
              refine ls_val (v := .pointer (some ⟨g6, (0 + 1), none⟩)) rfl rfl (by kernel_rfl) (fun w => by kernel_rfl) ?_
              obtain ⟨y33, hy34, H⟩ := lt_some H
              refine ls_load (a0 := ⟨g6, (0 + 1), none⟩) (v := .int .i64 (((l0).getD (x7_2).toNat ((0 : Int), (0 : Int))).2)) (de := (TypeDesc.int .i64)) rfl rfl (by kernel_rfl) rfl (by kernel_rfl) (by kernel_rfl) (by kernel_rfl) (fun w hs => (hs.var (k := 2) (by exact rfl) (Sub4.trans (Sub4.all _) (Sub4.skip (n := 1) (len1 _) (Sub4.all _))))) ?_
              refine ls_ren 63 (v := .int .i64 (((l0).getD (x7_2).toNat ((0 : Int), (0 : Int))).2)) (v' := .int .i64 y33) (by kernel_rfl) (by rw [hy34]) ?_
              refine ls_val (v := .pointer (some ⟨g1, (0 + 1), none⟩)) rfl rfl (by kernel_rfl) (fun w => by kernel_rfl) ?_
              refine ls_load (a0 := ⟨g1, (0 + 1), none⟩) (v := .int .i64 m0_2.2) (de := (TypeDesc.int .i64)) rfl rfl (by kernel_rfl) rfl (by kernel_rfl) (by kernel_rfl) (by kernel_rfl) (fun w hs => (hs.var (k := 0) (by exact rfl) (Sub4.trans (Sub4.all _) (Sub4.skip (n := 1) (len1 _) (Sub4.all _))))) ?_
              refine ls_val (v := .bool (decide (y33 > m0_2.2))) rfl rfl (by kernel_rfl) (fun w => by kernel_rfl) ?_
              refine ls_end ?_
              refine qn_then ?_
              by_cases q35 : y33 > m0_2.2
              · replace H := ite_t q35 H
                refine cs_know (c := true) (dec_t q35) 66 (by kernel_rfl) ?_
                refine cs_true (by kernel_rfl) ?_
                refine cs_region (l := [_, _, _, _]) ?_
                refine ls_val (v := .pointer (some ⟨g6, (0 + 1), none⟩)) rfl rfl (by kernel_rfl) (fun w => by kernel_rfl) ?_
                obtain ⟨y36, hy37, H⟩ := lt_some H
                refine ls_load (a0 := ⟨g6, (0 + 1), none⟩) (v := .int .i64 (((l0).getD (x7_2).toNat ((0 : Int), (0 : Int))).2)) (de := (TypeDesc.int .i64)) rfl rfl (by kernel_rfl) rfl (by kernel_rfl) (by kernel_rfl) (by kernel_rfl) (fun w hs => (hs.var (k := 2) (by exact rfl) (Sub4.trans (Sub4.all _) (Sub4.skip (n := 1) (len1 _) (Sub4.all _))))) ?_
                refine ls_ren 68 (v := .int .i64 (((l0).getD (x7_2).toNat ((0 : Int), (0 : Int))).2)) (v' := .int .i64 y36) (by kernel_rfl) (by rw [hy37]) ?_
                refine ls_val (v := .pointer (some ⟨g1, (0 + 1), none⟩)) rfl rfl (by kernel_rfl) (fun w => by kernel_rfl) ?_
                refine ls_storec (g := g1) (off := (0 + 1)) (v := .int .i64 y36) (vs := [Value.int .i64 y36]) (cs := ([Value.int .i64 m0_2.1] ++ [Value.int .i64 m0_2.2])) (ty := 31) 0 rfl rfl rfl (by kernel_rfl) (by kernel_rfl) (by kernel_rfl) (by exact rfl) (by kernel_rfl) (len1 _) (one_cons rfl one_nil) (hl_of (Sub4.trans (Sub4.all _) (Sub4.skip (n := 1) (len1 _) (Sub4.all _))) (len_eq (len1 _) (len1 _))) (cs' := ([Value.int .i64 m0_2.1] ++ [Value.int .i64 y36])) (splc_in (Sub4.all _) (splc_skip (n := 1) (len1 _) (splc_all (len_eq (len1 _) (len1 _)))) (splc_all (len_eq (len_app (len1 _) (len1 _)) (len_app (len1 _) (len1 _)))) (hl_of (Sub4.skip (n := 1) (len1 _) (Sub4.all _)) (len_eq (len1 _) (len1 _)))) ?_
                refine ls_end ?_
                refine qn_block ?_
                refine qn_then ?_
                refine cs_region (l := [_, _, _]) ?_
                refine ls_val (v := .int .i64 x7_2) rfl rfl (by kernel_rfl) (fun w => by kernel_rfl) ?_
                refine ls_val (v := .int .i64 (IntKind.wrap .i64 (x7_2 + (1 : Int)))) rfl rfl (by kernel_rfl) (fun w => by kernel_rfl) ?_
                refine ls_val (v := .int .i64 (IntKind.wrap .i64 (x7_2 + (1 : Int)))) rfl rfl (by kernel_rfl) (fun w => by kernel_rfl) ?_
                refine ls_end ?_
                refine qn_again k2 (sput (sput s0 0 (some (Ck.var 31 g1 (([Value.int .i64 m0_2.1] ++ [Value.int .i64 y36]))))) 1 (some (Ck.sl T31 A5_4 c5_4 l5_4))) (Nat.le_refl _) ⟨_, A5_4, c5_4, l5_4, x6_2, (IntKind.wrap .i64 (x7_2 + (1 : Int))), (m0_2.1, y36), fr_next (fr_next (fr_next (fr_next (fr_next (rfl) (by kernel_rfl)) (by kernel_rfl)) (by kernel_rfl)) (by kernel_rfl)) (by kernel_rfl), rfl, H⟩ (sub_put (by exact rfl) (sub_put (by exact rfl) (sub_nil _)))
              · replace H := ite_f q35 H
                refine cs_know (c := false) (dec_f q35) 66 (by kernel_rfl) ?_
                refine cs_false (by kernel_rfl) ?_
                refine cs_skip' ?_
                refine qn_block ?_
                refine qn_then ?_
                refine cs_region (l := [_, _, _]) ?_
                refine ls_val (v := .int .i64 x7_2) rfl rfl (by kernel_rfl) (fun w => by kernel_rfl) ?_
                refine ls_val (v := .int .i64 (IntKind.wrap .i64 (x7_2 + (1 : Int)))) rfl rfl (by kernel_rfl) (fun w => by kernel_rfl) ?_
                refine ls_val (v := .int .i64 (IntKind.wrap .i64 (x7_2 + (1 : Int)))) rfl rfl (by kernel_rfl) (fun w => by kernel_rfl) ?_
                refine ls_end ?_
                refine qn_again k2 (sput (sput s0 0 (some (Ck.var 31 g1 (([Value.int .i64 m0_2.1] ++ [Value.int .i64 m0_2.2]))))) 1 (some (Ck.sl T31 A5_4 c5_4 l5_4))) (Nat.le_refl _) ⟨_, A5_4, c5_4, l5_4, x6_2, (IntKind.wrap .i64 (x7_2 + (1 : Int))), m0_2, fr_next (fr_next (fr_next (fr_next (fr_next (rfl) (by kernel_rfl)) (by kernel_rfl)) (by kernel_rfl)) (by kernel_rfl)) (by kernel_rfl), rfl, H⟩ (sub_put (by exact rfl) (sub_put (by exact rfl) (sub_nil _)))

/-! ### shadowbox/shadowboxref09.Remove: function 19 -/
def shadowboxref09_Remove.jo4 (l0 : List (Int × Int)) (a1 : (Int × Int)) (x6_2 : Int) (lo2 : (List (Int × Int)) → Int → Option ((List (Int × Int)))) (l5_4 : List (Int × Int)) (x36_4 : Int) (x38_4 : Int) (x39_4 : Bool) : Option ((List (Int × Int))) := lt (((l0).getD (x6_2).toNat ((0 : Int), (0 : Int))).1) fun y7 => (if y7 < a1.1 then lt (((l0).getD (x6_2).toNat ((0 : Int), (0 : Int))).1) fun y10 => (if (l5_4.length + ([(y10, a1.1)]).length) * 16 ≤ 140737488355328 then lt (((l0).getD (x6_2).toNat ((0 : Int), (0 : Int))).2) fun y16 => (if y16 > a1.2 then lt (((l0).getD (x6_2).toNat ((0 : Int), (0 : Int))).2) fun y19 => (if ((l5_4 ++ [(y10, a1.1)]).length + ([(a1.2, y19)]).length) * 16 ≤ 140737488355328 then lo2 ((l5_4 ++ [(y10, a1.1)]) ++ [(a1.2, y19)]) (IntKind.wrap .i64 (x6_2 + (1 : Int))) else none) else lo2 (l5_4 ++ [(y10, a1.1)]) (IntKind.wrap .i64 (x6_2 + (1 : Int)))) else none) else lt (((l0).getD (x6_2).toNat ((0 : Int), (0 : Int))).2) fun y25 => (if y25 > a1.2 then lt (((l0).getD (x6_2).toNat ((0 : Int), (0 : Int))).2) fun y28 => (if (l5_4.length + ([(a1.2, y28)]).length) * 16 ≤ 140737488355328 then lo2 (l5_4 ++ [(a1.2, y28)]) (IntKind.wrap .i64 (x6_2 + (1 : Int))) else none) else lo2 l5_4 (IntKind.wrap .i64 (x6_2 + (1 : Int)))))
def shadowboxref09_Remove.jo3 (l0 : List (Int × Int)) (a1 : (Int × Int)) (l5_2 : List (Int × Int)) (x6_2 : Int) (lo2 : (List (Int × Int)) → Int → Option ((List (Int × Int)))) : Option ((List (Int × Int))) := (if 0 ≤ x6_2 then (if x6_2 < (l0.length : Int) then lt (((l0).getD (x6_2).toNat ((0 : Int), (0 : Int))).2) fun y34 => (if y34 ≤ a1.1 then (if (l5_2.length + ([((l0).getD (x6_2).toNat ((0 : Int), (0 : Int)))]).length) * 16 ≤ 140737488355328 then lo2 (l5_2 ++ [((l0).getD (x6_2).toNat ((0 : Int), (0 : Int)))]) (IntKind.wrap .i64 (x6_2 + (1 : Int))) else none) else lt (((l0).getD (x6_2).toNat ((0 : Int), (0 : Int))).1) fun y41 => (if y41 ≥ a1.2 then (if (l5_2.length + ([((l0).getD (x6_2).toNat ((0 : Int), (0 : Int)))]).length) * 16 ≤ 140737488355328 then lo2 (l5_2 ++ [((l0).getD (x6_2).toNat ((0 : Int), (0 : Int)))]) (IntKind.wrap .i64 (x6_2 + (1 : Int))) else none) else (shadowboxref09_Remove.jo4 l0 a1 x6_2 lo2) l5_2 y41 a1.2 (decide (y41 ≥ a1.2)))) else none) else none)
def shadowboxref09_Remove.lo2 (l0 : List (Int × Int)) (a1 : (Int × Int)) : Nat → (List (Int × Int)) → Int → Option ((List (Int × Int)))
  | 0, _, _ => none
  | k2 + 1, l5_2, x6_2 => (if x6_2 < (l0.length : Int) then (shadowboxref09_Remove.jo3 l0 a1 l5_2 x6_2 (shadowboxref09_Remove.lo2 l0 a1 k2)) else some l5_2)
def shadowboxref09_Remove.jo1 (k : Nat) (l0 : List (Int × Int)) (a1 : (Int × Int)) : Option ((List (Int × Int))) := shadowboxref09_Remove.lo2 l0 a1 k ([] : List (Int × Int)) (0 : Int)
def shadowboxref09_Remove.f (k : Nat) (l0 : List (Int × Int)) (a1 : (Int × Int)) : Option ((List (Int × Int))) :=
  (shadowboxref09_Valid.f k l0).bind fun t49 => (if t49 = true then (shadowboxref09_right.f k a1).bind fun t53 => (if t53 = true then (shadowboxref09_Remove.jo1 k l0 a1) else (if (([] : List (Int × Int)).length + l0.length) * 16 ≤ 140737488355328 then some (([] : List (Int × Int)) ++ l0) else none)) else (if (([] : List (Int × Int)).length + l0.length) * 16 ≤ 140737488355328 then some (([] : List (Int × Int)) ++ l0) else none))
set_option maxRecDepth 100000 in
set_option maxHeartbeats 4000000 in
theorem shadowboxref09_Remove.calls (k : Nat) (A0 : Option Addr) (c0 : Nat) (l0 : List (Int × Int)) (a1 : (Int × Int)) (r : (List (Int × Int))) (b : Bs) (hs0 : St b (stl []) b.w) (R0 : Ro b A0 (em T31 l0)) (C0 : l0.length ≤ c0) (H : shadowboxref09_Remove.f k l0 a1 = some r) :
    Calls Try.prog 19 #[.slice A0 l0.length c0, .agg ⟨([Value.int .i64 a1.1] ++ [Value.int .i64 a1.2])⟩] b.w fun e w' => ∃ x : (Option Addr × Nat), e = .returned (.slice x.1 r.length x.2) ∧ St b (stl [Ck.sl T31 x.1 x.2 r]) w' := by
  unfold shadowboxref09_Remove.f at H
  refine enterb (n := 72) Try.func19 rfl (by kernel_rfl) (by kernel_rfl) hs0 ?_
  refine cs_sub (s0) (sub_nil _) ?_
  refine cs_seq ?_
  refine cs_region (l := [_, _]) ?_
  refine ls_new rfl rfl (by kernel_rfl) 0 (fun g => .pointer (some ⟨g, 0, none⟩)) (.cells ⟨([Value.int .i64 a1.1] ++ [Value.int .i64 a1.2])⟩ 31) (fun w => by kernel_rfl) ?_
  intro g1
  refine ls_val (v := .slice none 0 0) rfl rfl (by kernel_rfl) (fun w => by kernel_rfl) ?_
  refine ls_end ?_
  refine qn_then ?_
  refine cs_cut (fun f S => ∃ (fR : Fr), f = upd (upd fR 0 (.slice A0 l0.length c0)) 3 (.pointer (some ⟨g1, 0, none⟩)) ∧ S = sput s0 0 (some (Ck.var 31 g1 (([Value.int .i64 a1.1] ++ [Value.int .i64 a1.2])))) ∧ shadowboxref09_Remove.jo1 k l0 a1 = some r) ?_ ?_
  · skip
    refine cs_seq ?_
    refine cs_region (l := [_, _, _, _, _, _, _, _]) ?_
    refine ls_val (v := .slice A0 l0.length c0) rfl rfl (by kernel_rfl) (fun w => by kernel_rfl) ?_
    obtain ⟨t49, hc50, H⟩ := bind_some H
    refine ls_callb (fid := 22) (vals := #[.slice A0 l0.length c0]) (X := Unit) (fun x => .bool t49) (fun x => stl []) [] [] [] [] 1 rfl rfl (by kernel_rfl) (fun w => by kernel_rfl) trivial trivial (by decide) (fun w hs hb => shadowboxref09_Valid.calls k A0 c0 l0 t49 (lent b w [] []) hb (hs.ro R0 _ _) C0 hc50) ?_
    intro x51
    refine ls_val (v := .bool (!t49)) rfl rfl (by kernel_rfl) (fun w => by kernel_rfl) ?_
    refine ls_val (v := .bool (!t49)) rfl rfl (by kernel_rfl) (fun w => by kernel_rfl) ?_
    by_cases q52 : t49 = true
    · replace H := ite_t q52 H
      refine ls_know (c := false) (congrArg Bool.not (q52)) 11 (by kernel_rfl) ?_
      refine ls_on (j := 3) (t := 11) (b := false) rfl rfl (by kernel_rfl) (by kernel_rfl) ?_
      refine ls_loadagg (a := ⟨g1, 0, none⟩) (sub := ([Value.int .i64 a1.1] ++ [Value.int .i64 a1.2])) rfl rfl (by kernel_rfl) rfl (by kernel_rfl) (by kernel_rfl) (by kernel_rfl) (len_app (len1 _) (len1 _)) (fun w hs => (hs.vars (k := 0) (by exact rfl) (Sub4.all _))) ?_
      refine ls_on (j := 3) (t := 11) (b := false) rfl rfl (by kernel_rfl) (by kernel_rfl) ?_
      obtain ⟨t53, hc54, H⟩ := bind_some H
      refine ls_callb (fid := 45) (vals := #[.agg ⟨([Value.int .i64 a1.1] ++ [Value.int .i64 a1.2])⟩]) (X := Unit) (fun x => .bool t53) (fun x => stl []) [] [] [] [] 1 rfl rfl (by kernel_rfl) (fun w => by kernel_rfl) trivial trivial (by decide) (fun w hs hb => shadowboxref09_right.calls k a1 t53 (lent b w [] []) hb  hc54) ?_
      intro x55
      refine ls_on (j := 3) (t := 11) (b := false) rfl rfl (by kernel_rfl) (by kernel_rfl) ?_
      refine ls_val (v := .bool (!t53)) rfl rfl (by kernel_rfl) (fun w => by kernel_rfl) ?_
      refine ls_val (v := .bool (!t53)) rfl rfl (by kernel_rfl) (fun w => by kernel_rfl) ?_
      refine ls_end ?_
      refine qn_then ?_
      by_cases q56 : t53 = true
      · replace H := ite_t q56 H
        refine cs_know (c := false) (congrArg Bool.not (q56)) 15 (by kernel_rfl) ?_
        refine cs_false (by kernel_rfl) ?_
        refine cs_skip' ?_
        refine qn_meet (sput s0 0 (some (Ck.var 31 g1 (([Value.int .i64 a1.1] ++ [Value.int .i64 a1.2]))))) ⟨_, fr_next (fr_next (rfl) (by kernel_rfl)) (by kernel_rfl), rfl, H⟩ (sub_put (by exact rfl) (sub_nil _))
      · replace H := ite_f q56 H
        refine cs_know (c := true) (congrArg Bool.not (Bool.eq_false_iff.mpr q56)) 15 (by kernel_rfl) ?_
        refine cs_true (by kernel_rfl) ?_
        refine cs_seq ?_
        refine cs_region (l := [_, _, _, _]) ?_
        refine ls_lit T31 1 rfl rfl (by kernel_rfl) ([] : List (Int × Int)) (by exact of_decide_eq_true (by kernel_rfl)) (fun w => by kernel_rfl) ?_
        intro g57
        refine ls_val (v := .slice A0 l0.length c0) rfl rfl (by kernel_rfl) (fun w => by kernel_rfl) ?_
        obtain ⟨q58, H⟩ := ite_need H
        refine ls_app T31 (A := (some ⟨g57, 0, none⟩)) (c := ([] : List (Int × Int)).length) (B := A0) (cb := c0) (z := (.agg ⟨([Value.int .i64 (0 : Int)] ++ [Value.int .i64 (0 : Int)])⟩)) (l := ([] : List (Int × Int))) (m := l0) (bytes := 16) 1 rfl rfl (by kernel_rfl) rfl (by kernel_rfl) (by exact rfl) (by kernel_rfl) (fun w hs => (hs.old R0)) (by kernel_rfl) (by kernel_rfl) rfl (by decide) q58 ?_
        intro xA59 xc60
        refine ls_val (v := .slice xA59 (([] : List (Int × Int)) ++ l0).length xc60) rfl rfl (by kernel_rfl) (fun w => by kernel_rfl) ?_
        refine ls_end ?_
        refine qn_then ?_
        refine cs_ret' ?_
        refine qr_then ?_
        obtain rfl := Option.some.inj H
        refine qr_res (rs := [_]) rfl (fun w' hs => ⟨[.slice xA59 (([] : List (Int × Int)) ++ l0).length xc60], (res_tmp (by kernel_rfl) (.nil)), (xA59, xc60), rfl, hs.pick (ts := [1]) (cs := [Ck.sl T31 xA59 xc60 (([] : List (Int × Int)) ++ l0)]) ⟨by exact rfl, trivial⟩ (by decide)⟩)
    · replace H := ite_f q52 H
      refine ls_know (c := true) (congrArg Bool.not (Bool.eq_false_iff.mpr q52)) 11 (by kernel_rfl) ?_
      refine ls_off (j := 3) (t := 11) (b := false) (c := true) rfl rfl (by kernel_rfl) (by kernel_rfl) rfl rfl (by kernel_rfl) ?_
      refine ls_off (j := 3) (t := 11) (b := false) (c := true) rfl rfl (by kernel_rfl) (by kernel_rfl) rfl rfl (by kernel_rfl) ?_
      refine ls_off (j := 3) (t := 11) (b := false) (c := true) rfl rfl (by kernel_rfl) (by kernel_rfl) rfl rfl (by kernel_rfl) ?_
      refine ls_val (v := .bool true) rfl rfl (by kernel_rfl) (fun w => by kernel_rfl) ?_
      refine ls_end ?_
      refine qn_then ?_
      refine cs_true (by kernel_rfl) ?_
      refine cs_seq ?_
      refine cs_region (l := [_, _, _, _]) ?_
      refine ls_lit T31 1 rfl rfl (by kernel_rfl) ([] : List (Int × Int)) (by exact of_decide_eq_true (by kernel_rfl)) (fun w => by kernel_rfl) ?_
      intro g61
      refine ls_val (v := .slice A0 l0.length c0) rfl rfl (by kernel_rfl) (fun w => by kernel_rfl) ?_
      obtain ⟨q62, H⟩ := ite_need H
      refine ls_app T31 (A := (some ⟨g61, 0, none⟩)) (c := ([] : List (Int × Int)).length) (B := A0) (cb := c0) (z := (.agg ⟨([Value.int .i64 (0 : Int)] ++ [Value.int .i64 (0 : Int)])⟩)) (l := ([] : List (Int × Int))) (m := l0) (bytes := 16) 1 rfl rfl (by kernel_rfl) rfl (by kernel_rfl) (by exact rfl) (by kernel_rfl) (fun w hs => (hs.old R0)) (by kernel_rfl) (by kernel_rfl) rfl (by decide) q62 ?_
      intro xA63 xc64
      refine ls_val (v := .slice xA63 (([] : List (Int × Int)) ++ l0).length xc64) rfl rfl (by kernel_rfl) (fun w => by kernel_rfl) ?_
      refine ls_end ?_
      refine qn_then ?_
      refine cs_ret' ?_
      refine qr_then ?_
      obtain rfl := Option.some.inj H
      refine qr_res (rs := [_]) rfl (fun w' hs => ⟨[.slice xA63 (([] : List (Int × Int)) ++ l0).length xc64], (res_tmp (by kernel_rfl) (.nil)), (xA63, xc64), rfl, hs.pick (ts := [1]) (cs := [Ck.sl T31 xA63 xc64 (([] : List (Int × Int)) ++ l0)]) ⟨by exact rfl, trivial⟩ (by decide)⟩)
  · rintro f S ⟨fr1, rfl, rfl, H⟩
    replace H : (shadowboxref09_Remove.lo2 l0 a1 k ([] : List (Int × Int)) (0 : Int)) = some r := H
    refine cs_seq ?_
    refine cs_region (l := [_]) ?_
    refine ls_val (v := .slice none 0 0) rfl rfl (by kernel_rfl) (fun w => by kernel_rfl) ?_
    refine ls_end ?_
    refine qn_then ?_
    refine cs_seq ?_
    refine cs_seq ?_
    refine cs_region (l := [_]) ?_
    refine ls_val (v := .int .i64 (0 : Int)) rfl rfl (by kernel_rfl) (fun w => by kernel_rfl) ?_
    refine ls_end ?_
    refine qn_then ?_
    refine cs_block ?_
    refine cs_nilrow 1 T31 ?_
    refine cs_sub (sput (sput s0 0 (some (Ck.var 31 g1 (([Value.int .i64 a1.1] ++ [Value.int .i64 a1.2]))))) 1 (some (Ck.sl T31 none 0 ([] : List (Int × Int))))) (sub_put (by exact rfl) (sub_put (by exact rfl) (sub_nil _))) ?_
    refine cs_loop (fun kk f S => ∃ (fR : Fr) (A5_2 : Option Addr) (c5_2 : Nat) (l5_2 : List (Int × Int)) (x6_2 : Int), f = upd (upd (upd (upd fR 0 (.slice A0 l0.length c0)) 3 (.pointer (some ⟨g1, 0, none⟩))) 5 (.slice A5_2 l5_2.length c5_2)) 6 (.int .i64 x6_2) ∧ S = sput (sput s0 0 (some (Ck.var 31 g1 (([Value.int .i64 a1.1] ++ [Value.int .i64 a1.2]))))) 1 (some (Ck.sl T31 A5_2 c5_2 l5_2)) ∧ shadowboxref09_Remove.lo2 l0 a1 kk l5_2 x6_2 = some r) k ?_ ?_ ?_
    · exact ⟨_, none, 0, ([] : List (Int × Int)), (0 : Int), fr_next (fr_next (fr_next (fr_next (rfl) (by kernel_rfl)) (by kernel_rfl)) (by kernel_rfl)) (by kernel_rfl), rfl, H⟩
    · rintro f S ⟨fr2, A5_2, c5_2, l5_2, x6_2, rfl, rfl, H⟩; cases H
    · rintro k2 f S ⟨fr2, A5_2, c5_2, l5_2, x6_2, rfl, rfl, H⟩
      replace H : ((if x6_2 < (l0.length : Int) then (shadowboxref09_Remove.jo3 l0 a1 l5_2 x6_2 (shadowboxref09_Remove.lo2 l0 a1 k2)) else some l5_2)) = some r := H
      refine cs_cut (fun f S => ∃ (fR : Fr), f = upd (upd (upd (upd fR 0 (.slice A0 l0.length c0)) 3 (.pointer (some ⟨g1, 0, none⟩))) 5 (.slice A5_2 l5_2.length c5_2)) 6 (.int .i64 x6_2) ∧ S = sput (sput s0 0 (some (Ck.var 31 g1 (([Value.int .i64 a1.1] ++ [Value.int .i64 a1.2]))))) 1 (some (Ck.sl T31 A5_2 c5_2 l5_2)) ∧ shadowboxref09_Remove.jo3 l0 a1 l5_2 x6_2 (shadowboxref09_Remove.lo2 l0 a1 k2) = some r) ?_ ?_
      · skip
        refine cs_seq ?_
        refine cs_region (l := [_, _, _, _]) ?_
        refine ls_val (v := .int .i64 x6_2) rfl rfl (by kernel_rfl) (fun w => by kernel_rfl) ?_
        refine ls_val (v := .slice A0 l0.length c0) rfl rfl (by kernel_rfl) (fun w => by kernel_rfl) ?_
        refine ls_val (v := .int .i64 (l0.length : Int)) rfl rfl (by kernel_rfl) (fun w => by kernel_rfl) ?_
        refine ls_val (v := .bool (decide (x6_2 < (l0.length : Int)))) rfl rfl (by kernel_rfl) (fun w => by kernel_rfl) ?_
        refine ls_end ?_
        refine qn_then ?_
        by_cases q48 : x6_2 < (l0.length : Int)
        · replace H := ite_t q48 H
          refine cs_know (c := true) (dec_t q48) 22 (by kernel_rfl) ?_
          refine cs_true (by kernel_rfl) ?_
          refine cs_skip' ?_
          refine qn_meet (sput (sput s0 0 (some (Ck.var 31 g1 (([Value.int .i64 a1.1] ++ [Value.int .i64 a1.2]))))) 1 (some (Ck.sl T31 A5_2 c5_2 l5_2))) ⟨_, fr_next (fr_next (fr_next (fr_next (rfl) (by kernel_rfl)) (by kernel_rfl)) (by kernel_rfl)) (by kernel_rfl), rfl, H⟩ (sub_put (by exact rfl) (sub_put (by exact rfl) (sub_nil _)))
        · replace H := ite_f q48 H
          refine cs_know (c := false) (dec_f q48) 22 (by kernel_rfl) ?_
          refine cs_false (by kernel_rfl) ?_
          refine cs_exit' ?_
          refine qx_then ?_
          refine qx_then ?_
          refine qx_same ?_
          refine qn_then ?_
          refine cs_seq ?_
          refine cs_region (l := [_, _]) ?_
          refine ls_val (v := .slice A5_2 l5_2.length c5_2) rfl rfl (by kernel_rfl) (fun w => by kernel_rfl) ?_
          refine ls_val (v := .slice A5_2 l5_2.length c5_2) rfl rfl (by kernel_rfl) (fun w => by kernel_rfl) ?_
          refine ls_end ?_
          refine qn_then ?_
          refine cs_ret' ?_
          obtain rfl := Option.some.inj H
          refine qr_res (rs := [_]) rfl (fun w' hs => ⟨[.slice A5_2 l5_2.length c5_2], (res_tmp (by kernel_rfl) (.nil)), (A5_2, c5_2), rfl, hs.pick (ts := [1]) (cs := [Ck.sl T31 A5_2 c5_2 l5_2]) ⟨by exact rfl, trivial⟩ (by decide)⟩)
      · rintro f S ⟨fr3, rfl, rfl, H⟩
        replace H : ((if 0 ≤ x6_2 then (if x6_2 < (l0.length : Int) then lt (((l0).getD (x6_2).toNat ((0 : Int), (0 : Int))).2) fun y34 => (if y34 ≤ a1.1 then (if (l5_2.length + ([((l0).getD (x6_2).toNat ((0 : Int), (0 : Int)))]).length) * 16 ≤ 140737488355328 then (shadowboxref09_Remove.lo2 l0 a1 k2) (l5_2 ++ [((l0).getD (x6_2).toNat ((0 : Int), (0 : Int)))]) (IntKind.wrap .i64 (x6_2 + (1 : Int))) else none) else lt (((l0).getD (x6_2).toNat ((0 : Int), (0 : Int))).1) fun y41 => (if y41 ≥ a1.2 then (if (l5_2.length + ([((l0).getD (x6_2).toNat ((0 : Int), (0 : Int)))]).length) * 16 ≤ 140737488355328 then (shadowboxref09_Remove.lo2 l0 a1 k2) (l5_2 ++ [((l0).getD (x6_2).toNat ((0 : Int), (0 : Int)))]) (IntKind.wrap .i64 (x6_2 + (1 : Int))) else none) else (shadowboxref09_Remove.jo4 l0 a1 x6_2 (shadowboxref09_Remove.lo2 l0 a1 k2)) l5_2 y41 a1.2 (decide (y41 ≥ a1.2)))) else none) else none)) = some r := H
        refine cs_seq ?_
        refine cs_block ?_
        refine cs_seq ?_
        refine cs_region (l := [_, _, _, _, _, _]) ?_
        refine ls_val (v := .slice A0 l0.length c0) rfl rfl (by kernel_rfl) (fun w => by kernel_rfl) ?_
        refine ls_val (v := .int .i64 x6_2) rfl rfl (by kernel_rfl) (fun w => by kernel_rfl) ?_
        obtain ⟨q2, H⟩ := ite_need H
        obtain ⟨q3, H⟩ := ite_need H
        obtain ⟨ad4, hA5⟩ := ido_at (T := T31) (l := l0) (i := x6_2) R0 q2 q3
        refine ls_idxv T31 (A := A0) (c := c0) (l := l0) (k := .i64) (i := x6_2) (z := 2) (ad := ad4) rfl rfl (by kernel_rfl) hA5 rfl (by kernel_rfl) (by kernel_rfl) (by kernel_rfl) (by kernel_rfl) q2 q3 ?_
        refine ls_loadagg (a := (ad4.add ((x6_2).toNat * 2))) (sub := ([Value.int .i64 (((l0).getD (x6_2).toNat ((0 : Int), (0 : Int))).1)] ++ [Value.int .i64 (((l0).getD (x6_2).toNat ((0 : Int), (0 : Int))).2)])) rfl rfl (by kernel_rfl) rfl (by kernel_rfl) (by kernel_rfl) (by kernel_rfl) (len_app (len1 _) (len1 _)) (fun w hs => (hs.old R0).part hA5 (em_sub T31 l0 (i := (x6_2).toNat) (by have h0 : (0 : Int) ≤ x6_2 := q2; have h1 : x6_2 < (l0.length : Int) := q3; omega))) ?_
        refine ls_new rfl rfl (by kernel_rfl) 2 (fun g => .pointer (some ⟨g, 0, none⟩)) (.cells ⟨([Value.int .i64 (0 : Int)] ++ [Value.int .i64 (0 : Int)])⟩ 31) (fun w => by kernel_rfl) ?_
        intro g6
        refine ls_storec (g := g6) (off := 0) (v := .agg ⟨([Value.int .i64 (((l0).getD (x6_2).toNat ((0 : Int), (0 : Int))).1)] ++ [Value.int .i64 (((l0).getD (x6_2).toNat ((0 : Int), (0 : Int))).2)])⟩) (vs := ([Value.int .i64 (((l0).getD (x6_2).toNat ((0 : Int), (0 : Int))).1)] ++ [Value.int .i64 (((l0).getD (x6_2).toNat ((0 : Int), (0 : Int))).2)])) (cs := ([Value.int .i64 (0 : Int)] ++ [Value.int .i64 (0 : Int)])) (ty := 31) 2 rfl rfl rfl (by kernel_rfl) (by kernel_rfl) (by kernel_rfl) (by exact rfl) (by kernel_rfl) (len_app (len1 _) (len1 _)) (one_app (one_cons rfl one_nil) (one_cons rfl one_nil)) (hl_of (Sub4.all _) (len_eq (len_app (len1 _) (len1 _)) (len_app (len1 _) (len1 _)))) (cs' := ([Value.int .i64 (((l0).getD (x6_2).toNat ((0 : Int), (0 : Int))).1)] ++ [Value.int .i64 (((l0).getD (x6_2).toNat ((0 : Int), (0 : Int))).2)])) (splc_all (len_eq (len_app (len1 _) (len1 _)) (len_app (len1 _) (len1 _)))) ?_
        refine ls_end ?_
        refine qn_then ?_
        refine cs_cut (fun f S => ∃ (fR : Fr) (A5_4 : Option Addr) (c5_4 : Nat) (l5_4 : List (Int × Int)) (x36_4 : Int) (x38_4 : Int) (x39_4 : Bool), f = upd (upd (upd (upd (upd (upd (upd (upd fR 0 (.slice A0 l0.length c0)) 3 (.pointer (some ⟨g1, 0, none⟩))) 5 (.slice A5_4 l5_4.length c5_4)) 6 (.int .i64 x6_2)) 7 (.pointer (some ⟨g6, 0, none⟩))) 36 (.int .i64 x36_4)) 38 (.int .i64 x38_4)) 39 (.bool x39_4) ∧ S = sput (sput (sput s0 0 (some (Ck.var 31 g1 (([Value.int .i64 a1.1] ++ [Value.int .i64 a1.2]))))) 1 (some (Ck.sl T31 A5_4 c5_4 l5_4))) 2 (some (Ck.var 31 g6 (([Value.int .i64 (((l0).getD (x6_2).toNat ((0 : Int), (0 : Int))).1)] ++ [Value.int .i64 (((l0).getD (x6_2).toNat ((0 : Int), (0 : Int))).2)])))) ∧ shadowboxref09_Remove.jo4 l0 a1 x6_2 (shadowboxref09_Remove.lo2 l0 a1 k2) l5_4 x36_4 x38_4 x39_4 = some r) ?_ ?_
        · skip
          refine cs_seq ?_
          refine cs_region (l := [_, _, _, _, _, _, _, _, _, _, _, _]) ?_
          refine ls_val (v := .pointer (some ⟨g6, (0 + 1), none⟩)) rfl rfl (by kernel_rfl) (fun w => by kernel_rfl) ?_
          obtain ⟨y34, hy35, H⟩ := lt_some H
          refine ls_load (a0 := ⟨g6, (0 + 1), none⟩) (v := .int .i64 (((l0).getD (x6_2).toNat ((0 : Int), (0 : Int))).2)) (de := (TypeDesc.int .i64)) rfl rfl (by kernel_rfl) rfl (by kernel_rfl) (by kernel_rfl) (by kernel_rfl) (fun w hs => (hs.var (k := 2) (by exact rfl) (Sub4.trans (Sub4.all _) (Sub4.skip (n := 1) (len1 _) (Sub4.all _))))) ?_
          refine ls_ren 30 (v := .int .i64 (((l0).getD (x6_2).toNat ((0 : Int), (0 : Int))).2)) (v' := .int .i64 y34) (by kernel_rfl) (by rw [hy35]) ?_
          refine ls_val (v := .pointer (some ⟨g1, (0 + 0), none⟩)) rfl rfl (by kernel_rfl) (fun w => by kernel_rfl) ?_
          refine ls_load (a0 := ⟨g1, (0 + 0), none⟩) (v := .int .i64 a1.1) (de := (TypeDesc.int .i64)) rfl rfl (by kernel_rfl) rfl (by kernel_rfl) (by kernel_rfl) (by kernel_rfl) (fun w hs => (hs.var (k := 0) (by exact rfl) (Sub4.trans (Sub4.all _) (Sub4.head _ _)))) ?_
          refine ls_val (v := .bool (decide (y34 ≤ a1.1))) rfl rfl (by kernel_rfl) (fun w => by kernel_rfl) ?_
          refine ls_val (v := .bool (decide (y34 ≤ a1.1))) rfl rfl (by kernel_rfl) (fun w => by kernel_rfl) ?_
          by_cases q36 : y34 ≤ a1.1
          · replace H := ite_t q36 H
            refine ls_know (c := true) (dec_t q36) 34 (by kernel_rfl) ?_
            refine ls_off (j := 5) (t := 34) (b := false) (c := true) rfl rfl (by kernel_rfl) (by kernel_rfl) rfl rfl (by kernel_rfl) ?_
            refine ls_off (j := 5) (t := 34) (b := false) (c := true) rfl rfl (by kernel_rfl) (by kernel_rfl) rfl rfl (by kernel_rfl) ?_
            refine ls_off (j := 5) (t := 34) (b := false) (c := true) rfl rfl (by kernel_rfl) (by kernel_rfl) rfl rfl (by kernel_rfl) ?_
            refine ls_off (j := 5) (t := 34) (b := false) (c := true) rfl rfl (by kernel_rfl) (by kernel_rfl) rfl rfl (by kernel_rfl) ?_
            refine ls_off (j := 5) (t := 34) (b := false) (c := true) rfl rfl (by kernel_rfl) (by kernel_rfl) rfl rfl (by kernel_rfl) ?_
            refine ls_val (v := .bool true) rfl rfl (by kernel_rfl) (fun w => by kernel_rfl) ?_
            refine ls_end ?_
            refine qn_then ?_
            refine cs_true (by kernel_rfl) ?_
            refine cs_seq ?_
            refine cs_region (l := [_, _, _, _, _]) ?_
            refine ls_val (v := .slice A5_2 l5_2.length c5_2) rfl rfl (by kernel_rfl) (fun w => by kernel_rfl) ?_
            refine ls_loadagg (a := ⟨g6, 0, none⟩) (sub := ([Value.int .i64 (((l0).getD (x6_2).toNat ((0 : Int), (0 : Int))).1)] ++ [Value.int .i64 (((l0).getD (x6_2).toNat ((0 : Int), (0 : Int))).2)])) rfl rfl (by kernel_rfl) rfl (by kernel_rfl) (by kernel_rfl) (by kernel_rfl) (len_app (len1 _) (len1 _)) (fun w hs => (hs.vars (k := 2) (by exact rfl) (Sub4.all _))) ?_
            refine ls_lit T31 3 rfl rfl (by kernel_rfl) ([((l0).getD (x6_2).toNat ((0 : Int), (0 : Int)))]) (by exact of_decide_eq_true (by kernel_rfl)) (fun w => by kernel_rfl) ?_
            intro g37
            obtain ⟨q38, H⟩ := ite_need H
            refine ls_app T31 (A := A5_2) (c := c5_2) (B := (some ⟨g37, 0, none⟩)) (cb := [((l0).getD (x6_2).toNat ((0 : Int), (0 : Int)))].length) (z := (.agg ⟨([Value.int .i64 (0 : Int)] ++ [Value.int .i64 (0 : Int)])⟩)) (l := l5_2) (m := [((l0).getD (x6_2).toNat ((0 : Int), (0 : Int)))]) (bytes := 16) 1 rfl rfl (by kernel_rfl) rfl (by kernel_rfl) (by exact rfl) (by kernel_rfl) (fun w hs => (hs.rd (k := 3) (by exact rfl))) (by kernel_rfl) (by kernel_rfl) rfl (by decide) q38 ?_
            intro xA39 xc40
            refine ls_val (v := .slice xA39 (l5_2 ++ [((l0).getD (x6_2).toNat ((0 : Int), (0 : Int)))]).length xc40) rfl rfl (by kernel_rfl) (fun w => by kernel_rfl) ?_
            refine ls_end ?_
            refine qn_then ?_
            refine cs_exit' ?_
            refine qx_then ?_
            refine qx_same ?_
            refine qn_then ?_
            refine cs_region (l := [_, _, _]) ?_
            refine ls_val (v := .int .i64 x6_2) rfl rfl (by kernel_rfl) (fun w => by kernel_rfl) ?_
            refine ls_val (v := .int .i64 (IntKind.wrap .i64 (x6_2 + (1 : Int)))) rfl rfl (by kernel_rfl) (fun w => by kernel_rfl) ?_
            refine ls_val (v := .int .i64 (IntKind.wrap .i64 (x6_2 + (1 : Int)))) rfl rfl (by kernel_rfl) (fun w => by kernel_rfl) ?_
            refine ls_end ?_
            refine qn_again k2 (sput (sput s0 0 (some (Ck.var 31 g1 (([Value.int .i64 a1.1] ++ [Value.int .i64 a1.2]))))) 1 (some (Ck.sl T31 xA39 xc40 (l5_2 ++ [((l0).getD (x6_2).toNat ((0 : Int), (0 : Int)))])))) (Nat.le_refl _) ⟨_, xA39, xc40, (l5_2 ++ [((l0).getD (x6_2).toNat ((0 : Int), (0 : Int)))]), (IntKind.wrap .i64 (x6_2 + (1 : Int))), fr_next (fr_next (fr_next (fr_next (rfl) (by kernel_rfl)) (by kernel_rfl)) (by kernel_rfl)) (by kernel_rfl), rfl, H⟩ (sub_put (by exact rfl) (sub_put (by exact rfl) (sub_nil _)))
          · replace H := ite_f q36 H
            refine ls_know (c := false) (dec_f q36) 34 (by kernel_rfl) ?_
            refine ls_on (j := 5) (t := 34) (b := false) rfl rfl (by kernel_rfl) (by kernel_rfl) ?_
            refine ls_val (v := .pointer (some ⟨g6, (0 + 0), none⟩)) rfl rfl (by kernel_rfl) (fun w => by kernel_rfl) ?_
            refine ls_on (j := 5) (t := 34) (b := false) rfl rfl (by kernel_rfl) (by kernel_rfl) ?_
            obtain ⟨y41, hy42, H⟩ := lt_some H
            refine ls_load (a0 := ⟨g6, (0 + 0), none⟩) (v := .int .i64 (((l0).getD (x6_2).toNat ((0 : Int), (0 : Int))).1)) (de := (TypeDesc.int .i64)) rfl rfl (by kernel_rfl) rfl (by kernel_rfl) (by kernel_rfl) (by kernel_rfl) (fun w hs => (hs.var (k := 2) (by exact rfl) (Sub4.trans (Sub4.all _) (Sub4.head _ _)))) ?_
            refine ls_ren 36 (v := .int .i64 (((l0).getD (x6_2).toNat ((0 : Int), (0 : Int))).1)) (v' := .int .i64 y41) (by kernel_rfl) (by rw [hy42]) ?_
            refine ls_on (j := 5) (t := 34) (b := false) rfl rfl (by kernel_rfl) (by kernel_rfl) ?_
            refine ls_val (v := .pointer (some ⟨g1, (0 + 1), none⟩)) rfl rfl (by kernel_rfl) (fun w => by kernel_rfl) ?_
            refine ls_on (j := 5) (t := 34) (b := false) rfl rfl (by kernel_rfl) (by kernel_rfl) ?_
            refine ls_load (a0 := ⟨g1, (0 + 1), none⟩) (v := .int .i64 a1.2) (de := (TypeDesc.int .i64)) rfl rfl (by kernel_rfl) rfl (by kernel_rfl) (by kernel_rfl) (by kernel_rfl) (fun w hs => (hs.var (k := 0) (by exact rfl) (Sub4.trans (Sub4.all _) (Sub4.skip (n := 1) (len1 _) (Sub4.all _))))) ?_
            refine ls_on (j := 5) (t := 34) (b := false) rfl rfl (by kernel_rfl) (by kernel_rfl) ?_
            refine ls_val (v := .bool (decide (y41 ≥ a1.2))) rfl rfl (by kernel_rfl) (fun w => by kernel_rfl) ?_
            refine ls_val (v := .bool (decide (y41 ≥ a1.2))) rfl rfl (by kernel_rfl) (fun w => by kernel_rfl) ?_
            refine ls_end ?_
            refine qn_then ?_
            by_cases q43 : y41 ≥ a1.2
            · replace H := ite_t q43 H
              refine cs_know (c := true) (dec_t q43) 40 (by kernel_rfl) ?_
              refine cs_true (by kernel_rfl) ?_
              refine cs_seq ?_
              refine cs_region (l := [_, _, _, _, _]) ?_
              refine ls_val (v := .slice A5_2 l5_2.length c5_2) rfl rfl (by kernel_rfl) (fun w => by kernel_rfl) ?_
              refine ls_loadagg (a := ⟨g6, 0, none⟩) (sub := ([Value.int .i64 (((l0).getD (x6_2).toNat ((0 : Int), (0 : Int))).1)] ++ [Value.int .i64 (((l0).getD (x6_2).toNat ((0 : Int), (0 : Int))).2)])) rfl rfl (by kernel_rfl) rfl (by kernel_rfl) (by kernel_rfl) (by kernel_rfl) (len_app (len1 _) (len1 _)) (fun w hs => (hs.vars (k := 2) (by exact rfl) (Sub4.all _))) ?_
              refine ls_lit T31 3 rfl rfl (by kernel_rfl) ([((l0).getD (x6_2).toNat ((0 : Int), (0 : Int)))]) (by exact of_decide_eq_true (by kernel_rfl)) (fun w => by kernel_rfl) ?_
              intro g44
              obtain ⟨q45, H⟩ := ite_need H
              refine ls_app T31 (A := A5_2) (c := c5_2) (B := (some ⟨g44, 0, none⟩)) (cb := [((l0).getD (x6_2).toNat ((0 : Int), (0 : Int)))].length) (z := (.agg ⟨([Value.int .i64 (0 : Int)] ++ [Value.int .i64 (0 : Int)])⟩)) (l := l5_2) (m := [((l0).getD (x6_2).toNat ((0 : Int), (0 : Int)))]) (bytes := 16) 1 rfl rfl (by kernel_rfl) rfl (by kernel_rfl) (by exact rfl) (by kernel_rfl) (fun w hs => (hs.rd (k := 3) (by exact rfl))) (by kernel_rfl) (by kernel_rfl) rfl (by decide) q45 ?_
              intro xA46 xc47
              refine ls_val (v := .slice xA46 (l5_2 ++ [((l0).getD (x6_2).toNat ((0 : Int), (0 : Int)))]).length xc47) rfl rfl (by kernel_rfl) (fun w => by kernel_rfl) ?_
              refine ls_end ?_
              refine qn_then ?_
              refine cs_exit' ?_
              refine qx_then ?_
              refine qx_same ?_
              refine qn_then ?_
              refine cs_region (l := [_, _, _]) ?_
              refine ls_val (v := .int .i64 x6_2) rfl rfl (by kernel_rfl) (fun w => by kernel_rfl) ?_
              refine ls_val (v := .int .i64 (IntKind.wrap .i64 (x6_2 + (1 : Int)))) rfl rfl (by kernel_rfl) (fun w => by kernel_rfl) ?_
              refine ls_val (v := .int .i64 (IntKind.wrap .i64 (x6_2 + (1 : Int)))) rfl rfl (by kernel_rfl) (fun w => by kernel_rfl) ?_
              refine ls_end ?_
              refine qn_again k2 (sput (sput s0 0 (some (Ck.var 31 g1 (([Value.int .i64 a1.1] ++ [Value.int .i64 a1.2]))))) 1 (some (Ck.sl T31 xA46 xc47 (l5_2 ++ [((l0).getD (x6_2).toNat ((0 : Int), (0 : Int)))])))) (Nat.le_refl _) ⟨_, xA46, xc47, (l5_2 ++ [((l0).getD (x6_2).toNat ((0 : Int), (0 : Int)))]), (IntKind.wrap .i64 (x6_2 + (1 : Int))), fr_next (fr_next (fr_next (fr_next (rfl) (by kernel_rfl)) (by kernel_rfl)) (by kernel_rfl)) (by kernel_rfl), rfl, H⟩ (sub_put (by exact rfl) (sub_put (by exact rfl) (sub_nil _)))
            · replace H := ite_f q43 H
              refine cs_know (c := false) (dec_f q43) 40 (by kernel_rfl) ?_
              refine cs_false (by kernel_rfl) ?_
              refine cs_skip' ?_
              refine qn_meet (sput (sput (sput s0 0 (some (Ck.var 31 g1 (([Value.int .i64 a1.1] ++ [Value.int .i64 a1.2]))))) 1 (some (Ck.sl T31 A5_2 c5_2 l5_2))) 2 (some (Ck.var 31 g6 (([Value.int .i64 (((l0).getD (x6_2).toNat ((0 : Int), (0 : Int))).1)] ++ [Value.int .i64 (((l0).getD (x6_2).toNat ((0 : Int), (0 : Int))).2)]))))) ⟨_, A5_2, c5_2, l5_2, y41, a1.2, (decide (y41 ≥ a1.2)), fr_next (fr_next (fr_next (fr_next (fr_next (fr_next (fr_next (fr_next (rfl) (by kernel_rfl)) (by kernel_rfl)) (by kernel_rfl)) (by kernel_rfl)) (by kernel_rfl)) (by kernel_rfl)) (by kernel_rfl)) (by kernel_rfl), rfl, H⟩ (sub_put (by exact rfl) (sub_put (by exact rfl) (sub_put (by exact rfl) (sub_nil _))))
        · rintro f S ⟨fr4, A5_4, c5_4, l5_4, x36_4, x38_4, x39_4, rfl, rfl, H⟩
          replace H : (lt (((l0).getD (x6_2).toNat ((0 : Int), (0 : Int))).1) fun y7 => (if y7 < a1.1 then lt (((l0).getD (x6_2).toNat ((0 : Int), (0 : Int))).1) fun y10 => (if (l5_4.length + ([(y10, a1.1)]).length) * 16 ≤ 140737488355328 then lt (((l0).getD (x6_2).toNat ((0 : Int), (0 : Int))).2) fun y16 => (if y16 > a1.2 then lt (((l0).getD (x6_2).toNat ((0 : Int), (0 : Int))).2) fun y19 => (if ((l5_4 ++ [(y10, a1.1)]).length + ([(a1.2, y19)]).length) * 16 ≤ 140737488355328 then (shadowboxref09_Remove.lo2 l0 a1 k2) ((l5_4 ++ [(y10, a1.1)]) ++ [(a1.2, y19)]) (IntKind.wrap .i64 (x6_2 + (1 : Int))) else none) else (shadowboxref09_Remove.lo2 l0 a1 k2) (l5_4 ++ [(y10, a1.1)]) (IntKind.wrap .i64 (x6_2 + (1 : Int)))) else none) else lt (((l0).getD (x6_2).toNat ((0 : Int), (0 : Int))).2) fun y25 => (if y25 > a1.2 then lt (((l0).getD (x6_2).toNat ((0 : Int), (0 : Int))).2) fun y28 => (if (l5_4.length + ([(a1.2, y28)]).length) * 16 ≤ 140737488355328 then (shadowboxref09_Remove.lo2 l0 a1 k2) (l5_4 ++ [(a1.2, y28)]) (IntKind.wrap .i64 (x6_2 + (1 : Int))) else none) else (shadowboxref09_Remove.lo2 l0 a1 k2) l5_4 (IntKind.wrap .i64 (x6_2 + (1 : Int)))))) = some r := H
          refine cs_seq ?_
          refine cs_seq ?_
          refine cs_region (l := [_, _, _, _, _]) ?_
          refine ls_val (v := .pointer (some ⟨g6, (0 + 0), none⟩)) rfl rfl (by kernel_rfl) (fun w => by kernel_rfl) ?_
          obtain ⟨y7, hy8, H⟩ := lt_some H
          refine ls_load (a0 := ⟨g6, (0 + 0), none⟩) (v := .int .i64 (((l0).getD (x6_2).toNat ((0 : Int), (0 : Int))).1)) (de := (TypeDesc.int .i64)) rfl rfl (by kernel_rfl) rfl (by kernel_rfl) (by kernel_rfl) (by kernel_rfl) (fun w hs => (hs.var (k := 2) (by exact rfl) (Sub4.trans (Sub4.all _) (Sub4.head _ _)))) ?_
          refine ls_ren 46 (v := .int .i64 (((l0).getD (x6_2).toNat ((0 : Int), (0 : Int))).1)) (v' := .int .i64 y7) (by kernel_rfl) (by rw [hy8]) ?_
          refine ls_val (v := .pointer (some ⟨g1, (0 + 0), none⟩)) rfl rfl (by kernel_rfl) (fun w => by kernel_rfl) ?_
          refine ls_load (a0 := ⟨g1, (0 + 0), none⟩) (v := .int .i64 a1.1) (de := (TypeDesc.int .i64)) rfl rfl (by kernel_rfl) rfl (by kernel_rfl) (by kernel_rfl) (by kernel_rfl) (fun w hs => (hs.var (k := 0) (by exact rfl) (Sub4.trans (Sub4.all _) (Sub4.head _ _)))) ?_
          refine ls_val (v := .bool (decide (y7 < a1.1))) rfl rfl (by kernel_rfl) (fun w => by kernel_rfl) ?_
          refine ls_end ?_
          refine qn_then ?_
          by_cases q9 : y7 < a1.1
          · replace H := ite_t q9 H
            refine cs_know (c := true) (dec_t q9) 49 (by kernel_rfl) ?_
            refine cs_true (by kernel_rfl) ?_
            refine cs_region (l := [_, _, _, _, _, _, _, _, _]) ?_
            refine ls_val (v := .slice A5_4 l5_4.length c5_4) rfl rfl (by kernel_rfl) (fun w => by kernel_rfl) ?_
            refine ls_val (v := .pointer (some ⟨g6, (0 + 0), none⟩)) rfl rfl (by kernel_rfl) (fun w => by kernel_rfl) ?_
            obtain ⟨y10, hy11, H⟩ := lt_some H
            refine ls_load (a0 := ⟨g6, (0 + 0), none⟩) (v := .int .i64 (((l0).getD (x6_2).toNat ((0 : Int), (0 : Int))).1)) (de := (TypeDesc.int .i64)) rfl rfl (by kernel_rfl) rfl (by kernel_rfl) (by kernel_rfl) (by kernel_rfl) (fun w hs => (hs.var (k := 2) (by exact rfl) (Sub4.trans (Sub4.all _) (Sub4.head _ _)))) ?_
            refine ls_ren 52 (v := .int .i64 (((l0).getD (x6_2).toNat ((0 : Int), (0 : Int))).1)) (v' := .int .i64 y10) (by kernel_rfl) (by rw [hy11]) ?_
            refine ls_val (v := .pointer (some ⟨g1, (0 + 0), none⟩)) rfl rfl (by kernel_rfl) (fun w => by kernel_rfl) ?_
            refine ls_load (a0 := ⟨g1, (0 + 0), none⟩) (v := .int .i64 a1.1) (de := (TypeDesc.int .i64)) rfl rfl (by kernel_rfl) rfl (by kernel_rfl) (by kernel_rfl) (by kernel_rfl) (fun w hs => (hs.var (k := 0) (by exact rfl) (Sub4.trans (Sub4.all _) (Sub4.head _ _)))) ?_
            refine ls_val (v := .agg ⟨([Value.int .i64 y10] ++ [Value.int .i64 a1.1])⟩) rfl rfl (by kernel_rfl) (fun w => by kernel_rfl) ?_
            refine ls_lit T31 3 rfl rfl (by kernel_rfl) ([(y10, a1.1)]) (by exact of_decide_eq_true (by kernel_rfl)) (fun w => by kernel_rfl) ?_
            intro g12
            obtain ⟨q13, H⟩ := ite_need H
            refine ls_app T31 (A := A5_4) (c := c5_4) (B := (some ⟨g12, 0, none⟩)) (cb := [(y10, a1.1)].length) (z := (.agg ⟨([Value.int .i64 (0 : Int)] ++ [Value.int .i64 (0 : Int)])⟩)) (l := l5_4) (m := [(y10, a1.1)]) (bytes := 16) 1 rfl rfl (by kernel_rfl) rfl (by kernel_rfl) (by exact rfl) (by kernel_rfl) (fun w hs => (hs.rd (k := 3) (by exact rfl))) (by kernel_rfl) (by kernel_rfl) rfl (by decide) q13 ?_
            intro xA14 xc15
            refine ls_val (v := .slice xA14 (l5_4 ++ [(y10, a1.1)]).length xc15) rfl rfl (by kernel_rfl) (fun w => by kernel_rfl) ?_
            refine ls_end ?_
            refine qn_then ?_
            refine cs_seq ?_
            refine cs_region (l := [_, _, _, _, _]) ?_
            refine ls_val (v := .pointer (some ⟨g6, (0 + 1), none⟩)) rfl rfl (by kernel_rfl) (fun w => by kernel_rfl) ?_
            obtain ⟨y16, hy17, H⟩ := lt_some H
            refine ls_load (a0 := ⟨g6, (0 + 1), none⟩) (v := .int .i64 (((l0).getD (x6_2).toNat ((0 : Int), (0 : Int))).2)) (de := (TypeDesc.int .i64)) rfl rfl (by kernel_rfl) rfl (by kernel_rfl) (by kernel_rfl) (by kernel_rfl) (fun w hs => (hs.var (k := 2) (by exact rfl) (Sub4.trans (Sub4.all _) (Sub4.skip (n := 1) (len1 _) (Sub4.all _))))) ?_
            refine ls_ren 59 (v := .int .i64 (((l0).getD (x6_2).toNat ((0 : Int), (0 : Int))).2)) (v' := .int .i64 y16) (by kernel_rfl) (by rw [hy17]) ?_
            refine ls_val (v := .pointer (some ⟨g1, (0 + 1), none⟩)) rfl rfl (by kernel_rfl) (fun w => by kernel_rfl) ?_
            refine ls_load (a0 := ⟨g1, (0 + 1), none⟩) (v := .int .i64 a1.2) (de := (TypeDesc.int .i64)) rfl rfl (by kernel_rfl) rfl (by kernel_rfl) (by kernel_rfl) (by kernel_rfl) (fun w hs => (hs.var (k := 0) (by exact rfl) (Sub4.trans (Sub4.all _) (Sub4.skip (n := 1) (len1 _) (Sub4.all _))))) ?_
            refine ls_val (v := .bool (decide (y16 > a1.2))) rfl rfl (by kernel_rfl) (fun w => by kernel_rfl) ?_
            refine ls_end ?_
            refine qn_then ?_
            by_cases q18 : y16 > a1.2
            · replace H := ite_t q18 H
              refine cs_know (c := true) (dec_t q18) 62 (by kernel_rfl) ?_
              refine cs_true (by kernel_rfl) ?_
              refine cs_region (l := [_, _, _, _, _, _, _, _, _]) ?_
              refine ls_val (v := .slice xA14 (l5_4 ++ [(y10, a1.1)]).length xc15) rfl rfl (by kernel_rfl) (fun w => by kernel_rfl) ?_
              refine ls_val (v := .pointer (some ⟨g1, (0 + 1), none⟩)) rfl rfl (by kernel_rfl) (fun w => by kernel_rfl) ?_
              refine ls_load (a0 := ⟨g1, (0 + 1), none⟩) (v := .int .i64 a1.2) (de := (TypeDesc.int .i64)) rfl rfl (by kernel_rfl) rfl (by kernel_rfl) (by kernel_rfl) (by kernel_rfl) (fun w hs => (hs.var (k := 0) (by exact rfl) (Sub4.trans (Sub4.all _) (Sub4.skip (n := 1) (len1 _) (Sub4.all _))))) ?_
              refine ls_val (v := .pointer (some ⟨g6, (0 + 1), none⟩)) rfl rfl (by kernel_rfl) (fun w => by kernel_rfl) ?_
              obtain ⟨y19, hy20, H⟩ := lt_some H
              refine ls_load (a0 := ⟨g6, (0 + 1), none⟩) (v := .int .i64 (((l0).getD (x6_2).toNat ((0 : Int), (0 : Int))).2)) (de := (TypeDesc.int .i64)) rfl rfl (by kernel_rfl) rfl (by kernel_rfl) (by kernel_rfl) (by kernel_rfl) (fun w hs => (hs.var (k := 2) (by exact rfl) (Sub4.trans (Sub4.all _) (Sub4.skip (n := 1) (len1 _) (Sub4.all _))))) ?_
              refine ls_ren 67 (v := .int .i64 (((l0).getD (x6_2).toNat ((0 : Int), (0 : Int))).2)) (v' := .int .i64 y19) (by kernel_rfl) (by rw [hy20]) ?_
              refine ls_val (v := .agg ⟨([Value.int .i64 a1.2] ++ [Value.int .i64 y19])⟩) rfl rfl (by kernel_rfl) (fun w => by kernel_rfl) ?_
              refine ls_lit T31 4 rfl rfl (by kernel_rfl) ([(a1.2, y19)]) (by exact of_decide_eq_true (by kernel_rfl)) (fun w => by kernel_rfl) ?_
              intro g21
              obtain ⟨q22, H⟩ := ite_need H
              refine ls_app T31 (A := xA14) (c := xc15) (B := (some ⟨g21, 0, none⟩)) (cb := [(a1.2, y19)].length) (z := (.agg ⟨([Value.int .i64 (0 : Int)] ++ [Value.int .i64 (0 : Int)])⟩)) (l := (l5_4 ++ [(y10, a1.1)])) (m := [(a1.2, y19)]) (bytes := 16) 1 rfl rfl (by kernel_rfl) rfl (by kernel_rfl) (by exact rfl) (by kernel_rfl) (fun w hs => (hs.rd (k := 4) (by exact rfl))) (by kernel_rfl) (by kernel_rfl) rfl (by decide) q22 ?_
              intro xA23 xc24
              refine ls_val (v := .slice xA23 ((l5_4 ++ [(y10, a1.1)]) ++ [(a1.2, y19)]).length xc24) rfl rfl (by kernel_rfl) (fun w => by kernel_rfl) ?_
              refine ls_end ?_
              refine qn_block ?_
              refine qn_then ?_
              refine cs_region (l := [_, _, _]) ?_
              refine ls_val (v := .int .i64 x6_2) rfl rfl (by kernel_rfl) (fun w => by kernel_rfl) ?_
              refine ls_val (v := .int .i64 (IntKind.wrap .i64 (x6_2 + (1 : Int)))) rfl rfl (by kernel_rfl) (fun w => by kernel_rfl) ?_
              refine ls_val (v := .int .i64 (IntKind.wrap .i64 (x6_2 + (1 : Int)))) rfl rfl (by kernel_rfl) (fun w => by kernel_rfl) ?_
              refine ls_end ?_
              refine qn_again k2 (sput (sput s0 0 (some (Ck.var 31 g1 (([Value.int .i64 a1.1] ++ [Value.int .i64 a1.2]))))) 1 (some (Ck.sl T31 xA23 xc24 ((l5_4 ++ [(y10, a1.1)]) ++ [(a1.2, y19)])))) (Nat.le_refl _) ⟨_, xA23, xc24, ((l5_4 ++ [(y10, a1.1)]) ++ [(a1.2, y19)]), (IntKind.wrap .i64 (x6_2 + (1 : Int))), fr_next (fr_next (fr_next (fr_next (rfl) (by kernel_rfl)) (by kernel_rfl)) (by kernel_rfl)) (by kernel_rfl), rfl, H⟩ (sub_put (by exact rfl) (sub_put (by exact rfl) (sub_nil _)))
            · replace H := ite_f q18 H
              refine cs_know (c := false) (dec_f q18) 62 (by kernel_rfl) ?_
              refine cs_false (by kernel_rfl) ?_
              refine cs_skip' ?_
              refine qn_block ?_
              refine qn_then ?_
              refine cs_region (l := [_, _, _]) ?_
              refine ls_val (v := .int .i64 x6_2) rfl rfl (by kernel_rfl) (fun w => by kernel_rfl) ?_
              refine ls_val (v := .int .i64 (IntKind.wrap .i64 (x6_2 + (1 : Int)))) rfl rfl (by kernel_rfl) (fun w => by kernel_rfl) ?_
              refine ls_val (v := .int .i64 (IntKind.wrap .i64 (x6_2 + (1 : Int)))) rfl rfl (by kernel_rfl) (fun w => by kernel_rfl) ?_
              refine ls_end ?_
              refine qn_again k2 (sput (sput s0 0 (some (Ck.var 31 g1 (([Value.int .i64 a1.1] ++ [Value.int .i64 a1.2]))))) 1 (some (Ck.sl T31 xA14 xc15 (l5_4 ++ [(y10, a1.1)])))) (Nat.le_refl _) ⟨_, xA14, xc15, (l5_4 ++ [(y10, a1.1)]), (IntKind.wrap .i64 (x6_2 + (1 : Int))), fr_next (fr_next (fr_next (fr_next (rfl) (by kernel_rfl)) (by kernel_rfl)) (by kernel_rfl)) (by kernel_rfl), rfl, H⟩ (sub_put (by exact rfl) (sub_put (by exact rfl) (sub_nil _)))
          · replace H := ite_f q9 H
            refine cs_know (c := false) (dec_f q9) 49 (by kernel_rfl) ?_
            refine cs_false (by kernel_rfl) ?_
            refine cs_skip' ?_
            refine qn_then ?_
            refine cs_seq ?_
            refine cs_region (l := [_, _, _, _, _]) ?_
            refine ls_val (v := .pointer (some ⟨g6, (0 + 1), none⟩)) rfl rfl (by kernel_rfl) (fun w => by kernel_rfl) ?_
            obtain ⟨y25, hy26, H⟩ := lt_some H
            refine ls_load (a0 := ⟨g6, (0 + 1), none⟩) (v := .int .i64 (((l0).getD (x6_2).toNat ((0 : Int), (0 : Int))).2)) (de := (TypeDesc.int .i64)) rfl rfl (by kernel_rfl) rfl (by kernel_rfl) (by kernel_rfl) (by kernel_rfl) (fun w hs => (hs.var (k := 2) (by exact rfl) (Sub4.trans (Sub4.all _) (Sub4.skip (n := 1) (len1 _) (Sub4.all _))))) ?_
            refine ls_ren 59 (v := .int .i64 (((l0).getD (x6_2).toNat ((0 : Int), (0 : Int))).2)) (v' := .int .i64 y25) (by kernel_rfl) (by rw [hy26]) ?_
            refine ls_val (v := .pointer (some ⟨g1, (0 + 1), none⟩)) rfl rfl (by kernel_rfl) (fun w => by kernel_rfl) ?_
            refine ls_load (a0 := ⟨g1, (0 + 1), none⟩) (v := .int .i64 a1.2) (de := (TypeDesc.int .i64)) rfl rfl (by kernel_rfl) rfl (by kernel_rfl) (by kernel_rfl) (by kernel_rfl) (fun w hs => (hs.var (k := 0) (by exact rfl) (Sub4.trans (Sub4.all _) (Sub4.skip (n := 1) (len1 _) (Sub4.all _))))) ?_
            refine ls_val (v := .bool (decide (y25 > a1.2))) rfl rfl (by kernel_rfl) (fun w => by kernel_rfl) ?_
            refine ls_end ?_
            refine qn_then ?_
            by_cases q27 : y25 > a1.2
            · replace H := ite_t q27 H
              refine cs_know (c := true) (dec_t q27) 62 (by kernel_rfl) ?_
              refine cs_true (by kernel_rfl) ?_
              refine cs_region (l := [_, _, _, _, _, _, _, _, _]) ?_
              refine ls_val (v := .slice A5_4 l5_4.length c5_4) rfl rfl (by kernel_rfl) (fun w => by kernel_rfl) ?_
              refine ls_val (v := .pointer (some ⟨g1, (0 + 1), none⟩)) rfl rfl (by kernel_rfl) (fun w => by kernel_rfl) ?_
              refine ls_load (a0 := ⟨g1, (0 + 1), none⟩) (v := .int .i64 a1.2) (de := (TypeDesc.int .i64)) rfl rfl (by kernel_rfl) rfl (by kernel_rfl) (by kernel_rfl) (by kernel_rfl) (fun w hs => (hs.var (k := 0) (by exact rfl) (Sub4.trans (Sub4.all _) (Sub4.skip (n := 1) (len1 _) (Sub4.all _))))) ?_
              refine ls_val (v := .pointer (some ⟨g6, (0 + 1), none⟩)) rfl rfl (by kernel_rfl) (fun w => by kernel_rfl) ?_
              obtain ⟨y28, hy29, H⟩ := lt_some H
              refine ls_load (a0 := ⟨g6, (0 + 1), none⟩) (v := .int .i64 (((l0).getD (x6_2).toNat ((0 : Int), (0 : Int))).2)) (de := (TypeDesc.int .i64)) rfl rfl (by kernel_rfl) rfl (by kernel_rfl) (by kernel_rfl) (by kernel_rfl) (fun w hs => (hs.var (k := 2) (by exact rfl) (Sub4.trans (Sub4.all _) (Sub4.skip (n := 1) (len1 _) (Sub4.all _))))) ?_
              refine ls_ren 67 (v := .int .i64 (((l0).getD (x6_2).toNat ((0 : Int), (0 : Int))).2)) (v' := .int .i64 y28) (by kernel_rfl) (by rw [hy29]) ?_
              refine ls_val (v := .agg ⟨([Value.int .i64 a1.2] ++ [Value.int .i64 y28])⟩) rfl rfl (by kernel_rfl) (fun w => by kernel_rfl) ?_
              refine ls_lit T31 3 rfl rfl (by kernel_rfl) ([(a1.2, y28)]) (by exact of_decide_eq_true (by kernel_rfl)) (fun w => by kernel_rfl) ?_
              intro g30
              obtain ⟨q31, H⟩ := ite_need H
              refine ls_app T31 (A := A5_4) (c := c5_4) (B := (some ⟨g30, 0, none⟩)) (cb := [(a1.2, y28)].length) (z := (.agg ⟨([Value.int .i64 (0 : Int)] ++ [Value.int .i64 (0 : Int)])⟩)) (l := l5_4) (m := [(a1.2, y28)]) (bytes := 16) 1 rfl rfl (by kernel_rfl) rfl (by kernel_rfl) (by exact rfl) (by kernel_rfl) (fun w hs => (hs.rd (k := 3) (by exact rfl))) (by kernel_rfl) (by kernel_rfl) rfl (by decide) q31 ?_
              intro xA32 xc33
              refine ls_val (v := .slice xA32 (l5_4 ++ [(a1.2, y28)]).length xc33) rfl rfl (by kernel_rfl) (fun w => by kernel_rfl) ?_
              refine ls_end ?_
              refine qn_block ?_
              refine qn_then ?_
              refine cs_region (l := [_, _, _]) ?_
              refine ls_val (v := .int .i64 x6_2) rfl rfl (by kernel_rfl) (fun w => by kernel_rfl) ?_
              refine ls_val (v := .int .i64 (IntKind.wrap .i64 (x6_2 + (1 : Int)))) rfl rfl (by kernel_rfl) (fun w => by kernel_rfl) ?_
              refine ls_val (v := .int .i64 (IntKind.wrap .i64 (x6_2 + (1 : Int)))) rfl rfl (by kernel_rfl) (fun w => by kernel_rfl) ?_
              refine ls_end ?_
              refine qn_again k2 (sput (sput s0 0 (some (Ck.var 31 g1 (([Value.int .i64 a1.1] ++ [Value.int .i64 a1.2]))))) 1 (some (Ck.sl T31 xA32 xc33 (l5_4 ++ [(a1.2, y28)])))) (Nat.le_refl _) ⟨_, xA32, xc33, (l5_4 ++ [(a1.2, y28)]), (IntKind.wrap .i64 (x6_2 + (1 : Int))), fr_next (fr_next (fr_next (fr_next (rfl) (by kernel_rfl)) (by kernel_rfl)) (by kernel_rfl)) (by kernel_rfl), rfl, H⟩ (sub_put (by exact rfl) (sub_put (by exact rfl) (sub_nil _)))
            · replace H := ite_f q27 H
              refine cs_know (c := false) (dec_f q27) 62 (by kernel_rfl) ?_
              refine cs_false (by kernel_rfl) ?_
              refine cs_skip' ?_
              refine qn_block ?_
              refine qn_then ?_
              refine cs_region (l := [_, _, _]) ?_
              refine ls_val (v := .int .i64 x6_2) rfl rfl (by kernel_rfl) (fun w => by kernel_rfl) ?_
              refine ls_val (v := .int .i64 (IntKind.wrap .i64 (x6_2 + (1 : Int)))) rfl rfl (by kernel_rfl) (fun w => by kernel_rfl) ?_
              refine ls_val (v := .int .i64 (IntKind.wrap .i64 (x6_2 + (1 : Int)))) rfl rfl (by kernel_rfl) (fun w => by kernel_rfl) ?_
              refine ls_end ?_
              refine qn_again k2 (sput (sput s0 0 (some (Ck.var 31 g1 (([Value.int .i64 a1.1] ++ [Value.int .i64 a1.2]))))) 1 (some (Ck.sl T31 A5_4 c5_4 l5_4))) (Nat.le_refl _) ⟨_, A5_4, c5_4, l5_4, (IntKind.wrap .i64 (x6_2 + (1 : Int))), fr_next (fr_next (fr_next (fr_next (rfl) (by kernel_rfl)) (by kernel_rfl)) (by kernel_rfl)) (by kernel_rfl), rfl, H⟩ (sub_put (by exact rfl) (sub_put (by exact rfl) (sub_nil _)))

end Go.Proofs.Ytiikfaefeonfhaa.G
