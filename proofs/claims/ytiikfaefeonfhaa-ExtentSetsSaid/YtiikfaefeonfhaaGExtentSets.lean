/- Printed by a program of this session (sz.py): plain functions, and walks that show that the code comes to them; no condition. -/
import Derived.Test.YtiikfaefeonfhaaProg
import Derived.Test.YtiikfaefeonfhaaTy
import Derived.Test.YtiikfaefeonfhaaG0
import Derived.Test.YtiikfaefeonfhaaG1
import Derived.Test.YtiikfaefeonfhaaG2
set_option linter.unusedVariables false
set_option linter.unusedSimpArgs false
namespace Go.Proofs.Ytiikfaefeonfhaa.G
open Go Go.RowKit Go.Proofs.Ytiikfaefeonfhaa.Sx

/-! ### shadowbox/shadowboxlaw09.ExtentSets: function 5 -/
def shadowboxlaw09_ExtentSets.lo2 (l3_1 : List (Int × Int)) (x4_1 : Int) : Nat → Int → Int → Option (Bool)
  | 0, _, _ => none
  | k2 + 1, x11_2, x12_2 => (if x12_2 < (64 : Int) then (if 0 ≤ IntKind.wrap .u64 x12_2 then lt (bits .and .u64 (shrv .u64 x4_1 (IntKind.wrap .u64 x12_2)) (1 : Int)) fun y3 => lt (IntKind.wrap .i64 (x11_2 + (IntKind.wrap .i64 y3))) fun y5 => (shadowboxlaw09_ExtentSets.lo2 l3_1 x4_1 k2) y5 (IntKind.wrap .i64 (x12_2 + (1 : Int))) else none) else (extent_Total.f k2 l3_1).bind fun t7 => (if t7 = x11_2 then (extent_Add.f k2 ([] : List (Int × Int)) ((3 : Int), (9 : Int))).bind fun t11 => (extent_Find.f k2 t11 (6 : Int)).bind fun t14 => some (decide (t14 = (3 : Int))) else some false))
def shadowboxlaw09_ExtentSets.jo1 (k : Nat) (l3_1 : List (Int × Int)) (x4_1 : Int) : Option (Bool) := shadowboxlaw09_ExtentSets.lo2 l3_1 x4_1 k (0 : Int) (0 : Int)
def shadowboxlaw09_ExtentSets.tab16 : List (List Nat) := [[], [], [0, 1], [0, 1, 2], [0, 1, 2, 3], [0, 1, 2, 3, 4], [], [], [6, 7], [6, 7, 8], [6, 7, 8, 9], [6, 7, 8, 9, 10], [6, 7, 8, 9, 10, 11], [0, 1, 2, 3, 4, 5], [0, 1, 2, 3, 4, 5, 6, 7, 8, 9, 10, 11, 12, 13]]
def shadowboxlaw09_ExtentSets.jo5 (l0 : List (Vc Int 3)) (l3_3 : List (Int × Int)) (x4_3 : Int) (x5_3 : Int) (k3 : Nat) (y24 : Int) (y35 : Int) (lo3 : (List (Int × Int)) → Int → Int → Option (Bool)) (x9_5 : Int) : Option (Bool) := (if (0 : Int) < (3 : Int) then lt ((((l0).getD (x5_3).toNat (vrep 3 (0 : Int))).1.getD ((0 : Int)).toNat (0 : Int))) fun y41 => (if (bits .and .i64 y41 (1 : Int)) = (0 : Int) then (extent_Add.f k3 l3_3 (bits .and .i64 y24 (63 : Int), y35)).bind fun t44 => (extent_Valid.f k3 t44).bind fun t47 => (if t47 = true then (shadowboxlaw09_set.f k3 t44).bind fun t51 => (if t51 = (bits .or .u64 x4_3 x9_5) then (extent_Meets.f k3 t44 (bits .and .i64 y24 (63 : Int), y35)).bind fun t55 => lt (bits .and .u64 (bits .or .u64 x4_3 x9_5) x9_5) fun y58 => (if (t55 == !decide (y58 = (0 : Int))) = true then lo3 t44 (bits .or .u64 x4_3 x9_5) (IntKind.wrap .i64 (x5_3 + (1 : Int))) else some false) else some false) else some false) else (extent_Remove.f k3 l3_3 (bits .and .i64 y24 (63 : Int), y35)).bind fun t61 => (extent_Valid.f k3 t61).bind fun t64 => (if t64 = true then (shadowboxlaw09_set.f k3 t61).bind fun t68 => (if t68 = (bits .andNot .u64 x4_3 x9_5) then (extent_Meets.f k3 t61 (bits .and .i64 y24 (63 : Int), y35)).bind fun t72 => lt (bits .and .u64 (bits .andNot .u64 x4_3 x9_5) x9_5) fun y75 => (if (t72 == !decide (y75 = (0 : Int))) = true then lo3 t61 (bits .andNot .u64 x4_3 x9_5) (IntKind.wrap .i64 (x5_3 + (1 : Int))) else some false) else some false) else some false)) else none)
def shadowboxlaw09_ExtentSets.lo6 (y35 : Int) (jo5 : Int → Option (Bool)) : Nat → Int → Int → Option (Bool)
  | 0, _, _ => none
  | k6 + 1, x9_6, x10_6 => (if x10_6 < y35 then (if 0 ≤ IntKind.wrap .u64 x10_6 then lt (shlv .u64 (1 : Int) (IntKind.wrap .u64 x10_6)) fun y80 => (shadowboxlaw09_ExtentSets.lo6 y35 jo5 k6) (bits .or .u64 x9_6 y80) (IntKind.wrap .i64 (x10_6 + (1 : Int))) else none) else jo5 x9_6)
def shadowboxlaw09_ExtentSets.jo4 (l0 : List (Vc Int 3)) (l3_3 : List (Int × Int)) (x4_3 : Int) (x5_3 : Int) (k3 : Nat) (lo3 : (List (Int × Int)) → Int → Int → Option (Bool)) (x18_4 : Int) (x19_4 : Bool) : Option (Bool) := (if 0 ≤ x5_3 then (if x5_3 < (l0.length : Int) then (if (1 : Int) < (3 : Int) then lt ((((l0).getD (x5_3).toNat (vrep 3 (0 : Int))).1.getD ((1 : Int)).toNat (0 : Int))) fun y24 => (if (2 : Int) < (3 : Int) then lt ((((l0).getD (x5_3).toNat (vrep 3 (0 : Int))).1.getD ((2 : Int)).toNat (0 : Int))) fun y29 => lt (IntKind.wrap .i64 ((1 : Int) + (bits .and .i64 y29 (15 : Int)))) fun y31 => lt (IntKind.wrap .i64 ((bits .and .i64 y24 (63 : Int)) + y31)) fun y33 => lt ((if (64 : Int) < y33 then (64 : Int) else y33)) fun y35 => shadowboxlaw09_ExtentSets.lo6 y35 (shadowboxlaw09_ExtentSets.jo5 l0 l3_3 x4_3 x5_3 k3 y24 y35 lo3) k3 (0 : Int) (bits .and .i64 y24 (63 : Int)) else none) else none) else none) else none)
def shadowboxlaw09_ExtentSets.lo3 (l0 : List (Vc Int 3)) (jo1 : (List (Int × Int)) → Int → Option (Bool)) : Nat → (List (Int × Int)) → Int → Int → Option (Bool)
  | 0, _, _, _ => none
  | k3 + 1, l3_3, x4_3, x5_3 => (if x5_3 < (l0.length : Int) then (if x5_3 < (60 : Int) then (shadowboxlaw09_ExtentSets.jo4 l0 l3_3 x4_3 x5_3 k3 (shadowboxlaw09_ExtentSets.lo3 l0 jo1 k3)) x5_3 (decide (x5_3 < (60 : Int))) else jo1 l3_3 x4_3) else jo1 l3_3 x4_3)
def shadowboxlaw09_ExtentSets.f (k : Nat) (l0 : List (Vc Int 3)) : Option (Bool) :=
  shadowboxlaw09_ExtentSets.lo3 l0 (shadowboxlaw09_ExtentSets.jo1 k) k ([] : List (Int × Int)) (0 : Int) (0 : Int)
set_option maxRecDepth 100000 in
set_option maxHeartbeats 4000000 in
theorem shadowboxlaw09_ExtentSets.calls (k : Nat) (A0 : Option Addr) (c0 : Nat) (l0 : List (Vc Int 3)) (r : Bool) (b : Bs) (hs0 : St b (stl []) b.w) (R0 : Ro b A0 (em T42 l0)) (C0 : l0.length ≤ c0) (H : shadowboxlaw09_ExtentSets.f k l0 = some r) :
    Calls Try.prog 5 #[.slice A0 l0.length c0] b.w fun e w' => ∃ x : Unit, e = .returned (.bool r) ∧ St b (stl []) w' := by
  unfold shadowboxlaw09_ExtentSets.f at H
  refine enterb (n := 115) Try.func5 rfl (by kernel_rfl) (by kernel_rfl) hs0 ?_
  refine cs_sub (s0) (sub_nil _) ?_
  refine cs_seq ?_
  refine cs_region (l := [_]) ?_
  refine ls_val (v := .bool false) rfl rfl (by kernel_rfl) (fun w => by kernel_rfl) ?_
  refine ls_end ?_
  refine qn_then ?_
  refine cs_seq ?_
  refine cs_region (l := [_]) ?_
  refine ls_val (v := .slice none 0 0) rfl rfl (by kernel_rfl) (fun w => by kernel_rfl) ?_
  refine ls_end ?_
  refine qn_then ?_
  refine cs_seq ?_
  refine cs_region (l := [_]) ?_
  refine ls_val (v := .int .u64 (0 : Int)) rfl rfl (by kernel_rfl) (fun w => by kernel_rfl) ?_
  refine ls_end ?_
  refine qn_then ?_
  refine cs_nilro 0 T24 ?_
  refine cs_cut (fun f S => ∃ (fR : Fr) (A3_1 : Option Addr) (c3_1 : Nat) (l3_1 : List (Int × Int)) (x4_1 : Int), f = upd (upd fR 3 (.slice A3_1 l3_1.length c3_1)) 4 (.int .u64 x4_1) ∧ S = sput s0 0 (some (Ck.ro T24 A3_1 c3_1 l3_1)) ∧ shadowboxlaw09_ExtentSets.jo1 k l3_1 x4_1 = some r) ?_ ?_
  · skip
    refine cs_seq ?_
    refine cs_region (l := [_]) ?_
    refine ls_val (v := .int .i64 (0 : Int)) rfl rfl (by kernel_rfl) (fun w => by kernel_rfl) ?_
    refine ls_end ?_
    refine qn_then ?_
    refine cs_block ?_
    refine cs_toror (T := T24) (A := none) (c := 0) (l := ([] : List (Int × Int))) 0 1 (by exact rfl) ?_
    refine cs_sub (sput s0 1 (some (Ck.ro T24 none 0 ([] : List (Int × Int))))) (sub_put (by exact rfl) (sub_nil _)) ?_
    refine cs_loop (fun kk f S => ∃ (fR : Fr) (A3_3 : Option Addr) (c3_3 : Nat) (l3_3 : List (Int × Int)) (x4_3 : Int) (x5_3 : Int), f = upd (upd (upd (upd fR 0 (.slice A0 l0.length c0)) 3 (.slice A3_3 l3_3.length c3_3)) 4 (.int .u64 x4_3)) 5 (.int .i64 x5_3) ∧ S = sput s0 1 (some (Ck.ro T24 A3_3 c3_3 l3_3)) ∧ shadowboxlaw09_ExtentSets.lo3 l0 (shadowboxlaw09_ExtentSets.jo1 k) kk l3_3 x4_3 x5_3 = some r) k ?_ ?_ ?_
    · exact ⟨_, none, 0, ([] : List (Int × Int)), (0 : Int), (0 : Int), fr_next (fr_next (fr_next (fr_next (rfl) (by kernel_rfl)) (by kernel_rfl)) (by kernel_rfl)) (by kernel_rfl), rfl, H⟩
    · rintro f S ⟨fr3, A3_3, c3_3, l3_3, x4_3, x5_3, rfl, rfl, H⟩; cases H
    · rintro k3 f S ⟨fr3, A3_3, c3_3, l3_3, x4_3, x5_3, rfl, rfl, H⟩
      replace H : ((if x5_3 < (l0.length : Int) then (if x5_3 < (60 : Int) then (shadowboxlaw09_ExtentSets.jo4 l0 l3_3 x4_3 x5_3 k3 (shadowboxlaw09_ExtentSets.lo3 l0 (shadowboxlaw09_ExtentSets.jo1 k) k3)) x5_3 (decide (x5_3 < (60 : Int))) else (shadowboxlaw09_ExtentSets.jo1 k) l3_3 x4_3) else (shadowboxlaw09_ExtentSets.jo1 k) l3_3 x4_3)) = some r := H
      refine cs_cut (fun f S => ∃ (fR : Fr) (x18_4 : Int) (x19_4 : Bool), f = upd (upd (upd (upd (upd (upd fR 0 (.slice A0 l0.length c0)) 3 (.slice A3_3 l3_3.length c3_3)) 4 (.int .u64 x4_3)) 5 (.int .i64 x5_3)) 18 (.int .i64 x18_4)) 19 (.bool x19_4) ∧ S = sput s0 1 (some (Ck.ro T24 A3_3 c3_3 l3_3)) ∧ shadowboxlaw09_ExtentSets.jo4 l0 l3_3 x4_3 x5_3 k3 (shadowboxlaw09_ExtentSets.lo3 l0 (shadowboxlaw09_ExtentSets.jo1 k) k3) x18_4 x19_4 = some r) ?_ ?_
      · skip
        refine cs_seq ?_
        refine cs_region (l := [_, _, _, _, _, _, _, _]) ?_
        refine ls_val (v := .int .i64 x5_3) rfl rfl (by kernel_rfl) (fun w => by kernel_rfl) ?_
        refine ls_val (v := .slice A0 l0.length c0) rfl rfl (by kernel_rfl) (fun w => by kernel_rfl) ?_
        refine ls_val (v := .int .i64 (l0.length : Int)) rfl rfl (by kernel_rfl) (fun w => by kernel_rfl) ?_
        refine ls_val (v := .bool (decide (x5_3 < (l0.length : Int)))) rfl rfl (by kernel_rfl) (fun w => by kernel_rfl) ?_
        refine ls_val (v := .bool (decide (x5_3 < (l0.length : Int)))) rfl rfl (by kernel_rfl) (fun w => by kernel_rfl) ?_
        by_cases q82 : x5_3 < (l0.length : Int)
        · replace H := ite_t q82 H
          refine ls_know (c := true) (dec_t q82) 17 (by kernel_rfl) ?_
          refine ls_on (j := 4) (t := 17) (b := true) rfl rfl (by kernel_rfl) (by kernel_rfl) ?_
          refine ls_val (v := .int .i64 x5_3) rfl rfl (by kernel_rfl) (fun w => by kernel_rfl) ?_
          refine ls_on (j := 4) (t := 17) (b := true) rfl rfl (by kernel_rfl) (by kernel_rfl) ?_
          refine ls_val (v := .bool (decide (x5_3 < (60 : Int)))) rfl rfl (by kernel_rfl) (fun w => by kernel_rfl) ?_
          refine ls_val (v := .bool (decide (x5_3 < (60 : Int)))) rfl rfl (by kernel_rfl) (fun w => by kernel_rfl) ?_
          refine ls_end ?_
          refine qn_then ?_
          by_cases q83 : x5_3 < (60 : Int)
          · replace H := ite_t q83 H
            refine cs_know (c := true) (dec_t q83) 20 (by kernel_rfl) ?_
            refine cs_true (by kernel_rfl) ?_
            refine cs_skip' ?_
            refine qn_meet (sput s0 1 (some (Ck.ro T24 A3_3 c3_3 l3_3))) ⟨_, x5_3, (decide (x5_3 < (60 : Int))), fr_next (fr_next (fr_next (fr_next (fr_next (fr_next (rfl) (by kernel_rfl)) (by kernel_rfl)) (by kernel_rfl)) (by kernel_rfl)) (by kernel_rfl)) (by kernel_rfl), rfl, H⟩ (sub_put (by exact rfl) (sub_nil _))
          · replace H := ite_f q83 H
            refine cs_know (c := false) (dec_f q83) 20 (by kernel_rfl) ?_
            refine cs_false (by kernel_rfl) ?_
            refine cs_exit' ?_
            refine qx_then ?_
            refine qx_then ?_
            refine qx_same ?_
            refine qn_toror (T := T24) (A := A3_3) (c := c3_3) (l := l3_3) 1 0 (by exact rfl) ?_
            refine qn_meet (sput s0 0 (some (Ck.ro T24 A3_3 c3_3 l3_3))) ⟨_, A3_3, c3_3, l3_3, x4_3, fr_next (fr_next (rfl) (by kernel_rfl)) (by kernel_rfl), rfl, H⟩ (sub_put (by exact rfl) (sub_nil _))
        · replace H := ite_f q82 H
          refine ls_know (c := false) (dec_f q82) 17 (by kernel_rfl) ?_
          refine ls_off (j := 4) (t := 17) (b := true) (c := false) rfl rfl (by kernel_rfl) (by kernel_rfl) rfl rfl (by kernel_rfl) ?_
          refine ls_off (j := 4) (t := 17) (b := true) (c := false) rfl rfl (by kernel_rfl) (by kernel_rfl) rfl rfl (by kernel_rfl) ?_
          refine ls_val (v := .bool false) rfl rfl (by kernel_rfl) (fun w => by kernel_rfl) ?_
          refine ls_end ?_
          refine qn_then ?_
          refine cs_false (by kernel_rfl) ?_
          refine cs_exit' ?_
          refine qx_then ?_
          refine qx_then ?_
          refine qx_same ?_
          refine qn_toror (T := T24) (A := A3_3) (c := c3_3) (l := l3_3) 1 0 (by exact rfl) ?_
          refine qn_meet (sput s0 0 (some (Ck.ro T24 A3_3 c3_3 l3_3))) ⟨_, A3_3, c3_3, l3_3, x4_3, fr_next (fr_next (rfl) (by kernel_rfl)) (by kernel_rfl), rfl, H⟩ (sub_put (by exact rfl) (sub_nil _))
      · rintro f S ⟨fr4, x18_4, x19_4, rfl, rfl, H⟩
        replace H : ((if 0 ≤ x5_3 then (if x5_3 < (l0.length : Int) then (if (1 : Int) < (3 : Int) then lt ((((l0).getD (x5_3).toNat (vrep 3 (0 : Int))).1.getD ((1 : Int)).toNat (0 : Int))) fun y24 => (if (2 : Int) < (3 : Int) then lt ((((l0).getD (x5_3).toNat (vrep 3 (0 : Int))).1.getD ((2 : Int)).toNat (0 : Int))) fun y29 => lt (IntKind.wrap .i64 ((1 : Int) + (bits .and .i64 y29 (15 : Int)))) fun y31 => lt (IntKind.wrap .i64 ((bits .and .i64 y24 (63 : Int)) + y31)) fun y33 => lt ((if (64 : Int) < y33 then (64 : Int) else y33)) fun y35 => shadowboxlaw09_ExtentSets.lo6 y35 (shadowboxlaw09_ExtentSets.jo5 l0 l3_3 x4_3 x5_3 k3 y24 y35 (shadowboxlaw09_ExtentSets.lo3 l0 (shadowboxlaw09_ExtentSets.jo1 k) k3)) k3 (0 : Int) (bits .and .i64 y24 (63 : Int)) else none) else none) else none) else none)) = some r := H
        refine cs_seq ?_
        refine cs_block ?_
        refine cs_seq ?_
        obtain ⟨s18_0, hs18_0⟩ : ∃ z : Value → Sto → Prop, z = (fun v R => v = .slice A0 l0.length c0 ∧ R = s0) := ⟨_, rfl⟩
        refine have_op (l := [_, _, _, _, _, _, _, _, _, _, _, _, _, _, _]) shadowboxlaw09_ExtentSets.tab16 2 0 (fun sp => sp 0 = s18_0) (fun sp on hA hon => ?_) (fun ops18_0 => ?_)
        · refine ⟨fun o ho vs Rs f' S' w hp hf hx hS hR hs => ?_⟩
          obtain rfl := Option.some.inj ho
          rw [hA, hs18_0]
          refine And.intro (fun a ha => (want_none rfl a ha).trans hon.symm) (And.intro (fun _ => ?_) (fun h => by rw [hon] at h; cases h))
          have hF := fr_next (rfl) ((hx 0 (by kernel_rfl)).trans (by kernel_rfl : (_ : Value) = .slice A0 l0.length c0))
          refine ls_fr hF ?_
          refine ls_val (v := .slice A0 l0.length c0) rfl rfl (by kernel_rfl) (fun w => by kernel_rfl) ?_
          exact ls_fin s0 (.slice A0 l0.length c0) (congrArg (fun z => upd z 23 _) hF.symm) ⟨rfl, rfl⟩ (sub_nil _)
        obtain ⟨s18_1, hs18_1⟩ : ∃ z : Value → Sto → Prop, z = (fun v R => v = .int .i64 x5_3 ∧ R = s0) := ⟨_, rfl⟩
        refine have_op (l := [_, _, _, _, _, _, _, _, _, _, _, _, _, _, _]) shadowboxlaw09_ExtentSets.tab16 2 1 (fun sp => sp 1 = s18_1) (fun sp on hA hon => ?_) (fun ops18_1 => ?_)
        · refine ⟨fun o ho vs Rs f' S' w hp hf hx hS hR hs => ?_⟩
          obtain rfl := Option.some.inj ho
          rw [hA, hs18_1]
          refine And.intro (fun a ha => (want_none rfl a ha).trans hon.symm) (And.intro (fun _ => ?_) (fun h => by rw [hon] at h; cases h))
          have hF := fr_next (rfl) ((hx 5 (by kernel_rfl)).trans (by kernel_rfl : (_ : Value) = .int .i64 x5_3))
          refine ls_fr hF ?_
          refine ls_val (v := .int .i64 x5_3) rfl rfl (by kernel_rfl) (fun w => by kernel_rfl) ?_
          exact ls_fin s0 (.int .i64 x5_3) (congrArg (fun z => upd z 24 _) hF.symm) ⟨rfl, rfl⟩ (sub_nil _)
        obtain ⟨q19, H⟩ := ite_need H
        obtain ⟨q20, H⟩ := ite_need H
        obtain ⟨ad21, hA22⟩ := ido_at (T := T42) (l := l0) (i := x5_3) R0 q19 q20
        obtain ⟨s18_2, hs18_2⟩ : ∃ z : Value → Sto → Prop, z = (fun v R => v = .pointer (some (ad21.add ((x5_3).toNat * 3))) ∧ R = s0) := ⟨_, rfl⟩
        refine have_op (l := [_, _, _, _, _, _, _, _, _, _, _, _, _, _, _]) shadowboxlaw09_ExtentSets.tab16 2 2 (fun sp => sp 2 = s18_2 ∧ sp 0 = s18_0 ∧ sp 1 = s18_1) (fun sp on hA hon => ?_) (fun ops18_2 => ?_)
        · refine ⟨fun o ho vs Rs f' S' w hp hf hx hS hR hs => ?_⟩
          obtain rfl := Option.some.inj ho
          obtain ⟨hv0, hR0⟩ := (spe hA.2.1 hs18_0 (hp 0 (by kernel_rfl)))
          obtain ⟨hv1, hR1⟩ := (spe hA.2.2 hs18_1 (hp 1 (by kernel_rfl)))
          rw [hA.1, hs18_2]
          refine And.intro (fun a ha => (want_none rfl a ha).trans hon.symm) (And.intro (fun _ => ?_) (fun h => by rw [hon] at h; cases h))
          have hF := fr_next (fr_next (rfl) ((hf 0 23 (by kernel_rfl) rfl).trans hv0)) ((hf 1 24 (by kernel_rfl) rfl).trans hv1)
          refine ls_fr hF ?_
          refine ls_idxv T42 (A := A0) (c := c0) (l := l0) (k := .i64) (i := x5_3) (z := 3) (ad := ad21) rfl rfl (by kernel_rfl) hA22 rfl (by kernel_rfl) (by kernel_rfl) (by kernel_rfl) (by kernel_rfl) q19 q20 ?_
          exact ls_fin s0 (.pointer (some (ad21.add ((x5_3).toNat * 3)))) (congrArg (fun z => upd z 25 _) hF.symm) ⟨rfl, rfl⟩ (sub_nil _)
        obtain ⟨q23, H⟩ := ite_need H
        obtain ⟨s18_3, hs18_3⟩ : ∃ z : Value → Sto → Prop, z = (fun v R => v = .pointer (some (ad21.add (((x5_3).toNat * 3) + ((1 : Int)).toNat))) ∧ R = s0) := ⟨_, rfl⟩
        refine have_op (l := [_, _, _, _, _, _, _, _, _, _, _, _, _, _, _]) shadowboxlaw09_ExtentSets.tab16 2 3 (fun sp => sp 3 = s18_3 ∧ sp 2 = s18_2) (fun sp on hA hon => ?_) (fun ops18_3 => ?_)
        · refine ⟨fun o ho vs Rs f' S' w hp hf hx hS hR hs => ?_⟩
          obtain rfl := Option.some.inj ho
          obtain ⟨hv2, hR2⟩ := (spe hA.2 hs18_2 (hp 2 (by kernel_rfl)))
          rw [hA.1, hs18_3]
          refine And.intro (fun a ha => (want_none rfl a ha).trans hon.symm) (And.intro (fun _ => ?_) (fun h => by rw [hon] at h; cases h))
          have hF := fr_next (rfl) ((hf 2 25 (by kernel_rfl) rfl).trans hv2)
          refine ls_fr hF ?_
          refine ls_idxma (ad := ad21) (off := ((x5_3).toNat * 3)) (k := .i64) (i := (1 : Int)) (ln := 3) (e := 3) rfl rfl (by kernel_rfl) rfl (by kernel_rfl) (by kernel_rfl) (by kernel_rfl) (by kernel_rfl) (by decide) q23 ?_
          exact ls_fin s0 (.pointer (some (ad21.add (((x5_3).toNat * 3) + ((1 : Int)).toNat)))) (congrArg (fun z => upd z 26 _) hF.symm) ⟨rfl, rfl⟩ (sub_nil _)
        obtain ⟨y24, hy25, H⟩ := lt_some H
        obtain ⟨s18_4, hs18_4⟩ : ∃ z : Value → Sto → Prop, z = (fun v R => v = .int .i64 y24 ∧ R = s0) := ⟨_, rfl⟩
        refine have_op (l := [_, _, _, _, _, _, _, _, _, _, _, _, _, _, _]) shadowboxlaw09_ExtentSets.tab16 2 4 (fun sp => sp 4 = s18_4 ∧ sp 3 = s18_3) (fun sp on hA hon => ?_) (fun ops18_4 => ?_)
        · refine ⟨fun o ho vs Rs f' S' w hp hf hx hS hR hs => ?_⟩
          obtain rfl := Option.some.inj ho
          obtain ⟨hv3, hR3⟩ := (spe hA.2 hs18_3 (hp 3 (by kernel_rfl)))
          rw [hA.1, hs18_4]
          refine And.intro (fun a ha => (want_none rfl a ha).trans hon.symm) (And.intro (fun _ => ?_) (fun h => by rw [hon] at h; cases h))
          have hF := fr_next (rfl) ((hf 3 26 (by kernel_rfl) rfl).trans hv3)
          refine ls_fr hF ?_
          refine ls_load (a0 := (ad21.add (((x5_3).toNat * 3) + ((1 : Int)).toNat))) (v := .int .i64 (((l0).getD (x5_3).toNat (vrep 3 (0 : Int))).1.getD ((1 : Int)).toNat (0 : Int))) (de := (TypeDesc.int .i64)) rfl rfl (by kernel_rfl) rfl (by kernel_rfl) (by kernel_rfl) (by kernel_rfl) (fun w1 hs1 => (Rd.step (hs.old R0) hs1.below.bw).at hA22 (Sub4.trans (em_sub T42 l0 (i := (x5_3).toNat) (by have h0 : (0 : Int) ≤ x5_3 := q19; have h1 : x5_3 < (l0.length : Int) := q20; omega)) (Sub4.one (i := ((1 : Int)).toNat) (Value.int .i64) ((l0).getD (x5_3).toNat (vrep 3 (0 : Int))).1 0 (by have := ((l0).getD (x5_3).toNat (vrep 3 (0 : Int))).2; omega)))) ?_
          refine ls_ren 27 (v := .int .i64 (((l0).getD (x5_3).toNat (vrep 3 (0 : Int))).1.getD ((1 : Int)).toNat (0 : Int))) (v' := .int .i64 y24) (by kernel_rfl) (by rw [hy25]) ?_
          exact ls_fin s0 (.int .i64 y24) ((upd_upd _ _ _ _).trans (congrArg (fun z => upd z 27 _) hF.symm)) ⟨rfl, rfl⟩ (sub_nil _)
        obtain ⟨s18_5, hs18_5⟩ : ∃ z : Value → Sto → Prop, z = (fun v R => v = .int .i64 (bits .and .i64 y24 (63 : Int)) ∧ R = s0) := ⟨_, rfl⟩
        refine have_op (l := [_, _, _, _, _, _, _, _, _, _, _, _, _, _, _]) shadowboxlaw09_ExtentSets.tab16 2 5 (fun sp => sp 5 = s18_5 ∧ sp 4 = s18_4) (fun sp on hA hon => ?_) (fun ops18_5 => ?_)
        · refine ⟨fun o ho vs Rs f' S' w hp hf hx hS hR hs => ?_⟩
          obtain rfl := Option.some.inj ho
          obtain ⟨hv4, hR4⟩ := (spe hA.2 hs18_4 (hp 4 (by kernel_rfl)))
          rw [hA.1, hs18_5]
          refine And.intro (fun a ha => (want_none rfl a ha).trans hon.symm) (And.intro (fun _ => ?_) (fun h => by rw [hon] at h; cases h))
          have hF := fr_next (rfl) ((hf 4 27 (by kernel_rfl) rfl).trans hv4)
          refine ls_fr hF ?_
          refine ls_val (v := .int .i64 (bits .and .i64 y24 (63 : Int))) rfl rfl (by kernel_rfl) (fun w => by kernel_rfl) ?_
          exact ls_fin s0 (.int .i64 (bits .and .i64 y24 (63 : Int))) (congrArg (fun z => upd z 28 _) hF.symm) ⟨rfl, rfl⟩ (sub_nil _)
        obtain ⟨s18_6, hs18_6⟩ : ∃ z : Value → Sto → Prop, z = (fun v R => v = .slice A0 l0.length c0 ∧ R = s0) := ⟨_, rfl⟩
        refine have_op (l := [_, _, _, _, _, _, _, _, _, _, _, _, _, _, _]) shadowboxlaw09_ExtentSets.tab16 2 6 (fun sp => sp 6 = s18_6) (fun sp on hA hon => ?_) (fun ops18_6 => ?_)
        · refine ⟨fun o ho vs Rs f' S' w hp hf hx hS hR hs => ?_⟩
          obtain rfl := Option.some.inj ho
          rw [hA, hs18_6]
          refine And.intro (fun a ha => (want_none rfl a ha).trans hon.symm) (And.intro (fun _ => ?_) (fun h => by rw [hon] at h; cases h))
          have hF := fr_next (rfl) ((hx 0 (by kernel_rfl)).trans (by kernel_rfl : (_ : Value) = .slice A0 l0.length c0))
          refine ls_fr hF ?_
          refine ls_val (v := .slice A0 l0.length c0) rfl rfl (by kernel_rfl) (fun w => by kernel_rfl) ?_
          exact ls_fin s0 (.slice A0 l0.length c0) (congrArg (fun z => upd z 29 _) hF.symm) ⟨rfl, rfl⟩ (sub_nil _)
        obtain ⟨s18_7, hs18_7⟩ : ∃ z : Value → Sto → Prop, z = (fun v R => v = .int .i64 x5_3 ∧ R = s0) := ⟨_, rfl⟩
        refine have_op (l := [_, _, _, _, _, _, _, _, _, _, _, _, _, _, _]) shadowboxlaw09_ExtentSets.tab16 2 7 (fun sp => sp 7 = s18_7) (fun sp on hA hon => ?_) (fun ops18_7 => ?_)
        · refine ⟨fun o ho vs Rs f' S' w hp hf hx hS hR hs => ?_⟩
          obtain rfl := Option.some.inj ho
          rw [hA, hs18_7]
          refine And.intro (fun a ha => (want_none rfl a ha).trans hon.symm) (And.intro (fun _ => ?_) (fun h => by rw [hon] at h; cases h))
          have hF := fr_next (rfl) ((hx 5 (by kernel_rfl)).trans (by kernel_rfl : (_ : Value) = .int .i64 x5_3))
          refine ls_fr hF ?_
          refine ls_val (v := .int .i64 x5_3) rfl rfl (by kernel_rfl) (fun w => by kernel_rfl) ?_
          exact ls_fin s0 (.int .i64 x5_3) (congrArg (fun z => upd z 30 _) hF.symm) ⟨rfl, rfl⟩ (sub_nil _)
        obtain ⟨ad26, hA27⟩ := ido_at (T := T42) (l := l0) (i := x5_3) R0 q19 q20
        obtain ⟨s18_8, hs18_8⟩ : ∃ z : Value → Sto → Prop, z = (fun v R => v = .pointer (some (ad26.add ((x5_3).toNat * 3))) ∧ R = s0) := ⟨_, rfl⟩
        refine have_op (l := [_, _, _, _, _, _, _, _, _, _, _, _, _, _, _]) shadowboxlaw09_ExtentSets.tab16 2 8 (fun sp => sp 8 = s18_8 ∧ sp 6 = s18_6 ∧ sp 7 = s18_7) (fun sp on hA hon => ?_) (fun ops18_8 => ?_)
        · refine ⟨fun o ho vs Rs f' S' w hp hf hx hS hR hs => ?_⟩
          obtain rfl := Option.some.inj ho
          obtain ⟨hv6, hR6⟩ := (spe hA.2.1 hs18_6 (hp 6 (by kernel_rfl)))
          obtain ⟨hv7, hR7⟩ := (spe hA.2.2 hs18_7 (hp 7 (by kernel_rfl)))
          rw [hA.1, hs18_8]
          refine And.intro (fun a ha => (want_none rfl a ha).trans hon.symm) (And.intro (fun _ => ?_) (fun h => by rw [hon] at h; cases h))
          have hF := fr_next (fr_next (rfl) ((hf 6 29 (by kernel_rfl) rfl).trans hv6)) ((hf 7 30 (by kernel_rfl) rfl).trans hv7)
          refine ls_fr hF ?_
          refine ls_idxv T42 (A := A0) (c := c0) (l := l0) (k := .i64) (i := x5_3) (z := 3) (ad := ad26) rfl rfl (by kernel_rfl) hA27 rfl (by kernel_rfl) (by kernel_rfl) (by kernel_rfl) (by kernel_rfl) q19 q20 ?_
          exact ls_fin s0 (.pointer (some (ad26.add ((x5_3).toNat * 3)))) (congrArg (fun z => upd z 31 _) hF.symm) ⟨rfl, rfl⟩ (sub_nil _)
        obtain ⟨q28, H⟩ := ite_need H
        obtain ⟨s18_9, hs18_9⟩ : ∃ z : Value → Sto → Prop, z = (fun v R => v = .pointer (some (ad26.add (((x5_3).toNat * 3) + ((2 : Int)).toNat))) ∧ R = s0) := ⟨_, rfl⟩
        refine have_op (l := [_, _, _, _, _, _, _, _, _, _, _, _, _, _, _]) shadowboxlaw09_ExtentSets.tab16 2 9 (fun sp => sp 9 = s18_9 ∧ sp 8 = s18_8) (fun sp on hA hon => ?_) (fun ops18_9 => ?_)
        · refine ⟨fun o ho vs Rs f' S' w hp hf hx hS hR hs => ?_⟩
          obtain rfl := Option.some.inj ho
          obtain ⟨hv8, hR8⟩ := (spe hA.2 hs18_8 (hp 8 (by kernel_rfl)))
          rw [hA.1, hs18_9]
          refine And.intro (fun a ha => (want_none rfl a ha).trans hon.symm) (And.intro (fun _ => ?_) (fun h => by rw [hon] at h; cases h))
          have hF := fr_next (rfl) ((hf 8 31 (by kernel_rfl) rfl).trans hv8)
          refine ls_fr hF ?_
          refine ls_idxma (ad := ad26) (off := ((x5_3).toNat * 3)) (k := .i64) (i := (2 : Int)) (ln := 3) (e := 3) rfl rfl (by kernel_rfl) rfl (by kernel_rfl) (by kernel_rfl) (by kernel_rfl) (by kernel_rfl) (by decide) q28 ?_
          exact ls_fin s0 (.pointer (some (ad26.add (((x5_3).toNat * 3) + ((2 : Int)).toNat)))) (congrArg (fun z => upd z 32 _) hF.symm) ⟨rfl, rfl⟩ (sub_nil _)
        obtain ⟨y29, hy30, H⟩ := lt_some H
        obtain ⟨s18_10, hs18_10⟩ : ∃ z : Value → Sto → Prop, z = (fun v R => v = .int .i64 y29 ∧ R = s0) := ⟨_, rfl⟩
        refine have_op (l := [_, _, _, _, _, _, _, _, _, _, _, _, _, _, _]) shadowboxlaw09_ExtentSets.tab16 2 10 (fun sp => sp 10 = s18_10 ∧ sp 9 = s18_9) (fun sp on hA hon => ?_) (fun ops18_10 => ?_)
        · refine ⟨fun o ho vs Rs f' S' w hp hf hx hS hR hs => ?_⟩
          obtain rfl := Option.some.inj ho
          obtain ⟨hv9, hR9⟩ := (spe hA.2 hs18_9 (hp 9 (by kernel_rfl)))
          rw [hA.1, hs18_10]
          refine And.intro (fun a ha => (want_none rfl a ha).trans hon.symm) (And.intro (fun _ => ?_) (fun h => by rw [hon] at h; cases h))
          have hF := fr_next (rfl) ((hf 9 32 (by kernel_rfl) rfl).trans hv9)
          refine ls_fr hF ?_
          refine ls_load (a0 := (ad26.add (((x5_3).toNat * 3) + ((2 : Int)).toNat))) (v := .int .i64 (((l0).getD (x5_3).toNat (vrep 3 (0 : Int))).1.getD ((2 : Int)).toNat (0 : Int))) (de := (TypeDesc.int .i64)) rfl rfl (by kernel_rfl) rfl (by kernel_rfl) (by kernel_rfl) (by kernel_rfl) (fun w1 hs1 => (Rd.step (hs.old R0) hs1.below.bw).at hA27 (Sub4.trans (em_sub T42 l0 (i := (x5_3).toNat) (by have h0 : (0 : Int) ≤ x5_3 := q19; have h1 : x5_3 < (l0.length : Int) := q20; omega)) (Sub4.one (i := ((2 : Int)).toNat) (Value.int .i64) ((l0).getD (x5_3).toNat (vrep 3 (0 : Int))).1 0 (by have := ((l0).getD (x5_3).toNat (vrep 3 (0 : Int))).2; omega)))) ?_
          refine ls_ren 33 (v := .int .i64 (((l0).getD (x5_3).toNat (vrep 3 (0 : Int))).1.getD ((2 : Int)).toNat (0 : Int))) (v' := .int .i64 y29) (by kernel_rfl) (by rw [hy30]) ?_
          exact ls_fin s0 (.int .i64 y29) ((upd_upd _ _ _ _).trans (congrArg (fun z => upd z 33 _) hF.symm)) ⟨rfl, rfl⟩ (sub_nil _)
        obtain ⟨s18_11, hs18_11⟩ : ∃ z : Value → Sto → Prop, z = (fun v R => v = .int .i64 (bits .and .i64 y29 (15 : Int)) ∧ R = s0) := ⟨_, rfl⟩
        refine have_op (l := [_, _, _, _, _, _, _, _, _, _, _, _, _, _, _]) shadowboxlaw09_ExtentSets.tab16 2 11 (fun sp => sp 11 = s18_11 ∧ sp 10 = s18_10) (fun sp on hA hon => ?_) (fun ops18_11 => ?_)
        · refine ⟨fun o ho vs Rs f' S' w hp hf hx hS hR hs => ?_⟩
          obtain rfl := Option.some.inj ho
          obtain ⟨hv10, hR10⟩ := (spe hA.2 hs18_10 (hp 10 (by kernel_rfl)))
          rw [hA.1, hs18_11]
          refine And.intro (fun a ha => (want_none rfl a ha).trans hon.symm) (And.intro (fun _ => ?_) (fun h => by rw [hon] at h; cases h))
          have hF := fr_next (rfl) ((hf 10 33 (by kernel_rfl) rfl).trans hv10)
          refine ls_fr hF ?_
          refine ls_val (v := .int .i64 (bits .and .i64 y29 (15 : Int))) rfl rfl (by kernel_rfl) (fun w => by kernel_rfl) ?_
          exact ls_fin s0 (.int .i64 (bits .and .i64 y29 (15 : Int))) (congrArg (fun z => upd z 34 _) hF.symm) ⟨rfl, rfl⟩ (sub_nil _)
        obtain ⟨y31, hy32, H⟩ := lt_some H
        obtain ⟨s18_12, hs18_12⟩ : ∃ z : Value → Sto → Prop, z = (fun v R => v = .int .i64 y31 ∧ R = s0) := ⟨_, rfl⟩
        refine have_op (l := [_, _, _, _, _, _, _, _, _, _, _, _, _, _, _]) shadowboxlaw09_ExtentSets.tab16 2 12 (fun sp => sp 12 = s18_12 ∧ sp 11 = s18_11) (fun sp on hA hon => ?_) (fun ops18_12 => ?_)
        · refine ⟨fun o ho vs Rs f' S' w hp hf hx hS hR hs => ?_⟩
          obtain rfl := Option.some.inj ho
          obtain ⟨hv11, hR11⟩ := (spe hA.2 hs18_11 (hp 11 (by kernel_rfl)))
          rw [hA.1, hs18_12]
          refine And.intro (fun a ha => (want_none rfl a ha).trans hon.symm) (And.intro (fun _ => ?_) (fun h => by rw [hon] at h; cases h))
          have hF := fr_next (rfl) ((hf 11 34 (by kernel_rfl) rfl).trans hv11)
          refine ls_fr hF ?_
          refine ls_val (v := .int .i64 (IntKind.wrap .i64 ((1 : Int) + (bits .and .i64 y29 (15 : Int))))) rfl rfl (by kernel_rfl) (fun w => by kernel_rfl) ?_
          refine ls_ren 35 (v := .int .i64 (IntKind.wrap .i64 ((1 : Int) + (bits .and .i64 y29 (15 : Int))))) (v' := .int .i64 y31) (by kernel_rfl) (by rw [hy32]) ?_
          exact ls_fin s0 (.int .i64 y31) ((upd_upd _ _ _ _).trans (congrArg (fun z => upd z 35 _) hF.symm)) ⟨rfl, rfl⟩ (sub_nil _)
        obtain ⟨s18_13, hs18_13⟩ : ∃ z : Value → Sto → Prop, z = (fun v R => v = .int .i64 (bits .and .i64 y24 (63 : Int)) ∧ R = s0) := ⟨_, rfl⟩
        refine have_op (l := [_, _, _, _, _, _, _, _, _, _, _, _, _, _, _]) shadowboxlaw09_ExtentSets.tab16 2 13 (fun sp => sp 13 = s18_13 ∧ sp 5 = s18_5) (fun sp on hA hon => ?_) (fun ops18_13 => ?_)
        · refine ⟨fun o ho vs Rs f' S' w hp hf hx hS hR hs => ?_⟩
          obtain rfl := Option.some.inj ho
          obtain ⟨hv5, hR5⟩ := (spe hA.2 hs18_5 (hp 5 (by kernel_rfl)))
          rw [hA.1, hs18_13]
          refine And.intro (fun a ha => (want_none rfl a ha).trans hon.symm) (And.intro (fun _ => ?_) (fun h => by rw [hon] at h; cases h))
          have hF := fr_next (rfl) ((hf 5 28 (by kernel_rfl) rfl).trans hv5)
          refine ls_fr hF ?_
          refine ls_val (v := .int .i64 (bits .and .i64 y24 (63 : Int))) rfl rfl (by kernel_rfl) (fun w => by kernel_rfl) ?_
          exact ls_fin s0 (.int .i64 (bits .and .i64 y24 (63 : Int))) (congrArg (fun z => upd z 6 _) hF.symm) ⟨rfl, rfl⟩ (sub_nil _)
        refine cs_draw shadowboxlaw09_ExtentSets.tab16 14 2 (spl [s18_0, s18_1, s18_2, s18_3, s18_4, s18_5, s18_6, s18_7, s18_8, s18_9, s18_10, s18_11, s18_12, s18_13]) (onl [true, true, true, true, true, true, true, true, true, true, true, true, true, true]) (by kernel_rfl) (by kernel_rfl) (by kernel_rfl) (by kernel_rfl) (rs := [_]) rfl (by kernel_rfl) (by kernel_rfl) (all_snoc (all_snoc (all_snoc (all_snoc (all_snoc (all_snoc (all_snoc (all_snoc (all_snoc (all_snoc (all_snoc (all_snoc (all_snoc (all_snoc (all_nil) (ops18_0 _ _ rfl rfl)) (ops18_1 _ _ rfl rfl)) (ops18_2 _ _ ⟨rfl, rfl, rfl⟩ rfl)) (ops18_3 _ _ ⟨rfl, rfl⟩ rfl)) (ops18_4 _ _ ⟨rfl, rfl⟩ rfl)) (ops18_5 _ _ ⟨rfl, rfl⟩ rfl)) (ops18_6 _ _ rfl rfl)) (ops18_7 _ _ rfl rfl)) (ops18_8 _ _ ⟨rfl, rfl, rfl⟩ rfl)) (ops18_9 _ _ ⟨rfl, rfl⟩ rfl)) (ops18_10 _ _ ⟨rfl, rfl⟩ rfl)) (ops18_11 _ _ ⟨rfl, rfl⟩ rfl)) (ops18_12 _ _ ⟨rfl, rfl⟩ rfl)) (ops18_13 _ _ ⟨rfl, rfl⟩ rfl)) ?_
        intro vs Rs f' S' hp hf hx hS hR
        obtain ⟨hv12, hR12⟩ := (spe rfl hs18_12 (hp 12 (by kernel_rfl)))
        obtain ⟨hv13, hR13⟩ := (spe rfl hs18_13 (hp 13 (by kernel_rfl)))
        refine ls_fr (F := upd (upd (upd (upd (upd (upd (upd (upd f' 0 (.slice A0 l0.length c0)) 3 (.slice A3_3 l3_3.length c3_3)) 4 (.int .u64 x4_3)) 5 (.int .i64 x5_3)) 6 (.int .i64 (bits .and .i64 y24 (63 : Int)))) 18 (.int .i64 x18_4)) 19 (.bool x19_4)) 35 (.int .i64 y31)) (fr_next (fr_next (fr_next (fr_next (fr_next (fr_next (fr_next (fr_next (rfl) ((hx 0 (by kernel_rfl)).trans (by kernel_rfl : (_ : Value) = .slice A0 l0.length c0))) ((hx 3 (by kernel_rfl)).trans (by kernel_rfl : (_ : Value) = .slice A3_3 l3_3.length c3_3))) ((hx 4 (by kernel_rfl)).trans (by kernel_rfl : (_ : Value) = .int .u64 x4_3))) ((hx 5 (by kernel_rfl)).trans (by kernel_rfl : (_ : Value) = .int .i64 x5_3))) ((hf 13 6 (by kernel_rfl) rfl).trans hv13)) ((hx 18 (by kernel_rfl)).trans (by kernel_rfl : (_ : Value) = .int .i64 x18_4))) ((hx 19 (by kernel_rfl)).trans (by kernel_rfl : (_ : Value) = .bool x19_4))) ((hf 12 35 (by kernel_rfl) rfl).trans hv12)) ?_
        refine ls_sub (sput s0 1 (some (Ck.ro T24 A3_3 c3_3 l3_3))) (sub_put ((hS 1 (by kernel_rfl)).trans (by exact rfl)) (sub_nil _)) ?_
        refine ls_val (v := .int .i64 y31) rfl rfl (by kernel_rfl) (fun w => by kernel_rfl) ?_
        refine ls_end ?_
        refine qn_then ?_
        refine cs_seq ?_
        refine cs_region (l := [_, _, _, _, _, _, _, _]) ?_
        refine ls_val (v := .int .i64 (bits .and .i64 y24 (63 : Int))) rfl rfl (by kernel_rfl) (fun w => by kernel_rfl) ?_
        refine ls_val (v := .int .i64 (bits .and .i64 y24 (63 : Int))) rfl rfl (by kernel_rfl) (fun w => by kernel_rfl) ?_
        refine ls_val (v := .int .i64 y31) rfl rfl (by kernel_rfl) (fun w => by kernel_rfl) ?_
        obtain ⟨y33, hy34, H⟩ := lt_some H
        refine ls_val (v := .int .i64 (IntKind.wrap .i64 ((bits .and .i64 y24 (63 : Int)) + y31))) rfl rfl (by kernel_rfl) (fun w => by kernel_rfl) ?_
        refine ls_ren 39 (v := .int .i64 (IntKind.wrap .i64 ((bits .and .i64 y24 (63 : Int)) + y31))) (v' := .int .i64 y33) (by kernel_rfl) (by rw [hy34]) ?_
        obtain ⟨y35, hy36, H⟩ := lt_some H
        refine ls_val (v := .int .i64 (if (64 : Int) < y33 then (64 : Int) else y33)) rfl rfl (by kernel_rfl) (fun w => by kernel_rfl) ?_
        refine ls_ren 40 (v := .int .i64 (if (64 : Int) < y33 then (64 : Int) else y33)) (v' := .int .i64 y35) (by kernel_rfl) (by rw [hy36]) ?_
        refine ls_val (v := .agg ⟨([Value.int .i64 (bits .and .i64 y24 (63 : Int))] ++ [Value.int .i64 y35])⟩) rfl rfl (by kernel_rfl) (fun w => by kernel_rfl) ?_
        refine ls_new rfl rfl (by kernel_rfl) 114 (fun g => .pointer (some ⟨g, 0, none⟩)) (.cells ⟨([Value.int .i64 (0 : Int)] ++ [Value.int .i64 (0 : Int)])⟩ 24) (fun w => by kernel_rfl) ?_
        intro g37
        refine ls_storec (g := g37) (off := 0) (v := .agg ⟨([Value.int .i64 (bits .and .i64 y24 (63 : Int))] ++ [Value.int .i64 y35])⟩) (vs := ([Value.int .i64 (bits .and .i64 y24 (63 : Int))] ++ [Value.int .i64 y35])) (cs := ([Value.int .i64 (0 : Int)] ++ [Value.int .i64 (0 : Int)])) (ty := 24) 114 rfl rfl rfl (by kernel_rfl) (by kernel_rfl) (by kernel_rfl) (by exact rfl) (by kernel_rfl) (len_app (len1 _) (len1 _)) (one_app (one_cons rfl one_nil) (one_cons rfl one_nil)) (hl_of (Sub4.all _) (len_eq (len_app (len1 _) (len1 _)) (len_app (len1 _) (len1 _)))) (cs' := ([Value.int .i64 (bits .and .i64 y24 (63 : Int))] ++ [Value.int .i64 y35])) (splc_all (len_eq (len_app (len1 _) (len1 _)) (len_app (len1 _) (len1 _)))) ?_
        refine ls_end ?_
        refine qn_then ?_
        refine cs_seq ?_
        refine cs_region (l := [_]) ?_
        refine ls_val (v := .int .u64 (0 : Int)) rfl rfl (by kernel_rfl) (fun w => by kernel_rfl) ?_
        refine ls_end ?_
        refine qn_then ?_
        refine cs_cut (fun f S => ∃ (fR : Fr) (x9_5 : Int), f = upd (upd (upd (upd (upd (upd (upd (upd fR 0 (.slice A0 l0.length c0)) 3 (.slice A3_3 l3_3.length c3_3)) 4 (.int .u64 x4_3)) 5 (.int .i64 x5_3)) 8 (.pointer (some ⟨g37, 0, none⟩))) 9 (.int .u64 x9_5)) 18 (.int .i64 x18_4)) 19 (.bool x19_4) ∧ S = sput (sput s0 1 (some (Ck.ro T24 A3_3 c3_3 l3_3))) 114 (some (Ck.var 24 g37 (([Value.int .i64 (bits .and .i64 y24 (63 : Int))] ++ [Value.int .i64 y35])))) ∧ shadowboxlaw09_ExtentSets.jo5 l0 l3_3 x4_3 x5_3 k3 y24 y35 (shadowboxlaw09_ExtentSets.lo3 l0 (shadowboxlaw09_ExtentSets.jo1 k) k3) x9_5 = some r) ?_ ?_
        · skip
          refine cs_seq ?_
          refine cs_region (l := [_, _, _]) ?_
          refine ls_val (v := .pointer (some ⟨g37, (0 + 0), none⟩)) rfl rfl (by kernel_rfl) (fun w => by kernel_rfl) ?_
          refine ls_load (a0 := ⟨g37, (0 + 0), none⟩) (v := .int .i64 (bits .and .i64 y24 (63 : Int))) (de := (TypeDesc.int .i64)) rfl rfl (by kernel_rfl) rfl (by kernel_rfl) (by kernel_rfl) (by kernel_rfl) (fun w hs => (hs.var (k := 114) (by exact rfl) (Sub4.trans (Sub4.all _) (Sub4.head _ _)))) ?_
          refine ls_val (v := .int .i64 (bits .and .i64 y24 (63 : Int))) rfl rfl (by kernel_rfl) (fun w => by kernel_rfl) ?_
          refine ls_end ?_
          refine qn_then ?_
          refine cs_block ?_
          refine cs_sub (sput (sput s0 1 (some (Ck.ro T24 A3_3 c3_3 l3_3))) 114 (some (Ck.var 24 g37 (([Value.int .i64 (bits .and .i64 y24 (63 : Int))] ++ [Value.int .i64 y35]))))) (sub_put (by exact rfl) (sub_put (by exact rfl) (sub_nil _))) ?_
          refine cs_loop (fun kk f S => ∃ (fR : Fr) (x9_6 : Int) (x10_6 : Int), f = upd (upd (upd (upd (upd (upd (upd (upd (upd fR 0 (.slice A0 l0.length c0)) 3 (.slice A3_3 l3_3.length c3_3)) 4 (.int .u64 x4_3)) 5 (.int .i64 x5_3)) 8 (.pointer (some ⟨g37, 0, none⟩))) 9 (.int .u64 x9_6)) 10 (.int .i64 x10_6)) 18 (.int .i64 x18_4)) 19 (.bool x19_4) ∧ S = sput (sput s0 1 (some (Ck.ro T24 A3_3 c3_3 l3_3))) 114 (some (Ck.var 24 g37 (([Value.int .i64 (bits .and .i64 y24 (63 : Int))] ++ [Value.int .i64 y35])))) ∧ shadowboxlaw09_ExtentSets.lo6 y35 (shadowboxlaw09_ExtentSets.jo5 l0 l3_3 x4_3 x5_3 k3 y24 y35 (shadowboxlaw09_ExtentSets.lo3 l0 (shadowboxlaw09_ExtentSets.jo1 k) k3)) kk x9_6 x10_6 = some r) k3 ?_ ?_ ?_
          · exact ⟨_, (0 : Int), (bits .and .i64 y24 (63 : Int)), fr_next (fr_next (fr_next (fr_next (fr_next (fr_next (fr_next (fr_next (fr_next (rfl) (by kernel_rfl)) (by kernel_rfl)) (by kernel_rfl)) (by kernel_rfl)) (by kernel_rfl)) (by kernel_rfl)) (by kernel_rfl)) (by kernel_rfl)) (by kernel_rfl), rfl, H⟩
          · rintro f S ⟨fr6, x9_6, x10_6, rfl, rfl, H⟩; cases H
          · rintro k6 f S ⟨fr6, x9_6, x10_6, rfl, rfl, H⟩
            replace H : ((if x10_6 < y35 then (if 0 ≤ IntKind.wrap .u64 x10_6 then lt (shlv .u64 (1 : Int) (IntKind.wrap .u64 x10_6)) fun y80 => (shadowboxlaw09_ExtentSets.lo6 y35 (shadowboxlaw09_ExtentSets.jo5 l0 l3_3 x4_3 x5_3 k3 y24 y35 (shadowboxlaw09_ExtentSets.lo3 l0 (shadowboxlaw09_ExtentSets.jo1 k) k3)) k6) (bits .or .u64 x9_6 y80) (IntKind.wrap .i64 (x10_6 + (1 : Int))) else none) else (shadowboxlaw09_ExtentSets.jo5 l0 l3_3 x4_3 x5_3 k3 y24 y35 (shadowboxlaw09_ExtentSets.lo3 l0 (shadowboxlaw09_ExtentSets.jo1 k) k3)) x9_6)) = some r := H
            refine cs_seq ?_
            refine cs_seq ?_
            refine cs_region (l := [_, _, _, _]) ?_
            refine ls_val (v := .int .i64 x10_6) rfl rfl (by kernel_rfl) (fun w => by kernel_rfl) ?_
            refine ls_val (v := .pointer (some ⟨g37, (0 + 1), none⟩)) rfl rfl (by kernel_rfl) (fun w => by kernel_rfl) ?_
            refine ls_load (a0 := ⟨g37, (0 + 1), none⟩) (v := .int .i64 y35) (de := (TypeDesc.int .i64)) rfl rfl (by kernel_rfl) rfl (by kernel_rfl) (by kernel_rfl) (by kernel_rfl) (fun w hs => (hs.var (k := 114) (by exact rfl) (Sub4.trans (Sub4.all _) (Sub4.skip (n := 1) (len1 _) (Sub4.all _))))) ?_
            refine ls_val (v := .bool (decide (x10_6 < y35))) rfl rfl (by kernel_rfl) (fun w => by kernel_rfl) ?_
            refine ls_end ?_
            refine qn_then ?_
            by_cases q78 : x10_6 < y35
            · replace H := ite_t q78 H
              refine cs_know (c := true) (dec_t q78) 47 (by kernel_rfl) ?_
              refine cs_true (by kernel_rfl) ?_
              refine cs_skip' ?_
              refine qn_then ?_
              refine cs_seq ?_
              refine cs_block ?_
              refine cs_region (l := [_, _, _, _, _, _]) ?_
              refine ls_val (v := .int .u64 x9_6) rfl rfl (by kernel_rfl) (fun w => by kernel_rfl) ?_
              refine ls_val (v := .int .i64 x10_6) rfl rfl (by kernel_rfl) (fun w => by kernel_rfl) ?_
              refine ls_val (v := .int .u64 (IntKind.wrap .u64 x10_6)) rfl rfl (by kernel_rfl) (fun w => by kernel_rfl) ?_
              obtain ⟨q79, H⟩ := ite_need H
              obtain ⟨y80, hy81, H⟩ := lt_some H
              refine ls_shiftl (k := .u64) (yk := .u64) (x := (1 : Int)) (y := (IntKind.wrap .u64 x10_6)) rfl rfl (by kernel_rfl) (fun w => by kernel_rfl) q79 ?_
              refine ls_ren 53 (v := .int .u64 (shlv .u64 (1 : Int) (IntKind.wrap .u64 x10_6))) (v' := .int .u64 y80) (by kernel_rfl) (by rw [hy81]) ?_
              refine ls_val (v := .int .u64 (bits .or .u64 x9_6 y80)) rfl rfl (by kernel_rfl) (fun w => by kernel_rfl) ?_
              refine ls_val (v := .int .u64 (bits .or .u64 x9_6 y80)) rfl rfl (by kernel_rfl) (fun w => by kernel_rfl) ?_
              refine ls_end ?_
              refine qn_block ?_
              refine qn_then ?_
              refine cs_region (l := [_, _, _]) ?_
              refine ls_val (v := .int .i64 x10_6) rfl rfl (by kernel_rfl) (fun w => by kernel_rfl) ?_
              refine ls_val (v := .int .i64 (IntKind.wrap .i64 (x10_6 + (1 : Int)))) rfl rfl (by kernel_rfl) (fun w => by kernel_rfl) ?_
              refine ls_val (v := .int .i64 (IntKind.wrap .i64 (x10_6 + (1 : Int)))) rfl rfl (by kernel_rfl) (fun w => by kernel_rfl) ?_
              refine ls_end ?_
              refine qn_again k6 (sput (sput s0 1 (some (Ck.ro T24 A3_3 c3_3 l3_3))) 114 (some (Ck.var 24 g37 (([Value.int .i64 (bits .and .i64 y24 (63 : Int))] ++ [Value.int .i64 y35]))))) (Nat.le_refl _) ⟨_, (bits .or .u64 x9_6 y80), (IntKind.wrap .i64 (x10_6 + (1 : Int))), fr_next (fr_next (fr_next (fr_next (fr_next (fr_next (fr_next (fr_next (fr_next (rfl) (by kernel_rfl)) (by kernel_rfl)) (by kernel_rfl)) (by kernel_rfl)) (by kernel_rfl)) (by kernel_rfl)) (by kernel_rfl)) (by kernel_rfl)) (by kernel_rfl), rfl, H⟩ (sub_put (by exact rfl) (sub_put (by exact rfl) (sub_nil _)))
            · replace H := ite_f q78 H
              refine cs_know (c := false) (dec_f q78) 47 (by kernel_rfl) ?_
              refine cs_false (by kernel_rfl) ?_
              refine cs_exit' ?_
              refine qx_then ?_
              refine qx_then ?_
              refine qx_same ?_
              refine qn_meet (sput (sput s0 1 (some (Ck.ro T24 A3_3 c3_3 l3_3))) 114 (some (Ck.var 24 g37 (([Value.int .i64 (bits .and .i64 y24 (63 : Int))] ++ [Value.int .i64 y35]))))) ⟨_, x9_6, fr_next (fr_next (fr_next (fr_next (fr_next (fr_next (fr_next (fr_next (rfl) (by kernel_rfl)) (by kernel_rfl)) (by kernel_rfl)) (by kernel_rfl)) (by kernel_rfl)) (by kernel_rfl)) (by kernel_rfl)) (by kernel_rfl), rfl, H⟩ (sub_put (by exact rfl) (sub_put (by exact rfl) (sub_nil _)))
        · rintro f S ⟨fr5, x9_5, rfl, rfl, H⟩
          replace H : ((if (0 : Int) < (3 : Int) then lt ((((l0).getD (x5_3).toNat (vrep 3 (0 : Int))).1.getD ((0 : Int)).toNat (0 : Int))) fun y41 => (if (bits .and .i64 y41 (1 : Int)) = (0 : Int) then (extent_Add.f k3 l3_3 (bits .and .i64 y24 (63 : Int), y35)).bind fun t44 => (extent_Valid.f k3 t44).bind fun t47 => (if t47 = true then (shadowboxlaw09_set.f k3 t44).bind fun t51 => (if t51 = (bits .or .u64 x4_3 x9_5) then (extent_Meets.f k3 t44 (bits .and .i64 y24 (63 : Int), y35)).bind fun t55 => lt (bits .and .u64 (bits .or .u64 x4_3 x9_5) x9_5) fun y58 => (if (t55 == !decide (y58 = (0 : Int))) = true then (shadowboxlaw09_ExtentSets.lo3 l0 (shadowboxlaw09_ExtentSets.jo1 k) k3) t44 (bits .or .u64 x4_3 x9_5) (IntKind.wrap .i64 (x5_3 + (1 : Int))) else some false) else some false) else some false) else (extent_Remove.f k3 l3_3 (bits .and .i64 y24 (63 : Int), y35)).bind fun t61 => (extent_Valid.f k3 t61).bind fun t64 => (if t64 = true then (shadowboxlaw09_set.f k3 t61).bind fun t68 => (if t68 = (bits .andNot .u64 x4_3 x9_5) then (extent_Meets.f k3 t61 (bits .and .i64 y24 (63 : Int), y35)).bind fun t72 => lt (bits .and .u64 (bits .andNot .u64 x4_3 x9_5) x9_5) fun y75 => (if (t72 == !decide (y75 = (0 : Int))) = true then (shadowboxlaw09_ExtentSets.lo3 l0 (shadowboxlaw09_ExtentSets.jo1 k) k3) t61 (bits .andNot .u64 x4_3 x9_5) (IntKind.wrap .i64 (x5_3 + (1 : Int))) else some false) else some false) else some false)) else none)) = some r := H
          refine cs_seq ?_
          refine cs_seq ?_
          refine cs_region (l := [_, _, _, _, _, _, _]) ?_
          refine ls_val (v := .slice A0 l0.length c0) rfl rfl (by kernel_rfl) (fun w => by kernel_rfl) ?_
          refine ls_val (v := .int .i64 x5_3) rfl rfl (by kernel_rfl) (fun w => by kernel_rfl) ?_
          obtain ⟨ad38, hA39⟩ := ido_at (T := T42) (l := l0) (i := x5_3) R0 q19 q20
          refine ls_idxv T42 (A := A0) (c := c0) (l := l0) (k := .i64) (i := x5_3) (z := 3) (ad := ad38) rfl rfl (by kernel_rfl) hA39 rfl (by kernel_rfl) (by kernel_rfl) (by kernel_rfl) (by kernel_rfl) q19 q20 ?_
          obtain ⟨q40, H⟩ := ite_need H
          refine ls_idxma (ad := ad38) (off := ((x5_3).toNat * 3)) (k := .i64) (i := (0 : Int)) (ln := 3) (e := 3) rfl rfl (by kernel_rfl) rfl (by kernel_rfl) (by kernel_rfl) (by kernel_rfl) (by kernel_rfl) (by decide) q40 ?_
          obtain ⟨y41, hy42, H⟩ := lt_some H
          refine ls_load (a0 := (ad38.add (((x5_3).toNat * 3) + ((0 : Int)).toNat))) (v := .int .i64 (((l0).getD (x5_3).toNat (vrep 3 (0 : Int))).1.getD ((0 : Int)).toNat (0 : Int))) (de := (TypeDesc.int .i64)) rfl rfl (by kernel_rfl) rfl (by kernel_rfl) (by kernel_rfl) (by kernel_rfl) (fun w hs => (hs.old R0).at hA39 (Sub4.trans (em_sub T42 l0 (i := (x5_3).toNat) (by have h0 : (0 : Int) ≤ x5_3 := q19; have h1 : x5_3 < (l0.length : Int) := q20; omega)) (Sub4.one (i := ((0 : Int)).toNat) (Value.int .i64) ((l0).getD (x5_3).toNat (vrep 3 (0 : Int))).1 0 (by have := ((l0).getD (x5_3).toNat (vrep 3 (0 : Int))).2; omega)))) ?_
          refine ls_ren 59 (v := .int .i64 (((l0).getD (x5_3).toNat (vrep 3 (0 : Int))).1.getD ((0 : Int)).toNat (0 : Int))) (v' := .int .i64 y41) (by kernel_rfl) (by rw [hy42]) ?_
          refine ls_val (v := .int .i64 (bits .and .i64 y41 (1 : Int))) rfl rfl (by kernel_rfl) (fun w => by kernel_rfl) ?_
          refine ls_val (v := .bool (decide ((bits .and .i64 y41 (1 : Int)) = (0 : Int)))) rfl rfl (by kernel_rfl) (fun w => by kernel_rfl) ?_
          refine ls_end ?_
          refine qn_then ?_
          by_cases q43 : (bits .and .i64 y41 (1 : Int)) = (0 : Int)
          · replace H := ite_t q43 H
            refine cs_know (c := true) (dec_t q43) 61 (by kernel_rfl) ?_
            refine cs_true (by kernel_rfl) ?_
            refine cs_seq ?_
            refine cs_region (l := [_, _, _, _]) ?_
            refine ls_val (v := .slice A3_3 l3_3.length c3_3) rfl rfl (by kernel_rfl) (fun w => by kernel_rfl) ?_
            refine ls_loadagg (a := ⟨g37, 0, none⟩) (sub := ([Value.int .i64 (bits .and .i64 y24 (63 : Int))] ++ [Value.int .i64 y35])) rfl rfl (by kernel_rfl) rfl (by kernel_rfl) (by kernel_rfl) (by kernel_rfl) (len_app (len1 _) (len1 _)) (fun w hs => (hs.vars (k := 114) (by exact rfl) (Sub4.all _))) ?_
            obtain ⟨t44, hc45, H⟩ := bind_some H
            refine ls_callb (fid := 13) (vals := #[.slice A3_3 l3_3.length c3_3, .agg ⟨([Value.int .i64 (bits .and .i64 y24 (63 : Int))] ++ [Value.int .i64 y35])⟩]) (X := (Option Addr × Nat)) (fun x => .slice x.1 t44.length x.2) (fun x => stl [Ck.sl T24 x.1 x.2 t44]) [] [1] [] [Ck.ro T24 A3_3 c3_3 l3_3] 115 rfl rfl (by kernel_rfl) (fun w => by kernel_rfl) trivial ⟨by exact rfl, trivial⟩ (by decide) (fun w hs hb => extent_Add.calls k3 A3_3 c3_3 l3_3 (bits .and .i64 y24 (63 : Int), y35) t44 (lent b w [] [Ck.ro T24 A3_3 c3_3 l3_3]) hb (hs.roror (k := 1) (by exact rfl) (.head _)) (hs.rocap (k := 1) (by exact rfl)) hc45) ?_
            intro x46
            refine ls_val (v := .slice x46.1 t44.length x46.2) rfl rfl (by kernel_rfl) (fun w => by kernel_rfl) ?_
            refine ls_end ?_
            refine qn_then ?_
            refine cs_region (l := [_, _, _, _]) ?_
            refine ls_val (v := .int .u64 x4_3) rfl rfl (by kernel_rfl) (fun w => by kernel_rfl) ?_
            refine ls_val (v := .int .u64 x9_5) rfl rfl (by kernel_rfl) (fun w => by kernel_rfl) ?_
            refine ls_val (v := .int .u64 (bits .or .u64 x4_3 x9_5)) rfl rfl (by kernel_rfl) (fun w => by kernel_rfl) ?_
            refine ls_val (v := .int .u64 (bits .or .u64 x4_3 x9_5)) rfl rfl (by kernel_rfl) (fun w => by kernel_rfl) ?_
            refine ls_end ?_
            refine qn_then ?_
            refine cs_seq ?_
            refine cs_region (l := [_, _, _, _, _, _, _, _, _, _, _, _, _, _, _, _, _, _, _]) ?_
            refine ls_val (v := .slice x46.1 t44.length x46.2) rfl rfl (by kernel_rfl) (fun w => by kernel_rfl) ?_
            obtain ⟨t47, hc48, H⟩ := bind_some H
            refine ls_callb (fid := 10) (vals := #[.slice x46.1 t44.length x46.2]) (X := Unit) (fun x => .bool t47) (fun x => stl []) [] [115] [] [Ck.sl T24 x46.1 x46.2 t44] 116 rfl rfl (by kernel_rfl) (fun w => by kernel_rfl) trivial ⟨by exact rfl, trivial⟩ (by decide) (fun w hs hb => extent_Valid.calls k3 x46.1 x46.2 t44 t47 (lent b w [] [Ck.sl T24 x46.1 x46.2 t44]) hb (hs.ror (k := 115) (by exact rfl) (.head _)) (hs.cap (k := 115) (by exact rfl)) hc48) ?_
            intro x49
            refine ls_val (v := .bool (!t47)) rfl rfl (by kernel_rfl) (fun w => by kernel_rfl) ?_
            refine ls_val (v := .bool (!t47)) rfl rfl (by kernel_rfl) (fun w => by kernel_rfl) ?_
            by_cases q50 : t47 = true
            · replace H := ite_t q50 H
              refine ls_know (c := false) (congrArg Bool.not (q50)) 77 (by kernel_rfl) ?_
              refine ls_on (j := 3) (t := 77) (b := false) rfl rfl (by kernel_rfl) (by kernel_rfl) ?_
              refine ls_val (v := .slice x46.1 t44.length x46.2) rfl rfl (by kernel_rfl) (fun w => by kernel_rfl) ?_
              refine ls_on (j := 3) (t := 77) (b := false) rfl rfl (by kernel_rfl) (by kernel_rfl) ?_
              obtain ⟨t51, hc52, H⟩ := bind_some H
              refine ls_callb (fid := 26) (vals := #[.slice x46.1 t44.length x46.2]) (X := Unit) (fun x => .int .u64 t51) (fun x => stl []) [] [115] [] [Ck.sl T24 x46.1 x46.2 t44] 116 rfl rfl (by kernel_rfl) (fun w => by kernel_rfl) trivial ⟨by exact rfl, trivial⟩ (by decide) (fun w hs hb => shadowboxlaw09_set.calls k3 x46.1 x46.2 t44 t51 (lent b w [] [Ck.sl T24 x46.1 x46.2 t44]) hb (hs.ror (k := 115) (by exact rfl) (.head _)) (hs.cap (k := 115) (by exact rfl)) hc52) ?_
              intro x53
              refine ls_on (j := 3) (t := 77) (b := false) rfl rfl (by kernel_rfl) (by kernel_rfl) ?_
              refine ls_val (v := .int .u64 (bits .or .u64 x4_3 x9_5)) rfl rfl (by kernel_rfl) (fun w => by kernel_rfl) ?_
              refine ls_on (j := 3) (t := 77) (b := false) rfl rfl (by kernel_rfl) (by kernel_rfl) ?_
              refine ls_val (v := .bool (!decide (t51 = (bits .or .u64 x4_3 x9_5)))) rfl rfl (by kernel_rfl) (fun w => by kernel_rfl) ?_
              refine ls_val (v := .bool (!decide (t51 = (bits .or .u64 x4_3 x9_5)))) rfl rfl (by kernel_rfl) (fun w => by kernel_rfl) ?_
              refine ls_val (v := .bool (!decide (t51 = (bits .or .u64 x4_3 x9_5)))) rfl rfl (by kernel_rfl) (fun w => by kernel_rfl) ?_
              by_cases q54 : t51 = (bits .or .u64 x4_3 x9_5)
              · replace H := ite_t q54 H
                refine ls_know (c := false) (congrArg Bool.not (dec_t q54)) 83 (by kernel_rfl) ?_
                refine ls_on (j := 9) (t := 83) (b := false) rfl rfl (by kernel_rfl) (by kernel_rfl) ?_
                refine ls_val (v := .slice x46.1 t44.length x46.2) rfl rfl (by kernel_rfl) (fun w => by kernel_rfl) ?_
                refine ls_on (j := 9) (t := 83) (b := false) rfl rfl (by kernel_rfl) (by kernel_rfl) ?_
                refine ls_loadagg (a := ⟨g37, 0, none⟩) (sub := ([Value.int .i64 (bits .and .i64 y24 (63 : Int))] ++ [Value.int .i64 y35])) rfl rfl (by kernel_rfl) rfl (by kernel_rfl) (by kernel_rfl) (by kernel_rfl) (len_app (len1 _) (len1 _)) (fun w hs => (hs.vars (k := 114) (by exact rfl) (Sub4.all _))) ?_
                refine ls_on (j := 9) (t := 83) (b := false) rfl rfl (by kernel_rfl) (by kernel_rfl) ?_
                obtain ⟨t55, hc56, H⟩ := bind_some H
                refine ls_callb (fid := 11) (vals := #[.slice x46.1 t44.length x46.2, .agg ⟨([Value.int .i64 (bits .and .i64 y24 (63 : Int))] ++ [Value.int .i64 y35])⟩]) (X := Unit) (fun x => .bool t55) (fun x => stl []) [] [115] [] [Ck.sl T24 x46.1 x46.2 t44] 116 rfl rfl (by kernel_rfl) (fun w => by kernel_rfl) trivial ⟨by exact rfl, trivial⟩ (by decide) (fun w hs hb => extent_Meets.calls k3 x46.1 x46.2 t44 (bits .and .i64 y24 (63 : Int), y35) t55 (lent b w [] [Ck.sl T24 x46.1 x46.2 t44]) hb (hs.ror (k := 115) (by exact rfl) (.head _)) (hs.cap (k := 115) (by exact rfl)) hc56) ?_
                intro x57
                refine ls_on (j := 9) (t := 83) (b := false) rfl rfl (by kernel_rfl) (by kernel_rfl) ?_
                refine ls_val (v := .int .u64 (bits .or .u64 x4_3 x9_5)) rfl rfl (by kernel_rfl) (fun w => by kernel_rfl) ?_
                refine ls_on (j := 9) (t := 83) (b := false) rfl rfl (by kernel_rfl) (by kernel_rfl) ?_
                refine ls_val (v := .int .u64 x9_5) rfl rfl (by kernel_rfl) (fun w => by kernel_rfl) ?_
                refine ls_on (j := 9) (t := 83) (b := false) rfl rfl (by kernel_rfl) (by kernel_rfl) ?_
                obtain ⟨y58, hy59, H⟩ := lt_some H
                refine ls_val (v := .int .u64 (bits .and .u64 (bits .or .u64 x4_3 x9_5) x9_5)) rfl rfl (by kernel_rfl) (fun w => by kernel_rfl) ?_
                refine ls_ren 89 (v := .int .u64 (bits .and .u64 (bits .or .u64 x4_3 x9_5) x9_5)) (v' := .int .u64 y58) (by kernel_rfl) (by rw [hy59]) ?_
                refine ls_on (j := 9) (t := 83) (b := false) rfl rfl (by kernel_rfl) (by kernel_rfl) ?_
                refine ls_val (v := .bool (!decide (y58 = (0 : Int)))) rfl rfl (by kernel_rfl) (fun w => by kernel_rfl) ?_
                refine ls_on (j := 9) (t := 83) (b := false) rfl rfl (by kernel_rfl) (by kernel_rfl) ?_
                refine ls_val (v := .bool (!(t55 == !decide (y58 = (0 : Int))))) rfl rfl (by kernel_rfl) (fun w => by kernel_rfl) ?_
                refine ls_val (v := .bool (!(t55 == !decide (y58 = (0 : Int))))) rfl rfl (by kernel_rfl) (fun w => by kernel_rfl) ?_
                refine ls_end ?_
                refine qn_then ?_
                by_cases q60 : (t55 == !decide (y58 = (0 : Int))) = true
                · replace H := ite_t q60 H
                  refine cs_know (c := false) (congrArg Bool.not (q60)) 92 (by kernel_rfl) ?_
                  refine cs_false (by kernel_rfl) ?_
                  refine cs_skip' ?_
                  refine qn_block ?_
                  refine qn_then ?_
                  refine cs_region (l := [_, _, _]) ?_
                  refine ls_val (v := .int .i64 x5_3) rfl rfl (by kernel_rfl) (fun w => by kernel_rfl) ?_
                  refine ls_val (v := .int .i64 (IntKind.wrap .i64 (x5_3 + (1 : Int)))) rfl rfl (by kernel_rfl) (fun w => by kernel_rfl) ?_
                  refine ls_val (v := .int .i64 (IntKind.wrap .i64 (x5_3 + (1 : Int)))) rfl rfl (by kernel_rfl) (fun w => by kernel_rfl) ?_
                  refine ls_end ?_
                  refine qn_toro (T := T24) (A := x46.1) (c := x46.2) (l := t44) 115 1 (by exact rfl) ?_
                  refine qn_again k3 (sput s0 1 (some (Ck.ro T24 x46.1 x46.2 t44))) (Nat.le_refl _) ⟨_, x46.1, x46.2, t44, (bits .or .u64 x4_3 x9_5), (IntKind.wrap .i64 (x5_3 + (1 : Int))), fr_next (fr_next (fr_next (fr_next (rfl) (by kernel_rfl)) (by kernel_rfl)) (by kernel_rfl)) (by kernel_rfl), rfl, H⟩ (sub_put (by exact rfl) (sub_nil _))
                · replace H := ite_f q60 H
                  refine cs_know (c := true) (congrArg Bool.not (Bool.eq_false_iff.mpr q60)) 92 (by kernel_rfl) ?_
                  refine cs_true (by kernel_rfl) ?_
                  refine cs_seq ?_
                  refine cs_region (l := [_]) ?_
                  refine ls_val (v := .bool false) rfl rfl (by kernel_rfl) (fun w => by kernel_rfl) ?_
                  refine ls_end ?_
                  refine qn_then ?_
                  refine cs_ret' ?_
                  refine qr_block ?_
                  refine qr_then ?_
                  refine qr_then ?_
                  refine qr_block ?_
                  refine qr_then ?_
                  obtain rfl := Option.some.inj H
                  refine qr_res (rs := [_]) rfl (fun w' hs => ⟨[.bool false], (res_tmp (by kernel_rfl) (.nil)), (), rfl, hs.pick (ts := []) (cs := []) trivial (by decide)⟩)
              · replace H := ite_f q54 H
                refine ls_know (c := true) (congrArg Bool.not (dec_f q54)) 83 (by kernel_rfl) ?_
                refine ls_off (j := 9) (t := 83) (b := false) (c := true) rfl rfl (by kernel_rfl) (by kernel_rfl) rfl rfl (by kernel_rfl) ?_
                refine ls_off (j := 9) (t := 83) (b := false) (c := true) rfl rfl (by kernel_rfl) (by kernel_rfl) rfl rfl (by kernel_rfl) ?_
                refine ls_off (j := 9) (t := 83) (b := false) (c := true) rfl rfl (by kernel_rfl) (by kernel_rfl) rfl rfl (by kernel_rfl) ?_
                refine ls_off (j := 9) (t := 83) (b := false) (c := true) rfl rfl (by kernel_rfl) (by kernel_rfl) rfl rfl (by kernel_rfl) ?_
                refine ls_off (j := 9) (t := 83) (b := false) (c := true) rfl rfl (by kernel_rfl) (by kernel_rfl) rfl rfl (by kernel_rfl) ?_
                refine ls_off (j := 9) (t := 83) (b := false) (c := true) rfl rfl (by kernel_rfl) (by kernel_rfl) rfl rfl (by kernel_rfl) ?_
                refine ls_off (j := 9) (t := 83) (b := false) (c := true) rfl rfl (by kernel_rfl) (by kernel_rfl) rfl rfl (by kernel_rfl) ?_
                refine ls_off (j := 9) (t := 83) (b := false) (c := true) rfl rfl (by kernel_rfl) (by kernel_rfl) rfl rfl (by kernel_rfl) ?_
                refine ls_val (v := .bool true) rfl rfl (by kernel_rfl) (fun w => by kernel_rfl) ?_
                refine ls_end ?_
                refine qn_then ?_
                refine cs_true (by kernel_rfl) ?_
                refine cs_seq ?_
                refine cs_region (l := [_]) ?_
                refine ls_val (v := .bool false) rfl rfl (by kernel_rfl) (fun w => by kernel_rfl) ?_
                refine ls_end ?_
                refine qn_then ?_
                refine cs_ret' ?_
                refine qr_block ?_
                refine qr_then ?_
                refine qr_then ?_
                refine qr_block ?_
                refine qr_then ?_
                obtain rfl := Option.some.inj H
                refine qr_res (rs := [_]) rfl (fun w' hs => ⟨[.bool false], (res_tmp (by kernel_rfl) (.nil)), (), rfl, hs.pick (ts := []) (cs := []) trivial (by decide)⟩)
            · replace H := ite_f q50 H
              refine ls_know (c := true) (congrArg Bool.not (Bool.eq_false_iff.mpr q50)) 77 (by kernel_rfl) ?_
              refine ls_off (j := 3) (t := 77) (b := false) (c := true) rfl rfl (by kernel_rfl) (by kernel_rfl) rfl rfl (by kernel_rfl) ?_
              refine ls_off (j := 3) (t := 77) (b := false) (c := true) rfl rfl (by kernel_rfl) (by kernel_rfl) rfl rfl (by kernel_rfl) ?_
              refine ls_off (j := 3) (t := 77) (b := false) (c := true) rfl rfl (by kernel_rfl) (by kernel_rfl) rfl rfl (by kernel_rfl) ?_
              refine ls_off (j := 3) (t := 77) (b := false) (c := true) rfl rfl (by kernel_rfl) (by kernel_rfl) rfl rfl (by kernel_rfl) ?_
              refine ls_val (v := .bool true) rfl rfl (by kernel_rfl) (fun w => by kernel_rfl) ?_
              refine ls_val (v := .bool true) rfl rfl (by kernel_rfl) (fun w => by kernel_rfl) ?_
              refine ls_off (j := 9) (t := 83) (b := false) (c := true) rfl rfl (by kernel_rfl) (by kernel_rfl) rfl rfl (by kernel_rfl) ?_
              refine ls_off (j := 9) (t := 83) (b := false) (c := true) rfl rfl (by kernel_rfl) (by kernel_rfl) rfl rfl (by kernel_rfl) ?_
              refine ls_off (j := 9) (t := 83) (b := false) (c := true) rfl rfl (by kernel_rfl) (by kernel_rfl) rfl rfl (by kernel_rfl) ?_
              refine ls_off (j := 9) (t := 83) (b := false) (c := true) rfl rfl (by kernel_rfl) (by kernel_rfl) rfl rfl (by kernel_rfl) ?_
              refine ls_off (j := 9) (t := 83) (b := false) (c := true) rfl rfl (by kernel_rfl) (by kernel_rfl) rfl rfl (by kernel_rfl) ?_
              refine ls_off (j := 9) (t := 83) (b := false) (c := true) rfl rfl (by kernel_rfl) (by kernel_rfl) rfl rfl (by kernel_rfl) ?_
              refine ls_off (j := 9) (t := 83) (b := false) (c := true) rfl rfl (by kernel_rfl) (by kernel_rfl) rfl rfl (by kernel_rfl) ?_
              refine ls_off (j := 9) (t := 83) (b := false) (c := true) rfl rfl (by kernel_rfl) (by kernel_rfl) rfl rfl (by kernel_rfl) ?_
              refine ls_val (v := .bool true) rfl rfl (by kernel_rfl) (fun w => by kernel_rfl) ?_
              refine ls_end ?_
              refine qn_then ?_
              refine cs_true (by kernel_rfl) ?_
              refine cs_seq ?_
              refine cs_region (l := [_]) ?_
              refine ls_val (v := .bool false) rfl rfl (by kernel_rfl) (fun w => by kernel_rfl) ?_
              refine ls_end ?_
              refine qn_then ?_
              refine cs_ret' ?_
              refine qr_block ?_
              refine qr_then ?_
              refine qr_then ?_
              refine qr_block ?_
              refine qr_then ?_
              obtain rfl := Option.some.inj H
              refine qr_res (rs := [_]) rfl (fun w' hs => ⟨[.bool false], (res_tmp (by kernel_rfl) (.nil)), (), rfl, hs.pick (ts := []) (cs := []) trivial (by decide)⟩)
          · replace H := ite_f q43 H
            refine cs_know (c := false) (dec_f q43) 61 (by kernel_rfl) ?_
            refine cs_false (by kernel_rfl) ?_
            refine cs_seq ?_
            refine cs_region (l := [_, _, _, _]) ?_
            refine ls_val (v := .slice A3_3 l3_3.length c3_3) rfl rfl (by kernel_rfl) (fun w => by kernel_rfl) ?_
            refine ls_loadagg (a := ⟨g37, 0, none⟩) (sub := ([Value.int .i64 (bits .and .i64 y24 (63 : Int))] ++ [Value.int .i64 y35])) rfl rfl (by kernel_rfl) rfl (by kernel_rfl) (by kernel_rfl) (by kernel_rfl) (len_app (len1 _) (len1 _)) (fun w hs => (hs.vars (k := 114) (by exact rfl) (Sub4.all _))) ?_
            obtain ⟨t61, hc62, H⟩ := bind_some H
            refine ls_callb (fid := 15) (vals := #[.slice A3_3 l3_3.length c3_3, .agg ⟨([Value.int .i64 (bits .and .i64 y24 (63 : Int))] ++ [Value.int .i64 y35])⟩]) (X := (Option Addr × Nat)) (fun x => .slice x.1 t61.length x.2) (fun x => stl [Ck.sl T24 x.1 x.2 t61]) [] [1] [] [Ck.ro T24 A3_3 c3_3 l3_3] 115 rfl rfl (by kernel_rfl) (fun w => by kernel_rfl) trivial ⟨by exact rfl, trivial⟩ (by decide) (fun w hs hb => extent_Remove.calls k3 A3_3 c3_3 l3_3 (bits .and .i64 y24 (63 : Int), y35) t61 (lent b w [] [Ck.ro T24 A3_3 c3_3 l3_3]) hb (hs.roror (k := 1) (by exact rfl) (.head _)) (hs.rocap (k := 1) (by exact rfl)) hc62) ?_
            intro x63
            refine ls_val (v := .slice x63.1 t61.length x63.2) rfl rfl (by kernel_rfl) (fun w => by kernel_rfl) ?_
            refine ls_end ?_
            refine qn_then ?_
            refine cs_region (l := [_, _, _, _]) ?_
            refine ls_val (v := .int .u64 x4_3) rfl rfl (by kernel_rfl) (fun w => by kernel_rfl) ?_
            refine ls_val (v := .int .u64 x9_5) rfl rfl (by kernel_rfl) (fun w => by kernel_rfl) ?_
            refine ls_val (v := .int .u64 (bits .andNot .u64 x4_3 x9_5)) rfl rfl (by kernel_rfl) (fun w => by kernel_rfl) ?_
            refine ls_val (v := .int .u64 (bits .andNot .u64 x4_3 x9_5)) rfl rfl (by kernel_rfl) (fun w => by kernel_rfl) ?_
            refine ls_end ?_
            refine qn_then ?_
            refine cs_seq ?_
            refine cs_region (l := [_, _, _, _, _, _, _, _, _, _, _, _, _, _, _, _, _, _, _]) ?_
            refine ls_val (v := .slice x63.1 t61.length x63.2) rfl rfl (by kernel_rfl) (fun w => by kernel_rfl) ?_
            obtain ⟨t64, hc65, H⟩ := bind_some H
            refine ls_callb (fid := 10) (vals := #[.slice x63.1 t61.length x63.2]) (X := Unit) (fun x => .bool t64) (fun x => stl []) [] [115] [] [Ck.sl T24 x63.1 x63.2 t61] 116 rfl rfl (by kernel_rfl) (fun w => by kernel_rfl) trivial ⟨by exact rfl, trivial⟩ (by decide) (fun w hs hb => extent_Valid.calls k3 x63.1 x63.2 t61 t64 (lent b w [] [Ck.sl T24 x63.1 x63.2 t61]) hb (hs.ror (k := 115) (by exact rfl) (.head _)) (hs.cap (k := 115) (by exact rfl)) hc65) ?_
            intro x66
            refine ls_val (v := .bool (!t64)) rfl rfl (by kernel_rfl) (fun w => by kernel_rfl) ?_
            refine ls_val (v := .bool (!t64)) rfl rfl (by kernel_rfl) (fun w => by kernel_rfl) ?_
            by_cases q67 : t64 = true
            · replace H := ite_t q67 H
              refine ls_know (c := false) (congrArg Bool.not (q67)) 77 (by kernel_rfl) ?_
              refine ls_on (j := 3) (t := 77) (b := false) rfl rfl (by kernel_rfl) (by kernel_rfl) ?_
              refine ls_val (v := .slice x63.1 t61.length x63.2) rfl rfl (by kernel_rfl) (fun w => by kernel_rfl) ?_
              refine ls_on (j := 3) (t := 77) (b := false) rfl rfl (by kernel_rfl) (by kernel_rfl) ?_
              obtain ⟨t68, hc69, H⟩ := bind_some H
              refine ls_callb (fid := 26) (vals := #[.slice x63.1 t61.length x63.2]) (X := Unit) (fun x => .int .u64 t68) (fun x => stl []) [] [115] [] [Ck.sl T24 x63.1 x63.2 t61] 116 rfl rfl (by kernel_rfl) (fun w => by kernel_rfl) trivial ⟨by exact rfl, trivial⟩ (by decide) (fun w hs hb => shadowboxlaw09_set.calls k3 x63.1 x63.2 t61 t68 (lent b w [] [Ck.sl T24 x63.1 x63.2 t61]) hb (hs.ror (k := 115) (by exact rfl) (.head _)) (hs.cap (k := 115) (by exact rfl)) hc69) ?_
              intro x70
              refine ls_on (j := 3) (t := 77) (b := false) rfl rfl (by kernel_rfl) (by kernel_rfl) ?_
              refine ls_val (v := .int .u64 (bits .andNot .u64 x4_3 x9_5)) rfl rfl (by kernel_rfl) (fun w => by kernel_rfl) ?_
              refine ls_on (j := 3) (t := 77) (b := false) rfl rfl (by kernel_rfl) (by kernel_rfl) ?_
              refine ls_val (v := .bool (!decide (t68 = (bits .andNot .u64 x4_3 x9_5)))) rfl rfl (by kernel_rfl) (fun w => by kernel_rfl) ?_
              refine ls_val (v := .bool (!decide (t68 = (bits .andNot .u64 x4_3 x9_5)))) rfl rfl (by kernel_rfl) (fun w => by kernel_rfl) ?_
              refine ls_val (v := .bool (!decide (t68 = (bits .andNot .u64 x4_3 x9_5)))) rfl rfl (by kernel_rfl) (fun w => by kernel_rfl) ?_
              by_cases q71 : t68 = (bits .andNot .u64 x4_3 x9_5)
              · replace H := ite_t q71 H
                refine ls_know (c := false) (congrArg Bool.not (dec_t q71)) 83 (by kernel_rfl) ?_
                refine ls_on (j := 9) (t := 83) (b := false) rfl rfl (by kernel_rfl) (by kernel_rfl) ?_
                refine ls_val (v := .slice x63.1 t61.length x63.2) rfl rfl (by kernel_rfl) (fun w => by kernel_rfl) ?_
                refine ls_on (j := 9) (t := 83) (b := false) rfl rfl (by kernel_rfl) (by kernel_rfl) ?_
                refine ls_loadagg (a := ⟨g37, 0, none⟩) (sub := ([Value.int .i64 (bits .and .i64 y24 (63 : Int))] ++ [Value.int .i64 y35])) rfl rfl (by kernel_rfl) rfl (by kernel_rfl) (by kernel_rfl) (by kernel_rfl) (len_app (len1 _) (len1 _)) (fun w hs => (hs.vars (k := 114) (by exact rfl) (Sub4.all _))) ?_
                refine ls_on (j := 9) (t := 83) (b := false) rfl rfl (by kernel_rfl) (by kernel_rfl) ?_
                obtain ⟨t72, hc73, H⟩ := bind_some H
                refine ls_callb (fid := 11) (vals := #[.slice x63.1 t61.length x63.2, .agg ⟨([Value.int .i64 (bits .and .i64 y24 (63 : Int))] ++ [Value.int .i64 y35])⟩]) (X := Unit) (fun x => .bool t72) (fun x => stl []) [] [115] [] [Ck.sl T24 x63.1 x63.2 t61] 116 rfl rfl (by kernel_rfl) (fun w => by kernel_rfl) trivial ⟨by exact rfl, trivial⟩ (by decide) (fun w hs hb => extent_Meets.calls k3 x63.1 x63.2 t61 (bits .and .i64 y24 (63 : Int), y35) t72 (lent b w [] [Ck.sl T24 x63.1 x63.2 t61]) hb (hs.ror (k := 115) (by exact rfl) (.head _)) (hs.cap (k := 115) (by exact rfl)) hc73) ?_
                intro x74
                refine ls_on (j := 9) (t := 83) (b := false) rfl rfl (by kernel_rfl) (by kernel_rfl) ?_
                refine ls_val (v := .int .u64 (bits .andNot .u64 x4_3 x9_5)) rfl rfl (by kernel_rfl) (fun w => by kernel_rfl) ?_
                refine ls_on (j := 9) (t := 83) (b := false) rfl rfl (by kernel_rfl) (by kernel_rfl) ?_
                refine ls_val (v := .int .u64 x9_5) rfl rfl (by kernel_rfl) (fun w => by kernel_rfl) ?_
                refine ls_on (j := 9) (t := 83) (b := false) rfl rfl (by kernel_rfl) (by kernel_rfl) ?_
                obtain ⟨y75, hy76, H⟩ := lt_some H
                refine ls_val (v := .int .u64 (bits .and .u64 (bits .andNot .u64 x4_3 x9_5) x9_5)) rfl rfl (by kernel_rfl) (fun w => by kernel_rfl) ?_
                refine ls_ren 89 (v := .int .u64 (bits .and .u64 (bits .andNot .u64 x4_3 x9_5) x9_5)) (v' := .int .u64 y75) (by kernel_rfl) (by rw [hy76]) ?_
                refine ls_on (j := 9) (t := 83) (b := false) rfl rfl (by kernel_rfl) (by kernel_rfl) ?_
                refine ls_val (v := .bool (!decide (y75 = (0 : Int)))) rfl rfl (by kernel_rfl) (fun w => by kernel_rfl) ?_
                refine ls_on (j := 9) (t := 83) (b := false) rfl rfl (by kernel_rfl) (by kernel_rfl) ?_
                refine ls_val (v := .bool (!(t72 == !decide (y75 = (0 : Int))))) rfl rfl (by kernel_rfl) (fun w => by kernel_rfl) ?_
                refine ls_val (v := .bool (!(t72 == !decide (y75 = (0 : Int))))) rfl rfl (by kernel_rfl) (fun w => by kernel_rfl) ?_
                refine ls_end ?_
                refine qn_then ?_
                by_cases q77 : (t72 == !decide (y75 = (0 : Int))) = true
                · replace H := ite_t q77 H
                  refine cs_know (c := false) (congrArg Bool.not (q77)) 92 (by kernel_rfl) ?_
                  refine cs_false (by kernel_rfl) ?_
                  refine cs_skip' ?_
                  refine qn_block ?_
                  refine qn_then ?_
                  refine cs_region (l := [_, _, _]) ?_
                  refine ls_val (v := .int .i64 x5_3) rfl rfl (by kernel_rfl) (fun w => by kernel_rfl) ?_
                  refine ls_val (v := .int .i64 (IntKind.wrap .i64 (x5_3 + (1 : Int)))) rfl rfl (by kernel_rfl) (fun w => by kernel_rfl) ?_
                  refine ls_val (v := .int .i64 (IntKind.wrap .i64 (x5_3 + (1 : Int)))) rfl rfl (by kernel_rfl) (fun w => by kernel_rfl) ?_
                  refine ls_end ?_
                  refine qn_toro (T := T24) (A := x63.1) (c := x63.2) (l := t61) 115 1 (by exact rfl) ?_
                  refine qn_again k3 (sput s0 1 (some (Ck.ro T24 x63.1 x63.2 t61))) (Nat.le_refl _) ⟨_, x63.1, x63.2, t61, (bits .andNot .u64 x4_3 x9_5), (IntKind.wrap .i64 (x5_3 + (1 : Int))), fr_next (fr_next (fr_next (fr_next (rfl) (by kernel_rfl)) (by kernel_rfl)) (by kernel_rfl)) (by kernel_rfl), rfl, H⟩ (sub_put (by exact rfl) (sub_nil _))
                · replace H := ite_f q77 H
                  refine cs_know (c := true) (congrArg Bool.not (Bool.eq_false_iff.mpr q77)) 92 (by kernel_rfl) ?_
                  refine cs_true (by kernel_rfl) ?_
                  refine cs_seq ?_
                  refine cs_region (l := [_]) ?_
                  refine ls_val (v := .bool false) rfl rfl (by kernel_rfl) (fun w => by kernel_rfl) ?_
                  refine ls_end ?_
                  refine qn_then ?_
                  refine cs_ret' ?_
                  refine qr_block ?_
                  refine qr_then ?_
                  refine qr_then ?_
                  refine qr_block ?_
                  refine qr_then ?_
                  obtain rfl := Option.some.inj H
                  refine qr_res (rs := [_]) rfl (fun w' hs => ⟨[.bool false], (res_tmp (by kernel_rfl) (.nil)), (), rfl, hs.pick (ts := []) (cs := []) trivial (by decide)⟩)
              · replace H := ite_f q71 H
                refine ls_know (c := true) (congrArg Bool.not (dec_f q71)) 83 (by kernel_rfl) ?_
                refine ls_off (j := 9) (t := 83) (b := false) (c := true) rfl rfl (by kernel_rfl) (by kernel_rfl) rfl rfl (by kernel_rfl) ?_
                refine ls_off (j := 9) (t := 83) (b := false) (c := true) rfl rfl (by kernel_rfl) (by kernel_rfl) rfl rfl (by kernel_rfl) ?_
                refine ls_off (j := 9) (t := 83) (b := false) (c := true) rfl rfl (by kernel_rfl) (by kernel_rfl) rfl rfl (by kernel_rfl) ?_
                refine ls_off (j := 9) (t := 83) (b := false) (c := true) rfl rfl (by kernel_rfl) (by kernel_rfl) rfl rfl (by kernel_rfl) ?_
                refine ls_off (j := 9) (t := 83) (b := false) (c := true) rfl rfl (by kernel_rfl) (by kernel_rfl) rfl rfl (by kernel_rfl) ?_
                refine ls_off (j := 9) (t := 83) (b := false) (c := true) rfl rfl (by kernel_rfl) (by kernel_rfl) rfl rfl (by kernel_rfl) ?_
                refine ls_off (j := 9) (t := 83) (b := false) (c := true) rfl rfl (by kernel_rfl) (by kernel_rfl) rfl rfl (by kernel_rfl) ?_
                refine ls_off (j := 9) (t := 83) (b := false) (c := true) rfl rfl (by kernel_rfl) (by kernel_rfl) rfl rfl (by kernel_rfl) ?_
                refine ls_val (v := .bool true) rfl rfl (by kernel_rfl) (fun w => by kernel_rfl) ?_
                refine ls_end ?_
                refine qn_then ?_
                refine cs_true (by kernel_rfl) ?_
                refine cs_seq ?_
                refine cs_region (l := [_]) ?_
                refine ls_val (v := .bool false) rfl rfl (by kernel_rfl) (fun w => by kernel_rfl) ?_
                refine ls_end ?_
                refine qn_then ?_
                refine cs_ret' ?_
                refine qr_block ?_
                refine qr_then ?_
                refine qr_then ?_
                refine qr_block ?_
                refine qr_then ?_
                obtain rfl := Option.some.inj H
                refine qr_res (rs := [_]) rfl (fun w' hs => ⟨[.bool false], (res_tmp (by kernel_rfl) (.nil)), (), rfl, hs.pick (ts := []) (cs := []) trivial (by decide)⟩)
            · replace H := ite_f q67 H
              refine ls_know (c := true) (congrArg Bool.not (Bool.eq_false_iff.mpr q67)) 77 (by kernel_rfl) ?_
              refine ls_off (j := 3) (t := 77) (b := false) (c := true) rfl rfl (by kernel_rfl) (by kernel_rfl) rfl rfl (by kernel_rfl) ?_
              refine ls_off (j := 3) (t := 77) (b := false) (c := true) rfl rfl (by kernel_rfl) (by kernel_rfl) rfl rfl (by kernel_rfl) ?_
              refine ls_off (j := 3) (t := 77) (b := false) (c := true) rfl rfl (by kernel_rfl) (by kernel_rfl) rfl rfl (by kernel_rfl) ?_
              refine ls_off (j := 3) (t := 77) (b := false) (c := true) rfl rfl (by kernel_rfl) (by kernel_rfl) rfl rfl (by kernel_rfl) ?_
              refine ls_val (v := .bool true) rfl rfl (by kernel_rfl) (fun w => by kernel_rfl) ?_
              refine ls_val (v := .bool true) rfl rfl (by kernel_rfl) (fun w => by kernel_rfl) ?_
              refine ls_off (j := 9) (t := 83) (b := false) (c := true) rfl rfl (by kernel_rfl) (by kernel_rfl) rfl rfl (by kernel_rfl) ?_
              refine ls_off (j := 9) (t := 83) (b := false) (c := true) rfl rfl (by kernel_rfl) (by kernel_rfl) rfl rfl (by kernel_rfl) ?_
              refine ls_off (j := 9) (t := 83) (b := false) (c := true) rfl rfl (by kernel_rfl) (by kernel_rfl) rfl rfl (by kernel_rfl) ?_
              refine ls_off (j := 9) (t := 83) (b := false) (c := true) rfl rfl (by kernel_rfl) (by kernel_rfl) rfl rfl (by kernel_rfl) ?_
              refine ls_off (j := 9) (t := 83) (b := false) (c := true) rfl rfl (by kernel_rfl) (by kernel_rfl) rfl rfl (by kernel_rfl) ?_
              refine ls_off (j := 9) (t := 83) (b := false) (c := true) rfl rfl (by kernel_rfl) (by kernel_rfl) rfl rfl (by kernel_rfl) ?_
              refine ls_off (j := 9) (t := 83) (b := false) (c := true) rfl rfl (by kernel_rfl) (by kernel_rfl) rfl rfl (by kernel_rfl) ?_
              refine ls_off (j := 9) (t := 83) (b := false) (c := true) rfl rfl (by kernel_rfl) (by kernel_rfl) rfl rfl (by kernel_rfl) ?_
              refine ls_val (v := .bool true) rfl rfl (by kernel_rfl) (fun w => by kernel_rfl) ?_
              refine ls_end ?_
              refine qn_then ?_
              refine cs_true (by kernel_rfl) ?_
              refine cs_seq ?_
              refine cs_region (l := [_]) ?_
              refine ls_val (v := .bool false) rfl rfl (by kernel_rfl) (fun w => by kernel_rfl) ?_
              refine ls_end ?_
              refine qn_then ?_
              refine cs_ret' ?_
              refine qr_block ?_
              refine qr_then ?_
              refine qr_then ?_
              refine qr_block ?_
              refine qr_then ?_
              obtain rfl := Option.some.inj H
              refine qr_res (rs := [_]) rfl (fun w' hs => ⟨[.bool false], (res_tmp (by kernel_rfl) (.nil)), (), rfl, hs.pick (ts := []) (cs := []) trivial (by decide)⟩)
  · rintro f S ⟨fr1, A3_1, c3_1, l3_1, x4_1, rfl, rfl, H⟩
    replace H : (shadowboxlaw09_ExtentSets.lo2 l3_1 x4_1 k (0 : Int) (0 : Int)) = some r := H
    refine cs_seq ?_
    refine cs_region (l := [_]) ?_
    refine ls_val (v := .int .i64 (0 : Int)) rfl rfl (by kernel_rfl) (fun w => by kernel_rfl) ?_
    refine ls_end ?_
    refine qn_then ?_
    refine cs_seq ?_
    refine cs_seq ?_
    refine cs_region (l := [_]) ?_
    refine ls_val (v := .int .i64 (0 : Int)) rfl rfl (by kernel_rfl) (fun w => by kernel_rfl) ?_
    refine ls_end ?_
    refine qn_then ?_
    refine cs_block ?_
    refine cs_sub (sput s0 0 (some (Ck.ro T24 A3_1 c3_1 l3_1))) (sub_put (by exact rfl) (sub_nil _)) ?_
    refine cs_loop (fun kk f S => ∃ (fR : Fr) (x11_2 : Int) (x12_2 : Int), f = upd (upd (upd (upd fR 3 (.slice A3_1 l3_1.length c3_1)) 4 (.int .u64 x4_1)) 11 (.int .i64 x11_2)) 12 (.int .i64 x12_2) ∧ S = sput s0 0 (some (Ck.ro T24 A3_1 c3_1 l3_1)) ∧ shadowboxlaw09_ExtentSets.lo2 l3_1 x4_1 kk x11_2 x12_2 = some r) k ?_ ?_ ?_
    · exact ⟨_, (0 : Int), (0 : Int), fr_next (fr_next (fr_next (fr_next (rfl) (by kernel_rfl)) (by kernel_rfl)) (by kernel_rfl)) (by kernel_rfl), rfl, H⟩
    · rintro f S ⟨fr2, x11_2, x12_2, rfl, rfl, H⟩; cases H
    · rintro k2 f S ⟨fr2, x11_2, x12_2, rfl, rfl, H⟩
      replace H : ((if x12_2 < (64 : Int) then (if 0 ≤ IntKind.wrap .u64 x12_2 then lt (bits .and .u64 (shrv .u64 x4_1 (IntKind.wrap .u64 x12_2)) (1 : Int)) fun y3 => lt (IntKind.wrap .i64 (x11_2 + (IntKind.wrap .i64 y3))) fun y5 => (shadowboxlaw09_ExtentSets.lo2 l3_1 x4_1 k2) y5 (IntKind.wrap .i64 (x12_2 + (1 : Int))) else none) else (extent_Total.f k2 l3_1).bind fun t7 => (if t7 = x11_2 then (extent_Add.f k2 ([] : List (Int × Int)) ((3 : Int), (9 : Int))).bind fun t11 => (extent_Find.f k2 t11 (6 : Int)).bind fun t14 => some (decide (t14 = (3 : Int))) else some false))) = some r := H
      refine cs_seq ?_
      refine cs_seq ?_
      refine cs_region (l := [_, _]) ?_
      refine ls_val (v := .int .i64 x12_2) rfl rfl (by kernel_rfl) (fun w => by kernel_rfl) ?_
      refine ls_val (v := .bool (decide (x12_2 < (64 : Int)))) rfl rfl (by kernel_rfl) (fun w => by kernel_rfl) ?_
      refine ls_end ?_
      refine qn_then ?_
      by_cases q1 : x12_2 < (64 : Int)
      · replace H := ite_t q1 H
        refine cs_know (c := true) (dec_t q1) 94 (by kernel_rfl) ?_
        refine cs_true (by kernel_rfl) ?_
        refine cs_skip' ?_
        refine qn_then ?_
        refine cs_seq ?_
        refine cs_block ?_
        refine cs_region (l := [_, _, _, _, _, _, _, _, _]) ?_
        refine ls_val (v := .int .i64 x11_2) rfl rfl (by kernel_rfl) (fun w => by kernel_rfl) ?_
        refine ls_val (v := .int .u64 x4_1) rfl rfl (by kernel_rfl) (fun w => by kernel_rfl) ?_
        refine ls_val (v := .int .i64 x12_2) rfl rfl (by kernel_rfl) (fun w => by kernel_rfl) ?_
        refine ls_val (v := .int .u64 (IntKind.wrap .u64 x12_2)) rfl rfl (by kernel_rfl) (fun w => by kernel_rfl) ?_
        obtain ⟨q2, H⟩ := ite_need H
        refine ls_shiftr (k := .u64) (yk := .u64) (x := x4_1) (y := (IntKind.wrap .u64 x12_2)) rfl rfl (by kernel_rfl) (fun w => by kernel_rfl) q2 ?_
        obtain ⟨y3, hy4, H⟩ := lt_some H
        refine ls_val (v := .int .u64 (bits .and .u64 (shrv .u64 x4_1 (IntKind.wrap .u64 x12_2)) (1 : Int))) rfl rfl (by kernel_rfl) (fun w => by kernel_rfl) ?_
        refine ls_ren 102 (v := .int .u64 (bits .and .u64 (shrv .u64 x4_1 (IntKind.wrap .u64 x12_2)) (1 : Int))) (v' := .int .u64 y3) (by kernel_rfl) (by rw [hy4]) ?_
        refine ls_val (v := .int .i64 (IntKind.wrap .i64 y3)) rfl rfl (by kernel_rfl) (fun w => by kernel_rfl) ?_
        obtain ⟨y5, hy6, H⟩ := lt_some H
        refine ls_val (v := .int .i64 (IntKind.wrap .i64 (x11_2 + (IntKind.wrap .i64 y3)))) rfl rfl (by kernel_rfl) (fun w => by kernel_rfl) ?_
        refine ls_ren 104 (v := .int .i64 (IntKind.wrap .i64 (x11_2 + (IntKind.wrap .i64 y3)))) (v' := .int .i64 y5) (by kernel_rfl) (by rw [hy6]) ?_
        refine ls_val (v := .int .i64 y5) rfl rfl (by kernel_rfl) (fun w => by kernel_rfl) ?_
        refine ls_end ?_
        refine qn_block ?_
        refine qn_then ?_
        refine cs_region (l := [_, _, _]) ?_
        refine ls_val (v := .int .i64 x12_2) rfl rfl (by kernel_rfl) (fun w => by kernel_rfl) ?_
        refine ls_val (v := .int .i64 (IntKind.wrap .i64 (x12_2 + (1 : Int)))) rfl rfl (by kernel_rfl) (fun w => by kernel_rfl) ?_
        refine ls_val (v := .int .i64 (IntKind.wrap .i64 (x12_2 + (1 : Int)))) rfl rfl (by kernel_rfl) (fun w => by kernel_rfl) ?_
        refine ls_end ?_
        refine qn_again k2 (sput s0 0 (some (Ck.ro T24 A3_1 c3_1 l3_1))) (Nat.le_refl _) ⟨_, y5, (IntKind.wrap .i64 (x12_2 + (1 : Int))), fr_next (fr_next (fr_next (fr_next (rfl) (by kernel_rfl)) (by kernel_rfl)) (by kernel_rfl)) (by kernel_rfl), rfl, H⟩ (sub_put (by exact rfl) (sub_nil _))
      · replace H := ite_f q1 H
        refine cs_know (c := false) (dec_f q1) 94 (by kernel_rfl) ?_
        refine cs_false (by kernel_rfl) ?_
        refine cs_exit' ?_
        refine qx_then ?_
        refine qx_then ?_
        refine qx_same ?_
        refine qn_then ?_
        refine cs_seq ?_
        refine cs_region (l := [_, _, _, _, _, _, _, _, _, _, _]) ?_
        refine ls_val (v := .slice A3_1 l3_1.length c3_1) rfl rfl (by kernel_rfl) (fun w => by kernel_rfl) ?_
        obtain ⟨t7, hc8, H⟩ := bind_some H
        refine ls_callb (fid := 14) (vals := #[.slice A3_1 l3_1.length c3_1]) (X := Unit) (fun x => .int .i64 t7) (fun x => stl []) [] [0] [] [Ck.ro T24 A3_1 c3_1 l3_1] 1 rfl rfl (by kernel_rfl) (fun w => by kernel_rfl) trivial ⟨by exact rfl, trivial⟩ (by decide) (fun w hs hb => extent_Total.calls k2 A3_1 c3_1 l3_1 t7 (lent b w [] [Ck.ro T24 A3_1 c3_1 l3_1]) hb (hs.roror (k := 0) (by exact rfl) (.head _)) (hs.rocap (k := 0) (by exact rfl)) hc8) ?_
        intro x9
        refine ls_val (v := .int .i64 x11_2) rfl rfl (by kernel_rfl) (fun w => by kernel_rfl) ?_
        refine ls_val (v := .bool (decide (t7 = x11_2))) rfl rfl (by kernel_rfl) (fun w => by kernel_rfl) ?_
        refine ls_val (v := .bool (decide (t7 = x11_2))) rfl rfl (by kernel_rfl) (fun w => by kernel_rfl) ?_
        by_cases q10 : t7 = x11_2
        · replace H := ite_t q10 H
          refine ls_know (c := true) (dec_t q10) 109 (by kernel_rfl) ?_
          refine ls_on (j := 4) (t := 109) (b := true) rfl rfl (by kernel_rfl) (by kernel_rfl) ?_
          refine ls_val (v := .agg ⟨([Value.int .i64 (3 : Int)] ++ [Value.int .i64 (9 : Int)])⟩) rfl rfl (by kernel_rfl) (fun w => by kernel_rfl) ?_
          refine ls_on (j := 4) (t := 109) (b := true) rfl rfl (by kernel_rfl) (by kernel_rfl) ?_
          obtain ⟨t11, hc12, H⟩ := bind_some H
          refine ls_callb (fid := 13) (vals := #[.slice none ([] : List (Int × Int)).length 0, .agg ⟨([Value.int .i64 (3 : Int)] ++ [Value.int .i64 (9 : Int)])⟩]) (X := (Option Addr × Nat)) (fun x => .slice x.1 t11.length x.2) (fun x => stl [Ck.sl T24 x.1 x.2 t11]) [] [] [] [] 1 rfl rfl (by kernel_rfl) (fun w => by kernel_rfl) trivial trivial (by decide) (fun w hs hb => extent_Add.calls k2 none 0 ([] : List (Int × Int)) ((3 : Int), (9 : Int)) t11 (lent b w [] []) hb (Ro.nil _ _) (Nat.le_refl 0) hc12) ?_
          intro x13
          refine ls_on (j := 4) (t := 109) (b := true) rfl rfl (by kernel_rfl) (by kernel_rfl) ?_
          obtain ⟨t14, hc15, H⟩ := bind_some H
          refine ls_callb (fid := 24) (vals := #[.slice x13.1 t11.length x13.2, .int .i64 (6 : Int)]) (X := Unit) (fun x => .int .i64 t14) (fun x => stl []) [] [1] [] [Ck.sl T24 x13.1 x13.2 t11] 2 rfl rfl (by kernel_rfl) (fun w => by kernel_rfl) trivial ⟨by exact rfl, trivial⟩ (by decide) (fun w hs hb => extent_Find.calls k2 x13.1 x13.2 t11 (6 : Int) t14 (lent b w [] [Ck.sl T24 x13.1 x13.2 t11]) hb (hs.ror (k := 1) (by exact rfl) (.head _)) (hs.cap (k := 1) (by exact rfl)) hc15) ?_
          intro x16
          refine ls_on (j := 4) (t := 109) (b := true) rfl rfl (by kernel_rfl) (by kernel_rfl) ?_
          refine ls_val (v := .bool (decide (t14 = (3 : Int)))) rfl rfl (by kernel_rfl) (fun w => by kernel_rfl) ?_
          refine ls_val (v := .bool (decide (t14 = (3 : Int)))) rfl rfl (by kernel_rfl) (fun w => by kernel_rfl) ?_
          refine ls_val (v := .bool (decide (t14 = (3 : Int)))) rfl rfl (by kernel_rfl) (fun w => by kernel_rfl) ?_
          refine ls_end ?_
          refine qn_then ?_
          refine cs_ret' ?_
          obtain rfl := Option.some.inj H
          refine qr_res (rs := [_]) rfl (fun w' hs => ⟨[.bool (decide (t14 = (3 : Int)))], (res_tmp (by kernel_rfl) (.nil)), (), rfl, hs.pick (ts := []) (cs := []) trivial (by decide)⟩)
        · replace H := ite_f q10 H
          refine ls_know (c := false) (dec_f q10) 109 (by kernel_rfl) ?_
          refine ls_off (j := 4) (t := 109) (b := true) (c := false) rfl rfl (by kernel_rfl) (by kernel_rfl) rfl rfl (by kernel_rfl) ?_
          refine ls_off (j := 4) (t := 109) (b := true) (c := false) rfl rfl (by kernel_rfl) (by kernel_rfl) rfl rfl (by kernel_rfl) ?_
          refine ls_off (j := 4) (t := 109) (b := true) (c := false) rfl rfl (by kernel_rfl) (by kernel_rfl) rfl rfl (by kernel_rfl) ?_
          refine ls_off (j := 4) (t := 109) (b := true) (c := false) rfl rfl (by kernel_rfl) (by kernel_rfl) rfl rfl (by kernel_rfl) ?_
          refine ls_val (v := .bool false) rfl rfl (by kernel_rfl) (fun w => by kernel_rfl) ?_
          refine ls_val (v := .bool false) rfl rfl (by kernel_rfl) (fun w => by kernel_rfl) ?_
          refine ls_end ?_
          refine qn_then ?_
          refine cs_ret' ?_
          obtain rfl := Option.some.inj H
          refine qr_res (rs := [_]) rfl (fun w' hs => ⟨[.bool false], (res_tmp (by kernel_rfl) (.nil)), (), rfl, hs.pick (ts := []) (cs := []) trivial (by decide)⟩)

end Go.Proofs.Ytiikfaefeonfhaa.G
