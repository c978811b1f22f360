/- Printed by a program of this session (sz.py): plain functions, and walks that show that the code comes to them; no condition. -/
import Derived.Test.YthhhkphbhlafbaaProg
import Derived.Test.YthhhkphbhlafbaaTy
set_option linter.unusedVariables false
set_option linter.unusedSimpArgs false
namespace Go.Proofs.Ythhhkphbhlafbaa.G
open Go Go.RowKit Go.Proofs.Ythhhkphbhlafbaa.Sx

/-! ### bytes.Compare: function 30 -/
def bytes_Compare.f (k : Nat) (l0 : List Int) (l1 : List Int) : Option (Int) :=
  some (bcmp l0 l1)
set_option maxRecDepth 100000 in
set_option maxHeartbeats 4000000 in
theorem bytes_Compare.calls (k : Nat) (A0 : Option Addr) (c0 : Nat) (l0 : List Int) (A1 : Option Addr) (c1 : Nat) (l1 : List Int) (r : Int) (b : Bs) (hs0 : St b (stl []) b.w) (R0 : Ro b A0 (em (Ec.int 5 .u8) l0)) (C0 : l0.length ≤ c0) (R1 : Ro b A1 (em (Ec.int 5 .u8) l1)) (C1 : l1.length ≤ c1) (H : bytes_Compare.f k l0 l1 = some r) :
    Calls Try.prog 30 #[.slice A0 l0.length c0, .slice A1 l1.length c1] b.w fun e w' => ∃ x : Unit, e = .returned (.int .i64 r) ∧ St b (stl []) w' := by
  unfold bytes_Compare.f at H
  refine enterb (n := 8) Try.func30 rfl (by kernel_rfl) (by kernel_rfl) hs0 ?_
  refine cs_sub (s0) (sub_nil _) ?_
  refine cs_seq ?_
  refine cs_region (l := [_]) ?_
  refine lv (.int .i64 (0 : Int)) ?_
  refine ls_end ?_
  refine qn_then ?_
  refine cs_seq ?_
  refine cs_region (l := [_, _, _, _]) ?_
  refine lv (.slice A0 l0.length c0) ?_
  refine lv (.slice A1 l1.length c1) ?_
  refine ls_bcmp (fid := 56) (A := A0) (c := c0) (l := l0) (B := A1) (cb := c1) (m := l1) (t := 5) rfl rfl (by kernel_rfl) (fun w => by kernel_rfl) (fn := Try.f56) Try.func56 (by kernel_rfl) (by kernel_rfl) (by kernel_rfl) (by kernel_rfl) (fun w hs => (hs.old R0)) (fun w hs => (hs.old R1)) ?_
  refine lv (.int .i64 (bcmp l0 l1)) ?_
  refine ls_end ?_
  refine qn_then ?_
  refine cs_ret' ?_
  obtain rfl := Option.some.inj H
  refine qr_res (rs := [_]) rfl (fun w' hs => ⟨[.int .i64 (bcmp l0 l1)], (res_tmp (by kernel_rfl) (.nil)), (), rfl, hs.pick (ts := []) (cs := []) trivial (by decide)⟩)

/-! ### slices.BinarySearchFunc[[][]byte,[]byte,[]byte], specialized: function 29 -/
def slices_BinarySearchFunc_29_s30.lo1 (l0 : List (List Int)) (l1 : List Int) : Nat → Int → Int → Option (Int × Bool)
  | 0, _, _ => none
  | k1 + 1, x9_1, x10_1 => (if x9_1 < x10_1 then lt (IntKind.wrap .u64 (IntKind.wrap .i64 (x9_1 + x10_1))) fun y2 => (if 0 ≤ IntKind.wrap .i64 (Int.fdiv y2 2) then (if IntKind.wrap .i64 (Int.fdiv y2 2) < (l0.length : Int) then (bytes_Compare.f k1 ((l0).getD (IntKind.wrap .i64 (Int.fdiv y2 2)).toNat ([] : List Int)) l1).bind fun t12 => (if t12 < (0 : Int) then lt (IntKind.wrap .i64 ((IntKind.wrap .i64 (Int.fdiv y2 2)) + (1 : Int))) fun y16 => (slices_BinarySearchFunc_29_s30.lo1 l0 l1 k1) y16 x10_1 else (slices_BinarySearchFunc_29_s30.lo1 l0 l1 k1) x9_1 (IntKind.wrap .i64 (Int.fdiv y2 2))) else none) else none) else (if x9_1 < (l0.length : Int) then (if 0 ≤ x9_1 then (bytes_Compare.f k1 ((l0).getD (x9_1).toNat ([] : List Int)) l1).bind fun t26 => some (x9_1, decide (t26 = (0 : Int))) else none) else some (x9_1, false)))
def slices_BinarySearchFunc_29_s30.f (k : Nat) (l0 : List (List Int)) (l1 : List Int) : Option (Int × Bool) :=
  slices_BinarySearchFunc_29_s30.lo1 l0 l1 k (0 : Int) (l0.length : Int)
set_option maxRecDepth 100000 in
set_option maxHeartbeats 4000000 in
theorem slices_BinarySearchFunc_29_s30.calls (k : Nat) (A0 : Option Addr) (c0 : Nat) (l0 : List (List Int)) (A1 : Option Addr) (c1 : Nat) (l1 : List Int) (r : Int × Bool) (b : Bs) (hs0 : St b (stl []) b.w) (R0 : RoS 23 (Ec.int 5 .u8) b A0 l0) (C0 : l0.length ≤ c0) (R1 : Ro b A1 (em (Ec.int 5 .u8) l1)) (C1 : l1.length ≤ c1) (H : slices_BinarySearchFunc_29_s30.f k l0 l1 = some r) :
    Calls Try.prog 29 #[.slice A0 l0.length c0, .slice A1 l1.length c1, .func (.func 30) #[] #[]] b.w fun e w' => ∃ x : Unit, e = .returned (.tuple #[.int .i64 r.1, .bool r.2]) ∧ St b (stl []) w' := by
  unfold slices_BinarySearchFunc_29_s30.f at H
  refine enterb (n := 49) Try.func29 rfl (by kernel_rfl) (by kernel_rfl) hs0 ?_
  refine cs_sub (s0) (sub_nil _) ?_
  refine cs_seq ?_
  refine cs_region (l := [_, _]) ?_
  refine lv (.int .i64 (0 : Int)) ?_
  refine lv (.bool false) ?_
  refine ls_end ?_
  refine qn_then ?_
  refine cs_seq ?_
  refine cs_region (l := [_, _, _]) ?_
  refine lv (.slice A0 l0.length c0) ?_
  refine lv (.int .i64 (l0.length : Int)) ?_
  refine lv (.int .i64 (l0.length : Int)) ?_
  refine ls_end ?_
  refine qn_then ?_
  refine cs_seq ?_
  refine cs_region (l := [_, _, _]) ?_
  refine lv (.int .i64 (l0.length : Int)) ?_
  refine lv (.int .i64 (0 : Int)) ?_
  refine lv (.int .i64 (l0.length : Int)) ?_
  refine ls_end ?_
  refine qn_then ?_
  refine cs_seq ?_
  refine cs_block ?_
  refine cs_sub (s0) (sub_nil _) ?_
  refine cs_loop (fun kk f S => ∃ (fR : Fr) (x9_1 : Int) (x10_1 : Int), f = upd (upd (upd (upd (upd (upd fR 0 (.slice A0 l0.length c0)) 1 (.slice A1 l1.length c1)) 2 (.func (.func 30) #[] #[])) 8 (.int .i64 (l0.length : Int))) 9 (.int .i64 x9_1)) 10 (.int .i64 x10_1) ∧ S = s0 ∧ slices_BinarySearchFunc_29_s30.lo1 l0 l1 kk x9_1 x10_1 = some r) k ?_ ?_ ?_
  · exact ⟨_, (0 : Int), (l0.length : Int), fr_next (fr_next (fr_next (fr_next (fr_next (fr_next (rfl) (by kernel_rfl)) (by kernel_rfl)) (by kernel_rfl)) (by kernel_rfl)) (by kernel_rfl)) (by kernel_rfl), rfl, H⟩
  · rintro f S ⟨fr1, x9_1, x10_1, rfl, rfl, H⟩; cases H
  rintro k1 f S ⟨fr1, x9_1, x10_1, rfl, rfl, H⟩
  replace H : ((if x9_1 < x10_1 then lt (IntKind.wrap .u64 (IntKind.wrap .i64 (x9_1 + x10_1))) fun y2 => (if 0 ≤ IntKind.wrap .i64 (Int.fdiv y2 2) then (if IntKind.wrap .i64 (Int.fdiv y2 2) < (l0.length : Int) then (bytes_Compare.f k1 ((l0).getD (IntKind.wrap .i64 (Int.fdiv y2 2)).toNat ([] : List Int)) l1).bind fun t12 => (if t12 < (0 : Int) then lt (IntKind.wrap .i64 ((IntKind.wrap .i64 (Int.fdiv y2 2)) + (1 : Int))) fun y16 => (slices_BinarySearchFunc_29_s30.lo1 l0 l1 k1) y16 x10_1 else (slices_BinarySearchFunc_29_s30.lo1 l0 l1 k1) x9_1 (IntKind.wrap .i64 (Int.fdiv y2 2))) else none) else none) else (if x9_1 < (l0.length : Int) then (if 0 ≤ x9_1 then (bytes_Compare.f k1 ((l0).getD (x9_1).toNat ([] : List Int)) l1).bind fun t26 => some (x9_1, decide (t26 = (0 : Int))) else none) else some (x9_1, false)))) = some r := H
  refine cs_seq ?_
  refine cs_seq ?_
  refine cs_region (l := [_, _, _]) ?_
  refine lv (.int .i64 x9_1) ?_
  refine lv (.int .i64 x10_1) ?_
  refine lv (.bool (decide (x9_1 < x10_1))) ?_
  refine ls_end ?_
  refine qn_then ?_
  by_cases q1 : x9_1 < x10_1
  · replace H := ite_t q1 H
    refine cs_know (c := true) (dec_t q1) 17 (by kernel_rfl) ?_
    refine cs_true (by kernel_rfl) ?_
    refine cs_skip' ?_
    refine qn_then ?_
    refine cs_block ?_
    refine cs_seq ?_
    refine cs_region (l := [_, _, _, _, _, _, _]) ?_
    refine lv (.int .i64 x9_1) ?_
    refine lv (.int .i64 x10_1) ?_
    refine lv (.int .i64 (IntKind.wrap .i64 (x9_1 + x10_1))) ?_
    obtain ⟨y2, hy3, H⟩ := lt_some H
    refine lv (.int .u64 (IntKind.wrap .u64 (IntKind.wrap .i64 (x9_1 + x10_1)))) ?_
    refine ls_ren 21 (v := .int .u64 (IntKind.wrap .u64 (IntKind.wrap .i64 (x9_1 + x10_1)))) (v' := .int .u64 y2) (by kernel_rfl) (by rw [hy3]) ?_
    refine lv (.int .u64 (Int.fdiv y2 2)) ?_
    refine lv (.int .i64 (IntKind.wrap .i64 (Int.fdiv y2 2))) ?_
    refine lv (.int .i64 (IntKind.wrap .i64 (Int.fdiv y2 2))) ?_
    refine ls_end ?_
    refine qn_then ?_
    refine cs_seq ?_
    refine cs_region (l := [_, _, _, _, _, _, _, _]) ?_
    refine lv (.func (.func 30) #[] #[]) ?_
    refine lv (.slice A0 l0.length c0) ?_
    refine lv (.int .i64 (IntKind.wrap .i64 (Int.fdiv y2 2))) ?_
    obtain ⟨q4, H⟩ := ite_need H
    obtain ⟨q5, H⟩ := ite_need H
    obtain ⟨ad6, hA7⟩ := idoS_at (l := l0) (i := IntKind.wrap .i64 (Int.fdiv y2 2)) R0 q4 q5
    refine ls_idxv (Ec.sld 23 Int) (A := A0) (c := c0) (l := l0) (k := .i64) (i := IntKind.wrap .i64 (Int.fdiv y2 2)) (z := 1) (ad := ad6) rfl rfl (by kernel_rfl) hA7 rfl (by kernel_rfl) (by kernel_rfl) (by kernel_rfl) (by kernel_rfl) q4 q5 ?_
    obtain ⟨xq8, hq9, xR10, xC11⟩ := RoS.el (l := l0) R0 hA7 (i := IntKind.wrap .i64 (Int.fdiv y2 2)) q4 q5
    refine ls_load (a0 := (ad6.add ((IntKind.wrap .i64 (Int.fdiv y2 2)).toNat * 1))) (v := .slice xq8.1 ((l0).getD (IntKind.wrap .i64 (Int.fdiv y2 2)).toNat ([] : List Int)).length xq8.2) (de := (TypeDesc.slice 5)) rfl rfl (by kernel_rfl) rfl (by kernel_rfl) (by kernel_rfl) (by kernel_rfl) (fun w hs => (hs.old hq9).cell0) ?_
    refine lv (.slice A1 l1.length c1) ?_
    obtain ⟨t12, hc13, H⟩ := bind_some H
    refine ls_callb (fid := 30) (vals := #[.slice xq8.1 ((l0).getD (IntKind.wrap .i64 (Int.fdiv y2 2)).toNat ([] : List Int)).length xq8.2, .slice A1 l1.length c1]) (X := Unit) (fun x => .int .i64 t12) (fun x => stl []) [] [] [] [] 0 rfl rfl (by kernel_rfl) (fun w => by kernel_rfl) trivial trivial (by decide) (fun w hs hb => bytes_Compare.calls k1 xq8.1 xq8.2 ((l0).getD (IntKind.wrap .i64 (Int.fdiv y2 2)).toNat ([] : List Int)) A1 c1 l1 t12 (lent b w [] []) hb (hs.ro xR10 _ _) xC11 (hs.ro R1 _ _) C1 hc13) ?_
    intro x14
    refine lv (.bool (decide (t12 < (0 : Int)))) ?_
    refine ls_end ?_
    refine qn_then ?_
    by_cases q15 : t12 < (0 : Int)
    · replace H := ite_t q15 H
      refine cs_know (c := true) (dec_t q15) 31 (by kernel_rfl) ?_
      refine cs_true (by kernel_rfl) ?_
      refine cs_region (l := [_, _, _]) ?_
      refine lv (.int .i64 (IntKind.wrap .i64 (Int.fdiv y2 2))) ?_
      obtain ⟨y16, hy17, H⟩ := lt_some H
      refine lv (.int .i64 (IntKind.wrap .i64 ((IntKind.wrap .i64 (Int.fdiv y2 2)) + (1 : Int)))) ?_
      refine ls_ren 33 (v := .int .i64 (IntKind.wrap .i64 ((IntKind.wrap .i64 (Int.fdiv y2 2)) + (1 : Int)))) (v' := .int .i64 y16) (by kernel_rfl) (by rw [hy17]) ?_
      refine lv (.int .i64 y16) ?_
      refine ls_end ?_
      refine qn_block ?_
      refine qn_again k1 (s0) (Nat.le_refl _) ⟨_, y16, x10_1, fr_next (fr_next (fr_next (fr_next (fr_next (fr_next (rfl) (by kernel_rfl)) (by kernel_rfl)) (by kernel_rfl)) (by kernel_rfl)) (by kernel_rfl)) (by kernel_rfl), rfl, H⟩ (sub_nil _)
    replace H := ite_f q15 H
    refine cs_know (c := false) (dec_f q15) 31 (by kernel_rfl) ?_
    refine cs_false (by kernel_rfl) ?_
    refine cs_region (l := [_, _]) ?_
    refine lv (.int .i64 (IntKind.wrap .i64 (Int.fdiv y2 2))) ?_
    refine lv (.int .i64 (IntKind.wrap .i64 (Int.fdiv y2 2))) ?_
    refine ls_end ?_
    refine qn_block ?_
    refine qn_again k1 (s0) (Nat.le_refl _) ⟨_, x9_1, (IntKind.wrap .i64 (Int.fdiv y2 2)), fr_next (fr_next (fr_next (fr_next (fr_next (fr_next (rfl) (by kernel_rfl)) (by kernel_rfl)) (by kernel_rfl)) (by kernel_rfl)) (by kernel_rfl)) (by kernel_rfl), rfl, H⟩ (sub_nil _)
  replace H := ite_f q1 H
  refine cs_know (c := false) (dec_f q1) 17 (by kernel_rfl) ?_
  refine cs_false (by kernel_rfl) ?_
  refine cs_exit' ?_
  refine qx_then ?_
  refine qx_then ?_
  refine qx_same ?_
  refine qn_then ?_
  refine cs_seq ?_
  refine cs_region (l := [_, _, _, _, _, _, _, _, _, _, _, _, _, _, _, _]) ?_
  refine lv (.int .i64 x9_1) ?_
  refine lv (.int .i64 x9_1) ?_
  refine lv (.int .i64 (l0.length : Int)) ?_
  refine lv (.bool (decide (x9_1 < (l0.length : Int)))) ?_
  refine lv (.bool (decide (x9_1 < (l0.length : Int)))) ?_
  by_cases q18 : x9_1 < (l0.length : Int)
  · replace H := ite_t q18 H
    refine ls_know (c := true) (dec_t q18) 39 (by kernel_rfl) ?_
    refine ls_on (j := 4) (t := 39) (b := true) rfl rfl (by kernel_rfl) (by kernel_rfl) ?_
    refine lv (.func (.func 30) #[] #[]) ?_
    refine ls_on (j := 4) (t := 39) (b := true) rfl rfl (by kernel_rfl) (by kernel_rfl) ?_
    refine lv (.slice A0 l0.length c0) ?_
    refine ls_on (j := 4) (t := 39) (b := true) rfl rfl (by kernel_rfl) (by kernel_rfl) ?_
    refine lv (.int .i64 x9_1) ?_
    refine ls_on (j := 4) (t := 39) (b := true) rfl rfl (by kernel_rfl) (by kernel_rfl) ?_
    obtain ⟨q19, H⟩ := ite_need H
    obtain ⟨ad20, hA21⟩ := idoS_at (l := l0) (i := x9_1) R0 q19 q18
    refine ls_idxv (Ec.sld 23 Int) (A := A0) (c := c0) (l := l0) (k := .i64) (i := x9_1) (z := 1) (ad := ad20) rfl rfl (by kernel_rfl) hA21 rfl (by kernel_rfl) (by kernel_rfl) (by kernel_rfl) (by kernel_rfl) q19 q18 ?_
    refine ls_on (j := 4) (t := 39) (b := true) rfl rfl (by kernel_rfl) (by kernel_rfl) ?_
    obtain ⟨xq22, hq23, xR24, xC25⟩ := RoS.el (l := l0) R0 hA21 (i := x9_1) q19 q18
    refine ls_load (a0 := (ad20.add ((x9_1).toNat * 1))) (v := .slice xq22.1 ((l0).getD (x9_1).toNat ([] : List Int)).length xq22.2) (de := (TypeDesc.slice 5)) rfl rfl (by kernel_rfl) rfl (by kernel_rfl) (by kernel_rfl) (by kernel_rfl) (fun w hs => (hs.old hq23).cell0) ?_
    refine ls_on (j := 4) (t := 39) (b := true) rfl rfl (by kernel_rfl) (by kernel_rfl) ?_
    refine lv (.slice A1 l1.length c1) ?_
    refine ls_on (j := 4) (t := 39) (b := true) rfl rfl (by kernel_rfl) (by kernel_rfl) ?_
    obtain ⟨t26, hc27, H⟩ := bind_some H
    refine ls_callb (fid := 30) (vals := #[.slice xq22.1 ((l0).getD (x9_1).toNat ([] : List Int)).length xq22.2, .slice A1 l1.length c1]) (X := Unit) (fun x => .int .i64 t26) (fun x => stl []) [] [] [] [] 0 rfl rfl (by kernel_rfl) (fun w => by kernel_rfl) trivial trivial (by decide) (fun w hs hb => bytes_Compare.calls k1 xq22.1 xq22.2 ((l0).getD (x9_1).toNat ([] : List Int)) A1 c1 l1 t26 (lent b w [] []) hb (hs.ro xR24 _ _) xC25 (hs.ro R1 _ _) C1 hc27) ?_
    intro x28
    refine ls_on (j := 4) (t := 39) (b := true) rfl rfl (by kernel_rfl) (by kernel_rfl) ?_
    refine lv (.bool (decide (t26 = (0 : Int)))) ?_
    refine lv (.bool (decide (t26 = (0 : Int)))) ?_
    refine lv (.int .i64 x9_1) ?_
    refine lv (.bool (decide (t26 = (0 : Int)))) ?_
    refine ls_end ?_
    refine qn_then ?_
    refine cs_ret' ?_
    obtain rfl := Option.some.inj H
    refine qr_res (rs := [_, _]) rfl (fun w' hs => ⟨[.int .i64 x9_1, .bool (decide (t26 = (0 : Int)))], (res_tmp (by kernel_rfl) (res_tmp (by kernel_rfl) (.nil))), (), rfl, hs.pick (ts := []) (cs := []) trivial (by decide)⟩)
  replace H := ite_f q18 H
  refine ls_know (c := false) (dec_f q18) 39 (by kernel_rfl) ?_
  refine lofx 4 39 true false ?_
  refine lofx 4 39 true false ?_
  refine lofx 4 39 true false ?_
  refine lofx 4 39 true false ?_
  refine lofx 4 39 true false ?_
  refine lofx 4 39 true false ?_
  refine lofx 4 39 true false ?_
  refine lofx 4 39 true false ?_
  refine lv (.bool false) ?_
  refine lv (.int .i64 x9_1) ?_
  refine lv (.bool false) ?_
  refine ls_end ?_
  refine qn_then ?_
  refine cs_ret' ?_
  obtain rfl := Option.some.inj H
  refine qr_res (rs := [_, _]) rfl (fun w' hs => ⟨[.int .i64 x9_1, .bool false], (res_tmp (by kernel_rfl) (res_tmp (by kernel_rfl) (.nil))), (), rfl, hs.pick (ts := []) (cs := []) trivial (by decide)⟩)

/-! ### shadowbox/leaf.Find: function 9 -/
def leaf_Find.f (k : Nat) (a0 : (Int × (List (List Int)) × (List (List Int)) × (List (Int × Int × Int × Int × (Vc Int 32))))) (l1 : List Int) : Option (Int) :=
  (slices_BinarySearchFunc_29_s30.f k a0.2.1 l1).bind fun t2 => (if t2.2 = true then some t2.1 else some (IntKind.wrap .i64 (t2.1 - (1 : Int))))
set_option maxRecDepth 100000 in
set_option maxHeartbeats 4000000 in
theorem leaf_Find.calls (k : Nat) (A0_1 : Option Addr) (c0_1 : Nat) (A0_2 : Option Addr) (c0_2 : Nat) (A0_3 : Option Addr) (c0_3 : Nat) (a0 : (Int × (List (List Int)) × (List (List Int)) × (List (Int × Int × Int × Int × (Vc Int 32))))) (A1 : Option Addr) (c1 : Nat) (l1 : List Int) (r : Int) (b : Bs) (hs0 : St b (stl []) b.w) (R0_1 : RoS 23 (Ec.int 5 .u8) b A0_1 a0.2.1) (C0_1 : a0.2.1.length ≤ c0_1) (R0_2 : RoS 23 (Ec.int 5 .u8) b A0_2 a0.2.2.1) (C0_2 : a0.2.2.1.length ≤ c0_2) (R0_3 : Ro b A0_3 (em T44 a0.2.2.2)) (C0_3 : a0.2.2.2.length ≤ c0_3) (R1 : Ro b A1 (em (Ec.int 5 .u8) l1)) (C1 : l1.length ≤ c1) (H : leaf_Find.f k a0 l1 = some r) :
    Calls Try.prog 9 #[.agg ⟨([Value.int .i64 a0.1] ++ ([Value.slice A0_1 a0.2.1.length c0_1] ++ ([Value.slice A0_2 a0.2.2.1.length c0_2] ++ [Value.slice A0_3 a0.2.2.2.length c0_3])))⟩, .slice A1 l1.length c1] b.w fun e w' => ∃ x : Unit, e = .returned (.int .i64 r) ∧ St b (stl []) w' := by
  unfold leaf_Find.f at H
  refine enterb (n := 18) Try.func9 rfl (by kernel_rfl) (by kernel_rfl) hs0 ?_
  refine cs_sub (s0) (sub_nil _) ?_
  refine cs_seq ?_
  refine cs_region (l := [_, _]) ?_
  refine ls_new rfl rfl (by kernel_rfl) 0 (fun g => .pointer (some ⟨g, 0, none⟩)) (.cells ⟨([Value.int .i64 a0.1] ++ ([Value.slice A0_1 a0.2.1.length c0_1] ++ ([Value.slice A0_2 a0.2.2.1.length c0_2] ++ [Value.slice A0_3 a0.2.2.2.length c0_3])))⟩ 27) (fun w => by kernel_rfl) ?_
  intro g1
  refine lv (.int .i64 (0 : Int)) ?_
  refine ls_end ?_
  refine qn_then ?_
  refine cs_seq ?_
  refine cs_region (l := [_, _, _, _, _, _, _, _, _]) ?_
  refine lv (.pointer (some ⟨g1, (0 + 1), none⟩)) ?_
  refine ls_load (a0 := ⟨g1, (0 + 1), none⟩) (v := .slice A0_1 a0.2.1.length c0_1) (de := (TypeDesc.slice 23)) rfl rfl (by kernel_rfl) rfl (by kernel_rfl) (by kernel_rfl) (by kernel_rfl) (fun w hs => (hs.var (k := 0) (by exact rfl) (Sub4.trans (Sub4.all _) (Sub4.skip (n := 1) (len1 _) (Sub4.head _ _))))) ?_
  refine lv (.slice A1 l1.length c1) ?_
  obtain ⟨t2, hc3, H⟩ := bind_some H
  refine ls_callb (fid := 29) (vals := #[.slice A0_1 a0.2.1.length c0_1, .slice A1 l1.length c1, .func (.func 30) #[] #[]]) (X := Unit) (fun x => .tuple #[.int .i64 t2.1, .bool t2.2]) (fun x => stl []) [] [] [] [] 1 rfl rfl (by kernel_rfl) (fun w => by kernel_rfl) trivial trivial (by decide) (fun w hs hb => slices_BinarySearchFunc_29_s30.calls k A0_1 c0_1 a0.2.1 A1 c1 l1 t2 (lent b w [] []) hb (hs.roS R0_1 _ _) C0_1 (hs.ro R1 _ _) C1 hc3) ?_
  intro x4
  refine lv (.tuple #[.int .i64 t2.1, .bool t2.2]) ?_
  refine lv (.int .i64 t2.1) ?_
  refine lv (.bool t2.2) ?_
  refine lv (.int .i64 t2.1) ?_
  refine lv (.bool t2.2) ?_
  refine ls_end ?_
  refine qn_then ?_
  refine cs_seq ?_
  refine cs_seq ?_
  refine cs_region (l := [_]) ?_
  refine lv (.bool t2.2) ?_
  refine ls_end ?_
  refine qn_then ?_
  by_cases q5 : t2.2 = true
  · replace H := ite_t q5 H
    refine cs_know (c := true) (q5) 14 (by kernel_rfl) ?_
    refine cs_true (by kernel_rfl) ?_
    refine cs_seq ?_
    refine cs_region (l := [_, _]) ?_
    refine lv (.int .i64 t2.1) ?_
    refine lv (.int .i64 t2.1) ?_
    refine ls_end ?_
    refine qn_then ?_
    refine cs_ret' ?_
    refine qr_then ?_
    obtain rfl := Option.some.inj H
    refine qr_res (rs := [_]) rfl (fun w' hs => ⟨[.int .i64 t2.1], (res_tmp (by kernel_rfl) (.nil)), (), rfl, hs.pick (ts := []) (cs := []) trivial (by decide)⟩)
  replace H := ite_f q5 H
  refine cs_know (c := false) (Bool.eq_false_iff.mpr q5) 14 (by kernel_rfl) ?_
  refine cs_false (by kernel_rfl) ?_
  refine cs_skip' ?_
  refine qn_then ?_
  refine cs_seq ?_
  refine cs_region (l := [_, _, _]) ?_
  refine lv (.int .i64 t2.1) ?_
  refine lv (.int .i64 (IntKind.wrap .i64 (t2.1 - (1 : Int)))) ?_
  refine lv (.int .i64 (IntKind.wrap .i64 (t2.1 - (1 : Int)))) ?_
  refine ls_end ?_
  refine qn_then ?_
  refine cs_ret' ?_
  obtain rfl := Option.some.inj H
  refine qr_res (rs := [_]) rfl (fun w' hs => ⟨[.int .i64 (IntKind.wrap .i64 (t2.1 - (1 : Int)))], (res_tmp (by kernel_rfl) (.nil)), (), rfl, hs.pick (ts := []) (cs := []) trivial (by decide)⟩)

end Go.Proofs.Ythhhkphbhlafbaa.G
