/- Printed by a program of this session (sz.py): plain functions, and walks that show that the code comes to them; no condition. -/
import Derived.Test.YthhhkphbhlafbaaProg
import Derived.Test.YthhhkphbhlafbaaTy
import Derived.Test.YthhhkphbhlafbaaG0
set_option linter.unusedVariables false
set_option linter.unusedSimpArgs false
namespace Go.Proofs.Ythhhkphbhlafbaa.G
open Go Go.RowKit Go.Proofs.Ythhhkphbhlafbaa.Sx

/-! ### shadowbox/shadowboxlaw36.RecordOrder: function 6 -/
def shadowboxlaw36_RecordOrder.tab1 : List (List Nat) := [[], [0], [0, 1], [0, 1, 2], [], [4], [4, 5], [4, 5, 6], [0, 1, 2, 3], [0, 1, 2, 3, 4, 5, 6, 7, 8]]
def shadowboxlaw36_RecordOrder.tab9 : List (List Nat) := [[], [], [0, 1], [0, 1, 2], [], [], [0, 1, 2, 4, 5], [0, 1, 2, 4, 5, 6], [0, 1, 2, 3, 4, 5, 6], [0, 1, 2, 3, 4, 5, 6, 7, 8]]
def shadowboxlaw36_RecordOrder.jo4 (a0 : ByteArray) (a1 : ByteArray) (y5 : Int) (y8 : Int) (t12 : (List Int)) (t15 : (List Int)) : Option (Bool) := (if (a0.toList == a1.toList) = true then (if ((Op.bytesLess (strOfNums t12).toList (strOfNums t15).toList) == decide ((IntKind.wrap .i64 ((1 : Int) + y5)) > (IntKind.wrap .i64 ((1 : Int) + y8)))) = true then some (((strOfNums t12).toList == (strOfNums t15).toList) == decide ((IntKind.wrap .i64 ((1 : Int) + y5)) = (IntKind.wrap .i64 ((1 : Int) + y8)))) else some false) else some ((Op.bytesLess (strOfNums t12).toList (strOfNums t15).toList) == (Op.bytesLess a0.toList a1.toList)))
def shadowboxlaw36_RecordOrder.jo3 (k : Nat) (a0 : ByteArray) (a1 : ByteArray) (a2 : (Vc Int 2)) : Option (Bool) := (if (0 : Int) < (2 : Int) then lt (bits .and .i64 (a2.1.getD ((0 : Int)).toNat (0 : Int)) (72057594037927935 : Int)) fun y5 => (if (1 : Int) < (2 : Int) then lt (bits .and .i64 (a2.1.getD ((1 : Int)).toNat (0 : Int)) (72057594037927935 : Int)) fun y8 => (record_Key.f k a0 (IntKind.wrap .i64 ((1 : Int) + y5))).bind fun t12 => (record_Key.f k a1 (IntKind.wrap .i64 ((1 : Int) + y8))).bind fun t15 => (record_Prefix.f k a0).bind fun t20 => (if (Op.bytesLess (strOfNums t12).toList (strOfNums t20).toList || ((strOfNums t12).toList == (strOfNums t20).toList)) = true then some false else (record_After.f k a0).bind fun t24 => (if (Op.bytesLess (strOfNums t12).toList (strOfNums t24).toList) = true then (shadowboxlaw36_RecordOrder.jo4 a0 a1 y5 y8 t12 t15) else some false)) else none) else none)
def shadowboxlaw36_RecordOrder.lo5 (a1 : ByteArray) (jo3 : Option (Bool)) : Nat → Int → Option (Bool)
  | 0, _ => none
  | k5 + 1, x8_5 => (if x8_5 < (a1.size : Int) then (if 0 ≤ x8_5 then (if (bt a1 x8_5) = (0 : Int) then some true else (shadowboxlaw36_RecordOrder.lo5 a1 jo3 k5) (IntKind.wrap .i64 (x8_5 + (1 : Int)))) else none) else jo3)
def shadowboxlaw36_RecordOrder.jo2 (k : Nat) (a0 : ByteArray) (a1 : ByteArray) (a2 : (Vc Int 2)) : Option (Bool) := shadowboxlaw36_RecordOrder.lo5 a1 (shadowboxlaw36_RecordOrder.jo3 k a0 a1 a2) k (0 : Int)
def shadowboxlaw36_RecordOrder.lo6 (a0 : ByteArray) (jo2 : Option (Bool)) : Nat → Int → Option (Bool)
  | 0, _ => none
  | k6 + 1, x7_6 => (if x7_6 < (a0.size : Int) then (if 0 ≤ x7_6 then (if (bt a0 x7_6) = (0 : Int) then some true else (shadowboxlaw36_RecordOrder.lo6 a0 jo2 k6) (IntKind.wrap .i64 (x7_6 + (1 : Int)))) else none) else jo2)
def shadowboxlaw36_RecordOrder.jo1 (k : Nat) (a0 : ByteArray) (a1 : ByteArray) (a2 : (Vc Int 2)) : Option (Bool) := shadowboxlaw36_RecordOrder.lo6 a0 (shadowboxlaw36_RecordOrder.jo2 k a0 a1 a2) k (0 : Int)
def shadowboxlaw36_RecordOrder.f (k : Nat) (a0 : ByteArray) (a1 : ByteArray) (a2 : (Vc Int 2)) : Option (Bool) :=
  lt (IntKind.wrap .i64 ((a0.size : Int) + (a1.size : Int))) fun y34 => (if y34 > (600 : Int) then some true else (shadowboxlaw36_RecordOrder.jo1 k a0 a1 a2))
set_option maxRecDepth 100000 in
set_option maxHeartbeats 4000000 in
theorem shadowboxlaw36_RecordOrder.calls (k : Nat) (a0 : ByteArray) (a1 : ByteArray) (a2 : (Vc Int 2)) (r : Bool) (b : Bs) (hs0 : St b (stl []) b.w) (H : shadowboxlaw36_RecordOrder.f k a0 a1 a2 = some r) :
    Calls Try.prog 6 #[.string a0, .string a1, .agg ⟨en (Value.int .i64) a2.1⟩] b.w fun e w' => ∃ x : Unit, e = .returned (.bool r) ∧ St b (stl []) w' := by
  unfold shadowboxlaw36_RecordOrder.f at H
  refine enterb (n := 93) Try.func6 rfl (by kernel_rfl) (by kernel_rfl) hs0 ?_
  refine cs_sub (s0) (sub_nil _) ?_
  refine cs_seq ?_
  refine cs_region (l := [_, _]) ?_
  refine ls_new rfl rfl (by kernel_rfl) 0 (fun g => .pointer (some ⟨g, 0, none⟩)) (.cells ⟨en (Value.int .i64) a2.1⟩ 45) (fun w => by kernel_rfl) ?_
  intro g1
  refine ls_val (v := .bool false) rfl rfl (by kernel_rfl) (fun w => by kernel_rfl) ?_
  refine ls_end ?_
  refine qn_then ?_
  refine cs_cut (fun f S => ∃ (fR : Fr), f = upd (upd (upd fR 0 (.string a0)) 1 (.string a1)) 5 (.pointer (some ⟨g1, 0, none⟩)) ∧ S = sput s0 0 (some (Ck.var 45 g1 (en (Value.int .i64) a2.1))) ∧ shadowboxlaw36_RecordOrder.jo1 k a0 a1 a2 = some r) ?_ ?_
  · skip
    refine cs_seq ?_
    refine cs_region (l := [_, _, _, _, _, _]) ?_
    refine ls_val (v := .string a0) rfl rfl (by kernel_rfl) (fun w => by kernel_rfl) ?_
    refine ls_val (v := .int .i64 (a0.size : Int)) rfl rfl (by kernel_rfl) (fun w => by kernel_rfl) ?_
    refine ls_val (v := .string a1) rfl rfl (by kernel_rfl) (fun w => by kernel_rfl) ?_
    refine ls_val (v := .int .i64 (a1.size : Int)) rfl rfl (by kernel_rfl) (fun w => by kernel_rfl) ?_
    obtain ⟨y34, hy35, H⟩ := lt_some H
    refine ls_val (v := .int .i64 (IntKind.wrap .i64 ((a0.size : Int) + (a1.size : Int)))) rfl rfl (by kernel_rfl) (fun w => by kernel_rfl) ?_
    refine ls_ren 17 (v := .int .i64 (IntKind.wrap .i64 ((a0.size : Int) + (a1.size : Int)))) (v' := .int .i64 y34) (by kernel_rfl) (by rw [hy35]) ?_
    refine ls_val (v := .bool (decide (y34 > (600 : Int)))) rfl rfl (by kernel_rfl) (fun w => by kernel_rfl) ?_
    refine ls_end ?_
    refine qn_then ?_
    by_cases q36 : y34 > (600 : Int)
    · replace H := ite_t q36 H
      refine cs_know (c := true) (dec_t q36) 18 (by kernel_rfl) ?_
      refine cs_true (by kernel_rfl) ?_
      refine cs_seq ?_
      refine cs_region (l := [_]) ?_
      refine ls_val (v := .bool true) rfl rfl (by kernel_rfl) (fun w => by kernel_rfl) ?_
      refine ls_end ?_
      refine qn_then ?_
      refine cs_ret' ?_
      refine qr_then ?_
      obtain rfl := Option.some.inj H
      refine qr_res (rs := [_]) rfl (fun w' hs => ⟨[.bool true], (res_tmp (by kernel_rfl) (.nil)), (), rfl, hs.pick (ts := []) (cs := []) trivial (by decide)⟩)
    · replace H := ite_f q36 H
      refine cs_know (c := false) (dec_f q36) 18 (by kernel_rfl) ?_
      refine cs_false (by kernel_rfl) ?_
      refine cs_skip' ?_
      refine qn_meet (sput s0 0 (some (Ck.var 45 g1 (en (Value.int .i64) a2.1)))) ⟨_, fr_next (fr_next (fr_next (rfl) (by kernel_rfl)) (by kernel_rfl)) (by kernel_rfl), rfl, H⟩ (sub_put (by exact rfl) (sub_nil _))
  · rintro f S ⟨fr1, rfl, rfl, H⟩
    replace H : (shadowboxlaw36_RecordOrder.lo6 a0 (shadowboxlaw36_RecordOrder.jo2 k a0 a1 a2) k (0 : Int)) = some r := H
    refine cs_cut (fun f S => ∃ (fR : Fr), f = upd (upd (upd fR 0 (.string a0)) 1 (.string a1)) 5 (.pointer (some ⟨g1, 0, none⟩)) ∧ S = sput s0 0 (some (Ck.var 45 g1 (en (Value.int .i64) a2.1))) ∧ shadowboxlaw36_RecordOrder.jo2 k a0 a1 a2 = some r) ?_ ?_
    · skip
      refine cs_seq ?_
      refine cs_region (l := [_]) ?_
      refine ls_val (v := .int .i64 (0 : Int)) rfl rfl (by kernel_rfl) (fun w => by kernel_rfl) ?_
      refine ls_end ?_
      refine qn_then ?_
      refine cs_block ?_
      refine cs_sub (sput s0 0 (some (Ck.var 45 g1 (en (Value.int .i64) a2.1)))) (sub_put (by exact rfl) (sub_nil _)) ?_
      refine cs_loop (fun kk f S => ∃ (fR : Fr) (x7_6 : Int), f = upd (upd (upd (upd fR 0 (.string a0)) 1 (.string a1)) 5 (.pointer (some ⟨g1, 0, none⟩))) 7 (.int .i64 x7_6) ∧ S = sput s0 0 (some (Ck.var 45 g1 (en (Value.int .i64) a2.1))) ∧ shadowboxlaw36_RecordOrder.lo6 a0 (shadowboxlaw36_RecordOrder.jo2 k a0 a1 a2) kk x7_6 = some r) k ?_ ?_ ?_
      · exact ⟨_, (0 : Int), fr_next (fr_next (fr_next (fr_next (rfl) (by kernel_rfl)) (by kernel_rfl)) (by kernel_rfl)) (by kernel_rfl), rfl, H⟩
      · rintro f S ⟨fr6, x7_6, rfl, rfl, H⟩; cases H
      · rintro k6 f S ⟨fr6, x7_6, rfl, rfl, H⟩
        replace H : ((if x7_6 < (a0.size : Int) then (if 0 ≤ x7_6 then (if (bt a0 x7_6) = (0 : Int) then some true else (shadowboxlaw36_RecordOrder.lo6 a0 (shadowboxlaw36_RecordOrder.jo2 k a0 a1 a2) k6) (IntKind.wrap .i64 (x7_6 + (1 : Int)))) else none) else (shadowboxlaw36_RecordOrder.jo2 k a0 a1 a2))) = some r := H
        refine cs_seq ?_
        refine cs_seq ?_
        refine cs_region (l := [_, _, _, _]) ?_
        refine ls_val (v := .int .i64 x7_6) rfl rfl (by kernel_rfl) (fun w => by kernel_rfl) ?_
        refine ls_val (v := .string a0) rfl rfl (by kernel_rfl) (fun w => by kernel_rfl) ?_
        refine ls_val (v := .int .i64 (a0.size : Int)) rfl rfl (by kernel_rfl) (fun w => by kernel_rfl) ?_
        refine ls_val (v := .bool (decide (x7_6 < (a0.size : Int)))) rfl rfl (by kernel_rfl) (fun w => by kernel_rfl) ?_
        refine ls_end ?_
        refine qn_then ?_
        by_cases q31 : x7_6 < (a0.size : Int)
        · replace H := ite_t q31 H
          refine cs_know (c := true) (dec_t q31) 22 (by kernel_rfl) ?_
          refine cs_true (by kernel_rfl) ?_
          refine cs_skip' ?_
          refine qn_then ?_
          refine cs_seq ?_
          refine cs_block ?_
          refine cs_seq ?_
          refine cs_region (l := [_, _, _, _]) ?_
          refine ls_val (v := .string a0) rfl rfl (by kernel_rfl) (fun w => by kernel_rfl) ?_
          refine ls_val (v := .int .i64 x7_6) rfl rfl (by kernel_rfl) (fun w => by kernel_rfl) ?_
          obtain ⟨q32, H⟩ := ite_need H
          refine ls_sidx (s := a0) (k := .i64) (i := x7_6) rfl rfl (by kernel_rfl) rfl (by kernel_rfl) (by kernel_rfl) (by kernel_rfl) q32 q31 ?_
          refine ls_val (v := .bool (decide ((bt a0 x7_6) = (0 : Int)))) rfl rfl (by kernel_rfl) (fun w => by kernel_rfl) ?_
          refine ls_end ?_
          refine qn_then ?_
          by_cases q33 : (bt a0 x7_6) = (0 : Int)
          · replace H := ite_t q33 H
            refine cs_know (c := true) (dec_t q33) 28 (by kernel_rfl) ?_
            refine cs_true (by kernel_rfl) ?_
            refine cs_seq ?_
            refine cs_region (l := [_]) ?_
            refine ls_val (v := .bool true) rfl rfl (by kernel_rfl) (fun w => by kernel_rfl) ?_
            refine ls_end ?_
            refine qn_then ?_
            refine cs_ret' ?_
            refine qr_block ?_
            refine qr_then ?_
            refine qr_then ?_
            refine qr_block ?_
            refine qr_then ?_
            obtain rfl := Option.some.inj H
            refine qr_res (rs := [_]) rfl (fun w' hs => ⟨[.bool true], (res_tmp (by kernel_rfl) (.nil)), (), rfl, hs.pick (ts := []) (cs := []) trivial (by decide)⟩)
          · replace H := ite_f q33 H
            refine cs_know (c := false) (dec_f q33) 28 (by kernel_rfl) ?_
            refine cs_false (by kernel_rfl) ?_
            refine cs_skip' ?_
            refine qn_block ?_
            refine qn_then ?_
            refine cs_region (l := [_, _, _]) ?_
            refine ls_val (v := .int .i64 x7_6) rfl rfl (by kernel_rfl) (fun w => by kernel_rfl) ?_
            refine ls_val (v := .int .i64 (IntKind.wrap .i64 (x7_6 + (1 : Int)))) rfl rfl (by kernel_rfl) (fun w => by kernel_rfl) ?_
            refine ls_val (v := .int .i64 (IntKind.wrap .i64 (x7_6 + (1 : Int)))) rfl rfl (by kernel_rfl) (fun w => by kernel_rfl) ?_
            refine ls_end ?_
            refine qn_again k6 (sput s0 0 (some (Ck.var 45 g1 (en (Value.int .i64) a2.1)))) (Nat.le_refl _) ⟨_, (IntKind.wrap .i64 (x7_6 + (1 : Int))), fr_next (fr_next (fr_next (fr_next (rfl) (by kernel_rfl)) (by kernel_rfl)) (by kernel_rfl)) (by kernel_rfl), rfl, H⟩ (sub_put (by exact rfl) (sub_nil _))
        · replace H := ite_f q31 H
          refine cs_know (c := false) (dec_f q31) 22 (by kernel_rfl) ?_
          refine cs_false (by kernel_rfl) ?_
          refine cs_exit' ?_
          refine qx_then ?_
          refine qx_then ?_
          refine qx_same ?_
          refine qn_meet (sput s0 0 (some (Ck.var 45 g1 (en (Value.int .i64) a2.1)))) ⟨_, fr_next (fr_next (fr_next (rfl) (by kernel_rfl)) (by kernel_rfl)) (by kernel_rfl), rfl, H⟩ (sub_put (by exact rfl) (sub_nil _))
    · rintro f S ⟨fr2, rfl, rfl, H⟩
      replace H : (shadowboxlaw36_RecordOrder.lo5 a1 (shadowboxlaw36_RecordOrder.jo3 k a0 a1 a2) k (0 : Int)) = some r := H
      refine cs_cut (fun f S => ∃ (fR : Fr), f = upd (upd (upd fR 0 (.string a0)) 1 (.string a1)) 5 (.pointer (some ⟨g1, 0, none⟩)) ∧ S = sput s0 0 (some (Ck.var 45 g1 (en (Value.int .i64) a2.1))) ∧ shadowboxlaw36_RecordOrder.jo3 k a0 a1 a2 = some r) ?_ ?_
      · skip
        refine cs_seq ?_
        refine cs_region (l := [_]) ?_
        refine ls_val (v := .int .i64 (0 : Int)) rfl rfl (by kernel_rfl) (fun w => by kernel_rfl) ?_
        refine ls_end ?_
        refine qn_then ?_
        refine cs_block ?_
        refine cs_sub (sput s0 0 (some (Ck.var 45 g1 (en (Value.int .i64) a2.1)))) (sub_put (by exact rfl) (sub_nil _)) ?_
        refine cs_loop (fun kk f S => ∃ (fR : Fr) (x8_5 : Int), f = upd (upd (upd (upd fR 0 (.string a0)) 1 (.string a1)) 5 (.pointer (some ⟨g1, 0, none⟩))) 8 (.int .i64 x8_5) ∧ S = sput s0 0 (some (Ck.var 45 g1 (en (Value.int .i64) a2.1))) ∧ shadowboxlaw36_RecordOrder.lo5 a1 (shadowboxlaw36_RecordOrder.jo3 k a0 a1 a2) kk x8_5 = some r) k ?_ ?_ ?_
        · exact ⟨_, (0 : Int), fr_next (fr_next (fr_next (fr_next (rfl) (by kernel_rfl)) (by kernel_rfl)) (by kernel_rfl)) (by kernel_rfl), rfl, H⟩
        · rintro f S ⟨fr5, x8_5, rfl, rfl, H⟩; cases H
        · rintro k5 f S ⟨fr5, x8_5, rfl, rfl, H⟩
          replace H : ((if x8_5 < (a1.size : Int) then (if 0 ≤ x8_5 then (if (bt a1 x8_5) = (0 : Int) then some true else (shadowboxlaw36_RecordOrder.lo5 a1 (shadowboxlaw36_RecordOrder.jo3 k a0 a1 a2) k5) (IntKind.wrap .i64 (x8_5 + (1 : Int)))) else none) else (shadowboxlaw36_RecordOrder.jo3 k a0 a1 a2))) = some r := H
          refine cs_seq ?_
          refine cs_seq ?_
          refine cs_region (l := [_, _, _, _]) ?_
          refine ls_val (v := .int .i64 x8_5) rfl rfl (by kernel_rfl) (fun w => by kernel_rfl) ?_
          refine ls_val (v := .string a1) rfl rfl (by kernel_rfl) (fun w => by kernel_rfl) ?_
          refine ls_val (v := .int .i64 (a1.size : Int)) rfl rfl (by kernel_rfl) (fun w => by kernel_rfl) ?_
          refine ls_val (v := .bool (decide (x8_5 < (a1.size : Int)))) rfl rfl (by kernel_rfl) (fun w => by kernel_rfl) ?_
          refine ls_end ?_
          refine qn_then ?_
          by_cases q28 : x8_5 < (a1.size : Int)
          · replace H := ite_t q28 H
            refine cs_know (c := true) (dec_t q28) 32 (by kernel_rfl) ?_
            refine cs_true (by kernel_rfl) ?_
            refine cs_skip' ?_
            refine qn_then ?_
            refine cs_seq ?_
            refine cs_block ?_
            refine cs_seq ?_
            refine cs_region (l := [_, _, _, _]) ?_
            refine ls_val (v := .string a1) rfl rfl (by kernel_rfl) (fun w => by kernel_rfl) ?_
            refine ls_val (v := .int .i64 x8_5) rfl rfl (by kernel_rfl) (fun w => by kernel_rfl) ?_
            obtain ⟨q29, H⟩ := ite_need H
            refine ls_sidx (s := a1) (k := .i64) (i := x8_5) rfl rfl (by kernel_rfl) rfl (by kernel_rfl) (by kernel_rfl) (by kernel_rfl) q29 q28 ?_
            refine ls_val (v := .bool (decide ((bt a1 x8_5) = (0 : Int)))) rfl rfl (by kernel_rfl) (fun w => by kernel_rfl) ?_
            refine ls_end ?_
            refine qn_then ?_
            by_cases q30 : (bt a1 x8_5) = (0 : Int)
            · replace H := ite_t q30 H
              refine cs_know (c := true) (dec_t q30) 38 (by kernel_rfl) ?_
              refine cs_true (by kernel_rfl) ?_
              refine cs_seq ?_
              refine cs_region (l := [_]) ?_
              refine ls_val (v := .bool true) rfl rfl (by kernel_rfl) (fun w => by kernel_rfl) ?_
              refine ls_end ?_
              refine qn_then ?_
              refine cs_ret' ?_
              refine qr_block ?_
              refine qr_then ?_
              refine qr_then ?_
              refine qr_block ?_
              refine qr_then ?_
              obtain rfl := Option.some.inj H
              refine qr_res (rs := [_]) rfl (fun w' hs => ⟨[.bool true], (res_tmp (by kernel_rfl) (.nil)), (), rfl, hs.pick (ts := []) (cs := []) trivial (by decide)⟩)
            · replace H := ite_f q30 H
              refine cs_know (c := false) (dec_f q30) 38 (by kernel_rfl) ?_
              refine cs_false (by kernel_rfl) ?_
              refine cs_skip' ?_
              refine qn_block ?_
              refine qn_then ?_
              refine cs_region (l := [_, _, _]) ?_
              refine ls_val (v := .int .i64 x8_5) rfl rfl (by kernel_rfl) (fun w => by kernel_rfl) ?_
              refine ls_val (v := .int .i64 (IntKind.wrap .i64 (x8_5 + (1 : Int)))) rfl rfl (by kernel_rfl) (fun w => by kernel_rfl) ?_
              refine ls_val (v := .int .i64 (IntKind.wrap .i64 (x8_5 + (1 : Int)))) rfl rfl (by kernel_rfl) (fun w => by kernel_rfl) ?_
              refine ls_end ?_
              refine qn_again k5 (sput s0 0 (some (Ck.var 45 g1 (en (Value.int .i64) a2.1)))) (Nat.le_refl _) ⟨_, (IntKind.wrap .i64 (x8_5 + (1 : Int))), fr_next (fr_next (fr_next (fr_next (rfl) (by kernel_rfl)) (by kernel_rfl)) (by kernel_rfl)) (by kernel_rfl), rfl, H⟩ (sub_put (by exact rfl) (sub_nil _))
          · replace H := ite_f q28 H
            refine cs_know (c := false) (dec_f q28) 32 (by kernel_rfl) ?_
            refine cs_false (by kernel_rfl) ?_
            refine cs_exit' ?_
            refine qx_then ?_
            refine qx_then ?_
            refine qx_same ?_
            refine qn_meet (sput s0 0 (some (Ck.var 45 g1 (en (Value.int .i64) a2.1)))) ⟨_, fr_next (fr_next (fr_next (rfl) (by kernel_rfl)) (by kernel_rfl)) (by kernel_rfl), rfl, H⟩ (sub_put (by exact rfl) (sub_nil _))
      · rintro f S ⟨fr3, rfl, rfl, H⟩
        replace H : ((if (0 : Int) < (2 : Int) then lt (bits .and .i64 (a2.1.getD ((0 : Int)).toNat (0 : Int)) (72057594037927935 : Int)) fun y5 => (if (1 : Int) < (2 : Int) then lt (bits .and .i64 (a2.1.getD ((1 : Int)).toNat (0 : Int)) (72057594037927935 : Int)) fun y8 => (record_Key.f k a0 (IntKind.wrap .i64 ((1 : Int) + y5))).bind fun t12 => (record_Key.f k a1 (IntKind.wrap .i64 ((1 : Int) + y8))).bind fun t15 => (record_Prefix.f k a0).bind fun t20 => (if (Op.bytesLess (strOfNums t12).toList (strOfNums t20).toList || ((strOfNums t12).toList == (strOfNums t20).toList)) = true then some false else (record_After.f k a0).bind fun t24 => (if (Op.bytesLess (strOfNums t12).toList (strOfNums t24).toList) = true then (shadowboxlaw36_RecordOrder.jo4 a0 a1 y5 y8 t12 t15) else some false)) else none) else none)) = some r := H
        refine cs_seq ?_
        obtain ⟨q4, H⟩ := ite_need H
        obtain ⟨s3_0, hs3_0⟩ : ∃ z : Value → Sto → Prop, z = (fun v R => v = .pointer (some ⟨g1, (0 + ((0 : Int)).toNat), none⟩) ∧ R = s0) := ⟨_, rfl⟩
        refine have_op (l := [_, _, _, _, _, _, _, _, _, _]) shadowboxlaw36_RecordOrder.tab1 1 0 (fun sp => sp 0 = s3_0) (fun sp on hA hon => ?_) (fun ops3_0 => ?_)
        · refine ⟨fun o ho vs Rs f' S' w hp hf hx hS hR hs => ?_⟩
          obtain rfl := Option.some.inj ho
          rw [hA, hs3_0]
          refine And.intro (fun a ha => (want_none rfl a ha).trans hon.symm) (And.intro (fun _ => ?_) (fun h => by rw [hon] at h; cases h))
          have hF := fr_next (rfl) ((hx 5 (by kernel_rfl)).trans (by kernel_rfl : (_ : Value) = .pointer (some ⟨g1, 0, none⟩)))
          refine ls_fr hF ?_
          refine ls_idxa1 (g := g1) (off := 0) (i := (0 : Int)) (kk := .i64) (ln := 2) (e := 3) rfl rfl (by kernel_rfl) rfl (by kernel_rfl) (by kernel_rfl) (by kernel_rfl) (by kernel_rfl) (by decide) q4 ?_
          exact ls_fin s0 (.pointer (some ⟨g1, (0 + ((0 : Int)).toNat), none⟩)) (congrArg (fun z => upd z 39 _) hF.symm) ⟨rfl, rfl⟩ (sub_nil _)
        obtain ⟨s3_1, hs3_1⟩ : ∃ z : Value → Sto → Prop, z = (fun v R => v = .int .i64 (a2.1.getD ((0 : Int)).toNat (0 : Int)) ∧ R = s0) := ⟨_, rfl⟩
        refine have_op (l := [_, _, _, _, _, _, _, _, _, _]) shadowboxlaw36_RecordOrder.tab1 1 1 (fun sp => sp 1 = s3_1 ∧ sp 0 = s3_0) (fun sp on hA hon => ?_) (fun ops3_1 => ?_)
        · refine ⟨fun o ho vs Rs f' S' w hp hf hx hS hR hs => ?_⟩
          obtain rfl := Option.some.inj ho
          obtain ⟨hv0, hR0⟩ := (spe hA.2 hs3_0 (hp 0 (by kernel_rfl)))
          rw [hA.1, hs3_1]
          refine And.intro (fun a ha => (want_none rfl a ha).trans hon.symm) (And.intro (fun _ => ?_) (fun h => by rw [hon] at h; cases h))
          have hF := fr_next (rfl) ((hf 0 39 (by kernel_rfl) rfl).trans hv0)
          refine ls_fr hF ?_
          refine ls_load (a0 := ⟨g1, (0 + ((0 : Int)).toNat), none⟩) (v := .int .i64 (a2.1.getD ((0 : Int)).toNat (0 : Int))) (de := (TypeDesc.int .i64)) rfl rfl (by kernel_rfl) rfl (by kernel_rfl) (by kernel_rfl) (by kernel_rfl) (fun w1 hs1 => cell_step hs1.below.bw (hs.var (k := 0) ((hS 0 (by kernel_rfl)).trans (by exact rfl)) (Sub4.trans (Sub4.all _) (Sub4.one (Value.int .i64) a2.1 0 (by have := a2.2; omega))))) ?_
          exact ls_fin s0 (.int .i64 (a2.1.getD ((0 : Int)).toNat (0 : Int))) (congrArg (fun z => upd z 40 _) hF.symm) ⟨rfl, rfl⟩ (sub_nil _)
        obtain ⟨y5, hy6, H⟩ := lt_some H
        obtain ⟨s3_2, hs3_2⟩ : ∃ z : Value → Sto → Prop, z = (fun v R => v = .int .i64 y5 ∧ R = s0) := ⟨_, rfl⟩
        refine have_op (l := [_, _, _, _, _, _, _, _, _, _]) shadowboxlaw36_RecordOrder.tab1 1 2 (fun sp => sp 2 = s3_2 ∧ sp 1 = s3_1) (fun sp on hA hon => ?_) (fun ops3_2 => ?_)
        · refine ⟨fun o ho vs Rs f' S' w hp hf hx hS hR hs => ?_⟩
          obtain rfl := Option.some.inj ho
          obtain ⟨hv1, hR1⟩ := (spe hA.2 hs3_1 (hp 1 (by kernel_rfl)))
          rw [hA.1, hs3_2]
          refine And.intro (fun a ha => (want_none rfl a ha).trans hon.symm) (And.intro (fun _ => ?_) (fun h => by rw [hon] at h; cases h))
          have hF := fr_next (rfl) ((hf 1 40 (by kernel_rfl) rfl).trans hv1)
          refine ls_fr hF ?_
          refine ls_val (v := .int .i64 (bits .and .i64 (a2.1.getD ((0 : Int)).toNat (0 : Int)) (72057594037927935 : Int))) rfl rfl (by kernel_rfl) (fun w => by kernel_rfl) ?_
          refine ls_ren 41 (v := .int .i64 (bits .and .i64 (a2.1.getD ((0 : Int)).toNat (0 : Int)) (72057594037927935 : Int))) (v' := .int .i64 y5) (by kernel_rfl) (by rw [hy6]) ?_
          exact ls_fin s0 (.int .i64 y5) ((upd_upd _ _ _ _).trans (congrArg (fun z => upd z 41 _) hF.symm)) ⟨rfl, rfl⟩ (sub_nil _)
        obtain ⟨s3_3, hs3_3⟩ : ∃ z : Value → Sto → Prop, z = (fun v R => v = .int .i64 (IntKind.wrap .i64 ((1 : Int) + y5)) ∧ R = s0) := ⟨_, rfl⟩
        refine have_op (l := [_, _, _, _, _, _, _, _, _, _]) shadowboxlaw36_RecordOrder.tab1 1 3 (fun sp => sp 3 = s3_3 ∧ sp 2 = s3_2) (fun sp on hA hon => ?_) (fun ops3_3 => ?_)
        · refine ⟨fun o ho vs Rs f' S' w hp hf hx hS hR hs => ?_⟩
          obtain rfl := Option.some.inj ho
          obtain ⟨hv2, hR2⟩ := (spe hA.2 hs3_2 (hp 2 (by kernel_rfl)))
          rw [hA.1, hs3_3]
          refine And.intro (fun a ha => (want_none rfl a ha).trans hon.symm) (And.intro (fun _ => ?_) (fun h => by rw [hon] at h; cases h))
          have hF := fr_next (rfl) ((hf 2 41 (by kernel_rfl) rfl).trans hv2)
          refine ls_fr hF ?_
          refine ls_val (v := .int .i64 (IntKind.wrap .i64 ((1 : Int) + y5))) rfl rfl (by kernel_rfl) (fun w => by kernel_rfl) ?_
          exact ls_fin s0 (.int .i64 (IntKind.wrap .i64 ((1 : Int) + y5))) (congrArg (fun z => upd z 42 _) hF.symm) ⟨rfl, rfl⟩ (sub_nil _)
        obtain ⟨q7, H⟩ := ite_need H
        obtain ⟨s3_4, hs3_4⟩ : ∃ z : Value → Sto → Prop, z = (fun v R => v = .pointer (some ⟨g1, (0 + ((1 : Int)).toNat), none⟩) ∧ R = s0) := ⟨_, rfl⟩
        refine have_op (l := [_, _, _, _, _, _, _, _, _, _]) shadowboxlaw36_RecordOrder.tab1 1 4 (fun sp => sp 4 = s3_4) (fun sp on hA hon => ?_) (fun ops3_4 => ?_)
        · refine ⟨fun o ho vs Rs f' S' w hp hf hx hS hR hs => ?_⟩
          obtain rfl := Option.some.inj ho
          rw [hA, hs3_4]
          refine And.intro (fun a ha => (want_none rfl a ha).trans hon.symm) (And.intro (fun _ => ?_) (fun h => by rw [hon] at h; cases h))
          have hF := fr_next (rfl) ((hx 5 (by kernel_rfl)).trans (by kernel_rfl : (_ : Value) = .pointer (some ⟨g1, 0, none⟩)))
          refine ls_fr hF ?_
          refine ls_idxa1 (g := g1) (off := 0) (i := (1 : Int)) (kk := .i64) (ln := 2) (e := 3) rfl rfl (by kernel_rfl) rfl (by kernel_rfl) (by kernel_rfl) (by kernel_rfl) (by kernel_rfl) (by decide) q7 ?_
          exact ls_fin s0 (.pointer (some ⟨g1, (0 + ((1 : Int)).toNat), none⟩)) (congrArg (fun z => upd z 43 _) hF.symm) ⟨rfl, rfl⟩ (sub_nil _)
        obtain ⟨s3_5, hs3_5⟩ : ∃ z : Value → Sto → Prop, z = (fun v R => v = .int .i64 (a2.1.getD ((1 : Int)).toNat (0 : Int)) ∧ R = s0) := ⟨_, rfl⟩
        refine have_op (l := [_, _, _, _, _, _, _, _, _, _]) shadowboxlaw36_RecordOrder.tab1 1 5 (fun sp => sp 5 = s3_5 ∧ sp 4 = s3_4) (fun sp on hA hon => ?_) (fun ops3_5 => ?_)
        · refine ⟨fun o ho vs Rs f' S' w hp hf hx hS hR hs => ?_⟩
          obtain rfl := Option.some.inj ho
          obtain ⟨hv4, hR4⟩ := (spe hA.2 hs3_4 (hp 4 (by kernel_rfl)))
          rw [hA.1, hs3_5]
          refine And.intro (fun a ha => (want_none rfl a ha).trans hon.symm) (And.intro (fun _ => ?_) (fun h => by rw [hon] at h; cases h))
          have hF := fr_next (rfl) ((hf 4 43 (by kernel_rfl) rfl).trans hv4)
          refine ls_fr hF ?_
          refine ls_load (a0 := ⟨g1, (0 + ((1 : Int)).toNat), none⟩) (v := .int .i64 (a2.1.getD ((1 : Int)).toNat (0 : Int))) (de := (TypeDesc.int .i64)) rfl rfl (by kernel_rfl) rfl (by kernel_rfl) (by kernel_rfl) (by kernel_rfl) (fun w1 hs1 => cell_step hs1.below.bw (hs.var (k := 0) ((hS 0 (by kernel_rfl)).trans (by exact rfl)) (Sub4.trans (Sub4.all _) (Sub4.one (Value.int .i64) a2.1 0 (by have := a2.2; omega))))) ?_
          exact ls_fin s0 (.int .i64 (a2.1.getD ((1 : Int)).toNat (0 : Int))) (congrArg (fun z => upd z 44 _) hF.symm) ⟨rfl, rfl⟩ (sub_nil _)
        obtain ⟨y8, hy9, H⟩ := lt_some H
        obtain ⟨s3_6, hs3_6⟩ : ∃ z : Value → Sto → Prop, z = (fun v R => v = .int .i64 y8 ∧ R = s0) := ⟨_, rfl⟩
        refine have_op (l := [_, _, _, _, _, _, _, _, _, _]) shadowboxlaw36_RecordOrder.tab1 1 6 (fun sp => sp 6 = s3_6 ∧ sp 5 = s3_5) (fun sp on hA hon => ?_) (fun ops3_6 => ?_)
        · refine ⟨fun o ho vs Rs f' S' w hp hf hx hS hR hs => ?_⟩
          obtain rfl := Option.some.inj ho
          obtain ⟨hv5, hR5⟩ := (spe hA.2 hs3_5 (hp 5 (by kernel_rfl)))
          rw [hA.1, hs3_6]
          refine And.intro (fun a ha => (want_none rfl a ha).trans hon.symm) (And.intro (fun _ => ?_) (fun h => by rw [hon] at h; cases h))
          have hF := fr_next (rfl) ((hf 5 44 (by kernel_rfl) rfl).trans hv5)
          refine ls_fr hF ?_
          refine ls_val (v := .int .i64 (bits .and .i64 (a2.1.getD ((1 : Int)).toNat (0 : Int)) (72057594037927935 : Int))) rfl rfl (by kernel_rfl) (fun w => by kernel_rfl) ?_
          refine ls_ren 45 (v := .int .i64 (bits .and .i64 (a2.1.getD ((1 : Int)).toNat (0 : Int)) (72057594037927935 : Int))) (v' := .int .i64 y8) (by kernel_rfl) (by rw [hy9]) ?_
          exact ls_fin s0 (.int .i64 y8) ((upd_upd _ _ _ _).trans (congrArg (fun z => upd z 45 _) hF.symm)) ⟨rfl, rfl⟩ (sub_nil _)
        obtain ⟨s3_7, hs3_7⟩ : ∃ z : Value → Sto → Prop, z = (fun v R => v = .int .i64 (IntKind.wrap .i64 ((1 : Int) + y8)) ∧ R = s0) := ⟨_, rfl⟩
        refine have_op (l := [_, _, _, _, _, _, _, _, _, _]) shadowboxlaw36_RecordOrder.tab1 1 7 (fun sp => sp 7 = s3_7 ∧ sp 6 = s3_6) (fun sp on hA hon => ?_) (fun ops3_7 => ?_)
        · refine ⟨fun o ho vs Rs f' S' w hp hf hx hS hR hs => ?_⟩
          obtain rfl := Option.some.inj ho
          obtain ⟨hv6, hR6⟩ := (spe hA.2 hs3_6 (hp 6 (by kernel_rfl)))
          rw [hA.1, hs3_7]
          refine And.intro (fun a ha => (want_none rfl a ha).trans hon.symm) (And.intro (fun _ => ?_) (fun h => by rw [hon] at h; cases h))
          have hF := fr_next (rfl) ((hf 6 45 (by kernel_rfl) rfl).trans hv6)
          refine ls_fr hF ?_
          refine ls_val (v := .int .i64 (IntKind.wrap .i64 ((1 : Int) + y8))) rfl rfl (by kernel_rfl) (fun w => by kernel_rfl) ?_
          exact ls_fin s0 (.int .i64 (IntKind.wrap .i64 ((1 : Int) + y8))) (congrArg (fun z => upd z 46 _) hF.symm) ⟨rfl, rfl⟩ (sub_nil _)
        obtain ⟨s3_8, hs3_8⟩ : ∃ z : Value → Sto → Prop, z = (fun v R => v = .int .i64 (IntKind.wrap .i64 ((1 : Int) + y5)) ∧ R = s0) := ⟨_, rfl⟩
        refine have_op (l := [_, _, _, _, _, _, _, _, _, _]) shadowboxlaw36_RecordOrder.tab1 1 8 (fun sp => sp 8 = s3_8 ∧ sp 3 = s3_3) (fun sp on hA hon => ?_) (fun ops3_8 => ?_)
        · refine ⟨fun o ho vs Rs f' S' w hp hf hx hS hR hs => ?_⟩
          obtain rfl := Option.some.inj ho
          obtain ⟨hv3, hR3⟩ := (spe hA.2 hs3_3 (hp 3 (by kernel_rfl)))
          rw [hA.1, hs3_8]
          refine And.intro (fun a ha => (want_none rfl a ha).trans hon.symm) (And.intro (fun _ => ?_) (fun h => by rw [hon] at h; cases h))
          have hF := fr_next (rfl) ((hf 3 42 (by kernel_rfl) rfl).trans hv3)
          refine ls_fr hF ?_
          refine ls_val (v := .int .i64 (IntKind.wrap .i64 ((1 : Int) + y5))) rfl rfl (by kernel_rfl) (fun w => by kernel_rfl) ?_
          exact ls_fin s0 (.int .i64 (IntKind.wrap .i64 ((1 : Int) + y5))) (congrArg (fun z => upd z 9 _) hF.symm) ⟨rfl, rfl⟩ (sub_nil _)
        refine cs_draw shadowboxlaw36_RecordOrder.tab1 9 1 (spl [s3_0, s3_1, s3_2, s3_3, s3_4, s3_5, s3_6, s3_7, s3_8]) (onl [true, true, true, true, true, true, true, true, true]) (by kernel_rfl) (by kernel_rfl) (by kernel_rfl) (by kernel_rfl) (rs := [_]) rfl (by kernel_rfl) (by kernel_rfl) (all_snoc (all_snoc (all_snoc (all_snoc (all_snoc (all_snoc (all_snoc (all_snoc (all_snoc (all_nil) (ops3_0 _ _ rfl rfl)) (ops3_1 _ _ ⟨rfl, rfl⟩ rfl)) (ops3_2 _ _ ⟨rfl, rfl⟩ rfl)) (ops3_3 _ _ ⟨rfl, rfl⟩ rfl)) (ops3_4 _ _ rfl rfl)) (ops3_5 _ _ ⟨rfl, rfl⟩ rfl)) (ops3_6 _ _ ⟨rfl, rfl⟩ rfl)) (ops3_7 _ _ ⟨rfl, rfl⟩ rfl)) (ops3_8 _ _ ⟨rfl, rfl⟩ rfl)) ?_
        intro vs Rs f' S' hp hf hx hS hR
        obtain ⟨hv7, hR7⟩ := (spe rfl hs3_7 (hp 7 (by kernel_rfl)))
        obtain ⟨hv8, hR8⟩ := (spe rfl hs3_8 (hp 8 (by kernel_rfl)))
        refine ls_fr (F := upd (upd (upd (upd f' 0 (.string a0)) 1 (.string a1)) 9 (.int .i64 (IntKind.wrap .i64 ((1 : Int) + y5)))) 46 (.int .i64 (IntKind.wrap .i64 ((1 : Int) + y8)))) (fr_next (fr_next (fr_next (fr_next (rfl) ((hx 0 (by kernel_rfl)).trans (by kernel_rfl : (_ : Value) = .string a0))) ((hx 1 (by kernel_rfl)).trans (by kernel_rfl : (_ : Value) = .string a1))) ((hf 8 9 (by kernel_rfl) rfl).trans hv8)) ((hf 7 46 (by kernel_rfl) rfl).trans hv7)) ?_
        refine ls_sub (s0) (sub_nil _) ?_
        refine ls_val (v := .int .i64 (IntKind.wrap .i64 ((1 : Int) + y8))) rfl rfl (by kernel_rfl) (fun w => by kernel_rfl) ?_
        refine ls_end ?_
        refine qn_then ?_
        refine cs_seq ?_
        obtain ⟨s11_0, hs11_0⟩ : ∃ z : Value → Sto → Prop, z = (fun v R => v = .string a0 ∧ R = s0) := ⟨_, rfl⟩
        refine have_op (l := [_, _, _, _, _, _, _, _, _, _]) shadowboxlaw36_RecordOrder.tab9 73 0 (fun sp => sp 0 = s11_0) (fun sp on hA hon => ?_) (fun ops11_0 => ?_)
        · refine ⟨fun o ho vs Rs f' S' w hp hf hx hS hR hs => ?_⟩
          obtain rfl := Option.some.inj ho
          rw [hA, hs11_0]
          refine And.intro (fun a ha => (want_none rfl a ha).trans hon.symm) (And.intro (fun _ => ?_) (fun h => by rw [hon] at h; cases h))
          have hF := fr_next (rfl) ((hx 0 (by kernel_rfl)).trans (by kernel_rfl : (_ : Value) = .string a0))
          refine ls_fr hF ?_
          refine ls_val (v := .string a0) rfl rfl (by kernel_rfl) (fun w => by kernel_rfl) ?_
          exact ls_fin s0 (.string a0) (congrArg (fun z => upd z 47 _) hF.symm) ⟨rfl, rfl⟩ (sub_nil _)
        obtain ⟨s11_1, hs11_1⟩ : ∃ z : Value → Sto → Prop, z = (fun v R => v = .int .i64 (IntKind.wrap .i64 ((1 : Int) + y5)) ∧ R = s0) := ⟨_, rfl⟩
        refine have_op (l := [_, _, _, _, _, _, _, _, _, _]) shadowboxlaw36_RecordOrder.tab9 73 1 (fun sp => sp 1 = s11_1) (fun sp on hA hon => ?_) (fun ops11_1 => ?_)
        · refine ⟨fun o ho vs Rs f' S' w hp hf hx hS hR hs => ?_⟩
          obtain rfl := Option.some.inj ho
          rw [hA, hs11_1]
          refine And.intro (fun a ha => (want_none rfl a ha).trans hon.symm) (And.intro (fun _ => ?_) (fun h => by rw [hon] at h; cases h))
          have hF := fr_next (rfl) ((hx 9 (by kernel_rfl)).trans (by kernel_rfl : (_ : Value) = .int .i64 (IntKind.wrap .i64 ((1 : Int) + y5))))
          refine ls_fr hF ?_
          refine ls_val (v := .int .i64 (IntKind.wrap .i64 ((1 : Int) + y5))) rfl rfl (by kernel_rfl) (fun w => by kernel_rfl) ?_
          exact ls_fin s0 (.int .i64 (IntKind.wrap .i64 ((1 : Int) + y5))) (congrArg (fun z => upd z 48 _) hF.symm) ⟨rfl, rfl⟩ (sub_nil _)
        obtain ⟨t12, hc13, H⟩ := bind_some H
        obtain ⟨s11_2, hs11_2⟩ : ∃ z : Value → Sto → Prop, z = (fun v R => ∃ x14 : (Option Addr × Nat), v = .slice x14.1 t12.length x14.2 ∧ R = stl [Ck.sl (Ec.int 5 .u8) x14.1 x14.2 t12]) := ⟨_, rfl⟩
        refine have_op (l := [_, _, _, _, _, _, _, _, _, _]) shadowboxlaw36_RecordOrder.tab9 73 2 (fun sp => sp 2 = s11_2 ∧ sp 0 = s11_0 ∧ sp 1 = s11_1) (fun sp on hA hon => ?_) (fun ops11_2 => ?_)
        · refine ⟨fun o ho vs Rs f' S' w hp hf hx hS hR hs => ?_⟩
          obtain rfl := Option.some.inj ho
          obtain ⟨hv0, hR0⟩ := (spe hA.2.1 hs11_0 (hp 0 (by kernel_rfl)))
          obtain ⟨hv1, hR1⟩ := (spe hA.2.2 hs11_1 (hp 1 (by kernel_rfl)))
          rw [hA.1, hs11_2]
          refine And.intro (fun a ha => (want_none rfl a ha).trans hon.symm) (And.intro (fun _ => ?_) (fun h => by rw [hon] at h; cases h))
          have hF := fr_next (fr_next (rfl) ((hf 0 47 (by kernel_rfl) rfl).trans hv0)) ((hf 1 48 (by kernel_rfl) rfl).trans hv1)
          refine ls_fr hF ?_
          refine ls_call (fid := 17) (vals := #[.string a0, .int .i64 (IntKind.wrap .i64 ((1 : Int) + y5))]) (X := (Option Addr × Nat)) (fun x => .slice x.1 t12.length x.2) (fun x => stl [Ck.sl (Ec.int 5 .u8) x.1 x.2 t12]) 0 rfl rfl (by kernel_rfl) (fun w => by kernel_rfl) (fun w1 hs1 => record_Key.calls k a0 (IntKind.wrap .i64 ((1 : Int) + y5)) t12 (bw w1) (St.refl w1)  hc13) ?_
          intro x14
          exact ls_fin (stl [Ck.sl (Ec.int 5 .u8) x14.1 x14.2 t12]) (.slice x14.1 t12.length x14.2) (congrArg (fun z => upd z 49 _) hF.symm) ⟨x14, rfl, rfl⟩ (sub_join _)
        obtain ⟨s11_3, hs11_3⟩ : ∃ z : Value → Sto → Prop, z = (fun v R => v = .string (strOfNums t12) ∧ R = s0) := ⟨_, rfl⟩
        refine have_op (l := [_, _, _, _, _, _, _, _, _, _]) shadowboxlaw36_RecordOrder.tab9 73 3 (fun sp => sp 3 = s11_3 ∧ sp 2 = s11_2) (fun sp on hA hon => ?_) (fun ops11_3 => ?_)
        · refine ⟨fun o ho vs Rs f' S' w hp hf hx hS hR hs => ?_⟩
          obtain rfl := Option.some.inj ho
          obtain ⟨x14, hv2, hR2⟩ := (spe hA.2 hs11_2 (hp 2 (by kernel_rfl)))
          have hT2_0 := (hR 2 0 (by kernel_rfl) (by decide)).trans (congrFun hR2 0)
          rw [hA.1, hs11_3]
          refine And.intro (fun a ha => (want_none rfl a ha).trans hon.symm) (And.intro (fun _ => ?_) (fun h => by rw [hon] at h; cases h))
          have hF := fr_next (rfl) ((hf 2 49 (by kernel_rfl) rfl).trans hv2)
          refine ls_fr hF ?_
          refine ls_str (A := x14.1) (c := x14.2) (e := 5) (l := t12) rfl rfl (by kernel_rfl) rfl (by kernel_rfl) (by kernel_rfl) (by kernel_rfl) (by kernel_rfl) (fun w1 hs1 => (Rd.step (hs.rd (k := 89) hT2_0) hs1.below.bw)) ?_
          exact ls_fin s0 (.string (strOfNums t12)) (congrArg (fun z => upd z 50 _) hF.symm) ⟨rfl, rfl⟩ (sub_nil _)
        obtain ⟨s11_4, hs11_4⟩ : ∃ z : Value → Sto → Prop, z = (fun v R => v = .string a1 ∧ R = s0) := ⟨_, rfl⟩
        refine have_op (l := [_, _, _, _, _, _, _, _, _, _]) shadowboxlaw36_RecordOrder.tab9 73 4 (fun sp => sp 4 = s11_4) (fun sp on hA hon => ?_) (fun ops11_4 => ?_)
        · refine ⟨fun o ho vs Rs f' S' w hp hf hx hS hR hs => ?_⟩
          obtain rfl := Option.some.inj ho
          rw [hA, hs11_4]
          refine And.intro (fun a ha => (want_none rfl a ha).trans hon.symm) (And.intro (fun _ => ?_) (fun h => by rw [hon] at h; cases h))
          have hF := fr_next (rfl) ((hx 1 (by kernel_rfl)).trans (by kernel_rfl : (_ : Value) = .string a1))
          refine ls_fr hF ?_
          refine ls_val (v := .string a1) rfl rfl (by kernel_rfl) (fun w => by kernel_rfl) ?_
          exact ls_fin s0 (.string a1) (congrArg (fun z => upd z 51 _) hF.symm) ⟨rfl, rfl⟩ (sub_nil _)
        obtain ⟨s11_5, hs11_5⟩ : ∃ z : Value → Sto → Prop, z = (fun v R => v = .int .i64 (IntKind.wrap .i64 ((1 : Int) + y8)) ∧ R = s0) := ⟨_, rfl⟩
        refine have_op (l := [_, _, _, _, _, _, _, _, _, _]) shadowboxlaw36_RecordOrder.tab9 73 5 (fun sp => sp 5 = s11_5) (fun sp on hA hon => ?_) (fun ops11_5 => ?_)
        · refine ⟨fun o ho vs Rs f' S' w hp hf hx hS hR hs => ?_⟩
          obtain rfl := Option.some.inj ho
          rw [hA, hs11_5]
          refine And.intro (fun a ha => (want_none rfl a ha).trans hon.symm) (And.intro (fun _ => ?_) (fun h => by rw [hon] at h; cases h))
          have hF := fr_next (rfl) ((hx 10 (by kernel_rfl)).trans (by kernel_rfl : (_ : Value) = .int .i64 (IntKind.wrap .i64 ((1 : Int) + y8))))
          refine ls_fr hF ?_
          refine ls_val (v := .int .i64 (IntKind.wrap .i64 ((1 : Int) + y8))) rfl rfl (by kernel_rfl) (fun w => by kernel_rfl) ?_
          exact ls_fin s0 (.int .i64 (IntKind.wrap .i64 ((1 : Int) + y8))) (congrArg (fun z => upd z 52 _) hF.symm) ⟨rfl, rfl⟩ (sub_nil _)
        obtain ⟨t15, hc16, H⟩ := bind_some H
        obtain ⟨s11_6, hs11_6⟩ : ∃ z : Value → Sto → Prop, z = (fun v R => ∃ x17 : (Option Addr × Nat), v = .slice x17.1 t15.length x17.2 ∧ R = stl [Ck.sl (Ec.int 5 .u8) x17.1 x17.2 t15]) := ⟨_, rfl⟩
        refine have_op (l := [_, _, _, _, _, _, _, _, _, _]) shadowboxlaw36_RecordOrder.tab9 73 6 (fun sp => sp 6 = s11_6 ∧ sp 4 = s11_4 ∧ sp 5 = s11_5) (fun sp on hA hon => ?_) (fun ops11_6 => ?_)
        · refine ⟨fun o ho vs Rs f' S' w hp hf hx hS hR hs => ?_⟩
          obtain rfl := Option.some.inj ho
          obtain ⟨hv4, hR4⟩ := (spe hA.2.1 hs11_4 (hp 4 (by kernel_rfl)))
          obtain ⟨hv5, hR5⟩ := (spe hA.2.2 hs11_5 (hp 5 (by kernel_rfl)))
          rw [hA.1, hs11_6]
          refine And.intro (fun a ha => (want_none rfl a ha).trans hon.symm) (And.intro (fun _ => ?_) (fun h => by rw [hon] at h; cases h))
          have hF := fr_next (fr_next (rfl) ((hf 4 51 (by kernel_rfl) rfl).trans hv4)) ((hf 5 52 (by kernel_rfl) rfl).trans hv5)
          refine ls_fr hF ?_
          refine ls_call (fid := 17) (vals := #[.string a1, .int .i64 (IntKind.wrap .i64 ((1 : Int) + y8))]) (X := (Option Addr × Nat)) (fun x => .slice x.1 t15.length x.2) (fun x => stl [Ck.sl (Ec.int 5 .u8) x.1 x.2 t15]) 0 rfl rfl (by kernel_rfl) (fun w => by kernel_rfl) (fun w1 hs1 => record_Key.calls k a1 (IntKind.wrap .i64 ((1 : Int) + y8)) t15 (bw w1) (St.refl w1)  hc16) ?_
          intro x17
          exact ls_fin (stl [Ck.sl (Ec.int 5 .u8) x17.1 x17.2 t15]) (.slice x17.1 t15.length x17.2) (congrArg (fun z => upd z 53 _) hF.symm) ⟨x17, rfl, rfl⟩ (sub_join _)
        obtain ⟨s11_7, hs11_7⟩ : ∃ z : Value → Sto → Prop, z = (fun v R => v = .string (strOfNums t15) ∧ R = s0) := ⟨_, rfl⟩
        refine have_op (l := [_, _, _, _, _, _, _, _, _, _]) shadowboxlaw36_RecordOrder.tab9 73 7 (fun sp => sp 7 = s11_7 ∧ sp 6 = s11_6) (fun sp on hA hon => ?_) (fun ops11_7 => ?_)
        · refine ⟨fun o ho vs Rs f' S' w hp hf hx hS hR hs => ?_⟩
          obtain rfl := Option.some.inj ho
          obtain ⟨x17, hv6, hR6⟩ := (spe hA.2 hs11_6 (hp 6 (by kernel_rfl)))
          have hT6_0 := (hR 6 0 (by kernel_rfl) (by decide)).trans (congrFun hR6 0)
          rw [hA.1, hs11_7]
          refine And.intro (fun a ha => (want_none rfl a ha).trans hon.symm) (And.intro (fun _ => ?_) (fun h => by rw [hon] at h; cases h))
          have hF := fr_next (rfl) ((hf 6 53 (by kernel_rfl) rfl).trans hv6)
          refine ls_fr hF ?_
          refine ls_str (A := x17.1) (c := x17.2) (e := 5) (l := t15) rfl rfl (by kernel_rfl) rfl (by kernel_rfl) (by kernel_rfl) (by kernel_rfl) (by kernel_rfl) (fun w1 hs1 => (Rd.step (hs.rd (k := 121) hT6_0) hs1.below.bw)) ?_
          exact ls_fin s0 (.string (strOfNums t15)) (congrArg (fun z => upd z 54 _) hF.symm) ⟨rfl, rfl⟩ (sub_nil _)
        obtain ⟨s11_8, hs11_8⟩ : ∃ z : Value → Sto → Prop, z = (fun v R => v = .string (strOfNums t12) ∧ R = s0) := ⟨_, rfl⟩
        refine have_op (l := [_, _, _, _, _, _, _, _, _, _]) shadowboxlaw36_RecordOrder.tab9 73 8 (fun sp => sp 8 = s11_8 ∧ sp 3 = s11_3) (fun sp on hA hon => ?_) (fun ops11_8 => ?_)
        · refine ⟨fun o ho vs Rs f' S' w hp hf hx hS hR hs => ?_⟩
          obtain rfl := Option.some.inj ho
          obtain ⟨hv3, hR3⟩ := (spe hA.2 hs11_3 (hp 3 (by kernel_rfl)))
          rw [hA.1, hs11_8]
          refine And.intro (fun a ha => (want_none rfl a ha).trans hon.symm) (And.intro (fun _ => ?_) (fun h => by rw [hon] at h; cases h))
          have hF := fr_next (rfl) ((hf 3 50 (by kernel_rfl) rfl).trans hv3)
          refine ls_fr hF ?_
          refine ls_val (v := .string (strOfNums t12)) rfl rfl (by kernel_rfl) (fun w => by kernel_rfl) ?_
          exact ls_fin s0 (.string (strOfNums t12)) (congrArg (fun z => upd z 11 _) hF.symm) ⟨rfl, rfl⟩ (sub_nil _)
        refine cs_draw shadowboxlaw36_RecordOrder.tab9 9 73 (spl [s11_0, s11_1, s11_2, s11_3, s11_4, s11_5, s11_6, s11_7, s11_8]) (onl [true, true, true, true, true, true, true, true, true]) (by kernel_rfl) (by kernel_rfl) (by kernel_rfl) (by kernel_rfl) (rs := [_]) rfl (by kernel_rfl) (by kernel_rfl) (all_snoc (all_snoc (all_snoc (all_snoc (all_snoc (all_snoc (all_snoc (all_snoc (all_snoc (all_nil) (ops11_0 _ _ rfl rfl)) (ops11_1 _ _ rfl rfl)) (ops11_2 _ _ ⟨rfl, rfl, rfl⟩ rfl)) (ops11_3 _ _ ⟨rfl, rfl⟩ rfl)) (ops11_4 _ _ rfl rfl)) (ops11_5 _ _ rfl rfl)) (ops11_6 _ _ ⟨rfl, rfl, rfl⟩ rfl)) (ops11_7 _ _ ⟨rfl, rfl⟩ rfl)) (ops11_8 _ _ ⟨rfl, rfl⟩ rfl)) ?_
        intro vs Rs f' S' hp hf hx hS hR
        obtain ⟨x14, hv2, hR2⟩ := (spe rfl hs11_2 (hp 2 (by kernel_rfl)))
        have hT2_0 := (hR 2 0 (by kernel_rfl) (by decide)).trans (congrFun hR2 0)
        obtain ⟨x17, hv6, hR6⟩ := (spe rfl hs11_6 (hp 6 (by kernel_rfl)))
        have hT6_0 := (hR 6 0 (by kernel_rfl) (by decide)).trans (congrFun hR6 0)
        obtain ⟨hv7, hR7⟩ := (spe rfl hs11_7 (hp 7 (by kernel_rfl)))
        obtain ⟨hv8, hR8⟩ := (spe rfl hs11_8 (hp 8 (by kernel_rfl)))
        refine ls_fr (F := upd (upd (upd (upd (upd (upd f' 0 (.string a0)) 1 (.string a1)) 9 (.int .i64 (IntKind.wrap .i64 ((1 : Int) + y5)))) 10 (.int .i64 (IntKind.wrap .i64 ((1 : Int) + y8)))) 11 (.string (strOfNums t12))) 54 (.string (strOfNums t15))) (fr_next (fr_next (fr_next (fr_next (fr_next (fr_next (rfl) ((hx 0 (by kernel_rfl)).trans (by kernel_rfl : (_ : Value) = .string a0))) ((hx 1 (by kernel_rfl)).trans (by kernel_rfl : (_ : Value) = .string a1))) ((hx 9 (by kernel_rfl)).trans (by kernel_rfl : (_ : Value) = .int .i64 (IntKind.wrap .i64 ((1 : Int) + y5))))) ((hx 10 (by kernel_rfl)).trans (by kernel_rfl : (_ : Value) = .int .i64 (IntKind.wrap .i64 ((1 : Int) + y8))))) ((hf 8 11 (by kernel_rfl) rfl).trans hv8)) ((hf 7 54 (by kernel_rfl) rfl).trans hv7)) ?_
        refine ls_sub (s0) (sub_nil _) ?_
        refine ls_val (v := .string (strOfNums t15)) rfl rfl (by kernel_rfl) (fun w => by kernel_rfl) ?_
        refine ls_end ?_
        refine qn_then ?_
        refine cs_cut (fun f S => ∃ (fR : Fr), f = upd (upd (upd (upd (upd (upd fR 0 (.string a0)) 1 (.string a1)) 9 (.int .i64 (IntKind.wrap .i64 ((1 : Int) + y5)))) 10 (.int .i64 (IntKind.wrap .i64 ((1 : Int) + y8)))) 11 (.string (strOfNums t12))) 12 (.string (strOfNums t15)) ∧ S = s0 ∧ shadowboxlaw36_RecordOrder.jo4 a0 a1 y5 y8 t12 t15 = some r) ?_ ?_
        · skip
          refine cs_seq ?_
          refine cs_region (l := [_, _, _, _, _, _, _, _, _, _, _, _]) ?_
          refine ls_val (v := .string (strOfNums t12)) rfl rfl (by kernel_rfl) (fun w => by kernel_rfl) ?_
          refine ls_val (v := .string a0) rfl rfl (by kernel_rfl) (fun w => by kernel_rfl) ?_
          obtain ⟨t20, hc21, H⟩ := bind_some H
          refine ls_callb (fid := 18) (vals := #[.string a0]) (X := (Option Addr × Nat)) (fun x => .slice x.1 t20.length x.2) (fun x => stl [Ck.sl (Ec.int 5 .u8) x.1 x.2 t20]) [] [] [] [] 145 rfl rfl (by kernel_rfl) (fun w => by kernel_rfl) trivial trivial (by decide) (fun w hs hb => record_Prefix.calls k a0 t20 (lent b w [] []) hb  hc21) ?_
          intro x22
          refine ls_str (A := x22.1) (c := x22.2) (e := 5) (l := t20) rfl rfl (by kernel_rfl) rfl (by kernel_rfl) (by kernel_rfl) (by kernel_rfl) (by kernel_rfl) (fun w hs => (hs.rd (k := 145) (by exact rfl))) ?_
          refine ls_val (v := .bool (Op.bytesLess (strOfNums t12).toList (strOfNums t20).toList || ((strOfNums t12).toList == (strOfNums t20).toList))) rfl rfl (by kernel_rfl) (fun w => by kernel_rfl) ?_
          refine ls_val (v := .bool (Op.bytesLess (strOfNums t12).toList (strOfNums t20).toList || ((strOfNums t12).toList == (strOfNums t20).toList))) rfl rfl (by kernel_rfl) (fun w => by kernel_rfl) ?_
          by_cases q23 : (Op.bytesLess (strOfNums t12).toList (strOfNums t20).toList || ((strOfNums t12).toList == (strOfNums t20).toList)) = true
          · replace H := ite_t q23 H
            refine ls_know (c := true) (q23) 60 (by kernel_rfl) ?_
            refine ls_off (j := 5) (t := 60) (b := false) (c := true) rfl rfl (by kernel_rfl) (by kernel_rfl) rfl rfl (by kernel_rfl) ?_
            refine ls_off (j := 5) (t := 60) (b := false) (c := true) rfl rfl (by kernel_rfl) (by kernel_rfl) rfl rfl (by kernel_rfl) ?_
            refine ls_off (j := 5) (t := 60) (b := false) (c := true) rfl rfl (by kernel_rfl) (by kernel_rfl) rfl rfl (by kernel_rfl) ?_
            refine ls_off (j := 5) (t := 60) (b := false) (c := true) rfl rfl (by kernel_rfl) (by kernel_rfl) rfl rfl (by kernel_rfl) ?_
            refine ls_off (j := 5) (t := 60) (b := false) (c := true) rfl rfl (by kernel_rfl) (by kernel_rfl) rfl rfl (by kernel_rfl) ?_
            refine ls_val (v := .bool true) rfl rfl (by kernel_rfl) (fun w => by kernel_rfl) ?_
            refine ls_end ?_
            refine qn_then ?_
            refine cs_true (by kernel_rfl) ?_
            refine cs_seq ?_
            refine cs_region (l := [_]) ?_
            refine ls_val (v := .bool false) rfl rfl (by kernel_rfl) (fun w => by kernel_rfl) ?_
            refine ls_end ?_
            refine qn_then ?_
            refine cs_ret' ?_
            refine qr_then ?_
            obtain rfl := Option.some.inj H
            refine qr_res (rs := [_]) rfl (fun w' hs => ⟨[.bool false], (res_tmp (by kernel_rfl) (.nil)), (), rfl, hs.pick (ts := []) (cs := []) trivial (by decide)⟩)
          · replace H := ite_f q23 H
            refine ls_know (c := false) (Bool.eq_false_iff.mpr q23) 60 (by kernel_rfl) ?_
            refine ls_on (j := 5) (t := 60) (b := false) rfl rfl (by kernel_rfl) (by kernel_rfl) ?_
            refine ls_val (v := .string (strOfNums t12)) rfl rfl (by kernel_rfl) (fun w => by kernel_rfl) ?_
            refine ls_on (j := 5) (t := 60) (b := false) rfl rfl (by kernel_rfl) (by kernel_rfl) ?_
            refine ls_val (v := .string a0) rfl rfl (by kernel_rfl) (fun w => by kernel_rfl) ?_
            refine ls_on (j := 5) (t := 60) (b := false) rfl rfl (by kernel_rfl) (by kernel_rfl) ?_
            obtain ⟨t24, hc25, H⟩ := bind_some H
            refine ls_callb (fid := 19) (vals := #[.string a0]) (X := (Option Addr × Nat)) (fun x => .slice x.1 t24.length x.2) (fun x => stl [Ck.sl (Ec.int 5 .u8) x.1 x.2 t24]) [] [] [] [] 146 rfl rfl (by kernel_rfl) (fun w => by kernel_rfl) trivial trivial (by decide) (fun w hs hb => record_After.calls k a0 t24 (lent b w [] []) hb  hc25) ?_
            intro x26
            refine ls_on (j := 5) (t := 60) (b := false) rfl rfl (by kernel_rfl) (by kernel_rfl) ?_
            refine ls_str (A := x26.1) (c := x26.2) (e := 5) (l := t24) rfl rfl (by kernel_rfl) rfl (by kernel_rfl) (by kernel_rfl) (by kernel_rfl) (by kernel_rfl) (fun w hs => (hs.rd (k := 146) (by exact rfl))) ?_
            refine ls_on (j := 5) (t := 60) (b := false) rfl rfl (by kernel_rfl) (by kernel_rfl) ?_
            refine ls_val (v := .bool (!(Op.bytesLess (strOfNums t12).toList (strOfNums t24).toList))) rfl rfl (by kernel_rfl) (fun w => by kernel_rfl) ?_
            refine ls_val (v := .bool (!(Op.bytesLess (strOfNums t12).toList (strOfNums t24).toList))) rfl rfl (by kernel_rfl) (fun w => by kernel_rfl) ?_
            refine ls_end ?_
            refine qn_then ?_
            by_cases q27 : (Op.bytesLess (strOfNums t12).toList (strOfNums t24).toList) = true
            · replace H := ite_t q27 H
              refine cs_know (c := false) (congrArg Bool.not (q27)) 66 (by kernel_rfl) ?_
              refine cs_false (by kernel_rfl) ?_
              refine cs_skip' ?_
              refine qn_meet (s0) ⟨_, fr_next (fr_next (fr_next (fr_next (fr_next (fr_next (rfl) (by kernel_rfl)) (by kernel_rfl)) (by kernel_rfl)) (by kernel_rfl)) (by kernel_rfl)) (by kernel_rfl), rfl, H⟩ (sub_nil _)
            · replace H := ite_f q27 H
              refine cs_know (c := true) (congrArg Bool.not (Bool.eq_false_iff.mpr q27)) 66 (by kernel_rfl) ?_
              refine cs_true (by kernel_rfl) ?_
              refine cs_seq ?_
              refine cs_region (l := [_]) ?_
              refine ls_val (v := .bool false) rfl rfl (by kernel_rfl) (fun w => by kernel_rfl) ?_
              refine ls_end ?_
              refine qn_then ?_
              refine cs_ret' ?_
              refine qr_then ?_
              obtain rfl := Option.some.inj H
              refine qr_res (rs := [_]) rfl (fun w' hs => ⟨[.bool false], (res_tmp (by kernel_rfl) (.nil)), (), rfl, hs.pick (ts := []) (cs := []) trivial (by decide)⟩)
        · rintro f S ⟨fr4, rfl, rfl, H⟩
          replace H : ((if (a0.toList == a1.toList) = true then (if ((Op.bytesLess (strOfNums t12).toList (strOfNums t15).toList) == decide ((IntKind.wrap .i64 ((1 : Int) + y5)) > (IntKind.wrap .i64 ((1 : Int) + y8)))) = true then some (((strOfNums t12).toList == (strOfNums t15).toList) == decide ((IntKind.wrap .i64 ((1 : Int) + y5)) = (IntKind.wrap .i64 ((1 : Int) + y8)))) else some false) else some ((Op.bytesLess (strOfNums t12).toList (strOfNums t15).toList) == (Op.bytesLess a0.toList a1.toList)))) = some r := H
          refine cs_seq ?_
          refine cs_seq ?_
          refine cs_region (l := [_, _, _]) ?_
          refine ls_val (v := .string a0) rfl rfl (by kernel_rfl) (fun w => by kernel_rfl) ?_
          refine ls_val (v := .string a1) rfl rfl (by kernel_rfl) (fun w => by kernel_rfl) ?_
          refine ls_val (v := .bool (a0.toList == a1.toList)) rfl rfl (by kernel_rfl) (fun w => by kernel_rfl) ?_
          refine ls_end ?_
          refine qn_then ?_
          by_cases q18 : (a0.toList == a1.toList) = true
          · replace H := ite_t q18 H
            refine cs_know (c := true) (q18) 69 (by kernel_rfl) ?_
            refine cs_true (by kernel_rfl) ?_
            refine cs_seq ?_
            refine cs_region (l := [_, _, _, _, _, _, _, _, _, _, _, _, _, _, _, _, _]) ?_
            refine ls_val (v := .string (strOfNums t12)) rfl rfl (by kernel_rfl) (fun w => by kernel_rfl) ?_
            refine ls_val (v := .string (strOfNums t15)) rfl rfl (by kernel_rfl) (fun w => by kernel_rfl) ?_
            refine ls_val (v := .bool (Op.bytesLess (strOfNums t12).toList (strOfNums t15).toList)) rfl rfl (by kernel_rfl) (fun w => by kernel_rfl) ?_
            refine ls_val (v := .int .i64 (IntKind.wrap .i64 ((1 : Int) + y5))) rfl rfl (by kernel_rfl) (fun w => by kernel_rfl) ?_
            refine ls_val (v := .int .i64 (IntKind.wrap .i64 ((1 : Int) + y8))) rfl rfl (by kernel_rfl) (fun w => by kernel_rfl) ?_
            refine ls_val (v := .bool (decide ((IntKind.wrap .i64 ((1 : Int) + y5)) > (IntKind.wrap .i64 ((1 : Int) + y8))))) rfl rfl (by kernel_rfl) (fun w => by kernel_rfl) ?_
            refine ls_val (v := .bool ((Op.bytesLess (strOfNums t12).toList (strOfNums t15).toList) == decide ((IntKind.wrap .i64 ((1 : Int) + y5)) > (IntKind.wrap .i64 ((1 : Int) + y8))))) rfl rfl (by kernel_rfl) (fun w => by kernel_rfl) ?_
            refine ls_val (v := .bool ((Op.bytesLess (strOfNums t12).toList (strOfNums t15).toList) == decide ((IntKind.wrap .i64 ((1 : Int) + y5)) > (IntKind.wrap .i64 ((1 : Int) + y8))))) rfl rfl (by kernel_rfl) (fun w => by kernel_rfl) ?_
            by_cases q19 : ((Op.bytesLess (strOfNums t12).toList (strOfNums t15).toList) == decide ((IntKind.wrap .i64 ((1 : Int) + y5)) > (IntKind.wrap .i64 ((1 : Int) + y8)))) = true
            · replace H := ite_t q19 H
              refine ls_know (c := true) (q19) 77 (by kernel_rfl) ?_
              refine ls_on (j := 7) (t := 77) (b := true) rfl rfl (by kernel_rfl) (by kernel_rfl) ?_
              refine ls_val (v := .string (strOfNums t12)) rfl rfl (by kernel_rfl) (fun w => by kernel_rfl) ?_
              refine ls_on (j := 7) (t := 77) (b := true) rfl rfl (by kernel_rfl) (by kernel_rfl) ?_
              refine ls_val (v := .string (strOfNums t15)) rfl rfl (by kernel_rfl) (fun w => by kernel_rfl) ?_
              refine ls_on (j := 7) (t := 77) (b := true) rfl rfl (by kernel_rfl) (by kernel_rfl) ?_
              refine ls_val (v := .bool ((strOfNums t12).toList == (strOfNums t15).toList)) rfl rfl (by kernel_rfl) (fun w => by kernel_rfl) ?_
              refine ls_on (j := 7) (t := 77) (b := true) rfl rfl (by kernel_rfl) (by kernel_rfl) ?_
              refine ls_val (v := .int .i64 (IntKind.wrap .i64 ((1 : Int) + y5))) rfl rfl (by kernel_rfl) (fun w => by kernel_rfl) ?_
              refine ls_on (j := 7) (t := 77) (b := true) rfl rfl (by kernel_rfl) (by kernel_rfl) ?_
              refine ls_val (v := .int .i64 (IntKind.wrap .i64 ((1 : Int) + y8))) rfl rfl (by kernel_rfl) (fun w => by kernel_rfl) ?_
              refine ls_on (j := 7) (t := 77) (b := true) rfl rfl (by kernel_rfl) (by kernel_rfl) ?_
              refine ls_val (v := .bool (decide ((IntKind.wrap .i64 ((1 : Int) + y5)) = (IntKind.wrap .i64 ((1 : Int) + y8))))) rfl rfl (by kernel_rfl) (fun w => by kernel_rfl) ?_
              refine ls_on (j := 7) (t := 77) (b := true) rfl rfl (by kernel_rfl) (by kernel_rfl) ?_
              refine ls_val (v := .bool (((strOfNums t12).toList == (strOfNums t15).toList) == decide ((IntKind.wrap .i64 ((1 : Int) + y5)) = (IntKind.wrap .i64 ((1 : Int) + y8))))) rfl rfl (by kernel_rfl) (fun w => by kernel_rfl) ?_
              refine ls_val (v := .bool (((strOfNums t12).toList == (strOfNums t15).toList) == decide ((IntKind.wrap .i64 ((1 : Int) + y5)) = (IntKind.wrap .i64 ((1 : Int) + y8))))) rfl rfl (by kernel_rfl) (fun w => by kernel_rfl) ?_
              refine ls_val (v := .bool (((strOfNums t12).toList == (strOfNums t15).toList) == decide ((IntKind.wrap .i64 ((1 : Int) + y5)) = (IntKind.wrap .i64 ((1 : Int) + y8))))) rfl rfl (by kernel_rfl) (fun w => by kernel_rfl) ?_
              refine ls_end ?_
              refine qn_then ?_
              refine cs_ret' ?_
              refine qr_then ?_
              obtain rfl := Option.some.inj H
              refine qr_res (rs := [_]) rfl (fun w' hs => ⟨[.bool (((strOfNums t12).toList == (strOfNums t15).toList) == decide ((IntKind.wrap .i64 ((1 : Int) + y5)) = (IntKind.wrap .i64 ((1 : Int) + y8))))], (res_tmp (by kernel_rfl) (.nil)), (), rfl, hs.pick (ts := []) (cs := []) trivial (by decide)⟩)
            · replace H := ite_f q19 H
              refine ls_know (c := false) (Bool.eq_false_iff.mpr q19) 77 (by kernel_rfl) ?_
              refine ls_off (j := 7) (t := 77) (b := true) (c := false) rfl rfl (by kernel_rfl) (by kernel_rfl) rfl rfl (by kernel_rfl) ?_
              refine ls_off (j := 7) (t := 77) (b := true) (c := false) rfl rfl (by kernel_rfl) (by kernel_rfl) rfl rfl (by kernel_rfl) ?_
              refine ls_off (j := 7) (t := 77) (b := true) (c := false) rfl rfl (by kernel_rfl) (by kernel_rfl) rfl rfl (by kernel_rfl) ?_
              refine ls_off (j := 7) (t := 77) (b := true) (c := false) rfl rfl (by kernel_rfl) (by kernel_rfl) rfl rfl (by kernel_rfl) ?_
              refine ls_off (j := 7) (t := 77) (b := true) (c := false) rfl rfl (by kernel_rfl) (by kernel_rfl) rfl rfl (by kernel_rfl) ?_
              refine ls_off (j := 7) (t := 77) (b := true) (c := false) rfl rfl (by kernel_rfl) (by kernel_rfl) rfl rfl (by kernel_rfl) ?_
              refine ls_off (j := 7) (t := 77) (b := true) (c := false) rfl rfl (by kernel_rfl) (by kernel_rfl) rfl rfl (by kernel_rfl) ?_
              refine ls_val (v := .bool false) rfl rfl (by kernel_rfl) (fun w => by kernel_rfl) ?_
              refine ls_val (v := .bool false) rfl rfl (by kernel_rfl) (fun w => by kernel_rfl) ?_
              refine ls_end ?_
              refine qn_then ?_
              refine cs_ret' ?_
              refine qr_then ?_
              obtain rfl := Option.some.inj H
              refine qr_res (rs := [_]) rfl (fun w' hs => ⟨[.bool false], (res_tmp (by kernel_rfl) (.nil)), (), rfl, hs.pick (ts := []) (cs := []) trivial (by decide)⟩)
          · replace H := ite_f q18 H
            refine cs_know (c := false) (Bool.eq_false_iff.mpr q18) 69 (by kernel_rfl) ?_
            refine cs_false (by kernel_rfl) ?_
            refine cs_skip' ?_
            refine qn_then ?_
            refine cs_seq ?_
            refine cs_region (l := [_, _, _, _, _, _, _, _]) ?_
            refine ls_val (v := .string (strOfNums t12)) rfl rfl (by kernel_rfl) (fun w => by kernel_rfl) ?_
            refine ls_val (v := .string (strOfNums t15)) rfl rfl (by kernel_rfl) (fun w => by kernel_rfl) ?_
            refine ls_val (v := .bool (Op.bytesLess (strOfNums t12).toList (strOfNums t15).toList)) rfl rfl (by kernel_rfl) (fun w => by kernel_rfl) ?_
            refine ls_val (v := .string a0) rfl rfl (by kernel_rfl) (fun w => by kernel_rfl) ?_
            refine ls_val (v := .string a1) rfl rfl (by kernel_rfl) (fun w => by kernel_rfl) ?_
            refine ls_val (v := .bool (Op.bytesLess a0.toList a1.toList)) rfl rfl (by kernel_rfl) (fun w => by kernel_rfl) ?_
            refine ls_val (v := .bool ((Op.bytesLess (strOfNums t12).toList (strOfNums t15).toList) == (Op.bytesLess a0.toList a1.toList))) rfl rfl (by kernel_rfl) (fun w => by kernel_rfl) ?_
            refine ls_val (v := .bool ((Op.bytesLess (strOfNums t12).toList (strOfNums t15).toList) == (Op.bytesLess a0.toList a1.toList))) rfl rfl (by kernel_rfl) (fun w => by kernel_rfl) ?_
            refine ls_end ?_
            refine qn_then ?_
            refine cs_ret' ?_
            obtain rfl := Option.some.inj H
            refine qr_res (rs := [_]) rfl (fun w' hs => ⟨[.bool ((Op.bytesLess (strOfNums t12).toList (strOfNums t15).toList) == (Op.bytesLess a0.toList a1.toList))], (res_tmp (by kernel_rfl) (.nil)), (), rfl, hs.pick (ts := []) (cs := []) trivial (by decide)⟩)

end Go.Proofs.Ythhhkphbhlafbaa.G
