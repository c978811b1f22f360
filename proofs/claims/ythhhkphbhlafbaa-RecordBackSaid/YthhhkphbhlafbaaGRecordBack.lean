/- Printed by a program of this session (sz.py): plain functions, and walks that show that the code comes to them; no condition. -/
import Derived.Test.YthhhkphbhlafbaaProg
import Derived.Test.YthhhkphbhlafbaaTy
import Derived.Test.YthhhkphbhlafbaaG0
import Derived.Test.YthhhkphbhlafbaaG1
import Derived.Test.YthhhkphbhlafbaaG2
set_option linter.unusedVariables false
set_option linter.unusedSimpArgs false
namespace Go.Proofs.Ythhhkphbhlafbaa.G
open Go Go.RowKit Go.Proofs.Ythhhkphbhlafbaa.Sx

/-! ### shadowbox/shadowboxlaw36.RecordBack: function 8 -/
def shadowboxlaw36_RecordBack.jo5 (a0 : (Int × Int × Int × Int × ByteArray × ByteArray × (List (ByteArray × ByteArray)))) (t10 : (Int × Int × Int × Int × ByteArray × ByteArray × (List (ByteArray × ByteArray))) × Int) : Option (Bool) := (if t10.1.1 = a0.1 then (if t10.1.2.1 = a0.2.1 then (if t10.1.2.2.1 = a0.2.2.1 then (if t10.1.2.2.2.1 = a0.2.2.2.1 then (if (t10.1.2.2.2.2.1.toList == a0.2.2.2.2.1.toList) = true then some (t10.1.2.2.2.2.2.1.toList == a0.2.2.2.2.2.1.toList) else some false) else some false) else some false) else some false) else some false)
def shadowboxlaw36_RecordBack.tab54 : List (List Nat) := [[], [0], [], [0, 1, 2], [0, 1, 2, 3], [], [5], [], [5, 6, 7], [5, 6, 7, 8], [0, 1, 2, 3, 4, 5, 6, 7, 8, 9]]
def shadowboxlaw36_RecordBack.lo6 (a0 : (Int × Int × Int × Int × ByteArray × ByteArray × (List (ByteArray × ByteArray)))) (t10 : (Int × Int × Int × Int × ByteArray × ByteArray × (List (ByteArray × ByteArray))) × Int) (jo5 : Option (Bool)) : Nat → Int → Option (Bool)
  | 0, _ => none
  | k6 + 1, x16_6 => (if x16_6 < (a0.2.2.2.2.2.2.length : Int) then (if 0 ≤ x16_6 then (if x16_6 < (t10.1.2.2.2.2.2.2.length : Int) then (if (((((t10.1.2.2.2.2.2.2).getD (x16_6).toNat (ByteArray.empty, ByteArray.empty)).1).toList == (((a0.2.2.2.2.2.2).getD (x16_6).toNat (ByteArray.empty, ByteArray.empty)).1).toList) && ((((t10.1.2.2.2.2.2.2).getD (x16_6).toNat (ByteArray.empty, ByteArray.empty)).2).toList == (((a0.2.2.2.2.2.2).getD (x16_6).toNat (ByteArray.empty, ByteArray.empty)).2).toList)) = true then (shadowboxlaw36_RecordBack.lo6 a0 t10 jo5 k6) (IntKind.wrap .i64 (x16_6 + (1 : Int))) else some false) else none) else none) else jo5)
def shadowboxlaw36_RecordBack.jo4 (k : Nat) (a0 : (Int × Int × Int × Int × ByteArray × ByteArray × (List (ByteArray × ByteArray)))) (t10 : (Int × Int × Int × Int × ByteArray × ByteArray × (List (ByteArray × ByteArray))) × Int) : Option (Bool) := shadowboxlaw36_RecordBack.lo6 a0 t10 (shadowboxlaw36_RecordBack.jo5 a0 t10) k (0 : Int)
def shadowboxlaw36_RecordBack.jo3 (k : Nat) (a0 : (Int × Int × Int × Int × ByteArray × ByteArray × (List (ByteArray × ByteArray)))) (a1 : ByteArray) (t2 : (List Int) × Int) : Option (Bool) := (record_Read.f k t2.1).bind fun t10 => (if (([] : List Int).length + t2.1.length) * 1 ≤ 140737488355328 then (if ((([] : List Int) ++ t2.1).length + ([(0 : Int)]).length) * 1 ≤ 140737488355328 then (record_Read.f k ((([] : List Int) ++ t2.1) ++ [(0 : Int)])).bind fun t33 => (record_Key.f k a1 a0.1).bind fun t43 => (record_Split.f k t43).bind fun t46 => (if t10.2 = (0 : Int) then (if t33.2 = (11 : Int) then (if t46.2.2 = true then (if (t46.1.toList == a1.toList) = true then (if t46.2.1 = a0.1 then (if (t10.1.2.2.2.2.2.2.length : Int) = (a0.2.2.2.2.2.2.length : Int) then (shadowboxlaw36_RecordBack.jo4 k a0 t10) else some false) else some false) else some false) else some false) else some false) else some false) else none) else none)
def shadowboxlaw36_RecordBack.jo2 (k : Nat) (a0 : (Int × Int × Int × Int × ByteArray × ByteArray × (List (ByteArray × ByteArray)))) (a1 : ByteArray) : Option (Bool) := (record_Put.f k (a0.1, a0.2.1, a0.2.2.1, a0.2.2.2.1, a0.2.2.2.2.1, a0.2.2.2.2.2.1, a0.2.2.2.2.2.2)).bind fun t2 => (if t2.2 = (0 : Int) then (shadowboxlaw36_RecordBack.jo3 k a0 a1 t2) else (record_Put.f k ((1 : Int), (1 : Int), (0 : Int), (0 : Int), ByteArray.empty, ByteArray.empty, ([] : List (ByteArray × ByteArray)))).bind fun t71 => (if (t2.1.length : Int) = (0 : Int) then (if t71.2 = (0 : Int) then some (decide ((t71.1.length : Int) = (7 : Int))) else some false) else some false))
def shadowboxlaw36_RecordBack.lo7 (a1 : ByteArray) (jo2 : Option (Bool)) : Nat → Int → Option (Bool)
  | 0, _ => none
  | k7 + 1, x5_7 => (if x5_7 < (a1.size : Int) then (if 0 ≤ x5_7 then (if (bt a1 x5_7) = (0 : Int) then some true else (shadowboxlaw36_RecordBack.lo7 a1 jo2 k7) (IntKind.wrap .i64 (x5_7 + (1 : Int)))) else none) else jo2)
def shadowboxlaw36_RecordBack.jo1 (k : Nat) (a0 : (Int × Int × Int × Int × ByteArray × ByteArray × (List (ByteArray × ByteArray)))) (a1 : ByteArray) : Option (Bool) := shadowboxlaw36_RecordBack.lo7 a1 (shadowboxlaw36_RecordBack.jo2 k a0 a1) k (0 : Int)
def shadowboxlaw36_RecordBack.f (k : Nat) (a0 : (Int × Int × Int × Int × ByteArray × ByteArray × (List (ByteArray × ByteArray)))) (a1 : ByteArray) : Option (Bool) :=
  (shadowboxlaw36_few.f k (a0.1, a0.2.1, a0.2.2.1, a0.2.2.2.1, a0.2.2.2.2.1, a0.2.2.2.2.2.1, a0.2.2.2.2.2.2)).bind fun t79 => (if t79 = true then (if (a1.size : Int) > (300 : Int) then some true else (shadowboxlaw36_RecordBack.jo1 k a0 a1)) else some true)
set_option maxRecDepth 100000 in
set_option maxHeartbeats 4000000 in
theorem shadowboxlaw36_RecordBack.calls (k : Nat) (A0_6 : Option Addr) (c0_6 : Nat) (a0 : (Int × Int × Int × Int × ByteArray × ByteArray × (List (ByteArray × ByteArray)))) (a1 : ByteArray) (r : Bool) (b : Bs) (hs0 : St b (stl []) b.w) (R0_6 : Ro b A0_6 (em T67 a0.2.2.2.2.2.2)) (C0_6 : a0.2.2.2.2.2.2.length ≤ c0_6) (H : shadowboxlaw36_RecordBack.f k a0 a1 = some r) :
    Calls Try.prog 8 #[.agg ⟨([Value.int .i64 a0.1] ++ ([Value.int .i64 a0.2.1] ++ ([Value.int .i64 a0.2.2.1] ++ ([Value.int .i64 a0.2.2.2.1] ++ ([Value.string a0.2.2.2.2.1] ++ ([Value.string a0.2.2.2.2.2.1] ++ [Value.slice A0_6 a0.2.2.2.2.2.2.length c0_6]))))))⟩, .string a1] b.w fun e w' => ∃ x : Unit, e = .returned (.bool r) ∧ St b (stl []) w' := by
  unfold shadowboxlaw36_RecordBack.f at H
  refine enterb (n := 170) Try.func8 rfl (by kernel_rfl) (by kernel_rfl) hs0 ?_
  refine cs_sub (s0) (sub_nil _) ?_
  refine cs_seq ?_
  refine cs_region (l := [_, _]) ?_
  refine ls_new rfl rfl (by kernel_rfl) 0 (fun g => .pointer (some ⟨g, 0, none⟩)) (.cells ⟨([Value.int .i64 a0.1] ++ ([Value.int .i64 a0.2.1] ++ ([Value.int .i64 a0.2.2.1] ++ ([Value.int .i64 a0.2.2.2.1] ++ ([Value.string a0.2.2.2.2.1] ++ ([Value.string a0.2.2.2.2.2.1] ++ [Value.slice A0_6 a0.2.2.2.2.2.2.length c0_6]))))))⟩ 51) (fun w => by kernel_rfl) ?_
  intro g1
  refine lv (.bool false) ?_
  refine ls_end ?_
  refine qn_then ?_
  refine cs_cut (fun f S => ∃ (fR : Fr), f = upd (upd fR 1 (.string a1)) 2 (.pointer (some ⟨g1, 0, none⟩)) ∧ S = sput s0 0 (some (Ck.var 51 g1 (([Value.int .i64 a0.1] ++ ([Value.int .i64 a0.2.1] ++ ([Value.int .i64 a0.2.2.1] ++ ([Value.int .i64 a0.2.2.2.1] ++ ([Value.string a0.2.2.2.2.1] ++ ([Value.string a0.2.2.2.2.2.1] ++ [Value.slice A0_6 a0.2.2.2.2.2.2.length c0_6]))))))))) ∧ shadowboxlaw36_RecordBack.jo1 k a0 a1 = some r) ?_ ?_
  · skip
    refine cs_seq ?_
    refine cs_region (l := [_, _, _, _, _, _, _, _]) ?_
    refine ls_loadagg (a := ⟨g1, 0, none⟩) (sub := ([Value.int .i64 a0.1] ++ ([Value.int .i64 a0.2.1] ++ ([Value.int .i64 a0.2.2.1] ++ ([Value.int .i64 a0.2.2.2.1] ++ ([Value.string a0.2.2.2.2.1] ++ ([Value.string a0.2.2.2.2.2.1] ++ [Value.slice A0_6 a0.2.2.2.2.2.2.length c0_6]))))))) rfl rfl (by kernel_rfl) rfl (by kernel_rfl) (by kernel_rfl) (by kernel_rfl) (len_app (len1 _) (len_app (len1 _) (len_app (len1 _) (len_app (len1 _) (len_app (len1 _) (len_app (len1 _) (len1 _))))))) (fun w hs => (hs.vars (k := 0) (by exact rfl) (Sub4.all _))) ?_
    obtain ⟨t79, hc80, H⟩ := bind_some H
    refine ls_callb (fid := 20) (vals := #[.agg ⟨([Value.int .i64 a0.1] ++ ([Value.int .i64 a0.2.1] ++ ([Value.int .i64 a0.2.2.1] ++ ([Value.int .i64 a0.2.2.2.1] ++ ([Value.string a0.2.2.2.2.1] ++ ([Value.string a0.2.2.2.2.2.1] ++ [Value.slice A0_6 a0.2.2.2.2.2.2.length c0_6]))))))⟩]) (X := Unit) (fun x => .bool t79) (fun x => stl []) [] [] [] [] 1 rfl rfl (by kernel_rfl) (fun w => by kernel_rfl) trivial trivial (by decide) (fun w hs hb => shadowboxlaw36_few.calls k A0_6 c0_6 (a0.1, a0.2.1, a0.2.2.1, a0.2.2.2.1, a0.2.2.2.2.1, a0.2.2.2.2.2.1, a0.2.2.2.2.2.2) t79 (lent b w [] []) hb (hs.ro R0_6 _ _) C0_6 hc80) ?_
    intro x81
    refine lv (.bool (!t79)) ?_
    refine lv (.bool (!t79)) ?_
    by_cases q82 : t79 = true
    · replace H := ite_t q82 H
      refine ls_know (c := false) (congrArg Bool.not (q82)) 20 (by kernel_rfl) ?_
      refine ls_on (j := 3) (t := 20) (b := false) rfl rfl (by kernel_rfl) (by kernel_rfl) ?_
      refine lv (.string a1) ?_
      refine ls_on (j := 3) (t := 20) (b := false) rfl rfl (by kernel_rfl) (by kernel_rfl) ?_
      refine lv (.int .i64 (a1.size : Int)) ?_
      refine ls_on (j := 3) (t := 20) (b := false) rfl rfl (by kernel_rfl) (by kernel_rfl) ?_
      refine lv (.bool (decide ((a1.size : Int) > (300 : Int)))) ?_
      refine lv (.bool (decide ((a1.size : Int) > (300 : Int)))) ?_
      refine ls_end ?_
      refine qn_then ?_
      by_cases q83 : (a1.size : Int) > (300 : Int)
      · replace H := ite_t q83 H
        refine cs_know (c := true) (dec_t q83) 24 (by kernel_rfl) ?_
        refine cs_true (by kernel_rfl) ?_
        refine cs_seq ?_
        refine cs_region (l := [_]) ?_
        refine lv (.bool true) ?_
        refine ls_end ?_
        refine qn_then ?_
        refine cs_ret' ?_
        refine qr_then ?_
        obtain rfl := Option.some.inj H
        refine qr_res (rs := [_]) rfl (fun w' hs => ⟨[.bool true], (res_tmp (by kernel_rfl) (.nil)), (), rfl, hs.pick (ts := []) (cs := []) trivial (by decide)⟩)
      replace H := ite_f q83 H
      refine cs_know (c := false) (dec_f q83) 24 (by kernel_rfl) ?_
      refine cs_false (by kernel_rfl) ?_
      refine cs_skip' ?_
      refine qn_meet (sput s0 0 (some (Ck.var 51 g1 (([Value.int .i64 a0.1] ++ ([Value.int .i64 a0.2.1] ++ ([Value.int .i64 a0.2.2.1] ++ ([Value.int .i64 a0.2.2.2.1] ++ ([Value.string a0.2.2.2.2.1] ++ ([Value.string a0.2.2.2.2.2.1] ++ [Value.slice A0_6 a0.2.2.2.2.2.2.length c0_6])))))))))) ⟨_, fr_next (fr_next (rfl) (by kernel_rfl)) (by kernel_rfl), rfl, H⟩ (sub_put (by exact rfl) (sub_nil _))
    replace H := ite_f q82 H
    refine ls_know (c := true) (congrArg Bool.not (Bool.eq_false_iff.mpr q82)) 20 (by kernel_rfl) ?_
    refine lofx 3 20 false true ?_
    refine lofx 3 20 false true ?_
    refine lofx 3 20 false true ?_
    refine lv (.bool true) ?_
    refine ls_end ?_
    refine qn_then ?_
    refine cs_true (by kernel_rfl) ?_
    refine cs_seq ?_
    refine cs_region (l := [_]) ?_
    refine lv (.bool true) ?_
    refine ls_end ?_
    refine qn_then ?_
    refine cs_ret' ?_
    refine qr_then ?_
    obtain rfl := Option.some.inj H
    refine qr_res (rs := [_]) rfl (fun w' hs => ⟨[.bool true], (res_tmp (by kernel_rfl) (.nil)), (), rfl, hs.pick (ts := []) (cs := []) trivial (by decide)⟩)
  rintro f S ⟨fr1, rfl, rfl, H⟩
  replace H : (shadowboxlaw36_RecordBack.lo7 a1 (shadowboxlaw36_RecordBack.jo2 k a0 a1) k (0 : Int)) = some r := H
  refine cs_cut (fun f S => ∃ (fR : Fr), f = upd (upd fR 1 (.string a1)) 2 (.pointer (some ⟨g1, 0, none⟩)) ∧ S = sput s0 0 (some (Ck.var 51 g1 (([Value.int .i64 a0.1] ++ ([Value.int .i64 a0.2.1] ++ ([Value.int .i64 a0.2.2.1] ++ ([Value.int .i64 a0.2.2.2.1] ++ ([Value.string a0.2.2.2.2.1] ++ ([Value.string a0.2.2.2.2.2.1] ++ [Value.slice A0_6 a0.2.2.2.2.2.2.length c0_6]))))))))) ∧ shadowboxlaw36_RecordBack.jo2 k a0 a1 = some r) ?_ ?_
  · skip
    refine cs_seq ?_
    refine cs_region (l := [_]) ?_
    refine lv (.int .i64 (0 : Int)) ?_
    refine ls_end ?_
    refine qn_then ?_
    refine cs_block ?_
    refine cs_sub (sput s0 0 (some (Ck.var 51 g1 (([Value.int .i64 a0.1] ++ ([Value.int .i64 a0.2.1] ++ ([Value.int .i64 a0.2.2.1] ++ ([Value.int .i64 a0.2.2.2.1] ++ ([Value.string a0.2.2.2.2.1] ++ ([Value.string a0.2.2.2.2.2.1] ++ [Value.slice A0_6 a0.2.2.2.2.2.2.length c0_6])))))))))) (sub_put (by exact rfl) (sub_nil _)) ?_
    refine cs_loop (fun kk f S => ∃ (fR : Fr) (x5_7 : Int), f = upd (upd (upd fR 1 (.string a1)) 2 (.pointer (some ⟨g1, 0, none⟩))) 5 (.int .i64 x5_7) ∧ S = sput s0 0 (some (Ck.var 51 g1 (([Value.int .i64 a0.1] ++ ([Value.int .i64 a0.2.1] ++ ([Value.int .i64 a0.2.2.1] ++ ([Value.int .i64 a0.2.2.2.1] ++ ([Value.string a0.2.2.2.2.1] ++ ([Value.string a0.2.2.2.2.2.1] ++ [Value.slice A0_6 a0.2.2.2.2.2.2.length c0_6]))))))))) ∧ shadowboxlaw36_RecordBack.lo7 a1 (shadowboxlaw36_RecordBack.jo2 k a0 a1) kk x5_7 = some r) k ?_ ?_ ?_
    · exact ⟨_, (0 : Int), fr_next (fr_next (fr_next (rfl) (by kernel_rfl)) (by kernel_rfl)) (by kernel_rfl), rfl, H⟩
    · rintro f S ⟨fr7, x5_7, rfl, rfl, H⟩; cases H
    rintro k7 f S ⟨fr7, x5_7, rfl, rfl, H⟩
    replace H : ((if x5_7 < (a1.size : Int) then (if 0 ≤ x5_7 then (if (bt a1 x5_7) = (0 : Int) then some true else (shadowboxlaw36_RecordBack.lo7 a1 (shadowboxlaw36_RecordBack.jo2 k a0 a1) k7) (IntKind.wrap .i64 (x5_7 + (1 : Int)))) else none) else (shadowboxlaw36_RecordBack.jo2 k a0 a1))) = some r := H
    refine cs_seq ?_
    refine cs_seq ?_
    refine cs_region (l := [_, _, _, _]) ?_
    refine lv (.int .i64 x5_7) ?_
    refine lv (.string a1) ?_
    refine lv (.int .i64 (a1.size : Int)) ?_
    refine lv (.bool (decide (x5_7 < (a1.size : Int)))) ?_
    refine ls_end ?_
    refine qn_then ?_
    by_cases q76 : x5_7 < (a1.size : Int)
    · replace H := ite_t q76 H
      refine cs_know (c := true) (dec_t q76) 28 (by kernel_rfl) ?_
      refine cs_true (by kernel_rfl) ?_
      refine cs_skip' ?_
      refine qn_then ?_
      refine cs_seq ?_
      refine cs_block ?_
      refine cs_seq ?_
      refine cs_region (l := [_, _, _, _]) ?_
      refine lv (.string a1) ?_
      refine lv (.int .i64 x5_7) ?_
      obtain ⟨q77, H⟩ := ite_need H
      refine ls_sidx (s := a1) (k := .i64) (i := x5_7) rfl rfl (by kernel_rfl) rfl (by kernel_rfl) (by kernel_rfl) (by kernel_rfl) q77 q76 ?_
      refine lv (.bool (decide ((bt a1 x5_7) = (0 : Int)))) ?_
      refine ls_end ?_
      refine qn_then ?_
      by_cases q78 : (bt a1 x5_7) = (0 : Int)
      · replace H := ite_t q78 H
        refine cs_know (c := true) (dec_t q78) 34 (by kernel_rfl) ?_
        refine cs_true (by kernel_rfl) ?_
        refine cs_seq ?_
        refine cs_region (l := [_]) ?_
        refine lv (.bool true) ?_
        refine ls_end ?_
        refine qn_then ?_
        refine cs_ret' ?_
        refine qr_block ?_
        refine qr_then ?_
        refine qr_then ?_
        refine qr_block ?_
        refine qr_then ?_
        obtain rfl := Option.some.inj H
        refine qr_res (rs := [_]) rfl (fun w' hs => ⟨[.bool true], (res_tmp (by kernel_rfl) (.nil)), (), rfl, hs.pick (ts := []) (cs := []) trivial (by decide)⟩)
      replace H := ite_f q78 H
      refine cs_know (c := false) (dec_f q78) 34 (by kernel_rfl) ?_
      refine cs_false (by kernel_rfl) ?_
      refine cs_skip' ?_
      refine qn_block ?_
      refine qn_then ?_
      refine cs_region (l := [_, _, _]) ?_
      refine lv (.int .i64 x5_7) ?_
      refine lv (.int .i64 (IntKind.wrap .i64 (x5_7 + (1 : Int)))) ?_
      refine lv (.int .i64 (IntKind.wrap .i64 (x5_7 + (1 : Int)))) ?_
      refine ls_end ?_
      refine qn_again k7 (sput s0 0 (some (Ck.var 51 g1 (([Value.int .i64 a0.1] ++ ([Value.int .i64 a0.2.1] ++ ([Value.int .i64 a0.2.2.1] ++ ([Value.int .i64 a0.2.2.2.1] ++ ([Value.string a0.2.2.2.2.1] ++ ([Value.string a0.2.2.2.2.2.1] ++ [Value.slice A0_6 a0.2.2.2.2.2.2.length c0_6])))))))))) (Nat.le_refl _) ⟨_, (IntKind.wrap .i64 (x5_7 + (1 : Int))), fr_next (fr_next (fr_next (rfl) (by kernel_rfl)) (by kernel_rfl)) (by kernel_rfl), rfl, H⟩ (sub_put (by exact rfl) (sub_nil _))
    replace H := ite_f q76 H
    refine cs_know (c := false) (dec_f q76) 28 (by kernel_rfl) ?_
    refine cs_false (by kernel_rfl) ?_
    refine cs_exit' ?_
    refine qx_then ?_
    refine qx_then ?_
    refine qx_same ?_
    refine qn_meet (sput s0 0 (some (Ck.var 51 g1 (([Value.int .i64 a0.1] ++ ([Value.int .i64 a0.2.1] ++ ([Value.int .i64 a0.2.2.1] ++ ([Value.int .i64 a0.2.2.2.1] ++ ([Value.string a0.2.2.2.2.1] ++ ([Value.string a0.2.2.2.2.2.1] ++ [Value.slice A0_6 a0.2.2.2.2.2.2.length c0_6])))))))))) ⟨_, fr_next (fr_next (rfl) (by kernel_rfl)) (by kernel_rfl), rfl, H⟩ (sub_put (by exact rfl) (sub_nil _))
  rintro f S ⟨fr2, rfl, rfl, H⟩
  replace H : ((record_Put.f k (a0.1, a0.2.1, a0.2.2.1, a0.2.2.2.1, a0.2.2.2.2.1, a0.2.2.2.2.2.1, a0.2.2.2.2.2.2)).bind fun t2 => (if t2.2 = (0 : Int) then (shadowboxlaw36_RecordBack.jo3 k a0 a1 t2) else (record_Put.f k ((1 : Int), (1 : Int), (0 : Int), (0 : Int), ByteArray.empty, ByteArray.empty, ([] : List (ByteArray × ByteArray)))).bind fun t71 => (if (t2.1.length : Int) = (0 : Int) then (if t71.2 = (0 : Int) then some (decide ((t71.1.length : Int) = (7 : Int))) else some false) else some false))) = some r := H
  refine cs_seq ?_
  refine cs_region (l := [_, _, _, _, _, _, _]) ?_
  refine ls_loadagg (a := ⟨g1, 0, none⟩) (sub := ([Value.int .i64 a0.1] ++ ([Value.int .i64 a0.2.1] ++ ([Value.int .i64 a0.2.2.1] ++ ([Value.int .i64 a0.2.2.2.1] ++ ([Value.string a0.2.2.2.2.1] ++ ([Value.string a0.2.2.2.2.2.1] ++ [Value.slice A0_6 a0.2.2.2.2.2.2.length c0_6]))))))) rfl rfl (by kernel_rfl) rfl (by kernel_rfl) (by kernel_rfl) (by kernel_rfl) (len_app (len1 _) (len_app (len1 _) (len_app (len1 _) (len_app (len1 _) (len_app (len1 _) (len_app (len1 _) (len1 _))))))) (fun w hs => (hs.vars (k := 0) (by exact rfl) (Sub4.all _))) ?_
  obtain ⟨t2, hc3, H⟩ := bind_some H
  refine ls_callb (fid := 21) (vals := #[.agg ⟨([Value.int .i64 a0.1] ++ ([Value.int .i64 a0.2.1] ++ ([Value.int .i64 a0.2.2.1] ++ ([Value.int .i64 a0.2.2.2.1] ++ ([Value.string a0.2.2.2.2.1] ++ ([Value.string a0.2.2.2.2.2.1] ++ [Value.slice A0_6 a0.2.2.2.2.2.2.length c0_6]))))))⟩]) (X := (Option Addr × Nat)) (fun x => .tuple #[.slice x.1 t2.1.length x.2, .int .i64 t2.2]) (fun x => stl [Ck.ro (Ec.int 5 .u8) x.1 x.2 t2.1]) [] [] [] [] 1 rfl rfl (by kernel_rfl) (fun w => by kernel_rfl) trivial trivial (by decide) (fun w hs hb => record_Put.calls k A0_6 c0_6 (a0.1, a0.2.1, a0.2.2.1, a0.2.2.2.1, a0.2.2.2.2.1, a0.2.2.2.2.2.1, a0.2.2.2.2.2.2) t2 (lent b w [] []) hb (hs.ro R0_6 _ _) C0_6 hc3) ?_
  intro x4
  refine lv (.tuple #[.slice x4.1 t2.1.length x4.2, .int .i64 t2.2]) ?_
  refine lv (.slice x4.1 t2.1.length x4.2) ?_
  refine lv (.int .i64 t2.2) ?_
  refine lv (.slice x4.1 t2.1.length x4.2) ?_
  refine lv (.int .i64 t2.2) ?_
  refine ls_end ?_
  refine qn_then ?_
  refine cs_cut (fun f S => ∃ (fR : Fr), f = upd (upd (upd fR 1 (.string a1)) 2 (.pointer (some ⟨g1, 0, none⟩))) 6 (.slice x4.1 t2.1.length x4.2) ∧ S = sput (sput s0 0 (some (Ck.var 51 g1 (([Value.int .i64 a0.1] ++ ([Value.int .i64 a0.2.1] ++ ([Value.int .i64 a0.2.2.1] ++ ([Value.int .i64 a0.2.2.2.1] ++ ([Value.string a0.2.2.2.2.1] ++ ([Value.string a0.2.2.2.2.2.1] ++ [Value.slice A0_6 a0.2.2.2.2.2.2.length c0_6])))))))))) 1 (some (Ck.ro (Ec.int 5 .u8) x4.1 x4.2 t2.1)) ∧ shadowboxlaw36_RecordBack.jo3 k a0 a1 t2 = some r) ?_ ?_
  · skip
    refine cs_seq ?_
    refine cs_region (l := [_, _]) ?_
    refine lv (.int .i64 t2.2) ?_
    refine lv (.bool (!decide (t2.2 = (0 : Int)))) ?_
    refine ls_end ?_
    refine qn_then ?_
    by_cases q70 : t2.2 = (0 : Int)
    · replace H := ite_t q70 H
      refine cs_know (c := false) (congrArg Bool.not (dec_t q70)) 41 (by kernel_rfl) ?_
      refine cs_false (by kernel_rfl) ?_
      refine cs_skip' ?_
      refine qn_meet (sput (sput s0 0 (some (Ck.var 51 g1 (([Value.int .i64 a0.1] ++ ([Value.int .i64 a0.2.1] ++ ([Value.int .i64 a0.2.2.1] ++ ([Value.int .i64 a0.2.2.2.1] ++ ([Value.string a0.2.2.2.2.1] ++ ([Value.string a0.2.2.2.2.2.1] ++ [Value.slice A0_6 a0.2.2.2.2.2.2.length c0_6])))))))))) 1 (some (Ck.ro (Ec.int 5 .u8) x4.1 x4.2 t2.1))) ⟨_, fr_next (fr_next (fr_next (rfl) (by kernel_rfl)) (by kernel_rfl)) (by kernel_rfl), rfl, H⟩ (sub_put (by exact rfl) (sub_put (by exact rfl) (sub_nil _)))
    replace H := ite_f q70 H
    refine cs_know (c := true) (congrArg Bool.not (dec_f q70)) 41 (by kernel_rfl) ?_
    refine cs_true (by kernel_rfl) ?_
    refine cs_seq ?_
    refine cs_region (l := [_, _, _, _, _, _, _]) ?_
    refine lv (.agg ⟨([Value.int .i64 (1 : Int)] ++ ([Value.int .i64 (1 : Int)] ++ ([Value.int .i64 (0 : Int)] ++ ([Value.int .i64 (0 : Int)] ++ ([Value.string ByteArray.empty] ++ ([Value.string ByteArray.empty] ++ [Value.slice none 0 0]))))))⟩) ?_
    obtain ⟨t71, hc72, H⟩ := bind_some H
    refine ls_callb (fid := 21) (vals := #[.agg ⟨([Value.int .i64 (1 : Int)] ++ ([Value.int .i64 (1 : Int)] ++ ([Value.int .i64 (0 : Int)] ++ ([Value.int .i64 (0 : Int)] ++ ([Value.string ByteArray.empty] ++ ([Value.string ByteArray.empty] ++ [Value.slice none 0 0]))))))⟩]) (X := (Option Addr × Nat)) (fun x => .tuple #[.slice x.1 t71.1.length x.2, .int .i64 t71.2]) (fun x => stl [Ck.ro (Ec.int 5 .u8) x.1 x.2 t71.1]) [] [] [] [] 2 rfl rfl (by kernel_rfl) (fun w => by kernel_rfl) trivial trivial (by decide) (fun w hs hb => record_Put.calls k none 0 ((1 : Int), (1 : Int), (0 : Int), (0 : Int), ByteArray.empty, ByteArray.empty, ([] : List (ByteArray × ByteArray))) t71 (lent b w [] []) hb (Ro.nil _ _) (Nat.le_refl 0) hc72) ?_
    intro x73
    refine lv (.tuple #[.slice x73.1 t71.1.length x73.2, .int .i64 t71.2]) ?_
    refine lv (.slice x73.1 t71.1.length x73.2) ?_
    refine lv (.int .i64 t71.2) ?_
    refine lv (.slice x73.1 t71.1.length x73.2) ?_
    refine lv (.int .i64 t71.2) ?_
    refine ls_end ?_
    refine qn_then ?_
    refine cs_seq ?_
    refine cs_region (l := [_, _, _, _, _, _, _, _, _, _, _, _, _]) ?_
    refine lv (.slice x4.1 t2.1.length x4.2) ?_
    refine lv (.int .i64 (t2.1.length : Int)) ?_
    refine lv (.bool (decide ((t2.1.length : Int) = (0 : Int)))) ?_
    refine lv (.bool (decide ((t2.1.length : Int) = (0 : Int)))) ?_
    by_cases q74 : (t2.1.length : Int) = (0 : Int)
    · replace H := ite_t q74 H
      refine ls_know (c := true) (dec_t q74) 50 (by kernel_rfl) ?_
      refine ls_on (j := 3) (t := 50) (b := true) rfl rfl (by kernel_rfl) (by kernel_rfl) ?_
      refine lv (.int .i64 t71.2) ?_
      refine ls_on (j := 3) (t := 50) (b := true) rfl rfl (by kernel_rfl) (by kernel_rfl) ?_
      refine lv (.bool (decide (t71.2 = (0 : Int)))) ?_
      refine lv (.bool (decide (t71.2 = (0 : Int)))) ?_
      refine lv (.bool (decide (t71.2 = (0 : Int)))) ?_
      by_cases q75 : t71.2 = (0 : Int)
      · replace H := ite_t q75 H
        refine ls_know (c := true) (dec_t q75) 54 (by kernel_rfl) ?_
        refine ls_on (j := 7) (t := 54) (b := true) rfl rfl (by kernel_rfl) (by kernel_rfl) ?_
        refine lv (.slice x73.1 t71.1.length x73.2) ?_
        refine ls_on (j := 7) (t := 54) (b := true) rfl rfl (by kernel_rfl) (by kernel_rfl) ?_
        refine lv (.int .i64 (t71.1.length : Int)) ?_
        refine ls_on (j := 7) (t := 54) (b := true) rfl rfl (by kernel_rfl) (by kernel_rfl) ?_
        refine lv (.bool (decide ((t71.1.length : Int) = (7 : Int)))) ?_
        refine lv (.bool (decide ((t71.1.length : Int) = (7 : Int)))) ?_
        refine lv (.bool (decide ((t71.1.length : Int) = (7 : Int)))) ?_
        refine ls_end ?_
        refine qn_then ?_
        refine cs_ret' ?_
        refine qr_then ?_
        obtain rfl := Option.some.inj H
        refine qr_res (rs := [_]) rfl (fun w' hs => ⟨[.bool (decide ((t71.1.length : Int) = (7 : Int)))], (res_tmp (by kernel_rfl) (.nil)), (), rfl, hs.pick (ts := []) (cs := []) trivial (by decide)⟩)
      replace H := ite_f q75 H
      refine ls_know (c := false) (dec_f q75) 54 (by kernel_rfl) ?_
      refine lofx 7 54 true false ?_
      refine lofx 7 54 true false ?_
      refine lofx 7 54 true false ?_
      refine lv (.bool false) ?_
      refine lv (.bool false) ?_
      refine ls_end ?_
      refine qn_then ?_
      refine cs_ret' ?_
      refine qr_then ?_
      obtain rfl := Option.some.inj H
      refine qr_res (rs := [_]) rfl (fun w' hs => ⟨[.bool false], (res_tmp (by kernel_rfl) (.nil)), (), rfl, hs.pick (ts := []) (cs := []) trivial (by decide)⟩)
    replace H := ite_f q74 H
    refine ls_know (c := false) (dec_f q74) 50 (by kernel_rfl) ?_
    refine lofx 3 50 true false ?_
    refine lofx 3 50 true false ?_
    refine lv (.bool false) ?_
    refine lv (.bool false) ?_
    refine lofx 7 54 true false ?_
    refine lofx 7 54 true false ?_
    refine lofx 7 54 true false ?_
    refine lv (.bool false) ?_
    refine lv (.bool false) ?_
    refine ls_end ?_
    refine qn_then ?_
    refine cs_ret' ?_
    refine qr_then ?_
    obtain rfl := Option.some.inj H
    refine qr_res (rs := [_]) rfl (fun w' hs => ⟨[.bool false], (res_tmp (by kernel_rfl) (.nil)), (), rfl, hs.pick (ts := []) (cs := []) trivial (by decide)⟩)
  rintro f S ⟨fr3, rfl, rfl, H⟩
  replace H : ((record_Read.f k t2.1).bind fun t10 => (if (([] : List Int).length + t2.1.length) * 1 ≤ 140737488355328 then (if ((([] : List Int) ++ t2.1).length + ([(0 : Int)]).length) * 1 ≤ 140737488355328 then (record_Read.f k ((([] : List Int) ++ t2.1) ++ [(0 : Int)])).bind fun t33 => (record_Key.f k a1 a0.1).bind fun t43 => (record_Split.f k t43).bind fun t46 => (if t10.2 = (0 : Int) then (if t33.2 = (11 : Int) then (if t46.2.2 = true then (if (t46.1.toList == a1.toList) = true then (if t46.2.1 = a0.1 then (if (t10.1.2.2.2.2.2.2.length : Int) = (a0.2.2.2.2.2.2.length : Int) then (shadowboxlaw36_RecordBack.jo4 k a0 t10) else some false) else some false) else some false) else some false) else some false) else some false) else none) else none)) = some r := H
  refine cs_seq ?_
  refine cs_region (l := [_, _, _, _, _, _, _, _]) ?_
  refine lv (.slice x4.1 t2.1.length x4.2) ?_
  obtain ⟨t10, hc11, H⟩ := bind_some H
  refine ls_freezero (T := (Ec.int 5 .u8)) (A := x4.1) (c := x4.2) (l := t2.1) 1 (by exact rfl) ?_
  intro bs5 hle6 hok7 fR8 fC9
  refine ls_callf (fid := 23) (vals := #[.slice x4.1 t2.1.length x4.2]) (X := (Option Addr × Nat)) (fun x => .tuple #[.agg ⟨([Value.int .i64 t10.1.1] ++ ([Value.int .i64 t10.1.2.1] ++ ([Value.int .i64 t10.1.2.2.1] ++ ([Value.int .i64 t10.1.2.2.2.1] ++ ([Value.string t10.1.2.2.2.2.1] ++ ([Value.string t10.1.2.2.2.2.2.1] ++ [Value.slice x.1 t10.1.2.2.2.2.2.2.length x.2]))))))⟩, .int .i64 t10.2]) (fun x => stl []) (fun x B => (Ro B x.1 (em T67 t10.1.2.2.2.2.2.2) ∧ t10.1.2.2.2.2.2.2.length ≤ x.2)) [] [] 2 rfl rfl (by kernel_rfl) (fun w => by kernel_rfl) trivial (by decide) (fun x b b' h hf => ⟨h _ _ hf.1, hf.2⟩) (fun w hs hb => record_Read.calls k x4.1 x4.2 t2.1 t10 (lent bs5 w [] []) hb (hs.ro fR8 _ _) fC9 hc11) ?_
  intro x12 bs15 hle16 hok17 hf18
  obtain ⟨fR13, fC14⟩ := hf18
  refine lv (.tuple #[.agg ⟨([Value.int .i64 t10.1.1] ++ ([Value.int .i64 t10.1.2.1] ++ ([Value.int .i64 t10.1.2.2.1] ++ ([Value.int .i64 t10.1.2.2.2.1] ++ ([Value.string t10.1.2.2.2.2.1] ++ ([Value.string t10.1.2.2.2.2.2.1] ++ [Value.slice x12.1 t10.1.2.2.2.2.2.2.length x12.2]))))))⟩, .int .i64 t10.2]) ?_
  refine lv (.agg ⟨([Value.int .i64 t10.1.1] ++ ([Value.int .i64 t10.1.2.1] ++ ([Value.int .i64 t10.1.2.2.1] ++ ([Value.int .i64 t10.1.2.2.2.1] ++ ([Value.string t10.1.2.2.2.2.1] ++ ([Value.string t10.1.2.2.2.2.2.1] ++ [Value.slice x12.1 t10.1.2.2.2.2.2.2.length x12.2]))))))⟩) ?_
  refine lv (.int .i64 t10.2) ?_
  refine ls_new rfl rfl (by kernel_rfl) 2 (fun g => .pointer (some ⟨g, 0, none⟩)) (.cells ⟨([Value.int .i64 (0 : Int)] ++ ([Value.int .i64 (0 : Int)] ++ ([Value.int .i64 (0 : Int)] ++ ([Value.int .i64 (0 : Int)] ++ ([Value.string ByteArray.empty] ++ ([Value.string ByteArray.empty] ++ [Value.slice none 0 0]))))))⟩ 51) (fun w => by kernel_rfl) ?_
  intro g19
  refine ls_storec (g := g19) (off := 0) (v := .agg ⟨([Value.int .i64 t10.1.1] ++ ([Value.int .i64 t10.1.2.1] ++ ([Value.int .i64 t10.1.2.2.1] ++ ([Value.int .i64 t10.1.2.2.2.1] ++ ([Value.string t10.1.2.2.2.2.1] ++ ([Value.string t10.1.2.2.2.2.2.1] ++ [Value.slice x12.1 t10.1.2.2.2.2.2.2.length x12.2]))))))⟩) (vs := ([Value.int .i64 t10.1.1] ++ ([Value.int .i64 t10.1.2.1] ++ ([Value.int .i64 t10.1.2.2.1] ++ ([Value.int .i64 t10.1.2.2.2.1] ++ ([Value.string t10.1.2.2.2.2.1] ++ ([Value.string t10.1.2.2.2.2.2.1] ++ [Value.slice x12.1 t10.1.2.2.2.2.2.2.length x12.2]))))))) (cs := ([Value.int .i64 (0 : Int)] ++ ([Value.int .i64 (0 : Int)] ++ ([Value.int .i64 (0 : Int)] ++ ([Value.int .i64 (0 : Int)] ++ ([Value.string ByteArray.empty] ++ ([Value.string ByteArray.empty] ++ [Value.slice none 0 0]))))))) (ty := 51) 2 rfl rfl rfl (by kernel_rfl) (by kernel_rfl) (by kernel_rfl) (by exact rfl) (by kernel_rfl) (len_app (len1 _) (len_app (len1 _) (len_app (len1 _) (len_app (len1 _) (len_app (len1 _) (len_app (len1 _) (len1 _))))))) (one_app (one_cons rfl one_nil) (one_app (one_cons rfl one_nil) (one_app (one_cons rfl one_nil) (one_app (one_cons rfl one_nil) (one_app (one_cons rfl one_nil) (one_app (one_cons rfl one_nil) (one_cons rfl one_nil))))))) (hl_of (Sub4.all _) (len_eq (len_app (len1 _) (len_app (len1 _) (len_app (len1 _) (len_app (len1 _) (len_app (len1 _) (len_app (len1 _) (len1 _))))))) (len_app (len1 _) (len_app (len1 _) (len_app (len1 _) (len_app (len1 _) (len_app (len1 _) (len_app (len1 _) (len1 _))))))))) (cs' := ([Value.int .i64 t10.1.1] ++ ([Value.int .i64 t10.1.2.1] ++ ([Value.int .i64 t10.1.2.2.1] ++ ([Value.int .i64 t10.1.2.2.2.1] ++ ([Value.string t10.1.2.2.2.2.1] ++ ([Value.string t10.1.2.2.2.2.2.1] ++ [Value.slice x12.1 t10.1.2.2.2.2.2.2.length x12.2]))))))) (splc_all (len_eq (len_app (len1 _) (len_app (len1 _) (len_app (len1 _) (len_app (len1 _) (len_app (len1 _) (len_app (len1 _) (len1 _))))))) (len_app (len1 _) (len_app (len1 _) (len_app (len1 _) (len_app (len1 _) (len_app (len1 _) (len_app (len1 _) (len1 _))))))))) ?_
  refine lv (.int .i64 t10.2) ?_
  refine ls_end ?_
  refine qn_then ?_
  refine cs_seq ?_
  refine cs_region (l := [_, _, _, _, _, _, _, _, _, _, _, _]) ?_
  refine ls_lit (Ec.int 5 .u8) 3 rfl rfl (by kernel_rfl) ([] : List Int) (by exact of_decide_eq_true (by kernel_rfl)) (fun w => by kernel_rfl) ?_
  intro g20
  refine lv (.slice x4.1 t2.1.length x4.2) ?_
  obtain ⟨q21, H⟩ := ite_need H
  refine ls_app (Ec.int 5 .u8) (A := (some ⟨g20, 0, none⟩)) (c := ([] : List Int).length) (B := x4.1) (cb := x4.2) (z := (Value.int .u8 0)) (l := ([] : List Int)) (m := t2.1) (bytes := 1) 3 rfl rfl (by kernel_rfl) rfl (by kernel_rfl) (by exact rfl) (by kernel_rfl) (fun w hs => (hs.old (Ro.mono hok17 hle16 fR8))) (by kernel_rfl) (by kernel_rfl) rfl (by decide) q21 ?_
  intro xA22 xc23
  refine ls_lit (Ec.int 5 .u8) 4 rfl rfl (by kernel_rfl) ([(0 : Int)]) (by exact of_decide_eq_true (by kernel_rfl)) (fun w => by kernel_rfl) ?_
  intro g24
  obtain ⟨q25, H⟩ := ite_need H
  refine ls_app (Ec.int 5 .u8) (A := xA22) (c := xc23) (B := (some ⟨g24, 0, none⟩)) (cb := [(0 : Int)].length) (z := (Value.int .u8 0)) (l := (([] : List Int) ++ t2.1)) (m := [(0 : Int)]) (bytes := 1) 3 rfl rfl (by kernel_rfl) rfl (by kernel_rfl) (by exact rfl) (by kernel_rfl) (fun w hs => (hs.rd (k := 4) (by exact rfl))) (by kernel_rfl) (by kernel_rfl) rfl (by decide) q25 ?_
  intro xA26 xc27
  obtain ⟨t33, hc34, H⟩ := bind_some H
  refine ls_freeze (T := (Ec.int 5 .u8)) (A := xA26) (c := xc27) (l := ((([] : List Int) ++ t2.1) ++ [(0 : Int)])) 3 (by exact rfl) ?_
  intro bs28 hle29 hok30 fR31 fC32
  refine ls_callf (fid := 23) (vals := #[.slice xA26 ((([] : List Int) ++ t2.1) ++ [(0 : Int)]).length xc27]) (X := (Option Addr × Nat)) (fun x => .tuple #[.agg ⟨([Value.int .i64 t33.1.1] ++ ([Value.int .i64 t33.1.2.1] ++ ([Value.int .i64 t33.1.2.2.1] ++ ([Value.int .i64 t33.1.2.2.2.1] ++ ([Value.string t33.1.2.2.2.2.1] ++ ([Value.string t33.1.2.2.2.2.2.1] ++ [Value.slice x.1 t33.1.2.2.2.2.2.2.length x.2]))))))⟩, .int .i64 t33.2]) (fun x => stl []) (fun x B => (Ro B x.1 (em T67 t33.1.2.2.2.2.2.2) ∧ t33.1.2.2.2.2.2.2.length ≤ x.2)) [] [] 5 rfl rfl (by kernel_rfl) (fun w => by kernel_rfl) trivial (by decide) (fun x b b' h hf => ⟨h _ _ hf.1, hf.2⟩) (fun w hs hb => record_Read.calls k xA26 xc27 ((([] : List Int) ++ t2.1) ++ [(0 : Int)]) t33 (lent bs28 w [] []) hb (hs.ro fR31 _ _) fC32 hc34) ?_
  intro x35 bs38 hle39 hok40 hf41
  obtain ⟨fR36, fC37⟩ := hf41
  refine lv (.tuple #[.agg ⟨([Value.int .i64 t33.1.1] ++ ([Value.int .i64 t33.1.2.1] ++ ([Value.int .i64 t33.1.2.2.1] ++ ([Value.int .i64 t33.1.2.2.2.1] ++ ([Value.string t33.1.2.2.2.2.1] ++ ([Value.string t33.1.2.2.2.2.2.1] ++ [Value.slice x35.1 t33.1.2.2.2.2.2.2.length x35.2]))))))⟩, .int .i64 t33.2]) ?_
  refine lv (.agg ⟨([Value.int .i64 t33.1.1] ++ ([Value.int .i64 t33.1.2.1] ++ ([Value.int .i64 t33.1.2.2.1] ++ ([Value.int .i64 t33.1.2.2.2.1] ++ ([Value.string t33.1.2.2.2.2.1] ++ ([Value.string t33.1.2.2.2.2.2.1] ++ [Value.slice x35.1 t33.1.2.2.2.2.2.2.length x35.2]))))))⟩) ?_
  refine lv (.int .i64 t33.2) ?_
  refine ls_new rfl rfl (by kernel_rfl) 5 (fun g => .pointer (some ⟨g, 0, none⟩)) (.cells ⟨([Value.int .i64 (0 : Int)] ++ ([Value.int .i64 (0 : Int)] ++ ([Value.int .i64 (0 : Int)] ++ ([Value.int .i64 (0 : Int)] ++ ([Value.string ByteArray.empty] ++ ([Value.string ByteArray.empty] ++ [Value.slice none 0 0]))))))⟩ 51) (fun w => by kernel_rfl) ?_
  intro g42
  refine ls_storec (g := g42) (off := 0) (v := .agg ⟨([Value.int .i64 t33.1.1] ++ ([Value.int .i64 t33.1.2.1] ++ ([Value.int .i64 t33.1.2.2.1] ++ ([Value.int .i64 t33.1.2.2.2.1] ++ ([Value.string t33.1.2.2.2.2.1] ++ ([Value.string t33.1.2.2.2.2.2.1] ++ [Value.slice x35.1 t33.1.2.2.2.2.2.2.length x35.2]))))))⟩) (vs := ([Value.int .i64 t33.1.1] ++ ([Value.int .i64 t33.1.2.1] ++ ([Value.int .i64 t33.1.2.2.1] ++ ([Value.int .i64 t33.1.2.2.2.1] ++ ([Value.string t33.1.2.2.2.2.1] ++ ([Value.string t33.1.2.2.2.2.2.1] ++ [Value.slice x35.1 t33.1.2.2.2.2.2.2.length x35.2]))))))) (cs := ([Value.int .i64 (0 : Int)] ++ ([Value.int .i64 (0 : Int)] ++ ([Value.int .i64 (0 : Int)] ++ ([Value.int .i64 (0 : Int)] ++ ([Value.string ByteArray.empty] ++ ([Value.string ByteArray.empty] ++ [Value.slice none 0 0]))))))) (ty := 51) 5 rfl rfl rfl (by kernel_rfl) (by kernel_rfl) (by kernel_rfl) (by exact rfl) (by kernel_rfl) (len_app (len1 _) (len_app (len1 _) (len_app (len1 _) (len_app (len1 _) (len_app (len1 _) (len_app (len1 _) (len1 _))))))) (one_app (one_cons rfl one_nil) (one_app (one_cons rfl one_nil) (one_app (one_cons rfl one_nil) (one_app (one_cons rfl one_nil) (one_app (one_cons rfl one_nil) (one_app (one_cons rfl one_nil) (one_cons rfl one_nil))))))) (hl_of (Sub4.all _) (len_eq (len_app (len1 _) (len_app (len1 _) (len_app (len1 _) (len_app (len1 _) (len_app (len1 _) (len_app (len1 _) (len1 _))))))) (len_app (len1 _) (len_app (len1 _) (len_app (len1 _) (len_app (len1 _) (len_app (len1 _) (len_app (len1 _) (len1 _))))))))) (cs' := ([Value.int .i64 t33.1.1] ++ ([Value.int .i64 t33.1.2.1] ++ ([Value.int .i64 t33.1.2.2.1] ++ ([Value.int .i64 t33.1.2.2.2.1] ++ ([Value.string t33.1.2.2.2.2.1] ++ ([Value.string t33.1.2.2.2.2.2.1] ++ [Value.slice x35.1 t33.1.2.2.2.2.2.2.length x35.2]))))))) (splc_all (len_eq (len_app (len1 _) (len_app (len1 _) (len_app (len1 _) (len_app (len1 _) (len_app (len1 _) (len_app (len1 _) (len1 _))))))) (len_app (len1 _) (len_app (len1 _) (len_app (len1 _) (len_app (len1 _) (len_app (len1 _) (len_app (len1 _) (len1 _))))))))) ?_
  refine lv (.int .i64 t33.2) ?_
  refine ls_end ?_
  refine qn_then ?_
  refine cs_seq ?_
  refine cs_region (l := [_, _, _, _, _, _, _, _, _, _, _, _]) ?_
  refine lv (.string a1) ?_
  refine lv (.pointer (some ⟨g1, (0 + 0), none⟩)) ?_
  refine ls_load (a0 := ⟨g1, (0 + 0), none⟩) (v := .int .i64 a0.1) (de := (TypeDesc.int .i64)) rfl rfl (by kernel_rfl) rfl (by kernel_rfl) (by kernel_rfl) (by kernel_rfl) (fun w hs => (hs.var (k := 0) (by exact rfl) (Sub4.trans (Sub4.all _) (Sub4.head _ _)))) ?_
  obtain ⟨t43, hc44, H⟩ := bind_some H
  refine ls_callb (fid := 17) (vals := #[.string a1, .int .i64 a0.1]) (X := (Option Addr × Nat)) (fun x => .slice x.1 t43.length x.2) (fun x => stl [Ck.sl (Ec.int 5 .u8) x.1 x.2 t43]) [] [] [] [] 6 rfl rfl (by kernel_rfl) (fun w => by kernel_rfl) trivial trivial (by decide) (fun w hs hb => record_Key.calls k a1 a0.1 t43 (lent bs38 w [] []) hb  hc44) ?_
  intro x45
  obtain ⟨t46, hc47, H⟩ := bind_some H
  refine ls_callb (fid := 28) (vals := #[.slice x45.1 t43.length x45.2]) (X := Unit) (fun x => .tuple #[.string t46.1, .int .i64 t46.2.1, .bool t46.2.2]) (fun x => stl []) [] [6] [] [Ck.sl (Ec.int 5 .u8) x45.1 x45.2 t43] 7 rfl rfl (by kernel_rfl) (fun w => by kernel_rfl) trivial ⟨by exact rfl, trivial⟩ (by decide) (fun w hs hb => record_Split.calls k x45.1 x45.2 t43 t46 (lent bs38 w [] [Ck.sl (Ec.int 5 .u8) x45.1 x45.2 t43]) hb (hs.ror (k := 6) (by exact rfl) (.head _)) (hs.cap (k := 6) (by exact rfl)) hc47) ?_
  intro x48
  refine lv (.tuple #[.string t46.1, .int .i64 t46.2.1, .bool t46.2.2]) ?_
  refine lv (.string t46.1) ?_
  refine lv (.int .i64 t46.2.1) ?_
  refine lv (.bool t46.2.2) ?_
  refine lv (.string t46.1) ?_
  refine lv (.int .i64 t46.2.1) ?_
  refine lv (.bool t46.2.2) ?_
  refine ls_end ?_
  refine qn_then ?_
  refine cs_cut (fun f S => ∃ (fR : Fr), f = upd (upd fR 2 (.pointer (some ⟨g1, 0, none⟩))) 10 (.pointer (some ⟨g19, 0, none⟩)) ∧ S = sput (sput s0 0 (some (Ck.var 51 g1 (([Value.int .i64 a0.1] ++ ([Value.int .i64 a0.2.1] ++ ([Value.int .i64 a0.2.2.1] ++ ([Value.int .i64 a0.2.2.2.1] ++ ([Value.string a0.2.2.2.2.1] ++ ([Value.string a0.2.2.2.2.2.1] ++ [Value.slice A0_6 a0.2.2.2.2.2.2.length c0_6])))))))))) 2 (some (Ck.var 51 g19 (([Value.int .i64 t10.1.1] ++ ([Value.int .i64 t10.1.2.1] ++ ([Value.int .i64 t10.1.2.2.1] ++ ([Value.int .i64 t10.1.2.2.2.1] ++ ([Value.string t10.1.2.2.2.2.1] ++ ([Value.string t10.1.2.2.2.2.2.1] ++ [Value.slice x12.1 t10.1.2.2.2.2.2.2.length x12.2]))))))))) ∧ shadowboxlaw36_RecordBack.jo4 k a0 t10 = some r) ?_ ?_
  · skip
    refine cs_seq ?_
    refine cs_region (l := [_, _, _, _, _, _, _, _, _, _, _, _, _, _, _, _, _, _, _, _, _, _, _, _, _, _, _, _, _, _]) ?_
    refine lv (.int .i64 t10.2) ?_
    refine lv (.bool (!decide (t10.2 = (0 : Int)))) ?_
    refine lv (.bool (!decide (t10.2 = (0 : Int)))) ?_
    by_cases q64 : t10.2 = (0 : Int)
    · replace H := ite_t q64 H
      refine ls_know (c := false) (congrArg Bool.not (dec_t q64)) 84 (by kernel_rfl) ?_
      refine ls_on (j := 2) (t := 84) (b := false) rfl rfl (by kernel_rfl) (by kernel_rfl) ?_
      refine lv (.int .i64 t33.2) ?_
      refine ls_on (j := 2) (t := 84) (b := false) rfl rfl (by kernel_rfl) (by kernel_rfl) ?_
      refine lv (.bool (!decide (t33.2 = (11 : Int)))) ?_
      refine lv (.bool (!decide (t33.2 = (11 : Int)))) ?_
      refine lv (.bool (!decide (t33.2 = (11 : Int)))) ?_
      by_cases q65 : t33.2 = (11 : Int)
      · replace H := ite_t q65 H
        refine ls_know (c := false) (congrArg Bool.not (dec_t q65)) 88 (by kernel_rfl) ?_
        refine ls_on (j := 6) (t := 88) (b := false) rfl rfl (by kernel_rfl) (by kernel_rfl) ?_
        refine lv (.bool t46.2.2) ?_
        refine ls_on (j := 6) (t := 88) (b := false) rfl rfl (by kernel_rfl) (by kernel_rfl) ?_
        refine lv (.bool (!t46.2.2)) ?_
        refine lv (.bool (!t46.2.2)) ?_
        refine lv (.bool (!t46.2.2)) ?_
        by_cases q66 : t46.2.2 = true
        · replace H := ite_t q66 H
          refine ls_know (c := false) (congrArg Bool.not (q66)) 92 (by kernel_rfl) ?_
          refine ls_on (j := 10) (t := 92) (b := false) rfl rfl (by kernel_rfl) (by kernel_rfl) ?_
          refine lv (.string t46.1) ?_
          refine ls_on (j := 10) (t := 92) (b := false) rfl rfl (by kernel_rfl) (by kernel_rfl) ?_
          refine lv (.string a1) ?_
          refine ls_on (j := 10) (t := 92) (b := false) rfl rfl (by kernel_rfl) (by kernel_rfl) ?_
          refine lv (.bool (!(t46.1.toList == a1.toList))) ?_
          refine lv (.bool (!(t46.1.toList == a1.toList))) ?_
          refine lv (.bool (!(t46.1.toList == a1.toList))) ?_
          by_cases q67 : (t46.1.toList == a1.toList) = true
          · replace H := ite_t q67 H
            refine ls_know (c := false) (congrArg Bool.not (q67)) 97 (by kernel_rfl) ?_
            refine ls_on (j := 15) (t := 97) (b := false) rfl rfl (by kernel_rfl) (by kernel_rfl) ?_
            refine lv (.int .i64 t46.2.1) ?_
            refine ls_on (j := 15) (t := 97) (b := false) rfl rfl (by kernel_rfl) (by kernel_rfl) ?_
            refine lv (.pointer (some ⟨g1, (0 + 0), none⟩)) ?_
            refine ls_on (j := 15) (t := 97) (b := false) rfl rfl (by kernel_rfl) (by kernel_rfl) ?_
            refine ls_load (a0 := ⟨g1, (0 + 0), none⟩) (v := .int .i64 a0.1) (de := (TypeDesc.int .i64)) rfl rfl (by kernel_rfl) rfl (by kernel_rfl) (by kernel_rfl) (by kernel_rfl) (fun w hs => (hs.var (k := 0) (by exact rfl) (Sub4.trans (Sub4.all _) (Sub4.head _ _)))) ?_
            refine ls_on (j := 15) (t := 97) (b := false) rfl rfl (by kernel_rfl) (by kernel_rfl) ?_
            refine lv (.bool (!decide (t46.2.1 = a0.1))) ?_
            refine lv (.bool (!decide (t46.2.1 = a0.1))) ?_
            refine lv (.bool (!decide (t46.2.1 = a0.1))) ?_
            by_cases q68 : t46.2.1 = a0.1
            · replace H := ite_t q68 H
              refine ls_know (c := false) (congrArg Bool.not (dec_t q68)) 103 (by kernel_rfl) ?_
              refine ls_on (j := 21) (t := 103) (b := false) rfl rfl (by kernel_rfl) (by kernel_rfl) ?_
              refine lv (.pointer (some ⟨g19, (0 + 6), none⟩)) ?_
              refine ls_on (j := 21) (t := 103) (b := false) rfl rfl (by kernel_rfl) (by kernel_rfl) ?_
              refine ls_load (a0 := ⟨g19, (0 + 6), none⟩) (v := .slice x12.1 t10.1.2.2.2.2.2.2.length x12.2) (de := (TypeDesc.slice 67)) rfl rfl (by kernel_rfl) rfl (by kernel_rfl) (by kernel_rfl) (by kernel_rfl) (fun w hs => (hs.var (k := 2) (by exact rfl) (Sub4.trans (Sub4.all _) (Sub4.skip (n := 1) (len1 _) (Sub4.skip (n := 1) (len1 _) (Sub4.skip (n := 1) (len1 _) (Sub4.skip (n := 1) (len1 _) (Sub4.skip (n := 1) (len1 _) (Sub4.skip (n := 1) (len1 _) (Sub4.all _)))))))))) ?_
              refine ls_on (j := 21) (t := 103) (b := false) rfl rfl (by kernel_rfl) (by kernel_rfl) ?_
              refine lv (.int .i64 (t10.1.2.2.2.2.2.2.length : Int)) ?_
              refine ls_on (j := 21) (t := 103) (b := false) rfl rfl (by kernel_rfl) (by kernel_rfl) ?_
              refine lv (.pointer (some ⟨g1, (0 + 6), none⟩)) ?_
              refine ls_on (j := 21) (t := 103) (b := false) rfl rfl (by kernel_rfl) (by kernel_rfl) ?_
              refine ls_load (a0 := ⟨g1, (0 + 6), none⟩) (v := .slice A0_6 a0.2.2.2.2.2.2.length c0_6) (de := (TypeDesc.slice 67)) rfl rfl (by kernel_rfl) rfl (by kernel_rfl) (by kernel_rfl) (by kernel_rfl) (fun w hs => (hs.var (k := 0) (by exact rfl) (Sub4.trans (Sub4.all _) (Sub4.skip (n := 1) (len1 _) (Sub4.skip (n := 1) (len1 _) (Sub4.skip (n := 1) (len1 _) (Sub4.skip (n := 1) (len1 _) (Sub4.skip (n := 1) (len1 _) (Sub4.skip (n := 1) (len1 _) (Sub4.all _)))))))))) ?_
              refine ls_on (j := 21) (t := 103) (b := false) rfl rfl (by kernel_rfl) (by kernel_rfl) ?_
              refine lv (.int .i64 (a0.2.2.2.2.2.2.length : Int)) ?_
              refine ls_on (j := 21) (t := 103) (b := false) rfl rfl (by kernel_rfl) (by kernel_rfl) ?_
              refine lv (.bool (!decide ((t10.1.2.2.2.2.2.2.length : Int) = (a0.2.2.2.2.2.2.length : Int)))) ?_
              refine lv (.bool (!decide ((t10.1.2.2.2.2.2.2.length : Int) = (a0.2.2.2.2.2.2.length : Int)))) ?_
              refine ls_end ?_
              refine qn_then ?_
              by_cases q69 : (t10.1.2.2.2.2.2.2.length : Int) = (a0.2.2.2.2.2.2.length : Int)
              · replace H := ite_t q69 H
                refine cs_know (c := false) (congrArg Bool.not (dec_t q69)) 111 (by kernel_rfl) ?_
                refine cs_false (by kernel_rfl) ?_
                refine cs_skip' ?_
                refine qn_meet (sput (sput s0 0 (some (Ck.var 51 g1 (([Value.int .i64 a0.1] ++ ([Value.int .i64 a0.2.1] ++ ([Value.int .i64 a0.2.2.1] ++ ([Value.int .i64 a0.2.2.2.1] ++ ([Value.string a0.2.2.2.2.1] ++ ([Value.string a0.2.2.2.2.2.1] ++ [Value.slice A0_6 a0.2.2.2.2.2.2.length c0_6])))))))))) 2 (some (Ck.var 51 g19 (([Value.int .i64 t10.1.1] ++ ([Value.int .i64 t10.1.2.1] ++ ([Value.int .i64 t10.1.2.2.1] ++ ([Value.int .i64 t10.1.2.2.2.1] ++ ([Value.string t10.1.2.2.2.2.1] ++ ([Value.string t10.1.2.2.2.2.2.1] ++ [Value.slice x12.1 t10.1.2.2.2.2.2.2.length x12.2])))))))))) ⟨_, fr_next (fr_next (rfl) (by kernel_rfl)) (by kernel_rfl), rfl, H⟩ (sub_put (by exact rfl) (sub_put (by exact rfl) (sub_nil _)))
              replace H := ite_f q69 H
              refine cs_know (c := true) (congrArg Bool.not (dec_f q69)) 111 (by kernel_rfl) ?_
              refine cs_true (by kernel_rfl) ?_
              refine cs_seq ?_
              refine cs_region (l := [_]) ?_
              refine lv (.bool false) ?_
              refine ls_end ?_
              refine qn_then ?_
              refine cs_ret' ?_
              refine qr_then ?_
              obtain rfl := Option.some.inj H
              refine qr_res (rs := [_]) rfl (fun w' hs => ⟨[.bool false], (res_tmp (by kernel_rfl) (.nil)), (), rfl, St.later hs0.ok (((hle6.trans hle16).trans hle29).trans hle39) (hs.pick (ts := []) (cs := []) trivial (by decide))⟩)
            replace H := ite_f q68 H
            refine ls_know (c := true) (congrArg Bool.not (dec_f q68)) 103 (by kernel_rfl) ?_
            refine lofx 21 103 false true ?_
            refine lofx 21 103 false true ?_
            refine lofx 21 103 false true ?_
            refine lofx 21 103 false true ?_
            refine lofx 21 103 false true ?_
            refine lofx 21 103 false true ?_
            refine lofx 21 103 false true ?_
            refine lv (.bool true) ?_
            refine ls_end ?_
            refine qn_then ?_
            refine cs_true (by kernel_rfl) ?_
            refine cs_seq ?_
            refine cs_region (l := [_]) ?_
            refine lv (.bool false) ?_
            refine ls_end ?_
            refine qn_then ?_
            refine cs_ret' ?_
            refine qr_then ?_
            obtain rfl := Option.some.inj H
            refine qr_res (rs := [_]) rfl (fun w' hs => ⟨[.bool false], (res_tmp (by kernel_rfl) (.nil)), (), rfl, St.later hs0.ok (((hle6.trans hle16).trans hle29).trans hle39) (hs.pick (ts := []) (cs := []) trivial (by decide))⟩)
          replace H := ite_f q67 H
          refine ls_know (c := true) (congrArg Bool.not (Bool.eq_false_iff.mpr q67)) 97 (by kernel_rfl) ?_
          refine lofx 15 97 false true ?_
          refine lofx 15 97 false true ?_
          refine lofx 15 97 false true ?_
          refine lofx 15 97 false true ?_
          refine lv (.bool true) ?_
          refine lv (.bool true) ?_
          refine lofx 21 103 false true ?_
          refine lofx 21 103 false true ?_
          refine lofx 21 103 false true ?_
          refine lofx 21 103 false true ?_
          refine lofx 21 103 false true ?_
          refine lofx 21 103 false true ?_
          refine lofx 21 103 false true ?_
          refine lv (.bool true) ?_
          refine ls_end ?_
          refine qn_then ?_
          refine cs_true (by kernel_rfl) ?_
          refine cs_seq ?_
          refine cs_region (l := [_]) ?_
          refine lv (.bool false) ?_
          refine ls_end ?_
          refine qn_then ?_
          refine cs_ret' ?_
          refine qr_then ?_
          obtain rfl := Option.some.inj H
          refine qr_res (rs := [_]) rfl (fun w' hs => ⟨[.bool false], (res_tmp (by kernel_rfl) (.nil)), (), rfl, St.later hs0.ok (((hle6.trans hle16).trans hle29).trans hle39) (hs.pick (ts := []) (cs := []) trivial (by decide))⟩)
        replace H := ite_f q66 H
        refine ls_know (c := true) (congrArg Bool.not (Bool.eq_false_iff.mpr q66)) 92 (by kernel_rfl) ?_
        refine lofx 10 92 false true ?_
        refine lofx 10 92 false true ?_
        refine lofx 10 92 false true ?_
        refine lv (.bool true) ?_
        refine lv (.bool true) ?_
        refine lofx 15 97 false true ?_
        refine lofx 15 97 false true ?_
        refine lofx 15 97 false true ?_
        refine lofx 15 97 false true ?_
        refine lv (.bool true) ?_
        refine lv (.bool true) ?_
        refine lofx 21 103 false true ?_
        refine lofx 21 103 false true ?_
        refine lofx 21 103 false true ?_
        refine lofx 21 103 false true ?_
        refine lofx 21 103 false true ?_
        refine lofx 21 103 false true ?_
        refine lofx 21 103 false true ?_
        refine lv (.bool true) ?_
        refine ls_end ?_
        refine qn_then ?_
        refine cs_true (by kernel_rfl) ?_
        refine cs_seq ?_
        refine cs_region (l := [_]) ?_
        refine lv (.bool false) ?_
        refine ls_end ?_
        refine qn_then ?_
        refine cs_ret' ?_
        refine qr_then ?_
        obtain rfl := Option.some.inj H
        refine qr_res (rs := [_]) rfl (fun w' hs => ⟨[.bool false], (res_tmp (by kernel_rfl) (.nil)), (), rfl, St.later hs0.ok (((hle6.trans hle16).trans hle29).trans hle39) (hs.pick (ts := []) (cs := []) trivial (by decide))⟩)
      replace H := ite_f q65 H
      refine ls_know (c := true) (congrArg Bool.not (dec_f q65)) 88 (by kernel_rfl) ?_
      refine lofx 6 88 false true ?_
      refine lofx 6 88 false true ?_
      refine lv (.bool true) ?_
      refine lv (.bool true) ?_
      refine lofx 10 92 false true ?_
      refine lofx 10 92 false true ?_
      refine lofx 10 92 false true ?_
      refine lv (.bool true) ?_
      refine lv (.bool true) ?_
      refine lofx 15 97 false true ?_
      refine lofx 15 97 false true ?_
      refine lofx 15 97 false true ?_
      refine lofx 15 97 false true ?_
      refine lv (.bool true) ?_
      refine lv (.bool true) ?_
      refine lofx 21 103 false true ?_
      refine lofx 21 103 false true ?_
      refine lofx 21 103 false true ?_
      refine lofx 21 103 false true ?_
      refine lofx 21 103 false true ?_
      refine lofx 21 103 false true ?_
      refine lofx 21 103 false true ?_
      refine lv (.bool true) ?_
      refine ls_end ?_
      refine qn_then ?_
      refine cs_true (by kernel_rfl) ?_
      refine cs_seq ?_
      refine cs_region (l := [_]) ?_
      refine lv (.bool false) ?_
      refine ls_end ?_
      refine qn_then ?_
      refine cs_ret' ?_
      refine qr_then ?_
      obtain rfl := Option.some.inj H
      refine qr_res (rs := [_]) rfl (fun w' hs => ⟨[.bool false], (res_tmp (by kernel_rfl) (.nil)), (), rfl, St.later hs0.ok (((hle6.trans hle16).trans hle29).trans hle39) (hs.pick (ts := []) (cs := []) trivial (by decide))⟩)
    replace H := ite_f q64 H
    refine ls_know (c := true) (congrArg Bool.not (dec_f q64)) 84 (by kernel_rfl) ?_
    refine lofx 2 84 false true ?_
    refine lofx 2 84 false true ?_
    refine lv (.bool true) ?_
    refine lv (.bool true) ?_
    refine lofx 6 88 false true ?_
    refine lofx 6 88 false true ?_
    refine lv (.bool true) ?_
    refine lv (.bool true) ?_
    refine lofx 10 92 false true ?_
    refine lofx 10 92 false true ?_
    refine lofx 10 92 false true ?_
    refine lv (.bool true) ?_
    refine lv (.bool true) ?_
    refine lofx 15 97 false true ?_
    refine lofx 15 97 false true ?_
    refine lofx 15 97 false true ?_
    refine lofx 15 97 false true ?_
    refine lv (.bool true) ?_
    refine lv (.bool true) ?_
    refine lofx 21 103 false true ?_
    refine lofx 21 103 false true ?_
    refine lofx 21 103 false true ?_
    refine lofx 21 103 false true ?_
    refine lofx 21 103 false true ?_
    refine lofx 21 103 false true ?_
    refine lofx 21 103 false true ?_
    refine lv (.bool true) ?_
    refine ls_end ?_
    refine qn_then ?_
    refine cs_true (by kernel_rfl) ?_
    refine cs_seq ?_
    refine cs_region (l := [_]) ?_
    refine lv (.bool false) ?_
    refine ls_end ?_
    refine qn_then ?_
    refine cs_ret' ?_
    refine qr_then ?_
    obtain rfl := Option.some.inj H
    refine qr_res (rs := [_]) rfl (fun w' hs => ⟨[.bool false], (res_tmp (by kernel_rfl) (.nil)), (), rfl, St.later hs0.ok (((hle6.trans hle16).trans hle29).trans hle39) (hs.pick (ts := []) (cs := []) trivial (by decide))⟩)
  rintro f S ⟨fr4, rfl, rfl, H⟩
  replace H : (shadowboxlaw36_RecordBack.lo6 a0 t10 (shadowboxlaw36_RecordBack.jo5 a0 t10) k (0 : Int)) = some r := H
  refine cs_cut (fun f S => ∃ (fR : Fr), f = upd (upd fR 2 (.pointer (some ⟨g1, 0, none⟩))) 10 (.pointer (some ⟨g19, 0, none⟩)) ∧ S = sput (sput s0 0 (some (Ck.var 51 g1 (([Value.int .i64 a0.1] ++ ([Value.int .i64 a0.2.1] ++ ([Value.int .i64 a0.2.2.1] ++ ([Value.int .i64 a0.2.2.2.1] ++ ([Value.string a0.2.2.2.2.1] ++ ([Value.string a0.2.2.2.2.2.1] ++ [Value.slice A0_6 a0.2.2.2.2.2.2.length c0_6])))))))))) 2 (some (Ck.var 51 g19 (([Value.int .i64 t10.1.1] ++ ([Value.int .i64 t10.1.2.1] ++ ([Value.int .i64 t10.1.2.2.1] ++ ([Value.int .i64 t10.1.2.2.2.1] ++ ([Value.string t10.1.2.2.2.2.1] ++ ([Value.string t10.1.2.2.2.2.2.1] ++ [Value.slice x12.1 t10.1.2.2.2.2.2.2.length x12.2]))))))))) ∧ shadowboxlaw36_RecordBack.jo5 a0 t10 = some r) ?_ ?_
  · skip
    refine cs_seq ?_
    refine cs_region (l := [_]) ?_
    refine lv (.int .i64 (0 : Int)) ?_
    refine ls_end ?_
    refine qn_then ?_
    refine cs_block ?_
    refine cs_sub (sput (sput s0 0 (some (Ck.var 51 g1 (([Value.int .i64 a0.1] ++ ([Value.int .i64 a0.2.1] ++ ([Value.int .i64 a0.2.2.1] ++ ([Value.int .i64 a0.2.2.2.1] ++ ([Value.string a0.2.2.2.2.1] ++ ([Value.string a0.2.2.2.2.2.1] ++ [Value.slice A0_6 a0.2.2.2.2.2.2.length c0_6])))))))))) 2 (some (Ck.var 51 g19 (([Value.int .i64 t10.1.1] ++ ([Value.int .i64 t10.1.2.1] ++ ([Value.int .i64 t10.1.2.2.1] ++ ([Value.int .i64 t10.1.2.2.2.1] ++ ([Value.string t10.1.2.2.2.2.1] ++ ([Value.string t10.1.2.2.2.2.2.1] ++ [Value.slice x12.1 t10.1.2.2.2.2.2.2.length x12.2])))))))))) (sub_put (by exact rfl) (sub_put (by exact rfl) (sub_nil _))) ?_
    refine cs_loop (fun kk f S => ∃ (fR : Fr) (x16_6 : Int), f = upd (upd (upd fR 2 (.pointer (some ⟨g1, 0, none⟩))) 10 (.pointer (some ⟨g19, 0, none⟩))) 16 (.int .i64 x16_6) ∧ S = sput (sput s0 0 (some (Ck.var 51 g1 (([Value.int .i64 a0.1] ++ ([Value.int .i64 a0.2.1] ++ ([Value.int .i64 a0.2.2.1] ++ ([Value.int .i64 a0.2.2.2.1] ++ ([Value.string a0.2.2.2.2.1] ++ ([Value.string a0.2.2.2.2.2.1] ++ [Value.slice A0_6 a0.2.2.2.2.2.2.length c0_6])))))))))) 2 (some (Ck.var 51 g19 (([Value.int .i64 t10.1.1] ++ ([Value.int .i64 t10.1.2.1] ++ ([Value.int .i64 t10.1.2.2.1] ++ ([Value.int .i64 t10.1.2.2.2.1] ++ ([Value.string t10.1.2.2.2.2.1] ++ ([Value.string t10.1.2.2.2.2.2.1] ++ [Value.slice x12.1 t10.1.2.2.2.2.2.2.length x12.2]))))))))) ∧ shadowboxlaw36_RecordBack.lo6 a0 t10 (shadowboxlaw36_RecordBack.jo5 a0 t10) kk x16_6 = some r) k ?_ ?_ ?_
    · exact ⟨_, (0 : Int), fr_next (fr_next (fr_next (rfl) (by kernel_rfl)) (by kernel_rfl)) (by kernel_rfl), rfl, H⟩
    · rintro f S ⟨fr6, x16_6, rfl, rfl, H⟩; cases H
    rintro k6 f S ⟨fr6, x16_6, rfl, rfl, H⟩
    replace H : ((if x16_6 < (a0.2.2.2.2.2.2.length : Int) then (if 0 ≤ x16_6 then (if x16_6 < (t10.1.2.2.2.2.2.2.length : Int) then (if (((((t10.1.2.2.2.2.2.2).getD (x16_6).toNat (ByteArray.empty, ByteArray.empty)).1).toList == (((a0.2.2.2.2.2.2).getD (x16_6).toNat (ByteArray.empty, ByteArray.empty)).1).toList) && ((((t10.1.2.2.2.2.2.2).getD (x16_6).toNat (ByteArray.empty, ByteArray.empty)).2).toList == (((a0.2.2.2.2.2.2).getD (x16_6).toNat (ByteArray.empty, ByteArray.empty)).2).toList)) = true then (shadowboxlaw36_RecordBack.lo6 a0 t10 (shadowboxlaw36_RecordBack.jo5 a0 t10) k6) (IntKind.wrap .i64 (x16_6 + (1 : Int))) else some false) else none) else none) else (shadowboxlaw36_RecordBack.jo5 a0 t10))) = some r := H
    refine cs_seq ?_
    refine cs_seq ?_
    refine cs_region (l := [_, _, _, _, _]) ?_
    refine lv (.int .i64 x16_6) ?_
    refine lv (.pointer (some ⟨g1, (0 + 6), none⟩)) ?_
    refine ls_load (a0 := ⟨g1, (0 + 6), none⟩) (v := .slice A0_6 a0.2.2.2.2.2.2.length c0_6) (de := (TypeDesc.slice 67)) rfl rfl (by kernel_rfl) rfl (by kernel_rfl) (by kernel_rfl) (by kernel_rfl) (fun w hs => (hs.var (k := 0) (by exact rfl) (Sub4.trans (Sub4.all _) (Sub4.skip (n := 1) (len1 _) (Sub4.skip (n := 1) (len1 _) (Sub4.skip (n := 1) (len1 _) (Sub4.skip (n := 1) (len1 _) (Sub4.skip (n := 1) (len1 _) (Sub4.skip (n := 1) (len1 _) (Sub4.all _)))))))))) ?_
    refine lv (.int .i64 (a0.2.2.2.2.2.2.length : Int)) ?_
    refine lv (.bool (decide (x16_6 < (a0.2.2.2.2.2.2.length : Int)))) ?_
    refine ls_end ?_
    refine qn_then ?_
    by_cases q54 : x16_6 < (a0.2.2.2.2.2.2.length : Int)
    · replace H := ite_t q54 H
      refine cs_know (c := true) (dec_t q54) 116 (by kernel_rfl) ?_
      refine cs_true (by kernel_rfl) ?_
      refine cs_skip' ?_
      refine qn_then ?_
      refine cs_seq ?_
      refine cs_block ?_
      refine cs_seq ?_
      obtain ⟨s56_0, hs56_0⟩ := exv (.pointer (some ⟨g19, (0 + 6), none⟩))
      refine have_opa shadowboxlaw36_RecordBack.tab54 7 0 (fun sp => sp 0 = s56_0) (fun sp on hA hon => ?_) (fun ops56_0 => ?_)
      · refine ⟨fun o ho vs Rs f' S' w hp hf hx hS hR hs => ?_⟩
        obtain rfl := Option.some.inj ho
        exact opv (.pointer (some ⟨g19, (0 + 6), none⟩)) hA hs56_0 hon (fr_next (rfl) ((hx 10 (by kernel_rfl)).trans (by kernel_rfl : (_ : Value) = .pointer (some ⟨g19, 0, none⟩))))
      obtain ⟨s56_1, hs56_1⟩ := exv (.slice x12.1 t10.1.2.2.2.2.2.2.length x12.2)
      refine have_opa shadowboxlaw36_RecordBack.tab54 7 1 (fun sp => sp 1 = s56_1 ∧ sp 0 = s56_0) (fun sp on hA hon => ?_) (fun ops56_1 => ?_)
      · refine ⟨fun o ho vs Rs f' S' w hp hf hx hS hR hs => ?_⟩
        obtain rfl := Option.some.inj ho
        obtain ⟨hv0, hR0⟩ := (spe hA.2 hs56_0 (hp 0 (by kernel_rfl)))
        rw [hA.1, hs56_1]
        refine wn hon ?_
        have hF := fr_next (rfl) ((hf 0 119 (by kernel_rfl) rfl).trans hv0)
        refine ls_fr hF ?_
        refine ls_load (a0 := ⟨g19, (0 + 6), none⟩) (v := .slice x12.1 t10.1.2.2.2.2.2.2.length x12.2) (de := (TypeDesc.slice 67)) rfl rfl (by kernel_rfl) rfl (by kernel_rfl) (by kernel_rfl) (by kernel_rfl) (fun w1 hs1 => cell_step hs1.below.bw (hs.var (k := 2) ((hS 2 (by kernel_rfl)).trans (by exact rfl)) (Sub4.trans (Sub4.all _) (Sub4.skip (n := 1) (len1 _) (Sub4.skip (n := 1) (len1 _) (Sub4.skip (n := 1) (len1 _) (Sub4.skip (n := 1) (len1 _) (Sub4.skip (n := 1) (len1 _) (Sub4.skip (n := 1) (len1 _) (Sub4.all _)))))))))) ?_
        exact ls_fin s0 _ (congrArg (fun z => upd z 120 _) hF.symm) ⟨rfl, rfl⟩ (sub_nil _)
      obtain ⟨s56_2, hs56_2⟩ := exv (.int .i64 x16_6)
      refine have_opa shadowboxlaw36_RecordBack.tab54 7 2 (fun sp => sp 2 = s56_2) (fun sp on hA hon => ?_) (fun ops56_2 => ?_)
      · refine ⟨fun o ho vs Rs f' S' w hp hf hx hS hR hs => ?_⟩
        obtain rfl := Option.some.inj ho
        exact opv (.int .i64 x16_6) hA hs56_2 hon (fr_next (rfl) ((hx 16 (by kernel_rfl)).trans (by kernel_rfl : (_ : Value) = .int .i64 x16_6)))
      obtain ⟨q57, H⟩ := ite_need H
      obtain ⟨q58, H⟩ := ite_need H
      obtain ⟨ad59, hA60⟩ := ido_at (T := T67) (l := t10.1.2.2.2.2.2.2) (i := x16_6) (Ro.mono hok40 hle39 (Ro.mono hok30 hle29 fR13)) q57 q58
      obtain ⟨s56_3, hs56_3⟩ := exv (.pointer (some (ad59.add ((x16_6).toNat * 2))))
      refine have_opa shadowboxlaw36_RecordBack.tab54 7 3 (fun sp => sp 3 = s56_3 ∧ sp 1 = s56_1 ∧ sp 2 = s56_2) (fun sp on hA hon => ?_) (fun ops56_3 => ?_)
      · refine ⟨fun o ho vs Rs f' S' w hp hf hx hS hR hs => ?_⟩
        obtain rfl := Option.some.inj ho
        obtain ⟨hv1, hR1⟩ := (spe hA.2.1 hs56_1 (hp 1 (by kernel_rfl)))
        obtain ⟨hv2, hR2⟩ := (spe hA.2.2 hs56_2 (hp 2 (by kernel_rfl)))
        rw [hA.1, hs56_3]
        refine wn hon ?_
        have hF := fr_next (fr_next (rfl) ((hf 1 120 (by kernel_rfl) rfl).trans hv1)) ((hf 2 121 (by kernel_rfl) rfl).trans hv2)
        refine ls_fr hF ?_
        refine ls_idxv T67 (A := x12.1) (c := x12.2) (l := t10.1.2.2.2.2.2.2) (k := .i64) (i := x16_6) (z := 2) (ad := ad59) rfl rfl (by kernel_rfl) hA60 rfl (by kernel_rfl) (by kernel_rfl) (by kernel_rfl) (by kernel_rfl) q57 q58 ?_
        exact ls_fin s0 _ (congrArg (fun z => upd z 122 _) hF.symm) ⟨rfl, rfl⟩ (sub_nil _)
      obtain ⟨s56_4, hs56_4⟩ := exv (.agg ⟨([Value.string (((t10.1.2.2.2.2.2.2).getD (x16_6).toNat (ByteArray.empty, ByteArray.empty)).1)] ++ [Value.string (((t10.1.2.2.2.2.2.2).getD (x16_6).toNat (ByteArray.empty, ByteArray.empty)).2)])⟩)
      refine have_opa shadowboxlaw36_RecordBack.tab54 7 4 (fun sp => sp 4 = s56_4 ∧ sp 3 = s56_3) (fun sp on hA hon => ?_) (fun ops56_4 => ?_)
      · refine ⟨fun o ho vs Rs f' S' w hp hf hx hS hR hs => ?_⟩
        obtain rfl := Option.some.inj ho
        obtain ⟨hv3, hR3⟩ := (spe hA.2 hs56_3 (hp 3 (by kernel_rfl)))
        rw [hA.1, hs56_4]
        refine wn hon ?_
        have hF := fr_next (rfl) ((hf 3 122 (by kernel_rfl) rfl).trans hv3)
        refine ls_fr hF ?_
        refine ls_loadagg (a := (ad59.add ((x16_6).toNat * 2))) (sub := ([Value.string (((t10.1.2.2.2.2.2.2).getD (x16_6).toNat (ByteArray.empty, ByteArray.empty)).1)] ++ [Value.string (((t10.1.2.2.2.2.2.2).getD (x16_6).toNat (ByteArray.empty, ByteArray.empty)).2)])) rfl rfl (by kernel_rfl) rfl (by kernel_rfl) (by kernel_rfl) (by kernel_rfl) (len_app (len1 _) (len1 _)) (fun w1 hs1 => (Rd.step (hs.old (Ro.mono hok40 hle39 (Ro.mono hok30 hle29 fR13))) hs1.below.bw).part hA60 (em_sub T67 t10.1.2.2.2.2.2.2 (i := (x16_6).toNat) (by have h0 : (0 : Int) ≤ x16_6 := q57; have h1 : x16_6 < (t10.1.2.2.2.2.2.2.length : Int) := q58; omega))) ?_
        exact ls_fin s0 _ (congrArg (fun z => upd z 123 _) hF.symm) ⟨rfl, rfl⟩ (sub_nil _)
      obtain ⟨s56_5, hs56_5⟩ := exv (.pointer (some ⟨g1, (0 + 6), none⟩))
      refine have_opa shadowboxlaw36_RecordBack.tab54 7 5 (fun sp => sp 5 = s56_5) (fun sp on hA hon => ?_) (fun ops56_5 => ?_)
      · refine ⟨fun o ho vs Rs f' S' w hp hf hx hS hR hs => ?_⟩
        obtain rfl := Option.some.inj ho
        exact opv (.pointer (some ⟨g1, (0 + 6), none⟩)) hA hs56_5 hon (fr_next (rfl) ((hx 2 (by kernel_rfl)).trans (by kernel_rfl : (_ : Value) = .pointer (some ⟨g1, 0, none⟩))))
      obtain ⟨s56_6, hs56_6⟩ := exv (.slice A0_6 a0.2.2.2.2.2.2.length c0_6)
      refine have_opa shadowboxlaw36_RecordBack.tab54 7 6 (fun sp => sp 6 = s56_6 ∧ sp 5 = s56_5) (fun sp on hA hon => ?_) (fun ops56_6 => ?_)
      · refine ⟨fun o ho vs Rs f' S' w hp hf hx hS hR hs => ?_⟩
        obtain rfl := Option.some.inj ho
        obtain ⟨hv5, hR5⟩ := (spe hA.2 hs56_5 (hp 5 (by kernel_rfl)))
        rw [hA.1, hs56_6]
        refine wn hon ?_
        have hF := fr_next (rfl) ((hf 5 124 (by kernel_rfl) rfl).trans hv5)
        refine ls_fr hF ?_
        refine ls_load (a0 := ⟨g1, (0 + 6), none⟩) (v := .slice A0_6 a0.2.2.2.2.2.2.length c0_6) (de := (TypeDesc.slice 67)) rfl rfl (by kernel_rfl) rfl (by kernel_rfl) (by kernel_rfl) (by kernel_rfl) (fun w1 hs1 => cell_step hs1.below.bw (hs.var (k := 0) ((hS 0 (by kernel_rfl)).trans (by exact rfl)) (Sub4.trans (Sub4.all _) (Sub4.skip (n := 1) (len1 _) (Sub4.skip (n := 1) (len1 _) (Sub4.skip (n := 1) (len1 _) (Sub4.skip (n := 1) (len1 _) (Sub4.skip (n := 1) (len1 _) (Sub4.skip (n := 1) (len1 _) (Sub4.all _)))))))))) ?_
        exact ls_fin s0 _ (congrArg (fun z => upd z 125 _) hF.symm) ⟨rfl, rfl⟩ (sub_nil _)
      obtain ⟨s56_7, hs56_7⟩ := exv (.int .i64 x16_6)
      refine have_opa shadowboxlaw36_RecordBack.tab54 7 7 (fun sp => sp 7 = s56_7) (fun sp on hA hon => ?_) (fun ops56_7 => ?_)
      · refine ⟨fun o ho vs Rs f' S' w hp hf hx hS hR hs => ?_⟩
        obtain rfl := Option.some.inj ho
        exact opv (.int .i64 x16_6) hA hs56_7 hon (fr_next (rfl) ((hx 16 (by kernel_rfl)).trans (by kernel_rfl : (_ : Value) = .int .i64 x16_6)))
      obtain ⟨ad61, hA62⟩ := ido_at (T := T67) (l := a0.2.2.2.2.2.2) (i := x16_6) (Ro.mono hok40 hle39 (Ro.mono hok30 hle29 (Ro.mono hok17 hle16 (Ro.mono hok7 hle6 R0_6)))) q57 q54
      obtain ⟨s56_8, hs56_8⟩ := exv (.pointer (some (ad61.add ((x16_6).toNat * 2))))
      refine have_opa shadowboxlaw36_RecordBack.tab54 7 8 (fun sp => sp 8 = s56_8 ∧ sp 6 = s56_6 ∧ sp 7 = s56_7) (fun sp on hA hon => ?_) (fun ops56_8 => ?_)
      · refine ⟨fun o ho vs Rs f' S' w hp hf hx hS hR hs => ?_⟩
        obtain rfl := Option.some.inj ho
        obtain ⟨hv6, hR6⟩ := (spe hA.2.1 hs56_6 (hp 6 (by kernel_rfl)))
        obtain ⟨hv7, hR7⟩ := (spe hA.2.2 hs56_7 (hp 7 (by kernel_rfl)))
        rw [hA.1, hs56_8]
        refine wn hon ?_
        have hF := fr_next (fr_next (rfl) ((hf 6 125 (by kernel_rfl) rfl).trans hv6)) ((hf 7 126 (by kernel_rfl) rfl).trans hv7)
        refine ls_fr hF ?_
        refine ls_idxv T67 (A := A0_6) (c := c0_6) (l := a0.2.2.2.2.2.2) (k := .i64) (i := x16_6) (z := 2) (ad := ad61) rfl rfl (by kernel_rfl) hA62 rfl (by kernel_rfl) (by kernel_rfl) (by kernel_rfl) (by kernel_rfl) q57 q54 ?_
        exact ls_fin s0 _ (congrArg (fun z => upd z 127 _) hF.symm) ⟨rfl, rfl⟩ (sub_nil _)
      obtain ⟨s56_9, hs56_9⟩ := exv (.agg ⟨([Value.string (((a0.2.2.2.2.2.2).getD (x16_6).toNat (ByteArray.empty, ByteArray.empty)).1)] ++ [Value.string (((a0.2.2.2.2.2.2).getD (x16_6).toNat (ByteArray.empty, ByteArray.empty)).2)])⟩)
      refine have_opa shadowboxlaw36_RecordBack.tab54 7 9 (fun sp => sp 9 = s56_9 ∧ sp 8 = s56_8) (fun sp on hA hon => ?_) (fun ops56_9 => ?_)
      · refine ⟨fun o ho vs Rs f' S' w hp hf hx hS hR hs => ?_⟩
        obtain rfl := Option.some.inj ho
        obtain ⟨hv8, hR8⟩ := (spe hA.2 hs56_8 (hp 8 (by kernel_rfl)))
        rw [hA.1, hs56_9]
        refine wn hon ?_
        have hF := fr_next (rfl) ((hf 8 127 (by kernel_rfl) rfl).trans hv8)
        refine ls_fr hF ?_
        refine ls_loadagg (a := (ad61.add ((x16_6).toNat * 2))) (sub := ([Value.string (((a0.2.2.2.2.2.2).getD (x16_6).toNat (ByteArray.empty, ByteArray.empty)).1)] ++ [Value.string (((a0.2.2.2.2.2.2).getD (x16_6).toNat (ByteArray.empty, ByteArray.empty)).2)])) rfl rfl (by kernel_rfl) rfl (by kernel_rfl) (by kernel_rfl) (by kernel_rfl) (len_app (len1 _) (len1 _)) (fun w1 hs1 => (Rd.step (hs.old (Ro.mono hok40 hle39 (Ro.mono hok30 hle29 (Ro.mono hok17 hle16 (Ro.mono hok7 hle6 R0_6))))) hs1.below.bw).part hA62 (em_sub T67 a0.2.2.2.2.2.2 (i := (x16_6).toNat) (by have h0 : (0 : Int) ≤ x16_6 := q57; have h1 : x16_6 < (a0.2.2.2.2.2.2.length : Int) := q54; omega))) ?_
        exact ls_fin s0 _ (congrArg (fun z => upd z 128 _) hF.symm) ⟨rfl, rfl⟩ (sub_nil _)
      refine cs_draw shadowboxlaw36_RecordBack.tab54 10 7 (spl [s56_0, s56_1, s56_2, s56_3, s56_4, s56_5, s56_6, s56_7, s56_8, s56_9]) (onl [true, true, true, true, true, true, true, true, true, true]) (by kernel_rfl) (by kernel_rfl) (by kernel_rfl) (by kernel_rfl) (rs := [_]) rfl (by kernel_rfl) (by kernel_rfl) (all_snoc (all_snoc (all_snoc (all_snoc (all_snoc (all_snoc (all_snoc (all_snoc (all_snoc (all_snoc (all_nil) (ops56_0 _ _ rfl rfl)) (ops56_1 _ _ ⟨rfl, rfl⟩ rfl)) (ops56_2 _ _ rfl rfl)) (ops56_3 _ _ ⟨rfl, rfl, rfl⟩ rfl)) (ops56_4 _ _ ⟨rfl, rfl⟩ rfl)) (ops56_5 _ _ rfl rfl)) (ops56_6 _ _ ⟨rfl, rfl⟩ rfl)) (ops56_7 _ _ rfl rfl)) (ops56_8 _ _ ⟨rfl, rfl, rfl⟩ rfl)) (ops56_9 _ _ ⟨rfl, rfl⟩ rfl)) ?_
      intro vs Rs f' S' hp hf hx hS hR
      obtain ⟨hv4, hR4⟩ := (spe rfl hs56_4 (hp 4 (by kernel_rfl)))
      obtain ⟨hv9, hR9⟩ := (spe rfl hs56_9 (hp 9 (by kernel_rfl)))
      refine ls_fr (F := upd (upd (upd (upd (upd f' 2 (.pointer (some ⟨g1, 0, none⟩))) 10 (.pointer (some ⟨g19, 0, none⟩))) 16 (.int .i64 x16_6)) 123 (.agg ⟨([Value.string (((t10.1.2.2.2.2.2.2).getD (x16_6).toNat (ByteArray.empty, ByteArray.empty)).1)] ++ [Value.string (((t10.1.2.2.2.2.2.2).getD (x16_6).toNat (ByteArray.empty, ByteArray.empty)).2)])⟩)) 128 (.agg ⟨([Value.string (((a0.2.2.2.2.2.2).getD (x16_6).toNat (ByteArray.empty, ByteArray.empty)).1)] ++ [Value.string (((a0.2.2.2.2.2.2).getD (x16_6).toNat (ByteArray.empty, ByteArray.empty)).2)])⟩)) (fr_next (fr_next (fr_next (fr_next (fr_next (rfl) ((hx 2 (by kernel_rfl)).trans (by kernel_rfl : (_ : Value) = .pointer (some ⟨g1, 0, none⟩)))) ((hx 10 (by kernel_rfl)).trans (by kernel_rfl : (_ : Value) = .pointer (some ⟨g19, 0, none⟩)))) ((hx 16 (by kernel_rfl)).trans (by kernel_rfl : (_ : Value) = .int .i64 x16_6))) ((hf 4 123 (by kernel_rfl) rfl).trans hv4)) ((hf 9 128 (by kernel_rfl) rfl).trans hv9)) ?_
      refine ls_sub (sput (sput s0 0 (some (Ck.var 51 g1 (([Value.int .i64 a0.1] ++ ([Value.int .i64 a0.2.1] ++ ([Value.int .i64 a0.2.2.1] ++ ([Value.int .i64 a0.2.2.2.1] ++ ([Value.string a0.2.2.2.2.1] ++ ([Value.string a0.2.2.2.2.2.1] ++ [Value.slice A0_6 a0.2.2.2.2.2.2.length c0_6])))))))))) 2 (some (Ck.var 51 g19 (([Value.int .i64 t10.1.1] ++ ([Value.int .i64 t10.1.2.1] ++ ([Value.int .i64 t10.1.2.2.1] ++ ([Value.int .i64 t10.1.2.2.2.1] ++ ([Value.string t10.1.2.2.2.2.1] ++ ([Value.string t10.1.2.2.2.2.2.1] ++ [Value.slice x12.1 t10.1.2.2.2.2.2.2.length x12.2])))))))))) (sub_put ((hS 2 (by kernel_rfl)).trans (by exact rfl)) (sub_put ((hS 0 (by kernel_rfl)).trans (by exact rfl)) (sub_nil _))) ?_
      refine ls_neq (xs := ([Value.string (((t10.1.2.2.2.2.2.2).getD (x16_6).toNat (ByteArray.empty, ByteArray.empty)).1)] ++ [Value.string (((t10.1.2.2.2.2.2.2).getD (x16_6).toNat (ByteArray.empty, ByteArray.empty)).2)])) (ys := ([Value.string (((a0.2.2.2.2.2.2).getD (x16_6).toNat (ByteArray.empty, ByteArray.empty)).1)] ++ [Value.string (((a0.2.2.2.2.2.2).getD (x16_6).toNat (ByteArray.empty, ByteArray.empty)).2)])) (r := (((((t10.1.2.2.2.2.2.2).getD (x16_6).toNat (ByteArray.empty, ByteArray.empty)).1).toList == (((a0.2.2.2.2.2.2).getD (x16_6).toNat (ByteArray.empty, ByteArray.empty)).1).toList) && ((((t10.1.2.2.2.2.2.2).getD (x16_6).toNat (ByteArray.empty, ByteArray.empty)).2).toList == (((a0.2.2.2.2.2.2).getD (x16_6).toNat (ByteArray.empty, ByteArray.empty)).2).toList))) rfl rfl (by kernel_rfl) rfl (by kernel_rfl) (by kernel_rfl) (by kernel_rfl) (eq_st (by kernel_rfl) (by kernel_rfl) (eqf_cons (ft := 9) (fo := 0) (by kernel_rfl) (part_one (by kernel_rfl) (Sub4.trans (Sub4.all _) (Sub4.head _ _))) (part_one (by kernel_rfl) (Sub4.trans (Sub4.all _) (Sub4.head _ _))) (eq_str (by kernel_rfl) _ _ _) (eqf_last (ft := 9) (fo := 1) (by kernel_rfl) (part_one (by kernel_rfl) (Sub4.trans (Sub4.all _) (Sub4.skip (n := 1) (len1 _) (Sub4.all _)))) (part_one (by kernel_rfl) (Sub4.trans (Sub4.all _) (Sub4.skip (n := 1) (len1 _) (Sub4.all _)))) (eq_str (by kernel_rfl) _ _ _) (by kernel_rfl)))) ?_
      refine ls_end ?_
      refine qn_then ?_
      by_cases q63 : (((((t10.1.2.2.2.2.2.2).getD (x16_6).toNat (ByteArray.empty, ByteArray.empty)).1).toList == (((a0.2.2.2.2.2.2).getD (x16_6).toNat (ByteArray.empty, ByteArray.empty)).1).toList) && ((((t10.1.2.2.2.2.2.2).getD (x16_6).toNat (ByteArray.empty, ByteArray.empty)).2).toList == (((a0.2.2.2.2.2.2).getD (x16_6).toNat (ByteArray.empty, ByteArray.empty)).2).toList)) = true
      · replace H := ite_t q63 H
        refine cs_know (c := false) (congrArg Bool.not (q63)) 129 (by kernel_rfl) ?_
        refine cs_false (by kernel_rfl) ?_
        refine cs_skip' ?_
        refine qn_block ?_
        refine qn_then ?_
        refine cs_region (l := [_, _, _]) ?_
        refine lv (.int .i64 x16_6) ?_
        refine lv (.int .i64 (IntKind.wrap .i64 (x16_6 + (1 : Int)))) ?_
        refine lv (.int .i64 (IntKind.wrap .i64 (x16_6 + (1 : Int)))) ?_
        refine ls_end ?_
        refine qn_again k6 (sput (sput s0 0 (some (Ck.var 51 g1 (([Value.int .i64 a0.1] ++ ([Value.int .i64 a0.2.1] ++ ([Value.int .i64 a0.2.2.1] ++ ([Value.int .i64 a0.2.2.2.1] ++ ([Value.string a0.2.2.2.2.1] ++ ([Value.string a0.2.2.2.2.2.1] ++ [Value.slice A0_6 a0.2.2.2.2.2.2.length c0_6])))))))))) 2 (some (Ck.var 51 g19 (([Value.int .i64 t10.1.1] ++ ([Value.int .i64 t10.1.2.1] ++ ([Value.int .i64 t10.1.2.2.1] ++ ([Value.int .i64 t10.1.2.2.2.1] ++ ([Value.string t10.1.2.2.2.2.1] ++ ([Value.string t10.1.2.2.2.2.2.1] ++ [Value.slice x12.1 t10.1.2.2.2.2.2.2.length x12.2])))))))))) (Nat.le_refl _) ⟨_, (IntKind.wrap .i64 (x16_6 + (1 : Int))), fr_next (fr_next (fr_next (rfl) (by kernel_rfl)) (by kernel_rfl)) (by kernel_rfl), rfl, H⟩ (sub_put (by exact rfl) (sub_put (by exact rfl) (sub_nil _)))
      replace H := ite_f q63 H
      refine cs_know (c := true) (congrArg Bool.not (Bool.eq_false_iff.mpr q63)) 129 (by kernel_rfl) ?_
      refine cs_true (by kernel_rfl) ?_
      refine cs_seq ?_
      refine cs_region (l := [_]) ?_
      refine lv (.bool false) ?_
      refine ls_end ?_
      refine qn_then ?_
      refine cs_ret' ?_
      refine qr_block ?_
      refine qr_then ?_
      refine qr_then ?_
      refine qr_block ?_
      refine qr_then ?_
      obtain rfl := Option.some.inj H
      refine qr_res (rs := [_]) rfl (fun w' hs => ⟨[.bool false], (res_tmp (by kernel_rfl) (.nil)), (), rfl, St.later hs0.ok (((hle6.trans hle16).trans hle29).trans hle39) (hs.pick (ts := []) (cs := []) trivial (by decide))⟩)
    replace H := ite_f q54 H
    refine cs_know (c := false) (dec_f q54) 116 (by kernel_rfl) ?_
    refine cs_false (by kernel_rfl) ?_
    refine cs_exit' ?_
    refine qx_then ?_
    refine qx_then ?_
    refine qx_same ?_
    refine qn_meet (sput (sput s0 0 (some (Ck.var 51 g1 (([Value.int .i64 a0.1] ++ ([Value.int .i64 a0.2.1] ++ ([Value.int .i64 a0.2.2.1] ++ ([Value.int .i64 a0.2.2.2.1] ++ ([Value.string a0.2.2.2.2.1] ++ ([Value.string a0.2.2.2.2.2.1] ++ [Value.slice A0_6 a0.2.2.2.2.2.2.length c0_6])))))))))) 2 (some (Ck.var 51 g19 (([Value.int .i64 t10.1.1] ++ ([Value.int .i64 t10.1.2.1] ++ ([Value.int .i64 t10.1.2.2.1] ++ ([Value.int .i64 t10.1.2.2.2.1] ++ ([Value.string t10.1.2.2.2.2.1] ++ ([Value.string t10.1.2.2.2.2.2.1] ++ [Value.slice x12.1 t10.1.2.2.2.2.2.2.length x12.2])))))))))) ⟨_, fr_next (fr_next (rfl) (by kernel_rfl)) (by kernel_rfl), rfl, H⟩ (sub_put (by exact rfl) (sub_put (by exact rfl) (sub_nil _)))
  rintro f S ⟨fr5, rfl, rfl, H⟩
  replace H : ((if t10.1.1 = a0.1 then (if t10.1.2.1 = a0.2.1 then (if t10.1.2.2.1 = a0.2.2.1 then (if t10.1.2.2.2.1 = a0.2.2.2.1 then (if (t10.1.2.2.2.2.1.toList == a0.2.2.2.2.1.toList) = true then some (t10.1.2.2.2.2.2.1.toList == a0.2.2.2.2.2.1.toList) else some false) else some false) else some false) else some false) else some false)) = some r := H
  refine cs_seq ?_
  refine cs_region (l := [_, _, _, _, _, _, _, _, _, _, _, _, _, _, _, _, _, _, _, _, _, _, _, _, _, _, _, _, _, _, _, _, _, _, _, _, _, _, _, _, _]) ?_
  refine lv (.pointer (some ⟨g19, (0 + 0), none⟩)) ?_
  refine ls_load (a0 := ⟨g19, (0 + 0), none⟩) (v := .int .i64 t10.1.1) (de := (TypeDesc.int .i64)) rfl rfl (by kernel_rfl) rfl (by kernel_rfl) (by kernel_rfl) (by kernel_rfl) (fun w hs => (hs.var (k := 2) (by exact rfl) (Sub4.trans (Sub4.all _) (Sub4.head _ _)))) ?_
  refine lv (.pointer (some ⟨g1, (0 + 0), none⟩)) ?_
  refine ls_load (a0 := ⟨g1, (0 + 0), none⟩) (v := .int .i64 a0.1) (de := (TypeDesc.int .i64)) rfl rfl (by kernel_rfl) rfl (by kernel_rfl) (by kernel_rfl) (by kernel_rfl) (fun w hs => (hs.var (k := 0) (by exact rfl) (Sub4.trans (Sub4.all _) (Sub4.head _ _)))) ?_
  refine lv (.bool (decide (t10.1.1 = a0.1))) ?_
  refine lv (.bool (decide (t10.1.1 = a0.1))) ?_
  by_cases q49 : t10.1.1 = a0.1
  · replace H := ite_t q49 H
    refine ls_know (c := true) (dec_t q49) 135 (by kernel_rfl) ?_
    refine ls_on (j := 5) (t := 135) (b := true) rfl rfl (by kernel_rfl) (by kernel_rfl) ?_
    refine lv (.pointer (some ⟨g19, (0 + 1), none⟩)) ?_
    refine ls_on (j := 5) (t := 135) (b := true) rfl rfl (by kernel_rfl) (by kernel_rfl) ?_
    refine ls_load (a0 := ⟨g19, (0 + 1), none⟩) (v := .int .i64 t10.1.2.1) (de := (TypeDesc.int .i64)) rfl rfl (by kernel_rfl) rfl (by kernel_rfl) (by kernel_rfl) (by kernel_rfl) (fun w hs => (hs.var (k := 2) (by exact rfl) (Sub4.trans (Sub4.all _) (Sub4.skip (n := 1) (len1 _) (Sub4.head _ _))))) ?_
    refine ls_on (j := 5) (t := 135) (b := true) rfl rfl (by kernel_rfl) (by kernel_rfl) ?_
    refine lv (.pointer (some ⟨g1, (0 + 1), none⟩)) ?_
    refine ls_on (j := 5) (t := 135) (b := true) rfl rfl (by kernel_rfl) (by kernel_rfl) ?_
    refine ls_load (a0 := ⟨g1, (0 + 1), none⟩) (v := .int .i64 a0.2.1) (de := (TypeDesc.int .i64)) rfl rfl (by kernel_rfl) rfl (by kernel_rfl) (by kernel_rfl) (by kernel_rfl) (fun w hs => (hs.var (k := 0) (by exact rfl) (Sub4.trans (Sub4.all _) (Sub4.skip (n := 1) (len1 _) (Sub4.head _ _))))) ?_
    refine ls_on (j := 5) (t := 135) (b := true) rfl rfl (by kernel_rfl) (by kernel_rfl) ?_
    refine lv (.bool (decide (t10.1.2.1 = a0.2.1))) ?_
    refine lv (.bool (decide (t10.1.2.1 = a0.2.1))) ?_
    refine lv (.bool (decide (t10.1.2.1 = a0.2.1))) ?_
    by_cases q50 : t10.1.2.1 = a0.2.1
    · replace H := ite_t q50 H
      refine ls_know (c := true) (dec_t q50) 142 (by kernel_rfl) ?_
      refine ls_on (j := 12) (t := 142) (b := true) rfl rfl (by kernel_rfl) (by kernel_rfl) ?_
      refine lv (.pointer (some ⟨g19, (0 + 2), none⟩)) ?_
      refine ls_on (j := 12) (t := 142) (b := true) rfl rfl (by kernel_rfl) (by kernel_rfl) ?_
      refine ls_load (a0 := ⟨g19, (0 + 2), none⟩) (v := .int .i64 t10.1.2.2.1) (de := (TypeDesc.int .i64)) rfl rfl (by kernel_rfl) rfl (by kernel_rfl) (by kernel_rfl) (by kernel_rfl) (fun w hs => (hs.var (k := 2) (by exact rfl) (Sub4.trans (Sub4.all _) (Sub4.skip (n := 1) (len1 _) (Sub4.skip (n := 1) (len1 _) (Sub4.head _ _)))))) ?_
      refine ls_on (j := 12) (t := 142) (b := true) rfl rfl (by kernel_rfl) (by kernel_rfl) ?_
      refine lv (.pointer (some ⟨g1, (0 + 2), none⟩)) ?_
      refine ls_on (j := 12) (t := 142) (b := true) rfl rfl (by kernel_rfl) (by kernel_rfl) ?_
      refine ls_load (a0 := ⟨g1, (0 + 2), none⟩) (v := .int .i64 a0.2.2.1) (de := (TypeDesc.int .i64)) rfl rfl (by kernel_rfl) rfl (by kernel_rfl) (by kernel_rfl) (by kernel_rfl) (fun w hs => (hs.var (k := 0) (by exact rfl) (Sub4.trans (Sub4.all _) (Sub4.skip (n := 1) (len1 _) (Sub4.skip (n := 1) (len1 _) (Sub4.head _ _)))))) ?_
      refine ls_on (j := 12) (t := 142) (b := true) rfl rfl (by kernel_rfl) (by kernel_rfl) ?_
      refine lv (.bool (decide (t10.1.2.2.1 = a0.2.2.1))) ?_
      refine lv (.bool (decide (t10.1.2.2.1 = a0.2.2.1))) ?_
      refine lv (.bool (decide (t10.1.2.2.1 = a0.2.2.1))) ?_
      by_cases q51 : t10.1.2.2.1 = a0.2.2.1
      · replace H := ite_t q51 H
        refine ls_know (c := true) (dec_t q51) 149 (by kernel_rfl) ?_
        refine ls_on (j := 19) (t := 149) (b := true) rfl rfl (by kernel_rfl) (by kernel_rfl) ?_
        refine lv (.pointer (some ⟨g19, (0 + 3), none⟩)) ?_
        refine ls_on (j := 19) (t := 149) (b := true) rfl rfl (by kernel_rfl) (by kernel_rfl) ?_
        refine ls_load (a0 := ⟨g19, (0 + 3), none⟩) (v := .int .i64 t10.1.2.2.2.1) (de := (TypeDesc.int .i64)) rfl rfl (by kernel_rfl) rfl (by kernel_rfl) (by kernel_rfl) (by kernel_rfl) (fun w hs => (hs.var (k := 2) (by exact rfl) (Sub4.trans (Sub4.all _) (Sub4.skip (n := 1) (len1 _) (Sub4.skip (n := 1) (len1 _) (Sub4.skip (n := 1) (len1 _) (Sub4.head _ _))))))) ?_
        refine ls_on (j := 19) (t := 149) (b := true) rfl rfl (by kernel_rfl) (by kernel_rfl) ?_
        refine lv (.pointer (some ⟨g1, (0 + 3), none⟩)) ?_
        refine ls_on (j := 19) (t := 149) (b := true) rfl rfl (by kernel_rfl) (by kernel_rfl) ?_
        refine ls_load (a0 := ⟨g1, (0 + 3), none⟩) (v := .int .i64 a0.2.2.2.1) (de := (TypeDesc.int .i64)) rfl rfl (by kernel_rfl) rfl (by kernel_rfl) (by kernel_rfl) (by kernel_rfl) (fun w hs => (hs.var (k := 0) (by exact rfl) (Sub4.trans (Sub4.all _) (Sub4.skip (n := 1) (len1 _) (Sub4.skip (n := 1) (len1 _) (Sub4.skip (n := 1) (len1 _) (Sub4.head _ _))))))) ?_
        refine ls_on (j := 19) (t := 149) (b := true) rfl rfl (by kernel_rfl) (by kernel_rfl) ?_
        refine lv (.bool (decide (t10.1.2.2.2.1 = a0.2.2.2.1))) ?_
        refine lv (.bool (decide (t10.1.2.2.2.1 = a0.2.2.2.1))) ?_
        refine lv (.bool (decide (t10.1.2.2.2.1 = a0.2.2.2.1))) ?_
        by_cases q52 : t10.1.2.2.2.1 = a0.2.2.2.1
        · replace H := ite_t q52 H
          refine ls_know (c := true) (dec_t q52) 156 (by kernel_rfl) ?_
          refine ls_on (j := 26) (t := 156) (b := true) rfl rfl (by kernel_rfl) (by kernel_rfl) ?_
          refine lv (.pointer (some ⟨g19, (0 + 4), none⟩)) ?_
          refine ls_on (j := 26) (t := 156) (b := true) rfl rfl (by kernel_rfl) (by kernel_rfl) ?_
          refine ls_load (a0 := ⟨g19, (0 + 4), none⟩) (v := .string t10.1.2.2.2.2.1) (de := TypeDesc.string) rfl rfl (by kernel_rfl) rfl (by kernel_rfl) (by kernel_rfl) (by kernel_rfl) (fun w hs => (hs.var (k := 2) (by exact rfl) (Sub4.trans (Sub4.all _) (Sub4.skip (n := 1) (len1 _) (Sub4.skip (n := 1) (len1 _) (Sub4.skip (n := 1) (len1 _) (Sub4.skip (n := 1) (len1 _) (Sub4.head _ _)))))))) ?_
          refine ls_on (j := 26) (t := 156) (b := true) rfl rfl (by kernel_rfl) (by kernel_rfl) ?_
          refine lv (.pointer (some ⟨g1, (0 + 4), none⟩)) ?_
          refine ls_on (j := 26) (t := 156) (b := true) rfl rfl (by kernel_rfl) (by kernel_rfl) ?_
          refine ls_load (a0 := ⟨g1, (0 + 4), none⟩) (v := .string a0.2.2.2.2.1) (de := TypeDesc.string) rfl rfl (by kernel_rfl) rfl (by kernel_rfl) (by kernel_rfl) (by kernel_rfl) (fun w hs => (hs.var (k := 0) (by exact rfl) (Sub4.trans (Sub4.all _) (Sub4.skip (n := 1) (len1 _) (Sub4.skip (n := 1) (len1 _) (Sub4.skip (n := 1) (len1 _) (Sub4.skip (n := 1) (len1 _) (Sub4.head _ _)))))))) ?_
          refine ls_on (j := 26) (t := 156) (b := true) rfl rfl (by kernel_rfl) (by kernel_rfl) ?_
          refine lv (.bool (t10.1.2.2.2.2.1.toList == a0.2.2.2.2.1.toList)) ?_
          refine lv (.bool (t10.1.2.2.2.2.1.toList == a0.2.2.2.2.1.toList)) ?_
          refine lv (.bool (t10.1.2.2.2.2.1.toList == a0.2.2.2.2.1.toList)) ?_
          by_cases q53 : (t10.1.2.2.2.2.1.toList == a0.2.2.2.2.1.toList) = true
          · replace H := ite_t q53 H
            refine ls_know (c := true) (q53) 163 (by kernel_rfl) ?_
            refine ls_on (j := 33) (t := 163) (b := true) rfl rfl (by kernel_rfl) (by kernel_rfl) ?_
            refine lv (.pointer (some ⟨g19, (0 + 5), none⟩)) ?_
            refine ls_on (j := 33) (t := 163) (b := true) rfl rfl (by kernel_rfl) (by kernel_rfl) ?_
            refine ls_load (a0 := ⟨g19, (0 + 5), none⟩) (v := .string t10.1.2.2.2.2.2.1) (de := TypeDesc.string) rfl rfl (by kernel_rfl) rfl (by kernel_rfl) (by kernel_rfl) (by kernel_rfl) (fun w hs => (hs.var (k := 2) (by exact rfl) (Sub4.trans (Sub4.all _) (Sub4.skip (n := 1) (len1 _) (Sub4.skip (n := 1) (len1 _) (Sub4.skip (n := 1) (len1 _) (Sub4.skip (n := 1) (len1 _) (Sub4.skip (n := 1) (len1 _) (Sub4.head _ _))))))))) ?_
            refine ls_on (j := 33) (t := 163) (b := true) rfl rfl (by kernel_rfl) (by kernel_rfl) ?_
            refine lv (.pointer (some ⟨g1, (0 + 5), none⟩)) ?_
            refine ls_on (j := 33) (t := 163) (b := true) rfl rfl (by kernel_rfl) (by kernel_rfl) ?_
            refine ls_load (a0 := ⟨g1, (0 + 5), none⟩) (v := .string a0.2.2.2.2.2.1) (de := TypeDesc.string) rfl rfl (by kernel_rfl) rfl (by kernel_rfl) (by kernel_rfl) (by kernel_rfl) (fun w hs => (hs.var (k := 0) (by exact rfl) (Sub4.trans (Sub4.all _) (Sub4.skip (n := 1) (len1 _) (Sub4.skip (n := 1) (len1 _) (Sub4.skip (n := 1) (len1 _) (Sub4.skip (n := 1) (len1 _) (Sub4.skip (n := 1) (len1 _) (Sub4.head _ _))))))))) ?_
            refine ls_on (j := 33) (t := 163) (b := true) rfl rfl (by kernel_rfl) (by kernel_rfl) ?_
            refine lv (.bool (t10.1.2.2.2.2.2.1.toList == a0.2.2.2.2.2.1.toList)) ?_
            refine lv (.bool (t10.1.2.2.2.2.2.1.toList == a0.2.2.2.2.2.1.toList)) ?_
            refine lv (.bool (t10.1.2.2.2.2.2.1.toList == a0.2.2.2.2.2.1.toList)) ?_
            refine ls_end ?_
            refine qn_then ?_
            refine cs_ret' ?_
            obtain rfl := Option.some.inj H
            refine qr_res (rs := [_]) rfl (fun w' hs => ⟨[.bool (t10.1.2.2.2.2.2.1.toList == a0.2.2.2.2.2.1.toList)], (res_tmp (by kernel_rfl) (.nil)), (), rfl, St.later hs0.ok (((hle6.trans hle16).trans hle29).trans hle39) (hs.pick (ts := []) (cs := []) trivial (by decide))⟩)
          replace H := ite_f q53 H
          refine ls_know (c := false) (Bool.eq_false_iff.mpr q53) 163 (by kernel_rfl) ?_
          refine lofx 33 163 true false ?_
          refine lofx 33 163 true false ?_
          refine lofx 33 163 true false ?_
          refine lofx 33 163 true false ?_
          refine lofx 33 163 true false ?_
          refine lv (.bool false) ?_
          refine lv (.bool false) ?_
          refine ls_end ?_
          refine qn_then ?_
          refine cs_ret' ?_
          obtain rfl := Option.some.inj H
          refine qr_res (rs := [_]) rfl (fun w' hs => ⟨[.bool false], (res_tmp (by kernel_rfl) (.nil)), (), rfl, St.later hs0.ok (((hle6.trans hle16).trans hle29).trans hle39) (hs.pick (ts := []) (cs := []) trivial (by decide))⟩)
        replace H := ite_f q52 H
        refine ls_know (c := false) (dec_f q52) 156 (by kernel_rfl) ?_
        refine lofx 26 156 true false ?_
        refine lofx 26 156 true false ?_
        refine lofx 26 156 true false ?_
        refine lofx 26 156 true false ?_
        refine lofx 26 156 true false ?_
        refine lv (.bool false) ?_
        refine lv (.bool false) ?_
        refine lofx 33 163 true false ?_
        refine lofx 33 163 true false ?_
        refine lofx 33 163 true false ?_
        refine lofx 33 163 true false ?_
        refine lofx 33 163 true false ?_
        refine lv (.bool false) ?_
        refine lv (.bool false) ?_
        refine ls_end ?_
        refine qn_then ?_
        refine cs_ret' ?_
        obtain rfl := Option.some.inj H
        refine qr_res (rs := [_]) rfl (fun w' hs => ⟨[.bool false], (res_tmp (by kernel_rfl) (.nil)), (), rfl, St.later hs0.ok (((hle6.trans hle16).trans hle29).trans hle39) (hs.pick (ts := []) (cs := []) trivial (by decide))⟩)
      replace H := ite_f q51 H
      refine ls_know (c := false) (dec_f q51) 149 (by kernel_rfl) ?_
      refine lofx 19 149 true false ?_
      refine lofx 19 149 true false ?_
      refine lofx 19 149 true false ?_
      refine lofx 19 149 true false ?_
      refine lofx 19 149 true false ?_
      refine lv (.bool false) ?_
      refine lv (.bool false) ?_
      refine lofx 26 156 true false ?_
      refine lofx 26 156 true false ?_
      refine lofx 26 156 true false ?_
      refine lofx 26 156 true false ?_
      refine lofx 26 156 true false ?_
      refine lv (.bool false) ?_
      refine lv (.bool false) ?_
      refine lofx 33 163 true false ?_
      refine lofx 33 163 true false ?_
      refine lofx 33 163 true false ?_
      refine lofx 33 163 true false ?_
      refine lofx 33 163 true false ?_
      refine lv (.bool false) ?_
      refine lv (.bool false) ?_
      refine ls_end ?_
      refine qn_then ?_
      refine cs_ret' ?_
      obtain rfl := Option.some.inj H
      refine qr_res (rs := [_]) rfl (fun w' hs => ⟨[.bool false], (res_tmp (by kernel_rfl) (.nil)), (), rfl, St.later hs0.ok (((hle6.trans hle16).trans hle29).trans hle39) (hs.pick (ts := []) (cs := []) trivial (by decide))⟩)
    replace H := ite_f q50 H
    refine ls_know (c := false) (dec_f q50) 142 (by kernel_rfl) ?_
    refine lofx 12 142 true false ?_
    refine lofx 12 142 true false ?_
    refine lofx 12 142 true false ?_
    refine lofx 12 142 true false ?_
    refine lofx 12 142 true false ?_
    refine lv (.bool false) ?_
    refine lv (.bool false) ?_
    refine lofx 19 149 true false ?_
    refine lofx 19 149 true false ?_
    refine lofx 19 149 true false ?_
    refine lofx 19 149 true false ?_
    refine lofx 19 149 true false ?_
    refine lv (.bool false) ?_
    refine lv (.bool false) ?_
    refine lofx 26 156 true false ?_
    refine lofx 26 156 true false ?_
    refine lofx 26 156 true false ?_
    refine lofx 26 156 true false ?_
    refine lofx 26 156 true false ?_
    refine lv (.bool false) ?_
    refine lv (.bool false) ?_
    refine lofx 33 163 true false ?_
    refine lofx 33 163 true false ?_
    refine lofx 33 163 true false ?_
    refine lofx 33 163 true false ?_
    refine lofx 33 163 true false ?_
    refine lv (.bool false) ?_
    refine lv (.bool false) ?_
    refine ls_end ?_
    refine qn_then ?_
    refine cs_ret' ?_
    obtain rfl := Option.some.inj H
    refine qr_res (rs := [_]) rfl (fun w' hs => ⟨[.bool false], (res_tmp (by kernel_rfl) (.nil)), (), rfl, St.later hs0.ok (((hle6.trans hle16).trans hle29).trans hle39) (hs.pick (ts := []) (cs := []) trivial (by decide))⟩)
  replace H := ite_f q49 H
  refine ls_know (c := false) (dec_f q49) 135 (by kernel_rfl) ?_
  refine lofx 5 135 true false ?_
  refine lofx 5 135 true false ?_
  refine lofx 5 135 true false ?_
  refine lofx 5 135 true false ?_
  refine lofx 5 135 true false ?_
  refine lv (.bool false) ?_
  refine lv (.bool false) ?_
  refine lofx 12 142 true false ?_
  refine lofx 12 142 true false ?_
  refine lofx 12 142 true false ?_
  refine lofx 12 142 true false ?_
  refine lofx 12 142 true false ?_
  refine lv (.bool false) ?_
  refine lv (.bool false) ?_
  refine lofx 19 149 true false ?_
  refine lofx 19 149 true false ?_
  refine lofx 19 149 true false ?_
  refine lofx 19 149 true false ?_
  refine lofx 19 149 true false ?_
  refine lv (.bool false) ?_
  refine lv (.bool false) ?_
  refine lofx 26 156 true false ?_
  refine lofx 26 156 true false ?_
  refine lofx 26 156 true false ?_
  refine lofx 26 156 true false ?_
  refine lofx 26 156 true false ?_
  refine lv (.bool false) ?_
  refine lv (.bool false) ?_
  refine lofx 33 163 true false ?_
  refine lofx 33 163 true false ?_
  refine lofx 33 163 true false ?_
  refine lofx 33 163 true false ?_
  refine lofx 33 163 true false ?_
  refine lv (.bool false) ?_
  refine lv (.bool false) ?_
  refine ls_end ?_
  refine qn_then ?_
  refine cs_ret' ?_
  obtain rfl := Option.some.inj H
  refine qr_res (rs := [_]) rfl (fun w' hs => ⟨[.bool false], (res_tmp (by kernel_rfl) (.nil)), (), rfl, St.later hs0.ok (((hle6.trans hle16).trans hle29).trans hle39) (hs.pick (ts := []) (cs := []) trivial (by decide))⟩)

end Go.Proofs.Ythhhkphbhlafbaa.G
