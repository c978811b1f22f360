/- Printed by a program of this session (sz.py): plain functions, and walks that show that the code comes to them; no condition. -/
import Derived.Test.YthhhkphbhlafbaaProg
import Derived.Test.YthhhkphbhlafbaaTy
import Derived.Test.YthhhkphbhlafbaaG0
import Derived.Test.YthhhkphbhlafbaaG1
import Derived.Test.YthhhkphbhlafbaaG2
import Derived.Test.YthhhkphbhlafbaaG3
set_option linter.unusedVariables false
set_option linter.unusedSimpArgs false
namespace Go.Proofs.Ythhhkphbhlafbaa.G
open Go Go.RowKit Go.Proofs.Ythhhkphbhlafbaa.Sx

/-! ### shadowbox/shadowboxlaw36.RecordBytes: function 7 -/
def shadowboxlaw36_RecordBytes.tab27 : List (List Nat) := [[], [0], [], [2], [0, 1, 2, 3], [0, 1, 2, 3, 4], [0, 1, 2, 3, 4, 5], [0, 1, 2, 3, 4, 5], [0, 1, 2, 3, 4, 5, 6, 7], [0, 1, 2, 3, 4, 5, 6, 7, 8], [0, 1, 2, 3, 4, 5, 6, 7, 8, 9], [0, 1, 2, 3, 4, 5, 6, 7, 8, 9, 10], [0, 1, 2, 3, 4, 5, 6, 7, 8, 9, 10, 11], [0, 1, 2, 3, 4, 5, 6, 7, 8, 9, 10], [0, 1, 2, 3, 4, 5, 6, 7, 8, 9, 10, 11, 12, 13], [0, 1, 2, 3, 4, 5, 6, 7, 8, 9, 10, 11, 12, 13, 14], [0, 1, 2, 3, 4, 5, 6, 7, 8, 9, 10, 11, 12, 13, 14, 15], [0, 1, 2, 3, 4, 5, 6, 7, 8, 9, 10, 11, 12, 13, 14, 15, 16], [0, 1, 2, 3, 4, 5, 6, 7, 8, 9, 10, 11, 12, 13, 14, 15, 16, 17], [0, 1, 2, 3, 4, 5, 6, 7, 8, 9, 10, 11, 12, 13, 14, 15, 16, 17], [0, 1, 2, 3, 4, 5, 6, 7, 8, 9, 10, 11, 12, 13, 14, 15, 16, 17, 18, 19], [0, 1, 2, 3, 4, 5, 6, 7, 8, 9, 10, 11, 12, 13, 14, 15, 16, 17, 18, 19, 20], [0, 1, 2, 3, 4, 5, 6, 7, 8, 9, 10, 11, 12, 13, 14, 15, 16, 17, 18, 19, 20, 21], [0, 1, 2, 3, 4, 5, 6, 7, 8, 9, 10, 11, 12, 13, 14, 15, 16, 17, 18, 19, 20, 21, 22], [0, 1, 2, 3, 4, 5, 6, 7, 8, 9, 10, 11, 12, 13, 14, 15, 16, 17, 18, 19, 20, 21, 22], [0, 1, 2, 3, 4, 5, 6, 7, 8, 9, 10, 11, 12, 13, 14, 15, 16, 17, 18, 19, 20, 21, 22, 23, 24], [0, 1, 2, 3, 4, 5, 6, 7, 8, 9, 10, 11, 12, 13, 14, 15, 16, 17, 18, 19, 20, 21, 22, 23, 24, 25], [0, 1, 2, 3, 4, 5, 6, 7, 8, 9, 10, 11, 12, 13, 14, 15, 16, 17, 18, 19, 20, 21, 22, 23, 24, 25, 26], [0, 1, 2, 3, 4, 5, 6, 7, 8, 9, 10, 11, 12, 13, 14, 15, 16, 17, 18, 19, 20, 21, 22, 23, 24, 25, 26, 27], [0, 1, 2, 3, 4, 5, 6, 7, 8, 9, 10, 11, 12, 13, 14, 15, 16, 17, 18, 19, 20, 21, 22, 23, 24, 25, 26, 27, 28], [0, 1, 2, 3, 4, 5, 6, 7, 8, 9, 10, 11, 12, 13, 14, 15, 16, 17, 18, 19, 20, 21, 22, 23, 24, 25, 26, 27, 28, 29], [0, 1, 2, 3, 4, 5, 6, 7, 8, 9, 10, 11, 12, 13, 14, 15, 16, 17, 18, 19, 20, 21, 22, 23, 24, 25, 26, 27, 28, 29, 30]]
def shadowboxlaw36_RecordBytes.jo1 (k : Nat) (a0 : (Int × Int × Int × Int × ByteArray × ByteArray × (List (ByteArray × ByteArray)))) (l1 : List Int) : Option (Bool) := (record_Put.f k (a0.1, a0.2.1, a0.2.2.1, a0.2.2.2.1, a0.2.2.2.2.1, a0.2.2.2.2.2.1, a0.2.2.2.2.2.2)).bind fun t2 => (shadowboxref36_Put.f k (a0.1, a0.2.1, a0.2.2.1, a0.2.2.2.1, a0.2.2.2.2.1, a0.2.2.2.2.2.1, a0.2.2.2.2.2.2)).bind fun t5 => (record_Read.f k l1).bind fun t8 => (shadowboxref36_Read.f k l1).bind fun t18 => (if ((strOfNums t2.1).toList == (strOfNums t5.1).toList) = true then (if t2.2 = t5.2 then (record_Right.f k (a0.1, a0.2.1, a0.2.2.1, a0.2.2.2.1, a0.2.2.2.2.1, a0.2.2.2.2.2.1, a0.2.2.2.2.2.2)).bind fun t32 => (shadowboxref36_Right.f k (a0.1, a0.2.1, a0.2.2.1, a0.2.2.2.1, a0.2.2.2.2.1, a0.2.2.2.2.2.1, a0.2.2.2.2.2.2)).bind fun t35 => (if (t32 == t35) = true then (shadowboxref36_Same.f k (t8.1.1, t8.1.2.1, t8.1.2.2.1, t8.1.2.2.2.1, t8.1.2.2.2.2.1, t8.1.2.2.2.2.2.1, t8.1.2.2.2.2.2.2) (t18.1.1, t18.1.2.1, t18.1.2.2.1, t18.1.2.2.2.1, t18.1.2.2.2.2.1, t18.1.2.2.2.2.2.1, t18.1.2.2.2.2.2.2)).bind fun t39 => (if t39 = true then (if t8.2 = t18.2 then (record_Right.f k ((1 : Int), (2 : Int), (0 : Int), (0 : Int), ByteArray.empty, ByteArray.empty, ([] : List (ByteArray × ByteArray)))).bind fun t44 => some t44 else some false) else some false) else some false) else some false) else some false)
def shadowboxlaw36_RecordBytes.f (k : Nat) (a0 : (Int × Int × Int × Int × ByteArray × ByteArray × (List (ByteArray × ByteArray)))) (l1 : List Int) : Option (Bool) :=
  (shadowboxlaw36_few.f k (a0.1, a0.2.1, a0.2.2.1, a0.2.2.2.1, a0.2.2.2.2.1, a0.2.2.2.2.2.1, a0.2.2.2.2.2.2)).bind fun t47 => (if t47 = true then (if (l1.length : Int) > (900 : Int) then some true else (shadowboxlaw36_RecordBytes.jo1 k a0 l1)) else some true)
set_option maxRecDepth 100000 in
set_option maxHeartbeats 4000000 in
theorem shadowboxlaw36_RecordBytes.calls (k : Nat) (A0_6 : Option Addr) (c0_6 : Nat) (a0 : (Int × Int × Int × Int × ByteArray × ByteArray × (List (ByteArray × ByteArray)))) (A1 : Option Addr) (c1 : Nat) (l1 : List Int) (r : Bool) (b : Bs) (hs0 : St b (stl []) b.w) (R0_6 : Ro b A0_6 (em T67 a0.2.2.2.2.2.2)) (C0_6 : a0.2.2.2.2.2.2.length ≤ c0_6) (R1 : Ro b A1 (em (Ec.int 5 .u8) l1)) (C1 : l1.length ≤ c1) (H : shadowboxlaw36_RecordBytes.f k a0 l1 = some r) :
    Calls Try.prog 7 #[.agg ⟨([Value.int .i64 a0.1] ++ ([Value.int .i64 a0.2.1] ++ ([Value.int .i64 a0.2.2.1] ++ ([Value.int .i64 a0.2.2.2.1] ++ ([Value.string a0.2.2.2.2.1] ++ ([Value.string a0.2.2.2.2.2.1] ++ [Value.slice A0_6 a0.2.2.2.2.2.2.length c0_6]))))))⟩, .slice A1 l1.length c1] b.w fun e w' => ∃ x : Unit, e = .returned (.bool r) ∧ St b (stl []) w' := by
  unfold shadowboxlaw36_RecordBytes.f at H
  refine enterb (n := 72) Try.func7 rfl (by kernel_rfl) (by kernel_rfl) hs0 ?_
  refine cs_sub (s0) (sub_nil _) ?_
  refine cs_seq ?_
  refine cs_region (l := [_, _]) ?_
  refine ls_new rfl rfl (by kernel_rfl) 0 (fun g => .pointer (some ⟨g, 0, none⟩)) (.cells ⟨([Value.int .i64 a0.1] ++ ([Value.int .i64 a0.2.1] ++ ([Value.int .i64 a0.2.2.1] ++ ([Value.int .i64 a0.2.2.2.1] ++ ([Value.string a0.2.2.2.2.1] ++ ([Value.string a0.2.2.2.2.2.1] ++ [Value.slice A0_6 a0.2.2.2.2.2.2.length c0_6]))))))⟩ 51) (fun w => by kernel_rfl) ?_
  intro g1
  refine lv (.bool false) ?_
  refine ls_end ?_
  refine qn_then ?_
  refine cs_cut (fun f S => ∃ (fR : Fr), f = upd (upd fR 1 (.slice A1 l1.length c1)) 2 (.pointer (some ⟨g1, 0, none⟩)) ∧ S = sput s0 0 (some (Ck.var 51 g1 (([Value.int .i64 a0.1] ++ ([Value.int .i64 a0.2.1] ++ ([Value.int .i64 a0.2.2.1] ++ ([Value.int .i64 a0.2.2.2.1] ++ ([Value.string a0.2.2.2.2.1] ++ ([Value.string a0.2.2.2.2.2.1] ++ [Value.slice A0_6 a0.2.2.2.2.2.2.length c0_6]))))))))) ∧ shadowboxlaw36_RecordBytes.jo1 k a0 l1 = some r) ?_ ?_
  · skip
    refine cs_seq ?_
    refine cs_region (l := [_, _, _, _, _, _, _, _]) ?_
    refine ls_loadagg (a := ⟨g1, 0, none⟩) (sub := ([Value.int .i64 a0.1] ++ ([Value.int .i64 a0.2.1] ++ ([Value.int .i64 a0.2.2.1] ++ ([Value.int .i64 a0.2.2.2.1] ++ ([Value.string a0.2.2.2.2.1] ++ ([Value.string a0.2.2.2.2.2.1] ++ [Value.slice A0_6 a0.2.2.2.2.2.2.length c0_6]))))))) rfl rfl (by kernel_rfl) rfl (by kernel_rfl) (by kernel_rfl) (by kernel_rfl) (len_app (len1 _) (len_app (len1 _) (len_app (len1 _) (len_app (len1 _) (len_app (len1 _) (len_app (len1 _) (len1 _))))))) (fun w hs => (hs.vars (k := 0) (by exact rfl) (Sub4.all _))) ?_
    obtain ⟨t47, hc48, H⟩ := bind_some H
    refine ls_callb (fid := 20) (vals := #[.agg ⟨([Value.int .i64 a0.1] ++ ([Value.int .i64 a0.2.1] ++ ([Value.int .i64 a0.2.2.1] ++ ([Value.int .i64 a0.2.2.2.1] ++ ([Value.string a0.2.2.2.2.1] ++ ([Value.string a0.2.2.2.2.2.1] ++ [Value.slice A0_6 a0.2.2.2.2.2.2.length c0_6]))))))⟩]) (X := Unit) (fun x => .bool t47) (fun x => stl []) [] [] [] [] 1 rfl rfl (by kernel_rfl) (fun w => by kernel_rfl) trivial trivial (by decide) (fun w hs hb => shadowboxlaw36_few.calls k A0_6 c0_6 (a0.1, a0.2.1, a0.2.2.1, a0.2.2.2.1, a0.2.2.2.2.1, a0.2.2.2.2.2.1, a0.2.2.2.2.2.2) t47 (lent b w [] []) hb (hs.ro R0_6 _ _) C0_6 hc48) ?_
    intro x49
    refine lv (.bool (!t47)) ?_
    refine lv (.bool (!t47)) ?_
    by_cases q50 : t47 = true
    · replace H := ite_t q50 H
      refine ls_know (c := false) (congrArg Bool.not (q50)) 16 (by kernel_rfl) ?_
      refine ls_on (j := 3) (t := 16) (b := false) rfl rfl (by kernel_rfl) (by kernel_rfl) ?_
      refine lv (.slice A1 l1.length c1) ?_
      refine ls_on (j := 3) (t := 16) (b := false) rfl rfl (by kernel_rfl) (by kernel_rfl) ?_
      refine lv (.int .i64 (l1.length : Int)) ?_
      refine ls_on (j := 3) (t := 16) (b := false) rfl rfl (by kernel_rfl) (by kernel_rfl) ?_
      refine lv (.bool (decide ((l1.length : Int) > (900 : Int)))) ?_
      refine lv (.bool (decide ((l1.length : Int) > (900 : Int)))) ?_
      refine ls_end ?_
      refine qn_then ?_
      by_cases q51 : (l1.length : Int) > (900 : Int)
      · replace H := ite_t q51 H
        refine cs_know (c := true) (dec_t q51) 20 (by kernel_rfl) ?_
        refine cs_true (by kernel_rfl) ?_
        refine cs_seq ?_
        refine cs_region (l := [_]) ?_
        refine lv (.bool true) ?_
        refine ls_end ?_
        refine qn_then ?_
        refine cs_ret' ?_
        refine qr_then ?_
        obtain rfl := Option.some.inj H
        refine qr_res (rs := [_]) rfl (fun w' hs => ⟨[.bool true], (res_tmp (by kernel_rfl) (.nil)), (), rfl, hs.pick (ts := []) (cs := []) trivial (by decide)⟩)
      replace H := ite_f q51 H
      refine cs_know (c := false) (dec_f q51) 20 (by kernel_rfl) ?_
      refine cs_false (by kernel_rfl) ?_
      refine cs_skip' ?_
      refine qn_meet (sput s0 0 (some (Ck.var 51 g1 (([Value.int .i64 a0.1] ++ ([Value.int .i64 a0.2.1] ++ ([Value.int .i64 a0.2.2.1] ++ ([Value.int .i64 a0.2.2.2.1] ++ ([Value.string a0.2.2.2.2.1] ++ ([Value.string a0.2.2.2.2.2.1] ++ [Value.slice A0_6 a0.2.2.2.2.2.2.length c0_6])))))))))) ⟨_, fr_next (fr_next (rfl) (by kernel_rfl)) (by kernel_rfl), rfl, H⟩ (sub_put (by exact rfl) (sub_nil _))
    replace H := ite_f q50 H
    refine ls_know (c := true) (congrArg Bool.not (Bool.eq_false_iff.mpr q50)) 16 (by kernel_rfl) ?_
    refine lofx 3 16 false true ?_
    refine lofx 3 16 false true ?_
    refine lofx 3 16 false true ?_
    refine lv (.bool true) ?_
    refine ls_end ?_
    refine qn_then ?_
    refine cs_true (by kernel_rfl) ?_
    refine cs_seq ?_
    refine cs_region (l := [_]) ?_
    refine lv (.bool true) ?_
    refine ls_end ?_
    refine qn_then ?_
    refine cs_ret' ?_
    refine qr_then ?_
    obtain rfl := Option.some.inj H
    refine qr_res (rs := [_]) rfl (fun w' hs => ⟨[.bool true], (res_tmp (by kernel_rfl) (.nil)), (), rfl, hs.pick (ts := []) (cs := []) trivial (by decide)⟩)
  rintro f S ⟨fr1, rfl, rfl, H⟩
  replace H : ((record_Put.f k (a0.1, a0.2.1, a0.2.2.1, a0.2.2.2.1, a0.2.2.2.2.1, a0.2.2.2.2.2.1, a0.2.2.2.2.2.2)).bind fun t2 => (shadowboxref36_Put.f k (a0.1, a0.2.1, a0.2.2.1, a0.2.2.2.1, a0.2.2.2.2.1, a0.2.2.2.2.2.1, a0.2.2.2.2.2.2)).bind fun t5 => (record_Read.f k l1).bind fun t8 => (shadowboxref36_Read.f k l1).bind fun t18 => (if ((strOfNums t2.1).toList == (strOfNums t5.1).toList) = true then (if t2.2 = t5.2 then (record_Right.f k (a0.1, a0.2.1, a0.2.2.1, a0.2.2.2.1, a0.2.2.2.2.1, a0.2.2.2.2.2.1, a0.2.2.2.2.2.2)).bind fun t32 => (shadowboxref36_Right.f k (a0.1, a0.2.1, a0.2.2.1, a0.2.2.2.1, a0.2.2.2.2.1, a0.2.2.2.2.2.1, a0.2.2.2.2.2.2)).bind fun t35 => (if (t32 == t35) = true then (shadowboxref36_Same.f k (t8.1.1, t8.1.2.1, t8.1.2.2.1, t8.1.2.2.2.1, t8.1.2.2.2.2.1, t8.1.2.2.2.2.2.1, t8.1.2.2.2.2.2.2) (t18.1.1, t18.1.2.1, t18.1.2.2.1, t18.1.2.2.2.1, t18.1.2.2.2.2.1, t18.1.2.2.2.2.2.1, t18.1.2.2.2.2.2.2)).bind fun t39 => (if t39 = true then (if t8.2 = t18.2 then (record_Right.f k ((1 : Int), (2 : Int), (0 : Int), (0 : Int), ByteArray.empty, ByteArray.empty, ([] : List (ByteArray × ByteArray)))).bind fun t44 => some t44 else some false) else some false) else some false) else some false) else some false)) = some r := H
  refine cs_seq ?_
  refine cs_region (l := [_, _, _, _, _, _, _]) ?_
  refine ls_loadagg (a := ⟨g1, 0, none⟩) (sub := ([Value.int .i64 a0.1] ++ ([Value.int .i64 a0.2.1] ++ ([Value.int .i64 a0.2.2.1] ++ ([Value.int .i64 a0.2.2.2.1] ++ ([Value.string a0.2.2.2.2.1] ++ ([Value.string a0.2.2.2.2.2.1] ++ [Value.slice A0_6 a0.2.2.2.2.2.2.length c0_6]))))))) rfl rfl (by kernel_rfl) rfl (by kernel_rfl) (by kernel_rfl) (by kernel_rfl) (len_app (len1 _) (len_app (len1 _) (len_app (len1 _) (len_app (len1 _) (len_app (len1 _) (len_app (len1 _) (len1 _))))))) (fun w hs => (hs.vars (k := 0) (by exact rfl) (Sub4.all _))) ?_
  obtain ⟨t2, hc3, H⟩ := bind_some H
  refine ls_callb (fid := 21) (vals := #[.agg ⟨([Value.int .i64 a0.1] ++ ([Value.int .i64 a0.2.1] ++ ([Value.int .i64 a0.2.2.1] ++ ([Value.int .i64 a0.2.2.2.1] ++ ([Value.string a0.2.2.2.2.1] ++ ([Value.string a0.2.2.2.2.2.1] ++ [Value.slice A0_6 a0.2.2.2.2.2.2.length c0_6]))))))⟩]) (X := (Option Addr × Nat)) (fun x => .tuple #[.slice x.1 t2.1.length x.2, .int .i64 t2.2]) (fun x => stl [Ck.ro (Ec.int 5 .u8) x.1 x.2 t2.1]) [] [] [] [] 1 rfl rfl (by kernel_rfl) (fun w => by kernel_rfl) trivial trivial (by decide) (fun w hs hb => record_Put.calls k A0_6 c0_6 (a0.1, a0.2.1, a0.2.2.1, a0.2.2.2.1, a0.2.2.2.2.1, a0.2.2.2.2.2.1, a0.2.2.2.2.2.2) t2 (lent b w [] []) hb (hs.ro R0_6 _ _) C0_6 hc3) ?_
  intro x4
  refine lv (.tuple #[.slice x4.1 t2.1.length x4.2, .int .i64 t2.2]) ?_
  refine lv (.slice x4.1 t2.1.length x4.2) ?_
  refine lv (.int .i64 t2.2) ?_
  refine lv (.slice x4.1 t2.1.length x4.2) ?_
  refine lv (.int .i64 t2.2) ?_
  refine ls_end ?_
  refine qn_then ?_
  refine cs_seq ?_
  refine cs_region (l := [_, _, _, _, _, _, _]) ?_
  refine ls_loadagg (a := ⟨g1, 0, none⟩) (sub := ([Value.int .i64 a0.1] ++ ([Value.int .i64 a0.2.1] ++ ([Value.int .i64 a0.2.2.1] ++ ([Value.int .i64 a0.2.2.2.1] ++ ([Value.string a0.2.2.2.2.1] ++ ([Value.string a0.2.2.2.2.2.1] ++ [Value.slice A0_6 a0.2.2.2.2.2.2.length c0_6]))))))) rfl rfl (by kernel_rfl) rfl (by kernel_rfl) (by kernel_rfl) (by kernel_rfl) (len_app (len1 _) (len_app (len1 _) (len_app (len1 _) (len_app (len1 _) (len_app (len1 _) (len_app (len1 _) (len1 _))))))) (fun w hs => (hs.vars (k := 0) (by exact rfl) (Sub4.all _))) ?_
  obtain ⟨t5, hc6, H⟩ := bind_some H
  refine ls_callb (fid := 22) (vals := #[.agg ⟨([Value.int .i64 a0.1] ++ ([Value.int .i64 a0.2.1] ++ ([Value.int .i64 a0.2.2.1] ++ ([Value.int .i64 a0.2.2.2.1] ++ ([Value.string a0.2.2.2.2.1] ++ ([Value.string a0.2.2.2.2.2.1] ++ [Value.slice A0_6 a0.2.2.2.2.2.2.length c0_6]))))))⟩]) (X := (Option Addr × Nat)) (fun x => .tuple #[.slice x.1 t5.1.length x.2, .int .i64 t5.2]) (fun x => stl [Ck.ro (Ec.int 5 .u8) x.1 x.2 t5.1]) [] [] [] [] 2 rfl rfl (by kernel_rfl) (fun w => by kernel_rfl) trivial trivial (by decide) (fun w hs hb => shadowboxref36_Put.calls k A0_6 c0_6 (a0.1, a0.2.1, a0.2.2.1, a0.2.2.2.1, a0.2.2.2.2.1, a0.2.2.2.2.2.1, a0.2.2.2.2.2.2) t5 (lent b w [] []) hb (hs.ro R0_6 _ _) C0_6 hc6) ?_
  intro x7
  refine lv (.tuple #[.slice x7.1 t5.1.length x7.2, .int .i64 t5.2]) ?_
  refine lv (.slice x7.1 t5.1.length x7.2) ?_
  refine lv (.int .i64 t5.2) ?_
  refine lv (.slice x7.1 t5.1.length x7.2) ?_
  refine lv (.int .i64 t5.2) ?_
  refine ls_end ?_
  refine qn_then ?_
  refine cs_seq ?_
  refine cs_region (l := [_, _, _, _, _, _, _, _]) ?_
  refine lv (.slice A1 l1.length c1) ?_
  obtain ⟨t8, hc9, H⟩ := bind_some H
  refine ls_callf (fid := 23) (vals := #[.slice A1 l1.length c1]) (X := (Option Addr × Nat)) (fun x => .tuple #[.agg ⟨([Value.int .i64 t8.1.1] ++ ([Value.int .i64 t8.1.2.1] ++ ([Value.int .i64 t8.1.2.2.1] ++ ([Value.int .i64 t8.1.2.2.2.1] ++ ([Value.string t8.1.2.2.2.2.1] ++ ([Value.string t8.1.2.2.2.2.2.1] ++ [Value.slice x.1 t8.1.2.2.2.2.2.2.length x.2]))))))⟩, .int .i64 t8.2]) (fun x => stl []) (fun x B => (Ro B x.1 (em T67 t8.1.2.2.2.2.2.2) ∧ t8.1.2.2.2.2.2.2.length ≤ x.2)) [] [] 3 rfl rfl (by kernel_rfl) (fun w => by kernel_rfl) trivial (by decide) (fun x b b' h hf => ⟨h _ _ hf.1, hf.2⟩) (fun w hs hb => record_Read.calls k A1 c1 l1 t8 (lent b w [] []) hb (hs.ro R1 _ _) C1 hc9) ?_
  intro x10 bs13 hle14 hok15 hf16
  obtain ⟨fR11, fC12⟩ := hf16
  refine lv (.tuple #[.agg ⟨([Value.int .i64 t8.1.1] ++ ([Value.int .i64 t8.1.2.1] ++ ([Value.int .i64 t8.1.2.2.1] ++ ([Value.int .i64 t8.1.2.2.2.1] ++ ([Value.string t8.1.2.2.2.2.1] ++ ([Value.string t8.1.2.2.2.2.2.1] ++ [Value.slice x10.1 t8.1.2.2.2.2.2.2.length x10.2]))))))⟩, .int .i64 t8.2]) ?_
  refine lv (.agg ⟨([Value.int .i64 t8.1.1] ++ ([Value.int .i64 t8.1.2.1] ++ ([Value.int .i64 t8.1.2.2.1] ++ ([Value.int .i64 t8.1.2.2.2.1] ++ ([Value.string t8.1.2.2.2.2.1] ++ ([Value.string t8.1.2.2.2.2.2.1] ++ [Value.slice x10.1 t8.1.2.2.2.2.2.2.length x10.2]))))))⟩) ?_
  refine lv (.int .i64 t8.2) ?_
  refine ls_new rfl rfl (by kernel_rfl) 3 (fun g => .pointer (some ⟨g, 0, none⟩)) (.cells ⟨([Value.int .i64 (0 : Int)] ++ ([Value.int .i64 (0 : Int)] ++ ([Value.int .i64 (0 : Int)] ++ ([Value.int .i64 (0 : Int)] ++ ([Value.string ByteArray.empty] ++ ([Value.string ByteArray.empty] ++ [Value.slice none 0 0]))))))⟩ 51) (fun w => by kernel_rfl) ?_
  intro g17
  refine ls_storec (g := g17) (off := 0) (v := .agg ⟨([Value.int .i64 t8.1.1] ++ ([Value.int .i64 t8.1.2.1] ++ ([Value.int .i64 t8.1.2.2.1] ++ ([Value.int .i64 t8.1.2.2.2.1] ++ ([Value.string t8.1.2.2.2.2.1] ++ ([Value.string t8.1.2.2.2.2.2.1] ++ [Value.slice x10.1 t8.1.2.2.2.2.2.2.length x10.2]))))))⟩) (vs := ([Value.int .i64 t8.1.1] ++ ([Value.int .i64 t8.1.2.1] ++ ([Value.int .i64 t8.1.2.2.1] ++ ([Value.int .i64 t8.1.2.2.2.1] ++ ([Value.string t8.1.2.2.2.2.1] ++ ([Value.string t8.1.2.2.2.2.2.1] ++ [Value.slice x10.1 t8.1.2.2.2.2.2.2.length x10.2]))))))) (cs := ([Value.int .i64 (0 : Int)] ++ ([Value.int .i64 (0 : Int)] ++ ([Value.int .i64 (0 : Int)] ++ ([Value.int .i64 (0 : Int)] ++ ([Value.string ByteArray.empty] ++ ([Value.string ByteArray.empty] ++ [Value.slice none 0 0]))))))) (ty := 51) 3 rfl rfl rfl (by kernel_rfl) (by kernel_rfl) (by kernel_rfl) (by exact rfl) (by kernel_rfl) (len_app (len1 _) (len_app (len1 _) (len_app (len1 _) (len_app (len1 _) (len_app (len1 _) (len_app (len1 _) (len1 _))))))) (one_app (one_cons rfl one_nil) (one_app (one_cons rfl one_nil) (one_app (one_cons rfl one_nil) (one_app (one_cons rfl one_nil) (one_app (one_cons rfl one_nil) (one_app (one_cons rfl one_nil) (one_cons rfl one_nil))))))) (hl_of (Sub4.all _) (len_eq (len_app (len1 _) (len_app (len1 _) (len_app (len1 _) (len_app (len1 _) (len_app (len1 _) (len_app (len1 _) (len1 _))))))) (len_app (len1 _) (len_app (len1 _) (len_app (len1 _) (len_app (len1 _) (len_app (len1 _) (len_app (len1 _) (len1 _))))))))) (cs' := ([Value.int .i64 t8.1.1] ++ ([Value.int .i64 t8.1.2.1] ++ ([Value.int .i64 t8.1.2.2.1] ++ ([Value.int .i64 t8.1.2.2.2.1] ++ ([Value.string t8.1.2.2.2.2.1] ++ ([Value.string t8.1.2.2.2.2.2.1] ++ [Value.slice x10.1 t8.1.2.2.2.2.2.2.length x10.2]))))))) (splc_all (len_eq (len_app (len1 _) (len_app (len1 _) (len_app (len1 _) (len_app (len1 _) (len_app (len1 _) (len_app (len1 _) (len1 _))))))) (len_app (len1 _) (len_app (len1 _) (len_app (len1 _) (len_app (len1 _) (len_app (len1 _) (len_app (len1 _) (len1 _))))))))) ?_
  refine lv (.int .i64 t8.2) ?_
  refine ls_end ?_
  refine qn_then ?_
  refine cs_seq ?_
  refine cs_region (l := [_, _, _, _, _, _, _, _]) ?_
  refine lv (.slice A1 l1.length c1) ?_
  obtain ⟨t18, hc19, H⟩ := bind_some H
  refine ls_callf (fid := 24) (vals := #[.slice A1 l1.length c1]) (X := (Option Addr × Nat)) (fun x => .tuple #[.agg ⟨([Value.int .i64 t18.1.1] ++ ([Value.int .i64 t18.1.2.1] ++ ([Value.int .i64 t18.1.2.2.1] ++ ([Value.int .i64 t18.1.2.2.2.1] ++ ([Value.string t18.1.2.2.2.2.1] ++ ([Value.string t18.1.2.2.2.2.2.1] ++ [Value.slice x.1 t18.1.2.2.2.2.2.2.length x.2]))))))⟩, .int .i64 t18.2]) (fun x => stl []) (fun x B => (Ro B x.1 (em T67 t18.1.2.2.2.2.2.2) ∧ t18.1.2.2.2.2.2.2.length ≤ x.2)) [] [] 4 rfl rfl (by kernel_rfl) (fun w => by kernel_rfl) trivial (by decide) (fun x b b' h hf => ⟨h _ _ hf.1, hf.2⟩) (fun w hs hb => shadowboxref36_Read.calls k A1 c1 l1 t18 (lent bs13 w [] []) hb (hs.ro (Ro.mono hok15 hle14 R1) _ _) C1 hc19) ?_
  intro x20 bs23 hle24 hok25 hf26
  obtain ⟨fR21, fC22⟩ := hf26
  refine lv (.tuple #[.agg ⟨([Value.int .i64 t18.1.1] ++ ([Value.int .i64 t18.1.2.1] ++ ([Value.int .i64 t18.1.2.2.1] ++ ([Value.int .i64 t18.1.2.2.2.1] ++ ([Value.string t18.1.2.2.2.2.1] ++ ([Value.string t18.1.2.2.2.2.2.1] ++ [Value.slice x20.1 t18.1.2.2.2.2.2.2.length x20.2]))))))⟩, .int .i64 t18.2]) ?_
  refine lv (.agg ⟨([Value.int .i64 t18.1.1] ++ ([Value.int .i64 t18.1.2.1] ++ ([Value.int .i64 t18.1.2.2.1] ++ ([Value.int .i64 t18.1.2.2.2.1] ++ ([Value.string t18.1.2.2.2.2.1] ++ ([Value.string t18.1.2.2.2.2.2.1] ++ [Value.slice x20.1 t18.1.2.2.2.2.2.2.length x20.2]))))))⟩) ?_
  refine lv (.int .i64 t18.2) ?_
  refine ls_new rfl rfl (by kernel_rfl) 4 (fun g => .pointer (some ⟨g, 0, none⟩)) (.cells ⟨([Value.int .i64 (0 : Int)] ++ ([Value.int .i64 (0 : Int)] ++ ([Value.int .i64 (0 : Int)] ++ ([Value.int .i64 (0 : Int)] ++ ([Value.string ByteArray.empty] ++ ([Value.string ByteArray.empty] ++ [Value.slice none 0 0]))))))⟩ 56) (fun w => by kernel_rfl) ?_
  intro g27
  refine ls_storec (g := g27) (off := 0) (v := .agg ⟨([Value.int .i64 t18.1.1] ++ ([Value.int .i64 t18.1.2.1] ++ ([Value.int .i64 t18.1.2.2.1] ++ ([Value.int .i64 t18.1.2.2.2.1] ++ ([Value.string t18.1.2.2.2.2.1] ++ ([Value.string t18.1.2.2.2.2.2.1] ++ [Value.slice x20.1 t18.1.2.2.2.2.2.2.length x20.2]))))))⟩) (vs := ([Value.int .i64 t18.1.1] ++ ([Value.int .i64 t18.1.2.1] ++ ([Value.int .i64 t18.1.2.2.1] ++ ([Value.int .i64 t18.1.2.2.2.1] ++ ([Value.string t18.1.2.2.2.2.1] ++ ([Value.string t18.1.2.2.2.2.2.1] ++ [Value.slice x20.1 t18.1.2.2.2.2.2.2.length x20.2]))))))) (cs := ([Value.int .i64 (0 : Int)] ++ ([Value.int .i64 (0 : Int)] ++ ([Value.int .i64 (0 : Int)] ++ ([Value.int .i64 (0 : Int)] ++ ([Value.string ByteArray.empty] ++ ([Value.string ByteArray.empty] ++ [Value.slice none 0 0]))))))) (ty := 56) 4 rfl rfl rfl (by kernel_rfl) (by kernel_rfl) (by kernel_rfl) (by exact rfl) (by kernel_rfl) (len_app (len1 _) (len_app (len1 _) (len_app (len1 _) (len_app (len1 _) (len_app (len1 _) (len_app (len1 _) (len1 _))))))) (one_app (one_cons rfl one_nil) (one_app (one_cons rfl one_nil) (one_app (one_cons rfl one_nil) (one_app (one_cons rfl one_nil) (one_app (one_cons rfl one_nil) (one_app (one_cons rfl one_nil) (one_cons rfl one_nil))))))) (hl_of (Sub4.all _) (len_eq (len_app (len1 _) (len_app (len1 _) (len_app (len1 _) (len_app (len1 _) (len_app (len1 _) (len_app (len1 _) (len1 _))))))) (len_app (len1 _) (len_app (len1 _) (len_app (len1 _) (len_app (len1 _) (len_app (len1 _) (len_app (len1 _) (len1 _))))))))) (cs' := ([Value.int .i64 t18.1.1] ++ ([Value.int .i64 t18.1.2.1] ++ ([Value.int .i64 t18.1.2.2.1] ++ ([Value.int .i64 t18.1.2.2.2.1] ++ ([Value.string t18.1.2.2.2.2.1] ++ ([Value.string t18.1.2.2.2.2.2.1] ++ [Value.slice x20.1 t18.1.2.2.2.2.2.2.length x20.2]))))))) (splc_all (len_eq (len_app (len1 _) (len_app (len1 _) (len_app (len1 _) (len_app (len1 _) (len_app (len1 _) (len_app (len1 _) (len1 _))))))) (len_app (len1 _) (len_app (len1 _) (len_app (len1 _) (len_app (len1 _) (len_app (len1 _) (len_app (len1 _) (len1 _))))))))) ?_
  refine lv (.int .i64 t18.2) ?_
  refine ls_end ?_
  refine qn_then ?_
  refine cs_seq ?_
  obtain ⟨s29_0, hs29_0⟩ := exv (.slice x4.1 t2.1.length x4.2)
  refine have_opa shadowboxlaw36_RecordBytes.tab27 5 0 (fun sp => sp 0 = s29_0) (fun sp on hA hon => ?_) (fun ops29_0 => ?_)
  · refine ⟨fun o ho vs Rs f' S' w hp hf hx hS hR hs => ?_⟩
    obtain rfl := Option.some.inj ho
    exact opv (.slice x4.1 t2.1.length x4.2) hA hs29_0 hon (fr_next (rfl) ((hx 5 (by kernel_rfl)).trans (by kernel_rfl : (_ : Value) = .slice x4.1 t2.1.length x4.2)))
  obtain ⟨s29_1, hs29_1⟩ := exv (.string (strOfNums t2.1))
  refine have_opa shadowboxlaw36_RecordBytes.tab27 5 1 (fun sp => sp 1 = s29_1 ∧ sp 0 = s29_0) (fun sp on hA hon => ?_) (fun ops29_1 => ?_)
  · refine ⟨fun o ho vs Rs f' S' w hp hf hx hS hR hs => ?_⟩
    obtain rfl := Option.some.inj ho
    obtain ⟨hv0, hR0⟩ := (spe hA.2 hs29_0 (hp 0 (by kernel_rfl)))
    rw [hA.1, hs29_1]
    refine wn hon ?_
    have hF := fr_next (rfl) ((hf 0 41 (by kernel_rfl) rfl).trans hv0)
    refine ls_fr hF ?_
    refine ls_str (A := x4.1) (c := x4.2) (e := 5) (l := t2.1) rfl rfl (by kernel_rfl) rfl (by kernel_rfl) (by kernel_rfl) (by kernel_rfl) (by kernel_rfl) (fun w1 hs1 => (Rd.step (hs.rod (k := 1) ((hS 1 (by kernel_rfl)).trans (by exact rfl))) hs1.below.bw)) ?_
    exact ls_fin s0 _ (congrArg (fun z => upd z 42 _) hF.symm) ⟨rfl, rfl⟩ (sub_nil _)
  obtain ⟨s29_2, hs29_2⟩ := exv (.slice x7.1 t5.1.length x7.2)
  refine have_opa shadowboxlaw36_RecordBytes.tab27 5 2 (fun sp => sp 2 = s29_2) (fun sp on hA hon => ?_) (fun ops29_2 => ?_)
  · refine ⟨fun o ho vs Rs f' S' w hp hf hx hS hR hs => ?_⟩
    obtain rfl := Option.some.inj ho
    exact opv (.slice x7.1 t5.1.length x7.2) hA hs29_2 hon (fr_next (rfl) ((hx 7 (by kernel_rfl)).trans (by kernel_rfl : (_ : Value) = .slice x7.1 t5.1.length x7.2)))
  obtain ⟨s29_3, hs29_3⟩ := exv (.string (strOfNums t5.1))
  refine have_opa shadowboxlaw36_RecordBytes.tab27 5 3 (fun sp => sp 3 = s29_3 ∧ sp 2 = s29_2) (fun sp on hA hon => ?_) (fun ops29_3 => ?_)
  · refine ⟨fun o ho vs Rs f' S' w hp hf hx hS hR hs => ?_⟩
    obtain rfl := Option.some.inj ho
    obtain ⟨hv2, hR2⟩ := (spe hA.2 hs29_2 (hp 2 (by kernel_rfl)))
    rw [hA.1, hs29_3]
    refine wn hon ?_
    have hF := fr_next (rfl) ((hf 2 43 (by kernel_rfl) rfl).trans hv2)
    refine ls_fr hF ?_
    refine ls_str (A := x7.1) (c := x7.2) (e := 5) (l := t5.1) rfl rfl (by kernel_rfl) rfl (by kernel_rfl) (by kernel_rfl) (by kernel_rfl) (by kernel_rfl) (fun w1 hs1 => (Rd.step (hs.rod (k := 2) ((hS 2 (by kernel_rfl)).trans (by exact rfl))) hs1.below.bw)) ?_
    exact ls_fin s0 _ (congrArg (fun z => upd z 44 _) hF.symm) ⟨rfl, rfl⟩ (sub_nil _)
  obtain ⟨s29_4, hs29_4⟩ := exv (.bool ((strOfNums t2.1).toList == (strOfNums t5.1).toList))
  refine have_opa shadowboxlaw36_RecordBytes.tab27 5 4 (fun sp => sp 4 = s29_4 ∧ sp 1 = s29_1 ∧ sp 3 = s29_3) (fun sp on hA hon => ?_) (fun ops29_4 => ?_)
  · refine ⟨fun o ho vs Rs f' S' w hp hf hx hS hR hs => ?_⟩
    obtain rfl := Option.some.inj ho
    obtain ⟨hv1, hR1⟩ := (spe hA.2.1 hs29_1 (hp 1 (by kernel_rfl)))
    obtain ⟨hv3, hR3⟩ := (spe hA.2.2 hs29_3 (hp 3 (by kernel_rfl)))
    exact opv (.bool ((strOfNums t2.1).toList == (strOfNums t5.1).toList)) hA.1 hs29_4 hon (fr_next (fr_next (rfl) ((hf 1 42 (by kernel_rfl) rfl).trans hv1)) ((hf 3 44 (by kernel_rfl) rfl).trans hv3))
  obtain ⟨s29_5, hs29_5⟩ := exv (.bool ((strOfNums t2.1).toList == (strOfNums t5.1).toList))
  refine have_opa shadowboxlaw36_RecordBytes.tab27 5 5 (fun sp => sp 5 = s29_5 ∧ sp 4 = s29_4) (fun sp on hA hon => ?_) (fun ops29_5 => ?_)
  · refine ⟨fun o ho vs Rs f' S' w hp hf hx hS hR hs => ?_⟩
    obtain rfl := Option.some.inj ho
    obtain ⟨hv4, hR4⟩ := (spe hA.2 hs29_4 (hp 4 (by kernel_rfl)))
    exact opv (.bool ((strOfNums t2.1).toList == (strOfNums t5.1).toList)) hA.1 hs29_5 hon (fr_next (rfl) ((hf 4 45 (by kernel_rfl) rfl).trans hv4))
  by_cases q30 : ((strOfNums t2.1).toList == (strOfNums t5.1).toList) = true
  · replace H := ite_t q30 H
    obtain ⟨s29_6, hs29_6⟩ := exv (.int .i64 t2.2)
    refine have_opa shadowboxlaw36_RecordBytes.tab27 5 6 (fun sp => sp 6 = s29_6 ∧ sp 5 = s29_5) (fun sp on hA hon => ?_) (fun ops29_6 => ?_)
    · refine ⟨fun o ho vs Rs f' S' w hp hf hx hS hR hs => ?_⟩
      obtain rfl := Option.some.inj ho
      obtain ⟨hv5, hR5⟩ := (spe hA.2 hs29_5 (hp 5 (by kernel_rfl)))
      rw [hA.1, hs29_6]
      refine And.intro (fun a ha => (want_is (j := 5) (t := 46) (r := true) rfl rfl (by kernel_rfl) (((hf 5 46 (by kernel_rfl) rfl).trans hv5).trans (congrArg Value.bool (show ((strOfNums t2.1).toList == (strOfNums t5.1).toList) = true from q30))) rfl a ha).trans hon.symm) (And.intro (fun _ => ?_) (fun h => by rw [hon] at h; cases h))
      have hF := fr_next (fr_next (rfl) ((hx 6 (by kernel_rfl)).trans (by kernel_rfl : (_ : Value) = .int .i64 t2.2))) (((hf 5 46 (by kernel_rfl) rfl).trans hv5).trans (congrArg Value.bool (show ((strOfNums t2.1).toList == (strOfNums t5.1).toList) = true from q30)))
      refine ls_fr hF ?_
      refine lv (.int .i64 t2.2) ?_
      exact ls_fin s0 _ (congrArg (fun z => upd z 47 _) hF.symm) ⟨rfl, rfl⟩ (sub_nil _)
    obtain ⟨s29_7, hs29_7⟩ := exv (.int .i64 t5.2)
    refine have_opa shadowboxlaw36_RecordBytes.tab27 5 7 (fun sp => sp 7 = s29_7 ∧ sp 5 = s29_5) (fun sp on hA hon => ?_) (fun ops29_7 => ?_)
    · refine ⟨fun o ho vs Rs f' S' w hp hf hx hS hR hs => ?_⟩
      obtain rfl := Option.some.inj ho
      obtain ⟨hv5, hR5⟩ := (spe hA.2 hs29_5 (hp 5 (by kernel_rfl)))
      rw [hA.1, hs29_7]
      refine And.intro (fun a ha => (want_is (j := 5) (t := 46) (r := true) rfl rfl (by kernel_rfl) (((hf 5 46 (by kernel_rfl) rfl).trans hv5).trans (congrArg Value.bool (show ((strOfNums t2.1).toList == (strOfNums t5.1).toList) = true from q30))) rfl a ha).trans hon.symm) (And.intro (fun _ => ?_) (fun h => by rw [hon] at h; cases h))
      have hF := fr_next (fr_next (rfl) ((hx 8 (by kernel_rfl)).trans (by kernel_rfl : (_ : Value) = .int .i64 t5.2))) (((hf 5 46 (by kernel_rfl) rfl).trans hv5).trans (congrArg Value.bool (show ((strOfNums t2.1).toList == (strOfNums t5.1).toList) = true from q30)))
      refine ls_fr hF ?_
      refine lv (.int .i64 t5.2) ?_
      exact ls_fin s0 _ (congrArg (fun z => upd z 48 _) hF.symm) ⟨rfl, rfl⟩ (sub_nil _)
    obtain ⟨s29_8, hs29_8⟩ := exv (.bool (decide (t2.2 = t5.2)))
    refine have_opa shadowboxlaw36_RecordBytes.tab27 5 8 (fun sp => sp 8 = s29_8 ∧ sp 5 = s29_5 ∧ sp 6 = s29_6 ∧ sp 7 = s29_7) (fun sp on hA hon => ?_) (fun ops29_8 => ?_)
    · refine ⟨fun o ho vs Rs f' S' w hp hf hx hS hR hs => ?_⟩
      obtain rfl := Option.some.inj ho
      obtain ⟨hv5, hR5⟩ := (spe hA.2.1 hs29_5 (hp 5 (by kernel_rfl)))
      obtain ⟨hv6, hR6⟩ := (spe hA.2.2.1 hs29_6 (hp 6 (by kernel_rfl)))
      obtain ⟨hv7, hR7⟩ := (spe hA.2.2.2 hs29_7 (hp 7 (by kernel_rfl)))
      rw [hA.1, hs29_8]
      refine And.intro (fun a ha => (want_is (j := 5) (t := 46) (r := true) rfl rfl (by kernel_rfl) (((hf 5 46 (by kernel_rfl) rfl).trans hv5).trans (congrArg Value.bool (show ((strOfNums t2.1).toList == (strOfNums t5.1).toList) = true from q30))) rfl a ha).trans hon.symm) (And.intro (fun _ => ?_) (fun h => by rw [hon] at h; cases h))
      have hF := fr_next (fr_next (fr_next (rfl) (((hf 5 46 (by kernel_rfl) rfl).trans hv5).trans (congrArg Value.bool (show ((strOfNums t2.1).toList == (strOfNums t5.1).toList) = true from q30)))) ((hf 6 47 (by kernel_rfl) rfl).trans hv6)) ((hf 7 48 (by kernel_rfl) rfl).trans hv7)
      refine ls_fr hF ?_
      refine lv (.bool (decide (t2.2 = t5.2))) ?_
      exact ls_fin s0 _ (congrArg (fun z => upd z 49 _) hF.symm) ⟨rfl, rfl⟩ (sub_nil _)
    obtain ⟨s29_9, hs29_9⟩ := exv (.bool (decide (t2.2 = t5.2)))
    refine have_opa shadowboxlaw36_RecordBytes.tab27 5 9 (fun sp => sp 9 = s29_9 ∧ sp 5 = s29_5 ∧ sp 8 = s29_8) (fun sp on hA hon => ?_) (fun ops29_9 => ?_)
    · refine ⟨fun o ho vs Rs f' S' w hp hf hx hS hR hs => ?_⟩
      obtain rfl := Option.some.inj ho
      obtain ⟨hv5, hR5⟩ := (spe hA.2.1 hs29_5 (hp 5 (by kernel_rfl)))
      obtain ⟨hv8, hR8⟩ := (spe hA.2.2 hs29_8 (hp 8 (by kernel_rfl)))
      exact opv (.bool (decide (t2.2 = t5.2))) hA.1 hs29_9 hon (fr_next (fr_next (rfl) (((hf 5 46 (by kernel_rfl) rfl).trans hv5).trans (congrArg Value.bool (show ((strOfNums t2.1).toList == (strOfNums t5.1).toList) = true from q30)))) ((hf 8 49 (by kernel_rfl) rfl).trans hv8))
    obtain ⟨s29_10, hs29_10⟩ := exv (.bool (decide (t2.2 = t5.2)))
    refine have_opa shadowboxlaw36_RecordBytes.tab27 5 10 (fun sp => sp 10 = s29_10 ∧ sp 9 = s29_9) (fun sp on hA hon => ?_) (fun ops29_10 => ?_)
    · refine ⟨fun o ho vs Rs f' S' w hp hf hx hS hR hs => ?_⟩
      obtain rfl := Option.some.inj ho
      obtain ⟨hv9, hR9⟩ := (spe hA.2 hs29_9 (hp 9 (by kernel_rfl)))
      exact opv (.bool (decide (t2.2 = t5.2))) hA.1 hs29_10 hon (fr_next (rfl) ((hf 9 50 (by kernel_rfl) rfl).trans hv9))
    by_cases q31 : t2.2 = t5.2
    · replace H := ite_t q31 H
      obtain ⟨s29_11, hs29_11⟩ := exv (.agg ⟨([Value.int .i64 a0.1] ++ ([Value.int .i64 a0.2.1] ++ ([Value.int .i64 a0.2.2.1] ++ ([Value.int .i64 a0.2.2.2.1] ++ ([Value.string a0.2.2.2.2.1] ++ ([Value.string a0.2.2.2.2.2.1] ++ [Value.slice A0_6 a0.2.2.2.2.2.2.length c0_6]))))))⟩)
      refine have_opa shadowboxlaw36_RecordBytes.tab27 5 11 (fun sp => sp 11 = s29_11 ∧ sp 10 = s29_10) (fun sp on hA hon => ?_) (fun ops29_11 => ?_)
      · refine ⟨fun o ho vs Rs f' S' w hp hf hx hS hR hs => ?_⟩
        obtain rfl := Option.some.inj ho
        obtain ⟨hv10, hR10⟩ := (spe hA.2 hs29_10 (hp 10 (by kernel_rfl)))
        rw [hA.1, hs29_11]
        refine And.intro (fun a ha => (want_is (j := 10) (t := 51) (r := true) rfl rfl (by kernel_rfl) (((hf 10 51 (by kernel_rfl) rfl).trans hv10).trans (congrArg Value.bool (show (decide (t2.2 = t5.2)) = true from dec_t q31))) rfl a ha).trans hon.symm) (And.intro (fun _ => ?_) (fun h => by rw [hon] at h; cases h))
        have hF := fr_next (fr_next (rfl) ((hx 2 (by kernel_rfl)).trans (by kernel_rfl : (_ : Value) = .pointer (some ⟨g1, 0, none⟩)))) (((hf 10 51 (by kernel_rfl) rfl).trans hv10).trans (congrArg Value.bool (show (decide (t2.2 = t5.2)) = true from dec_t q31)))
        refine ls_fr hF ?_
        refine ls_loadagg (a := ⟨g1, 0, none⟩) (sub := ([Value.int .i64 a0.1] ++ ([Value.int .i64 a0.2.1] ++ ([Value.int .i64 a0.2.2.1] ++ ([Value.int .i64 a0.2.2.2.1] ++ ([Value.string a0.2.2.2.2.1] ++ ([Value.string a0.2.2.2.2.2.1] ++ [Value.slice A0_6 a0.2.2.2.2.2.2.length c0_6]))))))) rfl rfl (by kernel_rfl) rfl (by kernel_rfl) (by kernel_rfl) (by kernel_rfl) (len_app (len1 _) (len_app (len1 _) (len_app (len1 _) (len_app (len1 _) (len_app (len1 _) (len_app (len1 _) (len1 _))))))) (fun w1 hs1 => Rd.step (hs.vars (k := 0) ((hS 0 (by kernel_rfl)).trans (by exact rfl)) (Sub4.all _)) hs1.below.bw) ?_
        exact ls_fin s0 _ (congrArg (fun z => upd z 52 _) hF.symm) ⟨rfl, rfl⟩ (sub_nil _)
      obtain ⟨t32, hc33, H⟩ := bind_some H
      obtain ⟨s29_12, hs29_12⟩ : ∃ z : Value → Sto → Prop, z = (fun v R => ∃ x34 : Unit, v = .bool t32 ∧ R = stl []) := ⟨_, rfl⟩
      refine have_opa shadowboxlaw36_RecordBytes.tab27 5 12 (fun sp => sp 12 = s29_12 ∧ sp 10 = s29_10 ∧ sp 11 = s29_11) (fun sp on hA hon => ?_) (fun ops29_12 => ?_)
      · refine ⟨fun o ho vs Rs f' S' w hp hf hx hS hR hs => ?_⟩
        obtain rfl := Option.some.inj ho
        obtain ⟨hv10, hR10⟩ := (spe hA.2.1 hs29_10 (hp 10 (by kernel_rfl)))
        obtain ⟨hv11, hR11⟩ := (spe hA.2.2 hs29_11 (hp 11 (by kernel_rfl)))
        rw [hA.1, hs29_12]
        refine And.intro (fun a ha => (want_is (j := 10) (t := 51) (r := true) rfl rfl (by kernel_rfl) (((hf 10 51 (by kernel_rfl) rfl).trans hv10).trans (congrArg Value.bool (show (decide (t2.2 = t5.2)) = true from dec_t q31))) rfl a ha).trans hon.symm) (And.intro (fun _ => ?_) (fun h => by rw [hon] at h; cases h))
        have hF := fr_next (fr_next (rfl) (((hf 10 51 (by kernel_rfl) rfl).trans hv10).trans (congrArg Value.bool (show (decide (t2.2 = t5.2)) = true from dec_t q31)))) ((hf 11 52 (by kernel_rfl) rfl).trans hv11)
        refine ls_fr hF ?_
        refine ls_call (fid := 25) (vals := #[.agg ⟨([Value.int .i64 a0.1] ++ ([Value.int .i64 a0.2.1] ++ ([Value.int .i64 a0.2.2.1] ++ ([Value.int .i64 a0.2.2.2.1] ++ ([Value.string a0.2.2.2.2.1] ++ ([Value.string a0.2.2.2.2.2.1] ++ [Value.slice A0_6 a0.2.2.2.2.2.2.length c0_6]))))))⟩]) (X := Unit) (fun x => .bool t32) (fun x => stl []) 0 rfl rfl (by kernel_rfl) (fun w => by kernel_rfl) (fun w1 hs1 => record_Right.calls k A0_6 c0_6 (a0.1, a0.2.1, a0.2.2.1, a0.2.2.2.1, a0.2.2.2.2.1, a0.2.2.2.2.2.1, a0.2.2.2.2.2.2) t32 (bw w1) (St.refl w1) (Rd.ro (Rd.step (hs.old (Ro.mono hok25 hle24 (Ro.mono hok15 hle14 R0_6))) hs1.below.bw)) C0_6 hc33) ?_
        intro x34
        exact ls_fin (stl []) (.bool t32) (congrArg (fun z => upd z 53 _) hF.symm) ⟨x34, rfl, rfl⟩ (sub_join _)
      obtain ⟨s29_13, hs29_13⟩ := exv (.agg ⟨([Value.int .i64 a0.1] ++ ([Value.int .i64 a0.2.1] ++ ([Value.int .i64 a0.2.2.1] ++ ([Value.int .i64 a0.2.2.2.1] ++ ([Value.string a0.2.2.2.2.1] ++ ([Value.string a0.2.2.2.2.2.1] ++ [Value.slice A0_6 a0.2.2.2.2.2.2.length c0_6]))))))⟩)
      refine have_opa shadowboxlaw36_RecordBytes.tab27 5 13 (fun sp => sp 13 = s29_13 ∧ sp 10 = s29_10) (fun sp on hA hon => ?_) (fun ops29_13 => ?_)
      · refine ⟨fun o ho vs Rs f' S' w hp hf hx hS hR hs => ?_⟩
        obtain rfl := Option.some.inj ho
        obtain ⟨hv10, hR10⟩ := (spe hA.2 hs29_10 (hp 10 (by kernel_rfl)))
        rw [hA.1, hs29_13]
        refine And.intro (fun a ha => (want_is (j := 10) (t := 51) (r := true) rfl rfl (by kernel_rfl) (((hf 10 51 (by kernel_rfl) rfl).trans hv10).trans (congrArg Value.bool (show (decide (t2.2 = t5.2)) = true from dec_t q31))) rfl a ha).trans hon.symm) (And.intro (fun _ => ?_) (fun h => by rw [hon] at h; cases h))
        have hF := fr_next (fr_next (rfl) ((hx 2 (by kernel_rfl)).trans (by kernel_rfl : (_ : Value) = .pointer (some ⟨g1, 0, none⟩)))) (((hf 10 51 (by kernel_rfl) rfl).trans hv10).trans (congrArg Value.bool (show (decide (t2.2 = t5.2)) = true from dec_t q31)))
        refine ls_fr hF ?_
        refine ls_loadagg (a := ⟨g1, 0, none⟩) (sub := ([Value.int .i64 a0.1] ++ ([Value.int .i64 a0.2.1] ++ ([Value.int .i64 a0.2.2.1] ++ ([Value.int .i64 a0.2.2.2.1] ++ ([Value.string a0.2.2.2.2.1] ++ ([Value.string a0.2.2.2.2.2.1] ++ [Value.slice A0_6 a0.2.2.2.2.2.2.length c0_6]))))))) rfl rfl (by kernel_rfl) rfl (by kernel_rfl) (by kernel_rfl) (by kernel_rfl) (len_app (len1 _) (len_app (len1 _) (len_app (len1 _) (len_app (len1 _) (len_app (len1 _) (len_app (len1 _) (len1 _))))))) (fun w1 hs1 => Rd.step (hs.vars (k := 0) ((hS 0 (by kernel_rfl)).trans (by exact rfl)) (Sub4.all _)) hs1.below.bw) ?_
        exact ls_fin s0 _ (congrArg (fun z => upd z 54 _) hF.symm) ⟨rfl, rfl⟩ (sub_nil _)
      obtain ⟨t35, hc36, H⟩ := bind_some H
      obtain ⟨s29_14, hs29_14⟩ : ∃ z : Value → Sto → Prop, z = (fun v R => ∃ x37 : Unit, v = .bool t35 ∧ R = stl []) := ⟨_, rfl⟩
      refine have_opa shadowboxlaw36_RecordBytes.tab27 5 14 (fun sp => sp 14 = s29_14 ∧ sp 10 = s29_10 ∧ sp 13 = s29_13) (fun sp on hA hon => ?_) (fun ops29_14 => ?_)
      · refine ⟨fun o ho vs Rs f' S' w hp hf hx hS hR hs => ?_⟩
        obtain rfl := Option.some.inj ho
        obtain ⟨hv10, hR10⟩ := (spe hA.2.1 hs29_10 (hp 10 (by kernel_rfl)))
        obtain ⟨hv13, hR13⟩ := (spe hA.2.2 hs29_13 (hp 13 (by kernel_rfl)))
        rw [hA.1, hs29_14]
        refine And.intro (fun a ha => (want_is (j := 10) (t := 51) (r := true) rfl rfl (by kernel_rfl) (((hf 10 51 (by kernel_rfl) rfl).trans hv10).trans (congrArg Value.bool (show (decide (t2.2 = t5.2)) = true from dec_t q31))) rfl a ha).trans hon.symm) (And.intro (fun _ => ?_) (fun h => by rw [hon] at h; cases h))
        have hF := fr_next (fr_next (rfl) (((hf 10 51 (by kernel_rfl) rfl).trans hv10).trans (congrArg Value.bool (show (decide (t2.2 = t5.2)) = true from dec_t q31)))) ((hf 13 54 (by kernel_rfl) rfl).trans hv13)
        refine ls_fr hF ?_
        refine ls_call (fid := 26) (vals := #[.agg ⟨([Value.int .i64 a0.1] ++ ([Value.int .i64 a0.2.1] ++ ([Value.int .i64 a0.2.2.1] ++ ([Value.int .i64 a0.2.2.2.1] ++ ([Value.string a0.2.2.2.2.1] ++ ([Value.string a0.2.2.2.2.2.1] ++ [Value.slice A0_6 a0.2.2.2.2.2.2.length c0_6]))))))⟩]) (X := Unit) (fun x => .bool t35) (fun x => stl []) 0 rfl rfl (by kernel_rfl) (fun w => by kernel_rfl) (fun w1 hs1 => shadowboxref36_Right.calls k A0_6 c0_6 (a0.1, a0.2.1, a0.2.2.1, a0.2.2.2.1, a0.2.2.2.2.1, a0.2.2.2.2.2.1, a0.2.2.2.2.2.2) t35 (bw w1) (St.refl w1) (Rd.ro (Rd.step (hs.old (Ro.mono hok25 hle24 (Ro.mono hok15 hle14 R0_6))) hs1.below.bw)) C0_6 hc36) ?_
        intro x37
        exact ls_fin (stl []) (.bool t35) (congrArg (fun z => upd z 55 _) hF.symm) ⟨x37, rfl, rfl⟩ (sub_join _)
      obtain ⟨s29_15, hs29_15⟩ := exv (.bool (t32 == t35))
      refine have_opa shadowboxlaw36_RecordBytes.tab27 5 15 (fun sp => sp 15 = s29_15 ∧ sp 10 = s29_10 ∧ sp 12 = s29_12 ∧ sp 14 = s29_14) (fun sp on hA hon => ?_) (fun ops29_15 => ?_)
      · refine ⟨fun o ho vs Rs f' S' w hp hf hx hS hR hs => ?_⟩
        obtain rfl := Option.some.inj ho
        obtain ⟨hv10, hR10⟩ := (spe hA.2.1 hs29_10 (hp 10 (by kernel_rfl)))
        obtain ⟨x34, hv12, hR12⟩ := (spe hA.2.2.1 hs29_12 (hp 12 (by kernel_rfl)))
        obtain ⟨x37, hv14, hR14⟩ := (spe hA.2.2.2 hs29_14 (hp 14 (by kernel_rfl)))
        rw [hA.1, hs29_15]
        refine And.intro (fun a ha => (want_is (j := 10) (t := 51) (r := true) rfl rfl (by kernel_rfl) (((hf 10 51 (by kernel_rfl) rfl).trans hv10).trans (congrArg Value.bool (show (decide (t2.2 = t5.2)) = true from dec_t q31))) rfl a ha).trans hon.symm) (And.intro (fun _ => ?_) (fun h => by rw [hon] at h; cases h))
        have hF := fr_next (fr_next (fr_next (rfl) (((hf 10 51 (by kernel_rfl) rfl).trans hv10).trans (congrArg Value.bool (show (decide (t2.2 = t5.2)) = true from dec_t q31)))) ((hf 12 53 (by kernel_rfl) rfl).trans hv12)) ((hf 14 55 (by kernel_rfl) rfl).trans hv14)
        refine ls_fr hF ?_
        refine lv (.bool (t32 == t35)) ?_
        exact ls_fin s0 _ (congrArg (fun z => upd z 56 _) hF.symm) ⟨rfl, rfl⟩ (sub_nil _)
      obtain ⟨s29_16, hs29_16⟩ := exv (.bool (t32 == t35))
      refine have_opa shadowboxlaw36_RecordBytes.tab27 5 16 (fun sp => sp 16 = s29_16 ∧ sp 10 = s29_10 ∧ sp 15 = s29_15) (fun sp on hA hon => ?_) (fun ops29_16 => ?_)
      · refine ⟨fun o ho vs Rs f' S' w hp hf hx hS hR hs => ?_⟩
        obtain rfl := Option.some.inj ho
        obtain ⟨hv10, hR10⟩ := (spe hA.2.1 hs29_10 (hp 10 (by kernel_rfl)))
        obtain ⟨hv15, hR15⟩ := (spe hA.2.2 hs29_15 (hp 15 (by kernel_rfl)))
        exact opv (.bool (t32 == t35)) hA.1 hs29_16 hon (fr_next (fr_next (rfl) (((hf 10 51 (by kernel_rfl) rfl).trans hv10).trans (congrArg Value.bool (show (decide (t2.2 = t5.2)) = true from dec_t q31)))) ((hf 15 56 (by kernel_rfl) rfl).trans hv15))
      obtain ⟨s29_17, hs29_17⟩ := exv (.bool (t32 == t35))
      refine have_opa shadowboxlaw36_RecordBytes.tab27 5 17 (fun sp => sp 17 = s29_17 ∧ sp 16 = s29_16) (fun sp on hA hon => ?_) (fun ops29_17 => ?_)
      · refine ⟨fun o ho vs Rs f' S' w hp hf hx hS hR hs => ?_⟩
        obtain rfl := Option.some.inj ho
        obtain ⟨hv16, hR16⟩ := (spe hA.2 hs29_16 (hp 16 (by kernel_rfl)))
        exact opv (.bool (t32 == t35)) hA.1 hs29_17 hon (fr_next (rfl) ((hf 16 57 (by kernel_rfl) rfl).trans hv16))
      by_cases q38 : (t32 == t35) = true
      · replace H := ite_t q38 H
        obtain ⟨s29_18, hs29_18⟩ := exv (.agg ⟨([Value.int .i64 t8.1.1] ++ ([Value.int .i64 t8.1.2.1] ++ ([Value.int .i64 t8.1.2.2.1] ++ ([Value.int .i64 t8.1.2.2.2.1] ++ ([Value.string t8.1.2.2.2.2.1] ++ ([Value.string t8.1.2.2.2.2.2.1] ++ [Value.slice x10.1 t8.1.2.2.2.2.2.2.length x10.2]))))))⟩)
        refine have_opa shadowboxlaw36_RecordBytes.tab27 5 18 (fun sp => sp 18 = s29_18 ∧ sp 17 = s29_17) (fun sp on hA hon => ?_) (fun ops29_18 => ?_)
        · refine ⟨fun o ho vs Rs f' S' w hp hf hx hS hR hs => ?_⟩
          obtain rfl := Option.some.inj ho
          obtain ⟨hv17, hR17⟩ := (spe hA.2 hs29_17 (hp 17 (by kernel_rfl)))
          rw [hA.1, hs29_18]
          refine And.intro (fun a ha => (want_is (j := 17) (t := 58) (r := true) rfl rfl (by kernel_rfl) (((hf 17 58 (by kernel_rfl) rfl).trans hv17).trans (congrArg Value.bool (show (t32 == t35) = true from q38))) rfl a ha).trans hon.symm) (And.intro (fun _ => ?_) (fun h => by rw [hon] at h; cases h))
          have hF := fr_next (fr_next (rfl) ((hx 9 (by kernel_rfl)).trans (by kernel_rfl : (_ : Value) = .pointer (some ⟨g17, 0, none⟩)))) (((hf 17 58 (by kernel_rfl) rfl).trans hv17).trans (congrArg Value.bool (show (t32 == t35) = true from q38)))
          refine ls_fr hF ?_
          refine ls_loadagg (a := ⟨g17, 0, none⟩) (sub := ([Value.int .i64 t8.1.1] ++ ([Value.int .i64 t8.1.2.1] ++ ([Value.int .i64 t8.1.2.2.1] ++ ([Value.int .i64 t8.1.2.2.2.1] ++ ([Value.string t8.1.2.2.2.2.1] ++ ([Value.string t8.1.2.2.2.2.2.1] ++ [Value.slice x10.1 t8.1.2.2.2.2.2.2.length x10.2]))))))) rfl rfl (by kernel_rfl) rfl (by kernel_rfl) (by kernel_rfl) (by kernel_rfl) (len_app (len1 _) (len_app (len1 _) (len_app (len1 _) (len_app (len1 _) (len_app (len1 _) (len_app (len1 _) (len1 _))))))) (fun w1 hs1 => Rd.step (hs.vars (k := 3) ((hS 3 (by kernel_rfl)).trans (by exact rfl)) (Sub4.all _)) hs1.below.bw) ?_
          exact ls_fin s0 _ (congrArg (fun z => upd z 59 _) hF.symm) ⟨rfl, rfl⟩ (sub_nil _)
        obtain ⟨s29_19, hs29_19⟩ := exv (.agg ⟨([Value.int .i64 t18.1.1] ++ ([Value.int .i64 t18.1.2.1] ++ ([Value.int .i64 t18.1.2.2.1] ++ ([Value.int .i64 t18.1.2.2.2.1] ++ ([Value.string t18.1.2.2.2.2.1] ++ ([Value.string t18.1.2.2.2.2.2.1] ++ [Value.slice x20.1 t18.1.2.2.2.2.2.2.length x20.2]))))))⟩)
        refine have_opa shadowboxlaw36_RecordBytes.tab27 5 19 (fun sp => sp 19 = s29_19 ∧ sp 17 = s29_17) (fun sp on hA hon => ?_) (fun ops29_19 => ?_)
        · refine ⟨fun o ho vs Rs f' S' w hp hf hx hS hR hs => ?_⟩
          obtain rfl := Option.some.inj ho
          obtain ⟨hv17, hR17⟩ := (spe hA.2 hs29_17 (hp 17 (by kernel_rfl)))
          rw [hA.1, hs29_19]
          refine And.intro (fun a ha => (want_is (j := 17) (t := 58) (r := true) rfl rfl (by kernel_rfl) (((hf 17 58 (by kernel_rfl) rfl).trans hv17).trans (congrArg Value.bool (show (t32 == t35) = true from q38))) rfl a ha).trans hon.symm) (And.intro (fun _ => ?_) (fun h => by rw [hon] at h; cases h))
          have hF := fr_next (fr_next (rfl) ((hx 11 (by kernel_rfl)).trans (by kernel_rfl : (_ : Value) = .pointer (some ⟨g27, 0, none⟩)))) (((hf 17 58 (by kernel_rfl) rfl).trans hv17).trans (congrArg Value.bool (show (t32 == t35) = true from q38)))
          refine ls_fr hF ?_
          refine ls_loadagg (a := ⟨g27, 0, none⟩) (sub := ([Value.int .i64 t18.1.1] ++ ([Value.int .i64 t18.1.2.1] ++ ([Value.int .i64 t18.1.2.2.1] ++ ([Value.int .i64 t18.1.2.2.2.1] ++ ([Value.string t18.1.2.2.2.2.1] ++ ([Value.string t18.1.2.2.2.2.2.1] ++ [Value.slice x20.1 t18.1.2.2.2.2.2.2.length x20.2]))))))) rfl rfl (by kernel_rfl) rfl (by kernel_rfl) (by kernel_rfl) (by kernel_rfl) (len_app (len1 _) (len_app (len1 _) (len_app (len1 _) (len_app (len1 _) (len_app (len1 _) (len_app (len1 _) (len1 _))))))) (fun w1 hs1 => Rd.step (hs.vars (k := 4) ((hS 4 (by kernel_rfl)).trans (by exact rfl)) (Sub4.all _)) hs1.below.bw) ?_
          exact ls_fin s0 _ (congrArg (fun z => upd z 60 _) hF.symm) ⟨rfl, rfl⟩ (sub_nil _)
        obtain ⟨t39, hc40, H⟩ := bind_some H
        obtain ⟨s29_20, hs29_20⟩ : ∃ z : Value → Sto → Prop, z = (fun v R => ∃ x41 : Unit, v = .bool t39 ∧ R = stl []) := ⟨_, rfl⟩
        refine have_opa shadowboxlaw36_RecordBytes.tab27 5 20 (fun sp => sp 20 = s29_20 ∧ sp 17 = s29_17 ∧ sp 18 = s29_18 ∧ sp 19 = s29_19) (fun sp on hA hon => ?_) (fun ops29_20 => ?_)
        · refine ⟨fun o ho vs Rs f' S' w hp hf hx hS hR hs => ?_⟩
          obtain rfl := Option.some.inj ho
          obtain ⟨hv17, hR17⟩ := (spe hA.2.1 hs29_17 (hp 17 (by kernel_rfl)))
          obtain ⟨hv18, hR18⟩ := (spe hA.2.2.1 hs29_18 (hp 18 (by kernel_rfl)))
          obtain ⟨hv19, hR19⟩ := (spe hA.2.2.2 hs29_19 (hp 19 (by kernel_rfl)))
          rw [hA.1, hs29_20]
          refine And.intro (fun a ha => (want_is (j := 17) (t := 58) (r := true) rfl rfl (by kernel_rfl) (((hf 17 58 (by kernel_rfl) rfl).trans hv17).trans (congrArg Value.bool (show (t32 == t35) = true from q38))) rfl a ha).trans hon.symm) (And.intro (fun _ => ?_) (fun h => by rw [hon] at h; cases h))
          have hF := fr_next (fr_next (fr_next (rfl) (((hf 17 58 (by kernel_rfl) rfl).trans hv17).trans (congrArg Value.bool (show (t32 == t35) = true from q38)))) ((hf 18 59 (by kernel_rfl) rfl).trans hv18)) ((hf 19 60 (by kernel_rfl) rfl).trans hv19)
          refine ls_fr hF ?_
          refine ls_call (fid := 27) (vals := #[.agg ⟨([Value.int .i64 t8.1.1] ++ ([Value.int .i64 t8.1.2.1] ++ ([Value.int .i64 t8.1.2.2.1] ++ ([Value.int .i64 t8.1.2.2.2.1] ++ ([Value.string t8.1.2.2.2.2.1] ++ ([Value.string t8.1.2.2.2.2.2.1] ++ [Value.slice x10.1 t8.1.2.2.2.2.2.2.length x10.2]))))))⟩, .agg ⟨([Value.int .i64 t18.1.1] ++ ([Value.int .i64 t18.1.2.1] ++ ([Value.int .i64 t18.1.2.2.1] ++ ([Value.int .i64 t18.1.2.2.2.1] ++ ([Value.string t18.1.2.2.2.2.1] ++ ([Value.string t18.1.2.2.2.2.2.1] ++ [Value.slice x20.1 t18.1.2.2.2.2.2.2.length x20.2]))))))⟩]) (X := Unit) (fun x => .bool t39) (fun x => stl []) 0 rfl rfl (by kernel_rfl) (fun w => by kernel_rfl) (fun w1 hs1 => shadowboxref36_Same.calls k x10.1 x10.2 (t8.1.1, t8.1.2.1, t8.1.2.2.1, t8.1.2.2.2.1, t8.1.2.2.2.2.1, t8.1.2.2.2.2.2.1, t8.1.2.2.2.2.2.2) x20.1 x20.2 (t18.1.1, t18.1.2.1, t18.1.2.2.1, t18.1.2.2.2.1, t18.1.2.2.2.2.1, t18.1.2.2.2.2.2.1, t18.1.2.2.2.2.2.2) t39 (bw w1) (St.refl w1) (Rd.ro (Rd.step (hs.old (Ro.mono hok25 hle24 fR11)) hs1.below.bw)) fC12 (Rd.ro (Rd.step (hs.old fR21) hs1.below.bw)) fC22 hc40) ?_
          intro x41
          exact ls_fin (stl []) (.bool t39) (congrArg (fun z => upd z 61 _) hF.symm) ⟨x41, rfl, rfl⟩ (sub_join _)
        obtain ⟨s29_21, hs29_21⟩ := exv (.bool t39)
        refine have_opa shadowboxlaw36_RecordBytes.tab27 5 21 (fun sp => sp 21 = s29_21 ∧ sp 17 = s29_17 ∧ sp 20 = s29_20) (fun sp on hA hon => ?_) (fun ops29_21 => ?_)
        · refine ⟨fun o ho vs Rs f' S' w hp hf hx hS hR hs => ?_⟩
          obtain rfl := Option.some.inj ho
          obtain ⟨hv17, hR17⟩ := (spe hA.2.1 hs29_17 (hp 17 (by kernel_rfl)))
          obtain ⟨x41, hv20, hR20⟩ := (spe hA.2.2 hs29_20 (hp 20 (by kernel_rfl)))
          exact opv (.bool t39) hA.1 hs29_21 hon (fr_next (fr_next (rfl) (((hf 17 58 (by kernel_rfl) rfl).trans hv17).trans (congrArg Value.bool (show (t32 == t35) = true from q38)))) ((hf 20 61 (by kernel_rfl) rfl).trans hv20))
        obtain ⟨s29_22, hs29_22⟩ := exv (.bool t39)
        refine have_opa shadowboxlaw36_RecordBytes.tab27 5 22 (fun sp => sp 22 = s29_22 ∧ sp 21 = s29_21) (fun sp on hA hon => ?_) (fun ops29_22 => ?_)
        · refine ⟨fun o ho vs Rs f' S' w hp hf hx hS hR hs => ?_⟩
          obtain rfl := Option.some.inj ho
          obtain ⟨hv21, hR21⟩ := (spe hA.2 hs29_21 (hp 21 (by kernel_rfl)))
          exact opv (.bool t39) hA.1 hs29_22 hon (fr_next (rfl) ((hf 21 62 (by kernel_rfl) rfl).trans hv21))
        by_cases q42 : t39 = true
        · replace H := ite_t q42 H
          obtain ⟨s29_23, hs29_23⟩ := exv (.int .i64 t8.2)
          refine have_opa shadowboxlaw36_RecordBytes.tab27 5 23 (fun sp => sp 23 = s29_23 ∧ sp 22 = s29_22) (fun sp on hA hon => ?_) (fun ops29_23 => ?_)
          · refine ⟨fun o ho vs Rs f' S' w hp hf hx hS hR hs => ?_⟩
            obtain rfl := Option.some.inj ho
            obtain ⟨hv22, hR22⟩ := (spe hA.2 hs29_22 (hp 22 (by kernel_rfl)))
            rw [hA.1, hs29_23]
            refine And.intro (fun a ha => (want_is (j := 22) (t := 63) (r := true) rfl rfl (by kernel_rfl) (((hf 22 63 (by kernel_rfl) rfl).trans hv22).trans (congrArg Value.bool (show t39 = true from q42))) rfl a ha).trans hon.symm) (And.intro (fun _ => ?_) (fun h => by rw [hon] at h; cases h))
            have hF := fr_next (fr_next (rfl) ((hx 10 (by kernel_rfl)).trans (by kernel_rfl : (_ : Value) = .int .i64 t8.2))) (((hf 22 63 (by kernel_rfl) rfl).trans hv22).trans (congrArg Value.bool (show t39 = true from q42)))
            refine ls_fr hF ?_
            refine lv (.int .i64 t8.2) ?_
            exact ls_fin s0 _ (congrArg (fun z => upd z 64 _) hF.symm) ⟨rfl, rfl⟩ (sub_nil _)
          obtain ⟨s29_24, hs29_24⟩ := exv (.int .i64 t18.2)
          refine have_opa shadowboxlaw36_RecordBytes.tab27 5 24 (fun sp => sp 24 = s29_24 ∧ sp 22 = s29_22) (fun sp on hA hon => ?_) (fun ops29_24 => ?_)
          · refine ⟨fun o ho vs Rs f' S' w hp hf hx hS hR hs => ?_⟩
            obtain rfl := Option.some.inj ho
            obtain ⟨hv22, hR22⟩ := (spe hA.2 hs29_22 (hp 22 (by kernel_rfl)))
            rw [hA.1, hs29_24]
            refine And.intro (fun a ha => (want_is (j := 22) (t := 63) (r := true) rfl rfl (by kernel_rfl) (((hf 22 63 (by kernel_rfl) rfl).trans hv22).trans (congrArg Value.bool (show t39 = true from q42))) rfl a ha).trans hon.symm) (And.intro (fun _ => ?_) (fun h => by rw [hon] at h; cases h))
            have hF := fr_next (fr_next (rfl) ((hx 12 (by kernel_rfl)).trans (by kernel_rfl : (_ : Value) = .int .i64 t18.2))) (((hf 22 63 (by kernel_rfl) rfl).trans hv22).trans (congrArg Value.bool (show t39 = true from q42)))
            refine ls_fr hF ?_
            refine lv (.int .i64 t18.2) ?_
            exact ls_fin s0 _ (congrArg (fun z => upd z 65 _) hF.symm) ⟨rfl, rfl⟩ (sub_nil _)
          refine cs_draw shadowboxlaw36_RecordBytes.tab27 25 5 (spl [s29_0, s29_1, s29_2, s29_3, s29_4, s29_5, s29_6, s29_7, s29_8, s29_9, s29_10, s29_11, s29_12, s29_13, s29_14, s29_15, s29_16, s29_17, s29_18, s29_19, s29_20, s29_21, s29_22, s29_23, s29_24]) (onl [true, true, true, true, true, true, true, true, true, true, true, true, true, true, true, true, true, true, true, true, true, true, true, true, true]) (by kernel_rfl) (by kernel_rfl) (by kernel_rfl) (by kernel_rfl) (rs := [_, _, _, _, _, _, _]) rfl (by kernel_rfl) (by kernel_rfl) (all_snoc (all_snoc (all_snoc (all_snoc (all_snoc (all_snoc (all_snoc (all_snoc (all_snoc (all_snoc (all_snoc (all_snoc (all_snoc (all_snoc (all_snoc (all_snoc (all_snoc (all_snoc (all_snoc (all_snoc (all_snoc (all_snoc (all_snoc (all_snoc (all_snoc (all_nil) (ops29_0 _ _ rfl rfl)) (ops29_1 _ _ ⟨rfl, rfl⟩ rfl)) (ops29_2 _ _ rfl rfl)) (ops29_3 _ _ ⟨rfl, rfl⟩ rfl)) (ops29_4 _ _ ⟨rfl, rfl, rfl⟩ rfl)) (ops29_5 _ _ ⟨rfl, rfl⟩ rfl)) (ops29_6 _ _ ⟨rfl, rfl⟩ rfl)) (ops29_7 _ _ ⟨rfl, rfl⟩ rfl)) (ops29_8 _ _ ⟨rfl, rfl, rfl, rfl⟩ rfl)) (ops29_9 _ _ ⟨rfl, rfl, rfl⟩ rfl)) (ops29_10 _ _ ⟨rfl, rfl⟩ rfl)) (ops29_11 _ _ ⟨rfl, rfl⟩ rfl)) (ops29_12 _ _ ⟨rfl, rfl, rfl⟩ rfl)) (ops29_13 _ _ ⟨rfl, rfl⟩ rfl)) (ops29_14 _ _ ⟨rfl, rfl, rfl⟩ rfl)) (ops29_15 _ _ ⟨rfl, rfl, rfl, rfl⟩ rfl)) (ops29_16 _ _ ⟨rfl, rfl, rfl⟩ rfl)) (ops29_17 _ _ ⟨rfl, rfl⟩ rfl)) (ops29_18 _ _ ⟨rfl, rfl⟩ rfl)) (ops29_19 _ _ ⟨rfl, rfl⟩ rfl)) (ops29_20 _ _ ⟨rfl, rfl, rfl, rfl⟩ rfl)) (ops29_21 _ _ ⟨rfl, rfl, rfl⟩ rfl)) (ops29_22 _ _ ⟨rfl, rfl⟩ rfl)) (ops29_23 _ _ ⟨rfl, rfl⟩ rfl)) (ops29_24 _ _ ⟨rfl, rfl⟩ rfl)) ?_
          intro vs Rs f' S' hp hf hx hS hR
          obtain ⟨x34, hv12, hR12⟩ := (spe rfl hs29_12 (hp 12 (by kernel_rfl)))
          obtain ⟨x37, hv14, hR14⟩ := (spe rfl hs29_14 (hp 14 (by kernel_rfl)))
          obtain ⟨x41, hv20, hR20⟩ := (spe rfl hs29_20 (hp 20 (by kernel_rfl)))
          obtain ⟨hv22, hR22⟩ := (spe rfl hs29_22 (hp 22 (by kernel_rfl)))
          obtain ⟨hv23, hR23⟩ := (spe rfl hs29_23 (hp 23 (by kernel_rfl)))
          obtain ⟨hv24, hR24⟩ := (spe rfl hs29_24 (hp 24 (by kernel_rfl)))
          refine ls_fr (F := upd (upd (upd f' 63 (.bool t39)) 64 (.int .i64 t8.2)) 65 (.int .i64 t18.2)) (fr_next (fr_next (fr_next (rfl) ((hf 22 63 (by kernel_rfl) rfl).trans hv22)) ((hf 23 64 (by kernel_rfl) rfl).trans hv23)) ((hf 24 65 (by kernel_rfl) rfl).trans hv24)) ?_
          refine ls_sub (s0) (sub_nil _) ?_
          refine ls_know (c := true) (q42) 63 (by kernel_rfl) ?_
          refine ls_on (j := 22) (t := 63) (b := true) rfl rfl (by kernel_rfl) (by kernel_rfl) ?_
          refine lv (.bool (decide (t8.2 = t18.2))) ?_
          refine lv (.bool (decide (t8.2 = t18.2))) ?_
          refine lv (.bool (decide (t8.2 = t18.2))) ?_
          by_cases q43 : t8.2 = t18.2
          · replace H := ite_t q43 H
            refine ls_know (c := true) (dec_t q43) 68 (by kernel_rfl) ?_
            refine ls_on (j := 27) (t := 68) (b := true) rfl rfl (by kernel_rfl) (by kernel_rfl) ?_
            refine lv (.agg ⟨([Value.int .i64 (1 : Int)] ++ ([Value.int .i64 (2 : Int)] ++ ([Value.int .i64 (0 : Int)] ++ ([Value.int .i64 (0 : Int)] ++ ([Value.string ByteArray.empty] ++ ([Value.string ByteArray.empty] ++ [Value.slice none 0 0]))))))⟩) ?_
            refine ls_on (j := 27) (t := 68) (b := true) rfl rfl (by kernel_rfl) (by kernel_rfl) ?_
            obtain ⟨t44, hc45, H⟩ := bind_some H
            refine ls_callb (fid := 25) (vals := #[.agg ⟨([Value.int .i64 (1 : Int)] ++ ([Value.int .i64 (2 : Int)] ++ ([Value.int .i64 (0 : Int)] ++ ([Value.int .i64 (0 : Int)] ++ ([Value.string ByteArray.empty] ++ ([Value.string ByteArray.empty] ++ [Value.slice none 0 0]))))))⟩]) (X := Unit) (fun x => .bool t44) (fun x => stl []) [] [] [] [] 205 rfl rfl (by kernel_rfl) (fun w => by kernel_rfl) trivial trivial (by decide) (fun w hs hb => record_Right.calls k none 0 ((1 : Int), (2 : Int), (0 : Int), (0 : Int), ByteArray.empty, ByteArray.empty, ([] : List (ByteArray × ByteArray))) t44 (lent bs23 w [] []) hb (Ro.nil _ _) (Nat.le_refl 0) hc45) ?_
            intro x46
            refine lv (.bool t44) ?_
            refine lv (.bool t44) ?_
            refine ls_end ?_
            refine qn_then ?_
            refine cs_ret' ?_
            obtain rfl := Option.some.inj H
            refine qr_res (rs := [_]) rfl (fun w' hs => ⟨[.bool t44], (res_tmp (by kernel_rfl) (.nil)), (), rfl, St.later hs0.ok (hle14.trans hle24) (hs.pick (ts := []) (cs := []) trivial (by decide))⟩)
          replace H := ite_f q43 H
          refine ls_know (c := false) (dec_f q43) 68 (by kernel_rfl) ?_
          refine lofx 27 68 true false ?_
          refine lofx 27 68 true false ?_
          refine lv (.bool false) ?_
          refine lv (.bool false) ?_
          refine ls_end ?_
          refine qn_then ?_
          refine cs_ret' ?_
          obtain rfl := Option.some.inj H
          refine qr_res (rs := [_]) rfl (fun w' hs => ⟨[.bool false], (res_tmp (by kernel_rfl) (.nil)), (), rfl, St.later hs0.ok (hle14.trans hle24) (hs.pick (ts := []) (cs := []) trivial (by decide))⟩)
        replace H := ite_f q42 H
        refine cs_draw shadowboxlaw36_RecordBytes.tab27 25 5 (spl [s29_0, s29_1, s29_2, s29_3, s29_4, s29_5, s29_6, s29_7, s29_8, s29_9, s29_10, s29_11, s29_12, s29_13, s29_14, s29_15, s29_16, s29_17, s29_18, s29_19, s29_20, s29_21, s29_22, spu, spu]) (onl [true, true, true, true, true, true, true, true, true, true, true, true, true, true, true, true, true, true, true, true, true, true, true, false, false]) (by kernel_rfl) (by kernel_rfl) (by kernel_rfl) (by kernel_rfl) (rs := [_, _, _, _, _, _, _]) rfl (by kernel_rfl) (by kernel_rfl) (all_snoc (all_snoc (all_snoc (all_snoc (all_snoc (all_snoc (all_snoc (all_snoc (all_snoc (all_snoc (all_snoc (all_snoc (all_snoc (all_snoc (all_snoc (all_snoc (all_snoc (all_snoc (all_snoc (all_snoc (all_snoc (all_snoc (all_snoc (all_snoc (all_snoc (all_nil) (ops29_0 _ _ rfl rfl)) (ops29_1 _ _ ⟨rfl, rfl⟩ rfl)) (ops29_2 _ _ rfl rfl)) (ops29_3 _ _ ⟨rfl, rfl⟩ rfl)) (ops29_4 _ _ ⟨rfl, rfl, rfl⟩ rfl)) (ops29_5 _ _ ⟨rfl, rfl⟩ rfl)) (ops29_6 _ _ ⟨rfl, rfl⟩ rfl)) (ops29_7 _ _ ⟨rfl, rfl⟩ rfl)) (ops29_8 _ _ ⟨rfl, rfl, rfl, rfl⟩ rfl)) (ops29_9 _ _ ⟨rfl, rfl, rfl⟩ rfl)) (ops29_10 _ _ ⟨rfl, rfl⟩ rfl)) (ops29_11 _ _ ⟨rfl, rfl⟩ rfl)) (ops29_12 _ _ ⟨rfl, rfl, rfl⟩ rfl)) (ops29_13 _ _ ⟨rfl, rfl⟩ rfl)) (ops29_14 _ _ ⟨rfl, rfl, rfl⟩ rfl)) (ops29_15 _ _ ⟨rfl, rfl, rfl, rfl⟩ rfl)) (ops29_16 _ _ ⟨rfl, rfl, rfl⟩ rfl)) (ops29_17 _ _ ⟨rfl, rfl⟩ rfl)) (ops29_18 _ _ ⟨rfl, rfl⟩ rfl)) (ops29_19 _ _ ⟨rfl, rfl⟩ rfl)) (ops29_20 _ _ ⟨rfl, rfl, rfl, rfl⟩ rfl)) (ops29_21 _ _ ⟨rfl, rfl, rfl⟩ rfl)) (ops29_22 _ _ ⟨rfl, rfl⟩ rfl)) (op_offi 23 22 63 true rfl rfl (by kernel_rfl) (by kernel_rfl) rfl (fun v R h => by rw [hs29_22] at h; obtain ⟨h, _⟩ := h; exact h.trans (congrArg Value.bool (show t39 = false from Bool.eq_false_iff.mpr q42))) rfl rfl)) (op_offi 24 22 63 true rfl rfl (by kernel_rfl) (by kernel_rfl) rfl (fun v R h => by rw [hs29_22] at h; obtain ⟨h, _⟩ := h; exact h.trans (congrArg Value.bool (show t39 = false from Bool.eq_false_iff.mpr q42))) rfl rfl)) ?_
        intro vs Rs f' S' hp hf hx hS hR
        obtain ⟨x34, hv12, hR12⟩ := (spe rfl hs29_12 (hp 12 (by kernel_rfl)))
        obtain ⟨x37, hv14, hR14⟩ := (spe rfl hs29_14 (hp 14 (by kernel_rfl)))
        obtain ⟨x41, hv20, hR20⟩ := (spe rfl hs29_20 (hp 20 (by kernel_rfl)))
        obtain ⟨hv22, hR22⟩ := (spe rfl hs29_22 (hp 22 (by kernel_rfl)))
        obtain ⟨hv23, hR23⟩ := (spe rfl rfl (hp 23 (by kernel_rfl)) : spu _ _)
        obtain ⟨hv24, hR24⟩ := (spe rfl rfl (hp 24 (by kernel_rfl)) : spu _ _)
        refine ls_fr (F := upd f' 63 (.bool t39)) (fr_next (rfl) ((hf 22 63 (by kernel_rfl) rfl).trans hv22)) ?_
        refine ls_sub (s0) (sub_nil _) ?_
        refine ls_know (c := false) (Bool.eq_false_iff.mpr q42) 63 (by kernel_rfl) ?_
        refine lofx 22 63 true false ?_
        refine lv (.bool false) ?_
        refine lv (.bool false) ?_
        refine lofx 27 68 true false ?_
        refine lofx 27 68 true false ?_
        refine lv (.bool false) ?_
        refine lv (.bool false) ?_
        refine ls_end ?_
        refine qn_then ?_
        refine cs_ret' ?_
        obtain rfl := Option.some.inj H
        refine qr_res (rs := [_]) rfl (fun w' hs => ⟨[.bool false], (res_tmp (by kernel_rfl) (.nil)), (), rfl, St.later hs0.ok (hle14.trans hle24) (hs.pick (ts := []) (cs := []) trivial (by decide))⟩)
      replace H := ite_f q38 H
      obtain ⟨s29_21, hs29_21⟩ := exv (.bool false)
      refine have_opa shadowboxlaw36_RecordBytes.tab27 5 21 (fun sp => sp 21 = s29_21 ∧ sp 17 = s29_17 ∧ sp 20 = spu) (fun sp on hA hon => ?_) (fun ops29_21 => ?_)
      · refine ⟨fun o ho vs Rs f' S' w hp hf hx hS hR hs => ?_⟩
        obtain rfl := Option.some.inj ho
        obtain ⟨hv17, hR17⟩ := (spe hA.2.1 hs29_17 (hp 17 (by kernel_rfl)))
        obtain ⟨hv20, hR20⟩ := (spe hA.2.2 rfl (hp 20 (by kernel_rfl)) : spu _ _)
        exact opv (.bool false) hA.1 hs29_21 hon (fr_next (fr_next (rfl) (((hf 17 58 (by kernel_rfl) rfl).trans hv17).trans (congrArg Value.bool (show (t32 == t35) = false from Bool.eq_false_iff.mpr q38)))) ((hf 20 61 (by kernel_rfl) rfl).trans hv20))
      obtain ⟨s29_22, hs29_22⟩ := exv (.bool false)
      refine have_opa shadowboxlaw36_RecordBytes.tab27 5 22 (fun sp => sp 22 = s29_22 ∧ sp 21 = s29_21) (fun sp on hA hon => ?_) (fun ops29_22 => ?_)
      · refine ⟨fun o ho vs Rs f' S' w hp hf hx hS hR hs => ?_⟩
        obtain rfl := Option.some.inj ho
        obtain ⟨hv21, hR21⟩ := (spe hA.2 hs29_21 (hp 21 (by kernel_rfl)))
        exact opv (.bool false) hA.1 hs29_22 hon (fr_next (rfl) ((hf 21 62 (by kernel_rfl) rfl).trans hv21))
      refine cs_draw shadowboxlaw36_RecordBytes.tab27 25 5 (spl [s29_0, s29_1, s29_2, s29_3, s29_4, s29_5, s29_6, s29_7, s29_8, s29_9, s29_10, s29_11, s29_12, s29_13, s29_14, s29_15, s29_16, s29_17, spu, spu, spu, s29_21, s29_22, spu, spu]) (onl [true, true, true, true, true, true, true, true, true, true, true, true, true, true, true, true, true, true, false, false, false, true, true, false, false]) (by kernel_rfl) (by kernel_rfl) (by kernel_rfl) (by kernel_rfl) (rs := [_, _, _, _, _, _, _]) rfl (by kernel_rfl) (by kernel_rfl) (all_snoc (all_snoc (all_snoc (all_snoc (all_snoc (all_snoc (all_snoc (all_snoc (all_snoc (all_snoc (all_snoc (all_snoc (all_snoc (all_snoc (all_snoc (all_snoc (all_snoc (all_snoc (all_snoc (all_snoc (all_snoc (all_snoc (all_snoc (all_snoc (all_snoc (all_nil) (ops29_0 _ _ rfl rfl)) (ops29_1 _ _ ⟨rfl, rfl⟩ rfl)) (ops29_2 _ _ rfl rfl)) (ops29_3 _ _ ⟨rfl, rfl⟩ rfl)) (ops29_4 _ _ ⟨rfl, rfl, rfl⟩ rfl)) (ops29_5 _ _ ⟨rfl, rfl⟩ rfl)) (ops29_6 _ _ ⟨rfl, rfl⟩ rfl)) (ops29_7 _ _ ⟨rfl, rfl⟩ rfl)) (ops29_8 _ _ ⟨rfl, rfl, rfl, rfl⟩ rfl)) (ops29_9 _ _ ⟨rfl, rfl, rfl⟩ rfl)) (ops29_10 _ _ ⟨rfl, rfl⟩ rfl)) (ops29_11 _ _ ⟨rfl, rfl⟩ rfl)) (ops29_12 _ _ ⟨rfl, rfl, rfl⟩ rfl)) (ops29_13 _ _ ⟨rfl, rfl⟩ rfl)) (ops29_14 _ _ ⟨rfl, rfl, rfl⟩ rfl)) (ops29_15 _ _ ⟨rfl, rfl, rfl, rfl⟩ rfl)) (ops29_16 _ _ ⟨rfl, rfl, rfl⟩ rfl)) (ops29_17 _ _ ⟨rfl, rfl⟩ rfl)) (op_offi 18 17 58 true rfl rfl (by kernel_rfl) (by kernel_rfl) rfl (fun v R h => by rw [hs29_17] at h; obtain ⟨h, _⟩ := h; exact h.trans (congrArg Value.bool (show (t32 == t35) = false from Bool.eq_false_iff.mpr q38))) rfl rfl)) (op_offi 19 17 58 true rfl rfl (by kernel_rfl) (by kernel_rfl) rfl (fun v R h => by rw [hs29_17] at h; obtain ⟨h, _⟩ := h; exact h.trans (congrArg Value.bool (show (t32 == t35) = false from Bool.eq_false_iff.mpr q38))) rfl rfl)) (op_offi 20 17 58 true rfl rfl (by kernel_rfl) (by kernel_rfl) rfl (fun v R h => by rw [hs29_17] at h; obtain ⟨h, _⟩ := h; exact h.trans (congrArg Value.bool (show (t32 == t35) = false from Bool.eq_false_iff.mpr q38))) rfl rfl)) (ops29_21 _ _ ⟨rfl, rfl, rfl⟩ rfl)) (ops29_22 _ _ ⟨rfl, rfl⟩ rfl)) (op_offi 23 22 63 true rfl rfl (by kernel_rfl) (by kernel_rfl) rfl (fun v R h => by rw [hs29_22] at h; obtain ⟨h, _⟩ := h; exact h) rfl rfl)) (op_offi 24 22 63 true rfl rfl (by kernel_rfl) (by kernel_rfl) rfl (fun v R h => by rw [hs29_22] at h; obtain ⟨h, _⟩ := h; exact h) rfl rfl)) ?_
      intro vs Rs f' S' hp hf hx hS hR
      obtain ⟨x34, hv12, hR12⟩ := (spe rfl hs29_12 (hp 12 (by kernel_rfl)))
      obtain ⟨x37, hv14, hR14⟩ := (spe rfl hs29_14 (hp 14 (by kernel_rfl)))
      obtain ⟨hv22, hR22⟩ := (spe rfl hs29_22 (hp 22 (by kernel_rfl)))
      obtain ⟨hv23, hR23⟩ := (spe rfl rfl (hp 23 (by kernel_rfl)) : spu _ _)
      obtain ⟨hv24, hR24⟩ := (spe rfl rfl (hp 24 (by kernel_rfl)) : spu _ _)
      refine ls_fr (F := upd f' 63 (.bool false)) (fr_next (rfl) ((hf 22 63 (by kernel_rfl) rfl).trans hv22)) ?_
      refine ls_sub (s0) (sub_nil _) ?_
      refine lofx 22 63 true false ?_
      refine lv (.bool false) ?_
      refine lv (.bool false) ?_
      refine lofx 27 68 true false ?_
      refine lofx 27 68 true false ?_
      refine lv (.bool false) ?_
      refine lv (.bool false) ?_
      refine ls_end ?_
      refine qn_then ?_
      refine cs_ret' ?_
      obtain rfl := Option.some.inj H
      refine qr_res (rs := [_]) rfl (fun w' hs => ⟨[.bool false], (res_tmp (by kernel_rfl) (.nil)), (), rfl, St.later hs0.ok (hle14.trans hle24) (hs.pick (ts := []) (cs := []) trivial (by decide))⟩)
    replace H := ite_f q31 H
    obtain ⟨s29_16, hs29_16⟩ := exv (.bool false)
    refine have_opa shadowboxlaw36_RecordBytes.tab27 5 16 (fun sp => sp 16 = s29_16 ∧ sp 10 = s29_10 ∧ sp 15 = spu) (fun sp on hA hon => ?_) (fun ops29_16 => ?_)
    · refine ⟨fun o ho vs Rs f' S' w hp hf hx hS hR hs => ?_⟩
      obtain rfl := Option.some.inj ho
      obtain ⟨hv10, hR10⟩ := (spe hA.2.1 hs29_10 (hp 10 (by kernel_rfl)))
      obtain ⟨hv15, hR15⟩ := (spe hA.2.2 rfl (hp 15 (by kernel_rfl)) : spu _ _)
      exact opv (.bool false) hA.1 hs29_16 hon (fr_next (fr_next (rfl) (((hf 10 51 (by kernel_rfl) rfl).trans hv10).trans (congrArg Value.bool (show (decide (t2.2 = t5.2)) = false from dec_f q31)))) ((hf 15 56 (by kernel_rfl) rfl).trans hv15))
    obtain ⟨s29_17, hs29_17⟩ := exv (.bool false)
    refine have_opa shadowboxlaw36_RecordBytes.tab27 5 17 (fun sp => sp 17 = s29_17 ∧ sp 16 = s29_16) (fun sp on hA hon => ?_) (fun ops29_17 => ?_)
    · refine ⟨fun o ho vs Rs f' S' w hp hf hx hS hR hs => ?_⟩
      obtain rfl := Option.some.inj ho
      obtain ⟨hv16, hR16⟩ := (spe hA.2 hs29_16 (hp 16 (by kernel_rfl)))
      exact opv (.bool false) hA.1 hs29_17 hon (fr_next (rfl) ((hf 16 57 (by kernel_rfl) rfl).trans hv16))
    obtain ⟨s29_21, hs29_21⟩ := exv (.bool false)
    refine have_opa shadowboxlaw36_RecordBytes.tab27 5 21 (fun sp => sp 21 = s29_21 ∧ sp 17 = s29_17 ∧ sp 20 = spu) (fun sp on hA hon => ?_) (fun ops29_21 => ?_)
    · refine ⟨fun o ho vs Rs f' S' w hp hf hx hS hR hs => ?_⟩
      obtain rfl := Option.some.inj ho
      obtain ⟨hv17, hR17⟩ := (spe hA.2.1 hs29_17 (hp 17 (by kernel_rfl)))
      obtain ⟨hv20, hR20⟩ := (spe hA.2.2 rfl (hp 20 (by kernel_rfl)) : spu _ _)
      exact opv (.bool false) hA.1 hs29_21 hon (fr_next (fr_next (rfl) ((hf 17 58 (by kernel_rfl) rfl).trans hv17)) ((hf 20 61 (by kernel_rfl) rfl).trans hv20))
    obtain ⟨s29_22, hs29_22⟩ := exv (.bool false)
    refine have_opa shadowboxlaw36_RecordBytes.tab27 5 22 (fun sp => sp 22 = s29_22 ∧ sp 21 = s29_21) (fun sp on hA hon => ?_) (fun ops29_22 => ?_)
    · refine ⟨fun o ho vs Rs f' S' w hp hf hx hS hR hs => ?_⟩
      obtain rfl := Option.some.inj ho
      obtain ⟨hv21, hR21⟩ := (spe hA.2 hs29_21 (hp 21 (by kernel_rfl)))
      exact opv (.bool false) hA.1 hs29_22 hon (fr_next (rfl) ((hf 21 62 (by kernel_rfl) rfl).trans hv21))
    refine cs_draw shadowboxlaw36_RecordBytes.tab27 25 5 (spl [s29_0, s29_1, s29_2, s29_3, s29_4, s29_5, s29_6, s29_7, s29_8, s29_9, s29_10, spu, spu, spu, spu, spu, s29_16, s29_17, spu, spu, spu, s29_21, s29_22, spu, spu]) (onl [true, true, true, true, true, true, true, true, true, true, true, false, false, false, false, false, true, true, false, false, false, true, true, false, false]) (by kernel_rfl) (by kernel_rfl) (by kernel_rfl) (by kernel_rfl) (rs := [_, _, _, _, _, _, _]) rfl (by kernel_rfl) (by kernel_rfl) (all_snoc (all_snoc (all_snoc (all_snoc (all_snoc (all_snoc (all_snoc (all_snoc (all_snoc (all_snoc (all_snoc (all_snoc (all_snoc (all_snoc (all_snoc (all_snoc (all_snoc (all_snoc (all_snoc (all_snoc (all_snoc (all_snoc (all_snoc (all_snoc (all_snoc (all_nil) (ops29_0 _ _ rfl rfl)) (ops29_1 _ _ ⟨rfl, rfl⟩ rfl)) (ops29_2 _ _ rfl rfl)) (ops29_3 _ _ ⟨rfl, rfl⟩ rfl)) (ops29_4 _ _ ⟨rfl, rfl, rfl⟩ rfl)) (ops29_5 _ _ ⟨rfl, rfl⟩ rfl)) (ops29_6 _ _ ⟨rfl, rfl⟩ rfl)) (ops29_7 _ _ ⟨rfl, rfl⟩ rfl)) (ops29_8 _ _ ⟨rfl, rfl, rfl, rfl⟩ rfl)) (ops29_9 _ _ ⟨rfl, rfl, rfl⟩ rfl)) (ops29_10 _ _ ⟨rfl, rfl⟩ rfl)) (op_offi 11 10 51 true rfl rfl (by kernel_rfl) (by kernel_rfl) rfl (fun v R h => by rw [hs29_10] at h; obtain ⟨h, _⟩ := h; exact h.trans (congrArg Value.bool (show (decide (t2.2 = t5.2)) = false from dec_f q31))) rfl rfl)) (op_offi 12 10 51 true rfl rfl (by kernel_rfl) (by kernel_rfl) rfl (fun v R h => by rw [hs29_10] at h; obtain ⟨h, _⟩ := h; exact h.trans (congrArg Value.bool (show (decide (t2.2 = t5.2)) = false from dec_f q31))) rfl rfl)) (op_offi 13 10 51 true rfl rfl (by kernel_rfl) (by kernel_rfl) rfl (fun v R h => by rw [hs29_10] at h; obtain ⟨h, _⟩ := h; exact h.trans (congrArg Value.bool (show (decide (t2.2 = t5.2)) = false from dec_f q31))) rfl rfl)) (op_offi 14 10 51 true rfl rfl (by kernel_rfl) (by kernel_rfl) rfl (fun v R h => by rw [hs29_10] at h; obtain ⟨h, _⟩ := h; exact h.trans (congrArg Value.bool (show (decide (t2.2 = t5.2)) = false from dec_f q31))) rfl rfl)) (op_offi 15 10 51 true rfl rfl (by kernel_rfl) (by kernel_rfl) rfl (fun v R h => by rw [hs29_10] at h; obtain ⟨h, _⟩ := h; exact h.trans (congrArg Value.bool (show (decide (t2.2 = t5.2)) = false from dec_f q31))) rfl rfl)) (ops29_16 _ _ ⟨rfl, rfl, rfl⟩ rfl)) (ops29_17 _ _ ⟨rfl, rfl⟩ rfl)) (op_offi 18 17 58 true rfl rfl (by kernel_rfl) (by kernel_rfl) rfl (fun v R h => by rw [hs29_17] at h; obtain ⟨h, _⟩ := h; exact h) rfl rfl)) (op_offi 19 17 58 true rfl rfl (by kernel_rfl) (by kernel_rfl) rfl (fun v R h => by rw [hs29_17] at h; obtain ⟨h, _⟩ := h; exact h) rfl rfl)) (op_offi 20 17 58 true rfl rfl (by kernel_rfl) (by kernel_rfl) rfl (fun v R h => by rw [hs29_17] at h; obtain ⟨h, _⟩ := h; exact h) rfl rfl)) (ops29_21 _ _ ⟨rfl, rfl, rfl⟩ rfl)) (ops29_22 _ _ ⟨rfl, rfl⟩ rfl)) (op_offi 23 22 63 true rfl rfl (by kernel_rfl) (by kernel_rfl) rfl (fun v R h => by rw [hs29_22] at h; obtain ⟨h, _⟩ := h; exact h) rfl rfl)) (op_offi 24 22 63 true rfl rfl (by kernel_rfl) (by kernel_rfl) rfl (fun v R h => by rw [hs29_22] at h; obtain ⟨h, _⟩ := h; exact h) rfl rfl)) ?_
    intro vs Rs f' S' hp hf hx hS hR
    obtain ⟨hv22, hR22⟩ := (spe rfl hs29_22 (hp 22 (by kernel_rfl)))
    obtain ⟨hv23, hR23⟩ := (spe rfl rfl (hp 23 (by kernel_rfl)) : spu _ _)
    obtain ⟨hv24, hR24⟩ := (spe rfl rfl (hp 24 (by kernel_rfl)) : spu _ _)
    refine ls_fr (F := upd f' 63 (.bool false)) (fr_next (rfl) ((hf 22 63 (by kernel_rfl) rfl).trans hv22)) ?_
    refine ls_sub (s0) (sub_nil _) ?_
    refine lofx 22 63 true false ?_
    refine lv (.bool false) ?_
    refine lv (.bool false) ?_
    refine lofx 27 68 true false ?_
    refine lofx 27 68 true false ?_
    refine lv (.bool false) ?_
    refine lv (.bool false) ?_
    refine ls_end ?_
    refine qn_then ?_
    refine cs_ret' ?_
    obtain rfl := Option.some.inj H
    refine qr_res (rs := [_]) rfl (fun w' hs => ⟨[.bool false], (res_tmp (by kernel_rfl) (.nil)), (), rfl, St.later hs0.ok (hle14.trans hle24) (hs.pick (ts := []) (cs := []) trivial (by decide))⟩)
  replace H := ite_f q30 H
  obtain ⟨s29_9, hs29_9⟩ := exv (.bool false)
  refine have_opa shadowboxlaw36_RecordBytes.tab27 5 9 (fun sp => sp 9 = s29_9 ∧ sp 5 = s29_5 ∧ sp 8 = spu) (fun sp on hA hon => ?_) (fun ops29_9 => ?_)
  · refine ⟨fun o ho vs Rs f' S' w hp hf hx hS hR hs => ?_⟩
    obtain rfl := Option.some.inj ho
    obtain ⟨hv5, hR5⟩ := (spe hA.2.1 hs29_5 (hp 5 (by kernel_rfl)))
    obtain ⟨hv8, hR8⟩ := (spe hA.2.2 rfl (hp 8 (by kernel_rfl)) : spu _ _)
    exact opv (.bool false) hA.1 hs29_9 hon (fr_next (fr_next (rfl) (((hf 5 46 (by kernel_rfl) rfl).trans hv5).trans (congrArg Value.bool (show ((strOfNums t2.1).toList == (strOfNums t5.1).toList) = false from Bool.eq_false_iff.mpr q30)))) ((hf 8 49 (by kernel_rfl) rfl).trans hv8))
  obtain ⟨s29_10, hs29_10⟩ := exv (.bool false)
  refine have_opa shadowboxlaw36_RecordBytes.tab27 5 10 (fun sp => sp 10 = s29_10 ∧ sp 9 = s29_9) (fun sp on hA hon => ?_) (fun ops29_10 => ?_)
  · refine ⟨fun o ho vs Rs f' S' w hp hf hx hS hR hs => ?_⟩
    obtain rfl := Option.some.inj ho
    obtain ⟨hv9, hR9⟩ := (spe hA.2 hs29_9 (hp 9 (by kernel_rfl)))
    exact opv (.bool false) hA.1 hs29_10 hon (fr_next (rfl) ((hf 9 50 (by kernel_rfl) rfl).trans hv9))
  obtain ⟨s29_16, hs29_16⟩ := exv (.bool false)
  refine have_opa shadowboxlaw36_RecordBytes.tab27 5 16 (fun sp => sp 16 = s29_16 ∧ sp 10 = s29_10 ∧ sp 15 = spu) (fun sp on hA hon => ?_) (fun ops29_16 => ?_)
  · refine ⟨fun o ho vs Rs f' S' w hp hf hx hS hR hs => ?_⟩
    obtain rfl := Option.some.inj ho
    obtain ⟨hv10, hR10⟩ := (spe hA.2.1 hs29_10 (hp 10 (by kernel_rfl)))
    obtain ⟨hv15, hR15⟩ := (spe hA.2.2 rfl (hp 15 (by kernel_rfl)) : spu _ _)
    exact opv (.bool false) hA.1 hs29_16 hon (fr_next (fr_next (rfl) ((hf 10 51 (by kernel_rfl) rfl).trans hv10)) ((hf 15 56 (by kernel_rfl) rfl).trans hv15))
  obtain ⟨s29_17, hs29_17⟩ := exv (.bool false)
  refine have_opa shadowboxlaw36_RecordBytes.tab27 5 17 (fun sp => sp 17 = s29_17 ∧ sp 16 = s29_16) (fun sp on hA hon => ?_) (fun ops29_17 => ?_)
  · refine ⟨fun o ho vs Rs f' S' w hp hf hx hS hR hs => ?_⟩
    obtain rfl := Option.some.inj ho
    obtain ⟨hv16, hR16⟩ := (spe hA.2 hs29_16 (hp 16 (by kernel_rfl)))
    exact opv (.bool false) hA.1 hs29_17 hon (fr_next (rfl) ((hf 16 57 (by kernel_rfl) rfl).trans hv16))
  obtain ⟨s29_21, hs29_21⟩ := exv (.bool false)
  refine have_opa shadowboxlaw36_RecordBytes.tab27 5 21 (fun sp => sp 21 = s29_21 ∧ sp 17 = s29_17 ∧ sp 20 = spu) (fun sp on hA hon => ?_) (fun ops29_21 => ?_)
  · refine ⟨fun o ho vs Rs f' S' w hp hf hx hS hR hs => ?_⟩
    obtain rfl := Option.some.inj ho
    obtain ⟨hv17, hR17⟩ := (spe hA.2.1 hs29_17 (hp 17 (by kernel_rfl)))
    obtain ⟨hv20, hR20⟩ := (spe hA.2.2 rfl (hp 20 (by kernel_rfl)) : spu _ _)
    exact opv (.bool false) hA.1 hs29_21 hon (fr_next (fr_next (rfl) ((hf 17 58 (by kernel_rfl) rfl).trans hv17)) ((hf 20 61 (by kernel_rfl) rfl).trans hv20))
  obtain ⟨s29_22, hs29_22⟩ := exv (.bool false)
  refine have_opa shadowboxlaw36_RecordBytes.tab27 5 22 (fun sp => sp 22 = s29_22 ∧ sp 21 = s29_21) (fun sp on hA hon => ?_) (fun ops29_22 => ?_)
  · refine ⟨fun o ho vs Rs f' S' w hp hf hx hS hR hs => ?_⟩
    obtain rfl := Option.some.inj ho
    obtain ⟨hv21, hR21⟩ := (spe hA.2 hs29_21 (hp 21 (by kernel_rfl)))
    exact opv (.bool false) hA.1 hs29_22 hon (fr_next (rfl) ((hf 21 62 (by kernel_rfl) rfl).trans hv21))
  refine cs_draw shadowboxlaw36_RecordBytes.tab27 25 5 (spl [s29_0, s29_1, s29_2, s29_3, s29_4, s29_5, spu, spu, spu, s29_9, s29_10, spu, spu, spu, spu, spu, s29_16, s29_17, spu, spu, spu, s29_21, s29_22, spu, spu]) (onl [true, true, true, true, true, true, false, false, false, true, true, false, false, false, false, false, true, true, false, false, false, true, true, false, false]) (by kernel_rfl) (by kernel_rfl) (by kernel_rfl) (by kernel_rfl) (rs := [_, _, _, _, _, _, _]) rfl (by kernel_rfl) (by kernel_rfl) (all_snoc (all_snoc (all_snoc (all_snoc (all_snoc (all_snoc (all_snoc (all_snoc (all_snoc (all_snoc (all_snoc (all_snoc (all_snoc (all_snoc (all_snoc (all_snoc (all_snoc (all_snoc (all_snoc (all_snoc (all_snoc (all_snoc (all_snoc (all_snoc (all_snoc (all_nil) (ops29_0 _ _ rfl rfl)) (ops29_1 _ _ ⟨rfl, rfl⟩ rfl)) (ops29_2 _ _ rfl rfl)) (ops29_3 _ _ ⟨rfl, rfl⟩ rfl)) (ops29_4 _ _ ⟨rfl, rfl, rfl⟩ rfl)) (ops29_5 _ _ ⟨rfl, rfl⟩ rfl)) (op_offi 6 5 46 true rfl rfl (by kernel_rfl) (by kernel_rfl) rfl (fun v R h => by rw [hs29_5] at h; obtain ⟨h, _⟩ := h; exact h.trans (congrArg Value.bool (show ((strOfNums t2.1).toList == (strOfNums t5.1).toList) = false from Bool.eq_false_iff.mpr q30))) rfl rfl)) (op_offi 7 5 46 true rfl rfl (by kernel_rfl) (by kernel_rfl) rfl (fun v R h => by rw [hs29_5] at h; obtain ⟨h, _⟩ := h; exact h.trans (congrArg Value.bool (show ((strOfNums t2.1).toList == (strOfNums t5.1).toList) = false from Bool.eq_false_iff.mpr q30))) rfl rfl)) (op_offi 8 5 46 true rfl rfl (by kernel_rfl) (by kernel_rfl) rfl (fun v R h => by rw [hs29_5] at h; obtain ⟨h, _⟩ := h; exact h.trans (congrArg Value.bool (show ((strOfNums t2.1).toList == (strOfNums t5.1).toList) = false from Bool.eq_false_iff.mpr q30))) rfl rfl)) (ops29_9 _ _ ⟨rfl, rfl, rfl⟩ rfl)) (ops29_10 _ _ ⟨rfl, rfl⟩ rfl)) (op_offi 11 10 51 true rfl rfl (by kernel_rfl) (by kernel_rfl) rfl (fun v R h => by rw [hs29_10] at h; obtain ⟨h, _⟩ := h; exact h) rfl rfl)) (op_offi 12 10 51 true rfl rfl (by kernel_rfl) (by kernel_rfl) rfl (fun v R h => by rw [hs29_10] at h; obtain ⟨h, _⟩ := h; exact h) rfl rfl)) (op_offi 13 10 51 true rfl rfl (by kernel_rfl) (by kernel_rfl) rfl (fun v R h => by rw [hs29_10] at h; obtain ⟨h, _⟩ := h; exact h) rfl rfl)) (op_offi 14 10 51 true rfl rfl (by kernel_rfl) (by kernel_rfl) rfl (fun v R h => by rw [hs29_10] at h; obtain ⟨h, _⟩ := h; exact h) rfl rfl)) (op_offi 15 10 51 true rfl rfl (by kernel_rfl) (by kernel_rfl) rfl (fun v R h => by rw [hs29_10] at h; obtain ⟨h, _⟩ := h; exact h) rfl rfl)) (ops29_16 _ _ ⟨rfl, rfl, rfl⟩ rfl)) (ops29_17 _ _ ⟨rfl, rfl⟩ rfl)) (op_offi 18 17 58 true rfl rfl (by kernel_rfl) (by kernel_rfl) rfl (fun v R h => by rw [hs29_17] at h; obtain ⟨h, _⟩ := h; exact h) rfl rfl)) (op_offi 19 17 58 true rfl rfl (by kernel_rfl) (by kernel_rfl) rfl (fun v R h => by rw [hs29_17] at h; obtain ⟨h, _⟩ := h; exact h) rfl rfl)) (op_offi 20 17 58 true rfl rfl (by kernel_rfl) (by kernel_rfl) rfl (fun v R h => by rw [hs29_17] at h; obtain ⟨h, _⟩ := h; exact h) rfl rfl)) (ops29_21 _ _ ⟨rfl, rfl, rfl⟩ rfl)) (ops29_22 _ _ ⟨rfl, rfl⟩ rfl)) (op_offi 23 22 63 true rfl rfl (by kernel_rfl) (by kernel_rfl) rfl (fun v R h => by rw [hs29_22] at h; obtain ⟨h, _⟩ := h; exact h) rfl rfl)) (op_offi 24 22 63 true rfl rfl (by kernel_rfl) (by kernel_rfl) rfl (fun v R h => by rw [hs29_22] at h; obtain ⟨h, _⟩ := h; exact h) rfl rfl)) ?_
  intro vs Rs f' S' hp hf hx hS hR
  obtain ⟨hv22, hR22⟩ := (spe rfl hs29_22 (hp 22 (by kernel_rfl)))
  obtain ⟨hv23, hR23⟩ := (spe rfl rfl (hp 23 (by kernel_rfl)) : spu _ _)
  obtain ⟨hv24, hR24⟩ := (spe rfl rfl (hp 24 (by kernel_rfl)) : spu _ _)
  refine ls_fr (F := upd f' 63 (.bool false)) (fr_next (rfl) ((hf 22 63 (by kernel_rfl) rfl).trans hv22)) ?_
  refine ls_sub (s0) (sub_nil _) ?_
  refine lofx 22 63 true false ?_
  refine lv (.bool false) ?_
  refine lv (.bool false) ?_
  refine lofx 27 68 true false ?_
  refine lofx 27 68 true false ?_
  refine lv (.bool false) ?_
  refine lv (.bool false) ?_
  refine ls_end ?_
  refine qn_then ?_
  refine cs_ret' ?_
  obtain rfl := Option.some.inj H
  refine qr_res (rs := [_]) rfl (fun w' hs => ⟨[.bool false], (res_tmp (by kernel_rfl) (.nil)), (), rfl, St.later hs0.ok (hle14.trans hle24) (hs.pick (ts := []) (cs := []) trivial (by decide))⟩)

end Go.Proofs.Ythhhkphbhlafbaa.G
