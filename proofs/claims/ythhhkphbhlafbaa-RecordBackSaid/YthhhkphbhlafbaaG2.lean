/- Printed by a program of this session (sz.py): plain functions, and walks that show that the code comes to them; no condition. -/
import Derived.Test.YthhhkphbhlafbaaProg
import Derived.Test.YthhhkphbhlafbaaTy
import Derived.Test.YthhhkphbhlafbaaG0
import Derived.Test.YthhhkphbhlafbaaG1
set_option linter.unusedVariables false
set_option linter.unusedSimpArgs false
namespace Go.Proofs.Ythhhkphbhlafbaa.G
open Go Go.RowKit Go.Proofs.Ythhhkphbhlafbaa.Sx

/-! ### (*shadowbox/record.reader).numbers, specialized: function 43 -/
def record_reader_numbers_sits_0f0_0f1_0f2_0f3.f (k : Nat) (v0 : ((List Int) × Bool)) (v1_0 : (Int × Int × Int × Int × ByteArray × ByteArray × (List (ByteArray × ByteArray)))) : Option (((List Int) × Bool) × (Int × Int × Int × Int × ByteArray × ByteArray × (List (ByteArray × ByteArray)))) :=
  (codec_ReadShort.f k v0.1).bind fun t3 => (if t3.2.2 = (0 : Int) then (if t3.1 > (1152921504606846976 : Int) then some ((v0.1, true), (v1_0.1, v1_0.2.1, v1_0.2.2.1, v1_0.2.2.2.1, v1_0.2.2.2.2.1, v1_0.2.2.2.2.2.1, v1_0.2.2.2.2.2.2)) else (if 0 ≤ t3.2.1 then (if t3.2.1 ≤ (v0.1.length : Int) then lt (v0.1.drop (t3.2.1).toNat) fun xl14 => (codec_ReadShort.f k xl14).bind fun t21 => (if t21.2.2 = (0 : Int) then (if t21.1 > (1152921504606846976 : Int) then some ((xl14, true), (IntKind.wrap .i64 t3.1, v1_0.2.1, v1_0.2.2.1, v1_0.2.2.2.1, v1_0.2.2.2.2.1, v1_0.2.2.2.2.2.1, v1_0.2.2.2.2.2.2)) else (if 0 ≤ t21.2.1 then (if t21.2.1 ≤ (xl14.length : Int) then lt (xl14.drop (t21.2.1).toNat) fun xl32 => (codec_ReadShort.f k xl32).bind fun t39 => (if t39.2.2 = (0 : Int) then (if t39.1 > (1152921504606846976 : Int) then some ((xl32, true), (IntKind.wrap .i64 t3.1, IntKind.wrap .i64 t21.1, v1_0.2.2.1, v1_0.2.2.2.1, v1_0.2.2.2.2.1, v1_0.2.2.2.2.2.1, v1_0.2.2.2.2.2.2)) else (if 0 ≤ t39.2.1 then (if t39.2.1 ≤ (xl32.length : Int) then lt (xl32.drop (t39.2.1).toNat) fun xl50 => (codec_ReadShort.f k xl50).bind fun t57 => (if t57.2.2 = (0 : Int) then (if t57.1 > (1152921504606846976 : Int) then some ((xl50, true), (IntKind.wrap .i64 t3.1, IntKind.wrap .i64 t21.1, IntKind.wrap .i64 t39.1, v1_0.2.2.2.1, v1_0.2.2.2.2.1, v1_0.2.2.2.2.2.1, v1_0.2.2.2.2.2.2)) else (if 0 ≤ t57.2.1 then (if t57.2.1 ≤ (xl50.length : Int) then lt (xl50.drop (t57.2.1).toNat) fun xl68 => some ((xl68, v0.2), (IntKind.wrap .i64 t3.1, IntKind.wrap .i64 t21.1, IntKind.wrap .i64 t39.1, IntKind.wrap .i64 t57.1, v1_0.2.2.2.2.1, v1_0.2.2.2.2.2.1, v1_0.2.2.2.2.2.2)) else none) else none)) else some ((xl50, true), (IntKind.wrap .i64 t3.1, IntKind.wrap .i64 t21.1, IntKind.wrap .i64 t39.1, v1_0.2.2.2.1, v1_0.2.2.2.2.1, v1_0.2.2.2.2.2.1, v1_0.2.2.2.2.2.2))) else none) else none)) else some ((xl32, true), (IntKind.wrap .i64 t3.1, IntKind.wrap .i64 t21.1, v1_0.2.2.1, v1_0.2.2.2.1, v1_0.2.2.2.2.1, v1_0.2.2.2.2.2.1, v1_0.2.2.2.2.2.2))) else none) else none)) else some ((xl14, true), (IntKind.wrap .i64 t3.1, v1_0.2.1, v1_0.2.2.1, v1_0.2.2.2.1, v1_0.2.2.2.2.1, v1_0.2.2.2.2.2.1, v1_0.2.2.2.2.2.2))) else none) else none)) else some ((v0.1, true), (v1_0.1, v1_0.2.1, v1_0.2.2.1, v1_0.2.2.2.1, v1_0.2.2.2.2.1, v1_0.2.2.2.2.2.1, v1_0.2.2.2.2.2.2)))
set_option maxRecDepth 100000 in
set_option maxHeartbeats 4000000 in
theorem record_reader_numbers_sits_0f0_0f1_0f2_0f3.calls (k : Nat) (pg0 : Nat) (A0_0 : Option Addr) (c0_0 : Nat) (v0 : ((List Int) × Bool)) (pg1_0 : Nat) (A1_0_6 : Option Addr) (c1_0_6 : Nat) (v1_0 : (Int × Int × Int × Int × ByteArray × ByteArray × (List (ByteArray × ByteArray)))) (A1 : Option Addr) (c1 : Nat) (r : ((List Int) × Bool) × (Int × Int × Int × Int × ByteArray × ByteArray × (List (ByteArray × ByteArray)))) (b : Bs) (hs0 : St b (stl [Ck.var 89 pg0 (([Value.slice A0_0 v0.1.length c0_0] ++ [Value.bool v0.2])), Ck.var 51 pg1_0 (([Value.int .i64 v1_0.1] ++ ([Value.int .i64 v1_0.2.1] ++ ([Value.int .i64 v1_0.2.2.1] ++ ([Value.int .i64 v1_0.2.2.2.1] ++ ([Value.string v1_0.2.2.2.2.1] ++ ([Value.string v1_0.2.2.2.2.2.1] ++ [Value.slice A1_0_6 v1_0.2.2.2.2.2.2.length c1_0_6])))))))]) b.w) (R0_0 : Ro b A0_0 (em (Ec.int 5 .u8) v0.1)) (C0_0 : v0.1.length ≤ c0_0) (R1_0_6 : Ro b A1_0_6 (em T67 v1_0.2.2.2.2.2.2)) (C1_0_6 : v1_0.2.2.2.2.2.2.length ≤ c1_0_6) (R1 : Ro b A1 (em (Ec.ptr 91) [(some (pg1_0, (0 + 0))), (some (pg1_0, (0 + 1))), (some (pg1_0, (0 + 2))), (some (pg1_0, (0 + 3)))])) (C1 : [(some (pg1_0, (0 + 0))), (some (pg1_0, (0 + 1))), (some (pg1_0, (0 + 2))), (some (pg1_0, (0 + 3)))].length ≤ c1) (H : record_reader_numbers_sits_0f0_0f1_0f2_0f3.f k v0 v1_0 = some r) :
    Calls Try.prog 43 #[.pointer (some ⟨pg0, 0, none⟩), .slice A1 [(some (pg1_0, (0 + 0))), (some (pg1_0, (0 + 1))), (some (pg1_0, (0 + 2))), (some (pg1_0, (0 + 3)))].length c1] b.w fun e w' => ∃ x : (Option Addr × Nat), e = .returned (.tuple #[]) ∧ ((Ro b x.1 (em (Ec.int 5 .u8) r.1.1) ∧ r.1.1.length ≤ x.2)) ∧ St b (stl [Ck.var 89 pg0 (([Value.slice x.1 r.1.1.length x.2] ++ [Value.bool r.1.2])), Ck.var 51 pg1_0 (([Value.int .i64 r.2.1] ++ ([Value.int .i64 r.2.2.1] ++ ([Value.int .i64 r.2.2.2.1] ++ ([Value.int .i64 r.2.2.2.2.1] ++ ([Value.string r.2.2.2.2.2.1] ++ ([Value.string r.2.2.2.2.2.2.1] ++ [Value.slice A1_0_6 v1_0.2.2.2.2.2.2.length c1_0_6])))))))]) w' := by
  unfold record_reader_numbers_sits_0f0_0f1_0f2_0f3.f at H
  refine enterb (n := 47) Try.func43 rfl (by kernel_rfl) (by kernel_rfl) hs0 ?_
  refine cs_sub (sput (sput s0 0 (some (Ck.var 89 pg0 (([Value.slice A0_0 v0.1.length c0_0] ++ [Value.bool v0.2]))))) 1 (some (Ck.var 51 pg1_0 (([Value.int .i64 v1_0.1] ++ ([Value.int .i64 v1_0.2.1] ++ ([Value.int .i64 v1_0.2.2.1] ++ ([Value.int .i64 v1_0.2.2.2.1] ++ ([Value.string v1_0.2.2.2.2.1] ++ ([Value.string v1_0.2.2.2.2.2.1] ++ [Value.slice A1_0_6 v1_0.2.2.2.2.2.2.length c1_0_6])))))))))) (sub_put (by exact rfl) (sub_put (by exact rfl) (sub_nil _))) ?_
  refine cs_seq ?_
  refine cs_region (l := [_, _, _]) ?_
  refine lv (.slice A1 [(some (pg1_0, (0 + 0))), (some (pg1_0, (0 + 1))), (some (pg1_0, (0 + 2))), (some (pg1_0, (0 + 3)))].length c1) ?_
  refine lv (.int .i64 (4 : Int)) ?_
  refine lv (.int .i64 (0 : Int)) ?_
  refine ls_end ?_
  refine qn_then ?_
  refine cs_block ?_
  refine cs_rounds 5 ?_
  refine rs_succ ?_
  refine cs_seq ?_
  refine cs_region (l := [_]) ?_
  refine lv (.bool true) ?_
  refine ls_end ?_
  refine qn_then ?_
  refine cs_seq ?_
  refine cs_true (by kernel_rfl) ?_
  refine cs_skip' ?_
  refine qn_then ?_
  refine cs_seq ?_
  refine cs_block ?_
  refine cs_seq ?_
  refine cs_region (l := [_, _, _]) ?_
  obtain ⟨ad1, hA2⟩ := ido_at (T := (Ec.ptr 91)) (l := ([(some (pg1_0, (0 + 0))), (some (pg1_0, (0 + 1))), (some (pg1_0, (0 + 2))), (some (pg1_0, (0 + 3)))])) (i := (0 : Int)) R1 (by decide) (show (0 : Int) < (([(some (pg1_0, (0 + 0))), (some (pg1_0, (0 + 1))), (some (pg1_0, (0 + 2))), (some (pg1_0, (0 + 3)))]).length : Int) from of_decide_eq_true (by kernel_rfl))
  refine ls_idxv (Ec.ptr 91) (A := A1) (c := c1) (l := [(some (pg1_0, (0 + 0))), (some (pg1_0, (0 + 1))), (some (pg1_0, (0 + 2))), (some (pg1_0, (0 + 3)))]) (k := .i64) (i := (0 : Int)) (z := 1) (ad := ad1) rfl rfl (by kernel_rfl) hA2 rfl (by kernel_rfl) (by kernel_rfl) (by kernel_rfl) (by kernel_rfl) (by decide) (show (0 : Int) < (([(some (pg1_0, (0 + 0))), (some (pg1_0, (0 + 1))), (some (pg1_0, (0 + 2))), (some (pg1_0, (0 + 3)))]).length : Int) from of_decide_eq_true (by kernel_rfl)) ?_
  refine ls_load (a0 := (ad1.add (((0 : Int)).toNat * 1))) (v := .pointer (some ⟨pg1_0, (0 + 0), none⟩)) (de := (TypeDesc.pointer 3)) rfl rfl (by kernel_rfl) rfl (by kernel_rfl) (by kernel_rfl) (by kernel_rfl) (fun w hs => (hs.old R1).at hA2 (em_sub (Ec.ptr 91) ([(some (pg1_0, (0 + 0))), (some (pg1_0, (0 + 1))), (some (pg1_0, (0 + 2))), (some (pg1_0, (0 + 3)))]) (i := ((0 : Int)).toNat) (by have h0 : (0 : Int) ≤ (0 : Int) := (by decide); have h1 : (0 : Int) < (([(some (pg1_0, (0 + 0))), (some (pg1_0, (0 + 1))), (some (pg1_0, (0 + 2))), (some (pg1_0, (0 + 3)))]).length : Int) := (show (0 : Int) < (([(some (pg1_0, (0 + 0))), (some (pg1_0, (0 + 1))), (some (pg1_0, (0 + 2))), (some (pg1_0, (0 + 3)))]).length : Int) from of_decide_eq_true (by kernel_rfl)); omega))) ?_
  refine lv (.pointer (some ⟨pg1_0, (0 + 0), none⟩)) ?_
  refine ls_end ?_
  refine qn_then ?_
  refine cs_seq ?_
  refine cs_region (l := [_, _, _, _, _, _, _, _, _, _, _, _]) ?_
  refine lv (.pointer (some ⟨pg0, 0, none⟩)) ?_
  refine lv (.pointer (some ⟨pg0, 0, none⟩)) ?_
  refine lv (.pointer (some ⟨pg0, (0 + 0), none⟩)) ?_
  refine ls_load (a0 := ⟨pg0, (0 + 0), none⟩) (v := .slice A0_0 v0.1.length c0_0) (de := (TypeDesc.slice 5)) rfl rfl (by kernel_rfl) rfl (by kernel_rfl) (by kernel_rfl) (by kernel_rfl) (fun w hs => (hs.var (k := 0) (by exact rfl) (Sub4.trans (Sub4.all _) (Sub4.head _ _)))) ?_
  obtain ⟨t3, hc4, H⟩ := bind_some H
  refine ls_callb (fid := 57) (vals := #[.slice A0_0 v0.1.length c0_0]) (X := Unit) (fun x => .tuple #[.int .u64 t3.1, .int .i64 t3.2.1, .int .i64 t3.2.2]) (fun x => stl []) [] [] [] [] 2 rfl rfl (by kernel_rfl) (fun w => by kernel_rfl) trivial trivial (by decide) (fun w hs hb => codec_ReadShort.calls k A0_0 c0_0 v0.1 t3 (lent b w [] []) hb (hs.ro R0_0 _ _) C0_0 hc4) ?_
  intro x5
  refine lv (.tuple #[.int .u64 t3.1, .int .i64 t3.2.1, .int .i64 t3.2.2]) ?_
  refine lv (.int .u64 t3.1) ?_
  refine lv (.int .i64 t3.2.1) ?_
  refine lv (.int .i64 t3.2.2) ?_
  refine lv (.int .u64 t3.1) ?_
  refine lv (.int .i64 t3.2.1) ?_
  refine lv (.int .i64 t3.2.2) ?_
  refine ls_end ?_
  refine qn_then ?_
  refine cs_seq ?_
  refine cs_seq ?_
  refine cs_region (l := [_, _, _, _, _, _]) ?_
  refine lv (.int .i64 t3.2.2) ?_
  refine lv (.bool (!decide (t3.2.2 = (0 : Int)))) ?_
  refine lv (.bool (!decide (t3.2.2 = (0 : Int)))) ?_
  by_cases q6 : t3.2.2 = (0 : Int)
  · replace H := ite_t q6 H
    refine ls_know (c := false) (congrArg Bool.not (dec_t q6)) 26 (by kernel_rfl) ?_
    refine ls_on (j := 2) (t := 26) (b := false) rfl rfl (by kernel_rfl) (by kernel_rfl) ?_
    refine lv (.int .u64 t3.1) ?_
    refine ls_on (j := 2) (t := 26) (b := false) rfl rfl (by kernel_rfl) (by kernel_rfl) ?_
    refine lv (.bool (decide (t3.1 > (1152921504606846976 : Int)))) ?_
    refine lv (.bool (decide (t3.1 > (1152921504606846976 : Int)))) ?_
    refine ls_end ?_
    refine qn_then ?_
    by_cases q7 : t3.1 > (1152921504606846976 : Int)
    · replace H := ite_t q7 H
      refine cs_know (c := true) (dec_t q7) 29 (by kernel_rfl) ?_
      refine cs_true (by kernel_rfl) ?_
      refine cs_seq ?_
      refine cs_region (l := [_, _, _, _]) ?_
      refine lv (.pointer (some ⟨pg0, 0, none⟩)) ?_
      refine lv (.pointer (some ⟨pg0, 0, none⟩)) ?_
      refine lv (.pointer (some ⟨pg0, (0 + 1), none⟩)) ?_
      refine ls_storec (g := pg0) (off := (0 + 1)) (v := .bool true) (vs := [Value.bool true]) (cs := ([Value.slice A0_0 v0.1.length c0_0] ++ [Value.bool v0.2])) (ty := 89) 0 rfl rfl rfl (by kernel_rfl) (by kernel_rfl) (by kernel_rfl) (by exact rfl) (by kernel_rfl) (len1 _) (one_cons rfl one_nil) (hl_of (Sub4.trans (Sub4.all _) (Sub4.skip (n := 1) (len1 _) (Sub4.all _))) (len_eq (len1 _) (len1 _))) (cs' := ([Value.slice A0_0 v0.1.length c0_0] ++ [Value.bool true])) (splc_in (Sub4.all _) (splc_skip (n := 1) (len1 _) (splc_all (len_eq (len1 _) (len1 _)))) (splc_all (len_eq (len_app (len1 _) (len1 _)) (len_app (len1 _) (len1 _)))) (hl_of (Sub4.skip (n := 1) (len1 _) (Sub4.all _)) (len_eq (len1 _) (len1 _)))) ?_
      refine ls_end ?_
      refine qn_then ?_
      refine cs_ret' ?_
      refine qr_then ?_
      refine qr_block ?_
      refine qr_then ?_
      refine qr_then ?_
      refine qr_block ?_
      obtain rfl := Option.some.inj H
      refine qr_res (rs := []) rfl (fun w' hs => ⟨[], (.nil), (A0_0, c0_0), rfl, ⟨R0_0, C0_0⟩, hs.pick (ts := [0, 1]) (cs := [Ck.var 89 pg0 (([Value.slice A0_0 v0.1.length c0_0] ++ [Value.bool true])), Ck.var 51 pg1_0 (([Value.int .i64 v1_0.1] ++ ([Value.int .i64 v1_0.2.1] ++ ([Value.int .i64 v1_0.2.2.1] ++ ([Value.int .i64 v1_0.2.2.2.1] ++ ([Value.string v1_0.2.2.2.2.1] ++ ([Value.string v1_0.2.2.2.2.2.1] ++ [Value.slice A1_0_6 v1_0.2.2.2.2.2.2.length c1_0_6])))))))]) ⟨by exact rfl, by exact rfl, trivial⟩ (by decide)⟩)
    replace H := ite_f q7 H
    refine cs_know (c := false) (dec_f q7) 29 (by kernel_rfl) ?_
    refine cs_false (by kernel_rfl) ?_
    refine cs_skip' ?_
    refine qn_then ?_
    refine cs_seq ?_
    refine cs_region (l := [_, _, _, _, _]) ?_
    refine lv (.pointer (some ⟨pg1_0, (0 + 0), none⟩)) ?_
    refine lv (.int .u64 t3.1) ?_
    refine lv (.int .i64 (IntKind.wrap .i64 t3.1)) ?_
    refine lv (.pointer (some ⟨pg1_0, (0 + 0), none⟩)) ?_
    refine ls_storec (g := pg1_0) (off := (0 + 0)) (v := .int .i64 (IntKind.wrap .i64 t3.1)) (vs := [Value.int .i64 (IntKind.wrap .i64 t3.1)]) (cs := ([Value.int .i64 v1_0.1] ++ ([Value.int .i64 v1_0.2.1] ++ ([Value.int .i64 v1_0.2.2.1] ++ ([Value.int .i64 v1_0.2.2.2.1] ++ ([Value.string v1_0.2.2.2.2.1] ++ ([Value.string v1_0.2.2.2.2.2.1] ++ [Value.slice A1_0_6 v1_0.2.2.2.2.2.2.length c1_0_6]))))))) (ty := 51) 1 rfl rfl rfl (by kernel_rfl) (by kernel_rfl) (by kernel_rfl) (by exact rfl) (by kernel_rfl) (len1 _) (one_cons rfl one_nil) (hl_of (Sub4.trans (Sub4.all _) (Sub4.head _ _)) (len_eq (len1 _) (len1 _))) (cs' := ([Value.int .i64 (IntKind.wrap .i64 t3.1)] ++ ([Value.int .i64 v1_0.2.1] ++ ([Value.int .i64 v1_0.2.2.1] ++ ([Value.int .i64 v1_0.2.2.2.1] ++ ([Value.string v1_0.2.2.2.2.1] ++ ([Value.string v1_0.2.2.2.2.2.1] ++ [Value.slice A1_0_6 v1_0.2.2.2.2.2.2.length c1_0_6]))))))) (splc_in (Sub4.all _) (splc_head (len_eq (len1 _) (len1 _))) (splc_all (len_eq (len_app (len1 _) (len_app (len1 _) (len_app (len1 _) (len_app (len1 _) (len_app (len1 _) (len_app (len1 _) (len1 _))))))) (len_app (len1 _) (len_app (len1 _) (len_app (len1 _) (len_app (len1 _) (len_app (len1 _) (len_app (len1 _) (len1 _))))))))) (hl_of (Sub4.head _ _) (len_eq (len1 _) (len1 _)))) ?_
    refine ls_end ?_
    refine qn_then ?_
    refine cs_region (l := [_, _, _, _, _, _, _, _, _, _]) ?_
    refine lv (.pointer (some ⟨pg0, 0, none⟩)) ?_
    refine lv (.pointer (some ⟨pg0, 0, none⟩)) ?_
    refine lv (.pointer (some ⟨pg0, 0, none⟩)) ?_
    refine lv (.pointer (some ⟨pg0, (0 + 0), none⟩)) ?_
    refine ls_load (a0 := ⟨pg0, (0 + 0), none⟩) (v := .slice A0_0 v0.1.length c0_0) (de := (TypeDesc.slice 5)) rfl rfl (by kernel_rfl) rfl (by kernel_rfl) (by kernel_rfl) (by kernel_rfl) (fun w hs => (hs.var (k := 0) (by exact rfl) (Sub4.trans (Sub4.all _) (Sub4.head _ _)))) ?_
    refine lv (.int .i64 t3.2.1) ?_
    obtain ⟨q8, H⟩ := ite_need H
    obtain ⟨q9, H⟩ := ite_need H
    obtain ⟨xl14, hy15, H⟩ := lt_some H
    have hz17 : (t3.2.1).toNat ≤ v0.1.length := by omega
    have hz18 : v0.1.length ≤ v0.1.length := by omega
    obtain ⟨xA10, xc11, he16, xC13, xR12⟩ := cut_at (A := A0_0) (c := c0_0) (l := v0.1) (Ec.int 5 .u8) ((t3.2.1).toNat) v0.1.length hz17 hz18 C0_0 R0_0 (m := xl14) (by rw [← hy15] <;> simp) (z := 1) rfl
    refine ls_cutv (A := A0_0) (c := c0_0) (m := v0.1.length) (z := 1) (e := 5) (a := (t3.2.1).toNat) (b := v0.1.length) rfl rfl (by kernel_rfl) rfl (by kernel_rfl) (by kernel_rfl) (by kernel_rfl) (.inr ⟨.i64, by rw [Int.toNat_of_nonneg (by first | assumption | omega)]; kernel_rfl⟩) (.inl ⟨rfl, rfl⟩) hz17 hz18 C0_0 he16 ?_
    refine lv (.pointer (some ⟨pg0, 0, none⟩)) ?_
    refine lv (.pointer (some ⟨pg0, (0 + 0), none⟩)) ?_
    refine ls_storec (g := pg0) (off := (0 + 0)) (v := .slice xA10 xl14.length xc11) (vs := [Value.slice xA10 xl14.length xc11]) (cs := ([Value.slice A0_0 v0.1.length c0_0] ++ [Value.bool v0.2])) (ty := 89) 0 rfl rfl rfl (by kernel_rfl) (by kernel_rfl) (by kernel_rfl) (by exact rfl) (by kernel_rfl) (len1 _) (one_cons rfl one_nil) (hl_of (Sub4.trans (Sub4.all _) (Sub4.head _ _)) (len_eq (len1 _) (len1 _))) (cs' := ([Value.slice xA10 xl14.length xc11] ++ [Value.bool v0.2])) (splc_in (Sub4.all _) (splc_head (len_eq (len1 _) (len1 _))) (splc_all (len_eq (len_app (len1 _) (len1 _)) (len_app (len1 _) (len1 _)))) (hl_of (Sub4.head _ _) (len_eq (len1 _) (len1 _)))) ?_
    refine ls_end ?_
    refine qn_block ?_
    refine qn_then ?_
    refine cs_region (l := [_, _]) ?_
    refine lv (.int .i64 (1 : Int)) ?_
    refine lv (.int .i64 (1 : Int)) ?_
    refine ls_end ?_
    refine qn_rounds ?_
    refine rs_succ ?_
    refine cs_seq ?_
    refine cs_region (l := [_]) ?_
    refine lv (.bool true) ?_
    refine ls_end ?_
    refine qn_then ?_
    refine cs_seq ?_
    refine cs_true (by kernel_rfl) ?_
    refine cs_skip' ?_
    refine qn_then ?_
    refine cs_seq ?_
    refine cs_block ?_
    refine cs_seq ?_
    refine cs_region (l := [_, _, _]) ?_
    obtain ⟨ad19, hA20⟩ := ido_at (T := (Ec.ptr 91)) (l := ([(some (pg1_0, (0 + 0))), (some (pg1_0, (0 + 1))), (some (pg1_0, (0 + 2))), (some (pg1_0, (0 + 3)))])) (i := (1 : Int)) R1 (by decide) (show (1 : Int) < (([(some (pg1_0, (0 + 0))), (some (pg1_0, (0 + 1))), (some (pg1_0, (0 + 2))), (some (pg1_0, (0 + 3)))]).length : Int) from of_decide_eq_true (by kernel_rfl))
    refine ls_idxv (Ec.ptr 91) (A := A1) (c := c1) (l := [(some (pg1_0, (0 + 0))), (some (pg1_0, (0 + 1))), (some (pg1_0, (0 + 2))), (some (pg1_0, (0 + 3)))]) (k := .i64) (i := (1 : Int)) (z := 1) (ad := ad19) rfl rfl (by kernel_rfl) hA20 rfl (by kernel_rfl) (by kernel_rfl) (by kernel_rfl) (by kernel_rfl) (by decide) (show (1 : Int) < (([(some (pg1_0, (0 + 0))), (some (pg1_0, (0 + 1))), (some (pg1_0, (0 + 2))), (some (pg1_0, (0 + 3)))]).length : Int) from of_decide_eq_true (by kernel_rfl)) ?_
    refine ls_load (a0 := (ad19.add (((1 : Int)).toNat * 1))) (v := .pointer (some ⟨pg1_0, (0 + 1), none⟩)) (de := (TypeDesc.pointer 3)) rfl rfl (by kernel_rfl) rfl (by kernel_rfl) (by kernel_rfl) (by kernel_rfl) (fun w hs => (hs.old R1).at hA20 (em_sub (Ec.ptr 91) ([(some (pg1_0, (0 + 0))), (some (pg1_0, (0 + 1))), (some (pg1_0, (0 + 2))), (some (pg1_0, (0 + 3)))]) (i := ((1 : Int)).toNat) (by have h0 : (0 : Int) ≤ (1 : Int) := (by decide); have h1 : (1 : Int) < (([(some (pg1_0, (0 + 0))), (some (pg1_0, (0 + 1))), (some (pg1_0, (0 + 2))), (some (pg1_0, (0 + 3)))]).length : Int) := (show (1 : Int) < (([(some (pg1_0, (0 + 0))), (some (pg1_0, (0 + 1))), (some (pg1_0, (0 + 2))), (some (pg1_0, (0 + 3)))]).length : Int) from of_decide_eq_true (by kernel_rfl)); omega))) ?_
    refine lv (.pointer (some ⟨pg1_0, (0 + 1), none⟩)) ?_
    refine ls_end ?_
    refine qn_then ?_
    refine cs_seq ?_
    refine cs_region (l := [_, _, _, _, _, _, _, _, _, _, _, _]) ?_
    refine lv (.pointer (some ⟨pg0, 0, none⟩)) ?_
    refine lv (.pointer (some ⟨pg0, 0, none⟩)) ?_
    refine lv (.pointer (some ⟨pg0, (0 + 0), none⟩)) ?_
    refine ls_load (a0 := ⟨pg0, (0 + 0), none⟩) (v := .slice xA10 xl14.length xc11) (de := (TypeDesc.slice 5)) rfl rfl (by kernel_rfl) rfl (by kernel_rfl) (by kernel_rfl) (by kernel_rfl) (fun w hs => (hs.var (k := 0) (by exact rfl) (Sub4.trans (Sub4.all _) (Sub4.head _ _)))) ?_
    obtain ⟨t21, hc22, H⟩ := bind_some H
    refine ls_callb (fid := 57) (vals := #[.slice xA10 xl14.length xc11]) (X := Unit) (fun x => .tuple #[.int .u64 t21.1, .int .i64 t21.2.1, .int .i64 t21.2.2]) (fun x => stl []) [] [] [] [] 2 rfl rfl (by kernel_rfl) (fun w => by kernel_rfl) trivial trivial (by decide) (fun w hs hb => codec_ReadShort.calls k xA10 xc11 xl14 t21 (lent b w [] []) hb (hs.ro xR12 _ _) xC13 hc22) ?_
    intro x23
    refine lv (.tuple #[.int .u64 t21.1, .int .i64 t21.2.1, .int .i64 t21.2.2]) ?_
    refine lv (.int .u64 t21.1) ?_
    refine lv (.int .i64 t21.2.1) ?_
    refine lv (.int .i64 t21.2.2) ?_
    refine lv (.int .u64 t21.1) ?_
    refine lv (.int .i64 t21.2.1) ?_
    refine lv (.int .i64 t21.2.2) ?_
    refine ls_end ?_
    refine qn_then ?_
    refine cs_seq ?_
    refine cs_seq ?_
    refine cs_region (l := [_, _, _, _, _, _]) ?_
    refine lv (.int .i64 t21.2.2) ?_
    refine lv (.bool (!decide (t21.2.2 = (0 : Int)))) ?_
    refine lv (.bool (!decide (t21.2.2 = (0 : Int)))) ?_
    by_cases q24 : t21.2.2 = (0 : Int)
    · replace H := ite_t q24 H
      refine ls_know (c := false) (congrArg Bool.not (dec_t q24)) 26 (by kernel_rfl) ?_
      refine ls_on (j := 2) (t := 26) (b := false) rfl rfl (by kernel_rfl) (by kernel_rfl) ?_
      refine lv (.int .u64 t21.1) ?_
      refine ls_on (j := 2) (t := 26) (b := false) rfl rfl (by kernel_rfl) (by kernel_rfl) ?_
      refine lv (.bool (decide (t21.1 > (1152921504606846976 : Int)))) ?_
      refine lv (.bool (decide (t21.1 > (1152921504606846976 : Int)))) ?_
      refine ls_end ?_
      refine qn_then ?_
      by_cases q25 : t21.1 > (1152921504606846976 : Int)
      · replace H := ite_t q25 H
        refine cs_know (c := true) (dec_t q25) 29 (by kernel_rfl) ?_
        refine cs_true (by kernel_rfl) ?_
        refine cs_seq ?_
        refine cs_region (l := [_, _, _, _]) ?_
        refine lv (.pointer (some ⟨pg0, 0, none⟩)) ?_
        refine lv (.pointer (some ⟨pg0, 0, none⟩)) ?_
        refine lv (.pointer (some ⟨pg0, (0 + 1), none⟩)) ?_
        refine ls_storec (g := pg0) (off := (0 + 1)) (v := .bool true) (vs := [Value.bool true]) (cs := ([Value.slice xA10 xl14.length xc11] ++ [Value.bool v0.2])) (ty := 89) 0 rfl rfl rfl (by kernel_rfl) (by kernel_rfl) (by kernel_rfl) (by exact rfl) (by kernel_rfl) (len1 _) (one_cons rfl one_nil) (hl_of (Sub4.trans (Sub4.all _) (Sub4.skip (n := 1) (len1 _) (Sub4.all _))) (len_eq (len1 _) (len1 _))) (cs' := ([Value.slice xA10 xl14.length xc11] ++ [Value.bool true])) (splc_in (Sub4.all _) (splc_skip (n := 1) (len1 _) (splc_all (len_eq (len1 _) (len1 _)))) (splc_all (len_eq (len_app (len1 _) (len1 _)) (len_app (len1 _) (len1 _)))) (hl_of (Sub4.skip (n := 1) (len1 _) (Sub4.all _)) (len_eq (len1 _) (len1 _)))) ?_
        refine ls_end ?_
        refine qn_then ?_
        refine cs_ret' ?_
        refine qr_then ?_
        refine qr_block ?_
        refine qr_then ?_
        refine qr_then ?_
        refine qr_block ?_
        obtain rfl := Option.some.inj H
        refine qr_res (rs := []) rfl (fun w' hs => ⟨[], (.nil), (xA10, xc11), rfl, ⟨xR12, xC13⟩, hs.pick (ts := [0, 1]) (cs := [Ck.var 89 pg0 (([Value.slice xA10 xl14.length xc11] ++ [Value.bool true])), Ck.var 51 pg1_0 (([Value.int .i64 (IntKind.wrap .i64 t3.1)] ++ ([Value.int .i64 v1_0.2.1] ++ ([Value.int .i64 v1_0.2.2.1] ++ ([Value.int .i64 v1_0.2.2.2.1] ++ ([Value.string v1_0.2.2.2.2.1] ++ ([Value.string v1_0.2.2.2.2.2.1] ++ [Value.slice A1_0_6 v1_0.2.2.2.2.2.2.length c1_0_6])))))))]) ⟨by exact rfl, by exact rfl, trivial⟩ (by decide)⟩)
      replace H := ite_f q25 H
      refine cs_know (c := false) (dec_f q25) 29 (by kernel_rfl) ?_
      refine cs_false (by kernel_rfl) ?_
      refine cs_skip' ?_
      refine qn_then ?_
      refine cs_seq ?_
      refine cs_region (l := [_, _, _, _, _]) ?_
      refine lv (.pointer (some ⟨pg1_0, (0 + 1), none⟩)) ?_
      refine lv (.int .u64 t21.1) ?_
      refine lv (.int .i64 (IntKind.wrap .i64 t21.1)) ?_
      refine lv (.pointer (some ⟨pg1_0, (0 + 1), none⟩)) ?_
      refine ls_storec (g := pg1_0) (off := (0 + 1)) (v := .int .i64 (IntKind.wrap .i64 t21.1)) (vs := [Value.int .i64 (IntKind.wrap .i64 t21.1)]) (cs := ([Value.int .i64 (IntKind.wrap .i64 t3.1)] ++ ([Value.int .i64 v1_0.2.1] ++ ([Value.int .i64 v1_0.2.2.1] ++ ([Value.int .i64 v1_0.2.2.2.1] ++ ([Value.string v1_0.2.2.2.2.1] ++ ([Value.string v1_0.2.2.2.2.2.1] ++ [Value.slice A1_0_6 v1_0.2.2.2.2.2.2.length c1_0_6]))))))) (ty := 51) 1 rfl rfl rfl (by kernel_rfl) (by kernel_rfl) (by kernel_rfl) (by exact rfl) (by kernel_rfl) (len1 _) (one_cons rfl one_nil) (hl_of (Sub4.trans (Sub4.all _) (Sub4.skip (n := 1) (len1 _) (Sub4.head _ _))) (len_eq (len1 _) (len1 _))) (cs' := ([Value.int .i64 (IntKind.wrap .i64 t3.1)] ++ ([Value.int .i64 (IntKind.wrap .i64 t21.1)] ++ ([Value.int .i64 v1_0.2.2.1] ++ ([Value.int .i64 v1_0.2.2.2.1] ++ ([Value.string v1_0.2.2.2.2.1] ++ ([Value.string v1_0.2.2.2.2.2.1] ++ [Value.slice A1_0_6 v1_0.2.2.2.2.2.2.length c1_0_6]))))))) (splc_in (Sub4.all _) (splc_skip (n := 1) (len1 _) (splc_head (len_eq (len1 _) (len1 _)))) (splc_all (len_eq (len_app (len1 _) (len_app (len1 _) (len_app (len1 _) (len_app (len1 _) (len_app (len1 _) (len_app (len1 _) (len1 _))))))) (len_app (len1 _) (len_app (len1 _) (len_app (len1 _) (len_app (len1 _) (len_app (len1 _) (len_app (len1 _) (len1 _))))))))) (hl_of (Sub4.skip (n := 1) (len1 _) (Sub4.head _ _)) (len_eq (len1 _) (len1 _)))) ?_
      refine ls_end ?_
      refine qn_then ?_
      refine cs_region (l := [_, _, _, _, _, _, _, _, _, _]) ?_
      refine lv (.pointer (some ⟨pg0, 0, none⟩)) ?_
      refine lv (.pointer (some ⟨pg0, 0, none⟩)) ?_
      refine lv (.pointer (some ⟨pg0, 0, none⟩)) ?_
      refine lv (.pointer (some ⟨pg0, (0 + 0), none⟩)) ?_
      refine ls_load (a0 := ⟨pg0, (0 + 0), none⟩) (v := .slice xA10 xl14.length xc11) (de := (TypeDesc.slice 5)) rfl rfl (by kernel_rfl) rfl (by kernel_rfl) (by kernel_rfl) (by kernel_rfl) (fun w hs => (hs.var (k := 0) (by exact rfl) (Sub4.trans (Sub4.all _) (Sub4.head _ _)))) ?_
      refine lv (.int .i64 t21.2.1) ?_
      obtain ⟨q26, H⟩ := ite_need H
      obtain ⟨q27, H⟩ := ite_need H
      obtain ⟨xl32, hy33, H⟩ := lt_some H
      have hz35 : (t21.2.1).toNat ≤ xl14.length := by omega
      have hz36 : xl14.length ≤ xl14.length := by omega
      obtain ⟨xA28, xc29, he34, xC31, xR30⟩ := cut_at (A := xA10) (c := xc11) (l := xl14) (Ec.int 5 .u8) ((t21.2.1).toNat) xl14.length hz35 hz36 xC13 xR12 (m := xl32) (by rw [← hy33] <;> simp) (z := 1) rfl
      refine ls_cutv (A := xA10) (c := xc11) (m := xl14.length) (z := 1) (e := 5) (a := (t21.2.1).toNat) (b := xl14.length) rfl rfl (by kernel_rfl) rfl (by kernel_rfl) (by kernel_rfl) (by kernel_rfl) (.inr ⟨.i64, by rw [Int.toNat_of_nonneg (by first | assumption | omega)]; kernel_rfl⟩) (.inl ⟨rfl, rfl⟩) hz35 hz36 xC13 he34 ?_
      refine lv (.pointer (some ⟨pg0, 0, none⟩)) ?_
      refine lv (.pointer (some ⟨pg0, (0 + 0), none⟩)) ?_
      refine ls_storec (g := pg0) (off := (0 + 0)) (v := .slice xA28 xl32.length xc29) (vs := [Value.slice xA28 xl32.length xc29]) (cs := ([Value.slice xA10 xl14.length xc11] ++ [Value.bool v0.2])) (ty := 89) 0 rfl rfl rfl (by kernel_rfl) (by kernel_rfl) (by kernel_rfl) (by exact rfl) (by kernel_rfl) (len1 _) (one_cons rfl one_nil) (hl_of (Sub4.trans (Sub4.all _) (Sub4.head _ _)) (len_eq (len1 _) (len1 _))) (cs' := ([Value.slice xA28 xl32.length xc29] ++ [Value.bool v0.2])) (splc_in (Sub4.all _) (splc_head (len_eq (len1 _) (len1 _))) (splc_all (len_eq (len_app (len1 _) (len1 _)) (len_app (len1 _) (len1 _)))) (hl_of (Sub4.head _ _) (len_eq (len1 _) (len1 _)))) ?_
      refine ls_end ?_
      refine qn_block ?_
      refine qn_then ?_
      refine cs_region (l := [_, _]) ?_
      refine lv (.int .i64 (2 : Int)) ?_
      refine lv (.int .i64 (2 : Int)) ?_
      refine ls_end ?_
      refine qn_rounds ?_
      refine rs_succ ?_
      refine cs_seq ?_
      refine cs_region (l := [_]) ?_
      refine lv (.bool true) ?_
      refine ls_end ?_
      refine qn_then ?_
      refine cs_seq ?_
      refine cs_true (by kernel_rfl) ?_
      refine cs_skip' ?_
      refine qn_then ?_
      refine cs_seq ?_
      refine cs_block ?_
      refine cs_seq ?_
      refine cs_region (l := [_, _, _]) ?_
      obtain ⟨ad37, hA38⟩ := ido_at (T := (Ec.ptr 91)) (l := ([(some (pg1_0, (0 + 0))), (some (pg1_0, (0 + 1))), (some (pg1_0, (0 + 2))), (some (pg1_0, (0 + 3)))])) (i := (2 : Int)) R1 (by decide) (show (2 : Int) < (([(some (pg1_0, (0 + 0))), (some (pg1_0, (0 + 1))), (some (pg1_0, (0 + 2))), (some (pg1_0, (0 + 3)))]).length : Int) from of_decide_eq_true (by kernel_rfl))
      refine ls_idxv (Ec.ptr 91) (A := A1) (c := c1) (l := [(some (pg1_0, (0 + 0))), (some (pg1_0, (0 + 1))), (some (pg1_0, (0 + 2))), (some (pg1_0, (0 + 3)))]) (k := .i64) (i := (2 : Int)) (z := 1) (ad := ad37) rfl rfl (by kernel_rfl) hA38 rfl (by kernel_rfl) (by kernel_rfl) (by kernel_rfl) (by kernel_rfl) (by decide) (show (2 : Int) < (([(some (pg1_0, (0 + 0))), (some (pg1_0, (0 + 1))), (some (pg1_0, (0 + 2))), (some (pg1_0, (0 + 3)))]).length : Int) from of_decide_eq_true (by kernel_rfl)) ?_
      refine ls_load (a0 := (ad37.add (((2 : Int)).toNat * 1))) (v := .pointer (some ⟨pg1_0, (0 + 2), none⟩)) (de := (TypeDesc.pointer 3)) rfl rfl (by kernel_rfl) rfl (by kernel_rfl) (by kernel_rfl) (by kernel_rfl) (fun w hs => (hs.old R1).at hA38 (em_sub (Ec.ptr 91) ([(some (pg1_0, (0 + 0))), (some (pg1_0, (0 + 1))), (some (pg1_0, (0 + 2))), (some (pg1_0, (0 + 3)))]) (i := ((2 : Int)).toNat) (by have h0 : (0 : Int) ≤ (2 : Int) := (by decide); have h1 : (2 : Int) < (([(some (pg1_0, (0 + 0))), (some (pg1_0, (0 + 1))), (some (pg1_0, (0 + 2))), (some (pg1_0, (0 + 3)))]).length : Int) := (show (2 : Int) < (([(some (pg1_0, (0 + 0))), (some (pg1_0, (0 + 1))), (some (pg1_0, (0 + 2))), (some (pg1_0, (0 + 3)))]).length : Int) from of_decide_eq_true (by kernel_rfl)); omega))) ?_
      refine lv (.pointer (some ⟨pg1_0, (0 + 2), none⟩)) ?_
      refine ls_end ?_
      refine qn_then ?_
      refine cs_seq ?_
      refine cs_region (l := [_, _, _, _, _, _, _, _, _, _, _, _]) ?_
      refine lv (.pointer (some ⟨pg0, 0, none⟩)) ?_
      refine lv (.pointer (some ⟨pg0, 0, none⟩)) ?_
      refine lv (.pointer (some ⟨pg0, (0 + 0), none⟩)) ?_
      refine ls_load (a0 := ⟨pg0, (0 + 0), none⟩) (v := .slice xA28 xl32.length xc29) (de := (TypeDesc.slice 5)) rfl rfl (by kernel_rfl) rfl (by kernel_rfl) (by kernel_rfl) (by kernel_rfl) (fun w hs => (hs.var (k := 0) (by exact rfl) (Sub4.trans (Sub4.all _) (Sub4.head _ _)))) ?_
      obtain ⟨t39, hc40, H⟩ := bind_some H
      refine ls_callb (fid := 57) (vals := #[.slice xA28 xl32.length xc29]) (X := Unit) (fun x => .tuple #[.int .u64 t39.1, .int .i64 t39.2.1, .int .i64 t39.2.2]) (fun x => stl []) [] [] [] [] 2 rfl rfl (by kernel_rfl) (fun w => by kernel_rfl) trivial trivial (by decide) (fun w hs hb => codec_ReadShort.calls k xA28 xc29 xl32 t39 (lent b w [] []) hb (hs.ro xR30 _ _) xC31 hc40) ?_
      intro x41
      refine lv (.tuple #[.int .u64 t39.1, .int .i64 t39.2.1, .int .i64 t39.2.2]) ?_
      refine lv (.int .u64 t39.1) ?_
      refine lv (.int .i64 t39.2.1) ?_
      refine lv (.int .i64 t39.2.2) ?_
      refine lv (.int .u64 t39.1) ?_
      refine lv (.int .i64 t39.2.1) ?_
      refine lv (.int .i64 t39.2.2) ?_
      refine ls_end ?_
      refine qn_then ?_
      refine cs_seq ?_
      refine cs_seq ?_
      refine cs_region (l := [_, _, _, _, _, _]) ?_
      refine lv (.int .i64 t39.2.2) ?_
      refine lv (.bool (!decide (t39.2.2 = (0 : Int)))) ?_
      refine lv (.bool (!decide (t39.2.2 = (0 : Int)))) ?_
      by_cases q42 : t39.2.2 = (0 : Int)
      · replace H := ite_t q42 H
        refine ls_know (c := false) (congrArg Bool.not (dec_t q42)) 26 (by kernel_rfl) ?_
        refine ls_on (j := 2) (t := 26) (b := false) rfl rfl (by kernel_rfl) (by kernel_rfl) ?_
        refine lv (.int .u64 t39.1) ?_
        refine ls_on (j := 2) (t := 26) (b := false) rfl rfl (by kernel_rfl) (by kernel_rfl) ?_
        refine lv (.bool (decide (t39.1 > (1152921504606846976 : Int)))) ?_
        refine lv (.bool (decide (t39.1 > (1152921504606846976 : Int)))) ?_
        refine ls_end ?_
        refine qn_then ?_
        by_cases q43 : t39.1 > (1152921504606846976 : Int)
        · replace H := ite_t q43 H
          refine cs_know (c := true) (dec_t q43) 29 (by kernel_rfl) ?_
          refine cs_true (by kernel_rfl) ?_
          refine cs_seq ?_
          refine cs_region (l := [_, _, _, _]) ?_
          refine lv (.pointer (some ⟨pg0, 0, none⟩)) ?_
          refine lv (.pointer (some ⟨pg0, 0, none⟩)) ?_
          refine lv (.pointer (some ⟨pg0, (0 + 1), none⟩)) ?_
          refine ls_storec (g := pg0) (off := (0 + 1)) (v := .bool true) (vs := [Value.bool true]) (cs := ([Value.slice xA28 xl32.length xc29] ++ [Value.bool v0.2])) (ty := 89) 0 rfl rfl rfl (by kernel_rfl) (by kernel_rfl) (by kernel_rfl) (by exact rfl) (by kernel_rfl) (len1 _) (one_cons rfl one_nil) (hl_of (Sub4.trans (Sub4.all _) (Sub4.skip (n := 1) (len1 _) (Sub4.all _))) (len_eq (len1 _) (len1 _))) (cs' := ([Value.slice xA28 xl32.length xc29] ++ [Value.bool true])) (splc_in (Sub4.all _) (splc_skip (n := 1) (len1 _) (splc_all (len_eq (len1 _) (len1 _)))) (splc_all (len_eq (len_app (len1 _) (len1 _)) (len_app (len1 _) (len1 _)))) (hl_of (Sub4.skip (n := 1) (len1 _) (Sub4.all _)) (len_eq (len1 _) (len1 _)))) ?_
          refine ls_end ?_
          refine qn_then ?_
          refine cs_ret' ?_
          refine qr_then ?_
          refine qr_block ?_
          refine qr_then ?_
          refine qr_then ?_
          refine qr_block ?_
          obtain rfl := Option.some.inj H
          refine qr_res (rs := []) rfl (fun w' hs => ⟨[], (.nil), (xA28, xc29), rfl, ⟨xR30, xC31⟩, hs.pick (ts := [0, 1]) (cs := [Ck.var 89 pg0 (([Value.slice xA28 xl32.length xc29] ++ [Value.bool true])), Ck.var 51 pg1_0 (([Value.int .i64 (IntKind.wrap .i64 t3.1)] ++ ([Value.int .i64 (IntKind.wrap .i64 t21.1)] ++ ([Value.int .i64 v1_0.2.2.1] ++ ([Value.int .i64 v1_0.2.2.2.1] ++ ([Value.string v1_0.2.2.2.2.1] ++ ([Value.string v1_0.2.2.2.2.2.1] ++ [Value.slice A1_0_6 v1_0.2.2.2.2.2.2.length c1_0_6])))))))]) ⟨by exact rfl, by exact rfl, trivial⟩ (by decide)⟩)
        replace H := ite_f q43 H
        refine cs_know (c := false) (dec_f q43) 29 (by kernel_rfl) ?_
        refine cs_false (by kernel_rfl) ?_
        refine cs_skip' ?_
        refine qn_then ?_
        refine cs_seq ?_
        refine cs_region (l := [_, _, _, _, _]) ?_
        refine lv (.pointer (some ⟨pg1_0, (0 + 2), none⟩)) ?_
        refine lv (.int .u64 t39.1) ?_
        refine lv (.int .i64 (IntKind.wrap .i64 t39.1)) ?_
        refine lv (.pointer (some ⟨pg1_0, (0 + 2), none⟩)) ?_
        refine ls_storec (g := pg1_0) (off := (0 + 2)) (v := .int .i64 (IntKind.wrap .i64 t39.1)) (vs := [Value.int .i64 (IntKind.wrap .i64 t39.1)]) (cs := ([Value.int .i64 (IntKind.wrap .i64 t3.1)] ++ ([Value.int .i64 (IntKind.wrap .i64 t21.1)] ++ ([Value.int .i64 v1_0.2.2.1] ++ ([Value.int .i64 v1_0.2.2.2.1] ++ ([Value.string v1_0.2.2.2.2.1] ++ ([Value.string v1_0.2.2.2.2.2.1] ++ [Value.slice A1_0_6 v1_0.2.2.2.2.2.2.length c1_0_6]))))))) (ty := 51) 1 rfl rfl rfl (by kernel_rfl) (by kernel_rfl) (by kernel_rfl) (by exact rfl) (by kernel_rfl) (len1 _) (one_cons rfl one_nil) (hl_of (Sub4.trans (Sub4.all _) (Sub4.skip (n := 1) (len1 _) (Sub4.skip (n := 1) (len1 _) (Sub4.head _ _)))) (len_eq (len1 _) (len1 _))) (cs' := ([Value.int .i64 (IntKind.wrap .i64 t3.1)] ++ ([Value.int .i64 (IntKind.wrap .i64 t21.1)] ++ ([Value.int .i64 (IntKind.wrap .i64 t39.1)] ++ ([Value.int .i64 v1_0.2.2.2.1] ++ ([Value.string v1_0.2.2.2.2.1] ++ ([Value.string v1_0.2.2.2.2.2.1] ++ [Value.slice A1_0_6 v1_0.2.2.2.2.2.2.length c1_0_6]))))))) (splc_in (Sub4.all _) (splc_skip (n := 1) (len1 _) (splc_skip (n := 1) (len1 _) (splc_head (len_eq (len1 _) (len1 _))))) (splc_all (len_eq (len_app (len1 _) (len_app (len1 _) (len_app (len1 _) (len_app (len1 _) (len_app (len1 _) (len_app (len1 _) (len1 _))))))) (len_app (len1 _) (len_app (len1 _) (len_app (len1 _) (len_app (len1 _) (len_app (len1 _) (len_app (len1 _) (len1 _))))))))) (hl_of (Sub4.skip (n := 1) (len1 _) (Sub4.skip (n := 1) (len1 _) (Sub4.head _ _))) (len_eq (len1 _) (len1 _)))) ?_
        refine ls_end ?_
        refine qn_then ?_
        refine cs_region (l := [_, _, _, _, _, _, _, _, _, _]) ?_
        refine lv (.pointer (some ⟨pg0, 0, none⟩)) ?_
        refine lv (.pointer (some ⟨pg0, 0, none⟩)) ?_
        refine lv (.pointer (some ⟨pg0, 0, none⟩)) ?_
        refine lv (.pointer (some ⟨pg0, (0 + 0), none⟩)) ?_
        refine ls_load (a0 := ⟨pg0, (0 + 0), none⟩) (v := .slice xA28 xl32.length xc29) (de := (TypeDesc.slice 5)) rfl rfl (by kernel_rfl) rfl (by kernel_rfl) (by kernel_rfl) (by kernel_rfl) (fun w hs => (hs.var (k := 0) (by exact rfl) (Sub4.trans (Sub4.all _) (Sub4.head _ _)))) ?_
        refine lv (.int .i64 t39.2.1) ?_
        obtain ⟨q44, H⟩ := ite_need H
        obtain ⟨q45, H⟩ := ite_need H
        obtain ⟨xl50, hy51, H⟩ := lt_some H
        have hz53 : (t39.2.1).toNat ≤ xl32.length := by omega
        have hz54 : xl32.length ≤ xl32.length := by omega
        obtain ⟨xA46, xc47, he52, xC49, xR48⟩ := cut_at (A := xA28) (c := xc29) (l := xl32) (Ec.int 5 .u8) ((t39.2.1).toNat) xl32.length hz53 hz54 xC31 xR30 (m := xl50) (by rw [← hy51] <;> simp) (z := 1) rfl
        refine ls_cutv (A := xA28) (c := xc29) (m := xl32.length) (z := 1) (e := 5) (a := (t39.2.1).toNat) (b := xl32.length) rfl rfl (by kernel_rfl) rfl (by kernel_rfl) (by kernel_rfl) (by kernel_rfl) (.inr ⟨.i64, by rw [Int.toNat_of_nonneg (by first | assumption | omega)]; kernel_rfl⟩) (.inl ⟨rfl, rfl⟩) hz53 hz54 xC31 he52 ?_
        refine lv (.pointer (some ⟨pg0, 0, none⟩)) ?_
        refine lv (.pointer (some ⟨pg0, (0 + 0), none⟩)) ?_
        refine ls_storec (g := pg0) (off := (0 + 0)) (v := .slice xA46 xl50.length xc47) (vs := [Value.slice xA46 xl50.length xc47]) (cs := ([Value.slice xA28 xl32.length xc29] ++ [Value.bool v0.2])) (ty := 89) 0 rfl rfl rfl (by kernel_rfl) (by kernel_rfl) (by kernel_rfl) (by exact rfl) (by kernel_rfl) (len1 _) (one_cons rfl one_nil) (hl_of (Sub4.trans (Sub4.all _) (Sub4.head _ _)) (len_eq (len1 _) (len1 _))) (cs' := ([Value.slice xA46 xl50.length xc47] ++ [Value.bool v0.2])) (splc_in (Sub4.all _) (splc_head (len_eq (len1 _) (len1 _))) (splc_all (len_eq (len_app (len1 _) (len1 _)) (len_app (len1 _) (len1 _)))) (hl_of (Sub4.head _ _) (len_eq (len1 _) (len1 _)))) ?_
        refine ls_end ?_
        refine qn_block ?_
        refine qn_then ?_
        refine cs_region (l := [_, _]) ?_
        refine lv (.int .i64 (3 : Int)) ?_
        refine lv (.int .i64 (3 : Int)) ?_
        refine ls_end ?_
        refine qn_rounds ?_
        refine rs_succ ?_
        refine cs_seq ?_
        refine cs_region (l := [_]) ?_
        refine lv (.bool true) ?_
        refine ls_end ?_
        refine qn_then ?_
        refine cs_seq ?_
        refine cs_true (by kernel_rfl) ?_
        refine cs_skip' ?_
        refine qn_then ?_
        refine cs_seq ?_
        refine cs_block ?_
        refine cs_seq ?_
        refine cs_region (l := [_, _, _]) ?_
        obtain ⟨ad55, hA56⟩ := ido_at (T := (Ec.ptr 91)) (l := ([(some (pg1_0, (0 + 0))), (some (pg1_0, (0 + 1))), (some (pg1_0, (0 + 2))), (some (pg1_0, (0 + 3)))])) (i := (3 : Int)) R1 (by decide) (show (3 : Int) < (([(some (pg1_0, (0 + 0))), (some (pg1_0, (0 + 1))), (some (pg1_0, (0 + 2))), (some (pg1_0, (0 + 3)))]).length : Int) from of_decide_eq_true (by kernel_rfl))
        refine ls_idxv (Ec.ptr 91) (A := A1) (c := c1) (l := [(some (pg1_0, (0 + 0))), (some (pg1_0, (0 + 1))), (some (pg1_0, (0 + 2))), (some (pg1_0, (0 + 3)))]) (k := .i64) (i := (3 : Int)) (z := 1) (ad := ad55) rfl rfl (by kernel_rfl) hA56 rfl (by kernel_rfl) (by kernel_rfl) (by kernel_rfl) (by kernel_rfl) (by decide) (show (3 : Int) < (([(some (pg1_0, (0 + 0))), (some (pg1_0, (0 + 1))), (some (pg1_0, (0 + 2))), (some (pg1_0, (0 + 3)))]).length : Int) from of_decide_eq_true (by kernel_rfl)) ?_
        refine ls_load (a0 := (ad55.add (((3 : Int)).toNat * 1))) (v := .pointer (some ⟨pg1_0, (0 + 3), none⟩)) (de := (TypeDesc.pointer 3)) rfl rfl (by kernel_rfl) rfl (by kernel_rfl) (by kernel_rfl) (by kernel_rfl) (fun w hs => (hs.old R1).at hA56 (em_sub (Ec.ptr 91) ([(some (pg1_0, (0 + 0))), (some (pg1_0, (0 + 1))), (some (pg1_0, (0 + 2))), (some (pg1_0, (0 + 3)))]) (i := ((3 : Int)).toNat) (by have h0 : (0 : Int) ≤ (3 : Int) := (by decide); have h1 : (3 : Int) < (([(some (pg1_0, (0 + 0))), (some (pg1_0, (0 + 1))), (some (pg1_0, (0 + 2))), (some (pg1_0, (0 + 3)))]).length : Int) := (show (3 : Int) < (([(some (pg1_0, (0 + 0))), (some (pg1_0, (0 + 1))), (some (pg1_0, (0 + 2))), (some (pg1_0, (0 + 3)))]).length : Int) from of_decide_eq_true (by kernel_rfl)); omega))) ?_
        refine lv (.pointer (some ⟨pg1_0, (0 + 3), none⟩)) ?_
        refine ls_end ?_
        refine qn_then ?_
        refine cs_seq ?_
        refine cs_region (l := [_, _, _, _, _, _, _, _, _, _, _, _]) ?_
        refine lv (.pointer (some ⟨pg0, 0, none⟩)) ?_
        refine lv (.pointer (some ⟨pg0, 0, none⟩)) ?_
        refine lv (.pointer (some ⟨pg0, (0 + 0), none⟩)) ?_
        refine ls_load (a0 := ⟨pg0, (0 + 0), none⟩) (v := .slice xA46 xl50.length xc47) (de := (TypeDesc.slice 5)) rfl rfl (by kernel_rfl) rfl (by kernel_rfl) (by kernel_rfl) (by kernel_rfl) (fun w hs => (hs.var (k := 0) (by exact rfl) (Sub4.trans (Sub4.all _) (Sub4.head _ _)))) ?_
        obtain ⟨t57, hc58, H⟩ := bind_some H
        refine ls_callb (fid := 57) (vals := #[.slice xA46 xl50.length xc47]) (X := Unit) (fun x => .tuple #[.int .u64 t57.1, .int .i64 t57.2.1, .int .i64 t57.2.2]) (fun x => stl []) [] [] [] [] 2 rfl rfl (by kernel_rfl) (fun w => by kernel_rfl) trivial trivial (by decide) (fun w hs hb => codec_ReadShort.calls k xA46 xc47 xl50 t57 (lent b w [] []) hb (hs.ro xR48 _ _) xC49 hc58) ?_
        intro x59
        refine lv (.tuple #[.int .u64 t57.1, .int .i64 t57.2.1, .int .i64 t57.2.2]) ?_
        refine lv (.int .u64 t57.1) ?_
        refine lv (.int .i64 t57.2.1) ?_
        refine lv (.int .i64 t57.2.2) ?_
        refine lv (.int .u64 t57.1) ?_
        refine lv (.int .i64 t57.2.1) ?_
        refine lv (.int .i64 t57.2.2) ?_
        refine ls_end ?_
        refine qn_then ?_
        refine cs_seq ?_
        refine cs_seq ?_
        refine cs_region (l := [_, _, _, _, _, _]) ?_
        refine lv (.int .i64 t57.2.2) ?_
        refine lv (.bool (!decide (t57.2.2 = (0 : Int)))) ?_
        refine lv (.bool (!decide (t57.2.2 = (0 : Int)))) ?_
        by_cases q60 : t57.2.2 = (0 : Int)
        · replace H := ite_t q60 H
          refine ls_know (c := false) (congrArg Bool.not (dec_t q60)) 26 (by kernel_rfl) ?_
          refine ls_on (j := 2) (t := 26) (b := false) rfl rfl (by kernel_rfl) (by kernel_rfl) ?_
          refine lv (.int .u64 t57.1) ?_
          refine ls_on (j := 2) (t := 26) (b := false) rfl rfl (by kernel_rfl) (by kernel_rfl) ?_
          refine lv (.bool (decide (t57.1 > (1152921504606846976 : Int)))) ?_
          refine lv (.bool (decide (t57.1 > (1152921504606846976 : Int)))) ?_
          refine ls_end ?_
          refine qn_then ?_
          by_cases q61 : t57.1 > (1152921504606846976 : Int)
          · replace H := ite_t q61 H
            refine cs_know (c := true) (dec_t q61) 29 (by kernel_rfl) ?_
            refine cs_true (by kernel_rfl) ?_
            refine cs_seq ?_
            refine cs_region (l := [_, _, _, _]) ?_
            refine lv (.pointer (some ⟨pg0, 0, none⟩)) ?_
            refine lv (.pointer (some ⟨pg0, 0, none⟩)) ?_
            refine lv (.pointer (some ⟨pg0, (0 + 1), none⟩)) ?_
            refine ls_storec (g := pg0) (off := (0 + 1)) (v := .bool true) (vs := [Value.bool true]) (cs := ([Value.slice xA46 xl50.length xc47] ++ [Value.bool v0.2])) (ty := 89) 0 rfl rfl rfl (by kernel_rfl) (by kernel_rfl) (by kernel_rfl) (by exact rfl) (by kernel_rfl) (len1 _) (one_cons rfl one_nil) (hl_of (Sub4.trans (Sub4.all _) (Sub4.skip (n := 1) (len1 _) (Sub4.all _))) (len_eq (len1 _) (len1 _))) (cs' := ([Value.slice xA46 xl50.length xc47] ++ [Value.bool true])) (splc_in (Sub4.all _) (splc_skip (n := 1) (len1 _) (splc_all (len_eq (len1 _) (len1 _)))) (splc_all (len_eq (len_app (len1 _) (len1 _)) (len_app (len1 _) (len1 _)))) (hl_of (Sub4.skip (n := 1) (len1 _) (Sub4.all _)) (len_eq (len1 _) (len1 _)))) ?_
            refine ls_end ?_
            refine qn_then ?_
            refine cs_ret' ?_
            refine qr_then ?_
            refine qr_block ?_
            refine qr_then ?_
            refine qr_then ?_
            refine qr_block ?_
            obtain rfl := Option.some.inj H
            refine qr_res (rs := []) rfl (fun w' hs => ⟨[], (.nil), (xA46, xc47), rfl, ⟨xR48, xC49⟩, hs.pick (ts := [0, 1]) (cs := [Ck.var 89 pg0 (([Value.slice xA46 xl50.length xc47] ++ [Value.bool true])), Ck.var 51 pg1_0 (([Value.int .i64 (IntKind.wrap .i64 t3.1)] ++ ([Value.int .i64 (IntKind.wrap .i64 t21.1)] ++ ([Value.int .i64 (IntKind.wrap .i64 t39.1)] ++ ([Value.int .i64 v1_0.2.2.2.1] ++ ([Value.string v1_0.2.2.2.2.1] ++ ([Value.string v1_0.2.2.2.2.2.1] ++ [Value.slice A1_0_6 v1_0.2.2.2.2.2.2.length c1_0_6])))))))]) ⟨by exact rfl, by exact rfl, trivial⟩ (by decide)⟩)
          replace H := ite_f q61 H
          refine cs_know (c := false) (dec_f q61) 29 (by kernel_rfl) ?_
          refine cs_false (by kernel_rfl) ?_
          refine cs_skip' ?_
          refine qn_then ?_
          refine cs_seq ?_
          refine cs_region (l := [_, _, _, _, _]) ?_
          refine lv (.pointer (some ⟨pg1_0, (0 + 3), none⟩)) ?_
          refine lv (.int .u64 t57.1) ?_
          refine lv (.int .i64 (IntKind.wrap .i64 t57.1)) ?_
          refine lv (.pointer (some ⟨pg1_0, (0 + 3), none⟩)) ?_
          refine ls_storec (g := pg1_0) (off := (0 + 3)) (v := .int .i64 (IntKind.wrap .i64 t57.1)) (vs := [Value.int .i64 (IntKind.wrap .i64 t57.1)]) (cs := ([Value.int .i64 (IntKind.wrap .i64 t3.1)] ++ ([Value.int .i64 (IntKind.wrap .i64 t21.1)] ++ ([Value.int .i64 (IntKind.wrap .i64 t39.1)] ++ ([Value.int .i64 v1_0.2.2.2.1] ++ ([Value.string v1_0.2.2.2.2.1] ++ ([Value.string v1_0.2.2.2.2.2.1] ++ [Value.slice A1_0_6 v1_0.2.2.2.2.2.2.length c1_0_6]))))))) (ty := 51) 1 rfl rfl rfl (by kernel_rfl) (by kernel_rfl) (by kernel_rfl) (by exact rfl) (by kernel_rfl) (len1 _) (one_cons rfl one_nil) (hl_of (Sub4.trans (Sub4.all _) (Sub4.skip (n := 1) (len1 _) (Sub4.skip (n := 1) (len1 _) (Sub4.skip (n := 1) (len1 _) (Sub4.head _ _))))) (len_eq (len1 _) (len1 _))) (cs' := ([Value.int .i64 (IntKind.wrap .i64 t3.1)] ++ ([Value.int .i64 (IntKind.wrap .i64 t21.1)] ++ ([Value.int .i64 (IntKind.wrap .i64 t39.1)] ++ ([Value.int .i64 (IntKind.wrap .i64 t57.1)] ++ ([Value.string v1_0.2.2.2.2.1] ++ ([Value.string v1_0.2.2.2.2.2.1] ++ [Value.slice A1_0_6 v1_0.2.2.2.2.2.2.length c1_0_6]))))))) (splc_in (Sub4.all _) (splc_skip (n := 1) (len1 _) (splc_skip (n := 1) (len1 _) (splc_skip (n := 1) (len1 _) (splc_head (len_eq (len1 _) (len1 _)))))) (splc_all (len_eq (len_app (len1 _) (len_app (len1 _) (len_app (len1 _) (len_app (len1 _) (len_app (len1 _) (len_app (len1 _) (len1 _))))))) (len_app (len1 _) (len_app (len1 _) (len_app (len1 _) (len_app (len1 _) (len_app (len1 _) (len_app (len1 _) (len1 _))))))))) (hl_of (Sub4.skip (n := 1) (len1 _) (Sub4.skip (n := 1) (len1 _) (Sub4.skip (n := 1) (len1 _) (Sub4.head _ _)))) (len_eq (len1 _) (len1 _)))) ?_
          refine ls_end ?_
          refine qn_then ?_
          refine cs_region (l := [_, _, _, _, _, _, _, _, _, _]) ?_
          refine lv (.pointer (some ⟨pg0, 0, none⟩)) ?_
          refine lv (.pointer (some ⟨pg0, 0, none⟩)) ?_
          refine lv (.pointer (some ⟨pg0, 0, none⟩)) ?_
          refine lv (.pointer (some ⟨pg0, (0 + 0), none⟩)) ?_
          refine ls_load (a0 := ⟨pg0, (0 + 0), none⟩) (v := .slice xA46 xl50.length xc47) (de := (TypeDesc.slice 5)) rfl rfl (by kernel_rfl) rfl (by kernel_rfl) (by kernel_rfl) (by kernel_rfl) (fun w hs => (hs.var (k := 0) (by exact rfl) (Sub4.trans (Sub4.all _) (Sub4.head _ _)))) ?_
          refine lv (.int .i64 t57.2.1) ?_
          obtain ⟨q62, H⟩ := ite_need H
          obtain ⟨q63, H⟩ := ite_need H
          obtain ⟨xl68, hy69, H⟩ := lt_some H
          have hz71 : (t57.2.1).toNat ≤ xl50.length := by omega
          have hz72 : xl50.length ≤ xl50.length := by omega
          obtain ⟨xA64, xc65, he70, xC67, xR66⟩ := cut_at (A := xA46) (c := xc47) (l := xl50) (Ec.int 5 .u8) ((t57.2.1).toNat) xl50.length hz71 hz72 xC49 xR48 (m := xl68) (by rw [← hy69] <;> simp) (z := 1) rfl
          refine ls_cutv (A := xA46) (c := xc47) (m := xl50.length) (z := 1) (e := 5) (a := (t57.2.1).toNat) (b := xl50.length) rfl rfl (by kernel_rfl) rfl (by kernel_rfl) (by kernel_rfl) (by kernel_rfl) (.inr ⟨.i64, by rw [Int.toNat_of_nonneg (by first | assumption | omega)]; kernel_rfl⟩) (.inl ⟨rfl, rfl⟩) hz71 hz72 xC49 he70 ?_
          refine lv (.pointer (some ⟨pg0, 0, none⟩)) ?_
          refine lv (.pointer (some ⟨pg0, (0 + 0), none⟩)) ?_
          refine ls_storec (g := pg0) (off := (0 + 0)) (v := .slice xA64 xl68.length xc65) (vs := [Value.slice xA64 xl68.length xc65]) (cs := ([Value.slice xA46 xl50.length xc47] ++ [Value.bool v0.2])) (ty := 89) 0 rfl rfl rfl (by kernel_rfl) (by kernel_rfl) (by kernel_rfl) (by exact rfl) (by kernel_rfl) (len1 _) (one_cons rfl one_nil) (hl_of (Sub4.trans (Sub4.all _) (Sub4.head _ _)) (len_eq (len1 _) (len1 _))) (cs' := ([Value.slice xA64 xl68.length xc65] ++ [Value.bool v0.2])) (splc_in (Sub4.all _) (splc_head (len_eq (len1 _) (len1 _))) (splc_all (len_eq (len_app (len1 _) (len1 _)) (len_app (len1 _) (len1 _)))) (hl_of (Sub4.head _ _) (len_eq (len1 _) (len1 _)))) ?_
          refine ls_end ?_
          refine qn_block ?_
          refine qn_then ?_
          refine cs_region (l := [_, _]) ?_
          refine lv (.int .i64 (4 : Int)) ?_
          refine lv (.int .i64 (4 : Int)) ?_
          refine ls_end ?_
          refine qn_rounds ?_
          refine rs_succ ?_
          refine cs_seq ?_
          refine cs_region (l := [_]) ?_
          refine lv (.bool false) ?_
          refine ls_end ?_
          refine qn_then ?_
          refine cs_seq ?_
          refine cs_false (by kernel_rfl) ?_
          refine cs_exit' ?_
          refine qx_then ?_
          refine qx_then ?_
          refine qx_same ?_
          obtain rfl := Option.some.inj H
          refine qn_res (rs := []) rfl (fun w' hs => ⟨[], (.nil), (xA64, xc65), rfl, ⟨xR66, xC67⟩, hs.pick (ts := [0, 1]) (cs := [Ck.var 89 pg0 (([Value.slice xA64 xl68.length xc65] ++ [Value.bool v0.2])), Ck.var 51 pg1_0 (([Value.int .i64 (IntKind.wrap .i64 t3.1)] ++ ([Value.int .i64 (IntKind.wrap .i64 t21.1)] ++ ([Value.int .i64 (IntKind.wrap .i64 t39.1)] ++ ([Value.int .i64 (IntKind.wrap .i64 t57.1)] ++ ([Value.string v1_0.2.2.2.2.1] ++ ([Value.string v1_0.2.2.2.2.2.1] ++ [Value.slice A1_0_6 v1_0.2.2.2.2.2.2.length c1_0_6])))))))]) ⟨by exact rfl, by exact rfl, trivial⟩ (by decide)⟩)
        replace H := ite_f q60 H
        refine ls_know (c := true) (congrArg Bool.not (dec_f q60)) 26 (by kernel_rfl) ?_
        refine lofx 2 26 false true ?_
        refine lofx 2 26 false true ?_
        refine lv (.bool true) ?_
        refine ls_end ?_
        refine qn_then ?_
        refine cs_true (by kernel_rfl) ?_
        refine cs_seq ?_
        refine cs_region (l := [_, _, _, _]) ?_
        refine lv (.pointer (some ⟨pg0, 0, none⟩)) ?_
        refine lv (.pointer (some ⟨pg0, 0, none⟩)) ?_
        refine lv (.pointer (some ⟨pg0, (0 + 1), none⟩)) ?_
        refine ls_storec (g := pg0) (off := (0 + 1)) (v := .bool true) (vs := [Value.bool true]) (cs := ([Value.slice xA46 xl50.length xc47] ++ [Value.bool v0.2])) (ty := 89) 0 rfl rfl rfl (by kernel_rfl) (by kernel_rfl) (by kernel_rfl) (by exact rfl) (by kernel_rfl) (len1 _) (one_cons rfl one_nil) (hl_of (Sub4.trans (Sub4.all _) (Sub4.skip (n := 1) (len1 _) (Sub4.all _))) (len_eq (len1 _) (len1 _))) (cs' := ([Value.slice xA46 xl50.length xc47] ++ [Value.bool true])) (splc_in (Sub4.all _) (splc_skip (n := 1) (len1 _) (splc_all (len_eq (len1 _) (len1 _)))) (splc_all (len_eq (len_app (len1 _) (len1 _)) (len_app (len1 _) (len1 _)))) (hl_of (Sub4.skip (n := 1) (len1 _) (Sub4.all _)) (len_eq (len1 _) (len1 _)))) ?_
        refine ls_end ?_
        refine qn_then ?_
        refine cs_ret' ?_
        refine qr_then ?_
        refine qr_block ?_
        refine qr_then ?_
        refine qr_then ?_
        refine qr_block ?_
        obtain rfl := Option.some.inj H
        refine qr_res (rs := []) rfl (fun w' hs => ⟨[], (.nil), (xA46, xc47), rfl, ⟨xR48, xC49⟩, hs.pick (ts := [0, 1]) (cs := [Ck.var 89 pg0 (([Value.slice xA46 xl50.length xc47] ++ [Value.bool true])), Ck.var 51 pg1_0 (([Value.int .i64 (IntKind.wrap .i64 t3.1)] ++ ([Value.int .i64 (IntKind.wrap .i64 t21.1)] ++ ([Value.int .i64 (IntKind.wrap .i64 t39.1)] ++ ([Value.int .i64 v1_0.2.2.2.1] ++ ([Value.string v1_0.2.2.2.2.1] ++ ([Value.string v1_0.2.2.2.2.2.1] ++ [Value.slice A1_0_6 v1_0.2.2.2.2.2.2.length c1_0_6])))))))]) ⟨by exact rfl, by exact rfl, trivial⟩ (by decide)⟩)
      replace H := ite_f q42 H
      refine ls_know (c := true) (congrArg Bool.not (dec_f q42)) 26 (by kernel_rfl) ?_
      refine lofx 2 26 false true ?_
      refine lofx 2 26 false true ?_
      refine lv (.bool true) ?_
      refine ls_end ?_
      refine qn_then ?_
      refine cs_true (by kernel_rfl) ?_
      refine cs_seq ?_
      refine cs_region (l := [_, _, _, _]) ?_
      refine lv (.pointer (some ⟨pg0, 0, none⟩)) ?_
      refine lv (.pointer (some ⟨pg0, 0, none⟩)) ?_
      refine lv (.pointer (some ⟨pg0, (0 + 1), none⟩)) ?_
      refine ls_storec (g := pg0) (off := (0 + 1)) (v := .bool true) (vs := [Value.bool true]) (cs := ([Value.slice xA28 xl32.length xc29] ++ [Value.bool v0.2])) (ty := 89) 0 rfl rfl rfl (by kernel_rfl) (by kernel_rfl) (by kernel_rfl) (by exact rfl) (by kernel_rfl) (len1 _) (one_cons rfl one_nil) (hl_of (Sub4.trans (Sub4.all _) (Sub4.skip (n := 1) (len1 _) (Sub4.all _))) (len_eq (len1 _) (len1 _))) (cs' := ([Value.slice xA28 xl32.length xc29] ++ [Value.bool true])) (splc_in (Sub4.all _) (splc_skip (n := 1) (len1 _) (splc_all (len_eq (len1 _) (len1 _)))) (splc_all (len_eq (len_app (len1 _) (len1 _)) (len_app (len1 _) (len1 _)))) (hl_of (Sub4.skip (n := 1) (len1 _) (Sub4.all _)) (len_eq (len1 _) (len1 _)))) ?_
      refine ls_end ?_
      refine qn_then ?_
      refine cs_ret' ?_
      refine qr_then ?_
      refine qr_block ?_
      refine qr_then ?_
      refine qr_then ?_
      refine qr_block ?_
      obtain rfl := Option.some.inj H
      refine qr_res (rs := []) rfl (fun w' hs => ⟨[], (.nil), (xA28, xc29), rfl, ⟨xR30, xC31⟩, hs.pick (ts := [0, 1]) (cs := [Ck.var 89 pg0 (([Value.slice xA28 xl32.length xc29] ++ [Value.bool true])), Ck.var 51 pg1_0 (([Value.int .i64 (IntKind.wrap .i64 t3.1)] ++ ([Value.int .i64 (IntKind.wrap .i64 t21.1)] ++ ([Value.int .i64 v1_0.2.2.1] ++ ([Value.int .i64 v1_0.2.2.2.1] ++ ([Value.string v1_0.2.2.2.2.1] ++ ([Value.string v1_0.2.2.2.2.2.1] ++ [Value.slice A1_0_6 v1_0.2.2.2.2.2.2.length c1_0_6])))))))]) ⟨by exact rfl, by exact rfl, trivial⟩ (by decide)⟩)
    replace H := ite_f q24 H
    refine ls_know (c := true) (congrArg Bool.not (dec_f q24)) 26 (by kernel_rfl) ?_
    refine lofx 2 26 false true ?_
    refine lofx 2 26 false true ?_
    refine lv (.bool true) ?_
    refine ls_end ?_
    refine qn_then ?_
    refine cs_true (by kernel_rfl) ?_
    refine cs_seq ?_
    refine cs_region (l := [_, _, _, _]) ?_
    refine lv (.pointer (some ⟨pg0, 0, none⟩)) ?_
    refine lv (.pointer (some ⟨pg0, 0, none⟩)) ?_
    refine lv (.pointer (some ⟨pg0, (0 + 1), none⟩)) ?_
    refine ls_storec (g := pg0) (off := (0 + 1)) (v := .bool true) (vs := [Value.bool true]) (cs := ([Value.slice xA10 xl14.length xc11] ++ [Value.bool v0.2])) (ty := 89) 0 rfl rfl rfl (by kernel_rfl) (by kernel_rfl) (by kernel_rfl) (by exact rfl) (by kernel_rfl) (len1 _) (one_cons rfl one_nil) (hl_of (Sub4.trans (Sub4.all _) (Sub4.skip (n := 1) (len1 _) (Sub4.all _))) (len_eq (len1 _) (len1 _))) (cs' := ([Value.slice xA10 xl14.length xc11] ++ [Value.bool true])) (splc_in (Sub4.all _) (splc_skip (n := 1) (len1 _) (splc_all (len_eq (len1 _) (len1 _)))) (splc_all (len_eq (len_app (len1 _) (len1 _)) (len_app (len1 _) (len1 _)))) (hl_of (Sub4.skip (n := 1) (len1 _) (Sub4.all _)) (len_eq (len1 _) (len1 _)))) ?_
    refine ls_end ?_
    refine qn_then ?_
    refine cs_ret' ?_
    refine qr_then ?_
    refine qr_block ?_
    refine qr_then ?_
    refine qr_then ?_
    refine qr_block ?_
    obtain rfl := Option.some.inj H
    refine qr_res (rs := []) rfl (fun w' hs => ⟨[], (.nil), (xA10, xc11), rfl, ⟨xR12, xC13⟩, hs.pick (ts := [0, 1]) (cs := [Ck.var 89 pg0 (([Value.slice xA10 xl14.length xc11] ++ [Value.bool true])), Ck.var 51 pg1_0 (([Value.int .i64 (IntKind.wrap .i64 t3.1)] ++ ([Value.int .i64 v1_0.2.1] ++ ([Value.int .i64 v1_0.2.2.1] ++ ([Value.int .i64 v1_0.2.2.2.1] ++ ([Value.string v1_0.2.2.2.2.1] ++ ([Value.string v1_0.2.2.2.2.2.1] ++ [Value.slice A1_0_6 v1_0.2.2.2.2.2.2.length c1_0_6])))))))]) ⟨by exact rfl, by exact rfl, trivial⟩ (by decide)⟩)
  replace H := ite_f q6 H
  refine ls_know (c := true) (congrArg Bool.not (dec_f q6)) 26 (by kernel_rfl) ?_
  refine lofx 2 26 false true ?_
  refine lofx 2 26 false true ?_
  refine lv (.bool true) ?_
  refine ls_end ?_
  refine qn_then ?_
  refine cs_true (by kernel_rfl) ?_
  refine cs_seq ?_
  refine cs_region (l := [_, _, _, _]) ?_
  refine lv (.pointer (some ⟨pg0, 0, none⟩)) ?_
  refine lv (.pointer (some ⟨pg0, 0, none⟩)) ?_
  refine lv (.pointer (some ⟨pg0, (0 + 1), none⟩)) ?_
  refine ls_storec (g := pg0) (off := (0 + 1)) (v := .bool true) (vs := [Value.bool true]) (cs := ([Value.slice A0_0 v0.1.length c0_0] ++ [Value.bool v0.2])) (ty := 89) 0 rfl rfl rfl (by kernel_rfl) (by kernel_rfl) (by kernel_rfl) (by exact rfl) (by kernel_rfl) (len1 _) (one_cons rfl one_nil) (hl_of (Sub4.trans (Sub4.all _) (Sub4.skip (n := 1) (len1 _) (Sub4.all _))) (len_eq (len1 _) (len1 _))) (cs' := ([Value.slice A0_0 v0.1.length c0_0] ++ [Value.bool true])) (splc_in (Sub4.all _) (splc_skip (n := 1) (len1 _) (splc_all (len_eq (len1 _) (len1 _)))) (splc_all (len_eq (len_app (len1 _) (len1 _)) (len_app (len1 _) (len1 _)))) (hl_of (Sub4.skip (n := 1) (len1 _) (Sub4.all _)) (len_eq (len1 _) (len1 _)))) ?_
  refine ls_end ?_
  refine qn_then ?_
  refine cs_ret' ?_
  refine qr_then ?_
  refine qr_block ?_
  refine qr_then ?_
  refine qr_then ?_
  refine qr_block ?_
  obtain rfl := Option.some.inj H
  refine qr_res (rs := []) rfl (fun w' hs => ⟨[], (.nil), (A0_0, c0_0), rfl, ⟨R0_0, C0_0⟩, hs.pick (ts := [0, 1]) (cs := [Ck.var 89 pg0 (([Value.slice A0_0 v0.1.length c0_0] ++ [Value.bool true])), Ck.var 51 pg1_0 (([Value.int .i64 v1_0.1] ++ ([Value.int .i64 v1_0.2.1] ++ ([Value.int .i64 v1_0.2.2.1] ++ ([Value.int .i64 v1_0.2.2.2.1] ++ ([Value.string v1_0.2.2.2.2.1] ++ ([Value.string v1_0.2.2.2.2.2.1] ++ [Value.slice A1_0_6 v1_0.2.2.2.2.2.2.length c1_0_6])))))))]) ⟨by exact rfl, by exact rfl, trivial⟩ (by decide)⟩)

/-! ### (*shadowbox/record.reader).texts, specialized: function 44 -/
def record_reader_texts_sits_0f4_0f5.f (k : Nat) (v0 : ((List Int) × Bool)) (v1_0 : (Int × Int × Int × Int × ByteArray × ByteArray × (List (ByteArray × ByteArray)))) : Option (((List Int) × Bool) × (Int × Int × Int × Int × ByteArray × ByteArray × (List (ByteArray × ByteArray)))) :=
  (codec_ReadText.f k v0.1 (400 : Int)).bind fun t3 => (if v0.2 = true then (if 0 ≤ t3.2.1 then (if t3.2.1 ≤ (v0.1.length : Int) then lt (v0.1.drop (t3.2.1).toNat) fun xl13 => (codec_ReadText.f k xl13 (400 : Int)).bind fun t20 => (if 0 ≤ t20.2.1 then (if t20.2.1 ≤ (xl13.length : Int) then lt (xl13.drop (t20.2.1).toNat) fun xl29 => some ((xl29, true), (v1_0.1, v1_0.2.1, v1_0.2.2.1, v1_0.2.2.2.1, t3.1, t20.1, v1_0.2.2.2.2.2.2)) else none) else none) else none) else none) else (if 0 ≤ t3.2.1 then (if t3.2.1 ≤ (v0.1.length : Int) then lt (v0.1.drop (t3.2.1).toNat) fun xl40 => (codec_ReadText.f k xl40 (400 : Int)).bind fun t47 => (if (!decide (t3.2.2 = (0 : Int))) = true then (if 0 ≤ t47.2.1 then (if t47.2.1 ≤ (xl40.length : Int) then lt (xl40.drop (t47.2.1).toNat) fun xl57 => some ((xl57, true), (v1_0.1, v1_0.2.1, v1_0.2.2.1, v1_0.2.2.2.1, t3.1, t47.1, v1_0.2.2.2.2.2.2)) else none) else none) else (if 0 ≤ t47.2.1 then (if t47.2.1 ≤ (xl40.length : Int) then lt (xl40.drop (t47.2.1).toNat) fun xl68 => some ((xl68, !decide (t47.2.2 = (0 : Int))), (v1_0.1, v1_0.2.1, v1_0.2.2.1, v1_0.2.2.2.1, t3.1, t47.1, v1_0.2.2.2.2.2.2)) else none) else none)) else none) else none))
set_option maxRecDepth 100000 in
set_option maxHeartbeats 4000000 in
theorem record_reader_texts_sits_0f4_0f5.calls (k : Nat) (pg0 : Nat) (A0_0 : Option Addr) (c0_0 : Nat) (v0 : ((List Int) × Bool)) (pg1_0 : Nat) (A1_0_6 : Option Addr) (c1_0_6 : Nat) (v1_0 : (Int × Int × Int × Int × ByteArray × ByteArray × (List (ByteArray × ByteArray)))) (A1 : Option Addr) (c1 : Nat) (r : ((List Int) × Bool) × (Int × Int × Int × Int × ByteArray × ByteArray × (List (ByteArray × ByteArray)))) (b : Bs) (hs0 : St b (stl [Ck.var 89 pg0 (([Value.slice A0_0 v0.1.length c0_0] ++ [Value.bool v0.2])), Ck.var 51 pg1_0 (([Value.int .i64 v1_0.1] ++ ([Value.int .i64 v1_0.2.1] ++ ([Value.int .i64 v1_0.2.2.1] ++ ([Value.int .i64 v1_0.2.2.2.1] ++ ([Value.string v1_0.2.2.2.2.1] ++ ([Value.string v1_0.2.2.2.2.2.1] ++ [Value.slice A1_0_6 v1_0.2.2.2.2.2.2.length c1_0_6])))))))]) b.w) (R0_0 : Ro b A0_0 (em (Ec.int 5 .u8) v0.1)) (C0_0 : v0.1.length ≤ c0_0) (R1_0_6 : Ro b A1_0_6 (em T67 v1_0.2.2.2.2.2.2)) (C1_0_6 : v1_0.2.2.2.2.2.2.length ≤ c1_0_6) (R1 : Ro b A1 (em (Ec.ptr 93) [(some (pg1_0, (0 + 4))), (some (pg1_0, (0 + 5)))])) (C1 : [(some (pg1_0, (0 + 4))), (some (pg1_0, (0 + 5)))].length ≤ c1) (H : record_reader_texts_sits_0f4_0f5.f k v0 v1_0 = some r) :
    Calls Try.prog 44 #[.pointer (some ⟨pg0, 0, none⟩), .slice A1 [(some (pg1_0, (0 + 4))), (some (pg1_0, (0 + 5)))].length c1] b.w fun e w' => ∃ x : (Option Addr × Nat), e = .returned (.tuple #[]) ∧ ((Ro b x.1 (em (Ec.int 5 .u8) r.1.1) ∧ r.1.1.length ≤ x.2)) ∧ St b (stl [Ck.var 89 pg0 (([Value.slice x.1 r.1.1.length x.2] ++ [Value.bool r.1.2])), Ck.var 51 pg1_0 (([Value.int .i64 r.2.1] ++ ([Value.int .i64 r.2.2.1] ++ ([Value.int .i64 r.2.2.2.1] ++ ([Value.int .i64 r.2.2.2.2.1] ++ ([Value.string r.2.2.2.2.2.1] ++ ([Value.string r.2.2.2.2.2.2.1] ++ [Value.slice A1_0_6 v1_0.2.2.2.2.2.2.length c1_0_6])))))))]) w' := by
  unfold record_reader_texts_sits_0f4_0f5.f at H
  refine enterb (n := 48) Try.func44 rfl (by kernel_rfl) (by kernel_rfl) hs0 ?_
  refine cs_sub (sput (sput s0 0 (some (Ck.var 89 pg0 (([Value.slice A0_0 v0.1.length c0_0] ++ [Value.bool v0.2]))))) 1 (some (Ck.var 51 pg1_0 (([Value.int .i64 v1_0.1] ++ ([Value.int .i64 v1_0.2.1] ++ ([Value.int .i64 v1_0.2.2.1] ++ ([Value.int .i64 v1_0.2.2.2.1] ++ ([Value.string v1_0.2.2.2.2.1] ++ ([Value.string v1_0.2.2.2.2.2.1] ++ [Value.slice A1_0_6 v1_0.2.2.2.2.2.2.length c1_0_6])))))))))) (sub_put (by exact rfl) (sub_put (by exact rfl) (sub_nil _))) ?_
  refine cs_seq ?_
  refine cs_region (l := [_, _, _]) ?_
  refine lv (.slice A1 [(some (pg1_0, (0 + 4))), (some (pg1_0, (0 + 5)))].length c1) ?_
  refine lv (.int .i64 (2 : Int)) ?_
  refine lv (.int .i64 (0 : Int)) ?_
  refine ls_end ?_
  refine qn_then ?_
  refine cs_block ?_
  refine cs_rounds 3 ?_
  refine rs_succ ?_
  refine cs_seq ?_
  refine cs_region (l := [_]) ?_
  refine lv (.bool true) ?_
  refine ls_end ?_
  refine qn_then ?_
  refine cs_seq ?_
  refine cs_true (by kernel_rfl) ?_
  refine cs_skip' ?_
  refine qn_then ?_
  refine cs_seq ?_
  refine cs_block ?_
  refine cs_seq ?_
  refine cs_region (l := [_, _, _]) ?_
  obtain ⟨ad1, hA2⟩ := ido_at (T := (Ec.ptr 93)) (l := ([(some (pg1_0, (0 + 4))), (some (pg1_0, (0 + 5)))])) (i := (0 : Int)) R1 (by decide) (show (0 : Int) < (([(some (pg1_0, (0 + 4))), (some (pg1_0, (0 + 5)))]).length : Int) from of_decide_eq_true (by kernel_rfl))
  refine ls_idxv (Ec.ptr 93) (A := A1) (c := c1) (l := [(some (pg1_0, (0 + 4))), (some (pg1_0, (0 + 5)))]) (k := .i64) (i := (0 : Int)) (z := 1) (ad := ad1) rfl rfl (by kernel_rfl) hA2 rfl (by kernel_rfl) (by kernel_rfl) (by kernel_rfl) (by kernel_rfl) (by decide) (show (0 : Int) < (([(some (pg1_0, (0 + 4))), (some (pg1_0, (0 + 5)))]).length : Int) from of_decide_eq_true (by kernel_rfl)) ?_
  refine ls_load (a0 := (ad1.add (((0 : Int)).toNat * 1))) (v := .pointer (some ⟨pg1_0, (0 + 4), none⟩)) (de := (TypeDesc.pointer 9)) rfl rfl (by kernel_rfl) rfl (by kernel_rfl) (by kernel_rfl) (by kernel_rfl) (fun w hs => (hs.old R1).at hA2 (em_sub (Ec.ptr 93) ([(some (pg1_0, (0 + 4))), (some (pg1_0, (0 + 5)))]) (i := ((0 : Int)).toNat) (by have h0 : (0 : Int) ≤ (0 : Int) := (by decide); have h1 : (0 : Int) < (([(some (pg1_0, (0 + 4))), (some (pg1_0, (0 + 5)))]).length : Int) := (show (0 : Int) < (([(some (pg1_0, (0 + 4))), (some (pg1_0, (0 + 5)))]).length : Int) from of_decide_eq_true (by kernel_rfl)); omega))) ?_
  refine lv (.pointer (some ⟨pg1_0, (0 + 4), none⟩)) ?_
  refine ls_end ?_
  refine qn_then ?_
  refine cs_seq ?_
  refine cs_region (l := [_, _, _, _, _, _, _, _, _, _, _, _]) ?_
  refine lv (.pointer (some ⟨pg0, 0, none⟩)) ?_
  refine lv (.pointer (some ⟨pg0, 0, none⟩)) ?_
  refine lv (.pointer (some ⟨pg0, (0 + 0), none⟩)) ?_
  refine ls_load (a0 := ⟨pg0, (0 + 0), none⟩) (v := .slice A0_0 v0.1.length c0_0) (de := (TypeDesc.slice 5)) rfl rfl (by kernel_rfl) rfl (by kernel_rfl) (by kernel_rfl) (by kernel_rfl) (fun w hs => (hs.var (k := 0) (by exact rfl) (Sub4.trans (Sub4.all _) (Sub4.head _ _)))) ?_
  obtain ⟨t3, hc4, H⟩ := bind_some H
  refine ls_callb (fid := 58) (vals := #[.slice A0_0 v0.1.length c0_0, .int .i64 (400 : Int)]) (X := Unit) (fun x => .tuple #[.string t3.1, .int .i64 t3.2.1, .int .i64 t3.2.2]) (fun x => stl []) [] [] [] [] 2 rfl rfl (by kernel_rfl) (fun w => by kernel_rfl) trivial trivial (by decide) (fun w hs hb => codec_ReadText.calls k A0_0 c0_0 v0.1 (400 : Int) t3 (lent b w [] []) hb (hs.ro R0_0 _ _) C0_0 hc4) ?_
  intro x5
  refine lv (.tuple #[.string t3.1, .int .i64 t3.2.1, .int .i64 t3.2.2]) ?_
  refine lv (.string t3.1) ?_
  refine lv (.int .i64 t3.2.1) ?_
  refine lv (.int .i64 t3.2.2) ?_
  refine lv (.string t3.1) ?_
  refine lv (.int .i64 t3.2.1) ?_
  refine lv (.int .i64 t3.2.2) ?_
  refine ls_end ?_
  refine qn_then ?_
  refine cs_seq ?_
  refine cs_region (l := [_, _, _, _, _, _, _, _, _, _, _, _]) ?_
  refine lv (.pointer (some ⟨pg0, 0, none⟩)) ?_
  refine lv (.pointer (some ⟨pg0, 0, none⟩)) ?_
  refine lv (.pointer (some ⟨pg0, 0, none⟩)) ?_
  refine lv (.pointer (some ⟨pg0, (0 + 1), none⟩)) ?_
  refine ls_load (a0 := ⟨pg0, (0 + 1), none⟩) (v := .bool v0.2) (de := TypeDesc.bool) rfl rfl (by kernel_rfl) rfl (by kernel_rfl) (by kernel_rfl) (by kernel_rfl) (fun w hs => (hs.var (k := 0) (by exact rfl) (Sub4.trans (Sub4.all _) (Sub4.skip (n := 1) (len1 _) (Sub4.all _))))) ?_
  refine lv (.bool v0.2) ?_
  by_cases q6 : v0.2 = true
  · replace H := ite_t q6 H
    refine ls_know (c := true) (q6) 29 (by kernel_rfl) ?_
    refine lofx 5 29 false true ?_
    refine lofx 5 29 false true ?_
    refine lv (.bool true) ?_
    refine lv (.pointer (some ⟨pg0, 0, none⟩)) ?_
    refine lv (.pointer (some ⟨pg0, (0 + 1), none⟩)) ?_
    refine ls_storec (g := pg0) (off := (0 + 1)) (v := .bool true) (vs := [Value.bool true]) (cs := ([Value.slice A0_0 v0.1.length c0_0] ++ [Value.bool v0.2])) (ty := 89) 0 rfl rfl rfl (by kernel_rfl) (by kernel_rfl) (by kernel_rfl) (by exact rfl) (by kernel_rfl) (len1 _) (one_cons rfl one_nil) (hl_of (Sub4.trans (Sub4.all _) (Sub4.skip (n := 1) (len1 _) (Sub4.all _))) (len_eq (len1 _) (len1 _))) (cs' := ([Value.slice A0_0 v0.1.length c0_0] ++ [Value.bool true])) (splc_in (Sub4.all _) (splc_skip (n := 1) (len1 _) (splc_all (len_eq (len1 _) (len1 _)))) (splc_all (len_eq (len_app (len1 _) (len1 _)) (len_app (len1 _) (len1 _)))) (hl_of (Sub4.skip (n := 1) (len1 _) (Sub4.all _)) (len_eq (len1 _) (len1 _)))) ?_
    refine ls_end ?_
    refine qn_then ?_
    refine cs_seq ?_
    refine cs_region (l := [_, _, _, _]) ?_
    refine lv (.pointer (some ⟨pg1_0, (0 + 4), none⟩)) ?_
    refine lv (.string t3.1) ?_
    refine lv (.pointer (some ⟨pg1_0, (0 + 4), none⟩)) ?_
    refine ls_storec (g := pg1_0) (off := (0 + 4)) (v := .string t3.1) (vs := [Value.string t3.1]) (cs := ([Value.int .i64 v1_0.1] ++ ([Value.int .i64 v1_0.2.1] ++ ([Value.int .i64 v1_0.2.2.1] ++ ([Value.int .i64 v1_0.2.2.2.1] ++ ([Value.string v1_0.2.2.2.2.1] ++ ([Value.string v1_0.2.2.2.2.2.1] ++ [Value.slice A1_0_6 v1_0.2.2.2.2.2.2.length c1_0_6]))))))) (ty := 51) 1 rfl rfl rfl (by kernel_rfl) (by kernel_rfl) (by kernel_rfl) (by exact rfl) (by kernel_rfl) (len1 _) (one_cons rfl one_nil) (hl_of (Sub4.trans (Sub4.all _) (Sub4.skip (n := 1) (len1 _) (Sub4.skip (n := 1) (len1 _) (Sub4.skip (n := 1) (len1 _) (Sub4.skip (n := 1) (len1 _) (Sub4.head _ _)))))) (len_eq (len1 _) (len1 _))) (cs' := ([Value.int .i64 v1_0.1] ++ ([Value.int .i64 v1_0.2.1] ++ ([Value.int .i64 v1_0.2.2.1] ++ ([Value.int .i64 v1_0.2.2.2.1] ++ ([Value.string t3.1] ++ ([Value.string v1_0.2.2.2.2.2.1] ++ [Value.slice A1_0_6 v1_0.2.2.2.2.2.2.length c1_0_6]))))))) (splc_in (Sub4.all _) (splc_skip (n := 1) (len1 _) (splc_skip (n := 1) (len1 _) (splc_skip (n := 1) (len1 _) (splc_skip (n := 1) (len1 _) (splc_head (len_eq (len1 _) (len1 _))))))) (splc_all (len_eq (len_app (len1 _) (len_app (len1 _) (len_app (len1 _) (len_app (len1 _) (len_app (len1 _) (len_app (len1 _) (len1 _))))))) (len_app (len1 _) (len_app (len1 _) (len_app (len1 _) (len_app (len1 _) (len_app (len1 _) (len_app (len1 _) (len1 _))))))))) (hl_of (Sub4.skip (n := 1) (len1 _) (Sub4.skip (n := 1) (len1 _) (Sub4.skip (n := 1) (len1 _) (Sub4.skip (n := 1) (len1 _) (Sub4.head _ _))))) (len_eq (len1 _) (len1 _)))) ?_
    refine ls_end ?_
    refine qn_then ?_
    refine cs_region (l := [_, _, _, _, _, _, _, _, _, _]) ?_
    refine lv (.pointer (some ⟨pg0, 0, none⟩)) ?_
    refine lv (.pointer (some ⟨pg0, 0, none⟩)) ?_
    refine lv (.pointer (some ⟨pg0, 0, none⟩)) ?_
    refine lv (.pointer (some ⟨pg0, (0 + 0), none⟩)) ?_
    refine ls_load (a0 := ⟨pg0, (0 + 0), none⟩) (v := .slice A0_0 v0.1.length c0_0) (de := (TypeDesc.slice 5)) rfl rfl (by kernel_rfl) rfl (by kernel_rfl) (by kernel_rfl) (by kernel_rfl) (fun w hs => (hs.var (k := 0) (by exact rfl) (Sub4.trans (Sub4.all _) (Sub4.head _ _)))) ?_
    refine lv (.int .i64 t3.2.1) ?_
    obtain ⟨q7, H⟩ := ite_need H
    obtain ⟨q8, H⟩ := ite_need H
    obtain ⟨xl13, hy14, H⟩ := lt_some H
    have hz16 : (t3.2.1).toNat ≤ v0.1.length := by omega
    have hz17 : v0.1.length ≤ v0.1.length := by omega
    obtain ⟨xA9, xc10, he15, xC12, xR11⟩ := cut_at (A := A0_0) (c := c0_0) (l := v0.1) (Ec.int 5 .u8) ((t3.2.1).toNat) v0.1.length hz16 hz17 C0_0 R0_0 (m := xl13) (by rw [← hy14] <;> simp) (z := 1) rfl
    refine ls_cutv (A := A0_0) (c := c0_0) (m := v0.1.length) (z := 1) (e := 5) (a := (t3.2.1).toNat) (b := v0.1.length) rfl rfl (by kernel_rfl) rfl (by kernel_rfl) (by kernel_rfl) (by kernel_rfl) (.inr ⟨.i64, by rw [Int.toNat_of_nonneg (by first | assumption | omega)]; kernel_rfl⟩) (.inl ⟨rfl, rfl⟩) hz16 hz17 C0_0 he15 ?_
    refine lv (.pointer (some ⟨pg0, 0, none⟩)) ?_
    refine lv (.pointer (some ⟨pg0, (0 + 0), none⟩)) ?_
    refine ls_storec (g := pg0) (off := (0 + 0)) (v := .slice xA9 xl13.length xc10) (vs := [Value.slice xA9 xl13.length xc10]) (cs := ([Value.slice A0_0 v0.1.length c0_0] ++ [Value.bool true])) (ty := 89) 0 rfl rfl rfl (by kernel_rfl) (by kernel_rfl) (by kernel_rfl) (by exact rfl) (by kernel_rfl) (len1 _) (one_cons rfl one_nil) (hl_of (Sub4.trans (Sub4.all _) (Sub4.head _ _)) (len_eq (len1 _) (len1 _))) (cs' := ([Value.slice xA9 xl13.length xc10] ++ [Value.bool true])) (splc_in (Sub4.all _) (splc_head (len_eq (len1 _) (len1 _))) (splc_all (len_eq (len_app (len1 _) (len1 _)) (len_app (len1 _) (len1 _)))) (hl_of (Sub4.head _ _) (len_eq (len1 _) (len1 _)))) ?_
    refine ls_end ?_
    refine qn_block ?_
    refine qn_then ?_
    refine cs_region (l := [_, _]) ?_
    refine lv (.int .i64 (1 : Int)) ?_
    refine lv (.int .i64 (1 : Int)) ?_
    refine ls_end ?_
    refine qn_rounds ?_
    refine rs_succ ?_
    refine cs_seq ?_
    refine cs_region (l := [_]) ?_
    refine lv (.bool true) ?_
    refine ls_end ?_
    refine qn_then ?_
    refine cs_seq ?_
    refine cs_true (by kernel_rfl) ?_
    refine cs_skip' ?_
    refine qn_then ?_
    refine cs_seq ?_
    refine cs_block ?_
    refine cs_seq ?_
    refine cs_region (l := [_, _, _]) ?_
    obtain ⟨ad18, hA19⟩ := ido_at (T := (Ec.ptr 93)) (l := ([(some (pg1_0, (0 + 4))), (some (pg1_0, (0 + 5)))])) (i := (1 : Int)) R1 (by decide) (show (1 : Int) < (([(some (pg1_0, (0 + 4))), (some (pg1_0, (0 + 5)))]).length : Int) from of_decide_eq_true (by kernel_rfl))
    refine ls_idxv (Ec.ptr 93) (A := A1) (c := c1) (l := [(some (pg1_0, (0 + 4))), (some (pg1_0, (0 + 5)))]) (k := .i64) (i := (1 : Int)) (z := 1) (ad := ad18) rfl rfl (by kernel_rfl) hA19 rfl (by kernel_rfl) (by kernel_rfl) (by kernel_rfl) (by kernel_rfl) (by decide) (show (1 : Int) < (([(some (pg1_0, (0 + 4))), (some (pg1_0, (0 + 5)))]).length : Int) from of_decide_eq_true (by kernel_rfl)) ?_
    refine ls_load (a0 := (ad18.add (((1 : Int)).toNat * 1))) (v := .pointer (some ⟨pg1_0, (0 + 5), none⟩)) (de := (TypeDesc.pointer 9)) rfl rfl (by kernel_rfl) rfl (by kernel_rfl) (by kernel_rfl) (by kernel_rfl) (fun w hs => (hs.old R1).at hA19 (em_sub (Ec.ptr 93) ([(some (pg1_0, (0 + 4))), (some (pg1_0, (0 + 5)))]) (i := ((1 : Int)).toNat) (by have h0 : (0 : Int) ≤ (1 : Int) := (by decide); have h1 : (1 : Int) < (([(some (pg1_0, (0 + 4))), (some (pg1_0, (0 + 5)))]).length : Int) := (show (1 : Int) < (([(some (pg1_0, (0 + 4))), (some (pg1_0, (0 + 5)))]).length : Int) from of_decide_eq_true (by kernel_rfl)); omega))) ?_
    refine lv (.pointer (some ⟨pg1_0, (0 + 5), none⟩)) ?_
    refine ls_end ?_
    refine qn_then ?_
    refine cs_seq ?_
    refine cs_region (l := [_, _, _, _, _, _, _, _, _, _, _, _]) ?_
    refine lv (.pointer (some ⟨pg0, 0, none⟩)) ?_
    refine lv (.pointer (some ⟨pg0, 0, none⟩)) ?_
    refine lv (.pointer (some ⟨pg0, (0 + 0), none⟩)) ?_
    refine ls_load (a0 := ⟨pg0, (0 + 0), none⟩) (v := .slice xA9 xl13.length xc10) (de := (TypeDesc.slice 5)) rfl rfl (by kernel_rfl) rfl (by kernel_rfl) (by kernel_rfl) (by kernel_rfl) (fun w hs => (hs.var (k := 0) (by exact rfl) (Sub4.trans (Sub4.all _) (Sub4.head _ _)))) ?_
    obtain ⟨t20, hc21, H⟩ := bind_some H
    refine ls_callb (fid := 58) (vals := #[.slice xA9 xl13.length xc10, .int .i64 (400 : Int)]) (X := Unit) (fun x => .tuple #[.string t20.1, .int .i64 t20.2.1, .int .i64 t20.2.2]) (fun x => stl []) [] [] [] [] 2 rfl rfl (by kernel_rfl) (fun w => by kernel_rfl) trivial trivial (by decide) (fun w hs hb => codec_ReadText.calls k xA9 xc10 xl13 (400 : Int) t20 (lent b w [] []) hb (hs.ro xR11 _ _) xC12 hc21) ?_
    intro x22
    refine lv (.tuple #[.string t20.1, .int .i64 t20.2.1, .int .i64 t20.2.2]) ?_
    refine lv (.string t20.1) ?_
    refine lv (.int .i64 t20.2.1) ?_
    refine lv (.int .i64 t20.2.2) ?_
    refine lv (.string t20.1) ?_
    refine lv (.int .i64 t20.2.1) ?_
    refine lv (.int .i64 t20.2.2) ?_
    refine ls_end ?_
    refine qn_then ?_
    refine cs_seq ?_
    refine cs_region (l := [_, _, _, _, _, _, _, _, _, _, _, _]) ?_
    refine lv (.pointer (some ⟨pg0, 0, none⟩)) ?_
    refine lv (.pointer (some ⟨pg0, 0, none⟩)) ?_
    refine lv (.pointer (some ⟨pg0, 0, none⟩)) ?_
    refine lv (.pointer (some ⟨pg0, (0 + 1), none⟩)) ?_
    refine ls_load (a0 := ⟨pg0, (0 + 1), none⟩) (v := .bool true) (de := TypeDesc.bool) rfl rfl (by kernel_rfl) rfl (by kernel_rfl) (by kernel_rfl) (by kernel_rfl) (fun w hs => (hs.var (k := 0) (by exact rfl) (Sub4.trans (Sub4.all _) (Sub4.skip (n := 1) (len1 _) (Sub4.all _))))) ?_
    refine lv (.bool true) ?_
    refine lofx 5 29 false true ?_
    refine lofx 5 29 false true ?_
    refine lv (.bool true) ?_
    refine lv (.pointer (some ⟨pg0, 0, none⟩)) ?_
    refine lv (.pointer (some ⟨pg0, (0 + 1), none⟩)) ?_
    refine ls_storec (g := pg0) (off := (0 + 1)) (v := .bool true) (vs := [Value.bool true]) (cs := ([Value.slice xA9 xl13.length xc10] ++ [Value.bool true])) (ty := 89) 0 rfl rfl rfl (by kernel_rfl) (by kernel_rfl) (by kernel_rfl) (by exact rfl) (by kernel_rfl) (len1 _) (one_cons rfl one_nil) (hl_of (Sub4.trans (Sub4.all _) (Sub4.skip (n := 1) (len1 _) (Sub4.all _))) (len_eq (len1 _) (len1 _))) (cs' := ([Value.slice xA9 xl13.length xc10] ++ [Value.bool true])) (splc_in (Sub4.all _) (splc_skip (n := 1) (len1 _) (splc_all (len_eq (len1 _) (len1 _)))) (splc_all (len_eq (len_app (len1 _) (len1 _)) (len_app (len1 _) (len1 _)))) (hl_of (Sub4.skip (n := 1) (len1 _) (Sub4.all _)) (len_eq (len1 _) (len1 _)))) ?_
    refine ls_end ?_
    refine qn_then ?_
    refine cs_seq ?_
    refine cs_region (l := [_, _, _, _]) ?_
    refine lv (.pointer (some ⟨pg1_0, (0 + 5), none⟩)) ?_
    refine lv (.string t20.1) ?_
    refine lv (.pointer (some ⟨pg1_0, (0 + 5), none⟩)) ?_
    refine ls_storec (g := pg1_0) (off := (0 + 5)) (v := .string t20.1) (vs := [Value.string t20.1]) (cs := ([Value.int .i64 v1_0.1] ++ ([Value.int .i64 v1_0.2.1] ++ ([Value.int .i64 v1_0.2.2.1] ++ ([Value.int .i64 v1_0.2.2.2.1] ++ ([Value.string t3.1] ++ ([Value.string v1_0.2.2.2.2.2.1] ++ [Value.slice A1_0_6 v1_0.2.2.2.2.2.2.length c1_0_6]))))))) (ty := 51) 1 rfl rfl rfl (by kernel_rfl) (by kernel_rfl) (by kernel_rfl) (by exact rfl) (by kernel_rfl) (len1 _) (one_cons rfl one_nil) (hl_of (Sub4.trans (Sub4.all _) (Sub4.skip (n := 1) (len1 _) (Sub4.skip (n := 1) (len1 _) (Sub4.skip (n := 1) (len1 _) (Sub4.skip (n := 1) (len1 _) (Sub4.skip (n := 1) (len1 _) (Sub4.head _ _))))))) (len_eq (len1 _) (len1 _))) (cs' := ([Value.int .i64 v1_0.1] ++ ([Value.int .i64 v1_0.2.1] ++ ([Value.int .i64 v1_0.2.2.1] ++ ([Value.int .i64 v1_0.2.2.2.1] ++ ([Value.string t3.1] ++ ([Value.string t20.1] ++ [Value.slice A1_0_6 v1_0.2.2.2.2.2.2.length c1_0_6]))))))) (splc_in (Sub4.all _) (splc_skip (n := 1) (len1 _) (splc_skip (n := 1) (len1 _) (splc_skip (n := 1) (len1 _) (splc_skip (n := 1) (len1 _) (splc_skip (n := 1) (len1 _) (splc_head (len_eq (len1 _) (len1 _)))))))) (splc_all (len_eq (len_app (len1 _) (len_app (len1 _) (len_app (len1 _) (len_app (len1 _) (len_app (len1 _) (len_app (len1 _) (len1 _))))))) (len_app (len1 _) (len_app (len1 _) (len_app (len1 _) (len_app (len1 _) (len_app (len1 _) (len_app (len1 _) (len1 _))))))))) (hl_of (Sub4.skip (n := 1) (len1 _) (Sub4.skip (n := 1) (len1 _) (Sub4.skip (n := 1) (len1 _) (Sub4.skip (n := 1) (len1 _) (Sub4.skip (n := 1) (len1 _) (Sub4.head _ _)))))) (len_eq (len1 _) (len1 _)))) ?_
    refine ls_end ?_
    refine qn_then ?_
    refine cs_region (l := [_, _, _, _, _, _, _, _, _, _]) ?_
    refine lv (.pointer (some ⟨pg0, 0, none⟩)) ?_
    refine lv (.pointer (some ⟨pg0, 0, none⟩)) ?_
    refine lv (.pointer (some ⟨pg0, 0, none⟩)) ?_
    refine lv (.pointer (some ⟨pg0, (0 + 0), none⟩)) ?_
    refine ls_load (a0 := ⟨pg0, (0 + 0), none⟩) (v := .slice xA9 xl13.length xc10) (de := (TypeDesc.slice 5)) rfl rfl (by kernel_rfl) rfl (by kernel_rfl) (by kernel_rfl) (by kernel_rfl) (fun w hs => (hs.var (k := 0) (by exact rfl) (Sub4.trans (Sub4.all _) (Sub4.head _ _)))) ?_
    refine lv (.int .i64 t20.2.1) ?_
    obtain ⟨q23, H⟩ := ite_need H
    obtain ⟨q24, H⟩ := ite_need H
    obtain ⟨xl29, hy30, H⟩ := lt_some H
    have hz32 : (t20.2.1).toNat ≤ xl13.length := by omega
    have hz33 : xl13.length ≤ xl13.length := by omega
    obtain ⟨xA25, xc26, he31, xC28, xR27⟩ := cut_at (A := xA9) (c := xc10) (l := xl13) (Ec.int 5 .u8) ((t20.2.1).toNat) xl13.length hz32 hz33 xC12 xR11 (m := xl29) (by rw [← hy30] <;> simp) (z := 1) rfl
    refine ls_cutv (A := xA9) (c := xc10) (m := xl13.length) (z := 1) (e := 5) (a := (t20.2.1).toNat) (b := xl13.length) rfl rfl (by kernel_rfl) rfl (by kernel_rfl) (by kernel_rfl) (by kernel_rfl) (.inr ⟨.i64, by rw [Int.toNat_of_nonneg (by first | assumption | omega)]; kernel_rfl⟩) (.inl ⟨rfl, rfl⟩) hz32 hz33 xC12 he31 ?_
    refine lv (.pointer (some ⟨pg0, 0, none⟩)) ?_
    refine lv (.pointer (some ⟨pg0, (0 + 0), none⟩)) ?_
    refine ls_storec (g := pg0) (off := (0 + 0)) (v := .slice xA25 xl29.length xc26) (vs := [Value.slice xA25 xl29.length xc26]) (cs := ([Value.slice xA9 xl13.length xc10] ++ [Value.bool true])) (ty := 89) 0 rfl rfl rfl (by kernel_rfl) (by kernel_rfl) (by kernel_rfl) (by exact rfl) (by kernel_rfl) (len1 _) (one_cons rfl one_nil) (hl_of (Sub4.trans (Sub4.all _) (Sub4.head _ _)) (len_eq (len1 _) (len1 _))) (cs' := ([Value.slice xA25 xl29.length xc26] ++ [Value.bool true])) (splc_in (Sub4.all _) (splc_head (len_eq (len1 _) (len1 _))) (splc_all (len_eq (len_app (len1 _) (len1 _)) (len_app (len1 _) (len1 _)))) (hl_of (Sub4.head _ _) (len_eq (len1 _) (len1 _)))) ?_
    refine ls_end ?_
    refine qn_block ?_
    refine qn_then ?_
    refine cs_region (l := [_, _]) ?_
    refine lv (.int .i64 (2 : Int)) ?_
    refine lv (.int .i64 (2 : Int)) ?_
    refine ls_end ?_
    refine qn_rounds ?_
    refine rs_succ ?_
    refine cs_seq ?_
    refine cs_region (l := [_]) ?_
    refine lv (.bool false) ?_
    refine ls_end ?_
    refine qn_then ?_
    refine cs_seq ?_
    refine cs_false (by kernel_rfl) ?_
    refine cs_exit' ?_
    refine qx_then ?_
    refine qx_then ?_
    refine qx_same ?_
    obtain rfl := Option.some.inj H
    refine qn_res (rs := []) rfl (fun w' hs => ⟨[], (.nil), (xA25, xc26), rfl, ⟨xR27, xC28⟩, hs.pick (ts := [0, 1]) (cs := [Ck.var 89 pg0 (([Value.slice xA25 xl29.length xc26] ++ [Value.bool true])), Ck.var 51 pg1_0 (([Value.int .i64 v1_0.1] ++ ([Value.int .i64 v1_0.2.1] ++ ([Value.int .i64 v1_0.2.2.1] ++ ([Value.int .i64 v1_0.2.2.2.1] ++ ([Value.string t3.1] ++ ([Value.string t20.1] ++ [Value.slice A1_0_6 v1_0.2.2.2.2.2.2.length c1_0_6])))))))]) ⟨by exact rfl, by exact rfl, trivial⟩ (by decide)⟩)
  replace H := ite_f q6 H
  refine ls_know (c := false) (Bool.eq_false_iff.mpr q6) 29 (by kernel_rfl) ?_
  refine ls_on (j := 5) (t := 29) (b := false) rfl rfl (by kernel_rfl) (by kernel_rfl) ?_
  refine lv (.int .i64 t3.2.2) ?_
  refine ls_on (j := 5) (t := 29) (b := false) rfl rfl (by kernel_rfl) (by kernel_rfl) ?_
  refine lv (.bool (!decide (t3.2.2 = (0 : Int)))) ?_
  refine lv (.bool (!decide (t3.2.2 = (0 : Int)))) ?_
  refine lv (.pointer (some ⟨pg0, 0, none⟩)) ?_
  refine lv (.pointer (some ⟨pg0, (0 + 1), none⟩)) ?_
  refine ls_storec (g := pg0) (off := (0 + 1)) (v := .bool (!decide (t3.2.2 = (0 : Int)))) (vs := [Value.bool (!decide (t3.2.2 = (0 : Int)))]) (cs := ([Value.slice A0_0 v0.1.length c0_0] ++ [Value.bool v0.2])) (ty := 89) 0 rfl rfl rfl (by kernel_rfl) (by kernel_rfl) (by kernel_rfl) (by exact rfl) (by kernel_rfl) (len1 _) (one_cons rfl one_nil) (hl_of (Sub4.trans (Sub4.all _) (Sub4.skip (n := 1) (len1 _) (Sub4.all _))) (len_eq (len1 _) (len1 _))) (cs' := ([Value.slice A0_0 v0.1.length c0_0] ++ [Value.bool (!decide (t3.2.2 = (0 : Int)))])) (splc_in (Sub4.all _) (splc_skip (n := 1) (len1 _) (splc_all (len_eq (len1 _) (len1 _)))) (splc_all (len_eq (len_app (len1 _) (len1 _)) (len_app (len1 _) (len1 _)))) (hl_of (Sub4.skip (n := 1) (len1 _) (Sub4.all _)) (len_eq (len1 _) (len1 _)))) ?_
  refine ls_end ?_
  refine qn_then ?_
  refine cs_seq ?_
  refine cs_region (l := [_, _, _, _]) ?_
  refine lv (.pointer (some ⟨pg1_0, (0 + 4), none⟩)) ?_
  refine lv (.string t3.1) ?_
  refine lv (.pointer (some ⟨pg1_0, (0 + 4), none⟩)) ?_
  refine ls_storec (g := pg1_0) (off := (0 + 4)) (v := .string t3.1) (vs := [Value.string t3.1]) (cs := ([Value.int .i64 v1_0.1] ++ ([Value.int .i64 v1_0.2.1] ++ ([Value.int .i64 v1_0.2.2.1] ++ ([Value.int .i64 v1_0.2.2.2.1] ++ ([Value.string v1_0.2.2.2.2.1] ++ ([Value.string v1_0.2.2.2.2.2.1] ++ [Value.slice A1_0_6 v1_0.2.2.2.2.2.2.length c1_0_6]))))))) (ty := 51) 1 rfl rfl rfl (by kernel_rfl) (by kernel_rfl) (by kernel_rfl) (by exact rfl) (by kernel_rfl) (len1 _) (one_cons rfl one_nil) (hl_of (Sub4.trans (Sub4.all _) (Sub4.skip (n := 1) (len1 _) (Sub4.skip (n := 1) (len1 _) (Sub4.skip (n := 1) (len1 _) (Sub4.skip (n := 1) (len1 _) (Sub4.head _ _)))))) (len_eq (len1 _) (len1 _))) (cs' := ([Value.int .i64 v1_0.1] ++ ([Value.int .i64 v1_0.2.1] ++ ([Value.int .i64 v1_0.2.2.1] ++ ([Value.int .i64 v1_0.2.2.2.1] ++ ([Value.string t3.1] ++ ([Value.string v1_0.2.2.2.2.2.1] ++ [Value.slice A1_0_6 v1_0.2.2.2.2.2.2.length c1_0_6]))))))) (splc_in (Sub4.all _) (splc_skip (n := 1) (len1 _) (splc_skip (n := 1) (len1 _) (splc_skip (n := 1) (len1 _) (splc_skip (n := 1) (len1 _) (splc_head (len_eq (len1 _) (len1 _))))))) (splc_all (len_eq (len_app (len1 _) (len_app (len1 _) (len_app (len1 _) (len_app (len1 _) (len_app (len1 _) (len_app (len1 _) (len1 _))))))) (len_app (len1 _) (len_app (len1 _) (len_app (len1 _) (len_app (len1 _) (len_app (len1 _) (len_app (len1 _) (len1 _))))))))) (hl_of (Sub4.skip (n := 1) (len1 _) (Sub4.skip (n := 1) (len1 _) (Sub4.skip (n := 1) (len1 _) (Sub4.skip (n := 1) (len1 _) (Sub4.head _ _))))) (len_eq (len1 _) (len1 _)))) ?_
  refine ls_end ?_
  refine qn_then ?_
  refine cs_region (l := [_, _, _, _, _, _, _, _, _, _]) ?_
  refine lv (.pointer (some ⟨pg0, 0, none⟩)) ?_
  refine lv (.pointer (some ⟨pg0, 0, none⟩)) ?_
  refine lv (.pointer (some ⟨pg0, 0, none⟩)) ?_
  refine lv (.pointer (some ⟨pg0, (0 + 0), none⟩)) ?_
  refine ls_load (a0 := ⟨pg0, (0 + 0), none⟩) (v := .slice A0_0 v0.1.length c0_0) (de := (TypeDesc.slice 5)) rfl rfl (by kernel_rfl) rfl (by kernel_rfl) (by kernel_rfl) (by kernel_rfl) (fun w hs => (hs.var (k := 0) (by exact rfl) (Sub4.trans (Sub4.all _) (Sub4.head _ _)))) ?_
  refine lv (.int .i64 t3.2.1) ?_
  obtain ⟨q34, H⟩ := ite_need H
  obtain ⟨q35, H⟩ := ite_need H
  obtain ⟨xl40, hy41, H⟩ := lt_some H
  have hz43 : (t3.2.1).toNat ≤ v0.1.length := by omega
  have hz44 : v0.1.length ≤ v0.1.length := by omega
  obtain ⟨xA36, xc37, he42, xC39, xR38⟩ := cut_at (A := A0_0) (c := c0_0) (l := v0.1) (Ec.int 5 .u8) ((t3.2.1).toNat) v0.1.length hz43 hz44 C0_0 R0_0 (m := xl40) (by rw [← hy41] <;> simp) (z := 1) rfl
  refine ls_cutv (A := A0_0) (c := c0_0) (m := v0.1.length) (z := 1) (e := 5) (a := (t3.2.1).toNat) (b := v0.1.length) rfl rfl (by kernel_rfl) rfl (by kernel_rfl) (by kernel_rfl) (by kernel_rfl) (.inr ⟨.i64, by rw [Int.toNat_of_nonneg (by first | assumption | omega)]; kernel_rfl⟩) (.inl ⟨rfl, rfl⟩) hz43 hz44 C0_0 he42 ?_
  refine lv (.pointer (some ⟨pg0, 0, none⟩)) ?_
  refine lv (.pointer (some ⟨pg0, (0 + 0), none⟩)) ?_
  refine ls_storec (g := pg0) (off := (0 + 0)) (v := .slice xA36 xl40.length xc37) (vs := [Value.slice xA36 xl40.length xc37]) (cs := ([Value.slice A0_0 v0.1.length c0_0] ++ [Value.bool (!decide (t3.2.2 = (0 : Int)))])) (ty := 89) 0 rfl rfl rfl (by kernel_rfl) (by kernel_rfl) (by kernel_rfl) (by exact rfl) (by kernel_rfl) (len1 _) (one_cons rfl one_nil) (hl_of (Sub4.trans (Sub4.all _) (Sub4.head _ _)) (len_eq (len1 _) (len1 _))) (cs' := ([Value.slice xA36 xl40.length xc37] ++ [Value.bool (!decide (t3.2.2 = (0 : Int)))])) (splc_in (Sub4.all _) (splc_head (len_eq (len1 _) (len1 _))) (splc_all (len_eq (len_app (len1 _) (len1 _)) (len_app (len1 _) (len1 _)))) (hl_of (Sub4.head _ _) (len_eq (len1 _) (len1 _)))) ?_
  refine ls_end ?_
  refine qn_block ?_
  refine qn_then ?_
  refine cs_region (l := [_, _]) ?_
  refine lv (.int .i64 (1 : Int)) ?_
  refine lv (.int .i64 (1 : Int)) ?_
  refine ls_end ?_
  refine qn_rounds ?_
  refine rs_succ ?_
  refine cs_seq ?_
  refine cs_region (l := [_]) ?_
  refine lv (.bool true) ?_
  refine ls_end ?_
  refine qn_then ?_
  refine cs_seq ?_
  refine cs_true (by kernel_rfl) ?_
  refine cs_skip' ?_
  refine qn_then ?_
  refine cs_seq ?_
  refine cs_block ?_
  refine cs_seq ?_
  refine cs_region (l := [_, _, _]) ?_
  obtain ⟨ad45, hA46⟩ := ido_at (T := (Ec.ptr 93)) (l := ([(some (pg1_0, (0 + 4))), (some (pg1_0, (0 + 5)))])) (i := (1 : Int)) R1 (by decide) (show (1 : Int) < (([(some (pg1_0, (0 + 4))), (some (pg1_0, (0 + 5)))]).length : Int) from of_decide_eq_true (by kernel_rfl))
  refine ls_idxv (Ec.ptr 93) (A := A1) (c := c1) (l := [(some (pg1_0, (0 + 4))), (some (pg1_0, (0 + 5)))]) (k := .i64) (i := (1 : Int)) (z := 1) (ad := ad45) rfl rfl (by kernel_rfl) hA46 rfl (by kernel_rfl) (by kernel_rfl) (by kernel_rfl) (by kernel_rfl) (by decide) (show (1 : Int) < (([(some (pg1_0, (0 + 4))), (some (pg1_0, (0 + 5)))]).length : Int) from of_decide_eq_true (by kernel_rfl)) ?_
  refine ls_load (a0 := (ad45.add (((1 : Int)).toNat * 1))) (v := .pointer (some ⟨pg1_0, (0 + 5), none⟩)) (de := (TypeDesc.pointer 9)) rfl rfl (by kernel_rfl) rfl (by kernel_rfl) (by kernel_rfl) (by kernel_rfl) (fun w hs => (hs.old R1).at hA46 (em_sub (Ec.ptr 93) ([(some (pg1_0, (0 + 4))), (some (pg1_0, (0 + 5)))]) (i := ((1 : Int)).toNat) (by have h0 : (0 : Int) ≤ (1 : Int) := (by decide); have h1 : (1 : Int) < (([(some (pg1_0, (0 + 4))), (some (pg1_0, (0 + 5)))]).length : Int) := (show (1 : Int) < (([(some (pg1_0, (0 + 4))), (some (pg1_0, (0 + 5)))]).length : Int) from of_decide_eq_true (by kernel_rfl)); omega))) ?_
  refine lv (.pointer (some ⟨pg1_0, (0 + 5), none⟩)) ?_
  refine ls_end ?_
  refine qn_then ?_
  refine cs_seq ?_
  refine cs_region (l := [_, _, _, _, _, _, _, _, _, _, _, _]) ?_
  refine lv (.pointer (some ⟨pg0, 0, none⟩)) ?_
  refine lv (.pointer (some ⟨pg0, 0, none⟩)) ?_
  refine lv (.pointer (some ⟨pg0, (0 + 0), none⟩)) ?_
  refine ls_load (a0 := ⟨pg0, (0 + 0), none⟩) (v := .slice xA36 xl40.length xc37) (de := (TypeDesc.slice 5)) rfl rfl (by kernel_rfl) rfl (by kernel_rfl) (by kernel_rfl) (by kernel_rfl) (fun w hs => (hs.var (k := 0) (by exact rfl) (Sub4.trans (Sub4.all _) (Sub4.head _ _)))) ?_
  obtain ⟨t47, hc48, H⟩ := bind_some H
  refine ls_callb (fid := 58) (vals := #[.slice xA36 xl40.length xc37, .int .i64 (400 : Int)]) (X := Unit) (fun x => .tuple #[.string t47.1, .int .i64 t47.2.1, .int .i64 t47.2.2]) (fun x => stl []) [] [] [] [] 2 rfl rfl (by kernel_rfl) (fun w => by kernel_rfl) trivial trivial (by decide) (fun w hs hb => codec_ReadText.calls k xA36 xc37 xl40 (400 : Int) t47 (lent b w [] []) hb (hs.ro xR38 _ _) xC39 hc48) ?_
  intro x49
  refine lv (.tuple #[.string t47.1, .int .i64 t47.2.1, .int .i64 t47.2.2]) ?_
  refine lv (.string t47.1) ?_
  refine lv (.int .i64 t47.2.1) ?_
  refine lv (.int .i64 t47.2.2) ?_
  refine lv (.string t47.1) ?_
  refine lv (.int .i64 t47.2.1) ?_
  refine lv (.int .i64 t47.2.2) ?_
  refine ls_end ?_
  refine qn_then ?_
  refine cs_seq ?_
  refine cs_region (l := [_, _, _, _, _, _, _, _, _, _, _, _]) ?_
  refine lv (.pointer (some ⟨pg0, 0, none⟩)) ?_
  refine lv (.pointer (some ⟨pg0, 0, none⟩)) ?_
  refine lv (.pointer (some ⟨pg0, 0, none⟩)) ?_
  refine lv (.pointer (some ⟨pg0, (0 + 1), none⟩)) ?_
  refine ls_load (a0 := ⟨pg0, (0 + 1), none⟩) (v := .bool (!decide (t3.2.2 = (0 : Int)))) (de := TypeDesc.bool) rfl rfl (by kernel_rfl) rfl (by kernel_rfl) (by kernel_rfl) (by kernel_rfl) (fun w hs => (hs.var (k := 0) (by exact rfl) (Sub4.trans (Sub4.all _) (Sub4.skip (n := 1) (len1 _) (Sub4.all _))))) ?_
  refine lv (.bool (!decide (t3.2.2 = (0 : Int)))) ?_
  by_cases q50 : (!decide (t3.2.2 = (0 : Int))) = true
  · replace H := ite_t q50 H
    refine ls_know (c := true) (q50) 29 (by kernel_rfl) ?_
    refine lofx 5 29 false true ?_
    refine lofx 5 29 false true ?_
    refine lv (.bool true) ?_
    refine lv (.pointer (some ⟨pg0, 0, none⟩)) ?_
    refine lv (.pointer (some ⟨pg0, (0 + 1), none⟩)) ?_
    refine ls_storec (g := pg0) (off := (0 + 1)) (v := .bool true) (vs := [Value.bool true]) (cs := ([Value.slice xA36 xl40.length xc37] ++ [Value.bool (!decide (t3.2.2 = (0 : Int)))])) (ty := 89) 0 rfl rfl rfl (by kernel_rfl) (by kernel_rfl) (by kernel_rfl) (by exact rfl) (by kernel_rfl) (len1 _) (one_cons rfl one_nil) (hl_of (Sub4.trans (Sub4.all _) (Sub4.skip (n := 1) (len1 _) (Sub4.all _))) (len_eq (len1 _) (len1 _))) (cs' := ([Value.slice xA36 xl40.length xc37] ++ [Value.bool true])) (splc_in (Sub4.all _) (splc_skip (n := 1) (len1 _) (splc_all (len_eq (len1 _) (len1 _)))) (splc_all (len_eq (len_app (len1 _) (len1 _)) (len_app (len1 _) (len1 _)))) (hl_of (Sub4.skip (n := 1) (len1 _) (Sub4.all _)) (len_eq (len1 _) (len1 _)))) ?_
    refine ls_end ?_
    refine qn_then ?_
    refine cs_seq ?_
    refine cs_region (l := [_, _, _, _]) ?_
    refine lv (.pointer (some ⟨pg1_0, (0 + 5), none⟩)) ?_
    refine lv (.string t47.1) ?_
    refine lv (.pointer (some ⟨pg1_0, (0 + 5), none⟩)) ?_
    refine ls_storec (g := pg1_0) (off := (0 + 5)) (v := .string t47.1) (vs := [Value.string t47.1]) (cs := ([Value.int .i64 v1_0.1] ++ ([Value.int .i64 v1_0.2.1] ++ ([Value.int .i64 v1_0.2.2.1] ++ ([Value.int .i64 v1_0.2.2.2.1] ++ ([Value.string t3.1] ++ ([Value.string v1_0.2.2.2.2.2.1] ++ [Value.slice A1_0_6 v1_0.2.2.2.2.2.2.length c1_0_6]))))))) (ty := 51) 1 rfl rfl rfl (by kernel_rfl) (by kernel_rfl) (by kernel_rfl) (by exact rfl) (by kernel_rfl) (len1 _) (one_cons rfl one_nil) (hl_of (Sub4.trans (Sub4.all _) (Sub4.skip (n := 1) (len1 _) (Sub4.skip (n := 1) (len1 _) (Sub4.skip (n := 1) (len1 _) (Sub4.skip (n := 1) (len1 _) (Sub4.skip (n := 1) (len1 _) (Sub4.head _ _))))))) (len_eq (len1 _) (len1 _))) (cs' := ([Value.int .i64 v1_0.1] ++ ([Value.int .i64 v1_0.2.1] ++ ([Value.int .i64 v1_0.2.2.1] ++ ([Value.int .i64 v1_0.2.2.2.1] ++ ([Value.string t3.1] ++ ([Value.string t47.1] ++ [Value.slice A1_0_6 v1_0.2.2.2.2.2.2.length c1_0_6]))))))) (splc_in (Sub4.all _) (splc_skip (n := 1) (len1 _) (splc_skip (n := 1) (len1 _) (splc_skip (n := 1) (len1 _) (splc_skip (n := 1) (len1 _) (splc_skip (n := 1) (len1 _) (splc_head (len_eq (len1 _) (len1 _)))))))) (splc_all (len_eq (len_app (len1 _) (len_app (len1 _) (len_app (len1 _) (len_app (len1 _) (len_app (len1 _) (len_app (len1 _) (len1 _))))))) (len_app (len1 _) (len_app (len1 _) (len_app (len1 _) (len_app (len1 _) (len_app (len1 _) (len_app (len1 _) (len1 _))))))))) (hl_of (Sub4.skip (n := 1) (len1 _) (Sub4.skip (n := 1) (len1 _) (Sub4.skip (n := 1) (len1 _) (Sub4.skip (n := 1) (len1 _) (Sub4.skip (n := 1) (len1 _) (Sub4.head _ _)))))) (len_eq (len1 _) (len1 _)))) ?_
    refine ls_end ?_
    refine qn_then ?_
    refine cs_region (l := [_, _, _, _, _, _, _, _, _, _]) ?_
    refine lv (.pointer (some ⟨pg0, 0, none⟩)) ?_
    refine lv (.pointer (some ⟨pg0, 0, none⟩)) ?_
    refine lv (.pointer (some ⟨pg0, 0, none⟩)) ?_
    refine lv (.pointer (some ⟨pg0, (0 + 0), none⟩)) ?_
    refine ls_load (a0 := ⟨pg0, (0 + 0), none⟩) (v := .slice xA36 xl40.length xc37) (de := (TypeDesc.slice 5)) rfl rfl (by kernel_rfl) rfl (by kernel_rfl) (by kernel_rfl) (by kernel_rfl) (fun w hs => (hs.var (k := 0) (by exact rfl) (Sub4.trans (Sub4.all _) (Sub4.head _ _)))) ?_
    refine lv (.int .i64 t47.2.1) ?_
    obtain ⟨q51, H⟩ := ite_need H
    obtain ⟨q52, H⟩ := ite_need H
    obtain ⟨xl57, hy58, H⟩ := lt_some H
    have hz60 : (t47.2.1).toNat ≤ xl40.length := by omega
    have hz61 : xl40.length ≤ xl40.length := by omega
    obtain ⟨xA53, xc54, he59, xC56, xR55⟩ := cut_at (A := xA36) (c := xc37) (l := xl40) (Ec.int 5 .u8) ((t47.2.1).toNat) xl40.length hz60 hz61 xC39 xR38 (m := xl57) (by rw [← hy58] <;> simp) (z := 1) rfl
    refine ls_cutv (A := xA36) (c := xc37) (m := xl40.length) (z := 1) (e := 5) (a := (t47.2.1).toNat) (b := xl40.length) rfl rfl (by kernel_rfl) rfl (by kernel_rfl) (by kernel_rfl) (by kernel_rfl) (.inr ⟨.i64, by rw [Int.toNat_of_nonneg (by first | assumption | omega)]; kernel_rfl⟩) (.inl ⟨rfl, rfl⟩) hz60 hz61 xC39 he59 ?_
    refine lv (.pointer (some ⟨pg0, 0, none⟩)) ?_
    refine lv (.pointer (some ⟨pg0, (0 + 0), none⟩)) ?_
    refine ls_storec (g := pg0) (off := (0 + 0)) (v := .slice xA53 xl57.length xc54) (vs := [Value.slice xA53 xl57.length xc54]) (cs := ([Value.slice xA36 xl40.length xc37] ++ [Value.bool true])) (ty := 89) 0 rfl rfl rfl (by kernel_rfl) (by kernel_rfl) (by kernel_rfl) (by exact rfl) (by kernel_rfl) (len1 _) (one_cons rfl one_nil) (hl_of (Sub4.trans (Sub4.all _) (Sub4.head _ _)) (len_eq (len1 _) (len1 _))) (cs' := ([Value.slice xA53 xl57.length xc54] ++ [Value.bool true])) (splc_in (Sub4.all _) (splc_head (len_eq (len1 _) (len1 _))) (splc_all (len_eq (len_app (len1 _) (len1 _)) (len_app (len1 _) (len1 _)))) (hl_of (Sub4.head _ _) (len_eq (len1 _) (len1 _)))) ?_
    refine ls_end ?_
    refine qn_block ?_
    refine qn_then ?_
    refine cs_region (l := [_, _]) ?_
    refine lv (.int .i64 (2 : Int)) ?_
    refine lv (.int .i64 (2 : Int)) ?_
    refine ls_end ?_
    refine qn_rounds ?_
    refine rs_succ ?_
    refine cs_seq ?_
    refine cs_region (l := [_]) ?_
    refine lv (.bool false) ?_
    refine ls_end ?_
    refine qn_then ?_
    refine cs_seq ?_
    refine cs_false (by kernel_rfl) ?_
    refine cs_exit' ?_
    refine qx_then ?_
    refine qx_then ?_
    refine qx_same ?_
    obtain rfl := Option.some.inj H
    refine qn_res (rs := []) rfl (fun w' hs => ⟨[], (.nil), (xA53, xc54), rfl, ⟨xR55, xC56⟩, hs.pick (ts := [0, 1]) (cs := [Ck.var 89 pg0 (([Value.slice xA53 xl57.length xc54] ++ [Value.bool true])), Ck.var 51 pg1_0 (([Value.int .i64 v1_0.1] ++ ([Value.int .i64 v1_0.2.1] ++ ([Value.int .i64 v1_0.2.2.1] ++ ([Value.int .i64 v1_0.2.2.2.1] ++ ([Value.string t3.1] ++ ([Value.string t47.1] ++ [Value.slice A1_0_6 v1_0.2.2.2.2.2.2.length c1_0_6])))))))]) ⟨by exact rfl, by exact rfl, trivial⟩ (by decide)⟩)
  replace H := ite_f q50 H
  refine ls_know (c := false) (Bool.eq_false_iff.mpr q50) 29 (by kernel_rfl) ?_
  refine ls_on (j := 5) (t := 29) (b := false) rfl rfl (by kernel_rfl) (by kernel_rfl) ?_
  refine lv (.int .i64 t47.2.2) ?_
  refine ls_on (j := 5) (t := 29) (b := false) rfl rfl (by kernel_rfl) (by kernel_rfl) ?_
  refine lv (.bool (!decide (t47.2.2 = (0 : Int)))) ?_
  refine lv (.bool (!decide (t47.2.2 = (0 : Int)))) ?_
  refine lv (.pointer (some ⟨pg0, 0, none⟩)) ?_
  refine lv (.pointer (some ⟨pg0, (0 + 1), none⟩)) ?_
  refine ls_storec (g := pg0) (off := (0 + 1)) (v := .bool (!decide (t47.2.2 = (0 : Int)))) (vs := [Value.bool (!decide (t47.2.2 = (0 : Int)))]) (cs := ([Value.slice xA36 xl40.length xc37] ++ [Value.bool (!decide (t3.2.2 = (0 : Int)))])) (ty := 89) 0 rfl rfl rfl (by kernel_rfl) (by kernel_rfl) (by kernel_rfl) (by exact rfl) (by kernel_rfl) (len1 _) (one_cons rfl one_nil) (hl_of (Sub4.trans (Sub4.all _) (Sub4.skip (n := 1) (len1 _) (Sub4.all _))) (len_eq (len1 _) (len1 _))) (cs' := ([Value.slice xA36 xl40.length xc37] ++ [Value.bool (!decide (t47.2.2 = (0 : Int)))])) (splc_in (Sub4.all _) (splc_skip (n := 1) (len1 _) (splc_all (len_eq (len1 _) (len1 _)))) (splc_all (len_eq (len_app (len1 _) (len1 _)) (len_app (len1 _) (len1 _)))) (hl_of (Sub4.skip (n := 1) (len1 _) (Sub4.all _)) (len_eq (len1 _) (len1 _)))) ?_
  refine ls_end ?_
  refine qn_then ?_
  refine cs_seq ?_
  refine cs_region (l := [_, _, _, _]) ?_
  refine lv (.pointer (some ⟨pg1_0, (0 + 5), none⟩)) ?_
  refine lv (.string t47.1) ?_
  refine lv (.pointer (some ⟨pg1_0, (0 + 5), none⟩)) ?_
  refine ls_storec (g := pg1_0) (off := (0 + 5)) (v := .string t47.1) (vs := [Value.string t47.1]) (cs := ([Value.int .i64 v1_0.1] ++ ([Value.int .i64 v1_0.2.1] ++ ([Value.int .i64 v1_0.2.2.1] ++ ([Value.int .i64 v1_0.2.2.2.1] ++ ([Value.string t3.1] ++ ([Value.string v1_0.2.2.2.2.2.1] ++ [Value.slice A1_0_6 v1_0.2.2.2.2.2.2.length c1_0_6]))))))) (ty := 51) 1 rfl rfl rfl (by kernel_rfl) (by kernel_rfl) (by kernel_rfl) (by exact rfl) (by kernel_rfl) (len1 _) (one_cons rfl one_nil) (hl_of (Sub4.trans (Sub4.all _) (Sub4.skip (n := 1) (len1 _) (Sub4.skip (n := 1) (len1 _) (Sub4.skip (n := 1) (len1 _) (Sub4.skip (n := 1) (len1 _) (Sub4.skip (n := 1) (len1 _) (Sub4.head _ _))))))) (len_eq (len1 _) (len1 _))) (cs' := ([Value.int .i64 v1_0.1] ++ ([Value.int .i64 v1_0.2.1] ++ ([Value.int .i64 v1_0.2.2.1] ++ ([Value.int .i64 v1_0.2.2.2.1] ++ ([Value.string t3.1] ++ ([Value.string t47.1] ++ [Value.slice A1_0_6 v1_0.2.2.2.2.2.2.length c1_0_6]))))))) (splc_in (Sub4.all _) (splc_skip (n := 1) (len1 _) (splc_skip (n := 1) (len1 _) (splc_skip (n := 1) (len1 _) (splc_skip (n := 1) (len1 _) (splc_skip (n := 1) (len1 _) (splc_head (len_eq (len1 _) (len1 _)))))))) (splc_all (len_eq (len_app (len1 _) (len_app (len1 _) (len_app (len1 _) (len_app (len1 _) (len_app (len1 _) (len_app (len1 _) (len1 _))))))) (len_app (len1 _) (len_app (len1 _) (len_app (len1 _) (len_app (len1 _) (len_app (len1 _) (len_app (len1 _) (len1 _))))))))) (hl_of (Sub4.skip (n := 1) (len1 _) (Sub4.skip (n := 1) (len1 _) (Sub4.skip (n := 1) (len1 _) (Sub4.skip (n := 1) (len1 _) (Sub4.skip (n := 1) (len1 _) (Sub4.head _ _)))))) (len_eq (len1 _) (len1 _)))) ?_
  refine ls_end ?_
  refine qn_then ?_
  refine cs_region (l := [_, _, _, _, _, _, _, _, _, _]) ?_
  refine lv (.pointer (some ⟨pg0, 0, none⟩)) ?_
  refine lv (.pointer (some ⟨pg0, 0, none⟩)) ?_
  refine lv (.pointer (some ⟨pg0, 0, none⟩)) ?_
  refine lv (.pointer (some ⟨pg0, (0 + 0), none⟩)) ?_
  refine ls_load (a0 := ⟨pg0, (0 + 0), none⟩) (v := .slice xA36 xl40.length xc37) (de := (TypeDesc.slice 5)) rfl rfl (by kernel_rfl) rfl (by kernel_rfl) (by kernel_rfl) (by kernel_rfl) (fun w hs => (hs.var (k := 0) (by exact rfl) (Sub4.trans (Sub4.all _) (Sub4.head _ _)))) ?_
  refine lv (.int .i64 t47.2.1) ?_
  obtain ⟨q62, H⟩ := ite_need H
  obtain ⟨q63, H⟩ := ite_need H
  obtain ⟨xl68, hy69, H⟩ := lt_some H
  have hz71 : (t47.2.1).toNat ≤ xl40.length := by omega
  have hz72 : xl40.length ≤ xl40.length := by omega
  obtain ⟨xA64, xc65, he70, xC67, xR66⟩ := cut_at (A := xA36) (c := xc37) (l := xl40) (Ec.int 5 .u8) ((t47.2.1).toNat) xl40.length hz71 hz72 xC39 xR38 (m := xl68) (by rw [← hy69] <;> simp) (z := 1) rfl
  refine ls_cutv (A := xA36) (c := xc37) (m := xl40.length) (z := 1) (e := 5) (a := (t47.2.1).toNat) (b := xl40.length) rfl rfl (by kernel_rfl) rfl (by kernel_rfl) (by kernel_rfl) (by kernel_rfl) (.inr ⟨.i64, by rw [Int.toNat_of_nonneg (by first | assumption | omega)]; kernel_rfl⟩) (.inl ⟨rfl, rfl⟩) hz71 hz72 xC39 he70 ?_
  refine lv (.pointer (some ⟨pg0, 0, none⟩)) ?_
  refine lv (.pointer (some ⟨pg0, (0 + 0), none⟩)) ?_
  refine ls_storec (g := pg0) (off := (0 + 0)) (v := .slice xA64 xl68.length xc65) (vs := [Value.slice xA64 xl68.length xc65]) (cs := ([Value.slice xA36 xl40.length xc37] ++ [Value.bool (!decide (t47.2.2 = (0 : Int)))])) (ty := 89) 0 rfl rfl rfl (by kernel_rfl) (by kernel_rfl) (by kernel_rfl) (by exact rfl) (by kernel_rfl) (len1 _) (one_cons rfl one_nil) (hl_of (Sub4.trans (Sub4.all _) (Sub4.head _ _)) (len_eq (len1 _) (len1 _))) (cs' := ([Value.slice xA64 xl68.length xc65] ++ [Value.bool (!decide (t47.2.2 = (0 : Int)))])) (splc_in (Sub4.all _) (splc_head (len_eq (len1 _) (len1 _))) (splc_all (len_eq (len_app (len1 _) (len1 _)) (len_app (len1 _) (len1 _)))) (hl_of (Sub4.head _ _) (len_eq (len1 _) (len1 _)))) ?_
  refine ls_end ?_
  refine qn_block ?_
  refine qn_then ?_
  refine cs_region (l := [_, _]) ?_
  refine lv (.int .i64 (2 : Int)) ?_
  refine lv (.int .i64 (2 : Int)) ?_
  refine ls_end ?_
  refine qn_rounds ?_
  refine rs_succ ?_
  refine cs_seq ?_
  refine cs_region (l := [_]) ?_
  refine lv (.bool false) ?_
  refine ls_end ?_
  refine qn_then ?_
  refine cs_seq ?_
  refine cs_false (by kernel_rfl) ?_
  refine cs_exit' ?_
  refine qx_then ?_
  refine qx_then ?_
  refine qx_same ?_
  obtain rfl := Option.some.inj H
  refine qn_res (rs := []) rfl (fun w' hs => ⟨[], (.nil), (xA64, xc65), rfl, ⟨xR66, xC67⟩, hs.pick (ts := [0, 1]) (cs := [Ck.var 89 pg0 (([Value.slice xA64 xl68.length xc65] ++ [Value.bool (!decide (t47.2.2 = (0 : Int)))])), Ck.var 51 pg1_0 (([Value.int .i64 v1_0.1] ++ ([Value.int .i64 v1_0.2.1] ++ ([Value.int .i64 v1_0.2.2.1] ++ ([Value.int .i64 v1_0.2.2.2.1] ++ ([Value.string t3.1] ++ ([Value.string t47.1] ++ [Value.slice A1_0_6 v1_0.2.2.2.2.2.2.length c1_0_6])))))))]) ⟨by exact rfl, by exact rfl, trivial⟩ (by decide)⟩)

/-! ### (*shadowbox/record.reader).numbers, specialized: function 43 -/
def record_reader_numbers_sits_0.f (k : Nat) (v0 : ((List Int) × Bool)) (v1_0 : Int) : Option (((List Int) × Bool) × Int) :=
  (codec_ReadShort.f k v0.1).bind fun t3 => (if t3.2.2 = (0 : Int) then (if t3.1 > (1152921504606846976 : Int) then some ((v0.1, true), v1_0) else (if 0 ≤ t3.2.1 then (if t3.2.1 ≤ (v0.1.length : Int) then lt (v0.1.drop (t3.2.1).toNat) fun xl14 => some ((xl14, v0.2), IntKind.wrap .i64 t3.1) else none) else none)) else some ((v0.1, true), v1_0))
set_option maxRecDepth 100000 in
set_option maxHeartbeats 4000000 in
theorem record_reader_numbers_sits_0.calls (k : Nat) (pg0 : Nat) (A0_0 : Option Addr) (c0_0 : Nat) (v0 : ((List Int) × Bool)) (pg1_0 : Nat) (v1_0 : Int) (A1 : Option Addr) (c1 : Nat) (r : ((List Int) × Bool) × Int) (b : Bs) (hs0 : St b (stl [Ck.var 89 pg0 (([Value.slice A0_0 v0.1.length c0_0] ++ [Value.bool v0.2])), Ck.var 3 pg1_0 ([Value.int .i64 v1_0])]) b.w) (R0_0 : Ro b A0_0 (em (Ec.int 5 .u8) v0.1)) (C0_0 : v0.1.length ≤ c0_0) (R1 : Ro b A1 (em (Ec.ptr 91) [(some (pg1_0, 0))])) (C1 : [(some (pg1_0, 0))].length ≤ c1) (H : record_reader_numbers_sits_0.f k v0 v1_0 = some r) :
    Calls Try.prog 43 #[.pointer (some ⟨pg0, 0, none⟩), .slice A1 [(some (pg1_0, 0))].length c1] b.w fun e w' => ∃ x : (Option Addr × Nat), e = .returned (.tuple #[]) ∧ ((Ro b x.1 (em (Ec.int 5 .u8) r.1.1) ∧ r.1.1.length ≤ x.2)) ∧ St b (stl [Ck.var 89 pg0 (([Value.slice x.1 r.1.1.length x.2] ++ [Value.bool r.1.2])), Ck.var 3 pg1_0 ([Value.int .i64 r.2])]) w' := by
  unfold record_reader_numbers_sits_0.f at H
  refine enterb (n := 47) Try.func43 rfl (by kernel_rfl) (by kernel_rfl) hs0 ?_
  refine cs_sub (sput (sput s0 0 (some (Ck.var 89 pg0 (([Value.slice A0_0 v0.1.length c0_0] ++ [Value.bool v0.2]))))) 1 (some (Ck.var 3 pg1_0 ([Value.int .i64 v1_0])))) (sub_put (by exact rfl) (sub_put (by exact rfl) (sub_nil _))) ?_
  refine cs_seq ?_
  refine cs_region (l := [_, _, _]) ?_
  refine lv (.slice A1 [(some (pg1_0, 0))].length c1) ?_
  refine lv (.int .i64 (1 : Int)) ?_
  refine lv (.int .i64 (0 : Int)) ?_
  refine ls_end ?_
  refine qn_then ?_
  refine cs_block ?_
  refine cs_rounds 2 ?_
  refine rs_succ ?_
  refine cs_seq ?_
  refine cs_region (l := [_]) ?_
  refine lv (.bool true) ?_
  refine ls_end ?_
  refine qn_then ?_
  refine cs_seq ?_
  refine cs_true (by kernel_rfl) ?_
  refine cs_skip' ?_
  refine qn_then ?_
  refine cs_seq ?_
  refine cs_block ?_
  refine cs_seq ?_
  refine cs_region (l := [_, _, _]) ?_
  obtain ⟨ad1, hA2⟩ := ido_at (T := (Ec.ptr 91)) (l := ([(some (pg1_0, 0))])) (i := (0 : Int)) R1 (by decide) (show (0 : Int) < (([(some (pg1_0, 0))]).length : Int) from of_decide_eq_true (by kernel_rfl))
  refine ls_idxv (Ec.ptr 91) (A := A1) (c := c1) (l := [(some (pg1_0, 0))]) (k := .i64) (i := (0 : Int)) (z := 1) (ad := ad1) rfl rfl (by kernel_rfl) hA2 rfl (by kernel_rfl) (by kernel_rfl) (by kernel_rfl) (by kernel_rfl) (by decide) (show (0 : Int) < (([(some (pg1_0, 0))]).length : Int) from of_decide_eq_true (by kernel_rfl)) ?_
  refine ls_load (a0 := (ad1.add (((0 : Int)).toNat * 1))) (v := .pointer (some ⟨pg1_0, 0, none⟩)) (de := (TypeDesc.pointer 3)) rfl rfl (by kernel_rfl) rfl (by kernel_rfl) (by kernel_rfl) (by kernel_rfl) (fun w hs => (hs.old R1).at hA2 (em_sub (Ec.ptr 91) ([(some (pg1_0, 0))]) (i := ((0 : Int)).toNat) (by have h0 : (0 : Int) ≤ (0 : Int) := (by decide); have h1 : (0 : Int) < (([(some (pg1_0, 0))]).length : Int) := (show (0 : Int) < (([(some (pg1_0, 0))]).length : Int) from of_decide_eq_true (by kernel_rfl)); omega))) ?_
  refine lv (.pointer (some ⟨pg1_0, 0, none⟩)) ?_
  refine ls_end ?_
  refine qn_then ?_
  refine cs_seq ?_
  refine cs_region (l := [_, _, _, _, _, _, _, _, _, _, _, _]) ?_
  refine lv (.pointer (some ⟨pg0, 0, none⟩)) ?_
  refine lv (.pointer (some ⟨pg0, 0, none⟩)) ?_
  refine lv (.pointer (some ⟨pg0, (0 + 0), none⟩)) ?_
  refine ls_load (a0 := ⟨pg0, (0 + 0), none⟩) (v := .slice A0_0 v0.1.length c0_0) (de := (TypeDesc.slice 5)) rfl rfl (by kernel_rfl) rfl (by kernel_rfl) (by kernel_rfl) (by kernel_rfl) (fun w hs => (hs.var (k := 0) (by exact rfl) (Sub4.trans (Sub4.all _) (Sub4.head _ _)))) ?_
  obtain ⟨t3, hc4, H⟩ := bind_some H
  refine ls_callb (fid := 57) (vals := #[.slice A0_0 v0.1.length c0_0]) (X := Unit) (fun x => .tuple #[.int .u64 t3.1, .int .i64 t3.2.1, .int .i64 t3.2.2]) (fun x => stl []) [] [] [] [] 2 rfl rfl (by kernel_rfl) (fun w => by kernel_rfl) trivial trivial (by decide) (fun w hs hb => codec_ReadShort.calls k A0_0 c0_0 v0.1 t3 (lent b w [] []) hb (hs.ro R0_0 _ _) C0_0 hc4) ?_
  intro x5
  refine lv (.tuple #[.int .u64 t3.1, .int .i64 t3.2.1, .int .i64 t3.2.2]) ?_
  refine lv (.int .u64 t3.1) ?_
  refine lv (.int .i64 t3.2.1) ?_
  refine lv (.int .i64 t3.2.2) ?_
  refine lv (.int .u64 t3.1) ?_
  refine lv (.int .i64 t3.2.1) ?_
  refine lv (.int .i64 t3.2.2) ?_
  refine ls_end ?_
  refine qn_then ?_
  refine cs_seq ?_
  refine cs_seq ?_
  refine cs_region (l := [_, _, _, _, _, _]) ?_
  refine lv (.int .i64 t3.2.2) ?_
  refine lv (.bool (!decide (t3.2.2 = (0 : Int)))) ?_
  refine lv (.bool (!decide (t3.2.2 = (0 : Int)))) ?_
  by_cases q6 : t3.2.2 = (0 : Int)
  · replace H := ite_t q6 H
    refine ls_know (c := false) (congrArg Bool.not (dec_t q6)) 26 (by kernel_rfl) ?_
    refine ls_on (j := 2) (t := 26) (b := false) rfl rfl (by kernel_rfl) (by kernel_rfl) ?_
    refine lv (.int .u64 t3.1) ?_
    refine ls_on (j := 2) (t := 26) (b := false) rfl rfl (by kernel_rfl) (by kernel_rfl) ?_
    refine lv (.bool (decide (t3.1 > (1152921504606846976 : Int)))) ?_
    refine lv (.bool (decide (t3.1 > (1152921504606846976 : Int)))) ?_
    refine ls_end ?_
    refine qn_then ?_
    by_cases q7 : t3.1 > (1152921504606846976 : Int)
    · replace H := ite_t q7 H
      refine cs_know (c := true) (dec_t q7) 29 (by kernel_rfl) ?_
      refine cs_true (by kernel_rfl) ?_
      refine cs_seq ?_
      refine cs_region (l := [_, _, _, _]) ?_
      refine lv (.pointer (some ⟨pg0, 0, none⟩)) ?_
      refine lv (.pointer (some ⟨pg0, 0, none⟩)) ?_
      refine lv (.pointer (some ⟨pg0, (0 + 1), none⟩)) ?_
      refine ls_storec (g := pg0) (off := (0 + 1)) (v := .bool true) (vs := [Value.bool true]) (cs := ([Value.slice A0_0 v0.1.length c0_0] ++ [Value.bool v0.2])) (ty := 89) 0 rfl rfl rfl (by kernel_rfl) (by kernel_rfl) (by kernel_rfl) (by exact rfl) (by kernel_rfl) (len1 _) (one_cons rfl one_nil) (hl_of (Sub4.trans (Sub4.all _) (Sub4.skip (n := 1) (len1 _) (Sub4.all _))) (len_eq (len1 _) (len1 _))) (cs' := ([Value.slice A0_0 v0.1.length c0_0] ++ [Value.bool true])) (splc_in (Sub4.all _) (splc_skip (n := 1) (len1 _) (splc_all (len_eq (len1 _) (len1 _)))) (splc_all (len_eq (len_app (len1 _) (len1 _)) (len_app (len1 _) (len1 _)))) (hl_of (Sub4.skip (n := 1) (len1 _) (Sub4.all _)) (len_eq (len1 _) (len1 _)))) ?_
      refine ls_end ?_
      refine qn_then ?_
      refine cs_ret' ?_
      refine qr_then ?_
      refine qr_block ?_
      refine qr_then ?_
      refine qr_then ?_
      refine qr_block ?_
      obtain rfl := Option.some.inj H
      refine qr_res (rs := []) rfl (fun w' hs => ⟨[], (.nil), (A0_0, c0_0), rfl, ⟨R0_0, C0_0⟩, hs.pick (ts := [0, 1]) (cs := [Ck.var 89 pg0 (([Value.slice A0_0 v0.1.length c0_0] ++ [Value.bool true])), Ck.var 3 pg1_0 ([Value.int .i64 v1_0])]) ⟨by exact rfl, by exact rfl, trivial⟩ (by decide)⟩)
    replace H := ite_f q7 H
    refine cs_know (c := false) (dec_f q7) 29 (by kernel_rfl) ?_
    refine cs_false (by kernel_rfl) ?_
    refine cs_skip' ?_
    refine qn_then ?_
    refine cs_seq ?_
    refine cs_region (l := [_, _, _, _, _]) ?_
    refine lv (.pointer (some ⟨pg1_0, 0, none⟩)) ?_
    refine lv (.int .u64 t3.1) ?_
    refine lv (.int .i64 (IntKind.wrap .i64 t3.1)) ?_
    refine lv (.pointer (some ⟨pg1_0, 0, none⟩)) ?_
    refine ls_storec (g := pg1_0) (off := 0) (v := .int .i64 (IntKind.wrap .i64 t3.1)) (vs := [Value.int .i64 (IntKind.wrap .i64 t3.1)]) (cs := [Value.int .i64 v1_0]) (ty := 3) 1 rfl rfl rfl (by kernel_rfl) (by kernel_rfl) (by kernel_rfl) (by exact rfl) (by kernel_rfl) (len1 _) (one_cons rfl one_nil) (hl_of (Sub4.all _) (len_eq (len1 _) (len1 _))) (cs' := [Value.int .i64 (IntKind.wrap .i64 t3.1)]) (splc_all (len_eq (len1 _) (len1 _))) ?_
    refine ls_end ?_
    refine qn_then ?_
    refine cs_region (l := [_, _, _, _, _, _, _, _, _, _]) ?_
    refine lv (.pointer (some ⟨pg0, 0, none⟩)) ?_
    refine lv (.pointer (some ⟨pg0, 0, none⟩)) ?_
    refine lv (.pointer (some ⟨pg0, 0, none⟩)) ?_
    refine lv (.pointer (some ⟨pg0, (0 + 0), none⟩)) ?_
    refine ls_load (a0 := ⟨pg0, (0 + 0), none⟩) (v := .slice A0_0 v0.1.length c0_0) (de := (TypeDesc.slice 5)) rfl rfl (by kernel_rfl) rfl (by kernel_rfl) (by kernel_rfl) (by kernel_rfl) (fun w hs => (hs.var (k := 0) (by exact rfl) (Sub4.trans (Sub4.all _) (Sub4.head _ _)))) ?_
    refine lv (.int .i64 t3.2.1) ?_
    obtain ⟨q8, H⟩ := ite_need H
    obtain ⟨q9, H⟩ := ite_need H
    obtain ⟨xl14, hy15, H⟩ := lt_some H
    have hz17 : (t3.2.1).toNat ≤ v0.1.length := by omega
    have hz18 : v0.1.length ≤ v0.1.length := by omega
    obtain ⟨xA10, xc11, he16, xC13, xR12⟩ := cut_at (A := A0_0) (c := c0_0) (l := v0.1) (Ec.int 5 .u8) ((t3.2.1).toNat) v0.1.length hz17 hz18 C0_0 R0_0 (m := xl14) (by rw [← hy15] <;> simp) (z := 1) rfl
    refine ls_cutv (A := A0_0) (c := c0_0) (m := v0.1.length) (z := 1) (e := 5) (a := (t3.2.1).toNat) (b := v0.1.length) rfl rfl (by kernel_rfl) rfl (by kernel_rfl) (by kernel_rfl) (by kernel_rfl) (.inr ⟨.i64, by rw [Int.toNat_of_nonneg (by first | assumption | omega)]; kernel_rfl⟩) (.inl ⟨rfl, rfl⟩) hz17 hz18 C0_0 he16 ?_
    refine lv (.pointer (some ⟨pg0, 0, none⟩)) ?_
    refine lv (.pointer (some ⟨pg0, (0 + 0), none⟩)) ?_
    refine ls_storec (g := pg0) (off := (0 + 0)) (v := .slice xA10 xl14.length xc11) (vs := [Value.slice xA10 xl14.length xc11]) (cs := ([Value.slice A0_0 v0.1.length c0_0] ++ [Value.bool v0.2])) (ty := 89) 0 rfl rfl rfl (by kernel_rfl) (by kernel_rfl) (by kernel_rfl) (by exact rfl) (by kernel_rfl) (len1 _) (one_cons rfl one_nil) (hl_of (Sub4.trans (Sub4.all _) (Sub4.head _ _)) (len_eq (len1 _) (len1 _))) (cs' := ([Value.slice xA10 xl14.length xc11] ++ [Value.bool v0.2])) (splc_in (Sub4.all _) (splc_head (len_eq (len1 _) (len1 _))) (splc_all (len_eq (len_app (len1 _) (len1 _)) (len_app (len1 _) (len1 _)))) (hl_of (Sub4.head _ _) (len_eq (len1 _) (len1 _)))) ?_
    refine ls_end ?_
    refine qn_block ?_
    refine qn_then ?_
    refine cs_region (l := [_, _]) ?_
    refine lv (.int .i64 (1 : Int)) ?_
    refine lv (.int .i64 (1 : Int)) ?_
    refine ls_end ?_
    refine qn_rounds ?_
    refine rs_succ ?_
    refine cs_seq ?_
    refine cs_region (l := [_]) ?_
    refine lv (.bool false) ?_
    refine ls_end ?_
    refine qn_then ?_
    refine cs_seq ?_
    refine cs_false (by kernel_rfl) ?_
    refine cs_exit' ?_
    refine qx_then ?_
    refine qx_then ?_
    refine qx_same ?_
    obtain rfl := Option.some.inj H
    refine qn_res (rs := []) rfl (fun w' hs => ⟨[], (.nil), (xA10, xc11), rfl, ⟨xR12, xC13⟩, hs.pick (ts := [0, 1]) (cs := [Ck.var 89 pg0 (([Value.slice xA10 xl14.length xc11] ++ [Value.bool v0.2])), Ck.var 3 pg1_0 ([Value.int .i64 (IntKind.wrap .i64 t3.1)])]) ⟨by exact rfl, by exact rfl, trivial⟩ (by decide)⟩)
  replace H := ite_f q6 H
  refine ls_know (c := true) (congrArg Bool.not (dec_f q6)) 26 (by kernel_rfl) ?_
  refine lofx 2 26 false true ?_
  refine lofx 2 26 false true ?_
  refine lv (.bool true) ?_
  refine ls_end ?_
  refine qn_then ?_
  refine cs_true (by kernel_rfl) ?_
  refine cs_seq ?_
  refine cs_region (l := [_, _, _, _]) ?_
  refine lv (.pointer (some ⟨pg0, 0, none⟩)) ?_
  refine lv (.pointer (some ⟨pg0, 0, none⟩)) ?_
  refine lv (.pointer (some ⟨pg0, (0 + 1), none⟩)) ?_
  refine ls_storec (g := pg0) (off := (0 + 1)) (v := .bool true) (vs := [Value.bool true]) (cs := ([Value.slice A0_0 v0.1.length c0_0] ++ [Value.bool v0.2])) (ty := 89) 0 rfl rfl rfl (by kernel_rfl) (by kernel_rfl) (by kernel_rfl) (by exact rfl) (by kernel_rfl) (len1 _) (one_cons rfl one_nil) (hl_of (Sub4.trans (Sub4.all _) (Sub4.skip (n := 1) (len1 _) (Sub4.all _))) (len_eq (len1 _) (len1 _))) (cs' := ([Value.slice A0_0 v0.1.length c0_0] ++ [Value.bool true])) (splc_in (Sub4.all _) (splc_skip (n := 1) (len1 _) (splc_all (len_eq (len1 _) (len1 _)))) (splc_all (len_eq (len_app (len1 _) (len1 _)) (len_app (len1 _) (len1 _)))) (hl_of (Sub4.skip (n := 1) (len1 _) (Sub4.all _)) (len_eq (len1 _) (len1 _)))) ?_
  refine ls_end ?_
  refine qn_then ?_
  refine cs_ret' ?_
  refine qr_then ?_
  refine qr_block ?_
  refine qr_then ?_
  refine qr_then ?_
  refine qr_block ?_
  obtain rfl := Option.some.inj H
  refine qr_res (rs := []) rfl (fun w' hs => ⟨[], (.nil), (A0_0, c0_0), rfl, ⟨R0_0, C0_0⟩, hs.pick (ts := [0, 1]) (cs := [Ck.var 89 pg0 (([Value.slice A0_0 v0.1.length c0_0] ++ [Value.bool true])), Ck.var 3 pg1_0 ([Value.int .i64 v1_0])]) ⟨by exact rfl, by exact rfl, trivial⟩ (by decide)⟩)

/-! ### (*shadowbox/record.reader).texts, specialized: function 44 -/
def record_reader_texts_sits_0f0_0f1.f (k : Nat) (v0 : ((List Int) × Bool)) (v1_0 : (ByteArray × ByteArray)) : Option (((List Int) × Bool) × (ByteArray × ByteArray)) :=
  (codec_ReadText.f k v0.1 (400 : Int)).bind fun t3 => (if v0.2 = true then (if 0 ≤ t3.2.1 then (if t3.2.1 ≤ (v0.1.length : Int) then lt (v0.1.drop (t3.2.1).toNat) fun xl13 => (codec_ReadText.f k xl13 (400 : Int)).bind fun t20 => (if 0 ≤ t20.2.1 then (if t20.2.1 ≤ (xl13.length : Int) then lt (xl13.drop (t20.2.1).toNat) fun xl29 => some ((xl29, true), (t3.1, t20.1)) else none) else none) else none) else none) else (if 0 ≤ t3.2.1 then (if t3.2.1 ≤ (v0.1.length : Int) then lt (v0.1.drop (t3.2.1).toNat) fun xl40 => (codec_ReadText.f k xl40 (400 : Int)).bind fun t47 => (if (!decide (t3.2.2 = (0 : Int))) = true then (if 0 ≤ t47.2.1 then (if t47.2.1 ≤ (xl40.length : Int) then lt (xl40.drop (t47.2.1).toNat) fun xl57 => some ((xl57, true), (t3.1, t47.1)) else none) else none) else (if 0 ≤ t47.2.1 then (if t47.2.1 ≤ (xl40.length : Int) then lt (xl40.drop (t47.2.1).toNat) fun xl68 => some ((xl68, !decide (t47.2.2 = (0 : Int))), (t3.1, t47.1)) else none) else none)) else none) else none))
set_option maxRecDepth 100000 in
set_option maxHeartbeats 4000000 in
theorem record_reader_texts_sits_0f0_0f1.calls (k : Nat) (pg0 : Nat) (A0_0 : Option Addr) (c0_0 : Nat) (v0 : ((List Int) × Bool)) (pg1_0 : Nat) (v1_0 : (ByteArray × ByteArray)) (A1 : Option Addr) (c1 : Nat) (r : ((List Int) × Bool) × (ByteArray × ByteArray)) (b : Bs) (hs0 : St b (stl [Ck.var 89 pg0 (([Value.slice A0_0 v0.1.length c0_0] ++ [Value.bool v0.2])), Ck.var 67 pg1_0 (([Value.string v1_0.1] ++ [Value.string v1_0.2]))]) b.w) (R0_0 : Ro b A0_0 (em (Ec.int 5 .u8) v0.1)) (C0_0 : v0.1.length ≤ c0_0) (R1 : Ro b A1 (em (Ec.ptr 93) [(some (pg1_0, (0 + 0))), (some (pg1_0, (0 + 1)))])) (C1 : [(some (pg1_0, (0 + 0))), (some (pg1_0, (0 + 1)))].length ≤ c1) (H : record_reader_texts_sits_0f0_0f1.f k v0 v1_0 = some r) :
    Calls Try.prog 44 #[.pointer (some ⟨pg0, 0, none⟩), .slice A1 [(some (pg1_0, (0 + 0))), (some (pg1_0, (0 + 1)))].length c1] b.w fun e w' => ∃ x : (Option Addr × Nat), e = .returned (.tuple #[]) ∧ ((Ro b x.1 (em (Ec.int 5 .u8) r.1.1) ∧ r.1.1.length ≤ x.2)) ∧ St b (stl [Ck.var 89 pg0 (([Value.slice x.1 r.1.1.length x.2] ++ [Value.bool r.1.2])), Ck.var 67 pg1_0 (([Value.string r.2.1] ++ [Value.string r.2.2]))]) w' := by
  unfold record_reader_texts_sits_0f0_0f1.f at H
  refine enterb (n := 48) Try.func44 rfl (by kernel_rfl) (by kernel_rfl) hs0 ?_
  refine cs_sub (sput (sput s0 0 (some (Ck.var 89 pg0 (([Value.slice A0_0 v0.1.length c0_0] ++ [Value.bool v0.2]))))) 1 (some (Ck.var 67 pg1_0 (([Value.string v1_0.1] ++ [Value.string v1_0.2]))))) (sub_put (by exact rfl) (sub_put (by exact rfl) (sub_nil _))) ?_
  refine cs_seq ?_
  refine cs_region (l := [_, _, _]) ?_
  refine lv (.slice A1 [(some (pg1_0, (0 + 0))), (some (pg1_0, (0 + 1)))].length c1) ?_
  refine lv (.int .i64 (2 : Int)) ?_
  refine lv (.int .i64 (0 : Int)) ?_
  refine ls_end ?_
  refine qn_then ?_
  refine cs_block ?_
  refine cs_rounds 3 ?_
  refine rs_succ ?_
  refine cs_seq ?_
  refine cs_region (l := [_]) ?_
  refine lv (.bool true) ?_
  refine ls_end ?_
  refine qn_then ?_
  refine cs_seq ?_
  refine cs_true (by kernel_rfl) ?_
  refine cs_skip' ?_
  refine qn_then ?_
  refine cs_seq ?_
  refine cs_block ?_
  refine cs_seq ?_
  refine cs_region (l := [_, _, _]) ?_
  obtain ⟨ad1, hA2⟩ := ido_at (T := (Ec.ptr 93)) (l := ([(some (pg1_0, (0 + 0))), (some (pg1_0, (0 + 1)))])) (i := (0 : Int)) R1 (by decide) (show (0 : Int) < (([(some (pg1_0, (0 + 0))), (some (pg1_0, (0 + 1)))]).length : Int) from of_decide_eq_true (by kernel_rfl))
  refine ls_idxv (Ec.ptr 93) (A := A1) (c := c1) (l := [(some (pg1_0, (0 + 0))), (some (pg1_0, (0 + 1)))]) (k := .i64) (i := (0 : Int)) (z := 1) (ad := ad1) rfl rfl (by kernel_rfl) hA2 rfl (by kernel_rfl) (by kernel_rfl) (by kernel_rfl) (by kernel_rfl) (by decide) (show (0 : Int) < (([(some (pg1_0, (0 + 0))), (some (pg1_0, (0 + 1)))]).length : Int) from of_decide_eq_true (by kernel_rfl)) ?_
  refine ls_load (a0 := (ad1.add (((0 : Int)).toNat * 1))) (v := .pointer (some ⟨pg1_0, (0 + 0), none⟩)) (de := (TypeDesc.pointer 9)) rfl rfl (by kernel_rfl) rfl (by kernel_rfl) (by kernel_rfl) (by kernel_rfl) (fun w hs => (hs.old R1).at hA2 (em_sub (Ec.ptr 93) ([(some (pg1_0, (0 + 0))), (some (pg1_0, (0 + 1)))]) (i := ((0 : Int)).toNat) (by have h0 : (0 : Int) ≤ (0 : Int) := (by decide); have h1 : (0 : Int) < (([(some (pg1_0, (0 + 0))), (some (pg1_0, (0 + 1)))]).length : Int) := (show (0 : Int) < (([(some (pg1_0, (0 + 0))), (some (pg1_0, (0 + 1)))]).length : Int) from of_decide_eq_true (by kernel_rfl)); omega))) ?_
  refine lv (.pointer (some ⟨pg1_0, (0 + 0), none⟩)) ?_
  refine ls_end ?_
  refine qn_then ?_
  refine cs_seq ?_
  refine cs_region (l := [_, _, _, _, _, _, _, _, _, _, _, _]) ?_
  refine lv (.pointer (some ⟨pg0, 0, none⟩)) ?_
  refine lv (.pointer (some ⟨pg0, 0, none⟩)) ?_
  refine lv (.pointer (some ⟨pg0, (0 + 0), none⟩)) ?_
  refine ls_load (a0 := ⟨pg0, (0 + 0), none⟩) (v := .slice A0_0 v0.1.length c0_0) (de := (TypeDesc.slice 5)) rfl rfl (by kernel_rfl) rfl (by kernel_rfl) (by kernel_rfl) (by kernel_rfl) (fun w hs => (hs.var (k := 0) (by exact rfl) (Sub4.trans (Sub4.all _) (Sub4.head _ _)))) ?_
  obtain ⟨t3, hc4, H⟩ := bind_some H
  refine ls_callb (fid := 58) (vals := #[.slice A0_0 v0.1.length c0_0, .int .i64 (400 : Int)]) (X := Unit) (fun x => .tuple #[.string t3.1, .int .i64 t3.2.1, .int .i64 t3.2.2]) (fun x => stl []) [] [] [] [] 2 rfl rfl (by kernel_rfl) (fun w => by kernel_rfl) trivial trivial (by decide) (fun w hs hb => codec_ReadText.calls k A0_0 c0_0 v0.1 (400 : Int) t3 (lent b w [] []) hb (hs.ro R0_0 _ _) C0_0 hc4) ?_
  intro x5
  refine lv (.tuple #[.string t3.1, .int .i64 t3.2.1, .int .i64 t3.2.2]) ?_
  refine lv (.string t3.1) ?_
  refine lv (.int .i64 t3.2.1) ?_
  refine lv (.int .i64 t3.2.2) ?_
  refine lv (.string t3.1) ?_
  refine lv (.int .i64 t3.2.1) ?_
  refine lv (.int .i64 t3.2.2) ?_
  refine ls_end ?_
  refine qn_then ?_
  refine cs_seq ?_
  refine cs_region (l := [_, _, _, _, _, _, _, _, _, _, _, _]) ?_
  refine lv (.pointer (some ⟨pg0, 0, none⟩)) ?_
  refine lv (.pointer (some ⟨pg0, 0, none⟩)) ?_
  refine lv (.pointer (some ⟨pg0, 0, none⟩)) ?_
  refine lv (.pointer (some ⟨pg0, (0 + 1), none⟩)) ?_
  refine ls_load (a0 := ⟨pg0, (0 + 1), none⟩) (v := .bool v0.2) (de := TypeDesc.bool) rfl rfl (by kernel_rfl) rfl (by kernel_rfl) (by kernel_rfl) (by kernel_rfl) (fun w hs => (hs.var (k := 0) (by exact rfl) (Sub4.trans (Sub4.all _) (Sub4.skip (n := 1) (len1 _) (Sub4.all _))))) ?_
  refine lv (.bool v0.2) ?_
  by_cases q6 : v0.2 = true
  · replace H := ite_t q6 H
    refine ls_know (c := true) (q6) 29 (by kernel_rfl) ?_
    refine lofx 5 29 false true ?_
    refine lofx 5 29 false true ?_
    refine lv (.bool true) ?_
    refine lv (.pointer (some ⟨pg0, 0, none⟩)) ?_
    refine lv (.pointer (some ⟨pg0, (0 + 1), none⟩)) ?_
    refine ls_storec (g := pg0) (off := (0 + 1)) (v := .bool true) (vs := [Value.bool true]) (cs := ([Value.slice A0_0 v0.1.length c0_0] ++ [Value.bool v0.2])) (ty := 89) 0 rfl rfl rfl (by kernel_rfl) (by kernel_rfl) (by kernel_rfl) (by exact rfl) (by kernel_rfl) (len1 _) (one_cons rfl one_nil) (hl_of (Sub4.trans (Sub4.all _) (Sub4.skip (n := 1) (len1 _) (Sub4.all _))) (len_eq (len1 _) (len1 _))) (cs' := ([Value.slice A0_0 v0.1.length c0_0] ++ [Value.bool true])) (splc_in (Sub4.all _) (splc_skip (n := 1) (len1 _) (splc_all (len_eq (len1 _) (len1 _)))) (splc_all (len_eq (len_app (len1 _) (len1 _)) (len_app (len1 _) (len1 _)))) (hl_of (Sub4.skip (n := 1) (len1 _) (Sub4.all _)) (len_eq (len1 _) (len1 _)))) ?_
    refine ls_end ?_
    refine qn_then ?_
    refine cs_seq ?_
    refine cs_region (l := [_, _, _, _]) ?_
    refine lv (.pointer (some ⟨pg1_0, (0 + 0), none⟩)) ?_
    refine lv (.string t3.1) ?_
    refine lv (.pointer (some ⟨pg1_0, (0 + 0), none⟩)) ?_
    refine ls_storec (g := pg1_0) (off := (0 + 0)) (v := .string t3.1) (vs := [Value.string t3.1]) (cs := ([Value.string v1_0.1] ++ [Value.string v1_0.2])) (ty := 67) 1 rfl rfl rfl (by kernel_rfl) (by kernel_rfl) (by kernel_rfl) (by exact rfl) (by kernel_rfl) (len1 _) (one_cons rfl one_nil) (hl_of (Sub4.trans (Sub4.all _) (Sub4.head _ _)) (len_eq (len1 _) (len1 _))) (cs' := ([Value.string t3.1] ++ [Value.string v1_0.2])) (splc_in (Sub4.all _) (splc_head (len_eq (len1 _) (len1 _))) (splc_all (len_eq (len_app (len1 _) (len1 _)) (len_app (len1 _) (len1 _)))) (hl_of (Sub4.head _ _) (len_eq (len1 _) (len1 _)))) ?_
    refine ls_end ?_
    refine qn_then ?_
    refine cs_region (l := [_, _, _, _, _, _, _, _, _, _]) ?_
    refine lv (.pointer (some ⟨pg0, 0, none⟩)) ?_
    refine lv (.pointer (some ⟨pg0, 0, none⟩)) ?_
    refine lv (.pointer (some ⟨pg0, 0, none⟩)) ?_
    refine lv (.pointer (some ⟨pg0, (0 + 0), none⟩)) ?_
    refine ls_load (a0 := ⟨pg0, (0 + 0), none⟩) (v := .slice A0_0 v0.1.length c0_0) (de := (TypeDesc.slice 5)) rfl rfl (by kernel_rfl) rfl (by kernel_rfl) (by kernel_rfl) (by kernel_rfl) (fun w hs => (hs.var (k := 0) (by exact rfl) (Sub4.trans (Sub4.all _) (Sub4.head _ _)))) ?_
    refine lv (.int .i64 t3.2.1) ?_
    obtain ⟨q7, H⟩ := ite_need H
    obtain ⟨q8, H⟩ := ite_need H
    obtain ⟨xl13, hy14, H⟩ := lt_some H
    have hz16 : (t3.2.1).toNat ≤ v0.1.length := by omega
    have hz17 : v0.1.length ≤ v0.1.length := by omega
    obtain ⟨xA9, xc10, he15, xC12, xR11⟩ := cut_at (A := A0_0) (c := c0_0) (l := v0.1) (Ec.int 5 .u8) ((t3.2.1).toNat) v0.1.length hz16 hz17 C0_0 R0_0 (m := xl13) (by rw [← hy14] <;> simp) (z := 1) rfl
    refine ls_cutv (A := A0_0) (c := c0_0) (m := v0.1.length) (z := 1) (e := 5) (a := (t3.2.1).toNat) (b := v0.1.length) rfl rfl (by kernel_rfl) rfl (by kernel_rfl) (by kernel_rfl) (by kernel_rfl) (.inr ⟨.i64, by rw [Int.toNat_of_nonneg (by first | assumption | omega)]; kernel_rfl⟩) (.inl ⟨rfl, rfl⟩) hz16 hz17 C0_0 he15 ?_
    refine lv (.pointer (some ⟨pg0, 0, none⟩)) ?_
    refine lv (.pointer (some ⟨pg0, (0 + 0), none⟩)) ?_
    refine ls_storec (g := pg0) (off := (0 + 0)) (v := .slice xA9 xl13.length xc10) (vs := [Value.slice xA9 xl13.length xc10]) (cs := ([Value.slice A0_0 v0.1.length c0_0] ++ [Value.bool true])) (ty := 89) 0 rfl rfl rfl (by kernel_rfl) (by kernel_rfl) (by kernel_rfl) (by exact rfl) (by kernel_rfl) (len1 _) (one_cons rfl one_nil) (hl_of (Sub4.trans (Sub4.all _) (Sub4.head _ _)) (len_eq (len1 _) (len1 _))) (cs' := ([Value.slice xA9 xl13.length xc10] ++ [Value.bool true])) (splc_in (Sub4.all _) (splc_head (len_eq (len1 _) (len1 _))) (splc_all (len_eq (len_app (len1 _) (len1 _)) (len_app (len1 _) (len1 _)))) (hl_of (Sub4.head _ _) (len_eq (len1 _) (len1 _)))) ?_
    refine ls_end ?_
    refine qn_block ?_
    refine qn_then ?_
    refine cs_region (l := [_, _]) ?_
    refine lv (.int .i64 (1 : Int)) ?_
    refine lv (.int .i64 (1 : Int)) ?_
    refine ls_end ?_
    refine qn_rounds ?_
    refine rs_succ ?_
    refine cs_seq ?_
    refine cs_region (l := [_]) ?_
    refine lv (.bool true) ?_
    refine ls_end ?_
    refine qn_then ?_
    refine cs_seq ?_
    refine cs_true (by kernel_rfl) ?_
    refine cs_skip' ?_
    refine qn_then ?_
    refine cs_seq ?_
    refine cs_block ?_
    refine cs_seq ?_
    refine cs_region (l := [_, _, _]) ?_
    obtain ⟨ad18, hA19⟩ := ido_at (T := (Ec.ptr 93)) (l := ([(some (pg1_0, (0 + 0))), (some (pg1_0, (0 + 1)))])) (i := (1 : Int)) R1 (by decide) (show (1 : Int) < (([(some (pg1_0, (0 + 0))), (some (pg1_0, (0 + 1)))]).length : Int) from of_decide_eq_true (by kernel_rfl))
    refine ls_idxv (Ec.ptr 93) (A := A1) (c := c1) (l := [(some (pg1_0, (0 + 0))), (some (pg1_0, (0 + 1)))]) (k := .i64) (i := (1 : Int)) (z := 1) (ad := ad18) rfl rfl (by kernel_rfl) hA19 rfl (by kernel_rfl) (by kernel_rfl) (by kernel_rfl) (by kernel_rfl) (by decide) (show (1 : Int) < (([(some (pg1_0, (0 + 0))), (some (pg1_0, (0 + 1)))]).length : Int) from of_decide_eq_true (by kernel_rfl)) ?_
    refine ls_load (a0 := (ad18.add (((1 : Int)).toNat * 1))) (v := .pointer (some ⟨pg1_0, (0 + 1), none⟩)) (de := (TypeDesc.pointer 9)) rfl rfl (by kernel_rfl) rfl (by kernel_rfl) (by kernel_rfl) (by kernel_rfl) (fun w hs => (hs.old R1).at hA19 (em_sub (Ec.ptr 93) ([(some (pg1_0, (0 + 0))), (some (pg1_0, (0 + 1)))]) (i := ((1 : Int)).toNat) (by have h0 : (0 : Int) ≤ (1 : Int) := (by decide); have h1 : (1 : Int) < (([(some (pg1_0, (0 + 0))), (some (pg1_0, (0 + 1)))]).length : Int) := (show (1 : Int) < (([(some (pg1_0, (0 + 0))), (some (pg1_0, (0 + 1)))]).length : Int) from of_decide_eq_true (by kernel_rfl)); omega))) ?_
    refine lv (.pointer (some ⟨pg1_0, (0 + 1), none⟩)) ?_
    refine ls_end ?_
    refine qn_then ?_
    refine cs_seq ?_
    refine cs_region (l := [_, _, _, _, _, _, _, _, _, _, _, _]) ?_
    refine lv (.pointer (some ⟨pg0, 0, none⟩)) ?_
    refine lv (.pointer (some ⟨pg0, 0, none⟩)) ?_
    refine lv (.pointer (some ⟨pg0, (0 + 0), none⟩)) ?_
    refine ls_load (a0 := ⟨pg0, (0 + 0), none⟩) (v := .slice xA9 xl13.length xc10) (de := (TypeDesc.slice 5)) rfl rfl (by kernel_rfl) rfl (by kernel_rfl) (by kernel_rfl) (by kernel_rfl) (fun w hs => (hs.var (k := 0) (by exact rfl) (Sub4.trans (Sub4.all _) (Sub4.head _ _)))) ?_
    obtain ⟨t20, hc21, H⟩ := bind_some H
    refine ls_callb (fid := 58) (vals := #[.slice xA9 xl13.length xc10, .int .i64 (400 : Int)]) (X := Unit) (fun x => .tuple #[.string t20.1, .int .i64 t20.2.1, .int .i64 t20.2.2]) (fun x => stl []) [] [] [] [] 2 rfl rfl (by kernel_rfl) (fun w => by kernel_rfl) trivial trivial (by decide) (fun w hs hb => codec_ReadText.calls k xA9 xc10 xl13 (400 : Int) t20 (lent b w [] []) hb (hs.ro xR11 _ _) xC12 hc21) ?_
    intro x22
    refine lv (.tuple #[.string t20.1, .int .i64 t20.2.1, .int .i64 t20.2.2]) ?_
    refine lv (.string t20.1) ?_
    refine lv (.int .i64 t20.2.1) ?_
    refine lv (.int .i64 t20.2.2) ?_
    refine lv (.string t20.1) ?_
    refine lv (.int .i64 t20.2.1) ?_
    refine lv (.int .i64 t20.2.2) ?_
    refine ls_end ?_
    refine qn_then ?_
    refine cs_seq ?_
    refine cs_region (l := [_, _, _, _, _, _, _, _, _, _, _, _]) ?_
    refine lv (.pointer (some ⟨pg0, 0, none⟩)) ?_
    refine lv (.pointer (some ⟨pg0, 0, none⟩)) ?_
    refine lv (.pointer (some ⟨pg0, 0, none⟩)) ?_
    refine lv (.pointer (some ⟨pg0, (0 + 1), none⟩)) ?_
    refine ls_load (a0 := ⟨pg0, (0 + 1), none⟩) (v := .bool true) (de := TypeDesc.bool) rfl rfl (by kernel_rfl) rfl (by kernel_rfl) (by kernel_rfl) (by kernel_rfl) (fun w hs => (hs.var (k := 0) (by exact rfl) (Sub4.trans (Sub4.all _) (Sub4.skip (n := 1) (len1 _) (Sub4.all _))))) ?_
    refine lv (.bool true) ?_
    refine lofx 5 29 false true ?_
    refine lofx 5 29 false true ?_
    refine lv (.bool true) ?_
    refine lv (.pointer (some ⟨pg0, 0, none⟩)) ?_
    refine lv (.pointer (some ⟨pg0, (0 + 1), none⟩)) ?_
    refine ls_storec (g := pg0) (off := (0 + 1)) (v := .bool true) (vs := [Value.bool true]) (cs := ([Value.slice xA9 xl13.length xc10] ++ [Value.bool true])) (ty := 89) 0 rfl rfl rfl (by kernel_rfl) (by kernel_rfl) (by kernel_rfl) (by exact rfl) (by kernel_rfl) (len1 _) (one_cons rfl one_nil) (hl_of (Sub4.trans (Sub4.all _) (Sub4.skip (n := 1) (len1 _) (Sub4.all _))) (len_eq (len1 _) (len1 _))) (cs' := ([Value.slice xA9 xl13.length xc10] ++ [Value.bool true])) (splc_in (Sub4.all _) (splc_skip (n := 1) (len1 _) (splc_all (len_eq (len1 _) (len1 _)))) (splc_all (len_eq (len_app (len1 _) (len1 _)) (len_app (len1 _) (len1 _)))) (hl_of (Sub4.skip (n := 1) (len1 _) (Sub4.all _)) (len_eq (len1 _) (len1 _)))) ?_
    refine ls_end ?_
    refine qn_then ?_
    refine cs_seq ?_
    refine cs_region (l := [_, _, _, _]) ?_
    refine lv (.pointer (some ⟨pg1_0, (0 + 1), none⟩)) ?_
    refine lv (.string t20.1) ?_
    refine lv (.pointer (some ⟨pg1_0, (0 + 1), none⟩)) ?_
    refine ls_storec (g := pg1_0) (off := (0 + 1)) (v := .string t20.1) (vs := [Value.string t20.1]) (cs := ([Value.string t3.1] ++ [Value.string v1_0.2])) (ty := 67) 1 rfl rfl rfl (by kernel_rfl) (by kernel_rfl) (by kernel_rfl) (by exact rfl) (by kernel_rfl) (len1 _) (one_cons rfl one_nil) (hl_of (Sub4.trans (Sub4.all _) (Sub4.skip (n := 1) (len1 _) (Sub4.all _))) (len_eq (len1 _) (len1 _))) (cs' := ([Value.string t3.1] ++ [Value.string t20.1])) (splc_in (Sub4.all _) (splc_skip (n := 1) (len1 _) (splc_all (len_eq (len1 _) (len1 _)))) (splc_all (len_eq (len_app (len1 _) (len1 _)) (len_app (len1 _) (len1 _)))) (hl_of (Sub4.skip (n := 1) (len1 _) (Sub4.all _)) (len_eq (len1 _) (len1 _)))) ?_
    refine ls_end ?_
    refine qn_then ?_
    refine cs_region (l := [_, _, _, _, _, _, _, _, _, _]) ?_
    refine lv (.pointer (some ⟨pg0, 0, none⟩)) ?_
    refine lv (.pointer (some ⟨pg0, 0, none⟩)) ?_
    refine lv (.pointer (some ⟨pg0, 0, none⟩)) ?_
    refine lv (.pointer (some ⟨pg0, (0 + 0), none⟩)) ?_
    refine ls_load (a0 := ⟨pg0, (0 + 0), none⟩) (v := .slice xA9 xl13.length xc10) (de := (TypeDesc.slice 5)) rfl rfl (by kernel_rfl) rfl (by kernel_rfl) (by kernel_rfl) (by kernel_rfl) (fun w hs => (hs.var (k := 0) (by exact rfl) (Sub4.trans (Sub4.all _) (Sub4.head _ _)))) ?_
    refine lv (.int .i64 t20.2.1) ?_
    obtain ⟨q23, H⟩ := ite_need H
    obtain ⟨q24, H⟩ := ite_need H
    obtain ⟨xl29, hy30, H⟩ := lt_some H
    have hz32 : (t20.2.1).toNat ≤ xl13.length := by omega
    have hz33 : xl13.length ≤ xl13.length := by omega
    obtain ⟨xA25, xc26, he31, xC28, xR27⟩ := cut_at (A := xA9) (c := xc10) (l := xl13) (Ec.int 5 .u8) ((t20.2.1).toNat) xl13.length hz32 hz33 xC12 xR11 (m := xl29) (by rw [← hy30] <;> simp) (z := 1) rfl
    refine ls_cutv (A := xA9) (c := xc10) (m := xl13.length) (z := 1) (e := 5) (a := (t20.2.1).toNat) (b := xl13.length) rfl rfl (by kernel_rfl) rfl (by kernel_rfl) (by kernel_rfl) (by kernel_rfl) (.inr ⟨.i64, by rw [Int.toNat_of_nonneg (by first | assumption | omega)]; kernel_rfl⟩) (.inl ⟨rfl, rfl⟩) hz32 hz33 xC12 he31 ?_
    refine lv (.pointer (some ⟨pg0, 0, none⟩)) ?_
    refine lv (.pointer (some ⟨pg0, (0 + 0), none⟩)) ?_
    refine ls_storec (g := pg0) (off := (0 + 0)) (v := .slice xA25 xl29.length xc26) (vs := [Value.slice xA25 xl29.length xc26]) (cs := ([Value.slice xA9 xl13.length xc10] ++ [Value.bool true])) (ty := 89) 0 rfl rfl rfl (by kernel_rfl) (by kernel_rfl) (by kernel_rfl) (by exact rfl) (by kernel_rfl) (len1 _) (one_cons rfl one_nil) (hl_of (Sub4.trans (Sub4.all _) (Sub4.head _ _)) (len_eq (len1 _) (len1 _))) (cs' := ([Value.slice xA25 xl29.length xc26] ++ [Value.bool true])) (splc_in (Sub4.all _) (splc_head (len_eq (len1 _) (len1 _))) (splc_all (len_eq (len_app (len1 _) (len1 _)) (len_app (len1 _) (len1 _)))) (hl_of (Sub4.head _ _) (len_eq (len1 _) (len1 _)))) ?_
    refine ls_end ?_
    refine qn_block ?_
    refine qn_then ?_
    refine cs_region (l := [_, _]) ?_
    refine lv (.int .i64 (2 : Int)) ?_
    refine lv (.int .i64 (2 : Int)) ?_
    refine ls_end ?_
    refine qn_rounds ?_
    refine rs_succ ?_
    refine cs_seq ?_
    refine cs_region (l := [_]) ?_
    refine lv (.bool false) ?_
    refine ls_end ?_
    refine qn_then ?_
    refine cs_seq ?_
    refine cs_false (by kernel_rfl) ?_
    refine cs_exit' ?_
    refine qx_then ?_
    refine qx_then ?_
    refine qx_same ?_
    obtain rfl := Option.some.inj H
    refine qn_res (rs := []) rfl (fun w' hs => ⟨[], (.nil), (xA25, xc26), rfl, ⟨xR27, xC28⟩, hs.pick (ts := [0, 1]) (cs := [Ck.var 89 pg0 (([Value.slice xA25 xl29.length xc26] ++ [Value.bool true])), Ck.var 67 pg1_0 (([Value.string t3.1] ++ [Value.string t20.1]))]) ⟨by exact rfl, by exact rfl, trivial⟩ (by decide)⟩)
  replace H := ite_f q6 H
  refine ls_know (c := false) (Bool.eq_false_iff.mpr q6) 29 (by kernel_rfl) ?_
  refine ls_on (j := 5) (t := 29) (b := false) rfl rfl (by kernel_rfl) (by kernel_rfl) ?_
  refine lv (.int .i64 t3.2.2) ?_
  refine ls_on (j := 5) (t := 29) (b := false) rfl rfl (by kernel_rfl) (by kernel_rfl) ?_
  refine lv (.bool (!decide (t3.2.2 = (0 : Int)))) ?_
  refine lv (.bool (!decide (t3.2.2 = (0 : Int)))) ?_
  refine lv (.pointer (some ⟨pg0, 0, none⟩)) ?_
  refine lv (.pointer (some ⟨pg0, (0 + 1), none⟩)) ?_
  refine ls_storec (g := pg0) (off := (0 + 1)) (v := .bool (!decide (t3.2.2 = (0 : Int)))) (vs := [Value.bool (!decide (t3.2.2 = (0 : Int)))]) (cs := ([Value.slice A0_0 v0.1.length c0_0] ++ [Value.bool v0.2])) (ty := 89) 0 rfl rfl rfl (by kernel_rfl) (by kernel_rfl) (by kernel_rfl) (by exact rfl) (by kernel_rfl) (len1 _) (one_cons rfl one_nil) (hl_of (Sub4.trans (Sub4.all _) (Sub4.skip (n := 1) (len1 _) (Sub4.all _))) (len_eq (len1 _) (len1 _))) (cs' := ([Value.slice A0_0 v0.1.length c0_0] ++ [Value.bool (!decide (t3.2.2 = (0 : Int)))])) (splc_in (Sub4.all _) (splc_skip (n := 1) (len1 _) (splc_all (len_eq (len1 _) (len1 _)))) (splc_all (len_eq (len_app (len1 _) (len1 _)) (len_app (len1 _) (len1 _)))) (hl_of (Sub4.skip (n := 1) (len1 _) (Sub4.all _)) (len_eq (len1 _) (len1 _)))) ?_
  refine ls_end ?_
  refine qn_then ?_
  refine cs_seq ?_
  refine cs_region (l := [_, _, _, _]) ?_
  refine lv (.pointer (some ⟨pg1_0, (0 + 0), none⟩)) ?_
  refine lv (.string t3.1) ?_
  refine lv (.pointer (some ⟨pg1_0, (0 + 0), none⟩)) ?_
  refine ls_storec (g := pg1_0) (off := (0 + 0)) (v := .string t3.1) (vs := [Value.string t3.1]) (cs := ([Value.string v1_0.1] ++ [Value.string v1_0.2])) (ty := 67) 1 rfl rfl rfl (by kernel_rfl) (by kernel_rfl) (by kernel_rfl) (by exact rfl) (by kernel_rfl) (len1 _) (one_cons rfl one_nil) (hl_of (Sub4.trans (Sub4.all _) (Sub4.head _ _)) (len_eq (len1 _) (len1 _))) (cs' := ([Value.string t3.1] ++ [Value.string v1_0.2])) (splc_in (Sub4.all _) (splc_head (len_eq (len1 _) (len1 _))) (splc_all (len_eq (len_app (len1 _) (len1 _)) (len_app (len1 _) (len1 _)))) (hl_of (Sub4.head _ _) (len_eq (len1 _) (len1 _)))) ?_
  refine ls_end ?_
  refine qn_then ?_
  refine cs_region (l := [_, _, _, _, _, _, _, _, _, _]) ?_
  refine lv (.pointer (some ⟨pg0, 0, none⟩)) ?_
  refine lv (.pointer (some ⟨pg0, 0, none⟩)) ?_
  refine lv (.pointer (some ⟨pg0, 0, none⟩)) ?_
  refine lv (.pointer (some ⟨pg0, (0 + 0), none⟩)) ?_
  refine ls_load (a0 := ⟨pg0, (0 + 0), none⟩) (v := .slice A0_0 v0.1.length c0_0) (de := (TypeDesc.slice 5)) rfl rfl (by kernel_rfl) rfl (by kernel_rfl) (by kernel_rfl) (by kernel_rfl) (fun w hs => (hs.var (k := 0) (by exact rfl) (Sub4.trans (Sub4.all _) (Sub4.head _ _)))) ?_
  refine lv (.int .i64 t3.2.1) ?_
  obtain ⟨q34, H⟩ := ite_need H
  obtain ⟨q35, H⟩ := ite_need H
  obtain ⟨xl40, hy41, H⟩ := lt_some H
  have hz43 : (t3.2.1).toNat ≤ v0.1.length := by omega
  have hz44 : v0.1.length ≤ v0.1.length := by omega
  obtain ⟨xA36, xc37, he42, xC39, xR38⟩ := cut_at (A := A0_0) (c := c0_0) (l := v0.1) (Ec.int 5 .u8) ((t3.2.1).toNat) v0.1.length hz43 hz44 C0_0 R0_0 (m := xl40) (by rw [← hy41] <;> simp) (z := 1) rfl
  refine ls_cutv (A := A0_0) (c := c0_0) (m := v0.1.length) (z := 1) (e := 5) (a := (t3.2.1).toNat) (b := v0.1.length) rfl rfl (by kernel_rfl) rfl (by kernel_rfl) (by kernel_rfl) (by kernel_rfl) (.inr ⟨.i64, by rw [Int.toNat_of_nonneg (by first | assumption | omega)]; kernel_rfl⟩) (.inl ⟨rfl, rfl⟩) hz43 hz44 C0_0 he42 ?_
  refine lv (.pointer (some ⟨pg0, 0, none⟩)) ?_
  refine lv (.pointer (some ⟨pg0, (0 + 0), none⟩)) ?_
  refine ls_storec (g := pg0) (off := (0 + 0)) (v := .slice xA36 xl40.length xc37) (vs := [Value.slice xA36 xl40.length xc37]) (cs := ([Value.slice A0_0 v0.1.length c0_0] ++ [Value.bool (!decide (t3.2.2 = (0 : Int)))])) (ty := 89) 0 rfl rfl rfl (by kernel_rfl) (by kernel_rfl) (by kernel_rfl) (by exact rfl) (by kernel_rfl) (len1 _) (one_cons rfl one_nil) (hl_of (Sub4.trans (Sub4.all _) (Sub4.head _ _)) (len_eq (len1 _) (len1 _))) (cs' := ([Value.slice xA36 xl40.length xc37] ++ [Value.bool (!decide (t3.2.2 = (0 : Int)))])) (splc_in (Sub4.all _) (splc_head (len_eq (len1 _) (len1 _))) (splc_all (len_eq (len_app (len1 _) (len1 _)) (len_app (len1 _) (len1 _)))) (hl_of (Sub4.head _ _) (len_eq (len1 _) (len1 _)))) ?_
  refine ls_end ?_
  refine qn_block ?_
  refine qn_then ?_
  refine cs_region (l := [_, _]) ?_
  refine lv (.int .i64 (1 : Int)) ?_
  refine lv (.int .i64 (1 : Int)) ?_
  refine ls_end ?_
  refine qn_rounds ?_
  refine rs_succ ?_
  refine cs_seq ?_
  refine cs_region (l := [_]) ?_
  refine lv (.bool true) ?_
  refine ls_end ?_
  refine qn_then ?_
  refine cs_seq ?_
  refine cs_true (by kernel_rfl) ?_
  refine cs_skip' ?_
  refine qn_then ?_
  refine cs_seq ?_
  refine cs_block ?_
  refine cs_seq ?_
  refine cs_region (l := [_, _, _]) ?_
  obtain ⟨ad45, hA46⟩ := ido_at (T := (Ec.ptr 93)) (l := ([(some (pg1_0, (0 + 0))), (some (pg1_0, (0 + 1)))])) (i := (1 : Int)) R1 (by decide) (show (1 : Int) < (([(some (pg1_0, (0 + 0))), (some (pg1_0, (0 + 1)))]).length : Int) from of_decide_eq_true (by kernel_rfl))
  refine ls_idxv (Ec.ptr 93) (A := A1) (c := c1) (l := [(some (pg1_0, (0 + 0))), (some (pg1_0, (0 + 1)))]) (k := .i64) (i := (1 : Int)) (z := 1) (ad := ad45) rfl rfl (by kernel_rfl) hA46 rfl (by kernel_rfl) (by kernel_rfl) (by kernel_rfl) (by kernel_rfl) (by decide) (show (1 : Int) < (([(some (pg1_0, (0 + 0))), (some (pg1_0, (0 + 1)))]).length : Int) from of_decide_eq_true (by kernel_rfl)) ?_
  refine ls_load (a0 := (ad45.add (((1 : Int)).toNat * 1))) (v := .pointer (some ⟨pg1_0, (0 + 1), none⟩)) (de := (TypeDesc.pointer 9)) rfl rfl (by kernel_rfl) rfl (by kernel_rfl) (by kernel_rfl) (by kernel_rfl) (fun w hs => (hs.old R1).at hA46 (em_sub (Ec.ptr 93) ([(some (pg1_0, (0 + 0))), (some (pg1_0, (0 + 1)))]) (i := ((1 : Int)).toNat) (by have h0 : (0 : Int) ≤ (1 : Int) := (by decide); have h1 : (1 : Int) < (([(some (pg1_0, (0 + 0))), (some (pg1_0, (0 + 1)))]).length : Int) := (show (1 : Int) < (([(some (pg1_0, (0 + 0))), (some (pg1_0, (0 + 1)))]).length : Int) from of_decide_eq_true (by kernel_rfl)); omega))) ?_
  refine lv (.pointer (some ⟨pg1_0, (0 + 1), none⟩)) ?_
  refine ls_end ?_
  refine qn_then ?_
  refine cs_seq ?_
  refine cs_region (l := [_, _, _, _, _, _, _, _, _, _, _, _]) ?_
  refine lv (.pointer (some ⟨pg0, 0, none⟩)) ?_
  refine lv (.pointer (some ⟨pg0, 0, none⟩)) ?_
  refine lv (.pointer (some ⟨pg0, (0 + 0), none⟩)) ?_
  refine ls_load (a0 := ⟨pg0, (0 + 0), none⟩) (v := .slice xA36 xl40.length xc37) (de := (TypeDesc.slice 5)) rfl rfl (by kernel_rfl) rfl (by kernel_rfl) (by kernel_rfl) (by kernel_rfl) (fun w hs => (hs.var (k := 0) (by exact rfl) (Sub4.trans (Sub4.all _) (Sub4.head _ _)))) ?_
  obtain ⟨t47, hc48, H⟩ := bind_some H
  refine ls_callb (fid := 58) (vals := #[.slice xA36 xl40.length xc37, .int .i64 (400 : Int)]) (X := Unit) (fun x => .tuple #[.string t47.1, .int .i64 t47.2.1, .int .i64 t47.2.2]) (fun x => stl []) [] [] [] [] 2 rfl rfl (by kernel_rfl) (fun w => by kernel_rfl) trivial trivial (by decide) (fun w hs hb => codec_ReadText.calls k xA36 xc37 xl40 (400 : Int) t47 (lent b w [] []) hb (hs.ro xR38 _ _) xC39 hc48) ?_
  intro x49
  refine lv (.tuple #[.string t47.1, .int .i64 t47.2.1, .int .i64 t47.2.2]) ?_
  refine lv (.string t47.1) ?_
  refine lv (.int .i64 t47.2.1) ?_
  refine lv (.int .i64 t47.2.2) ?_
  refine lv (.string t47.1) ?_
  refine lv (.int .i64 t47.2.1) ?_
  refine lv (.int .i64 t47.2.2) ?_
  refine ls_end ?_
  refine qn_then ?_
  refine cs_seq ?_
  refine cs_region (l := [_, _, _, _, _, _, _, _, _, _, _, _]) ?_
  refine lv (.pointer (some ⟨pg0, 0, none⟩)) ?_
  refine lv (.pointer (some ⟨pg0, 0, none⟩)) ?_
  refine lv (.pointer (some ⟨pg0, 0, none⟩)) ?_
  refine lv (.pointer (some ⟨pg0, (0 + 1), none⟩)) ?_
  refine ls_load (a0 := ⟨pg0, (0 + 1), none⟩) (v := .bool (!decide (t3.2.2 = (0 : Int)))) (de := TypeDesc.bool) rfl rfl (by kernel_rfl) rfl (by kernel_rfl) (by kernel_rfl) (by kernel_rfl) (fun w hs => (hs.var (k := 0) (by exact rfl) (Sub4.trans (Sub4.all _) (Sub4.skip (n := 1) (len1 _) (Sub4.all _))))) ?_
  refine lv (.bool (!decide (t3.2.2 = (0 : Int)))) ?_
  by_cases q50 : (!decide (t3.2.2 = (0 : Int))) = true
  · replace H := ite_t q50 H
    refine ls_know (c := true) (q50) 29 (by kernel_rfl) ?_
    refine lofx 5 29 false true ?_
    refine lofx 5 29 false true ?_
    refine lv (.bool true) ?_
    refine lv (.pointer (some ⟨pg0, 0, none⟩)) ?_
    refine lv (.pointer (some ⟨pg0, (0 + 1), none⟩)) ?_
    refine ls_storec (g := pg0) (off := (0 + 1)) (v := .bool true) (vs := [Value.bool true]) (cs := ([Value.slice xA36 xl40.length xc37] ++ [Value.bool (!decide (t3.2.2 = (0 : Int)))])) (ty := 89) 0 rfl rfl rfl (by kernel_rfl) (by kernel_rfl) (by kernel_rfl) (by exact rfl) (by kernel_rfl) (len1 _) (one_cons rfl one_nil) (hl_of (Sub4.trans (Sub4.all _) (Sub4.skip (n := 1) (len1 _) (Sub4.all _))) (len_eq (len1 _) (len1 _))) (cs' := ([Value.slice xA36 xl40.length xc37] ++ [Value.bool true])) (splc_in (Sub4.all _) (splc_skip (n := 1) (len1 _) (splc_all (len_eq (len1 _) (len1 _)))) (splc_all (len_eq (len_app (len1 _) (len1 _)) (len_app (len1 _) (len1 _)))) (hl_of (Sub4.skip (n := 1) (len1 _) (Sub4.all _)) (len_eq (len1 _) (len1 _)))) ?_
    refine ls_end ?_
    refine qn_then ?_
    refine cs_seq ?_
    refine cs_region (l := [_, _, _, _]) ?_
    refine lv (.pointer (some ⟨pg1_0, (0 + 1), none⟩)) ?_
    refine lv (.string t47.1) ?_
    refine lv (.pointer (some ⟨pg1_0, (0 + 1), none⟩)) ?_
    refine ls_storec (g := pg1_0) (off := (0 + 1)) (v := .string t47.1) (vs := [Value.string t47.1]) (cs := ([Value.string t3.1] ++ [Value.string v1_0.2])) (ty := 67) 1 rfl rfl rfl (by kernel_rfl) (by kernel_rfl) (by kernel_rfl) (by exact rfl) (by kernel_rfl) (len1 _) (one_cons rfl one_nil) (hl_of (Sub4.trans (Sub4.all _) (Sub4.skip (n := 1) (len1 _) (Sub4.all _))) (len_eq (len1 _) (len1 _))) (cs' := ([Value.string t3.1] ++ [Value.string t47.1])) (splc_in (Sub4.all _) (splc_skip (n := 1) (len1 _) (splc_all (len_eq (len1 _) (len1 _)))) (splc_all (len_eq (len_app (len1 _) (len1 _)) (len_app (len1 _) (len1 _)))) (hl_of (Sub4.skip (n := 1) (len1 _) (Sub4.all _)) (len_eq (len1 _) (len1 _)))) ?_
    refine ls_end ?_
    refine qn_then ?_
    refine cs_region (l := [_, _, _, _, _, _, _, _, _, _]) ?_
    refine lv (.pointer (some ⟨pg0, 0, none⟩)) ?_
    refine lv (.pointer (some ⟨pg0, 0, none⟩)) ?_
    refine lv (.pointer (some ⟨pg0, 0, none⟩)) ?_
    refine lv (.pointer (some ⟨pg0, (0 + 0), none⟩)) ?_
    refine ls_load (a0 := ⟨pg0, (0 + 0), none⟩) (v := .slice xA36 xl40.length xc37) (de := (TypeDesc.slice 5)) rfl rfl (by kernel_rfl) rfl (by kernel_rfl) (by kernel_rfl) (by kernel_rfl) (fun w hs => (hs.var (k := 0) (by exact rfl) (Sub4.trans (Sub4.all _) (Sub4.head _ _)))) ?_
    refine lv (.int .i64 t47.2.1) ?_
    obtain ⟨q51, H⟩ := ite_need H
    obtain ⟨q52, H⟩ := ite_need H
    obtain ⟨xl57, hy58, H⟩ := lt_some H
    have hz60 : (t47.2.1).toNat ≤ xl40.length := by omega
    have hz61 : xl40.length ≤ xl40.length := by omega
    obtain ⟨xA53, xc54, he59, xC56, xR55⟩ := cut_at (A := xA36) (c := xc37) (l := xl40) (Ec.int 5 .u8) ((t47.2.1).toNat) xl40.length hz60 hz61 xC39 xR38 (m := xl57) (by rw [← hy58] <;> simp) (z := 1) rfl
    refine ls_cutv (A := xA36) (c := xc37) (m := xl40.length) (z := 1) (e := 5) (a := (t47.2.1).toNat) (b := xl40.length) rfl rfl (by kernel_rfl) rfl (by kernel_rfl) (by kernel_rfl) (by kernel_rfl) (.inr ⟨.i64, by rw [Int.toNat_of_nonneg (by first | assumption | omega)]; kernel_rfl⟩) (.inl ⟨rfl, rfl⟩) hz60 hz61 xC39 he59 ?_
    refine lv (.pointer (some ⟨pg0, 0, none⟩)) ?_
    refine lv (.pointer (some ⟨pg0, (0 + 0), none⟩)) ?_
    refine ls_storec (g := pg0) (off := (0 + 0)) (v := .slice xA53 xl57.length xc54) (vs := [Value.slice xA53 xl57.length xc54]) (cs := ([Value.slice xA36 xl40.length xc37] ++ [Value.bool true])) (ty := 89) 0 rfl rfl rfl (by kernel_rfl) (by kernel_rfl) (by kernel_rfl) (by exact rfl) (by kernel_rfl) (len1 _) (one_cons rfl one_nil) (hl_of (Sub4.trans (Sub4.all _) (Sub4.head _ _)) (len_eq (len1 _) (len1 _))) (cs' := ([Value.slice xA53 xl57.length xc54] ++ [Value.bool true])) (splc_in (Sub4.all _) (splc_head (len_eq (len1 _) (len1 _))) (splc_all (len_eq (len_app (len1 _) (len1 _)) (len_app (len1 _) (len1 _)))) (hl_of (Sub4.head _ _) (len_eq (len1 _) (len1 _)))) ?_
    refine ls_end ?_
    refine qn_block ?_
    refine qn_then ?_
    refine cs_region (l := [_, _]) ?_
    refine lv (.int .i64 (2 : Int)) ?_
    refine lv (.int .i64 (2 : Int)) ?_
    refine ls_end ?_
    refine qn_rounds ?_
    refine rs_succ ?_
    refine cs_seq ?_
    refine cs_region (l := [_]) ?_
    refine lv (.bool false) ?_
    refine ls_end ?_
    refine qn_then ?_
    refine cs_seq ?_
    refine cs_false (by kernel_rfl) ?_
    refine cs_exit' ?_
    refine qx_then ?_
    refine qx_then ?_
    refine qx_same ?_
    obtain rfl := Option.some.inj H
    refine qn_res (rs := []) rfl (fun w' hs => ⟨[], (.nil), (xA53, xc54), rfl, ⟨xR55, xC56⟩, hs.pick (ts := [0, 1]) (cs := [Ck.var 89 pg0 (([Value.slice xA53 xl57.length xc54] ++ [Value.bool true])), Ck.var 67 pg1_0 (([Value.string t3.1] ++ [Value.string t47.1]))]) ⟨by exact rfl, by exact rfl, trivial⟩ (by decide)⟩)
  replace H := ite_f q50 H
  refine ls_know (c := false) (Bool.eq_false_iff.mpr q50) 29 (by kernel_rfl) ?_
  refine ls_on (j := 5) (t := 29) (b := false) rfl rfl (by kernel_rfl) (by kernel_rfl) ?_
  refine lv (.int .i64 t47.2.2) ?_
  refine ls_on (j := 5) (t := 29) (b := false) rfl rfl (by kernel_rfl) (by kernel_rfl) ?_
  refine lv (.bool (!decide (t47.2.2 = (0 : Int)))) ?_
  refine lv (.bool (!decide (t47.2.2 = (0 : Int)))) ?_
  refine lv (.pointer (some ⟨pg0, 0, none⟩)) ?_
  refine lv (.pointer (some ⟨pg0, (0 + 1), none⟩)) ?_
  refine ls_storec (g := pg0) (off := (0 + 1)) (v := .bool (!decide (t47.2.2 = (0 : Int)))) (vs := [Value.bool (!decide (t47.2.2 = (0 : Int)))]) (cs := ([Value.slice xA36 xl40.length xc37] ++ [Value.bool (!decide (t3.2.2 = (0 : Int)))])) (ty := 89) 0 rfl rfl rfl (by kernel_rfl) (by kernel_rfl) (by kernel_rfl) (by exact rfl) (by kernel_rfl) (len1 _) (one_cons rfl one_nil) (hl_of (Sub4.trans (Sub4.all _) (Sub4.skip (n := 1) (len1 _) (Sub4.all _))) (len_eq (len1 _) (len1 _))) (cs' := ([Value.slice xA36 xl40.length xc37] ++ [Value.bool (!decide (t47.2.2 = (0 : Int)))])) (splc_in (Sub4.all _) (splc_skip (n := 1) (len1 _) (splc_all (len_eq (len1 _) (len1 _)))) (splc_all (len_eq (len_app (len1 _) (len1 _)) (len_app (len1 _) (len1 _)))) (hl_of (Sub4.skip (n := 1) (len1 _) (Sub4.all _)) (len_eq (len1 _) (len1 _)))) ?_
  refine ls_end ?_
  refine qn_then ?_
  refine cs_seq ?_
  refine cs_region (l := [_, _, _, _]) ?_
  refine lv (.pointer (some ⟨pg1_0, (0 + 1), none⟩)) ?_
  refine lv (.string t47.1) ?_
  refine lv (.pointer (some ⟨pg1_0, (0 + 1), none⟩)) ?_
  refine ls_storec (g := pg1_0) (off := (0 + 1)) (v := .string t47.1) (vs := [Value.string t47.1]) (cs := ([Value.string t3.1] ++ [Value.string v1_0.2])) (ty := 67) 1 rfl rfl rfl (by kernel_rfl) (by kernel_rfl) (by kernel_rfl) (by exact rfl) (by kernel_rfl) (len1 _) (one_cons rfl one_nil) (hl_of (Sub4.trans (Sub4.all _) (Sub4.skip (n := 1) (len1 _) (Sub4.all _))) (len_eq (len1 _) (len1 _))) (cs' := ([Value.string t3.1] ++ [Value.string t47.1])) (splc_in (Sub4.all _) (splc_skip (n := 1) (len1 _) (splc_all (len_eq (len1 _) (len1 _)))) (splc_all (len_eq (len_app (len1 _) (len1 _)) (len_app (len1 _) (len1 _)))) (hl_of (Sub4.skip (n := 1) (len1 _) (Sub4.all _)) (len_eq (len1 _) (len1 _)))) ?_
  refine ls_end ?_
  refine qn_then ?_
  refine cs_region (l := [_, _, _, _, _, _, _, _, _, _]) ?_
  refine lv (.pointer (some ⟨pg0, 0, none⟩)) ?_
  refine lv (.pointer (some ⟨pg0, 0, none⟩)) ?_
  refine lv (.pointer (some ⟨pg0, 0, none⟩)) ?_
  refine lv (.pointer (some ⟨pg0, (0 + 0), none⟩)) ?_
  refine ls_load (a0 := ⟨pg0, (0 + 0), none⟩) (v := .slice xA36 xl40.length xc37) (de := (TypeDesc.slice 5)) rfl rfl (by kernel_rfl) rfl (by kernel_rfl) (by kernel_rfl) (by kernel_rfl) (fun w hs => (hs.var (k := 0) (by exact rfl) (Sub4.trans (Sub4.all _) (Sub4.head _ _)))) ?_
  refine lv (.int .i64 t47.2.1) ?_
  obtain ⟨q62, H⟩ := ite_need H
  obtain ⟨q63, H⟩ := ite_need H
  obtain ⟨xl68, hy69, H⟩ := lt_some H
  have hz71 : (t47.2.1).toNat ≤ xl40.length := by omega
  have hz72 : xl40.length ≤ xl40.length := by omega
  obtain ⟨xA64, xc65, he70, xC67, xR66⟩ := cut_at (A := xA36) (c := xc37) (l := xl40) (Ec.int 5 .u8) ((t47.2.1).toNat) xl40.length hz71 hz72 xC39 xR38 (m := xl68) (by rw [← hy69] <;> simp) (z := 1) rfl
  refine ls_cutv (A := xA36) (c := xc37) (m := xl40.length) (z := 1) (e := 5) (a := (t47.2.1).toNat) (b := xl40.length) rfl rfl (by kernel_rfl) rfl (by kernel_rfl) (by kernel_rfl) (by kernel_rfl) (.inr ⟨.i64, by rw [Int.toNat_of_nonneg (by first | assumption | omega)]; kernel_rfl⟩) (.inl ⟨rfl, rfl⟩) hz71 hz72 xC39 he70 ?_
  refine lv (.pointer (some ⟨pg0, 0, none⟩)) ?_
  refine lv (.pointer (some ⟨pg0, (0 + 0), none⟩)) ?_
  refine ls_storec (g := pg0) (off := (0 + 0)) (v := .slice xA64 xl68.length xc65) (vs := [Value.slice xA64 xl68.length xc65]) (cs := ([Value.slice xA36 xl40.length xc37] ++ [Value.bool (!decide (t47.2.2 = (0 : Int)))])) (ty := 89) 0 rfl rfl rfl (by kernel_rfl) (by kernel_rfl) (by kernel_rfl) (by exact rfl) (by kernel_rfl) (len1 _) (one_cons rfl one_nil) (hl_of (Sub4.trans (Sub4.all _) (Sub4.head _ _)) (len_eq (len1 _) (len1 _))) (cs' := ([Value.slice xA64 xl68.length xc65] ++ [Value.bool (!decide (t47.2.2 = (0 : Int)))])) (splc_in (Sub4.all _) (splc_head (len_eq (len1 _) (len1 _))) (splc_all (len_eq (len_app (len1 _) (len1 _)) (len_app (len1 _) (len1 _)))) (hl_of (Sub4.head _ _) (len_eq (len1 _) (len1 _)))) ?_
  refine ls_end ?_
  refine qn_block ?_
  refine qn_then ?_
  refine cs_region (l := [_, _]) ?_
  refine lv (.int .i64 (2 : Int)) ?_
  refine lv (.int .i64 (2 : Int)) ?_
  refine ls_end ?_
  refine qn_rounds ?_
  refine rs_succ ?_
  refine cs_seq ?_
  refine cs_region (l := [_]) ?_
  refine lv (.bool false) ?_
  refine ls_end ?_
  refine qn_then ?_
  refine cs_seq ?_
  refine cs_false (by kernel_rfl) ?_
  refine cs_exit' ?_
  refine qx_then ?_
  refine qx_then ?_
  refine qx_same ?_
  obtain rfl := Option.some.inj H
  refine qn_res (rs := []) rfl (fun w' hs => ⟨[], (.nil), (xA64, xc65), rfl, ⟨xR66, xC67⟩, hs.pick (ts := [0, 1]) (cs := [Ck.var 89 pg0 (([Value.slice xA64 xl68.length xc65] ++ [Value.bool (!decide (t47.2.2 = (0 : Int)))])), Ck.var 67 pg1_0 (([Value.string t3.1] ++ [Value.string t47.1]))]) ⟨by exact rfl, by exact rfl, trivial⟩ (by decide)⟩)

/-! ### shadowbox/record.Read: function 23 -/
def record_Read.jo1 (k : Nat) (l0 : List Int) (m1_1 : ((List Int) × Bool)) (m2_1 : (Int × Int × Int × Int × ByteArray × ByteArray × (List (ByteArray × ByteArray)))) : Option ((Int × Int × Int × Int × ByteArray × ByteArray × (List (ByteArray × ByteArray))) × Int) := (if m1_1.2 = true then some (((0 : Int), (0 : Int), (0 : Int), (0 : Int), ByteArray.empty, ByteArray.empty, ([] : List (ByteArray × ByteArray))), (11 : Int)) else (if (m1_1.1.length : Int) > (0 : Int) then some (((0 : Int), (0 : Int), (0 : Int), (0 : Int), ByteArray.empty, ByteArray.empty, ([] : List (ByteArray × ByteArray))), (11 : Int)) else (record_Right.f k (m2_1.1, m2_1.2.1, m2_1.2.2.1, m2_1.2.2.2.1, m2_1.2.2.2.2.1, m2_1.2.2.2.2.2.1, m2_1.2.2.2.2.2.2)).bind fun t43 => (if t43 = true then (record_Version_bytes.f k (m2_1.1, m2_1.2.1, m2_1.2.2.1, m2_1.2.2.2.1, m2_1.2.2.2.2.1, m2_1.2.2.2.2.2.1, m2_1.2.2.2.2.2.2)).bind fun t47 => (bytes_Equal.f k t47 l0).bind fun t50 => (if t50 = true then some ((m2_1.1, m2_1.2.1, m2_1.2.2.1, m2_1.2.2.2.1, m2_1.2.2.2.2.1, m2_1.2.2.2.2.2.1, m2_1.2.2.2.2.2.2), (0 : Int)) else some (((0 : Int), (0 : Int), (0 : Int), (0 : Int), ByteArray.empty, ByteArray.empty, ([] : List (ByteArray × ByteArray))), (11 : Int))) else some (((0 : Int), (0 : Int), (0 : Int), (0 : Int), ByteArray.empty, ByteArray.empty, ([] : List (ByteArray × ByteArray))), (11 : Int)))))
def record_Read.lo2 (t35 : ((List Int) × Bool) × Int) (jo1 : (((List Int) × Bool)) → ((Int × Int × Int × Int × ByteArray × ByteArray × (List (ByteArray × ByteArray)))) → Option ((Int × Int × Int × Int × ByteArray × ByteArray × (List (ByteArray × ByteArray))) × Int)) : Nat → Int → (((List Int) × Bool)) → ((Int × Int × Int × Int × ByteArray × ByteArray × (List (ByteArray × ByteArray)))) → Option ((Int × Int × Int × Int × ByteArray × ByteArray × (List (ByteArray × ByteArray))) × Int)
  | 0, _, _, _ => none
  | k2 + 1, x7_2, m1_2, m2_2 => (if x7_2 < t35.2 then (if m1_2.2 = true then jo1 (m1_2.1, m1_2.2) (m2_2.1, m2_2.2.1, m2_2.2.2.1, m2_2.2.2.2.1, m2_2.2.2.2.2.1, m2_2.2.2.2.2.2.1, m2_2.2.2.2.2.2.2) else (if x7_2 ≤ (8 : Int) then (record_reader_texts_sits_0f0_0f1.f k2 (m1_2.1, m1_2.2) (ByteArray.empty, ByteArray.empty)).bind fun t69 => (if (m2_2.2.2.2.2.2.2.length + ([t69.2]).length) * 32 ≤ 140737488355328 then (record_Read.lo2 t35 jo1 k2) (IntKind.wrap .i64 (x7_2 + (1 : Int))) (t69.1.1, t69.1.2) (m2_2.1, m2_2.2.1, m2_2.2.2.1, m2_2.2.2.2.1, m2_2.2.2.2.2.1, m2_2.2.2.2.2.2.1, (m2_2.2.2.2.2.2.2 ++ [t69.2])) else none) else jo1 (m1_2.1, m1_2.2) (m2_2.1, m2_2.2.1, m2_2.2.2.1, m2_2.2.2.2.1, m2_2.2.2.2.2.1, m2_2.2.2.2.2.2.1, m2_2.2.2.2.2.2.2))) else jo1 (m1_2.1, m1_2.2) (m2_2.1, m2_2.2.1, m2_2.2.2.1, m2_2.2.2.2.1, m2_2.2.2.2.2.1, m2_2.2.2.2.2.2.1, m2_2.2.2.2.2.2.2))
def record_Read.f (k : Nat) (l0 : List Int) : Option ((Int × Int × Int × Int × ByteArray × ByteArray × (List (ByteArray × ByteArray))) × Int) :=
  (record_reader_numbers_sits_0f0_0f1_0f2_0f3.f k (l0, false) ((0 : Int), (0 : Int), (0 : Int), (0 : Int), ByteArray.empty, ByteArray.empty, ([] : List (ByteArray × ByteArray)))).bind fun t11 => (record_reader_texts_sits_0f4_0f5.f k (t11.1.1, t11.1.2) (t11.2.1, t11.2.2.1, t11.2.2.2.1, t11.2.2.2.2.1, t11.2.2.2.2.2.1, t11.2.2.2.2.2.2.1, ([] : List (ByteArray × ByteArray)))).bind fun t23 => (record_reader_numbers_sits_0.f k (t23.1.1, t23.1.2) (0 : Int)).bind fun t35 => record_Read.lo2 t35 (record_Read.jo1 k l0) k (0 : Int) (t35.1.1, t35.1.2) (t23.2.1, t23.2.2.1, t23.2.2.2.1, t23.2.2.2.2.1, t23.2.2.2.2.2.1, t23.2.2.2.2.2.2.1, ([] : List (ByteArray × ByteArray)))
set_option maxRecDepth 100000 in
set_option maxHeartbeats 4000000 in
theorem record_Read.calls (k : Nat) (A0 : Option Addr) (c0 : Nat) (l0 : List Int) (r : (Int × Int × Int × Int × ByteArray × ByteArray × (List (ByteArray × ByteArray))) × Int) (b : Bs) (hs0 : St b (stl []) b.w) (R0 : Ro b A0 (em (Ec.int 5 .u8) l0)) (C0 : l0.length ≤ c0) (H : record_Read.f k l0 = some r) :
    Calls Try.prog 23 #[.slice A0 l0.length c0] b.w fun e w' => ∃ b', b.le b' ∧ ∃ x : (Option Addr × Nat), e = .returned (.tuple #[.agg ⟨([Value.int .i64 r.1.1] ++ ([Value.int .i64 r.1.2.1] ++ ([Value.int .i64 r.1.2.2.1] ++ ([Value.int .i64 r.1.2.2.2.1] ++ ([Value.string r.1.2.2.2.2.1] ++ ([Value.string r.1.2.2.2.2.2.1] ++ [Value.slice x.1 r.1.2.2.2.2.2.2.length x.2]))))))⟩, .int .i64 r.2]) ∧ ((Ro b' x.1 (em T67 r.1.2.2.2.2.2.2) ∧ r.1.2.2.2.2.2.2.length ≤ x.2)) ∧ St b' (stl []) w' := by
  unfold record_Read.f at H
  refine enterb (n := 80) Try.func23 rfl (by kernel_rfl) (by kernel_rfl) hs0 ?_
  refine cs_sub (s0) (sub_nil _) ?_
  refine cs_seq ?_
  refine cs_region (l := [_, _]) ?_
  refine ls_new rfl rfl (by kernel_rfl) 0 (fun g => .pointer (some ⟨g, 0, none⟩)) (.cells ⟨([Value.int .i64 (0 : Int)] ++ ([Value.int .i64 (0 : Int)] ++ ([Value.int .i64 (0 : Int)] ++ ([Value.int .i64 (0 : Int)] ++ ([Value.string ByteArray.empty] ++ ([Value.string ByteArray.empty] ++ [Value.slice none 0 0]))))))⟩ 51) (fun w => by kernel_rfl) ?_
  intro g1
  refine lv (.int .i64 (0 : Int)) ?_
  refine ls_end ?_
  refine qn_then ?_
  refine cs_seq ?_
  refine cs_region (l := [_, _, _, _]) ?_
  refine lv (.slice A0 l0.length c0) ?_
  refine lv (.agg ⟨([Value.slice A0 l0.length c0] ++ [Value.bool false])⟩) ?_
  refine ls_new rfl rfl (by kernel_rfl) 1 (fun g => .pointer (some ⟨g, 0, none⟩)) (.cells ⟨([Value.slice A0 l0.length c0] ++ [Value.bool false])⟩ 89) (fun w => by kernel_rfl) ?_
  intro g2
  refine lv (.pointer (some ⟨g2, 0, none⟩)) ?_
  refine ls_end ?_
  refine qn_then ?_
  refine cs_seq ?_
  refine cs_region (l := [_]) ?_
  refine ls_new rfl rfl (by kernel_rfl) 2 (fun g => .pointer (some ⟨g, 0, none⟩)) (.cells ⟨([Value.int .i64 (0 : Int)] ++ ([Value.int .i64 (0 : Int)] ++ ([Value.int .i64 (0 : Int)] ++ ([Value.int .i64 (0 : Int)] ++ ([Value.string ByteArray.empty] ++ ([Value.string ByteArray.empty] ++ [Value.slice none 0 0]))))))⟩ 51) (fun w => by kernel_rfl) ?_
  intro g3
  refine ls_end ?_
  refine qn_then ?_
  refine cs_seq ?_
  refine cs_region (l := [_, _]) ?_
  refine ls_new rfl rfl (by kernel_rfl) 3 (fun g => .pointer (some ⟨g, 0, none⟩)) (.cells ⟨[Value.int .i64 (0 : Int)]⟩ 3) (fun w => by kernel_rfl) ?_
  intro g4
  refine ls_storec (g := g4) (off := 0) (v := .int .i64 (0 : Int)) (vs := [Value.int .i64 (0 : Int)]) (cs := [Value.int .i64 (0 : Int)]) (ty := 3) 3 rfl rfl rfl (by kernel_rfl) (by kernel_rfl) (by kernel_rfl) (by exact rfl) (by kernel_rfl) (len1 _) (one_cons rfl one_nil) (hl_of (Sub4.all _) (len_eq (len1 _) (len1 _))) (cs' := [Value.int .i64 (0 : Int)]) (splc_all (len_eq (len1 _) (len1 _))) ?_
  refine ls_end ?_
  refine qn_then ?_
  refine cs_seq ?_
  refine cs_region (l := [_, _, _, _, _, _, _]) ?_
  refine lv (.pointer (some ⟨g2, 0, none⟩)) ?_
  refine lv (.pointer (some ⟨g3, (0 + 0), none⟩)) ?_
  refine lv (.pointer (some ⟨g3, (0 + 1), none⟩)) ?_
  refine lv (.pointer (some ⟨g3, (0 + 2), none⟩)) ?_
  refine lv (.pointer (some ⟨g3, (0 + 3), none⟩)) ?_
  refine ls_lit (Ec.ptr 91) 4 rfl rfl (by kernel_rfl) ([(some (g3, (0 + 0))), (some (g3, (0 + 1))), (some (g3, (0 + 2))), (some (g3, (0 + 3)))]) (by exact of_decide_eq_true (by kernel_rfl)) (fun w => by kernel_rfl) ?_
  intro g5
  obtain ⟨t11, hc12, H⟩ := bind_some H
  refine ls_freeze (T := (Ec.ptr 91)) (A := (some ⟨g5, 0, none⟩)) (c := ([(some (g3, (0 + 0))), (some (g3, (0 + 1))), (some (g3, (0 + 2))), (some (g3, (0 + 3)))].length)) (l := ([(some (g3, (0 + 0))), (some (g3, (0 + 1))), (some (g3, (0 + 2))), (some (g3, (0 + 3)))])) 4 (by exact rfl) ?_
  intro bs6 hle7 hok8 fR9 fC10
  refine ls_callg (fid := 43) (vals := #[.pointer (some ⟨g2, 0, none⟩), .slice (some ⟨g5, 0, none⟩) ([(some (g3, (0 + 0))), (some (g3, (0 + 1))), (some (g3, (0 + 2))), (some (g3, (0 + 3)))]).length [(some (g3, (0 + 0))), (some (g3, (0 + 1))), (some (g3, (0 + 2))), (some (g3, (0 + 3)))].length]) (X := (Option Addr × Nat)) (fun x => .tuple #[]) (fun x => stl [Ck.var 89 g2 (([Value.slice x.1 t11.1.1.length x.2] ++ [Value.bool t11.1.2])), Ck.var 51 g3 (([Value.int .i64 t11.2.1] ++ ([Value.int .i64 t11.2.2.1] ++ ([Value.int .i64 t11.2.2.2.1] ++ ([Value.int .i64 t11.2.2.2.2.1] ++ ([Value.string t11.2.2.2.2.2.1] ++ ([Value.string t11.2.2.2.2.2.2.1] ++ [Value.slice none 0 0])))))))]) (fun x B => (Ro B x.1 (em (Ec.int 5 .u8) t11.1.1) ∧ t11.1.1.length ≤ x.2)) [1, 2] [Ck.var 89 g2 (([Value.slice A0 l0.length c0] ++ [Value.bool false])), Ck.var 51 g3 (([Value.int .i64 (0 : Int)] ++ ([Value.int .i64 (0 : Int)] ++ ([Value.int .i64 (0 : Int)] ++ ([Value.int .i64 (0 : Int)] ++ ([Value.string ByteArray.empty] ++ ([Value.string ByteArray.empty] ++ [Value.slice none 0 0])))))))] 5 rfl rfl (by kernel_rfl) (fun w => by kernel_rfl) ⟨by exact rfl, by exact rfl, trivial⟩ (by decide) (fun x b b' h hf => ⟨h _ _ hf.1, hf.2⟩) (fun w hs hb => record_reader_numbers_sits_0f0_0f1_0f2_0f3.calls k g2 A0 c0 (l0, false) g3 none 0 ((0 : Int), (0 : Int), (0 : Int), (0 : Int), ByteArray.empty, ByteArray.empty, ([] : List (ByteArray × ByteArray))) (some ⟨g5, 0, none⟩) ([(some (g3, (0 + 0))), (some (g3, (0 + 1))), (some (g3, (0 + 2))), (some (g3, (0 + 3)))].length) t11 (lent bs6 w [Ck.var 89 g2 (([Value.slice A0 l0.length c0] ++ [Value.bool false])), Ck.var 51 g3 (([Value.int .i64 (0 : Int)] ++ ([Value.int .i64 (0 : Int)] ++ ([Value.int .i64 (0 : Int)] ++ ([Value.int .i64 (0 : Int)] ++ ([Value.string ByteArray.empty] ++ ([Value.string ByteArray.empty] ++ [Value.slice none 0 0])))))))] []) hb (hs.ro (Ro.mono hok8 hle7 R0) _ _) C0 (Ro.nil _ _) (Nat.le_refl 0) (hs.ro fR9 _ _) fC10 hc12) ?_
  intro x13 hf16
  obtain ⟨fR14, fC15⟩ := hf16
  refine ls_end ?_
  refine qn_then ?_
  refine cs_seq ?_
  refine cs_region (l := [_, _, _, _, _]) ?_
  refine lv (.pointer (some ⟨g2, 0, none⟩)) ?_
  refine lv (.pointer (some ⟨g3, (0 + 4), none⟩)) ?_
  refine lv (.pointer (some ⟨g3, (0 + 5), none⟩)) ?_
  refine ls_lit (Ec.ptr 93) 5 rfl rfl (by kernel_rfl) ([(some (g3, (0 + 4))), (some (g3, (0 + 5)))]) (by exact of_decide_eq_true (by kernel_rfl)) (fun w => by kernel_rfl) ?_
  intro g17
  obtain ⟨t23, hc24, H⟩ := bind_some H
  refine ls_freeze (T := (Ec.ptr 93)) (A := (some ⟨g17, 0, none⟩)) (c := ([(some (g3, (0 + 4))), (some (g3, (0 + 5)))].length)) (l := ([(some (g3, (0 + 4))), (some (g3, (0 + 5)))])) 5 (by exact rfl) ?_
  intro bs18 hle19 hok20 fR21 fC22
  refine ls_callg (fid := 44) (vals := #[.pointer (some ⟨g2, 0, none⟩), .slice (some ⟨g17, 0, none⟩) ([(some (g3, (0 + 4))), (some (g3, (0 + 5)))]).length [(some (g3, (0 + 4))), (some (g3, (0 + 5)))].length]) (X := (Option Addr × Nat)) (fun x => .tuple #[]) (fun x => stl [Ck.var 89 g2 (([Value.slice x.1 t23.1.1.length x.2] ++ [Value.bool t23.1.2])), Ck.var 51 g3 (([Value.int .i64 t23.2.1] ++ ([Value.int .i64 t23.2.2.1] ++ ([Value.int .i64 t23.2.2.2.1] ++ ([Value.int .i64 t23.2.2.2.2.1] ++ ([Value.string t23.2.2.2.2.2.1] ++ ([Value.string t23.2.2.2.2.2.2.1] ++ [Value.slice none 0 0])))))))]) (fun x B => (Ro B x.1 (em (Ec.int 5 .u8) t23.1.1) ∧ t23.1.1.length ≤ x.2)) [1, 2] [Ck.var 89 g2 (([Value.slice x13.1 t11.1.1.length x13.2] ++ [Value.bool t11.1.2])), Ck.var 51 g3 (([Value.int .i64 t11.2.1] ++ ([Value.int .i64 t11.2.2.1] ++ ([Value.int .i64 t11.2.2.2.1] ++ ([Value.int .i64 t11.2.2.2.2.1] ++ ([Value.string t11.2.2.2.2.2.1] ++ ([Value.string t11.2.2.2.2.2.2.1] ++ [Value.slice none 0 0])))))))] 6 rfl rfl (by kernel_rfl) (fun w => by kernel_rfl) ⟨by exact rfl, by exact rfl, trivial⟩ (by decide) (fun x b b' h hf => ⟨h _ _ hf.1, hf.2⟩) (fun w hs hb => record_reader_texts_sits_0f4_0f5.calls k g2 x13.1 x13.2 (t11.1.1, t11.1.2) g3 none 0 (t11.2.1, t11.2.2.1, t11.2.2.2.1, t11.2.2.2.2.1, t11.2.2.2.2.2.1, t11.2.2.2.2.2.2.1, ([] : List (ByteArray × ByteArray))) (some ⟨g17, 0, none⟩) ([(some (g3, (0 + 4))), (some (g3, (0 + 5)))].length) t23 (lent bs18 w [Ck.var 89 g2 (([Value.slice x13.1 t11.1.1.length x13.2] ++ [Value.bool t11.1.2])), Ck.var 51 g3 (([Value.int .i64 t11.2.1] ++ ([Value.int .i64 t11.2.2.1] ++ ([Value.int .i64 t11.2.2.2.1] ++ ([Value.int .i64 t11.2.2.2.2.1] ++ ([Value.string t11.2.2.2.2.2.1] ++ ([Value.string t11.2.2.2.2.2.2.1] ++ [Value.slice none 0 0])))))))] []) hb (hs.ro (Ro.mono hok20 hle19 fR14) _ _) fC15 (Ro.nil _ _) (Nat.le_refl 0) (hs.ro fR21 _ _) fC22 hc24) ?_
  intro x25 hf28
  obtain ⟨fR26, fC27⟩ := hf28
  refine ls_end ?_
  refine qn_then ?_
  refine cs_seq ?_
  refine cs_region (l := [_, _, _]) ?_
  refine lv (.pointer (some ⟨g2, 0, none⟩)) ?_
  refine ls_lit (Ec.ptr 91) 6 rfl rfl (by kernel_rfl) ([(some (g4, 0))]) (by exact of_decide_eq_true (by kernel_rfl)) (fun w => by kernel_rfl) ?_
  intro g29
  obtain ⟨t35, hc36, H⟩ := bind_some H
  refine ls_freeze (T := (Ec.ptr 91)) (A := (some ⟨g29, 0, none⟩)) (c := ([(some (g4, 0))].length)) (l := ([(some (g4, 0))])) 6 (by exact rfl) ?_
  intro bs30 hle31 hok32 fR33 fC34
  refine ls_callg (fid := 43) (vals := #[.pointer (some ⟨g2, 0, none⟩), .slice (some ⟨g29, 0, none⟩) ([(some (g4, 0))]).length [(some (g4, 0))].length]) (X := (Option Addr × Nat)) (fun x => .tuple #[]) (fun x => stl [Ck.var 89 g2 (([Value.slice x.1 t35.1.1.length x.2] ++ [Value.bool t35.1.2])), Ck.var 3 g4 ([Value.int .i64 t35.2])]) (fun x B => (Ro B x.1 (em (Ec.int 5 .u8) t35.1.1) ∧ t35.1.1.length ≤ x.2)) [1, 3] [Ck.var 89 g2 (([Value.slice x25.1 t23.1.1.length x25.2] ++ [Value.bool t23.1.2])), Ck.var 3 g4 ([Value.int .i64 (0 : Int)])] 7 rfl rfl (by kernel_rfl) (fun w => by kernel_rfl) ⟨by exact rfl, by exact rfl, trivial⟩ (by decide) (fun x b b' h hf => ⟨h _ _ hf.1, hf.2⟩) (fun w hs hb => record_reader_numbers_sits_0.calls k g2 x25.1 x25.2 (t23.1.1, t23.1.2) g4 (0 : Int) (some ⟨g29, 0, none⟩) ([(some (g4, 0))].length) t35 (lent bs30 w [Ck.var 89 g2 (([Value.slice x25.1 t23.1.1.length x25.2] ++ [Value.bool t23.1.2])), Ck.var 3 g4 ([Value.int .i64 (0 : Int)])] []) hb (hs.ro (Ro.mono hok32 hle31 fR26) _ _) fC27 (hs.ro fR33 _ _) fC34 hc36) ?_
  intro x37 hf40
  obtain ⟨fR38, fC39⟩ := hf40
  refine ls_end ?_
  refine qn_then ?_
  refine cs_nilrow 7 T67 ?_
  refine cs_cutb (fun bh1 f S => ∃ (fR : Fr) (Am1_1_0 : Option Addr) (cm1_1_0 : Nat) (m1_1 : ((List Int) × Bool)) (Am2_1_6 : Option Addr) (cm2_1_6 : Nat) (m2_1 : (Int × Int × Int × Int × ByteArray × ByteArray × (List (ByteArray × ByteArray)))), f = upd (upd (upd (upd fR 0 (.slice A0 l0.length c0)) 2 (.pointer (some ⟨g1, 0, none⟩))) 4 (.pointer (some ⟨g2, 0, none⟩))) 5 (.pointer (some ⟨g3, 0, none⟩)) ∧ S = sput (sput (sput (sput s0 0 (some (Ck.var 51 g1 (([Value.int .i64 (0 : Int)] ++ ([Value.int .i64 (0 : Int)] ++ ([Value.int .i64 (0 : Int)] ++ ([Value.int .i64 (0 : Int)] ++ ([Value.string ByteArray.empty] ++ ([Value.string ByteArray.empty] ++ [Value.slice none 0 0])))))))))) 1 (some (Ck.var 89 g2 (([Value.slice Am1_1_0 m1_1.1.length cm1_1_0] ++ [Value.bool m1_1.2]))))) 2 (some (Ck.var 51 g3 (([Value.int .i64 m2_1.1] ++ ([Value.int .i64 m2_1.2.1] ++ ([Value.int .i64 m2_1.2.2.1] ++ ([Value.int .i64 m2_1.2.2.2.1] ++ ([Value.string m2_1.2.2.2.2.1] ++ ([Value.string m2_1.2.2.2.2.2.1] ++ [Value.slice Am2_1_6 m2_1.2.2.2.2.2.2.length cm2_1_6])))))))))) 7 (some (Ck.sl T67 Am2_1_6 cm2_1_6 m2_1.2.2.2.2.2.2)) ∧ Ro bh1 Am1_1_0 (em (Ec.int 5 .u8) m1_1.1) ∧ m1_1.1.length ≤ cm1_1_0 ∧ b.le bh1 ∧ Ro bh1 A0 (em (Ec.int 5 .u8) l0) ∧ record_Read.jo1 k l0 m1_1 m2_1 = some r) ?_ ?_
  · skip
    refine cs_seq ?_
    refine cs_region (l := [_]) ?_
    refine lv (.int .i64 (0 : Int)) ?_
    refine ls_end ?_
    refine qn_then ?_
    refine cs_block ?_
    refine cs_sub (sput (sput (sput (sput (sput s0 0 (some (Ck.var 51 g1 (([Value.int .i64 (0 : Int)] ++ ([Value.int .i64 (0 : Int)] ++ ([Value.int .i64 (0 : Int)] ++ ([Value.int .i64 (0 : Int)] ++ ([Value.string ByteArray.empty] ++ ([Value.string ByteArray.empty] ++ [Value.slice none 0 0])))))))))) 1 (some (Ck.var 89 g2 (([Value.slice x37.1 t35.1.1.length x37.2] ++ [Value.bool t35.1.2]))))) 2 (some (Ck.var 51 g3 (([Value.int .i64 t23.2.1] ++ ([Value.int .i64 t23.2.2.1] ++ ([Value.int .i64 t23.2.2.2.1] ++ ([Value.int .i64 t23.2.2.2.2.1] ++ ([Value.string t23.2.2.2.2.2.1] ++ ([Value.string t23.2.2.2.2.2.2.1] ++ [Value.slice none 0 0])))))))))) 3 (some (Ck.var 3 g4 ([Value.int .i64 t35.2])))) 7 (some (Ck.sl T67 none 0 ([] : List (ByteArray × ByteArray))))) (sub_put (by exact rfl) (sub_put (by exact rfl) (sub_put (by exact rfl) (sub_put (by exact rfl) (sub_put (by exact rfl) (sub_nil _)))))) ?_
    refine cs_loopb (fun kk bh2 f S => ∃ (fR : Fr) (x7_2 : Int) (Am1_2_0 : Option Addr) (cm1_2_0 : Nat) (m1_2 : ((List Int) × Bool)) (Am2_2_6 : Option Addr) (cm2_2_6 : Nat) (m2_2 : (Int × Int × Int × Int × ByteArray × ByteArray × (List (ByteArray × ByteArray)))), f = upd (upd (upd (upd (upd (upd fR 0 (.slice A0 l0.length c0)) 2 (.pointer (some ⟨g1, 0, none⟩))) 4 (.pointer (some ⟨g2, 0, none⟩))) 5 (.pointer (some ⟨g3, 0, none⟩))) 6 (.pointer (some ⟨g4, 0, none⟩))) 7 (.int .i64 x7_2) ∧ S = sput (sput (sput (sput (sput s0 0 (some (Ck.var 51 g1 (([Value.int .i64 (0 : Int)] ++ ([Value.int .i64 (0 : Int)] ++ ([Value.int .i64 (0 : Int)] ++ ([Value.int .i64 (0 : Int)] ++ ([Value.string ByteArray.empty] ++ ([Value.string ByteArray.empty] ++ [Value.slice none 0 0])))))))))) 1 (some (Ck.var 89 g2 (([Value.slice Am1_2_0 m1_2.1.length cm1_2_0] ++ [Value.bool m1_2.2]))))) 2 (some (Ck.var 51 g3 (([Value.int .i64 m2_2.1] ++ ([Value.int .i64 m2_2.2.1] ++ ([Value.int .i64 m2_2.2.2.1] ++ ([Value.int .i64 m2_2.2.2.2.1] ++ ([Value.string m2_2.2.2.2.2.1] ++ ([Value.string m2_2.2.2.2.2.2.1] ++ [Value.slice Am2_2_6 m2_2.2.2.2.2.2.2.length cm2_2_6])))))))))) 3 (some (Ck.var 3 g4 ([Value.int .i64 t35.2])))) 7 (some (Ck.sl T67 Am2_2_6 cm2_2_6 m2_2.2.2.2.2.2.2)) ∧ Ro bh2 Am1_2_0 (em (Ec.int 5 .u8) m1_2.1) ∧ m1_2.1.length ≤ cm1_2_0 ∧ b.le bh2 ∧ Ro bh2 A0 (em (Ec.int 5 .u8) l0) ∧ record_Read.lo2 t35 (record_Read.jo1 k l0) kk x7_2 m1_2 m2_2 = some r) k ?_ ?_ ?_
    · exact ⟨_, (0 : Int), x37.1, x37.2, (t35.1.1, t35.1.2), none, 0, (t23.2.1, t23.2.2.1, t23.2.2.2.1, t23.2.2.2.2.1, t23.2.2.2.2.2.1, t23.2.2.2.2.2.2.1, ([] : List (ByteArray × ByteArray))), fr_next (fr_next (fr_next (fr_next (fr_next (fr_next (rfl) (by kernel_rfl)) (by kernel_rfl)) (by kernel_rfl)) (by kernel_rfl)) (by kernel_rfl)) (by kernel_rfl), rfl, fR38, fC39, ((hle7.trans hle19).trans hle31), (Ro.mono hok32 hle31 (Ro.mono hok20 hle19 (Ro.mono hok8 hle7 R0))), H⟩
    · rintro bh2 f S ⟨fr2, x7_2, Am1_2_0, cm1_2_0, m1_2, Am2_2_6, cm2_2_6, m2_2, rfl, rfl, Rm1_2_0, Cm1_2_0, hleh2, Rb0_2, H⟩; cases H
    rintro k2 bh2 f S ⟨fr2, x7_2, Am1_2_0, cm1_2_0, m1_2, Am2_2_6, cm2_2_6, m2_2, rfl, rfl, Rm1_2_0, Cm1_2_0, hleh2, Rb0_2, H⟩
    replace H : ((if x7_2 < t35.2 then (if m1_2.2 = true then (record_Read.jo1 k l0) (m1_2.1, m1_2.2) (m2_2.1, m2_2.2.1, m2_2.2.2.1, m2_2.2.2.2.1, m2_2.2.2.2.2.1, m2_2.2.2.2.2.2.1, m2_2.2.2.2.2.2.2) else (if x7_2 ≤ (8 : Int) then (record_reader_texts_sits_0f0_0f1.f k2 (m1_2.1, m1_2.2) (ByteArray.empty, ByteArray.empty)).bind fun t69 => (if (m2_2.2.2.2.2.2.2.length + ([t69.2]).length) * 32 ≤ 140737488355328 then (record_Read.lo2 t35 (record_Read.jo1 k l0) k2) (IntKind.wrap .i64 (x7_2 + (1 : Int))) (t69.1.1, t69.1.2) (m2_2.1, m2_2.2.1, m2_2.2.2.1, m2_2.2.2.2.1, m2_2.2.2.2.2.1, m2_2.2.2.2.2.2.1, (m2_2.2.2.2.2.2.2 ++ [t69.2])) else none) else (record_Read.jo1 k l0) (m1_2.1, m1_2.2) (m2_2.1, m2_2.2.1, m2_2.2.2.1, m2_2.2.2.2.1, m2_2.2.2.2.2.1, m2_2.2.2.2.2.2.1, m2_2.2.2.2.2.2.2))) else (record_Read.jo1 k l0) (m1_2.1, m1_2.2) (m2_2.1, m2_2.2.1, m2_2.2.2.1, m2_2.2.2.2.1, m2_2.2.2.2.2.1, m2_2.2.2.2.2.2.1, m2_2.2.2.2.2.2.2))) = some r := H
    refine cs_seq ?_
    refine cs_seq ?_
    refine cs_region (l := [_, _, _, _, _, _, _, _, _, _, _, _, _, _]) ?_
    refine lv (.int .i64 x7_2) ?_
    refine ls_load (a0 := ⟨g4, 0, none⟩) (v := .int .i64 t35.2) (de := (TypeDesc.int .i64)) rfl rfl (by kernel_rfl) rfl (by kernel_rfl) (by kernel_rfl) (by kernel_rfl) (fun w hs => (hs.var (k := 3) (by exact rfl) (Sub4.all _))) ?_
    refine lv (.bool (decide (x7_2 < t35.2))) ?_
    refine lv (.bool (decide (x7_2 < t35.2))) ?_
    by_cases q59 : x7_2 < t35.2
    · replace H := ite_t q59 H
      refine ls_know (c := true) (dec_t q59) 30 (by kernel_rfl) ?_
      refine ls_on (j := 3) (t := 30) (b := true) rfl rfl (by kernel_rfl) (by kernel_rfl) ?_
      refine lv (.pointer (some ⟨g2, 0, none⟩)) ?_
      refine ls_on (j := 3) (t := 30) (b := true) rfl rfl (by kernel_rfl) (by kernel_rfl) ?_
      refine lv (.pointer (some ⟨g2, 0, none⟩)) ?_
      refine ls_on (j := 3) (t := 30) (b := true) rfl rfl (by kernel_rfl) (by kernel_rfl) ?_
      refine lv (.pointer (some ⟨g2, (0 + 1), none⟩)) ?_
      refine ls_on (j := 3) (t := 30) (b := true) rfl rfl (by kernel_rfl) (by kernel_rfl) ?_
      refine ls_load (a0 := ⟨g2, (0 + 1), none⟩) (v := .bool m1_2.2) (de := TypeDesc.bool) rfl rfl (by kernel_rfl) rfl (by kernel_rfl) (by kernel_rfl) (by kernel_rfl) (fun w hs => (hs.var (k := 1) (by exact rfl) (Sub4.trans (Sub4.all _) (Sub4.skip (n := 1) (len1 _) (Sub4.all _))))) ?_
      refine ls_on (j := 3) (t := 30) (b := true) rfl rfl (by kernel_rfl) (by kernel_rfl) ?_
      refine lv (.bool (!m1_2.2)) ?_
      refine lv (.bool (!m1_2.2)) ?_
      refine lv (.bool (!m1_2.2)) ?_
      by_cases q60 : m1_2.2 = true
      · replace H := ite_t q60 H
        refine ls_know (c := false) (congrArg Bool.not (q60)) 37 (by kernel_rfl) ?_
        refine lofx 10 37 true false ?_
        refine lofx 10 37 true false ?_
        refine lv (.bool false) ?_
        refine ls_end ?_
        refine qn_then ?_
        refine cs_false (by kernel_rfl) ?_
        refine cs_exit' ?_
        refine qx_then ?_
        refine qx_then ?_
        refine qx_same ?_
        refine qn_meetb (sput (sput (sput (sput s0 0 (some (Ck.var 51 g1 (([Value.int .i64 (0 : Int)] ++ ([Value.int .i64 (0 : Int)] ++ ([Value.int .i64 (0 : Int)] ++ ([Value.int .i64 (0 : Int)] ++ ([Value.string ByteArray.empty] ++ ([Value.string ByteArray.empty] ++ [Value.slice none 0 0])))))))))) 1 (some (Ck.var 89 g2 (([Value.slice Am1_2_0 m1_2.1.length cm1_2_0] ++ [Value.bool m1_2.2]))))) 2 (some (Ck.var 51 g3 (([Value.int .i64 m2_2.1] ++ ([Value.int .i64 m2_2.2.1] ++ ([Value.int .i64 m2_2.2.2.1] ++ ([Value.int .i64 m2_2.2.2.2.1] ++ ([Value.string m2_2.2.2.2.2.1] ++ ([Value.string m2_2.2.2.2.2.2.1] ++ [Value.slice Am2_2_6 m2_2.2.2.2.2.2.2.length cm2_2_6])))))))))) 7 (some (Ck.sl T67 Am2_2_6 cm2_2_6 m2_2.2.2.2.2.2.2))) ⟨_, Am1_2_0, cm1_2_0, (m1_2.1, m1_2.2), Am2_2_6, cm2_2_6, (m2_2.1, m2_2.2.1, m2_2.2.2.1, m2_2.2.2.2.1, m2_2.2.2.2.2.1, m2_2.2.2.2.2.2.1, m2_2.2.2.2.2.2.2), fr_next (fr_next (fr_next (fr_next (rfl) (by kernel_rfl)) (by kernel_rfl)) (by kernel_rfl)) (by kernel_rfl), rfl, Rm1_2_0, Cm1_2_0, hleh2, Rb0_2, H⟩ (sub_put (by exact rfl) (sub_put (by exact rfl) (sub_put (by exact rfl) (sub_put (by exact rfl) (sub_nil _)))))
      replace H := ite_f q60 H
      refine ls_know (c := true) (congrArg Bool.not (Bool.eq_false_iff.mpr q60)) 37 (by kernel_rfl) ?_
      refine ls_on (j := 10) (t := 37) (b := true) rfl rfl (by kernel_rfl) (by kernel_rfl) ?_
      refine lv (.int .i64 x7_2) ?_
      refine ls_on (j := 10) (t := 37) (b := true) rfl rfl (by kernel_rfl) (by kernel_rfl) ?_
      refine lv (.bool (decide (x7_2 ≤ (8 : Int)))) ?_
      refine lv (.bool (decide (x7_2 ≤ (8 : Int)))) ?_
      refine ls_end ?_
      refine qn_then ?_
      by_cases q61 : x7_2 ≤ (8 : Int)
      · replace H := ite_t q61 H
        refine cs_know (c := true) (dec_t q61) 40 (by kernel_rfl) ?_
        refine cs_true (by kernel_rfl) ?_
        refine cs_skip' ?_
        refine qn_then ?_
        refine cs_seq ?_
        refine cs_block ?_
        refine cs_seq ?_
        refine cs_region (l := [_]) ?_
        refine ls_new rfl rfl (by kernel_rfl) 8 (fun g => .pointer (some ⟨g, 0, none⟩)) (.cells ⟨([Value.string ByteArray.empty] ++ [Value.string ByteArray.empty])⟩ 67) (fun w => by kernel_rfl) ?_
        intro g62
        refine ls_end ?_
        refine qn_then ?_
        refine cs_seq ?_
        refine cs_region (l := [_, _, _, _, _]) ?_
        refine lv (.pointer (some ⟨g2, 0, none⟩)) ?_
        refine lv (.pointer (some ⟨g62, (0 + 0), none⟩)) ?_
        refine lv (.pointer (some ⟨g62, (0 + 1), none⟩)) ?_
        refine ls_lit (Ec.ptr 93) 9 rfl rfl (by kernel_rfl) ([(some (g62, (0 + 0))), (some (g62, (0 + 1)))]) (by exact of_decide_eq_true (by kernel_rfl)) (fun w => by kernel_rfl) ?_
        intro g63
        obtain ⟨t69, hc70, H⟩ := bind_some H
        refine ls_freeze (T := (Ec.ptr 93)) (A := (some ⟨g63, 0, none⟩)) (c := ([(some (g62, (0 + 0))), (some (g62, (0 + 1)))].length)) (l := ([(some (g62, (0 + 0))), (some (g62, (0 + 1)))])) 9 (by exact rfl) ?_
        intro bs64 hle65 hok66 fR67 fC68
        refine ls_callg (fid := 44) (vals := #[.pointer (some ⟨g2, 0, none⟩), .slice (some ⟨g63, 0, none⟩) ([(some (g62, (0 + 0))), (some (g62, (0 + 1)))]).length [(some (g62, (0 + 0))), (some (g62, (0 + 1)))].length]) (X := (Option Addr × Nat)) (fun x => .tuple #[]) (fun x => stl [Ck.var 89 g2 (([Value.slice x.1 t69.1.1.length x.2] ++ [Value.bool t69.1.2])), Ck.var 67 g62 (([Value.string t69.2.1] ++ [Value.string t69.2.2]))]) (fun x B => (Ro B x.1 (em (Ec.int 5 .u8) t69.1.1) ∧ t69.1.1.length ≤ x.2)) [1, 8] [Ck.var 89 g2 (([Value.slice Am1_2_0 m1_2.1.length cm1_2_0] ++ [Value.bool m1_2.2])), Ck.var 67 g62 (([Value.string ByteArray.empty] ++ [Value.string ByteArray.empty]))] 10 rfl rfl (by kernel_rfl) (fun w => by kernel_rfl) ⟨by exact rfl, by exact rfl, trivial⟩ (by decide) (fun x b b' h hf => ⟨h _ _ hf.1, hf.2⟩) (fun w hs hb => record_reader_texts_sits_0f0_0f1.calls k2 g2 Am1_2_0 cm1_2_0 (m1_2.1, m1_2.2) g62 (ByteArray.empty, ByteArray.empty) (some ⟨g63, 0, none⟩) ([(some (g62, (0 + 0))), (some (g62, (0 + 1)))].length) t69 (lent bs64 w [Ck.var 89 g2 (([Value.slice Am1_2_0 m1_2.1.length cm1_2_0] ++ [Value.bool m1_2.2])), Ck.var 67 g62 (([Value.string ByteArray.empty] ++ [Value.string ByteArray.empty]))] []) hb (hs.ro (Ro.mono hok66 hle65 Rm1_2_0) _ _) Cm1_2_0 (hs.ro fR67 _ _) fC68 hc70) ?_
        intro x71 hf74
        obtain ⟨fR72, fC73⟩ := hf74
        refine ls_end ?_
        refine qn_then ?_
        refine cs_region (l := [_, _, _, _, _, _, _]) ?_
        refine lv (.pointer (some ⟨g3, (0 + 6), none⟩)) ?_
        refine ls_load (a0 := ⟨g3, (0 + 6), none⟩) (v := .slice Am2_2_6 m2_2.2.2.2.2.2.2.length cm2_2_6) (de := (TypeDesc.slice 67)) rfl rfl (by kernel_rfl) rfl (by kernel_rfl) (by kernel_rfl) (by kernel_rfl) (fun w hs => (hs.var (k := 2) (by exact rfl) (Sub4.trans (Sub4.all _) (Sub4.skip (n := 1) (len1 _) (Sub4.skip (n := 1) (len1 _) (Sub4.skip (n := 1) (len1 _) (Sub4.skip (n := 1) (len1 _) (Sub4.skip (n := 1) (len1 _) (Sub4.skip (n := 1) (len1 _) (Sub4.all _)))))))))) ?_
        refine ls_loadagg (a := ⟨g62, 0, none⟩) (sub := ([Value.string t69.2.1] ++ [Value.string t69.2.2])) rfl rfl (by kernel_rfl) rfl (by kernel_rfl) (by kernel_rfl) (by kernel_rfl) (len_app (len1 _) (len1 _)) (fun w hs => (hs.vars (k := 8) (by exact rfl) (Sub4.all _))) ?_
        refine ls_lit T67 10 rfl rfl (by kernel_rfl) ([t69.2]) (by exact of_decide_eq_true (by kernel_rfl)) (fun w => by kernel_rfl) ?_
        intro g75
        obtain ⟨q76, H⟩ := ite_need H
        refine ls_app T67 (A := Am2_2_6) (c := cm2_2_6) (B := (some ⟨g75, 0, none⟩)) (cb := [t69.2].length) (z := (.agg ⟨([Value.string ByteArray.empty] ++ [Value.string ByteArray.empty])⟩)) (l := m2_2.2.2.2.2.2.2) (m := [t69.2]) (bytes := 32) 7 rfl rfl (by kernel_rfl) rfl (by kernel_rfl) (by exact rfl) (by kernel_rfl) (fun w hs => (hs.rd (k := 10) (by exact rfl))) (by kernel_rfl) (by kernel_rfl) rfl (by decide) q76 ?_
        intro xA77 xc78
        refine lv (.pointer (some ⟨g3, (0 + 6), none⟩)) ?_
        refine ls_storec (g := g3) (off := (0 + 6)) (v := .slice xA77 (m2_2.2.2.2.2.2.2 ++ [t69.2]).length xc78) (vs := [Value.slice xA77 (m2_2.2.2.2.2.2.2 ++ [t69.2]).length xc78]) (cs := ([Value.int .i64 m2_2.1] ++ ([Value.int .i64 m2_2.2.1] ++ ([Value.int .i64 m2_2.2.2.1] ++ ([Value.int .i64 m2_2.2.2.2.1] ++ ([Value.string m2_2.2.2.2.2.1] ++ ([Value.string m2_2.2.2.2.2.2.1] ++ [Value.slice Am2_2_6 m2_2.2.2.2.2.2.2.length cm2_2_6]))))))) (ty := 51) 2 rfl rfl rfl (by kernel_rfl) (by kernel_rfl) (by kernel_rfl) (by exact rfl) (by kernel_rfl) (len1 _) (one_cons rfl one_nil) (hl_of (Sub4.trans (Sub4.all _) (Sub4.skip (n := 1) (len1 _) (Sub4.skip (n := 1) (len1 _) (Sub4.skip (n := 1) (len1 _) (Sub4.skip (n := 1) (len1 _) (Sub4.skip (n := 1) (len1 _) (Sub4.skip (n := 1) (len1 _) (Sub4.all _)))))))) (len_eq (len1 _) (len1 _))) (cs' := ([Value.int .i64 m2_2.1] ++ ([Value.int .i64 m2_2.2.1] ++ ([Value.int .i64 m2_2.2.2.1] ++ ([Value.int .i64 m2_2.2.2.2.1] ++ ([Value.string m2_2.2.2.2.2.1] ++ ([Value.string m2_2.2.2.2.2.2.1] ++ [Value.slice xA77 (m2_2.2.2.2.2.2.2 ++ [t69.2]).length xc78]))))))) (splc_in (Sub4.all _) (splc_skip (n := 1) (len1 _) (splc_skip (n := 1) (len1 _) (splc_skip (n := 1) (len1 _) (splc_skip (n := 1) (len1 _) (splc_skip (n := 1) (len1 _) (splc_skip (n := 1) (len1 _) (splc_all (len_eq (len1 _) (len1 _))))))))) (splc_all (len_eq (len_app (len1 _) (len_app (len1 _) (len_app (len1 _) (len_app (len1 _) (len_app (len1 _) (len_app (len1 _) (len1 _))))))) (len_app (len1 _) (len_app (len1 _) (len_app (len1 _) (len_app (len1 _) (len_app (len1 _) (len_app (len1 _) (len1 _))))))))) (hl_of (Sub4.skip (n := 1) (len1 _) (Sub4.skip (n := 1) (len1 _) (Sub4.skip (n := 1) (len1 _) (Sub4.skip (n := 1) (len1 _) (Sub4.skip (n := 1) (len1 _) (Sub4.skip (n := 1) (len1 _) (Sub4.all _))))))) (len_eq (len1 _) (len1 _)))) ?_
        refine ls_end ?_
        refine qn_block ?_
        refine qn_then ?_
        refine cs_region (l := [_, _, _]) ?_
        refine lv (.int .i64 x7_2) ?_
        refine lv (.int .i64 (IntKind.wrap .i64 (x7_2 + (1 : Int)))) ?_
        refine lv (.int .i64 (IntKind.wrap .i64 (x7_2 + (1 : Int)))) ?_
        refine ls_end ?_
        refine qn_againb k2 (sput (sput (sput (sput (sput s0 0 (some (Ck.var 51 g1 (([Value.int .i64 (0 : Int)] ++ ([Value.int .i64 (0 : Int)] ++ ([Value.int .i64 (0 : Int)] ++ ([Value.int .i64 (0 : Int)] ++ ([Value.string ByteArray.empty] ++ ([Value.string ByteArray.empty] ++ [Value.slice none 0 0])))))))))) 1 (some (Ck.var 89 g2 (([Value.slice x71.1 t69.1.1.length x71.2] ++ [Value.bool t69.1.2]))))) 2 (some (Ck.var 51 g3 (([Value.int .i64 m2_2.1] ++ ([Value.int .i64 m2_2.2.1] ++ ([Value.int .i64 m2_2.2.2.1] ++ ([Value.int .i64 m2_2.2.2.2.1] ++ ([Value.string m2_2.2.2.2.2.1] ++ ([Value.string m2_2.2.2.2.2.2.1] ++ [Value.slice xA77 (m2_2.2.2.2.2.2.2 ++ [t69.2]).length xc78])))))))))) 3 (some (Ck.var 3 g4 ([Value.int .i64 t35.2])))) 7 (some (Ck.sl T67 xA77 xc78 (m2_2.2.2.2.2.2.2 ++ [t69.2])))) (Nat.le_refl _) ⟨_, (IntKind.wrap .i64 (x7_2 + (1 : Int))), x71.1, x71.2, (t69.1.1, t69.1.2), xA77, xc78, (m2_2.1, m2_2.2.1, m2_2.2.2.1, m2_2.2.2.2.1, m2_2.2.2.2.2.1, m2_2.2.2.2.2.2.1, (m2_2.2.2.2.2.2.2 ++ [t69.2])), fr_next (fr_next (fr_next (fr_next (fr_next (fr_next (rfl) (by kernel_rfl)) (by kernel_rfl)) (by kernel_rfl)) (by kernel_rfl)) (by kernel_rfl)) (by kernel_rfl), rfl, fR72, fC73, (hleh2.trans hle65), (Ro.mono hok66 hle65 Rb0_2), H⟩ (sub_put (by exact rfl) (sub_put (by exact rfl) (sub_put (by exact rfl) (sub_put (by exact rfl) (sub_put (by exact rfl) (sub_nil _))))))
      replace H := ite_f q61 H
      refine cs_know (c := false) (dec_f q61) 40 (by kernel_rfl) ?_
      refine cs_false (by kernel_rfl) ?_
      refine cs_exit' ?_
      refine qx_then ?_
      refine qx_then ?_
      refine qx_same ?_
      refine qn_meetb (sput (sput (sput (sput s0 0 (some (Ck.var 51 g1 (([Value.int .i64 (0 : Int)] ++ ([Value.int .i64 (0 : Int)] ++ ([Value.int .i64 (0 : Int)] ++ ([Value.int .i64 (0 : Int)] ++ ([Value.string ByteArray.empty] ++ ([Value.string ByteArray.empty] ++ [Value.slice none 0 0])))))))))) 1 (some (Ck.var 89 g2 (([Value.slice Am1_2_0 m1_2.1.length cm1_2_0] ++ [Value.bool m1_2.2]))))) 2 (some (Ck.var 51 g3 (([Value.int .i64 m2_2.1] ++ ([Value.int .i64 m2_2.2.1] ++ ([Value.int .i64 m2_2.2.2.1] ++ ([Value.int .i64 m2_2.2.2.2.1] ++ ([Value.string m2_2.2.2.2.2.1] ++ ([Value.string m2_2.2.2.2.2.2.1] ++ [Value.slice Am2_2_6 m2_2.2.2.2.2.2.2.length cm2_2_6])))))))))) 7 (some (Ck.sl T67 Am2_2_6 cm2_2_6 m2_2.2.2.2.2.2.2))) ⟨_, Am1_2_0, cm1_2_0, (m1_2.1, m1_2.2), Am2_2_6, cm2_2_6, (m2_2.1, m2_2.2.1, m2_2.2.2.1, m2_2.2.2.2.1, m2_2.2.2.2.2.1, m2_2.2.2.2.2.2.1, m2_2.2.2.2.2.2.2), fr_next (fr_next (fr_next (fr_next (rfl) (by kernel_rfl)) (by kernel_rfl)) (by kernel_rfl)) (by kernel_rfl), rfl, Rm1_2_0, Cm1_2_0, hleh2, Rb0_2, H⟩ (sub_put (by exact rfl) (sub_put (by exact rfl) (sub_put (by exact rfl) (sub_put (by exact rfl) (sub_nil _)))))
    replace H := ite_f q59 H
    refine ls_know (c := false) (dec_f q59) 30 (by kernel_rfl) ?_
    refine lofx 3 30 true false ?_
    refine lofx 3 30 true false ?_
    refine lofx 3 30 true false ?_
    refine lofx 3 30 true false ?_
    refine lofx 3 30 true false ?_
    refine lv (.bool false) ?_
    refine lv (.bool false) ?_
    refine lofx 10 37 true false ?_
    refine lofx 10 37 true false ?_
    refine lv (.bool false) ?_
    refine ls_end ?_
    refine qn_then ?_
    refine cs_false (by kernel_rfl) ?_
    refine cs_exit' ?_
    refine qx_then ?_
    refine qx_then ?_
    refine qx_same ?_
    refine qn_meetb (sput (sput (sput (sput s0 0 (some (Ck.var 51 g1 (([Value.int .i64 (0 : Int)] ++ ([Value.int .i64 (0 : Int)] ++ ([Value.int .i64 (0 : Int)] ++ ([Value.int .i64 (0 : Int)] ++ ([Value.string ByteArray.empty] ++ ([Value.string ByteArray.empty] ++ [Value.slice none 0 0])))))))))) 1 (some (Ck.var 89 g2 (([Value.slice Am1_2_0 m1_2.1.length cm1_2_0] ++ [Value.bool m1_2.2]))))) 2 (some (Ck.var 51 g3 (([Value.int .i64 m2_2.1] ++ ([Value.int .i64 m2_2.2.1] ++ ([Value.int .i64 m2_2.2.2.1] ++ ([Value.int .i64 m2_2.2.2.2.1] ++ ([Value.string m2_2.2.2.2.2.1] ++ ([Value.string m2_2.2.2.2.2.2.1] ++ [Value.slice Am2_2_6 m2_2.2.2.2.2.2.2.length cm2_2_6])))))))))) 7 (some (Ck.sl T67 Am2_2_6 cm2_2_6 m2_2.2.2.2.2.2.2))) ⟨_, Am1_2_0, cm1_2_0, (m1_2.1, m1_2.2), Am2_2_6, cm2_2_6, (m2_2.1, m2_2.2.1, m2_2.2.2.1, m2_2.2.2.2.1, m2_2.2.2.2.2.1, m2_2.2.2.2.2.2.1, m2_2.2.2.2.2.2.2), fr_next (fr_next (fr_next (fr_next (rfl) (by kernel_rfl)) (by kernel_rfl)) (by kernel_rfl)) (by kernel_rfl), rfl, Rm1_2_0, Cm1_2_0, hleh2, Rb0_2, H⟩ (sub_put (by exact rfl) (sub_put (by exact rfl) (sub_put (by exact rfl) (sub_put (by exact rfl) (sub_nil _)))))
  rintro bh1 f S ⟨fr1, Am1_1_0, cm1_1_0, m1_1, Am2_1_6, cm2_1_6, m2_1, rfl, rfl, Rm1_1_0, Cm1_1_0, hleh1, Rb0_1, H⟩
  replace H : ((if m1_1.2 = true then some (((0 : Int), (0 : Int), (0 : Int), (0 : Int), ByteArray.empty, ByteArray.empty, ([] : List (ByteArray × ByteArray))), (11 : Int)) else (if (m1_1.1.length : Int) > (0 : Int) then some (((0 : Int), (0 : Int), (0 : Int), (0 : Int), ByteArray.empty, ByteArray.empty, ([] : List (ByteArray × ByteArray))), (11 : Int)) else (record_Right.f k (m2_1.1, m2_1.2.1, m2_1.2.2.1, m2_1.2.2.2.1, m2_1.2.2.2.2.1, m2_1.2.2.2.2.2.1, m2_1.2.2.2.2.2.2)).bind fun t43 => (if t43 = true then (record_Version_bytes.f k (m2_1.1, m2_1.2.1, m2_1.2.2.1, m2_1.2.2.2.1, m2_1.2.2.2.2.1, m2_1.2.2.2.2.2.1, m2_1.2.2.2.2.2.2)).bind fun t47 => (bytes_Equal.f k t47 l0).bind fun t50 => (if t50 = true then some ((m2_1.1, m2_1.2.1, m2_1.2.2.1, m2_1.2.2.2.1, m2_1.2.2.2.2.1, m2_1.2.2.2.2.2.1, m2_1.2.2.2.2.2.2), (0 : Int)) else some (((0 : Int), (0 : Int), (0 : Int), (0 : Int), ByteArray.empty, ByteArray.empty, ([] : List (ByteArray × ByteArray))), (11 : Int))) else some (((0 : Int), (0 : Int), (0 : Int), (0 : Int), ByteArray.empty, ByteArray.empty, ([] : List (ByteArray × ByteArray))), (11 : Int)))))) = some r := H
  refine cs_seq ?_
  refine cs_seq ?_
  refine cs_region (l := [_, _, _, _, _, _, _, _, _, _, _, _, _, _, _, _, _, _, _, _, _, _, _, _]) ?_
  refine lv (.pointer (some ⟨g2, 0, none⟩)) ?_
  refine lv (.pointer (some ⟨g2, 0, none⟩)) ?_
  refine lv (.pointer (some ⟨g2, (0 + 1), none⟩)) ?_
  refine ls_load (a0 := ⟨g2, (0 + 1), none⟩) (v := .bool m1_1.2) (de := TypeDesc.bool) rfl rfl (by kernel_rfl) rfl (by kernel_rfl) (by kernel_rfl) (by kernel_rfl) (fun w hs => (hs.var (k := 1) (by exact rfl) (Sub4.trans (Sub4.all _) (Sub4.skip (n := 1) (len1 _) (Sub4.all _))))) ?_
  refine lv (.bool m1_1.2) ?_
  by_cases q41 : m1_1.2 = true
  · replace H := ite_t q41 H
    refine ls_know (c := true) (q41) 58 (by kernel_rfl) ?_
    refine lofx 4 58 false true ?_
    refine lofx 4 58 false true ?_
    refine lofx 4 58 false true ?_
    refine lofx 4 58 false true ?_
    refine lofx 4 58 false true ?_
    refine lofx 4 58 false true ?_
    refine lv (.bool true) ?_
    refine lv (.bool true) ?_
    refine lofx 12 66 false true ?_
    refine lofx 12 66 false true ?_
    refine lofx 12 66 false true ?_
    refine lv (.bool true) ?_
    refine lv (.bool true) ?_
    refine lofx 17 71 false true ?_
    refine lofx 17 71 false true ?_
    refine lofx 17 71 false true ?_
    refine lofx 17 71 false true ?_
    refine lofx 17 71 false true ?_
    refine lv (.bool true) ?_
    refine ls_end ?_
    refine qn_then ?_
    refine cs_true (by kernel_rfl) ?_
    refine cs_seq ?_
    refine cs_region (l := [_, _, _]) ?_
    refine lv (.agg ⟨([Value.int .i64 (0 : Int)] ++ ([Value.int .i64 (0 : Int)] ++ ([Value.int .i64 (0 : Int)] ++ ([Value.int .i64 (0 : Int)] ++ ([Value.string ByteArray.empty] ++ ([Value.string ByteArray.empty] ++ [Value.slice none 0 0]))))))⟩) ?_
    refine ls_storec (g := g1) (off := 0) (v := .agg ⟨([Value.int .i64 (0 : Int)] ++ ([Value.int .i64 (0 : Int)] ++ ([Value.int .i64 (0 : Int)] ++ ([Value.int .i64 (0 : Int)] ++ ([Value.string ByteArray.empty] ++ ([Value.string ByteArray.empty] ++ [Value.slice none 0 0]))))))⟩) (vs := ([Value.int .i64 (0 : Int)] ++ ([Value.int .i64 (0 : Int)] ++ ([Value.int .i64 (0 : Int)] ++ ([Value.int .i64 (0 : Int)] ++ ([Value.string ByteArray.empty] ++ ([Value.string ByteArray.empty] ++ [Value.slice none 0 0]))))))) (cs := ([Value.int .i64 (0 : Int)] ++ ([Value.int .i64 (0 : Int)] ++ ([Value.int .i64 (0 : Int)] ++ ([Value.int .i64 (0 : Int)] ++ ([Value.string ByteArray.empty] ++ ([Value.string ByteArray.empty] ++ [Value.slice none 0 0]))))))) (ty := 51) 0 rfl rfl rfl (by kernel_rfl) (by kernel_rfl) (by kernel_rfl) (by exact rfl) (by kernel_rfl) (len_app (len1 _) (len_app (len1 _) (len_app (len1 _) (len_app (len1 _) (len_app (len1 _) (len_app (len1 _) (len1 _))))))) (one_app (one_cons rfl one_nil) (one_app (one_cons rfl one_nil) (one_app (one_cons rfl one_nil) (one_app (one_cons rfl one_nil) (one_app (one_cons rfl one_nil) (one_app (one_cons rfl one_nil) (one_cons rfl one_nil))))))) (hl_of (Sub4.all _) (len_eq (len_app (len1 _) (len_app (len1 _) (len_app (len1 _) (len_app (len1 _) (len_app (len1 _) (len_app (len1 _) (len1 _))))))) (len_app (len1 _) (len_app (len1 _) (len_app (len1 _) (len_app (len1 _) (len_app (len1 _) (len_app (len1 _) (len1 _))))))))) (cs' := ([Value.int .i64 (0 : Int)] ++ ([Value.int .i64 (0 : Int)] ++ ([Value.int .i64 (0 : Int)] ++ ([Value.int .i64 (0 : Int)] ++ ([Value.string ByteArray.empty] ++ ([Value.string ByteArray.empty] ++ [Value.slice none 0 0]))))))) (splc_all (len_eq (len_app (len1 _) (len_app (len1 _) (len_app (len1 _) (len_app (len1 _) (len_app (len1 _) (len_app (len1 _) (len1 _))))))) (len_app (len1 _) (len_app (len1 _) (len_app (len1 _) (len_app (len1 _) (len_app (len1 _) (len_app (len1 _) (len1 _))))))))) ?_
    refine lv (.int .i64 (11 : Int)) ?_
    refine ls_end ?_
    refine qn_then ?_
    refine cs_ret' ?_
    refine qr_then ?_
    obtain rfl := Option.some.inj H
    refine qr_res (rs := [_, _]) rfl (fun w' hs => ⟨[.agg ⟨([Value.int .i64 (0 : Int)] ++ ([Value.int .i64 (0 : Int)] ++ ([Value.int .i64 (0 : Int)] ++ ([Value.int .i64 (0 : Int)] ++ ([Value.string ByteArray.empty] ++ ([Value.string ByteArray.empty] ++ [Value.slice none 0 0]))))))⟩, .int .i64 (11 : Int)], (.cell (by kernel_rfl) (run_cellres (by kernel_rfl) (by kernel_rfl) (len_app (len1 _) (len_app (len1 _) (len_app (len1 _) (len_app (len1 _) (len_app (len1 _) (len_app (len1 _) (len1 _))))))) (hs.holds 0 _ (by exact rfl))) (res_tmp (by kernel_rfl) (.nil))), bh1, hleh1, (none, 0), rfl, ⟨(Ro.nil _ _), (Nat.zero_le _)⟩, hs.pick (ts := []) (cs := []) trivial (by decide)⟩)
  replace H := ite_f q41 H
  refine ls_know (c := false) (Bool.eq_false_iff.mpr q41) 58 (by kernel_rfl) ?_
  refine ls_on (j := 4) (t := 58) (b := false) rfl rfl (by kernel_rfl) (by kernel_rfl) ?_
  refine lv (.pointer (some ⟨g2, 0, none⟩)) ?_
  refine ls_on (j := 4) (t := 58) (b := false) rfl rfl (by kernel_rfl) (by kernel_rfl) ?_
  refine lv (.pointer (some ⟨g2, 0, none⟩)) ?_
  refine ls_on (j := 4) (t := 58) (b := false) rfl rfl (by kernel_rfl) (by kernel_rfl) ?_
  refine lv (.pointer (some ⟨g2, (0 + 0), none⟩)) ?_
  refine ls_on (j := 4) (t := 58) (b := false) rfl rfl (by kernel_rfl) (by kernel_rfl) ?_
  refine ls_load (a0 := ⟨g2, (0 + 0), none⟩) (v := .slice Am1_1_0 m1_1.1.length cm1_1_0) (de := (TypeDesc.slice 5)) rfl rfl (by kernel_rfl) rfl (by kernel_rfl) (by kernel_rfl) (by kernel_rfl) (fun w hs => (hs.var (k := 1) (by exact rfl) (Sub4.trans (Sub4.all _) (Sub4.head _ _)))) ?_
  refine ls_on (j := 4) (t := 58) (b := false) rfl rfl (by kernel_rfl) (by kernel_rfl) ?_
  refine lv (.int .i64 (m1_1.1.length : Int)) ?_
  refine ls_on (j := 4) (t := 58) (b := false) rfl rfl (by kernel_rfl) (by kernel_rfl) ?_
  refine lv (.bool (decide ((m1_1.1.length : Int) > (0 : Int)))) ?_
  refine lv (.bool (decide ((m1_1.1.length : Int) > (0 : Int)))) ?_
  refine lv (.bool (decide ((m1_1.1.length : Int) > (0 : Int)))) ?_
  by_cases q42 : (m1_1.1.length : Int) > (0 : Int)
  · replace H := ite_t q42 H
    refine ls_know (c := true) (dec_t q42) 66 (by kernel_rfl) ?_
    refine lofx 12 66 false true ?_
    refine lofx 12 66 false true ?_
    refine lofx 12 66 false true ?_
    refine lv (.bool true) ?_
    refine lv (.bool true) ?_
    refine lofx 17 71 false true ?_
    refine lofx 17 71 false true ?_
    refine lofx 17 71 false true ?_
    refine lofx 17 71 false true ?_
    refine lofx 17 71 false true ?_
    refine lv (.bool true) ?_
    refine ls_end ?_
    refine qn_then ?_
    refine cs_true (by kernel_rfl) ?_
    refine cs_seq ?_
    refine cs_region (l := [_, _, _]) ?_
    refine lv (.agg ⟨([Value.int .i64 (0 : Int)] ++ ([Value.int .i64 (0 : Int)] ++ ([Value.int .i64 (0 : Int)] ++ ([Value.int .i64 (0 : Int)] ++ ([Value.string ByteArray.empty] ++ ([Value.string ByteArray.empty] ++ [Value.slice none 0 0]))))))⟩) ?_
    refine ls_storec (g := g1) (off := 0) (v := .agg ⟨([Value.int .i64 (0 : Int)] ++ ([Value.int .i64 (0 : Int)] ++ ([Value.int .i64 (0 : Int)] ++ ([Value.int .i64 (0 : Int)] ++ ([Value.string ByteArray.empty] ++ ([Value.string ByteArray.empty] ++ [Value.slice none 0 0]))))))⟩) (vs := ([Value.int .i64 (0 : Int)] ++ ([Value.int .i64 (0 : Int)] ++ ([Value.int .i64 (0 : Int)] ++ ([Value.int .i64 (0 : Int)] ++ ([Value.string ByteArray.empty] ++ ([Value.string ByteArray.empty] ++ [Value.slice none 0 0]))))))) (cs := ([Value.int .i64 (0 : Int)] ++ ([Value.int .i64 (0 : Int)] ++ ([Value.int .i64 (0 : Int)] ++ ([Value.int .i64 (0 : Int)] ++ ([Value.string ByteArray.empty] ++ ([Value.string ByteArray.empty] ++ [Value.slice none 0 0]))))))) (ty := 51) 0 rfl rfl rfl (by kernel_rfl) (by kernel_rfl) (by kernel_rfl) (by exact rfl) (by kernel_rfl) (len_app (len1 _) (len_app (len1 _) (len_app (len1 _) (len_app (len1 _) (len_app (len1 _) (len_app (len1 _) (len1 _))))))) (one_app (one_cons rfl one_nil) (one_app (one_cons rfl one_nil) (one_app (one_cons rfl one_nil) (one_app (one_cons rfl one_nil) (one_app (one_cons rfl one_nil) (one_app (one_cons rfl one_nil) (one_cons rfl one_nil))))))) (hl_of (Sub4.all _) (len_eq (len_app (len1 _) (len_app (len1 _) (len_app (len1 _) (len_app (len1 _) (len_app (len1 _) (len_app (len1 _) (len1 _))))))) (len_app (len1 _) (len_app (len1 _) (len_app (len1 _) (len_app (len1 _) (len_app (len1 _) (len_app (len1 _) (len1 _))))))))) (cs' := ([Value.int .i64 (0 : Int)] ++ ([Value.int .i64 (0 : Int)] ++ ([Value.int .i64 (0 : Int)] ++ ([Value.int .i64 (0 : Int)] ++ ([Value.string ByteArray.empty] ++ ([Value.string ByteArray.empty] ++ [Value.slice none 0 0]))))))) (splc_all (len_eq (len_app (len1 _) (len_app (len1 _) (len_app (len1 _) (len_app (len1 _) (len_app (len1 _) (len_app (len1 _) (len1 _))))))) (len_app (len1 _) (len_app (len1 _) (len_app (len1 _) (len_app (len1 _) (len_app (len1 _) (len_app (len1 _) (len1 _))))))))) ?_
    refine lv (.int .i64 (11 : Int)) ?_
    refine ls_end ?_
    refine qn_then ?_
    refine cs_ret' ?_
    refine qr_then ?_
    obtain rfl := Option.some.inj H
    refine qr_res (rs := [_, _]) rfl (fun w' hs => ⟨[.agg ⟨([Value.int .i64 (0 : Int)] ++ ([Value.int .i64 (0 : Int)] ++ ([Value.int .i64 (0 : Int)] ++ ([Value.int .i64 (0 : Int)] ++ ([Value.string ByteArray.empty] ++ ([Value.string ByteArray.empty] ++ [Value.slice none 0 0]))))))⟩, .int .i64 (11 : Int)], (.cell (by kernel_rfl) (run_cellres (by kernel_rfl) (by kernel_rfl) (len_app (len1 _) (len_app (len1 _) (len_app (len1 _) (len_app (len1 _) (len_app (len1 _) (len_app (len1 _) (len1 _))))))) (hs.holds 0 _ (by exact rfl))) (res_tmp (by kernel_rfl) (.nil))), bh1, hleh1, (none, 0), rfl, ⟨(Ro.nil _ _), (Nat.zero_le _)⟩, hs.pick (ts := []) (cs := []) trivial (by decide)⟩)
  replace H := ite_f q42 H
  refine ls_know (c := false) (dec_f q42) 66 (by kernel_rfl) ?_
  refine ls_on (j := 12) (t := 66) (b := false) rfl rfl (by kernel_rfl) (by kernel_rfl) ?_
  refine ls_loadagg (a := ⟨g3, 0, none⟩) (sub := ([Value.int .i64 m2_1.1] ++ ([Value.int .i64 m2_1.2.1] ++ ([Value.int .i64 m2_1.2.2.1] ++ ([Value.int .i64 m2_1.2.2.2.1] ++ ([Value.string m2_1.2.2.2.2.1] ++ ([Value.string m2_1.2.2.2.2.2.1] ++ [Value.slice Am2_1_6 m2_1.2.2.2.2.2.2.length cm2_1_6]))))))) rfl rfl (by kernel_rfl) rfl (by kernel_rfl) (by kernel_rfl) (by kernel_rfl) (len_app (len1 _) (len_app (len1 _) (len_app (len1 _) (len_app (len1 _) (len_app (len1 _) (len_app (len1 _) (len1 _))))))) (fun w hs => (hs.vars (k := 2) (by exact rfl) (Sub4.all _))) ?_
  refine ls_on (j := 12) (t := 66) (b := false) rfl rfl (by kernel_rfl) (by kernel_rfl) ?_
  obtain ⟨t43, hc44, H⟩ := bind_some H
  refine ls_callb (fid := 25) (vals := #[.agg ⟨([Value.int .i64 m2_1.1] ++ ([Value.int .i64 m2_1.2.1] ++ ([Value.int .i64 m2_1.2.2.1] ++ ([Value.int .i64 m2_1.2.2.2.1] ++ ([Value.string m2_1.2.2.2.2.1] ++ ([Value.string m2_1.2.2.2.2.2.1] ++ [Value.slice Am2_1_6 m2_1.2.2.2.2.2.2.length cm2_1_6]))))))⟩]) (X := Unit) (fun x => .bool t43) (fun x => stl []) [] [7] [] [Ck.sl T67 Am2_1_6 cm2_1_6 m2_1.2.2.2.2.2.2] 8 rfl rfl (by kernel_rfl) (fun w => by kernel_rfl) trivial ⟨by exact rfl, trivial⟩ (by decide) (fun w hs hb => record_Right.calls k Am2_1_6 cm2_1_6 (m2_1.1, m2_1.2.1, m2_1.2.2.1, m2_1.2.2.2.1, m2_1.2.2.2.2.1, m2_1.2.2.2.2.2.1, m2_1.2.2.2.2.2.2) t43 (lent bh1 w [] [Ck.sl T67 Am2_1_6 cm2_1_6 m2_1.2.2.2.2.2.2]) hb (hs.ror (k := 7) (by exact rfl) (.head _)) (hs.cap (k := 7) (by exact rfl)) hc44) ?_
  intro x45
  refine ls_on (j := 12) (t := 66) (b := false) rfl rfl (by kernel_rfl) (by kernel_rfl) ?_
  refine lv (.bool (!t43)) ?_
  refine lv (.bool (!t43)) ?_
  refine lv (.bool (!t43)) ?_
  by_cases q46 : t43 = true
  · replace H := ite_t q46 H
    refine ls_know (c := false) (congrArg Bool.not (q46)) 71 (by kernel_rfl) ?_
    refine ls_on (j := 17) (t := 71) (b := false) rfl rfl (by kernel_rfl) (by kernel_rfl) ?_
    refine ls_loadagg (a := ⟨g3, 0, none⟩) (sub := ([Value.int .i64 m2_1.1] ++ ([Value.int .i64 m2_1.2.1] ++ ([Value.int .i64 m2_1.2.2.1] ++ ([Value.int .i64 m2_1.2.2.2.1] ++ ([Value.string m2_1.2.2.2.2.1] ++ ([Value.string m2_1.2.2.2.2.2.1] ++ [Value.slice Am2_1_6 m2_1.2.2.2.2.2.2.length cm2_1_6]))))))) rfl rfl (by kernel_rfl) rfl (by kernel_rfl) (by kernel_rfl) (by kernel_rfl) (len_app (len1 _) (len_app (len1 _) (len_app (len1 _) (len_app (len1 _) (len_app (len1 _) (len_app (len1 _) (len1 _))))))) (fun w hs => (hs.vars (k := 2) (by exact rfl) (Sub4.all _))) ?_
    refine ls_on (j := 17) (t := 71) (b := false) rfl rfl (by kernel_rfl) (by kernel_rfl) ?_
    obtain ⟨t47, hc48, H⟩ := bind_some H
    refine ls_callb (fid := 41) (vals := #[.agg ⟨([Value.int .i64 m2_1.1] ++ ([Value.int .i64 m2_1.2.1] ++ ([Value.int .i64 m2_1.2.2.1] ++ ([Value.int .i64 m2_1.2.2.2.1] ++ ([Value.string m2_1.2.2.2.2.1] ++ ([Value.string m2_1.2.2.2.2.2.1] ++ [Value.slice Am2_1_6 m2_1.2.2.2.2.2.2.length cm2_1_6]))))))⟩]) (X := (Option Addr × Nat)) (fun x => .slice x.1 t47.length x.2) (fun x => stl [Ck.ro (Ec.int 5 .u8) x.1 x.2 t47]) [] [7] [] [Ck.sl T67 Am2_1_6 cm2_1_6 m2_1.2.2.2.2.2.2] 8 rfl rfl (by kernel_rfl) (fun w => by kernel_rfl) trivial ⟨by exact rfl, trivial⟩ (by decide) (fun w hs hb => record_Version_bytes.calls k Am2_1_6 cm2_1_6 (m2_1.1, m2_1.2.1, m2_1.2.2.1, m2_1.2.2.2.1, m2_1.2.2.2.2.1, m2_1.2.2.2.2.2.1, m2_1.2.2.2.2.2.2) t47 (lent bh1 w [] [Ck.sl T67 Am2_1_6 cm2_1_6 m2_1.2.2.2.2.2.2]) hb (hs.ror (k := 7) (by exact rfl) (.head _)) (hs.cap (k := 7) (by exact rfl)) hc48) ?_
    intro x49
    refine ls_on (j := 17) (t := 71) (b := false) rfl rfl (by kernel_rfl) (by kernel_rfl) ?_
    refine lv (.slice A0 l0.length c0) ?_
    refine ls_on (j := 17) (t := 71) (b := false) rfl rfl (by kernel_rfl) (by kernel_rfl) ?_
    obtain ⟨t50, hc51, H⟩ := bind_some H
    refine ls_callb (fid := 35) (vals := #[.slice x49.1 t47.length x49.2, .slice A0 l0.length c0]) (X := Unit) (fun x => .bool t50) (fun x => stl []) [] [8] [] [Ck.ro (Ec.int 5 .u8) x49.1 x49.2 t47] 9 rfl rfl (by kernel_rfl) (fun w => by kernel_rfl) trivial ⟨by exact rfl, trivial⟩ (by decide) (fun w hs hb => bytes_Equal.calls k x49.1 x49.2 t47 A0 c0 l0 t50 (lent bh1 w [] [Ck.ro (Ec.int 5 .u8) x49.1 x49.2 t47]) hb (hs.roror (k := 8) (by exact rfl) (.head _)) (hs.rocap (k := 8) (by exact rfl)) (hs.ro Rb0_1 _ _) C0 hc51) ?_
    intro x52
    refine ls_on (j := 17) (t := 71) (b := false) rfl rfl (by kernel_rfl) (by kernel_rfl) ?_
    refine lv (.bool (!t50)) ?_
    refine lv (.bool (!t50)) ?_
    refine ls_end ?_
    refine qn_then ?_
    by_cases q53 : t50 = true
    · replace H := ite_t q53 H
      refine cs_know (c := false) (congrArg Bool.not (q53)) 77 (by kernel_rfl) ?_
      refine cs_false (by kernel_rfl) ?_
      refine cs_skip' ?_
      refine qn_then ?_
      refine cs_seq ?_
      refine cs_region (l := [_, _, _]) ?_
      refine ls_loadagg (a := ⟨g3, 0, none⟩) (sub := ([Value.int .i64 m2_1.1] ++ ([Value.int .i64 m2_1.2.1] ++ ([Value.int .i64 m2_1.2.2.1] ++ ([Value.int .i64 m2_1.2.2.2.1] ++ ([Value.string m2_1.2.2.2.2.1] ++ ([Value.string m2_1.2.2.2.2.2.1] ++ [Value.slice Am2_1_6 m2_1.2.2.2.2.2.2.length cm2_1_6]))))))) rfl rfl (by kernel_rfl) rfl (by kernel_rfl) (by kernel_rfl) (by kernel_rfl) (len_app (len1 _) (len_app (len1 _) (len_app (len1 _) (len_app (len1 _) (len_app (len1 _) (len_app (len1 _) (len1 _))))))) (fun w hs => (hs.vars (k := 2) (by exact rfl) (Sub4.all _))) ?_
      refine ls_storec (g := g1) (off := 0) (v := .agg ⟨([Value.int .i64 m2_1.1] ++ ([Value.int .i64 m2_1.2.1] ++ ([Value.int .i64 m2_1.2.2.1] ++ ([Value.int .i64 m2_1.2.2.2.1] ++ ([Value.string m2_1.2.2.2.2.1] ++ ([Value.string m2_1.2.2.2.2.2.1] ++ [Value.slice Am2_1_6 m2_1.2.2.2.2.2.2.length cm2_1_6]))))))⟩) (vs := ([Value.int .i64 m2_1.1] ++ ([Value.int .i64 m2_1.2.1] ++ ([Value.int .i64 m2_1.2.2.1] ++ ([Value.int .i64 m2_1.2.2.2.1] ++ ([Value.string m2_1.2.2.2.2.1] ++ ([Value.string m2_1.2.2.2.2.2.1] ++ [Value.slice Am2_1_6 m2_1.2.2.2.2.2.2.length cm2_1_6]))))))) (cs := ([Value.int .i64 (0 : Int)] ++ ([Value.int .i64 (0 : Int)] ++ ([Value.int .i64 (0 : Int)] ++ ([Value.int .i64 (0 : Int)] ++ ([Value.string ByteArray.empty] ++ ([Value.string ByteArray.empty] ++ [Value.slice none 0 0]))))))) (ty := 51) 0 rfl rfl rfl (by kernel_rfl) (by kernel_rfl) (by kernel_rfl) (by exact rfl) (by kernel_rfl) (len_app (len1 _) (len_app (len1 _) (len_app (len1 _) (len_app (len1 _) (len_app (len1 _) (len_app (len1 _) (len1 _))))))) (one_app (one_cons rfl one_nil) (one_app (one_cons rfl one_nil) (one_app (one_cons rfl one_nil) (one_app (one_cons rfl one_nil) (one_app (one_cons rfl one_nil) (one_app (one_cons rfl one_nil) (one_cons rfl one_nil))))))) (hl_of (Sub4.all _) (len_eq (len_app (len1 _) (len_app (len1 _) (len_app (len1 _) (len_app (len1 _) (len_app (len1 _) (len_app (len1 _) (len1 _))))))) (len_app (len1 _) (len_app (len1 _) (len_app (len1 _) (len_app (len1 _) (len_app (len1 _) (len_app (len1 _) (len1 _))))))))) (cs' := ([Value.int .i64 m2_1.1] ++ ([Value.int .i64 m2_1.2.1] ++ ([Value.int .i64 m2_1.2.2.1] ++ ([Value.int .i64 m2_1.2.2.2.1] ++ ([Value.string m2_1.2.2.2.2.1] ++ ([Value.string m2_1.2.2.2.2.2.1] ++ [Value.slice Am2_1_6 m2_1.2.2.2.2.2.2.length cm2_1_6]))))))) (splc_all (len_eq (len_app (len1 _) (len_app (len1 _) (len_app (len1 _) (len_app (len1 _) (len_app (len1 _) (len_app (len1 _) (len1 _))))))) (len_app (len1 _) (len_app (len1 _) (len_app (len1 _) (len_app (len1 _) (len_app (len1 _) (len_app (len1 _) (len1 _))))))))) ?_
      refine lv (.int .i64 (0 : Int)) ?_
      refine ls_end ?_
      refine qn_then ?_
      refine cs_ret' ?_
      refine qr_freeze (T := T67) (A := Am2_1_6) (c := cm2_1_6) (l := m2_1.2.2.2.2.2.2) 7 (by exact rfl) ?_
      intro bs54 hle55 hok56 fR57 fC58
      obtain rfl := Option.some.inj H
      refine qr_res (rs := [_, _]) rfl (fun w' hs => ⟨[.agg ⟨([Value.int .i64 m2_1.1] ++ ([Value.int .i64 m2_1.2.1] ++ ([Value.int .i64 m2_1.2.2.1] ++ ([Value.int .i64 m2_1.2.2.2.1] ++ ([Value.string m2_1.2.2.2.2.1] ++ ([Value.string m2_1.2.2.2.2.2.1] ++ [Value.slice Am2_1_6 m2_1.2.2.2.2.2.2.length cm2_1_6]))))))⟩, .int .i64 (0 : Int)], (.cell (by kernel_rfl) (run_cellres (by kernel_rfl) (by kernel_rfl) (len_app (len1 _) (len_app (len1 _) (len_app (len1 _) (len_app (len1 _) (len_app (len1 _) (len_app (len1 _) (len1 _))))))) (hs.holds 0 _ (by exact rfl))) (res_tmp (by kernel_rfl) (.nil))), bs54, (hleh1.trans hle55), (Am2_1_6, cm2_1_6), rfl, ⟨fR57, fC58⟩, hs.pick (ts := []) (cs := []) trivial (by decide)⟩)
    replace H := ite_f q53 H
    refine cs_know (c := true) (congrArg Bool.not (Bool.eq_false_iff.mpr q53)) 77 (by kernel_rfl) ?_
    refine cs_true (by kernel_rfl) ?_
    refine cs_seq ?_
    refine cs_region (l := [_, _, _]) ?_
    refine lv (.agg ⟨([Value.int .i64 (0 : Int)] ++ ([Value.int .i64 (0 : Int)] ++ ([Value.int .i64 (0 : Int)] ++ ([Value.int .i64 (0 : Int)] ++ ([Value.string ByteArray.empty] ++ ([Value.string ByteArray.empty] ++ [Value.slice none 0 0]))))))⟩) ?_
    refine ls_storec (g := g1) (off := 0) (v := .agg ⟨([Value.int .i64 (0 : Int)] ++ ([Value.int .i64 (0 : Int)] ++ ([Value.int .i64 (0 : Int)] ++ ([Value.int .i64 (0 : Int)] ++ ([Value.string ByteArray.empty] ++ ([Value.string ByteArray.empty] ++ [Value.slice none 0 0]))))))⟩) (vs := ([Value.int .i64 (0 : Int)] ++ ([Value.int .i64 (0 : Int)] ++ ([Value.int .i64 (0 : Int)] ++ ([Value.int .i64 (0 : Int)] ++ ([Value.string ByteArray.empty] ++ ([Value.string ByteArray.empty] ++ [Value.slice none 0 0]))))))) (cs := ([Value.int .i64 (0 : Int)] ++ ([Value.int .i64 (0 : Int)] ++ ([Value.int .i64 (0 : Int)] ++ ([Value.int .i64 (0 : Int)] ++ ([Value.string ByteArray.empty] ++ ([Value.string ByteArray.empty] ++ [Value.slice none 0 0]))))))) (ty := 51) 0 rfl rfl rfl (by kernel_rfl) (by kernel_rfl) (by kernel_rfl) (by exact rfl) (by kernel_rfl) (len_app (len1 _) (len_app (len1 _) (len_app (len1 _) (len_app (len1 _) (len_app (len1 _) (len_app (len1 _) (len1 _))))))) (one_app (one_cons rfl one_nil) (one_app (one_cons rfl one_nil) (one_app (one_cons rfl one_nil) (one_app (one_cons rfl one_nil) (one_app (one_cons rfl one_nil) (one_app (one_cons rfl one_nil) (one_cons rfl one_nil))))))) (hl_of (Sub4.all _) (len_eq (len_app (len1 _) (len_app (len1 _) (len_app (len1 _) (len_app (len1 _) (len_app (len1 _) (len_app (len1 _) (len1 _))))))) (len_app (len1 _) (len_app (len1 _) (len_app (len1 _) (len_app (len1 _) (len_app (len1 _) (len_app (len1 _) (len1 _))))))))) (cs' := ([Value.int .i64 (0 : Int)] ++ ([Value.int .i64 (0 : Int)] ++ ([Value.int .i64 (0 : Int)] ++ ([Value.int .i64 (0 : Int)] ++ ([Value.string ByteArray.empty] ++ ([Value.string ByteArray.empty] ++ [Value.slice none 0 0]))))))) (splc_all (len_eq (len_app (len1 _) (len_app (len1 _) (len_app (len1 _) (len_app (len1 _) (len_app (len1 _) (len_app (len1 _) (len1 _))))))) (len_app (len1 _) (len_app (len1 _) (len_app (len1 _) (len_app (len1 _) (len_app (len1 _) (len_app (len1 _) (len1 _))))))))) ?_
    refine lv (.int .i64 (11 : Int)) ?_
    refine ls_end ?_
    refine qn_then ?_
    refine cs_ret' ?_
    refine qr_then ?_
    obtain rfl := Option.some.inj H
    refine qr_res (rs := [_, _]) rfl (fun w' hs => ⟨[.agg ⟨([Value.int .i64 (0 : Int)] ++ ([Value.int .i64 (0 : Int)] ++ ([Value.int .i64 (0 : Int)] ++ ([Value.int .i64 (0 : Int)] ++ ([Value.string ByteArray.empty] ++ ([Value.string ByteArray.empty] ++ [Value.slice none 0 0]))))))⟩, .int .i64 (11 : Int)], (.cell (by kernel_rfl) (run_cellres (by kernel_rfl) (by kernel_rfl) (len_app (len1 _) (len_app (len1 _) (len_app (len1 _) (len_app (len1 _) (len_app (len1 _) (len_app (len1 _) (len1 _))))))) (hs.holds 0 _ (by exact rfl))) (res_tmp (by kernel_rfl) (.nil))), bh1, hleh1, (none, 0), rfl, ⟨(Ro.nil _ _), (Nat.zero_le _)⟩, hs.pick (ts := []) (cs := []) trivial (by decide)⟩)
  replace H := ite_f q46 H
  refine ls_know (c := true) (congrArg Bool.not (Bool.eq_false_iff.mpr q46)) 71 (by kernel_rfl) ?_
  refine lofx 17 71 false true ?_
  refine lofx 17 71 false true ?_
  refine lofx 17 71 false true ?_
  refine lofx 17 71 false true ?_
  refine lofx 17 71 false true ?_
  refine lv (.bool true) ?_
  refine ls_end ?_
  refine qn_then ?_
  refine cs_true (by kernel_rfl) ?_
  refine cs_seq ?_
  refine cs_region (l := [_, _, _]) ?_
  refine lv (.agg ⟨([Value.int .i64 (0 : Int)] ++ ([Value.int .i64 (0 : Int)] ++ ([Value.int .i64 (0 : Int)] ++ ([Value.int .i64 (0 : Int)] ++ ([Value.string ByteArray.empty] ++ ([Value.string ByteArray.empty] ++ [Value.slice none 0 0]))))))⟩) ?_
  refine ls_storec (g := g1) (off := 0) (v := .agg ⟨([Value.int .i64 (0 : Int)] ++ ([Value.int .i64 (0 : Int)] ++ ([Value.int .i64 (0 : Int)] ++ ([Value.int .i64 (0 : Int)] ++ ([Value.string ByteArray.empty] ++ ([Value.string ByteArray.empty] ++ [Value.slice none 0 0]))))))⟩) (vs := ([Value.int .i64 (0 : Int)] ++ ([Value.int .i64 (0 : Int)] ++ ([Value.int .i64 (0 : Int)] ++ ([Value.int .i64 (0 : Int)] ++ ([Value.string ByteArray.empty] ++ ([Value.string ByteArray.empty] ++ [Value.slice none 0 0]))))))) (cs := ([Value.int .i64 (0 : Int)] ++ ([Value.int .i64 (0 : Int)] ++ ([Value.int .i64 (0 : Int)] ++ ([Value.int .i64 (0 : Int)] ++ ([Value.string ByteArray.empty] ++ ([Value.string ByteArray.empty] ++ [Value.slice none 0 0]))))))) (ty := 51) 0 rfl rfl rfl (by kernel_rfl) (by kernel_rfl) (by kernel_rfl) (by exact rfl) (by kernel_rfl) (len_app (len1 _) (len_app (len1 _) (len_app (len1 _) (len_app (len1 _) (len_app (len1 _) (len_app (len1 _) (len1 _))))))) (one_app (one_cons rfl one_nil) (one_app (one_cons rfl one_nil) (one_app (one_cons rfl one_nil) (one_app (one_cons rfl one_nil) (one_app (one_cons rfl one_nil) (one_app (one_cons rfl one_nil) (one_cons rfl one_nil))))))) (hl_of (Sub4.all _) (len_eq (len_app (len1 _) (len_app (len1 _) (len_app (len1 _) (len_app (len1 _) (len_app (len1 _) (len_app (len1 _) (len1 _))))))) (len_app (len1 _) (len_app (len1 _) (len_app (len1 _) (len_app (len1 _) (len_app (len1 _) (len_app (len1 _) (len1 _))))))))) (cs' := ([Value.int .i64 (0 : Int)] ++ ([Value.int .i64 (0 : Int)] ++ ([Value.int .i64 (0 : Int)] ++ ([Value.int .i64 (0 : Int)] ++ ([Value.string ByteArray.empty] ++ ([Value.string ByteArray.empty] ++ [Value.slice none 0 0]))))))) (splc_all (len_eq (len_app (len1 _) (len_app (len1 _) (len_app (len1 _) (len_app (len1 _) (len_app (len1 _) (len_app (len1 _) (len1 _))))))) (len_app (len1 _) (len_app (len1 _) (len_app (len1 _) (len_app (len1 _) (len_app (len1 _) (len_app (len1 _) (len1 _))))))))) ?_
  refine lv (.int .i64 (11 : Int)) ?_
  refine ls_end ?_
  refine qn_then ?_
  refine cs_ret' ?_
  refine qr_then ?_
  obtain rfl := Option.some.inj H
  refine qr_res (rs := [_, _]) rfl (fun w' hs => ⟨[.agg ⟨([Value.int .i64 (0 : Int)] ++ ([Value.int .i64 (0 : Int)] ++ ([Value.int .i64 (0 : Int)] ++ ([Value.int .i64 (0 : Int)] ++ ([Value.string ByteArray.empty] ++ ([Value.string ByteArray.empty] ++ [Value.slice none 0 0]))))))⟩, .int .i64 (11 : Int)], (.cell (by kernel_rfl) (run_cellres (by kernel_rfl) (by kernel_rfl) (len_app (len1 _) (len_app (len1 _) (len_app (len1 _) (len_app (len1 _) (len_app (len1 _) (len_app (len1 _) (len1 _))))))) (hs.holds 0 _ (by exact rfl))) (res_tmp (by kernel_rfl) (.nil))), bh1, hleh1, (none, 0), rfl, ⟨(Ro.nil _ _), (Nat.zero_le _)⟩, hs.pick (ts := []) (cs := []) trivial (by decide)⟩)

/-! ### shadowbox/record.split: function 54 -/
def record_split.lo2 (l0 : List Int) (y2 : Int) (xl12 : List Int) : Nat → Int → Int → Option ((ByteArray × Int))
  | 0, _, _ => none
  | k2 + 1, x4_2, x19_2 => (if x19_2 < (xl12.length : Int) then (if 0 ≤ x19_2 then lt (IntKind.wrap .u64 ((xl12).getD (x19_2).toNat (0 : Int))) fun y21 => lt (bits .or .u64 (IntKind.wrap .u64 (x4_2 * 256)) y21) fun y23 => (record_split.lo2 l0 y2 xl12 k2) y23 (IntKind.wrap .i64 (x19_2 + (1 : Int))) else none) else (if 0 ≤ IntKind.wrap .i64 (y2 - (1 : Int)) then (if IntKind.wrap .i64 (y2 - (1 : Int)) ≤ (l0.length : Int) then (if (1 : Int) ≤ IntKind.wrap .i64 (y2 - (1 : Int)) then lt ((l0.take (IntKind.wrap .i64 (y2 - (1 : Int))).toNat).drop ((1 : Int)).toNat) fun xl32 => lt (IntKind.wrap .u64 ((4611686018427387904 : Int) - x4_2)) fun y37 => some (strOfNums xl32, IntKind.wrap .i64 y37) else none) else none) else none))
def record_split.jo1 (k : Nat) (l0 : List Int) (y2 : Int) : Option ((ByteArray × Int)) := lt (IntKind.wrap .i64 ((IntKind.wrap .i64 (y2 - (1 : Int))) + (1 : Int))) fun y4 => (if 0 ≤ y4 then (if y4 ≤ (l0.length : Int) then lt (l0.drop (y4).toNat) fun xl12 => record_split.lo2 l0 y2 xl12 k (0 : Int) (0 : Int) else none) else none)
def record_split.f (k : Nat) (l0 : List Int) : Option ((ByteArray × Int)) :=
  lt (IntKind.wrap .i64 ((l0.length : Int) - (8 : Int))) fun y2 => (if (IntKind.wrap .i64 (y2 - (1 : Int))) < (1 : Int) then some (ByteArray.empty, (0 : Int)) else (record_split.jo1 k l0 y2))
set_option maxRecDepth 100000 in
set_option maxHeartbeats 4000000 in
theorem record_split.calls (k : Nat) (A0 : Option Addr) (c0 : Nat) (l0 : List Int) (r : (ByteArray × Int)) (b : Bs) (hs0 : St b (stl []) b.w) (R0 : Ro b A0 (em (Ec.int 5 .u8) l0)) (C0 : l0.length ≤ c0) (H : record_split.f k l0 = some r) :
    Calls Try.prog 54 #[.slice A0 l0.length c0] b.w fun e w' => ∃ x : Unit, e = .returned (.agg ⟨([Value.string r.1] ++ [Value.int .i64 r.2])⟩) ∧ St b (stl []) w' := by
  unfold record_split.f at H
  refine enterb (n := 37) Try.func54 rfl (by kernel_rfl) (by kernel_rfl) hs0 ?_
  refine cs_sub (s0) (sub_nil _) ?_
  refine cs_seq ?_
  refine cs_region (l := [_]) ?_
  refine ls_new rfl rfl (by kernel_rfl) 0 (fun g => .pointer (some ⟨g, 0, none⟩)) (.cells ⟨([Value.string ByteArray.empty] ++ [Value.int .i64 (0 : Int)])⟩ 104) (fun w => by kernel_rfl) ?_
  intro g1
  refine ls_end ?_
  refine qn_then ?_
  refine cs_seq ?_
  refine cs_region (l := [_, _, _, _, _]) ?_
  refine lv (.slice A0 l0.length c0) ?_
  refine lv (.int .i64 (l0.length : Int)) ?_
  obtain ⟨y2, hy3, H⟩ := lt_some H
  refine lv (.int .i64 (IntKind.wrap .i64 ((l0.length : Int) - (8 : Int)))) ?_
  refine ls_ren 9 (v := .int .i64 (IntKind.wrap .i64 ((l0.length : Int) - (8 : Int)))) (v' := .int .i64 y2) (by kernel_rfl) (by rw [hy3]) ?_
  refine lv (.int .i64 (IntKind.wrap .i64 (y2 - (1 : Int)))) ?_
  refine lv (.int .i64 (IntKind.wrap .i64 (y2 - (1 : Int)))) ?_
  refine ls_end ?_
  refine qn_then ?_
  refine cs_cut (fun f S => ∃ (fR : Fr), f = upd (upd (upd fR 0 (.slice A0 l0.length c0)) 2 (.pointer (some ⟨g1, 0, none⟩))) 3 (.int .i64 (IntKind.wrap .i64 (y2 - (1 : Int)))) ∧ S = sput s0 0 (some (Ck.var 104 g1 (([Value.string ByteArray.empty] ++ [Value.int .i64 (0 : Int)])))) ∧ record_split.jo1 k l0 y2 = some r) ?_ ?_
  · skip
    refine cs_seq ?_
    refine cs_region (l := [_, _]) ?_
    refine lv (.int .i64 (IntKind.wrap .i64 (y2 - (1 : Int)))) ?_
    refine lv (.bool (decide ((IntKind.wrap .i64 (y2 - (1 : Int))) < (1 : Int)))) ?_
    refine ls_end ?_
    refine qn_then ?_
    by_cases q39 : (IntKind.wrap .i64 (y2 - (1 : Int))) < (1 : Int)
    · replace H := ite_t q39 H
      refine cs_know (c := true) (dec_t q39) 12 (by kernel_rfl) ?_
      refine cs_true (by kernel_rfl) ?_
      refine cs_seq ?_
      refine cs_region (l := [_, _]) ?_
      refine lv (.agg ⟨([Value.string ByteArray.empty] ++ [Value.int .i64 (0 : Int)])⟩) ?_
      refine ls_storec (g := g1) (off := 0) (v := .agg ⟨([Value.string ByteArray.empty] ++ [Value.int .i64 (0 : Int)])⟩) (vs := ([Value.string ByteArray.empty] ++ [Value.int .i64 (0 : Int)])) (cs := ([Value.string ByteArray.empty] ++ [Value.int .i64 (0 : Int)])) (ty := 104) 0 rfl rfl rfl (by kernel_rfl) (by kernel_rfl) (by kernel_rfl) (by exact rfl) (by kernel_rfl) (len_app (len1 _) (len1 _)) (one_app (one_cons rfl one_nil) (one_cons rfl one_nil)) (hl_of (Sub4.all _) (len_eq (len_app (len1 _) (len1 _)) (len_app (len1 _) (len1 _)))) (cs' := ([Value.string ByteArray.empty] ++ [Value.int .i64 (0 : Int)])) (splc_all (len_eq (len_app (len1 _) (len1 _)) (len_app (len1 _) (len1 _)))) ?_
      refine ls_end ?_
      refine qn_then ?_
      refine cs_ret' ?_
      refine qr_then ?_
      obtain rfl := Option.some.inj H
      refine qr_res (rs := [_]) rfl (fun w' hs => ⟨[.agg ⟨([Value.string ByteArray.empty] ++ [Value.int .i64 (0 : Int)])⟩], (.cell (by kernel_rfl) (run_cellres (by kernel_rfl) (by kernel_rfl) (len_app (len1 _) (len1 _)) (hs.holds 0 _ (by exact rfl))) (.nil)), (), rfl, hs.pick (ts := []) (cs := []) trivial (by decide)⟩)
    replace H := ite_f q39 H
    refine cs_know (c := false) (dec_f q39) 12 (by kernel_rfl) ?_
    refine cs_false (by kernel_rfl) ?_
    refine cs_skip' ?_
    refine qn_meet (sput s0 0 (some (Ck.var 104 g1 (([Value.string ByteArray.empty] ++ [Value.int .i64 (0 : Int)]))))) ⟨_, fr_next (fr_next (fr_next (rfl) (by kernel_rfl)) (by kernel_rfl)) (by kernel_rfl), rfl, H⟩ (sub_put (by exact rfl) (sub_nil _))
  rintro f S ⟨fr1, rfl, rfl, H⟩
  replace H : (lt (IntKind.wrap .i64 ((IntKind.wrap .i64 (y2 - (1 : Int))) + (1 : Int))) fun y4 => (if 0 ≤ y4 then (if y4 ≤ (l0.length : Int) then lt (l0.drop (y4).toNat) fun xl12 => record_split.lo2 l0 y2 xl12 k (0 : Int) (0 : Int) else none) else none)) = some r := H
  refine cs_seq ?_
  refine cs_region (l := [_]) ?_
  refine lv (.int .u64 (0 : Int)) ?_
  refine ls_end ?_
  refine qn_then ?_
  refine cs_seq ?_
  refine cs_seq ?_
  refine cs_region (l := [_, _, _, _, _, _]) ?_
  refine lv (.slice A0 l0.length c0) ?_
  refine lv (.int .i64 (IntKind.wrap .i64 (y2 - (1 : Int)))) ?_
  obtain ⟨y4, hy5, H⟩ := lt_some H
  refine lv (.int .i64 (IntKind.wrap .i64 ((IntKind.wrap .i64 (y2 - (1 : Int))) + (1 : Int)))) ?_
  refine ls_ren 16 (v := .int .i64 (IntKind.wrap .i64 ((IntKind.wrap .i64 (y2 - (1 : Int))) + (1 : Int)))) (v' := .int .i64 y4) (by kernel_rfl) (by rw [hy5]) ?_
  obtain ⟨q6, H⟩ := ite_need H
  obtain ⟨q7, H⟩ := ite_need H
  obtain ⟨xl12, hy13, H⟩ := lt_some H
  have hz15 : (y4).toNat ≤ l0.length := by omega
  have hz16 : l0.length ≤ l0.length := by omega
  obtain ⟨xA8, xc9, he14, xC11, xR10⟩ := cut_at (A := A0) (c := c0) (l := l0) (Ec.int 5 .u8) ((y4).toNat) l0.length hz15 hz16 C0 R0 (m := xl12) (by rw [← hy13] <;> simp) (z := 1) rfl
  refine ls_cutv (A := A0) (c := c0) (m := l0.length) (z := 1) (e := 5) (a := (y4).toNat) (b := l0.length) rfl rfl (by kernel_rfl) rfl (by kernel_rfl) (by kernel_rfl) (by kernel_rfl) (.inr ⟨.i64, by rw [Int.toNat_of_nonneg (by first | assumption | omega)]; kernel_rfl⟩) (.inl ⟨rfl, rfl⟩) hz15 hz16 C0 he14 ?_
  refine lv (.int .i64 (xl12.length : Int)) ?_
  refine lv (.int .i64 (0 : Int)) ?_
  refine ls_end ?_
  refine qn_then ?_
  refine cs_block ?_
  refine cs_sub (sput s0 0 (some (Ck.var 104 g1 (([Value.string ByteArray.empty] ++ [Value.int .i64 (0 : Int)]))))) (sub_put (by exact rfl) (sub_nil _)) ?_
  refine cs_loop (fun kk f S => ∃ (fR : Fr) (x4_2 : Int) (x19_2 : Int), f = upd (upd (upd (upd (upd (upd (upd fR 0 (.slice A0 l0.length c0)) 2 (.pointer (some ⟨g1, 0, none⟩))) 3 (.int .i64 (IntKind.wrap .i64 (y2 - (1 : Int))))) 4 (.int .u64 x4_2)) 17 (.slice xA8 xl12.length xc9)) 18 (.int .i64 (xl12.length : Int))) 19 (.int .i64 x19_2) ∧ S = sput s0 0 (some (Ck.var 104 g1 (([Value.string ByteArray.empty] ++ [Value.int .i64 (0 : Int)])))) ∧ record_split.lo2 l0 y2 xl12 kk x4_2 x19_2 = some r) k ?_ ?_ ?_
  · exact ⟨_, (0 : Int), (0 : Int), fr_next (fr_next (fr_next (fr_next (fr_next (fr_next (fr_next (rfl) (by kernel_rfl)) (by kernel_rfl)) (by kernel_rfl)) (by kernel_rfl)) (by kernel_rfl)) (by kernel_rfl)) (by kernel_rfl), rfl, H⟩
  · rintro f S ⟨fr2, x4_2, x19_2, rfl, rfl, H⟩; cases H
  rintro k2 f S ⟨fr2, x4_2, x19_2, rfl, rfl, H⟩
  replace H : ((if x19_2 < (xl12.length : Int) then (if 0 ≤ x19_2 then lt (IntKind.wrap .u64 ((xl12).getD (x19_2).toNat (0 : Int))) fun y21 => lt (bits .or .u64 (IntKind.wrap .u64 (x4_2 * 256)) y21) fun y23 => (record_split.lo2 l0 y2 xl12 k2) y23 (IntKind.wrap .i64 (x19_2 + (1 : Int))) else none) else (if 0 ≤ IntKind.wrap .i64 (y2 - (1 : Int)) then (if IntKind.wrap .i64 (y2 - (1 : Int)) ≤ (l0.length : Int) then (if (1 : Int) ≤ IntKind.wrap .i64 (y2 - (1 : Int)) then lt ((l0.take (IntKind.wrap .i64 (y2 - (1 : Int))).toNat).drop ((1 : Int)).toNat) fun xl32 => lt (IntKind.wrap .u64 ((4611686018427387904 : Int) - x4_2)) fun y37 => some (strOfNums xl32, IntKind.wrap .i64 y37) else none) else none) else none))) = some r := H
  refine cs_seq ?_
  refine cs_region (l := [_]) ?_
  refine lv (.bool (decide (x19_2 < (xl12.length : Int)))) ?_
  refine ls_end ?_
  refine qn_then ?_
  refine cs_seq ?_
  by_cases q17 : x19_2 < (xl12.length : Int)
  · replace H := ite_t q17 H
    refine cs_know (c := true) (dec_t q17) 20 (by kernel_rfl) ?_
    refine cs_true (by kernel_rfl) ?_
    refine cs_skip' ?_
    refine qn_then ?_
    refine cs_seq ?_
    refine cs_block ?_
    refine cs_seq ?_
    refine cs_region (l := [_, _, _]) ?_
    obtain ⟨q18, H⟩ := ite_need H
    obtain ⟨ad19, hA20⟩ := ido_at (T := (Ec.int 5 .u8)) (l := xl12) (i := x19_2) xR10 q18 q17
    refine ls_idxv (Ec.int 5 .u8) (A := xA8) (c := xc9) (l := xl12) (k := .i64) (i := x19_2) (z := 1) (ad := ad19) rfl rfl (by kernel_rfl) hA20 rfl (by kernel_rfl) (by kernel_rfl) (by kernel_rfl) (by kernel_rfl) q18 q17 ?_
    refine ls_load (a0 := (ad19.add ((x19_2).toNat * 1))) (v := .int .u8 ((xl12).getD (x19_2).toNat (0 : Int))) (de := (TypeDesc.int .u8)) rfl rfl (by kernel_rfl) rfl (by kernel_rfl) (by kernel_rfl) (by kernel_rfl) (fun w hs => (hs.old xR10).at hA20 (em_sub (Ec.int 5 .u8) xl12 (i := (x19_2).toNat) (by have h0 : (0 : Int) ≤ x19_2 := q18; have h1 : x19_2 < (xl12.length : Int) := q17; omega))) ?_
    refine lv (.int .u8 ((xl12).getD (x19_2).toNat (0 : Int))) ?_
    refine ls_end ?_
    refine qn_then ?_
    refine cs_region (l := [_, _, _, _, _, _]) ?_
    refine lv (.int .u64 x4_2) ?_
    refine lv (.int .u64 (IntKind.wrap .u64 (x4_2 * 256))) ?_
    refine lv (.int .u8 ((xl12).getD (x19_2).toNat (0 : Int))) ?_
    obtain ⟨y21, hy22, H⟩ := lt_some H
    refine lv (.int .u64 (IntKind.wrap .u64 ((xl12).getD (x19_2).toNat (0 : Int)))) ?_
    refine ls_ren 26 (v := .int .u64 (IntKind.wrap .u64 ((xl12).getD (x19_2).toNat (0 : Int)))) (v' := .int .u64 y21) (by kernel_rfl) (by rw [hy22]) ?_
    obtain ⟨y23, hy24, H⟩ := lt_some H
    refine lv (.int .u64 (bits .or .u64 (IntKind.wrap .u64 (x4_2 * 256)) y21)) ?_
    refine ls_ren 27 (v := .int .u64 (bits .or .u64 (IntKind.wrap .u64 (x4_2 * 256)) y21)) (v' := .int .u64 y23) (by kernel_rfl) (by rw [hy24]) ?_
    refine lv (.int .u64 y23) ?_
    refine ls_end ?_
    refine qn_block ?_
    refine qn_then ?_
    refine cs_region (l := [_, _]) ?_
    refine lv (.int .i64 (IntKind.wrap .i64 (x19_2 + (1 : Int)))) ?_
    refine lv (.int .i64 (IntKind.wrap .i64 (x19_2 + (1 : Int)))) ?_
    refine ls_end ?_
    refine qn_again k2 (sput s0 0 (some (Ck.var 104 g1 (([Value.string ByteArray.empty] ++ [Value.int .i64 (0 : Int)]))))) (Nat.le_refl _) ⟨_, y23, (IntKind.wrap .i64 (x19_2 + (1 : Int))), fr_next (fr_next (fr_next (fr_next (fr_next (fr_next (fr_next (rfl) (by kernel_rfl)) (by kernel_rfl)) (by kernel_rfl)) (by kernel_rfl)) (by kernel_rfl)) (by kernel_rfl)) (by kernel_rfl), rfl, H⟩ (sub_put (by exact rfl) (sub_nil _))
  replace H := ite_f q17 H
  refine cs_know (c := false) (dec_f q17) 20 (by kernel_rfl) ?_
  refine cs_false (by kernel_rfl) ?_
  refine cs_exit' ?_
  refine qx_then ?_
  refine qx_then ?_
  refine qx_same ?_
  refine qn_then ?_
  refine cs_seq ?_
  refine cs_region (l := [_, _, _, _, _, _, _, _, _]) ?_
  refine lv (.slice A0 l0.length c0) ?_
  refine lv (.int .i64 (IntKind.wrap .i64 (y2 - (1 : Int)))) ?_
  obtain ⟨q25, H⟩ := ite_need H
  obtain ⟨q26, H⟩ := ite_need H
  obtain ⟨q27, H⟩ := ite_need H
  obtain ⟨xl32, hy33, H⟩ := lt_some H
  have hz35 : ((1 : Int)).toNat ≤ (IntKind.wrap .i64 (y2 - (1 : Int))).toNat := by omega
  have hz36 : (IntKind.wrap .i64 (y2 - (1 : Int))).toNat ≤ l0.length := by omega
  obtain ⟨xA28, xc29, he34, xC31, xR30⟩ := cut_at (A := A0) (c := c0) (l := l0) (Ec.int 5 .u8) (((1 : Int)).toNat) ((IntKind.wrap .i64 (y2 - (1 : Int))).toNat) hz35 hz36 C0 R0 (m := xl32) (by rw [← hy33] <;> simp) (z := 1) rfl
  refine ls_cutv (A := A0) (c := c0) (m := l0.length) (z := 1) (e := 5) (a := ((1 : Int)).toNat) (b := (IntKind.wrap .i64 (y2 - (1 : Int))).toNat) rfl rfl (by kernel_rfl) rfl (by kernel_rfl) (by kernel_rfl) (by kernel_rfl) (.inr ⟨.i64, by rw [Int.toNat_of_nonneg (by first | assumption | omega)]; kernel_rfl⟩) (.inr ⟨.i64, by rw [Int.toNat_of_nonneg (by first | assumption | omega)]; kernel_rfl⟩) hz35 hz36 C0 he34 ?_
  refine ls_str (A := xA28) (c := xc29) (e := 5) (l := xl32) rfl rfl (by kernel_rfl) rfl (by kernel_rfl) (by kernel_rfl) (by kernel_rfl) (by kernel_rfl) (fun w hs => (hs.old xR30)) ?_
  refine lv (.int .u64 x4_2) ?_
  obtain ⟨y37, hy38, H⟩ := lt_some H
  refine lv (.int .u64 (IntKind.wrap .u64 ((4611686018427387904 : Int) - x4_2))) ?_
  refine ls_ren 34 (v := .int .u64 (IntKind.wrap .u64 ((4611686018427387904 : Int) - x4_2))) (v' := .int .u64 y37) (by kernel_rfl) (by rw [hy38]) ?_
  refine lv (.int .i64 (IntKind.wrap .i64 y37)) ?_
  refine lv (.agg ⟨([Value.string (strOfNums xl32)] ++ [Value.int .i64 (IntKind.wrap .i64 y37)])⟩) ?_
  refine ls_storec (g := g1) (off := 0) (v := .agg ⟨([Value.string (strOfNums xl32)] ++ [Value.int .i64 (IntKind.wrap .i64 y37)])⟩) (vs := ([Value.string (strOfNums xl32)] ++ [Value.int .i64 (IntKind.wrap .i64 y37)])) (cs := ([Value.string ByteArray.empty] ++ [Value.int .i64 (0 : Int)])) (ty := 104) 0 rfl rfl rfl (by kernel_rfl) (by kernel_rfl) (by kernel_rfl) (by exact rfl) (by kernel_rfl) (len_app (len1 _) (len1 _)) (one_app (one_cons rfl one_nil) (one_cons rfl one_nil)) (hl_of (Sub4.all _) (len_eq (len_app (len1 _) (len1 _)) (len_app (len1 _) (len1 _)))) (cs' := ([Value.string (strOfNums xl32)] ++ [Value.int .i64 (IntKind.wrap .i64 y37)])) (splc_all (len_eq (len_app (len1 _) (len1 _)) (len_app (len1 _) (len1 _)))) ?_
  refine ls_end ?_
  refine qn_then ?_
  refine cs_ret' ?_
  obtain rfl := Option.some.inj H
  refine qr_res (rs := [_]) rfl (fun w' hs => ⟨[.agg ⟨([Value.string (strOfNums xl32)] ++ [Value.int .i64 (IntKind.wrap .i64 y37)])⟩], (.cell (by kernel_rfl) (run_cellres (by kernel_rfl) (by kernel_rfl) (len_app (len1 _) (len1 _)) (hs.holds 0 _ (by exact rfl))) (.nil)), (), rfl, hs.pick (ts := []) (cs := []) trivial (by decide)⟩)

/-! ### bytes.IndexByte: function 55 -/
def bytes_IndexByte.f (k : Nat) (l0 : List Int) (a1 : Int) : Option (Int) :=
  some (byidx l0 a1)
set_option maxRecDepth 100000 in
set_option maxHeartbeats 4000000 in
theorem bytes_IndexByte.calls (k : Nat) (A0 : Option Addr) (c0 : Nat) (l0 : List Int) (a1 : Int) (r : Int) (b : Bs) (hs0 : St b (stl []) b.w) (R0 : Ro b A0 (em (Ec.int 5 .u8) l0)) (C0 : l0.length ≤ c0) (H : bytes_IndexByte.f k l0 a1 = some r) :
    Calls Try.prog 55 #[.slice A0 l0.length c0, .int .u8 a1] b.w fun e w' => ∃ x : Unit, e = .returned (.int .i64 r) ∧ St b (stl []) w' := by
  unfold bytes_IndexByte.f at H
  refine enterb (n := 8) Try.func55 rfl (by kernel_rfl) (by kernel_rfl) hs0 ?_
  refine cs_sub (s0) (sub_nil _) ?_
  refine cs_seq ?_
  refine cs_region (l := [_]) ?_
  refine lv (.int .i64 (0 : Int)) ?_
  refine ls_end ?_
  refine qn_then ?_
  refine cs_seq ?_
  refine cs_region (l := [_, _, _, _]) ?_
  refine lv (.slice A0 l0.length c0) ?_
  refine lv (.int .u8 a1) ?_
  refine ls_bidx (fid := 85) (A := A0) (c := c0) (l := l0) (x := a1) (t := 5) rfl rfl (by kernel_rfl) (fun w => by kernel_rfl) (fn := Try.f85) Try.func85 (by kernel_rfl) (by kernel_rfl) (by kernel_rfl) (by kernel_rfl) (fun w hs => (hs.old R0)) ?_
  refine lv (.int .i64 (byidx l0 a1)) ?_
  refine ls_end ?_
  refine qn_then ?_
  refine cs_ret' ?_
  obtain rfl := Option.some.inj H
  refine qr_res (rs := [_]) rfl (fun w' hs => ⟨[.int .i64 (byidx l0 a1)], (res_tmp (by kernel_rfl) (.nil)), (), rfl, hs.pick (ts := []) (cs := []) trivial (by decide)⟩)

/-! ### shadowbox/record.Split: function 28 -/
def record_Split.tab23 : List (List Nat) := [[], [0], [], [2], [0, 1], [0, 1, 2, 3, 4], [0, 1, 2, 3, 4, 5]]
def record_Split.f (k : Nat) (l0 : List Int) : Option (ByteArray × Int × Bool) :=
  (record_split.f k l0).bind fun t1 => (if ((t1.1.toList == ByteArray.empty.toList) && (t1.2 == (0 : Int))) = true then some ((⟨#[]⟩ : ByteArray), (0 : Int), false) else (record_within.f k t1.2 (1 : Int) (1152921504606846976 : Int)).bind fun t6 => (if t6 = true then (bytes_IndexByte.f k (bl t1.1) (0 : Int)).bind fun t13 => (if t13 ≥ (0 : Int) then some ((⟨#[]⟩ : ByteArray), (0 : Int), false) else (record_Key.f k t1.1 t1.2).bind fun t17 => (bytes_Equal.f k t17 l0).bind fun t20 => (if t20 = true then some (t1.1, t1.2, true) else some ((⟨#[]⟩ : ByteArray), (0 : Int), false))) else some ((⟨#[]⟩ : ByteArray), (0 : Int), false)))
set_option maxRecDepth 100000 in
set_option maxHeartbeats 4000000 in
theorem record_Split.calls (k : Nat) (A0 : Option Addr) (c0 : Nat) (l0 : List Int) (r : ByteArray × Int × Bool) (b : Bs) (hs0 : St b (stl []) b.w) (R0 : Ro b A0 (em (Ec.int 5 .u8) l0)) (C0 : l0.length ≤ c0) (H : record_Split.f k l0 = some r) :
    Calls Try.prog 28 #[.slice A0 l0.length c0] b.w fun e w' => ∃ x : Unit, e = .returned (.tuple #[.string r.1, .int .i64 r.2.1, .bool r.2.2]) ∧ St b (stl []) w' := by
  unfold record_Split.f at H
  refine enterb (n := 38) Try.func28 rfl (by kernel_rfl) (by kernel_rfl) hs0 ?_
  refine cs_sub (s0) (sub_nil _) ?_
  refine cs_seq ?_
  refine cs_region (l := [_, _, _]) ?_
  refine lv (.string (⟨#[]⟩ : ByteArray)) ?_
  refine lv (.int .i64 (0 : Int)) ?_
  refine lv (.bool false) ?_
  refine ls_end ?_
  refine qn_then ?_
  refine cs_seq ?_
  refine cs_region (l := [_, _, _, _]) ?_
  refine lv (.slice A0 l0.length c0) ?_
  obtain ⟨t1, hc2, H⟩ := bind_some H
  refine ls_callb (fid := 54) (vals := #[.slice A0 l0.length c0]) (X := Unit) (fun x => .agg ⟨([Value.string t1.1] ++ [Value.int .i64 t1.2])⟩) (fun x => stl []) [] [] [] [] 0 rfl rfl (by kernel_rfl) (fun w => by kernel_rfl) trivial trivial (by decide) (fun w hs hb => record_split.calls k A0 c0 l0 t1 (lent b w [] []) hb (hs.ro R0 _ _) C0 hc2) ?_
  intro x3
  refine ls_new rfl rfl (by kernel_rfl) 0 (fun g => .pointer (some ⟨g, 0, none⟩)) (.cells ⟨([Value.string ByteArray.empty] ++ [Value.int .i64 (0 : Int)])⟩ 104) (fun w => by kernel_rfl) ?_
  intro g4
  refine ls_storec (g := g4) (off := 0) (v := .agg ⟨([Value.string t1.1] ++ [Value.int .i64 t1.2])⟩) (vs := ([Value.string t1.1] ++ [Value.int .i64 t1.2])) (cs := ([Value.string ByteArray.empty] ++ [Value.int .i64 (0 : Int)])) (ty := 104) 0 rfl rfl rfl (by kernel_rfl) (by kernel_rfl) (by kernel_rfl) (by exact rfl) (by kernel_rfl) (len_app (len1 _) (len1 _)) (one_app (one_cons rfl one_nil) (one_cons rfl one_nil)) (hl_of (Sub4.all _) (len_eq (len_app (len1 _) (len1 _)) (len_app (len1 _) (len1 _)))) (cs' := ([Value.string t1.1] ++ [Value.int .i64 t1.2])) (splc_all (len_eq (len_app (len1 _) (len1 _)) (len_app (len1 _) (len1 _)))) ?_
  refine ls_end ?_
  refine qn_then ?_
  refine cs_seq ?_
  refine cs_seq ?_
  refine cs_region (l := [_, _, _, _, _, _, _, _, _, _, _, _, _, _, _, _, _, _, _, _, _, _, _, _, _, _]) ?_
  refine ls_loadagg (a := ⟨g4, 0, none⟩) (sub := ([Value.string t1.1] ++ [Value.int .i64 t1.2])) rfl rfl (by kernel_rfl) rfl (by kernel_rfl) (by kernel_rfl) (by kernel_rfl) (len_app (len1 _) (len1 _)) (fun w hs => (hs.vars (k := 0) (by exact rfl) (Sub4.all _))) ?_
  refine lv (.agg ⟨([Value.string ByteArray.empty] ++ [Value.int .i64 (0 : Int)])⟩) ?_
  refine ls_eql (xs := ([Value.string t1.1] ++ [Value.int .i64 t1.2])) (ys := ([Value.string ByteArray.empty] ++ [Value.int .i64 (0 : Int)])) (r := ((t1.1.toList == ByteArray.empty.toList) && (t1.2 == (0 : Int)))) rfl rfl (by kernel_rfl) rfl (by kernel_rfl) (by kernel_rfl) (by kernel_rfl) (eq_st (by kernel_rfl) (by kernel_rfl) (eqf_cons (ft := 9) (fo := 0) (by kernel_rfl) (part_one (by kernel_rfl) (Sub4.trans (Sub4.all _) (Sub4.head _ _))) (part_one (by kernel_rfl) (Sub4.trans (Sub4.all _) (Sub4.head _ _))) (eq_str (by kernel_rfl) _ _ _) (eqf_last (ft := 3) (fo := 1) (by kernel_rfl) (part_one (by kernel_rfl) (Sub4.trans (Sub4.all _) (Sub4.skip (n := 1) (len1 _) (Sub4.all _)))) (part_one (by kernel_rfl) (Sub4.trans (Sub4.all _) (Sub4.skip (n := 1) (len1 _) (Sub4.all _)))) (eq_int (by kernel_rfl) _ _ _) (by kernel_rfl)))) ?_
  refine lv (.bool ((t1.1.toList == ByteArray.empty.toList) && (t1.2 == (0 : Int)))) ?_
  by_cases q5 : ((t1.1.toList == ByteArray.empty.toList) && (t1.2 == (0 : Int))) = true
  · replace H := ite_t q5 H
    refine ls_know (c := true) (q5) 11 (by kernel_rfl) ?_
    refine lofx 3 11 false true ?_
    refine lofx 3 11 false true ?_
    refine lofx 3 11 false true ?_
    refine lofx 3 11 false true ?_
    refine lv (.bool true) ?_
    refine lv (.bool true) ?_
    refine lofx 9 17 false true ?_
    refine lofx 9 17 false true ?_
    refine lofx 9 17 false true ?_
    refine lofx 9 17 false true ?_
    refine lofx 9 17 false true ?_
    refine lv (.bool true) ?_
    refine lv (.bool true) ?_
    refine lofx 16 24 false true ?_
    refine lofx 16 24 false true ?_
    refine lofx 16 24 false true ?_
    refine lofx 16 24 false true ?_
    refine lofx 16 24 false true ?_
    refine lofx 16 24 false true ?_
    refine lofx 16 24 false true ?_
    refine lofx 16 24 false true ?_
    refine lv (.bool true) ?_
    refine ls_end ?_
    refine qn_then ?_
    refine cs_true (by kernel_rfl) ?_
    refine cs_seq ?_
    refine cs_region (l := [_, _, _]) ?_
    refine lv (.string (⟨#[]⟩ : ByteArray)) ?_
    refine lv (.int .i64 (0 : Int)) ?_
    refine lv (.bool false) ?_
    refine ls_end ?_
    refine qn_then ?_
    refine cs_ret' ?_
    refine qr_then ?_
    obtain rfl := Option.some.inj H
    refine qr_res (rs := [_, _, _]) rfl (fun w' hs => ⟨[.string (⟨#[]⟩ : ByteArray), .int .i64 (0 : Int), .bool false], (res_tmp (by kernel_rfl) (res_tmp (by kernel_rfl) (res_tmp (by kernel_rfl) (.nil)))), (), rfl, hs.pick (ts := []) (cs := []) trivial (by decide)⟩)
  replace H := ite_f q5 H
  refine ls_know (c := false) (Bool.eq_false_iff.mpr q5) 11 (by kernel_rfl) ?_
  refine ls_on (j := 3) (t := 11) (b := false) rfl rfl (by kernel_rfl) (by kernel_rfl) ?_
  refine lv (.pointer (some ⟨g4, (0 + 1), none⟩)) ?_
  refine ls_on (j := 3) (t := 11) (b := false) rfl rfl (by kernel_rfl) (by kernel_rfl) ?_
  refine ls_load (a0 := ⟨g4, (0 + 1), none⟩) (v := .int .i64 t1.2) (de := (TypeDesc.int .i64)) rfl rfl (by kernel_rfl) rfl (by kernel_rfl) (by kernel_rfl) (by kernel_rfl) (fun w hs => (hs.var (k := 0) (by exact rfl) (Sub4.trans (Sub4.all _) (Sub4.skip (n := 1) (len1 _) (Sub4.all _))))) ?_
  refine ls_on (j := 3) (t := 11) (b := false) rfl rfl (by kernel_rfl) (by kernel_rfl) ?_
  obtain ⟨t6, hc7, H⟩ := bind_some H
  refine ls_callb (fid := 47) (vals := #[.int .i64 t1.2, .int .i64 (1 : Int), .int .i64 (1152921504606846976 : Int)]) (X := Unit) (fun x => .bool t6) (fun x => stl []) [] [] [] [] 1 rfl rfl (by kernel_rfl) (fun w => by kernel_rfl) trivial trivial (by decide) (fun w hs hb => record_within.calls k t1.2 (1 : Int) (1152921504606846976 : Int) t6 (lent b w [] []) hb  hc7) ?_
  intro x8
  refine ls_on (j := 3) (t := 11) (b := false) rfl rfl (by kernel_rfl) (by kernel_rfl) ?_
  refine lv (.bool (!t6)) ?_
  refine lv (.bool (!t6)) ?_
  refine lv (.bool (!t6)) ?_
  by_cases q9 : t6 = true
  · replace H := ite_t q9 H
    refine ls_know (c := false) (congrArg Bool.not (q9)) 17 (by kernel_rfl) ?_
    refine ls_on (j := 9) (t := 17) (b := false) rfl rfl (by kernel_rfl) (by kernel_rfl) ?_
    refine lv (.pointer (some ⟨g4, (0 + 0), none⟩)) ?_
    refine ls_on (j := 9) (t := 17) (b := false) rfl rfl (by kernel_rfl) (by kernel_rfl) ?_
    refine ls_load (a0 := ⟨g4, (0 + 0), none⟩) (v := .string t1.1) (de := TypeDesc.string) rfl rfl (by kernel_rfl) rfl (by kernel_rfl) (by kernel_rfl) (by kernel_rfl) (fun w hs => (hs.var (k := 0) (by exact rfl) (Sub4.trans (Sub4.all _) (Sub4.head _ _)))) ?_
    refine ls_on (j := 9) (t := 17) (b := false) rfl rfl (by kernel_rfl) (by kernel_rfl) ?_
    refine ls_bytes (u := .string) (e := 5) (s := t1.1) 1 rfl rfl (by kernel_rfl) rfl (by kernel_rfl) (by kernel_rfl) (by kernel_rfl) (by kernel_rfl) ?_
    intro g10 xc11 xC12
    refine ls_on (j := 9) (t := 17) (b := false) rfl rfl (by kernel_rfl) (by kernel_rfl) ?_
    obtain ⟨t13, hc14, H⟩ := bind_some H
    refine ls_callb (fid := 55) (vals := #[.slice (some ⟨g10, 0, none⟩) (bl t1.1).length xc11, .int .u8 (0 : Int)]) (X := Unit) (fun x => .int .i64 t13) (fun x => stl []) [] [1] [] [Ck.rs g10 (em (Ec.int 5 .u8) (bl t1.1))] 2 rfl rfl (by kernel_rfl) (fun w => by kernel_rfl) trivial ⟨by exact rfl, trivial⟩ (by decide) (fun w hs hb => bytes_IndexByte.calls k (some ⟨g10, 0, none⟩) xc11 (bl t1.1) (0 : Int) t13 (lent b w [] [Ck.rs g10 (em (Ec.int 5 .u8) (bl t1.1))]) hb (Rd.ror (hs.rs (k := 1) (by exact rfl)) (.head _) Ck.rs_key) xC12 hc14) ?_
    intro x15
    refine ls_on (j := 9) (t := 17) (b := false) rfl rfl (by kernel_rfl) (by kernel_rfl) ?_
    refine lv (.bool (decide (t13 ≥ (0 : Int)))) ?_
    refine lv (.bool (decide (t13 ≥ (0 : Int)))) ?_
    refine lv (.bool (decide (t13 ≥ (0 : Int)))) ?_
    by_cases q16 : t13 ≥ (0 : Int)
    · replace H := ite_t q16 H
      refine ls_know (c := true) (dec_t q16) 24 (by kernel_rfl) ?_
      refine lofx 16 24 false true ?_
      refine lofx 16 24 false true ?_
      refine lofx 16 24 false true ?_
      refine lofx 16 24 false true ?_
      refine lofx 16 24 false true ?_
      refine lofx 16 24 false true ?_
      refine lofx 16 24 false true ?_
      refine lofx 16 24 false true ?_
      refine lv (.bool true) ?_
      refine ls_end ?_
      refine qn_then ?_
      refine cs_true (by kernel_rfl) ?_
      refine cs_seq ?_
      refine cs_region (l := [_, _, _]) ?_
      refine lv (.string (⟨#[]⟩ : ByteArray)) ?_
      refine lv (.int .i64 (0 : Int)) ?_
      refine lv (.bool false) ?_
      refine ls_end ?_
      refine qn_then ?_
      refine cs_ret' ?_
      refine qr_then ?_
      obtain rfl := Option.some.inj H
      refine qr_res (rs := [_, _, _]) rfl (fun w' hs => ⟨[.string (⟨#[]⟩ : ByteArray), .int .i64 (0 : Int), .bool false], (res_tmp (by kernel_rfl) (res_tmp (by kernel_rfl) (res_tmp (by kernel_rfl) (.nil)))), (), rfl, hs.pick (ts := []) (cs := []) trivial (by decide)⟩)
    replace H := ite_f q16 H
    refine ls_know (c := false) (dec_f q16) 24 (by kernel_rfl) ?_
    refine ls_on (j := 16) (t := 24) (b := false) rfl rfl (by kernel_rfl) (by kernel_rfl) ?_
    refine lv (.pointer (some ⟨g4, (0 + 0), none⟩)) ?_
    refine ls_on (j := 16) (t := 24) (b := false) rfl rfl (by kernel_rfl) (by kernel_rfl) ?_
    refine ls_load (a0 := ⟨g4, (0 + 0), none⟩) (v := .string t1.1) (de := TypeDesc.string) rfl rfl (by kernel_rfl) rfl (by kernel_rfl) (by kernel_rfl) (by kernel_rfl) (fun w hs => (hs.var (k := 0) (by exact rfl) (Sub4.trans (Sub4.all _) (Sub4.head _ _)))) ?_
    refine ls_on (j := 16) (t := 24) (b := false) rfl rfl (by kernel_rfl) (by kernel_rfl) ?_
    refine lv (.pointer (some ⟨g4, (0 + 1), none⟩)) ?_
    refine ls_on (j := 16) (t := 24) (b := false) rfl rfl (by kernel_rfl) (by kernel_rfl) ?_
    refine ls_load (a0 := ⟨g4, (0 + 1), none⟩) (v := .int .i64 t1.2) (de := (TypeDesc.int .i64)) rfl rfl (by kernel_rfl) rfl (by kernel_rfl) (by kernel_rfl) (by kernel_rfl) (fun w hs => (hs.var (k := 0) (by exact rfl) (Sub4.trans (Sub4.all _) (Sub4.skip (n := 1) (len1 _) (Sub4.all _))))) ?_
    refine ls_on (j := 16) (t := 24) (b := false) rfl rfl (by kernel_rfl) (by kernel_rfl) ?_
    obtain ⟨t17, hc18, H⟩ := bind_some H
    refine ls_callb (fid := 17) (vals := #[.string t1.1, .int .i64 t1.2]) (X := (Option Addr × Nat)) (fun x => .slice x.1 t17.length x.2) (fun x => stl [Ck.sl (Ec.int 5 .u8) x.1 x.2 t17]) [] [] [] [] 2 rfl rfl (by kernel_rfl) (fun w => by kernel_rfl) trivial trivial (by decide) (fun w hs hb => record_Key.calls k t1.1 t1.2 t17 (lent b w [] []) hb  hc18) ?_
    intro x19
    refine ls_on (j := 16) (t := 24) (b := false) rfl rfl (by kernel_rfl) (by kernel_rfl) ?_
    refine lv (.slice A0 l0.length c0) ?_
    refine ls_on (j := 16) (t := 24) (b := false) rfl rfl (by kernel_rfl) (by kernel_rfl) ?_
    obtain ⟨t20, hc21, H⟩ := bind_some H
    refine ls_callb (fid := 35) (vals := #[.slice x19.1 t17.length x19.2, .slice A0 l0.length c0]) (X := Unit) (fun x => .bool t20) (fun x => stl []) [] [2] [] [Ck.sl (Ec.int 5 .u8) x19.1 x19.2 t17] 3 rfl rfl (by kernel_rfl) (fun w => by kernel_rfl) trivial ⟨by exact rfl, trivial⟩ (by decide) (fun w hs hb => bytes_Equal.calls k x19.1 x19.2 t17 A0 c0 l0 t20 (lent b w [] [Ck.sl (Ec.int 5 .u8) x19.1 x19.2 t17]) hb (hs.ror (k := 2) (by exact rfl) (.head _)) (hs.cap (k := 2) (by exact rfl)) (hs.ro R0 _ _) C0 hc21) ?_
    intro x22
    refine ls_on (j := 16) (t := 24) (b := false) rfl rfl (by kernel_rfl) (by kernel_rfl) ?_
    refine lv (.bool (!t20)) ?_
    refine lv (.bool (!t20)) ?_
    refine ls_end ?_
    refine qn_then ?_
    by_cases q23 : t20 = true
    · replace H := ite_t q23 H
      refine cs_know (c := false) (congrArg Bool.not (q23)) 33 (by kernel_rfl) ?_
      refine cs_false (by kernel_rfl) ?_
      refine cs_skip' ?_
      refine qn_then ?_
      refine cs_seq ?_
      obtain ⟨s25_0, hs25_0⟩ := exv (.pointer (some ⟨g4, (0 + 0), none⟩))
      refine have_opa record_Split.tab23 3 0 (fun sp => sp 0 = s25_0) (fun sp on hA hon => ?_) (fun ops25_0 => ?_)
      · refine ⟨fun o ho vs Rs f' S' w hp hf hx hS hR hs => ?_⟩
        obtain rfl := Option.some.inj ho
        exact opv (.pointer (some ⟨g4, (0 + 0), none⟩)) hA hs25_0 hon (fr_next (rfl) ((hx 5 (by kernel_rfl)).trans (by kernel_rfl : (_ : Value) = .pointer (some ⟨g4, 0, none⟩))))
      obtain ⟨s25_1, hs25_1⟩ := exv (.string t1.1)
      refine have_opa record_Split.tab23 3 1 (fun sp => sp 1 = s25_1 ∧ sp 0 = s25_0) (fun sp on hA hon => ?_) (fun ops25_1 => ?_)
      · refine ⟨fun o ho vs Rs f' S' w hp hf hx hS hR hs => ?_⟩
        obtain rfl := Option.some.inj ho
        obtain ⟨hv0, hR0⟩ := (spe hA.2 hs25_0 (hp 0 (by kernel_rfl)))
        rw [hA.1, hs25_1]
        refine wn hon ?_
        have hF := fr_next (rfl) ((hf 0 34 (by kernel_rfl) rfl).trans hv0)
        refine ls_fr hF ?_
        refine ls_load (a0 := ⟨g4, (0 + 0), none⟩) (v := .string t1.1) (de := TypeDesc.string) rfl rfl (by kernel_rfl) rfl (by kernel_rfl) (by kernel_rfl) (by kernel_rfl) (fun w1 hs1 => cell_step hs1.below.bw (hs.var (k := 0) ((hS 0 (by kernel_rfl)).trans (by exact rfl)) (Sub4.trans (Sub4.all _) (Sub4.head _ _)))) ?_
        exact ls_fin s0 _ (congrArg (fun z => upd z 35 _) hF.symm) ⟨rfl, rfl⟩ (sub_nil _)
      obtain ⟨s25_2, hs25_2⟩ := exv (.pointer (some ⟨g4, (0 + 1), none⟩))
      refine have_opa record_Split.tab23 3 2 (fun sp => sp 2 = s25_2) (fun sp on hA hon => ?_) (fun ops25_2 => ?_)
      · refine ⟨fun o ho vs Rs f' S' w hp hf hx hS hR hs => ?_⟩
        obtain rfl := Option.some.inj ho
        exact opv (.pointer (some ⟨g4, (0 + 1), none⟩)) hA hs25_2 hon (fr_next (rfl) ((hx 5 (by kernel_rfl)).trans (by kernel_rfl : (_ : Value) = .pointer (some ⟨g4, 0, none⟩))))
      obtain ⟨s25_3, hs25_3⟩ := exv (.int .i64 t1.2)
      refine have_opa record_Split.tab23 3 3 (fun sp => sp 3 = s25_3 ∧ sp 2 = s25_2) (fun sp on hA hon => ?_) (fun ops25_3 => ?_)
      · refine ⟨fun o ho vs Rs f' S' w hp hf hx hS hR hs => ?_⟩
        obtain rfl := Option.some.inj ho
        obtain ⟨hv2, hR2⟩ := (spe hA.2 hs25_2 (hp 2 (by kernel_rfl)))
        rw [hA.1, hs25_3]
        refine wn hon ?_
        have hF := fr_next (rfl) ((hf 2 36 (by kernel_rfl) rfl).trans hv2)
        refine ls_fr hF ?_
        refine ls_load (a0 := ⟨g4, (0 + 1), none⟩) (v := .int .i64 t1.2) (de := (TypeDesc.int .i64)) rfl rfl (by kernel_rfl) rfl (by kernel_rfl) (by kernel_rfl) (by kernel_rfl) (fun w1 hs1 => cell_step hs1.below.bw (hs.var (k := 0) ((hS 0 (by kernel_rfl)).trans (by exact rfl)) (Sub4.trans (Sub4.all _) (Sub4.skip (n := 1) (len1 _) (Sub4.all _))))) ?_
        exact ls_fin s0 _ (congrArg (fun z => upd z 37 _) hF.symm) ⟨rfl, rfl⟩ (sub_nil _)
      obtain ⟨s25_4, hs25_4⟩ := exv (.string t1.1)
      refine have_opa record_Split.tab23 3 4 (fun sp => sp 4 = s25_4 ∧ sp 1 = s25_1) (fun sp on hA hon => ?_) (fun ops25_4 => ?_)
      · refine ⟨fun o ho vs Rs f' S' w hp hf hx hS hR hs => ?_⟩
        obtain rfl := Option.some.inj ho
        obtain ⟨hv1, hR1⟩ := (spe hA.2 hs25_1 (hp 1 (by kernel_rfl)))
        exact opv (.string t1.1) hA.1 hs25_4 hon (fr_next (rfl) ((hf 1 35 (by kernel_rfl) rfl).trans hv1))
      refine cs_draw record_Split.tab23 5 3 (spl [s25_0, s25_1, s25_2, s25_3, s25_4]) (onl [true, true, true, true, true]) (by kernel_rfl) (by kernel_rfl) (by kernel_rfl) (by kernel_rfl) (rs := [_, _]) rfl (by kernel_rfl) (by kernel_rfl) (all_snoc (all_snoc (all_snoc (all_snoc (all_snoc (all_nil) (ops25_0 _ _ rfl rfl)) (ops25_1 _ _ ⟨rfl, rfl⟩ rfl)) (ops25_2 _ _ rfl rfl)) (ops25_3 _ _ ⟨rfl, rfl⟩ rfl)) (ops25_4 _ _ ⟨rfl, rfl⟩ rfl)) ?_
      intro vs Rs f' S' hp hf hx hS hR
      obtain ⟨hv3, hR3⟩ := (spe rfl hs25_3 (hp 3 (by kernel_rfl)))
      obtain ⟨hv4, hR4⟩ := (spe rfl hs25_4 (hp 4 (by kernel_rfl)))
      refine ls_fr (F := upd (upd f' 2 (.string t1.1)) 37 (.int .i64 t1.2)) (fr_next (fr_next (rfl) ((hf 4 2 (by kernel_rfl) rfl).trans hv4)) ((hf 3 37 (by kernel_rfl) rfl).trans hv3)) ?_
      refine ls_sub (s0) (sub_nil _) ?_
      refine lv (.int .i64 t1.2) ?_
      refine lv (.bool true) ?_
      refine ls_end ?_
      refine qn_then ?_
      refine cs_ret' ?_
      obtain rfl := Option.some.inj H
      refine qr_res (rs := [_, _, _]) rfl (fun w' hs => ⟨[.string t1.1, .int .i64 t1.2, .bool true], (res_tmp (by kernel_rfl) (res_tmp (by kernel_rfl) (res_tmp (by kernel_rfl) (.nil)))), (), rfl, hs.pick (ts := []) (cs := []) trivial (by decide)⟩)
    replace H := ite_f q23 H
    refine cs_know (c := true) (congrArg Bool.not (Bool.eq_false_iff.mpr q23)) 33 (by kernel_rfl) ?_
    refine cs_true (by kernel_rfl) ?_
    refine cs_seq ?_
    refine cs_region (l := [_, _, _]) ?_
    refine lv (.string (⟨#[]⟩ : ByteArray)) ?_
    refine lv (.int .i64 (0 : Int)) ?_
    refine lv (.bool false) ?_
    refine ls_end ?_
    refine qn_then ?_
    refine cs_ret' ?_
    refine qr_then ?_
    obtain rfl := Option.some.inj H
    refine qr_res (rs := [_, _, _]) rfl (fun w' hs => ⟨[.string (⟨#[]⟩ : ByteArray), .int .i64 (0 : Int), .bool false], (res_tmp (by kernel_rfl) (res_tmp (by kernel_rfl) (res_tmp (by kernel_rfl) (.nil)))), (), rfl, hs.pick (ts := []) (cs := []) trivial (by decide)⟩)
  replace H := ite_f q9 H
  refine ls_know (c := true) (congrArg Bool.not (Bool.eq_false_iff.mpr q9)) 17 (by kernel_rfl) ?_
  refine lofx 9 17 false true ?_
  refine lofx 9 17 false true ?_
  refine lofx 9 17 false true ?_
  refine lofx 9 17 false true ?_
  refine lofx 9 17 false true ?_
  refine lv (.bool true) ?_
  refine lv (.bool true) ?_
  refine lofx 16 24 false true ?_
  refine lofx 16 24 false true ?_
  refine lofx 16 24 false true ?_
  refine lofx 16 24 false true ?_
  refine lofx 16 24 false true ?_
  refine lofx 16 24 false true ?_
  refine lofx 16 24 false true ?_
  refine lofx 16 24 false true ?_
  refine lv (.bool true) ?_
  refine ls_end ?_
  refine qn_then ?_
  refine cs_true (by kernel_rfl) ?_
  refine cs_seq ?_
  refine cs_region (l := [_, _, _]) ?_
  refine lv (.string (⟨#[]⟩ : ByteArray)) ?_
  refine lv (.int .i64 (0 : Int)) ?_
  refine lv (.bool false) ?_
  refine ls_end ?_
  refine qn_then ?_
  refine cs_ret' ?_
  refine qr_then ?_
  obtain rfl := Option.some.inj H
  refine qr_res (rs := [_, _, _]) rfl (fun w' hs => ⟨[.string (⟨#[]⟩ : ByteArray), .int .i64 (0 : Int), .bool false], (res_tmp (by kernel_rfl) (res_tmp (by kernel_rfl) (res_tmp (by kernel_rfl) (.nil)))), (), rfl, hs.pick (ts := []) (cs := []) trivial (by decide)⟩)

end Go.Proofs.Ythhhkphbhlafbaa.G
