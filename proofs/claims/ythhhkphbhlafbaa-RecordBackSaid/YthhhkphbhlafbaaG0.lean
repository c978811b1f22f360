/- Printed by a program of this session (sz.py): plain functions, and walks that show that the code comes to them; no condition. -/
import Derived.Test.YthhhkphbhlafbaaProg
import Derived.Test.YthhhkphbhlafbaaTy
set_option linter.unusedVariables false
set_option linter.unusedSimpArgs false
namespace Go.Proofs.Ythhhkphbhlafbaa.G
open Go Go.RowKit Go.Proofs.Ythhhkphbhlafbaa.Sx

/-! ### shadowbox/record.Prefix: function 18 -/
def record_Prefix.f (k : Nat) (a0 : ByteArray) : Option ((List Int)) :=
  (if ([(111 : Int)]).length + a0.size ≤ 140737488355328 then (if (([(111 : Int)] ++ bl a0).length + ([(0 : Int)]).length) * 1 ≤ 140737488355328 then some (([(111 : Int)] ++ bl a0) ++ [(0 : Int)]) else none) else none)
set_option maxRecDepth 100000 in
set_option maxHeartbeats 4000000 in
theorem record_Prefix.calls (k : Nat) (a0 : ByteArray) (r : (List Int)) (b : Bs) (hs0 : St b (stl []) b.w) (H : record_Prefix.f k a0 = some r) :
    Calls Try.prog 18 #[.string a0] b.w fun e w' => ∃ x : (Option Addr × Nat), e = .returned (.slice x.1 r.length x.2) ∧ St b (stl [Ck.sl (Ec.int 5 .u8) x.1 x.2 r]) w' := by
  unfold record_Prefix.f at H
  refine enterb (n := 8) Try.func18 rfl (by kernel_rfl) (by kernel_rfl) hs0 ?_
  refine cs_sub (s0) (sub_nil _) ?_
  refine cs_seq ?_
  refine cs_region (l := [_]) ?_
  refine lv (.slice none 0 0) ?_
  refine ls_end ?_
  refine qn_then ?_
  refine cs_seq ?_
  refine cs_region (l := [_, _, _, _, _, _]) ?_
  refine ls_lit (Ec.int 5 .u8) 0 rfl rfl (by kernel_rfl) ([(111 : Int)]) (by exact of_decide_eq_true (by kernel_rfl)) (fun w => by kernel_rfl) ?_
  intro g1
  refine lv (.string a0) ?_
  obtain ⟨q2, H⟩ := ite_need H
  refine ls_apps (A := (some ⟨g1, 0, none⟩)) (c := [(111 : Int)].length) (e := 5) (l := [(111 : Int)]) (y := a0) 0 rfl rfl (by kernel_rfl) rfl (by kernel_rfl) (by exact rfl) (by kernel_rfl) (by kernel_rfl) (by kernel_rfl) (by kernel_rfl) q2 ?_
  intro xA3 xc4
  refine ls_lit (Ec.int 5 .u8) 1 rfl rfl (by kernel_rfl) ([(0 : Int)]) (by exact of_decide_eq_true (by kernel_rfl)) (fun w => by kernel_rfl) ?_
  intro g5
  obtain ⟨q6, H⟩ := ite_need H
  refine ls_app (Ec.int 5 .u8) (A := xA3) (c := xc4) (B := (some ⟨g5, 0, none⟩)) (cb := [(0 : Int)].length) (z := (Value.int .u8 0)) (l := ([(111 : Int)] ++ bl a0)) (m := [(0 : Int)]) (bytes := 1) 0 rfl rfl (by kernel_rfl) rfl (by kernel_rfl) (by exact rfl) (by kernel_rfl) (fun w hs => (hs.rd (k := 1) (by exact rfl))) (by kernel_rfl) (by kernel_rfl) rfl (by decide) q6 ?_
  intro xA7 xc8
  refine lv (.slice xA7 (([(111 : Int)] ++ bl a0) ++ [(0 : Int)]).length xc8) ?_
  refine ls_end ?_
  refine qn_then ?_
  refine cs_ret' ?_
  obtain rfl := Option.some.inj H
  refine qr_res (rs := [_]) rfl (fun w' hs => ⟨[.slice xA7 (([(111 : Int)] ++ bl a0) ++ [(0 : Int)]).length xc8], (res_tmp (by kernel_rfl) (.nil)), (xA7, xc8), rfl, hs.pick (ts := [0]) (cs := [Ck.sl (Ec.int 5 .u8) xA7 xc8 (([(111 : Int)] ++ bl a0) ++ [(0 : Int)])]) ⟨by exact rfl, trivial⟩ (by decide)⟩)

/-! ### shadowbox/record.Key: function 17 -/
def record_Key.lo1 (y4 : Int) : Nat → (List Int) → Int → Option ((List Int))
  | 0, _, _ => none
  | k1 + 1, l5_1, x7_1 => (if x7_1 ≥ (0 : Int) then (if 0 ≤ IntKind.wrap .i64 ((8 : Int) * x7_1) then lt (shrv .u64 y4 (IntKind.wrap .i64 ((8 : Int) * x7_1))) fun y8 => (if (l5_1.length + ([IntKind.wrap .u8 y8]).length) * 1 ≤ 140737488355328 then (record_Key.lo1 y4 k1) (l5_1 ++ [IntKind.wrap .u8 y8]) (IntKind.wrap .i64 (x7_1 - (1 : Int))) else none) else none) else some l5_1)
def record_Key.f (k : Nat) (a0 : ByteArray) (a1 : Int) : Option ((List Int)) :=
  (record_Prefix.f k a0).bind fun t1 => lt (IntKind.wrap .u64 ((4611686018427387904 : Int) - (IntKind.wrap .u64 a1))) fun y4 => record_Key.lo1 y4 k t1 (7 : Int)
set_option maxRecDepth 100000 in
set_option maxHeartbeats 4000000 in
theorem record_Key.calls (k : Nat) (a0 : ByteArray) (a1 : Int) (r : (List Int)) (b : Bs) (hs0 : St b (stl []) b.w) (H : record_Key.f k a0 a1 = some r) :
    Calls Try.prog 17 #[.string a0, .int .i64 a1] b.w fun e w' => ∃ x : (Option Addr × Nat), e = .returned (.slice x.1 r.length x.2) ∧ St b (stl [Ck.sl (Ec.int 5 .u8) x.1 x.2 r]) w' := by
  unfold record_Key.f at H
  refine enterb (n := 26) Try.func17 rfl (by kernel_rfl) (by kernel_rfl) hs0 ?_
  refine cs_sub (s0) (sub_nil _) ?_
  refine cs_seq ?_
  refine cs_region (l := [_]) ?_
  refine lv (.slice none 0 0) ?_
  refine ls_end ?_
  refine qn_then ?_
  refine cs_seq ?_
  refine cs_region (l := [_, _, _]) ?_
  refine lv (.string a0) ?_
  obtain ⟨t1, hc2, H⟩ := bind_some H
  refine ls_callb (fid := 18) (vals := #[.string a0]) (X := (Option Addr × Nat)) (fun x => .slice x.1 t1.length x.2) (fun x => stl [Ck.sl (Ec.int 5 .u8) x.1 x.2 t1]) [] [] [] [] 0 rfl rfl (by kernel_rfl) (fun w => by kernel_rfl) trivial trivial (by decide) (fun w hs hb => record_Prefix.calls k a0 t1 (lent b w [] []) hb  hc2) ?_
  intro x3
  refine lv (.slice x3.1 t1.length x3.2) ?_
  refine ls_end ?_
  refine qn_then ?_
  refine cs_seq ?_
  refine cs_region (l := [_, _, _, _]) ?_
  refine lv (.int .i64 a1) ?_
  refine lv (.int .u64 (IntKind.wrap .u64 a1)) ?_
  obtain ⟨y4, hy5, H⟩ := lt_some H
  refine lv (.int .u64 (IntKind.wrap .u64 ((4611686018427387904 : Int) - (IntKind.wrap .u64 a1)))) ?_
  refine ls_ren 12 (v := .int .u64 (IntKind.wrap .u64 ((4611686018427387904 : Int) - (IntKind.wrap .u64 a1)))) (v' := .int .u64 y4) (by kernel_rfl) (by rw [hy5]) ?_
  refine lv (.int .u64 y4) ?_
  refine ls_end ?_
  refine qn_then ?_
  refine cs_seq ?_
  refine cs_seq ?_
  refine cs_region (l := [_]) ?_
  refine lv (.int .i64 (7 : Int)) ?_
  refine ls_end ?_
  refine qn_then ?_
  refine cs_block ?_
  refine cs_sub (sput s0 0 (some (Ck.sl (Ec.int 5 .u8) x3.1 x3.2 t1))) (sub_put (by exact rfl) (sub_nil _)) ?_
  refine cs_loop (fun kk f S => ∃ (fR : Fr) (A5_1 : Option Addr) (c5_1 : Nat) (l5_1 : List Int) (x7_1 : Int), f = upd (upd (upd fR 5 (.slice A5_1 l5_1.length c5_1)) 6 (.int .u64 y4)) 7 (.int .i64 x7_1) ∧ S = sput s0 0 (some (Ck.sl (Ec.int 5 .u8) A5_1 c5_1 l5_1)) ∧ record_Key.lo1 y4 kk l5_1 x7_1 = some r) k ?_ ?_ ?_
  · exact ⟨_, x3.1, x3.2, t1, (7 : Int), fr_next (fr_next (fr_next (rfl) (by kernel_rfl)) (by kernel_rfl)) (by kernel_rfl), rfl, H⟩
  · rintro f S ⟨fr1, A5_1, c5_1, l5_1, x7_1, rfl, rfl, H⟩; cases H
  rintro k1 f S ⟨fr1, A5_1, c5_1, l5_1, x7_1, rfl, rfl, H⟩
  replace H : ((if x7_1 ≥ (0 : Int) then (if 0 ≤ IntKind.wrap .i64 ((8 : Int) * x7_1) then lt (shrv .u64 y4 (IntKind.wrap .i64 ((8 : Int) * x7_1))) fun y8 => (if (l5_1.length + ([IntKind.wrap .u8 y8]).length) * 1 ≤ 140737488355328 then (record_Key.lo1 y4 k1) (l5_1 ++ [IntKind.wrap .u8 y8]) (IntKind.wrap .i64 (x7_1 - (1 : Int))) else none) else none) else some l5_1)) = some r := H
  refine cs_seq ?_
  refine cs_seq ?_
  refine cs_region (l := [_, _]) ?_
  refine lv (.int .i64 x7_1) ?_
  refine lv (.bool (decide (x7_1 ≥ (0 : Int)))) ?_
  refine ls_end ?_
  refine qn_then ?_
  by_cases q6 : x7_1 ≥ (0 : Int)
  · replace H := ite_t q6 H
    refine cs_know (c := true) (dec_t q6) 14 (by kernel_rfl) ?_
    refine cs_true (by kernel_rfl) ?_
    refine cs_skip' ?_
    refine qn_then ?_
    refine cs_seq ?_
    refine cs_block ?_
    refine cs_region (l := [_, _, _, _, _, _, _, _, _]) ?_
    refine lv (.slice A5_1 l5_1.length c5_1) ?_
    refine lv (.int .u64 y4) ?_
    refine lv (.int .i64 x7_1) ?_
    refine lv (.int .i64 (IntKind.wrap .i64 ((8 : Int) * x7_1))) ?_
    obtain ⟨q7, H⟩ := ite_need H
    obtain ⟨y8, hy9, H⟩ := lt_some H
    refine ls_shiftr (k := .u64) (yk := .i64) (x := y4) (y := (IntKind.wrap .i64 ((8 : Int) * x7_1))) rfl rfl (by kernel_rfl) (fun w => by kernel_rfl) q7 ?_
    refine ls_ren 21 (v := .int .u64 (shrv .u64 y4 (IntKind.wrap .i64 ((8 : Int) * x7_1)))) (v' := .int .u64 y8) (by kernel_rfl) (by rw [hy9]) ?_
    refine lv (.int .u8 (IntKind.wrap .u8 y8)) ?_
    refine ls_lit (Ec.int 5 .u8) 1 rfl rfl (by kernel_rfl) ([IntKind.wrap .u8 y8]) (by exact of_decide_eq_true (by kernel_rfl)) (fun w => by kernel_rfl) ?_
    intro g10
    obtain ⟨q11, H⟩ := ite_need H
    refine ls_app (Ec.int 5 .u8) (A := A5_1) (c := c5_1) (B := (some ⟨g10, 0, none⟩)) (cb := [IntKind.wrap .u8 y8].length) (z := (Value.int .u8 0)) (l := l5_1) (m := [IntKind.wrap .u8 y8]) (bytes := 1) 0 rfl rfl (by kernel_rfl) rfl (by kernel_rfl) (by exact rfl) (by kernel_rfl) (fun w hs => (hs.rd (k := 1) (by exact rfl))) (by kernel_rfl) (by kernel_rfl) rfl (by decide) q11 ?_
    intro xA12 xc13
    refine lv (.slice xA12 (l5_1 ++ [IntKind.wrap .u8 y8]).length xc13) ?_
    refine ls_end ?_
    refine qn_block ?_
    refine qn_then ?_
    refine cs_region (l := [_, _, _]) ?_
    refine lv (.int .i64 x7_1) ?_
    refine lv (.int .i64 (IntKind.wrap .i64 (x7_1 - (1 : Int)))) ?_
    refine lv (.int .i64 (IntKind.wrap .i64 (x7_1 - (1 : Int)))) ?_
    refine ls_end ?_
    refine qn_again k1 (sput s0 0 (some (Ck.sl (Ec.int 5 .u8) xA12 xc13 (l5_1 ++ [IntKind.wrap .u8 y8])))) (Nat.le_refl _) ⟨_, xA12, xc13, (l5_1 ++ [IntKind.wrap .u8 y8]), (IntKind.wrap .i64 (x7_1 - (1 : Int))), fr_next (fr_next (fr_next (rfl) (by kernel_rfl)) (by kernel_rfl)) (by kernel_rfl), rfl, H⟩ (sub_put (by exact rfl) (sub_nil _))
  replace H := ite_f q6 H
  refine cs_know (c := false) (dec_f q6) 14 (by kernel_rfl) ?_
  refine cs_false (by kernel_rfl) ?_
  refine cs_exit' ?_
  refine qx_then ?_
  refine qx_then ?_
  refine qx_same ?_
  refine qn_then ?_
  refine cs_seq ?_
  refine cs_region (l := [_, _]) ?_
  refine lv (.slice A5_1 l5_1.length c5_1) ?_
  refine lv (.slice A5_1 l5_1.length c5_1) ?_
  refine ls_end ?_
  refine qn_then ?_
  refine cs_ret' ?_
  obtain rfl := Option.some.inj H
  refine qr_res (rs := [_]) rfl (fun w' hs => ⟨[.slice A5_1 l5_1.length c5_1], (res_tmp (by kernel_rfl) (.nil)), (A5_1, c5_1), rfl, hs.pick (ts := [0]) (cs := [Ck.sl (Ec.int 5 .u8) A5_1 c5_1 l5_1]) ⟨by exact rfl, trivial⟩ (by decide)⟩)

/-! ### shadowbox/shadowboxlaw36.few: function 20 -/
def shadowboxlaw36_few.tab7 : List (List Nat) := [[], [0], [], [2], [], [2, 3, 4], [2, 3, 4, 5], [2, 3, 4, 5, 6], [2, 3, 4, 5, 6, 7], [2, 3, 4, 5, 6, 7, 8], [0, 1, 2, 3, 4, 5, 6, 7, 8, 9], [], [11], [], [11, 12, 13], [11, 12, 13, 14], [11, 12, 13, 14, 15], [11, 12, 13, 14, 15, 16], [11, 12, 13, 14, 15, 16, 17], [0, 1, 2, 3, 4, 5, 6, 7, 8, 9, 10, 11, 12, 13, 14, 15, 16, 17, 18], [0, 1, 2, 3, 4, 5, 6, 7, 8, 9, 10, 11, 12, 13, 14, 15, 16, 17, 18, 19]]
def shadowboxlaw36_few.lo1 (a0 : (Int × Int × Int × Int × ByteArray × ByteArray × (List (ByteArray × ByteArray)))) : Nat → Int → Int → Option (Bool)
  | 0, _, _ => none
  | k1 + 1, x3_1, x4_1 => (if x4_1 < (a0.2.2.2.2.2.2.length : Int) then (if x3_1 < (900 : Int) then (if 0 ≤ x4_1 then lt (((a0.2.2.2.2.2.2).getD (x4_1).toNat (ByteArray.empty, ByteArray.empty)).1) fun y13 => lt ((if (900 : Int) < (y13.size : Int) then (900 : Int) else (y13.size : Int))) fun y15 => lt (IntKind.wrap .i64 ((IntKind.wrap .i64 (x3_1 + (5 : Int))) + y15)) fun y17 => lt (((a0.2.2.2.2.2.2).getD (x4_1).toNat (ByteArray.empty, ByteArray.empty)).2) fun y21 => lt ((if (900 : Int) < (y21.size : Int) then (900 : Int) else (y21.size : Int))) fun y23 => (shadowboxlaw36_few.lo1 a0 k1) (IntKind.wrap .i64 (y17 + y23)) (IntKind.wrap .i64 (x4_1 + (1 : Int))) else none) else some (decide (x3_1 < (900 : Int)))) else some (decide (x3_1 < (900 : Int))))
def shadowboxlaw36_few.f (k : Nat) (a0 : (Int × Int × Int × Int × ByteArray × ByteArray × (List (ByteArray × ByteArray)))) : Option (Bool) :=
  lt ((if (900 : Int) < (a0.2.2.2.2.1.size : Int) then (900 : Int) else (a0.2.2.2.2.1.size : Int))) fun y2 => lt ((if (900 : Int) < (a0.2.2.2.2.2.1.size : Int) then (900 : Int) else (a0.2.2.2.2.2.1.size : Int))) fun y4 => shadowboxlaw36_few.lo1 a0 k (IntKind.wrap .i64 (y2 + y4)) (0 : Int)
set_option maxRecDepth 100000 in
set_option maxHeartbeats 4000000 in
theorem shadowboxlaw36_few.calls (k : Nat) (A0_6 : Option Addr) (c0_6 : Nat) (a0 : (Int × Int × Int × Int × ByteArray × ByteArray × (List (ByteArray × ByteArray)))) (r : Bool) (b : Bs) (hs0 : St b (stl []) b.w) (R0_6 : Ro b A0_6 (em T67 a0.2.2.2.2.2.2)) (C0_6 : a0.2.2.2.2.2.2.length ≤ c0_6) (H : shadowboxlaw36_few.f k a0 = some r) :
    Calls Try.prog 20 #[.agg ⟨([Value.int .i64 a0.1] ++ ([Value.int .i64 a0.2.1] ++ ([Value.int .i64 a0.2.2.1] ++ ([Value.int .i64 a0.2.2.2.1] ++ ([Value.string a0.2.2.2.2.1] ++ ([Value.string a0.2.2.2.2.2.1] ++ [Value.slice A0_6 a0.2.2.2.2.2.2.length c0_6]))))))⟩] b.w fun e w' => ∃ x : Unit, e = .returned (.bool r) ∧ St b (stl []) w' := by
  unfold shadowboxlaw36_few.f at H
  refine enterb (n := 47) Try.func20 rfl (by kernel_rfl) (by kernel_rfl) hs0 ?_
  refine cs_sub (s0) (sub_nil _) ?_
  refine cs_seq ?_
  refine cs_region (l := [_, _]) ?_
  refine ls_new rfl rfl (by kernel_rfl) 0 (fun g => .pointer (some ⟨g, 0, none⟩)) (.cells ⟨([Value.int .i64 a0.1] ++ ([Value.int .i64 a0.2.1] ++ ([Value.int .i64 a0.2.2.1] ++ ([Value.int .i64 a0.2.2.2.1] ++ ([Value.string a0.2.2.2.2.1] ++ ([Value.string a0.2.2.2.2.2.1] ++ [Value.slice A0_6 a0.2.2.2.2.2.2.length c0_6]))))))⟩ 51) (fun w => by kernel_rfl) ?_
  intro g1
  refine lv (.bool false) ?_
  refine ls_end ?_
  refine qn_then ?_
  refine cs_seq ?_
  refine cs_region (l := [_, _, _, _, _, _, _, _, _, _]) ?_
  refine lv (.pointer (some ⟨g1, (0 + 4), none⟩)) ?_
  refine ls_load (a0 := ⟨g1, (0 + 4), none⟩) (v := .string a0.2.2.2.2.1) (de := TypeDesc.string) rfl rfl (by kernel_rfl) rfl (by kernel_rfl) (by kernel_rfl) (by kernel_rfl) (fun w hs => (hs.var (k := 0) (by exact rfl) (Sub4.trans (Sub4.all _) (Sub4.skip (n := 1) (len1 _) (Sub4.skip (n := 1) (len1 _) (Sub4.skip (n := 1) (len1 _) (Sub4.skip (n := 1) (len1 _) (Sub4.head _ _)))))))) ?_
  refine lv (.int .i64 (a0.2.2.2.2.1.size : Int)) ?_
  obtain ⟨y2, hy3, H⟩ := lt_some H
  refine lv (.int .i64 (if (900 : Int) < (a0.2.2.2.2.1.size : Int) then (900 : Int) else (a0.2.2.2.2.1.size : Int))) ?_
  refine ls_ren 8 (v := .int .i64 (if (900 : Int) < (a0.2.2.2.2.1.size : Int) then (900 : Int) else (a0.2.2.2.2.1.size : Int))) (v' := .int .i64 y2) (by kernel_rfl) (by rw [hy3]) ?_
  refine lv (.pointer (some ⟨g1, (0 + 5), none⟩)) ?_
  refine ls_load (a0 := ⟨g1, (0 + 5), none⟩) (v := .string a0.2.2.2.2.2.1) (de := TypeDesc.string) rfl rfl (by kernel_rfl) rfl (by kernel_rfl) (by kernel_rfl) (by kernel_rfl) (fun w hs => (hs.var (k := 0) (by exact rfl) (Sub4.trans (Sub4.all _) (Sub4.skip (n := 1) (len1 _) (Sub4.skip (n := 1) (len1 _) (Sub4.skip (n := 1) (len1 _) (Sub4.skip (n := 1) (len1 _) (Sub4.skip (n := 1) (len1 _) (Sub4.head _ _))))))))) ?_
  refine lv (.int .i64 (a0.2.2.2.2.2.1.size : Int)) ?_
  obtain ⟨y4, hy5, H⟩ := lt_some H
  refine lv (.int .i64 (if (900 : Int) < (a0.2.2.2.2.2.1.size : Int) then (900 : Int) else (a0.2.2.2.2.2.1.size : Int))) ?_
  refine ls_ren 12 (v := .int .i64 (if (900 : Int) < (a0.2.2.2.2.2.1.size : Int) then (900 : Int) else (a0.2.2.2.2.2.1.size : Int))) (v' := .int .i64 y4) (by kernel_rfl) (by rw [hy5]) ?_
  refine lv (.int .i64 (IntKind.wrap .i64 (y2 + y4))) ?_
  refine lv (.int .i64 (IntKind.wrap .i64 (y2 + y4))) ?_
  refine ls_end ?_
  refine qn_then ?_
  refine cs_seq ?_
  refine cs_seq ?_
  refine cs_region (l := [_]) ?_
  refine lv (.int .i64 (0 : Int)) ?_
  refine ls_end ?_
  refine qn_then ?_
  refine cs_block ?_
  refine cs_sub (sput s0 0 (some (Ck.var 51 g1 (([Value.int .i64 a0.1] ++ ([Value.int .i64 a0.2.1] ++ ([Value.int .i64 a0.2.2.1] ++ ([Value.int .i64 a0.2.2.2.1] ++ ([Value.string a0.2.2.2.2.1] ++ ([Value.string a0.2.2.2.2.2.1] ++ [Value.slice A0_6 a0.2.2.2.2.2.2.length c0_6])))))))))) (sub_put (by exact rfl) (sub_nil _)) ?_
  refine cs_loop (fun kk f S => ∃ (fR : Fr) (x3_1 : Int) (x4_1 : Int), f = upd (upd (upd fR 1 (.pointer (some ⟨g1, 0, none⟩))) 3 (.int .i64 x3_1)) 4 (.int .i64 x4_1) ∧ S = sput s0 0 (some (Ck.var 51 g1 (([Value.int .i64 a0.1] ++ ([Value.int .i64 a0.2.1] ++ ([Value.int .i64 a0.2.2.1] ++ ([Value.int .i64 a0.2.2.2.1] ++ ([Value.string a0.2.2.2.2.1] ++ ([Value.string a0.2.2.2.2.2.1] ++ [Value.slice A0_6 a0.2.2.2.2.2.2.length c0_6]))))))))) ∧ shadowboxlaw36_few.lo1 a0 kk x3_1 x4_1 = some r) k ?_ ?_ ?_
  · exact ⟨_, (IntKind.wrap .i64 (y2 + y4)), (0 : Int), fr_next (fr_next (fr_next (rfl) (by kernel_rfl)) (by kernel_rfl)) (by kernel_rfl), rfl, H⟩
  · rintro f S ⟨fr1, x3_1, x4_1, rfl, rfl, H⟩; cases H
  rintro k1 f S ⟨fr1, x3_1, x4_1, rfl, rfl, H⟩
  replace H : ((if x4_1 < (a0.2.2.2.2.2.2.length : Int) then (if x3_1 < (900 : Int) then (if 0 ≤ x4_1 then lt (((a0.2.2.2.2.2.2).getD (x4_1).toNat (ByteArray.empty, ByteArray.empty)).1) fun y13 => lt ((if (900 : Int) < (y13.size : Int) then (900 : Int) else (y13.size : Int))) fun y15 => lt (IntKind.wrap .i64 ((IntKind.wrap .i64 (x3_1 + (5 : Int))) + y15)) fun y17 => lt (((a0.2.2.2.2.2.2).getD (x4_1).toNat (ByteArray.empty, ByteArray.empty)).2) fun y21 => lt ((if (900 : Int) < (y21.size : Int) then (900 : Int) else (y21.size : Int))) fun y23 => (shadowboxlaw36_few.lo1 a0 k1) (IntKind.wrap .i64 (y17 + y23)) (IntKind.wrap .i64 (x4_1 + (1 : Int))) else none) else some (decide (x3_1 < (900 : Int)))) else some (decide (x3_1 < (900 : Int))))) = some r := H
  refine cs_seq ?_
  refine cs_seq ?_
  refine cs_region (l := [_, _, _, _, _, _, _, _, _]) ?_
  refine lv (.int .i64 x4_1) ?_
  refine lv (.pointer (some ⟨g1, (0 + 6), none⟩)) ?_
  refine ls_load (a0 := ⟨g1, (0 + 6), none⟩) (v := .slice A0_6 a0.2.2.2.2.2.2.length c0_6) (de := (TypeDesc.slice 67)) rfl rfl (by kernel_rfl) rfl (by kernel_rfl) (by kernel_rfl) (by kernel_rfl) (fun w hs => (hs.var (k := 0) (by exact rfl) (Sub4.trans (Sub4.all _) (Sub4.skip (n := 1) (len1 _) (Sub4.skip (n := 1) (len1 _) (Sub4.skip (n := 1) (len1 _) (Sub4.skip (n := 1) (len1 _) (Sub4.skip (n := 1) (len1 _) (Sub4.skip (n := 1) (len1 _) (Sub4.all _)))))))))) ?_
  refine lv (.int .i64 (a0.2.2.2.2.2.2.length : Int)) ?_
  refine lv (.bool (decide (x4_1 < (a0.2.2.2.2.2.2.length : Int)))) ?_
  refine lv (.bool (decide (x4_1 < (a0.2.2.2.2.2.2.length : Int)))) ?_
  by_cases q6 : x4_1 < (a0.2.2.2.2.2.2.length : Int)
  · replace H := ite_t q6 H
    refine ls_know (c := true) (dec_t q6) 19 (by kernel_rfl) ?_
    refine ls_on (j := 5) (t := 19) (b := true) rfl rfl (by kernel_rfl) (by kernel_rfl) ?_
    refine lv (.int .i64 x3_1) ?_
    refine ls_on (j := 5) (t := 19) (b := true) rfl rfl (by kernel_rfl) (by kernel_rfl) ?_
    refine lv (.bool (decide (x3_1 < (900 : Int)))) ?_
    refine lv (.bool (decide (x3_1 < (900 : Int)))) ?_
    refine ls_end ?_
    refine qn_then ?_
    by_cases q7 : x3_1 < (900 : Int)
    · replace H := ite_t q7 H
      refine cs_know (c := true) (dec_t q7) 22 (by kernel_rfl) ?_
      refine cs_true (by kernel_rfl) ?_
      refine cs_skip' ?_
      refine qn_then ?_
      refine cs_seq ?_
      refine cs_block ?_
      obtain ⟨s9_0, hs9_0⟩ := exv (.int .i64 x3_1)
      refine have_opa shadowboxlaw36_few.tab7 1 0 (fun sp => sp 0 = s9_0) (fun sp on hA hon => ?_) (fun ops9_0 => ?_)
      · refine ⟨fun o ho vs Rs f' S' w hp hf hx hS hR hs => ?_⟩
        obtain rfl := Option.some.inj ho
        exact opv (.int .i64 x3_1) hA hs9_0 hon (fr_next (rfl) ((hx 3 (by kernel_rfl)).trans (by kernel_rfl : (_ : Value) = .int .i64 x3_1)))
      obtain ⟨s9_1, hs9_1⟩ := exv (.int .i64 (IntKind.wrap .i64 (x3_1 + (5 : Int))))
      refine have_opa shadowboxlaw36_few.tab7 1 1 (fun sp => sp 1 = s9_1 ∧ sp 0 = s9_0) (fun sp on hA hon => ?_) (fun ops9_1 => ?_)
      · refine ⟨fun o ho vs Rs f' S' w hp hf hx hS hR hs => ?_⟩
        obtain rfl := Option.some.inj ho
        obtain ⟨hv0, hR0⟩ := (spe hA.2 hs9_0 (hp 0 (by kernel_rfl)))
        exact opv (.int .i64 (IntKind.wrap .i64 (x3_1 + (5 : Int)))) hA.1 hs9_1 hon (fr_next (rfl) ((hf 0 25 (by kernel_rfl) rfl).trans hv0))
      obtain ⟨s9_2, hs9_2⟩ := exv (.pointer (some ⟨g1, (0 + 6), none⟩))
      refine have_opa shadowboxlaw36_few.tab7 1 2 (fun sp => sp 2 = s9_2) (fun sp on hA hon => ?_) (fun ops9_2 => ?_)
      · refine ⟨fun o ho vs Rs f' S' w hp hf hx hS hR hs => ?_⟩
        obtain rfl := Option.some.inj ho
        exact opv (.pointer (some ⟨g1, (0 + 6), none⟩)) hA hs9_2 hon (fr_next (rfl) ((hx 1 (by kernel_rfl)).trans (by kernel_rfl : (_ : Value) = .pointer (some ⟨g1, 0, none⟩))))
      obtain ⟨s9_3, hs9_3⟩ := exv (.slice A0_6 a0.2.2.2.2.2.2.length c0_6)
      refine have_opa shadowboxlaw36_few.tab7 1 3 (fun sp => sp 3 = s9_3 ∧ sp 2 = s9_2) (fun sp on hA hon => ?_) (fun ops9_3 => ?_)
      · refine ⟨fun o ho vs Rs f' S' w hp hf hx hS hR hs => ?_⟩
        obtain rfl := Option.some.inj ho
        obtain ⟨hv2, hR2⟩ := (spe hA.2 hs9_2 (hp 2 (by kernel_rfl)))
        rw [hA.1, hs9_3]
        refine wn hon ?_
        have hF := fr_next (rfl) ((hf 2 27 (by kernel_rfl) rfl).trans hv2)
        refine ls_fr hF ?_
        refine ls_load (a0 := ⟨g1, (0 + 6), none⟩) (v := .slice A0_6 a0.2.2.2.2.2.2.length c0_6) (de := (TypeDesc.slice 67)) rfl rfl (by kernel_rfl) rfl (by kernel_rfl) (by kernel_rfl) (by kernel_rfl) (fun w1 hs1 => cell_step hs1.below.bw (hs.var (k := 0) ((hS 0 (by kernel_rfl)).trans (by exact rfl)) (Sub4.trans (Sub4.all _) (Sub4.skip (n := 1) (len1 _) (Sub4.skip (n := 1) (len1 _) (Sub4.skip (n := 1) (len1 _) (Sub4.skip (n := 1) (len1 _) (Sub4.skip (n := 1) (len1 _) (Sub4.skip (n := 1) (len1 _) (Sub4.all _)))))))))) ?_
        exact ls_fin s0 _ (congrArg (fun z => upd z 28 _) hF.symm) ⟨rfl, rfl⟩ (sub_nil _)
      obtain ⟨s9_4, hs9_4⟩ := exv (.int .i64 x4_1)
      refine have_opa shadowboxlaw36_few.tab7 1 4 (fun sp => sp 4 = s9_4) (fun sp on hA hon => ?_) (fun ops9_4 => ?_)
      · refine ⟨fun o ho vs Rs f' S' w hp hf hx hS hR hs => ?_⟩
        obtain rfl := Option.some.inj ho
        exact opv (.int .i64 x4_1) hA hs9_4 hon (fr_next (rfl) ((hx 4 (by kernel_rfl)).trans (by kernel_rfl : (_ : Value) = .int .i64 x4_1)))
      obtain ⟨q10, H⟩ := ite_need H
      obtain ⟨ad11, hA12⟩ := ido_at (T := T67) (l := a0.2.2.2.2.2.2) (i := x4_1) R0_6 q10 q6
      obtain ⟨s9_5, hs9_5⟩ := exv (.pointer (some (ad11.add ((x4_1).toNat * 2))))
      refine have_opa shadowboxlaw36_few.tab7 1 5 (fun sp => sp 5 = s9_5 ∧ sp 3 = s9_3 ∧ sp 4 = s9_4) (fun sp on hA hon => ?_) (fun ops9_5 => ?_)
      · refine ⟨fun o ho vs Rs f' S' w hp hf hx hS hR hs => ?_⟩
        obtain rfl := Option.some.inj ho
        obtain ⟨hv3, hR3⟩ := (spe hA.2.1 hs9_3 (hp 3 (by kernel_rfl)))
        obtain ⟨hv4, hR4⟩ := (spe hA.2.2 hs9_4 (hp 4 (by kernel_rfl)))
        rw [hA.1, hs9_5]
        refine wn hon ?_
        have hF := fr_next (fr_next (rfl) ((hf 3 28 (by kernel_rfl) rfl).trans hv3)) ((hf 4 29 (by kernel_rfl) rfl).trans hv4)
        refine ls_fr hF ?_
        refine ls_idxv T67 (A := A0_6) (c := c0_6) (l := a0.2.2.2.2.2.2) (k := .i64) (i := x4_1) (z := 2) (ad := ad11) rfl rfl (by kernel_rfl) hA12 rfl (by kernel_rfl) (by kernel_rfl) (by kernel_rfl) (by kernel_rfl) q10 q6 ?_
        exact ls_fin s0 _ (congrArg (fun z => upd z 30 _) hF.symm) ⟨rfl, rfl⟩ (sub_nil _)
      obtain ⟨s9_6, hs9_6⟩ := exv (.pointer (some (ad11.add (((x4_1).toNat * 2) + 0))))
      refine have_opa shadowboxlaw36_few.tab7 1 6 (fun sp => sp 6 = s9_6 ∧ sp 5 = s9_5) (fun sp on hA hon => ?_) (fun ops9_6 => ?_)
      · refine ⟨fun o ho vs Rs f' S' w hp hf hx hS hR hs => ?_⟩
        obtain rfl := Option.some.inj ho
        obtain ⟨hv5, hR5⟩ := (spe hA.2 hs9_5 (hp 5 (by kernel_rfl)))
        rw [hA.1, hs9_6]
        refine wn hon ?_
        have hF := fr_next (rfl) ((hf 5 30 (by kernel_rfl) rfl).trans hv5)
        refine ls_fr hF ?_
        refine ls_fieldm (ad := ad11) (off := ((x4_1).toNat * 2)) rfl rfl (by kernel_rfl) 0 (fun w => by kernel_rfl) ?_
        exact ls_fin s0 _ (congrArg (fun z => upd z 31 _) hF.symm) ⟨rfl, rfl⟩ (sub_nil _)
      obtain ⟨y13, hy14, H⟩ := lt_some H
      obtain ⟨s9_7, hs9_7⟩ := exv (.string y13)
      refine have_opa shadowboxlaw36_few.tab7 1 7 (fun sp => sp 7 = s9_7 ∧ sp 6 = s9_6) (fun sp on hA hon => ?_) (fun ops9_7 => ?_)
      · refine ⟨fun o ho vs Rs f' S' w hp hf hx hS hR hs => ?_⟩
        obtain rfl := Option.some.inj ho
        obtain ⟨hv6, hR6⟩ := (spe hA.2 hs9_6 (hp 6 (by kernel_rfl)))
        rw [hA.1, hs9_7]
        refine wn hon ?_
        have hF := fr_next (rfl) ((hf 6 31 (by kernel_rfl) rfl).trans hv6)
        refine ls_fr hF ?_
        refine ls_load (a0 := (ad11.add (((x4_1).toNat * 2) + 0))) (v := .string (((a0.2.2.2.2.2.2).getD (x4_1).toNat (ByteArray.empty, ByteArray.empty)).1)) (de := TypeDesc.string) rfl rfl (by kernel_rfl) rfl (by kernel_rfl) (by kernel_rfl) (by kernel_rfl) (fun w1 hs1 => (Rd.step (hs.old R0_6) hs1.below.bw).at hA12 (Sub4.trans (em_sub T67 a0.2.2.2.2.2.2 (i := (x4_1).toNat) (by have h0 : (0 : Int) ≤ x4_1 := q10; have h1 : x4_1 < (a0.2.2.2.2.2.2.length : Int) := q6; omega)) (Sub4.head _ _))) ?_
        refine ls_ren 32 (v := .string (((a0.2.2.2.2.2.2).getD (x4_1).toNat (ByteArray.empty, ByteArray.empty)).1)) (v' := .string y13) (by kernel_rfl) (by rw [hy14]) ?_
        exact ls_fin s0 _ ((upd_upd _ _ _ _).trans (congrArg (fun z => upd z 32 _) hF.symm)) ⟨rfl, rfl⟩ (sub_nil _)
      obtain ⟨s9_8, hs9_8⟩ := exv (.int .i64 (y13.size : Int))
      refine have_opa shadowboxlaw36_few.tab7 1 8 (fun sp => sp 8 = s9_8 ∧ sp 7 = s9_7) (fun sp on hA hon => ?_) (fun ops9_8 => ?_)
      · refine ⟨fun o ho vs Rs f' S' w hp hf hx hS hR hs => ?_⟩
        obtain rfl := Option.some.inj ho
        obtain ⟨hv7, hR7⟩ := (spe hA.2 hs9_7 (hp 7 (by kernel_rfl)))
        exact opv (.int .i64 (y13.size : Int)) hA.1 hs9_8 hon (fr_next (rfl) ((hf 7 32 (by kernel_rfl) rfl).trans hv7))
      obtain ⟨y15, hy16, H⟩ := lt_some H
      obtain ⟨s9_9, hs9_9⟩ := exv (.int .i64 y15)
      refine have_opa shadowboxlaw36_few.tab7 1 9 (fun sp => sp 9 = s9_9 ∧ sp 8 = s9_8) (fun sp on hA hon => ?_) (fun ops9_9 => ?_)
      · refine ⟨fun o ho vs Rs f' S' w hp hf hx hS hR hs => ?_⟩
        obtain rfl := Option.some.inj ho
        obtain ⟨hv8, hR8⟩ := (spe hA.2 hs9_8 (hp 8 (by kernel_rfl)))
        rw [hA.1, hs9_9]
        refine wn hon ?_
        have hF := fr_next (rfl) ((hf 8 33 (by kernel_rfl) rfl).trans hv8)
        refine ls_fr hF ?_
        refine lv (.int .i64 (if (900 : Int) < (y13.size : Int) then (900 : Int) else (y13.size : Int))) ?_
        refine ls_ren 34 (v := .int .i64 (if (900 : Int) < (y13.size : Int) then (900 : Int) else (y13.size : Int))) (v' := .int .i64 y15) (by kernel_rfl) (by rw [hy16]) ?_
        exact ls_fin s0 _ ((upd_upd _ _ _ _).trans (congrArg (fun z => upd z 34 _) hF.symm)) ⟨rfl, rfl⟩ (sub_nil _)
      obtain ⟨y17, hy18, H⟩ := lt_some H
      obtain ⟨s9_10, hs9_10⟩ := exv (.int .i64 y17)
      refine have_opa shadowboxlaw36_few.tab7 1 10 (fun sp => sp 10 = s9_10 ∧ sp 1 = s9_1 ∧ sp 9 = s9_9) (fun sp on hA hon => ?_) (fun ops9_10 => ?_)
      · refine ⟨fun o ho vs Rs f' S' w hp hf hx hS hR hs => ?_⟩
        obtain rfl := Option.some.inj ho
        obtain ⟨hv1, hR1⟩ := (spe hA.2.1 hs9_1 (hp 1 (by kernel_rfl)))
        obtain ⟨hv9, hR9⟩ := (spe hA.2.2 hs9_9 (hp 9 (by kernel_rfl)))
        rw [hA.1, hs9_10]
        refine wn hon ?_
        have hF := fr_next (fr_next (rfl) ((hf 1 26 (by kernel_rfl) rfl).trans hv1)) ((hf 9 34 (by kernel_rfl) rfl).trans hv9)
        refine ls_fr hF ?_
        refine lv (.int .i64 (IntKind.wrap .i64 ((IntKind.wrap .i64 (x3_1 + (5 : Int))) + y15))) ?_
        refine ls_ren 35 (v := .int .i64 (IntKind.wrap .i64 ((IntKind.wrap .i64 (x3_1 + (5 : Int))) + y15))) (v' := .int .i64 y17) (by kernel_rfl) (by rw [hy18]) ?_
        exact ls_fin s0 _ ((upd_upd _ _ _ _).trans (congrArg (fun z => upd z 35 _) hF.symm)) ⟨rfl, rfl⟩ (sub_nil _)
      obtain ⟨s9_11, hs9_11⟩ := exv (.pointer (some ⟨g1, (0 + 6), none⟩))
      refine have_opa shadowboxlaw36_few.tab7 1 11 (fun sp => sp 11 = s9_11) (fun sp on hA hon => ?_) (fun ops9_11 => ?_)
      · refine ⟨fun o ho vs Rs f' S' w hp hf hx hS hR hs => ?_⟩
        obtain rfl := Option.some.inj ho
        exact opv (.pointer (some ⟨g1, (0 + 6), none⟩)) hA hs9_11 hon (fr_next (rfl) ((hx 1 (by kernel_rfl)).trans (by kernel_rfl : (_ : Value) = .pointer (some ⟨g1, 0, none⟩))))
      obtain ⟨s9_12, hs9_12⟩ := exv (.slice A0_6 a0.2.2.2.2.2.2.length c0_6)
      refine have_opa shadowboxlaw36_few.tab7 1 12 (fun sp => sp 12 = s9_12 ∧ sp 11 = s9_11) (fun sp on hA hon => ?_) (fun ops9_12 => ?_)
      · refine ⟨fun o ho vs Rs f' S' w hp hf hx hS hR hs => ?_⟩
        obtain rfl := Option.some.inj ho
        obtain ⟨hv11, hR11⟩ := (spe hA.2 hs9_11 (hp 11 (by kernel_rfl)))
        rw [hA.1, hs9_12]
        refine wn hon ?_
        have hF := fr_next (rfl) ((hf 11 36 (by kernel_rfl) rfl).trans hv11)
        refine ls_fr hF ?_
        refine ls_load (a0 := ⟨g1, (0 + 6), none⟩) (v := .slice A0_6 a0.2.2.2.2.2.2.length c0_6) (de := (TypeDesc.slice 67)) rfl rfl (by kernel_rfl) rfl (by kernel_rfl) (by kernel_rfl) (by kernel_rfl) (fun w1 hs1 => cell_step hs1.below.bw (hs.var (k := 0) ((hS 0 (by kernel_rfl)).trans (by exact rfl)) (Sub4.trans (Sub4.all _) (Sub4.skip (n := 1) (len1 _) (Sub4.skip (n := 1) (len1 _) (Sub4.skip (n := 1) (len1 _) (Sub4.skip (n := 1) (len1 _) (Sub4.skip (n := 1) (len1 _) (Sub4.skip (n := 1) (len1 _) (Sub4.all _)))))))))) ?_
        exact ls_fin s0 _ (congrArg (fun z => upd z 37 _) hF.symm) ⟨rfl, rfl⟩ (sub_nil _)
      obtain ⟨s9_13, hs9_13⟩ := exv (.int .i64 x4_1)
      refine have_opa shadowboxlaw36_few.tab7 1 13 (fun sp => sp 13 = s9_13) (fun sp on hA hon => ?_) (fun ops9_13 => ?_)
      · refine ⟨fun o ho vs Rs f' S' w hp hf hx hS hR hs => ?_⟩
        obtain rfl := Option.some.inj ho
        exact opv (.int .i64 x4_1) hA hs9_13 hon (fr_next (rfl) ((hx 4 (by kernel_rfl)).trans (by kernel_rfl : (_ : Value) = .int .i64 x4_1)))
      obtain ⟨ad19, hA20⟩ := ido_at (T := T67) (l := a0.2.2.2.2.2.2) (i := x4_1) R0_6 q10 q6
      obtain ⟨s9_14, hs9_14⟩ := exv (.pointer (some (ad19.add ((x4_1).toNat * 2))))
      refine have_opa shadowboxlaw36_few.tab7 1 14 (fun sp => sp 14 = s9_14 ∧ sp 12 = s9_12 ∧ sp 13 = s9_13) (fun sp on hA hon => ?_) (fun ops9_14 => ?_)
      · refine ⟨fun o ho vs Rs f' S' w hp hf hx hS hR hs => ?_⟩
        obtain rfl := Option.some.inj ho
        obtain ⟨hv12, hR12⟩ := (spe hA.2.1 hs9_12 (hp 12 (by kernel_rfl)))
        obtain ⟨hv13, hR13⟩ := (spe hA.2.2 hs9_13 (hp 13 (by kernel_rfl)))
        rw [hA.1, hs9_14]
        refine wn hon ?_
        have hF := fr_next (fr_next (rfl) ((hf 12 37 (by kernel_rfl) rfl).trans hv12)) ((hf 13 38 (by kernel_rfl) rfl).trans hv13)
        refine ls_fr hF ?_
        refine ls_idxv T67 (A := A0_6) (c := c0_6) (l := a0.2.2.2.2.2.2) (k := .i64) (i := x4_1) (z := 2) (ad := ad19) rfl rfl (by kernel_rfl) hA20 rfl (by kernel_rfl) (by kernel_rfl) (by kernel_rfl) (by kernel_rfl) q10 q6 ?_
        exact ls_fin s0 _ (congrArg (fun z => upd z 39 _) hF.symm) ⟨rfl, rfl⟩ (sub_nil _)
      obtain ⟨s9_15, hs9_15⟩ := exv (.pointer (some (ad19.add (((x4_1).toNat * 2) + 1))))
      refine have_opa shadowboxlaw36_few.tab7 1 15 (fun sp => sp 15 = s9_15 ∧ sp 14 = s9_14) (fun sp on hA hon => ?_) (fun ops9_15 => ?_)
      · refine ⟨fun o ho vs Rs f' S' w hp hf hx hS hR hs => ?_⟩
        obtain rfl := Option.some.inj ho
        obtain ⟨hv14, hR14⟩ := (spe hA.2 hs9_14 (hp 14 (by kernel_rfl)))
        rw [hA.1, hs9_15]
        refine wn hon ?_
        have hF := fr_next (rfl) ((hf 14 39 (by kernel_rfl) rfl).trans hv14)
        refine ls_fr hF ?_
        refine ls_fieldm (ad := ad19) (off := ((x4_1).toNat * 2)) rfl rfl (by kernel_rfl) 1 (fun w => by kernel_rfl) ?_
        exact ls_fin s0 _ (congrArg (fun z => upd z 40 _) hF.symm) ⟨rfl, rfl⟩ (sub_nil _)
      obtain ⟨y21, hy22, H⟩ := lt_some H
      obtain ⟨s9_16, hs9_16⟩ := exv (.string y21)
      refine have_opa shadowboxlaw36_few.tab7 1 16 (fun sp => sp 16 = s9_16 ∧ sp 15 = s9_15) (fun sp on hA hon => ?_) (fun ops9_16 => ?_)
      · refine ⟨fun o ho vs Rs f' S' w hp hf hx hS hR hs => ?_⟩
        obtain rfl := Option.some.inj ho
        obtain ⟨hv15, hR15⟩ := (spe hA.2 hs9_15 (hp 15 (by kernel_rfl)))
        rw [hA.1, hs9_16]
        refine wn hon ?_
        have hF := fr_next (rfl) ((hf 15 40 (by kernel_rfl) rfl).trans hv15)
        refine ls_fr hF ?_
        refine ls_load (a0 := (ad19.add (((x4_1).toNat * 2) + 1))) (v := .string (((a0.2.2.2.2.2.2).getD (x4_1).toNat (ByteArray.empty, ByteArray.empty)).2)) (de := TypeDesc.string) rfl rfl (by kernel_rfl) rfl (by kernel_rfl) (by kernel_rfl) (by kernel_rfl) (fun w1 hs1 => (Rd.step (hs.old R0_6) hs1.below.bw).at hA20 (Sub4.trans (em_sub T67 a0.2.2.2.2.2.2 (i := (x4_1).toNat) (by have h0 : (0 : Int) ≤ x4_1 := q10; have h1 : x4_1 < (a0.2.2.2.2.2.2.length : Int) := q6; omega)) (Sub4.skip (n := 1) (len1 _) (Sub4.all _)))) ?_
        refine ls_ren 41 (v := .string (((a0.2.2.2.2.2.2).getD (x4_1).toNat (ByteArray.empty, ByteArray.empty)).2)) (v' := .string y21) (by kernel_rfl) (by rw [hy22]) ?_
        exact ls_fin s0 _ ((upd_upd _ _ _ _).trans (congrArg (fun z => upd z 41 _) hF.symm)) ⟨rfl, rfl⟩ (sub_nil _)
      obtain ⟨s9_17, hs9_17⟩ := exv (.int .i64 (y21.size : Int))
      refine have_opa shadowboxlaw36_few.tab7 1 17 (fun sp => sp 17 = s9_17 ∧ sp 16 = s9_16) (fun sp on hA hon => ?_) (fun ops9_17 => ?_)
      · refine ⟨fun o ho vs Rs f' S' w hp hf hx hS hR hs => ?_⟩
        obtain rfl := Option.some.inj ho
        obtain ⟨hv16, hR16⟩ := (spe hA.2 hs9_16 (hp 16 (by kernel_rfl)))
        exact opv (.int .i64 (y21.size : Int)) hA.1 hs9_17 hon (fr_next (rfl) ((hf 16 41 (by kernel_rfl) rfl).trans hv16))
      obtain ⟨y23, hy24, H⟩ := lt_some H
      obtain ⟨s9_18, hs9_18⟩ := exv (.int .i64 y23)
      refine have_opa shadowboxlaw36_few.tab7 1 18 (fun sp => sp 18 = s9_18 ∧ sp 17 = s9_17) (fun sp on hA hon => ?_) (fun ops9_18 => ?_)
      · refine ⟨fun o ho vs Rs f' S' w hp hf hx hS hR hs => ?_⟩
        obtain rfl := Option.some.inj ho
        obtain ⟨hv17, hR17⟩ := (spe hA.2 hs9_17 (hp 17 (by kernel_rfl)))
        rw [hA.1, hs9_18]
        refine wn hon ?_
        have hF := fr_next (rfl) ((hf 17 42 (by kernel_rfl) rfl).trans hv17)
        refine ls_fr hF ?_
        refine lv (.int .i64 (if (900 : Int) < (y21.size : Int) then (900 : Int) else (y21.size : Int))) ?_
        refine ls_ren 43 (v := .int .i64 (if (900 : Int) < (y21.size : Int) then (900 : Int) else (y21.size : Int))) (v' := .int .i64 y23) (by kernel_rfl) (by rw [hy24]) ?_
        exact ls_fin s0 _ ((upd_upd _ _ _ _).trans (congrArg (fun z => upd z 43 _) hF.symm)) ⟨rfl, rfl⟩ (sub_nil _)
      refine cs_draw shadowboxlaw36_few.tab7 19 1 (spl [s9_0, s9_1, s9_2, s9_3, s9_4, s9_5, s9_6, s9_7, s9_8, s9_9, s9_10, s9_11, s9_12, s9_13, s9_14, s9_15, s9_16, s9_17, s9_18]) (onl [true, true, true, true, true, true, true, true, true, true, true, true, true, true, true, true, true, true, true]) (by kernel_rfl) (by kernel_rfl) (by kernel_rfl) (by kernel_rfl) (rs := [_, _]) rfl (by kernel_rfl) (by kernel_rfl) (all_snoc (all_snoc (all_snoc (all_snoc (all_snoc (all_snoc (all_snoc (all_snoc (all_snoc (all_snoc (all_snoc (all_snoc (all_snoc (all_snoc (all_snoc (all_snoc (all_snoc (all_snoc (all_snoc (all_nil) (ops9_0 _ _ rfl rfl)) (ops9_1 _ _ ⟨rfl, rfl⟩ rfl)) (ops9_2 _ _ rfl rfl)) (ops9_3 _ _ ⟨rfl, rfl⟩ rfl)) (ops9_4 _ _ rfl rfl)) (ops9_5 _ _ ⟨rfl, rfl, rfl⟩ rfl)) (ops9_6 _ _ ⟨rfl, rfl⟩ rfl)) (ops9_7 _ _ ⟨rfl, rfl⟩ rfl)) (ops9_8 _ _ ⟨rfl, rfl⟩ rfl)) (ops9_9 _ _ ⟨rfl, rfl⟩ rfl)) (ops9_10 _ _ ⟨rfl, rfl, rfl⟩ rfl)) (ops9_11 _ _ rfl rfl)) (ops9_12 _ _ ⟨rfl, rfl⟩ rfl)) (ops9_13 _ _ rfl rfl)) (ops9_14 _ _ ⟨rfl, rfl, rfl⟩ rfl)) (ops9_15 _ _ ⟨rfl, rfl⟩ rfl)) (ops9_16 _ _ ⟨rfl, rfl⟩ rfl)) (ops9_17 _ _ ⟨rfl, rfl⟩ rfl)) (ops9_18 _ _ ⟨rfl, rfl⟩ rfl)) ?_
      intro vs Rs f' S' hp hf hx hS hR
      obtain ⟨hv10, hR10⟩ := (spe rfl hs9_10 (hp 10 (by kernel_rfl)))
      obtain ⟨hv18, hR18⟩ := (spe rfl hs9_18 (hp 18 (by kernel_rfl)))
      refine ls_fr (F := upd (upd (upd (upd f' 1 (.pointer (some ⟨g1, 0, none⟩))) 4 (.int .i64 x4_1)) 35 (.int .i64 y17)) 43 (.int .i64 y23)) (fr_next (fr_next (fr_next (fr_next (rfl) ((hx 1 (by kernel_rfl)).trans (by kernel_rfl : (_ : Value) = .pointer (some ⟨g1, 0, none⟩)))) ((hx 4 (by kernel_rfl)).trans (by kernel_rfl : (_ : Value) = .int .i64 x4_1))) ((hf 10 35 (by kernel_rfl) rfl).trans hv10)) ((hf 18 43 (by kernel_rfl) rfl).trans hv18)) ?_
      refine ls_sub (sput s0 0 (some (Ck.var 51 g1 (([Value.int .i64 a0.1] ++ ([Value.int .i64 a0.2.1] ++ ([Value.int .i64 a0.2.2.1] ++ ([Value.int .i64 a0.2.2.2.1] ++ ([Value.string a0.2.2.2.2.1] ++ ([Value.string a0.2.2.2.2.2.1] ++ [Value.slice A0_6 a0.2.2.2.2.2.2.length c0_6])))))))))) (sub_put ((hS 0 (by kernel_rfl)).trans (by exact rfl)) (sub_nil _)) ?_
      refine lv (.int .i64 (IntKind.wrap .i64 (y17 + y23))) ?_
      refine lv (.int .i64 (IntKind.wrap .i64 (y17 + y23))) ?_
      refine ls_end ?_
      refine qn_block ?_
      refine qn_then ?_
      refine cs_region (l := [_, _, _]) ?_
      refine lv (.int .i64 x4_1) ?_
      refine lv (.int .i64 (IntKind.wrap .i64 (x4_1 + (1 : Int)))) ?_
      refine lv (.int .i64 (IntKind.wrap .i64 (x4_1 + (1 : Int)))) ?_
      refine ls_end ?_
      refine qn_again k1 (sput s0 0 (some (Ck.var 51 g1 (([Value.int .i64 a0.1] ++ ([Value.int .i64 a0.2.1] ++ ([Value.int .i64 a0.2.2.1] ++ ([Value.int .i64 a0.2.2.2.1] ++ ([Value.string a0.2.2.2.2.1] ++ ([Value.string a0.2.2.2.2.2.1] ++ [Value.slice A0_6 a0.2.2.2.2.2.2.length c0_6])))))))))) (Nat.le_refl _) ⟨_, (IntKind.wrap .i64 (y17 + y23)), (IntKind.wrap .i64 (x4_1 + (1 : Int))), fr_next (fr_next (fr_next (rfl) (by kernel_rfl)) (by kernel_rfl)) (by kernel_rfl), rfl, H⟩ (sub_put (by exact rfl) (sub_nil _))
    replace H := ite_f q7 H
    refine cs_know (c := false) (dec_f q7) 22 (by kernel_rfl) ?_
    refine cs_false (by kernel_rfl) ?_
    refine cs_exit' ?_
    refine qx_then ?_
    refine qx_then ?_
    refine qx_same ?_
    refine qn_then ?_
    refine cs_seq ?_
    refine cs_region (l := [_, _, _]) ?_
    refine lv (.int .i64 x3_1) ?_
    refine lv (.bool (decide (x3_1 < (900 : Int)))) ?_
    refine lv (.bool (decide (x3_1 < (900 : Int)))) ?_
    refine ls_end ?_
    refine qn_then ?_
    refine cs_ret' ?_
    obtain rfl := Option.some.inj H
    refine qr_res (rs := [_]) rfl (fun w' hs => ⟨[.bool (decide (x3_1 < (900 : Int)))], (res_tmp (by kernel_rfl) (.nil)), (), rfl, hs.pick (ts := []) (cs := []) trivial (by decide)⟩)
  replace H := ite_f q6 H
  refine ls_know (c := false) (dec_f q6) 19 (by kernel_rfl) ?_
  refine lofx 5 19 true false ?_
  refine lofx 5 19 true false ?_
  refine lv (.bool false) ?_
  refine ls_end ?_
  refine qn_then ?_
  refine cs_false (by kernel_rfl) ?_
  refine cs_exit' ?_
  refine qx_then ?_
  refine qx_then ?_
  refine qx_same ?_
  refine qn_then ?_
  refine cs_seq ?_
  refine cs_region (l := [_, _, _]) ?_
  refine lv (.int .i64 x3_1) ?_
  refine lv (.bool (decide (x3_1 < (900 : Int)))) ?_
  refine lv (.bool (decide (x3_1 < (900 : Int)))) ?_
  refine ls_end ?_
  refine qn_then ?_
  refine cs_ret' ?_
  obtain rfl := Option.some.inj H
  refine qr_res (rs := [_]) rfl (fun w' hs => ⟨[.bool (decide (x3_1 < (900 : Int)))], (res_tmp (by kernel_rfl) (.nil)), (), rfl, hs.pick (ts := []) (cs := []) trivial (by decide)⟩)

/-! ### math/bits.Len64: function 87 -/
def bits_Len64.cst0 : ByteArray := (⟨#[0, 1, 2, 2, 3, 3, 3, 3, 4, 4, 4, 4, 4, 4, 4, 4, 5, 5, 5, 5, 5, 5, 5, 5, 5, 5, 5, 5, 5, 5, 5, 5, 6, 6, 6, 6, 6, 6, 6, 6, 6, 6, 6, 6, 6, 6, 6, 6, 6, 6, 6, 6, 6, 6, 6, 6, 6, 6, 6, 6, 6, 6, 6, 6, 7, 7, 7, 7, 7, 7, 7, 7, 7, 7, 7, 7, 7, 7, 7, 7, 7, 7, 7, 7, 7, 7, 7, 7, 7, 7, 7, 7, 7, 7, 7, 7, 7, 7, 7, 7, 7, 7, 7, 7, 7, 7, 7, 7, 7, 7, 7, 7, 7, 7, 7, 7, 7, 7, 7, 7, 7, 7, 7, 7, 7, 7, 7, 7, 8, 8, 8, 8, 8, 8, 8, 8, 8, 8, 8, 8, 8, 8, 8, 8, 8, 8, 8, 8, 8, 8, 8, 8, 8, 8, 8, 8, 8, 8, 8, 8, 8, 8, 8, 8, 8, 8, 8, 8, 8, 8, 8, 8, 8, 8, 8, 8, 8, 8, 8, 8, 8, 8, 8, 8, 8, 8, 8, 8, 8, 8, 8, 8, 8, 8, 8, 8, 8, 8, 8, 8, 8, 8, 8, 8, 8, 8, 8, 8, 8, 8, 8, 8, 8, 8, 8, 8, 8, 8, 8, 8, 8, 8, 8, 8, 8, 8, 8, 8, 8, 8, 8, 8, 8, 8, 8, 8, 8, 8, 8, 8, 8, 8, 8, 8, 8, 8, 8, 8, 8, 8, 8, 8, 8, 8, 8, 8]⟩ : ByteArray)
def bits_Len64.f (k : Nat) (a0 : Int) : Option (Int) :=
  (if a0 ≥ (4294967296 : Int) then (if (Int.fdiv a0 4294967296) ≥ (65536 : Int) then lt (IntKind.wrap .i64 ((32 : Int) + (16 : Int))) fun y3 => (if (Int.fdiv (Int.fdiv a0 4294967296) 65536) ≥ (256 : Int) then lt (Int.fdiv (Int.fdiv (Int.fdiv a0 4294967296) 65536) 256) fun y6 => (if 0 ≤ IntKind.wrap .u8 y6 then (if IntKind.wrap .u8 y6 < (bits_Len64.cst0.size : Int) then lt (IntKind.wrap .i64 (bt bits_Len64.cst0 (IntKind.wrap .u8 y6))) fun y10 => lt (IntKind.wrap .i64 ((IntKind.wrap .i64 (y3 + (8 : Int))) + y10)) fun y12 => some y12 else none) else none) else lt (IntKind.wrap .u8 (Int.fdiv (Int.fdiv a0 4294967296) 65536)) fun y14 => (if 0 ≤ y14 then (if y14 < (bits_Len64.cst0.size : Int) then lt (IntKind.wrap .i64 (bt bits_Len64.cst0 y14)) fun y18 => some (IntKind.wrap .i64 (y3 + y18)) else none) else none)) else (if (Int.fdiv a0 4294967296) ≥ (256 : Int) then lt (IntKind.wrap .i64 ((32 : Int) + (8 : Int))) fun y21 => lt (IntKind.wrap .u8 (Int.fdiv (Int.fdiv a0 4294967296) 256)) fun y23 => (if 0 ≤ y23 then (if y23 < (bits_Len64.cst0.size : Int) then lt (IntKind.wrap .i64 (bt bits_Len64.cst0 y23)) fun y27 => some (IntKind.wrap .i64 (y21 + y27)) else none) else none) else lt (IntKind.wrap .u8 (Int.fdiv a0 4294967296)) fun y29 => (if 0 ≤ y29 then (if y29 < (bits_Len64.cst0.size : Int) then lt (IntKind.wrap .i64 (bt bits_Len64.cst0 y29)) fun y33 => some (IntKind.wrap .i64 ((32 : Int) + y33)) else none) else none))) else (if a0 ≥ (65536 : Int) then lt (IntKind.wrap .i64 ((0 : Int) + (16 : Int))) fun y36 => (if (Int.fdiv a0 65536) ≥ (256 : Int) then lt (IntKind.wrap .u8 (Int.fdiv (Int.fdiv a0 65536) 256)) fun y39 => (if 0 ≤ y39 then (if y39 < (bits_Len64.cst0.size : Int) then lt (IntKind.wrap .i64 (bt bits_Len64.cst0 y39)) fun y43 => lt (IntKind.wrap .i64 ((IntKind.wrap .i64 (y36 + (8 : Int))) + y43)) fun y45 => some y45 else none) else none) else (if 0 ≤ IntKind.wrap .u8 (Int.fdiv a0 65536) then (if IntKind.wrap .u8 (Int.fdiv a0 65536) < (bits_Len64.cst0.size : Int) then lt (bt bits_Len64.cst0 (IntKind.wrap .u8 (Int.fdiv a0 65536))) fun y49 => lt (IntKind.wrap .i64 (y36 + (IntKind.wrap .i64 y49))) fun y51 => some y51 else none) else none)) else (if a0 ≥ (256 : Int) then lt (IntKind.wrap .i64 ((0 : Int) + (8 : Int))) fun y54 => (if 0 ≤ IntKind.wrap .u8 (Int.fdiv a0 256) then (if IntKind.wrap .u8 (Int.fdiv a0 256) < (bits_Len64.cst0.size : Int) then lt (bt bits_Len64.cst0 (IntKind.wrap .u8 (Int.fdiv a0 256))) fun y58 => lt (IntKind.wrap .i64 (y54 + (IntKind.wrap .i64 y58))) fun y60 => some y60 else none) else none) else (if 0 ≤ IntKind.wrap .u8 a0 then (if IntKind.wrap .u8 a0 < (bits_Len64.cst0.size : Int) then lt (IntKind.wrap .i64 (bt bits_Len64.cst0 (IntKind.wrap .u8 a0))) fun y64 => some (IntKind.wrap .i64 ((0 : Int) + y64)) else none) else none))))
set_option maxRecDepth 100000 in
set_option maxHeartbeats 4000000 in
theorem bits_Len64.calls (k : Nat) (a0 : Int) (r : Int) (b : Bs) (hs0 : St b (stl []) b.w) (H : bits_Len64.f k a0 = some r) :
    Calls Try.prog 87 #[.int .u64 a0] b.w fun e w' => ∃ x : Unit, e = .returned (.int .i64 r) ∧ St b (stl []) w' := by
  unfold bits_Len64.f at H
  refine enterb (n := 25) Try.func87 rfl (by kernel_rfl) (by kernel_rfl) hs0 ?_
  refine cs_sub (s0) (sub_nil _) ?_
  refine cs_seq ?_
  refine cs_region (l := [_]) ?_
  refine lv (.int .i64 (0 : Int)) ?_
  refine ls_end ?_
  refine qn_then ?_
  refine cs_seq ?_
  refine cs_seq ?_
  refine cs_region (l := [_, _]) ?_
  refine lv (.int .u64 a0) ?_
  refine lv (.bool (decide (a0 ≥ (4294967296 : Int)))) ?_
  refine ls_end ?_
  refine qn_then ?_
  by_cases q1 : a0 ≥ (4294967296 : Int)
  · replace H := ite_t q1 H
    refine cs_know (c := true) (dec_t q1) 4 (by kernel_rfl) ?_
    refine cs_true (by kernel_rfl) ?_
    refine cs_seq ?_
    refine cs_region (l := [_, _, _]) ?_
    refine lv (.int .u64 a0) ?_
    refine lv (.int .u64 (Int.fdiv a0 4294967296)) ?_
    refine lv (.int .u64 (Int.fdiv a0 4294967296)) ?_
    refine ls_end ?_
    refine qn_then ?_
    refine cs_region (l := [_]) ?_
    refine lv (.int .i64 (32 : Int)) ?_
    refine ls_end ?_
    refine qn_then ?_
    refine cs_seq ?_
    refine cs_seq ?_
    refine cs_region (l := [_, _]) ?_
    refine lv (.int .u64 (Int.fdiv a0 4294967296)) ?_
    refine lv (.bool (decide ((Int.fdiv a0 4294967296) ≥ (65536 : Int)))) ?_
    refine ls_end ?_
    refine qn_then ?_
    by_cases q2 : (Int.fdiv a0 4294967296) ≥ (65536 : Int)
    · replace H := ite_t q2 H
      refine cs_know (c := true) (dec_t q2) 8 (by kernel_rfl) ?_
      refine cs_true (by kernel_rfl) ?_
      refine cs_seq ?_
      refine cs_region (l := [_, _, _]) ?_
      refine lv (.int .u64 (Int.fdiv a0 4294967296)) ?_
      refine lv (.int .u64 (Int.fdiv (Int.fdiv a0 4294967296) 65536)) ?_
      refine lv (.int .u64 (Int.fdiv (Int.fdiv a0 4294967296) 65536)) ?_
      refine ls_end ?_
      refine qn_then ?_
      refine cs_region (l := [_, _, _]) ?_
      refine lv (.int .i64 (32 : Int)) ?_
      obtain ⟨y3, hy4, H⟩ := lt_some H
      refine lv (.int .i64 (IntKind.wrap .i64 ((32 : Int) + (16 : Int)))) ?_
      refine ls_ren 12 (v := .int .i64 (IntKind.wrap .i64 ((32 : Int) + (16 : Int)))) (v' := .int .i64 y3) (by kernel_rfl) (by rw [hy4]) ?_
      refine lv (.int .i64 y3) ?_
      refine ls_end ?_
      refine qn_then ?_
      refine cs_seq ?_
      refine cs_seq ?_
      refine cs_region (l := [_, _]) ?_
      refine lv (.int .u64 (Int.fdiv (Int.fdiv a0 4294967296) 65536)) ?_
      refine lv (.bool (decide ((Int.fdiv (Int.fdiv a0 4294967296) 65536) ≥ (256 : Int)))) ?_
      refine ls_end ?_
      refine qn_then ?_
      by_cases q5 : (Int.fdiv (Int.fdiv a0 4294967296) 65536) ≥ (256 : Int)
      · replace H := ite_t q5 H
        refine cs_know (c := true) (dec_t q5) 14 (by kernel_rfl) ?_
        refine cs_true (by kernel_rfl) ?_
        refine cs_seq ?_
        refine cs_region (l := [_, _, _]) ?_
        refine lv (.int .u64 (Int.fdiv (Int.fdiv a0 4294967296) 65536)) ?_
        obtain ⟨y6, hy7, H⟩ := lt_some H
        refine lv (.int .u64 (Int.fdiv (Int.fdiv (Int.fdiv a0 4294967296) 65536) 256)) ?_
        refine ls_ren 16 (v := .int .u64 (Int.fdiv (Int.fdiv (Int.fdiv a0 4294967296) 65536) 256)) (v' := .int .u64 y6) (by kernel_rfl) (by rw [hy7]) ?_
        refine lv (.int .u64 y6) ?_
        refine ls_end ?_
        refine qn_then ?_
        refine cs_region (l := [_, _, _]) ?_
        refine lv (.int .i64 y3) ?_
        refine lv (.int .i64 (IntKind.wrap .i64 (y3 + (8 : Int)))) ?_
        refine lv (.int .i64 (IntKind.wrap .i64 (y3 + (8 : Int)))) ?_
        refine ls_end ?_
        refine qn_then ?_
        refine cs_seq ?_
        refine cs_region (l := [_, _, _, _, _, _, _]) ?_
        refine lv (.int .i64 (IntKind.wrap .i64 (y3 + (8 : Int)))) ?_
        refine lv (.int .u64 y6) ?_
        refine lv (.int .u8 (IntKind.wrap .u8 y6)) ?_
        obtain ⟨q8, H⟩ := ite_need H
        obtain ⟨q9, H⟩ := ite_need H
        refine ls_sidx (s := bits_Len64.cst0) (k := .u8) (i := IntKind.wrap .u8 y6) rfl rfl (by kernel_rfl) rfl (by kernel_rfl) (by kernel_rfl) (by kernel_rfl) q8 q9 ?_
        obtain ⟨y10, hy11, H⟩ := lt_some H
        refine lv (.int .i64 (IntKind.wrap .i64 (bt bits_Len64.cst0 (IntKind.wrap .u8 y6)))) ?_
        refine ls_ren 23 (v := .int .i64 (IntKind.wrap .i64 (bt bits_Len64.cst0 (IntKind.wrap .u8 y6)))) (v' := .int .i64 y10) (by kernel_rfl) (by rw [hy11]) ?_
        obtain ⟨y12, hy13, H⟩ := lt_some H
        refine lv (.int .i64 (IntKind.wrap .i64 ((IntKind.wrap .i64 (y3 + (8 : Int))) + y10))) ?_
        refine ls_ren 24 (v := .int .i64 (IntKind.wrap .i64 ((IntKind.wrap .i64 (y3 + (8 : Int))) + y10))) (v' := .int .i64 y12) (by kernel_rfl) (by rw [hy13]) ?_
        refine lv (.int .i64 y12) ?_
        refine ls_end ?_
        refine qn_then ?_
        refine cs_ret' ?_
        obtain rfl := Option.some.inj H
        refine qr_res (rs := [_]) rfl (fun w' hs => ⟨[.int .i64 y12], (res_tmp (by kernel_rfl) (.nil)), (), rfl, hs.pick (ts := []) (cs := []) trivial (by decide)⟩)
      replace H := ite_f q5 H
      refine cs_know (c := false) (dec_f q5) 14 (by kernel_rfl) ?_
      refine cs_false (by kernel_rfl) ?_
      refine cs_skip' ?_
      refine qn_then ?_
      refine cs_seq ?_
      refine cs_region (l := [_, _, _, _, _, _, _]) ?_
      refine lv (.int .i64 y3) ?_
      refine lv (.int .u64 (Int.fdiv (Int.fdiv a0 4294967296) 65536)) ?_
      obtain ⟨y14, hy15, H⟩ := lt_some H
      refine lv (.int .u8 (IntKind.wrap .u8 (Int.fdiv (Int.fdiv a0 4294967296) 65536))) ?_
      refine ls_ren 21 (v := .int .u8 (IntKind.wrap .u8 (Int.fdiv (Int.fdiv a0 4294967296) 65536))) (v' := .int .u8 y14) (by kernel_rfl) (by rw [hy15]) ?_
      obtain ⟨q16, H⟩ := ite_need H
      obtain ⟨q17, H⟩ := ite_need H
      refine ls_sidx (s := bits_Len64.cst0) (k := .u8) (i := y14) rfl rfl (by kernel_rfl) rfl (by kernel_rfl) (by kernel_rfl) (by kernel_rfl) q16 q17 ?_
      obtain ⟨y18, hy19, H⟩ := lt_some H
      refine lv (.int .i64 (IntKind.wrap .i64 (bt bits_Len64.cst0 y14))) ?_
      refine ls_ren 23 (v := .int .i64 (IntKind.wrap .i64 (bt bits_Len64.cst0 y14))) (v' := .int .i64 y18) (by kernel_rfl) (by rw [hy19]) ?_
      refine lv (.int .i64 (IntKind.wrap .i64 (y3 + y18))) ?_
      refine lv (.int .i64 (IntKind.wrap .i64 (y3 + y18))) ?_
      refine ls_end ?_
      refine qn_then ?_
      refine cs_ret' ?_
      obtain rfl := Option.some.inj H
      refine qr_res (rs := [_]) rfl (fun w' hs => ⟨[.int .i64 (IntKind.wrap .i64 (y3 + y18))], (res_tmp (by kernel_rfl) (.nil)), (), rfl, hs.pick (ts := []) (cs := []) trivial (by decide)⟩)
    replace H := ite_f q2 H
    refine cs_know (c := false) (dec_f q2) 8 (by kernel_rfl) ?_
    refine cs_false (by kernel_rfl) ?_
    refine cs_skip' ?_
    refine qn_then ?_
    refine cs_seq ?_
    refine cs_seq ?_
    refine cs_region (l := [_, _]) ?_
    refine lv (.int .u64 (Int.fdiv a0 4294967296)) ?_
    refine lv (.bool (decide ((Int.fdiv a0 4294967296) ≥ (256 : Int)))) ?_
    refine ls_end ?_
    refine qn_then ?_
    by_cases q20 : (Int.fdiv a0 4294967296) ≥ (256 : Int)
    · replace H := ite_t q20 H
      refine cs_know (c := true) (dec_t q20) 14 (by kernel_rfl) ?_
      refine cs_true (by kernel_rfl) ?_
      refine cs_seq ?_
      refine cs_region (l := [_, _, _]) ?_
      refine lv (.int .u64 (Int.fdiv a0 4294967296)) ?_
      refine lv (.int .u64 (Int.fdiv (Int.fdiv a0 4294967296) 256)) ?_
      refine lv (.int .u64 (Int.fdiv (Int.fdiv a0 4294967296) 256)) ?_
      refine ls_end ?_
      refine qn_then ?_
      refine cs_region (l := [_, _, _]) ?_
      refine lv (.int .i64 (32 : Int)) ?_
      obtain ⟨y21, hy22, H⟩ := lt_some H
      refine lv (.int .i64 (IntKind.wrap .i64 ((32 : Int) + (8 : Int)))) ?_
      refine ls_ren 18 (v := .int .i64 (IntKind.wrap .i64 ((32 : Int) + (8 : Int)))) (v' := .int .i64 y21) (by kernel_rfl) (by rw [hy22]) ?_
      refine lv (.int .i64 y21) ?_
      refine ls_end ?_
      refine qn_then ?_
      refine cs_seq ?_
      refine cs_region (l := [_, _, _, _, _, _, _]) ?_
      refine lv (.int .i64 y21) ?_
      refine lv (.int .u64 (Int.fdiv (Int.fdiv a0 4294967296) 256)) ?_
      obtain ⟨y23, hy24, H⟩ := lt_some H
      refine lv (.int .u8 (IntKind.wrap .u8 (Int.fdiv (Int.fdiv a0 4294967296) 256))) ?_
      refine ls_ren 21 (v := .int .u8 (IntKind.wrap .u8 (Int.fdiv (Int.fdiv a0 4294967296) 256))) (v' := .int .u8 y23) (by kernel_rfl) (by rw [hy24]) ?_
      obtain ⟨q25, H⟩ := ite_need H
      obtain ⟨q26, H⟩ := ite_need H
      refine ls_sidx (s := bits_Len64.cst0) (k := .u8) (i := y23) rfl rfl (by kernel_rfl) rfl (by kernel_rfl) (by kernel_rfl) (by kernel_rfl) q25 q26 ?_
      obtain ⟨y27, hy28, H⟩ := lt_some H
      refine lv (.int .i64 (IntKind.wrap .i64 (bt bits_Len64.cst0 y23))) ?_
      refine ls_ren 23 (v := .int .i64 (IntKind.wrap .i64 (bt bits_Len64.cst0 y23))) (v' := .int .i64 y27) (by kernel_rfl) (by rw [hy28]) ?_
      refine lv (.int .i64 (IntKind.wrap .i64 (y21 + y27))) ?_
      refine lv (.int .i64 (IntKind.wrap .i64 (y21 + y27))) ?_
      refine ls_end ?_
      refine qn_then ?_
      refine cs_ret' ?_
      obtain rfl := Option.some.inj H
      refine qr_res (rs := [_]) rfl (fun w' hs => ⟨[.int .i64 (IntKind.wrap .i64 (y21 + y27))], (res_tmp (by kernel_rfl) (.nil)), (), rfl, hs.pick (ts := []) (cs := []) trivial (by decide)⟩)
    replace H := ite_f q20 H
    refine cs_know (c := false) (dec_f q20) 14 (by kernel_rfl) ?_
    refine cs_false (by kernel_rfl) ?_
    refine cs_skip' ?_
    refine qn_then ?_
    refine cs_seq ?_
    refine cs_region (l := [_, _, _, _, _, _, _]) ?_
    refine lv (.int .i64 (32 : Int)) ?_
    refine lv (.int .u64 (Int.fdiv a0 4294967296)) ?_
    obtain ⟨y29, hy30, H⟩ := lt_some H
    refine lv (.int .u8 (IntKind.wrap .u8 (Int.fdiv a0 4294967296))) ?_
    refine ls_ren 21 (v := .int .u8 (IntKind.wrap .u8 (Int.fdiv a0 4294967296))) (v' := .int .u8 y29) (by kernel_rfl) (by rw [hy30]) ?_
    obtain ⟨q31, H⟩ := ite_need H
    obtain ⟨q32, H⟩ := ite_need H
    refine ls_sidx (s := bits_Len64.cst0) (k := .u8) (i := y29) rfl rfl (by kernel_rfl) rfl (by kernel_rfl) (by kernel_rfl) (by kernel_rfl) q31 q32 ?_
    obtain ⟨y33, hy34, H⟩ := lt_some H
    refine lv (.int .i64 (IntKind.wrap .i64 (bt bits_Len64.cst0 y29))) ?_
    refine ls_ren 23 (v := .int .i64 (IntKind.wrap .i64 (bt bits_Len64.cst0 y29))) (v' := .int .i64 y33) (by kernel_rfl) (by rw [hy34]) ?_
    refine lv (.int .i64 (IntKind.wrap .i64 ((32 : Int) + y33))) ?_
    refine lv (.int .i64 (IntKind.wrap .i64 ((32 : Int) + y33))) ?_
    refine ls_end ?_
    refine qn_then ?_
    refine cs_ret' ?_
    obtain rfl := Option.some.inj H
    refine qr_res (rs := [_]) rfl (fun w' hs => ⟨[.int .i64 (IntKind.wrap .i64 ((32 : Int) + y33))], (res_tmp (by kernel_rfl) (.nil)), (), rfl, hs.pick (ts := []) (cs := []) trivial (by decide)⟩)
  replace H := ite_f q1 H
  refine cs_know (c := false) (dec_f q1) 4 (by kernel_rfl) ?_
  refine cs_false (by kernel_rfl) ?_
  refine cs_skip' ?_
  refine qn_then ?_
  refine cs_seq ?_
  refine cs_seq ?_
  refine cs_region (l := [_, _]) ?_
  refine lv (.int .u64 a0) ?_
  refine lv (.bool (decide (a0 ≥ (65536 : Int)))) ?_
  refine ls_end ?_
  refine qn_then ?_
  by_cases q35 : a0 ≥ (65536 : Int)
  · replace H := ite_t q35 H
    refine cs_know (c := true) (dec_t q35) 8 (by kernel_rfl) ?_
    refine cs_true (by kernel_rfl) ?_
    refine cs_seq ?_
    refine cs_region (l := [_, _, _]) ?_
    refine lv (.int .u64 a0) ?_
    refine lv (.int .u64 (Int.fdiv a0 65536)) ?_
    refine lv (.int .u64 (Int.fdiv a0 65536)) ?_
    refine ls_end ?_
    refine qn_then ?_
    refine cs_region (l := [_, _, _]) ?_
    refine lv (.int .i64 (0 : Int)) ?_
    obtain ⟨y36, hy37, H⟩ := lt_some H
    refine lv (.int .i64 (IntKind.wrap .i64 ((0 : Int) + (16 : Int)))) ?_
    refine ls_ren 12 (v := .int .i64 (IntKind.wrap .i64 ((0 : Int) + (16 : Int)))) (v' := .int .i64 y36) (by kernel_rfl) (by rw [hy37]) ?_
    refine lv (.int .i64 y36) ?_
    refine ls_end ?_
    refine qn_then ?_
    refine cs_seq ?_
    refine cs_seq ?_
    refine cs_region (l := [_, _]) ?_
    refine lv (.int .u64 (Int.fdiv a0 65536)) ?_
    refine lv (.bool (decide ((Int.fdiv a0 65536) ≥ (256 : Int)))) ?_
    refine ls_end ?_
    refine qn_then ?_
    by_cases q38 : (Int.fdiv a0 65536) ≥ (256 : Int)
    · replace H := ite_t q38 H
      refine cs_know (c := true) (dec_t q38) 14 (by kernel_rfl) ?_
      refine cs_true (by kernel_rfl) ?_
      refine cs_seq ?_
      refine cs_region (l := [_, _, _]) ?_
      refine lv (.int .u64 (Int.fdiv a0 65536)) ?_
      refine lv (.int .u64 (Int.fdiv (Int.fdiv a0 65536) 256)) ?_
      refine lv (.int .u64 (Int.fdiv (Int.fdiv a0 65536) 256)) ?_
      refine ls_end ?_
      refine qn_then ?_
      refine cs_region (l := [_, _, _]) ?_
      refine lv (.int .i64 y36) ?_
      refine lv (.int .i64 (IntKind.wrap .i64 (y36 + (8 : Int)))) ?_
      refine lv (.int .i64 (IntKind.wrap .i64 (y36 + (8 : Int)))) ?_
      refine ls_end ?_
      refine qn_then ?_
      refine cs_seq ?_
      refine cs_region (l := [_, _, _, _, _, _, _]) ?_
      refine lv (.int .i64 (IntKind.wrap .i64 (y36 + (8 : Int)))) ?_
      refine lv (.int .u64 (Int.fdiv (Int.fdiv a0 65536) 256)) ?_
      obtain ⟨y39, hy40, H⟩ := lt_some H
      refine lv (.int .u8 (IntKind.wrap .u8 (Int.fdiv (Int.fdiv a0 65536) 256))) ?_
      refine ls_ren 21 (v := .int .u8 (IntKind.wrap .u8 (Int.fdiv (Int.fdiv a0 65536) 256))) (v' := .int .u8 y39) (by kernel_rfl) (by rw [hy40]) ?_
      obtain ⟨q41, H⟩ := ite_need H
      obtain ⟨q42, H⟩ := ite_need H
      refine ls_sidx (s := bits_Len64.cst0) (k := .u8) (i := y39) rfl rfl (by kernel_rfl) rfl (by kernel_rfl) (by kernel_rfl) (by kernel_rfl) q41 q42 ?_
      obtain ⟨y43, hy44, H⟩ := lt_some H
      refine lv (.int .i64 (IntKind.wrap .i64 (bt bits_Len64.cst0 y39))) ?_
      refine ls_ren 23 (v := .int .i64 (IntKind.wrap .i64 (bt bits_Len64.cst0 y39))) (v' := .int .i64 y43) (by kernel_rfl) (by rw [hy44]) ?_
      obtain ⟨y45, hy46, H⟩ := lt_some H
      refine lv (.int .i64 (IntKind.wrap .i64 ((IntKind.wrap .i64 (y36 + (8 : Int))) + y43))) ?_
      refine ls_ren 24 (v := .int .i64 (IntKind.wrap .i64 ((IntKind.wrap .i64 (y36 + (8 : Int))) + y43))) (v' := .int .i64 y45) (by kernel_rfl) (by rw [hy46]) ?_
      refine lv (.int .i64 y45) ?_
      refine ls_end ?_
      refine qn_then ?_
      refine cs_ret' ?_
      obtain rfl := Option.some.inj H
      refine qr_res (rs := [_]) rfl (fun w' hs => ⟨[.int .i64 y45], (res_tmp (by kernel_rfl) (.nil)), (), rfl, hs.pick (ts := []) (cs := []) trivial (by decide)⟩)
    replace H := ite_f q38 H
    refine cs_know (c := false) (dec_f q38) 14 (by kernel_rfl) ?_
    refine cs_false (by kernel_rfl) ?_
    refine cs_skip' ?_
    refine qn_then ?_
    refine cs_seq ?_
    refine cs_region (l := [_, _, _, _, _, _, _]) ?_
    refine lv (.int .i64 y36) ?_
    refine lv (.int .u64 (Int.fdiv a0 65536)) ?_
    refine lv (.int .u8 (IntKind.wrap .u8 (Int.fdiv a0 65536))) ?_
    obtain ⟨q47, H⟩ := ite_need H
    obtain ⟨q48, H⟩ := ite_need H
    obtain ⟨y49, hy50, H⟩ := lt_some H
    refine ls_sidx (s := bits_Len64.cst0) (k := .u8) (i := IntKind.wrap .u8 (Int.fdiv a0 65536)) rfl rfl (by kernel_rfl) rfl (by kernel_rfl) (by kernel_rfl) (by kernel_rfl) q47 q48 ?_
    refine ls_ren 22 (v := .int .u8 (bt bits_Len64.cst0 (IntKind.wrap .u8 (Int.fdiv a0 65536)))) (v' := .int .u8 y49) (by kernel_rfl) (by rw [hy50]) ?_
    refine lv (.int .i64 (IntKind.wrap .i64 y49)) ?_
    obtain ⟨y51, hy52, H⟩ := lt_some H
    refine lv (.int .i64 (IntKind.wrap .i64 (y36 + (IntKind.wrap .i64 y49)))) ?_
    refine ls_ren 24 (v := .int .i64 (IntKind.wrap .i64 (y36 + (IntKind.wrap .i64 y49)))) (v' := .int .i64 y51) (by kernel_rfl) (by rw [hy52]) ?_
    refine lv (.int .i64 y51) ?_
    refine ls_end ?_
    refine qn_then ?_
    refine cs_ret' ?_
    obtain rfl := Option.some.inj H
    refine qr_res (rs := [_]) rfl (fun w' hs => ⟨[.int .i64 y51], (res_tmp (by kernel_rfl) (.nil)), (), rfl, hs.pick (ts := []) (cs := []) trivial (by decide)⟩)
  replace H := ite_f q35 H
  refine cs_know (c := false) (dec_f q35) 8 (by kernel_rfl) ?_
  refine cs_false (by kernel_rfl) ?_
  refine cs_skip' ?_
  refine qn_then ?_
  refine cs_seq ?_
  refine cs_seq ?_
  refine cs_region (l := [_, _]) ?_
  refine lv (.int .u64 a0) ?_
  refine lv (.bool (decide (a0 ≥ (256 : Int)))) ?_
  refine ls_end ?_
  refine qn_then ?_
  by_cases q53 : a0 ≥ (256 : Int)
  · replace H := ite_t q53 H
    refine cs_know (c := true) (dec_t q53) 14 (by kernel_rfl) ?_
    refine cs_true (by kernel_rfl) ?_
    refine cs_seq ?_
    refine cs_region (l := [_, _, _]) ?_
    refine lv (.int .u64 a0) ?_
    refine lv (.int .u64 (Int.fdiv a0 256)) ?_
    refine lv (.int .u64 (Int.fdiv a0 256)) ?_
    refine ls_end ?_
    refine qn_then ?_
    refine cs_region (l := [_, _, _]) ?_
    refine lv (.int .i64 (0 : Int)) ?_
    obtain ⟨y54, hy55, H⟩ := lt_some H
    refine lv (.int .i64 (IntKind.wrap .i64 ((0 : Int) + (8 : Int)))) ?_
    refine ls_ren 18 (v := .int .i64 (IntKind.wrap .i64 ((0 : Int) + (8 : Int)))) (v' := .int .i64 y54) (by kernel_rfl) (by rw [hy55]) ?_
    refine lv (.int .i64 y54) ?_
    refine ls_end ?_
    refine qn_then ?_
    refine cs_seq ?_
    refine cs_region (l := [_, _, _, _, _, _, _]) ?_
    refine lv (.int .i64 y54) ?_
    refine lv (.int .u64 (Int.fdiv a0 256)) ?_
    refine lv (.int .u8 (IntKind.wrap .u8 (Int.fdiv a0 256))) ?_
    obtain ⟨q56, H⟩ := ite_need H
    obtain ⟨q57, H⟩ := ite_need H
    obtain ⟨y58, hy59, H⟩ := lt_some H
    refine ls_sidx (s := bits_Len64.cst0) (k := .u8) (i := IntKind.wrap .u8 (Int.fdiv a0 256)) rfl rfl (by kernel_rfl) rfl (by kernel_rfl) (by kernel_rfl) (by kernel_rfl) q56 q57 ?_
    refine ls_ren 22 (v := .int .u8 (bt bits_Len64.cst0 (IntKind.wrap .u8 (Int.fdiv a0 256)))) (v' := .int .u8 y58) (by kernel_rfl) (by rw [hy59]) ?_
    refine lv (.int .i64 (IntKind.wrap .i64 y58)) ?_
    obtain ⟨y60, hy61, H⟩ := lt_some H
    refine lv (.int .i64 (IntKind.wrap .i64 (y54 + (IntKind.wrap .i64 y58)))) ?_
    refine ls_ren 24 (v := .int .i64 (IntKind.wrap .i64 (y54 + (IntKind.wrap .i64 y58)))) (v' := .int .i64 y60) (by kernel_rfl) (by rw [hy61]) ?_
    refine lv (.int .i64 y60) ?_
    refine ls_end ?_
    refine qn_then ?_
    refine cs_ret' ?_
    obtain rfl := Option.some.inj H
    refine qr_res (rs := [_]) rfl (fun w' hs => ⟨[.int .i64 y60], (res_tmp (by kernel_rfl) (.nil)), (), rfl, hs.pick (ts := []) (cs := []) trivial (by decide)⟩)
  replace H := ite_f q53 H
  refine cs_know (c := false) (dec_f q53) 14 (by kernel_rfl) ?_
  refine cs_false (by kernel_rfl) ?_
  refine cs_skip' ?_
  refine qn_then ?_
  refine cs_seq ?_
  refine cs_region (l := [_, _, _, _, _, _, _]) ?_
  refine lv (.int .i64 (0 : Int)) ?_
  refine lv (.int .u64 a0) ?_
  refine lv (.int .u8 (IntKind.wrap .u8 a0)) ?_
  obtain ⟨q62, H⟩ := ite_need H
  obtain ⟨q63, H⟩ := ite_need H
  refine ls_sidx (s := bits_Len64.cst0) (k := .u8) (i := IntKind.wrap .u8 a0) rfl rfl (by kernel_rfl) rfl (by kernel_rfl) (by kernel_rfl) (by kernel_rfl) q62 q63 ?_
  obtain ⟨y64, hy65, H⟩ := lt_some H
  refine lv (.int .i64 (IntKind.wrap .i64 (bt bits_Len64.cst0 (IntKind.wrap .u8 a0)))) ?_
  refine ls_ren 23 (v := .int .i64 (IntKind.wrap .i64 (bt bits_Len64.cst0 (IntKind.wrap .u8 a0)))) (v' := .int .i64 y64) (by kernel_rfl) (by rw [hy65]) ?_
  refine lv (.int .i64 (IntKind.wrap .i64 ((0 : Int) + y64))) ?_
  refine lv (.int .i64 (IntKind.wrap .i64 ((0 : Int) + y64))) ?_
  refine ls_end ?_
  refine qn_then ?_
  refine cs_ret' ?_
  obtain rfl := Option.some.inj H
  refine qr_res (rs := [_]) rfl (fun w' hs => ⟨[.int .i64 (IntKind.wrap .i64 ((0 : Int) + y64))], (res_tmp (by kernel_rfl) (.nil)), (), rfl, hs.pick (ts := []) (cs := []) trivial (by decide)⟩)

/-! ### shadowbox/codec.groups: function 88 -/
def codec_groups.f (k : Nat) (a0 : Int) : Option (Int) :=
  (bits_Len64.f k a0).bind fun t1 => lt (IntKind.wrap .i64 ((IntKind.wrap .i64 (t1 + (7 : Int))) - (1 : Int))) fun y4 => lt (IntKind.wrap .i64 (Int.tdiv y4 (7 : Int))) fun y6 => lt ((if (1 : Int) < y6 then y6 else (1 : Int))) fun y8 => some y8
set_option maxRecDepth 100000 in
set_option maxHeartbeats 4000000 in
theorem codec_groups.calls (k : Nat) (a0 : Int) (r : Int) (b : Bs) (hs0 : St b (stl []) b.w) (H : codec_groups.f k a0 = some r) :
    Calls Try.prog 88 #[.int .u64 a0] b.w fun e w' => ∃ x : Unit, e = .returned (.int .i64 r) ∧ St b (stl []) w' := by
  unfold codec_groups.f at H
  refine enterb (n := 9) Try.func88 rfl (by kernel_rfl) (by kernel_rfl) hs0 ?_
  refine cs_sub (s0) (sub_nil _) ?_
  refine cs_seq ?_
  refine cs_region (l := [_]) ?_
  refine lv (.int .i64 (0 : Int)) ?_
  refine ls_end ?_
  refine qn_then ?_
  refine cs_seq ?_
  refine cs_region (l := [_, _, _, _, _, _, _]) ?_
  refine lv (.int .u64 a0) ?_
  obtain ⟨t1, hc2, H⟩ := bind_some H
  refine ls_callb (fid := 87) (vals := #[.int .u64 a0]) (X := Unit) (fun x => .int .i64 t1) (fun x => stl []) [] [] [] [] 0 rfl rfl (by kernel_rfl) (fun w => by kernel_rfl) trivial trivial (by decide) (fun w hs hb => bits_Len64.calls k a0 t1 (lent b w [] []) hb  hc2) ?_
  intro x3
  refine lv (.int .i64 (IntKind.wrap .i64 (t1 + (7 : Int)))) ?_
  obtain ⟨y4, hy5, H⟩ := lt_some H
  refine lv (.int .i64 (IntKind.wrap .i64 ((IntKind.wrap .i64 (t1 + (7 : Int))) - (1 : Int)))) ?_
  refine ls_ren 6 (v := .int .i64 (IntKind.wrap .i64 ((IntKind.wrap .i64 (t1 + (7 : Int))) - (1 : Int)))) (v' := .int .i64 y4) (by kernel_rfl) (by rw [hy5]) ?_
  obtain ⟨y6, hy7, H⟩ := lt_some H
  refine lv (.int .i64 (IntKind.wrap .i64 (Int.tdiv y4 (7 : Int)))) ?_
  refine ls_ren 7 (v := .int .i64 (IntKind.wrap .i64 (Int.tdiv y4 (7 : Int)))) (v' := .int .i64 y6) (by kernel_rfl) (by rw [hy7]) ?_
  obtain ⟨y8, hy9, H⟩ := lt_some H
  refine lv (.int .i64 (if (1 : Int) < y6 then y6 else (1 : Int))) ?_
  refine ls_ren 8 (v := .int .i64 (if (1 : Int) < y6 then y6 else (1 : Int))) (v' := .int .i64 y8) (by kernel_rfl) (by rw [hy9]) ?_
  refine lv (.int .i64 y8) ?_
  refine ls_end ?_
  refine qn_then ?_
  refine cs_ret' ?_
  obtain rfl := Option.some.inj H
  refine qr_res (rs := [_]) rfl (fun w' hs => ⟨[.int .i64 y8], (res_tmp (by kernel_rfl) (.nil)), (), rfl, hs.pick (ts := []) (cs := []) trivial (by decide)⟩)

/-! ### shadowbox/codec.Short: function 60 -/
def codec_Short.lo1 : Nat → Int → (List Int) → Int → Option ((List Int))
  | 0, _, _, _ => none
  | k1 + 1, x1_1, l5_1, x6_1 => (if x6_1 > (0 : Int) then lt (bits .or .u8 (IntKind.wrap .u8 x1_1) (128 : Int)) fun y9 => (if (l5_1.length + ([y9]).length) * 1 ≤ 140737488355328 then (codec_Short.lo1 k1) (Int.fdiv x1_1 128) (l5_1 ++ [y9]) (IntKind.wrap .i64 (x6_1 - (1 : Int))) else none) else (if (l5_1.length + ([IntKind.wrap .u8 x1_1]).length) * 1 ≤ 140737488355328 then some (l5_1 ++ [IntKind.wrap .u8 x1_1]) else none))
def codec_Short.f (k : Nat) (l0 : List Int) (a1 : Int) : Option ((List Int)) :=
  (if (([] : List Int).length + l0.length) * 1 ≤ 140737488355328 then (codec_groups.f k a1).bind fun t5 => codec_Short.lo1 k a1 (([] : List Int) ++ l0) (IntKind.wrap .i64 (t5 - (1 : Int))) else none)
set_option maxRecDepth 100000 in
set_option maxHeartbeats 4000000 in
theorem codec_Short.calls (k : Nat) (A0 : Option Addr) (c0 : Nat) (l0 : List Int) (a1 : Int) (r : (List Int)) (b : Bs) (hs0 : St b (stl []) b.w) (R0 : Ro b A0 (em (Ec.int 5 .u8) l0)) (C0 : l0.length ≤ c0) (H : codec_Short.f k l0 a1 = some r) :
    Calls Try.prog 60 #[.slice A0 l0.length c0, .int .u64 a1] b.w fun e w' => ∃ x : (Option Addr × Nat), e = .returned (.slice x.1 r.length x.2) ∧ St b (stl [Ck.sl (Ec.int 5 .u8) x.1 x.2 r]) w' := by
  unfold codec_Short.f at H
  refine enterb (n := 30) Try.func60 rfl (by kernel_rfl) (by kernel_rfl) hs0 ?_
  refine cs_sub (s0) (sub_nil _) ?_
  refine cs_seq ?_
  refine cs_region (l := [_]) ?_
  refine lv (.slice none 0 0) ?_
  refine ls_end ?_
  refine qn_then ?_
  refine cs_seq ?_
  refine cs_region (l := [_, _, _, _]) ?_
  refine ls_lit (Ec.int 5 .u8) 0 rfl rfl (by kernel_rfl) ([] : List Int) (by exact of_decide_eq_true (by kernel_rfl)) (fun w => by kernel_rfl) ?_
  intro g1
  refine lv (.slice A0 l0.length c0) ?_
  obtain ⟨q2, H⟩ := ite_need H
  refine ls_app (Ec.int 5 .u8) (A := (some ⟨g1, 0, none⟩)) (c := ([] : List Int).length) (B := A0) (cb := c0) (z := (Value.int .u8 0)) (l := ([] : List Int)) (m := l0) (bytes := 1) 0 rfl rfl (by kernel_rfl) rfl (by kernel_rfl) (by exact rfl) (by kernel_rfl) (fun w hs => (hs.old R0)) (by kernel_rfl) (by kernel_rfl) rfl (by decide) q2 ?_
  intro xA3 xc4
  refine lv (.slice xA3 (([] : List Int) ++ l0).length xc4) ?_
  refine ls_end ?_
  refine qn_then ?_
  refine cs_seq ?_
  refine cs_seq ?_
  refine cs_region (l := [_, _, _, _]) ?_
  refine lv (.int .u64 a1) ?_
  obtain ⟨t5, hc6, H⟩ := bind_some H
  refine ls_callb (fid := 88) (vals := #[.int .u64 a1]) (X := Unit) (fun x => .int .i64 t5) (fun x => stl []) [] [] [] [] 1 rfl rfl (by kernel_rfl) (fun w => by kernel_rfl) trivial trivial (by decide) (fun w hs hb => codec_groups.calls k a1 t5 (lent b w [] []) hb  hc6) ?_
  intro x7
  refine lv (.int .i64 (IntKind.wrap .i64 (t5 - (1 : Int)))) ?_
  refine lv (.int .i64 (IntKind.wrap .i64 (t5 - (1 : Int)))) ?_
  refine ls_end ?_
  refine qn_then ?_
  refine cs_block ?_
  refine cs_sub (sput s0 0 (some (Ck.sl (Ec.int 5 .u8) xA3 xc4 (([] : List Int) ++ l0)))) (sub_put (by exact rfl) (sub_nil _)) ?_
  refine cs_loop (fun kk f S => ∃ (fR : Fr) (x1_1 : Int) (A5_1 : Option Addr) (c5_1 : Nat) (l5_1 : List Int) (x6_1 : Int), f = upd (upd (upd fR 1 (.int .u64 x1_1)) 5 (.slice A5_1 l5_1.length c5_1)) 6 (.int .i64 x6_1) ∧ S = sput s0 0 (some (Ck.sl (Ec.int 5 .u8) A5_1 c5_1 l5_1)) ∧ codec_Short.lo1 kk x1_1 l5_1 x6_1 = some r) k ?_ ?_ ?_
  · exact ⟨_, a1, xA3, xc4, (([] : List Int) ++ l0), (IntKind.wrap .i64 (t5 - (1 : Int))), fr_next (fr_next (fr_next (rfl) (by kernel_rfl)) (by kernel_rfl)) (by kernel_rfl), rfl, H⟩
  · rintro f S ⟨fr1, x1_1, A5_1, c5_1, l5_1, x6_1, rfl, rfl, H⟩; cases H
  rintro k1 f S ⟨fr1, x1_1, A5_1, c5_1, l5_1, x6_1, rfl, rfl, H⟩
  replace H : ((if x6_1 > (0 : Int) then lt (bits .or .u8 (IntKind.wrap .u8 x1_1) (128 : Int)) fun y9 => (if (l5_1.length + ([y9]).length) * 1 ≤ 140737488355328 then (codec_Short.lo1 k1) (Int.fdiv x1_1 128) (l5_1 ++ [y9]) (IntKind.wrap .i64 (x6_1 - (1 : Int))) else none) else (if (l5_1.length + ([IntKind.wrap .u8 x1_1]).length) * 1 ≤ 140737488355328 then some (l5_1 ++ [IntKind.wrap .u8 x1_1]) else none))) = some r := H
  refine cs_seq ?_
  refine cs_seq ?_
  refine cs_region (l := [_, _]) ?_
  refine lv (.int .i64 x6_1) ?_
  refine lv (.bool (decide (x6_1 > (0 : Int)))) ?_
  refine ls_end ?_
  refine qn_then ?_
  by_cases q8 : x6_1 > (0 : Int)
  · replace H := ite_t q8 H
    refine cs_know (c := true) (dec_t q8) 14 (by kernel_rfl) ?_
    refine cs_true (by kernel_rfl) ?_
    refine cs_skip' ?_
    refine qn_then ?_
    refine cs_seq ?_
    refine cs_block ?_
    refine cs_seq ?_
    refine cs_region (l := [_, _, _, _, _, _, _]) ?_
    refine lv (.slice A5_1 l5_1.length c5_1) ?_
    refine lv (.int .u64 x1_1) ?_
    refine lv (.int .u8 (IntKind.wrap .u8 x1_1)) ?_
    obtain ⟨y9, hy10, H⟩ := lt_some H
    refine lv (.int .u8 (bits .or .u8 (IntKind.wrap .u8 x1_1) (128 : Int))) ?_
    refine ls_ren 20 (v := .int .u8 (bits .or .u8 (IntKind.wrap .u8 x1_1) (128 : Int))) (v' := .int .u8 y9) (by kernel_rfl) (by rw [hy10]) ?_
    refine ls_lit (Ec.int 5 .u8) 1 rfl rfl (by kernel_rfl) ([y9]) (by exact of_decide_eq_true (by kernel_rfl)) (fun w => by kernel_rfl) ?_
    intro g11
    obtain ⟨q12, H⟩ := ite_need H
    refine ls_app (Ec.int 5 .u8) (A := A5_1) (c := c5_1) (B := (some ⟨g11, 0, none⟩)) (cb := [y9].length) (z := (Value.int .u8 0)) (l := l5_1) (m := [y9]) (bytes := 1) 0 rfl rfl (by kernel_rfl) rfl (by kernel_rfl) (by exact rfl) (by kernel_rfl) (fun w hs => (hs.rd (k := 1) (by exact rfl))) (by kernel_rfl) (by kernel_rfl) rfl (by decide) q12 ?_
    intro xA13 xc14
    refine lv (.slice xA13 (l5_1 ++ [y9]).length xc14) ?_
    refine ls_end ?_
    refine qn_then ?_
    refine cs_region (l := [_, _, _]) ?_
    refine lv (.int .u64 x1_1) ?_
    refine lv (.int .u64 (Int.fdiv x1_1 128)) ?_
    refine lv (.int .u64 (Int.fdiv x1_1 128)) ?_
    refine ls_end ?_
    refine qn_block ?_
    refine qn_then ?_
    refine cs_region (l := [_, _, _]) ?_
    refine lv (.int .i64 x6_1) ?_
    refine lv (.int .i64 (IntKind.wrap .i64 (x6_1 - (1 : Int)))) ?_
    refine lv (.int .i64 (IntKind.wrap .i64 (x6_1 - (1 : Int)))) ?_
    refine ls_end ?_
    refine qn_again k1 (sput s0 0 (some (Ck.sl (Ec.int 5 .u8) xA13 xc14 (l5_1 ++ [y9])))) (Nat.le_refl _) ⟨_, (Int.fdiv x1_1 128), xA13, xc14, (l5_1 ++ [y9]), (IntKind.wrap .i64 (x6_1 - (1 : Int))), fr_next (fr_next (fr_next (rfl) (by kernel_rfl)) (by kernel_rfl)) (by kernel_rfl), rfl, H⟩ (sub_put (by exact rfl) (sub_nil _))
  replace H := ite_f q8 H
  refine cs_know (c := false) (dec_f q8) 14 (by kernel_rfl) ?_
  refine cs_false (by kernel_rfl) ?_
  refine cs_exit' ?_
  refine qx_then ?_
  refine qx_then ?_
  refine qx_same ?_
  refine qn_then ?_
  refine cs_seq ?_
  refine cs_region (l := [_, _, _, _, _, _]) ?_
  refine lv (.slice A5_1 l5_1.length c5_1) ?_
  refine lv (.int .u64 x1_1) ?_
  refine lv (.int .u8 (IntKind.wrap .u8 x1_1)) ?_
  refine ls_lit (Ec.int 5 .u8) 1 rfl rfl (by kernel_rfl) ([IntKind.wrap .u8 x1_1]) (by exact of_decide_eq_true (by kernel_rfl)) (fun w => by kernel_rfl) ?_
  intro g15
  obtain ⟨q16, H⟩ := ite_need H
  refine ls_app (Ec.int 5 .u8) (A := A5_1) (c := c5_1) (B := (some ⟨g15, 0, none⟩)) (cb := [IntKind.wrap .u8 x1_1].length) (z := (Value.int .u8 0)) (l := l5_1) (m := [IntKind.wrap .u8 x1_1]) (bytes := 1) 0 rfl rfl (by kernel_rfl) rfl (by kernel_rfl) (by exact rfl) (by kernel_rfl) (fun w hs => (hs.rd (k := 1) (by exact rfl))) (by kernel_rfl) (by kernel_rfl) rfl (by decide) q16 ?_
  intro xA17 xc18
  refine lv (.slice xA17 (l5_1 ++ [IntKind.wrap .u8 x1_1]).length xc18) ?_
  refine ls_end ?_
  refine qn_then ?_
  refine cs_ret' ?_
  obtain rfl := Option.some.inj H
  refine qr_res (rs := [_]) rfl (fun w' hs => ⟨[.slice xA17 (l5_1 ++ [IntKind.wrap .u8 x1_1]).length xc18], (res_tmp (by kernel_rfl) (.nil)), (xA17, xc18), rfl, hs.pick (ts := [0]) (cs := [Ck.sl (Ec.int 5 .u8) xA17 xc18 (l5_1 ++ [IntKind.wrap .u8 x1_1])]) ⟨by exact rfl, trivial⟩ (by decide)⟩)

/-! ### shadowbox/codec.Text: function 62 -/
def codec_Text.f (k : Nat) (l0 : List Int) (a1 : ByteArray) : Option ((List Int)) :=
  (codec_Short.f k l0 (IntKind.wrap .u64 (a1.size : Int))).bind fun t1 => (if t1.length + a1.size ≤ 140737488355328 then some (t1 ++ bl a1) else none)
set_option maxRecDepth 100000 in
set_option maxHeartbeats 4000000 in
theorem codec_Text.calls (k : Nat) (A0 : Option Addr) (c0 : Nat) (l0 : List Int) (a1 : ByteArray) (r : (List Int)) (b : Bs) (hs0 : St b (stl []) b.w) (R0 : Ro b A0 (em (Ec.int 5 .u8) l0)) (C0 : l0.length ≤ c0) (H : codec_Text.f k l0 a1 = some r) :
    Calls Try.prog 62 #[.slice A0 l0.length c0, .string a1] b.w fun e w' => ∃ x : (Option Addr × Nat), e = .returned (.slice x.1 r.length x.2) ∧ St b (stl [Ck.sl (Ec.int 5 .u8) x.1 x.2 r]) w' := by
  unfold codec_Text.f at H
  refine enterb (n := 12) Try.func62 rfl (by kernel_rfl) (by kernel_rfl) hs0 ?_
  refine cs_sub (s0) (sub_nil _) ?_
  refine cs_seq ?_
  refine cs_region (l := [_]) ?_
  refine lv (.slice none 0 0) ?_
  refine ls_end ?_
  refine qn_then ?_
  refine cs_seq ?_
  refine cs_region (l := [_, _, _, _, _, _, _, _]) ?_
  refine lv (.slice A0 l0.length c0) ?_
  refine lv (.string a1) ?_
  refine lv (.int .i64 (a1.size : Int)) ?_
  refine lv (.int .u64 (IntKind.wrap .u64 (a1.size : Int))) ?_
  obtain ⟨t1, hc2, H⟩ := bind_some H
  refine ls_callb (fid := 60) (vals := #[.slice A0 l0.length c0, .int .u64 (IntKind.wrap .u64 (a1.size : Int))]) (X := (Option Addr × Nat)) (fun x => .slice x.1 t1.length x.2) (fun x => stl [Ck.sl (Ec.int 5 .u8) x.1 x.2 t1]) [] [] [] [] 0 rfl rfl (by kernel_rfl) (fun w => by kernel_rfl) trivial trivial (by decide) (fun w hs hb => codec_Short.calls k A0 c0 l0 (IntKind.wrap .u64 (a1.size : Int)) t1 (lent b w [] []) hb (hs.ro R0 _ _) C0 hc2) ?_
  intro x3
  refine lv (.string a1) ?_
  obtain ⟨q4, H⟩ := ite_need H
  refine ls_apps (A := x3.1) (c := x3.2) (e := 5) (l := t1) (y := a1) 0 rfl rfl (by kernel_rfl) rfl (by kernel_rfl) (by exact rfl) (by kernel_rfl) (by kernel_rfl) (by kernel_rfl) (by kernel_rfl) q4 ?_
  intro xA5 xc6
  refine lv (.slice xA5 (t1 ++ bl a1).length xc6) ?_
  refine ls_end ?_
  refine qn_then ?_
  refine cs_ret' ?_
  obtain rfl := Option.some.inj H
  refine qr_res (rs := [_]) rfl (fun w' hs => ⟨[.slice xA5 (t1 ++ bl a1).length xc6], (res_tmp (by kernel_rfl) (.nil)), (xA5, xc6), rfl, hs.pick (ts := [0]) (cs := [Ck.sl (Ec.int 5 .u8) xA5 xc6 (t1 ++ bl a1)]) ⟨by exact rfl, trivial⟩ (by decide)⟩)

/-! ### shadowbox/record.shorts, specialized: function 74 -/
def record_shorts_sits4.f (k : Nat) (l0 : List Int) (e1_0 : Int) (e1_1 : Int) (e1_2 : Int) (e1_3 : Int) : Option ((List Int)) :=
  (codec_Short.f k l0 (IntKind.wrap .u64 e1_0)).bind fun t3 => (codec_Short.f k t3 (IntKind.wrap .u64 e1_1)).bind fun t8 => (codec_Short.f k t8 (IntKind.wrap .u64 e1_2)).bind fun t13 => (codec_Short.f k t13 (IntKind.wrap .u64 e1_3)).bind fun t18 => some t18
set_option maxRecDepth 100000 in
set_option maxHeartbeats 4000000 in
theorem record_shorts_sits4.calls (k : Nat) (A0 : Option Addr) (c0 : Nat) (l0 : List Int) (e1_0 : Int) (e1_1 : Int) (e1_2 : Int) (e1_3 : Int) (A1 : Option Addr) (c1 : Nat) (r : (List Int)) (b : Bs) (hs0 : St b (stl []) b.w) (R0 : Ro b A0 (em (Ec.int 5 .u8) l0)) (C0 : l0.length ≤ c0) (R1 : Ro b A1 (em (Ec.int 3 .i64) [e1_0, e1_1, e1_2, e1_3])) (C1 : [e1_0, e1_1, e1_2, e1_3].length ≤ c1) (H : record_shorts_sits4.f k l0 e1_0 e1_1 e1_2 e1_3 = some r) :
    Calls Try.prog 74 #[.slice A0 l0.length c0, .slice A1 [e1_0, e1_1, e1_2, e1_3].length c1] b.w fun e w' => ∃ x : (Option Addr × Nat), e = .returned (.slice x.1 r.length x.2) ∧ St b (stl [Ck.sl (Ec.int 5 .u8) x.1 x.2 r]) w' := by
  unfold record_shorts_sits4.f at H
  refine enterb (n := 19) Try.func74 rfl (by kernel_rfl) (by kernel_rfl) hs0 ?_
  refine cs_sub (s0) (sub_nil _) ?_
  refine cs_seq ?_
  refine cs_region (l := [_]) ?_
  refine lv (.slice none 0 0) ?_
  refine ls_end ?_
  refine qn_then ?_
  refine cs_seq ?_
  refine cs_seq ?_
  refine cs_region (l := [_, _, _]) ?_
  refine lv (.slice A1 [e1_0, e1_1, e1_2, e1_3].length c1) ?_
  refine lv (.int .i64 (4 : Int)) ?_
  refine lv (.int .i64 (0 : Int)) ?_
  refine ls_end ?_
  refine qn_then ?_
  refine cs_block ?_
  refine cs_rounds 5 ?_
  refine rs_succ ?_
  refine cs_seq ?_
  refine cs_region (l := [_]) ?_
  refine lv (.bool true) ?_
  refine ls_end ?_
  refine qn_then ?_
  refine cs_seq ?_
  refine cs_true (by kernel_rfl) ?_
  refine cs_skip' ?_
  refine qn_then ?_
  refine cs_seq ?_
  refine cs_block ?_
  refine cs_seq ?_
  refine cs_region (l := [_, _, _]) ?_
  obtain ⟨ad1, hA2⟩ := ido_at (T := (Ec.int 3 .i64)) (l := ([e1_0, e1_1, e1_2, e1_3])) (i := (0 : Int)) R1 (by decide) (show (0 : Int) < (([e1_0, e1_1, e1_2, e1_3]).length : Int) from of_decide_eq_true (by kernel_rfl))
  refine ls_idxv (Ec.int 3 .i64) (A := A1) (c := c1) (l := [e1_0, e1_1, e1_2, e1_3]) (k := .i64) (i := (0 : Int)) (z := 1) (ad := ad1) rfl rfl (by kernel_rfl) hA2 rfl (by kernel_rfl) (by kernel_rfl) (by kernel_rfl) (by kernel_rfl) (by decide) (show (0 : Int) < (([e1_0, e1_1, e1_2, e1_3]).length : Int) from of_decide_eq_true (by kernel_rfl)) ?_
  refine ls_load (a0 := (ad1.add (((0 : Int)).toNat * 1))) (v := .int .i64 e1_0) (de := (TypeDesc.int .i64)) rfl rfl (by kernel_rfl) rfl (by kernel_rfl) (by kernel_rfl) (by kernel_rfl) (fun w hs => (hs.old R1).at hA2 (em_sub (Ec.int 3 .i64) ([e1_0, e1_1, e1_2, e1_3]) (i := ((0 : Int)).toNat) (by have h0 : (0 : Int) ≤ (0 : Int) := (by decide); have h1 : (0 : Int) < (([e1_0, e1_1, e1_2, e1_3]).length : Int) := (show (0 : Int) < (([e1_0, e1_1, e1_2, e1_3]).length : Int) from of_decide_eq_true (by kernel_rfl)); omega))) ?_
  refine lv (.int .i64 e1_0) ?_
  refine ls_end ?_
  refine qn_then ?_
  refine cs_region (l := [_, _, _, _, _]) ?_
  refine lv (.slice A0 l0.length c0) ?_
  refine lv (.int .i64 e1_0) ?_
  refine lv (.int .u64 (IntKind.wrap .u64 e1_0)) ?_
  obtain ⟨t3, hc4, H⟩ := bind_some H
  refine ls_callb (fid := 60) (vals := #[.slice A0 l0.length c0, .int .u64 (IntKind.wrap .u64 e1_0)]) (X := (Option Addr × Nat)) (fun x => .slice x.1 t3.length x.2) (fun x => stl [Ck.sl (Ec.int 5 .u8) x.1 x.2 t3]) [] [] [] [] 0 rfl rfl (by kernel_rfl) (fun w => by kernel_rfl) trivial trivial (by decide) (fun w hs hb => codec_Short.calls k A0 c0 l0 (IntKind.wrap .u64 e1_0) t3 (lent b w [] []) hb (hs.ro R0 _ _) C0 hc4) ?_
  intro x5
  refine lv (.slice x5.1 t3.length x5.2) ?_
  refine ls_end ?_
  refine qn_block ?_
  refine qn_then ?_
  refine cs_region (l := [_, _]) ?_
  refine lv (.int .i64 (1 : Int)) ?_
  refine lv (.int .i64 (1 : Int)) ?_
  refine ls_end ?_
  refine qn_rounds ?_
  refine rs_succ ?_
  refine cs_seq ?_
  refine cs_region (l := [_]) ?_
  refine lv (.bool true) ?_
  refine ls_end ?_
  refine qn_then ?_
  refine cs_seq ?_
  refine cs_true (by kernel_rfl) ?_
  refine cs_skip' ?_
  refine qn_then ?_
  refine cs_seq ?_
  refine cs_block ?_
  refine cs_seq ?_
  refine cs_region (l := [_, _, _]) ?_
  obtain ⟨ad6, hA7⟩ := ido_at (T := (Ec.int 3 .i64)) (l := ([e1_0, e1_1, e1_2, e1_3])) (i := (1 : Int)) R1 (by decide) (show (1 : Int) < (([e1_0, e1_1, e1_2, e1_3]).length : Int) from of_decide_eq_true (by kernel_rfl))
  refine ls_idxv (Ec.int 3 .i64) (A := A1) (c := c1) (l := [e1_0, e1_1, e1_2, e1_3]) (k := .i64) (i := (1 : Int)) (z := 1) (ad := ad6) rfl rfl (by kernel_rfl) hA7 rfl (by kernel_rfl) (by kernel_rfl) (by kernel_rfl) (by kernel_rfl) (by decide) (show (1 : Int) < (([e1_0, e1_1, e1_2, e1_3]).length : Int) from of_decide_eq_true (by kernel_rfl)) ?_
  refine ls_load (a0 := (ad6.add (((1 : Int)).toNat * 1))) (v := .int .i64 e1_1) (de := (TypeDesc.int .i64)) rfl rfl (by kernel_rfl) rfl (by kernel_rfl) (by kernel_rfl) (by kernel_rfl) (fun w hs => (hs.old R1).at hA7 (em_sub (Ec.int 3 .i64) ([e1_0, e1_1, e1_2, e1_3]) (i := ((1 : Int)).toNat) (by have h0 : (0 : Int) ≤ (1 : Int) := (by decide); have h1 : (1 : Int) < (([e1_0, e1_1, e1_2, e1_3]).length : Int) := (show (1 : Int) < (([e1_0, e1_1, e1_2, e1_3]).length : Int) from of_decide_eq_true (by kernel_rfl)); omega))) ?_
  refine lv (.int .i64 e1_1) ?_
  refine ls_end ?_
  refine qn_then ?_
  refine cs_region (l := [_, _, _, _, _]) ?_
  refine lv (.slice x5.1 t3.length x5.2) ?_
  refine lv (.int .i64 e1_1) ?_
  refine lv (.int .u64 (IntKind.wrap .u64 e1_1)) ?_
  obtain ⟨t8, hc9, H⟩ := bind_some H
  refine ls_callb (fid := 60) (vals := #[.slice x5.1 t3.length x5.2, .int .u64 (IntKind.wrap .u64 e1_1)]) (X := (Option Addr × Nat)) (fun x => .slice x.1 t8.length x.2) (fun x => stl [Ck.sl (Ec.int 5 .u8) x.1 x.2 t8]) [] [0] [] [Ck.sl (Ec.int 5 .u8) x5.1 x5.2 t3] 1 rfl rfl (by kernel_rfl) (fun w => by kernel_rfl) trivial ⟨by exact rfl, trivial⟩ (by decide) (fun w hs hb => codec_Short.calls k x5.1 x5.2 t3 (IntKind.wrap .u64 e1_1) t8 (lent b w [] [Ck.sl (Ec.int 5 .u8) x5.1 x5.2 t3]) hb (hs.ror (k := 0) (by exact rfl) (.head _)) (hs.cap (k := 0) (by exact rfl)) hc9) ?_
  intro x10
  refine lv (.slice x10.1 t8.length x10.2) ?_
  refine ls_end ?_
  refine qn_block ?_
  refine qn_then ?_
  refine cs_region (l := [_, _]) ?_
  refine lv (.int .i64 (2 : Int)) ?_
  refine lv (.int .i64 (2 : Int)) ?_
  refine ls_end ?_
  refine qn_rounds ?_
  refine rs_succ ?_
  refine cs_seq ?_
  refine cs_region (l := [_]) ?_
  refine lv (.bool true) ?_
  refine ls_end ?_
  refine qn_then ?_
  refine cs_seq ?_
  refine cs_true (by kernel_rfl) ?_
  refine cs_skip' ?_
  refine qn_then ?_
  refine cs_seq ?_
  refine cs_block ?_
  refine cs_seq ?_
  refine cs_region (l := [_, _, _]) ?_
  obtain ⟨ad11, hA12⟩ := ido_at (T := (Ec.int 3 .i64)) (l := ([e1_0, e1_1, e1_2, e1_3])) (i := (2 : Int)) R1 (by decide) (show (2 : Int) < (([e1_0, e1_1, e1_2, e1_3]).length : Int) from of_decide_eq_true (by kernel_rfl))
  refine ls_idxv (Ec.int 3 .i64) (A := A1) (c := c1) (l := [e1_0, e1_1, e1_2, e1_3]) (k := .i64) (i := (2 : Int)) (z := 1) (ad := ad11) rfl rfl (by kernel_rfl) hA12 rfl (by kernel_rfl) (by kernel_rfl) (by kernel_rfl) (by kernel_rfl) (by decide) (show (2 : Int) < (([e1_0, e1_1, e1_2, e1_3]).length : Int) from of_decide_eq_true (by kernel_rfl)) ?_
  refine ls_load (a0 := (ad11.add (((2 : Int)).toNat * 1))) (v := .int .i64 e1_2) (de := (TypeDesc.int .i64)) rfl rfl (by kernel_rfl) rfl (by kernel_rfl) (by kernel_rfl) (by kernel_rfl) (fun w hs => (hs.old R1).at hA12 (em_sub (Ec.int 3 .i64) ([e1_0, e1_1, e1_2, e1_3]) (i := ((2 : Int)).toNat) (by have h0 : (0 : Int) ≤ (2 : Int) := (by decide); have h1 : (2 : Int) < (([e1_0, e1_1, e1_2, e1_3]).length : Int) := (show (2 : Int) < (([e1_0, e1_1, e1_2, e1_3]).length : Int) from of_decide_eq_true (by kernel_rfl)); omega))) ?_
  refine lv (.int .i64 e1_2) ?_
  refine ls_end ?_
  refine qn_then ?_
  refine cs_region (l := [_, _, _, _, _]) ?_
  refine lv (.slice x10.1 t8.length x10.2) ?_
  refine lv (.int .i64 e1_2) ?_
  refine lv (.int .u64 (IntKind.wrap .u64 e1_2)) ?_
  obtain ⟨t13, hc14, H⟩ := bind_some H
  refine ls_callb (fid := 60) (vals := #[.slice x10.1 t8.length x10.2, .int .u64 (IntKind.wrap .u64 e1_2)]) (X := (Option Addr × Nat)) (fun x => .slice x.1 t13.length x.2) (fun x => stl [Ck.sl (Ec.int 5 .u8) x.1 x.2 t13]) [] [1] [] [Ck.sl (Ec.int 5 .u8) x10.1 x10.2 t8] 2 rfl rfl (by kernel_rfl) (fun w => by kernel_rfl) trivial ⟨by exact rfl, trivial⟩ (by decide) (fun w hs hb => codec_Short.calls k x10.1 x10.2 t8 (IntKind.wrap .u64 e1_2) t13 (lent b w [] [Ck.sl (Ec.int 5 .u8) x10.1 x10.2 t8]) hb (hs.ror (k := 1) (by exact rfl) (.head _)) (hs.cap (k := 1) (by exact rfl)) hc14) ?_
  intro x15
  refine lv (.slice x15.1 t13.length x15.2) ?_
  refine ls_end ?_
  refine qn_block ?_
  refine qn_then ?_
  refine cs_region (l := [_, _]) ?_
  refine lv (.int .i64 (3 : Int)) ?_
  refine lv (.int .i64 (3 : Int)) ?_
  refine ls_end ?_
  refine qn_rounds ?_
  refine rs_succ ?_
  refine cs_seq ?_
  refine cs_region (l := [_]) ?_
  refine lv (.bool true) ?_
  refine ls_end ?_
  refine qn_then ?_
  refine cs_seq ?_
  refine cs_true (by kernel_rfl) ?_
  refine cs_skip' ?_
  refine qn_then ?_
  refine cs_seq ?_
  refine cs_block ?_
  refine cs_seq ?_
  refine cs_region (l := [_, _, _]) ?_
  obtain ⟨ad16, hA17⟩ := ido_at (T := (Ec.int 3 .i64)) (l := ([e1_0, e1_1, e1_2, e1_3])) (i := (3 : Int)) R1 (by decide) (show (3 : Int) < (([e1_0, e1_1, e1_2, e1_3]).length : Int) from of_decide_eq_true (by kernel_rfl))
  refine ls_idxv (Ec.int 3 .i64) (A := A1) (c := c1) (l := [e1_0, e1_1, e1_2, e1_3]) (k := .i64) (i := (3 : Int)) (z := 1) (ad := ad16) rfl rfl (by kernel_rfl) hA17 rfl (by kernel_rfl) (by kernel_rfl) (by kernel_rfl) (by kernel_rfl) (by decide) (show (3 : Int) < (([e1_0, e1_1, e1_2, e1_3]).length : Int) from of_decide_eq_true (by kernel_rfl)) ?_
  refine ls_load (a0 := (ad16.add (((3 : Int)).toNat * 1))) (v := .int .i64 e1_3) (de := (TypeDesc.int .i64)) rfl rfl (by kernel_rfl) rfl (by kernel_rfl) (by kernel_rfl) (by kernel_rfl) (fun w hs => (hs.old R1).at hA17 (em_sub (Ec.int 3 .i64) ([e1_0, e1_1, e1_2, e1_3]) (i := ((3 : Int)).toNat) (by have h0 : (0 : Int) ≤ (3 : Int) := (by decide); have h1 : (3 : Int) < (([e1_0, e1_1, e1_2, e1_3]).length : Int) := (show (3 : Int) < (([e1_0, e1_1, e1_2, e1_3]).length : Int) from of_decide_eq_true (by kernel_rfl)); omega))) ?_
  refine lv (.int .i64 e1_3) ?_
  refine ls_end ?_
  refine qn_then ?_
  refine cs_region (l := [_, _, _, _, _]) ?_
  refine lv (.slice x15.1 t13.length x15.2) ?_
  refine lv (.int .i64 e1_3) ?_
  refine lv (.int .u64 (IntKind.wrap .u64 e1_3)) ?_
  obtain ⟨t18, hc19, H⟩ := bind_some H
  refine ls_callb (fid := 60) (vals := #[.slice x15.1 t13.length x15.2, .int .u64 (IntKind.wrap .u64 e1_3)]) (X := (Option Addr × Nat)) (fun x => .slice x.1 t18.length x.2) (fun x => stl [Ck.sl (Ec.int 5 .u8) x.1 x.2 t18]) [] [2] [] [Ck.sl (Ec.int 5 .u8) x15.1 x15.2 t13] 3 rfl rfl (by kernel_rfl) (fun w => by kernel_rfl) trivial ⟨by exact rfl, trivial⟩ (by decide) (fun w hs hb => codec_Short.calls k x15.1 x15.2 t13 (IntKind.wrap .u64 e1_3) t18 (lent b w [] [Ck.sl (Ec.int 5 .u8) x15.1 x15.2 t13]) hb (hs.ror (k := 2) (by exact rfl) (.head _)) (hs.cap (k := 2) (by exact rfl)) hc19) ?_
  intro x20
  refine lv (.slice x20.1 t18.length x20.2) ?_
  refine ls_end ?_
  refine qn_block ?_
  refine qn_then ?_
  refine cs_region (l := [_, _]) ?_
  refine lv (.int .i64 (4 : Int)) ?_
  refine lv (.int .i64 (4 : Int)) ?_
  refine ls_end ?_
  refine qn_rounds ?_
  refine rs_succ ?_
  refine cs_seq ?_
  refine cs_region (l := [_]) ?_
  refine lv (.bool false) ?_
  refine ls_end ?_
  refine qn_then ?_
  refine cs_seq ?_
  refine cs_false (by kernel_rfl) ?_
  refine cs_exit' ?_
  refine qx_then ?_
  refine qx_then ?_
  refine qx_same ?_
  refine qn_then ?_
  refine cs_seq ?_
  refine cs_region (l := [_, _]) ?_
  refine lv (.slice x20.1 t18.length x20.2) ?_
  refine lv (.slice x20.1 t18.length x20.2) ?_
  refine ls_end ?_
  refine qn_then ?_
  refine cs_ret' ?_
  obtain rfl := Option.some.inj H
  refine qr_res (rs := [_]) rfl (fun w' hs => ⟨[.slice x20.1 t18.length x20.2], (res_tmp (by kernel_rfl) (.nil)), (x20.1, x20.2), rfl, hs.pick (ts := [3]) (cs := [Ck.sl (Ec.int 5 .u8) x20.1 x20.2 t18]) ⟨by exact rfl, trivial⟩ (by decide)⟩)

/-! ### shadowbox/record.texts, specialized: function 73 -/
def record_texts_sits2.f (k : Nat) (l0 : List Int) (e1_0 : ByteArray) (e1_1 : ByteArray) : Option ((List Int)) :=
  (codec_Text.f k l0 e1_0).bind fun t3 => (codec_Text.f k t3 e1_1).bind fun t8 => some t8
set_option maxRecDepth 100000 in
set_option maxHeartbeats 4000000 in
theorem record_texts_sits2.calls (k : Nat) (A0 : Option Addr) (c0 : Nat) (l0 : List Int) (e1_0 : ByteArray) (e1_1 : ByteArray) (A1 : Option Addr) (c1 : Nat) (r : (List Int)) (b : Bs) (hs0 : St b (stl []) b.w) (R0 : Ro b A0 (em (Ec.int 5 .u8) l0)) (C0 : l0.length ≤ c0) (R1 : Ro b A1 (em (Ec.str 9) [e1_0, e1_1])) (C1 : [e1_0, e1_1].length ≤ c1) (H : record_texts_sits2.f k l0 e1_0 e1_1 = some r) :
    Calls Try.prog 73 #[.slice A0 l0.length c0, .slice A1 [e1_0, e1_1].length c1] b.w fun e w' => ∃ x : (Option Addr × Nat), e = .returned (.slice x.1 r.length x.2) ∧ St b (stl [Ck.sl (Ec.int 5 .u8) x.1 x.2 r]) w' := by
  unfold record_texts_sits2.f at H
  refine enterb (n := 18) Try.func73 rfl (by kernel_rfl) (by kernel_rfl) hs0 ?_
  refine cs_sub (s0) (sub_nil _) ?_
  refine cs_seq ?_
  refine cs_region (l := [_]) ?_
  refine lv (.slice none 0 0) ?_
  refine ls_end ?_
  refine qn_then ?_
  refine cs_seq ?_
  refine cs_seq ?_
  refine cs_region (l := [_, _, _]) ?_
  refine lv (.slice A1 [e1_0, e1_1].length c1) ?_
  refine lv (.int .i64 (2 : Int)) ?_
  refine lv (.int .i64 (0 : Int)) ?_
  refine ls_end ?_
  refine qn_then ?_
  refine cs_block ?_
  refine cs_rounds 3 ?_
  refine rs_succ ?_
  refine cs_seq ?_
  refine cs_region (l := [_]) ?_
  refine lv (.bool true) ?_
  refine ls_end ?_
  refine qn_then ?_
  refine cs_seq ?_
  refine cs_true (by kernel_rfl) ?_
  refine cs_skip' ?_
  refine qn_then ?_
  refine cs_seq ?_
  refine cs_block ?_
  refine cs_seq ?_
  refine cs_region (l := [_, _, _]) ?_
  obtain ⟨ad1, hA2⟩ := ido_at (T := (Ec.str 9)) (l := ([e1_0, e1_1])) (i := (0 : Int)) R1 (by decide) (show (0 : Int) < (([e1_0, e1_1]).length : Int) from of_decide_eq_true (by kernel_rfl))
  refine ls_idxv (Ec.str 9) (A := A1) (c := c1) (l := [e1_0, e1_1]) (k := .i64) (i := (0 : Int)) (z := 1) (ad := ad1) rfl rfl (by kernel_rfl) hA2 rfl (by kernel_rfl) (by kernel_rfl) (by kernel_rfl) (by kernel_rfl) (by decide) (show (0 : Int) < (([e1_0, e1_1]).length : Int) from of_decide_eq_true (by kernel_rfl)) ?_
  refine ls_load (a0 := (ad1.add (((0 : Int)).toNat * 1))) (v := .string e1_0) (de := TypeDesc.string) rfl rfl (by kernel_rfl) rfl (by kernel_rfl) (by kernel_rfl) (by kernel_rfl) (fun w hs => (hs.old R1).at hA2 (em_sub (Ec.str 9) ([e1_0, e1_1]) (i := ((0 : Int)).toNat) (by have h0 : (0 : Int) ≤ (0 : Int) := (by decide); have h1 : (0 : Int) < (([e1_0, e1_1]).length : Int) := (show (0 : Int) < (([e1_0, e1_1]).length : Int) from of_decide_eq_true (by kernel_rfl)); omega))) ?_
  refine lv (.string e1_0) ?_
  refine ls_end ?_
  refine qn_then ?_
  refine cs_region (l := [_, _, _, _]) ?_
  refine lv (.slice A0 l0.length c0) ?_
  refine lv (.string e1_0) ?_
  obtain ⟨t3, hc4, H⟩ := bind_some H
  refine ls_callb (fid := 62) (vals := #[.slice A0 l0.length c0, .string e1_0]) (X := (Option Addr × Nat)) (fun x => .slice x.1 t3.length x.2) (fun x => stl [Ck.sl (Ec.int 5 .u8) x.1 x.2 t3]) [] [] [] [] 0 rfl rfl (by kernel_rfl) (fun w => by kernel_rfl) trivial trivial (by decide) (fun w hs hb => codec_Text.calls k A0 c0 l0 e1_0 t3 (lent b w [] []) hb (hs.ro R0 _ _) C0 hc4) ?_
  intro x5
  refine lv (.slice x5.1 t3.length x5.2) ?_
  refine ls_end ?_
  refine qn_block ?_
  refine qn_then ?_
  refine cs_region (l := [_, _]) ?_
  refine lv (.int .i64 (1 : Int)) ?_
  refine lv (.int .i64 (1 : Int)) ?_
  refine ls_end ?_
  refine qn_rounds ?_
  refine rs_succ ?_
  refine cs_seq ?_
  refine cs_region (l := [_]) ?_
  refine lv (.bool true) ?_
  refine ls_end ?_
  refine qn_then ?_
  refine cs_seq ?_
  refine cs_true (by kernel_rfl) ?_
  refine cs_skip' ?_
  refine qn_then ?_
  refine cs_seq ?_
  refine cs_block ?_
  refine cs_seq ?_
  refine cs_region (l := [_, _, _]) ?_
  obtain ⟨ad6, hA7⟩ := ido_at (T := (Ec.str 9)) (l := ([e1_0, e1_1])) (i := (1 : Int)) R1 (by decide) (show (1 : Int) < (([e1_0, e1_1]).length : Int) from of_decide_eq_true (by kernel_rfl))
  refine ls_idxv (Ec.str 9) (A := A1) (c := c1) (l := [e1_0, e1_1]) (k := .i64) (i := (1 : Int)) (z := 1) (ad := ad6) rfl rfl (by kernel_rfl) hA7 rfl (by kernel_rfl) (by kernel_rfl) (by kernel_rfl) (by kernel_rfl) (by decide) (show (1 : Int) < (([e1_0, e1_1]).length : Int) from of_decide_eq_true (by kernel_rfl)) ?_
  refine ls_load (a0 := (ad6.add (((1 : Int)).toNat * 1))) (v := .string e1_1) (de := TypeDesc.string) rfl rfl (by kernel_rfl) rfl (by kernel_rfl) (by kernel_rfl) (by kernel_rfl) (fun w hs => (hs.old R1).at hA7 (em_sub (Ec.str 9) ([e1_0, e1_1]) (i := ((1 : Int)).toNat) (by have h0 : (0 : Int) ≤ (1 : Int) := (by decide); have h1 : (1 : Int) < (([e1_0, e1_1]).length : Int) := (show (1 : Int) < (([e1_0, e1_1]).length : Int) from of_decide_eq_true (by kernel_rfl)); omega))) ?_
  refine lv (.string e1_1) ?_
  refine ls_end ?_
  refine qn_then ?_
  refine cs_region (l := [_, _, _, _]) ?_
  refine lv (.slice x5.1 t3.length x5.2) ?_
  refine lv (.string e1_1) ?_
  obtain ⟨t8, hc9, H⟩ := bind_some H
  refine ls_callb (fid := 62) (vals := #[.slice x5.1 t3.length x5.2, .string e1_1]) (X := (Option Addr × Nat)) (fun x => .slice x.1 t8.length x.2) (fun x => stl [Ck.sl (Ec.int 5 .u8) x.1 x.2 t8]) [] [0] [] [Ck.sl (Ec.int 5 .u8) x5.1 x5.2 t3] 1 rfl rfl (by kernel_rfl) (fun w => by kernel_rfl) trivial ⟨by exact rfl, trivial⟩ (by decide) (fun w hs hb => codec_Text.calls k x5.1 x5.2 t3 e1_1 t8 (lent b w [] [Ck.sl (Ec.int 5 .u8) x5.1 x5.2 t3]) hb (hs.ror (k := 0) (by exact rfl) (.head _)) (hs.cap (k := 0) (by exact rfl)) hc9) ?_
  intro x10
  refine lv (.slice x10.1 t8.length x10.2) ?_
  refine ls_end ?_
  refine qn_block ?_
  refine qn_then ?_
  refine cs_region (l := [_, _]) ?_
  refine lv (.int .i64 (2 : Int)) ?_
  refine lv (.int .i64 (2 : Int)) ?_
  refine ls_end ?_
  refine qn_rounds ?_
  refine rs_succ ?_
  refine cs_seq ?_
  refine cs_region (l := [_]) ?_
  refine lv (.bool false) ?_
  refine ls_end ?_
  refine qn_then ?_
  refine cs_seq ?_
  refine cs_false (by kernel_rfl) ?_
  refine cs_exit' ?_
  refine qx_then ?_
  refine qx_then ?_
  refine qx_same ?_
  refine qn_then ?_
  refine cs_seq ?_
  refine cs_region (l := [_, _]) ?_
  refine lv (.slice x10.1 t8.length x10.2) ?_
  refine lv (.slice x10.1 t8.length x10.2) ?_
  refine ls_end ?_
  refine qn_then ?_
  refine cs_ret' ?_
  obtain rfl := Option.some.inj H
  refine qr_res (rs := [_]) rfl (fun w' hs => ⟨[.slice x10.1 t8.length x10.2], (res_tmp (by kernel_rfl) (.nil)), (x10.1, x10.2), rfl, hs.pick (ts := [1]) (cs := [Ck.sl (Ec.int 5 .u8) x10.1 x10.2 t8]) ⟨by exact rfl, trivial⟩ (by decide)⟩)

/-! ### shadowbox/record.shorts, specialized: function 74 -/
def record_shorts_sits1.f (k : Nat) (l0 : List Int) (e1_0 : Int) : Option ((List Int)) :=
  (codec_Short.f k l0 (IntKind.wrap .u64 e1_0)).bind fun t3 => some t3
set_option maxRecDepth 100000 in
set_option maxHeartbeats 4000000 in
theorem record_shorts_sits1.calls (k : Nat) (A0 : Option Addr) (c0 : Nat) (l0 : List Int) (e1_0 : Int) (A1 : Option Addr) (c1 : Nat) (r : (List Int)) (b : Bs) (hs0 : St b (stl []) b.w) (R0 : Ro b A0 (em (Ec.int 5 .u8) l0)) (C0 : l0.length ≤ c0) (R1 : Ro b A1 (em (Ec.int 3 .i64) [e1_0])) (C1 : [e1_0].length ≤ c1) (H : record_shorts_sits1.f k l0 e1_0 = some r) :
    Calls Try.prog 74 #[.slice A0 l0.length c0, .slice A1 [e1_0].length c1] b.w fun e w' => ∃ x : (Option Addr × Nat), e = .returned (.slice x.1 r.length x.2) ∧ St b (stl [Ck.sl (Ec.int 5 .u8) x.1 x.2 r]) w' := by
  unfold record_shorts_sits1.f at H
  refine enterb (n := 19) Try.func74 rfl (by kernel_rfl) (by kernel_rfl) hs0 ?_
  refine cs_sub (s0) (sub_nil _) ?_
  refine cs_seq ?_
  refine cs_region (l := [_]) ?_
  refine lv (.slice none 0 0) ?_
  refine ls_end ?_
  refine qn_then ?_
  refine cs_seq ?_
  refine cs_seq ?_
  refine cs_region (l := [_, _, _]) ?_
  refine lv (.slice A1 [e1_0].length c1) ?_
  refine lv (.int .i64 (1 : Int)) ?_
  refine lv (.int .i64 (0 : Int)) ?_
  refine ls_end ?_
  refine qn_then ?_
  refine cs_block ?_
  refine cs_rounds 2 ?_
  refine rs_succ ?_
  refine cs_seq ?_
  refine cs_region (l := [_]) ?_
  refine lv (.bool true) ?_
  refine ls_end ?_
  refine qn_then ?_
  refine cs_seq ?_
  refine cs_true (by kernel_rfl) ?_
  refine cs_skip' ?_
  refine qn_then ?_
  refine cs_seq ?_
  refine cs_block ?_
  refine cs_seq ?_
  refine cs_region (l := [_, _, _]) ?_
  obtain ⟨ad1, hA2⟩ := ido_at (T := (Ec.int 3 .i64)) (l := ([e1_0])) (i := (0 : Int)) R1 (by decide) (show (0 : Int) < (([e1_0]).length : Int) from of_decide_eq_true (by kernel_rfl))
  refine ls_idxv (Ec.int 3 .i64) (A := A1) (c := c1) (l := [e1_0]) (k := .i64) (i := (0 : Int)) (z := 1) (ad := ad1) rfl rfl (by kernel_rfl) hA2 rfl (by kernel_rfl) (by kernel_rfl) (by kernel_rfl) (by kernel_rfl) (by decide) (show (0 : Int) < (([e1_0]).length : Int) from of_decide_eq_true (by kernel_rfl)) ?_
  refine ls_load (a0 := (ad1.add (((0 : Int)).toNat * 1))) (v := .int .i64 e1_0) (de := (TypeDesc.int .i64)) rfl rfl (by kernel_rfl) rfl (by kernel_rfl) (by kernel_rfl) (by kernel_rfl) (fun w hs => (hs.old R1).at hA2 (em_sub (Ec.int 3 .i64) ([e1_0]) (i := ((0 : Int)).toNat) (by have h0 : (0 : Int) ≤ (0 : Int) := (by decide); have h1 : (0 : Int) < (([e1_0]).length : Int) := (show (0 : Int) < (([e1_0]).length : Int) from of_decide_eq_true (by kernel_rfl)); omega))) ?_
  refine lv (.int .i64 e1_0) ?_
  refine ls_end ?_
  refine qn_then ?_
  refine cs_region (l := [_, _, _, _, _]) ?_
  refine lv (.slice A0 l0.length c0) ?_
  refine lv (.int .i64 e1_0) ?_
  refine lv (.int .u64 (IntKind.wrap .u64 e1_0)) ?_
  obtain ⟨t3, hc4, H⟩ := bind_some H
  refine ls_callb (fid := 60) (vals := #[.slice A0 l0.length c0, .int .u64 (IntKind.wrap .u64 e1_0)]) (X := (Option Addr × Nat)) (fun x => .slice x.1 t3.length x.2) (fun x => stl [Ck.sl (Ec.int 5 .u8) x.1 x.2 t3]) [] [] [] [] 0 rfl rfl (by kernel_rfl) (fun w => by kernel_rfl) trivial trivial (by decide) (fun w hs hb => codec_Short.calls k A0 c0 l0 (IntKind.wrap .u64 e1_0) t3 (lent b w [] []) hb (hs.ro R0 _ _) C0 hc4) ?_
  intro x5
  refine lv (.slice x5.1 t3.length x5.2) ?_
  refine ls_end ?_
  refine qn_block ?_
  refine qn_then ?_
  refine cs_region (l := [_, _]) ?_
  refine lv (.int .i64 (1 : Int)) ?_
  refine lv (.int .i64 (1 : Int)) ?_
  refine ls_end ?_
  refine qn_rounds ?_
  refine rs_succ ?_
  refine cs_seq ?_
  refine cs_region (l := [_]) ?_
  refine lv (.bool false) ?_
  refine ls_end ?_
  refine qn_then ?_
  refine cs_seq ?_
  refine cs_false (by kernel_rfl) ?_
  refine cs_exit' ?_
  refine qx_then ?_
  refine qx_then ?_
  refine qx_same ?_
  refine qn_then ?_
  refine cs_seq ?_
  refine cs_region (l := [_, _]) ?_
  refine lv (.slice x5.1 t3.length x5.2) ?_
  refine lv (.slice x5.1 t3.length x5.2) ?_
  refine ls_end ?_
  refine qn_then ?_
  refine cs_ret' ?_
  obtain rfl := Option.some.inj H
  refine qr_res (rs := [_]) rfl (fun w' hs => ⟨[.slice x5.1 t3.length x5.2], (res_tmp (by kernel_rfl) (.nil)), (x5.1, x5.2), rfl, hs.pick (ts := [0]) (cs := [Ck.sl (Ec.int 5 .u8) x5.1 x5.2 t3]) ⟨by exact rfl, trivial⟩ (by decide)⟩)

/-! ### (shadowbox/record.Version).bytes: function 41 -/
def record_Version_bytes.tab1 : List (List Nat) := [[], [0], [], [2], [], [4], [], [6], [0, 1, 2, 3, 4, 5, 6, 7], [0, 1, 2, 3, 4, 5, 6, 7, 8], [], [10], [], [12], [10, 11, 12, 13], [0, 1, 2, 3, 4, 5, 6, 7, 8, 9, 10, 11, 12, 13, 14], [0, 1, 2, 3, 4, 5, 6, 7, 8, 9, 10, 11, 12, 13, 14, 15]]
def record_Version_bytes.lo1 (a0 : (Int × Int × Int × Int × ByteArray × ByteArray × (List (ByteArray × ByteArray)))) : Nat → (List Int) → Int → Option ((List Int))
  | 0, _, _ => none
  | k1 + 1, l3_1, x31_1 => (if x31_1 < (a0.2.2.2.2.2.2.length : Int) then (if 0 ≤ x31_1 then lt (((a0.2.2.2.2.2.2).getD (x31_1).toNat (ByteArray.empty, ByteArray.empty)).1) fun y21 => lt (((a0.2.2.2.2.2.2).getD (x31_1).toNat (ByteArray.empty, ByteArray.empty)).2) fun y23 => (record_texts_sits2.f k1 l3_1 y21 y23).bind fun t26 => (record_Version_bytes.lo1 a0 k1) t26 (IntKind.wrap .i64 (x31_1 + (1 : Int))) else none) else some l3_1)
def record_Version_bytes.f (k : Nat) (a0 : (Int × Int × Int × Int × ByteArray × ByteArray × (List (ByteArray × ByteArray)))) : Option ((List Int)) :=
  (record_shorts_sits4.f k ([] : List Int) a0.1 a0.2.1 a0.2.2.1 a0.2.2.2.1).bind fun t5 => (record_texts_sits2.f k t5 a0.2.2.2.2.1 a0.2.2.2.2.2.1).bind fun t9 => (record_shorts_sits1.f k t9 (a0.2.2.2.2.2.2.length : Int)).bind fun t13 => record_Version_bytes.lo1 a0 k t13 (0 : Int)
set_option maxRecDepth 100000 in
set_option maxHeartbeats 4000000 in
theorem record_Version_bytes.calls (k : Nat) (A0_6 : Option Addr) (c0_6 : Nat) (a0 : (Int × Int × Int × Int × ByteArray × ByteArray × (List (ByteArray × ByteArray)))) (r : (List Int)) (b : Bs) (hs0 : St b (stl []) b.w) (R0_6 : Ro b A0_6 (em T67 a0.2.2.2.2.2.2)) (C0_6 : a0.2.2.2.2.2.2.length ≤ c0_6) (H : record_Version_bytes.f k a0 = some r) :
    Calls Try.prog 41 #[.agg ⟨([Value.int .i64 a0.1] ++ ([Value.int .i64 a0.2.1] ++ ([Value.int .i64 a0.2.2.1] ++ ([Value.int .i64 a0.2.2.2.1] ++ ([Value.string a0.2.2.2.2.1] ++ ([Value.string a0.2.2.2.2.2.1] ++ [Value.slice A0_6 a0.2.2.2.2.2.2.length c0_6]))))))⟩] b.w fun e w' => ∃ x : (Option Addr × Nat), e = .returned (.slice x.1 r.length x.2) ∧ St b (stl [Ck.ro (Ec.int 5 .u8) x.1 x.2 r]) w' := by
  unfold record_Version_bytes.f at H
  refine enterb (n := 44) Try.func41 rfl (by kernel_rfl) (by kernel_rfl) hs0 ?_
  refine cs_sub (s0) (sub_nil _) ?_
  refine cs_seq ?_
  refine cs_region (l := [_, _]) ?_
  refine ls_new rfl rfl (by kernel_rfl) 0 (fun g => .pointer (some ⟨g, 0, none⟩)) (.cells ⟨([Value.int .i64 a0.1] ++ ([Value.int .i64 a0.2.1] ++ ([Value.int .i64 a0.2.2.1] ++ ([Value.int .i64 a0.2.2.2.1] ++ ([Value.string a0.2.2.2.2.1] ++ ([Value.string a0.2.2.2.2.2.1] ++ [Value.slice A0_6 a0.2.2.2.2.2.2.length c0_6]))))))⟩ 51) (fun w => by kernel_rfl) ?_
  intro g1
  refine lv (.slice none 0 0) ?_
  refine ls_end ?_
  refine qn_then ?_
  refine cs_seq ?_
  obtain ⟨s3_0, hs3_0⟩ := exv (.pointer (some ⟨g1, (0 + 0), none⟩))
  refine have_opa record_Version_bytes.tab1 1 0 (fun sp => sp 0 = s3_0) (fun sp on hA hon => ?_) (fun ops3_0 => ?_)
  · refine ⟨fun o ho vs Rs f' S' w hp hf hx hS hR hs => ?_⟩
    obtain rfl := Option.some.inj ho
    exact opv (.pointer (some ⟨g1, (0 + 0), none⟩)) hA hs3_0 hon (fr_next (rfl) ((hx 1 (by kernel_rfl)).trans (by kernel_rfl : (_ : Value) = .pointer (some ⟨g1, 0, none⟩))))
  obtain ⟨s3_1, hs3_1⟩ := exv (.int .i64 a0.1)
  refine have_opa record_Version_bytes.tab1 1 1 (fun sp => sp 1 = s3_1 ∧ sp 0 = s3_0) (fun sp on hA hon => ?_) (fun ops3_1 => ?_)
  · refine ⟨fun o ho vs Rs f' S' w hp hf hx hS hR hs => ?_⟩
    obtain rfl := Option.some.inj ho
    obtain ⟨hv0, hR0⟩ := (spe hA.2 hs3_0 (hp 0 (by kernel_rfl)))
    rw [hA.1, hs3_1]
    refine wn hon ?_
    have hF := fr_next (rfl) ((hf 0 6 (by kernel_rfl) rfl).trans hv0)
    refine ls_fr hF ?_
    refine ls_load (a0 := ⟨g1, (0 + 0), none⟩) (v := .int .i64 a0.1) (de := (TypeDesc.int .i64)) rfl rfl (by kernel_rfl) rfl (by kernel_rfl) (by kernel_rfl) (by kernel_rfl) (fun w1 hs1 => cell_step hs1.below.bw (hs.var (k := 0) ((hS 0 (by kernel_rfl)).trans (by exact rfl)) (Sub4.trans (Sub4.all _) (Sub4.head _ _)))) ?_
    exact ls_fin s0 _ (congrArg (fun z => upd z 7 _) hF.symm) ⟨rfl, rfl⟩ (sub_nil _)
  obtain ⟨s3_2, hs3_2⟩ := exv (.pointer (some ⟨g1, (0 + 1), none⟩))
  refine have_opa record_Version_bytes.tab1 1 2 (fun sp => sp 2 = s3_2) (fun sp on hA hon => ?_) (fun ops3_2 => ?_)
  · refine ⟨fun o ho vs Rs f' S' w hp hf hx hS hR hs => ?_⟩
    obtain rfl := Option.some.inj ho
    exact opv (.pointer (some ⟨g1, (0 + 1), none⟩)) hA hs3_2 hon (fr_next (rfl) ((hx 1 (by kernel_rfl)).trans (by kernel_rfl : (_ : Value) = .pointer (some ⟨g1, 0, none⟩))))
  obtain ⟨s3_3, hs3_3⟩ := exv (.int .i64 a0.2.1)
  refine have_opa record_Version_bytes.tab1 1 3 (fun sp => sp 3 = s3_3 ∧ sp 2 = s3_2) (fun sp on hA hon => ?_) (fun ops3_3 => ?_)
  · refine ⟨fun o ho vs Rs f' S' w hp hf hx hS hR hs => ?_⟩
    obtain rfl := Option.some.inj ho
    obtain ⟨hv2, hR2⟩ := (spe hA.2 hs3_2 (hp 2 (by kernel_rfl)))
    rw [hA.1, hs3_3]
    refine wn hon ?_
    have hF := fr_next (rfl) ((hf 2 8 (by kernel_rfl) rfl).trans hv2)
    refine ls_fr hF ?_
    refine ls_load (a0 := ⟨g1, (0 + 1), none⟩) (v := .int .i64 a0.2.1) (de := (TypeDesc.int .i64)) rfl rfl (by kernel_rfl) rfl (by kernel_rfl) (by kernel_rfl) (by kernel_rfl) (fun w1 hs1 => cell_step hs1.below.bw (hs.var (k := 0) ((hS 0 (by kernel_rfl)).trans (by exact rfl)) (Sub4.trans (Sub4.all _) (Sub4.skip (n := 1) (len1 _) (Sub4.head _ _))))) ?_
    exact ls_fin s0 _ (congrArg (fun z => upd z 9 _) hF.symm) ⟨rfl, rfl⟩ (sub_nil _)
  obtain ⟨s3_4, hs3_4⟩ := exv (.pointer (some ⟨g1, (0 + 2), none⟩))
  refine have_opa record_Version_bytes.tab1 1 4 (fun sp => sp 4 = s3_4) (fun sp on hA hon => ?_) (fun ops3_4 => ?_)
  · refine ⟨fun o ho vs Rs f' S' w hp hf hx hS hR hs => ?_⟩
    obtain rfl := Option.some.inj ho
    exact opv (.pointer (some ⟨g1, (0 + 2), none⟩)) hA hs3_4 hon (fr_next (rfl) ((hx 1 (by kernel_rfl)).trans (by kernel_rfl : (_ : Value) = .pointer (some ⟨g1, 0, none⟩))))
  obtain ⟨s3_5, hs3_5⟩ := exv (.int .i64 a0.2.2.1)
  refine have_opa record_Version_bytes.tab1 1 5 (fun sp => sp 5 = s3_5 ∧ sp 4 = s3_4) (fun sp on hA hon => ?_) (fun ops3_5 => ?_)
  · refine ⟨fun o ho vs Rs f' S' w hp hf hx hS hR hs => ?_⟩
    obtain rfl := Option.some.inj ho
    obtain ⟨hv4, hR4⟩ := (spe hA.2 hs3_4 (hp 4 (by kernel_rfl)))
    rw [hA.1, hs3_5]
    refine wn hon ?_
    have hF := fr_next (rfl) ((hf 4 10 (by kernel_rfl) rfl).trans hv4)
    refine ls_fr hF ?_
    refine ls_load (a0 := ⟨g1, (0 + 2), none⟩) (v := .int .i64 a0.2.2.1) (de := (TypeDesc.int .i64)) rfl rfl (by kernel_rfl) rfl (by kernel_rfl) (by kernel_rfl) (by kernel_rfl) (fun w1 hs1 => cell_step hs1.below.bw (hs.var (k := 0) ((hS 0 (by kernel_rfl)).trans (by exact rfl)) (Sub4.trans (Sub4.all _) (Sub4.skip (n := 1) (len1 _) (Sub4.skip (n := 1) (len1 _) (Sub4.head _ _)))))) ?_
    exact ls_fin s0 _ (congrArg (fun z => upd z 11 _) hF.symm) ⟨rfl, rfl⟩ (sub_nil _)
  obtain ⟨s3_6, hs3_6⟩ := exv (.pointer (some ⟨g1, (0 + 3), none⟩))
  refine have_opa record_Version_bytes.tab1 1 6 (fun sp => sp 6 = s3_6) (fun sp on hA hon => ?_) (fun ops3_6 => ?_)
  · refine ⟨fun o ho vs Rs f' S' w hp hf hx hS hR hs => ?_⟩
    obtain rfl := Option.some.inj ho
    exact opv (.pointer (some ⟨g1, (0 + 3), none⟩)) hA hs3_6 hon (fr_next (rfl) ((hx 1 (by kernel_rfl)).trans (by kernel_rfl : (_ : Value) = .pointer (some ⟨g1, 0, none⟩))))
  obtain ⟨s3_7, hs3_7⟩ := exv (.int .i64 a0.2.2.2.1)
  refine have_opa record_Version_bytes.tab1 1 7 (fun sp => sp 7 = s3_7 ∧ sp 6 = s3_6) (fun sp on hA hon => ?_) (fun ops3_7 => ?_)
  · refine ⟨fun o ho vs Rs f' S' w hp hf hx hS hR hs => ?_⟩
    obtain rfl := Option.some.inj ho
    obtain ⟨hv6, hR6⟩ := (spe hA.2 hs3_6 (hp 6 (by kernel_rfl)))
    rw [hA.1, hs3_7]
    refine wn hon ?_
    have hF := fr_next (rfl) ((hf 6 12 (by kernel_rfl) rfl).trans hv6)
    refine ls_fr hF ?_
    refine ls_load (a0 := ⟨g1, (0 + 3), none⟩) (v := .int .i64 a0.2.2.2.1) (de := (TypeDesc.int .i64)) rfl rfl (by kernel_rfl) rfl (by kernel_rfl) (by kernel_rfl) (by kernel_rfl) (fun w1 hs1 => cell_step hs1.below.bw (hs.var (k := 0) ((hS 0 (by kernel_rfl)).trans (by exact rfl)) (Sub4.trans (Sub4.all _) (Sub4.skip (n := 1) (len1 _) (Sub4.skip (n := 1) (len1 _) (Sub4.skip (n := 1) (len1 _) (Sub4.head _ _))))))) ?_
    exact ls_fin s0 _ (congrArg (fun z => upd z 13 _) hF.symm) ⟨rfl, rfl⟩ (sub_nil _)
  obtain ⟨s3_8, hs3_8⟩ : ∃ z : Value → Sto → Prop, z = (fun v R => ∃ g4 : Nat, v = .slice (some ⟨g4, 0, none⟩) [a0.1, a0.2.1, a0.2.2.1, a0.2.2.2.1].length [a0.1, a0.2.1, a0.2.2.1, a0.2.2.2.1].length ∧ R = sput s0 0 (some (Ck.sl (Ec.int 3 .i64) (some ⟨g4, 0, none⟩) ([a0.1, a0.2.1, a0.2.2.1, a0.2.2.2.1].length) ([a0.1, a0.2.1, a0.2.2.1, a0.2.2.2.1])))) := ⟨_, rfl⟩
  refine have_opa record_Version_bytes.tab1 1 8 (fun sp => sp 8 = s3_8 ∧ sp 1 = s3_1 ∧ sp 3 = s3_3 ∧ sp 5 = s3_5 ∧ sp 7 = s3_7) (fun sp on hA hon => ?_) (fun ops3_8 => ?_)
  · refine ⟨fun o ho vs Rs f' S' w hp hf hx hS hR hs => ?_⟩
    obtain rfl := Option.some.inj ho
    obtain ⟨hv1, hR1⟩ := (spe hA.2.1 hs3_1 (hp 1 (by kernel_rfl)))
    obtain ⟨hv3, hR3⟩ := (spe hA.2.2.1 hs3_3 (hp 3 (by kernel_rfl)))
    obtain ⟨hv5, hR5⟩ := (spe hA.2.2.2.1 hs3_5 (hp 5 (by kernel_rfl)))
    obtain ⟨hv7, hR7⟩ := (spe hA.2.2.2.2 hs3_7 (hp 7 (by kernel_rfl)))
    rw [hA.1, hs3_8]
    refine wn hon ?_
    have hF := fr_next (fr_next (fr_next (fr_next (rfl) ((hf 1 7 (by kernel_rfl) rfl).trans hv1)) ((hf 3 9 (by kernel_rfl) rfl).trans hv3)) ((hf 5 11 (by kernel_rfl) rfl).trans hv5)) ((hf 7 13 (by kernel_rfl) rfl).trans hv7)
    refine ls_fr hF ?_
    refine ls_lit (Ec.int 3 .i64) 0 rfl rfl (by kernel_rfl) ([a0.1, a0.2.1, a0.2.2.1, a0.2.2.2.1]) (by exact of_decide_eq_true (by kernel_rfl)) (fun w => by kernel_rfl) ?_
    intro g4
    exact ls_fin (sput s0 0 (some (Ck.sl (Ec.int 3 .i64) (some ⟨g4, 0, none⟩) ([a0.1, a0.2.1, a0.2.2.1, a0.2.2.2.1].length) ([a0.1, a0.2.1, a0.2.2.1, a0.2.2.2.1])))) (.slice (some ⟨g4, 0, none⟩) [a0.1, a0.2.1, a0.2.2.1, a0.2.2.2.1].length [a0.1, a0.2.1, a0.2.2.1, a0.2.2.2.1].length) (congrArg (fun z => upd z 14 _) hF.symm) ⟨g4, rfl, rfl⟩ (sub_put (by exact rfl) (sub_nil _))
  obtain ⟨t5, hc6, H⟩ := bind_some H
  obtain ⟨s3_9, hs3_9⟩ : ∃ z : Value → Sto → Prop, z = (fun v R => ∃ x7 : (Option Addr × Nat), v = .slice x7.1 t5.length x7.2 ∧ R = stl [Ck.sl (Ec.int 5 .u8) x7.1 x7.2 t5]) := ⟨_, rfl⟩
  refine have_opa record_Version_bytes.tab1 1 9 (fun sp => sp 9 = s3_9 ∧ sp 8 = s3_8) (fun sp on hA hon => ?_) (fun ops3_9 => ?_)
  · refine ⟨fun o ho vs Rs f' S' w hp hf hx hS hR hs => ?_⟩
    obtain rfl := Option.some.inj ho
    obtain ⟨g4, hv8, hR8⟩ := (spe hA.2 hs3_8 (hp 8 (by kernel_rfl)))
    have hT8_0 := (hR 8 0 (by kernel_rfl) (by decide)).trans (congrFun hR8 0)
    rw [hA.1, hs3_9]
    refine wn hon ?_
    have hF := fr_next (rfl) ((hf 8 14 (by kernel_rfl) rfl).trans hv8)
    refine ls_fr hF ?_
    refine ls_call (fid := 74) (vals := #[.slice none ([] : List Int).length 0, .slice (some ⟨g4, 0, none⟩) ([a0.1, a0.2.1, a0.2.2.1, a0.2.2.2.1]).length [a0.1, a0.2.1, a0.2.2.1, a0.2.2.2.1].length]) (X := (Option Addr × Nat)) (fun x => .slice x.1 t5.length x.2) (fun x => stl [Ck.sl (Ec.int 5 .u8) x.1 x.2 t5]) 0 rfl rfl (by kernel_rfl) (fun w => by kernel_rfl) (fun w1 hs1 => record_shorts_sits4.calls k none 0 ([] : List Int) a0.1 a0.2.1 a0.2.2.1 a0.2.2.2.1 (some ⟨g4, 0, none⟩) ([a0.1, a0.2.1, a0.2.2.1, a0.2.2.2.1].length) t5 (bw w1) (St.refl w1) (Rd.ro (Rd.nil _ _)) (Nat.le_refl 0) (Rd.ro (Rd.step (hs.rd (k := 65) hT8_0) hs1.below.bw)) (hs.cap (k := 65) hT8_0) hc6) ?_
    intro x7
    exact ls_fin (stl [Ck.sl (Ec.int 5 .u8) x7.1 x7.2 t5]) (.slice x7.1 t5.length x7.2) (congrArg (fun z => upd z 15 _) hF.symm) ⟨x7, rfl, rfl⟩ (sub_join _)
  obtain ⟨s3_10, hs3_10⟩ := exv (.pointer (some ⟨g1, (0 + 4), none⟩))
  refine have_opa record_Version_bytes.tab1 1 10 (fun sp => sp 10 = s3_10) (fun sp on hA hon => ?_) (fun ops3_10 => ?_)
  · refine ⟨fun o ho vs Rs f' S' w hp hf hx hS hR hs => ?_⟩
    obtain rfl := Option.some.inj ho
    exact opv (.pointer (some ⟨g1, (0 + 4), none⟩)) hA hs3_10 hon (fr_next (rfl) ((hx 1 (by kernel_rfl)).trans (by kernel_rfl : (_ : Value) = .pointer (some ⟨g1, 0, none⟩))))
  obtain ⟨s3_11, hs3_11⟩ := exv (.string a0.2.2.2.2.1)
  refine have_opa record_Version_bytes.tab1 1 11 (fun sp => sp 11 = s3_11 ∧ sp 10 = s3_10) (fun sp on hA hon => ?_) (fun ops3_11 => ?_)
  · refine ⟨fun o ho vs Rs f' S' w hp hf hx hS hR hs => ?_⟩
    obtain rfl := Option.some.inj ho
    obtain ⟨hv10, hR10⟩ := (spe hA.2 hs3_10 (hp 10 (by kernel_rfl)))
    rw [hA.1, hs3_11]
    refine wn hon ?_
    have hF := fr_next (rfl) ((hf 10 16 (by kernel_rfl) rfl).trans hv10)
    refine ls_fr hF ?_
    refine ls_load (a0 := ⟨g1, (0 + 4), none⟩) (v := .string a0.2.2.2.2.1) (de := TypeDesc.string) rfl rfl (by kernel_rfl) rfl (by kernel_rfl) (by kernel_rfl) (by kernel_rfl) (fun w1 hs1 => cell_step hs1.below.bw (hs.var (k := 0) ((hS 0 (by kernel_rfl)).trans (by exact rfl)) (Sub4.trans (Sub4.all _) (Sub4.skip (n := 1) (len1 _) (Sub4.skip (n := 1) (len1 _) (Sub4.skip (n := 1) (len1 _) (Sub4.skip (n := 1) (len1 _) (Sub4.head _ _)))))))) ?_
    exact ls_fin s0 _ (congrArg (fun z => upd z 17 _) hF.symm) ⟨rfl, rfl⟩ (sub_nil _)
  obtain ⟨s3_12, hs3_12⟩ := exv (.pointer (some ⟨g1, (0 + 5), none⟩))
  refine have_opa record_Version_bytes.tab1 1 12 (fun sp => sp 12 = s3_12) (fun sp on hA hon => ?_) (fun ops3_12 => ?_)
  · refine ⟨fun o ho vs Rs f' S' w hp hf hx hS hR hs => ?_⟩
    obtain rfl := Option.some.inj ho
    exact opv (.pointer (some ⟨g1, (0 + 5), none⟩)) hA hs3_12 hon (fr_next (rfl) ((hx 1 (by kernel_rfl)).trans (by kernel_rfl : (_ : Value) = .pointer (some ⟨g1, 0, none⟩))))
  obtain ⟨s3_13, hs3_13⟩ := exv (.string a0.2.2.2.2.2.1)
  refine have_opa record_Version_bytes.tab1 1 13 (fun sp => sp 13 = s3_13 ∧ sp 12 = s3_12) (fun sp on hA hon => ?_) (fun ops3_13 => ?_)
  · refine ⟨fun o ho vs Rs f' S' w hp hf hx hS hR hs => ?_⟩
    obtain rfl := Option.some.inj ho
    obtain ⟨hv12, hR12⟩ := (spe hA.2 hs3_12 (hp 12 (by kernel_rfl)))
    rw [hA.1, hs3_13]
    refine wn hon ?_
    have hF := fr_next (rfl) ((hf 12 18 (by kernel_rfl) rfl).trans hv12)
    refine ls_fr hF ?_
    refine ls_load (a0 := ⟨g1, (0 + 5), none⟩) (v := .string a0.2.2.2.2.2.1) (de := TypeDesc.string) rfl rfl (by kernel_rfl) rfl (by kernel_rfl) (by kernel_rfl) (by kernel_rfl) (fun w1 hs1 => cell_step hs1.below.bw (hs.var (k := 0) ((hS 0 (by kernel_rfl)).trans (by exact rfl)) (Sub4.trans (Sub4.all _) (Sub4.skip (n := 1) (len1 _) (Sub4.skip (n := 1) (len1 _) (Sub4.skip (n := 1) (len1 _) (Sub4.skip (n := 1) (len1 _) (Sub4.skip (n := 1) (len1 _) (Sub4.head _ _))))))))) ?_
    exact ls_fin s0 _ (congrArg (fun z => upd z 19 _) hF.symm) ⟨rfl, rfl⟩ (sub_nil _)
  obtain ⟨s3_14, hs3_14⟩ : ∃ z : Value → Sto → Prop, z = (fun v R => ∃ g8 : Nat, v = .slice (some ⟨g8, 0, none⟩) [a0.2.2.2.2.1, a0.2.2.2.2.2.1].length [a0.2.2.2.2.1, a0.2.2.2.2.2.1].length ∧ R = sput s0 0 (some (Ck.sl (Ec.str 9) (some ⟨g8, 0, none⟩) ([a0.2.2.2.2.1, a0.2.2.2.2.2.1].length) ([a0.2.2.2.2.1, a0.2.2.2.2.2.1])))) := ⟨_, rfl⟩
  refine have_opa record_Version_bytes.tab1 1 14 (fun sp => sp 14 = s3_14 ∧ sp 11 = s3_11 ∧ sp 13 = s3_13) (fun sp on hA hon => ?_) (fun ops3_14 => ?_)
  · refine ⟨fun o ho vs Rs f' S' w hp hf hx hS hR hs => ?_⟩
    obtain rfl := Option.some.inj ho
    obtain ⟨hv11, hR11⟩ := (spe hA.2.1 hs3_11 (hp 11 (by kernel_rfl)))
    obtain ⟨hv13, hR13⟩ := (spe hA.2.2 hs3_13 (hp 13 (by kernel_rfl)))
    rw [hA.1, hs3_14]
    refine wn hon ?_
    have hF := fr_next (fr_next (rfl) ((hf 11 17 (by kernel_rfl) rfl).trans hv11)) ((hf 13 19 (by kernel_rfl) rfl).trans hv13)
    refine ls_fr hF ?_
    refine ls_lit (Ec.str 9) 0 rfl rfl (by kernel_rfl) ([a0.2.2.2.2.1, a0.2.2.2.2.2.1]) (by exact of_decide_eq_true (by kernel_rfl)) (fun w => by kernel_rfl) ?_
    intro g8
    exact ls_fin (sput s0 0 (some (Ck.sl (Ec.str 9) (some ⟨g8, 0, none⟩) ([a0.2.2.2.2.1, a0.2.2.2.2.2.1].length) ([a0.2.2.2.2.1, a0.2.2.2.2.2.1])))) (.slice (some ⟨g8, 0, none⟩) [a0.2.2.2.2.1, a0.2.2.2.2.2.1].length [a0.2.2.2.2.1, a0.2.2.2.2.2.1].length) (congrArg (fun z => upd z 20 _) hF.symm) ⟨g8, rfl, rfl⟩ (sub_put (by exact rfl) (sub_nil _))
  refine cs_draw record_Version_bytes.tab1 15 1 (spl [s3_0, s3_1, s3_2, s3_3, s3_4, s3_5, s3_6, s3_7, s3_8, s3_9, s3_10, s3_11, s3_12, s3_13, s3_14]) (onl [true, true, true, true, true, true, true, true, true, true, true, true, true, true, true]) (by kernel_rfl) (by kernel_rfl) (by kernel_rfl) (by kernel_rfl) (rs := [_, _]) rfl (by kernel_rfl) (by kernel_rfl) (all_snoc (all_snoc (all_snoc (all_snoc (all_snoc (all_snoc (all_snoc (all_snoc (all_snoc (all_snoc (all_snoc (all_snoc (all_snoc (all_snoc (all_snoc (all_nil) (ops3_0 _ _ rfl rfl)) (ops3_1 _ _ ⟨rfl, rfl⟩ rfl)) (ops3_2 _ _ rfl rfl)) (ops3_3 _ _ ⟨rfl, rfl⟩ rfl)) (ops3_4 _ _ rfl rfl)) (ops3_5 _ _ ⟨rfl, rfl⟩ rfl)) (ops3_6 _ _ rfl rfl)) (ops3_7 _ _ ⟨rfl, rfl⟩ rfl)) (ops3_8 _ _ ⟨rfl, rfl, rfl, rfl, rfl⟩ rfl)) (ops3_9 _ _ ⟨rfl, rfl⟩ rfl)) (ops3_10 _ _ rfl rfl)) (ops3_11 _ _ ⟨rfl, rfl⟩ rfl)) (ops3_12 _ _ rfl rfl)) (ops3_13 _ _ ⟨rfl, rfl⟩ rfl)) (ops3_14 _ _ ⟨rfl, rfl, rfl⟩ rfl)) ?_
  intro vs Rs f' S' hp hf hx hS hR
  obtain ⟨g4, hv8, hR8⟩ := (spe rfl hs3_8 (hp 8 (by kernel_rfl)))
  have hT8_0 := (hR 8 0 (by kernel_rfl) (by decide)).trans (congrFun hR8 0)
  obtain ⟨x7, hv9, hR9⟩ := (spe rfl hs3_9 (hp 9 (by kernel_rfl)))
  have hT9_0 := (hR 9 0 (by kernel_rfl) (by decide)).trans (congrFun hR9 0)
  obtain ⟨g8, hv14, hR14⟩ := (spe rfl hs3_14 (hp 14 (by kernel_rfl)))
  have hT14_0 := (hR 14 0 (by kernel_rfl) (by decide)).trans (congrFun hR14 0)
  refine ls_fr (F := upd (upd (upd f' 1 (.pointer (some ⟨g1, 0, none⟩))) 15 (.slice x7.1 t5.length x7.2)) 20 (.slice (some ⟨g8, 0, none⟩) [a0.2.2.2.2.1, a0.2.2.2.2.2.1].length [a0.2.2.2.2.1, a0.2.2.2.2.2.1].length)) (fr_next (fr_next (fr_next (rfl) ((hx 1 (by kernel_rfl)).trans (by kernel_rfl : (_ : Value) = .pointer (some ⟨g1, 0, none⟩)))) ((hf 9 15 (by kernel_rfl) rfl).trans hv9)) ((hf 14 20 (by kernel_rfl) rfl).trans hv14)) ?_
  refine ls_sub (sput (sput (sput s0 0 (some (Ck.var 51 g1 (([Value.int .i64 a0.1] ++ ([Value.int .i64 a0.2.1] ++ ([Value.int .i64 a0.2.2.1] ++ ([Value.int .i64 a0.2.2.2.1] ++ ([Value.string a0.2.2.2.2.1] ++ ([Value.string a0.2.2.2.2.2.1] ++ [Value.slice A0_6 a0.2.2.2.2.2.2.length c0_6])))))))))) 73 (some (Ck.sl (Ec.int 5 .u8) x7.1 x7.2 t5))) 113 (some (Ck.sl (Ec.str 9) (some ⟨g8, 0, none⟩) ([a0.2.2.2.2.1, a0.2.2.2.2.2.1].length) ([a0.2.2.2.2.1, a0.2.2.2.2.2.1])))) (sub_put (by exact hT14_0) (sub_put (by exact hT9_0) (sub_put ((hS 0 (by kernel_rfl)).trans (by exact rfl)) (sub_nil _)))) ?_
  obtain ⟨t9, hc10, H⟩ := bind_some H
  refine ls_callb (fid := 73) (vals := #[.slice x7.1 t5.length x7.2, .slice (some ⟨g8, 0, none⟩) ([a0.2.2.2.2.1, a0.2.2.2.2.2.1]).length [a0.2.2.2.2.1, a0.2.2.2.2.2.1].length]) (X := (Option Addr × Nat)) (fun x => .slice x.1 t9.length x.2) (fun x => stl [Ck.sl (Ec.int 5 .u8) x.1 x.2 t9]) [] [73, 113] [] [Ck.sl (Ec.int 5 .u8) x7.1 x7.2 t5, Ck.sl (Ec.str 9) (some ⟨g8, 0, none⟩) ([a0.2.2.2.2.1, a0.2.2.2.2.2.1].length) ([a0.2.2.2.2.1, a0.2.2.2.2.2.1])] 121 rfl rfl (by kernel_rfl) (fun w => by kernel_rfl) trivial ⟨by exact rfl, by exact rfl, trivial⟩ (by decide) (fun w hs hb => record_texts_sits2.calls k x7.1 x7.2 t5 a0.2.2.2.2.1 a0.2.2.2.2.2.1 (some ⟨g8, 0, none⟩) ([a0.2.2.2.2.1, a0.2.2.2.2.2.1].length) t9 (lent b w [] [Ck.sl (Ec.int 5 .u8) x7.1 x7.2 t5, Ck.sl (Ec.str 9) (some ⟨g8, 0, none⟩) ([a0.2.2.2.2.1, a0.2.2.2.2.2.1].length) ([a0.2.2.2.2.1, a0.2.2.2.2.2.1])]) hb (hs.ror (k := 73) (by exact rfl) (.head _)) (hs.cap (k := 73) (by exact rfl)) (hs.ror (k := 113) (by exact rfl) (.tail _ (.head _))) (hs.cap (k := 113) (by exact rfl)) hc10) ?_
  intro x11
  refine lv (.slice x11.1 t9.length x11.2) ?_
  refine ls_end ?_
  refine qn_then ?_
  refine cs_seq ?_
  refine cs_region (l := [_, _, _, _, _, _, _]) ?_
  refine lv (.slice x11.1 t9.length x11.2) ?_
  refine lv (.pointer (some ⟨g1, (0 + 6), none⟩)) ?_
  refine ls_load (a0 := ⟨g1, (0 + 6), none⟩) (v := .slice A0_6 a0.2.2.2.2.2.2.length c0_6) (de := (TypeDesc.slice 67)) rfl rfl (by kernel_rfl) rfl (by kernel_rfl) (by kernel_rfl) (by kernel_rfl) (fun w hs => (hs.var (k := 0) (by exact rfl) (Sub4.trans (Sub4.all _) (Sub4.skip (n := 1) (len1 _) (Sub4.skip (n := 1) (len1 _) (Sub4.skip (n := 1) (len1 _) (Sub4.skip (n := 1) (len1 _) (Sub4.skip (n := 1) (len1 _) (Sub4.skip (n := 1) (len1 _) (Sub4.all _)))))))))) ?_
  refine lv (.int .i64 (a0.2.2.2.2.2.2.length : Int)) ?_
  refine ls_lit (Ec.int 3 .i64) 122 rfl rfl (by kernel_rfl) ([(a0.2.2.2.2.2.2.length : Int)]) (by exact of_decide_eq_true (by kernel_rfl)) (fun w => by kernel_rfl) ?_
  intro g12
  obtain ⟨t13, hc14, H⟩ := bind_some H
  refine ls_callb (fid := 74) (vals := #[.slice x11.1 t9.length x11.2, .slice (some ⟨g12, 0, none⟩) ([(a0.2.2.2.2.2.2.length : Int)]).length [(a0.2.2.2.2.2.2.length : Int)].length]) (X := (Option Addr × Nat)) (fun x => .slice x.1 t13.length x.2) (fun x => stl [Ck.sl (Ec.int 5 .u8) x.1 x.2 t13]) [] [121, 122] [] [Ck.sl (Ec.int 5 .u8) x11.1 x11.2 t9, Ck.sl (Ec.int 3 .i64) (some ⟨g12, 0, none⟩) ([(a0.2.2.2.2.2.2.length : Int)].length) ([(a0.2.2.2.2.2.2.length : Int)])] 123 rfl rfl (by kernel_rfl) (fun w => by kernel_rfl) trivial ⟨by exact rfl, by exact rfl, trivial⟩ (by decide) (fun w hs hb => record_shorts_sits1.calls k x11.1 x11.2 t9 (a0.2.2.2.2.2.2.length : Int) (some ⟨g12, 0, none⟩) ([(a0.2.2.2.2.2.2.length : Int)].length) t13 (lent b w [] [Ck.sl (Ec.int 5 .u8) x11.1 x11.2 t9, Ck.sl (Ec.int 3 .i64) (some ⟨g12, 0, none⟩) ([(a0.2.2.2.2.2.2.length : Int)].length) ([(a0.2.2.2.2.2.2.length : Int)])]) hb (hs.ror (k := 121) (by exact rfl) (.head _)) (hs.cap (k := 121) (by exact rfl)) (hs.ror (k := 122) (by exact rfl) (.tail _ (.head _))) (hs.cap (k := 122) (by exact rfl)) hc14) ?_
  intro x15
  refine lv (.slice x15.1 t13.length x15.2) ?_
  refine ls_end ?_
  refine qn_then ?_
  refine cs_seq ?_
  refine cs_seq ?_
  refine cs_region (l := [_, _, _, _]) ?_
  refine lv (.pointer (some ⟨g1, (0 + 6), none⟩)) ?_
  refine ls_load (a0 := ⟨g1, (0 + 6), none⟩) (v := .slice A0_6 a0.2.2.2.2.2.2.length c0_6) (de := (TypeDesc.slice 67)) rfl rfl (by kernel_rfl) rfl (by kernel_rfl) (by kernel_rfl) (by kernel_rfl) (fun w hs => (hs.var (k := 0) (by exact rfl) (Sub4.trans (Sub4.all _) (Sub4.skip (n := 1) (len1 _) (Sub4.skip (n := 1) (len1 _) (Sub4.skip (n := 1) (len1 _) (Sub4.skip (n := 1) (len1 _) (Sub4.skip (n := 1) (len1 _) (Sub4.skip (n := 1) (len1 _) (Sub4.all _)))))))))) ?_
  refine lv (.int .i64 (a0.2.2.2.2.2.2.length : Int)) ?_
  refine lv (.int .i64 (0 : Int)) ?_
  refine ls_end ?_
  refine qn_then ?_
  refine cs_block ?_
  refine cs_toro (T := (Ec.int 5 .u8)) (A := x15.1) (c := x15.2) (l := t13) 123 124 (by exact rfl) ?_
  refine cs_sub (sput s0 124 (some (Ck.ro (Ec.int 5 .u8) x15.1 x15.2 t13))) (sub_put (by exact rfl) (sub_nil _)) ?_
  refine cs_loop (fun kk f S => ∃ (fR : Fr) (A3_1 : Option Addr) (c3_1 : Nat) (l3_1 : List Int) (x31_1 : Int), f = upd (upd (upd (upd fR 3 (.slice A3_1 l3_1.length c3_1)) 29 (.slice A0_6 a0.2.2.2.2.2.2.length c0_6)) 30 (.int .i64 (a0.2.2.2.2.2.2.length : Int))) 31 (.int .i64 x31_1) ∧ S = sput s0 124 (some (Ck.ro (Ec.int 5 .u8) A3_1 c3_1 l3_1)) ∧ record_Version_bytes.lo1 a0 kk l3_1 x31_1 = some r) k ?_ ?_ ?_
  · exact ⟨_, x15.1, x15.2, t13, (0 : Int), fr_next (fr_next (fr_next (fr_next (rfl) (by kernel_rfl)) (by kernel_rfl)) (by kernel_rfl)) (by kernel_rfl), rfl, H⟩
  · rintro f S ⟨fr1, A3_1, c3_1, l3_1, x31_1, rfl, rfl, H⟩; cases H
  rintro k1 f S ⟨fr1, A3_1, c3_1, l3_1, x31_1, rfl, rfl, H⟩
  replace H : ((if x31_1 < (a0.2.2.2.2.2.2.length : Int) then (if 0 ≤ x31_1 then lt (((a0.2.2.2.2.2.2).getD (x31_1).toNat (ByteArray.empty, ByteArray.empty)).1) fun y21 => lt (((a0.2.2.2.2.2.2).getD (x31_1).toNat (ByteArray.empty, ByteArray.empty)).2) fun y23 => (record_texts_sits2.f k1 l3_1 y21 y23).bind fun t26 => (record_Version_bytes.lo1 a0 k1) t26 (IntKind.wrap .i64 (x31_1 + (1 : Int))) else none) else some l3_1)) = some r := H
  refine cs_seq ?_
  refine cs_region (l := [_]) ?_
  refine lv (.bool (decide (x31_1 < (a0.2.2.2.2.2.2.length : Int)))) ?_
  refine ls_end ?_
  refine qn_then ?_
  refine cs_seq ?_
  by_cases q16 : x31_1 < (a0.2.2.2.2.2.2.length : Int)
  · replace H := ite_t q16 H
    refine cs_know (c := true) (dec_t q16) 32 (by kernel_rfl) ?_
    refine cs_true (by kernel_rfl) ?_
    refine cs_skip' ?_
    refine qn_then ?_
    refine cs_seq ?_
    refine cs_block ?_
    refine cs_seq ?_
    refine cs_region (l := [_, _, _, _]) ?_
    obtain ⟨q17, H⟩ := ite_need H
    obtain ⟨ad18, hA19⟩ := ido_at (T := T67) (l := a0.2.2.2.2.2.2) (i := x31_1) R0_6 q17 q16
    refine ls_idxv T67 (A := A0_6) (c := c0_6) (l := a0.2.2.2.2.2.2) (k := .i64) (i := x31_1) (z := 2) (ad := ad18) rfl rfl (by kernel_rfl) hA19 rfl (by kernel_rfl) (by kernel_rfl) (by kernel_rfl) (by kernel_rfl) q17 q16 ?_
    refine ls_loadagg (a := (ad18.add ((x31_1).toNat * 2))) (sub := ([Value.string (((a0.2.2.2.2.2.2).getD (x31_1).toNat (ByteArray.empty, ByteArray.empty)).1)] ++ [Value.string (((a0.2.2.2.2.2.2).getD (x31_1).toNat (ByteArray.empty, ByteArray.empty)).2)])) rfl rfl (by kernel_rfl) rfl (by kernel_rfl) (by kernel_rfl) (by kernel_rfl) (len_app (len1 _) (len1 _)) (fun w hs => (hs.old R0_6).part hA19 (em_sub T67 a0.2.2.2.2.2.2 (i := (x31_1).toNat) (by have h0 : (0 : Int) ≤ x31_1 := q17; have h1 : x31_1 < (a0.2.2.2.2.2.2.length : Int) := q16; omega))) ?_
    refine ls_new rfl rfl (by kernel_rfl) 125 (fun g => .pointer (some ⟨g, 0, none⟩)) (.cells ⟨([Value.string ByteArray.empty] ++ [Value.string ByteArray.empty])⟩ 67) (fun w => by kernel_rfl) ?_
    intro g20
    refine ls_storec (g := g20) (off := 0) (v := .agg ⟨([Value.string (((a0.2.2.2.2.2.2).getD (x31_1).toNat (ByteArray.empty, ByteArray.empty)).1)] ++ [Value.string (((a0.2.2.2.2.2.2).getD (x31_1).toNat (ByteArray.empty, ByteArray.empty)).2)])⟩) (vs := ([Value.string (((a0.2.2.2.2.2.2).getD (x31_1).toNat (ByteArray.empty, ByteArray.empty)).1)] ++ [Value.string (((a0.2.2.2.2.2.2).getD (x31_1).toNat (ByteArray.empty, ByteArray.empty)).2)])) (cs := ([Value.string ByteArray.empty] ++ [Value.string ByteArray.empty])) (ty := 67) 125 rfl rfl rfl (by kernel_rfl) (by kernel_rfl) (by kernel_rfl) (by exact rfl) (by kernel_rfl) (len_app (len1 _) (len1 _)) (one_app (one_cons rfl one_nil) (one_cons rfl one_nil)) (hl_of (Sub4.all _) (len_eq (len_app (len1 _) (len1 _)) (len_app (len1 _) (len1 _)))) (cs' := ([Value.string (((a0.2.2.2.2.2.2).getD (x31_1).toNat (ByteArray.empty, ByteArray.empty)).1)] ++ [Value.string (((a0.2.2.2.2.2.2).getD (x31_1).toNat (ByteArray.empty, ByteArray.empty)).2)])) (splc_all (len_eq (len_app (len1 _) (len1 _)) (len_app (len1 _) (len1 _)))) ?_
    refine ls_end ?_
    refine qn_then ?_
    refine cs_region (l := [_, _, _, _, _, _, _, _]) ?_
    refine lv (.slice A3_1 l3_1.length c3_1) ?_
    refine lv (.pointer (some ⟨g20, (0 + 0), none⟩)) ?_
    obtain ⟨y21, hy22, H⟩ := lt_some H
    refine ls_load (a0 := ⟨g20, (0 + 0), none⟩) (v := .string (((a0.2.2.2.2.2.2).getD (x31_1).toNat (ByteArray.empty, ByteArray.empty)).1)) (de := TypeDesc.string) rfl rfl (by kernel_rfl) rfl (by kernel_rfl) (by kernel_rfl) (by kernel_rfl) (fun w hs => (hs.var (k := 125) (by exact rfl) (Sub4.trans (Sub4.all _) (Sub4.head _ _)))) ?_
    refine ls_ren 37 (v := .string (((a0.2.2.2.2.2.2).getD (x31_1).toNat (ByteArray.empty, ByteArray.empty)).1)) (v' := .string y21) (by kernel_rfl) (by rw [hy22]) ?_
    refine lv (.pointer (some ⟨g20, (0 + 1), none⟩)) ?_
    obtain ⟨y23, hy24, H⟩ := lt_some H
    refine ls_load (a0 := ⟨g20, (0 + 1), none⟩) (v := .string (((a0.2.2.2.2.2.2).getD (x31_1).toNat (ByteArray.empty, ByteArray.empty)).2)) (de := TypeDesc.string) rfl rfl (by kernel_rfl) rfl (by kernel_rfl) (by kernel_rfl) (by kernel_rfl) (fun w hs => (hs.var (k := 125) (by exact rfl) (Sub4.trans (Sub4.all _) (Sub4.skip (n := 1) (len1 _) (Sub4.all _))))) ?_
    refine ls_ren 39 (v := .string (((a0.2.2.2.2.2.2).getD (x31_1).toNat (ByteArray.empty, ByteArray.empty)).2)) (v' := .string y23) (by kernel_rfl) (by rw [hy24]) ?_
    refine ls_lit (Ec.str 9) 126 rfl rfl (by kernel_rfl) ([y21, y23]) (by exact of_decide_eq_true (by kernel_rfl)) (fun w => by kernel_rfl) ?_
    intro g25
    obtain ⟨t26, hc27, H⟩ := bind_some H
    refine ls_callb (fid := 73) (vals := #[.slice A3_1 l3_1.length c3_1, .slice (some ⟨g25, 0, none⟩) ([y21, y23]).length [y21, y23].length]) (X := (Option Addr × Nat)) (fun x => .slice x.1 t26.length x.2) (fun x => stl [Ck.sl (Ec.int 5 .u8) x.1 x.2 t26]) [] [124, 126] [] [Ck.ro (Ec.int 5 .u8) A3_1 c3_1 l3_1, Ck.sl (Ec.str 9) (some ⟨g25, 0, none⟩) ([y21, y23].length) ([y21, y23])] 127 rfl rfl (by kernel_rfl) (fun w => by kernel_rfl) trivial ⟨by exact rfl, by exact rfl, trivial⟩ (by decide) (fun w hs hb => record_texts_sits2.calls k1 A3_1 c3_1 l3_1 y21 y23 (some ⟨g25, 0, none⟩) ([y21, y23].length) t26 (lent b w [] [Ck.ro (Ec.int 5 .u8) A3_1 c3_1 l3_1, Ck.sl (Ec.str 9) (some ⟨g25, 0, none⟩) ([y21, y23].length) ([y21, y23])]) hb (hs.roror (k := 124) (by exact rfl) (.head _)) (hs.rocap (k := 124) (by exact rfl)) (hs.ror (k := 126) (by exact rfl) (.tail _ (.head _))) (hs.cap (k := 126) (by exact rfl)) hc27) ?_
    intro x28
    refine lv (.slice x28.1 t26.length x28.2) ?_
    refine ls_end ?_
    refine qn_block ?_
    refine qn_then ?_
    refine cs_region (l := [_, _]) ?_
    refine lv (.int .i64 (IntKind.wrap .i64 (x31_1 + (1 : Int)))) ?_
    refine lv (.int .i64 (IntKind.wrap .i64 (x31_1 + (1 : Int)))) ?_
    refine ls_end ?_
    refine qn_toro (T := (Ec.int 5 .u8)) (A := x28.1) (c := x28.2) (l := t26) 127 124 (by exact rfl) ?_
    refine qn_again k1 (sput s0 124 (some (Ck.ro (Ec.int 5 .u8) x28.1 x28.2 t26))) (Nat.le_refl _) ⟨_, x28.1, x28.2, t26, (IntKind.wrap .i64 (x31_1 + (1 : Int))), fr_next (fr_next (fr_next (fr_next (rfl) (by kernel_rfl)) (by kernel_rfl)) (by kernel_rfl)) (by kernel_rfl), rfl, H⟩ (sub_put (by exact rfl) (sub_nil _))
  replace H := ite_f q16 H
  refine cs_know (c := false) (dec_f q16) 32 (by kernel_rfl) ?_
  refine cs_false (by kernel_rfl) ?_
  refine cs_exit' ?_
  refine qx_then ?_
  refine qx_then ?_
  refine qx_same ?_
  refine qn_then ?_
  refine cs_seq ?_
  refine cs_region (l := [_, _]) ?_
  refine lv (.slice A3_1 l3_1.length c3_1) ?_
  refine lv (.slice A3_1 l3_1.length c3_1) ?_
  refine ls_end ?_
  refine qn_then ?_
  refine cs_ret' ?_
  obtain rfl := Option.some.inj H
  refine qr_res (rs := [_]) rfl (fun w' hs => ⟨[.slice A3_1 l3_1.length c3_1], (res_tmp (by kernel_rfl) (.nil)), (A3_1, c3_1), rfl, hs.pick (ts := [124]) (cs := [Ck.ro (Ec.int 5 .u8) A3_1 c3_1 l3_1]) ⟨by exact rfl, trivial⟩ (by decide)⟩)

/-! ### shadowbox/record.within: function 47 -/
def record_within.f (k : Nat) (a0 : Int) (a1 : Int) (a2 : Int) : Option (Bool) :=
  (if a0 ≥ a1 then some (decide (a0 ≤ a2)) else some false)
set_option maxRecDepth 100000 in
set_option maxHeartbeats 4000000 in
theorem record_within.calls (k : Nat) (a0 : Int) (a1 : Int) (a2 : Int) (r : Bool) (b : Bs) (hs0 : St b (stl []) b.w) (H : record_within.f k a0 a1 a2 = some r) :
    Calls Try.prog 47 #[.int .i64 a0, .int .i64 a1, .int .i64 a2] b.w fun e w' => ∃ x : Unit, e = .returned (.bool r) ∧ St b (stl []) w' := by
  unfold record_within.f at H
  refine enterb (n := 15) Try.func47 rfl (by kernel_rfl) (by kernel_rfl) hs0 ?_
  refine cs_sub (s0) (sub_nil _) ?_
  refine cs_seq ?_
  refine cs_region (l := [_]) ?_
  refine lv (.bool false) ?_
  refine ls_end ?_
  refine qn_then ?_
  refine cs_seq ?_
  refine cs_region (l := [_, _, _, _, _, _, _, _, _]) ?_
  refine lv (.int .i64 a0) ?_
  refine lv (.int .i64 a1) ?_
  refine lv (.bool (decide (a0 ≥ a1))) ?_
  refine lv (.bool (decide (a0 ≥ a1))) ?_
  by_cases q1 : a0 ≥ a1
  · replace H := ite_t q1 H
    refine ls_know (c := true) (dec_t q1) 10 (by kernel_rfl) ?_
    refine ls_on (j := 3) (t := 10) (b := true) rfl rfl (by kernel_rfl) (by kernel_rfl) ?_
    refine lv (.int .i64 a0) ?_
    refine ls_on (j := 3) (t := 10) (b := true) rfl rfl (by kernel_rfl) (by kernel_rfl) ?_
    refine lv (.int .i64 a2) ?_
    refine ls_on (j := 3) (t := 10) (b := true) rfl rfl (by kernel_rfl) (by kernel_rfl) ?_
    refine lv (.bool (decide (a0 ≤ a2))) ?_
    refine lv (.bool (decide (a0 ≤ a2))) ?_
    refine lv (.bool (decide (a0 ≤ a2))) ?_
    refine ls_end ?_
    refine qn_then ?_
    refine cs_ret' ?_
    obtain rfl := Option.some.inj H
    refine qr_res (rs := [_]) rfl (fun w' hs => ⟨[.bool (decide (a0 ≤ a2))], (res_tmp (by kernel_rfl) (.nil)), (), rfl, hs.pick (ts := []) (cs := []) trivial (by decide)⟩)
  replace H := ite_f q1 H
  refine ls_know (c := false) (dec_f q1) 10 (by kernel_rfl) ?_
  refine lofx 3 10 true false ?_
  refine lofx 3 10 true false ?_
  refine lofx 3 10 true false ?_
  refine lv (.bool false) ?_
  refine lv (.bool false) ?_
  refine ls_end ?_
  refine qn_then ?_
  refine cs_ret' ?_
  obtain rfl := Option.some.inj H
  refine qr_res (rs := [_]) rfl (fun w' hs => ⟨[.bool false], (res_tmp (by kernel_rfl) (.nil)), (), rfl, hs.pick (ts := []) (cs := []) trivial (by decide)⟩)

/-! ### shadowbox/header.Value: function 79 -/
def header_Value.lo1 (a0 : ByteArray) : Nat → Int → Option (Bool)
  | 0, _ => none
  | k1 + 1, x7_1 => (if x7_1 < (a0.size : Int) then (if 0 ≤ x7_1 then (if (bt a0 x7_1) = (9 : Int) then (header_Value.lo1 a0 k1) (IntKind.wrap .i64 (x7_1 + (1 : Int))) else (if (bt a0 x7_1) < (32 : Int) then some false else (if (bt a0 x7_1) = (127 : Int) then some false else (header_Value.lo1 a0 k1) (IntKind.wrap .i64 (x7_1 + (1 : Int)))))) else none) else some true)
def header_Value.f (k : Nat) (a0 : ByteArray) : Option (Bool) :=
  header_Value.lo1 a0 k (0 : Int)
set_option maxRecDepth 100000 in
set_option maxHeartbeats 4000000 in
theorem header_Value.calls (k : Nat) (a0 : ByteArray) (r : Bool) (b : Bs) (hs0 : St b (stl []) b.w) (H : header_Value.f k a0 = some r) :
    Calls Try.prog 79 #[.string a0] b.w fun e w' => ∃ x : Unit, e = .returned (.bool r) ∧ St b (stl []) w' := by
  unfold header_Value.f at H
  refine enterb (n := 24) Try.func79 rfl (by kernel_rfl) (by kernel_rfl) hs0 ?_
  refine cs_sub (s0) (sub_nil _) ?_
  refine cs_seq ?_
  refine cs_region (l := [_]) ?_
  refine lv (.bool false) ?_
  refine ls_end ?_
  refine qn_then ?_
  refine cs_seq ?_
  refine cs_seq ?_
  refine cs_region (l := [_, _, _]) ?_
  refine lv (.string a0) ?_
  refine lv (.int .i64 (a0.size : Int)) ?_
  refine lv (.int .i64 (0 : Int)) ?_
  refine ls_end ?_
  refine qn_then ?_
  refine cs_block ?_
  refine cs_sub (s0) (sub_nil _) ?_
  refine cs_loop (fun kk f S => ∃ (fR : Fr) (x7_1 : Int), f = upd (upd (upd fR 0 (.string a0)) 6 (.int .i64 (a0.size : Int))) 7 (.int .i64 x7_1) ∧ S = s0 ∧ header_Value.lo1 a0 kk x7_1 = some r) k ?_ ?_ ?_
  · exact ⟨_, (0 : Int), fr_next (fr_next (fr_next (rfl) (by kernel_rfl)) (by kernel_rfl)) (by kernel_rfl), rfl, H⟩
  · rintro f S ⟨fr1, x7_1, rfl, rfl, H⟩; cases H
  rintro k1 f S ⟨fr1, x7_1, rfl, rfl, H⟩
  replace H : ((if x7_1 < (a0.size : Int) then (if 0 ≤ x7_1 then (if (bt a0 x7_1) = (9 : Int) then (header_Value.lo1 a0 k1) (IntKind.wrap .i64 (x7_1 + (1 : Int))) else (if (bt a0 x7_1) < (32 : Int) then some false else (if (bt a0 x7_1) = (127 : Int) then some false else (header_Value.lo1 a0 k1) (IntKind.wrap .i64 (x7_1 + (1 : Int)))))) else none) else some true)) = some r := H
  refine cs_seq ?_
  refine cs_region (l := [_]) ?_
  refine lv (.bool (decide (x7_1 < (a0.size : Int)))) ?_
  refine ls_end ?_
  refine qn_then ?_
  refine cs_seq ?_
  by_cases q1 : x7_1 < (a0.size : Int)
  · replace H := ite_t q1 H
    refine cs_know (c := true) (dec_t q1) 8 (by kernel_rfl) ?_
    refine cs_true (by kernel_rfl) ?_
    refine cs_skip' ?_
    refine qn_then ?_
    refine cs_seq ?_
    refine cs_block ?_
    refine cs_seq ?_
    refine cs_region (l := [_, _]) ?_
    refine lv (.int .i64 x7_1) ?_
    refine lv (.int .i64 x7_1) ?_
    refine ls_end ?_
    refine qn_then ?_
    refine cs_seq ?_
    refine cs_region (l := [_, _, _, _]) ?_
    refine lv (.string a0) ?_
    refine lv (.int .i64 x7_1) ?_
    obtain ⟨q2, H⟩ := ite_need H
    refine ls_sidx (s := a0) (k := .i64) (i := x7_1) rfl rfl (by kernel_rfl) rfl (by kernel_rfl) (by kernel_rfl) (by kernel_rfl) q2 q1 ?_
    refine lv (.int .u8 (bt a0 x7_1)) ?_
    refine ls_end ?_
    refine qn_then ?_
    refine cs_seq ?_
    refine cs_region (l := [_, _, _, _, _, _, _, _, _, _]) ?_
    refine lv (.int .u8 (bt a0 x7_1)) ?_
    refine lv (.bool (!decide ((bt a0 x7_1) = (9 : Int)))) ?_
    refine lv (.bool (!decide ((bt a0 x7_1) = (9 : Int)))) ?_
    by_cases q3 : (bt a0 x7_1) = (9 : Int)
    · replace H := ite_t q3 H
      refine ls_know (c := false) (congrArg Bool.not (dec_t q3)) 15 (by kernel_rfl) ?_
      refine lofx 2 15 true false ?_
      refine lofx 2 15 true false ?_
      refine lofx 2 15 true false ?_
      refine ls_offu (j := 5) (t := 18) (b := false) rfl rfl (by kernel_rfl) (by kernel_rfl) rfl (by kernel_rfl) ?_
      refine ls_offu (j := 5) (t := 18) (b := false) rfl rfl (by kernel_rfl) (by kernel_rfl) rfl (by kernel_rfl) ?_
      refine lofx 2 15 true false ?_
      refine lv (.bool false) ?_
      refine ls_end ?_
      refine qn_then ?_
      refine cs_false (by kernel_rfl) ?_
      refine cs_skip' ?_
      refine qn_block ?_
      refine qn_then ?_
      refine cs_region (l := [_, _]) ?_
      refine lv (.int .i64 (IntKind.wrap .i64 (x7_1 + (1 : Int)))) ?_
      refine lv (.int .i64 (IntKind.wrap .i64 (x7_1 + (1 : Int)))) ?_
      refine ls_end ?_
      refine qn_again k1 (s0) (Nat.le_refl _) ⟨_, (IntKind.wrap .i64 (x7_1 + (1 : Int))), fr_next (fr_next (fr_next (rfl) (by kernel_rfl)) (by kernel_rfl)) (by kernel_rfl), rfl, H⟩ (sub_nil _)
    replace H := ite_f q3 H
    refine ls_know (c := true) (congrArg Bool.not (dec_f q3)) 15 (by kernel_rfl) ?_
    refine ls_on (j := 2) (t := 15) (b := true) rfl rfl (by kernel_rfl) (by kernel_rfl) ?_
    refine lv (.int .u8 (bt a0 x7_1)) ?_
    refine ls_on (j := 2) (t := 15) (b := true) rfl rfl (by kernel_rfl) (by kernel_rfl) ?_
    refine lv (.bool (decide ((bt a0 x7_1) < (32 : Int)))) ?_
    refine ls_on (j := 2) (t := 15) (b := true) rfl rfl (by kernel_rfl) (by kernel_rfl) ?_
    refine lv (.bool (decide ((bt a0 x7_1) < (32 : Int)))) ?_
    by_cases q4 : (bt a0 x7_1) < (32 : Int)
    · replace H := ite_t q4 H
      refine ls_know (c := true) (dec_t q4) 18 (by kernel_rfl) ?_
      refine lofx 5 18 false true ?_
      refine lofx 5 18 false true ?_
      refine ls_on (j := 2) (t := 15) (b := true) rfl rfl (by kernel_rfl) (by kernel_rfl) ?_
      refine lv (.bool true) ?_
      refine lv (.bool true) ?_
      refine ls_end ?_
      refine qn_then ?_
      refine cs_true (by kernel_rfl) ?_
      refine cs_seq ?_
      refine cs_region (l := [_]) ?_
      refine lv (.bool false) ?_
      refine ls_end ?_
      refine qn_then ?_
      refine cs_ret' ?_
      refine qr_block ?_
      refine qr_then ?_
      refine qr_then ?_
      refine qr_block ?_
      refine qr_then ?_
      obtain rfl := Option.some.inj H
      refine qr_res (rs := [_]) rfl (fun w' hs => ⟨[.bool false], (res_tmp (by kernel_rfl) (.nil)), (), rfl, hs.pick (ts := []) (cs := []) trivial (by decide)⟩)
    replace H := ite_f q4 H
    refine ls_know (c := false) (dec_f q4) 18 (by kernel_rfl) ?_
    refine ls_on (j := 5) (t := 18) (b := false) rfl rfl (by kernel_rfl) (by kernel_rfl) ?_
    refine lv (.int .u8 (bt a0 x7_1)) ?_
    refine ls_on (j := 5) (t := 18) (b := false) rfl rfl (by kernel_rfl) (by kernel_rfl) ?_
    refine lv (.bool (decide ((bt a0 x7_1) = (127 : Int)))) ?_
    refine ls_on (j := 2) (t := 15) (b := true) rfl rfl (by kernel_rfl) (by kernel_rfl) ?_
    refine lv (.bool (decide ((bt a0 x7_1) = (127 : Int)))) ?_
    refine lv (.bool (decide ((bt a0 x7_1) = (127 : Int)))) ?_
    refine ls_end ?_
    refine qn_then ?_
    by_cases q5 : (bt a0 x7_1) = (127 : Int)
    · replace H := ite_t q5 H
      refine cs_know (c := true) (dec_t q5) 22 (by kernel_rfl) ?_
      refine cs_true (by kernel_rfl) ?_
      refine cs_seq ?_
      refine cs_region (l := [_]) ?_
      refine lv (.bool false) ?_
      refine ls_end ?_
      refine qn_then ?_
      refine cs_ret' ?_
      refine qr_block ?_
      refine qr_then ?_
      refine qr_then ?_
      refine qr_block ?_
      refine qr_then ?_
      obtain rfl := Option.some.inj H
      refine qr_res (rs := [_]) rfl (fun w' hs => ⟨[.bool false], (res_tmp (by kernel_rfl) (.nil)), (), rfl, hs.pick (ts := []) (cs := []) trivial (by decide)⟩)
    replace H := ite_f q5 H
    refine cs_know (c := false) (dec_f q5) 22 (by kernel_rfl) ?_
    refine cs_false (by kernel_rfl) ?_
    refine cs_skip' ?_
    refine qn_block ?_
    refine qn_then ?_
    refine cs_region (l := [_, _]) ?_
    refine lv (.int .i64 (IntKind.wrap .i64 (x7_1 + (1 : Int)))) ?_
    refine lv (.int .i64 (IntKind.wrap .i64 (x7_1 + (1 : Int)))) ?_
    refine ls_end ?_
    refine qn_again k1 (s0) (Nat.le_refl _) ⟨_, (IntKind.wrap .i64 (x7_1 + (1 : Int))), fr_next (fr_next (fr_next (rfl) (by kernel_rfl)) (by kernel_rfl)) (by kernel_rfl), rfl, H⟩ (sub_nil _)
  replace H := ite_f q1 H
  refine cs_know (c := false) (dec_f q1) 8 (by kernel_rfl) ?_
  refine cs_false (by kernel_rfl) ?_
  refine cs_exit' ?_
  refine qx_then ?_
  refine qx_then ?_
  refine qx_same ?_
  refine qn_then ?_
  refine cs_seq ?_
  refine cs_region (l := [_]) ?_
  refine lv (.bool true) ?_
  refine ls_end ?_
  refine qn_then ?_
  refine cs_ret' ?_
  obtain rfl := Option.some.inj H
  refine qr_res (rs := [_]) rfl (fun w' hs => ⟨[.bool true], (res_tmp (by kernel_rfl) (.nil)), (), rfl, hs.pick (ts := []) (cs := []) trivial (by decide)⟩)

/-! ### shadowbox/record.text: function 48 -/
def record_text.f (k : Nat) (a0 : ByteArray) (a1 : Int) : Option (Bool) :=
  (if (a0.size : Int) ≤ a1 then (header_Value.f k a0).bind fun t2 => some t2 else some false)
set_option maxRecDepth 100000 in
set_option maxHeartbeats 4000000 in
theorem record_text.calls (k : Nat) (a0 : ByteArray) (a1 : Int) (r : Bool) (b : Bs) (hs0 : St b (stl []) b.w) (H : record_text.f k a0 a1 = some r) :
    Calls Try.prog 48 #[.string a0, .int .i64 a1] b.w fun e w' => ∃ x : Unit, e = .returned (.bool r) ∧ St b (stl []) w' := by
  unfold record_text.f at H
  refine enterb (n := 13) Try.func48 rfl (by kernel_rfl) (by kernel_rfl) hs0 ?_
  refine cs_sub (s0) (sub_nil _) ?_
  refine cs_seq ?_
  refine cs_region (l := [_]) ?_
  refine lv (.bool false) ?_
  refine ls_end ?_
  refine qn_then ?_
  refine cs_seq ?_
  refine cs_region (l := [_, _, _, _, _, _, _, _, _]) ?_
  refine lv (.string a0) ?_
  refine lv (.int .i64 (a0.size : Int)) ?_
  refine lv (.int .i64 a1) ?_
  refine lv (.bool (decide ((a0.size : Int) ≤ a1))) ?_
  refine lv (.bool (decide ((a0.size : Int) ≤ a1))) ?_
  by_cases q1 : (a0.size : Int) ≤ a1
  · replace H := ite_t q1 H
    refine ls_know (c := true) (dec_t q1) 9 (by kernel_rfl) ?_
    refine ls_on (j := 4) (t := 9) (b := true) rfl rfl (by kernel_rfl) (by kernel_rfl) ?_
    refine lv (.string a0) ?_
    refine ls_on (j := 4) (t := 9) (b := true) rfl rfl (by kernel_rfl) (by kernel_rfl) ?_
    obtain ⟨t2, hc3, H⟩ := bind_some H
    refine ls_callb (fid := 79) (vals := #[.string a0]) (X := Unit) (fun x => .bool t2) (fun x => stl []) [] [] [] [] 0 rfl rfl (by kernel_rfl) (fun w => by kernel_rfl) trivial trivial (by decide) (fun w hs hb => header_Value.calls k a0 t2 (lent b w [] []) hb  hc3) ?_
    intro x4
    refine lv (.bool t2) ?_
    refine lv (.bool t2) ?_
    refine ls_end ?_
    refine qn_then ?_
    refine cs_ret' ?_
    obtain rfl := Option.some.inj H
    refine qr_res (rs := [_]) rfl (fun w' hs => ⟨[.bool t2], (res_tmp (by kernel_rfl) (.nil)), (), rfl, hs.pick (ts := []) (cs := []) trivial (by decide)⟩)
  replace H := ite_f q1 H
  refine ls_know (c := false) (dec_f q1) 9 (by kernel_rfl) ?_
  refine lofx 4 9 true false ?_
  refine lofx 4 9 true false ?_
  refine lv (.bool false) ?_
  refine lv (.bool false) ?_
  refine ls_end ?_
  refine qn_then ?_
  refine cs_ret' ?_
  obtain rfl := Option.some.inj H
  refine qr_res (rs := [_]) rfl (fun w' hs => ⟨[.bool false], (res_tmp (by kernel_rfl) (.nil)), (), rfl, hs.pick (ts := []) (cs := []) trivial (by decide)⟩)

/-! ### shadowbox/header.signs: function 101 -/
def header_signs.cst0 : Vc Int 15 := ⟨[(33 : Int), (35 : Int), (36 : Int), (37 : Int), (38 : Int), (39 : Int), (42 : Int), (43 : Int), (45 : Int), (46 : Int), (94 : Int), (95 : Int), (96 : Int), (124 : Int), (126 : Int)], rfl⟩
def header_signs.f (k : Nat) : Option ((Vc Int 15)) :=
  some header_signs.cst0
set_option maxRecDepth 100000 in
set_option maxHeartbeats 4000000 in
theorem header_signs.calls (k : Nat)  (r : (Vc Int 15)) (b : Bs) (hs0 : St b (stl []) b.w) (H : header_signs.f k = some r) :
    Calls Try.prog 101 #[] b.w fun e w' => ∃ x : Unit, e = .returned (.agg ⟨en (Value.int .u8) r.1⟩) ∧ St b (stl []) w' := by
  unfold header_signs.f at H
  refine enterb (n := 2) Try.func101 rfl (by kernel_rfl) (by kernel_rfl) hs0 ?_
  refine cs_sub (s0) (sub_nil _) ?_
  refine cs_seq ?_
  refine cs_region (l := [_]) ?_
  refine ls_new rfl rfl (by kernel_rfl) 0 (fun g => .pointer (some ⟨g, 0, none⟩)) (.cells ⟨en (Value.int .u8) (vrep 15 (0 : Int)).1⟩ 147) (fun w => by kernel_rfl) ?_
  intro g1
  refine ls_end ?_
  refine qn_then ?_
  refine cs_seq ?_
  refine cs_region (l := [_, _]) ?_
  refine lv (.agg ⟨en (Value.int .u8) header_signs.cst0.1⟩) ?_
  refine ls_storec (g := g1) (off := 0) (v := .agg ⟨en (Value.int .u8) header_signs.cst0.1⟩) (vs := en (Value.int .u8) header_signs.cst0.1) (cs := en (Value.int .u8) (vrep 15 (0 : Int)).1) (ty := 147) 0 rfl rfl rfl (by kernel_rfl) (by kernel_rfl) (by kernel_rfl) (by exact rfl) (by kernel_rfl) (len_en _ header_signs.cst0) (one_en (fun _ => rfl) _) (hl_of (Sub4.all _) (len_eq (len_en _ header_signs.cst0) (len_en _ (vrep 15 (0 : Int))))) (cs' := en (Value.int .u8) header_signs.cst0.1) (splc_all (len_eq (len_en _ header_signs.cst0) (len_en _ (vrep 15 (0 : Int))))) ?_
  refine ls_end ?_
  refine qn_then ?_
  refine cs_ret' ?_
  obtain rfl := Option.some.inj H
  refine qr_res (rs := [_]) rfl (fun w' hs => ⟨[.agg ⟨en (Value.int .u8) header_signs.cst0.1⟩], (.cell (by kernel_rfl) (run_cellres (by kernel_rfl) (by kernel_rfl) (len_en _ header_signs.cst0) (hs.holds 0 _ (by exact rfl))) (.nil)), (), rfl, hs.pick (ts := []) (cs := []) trivial (by decide)⟩)

/-! ### shadowbox/hex.Kind$1: function 105 -/
def hex_Kind_1.f (k : Nat) (a0 : Int) (a1 : Int) (v2 : Int) : Option (Bool) :=
  (if v2 ≥ a0 then some (decide (v2 ≤ a1)) else some false)
set_option maxRecDepth 100000 in
set_option maxHeartbeats 4000000 in
theorem hex_Kind_1.calls (k : Nat) (a0 : Int) (a1 : Int) (pg2 : Nat) (v2 : Int) (r : Bool) (b : Bs) (hs0 : St b (stl [Ck.var 5 pg2 ([Value.int .u8 v2])]) b.w) (H : hex_Kind_1.f k a0 a1 v2 = some r) :
    Calls Try.prog 105 #[.int .u8 a0, .int .u8 a1, .pointer (some ⟨pg2, 0, none⟩)] b.w fun e w' => ∃ x : Unit, e = .returned (.bool r) ∧ St b (stl [Ck.var 5 pg2 ([Value.int .u8 v2])]) w' := by
  unfold hex_Kind_1.f at H
  refine enterb (n := 14) Try.func105 rfl (by kernel_rfl) (by kernel_rfl) hs0 ?_
  refine cs_sub (sput s0 0 (some (Ck.var 5 pg2 ([Value.int .u8 v2])))) (sub_put (by exact rfl) (sub_nil _)) ?_
  refine cs_seq ?_
  refine cs_region (l := [_]) ?_
  refine lv (.bool false) ?_
  refine ls_end ?_
  refine qn_then ?_
  refine cs_seq ?_
  refine cs_region (l := [_, _, _, _, _, _, _, _, _]) ?_
  refine ls_load (a0 := ⟨pg2, 0, none⟩) (v := .int .u8 v2) (de := (TypeDesc.int .u8)) rfl rfl (by kernel_rfl) rfl (by kernel_rfl) (by kernel_rfl) (by kernel_rfl) (fun w hs => (hs.var (k := 0) (by exact rfl) (Sub4.all _))) ?_
  refine lv (.int .u8 a0) ?_
  refine lv (.bool (decide (v2 ≥ a0))) ?_
  refine lv (.bool (decide (v2 ≥ a0))) ?_
  by_cases q1 : v2 ≥ a0
  · replace H := ite_t q1 H
    refine ls_know (c := true) (dec_t q1) 9 (by kernel_rfl) ?_
    refine ls_on (j := 3) (t := 9) (b := true) rfl rfl (by kernel_rfl) (by kernel_rfl) ?_
    refine ls_load (a0 := ⟨pg2, 0, none⟩) (v := .int .u8 v2) (de := (TypeDesc.int .u8)) rfl rfl (by kernel_rfl) rfl (by kernel_rfl) (by kernel_rfl) (by kernel_rfl) (fun w hs => (hs.var (k := 0) (by exact rfl) (Sub4.all _))) ?_
    refine ls_on (j := 3) (t := 9) (b := true) rfl rfl (by kernel_rfl) (by kernel_rfl) ?_
    refine lv (.int .u8 a1) ?_
    refine ls_on (j := 3) (t := 9) (b := true) rfl rfl (by kernel_rfl) (by kernel_rfl) ?_
    refine lv (.bool (decide (v2 ≤ a1))) ?_
    refine lv (.bool (decide (v2 ≤ a1))) ?_
    refine lv (.bool (decide (v2 ≤ a1))) ?_
    refine ls_end ?_
    refine qn_then ?_
    refine cs_ret' ?_
    obtain rfl := Option.some.inj H
    refine qr_res (rs := [_]) rfl (fun w' hs => ⟨[.bool (decide (v2 ≤ a1))], (res_tmp (by kernel_rfl) (.nil)), (), rfl, hs.pick (ts := [0]) (cs := [Ck.var 5 pg2 ([Value.int .u8 v2])]) ⟨by exact rfl, trivial⟩ (by decide)⟩)
  replace H := ite_f q1 H
  refine ls_know (c := false) (dec_f q1) 9 (by kernel_rfl) ?_
  refine lofx 3 9 true false ?_
  refine lofx 3 9 true false ?_
  refine lofx 3 9 true false ?_
  refine lv (.bool false) ?_
  refine lv (.bool false) ?_
  refine ls_end ?_
  refine qn_then ?_
  refine cs_ret' ?_
  obtain rfl := Option.some.inj H
  refine qr_res (rs := [_]) rfl (fun w' hs => ⟨[.bool false], (res_tmp (by kernel_rfl) (.nil)), (), rfl, hs.pick (ts := [0]) (cs := [Ck.var 5 pg2 ([Value.int .u8 v2])]) ⟨by exact rfl, trivial⟩ (by decide)⟩)

/-! ### shadowbox/hex.Kind: function 102 -/
def hex_Kind.f (k : Nat) (a0 : Int) : Option (Int) :=
  (hex_Kind_1.f k (48 : Int) (57 : Int) a0).bind fun t2 => (if t2 = true then some (1 : Int) else (hex_Kind_1.f k (97 : Int) (102 : Int) a0).bind fun t6 => (if t6 = true then some (2 : Int) else (hex_Kind_1.f k (103 : Int) (122 : Int) a0).bind fun t10 => (if t10 = true then some (3 : Int) else (hex_Kind_1.f k (65 : Int) (90 : Int) a0).bind fun t14 => (if t14 = true then some (4 : Int) else some (0 : Int)))))
set_option maxRecDepth 100000 in
set_option maxHeartbeats 4000000 in
theorem hex_Kind.calls (k : Nat) (a0 : Int) (r : Int) (b : Bs) (hs0 : St b (stl []) b.w) (H : hex_Kind.f k a0 = some r) :
    Calls Try.prog 102 #[.int .u8 a0] b.w fun e w' => ∃ x : Unit, e = .returned (.int .i64 r) ∧ St b (stl []) w' := by
  unfold hex_Kind.f at H
  refine enterb (n := 17) Try.func102 rfl (by kernel_rfl) (by kernel_rfl) hs0 ?_
  refine cs_sub (s0) (sub_nil _) ?_
  refine cs_seq ?_
  refine cs_region (l := [_, _]) ?_
  refine ls_new rfl rfl (by kernel_rfl) 0 (fun g => .pointer (some ⟨g, 0, none⟩)) (.cells ⟨[Value.int .u8 a0]⟩ 5) (fun w => by kernel_rfl) ?_
  intro g1
  refine lv (.int .i64 (0 : Int)) ?_
  refine ls_end ?_
  refine qn_then ?_
  refine cs_seq ?_
  refine cs_region (l := [_, _]) ?_
  refine lv (.func (.func 105) #[] #[.pointer (some ⟨g1, 0, none⟩)]) ?_
  refine lv (.func (.func 105) #[] #[.pointer (some ⟨g1, 0, none⟩)]) ?_
  refine ls_end ?_
  refine qn_then ?_
  refine cs_seq ?_
  refine cs_block ?_
  refine cs_seq ?_
  refine cs_region (l := [_, _, _]) ?_
  refine lv (.func (.func 105) #[] #[.pointer (some ⟨g1, 0, none⟩)]) ?_
  obtain ⟨t2, hc3, H⟩ := bind_some H
  refine ls_callb (fid := 105) (vals := #[.int .u8 (48 : Int), .int .u8 (57 : Int), .pointer (some ⟨g1, 0, none⟩)]) (X := Unit) (fun x => .bool t2) (fun x => stl [Ck.var 5 g1 ([Value.int .u8 a0])]) [0] [] [Ck.var 5 g1 ([Value.int .u8 a0])] [] 1 rfl rfl (by kernel_rfl) (fun w => by kernel_rfl) ⟨by exact rfl, trivial⟩ trivial (by decide) (fun w hs hb => hex_Kind_1.calls k (48 : Int) (57 : Int) g1 a0 t2 (lent b w [Ck.var 5 g1 ([Value.int .u8 a0])] []) hb  hc3) ?_
  intro x4
  refine lv (.bool t2) ?_
  refine ls_end ?_
  refine qn_then ?_
  by_cases q5 : t2 = true
  · replace H := ite_t q5 H
    refine cs_know (c := true) (q5) 5 (by kernel_rfl) ?_
    refine cs_true (by kernel_rfl) ?_
    refine cs_seq ?_
    refine cs_region (l := [_]) ?_
    refine lv (.int .i64 (1 : Int)) ?_
    refine ls_end ?_
    refine qn_then ?_
    refine cs_ret' ?_
    refine qr_block ?_
    refine qr_then ?_
    obtain rfl := Option.some.inj H
    refine qr_res (rs := [_]) rfl (fun w' hs => ⟨[.int .i64 (1 : Int)], (res_tmp (by kernel_rfl) (.nil)), (), rfl, hs.pick (ts := []) (cs := []) trivial (by decide)⟩)
  replace H := ite_f q5 H
  refine cs_know (c := false) (Bool.eq_false_iff.mpr q5) 5 (by kernel_rfl) ?_
  refine cs_false (by kernel_rfl) ?_
  refine cs_seq ?_
  refine cs_region (l := [_, _, _]) ?_
  refine lv (.func (.func 105) #[] #[.pointer (some ⟨g1, 0, none⟩)]) ?_
  obtain ⟨t6, hc7, H⟩ := bind_some H
  refine ls_callb (fid := 105) (vals := #[.int .u8 (97 : Int), .int .u8 (102 : Int), .pointer (some ⟨g1, 0, none⟩)]) (X := Unit) (fun x => .bool t6) (fun x => stl [Ck.var 5 g1 ([Value.int .u8 a0])]) [0] [] [Ck.var 5 g1 ([Value.int .u8 a0])] [] 1 rfl rfl (by kernel_rfl) (fun w => by kernel_rfl) ⟨by exact rfl, trivial⟩ trivial (by decide) (fun w hs hb => hex_Kind_1.calls k (97 : Int) (102 : Int) g1 a0 t6 (lent b w [Ck.var 5 g1 ([Value.int .u8 a0])] []) hb  hc7) ?_
  intro x8
  refine lv (.bool t6) ?_
  refine ls_end ?_
  refine qn_then ?_
  by_cases q9 : t6 = true
  · replace H := ite_t q9 H
    refine cs_know (c := true) (q9) 8 (by kernel_rfl) ?_
    refine cs_true (by kernel_rfl) ?_
    refine cs_seq ?_
    refine cs_region (l := [_]) ?_
    refine lv (.int .i64 (2 : Int)) ?_
    refine ls_end ?_
    refine qn_then ?_
    refine cs_ret' ?_
    refine qr_block ?_
    refine qr_then ?_
    obtain rfl := Option.some.inj H
    refine qr_res (rs := [_]) rfl (fun w' hs => ⟨[.int .i64 (2 : Int)], (res_tmp (by kernel_rfl) (.nil)), (), rfl, hs.pick (ts := []) (cs := []) trivial (by decide)⟩)
  replace H := ite_f q9 H
  refine cs_know (c := false) (Bool.eq_false_iff.mpr q9) 8 (by kernel_rfl) ?_
  refine cs_false (by kernel_rfl) ?_
  refine cs_seq ?_
  refine cs_region (l := [_, _, _]) ?_
  refine lv (.func (.func 105) #[] #[.pointer (some ⟨g1, 0, none⟩)]) ?_
  obtain ⟨t10, hc11, H⟩ := bind_some H
  refine ls_callb (fid := 105) (vals := #[.int .u8 (103 : Int), .int .u8 (122 : Int), .pointer (some ⟨g1, 0, none⟩)]) (X := Unit) (fun x => .bool t10) (fun x => stl [Ck.var 5 g1 ([Value.int .u8 a0])]) [0] [] [Ck.var 5 g1 ([Value.int .u8 a0])] [] 1 rfl rfl (by kernel_rfl) (fun w => by kernel_rfl) ⟨by exact rfl, trivial⟩ trivial (by decide) (fun w hs hb => hex_Kind_1.calls k (103 : Int) (122 : Int) g1 a0 t10 (lent b w [Ck.var 5 g1 ([Value.int .u8 a0])] []) hb  hc11) ?_
  intro x12
  refine lv (.bool t10) ?_
  refine ls_end ?_
  refine qn_then ?_
  by_cases q13 : t10 = true
  · replace H := ite_t q13 H
    refine cs_know (c := true) (q13) 11 (by kernel_rfl) ?_
    refine cs_true (by kernel_rfl) ?_
    refine cs_seq ?_
    refine cs_region (l := [_]) ?_
    refine lv (.int .i64 (3 : Int)) ?_
    refine ls_end ?_
    refine qn_then ?_
    refine cs_ret' ?_
    refine qr_block ?_
    refine qr_then ?_
    obtain rfl := Option.some.inj H
    refine qr_res (rs := [_]) rfl (fun w' hs => ⟨[.int .i64 (3 : Int)], (res_tmp (by kernel_rfl) (.nil)), (), rfl, hs.pick (ts := []) (cs := []) trivial (by decide)⟩)
  replace H := ite_f q13 H
  refine cs_know (c := false) (Bool.eq_false_iff.mpr q13) 11 (by kernel_rfl) ?_
  refine cs_false (by kernel_rfl) ?_
  refine cs_seq ?_
  refine cs_region (l := [_, _, _]) ?_
  refine lv (.func (.func 105) #[] #[.pointer (some ⟨g1, 0, none⟩)]) ?_
  obtain ⟨t14, hc15, H⟩ := bind_some H
  refine ls_callb (fid := 105) (vals := #[.int .u8 (65 : Int), .int .u8 (90 : Int), .pointer (some ⟨g1, 0, none⟩)]) (X := Unit) (fun x => .bool t14) (fun x => stl [Ck.var 5 g1 ([Value.int .u8 a0])]) [0] [] [Ck.var 5 g1 ([Value.int .u8 a0])] [] 1 rfl rfl (by kernel_rfl) (fun w => by kernel_rfl) ⟨by exact rfl, trivial⟩ trivial (by decide) (fun w hs hb => hex_Kind_1.calls k (65 : Int) (90 : Int) g1 a0 t14 (lent b w [Ck.var 5 g1 ([Value.int .u8 a0])] []) hb  hc15) ?_
  intro x16
  refine lv (.bool t14) ?_
  refine ls_end ?_
  refine qn_then ?_
  by_cases q17 : t14 = true
  · replace H := ite_t q17 H
    refine cs_know (c := true) (q17) 14 (by kernel_rfl) ?_
    refine cs_true (by kernel_rfl) ?_
    refine cs_seq ?_
    refine cs_region (l := [_]) ?_
    refine lv (.int .i64 (4 : Int)) ?_
    refine ls_end ?_
    refine qn_then ?_
    refine cs_ret' ?_
    refine qr_block ?_
    refine qr_then ?_
    obtain rfl := Option.some.inj H
    refine qr_res (rs := [_]) rfl (fun w' hs => ⟨[.int .i64 (4 : Int)], (res_tmp (by kernel_rfl) (.nil)), (), rfl, hs.pick (ts := []) (cs := []) trivial (by decide)⟩)
  replace H := ite_f q17 H
  refine cs_know (c := false) (Bool.eq_false_iff.mpr q17) 14 (by kernel_rfl) ?_
  refine cs_false (by kernel_rfl) ?_
  refine cs_skip' ?_
  refine qn_block ?_
  refine qn_then ?_
  refine cs_seq ?_
  refine cs_region (l := [_]) ?_
  refine lv (.int .i64 (0 : Int)) ?_
  refine ls_end ?_
  refine qn_then ?_
  refine cs_ret' ?_
  obtain rfl := Option.some.inj H
  refine qr_res (rs := [_]) rfl (fun w' hs => ⟨[.int .i64 (0 : Int)], (res_tmp (by kernel_rfl) (.nil)), (), rfl, hs.pick (ts := []) (cs := []) trivial (by decide)⟩)

/-! ### shadowbox/header.Token$1: function 100 -/
def header_Token_1.lo1 (a0 : Int) (t1 : (Vc Int 15)) : Nat → Int → Option (Bool)
  | 0, _ => none
  | k1 + 1, x6_1 => (if x6_1 < (15 : Int) then (if 0 ≤ x6_1 then (if (t1.1.getD (x6_1).toNat (0 : Int)) = a0 then some true else (header_Token_1.lo1 a0 t1 k1) (IntKind.wrap .i64 (x6_1 + (1 : Int)))) else none) else (hex_Kind.f k1 a0).bind fun t7 => some (!decide (t7 = (0 : Int))))
def header_Token_1.f (k : Nat) (a0 : Int) : Option (Bool) :=
  (header_signs.f k).bind fun t1 => header_Token_1.lo1 a0 t1 k (0 : Int)
set_option maxRecDepth 100000 in
set_option maxHeartbeats 4000000 in
theorem header_Token_1.calls (k : Nat) (a0 : Int) (r : Bool) (b : Bs) (hs0 : St b (stl []) b.w) (H : header_Token_1.f k a0 = some r) :
    Calls Try.prog 100 #[.int .u8 a0] b.w fun e w' => ∃ x : Unit, e = .returned (.bool r) ∧ St b (stl []) w' := by
  unfold header_Token_1.f at H
  refine enterb (n := 16) Try.func100 rfl (by kernel_rfl) (by kernel_rfl) hs0 ?_
  refine cs_sub (s0) (sub_nil _) ?_
  refine cs_seq ?_
  refine cs_region (l := [_]) ?_
  refine lv (.bool false) ?_
  refine ls_end ?_
  refine qn_then ?_
  refine cs_seq ?_
  refine cs_seq ?_
  refine cs_region (l := [_, _]) ?_
  obtain ⟨t1, hc2, H⟩ := bind_some H
  refine ls_callb (fid := 101) (vals := #[]) (X := Unit) (fun x => .agg ⟨en (Value.int .u8) t1.1⟩) (fun x => stl []) [] [] [] [] 0 rfl rfl (by kernel_rfl) (fun w => by kernel_rfl) trivial trivial (by decide) (fun w hs hb => header_signs.calls k  t1 (lent b w [] []) hb  hc2) ?_
  intro x3
  refine lv (.int .i64 (0 : Int)) ?_
  refine ls_end ?_
  refine qn_then ?_
  refine cs_block ?_
  refine cs_sub (s0) (sub_nil _) ?_
  refine cs_loop (fun kk f S => ∃ (fR : Fr) (x6_1 : Int), f = upd (upd (upd fR 0 (.int .u8 a0)) 5 (.agg ⟨en (Value.int .u8) t1.1⟩)) 6 (.int .i64 x6_1) ∧ S = s0 ∧ header_Token_1.lo1 a0 t1 kk x6_1 = some r) k ?_ ?_ ?_
  · exact ⟨_, (0 : Int), fr_next (fr_next (fr_next (rfl) (by kernel_rfl)) (by kernel_rfl)) (by kernel_rfl), rfl, H⟩
  · rintro f S ⟨fr1, x6_1, rfl, rfl, H⟩; cases H
  rintro k1 f S ⟨fr1, x6_1, rfl, rfl, H⟩
  replace H : ((if x6_1 < (15 : Int) then (if 0 ≤ x6_1 then (if (t1.1.getD (x6_1).toNat (0 : Int)) = a0 then some true else (header_Token_1.lo1 a0 t1 k1) (IntKind.wrap .i64 (x6_1 + (1 : Int)))) else none) else (hex_Kind.f k1 a0).bind fun t7 => some (!decide (t7 = (0 : Int))))) = some r := H
  refine cs_seq ?_
  refine cs_region (l := [_]) ?_
  refine lv (.bool (decide (x6_1 < (15 : Int)))) ?_
  refine ls_end ?_
  refine qn_then ?_
  refine cs_seq ?_
  by_cases q4 : x6_1 < (15 : Int)
  · replace H := ite_t q4 H
    refine cs_know (c := true) (dec_t q4) 7 (by kernel_rfl) ?_
    refine cs_true (by kernel_rfl) ?_
    refine cs_skip' ?_
    refine qn_then ?_
    refine cs_seq ?_
    refine cs_block ?_
    refine cs_seq ?_
    refine cs_region (l := [_, _]) ?_
    obtain ⟨q5, H⟩ := ite_need H
    refine ls_index (l := t1.1) (E := (Value.int .u8)) (i := x6_1) (kk := .i64) (ln := 15) (e := 5) rfl rfl (by kernel_rfl) t1.2 rfl (by kernel_rfl) (by kernel_rfl) (by kernel_rfl) (by kernel_rfl) (by kernel_rfl) q5 q4 0 ?_
    refine lv (.int .u8 (t1.1.getD (x6_1).toNat (0 : Int))) ?_
    refine ls_end ?_
    refine qn_then ?_
    refine cs_seq ?_
    refine cs_region (l := [_, _, _]) ?_
    refine lv (.int .u8 (t1.1.getD (x6_1).toNat (0 : Int))) ?_
    refine lv (.int .u8 a0) ?_
    refine lv (.bool (decide ((t1.1.getD (x6_1).toNat (0 : Int)) = a0))) ?_
    refine ls_end ?_
    refine qn_then ?_
    by_cases q6 : (t1.1.getD (x6_1).toNat (0 : Int)) = a0
    · replace H := ite_t q6 H
      refine cs_know (c := true) (dec_t q6) 11 (by kernel_rfl) ?_
      refine cs_true (by kernel_rfl) ?_
      refine cs_seq ?_
      refine cs_region (l := [_]) ?_
      refine lv (.bool true) ?_
      refine ls_end ?_
      refine qn_then ?_
      refine cs_ret' ?_
      refine qr_block ?_
      refine qr_then ?_
      refine qr_then ?_
      refine qr_block ?_
      refine qr_then ?_
      obtain rfl := Option.some.inj H
      refine qr_res (rs := [_]) rfl (fun w' hs => ⟨[.bool true], (res_tmp (by kernel_rfl) (.nil)), (), rfl, hs.pick (ts := []) (cs := []) trivial (by decide)⟩)
    replace H := ite_f q6 H
    refine cs_know (c := false) (dec_f q6) 11 (by kernel_rfl) ?_
    refine cs_false (by kernel_rfl) ?_
    refine cs_skip' ?_
    refine qn_block ?_
    refine qn_then ?_
    refine cs_region (l := [_, _]) ?_
    refine lv (.int .i64 (IntKind.wrap .i64 (x6_1 + (1 : Int)))) ?_
    refine lv (.int .i64 (IntKind.wrap .i64 (x6_1 + (1 : Int)))) ?_
    refine ls_end ?_
    refine qn_again k1 (s0) (Nat.le_refl _) ⟨_, (IntKind.wrap .i64 (x6_1 + (1 : Int))), fr_next (fr_next (fr_next (rfl) (by kernel_rfl)) (by kernel_rfl)) (by kernel_rfl), rfl, H⟩ (sub_nil _)
  replace H := ite_f q4 H
  refine cs_know (c := false) (dec_f q4) 7 (by kernel_rfl) ?_
  refine cs_false (by kernel_rfl) ?_
  refine cs_exit' ?_
  refine qx_then ?_
  refine qx_then ?_
  refine qx_same ?_
  refine qn_then ?_
  refine cs_seq ?_
  refine cs_region (l := [_, _, _, _]) ?_
  refine lv (.int .u8 a0) ?_
  obtain ⟨t7, hc8, H⟩ := bind_some H
  refine ls_callb (fid := 102) (vals := #[.int .u8 a0]) (X := Unit) (fun x => .int .i64 t7) (fun x => stl []) [] [] [] [] 0 rfl rfl (by kernel_rfl) (fun w => by kernel_rfl) trivial trivial (by decide) (fun w hs hb => hex_Kind.calls k1 a0 t7 (lent b w [] []) hb  hc8) ?_
  intro x9
  refine lv (.bool (!decide (t7 = (0 : Int)))) ?_
  refine lv (.bool (!decide (t7 = (0 : Int)))) ?_
  refine ls_end ?_
  refine qn_then ?_
  refine cs_ret' ?_
  obtain rfl := Option.some.inj H
  refine qr_res (rs := [_]) rfl (fun w' hs => ⟨[.bool (!decide (t7 = (0 : Int)))], (res_tmp (by kernel_rfl) (.nil)), (), rfl, hs.pick (ts := []) (cs := []) trivial (by decide)⟩)

/-! ### shadowbox/header.Token: function 80 -/
def header_Token.lo1 (a0 : ByteArray) : Nat → Int → Option (Bool)
  | 0, _ => none
  | k1 + 1, x7_1 => (if x7_1 < (a0.size : Int) then (if 0 ≤ x7_1 then (header_Token_1.f k1 (bt a0 x7_1)).bind fun t3 => (if t3 = true then (header_Token.lo1 a0 k1) (IntKind.wrap .i64 (x7_1 + (1 : Int))) else some false) else none) else some (!(a0.toList == (⟨#[]⟩ : ByteArray).toList)))
def header_Token.f (k : Nat) (a0 : ByteArray) : Option (Bool) :=
  header_Token.lo1 a0 k (0 : Int)
set_option maxRecDepth 100000 in
set_option maxHeartbeats 4000000 in
theorem header_Token.calls (k : Nat) (a0 : ByteArray) (r : Bool) (b : Bs) (hs0 : St b (stl []) b.w) (H : header_Token.f k a0 = some r) :
    Calls Try.prog 80 #[.string a0] b.w fun e w' => ∃ x : Unit, e = .returned (.bool r) ∧ St b (stl []) w' := by
  unfold header_Token.f at H
  refine enterb (n := 19) Try.func80 rfl (by kernel_rfl) (by kernel_rfl) hs0 ?_
  refine cs_sub (s0) (sub_nil _) ?_
  refine cs_seq ?_
  refine cs_region (l := [_]) ?_
  refine lv (.bool false) ?_
  refine ls_end ?_
  refine qn_then ?_
  refine cs_seq ?_
  refine cs_region (l := [_]) ?_
  refine lv (.func (.func 100) #[] #[]) ?_
  refine ls_end ?_
  refine qn_then ?_
  refine cs_seq ?_
  refine cs_seq ?_
  refine cs_region (l := [_, _, _]) ?_
  refine lv (.string a0) ?_
  refine lv (.int .i64 (a0.size : Int)) ?_
  refine lv (.int .i64 (0 : Int)) ?_
  refine ls_end ?_
  refine qn_then ?_
  refine cs_block ?_
  refine cs_sub (s0) (sub_nil _) ?_
  refine cs_loop (fun kk f S => ∃ (fR : Fr) (x7_1 : Int), f = upd (upd (upd (upd fR 0 (.string a0)) 3 (.func (.func 100) #[] #[])) 6 (.int .i64 (a0.size : Int))) 7 (.int .i64 x7_1) ∧ S = s0 ∧ header_Token.lo1 a0 kk x7_1 = some r) k ?_ ?_ ?_
  · exact ⟨_, (0 : Int), fr_next (fr_next (fr_next (fr_next (rfl) (by kernel_rfl)) (by kernel_rfl)) (by kernel_rfl)) (by kernel_rfl), rfl, H⟩
  · rintro f S ⟨fr1, x7_1, rfl, rfl, H⟩; cases H
  rintro k1 f S ⟨fr1, x7_1, rfl, rfl, H⟩
  replace H : ((if x7_1 < (a0.size : Int) then (if 0 ≤ x7_1 then (header_Token_1.f k1 (bt a0 x7_1)).bind fun t3 => (if t3 = true then (header_Token.lo1 a0 k1) (IntKind.wrap .i64 (x7_1 + (1 : Int))) else some false) else none) else some (!(a0.toList == (⟨#[]⟩ : ByteArray).toList)))) = some r := H
  refine cs_seq ?_
  refine cs_region (l := [_]) ?_
  refine lv (.bool (decide (x7_1 < (a0.size : Int)))) ?_
  refine ls_end ?_
  refine qn_then ?_
  refine cs_seq ?_
  by_cases q1 : x7_1 < (a0.size : Int)
  · replace H := ite_t q1 H
    refine cs_know (c := true) (dec_t q1) 8 (by kernel_rfl) ?_
    refine cs_true (by kernel_rfl) ?_
    refine cs_skip' ?_
    refine qn_then ?_
    refine cs_seq ?_
    refine cs_block ?_
    refine cs_seq ?_
    refine cs_region (l := [_, _]) ?_
    refine lv (.int .i64 x7_1) ?_
    refine lv (.int .i64 x7_1) ?_
    refine ls_end ?_
    refine qn_then ?_
    refine cs_seq ?_
    refine cs_region (l := [_, _, _, _, _, _]) ?_
    refine lv (.func (.func 100) #[] #[]) ?_
    refine lv (.string a0) ?_
    refine lv (.int .i64 x7_1) ?_
    obtain ⟨q2, H⟩ := ite_need H
    refine ls_sidx (s := a0) (k := .i64) (i := x7_1) rfl rfl (by kernel_rfl) rfl (by kernel_rfl) (by kernel_rfl) (by kernel_rfl) q2 q1 ?_
    obtain ⟨t3, hc4, H⟩ := bind_some H
    refine ls_callb (fid := 100) (vals := #[.int .u8 (bt a0 x7_1)]) (X := Unit) (fun x => .bool t3) (fun x => stl []) [] [] [] [] 0 rfl rfl (by kernel_rfl) (fun w => by kernel_rfl) trivial trivial (by decide) (fun w hs hb => header_Token_1.calls k1 (bt a0 x7_1) t3 (lent b w [] []) hb  hc4) ?_
    intro x5
    refine lv (.bool (!t3)) ?_
    refine ls_end ?_
    refine qn_then ?_
    by_cases q6 : t3 = true
    · replace H := ite_t q6 H
      refine cs_know (c := false) (congrArg Bool.not (q6)) 15 (by kernel_rfl) ?_
      refine cs_false (by kernel_rfl) ?_
      refine cs_skip' ?_
      refine qn_block ?_
      refine qn_then ?_
      refine cs_region (l := [_, _]) ?_
      refine lv (.int .i64 (IntKind.wrap .i64 (x7_1 + (1 : Int)))) ?_
      refine lv (.int .i64 (IntKind.wrap .i64 (x7_1 + (1 : Int)))) ?_
      refine ls_end ?_
      refine qn_again k1 (s0) (Nat.le_refl _) ⟨_, (IntKind.wrap .i64 (x7_1 + (1 : Int))), fr_next (fr_next (fr_next (fr_next (rfl) (by kernel_rfl)) (by kernel_rfl)) (by kernel_rfl)) (by kernel_rfl), rfl, H⟩ (sub_nil _)
    replace H := ite_f q6 H
    refine cs_know (c := true) (congrArg Bool.not (Bool.eq_false_iff.mpr q6)) 15 (by kernel_rfl) ?_
    refine cs_true (by kernel_rfl) ?_
    refine cs_seq ?_
    refine cs_region (l := [_]) ?_
    refine lv (.bool false) ?_
    refine ls_end ?_
    refine qn_then ?_
    refine cs_ret' ?_
    refine qr_block ?_
    refine qr_then ?_
    refine qr_then ?_
    refine qr_block ?_
    refine qr_then ?_
    obtain rfl := Option.some.inj H
    refine qr_res (rs := [_]) rfl (fun w' hs => ⟨[.bool false], (res_tmp (by kernel_rfl) (.nil)), (), rfl, hs.pick (ts := []) (cs := []) trivial (by decide)⟩)
  replace H := ite_f q1 H
  refine cs_know (c := false) (dec_f q1) 8 (by kernel_rfl) ?_
  refine cs_false (by kernel_rfl) ?_
  refine cs_exit' ?_
  refine qx_then ?_
  refine qx_then ?_
  refine qx_same ?_
  refine qn_then ?_
  refine cs_seq ?_
  refine cs_region (l := [_, _, _]) ?_
  refine lv (.string a0) ?_
  refine lv (.bool (!(a0.toList == (⟨#[]⟩ : ByteArray).toList))) ?_
  refine lv (.bool (!(a0.toList == (⟨#[]⟩ : ByteArray).toList))) ?_
  refine ls_end ?_
  refine qn_then ?_
  refine cs_ret' ?_
  obtain rfl := Option.some.inj H
  refine qr_res (rs := [_]) rfl (fun w' hs => ⟨[.bool (!(a0.toList == (⟨#[]⟩ : ByteArray).toList))], (res_tmp (by kernel_rfl) (.nil)), (), rfl, hs.pick (ts := []) (cs := []) trivial (by decide)⟩)

/-! ### shadowbox/hex.Lower: function 81 -/
def hex_Lower.lo1 (a0 : ByteArray) : Nat → (List Int) → Int → Option (ByteArray)
  | 0, _, _ => none
  | k1 + 1, l3_1, x10_1 => (if x10_1 < ((bl a0).length : Int) then (if 0 ≤ x10_1 then (if x10_1 < (l3_1.length : Int) then (hex_Kind.f k1 ((l3_1).getD (x10_1).toNat (0 : Int))).bind fun t10 => (if t10 = (4 : Int) then lt (IntKind.wrap .u8 (((l3_1).getD (x10_1).toNat (0 : Int)) + (32 : Int))) fun y14 => lt ((l3_1).set (x10_1).toNat y14) fun y18 => (hex_Lower.lo1 a0 k1) y18 (IntKind.wrap .i64 (x10_1 + (1 : Int))) else (hex_Lower.lo1 a0 k1) l3_1 (IntKind.wrap .i64 (x10_1 + (1 : Int)))) else none) else none) else some (strOfNums l3_1))
def hex_Lower.f (k : Nat) (a0 : ByteArray) : Option (ByteArray) :=
  hex_Lower.lo1 a0 k (bl a0) (0 : Int)
set_option maxRecDepth 100000 in
set_option maxHeartbeats 4000000 in
theorem hex_Lower.calls (k : Nat) (a0 : ByteArray) (r : ByteArray) (b : Bs) (hs0 : St b (stl []) b.w) (H : hex_Lower.f k a0 = some r) :
    Calls Try.prog 81 #[.string a0] b.w fun e w' => ∃ x : Unit, e = .returned (.string r) ∧ St b (stl []) w' := by
  unfold hex_Lower.f at H
  refine enterb (n := 26) Try.func81 rfl (by kernel_rfl) (by kernel_rfl) hs0 ?_
  refine cs_sub (s0) (sub_nil _) ?_
  refine cs_seq ?_
  refine cs_region (l := [_]) ?_
  refine lv (.string (⟨#[]⟩ : ByteArray)) ?_
  refine ls_end ?_
  refine qn_then ?_
  refine cs_seq ?_
  refine cs_region (l := [_, _, _]) ?_
  refine lv (.string a0) ?_
  refine ls_bytesbt (u := .string) (e := 5) (s := a0) 0 rfl rfl (by kernel_rfl) rfl (by kernel_rfl) (by kernel_rfl) (by kernel_rfl) (by kernel_rfl) ?_
  intro xA4 xc2
  refine lv (.slice xA4 (bl a0).length xc2) ?_
  refine ls_end ?_
  refine qn_then ?_
  refine cs_seq ?_
  refine cs_seq ?_
  refine cs_region (l := [_, _, _]) ?_
  refine lv (.slice xA4 (bl a0).length xc2) ?_
  refine lv (.int .i64 ((bl a0).length : Int)) ?_
  refine lv (.int .i64 (0 : Int)) ?_
  refine ls_end ?_
  refine qn_then ?_
  refine cs_block ?_
  refine cs_sub (sput s0 0 (some (Ck.bt (Ec.int 5 .u8) xA4 xc2 (bl a0)))) (sub_put (by exact rfl) (sub_nil _)) ?_
  refine cs_loop (fun kk f S => ∃ (fR : Fr) (A3_1 : Option Addr) (c3_1 : Nat) (l3_1 : List Int) (x10_1 : Int), f = upd (upd (upd (upd fR 3 (.slice A3_1 l3_1.length c3_1)) 8 (.slice A3_1 l3_1.length c3_1)) 9 (.int .i64 ((bl a0).length : Int))) 10 (.int .i64 x10_1) ∧ S = sput s0 0 (some (Ck.bt (Ec.int 5 .u8) A3_1 c3_1 l3_1)) ∧ hex_Lower.lo1 a0 kk l3_1 x10_1 = some r) k ?_ ?_ ?_
  · exact ⟨_, xA4, xc2, (bl a0), (0 : Int), fr_next (fr_next (fr_next (fr_next (rfl) (by kernel_rfl)) (by kernel_rfl)) (by kernel_rfl)) (by kernel_rfl), rfl, H⟩
  · rintro f S ⟨fr1, A3_1, c3_1, l3_1, x10_1, rfl, rfl, H⟩; cases H
  rintro k1 f S ⟨fr1, A3_1, c3_1, l3_1, x10_1, rfl, rfl, H⟩
  replace H : ((if x10_1 < ((bl a0).length : Int) then (if 0 ≤ x10_1 then (if x10_1 < (l3_1.length : Int) then (hex_Kind.f k1 ((l3_1).getD (x10_1).toNat (0 : Int))).bind fun t10 => (if t10 = (4 : Int) then lt (IntKind.wrap .u8 (((l3_1).getD (x10_1).toNat (0 : Int)) + (32 : Int))) fun y14 => lt ((l3_1).set (x10_1).toNat y14) fun y18 => (hex_Lower.lo1 a0 k1) y18 (IntKind.wrap .i64 (x10_1 + (1 : Int))) else (hex_Lower.lo1 a0 k1) l3_1 (IntKind.wrap .i64 (x10_1 + (1 : Int)))) else none) else none) else some (strOfNums l3_1))) = some r := H
  refine cs_seq ?_
  refine cs_region (l := [_]) ?_
  refine lv (.bool (decide (x10_1 < ((bl a0).length : Int)))) ?_
  refine ls_end ?_
  refine qn_then ?_
  refine cs_seq ?_
  by_cases q5 : x10_1 < ((bl a0).length : Int)
  · replace H := ite_t q5 H
    refine cs_know (c := true) (dec_t q5) 11 (by kernel_rfl) ?_
    refine cs_true (by kernel_rfl) ?_
    refine cs_skip' ?_
    refine qn_then ?_
    refine cs_seq ?_
    refine cs_block ?_
    refine cs_seq ?_
    refine cs_region (l := [_, _, _, _, _]) ?_
    refine lv (.int .i64 x10_1) ?_
    obtain ⟨q6, H⟩ := ite_need H
    obtain ⟨q7, H⟩ := ite_need H
    refine ls_atbt (T := (Ec.int 5 .u8)) (tk := 0) (i := x10_1) (by exact rfl) q6 q7 ?_
    intro ad8 hA9
    refine ls_idxv (Ec.int 5 .u8) (A := A3_1) (c := c3_1) (l := l3_1) (k := .i64) (i := x10_1) (z := 1) (ad := ad8) rfl rfl (by kernel_rfl) hA9 rfl (by kernel_rfl) (by kernel_rfl) (by kernel_rfl) (by kernel_rfl) q6 q7 ?_
    refine ls_load (a0 := (ad8.add ((x10_1).toNat * 1))) (v := .int .u8 ((l3_1).getD (x10_1).toNat (0 : Int))) (de := (TypeDesc.int .u8)) rfl rfl (by kernel_rfl) rfl (by kernel_rfl) (by kernel_rfl) (by kernel_rfl) (fun w hs => (hs.btrd (k := 0) (by exact rfl)).at hA9 (em_sub (Ec.int 5 .u8) l3_1 (i := (x10_1).toNat) (by have h0 : (0 : Int) ≤ x10_1 := q6; have h1 : x10_1 < (l3_1.length : Int) := q7; omega))) ?_
    refine lv (.int .i64 x10_1) ?_
    refine lv (.int .u8 ((l3_1).getD (x10_1).toNat (0 : Int))) ?_
    refine ls_end ?_
    refine qn_then ?_
    refine cs_seq ?_
    refine cs_region (l := [_, _, _]) ?_
    refine lv (.int .u8 ((l3_1).getD (x10_1).toNat (0 : Int))) ?_
    obtain ⟨t10, hc11, H⟩ := bind_some H
    refine ls_callb (fid := 102) (vals := #[.int .u8 ((l3_1).getD (x10_1).toNat (0 : Int))]) (X := Unit) (fun x => .int .i64 t10) (fun x => stl []) [] [] [] [] 1 rfl rfl (by kernel_rfl) (fun w => by kernel_rfl) trivial trivial (by decide) (fun w hs hb => hex_Kind.calls k1 ((l3_1).getD (x10_1).toNat (0 : Int)) t10 (lent b w [] []) hb  hc11) ?_
    intro x12
    refine lv (.bool (decide (t10 = (4 : Int)))) ?_
    refine ls_end ?_
    refine qn_then ?_
    by_cases q13 : t10 = (4 : Int)
    · replace H := ite_t q13 H
      refine cs_know (c := true) (dec_t q13) 17 (by kernel_rfl) ?_
      refine cs_true (by kernel_rfl) ?_
      refine cs_region (l := [_, _, _, _, _, _]) ?_
      refine lv (.slice A3_1 l3_1.length c3_1) ?_
      refine lv (.int .i64 x10_1) ?_
      refine lv (.int .u8 ((l3_1).getD (x10_1).toNat (0 : Int))) ?_
      obtain ⟨y14, hy15, H⟩ := lt_some H
      refine lv (.int .u8 (IntKind.wrap .u8 (((l3_1).getD (x10_1).toNat (0 : Int)) + (32 : Int)))) ?_
      refine ls_ren 21 (v := .int .u8 (IntKind.wrap .u8 (((l3_1).getD (x10_1).toNat (0 : Int)) + (32 : Int)))) (v' := .int .u8 y14) (by kernel_rfl) (by rw [hy15]) ?_
      refine ls_atbt (T := (Ec.int 5 .u8)) (tk := 0) (i := x10_1) (by exact rfl) q6 q7 ?_
      intro ad16 hA17
      refine ls_idxv (Ec.int 5 .u8) (A := A3_1) (c := c3_1) (l := l3_1) (k := .i64) (i := x10_1) (z := 1) (ad := ad16) rfl rfl (by kernel_rfl) hA17 rfl (by kernel_rfl) (by kernel_rfl) (by kernel_rfl) (by kernel_rfl) q6 q7 ?_
      obtain ⟨y18, hy19, H⟩ := lt_some H
      refine ls_storebt (Ec.int 5 .u8) (A := A3_1) (c := c3_1) (l := l3_1) (l' := y18) (ad := ad16) (off := ((x10_1).toNat * 1)) (v := .int .u8 y14) (vs := [Value.int .u8 y14]) 0 rfl rfl rfl hA17 (by kernel_rfl) (by kernel_rfl) (by kernel_rfl) (by exact rfl) (by kernel_rfl) (len1 _) (one_cons rfl one_nil) (hl_of (em_sub (Ec.int 5 .u8) l3_1 (i := (x10_1).toNat) (by have h0 : (0 : Int) ≤ x10_1 := q6; have h1 : x10_1 < (l3_1.length : Int) := q7; omega)) (len_eq (len1 _) (len1 _))) ((splc_em (Ec.int 5 .u8) l3_1 y14 (i := (x10_1).toNat) (by have h0 : (0 : Int) ≤ x10_1 := q6; have h1 : x10_1 < (l3_1.length : Int) := q7; omega)).trans (congrArg (em (Ec.int 5 .u8)) hy19)) (by rw [← hy19, List.length_set]) ?_
      refine ls_ren 3 (v := .slice A3_1 l3_1.length c3_1) (v' := .slice A3_1 y18.length c3_1) (by kernel_rfl) (by rw [← hy19, List.length_set]) ?_
      refine ls_ren 8 (v := .slice A3_1 l3_1.length c3_1) (v' := .slice A3_1 y18.length c3_1) (by kernel_rfl) (by rw [← hy19, List.length_set]) ?_
      refine ls_ren 18 (v := .slice A3_1 l3_1.length c3_1) (v' := .slice A3_1 y18.length c3_1) (by kernel_rfl) (by rw [← hy19, List.length_set]) ?_
      refine ls_end ?_
      refine qn_block ?_
      refine qn_then ?_
      refine cs_region (l := [_, _]) ?_
      refine lv (.int .i64 (IntKind.wrap .i64 (x10_1 + (1 : Int)))) ?_
      refine lv (.int .i64 (IntKind.wrap .i64 (x10_1 + (1 : Int)))) ?_
      refine ls_end ?_
      refine qn_again k1 (sput s0 0 (some (Ck.bt (Ec.int 5 .u8) A3_1 c3_1 y18))) (Nat.le_refl _) ⟨_, A3_1, c3_1, y18, (IntKind.wrap .i64 (x10_1 + (1 : Int))), fr_next (fr_next (fr_next (fr_next (rfl) (by kernel_rfl)) (by kernel_rfl)) (by kernel_rfl)) (by kernel_rfl), rfl, H⟩ (sub_put (by exact rfl) (sub_nil _))
    replace H := ite_f q13 H
    refine cs_know (c := false) (dec_f q13) 17 (by kernel_rfl) ?_
    refine cs_false (by kernel_rfl) ?_
    refine cs_skip' ?_
    refine qn_block ?_
    refine qn_then ?_
    refine cs_region (l := [_, _]) ?_
    refine lv (.int .i64 (IntKind.wrap .i64 (x10_1 + (1 : Int)))) ?_
    refine lv (.int .i64 (IntKind.wrap .i64 (x10_1 + (1 : Int)))) ?_
    refine ls_end ?_
    refine qn_again k1 (sput s0 0 (some (Ck.bt (Ec.int 5 .u8) A3_1 c3_1 l3_1))) (Nat.le_refl _) ⟨_, A3_1, c3_1, l3_1, (IntKind.wrap .i64 (x10_1 + (1 : Int))), fr_next (fr_next (fr_next (fr_next (rfl) (by kernel_rfl)) (by kernel_rfl)) (by kernel_rfl)) (by kernel_rfl), rfl, H⟩ (sub_put (by exact rfl) (sub_nil _))
  replace H := ite_f q5 H
  refine cs_know (c := false) (dec_f q5) 11 (by kernel_rfl) ?_
  refine cs_false (by kernel_rfl) ?_
  refine cs_exit' ?_
  refine qx_then ?_
  refine qx_then ?_
  refine qx_same ?_
  refine qn_then ?_
  refine cs_seq ?_
  refine cs_region (l := [_, _, _]) ?_
  refine lv (.slice A3_1 l3_1.length c3_1) ?_
  refine ls_str (A := A3_1) (c := c3_1) (e := 5) (l := l3_1) rfl rfl (by kernel_rfl) rfl (by kernel_rfl) (by kernel_rfl) (by kernel_rfl) (by kernel_rfl) (fun w hs => (hs.btrd (k := 0) (by exact rfl))) ?_
  refine lv (.string (strOfNums l3_1)) ?_
  refine ls_end ?_
  refine qn_then ?_
  refine cs_ret' ?_
  obtain rfl := Option.some.inj H
  refine qr_res (rs := [_]) rfl (fun w' hs => ⟨[.string (strOfNums l3_1)], (res_tmp (by kernel_rfl) (.nil)), (), rfl, hs.pick (ts := []) (cs := []) trivial (by decide)⟩)

/-! ### shadowbox/record.words: function 49 -/
def record_words.tab5 : List (List Nat) := [[], [0], [0, 1], [0, 1, 2], [0, 1, 2, 3], [0, 1, 2, 3, 4], [0, 1, 2, 3, 4, 5], [0, 1, 2, 3, 4, 5, 6], [0, 1, 2, 3, 4, 5, 6, 7], [0, 1, 2, 3, 4, 5, 6, 7, 8], [0, 1, 2, 3, 4, 5, 6, 7, 8, 9], [0, 1, 2, 3, 4, 5, 6, 7, 8, 9, 10], [0, 1, 2, 3, 4, 5, 6, 7, 8, 9, 10, 11], [0, 1, 2, 3, 4, 5, 6, 7, 8, 9, 10, 11, 12], [0, 1, 2, 3, 4, 5, 6, 7, 8, 9, 10], [0, 1, 2, 3, 4, 5, 6, 7, 8, 9, 10, 14], [0, 1, 2, 3, 4, 5, 6, 7, 8, 9, 10, 11, 12, 13, 14, 15], [0, 1, 2, 3, 4, 5, 6, 7, 8, 9, 10, 11, 12, 13, 14, 15, 16], [0, 1, 2, 3, 4, 5, 6, 7, 8, 9, 10, 11, 12, 13, 14, 15, 16, 17], [0, 1, 2, 3, 4, 5, 6, 7, 8, 9, 10, 11, 12, 13, 14, 15, 16, 17, 18], [0, 1, 2, 3, 4, 5, 6, 7, 8, 9, 10, 11, 12, 13, 14, 15, 16, 17, 18, 19], [0, 1, 2, 3, 4, 5, 6, 7, 8, 9, 10, 11, 12, 13, 14, 15, 16, 17, 18, 19, 20], [0, 1, 2, 3, 4, 5, 6, 7, 8, 9, 10, 11, 12, 13, 14, 15, 16, 17, 18, 19, 20, 21], [0, 1, 2, 3, 4, 5, 6, 7, 8, 9, 10, 11, 12, 13, 14, 15, 16, 17, 18, 19, 20, 21, 22], [0, 1, 2, 3, 4, 5, 6, 7, 8, 9, 10, 11, 12, 13, 14, 15, 16, 17, 18, 19, 20, 21, 22, 23], [0, 1, 2, 3, 4, 5, 6, 7, 8, 9, 10, 11, 12, 13, 14, 15, 16, 17, 18, 19, 20, 21, 22, 23, 24], [0, 1, 2, 3, 4, 5, 6, 7, 8, 9, 10, 11, 12, 13, 14, 15, 16, 17, 18, 19, 20, 21, 22, 23, 24, 25], [0, 1, 2, 3, 4, 5, 6, 7, 8, 9, 10, 11, 12, 13, 14, 15, 16, 17, 18, 19, 20, 21, 22, 23, 24, 25, 26], [0, 1, 2, 3, 4, 5, 6, 7, 8, 9, 10, 11, 12, 13, 14, 15, 16, 17, 18, 19, 20, 21, 22, 23, 24, 25, 26, 27], [0, 1, 2, 3, 4, 5, 6, 7, 8, 9, 10, 11, 12, 13, 14, 15, 16, 17, 18, 19, 20, 21, 22, 23, 24, 25, 26, 27], [0, 1, 2, 3, 4, 5, 6, 7, 8, 9, 10, 11, 12, 13, 14, 15, 16, 17, 18, 19, 20, 21, 22, 23, 24, 25, 26, 27, 29], [0, 1, 2, 3, 4, 5, 6, 7, 8, 9, 10, 11, 12, 13, 14, 15, 16, 17, 18, 19, 20, 21, 22, 23, 24, 25, 26, 27, 28, 29, 30], [0, 1, 2, 3, 4, 5, 6, 7, 8, 9, 10, 11, 12, 13, 14, 15, 16, 17, 18, 19, 20, 21, 22, 23, 24, 25, 26, 27, 28, 29, 30, 31], [0, 1, 2, 3, 4, 5, 6, 7, 8, 9, 10, 11, 12, 13, 14, 15, 16, 17, 18, 19, 20, 21, 22, 23, 24, 25, 26, 27, 28, 29, 30, 31, 32], [0, 1, 2, 3, 4, 5, 6, 7, 8, 9, 10, 11, 12, 13, 14, 15, 16, 17, 18, 19, 20, 21, 22, 23, 24, 25, 26, 27], [0, 1, 2, 3, 4, 5, 6, 7, 8, 9, 10, 11, 12, 13, 14, 15, 16, 17, 18, 19, 20, 21, 22, 23, 24, 25, 26, 27, 34], [0, 1, 2, 3, 4, 5, 6, 7, 8, 9, 10, 11, 12, 13, 14, 15, 16, 17, 18, 19, 20, 21, 22, 23, 24, 25, 26, 27, 28, 29, 30, 31, 32, 33, 34, 35], [0, 1, 2, 3, 4, 5, 6, 7, 8, 9, 10, 11, 12, 13, 14, 15, 16, 17, 18, 19, 20, 21, 22, 23, 24, 25, 26, 27, 28, 29, 30, 31, 32, 33, 34, 35, 36], [0, 1, 2, 3, 4, 5, 6, 7, 8, 9, 10, 11, 12, 13, 14, 15, 16, 17, 18, 19, 20, 21, 22, 23, 24, 25, 26, 27, 28, 29, 30, 31, 32, 33, 34, 35, 36, 37]]
def record_words.jo2 (l0 : List (ByteArray × ByteArray)) (x7_1 : Int) (k1 : Nat) (lo1 : Int → Option (Bool)) : Option (Bool) := (if 0 ≤ x7_1 then (if x7_1 < (l0.length : Int) then lt (((l0).getD (x7_1).toNat (ByteArray.empty, ByteArray.empty)).1) fun y8 => (if (y8.size : Int) > (30 : Int) then some false else lt (((l0).getD (x7_1).toNat (ByteArray.empty, ByteArray.empty)).1) fun y11 => (header_Token.f k1 y11).bind fun t13 => (if t13 = true then lt (((l0).getD (x7_1).toNat (ByteArray.empty, ByteArray.empty)).1) fun y17 => (hex_Lower.f k1 y17).bind fun t19 => lt (((l0).getD (x7_1).toNat (ByteArray.empty, ByteArray.empty)).1) fun y22 => (if (t19.toList == y22.toList) = true then lt (((l0).getD (x7_1).toNat (ByteArray.empty, ByteArray.empty)).2) fun y25 => (record_text.f k1 y25 (60 : Int)).bind fun t27 => (if t27 = true then (if x7_1 > (0 : Int) then (if 0 ≤ IntKind.wrap .i64 (x7_1 - (1 : Int)) then (if IntKind.wrap .i64 (x7_1 - (1 : Int)) < (l0.length : Int) then lt (((l0).getD (IntKind.wrap .i64 (x7_1 - (1 : Int))).toNat (ByteArray.empty, ByteArray.empty)).1) fun y36 => lt (((l0).getD (x7_1).toNat (ByteArray.empty, ByteArray.empty)).1) fun y38 => (if (Op.bytesLess y36.toList y38.toList) = true then lo1 (IntKind.wrap .i64 (x7_1 + (1 : Int))) else some false) else none) else none) else lo1 (IntKind.wrap .i64 (x7_1 + (1 : Int)))) else some false) else some false) else some false)) else none) else none)
def record_words.lo1 (l0 : List (ByteArray × ByteArray)) : Nat → Int → Option (Bool)
  | 0, _ => none
  | k1 + 1, x7_1 => (if x7_1 < (l0.length : Int) then (record_words.jo2 l0 x7_1 k1 (record_words.lo1 l0 k1)) else some (decide ((l0.length : Int) ≤ (8 : Int))))
def record_words.f (k : Nat) (l0 : List (ByteArray × ByteArray)) : Option (Bool) :=
  record_words.lo1 l0 k (0 : Int)
set_option maxRecDepth 100000 in
set_option maxHeartbeats 4000000 in
theorem record_words.calls (k : Nat) (A0 : Option Addr) (c0 : Nat) (l0 : List (ByteArray × ByteArray)) (r : Bool) (b : Bs) (hs0 : St b (stl []) b.w) (R0 : Ro b A0 (em T67 l0)) (C0 : l0.length ≤ c0) (H : record_words.f k l0 = some r) :
    Calls Try.prog 49 #[.slice A0 l0.length c0] b.w fun e w' => ∃ x : Unit, e = .returned (.bool r) ∧ St b (stl []) w' := by
  unfold record_words.f at H
  refine enterb (n := 55) Try.func49 rfl (by kernel_rfl) (by kernel_rfl) hs0 ?_
  refine cs_sub (s0) (sub_nil _) ?_
  refine cs_seq ?_
  refine cs_region (l := [_]) ?_
  refine lv (.bool false) ?_
  refine ls_end ?_
  refine qn_then ?_
  refine cs_seq ?_
  refine cs_seq ?_
  refine cs_region (l := [_, _, _]) ?_
  refine lv (.slice A0 l0.length c0) ?_
  refine lv (.int .i64 (l0.length : Int)) ?_
  refine lv (.int .i64 (0 : Int)) ?_
  refine ls_end ?_
  refine qn_then ?_
  refine cs_block ?_
  refine cs_sub (s0) (sub_nil _) ?_
  refine cs_loop (fun kk f S => ∃ (fR : Fr) (x7_1 : Int), f = upd (upd (upd (upd fR 0 (.slice A0 l0.length c0)) 5 (.slice A0 l0.length c0)) 6 (.int .i64 (l0.length : Int))) 7 (.int .i64 x7_1) ∧ S = s0 ∧ record_words.lo1 l0 kk x7_1 = some r) k ?_ ?_ ?_
  · exact ⟨_, (0 : Int), fr_next (fr_next (fr_next (fr_next (rfl) (by kernel_rfl)) (by kernel_rfl)) (by kernel_rfl)) (by kernel_rfl), rfl, H⟩
  · rintro f S ⟨fr1, x7_1, rfl, rfl, H⟩; cases H
  rintro k1 f S ⟨fr1, x7_1, rfl, rfl, H⟩
  replace H : ((if x7_1 < (l0.length : Int) then (record_words.jo2 l0 x7_1 k1 (record_words.lo1 l0 k1)) else some (decide ((l0.length : Int) ≤ (8 : Int))))) = some r := H
  refine cs_seq ?_
  refine cs_region (l := [_]) ?_
  refine lv (.bool (decide (x7_1 < (l0.length : Int)))) ?_
  refine ls_end ?_
  refine qn_then ?_
  refine cs_cut (fun f S => ∃ (fR : Fr), f = upd (upd (upd (upd fR 0 (.slice A0 l0.length c0)) 5 (.slice A0 l0.length c0)) 6 (.int .i64 (l0.length : Int))) 7 (.int .i64 x7_1) ∧ S = s0 ∧ record_words.jo2 l0 x7_1 k1 (record_words.lo1 l0 k1) = some r) ?_ ?_
  · skip
    by_cases q41 : x7_1 < (l0.length : Int)
    · replace H := ite_t q41 H
      refine cs_know (c := true) (dec_t q41) 8 (by kernel_rfl) ?_
      refine cs_true (by kernel_rfl) ?_
      refine cs_skip' ?_
      refine qn_meet (s0) ⟨_, fr_next (fr_next (fr_next (fr_next (rfl) (by kernel_rfl)) (by kernel_rfl)) (by kernel_rfl)) (by kernel_rfl), rfl, H⟩ (sub_nil _)
    replace H := ite_f q41 H
    refine cs_know (c := false) (dec_f q41) 8 (by kernel_rfl) ?_
    refine cs_false (by kernel_rfl) ?_
    refine cs_exit' ?_
    refine qx_then ?_
    refine qx_then ?_
    refine qx_same ?_
    refine qn_then ?_
    refine cs_seq ?_
    refine cs_region (l := [_, _, _, _]) ?_
    refine lv (.slice A0 l0.length c0) ?_
    refine lv (.int .i64 (l0.length : Int)) ?_
    refine lv (.bool (decide ((l0.length : Int) ≤ (8 : Int)))) ?_
    refine lv (.bool (decide ((l0.length : Int) ≤ (8 : Int)))) ?_
    refine ls_end ?_
    refine qn_then ?_
    refine cs_ret' ?_
    obtain rfl := Option.some.inj H
    refine qr_res (rs := [_]) rfl (fun w' hs => ⟨[.bool (decide ((l0.length : Int) ≤ (8 : Int)))], (res_tmp (by kernel_rfl) (.nil)), (), rfl, hs.pick (ts := []) (cs := []) trivial (by decide)⟩)
  rintro f S ⟨fr2, rfl, rfl, H⟩
  replace H : ((if 0 ≤ x7_1 then (if x7_1 < (l0.length : Int) then lt (((l0).getD (x7_1).toNat (ByteArray.empty, ByteArray.empty)).1) fun y8 => (if (y8.size : Int) > (30 : Int) then some false else lt (((l0).getD (x7_1).toNat (ByteArray.empty, ByteArray.empty)).1) fun y11 => (header_Token.f k1 y11).bind fun t13 => (if t13 = true then lt (((l0).getD (x7_1).toNat (ByteArray.empty, ByteArray.empty)).1) fun y17 => (hex_Lower.f k1 y17).bind fun t19 => lt (((l0).getD (x7_1).toNat (ByteArray.empty, ByteArray.empty)).1) fun y22 => (if (t19.toList == y22.toList) = true then lt (((l0).getD (x7_1).toNat (ByteArray.empty, ByteArray.empty)).2) fun y25 => (record_text.f k1 y25 (60 : Int)).bind fun t27 => (if t27 = true then (if x7_1 > (0 : Int) then (if 0 ≤ IntKind.wrap .i64 (x7_1 - (1 : Int)) then (if IntKind.wrap .i64 (x7_1 - (1 : Int)) < (l0.length : Int) then lt (((l0).getD (IntKind.wrap .i64 (x7_1 - (1 : Int))).toNat (ByteArray.empty, ByteArray.empty)).1) fun y36 => lt (((l0).getD (x7_1).toNat (ByteArray.empty, ByteArray.empty)).1) fun y38 => (if (Op.bytesLess y36.toList y38.toList) = true then (record_words.lo1 l0 k1) (IntKind.wrap .i64 (x7_1 + (1 : Int))) else some false) else none) else none) else (record_words.lo1 l0 k1) (IntKind.wrap .i64 (x7_1 + (1 : Int)))) else some false) else some false) else some false)) else none) else none)) = some r := H
  refine cs_seq ?_
  refine cs_block ?_
  refine cs_seq ?_
  refine cs_region (l := [_, _, _, _, _, _]) ?_
  refine lv (.int .i64 x7_1) ?_
  obtain ⟨q1, H⟩ := ite_need H
  obtain ⟨q2, H⟩ := ite_need H
  obtain ⟨ad3, hA4⟩ := ido_at (T := T67) (l := l0) (i := x7_1) R0 q1 q2
  refine ls_idxv T67 (A := A0) (c := c0) (l := l0) (k := .i64) (i := x7_1) (z := 2) (ad := ad3) rfl rfl (by kernel_rfl) hA4 rfl (by kernel_rfl) (by kernel_rfl) (by kernel_rfl) (by kernel_rfl) q1 q2 ?_
  refine ls_loadagg (a := (ad3.add ((x7_1).toNat * 2))) (sub := ([Value.string (((l0).getD (x7_1).toNat (ByteArray.empty, ByteArray.empty)).1)] ++ [Value.string (((l0).getD (x7_1).toNat (ByteArray.empty, ByteArray.empty)).2)])) rfl rfl (by kernel_rfl) rfl (by kernel_rfl) (by kernel_rfl) (by kernel_rfl) (len_app (len1 _) (len1 _)) (fun w hs => (hs.old R0).part hA4 (em_sub T67 l0 (i := (x7_1).toNat) (by have h0 : (0 : Int) ≤ x7_1 := q1; have h1 : x7_1 < (l0.length : Int) := q2; omega))) ?_
  refine ls_new rfl rfl (by kernel_rfl) 0 (fun g => .pointer (some ⟨g, 0, none⟩)) (.cells ⟨([Value.string ByteArray.empty] ++ [Value.string ByteArray.empty])⟩ 67) (fun w => by kernel_rfl) ?_
  intro g5
  refine lv (.int .i64 x7_1) ?_
  refine ls_storec (g := g5) (off := 0) (v := .agg ⟨([Value.string (((l0).getD (x7_1).toNat (ByteArray.empty, ByteArray.empty)).1)] ++ [Value.string (((l0).getD (x7_1).toNat (ByteArray.empty, ByteArray.empty)).2)])⟩) (vs := ([Value.string (((l0).getD (x7_1).toNat (ByteArray.empty, ByteArray.empty)).1)] ++ [Value.string (((l0).getD (x7_1).toNat (ByteArray.empty, ByteArray.empty)).2)])) (cs := ([Value.string ByteArray.empty] ++ [Value.string ByteArray.empty])) (ty := 67) 0 rfl rfl rfl (by kernel_rfl) (by kernel_rfl) (by kernel_rfl) (by exact rfl) (by kernel_rfl) (len_app (len1 _) (len1 _)) (one_app (one_cons rfl one_nil) (one_cons rfl one_nil)) (hl_of (Sub4.all _) (len_eq (len_app (len1 _) (len1 _)) (len_app (len1 _) (len1 _)))) (cs' := ([Value.string (((l0).getD (x7_1).toNat (ByteArray.empty, ByteArray.empty)).1)] ++ [Value.string (((l0).getD (x7_1).toNat (ByteArray.empty, ByteArray.empty)).2)])) (splc_all (len_eq (len_app (len1 _) (len1 _)) (len_app (len1 _) (len1 _)))) ?_
  refine ls_end ?_
  refine qn_then ?_
  refine cs_seq ?_
  obtain ⟨s7_0, hs7_0⟩ := exv (.pointer (some ⟨g5, (0 + 0), none⟩))
  refine have_opa record_words.tab5 1 0 (fun sp => sp 0 = s7_0) (fun sp on hA hon => ?_) (fun ops7_0 => ?_)
  · refine ⟨fun o ho vs Rs f' S' w hp hf hx hS hR hs => ?_⟩
    obtain rfl := Option.some.inj ho
    exact opv (.pointer (some ⟨g5, (0 + 0), none⟩)) hA hs7_0 hon (fr_next (rfl) ((hx 4 (by kernel_rfl)).trans (by kernel_rfl : (_ : Value) = .pointer (some ⟨g5, 0, none⟩))))
  obtain ⟨y8, hy9, H⟩ := lt_some H
  obtain ⟨s7_1, hs7_1⟩ := exv (.string y8)
  refine have_opa record_words.tab5 1 1 (fun sp => sp 1 = s7_1 ∧ sp 0 = s7_0) (fun sp on hA hon => ?_) (fun ops7_1 => ?_)
  · refine ⟨fun o ho vs Rs f' S' w hp hf hx hS hR hs => ?_⟩
    obtain rfl := Option.some.inj ho
    obtain ⟨hv0, hR0⟩ := (spe hA.2 hs7_0 (hp 0 (by kernel_rfl)))
    rw [hA.1, hs7_1]
    refine wn hon ?_
    have hF := fr_next (rfl) ((hf 0 12 (by kernel_rfl) rfl).trans hv0)
    refine ls_fr hF ?_
    refine ls_load (a0 := ⟨g5, (0 + 0), none⟩) (v := .string (((l0).getD (x7_1).toNat (ByteArray.empty, ByteArray.empty)).1)) (de := TypeDesc.string) rfl rfl (by kernel_rfl) rfl (by kernel_rfl) (by kernel_rfl) (by kernel_rfl) (fun w1 hs1 => cell_step hs1.below.bw (hs.var (k := 0) ((hS 0 (by kernel_rfl)).trans (by exact rfl)) (Sub4.trans (Sub4.all _) (Sub4.head _ _)))) ?_
    refine ls_ren 13 (v := .string (((l0).getD (x7_1).toNat (ByteArray.empty, ByteArray.empty)).1)) (v' := .string y8) (by kernel_rfl) (by rw [hy9]) ?_
    exact ls_fin s0 _ ((upd_upd _ _ _ _).trans (congrArg (fun z => upd z 13 _) hF.symm)) ⟨rfl, rfl⟩ (sub_nil _)
  obtain ⟨s7_2, hs7_2⟩ := exv (.int .i64 (y8.size : Int))
  refine have_opa record_words.tab5 1 2 (fun sp => sp 2 = s7_2 ∧ sp 1 = s7_1) (fun sp on hA hon => ?_) (fun ops7_2 => ?_)
  · refine ⟨fun o ho vs Rs f' S' w hp hf hx hS hR hs => ?_⟩
    obtain rfl := Option.some.inj ho
    obtain ⟨hv1, hR1⟩ := (spe hA.2 hs7_1 (hp 1 (by kernel_rfl)))
    exact opv (.int .i64 (y8.size : Int)) hA.1 hs7_2 hon (fr_next (rfl) ((hf 1 13 (by kernel_rfl) rfl).trans hv1))
  obtain ⟨s7_3, hs7_3⟩ := exv (.bool (decide ((y8.size : Int) > (30 : Int))))
  refine have_opa record_words.tab5 1 3 (fun sp => sp 3 = s7_3 ∧ sp 2 = s7_2) (fun sp on hA hon => ?_) (fun ops7_3 => ?_)
  · refine ⟨fun o ho vs Rs f' S' w hp hf hx hS hR hs => ?_⟩
    obtain rfl := Option.some.inj ho
    obtain ⟨hv2, hR2⟩ := (spe hA.2 hs7_2 (hp 2 (by kernel_rfl)))
    exact opv (.bool (decide ((y8.size : Int) > (30 : Int)))) hA.1 hs7_3 hon (fr_next (rfl) ((hf 2 14 (by kernel_rfl) rfl).trans hv2))
  obtain ⟨s7_4, hs7_4⟩ := exv (.bool (decide ((y8.size : Int) > (30 : Int))))
  refine have_opa record_words.tab5 1 4 (fun sp => sp 4 = s7_4 ∧ sp 3 = s7_3) (fun sp on hA hon => ?_) (fun ops7_4 => ?_)
  · refine ⟨fun o ho vs Rs f' S' w hp hf hx hS hR hs => ?_⟩
    obtain rfl := Option.some.inj ho
    obtain ⟨hv3, hR3⟩ := (spe hA.2 hs7_3 (hp 3 (by kernel_rfl)))
    exact opv (.bool (decide ((y8.size : Int) > (30 : Int)))) hA.1 hs7_4 hon (fr_next (rfl) ((hf 3 15 (by kernel_rfl) rfl).trans hv3))
  by_cases q10 : (y8.size : Int) > (30 : Int)
  · replace H := ite_t q10 H
    obtain ⟨s7_9, hs7_9⟩ := exv (.bool true)
    refine have_opa record_words.tab5 1 9 (fun sp => sp 9 = s7_9 ∧ sp 4 = s7_4 ∧ sp 8 = spu) (fun sp on hA hon => ?_) (fun ops7_9 => ?_)
    · refine ⟨fun o ho vs Rs f' S' w hp hf hx hS hR hs => ?_⟩
      obtain rfl := Option.some.inj ho
      obtain ⟨hv4, hR4⟩ := (spe hA.2.1 hs7_4 (hp 4 (by kernel_rfl)))
      obtain ⟨hv8, hR8⟩ := (spe hA.2.2 rfl (hp 8 (by kernel_rfl)) : spu _ _)
      exact opv (.bool true) hA.1 hs7_9 hon (fr_next (fr_next (rfl) (((hf 4 16 (by kernel_rfl) rfl).trans hv4).trans (congrArg Value.bool (show (decide ((y8.size : Int) > (30 : Int))) = true from dec_t q10)))) ((hf 8 20 (by kernel_rfl) rfl).trans hv8))
    obtain ⟨s7_10, hs7_10⟩ := exv (.bool true)
    refine have_opa record_words.tab5 1 10 (fun sp => sp 10 = s7_10 ∧ sp 9 = s7_9) (fun sp on hA hon => ?_) (fun ops7_10 => ?_)
    · refine ⟨fun o ho vs Rs f' S' w hp hf hx hS hR hs => ?_⟩
      obtain rfl := Option.some.inj ho
      obtain ⟨hv9, hR9⟩ := (spe hA.2 hs7_9 (hp 9 (by kernel_rfl)))
      exact opv (.bool true) hA.1 hs7_10 hon (fr_next (rfl) ((hf 9 21 (by kernel_rfl) rfl).trans hv9))
    obtain ⟨s7_17, hs7_17⟩ := exv (.bool true)
    refine have_opa record_words.tab5 1 17 (fun sp => sp 17 = s7_17 ∧ sp 10 = s7_10 ∧ sp 16 = spu) (fun sp on hA hon => ?_) (fun ops7_17 => ?_)
    · refine ⟨fun o ho vs Rs f' S' w hp hf hx hS hR hs => ?_⟩
      obtain rfl := Option.some.inj ho
      obtain ⟨hv10, hR10⟩ := (spe hA.2.1 hs7_10 (hp 10 (by kernel_rfl)))
      obtain ⟨hv16, hR16⟩ := (spe hA.2.2 rfl (hp 16 (by kernel_rfl)) : spu _ _)
      exact opv (.bool true) hA.1 hs7_17 hon (fr_next (fr_next (rfl) ((hf 10 22 (by kernel_rfl) rfl).trans hv10)) ((hf 16 28 (by kernel_rfl) rfl).trans hv16))
    obtain ⟨s7_18, hs7_18⟩ := exv (.bool true)
    refine have_opa record_words.tab5 1 18 (fun sp => sp 18 = s7_18 ∧ sp 17 = s7_17) (fun sp on hA hon => ?_) (fun ops7_18 => ?_)
    · refine ⟨fun o ho vs Rs f' S' w hp hf hx hS hR hs => ?_⟩
      obtain rfl := Option.some.inj ho
      obtain ⟨hv17, hR17⟩ := (spe hA.2 hs7_17 (hp 17 (by kernel_rfl)))
      exact opv (.bool true) hA.1 hs7_18 hon (fr_next (rfl) ((hf 17 29 (by kernel_rfl) rfl).trans hv17))
    obtain ⟨s7_23, hs7_23⟩ := exv (.bool true)
    refine have_opa record_words.tab5 1 23 (fun sp => sp 23 = s7_23 ∧ sp 18 = s7_18 ∧ sp 22 = spu) (fun sp on hA hon => ?_) (fun ops7_23 => ?_)
    · refine ⟨fun o ho vs Rs f' S' w hp hf hx hS hR hs => ?_⟩
      obtain rfl := Option.some.inj ho
      obtain ⟨hv18, hR18⟩ := (spe hA.2.1 hs7_18 (hp 18 (by kernel_rfl)))
      obtain ⟨hv22, hR22⟩ := (spe hA.2.2 rfl (hp 22 (by kernel_rfl)) : spu _ _)
      exact opv (.bool true) hA.1 hs7_23 hon (fr_next (fr_next (rfl) ((hf 18 30 (by kernel_rfl) rfl).trans hv18)) ((hf 22 34 (by kernel_rfl) rfl).trans hv22))
    obtain ⟨s7_24, hs7_24⟩ := exv (.bool true)
    refine have_opa record_words.tab5 1 24 (fun sp => sp 24 = s7_24 ∧ sp 23 = s7_23) (fun sp on hA hon => ?_) (fun ops7_24 => ?_)
    · refine ⟨fun o ho vs Rs f' S' w hp hf hx hS hR hs => ?_⟩
      obtain rfl := Option.some.inj ho
      obtain ⟨hv23, hR23⟩ := (spe hA.2 hs7_23 (hp 23 (by kernel_rfl)))
      exact opv (.bool true) hA.1 hs7_24 hon (fr_next (rfl) ((hf 23 35 (by kernel_rfl) rfl).trans hv23))
    refine cs_draw record_words.tab5 36 1 (spl [s7_0, s7_1, s7_2, s7_3, s7_4, spu, spu, spu, spu, s7_9, s7_10, spu, spu, spu, spu, spu, spu, s7_17, s7_18, spu, spu, spu, spu, s7_23, s7_24, spu, spu, spu, spu, spu, spu, spu, spu, spu, spu, spu]) (onl [true, true, true, true, true, false, false, false, false, true, true, false, false, false, false, false, false, true, true, false, false, false, false, true, true, false, false, false, false, false, false, false, false, false, false, false]) (by kernel_rfl) (by kernel_rfl) (by kernel_rfl) (by kernel_rfl) (rs := [_, _, _]) rfl (by kernel_rfl) (by kernel_rfl) (all_snoc (all_snoc (all_snoc (all_snoc (all_snoc (all_snoc (all_snoc (all_snoc (all_snoc (all_snoc (all_snoc (all_snoc (all_snoc (all_snoc (all_snoc (all_snoc (all_snoc (all_snoc (all_snoc (all_snoc (all_snoc (all_snoc (all_snoc (all_snoc (all_snoc (all_snoc (all_snoc (all_snoc (all_snoc (all_snoc (all_snoc (all_snoc (all_snoc (all_snoc (all_snoc (all_snoc (all_nil) (ops7_0 _ _ rfl rfl)) (ops7_1 _ _ ⟨rfl, rfl⟩ rfl)) (ops7_2 _ _ ⟨rfl, rfl⟩ rfl)) (ops7_3 _ _ ⟨rfl, rfl⟩ rfl)) (ops7_4 _ _ ⟨rfl, rfl⟩ rfl)) (op_offi 5 4 16 false rfl rfl (by kernel_rfl) (by kernel_rfl) rfl (fun v R h => by rw [hs7_4] at h; obtain ⟨h, _⟩ := h; exact h.trans (congrArg Value.bool (show (decide ((y8.size : Int) > (30 : Int))) = true from dec_t q10))) rfl rfl)) (op_offi 6 4 16 false rfl rfl (by kernel_rfl) (by kernel_rfl) rfl (fun v R h => by rw [hs7_4] at h; obtain ⟨h, _⟩ := h; exact h.trans (congrArg Value.bool (show (decide ((y8.size : Int) > (30 : Int))) = true from dec_t q10))) rfl rfl)) (op_offi 7 4 16 false rfl rfl (by kernel_rfl) (by kernel_rfl) rfl (fun v R h => by rw [hs7_4] at h; obtain ⟨h, _⟩ := h; exact h.trans (congrArg Value.bool (show (decide ((y8.size : Int) > (30 : Int))) = true from dec_t q10))) rfl rfl)) (op_offi 8 4 16 false rfl rfl (by kernel_rfl) (by kernel_rfl) rfl (fun v R h => by rw [hs7_4] at h; obtain ⟨h, _⟩ := h; exact h.trans (congrArg Value.bool (show (decide ((y8.size : Int) > (30 : Int))) = true from dec_t q10))) rfl rfl)) (ops7_9 _ _ ⟨rfl, rfl, rfl⟩ rfl)) (ops7_10 _ _ ⟨rfl, rfl⟩ rfl)) (op_offi 11 10 22 false rfl rfl (by kernel_rfl) (by kernel_rfl) rfl (fun v R h => by rw [hs7_10] at h; obtain ⟨h, _⟩ := h; exact h) rfl rfl)) (op_offi 12 10 22 false rfl rfl (by kernel_rfl) (by kernel_rfl) rfl (fun v R h => by rw [hs7_10] at h; obtain ⟨h, _⟩ := h; exact h) rfl rfl)) (op_offi 13 10 22 false rfl rfl (by kernel_rfl) (by kernel_rfl) rfl (fun v R h => by rw [hs7_10] at h; obtain ⟨h, _⟩ := h; exact h) rfl rfl)) (op_offi 14 10 22 false rfl rfl (by kernel_rfl) (by kernel_rfl) rfl (fun v R h => by rw [hs7_10] at h; obtain ⟨h, _⟩ := h; exact h) rfl rfl)) (op_offi 15 10 22 false rfl rfl (by kernel_rfl) (by kernel_rfl) rfl (fun v R h => by rw [hs7_10] at h; obtain ⟨h, _⟩ := h; exact h) rfl rfl)) (op_offi 16 10 22 false rfl rfl (by kernel_rfl) (by kernel_rfl) rfl (fun v R h => by rw [hs7_10] at h; obtain ⟨h, _⟩ := h; exact h) rfl rfl)) (ops7_17 _ _ ⟨rfl, rfl, rfl⟩ rfl)) (ops7_18 _ _ ⟨rfl, rfl⟩ rfl)) (op_offi 19 18 30 false rfl rfl (by kernel_rfl) (by kernel_rfl) rfl (fun v R h => by rw [hs7_18] at h; obtain ⟨h, _⟩ := h; exact h) rfl rfl)) (op_offi 20 18 30 false rfl rfl (by kernel_rfl) (by kernel_rfl) rfl (fun v R h => by rw [hs7_18] at h; obtain ⟨h, _⟩ := h; exact h) rfl rfl)) (op_offi 21 18 30 false rfl rfl (by kernel_rfl) (by kernel_rfl) rfl (fun v R h => by rw [hs7_18] at h; obtain ⟨h, _⟩ := h; exact h) rfl rfl)) (op_offi 22 18 30 false rfl rfl (by kernel_rfl) (by kernel_rfl) rfl (fun v R h => by rw [hs7_18] at h; obtain ⟨h, _⟩ := h; exact h) rfl rfl)) (ops7_23 _ _ ⟨rfl, rfl, rfl⟩ rfl)) (ops7_24 _ _ ⟨rfl, rfl⟩ rfl)) (op_offi 25 24 36 false rfl rfl (by kernel_rfl) (by kernel_rfl) rfl (fun v R h => by rw [hs7_24] at h; obtain ⟨h, _⟩ := h; exact h) rfl rfl)) (op_offi 26 24 36 false rfl rfl (by kernel_rfl) (by kernel_rfl) rfl (fun v R h => by rw [hs7_24] at h; obtain ⟨h, _⟩ := h; exact h) rfl rfl)) (op_offi 27 24 36 false rfl rfl (by kernel_rfl) (by kernel_rfl) rfl (fun v R h => by rw [hs7_24] at h; obtain ⟨h, _⟩ := h; exact h) rfl rfl)) (op_offu 28 27 39 true rfl rfl (by kernel_rfl) (by kernel_rfl) rfl rfl rfl)) (op_offu 29 27 39 true rfl rfl (by kernel_rfl) (by kernel_rfl) rfl rfl rfl)) (op_offu 30 27 39 true rfl rfl (by kernel_rfl) (by kernel_rfl) rfl rfl rfl)) (op_offu 31 27 39 true rfl rfl (by kernel_rfl) (by kernel_rfl) rfl rfl rfl)) (op_offu 32 27 39 true rfl rfl (by kernel_rfl) (by kernel_rfl) rfl rfl rfl)) (op_offu 33 27 39 true rfl rfl (by kernel_rfl) (by kernel_rfl) rfl rfl rfl)) (op_offu 34 27 39 true rfl rfl (by kernel_rfl) (by kernel_rfl) rfl rfl rfl)) (op_offu 35 27 39 true rfl rfl (by kernel_rfl) (by kernel_rfl) rfl rfl rfl)) ?_
    intro vs Rs f' S' hp hf hx hS hR
    obtain ⟨hv24, hR24⟩ := (spe rfl hs7_24 (hp 24 (by kernel_rfl)))
    obtain ⟨hv27, hR27⟩ := (spe rfl rfl (hp 27 (by kernel_rfl)) : spu _ _)
    obtain ⟨hv33, hR33⟩ := (spe rfl rfl (hp 33 (by kernel_rfl)) : spu _ _)
    obtain ⟨hv35, hR35⟩ := (spe rfl rfl (hp 35 (by kernel_rfl)) : spu _ _)
    refine ls_fr (F := upd (upd (upd (upd (upd (upd f' 0 (.slice A0 l0.length c0)) 5 (.slice A0 l0.length c0)) 6 (.int .i64 (l0.length : Int))) 7 (.int .i64 x7_1)) 36 (.bool true)) 39 undef) (fr_next (fr_next (fr_next (fr_next (fr_next (fr_next (rfl) ((hx 0 (by kernel_rfl)).trans (by kernel_rfl : (_ : Value) = .slice A0 l0.length c0))) ((hx 5 (by kernel_rfl)).trans (by kernel_rfl : (_ : Value) = .slice A0 l0.length c0))) ((hx 6 (by kernel_rfl)).trans (by kernel_rfl : (_ : Value) = .int .i64 (l0.length : Int)))) ((hx 7 (by kernel_rfl)).trans (by kernel_rfl : (_ : Value) = .int .i64 x7_1))) ((hf 24 36 (by kernel_rfl) rfl).trans hv24)) ((hf 27 39 (by kernel_rfl) rfl).trans hv27)) ?_
    refine ls_sub (s0) (sub_nil _) ?_
    refine ls_offu (j := 27) (t := 39) (b := true) rfl rfl (by kernel_rfl) (by kernel_rfl) rfl (by kernel_rfl) ?_
    refine lofx 24 36 false true ?_
    refine lv (.bool true) ?_
    refine ls_end ?_
    refine qn_then ?_
    refine cs_true (by kernel_rfl) ?_
    refine cs_seq ?_
    refine cs_region (l := [_]) ?_
    refine lv (.bool false) ?_
    refine ls_end ?_
    refine qn_then ?_
    refine cs_ret' ?_
    refine qr_block ?_
    refine qr_then ?_
    refine qr_then ?_
    refine qr_block ?_
    refine qr_then ?_
    obtain rfl := Option.some.inj H
    refine qr_res (rs := [_]) rfl (fun w' hs => ⟨[.bool false], (res_tmp (by kernel_rfl) (.nil)), (), rfl, hs.pick (ts := []) (cs := []) trivial (by decide)⟩)
  replace H := ite_f q10 H
  obtain ⟨s7_5, hs7_5⟩ := exv (.pointer (some ⟨g5, (0 + 0), none⟩))
  refine have_opa record_words.tab5 1 5 (fun sp => sp 5 = s7_5 ∧ sp 4 = s7_4) (fun sp on hA hon => ?_) (fun ops7_5 => ?_)
  · refine ⟨fun o ho vs Rs f' S' w hp hf hx hS hR hs => ?_⟩
    obtain rfl := Option.some.inj ho
    obtain ⟨hv4, hR4⟩ := (spe hA.2 hs7_4 (hp 4 (by kernel_rfl)))
    rw [hA.1, hs7_5]
    refine And.intro (fun a ha => (want_is (j := 4) (t := 16) (r := true) rfl rfl (by kernel_rfl) (((hf 4 16 (by kernel_rfl) rfl).trans hv4).trans (congrArg Value.bool (show (decide ((y8.size : Int) > (30 : Int))) = false from dec_f q10))) rfl a ha).trans hon.symm) (And.intro (fun _ => ?_) (fun h => by rw [hon] at h; cases h))
    have hF := fr_next (fr_next (rfl) ((hx 4 (by kernel_rfl)).trans (by kernel_rfl : (_ : Value) = .pointer (some ⟨g5, 0, none⟩)))) (((hf 4 16 (by kernel_rfl) rfl).trans hv4).trans (congrArg Value.bool (show (decide ((y8.size : Int) > (30 : Int))) = false from dec_f q10)))
    refine ls_fr hF ?_
    refine lv (.pointer (some ⟨g5, (0 + 0), none⟩)) ?_
    exact ls_fin s0 _ (congrArg (fun z => upd z 17 _) hF.symm) ⟨rfl, rfl⟩ (sub_nil _)
  obtain ⟨y11, hy12, H⟩ := lt_some H
  obtain ⟨s7_6, hs7_6⟩ := exv (.string y11)
  refine have_opa record_words.tab5 1 6 (fun sp => sp 6 = s7_6 ∧ sp 4 = s7_4 ∧ sp 5 = s7_5) (fun sp on hA hon => ?_) (fun ops7_6 => ?_)
  · refine ⟨fun o ho vs Rs f' S' w hp hf hx hS hR hs => ?_⟩
    obtain rfl := Option.some.inj ho
    obtain ⟨hv4, hR4⟩ := (spe hA.2.1 hs7_4 (hp 4 (by kernel_rfl)))
    obtain ⟨hv5, hR5⟩ := (spe hA.2.2 hs7_5 (hp 5 (by kernel_rfl)))
    rw [hA.1, hs7_6]
    refine And.intro (fun a ha => (want_is (j := 4) (t := 16) (r := true) rfl rfl (by kernel_rfl) (((hf 4 16 (by kernel_rfl) rfl).trans hv4).trans (congrArg Value.bool (show (decide ((y8.size : Int) > (30 : Int))) = false from dec_f q10))) rfl a ha).trans hon.symm) (And.intro (fun _ => ?_) (fun h => by rw [hon] at h; cases h))
    have hF := fr_next (fr_next (rfl) (((hf 4 16 (by kernel_rfl) rfl).trans hv4).trans (congrArg Value.bool (show (decide ((y8.size : Int) > (30 : Int))) = false from dec_f q10)))) ((hf 5 17 (by kernel_rfl) rfl).trans hv5)
    refine ls_fr hF ?_
    refine ls_load (a0 := ⟨g5, (0 + 0), none⟩) (v := .string (((l0).getD (x7_1).toNat (ByteArray.empty, ByteArray.empty)).1)) (de := TypeDesc.string) rfl rfl (by kernel_rfl) rfl (by kernel_rfl) (by kernel_rfl) (by kernel_rfl) (fun w1 hs1 => cell_step hs1.below.bw (hs.var (k := 0) ((hS 0 (by kernel_rfl)).trans (by exact rfl)) (Sub4.trans (Sub4.all _) (Sub4.head _ _)))) ?_
    refine ls_ren 18 (v := .string (((l0).getD (x7_1).toNat (ByteArray.empty, ByteArray.empty)).1)) (v' := .string y11) (by kernel_rfl) (by rw [hy12]) ?_
    exact ls_fin s0 _ ((upd_upd _ _ _ _).trans (congrArg (fun z => upd z 18 _) hF.symm)) ⟨rfl, rfl⟩ (sub_nil _)
  obtain ⟨t13, hc14, H⟩ := bind_some H
  obtain ⟨s7_7, hs7_7⟩ : ∃ z : Value → Sto → Prop, z = (fun v R => ∃ x15 : Unit, v = .bool t13 ∧ R = stl []) := ⟨_, rfl⟩
  refine have_opa record_words.tab5 1 7 (fun sp => sp 7 = s7_7 ∧ sp 4 = s7_4 ∧ sp 6 = s7_6) (fun sp on hA hon => ?_) (fun ops7_7 => ?_)
  · refine ⟨fun o ho vs Rs f' S' w hp hf hx hS hR hs => ?_⟩
    obtain rfl := Option.some.inj ho
    obtain ⟨hv4, hR4⟩ := (spe hA.2.1 hs7_4 (hp 4 (by kernel_rfl)))
    obtain ⟨hv6, hR6⟩ := (spe hA.2.2 hs7_6 (hp 6 (by kernel_rfl)))
    rw [hA.1, hs7_7]
    refine And.intro (fun a ha => (want_is (j := 4) (t := 16) (r := true) rfl rfl (by kernel_rfl) (((hf 4 16 (by kernel_rfl) rfl).trans hv4).trans (congrArg Value.bool (show (decide ((y8.size : Int) > (30 : Int))) = false from dec_f q10))) rfl a ha).trans hon.symm) (And.intro (fun _ => ?_) (fun h => by rw [hon] at h; cases h))
    have hF := fr_next (fr_next (rfl) (((hf 4 16 (by kernel_rfl) rfl).trans hv4).trans (congrArg Value.bool (show (decide ((y8.size : Int) > (30 : Int))) = false from dec_f q10)))) ((hf 6 18 (by kernel_rfl) rfl).trans hv6)
    refine ls_fr hF ?_
    refine ls_call (fid := 80) (vals := #[.string y11]) (X := Unit) (fun x => .bool t13) (fun x => stl []) 0 rfl rfl (by kernel_rfl) (fun w => by kernel_rfl) (fun w1 hs1 => header_Token.calls k1 y11 t13 (bw w1) (St.refl w1)  hc14) ?_
    intro x15
    exact ls_fin (stl []) (.bool t13) (congrArg (fun z => upd z 19 _) hF.symm) ⟨x15, rfl, rfl⟩ (sub_join _)
  obtain ⟨s7_8, hs7_8⟩ := exv (.bool (!t13))
  refine have_opa record_words.tab5 1 8 (fun sp => sp 8 = s7_8 ∧ sp 4 = s7_4 ∧ sp 7 = s7_7) (fun sp on hA hon => ?_) (fun ops7_8 => ?_)
  · refine ⟨fun o ho vs Rs f' S' w hp hf hx hS hR hs => ?_⟩
    obtain rfl := Option.some.inj ho
    obtain ⟨hv4, hR4⟩ := (spe hA.2.1 hs7_4 (hp 4 (by kernel_rfl)))
    obtain ⟨x15, hv7, hR7⟩ := (spe hA.2.2 hs7_7 (hp 7 (by kernel_rfl)))
    rw [hA.1, hs7_8]
    refine And.intro (fun a ha => (want_is (j := 4) (t := 16) (r := true) rfl rfl (by kernel_rfl) (((hf 4 16 (by kernel_rfl) rfl).trans hv4).trans (congrArg Value.bool (show (decide ((y8.size : Int) > (30 : Int))) = false from dec_f q10))) rfl a ha).trans hon.symm) (And.intro (fun _ => ?_) (fun h => by rw [hon] at h; cases h))
    have hF := fr_next (fr_next (rfl) (((hf 4 16 (by kernel_rfl) rfl).trans hv4).trans (congrArg Value.bool (show (decide ((y8.size : Int) > (30 : Int))) = false from dec_f q10)))) ((hf 7 19 (by kernel_rfl) rfl).trans hv7)
    refine ls_fr hF ?_
    refine lv (.bool (!t13)) ?_
    exact ls_fin s0 _ (congrArg (fun z => upd z 20 _) hF.symm) ⟨rfl, rfl⟩ (sub_nil _)
  obtain ⟨s7_9, hs7_9⟩ := exv (.bool (!t13))
  refine have_opa record_words.tab5 1 9 (fun sp => sp 9 = s7_9 ∧ sp 4 = s7_4 ∧ sp 8 = s7_8) (fun sp on hA hon => ?_) (fun ops7_9 => ?_)
  · refine ⟨fun o ho vs Rs f' S' w hp hf hx hS hR hs => ?_⟩
    obtain rfl := Option.some.inj ho
    obtain ⟨hv4, hR4⟩ := (spe hA.2.1 hs7_4 (hp 4 (by kernel_rfl)))
    obtain ⟨hv8, hR8⟩ := (spe hA.2.2 hs7_8 (hp 8 (by kernel_rfl)))
    exact opv (.bool (!t13)) hA.1 hs7_9 hon (fr_next (fr_next (rfl) (((hf 4 16 (by kernel_rfl) rfl).trans hv4).trans (congrArg Value.bool (show (decide ((y8.size : Int) > (30 : Int))) = false from dec_f q10)))) ((hf 8 20 (by kernel_rfl) rfl).trans hv8))
  obtain ⟨s7_10, hs7_10⟩ := exv (.bool (!t13))
  refine have_opa record_words.tab5 1 10 (fun sp => sp 10 = s7_10 ∧ sp 9 = s7_9) (fun sp on hA hon => ?_) (fun ops7_10 => ?_)
  · refine ⟨fun o ho vs Rs f' S' w hp hf hx hS hR hs => ?_⟩
    obtain rfl := Option.some.inj ho
    obtain ⟨hv9, hR9⟩ := (spe hA.2 hs7_9 (hp 9 (by kernel_rfl)))
    exact opv (.bool (!t13)) hA.1 hs7_10 hon (fr_next (rfl) ((hf 9 21 (by kernel_rfl) rfl).trans hv9))
  by_cases q16 : t13 = true
  · replace H := ite_t q16 H
    obtain ⟨s7_11, hs7_11⟩ := exv (.pointer (some ⟨g5, (0 + 0), none⟩))
    refine have_opa record_words.tab5 1 11 (fun sp => sp 11 = s7_11 ∧ sp 10 = s7_10) (fun sp on hA hon => ?_) (fun ops7_11 => ?_)
    · refine ⟨fun o ho vs Rs f' S' w hp hf hx hS hR hs => ?_⟩
      obtain rfl := Option.some.inj ho
      obtain ⟨hv10, hR10⟩ := (spe hA.2 hs7_10 (hp 10 (by kernel_rfl)))
      rw [hA.1, hs7_11]
      refine And.intro (fun a ha => (want_is (j := 10) (t := 22) (r := true) rfl rfl (by kernel_rfl) (((hf 10 22 (by kernel_rfl) rfl).trans hv10).trans (congrArg Value.bool (show (!t13) = false from congrArg Bool.not (q16)))) rfl a ha).trans hon.symm) (And.intro (fun _ => ?_) (fun h => by rw [hon] at h; cases h))
      have hF := fr_next (fr_next (rfl) ((hx 4 (by kernel_rfl)).trans (by kernel_rfl : (_ : Value) = .pointer (some ⟨g5, 0, none⟩)))) (((hf 10 22 (by kernel_rfl) rfl).trans hv10).trans (congrArg Value.bool (show (!t13) = false from congrArg Bool.not (q16))))
      refine ls_fr hF ?_
      refine lv (.pointer (some ⟨g5, (0 + 0), none⟩)) ?_
      exact ls_fin s0 _ (congrArg (fun z => upd z 23 _) hF.symm) ⟨rfl, rfl⟩ (sub_nil _)
    obtain ⟨y17, hy18, H⟩ := lt_some H
    obtain ⟨s7_12, hs7_12⟩ := exv (.string y17)
    refine have_opa record_words.tab5 1 12 (fun sp => sp 12 = s7_12 ∧ sp 10 = s7_10 ∧ sp 11 = s7_11) (fun sp on hA hon => ?_) (fun ops7_12 => ?_)
    · refine ⟨fun o ho vs Rs f' S' w hp hf hx hS hR hs => ?_⟩
      obtain rfl := Option.some.inj ho
      obtain ⟨hv10, hR10⟩ := (spe hA.2.1 hs7_10 (hp 10 (by kernel_rfl)))
      obtain ⟨hv11, hR11⟩ := (spe hA.2.2 hs7_11 (hp 11 (by kernel_rfl)))
      rw [hA.1, hs7_12]
      refine And.intro (fun a ha => (want_is (j := 10) (t := 22) (r := true) rfl rfl (by kernel_rfl) (((hf 10 22 (by kernel_rfl) rfl).trans hv10).trans (congrArg Value.bool (show (!t13) = false from congrArg Bool.not (q16)))) rfl a ha).trans hon.symm) (And.intro (fun _ => ?_) (fun h => by rw [hon] at h; cases h))
      have hF := fr_next (fr_next (rfl) (((hf 10 22 (by kernel_rfl) rfl).trans hv10).trans (congrArg Value.bool (show (!t13) = false from congrArg Bool.not (q16))))) ((hf 11 23 (by kernel_rfl) rfl).trans hv11)
      refine ls_fr hF ?_
      refine ls_load (a0 := ⟨g5, (0 + 0), none⟩) (v := .string (((l0).getD (x7_1).toNat (ByteArray.empty, ByteArray.empty)).1)) (de := TypeDesc.string) rfl rfl (by kernel_rfl) rfl (by kernel_rfl) (by kernel_rfl) (by kernel_rfl) (fun w1 hs1 => cell_step hs1.below.bw (hs.var (k := 0) ((hS 0 (by kernel_rfl)).trans (by exact rfl)) (Sub4.trans (Sub4.all _) (Sub4.head _ _)))) ?_
      refine ls_ren 24 (v := .string (((l0).getD (x7_1).toNat (ByteArray.empty, ByteArray.empty)).1)) (v' := .string y17) (by kernel_rfl) (by rw [hy18]) ?_
      exact ls_fin s0 _ ((upd_upd _ _ _ _).trans (congrArg (fun z => upd z 24 _) hF.symm)) ⟨rfl, rfl⟩ (sub_nil _)
    obtain ⟨t19, hc20, H⟩ := bind_some H
    obtain ⟨s7_13, hs7_13⟩ : ∃ z : Value → Sto → Prop, z = (fun v R => ∃ x21 : Unit, v = .string t19 ∧ R = stl []) := ⟨_, rfl⟩
    refine have_opa record_words.tab5 1 13 (fun sp => sp 13 = s7_13 ∧ sp 10 = s7_10 ∧ sp 12 = s7_12) (fun sp on hA hon => ?_) (fun ops7_13 => ?_)
    · refine ⟨fun o ho vs Rs f' S' w hp hf hx hS hR hs => ?_⟩
      obtain rfl := Option.some.inj ho
      obtain ⟨hv10, hR10⟩ := (spe hA.2.1 hs7_10 (hp 10 (by kernel_rfl)))
      obtain ⟨hv12, hR12⟩ := (spe hA.2.2 hs7_12 (hp 12 (by kernel_rfl)))
      rw [hA.1, hs7_13]
      refine And.intro (fun a ha => (want_is (j := 10) (t := 22) (r := true) rfl rfl (by kernel_rfl) (((hf 10 22 (by kernel_rfl) rfl).trans hv10).trans (congrArg Value.bool (show (!t13) = false from congrArg Bool.not (q16)))) rfl a ha).trans hon.symm) (And.intro (fun _ => ?_) (fun h => by rw [hon] at h; cases h))
      have hF := fr_next (fr_next (rfl) (((hf 10 22 (by kernel_rfl) rfl).trans hv10).trans (congrArg Value.bool (show (!t13) = false from congrArg Bool.not (q16))))) ((hf 12 24 (by kernel_rfl) rfl).trans hv12)
      refine ls_fr hF ?_
      refine ls_call (fid := 81) (vals := #[.string y17]) (X := Unit) (fun x => .string t19) (fun x => stl []) 0 rfl rfl (by kernel_rfl) (fun w => by kernel_rfl) (fun w1 hs1 => hex_Lower.calls k1 y17 t19 (bw w1) (St.refl w1)  hc20) ?_
      intro x21
      exact ls_fin (stl []) (.string t19) (congrArg (fun z => upd z 25 _) hF.symm) ⟨x21, rfl, rfl⟩ (sub_join _)
    obtain ⟨s7_14, hs7_14⟩ := exv (.pointer (some ⟨g5, (0 + 0), none⟩))
    refine have_opa record_words.tab5 1 14 (fun sp => sp 14 = s7_14 ∧ sp 10 = s7_10) (fun sp on hA hon => ?_) (fun ops7_14 => ?_)
    · refine ⟨fun o ho vs Rs f' S' w hp hf hx hS hR hs => ?_⟩
      obtain rfl := Option.some.inj ho
      obtain ⟨hv10, hR10⟩ := (spe hA.2 hs7_10 (hp 10 (by kernel_rfl)))
      rw [hA.1, hs7_14]
      refine And.intro (fun a ha => (want_is (j := 10) (t := 22) (r := true) rfl rfl (by kernel_rfl) (((hf 10 22 (by kernel_rfl) rfl).trans hv10).trans (congrArg Value.bool (show (!t13) = false from congrArg Bool.not (q16)))) rfl a ha).trans hon.symm) (And.intro (fun _ => ?_) (fun h => by rw [hon] at h; cases h))
      have hF := fr_next (fr_next (rfl) ((hx 4 (by kernel_rfl)).trans (by kernel_rfl : (_ : Value) = .pointer (some ⟨g5, 0, none⟩)))) (((hf 10 22 (by kernel_rfl) rfl).trans hv10).trans (congrArg Value.bool (show (!t13) = false from congrArg Bool.not (q16))))
      refine ls_fr hF ?_
      refine lv (.pointer (some ⟨g5, (0 + 0), none⟩)) ?_
      exact ls_fin s0 _ (congrArg (fun z => upd z 26 _) hF.symm) ⟨rfl, rfl⟩ (sub_nil _)
    obtain ⟨y22, hy23, H⟩ := lt_some H
    obtain ⟨s7_15, hs7_15⟩ := exv (.string y22)
    refine have_opa record_words.tab5 1 15 (fun sp => sp 15 = s7_15 ∧ sp 10 = s7_10 ∧ sp 14 = s7_14) (fun sp on hA hon => ?_) (fun ops7_15 => ?_)
    · refine ⟨fun o ho vs Rs f' S' w hp hf hx hS hR hs => ?_⟩
      obtain rfl := Option.some.inj ho
      obtain ⟨hv10, hR10⟩ := (spe hA.2.1 hs7_10 (hp 10 (by kernel_rfl)))
      obtain ⟨hv14, hR14⟩ := (spe hA.2.2 hs7_14 (hp 14 (by kernel_rfl)))
      rw [hA.1, hs7_15]
      refine And.intro (fun a ha => (want_is (j := 10) (t := 22) (r := true) rfl rfl (by kernel_rfl) (((hf 10 22 (by kernel_rfl) rfl).trans hv10).trans (congrArg Value.bool (show (!t13) = false from congrArg Bool.not (q16)))) rfl a ha).trans hon.symm) (And.intro (fun _ => ?_) (fun h => by rw [hon] at h; cases h))
      have hF := fr_next (fr_next (rfl) (((hf 10 22 (by kernel_rfl) rfl).trans hv10).trans (congrArg Value.bool (show (!t13) = false from congrArg Bool.not (q16))))) ((hf 14 26 (by kernel_rfl) rfl).trans hv14)
      refine ls_fr hF ?_
      refine ls_load (a0 := ⟨g5, (0 + 0), none⟩) (v := .string (((l0).getD (x7_1).toNat (ByteArray.empty, ByteArray.empty)).1)) (de := TypeDesc.string) rfl rfl (by kernel_rfl) rfl (by kernel_rfl) (by kernel_rfl) (by kernel_rfl) (fun w1 hs1 => cell_step hs1.below.bw (hs.var (k := 0) ((hS 0 (by kernel_rfl)).trans (by exact rfl)) (Sub4.trans (Sub4.all _) (Sub4.head _ _)))) ?_
      refine ls_ren 27 (v := .string (((l0).getD (x7_1).toNat (ByteArray.empty, ByteArray.empty)).1)) (v' := .string y22) (by kernel_rfl) (by rw [hy23]) ?_
      exact ls_fin s0 _ ((upd_upd _ _ _ _).trans (congrArg (fun z => upd z 27 _) hF.symm)) ⟨rfl, rfl⟩ (sub_nil _)
    obtain ⟨s7_16, hs7_16⟩ := exv (.bool (!(t19.toList == y22.toList)))
    refine have_opa record_words.tab5 1 16 (fun sp => sp 16 = s7_16 ∧ sp 10 = s7_10 ∧ sp 13 = s7_13 ∧ sp 15 = s7_15) (fun sp on hA hon => ?_) (fun ops7_16 => ?_)
    · refine ⟨fun o ho vs Rs f' S' w hp hf hx hS hR hs => ?_⟩
      obtain rfl := Option.some.inj ho
      obtain ⟨hv10, hR10⟩ := (spe hA.2.1 hs7_10 (hp 10 (by kernel_rfl)))
      obtain ⟨x21, hv13, hR13⟩ := (spe hA.2.2.1 hs7_13 (hp 13 (by kernel_rfl)))
      obtain ⟨hv15, hR15⟩ := (spe hA.2.2.2 hs7_15 (hp 15 (by kernel_rfl)))
      rw [hA.1, hs7_16]
      refine And.intro (fun a ha => (want_is (j := 10) (t := 22) (r := true) rfl rfl (by kernel_rfl) (((hf 10 22 (by kernel_rfl) rfl).trans hv10).trans (congrArg Value.bool (show (!t13) = false from congrArg Bool.not (q16)))) rfl a ha).trans hon.symm) (And.intro (fun _ => ?_) (fun h => by rw [hon] at h; cases h))
      have hF := fr_next (fr_next (fr_next (rfl) (((hf 10 22 (by kernel_rfl) rfl).trans hv10).trans (congrArg Value.bool (show (!t13) = false from congrArg Bool.not (q16))))) ((hf 13 25 (by kernel_rfl) rfl).trans hv13)) ((hf 15 27 (by kernel_rfl) rfl).trans hv15)
      refine ls_fr hF ?_
      refine lv (.bool (!(t19.toList == y22.toList))) ?_
      exact ls_fin s0 _ (congrArg (fun z => upd z 28 _) hF.symm) ⟨rfl, rfl⟩ (sub_nil _)
    obtain ⟨s7_17, hs7_17⟩ := exv (.bool (!(t19.toList == y22.toList)))
    refine have_opa record_words.tab5 1 17 (fun sp => sp 17 = s7_17 ∧ sp 10 = s7_10 ∧ sp 16 = s7_16) (fun sp on hA hon => ?_) (fun ops7_17 => ?_)
    · refine ⟨fun o ho vs Rs f' S' w hp hf hx hS hR hs => ?_⟩
      obtain rfl := Option.some.inj ho
      obtain ⟨hv10, hR10⟩ := (spe hA.2.1 hs7_10 (hp 10 (by kernel_rfl)))
      obtain ⟨hv16, hR16⟩ := (spe hA.2.2 hs7_16 (hp 16 (by kernel_rfl)))
      exact opv (.bool (!(t19.toList == y22.toList))) hA.1 hs7_17 hon (fr_next (fr_next (rfl) (((hf 10 22 (by kernel_rfl) rfl).trans hv10).trans (congrArg Value.bool (show (!t13) = false from congrArg Bool.not (q16))))) ((hf 16 28 (by kernel_rfl) rfl).trans hv16))
    obtain ⟨s7_18, hs7_18⟩ := exv (.bool (!(t19.toList == y22.toList)))
    refine have_opa record_words.tab5 1 18 (fun sp => sp 18 = s7_18 ∧ sp 17 = s7_17) (fun sp on hA hon => ?_) (fun ops7_18 => ?_)
    · refine ⟨fun o ho vs Rs f' S' w hp hf hx hS hR hs => ?_⟩
      obtain rfl := Option.some.inj ho
      obtain ⟨hv17, hR17⟩ := (spe hA.2 hs7_17 (hp 17 (by kernel_rfl)))
      exact opv (.bool (!(t19.toList == y22.toList))) hA.1 hs7_18 hon (fr_next (rfl) ((hf 17 29 (by kernel_rfl) rfl).trans hv17))
    by_cases q24 : (t19.toList == y22.toList) = true
    · replace H := ite_t q24 H
      obtain ⟨s7_19, hs7_19⟩ := exv (.pointer (some ⟨g5, (0 + 1), none⟩))
      refine have_opa record_words.tab5 1 19 (fun sp => sp 19 = s7_19 ∧ sp 18 = s7_18) (fun sp on hA hon => ?_) (fun ops7_19 => ?_)
      · refine ⟨fun o ho vs Rs f' S' w hp hf hx hS hR hs => ?_⟩
        obtain rfl := Option.some.inj ho
        obtain ⟨hv18, hR18⟩ := (spe hA.2 hs7_18 (hp 18 (by kernel_rfl)))
        rw [hA.1, hs7_19]
        refine And.intro (fun a ha => (want_is (j := 18) (t := 30) (r := true) rfl rfl (by kernel_rfl) (((hf 18 30 (by kernel_rfl) rfl).trans hv18).trans (congrArg Value.bool (show (!(t19.toList == y22.toList)) = false from congrArg Bool.not (q24)))) rfl a ha).trans hon.symm) (And.intro (fun _ => ?_) (fun h => by rw [hon] at h; cases h))
        have hF := fr_next (fr_next (rfl) ((hx 4 (by kernel_rfl)).trans (by kernel_rfl : (_ : Value) = .pointer (some ⟨g5, 0, none⟩)))) (((hf 18 30 (by kernel_rfl) rfl).trans hv18).trans (congrArg Value.bool (show (!(t19.toList == y22.toList)) = false from congrArg Bool.not (q24))))
        refine ls_fr hF ?_
        refine lv (.pointer (some ⟨g5, (0 + 1), none⟩)) ?_
        exact ls_fin s0 _ (congrArg (fun z => upd z 31 _) hF.symm) ⟨rfl, rfl⟩ (sub_nil _)
      obtain ⟨y25, hy26, H⟩ := lt_some H
      obtain ⟨s7_20, hs7_20⟩ := exv (.string y25)
      refine have_opa record_words.tab5 1 20 (fun sp => sp 20 = s7_20 ∧ sp 18 = s7_18 ∧ sp 19 = s7_19) (fun sp on hA hon => ?_) (fun ops7_20 => ?_)
      · refine ⟨fun o ho vs Rs f' S' w hp hf hx hS hR hs => ?_⟩
        obtain rfl := Option.some.inj ho
        obtain ⟨hv18, hR18⟩ := (spe hA.2.1 hs7_18 (hp 18 (by kernel_rfl)))
        obtain ⟨hv19, hR19⟩ := (spe hA.2.2 hs7_19 (hp 19 (by kernel_rfl)))
        rw [hA.1, hs7_20]
        refine And.intro (fun a ha => (want_is (j := 18) (t := 30) (r := true) rfl rfl (by kernel_rfl) (((hf 18 30 (by kernel_rfl) rfl).trans hv18).trans (congrArg Value.bool (show (!(t19.toList == y22.toList)) = false from congrArg Bool.not (q24)))) rfl a ha).trans hon.symm) (And.intro (fun _ => ?_) (fun h => by rw [hon] at h; cases h))
        have hF := fr_next (fr_next (rfl) (((hf 18 30 (by kernel_rfl) rfl).trans hv18).trans (congrArg Value.bool (show (!(t19.toList == y22.toList)) = false from congrArg Bool.not (q24))))) ((hf 19 31 (by kernel_rfl) rfl).trans hv19)
        refine ls_fr hF ?_
        refine ls_load (a0 := ⟨g5, (0 + 1), none⟩) (v := .string (((l0).getD (x7_1).toNat (ByteArray.empty, ByteArray.empty)).2)) (de := TypeDesc.string) rfl rfl (by kernel_rfl) rfl (by kernel_rfl) (by kernel_rfl) (by kernel_rfl) (fun w1 hs1 => cell_step hs1.below.bw (hs.var (k := 0) ((hS 0 (by kernel_rfl)).trans (by exact rfl)) (Sub4.trans (Sub4.all _) (Sub4.skip (n := 1) (len1 _) (Sub4.all _))))) ?_
        refine ls_ren 32 (v := .string (((l0).getD (x7_1).toNat (ByteArray.empty, ByteArray.empty)).2)) (v' := .string y25) (by kernel_rfl) (by rw [hy26]) ?_
        exact ls_fin s0 _ ((upd_upd _ _ _ _).trans (congrArg (fun z => upd z 32 _) hF.symm)) ⟨rfl, rfl⟩ (sub_nil _)
      obtain ⟨t27, hc28, H⟩ := bind_some H
      obtain ⟨s7_21, hs7_21⟩ : ∃ z : Value → Sto → Prop, z = (fun v R => ∃ x29 : Unit, v = .bool t27 ∧ R = stl []) := ⟨_, rfl⟩
      refine have_opa record_words.tab5 1 21 (fun sp => sp 21 = s7_21 ∧ sp 18 = s7_18 ∧ sp 20 = s7_20) (fun sp on hA hon => ?_) (fun ops7_21 => ?_)
      · refine ⟨fun o ho vs Rs f' S' w hp hf hx hS hR hs => ?_⟩
        obtain rfl := Option.some.inj ho
        obtain ⟨hv18, hR18⟩ := (spe hA.2.1 hs7_18 (hp 18 (by kernel_rfl)))
        obtain ⟨hv20, hR20⟩ := (spe hA.2.2 hs7_20 (hp 20 (by kernel_rfl)))
        rw [hA.1, hs7_21]
        refine And.intro (fun a ha => (want_is (j := 18) (t := 30) (r := true) rfl rfl (by kernel_rfl) (((hf 18 30 (by kernel_rfl) rfl).trans hv18).trans (congrArg Value.bool (show (!(t19.toList == y22.toList)) = false from congrArg Bool.not (q24)))) rfl a ha).trans hon.symm) (And.intro (fun _ => ?_) (fun h => by rw [hon] at h; cases h))
        have hF := fr_next (fr_next (rfl) (((hf 18 30 (by kernel_rfl) rfl).trans hv18).trans (congrArg Value.bool (show (!(t19.toList == y22.toList)) = false from congrArg Bool.not (q24))))) ((hf 20 32 (by kernel_rfl) rfl).trans hv20)
        refine ls_fr hF ?_
        refine ls_call (fid := 48) (vals := #[.string y25, .int .i64 (60 : Int)]) (X := Unit) (fun x => .bool t27) (fun x => stl []) 0 rfl rfl (by kernel_rfl) (fun w => by kernel_rfl) (fun w1 hs1 => record_text.calls k1 y25 (60 : Int) t27 (bw w1) (St.refl w1)  hc28) ?_
        intro x29
        exact ls_fin (stl []) (.bool t27) (congrArg (fun z => upd z 33 _) hF.symm) ⟨x29, rfl, rfl⟩ (sub_join _)
      obtain ⟨s7_22, hs7_22⟩ := exv (.bool (!t27))
      refine have_opa record_words.tab5 1 22 (fun sp => sp 22 = s7_22 ∧ sp 18 = s7_18 ∧ sp 21 = s7_21) (fun sp on hA hon => ?_) (fun ops7_22 => ?_)
      · refine ⟨fun o ho vs Rs f' S' w hp hf hx hS hR hs => ?_⟩
        obtain rfl := Option.some.inj ho
        obtain ⟨hv18, hR18⟩ := (spe hA.2.1 hs7_18 (hp 18 (by kernel_rfl)))
        obtain ⟨x29, hv21, hR21⟩ := (spe hA.2.2 hs7_21 (hp 21 (by kernel_rfl)))
        rw [hA.1, hs7_22]
        refine And.intro (fun a ha => (want_is (j := 18) (t := 30) (r := true) rfl rfl (by kernel_rfl) (((hf 18 30 (by kernel_rfl) rfl).trans hv18).trans (congrArg Value.bool (show (!(t19.toList == y22.toList)) = false from congrArg Bool.not (q24)))) rfl a ha).trans hon.symm) (And.intro (fun _ => ?_) (fun h => by rw [hon] at h; cases h))
        have hF := fr_next (fr_next (rfl) (((hf 18 30 (by kernel_rfl) rfl).trans hv18).trans (congrArg Value.bool (show (!(t19.toList == y22.toList)) = false from congrArg Bool.not (q24))))) ((hf 21 33 (by kernel_rfl) rfl).trans hv21)
        refine ls_fr hF ?_
        refine lv (.bool (!t27)) ?_
        exact ls_fin s0 _ (congrArg (fun z => upd z 34 _) hF.symm) ⟨rfl, rfl⟩ (sub_nil _)
      obtain ⟨s7_23, hs7_23⟩ := exv (.bool (!t27))
      refine have_opa record_words.tab5 1 23 (fun sp => sp 23 = s7_23 ∧ sp 18 = s7_18 ∧ sp 22 = s7_22) (fun sp on hA hon => ?_) (fun ops7_23 => ?_)
      · refine ⟨fun o ho vs Rs f' S' w hp hf hx hS hR hs => ?_⟩
        obtain rfl := Option.some.inj ho
        obtain ⟨hv18, hR18⟩ := (spe hA.2.1 hs7_18 (hp 18 (by kernel_rfl)))
        obtain ⟨hv22, hR22⟩ := (spe hA.2.2 hs7_22 (hp 22 (by kernel_rfl)))
        exact opv (.bool (!t27)) hA.1 hs7_23 hon (fr_next (fr_next (rfl) (((hf 18 30 (by kernel_rfl) rfl).trans hv18).trans (congrArg Value.bool (show (!(t19.toList == y22.toList)) = false from congrArg Bool.not (q24))))) ((hf 22 34 (by kernel_rfl) rfl).trans hv22))
      obtain ⟨s7_24, hs7_24⟩ := exv (.bool (!t27))
      refine have_opa record_words.tab5 1 24 (fun sp => sp 24 = s7_24 ∧ sp 23 = s7_23) (fun sp on hA hon => ?_) (fun ops7_24 => ?_)
      · refine ⟨fun o ho vs Rs f' S' w hp hf hx hS hR hs => ?_⟩
        obtain rfl := Option.some.inj ho
        obtain ⟨hv23, hR23⟩ := (spe hA.2 hs7_23 (hp 23 (by kernel_rfl)))
        exact opv (.bool (!t27)) hA.1 hs7_24 hon (fr_next (rfl) ((hf 23 35 (by kernel_rfl) rfl).trans hv23))
      by_cases q30 : t27 = true
      · replace H := ite_t q30 H
        obtain ⟨s7_25, hs7_25⟩ := exv (.int .i64 x7_1)
        refine have_opa record_words.tab5 1 25 (fun sp => sp 25 = s7_25 ∧ sp 24 = s7_24) (fun sp on hA hon => ?_) (fun ops7_25 => ?_)
        · refine ⟨fun o ho vs Rs f' S' w hp hf hx hS hR hs => ?_⟩
          obtain rfl := Option.some.inj ho
          obtain ⟨hv24, hR24⟩ := (spe hA.2 hs7_24 (hp 24 (by kernel_rfl)))
          rw [hA.1, hs7_25]
          refine And.intro (fun a ha => (want_is (j := 24) (t := 36) (r := true) rfl rfl (by kernel_rfl) (((hf 24 36 (by kernel_rfl) rfl).trans hv24).trans (congrArg Value.bool (show (!t27) = false from congrArg Bool.not (q30)))) rfl a ha).trans hon.symm) (And.intro (fun _ => ?_) (fun h => by rw [hon] at h; cases h))
          have hF := fr_next (fr_next (rfl) ((hx 3 (by kernel_rfl)).trans (by kernel_rfl : (_ : Value) = .int .i64 x7_1))) (((hf 24 36 (by kernel_rfl) rfl).trans hv24).trans (congrArg Value.bool (show (!t27) = false from congrArg Bool.not (q30))))
          refine ls_fr hF ?_
          refine lv (.int .i64 x7_1) ?_
          exact ls_fin s0 _ (congrArg (fun z => upd z 37 _) hF.symm) ⟨rfl, rfl⟩ (sub_nil _)
        obtain ⟨s7_26, hs7_26⟩ := exv (.bool (decide (x7_1 > (0 : Int))))
        refine have_opa record_words.tab5 1 26 (fun sp => sp 26 = s7_26 ∧ sp 24 = s7_24 ∧ sp 25 = s7_25) (fun sp on hA hon => ?_) (fun ops7_26 => ?_)
        · refine ⟨fun o ho vs Rs f' S' w hp hf hx hS hR hs => ?_⟩
          obtain rfl := Option.some.inj ho
          obtain ⟨hv24, hR24⟩ := (spe hA.2.1 hs7_24 (hp 24 (by kernel_rfl)))
          obtain ⟨hv25, hR25⟩ := (spe hA.2.2 hs7_25 (hp 25 (by kernel_rfl)))
          rw [hA.1, hs7_26]
          refine And.intro (fun a ha => (want_is (j := 24) (t := 36) (r := true) rfl rfl (by kernel_rfl) (((hf 24 36 (by kernel_rfl) rfl).trans hv24).trans (congrArg Value.bool (show (!t27) = false from congrArg Bool.not (q30)))) rfl a ha).trans hon.symm) (And.intro (fun _ => ?_) (fun h => by rw [hon] at h; cases h))
          have hF := fr_next (fr_next (rfl) (((hf 24 36 (by kernel_rfl) rfl).trans hv24).trans (congrArg Value.bool (show (!t27) = false from congrArg Bool.not (q30))))) ((hf 25 37 (by kernel_rfl) rfl).trans hv25)
          refine ls_fr hF ?_
          refine lv (.bool (decide (x7_1 > (0 : Int)))) ?_
          exact ls_fin s0 _ (congrArg (fun z => upd z 38 _) hF.symm) ⟨rfl, rfl⟩ (sub_nil _)
        obtain ⟨s7_27, hs7_27⟩ := exv (.bool (decide (x7_1 > (0 : Int))))
        refine have_opa record_words.tab5 1 27 (fun sp => sp 27 = s7_27 ∧ sp 24 = s7_24 ∧ sp 26 = s7_26) (fun sp on hA hon => ?_) (fun ops7_27 => ?_)
        · refine ⟨fun o ho vs Rs f' S' w hp hf hx hS hR hs => ?_⟩
          obtain rfl := Option.some.inj ho
          obtain ⟨hv24, hR24⟩ := (spe hA.2.1 hs7_24 (hp 24 (by kernel_rfl)))
          obtain ⟨hv26, hR26⟩ := (spe hA.2.2 hs7_26 (hp 26 (by kernel_rfl)))
          rw [hA.1, hs7_27]
          refine And.intro (fun a ha => (want_is (j := 24) (t := 36) (r := true) rfl rfl (by kernel_rfl) (((hf 24 36 (by kernel_rfl) rfl).trans hv24).trans (congrArg Value.bool (show (!t27) = false from congrArg Bool.not (q30)))) rfl a ha).trans hon.symm) (And.intro (fun _ => ?_) (fun h => by rw [hon] at h; cases h))
          have hF := fr_next (fr_next (rfl) (((hf 24 36 (by kernel_rfl) rfl).trans hv24).trans (congrArg Value.bool (show (!t27) = false from congrArg Bool.not (q30))))) ((hf 26 38 (by kernel_rfl) rfl).trans hv26)
          refine ls_fr hF ?_
          refine lv (.bool (decide (x7_1 > (0 : Int)))) ?_
          exact ls_fin s0 _ (congrArg (fun z => upd z 39 _) hF.symm) ⟨rfl, rfl⟩ (sub_nil _)
        by_cases q31 : x7_1 > (0 : Int)
        · replace H := ite_t q31 H
          obtain ⟨s7_28, hs7_28⟩ := exv (.slice A0 l0.length c0)
          refine have_opa record_words.tab5 1 28 (fun sp => sp 28 = s7_28 ∧ sp 27 = s7_27) (fun sp on hA hon => ?_) (fun ops7_28 => ?_)
          · refine ⟨fun o ho vs Rs f' S' w hp hf hx hS hR hs => ?_⟩
            obtain rfl := Option.some.inj ho
            obtain ⟨hv27, hR27⟩ := (spe hA.2 hs7_27 (hp 27 (by kernel_rfl)))
            rw [hA.1, hs7_28]
            refine And.intro (fun a ha => (want_is (j := 27) (t := 39) (r := true) rfl rfl (by kernel_rfl) (((hf 27 39 (by kernel_rfl) rfl).trans hv27).trans (congrArg Value.bool (show (decide (x7_1 > (0 : Int))) = true from dec_t q31))) rfl a ha).trans hon.symm) (And.intro (fun _ => ?_) (fun h => by rw [hon] at h; cases h))
            have hF := fr_next (fr_next (rfl) ((hx 0 (by kernel_rfl)).trans (by kernel_rfl : (_ : Value) = .slice A0 l0.length c0))) (((hf 27 39 (by kernel_rfl) rfl).trans hv27).trans (congrArg Value.bool (show (decide (x7_1 > (0 : Int))) = true from dec_t q31)))
            refine ls_fr hF ?_
            refine lv (.slice A0 l0.length c0) ?_
            exact ls_fin s0 _ (congrArg (fun z => upd z 40 _) hF.symm) ⟨rfl, rfl⟩ (sub_nil _)
          obtain ⟨s7_29, hs7_29⟩ := exv (.int .i64 x7_1)
          refine have_opa record_words.tab5 1 29 (fun sp => sp 29 = s7_29 ∧ sp 27 = s7_27) (fun sp on hA hon => ?_) (fun ops7_29 => ?_)
          · refine ⟨fun o ho vs Rs f' S' w hp hf hx hS hR hs => ?_⟩
            obtain rfl := Option.some.inj ho
            obtain ⟨hv27, hR27⟩ := (spe hA.2 hs7_27 (hp 27 (by kernel_rfl)))
            rw [hA.1, hs7_29]
            refine And.intro (fun a ha => (want_is (j := 27) (t := 39) (r := true) rfl rfl (by kernel_rfl) (((hf 27 39 (by kernel_rfl) rfl).trans hv27).trans (congrArg Value.bool (show (decide (x7_1 > (0 : Int))) = true from dec_t q31))) rfl a ha).trans hon.symm) (And.intro (fun _ => ?_) (fun h => by rw [hon] at h; cases h))
            have hF := fr_next (fr_next (rfl) ((hx 3 (by kernel_rfl)).trans (by kernel_rfl : (_ : Value) = .int .i64 x7_1))) (((hf 27 39 (by kernel_rfl) rfl).trans hv27).trans (congrArg Value.bool (show (decide (x7_1 > (0 : Int))) = true from dec_t q31)))
            refine ls_fr hF ?_
            refine lv (.int .i64 x7_1) ?_
            exact ls_fin s0 _ (congrArg (fun z => upd z 41 _) hF.symm) ⟨rfl, rfl⟩ (sub_nil _)
          obtain ⟨s7_30, hs7_30⟩ := exv (.int .i64 (IntKind.wrap .i64 (x7_1 - (1 : Int))))
          refine have_opa record_words.tab5 1 30 (fun sp => sp 30 = s7_30 ∧ sp 27 = s7_27 ∧ sp 29 = s7_29) (fun sp on hA hon => ?_) (fun ops7_30 => ?_)
          · refine ⟨fun o ho vs Rs f' S' w hp hf hx hS hR hs => ?_⟩
            obtain rfl := Option.some.inj ho
            obtain ⟨hv27, hR27⟩ := (spe hA.2.1 hs7_27 (hp 27 (by kernel_rfl)))
            obtain ⟨hv29, hR29⟩ := (spe hA.2.2 hs7_29 (hp 29 (by kernel_rfl)))
            rw [hA.1, hs7_30]
            refine And.intro (fun a ha => (want_is (j := 27) (t := 39) (r := true) rfl rfl (by kernel_rfl) (((hf 27 39 (by kernel_rfl) rfl).trans hv27).trans (congrArg Value.bool (show (decide (x7_1 > (0 : Int))) = true from dec_t q31))) rfl a ha).trans hon.symm) (And.intro (fun _ => ?_) (fun h => by rw [hon] at h; cases h))
            have hF := fr_next (fr_next (rfl) (((hf 27 39 (by kernel_rfl) rfl).trans hv27).trans (congrArg Value.bool (show (decide (x7_1 > (0 : Int))) = true from dec_t q31)))) ((hf 29 41 (by kernel_rfl) rfl).trans hv29)
            refine ls_fr hF ?_
            refine lv (.int .i64 (IntKind.wrap .i64 (x7_1 - (1 : Int)))) ?_
            exact ls_fin s0 _ (congrArg (fun z => upd z 42 _) hF.symm) ⟨rfl, rfl⟩ (sub_nil _)
          obtain ⟨q32, H⟩ := ite_need H
          obtain ⟨q33, H⟩ := ite_need H
          obtain ⟨ad34, hA35⟩ := ido_at (T := T67) (l := l0) (i := IntKind.wrap .i64 (x7_1 - (1 : Int))) R0 q32 q33
          obtain ⟨s7_31, hs7_31⟩ := exv (.pointer (some (ad34.add ((IntKind.wrap .i64 (x7_1 - (1 : Int))).toNat * 2))))
          refine have_opa record_words.tab5 1 31 (fun sp => sp 31 = s7_31 ∧ sp 27 = s7_27 ∧ sp 28 = s7_28 ∧ sp 30 = s7_30) (fun sp on hA hon => ?_) (fun ops7_31 => ?_)
          · refine ⟨fun o ho vs Rs f' S' w hp hf hx hS hR hs => ?_⟩
            obtain rfl := Option.some.inj ho
            obtain ⟨hv27, hR27⟩ := (spe hA.2.1 hs7_27 (hp 27 (by kernel_rfl)))
            obtain ⟨hv28, hR28⟩ := (spe hA.2.2.1 hs7_28 (hp 28 (by kernel_rfl)))
            obtain ⟨hv30, hR30⟩ := (spe hA.2.2.2 hs7_30 (hp 30 (by kernel_rfl)))
            rw [hA.1, hs7_31]
            refine And.intro (fun a ha => (want_is (j := 27) (t := 39) (r := true) rfl rfl (by kernel_rfl) (((hf 27 39 (by kernel_rfl) rfl).trans hv27).trans (congrArg Value.bool (show (decide (x7_1 > (0 : Int))) = true from dec_t q31))) rfl a ha).trans hon.symm) (And.intro (fun _ => ?_) (fun h => by rw [hon] at h; cases h))
            have hF := fr_next (fr_next (fr_next (rfl) (((hf 27 39 (by kernel_rfl) rfl).trans hv27).trans (congrArg Value.bool (show (decide (x7_1 > (0 : Int))) = true from dec_t q31)))) ((hf 28 40 (by kernel_rfl) rfl).trans hv28)) ((hf 30 42 (by kernel_rfl) rfl).trans hv30)
            refine ls_fr hF ?_
            refine ls_idxv T67 (A := A0) (c := c0) (l := l0) (k := .i64) (i := IntKind.wrap .i64 (x7_1 - (1 : Int))) (z := 2) (ad := ad34) rfl rfl (by kernel_rfl) hA35 rfl (by kernel_rfl) (by kernel_rfl) (by kernel_rfl) (by kernel_rfl) q32 q33 ?_
            exact ls_fin s0 _ (congrArg (fun z => upd z 43 _) hF.symm) ⟨rfl, rfl⟩ (sub_nil _)
          obtain ⟨s7_32, hs7_32⟩ := exv (.pointer (some (ad34.add (((IntKind.wrap .i64 (x7_1 - (1 : Int))).toNat * 2) + 0))))
          refine have_opa record_words.tab5 1 32 (fun sp => sp 32 = s7_32 ∧ sp 27 = s7_27 ∧ sp 31 = s7_31) (fun sp on hA hon => ?_) (fun ops7_32 => ?_)
          · refine ⟨fun o ho vs Rs f' S' w hp hf hx hS hR hs => ?_⟩
            obtain rfl := Option.some.inj ho
            obtain ⟨hv27, hR27⟩ := (spe hA.2.1 hs7_27 (hp 27 (by kernel_rfl)))
            obtain ⟨hv31, hR31⟩ := (spe hA.2.2 hs7_31 (hp 31 (by kernel_rfl)))
            rw [hA.1, hs7_32]
            refine And.intro (fun a ha => (want_is (j := 27) (t := 39) (r := true) rfl rfl (by kernel_rfl) (((hf 27 39 (by kernel_rfl) rfl).trans hv27).trans (congrArg Value.bool (show (decide (x7_1 > (0 : Int))) = true from dec_t q31))) rfl a ha).trans hon.symm) (And.intro (fun _ => ?_) (fun h => by rw [hon] at h; cases h))
            have hF := fr_next (fr_next (rfl) (((hf 27 39 (by kernel_rfl) rfl).trans hv27).trans (congrArg Value.bool (show (decide (x7_1 > (0 : Int))) = true from dec_t q31)))) ((hf 31 43 (by kernel_rfl) rfl).trans hv31)
            refine ls_fr hF ?_
            refine ls_fieldm (ad := ad34) (off := ((IntKind.wrap .i64 (x7_1 - (1 : Int))).toNat * 2)) rfl rfl (by kernel_rfl) 0 (fun w => by kernel_rfl) ?_
            exact ls_fin s0 _ (congrArg (fun z => upd z 44 _) hF.symm) ⟨rfl, rfl⟩ (sub_nil _)
          obtain ⟨y36, hy37, H⟩ := lt_some H
          obtain ⟨s7_33, hs7_33⟩ := exv (.string y36)
          refine have_opa record_words.tab5 1 33 (fun sp => sp 33 = s7_33 ∧ sp 27 = s7_27 ∧ sp 32 = s7_32) (fun sp on hA hon => ?_) (fun ops7_33 => ?_)
          · refine ⟨fun o ho vs Rs f' S' w hp hf hx hS hR hs => ?_⟩
            obtain rfl := Option.some.inj ho
            obtain ⟨hv27, hR27⟩ := (spe hA.2.1 hs7_27 (hp 27 (by kernel_rfl)))
            obtain ⟨hv32, hR32⟩ := (spe hA.2.2 hs7_32 (hp 32 (by kernel_rfl)))
            rw [hA.1, hs7_33]
            refine And.intro (fun a ha => (want_is (j := 27) (t := 39) (r := true) rfl rfl (by kernel_rfl) (((hf 27 39 (by kernel_rfl) rfl).trans hv27).trans (congrArg Value.bool (show (decide (x7_1 > (0 : Int))) = true from dec_t q31))) rfl a ha).trans hon.symm) (And.intro (fun _ => ?_) (fun h => by rw [hon] at h; cases h))
            have hF := fr_next (fr_next (rfl) (((hf 27 39 (by kernel_rfl) rfl).trans hv27).trans (congrArg Value.bool (show (decide (x7_1 > (0 : Int))) = true from dec_t q31)))) ((hf 32 44 (by kernel_rfl) rfl).trans hv32)
            refine ls_fr hF ?_
            refine ls_load (a0 := (ad34.add (((IntKind.wrap .i64 (x7_1 - (1 : Int))).toNat * 2) + 0))) (v := .string (((l0).getD (IntKind.wrap .i64 (x7_1 - (1 : Int))).toNat (ByteArray.empty, ByteArray.empty)).1)) (de := TypeDesc.string) rfl rfl (by kernel_rfl) rfl (by kernel_rfl) (by kernel_rfl) (by kernel_rfl) (fun w1 hs1 => (Rd.step (hs.old R0) hs1.below.bw).at hA35 (Sub4.trans (em_sub T67 l0 (i := (IntKind.wrap .i64 (x7_1 - (1 : Int))).toNat) (by have h0 : (0 : Int) ≤ IntKind.wrap .i64 (x7_1 - (1 : Int)) := q32; have h1 : IntKind.wrap .i64 (x7_1 - (1 : Int)) < (l0.length : Int) := q33; omega)) (Sub4.head _ _))) ?_
            refine ls_ren 45 (v := .string (((l0).getD (IntKind.wrap .i64 (x7_1 - (1 : Int))).toNat (ByteArray.empty, ByteArray.empty)).1)) (v' := .string y36) (by kernel_rfl) (by rw [hy37]) ?_
            exact ls_fin s0 _ ((upd_upd _ _ _ _).trans (congrArg (fun z => upd z 45 _) hF.symm)) ⟨rfl, rfl⟩ (sub_nil _)
          obtain ⟨s7_34, hs7_34⟩ := exv (.pointer (some ⟨g5, (0 + 0), none⟩))
          refine have_opa record_words.tab5 1 34 (fun sp => sp 34 = s7_34 ∧ sp 27 = s7_27) (fun sp on hA hon => ?_) (fun ops7_34 => ?_)
          · refine ⟨fun o ho vs Rs f' S' w hp hf hx hS hR hs => ?_⟩
            obtain rfl := Option.some.inj ho
            obtain ⟨hv27, hR27⟩ := (spe hA.2 hs7_27 (hp 27 (by kernel_rfl)))
            rw [hA.1, hs7_34]
            refine And.intro (fun a ha => (want_is (j := 27) (t := 39) (r := true) rfl rfl (by kernel_rfl) (((hf 27 39 (by kernel_rfl) rfl).trans hv27).trans (congrArg Value.bool (show (decide (x7_1 > (0 : Int))) = true from dec_t q31))) rfl a ha).trans hon.symm) (And.intro (fun _ => ?_) (fun h => by rw [hon] at h; cases h))
            have hF := fr_next (fr_next (rfl) ((hx 4 (by kernel_rfl)).trans (by kernel_rfl : (_ : Value) = .pointer (some ⟨g5, 0, none⟩)))) (((hf 27 39 (by kernel_rfl) rfl).trans hv27).trans (congrArg Value.bool (show (decide (x7_1 > (0 : Int))) = true from dec_t q31)))
            refine ls_fr hF ?_
            refine lv (.pointer (some ⟨g5, (0 + 0), none⟩)) ?_
            exact ls_fin s0 _ (congrArg (fun z => upd z 46 _) hF.symm) ⟨rfl, rfl⟩ (sub_nil _)
          obtain ⟨y38, hy39, H⟩ := lt_some H
          obtain ⟨s7_35, hs7_35⟩ := exv (.string y38)
          refine have_opa record_words.tab5 1 35 (fun sp => sp 35 = s7_35 ∧ sp 27 = s7_27 ∧ sp 34 = s7_34) (fun sp on hA hon => ?_) (fun ops7_35 => ?_)
          · refine ⟨fun o ho vs Rs f' S' w hp hf hx hS hR hs => ?_⟩
            obtain rfl := Option.some.inj ho
            obtain ⟨hv27, hR27⟩ := (spe hA.2.1 hs7_27 (hp 27 (by kernel_rfl)))
            obtain ⟨hv34, hR34⟩ := (spe hA.2.2 hs7_34 (hp 34 (by kernel_rfl)))
            rw [hA.1, hs7_35]
            refine And.intro (fun a ha => (want_is (j := 27) (t := 39) (r := true) rfl rfl (by kernel_rfl) (((hf 27 39 (by kernel_rfl) rfl).trans hv27).trans (congrArg Value.bool (show (decide (x7_1 > (0 : Int))) = true from dec_t q31))) rfl a ha).trans hon.symm) (And.intro (fun _ => ?_) (fun h => by rw [hon] at h; cases h))
            have hF := fr_next (fr_next (rfl) (((hf 27 39 (by kernel_rfl) rfl).trans hv27).trans (congrArg Value.bool (show (decide (x7_1 > (0 : Int))) = true from dec_t q31)))) ((hf 34 46 (by kernel_rfl) rfl).trans hv34)
            refine ls_fr hF ?_
            refine ls_load (a0 := ⟨g5, (0 + 0), none⟩) (v := .string (((l0).getD (x7_1).toNat (ByteArray.empty, ByteArray.empty)).1)) (de := TypeDesc.string) rfl rfl (by kernel_rfl) rfl (by kernel_rfl) (by kernel_rfl) (by kernel_rfl) (fun w1 hs1 => cell_step hs1.below.bw (hs.var (k := 0) ((hS 0 (by kernel_rfl)).trans (by exact rfl)) (Sub4.trans (Sub4.all _) (Sub4.head _ _)))) ?_
            refine ls_ren 47 (v := .string (((l0).getD (x7_1).toNat (ByteArray.empty, ByteArray.empty)).1)) (v' := .string y38) (by kernel_rfl) (by rw [hy39]) ?_
            exact ls_fin s0 _ ((upd_upd _ _ _ _).trans (congrArg (fun z => upd z 47 _) hF.symm)) ⟨rfl, rfl⟩ (sub_nil _)
          refine cs_draw record_words.tab5 36 1 (spl [s7_0, s7_1, s7_2, s7_3, s7_4, s7_5, s7_6, s7_7, s7_8, s7_9, s7_10, s7_11, s7_12, s7_13, s7_14, s7_15, s7_16, s7_17, s7_18, s7_19, s7_20, s7_21, s7_22, s7_23, s7_24, s7_25, s7_26, s7_27, s7_28, s7_29, s7_30, s7_31, s7_32, s7_33, s7_34, s7_35]) (onl [true, true, true, true, true, true, true, true, true, true, true, true, true, true, true, true, true, true, true, true, true, true, true, true, true, true, true, true, true, true, true, true, true, true, true, true]) (by kernel_rfl) (by kernel_rfl) (by kernel_rfl) (by kernel_rfl) (rs := [_, _, _]) rfl (by kernel_rfl) (by kernel_rfl) (all_snoc (all_snoc (all_snoc (all_snoc (all_snoc (all_snoc (all_snoc (all_snoc (all_snoc (all_snoc (all_snoc (all_snoc (all_snoc (all_snoc (all_snoc (all_snoc (all_snoc (all_snoc (all_snoc (all_snoc (all_snoc (all_snoc (all_snoc (all_snoc (all_snoc (all_snoc (all_snoc (all_snoc (all_snoc (all_snoc (all_snoc (all_snoc (all_snoc (all_snoc (all_snoc (all_snoc (all_nil) (ops7_0 _ _ rfl rfl)) (ops7_1 _ _ ⟨rfl, rfl⟩ rfl)) (ops7_2 _ _ ⟨rfl, rfl⟩ rfl)) (ops7_3 _ _ ⟨rfl, rfl⟩ rfl)) (ops7_4 _ _ ⟨rfl, rfl⟩ rfl)) (ops7_5 _ _ ⟨rfl, rfl⟩ rfl)) (ops7_6 _ _ ⟨rfl, rfl, rfl⟩ rfl)) (ops7_7 _ _ ⟨rfl, rfl, rfl⟩ rfl)) (ops7_8 _ _ ⟨rfl, rfl, rfl⟩ rfl)) (ops7_9 _ _ ⟨rfl, rfl, rfl⟩ rfl)) (ops7_10 _ _ ⟨rfl, rfl⟩ rfl)) (ops7_11 _ _ ⟨rfl, rfl⟩ rfl)) (ops7_12 _ _ ⟨rfl, rfl, rfl⟩ rfl)) (ops7_13 _ _ ⟨rfl, rfl, rfl⟩ rfl)) (ops7_14 _ _ ⟨rfl, rfl⟩ rfl)) (ops7_15 _ _ ⟨rfl, rfl, rfl⟩ rfl)) (ops7_16 _ _ ⟨rfl, rfl, rfl, rfl⟩ rfl)) (ops7_17 _ _ ⟨rfl, rfl, rfl⟩ rfl)) (ops7_18 _ _ ⟨rfl, rfl⟩ rfl)) (ops7_19 _ _ ⟨rfl, rfl⟩ rfl)) (ops7_20 _ _ ⟨rfl, rfl, rfl⟩ rfl)) (ops7_21 _ _ ⟨rfl, rfl, rfl⟩ rfl)) (ops7_22 _ _ ⟨rfl, rfl, rfl⟩ rfl)) (ops7_23 _ _ ⟨rfl, rfl, rfl⟩ rfl)) (ops7_24 _ _ ⟨rfl, rfl⟩ rfl)) (ops7_25 _ _ ⟨rfl, rfl⟩ rfl)) (ops7_26 _ _ ⟨rfl, rfl, rfl⟩ rfl)) (ops7_27 _ _ ⟨rfl, rfl, rfl⟩ rfl)) (ops7_28 _ _ ⟨rfl, rfl⟩ rfl)) (ops7_29 _ _ ⟨rfl, rfl⟩ rfl)) (ops7_30 _ _ ⟨rfl, rfl, rfl⟩ rfl)) (ops7_31 _ _ ⟨rfl, rfl, rfl, rfl⟩ rfl)) (ops7_32 _ _ ⟨rfl, rfl, rfl⟩ rfl)) (ops7_33 _ _ ⟨rfl, rfl, rfl⟩ rfl)) (ops7_34 _ _ ⟨rfl, rfl⟩ rfl)) (ops7_35 _ _ ⟨rfl, rfl, rfl⟩ rfl)) ?_
          intro vs Rs f' S' hp hf hx hS hR
          obtain ⟨x15, hv7, hR7⟩ := (spe rfl hs7_7 (hp 7 (by kernel_rfl)))
          obtain ⟨x21, hv13, hR13⟩ := (spe rfl hs7_13 (hp 13 (by kernel_rfl)))
          obtain ⟨x29, hv21, hR21⟩ := (spe rfl hs7_21 (hp 21 (by kernel_rfl)))
          obtain ⟨hv24, hR24⟩ := (spe rfl hs7_24 (hp 24 (by kernel_rfl)))
          obtain ⟨hv27, hR27⟩ := (spe rfl hs7_27 (hp 27 (by kernel_rfl)))
          obtain ⟨hv33, hR33⟩ := (spe rfl hs7_33 (hp 33 (by kernel_rfl)))
          obtain ⟨hv35, hR35⟩ := (spe rfl hs7_35 (hp 35 (by kernel_rfl)))
          refine ls_fr (F := upd (upd (upd (upd (upd (upd (upd (upd f' 0 (.slice A0 l0.length c0)) 5 (.slice A0 l0.length c0)) 6 (.int .i64 (l0.length : Int))) 7 (.int .i64 x7_1)) 36 (.bool (!t27))) 39 (.bool (decide (x7_1 > (0 : Int))))) 45 (.string y36)) 47 (.string y38)) (fr_next (fr_next (fr_next (fr_next (fr_next (fr_next (fr_next (fr_next (rfl) ((hx 0 (by kernel_rfl)).trans (by kernel_rfl : (_ : Value) = .slice A0 l0.length c0))) ((hx 5 (by kernel_rfl)).trans (by kernel_rfl : (_ : Value) = .slice A0 l0.length c0))) ((hx 6 (by kernel_rfl)).trans (by kernel_rfl : (_ : Value) = .int .i64 (l0.length : Int)))) ((hx 7 (by kernel_rfl)).trans (by kernel_rfl : (_ : Value) = .int .i64 x7_1))) ((hf 24 36 (by kernel_rfl) rfl).trans hv24)) ((hf 27 39 (by kernel_rfl) rfl).trans hv27)) ((hf 33 45 (by kernel_rfl) rfl).trans hv33)) ((hf 35 47 (by kernel_rfl) rfl).trans hv35)) ?_
          refine ls_sub (s0) (sub_nil _) ?_
          refine ls_know (c := true) (dec_t q31) 39 (by kernel_rfl) ?_
          refine ls_on (j := 27) (t := 39) (b := true) rfl rfl (by kernel_rfl) (by kernel_rfl) ?_
          refine lv (.bool (!(Op.bytesLess y36.toList y38.toList))) ?_
          refine ls_know (c := false) (congrArg Bool.not (q30)) 36 (by kernel_rfl) ?_
          refine ls_on (j := 24) (t := 36) (b := false) rfl rfl (by kernel_rfl) (by kernel_rfl) ?_
          refine lv (.bool (!(Op.bytesLess y36.toList y38.toList))) ?_
          refine lv (.bool (!(Op.bytesLess y36.toList y38.toList))) ?_
          refine ls_end ?_
          refine qn_then ?_
          by_cases q40 : (Op.bytesLess y36.toList y38.toList) = true
          · replace H := ite_t q40 H
            refine cs_know (c := false) (congrArg Bool.not (q40)) 50 (by kernel_rfl) ?_
            refine cs_false (by kernel_rfl) ?_
            refine cs_skip' ?_
            refine qn_block ?_
            refine qn_then ?_
            refine cs_region (l := [_, _]) ?_
            refine lv (.int .i64 (IntKind.wrap .i64 (x7_1 + (1 : Int)))) ?_
            refine lv (.int .i64 (IntKind.wrap .i64 (x7_1 + (1 : Int)))) ?_
            refine ls_end ?_
            refine qn_again k1 (s0) (Nat.le_refl _) ⟨_, (IntKind.wrap .i64 (x7_1 + (1 : Int))), fr_next (fr_next (fr_next (fr_next (rfl) (by kernel_rfl)) (by kernel_rfl)) (by kernel_rfl)) (by kernel_rfl), rfl, H⟩ (sub_nil _)
          replace H := ite_f q40 H
          refine cs_know (c := true) (congrArg Bool.not (Bool.eq_false_iff.mpr q40)) 50 (by kernel_rfl) ?_
          refine cs_true (by kernel_rfl) ?_
          refine cs_seq ?_
          refine cs_region (l := [_]) ?_
          refine lv (.bool false) ?_
          refine ls_end ?_
          refine qn_then ?_
          refine cs_ret' ?_
          refine qr_block ?_
          refine qr_then ?_
          refine qr_then ?_
          refine qr_block ?_
          refine qr_then ?_
          obtain rfl := Option.some.inj H
          refine qr_res (rs := [_]) rfl (fun w' hs => ⟨[.bool false], (res_tmp (by kernel_rfl) (.nil)), (), rfl, hs.pick (ts := []) (cs := []) trivial (by decide)⟩)
        replace H := ite_f q31 H
        refine cs_draw record_words.tab5 36 1 (spl [s7_0, s7_1, s7_2, s7_3, s7_4, s7_5, s7_6, s7_7, s7_8, s7_9, s7_10, s7_11, s7_12, s7_13, s7_14, s7_15, s7_16, s7_17, s7_18, s7_19, s7_20, s7_21, s7_22, s7_23, s7_24, s7_25, s7_26, s7_27, spu, spu, spu, spu, spu, spu, spu, spu]) (onl [true, true, true, true, true, true, true, true, true, true, true, true, true, true, true, true, true, true, true, true, true, true, true, true, true, true, true, true, false, false, false, false, false, false, false, false]) (by kernel_rfl) (by kernel_rfl) (by kernel_rfl) (by kernel_rfl) (rs := [_, _, _]) rfl (by kernel_rfl) (by kernel_rfl) (all_snoc (all_snoc (all_snoc (all_snoc (all_snoc (all_snoc (all_snoc (all_snoc (all_snoc (all_snoc (all_snoc (all_snoc (all_snoc (all_snoc (all_snoc (all_snoc (all_snoc (all_snoc (all_snoc (all_snoc (all_snoc (all_snoc (all_snoc (all_snoc (all_snoc (all_snoc (all_snoc (all_snoc (all_snoc (all_snoc (all_snoc (all_snoc (all_snoc (all_snoc (all_snoc (all_snoc (all_nil) (ops7_0 _ _ rfl rfl)) (ops7_1 _ _ ⟨rfl, rfl⟩ rfl)) (ops7_2 _ _ ⟨rfl, rfl⟩ rfl)) (ops7_3 _ _ ⟨rfl, rfl⟩ rfl)) (ops7_4 _ _ ⟨rfl, rfl⟩ rfl)) (ops7_5 _ _ ⟨rfl, rfl⟩ rfl)) (ops7_6 _ _ ⟨rfl, rfl, rfl⟩ rfl)) (ops7_7 _ _ ⟨rfl, rfl, rfl⟩ rfl)) (ops7_8 _ _ ⟨rfl, rfl, rfl⟩ rfl)) (ops7_9 _ _ ⟨rfl, rfl, rfl⟩ rfl)) (ops7_10 _ _ ⟨rfl, rfl⟩ rfl)) (ops7_11 _ _ ⟨rfl, rfl⟩ rfl)) (ops7_12 _ _ ⟨rfl, rfl, rfl⟩ rfl)) (ops7_13 _ _ ⟨rfl, rfl, rfl⟩ rfl)) (ops7_14 _ _ ⟨rfl, rfl⟩ rfl)) (ops7_15 _ _ ⟨rfl, rfl, rfl⟩ rfl)) (ops7_16 _ _ ⟨rfl, rfl, rfl, rfl⟩ rfl)) (ops7_17 _ _ ⟨rfl, rfl, rfl⟩ rfl)) (ops7_18 _ _ ⟨rfl, rfl⟩ rfl)) (ops7_19 _ _ ⟨rfl, rfl⟩ rfl)) (ops7_20 _ _ ⟨rfl, rfl, rfl⟩ rfl)) (ops7_21 _ _ ⟨rfl, rfl, rfl⟩ rfl)) (ops7_22 _ _ ⟨rfl, rfl, rfl⟩ rfl)) (ops7_23 _ _ ⟨rfl, rfl, rfl⟩ rfl)) (ops7_24 _ _ ⟨rfl, rfl⟩ rfl)) (ops7_25 _ _ ⟨rfl, rfl⟩ rfl)) (ops7_26 _ _ ⟨rfl, rfl, rfl⟩ rfl)) (ops7_27 _ _ ⟨rfl, rfl, rfl⟩ rfl)) (op_offi 28 27 39 true rfl rfl (by kernel_rfl) (by kernel_rfl) rfl (fun v R h => by rw [hs7_27] at h; obtain ⟨h, _⟩ := h; exact h.trans (congrArg Value.bool (show (decide (x7_1 > (0 : Int))) = false from dec_f q31))) rfl rfl)) (op_offi 29 27 39 true rfl rfl (by kernel_rfl) (by kernel_rfl) rfl (fun v R h => by rw [hs7_27] at h; obtain ⟨h, _⟩ := h; exact h.trans (congrArg Value.bool (show (decide (x7_1 > (0 : Int))) = false from dec_f q31))) rfl rfl)) (op_offi 30 27 39 true rfl rfl (by kernel_rfl) (by kernel_rfl) rfl (fun v R h => by rw [hs7_27] at h; obtain ⟨h, _⟩ := h; exact h.trans (congrArg Value.bool (show (decide (x7_1 > (0 : Int))) = false from dec_f q31))) rfl rfl)) (op_offi 31 27 39 true rfl rfl (by kernel_rfl) (by kernel_rfl) rfl (fun v R h => by rw [hs7_27] at h; obtain ⟨h, _⟩ := h; exact h.trans (congrArg Value.bool (show (decide (x7_1 > (0 : Int))) = false from dec_f q31))) rfl rfl)) (op_offi 32 27 39 true rfl rfl (by kernel_rfl) (by kernel_rfl) rfl (fun v R h => by rw [hs7_27] at h; obtain ⟨h, _⟩ := h; exact h.trans (congrArg Value.bool (show (decide (x7_1 > (0 : Int))) = false from dec_f q31))) rfl rfl)) (op_offi 33 27 39 true rfl rfl (by kernel_rfl) (by kernel_rfl) rfl (fun v R h => by rw [hs7_27] at h; obtain ⟨h, _⟩ := h; exact h.trans (congrArg Value.bool (show (decide (x7_1 > (0 : Int))) = false from dec_f q31))) rfl rfl)) (op_offi 34 27 39 true rfl rfl (by kernel_rfl) (by kernel_rfl) rfl (fun v R h => by rw [hs7_27] at h; obtain ⟨h, _⟩ := h; exact h.trans (congrArg Value.bool (show (decide (x7_1 > (0 : Int))) = false from dec_f q31))) rfl rfl)) (op_offi 35 27 39 true rfl rfl (by kernel_rfl) (by kernel_rfl) rfl (fun v R h => by rw [hs7_27] at h; obtain ⟨h, _⟩ := h; exact h.trans (congrArg Value.bool (show (decide (x7_1 > (0 : Int))) = false from dec_f q31))) rfl rfl)) ?_
        intro vs Rs f' S' hp hf hx hS hR
        obtain ⟨x15, hv7, hR7⟩ := (spe rfl hs7_7 (hp 7 (by kernel_rfl)))
        obtain ⟨x21, hv13, hR13⟩ := (spe rfl hs7_13 (hp 13 (by kernel_rfl)))
        obtain ⟨x29, hv21, hR21⟩ := (spe rfl hs7_21 (hp 21 (by kernel_rfl)))
        obtain ⟨hv24, hR24⟩ := (spe rfl hs7_24 (hp 24 (by kernel_rfl)))
        obtain ⟨hv27, hR27⟩ := (spe rfl hs7_27 (hp 27 (by kernel_rfl)))
        obtain ⟨hv33, hR33⟩ := (spe rfl rfl (hp 33 (by kernel_rfl)) : spu _ _)
        obtain ⟨hv35, hR35⟩ := (spe rfl rfl (hp 35 (by kernel_rfl)) : spu _ _)
        refine ls_fr (F := upd (upd (upd (upd (upd (upd f' 0 (.slice A0 l0.length c0)) 5 (.slice A0 l0.length c0)) 6 (.int .i64 (l0.length : Int))) 7 (.int .i64 x7_1)) 36 (.bool (!t27))) 39 (.bool (decide (x7_1 > (0 : Int))))) (fr_next (fr_next (fr_next (fr_next (fr_next (fr_next (rfl) ((hx 0 (by kernel_rfl)).trans (by kernel_rfl : (_ : Value) = .slice A0 l0.length c0))) ((hx 5 (by kernel_rfl)).trans (by kernel_rfl : (_ : Value) = .slice A0 l0.length c0))) ((hx 6 (by kernel_rfl)).trans (by kernel_rfl : (_ : Value) = .int .i64 (l0.length : Int)))) ((hx 7 (by kernel_rfl)).trans (by kernel_rfl : (_ : Value) = .int .i64 x7_1))) ((hf 24 36 (by kernel_rfl) rfl).trans hv24)) ((hf 27 39 (by kernel_rfl) rfl).trans hv27)) ?_
        refine ls_sub (s0) (sub_nil _) ?_
        refine ls_know (c := false) (dec_f q31) 39 (by kernel_rfl) ?_
        refine lofx 27 39 true false ?_
        refine ls_know (c := false) (congrArg Bool.not (q30)) 36 (by kernel_rfl) ?_
        refine ls_on (j := 24) (t := 36) (b := false) rfl rfl (by kernel_rfl) (by kernel_rfl) ?_
        refine lv (.bool false) ?_
        refine lv (.bool false) ?_
        refine ls_end ?_
        refine qn_then ?_
        refine cs_false (by kernel_rfl) ?_
        refine cs_skip' ?_
        refine qn_block ?_
        refine qn_then ?_
        refine cs_region (l := [_, _]) ?_
        refine lv (.int .i64 (IntKind.wrap .i64 (x7_1 + (1 : Int)))) ?_
        refine lv (.int .i64 (IntKind.wrap .i64 (x7_1 + (1 : Int)))) ?_
        refine ls_end ?_
        refine qn_again k1 (s0) (Nat.le_refl _) ⟨_, (IntKind.wrap .i64 (x7_1 + (1 : Int))), fr_next (fr_next (fr_next (fr_next (rfl) (by kernel_rfl)) (by kernel_rfl)) (by kernel_rfl)) (by kernel_rfl), rfl, H⟩ (sub_nil _)
      replace H := ite_f q30 H
      refine cs_draw record_words.tab5 36 1 (spl [s7_0, s7_1, s7_2, s7_3, s7_4, s7_5, s7_6, s7_7, s7_8, s7_9, s7_10, s7_11, s7_12, s7_13, s7_14, s7_15, s7_16, s7_17, s7_18, s7_19, s7_20, s7_21, s7_22, s7_23, s7_24, spu, spu, spu, spu, spu, spu, spu, spu, spu, spu, spu]) (onl [true, true, true, true, true, true, true, true, true, true, true, true, true, true, true, true, true, true, true, true, true, true, true, true, true, false, false, false, false, false, false, false, false, false, false, false]) (by kernel_rfl) (by kernel_rfl) (by kernel_rfl) (by kernel_rfl) (rs := [_, _, _]) rfl (by kernel_rfl) (by kernel_rfl) (all_snoc (all_snoc (all_snoc (all_snoc (all_snoc (all_snoc (all_snoc (all_snoc (all_snoc (all_snoc (all_snoc (all_snoc (all_snoc (all_snoc (all_snoc (all_snoc (all_snoc (all_snoc (all_snoc (all_snoc (all_snoc (all_snoc (all_snoc (all_snoc (all_snoc (all_snoc (all_snoc (all_snoc (all_snoc (all_snoc (all_snoc (all_snoc (all_snoc (all_snoc (all_snoc (all_snoc (all_nil) (ops7_0 _ _ rfl rfl)) (ops7_1 _ _ ⟨rfl, rfl⟩ rfl)) (ops7_2 _ _ ⟨rfl, rfl⟩ rfl)) (ops7_3 _ _ ⟨rfl, rfl⟩ rfl)) (ops7_4 _ _ ⟨rfl, rfl⟩ rfl)) (ops7_5 _ _ ⟨rfl, rfl⟩ rfl)) (ops7_6 _ _ ⟨rfl, rfl, rfl⟩ rfl)) (ops7_7 _ _ ⟨rfl, rfl, rfl⟩ rfl)) (ops7_8 _ _ ⟨rfl, rfl, rfl⟩ rfl)) (ops7_9 _ _ ⟨rfl, rfl, rfl⟩ rfl)) (ops7_10 _ _ ⟨rfl, rfl⟩ rfl)) (ops7_11 _ _ ⟨rfl, rfl⟩ rfl)) (ops7_12 _ _ ⟨rfl, rfl, rfl⟩ rfl)) (ops7_13 _ _ ⟨rfl, rfl, rfl⟩ rfl)) (ops7_14 _ _ ⟨rfl, rfl⟩ rfl)) (ops7_15 _ _ ⟨rfl, rfl, rfl⟩ rfl)) (ops7_16 _ _ ⟨rfl, rfl, rfl, rfl⟩ rfl)) (ops7_17 _ _ ⟨rfl, rfl, rfl⟩ rfl)) (ops7_18 _ _ ⟨rfl, rfl⟩ rfl)) (ops7_19 _ _ ⟨rfl, rfl⟩ rfl)) (ops7_20 _ _ ⟨rfl, rfl, rfl⟩ rfl)) (ops7_21 _ _ ⟨rfl, rfl, rfl⟩ rfl)) (ops7_22 _ _ ⟨rfl, rfl, rfl⟩ rfl)) (ops7_23 _ _ ⟨rfl, rfl, rfl⟩ rfl)) (ops7_24 _ _ ⟨rfl, rfl⟩ rfl)) (op_offi 25 24 36 false rfl rfl (by kernel_rfl) (by kernel_rfl) rfl (fun v R h => by rw [hs7_24] at h; obtain ⟨h, _⟩ := h; exact h.trans (congrArg Value.bool (show (!t27) = true from congrArg Bool.not (Bool.eq_false_iff.mpr q30)))) rfl rfl)) (op_offi 26 24 36 false rfl rfl (by kernel_rfl) (by kernel_rfl) rfl (fun v R h => by rw [hs7_24] at h; obtain ⟨h, _⟩ := h; exact h.trans (congrArg Value.bool (show (!t27) = true from congrArg Bool.not (Bool.eq_false_iff.mpr q30)))) rfl rfl)) (op_offi 27 24 36 false rfl rfl (by kernel_rfl) (by kernel_rfl) rfl (fun v R h => by rw [hs7_24] at h; obtain ⟨h, _⟩ := h; exact h.trans (congrArg Value.bool (show (!t27) = true from congrArg Bool.not (Bool.eq_false_iff.mpr q30)))) rfl rfl)) (op_offu 28 27 39 true rfl rfl (by kernel_rfl) (by kernel_rfl) rfl rfl rfl)) (op_offu 29 27 39 true rfl rfl (by kernel_rfl) (by kernel_rfl) rfl rfl rfl)) (op_offu 30 27 39 true rfl rfl (by kernel_rfl) (by kernel_rfl) rfl rfl rfl)) (op_offu 31 27 39 true rfl rfl (by kernel_rfl) (by kernel_rfl) rfl rfl rfl)) (op_offu 32 27 39 true rfl rfl (by kernel_rfl) (by kernel_rfl) rfl rfl rfl)) (op_offu 33 27 39 true rfl rfl (by kernel_rfl) (by kernel_rfl) rfl rfl rfl)) (op_offu 34 27 39 true rfl rfl (by kernel_rfl) (by kernel_rfl) rfl rfl rfl)) (op_offu 35 27 39 true rfl rfl (by kernel_rfl) (by kernel_rfl) rfl rfl rfl)) ?_
      intro vs Rs f' S' hp hf hx hS hR
      obtain ⟨x15, hv7, hR7⟩ := (spe rfl hs7_7 (hp 7 (by kernel_rfl)))
      obtain ⟨x21, hv13, hR13⟩ := (spe rfl hs7_13 (hp 13 (by kernel_rfl)))
      obtain ⟨x29, hv21, hR21⟩ := (spe rfl hs7_21 (hp 21 (by kernel_rfl)))
      obtain ⟨hv24, hR24⟩ := (spe rfl hs7_24 (hp 24 (by kernel_rfl)))
      obtain ⟨hv27, hR27⟩ := (spe rfl rfl (hp 27 (by kernel_rfl)) : spu _ _)
      obtain ⟨hv33, hR33⟩ := (spe rfl rfl (hp 33 (by kernel_rfl)) : spu _ _)
      obtain ⟨hv35, hR35⟩ := (spe rfl rfl (hp 35 (by kernel_rfl)) : spu _ _)
      refine ls_fr (F := upd (upd (upd (upd (upd (upd f' 0 (.slice A0 l0.length c0)) 5 (.slice A0 l0.length c0)) 6 (.int .i64 (l0.length : Int))) 7 (.int .i64 x7_1)) 36 (.bool (!t27))) 39 undef) (fr_next (fr_next (fr_next (fr_next (fr_next (fr_next (rfl) ((hx 0 (by kernel_rfl)).trans (by kernel_rfl : (_ : Value) = .slice A0 l0.length c0))) ((hx 5 (by kernel_rfl)).trans (by kernel_rfl : (_ : Value) = .slice A0 l0.length c0))) ((hx 6 (by kernel_rfl)).trans (by kernel_rfl : (_ : Value) = .int .i64 (l0.length : Int)))) ((hx 7 (by kernel_rfl)).trans (by kernel_rfl : (_ : Value) = .int .i64 x7_1))) ((hf 24 36 (by kernel_rfl) rfl).trans hv24)) ((hf 27 39 (by kernel_rfl) rfl).trans hv27)) ?_
      refine ls_sub (s0) (sub_nil _) ?_
      refine ls_offu (j := 27) (t := 39) (b := true) rfl rfl (by kernel_rfl) (by kernel_rfl) rfl (by kernel_rfl) ?_
      refine ls_know (c := true) (congrArg Bool.not (Bool.eq_false_iff.mpr q30)) 36 (by kernel_rfl) ?_
      refine lofx 24 36 false true ?_
      refine lv (.bool true) ?_
      refine ls_end ?_
      refine qn_then ?_
      refine cs_true (by kernel_rfl) ?_
      refine cs_seq ?_
      refine cs_region (l := [_]) ?_
      refine lv (.bool false) ?_
      refine ls_end ?_
      refine qn_then ?_
      refine cs_ret' ?_
      refine qr_block ?_
      refine qr_then ?_
      refine qr_then ?_
      refine qr_block ?_
      refine qr_then ?_
      obtain rfl := Option.some.inj H
      refine qr_res (rs := [_]) rfl (fun w' hs => ⟨[.bool false], (res_tmp (by kernel_rfl) (.nil)), (), rfl, hs.pick (ts := []) (cs := []) trivial (by decide)⟩)
    replace H := ite_f q24 H
    obtain ⟨s7_23, hs7_23⟩ := exv (.bool true)
    refine have_opa record_words.tab5 1 23 (fun sp => sp 23 = s7_23 ∧ sp 18 = s7_18 ∧ sp 22 = spu) (fun sp on hA hon => ?_) (fun ops7_23 => ?_)
    · refine ⟨fun o ho vs Rs f' S' w hp hf hx hS hR hs => ?_⟩
      obtain rfl := Option.some.inj ho
      obtain ⟨hv18, hR18⟩ := (spe hA.2.1 hs7_18 (hp 18 (by kernel_rfl)))
      obtain ⟨hv22, hR22⟩ := (spe hA.2.2 rfl (hp 22 (by kernel_rfl)) : spu _ _)
      exact opv (.bool true) hA.1 hs7_23 hon (fr_next (fr_next (rfl) (((hf 18 30 (by kernel_rfl) rfl).trans hv18).trans (congrArg Value.bool (show (!(t19.toList == y22.toList)) = true from congrArg Bool.not (Bool.eq_false_iff.mpr q24))))) ((hf 22 34 (by kernel_rfl) rfl).trans hv22))
    obtain ⟨s7_24, hs7_24⟩ := exv (.bool true)
    refine have_opa record_words.tab5 1 24 (fun sp => sp 24 = s7_24 ∧ sp 23 = s7_23) (fun sp on hA hon => ?_) (fun ops7_24 => ?_)
    · refine ⟨fun o ho vs Rs f' S' w hp hf hx hS hR hs => ?_⟩
      obtain rfl := Option.some.inj ho
      obtain ⟨hv23, hR23⟩ := (spe hA.2 hs7_23 (hp 23 (by kernel_rfl)))
      exact opv (.bool true) hA.1 hs7_24 hon (fr_next (rfl) ((hf 23 35 (by kernel_rfl) rfl).trans hv23))
    refine cs_draw record_words.tab5 36 1 (spl [s7_0, s7_1, s7_2, s7_3, s7_4, s7_5, s7_6, s7_7, s7_8, s7_9, s7_10, s7_11, s7_12, s7_13, s7_14, s7_15, s7_16, s7_17, s7_18, spu, spu, spu, spu, s7_23, s7_24, spu, spu, spu, spu, spu, spu, spu, spu, spu, spu, spu]) (onl [true, true, true, true, true, true, true, true, true, true, true, true, true, true, true, true, true, true, true, false, false, false, false, true, true, false, false, false, false, false, false, false, false, false, false, false]) (by kernel_rfl) (by kernel_rfl) (by kernel_rfl) (by kernel_rfl) (rs := [_, _, _]) rfl (by kernel_rfl) (by kernel_rfl) (all_snoc (all_snoc (all_snoc (all_snoc (all_snoc (all_snoc (all_snoc (all_snoc (all_snoc (all_snoc (all_snoc (all_snoc (all_snoc (all_snoc (all_snoc (all_snoc (all_snoc (all_snoc (all_snoc (all_snoc (all_snoc (all_snoc (all_snoc (all_snoc (all_snoc (all_snoc (all_snoc (all_snoc (all_snoc (all_snoc (all_snoc (all_snoc (all_snoc (all_snoc (all_snoc (all_snoc (all_nil) (ops7_0 _ _ rfl rfl)) (ops7_1 _ _ ⟨rfl, rfl⟩ rfl)) (ops7_2 _ _ ⟨rfl, rfl⟩ rfl)) (ops7_3 _ _ ⟨rfl, rfl⟩ rfl)) (ops7_4 _ _ ⟨rfl, rfl⟩ rfl)) (ops7_5 _ _ ⟨rfl, rfl⟩ rfl)) (ops7_6 _ _ ⟨rfl, rfl, rfl⟩ rfl)) (ops7_7 _ _ ⟨rfl, rfl, rfl⟩ rfl)) (ops7_8 _ _ ⟨rfl, rfl, rfl⟩ rfl)) (ops7_9 _ _ ⟨rfl, rfl, rfl⟩ rfl)) (ops7_10 _ _ ⟨rfl, rfl⟩ rfl)) (ops7_11 _ _ ⟨rfl, rfl⟩ rfl)) (ops7_12 _ _ ⟨rfl, rfl, rfl⟩ rfl)) (ops7_13 _ _ ⟨rfl, rfl, rfl⟩ rfl)) (ops7_14 _ _ ⟨rfl, rfl⟩ rfl)) (ops7_15 _ _ ⟨rfl, rfl, rfl⟩ rfl)) (ops7_16 _ _ ⟨rfl, rfl, rfl, rfl⟩ rfl)) (ops7_17 _ _ ⟨rfl, rfl, rfl⟩ rfl)) (ops7_18 _ _ ⟨rfl, rfl⟩ rfl)) (op_offi 19 18 30 false rfl rfl (by kernel_rfl) (by kernel_rfl) rfl (fun v R h => by rw [hs7_18] at h; obtain ⟨h, _⟩ := h; exact h.trans (congrArg Value.bool (show (!(t19.toList == y22.toList)) = true from congrArg Bool.not (Bool.eq_false_iff.mpr q24)))) rfl rfl)) (op_offi 20 18 30 false rfl rfl (by kernel_rfl) (by kernel_rfl) rfl (fun v R h => by rw [hs7_18] at h; obtain ⟨h, _⟩ := h; exact h.trans (congrArg Value.bool (show (!(t19.toList == y22.toList)) = true from congrArg Bool.not (Bool.eq_false_iff.mpr q24)))) rfl rfl)) (op_offi 21 18 30 false rfl rfl (by kernel_rfl) (by kernel_rfl) rfl (fun v R h => by rw [hs7_18] at h; obtain ⟨h, _⟩ := h; exact h.trans (congrArg Value.bool (show (!(t19.toList == y22.toList)) = true from congrArg Bool.not (Bool.eq_false_iff.mpr q24)))) rfl rfl)) (op_offi 22 18 30 false rfl rfl (by kernel_rfl) (by kernel_rfl) rfl (fun v R h => by rw [hs7_18] at h; obtain ⟨h, _⟩ := h; exact h.trans (congrArg Value.bool (show (!(t19.toList == y22.toList)) = true from congrArg Bool.not (Bool.eq_false_iff.mpr q24)))) rfl rfl)) (ops7_23 _ _ ⟨rfl, rfl, rfl⟩ rfl)) (ops7_24 _ _ ⟨rfl, rfl⟩ rfl)) (op_offi 25 24 36 false rfl rfl (by kernel_rfl) (by kernel_rfl) rfl (fun v R h => by rw [hs7_24] at h; obtain ⟨h, _⟩ := h; exact h) rfl rfl)) (op_offi 26 24 36 false rfl rfl (by kernel_rfl) (by kernel_rfl) rfl (fun v R h => by rw [hs7_24] at h; obtain ⟨h, _⟩ := h; exact h) rfl rfl)) (op_offi 27 24 36 false rfl rfl (by kernel_rfl) (by kernel_rfl) rfl (fun v R h => by rw [hs7_24] at h; obtain ⟨h, _⟩ := h; exact h) rfl rfl)) (op_offu 28 27 39 true rfl rfl (by kernel_rfl) (by kernel_rfl) rfl rfl rfl)) (op_offu 29 27 39 true rfl rfl (by kernel_rfl) (by kernel_rfl) rfl rfl rfl)) (op_offu 30 27 39 true rfl rfl (by kernel_rfl) (by kernel_rfl) rfl rfl rfl)) (op_offu 31 27 39 true rfl rfl (by kernel_rfl) (by kernel_rfl) rfl rfl rfl)) (op_offu 32 27 39 true rfl rfl (by kernel_rfl) (by kernel_rfl) rfl rfl rfl)) (op_offu 33 27 39 true rfl rfl (by kernel_rfl) (by kernel_rfl) rfl rfl rfl)) (op_offu 34 27 39 true rfl rfl (by kernel_rfl) (by kernel_rfl) rfl rfl rfl)) (op_offu 35 27 39 true rfl rfl (by kernel_rfl) (by kernel_rfl) rfl rfl rfl)) ?_
    intro vs Rs f' S' hp hf hx hS hR
    obtain ⟨x15, hv7, hR7⟩ := (spe rfl hs7_7 (hp 7 (by kernel_rfl)))
    obtain ⟨x21, hv13, hR13⟩ := (spe rfl hs7_13 (hp 13 (by kernel_rfl)))
    obtain ⟨hv24, hR24⟩ := (spe rfl hs7_24 (hp 24 (by kernel_rfl)))
    obtain ⟨hv27, hR27⟩ := (spe rfl rfl (hp 27 (by kernel_rfl)) : spu _ _)
    obtain ⟨hv33, hR33⟩ := (spe rfl rfl (hp 33 (by kernel_rfl)) : spu _ _)
    obtain ⟨hv35, hR35⟩ := (spe rfl rfl (hp 35 (by kernel_rfl)) : spu _ _)
    refine ls_fr (F := upd (upd (upd (upd (upd (upd f' 0 (.slice A0 l0.length c0)) 5 (.slice A0 l0.length c0)) 6 (.int .i64 (l0.length : Int))) 7 (.int .i64 x7_1)) 36 (.bool true)) 39 undef) (fr_next (fr_next (fr_next (fr_next (fr_next (fr_next (rfl) ((hx 0 (by kernel_rfl)).trans (by kernel_rfl : (_ : Value) = .slice A0 l0.length c0))) ((hx 5 (by kernel_rfl)).trans (by kernel_rfl : (_ : Value) = .slice A0 l0.length c0))) ((hx 6 (by kernel_rfl)).trans (by kernel_rfl : (_ : Value) = .int .i64 (l0.length : Int)))) ((hx 7 (by kernel_rfl)).trans (by kernel_rfl : (_ : Value) = .int .i64 x7_1))) ((hf 24 36 (by kernel_rfl) rfl).trans hv24)) ((hf 27 39 (by kernel_rfl) rfl).trans hv27)) ?_
    refine ls_sub (s0) (sub_nil _) ?_
    refine ls_offu (j := 27) (t := 39) (b := true) rfl rfl (by kernel_rfl) (by kernel_rfl) rfl (by kernel_rfl) ?_
    refine lofx 24 36 false true ?_
    refine lv (.bool true) ?_
    refine ls_end ?_
    refine qn_then ?_
    refine cs_true (by kernel_rfl) ?_
    refine cs_seq ?_
    refine cs_region (l := [_]) ?_
    refine lv (.bool false) ?_
    refine ls_end ?_
    refine qn_then ?_
    refine cs_ret' ?_
    refine qr_block ?_
    refine qr_then ?_
    refine qr_then ?_
    refine qr_block ?_
    refine qr_then ?_
    obtain rfl := Option.some.inj H
    refine qr_res (rs := [_]) rfl (fun w' hs => ⟨[.bool false], (res_tmp (by kernel_rfl) (.nil)), (), rfl, hs.pick (ts := []) (cs := []) trivial (by decide)⟩)
  replace H := ite_f q16 H
  obtain ⟨s7_17, hs7_17⟩ := exv (.bool true)
  refine have_opa record_words.tab5 1 17 (fun sp => sp 17 = s7_17 ∧ sp 10 = s7_10 ∧ sp 16 = spu) (fun sp on hA hon => ?_) (fun ops7_17 => ?_)
  · refine ⟨fun o ho vs Rs f' S' w hp hf hx hS hR hs => ?_⟩
    obtain rfl := Option.some.inj ho
    obtain ⟨hv10, hR10⟩ := (spe hA.2.1 hs7_10 (hp 10 (by kernel_rfl)))
    obtain ⟨hv16, hR16⟩ := (spe hA.2.2 rfl (hp 16 (by kernel_rfl)) : spu _ _)
    exact opv (.bool true) hA.1 hs7_17 hon (fr_next (fr_next (rfl) (((hf 10 22 (by kernel_rfl) rfl).trans hv10).trans (congrArg Value.bool (show (!t13) = true from congrArg Bool.not (Bool.eq_false_iff.mpr q16))))) ((hf 16 28 (by kernel_rfl) rfl).trans hv16))
  obtain ⟨s7_18, hs7_18⟩ := exv (.bool true)
  refine have_opa record_words.tab5 1 18 (fun sp => sp 18 = s7_18 ∧ sp 17 = s7_17) (fun sp on hA hon => ?_) (fun ops7_18 => ?_)
  · refine ⟨fun o ho vs Rs f' S' w hp hf hx hS hR hs => ?_⟩
    obtain rfl := Option.some.inj ho
    obtain ⟨hv17, hR17⟩ := (spe hA.2 hs7_17 (hp 17 (by kernel_rfl)))
    exact opv (.bool true) hA.1 hs7_18 hon (fr_next (rfl) ((hf 17 29 (by kernel_rfl) rfl).trans hv17))
  obtain ⟨s7_23, hs7_23⟩ := exv (.bool true)
  refine have_opa record_words.tab5 1 23 (fun sp => sp 23 = s7_23 ∧ sp 18 = s7_18 ∧ sp 22 = spu) (fun sp on hA hon => ?_) (fun ops7_23 => ?_)
  · refine ⟨fun o ho vs Rs f' S' w hp hf hx hS hR hs => ?_⟩
    obtain rfl := Option.some.inj ho
    obtain ⟨hv18, hR18⟩ := (spe hA.2.1 hs7_18 (hp 18 (by kernel_rfl)))
    obtain ⟨hv22, hR22⟩ := (spe hA.2.2 rfl (hp 22 (by kernel_rfl)) : spu _ _)
    exact opv (.bool true) hA.1 hs7_23 hon (fr_next (fr_next (rfl) ((hf 18 30 (by kernel_rfl) rfl).trans hv18)) ((hf 22 34 (by kernel_rfl) rfl).trans hv22))
  obtain ⟨s7_24, hs7_24⟩ := exv (.bool true)
  refine have_opa record_words.tab5 1 24 (fun sp => sp 24 = s7_24 ∧ sp 23 = s7_23) (fun sp on hA hon => ?_) (fun ops7_24 => ?_)
  · refine ⟨fun o ho vs Rs f' S' w hp hf hx hS hR hs => ?_⟩
    obtain rfl := Option.some.inj ho
    obtain ⟨hv23, hR23⟩ := (spe hA.2 hs7_23 (hp 23 (by kernel_rfl)))
    exact opv (.bool true) hA.1 hs7_24 hon (fr_next (rfl) ((hf 23 35 (by kernel_rfl) rfl).trans hv23))
  refine cs_draw record_words.tab5 36 1 (spl [s7_0, s7_1, s7_2, s7_3, s7_4, s7_5, s7_6, s7_7, s7_8, s7_9, s7_10, spu, spu, spu, spu, spu, spu, s7_17, s7_18, spu, spu, spu, spu, s7_23, s7_24, spu, spu, spu, spu, spu, spu, spu, spu, spu, spu, spu]) (onl [true, true, true, true, true, true, true, true, true, true, true, false, false, false, false, false, false, true, true, false, false, false, false, true, true, false, false, false, false, false, false, false, false, false, false, false]) (by kernel_rfl) (by kernel_rfl) (by kernel_rfl) (by kernel_rfl) (rs := [_, _, _]) rfl (by kernel_rfl) (by kernel_rfl) (all_snoc (all_snoc (all_snoc (all_snoc (all_snoc (all_snoc (all_snoc (all_snoc (all_snoc (all_snoc (all_snoc (all_snoc (all_snoc (all_snoc (all_snoc (all_snoc (all_snoc (all_snoc (all_snoc (all_snoc (all_snoc (all_snoc (all_snoc (all_snoc (all_snoc (all_snoc (all_snoc (all_snoc (all_snoc (all_snoc (all_snoc (all_snoc (all_snoc (all_snoc (all_snoc (all_snoc (all_nil) (ops7_0 _ _ rfl rfl)) (ops7_1 _ _ ⟨rfl, rfl⟩ rfl)) (ops7_2 _ _ ⟨rfl, rfl⟩ rfl)) (ops7_3 _ _ ⟨rfl, rfl⟩ rfl)) (ops7_4 _ _ ⟨rfl, rfl⟩ rfl)) (ops7_5 _ _ ⟨rfl, rfl⟩ rfl)) (ops7_6 _ _ ⟨rfl, rfl, rfl⟩ rfl)) (ops7_7 _ _ ⟨rfl, rfl, rfl⟩ rfl)) (ops7_8 _ _ ⟨rfl, rfl, rfl⟩ rfl)) (ops7_9 _ _ ⟨rfl, rfl, rfl⟩ rfl)) (ops7_10 _ _ ⟨rfl, rfl⟩ rfl)) (op_offi 11 10 22 false rfl rfl (by kernel_rfl) (by kernel_rfl) rfl (fun v R h => by rw [hs7_10] at h; obtain ⟨h, _⟩ := h; exact h.trans (congrArg Value.bool (show (!t13) = true from congrArg Bool.not (Bool.eq_false_iff.mpr q16)))) rfl rfl)) (op_offi 12 10 22 false rfl rfl (by kernel_rfl) (by kernel_rfl) rfl (fun v R h => by rw [hs7_10] at h; obtain ⟨h, _⟩ := h; exact h.trans (congrArg Value.bool (show (!t13) = true from congrArg Bool.not (Bool.eq_false_iff.mpr q16)))) rfl rfl)) (op_offi 13 10 22 false rfl rfl (by kernel_rfl) (by kernel_rfl) rfl (fun v R h => by rw [hs7_10] at h; obtain ⟨h, _⟩ := h; exact h.trans (congrArg Value.bool (show (!t13) = true from congrArg Bool.not (Bool.eq_false_iff.mpr q16)))) rfl rfl)) (op_offi 14 10 22 false rfl rfl (by kernel_rfl) (by kernel_rfl) rfl (fun v R h => by rw [hs7_10] at h; obtain ⟨h, _⟩ := h; exact h.trans (congrArg Value.bool (show (!t13) = true from congrArg Bool.not (Bool.eq_false_iff.mpr q16)))) rfl rfl)) (op_offi 15 10 22 false rfl rfl (by kernel_rfl) (by kernel_rfl) rfl (fun v R h => by rw [hs7_10] at h; obtain ⟨h, _⟩ := h; exact h.trans (congrArg Value.bool (show (!t13) = true from congrArg Bool.not (Bool.eq_false_iff.mpr q16)))) rfl rfl)) (op_offi 16 10 22 false rfl rfl (by kernel_rfl) (by kernel_rfl) rfl (fun v R h => by rw [hs7_10] at h; obtain ⟨h, _⟩ := h; exact h.trans (congrArg Value.bool (show (!t13) = true from congrArg Bool.not (Bool.eq_false_iff.mpr q16)))) rfl rfl)) (ops7_17 _ _ ⟨rfl, rfl, rfl⟩ rfl)) (ops7_18 _ _ ⟨rfl, rfl⟩ rfl)) (op_offi 19 18 30 false rfl rfl (by kernel_rfl) (by kernel_rfl) rfl (fun v R h => by rw [hs7_18] at h; obtain ⟨h, _⟩ := h; exact h) rfl rfl)) (op_offi 20 18 30 false rfl rfl (by kernel_rfl) (by kernel_rfl) rfl (fun v R h => by rw [hs7_18] at h; obtain ⟨h, _⟩ := h; exact h) rfl rfl)) (op_offi 21 18 30 false rfl rfl (by kernel_rfl) (by kernel_rfl) rfl (fun v R h => by rw [hs7_18] at h; obtain ⟨h, _⟩ := h; exact h) rfl rfl)) (op_offi 22 18 30 false rfl rfl (by kernel_rfl) (by kernel_rfl) rfl (fun v R h => by rw [hs7_18] at h; obtain ⟨h, _⟩ := h; exact h) rfl rfl)) (ops7_23 _ _ ⟨rfl, rfl, rfl⟩ rfl)) (ops7_24 _ _ ⟨rfl, rfl⟩ rfl)) (op_offi 25 24 36 false rfl rfl (by kernel_rfl) (by kernel_rfl) rfl (fun v R h => by rw [hs7_24] at h; obtain ⟨h, _⟩ := h; exact h) rfl rfl)) (op_offi 26 24 36 false rfl rfl (by kernel_rfl) (by kernel_rfl) rfl (fun v R h => by rw [hs7_24] at h; obtain ⟨h, _⟩ := h; exact h) rfl rfl)) (op_offi 27 24 36 false rfl rfl (by kernel_rfl) (by kernel_rfl) rfl (fun v R h => by rw [hs7_24] at h; obtain ⟨h, _⟩ := h; exact h) rfl rfl)) (op_offu 28 27 39 true rfl rfl (by kernel_rfl) (by kernel_rfl) rfl rfl rfl)) (op_offu 29 27 39 true rfl rfl (by kernel_rfl) (by kernel_rfl) rfl rfl rfl)) (op_offu 30 27 39 true rfl rfl (by kernel_rfl) (by kernel_rfl) rfl rfl rfl)) (op_offu 31 27 39 true rfl rfl (by kernel_rfl) (by kernel_rfl) rfl rfl rfl)) (op_offu 32 27 39 true rfl rfl (by kernel_rfl) (by kernel_rfl) rfl rfl rfl)) (op_offu 33 27 39 true rfl rfl (by kernel_rfl) (by kernel_rfl) rfl rfl rfl)) (op_offu 34 27 39 true rfl rfl (by kernel_rfl) (by kernel_rfl) rfl rfl rfl)) (op_offu 35 27 39 true rfl rfl (by kernel_rfl) (by kernel_rfl) rfl rfl rfl)) ?_
  intro vs Rs f' S' hp hf hx hS hR
  obtain ⟨x15, hv7, hR7⟩ := (spe rfl hs7_7 (hp 7 (by kernel_rfl)))
  obtain ⟨hv24, hR24⟩ := (spe rfl hs7_24 (hp 24 (by kernel_rfl)))
  obtain ⟨hv27, hR27⟩ := (spe rfl rfl (hp 27 (by kernel_rfl)) : spu _ _)
  obtain ⟨hv33, hR33⟩ := (spe rfl rfl (hp 33 (by kernel_rfl)) : spu _ _)
  obtain ⟨hv35, hR35⟩ := (spe rfl rfl (hp 35 (by kernel_rfl)) : spu _ _)
  refine ls_fr (F := upd (upd (upd (upd (upd (upd f' 0 (.slice A0 l0.length c0)) 5 (.slice A0 l0.length c0)) 6 (.int .i64 (l0.length : Int))) 7 (.int .i64 x7_1)) 36 (.bool true)) 39 undef) (fr_next (fr_next (fr_next (fr_next (fr_next (fr_next (rfl) ((hx 0 (by kernel_rfl)).trans (by kernel_rfl : (_ : Value) = .slice A0 l0.length c0))) ((hx 5 (by kernel_rfl)).trans (by kernel_rfl : (_ : Value) = .slice A0 l0.length c0))) ((hx 6 (by kernel_rfl)).trans (by kernel_rfl : (_ : Value) = .int .i64 (l0.length : Int)))) ((hx 7 (by kernel_rfl)).trans (by kernel_rfl : (_ : Value) = .int .i64 x7_1))) ((hf 24 36 (by kernel_rfl) rfl).trans hv24)) ((hf 27 39 (by kernel_rfl) rfl).trans hv27)) ?_
  refine ls_sub (s0) (sub_nil _) ?_
  refine ls_offu (j := 27) (t := 39) (b := true) rfl rfl (by kernel_rfl) (by kernel_rfl) rfl (by kernel_rfl) ?_
  refine lofx 24 36 false true ?_
  refine lv (.bool true) ?_
  refine ls_end ?_
  refine qn_then ?_
  refine cs_true (by kernel_rfl) ?_
  refine cs_seq ?_
  refine cs_region (l := [_]) ?_
  refine lv (.bool false) ?_
  refine ls_end ?_
  refine qn_then ?_
  refine cs_ret' ?_
  refine qr_block ?_
  refine qr_then ?_
  refine qr_then ?_
  refine qr_block ?_
  refine qr_then ?_
  obtain rfl := Option.some.inj H
  refine qr_res (rs := [_]) rfl (fun w' hs => ⟨[.bool false], (res_tmp (by kernel_rfl) (.nil)), (), rfl, hs.pick (ts := []) (cs := []) trivial (by decide)⟩)

end Go.Proofs.Ythhhkphbhlafbaa.G
