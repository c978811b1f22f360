/- Printed by a program of this session (sz.py): plain functions, and walks that show that the code comes to them; no condition. -/
import Derived.Test.YthhhkphbhlafbaaProg
import Derived.Test.YthhhkphbhlafbaaTy
set_option linter.unusedVariables false
set_option linter.unusedSimpArgs false
namespace Go.Proofs.Ythhhkphbhlafbaa.G
open Go Go.RowKit Go.Proofs.Ythhhkphbhlafbaa.Sx

/-! ### shadowbox/record.Prefix: function 18 -/
def record_Prefix.f (k : Nat) (a0 : ByteArray) : Option ((List Int)) :=
  (if ([(111 : Int)]).length + a0.size ≤ 140737488355328 then (if (([(111 : Int)] ++ bl a0).length + ([(0 : Int)]).length) * 1 ≤ 140737488355328 then some (([(111 : Int)] ++ bl a0) ++ [(0 : Int)]) else none) else none)
set_option maxRecDepth 100000 in
set_option maxHeartbeats 4000000 in
theorem record_Prefix.calls (k : Nat) (a0 : ByteArray) (r : (List Int)) (b : Bs) (hs0 : St b (stl []) b.w) (H : record_Prefix.f k a0 = some r) :
    Calls Try.prog 18 #[.string a0] b.w fun e w' => ∃ x : (Option Addr × Nat), e = .returned (.slice x.1 r.length x.2) ∧ St b (stl [Ck.sl (Ec.int 5 .u8) x.1 x.2 r]) w' := by
  unfold record_Prefix.f at H
  refine enterb (n := 8) Try.func18 rfl (by kernel_rfl) (by kernel_rfl) hs0 ?_
  refine cs_sub (s0) (sub_nil _) ?_
  refine cs_seq ?_
  refine cs_region (l := [_]) ?_
  refine ls_val (v := .slice none 0 0) rfl rfl (by kernel_rfl) (fun w => by kernel_rfl) ?_
  refine ls_end ?_
  refine qn_then ?_
  refine cs_seq ?_
  refine cs_region (l := [_, _, _, _, _, _]) ?_
  refine ls_lit (Ec.int 5 .u8) 0 rfl rfl (by kernel_rfl) ([(111 : Int)]) (by exact of_decide_eq_true (by kernel_rfl)) (fun w => by kernel_rfl) ?_
  intro g1
  refine ls_val (v := .string a0) rfl rfl (by kernel_rfl) (fun w => by kernel_rfl) ?_
  obtain ⟨q2, H⟩ := ite_need H
  refine ls_apps (A := (some ⟨g1, 0, none⟩)) (c := [(111 : Int)].length) (e := 5) (l := [(111 : Int)]) (y := a0) 0 rfl rfl (by kernel_rfl) rfl (by kernel_rfl) (by exact rfl) (by kernel_rfl) (by kernel_rfl) (by kernel_rfl) (by kernel_rfl) q2 ?_
  intro xA3 xc4
  refine ls_lit (Ec.int 5 .u8) 1 rfl rfl (by kernel_rfl) ([(0 : Int)]) (by exact of_decide_eq_true (by kernel_rfl)) (fun w => by kernel_rfl) ?_
  intro g5
  obtain ⟨q6, H⟩ := ite_need H
  refine ls_app (Ec.int 5 .u8) (A := xA3) (c := xc4) (B := (some ⟨g5, 0, none⟩)) (cb := [(0 : Int)].length) (z := (Value.int .u8 0)) (l := ([(111 : Int)] ++ bl a0)) (m := [(0 : Int)]) (bytes := 1) 0 rfl rfl (by kernel_rfl) rfl (by kernel_rfl) (by exact rfl) (by kernel_rfl) (fun w hs => (hs.rd (k := 1) (by exact rfl))) (by kernel_rfl) (by kernel_rfl) rfl (by decide) q6 ?_
  intro xA7 xc8
  refine ls_val (v := .slice xA7 (([(111 : Int)] ++ bl a0) ++ [(0 : Int)]).length xc8) rfl rfl (by kernel_rfl) (fun w => by kernel_rfl) ?_
  refine ls_end ?_
  refine qn_then ?_
  refine cs_ret' ?_
  obtain rfl := Option.some.inj H
  refine qr_res (rs := [_]) rfl (fun w' hs => ⟨[.slice xA7 (([(111 : Int)] ++ bl a0) ++ [(0 : Int)]).length xc8], (res_tmp (by kernel_rfl) (.nil)), (xA7, xc8), rfl, hs.pick (ts := [0]) (cs := [Ck.sl (Ec.int 5 .u8) xA7 xc8 (([(111 : Int)] ++ bl a0) ++ [(0 : Int)])]) ⟨by exact rfl, trivial⟩ (by decide)⟩)

/-! ### shadowbox/record.Key: function 17 -/
def record_Key.lo1 (y4 : Int) : Nat → (List Int) → Int → Option ((List Int))
  | 0, _, _ => none
  | k1 + 1, l5_1, x7_1 => (if x7_1 ≥ (0 : Int) then (if 0 ≤ IntKind.wrap .i64 ((8 : Int) * x7_1) then lt (shrv .u64 y4 (IntKind.wrap .i64 ((8 : Int) * x7_1))) fun y8 => (if (l5_1.length + ([IntKind.wrap .u8 y8]).length) * 1 ≤ 140737488355328 then (record_Key.lo1 y4 k1) (l5_1 ++ [IntKind.wrap .u8 y8]) (IntKind.wrap .i64 (x7_1 - (1 : Int))) else none) else none) else some l5_1)
def record_Key.f (k : Nat) (a0 : ByteArray) (a1 : Int) : Option ((List Int)) :=
  (record_Prefix.f k a0).bind fun t1 => lt (IntKind.wrap .u64 ((4611686018427387904 : Int) - (IntKind.wrap .u64 a1))) fun y4 => record_Key.lo1 y4 k t1 (7 : Int)
set_option maxRecDepth 100000 in
set_option maxHeartbeats 4000000 in
theorem record_Key.calls (k : Nat) (a0 : ByteArray) (a1 : Int) (r : (List Int)) (b : Bs) (hs0 : St b (stl []) b.w) (H : record_Key.f k a0 a1 = some r) :
    Calls Try.prog 17 #[.string a0, .int .i64 a1] b.w fun e w' => ∃ x : (Option Addr × Nat), e = .returned (.slice x.1 r.length x.2) ∧ St b (stl [Ck.sl (Ec.int 5 .u8) x.1 x.2 r]) w' := by
  unfold record_Key.f at H
  refine enterb (n := 26) Try.func17 rfl (by kernel_rfl) (by kernel_rfl) hs0 ?_
  refine cs_sub (s0) (sub_nil _) ?_
  refine cs_seq ?_
  refine cs_region (l := [_]) ?_
  refine ls_val (v := .slice none 0 0) rfl rfl (by kernel_rfl) (fun w => by kernel_rfl) ?_
  refine ls_end ?_
  refine qn_then ?_
  refine cs_seq ?_
  refine cs_region (l := [_, _, _]) ?_
  refine ls_val (v := .string a0) rfl rfl (by kernel_rfl) (fun w => by kernel_rfl) ?_
  obtain ⟨t1, hc2, H⟩ := bind_some H
  refine ls_callb (fid := 18) (vals := #[.string a0]) (X := (Option Addr × Nat)) (fun x => .slice x.1 t1.length x.2) (fun x => stl [Ck.sl (Ec.int 5 .u8) x.1 x.2 t1]) [] [] [] [] 0 rfl rfl (by kernel_rfl) (fun w => by kernel_rfl) trivial trivial (by decide) (fun w hs hb => record_Prefix.calls k a0 t1 (lent b w [] []) hb  hc2) ?_
  intro x3
  refine ls_val (v := .slice x3.1 t1.length x3.2) rfl rfl (by kernel_rfl) (fun w => by kernel_rfl) ?_
  refine ls_end ?_
  refine qn_then ?_
  refine cs_seq ?_
  refine cs_region (l := [_, _, _, _]) ?_
  refine ls_val (v := .int .i64 a1) rfl rfl (by kernel_rfl) (fun w => by kernel_rfl) ?_
  refine ls_val (v := .int .u64 (IntKind.wrap .u64 a1)) rfl rfl (by kernel_rfl) (fun w => by kernel_rfl) ?_
  obtain ⟨y4, hy5, H⟩ := lt_some H
  refine ls_val (v := .int .u64 (IntKind.wrap .u64 ((4611686018427387904 : Int) - (IntKind.wrap .u64 a1)))) rfl rfl (by kernel_rfl) (fun w => by kernel_rfl) ?_
  refine ls_ren 12 (v := .int .u64 (IntKind.wrap .u64 ((4611686018427387904 : Int) - (IntKind.wrap .u64 a1)))) (v' := .int .u64 y4) (by kernel_rfl) (by rw [hy5]) ?_
  refine ls_val (v := .int .u64 y4) rfl rfl (by kernel_rfl) (fun w => by kernel_rfl) ?_
  refine ls_end ?_
  refine qn_then ?_
  refine cs_seq ?_
  refine cs_seq ?_
  refine cs_region (l := [_]) ?_
  refine ls_val (v := .int .i64 (7 : Int)) rfl rfl (by kernel_rfl) (fun w => by kernel_rfl) ?_
  refine ls_end ?_
  refine qn_then ?_
  refine cs_block ?_
  refine cs_sub (sput s0 0 (some (Ck.sl (Ec.int 5 .u8) x3.1 x3.2 t1))) (sub_put (by exact rfl) (sub_nil _)) ?_
  refine cs_loop (fun kk f S => ∃ (fR : Fr) (A5_1 : Option Addr) (c5_1 : Nat) (l5_1 : List Int) (x7_1 : Int), f = upd (upd (upd fR 5 (.slice A5_1 l5_1.length c5_1)) 6 (.int .u64 y4)) 7 (.int .i64 x7_1) ∧ S = sput s0 0 (some (Ck.sl (Ec.int 5 .u8) A5_1 c5_1 l5_1)) ∧ record_Key.lo1 y4 kk l5_1 x7_1 = some r) k ?_ ?_ ?_
  · exact ⟨_, x3.1, x3.2, t1, (7 : Int), fr_next (fr_next (fr_next (rfl) (by kernel_rfl)) (by kernel_rfl)) (by kernel_rfl), rfl, H⟩
  · rintro f S ⟨fr1, A5_1, c5_1, l5_1, x7_1, rfl, rfl, H⟩; cases H
  · rintro k1 f S ⟨fr1, A5_1, c5_1, l5_1, x7_1, rfl, rfl, H⟩
    replace H : ((if x7_1 ≥ (0 : Int) then (if 0 ≤ IntKind.wrap .i64 ((8 : Int) * x7_1) then lt (shrv .u64 y4 (IntKind.wrap .i64 ((8 : Int) * x7_1))) fun y8 => (if (l5_1.length + ([IntKind.wrap .u8 y8]).length) * 1 ≤ 140737488355328 then (record_Key.lo1 y4 k1) (l5_1 ++ [IntKind.wrap .u8 y8]) (IntKind.wrap .i64 (x7_1 - (1 : Int))) else none) else none) else some l5_1)) = some r := H
    refine cs_seq ?_
    refine cs_seq ?_
    refine cs_region (l := [_, _]) ?_
    refine ls_val (v := .int .i64 x7_1) rfl rfl (by kernel_rfl) (fun w => by kernel_rfl) ?_
    refine ls_val (v := .bool (decide (x7_1 ≥ (0 : Int)))) rfl rfl (by kernel_rfl) (fun w => by kernel_rfl) ?_
    refine ls_end ?_
    refine qn_then ?_
    by_cases q6 : x7_1 ≥ (0 : Int)
    · replace H := ite_t q6 H
      refine cs_know (c := true) (dec_t q6) 14 (by kernel_rfl) ?_
      refine cs_true (by kernel_rfl) ?_
      refine cs_skip' ?_
      refine qn_then ?_
      refine cs_seq ?_
      refine cs_block ?_
      refine cs_region (l := [_, _, _, _, _, _, _, _, _]) ?_
      refine ls_val (v := .slice A5_1 l5_1.length c5_1) rfl rfl (by kernel_rfl) (fun w => by kernel_rfl) ?_
      refine ls_val (v := .int .u64 y4) rfl rfl (by kernel_rfl) (fun w => by kernel_rfl) ?_
      refine ls_val (v := .int .i64 x7_1) rfl rfl (by kernel_rfl) (fun w => by kernel_rfl) ?_
      refine ls_val (v := .int .i64 (IntKind.wrap .i64 ((8 : Int) * x7_1))) rfl rfl (by kernel_rfl) (fun w => by kernel_rfl) ?_
      obtain ⟨q7, H⟩ := ite_need H
      obtain ⟨y8, hy9, H⟩ := lt_some H
      refine ls_shiftr (k := .u64) (yk := .i64) (x := y4) (y := (IntKind.wrap .i64 ((8 : Int) * x7_1))) rfl rfl (by kernel_rfl) (fun w => by kernel_rfl) q7 ?_
      refine ls_ren 21 (v := .int .u64 (shrv .u64 y4 (IntKind.wrap .i64 ((8 : Int) * x7_1)))) (v' := .int .u64 y8) (by kernel_rfl) (by rw [hy9]) ?_
      refine ls_val (v := .int .u8 (IntKind.wrap .u8 y8)) rfl rfl (by kernel_rfl) (fun w => by kernel_rfl) ?_
      refine ls_lit (Ec.int 5 .u8) 1 rfl rfl (by kernel_rfl) ([IntKind.wrap .u8 y8]) (by exact of_decide_eq_true (by kernel_rfl)) (fun w => by kernel_rfl) ?_
      intro g10
      obtain ⟨q11, H⟩ := ite_need H
      refine ls_app (Ec.int 5 .u8) (A := A5_1) (c := c5_1) (B := (some ⟨g10, 0, none⟩)) (cb := [IntKind.wrap .u8 y8].length) (z := (Value.int .u8 0)) (l := l5_1) (m := [IntKind.wrap .u8 y8]) (bytes := 1) 0 rfl rfl (by kernel_rfl) rfl (by kernel_rfl) (by exact rfl) (by kernel_rfl) (fun w hs => (hs.rd (k := 1) (by exact rfl))) (by kernel_rfl) (by kernel_rfl) rfl (by decide) q11 ?_
      intro xA12 xc13
      refine ls_val (v := .slice xA12 (l5_1 ++ [IntKind.wrap .u8 y8]).length xc13) rfl rfl (by kernel_rfl) (fun w => by kernel_rfl) ?_
      refine ls_end ?_
      refine qn_block ?_
      refine qn_then ?_
      refine cs_region (l := [_, _, _]) ?_
      refine ls_val (v := .int .i64 x7_1) rfl rfl (by kernel_rfl) (fun w => by kernel_rfl) ?_
      refine ls_val (v := .int .i64 (IntKind.wrap .i64 (x7_1 - (1 : Int)))) rfl rfl (by kernel_rfl) (fun w => by kernel_rfl) ?_
      refine ls_val (v := .int .i64 (IntKind.wrap .i64 (x7_1 - (1 : Int)))) rfl rfl (by kernel_rfl) (fun w => by kernel_rfl) ?_
      refine ls_end ?_
      refine qn_again k1 (sput s0 0 (some (Ck.sl (Ec.int 5 .u8) xA12 xc13 (l5_1 ++ [IntKind.wrap .u8 y8])))) (Nat.le_refl _) ⟨_, xA12, xc13, (l5_1 ++ [IntKind.wrap .u8 y8]), (IntKind.wrap .i64 (x7_1 - (1 : Int))), fr_next (fr_next (fr_next (rfl) (by kernel_rfl)) (by kernel_rfl)) (by kernel_rfl), rfl, H⟩ (sub_put (by exact rfl) (sub_nil _))
    · replace H := ite_f q6 H
      refine cs_know (c := false) (dec_f q6) 14 (by kernel_rfl) ?_
      refine cs_false (by kernel_rfl) ?_
      refine cs_exit' ?_
      refine qx_then ?_
      refine qx_then ?_
      refine qx_same ?_
      refine qn_then ?_
      refine cs_seq ?_
      refine cs_region (l := [_, _]) ?_
      refine ls_val (v := .slice A5_1 l5_1.length c5_1) rfl rfl (by kernel_rfl) (fun w => by kernel_rfl) ?_
      refine ls_val (v := .slice A5_1 l5_1.length c5_1) rfl rfl (by kernel_rfl) (fun w => by kernel_rfl) ?_
      refine ls_end ?_
      refine qn_then ?_
      refine cs_ret' ?_
      obtain rfl := Option.some.inj H
      refine qr_res (rs := [_]) rfl (fun w' hs => ⟨[.slice A5_1 l5_1.length c5_1], (res_tmp (by kernel_rfl) (.nil)), (A5_1, c5_1), rfl, hs.pick (ts := [0]) (cs := [Ck.sl (Ec.int 5 .u8) A5_1 c5_1 l5_1]) ⟨by exact rfl, trivial⟩ (by decide)⟩)

/-! ### shadowbox/record.After: function 19 -/
def record_After.f (k : Nat) (a0 : ByteArray) : Option ((List Int)) :=
  (if ([(111 : Int)]).length + a0.size ≤ 140737488355328 then (if (([(111 : Int)] ++ bl a0).length + ([(1 : Int)]).length) * 1 ≤ 140737488355328 then some (([(111 : Int)] ++ bl a0) ++ [(1 : Int)]) else none) else none)
set_option maxRecDepth 100000 in
set_option maxHeartbeats 4000000 in
theorem record_After.calls (k : Nat) (a0 : ByteArray) (r : (List Int)) (b : Bs) (hs0 : St b (stl []) b.w) (H : record_After.f k a0 = some r) :
    Calls Try.prog 19 #[.string a0] b.w fun e w' => ∃ x : (Option Addr × Nat), e = .returned (.slice x.1 r.length x.2) ∧ St b (stl [Ck.sl (Ec.int 5 .u8) x.1 x.2 r]) w' := by
  unfold record_After.f at H
  refine enterb (n := 8) Try.func19 rfl (by kernel_rfl) (by kernel_rfl) hs0 ?_
  refine cs_sub (s0) (sub_nil _) ?_
  refine cs_seq ?_
  refine cs_region (l := [_]) ?_
  refine ls_val (v := .slice none 0 0) rfl rfl (by kernel_rfl) (fun w => by kernel_rfl) ?_
  refine ls_end ?_
  refine qn_then ?_
  refine cs_seq ?_
  refine cs_region (l := [_, _, _, _, _, _]) ?_
  refine ls_lit (Ec.int 5 .u8) 0 rfl rfl (by kernel_rfl) ([(111 : Int)]) (by exact of_decide_eq_true (by kernel_rfl)) (fun w => by kernel_rfl) ?_
  intro g1
  refine ls_val (v := .string a0) rfl rfl (by kernel_rfl) (fun w => by kernel_rfl) ?_
  obtain ⟨q2, H⟩ := ite_need H
  refine ls_apps (A := (some ⟨g1, 0, none⟩)) (c := [(111 : Int)].length) (e := 5) (l := [(111 : Int)]) (y := a0) 0 rfl rfl (by kernel_rfl) rfl (by kernel_rfl) (by exact rfl) (by kernel_rfl) (by kernel_rfl) (by kernel_rfl) (by kernel_rfl) q2 ?_
  intro xA3 xc4
  refine ls_lit (Ec.int 5 .u8) 1 rfl rfl (by kernel_rfl) ([(1 : Int)]) (by exact of_decide_eq_true (by kernel_rfl)) (fun w => by kernel_rfl) ?_
  intro g5
  obtain ⟨q6, H⟩ := ite_need H
  refine ls_app (Ec.int 5 .u8) (A := xA3) (c := xc4) (B := (some ⟨g5, 0, none⟩)) (cb := [(1 : Int)].length) (z := (Value.int .u8 0)) (l := ([(111 : Int)] ++ bl a0)) (m := [(1 : Int)]) (bytes := 1) 0 rfl rfl (by kernel_rfl) rfl (by kernel_rfl) (by exact rfl) (by kernel_rfl) (fun w hs => (hs.rd (k := 1) (by exact rfl))) (by kernel_rfl) (by kernel_rfl) rfl (by decide) q6 ?_
  intro xA7 xc8
  refine ls_val (v := .slice xA7 (([(111 : Int)] ++ bl a0) ++ [(1 : Int)]).length xc8) rfl rfl (by kernel_rfl) (fun w => by kernel_rfl) ?_
  refine ls_end ?_
  refine qn_then ?_
  refine cs_ret' ?_
  obtain rfl := Option.some.inj H
  refine qr_res (rs := [_]) rfl (fun w' hs => ⟨[.slice xA7 (([(111 : Int)] ++ bl a0) ++ [(1 : Int)]).length xc8], (res_tmp (by kernel_rfl) (.nil)), (xA7, xc8), rfl, hs.pick (ts := [0]) (cs := [Ck.sl (Ec.int 5 .u8) xA7 xc8 (([(111 : Int)] ++ bl a0) ++ [(1 : Int)])]) ⟨by exact rfl, trivial⟩ (by decide)⟩)

end Go.Proofs.Ythhhkphbhlafbaa.G
