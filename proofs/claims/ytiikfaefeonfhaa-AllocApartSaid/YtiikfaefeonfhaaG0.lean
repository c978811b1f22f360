/- Printed by a program of this session (sz.py): plain functions, and walks that show that the code comes to them; no condition. -/
import Derived.Test.YtiikfaefeonfhaaProg
import Derived.Test.YtiikfaefeonfhaaTy
set_option linter.unusedVariables false
set_option linter.unusedSimpArgs false
namespace Go.Proofs.Ytiikfaefeonfhaa.G
open Go Go.RowKit Go.Proofs.Ytiikfaefeonfhaa.Sx

/-! ### (shadowbox/extent.Span).right: function 41 -/
def extent_Span_right.f (k : Nat) (a0 : (Int × Int)) : Option (Bool) :=
  (if a0.1 ≥ (0 : Int) then (if a0.1 < a0.2 then some (decide (a0.2 ≤ (1099511627776 : Int))) else some false) else some false)
set_option maxRecDepth 100000 in
set_option maxHeartbeats 4000000 in
theorem extent_Span_right.calls (k : Nat) (a0 : (Int × Int)) (r : Bool) (b : Bs) (hs0 : St b (stl []) b.w) (H : extent_Span_right.f k a0 = some r) :
    Calls Try.prog 41 #[.agg ⟨([Value.int .i64 a0.1] ++ [Value.int .i64 a0.2])⟩] b.w fun e w' => ∃ x : Unit, e = .returned (.bool r) ∧ St b (stl []) w' := by
  unfold extent_Span_right.f at H
  refine enterb (n := 18) Try.func41 rfl (by kernel_rfl) (by kernel_rfl) hs0 ?_
  refine cs_sub (s0) (sub_nil _) ?_
  refine cs_seq ?_
  refine cs_region (l := [_, _]) ?_
  refine ls_new rfl rfl (by kernel_rfl) 0 (fun g => .pointer (some ⟨g, 0, none⟩)) (.cells ⟨([Value.int .i64 a0.1] ++ [Value.int .i64 a0.2])⟩ 24) (fun w => by kernel_rfl) ?_
  intro g1
  refine lv (.bool false) ?_
  refine ls_end ?_
  refine qn_then ?_
  refine cs_seq ?_
  refine cs_region (l := [_, _, _, _, _, _, _, _, _, _, _, _, _, _, _, _]) ?_
  refine lv (.pointer (some ⟨g1, (0 + 0), none⟩)) ?_
  refine ls_load (a0 := ⟨g1, (0 + 0), none⟩) (v := .int .i64 a0.1) (de := (TypeDesc.int .i64)) rfl rfl (by kernel_rfl) rfl (by kernel_rfl) (by kernel_rfl) (by kernel_rfl) (fun w hs => (hs.var (k := 0) (by exact rfl) (Sub4.trans (Sub4.all _) (Sub4.head _ _)))) ?_
  refine lv (.bool (decide (a0.1 ≥ (0 : Int)))) ?_
  refine lv (.bool (decide (a0.1 ≥ (0 : Int)))) ?_
  by_cases q2 : a0.1 ≥ (0 : Int)
  · replace H := ite_t q2 H
    refine ls_know (c := true) (dec_t q2) 6 (by kernel_rfl) ?_
    refine ls_on (j := 3) (t := 6) (b := true) rfl rfl (by kernel_rfl) (by kernel_rfl) ?_
    refine lv (.pointer (some ⟨g1, (0 + 0), none⟩)) ?_
    refine ls_on (j := 3) (t := 6) (b := true) rfl rfl (by kernel_rfl) (by kernel_rfl) ?_
    refine ls_load (a0 := ⟨g1, (0 + 0), none⟩) (v := .int .i64 a0.1) (de := (TypeDesc.int .i64)) rfl rfl (by kernel_rfl) rfl (by kernel_rfl) (by kernel_rfl) (by kernel_rfl) (fun w hs => (hs.var (k := 0) (by exact rfl) (Sub4.trans (Sub4.all _) (Sub4.head _ _)))) ?_
    refine ls_on (j := 3) (t := 6) (b := true) rfl rfl (by kernel_rfl) (by kernel_rfl) ?_
    refine lv (.pointer (some ⟨g1, (0 + 1), none⟩)) ?_
    refine ls_on (j := 3) (t := 6) (b := true) rfl rfl (by kernel_rfl) (by kernel_rfl) ?_
    refine ls_load (a0 := ⟨g1, (0 + 1), none⟩) (v := .int .i64 a0.2) (de := (TypeDesc.int .i64)) rfl rfl (by kernel_rfl) rfl (by kernel_rfl) (by kernel_rfl) (by kernel_rfl) (fun w hs => (hs.var (k := 0) (by exact rfl) (Sub4.trans (Sub4.all _) (Sub4.skip (n := 1) (len1 _) (Sub4.all _))))) ?_
    refine ls_on (j := 3) (t := 6) (b := true) rfl rfl (by kernel_rfl) (by kernel_rfl) ?_
    refine lv (.bool (decide (a0.1 < a0.2))) ?_
    refine lv (.bool (decide (a0.1 < a0.2))) ?_
    refine lv (.bool (decide (a0.1 < a0.2))) ?_
    by_cases q3 : a0.1 < a0.2
    · replace H := ite_t q3 H
      refine ls_know (c := true) (dec_t q3) 13 (by kernel_rfl) ?_
      refine ls_on (j := 10) (t := 13) (b := true) rfl rfl (by kernel_rfl) (by kernel_rfl) ?_
      refine lv (.pointer (some ⟨g1, (0 + 1), none⟩)) ?_
      refine ls_on (j := 10) (t := 13) (b := true) rfl rfl (by kernel_rfl) (by kernel_rfl) ?_
      refine ls_load (a0 := ⟨g1, (0 + 1), none⟩) (v := .int .i64 a0.2) (de := (TypeDesc.int .i64)) rfl rfl (by kernel_rfl) rfl (by kernel_rfl) (by kernel_rfl) (by kernel_rfl) (fun w hs => (hs.var (k := 0) (by exact rfl) (Sub4.trans (Sub4.all _) (Sub4.skip (n := 1) (len1 _) (Sub4.all _))))) ?_
      refine ls_on (j := 10) (t := 13) (b := true) rfl rfl (by kernel_rfl) (by kernel_rfl) ?_
      refine lv (.bool (decide (a0.2 ≤ (1099511627776 : Int)))) ?_
      refine lv (.bool (decide (a0.2 ≤ (1099511627776 : Int)))) ?_
      refine lv (.bool (decide (a0.2 ≤ (1099511627776 : Int)))) ?_
      refine ls_end ?_
      refine qn_then ?_
      refine cs_ret' ?_
      obtain rfl := Option.some.inj H
      refine qr_res (rs := [_]) rfl (fun w' hs => ⟨[.bool (decide (a0.2 ≤ (1099511627776 : Int)))], (res_tmp (by kernel_rfl) (.nil)), (), rfl, hs.pick (ts := []) (cs := []) trivial (by decide)⟩)
    replace H := ite_f q3 H
    refine ls_know (c := false) (dec_f q3) 13 (by kernel_rfl) ?_
    refine lofx 10 13 true false ?_
    refine lofx 10 13 true false ?_
    refine lofx 10 13 true false ?_
    refine lv (.bool false) ?_
    refine lv (.bool false) ?_
    refine ls_end ?_
    refine qn_then ?_
    refine cs_ret' ?_
    obtain rfl := Option.some.inj H
    refine qr_res (rs := [_]) rfl (fun w' hs => ⟨[.bool false], (res_tmp (by kernel_rfl) (.nil)), (), rfl, hs.pick (ts := []) (cs := []) trivial (by decide)⟩)
  replace H := ite_f q2 H
  refine ls_know (c := false) (dec_f q2) 6 (by kernel_rfl) ?_
  refine lofx 3 6 true false ?_
  refine lofx 3 6 true false ?_
  refine lofx 3 6 true false ?_
  refine lofx 3 6 true false ?_
  refine lofx 3 6 true false ?_
  refine lv (.bool false) ?_
  refine lv (.bool false) ?_
  refine lofx 10 13 true false ?_
  refine lofx 10 13 true false ?_
  refine lofx 10 13 true false ?_
  refine lv (.bool false) ?_
  refine lv (.bool false) ?_
  refine ls_end ?_
  refine qn_then ?_
  refine cs_ret' ?_
  obtain rfl := Option.some.inj H
  refine qr_res (rs := [_]) rfl (fun w' hs => ⟨[.bool false], (res_tmp (by kernel_rfl) (.nil)), (), rfl, hs.pick (ts := []) (cs := []) trivial (by decide)⟩)

/-! ### shadowbox/extent.Valid: function 10 -/
def extent_Valid.lo1 (l0 : List (Int × Int)) : Nat → Int → Int → Option (Bool)
  | 0, _, _ => none
  | k1 + 1, x3_1, x8_1 => (if x8_1 < (l0.length : Int) then (if 0 ≤ x8_1 then (extent_Span_right.f k1 ((l0).getD (x8_1).toNat ((0 : Int), (0 : Int)))).bind fun t6 => (if t6 = true then lt (((l0).getD (x8_1).toNat ((0 : Int), (0 : Int))).1) fun y10 => (if y10 ≤ x3_1 then some false else lt (((l0).getD (x8_1).toNat ((0 : Int), (0 : Int))).2) fun y13 => (extent_Valid.lo1 l0 k1) y13 (IntKind.wrap .i64 (x8_1 + (1 : Int)))) else some false) else none) else some true)
def extent_Valid.f (k : Nat) (l0 : List (Int × Int)) : Option (Bool) :=
  extent_Valid.lo1 l0 k (-1 : Int) (0 : Int)
set_option maxRecDepth 100000 in
set_option maxHeartbeats 4000000 in
theorem extent_Valid.calls (k : Nat) (A0 : Option Addr) (c0 : Nat) (l0 : List (Int × Int)) (r : Bool) (b : Bs) (hs0 : St b (stl []) b.w) (R0 : Ro b A0 (em T24 l0)) (C0 : l0.length ≤ c0) (H : extent_Valid.f k l0 = some r) :
    Calls Try.prog 10 #[.slice A0 l0.length c0] b.w fun e w' => ∃ x : Unit, e = .returned (.bool r) ∧ St b (stl []) w' := by
  unfold extent_Valid.f at H
  refine enterb (n := 24) Try.func10 rfl (by kernel_rfl) (by kernel_rfl) hs0 ?_
  refine cs_sub (s0) (sub_nil _) ?_
  refine cs_seq ?_
  refine cs_region (l := [_]) ?_
  refine lv (.bool false) ?_
  refine ls_end ?_
  refine qn_then ?_
  refine cs_seq ?_
  refine cs_region (l := [_]) ?_
  refine lv (.int .i64 (-1 : Int)) ?_
  refine ls_end ?_
  refine qn_then ?_
  refine cs_seq ?_
  refine cs_seq ?_
  refine cs_region (l := [_, _, _]) ?_
  refine lv (.slice A0 l0.length c0) ?_
  refine lv (.int .i64 (l0.length : Int)) ?_
  refine lv (.int .i64 (0 : Int)) ?_
  refine ls_end ?_
  refine qn_then ?_
  refine cs_block ?_
  refine cs_sub (s0) (sub_nil _) ?_
  refine cs_loop (fun kk f S => ∃ (fR : Fr) (x3_1 : Int) (x8_1 : Int), f = upd (upd (upd (upd fR 3 (.int .i64 x3_1)) 6 (.slice A0 l0.length c0)) 7 (.int .i64 (l0.length : Int))) 8 (.int .i64 x8_1) ∧ S = s0 ∧ extent_Valid.lo1 l0 kk x3_1 x8_1 = some r) k ?_ ?_ ?_
  · exact ⟨_, (-1 : Int), (0 : Int), fr_next (fr_next (fr_next (fr_next (rfl) (by kernel_rfl)) (by kernel_rfl)) (by kernel_rfl)) (by kernel_rfl), rfl, H⟩
  · rintro f S ⟨fr1, x3_1, x8_1, rfl, rfl, H⟩; cases H
  rintro k1 f S ⟨fr1, x3_1, x8_1, rfl, rfl, H⟩
  replace H : ((if x8_1 < (l0.length : Int) then (if 0 ≤ x8_1 then (extent_Span_right.f k1 ((l0).getD (x8_1).toNat ((0 : Int), (0 : Int)))).bind fun t6 => (if t6 = true then lt (((l0).getD (x8_1).toNat ((0 : Int), (0 : Int))).1) fun y10 => (if y10 ≤ x3_1 then some false else lt (((l0).getD (x8_1).toNat ((0 : Int), (0 : Int))).2) fun y13 => (extent_Valid.lo1 l0 k1) y13 (IntKind.wrap .i64 (x8_1 + (1 : Int)))) else some false) else none) else some true)) = some r := H
  refine cs_seq ?_
  refine cs_region (l := [_]) ?_
  refine lv (.bool (decide (x8_1 < (l0.length : Int)))) ?_
  refine ls_end ?_
  refine qn_then ?_
  refine cs_seq ?_
  by_cases q1 : x8_1 < (l0.length : Int)
  · replace H := ite_t q1 H
    refine cs_know (c := true) (dec_t q1) 9 (by kernel_rfl) ?_
    refine cs_true (by kernel_rfl) ?_
    refine cs_skip' ?_
    refine qn_then ?_
    refine cs_seq ?_
    refine cs_block ?_
    refine cs_seq ?_
    refine cs_region (l := [_, _, _, _]) ?_
    obtain ⟨q2, H⟩ := ite_need H
    obtain ⟨ad3, hA4⟩ := ido_at (T := T24) (l := l0) (i := x8_1) R0 q2 q1
    refine ls_idxv T24 (A := A0) (c := c0) (l := l0) (k := .i64) (i := x8_1) (z := 2) (ad := ad3) rfl rfl (by kernel_rfl) hA4 rfl (by kernel_rfl) (by kernel_rfl) (by kernel_rfl) (by kernel_rfl) q2 q1 ?_
    refine ls_loadagg (a := (ad3.add ((x8_1).toNat * 2))) (sub := ([Value.int .i64 (((l0).getD (x8_1).toNat ((0 : Int), (0 : Int))).1)] ++ [Value.int .i64 (((l0).getD (x8_1).toNat ((0 : Int), (0 : Int))).2)])) rfl rfl (by kernel_rfl) rfl (by kernel_rfl) (by kernel_rfl) (by kernel_rfl) (len_app (len1 _) (len1 _)) (fun w hs => (hs.old R0).part hA4 (em_sub T24 l0 (i := (x8_1).toNat) (by have h0 : (0 : Int) ≤ x8_1 := q2; have h1 : x8_1 < (l0.length : Int) := q1; omega))) ?_
    refine ls_new rfl rfl (by kernel_rfl) 0 (fun g => .pointer (some ⟨g, 0, none⟩)) (.cells ⟨([Value.int .i64 (0 : Int)] ++ [Value.int .i64 (0 : Int)])⟩ 24) (fun w => by kernel_rfl) ?_
    intro g5
    refine ls_storec (g := g5) (off := 0) (v := .agg ⟨([Value.int .i64 (((l0).getD (x8_1).toNat ((0 : Int), (0 : Int))).1)] ++ [Value.int .i64 (((l0).getD (x8_1).toNat ((0 : Int), (0 : Int))).2)])⟩) (vs := ([Value.int .i64 (((l0).getD (x8_1).toNat ((0 : Int), (0 : Int))).1)] ++ [Value.int .i64 (((l0).getD (x8_1).toNat ((0 : Int), (0 : Int))).2)])) (cs := ([Value.int .i64 (0 : Int)] ++ [Value.int .i64 (0 : Int)])) (ty := 24) 0 rfl rfl rfl (by kernel_rfl) (by kernel_rfl) (by kernel_rfl) (by exact rfl) (by kernel_rfl) (len_app (len1 _) (len1 _)) (one_app (one_cons rfl one_nil) (one_cons rfl one_nil)) (hl_of (Sub4.all _) (len_eq (len_app (len1 _) (len1 _)) (len_app (len1 _) (len1 _)))) (cs' := ([Value.int .i64 (((l0).getD (x8_1).toNat ((0 : Int), (0 : Int))).1)] ++ [Value.int .i64 (((l0).getD (x8_1).toNat ((0 : Int), (0 : Int))).2)])) (splc_all (len_eq (len_app (len1 _) (len1 _)) (len_app (len1 _) (len1 _)))) ?_
    refine ls_end ?_
    refine qn_then ?_
    refine cs_seq ?_
    refine cs_seq ?_
    refine cs_region (l := [_, _, _, _, _, _, _, _, _]) ?_
    refine ls_loadagg (a := ⟨g5, 0, none⟩) (sub := ([Value.int .i64 (((l0).getD (x8_1).toNat ((0 : Int), (0 : Int))).1)] ++ [Value.int .i64 (((l0).getD (x8_1).toNat ((0 : Int), (0 : Int))).2)])) rfl rfl (by kernel_rfl) rfl (by kernel_rfl) (by kernel_rfl) (by kernel_rfl) (len_app (len1 _) (len1 _)) (fun w hs => (hs.vars (k := 0) (by exact rfl) (Sub4.all _))) ?_
    obtain ⟨t6, hc7, H⟩ := bind_some H
    refine ls_callb (fid := 41) (vals := #[.agg ⟨([Value.int .i64 (((l0).getD (x8_1).toNat ((0 : Int), (0 : Int))).1)] ++ [Value.int .i64 (((l0).getD (x8_1).toNat ((0 : Int), (0 : Int))).2)])⟩]) (X := Unit) (fun x => .bool t6) (fun x => stl []) [] [] [] [] 1 rfl rfl (by kernel_rfl) (fun w => by kernel_rfl) trivial trivial (by decide) (fun w hs hb => extent_Span_right.calls k1 ((l0).getD (x8_1).toNat ((0 : Int), (0 : Int))) t6 (lent b w [] []) hb  hc7) ?_
    intro x8
    refine lv (.bool (!t6)) ?_
    refine lv (.bool (!t6)) ?_
    by_cases q9 : t6 = true
    · replace H := ite_t q9 H
      refine ls_know (c := false) (congrArg Bool.not (q9)) 15 (by kernel_rfl) ?_
      refine ls_on (j := 3) (t := 15) (b := false) rfl rfl (by kernel_rfl) (by kernel_rfl) ?_
      refine lv (.pointer (some ⟨g5, (0 + 0), none⟩)) ?_
      refine ls_on (j := 3) (t := 15) (b := false) rfl rfl (by kernel_rfl) (by kernel_rfl) ?_
      obtain ⟨y10, hy11, H⟩ := lt_some H
      refine ls_load (a0 := ⟨g5, (0 + 0), none⟩) (v := .int .i64 (((l0).getD (x8_1).toNat ((0 : Int), (0 : Int))).1)) (de := (TypeDesc.int .i64)) rfl rfl (by kernel_rfl) rfl (by kernel_rfl) (by kernel_rfl) (by kernel_rfl) (fun w hs => (hs.var (k := 0) (by exact rfl) (Sub4.trans (Sub4.all _) (Sub4.head _ _)))) ?_
      refine ls_ren 17 (v := .int .i64 (((l0).getD (x8_1).toNat ((0 : Int), (0 : Int))).1)) (v' := .int .i64 y10) (by kernel_rfl) (by rw [hy11]) ?_
      refine ls_on (j := 3) (t := 15) (b := false) rfl rfl (by kernel_rfl) (by kernel_rfl) ?_
      refine lv (.int .i64 x3_1) ?_
      refine ls_on (j := 3) (t := 15) (b := false) rfl rfl (by kernel_rfl) (by kernel_rfl) ?_
      refine lv (.bool (decide (y10 ≤ x3_1))) ?_
      refine lv (.bool (decide (y10 ≤ x3_1))) ?_
      refine ls_end ?_
      refine qn_then ?_
      by_cases q12 : y10 ≤ x3_1
      · replace H := ite_t q12 H
        refine cs_know (c := true) (dec_t q12) 20 (by kernel_rfl) ?_
        refine cs_true (by kernel_rfl) ?_
        refine cs_seq ?_
        refine cs_region (l := [_]) ?_
        refine lv (.bool false) ?_
        refine ls_end ?_
        refine qn_then ?_
        refine cs_ret' ?_
        refine qr_then ?_
        refine qr_block ?_
        refine qr_then ?_
        refine qr_then ?_
        refine qr_block ?_
        refine qr_then ?_
        obtain rfl := Option.some.inj H
        refine qr_res (rs := [_]) rfl (fun w' hs => ⟨[.bool false], (res_tmp (by kernel_rfl) (.nil)), (), rfl, hs.pick (ts := []) (cs := []) trivial (by decide)⟩)
      replace H := ite_f q12 H
      refine cs_know (c := false) (dec_f q12) 20 (by kernel_rfl) ?_
      refine cs_false (by kernel_rfl) ?_
      refine cs_skip' ?_
      refine qn_then ?_
      refine cs_region (l := [_, _, _]) ?_
      refine lv (.pointer (some ⟨g5, (0 + 1), none⟩)) ?_
      obtain ⟨y13, hy14, H⟩ := lt_some H
      refine ls_load (a0 := ⟨g5, (0 + 1), none⟩) (v := .int .i64 (((l0).getD (x8_1).toNat ((0 : Int), (0 : Int))).2)) (de := (TypeDesc.int .i64)) rfl rfl (by kernel_rfl) rfl (by kernel_rfl) (by kernel_rfl) (by kernel_rfl) (fun w hs => (hs.var (k := 0) (by exact rfl) (Sub4.trans (Sub4.all _) (Sub4.skip (n := 1) (len1 _) (Sub4.all _))))) ?_
      refine ls_ren 22 (v := .int .i64 (((l0).getD (x8_1).toNat ((0 : Int), (0 : Int))).2)) (v' := .int .i64 y13) (by kernel_rfl) (by rw [hy14]) ?_
      refine lv (.int .i64 y13) ?_
      refine ls_end ?_
      refine qn_block ?_
      refine qn_then ?_
      refine cs_region (l := [_, _]) ?_
      refine lv (.int .i64 (IntKind.wrap .i64 (x8_1 + (1 : Int)))) ?_
      refine lv (.int .i64 (IntKind.wrap .i64 (x8_1 + (1 : Int)))) ?_
      refine ls_end ?_
      refine qn_again k1 (s0) (Nat.le_refl _) ⟨_, y13, (IntKind.wrap .i64 (x8_1 + (1 : Int))), fr_next (fr_next (fr_next (fr_next (rfl) (by kernel_rfl)) (by kernel_rfl)) (by kernel_rfl)) (by kernel_rfl), rfl, H⟩ (sub_nil _)
    replace H := ite_f q9 H
    refine ls_know (c := true) (congrArg Bool.not (Bool.eq_false_iff.mpr q9)) 15 (by kernel_rfl) ?_
    refine lofx 3 15 false true ?_
    refine lofx 3 15 false true ?_
    refine lofx 3 15 false true ?_
    refine lofx 3 15 false true ?_
    refine lv (.bool true) ?_
    refine ls_end ?_
    refine qn_then ?_
    refine cs_true (by kernel_rfl) ?_
    refine cs_seq ?_
    refine cs_region (l := [_]) ?_
    refine lv (.bool false) ?_
    refine ls_end ?_
    refine qn_then ?_
    refine cs_ret' ?_
    refine qr_then ?_
    refine qr_block ?_
    refine qr_then ?_
    refine qr_then ?_
    refine qr_block ?_
    refine qr_then ?_
    obtain rfl := Option.some.inj H
    refine qr_res (rs := [_]) rfl (fun w' hs => ⟨[.bool false], (res_tmp (by kernel_rfl) (.nil)), (), rfl, hs.pick (ts := []) (cs := []) trivial (by decide)⟩)
  replace H := ite_f q1 H
  refine cs_know (c := false) (dec_f q1) 9 (by kernel_rfl) ?_
  refine cs_false (by kernel_rfl) ?_
  refine cs_exit' ?_
  refine qx_then ?_
  refine qx_then ?_
  refine qx_same ?_
  refine qn_then ?_
  refine cs_seq ?_
  refine cs_region (l := [_]) ?_
  refine lv (.bool true) ?_
  refine ls_end ?_
  refine qn_then ?_
  refine cs_ret' ?_
  obtain rfl := Option.some.inj H
  refine qr_res (rs := [_]) rfl (fun w' hs => ⟨[.bool true], (res_tmp (by kernel_rfl) (.nil)), (), rfl, hs.pick (ts := []) (cs := []) trivial (by decide)⟩)

/-! ### shadowbox/extent.first$1: function 53 -/
def extent_first_1.f (k : Nat) (a0 : (Int × Int)) (a1 : Int) : Option (Int) :=
  some (IntKind.wrap .i64 (a0.2 - a1))
set_option maxRecDepth 100000 in
set_option maxHeartbeats 4000000 in
theorem extent_first_1.calls (k : Nat) (a0 : (Int × Int)) (a1 : Int) (r : Int) (b : Bs) (hs0 : St b (stl []) b.w) (H : extent_first_1.f k a0 a1 = some r) :
    Calls Try.prog 53 #[.agg ⟨([Value.int .i64 a0.1] ++ [Value.int .i64 a0.2])⟩, .int .i64 a1] b.w fun e w' => ∃ x : Unit, e = .returned (.int .i64 r) ∧ St b (stl []) w' := by
  unfold extent_first_1.f at H
  refine enterb (n := 9) Try.func53 rfl (by kernel_rfl) (by kernel_rfl) hs0 ?_
  refine cs_sub (s0) (sub_nil _) ?_
  refine cs_seq ?_
  refine cs_region (l := [_, _]) ?_
  refine ls_new rfl rfl (by kernel_rfl) 0 (fun g => .pointer (some ⟨g, 0, none⟩)) (.cells ⟨([Value.int .i64 a0.1] ++ [Value.int .i64 a0.2])⟩ 24) (fun w => by kernel_rfl) ?_
  intro g1
  refine lv (.int .i64 (0 : Int)) ?_
  refine ls_end ?_
  refine qn_then ?_
  refine cs_seq ?_
  refine cs_region (l := [_, _, _, _, _]) ?_
  refine lv (.pointer (some ⟨g1, (0 + 1), none⟩)) ?_
  refine ls_load (a0 := ⟨g1, (0 + 1), none⟩) (v := .int .i64 a0.2) (de := (TypeDesc.int .i64)) rfl rfl (by kernel_rfl) rfl (by kernel_rfl) (by kernel_rfl) (by kernel_rfl) (fun w hs => (hs.var (k := 0) (by exact rfl) (Sub4.trans (Sub4.all _) (Sub4.skip (n := 1) (len1 _) (Sub4.all _))))) ?_
  refine lv (.int .i64 a1) ?_
  refine lv (.int .i64 (IntKind.wrap .i64 (a0.2 - a1))) ?_
  refine lv (.int .i64 (IntKind.wrap .i64 (a0.2 - a1))) ?_
  refine ls_end ?_
  refine qn_then ?_
  refine cs_ret' ?_
  obtain rfl := Option.some.inj H
  refine qr_res (rs := [_]) rfl (fun w' hs => ⟨[.int .i64 (IntKind.wrap .i64 (a0.2 - a1))], (res_tmp (by kernel_rfl) (.nil)), (), rfl, hs.pick (ts := []) (cs := []) trivial (by decide)⟩)

/-! ### slices.BinarySearchFunc[[]shadowbox/extent.Span,shadowbox/extent.Span,int], specialized: function 52 -/
def slices_BinarySearchFunc_52_s53.lo1 (l0 : List (Int × Int)) (a1 : Int) : Nat → Int → Int → Option (Int × Bool)
  | 0, _, _ => none
  | k1 + 1, x9_1, x10_1 => (if x9_1 < x10_1 then lt (IntKind.wrap .u64 (IntKind.wrap .i64 (x9_1 + x10_1))) fun y2 => (if 0 ≤ IntKind.wrap .i64 (Int.fdiv y2 2) then (if IntKind.wrap .i64 (Int.fdiv y2 2) < (l0.length : Int) then (extent_first_1.f k1 ((l0).getD (IntKind.wrap .i64 (Int.fdiv y2 2)).toNat ((0 : Int), (0 : Int))) a1).bind fun t8 => (if t8 < (0 : Int) then lt (IntKind.wrap .i64 ((IntKind.wrap .i64 (Int.fdiv y2 2)) + (1 : Int))) fun y12 => (slices_BinarySearchFunc_52_s53.lo1 l0 a1 k1) y12 x10_1 else (slices_BinarySearchFunc_52_s53.lo1 l0 a1 k1) x9_1 (IntKind.wrap .i64 (Int.fdiv y2 2))) else none) else none) else (if x9_1 < (l0.length : Int) then (if 0 ≤ x9_1 then (extent_first_1.f k1 ((l0).getD (x9_1).toNat ((0 : Int), (0 : Int))) a1).bind fun t18 => some (x9_1, decide (t18 = (0 : Int))) else none) else some (x9_1, false)))
def slices_BinarySearchFunc_52_s53.f (k : Nat) (l0 : List (Int × Int)) (a1 : Int) : Option (Int × Bool) :=
  slices_BinarySearchFunc_52_s53.lo1 l0 a1 k (0 : Int) (l0.length : Int)
set_option maxRecDepth 100000 in
set_option maxHeartbeats 4000000 in
theorem slices_BinarySearchFunc_52_s53.calls (k : Nat) (A0 : Option Addr) (c0 : Nat) (l0 : List (Int × Int)) (a1 : Int) (r : Int × Bool) (b : Bs) (hs0 : St b (stl []) b.w) (R0 : Ro b A0 (em T24 l0)) (C0 : l0.length ≤ c0) (H : slices_BinarySearchFunc_52_s53.f k l0 a1 = some r) :
    Calls Try.prog 52 #[.slice A0 l0.length c0, .int .i64 a1, .func (.func 53) #[] #[]] b.w fun e w' => ∃ x : Unit, e = .returned (.tuple #[.int .i64 r.1, .bool r.2]) ∧ St b (stl []) w' := by
  unfold slices_BinarySearchFunc_52_s53.f at H
  refine enterb (n := 49) Try.func52 rfl (by kernel_rfl) (by kernel_rfl) hs0 ?_
  refine cs_sub (s0) (sub_nil _) ?_
  refine cs_seq ?_
  refine cs_region (l := [_, _]) ?_
  refine lv (.int .i64 (0 : Int)) ?_
  refine lv (.bool false) ?_
  refine ls_end ?_
  refine qn_then ?_
  refine cs_seq ?_
  refine cs_region (l := [_, _, _]) ?_
  refine lv (.slice A0 l0.length c0) ?_
  refine lv (.int .i64 (l0.length : Int)) ?_
  refine lv (.int .i64 (l0.length : Int)) ?_
  refine ls_end ?_
  refine qn_then ?_
  refine cs_seq ?_
  refine cs_region (l := [_, _, _]) ?_
  refine lv (.int .i64 (l0.length : Int)) ?_
  refine lv (.int .i64 (0 : Int)) ?_
  refine lv (.int .i64 (l0.length : Int)) ?_
  refine ls_end ?_
  refine qn_then ?_
  refine cs_seq ?_
  refine cs_block ?_
  refine cs_sub (s0) (sub_nil _) ?_
  refine cs_loop (fun kk f S => ∃ (fR : Fr) (x9_1 : Int) (x10_1 : Int), f = upd (upd (upd (upd (upd (upd fR 0 (.slice A0 l0.length c0)) 1 (.int .i64 a1)) 2 (.func (.func 53) #[] #[])) 8 (.int .i64 (l0.length : Int))) 9 (.int .i64 x9_1)) 10 (.int .i64 x10_1) ∧ S = s0 ∧ slices_BinarySearchFunc_52_s53.lo1 l0 a1 kk x9_1 x10_1 = some r) k ?_ ?_ ?_
  · exact ⟨_, (0 : Int), (l0.length : Int), fr_next (fr_next (fr_next (fr_next (fr_next (fr_next (rfl) (by kernel_rfl)) (by kernel_rfl)) (by kernel_rfl)) (by kernel_rfl)) (by kernel_rfl)) (by kernel_rfl), rfl, H⟩
  · rintro f S ⟨fr1, x9_1, x10_1, rfl, rfl, H⟩; cases H
  rintro k1 f S ⟨fr1, x9_1, x10_1, rfl, rfl, H⟩
  replace H : ((if x9_1 < x10_1 then lt (IntKind.wrap .u64 (IntKind.wrap .i64 (x9_1 + x10_1))) fun y2 => (if 0 ≤ IntKind.wrap .i64 (Int.fdiv y2 2) then (if IntKind.wrap .i64 (Int.fdiv y2 2) < (l0.length : Int) then (extent_first_1.f k1 ((l0).getD (IntKind.wrap .i64 (Int.fdiv y2 2)).toNat ((0 : Int), (0 : Int))) a1).bind fun t8 => (if t8 < (0 : Int) then lt (IntKind.wrap .i64 ((IntKind.wrap .i64 (Int.fdiv y2 2)) + (1 : Int))) fun y12 => (slices_BinarySearchFunc_52_s53.lo1 l0 a1 k1) y12 x10_1 else (slices_BinarySearchFunc_52_s53.lo1 l0 a1 k1) x9_1 (IntKind.wrap .i64 (Int.fdiv y2 2))) else none) else none) else (if x9_1 < (l0.length : Int) then (if 0 ≤ x9_1 then (extent_first_1.f k1 ((l0).getD (x9_1).toNat ((0 : Int), (0 : Int))) a1).bind fun t18 => some (x9_1, decide (t18 = (0 : Int))) else none) else some (x9_1, false)))) = some r := H
  refine cs_seq ?_
  refine cs_seq ?_
  refine cs_region (l := [_, _, _]) ?_
  refine lv (.int .i64 x9_1) ?_
  refine lv (.int .i64 x10_1) ?_
  refine lv (.bool (decide (x9_1 < x10_1))) ?_
  refine ls_end ?_
  refine qn_then ?_
  by_cases q1 : x9_1 < x10_1
  · replace H := ite_t q1 H
    refine cs_know (c := true) (dec_t q1) 17 (by kernel_rfl) ?_
    refine cs_true (by kernel_rfl) ?_
    refine cs_skip' ?_
    refine qn_then ?_
    refine cs_block ?_
    refine cs_seq ?_
    refine cs_region (l := [_, _, _, _, _, _, _]) ?_
    refine lv (.int .i64 x9_1) ?_
    refine lv (.int .i64 x10_1) ?_
    refine lv (.int .i64 (IntKind.wrap .i64 (x9_1 + x10_1))) ?_
    obtain ⟨y2, hy3, H⟩ := lt_some H
    refine lv (.int .u64 (IntKind.wrap .u64 (IntKind.wrap .i64 (x9_1 + x10_1)))) ?_
    refine ls_ren 21 (v := .int .u64 (IntKind.wrap .u64 (IntKind.wrap .i64 (x9_1 + x10_1)))) (v' := .int .u64 y2) (by kernel_rfl) (by rw [hy3]) ?_
    refine lv (.int .u64 (Int.fdiv y2 2)) ?_
    refine lv (.int .i64 (IntKind.wrap .i64 (Int.fdiv y2 2))) ?_
    refine lv (.int .i64 (IntKind.wrap .i64 (Int.fdiv y2 2))) ?_
    refine ls_end ?_
    refine qn_then ?_
    refine cs_seq ?_
    refine cs_region (l := [_, _, _, _, _, _, _, _]) ?_
    refine lv (.func (.func 53) #[] #[]) ?_
    refine lv (.slice A0 l0.length c0) ?_
    refine lv (.int .i64 (IntKind.wrap .i64 (Int.fdiv y2 2))) ?_
    obtain ⟨q4, H⟩ := ite_need H
    obtain ⟨q5, H⟩ := ite_need H
    obtain ⟨ad6, hA7⟩ := ido_at (T := T24) (l := l0) (i := IntKind.wrap .i64 (Int.fdiv y2 2)) R0 q4 q5
    refine ls_idxv T24 (A := A0) (c := c0) (l := l0) (k := .i64) (i := IntKind.wrap .i64 (Int.fdiv y2 2)) (z := 2) (ad := ad6) rfl rfl (by kernel_rfl) hA7 rfl (by kernel_rfl) (by kernel_rfl) (by kernel_rfl) (by kernel_rfl) q4 q5 ?_
    refine ls_loadagg (a := (ad6.add ((IntKind.wrap .i64 (Int.fdiv y2 2)).toNat * 2))) (sub := ([Value.int .i64 (((l0).getD (IntKind.wrap .i64 (Int.fdiv y2 2)).toNat ((0 : Int), (0 : Int))).1)] ++ [Value.int .i64 (((l0).getD (IntKind.wrap .i64 (Int.fdiv y2 2)).toNat ((0 : Int), (0 : Int))).2)])) rfl rfl (by kernel_rfl) rfl (by kernel_rfl) (by kernel_rfl) (by kernel_rfl) (len_app (len1 _) (len1 _)) (fun w hs => (hs.old R0).part hA7 (em_sub T24 l0 (i := (IntKind.wrap .i64 (Int.fdiv y2 2)).toNat) (by have h0 : (0 : Int) ≤ IntKind.wrap .i64 (Int.fdiv y2 2) := q4; have h1 : IntKind.wrap .i64 (Int.fdiv y2 2) < (l0.length : Int) := q5; omega))) ?_
    refine lv (.int .i64 a1) ?_
    obtain ⟨t8, hc9, H⟩ := bind_some H
    refine ls_callb (fid := 53) (vals := #[.agg ⟨([Value.int .i64 (((l0).getD (IntKind.wrap .i64 (Int.fdiv y2 2)).toNat ((0 : Int), (0 : Int))).1)] ++ [Value.int .i64 (((l0).getD (IntKind.wrap .i64 (Int.fdiv y2 2)).toNat ((0 : Int), (0 : Int))).2)])⟩, .int .i64 a1]) (X := Unit) (fun x => .int .i64 t8) (fun x => stl []) [] [] [] [] 0 rfl rfl (by kernel_rfl) (fun w => by kernel_rfl) trivial trivial (by decide) (fun w hs hb => extent_first_1.calls k1 ((l0).getD (IntKind.wrap .i64 (Int.fdiv y2 2)).toNat ((0 : Int), (0 : Int))) a1 t8 (lent b w [] []) hb  hc9) ?_
    intro x10
    refine lv (.bool (decide (t8 < (0 : Int)))) ?_
    refine ls_end ?_
    refine qn_then ?_
    by_cases q11 : t8 < (0 : Int)
    · replace H := ite_t q11 H
      refine cs_know (c := true) (dec_t q11) 31 (by kernel_rfl) ?_
      refine cs_true (by kernel_rfl) ?_
      refine cs_region (l := [_, _, _]) ?_
      refine lv (.int .i64 (IntKind.wrap .i64 (Int.fdiv y2 2))) ?_
      obtain ⟨y12, hy13, H⟩ := lt_some H
      refine lv (.int .i64 (IntKind.wrap .i64 ((IntKind.wrap .i64 (Int.fdiv y2 2)) + (1 : Int)))) ?_
      refine ls_ren 33 (v := .int .i64 (IntKind.wrap .i64 ((IntKind.wrap .i64 (Int.fdiv y2 2)) + (1 : Int)))) (v' := .int .i64 y12) (by kernel_rfl) (by rw [hy13]) ?_
      refine lv (.int .i64 y12) ?_
      refine ls_end ?_
      refine qn_block ?_
      refine qn_again k1 (s0) (Nat.le_refl _) ⟨_, y12, x10_1, fr_next (fr_next (fr_next (fr_next (fr_next (fr_next (rfl) (by kernel_rfl)) (by kernel_rfl)) (by kernel_rfl)) (by kernel_rfl)) (by kernel_rfl)) (by kernel_rfl), rfl, H⟩ (sub_nil _)
    replace H := ite_f q11 H
    refine cs_know (c := false) (dec_f q11) 31 (by kernel_rfl) ?_
    refine cs_false (by kernel_rfl) ?_
    refine cs_region (l := [_, _]) ?_
    refine lv (.int .i64 (IntKind.wrap .i64 (Int.fdiv y2 2))) ?_
    refine lv (.int .i64 (IntKind.wrap .i64 (Int.fdiv y2 2))) ?_
    refine ls_end ?_
    refine qn_block ?_
    refine qn_again k1 (s0) (Nat.le_refl _) ⟨_, x9_1, (IntKind.wrap .i64 (Int.fdiv y2 2)), fr_next (fr_next (fr_next (fr_next (fr_next (fr_next (rfl) (by kernel_rfl)) (by kernel_rfl)) (by kernel_rfl)) (by kernel_rfl)) (by kernel_rfl)) (by kernel_rfl), rfl, H⟩ (sub_nil _)
  replace H := ite_f q1 H
  refine cs_know (c := false) (dec_f q1) 17 (by kernel_rfl) ?_
  refine cs_false (by kernel_rfl) ?_
  refine cs_exit' ?_
  refine qx_then ?_
  refine qx_then ?_
  refine qx_same ?_
  refine qn_then ?_
  refine cs_seq ?_
  refine cs_region (l := [_, _, _, _, _, _, _, _, _, _, _, _, _, _, _, _]) ?_
  refine lv (.int .i64 x9_1) ?_
  refine lv (.int .i64 x9_1) ?_
  refine lv (.int .i64 (l0.length : Int)) ?_
  refine lv (.bool (decide (x9_1 < (l0.length : Int)))) ?_
  refine lv (.bool (decide (x9_1 < (l0.length : Int)))) ?_
  by_cases q14 : x9_1 < (l0.length : Int)
  · replace H := ite_t q14 H
    refine ls_know (c := true) (dec_t q14) 39 (by kernel_rfl) ?_
    refine ls_on (j := 4) (t := 39) (b := true) rfl rfl (by kernel_rfl) (by kernel_rfl) ?_
    refine lv (.func (.func 53) #[] #[]) ?_
    refine ls_on (j := 4) (t := 39) (b := true) rfl rfl (by kernel_rfl) (by kernel_rfl) ?_
    refine lv (.slice A0 l0.length c0) ?_
    refine ls_on (j := 4) (t := 39) (b := true) rfl rfl (by kernel_rfl) (by kernel_rfl) ?_
    refine lv (.int .i64 x9_1) ?_
    refine ls_on (j := 4) (t := 39) (b := true) rfl rfl (by kernel_rfl) (by kernel_rfl) ?_
    obtain ⟨q15, H⟩ := ite_need H
    obtain ⟨ad16, hA17⟩ := ido_at (T := T24) (l := l0) (i := x9_1) R0 q15 q14
    refine ls_idxv T24 (A := A0) (c := c0) (l := l0) (k := .i64) (i := x9_1) (z := 2) (ad := ad16) rfl rfl (by kernel_rfl) hA17 rfl (by kernel_rfl) (by kernel_rfl) (by kernel_rfl) (by kernel_rfl) q15 q14 ?_
    refine ls_on (j := 4) (t := 39) (b := true) rfl rfl (by kernel_rfl) (by kernel_rfl) ?_
    refine ls_loadagg (a := (ad16.add ((x9_1).toNat * 2))) (sub := ([Value.int .i64 (((l0).getD (x9_1).toNat ((0 : Int), (0 : Int))).1)] ++ [Value.int .i64 (((l0).getD (x9_1).toNat ((0 : Int), (0 : Int))).2)])) rfl rfl (by kernel_rfl) rfl (by kernel_rfl) (by kernel_rfl) (by kernel_rfl) (len_app (len1 _) (len1 _)) (fun w hs => (hs.old R0).part hA17 (em_sub T24 l0 (i := (x9_1).toNat) (by have h0 : (0 : Int) ≤ x9_1 := q15; have h1 : x9_1 < (l0.length : Int) := q14; omega))) ?_
    refine ls_on (j := 4) (t := 39) (b := true) rfl rfl (by kernel_rfl) (by kernel_rfl) ?_
    refine lv (.int .i64 a1) ?_
    refine ls_on (j := 4) (t := 39) (b := true) rfl rfl (by kernel_rfl) (by kernel_rfl) ?_
    obtain ⟨t18, hc19, H⟩ := bind_some H
    refine ls_callb (fid := 53) (vals := #[.agg ⟨([Value.int .i64 (((l0).getD (x9_1).toNat ((0 : Int), (0 : Int))).1)] ++ [Value.int .i64 (((l0).getD (x9_1).toNat ((0 : Int), (0 : Int))).2)])⟩, .int .i64 a1]) (X := Unit) (fun x => .int .i64 t18) (fun x => stl []) [] [] [] [] 0 rfl rfl (by kernel_rfl) (fun w => by kernel_rfl) trivial trivial (by decide) (fun w hs hb => extent_first_1.calls k1 ((l0).getD (x9_1).toNat ((0 : Int), (0 : Int))) a1 t18 (lent b w [] []) hb  hc19) ?_
    intro x20
    refine ls_on (j := 4) (t := 39) (b := true) rfl rfl (by kernel_rfl) (by kernel_rfl) ?_
    refine lv (.bool (decide (t18 = (0 : Int)))) ?_
    refine lv (.bool (decide (t18 = (0 : Int)))) ?_
    refine lv (.int .i64 x9_1) ?_
    refine lv (.bool (decide (t18 = (0 : Int)))) ?_
    refine ls_end ?_
    refine qn_then ?_
    refine cs_ret' ?_
    obtain rfl := Option.some.inj H
    refine qr_res (rs := [_, _]) rfl (fun w' hs => ⟨[.int .i64 x9_1, .bool (decide (t18 = (0 : Int)))], (res_tmp (by kernel_rfl) (res_tmp (by kernel_rfl) (.nil))), (), rfl, hs.pick (ts := []) (cs := []) trivial (by decide)⟩)
  replace H := ite_f q14 H
  refine ls_know (c := false) (dec_f q14) 39 (by kernel_rfl) ?_
  refine lofx 4 39 true false ?_
  refine lofx 4 39 true false ?_
  refine lofx 4 39 true false ?_
  refine lofx 4 39 true false ?_
  refine lofx 4 39 true false ?_
  refine lofx 4 39 true false ?_
  refine lofx 4 39 true false ?_
  refine lofx 4 39 true false ?_
  refine lv (.bool false) ?_
  refine lv (.int .i64 x9_1) ?_
  refine lv (.bool false) ?_
  refine ls_end ?_
  refine qn_then ?_
  refine cs_ret' ?_
  obtain rfl := Option.some.inj H
  refine qr_res (rs := [_, _]) rfl (fun w' hs => ⟨[.int .i64 x9_1, .bool false], (res_tmp (by kernel_rfl) (res_tmp (by kernel_rfl) (.nil))), (), rfl, hs.pick (ts := []) (cs := []) trivial (by decide)⟩)

/-! ### shadowbox/extent.first: function 42 -/
def extent_first.f (k : Nat) (l0 : List (Int × Int)) (a1 : Int) : Option (Int) :=
  (slices_BinarySearchFunc_52_s53.f k l0 a1).bind fun t1 => some t1.1
set_option maxRecDepth 100000 in
set_option maxHeartbeats 4000000 in
theorem extent_first.calls (k : Nat) (A0 : Option Addr) (c0 : Nat) (l0 : List (Int × Int)) (a1 : Int) (r : Int) (b : Bs) (hs0 : St b (stl []) b.w) (R0 : Ro b A0 (em T24 l0)) (C0 : l0.length ≤ c0) (H : extent_first.f k l0 a1 = some r) :
    Calls Try.prog 42 #[.slice A0 l0.length c0, .int .i64 a1] b.w fun e w' => ∃ x : Unit, e = .returned (.int .i64 r) ∧ St b (stl []) w' := by
  unfold extent_first.f at H
  refine enterb (n := 14) Try.func42 rfl (by kernel_rfl) (by kernel_rfl) hs0 ?_
  refine cs_sub (s0) (sub_nil _) ?_
  refine cs_seq ?_
  refine cs_region (l := [_]) ?_
  refine lv (.int .i64 (0 : Int)) ?_
  refine ls_end ?_
  refine qn_then ?_
  refine cs_seq ?_
  refine cs_region (l := [_, _, _, _, _, _, _, _]) ?_
  refine lv (.slice A0 l0.length c0) ?_
  refine lv (.int .i64 a1) ?_
  obtain ⟨t1, hc2, H⟩ := bind_some H
  refine ls_callb (fid := 52) (vals := #[.slice A0 l0.length c0, .int .i64 a1, .func (.func 53) #[] #[]]) (X := Unit) (fun x => .tuple #[.int .i64 t1.1, .bool t1.2]) (fun x => stl []) [] [] [] [] 0 rfl rfl (by kernel_rfl) (fun w => by kernel_rfl) trivial trivial (by decide) (fun w hs hb => slices_BinarySearchFunc_52_s53.calls k A0 c0 l0 a1 t1 (lent b w [] []) hb (hs.ro R0 _ _) C0 hc2) ?_
  intro x3
  refine lv (.tuple #[.int .i64 t1.1, .bool t1.2]) ?_
  refine lv (.int .i64 t1.1) ?_
  refine lv (.bool t1.2) ?_
  refine lv (.int .i64 t1.1) ?_
  refine lv (.bool t1.2) ?_
  refine ls_end ?_
  refine qn_then ?_
  refine cs_seq ?_
  refine cs_region (l := [_, _]) ?_
  refine lv (.int .i64 t1.1) ?_
  refine lv (.int .i64 t1.1) ?_
  refine ls_end ?_
  refine qn_then ?_
  refine cs_ret' ?_
  obtain rfl := Option.some.inj H
  refine qr_res (rs := [_]) rfl (fun w' hs => ⟨[.int .i64 t1.1], (res_tmp (by kernel_rfl) (.nil)), (), rfl, hs.pick (ts := []) (cs := []) trivial (by decide)⟩)

/-! ### slices.Clone[[]shadowbox/extent.Span,shadowbox/extent.Span]: function 43 -/
def slices_Clone_43.f (k : Nat) (l0 : List (Int × Int)) : Option ((List (Int × Int))) :=
  (if (([] : List (Int × Int)).length + l0.length) * 16 ≤ 140737488355328 then some (([] : List (Int × Int)) ++ l0) else none)
set_option maxRecDepth 100000 in
set_option maxHeartbeats 4000000 in
theorem slices_Clone_43.calls (k : Nat) (A0 : Option Addr) (c0 : Nat) (l0 : List (Int × Int)) (r : (List (Int × Int))) (b : Bs) (hs0 : St b (stl []) b.w) (R0 : Ro b A0 (em T24 l0)) (C0 : l0.length ≤ c0) (H : slices_Clone_43.f k l0 = some r) :
    Calls Try.prog 43 #[.slice A0 l0.length c0] b.w fun e w' => ∃ x : (Option Addr × Nat), e = .returned (.slice x.1 r.length x.2) ∧ St b (stl [Ck.sl T24 x.1 x.2 r]) w' := by
  unfold slices_Clone_43.f at H
  refine enterb (n := 8) Try.func43 rfl (by kernel_rfl) (by kernel_rfl) hs0 ?_
  refine cs_sub (s0) (sub_nil _) ?_
  refine cs_seq ?_
  refine cs_region (l := [_]) ?_
  refine lv (.slice none 0 0) ?_
  refine ls_end ?_
  refine qn_then ?_
  refine cs_seq ?_
  refine cs_seq ?_
  refine cs_region (l := [_, _]) ?_
  refine lv (.slice A0 l0.length c0) ?_
  refine ls_val (v := .bool (Option.isNone A0)) rfl rfl (by kernel_rfl) (fun w => by cases A0 <;> kernel_rfl) ?_
  refine ls_end ?_
  refine qn_then ?_
  by_cases q1 : A0 = none
  · have hl2 : l0 = [] := Ro.nil_of (T := T24) R0 q1
    replace H : (some ([] : List (Int × Int))) = some r := by first | (rw [hl2] at H; simpa using H) | simpa [hl2] using H
    refine cs_know (c := true) (isNone_t q1) 4 (by kernel_rfl) ?_
    refine cs_true (by kernel_rfl) ?_
    refine cs_seq ?_
    refine cs_region (l := [_]) ?_
    refine lv (.slice none 0 0) ?_
    refine ls_end ?_
    refine qn_then ?_
    refine cs_ret' ?_
    refine qr_then ?_
    refine qr_nilrow 0 T24 ?_
    obtain rfl := Option.some.inj H
    refine qr_res (rs := [_]) rfl (fun w' hs => ⟨[.slice none 0 0], (res_tmp (by kernel_rfl) (.nil)), (none, 0), rfl, hs.pick (ts := [0]) (cs := [Ck.sl T24 none 0 ([] : List (Int × Int))]) ⟨by exact rfl, trivial⟩ (by decide)⟩)
  skip
  refine cs_know (c := false) (isNone_f q1) 4 (by kernel_rfl) ?_
  refine cs_false (by kernel_rfl) ?_
  refine cs_skip' ?_
  refine qn_then ?_
  refine cs_seq ?_
  refine cs_region (l := [_, _, _, _]) ?_
  refine ls_lit T24 0 rfl rfl (by kernel_rfl) ([] : List (Int × Int)) (by exact of_decide_eq_true (by kernel_rfl)) (fun w => by kernel_rfl) ?_
  intro g3
  refine lv (.slice A0 l0.length c0) ?_
  obtain ⟨q4, H⟩ := ite_need H
  refine ls_app T24 (A := (some ⟨g3, 0, none⟩)) (c := ([] : List (Int × Int)).length) (B := A0) (cb := c0) (z := (.agg ⟨([Value.int .i64 (0 : Int)] ++ [Value.int .i64 (0 : Int)])⟩)) (l := ([] : List (Int × Int))) (m := l0) (bytes := 16) 0 rfl rfl (by kernel_rfl) rfl (by kernel_rfl) (by exact rfl) (by kernel_rfl) (fun w hs => (hs.old R0)) (by kernel_rfl) (by kernel_rfl) rfl (by decide) q4 ?_
  intro xA5 xc6
  refine lv (.slice xA5 (([] : List (Int × Int)) ++ l0).length xc6) ?_
  refine ls_end ?_
  refine qn_then ?_
  refine cs_ret' ?_
  obtain rfl := Option.some.inj H
  refine qr_res (rs := [_]) rfl (fun w' hs => ⟨[.slice xA5 (([] : List (Int × Int)) ++ l0).length xc6], (res_tmp (by kernel_rfl) (.nil)), (xA5, xc6), rfl, hs.pick (ts := [0]) (cs := [Ck.sl T24 xA5 xc6 (([] : List (Int × Int)) ++ l0)]) ⟨by exact rfl, trivial⟩ (by decide)⟩)

/-! ### shadowbox/extent.replace[shadowbox/extent.Span]: function 44 -/
def extent_replace_44.f (k : Nat) (l0 : List (Int × Int)) (a1 : Int) (a2 : Int) (l3 : List (Int × Int)) : Option ((List (Int × Int))) :=
  (if 0 ≤ a1 then (if a1 ≤ (l0.length : Int) then lt (l0.take (a1).toNat) fun xl8 => (if (([] : List (Int × Int)).length + xl8.length) * 16 ≤ 140737488355328 then (if ((([] : List (Int × Int)) ++ xl8).length + l3.length) * 16 ≤ 140737488355328 then (if 0 ≤ a2 then (if a2 ≤ (l0.length : Int) then lt (l0.drop (a2).toNat) fun xl25 => (if (((([] : List (Int × Int)) ++ xl8) ++ l3).length + xl25.length) * 16 ≤ 140737488355328 then some (((([] : List (Int × Int)) ++ xl8) ++ l3) ++ xl25) else none) else none) else none) else none) else none) else none) else none)
set_option maxRecDepth 100000 in
set_option maxHeartbeats 4000000 in
theorem extent_replace_44.calls (k : Nat) (A0 : Option Addr) (c0 : Nat) (l0 : List (Int × Int)) (a1 : Int) (a2 : Int) (A3 : Option Addr) (c3 : Nat) (l3 : List (Int × Int)) (r : (List (Int × Int))) (b : Bs) (hs0 : St b (stl []) b.w) (R0 : Ro b A0 (em T24 l0)) (C0 : l0.length ≤ c0) (R3 : Ro b A3 (em T24 l3)) (C3 : l3.length ≤ c3) (H : extent_replace_44.f k l0 a1 a2 l3 = some r) :
    Calls Try.prog 44 #[.slice A0 l0.length c0, .int .i64 a1, .int .i64 a2, .slice A3 l3.length c3] b.w fun e w' => ∃ x : (Option Addr × Nat), e = .returned (.slice x.1 r.length x.2) ∧ St b (stl [Ck.sl T24 x.1 x.2 r]) w' := by
  unfold extent_replace_44.f at H
  refine enterb (n := 22) Try.func44 rfl (by kernel_rfl) (by kernel_rfl) hs0 ?_
  refine cs_sub (s0) (sub_nil _) ?_
  refine cs_seq ?_
  refine cs_region (l := [_]) ?_
  refine lv (.slice none 0 0) ?_
  refine ls_end ?_
  refine qn_then ?_
  refine cs_seq ?_
  refine cs_region (l := [_, _, _, _, _, _]) ?_
  refine ls_lit T24 0 rfl rfl (by kernel_rfl) ([] : List (Int × Int)) (by exact of_decide_eq_true (by kernel_rfl)) (fun w => by kernel_rfl) ?_
  intro g1
  refine lv (.slice A0 l0.length c0) ?_
  refine lv (.int .i64 a1) ?_
  obtain ⟨q2, H⟩ := ite_need H
  obtain ⟨q3, H⟩ := ite_need H
  obtain ⟨xl8, hy9, H⟩ := lt_some H
  have hz11 : 0 ≤ (a1).toNat := by omega
  have hz12 : (a1).toNat ≤ l0.length := by omega
  obtain ⟨xA4, xc5, he10, xC7, xR6⟩ := cut_at (A := A0) (c := c0) (l := l0) T24 0 ((a1).toNat) hz11 hz12 C0 R0 (m := xl8) (by rw [← hy9] <;> simp) (z := 2) rfl
  refine ls_cutv (A := A0) (c := c0) (m := l0.length) (z := 2) (e := 24) (a := 0) (b := (a1).toNat) rfl rfl (by kernel_rfl) rfl (by kernel_rfl) (by kernel_rfl) (by kernel_rfl) (.inl ⟨rfl, rfl⟩) (.inr ⟨.i64, by rw [Int.toNat_of_nonneg (by first | assumption | omega)]; kernel_rfl⟩) hz11 hz12 C0 he10 ?_
  obtain ⟨q13, H⟩ := ite_need H
  refine ls_app T24 (A := (some ⟨g1, 0, none⟩)) (c := ([] : List (Int × Int)).length) (B := xA4) (cb := xc5) (z := (.agg ⟨([Value.int .i64 (0 : Int)] ++ [Value.int .i64 (0 : Int)])⟩)) (l := ([] : List (Int × Int))) (m := xl8) (bytes := 16) 0 rfl rfl (by kernel_rfl) rfl (by kernel_rfl) (by exact rfl) (by kernel_rfl) (fun w hs => (hs.old xR6)) (by kernel_rfl) (by kernel_rfl) rfl (by decide) q13 ?_
  intro xA14 xc15
  refine lv (.slice xA14 (([] : List (Int × Int)) ++ xl8).length xc15) ?_
  refine ls_end ?_
  refine qn_then ?_
  refine cs_seq ?_
  obtain ⟨q16, H⟩ := ite_need H
  obtain ⟨q19, H⟩ := ite_need H
  obtain ⟨q20, H⟩ := ite_need H
  obtain ⟨xl25, hy26, H⟩ := lt_some H
  have hz28 : (a2).toNat ≤ l0.length := by omega
  have hz29 : l0.length ≤ l0.length := by omega
  obtain ⟨xA21, xc22, he27, xC24, xR23⟩ := cut_at (A := A0) (c := c0) (l := l0) T24 ((a2).toNat) l0.length hz28 hz29 C0 R0 (m := xl25) (by rw [← hy26] <;> simp) (z := 2) rfl
  refine cs_sub (sput s0 0 (some (Ck.sl T24 xA14 xc15 (([] : List (Int × Int)) ++ xl8)))) (sub_put (by exact rfl) (sub_nil _)) ?_
  refine cs_chain (l := [_, _, _, _, _, _, _, _]) [[], [], [0, 1], [], [], [3, 4], [0, 1, 2, 3, 4, 5], [0, 1, 2, 3, 4, 5, 6]] 6 (fun u => [].contains u) (efl [false, false, true, false, false, false]) (pvl [.val (.slice xA14 (([] : List (Int × Int)) ++ xl8).length xc15), .val (.slice A3 l3.length c3), .eff 2, .val (.slice A0 l0.length c0), .val (.int .i64 a2), .val (.slice xA21 xl25.length xc22)]) (Esl [fun (es : Nat → Value) (S' : Sto) => S' = sput s0 0 (some (Ck.sl T24 xA14 xc15 (([] : List (Int × Int)) ++ xl8))), fun (es : Nat → Value) (S' : Sto) => ∃ (xA17 : Option Addr) (xc18 : Nat), es 2 = .slice xA17 ((([] : List (Int × Int)) ++ xl8) ++ l3).length xc18 ∧ S' = sput s0 0 (some (Ck.sl T24 xA17 xc18 ((([] : List (Int × Int)) ++ xl8) ++ l3)))] [0, 0, 0, 0, 0, 0, 1]) (nxl [0, 0, 6, 0, 0, 0]) (onl [true, true, true, true, true, true]) 2 (by kernel_rfl) (by kernel_rfl) (by kernel_rfl) (by kernel_rfl) (by kernel_rfl) (rs := [_, _]) rfl (by kernel_rfl) (by kernel_rfl) (fun es => ?_) ?_ ?_
  · exact (rfl : sput s0 0 (some (Ck.sl T24 xA14 xc15 (([] : List (Int × Int)) ++ xl8))) = sput s0 0 (some (Ck.sl T24 xA14 xc15 (([] : List (Int × Int)) ++ xl8))))
  · refine all_snoc (all_snoc (all_snoc (all_snoc (all_snoc (all_snoc (all_nil) ?_) ?_) ?_) ?_) ?_) ?_
    · refine ⟨fun o ho es vs f' S' hve hvp hf hx hK hE => ?_⟩
      obtain rfl := Option.some.inj ho
      refine ⟨want_none rfl, fun _ _ => ?_, (fun _ h => by cases h), (fun h _ => by cases h), (fun h _ => by cases h)⟩
      have hF := fr_next (rfl) ((hx 9 (by kernel_rfl)).trans (by kernel_rfl : (_ : Value) = .slice xA14 (([] : List (Int × Int)) ++ xl8).length xc15))
      refine ls_fr hF ?_
      refine lv (.slice xA14 (([] : List (Int × Int)) ++ xl8).length xc15) ?_
      exact ls_finp (.slice xA14 (([] : List (Int × Int)) ++ xl8).length xc15) (congrArg (fun z => upd z 15 _) hF.symm) rfl
    · refine ⟨fun o ho es vs f' S' hve hvp hf hx hK hE => ?_⟩
      obtain rfl := Option.some.inj ho
      refine ⟨want_none rfl, fun _ _ => ?_, (fun _ h => by cases h), (fun h _ => by cases h), (fun h _ => by cases h)⟩
      have hF := fr_next (rfl) ((hx 3 (by kernel_rfl)).trans (by kernel_rfl : (_ : Value) = .slice A3 l3.length c3))
      refine ls_fr hF ?_
      refine lv (.slice A3 l3.length c3) ?_
      exact ls_finp (.slice A3 l3.length c3) (congrArg (fun z => upd z 16 _) hF.symm) rfl
    · refine ⟨fun o ho es vs f' S' hve hvp hf hx hK hE => ?_⟩
      obtain rfl := Option.some.inj ho
      obtain rfl := hE rfl
      refine ⟨want_none rfl, (fun h _ => by cases h), (fun h _ => by cases h), fun _ _ => ?_, (fun _ h => by cases h)⟩
      have hF := fr_next (fr_next (rfl) ((hf 0 15 (by kernel_rfl) rfl).trans (show vs 0 = .slice xA14 (([] : List (Int × Int)) ++ xl8).length xc15 from hvp 0 (by kernel_rfl)))) ((hf 1 16 (by kernel_rfl) rfl).trans (show vs 1 = .slice A3 l3.length c3 from hvp 1 (by kernel_rfl)))
      refine ls_fr hF ?_
      refine ls_app T24 (A := xA14) (c := xc15) (B := A3) (cb := c3) (z := (.agg ⟨([Value.int .i64 (0 : Int)] ++ [Value.int .i64 (0 : Int)])⟩)) (l := (([] : List (Int × Int)) ++ xl8)) (m := l3) (bytes := 16) 0 rfl rfl (by kernel_rfl) rfl (by kernel_rfl) (by exact rfl) (by kernel_rfl) (fun w hs => (hs.old R3)) (by kernel_rfl) (by kernel_rfl) rfl (by decide) q16 ?_
      intro xA17 xc18
      exact ls_fine (sput s0 0 (some (Ck.sl T24 xA17 xc18 ((([] : List (Int × Int)) ++ xl8) ++ l3)))) (.slice xA17 ((([] : List (Int × Int)) ++ xl8) ++ l3).length xc18) (congrArg (fun z => upd z 17 _) hF.symm) (show (fun (es : Nat → Value) (S' : Sto) => ∃ (xA17 : Option Addr) (xc18 : Nat), es 2 = .slice xA17 ((([] : List (Int × Int)) ++ xl8) ++ l3).length xc18 ∧ S' = sput s0 0 (some (Ck.sl T24 xA17 xc18 ((([] : List (Int × Int)) ++ xl8) ++ l3)))) (upv es 2 (.slice xA17 ((([] : List (Int × Int)) ++ xl8) ++ l3).length xc18)) (sput s0 0 (some (Ck.sl T24 xA17 xc18 ((([] : List (Int × Int)) ++ xl8) ++ l3)))) from ⟨xA17, xc18, rfl, rfl⟩) rfl (keep_nil) (sub_put (by exact rfl) (sub_nil _))
    · refine ⟨fun o ho es vs f' S' hve hvp hf hx hK hE => ?_⟩
      obtain rfl := Option.some.inj ho
      refine ⟨want_none rfl, fun _ _ => ?_, (fun _ h => by cases h), (fun h _ => by cases h), (fun h _ => by cases h)⟩
      have hF := fr_next (rfl) ((hx 0 (by kernel_rfl)).trans (by kernel_rfl : (_ : Value) = .slice A0 l0.length c0))
      refine ls_fr hF ?_
      refine lv (.slice A0 l0.length c0) ?_
      exact ls_finp (.slice A0 l0.length c0) (congrArg (fun z => upd z 18 _) hF.symm) rfl
    · refine ⟨fun o ho es vs f' S' hve hvp hf hx hK hE => ?_⟩
      obtain rfl := Option.some.inj ho
      refine ⟨want_none rfl, fun _ _ => ?_, (fun _ h => by cases h), (fun h _ => by cases h), (fun h _ => by cases h)⟩
      have hF := fr_next (rfl) ((hx 2 (by kernel_rfl)).trans (by kernel_rfl : (_ : Value) = .int .i64 a2))
      refine ls_fr hF ?_
      refine lv (.int .i64 a2) ?_
      exact ls_finp (.int .i64 a2) (congrArg (fun z => upd z 19 _) hF.symm) rfl
    refine ⟨fun o ho es vs f' S' hve hvp hf hx hK hE => ?_⟩
    obtain rfl := Option.some.inj ho
    refine ⟨want_none rfl, fun _ _ => ?_, (fun _ h => by cases h), (fun h _ => by cases h), (fun h _ => by cases h)⟩
    have hF := fr_next (fr_next (rfl) ((hf 3 18 (by kernel_rfl) rfl).trans (show vs 3 = .slice A0 l0.length c0 from hvp 3 (by kernel_rfl)))) ((hf 4 19 (by kernel_rfl) rfl).trans (show vs 4 = .int .i64 a2 from hvp 4 (by kernel_rfl)))
    refine ls_fr hF ?_
    refine ls_cutv (A := A0) (c := c0) (m := l0.length) (z := 2) (e := 24) (a := (a2).toNat) (b := l0.length) rfl rfl (by kernel_rfl) rfl (by kernel_rfl) (by kernel_rfl) (by kernel_rfl) (.inr ⟨.i64, by rw [Int.toNat_of_nonneg (by first | assumption | omega)]; kernel_rfl⟩) (.inl ⟨rfl, rfl⟩) hz28 hz29 C0 he27 ?_
    exact ls_finp (.slice xA21 xl25.length xc22) (congrArg (fun z => upd z 20 _) hF.symm) rfl
  intro es vs f' S' hve hvp hf hx hK hE
  obtain ⟨xA17, xc18, hv2, rfl⟩ := hE
  refine ls_fr (F := upd (upd f' 17 (.slice xA17 ((([] : List (Int × Int)) ++ xl8) ++ l3).length xc18)) 20 (.slice xA21 xl25.length xc22)) (fr_next (fr_next (rfl) (((hf 2 17 (by kernel_rfl) rfl).trans (show vs 2 = es 2 from hvp 2 (by kernel_rfl))).trans hv2)) ((hf 5 20 (by kernel_rfl) rfl).trans (show vs 5 = .slice xA21 xl25.length xc22 from hvp 5 (by kernel_rfl)))) ?_
  refine ls_sub (sput s0 0 (some (Ck.sl T24 xA17 xc18 ((([] : List (Int × Int)) ++ xl8) ++ l3)))) (sub_put (by exact rfl) (sub_nil _)) ?_
  obtain ⟨q30, H⟩ := ite_need H
  refine ls_app T24 (A := xA17) (c := xc18) (B := xA21) (cb := xc22) (z := (.agg ⟨([Value.int .i64 (0 : Int)] ++ [Value.int .i64 (0 : Int)])⟩)) (l := ((([] : List (Int × Int)) ++ xl8) ++ l3)) (m := xl25) (bytes := 16) 0 rfl rfl (by kernel_rfl) rfl (by kernel_rfl) (by exact rfl) (by kernel_rfl) (fun w hs => (hs.old xR23)) (by kernel_rfl) (by kernel_rfl) rfl (by decide) q30 ?_
  intro xA31 xc32
  refine lv (.slice xA31 (((([] : List (Int × Int)) ++ xl8) ++ l3) ++ xl25).length xc32) ?_
  refine ls_end ?_
  refine qn_then ?_
  refine cs_ret' ?_
  obtain rfl := Option.some.inj H
  refine qr_res (rs := [_]) rfl (fun w' hs => ⟨[.slice xA31 (((([] : List (Int × Int)) ++ xl8) ++ l3) ++ xl25).length xc32], (res_tmp (by kernel_rfl) (.nil)), (xA31, xc32), rfl, hs.pick (ts := [0]) (cs := [Ck.sl T24 xA31 xc32 (((([] : List (Int × Int)) ++ xl8) ++ l3) ++ xl25)]) ⟨by exact rfl, trivial⟩ (by decide)⟩)

/-! ### shadowbox/extent.Add: function 13 -/
def extent_Add.tab4 : List (List Nat) := [[], [], [1], [0, 1, 2], [0, 1, 2, 3], [0, 1, 2, 3, 4], [0, 1, 2, 3, 4], [0, 1, 2, 3, 4, 5, 6], [0, 1, 2, 3, 4, 5, 6, 7], [0, 1, 2, 3, 4, 5, 6, 7, 8], [0, 1, 2, 3, 4], [0, 1, 2, 3, 4, 10], [0, 1, 2, 3, 4, 5, 6, 7, 8, 9, 10, 11], [0, 1, 2, 3, 4, 5, 6, 7, 8, 9, 10, 11, 12]]
def extent_Add.tab13 : List (List Nat) := [[], [0], [], [], [2, 3], [2, 3, 4], [2, 3, 4, 5], [0, 1, 2, 3, 4, 5, 6], [], [8], [], [], [10, 11], [10, 11, 12], [10, 11, 12, 13], [8, 9, 10, 11, 12, 13, 14], [0, 1, 2, 3, 4, 5, 6, 7, 8, 9, 10, 11, 12, 13, 14, 15], [0, 1, 2, 3, 4, 5, 6, 7, 8, 9, 10, 11, 12, 13, 14, 15, 16]]
def extent_Add.lo2 (l0 : List (Int × Int)) (t2 : Int) : Nat → Int → ((Int × Int)) → Option ((List (Int × Int)))
  | 0, _, _ => none
  | k2 + 1, x6_2, m0_2 => (if x6_2 < (l0.length : Int) then (if 0 ≤ x6_2 then lt (((l0).getD (x6_2).toNat ((0 : Int), (0 : Int))).1) fun y11 => (if y11 ≤ m0_2.2 then lt (((l0).getD (x6_2).toNat ((0 : Int), (0 : Int))).1) fun y18 => lt (((l0).getD (x6_2).toNat ((0 : Int), (0 : Int))).2) fun y22 => (extent_Add.lo2 l0 t2 k2) (IntKind.wrap .i64 (x6_2 + (1 : Int))) ((if y18 < m0_2.1 then y18 else m0_2.1), (if m0_2.2 < y22 then y22 else m0_2.2)) else (extent_replace_44.f k2 l0 t2 x6_2 ([m0_2])).bind fun t25 => some t25) else none) else (extent_replace_44.f k2 l0 t2 x6_2 ([m0_2])).bind fun t29 => some t29)
def extent_Add.jo1 (k : Nat) (l0 : List (Int × Int)) (a1 : (Int × Int)) : Option ((List (Int × Int))) := (extent_first.f k l0 a1.1).bind fun t2 => extent_Add.lo2 l0 t2 k t2 a1
def extent_Add.f (k : Nat) (l0 : List (Int × Int)) (a1 : (Int × Int)) : Option ((List (Int × Int))) :=
  (extent_Valid.f k l0).bind fun t32 => (if t32 = true then (extent_Span_right.f k a1).bind fun t36 => (if t36 = true then (extent_Add.jo1 k l0 a1) else (slices_Clone_43.f k l0).bind fun t40 => some t40) else (slices_Clone_43.f k l0).bind fun t43 => some t43)
set_option maxRecDepth 100000 in
set_option maxHeartbeats 4000000 in
theorem extent_Add.calls (k : Nat) (A0 : Option Addr) (c0 : Nat) (l0 : List (Int × Int)) (a1 : (Int × Int)) (r : (List (Int × Int))) (b : Bs) (hs0 : St b (stl []) b.w) (R0 : Ro b A0 (em T24 l0)) (C0 : l0.length ≤ c0) (H : extent_Add.f k l0 a1 = some r) :
    Calls Try.prog 13 #[.slice A0 l0.length c0, .agg ⟨([Value.int .i64 a1.1] ++ [Value.int .i64 a1.2])⟩] b.w fun e w' => ∃ x : (Option Addr × Nat), e = .returned (.slice x.1 r.length x.2) ∧ St b (stl [Ck.sl T24 x.1 x.2 r]) w' := by
  unfold extent_Add.f at H
  refine enterb (n := 61) Try.func13 rfl (by kernel_rfl) (by kernel_rfl) hs0 ?_
  refine cs_sub (s0) (sub_nil _) ?_
  refine cs_seq ?_
  refine cs_region (l := [_, _]) ?_
  refine ls_new rfl rfl (by kernel_rfl) 0 (fun g => .pointer (some ⟨g, 0, none⟩)) (.cells ⟨([Value.int .i64 a1.1] ++ [Value.int .i64 a1.2])⟩ 24) (fun w => by kernel_rfl) ?_
  intro g1
  refine lv (.slice none 0 0) ?_
  refine ls_end ?_
  refine qn_then ?_
  refine cs_cut (fun f S => ∃ (fR : Fr), f = upd (upd fR 0 (.slice A0 l0.length c0)) 3 (.pointer (some ⟨g1, 0, none⟩)) ∧ S = sput s0 0 (some (Ck.var 24 g1 (([Value.int .i64 a1.1] ++ [Value.int .i64 a1.2])))) ∧ extent_Add.jo1 k l0 a1 = some r) ?_ ?_
  · skip
    refine cs_seq ?_
    refine cs_region (l := [_, _, _, _, _, _, _, _]) ?_
    refine lv (.slice A0 l0.length c0) ?_
    obtain ⟨t32, hc33, H⟩ := bind_some H
    refine ls_callb (fid := 10) (vals := #[.slice A0 l0.length c0]) (X := Unit) (fun x => .bool t32) (fun x => stl []) [] [] [] [] 1 rfl rfl (by kernel_rfl) (fun w => by kernel_rfl) trivial trivial (by decide) (fun w hs hb => extent_Valid.calls k A0 c0 l0 t32 (lent b w [] []) hb (hs.ro R0 _ _) C0 hc33) ?_
    intro x34
    refine lv (.bool (!t32)) ?_
    refine lv (.bool (!t32)) ?_
    by_cases q35 : t32 = true
    · replace H := ite_t q35 H
      refine ls_know (c := false) (congrArg Bool.not (q35)) 10 (by kernel_rfl) ?_
      refine ls_on (j := 3) (t := 10) (b := false) rfl rfl (by kernel_rfl) (by kernel_rfl) ?_
      refine ls_loadagg (a := ⟨g1, 0, none⟩) (sub := ([Value.int .i64 a1.1] ++ [Value.int .i64 a1.2])) rfl rfl (by kernel_rfl) rfl (by kernel_rfl) (by kernel_rfl) (by kernel_rfl) (len_app (len1 _) (len1 _)) (fun w hs => (hs.vars (k := 0) (by exact rfl) (Sub4.all _))) ?_
      refine ls_on (j := 3) (t := 10) (b := false) rfl rfl (by kernel_rfl) (by kernel_rfl) ?_
      obtain ⟨t36, hc37, H⟩ := bind_some H
      refine ls_callb (fid := 41) (vals := #[.agg ⟨([Value.int .i64 a1.1] ++ [Value.int .i64 a1.2])⟩]) (X := Unit) (fun x => .bool t36) (fun x => stl []) [] [] [] [] 1 rfl rfl (by kernel_rfl) (fun w => by kernel_rfl) trivial trivial (by decide) (fun w hs hb => extent_Span_right.calls k a1 t36 (lent b w [] []) hb  hc37) ?_
      intro x38
      refine ls_on (j := 3) (t := 10) (b := false) rfl rfl (by kernel_rfl) (by kernel_rfl) ?_
      refine lv (.bool (!t36)) ?_
      refine lv (.bool (!t36)) ?_
      refine ls_end ?_
      refine qn_then ?_
      by_cases q39 : t36 = true
      · replace H := ite_t q39 H
        refine cs_know (c := false) (congrArg Bool.not (q39)) 14 (by kernel_rfl) ?_
        refine cs_false (by kernel_rfl) ?_
        refine cs_skip' ?_
        refine qn_meet (sput s0 0 (some (Ck.var 24 g1 (([Value.int .i64 a1.1] ++ [Value.int .i64 a1.2]))))) ⟨_, fr_next (fr_next (rfl) (by kernel_rfl)) (by kernel_rfl), rfl, H⟩ (sub_put (by exact rfl) (sub_nil _))
      replace H := ite_f q39 H
      refine cs_know (c := true) (congrArg Bool.not (Bool.eq_false_iff.mpr q39)) 14 (by kernel_rfl) ?_
      refine cs_true (by kernel_rfl) ?_
      refine cs_seq ?_
      refine cs_region (l := [_, _, _]) ?_
      refine lv (.slice A0 l0.length c0) ?_
      obtain ⟨t40, hc41, H⟩ := bind_some H
      refine ls_callb (fid := 43) (vals := #[.slice A0 l0.length c0]) (X := (Option Addr × Nat)) (fun x => .slice x.1 t40.length x.2) (fun x => stl [Ck.sl T24 x.1 x.2 t40]) [] [] [] [] 1 rfl rfl (by kernel_rfl) (fun w => by kernel_rfl) trivial trivial (by decide) (fun w hs hb => slices_Clone_43.calls k A0 c0 l0 t40 (lent b w [] []) hb (hs.ro R0 _ _) C0 hc41) ?_
      intro x42
      refine lv (.slice x42.1 t40.length x42.2) ?_
      refine ls_end ?_
      refine qn_then ?_
      refine cs_ret' ?_
      refine qr_then ?_
      obtain rfl := Option.some.inj H
      refine qr_res (rs := [_]) rfl (fun w' hs => ⟨[.slice x42.1 t40.length x42.2], (res_tmp (by kernel_rfl) (.nil)), (x42.1, x42.2), rfl, hs.pick (ts := [1]) (cs := [Ck.sl T24 x42.1 x42.2 t40]) ⟨by exact rfl, trivial⟩ (by decide)⟩)
    replace H := ite_f q35 H
    refine ls_know (c := true) (congrArg Bool.not (Bool.eq_false_iff.mpr q35)) 10 (by kernel_rfl) ?_
    refine lofx 3 10 false true ?_
    refine lofx 3 10 false true ?_
    refine lofx 3 10 false true ?_
    refine lv (.bool true) ?_
    refine ls_end ?_
    refine qn_then ?_
    refine cs_true (by kernel_rfl) ?_
    refine cs_seq ?_
    refine cs_region (l := [_, _, _]) ?_
    refine lv (.slice A0 l0.length c0) ?_
    obtain ⟨t43, hc44, H⟩ := bind_some H
    refine ls_callb (fid := 43) (vals := #[.slice A0 l0.length c0]) (X := (Option Addr × Nat)) (fun x => .slice x.1 t43.length x.2) (fun x => stl [Ck.sl T24 x.1 x.2 t43]) [] [] [] [] 1 rfl rfl (by kernel_rfl) (fun w => by kernel_rfl) trivial trivial (by decide) (fun w hs hb => slices_Clone_43.calls k A0 c0 l0 t43 (lent b w [] []) hb (hs.ro R0 _ _) C0 hc44) ?_
    intro x45
    refine lv (.slice x45.1 t43.length x45.2) ?_
    refine ls_end ?_
    refine qn_then ?_
    refine cs_ret' ?_
    refine qr_then ?_
    obtain rfl := Option.some.inj H
    refine qr_res (rs := [_]) rfl (fun w' hs => ⟨[.slice x45.1 t43.length x45.2], (res_tmp (by kernel_rfl) (.nil)), (x45.1, x45.2), rfl, hs.pick (ts := [1]) (cs := [Ck.sl T24 x45.1 x45.2 t43]) ⟨by exact rfl, trivial⟩ (by decide)⟩)
  rintro f S ⟨fr1, rfl, rfl, H⟩
  replace H : ((extent_first.f k l0 a1.1).bind fun t2 => extent_Add.lo2 l0 t2 k t2 a1) = some r := H
  refine cs_seq ?_
  refine cs_region (l := [_, _, _, _, _]) ?_
  refine lv (.slice A0 l0.length c0) ?_
  refine lv (.pointer (some ⟨g1, (0 + 0), none⟩)) ?_
  refine ls_load (a0 := ⟨g1, (0 + 0), none⟩) (v := .int .i64 a1.1) (de := (TypeDesc.int .i64)) rfl rfl (by kernel_rfl) rfl (by kernel_rfl) (by kernel_rfl) (by kernel_rfl) (fun w hs => (hs.var (k := 0) (by exact rfl) (Sub4.trans (Sub4.all _) (Sub4.head _ _)))) ?_
  obtain ⟨t2, hc3, H⟩ := bind_some H
  refine ls_callb (fid := 42) (vals := #[.slice A0 l0.length c0, .int .i64 a1.1]) (X := Unit) (fun x => .int .i64 t2) (fun x => stl []) [] [] [] [] 1 rfl rfl (by kernel_rfl) (fun w => by kernel_rfl) trivial trivial (by decide) (fun w hs hb => extent_first.calls k A0 c0 l0 a1.1 t2 (lent b w [] []) hb (hs.ro R0 _ _) C0 hc3) ?_
  intro x4
  refine lv (.int .i64 t2) ?_
  refine ls_end ?_
  refine qn_then ?_
  refine cs_seq ?_
  refine cs_region (l := [_, _]) ?_
  refine lv (.int .i64 t2) ?_
  refine lv (.int .i64 t2) ?_
  refine ls_end ?_
  refine qn_then ?_
  refine cs_seq ?_
  refine cs_block ?_
  refine cs_sub (sput s0 0 (some (Ck.var 24 g1 (([Value.int .i64 a1.1] ++ [Value.int .i64 a1.2]))))) (sub_put (by exact rfl) (sub_nil _)) ?_
  refine cs_loop (fun kk f S => ∃ (fR : Fr) (x6_2 : Int) (m0_2 : (Int × Int)), f = upd (upd (upd (upd fR 0 (.slice A0 l0.length c0)) 3 (.pointer (some ⟨g1, 0, none⟩))) 5 (.int .i64 t2)) 6 (.int .i64 x6_2) ∧ S = sput s0 0 (some (Ck.var 24 g1 (([Value.int .i64 m0_2.1] ++ [Value.int .i64 m0_2.2])))) ∧ extent_Add.lo2 l0 t2 kk x6_2 m0_2 = some r) k ?_ ?_ ?_
  · exact ⟨_, t2, a1, fr_next (fr_next (fr_next (fr_next (rfl) (by kernel_rfl)) (by kernel_rfl)) (by kernel_rfl)) (by kernel_rfl), rfl, H⟩
  · rintro f S ⟨fr2, x6_2, m0_2, rfl, rfl, H⟩; cases H
  rintro k2 f S ⟨fr2, x6_2, m0_2, rfl, rfl, H⟩
  replace H : ((if x6_2 < (l0.length : Int) then (if 0 ≤ x6_2 then lt (((l0).getD (x6_2).toNat ((0 : Int), (0 : Int))).1) fun y11 => (if y11 ≤ m0_2.2 then lt (((l0).getD (x6_2).toNat ((0 : Int), (0 : Int))).1) fun y18 => lt (((l0).getD (x6_2).toNat ((0 : Int), (0 : Int))).2) fun y22 => (extent_Add.lo2 l0 t2 k2) (IntKind.wrap .i64 (x6_2 + (1 : Int))) ((if y18 < m0_2.1 then y18 else m0_2.1), (if m0_2.2 < y22 then y22 else m0_2.2)) else (extent_replace_44.f k2 l0 t2 x6_2 ([m0_2])).bind fun t25 => some t25) else none) else (extent_replace_44.f k2 l0 t2 x6_2 ([m0_2])).bind fun t29 => some t29)) = some r := H
  refine cs_seq ?_
  refine cs_seq ?_
  obtain ⟨s6_0, hs6_0⟩ := exv (.int .i64 x6_2)
  refine have_opa extent_Add.tab4 1 0 (fun sp => sp 0 = s6_0) (fun sp on hA hon => ?_) (fun ops6_0 => ?_)
  · refine ⟨fun o ho vs Rs f' S' w hp hf hx hS hR hs => ?_⟩
    obtain rfl := Option.some.inj ho
    exact opv (.int .i64 x6_2) hA hs6_0 hon (fr_next (rfl) ((hx 6 (by kernel_rfl)).trans (by kernel_rfl : (_ : Value) = .int .i64 x6_2)))
  obtain ⟨s6_1, hs6_1⟩ := exv (.slice A0 l0.length c0)
  refine have_opa extent_Add.tab4 1 1 (fun sp => sp 1 = s6_1) (fun sp on hA hon => ?_) (fun ops6_1 => ?_)
  · refine ⟨fun o ho vs Rs f' S' w hp hf hx hS hR hs => ?_⟩
    obtain rfl := Option.some.inj ho
    exact opv (.slice A0 l0.length c0) hA hs6_1 hon (fr_next (rfl) ((hx 0 (by kernel_rfl)).trans (by kernel_rfl : (_ : Value) = .slice A0 l0.length c0)))
  obtain ⟨s6_2, hs6_2⟩ := exv (.int .i64 (l0.length : Int))
  refine have_opa extent_Add.tab4 1 2 (fun sp => sp 2 = s6_2 ∧ sp 1 = s6_1) (fun sp on hA hon => ?_) (fun ops6_2 => ?_)
  · refine ⟨fun o ho vs Rs f' S' w hp hf hx hS hR hs => ?_⟩
    obtain rfl := Option.some.inj ho
    obtain ⟨hv1, hR1⟩ := (spe hA.2 hs6_1 (hp 1 (by kernel_rfl)))
    exact opv (.int .i64 (l0.length : Int)) hA.1 hs6_2 hon (fr_next (rfl) ((hf 1 23 (by kernel_rfl) rfl).trans hv1))
  obtain ⟨s6_3, hs6_3⟩ := exv (.bool (decide (x6_2 < (l0.length : Int))))
  refine have_opa extent_Add.tab4 1 3 (fun sp => sp 3 = s6_3 ∧ sp 0 = s6_0 ∧ sp 2 = s6_2) (fun sp on hA hon => ?_) (fun ops6_3 => ?_)
  · refine ⟨fun o ho vs Rs f' S' w hp hf hx hS hR hs => ?_⟩
    obtain rfl := Option.some.inj ho
    obtain ⟨hv0, hR0⟩ := (spe hA.2.1 hs6_0 (hp 0 (by kernel_rfl)))
    obtain ⟨hv2, hR2⟩ := (spe hA.2.2 hs6_2 (hp 2 (by kernel_rfl)))
    exact opv (.bool (decide (x6_2 < (l0.length : Int)))) hA.1 hs6_3 hon (fr_next (fr_next (rfl) ((hf 0 22 (by kernel_rfl) rfl).trans hv0)) ((hf 2 24 (by kernel_rfl) rfl).trans hv2))
  obtain ⟨s6_4, hs6_4⟩ := exv (.bool (decide (x6_2 < (l0.length : Int))))
  refine have_opa extent_Add.tab4 1 4 (fun sp => sp 4 = s6_4 ∧ sp 3 = s6_3) (fun sp on hA hon => ?_) (fun ops6_4 => ?_)
  · refine ⟨fun o ho vs Rs f' S' w hp hf hx hS hR hs => ?_⟩
    obtain rfl := Option.some.inj ho
    obtain ⟨hv3, hR3⟩ := (spe hA.2 hs6_3 (hp 3 (by kernel_rfl)))
    exact opv (.bool (decide (x6_2 < (l0.length : Int)))) hA.1 hs6_4 hon (fr_next (rfl) ((hf 3 25 (by kernel_rfl) rfl).trans hv3))
  by_cases q7 : x6_2 < (l0.length : Int)
  · replace H := ite_t q7 H
    obtain ⟨s6_5, hs6_5⟩ := exv (.slice A0 l0.length c0)
    refine have_opa extent_Add.tab4 1 5 (fun sp => sp 5 = s6_5 ∧ sp 4 = s6_4) (fun sp on hA hon => ?_) (fun ops6_5 => ?_)
    · refine ⟨fun o ho vs Rs f' S' w hp hf hx hS hR hs => ?_⟩
      obtain rfl := Option.some.inj ho
      obtain ⟨hv4, hR4⟩ := (spe hA.2 hs6_4 (hp 4 (by kernel_rfl)))
      rw [hA.1, hs6_5]
      refine And.intro (fun a ha => (want_is (j := 4) (t := 26) (r := true) rfl rfl (by kernel_rfl) (((hf 4 26 (by kernel_rfl) rfl).trans hv4).trans (congrArg Value.bool (show (decide (x6_2 < (l0.length : Int))) = true from dec_t q7))) rfl a ha).trans hon.symm) (And.intro (fun _ => ?_) (fun h => by rw [hon] at h; cases h))
      have hF := fr_next (fr_next (rfl) ((hx 0 (by kernel_rfl)).trans (by kernel_rfl : (_ : Value) = .slice A0 l0.length c0))) (((hf 4 26 (by kernel_rfl) rfl).trans hv4).trans (congrArg Value.bool (show (decide (x6_2 < (l0.length : Int))) = true from dec_t q7)))
      refine ls_fr hF ?_
      refine lv (.slice A0 l0.length c0) ?_
      exact ls_fin s0 _ (congrArg (fun z => upd z 27 _) hF.symm) ⟨rfl, rfl⟩ (sub_nil _)
    obtain ⟨s6_6, hs6_6⟩ := exv (.int .i64 x6_2)
    refine have_opa extent_Add.tab4 1 6 (fun sp => sp 6 = s6_6 ∧ sp 4 = s6_4) (fun sp on hA hon => ?_) (fun ops6_6 => ?_)
    · refine ⟨fun o ho vs Rs f' S' w hp hf hx hS hR hs => ?_⟩
      obtain rfl := Option.some.inj ho
      obtain ⟨hv4, hR4⟩ := (spe hA.2 hs6_4 (hp 4 (by kernel_rfl)))
      rw [hA.1, hs6_6]
      refine And.intro (fun a ha => (want_is (j := 4) (t := 26) (r := true) rfl rfl (by kernel_rfl) (((hf 4 26 (by kernel_rfl) rfl).trans hv4).trans (congrArg Value.bool (show (decide (x6_2 < (l0.length : Int))) = true from dec_t q7))) rfl a ha).trans hon.symm) (And.intro (fun _ => ?_) (fun h => by rw [hon] at h; cases h))
      have hF := fr_next (fr_next (rfl) ((hx 6 (by kernel_rfl)).trans (by kernel_rfl : (_ : Value) = .int .i64 x6_2))) (((hf 4 26 (by kernel_rfl) rfl).trans hv4).trans (congrArg Value.bool (show (decide (x6_2 < (l0.length : Int))) = true from dec_t q7)))
      refine ls_fr hF ?_
      refine lv (.int .i64 x6_2) ?_
      exact ls_fin s0 _ (congrArg (fun z => upd z 28 _) hF.symm) ⟨rfl, rfl⟩ (sub_nil _)
    obtain ⟨q8, H⟩ := ite_need H
    obtain ⟨ad9, hA10⟩ := ido_at (T := T24) (l := l0) (i := x6_2) R0 q8 q7
    obtain ⟨s6_7, hs6_7⟩ := exv (.pointer (some (ad9.add ((x6_2).toNat * 2))))
    refine have_opa extent_Add.tab4 1 7 (fun sp => sp 7 = s6_7 ∧ sp 4 = s6_4 ∧ sp 5 = s6_5 ∧ sp 6 = s6_6) (fun sp on hA hon => ?_) (fun ops6_7 => ?_)
    · refine ⟨fun o ho vs Rs f' S' w hp hf hx hS hR hs => ?_⟩
      obtain rfl := Option.some.inj ho
      obtain ⟨hv4, hR4⟩ := (spe hA.2.1 hs6_4 (hp 4 (by kernel_rfl)))
      obtain ⟨hv5, hR5⟩ := (spe hA.2.2.1 hs6_5 (hp 5 (by kernel_rfl)))
      obtain ⟨hv6, hR6⟩ := (spe hA.2.2.2 hs6_6 (hp 6 (by kernel_rfl)))
      rw [hA.1, hs6_7]
      refine And.intro (fun a ha => (want_is (j := 4) (t := 26) (r := true) rfl rfl (by kernel_rfl) (((hf 4 26 (by kernel_rfl) rfl).trans hv4).trans (congrArg Value.bool (show (decide (x6_2 < (l0.length : Int))) = true from dec_t q7))) rfl a ha).trans hon.symm) (And.intro (fun _ => ?_) (fun h => by rw [hon] at h; cases h))
      have hF := fr_next (fr_next (fr_next (rfl) (((hf 4 26 (by kernel_rfl) rfl).trans hv4).trans (congrArg Value.bool (show (decide (x6_2 < (l0.length : Int))) = true from dec_t q7)))) ((hf 5 27 (by kernel_rfl) rfl).trans hv5)) ((hf 6 28 (by kernel_rfl) rfl).trans hv6)
      refine ls_fr hF ?_
      refine ls_idxv T24 (A := A0) (c := c0) (l := l0) (k := .i64) (i := x6_2) (z := 2) (ad := ad9) rfl rfl (by kernel_rfl) hA10 rfl (by kernel_rfl) (by kernel_rfl) (by kernel_rfl) (by kernel_rfl) q8 q7 ?_
      exact ls_fin s0 _ (congrArg (fun z => upd z 29 _) hF.symm) ⟨rfl, rfl⟩ (sub_nil _)
    obtain ⟨s6_8, hs6_8⟩ := exv (.pointer (some (ad9.add (((x6_2).toNat * 2) + 0))))
    refine have_opa extent_Add.tab4 1 8 (fun sp => sp 8 = s6_8 ∧ sp 4 = s6_4 ∧ sp 7 = s6_7) (fun sp on hA hon => ?_) (fun ops6_8 => ?_)
    · refine ⟨fun o ho vs Rs f' S' w hp hf hx hS hR hs => ?_⟩
      obtain rfl := Option.some.inj ho
      obtain ⟨hv4, hR4⟩ := (spe hA.2.1 hs6_4 (hp 4 (by kernel_rfl)))
      obtain ⟨hv7, hR7⟩ := (spe hA.2.2 hs6_7 (hp 7 (by kernel_rfl)))
      rw [hA.1, hs6_8]
      refine And.intro (fun a ha => (want_is (j := 4) (t := 26) (r := true) rfl rfl (by kernel_rfl) (((hf 4 26 (by kernel_rfl) rfl).trans hv4).trans (congrArg Value.bool (show (decide (x6_2 < (l0.length : Int))) = true from dec_t q7))) rfl a ha).trans hon.symm) (And.intro (fun _ => ?_) (fun h => by rw [hon] at h; cases h))
      have hF := fr_next (fr_next (rfl) (((hf 4 26 (by kernel_rfl) rfl).trans hv4).trans (congrArg Value.bool (show (decide (x6_2 < (l0.length : Int))) = true from dec_t q7)))) ((hf 7 29 (by kernel_rfl) rfl).trans hv7)
      refine ls_fr hF ?_
      refine ls_fieldm (ad := ad9) (off := ((x6_2).toNat * 2)) rfl rfl (by kernel_rfl) 0 (fun w => by kernel_rfl) ?_
      exact ls_fin s0 _ (congrArg (fun z => upd z 30 _) hF.symm) ⟨rfl, rfl⟩ (sub_nil _)
    obtain ⟨y11, hy12, H⟩ := lt_some H
    obtain ⟨s6_9, hs6_9⟩ := exv (.int .i64 y11)
    refine have_opa extent_Add.tab4 1 9 (fun sp => sp 9 = s6_9 ∧ sp 4 = s6_4 ∧ sp 8 = s6_8) (fun sp on hA hon => ?_) (fun ops6_9 => ?_)
    · refine ⟨fun o ho vs Rs f' S' w hp hf hx hS hR hs => ?_⟩
      obtain rfl := Option.some.inj ho
      obtain ⟨hv4, hR4⟩ := (spe hA.2.1 hs6_4 (hp 4 (by kernel_rfl)))
      obtain ⟨hv8, hR8⟩ := (spe hA.2.2 hs6_8 (hp 8 (by kernel_rfl)))
      rw [hA.1, hs6_9]
      refine And.intro (fun a ha => (want_is (j := 4) (t := 26) (r := true) rfl rfl (by kernel_rfl) (((hf 4 26 (by kernel_rfl) rfl).trans hv4).trans (congrArg Value.bool (show (decide (x6_2 < (l0.length : Int))) = true from dec_t q7))) rfl a ha).trans hon.symm) (And.intro (fun _ => ?_) (fun h => by rw [hon] at h; cases h))
      have hF := fr_next (fr_next (rfl) (((hf 4 26 (by kernel_rfl) rfl).trans hv4).trans (congrArg Value.bool (show (decide (x6_2 < (l0.length : Int))) = true from dec_t q7)))) ((hf 8 30 (by kernel_rfl) rfl).trans hv8)
      refine ls_fr hF ?_
      refine ls_load (a0 := (ad9.add (((x6_2).toNat * 2) + 0))) (v := .int .i64 (((l0).getD (x6_2).toNat ((0 : Int), (0 : Int))).1)) (de := (TypeDesc.int .i64)) rfl rfl (by kernel_rfl) rfl (by kernel_rfl) (by kernel_rfl) (by kernel_rfl) (fun w1 hs1 => (Rd.step (hs.old R0) hs1.below.bw).at hA10 (Sub4.trans (em_sub T24 l0 (i := (x6_2).toNat) (by have h0 : (0 : Int) ≤ x6_2 := q8; have h1 : x6_2 < (l0.length : Int) := q7; omega)) (Sub4.head _ _))) ?_
      refine ls_ren 31 (v := .int .i64 (((l0).getD (x6_2).toNat ((0 : Int), (0 : Int))).1)) (v' := .int .i64 y11) (by kernel_rfl) (by rw [hy12]) ?_
      exact ls_fin s0 _ ((upd_upd _ _ _ _).trans (congrArg (fun z => upd z 31 _) hF.symm)) ⟨rfl, rfl⟩ (sub_nil _)
    obtain ⟨s6_10, hs6_10⟩ := exv (.pointer (some ⟨g1, (0 + 1), none⟩))
    refine have_opa extent_Add.tab4 1 10 (fun sp => sp 10 = s6_10 ∧ sp 4 = s6_4) (fun sp on hA hon => ?_) (fun ops6_10 => ?_)
    · refine ⟨fun o ho vs Rs f' S' w hp hf hx hS hR hs => ?_⟩
      obtain rfl := Option.some.inj ho
      obtain ⟨hv4, hR4⟩ := (spe hA.2 hs6_4 (hp 4 (by kernel_rfl)))
      rw [hA.1, hs6_10]
      refine And.intro (fun a ha => (want_is (j := 4) (t := 26) (r := true) rfl rfl (by kernel_rfl) (((hf 4 26 (by kernel_rfl) rfl).trans hv4).trans (congrArg Value.bool (show (decide (x6_2 < (l0.length : Int))) = true from dec_t q7))) rfl a ha).trans hon.symm) (And.intro (fun _ => ?_) (fun h => by rw [hon] at h; cases h))
      have hF := fr_next (fr_next (rfl) ((hx 3 (by kernel_rfl)).trans (by kernel_rfl : (_ : Value) = .pointer (some ⟨g1, 0, none⟩)))) (((hf 4 26 (by kernel_rfl) rfl).trans hv4).trans (congrArg Value.bool (show (decide (x6_2 < (l0.length : Int))) = true from dec_t q7)))
      refine ls_fr hF ?_
      refine lv (.pointer (some ⟨g1, (0 + 1), none⟩)) ?_
      exact ls_fin s0 _ (congrArg (fun z => upd z 32 _) hF.symm) ⟨rfl, rfl⟩ (sub_nil _)
    obtain ⟨s6_11, hs6_11⟩ := exv (.int .i64 m0_2.2)
    refine have_opa extent_Add.tab4 1 11 (fun sp => sp 11 = s6_11 ∧ sp 4 = s6_4 ∧ sp 10 = s6_10) (fun sp on hA hon => ?_) (fun ops6_11 => ?_)
    · refine ⟨fun o ho vs Rs f' S' w hp hf hx hS hR hs => ?_⟩
      obtain rfl := Option.some.inj ho
      obtain ⟨hv4, hR4⟩ := (spe hA.2.1 hs6_4 (hp 4 (by kernel_rfl)))
      obtain ⟨hv10, hR10⟩ := (spe hA.2.2 hs6_10 (hp 10 (by kernel_rfl)))
      rw [hA.1, hs6_11]
      refine And.intro (fun a ha => (want_is (j := 4) (t := 26) (r := true) rfl rfl (by kernel_rfl) (((hf 4 26 (by kernel_rfl) rfl).trans hv4).trans (congrArg Value.bool (show (decide (x6_2 < (l0.length : Int))) = true from dec_t q7))) rfl a ha).trans hon.symm) (And.intro (fun _ => ?_) (fun h => by rw [hon] at h; cases h))
      have hF := fr_next (fr_next (rfl) (((hf 4 26 (by kernel_rfl) rfl).trans hv4).trans (congrArg Value.bool (show (decide (x6_2 < (l0.length : Int))) = true from dec_t q7)))) ((hf 10 32 (by kernel_rfl) rfl).trans hv10)
      refine ls_fr hF ?_
      refine ls_load (a0 := ⟨g1, (0 + 1), none⟩) (v := .int .i64 m0_2.2) (de := (TypeDesc.int .i64)) rfl rfl (by kernel_rfl) rfl (by kernel_rfl) (by kernel_rfl) (by kernel_rfl) (fun w1 hs1 => cell_step hs1.below.bw (hs.var (k := 0) ((hS 0 (by kernel_rfl)).trans (by exact rfl)) (Sub4.trans (Sub4.all _) (Sub4.skip (n := 1) (len1 _) (Sub4.all _))))) ?_
      exact ls_fin s0 _ (congrArg (fun z => upd z 33 _) hF.symm) ⟨rfl, rfl⟩ (sub_nil _)
    refine cs_draw extent_Add.tab4 12 1 (spl [s6_0, s6_1, s6_2, s6_3, s6_4, s6_5, s6_6, s6_7, s6_8, s6_9, s6_10, s6_11]) (onl [true, true, true, true, true, true, true, true, true, true, true, true]) (by kernel_rfl) (by kernel_rfl) (by kernel_rfl) (by kernel_rfl) (rs := [_, _]) rfl (by kernel_rfl) (by kernel_rfl) (all_snoc (all_snoc (all_snoc (all_snoc (all_snoc (all_snoc (all_snoc (all_snoc (all_snoc (all_snoc (all_snoc (all_snoc (all_nil) (ops6_0 _ _ rfl rfl)) (ops6_1 _ _ rfl rfl)) (ops6_2 _ _ ⟨rfl, rfl⟩ rfl)) (ops6_3 _ _ ⟨rfl, rfl, rfl⟩ rfl)) (ops6_4 _ _ ⟨rfl, rfl⟩ rfl)) (ops6_5 _ _ ⟨rfl, rfl⟩ rfl)) (ops6_6 _ _ ⟨rfl, rfl⟩ rfl)) (ops6_7 _ _ ⟨rfl, rfl, rfl, rfl⟩ rfl)) (ops6_8 _ _ ⟨rfl, rfl, rfl⟩ rfl)) (ops6_9 _ _ ⟨rfl, rfl, rfl⟩ rfl)) (ops6_10 _ _ ⟨rfl, rfl⟩ rfl)) (ops6_11 _ _ ⟨rfl, rfl, rfl⟩ rfl)) ?_
    intro vs Rs f' S' hp hf hx hS hR
    obtain ⟨hv4, hR4⟩ := (spe rfl hs6_4 (hp 4 (by kernel_rfl)))
    obtain ⟨hv9, hR9⟩ := (spe rfl hs6_9 (hp 9 (by kernel_rfl)))
    obtain ⟨hv11, hR11⟩ := (spe rfl hs6_11 (hp 11 (by kernel_rfl)))
    refine ls_fr (F := upd (upd (upd (upd (upd (upd (upd f' 0 (.slice A0 l0.length c0)) 3 (.pointer (some ⟨g1, 0, none⟩))) 5 (.int .i64 t2)) 6 (.int .i64 x6_2)) 26 (.bool (decide (x6_2 < (l0.length : Int))))) 31 (.int .i64 y11)) 33 (.int .i64 m0_2.2)) (fr_next (fr_next (fr_next (fr_next (fr_next (fr_next (fr_next (rfl) ((hx 0 (by kernel_rfl)).trans (by kernel_rfl : (_ : Value) = .slice A0 l0.length c0))) ((hx 3 (by kernel_rfl)).trans (by kernel_rfl : (_ : Value) = .pointer (some ⟨g1, 0, none⟩)))) ((hx 5 (by kernel_rfl)).trans (by kernel_rfl : (_ : Value) = .int .i64 t2))) ((hx 6 (by kernel_rfl)).trans (by kernel_rfl : (_ : Value) = .int .i64 x6_2))) ((hf 4 26 (by kernel_rfl) rfl).trans hv4)) ((hf 9 31 (by kernel_rfl) rfl).trans hv9)) ((hf 11 33 (by kernel_rfl) rfl).trans hv11)) ?_
    refine ls_sub (sput s0 0 (some (Ck.var 24 g1 (([Value.int .i64 m0_2.1] ++ [Value.int .i64 m0_2.2]))))) (sub_put ((hS 0 (by kernel_rfl)).trans (by exact rfl)) (sub_nil _)) ?_
    refine ls_know (c := true) (dec_t q7) 26 (by kernel_rfl) ?_
    refine ls_on (j := 4) (t := 26) (b := true) rfl rfl (by kernel_rfl) (by kernel_rfl) ?_
    refine lv (.bool (decide (y11 ≤ m0_2.2))) ?_
    refine lv (.bool (decide (y11 ≤ m0_2.2))) ?_
    refine ls_end ?_
    refine qn_then ?_
    by_cases q13 : y11 ≤ m0_2.2
    · replace H := ite_t q13 H
      refine cs_know (c := true) (dec_t q13) 35 (by kernel_rfl) ?_
      refine cs_true (by kernel_rfl) ?_
      refine cs_skip' ?_
      refine qn_then ?_
      refine cs_seq ?_
      refine cs_block ?_
      obtain ⟨s15_0, hs15_0⟩ := exv (.pointer (some ⟨g1, (0 + 0), none⟩))
      refine have_opa extent_Add.tab13 97 0 (fun sp => sp 0 = s15_0) (fun sp on hA hon => ?_) (fun ops15_0 => ?_)
      · refine ⟨fun o ho vs Rs f' S' w hp hf hx hS hR hs => ?_⟩
        obtain rfl := Option.some.inj ho
        exact opv (.pointer (some ⟨g1, (0 + 0), none⟩)) hA hs15_0 hon (fr_next (rfl) ((hx 3 (by kernel_rfl)).trans (by kernel_rfl : (_ : Value) = .pointer (some ⟨g1, 0, none⟩))))
      obtain ⟨s15_1, hs15_1⟩ := exv (.int .i64 m0_2.1)
      refine have_opa extent_Add.tab13 97 1 (fun sp => sp 1 = s15_1 ∧ sp 0 = s15_0) (fun sp on hA hon => ?_) (fun ops15_1 => ?_)
      · refine ⟨fun o ho vs Rs f' S' w hp hf hx hS hR hs => ?_⟩
        obtain rfl := Option.some.inj ho
        obtain ⟨hv0, hR0⟩ := (spe hA.2 hs15_0 (hp 0 (by kernel_rfl)))
        rw [hA.1, hs15_1]
        refine wn hon ?_
        have hF := fr_next (rfl) ((hf 0 38 (by kernel_rfl) rfl).trans hv0)
        refine ls_fr hF ?_
        refine ls_load (a0 := ⟨g1, (0 + 0), none⟩) (v := .int .i64 m0_2.1) (de := (TypeDesc.int .i64)) rfl rfl (by kernel_rfl) rfl (by kernel_rfl) (by kernel_rfl) (by kernel_rfl) (fun w1 hs1 => cell_step hs1.below.bw (hs.var (k := 0) ((hS 0 (by kernel_rfl)).trans (by exact rfl)) (Sub4.trans (Sub4.all _) (Sub4.head _ _)))) ?_
        exact ls_fin s0 _ (congrArg (fun z => upd z 39 _) hF.symm) ⟨rfl, rfl⟩ (sub_nil _)
      obtain ⟨s15_2, hs15_2⟩ := exv (.slice A0 l0.length c0)
      refine have_opa extent_Add.tab13 97 2 (fun sp => sp 2 = s15_2) (fun sp on hA hon => ?_) (fun ops15_2 => ?_)
      · refine ⟨fun o ho vs Rs f' S' w hp hf hx hS hR hs => ?_⟩
        obtain rfl := Option.some.inj ho
        exact opv (.slice A0 l0.length c0) hA hs15_2 hon (fr_next (rfl) ((hx 0 (by kernel_rfl)).trans (by kernel_rfl : (_ : Value) = .slice A0 l0.length c0)))
      obtain ⟨s15_3, hs15_3⟩ := exv (.int .i64 x6_2)
      refine have_opa extent_Add.tab13 97 3 (fun sp => sp 3 = s15_3) (fun sp on hA hon => ?_) (fun ops15_3 => ?_)
      · refine ⟨fun o ho vs Rs f' S' w hp hf hx hS hR hs => ?_⟩
        obtain rfl := Option.some.inj ho
        exact opv (.int .i64 x6_2) hA hs15_3 hon (fr_next (rfl) ((hx 6 (by kernel_rfl)).trans (by kernel_rfl : (_ : Value) = .int .i64 x6_2)))
      obtain ⟨ad16, hA17⟩ := ido_at (T := T24) (l := l0) (i := x6_2) R0 q8 q7
      obtain ⟨s15_4, hs15_4⟩ := exv (.pointer (some (ad16.add ((x6_2).toNat * 2))))
      refine have_opa extent_Add.tab13 97 4 (fun sp => sp 4 = s15_4 ∧ sp 2 = s15_2 ∧ sp 3 = s15_3) (fun sp on hA hon => ?_) (fun ops15_4 => ?_)
      · refine ⟨fun o ho vs Rs f' S' w hp hf hx hS hR hs => ?_⟩
        obtain rfl := Option.some.inj ho
        obtain ⟨hv2, hR2⟩ := (spe hA.2.1 hs15_2 (hp 2 (by kernel_rfl)))
        obtain ⟨hv3, hR3⟩ := (spe hA.2.2 hs15_3 (hp 3 (by kernel_rfl)))
        rw [hA.1, hs15_4]
        refine wn hon ?_
        have hF := fr_next (fr_next (rfl) ((hf 2 40 (by kernel_rfl) rfl).trans hv2)) ((hf 3 41 (by kernel_rfl) rfl).trans hv3)
        refine ls_fr hF ?_
        refine ls_idxv T24 (A := A0) (c := c0) (l := l0) (k := .i64) (i := x6_2) (z := 2) (ad := ad16) rfl rfl (by kernel_rfl) hA17 rfl (by kernel_rfl) (by kernel_rfl) (by kernel_rfl) (by kernel_rfl) q8 q7 ?_
        exact ls_fin s0 _ (congrArg (fun z => upd z 42 _) hF.symm) ⟨rfl, rfl⟩ (sub_nil _)
      obtain ⟨s15_5, hs15_5⟩ := exv (.pointer (some (ad16.add (((x6_2).toNat * 2) + 0))))
      refine have_opa extent_Add.tab13 97 5 (fun sp => sp 5 = s15_5 ∧ sp 4 = s15_4) (fun sp on hA hon => ?_) (fun ops15_5 => ?_)
      · refine ⟨fun o ho vs Rs f' S' w hp hf hx hS hR hs => ?_⟩
        obtain rfl := Option.some.inj ho
        obtain ⟨hv4, hR4⟩ := (spe hA.2 hs15_4 (hp 4 (by kernel_rfl)))
        rw [hA.1, hs15_5]
        refine wn hon ?_
        have hF := fr_next (rfl) ((hf 4 42 (by kernel_rfl) rfl).trans hv4)
        refine ls_fr hF ?_
        refine ls_fieldm (ad := ad16) (off := ((x6_2).toNat * 2)) rfl rfl (by kernel_rfl) 0 (fun w => by kernel_rfl) ?_
        exact ls_fin s0 _ (congrArg (fun z => upd z 43 _) hF.symm) ⟨rfl, rfl⟩ (sub_nil _)
      obtain ⟨y18, hy19, H⟩ := lt_some H
      obtain ⟨s15_6, hs15_6⟩ := exv (.int .i64 y18)
      refine have_opa extent_Add.tab13 97 6 (fun sp => sp 6 = s15_6 ∧ sp 5 = s15_5) (fun sp on hA hon => ?_) (fun ops15_6 => ?_)
      · refine ⟨fun o ho vs Rs f' S' w hp hf hx hS hR hs => ?_⟩
        obtain rfl := Option.some.inj ho
        obtain ⟨hv5, hR5⟩ := (spe hA.2 hs15_5 (hp 5 (by kernel_rfl)))
        rw [hA.1, hs15_6]
        refine wn hon ?_
        have hF := fr_next (rfl) ((hf 5 43 (by kernel_rfl) rfl).trans hv5)
        refine ls_fr hF ?_
        refine ls_load (a0 := (ad16.add (((x6_2).toNat * 2) + 0))) (v := .int .i64 (((l0).getD (x6_2).toNat ((0 : Int), (0 : Int))).1)) (de := (TypeDesc.int .i64)) rfl rfl (by kernel_rfl) rfl (by kernel_rfl) (by kernel_rfl) (by kernel_rfl) (fun w1 hs1 => (Rd.step (hs.old R0) hs1.below.bw).at hA17 (Sub4.trans (em_sub T24 l0 (i := (x6_2).toNat) (by have h0 : (0 : Int) ≤ x6_2 := q8; have h1 : x6_2 < (l0.length : Int) := q7; omega)) (Sub4.head _ _))) ?_
        refine ls_ren 44 (v := .int .i64 (((l0).getD (x6_2).toNat ((0 : Int), (0 : Int))).1)) (v' := .int .i64 y18) (by kernel_rfl) (by rw [hy19]) ?_
        exact ls_fin s0 _ ((upd_upd _ _ _ _).trans (congrArg (fun z => upd z 44 _) hF.symm)) ⟨rfl, rfl⟩ (sub_nil _)
      obtain ⟨s15_7, hs15_7⟩ := exv (.int .i64 (if y18 < m0_2.1 then y18 else m0_2.1))
      refine have_opa extent_Add.tab13 97 7 (fun sp => sp 7 = s15_7 ∧ sp 1 = s15_1 ∧ sp 6 = s15_6) (fun sp on hA hon => ?_) (fun ops15_7 => ?_)
      · refine ⟨fun o ho vs Rs f' S' w hp hf hx hS hR hs => ?_⟩
        obtain rfl := Option.some.inj ho
        obtain ⟨hv1, hR1⟩ := (spe hA.2.1 hs15_1 (hp 1 (by kernel_rfl)))
        obtain ⟨hv6, hR6⟩ := (spe hA.2.2 hs15_6 (hp 6 (by kernel_rfl)))
        exact opv (.int .i64 (if y18 < m0_2.1 then y18 else m0_2.1)) hA.1 hs15_7 hon (fr_next (fr_next (rfl) ((hf 1 39 (by kernel_rfl) rfl).trans hv1)) ((hf 6 44 (by kernel_rfl) rfl).trans hv6))
      obtain ⟨s15_8, hs15_8⟩ := exv (.pointer (some ⟨g1, (0 + 1), none⟩))
      refine have_opa extent_Add.tab13 97 8 (fun sp => sp 8 = s15_8) (fun sp on hA hon => ?_) (fun ops15_8 => ?_)
      · refine ⟨fun o ho vs Rs f' S' w hp hf hx hS hR hs => ?_⟩
        obtain rfl := Option.some.inj ho
        exact opv (.pointer (some ⟨g1, (0 + 1), none⟩)) hA hs15_8 hon (fr_next (rfl) ((hx 3 (by kernel_rfl)).trans (by kernel_rfl : (_ : Value) = .pointer (some ⟨g1, 0, none⟩))))
      obtain ⟨s15_9, hs15_9⟩ := exv (.int .i64 m0_2.2)
      refine have_opa extent_Add.tab13 97 9 (fun sp => sp 9 = s15_9 ∧ sp 8 = s15_8) (fun sp on hA hon => ?_) (fun ops15_9 => ?_)
      · refine ⟨fun o ho vs Rs f' S' w hp hf hx hS hR hs => ?_⟩
        obtain rfl := Option.some.inj ho
        obtain ⟨hv8, hR8⟩ := (spe hA.2 hs15_8 (hp 8 (by kernel_rfl)))
        rw [hA.1, hs15_9]
        refine wn hon ?_
        have hF := fr_next (rfl) ((hf 8 46 (by kernel_rfl) rfl).trans hv8)
        refine ls_fr hF ?_
        refine ls_load (a0 := ⟨g1, (0 + 1), none⟩) (v := .int .i64 m0_2.2) (de := (TypeDesc.int .i64)) rfl rfl (by kernel_rfl) rfl (by kernel_rfl) (by kernel_rfl) (by kernel_rfl) (fun w1 hs1 => cell_step hs1.below.bw (hs.var (k := 0) ((hS 0 (by kernel_rfl)).trans (by exact rfl)) (Sub4.trans (Sub4.all _) (Sub4.skip (n := 1) (len1 _) (Sub4.all _))))) ?_
        exact ls_fin s0 _ (congrArg (fun z => upd z 47 _) hF.symm) ⟨rfl, rfl⟩ (sub_nil _)
      obtain ⟨s15_10, hs15_10⟩ := exv (.slice A0 l0.length c0)
      refine have_opa extent_Add.tab13 97 10 (fun sp => sp 10 = s15_10) (fun sp on hA hon => ?_) (fun ops15_10 => ?_)
      · refine ⟨fun o ho vs Rs f' S' w hp hf hx hS hR hs => ?_⟩
        obtain rfl := Option.some.inj ho
        exact opv (.slice A0 l0.length c0) hA hs15_10 hon (fr_next (rfl) ((hx 0 (by kernel_rfl)).trans (by kernel_rfl : (_ : Value) = .slice A0 l0.length c0)))
      obtain ⟨s15_11, hs15_11⟩ := exv (.int .i64 x6_2)
      refine have_opa extent_Add.tab13 97 11 (fun sp => sp 11 = s15_11) (fun sp on hA hon => ?_) (fun ops15_11 => ?_)
      · refine ⟨fun o ho vs Rs f' S' w hp hf hx hS hR hs => ?_⟩
        obtain rfl := Option.some.inj ho
        exact opv (.int .i64 x6_2) hA hs15_11 hon (fr_next (rfl) ((hx 6 (by kernel_rfl)).trans (by kernel_rfl : (_ : Value) = .int .i64 x6_2)))
      obtain ⟨ad20, hA21⟩ := ido_at (T := T24) (l := l0) (i := x6_2) R0 q8 q7
      obtain ⟨s15_12, hs15_12⟩ := exv (.pointer (some (ad20.add ((x6_2).toNat * 2))))
      refine have_opa extent_Add.tab13 97 12 (fun sp => sp 12 = s15_12 ∧ sp 10 = s15_10 ∧ sp 11 = s15_11) (fun sp on hA hon => ?_) (fun ops15_12 => ?_)
      · refine ⟨fun o ho vs Rs f' S' w hp hf hx hS hR hs => ?_⟩
        obtain rfl := Option.some.inj ho
        obtain ⟨hv10, hR10⟩ := (spe hA.2.1 hs15_10 (hp 10 (by kernel_rfl)))
        obtain ⟨hv11, hR11⟩ := (spe hA.2.2 hs15_11 (hp 11 (by kernel_rfl)))
        rw [hA.1, hs15_12]
        refine wn hon ?_
        have hF := fr_next (fr_next (rfl) ((hf 10 48 (by kernel_rfl) rfl).trans hv10)) ((hf 11 49 (by kernel_rfl) rfl).trans hv11)
        refine ls_fr hF ?_
        refine ls_idxv T24 (A := A0) (c := c0) (l := l0) (k := .i64) (i := x6_2) (z := 2) (ad := ad20) rfl rfl (by kernel_rfl) hA21 rfl (by kernel_rfl) (by kernel_rfl) (by kernel_rfl) (by kernel_rfl) q8 q7 ?_
        exact ls_fin s0 _ (congrArg (fun z => upd z 50 _) hF.symm) ⟨rfl, rfl⟩ (sub_nil _)
      obtain ⟨s15_13, hs15_13⟩ := exv (.pointer (some (ad20.add (((x6_2).toNat * 2) + 1))))
      refine have_opa extent_Add.tab13 97 13 (fun sp => sp 13 = s15_13 ∧ sp 12 = s15_12) (fun sp on hA hon => ?_) (fun ops15_13 => ?_)
      · refine ⟨fun o ho vs Rs f' S' w hp hf hx hS hR hs => ?_⟩
        obtain rfl := Option.some.inj ho
        obtain ⟨hv12, hR12⟩ := (spe hA.2 hs15_12 (hp 12 (by kernel_rfl)))
        rw [hA.1, hs15_13]
        refine wn hon ?_
        have hF := fr_next (rfl) ((hf 12 50 (by kernel_rfl) rfl).trans hv12)
        refine ls_fr hF ?_
        refine ls_fieldm (ad := ad20) (off := ((x6_2).toNat * 2)) rfl rfl (by kernel_rfl) 1 (fun w => by kernel_rfl) ?_
        exact ls_fin s0 _ (congrArg (fun z => upd z 51 _) hF.symm) ⟨rfl, rfl⟩ (sub_nil _)
      obtain ⟨y22, hy23, H⟩ := lt_some H
      obtain ⟨s15_14, hs15_14⟩ := exv (.int .i64 y22)
      refine have_opa extent_Add.tab13 97 14 (fun sp => sp 14 = s15_14 ∧ sp 13 = s15_13) (fun sp on hA hon => ?_) (fun ops15_14 => ?_)
      · refine ⟨fun o ho vs Rs f' S' w hp hf hx hS hR hs => ?_⟩
        obtain rfl := Option.some.inj ho
        obtain ⟨hv13, hR13⟩ := (spe hA.2 hs15_13 (hp 13 (by kernel_rfl)))
        rw [hA.1, hs15_14]
        refine wn hon ?_
        have hF := fr_next (rfl) ((hf 13 51 (by kernel_rfl) rfl).trans hv13)
        refine ls_fr hF ?_
        refine ls_load (a0 := (ad20.add (((x6_2).toNat * 2) + 1))) (v := .int .i64 (((l0).getD (x6_2).toNat ((0 : Int), (0 : Int))).2)) (de := (TypeDesc.int .i64)) rfl rfl (by kernel_rfl) rfl (by kernel_rfl) (by kernel_rfl) (by kernel_rfl) (fun w1 hs1 => (Rd.step (hs.old R0) hs1.below.bw).at hA21 (Sub4.trans (em_sub T24 l0 (i := (x6_2).toNat) (by have h0 : (0 : Int) ≤ x6_2 := q8; have h1 : x6_2 < (l0.length : Int) := q7; omega)) (Sub4.skip (n := 1) (len1 _) (Sub4.all _)))) ?_
        refine ls_ren 52 (v := .int .i64 (((l0).getD (x6_2).toNat ((0 : Int), (0 : Int))).2)) (v' := .int .i64 y22) (by kernel_rfl) (by rw [hy23]) ?_
        exact ls_fin s0 _ ((upd_upd _ _ _ _).trans (congrArg (fun z => upd z 52 _) hF.symm)) ⟨rfl, rfl⟩ (sub_nil _)
      obtain ⟨s15_15, hs15_15⟩ := exv (.int .i64 (if m0_2.2 < y22 then y22 else m0_2.2))
      refine have_opa extent_Add.tab13 97 15 (fun sp => sp 15 = s15_15 ∧ sp 9 = s15_9 ∧ sp 14 = s15_14) (fun sp on hA hon => ?_) (fun ops15_15 => ?_)
      · refine ⟨fun o ho vs Rs f' S' w hp hf hx hS hR hs => ?_⟩
        obtain rfl := Option.some.inj ho
        obtain ⟨hv9, hR9⟩ := (spe hA.2.1 hs15_9 (hp 9 (by kernel_rfl)))
        obtain ⟨hv14, hR14⟩ := (spe hA.2.2 hs15_14 (hp 14 (by kernel_rfl)))
        exact opv (.int .i64 (if m0_2.2 < y22 then y22 else m0_2.2)) hA.1 hs15_15 hon (fr_next (fr_next (rfl) ((hf 9 47 (by kernel_rfl) rfl).trans hv9)) ((hf 14 52 (by kernel_rfl) rfl).trans hv14))
      refine cs_draw extent_Add.tab13 16 97 (spl [s15_0, s15_1, s15_2, s15_3, s15_4, s15_5, s15_6, s15_7, s15_8, s15_9, s15_10, s15_11, s15_12, s15_13, s15_14, s15_15]) (onl [true, true, true, true, true, true, true, true, true, true, true, true, true, true, true, true]) (by kernel_rfl) (by kernel_rfl) (by kernel_rfl) (by kernel_rfl) (rs := [_, _]) rfl (by kernel_rfl) (by kernel_rfl) (all_snoc (all_snoc (all_snoc (all_snoc (all_snoc (all_snoc (all_snoc (all_snoc (all_snoc (all_snoc (all_snoc (all_snoc (all_snoc (all_snoc (all_snoc (all_snoc (all_nil) (ops15_0 _ _ rfl rfl)) (ops15_1 _ _ ⟨rfl, rfl⟩ rfl)) (ops15_2 _ _ rfl rfl)) (ops15_3 _ _ rfl rfl)) (ops15_4 _ _ ⟨rfl, rfl, rfl⟩ rfl)) (ops15_5 _ _ ⟨rfl, rfl⟩ rfl)) (ops15_6 _ _ ⟨rfl, rfl⟩ rfl)) (ops15_7 _ _ ⟨rfl, rfl, rfl⟩ rfl)) (ops15_8 _ _ rfl rfl)) (ops15_9 _ _ ⟨rfl, rfl⟩ rfl)) (ops15_10 _ _ rfl rfl)) (ops15_11 _ _ rfl rfl)) (ops15_12 _ _ ⟨rfl, rfl, rfl⟩ rfl)) (ops15_13 _ _ ⟨rfl, rfl⟩ rfl)) (ops15_14 _ _ ⟨rfl, rfl⟩ rfl)) (ops15_15 _ _ ⟨rfl, rfl, rfl⟩ rfl)) ?_
      intro vs Rs f' S' hp hf hx hS hR
      obtain ⟨hv7, hR7⟩ := (spe rfl hs15_7 (hp 7 (by kernel_rfl)))
      obtain ⟨hv15, hR15⟩ := (spe rfl hs15_15 (hp 15 (by kernel_rfl)))
      refine ls_fr (F := upd (upd (upd (upd (upd (upd f' 0 (.slice A0 l0.length c0)) 3 (.pointer (some ⟨g1, 0, none⟩))) 5 (.int .i64 t2)) 6 (.int .i64 x6_2)) 45 (.int .i64 (if y18 < m0_2.1 then y18 else m0_2.1))) 53 (.int .i64 (if m0_2.2 < y22 then y22 else m0_2.2))) (fr_next (fr_next (fr_next (fr_next (fr_next (fr_next (rfl) ((hx 0 (by kernel_rfl)).trans (by kernel_rfl : (_ : Value) = .slice A0 l0.length c0))) ((hx 3 (by kernel_rfl)).trans (by kernel_rfl : (_ : Value) = .pointer (some ⟨g1, 0, none⟩)))) ((hx 5 (by kernel_rfl)).trans (by kernel_rfl : (_ : Value) = .int .i64 t2))) ((hx 6 (by kernel_rfl)).trans (by kernel_rfl : (_ : Value) = .int .i64 x6_2))) ((hf 7 45 (by kernel_rfl) rfl).trans hv7)) ((hf 15 53 (by kernel_rfl) rfl).trans hv15)) ?_
      refine ls_sub (sput s0 0 (some (Ck.var 24 g1 (([Value.int .i64 m0_2.1] ++ [Value.int .i64 m0_2.2]))))) (sub_put ((hS 0 (by kernel_rfl)).trans (by exact rfl)) (sub_nil _)) ?_
      refine lv (.agg ⟨([Value.int .i64 (if y18 < m0_2.1 then y18 else m0_2.1)] ++ [Value.int .i64 (if m0_2.2 < y22 then y22 else m0_2.2)])⟩) ?_
      refine ls_storec (g := g1) (off := 0) (v := .agg ⟨([Value.int .i64 (if y18 < m0_2.1 then y18 else m0_2.1)] ++ [Value.int .i64 (if m0_2.2 < y22 then y22 else m0_2.2)])⟩) (vs := ([Value.int .i64 (if y18 < m0_2.1 then y18 else m0_2.1)] ++ [Value.int .i64 (if m0_2.2 < y22 then y22 else m0_2.2)])) (cs := ([Value.int .i64 m0_2.1] ++ [Value.int .i64 m0_2.2])) (ty := 24) 0 rfl rfl rfl (by kernel_rfl) (by kernel_rfl) (by kernel_rfl) (by exact rfl) (by kernel_rfl) (len_app (len1 _) (len1 _)) (one_app (one_cons rfl one_nil) (one_cons rfl one_nil)) (hl_of (Sub4.all _) (len_eq (len_app (len1 _) (len1 _)) (len_app (len1 _) (len1 _)))) (cs' := ([Value.int .i64 (if y18 < m0_2.1 then y18 else m0_2.1)] ++ [Value.int .i64 (if m0_2.2 < y22 then y22 else m0_2.2)])) (splc_all (len_eq (len_app (len1 _) (len1 _)) (len_app (len1 _) (len1 _)))) ?_
      refine ls_end ?_
      refine qn_block ?_
      refine qn_then ?_
      refine cs_region (l := [_, _, _]) ?_
      refine lv (.int .i64 x6_2) ?_
      refine lv (.int .i64 (IntKind.wrap .i64 (x6_2 + (1 : Int)))) ?_
      refine lv (.int .i64 (IntKind.wrap .i64 (x6_2 + (1 : Int)))) ?_
      refine ls_end ?_
      refine qn_again k2 (sput s0 0 (some (Ck.var 24 g1 (([Value.int .i64 (if y18 < m0_2.1 then y18 else m0_2.1)] ++ [Value.int .i64 (if m0_2.2 < y22 then y22 else m0_2.2)]))))) (Nat.le_refl _) ⟨_, (IntKind.wrap .i64 (x6_2 + (1 : Int))), ((if y18 < m0_2.1 then y18 else m0_2.1), (if m0_2.2 < y22 then y22 else m0_2.2)), fr_next (fr_next (fr_next (fr_next (rfl) (by kernel_rfl)) (by kernel_rfl)) (by kernel_rfl)) (by kernel_rfl), rfl, H⟩ (sub_put (by exact rfl) (sub_nil _))
    replace H := ite_f q13 H
    refine cs_know (c := false) (dec_f q13) 35 (by kernel_rfl) ?_
    refine cs_false (by kernel_rfl) ?_
    refine cs_exit' ?_
    refine qx_then ?_
    refine qx_then ?_
    refine qx_same ?_
    refine qn_then ?_
    refine cs_seq ?_
    refine cs_region (l := [_, _, _, _, _, _, _]) ?_
    refine lv (.slice A0 l0.length c0) ?_
    refine lv (.int .i64 t2) ?_
    refine lv (.int .i64 x6_2) ?_
    refine ls_loadagg (a := ⟨g1, 0, none⟩) (sub := ([Value.int .i64 m0_2.1] ++ [Value.int .i64 m0_2.2])) rfl rfl (by kernel_rfl) rfl (by kernel_rfl) (by kernel_rfl) (by kernel_rfl) (len_app (len1 _) (len1 _)) (fun w hs => (hs.vars (k := 0) (by exact rfl) (Sub4.all _))) ?_
    refine ls_lit T24 97 rfl rfl (by kernel_rfl) ([m0_2]) (by exact of_decide_eq_true (by kernel_rfl)) (fun w => by kernel_rfl) ?_
    intro g24
    obtain ⟨t25, hc26, H⟩ := bind_some H
    refine ls_callb (fid := 44) (vals := #[.slice A0 l0.length c0, .int .i64 t2, .int .i64 x6_2, .slice (some ⟨g24, 0, none⟩) ([m0_2]).length [m0_2].length]) (X := (Option Addr × Nat)) (fun x => .slice x.1 t25.length x.2) (fun x => stl [Ck.sl T24 x.1 x.2 t25]) [] [97] [] [Ck.sl T24 (some ⟨g24, 0, none⟩) ([m0_2].length) ([m0_2])] 98 rfl rfl (by kernel_rfl) (fun w => by kernel_rfl) trivial ⟨by exact rfl, trivial⟩ (by decide) (fun w hs hb => extent_replace_44.calls k2 A0 c0 l0 t2 x6_2 (some ⟨g24, 0, none⟩) ([m0_2].length) ([m0_2]) t25 (lent b w [] [Ck.sl T24 (some ⟨g24, 0, none⟩) ([m0_2].length) ([m0_2])]) hb (hs.ro R0 _ _) C0 (hs.ror (k := 97) (by exact rfl) (.head _)) (hs.cap (k := 97) (by exact rfl)) hc26) ?_
    intro x27
    refine lv (.slice x27.1 t25.length x27.2) ?_
    refine ls_end ?_
    refine qn_then ?_
    refine cs_ret' ?_
    obtain rfl := Option.some.inj H
    refine qr_res (rs := [_]) rfl (fun w' hs => ⟨[.slice x27.1 t25.length x27.2], (res_tmp (by kernel_rfl) (.nil)), (x27.1, x27.2), rfl, hs.pick (ts := [98]) (cs := [Ck.sl T24 x27.1 x27.2 t25]) ⟨by exact rfl, trivial⟩ (by decide)⟩)
  replace H := ite_f q7 H
  refine cs_draw extent_Add.tab4 12 1 (spl [s6_0, s6_1, s6_2, s6_3, s6_4, spu, spu, spu, spu, spu, spu, spu]) (onl [true, true, true, true, true, false, false, false, false, false, false, false]) (by kernel_rfl) (by kernel_rfl) (by kernel_rfl) (by kernel_rfl) (rs := [_, _]) rfl (by kernel_rfl) (by kernel_rfl) (all_snoc (all_snoc (all_snoc (all_snoc (all_snoc (all_snoc (all_snoc (all_snoc (all_snoc (all_snoc (all_snoc (all_snoc (all_nil) (ops6_0 _ _ rfl rfl)) (ops6_1 _ _ rfl rfl)) (ops6_2 _ _ ⟨rfl, rfl⟩ rfl)) (ops6_3 _ _ ⟨rfl, rfl, rfl⟩ rfl)) (ops6_4 _ _ ⟨rfl, rfl⟩ rfl)) (op_offi 5 4 26 true rfl rfl (by kernel_rfl) (by kernel_rfl) rfl (fun v R h => by rw [hs6_4] at h; obtain ⟨h, _⟩ := h; exact h.trans (congrArg Value.bool (show (decide (x6_2 < (l0.length : Int))) = false from dec_f q7))) rfl rfl)) (op_offi 6 4 26 true rfl rfl (by kernel_rfl) (by kernel_rfl) rfl (fun v R h => by rw [hs6_4] at h; obtain ⟨h, _⟩ := h; exact h.trans (congrArg Value.bool (show (decide (x6_2 < (l0.length : Int))) = false from dec_f q7))) rfl rfl)) (op_offi 7 4 26 true rfl rfl (by kernel_rfl) (by kernel_rfl) rfl (fun v R h => by rw [hs6_4] at h; obtain ⟨h, _⟩ := h; exact h.trans (congrArg Value.bool (show (decide (x6_2 < (l0.length : Int))) = false from dec_f q7))) rfl rfl)) (op_offi 8 4 26 true rfl rfl (by kernel_rfl) (by kernel_rfl) rfl (fun v R h => by rw [hs6_4] at h; obtain ⟨h, _⟩ := h; exact h.trans (congrArg Value.bool (show (decide (x6_2 < (l0.length : Int))) = false from dec_f q7))) rfl rfl)) (op_offi 9 4 26 true rfl rfl (by kernel_rfl) (by kernel_rfl) rfl (fun v R h => by rw [hs6_4] at h; obtain ⟨h, _⟩ := h; exact h.trans (congrArg Value.bool (show (decide (x6_2 < (l0.length : Int))) = false from dec_f q7))) rfl rfl)) (op_offi 10 4 26 true rfl rfl (by kernel_rfl) (by kernel_rfl) rfl (fun v R h => by rw [hs6_4] at h; obtain ⟨h, _⟩ := h; exact h.trans (congrArg Value.bool (show (decide (x6_2 < (l0.length : Int))) = false from dec_f q7))) rfl rfl)) (op_offi 11 4 26 true rfl rfl (by kernel_rfl) (by kernel_rfl) rfl (fun v R h => by rw [hs6_4] at h; obtain ⟨h, _⟩ := h; exact h.trans (congrArg Value.bool (show (decide (x6_2 < (l0.length : Int))) = false from dec_f q7))) rfl rfl)) ?_
  intro vs Rs f' S' hp hf hx hS hR
  obtain ⟨hv4, hR4⟩ := (spe rfl hs6_4 (hp 4 (by kernel_rfl)))
  obtain ⟨hv9, hR9⟩ := (spe rfl rfl (hp 9 (by kernel_rfl)) : spu _ _)
  obtain ⟨hv11, hR11⟩ := (spe rfl rfl (hp 11 (by kernel_rfl)) : spu _ _)
  refine ls_fr (F := upd (upd (upd (upd (upd f' 0 (.slice A0 l0.length c0)) 3 (.pointer (some ⟨g1, 0, none⟩))) 5 (.int .i64 t2)) 6 (.int .i64 x6_2)) 26 (.bool (decide (x6_2 < (l0.length : Int))))) (fr_next (fr_next (fr_next (fr_next (fr_next (rfl) ((hx 0 (by kernel_rfl)).trans (by kernel_rfl : (_ : Value) = .slice A0 l0.length c0))) ((hx 3 (by kernel_rfl)).trans (by kernel_rfl : (_ : Value) = .pointer (some ⟨g1, 0, none⟩)))) ((hx 5 (by kernel_rfl)).trans (by kernel_rfl : (_ : Value) = .int .i64 t2))) ((hx 6 (by kernel_rfl)).trans (by kernel_rfl : (_ : Value) = .int .i64 x6_2))) ((hf 4 26 (by kernel_rfl) rfl).trans hv4)) ?_
  refine ls_sub (sput s0 0 (some (Ck.var 24 g1 (([Value.int .i64 m0_2.1] ++ [Value.int .i64 m0_2.2]))))) (sub_put ((hS 0 (by kernel_rfl)).trans (by exact rfl)) (sub_nil _)) ?_
  refine ls_know (c := false) (dec_f q7) 26 (by kernel_rfl) ?_
  refine lofx 4 26 true false ?_
  refine lv (.bool false) ?_
  refine ls_end ?_
  refine qn_then ?_
  refine cs_false (by kernel_rfl) ?_
  refine cs_exit' ?_
  refine qx_then ?_
  refine qx_then ?_
  refine qx_same ?_
  refine qn_then ?_
  refine cs_seq ?_
  refine cs_region (l := [_, _, _, _, _, _, _]) ?_
  refine lv (.slice A0 l0.length c0) ?_
  refine lv (.int .i64 t2) ?_
  refine lv (.int .i64 x6_2) ?_
  refine ls_loadagg (a := ⟨g1, 0, none⟩) (sub := ([Value.int .i64 m0_2.1] ++ [Value.int .i64 m0_2.2])) rfl rfl (by kernel_rfl) rfl (by kernel_rfl) (by kernel_rfl) (by kernel_rfl) (len_app (len1 _) (len1 _)) (fun w hs => (hs.vars (k := 0) (by exact rfl) (Sub4.all _))) ?_
  refine ls_lit T24 97 rfl rfl (by kernel_rfl) ([m0_2]) (by exact of_decide_eq_true (by kernel_rfl)) (fun w => by kernel_rfl) ?_
  intro g28
  obtain ⟨t29, hc30, H⟩ := bind_some H
  refine ls_callb (fid := 44) (vals := #[.slice A0 l0.length c0, .int .i64 t2, .int .i64 x6_2, .slice (some ⟨g28, 0, none⟩) ([m0_2]).length [m0_2].length]) (X := (Option Addr × Nat)) (fun x => .slice x.1 t29.length x.2) (fun x => stl [Ck.sl T24 x.1 x.2 t29]) [] [97] [] [Ck.sl T24 (some ⟨g28, 0, none⟩) ([m0_2].length) ([m0_2])] 98 rfl rfl (by kernel_rfl) (fun w => by kernel_rfl) trivial ⟨by exact rfl, trivial⟩ (by decide) (fun w hs hb => extent_replace_44.calls k2 A0 c0 l0 t2 x6_2 (some ⟨g28, 0, none⟩) ([m0_2].length) ([m0_2]) t29 (lent b w [] [Ck.sl T24 (some ⟨g28, 0, none⟩) ([m0_2].length) ([m0_2])]) hb (hs.ro R0 _ _) C0 (hs.ror (k := 97) (by exact rfl) (.head _)) (hs.cap (k := 97) (by exact rfl)) hc30) ?_
  intro x31
  refine lv (.slice x31.1 t29.length x31.2) ?_
  refine ls_end ?_
  refine qn_then ?_
  refine cs_ret' ?_
  obtain rfl := Option.some.inj H
  refine qr_res (rs := [_]) rfl (fun w' hs => ⟨[.slice x31.1 t29.length x31.2], (res_tmp (by kernel_rfl) (.nil)), (x31.1, x31.2), rfl, hs.pick (ts := [98]) (cs := [Ck.sl T24 x31.1 x31.2 t29]) ⟨by exact rfl, trivial⟩ (by decide)⟩)

/-! ### shadowbox/alloc.New: function 27 -/
def alloc_New.f (k : Nat) (a0 : Int) (a1 : Int) (a2 : Int) : Option ((((Int × Int) × Bool × Int × (List (Int × Int)) × Unit × (List (Int × Int))) × (Bool × (List (Int × Int)))) × Int) :=
  (if a0 < (0 : Int) then none else (if a1 < a0 then none else (if a1 > (8192 : Int) then none else (if a2 < (0 : Int) then none else (if a2 > (IntKind.wrap .i64 (a1 - a0)) then none else (extent_Add.f k ([] : List (Int × Int)) (a0, a1)).bind fun t7 => some ((((a0, a1), true, a2, t7, (), t7), (false, ([] : List (Int × Int)))), (0 : Int)))))))
set_option maxRecDepth 100000 in
set_option maxHeartbeats 4000000 in
theorem alloc_New.calls (k : Nat) (a0 : Int) (a1 : Int) (a2 : Int) (r : (((Int × Int) × Bool × Int × (List (Int × Int)) × Unit × (List (Int × Int))) × (Bool × (List (Int × Int)))) × Int) (b : Bs) (hs0 : St b (stl []) b.w) (H : alloc_New.f k a0 a1 a2 = some r) :
    Calls Try.prog 27 #[.int .i64 a0, .int .i64 a1, .int .i64 a2] b.w fun e w' => ∃ b', b.le b' ∧ ∃ x : Nat × (Option Addr × Nat) × (Option Addr × Nat) × Nat × (Option Addr × Nat), e = .returned (.tuple #[.pointer (some ⟨x.1, 0, none⟩), .int .i64 r.2]) ∧ ((Ro b' x.2.1.1 (em T24 r.1.1.2.2.2.1) ∧ r.1.1.2.2.2.1.length ≤ x.2.1.2) ∧ (Ro b' x.2.2.1.1 (em T24 r.1.1.2.2.2.2.2) ∧ r.1.1.2.2.2.2.2.length ≤ x.2.2.1.2)) ∧ St b' (stl [Ck.var 66 x.1 ((([Value.int .i64 r.1.1.1.1] ++ [Value.int .i64 r.1.1.1.2]) ++ ([Value.bool r.1.1.2.1] ++ ([Value.int .i64 r.1.1.2.2.1] ++ ([Value.slice x.2.1.1 r.1.1.2.2.2.1.length x.2.1.2] ++ ([Value.map (some x.2.2.2.1)] ++ [Value.slice x.2.2.1.1 r.1.1.2.2.2.2.2.length x.2.2.1.2])))))), Ck.m1 x.2.2.2.1 r.1.2.1 x.2.2.2.2.1 r.1.2.2.length x.2.2.2.2.2, Ck.sl T24 x.2.2.2.2.1 x.2.2.2.2.2 r.1.2.2]) w' := by
  unfold alloc_New.f at H
  refine enterb (n := 44) Try.func27 rfl (by kernel_rfl) (by kernel_rfl) hs0 ?_
  refine cs_sub (s0) (sub_nil _) ?_
  refine cs_seq ?_
  refine cs_region (l := [_, _]) ?_
  refine lv (.pointer none) ?_
  refine lv (.int .i64 (0 : Int)) ?_
  refine ls_end ?_
  refine qn_then ?_
  refine cs_seq ?_
  refine cs_seq ?_
  refine cs_region (l := [_, _, _, _, _, _, _, _, _, _, _, _, _, _, _, _, _, _, _, _, _, _]) ?_
  refine lv (.int .i64 a0) ?_
  refine lv (.bool (decide (a0 < (0 : Int)))) ?_
  refine lv (.bool (decide (a0 < (0 : Int)))) ?_
  by_cases q1 : a0 < (0 : Int)
  · replace H := ite_t q1 H
    refine ls_know (c := true) (dec_t q1) 12 (by kernel_rfl) ?_
    refine lofx 2 12 false true ?_
    refine lofx 2 12 false true ?_
    refine lofx 2 12 false true ?_
    refine lv (.bool true) ?_
    refine lv (.bool true) ?_
    refine lofx 7 17 false true ?_
    refine lofx 7 17 false true ?_
    refine lv (.bool true) ?_
    refine lv (.bool true) ?_
    refine lofx 11 21 false true ?_
    refine lofx 11 21 false true ?_
    refine lv (.bool true) ?_
    refine lv (.bool true) ?_
    refine lofx 15 25 false true ?_
    refine lofx 15 25 false true ?_
    refine lofx 15 25 false true ?_
    refine lofx 15 25 false true ?_
    refine lofx 15 25 false true ?_
    refine lv (.bool true) ?_
    refine ls_end ?_
    refine qn_then ?_
    refine cs_true (by kernel_rfl) ?_
    refine cs_seq ?_
    refine cs_region (l := [_, _]) ?_
    refine lv (.pointer none) ?_
    refine lv (.int .i64 (2 : Int)) ?_
    refine ls_end ?_
    refine qn_then ?_
    cases H
  replace H := ite_f q1 H
  refine ls_know (c := false) (dec_f q1) 12 (by kernel_rfl) ?_
  refine ls_on (j := 2) (t := 12) (b := false) rfl rfl (by kernel_rfl) (by kernel_rfl) ?_
  refine lv (.int .i64 a1) ?_
  refine ls_on (j := 2) (t := 12) (b := false) rfl rfl (by kernel_rfl) (by kernel_rfl) ?_
  refine lv (.int .i64 a0) ?_
  refine ls_on (j := 2) (t := 12) (b := false) rfl rfl (by kernel_rfl) (by kernel_rfl) ?_
  refine lv (.bool (decide (a1 < a0))) ?_
  refine lv (.bool (decide (a1 < a0))) ?_
  refine lv (.bool (decide (a1 < a0))) ?_
  by_cases q2 : a1 < a0
  · replace H := ite_t q2 H
    refine ls_know (c := true) (dec_t q2) 17 (by kernel_rfl) ?_
    refine lofx 7 17 false true ?_
    refine lofx 7 17 false true ?_
    refine lv (.bool true) ?_
    refine lv (.bool true) ?_
    refine lofx 11 21 false true ?_
    refine lofx 11 21 false true ?_
    refine lv (.bool true) ?_
    refine lv (.bool true) ?_
    refine lofx 15 25 false true ?_
    refine lofx 15 25 false true ?_
    refine lofx 15 25 false true ?_
    refine lofx 15 25 false true ?_
    refine lofx 15 25 false true ?_
    refine lv (.bool true) ?_
    refine ls_end ?_
    refine qn_then ?_
    refine cs_true (by kernel_rfl) ?_
    refine cs_seq ?_
    refine cs_region (l := [_, _]) ?_
    refine lv (.pointer none) ?_
    refine lv (.int .i64 (2 : Int)) ?_
    refine ls_end ?_
    refine qn_then ?_
    cases H
  replace H := ite_f q2 H
  refine ls_know (c := false) (dec_f q2) 17 (by kernel_rfl) ?_
  refine ls_on (j := 7) (t := 17) (b := false) rfl rfl (by kernel_rfl) (by kernel_rfl) ?_
  refine lv (.int .i64 a1) ?_
  refine ls_on (j := 7) (t := 17) (b := false) rfl rfl (by kernel_rfl) (by kernel_rfl) ?_
  refine lv (.bool (decide (a1 > (8192 : Int)))) ?_
  refine lv (.bool (decide (a1 > (8192 : Int)))) ?_
  refine lv (.bool (decide (a1 > (8192 : Int)))) ?_
  by_cases q3 : a1 > (8192 : Int)
  · replace H := ite_t q3 H
    refine ls_know (c := true) (dec_t q3) 21 (by kernel_rfl) ?_
    refine lofx 11 21 false true ?_
    refine lofx 11 21 false true ?_
    refine lv (.bool true) ?_
    refine lv (.bool true) ?_
    refine lofx 15 25 false true ?_
    refine lofx 15 25 false true ?_
    refine lofx 15 25 false true ?_
    refine lofx 15 25 false true ?_
    refine lofx 15 25 false true ?_
    refine lv (.bool true) ?_
    refine ls_end ?_
    refine qn_then ?_
    refine cs_true (by kernel_rfl) ?_
    refine cs_seq ?_
    refine cs_region (l := [_, _]) ?_
    refine lv (.pointer none) ?_
    refine lv (.int .i64 (2 : Int)) ?_
    refine ls_end ?_
    refine qn_then ?_
    cases H
  replace H := ite_f q3 H
  refine ls_know (c := false) (dec_f q3) 21 (by kernel_rfl) ?_
  refine ls_on (j := 11) (t := 21) (b := false) rfl rfl (by kernel_rfl) (by kernel_rfl) ?_
  refine lv (.int .i64 a2) ?_
  refine ls_on (j := 11) (t := 21) (b := false) rfl rfl (by kernel_rfl) (by kernel_rfl) ?_
  refine lv (.bool (decide (a2 < (0 : Int)))) ?_
  refine lv (.bool (decide (a2 < (0 : Int)))) ?_
  refine lv (.bool (decide (a2 < (0 : Int)))) ?_
  by_cases q4 : a2 < (0 : Int)
  · replace H := ite_t q4 H
    refine ls_know (c := true) (dec_t q4) 25 (by kernel_rfl) ?_
    refine lofx 15 25 false true ?_
    refine lofx 15 25 false true ?_
    refine lofx 15 25 false true ?_
    refine lofx 15 25 false true ?_
    refine lofx 15 25 false true ?_
    refine lv (.bool true) ?_
    refine ls_end ?_
    refine qn_then ?_
    refine cs_true (by kernel_rfl) ?_
    refine cs_seq ?_
    refine cs_region (l := [_, _]) ?_
    refine lv (.pointer none) ?_
    refine lv (.int .i64 (2 : Int)) ?_
    refine ls_end ?_
    refine qn_then ?_
    cases H
  replace H := ite_f q4 H
  refine ls_know (c := false) (dec_f q4) 25 (by kernel_rfl) ?_
  refine ls_on (j := 15) (t := 25) (b := false) rfl rfl (by kernel_rfl) (by kernel_rfl) ?_
  refine lv (.int .i64 a2) ?_
  refine ls_on (j := 15) (t := 25) (b := false) rfl rfl (by kernel_rfl) (by kernel_rfl) ?_
  refine lv (.int .i64 a1) ?_
  refine ls_on (j := 15) (t := 25) (b := false) rfl rfl (by kernel_rfl) (by kernel_rfl) ?_
  refine lv (.int .i64 a0) ?_
  refine ls_on (j := 15) (t := 25) (b := false) rfl rfl (by kernel_rfl) (by kernel_rfl) ?_
  refine lv (.int .i64 (IntKind.wrap .i64 (a1 - a0))) ?_
  refine ls_on (j := 15) (t := 25) (b := false) rfl rfl (by kernel_rfl) (by kernel_rfl) ?_
  refine lv (.bool (decide (a2 > (IntKind.wrap .i64 (a1 - a0))))) ?_
  refine lv (.bool (decide (a2 > (IntKind.wrap .i64 (a1 - a0))))) ?_
  refine ls_end ?_
  refine qn_then ?_
  by_cases q5 : a2 > (IntKind.wrap .i64 (a1 - a0))
  · replace H := ite_t q5 H
    refine cs_know (c := true) (dec_t q5) 31 (by kernel_rfl) ?_
    refine cs_true (by kernel_rfl) ?_
    refine cs_seq ?_
    refine cs_region (l := [_, _]) ?_
    refine lv (.pointer none) ?_
    refine lv (.int .i64 (2 : Int)) ?_
    refine ls_end ?_
    refine qn_then ?_
    cases H
  replace H := ite_f q5 H
  refine cs_know (c := false) (dec_f q5) 31 (by kernel_rfl) ?_
  refine cs_false (by kernel_rfl) ?_
  refine cs_skip' ?_
  refine qn_then ?_
  refine cs_seq ?_
  refine cs_region (l := [_, _, _, _, _]) ?_
  refine lv (.int .i64 a0) ?_
  refine lv (.int .i64 a1) ?_
  refine lv (.agg ⟨([Value.int .i64 a0] ++ [Value.int .i64 a1])⟩) ?_
  refine ls_new rfl rfl (by kernel_rfl) 0 (fun g => .pointer (some ⟨g, 0, none⟩)) (.cells ⟨([Value.int .i64 (0 : Int)] ++ [Value.int .i64 (0 : Int)])⟩ 24) (fun w => by kernel_rfl) ?_
  intro g6
  refine ls_storec (g := g6) (off := 0) (v := .agg ⟨([Value.int .i64 a0] ++ [Value.int .i64 a1])⟩) (vs := ([Value.int .i64 a0] ++ [Value.int .i64 a1])) (cs := ([Value.int .i64 (0 : Int)] ++ [Value.int .i64 (0 : Int)])) (ty := 24) 0 rfl rfl rfl (by kernel_rfl) (by kernel_rfl) (by kernel_rfl) (by exact rfl) (by kernel_rfl) (len_app (len1 _) (len1 _)) (one_app (one_cons rfl one_nil) (one_cons rfl one_nil)) (hl_of (Sub4.all _) (len_eq (len_app (len1 _) (len1 _)) (len_app (len1 _) (len1 _)))) (cs' := ([Value.int .i64 a0] ++ [Value.int .i64 a1])) (splc_all (len_eq (len_app (len1 _) (len1 _)) (len_app (len1 _) (len1 _)))) ?_
  refine ls_end ?_
  refine qn_then ?_
  refine cs_seq ?_
  refine cs_region (l := [_, _, _]) ?_
  refine ls_loadagg (a := ⟨g6, 0, none⟩) (sub := ([Value.int .i64 a0] ++ [Value.int .i64 a1])) rfl rfl (by kernel_rfl) rfl (by kernel_rfl) (by kernel_rfl) (by kernel_rfl) (len_app (len1 _) (len1 _)) (fun w hs => (hs.vars (k := 0) (by exact rfl) (Sub4.all _))) ?_
  obtain ⟨t7, hc8, H⟩ := bind_some H
  refine ls_callb (fid := 13) (vals := #[.slice none ([] : List (Int × Int)).length 0, .agg ⟨([Value.int .i64 a0] ++ [Value.int .i64 a1])⟩]) (X := (Option Addr × Nat)) (fun x => .slice x.1 t7.length x.2) (fun x => stl [Ck.sl T24 x.1 x.2 t7]) [] [] [] [] 1 rfl rfl (by kernel_rfl) (fun w => by kernel_rfl) trivial trivial (by decide) (fun w hs hb => extent_Add.calls k none 0 ([] : List (Int × Int)) (a0, a1) t7 (lent b w [] []) hb (Ro.nil _ _) (Nat.le_refl 0) hc8) ?_
  intro x9
  refine lv (.slice x9.1 t7.length x9.2) ?_
  refine ls_end ?_
  refine qn_then ?_
  refine cs_seq ?_
  refine cs_region (l := [_, _, _, _, _, _, _, _, _]) ?_
  refine ls_loadagg (a := ⟨g6, 0, none⟩) (sub := ([Value.int .i64 a0] ++ [Value.int .i64 a1])) rfl rfl (by kernel_rfl) rfl (by kernel_rfl) (by kernel_rfl) (by kernel_rfl) (len_app (len1 _) (len1 _)) (fun w hs => (hs.vars (k := 0) (by exact rfl) (Sub4.all _))) ?_
  refine lv (.int .i64 a2) ?_
  refine lv (.slice x9.1 t7.length x9.2) ?_
  refine ls_makem1 2 rfl rfl (by kernel_rfl) rfl ?_
  intro g10
  refine lv (.slice x9.1 t7.length x9.2) ?_
  refine ls_build (ps := [(0, .agg ⟨([Value.int .i64 a0] ++ [Value.int .i64 a1])⟩), (1, .bool true), (2, .int .i64 a2), (3, .slice x9.1 t7.length x9.2), (4, .map (some g10)), (5, .slice x9.1 t7.length x9.2)]) (pl := #[(0, 2), (2, 1), (3, 1), (4, 1), (5, 1), (6, 1)]) (zv := .agg ⟨(([Value.int .i64 (0 : Int)] ++ [Value.int .i64 (0 : Int)]) ++ ([Value.bool false] ++ ([Value.int .i64 (0 : Int)] ++ ([Value.slice none 0 0] ++ ([Value.map none] ++ [Value.slice none 0 0])))))⟩) (zc := (([Value.int .i64 (0 : Int)] ++ [Value.int .i64 (0 : Int)]) ++ ([Value.bool false] ++ ([Value.int .i64 (0 : Int)] ++ ([Value.slice none 0 0] ++ ([Value.map none] ++ [Value.slice none 0 0])))))) (r := (([Value.int .i64 a0] ++ [Value.int .i64 a1]) ++ ([Value.bool true] ++ ([Value.int .i64 a2] ++ ([Value.slice x9.1 t7.length x9.2] ++ ([Value.map (some g10)] ++ [Value.slice x9.1 t7.length x9.2])))))) rfl rfl (by kernel_rfl) rfl (by kernel_rfl) (by kernel_rfl) (fun w => by kernel_rfl) (fun w => by kernel_rfl) rfl (fill_cons (vs := ([Value.int .i64 a0] ++ [Value.int .i64 a1])) (cs' := (([Value.int .i64 a0] ++ [Value.int .i64 a1]) ++ ([Value.bool false] ++ ([Value.int .i64 (0 : Int)] ++ ([Value.slice none 0 0] ++ ([Value.map none] ++ [Value.slice none 0 0])))))) (off := 0) (size := 2) rfl (by kernel_rfl) (len_app (len1 _) (len1 _)) (le_of_len (len_app (len_app (len1 _) (len1 _)) (len_app (len1 _) (len_app (len1 _) (len_app (len1 _) (len_app (len1 _) (len1 _)))))) (by decide)) (splc_in (Sub4.all _) (splc_head (len_eq (len_app (len1 _) (len1 _)) (len_app (len1 _) (len1 _)))) (splc_all (len_eq (len_app (len_app (len1 _) (len1 _)) (len_app (len1 _) (len_app (len1 _) (len_app (len1 _) (len_app (len1 _) (len1 _)))))) (len_app (len_app (len1 _) (len1 _)) (len_app (len1 _) (len_app (len1 _) (len_app (len1 _) (len_app (len1 _) (len1 _)))))))) (hl_of (Sub4.head _ _) (len_eq (len_app (len1 _) (len1 _)) (len_app (len1 _) (len1 _))))) (fill_cons (vs := [Value.bool true]) (cs' := (([Value.int .i64 a0] ++ [Value.int .i64 a1]) ++ ([Value.bool true] ++ ([Value.int .i64 (0 : Int)] ++ ([Value.slice none 0 0] ++ ([Value.map none] ++ [Value.slice none 0 0])))))) (off := 2) (size := 1) rfl (by kernel_rfl) (len1 _) (le_of_len (len_app (len_app (len1 _) (len1 _)) (len_app (len1 _) (len_app (len1 _) (len_app (len1 _) (len_app (len1 _) (len1 _)))))) (by decide)) (splc_in (Sub4.all _) (splc_skip (n := 2) (len_app (len1 _) (len1 _)) (splc_head (len_eq (len1 _) (len1 _)))) (splc_all (len_eq (len_app (len_app (len1 _) (len1 _)) (len_app (len1 _) (len_app (len1 _) (len_app (len1 _) (len_app (len1 _) (len1 _)))))) (len_app (len_app (len1 _) (len1 _)) (len_app (len1 _) (len_app (len1 _) (len_app (len1 _) (len_app (len1 _) (len1 _)))))))) (hl_of (Sub4.skip (n := 2) (len_app (len1 _) (len1 _)) (Sub4.head _ _)) (len_eq (len1 _) (len1 _)))) (fill_cons (vs := [Value.int .i64 a2]) (cs' := (([Value.int .i64 a0] ++ [Value.int .i64 a1]) ++ ([Value.bool true] ++ ([Value.int .i64 a2] ++ ([Value.slice none 0 0] ++ ([Value.map none] ++ [Value.slice none 0 0])))))) (off := 3) (size := 1) rfl (by kernel_rfl) (len1 _) (le_of_len (len_app (len_app (len1 _) (len1 _)) (len_app (len1 _) (len_app (len1 _) (len_app (len1 _) (len_app (len1 _) (len1 _)))))) (by decide)) (splc_in (Sub4.all _) (splc_skip (n := 2) (len_app (len1 _) (len1 _)) (splc_skip (n := 1) (len1 _) (splc_head (len_eq (len1 _) (len1 _))))) (splc_all (len_eq (len_app (len_app (len1 _) (len1 _)) (len_app (len1 _) (len_app (len1 _) (len_app (len1 _) (len_app (len1 _) (len1 _)))))) (len_app (len_app (len1 _) (len1 _)) (len_app (len1 _) (len_app (len1 _) (len_app (len1 _) (len_app (len1 _) (len1 _)))))))) (hl_of (Sub4.skip (n := 2) (len_app (len1 _) (len1 _)) (Sub4.skip (n := 1) (len1 _) (Sub4.head _ _))) (len_eq (len1 _) (len1 _)))) (fill_cons (vs := [Value.slice x9.1 t7.length x9.2]) (cs' := (([Value.int .i64 a0] ++ [Value.int .i64 a1]) ++ ([Value.bool true] ++ ([Value.int .i64 a2] ++ ([Value.slice x9.1 t7.length x9.2] ++ ([Value.map none] ++ [Value.slice none 0 0])))))) (off := 4) (size := 1) rfl (by kernel_rfl) (len1 _) (le_of_len (len_app (len_app (len1 _) (len1 _)) (len_app (len1 _) (len_app (len1 _) (len_app (len1 _) (len_app (len1 _) (len1 _)))))) (by decide)) (splc_in (Sub4.all _) (splc_skip (n := 2) (len_app (len1 _) (len1 _)) (splc_skip (n := 1) (len1 _) (splc_skip (n := 1) (len1 _) (splc_head (len_eq (len1 _) (len1 _)))))) (splc_all (len_eq (len_app (len_app (len1 _) (len1 _)) (len_app (len1 _) (len_app (len1 _) (len_app (len1 _) (len_app (len1 _) (len1 _)))))) (len_app (len_app (len1 _) (len1 _)) (len_app (len1 _) (len_app (len1 _) (len_app (len1 _) (len_app (len1 _) (len1 _)))))))) (hl_of (Sub4.skip (n := 2) (len_app (len1 _) (len1 _)) (Sub4.skip (n := 1) (len1 _) (Sub4.skip (n := 1) (len1 _) (Sub4.head _ _)))) (len_eq (len1 _) (len1 _)))) (fill_cons (vs := [Value.map (some g10)]) (cs' := (([Value.int .i64 a0] ++ [Value.int .i64 a1]) ++ ([Value.bool true] ++ ([Value.int .i64 a2] ++ ([Value.slice x9.1 t7.length x9.2] ++ ([Value.map (some g10)] ++ [Value.slice none 0 0])))))) (off := 5) (size := 1) rfl (by kernel_rfl) (len1 _) (le_of_len (len_app (len_app (len1 _) (len1 _)) (len_app (len1 _) (len_app (len1 _) (len_app (len1 _) (len_app (len1 _) (len1 _)))))) (by decide)) (splc_in (Sub4.all _) (splc_skip (n := 2) (len_app (len1 _) (len1 _)) (splc_skip (n := 1) (len1 _) (splc_skip (n := 1) (len1 _) (splc_skip (n := 1) (len1 _) (splc_head (len_eq (len1 _) (len1 _))))))) (splc_all (len_eq (len_app (len_app (len1 _) (len1 _)) (len_app (len1 _) (len_app (len1 _) (len_app (len1 _) (len_app (len1 _) (len1 _)))))) (len_app (len_app (len1 _) (len1 _)) (len_app (len1 _) (len_app (len1 _) (len_app (len1 _) (len_app (len1 _) (len1 _)))))))) (hl_of (Sub4.skip (n := 2) (len_app (len1 _) (len1 _)) (Sub4.skip (n := 1) (len1 _) (Sub4.skip (n := 1) (len1 _) (Sub4.skip (n := 1) (len1 _) (Sub4.head _ _))))) (len_eq (len1 _) (len1 _)))) (fill_cons (vs := [Value.slice x9.1 t7.length x9.2]) (cs' := (([Value.int .i64 a0] ++ [Value.int .i64 a1]) ++ ([Value.bool true] ++ ([Value.int .i64 a2] ++ ([Value.slice x9.1 t7.length x9.2] ++ ([Value.map (some g10)] ++ [Value.slice x9.1 t7.length x9.2])))))) (off := 6) (size := 1) rfl (by kernel_rfl) (len1 _) (le_of_len (len_app (len_app (len1 _) (len1 _)) (len_app (len1 _) (len_app (len1 _) (len_app (len1 _) (len_app (len1 _) (len1 _)))))) (by decide)) (splc_in (Sub4.all _) (splc_skip (n := 2) (len_app (len1 _) (len1 _)) (splc_skip (n := 1) (len1 _) (splc_skip (n := 1) (len1 _) (splc_skip (n := 1) (len1 _) (splc_skip (n := 1) (len1 _) (splc_all (len_eq (len1 _) (len1 _)))))))) (splc_all (len_eq (len_app (len_app (len1 _) (len1 _)) (len_app (len1 _) (len_app (len1 _) (len_app (len1 _) (len_app (len1 _) (len1 _)))))) (len_app (len_app (len1 _) (len1 _)) (len_app (len1 _) (len_app (len1 _) (len_app (len1 _) (len_app (len1 _) (len1 _)))))))) (hl_of (Sub4.skip (n := 2) (len_app (len1 _) (len1 _)) (Sub4.skip (n := 1) (len1 _) (Sub4.skip (n := 1) (len1 _) (Sub4.skip (n := 1) (len1 _) (Sub4.skip (n := 1) (len1 _) (Sub4.all _)))))) (len_eq (len1 _) (len1 _)))) fill_nil)))))) ?_
  refine ls_new rfl rfl (by kernel_rfl) 3 (fun g => .pointer (some ⟨g, 0, none⟩)) (.cells ⟨(([Value.int .i64 a0] ++ [Value.int .i64 a1]) ++ ([Value.bool true] ++ ([Value.int .i64 a2] ++ ([Value.slice x9.1 t7.length x9.2] ++ ([Value.map (some g10)] ++ [Value.slice x9.1 t7.length x9.2])))))⟩ 66) (fun w => by kernel_rfl) ?_
  intro g11
  refine lv (.pointer (some ⟨g11, 0, none⟩)) ?_
  refine lv (.int .i64 (0 : Int)) ?_
  refine ls_end ?_
  refine qn_then ?_
  refine cs_ret' ?_
  refine qr_freeze (T := T24) (A := x9.1) (c := x9.2) (l := t7) 1 (by exact rfl) ?_
  intro bs12 hle13 hok14 fR15 fC16
  refine qr_nilrow 4 T24 ?_
  obtain rfl := Option.some.inj H
  refine qr_res (rs := [_, _]) rfl (fun w' hs => ⟨[.pointer (some ⟨g11, 0, none⟩), .int .i64 (0 : Int)], (res_tmp (by kernel_rfl) (res_tmp (by kernel_rfl) (.nil))), bs12, hle13, (g11, (x9.1, x9.2), (x9.1, x9.2), g10, (none, 0)), rfl, ⟨⟨fR15, fC16⟩, ⟨fR15, fC16⟩⟩, hs.pick (ts := [3, 2, 4]) (cs := [Ck.var 66 g11 ((([Value.int .i64 a0] ++ [Value.int .i64 a1]) ++ ([Value.bool true] ++ ([Value.int .i64 a2] ++ ([Value.slice x9.1 t7.length x9.2] ++ ([Value.map (some g10)] ++ [Value.slice x9.1 t7.length x9.2])))))), Ck.m1 g10 false none (([] : List (Int × Int)).length) 0, Ck.sl T24 none 0 ([] : List (Int × Int))]) ⟨by exact rfl, by exact rfl, by exact rfl, trivial⟩ (by decide)⟩)

/-! ### shadowbox/extent.Total: function 14 -/
def extent_Total.lo2 (l0 : List (Int × Int)) : Nat → Int → Int → Option (Int)
  | 0, _, _ => none
  | k2 + 1, x3_2, x11_2 => (if x11_2 < (l0.length : Int) then (if 0 ≤ x11_2 then lt (((l0).getD (x11_2).toNat ((0 : Int), (0 : Int))).2) fun y6 => lt (((l0).getD (x11_2).toNat ((0 : Int), (0 : Int))).1) fun y8 => lt (IntKind.wrap .i64 (x3_2 + (IntKind.wrap .i64 (y6 - y8)))) fun y10 => (extent_Total.lo2 l0 k2) y10 (IntKind.wrap .i64 (x11_2 + (1 : Int))) else none) else some x3_2)
def extent_Total.jo1 (k : Nat) (l0 : List (Int × Int)) : Option (Int) := extent_Total.lo2 l0 k (0 : Int) (0 : Int)
def extent_Total.f (k : Nat) (l0 : List (Int × Int)) : Option (Int) :=
  (extent_Valid.f k l0).bind fun t12 => (if t12 = true then (extent_Total.jo1 k l0) else some (0 : Int))
set_option maxRecDepth 100000 in
set_option maxHeartbeats 4000000 in
theorem extent_Total.calls (k : Nat) (A0 : Option Addr) (c0 : Nat) (l0 : List (Int × Int)) (r : Int) (b : Bs) (hs0 : St b (stl []) b.w) (R0 : Ro b A0 (em T24 l0)) (C0 : l0.length ≤ c0) (H : extent_Total.f k l0 = some r) :
    Calls Try.prog 14 #[.slice A0 l0.length c0] b.w fun e w' => ∃ x : Unit, e = .returned (.int .i64 r) ∧ St b (stl []) w' := by
  unfold extent_Total.f at H
  refine enterb (n := 24) Try.func14 rfl (by kernel_rfl) (by kernel_rfl) hs0 ?_
  refine cs_sub (s0) (sub_nil _) ?_
  refine cs_seq ?_
  refine cs_region (l := [_]) ?_
  refine lv (.int .i64 (0 : Int)) ?_
  refine ls_end ?_
  refine qn_then ?_
  refine cs_cut (fun f S => ∃ (fR : Fr), f = upd fR 0 (.slice A0 l0.length c0) ∧ S = s0 ∧ extent_Total.jo1 k l0 = some r) ?_ ?_
  · skip
    refine cs_seq ?_
    refine cs_region (l := [_, _, _]) ?_
    refine lv (.slice A0 l0.length c0) ?_
    obtain ⟨t12, hc13, H⟩ := bind_some H
    refine ls_callb (fid := 10) (vals := #[.slice A0 l0.length c0]) (X := Unit) (fun x => .bool t12) (fun x => stl []) [] [] [] [] 0 rfl rfl (by kernel_rfl) (fun w => by kernel_rfl) trivial trivial (by decide) (fun w hs hb => extent_Valid.calls k A0 c0 l0 t12 (lent b w [] []) hb (hs.ro R0 _ _) C0 hc13) ?_
    intro x14
    refine lv (.bool (!t12)) ?_
    refine ls_end ?_
    refine qn_then ?_
    by_cases q15 : t12 = true
    · replace H := ite_t q15 H
      refine cs_know (c := false) (congrArg Bool.not (q15)) 8 (by kernel_rfl) ?_
      refine cs_false (by kernel_rfl) ?_
      refine cs_skip' ?_
      refine qn_meet (s0) ⟨_, fr_next (rfl) (by kernel_rfl), rfl, H⟩ (sub_nil _)
    replace H := ite_f q15 H
    refine cs_know (c := true) (congrArg Bool.not (Bool.eq_false_iff.mpr q15)) 8 (by kernel_rfl) ?_
    refine cs_true (by kernel_rfl) ?_
    refine cs_seq ?_
    refine cs_region (l := [_]) ?_
    refine lv (.int .i64 (0 : Int)) ?_
    refine ls_end ?_
    refine qn_then ?_
    refine cs_ret' ?_
    refine qr_then ?_
    obtain rfl := Option.some.inj H
    refine qr_res (rs := [_]) rfl (fun w' hs => ⟨[.int .i64 (0 : Int)], (res_tmp (by kernel_rfl) (.nil)), (), rfl, hs.pick (ts := []) (cs := []) trivial (by decide)⟩)
  rintro f S ⟨fr1, rfl, rfl, H⟩
  replace H : (extent_Total.lo2 l0 k (0 : Int) (0 : Int)) = some r := H
  refine cs_seq ?_
  refine cs_region (l := [_]) ?_
  refine lv (.int .i64 (0 : Int)) ?_
  refine ls_end ?_
  refine qn_then ?_
  refine cs_seq ?_
  refine cs_seq ?_
  refine cs_region (l := [_, _, _]) ?_
  refine lv (.slice A0 l0.length c0) ?_
  refine lv (.int .i64 (l0.length : Int)) ?_
  refine lv (.int .i64 (0 : Int)) ?_
  refine ls_end ?_
  refine qn_then ?_
  refine cs_block ?_
  refine cs_sub (s0) (sub_nil _) ?_
  refine cs_loop (fun kk f S => ∃ (fR : Fr) (x3_2 : Int) (x11_2 : Int), f = upd (upd (upd (upd fR 3 (.int .i64 x3_2)) 9 (.slice A0 l0.length c0)) 10 (.int .i64 (l0.length : Int))) 11 (.int .i64 x11_2) ∧ S = s0 ∧ extent_Total.lo2 l0 kk x3_2 x11_2 = some r) k ?_ ?_ ?_
  · exact ⟨_, (0 : Int), (0 : Int), fr_next (fr_next (fr_next (fr_next (rfl) (by kernel_rfl)) (by kernel_rfl)) (by kernel_rfl)) (by kernel_rfl), rfl, H⟩
  · rintro f S ⟨fr2, x3_2, x11_2, rfl, rfl, H⟩; cases H
  rintro k2 f S ⟨fr2, x3_2, x11_2, rfl, rfl, H⟩
  replace H : ((if x11_2 < (l0.length : Int) then (if 0 ≤ x11_2 then lt (((l0).getD (x11_2).toNat ((0 : Int), (0 : Int))).2) fun y6 => lt (((l0).getD (x11_2).toNat ((0 : Int), (0 : Int))).1) fun y8 => lt (IntKind.wrap .i64 (x3_2 + (IntKind.wrap .i64 (y6 - y8)))) fun y10 => (extent_Total.lo2 l0 k2) y10 (IntKind.wrap .i64 (x11_2 + (1 : Int))) else none) else some x3_2)) = some r := H
  refine cs_seq ?_
  refine cs_region (l := [_]) ?_
  refine lv (.bool (decide (x11_2 < (l0.length : Int)))) ?_
  refine ls_end ?_
  refine qn_then ?_
  refine cs_seq ?_
  by_cases q1 : x11_2 < (l0.length : Int)
  · replace H := ite_t q1 H
    refine cs_know (c := true) (dec_t q1) 12 (by kernel_rfl) ?_
    refine cs_true (by kernel_rfl) ?_
    refine cs_skip' ?_
    refine qn_then ?_
    refine cs_seq ?_
    refine cs_block ?_
    refine cs_seq ?_
    refine cs_region (l := [_, _, _, _]) ?_
    obtain ⟨q2, H⟩ := ite_need H
    obtain ⟨ad3, hA4⟩ := ido_at (T := T24) (l := l0) (i := x11_2) R0 q2 q1
    refine ls_idxv T24 (A := A0) (c := c0) (l := l0) (k := .i64) (i := x11_2) (z := 2) (ad := ad3) rfl rfl (by kernel_rfl) hA4 rfl (by kernel_rfl) (by kernel_rfl) (by kernel_rfl) (by kernel_rfl) q2 q1 ?_
    refine ls_loadagg (a := (ad3.add ((x11_2).toNat * 2))) (sub := ([Value.int .i64 (((l0).getD (x11_2).toNat ((0 : Int), (0 : Int))).1)] ++ [Value.int .i64 (((l0).getD (x11_2).toNat ((0 : Int), (0 : Int))).2)])) rfl rfl (by kernel_rfl) rfl (by kernel_rfl) (by kernel_rfl) (by kernel_rfl) (len_app (len1 _) (len1 _)) (fun w hs => (hs.old R0).part hA4 (em_sub T24 l0 (i := (x11_2).toNat) (by have h0 : (0 : Int) ≤ x11_2 := q2; have h1 : x11_2 < (l0.length : Int) := q1; omega))) ?_
    refine ls_new rfl rfl (by kernel_rfl) 0 (fun g => .pointer (some ⟨g, 0, none⟩)) (.cells ⟨([Value.int .i64 (0 : Int)] ++ [Value.int .i64 (0 : Int)])⟩ 24) (fun w => by kernel_rfl) ?_
    intro g5
    refine ls_storec (g := g5) (off := 0) (v := .agg ⟨([Value.int .i64 (((l0).getD (x11_2).toNat ((0 : Int), (0 : Int))).1)] ++ [Value.int .i64 (((l0).getD (x11_2).toNat ((0 : Int), (0 : Int))).2)])⟩) (vs := ([Value.int .i64 (((l0).getD (x11_2).toNat ((0 : Int), (0 : Int))).1)] ++ [Value.int .i64 (((l0).getD (x11_2).toNat ((0 : Int), (0 : Int))).2)])) (cs := ([Value.int .i64 (0 : Int)] ++ [Value.int .i64 (0 : Int)])) (ty := 24) 0 rfl rfl rfl (by kernel_rfl) (by kernel_rfl) (by kernel_rfl) (by exact rfl) (by kernel_rfl) (len_app (len1 _) (len1 _)) (one_app (one_cons rfl one_nil) (one_cons rfl one_nil)) (hl_of (Sub4.all _) (len_eq (len_app (len1 _) (len1 _)) (len_app (len1 _) (len1 _)))) (cs' := ([Value.int .i64 (((l0).getD (x11_2).toNat ((0 : Int), (0 : Int))).1)] ++ [Value.int .i64 (((l0).getD (x11_2).toNat ((0 : Int), (0 : Int))).2)])) (splc_all (len_eq (len_app (len1 _) (len1 _)) (len_app (len1 _) (len1 _)))) ?_
    refine ls_end ?_
    refine qn_then ?_
    refine cs_region (l := [_, _, _, _, _, _, _, _]) ?_
    refine lv (.int .i64 x3_2) ?_
    refine lv (.pointer (some ⟨g5, (0 + 1), none⟩)) ?_
    obtain ⟨y6, hy7, H⟩ := lt_some H
    refine ls_load (a0 := ⟨g5, (0 + 1), none⟩) (v := .int .i64 (((l0).getD (x11_2).toNat ((0 : Int), (0 : Int))).2)) (de := (TypeDesc.int .i64)) rfl rfl (by kernel_rfl) rfl (by kernel_rfl) (by kernel_rfl) (by kernel_rfl) (fun w hs => (hs.var (k := 0) (by exact rfl) (Sub4.trans (Sub4.all _) (Sub4.skip (n := 1) (len1 _) (Sub4.all _))))) ?_
    refine ls_ren 17 (v := .int .i64 (((l0).getD (x11_2).toNat ((0 : Int), (0 : Int))).2)) (v' := .int .i64 y6) (by kernel_rfl) (by rw [hy7]) ?_
    refine lv (.pointer (some ⟨g5, (0 + 0), none⟩)) ?_
    obtain ⟨y8, hy9, H⟩ := lt_some H
    refine ls_load (a0 := ⟨g5, (0 + 0), none⟩) (v := .int .i64 (((l0).getD (x11_2).toNat ((0 : Int), (0 : Int))).1)) (de := (TypeDesc.int .i64)) rfl rfl (by kernel_rfl) rfl (by kernel_rfl) (by kernel_rfl) (by kernel_rfl) (fun w hs => (hs.var (k := 0) (by exact rfl) (Sub4.trans (Sub4.all _) (Sub4.head _ _)))) ?_
    refine ls_ren 19 (v := .int .i64 (((l0).getD (x11_2).toNat ((0 : Int), (0 : Int))).1)) (v' := .int .i64 y8) (by kernel_rfl) (by rw [hy9]) ?_
    refine lv (.int .i64 (IntKind.wrap .i64 (y6 - y8))) ?_
    obtain ⟨y10, hy11, H⟩ := lt_some H
    refine lv (.int .i64 (IntKind.wrap .i64 (x3_2 + (IntKind.wrap .i64 (y6 - y8))))) ?_
    refine ls_ren 21 (v := .int .i64 (IntKind.wrap .i64 (x3_2 + (IntKind.wrap .i64 (y6 - y8))))) (v' := .int .i64 y10) (by kernel_rfl) (by rw [hy11]) ?_
    refine lv (.int .i64 y10) ?_
    refine ls_end ?_
    refine qn_block ?_
    refine qn_then ?_
    refine cs_region (l := [_, _]) ?_
    refine lv (.int .i64 (IntKind.wrap .i64 (x11_2 + (1 : Int)))) ?_
    refine lv (.int .i64 (IntKind.wrap .i64 (x11_2 + (1 : Int)))) ?_
    refine ls_end ?_
    refine qn_again k2 (s0) (Nat.le_refl _) ⟨_, y10, (IntKind.wrap .i64 (x11_2 + (1 : Int))), fr_next (fr_next (fr_next (fr_next (rfl) (by kernel_rfl)) (by kernel_rfl)) (by kernel_rfl)) (by kernel_rfl), rfl, H⟩ (sub_nil _)
  replace H := ite_f q1 H
  refine cs_know (c := false) (dec_f q1) 12 (by kernel_rfl) ?_
  refine cs_false (by kernel_rfl) ?_
  refine cs_exit' ?_
  refine qx_then ?_
  refine qx_then ?_
  refine qx_same ?_
  refine qn_then ?_
  refine cs_seq ?_
  refine cs_region (l := [_, _]) ?_
  refine lv (.int .i64 x3_2) ?_
  refine lv (.int .i64 x3_2) ?_
  refine ls_end ?_
  refine qn_then ?_
  refine cs_ret' ?_
  obtain rfl := Option.some.inj H
  refine qr_res (rs := [_]) rfl (fun w' hs => ⟨[.int .i64 x3_2], (res_tmp (by kernel_rfl) (.nil)), (), rfl, hs.pick (ts := []) (cs := []) trivial (by decide)⟩)

/-! ### shadowbox/extent.Remove: function 15 -/
def extent_Remove.lo4 (l0 : List (Int × Int)) (a1 : (Int × Int)) (x6_2 : Int) (y10 : Int) (y12 : Int) (lo2 : Int → (List (Int × Int)) → Option ((List (Int × Int)))) : Nat → (List (Int × Int)) → Int → Option ((List (Int × Int)))
  | 0, _, _ => none
  | k4 + 1, l7_4, x58_4 => (if x58_4 < (2 : Int) then (if 0 ≤ x58_4 then (extent_Span_right.f k4 ((⟨[(y10, a1.1), (a1.2, y12)], rfl⟩ : (Vc (Int × Int) 2)).1.getD (x58_4).toNat ((0 : Int), (0 : Int)))).bind fun t17 => (if t17 = true then lt (((⟨[(y10, a1.1), (a1.2, y12)], rfl⟩ : (Vc (Int × Int) 2)).1.getD (x58_4).toNat ((0 : Int), (0 : Int))).1) fun y21 => lt (((l0).getD (x6_2).toNat ((0 : Int), (0 : Int))).1) fun y23 => (if y21 ≥ y23 then (if (l7_4.length + ([((⟨[(y10, a1.1), (a1.2, y12)], rfl⟩ : (Vc (Int × Int) 2)).1.getD (x58_4).toNat ((0 : Int), (0 : Int)))]).length) * 16 ≤ 140737488355328 then (extent_Remove.lo4 l0 a1 x6_2 y10 y12 lo2 k4) (l7_4 ++ [((⟨[(y10, a1.1), (a1.2, y12)], rfl⟩ : (Vc (Int × Int) 2)).1.getD (x58_4).toNat ((0 : Int), (0 : Int)))]) (IntKind.wrap .i64 (x58_4 + (1 : Int))) else none) else (extent_Remove.lo4 l0 a1 x6_2 y10 y12 lo2 k4) l7_4 (IntKind.wrap .i64 (x58_4 + (1 : Int)))) else (extent_Remove.lo4 l0 a1 x6_2 y10 y12 lo2 k4) l7_4 (IntKind.wrap .i64 (x58_4 + (1 : Int)))) else none) else lo2 (IntKind.wrap .i64 (x6_2 + (1 : Int))) l7_4)
def extent_Remove.jo3 (l0 : List (Int × Int)) (a1 : (Int × Int)) (x6_2 : Int) (l7_2 : List (Int × Int)) (k2 : Nat) (lo2 : Int → (List (Int × Int)) → Option ((List (Int × Int)))) : Option ((List (Int × Int))) := (if 0 ≤ x6_2 then (if x6_2 < (l0.length : Int) then lt (((l0).getD (x6_2).toNat ((0 : Int), (0 : Int))).1) fun y10 => lt (((l0).getD (x6_2).toNat ((0 : Int), (0 : Int))).2) fun y12 => extent_Remove.lo4 l0 a1 x6_2 y10 y12 lo2 k2 l7_2 (0 : Int) else none) else none)
def extent_Remove.tab29 : List (List Nat) := [[], [], [1], [0, 1, 2], [0, 1, 2, 3], [0, 1, 2, 3, 4], [0, 1, 2, 3, 4], [0, 1, 2, 3, 4, 5, 6], [0, 1, 2, 3, 4, 5, 6, 7], [0, 1, 2, 3, 4, 5, 6, 7, 8], [0, 1, 2, 3, 4], [0, 1, 2, 3, 4, 10], [0, 1, 2, 3, 4, 5, 6, 7, 8, 9, 10, 11], [0, 1, 2, 3, 4, 5, 6, 7, 8, 9, 10, 11, 12]]
def extent_Remove.lo2 (l0 : List (Int × Int)) (a1 : (Int × Int)) (t2 : Int) : Nat → Int → (List (Int × Int)) → Option ((List (Int × Int)))
  | 0, _, _ => none
  | k2 + 1, x6_2, l7_2 => (if x6_2 < (l0.length : Int) then (if 0 ≤ x6_2 then lt (((l0).getD (x6_2).toNat ((0 : Int), (0 : Int))).1) fun y36 => (if y36 < a1.2 then (extent_Remove.jo3 l0 a1 x6_2 l7_2 k2 (extent_Remove.lo2 l0 a1 t2 k2)) else (extent_replace_44.f k2 l0 t2 x6_2 l7_2).bind fun t39 => some t39) else none) else (extent_replace_44.f k2 l0 t2 x6_2 l7_2).bind fun t42 => some t42)
def extent_Remove.jo1 (k : Nat) (l0 : List (Int × Int)) (a1 : (Int × Int)) : Option ((List (Int × Int))) := (extent_first.f k l0 (IntKind.wrap .i64 (a1.1 + (1 : Int)))).bind fun t2 => extent_Remove.lo2 l0 a1 t2 k t2 ([] : List (Int × Int))
def extent_Remove.f (k : Nat) (l0 : List (Int × Int)) (a1 : (Int × Int)) : Option ((List (Int × Int))) :=
  (extent_Valid.f k l0).bind fun t45 => (if t45 = true then (extent_Span_right.f k a1).bind fun t49 => (if t49 = true then (extent_Remove.jo1 k l0 a1) else (slices_Clone_43.f k l0).bind fun t53 => some t53) else (slices_Clone_43.f k l0).bind fun t56 => some t56)
set_option maxRecDepth 100000 in
set_option maxHeartbeats 4000000 in
theorem extent_Remove.calls (k : Nat) (A0 : Option Addr) (c0 : Nat) (l0 : List (Int × Int)) (a1 : (Int × Int)) (r : (List (Int × Int))) (b : Bs) (hs0 : St b (stl []) b.w) (R0 : Ro b A0 (em T24 l0)) (C0 : l0.length ≤ c0) (H : extent_Remove.f k l0 a1 = some r) :
    Calls Try.prog 15 #[.slice A0 l0.length c0, .agg ⟨([Value.int .i64 a1.1] ++ [Value.int .i64 a1.2])⟩] b.w fun e w' => ∃ x : (Option Addr × Nat), e = .returned (.slice x.1 r.length x.2) ∧ St b (stl [Ck.sl T24 x.1 x.2 r]) w' := by
  unfold extent_Remove.f at H
  refine enterb (n := 80) Try.func15 rfl (by kernel_rfl) (by kernel_rfl) hs0 ?_
  refine cs_sub (s0) (sub_nil _) ?_
  refine cs_seq ?_
  refine cs_region (l := [_, _]) ?_
  refine ls_new rfl rfl (by kernel_rfl) 0 (fun g => .pointer (some ⟨g, 0, none⟩)) (.cells ⟨([Value.int .i64 a1.1] ++ [Value.int .i64 a1.2])⟩ 24) (fun w => by kernel_rfl) ?_
  intro g1
  refine lv (.slice none 0 0) ?_
  refine ls_end ?_
  refine qn_then ?_
  refine cs_cut (fun f S => ∃ (fR : Fr), f = upd (upd fR 0 (.slice A0 l0.length c0)) 3 (.pointer (some ⟨g1, 0, none⟩)) ∧ S = sput s0 0 (some (Ck.var 24 g1 (([Value.int .i64 a1.1] ++ [Value.int .i64 a1.2])))) ∧ extent_Remove.jo1 k l0 a1 = some r) ?_ ?_
  · skip
    refine cs_seq ?_
    refine cs_region (l := [_, _, _, _, _, _, _, _]) ?_
    refine lv (.slice A0 l0.length c0) ?_
    obtain ⟨t45, hc46, H⟩ := bind_some H
    refine ls_callb (fid := 10) (vals := #[.slice A0 l0.length c0]) (X := Unit) (fun x => .bool t45) (fun x => stl []) [] [] [] [] 1 rfl rfl (by kernel_rfl) (fun w => by kernel_rfl) trivial trivial (by decide) (fun w hs hb => extent_Valid.calls k A0 c0 l0 t45 (lent b w [] []) hb (hs.ro R0 _ _) C0 hc46) ?_
    intro x47
    refine lv (.bool (!t45)) ?_
    refine lv (.bool (!t45)) ?_
    by_cases q48 : t45 = true
    · replace H := ite_t q48 H
      refine ls_know (c := false) (congrArg Bool.not (q48)) 14 (by kernel_rfl) ?_
      refine ls_on (j := 3) (t := 14) (b := false) rfl rfl (by kernel_rfl) (by kernel_rfl) ?_
      refine ls_loadagg (a := ⟨g1, 0, none⟩) (sub := ([Value.int .i64 a1.1] ++ [Value.int .i64 a1.2])) rfl rfl (by kernel_rfl) rfl (by kernel_rfl) (by kernel_rfl) (by kernel_rfl) (len_app (len1 _) (len1 _)) (fun w hs => (hs.vars (k := 0) (by exact rfl) (Sub4.all _))) ?_
      refine ls_on (j := 3) (t := 14) (b := false) rfl rfl (by kernel_rfl) (by kernel_rfl) ?_
      obtain ⟨t49, hc50, H⟩ := bind_some H
      refine ls_callb (fid := 41) (vals := #[.agg ⟨([Value.int .i64 a1.1] ++ [Value.int .i64 a1.2])⟩]) (X := Unit) (fun x => .bool t49) (fun x => stl []) [] [] [] [] 1 rfl rfl (by kernel_rfl) (fun w => by kernel_rfl) trivial trivial (by decide) (fun w hs hb => extent_Span_right.calls k a1 t49 (lent b w [] []) hb  hc50) ?_
      intro x51
      refine ls_on (j := 3) (t := 14) (b := false) rfl rfl (by kernel_rfl) (by kernel_rfl) ?_
      refine lv (.bool (!t49)) ?_
      refine lv (.bool (!t49)) ?_
      refine ls_end ?_
      refine qn_then ?_
      by_cases q52 : t49 = true
      · replace H := ite_t q52 H
        refine cs_know (c := false) (congrArg Bool.not (q52)) 18 (by kernel_rfl) ?_
        refine cs_false (by kernel_rfl) ?_
        refine cs_skip' ?_
        refine qn_meet (sput s0 0 (some (Ck.var 24 g1 (([Value.int .i64 a1.1] ++ [Value.int .i64 a1.2]))))) ⟨_, fr_next (fr_next (rfl) (by kernel_rfl)) (by kernel_rfl), rfl, H⟩ (sub_put (by exact rfl) (sub_nil _))
      replace H := ite_f q52 H
      refine cs_know (c := true) (congrArg Bool.not (Bool.eq_false_iff.mpr q52)) 18 (by kernel_rfl) ?_
      refine cs_true (by kernel_rfl) ?_
      refine cs_seq ?_
      refine cs_region (l := [_, _, _]) ?_
      refine lv (.slice A0 l0.length c0) ?_
      obtain ⟨t53, hc54, H⟩ := bind_some H
      refine ls_callb (fid := 43) (vals := #[.slice A0 l0.length c0]) (X := (Option Addr × Nat)) (fun x => .slice x.1 t53.length x.2) (fun x => stl [Ck.sl T24 x.1 x.2 t53]) [] [] [] [] 1 rfl rfl (by kernel_rfl) (fun w => by kernel_rfl) trivial trivial (by decide) (fun w hs hb => slices_Clone_43.calls k A0 c0 l0 t53 (lent b w [] []) hb (hs.ro R0 _ _) C0 hc54) ?_
      intro x55
      refine lv (.slice x55.1 t53.length x55.2) ?_
      refine ls_end ?_
      refine qn_then ?_
      refine cs_ret' ?_
      refine qr_then ?_
      obtain rfl := Option.some.inj H
      refine qr_res (rs := [_]) rfl (fun w' hs => ⟨[.slice x55.1 t53.length x55.2], (res_tmp (by kernel_rfl) (.nil)), (x55.1, x55.2), rfl, hs.pick (ts := [1]) (cs := [Ck.sl T24 x55.1 x55.2 t53]) ⟨by exact rfl, trivial⟩ (by decide)⟩)
    replace H := ite_f q48 H
    refine ls_know (c := true) (congrArg Bool.not (Bool.eq_false_iff.mpr q48)) 14 (by kernel_rfl) ?_
    refine lofx 3 14 false true ?_
    refine lofx 3 14 false true ?_
    refine lofx 3 14 false true ?_
    refine lv (.bool true) ?_
    refine ls_end ?_
    refine qn_then ?_
    refine cs_true (by kernel_rfl) ?_
    refine cs_seq ?_
    refine cs_region (l := [_, _, _]) ?_
    refine lv (.slice A0 l0.length c0) ?_
    obtain ⟨t56, hc57, H⟩ := bind_some H
    refine ls_callb (fid := 43) (vals := #[.slice A0 l0.length c0]) (X := (Option Addr × Nat)) (fun x => .slice x.1 t56.length x.2) (fun x => stl [Ck.sl T24 x.1 x.2 t56]) [] [] [] [] 1 rfl rfl (by kernel_rfl) (fun w => by kernel_rfl) trivial trivial (by decide) (fun w hs hb => slices_Clone_43.calls k A0 c0 l0 t56 (lent b w [] []) hb (hs.ro R0 _ _) C0 hc57) ?_
    intro x58
    refine lv (.slice x58.1 t56.length x58.2) ?_
    refine ls_end ?_
    refine qn_then ?_
    refine cs_ret' ?_
    refine qr_then ?_
    obtain rfl := Option.some.inj H
    refine qr_res (rs := [_]) rfl (fun w' hs => ⟨[.slice x58.1 t56.length x58.2], (res_tmp (by kernel_rfl) (.nil)), (x58.1, x58.2), rfl, hs.pick (ts := [1]) (cs := [Ck.sl T24 x58.1 x58.2 t56]) ⟨by exact rfl, trivial⟩ (by decide)⟩)
  rintro f S ⟨fr1, rfl, rfl, H⟩
  replace H : ((extent_first.f k l0 (IntKind.wrap .i64 (a1.1 + (1 : Int)))).bind fun t2 => extent_Remove.lo2 l0 a1 t2 k t2 ([] : List (Int × Int))) = some r := H
  refine cs_seq ?_
  refine cs_region (l := [_, _, _, _, _, _]) ?_
  refine lv (.slice A0 l0.length c0) ?_
  refine lv (.pointer (some ⟨g1, (0 + 0), none⟩)) ?_
  refine ls_load (a0 := ⟨g1, (0 + 0), none⟩) (v := .int .i64 a1.1) (de := (TypeDesc.int .i64)) rfl rfl (by kernel_rfl) rfl (by kernel_rfl) (by kernel_rfl) (by kernel_rfl) (fun w hs => (hs.var (k := 0) (by exact rfl) (Sub4.trans (Sub4.all _) (Sub4.head _ _)))) ?_
  refine lv (.int .i64 (IntKind.wrap .i64 (a1.1 + (1 : Int)))) ?_
  obtain ⟨t2, hc3, H⟩ := bind_some H
  refine ls_callb (fid := 42) (vals := #[.slice A0 l0.length c0, .int .i64 (IntKind.wrap .i64 (a1.1 + (1 : Int)))]) (X := Unit) (fun x => .int .i64 t2) (fun x => stl []) [] [] [] [] 1 rfl rfl (by kernel_rfl) (fun w => by kernel_rfl) trivial trivial (by decide) (fun w hs hb => extent_first.calls k A0 c0 l0 (IntKind.wrap .i64 (a1.1 + (1 : Int))) t2 (lent b w [] []) hb (hs.ro R0 _ _) C0 hc3) ?_
  intro x4
  refine lv (.int .i64 t2) ?_
  refine ls_end ?_
  refine qn_then ?_
  refine cs_seq ?_
  refine cs_region (l := [_, _]) ?_
  refine lv (.int .i64 t2) ?_
  refine lv (.int .i64 t2) ?_
  refine ls_end ?_
  refine qn_then ?_
  refine cs_seq ?_
  refine cs_region (l := [_]) ?_
  refine lv (.slice none 0 0) ?_
  refine ls_end ?_
  refine qn_then ?_
  refine cs_seq ?_
  refine cs_block ?_
  refine cs_nilrow 1 T24 ?_
  refine cs_sub (sput (sput s0 0 (some (Ck.var 24 g1 (([Value.int .i64 a1.1] ++ [Value.int .i64 a1.2]))))) 1 (some (Ck.sl T24 none 0 ([] : List (Int × Int))))) (sub_put (by exact rfl) (sub_put (by exact rfl) (sub_nil _))) ?_
  refine cs_loop (fun kk f S => ∃ (fR : Fr) (x6_2 : Int) (A7_2 : Option Addr) (c7_2 : Nat) (l7_2 : List (Int × Int)), f = upd (upd (upd (upd (upd fR 0 (.slice A0 l0.length c0)) 3 (.pointer (some ⟨g1, 0, none⟩))) 5 (.int .i64 t2)) 6 (.int .i64 x6_2)) 7 (.slice A7_2 l7_2.length c7_2) ∧ S = sput (sput s0 0 (some (Ck.var 24 g1 (([Value.int .i64 a1.1] ++ [Value.int .i64 a1.2]))))) 1 (some (Ck.sl T24 A7_2 c7_2 l7_2)) ∧ extent_Remove.lo2 l0 a1 t2 kk x6_2 l7_2 = some r) k ?_ ?_ ?_
  · exact ⟨_, t2, none, 0, ([] : List (Int × Int)), fr_next (fr_next (fr_next (fr_next (fr_next (rfl) (by kernel_rfl)) (by kernel_rfl)) (by kernel_rfl)) (by kernel_rfl)) (by kernel_rfl), rfl, H⟩
  · rintro f S ⟨fr2, x6_2, A7_2, c7_2, l7_2, rfl, rfl, H⟩; cases H
  rintro k2 f S ⟨fr2, x6_2, A7_2, c7_2, l7_2, rfl, rfl, H⟩
  replace H : ((if x6_2 < (l0.length : Int) then (if 0 ≤ x6_2 then lt (((l0).getD (x6_2).toNat ((0 : Int), (0 : Int))).1) fun y36 => (if y36 < a1.2 then (extent_Remove.jo3 l0 a1 x6_2 l7_2 k2 (extent_Remove.lo2 l0 a1 t2 k2)) else (extent_replace_44.f k2 l0 t2 x6_2 l7_2).bind fun t39 => some t39) else none) else (extent_replace_44.f k2 l0 t2 x6_2 l7_2).bind fun t42 => some t42)) = some r := H
  refine cs_cut (fun f S => ∃ (fR : Fr), f = upd (upd (upd (upd (upd fR 0 (.slice A0 l0.length c0)) 3 (.pointer (some ⟨g1, 0, none⟩))) 5 (.int .i64 t2)) 6 (.int .i64 x6_2)) 7 (.slice A7_2 l7_2.length c7_2) ∧ S = sput (sput s0 0 (some (Ck.var 24 g1 (([Value.int .i64 a1.1] ++ [Value.int .i64 a1.2]))))) 1 (some (Ck.sl T24 A7_2 c7_2 l7_2)) ∧ extent_Remove.jo3 l0 a1 x6_2 l7_2 k2 (extent_Remove.lo2 l0 a1 t2 k2) = some r) ?_ ?_
  · skip
    refine cs_seq ?_
    obtain ⟨s31_0, hs31_0⟩ := exv (.int .i64 x6_2)
    refine have_opa extent_Remove.tab29 2 0 (fun sp => sp 0 = s31_0) (fun sp on hA hon => ?_) (fun ops31_0 => ?_)
    · refine ⟨fun o ho vs Rs f' S' w hp hf hx hS hR hs => ?_⟩
      obtain rfl := Option.some.inj ho
      exact opv (.int .i64 x6_2) hA hs31_0 hon (fr_next (rfl) ((hx 6 (by kernel_rfl)).trans (by kernel_rfl : (_ : Value) = .int .i64 x6_2)))
    obtain ⟨s31_1, hs31_1⟩ := exv (.slice A0 l0.length c0)
    refine have_opa extent_Remove.tab29 2 1 (fun sp => sp 1 = s31_1) (fun sp on hA hon => ?_) (fun ops31_1 => ?_)
    · refine ⟨fun o ho vs Rs f' S' w hp hf hx hS hR hs => ?_⟩
      obtain rfl := Option.some.inj ho
      exact opv (.slice A0 l0.length c0) hA hs31_1 hon (fr_next (rfl) ((hx 0 (by kernel_rfl)).trans (by kernel_rfl : (_ : Value) = .slice A0 l0.length c0)))
    obtain ⟨s31_2, hs31_2⟩ := exv (.int .i64 (l0.length : Int))
    refine have_opa extent_Remove.tab29 2 2 (fun sp => sp 2 = s31_2 ∧ sp 1 = s31_1) (fun sp on hA hon => ?_) (fun ops31_2 => ?_)
    · refine ⟨fun o ho vs Rs f' S' w hp hf hx hS hR hs => ?_⟩
      obtain rfl := Option.some.inj ho
      obtain ⟨hv1, hR1⟩ := (spe hA.2 hs31_1 (hp 1 (by kernel_rfl)))
      exact opv (.int .i64 (l0.length : Int)) hA.1 hs31_2 hon (fr_next (rfl) ((hf 1 28 (by kernel_rfl) rfl).trans hv1))
    obtain ⟨s31_3, hs31_3⟩ := exv (.bool (decide (x6_2 < (l0.length : Int))))
    refine have_opa extent_Remove.tab29 2 3 (fun sp => sp 3 = s31_3 ∧ sp 0 = s31_0 ∧ sp 2 = s31_2) (fun sp on hA hon => ?_) (fun ops31_3 => ?_)
    · refine ⟨fun o ho vs Rs f' S' w hp hf hx hS hR hs => ?_⟩
      obtain rfl := Option.some.inj ho
      obtain ⟨hv0, hR0⟩ := (spe hA.2.1 hs31_0 (hp 0 (by kernel_rfl)))
      obtain ⟨hv2, hR2⟩ := (spe hA.2.2 hs31_2 (hp 2 (by kernel_rfl)))
      exact opv (.bool (decide (x6_2 < (l0.length : Int)))) hA.1 hs31_3 hon (fr_next (fr_next (rfl) ((hf 0 27 (by kernel_rfl) rfl).trans hv0)) ((hf 2 29 (by kernel_rfl) rfl).trans hv2))
    obtain ⟨s31_4, hs31_4⟩ := exv (.bool (decide (x6_2 < (l0.length : Int))))
    refine have_opa extent_Remove.tab29 2 4 (fun sp => sp 4 = s31_4 ∧ sp 3 = s31_3) (fun sp on hA hon => ?_) (fun ops31_4 => ?_)
    · refine ⟨fun o ho vs Rs f' S' w hp hf hx hS hR hs => ?_⟩
      obtain rfl := Option.some.inj ho
      obtain ⟨hv3, hR3⟩ := (spe hA.2 hs31_3 (hp 3 (by kernel_rfl)))
      exact opv (.bool (decide (x6_2 < (l0.length : Int)))) hA.1 hs31_4 hon (fr_next (rfl) ((hf 3 30 (by kernel_rfl) rfl).trans hv3))
    by_cases q32 : x6_2 < (l0.length : Int)
    · replace H := ite_t q32 H
      obtain ⟨s31_5, hs31_5⟩ := exv (.slice A0 l0.length c0)
      refine have_opa extent_Remove.tab29 2 5 (fun sp => sp 5 = s31_5 ∧ sp 4 = s31_4) (fun sp on hA hon => ?_) (fun ops31_5 => ?_)
      · refine ⟨fun o ho vs Rs f' S' w hp hf hx hS hR hs => ?_⟩
        obtain rfl := Option.some.inj ho
        obtain ⟨hv4, hR4⟩ := (spe hA.2 hs31_4 (hp 4 (by kernel_rfl)))
        rw [hA.1, hs31_5]
        refine And.intro (fun a ha => (want_is (j := 4) (t := 31) (r := true) rfl rfl (by kernel_rfl) (((hf 4 31 (by kernel_rfl) rfl).trans hv4).trans (congrArg Value.bool (show (decide (x6_2 < (l0.length : Int))) = true from dec_t q32))) rfl a ha).trans hon.symm) (And.intro (fun _ => ?_) (fun h => by rw [hon] at h; cases h))
        have hF := fr_next (fr_next (rfl) ((hx 0 (by kernel_rfl)).trans (by kernel_rfl : (_ : Value) = .slice A0 l0.length c0))) (((hf 4 31 (by kernel_rfl) rfl).trans hv4).trans (congrArg Value.bool (show (decide (x6_2 < (l0.length : Int))) = true from dec_t q32)))
        refine ls_fr hF ?_
        refine lv (.slice A0 l0.length c0) ?_
        exact ls_fin s0 _ (congrArg (fun z => upd z 32 _) hF.symm) ⟨rfl, rfl⟩ (sub_nil _)
      obtain ⟨s31_6, hs31_6⟩ := exv (.int .i64 x6_2)
      refine have_opa extent_Remove.tab29 2 6 (fun sp => sp 6 = s31_6 ∧ sp 4 = s31_4) (fun sp on hA hon => ?_) (fun ops31_6 => ?_)
      · refine ⟨fun o ho vs Rs f' S' w hp hf hx hS hR hs => ?_⟩
        obtain rfl := Option.some.inj ho
        obtain ⟨hv4, hR4⟩ := (spe hA.2 hs31_4 (hp 4 (by kernel_rfl)))
        rw [hA.1, hs31_6]
        refine And.intro (fun a ha => (want_is (j := 4) (t := 31) (r := true) rfl rfl (by kernel_rfl) (((hf 4 31 (by kernel_rfl) rfl).trans hv4).trans (congrArg Value.bool (show (decide (x6_2 < (l0.length : Int))) = true from dec_t q32))) rfl a ha).trans hon.symm) (And.intro (fun _ => ?_) (fun h => by rw [hon] at h; cases h))
        have hF := fr_next (fr_next (rfl) ((hx 6 (by kernel_rfl)).trans (by kernel_rfl : (_ : Value) = .int .i64 x6_2))) (((hf 4 31 (by kernel_rfl) rfl).trans hv4).trans (congrArg Value.bool (show (decide (x6_2 < (l0.length : Int))) = true from dec_t q32)))
        refine ls_fr hF ?_
        refine lv (.int .i64 x6_2) ?_
        exact ls_fin s0 _ (congrArg (fun z => upd z 33 _) hF.symm) ⟨rfl, rfl⟩ (sub_nil _)
      obtain ⟨q33, H⟩ := ite_need H
      obtain ⟨ad34, hA35⟩ := ido_at (T := T24) (l := l0) (i := x6_2) R0 q33 q32
      obtain ⟨s31_7, hs31_7⟩ := exv (.pointer (some (ad34.add ((x6_2).toNat * 2))))
      refine have_opa extent_Remove.tab29 2 7 (fun sp => sp 7 = s31_7 ∧ sp 4 = s31_4 ∧ sp 5 = s31_5 ∧ sp 6 = s31_6) (fun sp on hA hon => ?_) (fun ops31_7 => ?_)
      · refine ⟨fun o ho vs Rs f' S' w hp hf hx hS hR hs => ?_⟩
        obtain rfl := Option.some.inj ho
        obtain ⟨hv4, hR4⟩ := (spe hA.2.1 hs31_4 (hp 4 (by kernel_rfl)))
        obtain ⟨hv5, hR5⟩ := (spe hA.2.2.1 hs31_5 (hp 5 (by kernel_rfl)))
        obtain ⟨hv6, hR6⟩ := (spe hA.2.2.2 hs31_6 (hp 6 (by kernel_rfl)))
        rw [hA.1, hs31_7]
        refine And.intro (fun a ha => (want_is (j := 4) (t := 31) (r := true) rfl rfl (by kernel_rfl) (((hf 4 31 (by kernel_rfl) rfl).trans hv4).trans (congrArg Value.bool (show (decide (x6_2 < (l0.length : Int))) = true from dec_t q32))) rfl a ha).trans hon.symm) (And.intro (fun _ => ?_) (fun h => by rw [hon] at h; cases h))
        have hF := fr_next (fr_next (fr_next (rfl) (((hf 4 31 (by kernel_rfl) rfl).trans hv4).trans (congrArg Value.bool (show (decide (x6_2 < (l0.length : Int))) = true from dec_t q32)))) ((hf 5 32 (by kernel_rfl) rfl).trans hv5)) ((hf 6 33 (by kernel_rfl) rfl).trans hv6)
        refine ls_fr hF ?_
        refine ls_idxv T24 (A := A0) (c := c0) (l := l0) (k := .i64) (i := x6_2) (z := 2) (ad := ad34) rfl rfl (by kernel_rfl) hA35 rfl (by kernel_rfl) (by kernel_rfl) (by kernel_rfl) (by kernel_rfl) q33 q32 ?_
        exact ls_fin s0 _ (congrArg (fun z => upd z 34 _) hF.symm) ⟨rfl, rfl⟩ (sub_nil _)
      obtain ⟨s31_8, hs31_8⟩ := exv (.pointer (some (ad34.add (((x6_2).toNat * 2) + 0))))
      refine have_opa extent_Remove.tab29 2 8 (fun sp => sp 8 = s31_8 ∧ sp 4 = s31_4 ∧ sp 7 = s31_7) (fun sp on hA hon => ?_) (fun ops31_8 => ?_)
      · refine ⟨fun o ho vs Rs f' S' w hp hf hx hS hR hs => ?_⟩
        obtain rfl := Option.some.inj ho
        obtain ⟨hv4, hR4⟩ := (spe hA.2.1 hs31_4 (hp 4 (by kernel_rfl)))
        obtain ⟨hv7, hR7⟩ := (spe hA.2.2 hs31_7 (hp 7 (by kernel_rfl)))
        rw [hA.1, hs31_8]
        refine And.intro (fun a ha => (want_is (j := 4) (t := 31) (r := true) rfl rfl (by kernel_rfl) (((hf 4 31 (by kernel_rfl) rfl).trans hv4).trans (congrArg Value.bool (show (decide (x6_2 < (l0.length : Int))) = true from dec_t q32))) rfl a ha).trans hon.symm) (And.intro (fun _ => ?_) (fun h => by rw [hon] at h; cases h))
        have hF := fr_next (fr_next (rfl) (((hf 4 31 (by kernel_rfl) rfl).trans hv4).trans (congrArg Value.bool (show (decide (x6_2 < (l0.length : Int))) = true from dec_t q32)))) ((hf 7 34 (by kernel_rfl) rfl).trans hv7)
        refine ls_fr hF ?_
        refine ls_fieldm (ad := ad34) (off := ((x6_2).toNat * 2)) rfl rfl (by kernel_rfl) 0 (fun w => by kernel_rfl) ?_
        exact ls_fin s0 _ (congrArg (fun z => upd z 35 _) hF.symm) ⟨rfl, rfl⟩ (sub_nil _)
      obtain ⟨y36, hy37, H⟩ := lt_some H
      obtain ⟨s31_9, hs31_9⟩ := exv (.int .i64 y36)
      refine have_opa extent_Remove.tab29 2 9 (fun sp => sp 9 = s31_9 ∧ sp 4 = s31_4 ∧ sp 8 = s31_8) (fun sp on hA hon => ?_) (fun ops31_9 => ?_)
      · refine ⟨fun o ho vs Rs f' S' w hp hf hx hS hR hs => ?_⟩
        obtain rfl := Option.some.inj ho
        obtain ⟨hv4, hR4⟩ := (spe hA.2.1 hs31_4 (hp 4 (by kernel_rfl)))
        obtain ⟨hv8, hR8⟩ := (spe hA.2.2 hs31_8 (hp 8 (by kernel_rfl)))
        rw [hA.1, hs31_9]
        refine And.intro (fun a ha => (want_is (j := 4) (t := 31) (r := true) rfl rfl (by kernel_rfl) (((hf 4 31 (by kernel_rfl) rfl).trans hv4).trans (congrArg Value.bool (show (decide (x6_2 < (l0.length : Int))) = true from dec_t q32))) rfl a ha).trans hon.symm) (And.intro (fun _ => ?_) (fun h => by rw [hon] at h; cases h))
        have hF := fr_next (fr_next (rfl) (((hf 4 31 (by kernel_rfl) rfl).trans hv4).trans (congrArg Value.bool (show (decide (x6_2 < (l0.length : Int))) = true from dec_t q32)))) ((hf 8 35 (by kernel_rfl) rfl).trans hv8)
        refine ls_fr hF ?_
        refine ls_load (a0 := (ad34.add (((x6_2).toNat * 2) + 0))) (v := .int .i64 (((l0).getD (x6_2).toNat ((0 : Int), (0 : Int))).1)) (de := (TypeDesc.int .i64)) rfl rfl (by kernel_rfl) rfl (by kernel_rfl) (by kernel_rfl) (by kernel_rfl) (fun w1 hs1 => (Rd.step (hs.old R0) hs1.below.bw).at hA35 (Sub4.trans (em_sub T24 l0 (i := (x6_2).toNat) (by have h0 : (0 : Int) ≤ x6_2 := q33; have h1 : x6_2 < (l0.length : Int) := q32; omega)) (Sub4.head _ _))) ?_
        refine ls_ren 36 (v := .int .i64 (((l0).getD (x6_2).toNat ((0 : Int), (0 : Int))).1)) (v' := .int .i64 y36) (by kernel_rfl) (by rw [hy37]) ?_
        exact ls_fin s0 _ ((upd_upd _ _ _ _).trans (congrArg (fun z => upd z 36 _) hF.symm)) ⟨rfl, rfl⟩ (sub_nil _)
      obtain ⟨s31_10, hs31_10⟩ := exv (.pointer (some ⟨g1, (0 + 1), none⟩))
      refine have_opa extent_Remove.tab29 2 10 (fun sp => sp 10 = s31_10 ∧ sp 4 = s31_4) (fun sp on hA hon => ?_) (fun ops31_10 => ?_)
      · refine ⟨fun o ho vs Rs f' S' w hp hf hx hS hR hs => ?_⟩
        obtain rfl := Option.some.inj ho
        obtain ⟨hv4, hR4⟩ := (spe hA.2 hs31_4 (hp 4 (by kernel_rfl)))
        rw [hA.1, hs31_10]
        refine And.intro (fun a ha => (want_is (j := 4) (t := 31) (r := true) rfl rfl (by kernel_rfl) (((hf 4 31 (by kernel_rfl) rfl).trans hv4).trans (congrArg Value.bool (show (decide (x6_2 < (l0.length : Int))) = true from dec_t q32))) rfl a ha).trans hon.symm) (And.intro (fun _ => ?_) (fun h => by rw [hon] at h; cases h))
        have hF := fr_next (fr_next (rfl) ((hx 3 (by kernel_rfl)).trans (by kernel_rfl : (_ : Value) = .pointer (some ⟨g1, 0, none⟩)))) (((hf 4 31 (by kernel_rfl) rfl).trans hv4).trans (congrArg Value.bool (show (decide (x6_2 < (l0.length : Int))) = true from dec_t q32)))
        refine ls_fr hF ?_
        refine lv (.pointer (some ⟨g1, (0 + 1), none⟩)) ?_
        exact ls_fin s0 _ (congrArg (fun z => upd z 37 _) hF.symm) ⟨rfl, rfl⟩ (sub_nil _)
      obtain ⟨s31_11, hs31_11⟩ := exv (.int .i64 a1.2)
      refine have_opa extent_Remove.tab29 2 11 (fun sp => sp 11 = s31_11 ∧ sp 4 = s31_4 ∧ sp 10 = s31_10) (fun sp on hA hon => ?_) (fun ops31_11 => ?_)
      · refine ⟨fun o ho vs Rs f' S' w hp hf hx hS hR hs => ?_⟩
        obtain rfl := Option.some.inj ho
        obtain ⟨hv4, hR4⟩ := (spe hA.2.1 hs31_4 (hp 4 (by kernel_rfl)))
        obtain ⟨hv10, hR10⟩ := (spe hA.2.2 hs31_10 (hp 10 (by kernel_rfl)))
        rw [hA.1, hs31_11]
        refine And.intro (fun a ha => (want_is (j := 4) (t := 31) (r := true) rfl rfl (by kernel_rfl) (((hf 4 31 (by kernel_rfl) rfl).trans hv4).trans (congrArg Value.bool (show (decide (x6_2 < (l0.length : Int))) = true from dec_t q32))) rfl a ha).trans hon.symm) (And.intro (fun _ => ?_) (fun h => by rw [hon] at h; cases h))
        have hF := fr_next (fr_next (rfl) (((hf 4 31 (by kernel_rfl) rfl).trans hv4).trans (congrArg Value.bool (show (decide (x6_2 < (l0.length : Int))) = true from dec_t q32)))) ((hf 10 37 (by kernel_rfl) rfl).trans hv10)
        refine ls_fr hF ?_
        refine ls_load (a0 := ⟨g1, (0 + 1), none⟩) (v := .int .i64 a1.2) (de := (TypeDesc.int .i64)) rfl rfl (by kernel_rfl) rfl (by kernel_rfl) (by kernel_rfl) (by kernel_rfl) (fun w1 hs1 => cell_step hs1.below.bw (hs.var (k := 0) ((hS 0 (by kernel_rfl)).trans (by exact rfl)) (Sub4.trans (Sub4.all _) (Sub4.skip (n := 1) (len1 _) (Sub4.all _))))) ?_
        exact ls_fin s0 _ (congrArg (fun z => upd z 38 _) hF.symm) ⟨rfl, rfl⟩ (sub_nil _)
      refine cs_draw extent_Remove.tab29 12 2 (spl [s31_0, s31_1, s31_2, s31_3, s31_4, s31_5, s31_6, s31_7, s31_8, s31_9, s31_10, s31_11]) (onl [true, true, true, true, true, true, true, true, true, true, true, true]) (by kernel_rfl) (by kernel_rfl) (by kernel_rfl) (by kernel_rfl) (rs := [_, _]) rfl (by kernel_rfl) (by kernel_rfl) (all_snoc (all_snoc (all_snoc (all_snoc (all_snoc (all_snoc (all_snoc (all_snoc (all_snoc (all_snoc (all_snoc (all_snoc (all_nil) (ops31_0 _ _ rfl rfl)) (ops31_1 _ _ rfl rfl)) (ops31_2 _ _ ⟨rfl, rfl⟩ rfl)) (ops31_3 _ _ ⟨rfl, rfl, rfl⟩ rfl)) (ops31_4 _ _ ⟨rfl, rfl⟩ rfl)) (ops31_5 _ _ ⟨rfl, rfl⟩ rfl)) (ops31_6 _ _ ⟨rfl, rfl⟩ rfl)) (ops31_7 _ _ ⟨rfl, rfl, rfl, rfl⟩ rfl)) (ops31_8 _ _ ⟨rfl, rfl, rfl⟩ rfl)) (ops31_9 _ _ ⟨rfl, rfl, rfl⟩ rfl)) (ops31_10 _ _ ⟨rfl, rfl⟩ rfl)) (ops31_11 _ _ ⟨rfl, rfl, rfl⟩ rfl)) ?_
      intro vs Rs f' S' hp hf hx hS hR
      obtain ⟨hv4, hR4⟩ := (spe rfl hs31_4 (hp 4 (by kernel_rfl)))
      obtain ⟨hv9, hR9⟩ := (spe rfl hs31_9 (hp 9 (by kernel_rfl)))
      obtain ⟨hv11, hR11⟩ := (spe rfl hs31_11 (hp 11 (by kernel_rfl)))
      refine ls_fr (F := upd (upd (upd (upd (upd (upd (upd (upd f' 0 (.slice A0 l0.length c0)) 3 (.pointer (some ⟨g1, 0, none⟩))) 5 (.int .i64 t2)) 6 (.int .i64 x6_2)) 7 (.slice A7_2 l7_2.length c7_2)) 31 (.bool (decide (x6_2 < (l0.length : Int))))) 36 (.int .i64 y36)) 38 (.int .i64 a1.2)) (fr_next (fr_next (fr_next (fr_next (fr_next (fr_next (fr_next (fr_next (rfl) ((hx 0 (by kernel_rfl)).trans (by kernel_rfl : (_ : Value) = .slice A0 l0.length c0))) ((hx 3 (by kernel_rfl)).trans (by kernel_rfl : (_ : Value) = .pointer (some ⟨g1, 0, none⟩)))) ((hx 5 (by kernel_rfl)).trans (by kernel_rfl : (_ : Value) = .int .i64 t2))) ((hx 6 (by kernel_rfl)).trans (by kernel_rfl : (_ : Value) = .int .i64 x6_2))) ((hx 7 (by kernel_rfl)).trans (by kernel_rfl : (_ : Value) = .slice A7_2 l7_2.length c7_2))) ((hf 4 31 (by kernel_rfl) rfl).trans hv4)) ((hf 9 36 (by kernel_rfl) rfl).trans hv9)) ((hf 11 38 (by kernel_rfl) rfl).trans hv11)) ?_
      refine ls_sub (sput (sput s0 0 (some (Ck.var 24 g1 (([Value.int .i64 a1.1] ++ [Value.int .i64 a1.2]))))) 1 (some (Ck.sl T24 A7_2 c7_2 l7_2))) (sub_put ((hS 1 (by kernel_rfl)).trans (by exact rfl)) (sub_put ((hS 0 (by kernel_rfl)).trans (by exact rfl)) (sub_nil _))) ?_
      refine ls_know (c := true) (dec_t q32) 31 (by kernel_rfl) ?_
      refine ls_on (j := 4) (t := 31) (b := true) rfl rfl (by kernel_rfl) (by kernel_rfl) ?_
      refine lv (.bool (decide (y36 < a1.2))) ?_
      refine lv (.bool (decide (y36 < a1.2))) ?_
      refine ls_end ?_
      refine qn_then ?_
      by_cases q38 : y36 < a1.2
      · replace H := ite_t q38 H
        refine cs_know (c := true) (dec_t q38) 40 (by kernel_rfl) ?_
        refine cs_true (by kernel_rfl) ?_
        refine cs_skip' ?_
        refine qn_meet (sput (sput s0 0 (some (Ck.var 24 g1 (([Value.int .i64 a1.1] ++ [Value.int .i64 a1.2]))))) 1 (some (Ck.sl T24 A7_2 c7_2 l7_2))) ⟨_, fr_next (fr_next (fr_next (fr_next (fr_next (rfl) (by kernel_rfl)) (by kernel_rfl)) (by kernel_rfl)) (by kernel_rfl)) (by kernel_rfl), rfl, H⟩ (sub_put (by exact rfl) (sub_put (by exact rfl) (sub_nil _)))
      replace H := ite_f q38 H
      refine cs_know (c := false) (dec_f q38) 40 (by kernel_rfl) ?_
      refine cs_false (by kernel_rfl) ?_
      refine cs_exit' ?_
      refine qx_then ?_
      refine qx_then ?_
      refine qx_same ?_
      refine qn_then ?_
      refine cs_seq ?_
      refine cs_region (l := [_, _, _, _, _, _]) ?_
      refine lv (.slice A0 l0.length c0) ?_
      refine lv (.int .i64 t2) ?_
      refine lv (.int .i64 x6_2) ?_
      refine lv (.slice A7_2 l7_2.length c7_2) ?_
      obtain ⟨t39, hc40, H⟩ := bind_some H
      refine ls_callb (fid := 44) (vals := #[.slice A0 l0.length c0, .int .i64 t2, .int .i64 x6_2, .slice A7_2 l7_2.length c7_2]) (X := (Option Addr × Nat)) (fun x => .slice x.1 t39.length x.2) (fun x => stl [Ck.sl T24 x.1 x.2 t39]) [] [1] [] [Ck.sl T24 A7_2 c7_2 l7_2] 98 rfl rfl (by kernel_rfl) (fun w => by kernel_rfl) trivial ⟨by exact rfl, trivial⟩ (by decide) (fun w hs hb => extent_replace_44.calls k2 A0 c0 l0 t2 x6_2 A7_2 c7_2 l7_2 t39 (lent b w [] [Ck.sl T24 A7_2 c7_2 l7_2]) hb (hs.ro R0 _ _) C0 (hs.ror (k := 1) (by exact rfl) (.head _)) (hs.cap (k := 1) (by exact rfl)) hc40) ?_
      intro x41
      refine lv (.slice x41.1 t39.length x41.2) ?_
      refine ls_end ?_
      refine qn_then ?_
      refine cs_ret' ?_
      obtain rfl := Option.some.inj H
      refine qr_res (rs := [_]) rfl (fun w' hs => ⟨[.slice x41.1 t39.length x41.2], (res_tmp (by kernel_rfl) (.nil)), (x41.1, x41.2), rfl, hs.pick (ts := [98]) (cs := [Ck.sl T24 x41.1 x41.2 t39]) ⟨by exact rfl, trivial⟩ (by decide)⟩)
    replace H := ite_f q32 H
    refine cs_draw extent_Remove.tab29 12 2 (spl [s31_0, s31_1, s31_2, s31_3, s31_4, spu, spu, spu, spu, spu, spu, spu]) (onl [true, true, true, true, true, false, false, false, false, false, false, false]) (by kernel_rfl) (by kernel_rfl) (by kernel_rfl) (by kernel_rfl) (rs := [_, _]) rfl (by kernel_rfl) (by kernel_rfl) (all_snoc (all_snoc (all_snoc (all_snoc (all_snoc (all_snoc (all_snoc (all_snoc (all_snoc (all_snoc (all_snoc (all_snoc (all_nil) (ops31_0 _ _ rfl rfl)) (ops31_1 _ _ rfl rfl)) (ops31_2 _ _ ⟨rfl, rfl⟩ rfl)) (ops31_3 _ _ ⟨rfl, rfl, rfl⟩ rfl)) (ops31_4 _ _ ⟨rfl, rfl⟩ rfl)) (op_offi 5 4 31 true rfl rfl (by kernel_rfl) (by kernel_rfl) rfl (fun v R h => by rw [hs31_4] at h; obtain ⟨h, _⟩ := h; exact h.trans (congrArg Value.bool (show (decide (x6_2 < (l0.length : Int))) = false from dec_f q32))) rfl rfl)) (op_offi 6 4 31 true rfl rfl (by kernel_rfl) (by kernel_rfl) rfl (fun v R h => by rw [hs31_4] at h; obtain ⟨h, _⟩ := h; exact h.trans (congrArg Value.bool (show (decide (x6_2 < (l0.length : Int))) = false from dec_f q32))) rfl rfl)) (op_offi 7 4 31 true rfl rfl (by kernel_rfl) (by kernel_rfl) rfl (fun v R h => by rw [hs31_4] at h; obtain ⟨h, _⟩ := h; exact h.trans (congrArg Value.bool (show (decide (x6_2 < (l0.length : Int))) = false from dec_f q32))) rfl rfl)) (op_offi 8 4 31 true rfl rfl (by kernel_rfl) (by kernel_rfl) rfl (fun v R h => by rw [hs31_4] at h; obtain ⟨h, _⟩ := h; exact h.trans (congrArg Value.bool (show (decide (x6_2 < (l0.length : Int))) = false from dec_f q32))) rfl rfl)) (op_offi 9 4 31 true rfl rfl (by kernel_rfl) (by kernel_rfl) rfl (fun v R h => by rw [hs31_4] at h; obtain ⟨h, _⟩ := h; exact h.trans (congrArg Value.bool (show (decide (x6_2 < (l0.length : Int))) = false from dec_f q32))) rfl rfl)) (op_offi 10 4 31 true rfl rfl (by kernel_rfl) (by kernel_rfl) rfl (fun v R h => by rw [hs31_4] at h; obtain ⟨h, _⟩ := h; exact h.trans (congrArg Value.bool (show (decide (x6_2 < (l0.length : Int))) = false from dec_f q32))) rfl rfl)) (op_offi 11 4 31 true rfl rfl (by kernel_rfl) (by kernel_rfl) rfl (fun v R h => by rw [hs31_4] at h; obtain ⟨h, _⟩ := h; exact h.trans (congrArg Value.bool (show (decide (x6_2 < (l0.length : Int))) = false from dec_f q32))) rfl rfl)) ?_
    intro vs Rs f' S' hp hf hx hS hR
    obtain ⟨hv4, hR4⟩ := (spe rfl hs31_4 (hp 4 (by kernel_rfl)))
    obtain ⟨hv9, hR9⟩ := (spe rfl rfl (hp 9 (by kernel_rfl)) : spu _ _)
    obtain ⟨hv11, hR11⟩ := (spe rfl rfl (hp 11 (by kernel_rfl)) : spu _ _)
    refine ls_fr (F := upd (upd (upd (upd (upd (upd f' 0 (.slice A0 l0.length c0)) 3 (.pointer (some ⟨g1, 0, none⟩))) 5 (.int .i64 t2)) 6 (.int .i64 x6_2)) 7 (.slice A7_2 l7_2.length c7_2)) 31 (.bool (decide (x6_2 < (l0.length : Int))))) (fr_next (fr_next (fr_next (fr_next (fr_next (fr_next (rfl) ((hx 0 (by kernel_rfl)).trans (by kernel_rfl : (_ : Value) = .slice A0 l0.length c0))) ((hx 3 (by kernel_rfl)).trans (by kernel_rfl : (_ : Value) = .pointer (some ⟨g1, 0, none⟩)))) ((hx 5 (by kernel_rfl)).trans (by kernel_rfl : (_ : Value) = .int .i64 t2))) ((hx 6 (by kernel_rfl)).trans (by kernel_rfl : (_ : Value) = .int .i64 x6_2))) ((hx 7 (by kernel_rfl)).trans (by kernel_rfl : (_ : Value) = .slice A7_2 l7_2.length c7_2))) ((hf 4 31 (by kernel_rfl) rfl).trans hv4)) ?_
    refine ls_sub (sput (sput s0 0 (some (Ck.var 24 g1 (([Value.int .i64 a1.1] ++ [Value.int .i64 a1.2]))))) 1 (some (Ck.sl T24 A7_2 c7_2 l7_2))) (sub_put ((hS 1 (by kernel_rfl)).trans (by exact rfl)) (sub_put ((hS 0 (by kernel_rfl)).trans (by exact rfl)) (sub_nil _))) ?_
    refine ls_know (c := false) (dec_f q32) 31 (by kernel_rfl) ?_
    refine lofx 4 31 true false ?_
    refine lv (.bool false) ?_
    refine ls_end ?_
    refine qn_then ?_
    refine cs_false (by kernel_rfl) ?_
    refine cs_exit' ?_
    refine qx_then ?_
    refine qx_then ?_
    refine qx_same ?_
    refine qn_then ?_
    refine cs_seq ?_
    refine cs_region (l := [_, _, _, _, _, _]) ?_
    refine lv (.slice A0 l0.length c0) ?_
    refine lv (.int .i64 t2) ?_
    refine lv (.int .i64 x6_2) ?_
    refine lv (.slice A7_2 l7_2.length c7_2) ?_
    obtain ⟨t42, hc43, H⟩ := bind_some H
    refine ls_callb (fid := 44) (vals := #[.slice A0 l0.length c0, .int .i64 t2, .int .i64 x6_2, .slice A7_2 l7_2.length c7_2]) (X := (Option Addr × Nat)) (fun x => .slice x.1 t42.length x.2) (fun x => stl [Ck.sl T24 x.1 x.2 t42]) [] [1] [] [Ck.sl T24 A7_2 c7_2 l7_2] 98 rfl rfl (by kernel_rfl) (fun w => by kernel_rfl) trivial ⟨by exact rfl, trivial⟩ (by decide) (fun w hs hb => extent_replace_44.calls k2 A0 c0 l0 t2 x6_2 A7_2 c7_2 l7_2 t42 (lent b w [] [Ck.sl T24 A7_2 c7_2 l7_2]) hb (hs.ro R0 _ _) C0 (hs.ror (k := 1) (by exact rfl) (.head _)) (hs.cap (k := 1) (by exact rfl)) hc43) ?_
    intro x44
    refine lv (.slice x44.1 t42.length x44.2) ?_
    refine ls_end ?_
    refine qn_then ?_
    refine cs_ret' ?_
    obtain rfl := Option.some.inj H
    refine qr_res (rs := [_]) rfl (fun w' hs => ⟨[.slice x44.1 t42.length x44.2], (res_tmp (by kernel_rfl) (.nil)), (x44.1, x44.2), rfl, hs.pick (ts := [98]) (cs := [Ck.sl T24 x44.1 x44.2 t42]) ⟨by exact rfl, trivial⟩ (by decide)⟩)
  rintro f S ⟨fr3, rfl, rfl, H⟩
  replace H : ((if 0 ≤ x6_2 then (if x6_2 < (l0.length : Int) then lt (((l0).getD (x6_2).toNat ((0 : Int), (0 : Int))).1) fun y10 => lt (((l0).getD (x6_2).toNat ((0 : Int), (0 : Int))).2) fun y12 => extent_Remove.lo4 l0 a1 x6_2 y10 y12 (extent_Remove.lo2 l0 a1 t2 k2) k2 l7_2 (0 : Int) else none) else none)) = some r := H
  refine cs_seq ?_
  refine cs_block ?_
  refine cs_seq ?_
  refine cs_region (l := [_, _, _, _, _, _]) ?_
  refine lv (.slice A0 l0.length c0) ?_
  refine lv (.int .i64 x6_2) ?_
  obtain ⟨q5, H⟩ := ite_need H
  obtain ⟨q6, H⟩ := ite_need H
  obtain ⟨ad7, hA8⟩ := ido_at (T := T24) (l := l0) (i := x6_2) R0 q5 q6
  refine ls_idxv T24 (A := A0) (c := c0) (l := l0) (k := .i64) (i := x6_2) (z := 2) (ad := ad7) rfl rfl (by kernel_rfl) hA8 rfl (by kernel_rfl) (by kernel_rfl) (by kernel_rfl) (by kernel_rfl) q5 q6 ?_
  refine ls_loadagg (a := (ad7.add ((x6_2).toNat * 2))) (sub := ([Value.int .i64 (((l0).getD (x6_2).toNat ((0 : Int), (0 : Int))).1)] ++ [Value.int .i64 (((l0).getD (x6_2).toNat ((0 : Int), (0 : Int))).2)])) rfl rfl (by kernel_rfl) rfl (by kernel_rfl) (by kernel_rfl) (by kernel_rfl) (len_app (len1 _) (len1 _)) (fun w hs => (hs.old R0).part hA8 (em_sub T24 l0 (i := (x6_2).toNat) (by have h0 : (0 : Int) ≤ x6_2 := q5; have h1 : x6_2 < (l0.length : Int) := q6; omega))) ?_
  refine ls_new rfl rfl (by kernel_rfl) 2 (fun g => .pointer (some ⟨g, 0, none⟩)) (.cells ⟨([Value.int .i64 (0 : Int)] ++ [Value.int .i64 (0 : Int)])⟩ 24) (fun w => by kernel_rfl) ?_
  intro g9
  refine ls_storec (g := g9) (off := 0) (v := .agg ⟨([Value.int .i64 (((l0).getD (x6_2).toNat ((0 : Int), (0 : Int))).1)] ++ [Value.int .i64 (((l0).getD (x6_2).toNat ((0 : Int), (0 : Int))).2)])⟩) (vs := ([Value.int .i64 (((l0).getD (x6_2).toNat ((0 : Int), (0 : Int))).1)] ++ [Value.int .i64 (((l0).getD (x6_2).toNat ((0 : Int), (0 : Int))).2)])) (cs := ([Value.int .i64 (0 : Int)] ++ [Value.int .i64 (0 : Int)])) (ty := 24) 2 rfl rfl rfl (by kernel_rfl) (by kernel_rfl) (by kernel_rfl) (by exact rfl) (by kernel_rfl) (len_app (len1 _) (len1 _)) (one_app (one_cons rfl one_nil) (one_cons rfl one_nil)) (hl_of (Sub4.all _) (len_eq (len_app (len1 _) (len1 _)) (len_app (len1 _) (len1 _)))) (cs' := ([Value.int .i64 (((l0).getD (x6_2).toNat ((0 : Int), (0 : Int))).1)] ++ [Value.int .i64 (((l0).getD (x6_2).toNat ((0 : Int), (0 : Int))).2)])) (splc_all (len_eq (len_app (len1 _) (len1 _)) (len_app (len1 _) (len1 _)))) ?_
  refine ls_end ?_
  refine qn_then ?_
  refine cs_seq ?_
  refine cs_region (l := [_, _, _, _, _, _, _, _, _, _, _, _]) ?_
  refine lv (.pointer (some ⟨g9, (0 + 0), none⟩)) ?_
  obtain ⟨y10, hy11, H⟩ := lt_some H
  refine ls_load (a0 := ⟨g9, (0 + 0), none⟩) (v := .int .i64 (((l0).getD (x6_2).toNat ((0 : Int), (0 : Int))).1)) (de := (TypeDesc.int .i64)) rfl rfl (by kernel_rfl) rfl (by kernel_rfl) (by kernel_rfl) (by kernel_rfl) (fun w hs => (hs.var (k := 2) (by exact rfl) (Sub4.trans (Sub4.all _) (Sub4.head _ _)))) ?_
  refine ls_ren 48 (v := .int .i64 (((l0).getD (x6_2).toNat ((0 : Int), (0 : Int))).1)) (v' := .int .i64 y10) (by kernel_rfl) (by rw [hy11]) ?_
  refine lv (.pointer (some ⟨g1, (0 + 0), none⟩)) ?_
  refine ls_load (a0 := ⟨g1, (0 + 0), none⟩) (v := .int .i64 a1.1) (de := (TypeDesc.int .i64)) rfl rfl (by kernel_rfl) rfl (by kernel_rfl) (by kernel_rfl) (by kernel_rfl) (fun w hs => (hs.var (k := 0) (by exact rfl) (Sub4.trans (Sub4.all _) (Sub4.head _ _)))) ?_
  refine lv (.agg ⟨([Value.int .i64 y10] ++ [Value.int .i64 a1.1])⟩) ?_
  refine lv (.pointer (some ⟨g1, (0 + 1), none⟩)) ?_
  refine ls_load (a0 := ⟨g1, (0 + 1), none⟩) (v := .int .i64 a1.2) (de := (TypeDesc.int .i64)) rfl rfl (by kernel_rfl) rfl (by kernel_rfl) (by kernel_rfl) (by kernel_rfl) (fun w hs => (hs.var (k := 0) (by exact rfl) (Sub4.trans (Sub4.all _) (Sub4.skip (n := 1) (len1 _) (Sub4.all _))))) ?_
  refine lv (.pointer (some ⟨g9, (0 + 1), none⟩)) ?_
  obtain ⟨y12, hy13, H⟩ := lt_some H
  refine ls_load (a0 := ⟨g9, (0 + 1), none⟩) (v := .int .i64 (((l0).getD (x6_2).toNat ((0 : Int), (0 : Int))).2)) (de := (TypeDesc.int .i64)) rfl rfl (by kernel_rfl) rfl (by kernel_rfl) (by kernel_rfl) (by kernel_rfl) (fun w hs => (hs.var (k := 2) (by exact rfl) (Sub4.trans (Sub4.all _) (Sub4.skip (n := 1) (len1 _) (Sub4.all _))))) ?_
  refine ls_ren 55 (v := .int .i64 (((l0).getD (x6_2).toNat ((0 : Int), (0 : Int))).2)) (v' := .int .i64 y12) (by kernel_rfl) (by rw [hy13]) ?_
  refine lv (.agg ⟨([Value.int .i64 a1.2] ++ [Value.int .i64 y12])⟩) ?_
  refine lv (.agg ⟨em T24 (⟨[(y10, a1.1), (a1.2, y12)], rfl⟩ : (Vc (Int × Int) 2)).1⟩) ?_
  refine lv (.int .i64 (0 : Int)) ?_
  refine ls_end ?_
  refine qn_then ?_
  refine cs_block ?_
  refine cs_sub (sput (sput (sput s0 0 (some (Ck.var 24 g1 (([Value.int .i64 a1.1] ++ [Value.int .i64 a1.2]))))) 1 (some (Ck.sl T24 A7_2 c7_2 l7_2))) 2 (some (Ck.var 24 g9 (([Value.int .i64 (((l0).getD (x6_2).toNat ((0 : Int), (0 : Int))).1)] ++ [Value.int .i64 (((l0).getD (x6_2).toNat ((0 : Int), (0 : Int))).2)]))))) (sub_put (by exact rfl) (sub_put (by exact rfl) (sub_put (by exact rfl) (sub_nil _)))) ?_
  refine cs_loop (fun kk f S => ∃ (fR : Fr) (A7_4 : Option Addr) (c7_4 : Nat) (l7_4 : List (Int × Int)) (x58_4 : Int), f = upd (upd (upd (upd (upd (upd (upd (upd fR 0 (.slice A0 l0.length c0)) 3 (.pointer (some ⟨g1, 0, none⟩))) 5 (.int .i64 t2)) 6 (.int .i64 x6_2)) 7 (.slice A7_4 l7_4.length c7_4)) 8 (.pointer (some ⟨g9, 0, none⟩))) 57 (.agg ⟨em T24 (⟨[(y10, a1.1), (a1.2, y12)], rfl⟩ : (Vc (Int × Int) 2)).1⟩)) 58 (.int .i64 x58_4) ∧ S = sput (sput (sput s0 0 (some (Ck.var 24 g1 (([Value.int .i64 a1.1] ++ [Value.int .i64 a1.2]))))) 1 (some (Ck.sl T24 A7_4 c7_4 l7_4))) 2 (some (Ck.var 24 g9 (([Value.int .i64 (((l0).getD (x6_2).toNat ((0 : Int), (0 : Int))).1)] ++ [Value.int .i64 (((l0).getD (x6_2).toNat ((0 : Int), (0 : Int))).2)])))) ∧ extent_Remove.lo4 l0 a1 x6_2 y10 y12 (extent_Remove.lo2 l0 a1 t2 k2) kk l7_4 x58_4 = some r) k2 ?_ ?_ ?_
  · exact ⟨_, A7_2, c7_2, l7_2, (0 : Int), fr_next (fr_next (fr_next (fr_next (fr_next (fr_next (fr_next (fr_next (rfl) (by kernel_rfl)) (by kernel_rfl)) (by kernel_rfl)) (by kernel_rfl)) (by kernel_rfl)) (by kernel_rfl)) (by kernel_rfl)) (by kernel_rfl), rfl, H⟩
  · rintro f S ⟨fr4, A7_4, c7_4, l7_4, x58_4, rfl, rfl, H⟩; cases H
  rintro k4 f S ⟨fr4, A7_4, c7_4, l7_4, x58_4, rfl, rfl, H⟩
  replace H : ((if x58_4 < (2 : Int) then (if 0 ≤ x58_4 then (extent_Span_right.f k4 ((⟨[(y10, a1.1), (a1.2, y12)], rfl⟩ : (Vc (Int × Int) 2)).1.getD (x58_4).toNat ((0 : Int), (0 : Int)))).bind fun t17 => (if t17 = true then lt (((⟨[(y10, a1.1), (a1.2, y12)], rfl⟩ : (Vc (Int × Int) 2)).1.getD (x58_4).toNat ((0 : Int), (0 : Int))).1) fun y21 => lt (((l0).getD (x6_2).toNat ((0 : Int), (0 : Int))).1) fun y23 => (if y21 ≥ y23 then (if (l7_4.length + ([((⟨[(y10, a1.1), (a1.2, y12)], rfl⟩ : (Vc (Int × Int) 2)).1.getD (x58_4).toNat ((0 : Int), (0 : Int)))]).length) * 16 ≤ 140737488355328 then (extent_Remove.lo4 l0 a1 x6_2 y10 y12 (extent_Remove.lo2 l0 a1 t2 k2) k4) (l7_4 ++ [((⟨[(y10, a1.1), (a1.2, y12)], rfl⟩ : (Vc (Int × Int) 2)).1.getD (x58_4).toNat ((0 : Int), (0 : Int)))]) (IntKind.wrap .i64 (x58_4 + (1 : Int))) else none) else (extent_Remove.lo4 l0 a1 x6_2 y10 y12 (extent_Remove.lo2 l0 a1 t2 k2) k4) l7_4 (IntKind.wrap .i64 (x58_4 + (1 : Int)))) else (extent_Remove.lo4 l0 a1 x6_2 y10 y12 (extent_Remove.lo2 l0 a1 t2 k2) k4) l7_4 (IntKind.wrap .i64 (x58_4 + (1 : Int)))) else none) else (extent_Remove.lo2 l0 a1 t2 k2) (IntKind.wrap .i64 (x6_2 + (1 : Int))) l7_4)) = some r := H
  refine cs_seq ?_
  refine cs_region (l := [_]) ?_
  refine lv (.bool (decide (x58_4 < (2 : Int)))) ?_
  refine ls_end ?_
  refine qn_then ?_
  refine cs_seq ?_
  by_cases q14 : x58_4 < (2 : Int)
  · replace H := ite_t q14 H
    refine cs_know (c := true) (dec_t q14) 59 (by kernel_rfl) ?_
    refine cs_true (by kernel_rfl) ?_
    refine cs_skip' ?_
    refine qn_then ?_
    refine cs_seq ?_
    refine cs_block ?_
    refine cs_seq ?_
    refine cs_region (l := [_, _, _]) ?_
    obtain ⟨q15, H⟩ := ite_need H
    refine ls_indexm (z := 0) T24 (v := (⟨[(y10, a1.1), (a1.2, y12)], rfl⟩ : (Vc (Int × Int) 2))) (i := x58_4) (kk := .i64) (ln := 2) rfl rfl (by kernel_rfl) rfl (by kernel_rfl) (by kernel_rfl) (by kernel_rfl) (by kernel_rfl) (by kernel_rfl) q15 q14 ?_
    refine ls_new rfl rfl (by kernel_rfl) 3 (fun g => .pointer (some ⟨g, 0, none⟩)) (.cells ⟨([Value.int .i64 (0 : Int)] ++ [Value.int .i64 (0 : Int)])⟩ 24) (fun w => by kernel_rfl) ?_
    intro g16
    refine ls_storec (g := g16) (off := 0) (v := .agg ⟨([Value.int .i64 (((⟨[(y10, a1.1), (a1.2, y12)], rfl⟩ : (Vc (Int × Int) 2)).1.getD (x58_4).toNat ((0 : Int), (0 : Int))).1)] ++ [Value.int .i64 (((⟨[(y10, a1.1), (a1.2, y12)], rfl⟩ : (Vc (Int × Int) 2)).1.getD (x58_4).toNat ((0 : Int), (0 : Int))).2)])⟩) (vs := ([Value.int .i64 (((⟨[(y10, a1.1), (a1.2, y12)], rfl⟩ : (Vc (Int × Int) 2)).1.getD (x58_4).toNat ((0 : Int), (0 : Int))).1)] ++ [Value.int .i64 (((⟨[(y10, a1.1), (a1.2, y12)], rfl⟩ : (Vc (Int × Int) 2)).1.getD (x58_4).toNat ((0 : Int), (0 : Int))).2)])) (cs := ([Value.int .i64 (0 : Int)] ++ [Value.int .i64 (0 : Int)])) (ty := 24) 3 rfl rfl rfl (by kernel_rfl) (by kernel_rfl) (by kernel_rfl) (by exact rfl) (by kernel_rfl) (len_app (len1 _) (len1 _)) (one_app (one_cons rfl one_nil) (one_cons rfl one_nil)) (hl_of (Sub4.all _) (len_eq (len_app (len1 _) (len1 _)) (len_app (len1 _) (len1 _)))) (cs' := ([Value.int .i64 (((⟨[(y10, a1.1), (a1.2, y12)], rfl⟩ : (Vc (Int × Int) 2)).1.getD (x58_4).toNat ((0 : Int), (0 : Int))).1)] ++ [Value.int .i64 (((⟨[(y10, a1.1), (a1.2, y12)], rfl⟩ : (Vc (Int × Int) 2)).1.getD (x58_4).toNat ((0 : Int), (0 : Int))).2)])) (splc_all (len_eq (len_app (len1 _) (len1 _)) (len_app (len1 _) (len1 _)))) ?_
    refine ls_end ?_
    refine qn_then ?_
    refine cs_seq ?_
    refine cs_region (l := [_, _, _, _, _, _, _, _, _]) ?_
    refine ls_loadagg (a := ⟨g16, 0, none⟩) (sub := ([Value.int .i64 (((⟨[(y10, a1.1), (a1.2, y12)], rfl⟩ : (Vc (Int × Int) 2)).1.getD (x58_4).toNat ((0 : Int), (0 : Int))).1)] ++ [Value.int .i64 (((⟨[(y10, a1.1), (a1.2, y12)], rfl⟩ : (Vc (Int × Int) 2)).1.getD (x58_4).toNat ((0 : Int), (0 : Int))).2)])) rfl rfl (by kernel_rfl) rfl (by kernel_rfl) (by kernel_rfl) (by kernel_rfl) (len_app (len1 _) (len1 _)) (fun w hs => (hs.vars (k := 3) (by exact rfl) (Sub4.all _))) ?_
    obtain ⟨t17, hc18, H⟩ := bind_some H
    refine ls_callb (fid := 41) (vals := #[.agg ⟨([Value.int .i64 (((⟨[(y10, a1.1), (a1.2, y12)], rfl⟩ : (Vc (Int × Int) 2)).1.getD (x58_4).toNat ((0 : Int), (0 : Int))).1)] ++ [Value.int .i64 (((⟨[(y10, a1.1), (a1.2, y12)], rfl⟩ : (Vc (Int × Int) 2)).1.getD (x58_4).toNat ((0 : Int), (0 : Int))).2)])⟩]) (X := Unit) (fun x => .bool t17) (fun x => stl []) [] [] [] [] 4 rfl rfl (by kernel_rfl) (fun w => by kernel_rfl) trivial trivial (by decide) (fun w hs hb => extent_Span_right.calls k4 ((⟨[(y10, a1.1), (a1.2, y12)], rfl⟩ : (Vc (Int × Int) 2)).1.getD (x58_4).toNat ((0 : Int), (0 : Int))) t17 (lent b w [] []) hb  hc18) ?_
    intro x19
    refine lv (.bool t17) ?_
    by_cases q20 : t17 = true
    · replace H := ite_t q20 H
      refine ls_know (c := true) (q20) 63 (by kernel_rfl) ?_
      refine ls_on (j := 2) (t := 63) (b := true) rfl rfl (by kernel_rfl) (by kernel_rfl) ?_
      refine lv (.pointer (some ⟨g16, (0 + 0), none⟩)) ?_
      refine ls_on (j := 2) (t := 63) (b := true) rfl rfl (by kernel_rfl) (by kernel_rfl) ?_
      obtain ⟨y21, hy22, H⟩ := lt_some H
      refine ls_load (a0 := ⟨g16, (0 + 0), none⟩) (v := .int .i64 (((⟨[(y10, a1.1), (a1.2, y12)], rfl⟩ : (Vc (Int × Int) 2)).1.getD (x58_4).toNat ((0 : Int), (0 : Int))).1)) (de := (TypeDesc.int .i64)) rfl rfl (by kernel_rfl) rfl (by kernel_rfl) (by kernel_rfl) (by kernel_rfl) (fun w hs => (hs.var (k := 3) (by exact rfl) (Sub4.trans (Sub4.all _) (Sub4.head _ _)))) ?_
      refine ls_ren 65 (v := .int .i64 (((⟨[(y10, a1.1), (a1.2, y12)], rfl⟩ : (Vc (Int × Int) 2)).1.getD (x58_4).toNat ((0 : Int), (0 : Int))).1)) (v' := .int .i64 y21) (by kernel_rfl) (by rw [hy22]) ?_
      refine ls_on (j := 2) (t := 63) (b := true) rfl rfl (by kernel_rfl) (by kernel_rfl) ?_
      refine lv (.pointer (some ⟨g9, (0 + 0), none⟩)) ?_
      refine ls_on (j := 2) (t := 63) (b := true) rfl rfl (by kernel_rfl) (by kernel_rfl) ?_
      obtain ⟨y23, hy24, H⟩ := lt_some H
      refine ls_load (a0 := ⟨g9, (0 + 0), none⟩) (v := .int .i64 (((l0).getD (x6_2).toNat ((0 : Int), (0 : Int))).1)) (de := (TypeDesc.int .i64)) rfl rfl (by kernel_rfl) rfl (by kernel_rfl) (by kernel_rfl) (by kernel_rfl) (fun w hs => (hs.var (k := 2) (by exact rfl) (Sub4.trans (Sub4.all _) (Sub4.head _ _)))) ?_
      refine ls_ren 67 (v := .int .i64 (((l0).getD (x6_2).toNat ((0 : Int), (0 : Int))).1)) (v' := .int .i64 y23) (by kernel_rfl) (by rw [hy24]) ?_
      refine ls_on (j := 2) (t := 63) (b := true) rfl rfl (by kernel_rfl) (by kernel_rfl) ?_
      refine lv (.bool (decide (y21 ≥ y23))) ?_
      refine lv (.bool (decide (y21 ≥ y23))) ?_
      refine ls_end ?_
      refine qn_then ?_
      by_cases q25 : y21 ≥ y23
      · replace H := ite_t q25 H
        refine cs_know (c := true) (dec_t q25) 69 (by kernel_rfl) ?_
        refine cs_true (by kernel_rfl) ?_
        refine cs_region (l := [_, _, _, _, _]) ?_
        refine lv (.slice A7_4 l7_4.length c7_4) ?_
        refine ls_loadagg (a := ⟨g16, 0, none⟩) (sub := ([Value.int .i64 (((⟨[(y10, a1.1), (a1.2, y12)], rfl⟩ : (Vc (Int × Int) 2)).1.getD (x58_4).toNat ((0 : Int), (0 : Int))).1)] ++ [Value.int .i64 (((⟨[(y10, a1.1), (a1.2, y12)], rfl⟩ : (Vc (Int × Int) 2)).1.getD (x58_4).toNat ((0 : Int), (0 : Int))).2)])) rfl rfl (by kernel_rfl) rfl (by kernel_rfl) (by kernel_rfl) (by kernel_rfl) (len_app (len1 _) (len1 _)) (fun w hs => (hs.vars (k := 3) (by exact rfl) (Sub4.all _))) ?_
        refine ls_lit T24 4 rfl rfl (by kernel_rfl) ([((⟨[(y10, a1.1), (a1.2, y12)], rfl⟩ : (Vc (Int × Int) 2)).1.getD (x58_4).toNat ((0 : Int), (0 : Int)))]) (by exact of_decide_eq_true (by kernel_rfl)) (fun w => by kernel_rfl) ?_
        intro g26
        obtain ⟨q27, H⟩ := ite_need H
        refine ls_app T24 (A := A7_4) (c := c7_4) (B := (some ⟨g26, 0, none⟩)) (cb := [((⟨[(y10, a1.1), (a1.2, y12)], rfl⟩ : (Vc (Int × Int) 2)).1.getD (x58_4).toNat ((0 : Int), (0 : Int)))].length) (z := (.agg ⟨([Value.int .i64 (0 : Int)] ++ [Value.int .i64 (0 : Int)])⟩)) (l := l7_4) (m := [((⟨[(y10, a1.1), (a1.2, y12)], rfl⟩ : (Vc (Int × Int) 2)).1.getD (x58_4).toNat ((0 : Int), (0 : Int)))]) (bytes := 16) 1 rfl rfl (by kernel_rfl) rfl (by kernel_rfl) (by exact rfl) (by kernel_rfl) (fun w hs => (hs.rd (k := 4) (by exact rfl))) (by kernel_rfl) (by kernel_rfl) rfl (by decide) q27 ?_
        intro xA28 xc29
        refine lv (.slice xA28 (l7_4 ++ [((⟨[(y10, a1.1), (a1.2, y12)], rfl⟩ : (Vc (Int × Int) 2)).1.getD (x58_4).toNat ((0 : Int), (0 : Int)))]).length xc29) ?_
        refine ls_end ?_
        refine qn_block ?_
        refine qn_then ?_
        refine cs_region (l := [_, _]) ?_
        refine lv (.int .i64 (IntKind.wrap .i64 (x58_4 + (1 : Int)))) ?_
        refine lv (.int .i64 (IntKind.wrap .i64 (x58_4 + (1 : Int)))) ?_
        refine ls_end ?_
        refine qn_again k4 (sput (sput (sput s0 0 (some (Ck.var 24 g1 (([Value.int .i64 a1.1] ++ [Value.int .i64 a1.2]))))) 1 (some (Ck.sl T24 xA28 xc29 (l7_4 ++ [((⟨[(y10, a1.1), (a1.2, y12)], rfl⟩ : (Vc (Int × Int) 2)).1.getD (x58_4).toNat ((0 : Int), (0 : Int)))])))) 2 (some (Ck.var 24 g9 (([Value.int .i64 (((l0).getD (x6_2).toNat ((0 : Int), (0 : Int))).1)] ++ [Value.int .i64 (((l0).getD (x6_2).toNat ((0 : Int), (0 : Int))).2)]))))) (Nat.le_refl _) ⟨_, xA28, xc29, (l7_4 ++ [((⟨[(y10, a1.1), (a1.2, y12)], rfl⟩ : (Vc (Int × Int) 2)).1.getD (x58_4).toNat ((0 : Int), (0 : Int)))]), (IntKind.wrap .i64 (x58_4 + (1 : Int))), fr_next (fr_next (fr_next (fr_next (fr_next (fr_next (fr_next (fr_next (rfl) (by kernel_rfl)) (by kernel_rfl)) (by kernel_rfl)) (by kernel_rfl)) (by kernel_rfl)) (by kernel_rfl)) (by kernel_rfl)) (by kernel_rfl), rfl, H⟩ (sub_put (by exact rfl) (sub_put (by exact rfl) (sub_put (by exact rfl) (sub_nil _))))
      replace H := ite_f q25 H
      refine cs_know (c := false) (dec_f q25) 69 (by kernel_rfl) ?_
      refine cs_false (by kernel_rfl) ?_
      refine cs_skip' ?_
      refine qn_block ?_
      refine qn_then ?_
      refine cs_region (l := [_, _]) ?_
      refine lv (.int .i64 (IntKind.wrap .i64 (x58_4 + (1 : Int)))) ?_
      refine lv (.int .i64 (IntKind.wrap .i64 (x58_4 + (1 : Int)))) ?_
      refine ls_end ?_
      refine qn_again k4 (sput (sput (sput s0 0 (some (Ck.var 24 g1 (([Value.int .i64 a1.1] ++ [Value.int .i64 a1.2]))))) 1 (some (Ck.sl T24 A7_4 c7_4 l7_4))) 2 (some (Ck.var 24 g9 (([Value.int .i64 (((l0).getD (x6_2).toNat ((0 : Int), (0 : Int))).1)] ++ [Value.int .i64 (((l0).getD (x6_2).toNat ((0 : Int), (0 : Int))).2)]))))) (Nat.le_refl _) ⟨_, A7_4, c7_4, l7_4, (IntKind.wrap .i64 (x58_4 + (1 : Int))), fr_next (fr_next (fr_next (fr_next (fr_next (fr_next (fr_next (fr_next (rfl) (by kernel_rfl)) (by kernel_rfl)) (by kernel_rfl)) (by kernel_rfl)) (by kernel_rfl)) (by kernel_rfl)) (by kernel_rfl)) (by kernel_rfl), rfl, H⟩ (sub_put (by exact rfl) (sub_put (by exact rfl) (sub_put (by exact rfl) (sub_nil _))))
    replace H := ite_f q20 H
    refine ls_know (c := false) (Bool.eq_false_iff.mpr q20) 63 (by kernel_rfl) ?_
    refine lofx 2 63 true false ?_
    refine lofx 2 63 true false ?_
    refine lofx 2 63 true false ?_
    refine lofx 2 63 true false ?_
    refine lofx 2 63 true false ?_
    refine lv (.bool false) ?_
    refine ls_end ?_
    refine qn_then ?_
    refine cs_false (by kernel_rfl) ?_
    refine cs_skip' ?_
    refine qn_block ?_
    refine qn_then ?_
    refine cs_region (l := [_, _]) ?_
    refine lv (.int .i64 (IntKind.wrap .i64 (x58_4 + (1 : Int)))) ?_
    refine lv (.int .i64 (IntKind.wrap .i64 (x58_4 + (1 : Int)))) ?_
    refine ls_end ?_
    refine qn_again k4 (sput (sput (sput s0 0 (some (Ck.var 24 g1 (([Value.int .i64 a1.1] ++ [Value.int .i64 a1.2]))))) 1 (some (Ck.sl T24 A7_4 c7_4 l7_4))) 2 (some (Ck.var 24 g9 (([Value.int .i64 (((l0).getD (x6_2).toNat ((0 : Int), (0 : Int))).1)] ++ [Value.int .i64 (((l0).getD (x6_2).toNat ((0 : Int), (0 : Int))).2)]))))) (Nat.le_refl _) ⟨_, A7_4, c7_4, l7_4, (IntKind.wrap .i64 (x58_4 + (1 : Int))), fr_next (fr_next (fr_next (fr_next (fr_next (fr_next (fr_next (fr_next (rfl) (by kernel_rfl)) (by kernel_rfl)) (by kernel_rfl)) (by kernel_rfl)) (by kernel_rfl)) (by kernel_rfl)) (by kernel_rfl)) (by kernel_rfl), rfl, H⟩ (sub_put (by exact rfl) (sub_put (by exact rfl) (sub_put (by exact rfl) (sub_nil _))))
  replace H := ite_f q14 H
  refine cs_know (c := false) (dec_f q14) 59 (by kernel_rfl) ?_
  refine cs_false (by kernel_rfl) ?_
  refine cs_exit' ?_
  refine qx_then ?_
  refine qx_then ?_
  refine qx_same ?_
  refine qn_block ?_
  refine qn_then ?_
  refine cs_region (l := [_, _, _]) ?_
  refine lv (.int .i64 x6_2) ?_
  refine lv (.int .i64 (IntKind.wrap .i64 (x6_2 + (1 : Int)))) ?_
  refine lv (.int .i64 (IntKind.wrap .i64 (x6_2 + (1 : Int)))) ?_
  refine ls_end ?_
  refine qn_again k2 (sput (sput s0 0 (some (Ck.var 24 g1 (([Value.int .i64 a1.1] ++ [Value.int .i64 a1.2]))))) 1 (some (Ck.sl T24 A7_4 c7_4 l7_4))) (Nat.le_refl _) ⟨_, (IntKind.wrap .i64 (x6_2 + (1 : Int))), A7_4, c7_4, l7_4, fr_next (fr_next (fr_next (fr_next (fr_next (rfl) (by kernel_rfl)) (by kernel_rfl)) (by kernel_rfl)) (by kernel_rfl)) (by kernel_rfl), rfl, H⟩ (sub_put (by exact rfl) (sub_put (by exact rfl) (sub_nil _)))

/-! ### shadowbox/extent.Find$1: function 47 -/
def extent_Find_1.f (k : Nat) (a0 : (Int × Int)) (v1 : Int) : Option (Bool) :=
  some (decide ((IntKind.wrap .i64 (a0.2 - a0.1)) ≥ v1))
set_option maxRecDepth 100000 in
set_option maxHeartbeats 4000000 in
theorem extent_Find_1.calls (k : Nat) (a0 : (Int × Int)) (pg1 : Nat) (v1 : Int) (r : Bool) (b : Bs) (hs0 : St b (stl [Ck.var 3 pg1 ([Value.int .i64 v1])]) b.w) (H : extent_Find_1.f k a0 v1 = some r) :
    Calls Try.prog 47 #[.agg ⟨([Value.int .i64 a0.1] ++ [Value.int .i64 a0.2])⟩, .pointer (some ⟨pg1, 0, none⟩)] b.w fun e w' => ∃ x : Unit, e = .returned (.bool r) ∧ St b (stl [Ck.var 3 pg1 ([Value.int .i64 v1])]) w' := by
  unfold extent_Find_1.f at H
  refine enterb (n := 11) Try.func47 rfl (by kernel_rfl) (by kernel_rfl) hs0 ?_
  refine cs_sub (sput s0 0 (some (Ck.var 3 pg1 ([Value.int .i64 v1])))) (sub_put (by exact rfl) (sub_nil _)) ?_
  refine cs_seq ?_
  refine cs_region (l := [_, _]) ?_
  refine ls_new rfl rfl (by kernel_rfl) 1 (fun g => .pointer (some ⟨g, 0, none⟩)) (.cells ⟨([Value.int .i64 a0.1] ++ [Value.int .i64 a0.2])⟩ 24) (fun w => by kernel_rfl) ?_
  intro g1
  refine lv (.bool false) ?_
  refine ls_end ?_
  refine qn_then ?_
  refine cs_seq ?_
  refine cs_region (l := [_, _, _, _, _, _, _, _]) ?_
  refine lv (.pointer (some ⟨g1, (0 + 1), none⟩)) ?_
  refine ls_load (a0 := ⟨g1, (0 + 1), none⟩) (v := .int .i64 a0.2) (de := (TypeDesc.int .i64)) rfl rfl (by kernel_rfl) rfl (by kernel_rfl) (by kernel_rfl) (by kernel_rfl) (fun w hs => (hs.var (k := 1) (by exact rfl) (Sub4.trans (Sub4.all _) (Sub4.skip (n := 1) (len1 _) (Sub4.all _))))) ?_
  refine lv (.pointer (some ⟨g1, (0 + 0), none⟩)) ?_
  refine ls_load (a0 := ⟨g1, (0 + 0), none⟩) (v := .int .i64 a0.1) (de := (TypeDesc.int .i64)) rfl rfl (by kernel_rfl) rfl (by kernel_rfl) (by kernel_rfl) (by kernel_rfl) (fun w hs => (hs.var (k := 1) (by exact rfl) (Sub4.trans (Sub4.all _) (Sub4.head _ _)))) ?_
  refine lv (.int .i64 (IntKind.wrap .i64 (a0.2 - a0.1))) ?_
  refine ls_load (a0 := ⟨pg1, 0, none⟩) (v := .int .i64 v1) (de := (TypeDesc.int .i64)) rfl rfl (by kernel_rfl) rfl (by kernel_rfl) (by kernel_rfl) (by kernel_rfl) (fun w hs => (hs.var (k := 0) (by exact rfl) (Sub4.all _))) ?_
  refine lv (.bool (decide ((IntKind.wrap .i64 (a0.2 - a0.1)) ≥ v1))) ?_
  refine lv (.bool (decide ((IntKind.wrap .i64 (a0.2 - a0.1)) ≥ v1))) ?_
  refine ls_end ?_
  refine qn_then ?_
  refine cs_ret' ?_
  obtain rfl := Option.some.inj H
  refine qr_res (rs := [_]) rfl (fun w' hs => ⟨[.bool (decide ((IntKind.wrap .i64 (a0.2 - a0.1)) ≥ v1))], (res_tmp (by kernel_rfl) (.nil)), (), rfl, hs.pick (ts := [0]) (cs := [Ck.var 3 pg1 ([Value.int .i64 v1])]) ⟨by exact rfl, trivial⟩ (by decide)⟩)

/-! ### slices.IndexFunc[[]shadowbox/extent.Span,shadowbox/extent.Span], specialized: function 46 -/
def slices_IndexFunc_46_s47.lo1 (l0 : List (Int × Int)) (v1_0 : Int) : Nat → Int → Option (Int)
  | 0, _ => none
  | k1 + 1, x8_1 => (if x8_1 < (l0.length : Int) then (if 0 ≤ x8_1 then (extent_Find_1.f k1 ((l0).getD (x8_1).toNat ((0 : Int), (0 : Int))) v1_0).bind fun t5 => (if t5 = true then some x8_1 else (slices_IndexFunc_46_s47.lo1 l0 v1_0 k1) (IntKind.wrap .i64 (x8_1 + (1 : Int)))) else none) else some (-1 : Int))
def slices_IndexFunc_46_s47.f (k : Nat) (l0 : List (Int × Int)) (v1_0 : Int) : Option (Int) :=
  slices_IndexFunc_46_s47.lo1 l0 v1_0 k (0 : Int)
set_option maxRecDepth 100000 in
set_option maxHeartbeats 4000000 in
theorem slices_IndexFunc_46_s47.calls (k : Nat) (A0 : Option Addr) (c0 : Nat) (l0 : List (Int × Int)) (pg1_0 : Nat) (v1_0 : Int) (r : Int) (b : Bs) (hs0 : St b (stl [Ck.var 3 pg1_0 ([Value.int .i64 v1_0])]) b.w) (R0 : Ro b A0 (em T24 l0)) (C0 : l0.length ≤ c0) (H : slices_IndexFunc_46_s47.f k l0 v1_0 = some r) :
    Calls Try.prog 46 #[.slice A0 l0.length c0, .func (.func 47) #[] #[.pointer (some ⟨pg1_0, 0, none⟩)]] b.w fun e w' => ∃ x : Unit, e = .returned (.int .i64 r) ∧ St b (stl [Ck.var 3 pg1_0 ([Value.int .i64 v1_0])]) w' := by
  unfold slices_IndexFunc_46_s47.f at H
  refine enterb (n := 19) Try.func46 rfl (by kernel_rfl) (by kernel_rfl) hs0 ?_
  refine cs_sub (sput s0 0 (some (Ck.var 3 pg1_0 ([Value.int .i64 v1_0])))) (sub_put (by exact rfl) (sub_nil _)) ?_
  refine cs_seq ?_
  refine cs_region (l := [_]) ?_
  refine lv (.int .i64 (0 : Int)) ?_
  refine ls_end ?_
  refine qn_then ?_
  refine cs_seq ?_
  refine cs_seq ?_
  refine cs_region (l := [_, _, _]) ?_
  refine lv (.slice A0 l0.length c0) ?_
  refine lv (.int .i64 (l0.length : Int)) ?_
  refine lv (.int .i64 (0 : Int)) ?_
  refine ls_end ?_
  refine qn_then ?_
  refine cs_block ?_
  refine cs_sub (sput s0 0 (some (Ck.var 3 pg1_0 ([Value.int .i64 v1_0])))) (sub_put (by exact rfl) (sub_nil _)) ?_
  refine cs_loop (fun kk f S => ∃ (fR : Fr) (x8_1 : Int), f = upd (upd (upd (upd fR 0 (.slice A0 l0.length c0)) 1 (.func (.func 47) #[] #[.pointer (some ⟨pg1_0, 0, none⟩)])) 7 (.int .i64 (l0.length : Int))) 8 (.int .i64 x8_1) ∧ S = sput s0 0 (some (Ck.var 3 pg1_0 ([Value.int .i64 v1_0]))) ∧ slices_IndexFunc_46_s47.lo1 l0 v1_0 kk x8_1 = some r) k ?_ ?_ ?_
  · exact ⟨_, (0 : Int), fr_next (fr_next (fr_next (fr_next (rfl) (by kernel_rfl)) (by kernel_rfl)) (by kernel_rfl)) (by kernel_rfl), rfl, H⟩
  · rintro f S ⟨fr1, x8_1, rfl, rfl, H⟩; cases H
  rintro k1 f S ⟨fr1, x8_1, rfl, rfl, H⟩
  replace H : ((if x8_1 < (l0.length : Int) then (if 0 ≤ x8_1 then (extent_Find_1.f k1 ((l0).getD (x8_1).toNat ((0 : Int), (0 : Int))) v1_0).bind fun t5 => (if t5 = true then some x8_1 else (slices_IndexFunc_46_s47.lo1 l0 v1_0 k1) (IntKind.wrap .i64 (x8_1 + (1 : Int)))) else none) else some (-1 : Int))) = some r := H
  refine cs_seq ?_
  refine cs_region (l := [_]) ?_
  refine lv (.bool (decide (x8_1 < (l0.length : Int)))) ?_
  refine ls_end ?_
  refine qn_then ?_
  refine cs_seq ?_
  by_cases q1 : x8_1 < (l0.length : Int)
  · replace H := ite_t q1 H
    refine cs_know (c := true) (dec_t q1) 9 (by kernel_rfl) ?_
    refine cs_true (by kernel_rfl) ?_
    refine cs_skip' ?_
    refine qn_then ?_
    refine cs_seq ?_
    refine cs_block ?_
    refine cs_seq ?_
    refine cs_region (l := [_, _]) ?_
    refine lv (.int .i64 x8_1) ?_
    refine lv (.int .i64 x8_1) ?_
    refine ls_end ?_
    refine qn_then ?_
    refine cs_seq ?_
    refine cs_region (l := [_, _, _, _, _, _]) ?_
    refine lv (.func (.func 47) #[] #[.pointer (some ⟨pg1_0, 0, none⟩)]) ?_
    refine lv (.slice A0 l0.length c0) ?_
    refine lv (.int .i64 x8_1) ?_
    obtain ⟨q2, H⟩ := ite_need H
    obtain ⟨ad3, hA4⟩ := ido_at (T := T24) (l := l0) (i := x8_1) R0 q2 q1
    refine ls_idxv T24 (A := A0) (c := c0) (l := l0) (k := .i64) (i := x8_1) (z := 2) (ad := ad3) rfl rfl (by kernel_rfl) hA4 rfl (by kernel_rfl) (by kernel_rfl) (by kernel_rfl) (by kernel_rfl) q2 q1 ?_
    refine ls_loadagg (a := (ad3.add ((x8_1).toNat * 2))) (sub := ([Value.int .i64 (((l0).getD (x8_1).toNat ((0 : Int), (0 : Int))).1)] ++ [Value.int .i64 (((l0).getD (x8_1).toNat ((0 : Int), (0 : Int))).2)])) rfl rfl (by kernel_rfl) rfl (by kernel_rfl) (by kernel_rfl) (by kernel_rfl) (len_app (len1 _) (len1 _)) (fun w hs => (hs.old R0).part hA4 (em_sub T24 l0 (i := (x8_1).toNat) (by have h0 : (0 : Int) ≤ x8_1 := q2; have h1 : x8_1 < (l0.length : Int) := q1; omega))) ?_
    obtain ⟨t5, hc6, H⟩ := bind_some H
    refine ls_callb (fid := 47) (vals := #[.agg ⟨([Value.int .i64 (((l0).getD (x8_1).toNat ((0 : Int), (0 : Int))).1)] ++ [Value.int .i64 (((l0).getD (x8_1).toNat ((0 : Int), (0 : Int))).2)])⟩, .pointer (some ⟨pg1_0, 0, none⟩)]) (X := Unit) (fun x => .bool t5) (fun x => stl [Ck.var 3 pg1_0 ([Value.int .i64 v1_0])]) [0] [] [Ck.var 3 pg1_0 ([Value.int .i64 v1_0])] [] 1 rfl rfl (by kernel_rfl) (fun w => by kernel_rfl) ⟨by exact rfl, trivial⟩ trivial (by decide) (fun w hs hb => extent_Find_1.calls k1 ((l0).getD (x8_1).toNat ((0 : Int), (0 : Int))) pg1_0 v1_0 t5 (lent b w [Ck.var 3 pg1_0 ([Value.int .i64 v1_0])] []) hb  hc6) ?_
    intro x7
    refine ls_end ?_
    refine qn_then ?_
    by_cases q8 : t5 = true
    · replace H := ite_t q8 H
      refine cs_know (c := true) (q8) 16 (by kernel_rfl) ?_
      refine cs_true (by kernel_rfl) ?_
      refine cs_seq ?_
      refine cs_region (l := [_, _]) ?_
      refine lv (.int .i64 x8_1) ?_
      refine lv (.int .i64 x8_1) ?_
      refine ls_end ?_
      refine qn_then ?_
      refine cs_ret' ?_
      refine qr_block ?_
      refine qr_then ?_
      refine qr_then ?_
      refine qr_block ?_
      refine qr_then ?_
      obtain rfl := Option.some.inj H
      refine qr_res (rs := [_]) rfl (fun w' hs => ⟨[.int .i64 x8_1], (res_tmp (by kernel_rfl) (.nil)), (), rfl, hs.pick (ts := [0]) (cs := [Ck.var 3 pg1_0 ([Value.int .i64 v1_0])]) ⟨by exact rfl, trivial⟩ (by decide)⟩)
    replace H := ite_f q8 H
    refine cs_know (c := false) (Bool.eq_false_iff.mpr q8) 16 (by kernel_rfl) ?_
    refine cs_false (by kernel_rfl) ?_
    refine cs_skip' ?_
    refine qn_block ?_
    refine qn_then ?_
    refine cs_region (l := [_, _]) ?_
    refine lv (.int .i64 (IntKind.wrap .i64 (x8_1 + (1 : Int)))) ?_
    refine lv (.int .i64 (IntKind.wrap .i64 (x8_1 + (1 : Int)))) ?_
    refine ls_end ?_
    refine qn_again k1 (sput s0 0 (some (Ck.var 3 pg1_0 ([Value.int .i64 v1_0])))) (Nat.le_refl _) ⟨_, (IntKind.wrap .i64 (x8_1 + (1 : Int))), fr_next (fr_next (fr_next (fr_next (rfl) (by kernel_rfl)) (by kernel_rfl)) (by kernel_rfl)) (by kernel_rfl), rfl, H⟩ (sub_put (by exact rfl) (sub_nil _))
  replace H := ite_f q1 H
  refine cs_know (c := false) (dec_f q1) 9 (by kernel_rfl) ?_
  refine cs_false (by kernel_rfl) ?_
  refine cs_exit' ?_
  refine qx_then ?_
  refine qx_then ?_
  refine qx_same ?_
  refine qn_then ?_
  refine cs_seq ?_
  refine cs_region (l := [_]) ?_
  refine lv (.int .i64 (-1 : Int)) ?_
  refine ls_end ?_
  refine qn_then ?_
  refine cs_ret' ?_
  obtain rfl := Option.some.inj H
  refine qr_res (rs := [_]) rfl (fun w' hs => ⟨[.int .i64 (-1 : Int)], (res_tmp (by kernel_rfl) (.nil)), (), rfl, hs.pick (ts := [0]) (cs := [Ck.var 3 pg1_0 ([Value.int .i64 v1_0])]) ⟨by exact rfl, trivial⟩ (by decide)⟩)

/-! ### shadowbox/extent.Find: function 24 -/
def extent_Find.f (k : Nat) (l0 : List (Int × Int)) (a1 : Int) : Option (Int) :=
  (slices_IndexFunc_46_s47.f k l0 a1).bind fun t2 => (if a1 < (1 : Int) then some (-1 : Int) else (if t2 < (0 : Int) then some (-1 : Int) else (extent_Valid.f k l0).bind fun t7 => (if t7 = true then (if 0 ≤ t2 then (if t2 < (l0.length : Int) then lt (((l0).getD (t2).toNat ((0 : Int), (0 : Int))).1) fun y15 => some y15 else none) else none) else some (-1 : Int))))
set_option maxRecDepth 100000 in
set_option maxHeartbeats 4000000 in
theorem extent_Find.calls (k : Nat) (A0 : Option Addr) (c0 : Nat) (l0 : List (Int × Int)) (a1 : Int) (r : Int) (b : Bs) (hs0 : St b (stl []) b.w) (R0 : Ro b A0 (em T24 l0)) (C0 : l0.length ≤ c0) (H : extent_Find.f k l0 a1 = some r) :
    Calls Try.prog 24 #[.slice A0 l0.length c0, .int .i64 a1] b.w fun e w' => ∃ x : Unit, e = .returned (.int .i64 r) ∧ St b (stl []) w' := by
  unfold extent_Find.f at H
  refine enterb (n := 25) Try.func24 rfl (by kernel_rfl) (by kernel_rfl) hs0 ?_
  refine cs_sub (s0) (sub_nil _) ?_
  refine cs_seq ?_
  refine cs_region (l := [_, _]) ?_
  refine ls_new rfl rfl (by kernel_rfl) 0 (fun g => .pointer (some ⟨g, 0, none⟩)) (.cells ⟨[Value.int .i64 a1]⟩ 3) (fun w => by kernel_rfl) ?_
  intro g1
  refine lv (.int .i64 (0 : Int)) ?_
  refine ls_end ?_
  refine qn_then ?_
  refine cs_seq ?_
  refine cs_region (l := [_, _, _, _]) ?_
  refine lv (.slice A0 l0.length c0) ?_
  refine lv (.func (.func 47) #[] #[.pointer (some ⟨g1, 0, none⟩)]) ?_
  obtain ⟨t2, hc3, H⟩ := bind_some H
  refine ls_callb (fid := 46) (vals := #[.slice A0 l0.length c0, .func (.func 47) #[] #[.pointer (some ⟨g1, 0, none⟩)]]) (X := Unit) (fun x => .int .i64 t2) (fun x => stl [Ck.var 3 g1 ([Value.int .i64 a1])]) [0] [] [Ck.var 3 g1 ([Value.int .i64 a1])] [] 1 rfl rfl (by kernel_rfl) (fun w => by kernel_rfl) ⟨by exact rfl, trivial⟩ trivial (by decide) (fun w hs hb => slices_IndexFunc_46_s47.calls k A0 c0 l0 g1 a1 t2 (lent b w [Ck.var 3 g1 ([Value.int .i64 a1])] []) hb (hs.ro R0 _ _) C0 hc3) ?_
  intro x4
  refine lv (.int .i64 t2) ?_
  refine ls_end ?_
  refine qn_then ?_
  refine cs_seq ?_
  refine cs_seq ?_
  refine cs_region (l := [_, _, _, _, _, _, _, _, _, _, _]) ?_
  refine ls_load (a0 := ⟨g1, 0, none⟩) (v := .int .i64 a1) (de := (TypeDesc.int .i64)) rfl rfl (by kernel_rfl) rfl (by kernel_rfl) (by kernel_rfl) (by kernel_rfl) (fun w hs => (hs.var (k := 0) (by exact rfl) (Sub4.all _))) ?_
  refine lv (.bool (decide (a1 < (1 : Int)))) ?_
  refine lv (.bool (decide (a1 < (1 : Int)))) ?_
  by_cases q5 : a1 < (1 : Int)
  · replace H := ite_t q5 H
    refine ls_know (c := true) (dec_t q5) 11 (by kernel_rfl) ?_
    refine lofx 2 11 false true ?_
    refine lofx 2 11 false true ?_
    refine lv (.bool true) ?_
    refine lv (.bool true) ?_
    refine lofx 6 15 false true ?_
    refine lofx 6 15 false true ?_
    refine lofx 6 15 false true ?_
    refine lv (.bool true) ?_
    refine ls_end ?_
    refine qn_then ?_
    refine cs_true (by kernel_rfl) ?_
    refine cs_seq ?_
    refine cs_region (l := [_]) ?_
    refine lv (.int .i64 (-1 : Int)) ?_
    refine ls_end ?_
    refine qn_then ?_
    refine cs_ret' ?_
    refine qr_then ?_
    obtain rfl := Option.some.inj H
    refine qr_res (rs := [_]) rfl (fun w' hs => ⟨[.int .i64 (-1 : Int)], (res_tmp (by kernel_rfl) (.nil)), (), rfl, hs.pick (ts := []) (cs := []) trivial (by decide)⟩)
  replace H := ite_f q5 H
  refine ls_know (c := false) (dec_f q5) 11 (by kernel_rfl) ?_
  refine ls_on (j := 2) (t := 11) (b := false) rfl rfl (by kernel_rfl) (by kernel_rfl) ?_
  refine lv (.int .i64 t2) ?_
  refine ls_on (j := 2) (t := 11) (b := false) rfl rfl (by kernel_rfl) (by kernel_rfl) ?_
  refine lv (.bool (decide (t2 < (0 : Int)))) ?_
  refine lv (.bool (decide (t2 < (0 : Int)))) ?_
  refine lv (.bool (decide (t2 < (0 : Int)))) ?_
  by_cases q6 : t2 < (0 : Int)
  · replace H := ite_t q6 H
    refine ls_know (c := true) (dec_t q6) 15 (by kernel_rfl) ?_
    refine lofx 6 15 false true ?_
    refine lofx 6 15 false true ?_
    refine lofx 6 15 false true ?_
    refine lv (.bool true) ?_
    refine ls_end ?_
    refine qn_then ?_
    refine cs_true (by kernel_rfl) ?_
    refine cs_seq ?_
    refine cs_region (l := [_]) ?_
    refine lv (.int .i64 (-1 : Int)) ?_
    refine ls_end ?_
    refine qn_then ?_
    refine cs_ret' ?_
    refine qr_then ?_
    obtain rfl := Option.some.inj H
    refine qr_res (rs := [_]) rfl (fun w' hs => ⟨[.int .i64 (-1 : Int)], (res_tmp (by kernel_rfl) (.nil)), (), rfl, hs.pick (ts := []) (cs := []) trivial (by decide)⟩)
  replace H := ite_f q6 H
  refine ls_know (c := false) (dec_f q6) 15 (by kernel_rfl) ?_
  refine ls_on (j := 6) (t := 15) (b := false) rfl rfl (by kernel_rfl) (by kernel_rfl) ?_
  refine lv (.slice A0 l0.length c0) ?_
  refine ls_on (j := 6) (t := 15) (b := false) rfl rfl (by kernel_rfl) (by kernel_rfl) ?_
  obtain ⟨t7, hc8, H⟩ := bind_some H
  refine ls_callb (fid := 10) (vals := #[.slice A0 l0.length c0]) (X := Unit) (fun x => .bool t7) (fun x => stl []) [] [] [] [] 1 rfl rfl (by kernel_rfl) (fun w => by kernel_rfl) trivial trivial (by decide) (fun w hs hb => extent_Valid.calls k A0 c0 l0 t7 (lent b w [] []) hb (hs.ro R0 _ _) C0 hc8) ?_
  intro x9
  refine ls_on (j := 6) (t := 15) (b := false) rfl rfl (by kernel_rfl) (by kernel_rfl) ?_
  refine lv (.bool (!t7)) ?_
  refine lv (.bool (!t7)) ?_
  refine ls_end ?_
  refine qn_then ?_
  by_cases q10 : t7 = true
  · replace H := ite_t q10 H
    refine cs_know (c := false) (congrArg Bool.not (q10)) 19 (by kernel_rfl) ?_
    refine cs_false (by kernel_rfl) ?_
    refine cs_skip' ?_
    refine qn_then ?_
    refine cs_seq ?_
    refine cs_region (l := [_, _, _, _, _, _]) ?_
    refine lv (.slice A0 l0.length c0) ?_
    refine lv (.int .i64 t2) ?_
    obtain ⟨q11, H⟩ := ite_need H
    obtain ⟨q12, H⟩ := ite_need H
    obtain ⟨ad13, hA14⟩ := ido_at (T := T24) (l := l0) (i := t2) R0 q11 q12
    refine ls_idxv T24 (A := A0) (c := c0) (l := l0) (k := .i64) (i := t2) (z := 2) (ad := ad13) rfl rfl (by kernel_rfl) hA14 rfl (by kernel_rfl) (by kernel_rfl) (by kernel_rfl) (by kernel_rfl) q11 q12 ?_
    refine ls_fieldm (ad := ad13) (off := ((t2).toNat * 2)) rfl rfl (by kernel_rfl) 0 (fun w => by kernel_rfl) ?_
    obtain ⟨y15, hy16, H⟩ := lt_some H
    refine ls_load (a0 := (ad13.add (((t2).toNat * 2) + 0))) (v := .int .i64 (((l0).getD (t2).toNat ((0 : Int), (0 : Int))).1)) (de := (TypeDesc.int .i64)) rfl rfl (by kernel_rfl) rfl (by kernel_rfl) (by kernel_rfl) (by kernel_rfl) (fun w hs => (hs.old R0).at hA14 (Sub4.trans (em_sub T24 l0 (i := (t2).toNat) (by have h0 : (0 : Int) ≤ t2 := q11; have h1 : t2 < (l0.length : Int) := q12; omega)) (Sub4.head _ _))) ?_
    refine ls_ren 24 (v := .int .i64 (((l0).getD (t2).toNat ((0 : Int), (0 : Int))).1)) (v' := .int .i64 y15) (by kernel_rfl) (by rw [hy16]) ?_
    refine lv (.int .i64 y15) ?_
    refine ls_end ?_
    refine qn_then ?_
    refine cs_ret' ?_
    obtain rfl := Option.some.inj H
    refine qr_res (rs := [_]) rfl (fun w' hs => ⟨[.int .i64 y15], (res_tmp (by kernel_rfl) (.nil)), (), rfl, hs.pick (ts := []) (cs := []) trivial (by decide)⟩)
  replace H := ite_f q10 H
  refine cs_know (c := true) (congrArg Bool.not (Bool.eq_false_iff.mpr q10)) 19 (by kernel_rfl) ?_
  refine cs_true (by kernel_rfl) ?_
  refine cs_seq ?_
  refine cs_region (l := [_]) ?_
  refine lv (.int .i64 (-1 : Int)) ?_
  refine ls_end ?_
  refine qn_then ?_
  refine cs_ret' ?_
  refine qr_then ?_
  obtain rfl := Option.some.inj H
  refine qr_res (rs := [_]) rfl (fun w' hs => ⟨[.int .i64 (-1 : Int)], (res_tmp (by kernel_rfl) (.nil)), (), rfl, hs.pick (ts := []) (cs := []) trivial (by decide)⟩)

/-! ### (*shadowbox/alloc.Alloc).none: function 48 -/
def alloc_Alloc_none.f (k : Nat) (v0 : ((Int × Int) × Bool × Int × (List (Int × Int)) × Unit × (List (Int × Int)))) (w0_4 : (Bool × (List (Int × Int)))) : Option (Bool) :=
  some (!v0.2.1)
set_option maxRecDepth 100000 in
set_option maxHeartbeats 4000000 in
theorem alloc_Alloc_none.calls (k : Nat) (pg0 : Nat) (A0_3 : Option Addr) (c0_3 : Nat) (r0_4 : Nat) (A0_5 : Option Addr) (c0_5 : Nat) (v0 : ((Int × Int) × Bool × Int × (List (Int × Int)) × Unit × (List (Int × Int)))) (A0_4 : Option Addr) (c0_4 : Nat) (w0_4 : (Bool × (List (Int × Int)))) (r : Bool) (b : Bs) (hs0 : St b (stl [Ck.var 66 pg0 ((([Value.int .i64 v0.1.1] ++ [Value.int .i64 v0.1.2]) ++ ([Value.bool v0.2.1] ++ ([Value.int .i64 v0.2.2.1] ++ ([Value.slice A0_3 v0.2.2.2.1.length c0_3] ++ ([Value.map (some r0_4)] ++ [Value.slice A0_5 v0.2.2.2.2.2.length c0_5])))))), Ck.m1 r0_4 w0_4.1 A0_4 w0_4.2.length c0_4, Ck.sl T24 A0_4 c0_4 w0_4.2]) b.w) (R0_3 : Ro b A0_3 (em T24 v0.2.2.2.1)) (C0_3 : v0.2.2.2.1.length ≤ c0_3) (R0_5 : Ro b A0_5 (em T24 v0.2.2.2.2.2)) (C0_5 : v0.2.2.2.2.2.length ≤ c0_5) (H : alloc_Alloc_none.f k v0 w0_4 = some r) :
    Calls Try.prog 48 #[.pointer (some ⟨pg0, 0, none⟩)] b.w fun e w' => ∃ x : Unit, e = .returned (.bool r) ∧ St b (stl [Ck.var 66 pg0 ((([Value.int .i64 v0.1.1] ++ [Value.int .i64 v0.1.2]) ++ ([Value.bool v0.2.1] ++ ([Value.int .i64 v0.2.2.1] ++ ([Value.slice A0_3 v0.2.2.2.1.length c0_3] ++ ([Value.map (some r0_4)] ++ [Value.slice A0_5 v0.2.2.2.2.2.length c0_5])))))), Ck.m1 r0_4 w0_4.1 A0_4 w0_4.2.length c0_4, Ck.sl T24 A0_4 c0_4 w0_4.2]) w' := by
  unfold alloc_Alloc_none.f at H
  refine enterb (n := 12) Try.func48 rfl (by kernel_rfl) (by kernel_rfl) hs0 ?_
  refine cs_sub (sput (sput (sput s0 0 (some (Ck.var 66 pg0 ((([Value.int .i64 v0.1.1] ++ [Value.int .i64 v0.1.2]) ++ ([Value.bool v0.2.1] ++ ([Value.int .i64 v0.2.2.1] ++ ([Value.slice A0_3 v0.2.2.2.1.length c0_3] ++ ([Value.map (some r0_4)] ++ [Value.slice A0_5 v0.2.2.2.2.2.length c0_5]))))))))) 1 (some (Ck.m1 r0_4 w0_4.1 A0_4 w0_4.2.length c0_4))) 2 (some (Ck.sl T24 A0_4 c0_4 w0_4.2))) (sub_put (by exact rfl) (sub_put (by exact rfl) (sub_put (by exact rfl) (sub_nil _)))) ?_
  refine cs_seq ?_
  refine cs_region (l := [_]) ?_
  refine lv (.bool false) ?_
  refine ls_end ?_
  refine qn_then ?_
  refine cs_seq ?_
  refine cs_region (l := [_, _, _, _, _, _, _, _, _, _]) ?_
  refine lv (.pointer (some ⟨pg0, 0, none⟩)) ?_
  refine lv (.bool false) ?_
  refine lv (.bool false) ?_
  refine ls_on (j := 2) (t := 5) (b := false) rfl rfl (by kernel_rfl) (by kernel_rfl) ?_
  refine lv (.pointer (some ⟨pg0, 0, none⟩)) ?_
  refine ls_on (j := 2) (t := 5) (b := false) rfl rfl (by kernel_rfl) (by kernel_rfl) ?_
  refine lv (.pointer (some ⟨pg0, 0, none⟩)) ?_
  refine ls_on (j := 2) (t := 5) (b := false) rfl rfl (by kernel_rfl) (by kernel_rfl) ?_
  refine lv (.pointer (some ⟨pg0, (0 + 2), none⟩)) ?_
  refine ls_on (j := 2) (t := 5) (b := false) rfl rfl (by kernel_rfl) (by kernel_rfl) ?_
  refine ls_load (a0 := ⟨pg0, (0 + 2), none⟩) (v := .bool v0.2.1) (de := TypeDesc.bool) rfl rfl (by kernel_rfl) rfl (by kernel_rfl) (by kernel_rfl) (by kernel_rfl) (fun w hs => (hs.var (k := 0) (by exact rfl) (Sub4.trans (Sub4.all _) (Sub4.skip (n := 2) (len_app (len1 _) (len1 _)) (Sub4.head _ _))))) ?_
  refine ls_on (j := 2) (t := 5) (b := false) rfl rfl (by kernel_rfl) (by kernel_rfl) ?_
  refine lv (.bool (!v0.2.1)) ?_
  refine lv (.bool (!v0.2.1)) ?_
  refine lv (.bool (!v0.2.1)) ?_
  refine ls_end ?_
  refine qn_then ?_
  refine cs_ret' ?_
  obtain rfl := Option.some.inj H
  refine qr_res (rs := [_]) rfl (fun w' hs => ⟨[.bool (!v0.2.1)], (res_tmp (by kernel_rfl) (.nil)), (), rfl, hs.pick (ts := [0, 1, 2]) (cs := [Ck.var 66 pg0 ((([Value.int .i64 v0.1.1] ++ [Value.int .i64 v0.1.2]) ++ ([Value.bool v0.2.1] ++ ([Value.int .i64 v0.2.2.1] ++ ([Value.slice A0_3 v0.2.2.2.1.length c0_3] ++ ([Value.map (some r0_4)] ++ [Value.slice A0_5 v0.2.2.2.2.2.length c0_5])))))), Ck.m1 r0_4 w0_4.1 A0_4 w0_4.2.length c0_4, Ck.sl T24 A0_4 c0_4 w0_4.2]) ⟨by exact rfl, by exact rfl, by exact rfl, trivial⟩ (by decide)⟩)

/-! ### (*shadowbox/alloc.Alloc).Take: function 28 -/
def alloc_Alloc_Take.tab3 : List (List Nat) := [[], [0], [0, 1], [0, 1, 2], [0, 1, 2, 3], [0, 1, 2, 3, 4], [0, 1, 2, 3, 4, 5], [0, 1, 2, 3, 4, 5, 6], [0, 1, 2, 3, 4, 5, 6, 7], [0, 1, 2, 3, 4, 5, 6, 7, 8], [0, 1, 2, 3, 4, 5, 6, 7, 8, 9], [0, 1, 2, 3, 4, 5], [0, 1, 2, 3, 4, 5, 6, 7, 8, 9, 10, 11], [0, 1, 2, 3, 4, 5], [0, 1, 2, 3, 4, 5, 13], [0, 1, 2, 3, 4, 5, 13, 14], [0, 1, 2, 3, 4, 5, 13, 14, 15], [0, 1, 2, 3, 4, 5, 6, 7, 8, 9, 10, 11, 12, 13, 14, 15, 16], [0, 1, 2, 3, 4, 5, 6, 7, 8, 9, 10, 11, 12, 13, 14, 15, 16, 17], [0, 1, 2, 3, 4, 5, 6, 7, 8, 9, 10, 11, 12, 13, 14, 15, 16, 17, 18]]
def alloc_Alloc_Take.jo1 (k : Nat) (v0 : ((Int × Int) × Bool × Int × (List (Int × Int)) × Unit × (List (Int × Int)))) (a1 : Int) (a2 : Bool) : Option (Int × Int × ((Int × Int) × Bool × Int × (List (Int × Int)) × Unit × (List (Int × Int)))) := (extent_Find.f k v0.2.2.2.1 a1).bind fun t1 => (if t1 < (0 : Int) then some ((0 : Int), (15 : Int), (v0.1, v0.2.1, v0.2.2.1, v0.2.2.2.1, (), v0.2.2.2.2.2)) else (if a2 = true then (extent_Remove.f k v0.2.2.2.1 (t1, IntKind.wrap .i64 (t1 + a1))).bind fun t8 => some (t1, (0 : Int), (v0.1, v0.2.1, v0.2.2.1, t8, (), v0.2.2.2.2.2)) else (extent_Total.f k v0.2.2.2.1).bind fun t16 => (if (IntKind.wrap .i64 (t16 - a1)) < v0.2.2.1 then some ((0 : Int), (15 : Int), (v0.1, v0.2.1, v0.2.2.1, v0.2.2.2.1, (), v0.2.2.2.2.2)) else (extent_Remove.f k v0.2.2.2.1 (t1, IntKind.wrap .i64 (t1 + a1))).bind fun t20 => some (t1, (0 : Int), (v0.1, v0.2.1, v0.2.2.1, t20, (), v0.2.2.2.2.2)))))
def alloc_Alloc_Take.f (k : Nat) (v0 : ((Int × Int) × Bool × Int × (List (Int × Int)) × Unit × (List (Int × Int)))) (w0_4 : (Bool × (List (Int × Int)))) (a1 : Int) (a2 : Bool) : Option (Int × Int × ((Int × Int) × Bool × Int × (List (Int × Int)) × Unit × (List (Int × Int)))) :=
  (alloc_Alloc_none.f k (v0.1, v0.2.1, v0.2.2.1, v0.2.2.2.1, (), v0.2.2.2.2.2) (w0_4.1, w0_4.2)).bind fun t28 => (if t28 = true then some ((0 : Int), (1 : Int), (v0.1, v0.2.1, v0.2.2.1, v0.2.2.2.1, (), v0.2.2.2.2.2)) else (if a1 < (1 : Int) then some ((0 : Int), (2 : Int), (v0.1, v0.2.1, v0.2.2.1, v0.2.2.2.1, (), v0.2.2.2.2.2)) else (alloc_Alloc_Take.jo1 k v0 a1 a2)))
set_option maxRecDepth 100000 in
set_option maxHeartbeats 4000000 in
theorem alloc_Alloc_Take.calls (k : Nat) (pg0 : Nat) (A0_3 : Option Addr) (c0_3 : Nat) (r0_4 : Nat) (A0_5 : Option Addr) (c0_5 : Nat) (v0 : ((Int × Int) × Bool × Int × (List (Int × Int)) × Unit × (List (Int × Int)))) (A0_4 : Option Addr) (c0_4 : Nat) (w0_4 : (Bool × (List (Int × Int)))) (a1 : Int) (a2 : Bool) (r : Int × Int × ((Int × Int) × Bool × Int × (List (Int × Int)) × Unit × (List (Int × Int)))) (b : Bs) (hs0 : St b (stl [Ck.var 66 pg0 ((([Value.int .i64 v0.1.1] ++ [Value.int .i64 v0.1.2]) ++ ([Value.bool v0.2.1] ++ ([Value.int .i64 v0.2.2.1] ++ ([Value.slice A0_3 v0.2.2.2.1.length c0_3] ++ ([Value.map (some r0_4)] ++ [Value.slice A0_5 v0.2.2.2.2.2.length c0_5])))))), Ck.m1 r0_4 w0_4.1 A0_4 w0_4.2.length c0_4, Ck.sl T24 A0_4 c0_4 w0_4.2]) b.w) (R0_3 : Ro b A0_3 (em T24 v0.2.2.2.1)) (C0_3 : v0.2.2.2.1.length ≤ c0_3) (R0_5 : Ro b A0_5 (em T24 v0.2.2.2.2.2)) (C0_5 : v0.2.2.2.2.2.length ≤ c0_5) (H : alloc_Alloc_Take.f k v0 w0_4 a1 a2 = some r) :
    Calls Try.prog 28 #[.pointer (some ⟨pg0, 0, none⟩), .int .i64 a1, .bool a2] b.w fun e w' => ∃ b', b.le b' ∧ ∃ x : (Option Addr × Nat) × (Option Addr × Nat), e = .returned (.tuple #[.int .i64 r.1, .int .i64 r.2.1]) ∧ ((Ro b' x.1.1 (em T24 r.2.2.2.2.2.1) ∧ r.2.2.2.2.2.1.length ≤ x.1.2) ∧ (Ro b' x.2.1 (em T24 r.2.2.2.2.2.2.2) ∧ r.2.2.2.2.2.2.2.length ≤ x.2.2)) ∧ St b' (stl [Ck.var 66 pg0 ((([Value.int .i64 r.2.2.1.1] ++ [Value.int .i64 r.2.2.1.2]) ++ ([Value.bool r.2.2.2.1] ++ ([Value.int .i64 r.2.2.2.2.1] ++ ([Value.slice x.1.1 r.2.2.2.2.2.1.length x.1.2] ++ ([Value.map (some r0_4)] ++ [Value.slice x.2.1 r.2.2.2.2.2.2.2.length x.2.2])))))), Ck.m1 r0_4 w0_4.1 A0_4 w0_4.2.length c0_4, Ck.sl T24 A0_4 c0_4 w0_4.2]) w' := by
  unfold alloc_Alloc_Take.f at H
  refine enterb (n := 55) Try.func28 rfl (by kernel_rfl) (by kernel_rfl) hs0 ?_
  refine cs_sub (sput (sput (sput s0 0 (some (Ck.var 66 pg0 ((([Value.int .i64 v0.1.1] ++ [Value.int .i64 v0.1.2]) ++ ([Value.bool v0.2.1] ++ ([Value.int .i64 v0.2.2.1] ++ ([Value.slice A0_3 v0.2.2.2.1.length c0_3] ++ ([Value.map (some r0_4)] ++ [Value.slice A0_5 v0.2.2.2.2.2.length c0_5]))))))))) 1 (some (Ck.m1 r0_4 w0_4.1 A0_4 w0_4.2.length c0_4))) 2 (some (Ck.sl T24 A0_4 c0_4 w0_4.2))) (sub_put (by exact rfl) (sub_put (by exact rfl) (sub_put (by exact rfl) (sub_nil _)))) ?_
  refine cs_seq ?_
  refine cs_region (l := [_, _]) ?_
  refine lv (.int .i64 (0 : Int)) ?_
  refine lv (.int .i64 (0 : Int)) ?_
  refine ls_end ?_
  refine qn_then ?_
  refine cs_cut (fun f S => ∃ (fR : Fr), f = upd (upd (upd fR 0 (.pointer (some ⟨pg0, 0, none⟩))) 1 (.int .i64 a1)) 2 (.bool a2) ∧ S = sput (sput (sput s0 0 (some (Ck.var 66 pg0 ((([Value.int .i64 v0.1.1] ++ [Value.int .i64 v0.1.2]) ++ ([Value.bool v0.2.1] ++ ([Value.int .i64 v0.2.2.1] ++ ([Value.slice A0_3 v0.2.2.2.1.length c0_3] ++ ([Value.map (some r0_4)] ++ [Value.slice A0_5 v0.2.2.2.2.2.length c0_5]))))))))) 1 (some (Ck.m1 r0_4 w0_4.1 A0_4 w0_4.2.length c0_4))) 2 (some (Ck.sl T24 A0_4 c0_4 w0_4.2)) ∧ alloc_Alloc_Take.jo1 k v0 a1 a2 = some r) ?_ ?_
  · skip
    refine cs_block ?_
    refine cs_seq ?_
    refine cs_region (l := [_, _, _]) ?_
    refine lv (.pointer (some ⟨pg0, 0, none⟩)) ?_
    obtain ⟨t28, hc29, H⟩ := bind_some H
    refine ls_callb (fid := 48) (vals := #[.pointer (some ⟨pg0, 0, none⟩)]) (X := Unit) (fun x => .bool t28) (fun x => stl [Ck.var 66 pg0 ((([Value.int .i64 v0.1.1] ++ [Value.int .i64 v0.1.2]) ++ ([Value.bool v0.2.1] ++ ([Value.int .i64 v0.2.2.1] ++ ([Value.slice A0_3 v0.2.2.2.1.length c0_3] ++ ([Value.map (some r0_4)] ++ [Value.slice A0_5 v0.2.2.2.2.2.length c0_5])))))), Ck.m1 r0_4 w0_4.1 A0_4 w0_4.2.length c0_4, Ck.sl T24 A0_4 c0_4 w0_4.2]) [0, 1, 2] [] [Ck.var 66 pg0 ((([Value.int .i64 v0.1.1] ++ [Value.int .i64 v0.1.2]) ++ ([Value.bool v0.2.1] ++ ([Value.int .i64 v0.2.2.1] ++ ([Value.slice A0_3 v0.2.2.2.1.length c0_3] ++ ([Value.map (some r0_4)] ++ [Value.slice A0_5 v0.2.2.2.2.2.length c0_5])))))), Ck.m1 r0_4 w0_4.1 A0_4 w0_4.2.length c0_4, Ck.sl T24 A0_4 c0_4 w0_4.2] [] 3 rfl rfl (by kernel_rfl) (fun w => by kernel_rfl) ⟨by exact rfl, by exact rfl, by exact rfl, trivial⟩ trivial (by decide) (fun w hs hb => alloc_Alloc_none.calls k pg0 A0_3 c0_3 r0_4 A0_5 c0_5 (v0.1, v0.2.1, v0.2.2.1, v0.2.2.2.1, (), v0.2.2.2.2.2) A0_4 c0_4 (w0_4.1, w0_4.2) t28 (lent b w [Ck.var 66 pg0 ((([Value.int .i64 v0.1.1] ++ [Value.int .i64 v0.1.2]) ++ ([Value.bool v0.2.1] ++ ([Value.int .i64 v0.2.2.1] ++ ([Value.slice A0_3 v0.2.2.2.1.length c0_3] ++ ([Value.map (some r0_4)] ++ [Value.slice A0_5 v0.2.2.2.2.2.length c0_5])))))), Ck.m1 r0_4 w0_4.1 A0_4 w0_4.2.length c0_4, Ck.sl T24 A0_4 c0_4 w0_4.2] []) hb (hs.ro R0_3 _ _) C0_3 (hs.ro R0_5 _ _) C0_5 hc29) ?_
    intro x30
    refine lv (.bool t28) ?_
    refine ls_end ?_
    refine qn_then ?_
    by_cases q31 : t28 = true
    · replace H := ite_t q31 H
      refine cs_know (c := true) (q31) 9 (by kernel_rfl) ?_
      refine cs_true (by kernel_rfl) ?_
      refine cs_seq ?_
      refine cs_region (l := [_, _]) ?_
      refine lv (.int .i64 (0 : Int)) ?_
      refine lv (.int .i64 (1 : Int)) ?_
      refine ls_end ?_
      refine qn_then ?_
      refine cs_ret' ?_
      refine qr_block ?_
      refine qr_then ?_
      obtain rfl := Option.some.inj H
      refine qr_res (rs := [_, _]) rfl (fun w' hs => ⟨[.int .i64 (0 : Int), .int .i64 (1 : Int)], (res_tmp (by kernel_rfl) (res_tmp (by kernel_rfl) (.nil))), b, (Bs.le.refl b), ((A0_3, c0_3), (A0_5, c0_5)), rfl, ⟨⟨R0_3, C0_3⟩, ⟨R0_5, C0_5⟩⟩, hs.pick (ts := [0, 1, 2]) (cs := [Ck.var 66 pg0 ((([Value.int .i64 v0.1.1] ++ [Value.int .i64 v0.1.2]) ++ ([Value.bool v0.2.1] ++ ([Value.int .i64 v0.2.2.1] ++ ([Value.slice A0_3 v0.2.2.2.1.length c0_3] ++ ([Value.map (some r0_4)] ++ [Value.slice A0_5 v0.2.2.2.2.2.length c0_5])))))), Ck.m1 r0_4 w0_4.1 A0_4 w0_4.2.length c0_4, Ck.sl T24 A0_4 c0_4 w0_4.2]) ⟨by exact rfl, by exact rfl, by exact rfl, trivial⟩ (by decide)⟩)
    replace H := ite_f q31 H
    refine cs_know (c := false) (Bool.eq_false_iff.mpr q31) 9 (by kernel_rfl) ?_
    refine cs_false (by kernel_rfl) ?_
    refine cs_seq ?_
    refine cs_region (l := [_, _, _]) ?_
    refine lv (.int .i64 a1) ?_
    refine lv (.bool (decide (a1 < (1 : Int)))) ?_
    refine lv (.bool (decide (a1 < (1 : Int)))) ?_
    refine ls_end ?_
    refine qn_then ?_
    by_cases q32 : a1 < (1 : Int)
    · replace H := ite_t q32 H
      refine cs_know (c := true) (dec_t q32) 12 (by kernel_rfl) ?_
      refine cs_true (by kernel_rfl) ?_
      refine cs_seq ?_
      refine cs_region (l := [_, _]) ?_
      refine lv (.int .i64 (0 : Int)) ?_
      refine lv (.int .i64 (2 : Int)) ?_
      refine ls_end ?_
      refine qn_then ?_
      refine cs_ret' ?_
      refine qr_block ?_
      refine qr_then ?_
      obtain rfl := Option.some.inj H
      refine qr_res (rs := [_, _]) rfl (fun w' hs => ⟨[.int .i64 (0 : Int), .int .i64 (2 : Int)], (res_tmp (by kernel_rfl) (res_tmp (by kernel_rfl) (.nil))), b, (Bs.le.refl b), ((A0_3, c0_3), (A0_5, c0_5)), rfl, ⟨⟨R0_3, C0_3⟩, ⟨R0_5, C0_5⟩⟩, hs.pick (ts := [0, 1, 2]) (cs := [Ck.var 66 pg0 ((([Value.int .i64 v0.1.1] ++ [Value.int .i64 v0.1.2]) ++ ([Value.bool v0.2.1] ++ ([Value.int .i64 v0.2.2.1] ++ ([Value.slice A0_3 v0.2.2.2.1.length c0_3] ++ ([Value.map (some r0_4)] ++ [Value.slice A0_5 v0.2.2.2.2.2.length c0_5])))))), Ck.m1 r0_4 w0_4.1 A0_4 w0_4.2.length c0_4, Ck.sl T24 A0_4 c0_4 w0_4.2]) ⟨by exact rfl, by exact rfl, by exact rfl, trivial⟩ (by decide)⟩)
    replace H := ite_f q32 H
    refine cs_know (c := false) (dec_f q32) 12 (by kernel_rfl) ?_
    refine cs_false (by kernel_rfl) ?_
    refine cs_skip' ?_
    refine qn_block ?_
    refine qn_meet (sput (sput (sput s0 0 (some (Ck.var 66 pg0 ((([Value.int .i64 v0.1.1] ++ [Value.int .i64 v0.1.2]) ++ ([Value.bool v0.2.1] ++ ([Value.int .i64 v0.2.2.1] ++ ([Value.slice A0_3 v0.2.2.2.1.length c0_3] ++ ([Value.map (some r0_4)] ++ [Value.slice A0_5 v0.2.2.2.2.2.length c0_5]))))))))) 1 (some (Ck.m1 r0_4 w0_4.1 A0_4 w0_4.2.length c0_4))) 2 (some (Ck.sl T24 A0_4 c0_4 w0_4.2))) ⟨_, fr_next (fr_next (fr_next (rfl) (by kernel_rfl)) (by kernel_rfl)) (by kernel_rfl), rfl, H⟩ (sub_put (by exact rfl) (sub_put (by exact rfl) (sub_put (by exact rfl) (sub_nil _))))
  rintro f S ⟨fr1, rfl, rfl, H⟩
  replace H : ((extent_Find.f k v0.2.2.2.1 a1).bind fun t1 => (if t1 < (0 : Int) then some ((0 : Int), (15 : Int), (v0.1, v0.2.1, v0.2.2.1, v0.2.2.2.1, (), v0.2.2.2.2.2)) else (if a2 = true then (extent_Remove.f k v0.2.2.2.1 (t1, IntKind.wrap .i64 (t1 + a1))).bind fun t8 => some (t1, (0 : Int), (v0.1, v0.2.1, v0.2.2.1, t8, (), v0.2.2.2.2.2)) else (extent_Total.f k v0.2.2.2.1).bind fun t16 => (if (IntKind.wrap .i64 (t16 - a1)) < v0.2.2.1 then some ((0 : Int), (15 : Int), (v0.1, v0.2.1, v0.2.2.1, v0.2.2.2.1, (), v0.2.2.2.2.2)) else (extent_Remove.f k v0.2.2.2.1 (t1, IntKind.wrap .i64 (t1 + a1))).bind fun t20 => some (t1, (0 : Int), (v0.1, v0.2.1, v0.2.2.1, t20, (), v0.2.2.2.2.2)))))) = some r := H
  refine cs_seq ?_
  refine cs_region (l := [_, _, _, _, _, _, _]) ?_
  refine lv (.pointer (some ⟨pg0, 0, none⟩)) ?_
  refine lv (.pointer (some ⟨pg0, 0, none⟩)) ?_
  refine lv (.pointer (some ⟨pg0, (0 + 4), none⟩)) ?_
  refine ls_load (a0 := ⟨pg0, (0 + 4), none⟩) (v := .slice A0_3 v0.2.2.2.1.length c0_3) (de := (TypeDesc.slice 24)) rfl rfl (by kernel_rfl) rfl (by kernel_rfl) (by kernel_rfl) (by kernel_rfl) (fun w hs => (hs.var (k := 0) (by exact rfl) (Sub4.trans (Sub4.all _) (Sub4.skip (n := 2) (len_app (len1 _) (len1 _)) (Sub4.skip (n := 1) (len1 _) (Sub4.skip (n := 1) (len1 _) (Sub4.head _ _))))))) ?_
  refine lv (.int .i64 a1) ?_
  obtain ⟨t1, hc2, H⟩ := bind_some H
  refine ls_callb (fid := 24) (vals := #[.slice A0_3 v0.2.2.2.1.length c0_3, .int .i64 a1]) (X := Unit) (fun x => .int .i64 t1) (fun x => stl []) [] [] [] [] 3 rfl rfl (by kernel_rfl) (fun w => by kernel_rfl) trivial trivial (by decide) (fun w hs hb => extent_Find.calls k A0_3 c0_3 v0.2.2.2.1 a1 t1 (lent b w [] []) hb (hs.ro R0_3 _ _) C0_3 hc2) ?_
  intro x3
  refine lv (.int .i64 t1) ?_
  refine ls_end ?_
  refine qn_then ?_
  refine cs_seq ?_
  refine cs_seq ?_
  obtain ⟨s5_0, hs5_0⟩ := exv (.int .i64 t1)
  refine have_opa alloc_Alloc_Take.tab3 3 0 (fun sp => sp 0 = s5_0) (fun sp on hA hon => ?_) (fun ops5_0 => ?_)
  · refine ⟨fun o ho vs Rs f' S' w hp hf hx hS hR hs => ?_⟩
    obtain rfl := Option.some.inj ho
    exact opv (.int .i64 t1) hA hs5_0 hon (fr_next (rfl) ((hx 8 (by kernel_rfl)).trans (by kernel_rfl : (_ : Value) = .int .i64 t1)))
  obtain ⟨s5_1, hs5_1⟩ := exv (.bool (decide (t1 < (0 : Int))))
  refine have_opa alloc_Alloc_Take.tab3 3 1 (fun sp => sp 1 = s5_1 ∧ sp 0 = s5_0) (fun sp on hA hon => ?_) (fun ops5_1 => ?_)
  · refine ⟨fun o ho vs Rs f' S' w hp hf hx hS hR hs => ?_⟩
    obtain rfl := Option.some.inj ho
    obtain ⟨hv0, hR0⟩ := (spe hA.2 hs5_0 (hp 0 (by kernel_rfl)))
    exact opv (.bool (decide (t1 < (0 : Int)))) hA.1 hs5_1 hon (fr_next (rfl) ((hf 0 21 (by kernel_rfl) rfl).trans hv0))
  obtain ⟨s5_2, hs5_2⟩ := exv (.bool (decide (t1 < (0 : Int))))
  refine have_opa alloc_Alloc_Take.tab3 3 2 (fun sp => sp 2 = s5_2 ∧ sp 1 = s5_1) (fun sp on hA hon => ?_) (fun ops5_2 => ?_)
  · refine ⟨fun o ho vs Rs f' S' w hp hf hx hS hR hs => ?_⟩
    obtain rfl := Option.some.inj ho
    obtain ⟨hv1, hR1⟩ := (spe hA.2 hs5_1 (hp 1 (by kernel_rfl)))
    exact opv (.bool (decide (t1 < (0 : Int)))) hA.1 hs5_2 hon (fr_next (rfl) ((hf 1 22 (by kernel_rfl) rfl).trans hv1))
  by_cases q6 : t1 < (0 : Int)
  · replace H := ite_t q6 H
    refine cs_draw alloc_Alloc_Take.tab3 17 3 (spl [s5_0, s5_1, s5_2, spu, spu, spu, spu, spu, spu, spu, spu, spu, spu, spu, spu, spu, spu]) (onl [true, true, true, false, false, false, false, false, false, false, false, false, false, false, false, false, false]) (by kernel_rfl) (by kernel_rfl) (by kernel_rfl) (by kernel_rfl) (rs := [_, _, _]) rfl (by kernel_rfl) (by kernel_rfl) (all_snoc (all_snoc (all_snoc (all_snoc (all_snoc (all_snoc (all_snoc (all_snoc (all_snoc (all_snoc (all_snoc (all_snoc (all_snoc (all_snoc (all_snoc (all_snoc (all_snoc (all_nil) (ops5_0 _ _ rfl rfl)) (ops5_1 _ _ ⟨rfl, rfl⟩ rfl)) (ops5_2 _ _ ⟨rfl, rfl⟩ rfl)) (op_offi 3 2 23 false rfl rfl (by kernel_rfl) (by kernel_rfl) rfl (fun v R h => by rw [hs5_2] at h; obtain ⟨h, _⟩ := h; exact h.trans (congrArg Value.bool (show (decide (t1 < (0 : Int))) = true from dec_t q6))) rfl rfl)) (op_offi 4 2 23 false rfl rfl (by kernel_rfl) (by kernel_rfl) rfl (fun v R h => by rw [hs5_2] at h; obtain ⟨h, _⟩ := h; exact h.trans (congrArg Value.bool (show (decide (t1 < (0 : Int))) = true from dec_t q6))) rfl rfl)) (op_offi 5 2 23 false rfl rfl (by kernel_rfl) (by kernel_rfl) rfl (fun v R h => by rw [hs5_2] at h; obtain ⟨h, _⟩ := h; exact h.trans (congrArg Value.bool (show (decide (t1 < (0 : Int))) = true from dec_t q6))) rfl rfl)) (op_offu 6 5 26 true rfl rfl (by kernel_rfl) (by kernel_rfl) rfl rfl rfl)) (op_offu 7 5 26 true rfl rfl (by kernel_rfl) (by kernel_rfl) rfl rfl rfl)) (op_offu 8 5 26 true rfl rfl (by kernel_rfl) (by kernel_rfl) rfl rfl rfl)) (op_offu 9 5 26 true rfl rfl (by kernel_rfl) (by kernel_rfl) rfl rfl rfl)) (op_offu 10 5 26 true rfl rfl (by kernel_rfl) (by kernel_rfl) rfl rfl rfl)) (op_offu 11 5 26 true rfl rfl (by kernel_rfl) (by kernel_rfl) rfl rfl rfl)) (op_offu 12 5 26 true rfl rfl (by kernel_rfl) (by kernel_rfl) rfl rfl rfl)) (op_offu 13 5 26 true rfl rfl (by kernel_rfl) (by kernel_rfl) rfl rfl rfl)) (op_offu 14 5 26 true rfl rfl (by kernel_rfl) (by kernel_rfl) rfl rfl rfl)) (op_offu 15 5 26 true rfl rfl (by kernel_rfl) (by kernel_rfl) rfl rfl rfl)) (op_offu 16 5 26 true rfl rfl (by kernel_rfl) (by kernel_rfl) rfl rfl rfl)) ?_
    intro vs Rs f' S' hp hf hx hS hR
    obtain ⟨hv2, hR2⟩ := (spe rfl hs5_2 (hp 2 (by kernel_rfl)))
    obtain ⟨hv5, hR5⟩ := (spe rfl rfl (hp 5 (by kernel_rfl)) : spu _ _)
    obtain ⟨hv12, hR12⟩ := (spe rfl rfl (hp 12 (by kernel_rfl)) : spu _ _)
    obtain ⟨hv16, hR16⟩ := (spe rfl rfl (hp 16 (by kernel_rfl)) : spu _ _)
    refine ls_fr (F := upd (upd (upd (upd (upd f' 0 (.pointer (some ⟨pg0, 0, none⟩))) 1 (.int .i64 a1)) 8 (.int .i64 t1)) 23 (.bool (decide (t1 < (0 : Int))))) 26 undef) (fr_next (fr_next (fr_next (fr_next (fr_next (rfl) ((hx 0 (by kernel_rfl)).trans (by kernel_rfl : (_ : Value) = .pointer (some ⟨pg0, 0, none⟩)))) ((hx 1 (by kernel_rfl)).trans (by kernel_rfl : (_ : Value) = .int .i64 a1))) ((hx 8 (by kernel_rfl)).trans (by kernel_rfl : (_ : Value) = .int .i64 t1))) ((hf 2 23 (by kernel_rfl) rfl).trans hv2)) ((hf 5 26 (by kernel_rfl) rfl).trans hv5)) ?_
    refine ls_sub (sput (sput (sput s0 0 (some (Ck.var 66 pg0 ((([Value.int .i64 v0.1.1] ++ [Value.int .i64 v0.1.2]) ++ ([Value.bool v0.2.1] ++ ([Value.int .i64 v0.2.2.1] ++ ([Value.slice A0_3 v0.2.2.2.1.length c0_3] ++ ([Value.map (some r0_4)] ++ [Value.slice A0_5 v0.2.2.2.2.2.length c0_5]))))))))) 1 (some (Ck.m1 r0_4 w0_4.1 A0_4 w0_4.2.length c0_4))) 2 (some (Ck.sl T24 A0_4 c0_4 w0_4.2))) (sub_put ((hS 2 (by kernel_rfl)).trans (by exact rfl)) (sub_put ((hS 1 (by kernel_rfl)).trans (by exact rfl)) (sub_put ((hS 0 (by kernel_rfl)).trans (by exact rfl)) (sub_nil _)))) ?_
    refine ls_offu (j := 5) (t := 26) (b := true) rfl rfl (by kernel_rfl) (by kernel_rfl) rfl (by kernel_rfl) ?_
    refine ls_know (c := true) (dec_t q6) 23 (by kernel_rfl) ?_
    refine lofx 2 23 false true ?_
    refine lv (.bool true) ?_
    refine ls_end ?_
    refine qn_then ?_
    refine cs_true (by kernel_rfl) ?_
    refine cs_seq ?_
    refine cs_region (l := [_, _]) ?_
    refine lv (.int .i64 (0 : Int)) ?_
    refine lv (.int .i64 (15 : Int)) ?_
    refine ls_end ?_
    refine qn_then ?_
    refine cs_ret' ?_
    refine qr_then ?_
    obtain rfl := Option.some.inj H
    refine qr_res (rs := [_, _]) rfl (fun w' hs => ⟨[.int .i64 (0 : Int), .int .i64 (15 : Int)], (res_tmp (by kernel_rfl) (res_tmp (by kernel_rfl) (.nil))), b, (Bs.le.refl b), ((A0_3, c0_3), (A0_5, c0_5)), rfl, ⟨⟨R0_3, C0_3⟩, ⟨R0_5, C0_5⟩⟩, hs.pick (ts := [0, 1, 2]) (cs := [Ck.var 66 pg0 ((([Value.int .i64 v0.1.1] ++ [Value.int .i64 v0.1.2]) ++ ([Value.bool v0.2.1] ++ ([Value.int .i64 v0.2.2.1] ++ ([Value.slice A0_3 v0.2.2.2.1.length c0_3] ++ ([Value.map (some r0_4)] ++ [Value.slice A0_5 v0.2.2.2.2.2.length c0_5])))))), Ck.m1 r0_4 w0_4.1 A0_4 w0_4.2.length c0_4, Ck.sl T24 A0_4 c0_4 w0_4.2]) ⟨by exact rfl, by exact rfl, by exact rfl, trivial⟩ (by decide)⟩)
  replace H := ite_f q6 H
  obtain ⟨s5_3, hs5_3⟩ := exv (.bool a2)
  refine have_opa alloc_Alloc_Take.tab3 3 3 (fun sp => sp 3 = s5_3 ∧ sp 2 = s5_2) (fun sp on hA hon => ?_) (fun ops5_3 => ?_)
  · refine ⟨fun o ho vs Rs f' S' w hp hf hx hS hR hs => ?_⟩
    obtain rfl := Option.some.inj ho
    obtain ⟨hv2, hR2⟩ := (spe hA.2 hs5_2 (hp 2 (by kernel_rfl)))
    rw [hA.1, hs5_3]
    refine And.intro (fun a ha => (want_is (j := 2) (t := 23) (r := true) rfl rfl (by kernel_rfl) (((hf 2 23 (by kernel_rfl) rfl).trans hv2).trans (congrArg Value.bool (show (decide (t1 < (0 : Int))) = false from dec_f q6))) rfl a ha).trans hon.symm) (And.intro (fun _ => ?_) (fun h => by rw [hon] at h; cases h))
    have hF := fr_next (fr_next (rfl) ((hx 2 (by kernel_rfl)).trans (by kernel_rfl : (_ : Value) = .bool a2))) (((hf 2 23 (by kernel_rfl) rfl).trans hv2).trans (congrArg Value.bool (show (decide (t1 < (0 : Int))) = false from dec_f q6)))
    refine ls_fr hF ?_
    refine lv (.bool a2) ?_
    exact ls_fin s0 _ (congrArg (fun z => upd z 24 _) hF.symm) ⟨rfl, rfl⟩ (sub_nil _)
  obtain ⟨s5_4, hs5_4⟩ := exv (.bool (!a2))
  refine have_opa alloc_Alloc_Take.tab3 3 4 (fun sp => sp 4 = s5_4 ∧ sp 2 = s5_2 ∧ sp 3 = s5_3) (fun sp on hA hon => ?_) (fun ops5_4 => ?_)
  · refine ⟨fun o ho vs Rs f' S' w hp hf hx hS hR hs => ?_⟩
    obtain rfl := Option.some.inj ho
    obtain ⟨hv2, hR2⟩ := (spe hA.2.1 hs5_2 (hp 2 (by kernel_rfl)))
    obtain ⟨hv3, hR3⟩ := (spe hA.2.2 hs5_3 (hp 3 (by kernel_rfl)))
    rw [hA.1, hs5_4]
    refine And.intro (fun a ha => (want_is (j := 2) (t := 23) (r := true) rfl rfl (by kernel_rfl) (((hf 2 23 (by kernel_rfl) rfl).trans hv2).trans (congrArg Value.bool (show (decide (t1 < (0 : Int))) = false from dec_f q6))) rfl a ha).trans hon.symm) (And.intro (fun _ => ?_) (fun h => by rw [hon] at h; cases h))
    have hF := fr_next (fr_next (rfl) (((hf 2 23 (by kernel_rfl) rfl).trans hv2).trans (congrArg Value.bool (show (decide (t1 < (0 : Int))) = false from dec_f q6)))) ((hf 3 24 (by kernel_rfl) rfl).trans hv3)
    refine ls_fr hF ?_
    refine lv (.bool (!a2)) ?_
    exact ls_fin s0 _ (congrArg (fun z => upd z 25 _) hF.symm) ⟨rfl, rfl⟩ (sub_nil _)
  obtain ⟨s5_5, hs5_5⟩ := exv (.bool (!a2))
  refine have_opa alloc_Alloc_Take.tab3 3 5 (fun sp => sp 5 = s5_5 ∧ sp 2 = s5_2 ∧ sp 4 = s5_4) (fun sp on hA hon => ?_) (fun ops5_5 => ?_)
  · refine ⟨fun o ho vs Rs f' S' w hp hf hx hS hR hs => ?_⟩
    obtain rfl := Option.some.inj ho
    obtain ⟨hv2, hR2⟩ := (spe hA.2.1 hs5_2 (hp 2 (by kernel_rfl)))
    obtain ⟨hv4, hR4⟩ := (spe hA.2.2 hs5_4 (hp 4 (by kernel_rfl)))
    rw [hA.1, hs5_5]
    refine And.intro (fun a ha => (want_is (j := 2) (t := 23) (r := true) rfl rfl (by kernel_rfl) (((hf 2 23 (by kernel_rfl) rfl).trans hv2).trans (congrArg Value.bool (show (decide (t1 < (0 : Int))) = false from dec_f q6))) rfl a ha).trans hon.symm) (And.intro (fun _ => ?_) (fun h => by rw [hon] at h; cases h))
    have hF := fr_next (fr_next (rfl) (((hf 2 23 (by kernel_rfl) rfl).trans hv2).trans (congrArg Value.bool (show (decide (t1 < (0 : Int))) = false from dec_f q6)))) ((hf 4 25 (by kernel_rfl) rfl).trans hv4)
    refine ls_fr hF ?_
    refine lv (.bool (!a2)) ?_
    exact ls_fin s0 _ (congrArg (fun z => upd z 26 _) hF.symm) ⟨rfl, rfl⟩ (sub_nil _)
  by_cases q7 : a2 = true
  · replace H := ite_t q7 H
    refine cs_draw alloc_Alloc_Take.tab3 17 3 (spl [s5_0, s5_1, s5_2, s5_3, s5_4, s5_5, spu, spu, spu, spu, spu, spu, spu, spu, spu, spu, spu]) (onl [true, true, true, true, true, true, false, false, false, false, false, false, false, false, false, false, false]) (by kernel_rfl) (by kernel_rfl) (by kernel_rfl) (by kernel_rfl) (rs := [_, _, _]) rfl (by kernel_rfl) (by kernel_rfl) (all_snoc (all_snoc (all_snoc (all_snoc (all_snoc (all_snoc (all_snoc (all_snoc (all_snoc (all_snoc (all_snoc (all_snoc (all_snoc (all_snoc (all_snoc (all_snoc (all_snoc (all_nil) (ops5_0 _ _ rfl rfl)) (ops5_1 _ _ ⟨rfl, rfl⟩ rfl)) (ops5_2 _ _ ⟨rfl, rfl⟩ rfl)) (ops5_3 _ _ ⟨rfl, rfl⟩ rfl)) (ops5_4 _ _ ⟨rfl, rfl, rfl⟩ rfl)) (ops5_5 _ _ ⟨rfl, rfl, rfl⟩ rfl)) (op_offi 6 5 26 true rfl rfl (by kernel_rfl) (by kernel_rfl) rfl (fun v R h => by rw [hs5_5] at h; obtain ⟨h, _⟩ := h; exact h.trans (congrArg Value.bool (show (!a2) = false from congrArg Bool.not (q7)))) rfl rfl)) (op_offi 7 5 26 true rfl rfl (by kernel_rfl) (by kernel_rfl) rfl (fun v R h => by rw [hs5_5] at h; obtain ⟨h, _⟩ := h; exact h.trans (congrArg Value.bool (show (!a2) = false from congrArg Bool.not (q7)))) rfl rfl)) (op_offi 8 5 26 true rfl rfl (by kernel_rfl) (by kernel_rfl) rfl (fun v R h => by rw [hs5_5] at h; obtain ⟨h, _⟩ := h; exact h.trans (congrArg Value.bool (show (!a2) = false from congrArg Bool.not (q7)))) rfl rfl)) (op_offi 9 5 26 true rfl rfl (by kernel_rfl) (by kernel_rfl) rfl (fun v R h => by rw [hs5_5] at h; obtain ⟨h, _⟩ := h; exact h.trans (congrArg Value.bool (show (!a2) = false from congrArg Bool.not (q7)))) rfl rfl)) (op_offi 10 5 26 true rfl rfl (by kernel_rfl) (by kernel_rfl) rfl (fun v R h => by rw [hs5_5] at h; obtain ⟨h, _⟩ := h; exact h.trans (congrArg Value.bool (show (!a2) = false from congrArg Bool.not (q7)))) rfl rfl)) (op_offi 11 5 26 true rfl rfl (by kernel_rfl) (by kernel_rfl) rfl (fun v R h => by rw [hs5_5] at h; obtain ⟨h, _⟩ := h; exact h.trans (congrArg Value.bool (show (!a2) = false from congrArg Bool.not (q7)))) rfl rfl)) (op_offi 12 5 26 true rfl rfl (by kernel_rfl) (by kernel_rfl) rfl (fun v R h => by rw [hs5_5] at h; obtain ⟨h, _⟩ := h; exact h.trans (congrArg Value.bool (show (!a2) = false from congrArg Bool.not (q7)))) rfl rfl)) (op_offi 13 5 26 true rfl rfl (by kernel_rfl) (by kernel_rfl) rfl (fun v R h => by rw [hs5_5] at h; obtain ⟨h, _⟩ := h; exact h.trans (congrArg Value.bool (show (!a2) = false from congrArg Bool.not (q7)))) rfl rfl)) (op_offi 14 5 26 true rfl rfl (by kernel_rfl) (by kernel_rfl) rfl (fun v R h => by rw [hs5_5] at h; obtain ⟨h, _⟩ := h; exact h.trans (congrArg Value.bool (show (!a2) = false from congrArg Bool.not (q7)))) rfl rfl)) (op_offi 15 5 26 true rfl rfl (by kernel_rfl) (by kernel_rfl) rfl (fun v R h => by rw [hs5_5] at h; obtain ⟨h, _⟩ := h; exact h.trans (congrArg Value.bool (show (!a2) = false from congrArg Bool.not (q7)))) rfl rfl)) (op_offi 16 5 26 true rfl rfl (by kernel_rfl) (by kernel_rfl) rfl (fun v R h => by rw [hs5_5] at h; obtain ⟨h, _⟩ := h; exact h.trans (congrArg Value.bool (show (!a2) = false from congrArg Bool.not (q7)))) rfl rfl)) ?_
    intro vs Rs f' S' hp hf hx hS hR
    obtain ⟨hv2, hR2⟩ := (spe rfl hs5_2 (hp 2 (by kernel_rfl)))
    obtain ⟨hv5, hR5⟩ := (spe rfl hs5_5 (hp 5 (by kernel_rfl)))
    obtain ⟨hv12, hR12⟩ := (spe rfl rfl (hp 12 (by kernel_rfl)) : spu _ _)
    obtain ⟨hv16, hR16⟩ := (spe rfl rfl (hp 16 (by kernel_rfl)) : spu _ _)
    refine ls_fr (F := upd (upd (upd (upd (upd f' 0 (.pointer (some ⟨pg0, 0, none⟩))) 1 (.int .i64 a1)) 8 (.int .i64 t1)) 23 (.bool (decide (t1 < (0 : Int))))) 26 (.bool (!a2))) (fr_next (fr_next (fr_next (fr_next (fr_next (rfl) ((hx 0 (by kernel_rfl)).trans (by kernel_rfl : (_ : Value) = .pointer (some ⟨pg0, 0, none⟩)))) ((hx 1 (by kernel_rfl)).trans (by kernel_rfl : (_ : Value) = .int .i64 a1))) ((hx 8 (by kernel_rfl)).trans (by kernel_rfl : (_ : Value) = .int .i64 t1))) ((hf 2 23 (by kernel_rfl) rfl).trans hv2)) ((hf 5 26 (by kernel_rfl) rfl).trans hv5)) ?_
    refine ls_sub (sput (sput (sput s0 0 (some (Ck.var 66 pg0 ((([Value.int .i64 v0.1.1] ++ [Value.int .i64 v0.1.2]) ++ ([Value.bool v0.2.1] ++ ([Value.int .i64 v0.2.2.1] ++ ([Value.slice A0_3 v0.2.2.2.1.length c0_3] ++ ([Value.map (some r0_4)] ++ [Value.slice A0_5 v0.2.2.2.2.2.length c0_5]))))))))) 1 (some (Ck.m1 r0_4 w0_4.1 A0_4 w0_4.2.length c0_4))) 2 (some (Ck.sl T24 A0_4 c0_4 w0_4.2))) (sub_put ((hS 2 (by kernel_rfl)).trans (by exact rfl)) (sub_put ((hS 1 (by kernel_rfl)).trans (by exact rfl)) (sub_put ((hS 0 (by kernel_rfl)).trans (by exact rfl)) (sub_nil _)))) ?_
    refine ls_know (c := false) (congrArg Bool.not (q7)) 26 (by kernel_rfl) ?_
    refine lofx 5 26 true false ?_
    refine ls_know (c := false) (dec_f q6) 23 (by kernel_rfl) ?_
    refine ls_on (j := 2) (t := 23) (b := false) rfl rfl (by kernel_rfl) (by kernel_rfl) ?_
    refine lv (.bool false) ?_
    refine lv (.bool false) ?_
    refine ls_end ?_
    refine qn_then ?_
    refine cs_false (by kernel_rfl) ?_
    refine cs_skip' ?_
    refine qn_then ?_
    refine cs_seq ?_
    refine cs_region (l := [_, _, _, _, _, _, _, _, _, _, _, _, _, _]) ?_
    refine lv (.pointer (some ⟨pg0, 0, none⟩)) ?_
    refine lv (.pointer (some ⟨pg0, 0, none⟩)) ?_
    refine lv (.pointer (some ⟨pg0, 0, none⟩)) ?_
    refine lv (.pointer (some ⟨pg0, (0 + 4), none⟩)) ?_
    refine ls_load (a0 := ⟨pg0, (0 + 4), none⟩) (v := .slice A0_3 v0.2.2.2.1.length c0_3) (de := (TypeDesc.slice 24)) rfl rfl (by kernel_rfl) rfl (by kernel_rfl) (by kernel_rfl) (by kernel_rfl) (fun w hs => (hs.var (k := 0) (by exact rfl) (Sub4.trans (Sub4.all _) (Sub4.skip (n := 2) (len_app (len1 _) (len1 _)) (Sub4.skip (n := 1) (len1 _) (Sub4.skip (n := 1) (len1 _) (Sub4.head _ _))))))) ?_
    refine lv (.int .i64 t1) ?_
    refine lv (.int .i64 t1) ?_
    refine lv (.int .i64 a1) ?_
    refine lv (.int .i64 (IntKind.wrap .i64 (t1 + a1))) ?_
    refine lv (.agg ⟨([Value.int .i64 t1] ++ [Value.int .i64 (IntKind.wrap .i64 (t1 + a1))])⟩) ?_
    obtain ⟨t8, hc9, H⟩ := bind_some H
    refine ls_callb (fid := 15) (vals := #[.slice A0_3 v0.2.2.2.1.length c0_3, .agg ⟨([Value.int .i64 t1] ++ [Value.int .i64 (IntKind.wrap .i64 (t1 + a1))])⟩]) (X := (Option Addr × Nat)) (fun x => .slice x.1 t8.length x.2) (fun x => stl [Ck.sl T24 x.1 x.2 t8]) [] [] [] [] 139 rfl rfl (by kernel_rfl) (fun w => by kernel_rfl) trivial trivial (by decide) (fun w hs hb => extent_Remove.calls k A0_3 c0_3 v0.2.2.2.1 (t1, IntKind.wrap .i64 (t1 + a1)) t8 (lent b w [] []) hb (hs.ro R0_3 _ _) C0_3 hc9) ?_
    intro x10
    refine lv (.pointer (some ⟨pg0, 0, none⟩)) ?_
    refine lv (.pointer (some ⟨pg0, (0 + 4), none⟩)) ?_
    refine ls_storec (g := pg0) (off := (0 + 4)) (v := .slice x10.1 t8.length x10.2) (vs := [Value.slice x10.1 t8.length x10.2]) (cs := (([Value.int .i64 v0.1.1] ++ [Value.int .i64 v0.1.2]) ++ ([Value.bool v0.2.1] ++ ([Value.int .i64 v0.2.2.1] ++ ([Value.slice A0_3 v0.2.2.2.1.length c0_3] ++ ([Value.map (some r0_4)] ++ [Value.slice A0_5 v0.2.2.2.2.2.length c0_5])))))) (ty := 66) 0 rfl rfl rfl (by kernel_rfl) (by kernel_rfl) (by kernel_rfl) (by exact rfl) (by kernel_rfl) (len1 _) (one_cons rfl one_nil) (hl_of (Sub4.trans (Sub4.all _) (Sub4.skip (n := 2) (len_app (len1 _) (len1 _)) (Sub4.skip (n := 1) (len1 _) (Sub4.skip (n := 1) (len1 _) (Sub4.head _ _))))) (len_eq (len1 _) (len1 _))) (cs' := (([Value.int .i64 v0.1.1] ++ [Value.int .i64 v0.1.2]) ++ ([Value.bool v0.2.1] ++ ([Value.int .i64 v0.2.2.1] ++ ([Value.slice x10.1 t8.length x10.2] ++ ([Value.map (some r0_4)] ++ [Value.slice A0_5 v0.2.2.2.2.2.length c0_5])))))) (splc_in (Sub4.all _) (splc_skip (n := 2) (len_app (len1 _) (len1 _)) (splc_skip (n := 1) (len1 _) (splc_skip (n := 1) (len1 _) (splc_head (len_eq (len1 _) (len1 _)))))) (splc_all (len_eq (len_app (len_app (len1 _) (len1 _)) (len_app (len1 _) (len_app (len1 _) (len_app (len1 _) (len_app (len1 _) (len1 _)))))) (len_app (len_app (len1 _) (len1 _)) (len_app (len1 _) (len_app (len1 _) (len_app (len1 _) (len_app (len1 _) (len1 _)))))))) (hl_of (Sub4.skip (n := 2) (len_app (len1 _) (len1 _)) (Sub4.skip (n := 1) (len1 _) (Sub4.skip (n := 1) (len1 _) (Sub4.head _ _)))) (len_eq (len1 _) (len1 _)))) ?_
    refine ls_end ?_
    refine qn_then ?_
    refine cs_seq ?_
    refine cs_region (l := [_, _, _]) ?_
    refine lv (.int .i64 t1) ?_
    refine lv (.int .i64 t1) ?_
    refine lv (.int .i64 (0 : Int)) ?_
    refine ls_end ?_
    refine qn_then ?_
    refine cs_ret' ?_
    refine qr_freeze (T := T24) (A := x10.1) (c := x10.2) (l := t8) 139 (by exact rfl) ?_
    intro bs11 hle12 hok13 fR14 fC15
    obtain rfl := Option.some.inj H
    refine qr_res (rs := [_, _]) rfl (fun w' hs => ⟨[.int .i64 t1, .int .i64 (0 : Int)], (res_tmp (by kernel_rfl) (res_tmp (by kernel_rfl) (.nil))), bs11, hle12, ((x10.1, x10.2), (A0_5, c0_5)), rfl, ⟨⟨fR14, fC15⟩, ⟨(Ro.mono hok13 hle12 R0_5), C0_5⟩⟩, hs.pick (ts := [0, 1, 2]) (cs := [Ck.var 66 pg0 ((([Value.int .i64 v0.1.1] ++ [Value.int .i64 v0.1.2]) ++ ([Value.bool v0.2.1] ++ ([Value.int .i64 v0.2.2.1] ++ ([Value.slice x10.1 t8.length x10.2] ++ ([Value.map (some r0_4)] ++ [Value.slice A0_5 v0.2.2.2.2.2.length c0_5])))))), Ck.m1 r0_4 w0_4.1 A0_4 w0_4.2.length c0_4, Ck.sl T24 A0_4 c0_4 w0_4.2]) ⟨by exact rfl, by exact rfl, by exact rfl, trivial⟩ (by decide)⟩)
  replace H := ite_f q7 H
  obtain ⟨s5_6, hs5_6⟩ := exv (.pointer (some ⟨pg0, 0, none⟩))
  refine have_opa alloc_Alloc_Take.tab3 3 6 (fun sp => sp 6 = s5_6 ∧ sp 5 = s5_5) (fun sp on hA hon => ?_) (fun ops5_6 => ?_)
  · refine ⟨fun o ho vs Rs f' S' w hp hf hx hS hR hs => ?_⟩
    obtain rfl := Option.some.inj ho
    obtain ⟨hv5, hR5⟩ := (spe hA.2 hs5_5 (hp 5 (by kernel_rfl)))
    rw [hA.1, hs5_6]
    refine And.intro (fun a ha => (want_is (j := 5) (t := 26) (r := true) rfl rfl (by kernel_rfl) (((hf 5 26 (by kernel_rfl) rfl).trans hv5).trans (congrArg Value.bool (show (!a2) = true from congrArg Bool.not (Bool.eq_false_iff.mpr q7)))) rfl a ha).trans hon.symm) (And.intro (fun _ => ?_) (fun h => by rw [hon] at h; cases h))
    have hF := fr_next (fr_next (rfl) ((hx 0 (by kernel_rfl)).trans (by kernel_rfl : (_ : Value) = .pointer (some ⟨pg0, 0, none⟩)))) (((hf 5 26 (by kernel_rfl) rfl).trans hv5).trans (congrArg Value.bool (show (!a2) = true from congrArg Bool.not (Bool.eq_false_iff.mpr q7))))
    refine ls_fr hF ?_
    refine lv (.pointer (some ⟨pg0, 0, none⟩)) ?_
    exact ls_fin s0 _ (congrArg (fun z => upd z 27 _) hF.symm) ⟨rfl, rfl⟩ (sub_nil _)
  obtain ⟨s5_7, hs5_7⟩ := exv (.pointer (some ⟨pg0, 0, none⟩))
  refine have_opa alloc_Alloc_Take.tab3 3 7 (fun sp => sp 7 = s5_7 ∧ sp 5 = s5_5 ∧ sp 6 = s5_6) (fun sp on hA hon => ?_) (fun ops5_7 => ?_)
  · refine ⟨fun o ho vs Rs f' S' w hp hf hx hS hR hs => ?_⟩
    obtain rfl := Option.some.inj ho
    obtain ⟨hv5, hR5⟩ := (spe hA.2.1 hs5_5 (hp 5 (by kernel_rfl)))
    obtain ⟨hv6, hR6⟩ := (spe hA.2.2 hs5_6 (hp 6 (by kernel_rfl)))
    rw [hA.1, hs5_7]
    refine And.intro (fun a ha => (want_is (j := 5) (t := 26) (r := true) rfl rfl (by kernel_rfl) (((hf 5 26 (by kernel_rfl) rfl).trans hv5).trans (congrArg Value.bool (show (!a2) = true from congrArg Bool.not (Bool.eq_false_iff.mpr q7)))) rfl a ha).trans hon.symm) (And.intro (fun _ => ?_) (fun h => by rw [hon] at h; cases h))
    have hF := fr_next (fr_next (rfl) (((hf 5 26 (by kernel_rfl) rfl).trans hv5).trans (congrArg Value.bool (show (!a2) = true from congrArg Bool.not (Bool.eq_false_iff.mpr q7))))) ((hf 6 27 (by kernel_rfl) rfl).trans hv6)
    refine ls_fr hF ?_
    refine lv (.pointer (some ⟨pg0, 0, none⟩)) ?_
    exact ls_fin s0 _ (congrArg (fun z => upd z 28 _) hF.symm) ⟨rfl, rfl⟩ (sub_nil _)
  obtain ⟨s5_8, hs5_8⟩ := exv (.pointer (some ⟨pg0, (0 + 4), none⟩))
  refine have_opa alloc_Alloc_Take.tab3 3 8 (fun sp => sp 8 = s5_8 ∧ sp 5 = s5_5 ∧ sp 7 = s5_7) (fun sp on hA hon => ?_) (fun ops5_8 => ?_)
  · refine ⟨fun o ho vs Rs f' S' w hp hf hx hS hR hs => ?_⟩
    obtain rfl := Option.some.inj ho
    obtain ⟨hv5, hR5⟩ := (spe hA.2.1 hs5_5 (hp 5 (by kernel_rfl)))
    obtain ⟨hv7, hR7⟩ := (spe hA.2.2 hs5_7 (hp 7 (by kernel_rfl)))
    rw [hA.1, hs5_8]
    refine And.intro (fun a ha => (want_is (j := 5) (t := 26) (r := true) rfl rfl (by kernel_rfl) (((hf 5 26 (by kernel_rfl) rfl).trans hv5).trans (congrArg Value.bool (show (!a2) = true from congrArg Bool.not (Bool.eq_false_iff.mpr q7)))) rfl a ha).trans hon.symm) (And.intro (fun _ => ?_) (fun h => by rw [hon] at h; cases h))
    have hF := fr_next (fr_next (rfl) (((hf 5 26 (by kernel_rfl) rfl).trans hv5).trans (congrArg Value.bool (show (!a2) = true from congrArg Bool.not (Bool.eq_false_iff.mpr q7))))) ((hf 7 28 (by kernel_rfl) rfl).trans hv7)
    refine ls_fr hF ?_
    refine lv (.pointer (some ⟨pg0, (0 + 4), none⟩)) ?_
    exact ls_fin s0 _ (congrArg (fun z => upd z 29 _) hF.symm) ⟨rfl, rfl⟩ (sub_nil _)
  obtain ⟨s5_9, hs5_9⟩ := exv (.slice A0_3 v0.2.2.2.1.length c0_3)
  refine have_opa alloc_Alloc_Take.tab3 3 9 (fun sp => sp 9 = s5_9 ∧ sp 5 = s5_5 ∧ sp 8 = s5_8) (fun sp on hA hon => ?_) (fun ops5_9 => ?_)
  · refine ⟨fun o ho vs Rs f' S' w hp hf hx hS hR hs => ?_⟩
    obtain rfl := Option.some.inj ho
    obtain ⟨hv5, hR5⟩ := (spe hA.2.1 hs5_5 (hp 5 (by kernel_rfl)))
    obtain ⟨hv8, hR8⟩ := (spe hA.2.2 hs5_8 (hp 8 (by kernel_rfl)))
    rw [hA.1, hs5_9]
    refine And.intro (fun a ha => (want_is (j := 5) (t := 26) (r := true) rfl rfl (by kernel_rfl) (((hf 5 26 (by kernel_rfl) rfl).trans hv5).trans (congrArg Value.bool (show (!a2) = true from congrArg Bool.not (Bool.eq_false_iff.mpr q7)))) rfl a ha).trans hon.symm) (And.intro (fun _ => ?_) (fun h => by rw [hon] at h; cases h))
    have hF := fr_next (fr_next (rfl) (((hf 5 26 (by kernel_rfl) rfl).trans hv5).trans (congrArg Value.bool (show (!a2) = true from congrArg Bool.not (Bool.eq_false_iff.mpr q7))))) ((hf 8 29 (by kernel_rfl) rfl).trans hv8)
    refine ls_fr hF ?_
    refine ls_load (a0 := ⟨pg0, (0 + 4), none⟩) (v := .slice A0_3 v0.2.2.2.1.length c0_3) (de := (TypeDesc.slice 24)) rfl rfl (by kernel_rfl) rfl (by kernel_rfl) (by kernel_rfl) (by kernel_rfl) (fun w1 hs1 => cell_step hs1.below.bw (hs.var (k := 0) ((hS 0 (by kernel_rfl)).trans (by exact rfl)) (Sub4.trans (Sub4.all _) (Sub4.skip (n := 2) (len_app (len1 _) (len1 _)) (Sub4.skip (n := 1) (len1 _) (Sub4.skip (n := 1) (len1 _) (Sub4.head _ _))))))) ?_
    exact ls_fin s0 _ (congrArg (fun z => upd z 30 _) hF.symm) ⟨rfl, rfl⟩ (sub_nil _)
  obtain ⟨t16, hc17, H⟩ := bind_some H
  obtain ⟨s5_10, hs5_10⟩ : ∃ z : Value → Sto → Prop, z = (fun v R => ∃ x18 : Unit, v = .int .i64 t16 ∧ R = stl []) := ⟨_, rfl⟩
  refine have_opa alloc_Alloc_Take.tab3 3 10 (fun sp => sp 10 = s5_10 ∧ sp 5 = s5_5 ∧ sp 9 = s5_9) (fun sp on hA hon => ?_) (fun ops5_10 => ?_)
  · refine ⟨fun o ho vs Rs f' S' w hp hf hx hS hR hs => ?_⟩
    obtain rfl := Option.some.inj ho
    obtain ⟨hv5, hR5⟩ := (spe hA.2.1 hs5_5 (hp 5 (by kernel_rfl)))
    obtain ⟨hv9, hR9⟩ := (spe hA.2.2 hs5_9 (hp 9 (by kernel_rfl)))
    rw [hA.1, hs5_10]
    refine And.intro (fun a ha => (want_is (j := 5) (t := 26) (r := true) rfl rfl (by kernel_rfl) (((hf 5 26 (by kernel_rfl) rfl).trans hv5).trans (congrArg Value.bool (show (!a2) = true from congrArg Bool.not (Bool.eq_false_iff.mpr q7)))) rfl a ha).trans hon.symm) (And.intro (fun _ => ?_) (fun h => by rw [hon] at h; cases h))
    have hF := fr_next (fr_next (rfl) (((hf 5 26 (by kernel_rfl) rfl).trans hv5).trans (congrArg Value.bool (show (!a2) = true from congrArg Bool.not (Bool.eq_false_iff.mpr q7))))) ((hf 9 30 (by kernel_rfl) rfl).trans hv9)
    refine ls_fr hF ?_
    refine ls_call (fid := 14) (vals := #[.slice A0_3 v0.2.2.2.1.length c0_3]) (X := Unit) (fun x => .int .i64 t16) (fun x => stl []) 0 rfl rfl (by kernel_rfl) (fun w => by kernel_rfl) (fun w1 hs1 => extent_Total.calls k A0_3 c0_3 v0.2.2.2.1 t16 (bw w1) (St.refl w1) (Rd.ro (Rd.step (hs.old R0_3) hs1.below.bw)) C0_3 hc17) ?_
    intro x18
    exact ls_fin (stl []) (.int .i64 t16) (congrArg (fun z => upd z 31 _) hF.symm) ⟨x18, rfl, rfl⟩ (sub_join _)
  obtain ⟨s5_11, hs5_11⟩ := exv (.int .i64 a1)
  refine have_opa alloc_Alloc_Take.tab3 3 11 (fun sp => sp 11 = s5_11 ∧ sp 5 = s5_5) (fun sp on hA hon => ?_) (fun ops5_11 => ?_)
  · refine ⟨fun o ho vs Rs f' S' w hp hf hx hS hR hs => ?_⟩
    obtain rfl := Option.some.inj ho
    obtain ⟨hv5, hR5⟩ := (spe hA.2 hs5_5 (hp 5 (by kernel_rfl)))
    rw [hA.1, hs5_11]
    refine And.intro (fun a ha => (want_is (j := 5) (t := 26) (r := true) rfl rfl (by kernel_rfl) (((hf 5 26 (by kernel_rfl) rfl).trans hv5).trans (congrArg Value.bool (show (!a2) = true from congrArg Bool.not (Bool.eq_false_iff.mpr q7)))) rfl a ha).trans hon.symm) (And.intro (fun _ => ?_) (fun h => by rw [hon] at h; cases h))
    have hF := fr_next (fr_next (rfl) ((hx 1 (by kernel_rfl)).trans (by kernel_rfl : (_ : Value) = .int .i64 a1))) (((hf 5 26 (by kernel_rfl) rfl).trans hv5).trans (congrArg Value.bool (show (!a2) = true from congrArg Bool.not (Bool.eq_false_iff.mpr q7))))
    refine ls_fr hF ?_
    refine lv (.int .i64 a1) ?_
    exact ls_fin s0 _ (congrArg (fun z => upd z 32 _) hF.symm) ⟨rfl, rfl⟩ (sub_nil _)
  obtain ⟨s5_12, hs5_12⟩ := exv (.int .i64 (IntKind.wrap .i64 (t16 - a1)))
  refine have_opa alloc_Alloc_Take.tab3 3 12 (fun sp => sp 12 = s5_12 ∧ sp 5 = s5_5 ∧ sp 10 = s5_10 ∧ sp 11 = s5_11) (fun sp on hA hon => ?_) (fun ops5_12 => ?_)
  · refine ⟨fun o ho vs Rs f' S' w hp hf hx hS hR hs => ?_⟩
    obtain rfl := Option.some.inj ho
    obtain ⟨hv5, hR5⟩ := (spe hA.2.1 hs5_5 (hp 5 (by kernel_rfl)))
    obtain ⟨x18, hv10, hR10⟩ := (spe hA.2.2.1 hs5_10 (hp 10 (by kernel_rfl)))
    obtain ⟨hv11, hR11⟩ := (spe hA.2.2.2 hs5_11 (hp 11 (by kernel_rfl)))
    rw [hA.1, hs5_12]
    refine And.intro (fun a ha => (want_is (j := 5) (t := 26) (r := true) rfl rfl (by kernel_rfl) (((hf 5 26 (by kernel_rfl) rfl).trans hv5).trans (congrArg Value.bool (show (!a2) = true from congrArg Bool.not (Bool.eq_false_iff.mpr q7)))) rfl a ha).trans hon.symm) (And.intro (fun _ => ?_) (fun h => by rw [hon] at h; cases h))
    have hF := fr_next (fr_next (fr_next (rfl) (((hf 5 26 (by kernel_rfl) rfl).trans hv5).trans (congrArg Value.bool (show (!a2) = true from congrArg Bool.not (Bool.eq_false_iff.mpr q7))))) ((hf 10 31 (by kernel_rfl) rfl).trans hv10)) ((hf 11 32 (by kernel_rfl) rfl).trans hv11)
    refine ls_fr hF ?_
    refine lv (.int .i64 (IntKind.wrap .i64 (t16 - a1))) ?_
    exact ls_fin s0 _ (congrArg (fun z => upd z 33 _) hF.symm) ⟨rfl, rfl⟩ (sub_nil _)
  obtain ⟨s5_13, hs5_13⟩ := exv (.pointer (some ⟨pg0, 0, none⟩))
  refine have_opa alloc_Alloc_Take.tab3 3 13 (fun sp => sp 13 = s5_13 ∧ sp 5 = s5_5) (fun sp on hA hon => ?_) (fun ops5_13 => ?_)
  · refine ⟨fun o ho vs Rs f' S' w hp hf hx hS hR hs => ?_⟩
    obtain rfl := Option.some.inj ho
    obtain ⟨hv5, hR5⟩ := (spe hA.2 hs5_5 (hp 5 (by kernel_rfl)))
    rw [hA.1, hs5_13]
    refine And.intro (fun a ha => (want_is (j := 5) (t := 26) (r := true) rfl rfl (by kernel_rfl) (((hf 5 26 (by kernel_rfl) rfl).trans hv5).trans (congrArg Value.bool (show (!a2) = true from congrArg Bool.not (Bool.eq_false_iff.mpr q7)))) rfl a ha).trans hon.symm) (And.intro (fun _ => ?_) (fun h => by rw [hon] at h; cases h))
    have hF := fr_next (fr_next (rfl) ((hx 0 (by kernel_rfl)).trans (by kernel_rfl : (_ : Value) = .pointer (some ⟨pg0, 0, none⟩)))) (((hf 5 26 (by kernel_rfl) rfl).trans hv5).trans (congrArg Value.bool (show (!a2) = true from congrArg Bool.not (Bool.eq_false_iff.mpr q7))))
    refine ls_fr hF ?_
    refine lv (.pointer (some ⟨pg0, 0, none⟩)) ?_
    exact ls_fin s0 _ (congrArg (fun z => upd z 34 _) hF.symm) ⟨rfl, rfl⟩ (sub_nil _)
  obtain ⟨s5_14, hs5_14⟩ := exv (.pointer (some ⟨pg0, 0, none⟩))
  refine have_opa alloc_Alloc_Take.tab3 3 14 (fun sp => sp 14 = s5_14 ∧ sp 5 = s5_5 ∧ sp 13 = s5_13) (fun sp on hA hon => ?_) (fun ops5_14 => ?_)
  · refine ⟨fun o ho vs Rs f' S' w hp hf hx hS hR hs => ?_⟩
    obtain rfl := Option.some.inj ho
    obtain ⟨hv5, hR5⟩ := (spe hA.2.1 hs5_5 (hp 5 (by kernel_rfl)))
    obtain ⟨hv13, hR13⟩ := (spe hA.2.2 hs5_13 (hp 13 (by kernel_rfl)))
    rw [hA.1, hs5_14]
    refine And.intro (fun a ha => (want_is (j := 5) (t := 26) (r := true) rfl rfl (by kernel_rfl) (((hf 5 26 (by kernel_rfl) rfl).trans hv5).trans (congrArg Value.bool (show (!a2) = true from congrArg Bool.not (Bool.eq_false_iff.mpr q7)))) rfl a ha).trans hon.symm) (And.intro (fun _ => ?_) (fun h => by rw [hon] at h; cases h))
    have hF := fr_next (fr_next (rfl) (((hf 5 26 (by kernel_rfl) rfl).trans hv5).trans (congrArg Value.bool (show (!a2) = true from congrArg Bool.not (Bool.eq_false_iff.mpr q7))))) ((hf 13 34 (by kernel_rfl) rfl).trans hv13)
    refine ls_fr hF ?_
    refine lv (.pointer (some ⟨pg0, 0, none⟩)) ?_
    exact ls_fin s0 _ (congrArg (fun z => upd z 35 _) hF.symm) ⟨rfl, rfl⟩ (sub_nil _)
  obtain ⟨s5_15, hs5_15⟩ := exv (.pointer (some ⟨pg0, (0 + 3), none⟩))
  refine have_opa alloc_Alloc_Take.tab3 3 15 (fun sp => sp 15 = s5_15 ∧ sp 5 = s5_5 ∧ sp 14 = s5_14) (fun sp on hA hon => ?_) (fun ops5_15 => ?_)
  · refine ⟨fun o ho vs Rs f' S' w hp hf hx hS hR hs => ?_⟩
    obtain rfl := Option.some.inj ho
    obtain ⟨hv5, hR5⟩ := (spe hA.2.1 hs5_5 (hp 5 (by kernel_rfl)))
    obtain ⟨hv14, hR14⟩ := (spe hA.2.2 hs5_14 (hp 14 (by kernel_rfl)))
    rw [hA.1, hs5_15]
    refine And.intro (fun a ha => (want_is (j := 5) (t := 26) (r := true) rfl rfl (by kernel_rfl) (((hf 5 26 (by kernel_rfl) rfl).trans hv5).trans (congrArg Value.bool (show (!a2) = true from congrArg Bool.not (Bool.eq_false_iff.mpr q7)))) rfl a ha).trans hon.symm) (And.intro (fun _ => ?_) (fun h => by rw [hon] at h; cases h))
    have hF := fr_next (fr_next (rfl) (((hf 5 26 (by kernel_rfl) rfl).trans hv5).trans (congrArg Value.bool (show (!a2) = true from congrArg Bool.not (Bool.eq_false_iff.mpr q7))))) ((hf 14 35 (by kernel_rfl) rfl).trans hv14)
    refine ls_fr hF ?_
    refine lv (.pointer (some ⟨pg0, (0 + 3), none⟩)) ?_
    exact ls_fin s0 _ (congrArg (fun z => upd z 36 _) hF.symm) ⟨rfl, rfl⟩ (sub_nil _)
  obtain ⟨s5_16, hs5_16⟩ := exv (.int .i64 v0.2.2.1)
  refine have_opa alloc_Alloc_Take.tab3 3 16 (fun sp => sp 16 = s5_16 ∧ sp 5 = s5_5 ∧ sp 15 = s5_15) (fun sp on hA hon => ?_) (fun ops5_16 => ?_)
  · refine ⟨fun o ho vs Rs f' S' w hp hf hx hS hR hs => ?_⟩
    obtain rfl := Option.some.inj ho
    obtain ⟨hv5, hR5⟩ := (spe hA.2.1 hs5_5 (hp 5 (by kernel_rfl)))
    obtain ⟨hv15, hR15⟩ := (spe hA.2.2 hs5_15 (hp 15 (by kernel_rfl)))
    rw [hA.1, hs5_16]
    refine And.intro (fun a ha => (want_is (j := 5) (t := 26) (r := true) rfl rfl (by kernel_rfl) (((hf 5 26 (by kernel_rfl) rfl).trans hv5).trans (congrArg Value.bool (show (!a2) = true from congrArg Bool.not (Bool.eq_false_iff.mpr q7)))) rfl a ha).trans hon.symm) (And.intro (fun _ => ?_) (fun h => by rw [hon] at h; cases h))
    have hF := fr_next (fr_next (rfl) (((hf 5 26 (by kernel_rfl) rfl).trans hv5).trans (congrArg Value.bool (show (!a2) = true from congrArg Bool.not (Bool.eq_false_iff.mpr q7))))) ((hf 15 36 (by kernel_rfl) rfl).trans hv15)
    refine ls_fr hF ?_
    refine ls_load (a0 := ⟨pg0, (0 + 3), none⟩) (v := .int .i64 v0.2.2.1) (de := (TypeDesc.int .i64)) rfl rfl (by kernel_rfl) rfl (by kernel_rfl) (by kernel_rfl) (by kernel_rfl) (fun w1 hs1 => cell_step hs1.below.bw (hs.var (k := 0) ((hS 0 (by kernel_rfl)).trans (by exact rfl)) (Sub4.trans (Sub4.all _) (Sub4.skip (n := 2) (len_app (len1 _) (len1 _)) (Sub4.skip (n := 1) (len1 _) (Sub4.head _ _)))))) ?_
    exact ls_fin s0 _ (congrArg (fun z => upd z 37 _) hF.symm) ⟨rfl, rfl⟩ (sub_nil _)
  refine cs_draw alloc_Alloc_Take.tab3 17 3 (spl [s5_0, s5_1, s5_2, s5_3, s5_4, s5_5, s5_6, s5_7, s5_8, s5_9, s5_10, s5_11, s5_12, s5_13, s5_14, s5_15, s5_16]) (onl [true, true, true, true, true, true, true, true, true, true, true, true, true, true, true, true, true]) (by kernel_rfl) (by kernel_rfl) (by kernel_rfl) (by kernel_rfl) (rs := [_, _, _]) rfl (by kernel_rfl) (by kernel_rfl) (all_snoc (all_snoc (all_snoc (all_snoc (all_snoc (all_snoc (all_snoc (all_snoc (all_snoc (all_snoc (all_snoc (all_snoc (all_snoc (all_snoc (all_snoc (all_snoc (all_snoc (all_nil) (ops5_0 _ _ rfl rfl)) (ops5_1 _ _ ⟨rfl, rfl⟩ rfl)) (ops5_2 _ _ ⟨rfl, rfl⟩ rfl)) (ops5_3 _ _ ⟨rfl, rfl⟩ rfl)) (ops5_4 _ _ ⟨rfl, rfl, rfl⟩ rfl)) (ops5_5 _ _ ⟨rfl, rfl, rfl⟩ rfl)) (ops5_6 _ _ ⟨rfl, rfl⟩ rfl)) (ops5_7 _ _ ⟨rfl, rfl, rfl⟩ rfl)) (ops5_8 _ _ ⟨rfl, rfl, rfl⟩ rfl)) (ops5_9 _ _ ⟨rfl, rfl, rfl⟩ rfl)) (ops5_10 _ _ ⟨rfl, rfl, rfl⟩ rfl)) (ops5_11 _ _ ⟨rfl, rfl⟩ rfl)) (ops5_12 _ _ ⟨rfl, rfl, rfl, rfl⟩ rfl)) (ops5_13 _ _ ⟨rfl, rfl⟩ rfl)) (ops5_14 _ _ ⟨rfl, rfl, rfl⟩ rfl)) (ops5_15 _ _ ⟨rfl, rfl, rfl⟩ rfl)) (ops5_16 _ _ ⟨rfl, rfl, rfl⟩ rfl)) ?_
  intro vs Rs f' S' hp hf hx hS hR
  obtain ⟨hv2, hR2⟩ := (spe rfl hs5_2 (hp 2 (by kernel_rfl)))
  obtain ⟨hv5, hR5⟩ := (spe rfl hs5_5 (hp 5 (by kernel_rfl)))
  obtain ⟨x18, hv10, hR10⟩ := (spe rfl hs5_10 (hp 10 (by kernel_rfl)))
  obtain ⟨hv12, hR12⟩ := (spe rfl hs5_12 (hp 12 (by kernel_rfl)))
  obtain ⟨hv16, hR16⟩ := (spe rfl hs5_16 (hp 16 (by kernel_rfl)))
  refine ls_fr (F := upd (upd (upd (upd (upd (upd (upd f' 0 (.pointer (some ⟨pg0, 0, none⟩))) 1 (.int .i64 a1)) 8 (.int .i64 t1)) 23 (.bool (decide (t1 < (0 : Int))))) 26 (.bool (!a2))) 33 (.int .i64 (IntKind.wrap .i64 (t16 - a1)))) 37 (.int .i64 v0.2.2.1)) (fr_next (fr_next (fr_next (fr_next (fr_next (fr_next (fr_next (rfl) ((hx 0 (by kernel_rfl)).trans (by kernel_rfl : (_ : Value) = .pointer (some ⟨pg0, 0, none⟩)))) ((hx 1 (by kernel_rfl)).trans (by kernel_rfl : (_ : Value) = .int .i64 a1))) ((hx 8 (by kernel_rfl)).trans (by kernel_rfl : (_ : Value) = .int .i64 t1))) ((hf 2 23 (by kernel_rfl) rfl).trans hv2)) ((hf 5 26 (by kernel_rfl) rfl).trans hv5)) ((hf 12 33 (by kernel_rfl) rfl).trans hv12)) ((hf 16 37 (by kernel_rfl) rfl).trans hv16)) ?_
  refine ls_sub (sput (sput (sput s0 0 (some (Ck.var 66 pg0 ((([Value.int .i64 v0.1.1] ++ [Value.int .i64 v0.1.2]) ++ ([Value.bool v0.2.1] ++ ([Value.int .i64 v0.2.2.1] ++ ([Value.slice A0_3 v0.2.2.2.1.length c0_3] ++ ([Value.map (some r0_4)] ++ [Value.slice A0_5 v0.2.2.2.2.2.length c0_5]))))))))) 1 (some (Ck.m1 r0_4 w0_4.1 A0_4 w0_4.2.length c0_4))) 2 (some (Ck.sl T24 A0_4 c0_4 w0_4.2))) (sub_put ((hS 2 (by kernel_rfl)).trans (by exact rfl)) (sub_put ((hS 1 (by kernel_rfl)).trans (by exact rfl)) (sub_put ((hS 0 (by kernel_rfl)).trans (by exact rfl)) (sub_nil _)))) ?_
  refine ls_know (c := true) (congrArg Bool.not (Bool.eq_false_iff.mpr q7)) 26 (by kernel_rfl) ?_
  refine ls_on (j := 5) (t := 26) (b := true) rfl rfl (by kernel_rfl) (by kernel_rfl) ?_
  refine lv (.bool (decide ((IntKind.wrap .i64 (t16 - a1)) < v0.2.2.1))) ?_
  refine ls_know (c := false) (dec_f q6) 23 (by kernel_rfl) ?_
  refine ls_on (j := 2) (t := 23) (b := false) rfl rfl (by kernel_rfl) (by kernel_rfl) ?_
  refine lv (.bool (decide ((IntKind.wrap .i64 (t16 - a1)) < v0.2.2.1))) ?_
  refine lv (.bool (decide ((IntKind.wrap .i64 (t16 - a1)) < v0.2.2.1))) ?_
  refine ls_end ?_
  refine qn_then ?_
  by_cases q19 : (IntKind.wrap .i64 (t16 - a1)) < v0.2.2.1
  · replace H := ite_t q19 H
    refine cs_know (c := true) (dec_t q19) 40 (by kernel_rfl) ?_
    refine cs_true (by kernel_rfl) ?_
    refine cs_seq ?_
    refine cs_region (l := [_, _]) ?_
    refine lv (.int .i64 (0 : Int)) ?_
    refine lv (.int .i64 (15 : Int)) ?_
    refine ls_end ?_
    refine qn_then ?_
    refine cs_ret' ?_
    refine qr_then ?_
    obtain rfl := Option.some.inj H
    refine qr_res (rs := [_, _]) rfl (fun w' hs => ⟨[.int .i64 (0 : Int), .int .i64 (15 : Int)], (res_tmp (by kernel_rfl) (res_tmp (by kernel_rfl) (.nil))), b, (Bs.le.refl b), ((A0_3, c0_3), (A0_5, c0_5)), rfl, ⟨⟨R0_3, C0_3⟩, ⟨R0_5, C0_5⟩⟩, hs.pick (ts := [0, 1, 2]) (cs := [Ck.var 66 pg0 ((([Value.int .i64 v0.1.1] ++ [Value.int .i64 v0.1.2]) ++ ([Value.bool v0.2.1] ++ ([Value.int .i64 v0.2.2.1] ++ ([Value.slice A0_3 v0.2.2.2.1.length c0_3] ++ ([Value.map (some r0_4)] ++ [Value.slice A0_5 v0.2.2.2.2.2.length c0_5])))))), Ck.m1 r0_4 w0_4.1 A0_4 w0_4.2.length c0_4, Ck.sl T24 A0_4 c0_4 w0_4.2]) ⟨by exact rfl, by exact rfl, by exact rfl, trivial⟩ (by decide)⟩)
  replace H := ite_f q19 H
  refine cs_know (c := false) (dec_f q19) 40 (by kernel_rfl) ?_
  refine cs_false (by kernel_rfl) ?_
  refine cs_skip' ?_
  refine qn_then ?_
  refine cs_seq ?_
  refine cs_region (l := [_, _, _, _, _, _, _, _, _, _, _, _, _, _]) ?_
  refine lv (.pointer (some ⟨pg0, 0, none⟩)) ?_
  refine lv (.pointer (some ⟨pg0, 0, none⟩)) ?_
  refine lv (.pointer (some ⟨pg0, 0, none⟩)) ?_
  refine lv (.pointer (some ⟨pg0, (0 + 4), none⟩)) ?_
  refine ls_load (a0 := ⟨pg0, (0 + 4), none⟩) (v := .slice A0_3 v0.2.2.2.1.length c0_3) (de := (TypeDesc.slice 24)) rfl rfl (by kernel_rfl) rfl (by kernel_rfl) (by kernel_rfl) (by kernel_rfl) (fun w hs => (hs.var (k := 0) (by exact rfl) (Sub4.trans (Sub4.all _) (Sub4.skip (n := 2) (len_app (len1 _) (len1 _)) (Sub4.skip (n := 1) (len1 _) (Sub4.skip (n := 1) (len1 _) (Sub4.head _ _))))))) ?_
  refine lv (.int .i64 t1) ?_
  refine lv (.int .i64 t1) ?_
  refine lv (.int .i64 a1) ?_
  refine lv (.int .i64 (IntKind.wrap .i64 (t1 + a1))) ?_
  refine lv (.agg ⟨([Value.int .i64 t1] ++ [Value.int .i64 (IntKind.wrap .i64 (t1 + a1))])⟩) ?_
  obtain ⟨t20, hc21, H⟩ := bind_some H
  refine ls_callb (fid := 15) (vals := #[.slice A0_3 v0.2.2.2.1.length c0_3, .agg ⟨([Value.int .i64 t1] ++ [Value.int .i64 (IntKind.wrap .i64 (t1 + a1))])⟩]) (X := (Option Addr × Nat)) (fun x => .slice x.1 t20.length x.2) (fun x => stl [Ck.sl T24 x.1 x.2 t20]) [] [] [] [] 139 rfl rfl (by kernel_rfl) (fun w => by kernel_rfl) trivial trivial (by decide) (fun w hs hb => extent_Remove.calls k A0_3 c0_3 v0.2.2.2.1 (t1, IntKind.wrap .i64 (t1 + a1)) t20 (lent b w [] []) hb (hs.ro R0_3 _ _) C0_3 hc21) ?_
  intro x22
  refine lv (.pointer (some ⟨pg0, 0, none⟩)) ?_
  refine lv (.pointer (some ⟨pg0, (0 + 4), none⟩)) ?_
  refine ls_storec (g := pg0) (off := (0 + 4)) (v := .slice x22.1 t20.length x22.2) (vs := [Value.slice x22.1 t20.length x22.2]) (cs := (([Value.int .i64 v0.1.1] ++ [Value.int .i64 v0.1.2]) ++ ([Value.bool v0.2.1] ++ ([Value.int .i64 v0.2.2.1] ++ ([Value.slice A0_3 v0.2.2.2.1.length c0_3] ++ ([Value.map (some r0_4)] ++ [Value.slice A0_5 v0.2.2.2.2.2.length c0_5])))))) (ty := 66) 0 rfl rfl rfl (by kernel_rfl) (by kernel_rfl) (by kernel_rfl) (by exact rfl) (by kernel_rfl) (len1 _) (one_cons rfl one_nil) (hl_of (Sub4.trans (Sub4.all _) (Sub4.skip (n := 2) (len_app (len1 _) (len1 _)) (Sub4.skip (n := 1) (len1 _) (Sub4.skip (n := 1) (len1 _) (Sub4.head _ _))))) (len_eq (len1 _) (len1 _))) (cs' := (([Value.int .i64 v0.1.1] ++ [Value.int .i64 v0.1.2]) ++ ([Value.bool v0.2.1] ++ ([Value.int .i64 v0.2.2.1] ++ ([Value.slice x22.1 t20.length x22.2] ++ ([Value.map (some r0_4)] ++ [Value.slice A0_5 v0.2.2.2.2.2.length c0_5])))))) (splc_in (Sub4.all _) (splc_skip (n := 2) (len_app (len1 _) (len1 _)) (splc_skip (n := 1) (len1 _) (splc_skip (n := 1) (len1 _) (splc_head (len_eq (len1 _) (len1 _)))))) (splc_all (len_eq (len_app (len_app (len1 _) (len1 _)) (len_app (len1 _) (len_app (len1 _) (len_app (len1 _) (len_app (len1 _) (len1 _)))))) (len_app (len_app (len1 _) (len1 _)) (len_app (len1 _) (len_app (len1 _) (len_app (len1 _) (len_app (len1 _) (len1 _)))))))) (hl_of (Sub4.skip (n := 2) (len_app (len1 _) (len1 _)) (Sub4.skip (n := 1) (len1 _) (Sub4.skip (n := 1) (len1 _) (Sub4.head _ _)))) (len_eq (len1 _) (len1 _)))) ?_
  refine ls_end ?_
  refine qn_then ?_
  refine cs_seq ?_
  refine cs_region (l := [_, _, _]) ?_
  refine lv (.int .i64 t1) ?_
  refine lv (.int .i64 t1) ?_
  refine lv (.int .i64 (0 : Int)) ?_
  refine ls_end ?_
  refine qn_then ?_
  refine cs_ret' ?_
  refine qr_freeze (T := T24) (A := x22.1) (c := x22.2) (l := t20) 139 (by exact rfl) ?_
  intro bs23 hle24 hok25 fR26 fC27
  obtain rfl := Option.some.inj H
  refine qr_res (rs := [_, _]) rfl (fun w' hs => ⟨[.int .i64 t1, .int .i64 (0 : Int)], (res_tmp (by kernel_rfl) (res_tmp (by kernel_rfl) (.nil))), bs23, hle24, ((x22.1, x22.2), (A0_5, c0_5)), rfl, ⟨⟨fR26, fC27⟩, ⟨(Ro.mono hok25 hle24 R0_5), C0_5⟩⟩, hs.pick (ts := [0, 1, 2]) (cs := [Ck.var 66 pg0 ((([Value.int .i64 v0.1.1] ++ [Value.int .i64 v0.1.2]) ++ ([Value.bool v0.2.1] ++ ([Value.int .i64 v0.2.2.1] ++ ([Value.slice x22.1 t20.length x22.2] ++ ([Value.map (some r0_4)] ++ [Value.slice A0_5 v0.2.2.2.2.2.length c0_5])))))), Ck.m1 r0_4 w0_4.1 A0_4 w0_4.2.length c0_4, Ck.sl T24 A0_4 c0_4 w0_4.2]) ⟨by exact rfl, by exact rfl, by exact rfl, trivial⟩ (by decide)⟩)

/-! ### (*shadowbox/alloc.Alloc).Free: function 32 -/
def alloc_Alloc_Free.f (k : Nat) (v0 : ((Int × Int) × Bool × Int × (List (Int × Int)) × Unit × (List (Int × Int)))) (w0_4 : (Bool × (List (Int × Int)))) : Option (Int) :=
  (alloc_Alloc_none.f k (v0.1, v0.2.1, v0.2.2.1, v0.2.2.2.1, (), v0.2.2.2.2.2) (w0_4.1, w0_4.2)).bind fun t1 => (if t1 = true then some (0 : Int) else (extent_Total.f k v0.2.2.2.1).bind fun t5 => some t5)
set_option maxRecDepth 100000 in
set_option maxHeartbeats 4000000 in
theorem alloc_Alloc_Free.calls (k : Nat) (pg0 : Nat) (A0_3 : Option Addr) (c0_3 : Nat) (r0_4 : Nat) (A0_5 : Option Addr) (c0_5 : Nat) (v0 : ((Int × Int) × Bool × Int × (List (Int × Int)) × Unit × (List (Int × Int)))) (A0_4 : Option Addr) (c0_4 : Nat) (w0_4 : (Bool × (List (Int × Int)))) (r : Int) (b : Bs) (hs0 : St b (stl [Ck.var 66 pg0 ((([Value.int .i64 v0.1.1] ++ [Value.int .i64 v0.1.2]) ++ ([Value.bool v0.2.1] ++ ([Value.int .i64 v0.2.2.1] ++ ([Value.slice A0_3 v0.2.2.2.1.length c0_3] ++ ([Value.map (some r0_4)] ++ [Value.slice A0_5 v0.2.2.2.2.2.length c0_5])))))), Ck.m1 r0_4 w0_4.1 A0_4 w0_4.2.length c0_4, Ck.sl T24 A0_4 c0_4 w0_4.2]) b.w) (R0_3 : Ro b A0_3 (em T24 v0.2.2.2.1)) (C0_3 : v0.2.2.2.1.length ≤ c0_3) (R0_5 : Ro b A0_5 (em T24 v0.2.2.2.2.2)) (C0_5 : v0.2.2.2.2.2.length ≤ c0_5) (H : alloc_Alloc_Free.f k v0 w0_4 = some r) :
    Calls Try.prog 32 #[.pointer (some ⟨pg0, 0, none⟩)] b.w fun e w' => ∃ x : Unit, e = .returned (.int .i64 r) ∧ St b (stl [Ck.var 66 pg0 ((([Value.int .i64 v0.1.1] ++ [Value.int .i64 v0.1.2]) ++ ([Value.bool v0.2.1] ++ ([Value.int .i64 v0.2.2.1] ++ ([Value.slice A0_3 v0.2.2.2.1.length c0_3] ++ ([Value.map (some r0_4)] ++ [Value.slice A0_5 v0.2.2.2.2.2.length c0_5])))))), Ck.m1 r0_4 w0_4.1 A0_4 w0_4.2.length c0_4, Ck.sl T24 A0_4 c0_4 w0_4.2]) w' := by
  unfold alloc_Alloc_Free.f at H
  refine enterb (n := 10) Try.func32 rfl (by kernel_rfl) (by kernel_rfl) hs0 ?_
  refine cs_sub (sput (sput (sput s0 0 (some (Ck.var 66 pg0 ((([Value.int .i64 v0.1.1] ++ [Value.int .i64 v0.1.2]) ++ ([Value.bool v0.2.1] ++ ([Value.int .i64 v0.2.2.1] ++ ([Value.slice A0_3 v0.2.2.2.1.length c0_3] ++ ([Value.map (some r0_4)] ++ [Value.slice A0_5 v0.2.2.2.2.2.length c0_5]))))))))) 1 (some (Ck.m1 r0_4 w0_4.1 A0_4 w0_4.2.length c0_4))) 2 (some (Ck.sl T24 A0_4 c0_4 w0_4.2))) (sub_put (by exact rfl) (sub_put (by exact rfl) (sub_put (by exact rfl) (sub_nil _)))) ?_
  refine cs_seq ?_
  refine cs_region (l := [_]) ?_
  refine lv (.int .i64 (0 : Int)) ?_
  refine ls_end ?_
  refine qn_then ?_
  refine cs_seq ?_
  refine cs_seq ?_
  refine cs_region (l := [_, _]) ?_
  refine lv (.pointer (some ⟨pg0, 0, none⟩)) ?_
  obtain ⟨t1, hc2, H⟩ := bind_some H
  refine ls_callb (fid := 48) (vals := #[.pointer (some ⟨pg0, 0, none⟩)]) (X := Unit) (fun x => .bool t1) (fun x => stl [Ck.var 66 pg0 ((([Value.int .i64 v0.1.1] ++ [Value.int .i64 v0.1.2]) ++ ([Value.bool v0.2.1] ++ ([Value.int .i64 v0.2.2.1] ++ ([Value.slice A0_3 v0.2.2.2.1.length c0_3] ++ ([Value.map (some r0_4)] ++ [Value.slice A0_5 v0.2.2.2.2.2.length c0_5])))))), Ck.m1 r0_4 w0_4.1 A0_4 w0_4.2.length c0_4, Ck.sl T24 A0_4 c0_4 w0_4.2]) [0, 1, 2] [] [Ck.var 66 pg0 ((([Value.int .i64 v0.1.1] ++ [Value.int .i64 v0.1.2]) ++ ([Value.bool v0.2.1] ++ ([Value.int .i64 v0.2.2.1] ++ ([Value.slice A0_3 v0.2.2.2.1.length c0_3] ++ ([Value.map (some r0_4)] ++ [Value.slice A0_5 v0.2.2.2.2.2.length c0_5])))))), Ck.m1 r0_4 w0_4.1 A0_4 w0_4.2.length c0_4, Ck.sl T24 A0_4 c0_4 w0_4.2] [] 3 rfl rfl (by kernel_rfl) (fun w => by kernel_rfl) ⟨by exact rfl, by exact rfl, by exact rfl, trivial⟩ trivial (by decide) (fun w hs hb => alloc_Alloc_none.calls k pg0 A0_3 c0_3 r0_4 A0_5 c0_5 (v0.1, v0.2.1, v0.2.2.1, v0.2.2.2.1, (), v0.2.2.2.2.2) A0_4 c0_4 (w0_4.1, w0_4.2) t1 (lent b w [Ck.var 66 pg0 ((([Value.int .i64 v0.1.1] ++ [Value.int .i64 v0.1.2]) ++ ([Value.bool v0.2.1] ++ ([Value.int .i64 v0.2.2.1] ++ ([Value.slice A0_3 v0.2.2.2.1.length c0_3] ++ ([Value.map (some r0_4)] ++ [Value.slice A0_5 v0.2.2.2.2.2.length c0_5])))))), Ck.m1 r0_4 w0_4.1 A0_4 w0_4.2.length c0_4, Ck.sl T24 A0_4 c0_4 w0_4.2] []) hb (hs.ro R0_3 _ _) C0_3 (hs.ro R0_5 _ _) C0_5 hc2) ?_
  intro x3
  refine ls_end ?_
  refine qn_then ?_
  by_cases q4 : t1 = true
  · replace H := ite_t q4 H
    refine cs_know (c := true) (q4) 4 (by kernel_rfl) ?_
    refine cs_true (by kernel_rfl) ?_
    refine cs_seq ?_
    refine cs_region (l := [_]) ?_
    refine lv (.int .i64 (0 : Int)) ?_
    refine ls_end ?_
    refine qn_then ?_
    refine cs_ret' ?_
    refine qr_then ?_
    obtain rfl := Option.some.inj H
    refine qr_res (rs := [_]) rfl (fun w' hs => ⟨[.int .i64 (0 : Int)], (res_tmp (by kernel_rfl) (.nil)), (), rfl, hs.pick (ts := [0, 1, 2]) (cs := [Ck.var 66 pg0 ((([Value.int .i64 v0.1.1] ++ [Value.int .i64 v0.1.2]) ++ ([Value.bool v0.2.1] ++ ([Value.int .i64 v0.2.2.1] ++ ([Value.slice A0_3 v0.2.2.2.1.length c0_3] ++ ([Value.map (some r0_4)] ++ [Value.slice A0_5 v0.2.2.2.2.2.length c0_5])))))), Ck.m1 r0_4 w0_4.1 A0_4 w0_4.2.length c0_4, Ck.sl T24 A0_4 c0_4 w0_4.2]) ⟨by exact rfl, by exact rfl, by exact rfl, trivial⟩ (by decide)⟩)
  replace H := ite_f q4 H
  refine cs_know (c := false) (Bool.eq_false_iff.mpr q4) 4 (by kernel_rfl) ?_
  refine cs_false (by kernel_rfl) ?_
  refine cs_skip' ?_
  refine qn_then ?_
  refine cs_seq ?_
  refine cs_region (l := [_, _, _, _, _, _]) ?_
  refine lv (.pointer (some ⟨pg0, 0, none⟩)) ?_
  refine lv (.pointer (some ⟨pg0, 0, none⟩)) ?_
  refine lv (.pointer (some ⟨pg0, (0 + 4), none⟩)) ?_
  refine ls_load (a0 := ⟨pg0, (0 + 4), none⟩) (v := .slice A0_3 v0.2.2.2.1.length c0_3) (de := (TypeDesc.slice 24)) rfl rfl (by kernel_rfl) rfl (by kernel_rfl) (by kernel_rfl) (by kernel_rfl) (fun w hs => (hs.var (k := 0) (by exact rfl) (Sub4.trans (Sub4.all _) (Sub4.skip (n := 2) (len_app (len1 _) (len1 _)) (Sub4.skip (n := 1) (len1 _) (Sub4.skip (n := 1) (len1 _) (Sub4.head _ _))))))) ?_
  obtain ⟨t5, hc6, H⟩ := bind_some H
  refine ls_callb (fid := 14) (vals := #[.slice A0_3 v0.2.2.2.1.length c0_3]) (X := Unit) (fun x => .int .i64 t5) (fun x => stl []) [] [] [] [] 3 rfl rfl (by kernel_rfl) (fun w => by kernel_rfl) trivial trivial (by decide) (fun w hs hb => extent_Total.calls k A0_3 c0_3 v0.2.2.2.1 t5 (lent b w [] []) hb (hs.ro R0_3 _ _) C0_3 hc6) ?_
  intro x7
  refine lv (.int .i64 t5) ?_
  refine ls_end ?_
  refine qn_then ?_
  refine cs_ret' ?_
  obtain rfl := Option.some.inj H
  refine qr_res (rs := [_]) rfl (fun w' hs => ⟨[.int .i64 t5], (res_tmp (by kernel_rfl) (.nil)), (), rfl, hs.pick (ts := [0, 1, 2]) (cs := [Ck.var 66 pg0 ((([Value.int .i64 v0.1.1] ++ [Value.int .i64 v0.1.2]) ++ ([Value.bool v0.2.1] ++ ([Value.int .i64 v0.2.2.1] ++ ([Value.slice A0_3 v0.2.2.2.1.length c0_3] ++ ([Value.map (some r0_4)] ++ [Value.slice A0_5 v0.2.2.2.2.2.length c0_5])))))), Ck.m1 r0_4 w0_4.1 A0_4 w0_4.2.length c0_4, Ck.sl T24 A0_4 c0_4 w0_4.2]) ⟨by exact rfl, by exact rfl, by exact rfl, trivial⟩ (by decide)⟩)

/-! ### (*shadowbox/alloc.Alloc).waiting: function 50 -/
def alloc_Alloc_waiting.lo1 (w0_4 : (Bool × (List (Int × Int)))) : Nat → (List (Int × Int)) → Int → Option ((List (Int × Int)) × (Bool × (List (Int × Int))))
  | 0, _, _ => none
  | k1 + 1, l3_1, x19_1 => (if x19_1 < (w0_4.2.length : Int) then (if 0 ≤ x19_1 then (extent_Add.f k1 l3_1 ((w0_4.2).getD (x19_1).toNat ((0 : Int), (0 : Int)))).bind fun t12 => (alloc_Alloc_waiting.lo1 w0_4 k1) t12 (IntKind.wrap .i64 (x19_1 + (1 : Int))) else none) else some (l3_1, (true, w0_4.2)))
def alloc_Alloc_waiting.f (k : Nat) (v0 : ((Int × Int) × Bool × Int × (List (Int × Int)) × Unit × (List (Int × Int)))) (w0_4 : (Bool × (List (Int × Int)))) : Option ((List (Int × Int)) × (Bool × (List (Int × Int)))) :=
  (if w0_4.1 = true then alloc_Alloc_waiting.lo1 w0_4 k ([] : List (Int × Int)) (0 : Int) else some (([] : List (Int × Int)), (false, w0_4.2)))
set_option maxRecDepth 100000 in
set_option maxHeartbeats 4000000 in
theorem alloc_Alloc_waiting.calls (k : Nat) (pg0 : Nat) (A0_3 : Option Addr) (c0_3 : Nat) (r0_4 : Nat) (A0_5 : Option Addr) (c0_5 : Nat) (v0 : ((Int × Int) × Bool × Int × (List (Int × Int)) × Unit × (List (Int × Int)))) (A0_4 : Option Addr) (c0_4 : Nat) (w0_4 : (Bool × (List (Int × Int)))) (r : (List (Int × Int)) × (Bool × (List (Int × Int)))) (b : Bs) (hs0 : St b (stl [Ck.var 66 pg0 ((([Value.int .i64 v0.1.1] ++ [Value.int .i64 v0.1.2]) ++ ([Value.bool v0.2.1] ++ ([Value.int .i64 v0.2.2.1] ++ ([Value.slice A0_3 v0.2.2.2.1.length c0_3] ++ ([Value.map (some r0_4)] ++ [Value.slice A0_5 v0.2.2.2.2.2.length c0_5])))))), Ck.m1 r0_4 w0_4.1 A0_4 w0_4.2.length c0_4, Ck.sl T24 A0_4 c0_4 w0_4.2]) b.w) (R0_3 : Ro b A0_3 (em T24 v0.2.2.2.1)) (C0_3 : v0.2.2.2.1.length ≤ c0_3) (R0_5 : Ro b A0_5 (em T24 v0.2.2.2.2.2)) (C0_5 : v0.2.2.2.2.2.length ≤ c0_5) (H : alloc_Alloc_waiting.f k v0 w0_4 = some r) :
    Calls Try.prog 50 #[.pointer (some ⟨pg0, 0, none⟩)] b.w fun e w' => ∃ x : (Option Addr × Nat) × (Option Addr × Nat), e = .returned (.slice x.1.1 r.1.length x.1.2) ∧ St b (stl [Ck.var 66 pg0 ((([Value.int .i64 v0.1.1] ++ [Value.int .i64 v0.1.2]) ++ ([Value.bool v0.2.1] ++ ([Value.int .i64 v0.2.2.1] ++ ([Value.slice A0_3 v0.2.2.2.1.length c0_3] ++ ([Value.map (some r0_4)] ++ [Value.slice A0_5 v0.2.2.2.2.2.length c0_5])))))), Ck.m1 r0_4 r.2.1 x.2.1 r.2.2.length x.2.2, Ck.sl T24 x.2.1 x.2.2 r.2.2, Ck.ro T24 x.1.1 x.1.2 r.1]) w' := by
  unfold alloc_Alloc_waiting.f at H
  refine enterb (n := 28) Try.func50 rfl (by kernel_rfl) (by kernel_rfl) hs0 ?_
  refine cs_sub (sput (sput (sput s0 0 (some (Ck.var 66 pg0 ((([Value.int .i64 v0.1.1] ++ [Value.int .i64 v0.1.2]) ++ ([Value.bool v0.2.1] ++ ([Value.int .i64 v0.2.2.1] ++ ([Value.slice A0_3 v0.2.2.2.1.length c0_3] ++ ([Value.map (some r0_4)] ++ [Value.slice A0_5 v0.2.2.2.2.2.length c0_5]))))))))) 1 (some (Ck.m1 r0_4 w0_4.1 A0_4 w0_4.2.length c0_4))) 2 (some (Ck.sl T24 A0_4 c0_4 w0_4.2))) (sub_put (by exact rfl) (sub_put (by exact rfl) (sub_put (by exact rfl) (sub_nil _)))) ?_
  refine cs_seq ?_
  refine cs_region (l := [_]) ?_
  refine lv (.slice none 0 0) ?_
  refine ls_end ?_
  refine qn_then ?_
  refine cs_seq ?_
  refine cs_region (l := [_]) ?_
  refine lv (.slice none 0 0) ?_
  refine ls_end ?_
  refine qn_then ?_
  refine cs_seq ?_
  refine cs_seq ?_
  refine cs_region (l := [_, _, _, _, _]) ?_
  refine lv (.pointer (some ⟨pg0, 0, none⟩)) ?_
  refine lv (.pointer (some ⟨pg0, 0, none⟩)) ?_
  refine lv (.pointer (some ⟨pg0, (0 + 5), none⟩)) ?_
  refine ls_load (a0 := ⟨pg0, (0 + 5), none⟩) (v := .map (some r0_4)) (de := (TypeDesc.map 3 22)) rfl rfl (by kernel_rfl) rfl (by kernel_rfl) (by kernel_rfl) (by kernel_rfl) (fun w hs => (hs.var (k := 0) (by exact rfl) (Sub4.trans (Sub4.all _) (Sub4.skip (n := 2) (len_app (len1 _) (len1 _)) (Sub4.skip (n := 1) (len1 _) (Sub4.skip (n := 1) (len1 _) (Sub4.skip (n := 1) (len1 _) (Sub4.head _ _)))))))) ?_
  refine ls_m1open (r := r0_4) (p := w0_4.1) (A := A0_4) (m := w0_4.2.length) (c := c0_4) 1 (by exact rfl) ?_
  intro bo1 cl2 hb3 hp4
  refine ls_m1range (r := r0_4) (p := w0_4.1) (A := A0_4) (m := w0_4.2.length) (c := c0_4) (kt := 3) (et := 22) (born := bo1) (clock := cl2) 1 3 rfl rfl (by kernel_rfl) rfl (by kernel_rfl) (by kernel_rfl) (by exact rfl) ?_
  intro g5
  refine ls_end ?_
  refine qn_then ?_
  refine cs_block ?_
  refine cs_rounds 3 ?_
  refine rs_succ ?_
  refine cs_seq ?_
  refine cs_region (l := [_, _]) ?_
  by_cases q6 : w0_4.1 = true
  · replace H := ite_t q6 H
    refine ls_m1xp (r := r0_4) (p := w0_4.1) (A := A0_4) (m := w0_4.2.length) (c := c0_4) (born := bo1) (clock := cl2) (p' := true) 1 q6 (by exact rfl) ?_
    refine ls_m1next (r := r0_4) (A := A0_4) (m := w0_4.2.length) (c := c0_4) (born := bo1) (clock := cl2) (g := g5) 1 3 rfl rfl (by kernel_rfl) rfl rfl (by kernel_rfl) (by exact rfl) (by exact rfl) (hb3 q6) ?_
    refine lv (.bool true) ?_
    refine ls_end ?_
    refine qn_then ?_
    refine cs_seq ?_
    refine cs_true (by kernel_rfl) ?_
    refine cs_skip' ?_
    refine qn_then ?_
    refine cs_block ?_
    refine cs_seq ?_
    refine cs_region (l := [_, _, _]) ?_
    refine ls_m1entry (r := r0_4) (A := A0_4) (m := w0_4.2.length) (c := c0_4) (born := bo1) (clock := cl2) (g := g5) 1 3 rfl rfl (by kernel_rfl) rfl (by kernel_rfl) (by exact rfl) (by exact rfl) ?_
    refine lv (.slice A0_4 w0_4.2.length c0_4) ?_
    refine lv (.slice A0_4 w0_4.2.length c0_4) ?_
    refine ls_end ?_
    refine qn_then ?_
    refine cs_seq ?_
    refine cs_region (l := [_, _, _]) ?_
    refine lv (.slice A0_4 w0_4.2.length c0_4) ?_
    refine lv (.int .i64 (w0_4.2.length : Int)) ?_
    refine lv (.int .i64 (0 : Int)) ?_
    refine ls_end ?_
    refine qn_then ?_
    refine cs_block ?_
    refine cs_nilro 4 T24 ?_
    refine cs_sub (sput (sput (sput (sput (sput s0 0 (some (Ck.var 66 pg0 ((([Value.int .i64 v0.1.1] ++ [Value.int .i64 v0.1.2]) ++ ([Value.bool v0.2.1] ++ ([Value.int .i64 v0.2.2.1] ++ ([Value.slice A0_3 v0.2.2.2.1.length c0_3] ++ ([Value.map (some r0_4)] ++ [Value.slice A0_5 v0.2.2.2.2.2.length c0_5]))))))))) 1 (some (Ck.m1x r0_4 true A0_4 w0_4.2.length c0_4 bo1 cl2))) 2 (some (Ck.sl T24 A0_4 c0_4 w0_4.2))) 3 (some (Ck.obj g5 (.mapIter (some r0_4) cl2 #[bo1] cl2)))) 4 (some (Ck.ro T24 none 0 ([] : List (Int × Int))))) (sub_put (by exact rfl) (sub_put (by exact rfl) (sub_put (by exact rfl) (sub_put (by exact rfl) (sub_put (by exact rfl) (sub_nil _)))))) ?_
    refine cs_loop (fun kk f S => ∃ (fR : Fr) (A3_1 : Option Addr) (c3_1 : Nat) (l3_1 : List (Int × Int)) (x19_1 : Int), f = upd (upd (upd (upd (upd fR 3 (.slice A3_1 l3_1.length c3_1)) 12 (.pointer (some ⟨g5, 0, none⟩))) 17 (.slice A0_4 w0_4.2.length c0_4)) 18 (.int .i64 (w0_4.2.length : Int))) 19 (.int .i64 x19_1) ∧ S = sput (sput (sput (sput (sput s0 0 (some (Ck.var 66 pg0 ((([Value.int .i64 v0.1.1] ++ [Value.int .i64 v0.1.2]) ++ ([Value.bool v0.2.1] ++ ([Value.int .i64 v0.2.2.1] ++ ([Value.slice A0_3 v0.2.2.2.1.length c0_3] ++ ([Value.map (some r0_4)] ++ [Value.slice A0_5 v0.2.2.2.2.2.length c0_5]))))))))) 1 (some (Ck.m1x r0_4 true A0_4 w0_4.2.length c0_4 bo1 cl2))) 2 (some (Ck.sl T24 A0_4 c0_4 w0_4.2))) 3 (some (Ck.obj g5 (.mapIter (some r0_4) cl2 #[bo1] cl2)))) 4 (some (Ck.ro T24 A3_1 c3_1 l3_1)) ∧ alloc_Alloc_waiting.lo1 w0_4 kk l3_1 x19_1 = some r) k ?_ ?_ ?_
    · exact ⟨_, none, 0, ([] : List (Int × Int)), (0 : Int), fr_next (fr_next (fr_next (fr_next (fr_next (rfl) (by kernel_rfl)) (by kernel_rfl)) (by kernel_rfl)) (by kernel_rfl)) (by kernel_rfl), rfl, H⟩
    · rintro f S ⟨fr1, A3_1, c3_1, l3_1, x19_1, rfl, rfl, H⟩; cases H
    rintro k1 f S ⟨fr1, A3_1, c3_1, l3_1, x19_1, rfl, rfl, H⟩
    replace H : ((if x19_1 < (w0_4.2.length : Int) then (if 0 ≤ x19_1 then (extent_Add.f k1 l3_1 ((w0_4.2).getD (x19_1).toNat ((0 : Int), (0 : Int)))).bind fun t12 => (alloc_Alloc_waiting.lo1 w0_4 k1) t12 (IntKind.wrap .i64 (x19_1 + (1 : Int))) else none) else some (l3_1, (true, w0_4.2)))) = some r := H
    refine cs_seq ?_
    refine cs_region (l := [_]) ?_
    refine lv (.bool (decide (x19_1 < (w0_4.2.length : Int)))) ?_
    refine ls_end ?_
    refine qn_then ?_
    refine cs_seq ?_
    by_cases q7 : x19_1 < (w0_4.2.length : Int)
    · replace H := ite_t q7 H
      refine cs_know (c := true) (dec_t q7) 20 (by kernel_rfl) ?_
      refine cs_true (by kernel_rfl) ?_
      refine cs_skip' ?_
      refine qn_then ?_
      refine cs_seq ?_
      refine cs_block ?_
      refine cs_seq ?_
      refine cs_region (l := [_, _, _, _]) ?_
      obtain ⟨q8, H⟩ := ite_need H
      refine ls_at (T := T24) (tk := 2) (i := x19_1) (by exact rfl) q8 q7 ?_
      intro ad9 hA10
      refine ls_idxv T24 (A := A0_4) (c := c0_4) (l := w0_4.2) (k := .i64) (i := x19_1) (z := 2) (ad := ad9) rfl rfl (by kernel_rfl) hA10 rfl (by kernel_rfl) (by kernel_rfl) (by kernel_rfl) (by kernel_rfl) q8 q7 ?_
      refine ls_loadagg (a := (ad9.add ((x19_1).toNat * 2))) (sub := ([Value.int .i64 (((w0_4.2).getD (x19_1).toNat ((0 : Int), (0 : Int))).1)] ++ [Value.int .i64 (((w0_4.2).getD (x19_1).toNat ((0 : Int), (0 : Int))).2)])) rfl rfl (by kernel_rfl) rfl (by kernel_rfl) (by kernel_rfl) (by kernel_rfl) (len_app (len1 _) (len1 _)) (fun w hs => (hs.rd (k := 2) (by exact rfl)).part hA10 (em_sub T24 w0_4.2 (i := (x19_1).toNat) (by have h0 : (0 : Int) ≤ x19_1 := q8; have h1 : x19_1 < (w0_4.2.length : Int) := q7; omega))) ?_
      refine ls_new rfl rfl (by kernel_rfl) 5 (fun g => .pointer (some ⟨g, 0, none⟩)) (.cells ⟨([Value.int .i64 (0 : Int)] ++ [Value.int .i64 (0 : Int)])⟩ 24) (fun w => by kernel_rfl) ?_
      intro g11
      refine ls_storec (g := g11) (off := 0) (v := .agg ⟨([Value.int .i64 (((w0_4.2).getD (x19_1).toNat ((0 : Int), (0 : Int))).1)] ++ [Value.int .i64 (((w0_4.2).getD (x19_1).toNat ((0 : Int), (0 : Int))).2)])⟩) (vs := ([Value.int .i64 (((w0_4.2).getD (x19_1).toNat ((0 : Int), (0 : Int))).1)] ++ [Value.int .i64 (((w0_4.2).getD (x19_1).toNat ((0 : Int), (0 : Int))).2)])) (cs := ([Value.int .i64 (0 : Int)] ++ [Value.int .i64 (0 : Int)])) (ty := 24) 5 rfl rfl rfl (by kernel_rfl) (by kernel_rfl) (by kernel_rfl) (by exact rfl) (by kernel_rfl) (len_app (len1 _) (len1 _)) (one_app (one_cons rfl one_nil) (one_cons rfl one_nil)) (hl_of (Sub4.all _) (len_eq (len_app (len1 _) (len1 _)) (len_app (len1 _) (len1 _)))) (cs' := ([Value.int .i64 (((w0_4.2).getD (x19_1).toNat ((0 : Int), (0 : Int))).1)] ++ [Value.int .i64 (((w0_4.2).getD (x19_1).toNat ((0 : Int), (0 : Int))).2)])) (splc_all (len_eq (len_app (len1 _) (len1 _)) (len_app (len1 _) (len1 _)))) ?_
      refine ls_end ?_
      refine qn_then ?_
      refine cs_region (l := [_, _, _, _]) ?_
      refine lv (.slice A3_1 l3_1.length c3_1) ?_
      refine ls_loadagg (a := ⟨g11, 0, none⟩) (sub := ([Value.int .i64 (((w0_4.2).getD (x19_1).toNat ((0 : Int), (0 : Int))).1)] ++ [Value.int .i64 (((w0_4.2).getD (x19_1).toNat ((0 : Int), (0 : Int))).2)])) rfl rfl (by kernel_rfl) rfl (by kernel_rfl) (by kernel_rfl) (by kernel_rfl) (len_app (len1 _) (len1 _)) (fun w hs => (hs.vars (k := 5) (by exact rfl) (Sub4.all _))) ?_
      obtain ⟨t12, hc13, H⟩ := bind_some H
      refine ls_callb (fid := 13) (vals := #[.slice A3_1 l3_1.length c3_1, .agg ⟨([Value.int .i64 (((w0_4.2).getD (x19_1).toNat ((0 : Int), (0 : Int))).1)] ++ [Value.int .i64 (((w0_4.2).getD (x19_1).toNat ((0 : Int), (0 : Int))).2)])⟩]) (X := (Option Addr × Nat)) (fun x => .slice x.1 t12.length x.2) (fun x => stl [Ck.sl T24 x.1 x.2 t12]) [] [4] [] [Ck.ro T24 A3_1 c3_1 l3_1] 6 rfl rfl (by kernel_rfl) (fun w => by kernel_rfl) trivial ⟨by exact rfl, trivial⟩ (by decide) (fun w hs hb => extent_Add.calls k1 A3_1 c3_1 l3_1 ((w0_4.2).getD (x19_1).toNat ((0 : Int), (0 : Int))) t12 (lent b w [] [Ck.ro T24 A3_1 c3_1 l3_1]) hb (hs.roror (k := 4) (by exact rfl) (.head _)) (hs.rocap (k := 4) (by exact rfl)) hc13) ?_
      intro x14
      refine lv (.slice x14.1 t12.length x14.2) ?_
      refine ls_end ?_
      refine qn_block ?_
      refine qn_then ?_
      refine cs_region (l := [_, _]) ?_
      refine lv (.int .i64 (IntKind.wrap .i64 (x19_1 + (1 : Int)))) ?_
      refine lv (.int .i64 (IntKind.wrap .i64 (x19_1 + (1 : Int)))) ?_
      refine ls_end ?_
      refine qn_toro (T := T24) (A := x14.1) (c := x14.2) (l := t12) 6 4 (by exact rfl) ?_
      refine qn_again k1 (sput (sput (sput (sput (sput s0 0 (some (Ck.var 66 pg0 ((([Value.int .i64 v0.1.1] ++ [Value.int .i64 v0.1.2]) ++ ([Value.bool v0.2.1] ++ ([Value.int .i64 v0.2.2.1] ++ ([Value.slice A0_3 v0.2.2.2.1.length c0_3] ++ ([Value.map (some r0_4)] ++ [Value.slice A0_5 v0.2.2.2.2.2.length c0_5]))))))))) 1 (some (Ck.m1x r0_4 true A0_4 w0_4.2.length c0_4 bo1 cl2))) 2 (some (Ck.sl T24 A0_4 c0_4 w0_4.2))) 3 (some (Ck.obj g5 (.mapIter (some r0_4) cl2 #[bo1] cl2)))) 4 (some (Ck.ro T24 x14.1 x14.2 t12))) (Nat.le_refl _) ⟨_, x14.1, x14.2, t12, (IntKind.wrap .i64 (x19_1 + (1 : Int))), fr_next (fr_next (fr_next (fr_next (fr_next (rfl) (by kernel_rfl)) (by kernel_rfl)) (by kernel_rfl)) (by kernel_rfl)) (by kernel_rfl), rfl, H⟩ (sub_put (by exact rfl) (sub_put (by exact rfl) (sub_put (by exact rfl) (sub_put (by exact rfl) (sub_put (by exact rfl) (sub_nil _))))))
    replace H := ite_f q7 H
    refine cs_know (c := false) (dec_f q7) 20 (by kernel_rfl) ?_
    refine cs_false (by kernel_rfl) ?_
    refine cs_exit' ?_
    refine qx_then ?_
    refine qx_then ?_
    refine qx_same ?_
    refine qn_block ?_
    refine qn_rounds ?_
    refine rs_succ ?_
    refine cs_seq ?_
    refine cs_region (l := [_, _]) ?_
    refine ls_m1over2 (r := r0_4) (p := true) (A := A0_4) (m := w0_4.2.length) (c := c0_4) (born := bo1) (clock := cl2) (g := g5) 1 3 rfl rfl (by kernel_rfl) rfl (by kernel_rfl) (by exact rfl) (by exact rfl) (hb3 q6) ?_
    refine ls_m1shut (r := r0_4) (p := true) (A := A0_4) (m := w0_4.2.length) (c := c0_4) (born := bo1) (clock := cl2) 1 (by exact rfl) (fun _ => (hb3 q6)) (fun h => by cases h) ?_
    refine lv (.bool false) ?_
    refine ls_end ?_
    refine qn_then ?_
    refine cs_seq ?_
    refine cs_false (by kernel_rfl) ?_
    refine cs_exit' ?_
    refine qx_then ?_
    refine qx_then ?_
    refine qx_same ?_
    refine qn_then ?_
    refine cs_seq ?_
    refine cs_region (l := [_, _]) ?_
    refine lv (.slice A3_1 l3_1.length c3_1) ?_
    refine lv (.slice A3_1 l3_1.length c3_1) ?_
    refine ls_end ?_
    refine qn_then ?_
    refine cs_ret' ?_
    obtain rfl := Option.some.inj H
    refine qr_res (rs := [_]) rfl (fun w' hs => ⟨[.slice A3_1 l3_1.length c3_1], (res_tmp (by kernel_rfl) (.nil)), ((A3_1, c3_1), (A0_4, c0_4)), rfl, hs.pick (ts := [0, 1, 2, 4]) (cs := [Ck.var 66 pg0 ((([Value.int .i64 v0.1.1] ++ [Value.int .i64 v0.1.2]) ++ ([Value.bool v0.2.1] ++ ([Value.int .i64 v0.2.2.1] ++ ([Value.slice A0_3 v0.2.2.2.1.length c0_3] ++ ([Value.map (some r0_4)] ++ [Value.slice A0_5 v0.2.2.2.2.2.length c0_5])))))), Ck.m1 r0_4 true A0_4 w0_4.2.length c0_4, Ck.sl T24 A0_4 c0_4 w0_4.2, Ck.ro T24 A3_1 c3_1 l3_1]) ⟨by exact rfl, by exact rfl, by exact rfl, by exact rfl, trivial⟩ (by decide)⟩)
  replace H := ite_f q6 H
  refine ls_m1xp (r := r0_4) (p := w0_4.1) (A := A0_4) (m := w0_4.2.length) (c := c0_4) (born := bo1) (clock := cl2) (p' := false) 1 (Bool.eq_false_iff.mpr q6) (by exact rfl) ?_
  refine ls_m1over (r := r0_4) (A := A0_4) (m := w0_4.2.length) (c := c0_4) (born := bo1) (clock := cl2) (g := g5) 1 3 rfl rfl (by kernel_rfl) rfl (by kernel_rfl) (by exact rfl) (by exact rfl) ?_
  refine ls_m1shut (r := r0_4) (p := false) (A := A0_4) (m := w0_4.2.length) (c := c0_4) (born := bo1) (clock := cl2) 1 (by exact rfl) (fun h => by cases h) (fun _ => hp4 (Bool.eq_false_iff.mpr q6)) ?_
  refine lv (.bool false) ?_
  refine ls_end ?_
  refine qn_then ?_
  refine cs_seq ?_
  refine cs_false (by kernel_rfl) ?_
  refine cs_exit' ?_
  refine qx_then ?_
  refine qx_then ?_
  refine qx_same ?_
  refine qn_then ?_
  refine cs_seq ?_
  refine cs_region (l := [_, _]) ?_
  refine lv (.slice none 0 0) ?_
  refine lv (.slice none 0 0) ?_
  refine ls_end ?_
  refine qn_then ?_
  refine cs_ret' ?_
  refine qr_nilro 4 T24 ?_
  obtain rfl := Option.some.inj H
  refine qr_res (rs := [_]) rfl (fun w' hs => ⟨[.slice none 0 0], (res_tmp (by kernel_rfl) (.nil)), ((none, 0), (A0_4, c0_4)), rfl, hs.pick (ts := [0, 1, 2, 4]) (cs := [Ck.var 66 pg0 ((([Value.int .i64 v0.1.1] ++ [Value.int .i64 v0.1.2]) ++ ([Value.bool v0.2.1] ++ ([Value.int .i64 v0.2.2.1] ++ ([Value.slice A0_3 v0.2.2.2.1.length c0_3] ++ ([Value.map (some r0_4)] ++ [Value.slice A0_5 v0.2.2.2.2.2.length c0_5])))))), Ck.m1 r0_4 false A0_4 w0_4.2.length c0_4, Ck.sl T24 A0_4 c0_4 w0_4.2, Ck.ro T24 none 0 ([] : List (Int × Int))]) ⟨by exact rfl, by exact rfl, by exact rfl, by exact rfl, trivial⟩ (by decide)⟩)

end Go.Proofs.Ytiikfaefeonfhaa.G
