/- Printed by a program of this session (sz.py): plain functions, and walks that show that the code comes to them; no condition. -/
import Derived.Test.YtiikfaefeonfhaaProg
import Derived.Test.YtiikfaefeonfhaaTy
set_option linter.unusedVariables false
set_option linter.unusedSimpArgs false
namespace Go.Proofs.Ytiikfaefeonfhaa.G
open Go Go.RowKit Go.Proofs.Ytiikfaefeonfhaa.Sx

/-! ### (shadowbox/extent.Span).right: function 41 -/
def extent_Span_right.f (k : Nat) (a0 : (Int × Int)) : Option (Bool) :=
  (if a0.1 ≥ (0 : Int) then (if a0.1 < a0.2 then some (decide (a0.2 ≤ (1099511627776 : Int))) else some false) else some false)
set_option maxRecDepth 100000 in
set_option maxHeartbeats 4000000 in
theorem extent_Span_right.calls (k : Nat) (a0 : (Int × Int)) (r : Bool) (b : Bs) (hs0 : St b (stl []) b.w) (H : extent_Span_right.f k a0 = some r) :
    Calls Try.prog 41 #[.agg ⟨([Value.int .i64 a0.1] ++ [Value.int .i64 a0.2])⟩] b.w fun e w' => ∃ x : Unit, e = .returned (.bool r) ∧ St b (stl []) w' := by
  unfold extent_Span_right.f at H
  refine enterb (n := 18) Try.func41 rfl (by kernel_rfl) (by kernel_rfl) hs0 ?_
  refine cs_sub (s0) (sub_nil _) ?_
  refine cs_seq ?_
  refine cs_region (l := [_, _]) ?_
  refine ls_new rfl rfl (by kernel_rfl) 0 (fun g => .pointer (some ⟨g, 0, none⟩)) (.cells ⟨([Value.int .i64 a0.1] ++ [Value.int .i64 a0.2])⟩ 24) (fun w => by kernel_rfl) ?_
  intro g1
  refine ls_val (v := .bool false) rfl rfl (by kernel_rfl) (fun w => by kernel_rfl) ?_
  refine ls_end ?_
  refine qn_then ?_
  refine cs_seq ?_
  refine cs_region (l := [_, _, _, _, _, _, _, _, _, _, _, _, _, _, _, _]) ?_
  refine ls_val (v := .pointer (some ⟨g1, (0 + 0), none⟩)) rfl rfl (by kernel_rfl) (fun w => by kernel_rfl) ?_
  refine ls_load (a0 := ⟨g1, (0 + 0), none⟩) (v := .int .i64 a0.1) (de := (TypeDesc.int .i64)) rfl rfl (by kernel_rfl) rfl (by kernel_rfl) (by kernel_rfl) (by kernel_rfl) (fun w hs => (hs.var (k := 0) (by exact rfl) (Sub4.trans (Sub4.all _) (Sub4.head _ _)))) ?_
  refine ls_val (v := .bool (decide (a0.1 ≥ (0 : Int)))) rfl rfl (by kernel_rfl) (fun w => by kernel_rfl) ?_
  refine ls_val (v := .bool (decide (a0.1 ≥ (0 : Int)))) rfl rfl (by kernel_rfl) (fun w => by kernel_rfl) ?_
  by_cases q2 : a0.1 ≥ (0 : Int)
  · replace H := ite_t q2 H
    refine ls_know (c := true) (dec_t q2) 6 (by kernel_rfl) ?_
    refine ls_on (j := 3) (t := 6) (b := true) rfl rfl (by kernel_rfl) (by kernel_rfl) ?_
    refine ls_val (v := .pointer (some ⟨g1, (0 + 0), none⟩)) rfl rfl (by kernel_rfl) (fun w => by kernel_rfl) ?_
    refine ls_on (j := 3) (t := 6) (b := true) rfl rfl (by kernel_rfl) (by kernel_rfl) ?_
    refine ls_load (a0 := ⟨g1, (0 + 0), none⟩) (v := .int .i64 a0.1) (de := (TypeDesc.int .i64)) rfl rfl (by kernel_rfl) rfl (by kernel_rfl) (by kernel_rfl) (by kernel_rfl) (fun w hs => (hs.var (k := 0) (by exact rfl) (Sub4.trans (Sub4.all _) (Sub4.head _ _)))) ?_
    refine ls_on (j := 3) (t := 6) (b := true) rfl rfl (by kernel_rfl) (by kernel_rfl) ?_
    refine ls_val (v := .pointer (some ⟨g1, (0 + 1), none⟩)) rfl rfl (by kernel_rfl) (fun w => by kernel_rfl) ?_
    refine ls_on (j := 3) (t := 6) (b := true) rfl rfl (by kernel_rfl) (by kernel_rfl) ?_
    refine ls_load (a0 := ⟨g1, (0 + 1), none⟩) (v := .int .i64 a0.2) (de := (TypeDesc.int .i64)) rfl rfl (by kernel_rfl) rfl (by kernel_rfl) (by kernel_rfl) (by kernel_rfl) (fun w hs => (hs.var (k := 0) (by exact rfl) (Sub4.trans (Sub4.all _) (Sub4.skip (n := 1) (len1 _) (Sub4.all _))))) ?_
    refine ls_on (j := 3) (t := 6) (b := true) rfl rfl (by kernel_rfl) (by kernel_rfl) ?_
    refine ls_val (v := .bool (decide (a0.1 < a0.2))) rfl rfl (by kernel_rfl) (fun w => by kernel_rfl) ?_
    refine ls_val (v := .bool (decide (a0.1 < a0.2))) rfl rfl (by kernel_rfl) (fun w => by kernel_rfl) ?_
    refine ls_val (v := .bool (decide (a0.1 < a0.2))) rfl rfl (by kernel_rfl) (fun w => by kernel_rfl) ?_
    by_cases q3 : a0.1 < a0.2
    · replace H := ite_t q3 H
      refine ls_know (c := true) (dec_t q3) 13 (by kernel_rfl) ?_
      refine ls_on (j := 10) (t := 13) (b := true) rfl rfl (by kernel_rfl) (by kernel_rfl) ?_
      refine ls_val (v := .pointer (some ⟨g1, (0 + 1), none⟩)) rfl rfl (by kernel_rfl) (fun w => by kernel_rfl) ?_
      refine ls_on (j := 10) (t := 13) (b := true) rfl rfl (by kernel_rfl) (by kernel_rfl) ?_
      refine ls_load (a0 := ⟨g1, (0 + 1), none⟩) (v := .int .i64 a0.2) (de := (TypeDesc.int .i64)) rfl rfl (by kernel_rfl) rfl (by kernel_rfl) (by kernel_rfl) (by kernel_rfl) (fun w hs => (hs.var (k := 0) (by exact rfl) (Sub4.trans (Sub4.all _) (Sub4.skip (n := 1) (len1 _) (Sub4.all _))))) ?_
      refine ls_on (j := 10) (t := 13) (b := true) rfl rfl (by kernel_rfl) (by kernel_rfl) ?_
      refine ls_val (v := .bool (decide (a0.2 ≤ (1099511627776 : Int)))) rfl rfl (by kernel_rfl) (fun w => by kernel_rfl) ?_
      refine ls_val (v := .bool (decide (a0.2 ≤ (1099511627776 : Int)))) rfl rfl (by kernel_rfl) (fun w => by kernel_rfl) ?_
      refine ls_val (v := .bool (decide (a0.2 ≤ (1099511627776 : Int)))) rfl rfl (by kernel_rfl) (fun w => by kernel_rfl) ?_
      refine ls_end ?_
      refine qn_then ?_
      refine cs_ret' ?_
      obtain rfl := Option.some.inj H
      refine qr_res (rs := [_]) rfl (fun w' hs => ⟨[.bool (decide (a0.2 ≤ (1099511627776 : Int)))], (res_tmp (by kernel_rfl) (.nil)), (), rfl, hs.pick (ts := []) (cs := []) trivial (by decide)⟩)
    · replace H := ite_f q3 H
      refine ls_know (c := false) (dec_f q3) 13 (by kernel_rfl) ?_
      refine ls_off (j := 10) (t := 13) (b := true) (c := false) rfl rfl (by kernel_rfl) (by kernel_rfl) rfl rfl (by kernel_rfl) ?_
      refine ls_off (j := 10) (t := 13) (b := true) (c := false) rfl rfl (by kernel_rfl) (by kernel_rfl) rfl rfl (by kernel_rfl) ?_
      refine ls_off (j := 10) (t := 13) (b := true) (c := false) rfl rfl (by kernel_rfl) (by kernel_rfl) rfl rfl (by kernel_rfl) ?_
      refine ls_val (v := .bool false) rfl rfl (by kernel_rfl) (fun w => by kernel_rfl) ?_
      refine ls_val (v := .bool false) rfl rfl (by kernel_rfl) (fun w => by kernel_rfl) ?_
      refine ls_end ?_
      refine qn_then ?_
      refine cs_ret' ?_
      obtain rfl := Option.some.inj H
      refine qr_res (rs := [_]) rfl (fun w' hs => ⟨[.bool false], (res_tmp (by kernel_rfl) (.nil)), (), rfl, hs.pick (ts := []) (cs := []) trivial (by decide)⟩)
  · replace H := ite_f q2 H
    refine ls_know (c := false) (dec_f q2) 6 (by kernel_rfl) ?_
    refine ls_off (j := 3) (t := 6) (b := true) (c := false) rfl rfl (by kernel_rfl) (by kernel_rfl) rfl rfl (by kernel_rfl) ?_
    refine ls_off (j := 3) (t := 6) (b := true) (c := false) rfl rfl (by kernel_rfl) (by kernel_rfl) rfl rfl (by kernel_rfl) ?_
    refine ls_off (j := 3) (t := 6) (b := true) (c := false) rfl rfl (by kernel_rfl) (by kernel_rfl) rfl rfl (by kernel_rfl) ?_
    refine ls_off (j := 3) (t := 6) (b := true) (c := false) rfl rfl (by kernel_rfl) (by kernel_rfl) rfl rfl (by kernel_rfl) ?_
    refine ls_off (j := 3) (t := 6) (b := true) (c := false) rfl rfl (by kernel_rfl) (by kernel_rfl) rfl rfl (by kernel_rfl) ?_
    refine ls_val (v := .bool false) rfl rfl (by kernel_rfl) (fun w => by kernel_rfl) ?_
    refine ls_val (v := .bool false) rfl rfl (by kernel_rfl) (fun w => by kernel_rfl) ?_
    refine ls_off (j := 10) (t := 13) (b := true) (c := false) rfl rfl (by kernel_rfl) (by kernel_rfl) rfl rfl (by kernel_rfl) ?_
    refine ls_off (j := 10) (t := 13) (b := true) (c := false) rfl rfl (by kernel_rfl) (by kernel_rfl) rfl rfl (by kernel_rfl) ?_
    refine ls_off (j := 10) (t := 13) (b := true) (c := false) rfl rfl (by kernel_rfl) (by kernel_rfl) rfl rfl (by kernel_rfl) ?_
    refine ls_val (v := .bool false) rfl rfl (by kernel_rfl) (fun w => by kernel_rfl) ?_
    refine ls_val (v := .bool false) rfl rfl (by kernel_rfl) (fun w => by kernel_rfl) ?_
    refine ls_end ?_
    refine qn_then ?_
    refine cs_ret' ?_
    obtain rfl := Option.some.inj H
    refine qr_res (rs := [_]) rfl (fun w' hs => ⟨[.bool false], (res_tmp (by kernel_rfl) (.nil)), (), rfl, hs.pick (ts := []) (cs := []) trivial (by decide)⟩)

/-! ### shadowbox/extent.Valid: function 10 -/
def extent_Valid.lo1 (l0 : List (Int × Int)) : Nat → Int → Int → Option (Bool)
  | 0, _, _ => none
  | k1 + 1, x3_1, x8_1 => (if x8_1 < (l0.length : Int) then (if 0 ≤ x8_1 then (extent_Span_right.f k1 ((l0).getD (x8_1).toNat ((0 : Int), (0 : Int)))).bind fun t6 => (if t6 = true then lt (((l0).getD (x8_1).toNat ((0 : Int), (0 : Int))).1) fun y10 => (if y10 ≤ x3_1 then some false else lt (((l0).getD (x8_1).toNat ((0 : Int), (0 : Int))).2) fun y13 => (extent_Valid.lo1 l0 k1) y13 (IntKind.wrap .i64 (x8_1 + (1 : Int)))) else some false) else none) else some true)
def extent_Valid.f (k : Nat) (l0 : List (Int × Int)) : Option (Bool) :=
  extent_Valid.lo1 l0 k (-1 : Int) (0 : Int)
set_option maxRecDepth 100000 in
set_option maxHeartbeats 4000000 in
theorem extent_Valid.calls (k : Nat) (A0 : Option Addr) (c0 : Nat) (l0 : List (Int × Int)) (r : Bool) (b : Bs) (hs0 : St b (stl []) b.w) (R0 : Ro b A0 (em T24 l0)) (C0 : l0.length ≤ c0) (H : extent_Valid.f k l0 = some r) :
    Calls Try.prog 10 #[.slice A0 l0.length c0] b.w fun e w' => ∃ x : Unit, e = .returned (.bool r) ∧ St b (stl []) w' := by
  unfold extent_Valid.f at H
  refine enterb (n := 24) Try.func10 rfl (by kernel_rfl) (by kernel_rfl) hs0 ?_
  refine cs_sub (s0) (sub_nil _) ?_
  refine cs_seq ?_
  refine cs_region (l := [_]) ?_
  refine ls_val (v := .bool false) rfl rfl (by kernel_rfl) (fun w => by kernel_rfl) ?_
  refine ls_end ?_
  refine qn_then ?_
  refine cs_seq ?_
  refine cs_region (l := [_]) ?_
  refine ls_val (v := .int .i64 (-1 : Int)) rfl rfl (by kernel_rfl) (fun w => by kernel_rfl) ?_
  refine ls_end ?_
  refine qn_then ?_
  refine cs_seq ?_
  refine cs_seq ?_
  refine cs_region (l := [_, _, _]) ?_
  refine ls_val (v := .slice A0 l0.length c0) rfl rfl (by kernel_rfl) (fun w => by kernel_rfl) ?_
  refine ls_val (v := .int .i64 (l0.length : Int)) rfl rfl (by kernel_rfl) (fun w => by kernel_rfl) ?_
  refine ls_val (v := .int .i64 (0 : Int)) rfl rfl (by kernel_rfl) (fun w => by kernel_rfl) ?_
  refine ls_end ?_
  refine qn_then ?_
  refine cs_block ?_
  refine cs_sub (s0) (sub_nil _) ?_
  refine cs_loop (fun kk f S => ∃ (fR : Fr) (x3_1 : Int) (x8_1 : Int), f = upd (upd (upd (upd fR 3 (.int .i64 x3_1)) 6 (.slice A0 l0.length c0)) 7 (.int .i64 (l0.length : Int))) 8 (.int .i64 x8_1) ∧ S = s0 ∧ extent_Valid.lo1 l0 kk x3_1 x8_1 = some r) k ?_ ?_ ?_
  · exact ⟨_, (-1 : Int), (0 : Int), fr_next (fr_next (fr_next (fr_next (rfl) (by kernel_rfl)) (by kernel_rfl)) (by kernel_rfl)) (by kernel_rfl), rfl, H⟩
  · rintro f S ⟨fr1, x3_1, x8_1, rfl, rfl, H⟩; cases H
  · rintro k1 f S ⟨fr1, x3_1, x8_1, rfl, rfl, H⟩
    replace H : ((if x8_1 < (l0.length : Int) then (if 0 ≤ x8_1 then (extent_Span_right.f k1 ((l0).getD (x8_1).toNat ((0 : Int), (0 : Int)))).bind fun t6 => (if t6 = true then lt (((l0).getD (x8_1).toNat ((0 : Int), (0 : Int))).1) fun y10 => (if y10 ≤ x3_1 then some false else lt (((l0).getD (x8_1).toNat ((0 : Int), (0 : Int))).2) fun y13 => (extent_Valid.lo1 l0 k1) y13 (IntKind.wrap .i64 (x8_1 + (1 : Int)))) else some false) else none) else some true)) = some r := H
    refine cs_seq ?_
    refine cs_region (l := [_]) ?_
    refine ls_val (v := .bool (decide (x8_1 < (l0.length : Int)))) rfl rfl (by kernel_rfl) (fun w => by kernel_rfl) ?_
    refine ls_end ?_
    refine qn_then ?_
    refine cs_seq ?_
    by_cases q1 : x8_1 < (l0.length : Int)
    · replace H := ite_t q1 H
      refine cs_know (c := true) (dec_t q1) 9 (by kernel_rfl) ?_
      refine cs_true (by kernel_rfl) ?_
      refine cs_skip' ?_
      refine qn_then ?_
      refine cs_seq ?_
      refine cs_block ?_
      refine cs_seq ?_
      refine cs_region (l := [_, _, _, _]) ?_
      obtain ⟨q2, H⟩ := ite_need H
      obtain ⟨ad3, hA4⟩ := ido_at (T := T24) (l := l0) (i := x8_1) R0 q2 q1
      refine ls_idxv T24 (A := A0) (c := c0) (l := l0) (k := .i64) (i := x8_1) (z := 2) (ad := ad3) rfl rfl (by kernel_rfl) hA4 rfl (by kernel_rfl) (by kernel_rfl) (by kernel_rfl) (by kernel_rfl) q2 q1 ?_
      refine ls_loadagg (a := (ad3.add ((x8_1).toNat * 2))) (sub := ([Value.int .i64 (((l0).getD (x8_1).toNat ((0 : Int), (0 : Int))).1)] ++ [Value.int .i64 (((l0).getD (x8_1).toNat ((0 : Int), (0 : Int))).2)])) rfl rfl (by kernel_rfl) rfl (by kernel_rfl) (by kernel_rfl) (by kernel_rfl) (len_app (len1 _) (len1 _)) (fun w hs => (hs.old R0).part hA4 (em_sub T24 l0 (i := (x8_1).toNat) (by have h0 : (0 : Int) ≤ x8_1 := q2; have h1 : x8_1 < (l0.length : Int) := q1; omega))) ?_
      refine ls_new rfl rfl (by kernel_rfl) 0 (fun g => .pointer (some ⟨g, 0, none⟩)) (.cells ⟨([Value.int .i64 (0 : Int)] ++ [Value.int .i64 (0 : Int)])⟩ 24) (fun w => by kernel_rfl) ?_
      intro g5
      refine ls_storec (g := g5) (off := 0) (v := .agg ⟨([Value.int .i64 (((l0).getD (x8_1).toNat ((0 : Int), (0 : Int))).1)] ++ [Value.int .i64 (((l0).getD (x8_1).toNat ((0 : Int), (0 : Int))).2)])⟩) (vs := ([Value.int .i64 (((l0).getD (x8_1).toNat ((0 : Int), (0 : Int))).1)] ++ [Value.int .i64 (((l0).getD (x8_1).toNat ((0 : Int), (0 : Int))).2)])) (cs := ([Value.int .i64 (0 : Int)] ++ [Value.int .i64 (0 : Int)])) (ty := 24) 0 rfl rfl rfl (by kernel_rfl) (by kernel_rfl) (by kernel_rfl) (by exact rfl) (by kernel_rfl) (len_app (len1 _) (len1 _)) (one_app (one_cons rfl one_nil) (one_cons rfl one_nil)) (hl_of (Sub4.all _) (len_eq (len_app (len1 _) (len1 _)) (len_app (len1 _) (len1 _)))) (cs' := ([Value.int .i64 (((l0).getD (x8_1).toNat ((0 : Int), (0 : Int))).1)] ++ [Value.int .i64 (((l0).getD (x8_1).toNat ((0 : Int), (0 : Int))).2)])) (splc_all (len_eq (len_app (len1 _) (len1 _)) (len_app (len1 _) (len1 _)))) ?_
      refine ls_end ?_
      refine qn_then ?_
      refine cs_seq ?_
      refine cs_seq ?_
      refine cs_region (l := [_, _, _, _, _, _, _, _, _]) ?_
      refine ls_loadagg (a := ⟨g5, 0, none⟩) (sub := ([Value.int .i64 (((l0).getD (x8_1).toNat ((0 : Int), (0 : Int))).1)] ++ [Value.int .i64 (((l0).getD (x8_1).toNat ((0 : Int), (0 : Int))).2)])) rfl rfl (by kernel_rfl) rfl (by kernel_rfl) (by kernel_rfl) (by kernel_rfl) (len_app (len1 _) (len1 _)) (fun w hs => (hs.vars (k := 0) (by exact rfl) (Sub4.all _))) ?_
      obtain ⟨t6, hc7, H⟩ := bind_some H
      refine ls_callb (fid := 41) (vals := #[.agg ⟨([Value.int .i64 (((l0).getD (x8_1).toNat ((0 : Int), (0 : Int))).1)] ++ [Value.int .i64 (((l0).getD (x8_1).toNat ((0 : Int), (0 : Int))).2)])⟩]) (X := Unit) (fun x => .bool t6) (fun x => stl []) [] [] [] [] 1 rfl rfl (by kernel_rfl) (fun w => by kernel_rfl) trivial trivial (by decide) (fun w hs hb => extent_Span_right.calls k1 ((l0).getD (x8_1).toNat ((0 : Int), (0 : Int))) t6 (lent b w [] []) hb  hc7) ?_
      intro x8
      refine ls_val (v := .bool (!t6)) rfl rfl (by kernel_rfl) (fun w => by kernel_rfl) ?_
      refine ls_val (v := .bool (!t6)) rfl rfl (by kernel_rfl) (fun w => by kernel_rfl) ?_
      by_cases q9 : t6 = true
      · replace H := ite_t q9 H
        refine ls_know (c := false) (congrArg Bool.not (q9)) 15 (by kernel_rfl) ?_
        refine ls_on (j := 3) (t := 15) (b := false) rfl rfl (by kernel_rfl) (by kernel_rfl) ?_
        refine ls_val (v := .pointer (some ⟨g5, (0 + 0), none⟩)) rfl rfl (by kernel_rfl) (fun w => by kernel_rfl) ?_
        refine ls_on (j := 3) (t := 15) (b := false) rfl rfl (by kernel_rfl) (by kernel_rfl) ?_
        obtain ⟨y10, hy11, H⟩ := lt_some H
        refine ls_load (a0 := ⟨g5, (0 + 0), none⟩) (v := .int .i64 (((l0).getD (x8_1).toNat ((0 : Int), (0 : Int))).1)) (de := (TypeDesc.int .i64)) rfl rfl (by kernel_rfl) rfl (by kernel_rfl) (by kernel_rfl) (by kernel_rfl) (fun w hs => (hs.var (k := 0) (by exact rfl) (Sub4.trans (Sub4.all _) (Sub4.head _ _)))) ?_
        refine ls_ren 17 (v := .int .i64 (((l0).getD (x8_1).toNat ((0 : Int), (0 : Int))).1)) (v' := .int .i64 y10) (by kernel_rfl) (by rw [hy11]) ?_
        refine ls_on (j := 3) (t := 15) (b := false) rfl rfl (by kernel_rfl) (by kernel_rfl) ?_
        refine ls_val (v := .int .i64 x3_1) rfl rfl (by kernel_rfl) (fun w => by kernel_rfl) ?_
        refine ls_on (j := 3) (t := 15) (b := false) rfl rfl (by kernel_rfl) (by kernel_rfl) ?_
        refine ls_val (v := .bool (decide (y10 ≤ x3_1))) rfl rfl (by kernel_rfl) (fun w => by kernel_rfl) ?_
        refine ls_val (v := .bool (decide (y10 ≤ x3_1))) rfl rfl (by kernel_rfl) (fun w => by kernel_rfl) ?_
        refine ls_end ?_
        refine qn_then ?_
        by_cases q12 : y10 ≤ x3_1
        · replace H := ite_t q12 H
          refine cs_know (c := true) (dec_t q12) 20 (by kernel_rfl) ?_
          refine cs_true (by kernel_rfl) ?_
          refine cs_seq ?_
          refine cs_region (l := [_]) ?_
          refine ls_val (v := .bool false) rfl rfl (by kernel_rfl) (fun w => by kernel_rfl) ?_
          refine ls_end ?_
          refine qn_then ?_
          refine cs_ret' ?_
          refine qr_then ?_
          refine qr_block ?_
          refine qr_then ?_
          refine qr_then ?_
          refine qr_block ?_
          refine qr_then ?_
          obtain rfl := Option.some.inj H
          refine qr_res (rs := [_]) rfl (fun w' hs => ⟨[.bool false], (res_tmp (by kernel_rfl) (.nil)), (), rfl, hs.pick (ts := []) (cs := []) trivial (by decide)⟩)
        · replace H := ite_f q12 H
          refine cs_know (c := false) (dec_f q12) 20 (by kernel_rfl) ?_
          refine cs_false (by kernel_rfl) ?_
          refine cs_skip' ?_
          refine qn_then ?_
          refine cs_region (l := [_, _, _]) ?_
          refine ls_val (v := .pointer (some ⟨g5, (0 + 1), none⟩)) rfl rfl (by kernel_rfl) (fun w => by kernel_rfl) ?_
          obtain ⟨y13, hy14, H⟩ := lt_some H
          refine ls_load (a0 := ⟨g5, (0 + 1), none⟩) (v := .int .i64 (((l0).getD (x8_1).toNat ((0 : Int), (0 : Int))).2)) (de := (TypeDesc.int .i64)) rfl rfl (by kernel_rfl) rfl (by kernel_rfl) (by kernel_rfl) (by kernel_rfl) (fun w hs => (hs.var (k := 0) (by exact rfl) (Sub4.trans (Sub4.all _) (Sub4.skip (n := 1) (len1 _) (Sub4.all _))))) ?_
          refine ls_ren 22 (v := .int .i64 (((l0).getD (x8_1).toNat ((0 : Int), (0 : Int))).2)) (v' := .int .i64 y13) (by kernel_rfl) (by rw [hy14]) ?_
          refine ls_val (v := .int .i64 y13) rfl rfl (by kernel_rfl) (fun w => by kernel_rfl) ?_
          refine ls_end ?_
          refine qn_block ?_
          refine qn_then ?_
          refine cs_region (l := [_, _]) ?_
          refine ls_val (v := .int .i64 (IntKind.wrap .i64 (x8_1 + (1 : Int)))) rfl rfl (by kernel_rfl) (fun w => by kernel_rfl) ?_
          refine ls_val (v := .int .i64 (IntKind.wrap .i64 (x8_1 + (1 : Int)))) rfl rfl (by kernel_rfl) (fun w => by kernel_rfl) ?_
          refine ls_end ?_
          refine qn_again k1 (s0) (Nat.le_refl _) ⟨_, y13, (IntKind.wrap .i64 (x8_1 + (1 : Int))), fr_next (fr_next (fr_next (fr_next (rfl) (by kernel_rfl)) (by kernel_rfl)) (by kernel_rfl)) (by kernel_rfl), rfl, H⟩ (sub_nil _)
      · replace H := ite_f q9 H
        refine ls_know (c := true) (congrArg Bool.not (Bool.eq_false_iff.mpr q9)) 15 (by kernel_rfl) ?_
        refine ls_off (j := 3) (t := 15) (b := false) (c := true) rfl rfl (by kernel_rfl) (by kernel_rfl) rfl rfl (by kernel_rfl) ?_
        refine ls_off (j := 3) (t := 15) (b := false) (c := true) rfl rfl (by kernel_rfl) (by kernel_rfl) rfl rfl (by kernel_rfl) ?_
        refine ls_off (j := 3) (t := 15) (b := false) (c := true) rfl rfl (by kernel_rfl) (by kernel_rfl) rfl rfl (by kernel_rfl) ?_
        refine ls_off (j := 3) (t := 15) (b := false) (c := true) rfl rfl (by kernel_rfl) (by kernel_rfl) rfl rfl (by kernel_rfl) ?_
        refine ls_val (v := .bool true) rfl rfl (by kernel_rfl) (fun w => by kernel_rfl) ?_
        refine ls_end ?_
        refine qn_then ?_
        refine cs_true (by kernel_rfl) ?_
        refine cs_seq ?_
        refine cs_region (l := [_]) ?_
        refine ls_val (v := .bool false) rfl rfl (by kernel_rfl) (fun w => by kernel_rfl) ?_
        refine ls_end ?_
        refine qn_then ?_
        refine cs_ret' ?_
        refine qr_then ?_
        refine qr_block ?_
        refine qr_then ?_
        refine qr_then ?_
        refine qr_block ?_
        refine qr_then ?_
        obtain rfl := Option.some.inj H
        refine qr_res (rs := [_]) rfl (fun w' hs => ⟨[.bool false], (res_tmp (by kernel_rfl) (.nil)), (), rfl, hs.pick (ts := []) (cs := []) trivial (by decide)⟩)
    · replace H := ite_f q1 H
      refine cs_know (c := false) (dec_f q1) 9 (by kernel_rfl) ?_
      refine cs_false (by kernel_rfl) ?_
      refine cs_exit' ?_
      refine qx_then ?_
      refine qx_then ?_
      refine qx_same ?_
      refine qn_then ?_
      refine cs_seq ?_
      refine cs_region (l := [_]) ?_
      refine ls_val (v := .bool true) rfl rfl (by kernel_rfl) (fun w => by kernel_rfl) ?_
      refine ls_end ?_
      refine qn_then ?_
      refine cs_ret' ?_
      obtain rfl := Option.some.inj H
      refine qr_res (rs := [_]) rfl (fun w' hs => ⟨[.bool true], (res_tmp (by kernel_rfl) (.nil)), (), rfl, hs.pick (ts := []) (cs := []) trivial (by decide)⟩)

/-! ### shadowbox/extent.first$1: function 53 -/
def extent_first_1.f (k : Nat) (a0 : (Int × Int)) (a1 : Int) : Option (Int) :=
  some (IntKind.wrap .i64 (a0.2 - a1))
set_option maxRecDepth 100000 in
set_option maxHeartbeats 4000000 in
theorem extent_first_1.calls (k : Nat) (a0 : (Int × Int)) (a1 : Int) (r : Int) (b : Bs) (hs0 : St b (stl []) b.w) (H : extent_first_1.f k a0 a1 = some r) :
    Calls Try.prog 53 #[.agg ⟨([Value.int .i64 a0.1] ++ [Value.int .i64 a0.2])⟩, .int .i64 a1] b.w fun e w' => ∃ x : Unit, e = .returned (.int .i64 r) ∧ St b (stl []) w' := by
  unfold extent_first_1.f at H
  refine enterb (n := 9) Try.func53 rfl (by kernel_rfl) (by kernel_rfl) hs0 ?_
  refine cs_sub (s0) (sub_nil _) ?_
  refine cs_seq ?_
  refine cs_region (l := [_, _]) ?_
  refine ls_new rfl rfl (by kernel_rfl) 0 (fun g => .pointer (some ⟨g, 0, none⟩)) (.cells ⟨([Value.int .i64 a0.1] ++ [Value.int .i64 a0.2])⟩ 24) (fun w => by kernel_rfl) ?_
  intro g1
  refine ls_val (v := .int .i64 (0 : Int)) rfl rfl (by kernel_rfl) (fun w => by kernel_rfl) ?_
  refine ls_end ?_
  refine qn_then ?_
  refine cs_seq ?_
  refine cs_region (l := [_, _, _, _, _]) ?_
  refine ls_val (v := .pointer (some ⟨g1, (0 + 1), none⟩)) rfl rfl (by kernel_rfl) (fun w => by kernel_rfl) ?_
  refine ls_load (a0 := ⟨g1, (0 + 1), none⟩) (v := .int .i64 a0.2) (de := (TypeDesc.int .i64)) rfl rfl (by kernel_rfl) rfl (by kernel_rfl) (by kernel_rfl) (by kernel_rfl) (fun w hs => (hs.var (k := 0) (by exact rfl) (Sub4.trans (Sub4.all _) (Sub4.skip (n := 1) (len1 _) (Sub4.all _))))) ?_
  refine ls_val (v := .int .i64 a1) rfl rfl (by kernel_rfl) (fun w => by kernel_rfl) ?_
  refine ls_val (v := .int .i64 (IntKind.wrap .i64 (a0.2 - a1))) rfl rfl (by kernel_rfl) (fun w => by kernel_rfl) ?_
  refine ls_val (v := .int .i64 (IntKind.wrap .i64 (a0.2 - a1))) rfl rfl (by kernel_rfl) (fun w => by kernel_rfl) ?_
  refine ls_end ?_
  refine qn_then ?_
  refine cs_ret' ?_
  obtain rfl := Option.some.inj H
  refine qr_res (rs := [_]) rfl (fun w' hs => ⟨[.int .i64 (IntKind.wrap .i64 (a0.2 - a1))], (res_tmp (by kernel_rfl) (.nil)), (), rfl, hs.pick (ts := []) (cs := []) trivial (by decide)⟩)

/-! ### slices.BinarySearchFunc[[]shadowbox/extent.Span,shadowbox/extent.Span,int], specialized: function 52 -/
def slices_BinarySearchFunc_52_s53.lo1 (l0 : List (Int × Int)) (a1 : Int) : Nat → Int → Int → Option (Int × Bool)
  | 0, _, _ => none
  | k1 + 1, x9_1, x10_1 => (if x9_1 < x10_1 then lt (IntKind.wrap .u64 (IntKind.wrap .i64 (x9_1 + x10_1))) fun y2 => (if 0 ≤ IntKind.wrap .i64 (Int.fdiv y2 2) then (if IntKind.wrap .i64 (Int.fdiv y2 2) < (l0.length : Int) then (extent_first_1.f k1 ((l0).getD (IntKind.wrap .i64 (Int.fdiv y2 2)).toNat ((0 : Int), (0 : Int))) a1).bind fun t8 => (if t8 < (0 : Int) then lt (IntKind.wrap .i64 ((IntKind.wrap .i64 (Int.fdiv y2 2)) + (1 : Int))) fun y12 => (slices_BinarySearchFunc_52_s53.lo1 l0 a1 k1) y12 x10_1 else (slices_BinarySearchFunc_52_s53.lo1 l0 a1 k1) x9_1 (IntKind.wrap .i64 (Int.fdiv y2 2))) else none) else none) else (if x9_1 < (l0.length : Int) then (if 0 ≤ x9_1 then (extent_first_1.f k1 ((l0).getD (x9_1).toNat ((0 : Int), (0 : Int))) a1).bind fun t18 => some (x9_1, decide (t18 = (0 : Int))) else none) else some (x9_1, false)))
def slices_BinarySearchFunc_52_s53.f (k : Nat) (l0 : List (Int × Int)) (a1 : Int) : Option (Int × Bool) :=
  slices_BinarySearchFunc_52_s53.lo1 l0 a1 k (0 : Int) (l0.length : Int)
set_option maxRecDepth 100000 in
set_option maxHeartbeats 4000000 in
theorem slices_BinarySearchFunc_52_s53.calls (k : Nat) (A0 : Option Addr) (c0 : Nat) (l0 : List (Int × Int)) (a1 : Int) (r : Int × Bool) (b : Bs) (hs0 : St b (stl []) b.w) (R0 : Ro b A0 (em T24 l0)) (C0 : l0.length ≤ c0) (H : slices_BinarySearchFunc_52_s53.f k l0 a1 = some r) :
    Calls Try.prog 52 #[.slice A0 l0.length c0, .int .i64 a1, .func (.func 53) #[] #[]] b.w fun e w' => ∃ x : Unit, e = .returned (.tuple #[.int .i64 r.1, .bool r.2]) ∧ St b (stl []) w' := by
  unfold slices_BinarySearchFunc_52_s53.f at H
  refine enterb (n := 49) Try.func52 rfl (by kernel_rfl) (by kernel_rfl) hs0 ?_
  refine cs_sub (s0) (sub_nil _) ?_
  refine cs_seq ?_
  refine cs_region (l := [_, _]) ?_
  refine ls_val (v := .int .i64 (0 : Int)) rfl rfl (by kernel_rfl) (fun w => by kernel_rfl) ?_
  refine ls_val (v := .bool false) rfl rfl (by kernel_rfl) (fun w => by kernel_rfl) ?_
  refine ls_end ?_
  refine qn_then ?_
  refine cs_seq ?_
  refine cs_region (l := [_, _, _]) ?_
  refine ls_val (v := .slice A0 l0.length c0) rfl rfl (by kernel_rfl) (fun w => by kernel_rfl) ?_
  refine ls_val (v := .int .i64 (l0.length : Int)) rfl rfl (by kernel_rfl) (fun w => by kernel_rfl) ?_
  refine ls_val (v := .int .i64 (l0.length : Int)) rfl rfl (by kernel_rfl) (fun w => by kernel_rfl) ?_
  refine ls_end ?_
  refine qn_then ?_
  refine cs_seq ?_
  refine cs_region (l := [_, _, _]) ?_
  refine ls_val (v := .int .i64 (l0.length : Int)) rfl rfl (by kernel_rfl) (fun w => by kernel_rfl) ?_
  refine ls_val (v := .int .i64 (0 : Int)) rfl rfl (by kernel_rfl) (fun w => by kernel_rfl) ?_
  refine ls_val (v := .int .i64 (l0.length : Int)) rfl rfl (by kernel_rfl) (fun w => by kernel_rfl) ?_
  refine ls_end ?_
  refine qn_then ?_
  refine cs_seq ?_
  refine cs_block ?_
  refine cs_sub (s0) (sub_nil _) ?_
  refine cs_loop (fun kk f S => ∃ (fR : Fr) (x9_1 : Int) (x10_1 : Int), f = upd (upd (upd (upd (upd (upd fR 0 (.slice A0 l0.length c0)) 1 (.int .i64 a1)) 2 (.func (.func 53) #[] #[])) 8 (.int .i64 (l0.length : Int))) 9 (.int .i64 x9_1)) 10 (.int .i64 x10_1) ∧ S = s0 ∧ slices_BinarySearchFunc_52_s53.lo1 l0 a1 kk x9_1 x10_1 = some r) k ?_ ?_ ?_
  · exact ⟨_, (0 : Int), (l0.length : Int), fr_next (fr_next (fr_next (fr_next (fr_next (fr_next (rfl) (by kernel_rfl)) (by kernel_rfl)) (by kernel_rfl)) (by kernel_rfl)) (by kernel_rfl)) (by kernel_rfl), rfl, H⟩
  · rintro f S ⟨fr1, x9_1, x10_1, rfl, rfl, H⟩; cases H
  · rintro k1 f S ⟨fr1, x9_1, x10_1, rfl, rfl, H⟩
    replace H : ((if x9_1 < x10_1 then lt (IntKind.wrap .u64 (IntKind.wrap .i64 (x9_1 + x10_1))) fun y2 => (if 0 ≤ IntKind.wrap .i64 (Int.fdiv y2 2) then (if IntKind.wrap .i64 (Int.fdiv y2 2) < (l0.length : Int) then (extent_first_1.f k1 ((l0).getD (IntKind.wrap .i64 (Int.fdiv y2 2)).toNat ((0 : Int), (0 : Int))) a1).bind fun t8 => (if t8 < (0 : Int) then lt (IntKind.wrap .i64 ((IntKind.wrap .i64 (Int.fdiv y2 2)) + (1 : Int))) fun y12 => (slices_BinarySearchFunc_52_s53.lo1 l0 a1 k1) y12 x10_1 else (slices_BinarySearchFunc_52_s53.lo1 l0 a1 k1) x9_1 (IntKind.wrap .i64 (Int.fdiv y2 2))) else none) else none) else (if x9_1 < (l0.length : Int) then (if 0 ≤ x9_1 then (extent_first_1.f k1 ((l0).getD (x9_1).toNat ((0 : Int), (0 : Int))) a1).bind fun t18 => some (x9_1, decide (t18 = (0 : Int))) else none) else some (x9_1, false)))) = some r := H
    refine cs_seq ?_
    refine cs_seq ?_
    refine cs_region (l := [_, _, _]) ?_
    refine ls_val (v := .int .i64 x9_1) rfl rfl (by kernel_rfl) (fun w => by kernel_rfl) ?_
    refine ls_val (v := .int .i64 x10_1) rfl rfl (by kernel_rfl) (fun w => by kernel_rfl) ?_
    refine ls_val (v := .bool (decide (x9_1 < x10_1))) rfl rfl (by kernel_rfl) (fun w => by kernel_rfl) ?_
    refine ls_end ?_
    refine qn_then ?_
    by_cases q1 : x9_1 < x10_1
    · replace H := ite_t q1 H
      refine cs_know (c := true) (dec_t q1) 17 (by kernel_rfl) ?_
      refine cs_true (by kernel_rfl) ?_
      refine cs_skip' ?_
      refine qn_then ?_
      refine cs_block ?_
      refine cs_seq ?_
      refine cs_region (l := [_, _, _, _, _, _, _]) ?_
      refine ls_val (v := .int .i64 x9_1) rfl rfl (by kernel_rfl) (fun w => by kernel_rfl) ?_
      refine ls_val (v := .int .i64 x10_1) rfl rfl (by kernel_rfl) (fun w => by kernel_rfl) ?_
      refine ls_val (v := .int .i64 (IntKind.wrap .i64 (x9_1 + x10_1))) rfl rfl (by kernel_rfl) (fun w => by kernel_rfl) ?_
      obtain ⟨y2, hy3, H⟩ := lt_some H
      refine ls_val (v := .int .u64 (IntKind.wrap .u64 (IntKind.wrap .i64 (x9_1 + x10_1)))) rfl rfl (by kernel_rfl) (fun w => by kernel_rfl) ?_
      refine ls_ren 21 (v := .int .u64 (IntKind.wrap .u64 (IntKind.wrap .i64 (x9_1 + x10_1)))) (v' := .int .u64 y2) (by kernel_rfl) (by rw [hy3]) ?_
      refine ls_val (v := .int .u64 (Int.fdiv y2 2)) rfl rfl (by kernel_rfl) (fun w => by kernel_rfl) ?_
      refine ls_val (v := .int .i64 (IntKind.wrap .i64 (Int.fdiv y2 2))) rfl rfl (by kernel_rfl) (fun w => by kernel_rfl) ?_
      refine ls_val (v := .int .i64 (IntKind.wrap .i64 (Int.fdiv y2 2))) rfl rfl (by kernel_rfl) (fun w => by kernel_rfl) ?_
      refine ls_end ?_
      refine qn_then ?_
      refine cs_seq ?_
      refine cs_region (l := [_, _, _, _, _, _, _, _]) ?_
      refine ls_val (v := .func (.func 53) #[] #[]) rfl rfl (by kernel_rfl) (fun w => by kernel_rfl) ?_
      refine ls_val (v := .slice A0 l0.length c0) rfl rfl (by kernel_rfl) (fun w => by kernel_rfl) ?_
      refine ls_val (v := .int .i64 (IntKind.wrap .i64 (Int.fdiv y2 2))) rfl rfl (by kernel_rfl) (fun w => by kernel_rfl) ?_
      obtain ⟨q4, H⟩ := ite_need H
      obtain ⟨q5, H⟩ := ite_need H
      obtain ⟨ad6, hA7⟩ := ido_at (T := T24) (l := l0) (i := IntKind.wrap .i64 (Int.fdiv y2 2)) R0 q4 q5
      refine ls_idxv T24 (A := A0) (c := c0) (l := l0) (k := .i64) (i := IntKind.wrap .i64 (Int.fdiv y2 2)) (z := 2) (ad := ad6) rfl rfl (by kernel_rfl) hA7 rfl (by kernel_rfl) (by kernel_rfl) (by kernel_rfl) (by kernel_rfl) q4 q5 ?_
      refine ls_loadagg (a := (ad6.add ((IntKind.wrap .i64 (Int.fdiv y2 2)).toNat * 2))) (sub := ([Value.int .i64 (((l0).getD (IntKind.wrap .i64 (Int.fdiv y2 2)).toNat ((0 : Int), (0 : Int))).1)] ++ [Value.int .i64 (((l0).getD (IntKind.wrap .i64 (Int.fdiv y2 2)).toNat ((0 : Int), (0 : Int))).2)])) rfl rfl (by kernel_rfl) rfl (by kernel_rfl) (by kernel_rfl) (by kernel_rfl) (len_app (len1 _) (len1 _)) (fun w hs => (hs.old R0).part hA7 (em_sub T24 l0 (i := (IntKind.wrap .i64 (Int.fdiv y2 2)).toNat) (by have h0 : (0 : Int) ≤ IntKind.wrap .i64 (Int.fdiv y2 2) := q4; have h1 : IntKind.wrap .i64 (Int.fdiv y2 2) < (l0.length : Int) := q5; omega))) ?_
      refine ls_val (v := .int .i64 a1) rfl rfl (by kernel_rfl) (fun w => by kernel_rfl) ?_
      obtain ⟨t8, hc9, H⟩ := bind_some H
      refine ls_callb (fid := 53) (vals := #[.agg ⟨([Value.int .i64 (((l0).getD (IntKind.wrap .i64 (Int.fdiv y2 2)).toNat ((0 : Int), (0 : Int))).1)] ++ [Value.int .i64 (((l0).getD (IntKind.wrap .i64 (Int.fdiv y2 2)).toNat ((0 : Int), (0 : Int))).2)])⟩, .int .i64 a1]) (X := Unit) (fun x => .int .i64 t8) (fun x => stl []) [] [] [] [] 0 rfl rfl (by kernel_rfl) (fun w => by kernel_rfl) trivial trivial (by decide) (fun w hs hb => extent_first_1.calls k1 ((l0).getD (IntKind.wrap .i64 (Int.fdiv y2 2)).toNat ((0 : Int), (0 : Int))) a1 t8 (lent b w [] []) hb  hc9) ?_
      intro x10
      refine ls_val (v := .bool (decide (t8 < (0 : Int)))) rfl rfl (by kernel_rfl) (fun w => by kernel_rfl) ?_
      refine ls_end ?_
      refine qn_then ?_
      by_cases q11 : t8 < (0 : Int)
      · replace H := ite_t q11 H
        refine cs_know (c := true) (dec_t q11) 31 (by kernel_rfl) ?_
        refine cs_true (by kernel_rfl) ?_
        refine cs_region (l := [_, _, _]) ?_
        refine ls_val (v := .int .i64 (IntKind.wrap .i64 (Int.fdiv y2 2))) rfl rfl (by kernel_rfl) (fun w => by kernel_rfl) ?_
        obtain ⟨y12, hy13, H⟩ := lt_some H
        refine ls_val (v := .int .i64 (IntKind.wrap .i64 ((IntKind.wrap .i64 (Int.fdiv y2 2)) + (1 : Int)))) rfl rfl (by kernel_rfl) (fun w => by kernel_rfl) ?_
        refine ls_ren 33 (v := .int .i64 (IntKind.wrap .i64 ((IntKind.wrap .i64 (Int.fdiv y2 2)) + (1 : Int)))) (v' := .int .i64 y12) (by kernel_rfl) (by rw [hy13]) ?_
        refine ls_val (v := .int .i64 y12) rfl rfl (by kernel_rfl) (fun w => by kernel_rfl) ?_
        refine ls_end ?_
        refine qn_block ?_
        refine qn_again k1 (s0) (Nat.le_refl _) ⟨_, y12, x10_1, fr_next (fr_next (fr_next (fr_next (fr_next (fr_next (rfl) (by kernel_rfl)) (by kernel_rfl)) (by kernel_rfl)) (by kernel_rfl)) (by kernel_rfl)) (by kernel_rfl), rfl, H⟩ (sub_nil _)
      · replace H := ite_f q11 H
        refine cs_know (c := false) (dec_f q11) 31 (by kernel_rfl) ?_
        refine cs_false (by kernel_rfl) ?_
        refine cs_region (l := [_, _]) ?_
        refine ls_val (v := .int .i64 (IntKind.wrap .i64 (Int.fdiv y2 2))) rfl rfl (by kernel_rfl) (fun w => by kernel_rfl) ?_
        refine ls_val (v := .int .i64 (IntKind.wrap .i64 (Int.fdiv y2 2))) rfl rfl (by kernel_rfl) (fun w => by kernel_rfl) ?_
        refine ls_end ?_
        refine qn_block ?_
        refine qn_again k1 (s0) (Nat.le_refl _) ⟨_, x9_1, (IntKind.wrap .i64 (Int.fdiv y2 2)), fr_next (fr_next (fr_next (fr_next (fr_next (fr_next (rfl) (by kernel_rfl)) (by kernel_rfl)) (by kernel_rfl)) (by kernel_rfl)) (by kernel_rfl)) (by kernel_rfl), rfl, H⟩ (sub_nil _)
    · replace H := ite_f q1 H
      refine cs_know (c := false) (dec_f q1) 17 (by kernel_rfl) ?_
      refine cs_false (by kernel_rfl) ?_
      refine cs_exit' ?_
      refine qx_then ?_
      refine qx_then ?_
      refine qx_same ?_
      refine qn_then ?_
      refine cs_seq ?_
      refine cs_region (l := [_, _, _, _, _, _, _, _, _, _, _, _, _, _, _, _]) ?_
      refine ls_val (v := .int .i64 x9_1) rfl rfl (by kernel_rfl) (fun w => by kernel_rfl) ?_
      refine ls_val (v := .int .i64 x9_1) rfl rfl (by kernel_rfl) (fun w => by kernel_rfl) ?_
      refine ls_val (v := .int .i64 (l0.length : Int)) rfl rfl (by kernel_rfl) (fun w => by kernel_rfl) ?_
      refine ls_val (v := .bool (decide (x9_1 < (l0.length : Int)))) rfl rfl (by kernel_rfl) (fun w => by kernel_rfl) ?_
      refine ls_val (v := .bool (decide (x9_1 < (l0.length : Int)))) rfl rfl (by kernel_rfl) (fun w => by kernel_rfl) ?_
      by_cases q14 : x9_1 < (l0.length : Int)
      · replace H := ite_t q14 H
        refine ls_know (c := true) (dec_t q14) 39 (by kernel_rfl) ?_
        refine ls_on (j := 4) (t := 39) (b := true) rfl rfl (by kernel_rfl) (by kernel_rfl) ?_
        refine ls_val (v := .func (.func 53) #[] #[]) rfl rfl (by kernel_rfl) (fun w => by kernel_rfl) ?_
        refine ls_on (j := 4) (t := 39) (b := true) rfl rfl (by kernel_rfl) (by kernel_rfl) ?_
        refine ls_val (v := .slice A0 l0.length c0) rfl rfl (by kernel_rfl) (fun w => by kernel_rfl) ?_
        refine ls_on (j := 4) (t := 39) (b := true) rfl rfl (by kernel_rfl) (by kernel_rfl) ?_
        refine ls_val (v := .int .i64 x9_1) rfl rfl (by kernel_rfl) (fun w => by kernel_rfl) ?_
        refine ls_on (j := 4) (t := 39) (b := true) rfl rfl (by kernel_rfl) (by kernel_rfl) ?_
        obtain ⟨q15, H⟩ := ite_need H
        obtain ⟨ad16, hA17⟩ := ido_at (T := T24) (l := l0) (i := x9_1) R0 q15 q14
        refine ls_idxv T24 (A := A0) (c := c0) (l := l0) (k := .i64) (i := x9_1) (z := 2) (ad := ad16) rfl rfl (by kernel_rfl) hA17 rfl (by kernel_rfl) (by kernel_rfl) (by kernel_rfl) (by kernel_rfl) q15 q14 ?_
        refine ls_on (j := 4) (t := 39) (b := true) rfl rfl (by kernel_rfl) (by kernel_rfl) ?_
        refine ls_loadagg (a := (ad16.add ((x9_1).toNat * 2))) (sub := ([Value.int .i64 (((l0).getD (x9_1).toNat ((0 : Int), (0 : Int))).1)] ++ [Value.int .i64 (((l0).getD (x9_1).toNat ((0 : Int), (0 : Int))).2)])) rfl rfl (by kernel_rfl) rfl (by kernel_rfl) (by kernel_rfl) (by kernel_rfl) (len_app (len1 _) (len1 _)) (fun w hs => (hs.old R0).part hA17 (em_sub T24 l0 (i := (x9_1).toNat) (by have h0 : (0 : Int) ≤ x9_1 := q15; have h1 : x9_1 < (l0.length : Int) := q14; omega))) ?_
        refine ls_on (j := 4) (t := 39) (b := true) rfl rfl (by kernel_rfl) (by kernel_rfl) ?_
        refine ls_val (v := .int .i64 a1) rfl rfl (by kernel_rfl) (fun w => by kernel_rfl) ?_
        refine ls_on (j := 4) (t := 39) (b := true) rfl rfl (by kernel_rfl) (by kernel_rfl) ?_
        obtain ⟨t18, hc19, H⟩ := bind_some H
        refine ls_callb (fid := 53) (vals := #[.agg ⟨([Value.int .i64 (((l0).getD (x9_1).toNat ((0 : Int), (0 : Int))).1)] ++ [Value.int .i64 (((l0).getD (x9_1).toNat ((0 : Int), (0 : Int))).2)])⟩, .int .i64 a1]) (X := Unit) (fun x => .int .i64 t18) (fun x => stl []) [] [] [] [] 0 rfl rfl (by kernel_rfl) (fun w => by kernel_rfl) trivial trivial (by decide) (fun w hs hb => extent_first_1.calls k1 ((l0).getD (x9_1).toNat ((0 : Int), (0 : Int))) a1 t18 (lent b w [] []) hb  hc19) ?_
        intro x20
        refine ls_on (j := 4) (t := 39) (b := true) rfl rfl (by kernel_rfl) (by kernel_rfl) ?_
        refine ls_val (v := .bool (decide (t18 = (0 : Int)))) rfl rfl (by kernel_rfl) (fun w => by kernel_rfl) ?_
        refine ls_val (v := .bool (decide (t18 = (0 : Int)))) rfl rfl (by kernel_rfl) (fun w => by kernel_rfl) ?_
        refine ls_val (v := .int .i64 x9_1) rfl rfl (by kernel_rfl) (fun w => by kernel_rfl) ?_
        refine ls_val (v := .bool (decide (t18 = (0 : Int)))) rfl rfl (by kernel_rfl) (fun w => by kernel_rfl) ?_
        refine ls_end ?_
        refine qn_then ?_
        refine cs_ret' ?_
        obtain rfl := Option.some.inj H
        refine qr_res (rs := [_, _]) rfl (fun w' hs => ⟨[.int .i64 x9_1, .bool (decide (t18 = (0 : Int)))], (res_tmp (by kernel_rfl) (res_tmp (by kernel_rfl) (.nil))), (), rfl, hs.pick (ts := []) (cs := []) trivial (by decide)⟩)
      · replace H := ite_f q14 H
        refine ls_know (c := false) (dec_f q14) 39 (by kernel_rfl) ?_
        refine ls_off (j := 4) (t := 39) (b := true) (c := false) rfl rfl (by kernel_rfl) (by kernel_rfl) rfl rfl (by kernel_rfl) ?_
        refine ls_off (j := 4) (t := 39) (b := true) (c := false) rfl rfl (by kernel_rfl) (by kernel_rfl) rfl rfl (by kernel_rfl) ?_
        refine ls_off (j := 4) (t := 39) (b := true) (c := false) rfl rfl (by kernel_rfl) (by kernel_rfl) rfl rfl (by kernel_rfl) ?_
        refine ls_off (j := 4) (t := 39) (b := true) (c := false) rfl rfl (by kernel_rfl) (by kernel_rfl) rfl rfl (by kernel_rfl) ?_
        refine ls_off (j := 4) (t := 39) (b := true) (c := false) rfl rfl (by kernel_rfl) (by kernel_rfl) rfl rfl (by kernel_rfl) ?_
        refine ls_off (j := 4) (t := 39) (b := true) (c := false) rfl rfl (by kernel_rfl) (by kernel_rfl) rfl rfl (by kernel_rfl) ?_
        refine ls_off (j := 4) (t := 39) (b := true) (c := false) rfl rfl (by kernel_rfl) (by kernel_rfl) rfl rfl (by kernel_rfl) ?_
        refine ls_off (j := 4) (t := 39) (b := true) (c := false) rfl rfl (by kernel_rfl) (by kernel_rfl) rfl rfl (by kernel_rfl) ?_
        refine ls_val (v := .bool false) rfl rfl (by kernel_rfl) (fun w => by kernel_rfl) ?_
        refine ls_val (v := .int .i64 x9_1) rfl rfl (by kernel_rfl) (fun w => by kernel_rfl) ?_
        refine ls_val (v := .bool false) rfl rfl (by kernel_rfl) (fun w => by kernel_rfl) ?_
        refine ls_end ?_
        refine qn_then ?_
        refine cs_ret' ?_
        obtain rfl := Option.some.inj H
        refine qr_res (rs := [_, _]) rfl (fun w' hs => ⟨[.int .i64 x9_1, .bool false], (res_tmp (by kernel_rfl) (res_tmp (by kernel_rfl) (.nil))), (), rfl, hs.pick (ts := []) (cs := []) trivial (by decide)⟩)

/-! ### shadowbox/extent.first: function 42 -/
def extent_first.f (k : Nat) (l0 : List (Int × Int)) (a1 : Int) : Option (Int) :=
  (slices_BinarySearchFunc_52_s53.f k l0 a1).bind fun t1 => some t1.1
set_option maxRecDepth 100000 in
set_option maxHeartbeats 4000000 in
theorem extent_first.calls (k : Nat) (A0 : Option Addr) (c0 : Nat) (l0 : List (Int × Int)) (a1 : Int) (r : Int) (b : Bs) (hs0 : St b (stl []) b.w) (R0 : Ro b A0 (em T24 l0)) (C0 : l0.length ≤ c0) (H : extent_first.f k l0 a1 = some r) :
    Calls Try.prog 42 #[.slice A0 l0.length c0, .int .i64 a1] b.w fun e w' => ∃ x : Unit, e = .returned (.int .i64 r) ∧ St b (stl []) w' := by
  unfold extent_first.f at H
  refine enterb (n := 14) Try.func42 rfl (by kernel_rfl) (by kernel_rfl) hs0 ?_
  refine cs_sub (s0) (sub_nil _) ?_
  refine cs_seq ?_
  refine cs_region (l := [_]) ?_
  refine ls_val (v := .int .i64 (0 : Int)) rfl rfl (by kernel_rfl) (fun w => by kernel_rfl) ?_
  refine ls_end ?_
  refine qn_then ?_
  refine cs_seq ?_
  refine cs_region (l := [_, _, _, _, _, _, _, _]) ?_
  refine ls_val (v := .slice A0 l0.length c0) rfl rfl (by kernel_rfl) (fun w => by kernel_rfl) ?_
  refine ls_val (v := .int .i64 a1) rfl rfl (by kernel_rfl) (fun w => by kernel_rfl) ?_
  obtain ⟨t1, hc2, H⟩ := bind_some H
  refine ls_callb (fid := 52) (vals := #[.slice A0 l0.length c0, .int .i64 a1, .func (.func 53) #[] #[]]) (X := Unit) (fun x => .tuple #[.int .i64 t1.1, .bool t1.2]) (fun x => stl []) [] [] [] [] 0 rfl rfl (by kernel_rfl) (fun w => by kernel_rfl) trivial trivial (by decide) (fun w hs hb => slices_BinarySearchFunc_52_s53.calls k A0 c0 l0 a1 t1 (lent b w [] []) hb (hs.ro R0 _ _) C0 hc2) ?_
  intro x3
  refine ls_val (v := .tuple #[.int .i64 t1.1, .bool t1.2]) rfl rfl (by kernel_rfl) (fun w => by kernel_rfl) ?_
  refine ls_val (v := .int .i64 t1.1) rfl rfl (by kernel_rfl) (fun w => by kernel_rfl) ?_
  refine ls_val (v := .bool t1.2) rfl rfl (by kernel_rfl) (fun w => by kernel_rfl) ?_
  refine ls_val (v := .int .i64 t1.1) rfl rfl (by kernel_rfl) (fun w => by kernel_rfl) ?_
  refine ls_val (v := .bool t1.2) rfl rfl (by kernel_rfl) (fun w => by kernel_rfl) ?_
  refine ls_end ?_
  refine qn_then ?_
  refine cs_seq ?_
  refine cs_region (l := [_, _]) ?_
  refine ls_val (v := .int .i64 t1.1) rfl rfl (by kernel_rfl) (fun w => by kernel_rfl) ?_
  refine ls_val (v := .int .i64 t1.1) rfl rfl (by kernel_rfl) (fun w => by kernel_rfl) ?_
  refine ls_end ?_
  refine qn_then ?_
  refine cs_ret' ?_
  obtain rfl := Option.some.inj H
  refine qr_res (rs := [_]) rfl (fun w' hs => ⟨[.int .i64 t1.1], (res_tmp (by kernel_rfl) (.nil)), (), rfl, hs.pick (ts := []) (cs := []) trivial (by decide)⟩)

/-! ### slices.Clone[[]shadowbox/extent.Span,shadowbox/extent.Span]: function 43 -/
def slices_Clone_43.f (k : Nat) (l0 : List (Int × Int)) : Option ((List (Int × Int))) :=
  (if (([] : List (Int × Int)).length + l0.length) * 16 ≤ 140737488355328 then some (([] : List (Int × Int)) ++ l0) else none)
set_option maxRecDepth 100000 in
set_option maxHeartbeats 4000000 in
theorem slices_Clone_43.calls (k : Nat) (A0 : Option Addr) (c0 : Nat) (l0 : List (Int × Int)) (r : (List (Int × Int))) (b : Bs) (hs0 : St b (stl []) b.w) (R0 : Ro b A0 (em T24 l0)) (C0 : l0.length ≤ c0) (H : slices_Clone_43.f k l0 = some r) :
    Calls Try.prog 43 #[.slice A0 l0.length c0] b.w fun e w' => ∃ x : (Option Addr × Nat), e = .returned (.slice x.1 r.length x.2) ∧ St b (stl [Ck.sl T24 x.1 x.2 r]) w' := by
  unfold slices_Clone_43.f at H
  refine enterb (n := 8) Try.func43 rfl (by kernel_rfl) (by kernel_rfl) hs0 ?_
  refine cs_sub (s0) (sub_nil _) ?_
  refine cs_seq ?_
  refine cs_region (l := [_]) ?_
  refine ls_val (v := .slice none 0 0) rfl rfl (by kernel_rfl) (fun w => by kernel_rfl) ?_
  refine ls_end ?_
  refine qn_then ?_
  refine cs_seq ?_
  refine cs_seq ?_
  refine cs_region (l := [_, _]) ?_
  refine ls_val (v := .slice A0 l0.length c0) rfl rfl (by kernel_rfl) (fun w => by kernel_rfl) ?_
  refine ls_val (v := .bool (Option.isNone A0)) rfl rfl (by kernel_rfl) (fun w => by cases A0 <;> kernel_rfl) ?_
  refine ls_end ?_
  refine qn_then ?_
  by_cases q1 : A0 = none
  · have hl2 : l0 = [] := Ro.nil_of (T := T24) R0 q1
    replace H : (some ([] : List (Int × Int))) = some r := by first | (rw [hl2] at H; simpa using H) | simpa [hl2] using H
    refine cs_know (c := true) (isNone_t q1) 4 (by kernel_rfl) ?_
    refine cs_true (by kernel_rfl) ?_
    refine cs_seq ?_
    refine cs_region (l := [_]) ?_
    refine ls_val (v := .slice none 0 0) rfl rfl (by kernel_rfl) (fun w => by kernel_rfl) ?_
    refine ls_end ?_
    refine qn_then ?_
    refine cs_ret' ?_
    refine qr_then ?_
    refine qr_nilrow 0 T24 ?_
    obtain rfl := Option.some.inj H
    refine qr_res (rs := [_]) rfl (fun w' hs => ⟨[.slice none 0 0], (res_tmp (by kernel_rfl) (.nil)), (none, 0), rfl, hs.pick (ts := [0]) (cs := [Ck.sl T24 none 0 ([] : List (Int × Int))]) ⟨by exact rfl, trivial⟩ (by decide)⟩)
  · skip
    refine cs_know (c := false) (isNone_f q1) 4 (by kernel_rfl) ?_
    refine cs_false (by kernel_rfl) ?_
    refine cs_skip' ?_
    refine qn_then ?_
    refine cs_seq ?_
    refine cs_region (l := [_, _, _, _]) ?_
    refine ls_lit T24 0 rfl rfl (by kernel_rfl) ([] : List (Int × Int)) (by exact of_decide_eq_true (by kernel_rfl)) (fun w => by kernel_rfl) ?_
    intro g3
    refine ls_val (v := .slice A0 l0.length c0) rfl rfl (by kernel_rfl) (fun w => by kernel_rfl) ?_
    obtain ⟨q4, H⟩ := ite_need H
    refine ls_app T24 (A := (some ⟨g3, 0, none⟩)) (c := ([] : List (Int × Int)).length) (B := A0) (cb := c0) (z := (.agg ⟨([Value.int .i64 (0 : Int)] ++ [Value.int .i64 (0 : Int)])⟩)) (l := ([] : List (Int × Int))) (m := l0) (bytes := 16) 0 rfl rfl (by kernel_rfl) rfl (by kernel_rfl) (by exact rfl) (by kernel_rfl) (fun w hs => (hs.old R0)) (by kernel_rfl) (by kernel_rfl) rfl (by decide) q4 ?_
    intro xA5 xc6
    refine ls_val (v := .slice xA5 (([] : List (Int × Int)) ++ l0).length xc6) rfl rfl (by kernel_rfl) (fun w => by kernel_rfl) ?_
    refine ls_end ?_
    refine qn_then ?_
    refine cs_ret' ?_
    obtain rfl := Option.some.inj H
    refine qr_res (rs := [_]) rfl (fun w' hs => ⟨[.slice xA5 (([] : List (Int × Int)) ++ l0).length xc6], (res_tmp (by kernel_rfl) (.nil)), (xA5, xc6), rfl, hs.pick (ts := [0]) (cs := [Ck.sl T24 xA5 xc6 (([] : List (Int × Int)) ++ l0)]) ⟨by exact rfl, trivial⟩ (by decide)⟩)

/-! ### shadowbox/extent.replace[shadowbox/extent.Span]: function 44 -/
def extent_replace_44.f (k : Nat) (l0 : List (Int × Int)) (a1 : Int) (a2 : Int) (l3 : List (Int × Int)) : Option ((List (Int × Int))) :=
  (if 0 ≤ a1 then (if a1 ≤ (l0.length : Int) then lt (l0.take (a1).toNat) fun xl8 => (if (([] : List (Int × Int)).length + xl8.length) * 16 ≤ 140737488355328 then (if ((([] : List (Int × Int)) ++ xl8).length + l3.length) * 16 ≤ 140737488355328 then (if 0 ≤ a2 then (if a2 ≤ (l0.length : Int) then lt (l0.drop (a2).toNat) fun xl25 => (if (((([] : List (Int × Int)) ++ xl8) ++ l3).length + xl25.length) * 16 ≤ 140737488355328 then some (((([] : List (Int × Int)) ++ xl8) ++ l3) ++ xl25) else none) else none) else none) else none) else none) else none) else none)
set_option maxRecDepth 100000 in
set_option maxHeartbeats 4000000 in
theorem extent_replace_44.calls (k : Nat) (A0 : Option Addr) (c0 : Nat) (l0 : List (Int × Int)) (a1 : Int) (a2 : Int) (A3 : Option Addr) (c3 : Nat) (l3 : List (Int × Int)) (r : (List (Int × Int))) (b : Bs) (hs0 : St b (stl []) b.w) (R0 : Ro b A0 (em T24 l0)) (C0 : l0.length ≤ c0) (R3 : Ro b A3 (em T24 l3)) (C3 : l3.length ≤ c3) (H : extent_replace_44.f k l0 a1 a2 l3 = some r) :
    Calls Try.prog 44 #[.slice A0 l0.length c0, .int .i64 a1, .int .i64 a2, .slice A3 l3.length c3] b.w fun e w' => ∃ x : (Option Addr × Nat), e = .returned (.slice x.1 r.length x.2) ∧ St b (stl [Ck.sl T24 x.1 x.2 r]) w' := by
  unfold extent_replace_44.f at H
  refine enterb (n := 22) Try.func44 rfl (by kernel_rfl) (by kernel_rfl) hs0 ?_
  refine cs_sub (s0) (sub_nil _) ?_
  refine cs_seq ?_
  refine cs_region (l := [_]) ?_
  refine ls_val (v := .slice none 0 0) rfl rfl (by kernel_rfl) (fun w => by kernel_rfl) ?_
  refine ls_end ?_
  refine qn_then ?_
  refine cs_seq ?_
  refine cs_region (l := [_, _, _, _, _, _]) ?_
  refine ls_lit T24 0 rfl rfl (by kernel_rfl) ([] : List (Int × Int)) (by exact of_decide_eq_true (by kernel_rfl)) (fun w => by kernel_rfl) ?_
  intro g1
  refine ls_val (v := .slice A0 l0.length c0) rfl rfl (by kernel_rfl) (fun w => by kernel_rfl) ?_
  refine ls_val (v := .int .i64 a1) rfl rfl (by kernel_rfl) (fun w => by kernel_rfl) ?_
  obtain ⟨q2, H⟩ := ite_need H
  obtain ⟨q3, H⟩ := ite_need H
  obtain ⟨xl8, hy9, H⟩ := lt_some H
  have hz11 : 0 ≤ (a1).toNat := by omega
  have hz12 : (a1).toNat ≤ l0.length := by omega
  obtain ⟨xA4, xc5, he10, xC7, xR6⟩ := cut_at (A := A0) (c := c0) (l := l0) T24 0 ((a1).toNat) hz11 hz12 C0 R0 (m := xl8) (by rw [← hy9] <;> simp) (z := 2) rfl
  refine ls_cutv (A := A0) (c := c0) (m := l0.length) (z := 2) (e := 24) (a := 0) (b := (a1).toNat) rfl rfl (by kernel_rfl) rfl (by kernel_rfl) (by kernel_rfl) (by kernel_rfl) (.inl ⟨rfl, rfl⟩) (.inr ⟨.i64, by rw [Int.toNat_of_nonneg (by first | assumption | omega)]; kernel_rfl⟩) hz11 hz12 C0 he10 ?_
  obtain ⟨q13, H⟩ := ite_need H
  refine ls_app T24 (A := (some ⟨g1, 0, none⟩)) (c := ([] : List (Int × Int)).length) (B := xA4) (cb := xc5) (z := (.agg ⟨([Value.int .i64 (0 : Int)] ++ [Value.int .i64 (0 : Int)])⟩)) (l := ([] : List (Int × Int))) (m := xl8) (bytes := 16) 0 rfl rfl (by kernel_rfl) rfl (by kernel_rfl) (by exact rfl) (by kernel_rfl) (fun w hs => (hs.old xR6)) (by kernel_rfl) (by kernel_rfl) rfl (by decide) q13 ?_
  intro xA14 xc15
  refine ls_val (v := .slice xA14 (([] : List (Int × Int)) ++ xl8).length xc15) rfl rfl (by kernel_rfl) (fun w => by kernel_rfl) ?_
  refine ls_end ?_
  refine qn_then ?_
  refine cs_seq ?_
  obtain ⟨q16, H⟩ := ite_need H
  obtain ⟨q19, H⟩ := ite_need H
  obtain ⟨q20, H⟩ := ite_need H
  obtain ⟨xl25, hy26, H⟩ := lt_some H
  have hz28 : (a2).toNat ≤ l0.length := by omega
  have hz29 : l0.length ≤ l0.length := by omega
  obtain ⟨xA21, xc22, he27, xC24, xR23⟩ := cut_at (A := A0) (c := c0) (l := l0) T24 ((a2).toNat) l0.length hz28 hz29 C0 R0 (m := xl25) (by rw [← hy26] <;> simp) (z := 2) rfl
  refine cs_sub (sput s0 0 (some (Ck.sl T24 xA14 xc15 (([] : List (Int × Int)) ++ xl8)))) (sub_put (by exact rfl) (sub_nil _)) ?_
  refine cs_chain (l := [_, _, _, _, _, _, _, _]) [[], [], [0, 1], [], [], [3, 4], [0, 1, 2, 3, 4, 5], [0, 1, 2, 3, 4, 5, 6]] 6 (fun u => [].contains u) (efl [false, false, true, false, false, false]) (pvl [.val (.slice xA14 (([] : List (Int × Int)) ++ xl8).length xc15), .val (.slice A3 l3.length c3), .eff 2, .val (.slice A0 l0.length c0), .val (.int .i64 a2), .val (.slice xA21 xl25.length xc22)]) (Esl [fun (es : Nat → Value) (S' : Sto) => S' = sput s0 0 (some (Ck.sl T24 xA14 xc15 (([] : List (Int × Int)) ++ xl8))), fun (es : Nat → Value) (S' : Sto) => ∃ (xA17 : Option Addr) (xc18 : Nat), es 2 = .slice xA17 ((([] : List (Int × Int)) ++ xl8) ++ l3).length xc18 ∧ S' = sput s0 0 (some (Ck.sl T24 xA17 xc18 ((([] : List (Int × Int)) ++ xl8) ++ l3)))] [0, 0, 0, 0, 0, 0, 1]) (nxl [0, 0, 6, 0, 0, 0]) (onl [true, true, true, true, true, true]) 2 (by kernel_rfl) (by kernel_rfl) (by kernel_rfl) (by kernel_rfl) (by kernel_rfl) (rs := [_, _]) rfl (by kernel_rfl) (by kernel_rfl) (fun es => ?_) ?_ ?_
  · exact (rfl : sput s0 0 (some (Ck.sl T24 xA14 xc15 (([] : List (Int × Int)) ++ xl8))) = sput s0 0 (some (Ck.sl T24 xA14 xc15 (([] : List (Int × Int)) ++ xl8))))
  · refine all_snoc (all_snoc (all_snoc (all_snoc (all_snoc (all_snoc (all_nil) ?_) ?_) ?_) ?_) ?_) ?_
    · refine ⟨fun o ho es vs f' S' hve hvp hf hx hK hE => ?_⟩
      obtain rfl := Option.some.inj ho
      refine ⟨want_none rfl, fun _ _ => ?_, (fun _ h => by cases h), (fun h _ => by cases h), (fun h _ => by cases h)⟩
      have hF := fr_next (rfl) ((hx 9 (by kernel_rfl)).trans (by kernel_rfl : (_ : Value) = .slice xA14 (([] : List (Int × Int)) ++ xl8).length xc15))
      refine ls_fr hF ?_
      refine ls_val (v := .slice xA14 (([] : List (Int × Int)) ++ xl8).length xc15) rfl rfl (by kernel_rfl) (fun w => by kernel_rfl) ?_
      exact ls_finp (.slice xA14 (([] : List (Int × Int)) ++ xl8).length xc15) (congrArg (fun z => upd z 15 _) hF.symm) rfl
    · refine ⟨fun o ho es vs f' S' hve hvp hf hx hK hE => ?_⟩
      obtain rfl := Option.some.inj ho
      refine ⟨want_none rfl, fun _ _ => ?_, (fun _ h => by cases h), (fun h _ => by cases h), (fun h _ => by cases h)⟩
      have hF := fr_next (rfl) ((hx 3 (by kernel_rfl)).trans (by kernel_rfl : (_ : Value) = .slice A3 l3.length c3))
      refine ls_fr hF ?_
      refine ls_val (v := .slice A3 l3.length c3) rfl rfl (by kernel_rfl) (fun w => by kernel_rfl) ?_
      exact ls_finp (.slice A3 l3.length c3) (congrArg (fun z => upd z 16 _) hF.symm) rfl
    · refine ⟨fun o ho es vs f' S' hve hvp hf hx hK hE => ?_⟩
      obtain rfl := Option.some.inj ho
      obtain rfl := hE rfl
      refine ⟨want_none rfl, (fun h _ => by cases h), (fun h _ => by cases h), fun _ _ => ?_, (fun _ h => by cases h)⟩
      have hF := fr_next (fr_next (rfl) ((hf 0 15 (by kernel_rfl) rfl).trans (show vs 0 = .slice xA14 (([] : List (Int × Int)) ++ xl8).length xc15 from hvp 0 (by kernel_rfl)))) ((hf 1 16 (by kernel_rfl) rfl).trans (show vs 1 = .slice A3 l3.length c3 from hvp 1 (by kernel_rfl)))
      refine ls_fr hF ?_
      refine ls_app T24 (A := xA14) (c := xc15) (B := A3) (cb := c3) (z := (.agg ⟨([Value.int .i64 (0 : Int)] ++ [Value.int .i64 (0 : Int)])⟩)) (l := (([] : List (Int × Int)) ++ xl8)) (m := l3) (bytes := 16) 0 rfl rfl (by kernel_rfl) rfl (by kernel_rfl) (by exact rfl) (by kernel_rfl) (fun w hs => (hs.old R3)) (by kernel_rfl) (by kernel_rfl) rfl (by decide) q16 ?_
      intro xA17 xc18
      exact ls_fine (sput s0 0 (some (Ck.sl T24 xA17 xc18 ((([] : List (Int × Int)) ++ xl8) ++ l3)))) (.slice xA17 ((([] : List (Int × Int)) ++ xl8) ++ l3).length xc18) (congrArg (fun z => upd z 17 _) hF.symm) (show (fun (es : Nat → Value) (S' : Sto) => ∃ (xA17 : Option Addr) (xc18 : Nat), es 2 = .slice xA17 ((([] : List (Int × Int)) ++ xl8) ++ l3).length xc18 ∧ S' = sput s0 0 (some (Ck.sl T24 xA17 xc18 ((([] : List (Int × Int)) ++ xl8) ++ l3)))) (upv es 2 (.slice xA17 ((([] : List (Int × Int)) ++ xl8) ++ l3).length xc18)) (sput s0 0 (some (Ck.sl T24 xA17 xc18 ((([] : List (Int × Int)) ++ xl8) ++ l3)))) from ⟨xA17, xc18, rfl, rfl⟩) rfl (keep_nil) (sub_put (by exact rfl) (sub_nil _))
    · refine ⟨fun o ho es vs f' S' hve hvp hf hx hK hE => ?_⟩
      obtain rfl := Option.some.inj ho
      refine ⟨want_none rfl, fun _ _ => ?_, (fun _ h => by cases h), (fun h _ => by cases h), (fun h _ => by cases h)⟩
      have hF := fr_next (rfl) ((hx 0 (by kernel_rfl)).trans (by kernel_rfl : (_ : Value) = .slice A0 l0.length c0))
      refine ls_fr hF ?_
      refine ls_val (v := .slice A0 l0.length c0) rfl rfl (by kernel_rfl) (fun w => by kernel_rfl) ?_
      exact ls_finp (.slice A0 l0.length c0) (congrArg (fun z => upd z 18 _) hF.symm) rfl
    · refine ⟨fun o ho es vs f' S' hve hvp hf hx hK hE => ?_⟩
      obtain rfl := Option.some.inj ho
      refine ⟨want_none rfl, fun _ _ => ?_, (fun _ h => by cases h), (fun h _ => by cases h), (fun h _ => by cases h)⟩
      have hF := fr_next (rfl) ((hx 2 (by kernel_rfl)).trans (by kernel_rfl : (_ : Value) = .int .i64 a2))
      refine ls_fr hF ?_
      refine ls_val (v := .int .i64 a2) rfl rfl (by kernel_rfl) (fun w => by kernel_rfl) ?_
      exact ls_finp (.int .i64 a2) (congrArg (fun z => upd z 19 _) hF.symm) rfl
    · refine ⟨fun o ho es vs f' S' hve hvp hf hx hK hE => ?_⟩
      obtain rfl := Option.some.inj ho
      refine ⟨want_none rfl, fun _ _ => ?_, (fun _ h => by cases h), (fun h _ => by cases h), (fun h _ => by cases h)⟩
      have hF := fr_next (fr_next (rfl) ((hf 3 18 (by kernel_rfl) rfl).trans (show vs 3 = .slice A0 l0.length c0 from hvp 3 (by kernel_rfl)))) ((hf 4 19 (by kernel_rfl) rfl).trans (show vs 4 = .int .i64 a2 from hvp 4 (by kernel_rfl)))
      refine ls_fr hF ?_
      refine ls_cutv (A := A0) (c := c0) (m := l0.length) (z := 2) (e := 24) (a := (a2).toNat) (b := l0.length) rfl rfl (by kernel_rfl) rfl (by kernel_rfl) (by kernel_rfl) (by kernel_rfl) (.inr ⟨.i64, by rw [Int.toNat_of_nonneg (by first | assumption | omega)]; kernel_rfl⟩) (.inl ⟨rfl, rfl⟩) hz28 hz29 C0 he27 ?_
      exact ls_finp (.slice xA21 xl25.length xc22) (congrArg (fun z => upd z 20 _) hF.symm) rfl
  · intro es vs f' S' hve hvp hf hx hK hE
    obtain ⟨xA17, xc18, hv2, rfl⟩ := hE
    refine ls_fr (F := upd (upd f' 17 (.slice xA17 ((([] : List (Int × Int)) ++ xl8) ++ l3).length xc18)) 20 (.slice xA21 xl25.length xc22)) (fr_next (fr_next (rfl) (((hf 2 17 (by kernel_rfl) rfl).trans (show vs 2 = es 2 from hvp 2 (by kernel_rfl))).trans hv2)) ((hf 5 20 (by kernel_rfl) rfl).trans (show vs 5 = .slice xA21 xl25.length xc22 from hvp 5 (by kernel_rfl)))) ?_
    refine ls_sub (sput s0 0 (some (Ck.sl T24 xA17 xc18 ((([] : List (Int × Int)) ++ xl8) ++ l3)))) (sub_put (by exact rfl) (sub_nil _)) ?_
    obtain ⟨q30, H⟩ := ite_need H
    refine ls_app T24 (A := xA17) (c := xc18) (B := xA21) (cb := xc22) (z := (.agg ⟨([Value.int .i64 (0 : Int)] ++ [Value.int .i64 (0 : Int)])⟩)) (l := ((([] : List (Int × Int)) ++ xl8) ++ l3)) (m := xl25) (bytes := 16) 0 rfl rfl (by kernel_rfl) rfl (by kernel_rfl) (by exact rfl) (by kernel_rfl) (fun w hs => (hs.old xR23)) (by kernel_rfl) (by kernel_rfl) rfl (by decide) q30 ?_
    intro xA31 xc32
    refine ls_val (v := .slice xA31 (((([] : List (Int × Int)) ++ xl8) ++ l3) ++ xl25).length xc32) rfl rfl (by kernel_rfl) (fun w => by kernel_rfl) ?_
    refine ls_end ?_
    refine qn_then ?_
    refine cs_ret' ?_
    obtain rfl := Option.some.inj H
    refine qr_res (rs := [_]) rfl (fun w' hs => ⟨[.slice xA31 (((([] : List (Int × Int)) ++ xl8) ++ l3) ++ xl25).length xc32], (res_tmp (by kernel_rfl) (.nil)), (xA31, xc32), rfl, hs.pick (ts := [0]) (cs := [Ck.sl T24 xA31 xc32 (((([] : List (Int × Int)) ++ xl8) ++ l3) ++ xl25)]) ⟨by exact rfl, trivial⟩ (by decide)⟩)

/-! ### shadowbox/extent.Add: function 13 -/
def extent_Add.tab4 : List (List Nat) := [[], [], [1], [0, 1, 2], [0, 1, 2, 3], [0, 1, 2, 3, 4], [0, 1, 2, 3, 4], [0, 1, 2, 3, 4, 5, 6], [0, 1, 2, 3, 4, 5, 6, 7], [0, 1, 2, 3, 4, 5, 6, 7, 8], [0, 1, 2, 3, 4], [0, 1, 2, 3, 4, 10], [0, 1, 2, 3, 4, 5, 6, 7, 8, 9, 10, 11], [0, 1, 2, 3, 4, 5, 6, 7, 8, 9, 10, 11, 12]]
def extent_Add.tab13 : List (List Nat) := [[], [0], [], [], [2, 3], [2, 3, 4], [2, 3, 4, 5], [0, 1, 2, 3, 4, 5, 6], [], [8], [], [], [10, 11], [10, 11, 12], [10, 11, 12, 13], [8, 9, 10, 11, 12, 13, 14], [0, 1, 2, 3, 4, 5, 6, 7, 8, 9, 10, 11, 12, 13, 14, 15], [0, 1, 2, 3, 4, 5, 6, 7, 8, 9, 10, 11, 12, 13, 14, 15, 16]]
def extent_Add.lo2 (l0 : List (Int × Int)) (t2 : Int) : Nat → Int → ((Int × Int)) → Option ((List (Int × Int)))
  | 0, _, _ => none
  | k2 + 1, x6_2, m0_2 => (if x6_2 < (l0.length : Int) then (if 0 ≤ x6_2 then lt (((l0).getD (x6_2).toNat ((0 : Int), (0 : Int))).1) fun y11 => (if y11 ≤ m0_2.2 then lt (((l0).getD (x6_2).toNat ((0 : Int), (0 : Int))).1) fun y18 => lt (((l0).getD (x6_2).toNat ((0 : Int), (0 : Int))).2) fun y22 => (extent_Add.lo2 l0 t2 k2) (IntKind.wrap .i64 (x6_2 + (1 : Int))) ((if y18 < m0_2.1 then y18 else m0_2.1), (if m0_2.2 < y22 then y22 else m0_2.2)) else (extent_replace_44.f k2 l0 t2 x6_2 ([m0_2])).bind fun t25 => some t25) else none) else (extent_replace_44.f k2 l0 t2 x6_2 ([m0_2])).bind fun t29 => some t29)
def extent_Add.jo1 (k : Nat) (l0 : List (Int × Int)) (a1 : (Int × Int)) : Option ((List (Int × Int))) := (extent_first.f k l0 a1.1).bind fun t2 => extent_Add.lo2 l0 t2 k t2 a1
def extent_Add.f (k : Nat) (l0 : List (Int × Int)) (a1 : (Int × Int)) : Option ((List (Int × Int))) :=
  (extent_Valid.f k l0).bind fun t32 => (if t32 = true then (extent_Span_right.f k a1).bind fun t36 => (if t36 = true then (extent_Add.jo1 k l0 a1) else (slices_Clone_43.f k l0).bind fun t40 => some t40) else (slices_Clone_43.f k l0).bind fun t43 => some t43)
set_option maxRecDepth 100000 in
set_option maxHeartbeats 4000000 in
theorem extent_Add.calls (k : Nat) (A0 : Option Addr) (c0 : Nat) (l0 : List (Int × Int)) (a1 : (Int × Int)) (r : (List (Int × Int))) (b : Bs) (hs0 : St b (stl []) b.w) (R0 : Ro b A0 (em T24 l0)) (C0 : l0.length ≤ c0) (H : extent_Add.f k l0 a1 = some r) :
    Calls Try.prog 13 #[.slice A0 l0.length c0, .agg ⟨([Value.int .i64 a1.1] ++ [Value.int .i64 a1.2])⟩] b.w fun e w' => ∃ x : (Option Addr × Nat), e = .returned (.slice x.1 r.length x.2) ∧ St b (stl [Ck.sl T24 x.1 x.2 r]) w' := by
  unfold extent_Add.f at H
  refine enterb (n := 61) Try.func13 rfl (by kernel_rfl) (by kernel_rfl) hs0 ?_
  refine cs_sub (s0) (sub_nil _) ?_
  refine cs_seq ?_
  refine cs_region (l := [_, _]) ?_
  refine ls_new rfl rfl (by kernel_rfl) 0 (fun g => .pointer (some ⟨g, 0, none⟩)) (.cells ⟨([Value.int .i64 a1.1] ++ [Value.int .i64 a1.2])⟩ 24) (fun w => by kernel_rfl) ?_
  intro g1
  refine ls_val (v := .slice none 0 0) rfl rfl (by kernel_rfl) (fun w => by kernel_rfl) ?_
  refine ls_end ?_
  refine qn_then ?_
  refine cs_cut (fun f S => ∃ (fR : Fr), f = upd (upd fR 0 (.slice A0 l0.length c0)) 3 (.pointer (some ⟨g1, 0, none⟩)) ∧ S = sput s0 0 (some (Ck.var 24 g1 (([Value.int .i64 a1.1] ++ [Value.int .i64 a1.2])))) ∧ extent_Add.jo1 k l0 a1 = some r) ?_ ?_
  · skip
    refine cs_seq ?_
    refine cs_region (l := [_, _, _, _, _, _, _, _]) ?_
    refine ls_val (v := .slice A0 l0.length c0) rfl rfl (by kernel_rfl) (fun w => by kernel_rfl) ?_
    obtain ⟨t32, hc33, H⟩ := bind_some H
    refine ls_callb (fid := 10) (vals := #[.slice A0 l0.length c0]) (X := Unit) (fun x => .bool t32) (fun x => stl []) [] [] [] [] 1 rfl rfl (by kernel_rfl) (fun w => by kernel_rfl) trivial trivial (by decide) (fun w hs hb => extent_Valid.calls k A0 c0 l0 t32 (lent b w [] []) hb (hs.ro R0 _ _) C0 hc33) ?_
    intro x34
    refine ls_val (v := .bool (!t32)) rfl rfl (by kernel_rfl) (fun w => by kernel_rfl) ?_
    refine ls_val (v := .bool (!t32)) rfl rfl (by kernel_rfl) (fun w => by kernel_rfl) ?_
    by_cases q35 : t32 = true
    · replace H := ite_t q35 H
      refine ls_know (c := false) (congrArg Bool.not (q35)) 10 (by kernel_rfl) ?_
      refine ls_on (j := 3) (t := 10) (b := false) rfl rfl (by kernel_rfl) (by kernel_rfl) ?_
      refine ls_loadagg (a := ⟨g1, 0, none⟩) (sub := ([Value.int .i64 a1.1] ++ [Value.int .i64 a1.2])) rfl rfl (by kernel_rfl) rfl (by kernel_rfl) (by kernel_rfl) (by kernel_rfl) (len_app (len1 _) (len1 _)) (fun w hs => (hs.vars (k := 0) (by exact rfl) (Sub4.all _))) ?_
      refine ls_on (j := 3) (t := 10) (b := false) rfl rfl (by kernel_rfl) (by kernel_rfl) ?_
      obtain ⟨t36, hc37, H⟩ := bind_some H
      refine ls_callb (fid := 41) (vals := #[.agg ⟨([Value.int .i64 a1.1] ++ [Value.int .i64 a1.2])⟩]) (X := Unit) (fun x => .bool t36) (fun x => stl []) [] [] [] [] 1 rfl rfl (by kernel_rfl) (fun w => by kernel_rfl) trivial trivial (by decide) (fun w hs hb => extent_Span_right.calls k a1 t36 (lent b w [] []) hb  hc37) ?_
      intro x38
      refine ls_on (j := 3) (t := 10) (b := false) rfl rfl (by kernel_rfl) (by kernel_rfl) ?_
      refine ls_val (v := .bool (!t36)) rfl rfl (by kernel_rfl) (fun w => by kernel_rfl) ?_
      refine ls_val (v := .bool (!t36)) rfl rfl (by kernel_rfl) (fun w => by kernel_rfl) ?_
      refine ls_end ?_
      refine qn_then ?_
      by_cases q39 : t36 = true
      · replace H := ite_t q39 H
        refine cs_know (c := false) (congrArg Bool.not (q39)) 14 (by kernel_rfl) ?_
        refine cs_false (by kernel_rfl) ?_
        refine cs_skip' ?_
        refine qn_meet (sput s0 0 (some (Ck.var 24 g1 (([Value.int .i64 a1.1] ++ [Value.int .i64 a1.2]))))) ⟨_, fr_next (fr_next (rfl) (by kernel_rfl)) (by kernel_rfl), rfl, H⟩ (sub_put (by exact rfl) (sub_nil _))
      · replace H := ite_f q39 H
        refine cs_know (c := true) (congrArg Bool.not (Bool.eq_false_iff.mpr q39)) 14 (by kernel_rfl) ?_
        refine cs_true (by kernel_rfl) ?_
        refine cs_seq ?_
        refine cs_region (l := [_, _, _]) ?_
        refine ls_val (v := .slice A0 l0.length c0) rfl rfl (by kernel_rfl) (fun w => by kernel_rfl) ?_
        obtain ⟨t40, hc41, H⟩ := bind_some H
        refine ls_callb (fid := 43) (vals := #[.slice A0 l0.length c0]) (X := (Option Addr × Nat)) (fun x => .slice x.1 t40.length x.2) (fun x => stl [Ck.sl T24 x.1 x.2 t40]) [] [] [] [] 1 rfl rfl (by kernel_rfl) (fun w => by kernel_rfl) trivial trivial (by decide) (fun w hs hb => slices_Clone_43.calls k A0 c0 l0 t40 (lent b w [] []) hb (hs.ro R0 _ _) C0 hc41) ?_
        intro x42
        refine ls_val (v := .slice x42.1 t40.length x42.2) rfl rfl (by kernel_rfl) (fun w => by kernel_rfl) ?_
        refine ls_end ?_
        refine qn_then ?_
        refine cs_ret' ?_
        refine qr_then ?_
        obtain rfl := Option.some.inj H
        refine qr_res (rs := [_]) rfl (fun w' hs => ⟨[.slice x42.1 t40.length x42.2], (res_tmp (by kernel_rfl) (.nil)), (x42.1, x42.2), rfl, hs.pick (ts := [1]) (cs := [Ck.sl T24 x42.1 x42.2 t40]) ⟨by exact rfl, trivial⟩ (by decide)⟩)
    · replace H := ite_f q35 H
      refine ls_know (c := true) (congrArg Bool.not (Bool.eq_false_iff.mpr q35)) 10 (by kernel_rfl) ?_
      refine ls_off (j := 3) (t := 10) (b := false) (c := true) rfl rfl (by kernel_rfl) (by kernel_rfl) rfl rfl (by kernel_rfl) ?_
      refine ls_off (j := 3) (t := 10) (b := false) (c := true) rfl rfl (by kernel_rfl) (by kernel_rfl) rfl rfl (by kernel_rfl) ?_
      refine ls_off (j := 3) (t := 10) (b := false) (c := true) rfl rfl (by kernel_rfl) (by kernel_rfl) rfl rfl (by kernel_rfl) ?_
      refine ls_val (v := .bool true) rfl rfl (by kernel_rfl) (fun w => by kernel_rfl) ?_
      refine ls_end ?_
      refine qn_then ?_
      refine cs_true (by kernel_rfl) ?_
      refine cs_seq ?_
      refine cs_region (l := [_, _, _]) ?_
      refine ls_val (v := .slice A0 l0.length c0) rfl rfl (by kernel_rfl) (fun w => by kernel_rfl) ?_
      obtain ⟨t43, hc44, H⟩ := bind_some H
      refine ls_callb (fid := 43) (vals := #[.slice A0 l0.length c0]) (X := (Option Addr × Nat)) (fun x => .slice x.1 t43.length x.2) (fun x => stl [Ck.sl T24 x.1 x.2 t43]) [] [] [] [] 1 rfl rfl (by kernel_rfl) (fun w => by kernel_rfl) trivial trivial (by decide) (fun w hs hb => slices_Clone_43.calls k A0 c0 l0 t43 (lent b w [] []) hb (hs.ro R0 _ _) C0 hc44) ?_
      intro x45
      refine ls_val (v := .slice x45.1 t43.length x45.2) rfl rfl (by kernel_rfl) (fun w => by kernel_rfl) ?_
      refine ls_end ?_
      refine qn_then ?_
      refine cs_ret' ?_
      refine qr_then ?_
      obtain rfl := Option.some.inj H
      refine qr_res (rs := [_]) rfl (fun w' hs => ⟨[.slice x45.1 t43.length x45.2], (res_tmp (by kernel_rfl) (.nil)), (x45.1, x45.2), rfl, hs.pick (ts := [1]) (cs := [Ck.sl T24 x45.1 x45.2 t43]) ⟨by exact rfl, trivial⟩ (by decide)⟩)
  · rintro f S ⟨fr1, rfl, rfl, H⟩
    replace H : ((extent_first.f k l0 a1.1).bind fun t2 => extent_Add.lo2 l0 t2 k t2 a1) = some r := H
    refine cs_seq ?_
    refine cs_region (l := [_, _, _, _, _]) ?_
    refine ls_val (v := .slice A0 l0.length c0) rfl rfl (by kernel_rfl) (fun w => by kernel_rfl) ?_
    refine ls_val (v := .pointer (some ⟨g1, (0 + 0), none⟩)) rfl rfl (by kernel_rfl) (fun w => by kernel_rfl) ?_
    refine ls_load (a0 := ⟨g1, (0 + 0), none⟩) (v := .int .i64 a1.1) (de := (TypeDesc.int .i64)) rfl rfl (by kernel_rfl) rfl (by kernel_rfl) (by kernel_rfl) (by kernel_rfl) (fun w hs => (hs.var (k := 0) (by exact rfl) (Sub4.trans (Sub4.all _) (Sub4.head _ _)))) ?_
    obtain ⟨t2, hc3, H⟩ := bind_some H
    refine ls_callb (fid := 42) (vals := #[.slice A0 l0.length c0, .int .i64 a1.1]) (X := Unit) (fun x => .int .i64 t2) (fun x => stl []) [] [] [] [] 1 rfl rfl (by kernel_rfl) (fun w => by kernel_rfl) trivial trivial (by decide) (fun w hs hb => extent_first.calls k A0 c0 l0 a1.1 t2 (lent b w [] []) hb (hs.ro R0 _ _) C0 hc3) ?_
    intro x4
    refine ls_val (v := .int .i64 t2) rfl rfl (by kernel_rfl) (fun w => by kernel_rfl) ?_
    refine ls_end ?_
    refine qn_then ?_
    refine cs_seq ?_
    refine cs_region (l := [_, _]) ?_
    refine ls_val (v := .int .i64 t2) rfl rfl (by kernel_rfl) (fun w => by kernel_rfl) ?_
    refine ls_val (v := .int .i64 t2) rfl rfl (by kernel_rfl) (fun w => by kernel_rfl) ?_
    refine ls_end ?_
    refine qn_then ?_
    refine cs_seq ?_
    refine cs_block ?_
    refine cs_sub (sput s0 0 (some (Ck.var 24 g1 (([Value.int .i64 a1.1] ++ [Value.int .i64 a1.2]))))) (sub_put (by exact rfl) (sub_nil _)) ?_
    refine cs_loop (fun kk f S => ∃ (fR : Fr) (x6_2 : Int) (m0_2 : (Int × Int)), f = upd (upd (upd (upd fR 0 (.slice A0 l0.length c0)) 3 (.pointer (some ⟨g1, 0, none⟩))) 5 (.int .i64 t2)) 6 (.int .i64 x6_2) ∧ S = sput s0 0 (some (Ck.var 24 g1 (([Value.int .i64 m0_2.1] ++ [Value.int .i64 m0_2.2])))) ∧ extent_Add.lo2 l0 t2 kk x6_2 m0_2 = some r) k ?_ ?_ ?_
    · exact ⟨_, t2, a1, fr_next (fr_next (fr_next (fr_next (rfl) (by kernel_rfl)) (by kernel_rfl)) (by kernel_rfl)) (by kernel_rfl), rfl, H⟩
    · rintro f S ⟨fr2, x6_2, m0_2, rfl, rfl, H⟩; cases H
    · rintro k2 f S ⟨fr2, x6_2, m0_2, rfl, rfl, H⟩
      replace H : ((if x6_2 < (l0.length : Int) then (if 0 ≤ x6_2 then lt (((l0).getD (x6_2).toNat ((0 : Int), (0 : Int))).1) fun y11 => (if y11 ≤ m0_2.2 then lt (((l0).getD (x6_2).toNat ((0 : Int), (0 : Int))).1) fun y18 => lt (((l0).getD (x6_2).toNat ((0 : Int), (0 : Int))).2) fun y22 => (extent_Add.lo2 l0 t2 k2) (IntKind.wrap .i64 (x6_2 + (1 : Int))) ((if y18 < m0_2.1 then y18 else m0_2.1), (if m0_2.2 < y22 then y22 else m0_2.2)) else (extent_replace_44.f k2 l0 t2 x6_2 ([m0_2])).bind fun t25 => some t25) else none) else (extent_replace_44.f k2 l0 t2 x6_2 ([m0_2])).bind fun t29 => some t29)) = some r := H
      refine cs_seq ?_
      refine cs_seq ?_
      obtain ⟨s6_0, hs6_0⟩ : ∃ z : Value → Sto → Prop, z = (fun v R => v = .int .i64 x6_2 ∧ R = s0) := ⟨_, rfl⟩
      refine have_op (l := [_, _, _, _, _, _, _, _, _, _, _, _, _, _]) extent_Add.tab4 1 0 (fun sp => sp 0 = s6_0) (fun sp on hA hon => ?_) (fun ops6_0 => ?_)
      · refine ⟨fun o ho vs Rs f' S' w hp hf hx hS hR hs => ?_⟩
        obtain rfl := Option.some.inj ho
        rw [hA, hs6_0]
        refine And.intro (fun a ha => (want_none rfl a ha).trans hon.symm) (And.intro (fun _ => ?_) (fun h => by rw [hon] at h; cases h))
        have hF := fr_next (rfl) ((hx 6 (by kernel_rfl)).trans (by kernel_rfl : (_ : Value) = .int .i64 x6_2))
        refine ls_fr hF ?_
        refine ls_val (v := .int .i64 x6_2) rfl rfl (by kernel_rfl) (fun w => by kernel_rfl) ?_
        exact ls_fin s0 (.int .i64 x6_2) (congrArg (fun z => upd z 22 _) hF.symm) ⟨rfl, rfl⟩ (sub_nil _)
      obtain ⟨s6_1, hs6_1⟩ : ∃ z : Value → Sto → Prop, z = (fun v R => v = .slice A0 l0.length c0 ∧ R = s0) := ⟨_, rfl⟩
      refine have_op (l := [_, _, _, _, _, _, _, _, _, _, _, _, _, _]) extent_Add.tab4 1 1 (fun sp => sp 1 = s6_1) (fun sp on hA hon => ?_) (fun ops6_1 => ?_)
      · refine ⟨fun o ho vs Rs f' S' w hp hf hx hS hR hs => ?_⟩
        obtain rfl := Option.some.inj ho
        rw [hA, hs6_1]
        refine And.intro (fun a ha => (want_none rfl a ha).trans hon.symm) (And.intro (fun _ => ?_) (fun h => by rw [hon] at h; cases h))
        have hF := fr_next (rfl) ((hx 0 (by kernel_rfl)).trans (by kernel_rfl : (_ : Value) = .slice A0 l0.length c0))
        refine ls_fr hF ?_
        refine ls_val (v := .slice A0 l0.length c0) rfl rfl (by kernel_rfl) (fun w => by kernel_rfl) ?_
        exact ls_fin s0 (.slice A0 l0.length c0) (congrArg (fun z => upd z 23 _) hF.symm) ⟨rfl, rfl⟩ (sub_nil _)
      obtain ⟨s6_2, hs6_2⟩ : ∃ z : Value → Sto → Prop, z = (fun v R => v = .int .i64 (l0.length : Int) ∧ R = s0) := ⟨_, rfl⟩
      refine have_op (l := [_, _, _, _, _, _, _, _, _, _, _, _, _, _]) extent_Add.tab4 1 2 (fun sp => sp 2 = s6_2 ∧ sp 1 = s6_1) (fun sp on hA hon => ?_) (fun ops6_2 => ?_)
      · refine ⟨fun o ho vs Rs f' S' w hp hf hx hS hR hs => ?_⟩
        obtain rfl := Option.some.inj ho
        obtain ⟨hv1, hR1⟩ := (spe hA.2 hs6_1 (hp 1 (by kernel_rfl)))
        rw [hA.1, hs6_2]
        refine And.intro (fun a ha => (want_none rfl a ha).trans hon.symm) (And.intro (fun _ => ?_) (fun h => by rw [hon] at h; cases h))
        have hF := fr_next (rfl) ((hf 1 23 (by kernel_rfl) rfl).trans hv1)
        refine ls_fr hF ?_
        refine ls_val (v := .int .i64 (l0.length : Int)) rfl rfl (by kernel_rfl) (fun w => by kernel_rfl) ?_
        exact ls_fin s0 (.int .i64 (l0.length : Int)) (congrArg (fun z => upd z 24 _) hF.symm) ⟨rfl, rfl⟩ (sub_nil _)
      obtain ⟨s6_3, hs6_3⟩ : ∃ z : Value → Sto → Prop, z = (fun v R => v = .bool (decide (x6_2 < (l0.length : Int))) ∧ R = s0) := ⟨_, rfl⟩
      refine have_op (l := [_, _, _, _, _, _, _, _, _, _, _, _, _, _]) extent_Add.tab4 1 3 (fun sp => sp 3 = s6_3 ∧ sp 0 = s6_0 ∧ sp 2 = s6_2) (fun sp on hA hon => ?_) (fun ops6_3 => ?_)
      · refine ⟨fun o ho vs Rs f' S' w hp hf hx hS hR hs => ?_⟩
        obtain rfl := Option.some.inj ho
        obtain ⟨hv0, hR0⟩ := (spe hA.2.1 hs6_0 (hp 0 (by kernel_rfl)))
        obtain ⟨hv2, hR2⟩ := (spe hA.2.2 hs6_2 (hp 2 (by kernel_rfl)))
        rw [hA.1, hs6_3]
        refine And.intro (fun a ha => (want_none rfl a ha).trans hon.symm) (And.intro (fun _ => ?_) (fun h => by rw [hon] at h; cases h))
        have hF := fr_next (fr_next (rfl) ((hf 0 22 (by kernel_rfl) rfl).trans hv0)) ((hf 2 24 (by kernel_rfl) rfl).trans hv2)
        refine ls_fr hF ?_
        refine ls_val (v := .bool (decide (x6_2 < (l0.length : Int)))) rfl rfl (by kernel_rfl) (fun w => by kernel_rfl) ?_
        exact ls_fin s0 (.bool (decide (x6_2 < (l0.length : Int)))) (congrArg (fun z => upd z 25 _) hF.symm) ⟨rfl, rfl⟩ (sub_nil _)
      obtain ⟨s6_4, hs6_4⟩ : ∃ z : Value → Sto → Prop, z = (fun v R => v = .bool (decide (x6_2 < (l0.length : Int))) ∧ R = s0) := ⟨_, rfl⟩
      refine have_op (l := [_, _, _, _, _, _, _, _, _, _, _, _, _, _]) extent_Add.tab4 1 4 (fun sp => sp 4 = s6_4 ∧ sp 3 = s6_3) (fun sp on hA hon => ?_) (fun ops6_4 => ?_)
      · refine ⟨fun o ho vs Rs f' S' w hp hf hx hS hR hs => ?_⟩
        obtain rfl := Option.some.inj ho
        obtain ⟨hv3, hR3⟩ := (spe hA.2 hs6_3 (hp 3 (by kernel_rfl)))
        rw [hA.1, hs6_4]
        refine And.intro (fun a ha => (want_none rfl a ha).trans hon.symm) (And.intro (fun _ => ?_) (fun h => by rw [hon] at h; cases h))
        have hF := fr_next (rfl) ((hf 3 25 (by kernel_rfl) rfl).trans hv3)
        refine ls_fr hF ?_
        refine ls_val (v := .bool (decide (x6_2 < (l0.length : Int)))) rfl rfl (by kernel_rfl) (fun w => by kernel_rfl) ?_
        exact ls_fin s0 (.bool (decide (x6_2 < (l0.length : Int)))) (congrArg (fun z => upd z 26 _) hF.symm) ⟨rfl, rfl⟩ (sub_nil _)
      by_cases q7 : x6_2 < (l0.length : Int)
      · replace H := ite_t q7 H
        obtain ⟨s6_5, hs6_5⟩ : ∃ z : Value → Sto → Prop, z = (fun v R => v = .slice A0 l0.length c0 ∧ R = s0) := ⟨_, rfl⟩
        refine have_op (l := [_, _, _, _, _, _, _, _, _, _, _, _, _, _]) extent_Add.tab4 1 5 (fun sp => sp 5 = s6_5 ∧ sp 4 = s6_4) (fun sp on hA hon => ?_) (fun ops6_5 => ?_)
        · refine ⟨fun o ho vs Rs f' S' w hp hf hx hS hR hs => ?_⟩
          obtain rfl := Option.some.inj ho
          obtain ⟨hv4, hR4⟩ := (spe hA.2 hs6_4 (hp 4 (by kernel_rfl)))
          rw [hA.1, hs6_5]
          refine And.intro (fun a ha => (want_is (j := 4) (t := 26) (r := true) rfl rfl (by kernel_rfl) (((hf 4 26 (by kernel_rfl) rfl).trans hv4).trans (congrArg Value.bool (show (decide (x6_2 < (l0.length : Int))) = true from dec_t q7))) rfl a ha).trans hon.symm) (And.intro (fun _ => ?_) (fun h => by rw [hon] at h; cases h))
          have hF := fr_next (fr_next (rfl) ((hx 0 (by kernel_rfl)).trans (by kernel_rfl : (_ : Value) = .slice A0 l0.length c0))) (((hf 4 26 (by kernel_rfl) rfl).trans hv4).trans (congrArg Value.bool (show (decide (x6_2 < (l0.length : Int))) = true from dec_t q7)))
          refine ls_fr hF ?_
          refine ls_val (v := .slice A0 l0.length c0) rfl rfl (by kernel_rfl) (fun w => by kernel_rfl) ?_
          exact ls_fin s0 (.slice A0 l0.length c0) (congrArg (fun z => upd z 27 _) hF.symm) ⟨rfl, rfl⟩ (sub_nil _)
        obtain ⟨s6_6, hs6_6⟩ : ∃ z : Value → Sto → Prop, z = (fun v R => v = .int .i64 x6_2 ∧ R = s0) := ⟨_, rfl⟩
        refine have_op (l := [_, _, _, _, _, _, _, _, _, _, _, _, _, _]) extent_Add.tab4 1 6 (fun sp => sp 6 = s6_6 ∧ sp 4 = s6_4) (fun sp on hA hon => ?_) (fun ops6_6 => ?_)
        · refine ⟨fun o ho vs Rs f' S' w hp hf hx hS hR hs => ?_⟩
          obtain rfl := Option.some.inj ho
          obtain ⟨hv4, hR4⟩ := (spe hA.2 hs6_4 (hp 4 (by kernel_rfl)))
          rw [hA.1, hs6_6]
          refine And.intro (fun a ha => (want_is (j := 4) (t := 26) (r := true) rfl rfl (by kernel_rfl) (((hf 4 26 (by kernel_rfl) rfl).trans hv4).trans (congrArg Value.bool (show (decide (x6_2 < (l0.length : Int))) = true from dec_t q7))) rfl a ha).trans hon.symm) (And.intro (fun _ => ?_) (fun h => by rw [hon] at h; cases h))
          have hF := fr_next (fr_next (rfl) ((hx 6 (by kernel_rfl)).trans (by kernel_rfl : (_ : Value) = .int .i64 x6_2))) (((hf 4 26 (by kernel_rfl) rfl).trans hv4).trans (congrArg Value.bool (show (decide (x6_2 < (l0.length : Int))) = true from dec_t q7)))
          refine ls_fr hF ?_
          refine ls_val (v := .int .i64 x6_2) rfl rfl (by kernel_rfl) (fun w => by kernel_rfl) ?_
          exact ls_fin s0 (.int .i64 x6_2) (congrArg (fun z => upd z 28 _) hF.symm) ⟨rfl, rfl⟩ (sub_nil _)
        obtain ⟨q8, H⟩ := ite_need H
        obtain ⟨ad9, hA10⟩ := ido_at (T := T24) (l := l0) (i := x6_2) R0 q8 q7
        obtain ⟨s6_7, hs6_7⟩ : ∃ z : Value → Sto → Prop, z = (fun v R => v = .pointer (some (ad9.add ((x6_2).toNat * 2))) ∧ R = s0) := ⟨_, rfl⟩
        refine have_op (l := [_, _, _, _, _, _, _, _, _, _, _, _, _, _]) extent_Add.tab4 1 7 (fun sp => sp 7 = s6_7 ∧ sp 4 = s6_4 ∧ sp 5 = s6_5 ∧ sp 6 = s6_6) (fun sp on hA hon => ?_) (fun ops6_7 => ?_)
        · refine ⟨fun o ho vs Rs f' S' w hp hf hx hS hR hs => ?_⟩
          obtain rfl := Option.some.inj ho
          obtain ⟨hv4, hR4⟩ := (spe hA.2.1 hs6_4 (hp 4 (by kernel_rfl)))
          obtain ⟨hv5, hR5⟩ := (spe hA.2.2.1 hs6_5 (hp 5 (by kernel_rfl)))
          obtain ⟨hv6, hR6⟩ := (spe hA.2.2.2 hs6_6 (hp 6 (by kernel_rfl)))
          rw [hA.1, hs6_7]
          refine And.intro (fun a ha => (want_is (j := 4) (t := 26) (r := true) rfl rfl (by kernel_rfl) (((hf 4 26 (by kernel_rfl) rfl).trans hv4).trans (congrArg Value.bool (show (decide (x6_2 < (l0.length : Int))) = true from dec_t q7))) rfl a ha).trans hon.symm) (And.intro (fun _ => ?_) (fun h => by rw [hon] at h; cases h))
          have hF := fr_next (fr_next (fr_next (rfl) (((hf 4 26 (by kernel_rfl) rfl).trans hv4).trans (congrArg Value.bool (show (decide (x6_2 < (l0.length : Int))) = true from dec_t q7)))) ((hf 5 27 (by kernel_rfl) rfl).trans hv5)) ((hf 6 28 (by kernel_rfl) rfl).trans hv6)
          refine ls_fr hF ?_
          refine ls_idxv T24 (A := A0) (c := c0) (l := l0) (k := .i64) (i := x6_2) (z := 2) (ad := ad9) rfl rfl (by kernel_rfl) hA10 rfl (by kernel_rfl) (by kernel_rfl) (by kernel_rfl) (by kernel_rfl) q8 q7 ?_
          exact ls_fin s0 (.pointer (some (ad9.add ((x6_2).toNat * 2)))) (congrArg (fun z => upd z 29 _) hF.symm) ⟨rfl, rfl⟩ (sub_nil _)
        obtain ⟨s6_8, hs6_8⟩ : ∃ z : Value → Sto → Prop, z = (fun v R => v = .pointer (some (ad9.add (((x6_2).toNat * 2) + 0))) ∧ R = s0) := ⟨_, rfl⟩
        refine have_op (l := [_, _, _, _, _, _, _, _, _, _, _, _, _, _]) extent_Add.tab4 1 8 (fun sp => sp 8 = s6_8 ∧ sp 4 = s6_4 ∧ sp 7 = s6_7) (fun sp on hA hon => ?_) (fun ops6_8 => ?_)
        · refine ⟨fun o ho vs Rs f' S' w hp hf hx hS hR hs => ?_⟩
          obtain rfl := Option.some.inj ho
          obtain ⟨hv4, hR4⟩ := (spe hA.2.1 hs6_4 (hp 4 (by kernel_rfl)))
          obtain ⟨hv7, hR7⟩ := (spe hA.2.2 hs6_7 (hp 7 (by kernel_rfl)))
          rw [hA.1, hs6_8]
          refine And.intro (fun a ha => (want_is (j := 4) (t := 26) (r := true) rfl rfl (by kernel_rfl) (((hf 4 26 (by kernel_rfl) rfl).trans hv4).trans (congrArg Value.bool (show (decide (x6_2 < (l0.length : Int))) = true from dec_t q7))) rfl a ha).trans hon.symm) (And.intro (fun _ => ?_) (fun h => by rw [hon] at h; cases h))
          have hF := fr_next (fr_next (rfl) (((hf 4 26 (by kernel_rfl) rfl).trans hv4).trans (congrArg Value.bool (show (decide (x6_2 < (l0.length : Int))) = true from dec_t q7)))) ((hf 7 29 (by kernel_rfl) rfl).trans hv7)
          refine ls_fr hF ?_
          refine ls_fieldm (ad := ad9) (off := ((x6_2).toNat * 2)) rfl rfl (by kernel_rfl) 0 (fun w => by kernel_rfl) ?_
          exact ls_fin s0 (.pointer (some (ad9.add (((x6_2).toNat * 2) + 0)))) (congrArg (fun z => upd z 30 _) hF.symm) ⟨rfl, rfl⟩ (sub_nil _)
        obtain ⟨y11, hy12, H⟩ := lt_some H
        obtain ⟨s6_9, hs6_9⟩ : ∃ z : Value → Sto → Prop, z = (fun v R => v = .int .i64 y11 ∧ R = s0) := ⟨_, rfl⟩
        refine have_op (l := [_, _, _, _, _, _, _, _, _, _, _, _, _, _]) extent_Add.tab4 1 9 (fun sp => sp 9 = s6_9 ∧ sp 4 = s6_4 ∧ sp 8 = s6_8) (fun sp on hA hon => ?_) (fun ops6_9 => ?_)
        · refine ⟨fun o ho vs Rs f' S' w hp hf hx hS hR hs => ?_⟩
          obtain rfl := Option.some.inj ho
          obtain ⟨hv4, hR4⟩ := (spe hA.2.1 hs6_4 (hp 4 (by kernel_rfl)))
          obtain ⟨hv8, hR8⟩ := (spe hA.2.2 hs6_8 (hp 8 (by kernel_rfl)))
          rw [hA.1, hs6_9]
          refine And.intro (fun a ha => (want_is (j := 4) (t := 26) (r := true) rfl rfl (by kernel_rfl) (((hf 4 26 (by kernel_rfl) rfl).trans hv4).trans (congrArg Value.bool (show (decide (x6_2 < (l0.length : Int))) = true from dec_t q7))) rfl a ha).trans hon.symm) (And.intro (fun _ => ?_) (fun h => by rw [hon] at h; cases h))
          have hF := fr_next (fr_next (rfl) (((hf 4 26 (by kernel_rfl) rfl).trans hv4).trans (congrArg Value.bool (show (decide (x6_2 < (l0.length : Int))) = true from dec_t q7)))) ((hf 8 30 (by kernel_rfl) rfl).trans hv8)
          refine ls_fr hF ?_
          refine ls_load (a0 := (ad9.add (((x6_2).toNat * 2) + 0))) (v := .int .i64 (((l0).getD (x6_2).toNat ((0 : Int), (0 : Int))).1)) (de := (TypeDesc.int .i64)) rfl rfl (by kernel_rfl) rfl (by kernel_rfl) (by kernel_rfl) (by kernel_rfl) (fun w1 hs1 => (Rd.step (hs.old R0) hs1.below.bw).at hA10 (Sub4.trans (em_sub T24 l0 (i := (x6_2).toNat) (by have h0 : (0 : Int) ≤ x6_2 := q8; have h1 : x6_2 < (l0.length : Int) := q7; omega)) (Sub4.head _ _))) ?_
          refine ls_ren 31 (v := .int .i64 (((l0).getD (x6_2).toNat ((0 : Int), (0 : Int))).1)) (v' := .int .i64 y11) (by kernel_rfl) (by rw [hy12]) ?_
          exact ls_fin s0 (.int .i64 y11) ((upd_upd _ _ _ _).trans (congrArg (fun z => upd z 31 _) hF.symm)) ⟨rfl, rfl⟩ (sub_nil _)
        obtain ⟨s6_10, hs6_10⟩ : ∃ z : Value → Sto → Prop, z = (fun v R => v = .pointer (some ⟨g1, (0 + 1), none⟩) ∧ R = s0) := ⟨_, rfl⟩
        refine have_op (l := [_, _, _, _, _, _, _, _, _, _, _, _, _, _]) extent_Add.tab4 1 10 (fun sp => sp 10 = s6_10 ∧ sp 4 = s6_4) (fun sp on hA hon => ?_) (fun ops6_10 => ?_)
        · refine ⟨fun o ho vs Rs f' S' w hp hf hx hS hR hs => ?_⟩
          obtain rfl := Option.some.inj ho
          obtain ⟨hv4, hR4⟩ := (spe hA.2 hs6_4 (hp 4 (by kernel_rfl)))
          rw [hA.1, hs6_10]
          refine And.intro (fun a ha => (want_is (j := 4) (t := 26) (r := true) rfl rfl (by kernel_rfl) (((hf 4 26 (by kernel_rfl) rfl).trans hv4).trans (congrArg Value.bool (show (decide (x6_2 < (l0.length : Int))) = true from dec_t q7))) rfl a ha).trans hon.symm) (And.intro (fun _ => ?_) (fun h => by rw [hon] at h; cases h))
          have hF := fr_next (fr_next (rfl) ((hx 3 (by kernel_rfl)).trans (by kernel_rfl : (_ : Value) = .pointer (some ⟨g1, 0, none⟩)))) (((hf 4 26 (by kernel_rfl) rfl).trans hv4).trans (congrArg Value.bool (show (decide (x6_2 < (l0.length : Int))) = true from dec_t q7)))
          refine ls_fr hF ?_
          refine ls_val (v := .pointer (some ⟨g1, (0 + 1), none⟩)) rfl rfl (by kernel_rfl) (fun w => by kernel_rfl) ?_
          exact ls_fin s0 (.pointer (some ⟨g1, (0 + 1), none⟩)) (congrArg (fun z => upd z 32 _) hF.symm) ⟨rfl, rfl⟩ (sub_nil _)
        obtain ⟨s6_11, hs6_11⟩ : ∃ z : Value → Sto → Prop, z = (fun v R => v = .int .i64 m0_2.2 ∧ R = s0) := ⟨_, rfl⟩
        refine have_op (l := [_, _, _, _, _, _, _, _, _, _, _, _, _, _]) extent_Add.tab4 1 11 (fun sp => sp 11 = s6_11 ∧ sp 4 = s6_4 ∧ sp 10 = s6_10) (fun sp on hA hon => ?_) (fun ops6_11 => ?_)
        · refine ⟨fun o ho vs Rs f' S' w hp hf hx hS hR hs => ?_⟩
          obtain rfl := Option.some.inj ho
          obtain ⟨hv4, hR4⟩ := (spe hA.2.1 hs6_4 (hp 4 (by kernel_rfl)))
          obtain ⟨hv10, hR10⟩ := (spe hA.2.2 hs6_10 (hp 10 (by kernel_rfl)))
          rw [hA.1, hs6_11]
          refine And.intro (fun a ha => (want_is (j := 4) (t := 26) (r := true) rfl rfl (by kernel_rfl) (((hf 4 26 (by kernel_rfl) rfl).trans hv4).trans (congrArg Value.bool (show (decide (x6_2 < (l0.length : Int))) = true from dec_t q7))) rfl a ha).trans hon.symm) (And.intro (fun _ => ?_) (fun h => by rw [hon] at h; cases h))
          have hF := fr_next (fr_next (rfl) (((hf 4 26 (by kernel_rfl) rfl).trans hv4).trans (congrArg Value.bool (show (decide (x6_2 < (l0.length : Int))) = true from dec_t q7)))) ((hf 10 32 (by kernel_rfl) rfl).trans hv10)
          refine ls_fr hF ?_
          refine ls_load (a0 := ⟨g1, (0 + 1), none⟩) (v := .int .i64 m0_2.2) (de := (TypeDesc.int .i64)) rfl rfl (by kernel_rfl) rfl (by kernel_rfl) (by kernel_rfl) (by kernel_rfl) (fun w1 hs1 => cell_step hs1.below.bw (hs.var (k := 0) ((hS 0 (by kernel_rfl)).trans (by exact rfl)) (Sub4.trans (Sub4.all _) (Sub4.skip (n := 1) (len1 _) (Sub4.all _))))) ?_
          exact ls_fin s0 (.int .i64 m0_2.2) (congrArg (fun z => upd z 33 _) hF.symm) ⟨rfl, rfl⟩ (sub_nil _)
        refine cs_draw extent_Add.tab4 12 1 (spl [s6_0, s6_1, s6_2, s6_3, s6_4, s6_5, s6_6, s6_7, s6_8, s6_9, s6_10, s6_11]) (onl [true, true, true, true, true, true, true, true, true, true, true, true]) (by kernel_rfl) (by kernel_rfl) (by kernel_rfl) (by kernel_rfl) (rs := [_, _]) rfl (by kernel_rfl) (by kernel_rfl) (all_snoc (all_snoc (all_snoc (all_snoc (all_snoc (all_snoc (all_snoc (all_snoc (all_snoc (all_snoc (all_snoc (all_snoc (all_nil) (ops6_0 _ _ rfl rfl)) (ops6_1 _ _ rfl rfl)) (ops6_2 _ _ ⟨rfl, rfl⟩ rfl)) (ops6_3 _ _ ⟨rfl, rfl, rfl⟩ rfl)) (ops6_4 _ _ ⟨rfl, rfl⟩ rfl)) (ops6_5 _ _ ⟨rfl, rfl⟩ rfl)) (ops6_6 _ _ ⟨rfl, rfl⟩ rfl)) (ops6_7 _ _ ⟨rfl, rfl, rfl, rfl⟩ rfl)) (ops6_8 _ _ ⟨rfl, rfl, rfl⟩ rfl)) (ops6_9 _ _ ⟨rfl, rfl, rfl⟩ rfl)) (ops6_10 _ _ ⟨rfl, rfl⟩ rfl)) (ops6_11 _ _ ⟨rfl, rfl, rfl⟩ rfl)) ?_
        intro vs Rs f' S' hp hf hx hS hR
        obtain ⟨hv4, hR4⟩ := (spe rfl hs6_4 (hp 4 (by kernel_rfl)))
        obtain ⟨hv9, hR9⟩ := (spe rfl hs6_9 (hp 9 (by kernel_rfl)))
        obtain ⟨hv11, hR11⟩ := (spe rfl hs6_11 (hp 11 (by kernel_rfl)))
        refine ls_fr (F := upd (upd (upd (upd (upd (upd (upd f' 0 (.slice A0 l0.length c0)) 3 (.pointer (some ⟨g1, 0, none⟩))) 5 (.int .i64 t2)) 6 (.int .i64 x6_2)) 26 (.bool (decide (x6_2 < (l0.length : Int))))) 31 (.int .i64 y11)) 33 (.int .i64 m0_2.2)) (fr_next (fr_next (fr_next (fr_next (fr_next (fr_next (fr_next (rfl) ((hx 0 (by kernel_rfl)).trans (by kernel_rfl : (_ : Value) = .slice A0 l0.length c0))) ((hx 3 (by kernel_rfl)).trans (by kernel_rfl : (_ : Value) = .pointer (some ⟨g1, 0, none⟩)))) ((hx 5 (by kernel_rfl)).trans (by kernel_rfl : (_ : Value) = .int .i64 t2))) ((hx 6 (by kernel_rfl)).trans (by kernel_rfl : (_ : Value) = .int .i64 x6_2))) ((hf 4 26 (by kernel_rfl) rfl).trans hv4)) ((hf 9 31 (by kernel_rfl) rfl).trans hv9)) ((hf 11 33 (by kernel_rfl) rfl).trans hv11)) ?_
        refine ls_sub (sput s0 0 (some (Ck.var 24 g1 (([Value.int .i64 m0_2.1] ++ [Value.int .i64 m0_2.2]))))) (sub_put ((hS 0 (by kernel_rfl)).trans (by exact rfl)) (sub_nil _)) ?_
        refine ls_know (c := true) (dec_t q7) 26 (by kernel_rfl) ?_
        refine ls_on (j := 4) (t := 26) (b := true) rfl rfl (by kernel_rfl) (by kernel_rfl) ?_
        refine ls_val (v := .bool (decide (y11 ≤ m0_2.2))) rfl rfl (by kernel_rfl) (fun w => by kernel_rfl) ?_
        refine ls_val (v := .bool (decide (y11 ≤ m0_2.2))) rfl rfl (by kernel_rfl) (fun w => by kernel_rfl) ?_
        refine ls_end ?_
        refine qn_then ?_
        by_cases q13 : y11 ≤ m0_2.2
        · replace H := ite_t q13 H
          refine cs_know (c := true) (dec_t q13) 35 (by kernel_rfl) ?_
          refine cs_true (by kernel_rfl) ?_
          refine cs_skip' ?_
          refine qn_then ?_
          refine cs_seq ?_
          refine cs_block ?_
          obtain ⟨s15_0, hs15_0⟩ : ∃ z : Value → Sto → Prop, z = (fun v R => v = .pointer (some ⟨g1, (0 + 0), none⟩) ∧ R = s0) := ⟨_, rfl⟩
          refine have_op (l := [_, _, _, _, _, _, _, _, _, _, _, _, _, _, _, _, _, _]) extent_Add.tab13 97 0 (fun sp => sp 0 = s15_0) (fun sp on hA hon => ?_) (fun ops15_0 => ?_)
          · refine ⟨fun o ho vs Rs f' S' w hp hf hx hS hR hs => ?_⟩
            obtain rfl := Option.some.inj ho
            rw [hA, hs15_0]
            refine And.intro (fun a ha => (want_none rfl a ha).trans hon.symm) (And.intro (fun _ => ?_) (fun h => by rw [hon] at h; cases h))
            have hF := fr_next (rfl) ((hx 3 (by kernel_rfl)).trans (by kernel_rfl : (_ : Value) = .pointer (some ⟨g1, 0, none⟩)))
            refine ls_fr hF ?_
            refine ls_val (v := .pointer (some ⟨g1, (0 + 0), none⟩)) rfl rfl (by kernel_rfl) (fun w => by kernel_rfl) ?_
            exact ls_fin s0 (.pointer (some ⟨g1, (0 + 0), none⟩)) (congrArg (fun z => upd z 38 _) hF.symm) ⟨rfl, rfl⟩ (sub_nil _)
          obtain ⟨s15_1, hs15_1⟩ : ∃ z : Value → Sto → Prop, z = (fun v R => v = .int .i64 m0_2.1 ∧ R = s0) := ⟨_, rfl⟩
          refine have_op (l := [_, _, _, _, _, _, _, _, _, _, _, _, _, _, _, _, _, _]) extent_Add.tab13 97 1 (fun sp => sp 1 = s15_1 ∧ sp 0 = s15_0) (fun sp on hA hon => ?_) (fun ops15_1 => ?_)
          · refine ⟨fun o ho vs Rs f' S' w hp hf hx hS hR hs => ?_⟩
            obtain rfl := Option.some.inj ho
            obtain ⟨hv0, hR0⟩ := (spe hA.2 hs15_0 (hp 0 (by kernel_rfl)))
            rw [hA.1, hs15_1]
            refine And.intro (fun a ha => (want_none rfl a ha).trans hon.symm) (And.intro (fun _ => ?_) (fun h => by rw [hon] at h; cases h))
            have hF := fr_next (rfl) ((hf 0 38 (by kernel_rfl) rfl).trans hv0)
            refine ls_fr hF ?_
            refine ls_load (a0 := ⟨g1, (0 + 0), none⟩) (v := .int .i64 m0_2.1) (de := (TypeDesc.int .i64)) rfl rfl (by kernel_rfl) rfl (by kernel_rfl) (by kernel_rfl) (by kernel_rfl) (fun w1 hs1 => cell_step hs1.below.bw (hs.var (k := 0) ((hS 0 (by kernel_rfl)).trans (by exact rfl)) (Sub4.trans (Sub4.all _) (Sub4.head _ _)))) ?_
            exact ls_fin s0 (.int .i64 m0_2.1) (congrArg (fun z => upd z 39 _) hF.symm) ⟨rfl, rfl⟩ (sub_nil _)
          obtain ⟨s15_2, hs15_2⟩ : ∃ z : Value → Sto → Prop, z = (fun v R => v = .slice A0 l0.length c0 ∧ R = s0) := ⟨_, rfl⟩
          refine have_op (l := [_, _, _, _, _, _, _, _, _, _, _, _, _, _, _, _, _, _]) extent_Add.tab13 97 2 (fun sp => sp 2 = s15_2) (fun sp on hA hon => ?_) (fun ops15_2 => ?_)
          · refine ⟨fun o ho vs Rs f' S' w hp hf hx hS hR hs => ?_⟩
            obtain rfl := Option.some.inj ho
            rw [hA, hs15_2]
            refine And.intro (fun a ha => (want_none rfl a ha).trans hon.symm) (And.intro (fun _ => ?_) (fun h => by rw [hon] at h; cases h))
            have hF := fr_next (rfl) ((hx 0 (by kernel_rfl)).trans (by kernel_rfl : (_ : Value) = .slice A0 l0.length c0))
            refine ls_fr hF ?_
            refine ls_val (v := .slice A0 l0.length c0) rfl rfl (by kernel_rfl) (fun w => by kernel_rfl) ?_
            exact ls_fin s0 (.slice A0 l0.length c0) (congrArg (fun z => upd z 40 _) hF.symm) ⟨rfl, rfl⟩ (sub_nil _)
          obtain ⟨s15_3, hs15_3⟩ : ∃ z : Value → Sto → Prop, z = (fun v R => v = .int .i64 x6_2 ∧ R = s0) := ⟨_, rfl⟩
          refine have_op (l := [_, _, _, _, _, _, _, _, _, _, _, _, _, _, _, _, _, _]) extent_Add.tab13 97 3 (fun sp => sp 3 = s15_3) (fun sp on hA hon => ?_) (fun ops15_3 => ?_)
          · refine ⟨fun o ho vs Rs f' S' w hp hf hx hS hR hs => ?_⟩
            obtain rfl := Option.some.inj ho
            rw [hA, hs15_3]
            refine And.intro (fun a ha => (want_none rfl a ha).trans hon.symm) (And.intro (fun _ => ?_) (fun h => by rw [hon] at h; cases h))
            have hF := fr_next (rfl) ((hx 6 (by kernel_rfl)).trans (by kernel_rfl : (_ : Value) = .int .i64 x6_2))
            refine ls_fr hF ?_
            refine ls_val (v := .int .i64 x6_2) rfl rfl (by kernel_rfl) (fun w => by kernel_rfl) ?_
            exact ls_fin s0 (.int .i64 x6_2) (congrArg (fun z => upd z 41 _) hF.symm) ⟨rfl, rfl⟩ (sub_nil _)
          obtain ⟨ad16, hA17⟩ := ido_at (T := T24) (l := l0) (i := x6_2) R0 q8 q7
          obtain ⟨s15_4, hs15_4⟩ : ∃ z : Value → Sto → Prop, z = (fun v R => v = .pointer (some (ad16.add ((x6_2).toNat * 2))) ∧ R = s0) := ⟨_, rfl⟩
          refine have_op (l := [_, _, _, _, _, _, _, _, _, _, _, _, _, _, _, _, _, _]) extent_Add.tab13 97 4 (fun sp => sp 4 = s15_4 ∧ sp 2 = s15_2 ∧ sp 3 = s15_3) (fun sp on hA hon => ?_) (fun ops15_4 => ?_)
          · refine ⟨fun o ho vs Rs f' S' w hp hf hx hS hR hs => ?_⟩
            obtain rfl := Option.some.inj ho
            obtain ⟨hv2, hR2⟩ := (spe hA.2.1 hs15_2 (hp 2 (by kernel_rfl)))
            obtain ⟨hv3, hR3⟩ := (spe hA.2.2 hs15_3 (hp 3 (by kernel_rfl)))
            rw [hA.1, hs15_4]
            refine And.intro (fun a ha => (want_none rfl a ha).trans hon.symm) (And.intro (fun _ => ?_) (fun h => by rw [hon] at h; cases h))
            have hF := fr_next (fr_next (rfl) ((hf 2 40 (by kernel_rfl) rfl).trans hv2)) ((hf 3 41 (by kernel_rfl) rfl).trans hv3)
            refine ls_fr hF ?_
            refine ls_idxv T24 (A := A0) (c := c0) (l := l0) (k := .i64) (i := x6_2) (z := 2) (ad := ad16) rfl rfl (by kernel_rfl) hA17 rfl (by kernel_rfl) (by kernel_rfl) (by kernel_rfl) (by kernel_rfl) q8 q7 ?_
            exact ls_fin s0 (.pointer (some (ad16.add ((x6_2).toNat * 2)))) (congrArg (fun z => upd z 42 _) hF.symm) ⟨rfl, rfl⟩ (sub_nil _)
          obtain ⟨s15_5, hs15_5⟩ : ∃ z : Value → Sto → Prop, z = (fun v R => v = .pointer (some (ad16.add (((x6_2).toNat * 2) + 0))) ∧ R = s0) := ⟨_, rfl⟩
          refine have_op (l := [_, _, _, _, _, _, _, _, _, _, _, _, _, _, _, _, _, _]) extent_Add.tab13 97 5 (fun sp => sp 5 = s15_5 ∧ sp 4 = s15_4) (fun sp on hA hon => ?_) (fun ops15_5 => ?_)
          · refine ⟨fun o ho vs Rs f' S' w hp hf hx hS hR hs => ?_⟩
            obtain rfl := Option.some.inj ho
            obtain ⟨hv4, hR4⟩ := (spe hA.2 hs15_4 (hp 4 (by kernel_rfl)))
            rw [hA.1, hs15_5]
            refine And.intro (fun a ha => (want_none rfl a ha).trans hon.symm) (And.intro (fun _ => ?_) (fun h => by rw [hon] at h; cases h))
            have hF := fr_next (rfl) ((hf 4 42 (by kernel_rfl) rfl).trans hv4)
            refine ls_fr hF ?_
            refine ls_fieldm (ad := ad16) (off := ((x6_2).toNat * 2)) rfl rfl (by kernel_rfl) 0 (fun w => by kernel_rfl) ?_
            exact ls_fin s0 (.pointer (some (ad16.add (((x6_2).toNat * 2) + 0)))) (congrArg (fun z => upd z 43 _) hF.symm) ⟨rfl, rfl⟩ (sub_nil _)
          obtain ⟨y18, hy19, H⟩ := lt_some H
          obtain ⟨s15_6, hs15_6⟩ : ∃ z : Value → Sto → Prop, z = (fun v R => v = .int .i64 y18 ∧ R = s0) := ⟨_, rfl⟩
          refine have_op (l := [_, _, _, _, _, _, _, _, _, _, _, _, _, _, _, _, _, _]) extent_Add.tab13 97 6 (fun sp => sp 6 = s15_6 ∧ sp 5 = s15_5) (fun sp on hA hon => ?_) (fun ops15_6 => ?_)
          · refine ⟨fun o ho vs Rs f' S' w hp hf hx hS hR hs => ?_⟩
            obtain rfl := Option.some.inj ho
            obtain ⟨hv5, hR5⟩ := (spe hA.2 hs15_5 (hp 5 (by kernel_rfl)))
            rw [hA.1, hs15_6]
            refine And.intro (fun a ha => (want_none rfl a ha).trans hon.symm) (And.intro (fun _ => ?_) (fun h => by rw [hon] at h; cases h))
            have hF := fr_next (rfl) ((hf 5 43 (by kernel_rfl) rfl).trans hv5)
            refine ls_fr hF ?_
            refine ls_load (a0 := (ad16.add (((x6_2).toNat * 2) + 0))) (v := .int .i64 (((l0).getD (x6_2).toNat ((0 : Int), (0 : Int))).1)) (de := (TypeDesc.int .i64)) rfl rfl (by kernel_rfl) rfl (by kernel_rfl) (by kernel_rfl) (by kernel_rfl) (fun w1 hs1 => (Rd.step (hs.old R0) hs1.below.bw).at hA17 (Sub4.trans (em_sub T24 l0 (i := (x6_2).toNat) (by have h0 : (0 : Int) ≤ x6_2 := q8; have h1 : x6_2 < (l0.length : Int) := q7; omega)) (Sub4.head _ _))) ?_
            refine ls_ren 44 (v := .int .i64 (((l0).getD (x6_2).toNat ((0 : Int), (0 : Int))).1)) (v' := .int .i64 y18) (by kernel_rfl) (by rw [hy19]) ?_
            exact ls_fin s0 (.int .i64 y18) ((upd_upd _ _ _ _).trans (congrArg (fun z => upd z 44 _) hF.symm)) ⟨rfl, rfl⟩ (sub_nil _)
          obtain ⟨s15_7, hs15_7⟩ : ∃ z : Value → Sto → Prop, z = (fun v R => v = .int .i64 (if y18 < m0_2.1 then y18 else m0_2.1) ∧ R = s0) := ⟨_, rfl⟩
          refine have_op (l := [_, _, _, _, _, _, _, _, _, _, _, _, _, _, _, _, _, _]) extent_Add.tab13 97 7 (fun sp => sp 7 = s15_7 ∧ sp 1 = s15_1 ∧ sp 6 = s15_6) (fun sp on hA hon => ?_) (fun ops15_7 => ?_)
          · refine ⟨fun o ho vs Rs f' S' w hp hf hx hS hR hs => ?_⟩
            obtain rfl := Option.some.inj ho
            obtain ⟨hv1, hR1⟩ := (spe hA.2.1 hs15_1 (hp 1 (by kernel_rfl)))
            obtain ⟨hv6, hR6⟩ := (spe hA.2.2 hs15_6 (hp 6 (by kernel_rfl)))
            rw [hA.1, hs15_7]
            refine And.intro (fun a ha => (want_none rfl a ha).trans hon.symm) (And.intro (fun _ => ?_) (fun h => by rw [hon] at h; cases h))
            have hF := fr_next (fr_next (rfl) ((hf 1 39 (by kernel_rfl) rfl).trans hv1)) ((hf 6 44 (by kernel_rfl) rfl).trans hv6)
            refine ls_fr hF ?_
            refine ls_val (v := .int .i64 (if y18 < m0_2.1 then y18 else m0_2.1)) rfl rfl (by kernel_rfl) (fun w => by kernel_rfl) ?_
            exact ls_fin s0 (.int .i64 (if y18 < m0_2.1 then y18 else m0_2.1)) (congrArg (fun z => upd z 45 _) hF.symm) ⟨rfl, rfl⟩ (sub_nil _)
          obtain ⟨s15_8, hs15_8⟩ : ∃ z : Value → Sto → Prop, z = (fun v R => v = .pointer (some ⟨g1, (0 + 1), none⟩) ∧ R = s0) := ⟨_, rfl⟩
          refine have_op (l := [_, _, _, _, _, _, _, _, _, _, _, _, _, _, _, _, _, _]) extent_Add.tab13 97 8 (fun sp => sp 8 = s15_8) (fun sp on hA hon => ?_) (fun ops15_8 => ?_)
          · refine ⟨fun o ho vs Rs f' S' w hp hf hx hS hR hs => ?_⟩
            obtain rfl := Option.some.inj ho
            rw [hA, hs15_8]
            refine And.intro (fun a ha => (want_none rfl a ha).trans hon.symm) (And.intro (fun _ => ?_) (fun h => by rw [hon] at h; cases h))
            have hF := fr_next (rfl) ((hx 3 (by kernel_rfl)).trans (by kernel_rfl : (_ : Value) = .pointer (some ⟨g1, 0, none⟩)))
            refine ls_fr hF ?_
            refine ls_val (v := .pointer (some ⟨g1, (0 + 1), none⟩)) rfl rfl (by kernel_rfl) (fun w => by kernel_rfl) ?_
            exact ls_fin s0 (.pointer (some ⟨g1, (0 + 1), none⟩)) (congrArg (fun z => upd z 46 _) hF.symm) ⟨rfl, rfl⟩ (sub_nil _)
          obtain ⟨s15_9, hs15_9⟩ : ∃ z : Value → Sto → Prop, z = (fun v R => v = .int .i64 m0_2.2 ∧ R = s0) := ⟨_, rfl⟩
          refine have_op (l := [_, _, _, _, _, _, _, _, _, _, _, _, _, _, _, _, _, _]) extent_Add.tab13 97 9 (fun sp => sp 9 = s15_9 ∧ sp 8 = s15_8) (fun sp on hA hon => ?_) (fun ops15_9 => ?_)
          · refine ⟨fun o ho vs Rs f' S' w hp hf hx hS hR hs => ?_⟩
            obtain rfl := Option.some.inj ho
            obtain ⟨hv8, hR8⟩ := (spe hA.2 hs15_8 (hp 8 (by kernel_rfl)))
            rw [hA.1, hs15_9]
            refine And.intro (fun a ha => (want_none rfl a ha).trans hon.symm) (And.intro (fun _ => ?_) (fun h => by rw [hon] at h; cases h))
            have hF := fr_next (rfl) ((hf 8 46 (by kernel_rfl) rfl).trans hv8)
            refine ls_fr hF ?_
            refine ls_load (a0 := ⟨g1, (0 + 1), none⟩) (v := .int .i64 m0_2.2) (de := (TypeDesc.int .i64)) rfl rfl (by kernel_rfl) rfl (by kernel_rfl) (by kernel_rfl) (by kernel_rfl) (fun w1 hs1 => cell_step hs1.below.bw (hs.var (k := 0) ((hS 0 (by kernel_rfl)).trans (by exact rfl)) (Sub4.trans (Sub4.all _) (Sub4.skip (n := 1) (len1 _) (Sub4.all _))))) ?_
            exact ls_fin s0 (.int .i64 m0_2.2) (congrArg (fun z => upd z 47 _) hF.symm) ⟨rfl, rfl⟩ (sub_nil _)
          obtain ⟨s15_10, hs15_10⟩ : ∃ z : Value → Sto → Prop, z = (fun v R => v = .slice A0 l0.length c0 ∧ R = s0) := ⟨_, rfl⟩
          refine have_op (l := [_, _, _, _, _, _, _, _, _, _, _, _, _, _, _, _, _, _]) extent_Add.tab13 97 10 (fun sp => sp 10 = s15_10) (fun sp on hA hon => ?_) (fun ops15_10 => ?_)
          · refine ⟨fun o ho vs Rs f' S' w hp hf hx hS hR hs => ?_⟩
            obtain rfl := Option.some.inj ho
            rw [hA, hs15_10]
            refine And.intro (fun a ha => (want_none rfl a ha).trans hon.symm) (And.intro (fun _ => ?_) (fun h => by rw [hon] at h; cases h))
            have hF := fr_next (rfl) ((hx 0 (by kernel_rfl)).trans (by kernel_rfl : (_ : Value) = .slice A0 l0.length c0))
            refine ls_fr hF ?_
            refine ls_val (v := .slice A0 l0.length c0) rfl rfl (by kernel_rfl) (fun w => by kernel_rfl) ?_
            exact ls_fin s0 (.slice A0 l0.length c0) (congrArg (fun z => upd z 48 _) hF.symm) ⟨rfl, rfl⟩ (sub_nil _)
          obtain ⟨s15_11, hs15_11⟩ : ∃ z : Value → Sto → Prop, z = (fun v R => v = .int .i64 x6_2 ∧ R = s0) := ⟨_, rfl⟩
          refine have_op (l := [_, _, _, _, _, _, _, _, _, _, _, _, _, _, _, _, _, _]) extent_Add.tab13 97 11 (fun sp => sp 11 = s15_11) (fun sp on hA hon => ?_) (fun ops15_11 => ?_)
          · refine ⟨fun o ho vs Rs f' S' w hp hf hx hS hR hs => ?_⟩
            obtain rfl := Option.some.inj ho
            rw [hA, hs15_11]
            refine And.intro (fun a ha => (want_none rfl a ha).trans hon.symm) (And.intro (fun _ => ?_) (fun h => by rw [hon] at h; cases h))
            have hF := fr_next (rfl) ((hx 6 (by kernel_rfl)).trans (by kernel_rfl : (_ : Value) = .int .i64 x6_2))
            refine ls_fr hF ?_
            refine ls_val (v := .int .i64 x6_2) rfl rfl (by kernel_rfl) (fun w => by kernel_rfl) ?_
            exact ls_fin s0 (.int .i64 x6_2) (congrArg (fun z => upd z 49 _) hF.symm) ⟨rfl, rfl⟩ (sub_nil _)
          obtain ⟨ad20, hA21⟩ := ido_at (T := T24) (l := l0) (i := x6_2) R0 q8 q7
          obtain ⟨s15_12, hs15_12⟩ : ∃ z : Value → Sto → Prop, z = (fun v R => v = .pointer (some (ad20.add ((x6_2).toNat * 2))) ∧ R = s0) := ⟨_, rfl⟩
          refine have_op (l := [_, _, _, _, _, _, _, _, _, _, _, _, _, _, _, _, _, _]) extent_Add.tab13 97 12 (fun sp => sp 12 = s15_12 ∧ sp 10 = s15_10 ∧ sp 11 = s15_11) (fun sp on hA hon => ?_) (fun ops15_12 => ?_)
          · refine ⟨fun o ho vs Rs f' S' w hp hf hx hS hR hs => ?_⟩
            obtain rfl := Option.some.inj ho
            obtain ⟨hv10, hR10⟩ := (spe hA.2.1 hs15_10 (hp 10 (by kernel_rfl)))
            obtain ⟨hv11, hR11⟩ := (spe hA.2.2 hs15_11 (hp 11 (by kernel_rfl)))
            rw [hA.1, hs15_12]
            refine And.intro (fun a ha => (want_none rfl a ha).trans hon.symm) (And.intro (fun _ => ?_) (fun h => by rw [hon] at h; cases h))
            have hF := fr_next (fr_next (rfl) ((hf 10 48 (by kernel_rfl) rfl).trans hv10)) ((hf 11 49 (by kernel_rfl) rfl).trans hv11)
            refine ls_fr hF ?_
            refine ls_idxv T24 (A := A0) (c := c0) (l := l0) (k := .i64) (i := x6_2) (z := 2) (ad := ad20) rfl rfl (by kernel_rfl) hA21 rfl (by kernel_rfl) (by kernel_rfl) (by kernel_rfl) (by kernel_rfl) q8 q7 ?_
            exact ls_fin s0 (.pointer (some (ad20.add ((x6_2).toNat * 2)))) (congrArg (fun z => upd z 50 _) hF.symm) ⟨rfl, rfl⟩ (sub_nil _)
          obtain ⟨s15_13, hs15_13⟩ : ∃ z : Value → Sto → Prop, z = (fun v R => v = .pointer (some (ad20.add (((x6_2).toNat * 2) + 1))) ∧ R = s0) := ⟨_, rfl⟩
          refine have_op (l := [_, _, _, _, _, _, _, _, _, _, _, _, _, _, _, _, _, _]) extent_Add.tab13 97 13 (fun sp => sp 13 = s15_13 ∧ sp 12 = s15_12) (fun sp on hA hon => ?_) (fun ops15_13 => ?_)
          · refine ⟨fun o ho vs Rs f' S' w hp hf hx hS hR hs => ?_⟩
            obtain rfl := Option.some.inj ho
            obtain ⟨hv12, hR12⟩ := (spe hA.2 hs15_12 (hp 12 (by kernel_rfl)))
            rw [hA.1, hs15_13]
            refine And.intro (fun a ha => (want_none rfl a ha).trans hon.symm) (And.intro (fun _ => ?_) (fun h => by rw [hon] at h; cases h))
            have hF := fr_next (rfl) ((hf 12 50 (by kernel_rfl) rfl).trans hv12)
            refine ls_fr hF ?_
            refine ls_fieldm (ad := ad20) (off := ((x6_2).toNat * 2)) rfl rfl (by kernel_rfl) 1 (fun w => by kernel_rfl) ?_
            exact ls_fin s0 (.pointer (some (ad20.add (((x6_2).toNat * 2) + 1)))) (congrArg (fun z => upd z 51 _) hF.symm) ⟨rfl, rfl⟩ (sub_nil _)
          obtain ⟨y22, hy23, H⟩ := lt_some H
          obtain ⟨s15_14, hs15_14⟩ : ∃ z : Value → Sto → Prop, z = (fun v R => v = .int .i64 y22 ∧ R = s0) := ⟨_, rfl⟩
          refine have_op (l := [_, _, _, _, _, _, _, _, _, _, _, _, _, _, _, _, _, _]) extent_Add.tab13 97 14 (fun sp => sp 14 = s15_14 ∧ sp 13 = s15_13) (fun sp on hA hon => ?_) (fun ops15_14 => ?_)
          · refine ⟨fun o ho vs Rs f' S' w hp hf hx hS hR hs => ?_⟩
            obtain rfl := Option.some.inj ho
            obtain ⟨hv13, hR13⟩ := (spe hA.2 hs15_13 (hp 13 (by kernel_rfl)))
            rw [hA.1, hs15_14]
            refine And.intro (fun a ha => (want_none rfl a ha).trans hon.symm) (And.intro (fun _ => ?_) (fun h => by rw [hon] at h; cases h))
            have hF := fr_next (rfl) ((hf 13 51 (by kernel_rfl) rfl).trans hv13)
            refine ls_fr hF ?_
            refine ls_load (a0 := (ad20.add (((x6_2).toNat * 2) + 1))) (v := .int .i64 (((l0).getD (x6_2).toNat ((0 : Int), (0 : Int))).2)) (de := (TypeDesc.int .i64)) rfl rfl (by kernel_rfl) rfl (by kernel_rfl) (by kernel_rfl) (by kernel_rfl) (fun w1 hs1 => (Rd.step (hs.old R0) hs1.below.bw).at hA21 (Sub4.trans (em_sub T24 l0 (i := (x6_2).toNat) (by have h0 : (0 : Int) ≤ x6_2 := q8; have h1 : x6_2 < (l0.length : Int) := q7; omega)) (Sub4.skip (n := 1) (len1 _) (Sub4.all _)))) ?_
            refine ls_ren 52 (v := .int .i64 (((l0).getD (x6_2).toNat ((0 : Int), (0 : Int))).2)) (v' := .int .i64 y22) (by kernel_rfl) (by rw [hy23]) ?_
            exact ls_fin s0 (.int .i64 y22) ((upd_upd _ _ _ _).trans (congrArg (fun z => upd z 52 _) hF.symm)) ⟨rfl, rfl⟩ (sub_nil _)
          obtain ⟨s15_15, hs15_15⟩ : ∃ z : Value → Sto → Prop, z = (fun v R => v = .int .i64 (if m0_2.2 < y22 then y22 else m0_2.2) ∧ R = s0) := ⟨_, rfl⟩
          refine have_op (l := [_, _, _, _, _, _, _, _, _, _, _, _, _, _, _, _, _, _]) extent_Add.tab13 97 15 (fun sp => sp 15 = s15_15 ∧ sp 9 = s15_9 ∧ sp 14 = s15_14) (fun sp on hA hon => ?_) (fun ops15_15 => ?_)
          · refine ⟨fun o ho vs Rs f' S' w hp hf hx hS hR hs => ?_⟩
            obtain rfl := Option.some.inj ho
            obtain ⟨hv9, hR9⟩ := (spe hA.2.1 hs15_9 (hp 9 (by kernel_rfl)))
            obtain ⟨hv14, hR14⟩ := (spe hA.2.2 hs15_14 (hp 14 (by kernel_rfl)))
            rw [hA.1, hs15_15]
            refine And.intro (fun a ha => (want_none rfl a ha).trans hon.symm) (And.intro (fun _ => ?_) (fun h => by rw [hon] at h; cases h))
            have hF := fr_next (fr_next (rfl) ((hf 9 47 (by kernel_rfl) rfl).trans hv9)) ((hf 14 52 (by kernel_rfl) rfl).trans hv14)
            refine ls_fr hF ?_
            refine ls_val (v := .int .i64 (if m0_2.2 < y22 then y22 else m0_2.2)) rfl rfl (by kernel_rfl) (fun w => by kernel_rfl) ?_
            exact ls_fin s0 (.int .i64 (if m0_2.2 < y22 then y22 else m0_2.2)) (congrArg (fun z => upd z 53 _) hF.symm) ⟨rfl, rfl⟩ (sub_nil _)
          refine cs_draw extent_Add.tab13 16 97 (spl [s15_0, s15_1, s15_2, s15_3, s15_4, s15_5, s15_6, s15_7, s15_8, s15_9, s15_10, s15_11, s15_12, s15_13, s15_14, s15_15]) (onl [true, true, true, true, true, true, true, true, true, true, true, true, true, true, true, true]) (by kernel_rfl) (by kernel_rfl) (by kernel_rfl) (by kernel_rfl) (rs := [_, _]) rfl (by kernel_rfl) (by kernel_rfl) (all_snoc (all_snoc (all_snoc (all_snoc (all_snoc (all_snoc (all_snoc (all_snoc (all_snoc (all_snoc (all_snoc (all_snoc (all_snoc (all_snoc (all_snoc (all_snoc (all_nil) (ops15_0 _ _ rfl rfl)) (ops15_1 _ _ ⟨rfl, rfl⟩ rfl)) (ops15_2 _ _ rfl rfl)) (ops15_3 _ _ rfl rfl)) (ops15_4 _ _ ⟨rfl, rfl, rfl⟩ rfl)) (ops15_5 _ _ ⟨rfl, rfl⟩ rfl)) (ops15_6 _ _ ⟨rfl, rfl⟩ rfl)) (ops15_7 _ _ ⟨rfl, rfl, rfl⟩ rfl)) (ops15_8 _ _ rfl rfl)) (ops15_9 _ _ ⟨rfl, rfl⟩ rfl)) (ops15_10 _ _ rfl rfl)) (ops15_11 _ _ rfl rfl)) (ops15_12 _ _ ⟨rfl, rfl, rfl⟩ rfl)) (ops15_13 _ _ ⟨rfl, rfl⟩ rfl)) (ops15_14 _ _ ⟨rfl, rfl⟩ rfl)) (ops15_15 _ _ ⟨rfl, rfl, rfl⟩ rfl)) ?_
          intro vs Rs f' S' hp hf hx hS hR
          obtain ⟨hv7, hR7⟩ := (spe rfl hs15_7 (hp 7 (by kernel_rfl)))
          obtain ⟨hv15, hR15⟩ := (spe rfl hs15_15 (hp 15 (by kernel_rfl)))
          refine ls_fr (F := upd (upd (upd (upd (upd (upd f' 0 (.slice A0 l0.length c0)) 3 (.pointer (some ⟨g1, 0, none⟩))) 5 (.int .i64 t2)) 6 (.int .i64 x6_2)) 45 (.int .i64 (if y18 < m0_2.1 then y18 else m0_2.1))) 53 (.int .i64 (if m0_2.2 < y22 then y22 else m0_2.2))) (fr_next (fr_next (fr_next (fr_next (fr_next (fr_next (rfl) ((hx 0 (by kernel_rfl)).trans (by kernel_rfl : (_ : Value) = .slice A0 l0.length c0))) ((hx 3 (by kernel_rfl)).trans (by kernel_rfl : (_ : Value) = .pointer (some ⟨g1, 0, none⟩)))) ((hx 5 (by kernel_rfl)).trans (by kernel_rfl : (_ : Value) = .int .i64 t2))) ((hx 6 (by kernel_rfl)).trans (by kernel_rfl : (_ : Value) = .int .i64 x6_2))) ((hf 7 45 (by kernel_rfl) rfl).trans hv7)) ((hf 15 53 (by kernel_rfl) rfl).trans hv15)) ?_
          refine ls_sub (sput s0 0 (some (Ck.var 24 g1 (([Value.int .i64 m0_2.1] ++ [Value.int .i64 m0_2.2]))))) (sub_put ((hS 0 (by kernel_rfl)).trans (by exact rfl)) (sub_nil _)) ?_
          refine ls_val (v := .agg ⟨([Value.int .i64 (if y18 < m0_2.1 then y18 else m0_2.1)] ++ [Value.int .i64 (if m0_2.2 < y22 then y22 else m0_2.2)])⟩) rfl rfl (by kernel_rfl) (fun w => by kernel_rfl) ?_
          refine ls_storec (g := g1) (off := 0) (v := .agg ⟨([Value.int .i64 (if y18 < m0_2.1 then y18 else m0_2.1)] ++ [Value.int .i64 (if m0_2.2 < y22 then y22 else m0_2.2)])⟩) (vs := ([Value.int .i64 (if y18 < m0_2.1 then y18 else m0_2.1)] ++ [Value.int .i64 (if m0_2.2 < y22 then y22 else m0_2.2)])) (cs := ([Value.int .i64 m0_2.1] ++ [Value.int .i64 m0_2.2])) (ty := 24) 0 rfl rfl rfl (by kernel_rfl) (by kernel_rfl) (by kernel_rfl) (by exact rfl) (by kernel_rfl) (len_app (len1 _) (len1 _)) (one_app (one_cons rfl one_nil) (one_cons rfl one_nil)) (hl_of (Sub4.all _) (len_eq (len_app (len1 _) (len1 _)) (len_app (len1 _) (len1 _)))) (cs' := ([Value.int .i64 (if y18 < m0_2.1 then y18 else m0_2.1)] ++ [Value.int .i64 (if m0_2.2 < y22 then y22 else m0_2.2)])) (splc_all (len_eq (len_app (len1 _) (len1 _)) (len_app (len1 _) (len1 _)))) ?_
          refine ls_end ?_
          refine qn_block ?_
          refine qn_then ?_
          refine cs_region (l := [_, _, _]) ?_
          refine ls_val (v := .int .i64 x6_2) rfl rfl (by kernel_rfl) (fun w => by kernel_rfl) ?_
          refine ls_val (v := .int .i64 (IntKind.wrap .i64 (x6_2 + (1 : Int)))) rfl rfl (by kernel_rfl) (fun w => by kernel_rfl) ?_
          refine ls_val (v := .int .i64 (IntKind.wrap .i64 (x6_2 + (1 : Int)))) rfl rfl (by kernel_rfl) (fun w => by kernel_rfl) ?_
          refine ls_end ?_
          refine qn_again k2 (sput s0 0 (some (Ck.var 24 g1 (([Value.int .i64 (if y18 < m0_2.1 then y18 else m0_2.1)] ++ [Value.int .i64 (if m0_2.2 < y22 then y22 else m0_2.2)]))))) (Nat.le_refl _) ⟨_, (IntKind.wrap .i64 (x6_2 + (1 : Int))), ((if y18 < m0_2.1 then y18 else m0_2.1), (if m0_2.2 < y22 then y22 else m0_2.2)), fr_next (fr_next (fr_next (fr_next (rfl) (by kernel_rfl)) (by kernel_rfl)) (by kernel_rfl)) (by kernel_rfl), rfl, H⟩ (sub_put (by exact rfl) (sub_nil _))
        · replace H := ite_f q13 H
          refine cs_know (c := false) (dec_f q13) 35 (by kernel_rfl) ?_
          refine cs_false (by kernel_rfl) ?_
          refine cs_exit' ?_
          refine qx_then ?_
          refine qx_then ?_
          refine qx_same ?_
          refine qn_then ?_
          refine cs_seq ?_
          refine cs_region (l := [_, _, _, _, _, _, _]) ?_
          refine ls_val (v := .slice A0 l0.length c0) rfl rfl (by kernel_rfl) (fun w => by kernel_rfl) ?_
          refine ls_val (v := .int .i64 t2) rfl rfl (by kernel_rfl) (fun w => by kernel_rfl) ?_
          refine ls_val (v := .int .i64 x6_2) rfl rfl (by kernel_rfl) (fun w => by kernel_rfl) ?_
          refine ls_loadagg (a := ⟨g1, 0, none⟩) (sub := ([Value.int .i64 m0_2.1] ++ [Value.int .i64 m0_2.2])) rfl rfl (by kernel_rfl) rfl (by kernel_rfl) (by kernel_rfl) (by kernel_rfl) (len_app (len1 _) (len1 _)) (fun w hs => (hs.vars (k := 0) (by exact rfl) (Sub4.all _))) ?_
          refine ls_lit T24 97 rfl rfl (by kernel_rfl) ([m0_2]) (by exact of_decide_eq_true (by kernel_rfl)) (fun w => by kernel_rfl) ?_
          intro g24
          obtain ⟨t25, hc26, H⟩ := bind_some H
          refine ls_callb (fid := 44) (vals := #[.slice A0 l0.length c0, .int .i64 t2, .int .i64 x6_2, .slice (some ⟨g24, 0, none⟩) ([m0_2]).length [m0_2].length]) (X := (Option Addr × Nat)) (fun x => .slice x.1 t25.length x.2) (fun x => stl [Ck.sl T24 x.1 x.2 t25]) [] [97] [] [Ck.sl T24 (some ⟨g24, 0, none⟩) ([m0_2].length) ([m0_2])] 98 rfl rfl (by kernel_rfl) (fun w => by kernel_rfl) trivial ⟨by exact rfl, trivial⟩ (by decide) (fun w hs hb => extent_replace_44.calls k2 A0 c0 l0 t2 x6_2 (some ⟨g24, 0, none⟩) ([m0_2].length) ([m0_2]) t25 (lent b w [] [Ck.sl T24 (some ⟨g24, 0, none⟩) ([m0_2].length) ([m0_2])]) hb (hs.ro R0 _ _) C0 (hs.ror (k := 97) (by exact rfl) (.head _)) (hs.cap (k := 97) (by exact rfl)) hc26) ?_
          intro x27
          refine ls_val (v := .slice x27.1 t25.length x27.2) rfl rfl (by kernel_rfl) (fun w => by kernel_rfl) ?_
          refine ls_end ?_
          refine qn_then ?_
          refine cs_ret' ?_
          obtain rfl := Option.some.inj H
          refine qr_res (rs := [_]) rfl (fun w' hs => ⟨[.slice x27.1 t25.length x27.2], (res_tmp (by kernel_rfl) (.nil)), (x27.1, x27.2), rfl, hs.pick (ts := [98]) (cs := [Ck.sl T24 x27.1 x27.2 t25]) ⟨by exact rfl, trivial⟩ (by decide)⟩)
      · replace H := ite_f q7 H
        refine cs_draw extent_Add.tab4 12 1 (spl [s6_0, s6_1, s6_2, s6_3, s6_4, spu, spu, spu, spu, spu, spu, spu]) (onl [true, true, true, true, true, false, false, false, false, false, false, false]) (by kernel_rfl) (by kernel_rfl) (by kernel_rfl) (by kernel_rfl) (rs := [_, _]) rfl (by kernel_rfl) (by kernel_rfl) (all_snoc (all_snoc (all_snoc (all_snoc (all_snoc (all_snoc (all_snoc (all_snoc (all_snoc (all_snoc (all_snoc (all_snoc (all_nil) (ops6_0 _ _ rfl rfl)) (ops6_1 _ _ rfl rfl)) (ops6_2 _ _ ⟨rfl, rfl⟩ rfl)) (ops6_3 _ _ ⟨rfl, rfl, rfl⟩ rfl)) (ops6_4 _ _ ⟨rfl, rfl⟩ rfl)) (op_offi 5 4 26 true rfl rfl (by kernel_rfl) (by kernel_rfl) rfl (fun v R h => by rw [hs6_4] at h; obtain ⟨h, _⟩ := h; exact h.trans (congrArg Value.bool (show (decide (x6_2 < (l0.length : Int))) = false from dec_f q7))) rfl rfl)) (op_offi 6 4 26 true rfl rfl (by kernel_rfl) (by kernel_rfl) rfl (fun v R h => by rw [hs6_4] at h; obtain ⟨h, _⟩ := h; exact h.trans (congrArg Value.bool (show (decide (x6_2 < (l0.length : Int))) = false from dec_f q7))) rfl rfl)) (op_offi 7 4 26 true rfl rfl (by kernel_rfl) (by kernel_rfl) rfl (fun v R h => by rw [hs6_4] at h; obtain ⟨h, _⟩ := h; exact h.trans (congrArg Value.bool (show (decide (x6_2 < (l0.length : Int))) = false from dec_f q7))) rfl rfl)) (op_offi 8 4 26 true rfl rfl (by kernel_rfl) (by kernel_rfl) rfl (fun v R h => by rw [hs6_4] at h; obtain ⟨h, _⟩ := h; exact h.trans (congrArg Value.bool (show (decide (x6_2 < (l0.length : Int))) = false from dec_f q7))) rfl rfl)) (op_offi 9 4 26 true rfl rfl (by kernel_rfl) (by kernel_rfl) rfl (fun v R h => by rw [hs6_4] at h; obtain ⟨h, _⟩ := h; exact h.trans (congrArg Value.bool (show (decide (x6_2 < (l0.length : Int))) = false from dec_f q7))) rfl rfl)) (op_offi 10 4 26 true rfl rfl (by kernel_rfl) (by kernel_rfl) rfl (fun v R h => by rw [hs6_4] at h; obtain ⟨h, _⟩ := h; exact h.trans (congrArg Value.bool (show (decide (x6_2 < (l0.length : Int))) = false from dec_f q7))) rfl rfl)) (op_offi 11 4 26 true rfl rfl (by kernel_rfl) (by kernel_rfl) rfl (fun v R h => by rw [hs6_4] at h; obtain ⟨h, _⟩ := h; exact h.trans (congrArg Value.bool (show (decide (x6_2 < (l0.length : Int))) = false from dec_f q7))) rfl rfl)) ?_
        intro vs Rs f' S' hp hf hx hS hR
        obtain ⟨hv4, hR4⟩ := (spe rfl hs6_4 (hp 4 (by kernel_rfl)))
        obtain ⟨hv9, hR9⟩ := (spe rfl rfl (hp 9 (by kernel_rfl)) : spu _ _)
        obtain ⟨hv11, hR11⟩ := (spe rfl rfl (hp 11 (by kernel_rfl)) : spu _ _)
        refine ls_fr (F := upd (upd (upd (upd (upd f' 0 (.slice A0 l0.length c0)) 3 (.pointer (some ⟨g1, 0, none⟩))) 5 (.int .i64 t2)) 6 (.int .i64 x6_2)) 26 (.bool (decide (x6_2 < (l0.length : Int))))) (fr_next (fr_next (fr_next (fr_next (fr_next (rfl) ((hx 0 (by kernel_rfl)).trans (by kernel_rfl : (_ : Value) = .slice A0 l0.length c0))) ((hx 3 (by kernel_rfl)).trans (by kernel_rfl : (_ : Value) = .pointer (some ⟨g1, 0, none⟩)))) ((hx 5 (by kernel_rfl)).trans (by kernel_rfl : (_ : Value) = .int .i64 t2))) ((hx 6 (by kernel_rfl)).trans (by kernel_rfl : (_ : Value) = .int .i64 x6_2))) ((hf 4 26 (by kernel_rfl) rfl).trans hv4)) ?_
        refine ls_sub (sput s0 0 (some (Ck.var 24 g1 (([Value.int .i64 m0_2.1] ++ [Value.int .i64 m0_2.2]))))) (sub_put ((hS 0 (by kernel_rfl)).trans (by exact rfl)) (sub_nil _)) ?_
        refine ls_know (c := false) (dec_f q7) 26 (by kernel_rfl) ?_
        refine ls_off (j := 4) (t := 26) (b := true) (c := false) rfl rfl (by kernel_rfl) (by kernel_rfl) rfl rfl (by kernel_rfl) ?_
        refine ls_val (v := .bool false) rfl rfl (by kernel_rfl) (fun w => by kernel_rfl) ?_
        refine ls_end ?_
        refine qn_then ?_
        refine cs_false (by kernel_rfl) ?_
        refine cs_exit' ?_
        refine qx_then ?_
        refine qx_then ?_
        refine qx_same ?_
        refine qn_then ?_
        refine cs_seq ?_
        refine cs_region (l := [_, _, _, _, _, _, _]) ?_
        refine ls_val (v := .slice A0 l0.length c0) rfl rfl (by kernel_rfl) (fun w => by kernel_rfl) ?_
        refine ls_val (v := .int .i64 t2) rfl rfl (by kernel_rfl) (fun w => by kernel_rfl) ?_
        refine ls_val (v := .int .i64 x6_2) rfl rfl (by kernel_rfl) (fun w => by kernel_rfl) ?_
        refine ls_loadagg (a := ⟨g1, 0, none⟩) (sub := ([Value.int .i64 m0_2.1] ++ [Value.int .i64 m0_2.2])) rfl rfl (by kernel_rfl) rfl (by kernel_rfl) (by kernel_rfl) (by kernel_rfl) (len_app (len1 _) (len1 _)) (fun w hs => (hs.vars (k := 0) (by exact rfl) (Sub4.all _))) ?_
        refine ls_lit T24 97 rfl rfl (by kernel_rfl) ([m0_2]) (by exact of_decide_eq_true (by kernel_rfl)) (fun w => by kernel_rfl) ?_
        intro g28
        obtain ⟨t29, hc30, H⟩ := bind_some H
        refine ls_callb (fid := 44) (vals := #[.slice A0 l0.length c0, .int .i64 t2, .int .i64 x6_2, .slice (some ⟨g28, 0, none⟩) ([m0_2]).length [m0_2].length]) (X := (Option Addr × Nat)) (fun x => .slice x.1 t29.length x.2) (fun x => stl [Ck.sl T24 x.1 x.2 t29]) [] [97] [] [Ck.sl T24 (some ⟨g28, 0, none⟩) ([m0_2].length) ([m0_2])] 98 rfl rfl (by kernel_rfl) (fun w => by kernel_rfl) trivial ⟨by exact rfl, trivial⟩ (by decide) (fun w hs hb => extent_replace_44.calls k2 A0 c0 l0 t2 x6_2 (some ⟨g28, 0, none⟩) ([m0_2].length) ([m0_2]) t29 (lent b w [] [Ck.sl T24 (some ⟨g28, 0, none⟩) ([m0_2].length) ([m0_2])]) hb (hs.ro R0 _ _) C0 (hs.ror (k := 97) (by exact rfl) (.head _)) (hs.cap (k := 97) (by exact rfl)) hc30) ?_
        intro x31
        refine ls_val (v := .slice x31.1 t29.length x31.2) rfl rfl (by kernel_rfl) (fun w => by kernel_rfl) ?_
        refine ls_end ?_
        refine qn_then ?_
        refine cs_ret' ?_
        obtain rfl := Option.some.inj H
        refine qr_res (rs := [_]) rfl (fun w' hs => ⟨[.slice x31.1 t29.length x31.2], (res_tmp (by kernel_rfl) (.nil)), (x31.1, x31.2), rfl, hs.pick (ts := [98]) (cs := [Ck.sl T24 x31.1 x31.2 t29]) ⟨by exact rfl, trivial⟩ (by decide)⟩)

/-! ### shadowbox/alloc.New: function 27 -/
def alloc_New.f (k : Nat) (a0 : Int) (a1 : Int) (a2 : Int) : Option ((((Int × Int) × Bool × Int × (List (Int × Int)) × Unit × (List (Int × Int))) × (Bool × (List (Int × Int)))) × Int) :=
  (if a0 < (0 : Int) then none else (if a1 < a0 then none else (if a1 > (8192 : Int) then none else (if a2 < (0 : Int) then none else (if a2 > (IntKind.wrap .i64 (a1 - a0)) then none else (extent_Add.f k ([] : List (Int × Int)) (a0, a1)).bind fun t7 => some ((((a0, a1), true, a2, t7, (), t7), (false, ([] : List (Int × Int)))), (0 : Int)))))))
set_option maxRecDepth 100000 in
set_option maxHeartbeats 4000000 in
theorem alloc_New.calls (k : Nat) (a0 : Int) (a1 : Int) (a2 : Int) (r : (((Int × Int) × Bool × Int × (List (Int × Int)) × Unit × (List (Int × Int))) × (Bool × (List (Int × Int)))) × Int) (b : Bs) (hs0 : St b (stl []) b.w) (H : alloc_New.f k a0 a1 a2 = some r) :
    Calls Try.prog 27 #[.int .i64 a0, .int .i64 a1, .int .i64 a2] b.w fun e w' => ∃ b', b.le b' ∧ ∃ x : Nat × (Option Addr × Nat) × (Option Addr × Nat) × Nat × (Option Addr × Nat), e = .returned (.tuple #[.pointer (some ⟨x.1, 0, none⟩), .int .i64 r.2]) ∧ ((Ro b' x.2.1.1 (em T24 r.1.1.2.2.2.1) ∧ r.1.1.2.2.2.1.length ≤ x.2.1.2) ∧ (Ro b' x.2.2.1.1 (em T24 r.1.1.2.2.2.2.2) ∧ r.1.1.2.2.2.2.2.length ≤ x.2.2.1.2)) ∧ St b' (stl [Ck.var 66 x.1 ((([Value.int .i64 r.1.1.1.1] ++ [Value.int .i64 r.1.1.1.2]) ++ ([Value.bool r.1.1.2.1] ++ ([Value.int .i64 r.1.1.2.2.1] ++ ([Value.slice x.2.1.1 r.1.1.2.2.2.1.length x.2.1.2] ++ ([Value.map (some x.2.2.2.1)] ++ [Value.slice x.2.2.1.1 r.1.1.2.2.2.2.2.length x.2.2.1.2])))))), Ck.m1 x.2.2.2.1 r.1.2.1 x.2.2.2.2.1 r.1.2.2.length x.2.2.2.2.2, Ck.sl T24 x.2.2.2.2.1 x.2.2.2.2.2 r.1.2.2]) w' := by
  unfold alloc_New.f at H
  refine enterb (n := 44) Try.func27 rfl (by kernel_rfl) (by kernel_rfl) hs0 ?_
  refine cs_sub (s0) (sub_nil _) ?_
  refine cs_seq ?_
  refine cs_region (l := [_, _]) ?_
  refine ls_val (v := .pointer none) rfl rfl (by kernel_rfl) (fun w => by kernel_rfl) ?_
  refine ls_val (v := .int .i64 (0 : Int)) rfl rfl (by kernel_rfl) (fun w => by kernel_rfl) ?_
  refine ls_end ?_
  refine qn_then ?_
  refine cs_seq ?_
  refine cs_seq ?_
  refine cs_region (l := [_, _, _, _, _, _, _, _, _, _, _, _, _, _, _, _, _, _, _, _, _, _]) ?_
  refine ls_val (v := .int .i64 a0) rfl rfl (by kernel_rfl) (fun w => by kernel_rfl) ?_
  refine ls_val (v := .bool (decide (a0 < (0 : Int)))) rfl rfl (by kernel_rfl) (fun w => by kernel_rfl) ?_
  refine ls_val (v := .bool (decide (a0 < (0 : Int)))) rfl rfl (by kernel_rfl) (fun w => by kernel_rfl) ?_
  by_cases q1 : a0 < (0 : Int)
  · replace H := ite_t q1 H
    refine ls_know (c := true) (dec_t q1) 12 (by kernel_rfl) ?_
    refine ls_off (j := 2) (t := 12) (b := false) (c := true) rfl rfl (by kernel_rfl) (by kernel_rfl) rfl rfl (by kernel_rfl) ?_
    refine ls_off (j := 2) (t := 12) (b := false) (c := true) rfl rfl (by kernel_rfl) (by kernel_rfl) rfl rfl (by kernel_rfl) ?_
    refine ls_off (j := 2) (t := 12) (b := false) (c := true) rfl rfl (by kernel_rfl) (by kernel_rfl) rfl rfl (by kernel_rfl) ?_
    refine ls_val (v := .bool true) rfl rfl (by kernel_rfl) (fun w => by kernel_rfl) ?_
    refine ls_val (v := .bool true) rfl rfl (by kernel_rfl) (fun w => by kernel_rfl) ?_
    refine ls_off (j := 7) (t := 17) (b := false) (c := true) rfl rfl (by kernel_rfl) (by kernel_rfl) rfl rfl (by kernel_rfl) ?_
    refine ls_off (j := 7) (t := 17) (b := false) (c := true) rfl rfl (by kernel_rfl) (by kernel_rfl) rfl rfl (by kernel_rfl) ?_
    refine ls_val (v := .bool true) rfl rfl (by kernel_rfl) (fun w => by kernel_rfl) ?_
    refine ls_val (v := .bool true) rfl rfl (by kernel_rfl) (fun w => by kernel_rfl) ?_
    refine ls_off (j := 11) (t := 21) (b := false) (c := true) rfl rfl (by kernel_rfl) (by kernel_rfl) rfl rfl (by kernel_rfl) ?_
    refine ls_off (j := 11) (t := 21) (b := false) (c := true) rfl rfl (by kernel_rfl) (by kernel_rfl) rfl rfl (by kernel_rfl) ?_
    refine ls_val (v := .bool true) rfl rfl (by kernel_rfl) (fun w => by kernel_rfl) ?_
    refine ls_val (v := .bool true) rfl rfl (by kernel_rfl) (fun w => by kernel_rfl) ?_
    refine ls_off (j := 15) (t := 25) (b := false) (c := true) rfl rfl (by kernel_rfl) (by kernel_rfl) rfl rfl (by kernel_rfl) ?_
    refine ls_off (j := 15) (t := 25) (b := false) (c := true) rfl rfl (by kernel_rfl) (by kernel_rfl) rfl rfl (by kernel_rfl) ?_
    refine ls_off (j := 15) (t := 25) (b := false) (c := true) rfl rfl (by kernel_rfl) (by kernel_rfl) rfl rfl (by kernel_rfl) ?_
    refine ls_off (j := 15) (t := 25) (b := false) (c := true) rfl rfl (by kernel_rfl) (by kernel_rfl) rfl rfl (by kernel_rfl) ?_
    refine ls_off (j := 15) (t := 25) (b := false) (c := true) rfl rfl (by kernel_rfl) (by kernel_rfl) rfl rfl (by kernel_rfl) ?_
    refine ls_val (v := .bool true) rfl rfl (by kernel_rfl) (fun w => by kernel_rfl) ?_
    refine ls_end ?_
    refine qn_then ?_
    refine cs_true (by kernel_rfl) ?_
    refine cs_seq ?_
    refine cs_region (l := [_, _]) ?_
    refine ls_val (v := .pointer none) rfl rfl (by kernel_rfl) (fun w => by kernel_rfl) ?_
    refine ls_val (v := .int .i64 (2 : Int)) rfl rfl (by kernel_rfl) (fun w => by kernel_rfl) ?_
    refine ls_end ?_
    refine qn_then ?_
    cases H
  · replace H := ite_f q1 H
    refine ls_know (c := false) (dec_f q1) 12 (by kernel_rfl) ?_
    refine ls_on (j := 2) (t := 12) (b := false) rfl rfl (by kernel_rfl) (by kernel_rfl) ?_
    refine ls_val (v := .int .i64 a1) rfl rfl (by kernel_rfl) (fun w => by kernel_rfl) ?_
    refine ls_on (j := 2) (t := 12) (b := false) rfl rfl (by kernel_rfl) (by kernel_rfl) ?_
    refine ls_val (v := .int .i64 a0) rfl rfl (by kernel_rfl) (fun w => by kernel_rfl) ?_
    refine ls_on (j := 2) (t := 12) (b := false) rfl rfl (by kernel_rfl) (by kernel_rfl) ?_
    refine ls_val (v := .bool (decide (a1 < a0))) rfl rfl (by kernel_rfl) (fun w => by kernel_rfl) ?_
    refine ls_val (v := .bool (decide (a1 < a0))) rfl rfl (by kernel_rfl) (fun w => by kernel_rfl) ?_
    refine ls_val (v := .bool (decide (a1 < a0))) rfl rfl (by kernel_rfl) (fun w => by kernel_rfl) ?_
    by_cases q2 : a1 < a0
    · replace H := ite_t q2 H
      refine ls_know (c := true) (dec_t q2) 17 (by kernel_rfl) ?_
      refine ls_off (j := 7) (t := 17) (b := false) (c := true) rfl rfl (by kernel_rfl) (by kernel_rfl) rfl rfl (by kernel_rfl) ?_
      refine ls_off (j := 7) (t := 17) (b := false) (c := true) rfl rfl (by kernel_rfl) (by kernel_rfl) rfl rfl (by kernel_rfl) ?_
      refine ls_val (v := .bool true) rfl rfl (by kernel_rfl) (fun w => by kernel_rfl) ?_
      refine ls_val (v := .bool true) rfl rfl (by kernel_rfl) (fun w => by kernel_rfl) ?_
      refine ls_off (j := 11) (t := 21) (b := false) (c := true) rfl rfl (by kernel_rfl) (by kernel_rfl) rfl rfl (by kernel_rfl) ?_
      refine ls_off (j := 11) (t := 21) (b := false) (c := true) rfl rfl (by kernel_rfl) (by kernel_rfl) rfl rfl (by kernel_rfl) ?_
      refine ls_val (v := .bool true) rfl rfl (by kernel_rfl) (fun w => by kernel_rfl) ?_
      refine ls_val (v := .bool true) rfl rfl (by kernel_rfl) (fun w => by kernel_rfl) ?_
      refine ls_off (j := 15) (t := 25) (b := false) (c := true) rfl rfl (by kernel_rfl) (by kernel_rfl) rfl rfl (by kernel_rfl) ?_
      refine ls_off (j := 15) (t := 25) (b := false) (c := true) rfl rfl (by kernel_rfl) (by kernel_rfl) rfl rfl (by kernel_rfl) ?_
      refine ls_off (j := 15) (t := 25) (b := false) (c := true) rfl rfl (by kernel_rfl) (by kernel_rfl) rfl rfl (by kernel_rfl) ?_
      refine ls_off (j := 15) (t := 25) (b := false) (c := true) rfl rfl (by kernel_rfl) (by kernel_rfl) rfl rfl (by kernel_rfl) ?_
      refine ls_off (j := 15) (t := 25) (b := false) (c := true) rfl rfl (by kernel_rfl) (by kernel_rfl) rfl rfl (by kernel_rfl) ?_
      refine ls_val (v := .bool true) rfl rfl (by kernel_rfl) (fun w => by kernel_rfl) ?_
      refine ls_end ?_
      refine qn_then ?_
      refine cs_true (by kernel_rfl) ?_
      refine cs_seq ?_
      refine cs_region (l := [_, _]) ?_
      refine ls_val (v := .pointer none) rfl rfl (by kernel_rfl) (fun w => by kernel_rfl) ?_
      refine ls_val (v := .int .i64 (2 : Int)) rfl rfl (by kernel_rfl) (fun w => by kernel_rfl) ?_
      refine ls_end ?_
      refine qn_then ?_
      cases H
    · replace H := ite_f q2 H
      refine ls_know (c := false) (dec_f q2) 17 (by kernel_rfl) ?_
      refine ls_on (j := 7) (t := 17) (b := false) rfl rfl (by kernel_rfl) (by kernel_rfl) ?_
      refine ls_val (v := .int .i64 a1) rfl rfl (by kernel_rfl) (fun w => by kernel_rfl) ?_
      refine ls_on (j := 7) (t := 17) (b := false) rfl rfl (by kernel_rfl) (by kernel_rfl) ?_
      refine ls_val (v := .bool (decide (a1 > (8192 : Int)))) rfl rfl (by kernel_rfl) (fun w => by kernel_rfl) ?_
      refine ls_val (v := .bool (decide (a1 > (8192 : Int)))) rfl rfl (by kernel_rfl) (fun w => by kernel_rfl) ?_
      refine ls_val (v := .bool (decide (a1 > (8192 : Int)))) rfl rfl (by kernel_rfl) (fun w => by kernel_rfl) ?_
      by_cases q3 : a1 > (8192 : Int)
      · replace H := ite_t q3 H
        refine ls_know (c := true) (dec_t q3) 21 (by kernel_rfl) ?_
        refine ls_off (j := 11) (t := 21) (b := false) (c := true) rfl rfl (by kernel_rfl) (by kernel_rfl) rfl rfl (by kernel_rfl) ?_
        refine ls_off (j := 11) (t := 21) (b := false) (c := true) rfl rfl (by kernel_rfl) (by kernel_rfl) rfl rfl (by kernel_rfl) ?_
        refine ls_val (v := .bool true) rfl rfl (by kernel_rfl) (fun w => by kernel_rfl) ?_
        refine ls_val (v := .bool true) rfl rfl (by kernel_rfl) (fun w => by kernel_rfl) ?_
        refine ls_off (j := 15) (t := 25) (b := false) (c := true) rfl rfl (by kernel_rfl) (by kernel_rfl) rfl rfl (by kernel_rfl) ?_
        refine ls_off (j := 15) (t := 25) (b := false) (c := true) rfl rfl (by kernel_rfl) (by kernel_rfl) rfl rfl (by kernel_rfl) ?_
        refine ls_off (j := 15) (t := 25) (b := false) (c := true) rfl rfl (by kernel_rfl) (by kernel_rfl) rfl rfl (by kernel_rfl) ?_
        refine ls_off (j := 15) (t := 25) (b := false) (c := true) rfl rfl (by kernel_rfl) (by kernel_rfl) rfl rfl (by kernel_rfl) ?_
        refine ls_off (j := 15) (t := 25) (b := false) (c := true) rfl rfl (by kernel_rfl) (by kernel_rfl) rfl rfl (by kernel_rfl) ?_
        refine ls_val (v := .bool true) rfl rfl (by kernel_rfl) (fun w => by kernel_rfl) ?_
        refine ls_end ?_
        refine qn_then ?_
        refine cs_true (by kernel_rfl) ?_
        refine cs_seq ?_
        refine cs_region (l := [_, _]) ?_
        refine ls_val (v := .pointer none) rfl rfl (by kernel_rfl) (fun w => by kernel_rfl) ?_
        refine ls_val (v := .int .i64 (2 : Int)) rfl rfl (by kernel_rfl) (fun w => by kernel_rfl) ?_
        refine ls_end ?_
        refine qn_then ?_
        cases H
      · replace H := ite_f q3 H
        refine ls_know (c := false) (dec_f q3) 21 (by kernel_rfl) ?_
        refine ls_on (j := 11) (t := 21) (b := false) rfl rfl (by kernel_rfl) (by kernel_rfl) ?_
        refine ls_val (v := .int .i64 a2) rfl rfl (by kernel_rfl) (fun w => by kernel_rfl) ?_
        refine ls_on (j := 11) (t := 21) (b := false) rfl rfl (by kernel_rfl) (by kernel_rfl) ?_
        refine ls_val (v := .bool (decide (a2 < (0 : Int)))) rfl rfl (by kernel_rfl) (fun w => by kernel_rfl) ?_
        refine ls_val (v := .bool (decide (a2 < (0 : Int)))) rfl rfl (by kernel_rfl) (fun w => by kernel_rfl) ?_
        refine ls_val (v := .bool (decide (a2 < (0 : Int)))) rfl rfl (by kernel_rfl) (fun w => by kernel_rfl) ?_
        by_cases q4 : a2 < (0 : Int)
        · replace H := ite_t q4 H
          refine ls_know (c := true) (dec_t q4) 25 (by kernel_rfl) ?_
          refine ls_off (j := 15) (t := 25) (b := false) (c := true) rfl rfl (by kernel_rfl) (by kernel_rfl) rfl rfl (by kernel_rfl) ?_
          refine ls_off (j := 15) (t := 25) (b := false) (c := true) rfl rfl (by kernel_rfl) (by kernel_rfl) rfl rfl (by kernel_rfl) ?_
          refine ls_off (j := 15) (t := 25) (b := false) (c := true) rfl rfl (by kernel_rfl) (by kernel_rfl) rfl rfl (by kernel_rfl) ?_
          refine ls_off (j := 15) (t := 25) (b := false) (c := true) rfl rfl (by kernel_rfl) (by kernel_rfl) rfl rfl (by kernel_rfl) ?_
          refine ls_off (j := 15) (t := 25) (b := false) (c := true) rfl rfl (by kernel_rfl) (by kernel_rfl) rfl rfl (by kernel_rfl) ?_
          refine ls_val (v := .bool true) rfl rfl (by kernel_rfl) (fun w => by kernel_rfl) ?_
          refine ls_end ?_
          refine qn_then ?_
          refine cs_true (by kernel_rfl) ?_
          refine cs_seq ?_
          refine cs_region (l := [_, _]) ?_
          refine ls_val (v := .pointer none) rfl rfl (by kernel_rfl) (fun w => by kernel_rfl) ?_
          refine ls_val (v := .int .i64 (2 : Int)) rfl rfl (by kernel_rfl) (fun w => by kernel_rfl) ?_
          refine ls_end ?_
          refine qn_then ?_
          cases H
        · replace H := ite_f q4 H
          refine ls_know (c := false) (dec_f q4) 25 (by kernel_rfl) ?_
          refine ls_on (j := 15) (t := 25) (b := false) rfl rfl (by kernel_rfl) (by kernel_rfl) ?_
          refine ls_val (v := .int .i64 a2) rfl rfl (by kernel_rfl) (fun w => by kernel_rfl) ?_
          refine ls_on (j := 15) (t := 25) (b := false) rfl rfl (by kernel_rfl) (by kernel_rfl) ?_
          refine ls_val (v := .int .i64 a1) rfl rfl (by kernel_rfl) (fun w => by kernel_rfl) ?_
          refine ls_on (j := 15) (t := 25) (b := false) rfl rfl (by kernel_rfl) (by kernel_rfl) ?_
          refine ls_val (v := .int .i64 a0) rfl rfl (by kernel_rfl) (fun w => by kernel_rfl) ?_
          refine ls_on (j := 15) (t := 25) (b := false) rfl rfl (by kernel_rfl) (by kernel_rfl) ?_
          refine ls_val (v := .int .i64 (IntKind.wrap .i64 (a1 - a0))) rfl rfl (by kernel_rfl) (fun w => by kernel_rfl) ?_
          refine ls_on (j := 15) (t := 25) (b := false) rfl rfl (by kernel_rfl) (by kernel_rfl) ?_
          refine ls_val (v := .bool (decide (a2 > (IntKind.wrap .i64 (a1 - a0))))) rfl rfl (by kernel_rfl) (fun w => by kernel_rfl) ?_
          refine ls_val (v := .bool (decide (a2 > (IntKind.wrap .i64 (a1 - a0))))) rfl rfl (by kernel_rfl) (fun w => by kernel_rfl) ?_
          refine ls_end ?_
          refine qn_then ?_
          by_cases q5 : a2 > (IntKind.wrap .i64 (a1 - a0))
          · replace H := ite_t q5 H
            refine cs_know (c := true) (dec_t q5) 31 (by kernel_rfl) ?_
            refine cs_true (by kernel_rfl) ?_
            refine cs_seq ?_
            refine cs_region (l := [_, _]) ?_
            refine ls_val (v := .pointer none) rfl rfl (by kernel_rfl) (fun w => by kernel_rfl) ?_
            refine ls_val (v := .int .i64 (2 : Int)) rfl rfl (by kernel_rfl) (fun w => by kernel_rfl) ?_
            refine ls_end ?_
            refine qn_then ?_
            cases H
          · replace H := ite_f q5 H
            refine cs_know (c := false) (dec_f q5) 31 (by kernel_rfl) ?_
            refine cs_false (by kernel_rfl) ?_
            refine cs_skip' ?_
            refine qn_then ?_
            refine cs_seq ?_
            refine cs_region (l := [_, _, _, _, _]) ?_
            refine ls_val (v := .int .i64 a0) rfl rfl (by kernel_rfl) (fun w => by kernel_rfl) ?_
            refine ls_val (v := .int .i64 a1) rfl rfl (by kernel_rfl) (fun w => by kernel_rfl) ?_
            refine ls_val (v := .agg ⟨([Value.int .i64 a0] ++ [Value.int .i64 a1])⟩) rfl rfl (by kernel_rfl) (fun w => by kernel_rfl) ?_
            refine ls_new rfl rfl (by kernel_rfl) 0 (fun g => .pointer (some ⟨g, 0, none⟩)) (.cells ⟨([Value.int .i64 (0 : Int)] ++ [Value.int .i64 (0 : Int)])⟩ 24) (fun w => by kernel_rfl) ?_
            intro g6
            refine ls_storec (g := g6) (off := 0) (v := .agg ⟨([Value.int .i64 a0] ++ [Value.int .i64 a1])⟩) (vs := ([Value.int .i64 a0] ++ [Value.int .i64 a1])) (cs := ([Value.int .i64 (0 : Int)] ++ [Value.int .i64 (0 : Int)])) (ty := 24) 0 rfl rfl rfl (by kernel_rfl) (by kernel_rfl) (by kernel_rfl) (by exact rfl) (by kernel_rfl) (len_app (len1 _) (len1 _)) (one_app (one_cons rfl one_nil) (one_cons rfl one_nil)) (hl_of (Sub4.all _) (len_eq (len_app (len1 _) (len1 _)) (len_app (len1 _) (len1 _)))) (cs' := ([Value.int .i64 a0] ++ [Value.int .i64 a1])) (splc_all (len_eq (len_app (len1 _) (len1 _)) (len_app (len1 _) (len1 _)))) ?_
            refine ls_end ?_
            refine qn_then ?_
            refine cs_seq ?_
            refine cs_region (l := [_, _, _]) ?_
            refine ls_loadagg (a := ⟨g6, 0, none⟩) (sub := ([Value.int .i64 a0] ++ [Value.int .i64 a1])) rfl rfl (by kernel_rfl) rfl (by kernel_rfl) (by kernel_rfl) (by kernel_rfl) (len_app (len1 _) (len1 _)) (fun w hs => (hs.vars (k := 0) (by exact rfl) (Sub4.all _))) ?_
            obtain ⟨t7, hc8, H⟩ := bind_some H
            refine ls_callb (fid := 13) (vals := #[.slice none ([] : List (Int × Int)).length 0, .agg ⟨([Value.int .i64 a0] ++ [Value.int .i64 a1])⟩]) (X := (Option Addr × Nat)) (fun x => .slice x.1 t7.length x.2) (fun x => stl [Ck.sl T24 x.1 x.2 t7]) [] [] [] [] 1 rfl rfl (by kernel_rfl) (fun w => by kernel_rfl) trivial trivial (by decide) (fun w hs hb => extent_Add.calls k none 0 ([] : List (Int × Int)) (a0, a1) t7 (lent b w [] []) hb (Ro.nil _ _) (Nat.le_refl 0) hc8) ?_
            intro x9
            refine ls_val (v := .slice x9.1 t7.length x9.2) rfl rfl (by kernel_rfl) (fun w => by kernel_rfl) ?_
            refine ls_end ?_
            refine qn_then ?_
            refine cs_seq ?_
            refine cs_region (l := [_, _, _, _, _, _, _, _, _]) ?_
            refine ls_loadagg (a := ⟨g6, 0, none⟩) (sub := ([Value.int .i64 a0] ++ [Value.int .i64 a1])) rfl rfl (by kernel_rfl) rfl (by kernel_rfl) (by kernel_rfl) (by kernel_rfl) (len_app (len1 _) (len1 _)) (fun w hs => (hs.vars (k := 0) (by exact rfl) (Sub4.all _))) ?_
            refine ls_val (v := .int .i64 a2) rfl rfl (by kernel_rfl) (fun w => by kernel_rfl) ?_
            refine ls_val (v := .slice x9.1 t7.length x9.2) rfl rfl (by kernel_rfl) (fun w => by kernel_rfl) ?_
            refine ls_makem1 2 rfl rfl (by kernel_rfl) rfl ?_
            intro g10
            refine ls_val (v := .slice x9.1 t7.length x9.2) rfl rfl (by kernel_rfl) (fun w => by kernel_rfl) ?_
            refine ls_build (ps := [(0, .agg ⟨([Value.int .i64 a0] ++ [Value.int .i64 a1])⟩), (1, .bool true), (2, .int .i64 a2), (3, .slice x9.1 t7.length x9.2), (4, .map (some g10)), (5, .slice x9.1 t7.length x9.2)]) (pl := #[(0, 2), (2, 1), (3, 1), (4, 1), (5, 1), (6, 1)]) (zv := .agg ⟨(([Value.int .i64 (0 : Int)] ++ [Value.int .i64 (0 : Int)]) ++ ([Value.bool false] ++ ([Value.int .i64 (0 : Int)] ++ ([Value.slice none 0 0] ++ ([Value.map none] ++ [Value.slice none 0 0])))))⟩) (zc := (([Value.int .i64 (0 : Int)] ++ [Value.int .i64 (0 : Int)]) ++ ([Value.bool false] ++ ([Value.int .i64 (0 : Int)] ++ ([Value.slice none 0 0] ++ ([Value.map none] ++ [Value.slice none 0 0])))))) (r := (([Value.int .i64 a0] ++ [Value.int .i64 a1]) ++ ([Value.bool true] ++ ([Value.int .i64 a2] ++ ([Value.slice x9.1 t7.length x9.2] ++ ([Value.map (some g10)] ++ [Value.slice x9.1 t7.length x9.2])))))) rfl rfl (by kernel_rfl) rfl (by kernel_rfl) (by kernel_rfl) (fun w => by kernel_rfl) (fun w => by kernel_rfl) rfl (fill_cons (vs := ([Value.int .i64 a0] ++ [Value.int .i64 a1])) (cs' := (([Value.int .i64 a0] ++ [Value.int .i64 a1]) ++ ([Value.bool false] ++ ([Value.int .i64 (0 : Int)] ++ ([Value.slice none 0 0] ++ ([Value.map none] ++ [Value.slice none 0 0])))))) (off := 0) (size := 2) rfl (by kernel_rfl) (len_app (len1 _) (len1 _)) (le_of_len (len_app (len_app (len1 _) (len1 _)) (len_app (len1 _) (len_app (len1 _) (len_app (len1 _) (len_app (len1 _) (len1 _)))))) (by decide)) (splc_in (Sub4.all _) (splc_head (len_eq (len_app (len1 _) (len1 _)) (len_app (len1 _) (len1 _)))) (splc_all (len_eq (len_app (len_app (len1 _) (len1 _)) (len_app (len1 _) (len_app (len1 _) (len_app (len1 _) (len_app (len1 _) (len1 _)))))) (len_app (len_app (len1 _) (len1 _)) (len_app (len1 _) (len_app (len1 _) (len_app (len1 _) (len_app (len1 _) (len1 _)))))))) (hl_of (Sub4.head _ _) (len_eq (len_app (len1 _) (len1 _)) (len_app (len1 _) (len1 _))))) (fill_cons (vs := [Value.bool true]) (cs' := (([Value.int .i64 a0] ++ [Value.int .i64 a1]) ++ ([Value.bool true] ++ ([Value.int .i64 (0 : Int)] ++ ([Value.slice none 0 0] ++ ([Value.map none] ++ [Value.slice none 0 0])))))) (off := 2) (size := 1) rfl (by kernel_rfl) (len1 _) (le_of_len (len_app (len_app (len1 _) (len1 _)) (len_app (len1 _) (len_app (len1 _) (len_app (len1 _) (len_app (len1 _) (len1 _)))))) (by decide)) (splc_in (Sub4.all _) (splc_skip (n := 2) (len_app (len1 _) (len1 _)) (splc_head (len_eq (len1 _) (len1 _)))) (splc_all (len_eq (len_app (len_app (len1 _) (len1 _)) (len_app (len1 _) (len_app (len1 _) (len_app (len1 _) (len_app (len1 _) (len1 _)))))) (len_app (len_app (len1 _) (len1 _)) (len_app (len1 _) (len_app (len1 _) (len_app (len1 _) (len_app (len1 _) (len1 _)))))))) (hl_of (Sub4.skip (n := 2) (len_app (len1 _) (len1 _)) (Sub4.head _ _)) (len_eq (len1 _) (len1 _)))) (fill_cons (vs := [Value.int .i64 a2]) (cs' := (([Value.int .i64 a0] ++ [Value.int .i64 a1]) ++ ([Value.bool true] ++ ([Value.int .i64 a2] ++ ([Value.slice none 0 0] ++ ([Value.map none] ++ [Value.slice none 0 0])))))) (off := 3) (size := 1) rfl (by kernel_rfl) (len1 _) (le_of_len (len_app (len_app (len1 _) (len1 _)) (len_app (len1 _) (len_app (len1 _) (len_app (len1 _) (len_app (len1 _) (len1 _)))))) (by decide)) (splc_in (Sub4.all _) (splc_skip (n := 2) (len_app (len1 _) (len1 _)) (splc_skip (n := 1) (len1 _) (splc_head (len_eq (len1 _) (len1 _))))) (splc_all (len_eq (len_app (len_app (len1 _) (len1 _)) (len_app (len1 _) (len_app (len1 _) (len_app (len1 _) (len_app (len1 _) (len1 _)))))) (len_app (len_app (len1 _) (len1 _)) (len_app (len1 _) (len_app (len1 _) (len_app (len1 _) (len_app (len1 _) (len1 _)))))))) (hl_of (Sub4.skip (n := 2) (len_app (len1 _) (len1 _)) (Sub4.skip (n := 1) (len1 _) (Sub4.head _ _))) (len_eq (len1 _) (len1 _)))) (fill_cons (vs := [Value.slice x9.1 t7.length x9.2]) (cs' := (([Value.int .i64 a0] ++ [Value.int .i64 a1]) ++ ([Value.bool true] ++ ([Value.int .i64 a2] ++ ([Value.slice x9.1 t7.length x9.2] ++ ([Value.map none] ++ [Value.slice none 0 0])))))) (off := 4) (size := 1) rfl (by kernel_rfl) (len1 _) (le_of_len (len_app (len_app (len1 _) (len1 _)) (len_app (len1 _) (len_app (len1 _) (len_app (len1 _) (len_app (len1 _) (len1 _)))))) (by decide)) (splc_in (Sub4.all _) (splc_skip (n := 2) (len_app (len1 _) (len1 _)) (splc_skip (n := 1) (len1 _) (splc_skip (n := 1) (len1 _) (splc_head (len_eq (len1 _) (len1 _)))))) (splc_all (len_eq (len_app (len_app (len1 _) (len1 _)) (len_app (len1 _) (len_app (len1 _) (len_app (len1 _) (len_app (len1 _) (len1 _)))))) (len_app (len_app (len1 _) (len1 _)) (len_app (len1 _) (len_app (len1 _) (len_app (len1 _) (len_app (len1 _) (len1 _)))))))) (hl_of (Sub4.skip (n := 2) (len_app (len1 _) (len1 _)) (Sub4.skip (n := 1) (len1 _) (Sub4.skip (n := 1) (len1 _) (Sub4.head _ _)))) (len_eq (len1 _) (len1 _)))) (fill_cons (vs := [Value.map (some g10)]) (cs' := (([Value.int .i64 a0] ++ [Value.int .i64 a1]) ++ ([Value.bool true] ++ ([Value.int .i64 a2] ++ ([Value.slice x9.1 t7.length x9.2] ++ ([Value.map (some g10)] ++ [Value.slice none 0 0])))))) (off := 5) (size := 1) rfl (by kernel_rfl) (len1 _) (le_of_len (len_app (len_app (len1 _) (len1 _)) (len_app (len1 _) (len_app (len1 _) (len_app (len1 _) (len_app (len1 _) (len1 _)))))) (by decide)) (splc_in (Sub4.all _) (splc_skip (n := 2) (len_app (len1 _) (len1 _)) (splc_skip (n := 1) (len1 _) (splc_skip (n := 1) (len1 _) (splc_skip (n := 1) (len1 _) (splc_head (len_eq (len1 _) (len1 _))))))) (splc_all (len_eq (len_app (len_app (len1 _) (len1 _)) (len_app (len1 _) (len_app (len1 _) (len_app (len1 _) (len_app (len1 _) (len1 _)))))) (len_app (len_app (len1 _) (len1 _)) (len_app (len1 _) (len_app (len1 _) (len_app (len1 _) (len_app (len1 _) (len1 _)))))))) (hl_of (Sub4.skip (n := 2) (len_app (len1 _) (len1 _)) (Sub4.skip (n := 1) (len1 _) (Sub4.skip (n := 1) (len1 _) (Sub4.skip (n := 1) (len1 _) (Sub4.head _ _))))) (len_eq (len1 _) (len1 _)))) (fill_cons (vs := [Value.slice x9.1 t7.length x9.2]) (cs' := (([Value.int .i64 a0] ++ [Value.int .i64 a1]) ++ ([Value.bool true] ++ ([Value.int .i64 a2] ++ ([Value.slice x9.1 t7.length x9.2] ++ ([Value.map (some g10)] ++ [Value.slice x9.1 t7.length x9.2])))))) (off := 6) (size := 1) rfl (by kernel_rfl) (len1 _) (le_of_len (len_app (len_app (len1 _) (len1 _)) (len_app (len1 _) (len_app (len1 _) (len_app (len1 _) (len_app (len1 _) (len1 _)))))) (by decide)) (splc_in (Sub4.all _) (splc_skip (n := 2) (len_app (len1 _) (len1 _)) (splc_skip (n := 1) (len1 _) (splc_skip (n := 1) (len1 _) (splc_skip (n := 1) (len1 _) (splc_skip (n := 1) (len1 _) (splc_all (len_eq (len1 _) (len1 _)))))))) (splc_all (len_eq (len_app (len_app (len1 _) (len1 _)) (len_app (len1 _) (len_app (len1 _) (len_app (len1 _) (len_app (len1 _) (len1 _)))))) (len_app (len_app (len1 _) (len1 _)) (len_app (len1 _) (len_app (len1 _) (len_app (len1 _) (len_app (len1 _) (len1 _)))))))) (hl_of (Sub4.skip (n := 2) (len_app (len1 _) (len1 _)) (Sub4.skip (n := 1) (len1 _) (Sub4.skip (n := 1) (len1 _) (Sub4.skip (n := 1) (len1 _) (Sub4.skip (n := 1) (len1 _) (Sub4.all _)))))) (len_eq (len1 _) (len1 _)))) fill_nil)))))) ?_
            refine ls_new rfl rfl (by kernel_rfl) 3 (fun g => .pointer (some ⟨g, 0, none⟩)) (.cells ⟨(([Value.int .i64 a0] ++ [Value.int .i64 a1]) ++ ([Value.bool true] ++ ([Value.int .i64 a2] ++ ([Value.slice x9.1 t7.length x9.2] ++ ([Value.map (some g10)] ++ [Value.slice x9.1 t7.length x9.2])))))⟩ 66) (fun w => by kernel_rfl) ?_
            intro g11
            refine ls_val (v := .pointer (some ⟨g11, 0, none⟩)) rfl rfl (by kernel_rfl) (fun w => by kernel_rfl) ?_
            refine ls_val (v := .int .i64 (0 : Int)) rfl rfl (by kernel_rfl) (fun w => by kernel_rfl) ?_
            refine ls_end ?_
            refine qn_then ?_
            refine cs_ret' ?_
            refine qr_freeze (T := T24) (A := x9.1) (c := x9.2) (l := t7) 1 (by exact rfl) ?_
            intro bs12 hle13 hok14 fR15 fC16
            refine qr_nilrow 4 T24 ?_
            obtain rfl := Option.some.inj H
            refine qr_res (rs := [_, _]) rfl (fun w' hs => ⟨[.pointer (some ⟨g11, 0, none⟩), .int .i64 (0 : Int)], (res_tmp (by kernel_rfl) (res_tmp (by kernel_rfl) (.nil))), bs12, hle13, (g11, (x9.1, x9.2), (x9.1, x9.2), g10, (none, 0)), rfl, ⟨⟨fR15, fC16⟩, ⟨fR15, fC16⟩⟩, hs.pick (ts := [3, 2, 4]) (cs := [Ck.var 66 g11 ((([Value.int .i64 a0] ++ [Value.int .i64 a1]) ++ ([Value.bool true] ++ ([Value.int .i64 a2] ++ ([Value.slice x9.1 t7.length x9.2] ++ ([Value.map (some g10)] ++ [Value.slice x9.1 t7.length x9.2])))))), Ck.m1 g10 false none (([] : List (Int × Int)).length) 0, Ck.sl T24 none 0 ([] : List (Int × Int))]) ⟨by exact rfl, by exact rfl, by exact rfl, trivial⟩ (by decide)⟩)

/-! ### shadowbox/extent.Total: function 14 -/
def extent_Total.lo2 (l0 : List (Int × Int)) : Nat → Int → Int → Option (Int)
  | 0, _, _ => none
  | k2 + 1, x3_2, x11_2 => (if x11_2 < (l0.length : Int) then (if 0 ≤ x11_2 then lt (((l0).getD (x11_2).toNat ((0 : Int), (0 : Int))).2) fun y6 => lt (((l0).getD (x11_2).toNat ((0 : Int), (0 : Int))).1) fun y8 => lt (IntKind.wrap .i64 (x3_2 + (IntKind.wrap .i64 (y6 - y8)))) fun y10 => (extent_Total.lo2 l0 k2) y10 (IntKind.wrap .i64 (x11_2 + (1 : Int))) else none) else some x3_2)
def extent_Total.jo1 (k : Nat) (l0 : List (Int × Int)) : Option (Int) := extent_Total.lo2 l0 k (0 : Int) (0 : Int)
def extent_Total.f (k : Nat) (l0 : List (Int × Int)) : Option (Int) :=
  (extent_Valid.f k l0).bind fun t12 => (if t12 = true then (extent_Total.jo1 k l0) else some (0 : Int))
set_option maxRecDepth 100000 in
set_option maxHeartbeats 4000000 in
theorem extent_Total.calls (k : Nat) (A0 : Option Addr) (c0 : Nat) (l0 : List (Int × Int)) (r : Int) (b : Bs) (hs0 : St b (stl []) b.w) (R0 : Ro b A0 (em T24 l0)) (C0 : l0.length ≤ c0) (H : extent_Total.f k l0 = some r) :
    Calls Try.prog 14 #[.slice A0 l0.length c0] b.w fun e w' => ∃ x : Unit, e = .returned (.int .i64 r) ∧ St b (stl []) w' := by
  unfold extent_Total.f at H
  refine enterb (n := 24) Try.func14 rfl (by kernel_rfl) (by kernel_rfl) hs0 ?_
  refine cs_sub (s0) (sub_nil _) ?_
  refine cs_seq ?_
  refine cs_region (l := [_]) ?_
  refine ls_val (v := .int .i64 (0 : Int)) rfl rfl (by kernel_rfl) (fun w => by kernel_rfl) ?_
  refine ls_end ?_
  refine qn_then ?_
  refine cs_cut (fun f S => ∃ (fR : Fr), f = upd fR 0 (.slice A0 l0.length c0) ∧ S = s0 ∧ extent_Total.jo1 k l0 = some r) ?_ ?_
  · skip
    refine cs_seq ?_
    refine cs_region (l := [_, _, _]) ?_
    refine ls_val (v := .slice A0 l0.length c0) rfl rfl (by kernel_rfl) (fun w => by kernel_rfl) ?_
    obtain ⟨t12, hc13, H⟩ := bind_some H
    refine ls_callb (fid := 10) (vals := #[.slice A0 l0.length c0]) (X := Unit) (fun x => .bool t12) (fun x => stl []) [] [] [] [] 0 rfl rfl (by kernel_rfl) (fun w => by kernel_rfl) trivial trivial (by decide) (fun w hs hb => extent_Valid.calls k A0 c0 l0 t12 (lent b w [] []) hb (hs.ro R0 _ _) C0 hc13) ?_
    intro x14
    refine ls_val (v := .bool (!t12)) rfl rfl (by kernel_rfl) (fun w => by kernel_rfl) ?_
    refine ls_end ?_
    refine qn_then ?_
    by_cases q15 : t12 = true
    · replace H := ite_t q15 H
      refine cs_know (c := false) (congrArg Bool.not (q15)) 8 (by kernel_rfl) ?_
      refine cs_false (by kernel_rfl) ?_
      refine cs_skip' ?_
      refine qn_meet (s0) ⟨_, fr_next (rfl) (by kernel_rfl), rfl, H⟩ (sub_nil _)
    · replace H := ite_f q15 H
      refine cs_know (c := true) (congrArg Bool.not (Bool.eq_false_iff.mpr q15)) 8 (by kernel_rfl) ?_
      refine cs_true (by kernel_rfl) ?_
      refine cs_seq ?_
      refine cs_region (l := [_]) ?_
      refine ls_val (v := .int .i64 (0 : Int)) rfl rfl (by kernel_rfl) (fun w => by kernel_rfl) ?_
      refine ls_end ?_
      refine qn_then ?_
      refine cs_ret' ?_
      refine qr_then ?_
      obtain rfl := Option.some.inj H
      refine qr_res (rs := [_]) rfl (fun w' hs => ⟨[.int .i64 (0 : Int)], (res_tmp (by kernel_rfl) (.nil)), (), rfl, hs.pick (ts := []) (cs := []) trivial (by decide)⟩)
  · rintro f S ⟨fr1, rfl, rfl, H⟩
    replace H : (extent_Total.lo2 l0 k (0 : Int) (0 : Int)) = some r := H
    refine cs_seq ?_
    refine cs_region (l := [_]) ?_
    refine ls_val (v := .int .i64 (0 : Int)) rfl rfl (by kernel_rfl) (fun w => by kernel_rfl) ?_
    refine ls_end ?_
    refine qn_then ?_
    refine cs_seq ?_
    refine cs_seq ?_
    refine cs_region (l := [_, _, _]) ?_
    refine ls_val (v := .slice A0 l0.length c0) rfl rfl (by kernel_rfl) (fun w => by kernel_rfl) ?_
    refine ls_val (v := .int .i64 (l0.length : Int)) rfl rfl (by kernel_rfl) (fun w => by kernel_rfl) ?_
    refine ls_val (v := .int .i64 (0 : Int)) rfl rfl (by kernel_rfl) (fun w => by kernel_rfl) ?_
    refine ls_end ?_
    refine qn_then ?_
    refine cs_block ?_
    refine cs_sub (s0) (sub_nil _) ?_
    refine cs_loop (fun kk f S => ∃ (fR : Fr) (x3_2 : Int) (x11_2 : Int), f = upd (upd (upd (upd fR 3 (.int .i64 x3_2)) 9 (.slice A0 l0.length c0)) 10 (.int .i64 (l0.length : Int))) 11 (.int .i64 x11_2) ∧ S = s0 ∧ extent_Total.lo2 l0 kk x3_2 x11_2 = some r) k ?_ ?_ ?_
    · exact ⟨_, (0 : Int), (0 : Int), fr_next (fr_next (fr_next (fr_next (rfl) (by kernel_rfl)) (by kernel_rfl)) (by kernel_rfl)) (by kernel_rfl), rfl, H⟩
    · rintro f S ⟨fr2, x3_2, x11_2, rfl, rfl, H⟩; cases H
    · rintro k2 f S ⟨fr2, x3_2, x11_2, rfl, rfl, H⟩
      replace H : ((if x11_2 < (l0.length : Int) then (if 0 ≤ x11_2 then lt (((l0).getD (x11_2).toNat ((0 : Int), (0 : Int))).2) fun y6 => lt (((l0).getD (x11_2).toNat ((0 : Int), (0 : Int))).1) fun y8 => lt (IntKind.wrap .i64 (x3_2 + (IntKind.wrap .i64 (y6 - y8)))) fun y10 => (extent_Total.lo2 l0 k2) y10 (IntKind.wrap .i64 (x11_2 + (1 : Int))) else none) else some x3_2)) = some r := H
      refine cs_seq ?_
      refine cs_region (l := [_]) ?_
      refine ls_val (v := .bool (decide (x11_2 < (l0.length : Int)))) rfl rfl (by kernel_rfl) (fun w => by kernel_rfl) ?_
      refine ls_end ?_
      refine qn_then ?_
      refine cs_seq ?_
      by_cases q1 : x11_2 < (l0.length : Int)
      · replace H := ite_t q1 H
        refine cs_know (c := true) (dec_t q1) 12 (by kernel_rfl) ?_
        refine cs_true (by kernel_rfl) ?_
        refine cs_skip' ?_
        refine qn_then ?_
        refine cs_seq ?_
        refine cs_block ?_
        refine cs_seq ?_
        refine cs_region (l := [_, _, _, _]) ?_
        obtain ⟨q2, H⟩ := ite_need H
        obtain ⟨ad3, hA4⟩ := ido_at (T := T24) (l := l0) (i := x11_2) R0 q2 q1
        refine ls_idxv T24 (A := A0) (c := c0) (l := l0) (k := .i64) (i := x11_2) (z := 2) (ad := ad3) rfl rfl (by kernel_rfl) hA4 rfl (by kernel_rfl) (by kernel_rfl) (by kernel_rfl) (by kernel_rfl) q2 q1 ?_
        refine ls_loadagg (a := (ad3.add ((x11_2).toNat * 2))) (sub := ([Value.int .i64 (((l0).getD (x11_2).toNat ((0 : Int), (0 : Int))).1)] ++ [Value.int .i64 (((l0).getD (x11_2).toNat ((0 : Int), (0 : Int))).2)])) rfl rfl (by kernel_rfl) rfl (by kernel_rfl) (by kernel_rfl) (by kernel_rfl) (len_app (len1 _) (len1 _)) (fun w hs => (hs.old R0).part hA4 (em_sub T24 l0 (i := (x11_2).toNat) (by have h0 : (0 : Int) ≤ x11_2 := q2; have h1 : x11_2 < (l0.length : Int) := q1; omega))) ?_
        refine ls_new rfl rfl (by kernel_rfl) 0 (fun g => .pointer (some ⟨g, 0, none⟩)) (.cells ⟨([Value.int .i64 (0 : Int)] ++ [Value.int .i64 (0 : Int)])⟩ 24) (fun w => by kernel_rfl) ?_
        intro g5
        refine ls_storec (g := g5) (off := 0) (v := .agg ⟨([Value.int .i64 (((l0).getD (x11_2).toNat ((0 : Int), (0 : Int))).1)] ++ [Value.int .i64 (((l0).getD (x11_2).toNat ((0 : Int), (0 : Int))).2)])⟩) (vs := ([Value.int .i64 (((l0).getD (x11_2).toNat ((0 : Int), (0 : Int))).1)] ++ [Value.int .i64 (((l0).getD (x11_2).toNat ((0 : Int), (0 : Int))).2)])) (cs := ([Value.int .i64 (0 : Int)] ++ [Value.int .i64 (0 : Int)])) (ty := 24) 0 rfl rfl rfl (by kernel_rfl) (by kernel_rfl) (by kernel_rfl) (by exact rfl) (by kernel_rfl) (len_app (len1 _) (len1 _)) (one_app (one_cons rfl one_nil) (one_cons rfl one_nil)) (hl_of (Sub4.all _) (len_eq (len_app (len1 _) (len1 _)) (len_app (len1 _) (len1 _)))) (cs' := ([Value.int .i64 (((l0).getD (x11_2).toNat ((0 : Int), (0 : Int))).1)] ++ [Value.int .i64 (((l0).getD (x11_2).toNat ((0 : Int), (0 : Int))).2)])) (splc_all (len_eq (len_app (len1 _) (len1 _)) (len_app (len1 _) (len1 _)))) ?_
        refine ls_end ?_
        refine qn_then ?_
        refine cs_region (l := [_, _, _, _, _, _, _, _]) ?_
        refine ls_val (v := .int .i64 x3_2) rfl rfl (by kernel_rfl) (fun w => by kernel_rfl) ?_
        refine ls_val (v := .pointer (some ⟨g5, (0 + 1), none⟩)) rfl rfl (by kernel_rfl) (fun w => by kernel_rfl) ?_
        obtain ⟨y6, hy7, H⟩ := lt_some H
        refine ls_load (a0 := ⟨g5, (0 + 1), none⟩) (v := .int .i64 (((l0).getD (x11_2).toNat ((0 : Int), (0 : Int))).2)) (de := (TypeDesc.int .i64)) rfl rfl (by kernel_rfl) rfl (by kernel_rfl) (by kernel_rfl) (by kernel_rfl) (fun w hs => (hs.var (k := 0) (by exact rfl) (Sub4.trans (Sub4.all _) (Sub4.skip (n := 1) (len1 _) (Sub4.all _))))) ?_
        refine ls_ren 17 (v := .int .i64 (((l0).getD (x11_2).toNat ((0 : Int), (0 : Int))).2)) (v' := .int .i64 y6) (by kernel_rfl) (by rw [hy7]) ?_
        refine ls_val (v := .pointer (some ⟨g5, (0 + 0), none⟩)) rfl rfl (by kernel_rfl) (fun w => by kernel_rfl) ?_
        obtain ⟨y8, hy9, H⟩ := lt_some H
        refine ls_load (a0 := ⟨g5, (0 + 0), none⟩) (v := .int .i64 (((l0).getD (x11_2).toNat ((0 : Int), (0 : Int))).1)) (de := (TypeDesc.int .i64)) rfl rfl (by kernel_rfl) rfl (by kernel_rfl) (by kernel_rfl) (by kernel_rfl) (fun w hs => (hs.var (k := 0) (by exact rfl) (Sub4.trans (Sub4.all _) (Sub4.head _ _)))) ?_
        refine ls_ren 19 (v := .int .i64 (((l0).getD (x11_2).toNat ((0 : Int), (0 : Int))).1)) (v' := .int .i64 y8) (by kernel_rfl) (by rw [hy9]) ?_
        refine ls_val (v := .int .i64 (IntKind.wrap .i64 (y6 - y8))) rfl rfl (by kernel_rfl) (fun w => by kernel_rfl) ?_
        obtain ⟨y10, hy11, H⟩ := lt_some H
        refine ls_val (v := .int .i64 (IntKind.wrap .i64 (x3_2 + (IntKind.wrap .i64 (y6 - y8))))) rfl rfl (by kernel_rfl) (fun w => by kernel_rfl) ?_
        refine ls_ren 21 (v := .int .i64 (IntKind.wrap .i64 (x3_2 + (IntKind.wrap .i64 (y6 - y8))))) (v' := .int .i64 y10) (by kernel_rfl) (by rw [hy11]) ?_
        refine ls_val (v := .int .i64 y10) rfl rfl (by kernel_rfl) (fun w => by kernel_rfl) ?_
        refine ls_end ?_
        refine qn_block ?_
        refine qn_then ?_
        refine cs_region (l := [_, _]) ?_
        refine ls_val (v := .int .i64 (IntKind.wrap .i64 (x11_2 + (1 : Int)))) rfl rfl (by kernel_rfl) (fun w => by kernel_rfl) ?_
        refine ls_val (v := .int .i64 (IntKind.wrap .i64 (x11_2 + (1 : Int)))) rfl rfl (by kernel_rfl) (fun w => by kernel_rfl) ?_
        refine ls_end ?_
        refine qn_again k2 (s0) (Nat.le_refl _) ⟨_, y10, (IntKind.wrap .i64 (x11_2 + (1 : Int))), fr_next (fr_next (fr_next (fr_next (rfl) (by kernel_rfl)) (by kernel_rfl)) (by kernel_rfl)) (by kernel_rfl), rfl, H⟩ (sub_nil _)
      · replace H := ite_f q1 H
        refine cs_know (c := false) (dec_f q1) 12 (by kernel_rfl) ?_
        refine cs_false (by kernel_rfl) ?_
        refine cs_exit' ?_
        refine qx_then ?_
        refine qx_then ?_
        refine qx_same ?_
        refine qn_then ?_
        refine cs_seq ?_
        refine cs_region (l := [_, _]) ?_
        refine ls_val (v := .int .i64 x3_2) rfl rfl (by kernel_rfl) (fun w => by kernel_rfl) ?_
        refine ls_val (v := .int .i64 x3_2) rfl rfl (by kernel_rfl) (fun w => by kernel_rfl) ?_
        refine ls_end ?_
        refine qn_then ?_
        refine cs_ret' ?_
        obtain rfl := Option.some.inj H
        refine qr_res (rs := [_]) rfl (fun w' hs => ⟨[.int .i64 x3_2], (res_tmp (by kernel_rfl) (.nil)), (), rfl, hs.pick (ts := []) (cs := []) trivial (by decide)⟩)

/-! ### (*shadowbox/alloc.Alloc).none: function 48 -/
def alloc_Alloc_none.f (k : Nat) (v0 : ((Int × Int) × Bool × Int × (List (Int × Int)) × Unit × (List (Int × Int)))) (w0_4 : (Bool × (List (Int × Int)))) : Option (Bool) :=
  some (!v0.2.1)
set_option maxRecDepth 100000 in
set_option maxHeartbeats 4000000 in
theorem alloc_Alloc_none.calls (k : Nat) (pg0 : Nat) (A0_3 : Option Addr) (c0_3 : Nat) (r0_4 : Nat) (A0_5 : Option Addr) (c0_5 : Nat) (v0 : ((Int × Int) × Bool × Int × (List (Int × Int)) × Unit × (List (Int × Int)))) (A0_4 : Option Addr) (c0_4 : Nat) (w0_4 : (Bool × (List (Int × Int)))) (r : Bool) (b : Bs) (hs0 : St b (stl [Ck.var 66 pg0 ((([Value.int .i64 v0.1.1] ++ [Value.int .i64 v0.1.2]) ++ ([Value.bool v0.2.1] ++ ([Value.int .i64 v0.2.2.1] ++ ([Value.slice A0_3 v0.2.2.2.1.length c0_3] ++ ([Value.map (some r0_4)] ++ [Value.slice A0_5 v0.2.2.2.2.2.length c0_5])))))), Ck.m1 r0_4 w0_4.1 A0_4 w0_4.2.length c0_4, Ck.sl T24 A0_4 c0_4 w0_4.2]) b.w) (R0_3 : Ro b A0_3 (em T24 v0.2.2.2.1)) (C0_3 : v0.2.2.2.1.length ≤ c0_3) (R0_5 : Ro b A0_5 (em T24 v0.2.2.2.2.2)) (C0_5 : v0.2.2.2.2.2.length ≤ c0_5) (H : alloc_Alloc_none.f k v0 w0_4 = some r) :
    Calls Try.prog 48 #[.pointer (some ⟨pg0, 0, none⟩)] b.w fun e w' => ∃ x : Unit, e = .returned (.bool r) ∧ St b (stl [Ck.var 66 pg0 ((([Value.int .i64 v0.1.1] ++ [Value.int .i64 v0.1.2]) ++ ([Value.bool v0.2.1] ++ ([Value.int .i64 v0.2.2.1] ++ ([Value.slice A0_3 v0.2.2.2.1.length c0_3] ++ ([Value.map (some r0_4)] ++ [Value.slice A0_5 v0.2.2.2.2.2.length c0_5])))))), Ck.m1 r0_4 w0_4.1 A0_4 w0_4.2.length c0_4, Ck.sl T24 A0_4 c0_4 w0_4.2]) w' := by
  unfold alloc_Alloc_none.f at H
  refine enterb (n := 12) Try.func48 rfl (by kernel_rfl) (by kernel_rfl) hs0 ?_
  refine cs_sub (sput (sput (sput s0 0 (some (Ck.var 66 pg0 ((([Value.int .i64 v0.1.1] ++ [Value.int .i64 v0.1.2]) ++ ([Value.bool v0.2.1] ++ ([Value.int .i64 v0.2.2.1] ++ ([Value.slice A0_3 v0.2.2.2.1.length c0_3] ++ ([Value.map (some r0_4)] ++ [Value.slice A0_5 v0.2.2.2.2.2.length c0_5]))))))))) 1 (some (Ck.m1 r0_4 w0_4.1 A0_4 w0_4.2.length c0_4))) 2 (some (Ck.sl T24 A0_4 c0_4 w0_4.2))) (sub_put (by exact rfl) (sub_put (by exact rfl) (sub_put (by exact rfl) (sub_nil _)))) ?_
  refine cs_seq ?_
  refine cs_region (l := [_]) ?_
  refine ls_val (v := .bool false) rfl rfl (by kernel_rfl) (fun w => by kernel_rfl) ?_
  refine ls_end ?_
  refine qn_then ?_
  refine cs_seq ?_
  refine cs_region (l := [_, _, _, _, _, _, _, _, _, _]) ?_
  refine ls_val (v := .pointer (some ⟨pg0, 0, none⟩)) rfl rfl (by kernel_rfl) (fun w => by kernel_rfl) ?_
  refine ls_val (v := .bool false) rfl rfl (by kernel_rfl) (fun w => by kernel_rfl) ?_
  refine ls_val (v := .bool false) rfl rfl (by kernel_rfl) (fun w => by kernel_rfl) ?_
  refine ls_on (j := 2) (t := 5) (b := false) rfl rfl (by kernel_rfl) (by kernel_rfl) ?_
  refine ls_val (v := .pointer (some ⟨pg0, 0, none⟩)) rfl rfl (by kernel_rfl) (fun w => by kernel_rfl) ?_
  refine ls_on (j := 2) (t := 5) (b := false) rfl rfl (by kernel_rfl) (by kernel_rfl) ?_
  refine ls_val (v := .pointer (some ⟨pg0, 0, none⟩)) rfl rfl (by kernel_rfl) (fun w => by kernel_rfl) ?_
  refine ls_on (j := 2) (t := 5) (b := false) rfl rfl (by kernel_rfl) (by kernel_rfl) ?_
  refine ls_val (v := .pointer (some ⟨pg0, (0 + 2), none⟩)) rfl rfl (by kernel_rfl) (fun w => by kernel_rfl) ?_
  refine ls_on (j := 2) (t := 5) (b := false) rfl rfl (by kernel_rfl) (by kernel_rfl) ?_
  refine ls_load (a0 := ⟨pg0, (0 + 2), none⟩) (v := .bool v0.2.1) (de := TypeDesc.bool) rfl rfl (by kernel_rfl) rfl (by kernel_rfl) (by kernel_rfl) (by kernel_rfl) (fun w hs => (hs.var (k := 0) (by exact rfl) (Sub4.trans (Sub4.all _) (Sub4.skip (n := 2) (len_app (len1 _) (len1 _)) (Sub4.head _ _))))) ?_
  refine ls_on (j := 2) (t := 5) (b := false) rfl rfl (by kernel_rfl) (by kernel_rfl) ?_
  refine ls_val (v := .bool (!v0.2.1)) rfl rfl (by kernel_rfl) (fun w => by kernel_rfl) ?_
  refine ls_val (v := .bool (!v0.2.1)) rfl rfl (by kernel_rfl) (fun w => by kernel_rfl) ?_
  refine ls_val (v := .bool (!v0.2.1)) rfl rfl (by kernel_rfl) (fun w => by kernel_rfl) ?_
  refine ls_end ?_
  refine qn_then ?_
  refine cs_ret' ?_
  obtain rfl := Option.some.inj H
  refine qr_res (rs := [_]) rfl (fun w' hs => ⟨[.bool (!v0.2.1)], (res_tmp (by kernel_rfl) (.nil)), (), rfl, hs.pick (ts := [0, 1, 2]) (cs := [Ck.var 66 pg0 ((([Value.int .i64 v0.1.1] ++ [Value.int .i64 v0.1.2]) ++ ([Value.bool v0.2.1] ++ ([Value.int .i64 v0.2.2.1] ++ ([Value.slice A0_3 v0.2.2.2.1.length c0_3] ++ ([Value.map (some r0_4)] ++ [Value.slice A0_5 v0.2.2.2.2.2.length c0_5])))))), Ck.m1 r0_4 w0_4.1 A0_4 w0_4.2.length c0_4, Ck.sl T24 A0_4 c0_4 w0_4.2]) ⟨by exact rfl, by exact rfl, by exact rfl, trivial⟩ (by decide)⟩)

/-! ### (*shadowbox/alloc.Alloc).Free: function 32 -/
def alloc_Alloc_Free.f (k : Nat) (v0 : ((Int × Int) × Bool × Int × (List (Int × Int)) × Unit × (List (Int × Int)))) (w0_4 : (Bool × (List (Int × Int)))) : Option (Int) :=
  (alloc_Alloc_none.f k (v0.1, v0.2.1, v0.2.2.1, v0.2.2.2.1, (), v0.2.2.2.2.2) (w0_4.1, w0_4.2)).bind fun t1 => (if t1 = true then some (0 : Int) else (extent_Total.f k v0.2.2.2.1).bind fun t5 => some t5)
set_option maxRecDepth 100000 in
set_option maxHeartbeats 4000000 in
theorem alloc_Alloc_Free.calls (k : Nat) (pg0 : Nat) (A0_3 : Option Addr) (c0_3 : Nat) (r0_4 : Nat) (A0_5 : Option Addr) (c0_5 : Nat) (v0 : ((Int × Int) × Bool × Int × (List (Int × Int)) × Unit × (List (Int × Int)))) (A0_4 : Option Addr) (c0_4 : Nat) (w0_4 : (Bool × (List (Int × Int)))) (r : Int) (b : Bs) (hs0 : St b (stl [Ck.var 66 pg0 ((([Value.int .i64 v0.1.1] ++ [Value.int .i64 v0.1.2]) ++ ([Value.bool v0.2.1] ++ ([Value.int .i64 v0.2.2.1] ++ ([Value.slice A0_3 v0.2.2.2.1.length c0_3] ++ ([Value.map (some r0_4)] ++ [Value.slice A0_5 v0.2.2.2.2.2.length c0_5])))))), Ck.m1 r0_4 w0_4.1 A0_4 w0_4.2.length c0_4, Ck.sl T24 A0_4 c0_4 w0_4.2]) b.w) (R0_3 : Ro b A0_3 (em T24 v0.2.2.2.1)) (C0_3 : v0.2.2.2.1.length ≤ c0_3) (R0_5 : Ro b A0_5 (em T24 v0.2.2.2.2.2)) (C0_5 : v0.2.2.2.2.2.length ≤ c0_5) (H : alloc_Alloc_Free.f k v0 w0_4 = some r) :
    Calls Try.prog 32 #[.pointer (some ⟨pg0, 0, none⟩)] b.w fun e w' => ∃ x : Unit, e = .returned (.int .i64 r) ∧ St b (stl [Ck.var 66 pg0 ((([Value.int .i64 v0.1.1] ++ [Value.int .i64 v0.1.2]) ++ ([Value.bool v0.2.1] ++ ([Value.int .i64 v0.2.2.1] ++ ([Value.slice A0_3 v0.2.2.2.1.length c0_3] ++ ([Value.map (some r0_4)] ++ [Value.slice A0_5 v0.2.2.2.2.2.length c0_5])))))), Ck.m1 r0_4 w0_4.1 A0_4 w0_4.2.length c0_4, Ck.sl T24 A0_4 c0_4 w0_4.2]) w' := by
  unfold alloc_Alloc_Free.f at H
  refine enterb (n := 10) Try.func32 rfl (by kernel_rfl) (by kernel_rfl) hs0 ?_
  refine cs_sub (sput (sput (sput s0 0 (some (Ck.var 66 pg0 ((([Value.int .i64 v0.1.1] ++ [Value.int .i64 v0.1.2]) ++ ([Value.bool v0.2.1] ++ ([Value.int .i64 v0.2.2.1] ++ ([Value.slice A0_3 v0.2.2.2.1.length c0_3] ++ ([Value.map (some r0_4)] ++ [Value.slice A0_5 v0.2.2.2.2.2.length c0_5]))))))))) 1 (some (Ck.m1 r0_4 w0_4.1 A0_4 w0_4.2.length c0_4))) 2 (some (Ck.sl T24 A0_4 c0_4 w0_4.2))) (sub_put (by exact rfl) (sub_put (by exact rfl) (sub_put (by exact rfl) (sub_nil _)))) ?_
  refine cs_seq ?_
  refine cs_region (l := [_]) ?_
  refine ls_val (v := .int .i64 (0 : Int)) rfl rfl (by kernel_rfl) (fun w => by kernel_rfl) ?_
  refine ls_end ?_
  refine qn_then ?_
  refine cs_seq ?_
  refine cs_seq ?_
  refine cs_region (l := [_, _]) ?_
  refine ls_val (v := .pointer (some ⟨pg0, 0, none⟩)) rfl rfl (by kernel_rfl) (fun w => by kernel_rfl) ?_
  obtain ⟨t1, hc2, H⟩ := bind_some H
  refine ls_callb (fid := 48) (vals := #[.pointer (some ⟨pg0, 0, none⟩)]) (X := Unit) (fun x => .bool t1) (fun x => stl [Ck.var 66 pg0 ((([Value.int .i64 v0.1.1] ++ [Value.int .i64 v0.1.2]) ++ ([Value.bool v0.2.1] ++ ([Value.int .i64 v0.2.2.1] ++ ([Value.slice A0_3 v0.2.2.2.1.length c0_3] ++ ([Value.map (some r0_4)] ++ [Value.slice A0_5 v0.2.2.2.2.2.length c0_5])))))), Ck.m1 r0_4 w0_4.1 A0_4 w0_4.2.length c0_4, Ck.sl T24 A0_4 c0_4 w0_4.2]) [0, 1, 2] [] [Ck.var 66 pg0 ((([Value.int .i64 v0.1.1] ++ [Value.int .i64 v0.1.2]) ++ ([Value.bool v0.2.1] ++ ([Value.int .i64 v0.2.2.1] ++ ([Value.slice A0_3 v0.2.2.2.1.length c0_3] ++ ([Value.map (some r0_4)] ++ [Value.slice A0_5 v0.2.2.2.2.2.length c0_5])))))), Ck.m1 r0_4 w0_4.1 A0_4 w0_4.2.length c0_4, Ck.sl T24 A0_4 c0_4 w0_4.2] [] 3 rfl rfl (by kernel_rfl) (fun w => by kernel_rfl) ⟨by exact rfl, by exact rfl, by exact rfl, trivial⟩ trivial (by decide) (fun w hs hb => alloc_Alloc_none.calls k pg0 A0_3 c0_3 r0_4 A0_5 c0_5 (v0.1, v0.2.1, v0.2.2.1, v0.2.2.2.1, (), v0.2.2.2.2.2) A0_4 c0_4 (w0_4.1, w0_4.2) t1 (lent b w [Ck.var 66 pg0 ((([Value.int .i64 v0.1.1] ++ [Value.int .i64 v0.1.2]) ++ ([Value.bool v0.2.1] ++ ([Value.int .i64 v0.2.2.1] ++ ([Value.slice A0_3 v0.2.2.2.1.length c0_3] ++ ([Value.map (some r0_4)] ++ [Value.slice A0_5 v0.2.2.2.2.2.length c0_5])))))), Ck.m1 r0_4 w0_4.1 A0_4 w0_4.2.length c0_4, Ck.sl T24 A0_4 c0_4 w0_4.2] []) hb (hs.ro R0_3 _ _) C0_3 (hs.ro R0_5 _ _) C0_5 hc2) ?_
  intro x3
  refine ls_end ?_
  refine qn_then ?_
  by_cases q4 : t1 = true
  · replace H := ite_t q4 H
    refine cs_know (c := true) (q4) 4 (by kernel_rfl) ?_
    refine cs_true (by kernel_rfl) ?_
    refine cs_seq ?_
    refine cs_region (l := [_]) ?_
    refine ls_val (v := .int .i64 (0 : Int)) rfl rfl (by kernel_rfl) (fun w => by kernel_rfl) ?_
    refine ls_end ?_
    refine qn_then ?_
    refine cs_ret' ?_
    refine qr_then ?_
    obtain rfl := Option.some.inj H
    refine qr_res (rs := [_]) rfl (fun w' hs => ⟨[.int .i64 (0 : Int)], (res_tmp (by kernel_rfl) (.nil)), (), rfl, hs.pick (ts := [0, 1, 2]) (cs := [Ck.var 66 pg0 ((([Value.int .i64 v0.1.1] ++ [Value.int .i64 v0.1.2]) ++ ([Value.bool v0.2.1] ++ ([Value.int .i64 v0.2.2.1] ++ ([Value.slice A0_3 v0.2.2.2.1.length c0_3] ++ ([Value.map (some r0_4)] ++ [Value.slice A0_5 v0.2.2.2.2.2.length c0_5])))))), Ck.m1 r0_4 w0_4.1 A0_4 w0_4.2.length c0_4, Ck.sl T24 A0_4 c0_4 w0_4.2]) ⟨by exact rfl, by exact rfl, by exact rfl, trivial⟩ (by decide)⟩)
  · replace H := ite_f q4 H
    refine cs_know (c := false) (Bool.eq_false_iff.mpr q4) 4 (by kernel_rfl) ?_
    refine cs_false (by kernel_rfl) ?_
    refine cs_skip' ?_
    refine qn_then ?_
    refine cs_seq ?_
    refine cs_region (l := [_, _, _, _, _, _]) ?_
    refine ls_val (v := .pointer (some ⟨pg0, 0, none⟩)) rfl rfl (by kernel_rfl) (fun w => by kernel_rfl) ?_
    refine ls_val (v := .pointer (some ⟨pg0, 0, none⟩)) rfl rfl (by kernel_rfl) (fun w => by kernel_rfl) ?_
    refine ls_val (v := .pointer (some ⟨pg0, (0 + 4), none⟩)) rfl rfl (by kernel_rfl) (fun w => by kernel_rfl) ?_
    refine ls_load (a0 := ⟨pg0, (0 + 4), none⟩) (v := .slice A0_3 v0.2.2.2.1.length c0_3) (de := (TypeDesc.slice 24)) rfl rfl (by kernel_rfl) rfl (by kernel_rfl) (by kernel_rfl) (by kernel_rfl) (fun w hs => (hs.var (k := 0) (by exact rfl) (Sub4.trans (Sub4.all _) (Sub4.skip (n := 2) (len_app (len1 _) (len1 _)) (Sub4.skip (n := 1) (len1 _) (Sub4.skip (n := 1) (len1 _) (Sub4.head _ _))))))) ?_
    obtain ⟨t5, hc6, H⟩ := bind_some H
    refine ls_callb (fid := 14) (vals := #[.slice A0_3 v0.2.2.2.1.length c0_3]) (X := Unit) (fun x => .int .i64 t5) (fun x => stl []) [] [] [] [] 3 rfl rfl (by kernel_rfl) (fun w => by kernel_rfl) trivial trivial (by decide) (fun w hs hb => extent_Total.calls k A0_3 c0_3 v0.2.2.2.1 t5 (lent b w [] []) hb (hs.ro R0_3 _ _) C0_3 hc6) ?_
    intro x7
    refine ls_val (v := .int .i64 t5) rfl rfl (by kernel_rfl) (fun w => by kernel_rfl) ?_
    refine ls_end ?_
    refine qn_then ?_
    refine cs_ret' ?_
    obtain rfl := Option.some.inj H
    refine qr_res (rs := [_]) rfl (fun w' hs => ⟨[.int .i64 t5], (res_tmp (by kernel_rfl) (.nil)), (), rfl, hs.pick (ts := [0, 1, 2]) (cs := [Ck.var 66 pg0 ((([Value.int .i64 v0.1.1] ++ [Value.int .i64 v0.1.2]) ++ ([Value.bool v0.2.1] ++ ([Value.int .i64 v0.2.2.1] ++ ([Value.slice A0_3 v0.2.2.2.1.length c0_3] ++ ([Value.map (some r0_4)] ++ [Value.slice A0_5 v0.2.2.2.2.2.length c0_5])))))), Ck.m1 r0_4 w0_4.1 A0_4 w0_4.2.length c0_4, Ck.sl T24 A0_4 c0_4 w0_4.2]) ⟨by exact rfl, by exact rfl, by exact rfl, trivial⟩ (by decide)⟩)

end Go.Proofs.Ytiikfaefeonfhaa.G
