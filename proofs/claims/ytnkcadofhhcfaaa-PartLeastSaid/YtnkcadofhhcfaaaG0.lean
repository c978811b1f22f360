/- Printed by a program of this session (sz.py): plain functions, and walks that show that the code comes to them; no condition. -/
import Derived.Test.YtnkcadofhhcfaaaProg
import Derived.Test.YtnkcadofhhcfaaaTy
set_option linter.unusedVariables false
set_option linter.unusedSimpArgs false
namespace Go.Proofs.Ytnkcadofhhcfaaa.G
open Go Go.RowKit Go.Proofs.Ytnkcadofhhcfaaa.Sx

/-! ### shadowbox/part.within$1: function 44 -/
def part_within_1.f (k : Nat) (a0 : Int) (v1 : Int) : Option (Bool) :=
  (if a0 < (0 : Int) then some true else some (decide (a0 > v1)))
set_option maxRecDepth 100000 in
set_option maxHeartbeats 4000000 in
theorem part_within_1.calls (k : Nat) (a0 : Int) (pg1 : Nat) (v1 : Int) (r : Bool) (b : Bs) (hs0 : St b (stl [Ck.var 3 pg1 ([Value.int .i64 v1])]) b.w) (H : part_within_1.f k a0 v1 = some r) :
    Calls Try.prog 44 #[.int .i64 a0, .pointer (some ⟨pg1, 0, none⟩)] b.w fun e w' => ∃ x : Unit, e = .returned (.bool r) ∧ St b (stl [Ck.var 3 pg1 ([Value.int .i64 v1])]) w' := by
  unfold part_within_1.f at H
  refine enterb (n := 11) Try.func44 rfl (by kernel_rfl) (by kernel_rfl) hs0 ?_
  refine cs_sub (sput s0 0 (some (Ck.var 3 pg1 ([Value.int .i64 v1])))) (sub_put (by exact rfl) (sub_nil _)) ?_
  refine cs_seq ?_
  refine cs_region (l := [_]) ?_
  refine ls_val (v := .bool false) rfl rfl (by kernel_rfl) (fun w => by kernel_rfl) ?_
  refine ls_end ?_
  refine qn_then ?_
  refine cs_seq ?_
  refine cs_region (l := [_, _, _, _, _, _, _, _]) ?_
  refine ls_val (v := .int .i64 a0) rfl rfl (by kernel_rfl) (fun w => by kernel_rfl) ?_
  refine ls_val (v := .bool (decide (a0 < (0 : Int)))) rfl rfl (by kernel_rfl) (fun w => by kernel_rfl) ?_
  refine ls_val (v := .bool (decide (a0 < (0 : Int)))) rfl rfl (by kernel_rfl) (fun w => by kernel_rfl) ?_
  by_cases q1 : a0 < (0 : Int)
  · replace H := ite_t q1 H
    refine ls_know (c := true) (dec_t q1) 6 (by kernel_rfl) ?_
    refine ls_off (j := 2) (t := 6) (b := false) (c := true) rfl rfl (by kernel_rfl) (by kernel_rfl) rfl rfl (by kernel_rfl) ?_
    refine ls_off (j := 2) (t := 6) (b := false) (c := true) rfl rfl (by kernel_rfl) (by kernel_rfl) rfl rfl (by kernel_rfl) ?_
    refine ls_off (j := 2) (t := 6) (b := false) (c := true) rfl rfl (by kernel_rfl) (by kernel_rfl) rfl rfl (by kernel_rfl) ?_
    refine ls_val (v := .bool true) rfl rfl (by kernel_rfl) (fun w => by kernel_rfl) ?_
    refine ls_val (v := .bool true) rfl rfl (by kernel_rfl) (fun w => by kernel_rfl) ?_
    refine ls_end ?_
    refine qn_then ?_
    refine cs_ret' ?_
    obtain rfl := Option.some.inj H
    refine qr_res (rs := [_]) rfl (fun w' hs => ⟨[.bool true], (res_tmp (by kernel_rfl) (.nil)), (), rfl, hs.pick (ts := [0]) (cs := [Ck.var 3 pg1 ([Value.int .i64 v1])]) ⟨by exact rfl, trivial⟩ (by decide)⟩)
  · replace H := ite_f q1 H
    refine ls_know (c := false) (dec_f q1) 6 (by kernel_rfl) ?_
    refine ls_on (j := 2) (t := 6) (b := false) rfl rfl (by kernel_rfl) (by kernel_rfl) ?_
    refine ls_val (v := .int .i64 a0) rfl rfl (by kernel_rfl) (fun w => by kernel_rfl) ?_
    refine ls_on (j := 2) (t := 6) (b := false) rfl rfl (by kernel_rfl) (by kernel_rfl) ?_
    refine ls_load (a0 := ⟨pg1, 0, none⟩) (v := .int .i64 v1) (de := (TypeDesc.int .i64)) rfl rfl (by kernel_rfl) rfl (by kernel_rfl) (by kernel_rfl) (by kernel_rfl) (fun w hs => (hs.var (k := 0) (by exact rfl) (Sub4.all _))) ?_
    refine ls_on (j := 2) (t := 6) (b := false) rfl rfl (by kernel_rfl) (by kernel_rfl) ?_
    refine ls_val (v := .bool (decide (a0 > v1))) rfl rfl (by kernel_rfl) (fun w => by kernel_rfl) ?_
    refine ls_val (v := .bool (decide (a0 > v1))) rfl rfl (by kernel_rfl) (fun w => by kernel_rfl) ?_
    refine ls_val (v := .bool (decide (a0 > v1))) rfl rfl (by kernel_rfl) (fun w => by kernel_rfl) ?_
    refine ls_end ?_
    refine qn_then ?_
    refine cs_ret' ?_
    obtain rfl := Option.some.inj H
    refine qr_res (rs := [_]) rfl (fun w' hs => ⟨[.bool (decide (a0 > v1))], (res_tmp (by kernel_rfl) (.nil)), (), rfl, hs.pick (ts := [0]) (cs := [Ck.var 3 pg1 ([Value.int .i64 v1])]) ⟨by exact rfl, trivial⟩ (by decide)⟩)

/-! ### slices.IndexFunc[[]int,int], specialized: function 51 -/
def slices_IndexFunc_int_int_s44.lo1 (l0 : List Int) (v1_0 : Int) : Nat → Int → Option (Int)
  | 0, _ => none
  | k1 + 1, x8_1 => (if x8_1 < (l0.length : Int) then (if 0 ≤ x8_1 then (part_within_1.f k1 ((l0).getD (x8_1).toNat (0 : Int)) v1_0).bind fun t5 => (if t5 = true then some x8_1 else (slices_IndexFunc_int_int_s44.lo1 l0 v1_0 k1) (IntKind.wrap .i64 (x8_1 + (1 : Int)))) else none) else some (-1 : Int))
def slices_IndexFunc_int_int_s44.f (k : Nat) (l0 : List Int) (v1_0 : Int) : Option (Int) :=
  slices_IndexFunc_int_int_s44.lo1 l0 v1_0 k (0 : Int)
set_option maxRecDepth 100000 in
set_option maxHeartbeats 4000000 in
theorem slices_IndexFunc_int_int_s44.calls (k : Nat) (A0 : Option Addr) (c0 : Nat) (l0 : List Int) (pg1_0 : Nat) (v1_0 : Int) (r : Int) (b : Bs) (hs0 : St b (stl [Ck.var 3 pg1_0 ([Value.int .i64 v1_0])]) b.w) (R0 : Ro b A0 (em (Ec.int 3 .i64) l0)) (C0 : l0.length ≤ c0) (H : slices_IndexFunc_int_int_s44.f k l0 v1_0 = some r) :
    Calls Try.prog 51 #[.slice A0 l0.length c0, .func (.func 44) #[] #[.pointer (some ⟨pg1_0, 0, none⟩)]] b.w fun e w' => ∃ x : Unit, e = .returned (.int .i64 r) ∧ St b (stl [Ck.var 3 pg1_0 ([Value.int .i64 v1_0])]) w' := by
  unfold slices_IndexFunc_int_int_s44.f at H
  refine enterb (n := 19) Try.func51 rfl (by kernel_rfl) (by kernel_rfl) hs0 ?_
  refine cs_sub (sput s0 0 (some (Ck.var 3 pg1_0 ([Value.int .i64 v1_0])))) (sub_put (by exact rfl) (sub_nil _)) ?_
  refine cs_seq ?_
  refine cs_region (l := [_]) ?_
  refine ls_val (v := .int .i64 (0 : Int)) rfl rfl (by kernel_rfl) (fun w => by kernel_rfl) ?_
  refine ls_end ?_
  refine qn_then ?_
  refine cs_seq ?_
  refine cs_seq ?_
  refine cs_region (l := [_, _, _]) ?_
  refine ls_val (v := .slice A0 l0.length c0) rfl rfl (by kernel_rfl) (fun w => by kernel_rfl) ?_
  refine ls_val (v := .int .i64 (l0.length : Int)) rfl rfl (by kernel_rfl) (fun w => by kernel_rfl) ?_
  refine ls_val (v := .int .i64 (0 : Int)) rfl rfl (by kernel_rfl) (fun w => by kernel_rfl) ?_
  refine ls_end ?_
  refine qn_then ?_
  refine cs_block ?_
  refine cs_sub (sput s0 0 (some (Ck.var 3 pg1_0 ([Value.int .i64 v1_0])))) (sub_put (by exact rfl) (sub_nil _)) ?_
  refine cs_loop (fun kk f S => ∃ (fR : Fr) (x8_1 : Int), f = upd (upd (upd (upd fR 0 (.slice A0 l0.length c0)) 1 (.func (.func 44) #[] #[.pointer (some ⟨pg1_0, 0, none⟩)])) 7 (.int .i64 (l0.length : Int))) 8 (.int .i64 x8_1) ∧ S = sput s0 0 (some (Ck.var 3 pg1_0 ([Value.int .i64 v1_0]))) ∧ slices_IndexFunc_int_int_s44.lo1 l0 v1_0 kk x8_1 = some r) k ?_ ?_ ?_
  · exact ⟨_, (0 : Int), fr_next (fr_next (fr_next (fr_next (rfl) (by kernel_rfl)) (by kernel_rfl)) (by kernel_rfl)) (by kernel_rfl), rfl, H⟩
  · rintro f S ⟨fr1, x8_1, rfl, rfl, H⟩; cases H
  · rintro k1 f S ⟨fr1, x8_1, rfl, rfl, H⟩
    replace H : ((if x8_1 < (l0.length : Int) then (if 0 ≤ x8_1 then (part_within_1.f k1 ((l0).getD (x8_1).toNat (0 : Int)) v1_0).bind fun t5 => (if t5 = true then some x8_1 else (slices_IndexFunc_int_int_s44.lo1 l0 v1_0 k1) (IntKind.wrap .i64 (x8_1 + (1 : Int)))) else none) else some (-1 : Int))) = some r := H
    refine cs_seq ?_
    refine cs_region (l := [_]) ?_
    refine ls_val (v := .bool (decide (x8_1 < (l0.length : Int)))) rfl rfl (by kernel_rfl) (fun w => by kernel_rfl) ?_
    refine ls_end ?_
    refine qn_then ?_
    refine cs_seq ?_
    by_cases q1 : x8_1 < (l0.length : Int)
    · replace H := ite_t q1 H
      refine cs_know (c := true) (dec_t q1) 9 (by kernel_rfl) ?_
      refine cs_true (by kernel_rfl) ?_
      refine cs_skip' ?_
      refine qn_then ?_
      refine cs_seq ?_
      refine cs_block ?_
      refine cs_seq ?_
      refine cs_region (l := [_, _]) ?_
      refine ls_val (v := .int .i64 x8_1) rfl rfl (by kernel_rfl) (fun w => by kernel_rfl) ?_
      refine ls_val (v := .int .i64 x8_1) rfl rfl (by kernel_rfl) (fun w => by kernel_rfl) ?_
      refine ls_end ?_
      refine qn_then ?_
      refine cs_seq ?_
      refine cs_region (l := [_, _, _, _, _, _]) ?_
      refine ls_val (v := .func (.func 44) #[] #[.pointer (some ⟨pg1_0, 0, none⟩)]) rfl rfl (by kernel_rfl) (fun w => by kernel_rfl) ?_
      refine ls_val (v := .slice A0 l0.length c0) rfl rfl (by kernel_rfl) (fun w => by kernel_rfl) ?_
      refine ls_val (v := .int .i64 x8_1) rfl rfl (by kernel_rfl) (fun w => by kernel_rfl) ?_
      obtain ⟨q2, H⟩ := ite_need H
      obtain ⟨ad3, hA4⟩ := ido_at (T := (Ec.int 3 .i64)) (l := l0) (i := x8_1) R0 q2 q1
      refine ls_idxv (Ec.int 3 .i64) (A := A0) (c := c0) (l := l0) (k := .i64) (i := x8_1) (z := 1) (ad := ad3) rfl rfl (by kernel_rfl) hA4 rfl (by kernel_rfl) (by kernel_rfl) (by kernel_rfl) (by kernel_rfl) q2 q1 ?_
      refine ls_load (a0 := (ad3.add ((x8_1).toNat * 1))) (v := .int .i64 ((l0).getD (x8_1).toNat (0 : Int))) (de := (TypeDesc.int .i64)) rfl rfl (by kernel_rfl) rfl (by kernel_rfl) (by kernel_rfl) (by kernel_rfl) (fun w hs => (hs.old R0).at hA4 (em_sub (Ec.int 3 .i64) l0 (i := (x8_1).toNat) (by have h0 : (0 : Int) ≤ x8_1 := q2; have h1 : x8_1 < (l0.length : Int) := q1; omega))) ?_
      obtain ⟨t5, hc6, H⟩ := bind_some H
      refine ls_callb (fid := 44) (vals := #[.int .i64 ((l0).getD (x8_1).toNat (0 : Int)), .pointer (some ⟨pg1_0, 0, none⟩)]) (X := Unit) (fun x => .bool t5) (fun x => stl [Ck.var 3 pg1_0 ([Value.int .i64 v1_0])]) [0] [] [Ck.var 3 pg1_0 ([Value.int .i64 v1_0])] [] 1 rfl rfl (by kernel_rfl) (fun w => by kernel_rfl) ⟨by exact rfl, trivial⟩ trivial (by decide) (fun w hs hb => part_within_1.calls k1 ((l0).getD (x8_1).toNat (0 : Int)) pg1_0 v1_0 t5 (lent b w [Ck.var 3 pg1_0 ([Value.int .i64 v1_0])] []) hb  hc6) ?_
      intro x7
      refine ls_end ?_
      refine qn_then ?_
      by_cases q8 : t5 = true
      · replace H := ite_t q8 H
        refine cs_know (c := true) (q8) 16 (by kernel_rfl) ?_
        refine cs_true (by kernel_rfl) ?_
        refine cs_seq ?_
        refine cs_region (l := [_, _]) ?_
        refine ls_val (v := .int .i64 x8_1) rfl rfl (by kernel_rfl) (fun w => by kernel_rfl) ?_
        refine ls_val (v := .int .i64 x8_1) rfl rfl (by kernel_rfl) (fun w => by kernel_rfl) ?_
        refine ls_end ?_
        refine qn_then ?_
        refine cs_ret' ?_
        refine qr_block ?_
        refine qr_then ?_
        refine qr_then ?_
        refine qr_block ?_
        refine qr_then ?_
        obtain rfl := Option.some.inj H
        refine qr_res (rs := [_]) rfl (fun w' hs => ⟨[.int .i64 x8_1], (res_tmp (by kernel_rfl) (.nil)), (), rfl, hs.pick (ts := [0]) (cs := [Ck.var 3 pg1_0 ([Value.int .i64 v1_0])]) ⟨by exact rfl, trivial⟩ (by decide)⟩)
      · replace H := ite_f q8 H
        refine cs_know (c := false) (Bool.eq_false_iff.mpr q8) 16 (by kernel_rfl) ?_
        refine cs_false (by kernel_rfl) ?_
        refine cs_skip' ?_
        refine qn_block ?_
        refine qn_then ?_
        refine cs_region (l := [_, _]) ?_
        refine ls_val (v := .int .i64 (IntKind.wrap .i64 (x8_1 + (1 : Int)))) rfl rfl (by kernel_rfl) (fun w => by kernel_rfl) ?_
        refine ls_val (v := .int .i64 (IntKind.wrap .i64 (x8_1 + (1 : Int)))) rfl rfl (by kernel_rfl) (fun w => by kernel_rfl) ?_
        refine ls_end ?_
        refine qn_again k1 (sput s0 0 (some (Ck.var 3 pg1_0 ([Value.int .i64 v1_0])))) (Nat.le_refl _) ⟨_, (IntKind.wrap .i64 (x8_1 + (1 : Int))), fr_next (fr_next (fr_next (fr_next (rfl) (by kernel_rfl)) (by kernel_rfl)) (by kernel_rfl)) (by kernel_rfl), rfl, H⟩ (sub_put (by exact rfl) (sub_nil _))
    · replace H := ite_f q1 H
      refine cs_know (c := false) (dec_f q1) 9 (by kernel_rfl) ?_
      refine cs_false (by kernel_rfl) ?_
      refine cs_exit' ?_
      refine qx_then ?_
      refine qx_then ?_
      refine qx_same ?_
      refine qn_then ?_
      refine cs_seq ?_
      refine cs_region (l := [_]) ?_
      refine ls_val (v := .int .i64 (-1 : Int)) rfl rfl (by kernel_rfl) (fun w => by kernel_rfl) ?_
      refine ls_end ?_
      refine qn_then ?_
      refine cs_ret' ?_
      obtain rfl := Option.some.inj H
      refine qr_res (rs := [_]) rfl (fun w' hs => ⟨[.int .i64 (-1 : Int)], (res_tmp (by kernel_rfl) (.nil)), (), rfl, hs.pick (ts := [0]) (cs := [Ck.var 3 pg1_0 ([Value.int .i64 v1_0])]) ⟨by exact rfl, trivial⟩ (by decide)⟩)

/-! ### slices.ContainsFunc[[]int,int], specialized: function 43 -/
def slices_ContainsFunc_int_int_s44.f (k : Nat) (l0 : List Int) (v1_0 : Int) : Option (Bool) :=
  (slices_IndexFunc_int_int_s44.f k l0 v1_0).bind fun t1 => some (decide (t1 ≥ (0 : Int)))
set_option maxRecDepth 100000 in
set_option maxHeartbeats 4000000 in
theorem slices_ContainsFunc_int_int_s44.calls (k : Nat) (A0 : Option Addr) (c0 : Nat) (l0 : List Int) (pg1_0 : Nat) (v1_0 : Int) (r : Bool) (b : Bs) (hs0 : St b (stl [Ck.var 3 pg1_0 ([Value.int .i64 v1_0])]) b.w) (R0 : Ro b A0 (em (Ec.int 3 .i64) l0)) (C0 : l0.length ≤ c0) (H : slices_ContainsFunc_int_int_s44.f k l0 v1_0 = some r) :
    Calls Try.prog 43 #[.slice A0 l0.length c0, .func (.func 44) #[] #[.pointer (some ⟨pg1_0, 0, none⟩)]] b.w fun e w' => ∃ x : Unit, e = .returned (.bool r) ∧ St b (stl [Ck.var 3 pg1_0 ([Value.int .i64 v1_0])]) w' := by
  unfold slices_ContainsFunc_int_int_s44.f at H
  refine enterb (n := 9) Try.func43 rfl (by kernel_rfl) (by kernel_rfl) hs0 ?_
  refine cs_sub (sput s0 0 (some (Ck.var 3 pg1_0 ([Value.int .i64 v1_0])))) (sub_put (by exact rfl) (sub_nil _)) ?_
  refine cs_seq ?_
  refine cs_region (l := [_]) ?_
  refine ls_val (v := .bool false) rfl rfl (by kernel_rfl) (fun w => by kernel_rfl) ?_
  refine ls_end ?_
  refine qn_then ?_
  refine cs_seq ?_
  refine cs_region (l := [_, _, _, _, _]) ?_
  refine ls_val (v := .slice A0 l0.length c0) rfl rfl (by kernel_rfl) (fun w => by kernel_rfl) ?_
  refine ls_val (v := .func (.func 44) #[] #[.pointer (some ⟨pg1_0, 0, none⟩)]) rfl rfl (by kernel_rfl) (fun w => by kernel_rfl) ?_
  obtain ⟨t1, hc2, H⟩ := bind_some H
  refine ls_callb (fid := 51) (vals := #[.slice A0 l0.length c0, .func (.func 44) #[] #[.pointer (some ⟨pg1_0, 0, none⟩)]]) (X := Unit) (fun x => .int .i64 t1) (fun x => stl [Ck.var 3 pg1_0 ([Value.int .i64 v1_0])]) [0] [] [Ck.var 3 pg1_0 ([Value.int .i64 v1_0])] [] 1 rfl rfl (by kernel_rfl) (fun w => by kernel_rfl) ⟨by exact rfl, trivial⟩ trivial (by decide) (fun w hs hb => slices_IndexFunc_int_int_s44.calls k A0 c0 l0 pg1_0 v1_0 t1 (lent b w [Ck.var 3 pg1_0 ([Value.int .i64 v1_0])] []) hb (hs.ro R0 _ _) C0 hc2) ?_
  intro x3
  refine ls_val (v := .bool (decide (t1 ≥ (0 : Int)))) rfl rfl (by kernel_rfl) (fun w => by kernel_rfl) ?_
  refine ls_val (v := .bool (decide (t1 ≥ (0 : Int)))) rfl rfl (by kernel_rfl) (fun w => by kernel_rfl) ?_
  refine ls_end ?_
  refine qn_then ?_
  refine cs_ret' ?_
  obtain rfl := Option.some.inj H
  refine qr_res (rs := [_]) rfl (fun w' hs => ⟨[.bool (decide (t1 ≥ (0 : Int)))], (res_tmp (by kernel_rfl) (.nil)), (), rfl, hs.pick (ts := [0]) (cs := [Ck.var 3 pg1_0 ([Value.int .i64 v1_0])]) ⟨by exact rfl, trivial⟩ (by decide)⟩)

/-! ### shadowbox/part.within: function 28 -/
def part_within.f (k : Nat) (l0 : List Int) (a1 : Int) : Option (Bool) :=
  (slices_ContainsFunc_int_int_s44.f k l0 a1).bind fun t2 => some (!t2)
set_option maxRecDepth 100000 in
set_option maxHeartbeats 4000000 in
theorem part_within.calls (k : Nat) (A0 : Option Addr) (c0 : Nat) (l0 : List Int) (a1 : Int) (r : Bool) (b : Bs) (hs0 : St b (stl []) b.w) (R0 : Ro b A0 (em (Ec.int 3 .i64) l0)) (C0 : l0.length ≤ c0) (H : part_within.f k l0 a1 = some r) :
    Calls Try.prog 28 #[.slice A0 l0.length c0, .int .i64 a1] b.w fun e w' => ∃ x : Unit, e = .returned (.bool r) ∧ St b (stl []) w' := by
  unfold part_within.f at H
  refine enterb (n := 9) Try.func28 rfl (by kernel_rfl) (by kernel_rfl) hs0 ?_
  refine cs_sub (s0) (sub_nil _) ?_
  refine cs_seq ?_
  refine cs_region (l := [_, _]) ?_
  refine ls_new rfl rfl (by kernel_rfl) 0 (fun g => .pointer (some ⟨g, 0, none⟩)) (.cells ⟨[Value.int .i64 a1]⟩ 3) (fun w => by kernel_rfl) ?_
  intro g1
  refine ls_val (v := .bool false) rfl rfl (by kernel_rfl) (fun w => by kernel_rfl) ?_
  refine ls_end ?_
  refine qn_then ?_
  refine cs_seq ?_
  refine cs_region (l := [_, _, _, _, _]) ?_
  refine ls_val (v := .slice A0 l0.length c0) rfl rfl (by kernel_rfl) (fun w => by kernel_rfl) ?_
  refine ls_val (v := .func (.func 44) #[] #[.pointer (some ⟨g1, 0, none⟩)]) rfl rfl (by kernel_rfl) (fun w => by kernel_rfl) ?_
  obtain ⟨t2, hc3, H⟩ := bind_some H
  refine ls_callb (fid := 43) (vals := #[.slice A0 l0.length c0, .func (.func 44) #[] #[.pointer (some ⟨g1, 0, none⟩)]]) (X := Unit) (fun x => .bool t2) (fun x => stl [Ck.var 3 g1 ([Value.int .i64 a1])]) [0] [] [Ck.var 3 g1 ([Value.int .i64 a1])] [] 1 rfl rfl (by kernel_rfl) (fun w => by kernel_rfl) ⟨by exact rfl, trivial⟩ trivial (by decide) (fun w hs hb => slices_ContainsFunc_int_int_s44.calls k A0 c0 l0 g1 a1 t2 (lent b w [Ck.var 3 g1 ([Value.int .i64 a1])] []) hb (hs.ro R0 _ _) C0 hc3) ?_
  intro x4
  refine ls_val (v := .bool (!t2)) rfl rfl (by kernel_rfl) (fun w => by kernel_rfl) ?_
  refine ls_val (v := .bool (!t2)) rfl rfl (by kernel_rfl) (fun w => by kernel_rfl) ?_
  refine ls_end ?_
  refine qn_then ?_
  refine cs_ret' ?_
  obtain rfl := Option.some.inj H
  refine qr_res (rs := [_]) rfl (fun w' hs => ⟨[.bool (!t2)], (res_tmp (by kernel_rfl) (.nil)), (), rfl, hs.pick (ts := []) (cs := []) trivial (by decide)⟩)

/-! ### shadowbox/part.greedy: function 29 -/
def part_greedy.jo2 (l0 : List Int) (a1 : Int) (l5_1 : List Int) (x6_1 : Int) (x11_1 : Int) (lo1 : (List Int) → Int → Int → Option ((List Int))) : Option ((List Int)) := (if 0 ≤ x11_1 then (if x11_1 < (l0.length : Int) then (if x11_1 > (0 : Int) then (if ((l0).getD (x11_1).toNat (0 : Int)) > (IntKind.wrap .i64 (a1 - x6_1)) then (if (l5_1.length + ([x11_1]).length) * 8 ≤ 140737488355328 then lt (IntKind.wrap .i64 ((0 : Int) + ((l0).getD (x11_1).toNat (0 : Int)))) fun y11 => lo1 (l5_1 ++ [x11_1]) y11 (IntKind.wrap .i64 (x11_1 + (1 : Int))) else none) else lt (IntKind.wrap .i64 (x6_1 + ((l0).getD (x11_1).toNat (0 : Int)))) fun y13 => lo1 l5_1 y13 (IntKind.wrap .i64 (x11_1 + (1 : Int)))) else lt (IntKind.wrap .i64 (x6_1 + ((l0).getD (x11_1).toNat (0 : Int)))) fun y15 => lo1 l5_1 y15 (IntKind.wrap .i64 (x11_1 + (1 : Int)))) else none) else none)
def part_greedy.lo1 (l0 : List Int) (a1 : Int) : Nat → (List Int) → Int → Int → Option ((List Int))
  | 0, _, _, _ => none
  | k1 + 1, l5_1, x6_1, x11_1 => (if x11_1 < (l0.length : Int) then (part_greedy.jo2 l0 a1 l5_1 x6_1 x11_1 (part_greedy.lo1 l0 a1 k1)) else (if (l5_1.length + ([(l0.length : Int)]).length) * 8 ≤ 140737488355328 then some (l5_1 ++ [(l0.length : Int)]) else none))
def part_greedy.f (k : Nat) (l0 : List Int) (a1 : Int) : Option ((List Int)) :=
  part_greedy.lo1 l0 a1 k ([] : List Int) (0 : Int) (0 : Int)
set_option maxRecDepth 100000 in
set_option maxHeartbeats 4000000 in
theorem part_greedy.calls (k : Nat) (A0 : Option Addr) (c0 : Nat) (l0 : List Int) (a1 : Int) (r : (List Int)) (b : Bs) (hs0 : St b (stl []) b.w) (R0 : Ro b A0 (em (Ec.int 3 .i64) l0)) (C0 : l0.length ≤ c0) (H : part_greedy.f k l0 a1 = some r) :
    Calls Try.prog 29 #[.slice A0 l0.length c0, .int .i64 a1] b.w fun e w' => ∃ x : (Option Addr × Nat), e = .returned (.slice x.1 r.length x.2) ∧ St b (stl [Ck.sl (Ec.int 3 .i64) x.1 x.2 r]) w' := by
  unfold part_greedy.f at H
  refine enterb (n := 38) Try.func29 rfl (by kernel_rfl) (by kernel_rfl) hs0 ?_
  refine cs_sub (s0) (sub_nil _) ?_
  refine cs_seq ?_
  refine cs_region (l := [_]) ?_
  refine ls_val (v := .slice none 0 0) rfl rfl (by kernel_rfl) (fun w => by kernel_rfl) ?_
  refine ls_end ?_
  refine qn_then ?_
  refine cs_seq ?_
  refine cs_region (l := [_]) ?_
  refine ls_val (v := .slice none 0 0) rfl rfl (by kernel_rfl) (fun w => by kernel_rfl) ?_
  refine ls_end ?_
  refine qn_then ?_
  refine cs_seq ?_
  refine cs_region (l := [_]) ?_
  refine ls_val (v := .int .i64 (0 : Int)) rfl rfl (by kernel_rfl) (fun w => by kernel_rfl) ?_
  refine ls_end ?_
  refine qn_then ?_
  refine cs_seq ?_
  refine cs_seq ?_
  refine cs_region (l := [_, _, _]) ?_
  refine ls_val (v := .slice A0 l0.length c0) rfl rfl (by kernel_rfl) (fun w => by kernel_rfl) ?_
  refine ls_val (v := .int .i64 (l0.length : Int)) rfl rfl (by kernel_rfl) (fun w => by kernel_rfl) ?_
  refine ls_val (v := .int .i64 (0 : Int)) rfl rfl (by kernel_rfl) (fun w => by kernel_rfl) ?_
  refine ls_end ?_
  refine qn_then ?_
  refine cs_block ?_
  refine cs_nilrow 0 (Ec.int 3 .i64) ?_
  refine cs_sub (sput s0 0 (some (Ck.sl (Ec.int 3 .i64) none 0 ([] : List Int)))) (sub_put (by exact rfl) (sub_nil _)) ?_
  refine cs_loop (fun kk f S => ∃ (fR : Fr) (A5_1 : Option Addr) (c5_1 : Nat) (l5_1 : List Int) (x6_1 : Int) (x11_1 : Int), f = upd (upd (upd (upd (upd (upd (upd fR 0 (.slice A0 l0.length c0)) 1 (.int .i64 a1)) 5 (.slice A5_1 l5_1.length c5_1)) 6 (.int .i64 x6_1)) 9 (.slice A0 l0.length c0)) 10 (.int .i64 (l0.length : Int))) 11 (.int .i64 x11_1) ∧ S = sput s0 0 (some (Ck.sl (Ec.int 3 .i64) A5_1 c5_1 l5_1)) ∧ part_greedy.lo1 l0 a1 kk l5_1 x6_1 x11_1 = some r) k ?_ ?_ ?_
  · exact ⟨_, none, 0, ([] : List Int), (0 : Int), (0 : Int), fr_next (fr_next (fr_next (fr_next (fr_next (fr_next (fr_next (rfl) (by kernel_rfl)) (by kernel_rfl)) (by kernel_rfl)) (by kernel_rfl)) (by kernel_rfl)) (by kernel_rfl)) (by kernel_rfl), rfl, H⟩
  · rintro f S ⟨fr1, A5_1, c5_1, l5_1, x6_1, x11_1, rfl, rfl, H⟩; cases H
  · rintro k1 f S ⟨fr1, A5_1, c5_1, l5_1, x6_1, x11_1, rfl, rfl, H⟩
    replace H : ((if x11_1 < (l0.length : Int) then (part_greedy.jo2 l0 a1 l5_1 x6_1 x11_1 (part_greedy.lo1 l0 a1 k1)) else (if (l5_1.length + ([(l0.length : Int)]).length) * 8 ≤ 140737488355328 then some (l5_1 ++ [(l0.length : Int)]) else none))) = some r := H
    refine cs_seq ?_
    refine cs_region (l := [_]) ?_
    refine ls_val (v := .bool (decide (x11_1 < (l0.length : Int)))) rfl rfl (by kernel_rfl) (fun w => by kernel_rfl) ?_
    refine ls_end ?_
    refine qn_then ?_
    refine cs_cut (fun f S => ∃ (fR : Fr), f = upd (upd (upd (upd (upd (upd (upd fR 0 (.slice A0 l0.length c0)) 1 (.int .i64 a1)) 5 (.slice A5_1 l5_1.length c5_1)) 6 (.int .i64 x6_1)) 9 (.slice A0 l0.length c0)) 10 (.int .i64 (l0.length : Int))) 11 (.int .i64 x11_1) ∧ S = sput s0 0 (some (Ck.sl (Ec.int 3 .i64) A5_1 c5_1 l5_1)) ∧ part_greedy.jo2 l0 a1 l5_1 x6_1 x11_1 (part_greedy.lo1 l0 a1 k1) = some r) ?_ ?_
    · skip
      by_cases q17 : x11_1 < (l0.length : Int)
      · replace H := ite_t q17 H
        refine cs_know (c := true) (dec_t q17) 12 (by kernel_rfl) ?_
        refine cs_true (by kernel_rfl) ?_
        refine cs_skip' ?_
        refine qn_meet (sput s0 0 (some (Ck.sl (Ec.int 3 .i64) A5_1 c5_1 l5_1))) ⟨_, fr_next (fr_next (fr_next (fr_next (fr_next (fr_next (fr_next (rfl) (by kernel_rfl)) (by kernel_rfl)) (by kernel_rfl)) (by kernel_rfl)) (by kernel_rfl)) (by kernel_rfl)) (by kernel_rfl), rfl, H⟩ (sub_put (by exact rfl) (sub_nil _))
      · replace H := ite_f q17 H
        refine cs_know (c := false) (dec_f q17) 12 (by kernel_rfl) ?_
        refine cs_false (by kernel_rfl) ?_
        refine cs_exit' ?_
        refine qx_then ?_
        refine qx_then ?_
        refine qx_same ?_
        refine qn_then ?_
        refine cs_seq ?_
        refine cs_region (l := [_, _, _, _, _, _]) ?_
        refine ls_val (v := .slice A5_1 l5_1.length c5_1) rfl rfl (by kernel_rfl) (fun w => by kernel_rfl) ?_
        refine ls_val (v := .slice A0 l0.length c0) rfl rfl (by kernel_rfl) (fun w => by kernel_rfl) ?_
        refine ls_val (v := .int .i64 (l0.length : Int)) rfl rfl (by kernel_rfl) (fun w => by kernel_rfl) ?_
        refine ls_lit (Ec.int 3 .i64) 1 rfl rfl (by kernel_rfl) ([(l0.length : Int)]) (by exact of_decide_eq_true (by kernel_rfl)) (fun w => by kernel_rfl) ?_
        intro g18
        obtain ⟨q19, H⟩ := ite_need H
        refine ls_app (Ec.int 3 .i64) (A := A5_1) (c := c5_1) (B := (some ⟨g18, 0, none⟩)) (cb := [(l0.length : Int)].length) (z := (Value.int .i64 0)) (l := l5_1) (m := [(l0.length : Int)]) (bytes := 8) 0 rfl rfl (by kernel_rfl) rfl (by kernel_rfl) (by exact rfl) (by kernel_rfl) (fun w hs => (hs.rd (k := 1) (by exact rfl))) (by kernel_rfl) (by kernel_rfl) rfl (by decide) q19 ?_
        intro xA20 xc21
        refine ls_val (v := .slice xA20 (l5_1 ++ [(l0.length : Int)]).length xc21) rfl rfl (by kernel_rfl) (fun w => by kernel_rfl) ?_
        refine ls_end ?_
        refine qn_then ?_
        refine cs_ret' ?_
        obtain rfl := Option.some.inj H
        refine qr_res (rs := [_]) rfl (fun w' hs => ⟨[.slice xA20 (l5_1 ++ [(l0.length : Int)]).length xc21], (res_tmp (by kernel_rfl) (.nil)), (xA20, xc21), rfl, hs.pick (ts := [0]) (cs := [Ck.sl (Ec.int 3 .i64) xA20 xc21 (l5_1 ++ [(l0.length : Int)])]) ⟨by exact rfl, trivial⟩ (by decide)⟩)
    · rintro f S ⟨fr2, rfl, rfl, H⟩
      replace H : ((if 0 ≤ x11_1 then (if x11_1 < (l0.length : Int) then (if x11_1 > (0 : Int) then (if ((l0).getD (x11_1).toNat (0 : Int)) > (IntKind.wrap .i64 (a1 - x6_1)) then (if (l5_1.length + ([x11_1]).length) * 8 ≤ 140737488355328 then lt (IntKind.wrap .i64 ((0 : Int) + ((l0).getD (x11_1).toNat (0 : Int)))) fun y11 => (part_greedy.lo1 l0 a1 k1) (l5_1 ++ [x11_1]) y11 (IntKind.wrap .i64 (x11_1 + (1 : Int))) else none) else lt (IntKind.wrap .i64 (x6_1 + ((l0).getD (x11_1).toNat (0 : Int)))) fun y13 => (part_greedy.lo1 l0 a1 k1) l5_1 y13 (IntKind.wrap .i64 (x11_1 + (1 : Int)))) else lt (IntKind.wrap .i64 (x6_1 + ((l0).getD (x11_1).toNat (0 : Int)))) fun y15 => (part_greedy.lo1 l0 a1 k1) l5_1 y15 (IntKind.wrap .i64 (x11_1 + (1 : Int)))) else none) else none)) = some r := H
      refine cs_seq ?_
      refine cs_block ?_
      refine cs_seq ?_
      refine cs_region (l := [_, _, _, _, _]) ?_
      refine ls_val (v := .int .i64 x11_1) rfl rfl (by kernel_rfl) (fun w => by kernel_rfl) ?_
      obtain ⟨q1, H⟩ := ite_need H
      obtain ⟨q2, H⟩ := ite_need H
      obtain ⟨ad3, hA4⟩ := ido_at (T := (Ec.int 3 .i64)) (l := l0) (i := x11_1) R0 q1 q2
      refine ls_idxv (Ec.int 3 .i64) (A := A0) (c := c0) (l := l0) (k := .i64) (i := x11_1) (z := 1) (ad := ad3) rfl rfl (by kernel_rfl) hA4 rfl (by kernel_rfl) (by kernel_rfl) (by kernel_rfl) (by kernel_rfl) q1 q2 ?_
      refine ls_load (a0 := (ad3.add ((x11_1).toNat * 1))) (v := .int .i64 ((l0).getD (x11_1).toNat (0 : Int))) (de := (TypeDesc.int .i64)) rfl rfl (by kernel_rfl) rfl (by kernel_rfl) (by kernel_rfl) (by kernel_rfl) (fun w hs => (hs.old R0).at hA4 (em_sub (Ec.int 3 .i64) l0 (i := (x11_1).toNat) (by have h0 : (0 : Int) ≤ x11_1 := q1; have h1 : x11_1 < (l0.length : Int) := q2; omega))) ?_
      refine ls_val (v := .int .i64 x11_1) rfl rfl (by kernel_rfl) (fun w => by kernel_rfl) ?_
      refine ls_val (v := .int .i64 ((l0).getD (x11_1).toNat (0 : Int))) rfl rfl (by kernel_rfl) (fun w => by kernel_rfl) ?_
      refine ls_end ?_
      refine qn_then ?_
      refine cs_seq ?_
      refine cs_seq ?_
      refine cs_region (l := [_, _, _, _, _, _, _, _, _]) ?_
      refine ls_val (v := .int .i64 x11_1) rfl rfl (by kernel_rfl) (fun w => by kernel_rfl) ?_
      refine ls_val (v := .bool (decide (x11_1 > (0 : Int)))) rfl rfl (by kernel_rfl) (fun w => by kernel_rfl) ?_
      refine ls_val (v := .bool (decide (x11_1 > (0 : Int)))) rfl rfl (by kernel_rfl) (fun w => by kernel_rfl) ?_
      by_cases q5 : x11_1 > (0 : Int)
      · replace H := ite_t q5 H
        refine ls_know (c := true) (dec_t q5) 18 (by kernel_rfl) ?_
        refine ls_on (j := 2) (t := 18) (b := true) rfl rfl (by kernel_rfl) (by kernel_rfl) ?_
        refine ls_val (v := .int .i64 ((l0).getD (x11_1).toNat (0 : Int))) rfl rfl (by kernel_rfl) (fun w => by kernel_rfl) ?_
        refine ls_on (j := 2) (t := 18) (b := true) rfl rfl (by kernel_rfl) (by kernel_rfl) ?_
        refine ls_val (v := .int .i64 a1) rfl rfl (by kernel_rfl) (fun w => by kernel_rfl) ?_
        refine ls_on (j := 2) (t := 18) (b := true) rfl rfl (by kernel_rfl) (by kernel_rfl) ?_
        refine ls_val (v := .int .i64 x6_1) rfl rfl (by kernel_rfl) (fun w => by kernel_rfl) ?_
        refine ls_on (j := 2) (t := 18) (b := true) rfl rfl (by kernel_rfl) (by kernel_rfl) ?_
        refine ls_val (v := .int .i64 (IntKind.wrap .i64 (a1 - x6_1))) rfl rfl (by kernel_rfl) (fun w => by kernel_rfl) ?_
        refine ls_on (j := 2) (t := 18) (b := true) rfl rfl (by kernel_rfl) (by kernel_rfl) ?_
        refine ls_val (v := .bool (decide (((l0).getD (x11_1).toNat (0 : Int)) > (IntKind.wrap .i64 (a1 - x6_1))))) rfl rfl (by kernel_rfl) (fun w => by kernel_rfl) ?_
        refine ls_val (v := .bool (decide (((l0).getD (x11_1).toNat (0 : Int)) > (IntKind.wrap .i64 (a1 - x6_1))))) rfl rfl (by kernel_rfl) (fun w => by kernel_rfl) ?_
        refine ls_end ?_
        refine qn_then ?_
        by_cases q6 : ((l0).getD (x11_1).toNat (0 : Int)) > (IntKind.wrap .i64 (a1 - x6_1))
        · replace H := ite_t q6 H
          refine cs_know (c := true) (dec_t q6) 24 (by kernel_rfl) ?_
          refine cs_true (by kernel_rfl) ?_
          refine cs_seq ?_
          refine cs_region (l := [_, _, _, _, _]) ?_
          refine ls_val (v := .slice A5_1 l5_1.length c5_1) rfl rfl (by kernel_rfl) (fun w => by kernel_rfl) ?_
          refine ls_val (v := .int .i64 x11_1) rfl rfl (by kernel_rfl) (fun w => by kernel_rfl) ?_
          refine ls_lit (Ec.int 3 .i64) 1 rfl rfl (by kernel_rfl) ([x11_1]) (by exact of_decide_eq_true (by kernel_rfl)) (fun w => by kernel_rfl) ?_
          intro g7
          obtain ⟨q8, H⟩ := ite_need H
          refine ls_app (Ec.int 3 .i64) (A := A5_1) (c := c5_1) (B := (some ⟨g7, 0, none⟩)) (cb := [x11_1].length) (z := (Value.int .i64 0)) (l := l5_1) (m := [x11_1]) (bytes := 8) 0 rfl rfl (by kernel_rfl) rfl (by kernel_rfl) (by exact rfl) (by kernel_rfl) (fun w hs => (hs.rd (k := 1) (by exact rfl))) (by kernel_rfl) (by kernel_rfl) rfl (by decide) q8 ?_
          intro xA9 xc10
          refine ls_val (v := .slice xA9 (l5_1 ++ [x11_1]).length xc10) rfl rfl (by kernel_rfl) (fun w => by kernel_rfl) ?_
          refine ls_end ?_
          refine qn_then ?_
          refine cs_region (l := [_]) ?_
          refine ls_val (v := .int .i64 (0 : Int)) rfl rfl (by kernel_rfl) (fun w => by kernel_rfl) ?_
          refine ls_end ?_
          refine qn_then ?_
          refine cs_region (l := [_, _, _, _]) ?_
          refine ls_val (v := .int .i64 (0 : Int)) rfl rfl (by kernel_rfl) (fun w => by kernel_rfl) ?_
          refine ls_val (v := .int .i64 ((l0).getD (x11_1).toNat (0 : Int))) rfl rfl (by kernel_rfl) (fun w => by kernel_rfl) ?_
          obtain ⟨y11, hy12, H⟩ := lt_some H
          refine ls_val (v := .int .i64 (IntKind.wrap .i64 ((0 : Int) + ((l0).getD (x11_1).toNat (0 : Int))))) rfl rfl (by kernel_rfl) (fun w => by kernel_rfl) ?_
          refine ls_ren 31 (v := .int .i64 (IntKind.wrap .i64 ((0 : Int) + ((l0).getD (x11_1).toNat (0 : Int))))) (v' := .int .i64 y11) (by kernel_rfl) (by rw [hy12]) ?_
          refine ls_val (v := .int .i64 y11) rfl rfl (by kernel_rfl) (fun w => by kernel_rfl) ?_
          refine ls_end ?_
          refine qn_block ?_
          refine qn_then ?_
          refine cs_region (l := [_, _]) ?_
          refine ls_val (v := .int .i64 (IntKind.wrap .i64 (x11_1 + (1 : Int)))) rfl rfl (by kernel_rfl) (fun w => by kernel_rfl) ?_
          refine ls_val (v := .int .i64 (IntKind.wrap .i64 (x11_1 + (1 : Int)))) rfl rfl (by kernel_rfl) (fun w => by kernel_rfl) ?_
          refine ls_end ?_
          refine qn_again k1 (sput s0 0 (some (Ck.sl (Ec.int 3 .i64) xA9 xc10 (l5_1 ++ [x11_1])))) (Nat.le_refl _) ⟨_, xA9, xc10, (l5_1 ++ [x11_1]), y11, (IntKind.wrap .i64 (x11_1 + (1 : Int))), fr_next (fr_next (fr_next (fr_next (fr_next (fr_next (fr_next (rfl) (by kernel_rfl)) (by kernel_rfl)) (by kernel_rfl)) (by kernel_rfl)) (by kernel_rfl)) (by kernel_rfl)) (by kernel_rfl), rfl, H⟩ (sub_put (by exact rfl) (sub_nil _))
        · replace H := ite_f q6 H
          refine cs_know (c := false) (dec_f q6) 24 (by kernel_rfl) ?_
          refine cs_false (by kernel_rfl) ?_
          refine cs_skip' ?_
          refine qn_then ?_
          refine cs_region (l := [_, _, _, _]) ?_
          refine ls_val (v := .int .i64 x6_1) rfl rfl (by kernel_rfl) (fun w => by kernel_rfl) ?_
          refine ls_val (v := .int .i64 ((l0).getD (x11_1).toNat (0 : Int))) rfl rfl (by kernel_rfl) (fun w => by kernel_rfl) ?_
          obtain ⟨y13, hy14, H⟩ := lt_some H
          refine ls_val (v := .int .i64 (IntKind.wrap .i64 (x6_1 + ((l0).getD (x11_1).toNat (0 : Int))))) rfl rfl (by kernel_rfl) (fun w => by kernel_rfl) ?_
          refine ls_ren 31 (v := .int .i64 (IntKind.wrap .i64 (x6_1 + ((l0).getD (x11_1).toNat (0 : Int))))) (v' := .int .i64 y13) (by kernel_rfl) (by rw [hy14]) ?_
          refine ls_val (v := .int .i64 y13) rfl rfl (by kernel_rfl) (fun w => by kernel_rfl) ?_
          refine ls_end ?_
          refine qn_block ?_
          refine qn_then ?_
          refine cs_region (l := [_, _]) ?_
          refine ls_val (v := .int .i64 (IntKind.wrap .i64 (x11_1 + (1 : Int)))) rfl rfl (by kernel_rfl) (fun w => by kernel_rfl) ?_
          refine ls_val (v := .int .i64 (IntKind.wrap .i64 (x11_1 + (1 : Int)))) rfl rfl (by kernel_rfl) (fun w => by kernel_rfl) ?_
          refine ls_end ?_
          refine qn_again k1 (sput s0 0 (some (Ck.sl (Ec.int 3 .i64) A5_1 c5_1 l5_1))) (Nat.le_refl _) ⟨_, A5_1, c5_1, l5_1, y13, (IntKind.wrap .i64 (x11_1 + (1 : Int))), fr_next (fr_next (fr_next (fr_next (fr_next (fr_next (fr_next (rfl) (by kernel_rfl)) (by kernel_rfl)) (by kernel_rfl)) (by kernel_rfl)) (by kernel_rfl)) (by kernel_rfl)) (by kernel_rfl), rfl, H⟩ (sub_put (by exact rfl) (sub_nil _))
      · replace H := ite_f q5 H
        refine ls_know (c := false) (dec_f q5) 18 (by kernel_rfl) ?_
        refine ls_off (j := 2) (t := 18) (b := true) (c := false) rfl rfl (by kernel_rfl) (by kernel_rfl) rfl rfl (by kernel_rfl) ?_
        refine ls_off (j := 2) (t := 18) (b := true) (c := false) rfl rfl (by kernel_rfl) (by kernel_rfl) rfl rfl (by kernel_rfl) ?_
        refine ls_off (j := 2) (t := 18) (b := true) (c := false) rfl rfl (by kernel_rfl) (by kernel_rfl) rfl rfl (by kernel_rfl) ?_
        refine ls_off (j := 2) (t := 18) (b := true) (c := false) rfl rfl (by kernel_rfl) (by kernel_rfl) rfl rfl (by kernel_rfl) ?_
        refine ls_off (j := 2) (t := 18) (b := true) (c := false) rfl rfl (by kernel_rfl) (by kernel_rfl) rfl rfl (by kernel_rfl) ?_
        refine ls_val (v := .bool false) rfl rfl (by kernel_rfl) (fun w => by kernel_rfl) ?_
        refine ls_end ?_
        refine qn_then ?_
        refine cs_false (by kernel_rfl) ?_
        refine cs_skip' ?_
        refine qn_then ?_
        refine cs_region (l := [_, _, _, _]) ?_
        refine ls_val (v := .int .i64 x6_1) rfl rfl (by kernel_rfl) (fun w => by kernel_rfl) ?_
        refine ls_val (v := .int .i64 ((l0).getD (x11_1).toNat (0 : Int))) rfl rfl (by kernel_rfl) (fun w => by kernel_rfl) ?_
        obtain ⟨y15, hy16, H⟩ := lt_some H
        refine ls_val (v := .int .i64 (IntKind.wrap .i64 (x6_1 + ((l0).getD (x11_1).toNat (0 : Int))))) rfl rfl (by kernel_rfl) (fun w => by kernel_rfl) ?_
        refine ls_ren 31 (v := .int .i64 (IntKind.wrap .i64 (x6_1 + ((l0).getD (x11_1).toNat (0 : Int))))) (v' := .int .i64 y15) (by kernel_rfl) (by rw [hy16]) ?_
        refine ls_val (v := .int .i64 y15) rfl rfl (by kernel_rfl) (fun w => by kernel_rfl) ?_
        refine ls_end ?_
        refine qn_block ?_
        refine qn_then ?_
        refine cs_region (l := [_, _]) ?_
        refine ls_val (v := .int .i64 (IntKind.wrap .i64 (x11_1 + (1 : Int)))) rfl rfl (by kernel_rfl) (fun w => by kernel_rfl) ?_
        refine ls_val (v := .int .i64 (IntKind.wrap .i64 (x11_1 + (1 : Int)))) rfl rfl (by kernel_rfl) (fun w => by kernel_rfl) ?_
        refine ls_end ?_
        refine qn_again k1 (sput s0 0 (some (Ck.sl (Ec.int 3 .i64) A5_1 c5_1 l5_1))) (Nat.le_refl _) ⟨_, A5_1, c5_1, l5_1, y15, (IntKind.wrap .i64 (x11_1 + (1 : Int))), fr_next (fr_next (fr_next (fr_next (fr_next (fr_next (fr_next (rfl) (by kernel_rfl)) (by kernel_rfl)) (by kernel_rfl)) (by kernel_rfl)) (by kernel_rfl)) (by kernel_rfl)) (by kernel_rfl), rfl, H⟩ (sub_put (by exact rfl) (sub_nil _))

/-! ### slices.Max[[]int,int]: function 30 -/
def slices_Max_int_int.lo2 (l0 : List Int) : Nat → Int → Int → Option (Int)
  | 0, _, _ => none
  | k2 + 1, x3_2, x4_2 => (if x4_2 < (l0.length : Int) then (if 0 ≤ x4_2 then lt ((if x3_2 < ((l0).getD (x4_2).toNat (0 : Int)) then ((l0).getD (x4_2).toNat (0 : Int)) else x3_2)) fun y8 => (slices_Max_int_int.lo2 l0 k2) y8 (IntKind.wrap .i64 (x4_2 + (1 : Int))) else none) else some x3_2)
def slices_Max_int_int.jo1 (k : Nat) (l0 : List Int) : Option (Int) := (if (0 : Int) < (l0.length : Int) then slices_Max_int_int.lo2 l0 k ((l0).getD ((0 : Int)).toNat (0 : Int)) (1 : Int) else none)
def slices_Max_int_int.f (k : Nat) (l0 : List Int) : Option (Int) :=
  (if (l0.length : Int) < (1 : Int) then none else (slices_Max_int_int.jo1 k l0))
set_option maxRecDepth 100000 in
set_option maxHeartbeats 4000000 in
theorem slices_Max_int_int.calls (k : Nat) (A0 : Option Addr) (c0 : Nat) (l0 : List Int) (r : Int) (b : Bs) (hs0 : St b (stl []) b.w) (R0 : Ro b A0 (em (Ec.int 3 .i64) l0)) (C0 : l0.length ≤ c0) (H : slices_Max_int_int.f k l0 = some r) :
    Calls Try.prog 30 #[.slice A0 l0.length c0] b.w fun e w' => ∃ x : Unit, e = .returned (.int .i64 r) ∧ St b (stl []) w' := by
  unfold slices_Max_int_int.f at H
  refine enterb (n := 25) Try.func30 rfl (by kernel_rfl) (by kernel_rfl) hs0 ?_
  refine cs_sub (s0) (sub_nil _) ?_
  refine cs_seq ?_
  refine cs_region (l := [_]) ?_
  refine ls_val (v := .int .i64 (0 : Int)) rfl rfl (by kernel_rfl) (fun w => by kernel_rfl) ?_
  refine ls_end ?_
  refine qn_then ?_
  refine cs_cut (fun f S => ∃ (fR : Fr), f = upd fR 0 (.slice A0 l0.length c0) ∧ S = s0 ∧ slices_Max_int_int.jo1 k l0 = some r) ?_ ?_
  · skip
    refine cs_seq ?_
    refine cs_region (l := [_, _, _]) ?_
    refine ls_val (v := .slice A0 l0.length c0) rfl rfl (by kernel_rfl) (fun w => by kernel_rfl) ?_
    refine ls_val (v := .int .i64 (l0.length : Int)) rfl rfl (by kernel_rfl) (fun w => by kernel_rfl) ?_
    refine ls_val (v := .bool (decide ((l0.length : Int) < (1 : Int)))) rfl rfl (by kernel_rfl) (fun w => by kernel_rfl) ?_
    refine ls_end ?_
    refine qn_then ?_
    by_cases q10 : (l0.length : Int) < (1 : Int)
    · replace H := ite_t q10 H
      refine cs_know (c := true) (dec_t q10) 7 (by kernel_rfl) ?_
      refine cs_true (by kernel_rfl) ?_
      refine cs_region (l := [_, _]) ?_
      cases H
    · replace H := ite_f q10 H
      refine cs_know (c := false) (dec_f q10) 7 (by kernel_rfl) ?_
      refine cs_false (by kernel_rfl) ?_
      refine cs_skip' ?_
      refine qn_meet (s0) ⟨_, fr_next (rfl) (by kernel_rfl), rfl, H⟩ (sub_nil _)
  · rintro f S ⟨fr1, rfl, rfl, H⟩
    replace H : ((if (0 : Int) < (l0.length : Int) then slices_Max_int_int.lo2 l0 k ((l0).getD ((0 : Int)).toNat (0 : Int)) (1 : Int) else none)) = some r := H
    refine cs_seq ?_
    refine cs_region (l := [_, _, _, _]) ?_
    refine ls_val (v := .slice A0 l0.length c0) rfl rfl (by kernel_rfl) (fun w => by kernel_rfl) ?_
    obtain ⟨q1, H⟩ := ite_need H
    obtain ⟨ad2, hA3⟩ := ido_at (T := (Ec.int 3 .i64)) (l := l0) (i := (0 : Int)) R0 (by decide) q1
    refine ls_idxv (Ec.int 3 .i64) (A := A0) (c := c0) (l := l0) (k := .i64) (i := (0 : Int)) (z := 1) (ad := ad2) rfl rfl (by kernel_rfl) hA3 rfl (by kernel_rfl) (by kernel_rfl) (by kernel_rfl) (by kernel_rfl) (by decide) q1 ?_
    refine ls_load (a0 := (ad2.add (((0 : Int)).toNat * 1))) (v := .int .i64 ((l0).getD ((0 : Int)).toNat (0 : Int))) (de := (TypeDesc.int .i64)) rfl rfl (by kernel_rfl) rfl (by kernel_rfl) (by kernel_rfl) (by kernel_rfl) (fun w hs => (hs.old R0).at hA3 (em_sub (Ec.int 3 .i64) l0 (i := ((0 : Int)).toNat) (by have h0 : (0 : Int) ≤ (0 : Int) := (by decide); have h1 : (0 : Int) < (l0.length : Int) := q1; omega))) ?_
    refine ls_val (v := .int .i64 ((l0).getD ((0 : Int)).toNat (0 : Int))) rfl rfl (by kernel_rfl) (fun w => by kernel_rfl) ?_
    refine ls_end ?_
    refine qn_then ?_
    refine cs_seq ?_
    refine cs_seq ?_
    refine cs_region (l := [_]) ?_
    refine ls_val (v := .int .i64 (1 : Int)) rfl rfl (by kernel_rfl) (fun w => by kernel_rfl) ?_
    refine ls_end ?_
    refine qn_then ?_
    refine cs_block ?_
    refine cs_sub (s0) (sub_nil _) ?_
    refine cs_loop (fun kk f S => ∃ (fR : Fr) (x3_2 : Int) (x4_2 : Int), f = upd (upd (upd fR 0 (.slice A0 l0.length c0)) 3 (.int .i64 x3_2)) 4 (.int .i64 x4_2) ∧ S = s0 ∧ slices_Max_int_int.lo2 l0 kk x3_2 x4_2 = some r) k ?_ ?_ ?_
    · exact ⟨_, ((l0).getD ((0 : Int)).toNat (0 : Int)), (1 : Int), fr_next (fr_next (fr_next (rfl) (by kernel_rfl)) (by kernel_rfl)) (by kernel_rfl), rfl, H⟩
    · rintro f S ⟨fr2, x3_2, x4_2, rfl, rfl, H⟩; cases H
    · rintro k2 f S ⟨fr2, x3_2, x4_2, rfl, rfl, H⟩
      replace H : ((if x4_2 < (l0.length : Int) then (if 0 ≤ x4_2 then lt ((if x3_2 < ((l0).getD (x4_2).toNat (0 : Int)) then ((l0).getD (x4_2).toNat (0 : Int)) else x3_2)) fun y8 => (slices_Max_int_int.lo2 l0 k2) y8 (IntKind.wrap .i64 (x4_2 + (1 : Int))) else none) else some x3_2)) = some r := H
      refine cs_seq ?_
      refine cs_seq ?_
      refine cs_region (l := [_, _, _, _]) ?_
      refine ls_val (v := .int .i64 x4_2) rfl rfl (by kernel_rfl) (fun w => by kernel_rfl) ?_
      refine ls_val (v := .slice A0 l0.length c0) rfl rfl (by kernel_rfl) (fun w => by kernel_rfl) ?_
      refine ls_val (v := .int .i64 (l0.length : Int)) rfl rfl (by kernel_rfl) (fun w => by kernel_rfl) ?_
      refine ls_val (v := .bool (decide (x4_2 < (l0.length : Int)))) rfl rfl (by kernel_rfl) (fun w => by kernel_rfl) ?_
      refine ls_end ?_
      refine qn_then ?_
      by_cases q4 : x4_2 < (l0.length : Int)
      · replace H := ite_t q4 H
        refine cs_know (c := true) (dec_t q4) 15 (by kernel_rfl) ?_
        refine cs_true (by kernel_rfl) ?_
        refine cs_skip' ?_
        refine qn_then ?_
        refine cs_seq ?_
        refine cs_block ?_
        refine cs_region (l := [_, _, _, _, _, _, _]) ?_
        refine ls_val (v := .int .i64 x3_2) rfl rfl (by kernel_rfl) (fun w => by kernel_rfl) ?_
        refine ls_val (v := .slice A0 l0.length c0) rfl rfl (by kernel_rfl) (fun w => by kernel_rfl) ?_
        refine ls_val (v := .int .i64 x4_2) rfl rfl (by kernel_rfl) (fun w => by kernel_rfl) ?_
        obtain ⟨q5, H⟩ := ite_need H
        obtain ⟨ad6, hA7⟩ := ido_at (T := (Ec.int 3 .i64)) (l := l0) (i := x4_2) R0 q5 q4
        refine ls_idxv (Ec.int 3 .i64) (A := A0) (c := c0) (l := l0) (k := .i64) (i := x4_2) (z := 1) (ad := ad6) rfl rfl (by kernel_rfl) hA7 rfl (by kernel_rfl) (by kernel_rfl) (by kernel_rfl) (by kernel_rfl) q5 q4 ?_
        refine ls_load (a0 := (ad6.add ((x4_2).toNat * 1))) (v := .int .i64 ((l0).getD (x4_2).toNat (0 : Int))) (de := (TypeDesc.int .i64)) rfl rfl (by kernel_rfl) rfl (by kernel_rfl) (by kernel_rfl) (by kernel_rfl) (fun w hs => (hs.old R0).at hA7 (em_sub (Ec.int 3 .i64) l0 (i := (x4_2).toNat) (by have h0 : (0 : Int) ≤ x4_2 := q5; have h1 : x4_2 < (l0.length : Int) := q4; omega))) ?_
        obtain ⟨y8, hy9, H⟩ := lt_some H
        refine ls_val (v := .int .i64 (if x3_2 < ((l0).getD (x4_2).toNat (0 : Int)) then ((l0).getD (x4_2).toNat (0 : Int)) else x3_2)) rfl rfl (by kernel_rfl) (fun w => by kernel_rfl) ?_
        refine ls_ren 23 (v := .int .i64 (if x3_2 < ((l0).getD (x4_2).toNat (0 : Int)) then ((l0).getD (x4_2).toNat (0 : Int)) else x3_2)) (v' := .int .i64 y8) (by kernel_rfl) (by rw [hy9]) ?_
        refine ls_val (v := .int .i64 y8) rfl rfl (by kernel_rfl) (fun w => by kernel_rfl) ?_
        refine ls_end ?_
        refine qn_block ?_
        refine qn_then ?_
        refine cs_region (l := [_, _, _]) ?_
        refine ls_val (v := .int .i64 x4_2) rfl rfl (by kernel_rfl) (fun w => by kernel_rfl) ?_
        refine ls_val (v := .int .i64 (IntKind.wrap .i64 (x4_2 + (1 : Int)))) rfl rfl (by kernel_rfl) (fun w => by kernel_rfl) ?_
        refine ls_val (v := .int .i64 (IntKind.wrap .i64 (x4_2 + (1 : Int)))) rfl rfl (by kernel_rfl) (fun w => by kernel_rfl) ?_
        refine ls_end ?_
        refine qn_again k2 (s0) (Nat.le_refl _) ⟨_, y8, (IntKind.wrap .i64 (x4_2 + (1 : Int))), fr_next (fr_next (fr_next (rfl) (by kernel_rfl)) (by kernel_rfl)) (by kernel_rfl), rfl, H⟩ (sub_nil _)
      · replace H := ite_f q4 H
        refine cs_know (c := false) (dec_f q4) 15 (by kernel_rfl) ?_
        refine cs_false (by kernel_rfl) ?_
        refine cs_exit' ?_
        refine qx_then ?_
        refine qx_then ?_
        refine qx_same ?_
        refine qn_then ?_
        refine cs_seq ?_
        refine cs_region (l := [_, _]) ?_
        refine ls_val (v := .int .i64 x3_2) rfl rfl (by kernel_rfl) (fun w => by kernel_rfl) ?_
        refine ls_val (v := .int .i64 x3_2) rfl rfl (by kernel_rfl) (fun w => by kernel_rfl) ?_
        refine ls_end ?_
        refine qn_then ?_
        refine cs_ret' ?_
        obtain rfl := Option.some.inj H
        refine qr_res (rs := [_]) rfl (fun w' hs => ⟨[.int .i64 x3_2], (res_tmp (by kernel_rfl) (.nil)), (), rfl, hs.pick (ts := []) (cs := []) trivial (by decide)⟩)

/-! ### shadowbox/part.Cut$1: function 31 -/
def part_Cut_1.tab0 : List (List Nat) := [[], [], [], [1, 2], [0, 1, 2, 3], [0, 1, 2, 3, 4], [], [0, 1, 2, 3, 4, 5, 6], [0, 1, 2, 3, 4, 5, 6, 7]]
def part_Cut_1.f (k : Nat) (a0 : Int) (v1 : (List Int)) (v2 : Int) (v3 : Int) : Option (Bool) :=
  (part_greedy.f k v1 (IntKind.wrap .i64 (v2 + a0))).bind fun t3 => some (decide ((t3.length : Int) ≤ v3))
set_option maxRecDepth 100000 in
set_option maxHeartbeats 4000000 in
theorem part_Cut_1.calls (k : Nat) (a0 : Int) (pg1 : Nat) (A1 : Option Addr) (c1 : Nat) (v1 : (List Int)) (pg2 : Nat) (v2 : Int) (pg3 : Nat) (v3 : Int) (r : Bool) (b : Bs) (hs0 : St b (stl [Ck.var 31 pg1 ([Value.slice A1 v1.length c1]), Ck.var 3 pg2 ([Value.int .i64 v2]), Ck.var 3 pg3 ([Value.int .i64 v3])]) b.w) (R1 : Ro b A1 (em (Ec.int 3 .i64) v1)) (C1 : v1.length ≤ c1) (H : part_Cut_1.f k a0 v1 v2 v3 = some r) :
    Calls Try.prog 31 #[.int .i64 a0, .pointer (some ⟨pg1, 0, none⟩), .pointer (some ⟨pg2, 0, none⟩), .pointer (some ⟨pg3, 0, none⟩)] b.w fun e w' => ∃ x : Unit, e = .returned (.bool r) ∧ St b (stl [Ck.var 31 pg1 ([Value.slice A1 v1.length c1]), Ck.var 3 pg2 ([Value.int .i64 v2]), Ck.var 3 pg3 ([Value.int .i64 v3])]) w' := by
  unfold part_Cut_1.f at H
  refine enterb (n := 14) Try.func31 rfl (by kernel_rfl) (by kernel_rfl) hs0 ?_
  refine cs_sub (sput (sput (sput s0 0 (some (Ck.var 31 pg1 ([Value.slice A1 v1.length c1])))) 1 (some (Ck.var 3 pg2 ([Value.int .i64 v2])))) 2 (some (Ck.var 3 pg3 ([Value.int .i64 v3])))) (sub_put (by exact rfl) (sub_put (by exact rfl) (sub_put (by exact rfl) (sub_nil _)))) ?_
  refine cs_seq ?_
  refine cs_region (l := [_]) ?_
  refine ls_val (v := .bool false) rfl rfl (by kernel_rfl) (fun w => by kernel_rfl) ?_
  refine ls_end ?_
  refine qn_then ?_
  refine cs_seq ?_
  obtain ⟨s2_0, hs2_0⟩ : ∃ z : Value → Sto → Prop, z = (fun v R => v = .slice A1 v1.length c1 ∧ R = s0) := ⟨_, rfl⟩
  refine have_op (l := [_, _, _, _, _, _, _, _, _]) part_Cut_1.tab0 3 0 (fun sp => sp 0 = s2_0) (fun sp on hA hon => ?_) (fun ops2_0 => ?_)
  · refine ⟨fun o ho vs Rs f' S' w hp hf hx hS hR hs => ?_⟩
    obtain rfl := Option.some.inj ho
    rw [hA, hs2_0]
    refine And.intro (fun a ha => (want_none rfl a ha).trans hon.symm) (And.intro (fun _ => ?_) (fun h => by rw [hon] at h; cases h))
    have hF := fr_next (rfl) ((hx 1 (by kernel_rfl)).trans (by kernel_rfl : (_ : Value) = .pointer (some ⟨pg1, 0, none⟩)))
    refine ls_fr hF ?_
    refine ls_load (a0 := ⟨pg1, 0, none⟩) (v := .slice A1 v1.length c1) (de := (TypeDesc.slice 3)) rfl rfl (by kernel_rfl) rfl (by kernel_rfl) (by kernel_rfl) (by kernel_rfl) (fun w1 hs1 => cell_step hs1.below.bw (hs.var (k := 0) ((hS 0 (by kernel_rfl)).trans (by exact rfl)) (Sub4.all _))) ?_
    exact ls_fin s0 (.slice A1 v1.length c1) (congrArg (fun z => upd z 6 _) hF.symm) ⟨rfl, rfl⟩ (sub_nil _)
  obtain ⟨s2_1, hs2_1⟩ : ∃ z : Value → Sto → Prop, z = (fun v R => v = .int .i64 v2 ∧ R = s0) := ⟨_, rfl⟩
  refine have_op (l := [_, _, _, _, _, _, _, _, _]) part_Cut_1.tab0 3 1 (fun sp => sp 1 = s2_1) (fun sp on hA hon => ?_) (fun ops2_1 => ?_)
  · refine ⟨fun o ho vs Rs f' S' w hp hf hx hS hR hs => ?_⟩
    obtain rfl := Option.some.inj ho
    rw [hA, hs2_1]
    refine And.intro (fun a ha => (want_none rfl a ha).trans hon.symm) (And.intro (fun _ => ?_) (fun h => by rw [hon] at h; cases h))
    have hF := fr_next (rfl) ((hx 2 (by kernel_rfl)).trans (by kernel_rfl : (_ : Value) = .pointer (some ⟨pg2, 0, none⟩)))
    refine ls_fr hF ?_
    refine ls_load (a0 := ⟨pg2, 0, none⟩) (v := .int .i64 v2) (de := (TypeDesc.int .i64)) rfl rfl (by kernel_rfl) rfl (by kernel_rfl) (by kernel_rfl) (by kernel_rfl) (fun w1 hs1 => cell_step hs1.below.bw (hs.var (k := 1) ((hS 1 (by kernel_rfl)).trans (by exact rfl)) (Sub4.all _))) ?_
    exact ls_fin s0 (.int .i64 v2) (congrArg (fun z => upd z 7 _) hF.symm) ⟨rfl, rfl⟩ (sub_nil _)
  obtain ⟨s2_2, hs2_2⟩ : ∃ z : Value → Sto → Prop, z = (fun v R => v = .int .i64 a0 ∧ R = s0) := ⟨_, rfl⟩
  refine have_op (l := [_, _, _, _, _, _, _, _, _]) part_Cut_1.tab0 3 2 (fun sp => sp 2 = s2_2) (fun sp on hA hon => ?_) (fun ops2_2 => ?_)
  · refine ⟨fun o ho vs Rs f' S' w hp hf hx hS hR hs => ?_⟩
    obtain rfl := Option.some.inj ho
    rw [hA, hs2_2]
    refine And.intro (fun a ha => (want_none rfl a ha).trans hon.symm) (And.intro (fun _ => ?_) (fun h => by rw [hon] at h; cases h))
    have hF := fr_next (rfl) ((hx 0 (by kernel_rfl)).trans (by kernel_rfl : (_ : Value) = .int .i64 a0))
    refine ls_fr hF ?_
    refine ls_val (v := .int .i64 a0) rfl rfl (by kernel_rfl) (fun w => by kernel_rfl) ?_
    exact ls_fin s0 (.int .i64 a0) (congrArg (fun z => upd z 8 _) hF.symm) ⟨rfl, rfl⟩ (sub_nil _)
  obtain ⟨s2_3, hs2_3⟩ : ∃ z : Value → Sto → Prop, z = (fun v R => v = .int .i64 (IntKind.wrap .i64 (v2 + a0)) ∧ R = s0) := ⟨_, rfl⟩
  refine have_op (l := [_, _, _, _, _, _, _, _, _]) part_Cut_1.tab0 3 3 (fun sp => sp 3 = s2_3 ∧ sp 1 = s2_1 ∧ sp 2 = s2_2) (fun sp on hA hon => ?_) (fun ops2_3 => ?_)
  · refine ⟨fun o ho vs Rs f' S' w hp hf hx hS hR hs => ?_⟩
    obtain rfl := Option.some.inj ho
    obtain ⟨hv1, hR1⟩ := (spe hA.2.1 hs2_1 (hp 1 (by kernel_rfl)))
    obtain ⟨hv2, hR2⟩ := (spe hA.2.2 hs2_2 (hp 2 (by kernel_rfl)))
    rw [hA.1, hs2_3]
    refine And.intro (fun a ha => (want_none rfl a ha).trans hon.symm) (And.intro (fun _ => ?_) (fun h => by rw [hon] at h; cases h))
    have hF := fr_next (fr_next (rfl) ((hf 1 7 (by kernel_rfl) rfl).trans hv1)) ((hf 2 8 (by kernel_rfl) rfl).trans hv2)
    refine ls_fr hF ?_
    refine ls_val (v := .int .i64 (IntKind.wrap .i64 (v2 + a0))) rfl rfl (by kernel_rfl) (fun w => by kernel_rfl) ?_
    exact ls_fin s0 (.int .i64 (IntKind.wrap .i64 (v2 + a0))) (congrArg (fun z => upd z 9 _) hF.symm) ⟨rfl, rfl⟩ (sub_nil _)
  obtain ⟨t3, hc4, H⟩ := bind_some H
  obtain ⟨s2_4, hs2_4⟩ : ∃ z : Value → Sto → Prop, z = (fun v R => ∃ x5 : (Option Addr × Nat), v = .slice x5.1 t3.length x5.2 ∧ R = stl [Ck.sl (Ec.int 3 .i64) x5.1 x5.2 t3]) := ⟨_, rfl⟩
  refine have_op (l := [_, _, _, _, _, _, _, _, _]) part_Cut_1.tab0 3 4 (fun sp => sp 4 = s2_4 ∧ sp 0 = s2_0 ∧ sp 3 = s2_3) (fun sp on hA hon => ?_) (fun ops2_4 => ?_)
  · refine ⟨fun o ho vs Rs f' S' w hp hf hx hS hR hs => ?_⟩
    obtain rfl := Option.some.inj ho
    obtain ⟨hv0, hR0⟩ := (spe hA.2.1 hs2_0 (hp 0 (by kernel_rfl)))
    obtain ⟨hv3, hR3⟩ := (spe hA.2.2 hs2_3 (hp 3 (by kernel_rfl)))
    rw [hA.1, hs2_4]
    refine And.intro (fun a ha => (want_none rfl a ha).trans hon.symm) (And.intro (fun _ => ?_) (fun h => by rw [hon] at h; cases h))
    have hF := fr_next (fr_next (rfl) ((hf 0 6 (by kernel_rfl) rfl).trans hv0)) ((hf 3 9 (by kernel_rfl) rfl).trans hv3)
    refine ls_fr hF ?_
    refine ls_call (fid := 29) (vals := #[.slice A1 v1.length c1, .int .i64 (IntKind.wrap .i64 (v2 + a0))]) (X := (Option Addr × Nat)) (fun x => .slice x.1 t3.length x.2) (fun x => stl [Ck.sl (Ec.int 3 .i64) x.1 x.2 t3]) 0 rfl rfl (by kernel_rfl) (fun w => by kernel_rfl) (fun w1 hs1 => part_greedy.calls k A1 c1 v1 (IntKind.wrap .i64 (v2 + a0)) t3 (bw w1) (St.refl w1) (Rd.ro (Rd.step (hs.old R1) hs1.below.bw)) C1 hc4) ?_
    intro x5
    exact ls_fin (stl [Ck.sl (Ec.int 3 .i64) x5.1 x5.2 t3]) (.slice x5.1 t3.length x5.2) (congrArg (fun z => upd z 10 _) hF.symm) ⟨x5, rfl, rfl⟩ (sub_join _)
  obtain ⟨s2_5, hs2_5⟩ : ∃ z : Value → Sto → Prop, z = (fun v R => v = .int .i64 (t3.length : Int) ∧ R = s0) := ⟨_, rfl⟩
  refine have_op (l := [_, _, _, _, _, _, _, _, _]) part_Cut_1.tab0 3 5 (fun sp => sp 5 = s2_5 ∧ sp 4 = s2_4) (fun sp on hA hon => ?_) (fun ops2_5 => ?_)
  · refine ⟨fun o ho vs Rs f' S' w hp hf hx hS hR hs => ?_⟩
    obtain rfl := Option.some.inj ho
    obtain ⟨x5, hv4, hR4⟩ := (spe hA.2 hs2_4 (hp 4 (by kernel_rfl)))
    have hT4_0 := (hR 4 0 (by kernel_rfl) (by decide)).trans (congrFun hR4 0)
    rw [hA.1, hs2_5]
    refine And.intro (fun a ha => (want_none rfl a ha).trans hon.symm) (And.intro (fun _ => ?_) (fun h => by rw [hon] at h; cases h))
    have hF := fr_next (rfl) ((hf 4 10 (by kernel_rfl) rfl).trans hv4)
    refine ls_fr hF ?_
    refine ls_val (v := .int .i64 (t3.length : Int)) rfl rfl (by kernel_rfl) (fun w => by kernel_rfl) ?_
    exact ls_fin s0 (.int .i64 (t3.length : Int)) (congrArg (fun z => upd z 11 _) hF.symm) ⟨rfl, rfl⟩ (sub_nil _)
  obtain ⟨s2_6, hs2_6⟩ : ∃ z : Value → Sto → Prop, z = (fun v R => v = .int .i64 v3 ∧ R = s0) := ⟨_, rfl⟩
  refine have_op (l := [_, _, _, _, _, _, _, _, _]) part_Cut_1.tab0 3 6 (fun sp => sp 6 = s2_6) (fun sp on hA hon => ?_) (fun ops2_6 => ?_)
  · refine ⟨fun o ho vs Rs f' S' w hp hf hx hS hR hs => ?_⟩
    obtain rfl := Option.some.inj ho
    rw [hA, hs2_6]
    refine And.intro (fun a ha => (want_none rfl a ha).trans hon.symm) (And.intro (fun _ => ?_) (fun h => by rw [hon] at h; cases h))
    have hF := fr_next (rfl) ((hx 3 (by kernel_rfl)).trans (by kernel_rfl : (_ : Value) = .pointer (some ⟨pg3, 0, none⟩)))
    refine ls_fr hF ?_
    refine ls_load (a0 := ⟨pg3, 0, none⟩) (v := .int .i64 v3) (de := (TypeDesc.int .i64)) rfl rfl (by kernel_rfl) rfl (by kernel_rfl) (by kernel_rfl) (by kernel_rfl) (fun w1 hs1 => cell_step hs1.below.bw (hs.var (k := 2) ((hS 2 (by kernel_rfl)).trans (by exact rfl)) (Sub4.all _))) ?_
    exact ls_fin s0 (.int .i64 v3) (congrArg (fun z => upd z 12 _) hF.symm) ⟨rfl, rfl⟩ (sub_nil _)
  refine cs_draw part_Cut_1.tab0 7 3 (spl [s2_0, s2_1, s2_2, s2_3, s2_4, s2_5, s2_6]) (onl [true, true, true, true, true, true, true]) (by kernel_rfl) (by kernel_rfl) (by kernel_rfl) (by kernel_rfl) (rs := [_, _]) rfl (by kernel_rfl) (by kernel_rfl) (all_snoc (all_snoc (all_snoc (all_snoc (all_snoc (all_snoc (all_snoc (all_nil) (ops2_0 _ _ rfl rfl)) (ops2_1 _ _ rfl rfl)) (ops2_2 _ _ rfl rfl)) (ops2_3 _ _ ⟨rfl, rfl, rfl⟩ rfl)) (ops2_4 _ _ ⟨rfl, rfl, rfl⟩ rfl)) (ops2_5 _ _ ⟨rfl, rfl⟩ rfl)) (ops2_6 _ _ rfl rfl)) ?_
  intro vs Rs f' S' hp hf hx hS hR
  obtain ⟨x5, hv4, hR4⟩ := (spe rfl hs2_4 (hp 4 (by kernel_rfl)))
  have hT4_0 := (hR 4 0 (by kernel_rfl) (by decide)).trans (congrFun hR4 0)
  obtain ⟨hv5, hR5⟩ := (spe rfl hs2_5 (hp 5 (by kernel_rfl)))
  obtain ⟨hv6, hR6⟩ := (spe rfl hs2_6 (hp 6 (by kernel_rfl)))
  refine ls_fr (F := upd (upd f' 11 (.int .i64 (t3.length : Int))) 12 (.int .i64 v3)) (fr_next (fr_next (rfl) ((hf 5 11 (by kernel_rfl) rfl).trans hv5)) ((hf 6 12 (by kernel_rfl) rfl).trans hv6)) ?_
  refine ls_sub (sput (sput (sput s0 0 (some (Ck.var 31 pg1 ([Value.slice A1 v1.length c1])))) 1 (some (Ck.var 3 pg2 ([Value.int .i64 v2])))) 2 (some (Ck.var 3 pg3 ([Value.int .i64 v3])))) (sub_put ((hS 2 (by kernel_rfl)).trans (by exact rfl)) (sub_put ((hS 1 (by kernel_rfl)).trans (by exact rfl)) (sub_put ((hS 0 (by kernel_rfl)).trans (by exact rfl)) (sub_nil _)))) ?_
  refine ls_val (v := .bool (decide ((t3.length : Int) ≤ v3))) rfl rfl (by kernel_rfl) (fun w => by kernel_rfl) ?_
  refine ls_val (v := .bool (decide ((t3.length : Int) ≤ v3))) rfl rfl (by kernel_rfl) (fun w => by kernel_rfl) ?_
  refine ls_end ?_
  refine qn_then ?_
  refine cs_ret' ?_
  obtain rfl := Option.some.inj H
  refine qr_res (rs := [_]) rfl (fun w' hs => ⟨[.bool (decide ((t3.length : Int) ≤ v3))], (res_tmp (by kernel_rfl) (.nil)), (), rfl, hs.pick (ts := [0, 1, 2]) (cs := [Ck.var 31 pg1 ([Value.slice A1 v1.length c1]), Ck.var 3 pg2 ([Value.int .i64 v2]), Ck.var 3 pg3 ([Value.int .i64 v3])]) ⟨by exact rfl, by exact rfl, by exact rfl, trivial⟩ (by decide)⟩)

/-! ### sort.Search, specialized: function 32 -/
def sort_Search_s31.lo1 (v1_0 : (List Int)) (v1_1 : Int) (v1_2 : Int) : Nat → Int → Int → Option (Int)
  | 0, _, _ => none
  | k1 + 1, x5_1, x6_1 => (if x5_1 < x6_1 then lt (IntKind.wrap .u64 (IntKind.wrap .i64 (x5_1 + x6_1))) fun y2 => (part_Cut_1.f k1 (IntKind.wrap .i64 (Int.fdiv y2 2)) v1_0 v1_1 v1_2).bind fun t4 => (if t4 = true then (sort_Search_s31.lo1 v1_0 v1_1 v1_2 k1) x5_1 (IntKind.wrap .i64 (Int.fdiv y2 2)) else lt (IntKind.wrap .i64 ((IntKind.wrap .i64 (Int.fdiv y2 2)) + (1 : Int))) fun y8 => (sort_Search_s31.lo1 v1_0 v1_1 v1_2 k1) y8 x6_1) else some x5_1)
def sort_Search_s31.f (k : Nat) (a0 : Int) (v1_0 : (List Int)) (v1_1 : Int) (v1_2 : Int) : Option (Int) :=
  sort_Search_s31.lo1 v1_0 v1_1 v1_2 k (0 : Int) a0
set_option maxRecDepth 100000 in
set_option maxHeartbeats 4000000 in
theorem sort_Search_s31.calls (k : Nat) (a0 : Int) (pg1_0 : Nat) (A1_0 : Option Addr) (c1_0 : Nat) (v1_0 : (List Int)) (pg1_1 : Nat) (v1_1 : Int) (pg1_2 : Nat) (v1_2 : Int) (r : Int) (b : Bs) (hs0 : St b (stl [Ck.var 31 pg1_0 ([Value.slice A1_0 v1_0.length c1_0]), Ck.var 3 pg1_1 ([Value.int .i64 v1_1]), Ck.var 3 pg1_2 ([Value.int .i64 v1_2])]) b.w) (R1_0 : Ro b A1_0 (em (Ec.int 3 .i64) v1_0)) (C1_0 : v1_0.length ≤ c1_0) (H : sort_Search_s31.f k a0 v1_0 v1_1 v1_2 = some r) :
    Calls Try.prog 32 #[.int .i64 a0, .func (.func 31) #[] #[.pointer (some ⟨pg1_0, 0, none⟩), .pointer (some ⟨pg1_1, 0, none⟩), .pointer (some ⟨pg1_2, 0, none⟩)]] b.w fun e w' => ∃ x : Unit, e = .returned (.int .i64 r) ∧ St b (stl [Ck.var 31 pg1_0 ([Value.slice A1_0 v1_0.length c1_0]), Ck.var 3 pg1_1 ([Value.int .i64 v1_1]), Ck.var 3 pg1_2 ([Value.int .i64 v1_2])]) w' := by
  unfold sort_Search_s31.f at H
  refine enterb (n := 26) Try.func32 rfl (by kernel_rfl) (by kernel_rfl) hs0 ?_
  refine cs_sub (sput (sput (sput s0 0 (some (Ck.var 31 pg1_0 ([Value.slice A1_0 v1_0.length c1_0])))) 1 (some (Ck.var 3 pg1_1 ([Value.int .i64 v1_1])))) 2 (some (Ck.var 3 pg1_2 ([Value.int .i64 v1_2])))) (sub_put (by exact rfl) (sub_put (by exact rfl) (sub_put (by exact rfl) (sub_nil _)))) ?_
  refine cs_seq ?_
  refine cs_region (l := [_]) ?_
  refine ls_val (v := .int .i64 (0 : Int)) rfl rfl (by kernel_rfl) (fun w => by kernel_rfl) ?_
  refine ls_end ?_
  refine qn_then ?_
  refine cs_seq ?_
  refine cs_region (l := [_, _, _]) ?_
  refine ls_val (v := .int .i64 a0) rfl rfl (by kernel_rfl) (fun w => by kernel_rfl) ?_
  refine ls_val (v := .int .i64 (0 : Int)) rfl rfl (by kernel_rfl) (fun w => by kernel_rfl) ?_
  refine ls_val (v := .int .i64 a0) rfl rfl (by kernel_rfl) (fun w => by kernel_rfl) ?_
  refine ls_end ?_
  refine qn_then ?_
  refine cs_seq ?_
  refine cs_block ?_
  refine cs_sub (sput (sput (sput s0 0 (some (Ck.var 31 pg1_0 ([Value.slice A1_0 v1_0.length c1_0])))) 1 (some (Ck.var 3 pg1_1 ([Value.int .i64 v1_1])))) 2 (some (Ck.var 3 pg1_2 ([Value.int .i64 v1_2])))) (sub_put (by exact rfl) (sub_put (by exact rfl) (sub_put (by exact rfl) (sub_nil _)))) ?_
  refine cs_loop (fun kk f S => ∃ (fR : Fr) (x5_1 : Int) (x6_1 : Int), f = upd (upd (upd fR 1 (.func (.func 31) #[] #[.pointer (some ⟨pg1_0, 0, none⟩), .pointer (some ⟨pg1_1, 0, none⟩), .pointer (some ⟨pg1_2, 0, none⟩)])) 5 (.int .i64 x5_1)) 6 (.int .i64 x6_1) ∧ S = sput (sput (sput s0 0 (some (Ck.var 31 pg1_0 ([Value.slice A1_0 v1_0.length c1_0])))) 1 (some (Ck.var 3 pg1_1 ([Value.int .i64 v1_1])))) 2 (some (Ck.var 3 pg1_2 ([Value.int .i64 v1_2]))) ∧ sort_Search_s31.lo1 v1_0 v1_1 v1_2 kk x5_1 x6_1 = some r) k ?_ ?_ ?_
  · exact ⟨_, (0 : Int), a0, fr_next (fr_next (fr_next (rfl) (by kernel_rfl)) (by kernel_rfl)) (by kernel_rfl), rfl, H⟩
  · rintro f S ⟨fr1, x5_1, x6_1, rfl, rfl, H⟩; cases H
  · rintro k1 f S ⟨fr1, x5_1, x6_1, rfl, rfl, H⟩
    replace H : ((if x5_1 < x6_1 then lt (IntKind.wrap .u64 (IntKind.wrap .i64 (x5_1 + x6_1))) fun y2 => (part_Cut_1.f k1 (IntKind.wrap .i64 (Int.fdiv y2 2)) v1_0 v1_1 v1_2).bind fun t4 => (if t4 = true then (sort_Search_s31.lo1 v1_0 v1_1 v1_2 k1) x5_1 (IntKind.wrap .i64 (Int.fdiv y2 2)) else lt (IntKind.wrap .i64 ((IntKind.wrap .i64 (Int.fdiv y2 2)) + (1 : Int))) fun y8 => (sort_Search_s31.lo1 v1_0 v1_1 v1_2 k1) y8 x6_1) else some x5_1)) = some r := H
    refine cs_seq ?_
    refine cs_seq ?_
    refine cs_region (l := [_, _, _]) ?_
    refine ls_val (v := .int .i64 x5_1) rfl rfl (by kernel_rfl) (fun w => by kernel_rfl) ?_
    refine ls_val (v := .int .i64 x6_1) rfl rfl (by kernel_rfl) (fun w => by kernel_rfl) ?_
    refine ls_val (v := .bool (decide (x5_1 < x6_1))) rfl rfl (by kernel_rfl) (fun w => by kernel_rfl) ?_
    refine ls_end ?_
    refine qn_then ?_
    by_cases q1 : x5_1 < x6_1
    · replace H := ite_t q1 H
      refine cs_know (c := true) (dec_t q1) 11 (by kernel_rfl) ?_
      refine cs_true (by kernel_rfl) ?_
      refine cs_skip' ?_
      refine qn_then ?_
      refine cs_block ?_
      refine cs_seq ?_
      refine cs_region (l := [_, _, _, _, _, _, _]) ?_
      refine ls_val (v := .int .i64 x5_1) rfl rfl (by kernel_rfl) (fun w => by kernel_rfl) ?_
      refine ls_val (v := .int .i64 x6_1) rfl rfl (by kernel_rfl) (fun w => by kernel_rfl) ?_
      refine ls_val (v := .int .i64 (IntKind.wrap .i64 (x5_1 + x6_1))) rfl rfl (by kernel_rfl) (fun w => by kernel_rfl) ?_
      obtain ⟨y2, hy3, H⟩ := lt_some H
      refine ls_val (v := .int .u64 (IntKind.wrap .u64 (IntKind.wrap .i64 (x5_1 + x6_1)))) rfl rfl (by kernel_rfl) (fun w => by kernel_rfl) ?_
      refine ls_ren 15 (v := .int .u64 (IntKind.wrap .u64 (IntKind.wrap .i64 (x5_1 + x6_1)))) (v' := .int .u64 y2) (by kernel_rfl) (by rw [hy3]) ?_
      refine ls_val (v := .int .u64 (Int.fdiv y2 2)) rfl rfl (by kernel_rfl) (fun w => by kernel_rfl) ?_
      refine ls_val (v := .int .i64 (IntKind.wrap .i64 (Int.fdiv y2 2))) rfl rfl (by kernel_rfl) (fun w => by kernel_rfl) ?_
      refine ls_val (v := .int .i64 (IntKind.wrap .i64 (Int.fdiv y2 2))) rfl rfl (by kernel_rfl) (fun w => by kernel_rfl) ?_
      refine ls_end ?_
      refine qn_then ?_
      refine cs_seq ?_
      refine cs_region (l := [_, _, _, _]) ?_
      refine ls_val (v := .func (.func 31) #[] #[.pointer (some ⟨pg1_0, 0, none⟩), .pointer (some ⟨pg1_1, 0, none⟩), .pointer (some ⟨pg1_2, 0, none⟩)]) rfl rfl (by kernel_rfl) (fun w => by kernel_rfl) ?_
      refine ls_val (v := .int .i64 (IntKind.wrap .i64 (Int.fdiv y2 2))) rfl rfl (by kernel_rfl) (fun w => by kernel_rfl) ?_
      obtain ⟨t4, hc5, H⟩ := bind_some H
      refine ls_callb (fid := 31) (vals := #[.int .i64 (IntKind.wrap .i64 (Int.fdiv y2 2)), .pointer (some ⟨pg1_0, 0, none⟩), .pointer (some ⟨pg1_1, 0, none⟩), .pointer (some ⟨pg1_2, 0, none⟩)]) (X := Unit) (fun x => .bool t4) (fun x => stl [Ck.var 31 pg1_0 ([Value.slice A1_0 v1_0.length c1_0]), Ck.var 3 pg1_1 ([Value.int .i64 v1_1]), Ck.var 3 pg1_2 ([Value.int .i64 v1_2])]) [0, 1, 2] [] [Ck.var 31 pg1_0 ([Value.slice A1_0 v1_0.length c1_0]), Ck.var 3 pg1_1 ([Value.int .i64 v1_1]), Ck.var 3 pg1_2 ([Value.int .i64 v1_2])] [] 3 rfl rfl (by kernel_rfl) (fun w => by kernel_rfl) ⟨by exact rfl, by exact rfl, by exact rfl, trivial⟩ trivial (by decide) (fun w hs hb => part_Cut_1.calls k1 (IntKind.wrap .i64 (Int.fdiv y2 2)) pg1_0 A1_0 c1_0 v1_0 pg1_1 v1_1 pg1_2 v1_2 t4 (lent b w [Ck.var 31 pg1_0 ([Value.slice A1_0 v1_0.length c1_0]), Ck.var 3 pg1_1 ([Value.int .i64 v1_1]), Ck.var 3 pg1_2 ([Value.int .i64 v1_2])] []) hb (hs.ro R1_0 _ _) C1_0 hc5) ?_
      intro x6
      refine ls_val (v := .bool (!t4)) rfl rfl (by kernel_rfl) (fun w => by kernel_rfl) ?_
      refine ls_end ?_
      refine qn_then ?_
      by_cases q7 : t4 = true
      · replace H := ite_t q7 H
        refine cs_know (c := false) (congrArg Bool.not (q7)) 21 (by kernel_rfl) ?_
        refine cs_false (by kernel_rfl) ?_
        refine cs_region (l := [_, _]) ?_
        refine ls_val (v := .int .i64 (IntKind.wrap .i64 (Int.fdiv y2 2))) rfl rfl (by kernel_rfl) (fun w => by kernel_rfl) ?_
        refine ls_val (v := .int .i64 (IntKind.wrap .i64 (Int.fdiv y2 2))) rfl rfl (by kernel_rfl) (fun w => by kernel_rfl) ?_
        refine ls_end ?_
        refine qn_block ?_
        refine qn_again k1 (sput (sput (sput s0 0 (some (Ck.var 31 pg1_0 ([Value.slice A1_0 v1_0.length c1_0])))) 1 (some (Ck.var 3 pg1_1 ([Value.int .i64 v1_1])))) 2 (some (Ck.var 3 pg1_2 ([Value.int .i64 v1_2])))) (Nat.le_refl _) ⟨_, x5_1, (IntKind.wrap .i64 (Int.fdiv y2 2)), fr_next (fr_next (fr_next (rfl) (by kernel_rfl)) (by kernel_rfl)) (by kernel_rfl), rfl, H⟩ (sub_put (by exact rfl) (sub_put (by exact rfl) (sub_put (by exact rfl) (sub_nil _))))
      · replace H := ite_f q7 H
        refine cs_know (c := true) (congrArg Bool.not (Bool.eq_false_iff.mpr q7)) 21 (by kernel_rfl) ?_
        refine cs_true (by kernel_rfl) ?_
        refine cs_region (l := [_, _, _]) ?_
        refine ls_val (v := .int .i64 (IntKind.wrap .i64 (Int.fdiv y2 2))) rfl rfl (by kernel_rfl) (fun w => by kernel_rfl) ?_
        obtain ⟨y8, hy9, H⟩ := lt_some H
        refine ls_val (v := .int .i64 (IntKind.wrap .i64 ((IntKind.wrap .i64 (Int.fdiv y2 2)) + (1 : Int)))) rfl rfl (by kernel_rfl) (fun w => by kernel_rfl) ?_
        refine ls_ren 23 (v := .int .i64 (IntKind.wrap .i64 ((IntKind.wrap .i64 (Int.fdiv y2 2)) + (1 : Int)))) (v' := .int .i64 y8) (by kernel_rfl) (by rw [hy9]) ?_
        refine ls_val (v := .int .i64 y8) rfl rfl (by kernel_rfl) (fun w => by kernel_rfl) ?_
        refine ls_end ?_
        refine qn_block ?_
        refine qn_again k1 (sput (sput (sput s0 0 (some (Ck.var 31 pg1_0 ([Value.slice A1_0 v1_0.length c1_0])))) 1 (some (Ck.var 3 pg1_1 ([Value.int .i64 v1_1])))) 2 (some (Ck.var 3 pg1_2 ([Value.int .i64 v1_2])))) (Nat.le_refl _) ⟨_, y8, x6_1, fr_next (fr_next (fr_next (rfl) (by kernel_rfl)) (by kernel_rfl)) (by kernel_rfl), rfl, H⟩ (sub_put (by exact rfl) (sub_put (by exact rfl) (sub_put (by exact rfl) (sub_nil _))))
    · replace H := ite_f q1 H
      refine cs_know (c := false) (dec_f q1) 11 (by kernel_rfl) ?_
      refine cs_false (by kernel_rfl) ?_
      refine cs_exit' ?_
      refine qx_then ?_
      refine qx_then ?_
      refine qx_same ?_
      refine qn_then ?_
      refine cs_seq ?_
      refine cs_region (l := [_, _]) ?_
      refine ls_val (v := .int .i64 x5_1) rfl rfl (by kernel_rfl) (fun w => by kernel_rfl) ?_
      refine ls_val (v := .int .i64 x5_1) rfl rfl (by kernel_rfl) (fun w => by kernel_rfl) ?_
      refine ls_end ?_
      refine qn_then ?_
      refine cs_ret' ?_
      obtain rfl := Option.some.inj H
      refine qr_res (rs := [_]) rfl (fun w' hs => ⟨[.int .i64 x5_1], (res_tmp (by kernel_rfl) (.nil)), (), rfl, hs.pick (ts := [0, 1, 2]) (cs := [Ck.var 31 pg1_0 ([Value.slice A1_0 v1_0.length c1_0]), Ck.var 3 pg1_1 ([Value.int .i64 v1_1]), Ck.var 3 pg1_2 ([Value.int .i64 v1_2])]) ⟨by exact rfl, by exact rfl, by exact rfl, trivial⟩ (by decide)⟩)

/-! ### shadowbox/part.Cut: function 16 -/
def part_Cut.f (k : Nat) (l0 : List Int) (a1 : Int) : Option ((List Int)) :=
  (if (l0.length : Int) = (0 : Int) then some ([] : List Int) else (if (l0.length : Int) > (65536 : Int) then some ([] : List Int) else (if a1 < (1 : Int) then some ([] : List Int) else (if a1 > (1073741824 : Int) then some ([] : List Int) else (part_within.f k l0 a1).bind fun t6 => (if t6 = true then (part_greedy.f k l0 a1).bind fun t10 => (slices_Max_int_int.f k l0).bind fun t14 => (sort_Search_s31.f k (IntKind.wrap .i64 (a1 - t14)) l0 t14 (t10.length : Int)).bind fun t18 => (part_greedy.f k l0 (IntKind.wrap .i64 (t14 + t18))).bind fun t21 => some t21 else some ([] : List Int))))))
set_option maxRecDepth 100000 in
set_option maxHeartbeats 4000000 in
theorem part_Cut.calls (k : Nat) (A0 : Option Addr) (c0 : Nat) (l0 : List Int) (a1 : Int) (r : (List Int)) (b : Bs) (hs0 : St b (stl []) b.w) (R0 : Ro b A0 (em (Ec.int 3 .i64) l0)) (C0 : l0.length ≤ c0) (H : part_Cut.f k l0 a1 = some r) :
    Calls Try.prog 16 #[.slice A0 l0.length c0, .int .i64 a1] b.w fun e w' => ∃ x : (Option Addr × Nat), e = .returned (.slice x.1 r.length x.2) ∧ St b (stl [Ck.sl (Ec.int 3 .i64) x.1 x.2 r]) w' := by
  unfold part_Cut.f at H
  refine enterb (n := 46) Try.func16 rfl (by kernel_rfl) (by kernel_rfl) hs0 ?_
  refine cs_sub (s0) (sub_nil _) ?_
  refine cs_seq ?_
  refine cs_region (l := [_, _]) ?_
  refine ls_new rfl rfl (by kernel_rfl) 0 (fun g => .pointer (some ⟨g, 0, none⟩)) (.cells ⟨[Value.slice A0 l0.length c0]⟩ 31) (fun w => by kernel_rfl) ?_
  intro g1
  refine ls_val (v := .slice none 0 0) rfl rfl (by kernel_rfl) (fun w => by kernel_rfl) ?_
  refine ls_end ?_
  refine qn_then ?_
  refine cs_seq ?_
  refine cs_seq ?_
  refine cs_region (l := [_, _, _, _, _, _, _, _, _, _, _, _, _, _, _, _, _, _, _, _, _, _]) ?_
  refine ls_load (a0 := ⟨g1, 0, none⟩) (v := .slice A0 l0.length c0) (de := (TypeDesc.slice 3)) rfl rfl (by kernel_rfl) rfl (by kernel_rfl) (by kernel_rfl) (by kernel_rfl) (fun w hs => (hs.var (k := 0) (by exact rfl) (Sub4.all _))) ?_
  refine ls_val (v := .int .i64 (l0.length : Int)) rfl rfl (by kernel_rfl) (fun w => by kernel_rfl) ?_
  refine ls_val (v := .bool (decide ((l0.length : Int) = (0 : Int)))) rfl rfl (by kernel_rfl) (fun w => by kernel_rfl) ?_
  refine ls_val (v := .bool (decide ((l0.length : Int) = (0 : Int)))) rfl rfl (by kernel_rfl) (fun w => by kernel_rfl) ?_
  by_cases q2 : (l0.length : Int) = (0 : Int)
  · replace H := ite_t q2 H
    refine ls_know (c := true) (dec_t q2) 11 (by kernel_rfl) ?_
    refine ls_off (j := 3) (t := 11) (b := false) (c := true) rfl rfl (by kernel_rfl) (by kernel_rfl) rfl rfl (by kernel_rfl) ?_
    refine ls_off (j := 3) (t := 11) (b := false) (c := true) rfl rfl (by kernel_rfl) (by kernel_rfl) rfl rfl (by kernel_rfl) ?_
    refine ls_off (j := 3) (t := 11) (b := false) (c := true) rfl rfl (by kernel_rfl) (by kernel_rfl) rfl rfl (by kernel_rfl) ?_
    refine ls_val (v := .bool true) rfl rfl (by kernel_rfl) (fun w => by kernel_rfl) ?_
    refine ls_val (v := .bool true) rfl rfl (by kernel_rfl) (fun w => by kernel_rfl) ?_
    refine ls_off (j := 8) (t := 16) (b := false) (c := true) rfl rfl (by kernel_rfl) (by kernel_rfl) rfl rfl (by kernel_rfl) ?_
    refine ls_off (j := 8) (t := 16) (b := false) (c := true) rfl rfl (by kernel_rfl) (by kernel_rfl) rfl rfl (by kernel_rfl) ?_
    refine ls_val (v := .bool true) rfl rfl (by kernel_rfl) (fun w => by kernel_rfl) ?_
    refine ls_val (v := .bool true) rfl rfl (by kernel_rfl) (fun w => by kernel_rfl) ?_
    refine ls_off (j := 12) (t := 20) (b := false) (c := true) rfl rfl (by kernel_rfl) (by kernel_rfl) rfl rfl (by kernel_rfl) ?_
    refine ls_off (j := 12) (t := 20) (b := false) (c := true) rfl rfl (by kernel_rfl) (by kernel_rfl) rfl rfl (by kernel_rfl) ?_
    refine ls_val (v := .bool true) rfl rfl (by kernel_rfl) (fun w => by kernel_rfl) ?_
    refine ls_val (v := .bool true) rfl rfl (by kernel_rfl) (fun w => by kernel_rfl) ?_
    refine ls_off (j := 16) (t := 24) (b := false) (c := true) rfl rfl (by kernel_rfl) (by kernel_rfl) rfl rfl (by kernel_rfl) ?_
    refine ls_off (j := 16) (t := 24) (b := false) (c := true) rfl rfl (by kernel_rfl) (by kernel_rfl) rfl rfl (by kernel_rfl) ?_
    refine ls_off (j := 16) (t := 24) (b := false) (c := true) rfl rfl (by kernel_rfl) (by kernel_rfl) rfl rfl (by kernel_rfl) ?_
    refine ls_off (j := 16) (t := 24) (b := false) (c := true) rfl rfl (by kernel_rfl) (by kernel_rfl) rfl rfl (by kernel_rfl) ?_
    refine ls_val (v := .bool true) rfl rfl (by kernel_rfl) (fun w => by kernel_rfl) ?_
    refine ls_end ?_
    refine qn_then ?_
    refine cs_true (by kernel_rfl) ?_
    refine cs_seq ?_
    refine cs_region (l := [_]) ?_
    refine ls_val (v := .slice none 0 0) rfl rfl (by kernel_rfl) (fun w => by kernel_rfl) ?_
    refine ls_end ?_
    refine qn_then ?_
    refine cs_ret' ?_
    refine qr_then ?_
    refine qr_nilrow 1 (Ec.int 3 .i64) ?_
    obtain rfl := Option.some.inj H
    refine qr_res (rs := [_]) rfl (fun w' hs => ⟨[.slice none 0 0], (res_tmp (by kernel_rfl) (.nil)), (none, 0), rfl, hs.pick (ts := [1]) (cs := [Ck.sl (Ec.int 3 .i64) none 0 ([] : List Int)]) ⟨by exact rfl, trivial⟩ (by decide)⟩)
  · replace H := ite_f q2 H
    refine ls_know (c := false) (dec_f q2) 11 (by kernel_rfl) ?_
    refine ls_on (j := 3) (t := 11) (b := false) rfl rfl (by kernel_rfl) (by kernel_rfl) ?_
    refine ls_load (a0 := ⟨g1, 0, none⟩) (v := .slice A0 l0.length c0) (de := (TypeDesc.slice 3)) rfl rfl (by kernel_rfl) rfl (by kernel_rfl) (by kernel_rfl) (by kernel_rfl) (fun w hs => (hs.var (k := 0) (by exact rfl) (Sub4.all _))) ?_
    refine ls_on (j := 3) (t := 11) (b := false) rfl rfl (by kernel_rfl) (by kernel_rfl) ?_
    refine ls_val (v := .int .i64 (l0.length : Int)) rfl rfl (by kernel_rfl) (fun w => by kernel_rfl) ?_
    refine ls_on (j := 3) (t := 11) (b := false) rfl rfl (by kernel_rfl) (by kernel_rfl) ?_
    refine ls_val (v := .bool (decide ((l0.length : Int) > (65536 : Int)))) rfl rfl (by kernel_rfl) (fun w => by kernel_rfl) ?_
    refine ls_val (v := .bool (decide ((l0.length : Int) > (65536 : Int)))) rfl rfl (by kernel_rfl) (fun w => by kernel_rfl) ?_
    refine ls_val (v := .bool (decide ((l0.length : Int) > (65536 : Int)))) rfl rfl (by kernel_rfl) (fun w => by kernel_rfl) ?_
    by_cases q3 : (l0.length : Int) > (65536 : Int)
    · replace H := ite_t q3 H
      refine ls_know (c := true) (dec_t q3) 16 (by kernel_rfl) ?_
      refine ls_off (j := 8) (t := 16) (b := false) (c := true) rfl rfl (by kernel_rfl) (by kernel_rfl) rfl rfl (by kernel_rfl) ?_
      refine ls_off (j := 8) (t := 16) (b := false) (c := true) rfl rfl (by kernel_rfl) (by kernel_rfl) rfl rfl (by kernel_rfl) ?_
      refine ls_val (v := .bool true) rfl rfl (by kernel_rfl) (fun w => by kernel_rfl) ?_
      refine ls_val (v := .bool true) rfl rfl (by kernel_rfl) (fun w => by kernel_rfl) ?_
      refine ls_off (j := 12) (t := 20) (b := false) (c := true) rfl rfl (by kernel_rfl) (by kernel_rfl) rfl rfl (by kernel_rfl) ?_
      refine ls_off (j := 12) (t := 20) (b := false) (c := true) rfl rfl (by kernel_rfl) (by kernel_rfl) rfl rfl (by kernel_rfl) ?_
      refine ls_val (v := .bool true) rfl rfl (by kernel_rfl) (fun w => by kernel_rfl) ?_
      refine ls_val (v := .bool true) rfl rfl (by kernel_rfl) (fun w => by kernel_rfl) ?_
      refine ls_off (j := 16) (t := 24) (b := false) (c := true) rfl rfl (by kernel_rfl) (by kernel_rfl) rfl rfl (by kernel_rfl) ?_
      refine ls_off (j := 16) (t := 24) (b := false) (c := true) rfl rfl (by kernel_rfl) (by kernel_rfl) rfl rfl (by kernel_rfl) ?_
      refine ls_off (j := 16) (t := 24) (b := false) (c := true) rfl rfl (by kernel_rfl) (by kernel_rfl) rfl rfl (by kernel_rfl) ?_
      refine ls_off (j := 16) (t := 24) (b := false) (c := true) rfl rfl (by kernel_rfl) (by kernel_rfl) rfl rfl (by kernel_rfl) ?_
      refine ls_val (v := .bool true) rfl rfl (by kernel_rfl) (fun w => by kernel_rfl) ?_
      refine ls_end ?_
      refine qn_then ?_
      refine cs_true (by kernel_rfl) ?_
      refine cs_seq ?_
      refine cs_region (l := [_]) ?_
      refine ls_val (v := .slice none 0 0) rfl rfl (by kernel_rfl) (fun w => by kernel_rfl) ?_
      refine ls_end ?_
      refine qn_then ?_
      refine cs_ret' ?_
      refine qr_then ?_
      refine qr_nilrow 1 (Ec.int 3 .i64) ?_
      obtain rfl := Option.some.inj H
      refine qr_res (rs := [_]) rfl (fun w' hs => ⟨[.slice none 0 0], (res_tmp (by kernel_rfl) (.nil)), (none, 0), rfl, hs.pick (ts := [1]) (cs := [Ck.sl (Ec.int 3 .i64) none 0 ([] : List Int)]) ⟨by exact rfl, trivial⟩ (by decide)⟩)
    · replace H := ite_f q3 H
      refine ls_know (c := false) (dec_f q3) 16 (by kernel_rfl) ?_
      refine ls_on (j := 8) (t := 16) (b := false) rfl rfl (by kernel_rfl) (by kernel_rfl) ?_
      refine ls_val (v := .int .i64 a1) rfl rfl (by kernel_rfl) (fun w => by kernel_rfl) ?_
      refine ls_on (j := 8) (t := 16) (b := false) rfl rfl (by kernel_rfl) (by kernel_rfl) ?_
      refine ls_val (v := .bool (decide (a1 < (1 : Int)))) rfl rfl (by kernel_rfl) (fun w => by kernel_rfl) ?_
      refine ls_val (v := .bool (decide (a1 < (1 : Int)))) rfl rfl (by kernel_rfl) (fun w => by kernel_rfl) ?_
      refine ls_val (v := .bool (decide (a1 < (1 : Int)))) rfl rfl (by kernel_rfl) (fun w => by kernel_rfl) ?_
      by_cases q4 : a1 < (1 : Int)
      · replace H := ite_t q4 H
        refine ls_know (c := true) (dec_t q4) 20 (by kernel_rfl) ?_
        refine ls_off (j := 12) (t := 20) (b := false) (c := true) rfl rfl (by kernel_rfl) (by kernel_rfl) rfl rfl (by kernel_rfl) ?_
        refine ls_off (j := 12) (t := 20) (b := false) (c := true) rfl rfl (by kernel_rfl) (by kernel_rfl) rfl rfl (by kernel_rfl) ?_
        refine ls_val (v := .bool true) rfl rfl (by kernel_rfl) (fun w => by kernel_rfl) ?_
        refine ls_val (v := .bool true) rfl rfl (by kernel_rfl) (fun w => by kernel_rfl) ?_
        refine ls_off (j := 16) (t := 24) (b := false) (c := true) rfl rfl (by kernel_rfl) (by kernel_rfl) rfl rfl (by kernel_rfl) ?_
        refine ls_off (j := 16) (t := 24) (b := false) (c := true) rfl rfl (by kernel_rfl) (by kernel_rfl) rfl rfl (by kernel_rfl) ?_
        refine ls_off (j := 16) (t := 24) (b := false) (c := true) rfl rfl (by kernel_rfl) (by kernel_rfl) rfl rfl (by kernel_rfl) ?_
        refine ls_off (j := 16) (t := 24) (b := false) (c := true) rfl rfl (by kernel_rfl) (by kernel_rfl) rfl rfl (by kernel_rfl) ?_
        refine ls_val (v := .bool true) rfl rfl (by kernel_rfl) (fun w => by kernel_rfl) ?_
        refine ls_end ?_
        refine qn_then ?_
        refine cs_true (by kernel_rfl) ?_
        refine cs_seq ?_
        refine cs_region (l := [_]) ?_
        refine ls_val (v := .slice none 0 0) rfl rfl (by kernel_rfl) (fun w => by kernel_rfl) ?_
        refine ls_end ?_
        refine qn_then ?_
        refine cs_ret' ?_
        refine qr_then ?_
        refine qr_nilrow 1 (Ec.int 3 .i64) ?_
        obtain rfl := Option.some.inj H
        refine qr_res (rs := [_]) rfl (fun w' hs => ⟨[.slice none 0 0], (res_tmp (by kernel_rfl) (.nil)), (none, 0), rfl, hs.pick (ts := [1]) (cs := [Ck.sl (Ec.int 3 .i64) none 0 ([] : List Int)]) ⟨by exact rfl, trivial⟩ (by decide)⟩)
      · replace H := ite_f q4 H
        refine ls_know (c := false) (dec_f q4) 20 (by kernel_rfl) ?_
        refine ls_on (j := 12) (t := 20) (b := false) rfl rfl (by kernel_rfl) (by kernel_rfl) ?_
        refine ls_val (v := .int .i64 a1) rfl rfl (by kernel_rfl) (fun w => by kernel_rfl) ?_
        refine ls_on (j := 12) (t := 20) (b := false) rfl rfl (by kernel_rfl) (by kernel_rfl) ?_
        refine ls_val (v := .bool (decide (a1 > (1073741824 : Int)))) rfl rfl (by kernel_rfl) (fun w => by kernel_rfl) ?_
        refine ls_val (v := .bool (decide (a1 > (1073741824 : Int)))) rfl rfl (by kernel_rfl) (fun w => by kernel_rfl) ?_
        refine ls_val (v := .bool (decide (a1 > (1073741824 : Int)))) rfl rfl (by kernel_rfl) (fun w => by kernel_rfl) ?_
        by_cases q5 : a1 > (1073741824 : Int)
        · replace H := ite_t q5 H
          refine ls_know (c := true) (dec_t q5) 24 (by kernel_rfl) ?_
          refine ls_off (j := 16) (t := 24) (b := false) (c := true) rfl rfl (by kernel_rfl) (by kernel_rfl) rfl rfl (by kernel_rfl) ?_
          refine ls_off (j := 16) (t := 24) (b := false) (c := true) rfl rfl (by kernel_rfl) (by kernel_rfl) rfl rfl (by kernel_rfl) ?_
          refine ls_off (j := 16) (t := 24) (b := false) (c := true) rfl rfl (by kernel_rfl) (by kernel_rfl) rfl rfl (by kernel_rfl) ?_
          refine ls_off (j := 16) (t := 24) (b := false) (c := true) rfl rfl (by kernel_rfl) (by kernel_rfl) rfl rfl (by kernel_rfl) ?_
          refine ls_val (v := .bool true) rfl rfl (by kernel_rfl) (fun w => by kernel_rfl) ?_
          refine ls_end ?_
          refine qn_then ?_
          refine cs_true (by kernel_rfl) ?_
          refine cs_seq ?_
          refine cs_region (l := [_]) ?_
          refine ls_val (v := .slice none 0 0) rfl rfl (by kernel_rfl) (fun w => by kernel_rfl) ?_
          refine ls_end ?_
          refine qn_then ?_
          refine cs_ret' ?_
          refine qr_then ?_
          refine qr_nilrow 1 (Ec.int 3 .i64) ?_
          obtain rfl := Option.some.inj H
          refine qr_res (rs := [_]) rfl (fun w' hs => ⟨[.slice none 0 0], (res_tmp (by kernel_rfl) (.nil)), (none, 0), rfl, hs.pick (ts := [1]) (cs := [Ck.sl (Ec.int 3 .i64) none 0 ([] : List Int)]) ⟨by exact rfl, trivial⟩ (by decide)⟩)
        · replace H := ite_f q5 H
          refine ls_know (c := false) (dec_f q5) 24 (by kernel_rfl) ?_
          refine ls_on (j := 16) (t := 24) (b := false) rfl rfl (by kernel_rfl) (by kernel_rfl) ?_
          refine ls_load (a0 := ⟨g1, 0, none⟩) (v := .slice A0 l0.length c0) (de := (TypeDesc.slice 3)) rfl rfl (by kernel_rfl) rfl (by kernel_rfl) (by kernel_rfl) (by kernel_rfl) (fun w hs => (hs.var (k := 0) (by exact rfl) (Sub4.all _))) ?_
          refine ls_on (j := 16) (t := 24) (b := false) rfl rfl (by kernel_rfl) (by kernel_rfl) ?_
          refine ls_val (v := .int .i64 a1) rfl rfl (by kernel_rfl) (fun w => by kernel_rfl) ?_
          refine ls_on (j := 16) (t := 24) (b := false) rfl rfl (by kernel_rfl) (by kernel_rfl) ?_
          obtain ⟨t6, hc7, H⟩ := bind_some H
          refine ls_callb (fid := 28) (vals := #[.slice A0 l0.length c0, .int .i64 a1]) (X := Unit) (fun x => .bool t6) (fun x => stl []) [] [] [] [] 1 rfl rfl (by kernel_rfl) (fun w => by kernel_rfl) trivial trivial (by decide) (fun w hs hb => part_within.calls k A0 c0 l0 a1 t6 (lent b w [] []) hb (hs.ro R0 _ _) C0 hc7) ?_
          intro x8
          refine ls_on (j := 16) (t := 24) (b := false) rfl rfl (by kernel_rfl) (by kernel_rfl) ?_
          refine ls_val (v := .bool (!t6)) rfl rfl (by kernel_rfl) (fun w => by kernel_rfl) ?_
          refine ls_val (v := .bool (!t6)) rfl rfl (by kernel_rfl) (fun w => by kernel_rfl) ?_
          refine ls_end ?_
          refine qn_then ?_
          by_cases q9 : t6 = true
          · replace H := ite_t q9 H
            refine cs_know (c := false) (congrArg Bool.not (q9)) 29 (by kernel_rfl) ?_
            refine cs_false (by kernel_rfl) ?_
            refine cs_skip' ?_
            refine qn_then ?_
            refine cs_seq ?_
            refine cs_region (l := [_, _, _, _, _, _]) ?_
            refine ls_load (a0 := ⟨g1, 0, none⟩) (v := .slice A0 l0.length c0) (de := (TypeDesc.slice 3)) rfl rfl (by kernel_rfl) rfl (by kernel_rfl) (by kernel_rfl) (by kernel_rfl) (fun w hs => (hs.var (k := 0) (by exact rfl) (Sub4.all _))) ?_
            refine ls_val (v := .int .i64 a1) rfl rfl (by kernel_rfl) (fun w => by kernel_rfl) ?_
            obtain ⟨t10, hc11, H⟩ := bind_some H
            refine ls_callb (fid := 29) (vals := #[.slice A0 l0.length c0, .int .i64 a1]) (X := (Option Addr × Nat)) (fun x => .slice x.1 t10.length x.2) (fun x => stl [Ck.sl (Ec.int 3 .i64) x.1 x.2 t10]) [] [] [] [] 1 rfl rfl (by kernel_rfl) (fun w => by kernel_rfl) trivial trivial (by decide) (fun w hs hb => part_greedy.calls k A0 c0 l0 a1 t10 (lent b w [] []) hb (hs.ro R0 _ _) C0 hc11) ?_
            intro x12
            refine ls_val (v := .int .i64 (t10.length : Int)) rfl rfl (by kernel_rfl) (fun w => by kernel_rfl) ?_
            refine ls_new rfl rfl (by kernel_rfl) 2 (fun g => .pointer (some ⟨g, 0, none⟩)) (.cells ⟨[Value.int .i64 (0 : Int)]⟩ 3) (fun w => by kernel_rfl) ?_
            intro g13
            refine ls_storec (g := g13) (off := 0) (v := .int .i64 (t10.length : Int)) (vs := [Value.int .i64 (t10.length : Int)]) (cs := [Value.int .i64 (0 : Int)]) (ty := 3) 2 rfl rfl rfl (by kernel_rfl) (by kernel_rfl) (by kernel_rfl) (by exact rfl) (by kernel_rfl) (len1 _) (one_cons rfl one_nil) (hl_of (Sub4.all _) (len_eq (len1 _) (len1 _))) (cs' := [Value.int .i64 (t10.length : Int)]) (splc_all (len_eq (len1 _) (len1 _))) ?_
            refine ls_end ?_
            refine qn_then ?_
            refine cs_seq ?_
            refine cs_region (l := [_, _, _, _]) ?_
            refine ls_load (a0 := ⟨g1, 0, none⟩) (v := .slice A0 l0.length c0) (de := (TypeDesc.slice 3)) rfl rfl (by kernel_rfl) rfl (by kernel_rfl) (by kernel_rfl) (by kernel_rfl) (fun w hs => (hs.var (k := 0) (by exact rfl) (Sub4.all _))) ?_
            obtain ⟨t14, hc15, H⟩ := bind_some H
            refine ls_callb (fid := 30) (vals := #[.slice A0 l0.length c0]) (X := Unit) (fun x => .int .i64 t14) (fun x => stl []) [] [] [] [] 3 rfl rfl (by kernel_rfl) (fun w => by kernel_rfl) trivial trivial (by decide) (fun w hs hb => slices_Max_int_int.calls k A0 c0 l0 t14 (lent b w [] []) hb (hs.ro R0 _ _) C0 hc15) ?_
            intro x16
            refine ls_new rfl rfl (by kernel_rfl) 3 (fun g => .pointer (some ⟨g, 0, none⟩)) (.cells ⟨[Value.int .i64 (0 : Int)]⟩ 3) (fun w => by kernel_rfl) ?_
            intro g17
            refine ls_storec (g := g17) (off := 0) (v := .int .i64 t14) (vs := [Value.int .i64 t14]) (cs := [Value.int .i64 (0 : Int)]) (ty := 3) 3 rfl rfl rfl (by kernel_rfl) (by kernel_rfl) (by kernel_rfl) (by exact rfl) (by kernel_rfl) (len1 _) (one_cons rfl one_nil) (hl_of (Sub4.all _) (len_eq (len1 _) (len1 _))) (cs' := [Value.int .i64 t14]) (splc_all (len_eq (len1 _) (len1 _))) ?_
            refine ls_end ?_
            refine qn_then ?_
            refine cs_seq ?_
            refine cs_region (l := [_, _]) ?_
            refine ls_val (v := .func (.func 31) #[] #[.pointer (some ⟨g1, 0, none⟩), .pointer (some ⟨g17, 0, none⟩), .pointer (some ⟨g13, 0, none⟩)]) rfl rfl (by kernel_rfl) (fun w => by kernel_rfl) ?_
            refine ls_val (v := .func (.func 31) #[] #[.pointer (some ⟨g1, 0, none⟩), .pointer (some ⟨g17, 0, none⟩), .pointer (some ⟨g13, 0, none⟩)]) rfl rfl (by kernel_rfl) (fun w => by kernel_rfl) ?_
            refine ls_end ?_
            refine qn_then ?_
            refine cs_seq ?_
            obtain ⟨t18, hc19, H⟩ := bind_some H
            refine cs_sub (sput (sput (sput (sput s0 0 (some (Ck.var 31 g1 ([Value.slice A0 l0.length c0])))) 1 (some (Ck.sl (Ec.int 3 .i64) x12.1 x12.2 t10))) 2 (some (Ck.var 3 g13 ([Value.int .i64 (t10.length : Int)])))) 3 (some (Ck.var 3 g17 ([Value.int .i64 t14])))) (sub_put (by exact rfl) (sub_put (by exact rfl) (sub_put (by exact rfl) (sub_put (by exact rfl) (sub_nil _))))) ?_
            refine cs_chain (l := [_, _, _, _, _, _, _, _, _, _]) [[], [], [], [], [2, 3], [], [2, 3, 4, 5], [1, 2, 3, 4, 5, 6], [0, 1, 2, 3, 4, 5, 6, 7], [0, 1, 2, 3, 4, 5, 6, 7, 8]] 8 (fun u => [0, 1, 2, 3].contains u) (efl [false, false, false, false, false, false, true, false]) (pvl [.val (.slice A0 l0.length c0), .val (.int .i64 t14), .val (.int .i64 a1), .val (.int .i64 t14), .val (.int .i64 (IntKind.wrap .i64 (a1 - t14))), .val (.func (.func 31) #[] #[.pointer (some ⟨g1, 0, none⟩), .pointer (some ⟨g17, 0, none⟩), .pointer (some ⟨g13, 0, none⟩)]), .val (.int .i64 t18), .val (.int .i64 (IntKind.wrap .i64 (t14 + t18)))]) (Esl [fun (es : Nat → Value) (S' : Sto) => S' = sput (sput (sput (sput s0 0 (some (Ck.var 31 g1 ([Value.slice A0 l0.length c0])))) 1 (some (Ck.sl (Ec.int 3 .i64) x12.1 x12.2 t10))) 2 (some (Ck.var 3 g13 ([Value.int .i64 (t10.length : Int)])))) 3 (some (Ck.var 3 g17 ([Value.int .i64 t14]))), fun (es : Nat → Value) (S' : Sto) => ∃ (x20 : Unit), es 6 = .int .i64 t18 ∧ S' = sput (sput (sput (sput s0 0 (some (Ck.var 31 g1 ([Value.slice A0 l0.length c0])))) 1 (some (Ck.sl (Ec.int 3 .i64) x12.1 x12.2 t10))) 2 (some (Ck.var 3 g13 ([Value.int .i64 (t10.length : Int)])))) 3 (some (Ck.var 3 g17 ([Value.int .i64 t14])))] [0, 0, 0, 0, 0, 0, 0, 0, 1]) (nxl [0, 0, 0, 0, 0, 0, 8, 0]) (onl [true, true, true, true, true, true, true, true]) 6 (by kernel_rfl) (by kernel_rfl) (by kernel_rfl) (by kernel_rfl) (by kernel_rfl) (rs := [_, _]) rfl (by kernel_rfl) (by kernel_rfl) (fun es => ?_) ?_ ?_
            · exact (rfl : sput (sput (sput (sput s0 0 (some (Ck.var 31 g1 ([Value.slice A0 l0.length c0])))) 1 (some (Ck.sl (Ec.int 3 .i64) x12.1 x12.2 t10))) 2 (some (Ck.var 3 g13 ([Value.int .i64 (t10.length : Int)])))) 3 (some (Ck.var 3 g17 ([Value.int .i64 t14]))) = sput (sput (sput (sput s0 0 (some (Ck.var 31 g1 ([Value.slice A0 l0.length c0])))) 1 (some (Ck.sl (Ec.int 3 .i64) x12.1 x12.2 t10))) 2 (some (Ck.var 3 g13 ([Value.int .i64 (t10.length : Int)])))) 3 (some (Ck.var 3 g17 ([Value.int .i64 t14]))))
            · refine all_snoc (all_snoc (all_snoc (all_snoc (all_snoc (all_snoc (all_snoc (all_snoc (all_nil) ?_) ?_) ?_) ?_) ?_) ?_) ?_) ?_
              · refine ⟨fun o ho es vs f' S' hve hvp hf hx hK hE => ?_⟩
                obtain rfl := Option.some.inj ho
                refine ⟨want_none rfl, fun _ _ => ?_, (fun _ h => by cases h), (fun h _ => by cases h), (fun h _ => by cases h)⟩
                have hF := fr_next (rfl) ((hx 2 (by kernel_rfl)).trans (by kernel_rfl : (_ : Value) = .pointer (some ⟨g1, 0, none⟩)))
                refine ls_fr hF ?_
                refine ls_load (a0 := ⟨g1, 0, none⟩) (v := .slice A0 l0.length c0) (de := (TypeDesc.slice 3)) rfl rfl (by kernel_rfl) rfl (by kernel_rfl) (by kernel_rfl) (by kernel_rfl) (fun w hs => (hs.var (k := 0) ((hK 0 (by rfl)).trans (by exact rfl)) (Sub4.all _))) ?_
                exact ls_finp (.slice A0 l0.length c0) (congrArg (fun z => upd z 37 _) hF.symm) rfl
              · refine ⟨fun o ho es vs f' S' hve hvp hf hx hK hE => ?_⟩
                obtain rfl := Option.some.inj ho
                refine ⟨want_none rfl, fun _ _ => ?_, (fun _ h => by cases h), (fun h _ => by cases h), (fun h _ => by cases h)⟩
                have hF := fr_next (rfl) ((hx 6 (by kernel_rfl)).trans (by kernel_rfl : (_ : Value) = .pointer (some ⟨g17, 0, none⟩)))
                refine ls_fr hF ?_
                refine ls_load (a0 := ⟨g17, 0, none⟩) (v := .int .i64 t14) (de := (TypeDesc.int .i64)) rfl rfl (by kernel_rfl) rfl (by kernel_rfl) (by kernel_rfl) (by kernel_rfl) (fun w hs => (hs.var (k := 3) ((hK 3 (by rfl)).trans (by exact rfl)) (Sub4.all _))) ?_
                exact ls_finp (.int .i64 t14) (congrArg (fun z => upd z 38 _) hF.symm) rfl
              · refine ⟨fun o ho es vs f' S' hve hvp hf hx hK hE => ?_⟩
                obtain rfl := Option.some.inj ho
                refine ⟨want_none rfl, fun _ _ => ?_, (fun _ h => by cases h), (fun h _ => by cases h), (fun h _ => by cases h)⟩
                have hF := fr_next (rfl) ((hx 1 (by kernel_rfl)).trans (by kernel_rfl : (_ : Value) = .int .i64 a1))
                refine ls_fr hF ?_
                refine ls_val (v := .int .i64 a1) rfl rfl (by kernel_rfl) (fun w => by kernel_rfl) ?_
                exact ls_finp (.int .i64 a1) (congrArg (fun z => upd z 39 _) hF.symm) rfl
              · refine ⟨fun o ho es vs f' S' hve hvp hf hx hK hE => ?_⟩
                obtain rfl := Option.some.inj ho
                refine ⟨want_none rfl, fun _ _ => ?_, (fun _ h => by cases h), (fun h _ => by cases h), (fun h _ => by cases h)⟩
                have hF := fr_next (rfl) ((hx 6 (by kernel_rfl)).trans (by kernel_rfl : (_ : Value) = .pointer (some ⟨g17, 0, none⟩)))
                refine ls_fr hF ?_
                refine ls_load (a0 := ⟨g17, 0, none⟩) (v := .int .i64 t14) (de := (TypeDesc.int .i64)) rfl rfl (by kernel_rfl) rfl (by kernel_rfl) (by kernel_rfl) (by kernel_rfl) (fun w hs => (hs.var (k := 3) ((hK 3 (by rfl)).trans (by exact rfl)) (Sub4.all _))) ?_
                exact ls_finp (.int .i64 t14) (congrArg (fun z => upd z 40 _) hF.symm) rfl
              · refine ⟨fun o ho es vs f' S' hve hvp hf hx hK hE => ?_⟩
                obtain rfl := Option.some.inj ho
                refine ⟨want_none rfl, fun _ _ => ?_, (fun _ h => by cases h), (fun h _ => by cases h), (fun h _ => by cases h)⟩
                have hF := fr_next (fr_next (rfl) ((hf 2 39 (by kernel_rfl) rfl).trans (show vs 2 = .int .i64 a1 from hvp 2 (by kernel_rfl)))) ((hf 3 40 (by kernel_rfl) rfl).trans (show vs 3 = .int .i64 t14 from hvp 3 (by kernel_rfl)))
                refine ls_fr hF ?_
                refine ls_val (v := .int .i64 (IntKind.wrap .i64 (a1 - t14))) rfl rfl (by kernel_rfl) (fun w => by kernel_rfl) ?_
                exact ls_finp (.int .i64 (IntKind.wrap .i64 (a1 - t14))) (congrArg (fun z => upd z 41 _) hF.symm) rfl
              · refine ⟨fun o ho es vs f' S' hve hvp hf hx hK hE => ?_⟩
                obtain rfl := Option.some.inj ho
                refine ⟨want_none rfl, fun _ _ => ?_, (fun _ h => by cases h), (fun h _ => by cases h), (fun h _ => by cases h)⟩
                have hF := fr_next (rfl) ((hx 7 (by kernel_rfl)).trans (by kernel_rfl : (_ : Value) = .func (.func 31) #[] #[.pointer (some ⟨g1, 0, none⟩), .pointer (some ⟨g17, 0, none⟩), .pointer (some ⟨g13, 0, none⟩)]))
                refine ls_fr hF ?_
                refine ls_val (v := .func (.func 31) #[] #[.pointer (some ⟨g1, 0, none⟩), .pointer (some ⟨g17, 0, none⟩), .pointer (some ⟨g13, 0, none⟩)]) rfl rfl (by kernel_rfl) (fun w => by kernel_rfl) ?_
                exact ls_finp (.func (.func 31) #[] #[.pointer (some ⟨g1, 0, none⟩), .pointer (some ⟨g17, 0, none⟩), .pointer (some ⟨g13, 0, none⟩)]) (congrArg (fun z => upd z 42 _) hF.symm) rfl
              · refine ⟨fun o ho es vs f' S' hve hvp hf hx hK hE => ?_⟩
                obtain rfl := Option.some.inj ho
                obtain rfl := hE rfl
                refine ⟨want_none rfl, (fun h _ => by cases h), (fun h _ => by cases h), fun _ _ => ?_, (fun _ h => by cases h)⟩
                have hF := fr_next (fr_next (rfl) ((hf 4 41 (by kernel_rfl) rfl).trans (show vs 4 = .int .i64 (IntKind.wrap .i64 (a1 - t14)) from hvp 4 (by kernel_rfl)))) ((hf 5 42 (by kernel_rfl) rfl).trans (show vs 5 = .func (.func 31) #[] #[.pointer (some ⟨g1, 0, none⟩), .pointer (some ⟨g17, 0, none⟩), .pointer (some ⟨g13, 0, none⟩)] from hvp 5 (by kernel_rfl)))
                refine ls_fr hF ?_
                refine ls_callb (fid := 32) (vals := #[.int .i64 (IntKind.wrap .i64 (a1 - t14)), .func (.func 31) #[] #[.pointer (some ⟨g1, 0, none⟩), .pointer (some ⟨g17, 0, none⟩), .pointer (some ⟨g13, 0, none⟩)]]) (X := Unit) (fun x => .int .i64 t18) (fun x => stl [Ck.var 31 g1 ([Value.slice A0 l0.length c0]), Ck.var 3 g17 ([Value.int .i64 t14]), Ck.var 3 g13 ([Value.int .i64 (t10.length : Int)])]) [0, 3, 2] [] [Ck.var 31 g1 ([Value.slice A0 l0.length c0]), Ck.var 3 g17 ([Value.int .i64 t14]), Ck.var 3 g13 ([Value.int .i64 (t10.length : Int)])] [] 4 rfl rfl (by kernel_rfl) (fun w => by kernel_rfl) ⟨by exact rfl, by exact rfl, by exact rfl, trivial⟩ trivial (by decide) (fun w hs hb => sort_Search_s31.calls k (IntKind.wrap .i64 (a1 - t14)) g1 A0 c0 l0 g17 t14 g13 (t10.length : Int) t18 (lent b w [Ck.var 31 g1 ([Value.slice A0 l0.length c0]), Ck.var 3 g17 ([Value.int .i64 t14]), Ck.var 3 g13 ([Value.int .i64 (t10.length : Int)])] []) hb (hs.ro R0 _ _) C0 hc19) ?_
                intro x20
                exact ls_fine (sput (sput (sput (sput s0 0 (some (Ck.var 31 g1 ([Value.slice A0 l0.length c0])))) 1 (some (Ck.sl (Ec.int 3 .i64) x12.1 x12.2 t10))) 2 (some (Ck.var 3 g13 ([Value.int .i64 (t10.length : Int)])))) 3 (some (Ck.var 3 g17 ([Value.int .i64 t14])))) (.int .i64 t18) (congrArg (fun z => upd z 43 _) hF.symm) (show (fun (es : Nat → Value) (S' : Sto) => ∃ (x20 : Unit), es 6 = .int .i64 t18 ∧ S' = sput (sput (sput (sput s0 0 (some (Ck.var 31 g1 ([Value.slice A0 l0.length c0])))) 1 (some (Ck.sl (Ec.int 3 .i64) x12.1 x12.2 t10))) 2 (some (Ck.var 3 g13 ([Value.int .i64 (t10.length : Int)])))) 3 (some (Ck.var 3 g17 ([Value.int .i64 t14])))) (upv es 6 (.int .i64 t18)) (sput (sput (sput (sput s0 0 (some (Ck.var 31 g1 ([Value.slice A0 l0.length c0])))) 1 (some (Ck.sl (Ec.int 3 .i64) x12.1 x12.2 t10))) 2 (some (Ck.var 3 g13 ([Value.int .i64 (t10.length : Int)])))) 3 (some (Ck.var 3 g17 ([Value.int .i64 t14])))) from ⟨x20, rfl, rfl⟩) rfl (keep_cons (by exact rfl) (keep_cons (by exact rfl) (keep_cons (by exact rfl) (keep_cons (by exact rfl) (keep_nil))))) (sub_put (by exact rfl) (sub_put (by exact rfl) (sub_put (by exact rfl) (sub_put (by exact rfl) (sub_nil _)))))
              · refine ⟨fun o ho es vs f' S' hve hvp hf hx hK hE => ?_⟩
                obtain rfl := Option.some.inj ho
                refine ⟨want_none rfl, fun _ _ => ?_, (fun _ h => by cases h), (fun h _ => by cases h), (fun h _ => by cases h)⟩
                have hF := fr_next (fr_next (rfl) ((hf 1 38 (by kernel_rfl) rfl).trans (show vs 1 = .int .i64 t14 from hvp 1 (by kernel_rfl)))) ((hf 6 43 (by kernel_rfl) rfl).trans (show vs 6 = .int .i64 t18 from hvp 6 (by kernel_rfl)))
                refine ls_fr hF ?_
                refine ls_val (v := .int .i64 (IntKind.wrap .i64 (t14 + t18))) rfl rfl (by kernel_rfl) (fun w => by kernel_rfl) ?_
                exact ls_finp (.int .i64 (IntKind.wrap .i64 (t14 + t18))) (congrArg (fun z => upd z 44 _) hF.symm) rfl
            · intro es vs f' S' hve hvp hf hx hK hE
              obtain ⟨x20, hv6, rfl⟩ := hE
              refine ls_fr (F := upd (upd f' 37 (.slice A0 l0.length c0)) 44 (.int .i64 (IntKind.wrap .i64 (t14 + t18)))) (fr_next (fr_next (rfl) ((hf 0 37 (by kernel_rfl) rfl).trans (show vs 0 = .slice A0 l0.length c0 from hvp 0 (by kernel_rfl)))) ((hf 7 44 (by kernel_rfl) rfl).trans (show vs 7 = .int .i64 (IntKind.wrap .i64 (t14 + t18)) from hvp 7 (by kernel_rfl)))) ?_
              refine ls_sub (s0) (sub_nil _) ?_
              obtain ⟨t21, hc22, H⟩ := bind_some H
              refine ls_callb (fid := 29) (vals := #[.slice A0 l0.length c0, .int .i64 (IntKind.wrap .i64 (t14 + t18))]) (X := (Option Addr × Nat)) (fun x => .slice x.1 t21.length x.2) (fun x => stl [Ck.sl (Ec.int 3 .i64) x.1 x.2 t21]) [] [] [] [] 4 rfl rfl (by kernel_rfl) (fun w => by kernel_rfl) trivial trivial (by decide) (fun w hs hb => part_greedy.calls k A0 c0 l0 (IntKind.wrap .i64 (t14 + t18)) t21 (lent b w [] []) hb (hs.ro R0 _ _) C0 hc22) ?_
              intro x23
              refine ls_val (v := .slice x23.1 t21.length x23.2) rfl rfl (by kernel_rfl) (fun w => by kernel_rfl) ?_
              refine ls_end ?_
              refine qn_then ?_
              refine cs_ret' ?_
              obtain rfl := Option.some.inj H
              refine qr_res (rs := [_]) rfl (fun w' hs => ⟨[.slice x23.1 t21.length x23.2], (res_tmp (by kernel_rfl) (.nil)), (x23.1, x23.2), rfl, hs.pick (ts := [4]) (cs := [Ck.sl (Ec.int 3 .i64) x23.1 x23.2 t21]) ⟨by exact rfl, trivial⟩ (by decide)⟩)
          · replace H := ite_f q9 H
            refine cs_know (c := true) (congrArg Bool.not (Bool.eq_false_iff.mpr q9)) 29 (by kernel_rfl) ?_
            refine cs_true (by kernel_rfl) ?_
            refine cs_seq ?_
            refine cs_region (l := [_]) ?_
            refine ls_val (v := .slice none 0 0) rfl rfl (by kernel_rfl) (fun w => by kernel_rfl) ?_
            refine ls_end ?_
            refine qn_then ?_
            refine cs_ret' ?_
            refine qr_then ?_
            refine qr_nilrow 1 (Ec.int 3 .i64) ?_
            obtain rfl := Option.some.inj H
            refine qr_res (rs := [_]) rfl (fun w' hs => ⟨[.slice none 0 0], (res_tmp (by kernel_rfl) (.nil)), (none, 0), rfl, hs.pick (ts := [1]) (cs := [Ck.sl (Ec.int 3 .i64) none 0 ([] : List Int)]) ⟨by exact rfl, trivial⟩ (by decide)⟩)

/-! ### shadowbox/shadowboxlaw17.ints: function 17 -/
def shadowboxlaw17_ints.tab1 : List (List Nat) := [[], [], [0, 1], [0, 1, 2], [], [], [4, 5], [4, 5, 6], [0, 1, 2, 3, 4, 5, 6, 7]]
def shadowboxlaw17_ints.lo2 (l0 : List Int) (l1 : List Int) : Nat → Int → Option (Bool)
  | 0, _ => none
  | k2 + 1, x5_2 => (if x5_2 < (l0.length : Int) then (if 0 ≤ x5_2 then (if x5_2 < (l1.length : Int) then (if ((l0).getD (x5_2).toNat (0 : Int)) = ((l1).getD (x5_2).toNat (0 : Int)) then (shadowboxlaw17_ints.lo2 l0 l1 k2) (IntKind.wrap .i64 (x5_2 + (1 : Int))) else some false) else none) else none) else some true)
def shadowboxlaw17_ints.jo1 (k : Nat) (l0 : List Int) (l1 : List Int) : Option (Bool) := shadowboxlaw17_ints.lo2 l0 l1 k (0 : Int)
def shadowboxlaw17_ints.f (k : Nat) (l0 : List Int) (l1 : List Int) : Option (Bool) :=
  (if (l0.length : Int) = (l1.length : Int) then (shadowboxlaw17_ints.jo1 k l0 l1) else some false)
set_option maxRecDepth 100000 in
set_option maxHeartbeats 4000000 in
theorem shadowboxlaw17_ints.calls (k : Nat) (A0 : Option Addr) (c0 : Nat) (l0 : List Int) (A1 : Option Addr) (c1 : Nat) (l1 : List Int) (r : Bool) (b : Bs) (hs0 : St b (stl []) b.w) (R0 : Ro b A0 (em (Ec.int 3 .i64) l0)) (C0 : l0.length ≤ c0) (R1 : Ro b A1 (em (Ec.int 3 .i64) l1)) (C1 : l1.length ≤ c1) (H : shadowboxlaw17_ints.f k l0 l1 = some r) :
    Calls Try.prog 17 #[.slice A0 l0.length c0, .slice A1 l1.length c1] b.w fun e w' => ∃ x : Unit, e = .returned (.bool r) ∧ St b (stl []) w' := by
  unfold shadowboxlaw17_ints.f at H
  refine enterb (n := 26) Try.func17 rfl (by kernel_rfl) (by kernel_rfl) hs0 ?_
  refine cs_sub (s0) (sub_nil _) ?_
  refine cs_seq ?_
  refine cs_region (l := [_]) ?_
  refine ls_val (v := .bool false) rfl rfl (by kernel_rfl) (fun w => by kernel_rfl) ?_
  refine ls_end ?_
  refine qn_then ?_
  refine cs_cut (fun f S => ∃ (fR : Fr), f = upd (upd fR 0 (.slice A0 l0.length c0)) 1 (.slice A1 l1.length c1) ∧ S = s0 ∧ shadowboxlaw17_ints.jo1 k l0 l1 = some r) ?_ ?_
  · skip
    refine cs_seq ?_
    refine cs_region (l := [_, _, _, _, _]) ?_
    refine ls_val (v := .slice A0 l0.length c0) rfl rfl (by kernel_rfl) (fun w => by kernel_rfl) ?_
    refine ls_val (v := .int .i64 (l0.length : Int)) rfl rfl (by kernel_rfl) (fun w => by kernel_rfl) ?_
    refine ls_val (v := .slice A1 l1.length c1) rfl rfl (by kernel_rfl) (fun w => by kernel_rfl) ?_
    refine ls_val (v := .int .i64 (l1.length : Int)) rfl rfl (by kernel_rfl) (fun w => by kernel_rfl) ?_
    refine ls_val (v := .bool (!decide ((l0.length : Int) = (l1.length : Int)))) rfl rfl (by kernel_rfl) (fun w => by kernel_rfl) ?_
    refine ls_end ?_
    refine qn_then ?_
    by_cases q11 : (l0.length : Int) = (l1.length : Int)
    · replace H := ite_t q11 H
      refine cs_know (c := false) (congrArg Bool.not (dec_t q11)) 10 (by kernel_rfl) ?_
      refine cs_false (by kernel_rfl) ?_
      refine cs_skip' ?_
      refine qn_meet (s0) ⟨_, fr_next (fr_next (rfl) (by kernel_rfl)) (by kernel_rfl), rfl, H⟩ (sub_nil _)
    · replace H := ite_f q11 H
      refine cs_know (c := true) (congrArg Bool.not (dec_f q11)) 10 (by kernel_rfl) ?_
      refine cs_true (by kernel_rfl) ?_
      refine cs_seq ?_
      refine cs_region (l := [_]) ?_
      refine ls_val (v := .bool false) rfl rfl (by kernel_rfl) (fun w => by kernel_rfl) ?_
      refine ls_end ?_
      refine qn_then ?_
      refine cs_ret' ?_
      refine qr_then ?_
      obtain rfl := Option.some.inj H
      refine qr_res (rs := [_]) rfl (fun w' hs => ⟨[.bool false], (res_tmp (by kernel_rfl) (.nil)), (), rfl, hs.pick (ts := []) (cs := []) trivial (by decide)⟩)
  · rintro f S ⟨fr1, rfl, rfl, H⟩
    replace H : (shadowboxlaw17_ints.lo2 l0 l1 k (0 : Int)) = some r := H
    refine cs_seq ?_
    refine cs_seq ?_
    refine cs_region (l := [_]) ?_
    refine ls_val (v := .int .i64 (0 : Int)) rfl rfl (by kernel_rfl) (fun w => by kernel_rfl) ?_
    refine ls_end ?_
    refine qn_then ?_
    refine cs_block ?_
    refine cs_sub (s0) (sub_nil _) ?_
    refine cs_loop (fun kk f S => ∃ (fR : Fr) (x5_2 : Int), f = upd (upd (upd fR 0 (.slice A0 l0.length c0)) 1 (.slice A1 l1.length c1)) 5 (.int .i64 x5_2) ∧ S = s0 ∧ shadowboxlaw17_ints.lo2 l0 l1 kk x5_2 = some r) k ?_ ?_ ?_
    · exact ⟨_, (0 : Int), fr_next (fr_next (fr_next (rfl) (by kernel_rfl)) (by kernel_rfl)) (by kernel_rfl), rfl, H⟩
    · rintro f S ⟨fr2, x5_2, rfl, rfl, H⟩; cases H
    · rintro k2 f S ⟨fr2, x5_2, rfl, rfl, H⟩
      replace H : ((if x5_2 < (l0.length : Int) then (if 0 ≤ x5_2 then (if x5_2 < (l1.length : Int) then (if ((l0).getD (x5_2).toNat (0 : Int)) = ((l1).getD (x5_2).toNat (0 : Int)) then (shadowboxlaw17_ints.lo2 l0 l1 k2) (IntKind.wrap .i64 (x5_2 + (1 : Int))) else some false) else none) else none) else some true)) = some r := H
      refine cs_seq ?_
      refine cs_seq ?_
      refine cs_region (l := [_, _, _, _]) ?_
      refine ls_val (v := .int .i64 x5_2) rfl rfl (by kernel_rfl) (fun w => by kernel_rfl) ?_
      refine ls_val (v := .slice A0 l0.length c0) rfl rfl (by kernel_rfl) (fun w => by kernel_rfl) ?_
      refine ls_val (v := .int .i64 (l0.length : Int)) rfl rfl (by kernel_rfl) (fun w => by kernel_rfl) ?_
      refine ls_val (v := .bool (decide (x5_2 < (l0.length : Int)))) rfl rfl (by kernel_rfl) (fun w => by kernel_rfl) ?_
      refine ls_end ?_
      refine qn_then ?_
      by_cases q1 : x5_2 < (l0.length : Int)
      · replace H := ite_t q1 H
        refine cs_know (c := true) (dec_t q1) 14 (by kernel_rfl) ?_
        refine cs_true (by kernel_rfl) ?_
        refine cs_skip' ?_
        refine qn_then ?_
        refine cs_seq ?_
        refine cs_block ?_
        refine cs_seq ?_
        obtain ⟨s3_0, hs3_0⟩ : ∃ z : Value → Sto → Prop, z = (fun v R => v = .slice A0 l0.length c0 ∧ R = s0) := ⟨_, rfl⟩
        refine have_op (l := [_, _, _, _, _, _, _, _, _]) shadowboxlaw17_ints.tab1 0 0 (fun sp => sp 0 = s3_0) (fun sp on hA hon => ?_) (fun ops3_0 => ?_)
        · refine ⟨fun o ho vs Rs f' S' w hp hf hx hS hR hs => ?_⟩
          obtain rfl := Option.some.inj ho
          rw [hA, hs3_0]
          refine And.intro (fun a ha => (want_none rfl a ha).trans hon.symm) (And.intro (fun _ => ?_) (fun h => by rw [hon] at h; cases h))
          have hF := fr_next (rfl) ((hx 0 (by kernel_rfl)).trans (by kernel_rfl : (_ : Value) = .slice A0 l0.length c0))
          refine ls_fr hF ?_
          refine ls_val (v := .slice A0 l0.length c0) rfl rfl (by kernel_rfl) (fun w => by kernel_rfl) ?_
          exact ls_fin s0 (.slice A0 l0.length c0) (congrArg (fun z => upd z 17 _) hF.symm) ⟨rfl, rfl⟩ (sub_nil _)
        obtain ⟨s3_1, hs3_1⟩ : ∃ z : Value → Sto → Prop, z = (fun v R => v = .int .i64 x5_2 ∧ R = s0) := ⟨_, rfl⟩
        refine have_op (l := [_, _, _, _, _, _, _, _, _]) shadowboxlaw17_ints.tab1 0 1 (fun sp => sp 1 = s3_1) (fun sp on hA hon => ?_) (fun ops3_1 => ?_)
        · refine ⟨fun o ho vs Rs f' S' w hp hf hx hS hR hs => ?_⟩
          obtain rfl := Option.some.inj ho
          rw [hA, hs3_1]
          refine And.intro (fun a ha => (want_none rfl a ha).trans hon.symm) (And.intro (fun _ => ?_) (fun h => by rw [hon] at h; cases h))
          have hF := fr_next (rfl) ((hx 5 (by kernel_rfl)).trans (by kernel_rfl : (_ : Value) = .int .i64 x5_2))
          refine ls_fr hF ?_
          refine ls_val (v := .int .i64 x5_2) rfl rfl (by kernel_rfl) (fun w => by kernel_rfl) ?_
          exact ls_fin s0 (.int .i64 x5_2) (congrArg (fun z => upd z 18 _) hF.symm) ⟨rfl, rfl⟩ (sub_nil _)
        obtain ⟨q4, H⟩ := ite_need H
        obtain ⟨ad5, hA6⟩ := ido_at (T := (Ec.int 3 .i64)) (l := l0) (i := x5_2) R0 q4 q1
        obtain ⟨s3_2, hs3_2⟩ : ∃ z : Value → Sto → Prop, z = (fun v R => v = .pointer (some (ad5.add ((x5_2).toNat * 1))) ∧ R = s0) := ⟨_, rfl⟩
        refine have_op (l := [_, _, _, _, _, _, _, _, _]) shadowboxlaw17_ints.tab1 0 2 (fun sp => sp 2 = s3_2 ∧ sp 0 = s3_0 ∧ sp 1 = s3_1) (fun sp on hA hon => ?_) (fun ops3_2 => ?_)
        · refine ⟨fun o ho vs Rs f' S' w hp hf hx hS hR hs => ?_⟩
          obtain rfl := Option.some.inj ho
          obtain ⟨hv0, hR0⟩ := (spe hA.2.1 hs3_0 (hp 0 (by kernel_rfl)))
          obtain ⟨hv1, hR1⟩ := (spe hA.2.2 hs3_1 (hp 1 (by kernel_rfl)))
          rw [hA.1, hs3_2]
          refine And.intro (fun a ha => (want_none rfl a ha).trans hon.symm) (And.intro (fun _ => ?_) (fun h => by rw [hon] at h; cases h))
          have hF := fr_next (fr_next (rfl) ((hf 0 17 (by kernel_rfl) rfl).trans hv0)) ((hf 1 18 (by kernel_rfl) rfl).trans hv1)
          refine ls_fr hF ?_
          refine ls_idxv (Ec.int 3 .i64) (A := A0) (c := c0) (l := l0) (k := .i64) (i := x5_2) (z := 1) (ad := ad5) rfl rfl (by kernel_rfl) hA6 rfl (by kernel_rfl) (by kernel_rfl) (by kernel_rfl) (by kernel_rfl) q4 q1 ?_
          exact ls_fin s0 (.pointer (some (ad5.add ((x5_2).toNat * 1)))) (congrArg (fun z => upd z 19 _) hF.symm) ⟨rfl, rfl⟩ (sub_nil _)
        obtain ⟨s3_3, hs3_3⟩ : ∃ z : Value → Sto → Prop, z = (fun v R => v = .int .i64 ((l0).getD (x5_2).toNat (0 : Int)) ∧ R = s0) := ⟨_, rfl⟩
        refine have_op (l := [_, _, _, _, _, _, _, _, _]) shadowboxlaw17_ints.tab1 0 3 (fun sp => sp 3 = s3_3 ∧ sp 2 = s3_2) (fun sp on hA hon => ?_) (fun ops3_3 => ?_)
        · refine ⟨fun o ho vs Rs f' S' w hp hf hx hS hR hs => ?_⟩
          obtain rfl := Option.some.inj ho
          obtain ⟨hv2, hR2⟩ := (spe hA.2 hs3_2 (hp 2 (by kernel_rfl)))
          rw [hA.1, hs3_3]
          refine And.intro (fun a ha => (want_none rfl a ha).trans hon.symm) (And.intro (fun _ => ?_) (fun h => by rw [hon] at h; cases h))
          have hF := fr_next (rfl) ((hf 2 19 (by kernel_rfl) rfl).trans hv2)
          refine ls_fr hF ?_
          refine ls_load (a0 := (ad5.add ((x5_2).toNat * 1))) (v := .int .i64 ((l0).getD (x5_2).toNat (0 : Int))) (de := (TypeDesc.int .i64)) rfl rfl (by kernel_rfl) rfl (by kernel_rfl) (by kernel_rfl) (by kernel_rfl) (fun w1 hs1 => (Rd.step (hs.old R0) hs1.below.bw).at hA6 (em_sub (Ec.int 3 .i64) l0 (i := (x5_2).toNat) (by have h0 : (0 : Int) ≤ x5_2 := q4; have h1 : x5_2 < (l0.length : Int) := q1; omega))) ?_
          exact ls_fin s0 (.int .i64 ((l0).getD (x5_2).toNat (0 : Int))) (congrArg (fun z => upd z 20 _) hF.symm) ⟨rfl, rfl⟩ (sub_nil _)
        obtain ⟨s3_4, hs3_4⟩ : ∃ z : Value → Sto → Prop, z = (fun v R => v = .slice A1 l1.length c1 ∧ R = s0) := ⟨_, rfl⟩
        refine have_op (l := [_, _, _, _, _, _, _, _, _]) shadowboxlaw17_ints.tab1 0 4 (fun sp => sp 4 = s3_4) (fun sp on hA hon => ?_) (fun ops3_4 => ?_)
        · refine ⟨fun o ho vs Rs f' S' w hp hf hx hS hR hs => ?_⟩
          obtain rfl := Option.some.inj ho
          rw [hA, hs3_4]
          refine And.intro (fun a ha => (want_none rfl a ha).trans hon.symm) (And.intro (fun _ => ?_) (fun h => by rw [hon] at h; cases h))
          have hF := fr_next (rfl) ((hx 1 (by kernel_rfl)).trans (by kernel_rfl : (_ : Value) = .slice A1 l1.length c1))
          refine ls_fr hF ?_
          refine ls_val (v := .slice A1 l1.length c1) rfl rfl (by kernel_rfl) (fun w => by kernel_rfl) ?_
          exact ls_fin s0 (.slice A1 l1.length c1) (congrArg (fun z => upd z 21 _) hF.symm) ⟨rfl, rfl⟩ (sub_nil _)
        obtain ⟨s3_5, hs3_5⟩ : ∃ z : Value → Sto → Prop, z = (fun v R => v = .int .i64 x5_2 ∧ R = s0) := ⟨_, rfl⟩
        refine have_op (l := [_, _, _, _, _, _, _, _, _]) shadowboxlaw17_ints.tab1 0 5 (fun sp => sp 5 = s3_5) (fun sp on hA hon => ?_) (fun ops3_5 => ?_)
        · refine ⟨fun o ho vs Rs f' S' w hp hf hx hS hR hs => ?_⟩
          obtain rfl := Option.some.inj ho
          rw [hA, hs3_5]
          refine And.intro (fun a ha => (want_none rfl a ha).trans hon.symm) (And.intro (fun _ => ?_) (fun h => by rw [hon] at h; cases h))
          have hF := fr_next (rfl) ((hx 5 (by kernel_rfl)).trans (by kernel_rfl : (_ : Value) = .int .i64 x5_2))
          refine ls_fr hF ?_
          refine ls_val (v := .int .i64 x5_2) rfl rfl (by kernel_rfl) (fun w => by kernel_rfl) ?_
          exact ls_fin s0 (.int .i64 x5_2) (congrArg (fun z => upd z 22 _) hF.symm) ⟨rfl, rfl⟩ (sub_nil _)
        obtain ⟨q7, H⟩ := ite_need H
        obtain ⟨ad8, hA9⟩ := ido_at (T := (Ec.int 3 .i64)) (l := l1) (i := x5_2) R1 q4 q7
        obtain ⟨s3_6, hs3_6⟩ : ∃ z : Value → Sto → Prop, z = (fun v R => v = .pointer (some (ad8.add ((x5_2).toNat * 1))) ∧ R = s0) := ⟨_, rfl⟩
        refine have_op (l := [_, _, _, _, _, _, _, _, _]) shadowboxlaw17_ints.tab1 0 6 (fun sp => sp 6 = s3_6 ∧ sp 4 = s3_4 ∧ sp 5 = s3_5) (fun sp on hA hon => ?_) (fun ops3_6 => ?_)
        · refine ⟨fun o ho vs Rs f' S' w hp hf hx hS hR hs => ?_⟩
          obtain rfl := Option.some.inj ho
          obtain ⟨hv4, hR4⟩ := (spe hA.2.1 hs3_4 (hp 4 (by kernel_rfl)))
          obtain ⟨hv5, hR5⟩ := (spe hA.2.2 hs3_5 (hp 5 (by kernel_rfl)))
          rw [hA.1, hs3_6]
          refine And.intro (fun a ha => (want_none rfl a ha).trans hon.symm) (And.intro (fun _ => ?_) (fun h => by rw [hon] at h; cases h))
          have hF := fr_next (fr_next (rfl) ((hf 4 21 (by kernel_rfl) rfl).trans hv4)) ((hf 5 22 (by kernel_rfl) rfl).trans hv5)
          refine ls_fr hF ?_
          refine ls_idxv (Ec.int 3 .i64) (A := A1) (c := c1) (l := l1) (k := .i64) (i := x5_2) (z := 1) (ad := ad8) rfl rfl (by kernel_rfl) hA9 rfl (by kernel_rfl) (by kernel_rfl) (by kernel_rfl) (by kernel_rfl) q4 q7 ?_
          exact ls_fin s0 (.pointer (some (ad8.add ((x5_2).toNat * 1)))) (congrArg (fun z => upd z 23 _) hF.symm) ⟨rfl, rfl⟩ (sub_nil _)
        obtain ⟨s3_7, hs3_7⟩ : ∃ z : Value → Sto → Prop, z = (fun v R => v = .int .i64 ((l1).getD (x5_2).toNat (0 : Int)) ∧ R = s0) := ⟨_, rfl⟩
        refine have_op (l := [_, _, _, _, _, _, _, _, _]) shadowboxlaw17_ints.tab1 0 7 (fun sp => sp 7 = s3_7 ∧ sp 6 = s3_6) (fun sp on hA hon => ?_) (fun ops3_7 => ?_)
        · refine ⟨fun o ho vs Rs f' S' w hp hf hx hS hR hs => ?_⟩
          obtain rfl := Option.some.inj ho
          obtain ⟨hv6, hR6⟩ := (spe hA.2 hs3_6 (hp 6 (by kernel_rfl)))
          rw [hA.1, hs3_7]
          refine And.intro (fun a ha => (want_none rfl a ha).trans hon.symm) (And.intro (fun _ => ?_) (fun h => by rw [hon] at h; cases h))
          have hF := fr_next (rfl) ((hf 6 23 (by kernel_rfl) rfl).trans hv6)
          refine ls_fr hF ?_
          refine ls_load (a0 := (ad8.add ((x5_2).toNat * 1))) (v := .int .i64 ((l1).getD (x5_2).toNat (0 : Int))) (de := (TypeDesc.int .i64)) rfl rfl (by kernel_rfl) rfl (by kernel_rfl) (by kernel_rfl) (by kernel_rfl) (fun w1 hs1 => (Rd.step (hs.old R1) hs1.below.bw).at hA9 (em_sub (Ec.int 3 .i64) l1 (i := (x5_2).toNat) (by have h0 : (0 : Int) ≤ x5_2 := q4; have h1 : x5_2 < (l1.length : Int) := q7; omega))) ?_
          exact ls_fin s0 (.int .i64 ((l1).getD (x5_2).toNat (0 : Int))) (congrArg (fun z => upd z 24 _) hF.symm) ⟨rfl, rfl⟩ (sub_nil _)
        refine cs_draw shadowboxlaw17_ints.tab1 8 0 (spl [s3_0, s3_1, s3_2, s3_3, s3_4, s3_5, s3_6, s3_7]) (onl [true, true, true, true, true, true, true, true]) (by kernel_rfl) (by kernel_rfl) (by kernel_rfl) (by kernel_rfl) (rs := [_]) rfl (by kernel_rfl) (by kernel_rfl) (all_snoc (all_snoc (all_snoc (all_snoc (all_snoc (all_snoc (all_snoc (all_snoc (all_nil) (ops3_0 _ _ rfl rfl)) (ops3_1 _ _ rfl rfl)) (ops3_2 _ _ ⟨rfl, rfl, rfl⟩ rfl)) (ops3_3 _ _ ⟨rfl, rfl⟩ rfl)) (ops3_4 _ _ rfl rfl)) (ops3_5 _ _ rfl rfl)) (ops3_6 _ _ ⟨rfl, rfl, rfl⟩ rfl)) (ops3_7 _ _ ⟨rfl, rfl⟩ rfl)) ?_
        intro vs Rs f' S' hp hf hx hS hR
        obtain ⟨hv3, hR3⟩ := (spe rfl hs3_3 (hp 3 (by kernel_rfl)))
        obtain ⟨hv7, hR7⟩ := (spe rfl hs3_7 (hp 7 (by kernel_rfl)))
        refine ls_fr (F := upd (upd (upd (upd (upd f' 0 (.slice A0 l0.length c0)) 1 (.slice A1 l1.length c1)) 5 (.int .i64 x5_2)) 20 (.int .i64 ((l0).getD (x5_2).toNat (0 : Int)))) 24 (.int .i64 ((l1).getD (x5_2).toNat (0 : Int)))) (fr_next (fr_next (fr_next (fr_next (fr_next (rfl) ((hx 0 (by kernel_rfl)).trans (by kernel_rfl : (_ : Value) = .slice A0 l0.length c0))) ((hx 1 (by kernel_rfl)).trans (by kernel_rfl : (_ : Value) = .slice A1 l1.length c1))) ((hx 5 (by kernel_rfl)).trans (by kernel_rfl : (_ : Value) = .int .i64 x5_2))) ((hf 3 20 (by kernel_rfl) rfl).trans hv3)) ((hf 7 24 (by kernel_rfl) rfl).trans hv7)) ?_
        refine ls_sub (s0) (sub_nil _) ?_
        refine ls_val (v := .bool (!decide (((l0).getD (x5_2).toNat (0 : Int)) = ((l1).getD (x5_2).toNat (0 : Int))))) rfl rfl (by kernel_rfl) (fun w => by kernel_rfl) ?_
        refine ls_end ?_
        refine qn_then ?_
        by_cases q10 : ((l0).getD (x5_2).toNat (0 : Int)) = ((l1).getD (x5_2).toNat (0 : Int))
        · replace H := ite_t q10 H
          refine cs_know (c := false) (congrArg Bool.not (dec_t q10)) 25 (by kernel_rfl) ?_
          refine cs_false (by kernel_rfl) ?_
          refine cs_skip' ?_
          refine qn_block ?_
          refine qn_then ?_
          refine cs_region (l := [_, _, _]) ?_
          refine ls_val (v := .int .i64 x5_2) rfl rfl (by kernel_rfl) (fun w => by kernel_rfl) ?_
          refine ls_val (v := .int .i64 (IntKind.wrap .i64 (x5_2 + (1 : Int)))) rfl rfl (by kernel_rfl) (fun w => by kernel_rfl) ?_
          refine ls_val (v := .int .i64 (IntKind.wrap .i64 (x5_2 + (1 : Int)))) rfl rfl (by kernel_rfl) (fun w => by kernel_rfl) ?_
          refine ls_end ?_
          refine qn_again k2 (s0) (Nat.le_refl _) ⟨_, (IntKind.wrap .i64 (x5_2 + (1 : Int))), fr_next (fr_next (fr_next (rfl) (by kernel_rfl)) (by kernel_rfl)) (by kernel_rfl), rfl, H⟩ (sub_nil _)
        · replace H := ite_f q10 H
          refine cs_know (c := true) (congrArg Bool.not (dec_f q10)) 25 (by kernel_rfl) ?_
          refine cs_true (by kernel_rfl) ?_
          refine cs_seq ?_
          refine cs_region (l := [_]) ?_
          refine ls_val (v := .bool false) rfl rfl (by kernel_rfl) (fun w => by kernel_rfl) ?_
          refine ls_end ?_
          refine qn_then ?_
          refine cs_ret' ?_
          refine qr_block ?_
          refine qr_then ?_
          refine qr_then ?_
          refine qr_block ?_
          refine qr_then ?_
          obtain rfl := Option.some.inj H
          refine qr_res (rs := [_]) rfl (fun w' hs => ⟨[.bool false], (res_tmp (by kernel_rfl) (.nil)), (), rfl, hs.pick (ts := []) (cs := []) trivial (by decide)⟩)
      · replace H := ite_f q1 H
        refine cs_know (c := false) (dec_f q1) 14 (by kernel_rfl) ?_
        refine cs_false (by kernel_rfl) ?_
        refine cs_exit' ?_
        refine qx_then ?_
        refine qx_then ?_
        refine qx_same ?_
        refine qn_then ?_
        refine cs_seq ?_
        refine cs_region (l := [_]) ?_
        refine ls_val (v := .bool true) rfl rfl (by kernel_rfl) (fun w => by kernel_rfl) ?_
        refine ls_end ?_
        refine qn_then ?_
        refine cs_ret' ?_
        obtain rfl := Option.some.inj H
        refine qr_res (rs := [_]) rfl (fun w' hs => ⟨[.bool true], (res_tmp (by kernel_rfl) (.nil)), (), rfl, hs.pick (ts := []) (cs := []) trivial (by decide)⟩)

/-! ### shadowbox/shadowboxref17.greedy: function 33 -/
def shadowboxref17_greedy.jo2 (l0 : List Int) (a1 : Int) (l5_1 : List Int) (x6_1 : Int) (x7_1 : Int) (lo1 : (List Int) → Int → Int → Option ((List Int))) : Option ((List Int)) := (if x7_1 > (0 : Int) then (if 0 ≤ x7_1 then (if x7_1 < (l0.length : Int) then lt (IntKind.wrap .i64 (x6_1 + ((l0).getD (x7_1).toNat (0 : Int)))) fun y6 => (if y6 > a1 then (if (l5_1.length + ([x7_1]).length) * 8 ≤ 140737488355328 then lt (IntKind.wrap .i64 ((0 : Int) + ((l0).getD (x7_1).toNat (0 : Int)))) fun y15 => lo1 (l5_1 ++ [x7_1]) y15 (IntKind.wrap .i64 (x7_1 + (1 : Int))) else none) else lt (IntKind.wrap .i64 (x6_1 + ((l0).getD (x7_1).toNat (0 : Int)))) fun y19 => lo1 l5_1 y19 (IntKind.wrap .i64 (x7_1 + (1 : Int)))) else none) else none) else (if 0 ≤ x7_1 then (if x7_1 < (l0.length : Int) then lt (IntKind.wrap .i64 (x6_1 + ((l0).getD (x7_1).toNat (0 : Int)))) fun y25 => lo1 l5_1 y25 (IntKind.wrap .i64 (x7_1 + (1 : Int))) else none) else none))
def shadowboxref17_greedy.lo1 (l0 : List Int) (a1 : Int) : Nat → (List Int) → Int → Int → Option ((List Int))
  | 0, _, _, _ => none
  | k1 + 1, l5_1, x6_1, x7_1 => (if x7_1 < (l0.length : Int) then (shadowboxref17_greedy.jo2 l0 a1 l5_1 x6_1 x7_1 (shadowboxref17_greedy.lo1 l0 a1 k1)) else (if (l5_1.length + ([(l0.length : Int)]).length) * 8 ≤ 140737488355328 then some (l5_1 ++ [(l0.length : Int)]) else none))
def shadowboxref17_greedy.f (k : Nat) (l0 : List Int) (a1 : Int) : Option ((List Int)) :=
  shadowboxref17_greedy.lo1 l0 a1 k ([] : List Int) (0 : Int) (0 : Int)
set_option maxRecDepth 100000 in
set_option maxHeartbeats 4000000 in
theorem shadowboxref17_greedy.calls (k : Nat) (A0 : Option Addr) (c0 : Nat) (l0 : List Int) (a1 : Int) (r : (List Int)) (b : Bs) (hs0 : St b (stl []) b.w) (R0 : Ro b A0 (em (Ec.int 3 .i64) l0)) (C0 : l0.length ≤ c0) (H : shadowboxref17_greedy.f k l0 a1 = some r) :
    Calls Try.prog 33 #[.slice A0 l0.length c0, .int .i64 a1] b.w fun e w' => ∃ x : (Option Addr × Nat), e = .returned (.slice x.1 r.length x.2) ∧ St b (stl [Ck.sl (Ec.int 3 .i64) x.1 x.2 r]) w' := by
  unfold shadowboxref17_greedy.f at H
  refine enterb (n := 41) Try.func33 rfl (by kernel_rfl) (by kernel_rfl) hs0 ?_
  refine cs_sub (s0) (sub_nil _) ?_
  refine cs_seq ?_
  refine cs_region (l := [_]) ?_
  refine ls_val (v := .slice none 0 0) rfl rfl (by kernel_rfl) (fun w => by kernel_rfl) ?_
  refine ls_end ?_
  refine qn_then ?_
  refine cs_seq ?_
  refine cs_region (l := [_]) ?_
  refine ls_val (v := .slice none 0 0) rfl rfl (by kernel_rfl) (fun w => by kernel_rfl) ?_
  refine ls_end ?_
  refine qn_then ?_
  refine cs_seq ?_
  refine cs_region (l := [_]) ?_
  refine ls_val (v := .int .i64 (0 : Int)) rfl rfl (by kernel_rfl) (fun w => by kernel_rfl) ?_
  refine ls_end ?_
  refine qn_then ?_
  refine cs_seq ?_
  refine cs_seq ?_
  refine cs_region (l := [_]) ?_
  refine ls_val (v := .int .i64 (0 : Int)) rfl rfl (by kernel_rfl) (fun w => by kernel_rfl) ?_
  refine ls_end ?_
  refine qn_then ?_
  refine cs_block ?_
  refine cs_nilrow 0 (Ec.int 3 .i64) ?_
  refine cs_sub (sput s0 0 (some (Ck.sl (Ec.int 3 .i64) none 0 ([] : List Int)))) (sub_put (by exact rfl) (sub_nil _)) ?_
  refine cs_loop (fun kk f S => ∃ (fR : Fr) (A5_1 : Option Addr) (c5_1 : Nat) (l5_1 : List Int) (x6_1 : Int) (x7_1 : Int), f = upd (upd (upd (upd (upd fR 0 (.slice A0 l0.length c0)) 1 (.int .i64 a1)) 5 (.slice A5_1 l5_1.length c5_1)) 6 (.int .i64 x6_1)) 7 (.int .i64 x7_1) ∧ S = sput s0 0 (some (Ck.sl (Ec.int 3 .i64) A5_1 c5_1 l5_1)) ∧ shadowboxref17_greedy.lo1 l0 a1 kk l5_1 x6_1 x7_1 = some r) k ?_ ?_ ?_
  · exact ⟨_, none, 0, ([] : List Int), (0 : Int), (0 : Int), fr_next (fr_next (fr_next (fr_next (fr_next (rfl) (by kernel_rfl)) (by kernel_rfl)) (by kernel_rfl)) (by kernel_rfl)) (by kernel_rfl), rfl, H⟩
  · rintro f S ⟨fr1, A5_1, c5_1, l5_1, x6_1, x7_1, rfl, rfl, H⟩; cases H
  · rintro k1 f S ⟨fr1, A5_1, c5_1, l5_1, x6_1, x7_1, rfl, rfl, H⟩
    replace H : ((if x7_1 < (l0.length : Int) then (shadowboxref17_greedy.jo2 l0 a1 l5_1 x6_1 x7_1 (shadowboxref17_greedy.lo1 l0 a1 k1)) else (if (l5_1.length + ([(l0.length : Int)]).length) * 8 ≤ 140737488355328 then some (l5_1 ++ [(l0.length : Int)]) else none))) = some r := H
    refine cs_cut (fun f S => ∃ (fR : Fr), f = upd (upd (upd (upd (upd fR 0 (.slice A0 l0.length c0)) 1 (.int .i64 a1)) 5 (.slice A5_1 l5_1.length c5_1)) 6 (.int .i64 x6_1)) 7 (.int .i64 x7_1) ∧ S = sput s0 0 (some (Ck.sl (Ec.int 3 .i64) A5_1 c5_1 l5_1)) ∧ shadowboxref17_greedy.jo2 l0 a1 l5_1 x6_1 x7_1 (shadowboxref17_greedy.lo1 l0 a1 k1) = some r) ?_ ?_
    · skip
      refine cs_seq ?_
      refine cs_region (l := [_, _, _, _]) ?_
      refine ls_val (v := .int .i64 x7_1) rfl rfl (by kernel_rfl) (fun w => by kernel_rfl) ?_
      refine ls_val (v := .slice A0 l0.length c0) rfl rfl (by kernel_rfl) (fun w => by kernel_rfl) ?_
      refine ls_val (v := .int .i64 (l0.length : Int)) rfl rfl (by kernel_rfl) (fun w => by kernel_rfl) ?_
      refine ls_val (v := .bool (decide (x7_1 < (l0.length : Int)))) rfl rfl (by kernel_rfl) (fun w => by kernel_rfl) ?_
      refine ls_end ?_
      refine qn_then ?_
      by_cases q27 : x7_1 < (l0.length : Int)
      · replace H := ite_t q27 H
        refine cs_know (c := true) (dec_t q27) 11 (by kernel_rfl) ?_
        refine cs_true (by kernel_rfl) ?_
        refine cs_skip' ?_
        refine qn_meet (sput s0 0 (some (Ck.sl (Ec.int 3 .i64) A5_1 c5_1 l5_1))) ⟨_, fr_next (fr_next (fr_next (fr_next (fr_next (rfl) (by kernel_rfl)) (by kernel_rfl)) (by kernel_rfl)) (by kernel_rfl)) (by kernel_rfl), rfl, H⟩ (sub_put (by exact rfl) (sub_nil _))
      · replace H := ite_f q27 H
        refine cs_know (c := false) (dec_f q27) 11 (by kernel_rfl) ?_
        refine cs_false (by kernel_rfl) ?_
        refine cs_exit' ?_
        refine qx_then ?_
        refine qx_then ?_
        refine qx_same ?_
        refine qn_then ?_
        refine cs_seq ?_
        refine cs_region (l := [_, _, _, _, _, _]) ?_
        refine ls_val (v := .slice A5_1 l5_1.length c5_1) rfl rfl (by kernel_rfl) (fun w => by kernel_rfl) ?_
        refine ls_val (v := .slice A0 l0.length c0) rfl rfl (by kernel_rfl) (fun w => by kernel_rfl) ?_
        refine ls_val (v := .int .i64 (l0.length : Int)) rfl rfl (by kernel_rfl) (fun w => by kernel_rfl) ?_
        refine ls_lit (Ec.int 3 .i64) 1 rfl rfl (by kernel_rfl) ([(l0.length : Int)]) (by exact of_decide_eq_true (by kernel_rfl)) (fun w => by kernel_rfl) ?_
        intro g28
        obtain ⟨q29, H⟩ := ite_need H
        refine ls_app (Ec.int 3 .i64) (A := A5_1) (c := c5_1) (B := (some ⟨g28, 0, none⟩)) (cb := [(l0.length : Int)].length) (z := (Value.int .i64 0)) (l := l5_1) (m := [(l0.length : Int)]) (bytes := 8) 0 rfl rfl (by kernel_rfl) rfl (by kernel_rfl) (by exact rfl) (by kernel_rfl) (fun w hs => (hs.rd (k := 1) (by exact rfl))) (by kernel_rfl) (by kernel_rfl) rfl (by decide) q29 ?_
        intro xA30 xc31
        refine ls_val (v := .slice xA30 (l5_1 ++ [(l0.length : Int)]).length xc31) rfl rfl (by kernel_rfl) (fun w => by kernel_rfl) ?_
        refine ls_end ?_
        refine qn_then ?_
        refine cs_ret' ?_
        obtain rfl := Option.some.inj H
        refine qr_res (rs := [_]) rfl (fun w' hs => ⟨[.slice xA30 (l5_1 ++ [(l0.length : Int)]).length xc31], (res_tmp (by kernel_rfl) (.nil)), (xA30, xc31), rfl, hs.pick (ts := [0]) (cs := [Ck.sl (Ec.int 3 .i64) xA30 xc31 (l5_1 ++ [(l0.length : Int)])]) ⟨by exact rfl, trivial⟩ (by decide)⟩)
    · rintro f S ⟨fr2, rfl, rfl, H⟩
      replace H : ((if x7_1 > (0 : Int) then (if 0 ≤ x7_1 then (if x7_1 < (l0.length : Int) then lt (IntKind.wrap .i64 (x6_1 + ((l0).getD (x7_1).toNat (0 : Int)))) fun y6 => (if y6 > a1 then (if (l5_1.length + ([x7_1]).length) * 8 ≤ 140737488355328 then lt (IntKind.wrap .i64 ((0 : Int) + ((l0).getD (x7_1).toNat (0 : Int)))) fun y15 => (shadowboxref17_greedy.lo1 l0 a1 k1) (l5_1 ++ [x7_1]) y15 (IntKind.wrap .i64 (x7_1 + (1 : Int))) else none) else lt (IntKind.wrap .i64 (x6_1 + ((l0).getD (x7_1).toNat (0 : Int)))) fun y19 => (shadowboxref17_greedy.lo1 l0 a1 k1) l5_1 y19 (IntKind.wrap .i64 (x7_1 + (1 : Int)))) else none) else none) else (if 0 ≤ x7_1 then (if x7_1 < (l0.length : Int) then lt (IntKind.wrap .i64 (x6_1 + ((l0).getD (x7_1).toNat (0 : Int)))) fun y25 => (shadowboxref17_greedy.lo1 l0 a1 k1) l5_1 y25 (IntKind.wrap .i64 (x7_1 + (1 : Int))) else none) else none))) = some r := H
      refine cs_seq ?_
      refine cs_block ?_
      refine cs_seq ?_
      refine cs_seq ?_
      refine cs_region (l := [_, _, _, _, _, _, _, _, _, _, _, _]) ?_
      refine ls_val (v := .int .i64 x7_1) rfl rfl (by kernel_rfl) (fun w => by kernel_rfl) ?_
      refine ls_val (v := .bool (decide (x7_1 > (0 : Int)))) rfl rfl (by kernel_rfl) (fun w => by kernel_rfl) ?_
      refine ls_val (v := .bool (decide (x7_1 > (0 : Int)))) rfl rfl (by kernel_rfl) (fun w => by kernel_rfl) ?_
      by_cases q1 : x7_1 > (0 : Int)
      · replace H := ite_t q1 H
        refine ls_know (c := true) (dec_t q1) 16 (by kernel_rfl) ?_
        refine ls_on (j := 2) (t := 16) (b := true) rfl rfl (by kernel_rfl) (by kernel_rfl) ?_
        refine ls_val (v := .int .i64 x6_1) rfl rfl (by kernel_rfl) (fun w => by kernel_rfl) ?_
        refine ls_on (j := 2) (t := 16) (b := true) rfl rfl (by kernel_rfl) (by kernel_rfl) ?_
        refine ls_val (v := .slice A0 l0.length c0) rfl rfl (by kernel_rfl) (fun w => by kernel_rfl) ?_
        refine ls_on (j := 2) (t := 16) (b := true) rfl rfl (by kernel_rfl) (by kernel_rfl) ?_
        refine ls_val (v := .int .i64 x7_1) rfl rfl (by kernel_rfl) (fun w => by kernel_rfl) ?_
        refine ls_on (j := 2) (t := 16) (b := true) rfl rfl (by kernel_rfl) (by kernel_rfl) ?_
        obtain ⟨q2, H⟩ := ite_need H
        obtain ⟨q3, H⟩ := ite_need H
        obtain ⟨ad4, hA5⟩ := ido_at (T := (Ec.int 3 .i64)) (l := l0) (i := x7_1) R0 q2 q3
        refine ls_idxv (Ec.int 3 .i64) (A := A0) (c := c0) (l := l0) (k := .i64) (i := x7_1) (z := 1) (ad := ad4) rfl rfl (by kernel_rfl) hA5 rfl (by kernel_rfl) (by kernel_rfl) (by kernel_rfl) (by kernel_rfl) q2 q3 ?_
        refine ls_on (j := 2) (t := 16) (b := true) rfl rfl (by kernel_rfl) (by kernel_rfl) ?_
        refine ls_load (a0 := (ad4.add ((x7_1).toNat * 1))) (v := .int .i64 ((l0).getD (x7_1).toNat (0 : Int))) (de := (TypeDesc.int .i64)) rfl rfl (by kernel_rfl) rfl (by kernel_rfl) (by kernel_rfl) (by kernel_rfl) (fun w hs => (hs.old R0).at hA5 (em_sub (Ec.int 3 .i64) l0 (i := (x7_1).toNat) (by have h0 : (0 : Int) ≤ x7_1 := q2; have h1 : x7_1 < (l0.length : Int) := q3; omega))) ?_
        refine ls_on (j := 2) (t := 16) (b := true) rfl rfl (by kernel_rfl) (by kernel_rfl) ?_
        obtain ⟨y6, hy7, H⟩ := lt_some H
        refine ls_val (v := .int .i64 (IntKind.wrap .i64 (x6_1 + ((l0).getD (x7_1).toNat (0 : Int))))) rfl rfl (by kernel_rfl) (fun w => by kernel_rfl) ?_
        refine ls_ren 22 (v := .int .i64 (IntKind.wrap .i64 (x6_1 + ((l0).getD (x7_1).toNat (0 : Int))))) (v' := .int .i64 y6) (by kernel_rfl) (by rw [hy7]) ?_
        refine ls_on (j := 2) (t := 16) (b := true) rfl rfl (by kernel_rfl) (by kernel_rfl) ?_
        refine ls_val (v := .int .i64 a1) rfl rfl (by kernel_rfl) (fun w => by kernel_rfl) ?_
        refine ls_on (j := 2) (t := 16) (b := true) rfl rfl (by kernel_rfl) (by kernel_rfl) ?_
        refine ls_val (v := .bool (decide (y6 > a1))) rfl rfl (by kernel_rfl) (fun w => by kernel_rfl) ?_
        refine ls_val (v := .bool (decide (y6 > a1))) rfl rfl (by kernel_rfl) (fun w => by kernel_rfl) ?_
        refine ls_end ?_
        refine qn_then ?_
        by_cases q8 : y6 > a1
        · replace H := ite_t q8 H
          refine cs_know (c := true) (dec_t q8) 25 (by kernel_rfl) ?_
          refine cs_true (by kernel_rfl) ?_
          refine cs_seq ?_
          refine cs_region (l := [_, _, _, _, _]) ?_
          refine ls_val (v := .slice A5_1 l5_1.length c5_1) rfl rfl (by kernel_rfl) (fun w => by kernel_rfl) ?_
          refine ls_val (v := .int .i64 x7_1) rfl rfl (by kernel_rfl) (fun w => by kernel_rfl) ?_
          refine ls_lit (Ec.int 3 .i64) 1 rfl rfl (by kernel_rfl) ([x7_1]) (by exact of_decide_eq_true (by kernel_rfl)) (fun w => by kernel_rfl) ?_
          intro g9
          obtain ⟨q10, H⟩ := ite_need H
          refine ls_app (Ec.int 3 .i64) (A := A5_1) (c := c5_1) (B := (some ⟨g9, 0, none⟩)) (cb := [x7_1].length) (z := (Value.int .i64 0)) (l := l5_1) (m := [x7_1]) (bytes := 8) 0 rfl rfl (by kernel_rfl) rfl (by kernel_rfl) (by exact rfl) (by kernel_rfl) (fun w hs => (hs.rd (k := 1) (by exact rfl))) (by kernel_rfl) (by kernel_rfl) rfl (by decide) q10 ?_
          intro xA11 xc12
          refine ls_val (v := .slice xA11 (l5_1 ++ [x7_1]).length xc12) rfl rfl (by kernel_rfl) (fun w => by kernel_rfl) ?_
          refine ls_end ?_
          refine qn_then ?_
          refine cs_region (l := [_]) ?_
          refine ls_val (v := .int .i64 (0 : Int)) rfl rfl (by kernel_rfl) (fun w => by kernel_rfl) ?_
          refine ls_end ?_
          refine qn_then ?_
          refine cs_region (l := [_, _, _, _, _, _, _]) ?_
          refine ls_val (v := .int .i64 (0 : Int)) rfl rfl (by kernel_rfl) (fun w => by kernel_rfl) ?_
          refine ls_val (v := .slice A0 l0.length c0) rfl rfl (by kernel_rfl) (fun w => by kernel_rfl) ?_
          refine ls_val (v := .int .i64 x7_1) rfl rfl (by kernel_rfl) (fun w => by kernel_rfl) ?_
          obtain ⟨ad13, hA14⟩ := ido_at (T := (Ec.int 3 .i64)) (l := l0) (i := x7_1) R0 q2 q3
          refine ls_idxv (Ec.int 3 .i64) (A := A0) (c := c0) (l := l0) (k := .i64) (i := x7_1) (z := 1) (ad := ad13) rfl rfl (by kernel_rfl) hA14 rfl (by kernel_rfl) (by kernel_rfl) (by kernel_rfl) (by kernel_rfl) q2 q3 ?_
          refine ls_load (a0 := (ad13.add ((x7_1).toNat * 1))) (v := .int .i64 ((l0).getD (x7_1).toNat (0 : Int))) (de := (TypeDesc.int .i64)) rfl rfl (by kernel_rfl) rfl (by kernel_rfl) (by kernel_rfl) (by kernel_rfl) (fun w hs => (hs.old R0).at hA14 (em_sub (Ec.int 3 .i64) l0 (i := (x7_1).toNat) (by have h0 : (0 : Int) ≤ x7_1 := q2; have h1 : x7_1 < (l0.length : Int) := q3; omega))) ?_
          obtain ⟨y15, hy16, H⟩ := lt_some H
          refine ls_val (v := .int .i64 (IntKind.wrap .i64 ((0 : Int) + ((l0).getD (x7_1).toNat (0 : Int))))) rfl rfl (by kernel_rfl) (fun w => by kernel_rfl) ?_
          refine ls_ren 35 (v := .int .i64 (IntKind.wrap .i64 ((0 : Int) + ((l0).getD (x7_1).toNat (0 : Int))))) (v' := .int .i64 y15) (by kernel_rfl) (by rw [hy16]) ?_
          refine ls_val (v := .int .i64 y15) rfl rfl (by kernel_rfl) (fun w => by kernel_rfl) ?_
          refine ls_end ?_
          refine qn_block ?_
          refine qn_then ?_
          refine cs_region (l := [_, _, _]) ?_
          refine ls_val (v := .int .i64 x7_1) rfl rfl (by kernel_rfl) (fun w => by kernel_rfl) ?_
          refine ls_val (v := .int .i64 (IntKind.wrap .i64 (x7_1 + (1 : Int)))) rfl rfl (by kernel_rfl) (fun w => by kernel_rfl) ?_
          refine ls_val (v := .int .i64 (IntKind.wrap .i64 (x7_1 + (1 : Int)))) rfl rfl (by kernel_rfl) (fun w => by kernel_rfl) ?_
          refine ls_end ?_
          refine qn_again k1 (sput s0 0 (some (Ck.sl (Ec.int 3 .i64) xA11 xc12 (l5_1 ++ [x7_1])))) (Nat.le_refl _) ⟨_, xA11, xc12, (l5_1 ++ [x7_1]), y15, (IntKind.wrap .i64 (x7_1 + (1 : Int))), fr_next (fr_next (fr_next (fr_next (fr_next (rfl) (by kernel_rfl)) (by kernel_rfl)) (by kernel_rfl)) (by kernel_rfl)) (by kernel_rfl), rfl, H⟩ (sub_put (by exact rfl) (sub_nil _))
        · replace H := ite_f q8 H
          refine cs_know (c := false) (dec_f q8) 25 (by kernel_rfl) ?_
          refine cs_false (by kernel_rfl) ?_
          refine cs_skip' ?_
          refine qn_then ?_
          refine cs_region (l := [_, _, _, _, _, _, _]) ?_
          refine ls_val (v := .int .i64 x6_1) rfl rfl (by kernel_rfl) (fun w => by kernel_rfl) ?_
          refine ls_val (v := .slice A0 l0.length c0) rfl rfl (by kernel_rfl) (fun w => by kernel_rfl) ?_
          refine ls_val (v := .int .i64 x7_1) rfl rfl (by kernel_rfl) (fun w => by kernel_rfl) ?_
          obtain ⟨ad17, hA18⟩ := ido_at (T := (Ec.int 3 .i64)) (l := l0) (i := x7_1) R0 q2 q3
          refine ls_idxv (Ec.int 3 .i64) (A := A0) (c := c0) (l := l0) (k := .i64) (i := x7_1) (z := 1) (ad := ad17) rfl rfl (by kernel_rfl) hA18 rfl (by kernel_rfl) (by kernel_rfl) (by kernel_rfl) (by kernel_rfl) q2 q3 ?_
          refine ls_load (a0 := (ad17.add ((x7_1).toNat * 1))) (v := .int .i64 ((l0).getD (x7_1).toNat (0 : Int))) (de := (TypeDesc.int .i64)) rfl rfl (by kernel_rfl) rfl (by kernel_rfl) (by kernel_rfl) (by kernel_rfl) (fun w hs => (hs.old R0).at hA18 (em_sub (Ec.int 3 .i64) l0 (i := (x7_1).toNat) (by have h0 : (0 : Int) ≤ x7_1 := q2; have h1 : x7_1 < (l0.length : Int) := q3; omega))) ?_
          obtain ⟨y19, hy20, H⟩ := lt_some H
          refine ls_val (v := .int .i64 (IntKind.wrap .i64 (x6_1 + ((l0).getD (x7_1).toNat (0 : Int))))) rfl rfl (by kernel_rfl) (fun w => by kernel_rfl) ?_
          refine ls_ren 35 (v := .int .i64 (IntKind.wrap .i64 (x6_1 + ((l0).getD (x7_1).toNat (0 : Int))))) (v' := .int .i64 y19) (by kernel_rfl) (by rw [hy20]) ?_
          refine ls_val (v := .int .i64 y19) rfl rfl (by kernel_rfl) (fun w => by kernel_rfl) ?_
          refine ls_end ?_
          refine qn_block ?_
          refine qn_then ?_
          refine cs_region (l := [_, _, _]) ?_
          refine ls_val (v := .int .i64 x7_1) rfl rfl (by kernel_rfl) (fun w => by kernel_rfl) ?_
          refine ls_val (v := .int .i64 (IntKind.wrap .i64 (x7_1 + (1 : Int)))) rfl rfl (by kernel_rfl) (fun w => by kernel_rfl) ?_
          refine ls_val (v := .int .i64 (IntKind.wrap .i64 (x7_1 + (1 : Int)))) rfl rfl (by kernel_rfl) (fun w => by kernel_rfl) ?_
          refine ls_end ?_
          refine qn_again k1 (sput s0 0 (some (Ck.sl (Ec.int 3 .i64) A5_1 c5_1 l5_1))) (Nat.le_refl _) ⟨_, A5_1, c5_1, l5_1, y19, (IntKind.wrap .i64 (x7_1 + (1 : Int))), fr_next (fr_next (fr_next (fr_next (fr_next (rfl) (by kernel_rfl)) (by kernel_rfl)) (by kernel_rfl)) (by kernel_rfl)) (by kernel_rfl), rfl, H⟩ (sub_put (by exact rfl) (sub_nil _))
      · replace H := ite_f q1 H
        refine ls_know (c := false) (dec_f q1) 16 (by kernel_rfl) ?_
        refine ls_off (j := 2) (t := 16) (b := true) (c := false) rfl rfl (by kernel_rfl) (by kernel_rfl) rfl rfl (by kernel_rfl) ?_
        refine ls_off (j := 2) (t := 16) (b := true) (c := false) rfl rfl (by kernel_rfl) (by kernel_rfl) rfl rfl (by kernel_rfl) ?_
        refine ls_off (j := 2) (t := 16) (b := true) (c := false) rfl rfl (by kernel_rfl) (by kernel_rfl) rfl rfl (by kernel_rfl) ?_
        refine ls_off (j := 2) (t := 16) (b := true) (c := false) rfl rfl (by kernel_rfl) (by kernel_rfl) rfl rfl (by kernel_rfl) ?_
        refine ls_off (j := 2) (t := 16) (b := true) (c := false) rfl rfl (by kernel_rfl) (by kernel_rfl) rfl rfl (by kernel_rfl) ?_
        refine ls_off (j := 2) (t := 16) (b := true) (c := false) rfl rfl (by kernel_rfl) (by kernel_rfl) rfl rfl (by kernel_rfl) ?_
        refine ls_off (j := 2) (t := 16) (b := true) (c := false) rfl rfl (by kernel_rfl) (by kernel_rfl) rfl rfl (by kernel_rfl) ?_
        refine ls_off (j := 2) (t := 16) (b := true) (c := false) rfl rfl (by kernel_rfl) (by kernel_rfl) rfl rfl (by kernel_rfl) ?_
        refine ls_val (v := .bool false) rfl rfl (by kernel_rfl) (fun w => by kernel_rfl) ?_
        refine ls_end ?_
        refine qn_then ?_
        refine cs_false (by kernel_rfl) ?_
        refine cs_skip' ?_
        refine qn_then ?_
        refine cs_region (l := [_, _, _, _, _, _, _]) ?_
        refine ls_val (v := .int .i64 x6_1) rfl rfl (by kernel_rfl) (fun w => by kernel_rfl) ?_
        refine ls_val (v := .slice A0 l0.length c0) rfl rfl (by kernel_rfl) (fun w => by kernel_rfl) ?_
        refine ls_val (v := .int .i64 x7_1) rfl rfl (by kernel_rfl) (fun w => by kernel_rfl) ?_
        obtain ⟨q21, H⟩ := ite_need H
        obtain ⟨q22, H⟩ := ite_need H
        obtain ⟨ad23, hA24⟩ := ido_at (T := (Ec.int 3 .i64)) (l := l0) (i := x7_1) R0 q21 q22
        refine ls_idxv (Ec.int 3 .i64) (A := A0) (c := c0) (l := l0) (k := .i64) (i := x7_1) (z := 1) (ad := ad23) rfl rfl (by kernel_rfl) hA24 rfl (by kernel_rfl) (by kernel_rfl) (by kernel_rfl) (by kernel_rfl) q21 q22 ?_
        refine ls_load (a0 := (ad23.add ((x7_1).toNat * 1))) (v := .int .i64 ((l0).getD (x7_1).toNat (0 : Int))) (de := (TypeDesc.int .i64)) rfl rfl (by kernel_rfl) rfl (by kernel_rfl) (by kernel_rfl) (by kernel_rfl) (fun w hs => (hs.old R0).at hA24 (em_sub (Ec.int 3 .i64) l0 (i := (x7_1).toNat) (by have h0 : (0 : Int) ≤ x7_1 := q21; have h1 : x7_1 < (l0.length : Int) := q22; omega))) ?_
        obtain ⟨y25, hy26, H⟩ := lt_some H
        refine ls_val (v := .int .i64 (IntKind.wrap .i64 (x6_1 + ((l0).getD (x7_1).toNat (0 : Int))))) rfl rfl (by kernel_rfl) (fun w => by kernel_rfl) ?_
        refine ls_ren 35 (v := .int .i64 (IntKind.wrap .i64 (x6_1 + ((l0).getD (x7_1).toNat (0 : Int))))) (v' := .int .i64 y25) (by kernel_rfl) (by rw [hy26]) ?_
        refine ls_val (v := .int .i64 y25) rfl rfl (by kernel_rfl) (fun w => by kernel_rfl) ?_
        refine ls_end ?_
        refine qn_block ?_
        refine qn_then ?_
        refine cs_region (l := [_, _, _]) ?_
        refine ls_val (v := .int .i64 x7_1) rfl rfl (by kernel_rfl) (fun w => by kernel_rfl) ?_
        refine ls_val (v := .int .i64 (IntKind.wrap .i64 (x7_1 + (1 : Int)))) rfl rfl (by kernel_rfl) (fun w => by kernel_rfl) ?_
        refine ls_val (v := .int .i64 (IntKind.wrap .i64 (x7_1 + (1 : Int)))) rfl rfl (by kernel_rfl) (fun w => by kernel_rfl) ?_
        refine ls_end ?_
        refine qn_again k1 (sput s0 0 (some (Ck.sl (Ec.int 3 .i64) A5_1 c5_1 l5_1))) (Nat.le_refl _) ⟨_, A5_1, c5_1, l5_1, y25, (IntKind.wrap .i64 (x7_1 + (1 : Int))), fr_next (fr_next (fr_next (fr_next (fr_next (rfl) (by kernel_rfl)) (by kernel_rfl)) (by kernel_rfl)) (by kernel_rfl)) (by kernel_rfl), rfl, H⟩ (sub_put (by exact rfl) (sub_nil _))

/-! ### shadowbox/shadowboxref17.Cut: function 18 -/
def shadowboxref17_Cut.lo3 (l0 : List Int) (t1 : (List Int)) : Nat → Int → Option ((List Int))
  | 0, _ => none
  | k3 + 1, x5_3 => (shadowboxref17_greedy.f k3 l0 x5_3).bind fun t4 => (if (t4.length : Int) > (t1.length : Int) then (shadowboxref17_Cut.lo3 l0 t1 k3) (IntKind.wrap .i64 (x5_3 + (1 : Int))) else (shadowboxref17_greedy.f k3 l0 x5_3).bind fun t8 => some t8)
def shadowboxref17_Cut.jo2 (k : Nat) (l0 : List Int) (a1 : Int) (x5_2 : Int) : Option ((List Int)) := (shadowboxref17_greedy.f k l0 a1).bind fun t1 => shadowboxref17_Cut.lo3 l0 t1 k x5_2
def shadowboxref17_Cut.jo5 (l0 : List Int) (a1 : Int) (x5_4 : Int) (x6_4 : Int) (lo4 : Int → Int → Option ((List Int))) : Option ((List Int)) := (if 0 ≤ x6_4 then (if x6_4 < (l0.length : Int) then (if ((l0).getD (x6_4).toNat (0 : Int)) < (0 : Int) then some ([] : List Int) else (if ((l0).getD (x6_4).toNat (0 : Int)) > a1 then some ([] : List Int) else (if ((l0).getD (x6_4).toNat (0 : Int)) > x5_4 then lo4 ((l0).getD (x6_4).toNat (0 : Int)) (IntKind.wrap .i64 (x6_4 + (1 : Int))) else lo4 x5_4 (IntKind.wrap .i64 (x6_4 + (1 : Int)))))) else none) else none)
def shadowboxref17_Cut.lo4 (l0 : List Int) (a1 : Int) (jo2 : Int → Option ((List Int))) : Nat → Int → Int → Option ((List Int))
  | 0, _, _ => none
  | k4 + 1, x5_4, x6_4 => (if x6_4 < (l0.length : Int) then (shadowboxref17_Cut.jo5 l0 a1 x5_4 x6_4 (shadowboxref17_Cut.lo4 l0 a1 jo2 k4)) else jo2 x5_4)
def shadowboxref17_Cut.jo1 (k : Nat) (l0 : List Int) (a1 : Int) : Option ((List Int)) := shadowboxref17_Cut.lo4 l0 a1 (shadowboxref17_Cut.jo2 k l0 a1) k (0 : Int) (0 : Int)
def shadowboxref17_Cut.f (k : Nat) (l0 : List Int) (a1 : Int) : Option ((List Int)) :=
  (if (l0.length : Int) = (0 : Int) then some ([] : List Int) else (if (l0.length : Int) > (65536 : Int) then some ([] : List Int) else (if a1 < (1 : Int) then some ([] : List Int) else (if a1 > (1073741824 : Int) then some ([] : List Int) else (shadowboxref17_Cut.jo1 k l0 a1)))))
set_option maxRecDepth 100000 in
set_option maxHeartbeats 4000000 in
theorem shadowboxref17_Cut.calls (k : Nat) (A0 : Option Addr) (c0 : Nat) (l0 : List Int) (a1 : Int) (r : (List Int)) (b : Bs) (hs0 : St b (stl []) b.w) (R0 : Ro b A0 (em (Ec.int 3 .i64) l0)) (C0 : l0.length ≤ c0) (H : shadowboxref17_Cut.f k l0 a1 = some r) :
    Calls Try.prog 18 #[.slice A0 l0.length c0, .int .i64 a1] b.w fun e w' => ∃ x : (Option Addr × Nat), e = .returned (.slice x.1 r.length x.2) ∧ St b (stl [Ck.sl (Ec.int 3 .i64) x.1 x.2 r]) w' := by
  unfold shadowboxref17_Cut.f at H
  refine enterb (n := 68) Try.func18 rfl (by kernel_rfl) (by kernel_rfl) hs0 ?_
  refine cs_sub (s0) (sub_nil _) ?_
  refine cs_seq ?_
  refine cs_region (l := [_]) ?_
  refine ls_val (v := .slice none 0 0) rfl rfl (by kernel_rfl) (fun w => by kernel_rfl) ?_
  refine ls_end ?_
  refine qn_then ?_
  refine cs_cut (fun f S => ∃ (fR : Fr), f = upd (upd fR 0 (.slice A0 l0.length c0)) 1 (.int .i64 a1) ∧ S = s0 ∧ shadowboxref17_Cut.jo1 k l0 a1 = some r) ?_ ?_
  · skip
    refine cs_seq ?_
    refine cs_region (l := [_, _, _, _, _, _, _, _, _, _, _, _, _, _, _, _]) ?_
    refine ls_val (v := .slice A0 l0.length c0) rfl rfl (by kernel_rfl) (fun w => by kernel_rfl) ?_
    refine ls_val (v := .int .i64 (l0.length : Int)) rfl rfl (by kernel_rfl) (fun w => by kernel_rfl) ?_
    refine ls_val (v := .bool (decide ((l0.length : Int) = (0 : Int)))) rfl rfl (by kernel_rfl) (fun w => by kernel_rfl) ?_
    refine ls_val (v := .bool (decide ((l0.length : Int) = (0 : Int)))) rfl rfl (by kernel_rfl) (fun w => by kernel_rfl) ?_
    by_cases q25 : (l0.length : Int) = (0 : Int)
    · replace H := ite_t q25 H
      refine ls_know (c := true) (dec_t q25) 11 (by kernel_rfl) ?_
      refine ls_off (j := 3) (t := 11) (b := false) (c := true) rfl rfl (by kernel_rfl) (by kernel_rfl) rfl rfl (by kernel_rfl) ?_
      refine ls_off (j := 3) (t := 11) (b := false) (c := true) rfl rfl (by kernel_rfl) (by kernel_rfl) rfl rfl (by kernel_rfl) ?_
      refine ls_off (j := 3) (t := 11) (b := false) (c := true) rfl rfl (by kernel_rfl) (by kernel_rfl) rfl rfl (by kernel_rfl) ?_
      refine ls_val (v := .bool true) rfl rfl (by kernel_rfl) (fun w => by kernel_rfl) ?_
      refine ls_val (v := .bool true) rfl rfl (by kernel_rfl) (fun w => by kernel_rfl) ?_
      refine ls_off (j := 8) (t := 16) (b := false) (c := true) rfl rfl (by kernel_rfl) (by kernel_rfl) rfl rfl (by kernel_rfl) ?_
      refine ls_off (j := 8) (t := 16) (b := false) (c := true) rfl rfl (by kernel_rfl) (by kernel_rfl) rfl rfl (by kernel_rfl) ?_
      refine ls_val (v := .bool true) rfl rfl (by kernel_rfl) (fun w => by kernel_rfl) ?_
      refine ls_val (v := .bool true) rfl rfl (by kernel_rfl) (fun w => by kernel_rfl) ?_
      refine ls_off (j := 12) (t := 20) (b := false) (c := true) rfl rfl (by kernel_rfl) (by kernel_rfl) rfl rfl (by kernel_rfl) ?_
      refine ls_off (j := 12) (t := 20) (b := false) (c := true) rfl rfl (by kernel_rfl) (by kernel_rfl) rfl rfl (by kernel_rfl) ?_
      refine ls_val (v := .bool true) rfl rfl (by kernel_rfl) (fun w => by kernel_rfl) ?_
      refine ls_end ?_
      refine qn_then ?_
      refine cs_true (by kernel_rfl) ?_
      refine cs_seq ?_
      refine cs_region (l := [_]) ?_
      refine ls_val (v := .slice none 0 0) rfl rfl (by kernel_rfl) (fun w => by kernel_rfl) ?_
      refine ls_end ?_
      refine qn_then ?_
      refine cs_ret' ?_
      refine qr_then ?_
      refine qr_nilrow 0 (Ec.int 3 .i64) ?_
      obtain rfl := Option.some.inj H
      refine qr_res (rs := [_]) rfl (fun w' hs => ⟨[.slice none 0 0], (res_tmp (by kernel_rfl) (.nil)), (none, 0), rfl, hs.pick (ts := [0]) (cs := [Ck.sl (Ec.int 3 .i64) none 0 ([] : List Int)]) ⟨by exact rfl, trivial⟩ (by decide)⟩)
    · replace H := ite_f q25 H
      refine ls_know (c := false) (dec_f q25) 11 (by kernel_rfl) ?_
      refine ls_on (j := 3) (t := 11) (b := false) rfl rfl (by kernel_rfl) (by kernel_rfl) ?_
      refine ls_val (v := .slice A0 l0.length c0) rfl rfl (by kernel_rfl) (fun w => by kernel_rfl) ?_
      refine ls_on (j := 3) (t := 11) (b := false) rfl rfl (by kernel_rfl) (by kernel_rfl) ?_
      refine ls_val (v := .int .i64 (l0.length : Int)) rfl rfl (by kernel_rfl) (fun w => by kernel_rfl) ?_
      refine ls_on (j := 3) (t := 11) (b := false) rfl rfl (by kernel_rfl) (by kernel_rfl) ?_
      refine ls_val (v := .bool (decide ((l0.length : Int) > (65536 : Int)))) rfl rfl (by kernel_rfl) (fun w => by kernel_rfl) ?_
      refine ls_val (v := .bool (decide ((l0.length : Int) > (65536 : Int)))) rfl rfl (by kernel_rfl) (fun w => by kernel_rfl) ?_
      refine ls_val (v := .bool (decide ((l0.length : Int) > (65536 : Int)))) rfl rfl (by kernel_rfl) (fun w => by kernel_rfl) ?_
      by_cases q26 : (l0.length : Int) > (65536 : Int)
      · replace H := ite_t q26 H
        refine ls_know (c := true) (dec_t q26) 16 (by kernel_rfl) ?_
        refine ls_off (j := 8) (t := 16) (b := false) (c := true) rfl rfl (by kernel_rfl) (by kernel_rfl) rfl rfl (by kernel_rfl) ?_
        refine ls_off (j := 8) (t := 16) (b := false) (c := true) rfl rfl (by kernel_rfl) (by kernel_rfl) rfl rfl (by kernel_rfl) ?_
        refine ls_val (v := .bool true) rfl rfl (by kernel_rfl) (fun w => by kernel_rfl) ?_
        refine ls_val (v := .bool true) rfl rfl (by kernel_rfl) (fun w => by kernel_rfl) ?_
        refine ls_off (j := 12) (t := 20) (b := false) (c := true) rfl rfl (by kernel_rfl) (by kernel_rfl) rfl rfl (by kernel_rfl) ?_
        refine ls_off (j := 12) (t := 20) (b := false) (c := true) rfl rfl (by kernel_rfl) (by kernel_rfl) rfl rfl (by kernel_rfl) ?_
        refine ls_val (v := .bool true) rfl rfl (by kernel_rfl) (fun w => by kernel_rfl) ?_
        refine ls_end ?_
        refine qn_then ?_
        refine cs_true (by kernel_rfl) ?_
        refine cs_seq ?_
        refine cs_region (l := [_]) ?_
        refine ls_val (v := .slice none 0 0) rfl rfl (by kernel_rfl) (fun w => by kernel_rfl) ?_
        refine ls_end ?_
        refine qn_then ?_
        refine cs_ret' ?_
        refine qr_then ?_
        refine qr_nilrow 0 (Ec.int 3 .i64) ?_
        obtain rfl := Option.some.inj H
        refine qr_res (rs := [_]) rfl (fun w' hs => ⟨[.slice none 0 0], (res_tmp (by kernel_rfl) (.nil)), (none, 0), rfl, hs.pick (ts := [0]) (cs := [Ck.sl (Ec.int 3 .i64) none 0 ([] : List Int)]) ⟨by exact rfl, trivial⟩ (by decide)⟩)
      · replace H := ite_f q26 H
        refine ls_know (c := false) (dec_f q26) 16 (by kernel_rfl) ?_
        refine ls_on (j := 8) (t := 16) (b := false) rfl rfl (by kernel_rfl) (by kernel_rfl) ?_
        refine ls_val (v := .int .i64 a1) rfl rfl (by kernel_rfl) (fun w => by kernel_rfl) ?_
        refine ls_on (j := 8) (t := 16) (b := false) rfl rfl (by kernel_rfl) (by kernel_rfl) ?_
        refine ls_val (v := .bool (decide (a1 < (1 : Int)))) rfl rfl (by kernel_rfl) (fun w => by kernel_rfl) ?_
        refine ls_val (v := .bool (decide (a1 < (1 : Int)))) rfl rfl (by kernel_rfl) (fun w => by kernel_rfl) ?_
        refine ls_val (v := .bool (decide (a1 < (1 : Int)))) rfl rfl (by kernel_rfl) (fun w => by kernel_rfl) ?_
        by_cases q27 : a1 < (1 : Int)
        · replace H := ite_t q27 H
          refine ls_know (c := true) (dec_t q27) 20 (by kernel_rfl) ?_
          refine ls_off (j := 12) (t := 20) (b := false) (c := true) rfl rfl (by kernel_rfl) (by kernel_rfl) rfl rfl (by kernel_rfl) ?_
          refine ls_off (j := 12) (t := 20) (b := false) (c := true) rfl rfl (by kernel_rfl) (by kernel_rfl) rfl rfl (by kernel_rfl) ?_
          refine ls_val (v := .bool true) rfl rfl (by kernel_rfl) (fun w => by kernel_rfl) ?_
          refine ls_end ?_
          refine qn_then ?_
          refine cs_true (by kernel_rfl) ?_
          refine cs_seq ?_
          refine cs_region (l := [_]) ?_
          refine ls_val (v := .slice none 0 0) rfl rfl (by kernel_rfl) (fun w => by kernel_rfl) ?_
          refine ls_end ?_
          refine qn_then ?_
          refine cs_ret' ?_
          refine qr_then ?_
          refine qr_nilrow 0 (Ec.int 3 .i64) ?_
          obtain rfl := Option.some.inj H
          refine qr_res (rs := [_]) rfl (fun w' hs => ⟨[.slice none 0 0], (res_tmp (by kernel_rfl) (.nil)), (none, 0), rfl, hs.pick (ts := [0]) (cs := [Ck.sl (Ec.int 3 .i64) none 0 ([] : List Int)]) ⟨by exact rfl, trivial⟩ (by decide)⟩)
        · replace H := ite_f q27 H
          refine ls_know (c := false) (dec_f q27) 20 (by kernel_rfl) ?_
          refine ls_on (j := 12) (t := 20) (b := false) rfl rfl (by kernel_rfl) (by kernel_rfl) ?_
          refine ls_val (v := .int .i64 a1) rfl rfl (by kernel_rfl) (fun w => by kernel_rfl) ?_
          refine ls_on (j := 12) (t := 20) (b := false) rfl rfl (by kernel_rfl) (by kernel_rfl) ?_
          refine ls_val (v := .bool (decide (a1 > (1073741824 : Int)))) rfl rfl (by kernel_rfl) (fun w => by kernel_rfl) ?_
          refine ls_val (v := .bool (decide (a1 > (1073741824 : Int)))) rfl rfl (by kernel_rfl) (fun w => by kernel_rfl) ?_
          refine ls_end ?_
          refine qn_then ?_
          by_cases q28 : a1 > (1073741824 : Int)
          · replace H := ite_t q28 H
            refine cs_know (c := true) (dec_t q28) 23 (by kernel_rfl) ?_
            refine cs_true (by kernel_rfl) ?_
            refine cs_seq ?_
            refine cs_region (l := [_]) ?_
            refine ls_val (v := .slice none 0 0) rfl rfl (by kernel_rfl) (fun w => by kernel_rfl) ?_
            refine ls_end ?_
            refine qn_then ?_
            refine cs_ret' ?_
            refine qr_then ?_
            refine qr_nilrow 0 (Ec.int 3 .i64) ?_
            obtain rfl := Option.some.inj H
            refine qr_res (rs := [_]) rfl (fun w' hs => ⟨[.slice none 0 0], (res_tmp (by kernel_rfl) (.nil)), (none, 0), rfl, hs.pick (ts := [0]) (cs := [Ck.sl (Ec.int 3 .i64) none 0 ([] : List Int)]) ⟨by exact rfl, trivial⟩ (by decide)⟩)
          · replace H := ite_f q28 H
            refine cs_know (c := false) (dec_f q28) 23 (by kernel_rfl) ?_
            refine cs_false (by kernel_rfl) ?_
            refine cs_skip' ?_
            refine qn_meet (s0) ⟨_, fr_next (fr_next (rfl) (by kernel_rfl)) (by kernel_rfl), rfl, H⟩ (sub_nil _)
  · rintro f S ⟨fr1, rfl, rfl, H⟩
    replace H : (shadowboxref17_Cut.lo4 l0 a1 (shadowboxref17_Cut.jo2 k l0 a1) k (0 : Int) (0 : Int)) = some r := H
    refine cs_seq ?_
    refine cs_region (l := [_]) ?_
    refine ls_val (v := .int .i64 (0 : Int)) rfl rfl (by kernel_rfl) (fun w => by kernel_rfl) ?_
    refine ls_end ?_
    refine qn_then ?_
    refine cs_cut (fun f S => ∃ (fR : Fr) (x5_2 : Int), f = upd (upd (upd fR 0 (.slice A0 l0.length c0)) 1 (.int .i64 a1)) 5 (.int .i64 x5_2) ∧ S = s0 ∧ shadowboxref17_Cut.jo2 k l0 a1 x5_2 = some r) ?_ ?_
    · skip
      refine cs_seq ?_
      refine cs_region (l := [_]) ?_
      refine ls_val (v := .int .i64 (0 : Int)) rfl rfl (by kernel_rfl) (fun w => by kernel_rfl) ?_
      refine ls_end ?_
      refine qn_then ?_
      refine cs_block ?_
      refine cs_sub (s0) (sub_nil _) ?_
      refine cs_loop (fun kk f S => ∃ (fR : Fr) (x5_4 : Int) (x6_4 : Int), f = upd (upd (upd (upd fR 0 (.slice A0 l0.length c0)) 1 (.int .i64 a1)) 5 (.int .i64 x5_4)) 6 (.int .i64 x6_4) ∧ S = s0 ∧ shadowboxref17_Cut.lo4 l0 a1 (shadowboxref17_Cut.jo2 k l0 a1) kk x5_4 x6_4 = some r) k ?_ ?_ ?_
      · exact ⟨_, (0 : Int), (0 : Int), fr_next (fr_next (fr_next (fr_next (rfl) (by kernel_rfl)) (by kernel_rfl)) (by kernel_rfl)) (by kernel_rfl), rfl, H⟩
      · rintro f S ⟨fr4, x5_4, x6_4, rfl, rfl, H⟩; cases H
      · rintro k4 f S ⟨fr4, x5_4, x6_4, rfl, rfl, H⟩
        replace H : ((if x6_4 < (l0.length : Int) then (shadowboxref17_Cut.jo5 l0 a1 x5_4 x6_4 (shadowboxref17_Cut.lo4 l0 a1 (shadowboxref17_Cut.jo2 k l0 a1) k4)) else (shadowboxref17_Cut.jo2 k l0 a1) x5_4)) = some r := H
        refine cs_cut (fun f S => ∃ (fR : Fr), f = upd (upd (upd (upd fR 0 (.slice A0 l0.length c0)) 1 (.int .i64 a1)) 5 (.int .i64 x5_4)) 6 (.int .i64 x6_4) ∧ S = s0 ∧ shadowboxref17_Cut.jo5 l0 a1 x5_4 x6_4 (shadowboxref17_Cut.lo4 l0 a1 (shadowboxref17_Cut.jo2 k l0 a1) k4) = some r) ?_ ?_
        · skip
          refine cs_seq ?_
          refine cs_region (l := [_, _, _, _]) ?_
          refine ls_val (v := .int .i64 x6_4) rfl rfl (by kernel_rfl) (fun w => by kernel_rfl) ?_
          refine ls_val (v := .slice A0 l0.length c0) rfl rfl (by kernel_rfl) (fun w => by kernel_rfl) ?_
          refine ls_val (v := .int .i64 (l0.length : Int)) rfl rfl (by kernel_rfl) (fun w => by kernel_rfl) ?_
          refine ls_val (v := .bool (decide (x6_4 < (l0.length : Int)))) rfl rfl (by kernel_rfl) (fun w => by kernel_rfl) ?_
          refine ls_end ?_
          refine qn_then ?_
          by_cases q24 : x6_4 < (l0.length : Int)
          · replace H := ite_t q24 H
            refine cs_know (c := true) (dec_t q24) 27 (by kernel_rfl) ?_
            refine cs_true (by kernel_rfl) ?_
            refine cs_skip' ?_
            refine qn_meet (s0) ⟨_, fr_next (fr_next (fr_next (fr_next (rfl) (by kernel_rfl)) (by kernel_rfl)) (by kernel_rfl)) (by kernel_rfl), rfl, H⟩ (sub_nil _)
          · replace H := ite_f q24 H
            refine cs_know (c := false) (dec_f q24) 27 (by kernel_rfl) ?_
            refine cs_false (by kernel_rfl) ?_
            refine cs_exit' ?_
            refine qx_then ?_
            refine qx_then ?_
            refine qx_same ?_
            refine qn_meet (s0) ⟨_, x5_4, fr_next (fr_next (fr_next (rfl) (by kernel_rfl)) (by kernel_rfl)) (by kernel_rfl), rfl, H⟩ (sub_nil _)
        · rintro f S ⟨fr5, rfl, rfl, H⟩
          replace H : ((if 0 ≤ x6_4 then (if x6_4 < (l0.length : Int) then (if ((l0).getD (x6_4).toNat (0 : Int)) < (0 : Int) then some ([] : List Int) else (if ((l0).getD (x6_4).toNat (0 : Int)) > a1 then some ([] : List Int) else (if ((l0).getD (x6_4).toNat (0 : Int)) > x5_4 then (shadowboxref17_Cut.lo4 l0 a1 (shadowboxref17_Cut.jo2 k l0 a1) k4) ((l0).getD (x6_4).toNat (0 : Int)) (IntKind.wrap .i64 (x6_4 + (1 : Int))) else (shadowboxref17_Cut.lo4 l0 a1 (shadowboxref17_Cut.jo2 k l0 a1) k4) x5_4 (IntKind.wrap .i64 (x6_4 + (1 : Int)))))) else none) else none)) = some r := H
          refine cs_seq ?_
          refine cs_block ?_
          refine cs_seq ?_
          refine cs_seq ?_
          refine cs_region (l := [_, _, _, _, _, _, _, _, _, _, _, _, _]) ?_
          refine ls_val (v := .slice A0 l0.length c0) rfl rfl (by kernel_rfl) (fun w => by kernel_rfl) ?_
          refine ls_val (v := .int .i64 x6_4) rfl rfl (by kernel_rfl) (fun w => by kernel_rfl) ?_
          obtain ⟨q11, H⟩ := ite_need H
          obtain ⟨q12, H⟩ := ite_need H
          obtain ⟨ad13, hA14⟩ := ido_at (T := (Ec.int 3 .i64)) (l := l0) (i := x6_4) R0 q11 q12
          refine ls_idxv (Ec.int 3 .i64) (A := A0) (c := c0) (l := l0) (k := .i64) (i := x6_4) (z := 1) (ad := ad13) rfl rfl (by kernel_rfl) hA14 rfl (by kernel_rfl) (by kernel_rfl) (by kernel_rfl) (by kernel_rfl) q11 q12 ?_
          refine ls_load (a0 := (ad13.add ((x6_4).toNat * 1))) (v := .int .i64 ((l0).getD (x6_4).toNat (0 : Int))) (de := (TypeDesc.int .i64)) rfl rfl (by kernel_rfl) rfl (by kernel_rfl) (by kernel_rfl) (by kernel_rfl) (fun w hs => (hs.old R0).at hA14 (em_sub (Ec.int 3 .i64) l0 (i := (x6_4).toNat) (by have h0 : (0 : Int) ≤ x6_4 := q11; have h1 : x6_4 < (l0.length : Int) := q12; omega))) ?_
          refine ls_val (v := .bool (decide (((l0).getD (x6_4).toNat (0 : Int)) < (0 : Int)))) rfl rfl (by kernel_rfl) (fun w => by kernel_rfl) ?_
          refine ls_val (v := .bool (decide (((l0).getD (x6_4).toNat (0 : Int)) < (0 : Int)))) rfl rfl (by kernel_rfl) (fun w => by kernel_rfl) ?_
          by_cases q15 : ((l0).getD (x6_4).toNat (0 : Int)) < (0 : Int)
          · replace H := ite_t q15 H
            refine ls_know (c := true) (dec_t q15) 35 (by kernel_rfl) ?_
            refine ls_off (j := 5) (t := 35) (b := false) (c := true) rfl rfl (by kernel_rfl) (by kernel_rfl) rfl rfl (by kernel_rfl) ?_
            refine ls_off (j := 5) (t := 35) (b := false) (c := true) rfl rfl (by kernel_rfl) (by kernel_rfl) rfl rfl (by kernel_rfl) ?_
            refine ls_off (j := 5) (t := 35) (b := false) (c := true) rfl rfl (by kernel_rfl) (by kernel_rfl) rfl rfl (by kernel_rfl) ?_
            refine ls_off (j := 5) (t := 35) (b := false) (c := true) rfl rfl (by kernel_rfl) (by kernel_rfl) rfl rfl (by kernel_rfl) ?_
            refine ls_off (j := 5) (t := 35) (b := false) (c := true) rfl rfl (by kernel_rfl) (by kernel_rfl) rfl rfl (by kernel_rfl) ?_
            refine ls_off (j := 5) (t := 35) (b := false) (c := true) rfl rfl (by kernel_rfl) (by kernel_rfl) rfl rfl (by kernel_rfl) ?_
            refine ls_val (v := .bool true) rfl rfl (by kernel_rfl) (fun w => by kernel_rfl) ?_
            refine ls_end ?_
            refine qn_then ?_
            refine cs_true (by kernel_rfl) ?_
            refine cs_seq ?_
            refine cs_region (l := [_]) ?_
            refine ls_val (v := .slice none 0 0) rfl rfl (by kernel_rfl) (fun w => by kernel_rfl) ?_
            refine ls_end ?_
            refine qn_then ?_
            refine cs_ret' ?_
            refine qr_then ?_
            refine qr_block ?_
            refine qr_then ?_
            refine qr_then ?_
            refine qr_block ?_
            refine qr_then ?_
            refine qr_nilrow 0 (Ec.int 3 .i64) ?_
            obtain rfl := Option.some.inj H
            refine qr_res (rs := [_]) rfl (fun w' hs => ⟨[.slice none 0 0], (res_tmp (by kernel_rfl) (.nil)), (none, 0), rfl, hs.pick (ts := [0]) (cs := [Ck.sl (Ec.int 3 .i64) none 0 ([] : List Int)]) ⟨by exact rfl, trivial⟩ (by decide)⟩)
          · replace H := ite_f q15 H
            refine ls_know (c := false) (dec_f q15) 35 (by kernel_rfl) ?_
            refine ls_on (j := 5) (t := 35) (b := false) rfl rfl (by kernel_rfl) (by kernel_rfl) ?_
            refine ls_val (v := .slice A0 l0.length c0) rfl rfl (by kernel_rfl) (fun w => by kernel_rfl) ?_
            refine ls_on (j := 5) (t := 35) (b := false) rfl rfl (by kernel_rfl) (by kernel_rfl) ?_
            refine ls_val (v := .int .i64 x6_4) rfl rfl (by kernel_rfl) (fun w => by kernel_rfl) ?_
            refine ls_on (j := 5) (t := 35) (b := false) rfl rfl (by kernel_rfl) (by kernel_rfl) ?_
            obtain ⟨ad16, hA17⟩ := ido_at (T := (Ec.int 3 .i64)) (l := l0) (i := x6_4) R0 q11 q12
            refine ls_idxv (Ec.int 3 .i64) (A := A0) (c := c0) (l := l0) (k := .i64) (i := x6_4) (z := 1) (ad := ad16) rfl rfl (by kernel_rfl) hA17 rfl (by kernel_rfl) (by kernel_rfl) (by kernel_rfl) (by kernel_rfl) q11 q12 ?_
            refine ls_on (j := 5) (t := 35) (b := false) rfl rfl (by kernel_rfl) (by kernel_rfl) ?_
            refine ls_load (a0 := (ad16.add ((x6_4).toNat * 1))) (v := .int .i64 ((l0).getD (x6_4).toNat (0 : Int))) (de := (TypeDesc.int .i64)) rfl rfl (by kernel_rfl) rfl (by kernel_rfl) (by kernel_rfl) (by kernel_rfl) (fun w hs => (hs.old R0).at hA17 (em_sub (Ec.int 3 .i64) l0 (i := (x6_4).toNat) (by have h0 : (0 : Int) ≤ x6_4 := q11; have h1 : x6_4 < (l0.length : Int) := q12; omega))) ?_
            refine ls_on (j := 5) (t := 35) (b := false) rfl rfl (by kernel_rfl) (by kernel_rfl) ?_
            refine ls_val (v := .int .i64 a1) rfl rfl (by kernel_rfl) (fun w => by kernel_rfl) ?_
            refine ls_on (j := 5) (t := 35) (b := false) rfl rfl (by kernel_rfl) (by kernel_rfl) ?_
            refine ls_val (v := .bool (decide (((l0).getD (x6_4).toNat (0 : Int)) > a1))) rfl rfl (by kernel_rfl) (fun w => by kernel_rfl) ?_
            refine ls_val (v := .bool (decide (((l0).getD (x6_4).toNat (0 : Int)) > a1))) rfl rfl (by kernel_rfl) (fun w => by kernel_rfl) ?_
            refine ls_end ?_
            refine qn_then ?_
            by_cases q18 : ((l0).getD (x6_4).toNat (0 : Int)) > a1
            · replace H := ite_t q18 H
              refine cs_know (c := true) (dec_t q18) 42 (by kernel_rfl) ?_
              refine cs_true (by kernel_rfl) ?_
              refine cs_seq ?_
              refine cs_region (l := [_]) ?_
              refine ls_val (v := .slice none 0 0) rfl rfl (by kernel_rfl) (fun w => by kernel_rfl) ?_
              refine ls_end ?_
              refine qn_then ?_
              refine cs_ret' ?_
              refine qr_then ?_
              refine qr_block ?_
              refine qr_then ?_
              refine qr_then ?_
              refine qr_block ?_
              refine qr_then ?_
              refine qr_nilrow 0 (Ec.int 3 .i64) ?_
              obtain rfl := Option.some.inj H
              refine qr_res (rs := [_]) rfl (fun w' hs => ⟨[.slice none 0 0], (res_tmp (by kernel_rfl) (.nil)), (none, 0), rfl, hs.pick (ts := [0]) (cs := [Ck.sl (Ec.int 3 .i64) none 0 ([] : List Int)]) ⟨by exact rfl, trivial⟩ (by decide)⟩)
            · replace H := ite_f q18 H
              refine cs_know (c := false) (dec_f q18) 42 (by kernel_rfl) ?_
              refine cs_false (by kernel_rfl) ?_
              refine cs_skip' ?_
              refine qn_then ?_
              refine cs_seq ?_
              refine cs_region (l := [_, _, _, _, _, _]) ?_
              refine ls_val (v := .slice A0 l0.length c0) rfl rfl (by kernel_rfl) (fun w => by kernel_rfl) ?_
              refine ls_val (v := .int .i64 x6_4) rfl rfl (by kernel_rfl) (fun w => by kernel_rfl) ?_
              obtain ⟨ad19, hA20⟩ := ido_at (T := (Ec.int 3 .i64)) (l := l0) (i := x6_4) R0 q11 q12
              refine ls_idxv (Ec.int 3 .i64) (A := A0) (c := c0) (l := l0) (k := .i64) (i := x6_4) (z := 1) (ad := ad19) rfl rfl (by kernel_rfl) hA20 rfl (by kernel_rfl) (by kernel_rfl) (by kernel_rfl) (by kernel_rfl) q11 q12 ?_
              refine ls_load (a0 := (ad19.add ((x6_4).toNat * 1))) (v := .int .i64 ((l0).getD (x6_4).toNat (0 : Int))) (de := (TypeDesc.int .i64)) rfl rfl (by kernel_rfl) rfl (by kernel_rfl) (by kernel_rfl) (by kernel_rfl) (fun w hs => (hs.old R0).at hA20 (em_sub (Ec.int 3 .i64) l0 (i := (x6_4).toNat) (by have h0 : (0 : Int) ≤ x6_4 := q11; have h1 : x6_4 < (l0.length : Int) := q12; omega))) ?_
              refine ls_val (v := .int .i64 x5_4) rfl rfl (by kernel_rfl) (fun w => by kernel_rfl) ?_
              refine ls_val (v := .bool (decide (((l0).getD (x6_4).toNat (0 : Int)) > x5_4))) rfl rfl (by kernel_rfl) (fun w => by kernel_rfl) ?_
              refine ls_end ?_
              refine qn_then ?_
              by_cases q21 : ((l0).getD (x6_4).toNat (0 : Int)) > x5_4
              · replace H := ite_t q21 H
                refine cs_know (c := true) (dec_t q21) 48 (by kernel_rfl) ?_
                refine cs_true (by kernel_rfl) ?_
                refine cs_region (l := [_, _, _, _, _]) ?_
                refine ls_val (v := .slice A0 l0.length c0) rfl rfl (by kernel_rfl) (fun w => by kernel_rfl) ?_
                refine ls_val (v := .int .i64 x6_4) rfl rfl (by kernel_rfl) (fun w => by kernel_rfl) ?_
                obtain ⟨ad22, hA23⟩ := ido_at (T := (Ec.int 3 .i64)) (l := l0) (i := x6_4) R0 q11 q12
                refine ls_idxv (Ec.int 3 .i64) (A := A0) (c := c0) (l := l0) (k := .i64) (i := x6_4) (z := 1) (ad := ad22) rfl rfl (by kernel_rfl) hA23 rfl (by kernel_rfl) (by kernel_rfl) (by kernel_rfl) (by kernel_rfl) q11 q12 ?_
                refine ls_load (a0 := (ad22.add ((x6_4).toNat * 1))) (v := .int .i64 ((l0).getD (x6_4).toNat (0 : Int))) (de := (TypeDesc.int .i64)) rfl rfl (by kernel_rfl) rfl (by kernel_rfl) (by kernel_rfl) (by kernel_rfl) (fun w hs => (hs.old R0).at hA23 (em_sub (Ec.int 3 .i64) l0 (i := (x6_4).toNat) (by have h0 : (0 : Int) ≤ x6_4 := q11; have h1 : x6_4 < (l0.length : Int) := q12; omega))) ?_
                refine ls_val (v := .int .i64 ((l0).getD (x6_4).toNat (0 : Int))) rfl rfl (by kernel_rfl) (fun w => by kernel_rfl) ?_
                refine ls_end ?_
                refine qn_block ?_
                refine qn_then ?_
                refine cs_region (l := [_, _, _]) ?_
                refine ls_val (v := .int .i64 x6_4) rfl rfl (by kernel_rfl) (fun w => by kernel_rfl) ?_
                refine ls_val (v := .int .i64 (IntKind.wrap .i64 (x6_4 + (1 : Int)))) rfl rfl (by kernel_rfl) (fun w => by kernel_rfl) ?_
                refine ls_val (v := .int .i64 (IntKind.wrap .i64 (x6_4 + (1 : Int)))) rfl rfl (by kernel_rfl) (fun w => by kernel_rfl) ?_
                refine ls_end ?_
                refine qn_again k4 (s0) (Nat.le_refl _) ⟨_, ((l0).getD (x6_4).toNat (0 : Int)), (IntKind.wrap .i64 (x6_4 + (1 : Int))), fr_next (fr_next (fr_next (fr_next (rfl) (by kernel_rfl)) (by kernel_rfl)) (by kernel_rfl)) (by kernel_rfl), rfl, H⟩ (sub_nil _)
              · replace H := ite_f q21 H
                refine cs_know (c := false) (dec_f q21) 48 (by kernel_rfl) ?_
                refine cs_false (by kernel_rfl) ?_
                refine cs_skip' ?_
                refine qn_block ?_
                refine qn_then ?_
                refine cs_region (l := [_, _, _]) ?_
                refine ls_val (v := .int .i64 x6_4) rfl rfl (by kernel_rfl) (fun w => by kernel_rfl) ?_
                refine ls_val (v := .int .i64 (IntKind.wrap .i64 (x6_4 + (1 : Int)))) rfl rfl (by kernel_rfl) (fun w => by kernel_rfl) ?_
                refine ls_val (v := .int .i64 (IntKind.wrap .i64 (x6_4 + (1 : Int)))) rfl rfl (by kernel_rfl) (fun w => by kernel_rfl) ?_
                refine ls_end ?_
                refine qn_again k4 (s0) (Nat.le_refl _) ⟨_, x5_4, (IntKind.wrap .i64 (x6_4 + (1 : Int))), fr_next (fr_next (fr_next (fr_next (rfl) (by kernel_rfl)) (by kernel_rfl)) (by kernel_rfl)) (by kernel_rfl), rfl, H⟩ (sub_nil _)
    · rintro f S ⟨fr2, x5_2, rfl, rfl, H⟩
      replace H : ((shadowboxref17_greedy.f k l0 a1).bind fun t1 => shadowboxref17_Cut.lo3 l0 t1 k x5_2) = some r := H
      refine cs_seq ?_
      refine cs_region (l := [_, _, _, _, _]) ?_
      refine ls_val (v := .slice A0 l0.length c0) rfl rfl (by kernel_rfl) (fun w => by kernel_rfl) ?_
      refine ls_val (v := .int .i64 a1) rfl rfl (by kernel_rfl) (fun w => by kernel_rfl) ?_
      obtain ⟨t1, hc2, H⟩ := bind_some H
      refine ls_callb (fid := 33) (vals := #[.slice A0 l0.length c0, .int .i64 a1]) (X := (Option Addr × Nat)) (fun x => .slice x.1 t1.length x.2) (fun x => stl [Ck.sl (Ec.int 3 .i64) x.1 x.2 t1]) [] [] [] [] 0 rfl rfl (by kernel_rfl) (fun w => by kernel_rfl) trivial trivial (by decide) (fun w hs hb => shadowboxref17_greedy.calls k A0 c0 l0 a1 t1 (lent b w [] []) hb (hs.ro R0 _ _) C0 hc2) ?_
      intro x3
      refine ls_val (v := .int .i64 (t1.length : Int)) rfl rfl (by kernel_rfl) (fun w => by kernel_rfl) ?_
      refine ls_val (v := .int .i64 (t1.length : Int)) rfl rfl (by kernel_rfl) (fun w => by kernel_rfl) ?_
      refine ls_end ?_
      refine qn_then ?_
      refine cs_seq ?_
      refine cs_block ?_
      refine cs_sub (s0) (sub_nil _) ?_
      refine cs_loop (fun kk f S => ∃ (fR : Fr) (x5_3 : Int), f = upd (upd (upd fR 0 (.slice A0 l0.length c0)) 5 (.int .i64 x5_3)) 7 (.int .i64 (t1.length : Int)) ∧ S = s0 ∧ shadowboxref17_Cut.lo3 l0 t1 kk x5_3 = some r) k ?_ ?_ ?_
      · exact ⟨_, x5_2, fr_next (fr_next (fr_next (rfl) (by kernel_rfl)) (by kernel_rfl)) (by kernel_rfl), rfl, H⟩
      · rintro f S ⟨fr3, x5_3, rfl, rfl, H⟩; cases H
      · rintro k3 f S ⟨fr3, x5_3, rfl, rfl, H⟩
        replace H : ((shadowboxref17_greedy.f k3 l0 x5_3).bind fun t4 => (if (t4.length : Int) > (t1.length : Int) then (shadowboxref17_Cut.lo3 l0 t1 k3) (IntKind.wrap .i64 (x5_3 + (1 : Int))) else (shadowboxref17_greedy.f k3 l0 x5_3).bind fun t8 => some t8)) = some r := H
        refine cs_seq ?_
        refine cs_seq ?_
        refine cs_region (l := [_, _, _, _, _, _]) ?_
        refine ls_val (v := .slice A0 l0.length c0) rfl rfl (by kernel_rfl) (fun w => by kernel_rfl) ?_
        refine ls_val (v := .int .i64 x5_3) rfl rfl (by kernel_rfl) (fun w => by kernel_rfl) ?_
        obtain ⟨t4, hc5, H⟩ := bind_some H
        refine ls_callb (fid := 33) (vals := #[.slice A0 l0.length c0, .int .i64 x5_3]) (X := (Option Addr × Nat)) (fun x => .slice x.1 t4.length x.2) (fun x => stl [Ck.sl (Ec.int 3 .i64) x.1 x.2 t4]) [] [] [] [] 1 rfl rfl (by kernel_rfl) (fun w => by kernel_rfl) trivial trivial (by decide) (fun w hs hb => shadowboxref17_greedy.calls k3 A0 c0 l0 x5_3 t4 (lent b w [] []) hb (hs.ro R0 _ _) C0 hc5) ?_
        intro x6
        refine ls_val (v := .int .i64 (t4.length : Int)) rfl rfl (by kernel_rfl) (fun w => by kernel_rfl) ?_
        refine ls_val (v := .int .i64 (t1.length : Int)) rfl rfl (by kernel_rfl) (fun w => by kernel_rfl) ?_
        refine ls_val (v := .bool (decide ((t4.length : Int) > (t1.length : Int)))) rfl rfl (by kernel_rfl) (fun w => by kernel_rfl) ?_
        refine ls_end ?_
        refine qn_then ?_
        by_cases q7 : (t4.length : Int) > (t1.length : Int)
        · replace H := ite_t q7 H
          refine cs_know (c := true) (dec_t q7) 62 (by kernel_rfl) ?_
          refine cs_true (by kernel_rfl) ?_
          refine cs_skip' ?_
          refine qn_then ?_
          refine cs_block ?_
          refine cs_region (l := [_, _, _]) ?_
          refine ls_val (v := .int .i64 x5_3) rfl rfl (by kernel_rfl) (fun w => by kernel_rfl) ?_
          refine ls_val (v := .int .i64 (IntKind.wrap .i64 (x5_3 + (1 : Int)))) rfl rfl (by kernel_rfl) (fun w => by kernel_rfl) ?_
          refine ls_val (v := .int .i64 (IntKind.wrap .i64 (x5_3 + (1 : Int)))) rfl rfl (by kernel_rfl) (fun w => by kernel_rfl) ?_
          refine ls_end ?_
          refine qn_block ?_
          refine qn_again k3 (s0) (Nat.le_refl _) ⟨_, (IntKind.wrap .i64 (x5_3 + (1 : Int))), fr_next (fr_next (fr_next (rfl) (by kernel_rfl)) (by kernel_rfl)) (by kernel_rfl), rfl, H⟩ (sub_nil _)
        · replace H := ite_f q7 H
          refine cs_know (c := false) (dec_f q7) 62 (by kernel_rfl) ?_
          refine cs_false (by kernel_rfl) ?_
          refine cs_exit' ?_
          refine qx_then ?_
          refine qx_then ?_
          refine qx_same ?_
          refine qn_then ?_
          refine cs_seq ?_
          refine cs_region (l := [_, _, _, _]) ?_
          refine ls_val (v := .slice A0 l0.length c0) rfl rfl (by kernel_rfl) (fun w => by kernel_rfl) ?_
          refine ls_val (v := .int .i64 x5_3) rfl rfl (by kernel_rfl) (fun w => by kernel_rfl) ?_
          obtain ⟨t8, hc9, H⟩ := bind_some H
          refine ls_callb (fid := 33) (vals := #[.slice A0 l0.length c0, .int .i64 x5_3]) (X := (Option Addr × Nat)) (fun x => .slice x.1 t8.length x.2) (fun x => stl [Ck.sl (Ec.int 3 .i64) x.1 x.2 t8]) [] [] [] [] 2 rfl rfl (by kernel_rfl) (fun w => by kernel_rfl) trivial trivial (by decide) (fun w hs hb => shadowboxref17_greedy.calls k3 A0 c0 l0 x5_3 t8 (lent b w [] []) hb (hs.ro R0 _ _) C0 hc9) ?_
          intro x10
          refine ls_val (v := .slice x10.1 t8.length x10.2) rfl rfl (by kernel_rfl) (fun w => by kernel_rfl) ?_
          refine ls_end ?_
          refine qn_then ?_
          refine cs_ret' ?_
          obtain rfl := Option.some.inj H
          refine qr_res (rs := [_]) rfl (fun w' hs => ⟨[.slice x10.1 t8.length x10.2], (res_tmp (by kernel_rfl) (.nil)), (x10.1, x10.2), rfl, hs.pick (ts := [2]) (cs := [Ck.sl (Ec.int 3 .i64) x10.1 x10.2 t8]) ⟨by exact rfl, trivial⟩ (by decide)⟩)

/-! ### shadowbox/part.rising: function 34 -/
def part_rising.lo1 (l0 : List Int) (a1 : Int) : Nat → Int → Int → Option (Bool)
  | 0, _, _ => none
  | k1 + 1, x5_1, x10_1 => (if x10_1 < (l0.length : Int) then (if 0 ≤ x10_1 then (if ((l0).getD (x10_1).toNat (0 : Int)) ≤ x5_1 then some false else (part_rising.lo1 l0 a1 k1) ((l0).getD (x10_1).toNat (0 : Int)) (IntKind.wrap .i64 (x10_1 + (1 : Int)))) else none) else (if (l0.length : Int) > (0 : Int) then some (decide (x5_1 = a1)) else some false))
def part_rising.f (k : Nat) (l0 : List Int) (a1 : Int) : Option (Bool) :=
  part_rising.lo1 l0 a1 k (0 : Int) (0 : Int)
set_option maxRecDepth 100000 in
set_option maxHeartbeats 4000000 in
theorem part_rising.calls (k : Nat) (A0 : Option Addr) (c0 : Nat) (l0 : List Int) (a1 : Int) (r : Bool) (b : Bs) (hs0 : St b (stl []) b.w) (R0 : Ro b A0 (em (Ec.int 3 .i64) l0)) (C0 : l0.length ≤ c0) (H : part_rising.f k l0 a1 = some r) :
    Calls Try.prog 34 #[.slice A0 l0.length c0, .int .i64 a1] b.w fun e w' => ∃ x : Unit, e = .returned (.bool r) ∧ St b (stl []) w' := by
  unfold part_rising.f at H
  refine enterb (n := 27) Try.func34 rfl (by kernel_rfl) (by kernel_rfl) hs0 ?_
  refine cs_sub (s0) (sub_nil _) ?_
  refine cs_seq ?_
  refine cs_region (l := [_]) ?_
  refine ls_val (v := .bool false) rfl rfl (by kernel_rfl) (fun w => by kernel_rfl) ?_
  refine ls_end ?_
  refine qn_then ?_
  refine cs_seq ?_
  refine cs_region (l := [_]) ?_
  refine ls_val (v := .int .i64 (0 : Int)) rfl rfl (by kernel_rfl) (fun w => by kernel_rfl) ?_
  refine ls_end ?_
  refine qn_then ?_
  refine cs_seq ?_
  refine cs_seq ?_
  refine cs_region (l := [_, _, _]) ?_
  refine ls_val (v := .slice A0 l0.length c0) rfl rfl (by kernel_rfl) (fun w => by kernel_rfl) ?_
  refine ls_val (v := .int .i64 (l0.length : Int)) rfl rfl (by kernel_rfl) (fun w => by kernel_rfl) ?_
  refine ls_val (v := .int .i64 (0 : Int)) rfl rfl (by kernel_rfl) (fun w => by kernel_rfl) ?_
  refine ls_end ?_
  refine qn_then ?_
  refine cs_block ?_
  refine cs_sub (s0) (sub_nil _) ?_
  refine cs_loop (fun kk f S => ∃ (fR : Fr) (x5_1 : Int) (x10_1 : Int), f = upd (upd (upd (upd (upd (upd fR 0 (.slice A0 l0.length c0)) 1 (.int .i64 a1)) 5 (.int .i64 x5_1)) 8 (.slice A0 l0.length c0)) 9 (.int .i64 (l0.length : Int))) 10 (.int .i64 x10_1) ∧ S = s0 ∧ part_rising.lo1 l0 a1 kk x5_1 x10_1 = some r) k ?_ ?_ ?_
  · exact ⟨_, (0 : Int), (0 : Int), fr_next (fr_next (fr_next (fr_next (fr_next (fr_next (rfl) (by kernel_rfl)) (by kernel_rfl)) (by kernel_rfl)) (by kernel_rfl)) (by kernel_rfl)) (by kernel_rfl), rfl, H⟩
  · rintro f S ⟨fr1, x5_1, x10_1, rfl, rfl, H⟩; cases H
  · rintro k1 f S ⟨fr1, x5_1, x10_1, rfl, rfl, H⟩
    replace H : ((if x10_1 < (l0.length : Int) then (if 0 ≤ x10_1 then (if ((l0).getD (x10_1).toNat (0 : Int)) ≤ x5_1 then some false else (part_rising.lo1 l0 a1 k1) ((l0).getD (x10_1).toNat (0 : Int)) (IntKind.wrap .i64 (x10_1 + (1 : Int)))) else none) else (if (l0.length : Int) > (0 : Int) then some (decide (x5_1 = a1)) else some false))) = some r := H
    refine cs_seq ?_
    refine cs_region (l := [_]) ?_
    refine ls_val (v := .bool (decide (x10_1 < (l0.length : Int)))) rfl rfl (by kernel_rfl) (fun w => by kernel_rfl) ?_
    refine ls_end ?_
    refine qn_then ?_
    refine cs_seq ?_
    by_cases q1 : x10_1 < (l0.length : Int)
    · replace H := ite_t q1 H
      refine cs_know (c := true) (dec_t q1) 11 (by kernel_rfl) ?_
      refine cs_true (by kernel_rfl) ?_
      refine cs_skip' ?_
      refine qn_then ?_
      refine cs_seq ?_
      refine cs_block ?_
      refine cs_seq ?_
      refine cs_region (l := [_, _, _]) ?_
      obtain ⟨q2, H⟩ := ite_need H
      obtain ⟨ad3, hA4⟩ := ido_at (T := (Ec.int 3 .i64)) (l := l0) (i := x10_1) R0 q2 q1
      refine ls_idxv (Ec.int 3 .i64) (A := A0) (c := c0) (l := l0) (k := .i64) (i := x10_1) (z := 1) (ad := ad3) rfl rfl (by kernel_rfl) hA4 rfl (by kernel_rfl) (by kernel_rfl) (by kernel_rfl) (by kernel_rfl) q2 q1 ?_
      refine ls_load (a0 := (ad3.add ((x10_1).toNat * 1))) (v := .int .i64 ((l0).getD (x10_1).toNat (0 : Int))) (de := (TypeDesc.int .i64)) rfl rfl (by kernel_rfl) rfl (by kernel_rfl) (by kernel_rfl) (by kernel_rfl) (fun w hs => (hs.old R0).at hA4 (em_sub (Ec.int 3 .i64) l0 (i := (x10_1).toNat) (by have h0 : (0 : Int) ≤ x10_1 := q2; have h1 : x10_1 < (l0.length : Int) := q1; omega))) ?_
      refine ls_val (v := .int .i64 ((l0).getD (x10_1).toNat (0 : Int))) rfl rfl (by kernel_rfl) (fun w => by kernel_rfl) ?_
      refine ls_end ?_
      refine qn_then ?_
      refine cs_seq ?_
      refine cs_seq ?_
      refine cs_region (l := [_, _, _]) ?_
      refine ls_val (v := .int .i64 ((l0).getD (x10_1).toNat (0 : Int))) rfl rfl (by kernel_rfl) (fun w => by kernel_rfl) ?_
      refine ls_val (v := .int .i64 x5_1) rfl rfl (by kernel_rfl) (fun w => by kernel_rfl) ?_
      refine ls_val (v := .bool (decide (((l0).getD (x10_1).toNat (0 : Int)) ≤ x5_1))) rfl rfl (by kernel_rfl) (fun w => by kernel_rfl) ?_
      refine ls_end ?_
      refine qn_then ?_
      by_cases q5 : ((l0).getD (x10_1).toNat (0 : Int)) ≤ x5_1
      · replace H := ite_t q5 H
        refine cs_know (c := true) (dec_t q5) 16 (by kernel_rfl) ?_
        refine cs_true (by kernel_rfl) ?_
        refine cs_seq ?_
        refine cs_region (l := [_]) ?_
        refine ls_val (v := .bool false) rfl rfl (by kernel_rfl) (fun w => by kernel_rfl) ?_
        refine ls_end ?_
        refine qn_then ?_
        refine cs_ret' ?_
        refine qr_then ?_
        refine qr_block ?_
        refine qr_then ?_
        refine qr_then ?_
        refine qr_block ?_
        refine qr_then ?_
        obtain rfl := Option.some.inj H
        refine qr_res (rs := [_]) rfl (fun w' hs => ⟨[.bool false], (res_tmp (by kernel_rfl) (.nil)), (), rfl, hs.pick (ts := []) (cs := []) trivial (by decide)⟩)
      · replace H := ite_f q5 H
        refine cs_know (c := false) (dec_f q5) 16 (by kernel_rfl) ?_
        refine cs_false (by kernel_rfl) ?_
        refine cs_skip' ?_
        refine qn_then ?_
        refine cs_region (l := [_, _]) ?_
        refine ls_val (v := .int .i64 ((l0).getD (x10_1).toNat (0 : Int))) rfl rfl (by kernel_rfl) (fun w => by kernel_rfl) ?_
        refine ls_val (v := .int .i64 ((l0).getD (x10_1).toNat (0 : Int))) rfl rfl (by kernel_rfl) (fun w => by kernel_rfl) ?_
        refine ls_end ?_
        refine qn_block ?_
        refine qn_then ?_
        refine cs_region (l := [_, _]) ?_
        refine ls_val (v := .int .i64 (IntKind.wrap .i64 (x10_1 + (1 : Int)))) rfl rfl (by kernel_rfl) (fun w => by kernel_rfl) ?_
        refine ls_val (v := .int .i64 (IntKind.wrap .i64 (x10_1 + (1 : Int)))) rfl rfl (by kernel_rfl) (fun w => by kernel_rfl) ?_
        refine ls_end ?_
        refine qn_again k1 (s0) (Nat.le_refl _) ⟨_, ((l0).getD (x10_1).toNat (0 : Int)), (IntKind.wrap .i64 (x10_1 + (1 : Int))), fr_next (fr_next (fr_next (fr_next (fr_next (fr_next (rfl) (by kernel_rfl)) (by kernel_rfl)) (by kernel_rfl)) (by kernel_rfl)) (by kernel_rfl)) (by kernel_rfl), rfl, H⟩ (sub_nil _)
    · replace H := ite_f q1 H
      refine cs_know (c := false) (dec_f q1) 11 (by kernel_rfl) ?_
      refine cs_false (by kernel_rfl) ?_
      refine cs_exit' ?_
      refine qx_then ?_
      refine qx_then ?_
      refine qx_same ?_
      refine qn_then ?_
      refine cs_seq ?_
      refine cs_region (l := [_, _, _, _, _, _, _, _, _]) ?_
      refine ls_val (v := .slice A0 l0.length c0) rfl rfl (by kernel_rfl) (fun w => by kernel_rfl) ?_
      refine ls_val (v := .int .i64 (l0.length : Int)) rfl rfl (by kernel_rfl) (fun w => by kernel_rfl) ?_
      refine ls_val (v := .bool (decide ((l0.length : Int) > (0 : Int)))) rfl rfl (by kernel_rfl) (fun w => by kernel_rfl) ?_
      refine ls_val (v := .bool (decide ((l0.length : Int) > (0 : Int)))) rfl rfl (by kernel_rfl) (fun w => by kernel_rfl) ?_
      by_cases q6 : (l0.length : Int) > (0 : Int)
      · replace H := ite_t q6 H
        refine ls_know (c := true) (dec_t q6) 22 (by kernel_rfl) ?_
        refine ls_on (j := 3) (t := 22) (b := true) rfl rfl (by kernel_rfl) (by kernel_rfl) ?_
        refine ls_val (v := .int .i64 x5_1) rfl rfl (by kernel_rfl) (fun w => by kernel_rfl) ?_
        refine ls_on (j := 3) (t := 22) (b := true) rfl rfl (by kernel_rfl) (by kernel_rfl) ?_
        refine ls_val (v := .int .i64 a1) rfl rfl (by kernel_rfl) (fun w => by kernel_rfl) ?_
        refine ls_on (j := 3) (t := 22) (b := true) rfl rfl (by kernel_rfl) (by kernel_rfl) ?_
        refine ls_val (v := .bool (decide (x5_1 = a1))) rfl rfl (by kernel_rfl) (fun w => by kernel_rfl) ?_
        refine ls_val (v := .bool (decide (x5_1 = a1))) rfl rfl (by kernel_rfl) (fun w => by kernel_rfl) ?_
        refine ls_val (v := .bool (decide (x5_1 = a1))) rfl rfl (by kernel_rfl) (fun w => by kernel_rfl) ?_
        refine ls_end ?_
        refine qn_then ?_
        refine cs_ret' ?_
        obtain rfl := Option.some.inj H
        refine qr_res (rs := [_]) rfl (fun w' hs => ⟨[.bool (decide (x5_1 = a1))], (res_tmp (by kernel_rfl) (.nil)), (), rfl, hs.pick (ts := []) (cs := []) trivial (by decide)⟩)
      · replace H := ite_f q6 H
        refine ls_know (c := false) (dec_f q6) 22 (by kernel_rfl) ?_
        refine ls_off (j := 3) (t := 22) (b := true) (c := false) rfl rfl (by kernel_rfl) (by kernel_rfl) rfl rfl (by kernel_rfl) ?_
        refine ls_off (j := 3) (t := 22) (b := true) (c := false) rfl rfl (by kernel_rfl) (by kernel_rfl) rfl rfl (by kernel_rfl) ?_
        refine ls_off (j := 3) (t := 22) (b := true) (c := false) rfl rfl (by kernel_rfl) (by kernel_rfl) rfl rfl (by kernel_rfl) ?_
        refine ls_val (v := .bool false) rfl rfl (by kernel_rfl) (fun w => by kernel_rfl) ?_
        refine ls_val (v := .bool false) rfl rfl (by kernel_rfl) (fun w => by kernel_rfl) ?_
        refine ls_end ?_
        refine qn_then ?_
        refine cs_ret' ?_
        obtain rfl := Option.some.inj H
        refine qr_res (rs := [_]) rfl (fun w' hs => ⟨[.bool false], (res_tmp (by kernel_rfl) (.nil)), (), rfl, hs.pick (ts := []) (cs := []) trivial (by decide)⟩)

/-! ### shadowbox/part.Greatest: function 19 -/
def part_Greatest.lo4 (l1 : List Int) (x5_2 : Int) (x24_2 : Int) (xl13 : List Int) (lo2 : Int → Int → Int → Option (Int)) : Nat → Int → Int → Option (Int)
  | 0, _, _ => none
  | k4 + 1, x9_4, x33_4 => (if x33_4 < (xl13.length : Int) then (if 0 ≤ x33_4 then lt (IntKind.wrap .i64 (x9_4 + ((xl13).getD (x33_4).toNat (0 : Int)))) fun y22 => (part_Greatest.lo4 l1 x5_2 x24_2 xl13 lo2 k4) y22 (IntKind.wrap .i64 (x33_4 + (1 : Int))) else none) else lo2 (if x5_2 < x9_4 then x9_4 else x5_2) ((l1).getD (x24_2).toNat (0 : Int)) (IntKind.wrap .i64 (x24_2 + (1 : Int))))
def part_Greatest.jo3 (l0 : List Int) (l1 : List Int) (x5_2 : Int) (x6_2 : Int) (x24_2 : Int) (k2 : Nat) (lo2 : Int → Int → Int → Option (Int)) : Option (Int) := (if 0 ≤ x24_2 then (if x24_2 < (l1.length : Int) then (if 0 ≤ ((l1).getD (x24_2).toNat (0 : Int)) then (if ((l1).getD (x24_2).toNat (0 : Int)) ≤ (l0.length : Int) then (if 0 ≤ x6_2 then (if x6_2 ≤ ((l1).getD (x24_2).toNat (0 : Int)) then lt ((l0.take (((l1).getD (x24_2).toNat (0 : Int))).toNat).drop (x6_2).toNat) fun xl13 => part_Greatest.lo4 l1 x5_2 x24_2 xl13 lo2 k2 (0 : Int) (0 : Int) else none) else none) else none) else none) else none) else none)
def part_Greatest.lo2 (l0 : List Int) (l1 : List Int) : Nat → Int → Int → Int → Option (Int)
  | 0, _, _, _ => none
  | k2 + 1, x5_2, x6_2, x24_2 => (if x24_2 < (l1.length : Int) then (part_Greatest.jo3 l0 l1 x5_2 x6_2 x24_2 k2 (part_Greatest.lo2 l0 l1 k2)) else some x5_2)
def part_Greatest.jo1 (k : Nat) (l0 : List Int) (l1 : List Int) : Option (Int) := part_Greatest.lo2 l0 l1 k (0 : Int) (0 : Int) (0 : Int)
def part_Greatest.f (k : Nat) (l0 : List Int) (l1 : List Int) : Option (Int) :=
  (part_rising.f k l1 (l0.length : Int)).bind fun t25 => (if t25 = true then (part_within.f k l0 (1073741824 : Int)).bind fun t29 => (if t29 = true then (part_Greatest.jo1 k l0 l1) else some (0 : Int)) else some (0 : Int))
set_option maxRecDepth 100000 in
set_option maxHeartbeats 4000000 in
theorem part_Greatest.calls (k : Nat) (A0 : Option Addr) (c0 : Nat) (l0 : List Int) (A1 : Option Addr) (c1 : Nat) (l1 : List Int) (r : Int) (b : Bs) (hs0 : St b (stl []) b.w) (R0 : Ro b A0 (em (Ec.int 3 .i64) l0)) (C0 : l0.length ≤ c0) (R1 : Ro b A1 (em (Ec.int 3 .i64) l1)) (C1 : l1.length ≤ c1) (H : part_Greatest.f k l0 l1 = some r) :
    Calls Try.prog 19 #[.slice A0 l0.length c0, .slice A1 l1.length c1] b.w fun e w' => ∃ x : Unit, e = .returned (.int .i64 r) ∧ St b (stl []) w' := by
  unfold part_Greatest.f at H
  refine enterb (n := 47) Try.func19 rfl (by kernel_rfl) (by kernel_rfl) hs0 ?_
  refine cs_sub (s0) (sub_nil _) ?_
  refine cs_seq ?_
  refine cs_region (l := [_]) ?_
  refine ls_val (v := .int .i64 (0 : Int)) rfl rfl (by kernel_rfl) (fun w => by kernel_rfl) ?_
  refine ls_end ?_
  refine qn_then ?_
  refine cs_cut (fun f S => ∃ (fR : Fr), f = upd (upd fR 0 (.slice A0 l0.length c0)) 1 (.slice A1 l1.length c1) ∧ S = s0 ∧ part_Greatest.jo1 k l0 l1 = some r) ?_ ?_
  · skip
    refine cs_seq ?_
    refine cs_region (l := [_, _, _, _, _, _, _, _, _, _]) ?_
    refine ls_val (v := .slice A1 l1.length c1) rfl rfl (by kernel_rfl) (fun w => by kernel_rfl) ?_
    refine ls_val (v := .slice A0 l0.length c0) rfl rfl (by kernel_rfl) (fun w => by kernel_rfl) ?_
    refine ls_val (v := .int .i64 (l0.length : Int)) rfl rfl (by kernel_rfl) (fun w => by kernel_rfl) ?_
    obtain ⟨t25, hc26, H⟩ := bind_some H
    refine ls_callb (fid := 34) (vals := #[.slice A1 l1.length c1, .int .i64 (l0.length : Int)]) (X := Unit) (fun x => .bool t25) (fun x => stl []) [] [] [] [] 0 rfl rfl (by kernel_rfl) (fun w => by kernel_rfl) trivial trivial (by decide) (fun w hs hb => part_rising.calls k A1 c1 l1 (l0.length : Int) t25 (lent b w [] []) hb (hs.ro R1 _ _) C1 hc26) ?_
    intro x27
    refine ls_val (v := .bool (!t25)) rfl rfl (by kernel_rfl) (fun w => by kernel_rfl) ?_
    refine ls_val (v := .bool (!t25)) rfl rfl (by kernel_rfl) (fun w => by kernel_rfl) ?_
    by_cases q28 : t25 = true
    · replace H := ite_t q28 H
      refine ls_know (c := false) (congrArg Bool.not (q28)) 17 (by kernel_rfl) ?_
      refine ls_on (j := 5) (t := 17) (b := false) rfl rfl (by kernel_rfl) (by kernel_rfl) ?_
      refine ls_val (v := .slice A0 l0.length c0) rfl rfl (by kernel_rfl) (fun w => by kernel_rfl) ?_
      refine ls_on (j := 5) (t := 17) (b := false) rfl rfl (by kernel_rfl) (by kernel_rfl) ?_
      obtain ⟨t29, hc30, H⟩ := bind_some H
      refine ls_callb (fid := 28) (vals := #[.slice A0 l0.length c0, .int .i64 (1073741824 : Int)]) (X := Unit) (fun x => .bool t29) (fun x => stl []) [] [] [] [] 0 rfl rfl (by kernel_rfl) (fun w => by kernel_rfl) trivial trivial (by decide) (fun w hs hb => part_within.calls k A0 c0 l0 (1073741824 : Int) t29 (lent b w [] []) hb (hs.ro R0 _ _) C0 hc30) ?_
      intro x31
      refine ls_on (j := 5) (t := 17) (b := false) rfl rfl (by kernel_rfl) (by kernel_rfl) ?_
      refine ls_val (v := .bool (!t29)) rfl rfl (by kernel_rfl) (fun w => by kernel_rfl) ?_
      refine ls_val (v := .bool (!t29)) rfl rfl (by kernel_rfl) (fun w => by kernel_rfl) ?_
      refine ls_end ?_
      refine qn_then ?_
      by_cases q32 : t29 = true
      · replace H := ite_t q32 H
        refine cs_know (c := false) (congrArg Bool.not (q32)) 21 (by kernel_rfl) ?_
        refine cs_false (by kernel_rfl) ?_
        refine cs_skip' ?_
        refine qn_meet (s0) ⟨_, fr_next (fr_next (rfl) (by kernel_rfl)) (by kernel_rfl), rfl, H⟩ (sub_nil _)
      · replace H := ite_f q32 H
        refine cs_know (c := true) (congrArg Bool.not (Bool.eq_false_iff.mpr q32)) 21 (by kernel_rfl) ?_
        refine cs_true (by kernel_rfl) ?_
        refine cs_seq ?_
        refine cs_region (l := [_]) ?_
        refine ls_val (v := .int .i64 (0 : Int)) rfl rfl (by kernel_rfl) (fun w => by kernel_rfl) ?_
        refine ls_end ?_
        refine qn_then ?_
        refine cs_ret' ?_
        refine qr_then ?_
        obtain rfl := Option.some.inj H
        refine qr_res (rs := [_]) rfl (fun w' hs => ⟨[.int .i64 (0 : Int)], (res_tmp (by kernel_rfl) (.nil)), (), rfl, hs.pick (ts := []) (cs := []) trivial (by decide)⟩)
    · replace H := ite_f q28 H
      refine ls_know (c := true) (congrArg Bool.not (Bool.eq_false_iff.mpr q28)) 17 (by kernel_rfl) ?_
      refine ls_off (j := 5) (t := 17) (b := false) (c := true) rfl rfl (by kernel_rfl) (by kernel_rfl) rfl rfl (by kernel_rfl) ?_
      refine ls_off (j := 5) (t := 17) (b := false) (c := true) rfl rfl (by kernel_rfl) (by kernel_rfl) rfl rfl (by kernel_rfl) ?_
      refine ls_off (j := 5) (t := 17) (b := false) (c := true) rfl rfl (by kernel_rfl) (by kernel_rfl) rfl rfl (by kernel_rfl) ?_
      refine ls_val (v := .bool true) rfl rfl (by kernel_rfl) (fun w => by kernel_rfl) ?_
      refine ls_end ?_
      refine qn_then ?_
      refine cs_true (by kernel_rfl) ?_
      refine cs_seq ?_
      refine cs_region (l := [_]) ?_
      refine ls_val (v := .int .i64 (0 : Int)) rfl rfl (by kernel_rfl) (fun w => by kernel_rfl) ?_
      refine ls_end ?_
      refine qn_then ?_
      refine cs_ret' ?_
      refine qr_then ?_
      obtain rfl := Option.some.inj H
      refine qr_res (rs := [_]) rfl (fun w' hs => ⟨[.int .i64 (0 : Int)], (res_tmp (by kernel_rfl) (.nil)), (), rfl, hs.pick (ts := []) (cs := []) trivial (by decide)⟩)
  · rintro f S ⟨fr1, rfl, rfl, H⟩
    replace H : (part_Greatest.lo2 l0 l1 k (0 : Int) (0 : Int) (0 : Int)) = some r := H
    refine cs_seq ?_
    refine cs_region (l := [_, _]) ?_
    refine ls_val (v := .int .i64 (0 : Int)) rfl rfl (by kernel_rfl) (fun w => by kernel_rfl) ?_
    refine ls_val (v := .int .i64 (0 : Int)) rfl rfl (by kernel_rfl) (fun w => by kernel_rfl) ?_
    refine ls_end ?_
    refine qn_then ?_
    refine cs_seq ?_
    refine cs_seq ?_
    refine cs_region (l := [_, _, _]) ?_
    refine ls_val (v := .slice A1 l1.length c1) rfl rfl (by kernel_rfl) (fun w => by kernel_rfl) ?_
    refine ls_val (v := .int .i64 (l1.length : Int)) rfl rfl (by kernel_rfl) (fun w => by kernel_rfl) ?_
    refine ls_val (v := .int .i64 (0 : Int)) rfl rfl (by kernel_rfl) (fun w => by kernel_rfl) ?_
    refine ls_end ?_
    refine qn_then ?_
    refine cs_block ?_
    refine cs_sub (s0) (sub_nil _) ?_
    refine cs_loop (fun kk f S => ∃ (fR : Fr) (x5_2 : Int) (x6_2 : Int) (x24_2 : Int), f = upd (upd (upd (upd (upd (upd fR 0 (.slice A0 l0.length c0)) 5 (.int .i64 x5_2)) 6 (.int .i64 x6_2)) 22 (.slice A1 l1.length c1)) 23 (.int .i64 (l1.length : Int))) 24 (.int .i64 x24_2) ∧ S = s0 ∧ part_Greatest.lo2 l0 l1 kk x5_2 x6_2 x24_2 = some r) k ?_ ?_ ?_
    · exact ⟨_, (0 : Int), (0 : Int), (0 : Int), fr_next (fr_next (fr_next (fr_next (fr_next (fr_next (rfl) (by kernel_rfl)) (by kernel_rfl)) (by kernel_rfl)) (by kernel_rfl)) (by kernel_rfl)) (by kernel_rfl), rfl, H⟩
    · rintro f S ⟨fr2, x5_2, x6_2, x24_2, rfl, rfl, H⟩; cases H
    · rintro k2 f S ⟨fr2, x5_2, x6_2, x24_2, rfl, rfl, H⟩
      replace H : ((if x24_2 < (l1.length : Int) then (part_Greatest.jo3 l0 l1 x5_2 x6_2 x24_2 k2 (part_Greatest.lo2 l0 l1 k2)) else some x5_2)) = some r := H
      refine cs_seq ?_
      refine cs_region (l := [_]) ?_
      refine ls_val (v := .bool (decide (x24_2 < (l1.length : Int)))) rfl rfl (by kernel_rfl) (fun w => by kernel_rfl) ?_
      refine ls_end ?_
      refine qn_then ?_
      refine cs_cut (fun f S => ∃ (fR : Fr), f = upd (upd (upd (upd (upd (upd fR 0 (.slice A0 l0.length c0)) 5 (.int .i64 x5_2)) 6 (.int .i64 x6_2)) 22 (.slice A1 l1.length c1)) 23 (.int .i64 (l1.length : Int))) 24 (.int .i64 x24_2) ∧ S = s0 ∧ part_Greatest.jo3 l0 l1 x5_2 x6_2 x24_2 k2 (part_Greatest.lo2 l0 l1 k2) = some r) ?_ ?_
      · skip
        by_cases q24 : x24_2 < (l1.length : Int)
        · replace H := ite_t q24 H
          refine cs_know (c := true) (dec_t q24) 25 (by kernel_rfl) ?_
          refine cs_true (by kernel_rfl) ?_
          refine cs_skip' ?_
          refine qn_meet (s0) ⟨_, fr_next (fr_next (fr_next (fr_next (fr_next (fr_next (rfl) (by kernel_rfl)) (by kernel_rfl)) (by kernel_rfl)) (by kernel_rfl)) (by kernel_rfl)) (by kernel_rfl), rfl, H⟩ (sub_nil _)
        · replace H := ite_f q24 H
          refine cs_know (c := false) (dec_f q24) 25 (by kernel_rfl) ?_
          refine cs_false (by kernel_rfl) ?_
          refine cs_exit' ?_
          refine qx_then ?_
          refine qx_then ?_
          refine qx_same ?_
          refine qn_then ?_
          refine cs_seq ?_
          refine cs_region (l := [_, _]) ?_
          refine ls_val (v := .int .i64 x5_2) rfl rfl (by kernel_rfl) (fun w => by kernel_rfl) ?_
          refine ls_val (v := .int .i64 x5_2) rfl rfl (by kernel_rfl) (fun w => by kernel_rfl) ?_
          refine ls_end ?_
          refine qn_then ?_
          refine cs_ret' ?_
          obtain rfl := Option.some.inj H
          refine qr_res (rs := [_]) rfl (fun w' hs => ⟨[.int .i64 x5_2], (res_tmp (by kernel_rfl) (.nil)), (), rfl, hs.pick (ts := []) (cs := []) trivial (by decide)⟩)
      · rintro f S ⟨fr3, rfl, rfl, H⟩
        replace H : ((if 0 ≤ x24_2 then (if x24_2 < (l1.length : Int) then (if 0 ≤ ((l1).getD (x24_2).toNat (0 : Int)) then (if ((l1).getD (x24_2).toNat (0 : Int)) ≤ (l0.length : Int) then (if 0 ≤ x6_2 then (if x6_2 ≤ ((l1).getD (x24_2).toNat (0 : Int)) then lt ((l0.take (((l1).getD (x24_2).toNat (0 : Int))).toNat).drop (x6_2).toNat) fun xl13 => part_Greatest.lo4 l1 x5_2 x24_2 xl13 (part_Greatest.lo2 l0 l1 k2) k2 (0 : Int) (0 : Int) else none) else none) else none) else none) else none) else none)) = some r := H
        refine cs_seq ?_
        refine cs_block ?_
        refine cs_seq ?_
        refine cs_region (l := [_, _, _]) ?_
        obtain ⟨q1, H⟩ := ite_need H
        obtain ⟨q2, H⟩ := ite_need H
        obtain ⟨ad3, hA4⟩ := ido_at (T := (Ec.int 3 .i64)) (l := l1) (i := x24_2) R1 q1 q2
        refine ls_idxv (Ec.int 3 .i64) (A := A1) (c := c1) (l := l1) (k := .i64) (i := x24_2) (z := 1) (ad := ad3) rfl rfl (by kernel_rfl) hA4 rfl (by kernel_rfl) (by kernel_rfl) (by kernel_rfl) (by kernel_rfl) q1 q2 ?_
        refine ls_load (a0 := (ad3.add ((x24_2).toNat * 1))) (v := .int .i64 ((l1).getD (x24_2).toNat (0 : Int))) (de := (TypeDesc.int .i64)) rfl rfl (by kernel_rfl) rfl (by kernel_rfl) (by kernel_rfl) (by kernel_rfl) (fun w hs => (hs.old R1).at hA4 (em_sub (Ec.int 3 .i64) l1 (i := (x24_2).toNat) (by have h0 : (0 : Int) ≤ x24_2 := q1; have h1 : x24_2 < (l1.length : Int) := q2; omega))) ?_
        refine ls_val (v := .int .i64 ((l1).getD (x24_2).toNat (0 : Int))) rfl rfl (by kernel_rfl) (fun w => by kernel_rfl) ?_
        refine ls_end ?_
        refine qn_then ?_
        refine cs_seq ?_
        refine cs_region (l := [_]) ?_
        refine ls_val (v := .int .i64 (0 : Int)) rfl rfl (by kernel_rfl) (fun w => by kernel_rfl) ?_
        refine ls_end ?_
        refine qn_then ?_
        refine cs_seq ?_
        refine cs_seq ?_
        refine cs_region (l := [_, _, _, _, _, _]) ?_
        refine ls_val (v := .slice A0 l0.length c0) rfl rfl (by kernel_rfl) (fun w => by kernel_rfl) ?_
        refine ls_val (v := .int .i64 x6_2) rfl rfl (by kernel_rfl) (fun w => by kernel_rfl) ?_
        refine ls_val (v := .int .i64 ((l1).getD (x24_2).toNat (0 : Int))) rfl rfl (by kernel_rfl) (fun w => by kernel_rfl) ?_
        obtain ⟨q5, H⟩ := ite_need H
        obtain ⟨q6, H⟩ := ite_need H
        obtain ⟨q7, H⟩ := ite_need H
        obtain ⟨q8, H⟩ := ite_need H
        obtain ⟨xl13, hy14, H⟩ := lt_some H
        have hz16 : (x6_2).toNat ≤ (((l1).getD (x24_2).toNat (0 : Int))).toNat := by omega
        have hz17 : (((l1).getD (x24_2).toNat (0 : Int))).toNat ≤ l0.length := by omega
        obtain ⟨xA9, xc10, he15, xC12, xR11⟩ := cut_at (A := A0) (c := c0) (l := l0) (Ec.int 3 .i64) ((x6_2).toNat) ((((l1).getD (x24_2).toNat (0 : Int))).toNat) hz16 hz17 C0 R0 (m := xl13) (by rw [← hy14] <;> simp) (z := 1) rfl
        refine ls_cutv (A := A0) (c := c0) (m := l0.length) (z := 1) (e := 3) (a := (x6_2).toNat) (b := (((l1).getD (x24_2).toNat (0 : Int))).toNat) rfl rfl (by kernel_rfl) rfl (by kernel_rfl) (by kernel_rfl) (by kernel_rfl) (.inr ⟨.i64, by rw [Int.toNat_of_nonneg (by first | assumption | omega)]; kernel_rfl⟩) (.inr ⟨.i64, by rw [Int.toNat_of_nonneg (by first | assumption | omega)]; kernel_rfl⟩) hz16 hz17 C0 he15 ?_
        refine ls_val (v := .int .i64 (xl13.length : Int)) rfl rfl (by kernel_rfl) (fun w => by kernel_rfl) ?_
        refine ls_val (v := .int .i64 (0 : Int)) rfl rfl (by kernel_rfl) (fun w => by kernel_rfl) ?_
        refine ls_end ?_
        refine qn_then ?_
        refine cs_block ?_
        refine cs_sub (s0) (sub_nil _) ?_
        refine cs_loop (fun kk f S => ∃ (fR : Fr) (x9_4 : Int) (x33_4 : Int), f = upd (upd (upd (upd (upd (upd (upd (upd (upd (upd fR 0 (.slice A0 l0.length c0)) 5 (.int .i64 x5_2)) 8 (.int .i64 ((l1).getD (x24_2).toNat (0 : Int)))) 9 (.int .i64 x9_4)) 22 (.slice A1 l1.length c1)) 23 (.int .i64 (l1.length : Int))) 24 (.int .i64 x24_2)) 31 (.slice xA9 xl13.length xc10)) 32 (.int .i64 (xl13.length : Int))) 33 (.int .i64 x33_4) ∧ S = s0 ∧ part_Greatest.lo4 l1 x5_2 x24_2 xl13 (part_Greatest.lo2 l0 l1 k2) kk x9_4 x33_4 = some r) k2 ?_ ?_ ?_
        · exact ⟨_, (0 : Int), (0 : Int), fr_next (fr_next (fr_next (fr_next (fr_next (fr_next (fr_next (fr_next (fr_next (fr_next (rfl) (by kernel_rfl)) (by kernel_rfl)) (by kernel_rfl)) (by kernel_rfl)) (by kernel_rfl)) (by kernel_rfl)) (by kernel_rfl)) (by kernel_rfl)) (by kernel_rfl)) (by kernel_rfl), rfl, H⟩
        · rintro f S ⟨fr4, x9_4, x33_4, rfl, rfl, H⟩; cases H
        · rintro k4 f S ⟨fr4, x9_4, x33_4, rfl, rfl, H⟩
          replace H : ((if x33_4 < (xl13.length : Int) then (if 0 ≤ x33_4 then lt (IntKind.wrap .i64 (x9_4 + ((xl13).getD (x33_4).toNat (0 : Int)))) fun y22 => (part_Greatest.lo4 l1 x5_2 x24_2 xl13 (part_Greatest.lo2 l0 l1 k2) k4) y22 (IntKind.wrap .i64 (x33_4 + (1 : Int))) else none) else (part_Greatest.lo2 l0 l1 k2) (if x5_2 < x9_4 then x9_4 else x5_2) ((l1).getD (x24_2).toNat (0 : Int)) (IntKind.wrap .i64 (x24_2 + (1 : Int))))) = some r := H
          refine cs_seq ?_
          refine cs_region (l := [_]) ?_
          refine ls_val (v := .bool (decide (x33_4 < (xl13.length : Int)))) rfl rfl (by kernel_rfl) (fun w => by kernel_rfl) ?_
          refine ls_end ?_
          refine qn_then ?_
          refine cs_seq ?_
          by_cases q18 : x33_4 < (xl13.length : Int)
          · replace H := ite_t q18 H
            refine cs_know (c := true) (dec_t q18) 34 (by kernel_rfl) ?_
            refine cs_true (by kernel_rfl) ?_
            refine cs_skip' ?_
            refine qn_then ?_
            refine cs_seq ?_
            refine cs_block ?_
            refine cs_seq ?_
            refine cs_region (l := [_, _, _]) ?_
            obtain ⟨q19, H⟩ := ite_need H
            obtain ⟨ad20, hA21⟩ := ido_at (T := (Ec.int 3 .i64)) (l := xl13) (i := x33_4) xR11 q19 q18
            refine ls_idxv (Ec.int 3 .i64) (A := xA9) (c := xc10) (l := xl13) (k := .i64) (i := x33_4) (z := 1) (ad := ad20) rfl rfl (by kernel_rfl) hA21 rfl (by kernel_rfl) (by kernel_rfl) (by kernel_rfl) (by kernel_rfl) q19 q18 ?_
            refine ls_load (a0 := (ad20.add ((x33_4).toNat * 1))) (v := .int .i64 ((xl13).getD (x33_4).toNat (0 : Int))) (de := (TypeDesc.int .i64)) rfl rfl (by kernel_rfl) rfl (by kernel_rfl) (by kernel_rfl) (by kernel_rfl) (fun w hs => (hs.old xR11).at hA21 (em_sub (Ec.int 3 .i64) xl13 (i := (x33_4).toNat) (by have h0 : (0 : Int) ≤ x33_4 := q19; have h1 : x33_4 < (xl13.length : Int) := q18; omega))) ?_
            refine ls_val (v := .int .i64 ((xl13).getD (x33_4).toNat (0 : Int))) rfl rfl (by kernel_rfl) (fun w => by kernel_rfl) ?_
            refine ls_end ?_
            refine qn_then ?_
            refine cs_region (l := [_, _, _, _]) ?_
            refine ls_val (v := .int .i64 x9_4) rfl rfl (by kernel_rfl) (fun w => by kernel_rfl) ?_
            refine ls_val (v := .int .i64 ((xl13).getD (x33_4).toNat (0 : Int))) rfl rfl (by kernel_rfl) (fun w => by kernel_rfl) ?_
            obtain ⟨y22, hy23, H⟩ := lt_some H
            refine ls_val (v := .int .i64 (IntKind.wrap .i64 (x9_4 + ((xl13).getD (x33_4).toNat (0 : Int))))) rfl rfl (by kernel_rfl) (fun w => by kernel_rfl) ?_
            refine ls_ren 39 (v := .int .i64 (IntKind.wrap .i64 (x9_4 + ((xl13).getD (x33_4).toNat (0 : Int))))) (v' := .int .i64 y22) (by kernel_rfl) (by rw [hy23]) ?_
            refine ls_val (v := .int .i64 y22) rfl rfl (by kernel_rfl) (fun w => by kernel_rfl) ?_
            refine ls_end ?_
            refine qn_block ?_
            refine qn_then ?_
            refine cs_region (l := [_, _]) ?_
            refine ls_val (v := .int .i64 (IntKind.wrap .i64 (x33_4 + (1 : Int)))) rfl rfl (by kernel_rfl) (fun w => by kernel_rfl) ?_
            refine ls_val (v := .int .i64 (IntKind.wrap .i64 (x33_4 + (1 : Int)))) rfl rfl (by kernel_rfl) (fun w => by kernel_rfl) ?_
            refine ls_end ?_
            refine qn_again k4 (s0) (Nat.le_refl _) ⟨_, y22, (IntKind.wrap .i64 (x33_4 + (1 : Int))), fr_next (fr_next (fr_next (fr_next (fr_next (fr_next (fr_next (fr_next (fr_next (fr_next (rfl) (by kernel_rfl)) (by kernel_rfl)) (by kernel_rfl)) (by kernel_rfl)) (by kernel_rfl)) (by kernel_rfl)) (by kernel_rfl)) (by kernel_rfl)) (by kernel_rfl)) (by kernel_rfl), rfl, H⟩ (sub_nil _)
          · replace H := ite_f q18 H
            refine cs_know (c := false) (dec_f q18) 34 (by kernel_rfl) ?_
            refine cs_false (by kernel_rfl) ?_
            refine cs_exit' ?_
            refine qx_then ?_
            refine qx_then ?_
            refine qx_same ?_
            refine qn_then ?_
            refine cs_region (l := [_, _, _, _, _, _]) ?_
            refine ls_val (v := .int .i64 x5_2) rfl rfl (by kernel_rfl) (fun w => by kernel_rfl) ?_
            refine ls_val (v := .int .i64 x9_4) rfl rfl (by kernel_rfl) (fun w => by kernel_rfl) ?_
            refine ls_val (v := .int .i64 (if x5_2 < x9_4 then x9_4 else x5_2)) rfl rfl (by kernel_rfl) (fun w => by kernel_rfl) ?_
            refine ls_val (v := .int .i64 ((l1).getD (x24_2).toNat (0 : Int))) rfl rfl (by kernel_rfl) (fun w => by kernel_rfl) ?_
            refine ls_val (v := .int .i64 (if x5_2 < x9_4 then x9_4 else x5_2)) rfl rfl (by kernel_rfl) (fun w => by kernel_rfl) ?_
            refine ls_val (v := .int .i64 ((l1).getD (x24_2).toNat (0 : Int))) rfl rfl (by kernel_rfl) (fun w => by kernel_rfl) ?_
            refine ls_end ?_
            refine qn_block ?_
            refine qn_then ?_
            refine cs_region (l := [_, _]) ?_
            refine ls_val (v := .int .i64 (IntKind.wrap .i64 (x24_2 + (1 : Int)))) rfl rfl (by kernel_rfl) (fun w => by kernel_rfl) ?_
            refine ls_val (v := .int .i64 (IntKind.wrap .i64 (x24_2 + (1 : Int)))) rfl rfl (by kernel_rfl) (fun w => by kernel_rfl) ?_
            refine ls_end ?_
            refine qn_again k2 (s0) (Nat.le_refl _) ⟨_, (if x5_2 < x9_4 then x9_4 else x5_2), ((l1).getD (x24_2).toNat (0 : Int)), (IntKind.wrap .i64 (x24_2 + (1 : Int))), fr_next (fr_next (fr_next (fr_next (fr_next (fr_next (rfl) (by kernel_rfl)) (by kernel_rfl)) (by kernel_rfl)) (by kernel_rfl)) (by kernel_rfl)) (by kernel_rfl), rfl, H⟩ (sub_nil _)

/-! ### shadowbox/shadowboxref17.Greatest: function 20 -/
def shadowboxref17_Greatest.jo4 (l0 : List Int) (l1 : List Int) (x6_3 : Int) (x7_3 : Int) (x8_3 : Int) (x9_3 : Int) (lo3 : Int → Int → Int → Int → Option (Int)) : Option (Int) := (if 0 ≤ x9_3 then (if x9_3 < (l0.length : Int) then (if ((l0).getD (x9_3).toNat (0 : Int)) < (0 : Int) then some (0 : Int) else (if ((l0).getD (x9_3).toNat (0 : Int)) > (1073741824 : Int) then some (0 : Int) else (if 0 ≤ x8_3 then (if x8_3 < (l1.length : Int) then (if x9_3 = ((l1).getD (x8_3).toNat (0 : Int)) then lt (IntKind.wrap .i64 ((0 : Int) + ((l0).getD (x9_3).toNat (0 : Int)))) fun y16 => (if y16 > x6_3 then lo3 y16 y16 (IntKind.wrap .i64 (x8_3 + (1 : Int))) (IntKind.wrap .i64 (x9_3 + (1 : Int))) else lo3 x6_3 y16 (IntKind.wrap .i64 (x8_3 + (1 : Int))) (IntKind.wrap .i64 (x9_3 + (1 : Int)))) else lt (IntKind.wrap .i64 (x7_3 + ((l0).getD (x9_3).toNat (0 : Int)))) fun y21 => (if y21 > x6_3 then lo3 y21 y21 x8_3 (IntKind.wrap .i64 (x9_3 + (1 : Int))) else lo3 x6_3 y21 x8_3 (IntKind.wrap .i64 (x9_3 + (1 : Int))))) else none) else none))) else none) else none)
def shadowboxref17_Greatest.lo3 (l0 : List Int) (l1 : List Int) : Nat → Int → Int → Int → Int → Option (Int)
  | 0, _, _, _, _ => none
  | k3 + 1, x6_3, x7_3, x8_3, x9_3 => (if x9_3 < (l0.length : Int) then (shadowboxref17_Greatest.jo4 l0 l1 x6_3 x7_3 x8_3 x9_3 (shadowboxref17_Greatest.lo3 l0 l1 k3)) else some x6_3)
def shadowboxref17_Greatest.jo2 (k : Nat) (l0 : List Int) (l1 : List Int) : Option (Int) := shadowboxref17_Greatest.lo3 l0 l1 k (0 : Int) (0 : Int) (0 : Int) (0 : Int)
def shadowboxref17_Greatest.tab25 : List (List Nat) := [[], [], [0, 1], [0, 1, 2], [], [], [5], [4, 5, 6], [4, 5, 6, 7], [0, 1, 2, 3, 4, 5, 6, 7, 8]]
def shadowboxref17_Greatest.lo5 (l1 : List Int) (jo2 : Option (Int)) : Nat → Int → Option (Int)
  | 0, _ => none
  | k5 + 1, x5_5 => (if x5_5 < (l1.length : Int) then (if 0 ≤ x5_5 then (if 0 ≤ IntKind.wrap .i64 (x5_5 - (1 : Int)) then (if IntKind.wrap .i64 (x5_5 - (1 : Int)) < (l1.length : Int) then lt (((l1).getD (IntKind.wrap .i64 (x5_5 - (1 : Int))).toNat (0 : Int))) fun y35 => (if ((l1).getD (x5_5).toNat (0 : Int)) ≤ y35 then some (0 : Int) else (shadowboxref17_Greatest.lo5 l1 jo2 k5) (IntKind.wrap .i64 (x5_5 + (1 : Int)))) else none) else none) else none) else jo2)
def shadowboxref17_Greatest.jo1 (k : Nat) (l0 : List Int) (l1 : List Int) : Option (Int) := shadowboxref17_Greatest.lo5 l1 (shadowboxref17_Greatest.jo2 k l0 l1) k (1 : Int)
def shadowboxref17_Greatest.f (k : Nat) (l0 : List Int) (l1 : List Int) : Option (Int) :=
  (if (l1.length : Int) = (0 : Int) then some (0 : Int) else lt (IntKind.wrap .i64 ((l1.length : Int) - (1 : Int))) fun y39 => (if 0 ≤ y39 then (if y39 < (l1.length : Int) then (if ((l1).getD (y39).toNat (0 : Int)) = (l0.length : Int) then (if (0 : Int) < (l1.length : Int) then (if ((l1).getD ((0 : Int)).toNat (0 : Int)) < (1 : Int) then some (0 : Int) else (shadowboxref17_Greatest.jo1 k l0 l1)) else none) else some (0 : Int)) else none) else none))
set_option maxRecDepth 100000 in
set_option maxHeartbeats 4000000 in
theorem shadowboxref17_Greatest.calls (k : Nat) (A0 : Option Addr) (c0 : Nat) (l0 : List Int) (A1 : Option Addr) (c1 : Nat) (l1 : List Int) (r : Int) (b : Bs) (hs0 : St b (stl []) b.w) (R0 : Ro b A0 (em (Ec.int 3 .i64) l0)) (C0 : l0.length ≤ c0) (R1 : Ro b A1 (em (Ec.int 3 .i64) l1)) (C1 : l1.length ≤ c1) (H : shadowboxref17_Greatest.f k l0 l1 = some r) :
    Calls Try.prog 20 #[.slice A0 l0.length c0, .slice A1 l1.length c1] b.w fun e w' => ∃ x : Unit, e = .returned (.int .i64 r) ∧ St b (stl []) w' := by
  unfold shadowboxref17_Greatest.f at H
  refine enterb (n := 83) Try.func20 rfl (by kernel_rfl) (by kernel_rfl) hs0 ?_
  refine cs_sub (s0) (sub_nil _) ?_
  refine cs_seq ?_
  refine cs_region (l := [_]) ?_
  refine ls_val (v := .int .i64 (0 : Int)) rfl rfl (by kernel_rfl) (fun w => by kernel_rfl) ?_
  refine ls_end ?_
  refine qn_then ?_
  refine cs_cut (fun f S => ∃ (fR : Fr), f = upd (upd fR 0 (.slice A0 l0.length c0)) 1 (.slice A1 l1.length c1) ∧ S = s0 ∧ shadowboxref17_Greatest.jo1 k l0 l1 = some r) ?_ ?_
  · skip
    refine cs_seq ?_
    refine cs_region (l := [_, _, _, _, _, _, _, _, _, _, _, _, _, _, _, _, _, _, _, _]) ?_
    refine ls_val (v := .slice A1 l1.length c1) rfl rfl (by kernel_rfl) (fun w => by kernel_rfl) ?_
    refine ls_val (v := .int .i64 (l1.length : Int)) rfl rfl (by kernel_rfl) (fun w => by kernel_rfl) ?_
    refine ls_val (v := .bool (decide ((l1.length : Int) = (0 : Int)))) rfl rfl (by kernel_rfl) (fun w => by kernel_rfl) ?_
    refine ls_val (v := .bool (decide ((l1.length : Int) = (0 : Int)))) rfl rfl (by kernel_rfl) (fun w => by kernel_rfl) ?_
    by_cases q38 : (l1.length : Int) = (0 : Int)
    · replace H := ite_t q38 H
      refine ls_know (c := true) (dec_t q38) 13 (by kernel_rfl) ?_
      refine ls_off (j := 3) (t := 13) (b := false) (c := true) rfl rfl (by kernel_rfl) (by kernel_rfl) rfl rfl (by kernel_rfl) ?_
      refine ls_off (j := 3) (t := 13) (b := false) (c := true) rfl rfl (by kernel_rfl) (by kernel_rfl) rfl rfl (by kernel_rfl) ?_
      refine ls_off (j := 3) (t := 13) (b := false) (c := true) rfl rfl (by kernel_rfl) (by kernel_rfl) rfl rfl (by kernel_rfl) ?_
      refine ls_off (j := 3) (t := 13) (b := false) (c := true) rfl rfl (by kernel_rfl) (by kernel_rfl) rfl rfl (by kernel_rfl) ?_
      refine ls_off (j := 3) (t := 13) (b := false) (c := true) rfl rfl (by kernel_rfl) (by kernel_rfl) rfl rfl (by kernel_rfl) ?_
      refine ls_off (j := 3) (t := 13) (b := false) (c := true) rfl rfl (by kernel_rfl) (by kernel_rfl) rfl rfl (by kernel_rfl) ?_
      refine ls_off (j := 3) (t := 13) (b := false) (c := true) rfl rfl (by kernel_rfl) (by kernel_rfl) rfl rfl (by kernel_rfl) ?_
      refine ls_off (j := 3) (t := 13) (b := false) (c := true) rfl rfl (by kernel_rfl) (by kernel_rfl) rfl rfl (by kernel_rfl) ?_
      refine ls_off (j := 3) (t := 13) (b := false) (c := true) rfl rfl (by kernel_rfl) (by kernel_rfl) rfl rfl (by kernel_rfl) ?_
      refine ls_val (v := .bool true) rfl rfl (by kernel_rfl) (fun w => by kernel_rfl) ?_
      refine ls_val (v := .bool true) rfl rfl (by kernel_rfl) (fun w => by kernel_rfl) ?_
      refine ls_off (j := 14) (t := 24) (b := false) (c := true) rfl rfl (by kernel_rfl) (by kernel_rfl) rfl rfl (by kernel_rfl) ?_
      refine ls_off (j := 14) (t := 24) (b := false) (c := true) rfl rfl (by kernel_rfl) (by kernel_rfl) rfl rfl (by kernel_rfl) ?_
      refine ls_off (j := 14) (t := 24) (b := false) (c := true) rfl rfl (by kernel_rfl) (by kernel_rfl) rfl rfl (by kernel_rfl) ?_
      refine ls_off (j := 14) (t := 24) (b := false) (c := true) rfl rfl (by kernel_rfl) (by kernel_rfl) rfl rfl (by kernel_rfl) ?_
      refine ls_val (v := .bool true) rfl rfl (by kernel_rfl) (fun w => by kernel_rfl) ?_
      refine ls_end ?_
      refine qn_then ?_
      refine cs_true (by kernel_rfl) ?_
      refine cs_seq ?_
      refine cs_region (l := [_]) ?_
      refine ls_val (v := .int .i64 (0 : Int)) rfl rfl (by kernel_rfl) (fun w => by kernel_rfl) ?_
      refine ls_end ?_
      refine qn_then ?_
      refine cs_ret' ?_
      refine qr_then ?_
      obtain rfl := Option.some.inj H
      refine qr_res (rs := [_]) rfl (fun w' hs => ⟨[.int .i64 (0 : Int)], (res_tmp (by kernel_rfl) (.nil)), (), rfl, hs.pick (ts := []) (cs := []) trivial (by decide)⟩)
    · replace H := ite_f q38 H
      refine ls_know (c := false) (dec_f q38) 13 (by kernel_rfl) ?_
      refine ls_on (j := 3) (t := 13) (b := false) rfl rfl (by kernel_rfl) (by kernel_rfl) ?_
      refine ls_val (v := .slice A1 l1.length c1) rfl rfl (by kernel_rfl) (fun w => by kernel_rfl) ?_
      refine ls_on (j := 3) (t := 13) (b := false) rfl rfl (by kernel_rfl) (by kernel_rfl) ?_
      refine ls_val (v := .slice A1 l1.length c1) rfl rfl (by kernel_rfl) (fun w => by kernel_rfl) ?_
      refine ls_on (j := 3) (t := 13) (b := false) rfl rfl (by kernel_rfl) (by kernel_rfl) ?_
      refine ls_val (v := .int .i64 (l1.length : Int)) rfl rfl (by kernel_rfl) (fun w => by kernel_rfl) ?_
      refine ls_on (j := 3) (t := 13) (b := false) rfl rfl (by kernel_rfl) (by kernel_rfl) ?_
      obtain ⟨y39, hy40, H⟩ := lt_some H
      refine ls_val (v := .int .i64 (IntKind.wrap .i64 ((l1.length : Int) - (1 : Int)))) rfl rfl (by kernel_rfl) (fun w => by kernel_rfl) ?_
      refine ls_ren 17 (v := .int .i64 (IntKind.wrap .i64 ((l1.length : Int) - (1 : Int)))) (v' := .int .i64 y39) (by kernel_rfl) (by rw [hy40]) ?_
      refine ls_on (j := 3) (t := 13) (b := false) rfl rfl (by kernel_rfl) (by kernel_rfl) ?_
      obtain ⟨q41, H⟩ := ite_need H
      obtain ⟨q42, H⟩ := ite_need H
      obtain ⟨ad43, hA44⟩ := ido_at (T := (Ec.int 3 .i64)) (l := l1) (i := y39) R1 q41 q42
      refine ls_idxv (Ec.int 3 .i64) (A := A1) (c := c1) (l := l1) (k := .i64) (i := y39) (z := 1) (ad := ad43) rfl rfl (by kernel_rfl) hA44 rfl (by kernel_rfl) (by kernel_rfl) (by kernel_rfl) (by kernel_rfl) q41 q42 ?_
      refine ls_on (j := 3) (t := 13) (b := false) rfl rfl (by kernel_rfl) (by kernel_rfl) ?_
      refine ls_load (a0 := (ad43.add ((y39).toNat * 1))) (v := .int .i64 ((l1).getD (y39).toNat (0 : Int))) (de := (TypeDesc.int .i64)) rfl rfl (by kernel_rfl) rfl (by kernel_rfl) (by kernel_rfl) (by kernel_rfl) (fun w hs => (hs.old R1).at hA44 (em_sub (Ec.int 3 .i64) l1 (i := (y39).toNat) (by have h0 : (0 : Int) ≤ y39 := q41; have h1 : y39 < (l1.length : Int) := q42; omega))) ?_
      refine ls_on (j := 3) (t := 13) (b := false) rfl rfl (by kernel_rfl) (by kernel_rfl) ?_
      refine ls_val (v := .slice A0 l0.length c0) rfl rfl (by kernel_rfl) (fun w => by kernel_rfl) ?_
      refine ls_on (j := 3) (t := 13) (b := false) rfl rfl (by kernel_rfl) (by kernel_rfl) ?_
      refine ls_val (v := .int .i64 (l0.length : Int)) rfl rfl (by kernel_rfl) (fun w => by kernel_rfl) ?_
      refine ls_on (j := 3) (t := 13) (b := false) rfl rfl (by kernel_rfl) (by kernel_rfl) ?_
      refine ls_val (v := .bool (!decide (((l1).getD (y39).toNat (0 : Int)) = (l0.length : Int)))) rfl rfl (by kernel_rfl) (fun w => by kernel_rfl) ?_
      refine ls_val (v := .bool (!decide (((l1).getD (y39).toNat (0 : Int)) = (l0.length : Int)))) rfl rfl (by kernel_rfl) (fun w => by kernel_rfl) ?_
      refine ls_val (v := .bool (!decide (((l1).getD (y39).toNat (0 : Int)) = (l0.length : Int)))) rfl rfl (by kernel_rfl) (fun w => by kernel_rfl) ?_
      by_cases q45 : ((l1).getD (y39).toNat (0 : Int)) = (l0.length : Int)
      · replace H := ite_t q45 H
        refine ls_know (c := false) (congrArg Bool.not (dec_t q45)) 24 (by kernel_rfl) ?_
        refine ls_on (j := 14) (t := 24) (b := false) rfl rfl (by kernel_rfl) (by kernel_rfl) ?_
        refine ls_val (v := .slice A1 l1.length c1) rfl rfl (by kernel_rfl) (fun w => by kernel_rfl) ?_
        refine ls_on (j := 14) (t := 24) (b := false) rfl rfl (by kernel_rfl) (by kernel_rfl) ?_
        obtain ⟨q46, H⟩ := ite_need H
        obtain ⟨ad47, hA48⟩ := ido_at (T := (Ec.int 3 .i64)) (l := l1) (i := (0 : Int)) R1 (by decide) q46
        refine ls_idxv (Ec.int 3 .i64) (A := A1) (c := c1) (l := l1) (k := .i64) (i := (0 : Int)) (z := 1) (ad := ad47) rfl rfl (by kernel_rfl) hA48 rfl (by kernel_rfl) (by kernel_rfl) (by kernel_rfl) (by kernel_rfl) (by decide) q46 ?_
        refine ls_on (j := 14) (t := 24) (b := false) rfl rfl (by kernel_rfl) (by kernel_rfl) ?_
        refine ls_load (a0 := (ad47.add (((0 : Int)).toNat * 1))) (v := .int .i64 ((l1).getD ((0 : Int)).toNat (0 : Int))) (de := (TypeDesc.int .i64)) rfl rfl (by kernel_rfl) rfl (by kernel_rfl) (by kernel_rfl) (by kernel_rfl) (fun w hs => (hs.old R1).at hA48 (em_sub (Ec.int 3 .i64) l1 (i := ((0 : Int)).toNat) (by have h0 : (0 : Int) ≤ (0 : Int) := (by decide); have h1 : (0 : Int) < (l1.length : Int) := q46; omega))) ?_
        refine ls_on (j := 14) (t := 24) (b := false) rfl rfl (by kernel_rfl) (by kernel_rfl) ?_
        refine ls_val (v := .bool (decide (((l1).getD ((0 : Int)).toNat (0 : Int)) < (1 : Int)))) rfl rfl (by kernel_rfl) (fun w => by kernel_rfl) ?_
        refine ls_val (v := .bool (decide (((l1).getD ((0 : Int)).toNat (0 : Int)) < (1 : Int)))) rfl rfl (by kernel_rfl) (fun w => by kernel_rfl) ?_
        refine ls_end ?_
        refine qn_then ?_
        by_cases q49 : ((l1).getD ((0 : Int)).toNat (0 : Int)) < (1 : Int)
        · replace H := ite_t q49 H
          refine cs_know (c := true) (dec_t q49) 29 (by kernel_rfl) ?_
          refine cs_true (by kernel_rfl) ?_
          refine cs_seq ?_
          refine cs_region (l := [_]) ?_
          refine ls_val (v := .int .i64 (0 : Int)) rfl rfl (by kernel_rfl) (fun w => by kernel_rfl) ?_
          refine ls_end ?_
          refine qn_then ?_
          refine cs_ret' ?_
          refine qr_then ?_
          obtain rfl := Option.some.inj H
          refine qr_res (rs := [_]) rfl (fun w' hs => ⟨[.int .i64 (0 : Int)], (res_tmp (by kernel_rfl) (.nil)), (), rfl, hs.pick (ts := []) (cs := []) trivial (by decide)⟩)
        · replace H := ite_f q49 H
          refine cs_know (c := false) (dec_f q49) 29 (by kernel_rfl) ?_
          refine cs_false (by kernel_rfl) ?_
          refine cs_skip' ?_
          refine qn_meet (s0) ⟨_, fr_next (fr_next (rfl) (by kernel_rfl)) (by kernel_rfl), rfl, H⟩ (sub_nil _)
      · replace H := ite_f q45 H
        refine ls_know (c := true) (congrArg Bool.not (dec_f q45)) 24 (by kernel_rfl) ?_
        refine ls_off (j := 14) (t := 24) (b := false) (c := true) rfl rfl (by kernel_rfl) (by kernel_rfl) rfl rfl (by kernel_rfl) ?_
        refine ls_off (j := 14) (t := 24) (b := false) (c := true) rfl rfl (by kernel_rfl) (by kernel_rfl) rfl rfl (by kernel_rfl) ?_
        refine ls_off (j := 14) (t := 24) (b := false) (c := true) rfl rfl (by kernel_rfl) (by kernel_rfl) rfl rfl (by kernel_rfl) ?_
        refine ls_off (j := 14) (t := 24) (b := false) (c := true) rfl rfl (by kernel_rfl) (by kernel_rfl) rfl rfl (by kernel_rfl) ?_
        refine ls_val (v := .bool true) rfl rfl (by kernel_rfl) (fun w => by kernel_rfl) ?_
        refine ls_end ?_
        refine qn_then ?_
        refine cs_true (by kernel_rfl) ?_
        refine cs_seq ?_
        refine cs_region (l := [_]) ?_
        refine ls_val (v := .int .i64 (0 : Int)) rfl rfl (by kernel_rfl) (fun w => by kernel_rfl) ?_
        refine ls_end ?_
        refine qn_then ?_
        refine cs_ret' ?_
        refine qr_then ?_
        obtain rfl := Option.some.inj H
        refine qr_res (rs := [_]) rfl (fun w' hs => ⟨[.int .i64 (0 : Int)], (res_tmp (by kernel_rfl) (.nil)), (), rfl, hs.pick (ts := []) (cs := []) trivial (by decide)⟩)
  · rintro f S ⟨fr1, rfl, rfl, H⟩
    replace H : (shadowboxref17_Greatest.lo5 l1 (shadowboxref17_Greatest.jo2 k l0 l1) k (1 : Int)) = some r := H
    refine cs_cut (fun f S => ∃ (fR : Fr), f = upd (upd fR 0 (.slice A0 l0.length c0)) 1 (.slice A1 l1.length c1) ∧ S = s0 ∧ shadowboxref17_Greatest.jo2 k l0 l1 = some r) ?_ ?_
    · skip
      refine cs_seq ?_
      refine cs_region (l := [_]) ?_
      refine ls_val (v := .int .i64 (1 : Int)) rfl rfl (by kernel_rfl) (fun w => by kernel_rfl) ?_
      refine ls_end ?_
      refine qn_then ?_
      refine cs_block ?_
      refine cs_sub (s0) (sub_nil _) ?_
      refine cs_loop (fun kk f S => ∃ (fR : Fr) (x5_5 : Int), f = upd (upd (upd fR 0 (.slice A0 l0.length c0)) 1 (.slice A1 l1.length c1)) 5 (.int .i64 x5_5) ∧ S = s0 ∧ shadowboxref17_Greatest.lo5 l1 (shadowboxref17_Greatest.jo2 k l0 l1) kk x5_5 = some r) k ?_ ?_ ?_
      · exact ⟨_, (1 : Int), fr_next (fr_next (fr_next (rfl) (by kernel_rfl)) (by kernel_rfl)) (by kernel_rfl), rfl, H⟩
      · rintro f S ⟨fr5, x5_5, rfl, rfl, H⟩; cases H
      · rintro k5 f S ⟨fr5, x5_5, rfl, rfl, H⟩
        replace H : ((if x5_5 < (l1.length : Int) then (if 0 ≤ x5_5 then (if 0 ≤ IntKind.wrap .i64 (x5_5 - (1 : Int)) then (if IntKind.wrap .i64 (x5_5 - (1 : Int)) < (l1.length : Int) then lt (((l1).getD (IntKind.wrap .i64 (x5_5 - (1 : Int))).toNat (0 : Int))) fun y35 => (if ((l1).getD (x5_5).toNat (0 : Int)) ≤ y35 then some (0 : Int) else (shadowboxref17_Greatest.lo5 l1 (shadowboxref17_Greatest.jo2 k l0 l1) k5) (IntKind.wrap .i64 (x5_5 + (1 : Int)))) else none) else none) else none) else (shadowboxref17_Greatest.jo2 k l0 l1))) = some r := H
        refine cs_seq ?_
        refine cs_seq ?_
        refine cs_region (l := [_, _, _, _]) ?_
        refine ls_val (v := .int .i64 x5_5) rfl rfl (by kernel_rfl) (fun w => by kernel_rfl) ?_
        refine ls_val (v := .slice A1 l1.length c1) rfl rfl (by kernel_rfl) (fun w => by kernel_rfl) ?_
        refine ls_val (v := .int .i64 (l1.length : Int)) rfl rfl (by kernel_rfl) (fun w => by kernel_rfl) ?_
        refine ls_val (v := .bool (decide (x5_5 < (l1.length : Int)))) rfl rfl (by kernel_rfl) (fun w => by kernel_rfl) ?_
        refine ls_end ?_
        refine qn_then ?_
        by_cases q25 : x5_5 < (l1.length : Int)
        · replace H := ite_t q25 H
          refine cs_know (c := true) (dec_t q25) 33 (by kernel_rfl) ?_
          refine cs_true (by kernel_rfl) ?_
          refine cs_skip' ?_
          refine qn_then ?_
          refine cs_seq ?_
          refine cs_block ?_
          refine cs_seq ?_
          obtain ⟨s27_0, hs27_0⟩ : ∃ z : Value → Sto → Prop, z = (fun v R => v = .slice A1 l1.length c1 ∧ R = s0) := ⟨_, rfl⟩
          refine have_op (l := [_, _, _, _, _, _, _, _, _, _]) shadowboxref17_Greatest.tab25 0 0 (fun sp => sp 0 = s27_0) (fun sp on hA hon => ?_) (fun ops27_0 => ?_)
          · refine ⟨fun o ho vs Rs f' S' w hp hf hx hS hR hs => ?_⟩
            obtain rfl := Option.some.inj ho
            rw [hA, hs27_0]
            refine And.intro (fun a ha => (want_none rfl a ha).trans hon.symm) (And.intro (fun _ => ?_) (fun h => by rw [hon] at h; cases h))
            have hF := fr_next (rfl) ((hx 1 (by kernel_rfl)).trans (by kernel_rfl : (_ : Value) = .slice A1 l1.length c1))
            refine ls_fr hF ?_
            refine ls_val (v := .slice A1 l1.length c1) rfl rfl (by kernel_rfl) (fun w => by kernel_rfl) ?_
            exact ls_fin s0 (.slice A1 l1.length c1) (congrArg (fun z => upd z 36 _) hF.symm) ⟨rfl, rfl⟩ (sub_nil _)
          obtain ⟨s27_1, hs27_1⟩ : ∃ z : Value → Sto → Prop, z = (fun v R => v = .int .i64 x5_5 ∧ R = s0) := ⟨_, rfl⟩
          refine have_op (l := [_, _, _, _, _, _, _, _, _, _]) shadowboxref17_Greatest.tab25 0 1 (fun sp => sp 1 = s27_1) (fun sp on hA hon => ?_) (fun ops27_1 => ?_)
          · refine ⟨fun o ho vs Rs f' S' w hp hf hx hS hR hs => ?_⟩
            obtain rfl := Option.some.inj ho
            rw [hA, hs27_1]
            refine And.intro (fun a ha => (want_none rfl a ha).trans hon.symm) (And.intro (fun _ => ?_) (fun h => by rw [hon] at h; cases h))
            have hF := fr_next (rfl) ((hx 5 (by kernel_rfl)).trans (by kernel_rfl : (_ : Value) = .int .i64 x5_5))
            refine ls_fr hF ?_
            refine ls_val (v := .int .i64 x5_5) rfl rfl (by kernel_rfl) (fun w => by kernel_rfl) ?_
            exact ls_fin s0 (.int .i64 x5_5) (congrArg (fun z => upd z 37 _) hF.symm) ⟨rfl, rfl⟩ (sub_nil _)
          obtain ⟨q28, H⟩ := ite_need H
          obtain ⟨ad29, hA30⟩ := ido_at (T := (Ec.int 3 .i64)) (l := l1) (i := x5_5) R1 q28 q25
          obtain ⟨s27_2, hs27_2⟩ : ∃ z : Value → Sto → Prop, z = (fun v R => v = .pointer (some (ad29.add ((x5_5).toNat * 1))) ∧ R = s0) := ⟨_, rfl⟩
          refine have_op (l := [_, _, _, _, _, _, _, _, _, _]) shadowboxref17_Greatest.tab25 0 2 (fun sp => sp 2 = s27_2 ∧ sp 0 = s27_0 ∧ sp 1 = s27_1) (fun sp on hA hon => ?_) (fun ops27_2 => ?_)
          · refine ⟨fun o ho vs Rs f' S' w hp hf hx hS hR hs => ?_⟩
            obtain rfl := Option.some.inj ho
            obtain ⟨hv0, hR0⟩ := (spe hA.2.1 hs27_0 (hp 0 (by kernel_rfl)))
            obtain ⟨hv1, hR1⟩ := (spe hA.2.2 hs27_1 (hp 1 (by kernel_rfl)))
            rw [hA.1, hs27_2]
            refine And.intro (fun a ha => (want_none rfl a ha).trans hon.symm) (And.intro (fun _ => ?_) (fun h => by rw [hon] at h; cases h))
            have hF := fr_next (fr_next (rfl) ((hf 0 36 (by kernel_rfl) rfl).trans hv0)) ((hf 1 37 (by kernel_rfl) rfl).trans hv1)
            refine ls_fr hF ?_
            refine ls_idxv (Ec.int 3 .i64) (A := A1) (c := c1) (l := l1) (k := .i64) (i := x5_5) (z := 1) (ad := ad29) rfl rfl (by kernel_rfl) hA30 rfl (by kernel_rfl) (by kernel_rfl) (by kernel_rfl) (by kernel_rfl) q28 q25 ?_
            exact ls_fin s0 (.pointer (some (ad29.add ((x5_5).toNat * 1)))) (congrArg (fun z => upd z 38 _) hF.symm) ⟨rfl, rfl⟩ (sub_nil _)
          obtain ⟨s27_3, hs27_3⟩ : ∃ z : Value → Sto → Prop, z = (fun v R => v = .int .i64 ((l1).getD (x5_5).toNat (0 : Int)) ∧ R = s0) := ⟨_, rfl⟩
          refine have_op (l := [_, _, _, _, _, _, _, _, _, _]) shadowboxref17_Greatest.tab25 0 3 (fun sp => sp 3 = s27_3 ∧ sp 2 = s27_2) (fun sp on hA hon => ?_) (fun ops27_3 => ?_)
          · refine ⟨fun o ho vs Rs f' S' w hp hf hx hS hR hs => ?_⟩
            obtain rfl := Option.some.inj ho
            obtain ⟨hv2, hR2⟩ := (spe hA.2 hs27_2 (hp 2 (by kernel_rfl)))
            rw [hA.1, hs27_3]
            refine And.intro (fun a ha => (want_none rfl a ha).trans hon.symm) (And.intro (fun _ => ?_) (fun h => by rw [hon] at h; cases h))
            have hF := fr_next (rfl) ((hf 2 38 (by kernel_rfl) rfl).trans hv2)
            refine ls_fr hF ?_
            refine ls_load (a0 := (ad29.add ((x5_5).toNat * 1))) (v := .int .i64 ((l1).getD (x5_5).toNat (0 : Int))) (de := (TypeDesc.int .i64)) rfl rfl (by kernel_rfl) rfl (by kernel_rfl) (by kernel_rfl) (by kernel_rfl) (fun w1 hs1 => (Rd.step (hs.old R1) hs1.below.bw).at hA30 (em_sub (Ec.int 3 .i64) l1 (i := (x5_5).toNat) (by have h0 : (0 : Int) ≤ x5_5 := q28; have h1 : x5_5 < (l1.length : Int) := q25; omega))) ?_
            exact ls_fin s0 (.int .i64 ((l1).getD (x5_5).toNat (0 : Int))) (congrArg (fun z => upd z 39 _) hF.symm) ⟨rfl, rfl⟩ (sub_nil _)
          obtain ⟨s27_4, hs27_4⟩ : ∃ z : Value → Sto → Prop, z = (fun v R => v = .slice A1 l1.length c1 ∧ R = s0) := ⟨_, rfl⟩
          refine have_op (l := [_, _, _, _, _, _, _, _, _, _]) shadowboxref17_Greatest.tab25 0 4 (fun sp => sp 4 = s27_4) (fun sp on hA hon => ?_) (fun ops27_4 => ?_)
          · refine ⟨fun o ho vs Rs f' S' w hp hf hx hS hR hs => ?_⟩
            obtain rfl := Option.some.inj ho
            rw [hA, hs27_4]
            refine And.intro (fun a ha => (want_none rfl a ha).trans hon.symm) (And.intro (fun _ => ?_) (fun h => by rw [hon] at h; cases h))
            have hF := fr_next (rfl) ((hx 1 (by kernel_rfl)).trans (by kernel_rfl : (_ : Value) = .slice A1 l1.length c1))
            refine ls_fr hF ?_
            refine ls_val (v := .slice A1 l1.length c1) rfl rfl (by kernel_rfl) (fun w => by kernel_rfl) ?_
            exact ls_fin s0 (.slice A1 l1.length c1) (congrArg (fun z => upd z 40 _) hF.symm) ⟨rfl, rfl⟩ (sub_nil _)
          obtain ⟨s27_5, hs27_5⟩ : ∃ z : Value → Sto → Prop, z = (fun v R => v = .int .i64 x5_5 ∧ R = s0) := ⟨_, rfl⟩
          refine have_op (l := [_, _, _, _, _, _, _, _, _, _]) shadowboxref17_Greatest.tab25 0 5 (fun sp => sp 5 = s27_5) (fun sp on hA hon => ?_) (fun ops27_5 => ?_)
          · refine ⟨fun o ho vs Rs f' S' w hp hf hx hS hR hs => ?_⟩
            obtain rfl := Option.some.inj ho
            rw [hA, hs27_5]
            refine And.intro (fun a ha => (want_none rfl a ha).trans hon.symm) (And.intro (fun _ => ?_) (fun h => by rw [hon] at h; cases h))
            have hF := fr_next (rfl) ((hx 5 (by kernel_rfl)).trans (by kernel_rfl : (_ : Value) = .int .i64 x5_5))
            refine ls_fr hF ?_
            refine ls_val (v := .int .i64 x5_5) rfl rfl (by kernel_rfl) (fun w => by kernel_rfl) ?_
            exact ls_fin s0 (.int .i64 x5_5) (congrArg (fun z => upd z 41 _) hF.symm) ⟨rfl, rfl⟩ (sub_nil _)
          obtain ⟨s27_6, hs27_6⟩ : ∃ z : Value → Sto → Prop, z = (fun v R => v = .int .i64 (IntKind.wrap .i64 (x5_5 - (1 : Int))) ∧ R = s0) := ⟨_, rfl⟩
          refine have_op (l := [_, _, _, _, _, _, _, _, _, _]) shadowboxref17_Greatest.tab25 0 6 (fun sp => sp 6 = s27_6 ∧ sp 5 = s27_5) (fun sp on hA hon => ?_) (fun ops27_6 => ?_)
          · refine ⟨fun o ho vs Rs f' S' w hp hf hx hS hR hs => ?_⟩
            obtain rfl := Option.some.inj ho
            obtain ⟨hv5, hR5⟩ := (spe hA.2 hs27_5 (hp 5 (by kernel_rfl)))
            rw [hA.1, hs27_6]
            refine And.intro (fun a ha => (want_none rfl a ha).trans hon.symm) (And.intro (fun _ => ?_) (fun h => by rw [hon] at h; cases h))
            have hF := fr_next (rfl) ((hf 5 41 (by kernel_rfl) rfl).trans hv5)
            refine ls_fr hF ?_
            refine ls_val (v := .int .i64 (IntKind.wrap .i64 (x5_5 - (1 : Int)))) rfl rfl (by kernel_rfl) (fun w => by kernel_rfl) ?_
            exact ls_fin s0 (.int .i64 (IntKind.wrap .i64 (x5_5 - (1 : Int)))) (congrArg (fun z => upd z 42 _) hF.symm) ⟨rfl, rfl⟩ (sub_nil _)
          obtain ⟨q31, H⟩ := ite_need H
          obtain ⟨q32, H⟩ := ite_need H
          obtain ⟨ad33, hA34⟩ := ido_at (T := (Ec.int 3 .i64)) (l := l1) (i := IntKind.wrap .i64 (x5_5 - (1 : Int))) R1 q31 q32
          obtain ⟨s27_7, hs27_7⟩ : ∃ z : Value → Sto → Prop, z = (fun v R => v = .pointer (some (ad33.add ((IntKind.wrap .i64 (x5_5 - (1 : Int))).toNat * 1))) ∧ R = s0) := ⟨_, rfl⟩
          refine have_op (l := [_, _, _, _, _, _, _, _, _, _]) shadowboxref17_Greatest.tab25 0 7 (fun sp => sp 7 = s27_7 ∧ sp 4 = s27_4 ∧ sp 6 = s27_6) (fun sp on hA hon => ?_) (fun ops27_7 => ?_)
          · refine ⟨fun o ho vs Rs f' S' w hp hf hx hS hR hs => ?_⟩
            obtain rfl := Option.some.inj ho
            obtain ⟨hv4, hR4⟩ := (spe hA.2.1 hs27_4 (hp 4 (by kernel_rfl)))
            obtain ⟨hv6, hR6⟩ := (spe hA.2.2 hs27_6 (hp 6 (by kernel_rfl)))
            rw [hA.1, hs27_7]
            refine And.intro (fun a ha => (want_none rfl a ha).trans hon.symm) (And.intro (fun _ => ?_) (fun h => by rw [hon] at h; cases h))
            have hF := fr_next (fr_next (rfl) ((hf 4 40 (by kernel_rfl) rfl).trans hv4)) ((hf 6 42 (by kernel_rfl) rfl).trans hv6)
            refine ls_fr hF ?_
            refine ls_idxv (Ec.int 3 .i64) (A := A1) (c := c1) (l := l1) (k := .i64) (i := IntKind.wrap .i64 (x5_5 - (1 : Int))) (z := 1) (ad := ad33) rfl rfl (by kernel_rfl) hA34 rfl (by kernel_rfl) (by kernel_rfl) (by kernel_rfl) (by kernel_rfl) q31 q32 ?_
            exact ls_fin s0 (.pointer (some (ad33.add ((IntKind.wrap .i64 (x5_5 - (1 : Int))).toNat * 1)))) (congrArg (fun z => upd z 43 _) hF.symm) ⟨rfl, rfl⟩ (sub_nil _)
          obtain ⟨y35, hy36, H⟩ := lt_some H
          obtain ⟨s27_8, hs27_8⟩ : ∃ z : Value → Sto → Prop, z = (fun v R => v = .int .i64 y35 ∧ R = s0) := ⟨_, rfl⟩
          refine have_op (l := [_, _, _, _, _, _, _, _, _, _]) shadowboxref17_Greatest.tab25 0 8 (fun sp => sp 8 = s27_8 ∧ sp 7 = s27_7) (fun sp on hA hon => ?_) (fun ops27_8 => ?_)
          · refine ⟨fun o ho vs Rs f' S' w hp hf hx hS hR hs => ?_⟩
            obtain rfl := Option.some.inj ho
            obtain ⟨hv7, hR7⟩ := (spe hA.2 hs27_7 (hp 7 (by kernel_rfl)))
            rw [hA.1, hs27_8]
            refine And.intro (fun a ha => (want_none rfl a ha).trans hon.symm) (And.intro (fun _ => ?_) (fun h => by rw [hon] at h; cases h))
            have hF := fr_next (rfl) ((hf 7 43 (by kernel_rfl) rfl).trans hv7)
            refine ls_fr hF ?_
            refine ls_load (a0 := (ad33.add ((IntKind.wrap .i64 (x5_5 - (1 : Int))).toNat * 1))) (v := .int .i64 ((l1).getD (IntKind.wrap .i64 (x5_5 - (1 : Int))).toNat (0 : Int))) (de := (TypeDesc.int .i64)) rfl rfl (by kernel_rfl) rfl (by kernel_rfl) (by kernel_rfl) (by kernel_rfl) (fun w1 hs1 => (Rd.step (hs.old R1) hs1.below.bw).at hA34 (em_sub (Ec.int 3 .i64) l1 (i := (IntKind.wrap .i64 (x5_5 - (1 : Int))).toNat) (by have h0 : (0 : Int) ≤ IntKind.wrap .i64 (x5_5 - (1 : Int)) := q31; have h1 : IntKind.wrap .i64 (x5_5 - (1 : Int)) < (l1.length : Int) := q32; omega))) ?_
            refine ls_ren 44 (v := .int .i64 ((l1).getD (IntKind.wrap .i64 (x5_5 - (1 : Int))).toNat (0 : Int))) (v' := .int .i64 y35) (by kernel_rfl) (by rw [hy36]) ?_
            exact ls_fin s0 (.int .i64 y35) ((upd_upd _ _ _ _).trans (congrArg (fun z => upd z 44 _) hF.symm)) ⟨rfl, rfl⟩ (sub_nil _)
          refine cs_draw shadowboxref17_Greatest.tab25 9 0 (spl [s27_0, s27_1, s27_2, s27_3, s27_4, s27_5, s27_6, s27_7, s27_8]) (onl [true, true, true, true, true, true, true, true, true]) (by kernel_rfl) (by kernel_rfl) (by kernel_rfl) (by kernel_rfl) (rs := [_]) rfl (by kernel_rfl) (by kernel_rfl) (all_snoc (all_snoc (all_snoc (all_snoc (all_snoc (all_snoc (all_snoc (all_snoc (all_snoc (all_nil) (ops27_0 _ _ rfl rfl)) (ops27_1 _ _ rfl rfl)) (ops27_2 _ _ ⟨rfl, rfl, rfl⟩ rfl)) (ops27_3 _ _ ⟨rfl, rfl⟩ rfl)) (ops27_4 _ _ rfl rfl)) (ops27_5 _ _ rfl rfl)) (ops27_6 _ _ ⟨rfl, rfl⟩ rfl)) (ops27_7 _ _ ⟨rfl, rfl, rfl⟩ rfl)) (ops27_8 _ _ ⟨rfl, rfl⟩ rfl)) ?_
          intro vs Rs f' S' hp hf hx hS hR
          obtain ⟨hv3, hR3⟩ := (spe rfl hs27_3 (hp 3 (by kernel_rfl)))
          obtain ⟨hv8, hR8⟩ := (spe rfl hs27_8 (hp 8 (by kernel_rfl)))
          refine ls_fr (F := upd (upd (upd (upd (upd f' 0 (.slice A0 l0.length c0)) 1 (.slice A1 l1.length c1)) 5 (.int .i64 x5_5)) 39 (.int .i64 ((l1).getD (x5_5).toNat (0 : Int)))) 44 (.int .i64 y35)) (fr_next (fr_next (fr_next (fr_next (fr_next (rfl) ((hx 0 (by kernel_rfl)).trans (by kernel_rfl : (_ : Value) = .slice A0 l0.length c0))) ((hx 1 (by kernel_rfl)).trans (by kernel_rfl : (_ : Value) = .slice A1 l1.length c1))) ((hx 5 (by kernel_rfl)).trans (by kernel_rfl : (_ : Value) = .int .i64 x5_5))) ((hf 3 39 (by kernel_rfl) rfl).trans hv3)) ((hf 8 44 (by kernel_rfl) rfl).trans hv8)) ?_
          refine ls_sub (s0) (sub_nil _) ?_
          refine ls_val (v := .bool (decide (((l1).getD (x5_5).toNat (0 : Int)) ≤ y35))) rfl rfl (by kernel_rfl) (fun w => by kernel_rfl) ?_
          refine ls_end ?_
          refine qn_then ?_
          by_cases q37 : ((l1).getD (x5_5).toNat (0 : Int)) ≤ y35
          · replace H := ite_t q37 H
            refine cs_know (c := true) (dec_t q37) 45 (by kernel_rfl) ?_
            refine cs_true (by kernel_rfl) ?_
            refine cs_seq ?_
            refine cs_region (l := [_]) ?_
            refine ls_val (v := .int .i64 (0 : Int)) rfl rfl (by kernel_rfl) (fun w => by kernel_rfl) ?_
            refine ls_end ?_
            refine qn_then ?_
            refine cs_ret' ?_
            refine qr_block ?_
            refine qr_then ?_
            refine qr_then ?_
            refine qr_block ?_
            refine qr_then ?_
            obtain rfl := Option.some.inj H
            refine qr_res (rs := [_]) rfl (fun w' hs => ⟨[.int .i64 (0 : Int)], (res_tmp (by kernel_rfl) (.nil)), (), rfl, hs.pick (ts := []) (cs := []) trivial (by decide)⟩)
          · replace H := ite_f q37 H
            refine cs_know (c := false) (dec_f q37) 45 (by kernel_rfl) ?_
            refine cs_false (by kernel_rfl) ?_
            refine cs_skip' ?_
            refine qn_block ?_
            refine qn_then ?_
            refine cs_region (l := [_, _, _]) ?_
            refine ls_val (v := .int .i64 x5_5) rfl rfl (by kernel_rfl) (fun w => by kernel_rfl) ?_
            refine ls_val (v := .int .i64 (IntKind.wrap .i64 (x5_5 + (1 : Int)))) rfl rfl (by kernel_rfl) (fun w => by kernel_rfl) ?_
            refine ls_val (v := .int .i64 (IntKind.wrap .i64 (x5_5 + (1 : Int)))) rfl rfl (by kernel_rfl) (fun w => by kernel_rfl) ?_
            refine ls_end ?_
            refine qn_again k5 (s0) (Nat.le_refl _) ⟨_, (IntKind.wrap .i64 (x5_5 + (1 : Int))), fr_next (fr_next (fr_next (rfl) (by kernel_rfl)) (by kernel_rfl)) (by kernel_rfl), rfl, H⟩ (sub_nil _)
        · replace H := ite_f q25 H
          refine cs_know (c := false) (dec_f q25) 33 (by kernel_rfl) ?_
          refine cs_false (by kernel_rfl) ?_
          refine cs_exit' ?_
          refine qx_then ?_
          refine qx_then ?_
          refine qx_same ?_
          refine qn_meet (s0) ⟨_, fr_next (fr_next (rfl) (by kernel_rfl)) (by kernel_rfl), rfl, H⟩ (sub_nil _)
    · rintro f S ⟨fr2, rfl, rfl, H⟩
      replace H : (shadowboxref17_Greatest.lo3 l0 l1 k (0 : Int) (0 : Int) (0 : Int) (0 : Int)) = some r := H
      refine cs_seq ?_
      refine cs_region (l := [_]) ?_
      refine ls_val (v := .int .i64 (0 : Int)) rfl rfl (by kernel_rfl) (fun w => by kernel_rfl) ?_
      refine ls_end ?_
      refine qn_then ?_
      refine cs_seq ?_
      refine cs_region (l := [_]) ?_
      refine ls_val (v := .int .i64 (0 : Int)) rfl rfl (by kernel_rfl) (fun w => by kernel_rfl) ?_
      refine ls_end ?_
      refine qn_then ?_
      refine cs_seq ?_
      refine cs_region (l := [_]) ?_
      refine ls_val (v := .int .i64 (0 : Int)) rfl rfl (by kernel_rfl) (fun w => by kernel_rfl) ?_
      refine ls_end ?_
      refine qn_then ?_
      refine cs_seq ?_
      refine cs_seq ?_
      refine cs_region (l := [_]) ?_
      refine ls_val (v := .int .i64 (0 : Int)) rfl rfl (by kernel_rfl) (fun w => by kernel_rfl) ?_
      refine ls_end ?_
      refine qn_then ?_
      refine cs_block ?_
      refine cs_sub (s0) (sub_nil _) ?_
      refine cs_loop (fun kk f S => ∃ (fR : Fr) (x6_3 : Int) (x7_3 : Int) (x8_3 : Int) (x9_3 : Int), f = upd (upd (upd (upd (upd (upd fR 0 (.slice A0 l0.length c0)) 1 (.slice A1 l1.length c1)) 6 (.int .i64 x6_3)) 7 (.int .i64 x7_3)) 8 (.int .i64 x8_3)) 9 (.int .i64 x9_3) ∧ S = s0 ∧ shadowboxref17_Greatest.lo3 l0 l1 kk x6_3 x7_3 x8_3 x9_3 = some r) k ?_ ?_ ?_
      · exact ⟨_, (0 : Int), (0 : Int), (0 : Int), (0 : Int), fr_next (fr_next (fr_next (fr_next (fr_next (fr_next (rfl) (by kernel_rfl)) (by kernel_rfl)) (by kernel_rfl)) (by kernel_rfl)) (by kernel_rfl)) (by kernel_rfl), rfl, H⟩
      · rintro f S ⟨fr3, x6_3, x7_3, x8_3, x9_3, rfl, rfl, H⟩; cases H
      · rintro k3 f S ⟨fr3, x6_3, x7_3, x8_3, x9_3, rfl, rfl, H⟩
        replace H : ((if x9_3 < (l0.length : Int) then (shadowboxref17_Greatest.jo4 l0 l1 x6_3 x7_3 x8_3 x9_3 (shadowboxref17_Greatest.lo3 l0 l1 k3)) else some x6_3)) = some r := H
        refine cs_cut (fun f S => ∃ (fR : Fr), f = upd (upd (upd (upd (upd (upd fR 0 (.slice A0 l0.length c0)) 1 (.slice A1 l1.length c1)) 6 (.int .i64 x6_3)) 7 (.int .i64 x7_3)) 8 (.int .i64 x8_3)) 9 (.int .i64 x9_3) ∧ S = s0 ∧ shadowboxref17_Greatest.jo4 l0 l1 x6_3 x7_3 x8_3 x9_3 (shadowboxref17_Greatest.lo3 l0 l1 k3) = some r) ?_ ?_
        · skip
          refine cs_seq ?_
          refine cs_region (l := [_, _, _, _]) ?_
          refine ls_val (v := .int .i64 x9_3) rfl rfl (by kernel_rfl) (fun w => by kernel_rfl) ?_
          refine ls_val (v := .slice A0 l0.length c0) rfl rfl (by kernel_rfl) (fun w => by kernel_rfl) ?_
          refine ls_val (v := .int .i64 (l0.length : Int)) rfl rfl (by kernel_rfl) (fun w => by kernel_rfl) ?_
          refine ls_val (v := .bool (decide (x9_3 < (l0.length : Int)))) rfl rfl (by kernel_rfl) (fun w => by kernel_rfl) ?_
          refine ls_end ?_
          refine qn_then ?_
          by_cases q24 : x9_3 < (l0.length : Int)
          · replace H := ite_t q24 H
            refine cs_know (c := true) (dec_t q24) 49 (by kernel_rfl) ?_
            refine cs_true (by kernel_rfl) ?_
            refine cs_skip' ?_
            refine qn_meet (s0) ⟨_, fr_next (fr_next (fr_next (fr_next (fr_next (fr_next (rfl) (by kernel_rfl)) (by kernel_rfl)) (by kernel_rfl)) (by kernel_rfl)) (by kernel_rfl)) (by kernel_rfl), rfl, H⟩ (sub_nil _)
          · replace H := ite_f q24 H
            refine cs_know (c := false) (dec_f q24) 49 (by kernel_rfl) ?_
            refine cs_false (by kernel_rfl) ?_
            refine cs_exit' ?_
            refine qx_then ?_
            refine qx_then ?_
            refine qx_same ?_
            refine qn_then ?_
            refine cs_seq ?_
            refine cs_region (l := [_, _]) ?_
            refine ls_val (v := .int .i64 x6_3) rfl rfl (by kernel_rfl) (fun w => by kernel_rfl) ?_
            refine ls_val (v := .int .i64 x6_3) rfl rfl (by kernel_rfl) (fun w => by kernel_rfl) ?_
            refine ls_end ?_
            refine qn_then ?_
            refine cs_ret' ?_
            obtain rfl := Option.some.inj H
            refine qr_res (rs := [_]) rfl (fun w' hs => ⟨[.int .i64 x6_3], (res_tmp (by kernel_rfl) (.nil)), (), rfl, hs.pick (ts := []) (cs := []) trivial (by decide)⟩)
        · rintro f S ⟨fr4, rfl, rfl, H⟩
          replace H : ((if 0 ≤ x9_3 then (if x9_3 < (l0.length : Int) then (if ((l0).getD (x9_3).toNat (0 : Int)) < (0 : Int) then some (0 : Int) else (if ((l0).getD (x9_3).toNat (0 : Int)) > (1073741824 : Int) then some (0 : Int) else (if 0 ≤ x8_3 then (if x8_3 < (l1.length : Int) then (if x9_3 = ((l1).getD (x8_3).toNat (0 : Int)) then lt (IntKind.wrap .i64 ((0 : Int) + ((l0).getD (x9_3).toNat (0 : Int)))) fun y16 => (if y16 > x6_3 then (shadowboxref17_Greatest.lo3 l0 l1 k3) y16 y16 (IntKind.wrap .i64 (x8_3 + (1 : Int))) (IntKind.wrap .i64 (x9_3 + (1 : Int))) else (shadowboxref17_Greatest.lo3 l0 l1 k3) x6_3 y16 (IntKind.wrap .i64 (x8_3 + (1 : Int))) (IntKind.wrap .i64 (x9_3 + (1 : Int)))) else lt (IntKind.wrap .i64 (x7_3 + ((l0).getD (x9_3).toNat (0 : Int)))) fun y21 => (if y21 > x6_3 then (shadowboxref17_Greatest.lo3 l0 l1 k3) y21 y21 x8_3 (IntKind.wrap .i64 (x9_3 + (1 : Int))) else (shadowboxref17_Greatest.lo3 l0 l1 k3) x6_3 y21 x8_3 (IntKind.wrap .i64 (x9_3 + (1 : Int))))) else none) else none))) else none) else none)) = some r := H
          refine cs_seq ?_
          refine cs_block ?_
          refine cs_seq ?_
          refine cs_seq ?_
          refine cs_region (l := [_, _, _, _, _, _, _, _, _, _, _, _]) ?_
          refine ls_val (v := .slice A0 l0.length c0) rfl rfl (by kernel_rfl) (fun w => by kernel_rfl) ?_
          refine ls_val (v := .int .i64 x9_3) rfl rfl (by kernel_rfl) (fun w => by kernel_rfl) ?_
          obtain ⟨q1, H⟩ := ite_need H
          obtain ⟨q2, H⟩ := ite_need H
          obtain ⟨ad3, hA4⟩ := ido_at (T := (Ec.int 3 .i64)) (l := l0) (i := x9_3) R0 q1 q2
          refine ls_idxv (Ec.int 3 .i64) (A := A0) (c := c0) (l := l0) (k := .i64) (i := x9_3) (z := 1) (ad := ad3) rfl rfl (by kernel_rfl) hA4 rfl (by kernel_rfl) (by kernel_rfl) (by kernel_rfl) (by kernel_rfl) q1 q2 ?_
          refine ls_load (a0 := (ad3.add ((x9_3).toNat * 1))) (v := .int .i64 ((l0).getD (x9_3).toNat (0 : Int))) (de := (TypeDesc.int .i64)) rfl rfl (by kernel_rfl) rfl (by kernel_rfl) (by kernel_rfl) (by kernel_rfl) (fun w hs => (hs.old R0).at hA4 (em_sub (Ec.int 3 .i64) l0 (i := (x9_3).toNat) (by have h0 : (0 : Int) ≤ x9_3 := q1; have h1 : x9_3 < (l0.length : Int) := q2; omega))) ?_
          refine ls_val (v := .bool (decide (((l0).getD (x9_3).toNat (0 : Int)) < (0 : Int)))) rfl rfl (by kernel_rfl) (fun w => by kernel_rfl) ?_
          refine ls_val (v := .bool (decide (((l0).getD (x9_3).toNat (0 : Int)) < (0 : Int)))) rfl rfl (by kernel_rfl) (fun w => by kernel_rfl) ?_
          by_cases q5 : ((l0).getD (x9_3).toNat (0 : Int)) < (0 : Int)
          · replace H := ite_t q5 H
            refine ls_know (c := true) (dec_t q5) 57 (by kernel_rfl) ?_
            refine ls_off (j := 5) (t := 57) (b := false) (c := true) rfl rfl (by kernel_rfl) (by kernel_rfl) rfl rfl (by kernel_rfl) ?_
            refine ls_off (j := 5) (t := 57) (b := false) (c := true) rfl rfl (by kernel_rfl) (by kernel_rfl) rfl rfl (by kernel_rfl) ?_
            refine ls_off (j := 5) (t := 57) (b := false) (c := true) rfl rfl (by kernel_rfl) (by kernel_rfl) rfl rfl (by kernel_rfl) ?_
            refine ls_off (j := 5) (t := 57) (b := false) (c := true) rfl rfl (by kernel_rfl) (by kernel_rfl) rfl rfl (by kernel_rfl) ?_
            refine ls_off (j := 5) (t := 57) (b := false) (c := true) rfl rfl (by kernel_rfl) (by kernel_rfl) rfl rfl (by kernel_rfl) ?_
            refine ls_val (v := .bool true) rfl rfl (by kernel_rfl) (fun w => by kernel_rfl) ?_
            refine ls_end ?_
            refine qn_then ?_
            refine cs_true (by kernel_rfl) ?_
            refine cs_seq ?_
            refine cs_region (l := [_]) ?_
            refine ls_val (v := .int .i64 (0 : Int)) rfl rfl (by kernel_rfl) (fun w => by kernel_rfl) ?_
            refine ls_end ?_
            refine qn_then ?_
            refine cs_ret' ?_
            refine qr_then ?_
            refine qr_block ?_
            refine qr_then ?_
            refine qr_then ?_
            refine qr_block ?_
            refine qr_then ?_
            obtain rfl := Option.some.inj H
            refine qr_res (rs := [_]) rfl (fun w' hs => ⟨[.int .i64 (0 : Int)], (res_tmp (by kernel_rfl) (.nil)), (), rfl, hs.pick (ts := []) (cs := []) trivial (by decide)⟩)
          · replace H := ite_f q5 H
            refine ls_know (c := false) (dec_f q5) 57 (by kernel_rfl) ?_
            refine ls_on (j := 5) (t := 57) (b := false) rfl rfl (by kernel_rfl) (by kernel_rfl) ?_
            refine ls_val (v := .slice A0 l0.length c0) rfl rfl (by kernel_rfl) (fun w => by kernel_rfl) ?_
            refine ls_on (j := 5) (t := 57) (b := false) rfl rfl (by kernel_rfl) (by kernel_rfl) ?_
            refine ls_val (v := .int .i64 x9_3) rfl rfl (by kernel_rfl) (fun w => by kernel_rfl) ?_
            refine ls_on (j := 5) (t := 57) (b := false) rfl rfl (by kernel_rfl) (by kernel_rfl) ?_
            obtain ⟨ad6, hA7⟩ := ido_at (T := (Ec.int 3 .i64)) (l := l0) (i := x9_3) R0 q1 q2
            refine ls_idxv (Ec.int 3 .i64) (A := A0) (c := c0) (l := l0) (k := .i64) (i := x9_3) (z := 1) (ad := ad6) rfl rfl (by kernel_rfl) hA7 rfl (by kernel_rfl) (by kernel_rfl) (by kernel_rfl) (by kernel_rfl) q1 q2 ?_
            refine ls_on (j := 5) (t := 57) (b := false) rfl rfl (by kernel_rfl) (by kernel_rfl) ?_
            refine ls_load (a0 := (ad6.add ((x9_3).toNat * 1))) (v := .int .i64 ((l0).getD (x9_3).toNat (0 : Int))) (de := (TypeDesc.int .i64)) rfl rfl (by kernel_rfl) rfl (by kernel_rfl) (by kernel_rfl) (by kernel_rfl) (fun w hs => (hs.old R0).at hA7 (em_sub (Ec.int 3 .i64) l0 (i := (x9_3).toNat) (by have h0 : (0 : Int) ≤ x9_3 := q1; have h1 : x9_3 < (l0.length : Int) := q2; omega))) ?_
            refine ls_on (j := 5) (t := 57) (b := false) rfl rfl (by kernel_rfl) (by kernel_rfl) ?_
            refine ls_val (v := .bool (decide (((l0).getD (x9_3).toNat (0 : Int)) > (1073741824 : Int)))) rfl rfl (by kernel_rfl) (fun w => by kernel_rfl) ?_
            refine ls_val (v := .bool (decide (((l0).getD (x9_3).toNat (0 : Int)) > (1073741824 : Int)))) rfl rfl (by kernel_rfl) (fun w => by kernel_rfl) ?_
            refine ls_end ?_
            refine qn_then ?_
            by_cases q8 : ((l0).getD (x9_3).toNat (0 : Int)) > (1073741824 : Int)
            · replace H := ite_t q8 H
              refine cs_know (c := true) (dec_t q8) 63 (by kernel_rfl) ?_
              refine cs_true (by kernel_rfl) ?_
              refine cs_seq ?_
              refine cs_region (l := [_]) ?_
              refine ls_val (v := .int .i64 (0 : Int)) rfl rfl (by kernel_rfl) (fun w => by kernel_rfl) ?_
              refine ls_end ?_
              refine qn_then ?_
              refine cs_ret' ?_
              refine qr_then ?_
              refine qr_block ?_
              refine qr_then ?_
              refine qr_then ?_
              refine qr_block ?_
              refine qr_then ?_
              obtain rfl := Option.some.inj H
              refine qr_res (rs := [_]) rfl (fun w' hs => ⟨[.int .i64 (0 : Int)], (res_tmp (by kernel_rfl) (.nil)), (), rfl, hs.pick (ts := []) (cs := []) trivial (by decide)⟩)
            · replace H := ite_f q8 H
              refine cs_know (c := false) (dec_f q8) 63 (by kernel_rfl) ?_
              refine cs_false (by kernel_rfl) ?_
              refine cs_skip' ?_
              refine qn_then ?_
              refine cs_seq ?_
              refine cs_seq ?_
              refine cs_region (l := [_, _, _, _, _, _]) ?_
              refine ls_val (v := .int .i64 x9_3) rfl rfl (by kernel_rfl) (fun w => by kernel_rfl) ?_
              refine ls_val (v := .slice A1 l1.length c1) rfl rfl (by kernel_rfl) (fun w => by kernel_rfl) ?_
              refine ls_val (v := .int .i64 x8_3) rfl rfl (by kernel_rfl) (fun w => by kernel_rfl) ?_
              obtain ⟨q9, H⟩ := ite_need H
              obtain ⟨q10, H⟩ := ite_need H
              obtain ⟨ad11, hA12⟩ := ido_at (T := (Ec.int 3 .i64)) (l := l1) (i := x8_3) R1 q9 q10
              refine ls_idxv (Ec.int 3 .i64) (A := A1) (c := c1) (l := l1) (k := .i64) (i := x8_3) (z := 1) (ad := ad11) rfl rfl (by kernel_rfl) hA12 rfl (by kernel_rfl) (by kernel_rfl) (by kernel_rfl) (by kernel_rfl) q9 q10 ?_
              refine ls_load (a0 := (ad11.add ((x8_3).toNat * 1))) (v := .int .i64 ((l1).getD (x8_3).toNat (0 : Int))) (de := (TypeDesc.int .i64)) rfl rfl (by kernel_rfl) rfl (by kernel_rfl) (by kernel_rfl) (by kernel_rfl) (fun w hs => (hs.old R1).at hA12 (em_sub (Ec.int 3 .i64) l1 (i := (x8_3).toNat) (by have h0 : (0 : Int) ≤ x8_3 := q9; have h1 : x8_3 < (l1.length : Int) := q10; omega))) ?_
              refine ls_val (v := .bool (decide (x9_3 = ((l1).getD (x8_3).toNat (0 : Int))))) rfl rfl (by kernel_rfl) (fun w => by kernel_rfl) ?_
              refine ls_end ?_
              refine qn_then ?_
              by_cases q13 : x9_3 = ((l1).getD (x8_3).toNat (0 : Int))
              · replace H := ite_t q13 H
                refine cs_know (c := true) (dec_t q13) 69 (by kernel_rfl) ?_
                refine cs_true (by kernel_rfl) ?_
                refine cs_seq ?_
                refine cs_region (l := [_]) ?_
                refine ls_val (v := .int .i64 (0 : Int)) rfl rfl (by kernel_rfl) (fun w => by kernel_rfl) ?_
                refine ls_end ?_
                refine qn_then ?_
                refine cs_region (l := [_, _, _]) ?_
                refine ls_val (v := .int .i64 x8_3) rfl rfl (by kernel_rfl) (fun w => by kernel_rfl) ?_
                refine ls_val (v := .int .i64 (IntKind.wrap .i64 (x8_3 + (1 : Int)))) rfl rfl (by kernel_rfl) (fun w => by kernel_rfl) ?_
                refine ls_val (v := .int .i64 (IntKind.wrap .i64 (x8_3 + (1 : Int)))) rfl rfl (by kernel_rfl) (fun w => by kernel_rfl) ?_
                refine ls_end ?_
                refine qn_then ?_
                refine cs_seq ?_
                refine cs_region (l := [_, _, _, _, _, _, _]) ?_
                refine ls_val (v := .int .i64 (0 : Int)) rfl rfl (by kernel_rfl) (fun w => by kernel_rfl) ?_
                refine ls_val (v := .slice A0 l0.length c0) rfl rfl (by kernel_rfl) (fun w => by kernel_rfl) ?_
                refine ls_val (v := .int .i64 x9_3) rfl rfl (by kernel_rfl) (fun w => by kernel_rfl) ?_
                obtain ⟨ad14, hA15⟩ := ido_at (T := (Ec.int 3 .i64)) (l := l0) (i := x9_3) R0 q1 q2
                refine ls_idxv (Ec.int 3 .i64) (A := A0) (c := c0) (l := l0) (k := .i64) (i := x9_3) (z := 1) (ad := ad14) rfl rfl (by kernel_rfl) hA15 rfl (by kernel_rfl) (by kernel_rfl) (by kernel_rfl) (by kernel_rfl) q1 q2 ?_
                refine ls_load (a0 := (ad14.add ((x9_3).toNat * 1))) (v := .int .i64 ((l0).getD (x9_3).toNat (0 : Int))) (de := (TypeDesc.int .i64)) rfl rfl (by kernel_rfl) rfl (by kernel_rfl) (by kernel_rfl) (by kernel_rfl) (fun w hs => (hs.old R0).at hA15 (em_sub (Ec.int 3 .i64) l0 (i := (x9_3).toNat) (by have h0 : (0 : Int) ≤ x9_3 := q1; have h1 : x9_3 < (l0.length : Int) := q2; omega))) ?_
                obtain ⟨y16, hy17, H⟩ := lt_some H
                refine ls_val (v := .int .i64 (IntKind.wrap .i64 ((0 : Int) + ((l0).getD (x9_3).toNat (0 : Int))))) rfl rfl (by kernel_rfl) (fun w => by kernel_rfl) ?_
                refine ls_ren 77 (v := .int .i64 (IntKind.wrap .i64 ((0 : Int) + ((l0).getD (x9_3).toNat (0 : Int))))) (v' := .int .i64 y16) (by kernel_rfl) (by rw [hy17]) ?_
                refine ls_val (v := .int .i64 y16) rfl rfl (by kernel_rfl) (fun w => by kernel_rfl) ?_
                refine ls_end ?_
                refine qn_then ?_
                refine cs_seq ?_
                refine cs_region (l := [_, _, _]) ?_
                refine ls_val (v := .int .i64 y16) rfl rfl (by kernel_rfl) (fun w => by kernel_rfl) ?_
                refine ls_val (v := .int .i64 x6_3) rfl rfl (by kernel_rfl) (fun w => by kernel_rfl) ?_
                refine ls_val (v := .bool (decide (y16 > x6_3))) rfl rfl (by kernel_rfl) (fun w => by kernel_rfl) ?_
                refine ls_end ?_
                refine qn_then ?_
                by_cases q18 : y16 > x6_3
                · replace H := ite_t q18 H
                  refine cs_know (c := true) (dec_t q18) 80 (by kernel_rfl) ?_
                  refine cs_true (by kernel_rfl) ?_
                  refine cs_region (l := [_, _]) ?_
                  refine ls_val (v := .int .i64 y16) rfl rfl (by kernel_rfl) (fun w => by kernel_rfl) ?_
                  refine ls_val (v := .int .i64 y16) rfl rfl (by kernel_rfl) (fun w => by kernel_rfl) ?_
                  refine ls_end ?_
                  refine qn_block ?_
                  refine qn_then ?_
                  refine cs_region (l := [_, _, _]) ?_
                  refine ls_val (v := .int .i64 x9_3) rfl rfl (by kernel_rfl) (fun w => by kernel_rfl) ?_
                  refine ls_val (v := .int .i64 (IntKind.wrap .i64 (x9_3 + (1 : Int)))) rfl rfl (by kernel_rfl) (fun w => by kernel_rfl) ?_
                  refine ls_val (v := .int .i64 (IntKind.wrap .i64 (x9_3 + (1 : Int)))) rfl rfl (by kernel_rfl) (fun w => by kernel_rfl) ?_
                  refine ls_end ?_
                  refine qn_again k3 (s0) (Nat.le_refl _) ⟨_, y16, y16, (IntKind.wrap .i64 (x8_3 + (1 : Int))), (IntKind.wrap .i64 (x9_3 + (1 : Int))), fr_next (fr_next (fr_next (fr_next (fr_next (fr_next (rfl) (by kernel_rfl)) (by kernel_rfl)) (by kernel_rfl)) (by kernel_rfl)) (by kernel_rfl)) (by kernel_rfl), rfl, H⟩ (sub_nil _)
                · replace H := ite_f q18 H
                  refine cs_know (c := false) (dec_f q18) 80 (by kernel_rfl) ?_
                  refine cs_false (by kernel_rfl) ?_
                  refine cs_skip' ?_
                  refine qn_block ?_
                  refine qn_then ?_
                  refine cs_region (l := [_, _, _]) ?_
                  refine ls_val (v := .int .i64 x9_3) rfl rfl (by kernel_rfl) (fun w => by kernel_rfl) ?_
                  refine ls_val (v := .int .i64 (IntKind.wrap .i64 (x9_3 + (1 : Int)))) rfl rfl (by kernel_rfl) (fun w => by kernel_rfl) ?_
                  refine ls_val (v := .int .i64 (IntKind.wrap .i64 (x9_3 + (1 : Int)))) rfl rfl (by kernel_rfl) (fun w => by kernel_rfl) ?_
                  refine ls_end ?_
                  refine qn_again k3 (s0) (Nat.le_refl _) ⟨_, x6_3, y16, (IntKind.wrap .i64 (x8_3 + (1 : Int))), (IntKind.wrap .i64 (x9_3 + (1 : Int))), fr_next (fr_next (fr_next (fr_next (fr_next (fr_next (rfl) (by kernel_rfl)) (by kernel_rfl)) (by kernel_rfl)) (by kernel_rfl)) (by kernel_rfl)) (by kernel_rfl), rfl, H⟩ (sub_nil _)
              · replace H := ite_f q13 H
                refine cs_know (c := false) (dec_f q13) 69 (by kernel_rfl) ?_
                refine cs_false (by kernel_rfl) ?_
                refine cs_skip' ?_
                refine qn_then ?_
                refine cs_seq ?_
                refine cs_region (l := [_, _, _, _, _, _, _]) ?_
                refine ls_val (v := .int .i64 x7_3) rfl rfl (by kernel_rfl) (fun w => by kernel_rfl) ?_
                refine ls_val (v := .slice A0 l0.length c0) rfl rfl (by kernel_rfl) (fun w => by kernel_rfl) ?_
                refine ls_val (v := .int .i64 x9_3) rfl rfl (by kernel_rfl) (fun w => by kernel_rfl) ?_
                obtain ⟨ad19, hA20⟩ := ido_at (T := (Ec.int 3 .i64)) (l := l0) (i := x9_3) R0 q1 q2
                refine ls_idxv (Ec.int 3 .i64) (A := A0) (c := c0) (l := l0) (k := .i64) (i := x9_3) (z := 1) (ad := ad19) rfl rfl (by kernel_rfl) hA20 rfl (by kernel_rfl) (by kernel_rfl) (by kernel_rfl) (by kernel_rfl) q1 q2 ?_
                refine ls_load (a0 := (ad19.add ((x9_3).toNat * 1))) (v := .int .i64 ((l0).getD (x9_3).toNat (0 : Int))) (de := (TypeDesc.int .i64)) rfl rfl (by kernel_rfl) rfl (by kernel_rfl) (by kernel_rfl) (by kernel_rfl) (fun w hs => (hs.old R0).at hA20 (em_sub (Ec.int 3 .i64) l0 (i := (x9_3).toNat) (by have h0 : (0 : Int) ≤ x9_3 := q1; have h1 : x9_3 < (l0.length : Int) := q2; omega))) ?_
                obtain ⟨y21, hy22, H⟩ := lt_some H
                refine ls_val (v := .int .i64 (IntKind.wrap .i64 (x7_3 + ((l0).getD (x9_3).toNat (0 : Int))))) rfl rfl (by kernel_rfl) (fun w => by kernel_rfl) ?_
                refine ls_ren 77 (v := .int .i64 (IntKind.wrap .i64 (x7_3 + ((l0).getD (x9_3).toNat (0 : Int))))) (v' := .int .i64 y21) (by kernel_rfl) (by rw [hy22]) ?_
                refine ls_val (v := .int .i64 y21) rfl rfl (by kernel_rfl) (fun w => by kernel_rfl) ?_
                refine ls_end ?_
                refine qn_then ?_
                refine cs_seq ?_
                refine cs_region (l := [_, _, _]) ?_
                refine ls_val (v := .int .i64 y21) rfl rfl (by kernel_rfl) (fun w => by kernel_rfl) ?_
                refine ls_val (v := .int .i64 x6_3) rfl rfl (by kernel_rfl) (fun w => by kernel_rfl) ?_
                refine ls_val (v := .bool (decide (y21 > x6_3))) rfl rfl (by kernel_rfl) (fun w => by kernel_rfl) ?_
                refine ls_end ?_
                refine qn_then ?_
                by_cases q23 : y21 > x6_3
                · replace H := ite_t q23 H
                  refine cs_know (c := true) (dec_t q23) 80 (by kernel_rfl) ?_
                  refine cs_true (by kernel_rfl) ?_
                  refine cs_region (l := [_, _]) ?_
                  refine ls_val (v := .int .i64 y21) rfl rfl (by kernel_rfl) (fun w => by kernel_rfl) ?_
                  refine ls_val (v := .int .i64 y21) rfl rfl (by kernel_rfl) (fun w => by kernel_rfl) ?_
                  refine ls_end ?_
                  refine qn_block ?_
                  refine qn_then ?_
                  refine cs_region (l := [_, _, _]) ?_
                  refine ls_val (v := .int .i64 x9_3) rfl rfl (by kernel_rfl) (fun w => by kernel_rfl) ?_
                  refine ls_val (v := .int .i64 (IntKind.wrap .i64 (x9_3 + (1 : Int)))) rfl rfl (by kernel_rfl) (fun w => by kernel_rfl) ?_
                  refine ls_val (v := .int .i64 (IntKind.wrap .i64 (x9_3 + (1 : Int)))) rfl rfl (by kernel_rfl) (fun w => by kernel_rfl) ?_
                  refine ls_end ?_
                  refine qn_again k3 (s0) (Nat.le_refl _) ⟨_, y21, y21, x8_3, (IntKind.wrap .i64 (x9_3 + (1 : Int))), fr_next (fr_next (fr_next (fr_next (fr_next (fr_next (rfl) (by kernel_rfl)) (by kernel_rfl)) (by kernel_rfl)) (by kernel_rfl)) (by kernel_rfl)) (by kernel_rfl), rfl, H⟩ (sub_nil _)
                · replace H := ite_f q23 H
                  refine cs_know (c := false) (dec_f q23) 80 (by kernel_rfl) ?_
                  refine cs_false (by kernel_rfl) ?_
                  refine cs_skip' ?_
                  refine qn_block ?_
                  refine qn_then ?_
                  refine cs_region (l := [_, _, _]) ?_
                  refine ls_val (v := .int .i64 x9_3) rfl rfl (by kernel_rfl) (fun w => by kernel_rfl) ?_
                  refine ls_val (v := .int .i64 (IntKind.wrap .i64 (x9_3 + (1 : Int)))) rfl rfl (by kernel_rfl) (fun w => by kernel_rfl) ?_
                  refine ls_val (v := .int .i64 (IntKind.wrap .i64 (x9_3 + (1 : Int)))) rfl rfl (by kernel_rfl) (fun w => by kernel_rfl) ?_
                  refine ls_end ?_
                  refine qn_again k3 (s0) (Nat.le_refl _) ⟨_, x6_3, y21, x8_3, (IntKind.wrap .i64 (x9_3 + (1 : Int))), fr_next (fr_next (fr_next (fr_next (fr_next (fr_next (rfl) (by kernel_rfl)) (by kernel_rfl)) (by kernel_rfl)) (by kernel_rfl)) (by kernel_rfl)) (by kernel_rfl), rfl, H⟩ (sub_nil _)

end Go.Proofs.Ytnkcadofhhcfaaa.G
