/- Printed by a program of this session (sz.py): plain functions, and walks that show that the code comes to them; no condition. -/
import Derived.Test.YtnjijflgafghmaaProg
import Derived.Test.YtnjijflgafghmaaTy
set_option linter.unusedVariables false
set_option linter.unusedSimpArgs false
namespace Go.Proofs.Ytnjijflgafghmaa.G
open Go Go.RowKit Go.Proofs.Ytnjijflgafghmaa.Sx

/-! ### shadowbox/pointer.None: function 12 -/
def pointer_None.f (k : Nat) (a0 : (Int × Int × Int × Int × (Vc Int 32))) : Option (Bool) :=
  some ((a0.1 == (0 : Int)) && ((a0.2.1 == (0 : Int)) && ((a0.2.2.1 == (0 : Int)) && ((a0.2.2.2.1 == (0 : Int)) && (a0.2.2.2.2.1 == (vrep 32 (0 : Int)).1)))))
set_option maxRecDepth 100000 in
set_option maxHeartbeats 4000000 in
theorem pointer_None.calls (k : Nat) (a0 : (Int × Int × Int × Int × (Vc Int 32))) (r : Bool) (b : Bs) (hs0 : St b (stl []) b.w) (H : pointer_None.f k a0 = some r) :
    Calls Try.prog 12 #[.agg ⟨([Value.int .i64 a0.1] ++ ([Value.int .i64 a0.2.1] ++ ([Value.int .i64 a0.2.2.1] ++ ([Value.int .u32 a0.2.2.2.1] ++ en (Value.int .u8) a0.2.2.2.2.1))))⟩] b.w fun e w' => ∃ x : Unit, e = .returned (.bool r) ∧ St b (stl []) w' := by
  unfold pointer_None.f at H
  refine enterb (n := 6) Try.func12 rfl (by kernel_rfl) (by kernel_rfl) hs0 ?_
  refine cs_sub (s0) (sub_nil _) ?_
  refine cs_seq ?_
  refine cs_region (l := [_, _]) ?_
  refine ls_new rfl rfl (by kernel_rfl) 0 (fun g => .pointer (some ⟨g, 0, none⟩)) (.cells ⟨([Value.int .i64 a0.1] ++ ([Value.int .i64 a0.2.1] ++ ([Value.int .i64 a0.2.2.1] ++ ([Value.int .u32 a0.2.2.2.1] ++ en (Value.int .u8) a0.2.2.2.2.1))))⟩ 25) (fun w => by kernel_rfl) ?_
  intro g1
  refine ls_val (v := .bool false) rfl rfl (by kernel_rfl) (fun w => by kernel_rfl) ?_
  refine ls_end ?_
  refine qn_then ?_
  refine cs_seq ?_
  refine cs_region (l := [_, _, _, _]) ?_
  refine ls_loadagg (a := ⟨g1, 0, none⟩) (sub := ([Value.int .i64 a0.1] ++ ([Value.int .i64 a0.2.1] ++ ([Value.int .i64 a0.2.2.1] ++ ([Value.int .u32 a0.2.2.2.1] ++ en (Value.int .u8) a0.2.2.2.2.1))))) rfl rfl (by kernel_rfl) rfl (by kernel_rfl) (by kernel_rfl) (by kernel_rfl) (len_app (len1 _) (len_app (len1 _) (len_app (len1 _) (len_app (len1 _) (len_en _ a0.2.2.2.2))))) (fun w hs => (hs.vars (k := 0) (by exact rfl) (Sub4.all _))) ?_
  refine ls_build (ps := []) (pl := #[(0, 1), (1, 1), (2, 1), (3, 1), (4, 32)]) (zv := .agg ⟨([Value.int .i64 (0 : Int)] ++ ([Value.int .i64 (0 : Int)] ++ ([Value.int .i64 (0 : Int)] ++ ([Value.int .u32 (0 : Int)] ++ en (Value.int .u8) (vrep 32 (0 : Int)).1))))⟩) (zc := ([Value.int .i64 (0 : Int)] ++ ([Value.int .i64 (0 : Int)] ++ ([Value.int .i64 (0 : Int)] ++ ([Value.int .u32 (0 : Int)] ++ en (Value.int .u8) (vrep 32 (0 : Int)).1))))) (r := ([Value.int .i64 (0 : Int)] ++ ([Value.int .i64 (0 : Int)] ++ ([Value.int .i64 (0 : Int)] ++ ([Value.int .u32 (0 : Int)] ++ en (Value.int .u8) (vrep 32 (0 : Int)).1))))) rfl rfl (by kernel_rfl) rfl (by kernel_rfl) (by kernel_rfl) (fun w => by kernel_rfl) (fun w => by kernel_rfl) rfl fill_nil ?_
  refine ls_eql (xs := ([Value.int .i64 a0.1] ++ ([Value.int .i64 a0.2.1] ++ ([Value.int .i64 a0.2.2.1] ++ ([Value.int .u32 a0.2.2.2.1] ++ en (Value.int .u8) a0.2.2.2.2.1))))) (ys := ([Value.int .i64 (0 : Int)] ++ ([Value.int .i64 (0 : Int)] ++ ([Value.int .i64 (0 : Int)] ++ ([Value.int .u32 (0 : Int)] ++ en (Value.int .u8) (vrep 32 (0 : Int)).1))))) (r := ((a0.1 == (0 : Int)) && ((a0.2.1 == (0 : Int)) && ((a0.2.2.1 == (0 : Int)) && ((a0.2.2.2.1 == (0 : Int)) && (a0.2.2.2.2.1 == (vrep 32 (0 : Int)).1)))))) rfl rfl (by kernel_rfl) rfl (by kernel_rfl) (by kernel_rfl) (by kernel_rfl) (eq_st (by kernel_rfl) (by kernel_rfl) (eqf_cons (ft := 3) (fo := 0) (by kernel_rfl) (part_one (by kernel_rfl) (Sub4.trans (Sub4.all _) (Sub4.head _ _))) (part_one (by kernel_rfl) (Sub4.trans (Sub4.all _) (Sub4.head _ _))) (eq_int (by kernel_rfl) _ _ _) (eqf_cons (ft := 3) (fo := 1) (by kernel_rfl) (part_one (by kernel_rfl) (Sub4.trans (Sub4.all _) (Sub4.skip (n := 1) (len1 _) (Sub4.head _ _)))) (part_one (by kernel_rfl) (Sub4.trans (Sub4.all _) (Sub4.skip (n := 1) (len1 _) (Sub4.head _ _)))) (eq_int (by kernel_rfl) _ _ _) (eqf_cons (ft := 3) (fo := 2) (by kernel_rfl) (part_one (by kernel_rfl) (Sub4.trans (Sub4.all _) (Sub4.skip (n := 1) (len1 _) (Sub4.skip (n := 1) (len1 _) (Sub4.head _ _))))) (part_one (by kernel_rfl) (Sub4.trans (Sub4.all _) (Sub4.skip (n := 1) (len1 _) (Sub4.skip (n := 1) (len1 _) (Sub4.head _ _))))) (eq_int (by kernel_rfl) _ _ _) (eqf_cons (ft := 22) (fo := 3) (by kernel_rfl) (part_one (by kernel_rfl) (Sub4.trans (Sub4.all _) (Sub4.skip (n := 1) (len1 _) (Sub4.skip (n := 1) (len1 _) (Sub4.skip (n := 1) (len1 _) (Sub4.head _ _)))))) (part_one (by kernel_rfl) (Sub4.trans (Sub4.all _) (Sub4.skip (n := 1) (len1 _) (Sub4.skip (n := 1) (len1 _) (Sub4.skip (n := 1) (len1 _) (Sub4.head _ _)))))) (eq_int (by kernel_rfl) _ _ _) (eqf_last (ft := 23) (fo := 4) (by kernel_rfl) (part_agg (by kernel_rfl) (by kernel_rfl) (len_en _ a0.2.2.2.2) (Sub4.trans (Sub4.all _) (Sub4.skip (n := 1) (len1 _) (Sub4.skip (n := 1) (len1 _) (Sub4.skip (n := 1) (len1 _) (Sub4.skip (n := 1) (len1 _) (Sub4.all _))))))) (part_agg (by kernel_rfl) (by kernel_rfl) (len_en _ (vrep 32 (0 : Int))) (Sub4.trans (Sub4.all _) (Sub4.skip (n := 1) (len1 _) (Sub4.skip (n := 1) (len1 _) (Sub4.skip (n := 1) (len1 _) (Sub4.skip (n := 1) (len1 _) (Sub4.all _))))))) (eq_ints (e := 5) (ln := 32) (by kernel_rfl) (by kernel_rfl) (by kernel_rfl) a0.2.2.2.2.2 (vrep 32 (0 : Int)).2 _) (by kernel_rfl))))))) ?_
  refine ls_val (v := .bool ((a0.1 == (0 : Int)) && ((a0.2.1 == (0 : Int)) && ((a0.2.2.1 == (0 : Int)) && ((a0.2.2.2.1 == (0 : Int)) && (a0.2.2.2.2.1 == (vrep 32 (0 : Int)).1)))))) rfl rfl (by kernel_rfl) (fun w => by kernel_rfl) ?_
  refine ls_end ?_
  refine qn_then ?_
  refine cs_ret' ?_
  obtain rfl := Option.some.inj H
  refine qr_res (rs := [_]) rfl (fun w' hs => ⟨[.bool ((a0.1 == (0 : Int)) && ((a0.2.1 == (0 : Int)) && ((a0.2.2.1 == (0 : Int)) && ((a0.2.2.2.1 == (0 : Int)) && (a0.2.2.2.2.1 == (vrep 32 (0 : Int)).1)))))], (res_tmp (by kernel_rfl) (.nil)), (), rfl, hs.pick (ts := []) (cs := []) trivial (by decide)⟩)

/-! ### shadowbox/pointer.Sectors: function 16 -/
def pointer_Sectors.f (k : Nat) (a0 : (Int × Int × Int × Int × (Vc Int 32))) : Option (Int) :=
  (if a0.2.2.1 < (1 : Int) then some (0 : Int) else (if a0.2.2.1 > (65536 : Int) then some (0 : Int) else lt (IntKind.wrap .i64 (a0.2.2.1 + (512 : Int))) fun y4 => lt (IntKind.wrap .i64 (Int.tdiv (IntKind.wrap .i64 (y4 - (1 : Int))) (512 : Int))) fun y6 => some y6))
set_option maxRecDepth 100000 in
set_option maxHeartbeats 4000000 in
theorem pointer_Sectors.calls (k : Nat) (a0 : (Int × Int × Int × Int × (Vc Int 32))) (r : Int) (b : Bs) (hs0 : St b (stl []) b.w) (H : pointer_Sectors.f k a0 = some r) :
    Calls Try.prog 16 #[.agg ⟨([Value.int .i64 a0.1] ++ ([Value.int .i64 a0.2.1] ++ ([Value.int .i64 a0.2.2.1] ++ ([Value.int .u32 a0.2.2.2.1] ++ en (Value.int .u8) a0.2.2.2.2.1))))⟩] b.w fun e w' => ∃ x : Unit, e = .returned (.int .i64 r) ∧ St b (stl []) w' := by
  unfold pointer_Sectors.f at H
  refine enterb (n := 16) Try.func16 rfl (by kernel_rfl) (by kernel_rfl) hs0 ?_
  refine cs_sub (s0) (sub_nil _) ?_
  refine cs_seq ?_
  refine cs_region (l := [_, _]) ?_
  refine ls_new rfl rfl (by kernel_rfl) 0 (fun g => .pointer (some ⟨g, 0, none⟩)) (.cells ⟨([Value.int .i64 a0.1] ++ ([Value.int .i64 a0.2.1] ++ ([Value.int .i64 a0.2.2.1] ++ ([Value.int .u32 a0.2.2.2.1] ++ en (Value.int .u8) a0.2.2.2.2.1))))⟩ 25) (fun w => by kernel_rfl) ?_
  intro g1
  refine ls_val (v := .int .i64 (0 : Int)) rfl rfl (by kernel_rfl) (fun w => by kernel_rfl) ?_
  refine ls_end ?_
  refine qn_then ?_
  refine cs_seq ?_
  refine cs_seq ?_
  refine cs_region (l := [_, _, _, _, _, _, _, _]) ?_
  refine ls_val (v := .pointer (some ⟨g1, (0 + 2), none⟩)) rfl rfl (by kernel_rfl) (fun w => by kernel_rfl) ?_
  refine ls_load (a0 := ⟨g1, (0 + 2), none⟩) (v := .int .i64 a0.2.2.1) (de := (TypeDesc.int .i64)) rfl rfl (by kernel_rfl) rfl (by kernel_rfl) (by kernel_rfl) (by kernel_rfl) (fun w hs => (hs.var (k := 0) (by exact rfl) (Sub4.trans (Sub4.all _) (Sub4.skip (n := 1) (len1 _) (Sub4.skip (n := 1) (len1 _) (Sub4.head _ _)))))) ?_
  refine ls_val (v := .bool (decide (a0.2.2.1 < (1 : Int)))) rfl rfl (by kernel_rfl) (fun w => by kernel_rfl) ?_
  refine ls_val (v := .bool (decide (a0.2.2.1 < (1 : Int)))) rfl rfl (by kernel_rfl) (fun w => by kernel_rfl) ?_
  by_cases q2 : a0.2.2.1 < (1 : Int)
  · replace H := ite_t q2 H
    refine ls_know (c := true) (dec_t q2) 6 (by kernel_rfl) ?_
    refine ls_off (j := 3) (t := 6) (b := false) (c := true) rfl rfl (by kernel_rfl) (by kernel_rfl) rfl rfl (by kernel_rfl) ?_
    refine ls_off (j := 3) (t := 6) (b := false) (c := true) rfl rfl (by kernel_rfl) (by kernel_rfl) rfl rfl (by kernel_rfl) ?_
    refine ls_off (j := 3) (t := 6) (b := false) (c := true) rfl rfl (by kernel_rfl) (by kernel_rfl) rfl rfl (by kernel_rfl) ?_
    refine ls_val (v := .bool true) rfl rfl (by kernel_rfl) (fun w => by kernel_rfl) ?_
    refine ls_end ?_
    refine qn_then ?_
    refine cs_true (by kernel_rfl) ?_
    refine cs_seq ?_
    refine cs_region (l := [_]) ?_
    refine ls_val (v := .int .i64 (0 : Int)) rfl rfl (by kernel_rfl) (fun w => by kernel_rfl) ?_
    refine ls_end ?_
    refine qn_then ?_
    refine cs_ret' ?_
    refine qr_then ?_
    obtain rfl := Option.some.inj H
    refine qr_res (rs := [_]) rfl (fun w' hs => ⟨[.int .i64 (0 : Int)], (res_tmp (by kernel_rfl) (.nil)), (), rfl, hs.pick (ts := []) (cs := []) trivial (by decide)⟩)
  · replace H := ite_f q2 H
    refine ls_know (c := false) (dec_f q2) 6 (by kernel_rfl) ?_
    refine ls_on (j := 3) (t := 6) (b := false) rfl rfl (by kernel_rfl) (by kernel_rfl) ?_
    refine ls_val (v := .pointer (some ⟨g1, (0 + 2), none⟩)) rfl rfl (by kernel_rfl) (fun w => by kernel_rfl) ?_
    refine ls_on (j := 3) (t := 6) (b := false) rfl rfl (by kernel_rfl) (by kernel_rfl) ?_
    refine ls_load (a0 := ⟨g1, (0 + 2), none⟩) (v := .int .i64 a0.2.2.1) (de := (TypeDesc.int .i64)) rfl rfl (by kernel_rfl) rfl (by kernel_rfl) (by kernel_rfl) (by kernel_rfl) (fun w hs => (hs.var (k := 0) (by exact rfl) (Sub4.trans (Sub4.all _) (Sub4.skip (n := 1) (len1 _) (Sub4.skip (n := 1) (len1 _) (Sub4.head _ _)))))) ?_
    refine ls_on (j := 3) (t := 6) (b := false) rfl rfl (by kernel_rfl) (by kernel_rfl) ?_
    refine ls_val (v := .bool (decide (a0.2.2.1 > (65536 : Int)))) rfl rfl (by kernel_rfl) (fun w => by kernel_rfl) ?_
    refine ls_val (v := .bool (decide (a0.2.2.1 > (65536 : Int)))) rfl rfl (by kernel_rfl) (fun w => by kernel_rfl) ?_
    refine ls_end ?_
    refine qn_then ?_
    by_cases q3 : a0.2.2.1 > (65536 : Int)
    · replace H := ite_t q3 H
      refine cs_know (c := true) (dec_t q3) 10 (by kernel_rfl) ?_
      refine cs_true (by kernel_rfl) ?_
      refine cs_seq ?_
      refine cs_region (l := [_]) ?_
      refine ls_val (v := .int .i64 (0 : Int)) rfl rfl (by kernel_rfl) (fun w => by kernel_rfl) ?_
      refine ls_end ?_
      refine qn_then ?_
      refine cs_ret' ?_
      refine qr_then ?_
      obtain rfl := Option.some.inj H
      refine qr_res (rs := [_]) rfl (fun w' hs => ⟨[.int .i64 (0 : Int)], (res_tmp (by kernel_rfl) (.nil)), (), rfl, hs.pick (ts := []) (cs := []) trivial (by decide)⟩)
    · replace H := ite_f q3 H
      refine cs_know (c := false) (dec_f q3) 10 (by kernel_rfl) ?_
      refine cs_false (by kernel_rfl) ?_
      refine cs_skip' ?_
      refine qn_then ?_
      refine cs_seq ?_
      refine cs_region (l := [_, _, _, _, _, _]) ?_
      refine ls_val (v := .pointer (some ⟨g1, (0 + 2), none⟩)) rfl rfl (by kernel_rfl) (fun w => by kernel_rfl) ?_
      refine ls_load (a0 := ⟨g1, (0 + 2), none⟩) (v := .int .i64 a0.2.2.1) (de := (TypeDesc.int .i64)) rfl rfl (by kernel_rfl) rfl (by kernel_rfl) (by kernel_rfl) (by kernel_rfl) (fun w hs => (hs.var (k := 0) (by exact rfl) (Sub4.trans (Sub4.all _) (Sub4.skip (n := 1) (len1 _) (Sub4.skip (n := 1) (len1 _) (Sub4.head _ _)))))) ?_
      obtain ⟨y4, hy5, H⟩ := lt_some H
      refine ls_val (v := .int .i64 (IntKind.wrap .i64 (a0.2.2.1 + (512 : Int)))) rfl rfl (by kernel_rfl) (fun w => by kernel_rfl) ?_
      refine ls_ren 13 (v := .int .i64 (IntKind.wrap .i64 (a0.2.2.1 + (512 : Int)))) (v' := .int .i64 y4) (by kernel_rfl) (by rw [hy5]) ?_
      refine ls_val (v := .int .i64 (IntKind.wrap .i64 (y4 - (1 : Int)))) rfl rfl (by kernel_rfl) (fun w => by kernel_rfl) ?_
      obtain ⟨y6, hy7, H⟩ := lt_some H
      refine ls_val (v := .int .i64 (IntKind.wrap .i64 (Int.tdiv (IntKind.wrap .i64 (y4 - (1 : Int))) (512 : Int)))) rfl rfl (by kernel_rfl) (fun w => by kernel_rfl) ?_
      refine ls_ren 15 (v := .int .i64 (IntKind.wrap .i64 (Int.tdiv (IntKind.wrap .i64 (y4 - (1 : Int))) (512 : Int)))) (v' := .int .i64 y6) (by kernel_rfl) (by rw [hy7]) ?_
      refine ls_val (v := .int .i64 y6) rfl rfl (by kernel_rfl) (fun w => by kernel_rfl) ?_
      refine ls_end ?_
      refine qn_then ?_
      refine cs_ret' ?_
      obtain rfl := Option.some.inj H
      refine qr_res (rs := [_]) rfl (fun w' hs => ⟨[.int .i64 y6], (res_tmp (by kernel_rfl) (.nil)), (), rfl, hs.pick (ts := []) (cs := []) trivial (by decide)⟩)

/-! ### shadowbox/pointer.Right$1: function 33 -/
def pointer_Right_1.f (k : Nat) (a0 : Int) (a1 : Int) (a2 : Int) : Option (Bool) :=
  (if a0 ≥ a1 then some (decide (a0 ≤ a2)) else some false)
set_option maxRecDepth 100000 in
set_option maxHeartbeats 4000000 in
theorem pointer_Right_1.calls (k : Nat) (a0 : Int) (a1 : Int) (a2 : Int) (r : Bool) (b : Bs) (hs0 : St b (stl []) b.w) (H : pointer_Right_1.f k a0 a1 a2 = some r) :
    Calls Try.prog 33 #[.int .i64 a0, .int .i64 a1, .int .i64 a2] b.w fun e w' => ∃ x : Unit, e = .returned (.bool r) ∧ St b (stl []) w' := by
  unfold pointer_Right_1.f at H
  refine enterb (n := 15) Try.func33 rfl (by kernel_rfl) (by kernel_rfl) hs0 ?_
  refine cs_sub (s0) (sub_nil _) ?_
  refine cs_seq ?_
  refine cs_region (l := [_]) ?_
  refine ls_val (v := .bool false) rfl rfl (by kernel_rfl) (fun w => by kernel_rfl) ?_
  refine ls_end ?_
  refine qn_then ?_
  refine cs_seq ?_
  refine cs_region (l := [_, _, _, _, _, _, _, _, _]) ?_
  refine ls_val (v := .int .i64 a0) rfl rfl (by kernel_rfl) (fun w => by kernel_rfl) ?_
  refine ls_val (v := .int .i64 a1) rfl rfl (by kernel_rfl) (fun w => by kernel_rfl) ?_
  refine ls_val (v := .bool (decide (a0 ≥ a1))) rfl rfl (by kernel_rfl) (fun w => by kernel_rfl) ?_
  refine ls_val (v := .bool (decide (a0 ≥ a1))) rfl rfl (by kernel_rfl) (fun w => by kernel_rfl) ?_
  by_cases q1 : a0 ≥ a1
  · replace H := ite_t q1 H
    refine ls_know (c := true) (dec_t q1) 10 (by kernel_rfl) ?_
    refine ls_on (j := 3) (t := 10) (b := true) rfl rfl (by kernel_rfl) (by kernel_rfl) ?_
    refine ls_val (v := .int .i64 a0) rfl rfl (by kernel_rfl) (fun w => by kernel_rfl) ?_
    refine ls_on (j := 3) (t := 10) (b := true) rfl rfl (by kernel_rfl) (by kernel_rfl) ?_
    refine ls_val (v := .int .i64 a2) rfl rfl (by kernel_rfl) (fun w => by kernel_rfl) ?_
    refine ls_on (j := 3) (t := 10) (b := true) rfl rfl (by kernel_rfl) (by kernel_rfl) ?_
    refine ls_val (v := .bool (decide (a0 ≤ a2))) rfl rfl (by kernel_rfl) (fun w => by kernel_rfl) ?_
    refine ls_val (v := .bool (decide (a0 ≤ a2))) rfl rfl (by kernel_rfl) (fun w => by kernel_rfl) ?_
    refine ls_val (v := .bool (decide (a0 ≤ a2))) rfl rfl (by kernel_rfl) (fun w => by kernel_rfl) ?_
    refine ls_end ?_
    refine qn_then ?_
    refine cs_ret' ?_
    obtain rfl := Option.some.inj H
    refine qr_res (rs := [_]) rfl (fun w' hs => ⟨[.bool (decide (a0 ≤ a2))], (res_tmp (by kernel_rfl) (.nil)), (), rfl, hs.pick (ts := []) (cs := []) trivial (by decide)⟩)
  · replace H := ite_f q1 H
    refine ls_know (c := false) (dec_f q1) 10 (by kernel_rfl) ?_
    refine ls_off (j := 3) (t := 10) (b := true) (c := false) rfl rfl (by kernel_rfl) (by kernel_rfl) rfl rfl (by kernel_rfl) ?_
    refine ls_off (j := 3) (t := 10) (b := true) (c := false) rfl rfl (by kernel_rfl) (by kernel_rfl) rfl rfl (by kernel_rfl) ?_
    refine ls_off (j := 3) (t := 10) (b := true) (c := false) rfl rfl (by kernel_rfl) (by kernel_rfl) rfl rfl (by kernel_rfl) ?_
    refine ls_val (v := .bool false) rfl rfl (by kernel_rfl) (fun w => by kernel_rfl) ?_
    refine ls_val (v := .bool false) rfl rfl (by kernel_rfl) (fun w => by kernel_rfl) ?_
    refine ls_end ?_
    refine qn_then ?_
    refine cs_ret' ?_
    obtain rfl := Option.some.inj H
    refine qr_res (rs := [_]) rfl (fun w' hs => ⟨[.bool false], (res_tmp (by kernel_rfl) (.nil)), (), rfl, hs.pick (ts := []) (cs := []) trivial (by decide)⟩)

/-! ### shadowbox/pointer.Right: function 14 -/
def pointer_Right.tab1 : List (List Nat) := [[], [], [1], [0, 1, 2], [0, 1, 2, 3], [0, 1, 2, 3, 4], [0, 1, 2, 3, 4, 5], [0, 1, 2, 3, 4, 5, 6], [0, 1, 2, 3, 4, 5, 6, 7], [0, 1, 2, 3, 4, 5, 6, 7, 8], [0, 1, 2, 3, 4, 5, 6, 7, 8, 9], [0, 1, 2, 3, 4, 5, 6, 7, 8, 9], [0, 1, 2, 3, 4, 5, 6, 7, 8, 9, 11], [0, 1, 2, 3, 4, 5, 6, 7, 8, 9], [0, 1, 2, 3, 4, 5, 6, 7, 8, 9, 13], [0, 1, 2, 3, 4, 5, 6, 7, 8, 9, 13, 14], [0, 1, 2, 3, 4, 5, 6, 7, 8, 9, 10, 11, 12, 13, 14, 15], [0, 1, 2, 3, 4, 5, 6, 7, 8, 9, 10, 11, 12, 13, 14, 15, 16], [0, 1, 2, 3, 4, 5, 6, 7, 8, 9, 10, 11, 12, 13, 14, 15, 16, 17]]
def pointer_Right.f (k : Nat) (a0 : (Int × Int × Int × Int × (Vc Int 32))) : Option (Bool) :=
  (pointer_Right_1.f k a0.2.1 (1 : Int) (1152921504606846976 : Int)).bind fun t4 => (if t4 = true then (pointer_Sectors.f k a0).bind fun t8 => (if t8 > (0 : Int) then (pointer_Sectors.f k a0).bind fun t12 => (pointer_Right_1.f k a0.1 (2 : Int) (IntKind.wrap .i64 ((8192 : Int) - t12))).bind fun t15 => some t15 else some false) else some false)
set_option maxRecDepth 100000 in
set_option maxHeartbeats 4000000 in
theorem pointer_Right.calls (k : Nat) (a0 : (Int × Int × Int × Int × (Vc Int 32))) (r : Bool) (b : Bs) (hs0 : St b (stl []) b.w) (H : pointer_Right.f k a0 = some r) :
    Calls Try.prog 14 #[.agg ⟨([Value.int .i64 a0.1] ++ ([Value.int .i64 a0.2.1] ++ ([Value.int .i64 a0.2.2.1] ++ ([Value.int .u32 a0.2.2.2.1] ++ en (Value.int .u8) a0.2.2.2.2.1))))⟩] b.w fun e w' => ∃ x : Unit, e = .returned (.bool r) ∧ St b (stl []) w' := by
  unfold pointer_Right.f at H
  refine enterb (n := 22) Try.func14 rfl (by kernel_rfl) (by kernel_rfl) hs0 ?_
  refine cs_sub (s0) (sub_nil _) ?_
  refine cs_seq ?_
  refine cs_region (l := [_, _]) ?_
  refine ls_new rfl rfl (by kernel_rfl) 0 (fun g => .pointer (some ⟨g, 0, none⟩)) (.cells ⟨([Value.int .i64 a0.1] ++ ([Value.int .i64 a0.2.1] ++ ([Value.int .i64 a0.2.2.1] ++ ([Value.int .u32 a0.2.2.2.1] ++ en (Value.int .u8) a0.2.2.2.2.1))))⟩ 25) (fun w => by kernel_rfl) ?_
  intro g1
  refine ls_val (v := .bool false) rfl rfl (by kernel_rfl) (fun w => by kernel_rfl) ?_
  refine ls_end ?_
  refine qn_then ?_
  refine cs_seq ?_
  refine cs_region (l := [_]) ?_
  refine ls_val (v := .func (.func 33) #[] #[]) rfl rfl (by kernel_rfl) (fun w => by kernel_rfl) ?_
  refine ls_end ?_
  refine qn_then ?_
  refine cs_seq ?_
  obtain ⟨s3_0, hs3_0⟩ : ∃ z : Value → Sto → Prop, z = (fun v R => v = .func (.func 33) #[] #[] ∧ R = s0) := ⟨_, rfl⟩
  refine have_op (l := [_, _, _, _, _, _, _, _, _, _, _, _, _, _, _, _, _, _, _]) pointer_Right.tab1 1 0 (fun sp => sp 0 = s3_0) (fun sp on hA hon => ?_) (fun ops3_0 => ?_)
  · refine ⟨fun o ho vs Rs f' S' w hp hf hx hS hR hs => ?_⟩
    obtain rfl := Option.some.inj ho
    rw [hA, hs3_0]
    refine And.intro (fun a ha => (want_none rfl a ha).trans hon.symm) (And.intro (fun _ => ?_) (fun h => by rw [hon] at h; cases h))
    have hF := fr_next (rfl) ((hx 3 (by kernel_rfl)).trans (by kernel_rfl : (_ : Value) = .func (.func 33) #[] #[]))
    refine ls_fr hF ?_
    refine ls_val (v := .func (.func 33) #[] #[]) rfl rfl (by kernel_rfl) (fun w => by kernel_rfl) ?_
    exact ls_fin s0 (.func (.func 33) #[] #[]) (congrArg (fun z => upd z 4 _) hF.symm) ⟨rfl, rfl⟩ (sub_nil _)
  obtain ⟨s3_1, hs3_1⟩ : ∃ z : Value → Sto → Prop, z = (fun v R => v = .pointer (some ⟨g1, (0 + 1), none⟩) ∧ R = s0) := ⟨_, rfl⟩
  refine have_op (l := [_, _, _, _, _, _, _, _, _, _, _, _, _, _, _, _, _, _, _]) pointer_Right.tab1 1 1 (fun sp => sp 1 = s3_1) (fun sp on hA hon => ?_) (fun ops3_1 => ?_)
  · refine ⟨fun o ho vs Rs f' S' w hp hf hx hS hR hs => ?_⟩
    obtain rfl := Option.some.inj ho
    rw [hA, hs3_1]
    refine And.intro (fun a ha => (want_none rfl a ha).trans hon.symm) (And.intro (fun _ => ?_) (fun h => by rw [hon] at h; cases h))
    have hF := fr_next (rfl) ((hx 1 (by kernel_rfl)).trans (by kernel_rfl : (_ : Value) = .pointer (some ⟨g1, 0, none⟩)))
    refine ls_fr hF ?_
    refine ls_val (v := .pointer (some ⟨g1, (0 + 1), none⟩)) rfl rfl (by kernel_rfl) (fun w => by kernel_rfl) ?_
    exact ls_fin s0 (.pointer (some ⟨g1, (0 + 1), none⟩)) (congrArg (fun z => upd z 5 _) hF.symm) ⟨rfl, rfl⟩ (sub_nil _)
  obtain ⟨s3_2, hs3_2⟩ : ∃ z : Value → Sto → Prop, z = (fun v R => v = .int .i64 a0.2.1 ∧ R = s0) := ⟨_, rfl⟩
  refine have_op (l := [_, _, _, _, _, _, _, _, _, _, _, _, _, _, _, _, _, _, _]) pointer_Right.tab1 1 2 (fun sp => sp 2 = s3_2 ∧ sp 1 = s3_1) (fun sp on hA hon => ?_) (fun ops3_2 => ?_)
  · refine ⟨fun o ho vs Rs f' S' w hp hf hx hS hR hs => ?_⟩
    obtain rfl := Option.some.inj ho
    obtain ⟨hv1, hR1⟩ := (spe hA.2 hs3_1 (hp 1 (by kernel_rfl)))
    rw [hA.1, hs3_2]
    refine And.intro (fun a ha => (want_none rfl a ha).trans hon.symm) (And.intro (fun _ => ?_) (fun h => by rw [hon] at h; cases h))
    have hF := fr_next (rfl) ((hf 1 5 (by kernel_rfl) rfl).trans hv1)
    refine ls_fr hF ?_
    refine ls_load (a0 := ⟨g1, (0 + 1), none⟩) (v := .int .i64 a0.2.1) (de := (TypeDesc.int .i64)) rfl rfl (by kernel_rfl) rfl (by kernel_rfl) (by kernel_rfl) (by kernel_rfl) (fun w1 hs1 => cell_step hs1.below.bw (hs.var (k := 0) ((hS 0 (by kernel_rfl)).trans (by exact rfl)) (Sub4.trans (Sub4.all _) (Sub4.skip (n := 1) (len1 _) (Sub4.head _ _))))) ?_
    exact ls_fin s0 (.int .i64 a0.2.1) (congrArg (fun z => upd z 6 _) hF.symm) ⟨rfl, rfl⟩ (sub_nil _)
  obtain ⟨t4, hc5, H⟩ := bind_some H
  obtain ⟨s3_3, hs3_3⟩ : ∃ z : Value → Sto → Prop, z = (fun v R => ∃ x6 : Unit, v = .bool t4 ∧ R = stl []) := ⟨_, rfl⟩
  refine have_op (l := [_, _, _, _, _, _, _, _, _, _, _, _, _, _, _, _, _, _, _]) pointer_Right.tab1 1 3 (fun sp => sp 3 = s3_3 ∧ sp 0 = s3_0 ∧ sp 2 = s3_2) (fun sp on hA hon => ?_) (fun ops3_3 => ?_)
  · refine ⟨fun o ho vs Rs f' S' w hp hf hx hS hR hs => ?_⟩
    obtain rfl := Option.some.inj ho
    obtain ⟨hv0, hR0⟩ := (spe hA.2.1 hs3_0 (hp 0 (by kernel_rfl)))
    obtain ⟨hv2, hR2⟩ := (spe hA.2.2 hs3_2 (hp 2 (by kernel_rfl)))
    rw [hA.1, hs3_3]
    refine And.intro (fun a ha => (want_none rfl a ha).trans hon.symm) (And.intro (fun _ => ?_) (fun h => by rw [hon] at h; cases h))
    have hF := fr_next (fr_next (rfl) ((hf 0 4 (by kernel_rfl) rfl).trans hv0)) ((hf 2 6 (by kernel_rfl) rfl).trans hv2)
    refine ls_fr hF ?_
    refine ls_call (fid := 33) (vals := #[.int .i64 a0.2.1, .int .i64 (1 : Int), .int .i64 (1152921504606846976 : Int)]) (X := Unit) (fun x => .bool t4) (fun x => stl []) 0 rfl rfl (by kernel_rfl) (fun w => by kernel_rfl) (fun w1 hs1 => pointer_Right_1.calls k a0.2.1 (1 : Int) (1152921504606846976 : Int) t4 (bw w1) (St.refl w1)  hc5) ?_
    intro x6
    exact ls_fin (stl []) (.bool t4) (congrArg (fun z => upd z 7 _) hF.symm) ⟨x6, rfl, rfl⟩ (sub_join _)
  obtain ⟨s3_4, hs3_4⟩ : ∃ z : Value → Sto → Prop, z = (fun v R => v = .bool t4 ∧ R = s0) := ⟨_, rfl⟩
  refine have_op (l := [_, _, _, _, _, _, _, _, _, _, _, _, _, _, _, _, _, _, _]) pointer_Right.tab1 1 4 (fun sp => sp 4 = s3_4 ∧ sp 3 = s3_3) (fun sp on hA hon => ?_) (fun ops3_4 => ?_)
  · refine ⟨fun o ho vs Rs f' S' w hp hf hx hS hR hs => ?_⟩
    obtain rfl := Option.some.inj ho
    obtain ⟨x6, hv3, hR3⟩ := (spe hA.2 hs3_3 (hp 3 (by kernel_rfl)))
    rw [hA.1, hs3_4]
    refine And.intro (fun a ha => (want_none rfl a ha).trans hon.symm) (And.intro (fun _ => ?_) (fun h => by rw [hon] at h; cases h))
    have hF := fr_next (rfl) ((hf 3 7 (by kernel_rfl) rfl).trans hv3)
    refine ls_fr hF ?_
    refine ls_val (v := .bool t4) rfl rfl (by kernel_rfl) (fun w => by kernel_rfl) ?_
    exact ls_fin s0 (.bool t4) (congrArg (fun z => upd z 8 _) hF.symm) ⟨rfl, rfl⟩ (sub_nil _)
  by_cases q7 : t4 = true
  · replace H := ite_t q7 H
    obtain ⟨s3_5, hs3_5⟩ : ∃ z : Value → Sto → Prop, z = (fun v R => v = .agg ⟨([Value.int .i64 a0.1] ++ ([Value.int .i64 a0.2.1] ++ ([Value.int .i64 a0.2.2.1] ++ ([Value.int .u32 a0.2.2.2.1] ++ en (Value.int .u8) a0.2.2.2.2.1))))⟩ ∧ R = s0) := ⟨_, rfl⟩
    refine have_op (l := [_, _, _, _, _, _, _, _, _, _, _, _, _, _, _, _, _, _, _]) pointer_Right.tab1 1 5 (fun sp => sp 5 = s3_5 ∧ sp 4 = s3_4) (fun sp on hA hon => ?_) (fun ops3_5 => ?_)
    · refine ⟨fun o ho vs Rs f' S' w hp hf hx hS hR hs => ?_⟩
      obtain rfl := Option.some.inj ho
      obtain ⟨hv4, hR4⟩ := (spe hA.2 hs3_4 (hp 4 (by kernel_rfl)))
      rw [hA.1, hs3_5]
      refine And.intro (fun a ha => (want_is (j := 4) (t := 8) (r := true) rfl rfl (by kernel_rfl) (((hf 4 8 (by kernel_rfl) rfl).trans hv4).trans (congrArg Value.bool (show t4 = true from q7))) rfl a ha).trans hon.symm) (And.intro (fun _ => ?_) (fun h => by rw [hon] at h; cases h))
      have hF := fr_next (fr_next (rfl) ((hx 1 (by kernel_rfl)).trans (by kernel_rfl : (_ : Value) = .pointer (some ⟨g1, 0, none⟩)))) (((hf 4 8 (by kernel_rfl) rfl).trans hv4).trans (congrArg Value.bool (show t4 = true from q7)))
      refine ls_fr hF ?_
      refine ls_loadagg (a := ⟨g1, 0, none⟩) (sub := ([Value.int .i64 a0.1] ++ ([Value.int .i64 a0.2.1] ++ ([Value.int .i64 a0.2.2.1] ++ ([Value.int .u32 a0.2.2.2.1] ++ en (Value.int .u8) a0.2.2.2.2.1))))) rfl rfl (by kernel_rfl) rfl (by kernel_rfl) (by kernel_rfl) (by kernel_rfl) (len_app (len1 _) (len_app (len1 _) (len_app (len1 _) (len_app (len1 _) (len_en _ a0.2.2.2.2))))) (fun w1 hs1 => Rd.step (hs.vars (k := 0) ((hS 0 (by kernel_rfl)).trans (by exact rfl)) (Sub4.all _)) hs1.below.bw) ?_
      exact ls_fin s0 (.agg ⟨([Value.int .i64 a0.1] ++ ([Value.int .i64 a0.2.1] ++ ([Value.int .i64 a0.2.2.1] ++ ([Value.int .u32 a0.2.2.2.1] ++ en (Value.int .u8) a0.2.2.2.2.1))))⟩) (congrArg (fun z => upd z 9 _) hF.symm) ⟨rfl, rfl⟩ (sub_nil _)
    obtain ⟨t8, hc9, H⟩ := bind_some H
    obtain ⟨s3_6, hs3_6⟩ : ∃ z : Value → Sto → Prop, z = (fun v R => ∃ x10 : Unit, v = .int .i64 t8 ∧ R = stl []) := ⟨_, rfl⟩
    refine have_op (l := [_, _, _, _, _, _, _, _, _, _, _, _, _, _, _, _, _, _, _]) pointer_Right.tab1 1 6 (fun sp => sp 6 = s3_6 ∧ sp 4 = s3_4 ∧ sp 5 = s3_5) (fun sp on hA hon => ?_) (fun ops3_6 => ?_)
    · refine ⟨fun o ho vs Rs f' S' w hp hf hx hS hR hs => ?_⟩
      obtain rfl := Option.some.inj ho
      obtain ⟨hv4, hR4⟩ := (spe hA.2.1 hs3_4 (hp 4 (by kernel_rfl)))
      obtain ⟨hv5, hR5⟩ := (spe hA.2.2 hs3_5 (hp 5 (by kernel_rfl)))
      rw [hA.1, hs3_6]
      refine And.intro (fun a ha => (want_is (j := 4) (t := 8) (r := true) rfl rfl (by kernel_rfl) (((hf 4 8 (by kernel_rfl) rfl).trans hv4).trans (congrArg Value.bool (show t4 = true from q7))) rfl a ha).trans hon.symm) (And.intro (fun _ => ?_) (fun h => by rw [hon] at h; cases h))
      have hF := fr_next (fr_next (rfl) (((hf 4 8 (by kernel_rfl) rfl).trans hv4).trans (congrArg Value.bool (show t4 = true from q7)))) ((hf 5 9 (by kernel_rfl) rfl).trans hv5)
      refine ls_fr hF ?_
      refine ls_call (fid := 16) (vals := #[.agg ⟨([Value.int .i64 a0.1] ++ ([Value.int .i64 a0.2.1] ++ ([Value.int .i64 a0.2.2.1] ++ ([Value.int .u32 a0.2.2.2.1] ++ en (Value.int .u8) a0.2.2.2.2.1))))⟩]) (X := Unit) (fun x => .int .i64 t8) (fun x => stl []) 0 rfl rfl (by kernel_rfl) (fun w => by kernel_rfl) (fun w1 hs1 => pointer_Sectors.calls k a0 t8 (bw w1) (St.refl w1)  hc9) ?_
      intro x10
      exact ls_fin (stl []) (.int .i64 t8) (congrArg (fun z => upd z 10 _) hF.symm) ⟨x10, rfl, rfl⟩ (sub_join _)
    obtain ⟨s3_7, hs3_7⟩ : ∃ z : Value → Sto → Prop, z = (fun v R => v = .bool (decide (t8 > (0 : Int))) ∧ R = s0) := ⟨_, rfl⟩
    refine have_op (l := [_, _, _, _, _, _, _, _, _, _, _, _, _, _, _, _, _, _, _]) pointer_Right.tab1 1 7 (fun sp => sp 7 = s3_7 ∧ sp 4 = s3_4 ∧ sp 6 = s3_6) (fun sp on hA hon => ?_) (fun ops3_7 => ?_)
    · refine ⟨fun o ho vs Rs f' S' w hp hf hx hS hR hs => ?_⟩
      obtain rfl := Option.some.inj ho
      obtain ⟨hv4, hR4⟩ := (spe hA.2.1 hs3_4 (hp 4 (by kernel_rfl)))
      obtain ⟨x10, hv6, hR6⟩ := (spe hA.2.2 hs3_6 (hp 6 (by kernel_rfl)))
      rw [hA.1, hs3_7]
      refine And.intro (fun a ha => (want_is (j := 4) (t := 8) (r := true) rfl rfl (by kernel_rfl) (((hf 4 8 (by kernel_rfl) rfl).trans hv4).trans (congrArg Value.bool (show t4 = true from q7))) rfl a ha).trans hon.symm) (And.intro (fun _ => ?_) (fun h => by rw [hon] at h; cases h))
      have hF := fr_next (fr_next (rfl) (((hf 4 8 (by kernel_rfl) rfl).trans hv4).trans (congrArg Value.bool (show t4 = true from q7)))) ((hf 6 10 (by kernel_rfl) rfl).trans hv6)
      refine ls_fr hF ?_
      refine ls_val (v := .bool (decide (t8 > (0 : Int)))) rfl rfl (by kernel_rfl) (fun w => by kernel_rfl) ?_
      exact ls_fin s0 (.bool (decide (t8 > (0 : Int)))) (congrArg (fun z => upd z 11 _) hF.symm) ⟨rfl, rfl⟩ (sub_nil _)
    obtain ⟨s3_8, hs3_8⟩ : ∃ z : Value → Sto → Prop, z = (fun v R => v = .bool (decide (t8 > (0 : Int))) ∧ R = s0) := ⟨_, rfl⟩
    refine have_op (l := [_, _, _, _, _, _, _, _, _, _, _, _, _, _, _, _, _, _, _]) pointer_Right.tab1 1 8 (fun sp => sp 8 = s3_8 ∧ sp 4 = s3_4 ∧ sp 7 = s3_7) (fun sp on hA hon => ?_) (fun ops3_8 => ?_)
    · refine ⟨fun o ho vs Rs f' S' w hp hf hx hS hR hs => ?_⟩
      obtain rfl := Option.some.inj ho
      obtain ⟨hv4, hR4⟩ := (spe hA.2.1 hs3_4 (hp 4 (by kernel_rfl)))
      obtain ⟨hv7, hR7⟩ := (spe hA.2.2 hs3_7 (hp 7 (by kernel_rfl)))
      rw [hA.1, hs3_8]
      refine And.intro (fun a ha => (want_none rfl a ha).trans hon.symm) (And.intro (fun _ => ?_) (fun h => by rw [hon] at h; cases h))
      have hF := fr_next (fr_next (rfl) (((hf 4 8 (by kernel_rfl) rfl).trans hv4).trans (congrArg Value.bool (show t4 = true from q7)))) ((hf 7 11 (by kernel_rfl) rfl).trans hv7)
      refine ls_fr hF ?_
      refine ls_val (v := .bool (decide (t8 > (0 : Int)))) rfl rfl (by kernel_rfl) (fun w => by kernel_rfl) ?_
      exact ls_fin s0 (.bool (decide (t8 > (0 : Int)))) (congrArg (fun z => upd z 12 _) hF.symm) ⟨rfl, rfl⟩ (sub_nil _)
    obtain ⟨s3_9, hs3_9⟩ : ∃ z : Value → Sto → Prop, z = (fun v R => v = .bool (decide (t8 > (0 : Int))) ∧ R = s0) := ⟨_, rfl⟩
    refine have_op (l := [_, _, _, _, _, _, _, _, _, _, _, _, _, _, _, _, _, _, _]) pointer_Right.tab1 1 9 (fun sp => sp 9 = s3_9 ∧ sp 8 = s3_8) (fun sp on hA hon => ?_) (fun ops3_9 => ?_)
    · refine ⟨fun o ho vs Rs f' S' w hp hf hx hS hR hs => ?_⟩
      obtain rfl := Option.some.inj ho
      obtain ⟨hv8, hR8⟩ := (spe hA.2 hs3_8 (hp 8 (by kernel_rfl)))
      rw [hA.1, hs3_9]
      refine And.intro (fun a ha => (want_none rfl a ha).trans hon.symm) (And.intro (fun _ => ?_) (fun h => by rw [hon] at h; cases h))
      have hF := fr_next (rfl) ((hf 8 12 (by kernel_rfl) rfl).trans hv8)
      refine ls_fr hF ?_
      refine ls_val (v := .bool (decide (t8 > (0 : Int)))) rfl rfl (by kernel_rfl) (fun w => by kernel_rfl) ?_
      exact ls_fin s0 (.bool (decide (t8 > (0 : Int)))) (congrArg (fun z => upd z 13 _) hF.symm) ⟨rfl, rfl⟩ (sub_nil _)
    by_cases q11 : t8 > (0 : Int)
    · replace H := ite_t q11 H
      obtain ⟨s3_10, hs3_10⟩ : ∃ z : Value → Sto → Prop, z = (fun v R => v = .func (.func 33) #[] #[] ∧ R = s0) := ⟨_, rfl⟩
      refine have_op (l := [_, _, _, _, _, _, _, _, _, _, _, _, _, _, _, _, _, _, _]) pointer_Right.tab1 1 10 (fun sp => sp 10 = s3_10 ∧ sp 9 = s3_9) (fun sp on hA hon => ?_) (fun ops3_10 => ?_)
      · refine ⟨fun o ho vs Rs f' S' w hp hf hx hS hR hs => ?_⟩
        obtain rfl := Option.some.inj ho
        obtain ⟨hv9, hR9⟩ := (spe hA.2 hs3_9 (hp 9 (by kernel_rfl)))
        rw [hA.1, hs3_10]
        refine And.intro (fun a ha => (want_is (j := 9) (t := 13) (r := true) rfl rfl (by kernel_rfl) (((hf 9 13 (by kernel_rfl) rfl).trans hv9).trans (congrArg Value.bool (show (decide (t8 > (0 : Int))) = true from dec_t q11))) rfl a ha).trans hon.symm) (And.intro (fun _ => ?_) (fun h => by rw [hon] at h; cases h))
        have hF := fr_next (fr_next (rfl) ((hx 3 (by kernel_rfl)).trans (by kernel_rfl : (_ : Value) = .func (.func 33) #[] #[]))) (((hf 9 13 (by kernel_rfl) rfl).trans hv9).trans (congrArg Value.bool (show (decide (t8 > (0 : Int))) = true from dec_t q11)))
        refine ls_fr hF ?_
        refine ls_val (v := .func (.func 33) #[] #[]) rfl rfl (by kernel_rfl) (fun w => by kernel_rfl) ?_
        exact ls_fin s0 (.func (.func 33) #[] #[]) (congrArg (fun z => upd z 14 _) hF.symm) ⟨rfl, rfl⟩ (sub_nil _)
      obtain ⟨s3_11, hs3_11⟩ : ∃ z : Value → Sto → Prop, z = (fun v R => v = .pointer (some ⟨g1, (0 + 0), none⟩) ∧ R = s0) := ⟨_, rfl⟩
      refine have_op (l := [_, _, _, _, _, _, _, _, _, _, _, _, _, _, _, _, _, _, _]) pointer_Right.tab1 1 11 (fun sp => sp 11 = s3_11 ∧ sp 9 = s3_9) (fun sp on hA hon => ?_) (fun ops3_11 => ?_)
      · refine ⟨fun o ho vs Rs f' S' w hp hf hx hS hR hs => ?_⟩
        obtain rfl := Option.some.inj ho
        obtain ⟨hv9, hR9⟩ := (spe hA.2 hs3_9 (hp 9 (by kernel_rfl)))
        rw [hA.1, hs3_11]
        refine And.intro (fun a ha => (want_is (j := 9) (t := 13) (r := true) rfl rfl (by kernel_rfl) (((hf 9 13 (by kernel_rfl) rfl).trans hv9).trans (congrArg Value.bool (show (decide (t8 > (0 : Int))) = true from dec_t q11))) rfl a ha).trans hon.symm) (And.intro (fun _ => ?_) (fun h => by rw [hon] at h; cases h))
        have hF := fr_next (fr_next (rfl) ((hx 1 (by kernel_rfl)).trans (by kernel_rfl : (_ : Value) = .pointer (some ⟨g1, 0, none⟩)))) (((hf 9 13 (by kernel_rfl) rfl).trans hv9).trans (congrArg Value.bool (show (decide (t8 > (0 : Int))) = true from dec_t q11)))
        refine ls_fr hF ?_
        refine ls_val (v := .pointer (some ⟨g1, (0 + 0), none⟩)) rfl rfl (by kernel_rfl) (fun w => by kernel_rfl) ?_
        exact ls_fin s0 (.pointer (some ⟨g1, (0 + 0), none⟩)) (congrArg (fun z => upd z 15 _) hF.symm) ⟨rfl, rfl⟩ (sub_nil _)
      obtain ⟨s3_12, hs3_12⟩ : ∃ z : Value → Sto → Prop, z = (fun v R => v = .int .i64 a0.1 ∧ R = s0) := ⟨_, rfl⟩
      refine have_op (l := [_, _, _, _, _, _, _, _, _, _, _, _, _, _, _, _, _, _, _]) pointer_Right.tab1 1 12 (fun sp => sp 12 = s3_12 ∧ sp 9 = s3_9 ∧ sp 11 = s3_11) (fun sp on hA hon => ?_) (fun ops3_12 => ?_)
      · refine ⟨fun o ho vs Rs f' S' w hp hf hx hS hR hs => ?_⟩
        obtain rfl := Option.some.inj ho
        obtain ⟨hv9, hR9⟩ := (spe hA.2.1 hs3_9 (hp 9 (by kernel_rfl)))
        obtain ⟨hv11, hR11⟩ := (spe hA.2.2 hs3_11 (hp 11 (by kernel_rfl)))
        rw [hA.1, hs3_12]
        refine And.intro (fun a ha => (want_is (j := 9) (t := 13) (r := true) rfl rfl (by kernel_rfl) (((hf 9 13 (by kernel_rfl) rfl).trans hv9).trans (congrArg Value.bool (show (decide (t8 > (0 : Int))) = true from dec_t q11))) rfl a ha).trans hon.symm) (And.intro (fun _ => ?_) (fun h => by rw [hon] at h; cases h))
        have hF := fr_next (fr_next (rfl) (((hf 9 13 (by kernel_rfl) rfl).trans hv9).trans (congrArg Value.bool (show (decide (t8 > (0 : Int))) = true from dec_t q11)))) ((hf 11 15 (by kernel_rfl) rfl).trans hv11)
        refine ls_fr hF ?_
        refine ls_load (a0 := ⟨g1, (0 + 0), none⟩) (v := .int .i64 a0.1) (de := (TypeDesc.int .i64)) rfl rfl (by kernel_rfl) rfl (by kernel_rfl) (by kernel_rfl) (by kernel_rfl) (fun w1 hs1 => cell_step hs1.below.bw (hs.var (k := 0) ((hS 0 (by kernel_rfl)).trans (by exact rfl)) (Sub4.trans (Sub4.all _) (Sub4.head _ _)))) ?_
        exact ls_fin s0 (.int .i64 a0.1) (congrArg (fun z => upd z 16 _) hF.symm) ⟨rfl, rfl⟩ (sub_nil _)
      obtain ⟨s3_13, hs3_13⟩ : ∃ z : Value → Sto → Prop, z = (fun v R => v = .agg ⟨([Value.int .i64 a0.1] ++ ([Value.int .i64 a0.2.1] ++ ([Value.int .i64 a0.2.2.1] ++ ([Value.int .u32 a0.2.2.2.1] ++ en (Value.int .u8) a0.2.2.2.2.1))))⟩ ∧ R = s0) := ⟨_, rfl⟩
      refine have_op (l := [_, _, _, _, _, _, _, _, _, _, _, _, _, _, _, _, _, _, _]) pointer_Right.tab1 1 13 (fun sp => sp 13 = s3_13 ∧ sp 9 = s3_9) (fun sp on hA hon => ?_) (fun ops3_13 => ?_)
      · refine ⟨fun o ho vs Rs f' S' w hp hf hx hS hR hs => ?_⟩
        obtain rfl := Option.some.inj ho
        obtain ⟨hv9, hR9⟩ := (spe hA.2 hs3_9 (hp 9 (by kernel_rfl)))
        rw [hA.1, hs3_13]
        refine And.intro (fun a ha => (want_is (j := 9) (t := 13) (r := true) rfl rfl (by kernel_rfl) (((hf 9 13 (by kernel_rfl) rfl).trans hv9).trans (congrArg Value.bool (show (decide (t8 > (0 : Int))) = true from dec_t q11))) rfl a ha).trans hon.symm) (And.intro (fun _ => ?_) (fun h => by rw [hon] at h; cases h))
        have hF := fr_next (fr_next (rfl) ((hx 1 (by kernel_rfl)).trans (by kernel_rfl : (_ : Value) = .pointer (some ⟨g1, 0, none⟩)))) (((hf 9 13 (by kernel_rfl) rfl).trans hv9).trans (congrArg Value.bool (show (decide (t8 > (0 : Int))) = true from dec_t q11)))
        refine ls_fr hF ?_
        refine ls_loadagg (a := ⟨g1, 0, none⟩) (sub := ([Value.int .i64 a0.1] ++ ([Value.int .i64 a0.2.1] ++ ([Value.int .i64 a0.2.2.1] ++ ([Value.int .u32 a0.2.2.2.1] ++ en (Value.int .u8) a0.2.2.2.2.1))))) rfl rfl (by kernel_rfl) rfl (by kernel_rfl) (by kernel_rfl) (by kernel_rfl) (len_app (len1 _) (len_app (len1 _) (len_app (len1 _) (len_app (len1 _) (len_en _ a0.2.2.2.2))))) (fun w1 hs1 => Rd.step (hs.vars (k := 0) ((hS 0 (by kernel_rfl)).trans (by exact rfl)) (Sub4.all _)) hs1.below.bw) ?_
        exact ls_fin s0 (.agg ⟨([Value.int .i64 a0.1] ++ ([Value.int .i64 a0.2.1] ++ ([Value.int .i64 a0.2.2.1] ++ ([Value.int .u32 a0.2.2.2.1] ++ en (Value.int .u8) a0.2.2.2.2.1))))⟩) (congrArg (fun z => upd z 17 _) hF.symm) ⟨rfl, rfl⟩ (sub_nil _)
      obtain ⟨t12, hc13, H⟩ := bind_some H
      obtain ⟨s3_14, hs3_14⟩ : ∃ z : Value → Sto → Prop, z = (fun v R => ∃ x14 : Unit, v = .int .i64 t12 ∧ R = stl []) := ⟨_, rfl⟩
      refine have_op (l := [_, _, _, _, _, _, _, _, _, _, _, _, _, _, _, _, _, _, _]) pointer_Right.tab1 1 14 (fun sp => sp 14 = s3_14 ∧ sp 9 = s3_9 ∧ sp 13 = s3_13) (fun sp on hA hon => ?_) (fun ops3_14 => ?_)
      · refine ⟨fun o ho vs Rs f' S' w hp hf hx hS hR hs => ?_⟩
        obtain rfl := Option.some.inj ho
        obtain ⟨hv9, hR9⟩ := (spe hA.2.1 hs3_9 (hp 9 (by kernel_rfl)))
        obtain ⟨hv13, hR13⟩ := (spe hA.2.2 hs3_13 (hp 13 (by kernel_rfl)))
        rw [hA.1, hs3_14]
        refine And.intro (fun a ha => (want_is (j := 9) (t := 13) (r := true) rfl rfl (by kernel_rfl) (((hf 9 13 (by kernel_rfl) rfl).trans hv9).trans (congrArg Value.bool (show (decide (t8 > (0 : Int))) = true from dec_t q11))) rfl a ha).trans hon.symm) (And.intro (fun _ => ?_) (fun h => by rw [hon] at h; cases h))
        have hF := fr_next (fr_next (rfl) (((hf 9 13 (by kernel_rfl) rfl).trans hv9).trans (congrArg Value.bool (show (decide (t8 > (0 : Int))) = true from dec_t q11)))) ((hf 13 17 (by kernel_rfl) rfl).trans hv13)
        refine ls_fr hF ?_
        refine ls_call (fid := 16) (vals := #[.agg ⟨([Value.int .i64 a0.1] ++ ([Value.int .i64 a0.2.1] ++ ([Value.int .i64 a0.2.2.1] ++ ([Value.int .u32 a0.2.2.2.1] ++ en (Value.int .u8) a0.2.2.2.2.1))))⟩]) (X := Unit) (fun x => .int .i64 t12) (fun x => stl []) 0 rfl rfl (by kernel_rfl) (fun w => by kernel_rfl) (fun w1 hs1 => pointer_Sectors.calls k a0 t12 (bw w1) (St.refl w1)  hc13) ?_
        intro x14
        exact ls_fin (stl []) (.int .i64 t12) (congrArg (fun z => upd z 18 _) hF.symm) ⟨x14, rfl, rfl⟩ (sub_join _)
      obtain ⟨s3_15, hs3_15⟩ : ∃ z : Value → Sto → Prop, z = (fun v R => v = .int .i64 (IntKind.wrap .i64 ((8192 : Int) - t12)) ∧ R = s0) := ⟨_, rfl⟩
      refine have_op (l := [_, _, _, _, _, _, _, _, _, _, _, _, _, _, _, _, _, _, _]) pointer_Right.tab1 1 15 (fun sp => sp 15 = s3_15 ∧ sp 9 = s3_9 ∧ sp 14 = s3_14) (fun sp on hA hon => ?_) (fun ops3_15 => ?_)
      · refine ⟨fun o ho vs Rs f' S' w hp hf hx hS hR hs => ?_⟩
        obtain rfl := Option.some.inj ho
        obtain ⟨hv9, hR9⟩ := (spe hA.2.1 hs3_9 (hp 9 (by kernel_rfl)))
        obtain ⟨x14, hv14, hR14⟩ := (spe hA.2.2 hs3_14 (hp 14 (by kernel_rfl)))
        rw [hA.1, hs3_15]
        refine And.intro (fun a ha => (want_is (j := 9) (t := 13) (r := true) rfl rfl (by kernel_rfl) (((hf 9 13 (by kernel_rfl) rfl).trans hv9).trans (congrArg Value.bool (show (decide (t8 > (0 : Int))) = true from dec_t q11))) rfl a ha).trans hon.symm) (And.intro (fun _ => ?_) (fun h => by rw [hon] at h; cases h))
        have hF := fr_next (fr_next (rfl) (((hf 9 13 (by kernel_rfl) rfl).trans hv9).trans (congrArg Value.bool (show (decide (t8 > (0 : Int))) = true from dec_t q11)))) ((hf 14 18 (by kernel_rfl) rfl).trans hv14)
        refine ls_fr hF ?_
        refine ls_val (v := .int .i64 (IntKind.wrap .i64 ((8192 : Int) - t12))) rfl rfl (by kernel_rfl) (fun w => by kernel_rfl) ?_
        exact ls_fin s0 (.int .i64 (IntKind.wrap .i64 ((8192 : Int) - t12))) (congrArg (fun z => upd z 19 _) hF.symm) ⟨rfl, rfl⟩ (sub_nil _)
      refine cs_draw pointer_Right.tab1 16 1 (spl [s3_0, s3_1, s3_2, s3_3, s3_4, s3_5, s3_6, s3_7, s3_8, s3_9, s3_10, s3_11, s3_12, s3_13, s3_14, s3_15]) (onl [true, true, true, true, true, true, true, true, true, true, true, true, true, true, true, true]) (by kernel_rfl) (by kernel_rfl) (by kernel_rfl) (by kernel_rfl) (rs := [_, _, _]) rfl (by kernel_rfl) (by kernel_rfl) (all_snoc (all_snoc (all_snoc (all_snoc (all_snoc (all_snoc (all_snoc (all_snoc (all_snoc (all_snoc (all_snoc (all_snoc (all_snoc (all_snoc (all_snoc (all_snoc (all_nil) (ops3_0 _ _ rfl rfl)) (ops3_1 _ _ rfl rfl)) (ops3_2 _ _ ⟨rfl, rfl⟩ rfl)) (ops3_3 _ _ ⟨rfl, rfl, rfl⟩ rfl)) (ops3_4 _ _ ⟨rfl, rfl⟩ rfl)) (ops3_5 _ _ ⟨rfl, rfl⟩ rfl)) (ops3_6 _ _ ⟨rfl, rfl, rfl⟩ rfl)) (ops3_7 _ _ ⟨rfl, rfl, rfl⟩ rfl)) (ops3_8 _ _ ⟨rfl, rfl, rfl⟩ rfl)) (ops3_9 _ _ ⟨rfl, rfl⟩ rfl)) (ops3_10 _ _ ⟨rfl, rfl⟩ rfl)) (ops3_11 _ _ ⟨rfl, rfl⟩ rfl)) (ops3_12 _ _ ⟨rfl, rfl, rfl⟩ rfl)) (ops3_13 _ _ ⟨rfl, rfl⟩ rfl)) (ops3_14 _ _ ⟨rfl, rfl, rfl⟩ rfl)) (ops3_15 _ _ ⟨rfl, rfl, rfl⟩ rfl)) ?_
      intro vs Rs f' S' hp hf hx hS hR
      obtain ⟨x6, hv3, hR3⟩ := (spe rfl hs3_3 (hp 3 (by kernel_rfl)))
      obtain ⟨x10, hv6, hR6⟩ := (spe rfl hs3_6 (hp 6 (by kernel_rfl)))
      obtain ⟨hv9, hR9⟩ := (spe rfl hs3_9 (hp 9 (by kernel_rfl)))
      obtain ⟨hv10, hR10⟩ := (spe rfl hs3_10 (hp 10 (by kernel_rfl)))
      obtain ⟨hv12, hR12⟩ := (spe rfl hs3_12 (hp 12 (by kernel_rfl)))
      obtain ⟨x14, hv14, hR14⟩ := (spe rfl hs3_14 (hp 14 (by kernel_rfl)))
      obtain ⟨hv15, hR15⟩ := (spe rfl hs3_15 (hp 15 (by kernel_rfl)))
      refine ls_fr (F := upd (upd (upd (upd f' 13 (.bool (decide (t8 > (0 : Int))))) 14 (.func (.func 33) #[] #[])) 16 (.int .i64 a0.1)) 19 (.int .i64 (IntKind.wrap .i64 ((8192 : Int) - t12)))) (fr_next (fr_next (fr_next (fr_next (rfl) ((hf 9 13 (by kernel_rfl) rfl).trans hv9)) ((hf 10 14 (by kernel_rfl) rfl).trans hv10)) ((hf 12 16 (by kernel_rfl) rfl).trans hv12)) ((hf 15 19 (by kernel_rfl) rfl).trans hv15)) ?_
      refine ls_sub (s0) (sub_nil _) ?_
      refine ls_know (c := true) (dec_t q11) 13 (by kernel_rfl) ?_
      refine ls_on (j := 9) (t := 13) (b := true) rfl rfl (by kernel_rfl) (by kernel_rfl) ?_
      obtain ⟨t15, hc16, H⟩ := bind_some H
      refine ls_callb (fid := 33) (vals := #[.int .i64 a0.1, .int .i64 (2 : Int), .int .i64 (IntKind.wrap .i64 ((8192 : Int) - t12))]) (X := Unit) (fun x => .bool t15) (fun x => stl []) [] [] [] [] 129 rfl rfl (by kernel_rfl) (fun w => by kernel_rfl) trivial trivial (by decide) (fun w hs hb => pointer_Right_1.calls k a0.1 (2 : Int) (IntKind.wrap .i64 ((8192 : Int) - t12)) t15 (lent b w [] []) hb  hc16) ?_
      intro x17
      refine ls_val (v := .bool t15) rfl rfl (by kernel_rfl) (fun w => by kernel_rfl) ?_
      refine ls_val (v := .bool t15) rfl rfl (by kernel_rfl) (fun w => by kernel_rfl) ?_
      refine ls_end ?_
      refine qn_then ?_
      refine cs_ret' ?_
      obtain rfl := Option.some.inj H
      refine qr_res (rs := [_]) rfl (fun w' hs => ⟨[.bool t15], (res_tmp (by kernel_rfl) (.nil)), (), rfl, hs.pick (ts := []) (cs := []) trivial (by decide)⟩)
    · replace H := ite_f q11 H
      refine cs_draw pointer_Right.tab1 16 1 (spl [s3_0, s3_1, s3_2, s3_3, s3_4, s3_5, s3_6, s3_7, s3_8, s3_9, spu, spu, spu, spu, spu, spu]) (onl [true, true, true, true, true, true, true, true, true, true, false, false, false, false, false, false]) (by kernel_rfl) (by kernel_rfl) (by kernel_rfl) (by kernel_rfl) (rs := [_, _, _]) rfl (by kernel_rfl) (by kernel_rfl) (all_snoc (all_snoc (all_snoc (all_snoc (all_snoc (all_snoc (all_snoc (all_snoc (all_snoc (all_snoc (all_snoc (all_snoc (all_snoc (all_snoc (all_snoc (all_snoc (all_nil) (ops3_0 _ _ rfl rfl)) (ops3_1 _ _ rfl rfl)) (ops3_2 _ _ ⟨rfl, rfl⟩ rfl)) (ops3_3 _ _ ⟨rfl, rfl, rfl⟩ rfl)) (ops3_4 _ _ ⟨rfl, rfl⟩ rfl)) (ops3_5 _ _ ⟨rfl, rfl⟩ rfl)) (ops3_6 _ _ ⟨rfl, rfl, rfl⟩ rfl)) (ops3_7 _ _ ⟨rfl, rfl, rfl⟩ rfl)) (ops3_8 _ _ ⟨rfl, rfl, rfl⟩ rfl)) (ops3_9 _ _ ⟨rfl, rfl⟩ rfl)) (op_offi 10 9 13 true rfl rfl (by kernel_rfl) (by kernel_rfl) rfl (fun v R h => by rw [hs3_9] at h; obtain ⟨h, _⟩ := h; exact h.trans (congrArg Value.bool (show (decide (t8 > (0 : Int))) = false from dec_f q11))) rfl rfl)) (op_offi 11 9 13 true rfl rfl (by kernel_rfl) (by kernel_rfl) rfl (fun v R h => by rw [hs3_9] at h; obtain ⟨h, _⟩ := h; exact h.trans (congrArg Value.bool (show (decide (t8 > (0 : Int))) = false from dec_f q11))) rfl rfl)) (op_offi 12 9 13 true rfl rfl (by kernel_rfl) (by kernel_rfl) rfl (fun v R h => by rw [hs3_9] at h; obtain ⟨h, _⟩ := h; exact h.trans (congrArg Value.bool (show (decide (t8 > (0 : Int))) = false from dec_f q11))) rfl rfl)) (op_offi 13 9 13 true rfl rfl (by kernel_rfl) (by kernel_rfl) rfl (fun v R h => by rw [hs3_9] at h; obtain ⟨h, _⟩ := h; exact h.trans (congrArg Value.bool (show (decide (t8 > (0 : Int))) = false from dec_f q11))) rfl rfl)) (op_offi 14 9 13 true rfl rfl (by kernel_rfl) (by kernel_rfl) rfl (fun v R h => by rw [hs3_9] at h; obtain ⟨h, _⟩ := h; exact h.trans (congrArg Value.bool (show (decide (t8 > (0 : Int))) = false from dec_f q11))) rfl rfl)) (op_offi 15 9 13 true rfl rfl (by kernel_rfl) (by kernel_rfl) rfl (fun v R h => by rw [hs3_9] at h; obtain ⟨h, _⟩ := h; exact h.trans (congrArg Value.bool (show (decide (t8 > (0 : Int))) = false from dec_f q11))) rfl rfl)) ?_
      intro vs Rs f' S' hp hf hx hS hR
      obtain ⟨x6, hv3, hR3⟩ := (spe rfl hs3_3 (hp 3 (by kernel_rfl)))
      obtain ⟨x10, hv6, hR6⟩ := (spe rfl hs3_6 (hp 6 (by kernel_rfl)))
      obtain ⟨hv9, hR9⟩ := (spe rfl hs3_9 (hp 9 (by kernel_rfl)))
      obtain ⟨hv10, hR10⟩ := (spe rfl rfl (hp 10 (by kernel_rfl)) : spu _ _)
      obtain ⟨hv12, hR12⟩ := (spe rfl rfl (hp 12 (by kernel_rfl)) : spu _ _)
      obtain ⟨hv15, hR15⟩ := (spe rfl rfl (hp 15 (by kernel_rfl)) : spu _ _)
      refine ls_fr (F := upd f' 13 (.bool (decide (t8 > (0 : Int))))) (fr_next (rfl) ((hf 9 13 (by kernel_rfl) rfl).trans hv9)) ?_
      refine ls_sub (s0) (sub_nil _) ?_
      refine ls_know (c := false) (dec_f q11) 13 (by kernel_rfl) ?_
      refine ls_off (j := 9) (t := 13) (b := true) (c := false) rfl rfl (by kernel_rfl) (by kernel_rfl) rfl rfl (by kernel_rfl) ?_
      refine ls_val (v := .bool false) rfl rfl (by kernel_rfl) (fun w => by kernel_rfl) ?_
      refine ls_val (v := .bool false) rfl rfl (by kernel_rfl) (fun w => by kernel_rfl) ?_
      refine ls_end ?_
      refine qn_then ?_
      refine cs_ret' ?_
      obtain rfl := Option.some.inj H
      refine qr_res (rs := [_]) rfl (fun w' hs => ⟨[.bool false], (res_tmp (by kernel_rfl) (.nil)), (), rfl, hs.pick (ts := []) (cs := []) trivial (by decide)⟩)
  · replace H := ite_f q7 H
    obtain ⟨s3_8, hs3_8⟩ : ∃ z : Value → Sto → Prop, z = (fun v R => v = .bool false ∧ R = s0) := ⟨_, rfl⟩
    refine have_op (l := [_, _, _, _, _, _, _, _, _, _, _, _, _, _, _, _, _, _, _]) pointer_Right.tab1 1 8 (fun sp => sp 8 = s3_8 ∧ sp 4 = s3_4 ∧ sp 7 = spu) (fun sp on hA hon => ?_) (fun ops3_8 => ?_)
    · refine ⟨fun o ho vs Rs f' S' w hp hf hx hS hR hs => ?_⟩
      obtain rfl := Option.some.inj ho
      obtain ⟨hv4, hR4⟩ := (spe hA.2.1 hs3_4 (hp 4 (by kernel_rfl)))
      obtain ⟨hv7, hR7⟩ := (spe hA.2.2 rfl (hp 7 (by kernel_rfl)) : spu _ _)
      rw [hA.1, hs3_8]
      refine And.intro (fun a ha => (want_none rfl a ha).trans hon.symm) (And.intro (fun _ => ?_) (fun h => by rw [hon] at h; cases h))
      have hF := fr_next (fr_next (rfl) (((hf 4 8 (by kernel_rfl) rfl).trans hv4).trans (congrArg Value.bool (show t4 = false from Bool.eq_false_iff.mpr q7)))) ((hf 7 11 (by kernel_rfl) rfl).trans hv7)
      refine ls_fr hF ?_
      refine ls_val (v := .bool false) rfl rfl (by kernel_rfl) (fun w => by kernel_rfl) ?_
      exact ls_fin s0 (.bool false) (congrArg (fun z => upd z 12 _) hF.symm) ⟨rfl, rfl⟩ (sub_nil _)
    obtain ⟨s3_9, hs3_9⟩ : ∃ z : Value → Sto → Prop, z = (fun v R => v = .bool false ∧ R = s0) := ⟨_, rfl⟩
    refine have_op (l := [_, _, _, _, _, _, _, _, _, _, _, _, _, _, _, _, _, _, _]) pointer_Right.tab1 1 9 (fun sp => sp 9 = s3_9 ∧ sp 8 = s3_8) (fun sp on hA hon => ?_) (fun ops3_9 => ?_)
    · refine ⟨fun o ho vs Rs f' S' w hp hf hx hS hR hs => ?_⟩
      obtain rfl := Option.some.inj ho
      obtain ⟨hv8, hR8⟩ := (spe hA.2 hs3_8 (hp 8 (by kernel_rfl)))
      rw [hA.1, hs3_9]
      refine And.intro (fun a ha => (want_none rfl a ha).trans hon.symm) (And.intro (fun _ => ?_) (fun h => by rw [hon] at h; cases h))
      have hF := fr_next (rfl) ((hf 8 12 (by kernel_rfl) rfl).trans hv8)
      refine ls_fr hF ?_
      refine ls_val (v := .bool false) rfl rfl (by kernel_rfl) (fun w => by kernel_rfl) ?_
      exact ls_fin s0 (.bool false) (congrArg (fun z => upd z 13 _) hF.symm) ⟨rfl, rfl⟩ (sub_nil _)
    refine cs_draw pointer_Right.tab1 16 1 (spl [s3_0, s3_1, s3_2, s3_3, s3_4, spu, spu, spu, s3_8, s3_9, spu, spu, spu, spu, spu, spu]) (onl [true, true, true, true, true, false, false, false, true, true, false, false, false, false, false, false]) (by kernel_rfl) (by kernel_rfl) (by kernel_rfl) (by kernel_rfl) (rs := [_, _, _]) rfl (by kernel_rfl) (by kernel_rfl) (all_snoc (all_snoc (all_snoc (all_snoc (all_snoc (all_snoc (all_snoc (all_snoc (all_snoc (all_snoc (all_snoc (all_snoc (all_snoc (all_snoc (all_snoc (all_snoc (all_nil) (ops3_0 _ _ rfl rfl)) (ops3_1 _ _ rfl rfl)) (ops3_2 _ _ ⟨rfl, rfl⟩ rfl)) (ops3_3 _ _ ⟨rfl, rfl, rfl⟩ rfl)) (ops3_4 _ _ ⟨rfl, rfl⟩ rfl)) (op_offi 5 4 8 true rfl rfl (by kernel_rfl) (by kernel_rfl) rfl (fun v R h => by rw [hs3_4] at h; obtain ⟨h, _⟩ := h; exact h.trans (congrArg Value.bool (show t4 = false from Bool.eq_false_iff.mpr q7))) rfl rfl)) (op_offi 6 4 8 true rfl rfl (by kernel_rfl) (by kernel_rfl) rfl (fun v R h => by rw [hs3_4] at h; obtain ⟨h, _⟩ := h; exact h.trans (congrArg Value.bool (show t4 = false from Bool.eq_false_iff.mpr q7))) rfl rfl)) (op_offi 7 4 8 true rfl rfl (by kernel_rfl) (by kernel_rfl) rfl (fun v R h => by rw [hs3_4] at h; obtain ⟨h, _⟩ := h; exact h.trans (congrArg Value.bool (show t4 = false from Bool.eq_false_iff.mpr q7))) rfl rfl)) (ops3_8 _ _ ⟨rfl, rfl, rfl⟩ rfl)) (ops3_9 _ _ ⟨rfl, rfl⟩ rfl)) (op_offi 10 9 13 true rfl rfl (by kernel_rfl) (by kernel_rfl) rfl (fun v R h => by rw [hs3_9] at h; obtain ⟨h, _⟩ := h; exact h) rfl rfl)) (op_offi 11 9 13 true rfl rfl (by kernel_rfl) (by kernel_rfl) rfl (fun v R h => by rw [hs3_9] at h; obtain ⟨h, _⟩ := h; exact h) rfl rfl)) (op_offi 12 9 13 true rfl rfl (by kernel_rfl) (by kernel_rfl) rfl (fun v R h => by rw [hs3_9] at h; obtain ⟨h, _⟩ := h; exact h) rfl rfl)) (op_offi 13 9 13 true rfl rfl (by kernel_rfl) (by kernel_rfl) rfl (fun v R h => by rw [hs3_9] at h; obtain ⟨h, _⟩ := h; exact h) rfl rfl)) (op_offi 14 9 13 true rfl rfl (by kernel_rfl) (by kernel_rfl) rfl (fun v R h => by rw [hs3_9] at h; obtain ⟨h, _⟩ := h; exact h) rfl rfl)) (op_offi 15 9 13 true rfl rfl (by kernel_rfl) (by kernel_rfl) rfl (fun v R h => by rw [hs3_9] at h; obtain ⟨h, _⟩ := h; exact h) rfl rfl)) ?_
    intro vs Rs f' S' hp hf hx hS hR
    obtain ⟨x6, hv3, hR3⟩ := (spe rfl hs3_3 (hp 3 (by kernel_rfl)))
    obtain ⟨hv9, hR9⟩ := (spe rfl hs3_9 (hp 9 (by kernel_rfl)))
    obtain ⟨hv10, hR10⟩ := (spe rfl rfl (hp 10 (by kernel_rfl)) : spu _ _)
    obtain ⟨hv12, hR12⟩ := (spe rfl rfl (hp 12 (by kernel_rfl)) : spu _ _)
    obtain ⟨hv15, hR15⟩ := (spe rfl rfl (hp 15 (by kernel_rfl)) : spu _ _)
    refine ls_fr (F := upd f' 13 (.bool false)) (fr_next (rfl) ((hf 9 13 (by kernel_rfl) rfl).trans hv9)) ?_
    refine ls_sub (s0) (sub_nil _) ?_
    refine ls_off (j := 9) (t := 13) (b := true) (c := false) rfl rfl (by kernel_rfl) (by kernel_rfl) rfl rfl (by kernel_rfl) ?_
    refine ls_val (v := .bool false) rfl rfl (by kernel_rfl) (fun w => by kernel_rfl) ?_
    refine ls_val (v := .bool false) rfl rfl (by kernel_rfl) (fun w => by kernel_rfl) ?_
    refine ls_end ?_
    refine qn_then ?_
    refine cs_ret' ?_
    obtain rfl := Option.some.inj H
    refine qr_res (rs := [_]) rfl (fun w' hs => ⟨[.bool false], (res_tmp (by kernel_rfl) (.nil)), (), rfl, hs.pick (ts := []) (cs := []) trivial (by decide)⟩)

/-! ### (shadowbox/label.Label).right$1: function 54 -/
def label_Label_right_1.f (k : Nat) (a0 : Int) : Option (Bool) :=
  (if a0 ≥ (1 : Int) then some (decide (a0 ≤ (1152921504606846976 : Int))) else some false)
set_option maxRecDepth 100000 in
set_option maxHeartbeats 4000000 in
theorem label_Label_right_1.calls (k : Nat) (a0 : Int) (r : Bool) (b : Bs) (hs0 : St b (stl []) b.w) (H : label_Label_right_1.f k a0 = some r) :
    Calls Try.prog 54 #[.int .i64 a0] b.w fun e w' => ∃ x : Unit, e = .returned (.bool r) ∧ St b (stl []) w' := by
  unfold label_Label_right_1.f at H
  refine enterb (n := 9) Try.func54 rfl (by kernel_rfl) (by kernel_rfl) hs0 ?_
  refine cs_sub (s0) (sub_nil _) ?_
  refine cs_seq ?_
  refine cs_region (l := [_]) ?_
  refine ls_val (v := .bool false) rfl rfl (by kernel_rfl) (fun w => by kernel_rfl) ?_
  refine ls_end ?_
  refine qn_then ?_
  refine cs_seq ?_
  refine cs_region (l := [_, _, _, _, _, _, _]) ?_
  refine ls_val (v := .int .i64 a0) rfl rfl (by kernel_rfl) (fun w => by kernel_rfl) ?_
  refine ls_val (v := .bool (decide (a0 ≥ (1 : Int)))) rfl rfl (by kernel_rfl) (fun w => by kernel_rfl) ?_
  refine ls_val (v := .bool (decide (a0 ≥ (1 : Int)))) rfl rfl (by kernel_rfl) (fun w => by kernel_rfl) ?_
  by_cases q1 : a0 ≥ (1 : Int)
  · replace H := ite_t q1 H
    refine ls_know (c := true) (dec_t q1) 5 (by kernel_rfl) ?_
    refine ls_on (j := 2) (t := 5) (b := true) rfl rfl (by kernel_rfl) (by kernel_rfl) ?_
    refine ls_val (v := .int .i64 a0) rfl rfl (by kernel_rfl) (fun w => by kernel_rfl) ?_
    refine ls_on (j := 2) (t := 5) (b := true) rfl rfl (by kernel_rfl) (by kernel_rfl) ?_
    refine ls_val (v := .bool (decide (a0 ≤ (1152921504606846976 : Int)))) rfl rfl (by kernel_rfl) (fun w => by kernel_rfl) ?_
    refine ls_val (v := .bool (decide (a0 ≤ (1152921504606846976 : Int)))) rfl rfl (by kernel_rfl) (fun w => by kernel_rfl) ?_
    refine ls_val (v := .bool (decide (a0 ≤ (1152921504606846976 : Int)))) rfl rfl (by kernel_rfl) (fun w => by kernel_rfl) ?_
    refine ls_end ?_
    refine qn_then ?_
    refine cs_ret' ?_
    obtain rfl := Option.some.inj H
    refine qr_res (rs := [_]) rfl (fun w' hs => ⟨[.bool (decide (a0 ≤ (1152921504606846976 : Int)))], (res_tmp (by kernel_rfl) (.nil)), (), rfl, hs.pick (ts := []) (cs := []) trivial (by decide)⟩)
  · replace H := ite_f q1 H
    refine ls_know (c := false) (dec_f q1) 5 (by kernel_rfl) ?_
    refine ls_off (j := 2) (t := 5) (b := true) (c := false) rfl rfl (by kernel_rfl) (by kernel_rfl) rfl rfl (by kernel_rfl) ?_
    refine ls_off (j := 2) (t := 5) (b := true) (c := false) rfl rfl (by kernel_rfl) (by kernel_rfl) rfl rfl (by kernel_rfl) ?_
    refine ls_val (v := .bool false) rfl rfl (by kernel_rfl) (fun w => by kernel_rfl) ?_
    refine ls_val (v := .bool false) rfl rfl (by kernel_rfl) (fun w => by kernel_rfl) ?_
    refine ls_end ?_
    refine qn_then ?_
    refine cs_ret' ?_
    obtain rfl := Option.some.inj H
    refine qr_res (rs := [_]) rfl (fun w' hs => ⟨[.bool false], (res_tmp (by kernel_rfl) (.nil)), (), rfl, hs.pick (ts := []) (cs := []) trivial (by decide)⟩)

/-! ### (shadowbox/label.Label).right: function 40 -/
def label_Label_right.f (k : Nat) (a0 : (Int × (Int × Int × Int × Int × (Vc Int 32)) × Int)) : Option (Bool) :=
  (label_Label_right_1.f k a0.1).bind fun t2 => (if t2 = true then (label_Label_right_1.f k a0.2.2).bind fun t6 => (if t6 = true then (pointer_None.f k a0.2.1).bind fun t10 => (if t10 = true then some true else (pointer_Right.f k a0.2.1).bind fun t14 => (if t14 = true then some (decide (a0.2.1.2.1 ≤ a0.1)) else some false)) else some false) else some false)
set_option maxRecDepth 100000 in
set_option maxHeartbeats 4000000 in
theorem label_Label_right.calls (k : Nat) (a0 : (Int × (Int × Int × Int × Int × (Vc Int 32)) × Int)) (r : Bool) (b : Bs) (hs0 : St b (stl []) b.w) (H : label_Label_right.f k a0 = some r) :
    Calls Try.prog 40 #[.agg ⟨([Value.int .i64 a0.1] ++ (([Value.int .i64 a0.2.1.1] ++ ([Value.int .i64 a0.2.1.2.1] ++ ([Value.int .i64 a0.2.1.2.2.1] ++ ([Value.int .u32 a0.2.1.2.2.2.1] ++ en (Value.int .u8) a0.2.1.2.2.2.2.1)))) ++ [Value.int .i64 a0.2.2]))⟩] b.w fun e w' => ∃ x : Unit, e = .returned (.bool r) ∧ St b (stl []) w' := by
  unfold label_Label_right.f at H
  refine enterb (n := 32) Try.func40 rfl (by kernel_rfl) (by kernel_rfl) hs0 ?_
  refine cs_sub (s0) (sub_nil _) ?_
  refine cs_seq ?_
  refine cs_region (l := [_, _]) ?_
  refine ls_new rfl rfl (by kernel_rfl) 0 (fun g => .pointer (some ⟨g, 0, none⟩)) (.cells ⟨([Value.int .i64 a0.1] ++ (([Value.int .i64 a0.2.1.1] ++ ([Value.int .i64 a0.2.1.2.1] ++ ([Value.int .i64 a0.2.1.2.2.1] ++ ([Value.int .u32 a0.2.1.2.2.2.1] ++ en (Value.int .u8) a0.2.1.2.2.2.2.1)))) ++ [Value.int .i64 a0.2.2]))⟩ 42) (fun w => by kernel_rfl) ?_
  intro g1
  refine ls_val (v := .bool false) rfl rfl (by kernel_rfl) (fun w => by kernel_rfl) ?_
  refine ls_end ?_
  refine qn_then ?_
  refine cs_seq ?_
  refine cs_region (l := [_]) ?_
  refine ls_val (v := .func (.func 54) #[] #[]) rfl rfl (by kernel_rfl) (fun w => by kernel_rfl) ?_
  refine ls_end ?_
  refine qn_then ?_
  refine cs_seq ?_
  refine cs_region (l := [_, _, _, _, _, _, _, _, _, _, _, _, _, _, _, _, _, _, _, _, _, _, _, _, _, _, _, _, _]) ?_
  refine ls_val (v := .func (.func 54) #[] #[]) rfl rfl (by kernel_rfl) (fun w => by kernel_rfl) ?_
  refine ls_val (v := .pointer (some ⟨g1, (0 + 0), none⟩)) rfl rfl (by kernel_rfl) (fun w => by kernel_rfl) ?_
  refine ls_load (a0 := ⟨g1, (0 + 0), none⟩) (v := .int .i64 a0.1) (de := (TypeDesc.int .i64)) rfl rfl (by kernel_rfl) rfl (by kernel_rfl) (by kernel_rfl) (by kernel_rfl) (fun w hs => (hs.var (k := 0) (by exact rfl) (Sub4.trans (Sub4.all _) (Sub4.head _ _)))) ?_
  obtain ⟨t2, hc3, H⟩ := bind_some H
  refine ls_callb (fid := 54) (vals := #[.int .i64 a0.1]) (X := Unit) (fun x => .bool t2) (fun x => stl []) [] [] [] [] 1 rfl rfl (by kernel_rfl) (fun w => by kernel_rfl) trivial trivial (by decide) (fun w hs hb => label_Label_right_1.calls k a0.1 t2 (lent b w [] []) hb  hc3) ?_
  intro x4
  refine ls_val (v := .bool t2) rfl rfl (by kernel_rfl) (fun w => by kernel_rfl) ?_
  by_cases q5 : t2 = true
  · replace H := ite_t q5 H
    refine ls_know (c := true) (q5) 8 (by kernel_rfl) ?_
    refine ls_on (j := 4) (t := 8) (b := true) rfl rfl (by kernel_rfl) (by kernel_rfl) ?_
    refine ls_val (v := .func (.func 54) #[] #[]) rfl rfl (by kernel_rfl) (fun w => by kernel_rfl) ?_
    refine ls_on (j := 4) (t := 8) (b := true) rfl rfl (by kernel_rfl) (by kernel_rfl) ?_
    refine ls_val (v := .pointer (some ⟨g1, (0 + 37), none⟩)) rfl rfl (by kernel_rfl) (fun w => by kernel_rfl) ?_
    refine ls_on (j := 4) (t := 8) (b := true) rfl rfl (by kernel_rfl) (by kernel_rfl) ?_
    refine ls_load (a0 := ⟨g1, (0 + 37), none⟩) (v := .int .i64 a0.2.2) (de := (TypeDesc.int .i64)) rfl rfl (by kernel_rfl) rfl (by kernel_rfl) (by kernel_rfl) (by kernel_rfl) (fun w hs => (hs.var (k := 0) (by exact rfl) (Sub4.trans (Sub4.all _) (Sub4.skip (n := 1) (len1 _) (Sub4.skip (n := 36) (len_app (len1 _) (len_app (len1 _) (len_app (len1 _) (len_app (len1 _) (len_en _ a0.2.1.2.2.2.2))))) (Sub4.all _)))))) ?_
    refine ls_on (j := 4) (t := 8) (b := true) rfl rfl (by kernel_rfl) (by kernel_rfl) ?_
    obtain ⟨t6, hc7, H⟩ := bind_some H
    refine ls_callb (fid := 54) (vals := #[.int .i64 a0.2.2]) (X := Unit) (fun x => .bool t6) (fun x => stl []) [] [] [] [] 1 rfl rfl (by kernel_rfl) (fun w => by kernel_rfl) trivial trivial (by decide) (fun w hs hb => label_Label_right_1.calls k a0.2.2 t6 (lent b w [] []) hb  hc7) ?_
    intro x8
    refine ls_val (v := .bool t6) rfl rfl (by kernel_rfl) (fun w => by kernel_rfl) ?_
    refine ls_val (v := .bool t6) rfl rfl (by kernel_rfl) (fun w => by kernel_rfl) ?_
    by_cases q9 : t6 = true
    · replace H := ite_t q9 H
      refine ls_know (c := true) (q9) 14 (by kernel_rfl) ?_
      refine ls_on (j := 10) (t := 14) (b := true) rfl rfl (by kernel_rfl) (by kernel_rfl) ?_
      refine ls_val (v := .pointer (some ⟨g1, (0 + 1), none⟩)) rfl rfl (by kernel_rfl) (fun w => by kernel_rfl) ?_
      refine ls_on (j := 10) (t := 14) (b := true) rfl rfl (by kernel_rfl) (by kernel_rfl) ?_
      refine ls_loadagg (a := ⟨g1, (0 + 1), none⟩) (sub := ([Value.int .i64 a0.2.1.1] ++ ([Value.int .i64 a0.2.1.2.1] ++ ([Value.int .i64 a0.2.1.2.2.1] ++ ([Value.int .u32 a0.2.1.2.2.2.1] ++ en (Value.int .u8) a0.2.1.2.2.2.2.1))))) rfl rfl (by kernel_rfl) rfl (by kernel_rfl) (by kernel_rfl) (by kernel_rfl) (len_app (len1 _) (len_app (len1 _) (len_app (len1 _) (len_app (len1 _) (len_en _ a0.2.1.2.2.2.2))))) (fun w hs => (hs.vars (k := 0) (by exact rfl) (Sub4.trans (Sub4.all _) (Sub4.skip (n := 1) (len1 _) (Sub4.head _ _))))) ?_
      refine ls_on (j := 10) (t := 14) (b := true) rfl rfl (by kernel_rfl) (by kernel_rfl) ?_
      obtain ⟨t10, hc11, H⟩ := bind_some H
      refine ls_callb (fid := 12) (vals := #[.agg ⟨([Value.int .i64 a0.2.1.1] ++ ([Value.int .i64 a0.2.1.2.1] ++ ([Value.int .i64 a0.2.1.2.2.1] ++ ([Value.int .u32 a0.2.1.2.2.2.1] ++ en (Value.int .u8) a0.2.1.2.2.2.2.1))))⟩]) (X := Unit) (fun x => .bool t10) (fun x => stl []) [] [] [] [] 1 rfl rfl (by kernel_rfl) (fun w => by kernel_rfl) trivial trivial (by decide) (fun w hs hb => pointer_None.calls k a0.2.1 t10 (lent b w [] []) hb  hc11) ?_
      intro x12
      refine ls_on (j := 10) (t := 14) (b := true) rfl rfl (by kernel_rfl) (by kernel_rfl) ?_
      refine ls_val (v := .bool t10) rfl rfl (by kernel_rfl) (fun w => by kernel_rfl) ?_
      by_cases q13 : t10 = true
      · replace H := ite_t q13 H
        refine ls_know (c := true) (q13) 18 (by kernel_rfl) ?_
        refine ls_off (j := 14) (t := 18) (b := false) (c := true) rfl rfl (by kernel_rfl) (by kernel_rfl) rfl rfl (by kernel_rfl) ?_
        refine ls_off (j := 14) (t := 18) (b := false) (c := true) rfl rfl (by kernel_rfl) (by kernel_rfl) rfl rfl (by kernel_rfl) ?_
        refine ls_off (j := 14) (t := 18) (b := false) (c := true) rfl rfl (by kernel_rfl) (by kernel_rfl) rfl rfl (by kernel_rfl) ?_
        refine ls_off (j := 14) (t := 18) (b := false) (c := true) rfl rfl (by kernel_rfl) (by kernel_rfl) rfl rfl (by kernel_rfl) ?_
        refine ls_offu (j := 18) (t := 22) (b := true) rfl rfl (by kernel_rfl) (by kernel_rfl) rfl (by kernel_rfl) ?_
        refine ls_offu (j := 18) (t := 22) (b := true) rfl rfl (by kernel_rfl) (by kernel_rfl) rfl (by kernel_rfl) ?_
        refine ls_offu (j := 18) (t := 22) (b := true) rfl rfl (by kernel_rfl) (by kernel_rfl) rfl (by kernel_rfl) ?_
        refine ls_offu (j := 18) (t := 22) (b := true) rfl rfl (by kernel_rfl) (by kernel_rfl) rfl (by kernel_rfl) ?_
        refine ls_offu (j := 18) (t := 22) (b := true) rfl rfl (by kernel_rfl) (by kernel_rfl) rfl (by kernel_rfl) ?_
        refine ls_offu (j := 18) (t := 22) (b := true) rfl rfl (by kernel_rfl) (by kernel_rfl) rfl (by kernel_rfl) ?_
        refine ls_off (j := 14) (t := 18) (b := false) (c := true) rfl rfl (by kernel_rfl) (by kernel_rfl) rfl rfl (by kernel_rfl) ?_
        refine ls_on (j := 10) (t := 14) (b := true) rfl rfl (by kernel_rfl) (by kernel_rfl) ?_
        refine ls_val (v := .bool true) rfl rfl (by kernel_rfl) (fun w => by kernel_rfl) ?_
        refine ls_val (v := .bool true) rfl rfl (by kernel_rfl) (fun w => by kernel_rfl) ?_
        refine ls_val (v := .bool true) rfl rfl (by kernel_rfl) (fun w => by kernel_rfl) ?_
        refine ls_end ?_
        refine qn_then ?_
        refine cs_ret' ?_
        obtain rfl := Option.some.inj H
        refine qr_res (rs := [_]) rfl (fun w' hs => ⟨[.bool true], (res_tmp (by kernel_rfl) (.nil)), (), rfl, hs.pick (ts := []) (cs := []) trivial (by decide)⟩)
      · replace H := ite_f q13 H
        refine ls_know (c := false) (Bool.eq_false_iff.mpr q13) 18 (by kernel_rfl) ?_
        refine ls_on (j := 14) (t := 18) (b := false) rfl rfl (by kernel_rfl) (by kernel_rfl) ?_
        refine ls_val (v := .pointer (some ⟨g1, (0 + 1), none⟩)) rfl rfl (by kernel_rfl) (fun w => by kernel_rfl) ?_
        refine ls_on (j := 14) (t := 18) (b := false) rfl rfl (by kernel_rfl) (by kernel_rfl) ?_
        refine ls_loadagg (a := ⟨g1, (0 + 1), none⟩) (sub := ([Value.int .i64 a0.2.1.1] ++ ([Value.int .i64 a0.2.1.2.1] ++ ([Value.int .i64 a0.2.1.2.2.1] ++ ([Value.int .u32 a0.2.1.2.2.2.1] ++ en (Value.int .u8) a0.2.1.2.2.2.2.1))))) rfl rfl (by kernel_rfl) rfl (by kernel_rfl) (by kernel_rfl) (by kernel_rfl) (len_app (len1 _) (len_app (len1 _) (len_app (len1 _) (len_app (len1 _) (len_en _ a0.2.1.2.2.2.2))))) (fun w hs => (hs.vars (k := 0) (by exact rfl) (Sub4.trans (Sub4.all _) (Sub4.skip (n := 1) (len1 _) (Sub4.head _ _))))) ?_
        refine ls_on (j := 14) (t := 18) (b := false) rfl rfl (by kernel_rfl) (by kernel_rfl) ?_
        obtain ⟨t14, hc15, H⟩ := bind_some H
        refine ls_callb (fid := 14) (vals := #[.agg ⟨([Value.int .i64 a0.2.1.1] ++ ([Value.int .i64 a0.2.1.2.1] ++ ([Value.int .i64 a0.2.1.2.2.1] ++ ([Value.int .u32 a0.2.1.2.2.2.1] ++ en (Value.int .u8) a0.2.1.2.2.2.2.1))))⟩]) (X := Unit) (fun x => .bool t14) (fun x => stl []) [] [] [] [] 1 rfl rfl (by kernel_rfl) (fun w => by kernel_rfl) trivial trivial (by decide) (fun w hs hb => pointer_Right.calls k a0.2.1 t14 (lent b w [] []) hb  hc15) ?_
        intro x16
        refine ls_on (j := 14) (t := 18) (b := false) rfl rfl (by kernel_rfl) (by kernel_rfl) ?_
        refine ls_val (v := .bool t14) rfl rfl (by kernel_rfl) (fun w => by kernel_rfl) ?_
        by_cases q17 : t14 = true
        · replace H := ite_t q17 H
          refine ls_know (c := true) (q17) 22 (by kernel_rfl) ?_
          refine ls_on (j := 18) (t := 22) (b := true) rfl rfl (by kernel_rfl) (by kernel_rfl) ?_
          refine ls_val (v := .pointer (some ⟨g1, (0 + 1), none⟩)) rfl rfl (by kernel_rfl) (fun w => by kernel_rfl) ?_
          refine ls_on (j := 18) (t := 22) (b := true) rfl rfl (by kernel_rfl) (by kernel_rfl) ?_
          refine ls_val (v := .pointer (some ⟨g1, ((0 + 1) + 1), none⟩)) rfl rfl (by kernel_rfl) (fun w => by kernel_rfl) ?_
          refine ls_on (j := 18) (t := 22) (b := true) rfl rfl (by kernel_rfl) (by kernel_rfl) ?_
          refine ls_load (a0 := ⟨g1, ((0 + 1) + 1), none⟩) (v := .int .i64 a0.2.1.2.1) (de := (TypeDesc.int .i64)) rfl rfl (by kernel_rfl) rfl (by kernel_rfl) (by kernel_rfl) (by kernel_rfl) (fun w hs => (hs.var (k := 0) (by exact rfl) (Sub4.trans (Sub4.trans (Sub4.all _) (Sub4.skip (n := 1) (len1 _) (Sub4.head _ _))) (Sub4.skip (n := 1) (len1 _) (Sub4.head _ _))))) ?_
          refine ls_on (j := 18) (t := 22) (b := true) rfl rfl (by kernel_rfl) (by kernel_rfl) ?_
          refine ls_val (v := .pointer (some ⟨g1, (0 + 0), none⟩)) rfl rfl (by kernel_rfl) (fun w => by kernel_rfl) ?_
          refine ls_on (j := 18) (t := 22) (b := true) rfl rfl (by kernel_rfl) (by kernel_rfl) ?_
          refine ls_load (a0 := ⟨g1, (0 + 0), none⟩) (v := .int .i64 a0.1) (de := (TypeDesc.int .i64)) rfl rfl (by kernel_rfl) rfl (by kernel_rfl) (by kernel_rfl) (by kernel_rfl) (fun w hs => (hs.var (k := 0) (by exact rfl) (Sub4.trans (Sub4.all _) (Sub4.head _ _)))) ?_
          refine ls_on (j := 18) (t := 22) (b := true) rfl rfl (by kernel_rfl) (by kernel_rfl) ?_
          refine ls_val (v := .bool (decide (a0.2.1.2.1 ≤ a0.1))) rfl rfl (by kernel_rfl) (fun w => by kernel_rfl) ?_
          refine ls_on (j := 14) (t := 18) (b := false) rfl rfl (by kernel_rfl) (by kernel_rfl) ?_
          refine ls_val (v := .bool (decide (a0.2.1.2.1 ≤ a0.1))) rfl rfl (by kernel_rfl) (fun w => by kernel_rfl) ?_
          refine ls_on (j := 10) (t := 14) (b := true) rfl rfl (by kernel_rfl) (by kernel_rfl) ?_
          refine ls_val (v := .bool (decide (a0.2.1.2.1 ≤ a0.1))) rfl rfl (by kernel_rfl) (fun w => by kernel_rfl) ?_
          refine ls_val (v := .bool (decide (a0.2.1.2.1 ≤ a0.1))) rfl rfl (by kernel_rfl) (fun w => by kernel_rfl) ?_
          refine ls_val (v := .bool (decide (a0.2.1.2.1 ≤ a0.1))) rfl rfl (by kernel_rfl) (fun w => by kernel_rfl) ?_
          refine ls_end ?_
          refine qn_then ?_
          refine cs_ret' ?_
          obtain rfl := Option.some.inj H
          refine qr_res (rs := [_]) rfl (fun w' hs => ⟨[.bool (decide (a0.2.1.2.1 ≤ a0.1))], (res_tmp (by kernel_rfl) (.nil)), (), rfl, hs.pick (ts := []) (cs := []) trivial (by decide)⟩)
        · replace H := ite_f q17 H
          refine ls_know (c := false) (Bool.eq_false_iff.mpr q17) 22 (by kernel_rfl) ?_
          refine ls_off (j := 18) (t := 22) (b := true) (c := false) rfl rfl (by kernel_rfl) (by kernel_rfl) rfl rfl (by kernel_rfl) ?_
          refine ls_off (j := 18) (t := 22) (b := true) (c := false) rfl rfl (by kernel_rfl) (by kernel_rfl) rfl rfl (by kernel_rfl) ?_
          refine ls_off (j := 18) (t := 22) (b := true) (c := false) rfl rfl (by kernel_rfl) (by kernel_rfl) rfl rfl (by kernel_rfl) ?_
          refine ls_off (j := 18) (t := 22) (b := true) (c := false) rfl rfl (by kernel_rfl) (by kernel_rfl) rfl rfl (by kernel_rfl) ?_
          refine ls_off (j := 18) (t := 22) (b := true) (c := false) rfl rfl (by kernel_rfl) (by kernel_rfl) rfl rfl (by kernel_rfl) ?_
          refine ls_off (j := 18) (t := 22) (b := true) (c := false) rfl rfl (by kernel_rfl) (by kernel_rfl) rfl rfl (by kernel_rfl) ?_
          refine ls_on (j := 14) (t := 18) (b := false) rfl rfl (by kernel_rfl) (by kernel_rfl) ?_
          refine ls_val (v := .bool false) rfl rfl (by kernel_rfl) (fun w => by kernel_rfl) ?_
          refine ls_on (j := 10) (t := 14) (b := true) rfl rfl (by kernel_rfl) (by kernel_rfl) ?_
          refine ls_val (v := .bool false) rfl rfl (by kernel_rfl) (fun w => by kernel_rfl) ?_
          refine ls_val (v := .bool false) rfl rfl (by kernel_rfl) (fun w => by kernel_rfl) ?_
          refine ls_val (v := .bool false) rfl rfl (by kernel_rfl) (fun w => by kernel_rfl) ?_
          refine ls_end ?_
          refine qn_then ?_
          refine cs_ret' ?_
          obtain rfl := Option.some.inj H
          refine qr_res (rs := [_]) rfl (fun w' hs => ⟨[.bool false], (res_tmp (by kernel_rfl) (.nil)), (), rfl, hs.pick (ts := []) (cs := []) trivial (by decide)⟩)
    · replace H := ite_f q9 H
      refine ls_know (c := false) (Bool.eq_false_iff.mpr q9) 14 (by kernel_rfl) ?_
      refine ls_off (j := 10) (t := 14) (b := true) (c := false) rfl rfl (by kernel_rfl) (by kernel_rfl) rfl rfl (by kernel_rfl) ?_
      refine ls_off (j := 10) (t := 14) (b := true) (c := false) rfl rfl (by kernel_rfl) (by kernel_rfl) rfl rfl (by kernel_rfl) ?_
      refine ls_off (j := 10) (t := 14) (b := true) (c := false) rfl rfl (by kernel_rfl) (by kernel_rfl) rfl rfl (by kernel_rfl) ?_
      refine ls_off (j := 10) (t := 14) (b := true) (c := false) rfl rfl (by kernel_rfl) (by kernel_rfl) rfl rfl (by kernel_rfl) ?_
      refine ls_offu (j := 14) (t := 18) (b := false) rfl rfl (by kernel_rfl) (by kernel_rfl) rfl (by kernel_rfl) ?_
      refine ls_offu (j := 14) (t := 18) (b := false) rfl rfl (by kernel_rfl) (by kernel_rfl) rfl (by kernel_rfl) ?_
      refine ls_offu (j := 14) (t := 18) (b := false) rfl rfl (by kernel_rfl) (by kernel_rfl) rfl (by kernel_rfl) ?_
      refine ls_offu (j := 14) (t := 18) (b := false) rfl rfl (by kernel_rfl) (by kernel_rfl) rfl (by kernel_rfl) ?_
      refine ls_offu (j := 18) (t := 22) (b := true) rfl rfl (by kernel_rfl) (by kernel_rfl) rfl (by kernel_rfl) ?_
      refine ls_offu (j := 18) (t := 22) (b := true) rfl rfl (by kernel_rfl) (by kernel_rfl) rfl (by kernel_rfl) ?_
      refine ls_offu (j := 18) (t := 22) (b := true) rfl rfl (by kernel_rfl) (by kernel_rfl) rfl (by kernel_rfl) ?_
      refine ls_offu (j := 18) (t := 22) (b := true) rfl rfl (by kernel_rfl) (by kernel_rfl) rfl (by kernel_rfl) ?_
      refine ls_offu (j := 18) (t := 22) (b := true) rfl rfl (by kernel_rfl) (by kernel_rfl) rfl (by kernel_rfl) ?_
      refine ls_offu (j := 18) (t := 22) (b := true) rfl rfl (by kernel_rfl) (by kernel_rfl) rfl (by kernel_rfl) ?_
      refine ls_offu (j := 14) (t := 18) (b := false) rfl rfl (by kernel_rfl) (by kernel_rfl) rfl (by kernel_rfl) ?_
      refine ls_off (j := 10) (t := 14) (b := true) (c := false) rfl rfl (by kernel_rfl) (by kernel_rfl) rfl rfl (by kernel_rfl) ?_
      refine ls_val (v := .bool false) rfl rfl (by kernel_rfl) (fun w => by kernel_rfl) ?_
      refine ls_val (v := .bool false) rfl rfl (by kernel_rfl) (fun w => by kernel_rfl) ?_
      refine ls_end ?_
      refine qn_then ?_
      refine cs_ret' ?_
      obtain rfl := Option.some.inj H
      refine qr_res (rs := [_]) rfl (fun w' hs => ⟨[.bool false], (res_tmp (by kernel_rfl) (.nil)), (), rfl, hs.pick (ts := []) (cs := []) trivial (by decide)⟩)
  · replace H := ite_f q5 H
    refine ls_know (c := false) (Bool.eq_false_iff.mpr q5) 8 (by kernel_rfl) ?_
    refine ls_off (j := 4) (t := 8) (b := true) (c := false) rfl rfl (by kernel_rfl) (by kernel_rfl) rfl rfl (by kernel_rfl) ?_
    refine ls_off (j := 4) (t := 8) (b := true) (c := false) rfl rfl (by kernel_rfl) (by kernel_rfl) rfl rfl (by kernel_rfl) ?_
    refine ls_off (j := 4) (t := 8) (b := true) (c := false) rfl rfl (by kernel_rfl) (by kernel_rfl) rfl rfl (by kernel_rfl) ?_
    refine ls_off (j := 4) (t := 8) (b := true) (c := false) rfl rfl (by kernel_rfl) (by kernel_rfl) rfl rfl (by kernel_rfl) ?_
    refine ls_val (v := .bool false) rfl rfl (by kernel_rfl) (fun w => by kernel_rfl) ?_
    refine ls_val (v := .bool false) rfl rfl (by kernel_rfl) (fun w => by kernel_rfl) ?_
    refine ls_off (j := 10) (t := 14) (b := true) (c := false) rfl rfl (by kernel_rfl) (by kernel_rfl) rfl rfl (by kernel_rfl) ?_
    refine ls_off (j := 10) (t := 14) (b := true) (c := false) rfl rfl (by kernel_rfl) (by kernel_rfl) rfl rfl (by kernel_rfl) ?_
    refine ls_off (j := 10) (t := 14) (b := true) (c := false) rfl rfl (by kernel_rfl) (by kernel_rfl) rfl rfl (by kernel_rfl) ?_
    refine ls_off (j := 10) (t := 14) (b := true) (c := false) rfl rfl (by kernel_rfl) (by kernel_rfl) rfl rfl (by kernel_rfl) ?_
    refine ls_offu (j := 14) (t := 18) (b := false) rfl rfl (by kernel_rfl) (by kernel_rfl) rfl (by kernel_rfl) ?_
    refine ls_offu (j := 14) (t := 18) (b := false) rfl rfl (by kernel_rfl) (by kernel_rfl) rfl (by kernel_rfl) ?_
    refine ls_offu (j := 14) (t := 18) (b := false) rfl rfl (by kernel_rfl) (by kernel_rfl) rfl (by kernel_rfl) ?_
    refine ls_offu (j := 14) (t := 18) (b := false) rfl rfl (by kernel_rfl) (by kernel_rfl) rfl (by kernel_rfl) ?_
    refine ls_offu (j := 18) (t := 22) (b := true) rfl rfl (by kernel_rfl) (by kernel_rfl) rfl (by kernel_rfl) ?_
    refine ls_offu (j := 18) (t := 22) (b := true) rfl rfl (by kernel_rfl) (by kernel_rfl) rfl (by kernel_rfl) ?_
    refine ls_offu (j := 18) (t := 22) (b := true) rfl rfl (by kernel_rfl) (by kernel_rfl) rfl (by kernel_rfl) ?_
    refine ls_offu (j := 18) (t := 22) (b := true) rfl rfl (by kernel_rfl) (by kernel_rfl) rfl (by kernel_rfl) ?_
    refine ls_offu (j := 18) (t := 22) (b := true) rfl rfl (by kernel_rfl) (by kernel_rfl) rfl (by kernel_rfl) ?_
    refine ls_offu (j := 18) (t := 22) (b := true) rfl rfl (by kernel_rfl) (by kernel_rfl) rfl (by kernel_rfl) ?_
    refine ls_offu (j := 14) (t := 18) (b := false) rfl rfl (by kernel_rfl) (by kernel_rfl) rfl (by kernel_rfl) ?_
    refine ls_off (j := 10) (t := 14) (b := true) (c := false) rfl rfl (by kernel_rfl) (by kernel_rfl) rfl rfl (by kernel_rfl) ?_
    refine ls_val (v := .bool false) rfl rfl (by kernel_rfl) (fun w => by kernel_rfl) ?_
    refine ls_val (v := .bool false) rfl rfl (by kernel_rfl) (fun w => by kernel_rfl) ?_
    refine ls_end ?_
    refine qn_then ?_
    refine cs_ret' ?_
    obtain rfl := Option.some.inj H
    refine qr_res (rs := [_]) rfl (fun w' hs => ⟨[.bool false], (res_tmp (by kernel_rfl) (.nil)), (), rfl, hs.pick (ts := []) (cs := []) trivial (by decide)⟩)

/-! ### shadowbox/codec.Fixed: function 34 -/
def codec_Fixed.lo4 (a1 : Int) (l2 : List Int) (x23_2 : Int) (lo2 : (List Int) → Int → Option ((List Int))) : Nat → (List Int) → Int → Option ((List Int))
  | 0, _, _ => none
  | k4 + 1, l7_4, x28_4 => (if x28_4 < a1 then (if 0 ≤ IntKind.wrap .i64 ((8 : Int) * x28_4) then lt (shrv .u64 ((l2).getD (x23_2).toNat (0 : Int)) (IntKind.wrap .i64 ((8 : Int) * x28_4))) fun y11 => (if (l7_4.length + ([IntKind.wrap .u8 y11]).length) * 1 ≤ 140737488355328 then (codec_Fixed.lo4 a1 l2 x23_2 lo2 k4) (l7_4 ++ [IntKind.wrap .u8 y11]) (IntKind.wrap .i64 (x28_4 + (1 : Int))) else none) else none) else lo2 l7_4 (IntKind.wrap .i64 (x23_2 + (1 : Int))))
def codec_Fixed.jo3 (a1 : Int) (l2 : List Int) (l7_2 : List Int) (x23_2 : Int) (k2 : Nat) (lo2 : (List Int) → Int → Option ((List Int))) : Option ((List Int)) := (if 0 ≤ x23_2 then (if x23_2 < (l2.length : Int) then codec_Fixed.lo4 a1 l2 x23_2 lo2 k2 l7_2 (0 : Int) else none) else none)
def codec_Fixed.lo2 (a1 : Int) (l2 : List Int) : Nat → (List Int) → Int → Option ((List Int))
  | 0, _, _ => none
  | k2 + 1, l7_2, x23_2 => (if x23_2 < (l2.length : Int) then (codec_Fixed.jo3 a1 l2 l7_2 x23_2 k2 (codec_Fixed.lo2 a1 l2 k2)) else some l7_2)
def codec_Fixed.jo1 (k : Nat) (l0 : List Int) (a1 : Int) (l2 : List Int) : Option ((List Int)) := codec_Fixed.lo2 a1 l2 k (([] : List Int) ++ l0) (0 : Int)
def codec_Fixed.f (k : Nat) (l0 : List Int) (a1 : Int) (l2 : List Int) : Option ((List Int)) :=
  (if (([] : List Int).length + l0.length) * 1 ≤ 140737488355328 then (if a1 < (1 : Int) then some (([] : List Int) ++ l0) else (if a1 > (8 : Int) then some (([] : List Int) ++ l0) else (codec_Fixed.jo1 k l0 a1 l2))) else none)
set_option maxRecDepth 100000 in
set_option maxHeartbeats 4000000 in
theorem codec_Fixed.calls (k : Nat) (A0 : Option Addr) (c0 : Nat) (l0 : List Int) (a1 : Int) (A2 : Option Addr) (c2 : Nat) (l2 : List Int) (r : (List Int)) (b : Bs) (hs0 : St b (stl []) b.w) (R0 : Ro b A0 (em (Ec.int 5 .u8) l0)) (C0 : l0.length ≤ c0) (R2 : Ro b A2 (em (Ec.int 62 .u64) l2)) (C2 : l2.length ≤ c2) (H : codec_Fixed.f k l0 a1 l2 = some r) :
    Calls Try.prog 34 #[.slice A0 l0.length c0, .int .i64 a1, .slice A2 l2.length c2] b.w fun e w' => ∃ x : (Option Addr × Nat), e = .returned (.slice x.1 r.length x.2) ∧ St b (stl [Ck.sl (Ec.int 5 .u8) x.1 x.2 r]) w' := by
  unfold codec_Fixed.f at H
  refine enterb (n := 42) Try.func34 rfl (by kernel_rfl) (by kernel_rfl) hs0 ?_
  refine cs_sub (s0) (sub_nil _) ?_
  refine cs_seq ?_
  refine cs_region (l := [_]) ?_
  refine ls_val (v := .slice none 0 0) rfl rfl (by kernel_rfl) (fun w => by kernel_rfl) ?_
  refine ls_end ?_
  refine qn_then ?_
  refine cs_seq ?_
  refine cs_region (l := [_, _, _, _]) ?_
  refine ls_lit (Ec.int 5 .u8) 0 rfl rfl (by kernel_rfl) ([] : List Int) (by exact of_decide_eq_true (by kernel_rfl)) (fun w => by kernel_rfl) ?_
  intro g1
  refine ls_val (v := .slice A0 l0.length c0) rfl rfl (by kernel_rfl) (fun w => by kernel_rfl) ?_
  obtain ⟨q2, H⟩ := ite_need H
  refine ls_app (Ec.int 5 .u8) (A := (some ⟨g1, 0, none⟩)) (c := ([] : List Int).length) (B := A0) (cb := c0) (z := (Value.int .u8 0)) (l := ([] : List Int)) (m := l0) (bytes := 1) 0 rfl rfl (by kernel_rfl) rfl (by kernel_rfl) (by exact rfl) (by kernel_rfl) (fun w hs => (hs.old R0)) (by kernel_rfl) (by kernel_rfl) rfl (by decide) q2 ?_
  intro xA3 xc4
  refine ls_val (v := .slice xA3 (([] : List Int) ++ l0).length xc4) rfl rfl (by kernel_rfl) (fun w => by kernel_rfl) ?_
  refine ls_end ?_
  refine qn_then ?_
  refine cs_cut (fun f S => ∃ (fR : Fr), f = upd (upd (upd fR 1 (.int .i64 a1)) 2 (.slice A2 l2.length c2)) 7 (.slice xA3 (([] : List Int) ++ l0).length xc4) ∧ S = sput s0 0 (some (Ck.sl (Ec.int 5 .u8) xA3 xc4 (([] : List Int) ++ l0))) ∧ codec_Fixed.jo1 k l0 a1 l2 = some r) ?_ ?_
  · skip
    refine cs_seq ?_
    refine cs_region (l := [_, _, _, _, _, _]) ?_
    refine ls_val (v := .int .i64 a1) rfl rfl (by kernel_rfl) (fun w => by kernel_rfl) ?_
    refine ls_val (v := .bool (decide (a1 < (1 : Int)))) rfl rfl (by kernel_rfl) (fun w => by kernel_rfl) ?_
    refine ls_val (v := .bool (decide (a1 < (1 : Int)))) rfl rfl (by kernel_rfl) (fun w => by kernel_rfl) ?_
    by_cases q18 : a1 < (1 : Int)
    · replace H := ite_t q18 H
      refine ls_know (c := true) (dec_t q18) 16 (by kernel_rfl) ?_
      refine ls_off (j := 2) (t := 16) (b := false) (c := true) rfl rfl (by kernel_rfl) (by kernel_rfl) rfl rfl (by kernel_rfl) ?_
      refine ls_off (j := 2) (t := 16) (b := false) (c := true) rfl rfl (by kernel_rfl) (by kernel_rfl) rfl rfl (by kernel_rfl) ?_
      refine ls_val (v := .bool true) rfl rfl (by kernel_rfl) (fun w => by kernel_rfl) ?_
      refine ls_end ?_
      refine qn_then ?_
      refine cs_true (by kernel_rfl) ?_
      refine cs_seq ?_
      refine cs_region (l := [_, _]) ?_
      refine ls_val (v := .slice xA3 (([] : List Int) ++ l0).length xc4) rfl rfl (by kernel_rfl) (fun w => by kernel_rfl) ?_
      refine ls_val (v := .slice xA3 (([] : List Int) ++ l0).length xc4) rfl rfl (by kernel_rfl) (fun w => by kernel_rfl) ?_
      refine ls_end ?_
      refine qn_then ?_
      refine cs_ret' ?_
      refine qr_then ?_
      obtain rfl := Option.some.inj H
      refine qr_res (rs := [_]) rfl (fun w' hs => ⟨[.slice xA3 (([] : List Int) ++ l0).length xc4], (res_tmp (by kernel_rfl) (.nil)), (xA3, xc4), rfl, hs.pick (ts := [0]) (cs := [Ck.sl (Ec.int 5 .u8) xA3 xc4 (([] : List Int) ++ l0)]) ⟨by exact rfl, trivial⟩ (by decide)⟩)
    · replace H := ite_f q18 H
      refine ls_know (c := false) (dec_f q18) 16 (by kernel_rfl) ?_
      refine ls_on (j := 2) (t := 16) (b := false) rfl rfl (by kernel_rfl) (by kernel_rfl) ?_
      refine ls_val (v := .int .i64 a1) rfl rfl (by kernel_rfl) (fun w => by kernel_rfl) ?_
      refine ls_on (j := 2) (t := 16) (b := false) rfl rfl (by kernel_rfl) (by kernel_rfl) ?_
      refine ls_val (v := .bool (decide (a1 > (8 : Int)))) rfl rfl (by kernel_rfl) (fun w => by kernel_rfl) ?_
      refine ls_val (v := .bool (decide (a1 > (8 : Int)))) rfl rfl (by kernel_rfl) (fun w => by kernel_rfl) ?_
      refine ls_end ?_
      refine qn_then ?_
      by_cases q19 : a1 > (8 : Int)
      · replace H := ite_t q19 H
        refine cs_know (c := true) (dec_t q19) 19 (by kernel_rfl) ?_
        refine cs_true (by kernel_rfl) ?_
        refine cs_seq ?_
        refine cs_region (l := [_, _]) ?_
        refine ls_val (v := .slice xA3 (([] : List Int) ++ l0).length xc4) rfl rfl (by kernel_rfl) (fun w => by kernel_rfl) ?_
        refine ls_val (v := .slice xA3 (([] : List Int) ++ l0).length xc4) rfl rfl (by kernel_rfl) (fun w => by kernel_rfl) ?_
        refine ls_end ?_
        refine qn_then ?_
        refine cs_ret' ?_
        refine qr_then ?_
        obtain rfl := Option.some.inj H
        refine qr_res (rs := [_]) rfl (fun w' hs => ⟨[.slice xA3 (([] : List Int) ++ l0).length xc4], (res_tmp (by kernel_rfl) (.nil)), (xA3, xc4), rfl, hs.pick (ts := [0]) (cs := [Ck.sl (Ec.int 5 .u8) xA3 xc4 (([] : List Int) ++ l0)]) ⟨by exact rfl, trivial⟩ (by decide)⟩)
      · replace H := ite_f q19 H
        refine cs_know (c := false) (dec_f q19) 19 (by kernel_rfl) ?_
        refine cs_false (by kernel_rfl) ?_
        refine cs_skip' ?_
        refine qn_meet (sput s0 0 (some (Ck.sl (Ec.int 5 .u8) xA3 xc4 (([] : List Int) ++ l0)))) ⟨_, fr_next (fr_next (fr_next (rfl) (by kernel_rfl)) (by kernel_rfl)) (by kernel_rfl), rfl, H⟩ (sub_put (by exact rfl) (sub_nil _))
  · rintro f S ⟨fr1, rfl, rfl, H⟩
    replace H : (codec_Fixed.lo2 a1 l2 k (([] : List Int) ++ l0) (0 : Int)) = some r := H
    refine cs_seq ?_
    refine cs_seq ?_
    refine cs_region (l := [_, _, _]) ?_
    refine ls_val (v := .slice A2 l2.length c2) rfl rfl (by kernel_rfl) (fun w => by kernel_rfl) ?_
    refine ls_val (v := .int .i64 (l2.length : Int)) rfl rfl (by kernel_rfl) (fun w => by kernel_rfl) ?_
    refine ls_val (v := .int .i64 (0 : Int)) rfl rfl (by kernel_rfl) (fun w => by kernel_rfl) ?_
    refine ls_end ?_
    refine qn_then ?_
    refine cs_block ?_
    refine cs_sub (sput s0 0 (some (Ck.sl (Ec.int 5 .u8) xA3 xc4 (([] : List Int) ++ l0)))) (sub_put (by exact rfl) (sub_nil _)) ?_
    refine cs_loop (fun kk f S => ∃ (fR : Fr) (A7_2 : Option Addr) (c7_2 : Nat) (l7_2 : List Int) (x23_2 : Int), f = upd (upd (upd (upd (upd fR 1 (.int .i64 a1)) 7 (.slice A7_2 l7_2.length c7_2)) 21 (.slice A2 l2.length c2)) 22 (.int .i64 (l2.length : Int))) 23 (.int .i64 x23_2) ∧ S = sput s0 0 (some (Ck.sl (Ec.int 5 .u8) A7_2 c7_2 l7_2)) ∧ codec_Fixed.lo2 a1 l2 kk l7_2 x23_2 = some r) k ?_ ?_ ?_
    · exact ⟨_, xA3, xc4, (([] : List Int) ++ l0), (0 : Int), fr_next (fr_next (fr_next (fr_next (fr_next (rfl) (by kernel_rfl)) (by kernel_rfl)) (by kernel_rfl)) (by kernel_rfl)) (by kernel_rfl), rfl, H⟩
    · rintro f S ⟨fr2, A7_2, c7_2, l7_2, x23_2, rfl, rfl, H⟩; cases H
    · rintro k2 f S ⟨fr2, A7_2, c7_2, l7_2, x23_2, rfl, rfl, H⟩
      replace H : ((if x23_2 < (l2.length : Int) then (codec_Fixed.jo3 a1 l2 l7_2 x23_2 k2 (codec_Fixed.lo2 a1 l2 k2)) else some l7_2)) = some r := H
      refine cs_seq ?_
      refine cs_region (l := [_]) ?_
      refine ls_val (v := .bool (decide (x23_2 < (l2.length : Int)))) rfl rfl (by kernel_rfl) (fun w => by kernel_rfl) ?_
      refine ls_end ?_
      refine qn_then ?_
      refine cs_cut (fun f S => ∃ (fR : Fr), f = upd (upd (upd (upd (upd fR 1 (.int .i64 a1)) 7 (.slice A7_2 l7_2.length c7_2)) 21 (.slice A2 l2.length c2)) 22 (.int .i64 (l2.length : Int))) 23 (.int .i64 x23_2) ∧ S = sput s0 0 (some (Ck.sl (Ec.int 5 .u8) A7_2 c7_2 l7_2)) ∧ codec_Fixed.jo3 a1 l2 l7_2 x23_2 k2 (codec_Fixed.lo2 a1 l2 k2) = some r) ?_ ?_
      · skip
        by_cases q17 : x23_2 < (l2.length : Int)
        · replace H := ite_t q17 H
          refine cs_know (c := true) (dec_t q17) 24 (by kernel_rfl) ?_
          refine cs_true (by kernel_rfl) ?_
          refine cs_skip' ?_
          refine qn_meet (sput s0 0 (some (Ck.sl (Ec.int 5 .u8) A7_2 c7_2 l7_2))) ⟨_, fr_next (fr_next (fr_next (fr_next (fr_next (rfl) (by kernel_rfl)) (by kernel_rfl)) (by kernel_rfl)) (by kernel_rfl)) (by kernel_rfl), rfl, H⟩ (sub_put (by exact rfl) (sub_nil _))
        · replace H := ite_f q17 H
          refine cs_know (c := false) (dec_f q17) 24 (by kernel_rfl) ?_
          refine cs_false (by kernel_rfl) ?_
          refine cs_exit' ?_
          refine qx_then ?_
          refine qx_then ?_
          refine qx_same ?_
          refine qn_then ?_
          refine cs_seq ?_
          refine cs_region (l := [_, _]) ?_
          refine ls_val (v := .slice A7_2 l7_2.length c7_2) rfl rfl (by kernel_rfl) (fun w => by kernel_rfl) ?_
          refine ls_val (v := .slice A7_2 l7_2.length c7_2) rfl rfl (by kernel_rfl) (fun w => by kernel_rfl) ?_
          refine ls_end ?_
          refine qn_then ?_
          refine cs_ret' ?_
          obtain rfl := Option.some.inj H
          refine qr_res (rs := [_]) rfl (fun w' hs => ⟨[.slice A7_2 l7_2.length c7_2], (res_tmp (by kernel_rfl) (.nil)), (A7_2, c7_2), rfl, hs.pick (ts := [0]) (cs := [Ck.sl (Ec.int 5 .u8) A7_2 c7_2 l7_2]) ⟨by exact rfl, trivial⟩ (by decide)⟩)
      · rintro f S ⟨fr3, rfl, rfl, H⟩
        replace H : ((if 0 ≤ x23_2 then (if x23_2 < (l2.length : Int) then codec_Fixed.lo4 a1 l2 x23_2 (codec_Fixed.lo2 a1 l2 k2) k2 l7_2 (0 : Int) else none) else none)) = some r := H
        refine cs_seq ?_
        refine cs_block ?_
        refine cs_seq ?_
        refine cs_region (l := [_, _, _]) ?_
        obtain ⟨q5, H⟩ := ite_need H
        obtain ⟨q6, H⟩ := ite_need H
        obtain ⟨ad7, hA8⟩ := ido_at (T := (Ec.int 62 .u64)) (l := l2) (i := x23_2) R2 q5 q6
        refine ls_idxv (Ec.int 62 .u64) (A := A2) (c := c2) (l := l2) (k := .i64) (i := x23_2) (z := 1) (ad := ad7) rfl rfl (by kernel_rfl) hA8 rfl (by kernel_rfl) (by kernel_rfl) (by kernel_rfl) (by kernel_rfl) q5 q6 ?_
        refine ls_load (a0 := (ad7.add ((x23_2).toNat * 1))) (v := .int .u64 ((l2).getD (x23_2).toNat (0 : Int))) (de := (TypeDesc.int .u64)) rfl rfl (by kernel_rfl) rfl (by kernel_rfl) (by kernel_rfl) (by kernel_rfl) (fun w hs => (hs.old R2).at hA8 (em_sub (Ec.int 62 .u64) l2 (i := (x23_2).toNat) (by have h0 : (0 : Int) ≤ x23_2 := q5; have h1 : x23_2 < (l2.length : Int) := q6; omega))) ?_
        refine ls_val (v := .int .u64 ((l2).getD (x23_2).toNat (0 : Int))) rfl rfl (by kernel_rfl) (fun w => by kernel_rfl) ?_
        refine ls_end ?_
        refine qn_then ?_
        refine cs_seq ?_
        refine cs_region (l := [_, _]) ?_
        refine ls_val (v := .int .i64 a1) rfl rfl (by kernel_rfl) (fun w => by kernel_rfl) ?_
        refine ls_val (v := .int .i64 (0 : Int)) rfl rfl (by kernel_rfl) (fun w => by kernel_rfl) ?_
        refine ls_end ?_
        refine qn_then ?_
        refine cs_block ?_
        refine cs_sub (sput s0 0 (some (Ck.sl (Ec.int 5 .u8) A7_2 c7_2 l7_2))) (sub_put (by exact rfl) (sub_nil _)) ?_
        refine cs_loop (fun kk f S => ∃ (fR : Fr) (A7_4 : Option Addr) (c7_4 : Nat) (l7_4 : List Int) (x28_4 : Int), f = upd (upd (upd (upd (upd (upd (upd (upd fR 1 (.int .i64 a1)) 7 (.slice A7_4 l7_4.length c7_4)) 9 (.int .u64 ((l2).getD (x23_2).toNat (0 : Int)))) 21 (.slice A2 l2.length c2)) 22 (.int .i64 (l2.length : Int))) 23 (.int .i64 x23_2)) 27 (.int .i64 a1)) 28 (.int .i64 x28_4) ∧ S = sput s0 0 (some (Ck.sl (Ec.int 5 .u8) A7_4 c7_4 l7_4)) ∧ codec_Fixed.lo4 a1 l2 x23_2 (codec_Fixed.lo2 a1 l2 k2) kk l7_4 x28_4 = some r) k2 ?_ ?_ ?_
        · exact ⟨_, A7_2, c7_2, l7_2, (0 : Int), fr_next (fr_next (fr_next (fr_next (fr_next (fr_next (fr_next (fr_next (rfl) (by kernel_rfl)) (by kernel_rfl)) (by kernel_rfl)) (by kernel_rfl)) (by kernel_rfl)) (by kernel_rfl)) (by kernel_rfl)) (by kernel_rfl), rfl, H⟩
        · rintro f S ⟨fr4, A7_4, c7_4, l7_4, x28_4, rfl, rfl, H⟩; cases H
        · rintro k4 f S ⟨fr4, A7_4, c7_4, l7_4, x28_4, rfl, rfl, H⟩
          replace H : ((if x28_4 < a1 then (if 0 ≤ IntKind.wrap .i64 ((8 : Int) * x28_4) then lt (shrv .u64 ((l2).getD (x23_2).toNat (0 : Int)) (IntKind.wrap .i64 ((8 : Int) * x28_4))) fun y11 => (if (l7_4.length + ([IntKind.wrap .u8 y11]).length) * 1 ≤ 140737488355328 then (codec_Fixed.lo4 a1 l2 x23_2 (codec_Fixed.lo2 a1 l2 k2) k4) (l7_4 ++ [IntKind.wrap .u8 y11]) (IntKind.wrap .i64 (x28_4 + (1 : Int))) else none) else none) else (codec_Fixed.lo2 a1 l2 k2) l7_4 (IntKind.wrap .i64 (x23_2 + (1 : Int))))) = some r := H
          refine cs_seq ?_
          refine cs_region (l := [_]) ?_
          refine ls_val (v := .bool (decide (x28_4 < a1))) rfl rfl (by kernel_rfl) (fun w => by kernel_rfl) ?_
          refine ls_end ?_
          refine qn_then ?_
          refine cs_seq ?_
          by_cases q9 : x28_4 < a1
          · replace H := ite_t q9 H
            refine cs_know (c := true) (dec_t q9) 29 (by kernel_rfl) ?_
            refine cs_true (by kernel_rfl) ?_
            refine cs_skip' ?_
            refine qn_then ?_
            refine cs_seq ?_
            refine cs_block ?_
            refine cs_seq ?_
            refine cs_region (l := [_, _]) ?_
            refine ls_val (v := .int .i64 x28_4) rfl rfl (by kernel_rfl) (fun w => by kernel_rfl) ?_
            refine ls_val (v := .int .i64 x28_4) rfl rfl (by kernel_rfl) (fun w => by kernel_rfl) ?_
            refine ls_end ?_
            refine qn_then ?_
            refine cs_region (l := [_, _, _, _, _, _, _, _, _]) ?_
            refine ls_val (v := .slice A7_4 l7_4.length c7_4) rfl rfl (by kernel_rfl) (fun w => by kernel_rfl) ?_
            refine ls_val (v := .int .u64 ((l2).getD (x23_2).toNat (0 : Int))) rfl rfl (by kernel_rfl) (fun w => by kernel_rfl) ?_
            refine ls_val (v := .int .i64 x28_4) rfl rfl (by kernel_rfl) (fun w => by kernel_rfl) ?_
            refine ls_val (v := .int .i64 (IntKind.wrap .i64 ((8 : Int) * x28_4))) rfl rfl (by kernel_rfl) (fun w => by kernel_rfl) ?_
            obtain ⟨q10, H⟩ := ite_need H
            obtain ⟨y11, hy12, H⟩ := lt_some H
            refine ls_shiftr (k := .u64) (yk := .i64) (x := ((l2).getD (x23_2).toNat (0 : Int))) (y := (IntKind.wrap .i64 ((8 : Int) * x28_4))) rfl rfl (by kernel_rfl) (fun w => by kernel_rfl) q10 ?_
            refine ls_ren 35 (v := .int .u64 (shrv .u64 ((l2).getD (x23_2).toNat (0 : Int)) (IntKind.wrap .i64 ((8 : Int) * x28_4)))) (v' := .int .u64 y11) (by kernel_rfl) (by rw [hy12]) ?_
            refine ls_val (v := .int .u8 (IntKind.wrap .u8 y11)) rfl rfl (by kernel_rfl) (fun w => by kernel_rfl) ?_
            refine ls_lit (Ec.int 5 .u8) 1 rfl rfl (by kernel_rfl) ([IntKind.wrap .u8 y11]) (by exact of_decide_eq_true (by kernel_rfl)) (fun w => by kernel_rfl) ?_
            intro g13
            obtain ⟨q14, H⟩ := ite_need H
            refine ls_app (Ec.int 5 .u8) (A := A7_4) (c := c7_4) (B := (some ⟨g13, 0, none⟩)) (cb := [IntKind.wrap .u8 y11].length) (z := (Value.int .u8 0)) (l := l7_4) (m := [IntKind.wrap .u8 y11]) (bytes := 1) 0 rfl rfl (by kernel_rfl) rfl (by kernel_rfl) (by exact rfl) (by kernel_rfl) (fun w hs => (hs.rd (k := 1) (by exact rfl))) (by kernel_rfl) (by kernel_rfl) rfl (by decide) q14 ?_
            intro xA15 xc16
            refine ls_val (v := .slice xA15 (l7_4 ++ [IntKind.wrap .u8 y11]).length xc16) rfl rfl (by kernel_rfl) (fun w => by kernel_rfl) ?_
            refine ls_end ?_
            refine qn_block ?_
            refine qn_then ?_
            refine cs_region (l := [_, _]) ?_
            refine ls_val (v := .int .i64 (IntKind.wrap .i64 (x28_4 + (1 : Int)))) rfl rfl (by kernel_rfl) (fun w => by kernel_rfl) ?_
            refine ls_val (v := .int .i64 (IntKind.wrap .i64 (x28_4 + (1 : Int)))) rfl rfl (by kernel_rfl) (fun w => by kernel_rfl) ?_
            refine ls_end ?_
            refine qn_again k4 (sput s0 0 (some (Ck.sl (Ec.int 5 .u8) xA15 xc16 (l7_4 ++ [IntKind.wrap .u8 y11])))) (Nat.le_refl _) ⟨_, xA15, xc16, (l7_4 ++ [IntKind.wrap .u8 y11]), (IntKind.wrap .i64 (x28_4 + (1 : Int))), fr_next (fr_next (fr_next (fr_next (fr_next (fr_next (fr_next (fr_next (rfl) (by kernel_rfl)) (by kernel_rfl)) (by kernel_rfl)) (by kernel_rfl)) (by kernel_rfl)) (by kernel_rfl)) (by kernel_rfl)) (by kernel_rfl), rfl, H⟩ (sub_put (by exact rfl) (sub_nil _))
          · replace H := ite_f q9 H
            refine cs_know (c := false) (dec_f q9) 29 (by kernel_rfl) ?_
            refine cs_false (by kernel_rfl) ?_
            refine cs_exit' ?_
            refine qx_then ?_
            refine qx_then ?_
            refine qx_same ?_
            refine qn_block ?_
            refine qn_then ?_
            refine cs_region (l := [_, _]) ?_
            refine ls_val (v := .int .i64 (IntKind.wrap .i64 (x23_2 + (1 : Int)))) rfl rfl (by kernel_rfl) (fun w => by kernel_rfl) ?_
            refine ls_val (v := .int .i64 (IntKind.wrap .i64 (x23_2 + (1 : Int)))) rfl rfl (by kernel_rfl) (fun w => by kernel_rfl) ?_
            refine ls_end ?_
            refine qn_again k2 (sput s0 0 (some (Ck.sl (Ec.int 5 .u8) A7_4 c7_4 l7_4))) (Nat.le_refl _) ⟨_, A7_4, c7_4, l7_4, (IntKind.wrap .i64 (x23_2 + (1 : Int))), fr_next (fr_next (fr_next (fr_next (fr_next (rfl) (by kernel_rfl)) (by kernel_rfl)) (by kernel_rfl)) (by kernel_rfl)) (by kernel_rfl), rfl, H⟩ (sub_put (by exact rfl) (sub_nil _))

/-! ### shadowbox/pointer.Put: function 18 -/
def pointer_Put.tab9 : List (List Nat) := [[], [], [1], [1, 2], [1, 2, 3], [0, 1, 2, 3, 4], [], [6], [0, 1, 2, 3, 4, 5, 6, 7], [0, 1, 2, 3, 4, 5, 6, 7, 8]]
def pointer_Put.f (k : Nat) (l0 : List Int) (a1 : (Int × Int × Int × Int × (Vc Int 32))) : Option ((List Int)) :=
  (codec_Fixed.f k l0 (4 : Int) ([IntKind.wrap .u64 a1.1, IntKind.wrap .u64 a1.2.2.1])).bind fun t3 => (codec_Fixed.f k t3 (8 : Int) ([IntKind.wrap .u64 a1.2.1])).bind fun t7 => (codec_Fixed.f k t7 (4 : Int) ([IntKind.wrap .u64 a1.2.2.2.1])).bind fun t13 => (if (t13.length + a1.2.2.2.2.1.length) * 1 ≤ 140737488355328 then some (t13 ++ a1.2.2.2.2.1) else none)
set_option maxRecDepth 100000 in
set_option maxHeartbeats 4000000 in
theorem pointer_Put.calls (k : Nat) (A0 : Option Addr) (c0 : Nat) (l0 : List Int) (a1 : (Int × Int × Int × Int × (Vc Int 32))) (r : (List Int)) (b : Bs) (hs0 : St b (stl []) b.w) (R0 : Ro b A0 (em (Ec.int 5 .u8) l0)) (C0 : l0.length ≤ c0) (H : pointer_Put.f k l0 a1 = some r) :
    Calls Try.prog 18 #[.slice A0 l0.length c0, .agg ⟨([Value.int .i64 a1.1] ++ ([Value.int .i64 a1.2.1] ++ ([Value.int .i64 a1.2.2.1] ++ ([Value.int .u32 a1.2.2.2.1] ++ en (Value.int .u8) a1.2.2.2.2.1))))⟩] b.w fun e w' => ∃ x : (Option Addr × Nat), e = .returned (.slice x.1 r.length x.2) ∧ St b (stl [Ck.sl (Ec.int 5 .u8) x.1 x.2 r]) w' := by
  unfold pointer_Put.f at H
  refine enterb (n := 29) Try.func18 rfl (by kernel_rfl) (by kernel_rfl) hs0 ?_
  refine cs_sub (s0) (sub_nil _) ?_
  refine cs_seq ?_
  refine cs_region (l := [_, _]) ?_
  refine ls_new rfl rfl (by kernel_rfl) 0 (fun g => .pointer (some ⟨g, 0, none⟩)) (.cells ⟨([Value.int .i64 a1.1] ++ ([Value.int .i64 a1.2.1] ++ ([Value.int .i64 a1.2.2.1] ++ ([Value.int .u32 a1.2.2.2.1] ++ en (Value.int .u8) a1.2.2.2.2.1))))⟩ 25) (fun w => by kernel_rfl) ?_
  intro g1
  refine ls_val (v := .slice none 0 0) rfl rfl (by kernel_rfl) (fun w => by kernel_rfl) ?_
  refine ls_end ?_
  refine qn_then ?_
  refine cs_seq ?_
  refine cs_region (l := [_, _, _, _, _, _, _, _, _, _]) ?_
  refine ls_val (v := .slice A0 l0.length c0) rfl rfl (by kernel_rfl) (fun w => by kernel_rfl) ?_
  refine ls_val (v := .pointer (some ⟨g1, (0 + 0), none⟩)) rfl rfl (by kernel_rfl) (fun w => by kernel_rfl) ?_
  refine ls_load (a0 := ⟨g1, (0 + 0), none⟩) (v := .int .i64 a1.1) (de := (TypeDesc.int .i64)) rfl rfl (by kernel_rfl) rfl (by kernel_rfl) (by kernel_rfl) (by kernel_rfl) (fun w hs => (hs.var (k := 0) (by exact rfl) (Sub4.trans (Sub4.all _) (Sub4.head _ _)))) ?_
  refine ls_val (v := .int .u64 (IntKind.wrap .u64 a1.1)) rfl rfl (by kernel_rfl) (fun w => by kernel_rfl) ?_
  refine ls_val (v := .pointer (some ⟨g1, (0 + 2), none⟩)) rfl rfl (by kernel_rfl) (fun w => by kernel_rfl) ?_
  refine ls_load (a0 := ⟨g1, (0 + 2), none⟩) (v := .int .i64 a1.2.2.1) (de := (TypeDesc.int .i64)) rfl rfl (by kernel_rfl) rfl (by kernel_rfl) (by kernel_rfl) (by kernel_rfl) (fun w hs => (hs.var (k := 0) (by exact rfl) (Sub4.trans (Sub4.all _) (Sub4.skip (n := 1) (len1 _) (Sub4.skip (n := 1) (len1 _) (Sub4.head _ _)))))) ?_
  refine ls_val (v := .int .u64 (IntKind.wrap .u64 a1.2.2.1)) rfl rfl (by kernel_rfl) (fun w => by kernel_rfl) ?_
  refine ls_lit (Ec.int 62 .u64) 1 rfl rfl (by kernel_rfl) ([IntKind.wrap .u64 a1.1, IntKind.wrap .u64 a1.2.2.1]) (by exact of_decide_eq_true (by kernel_rfl)) (fun w => by kernel_rfl) ?_
  intro g2
  obtain ⟨t3, hc4, H⟩ := bind_some H
  refine ls_callb (fid := 34) (vals := #[.slice A0 l0.length c0, .int .i64 (4 : Int), .slice (some ⟨g2, 0, none⟩) ([IntKind.wrap .u64 a1.1, IntKind.wrap .u64 a1.2.2.1]).length [IntKind.wrap .u64 a1.1, IntKind.wrap .u64 a1.2.2.1].length]) (X := (Option Addr × Nat)) (fun x => .slice x.1 t3.length x.2) (fun x => stl [Ck.sl (Ec.int 5 .u8) x.1 x.2 t3]) [] [1] [] [Ck.sl (Ec.int 62 .u64) (some ⟨g2, 0, none⟩) ([IntKind.wrap .u64 a1.1, IntKind.wrap .u64 a1.2.2.1].length) ([IntKind.wrap .u64 a1.1, IntKind.wrap .u64 a1.2.2.1])] 2 rfl rfl (by kernel_rfl) (fun w => by kernel_rfl) trivial ⟨by exact rfl, trivial⟩ (by decide) (fun w hs hb => codec_Fixed.calls k A0 c0 l0 (4 : Int) (some ⟨g2, 0, none⟩) ([IntKind.wrap .u64 a1.1, IntKind.wrap .u64 a1.2.2.1].length) ([IntKind.wrap .u64 a1.1, IntKind.wrap .u64 a1.2.2.1]) t3 (lent b w [] [Ck.sl (Ec.int 62 .u64) (some ⟨g2, 0, none⟩) ([IntKind.wrap .u64 a1.1, IntKind.wrap .u64 a1.2.2.1].length) ([IntKind.wrap .u64 a1.1, IntKind.wrap .u64 a1.2.2.1])]) hb (hs.ro R0 _ _) C0 (hs.ror (k := 1) (by exact rfl) (.head _)) (hs.cap (k := 1) (by exact rfl)) hc4) ?_
  intro x5
  refine ls_val (v := .slice x5.1 t3.length x5.2) rfl rfl (by kernel_rfl) (fun w => by kernel_rfl) ?_
  refine ls_end ?_
  refine qn_then ?_
  refine cs_seq ?_
  refine cs_region (l := [_, _, _, _, _, _, _]) ?_
  refine ls_val (v := .slice x5.1 t3.length x5.2) rfl rfl (by kernel_rfl) (fun w => by kernel_rfl) ?_
  refine ls_val (v := .pointer (some ⟨g1, (0 + 1), none⟩)) rfl rfl (by kernel_rfl) (fun w => by kernel_rfl) ?_
  refine ls_load (a0 := ⟨g1, (0 + 1), none⟩) (v := .int .i64 a1.2.1) (de := (TypeDesc.int .i64)) rfl rfl (by kernel_rfl) rfl (by kernel_rfl) (by kernel_rfl) (by kernel_rfl) (fun w hs => (hs.var (k := 0) (by exact rfl) (Sub4.trans (Sub4.all _) (Sub4.skip (n := 1) (len1 _) (Sub4.head _ _))))) ?_
  refine ls_val (v := .int .u64 (IntKind.wrap .u64 a1.2.1)) rfl rfl (by kernel_rfl) (fun w => by kernel_rfl) ?_
  refine ls_lit (Ec.int 62 .u64) 3 rfl rfl (by kernel_rfl) ([IntKind.wrap .u64 a1.2.1]) (by exact of_decide_eq_true (by kernel_rfl)) (fun w => by kernel_rfl) ?_
  intro g6
  obtain ⟨t7, hc8, H⟩ := bind_some H
  refine ls_callb (fid := 34) (vals := #[.slice x5.1 t3.length x5.2, .int .i64 (8 : Int), .slice (some ⟨g6, 0, none⟩) ([IntKind.wrap .u64 a1.2.1]).length [IntKind.wrap .u64 a1.2.1].length]) (X := (Option Addr × Nat)) (fun x => .slice x.1 t7.length x.2) (fun x => stl [Ck.sl (Ec.int 5 .u8) x.1 x.2 t7]) [] [2, 3] [] [Ck.sl (Ec.int 5 .u8) x5.1 x5.2 t3, Ck.sl (Ec.int 62 .u64) (some ⟨g6, 0, none⟩) ([IntKind.wrap .u64 a1.2.1].length) ([IntKind.wrap .u64 a1.2.1])] 4 rfl rfl (by kernel_rfl) (fun w => by kernel_rfl) trivial ⟨by exact rfl, by exact rfl, trivial⟩ (by decide) (fun w hs hb => codec_Fixed.calls k x5.1 x5.2 t3 (8 : Int) (some ⟨g6, 0, none⟩) ([IntKind.wrap .u64 a1.2.1].length) ([IntKind.wrap .u64 a1.2.1]) t7 (lent b w [] [Ck.sl (Ec.int 5 .u8) x5.1 x5.2 t3, Ck.sl (Ec.int 62 .u64) (some ⟨g6, 0, none⟩) ([IntKind.wrap .u64 a1.2.1].length) ([IntKind.wrap .u64 a1.2.1])]) hb (hs.ror (k := 2) (by exact rfl) (.head _)) (hs.cap (k := 2) (by exact rfl)) (hs.ror (k := 3) (by exact rfl) (.tail _ (.head _))) (hs.cap (k := 3) (by exact rfl)) hc8) ?_
  intro x9
  refine ls_val (v := .slice x9.1 t7.length x9.2) rfl rfl (by kernel_rfl) (fun w => by kernel_rfl) ?_
  refine ls_end ?_
  refine qn_then ?_
  refine cs_seq ?_
  obtain ⟨s11_0, hs11_0⟩ : ∃ z : Value → Sto → Prop, z = (fun v R => v = .slice x9.1 t7.length x9.2 ∧ R = s0) := ⟨_, rfl⟩
  refine have_op (l := [_, _, _, _, _, _, _, _, _, _]) pointer_Put.tab9 5 0 (fun sp => sp 0 = s11_0) (fun sp on hA hon => ?_) (fun ops11_0 => ?_)
  · refine ⟨fun o ho vs Rs f' S' w hp hf hx hS hR hs => ?_⟩
    obtain rfl := Option.some.inj ho
    rw [hA, hs11_0]
    refine And.intro (fun a ha => (want_none rfl a ha).trans hon.symm) (And.intro (fun _ => ?_) (fun h => by rw [hon] at h; cases h))
    have hF := fr_next (rfl) ((hx 0 (by kernel_rfl)).trans (by kernel_rfl : (_ : Value) = .slice x9.1 t7.length x9.2))
    refine ls_fr hF ?_
    refine ls_val (v := .slice x9.1 t7.length x9.2) rfl rfl (by kernel_rfl) (fun w => by kernel_rfl) ?_
    exact ls_fin s0 (.slice x9.1 t7.length x9.2) (congrArg (fun z => upd z 20 _) hF.symm) ⟨rfl, rfl⟩ (sub_nil _)
  obtain ⟨s11_1, hs11_1⟩ : ∃ z : Value → Sto → Prop, z = (fun v R => v = .pointer (some ⟨g1, (0 + 3), none⟩) ∧ R = s0) := ⟨_, rfl⟩
  refine have_op (l := [_, _, _, _, _, _, _, _, _, _]) pointer_Put.tab9 5 1 (fun sp => sp 1 = s11_1) (fun sp on hA hon => ?_) (fun ops11_1 => ?_)
  · refine ⟨fun o ho vs Rs f' S' w hp hf hx hS hR hs => ?_⟩
    obtain rfl := Option.some.inj ho
    rw [hA, hs11_1]
    refine And.intro (fun a ha => (want_none rfl a ha).trans hon.symm) (And.intro (fun _ => ?_) (fun h => by rw [hon] at h; cases h))
    have hF := fr_next (rfl) ((hx 3 (by kernel_rfl)).trans (by kernel_rfl : (_ : Value) = .pointer (some ⟨g1, 0, none⟩)))
    refine ls_fr hF ?_
    refine ls_val (v := .pointer (some ⟨g1, (0 + 3), none⟩)) rfl rfl (by kernel_rfl) (fun w => by kernel_rfl) ?_
    exact ls_fin s0 (.pointer (some ⟨g1, (0 + 3), none⟩)) (congrArg (fun z => upd z 21 _) hF.symm) ⟨rfl, rfl⟩ (sub_nil _)
  obtain ⟨s11_2, hs11_2⟩ : ∃ z : Value → Sto → Prop, z = (fun v R => v = .int .u32 a1.2.2.2.1 ∧ R = s0) := ⟨_, rfl⟩
  refine have_op (l := [_, _, _, _, _, _, _, _, _, _]) pointer_Put.tab9 5 2 (fun sp => sp 2 = s11_2 ∧ sp 1 = s11_1) (fun sp on hA hon => ?_) (fun ops11_2 => ?_)
  · refine ⟨fun o ho vs Rs f' S' w hp hf hx hS hR hs => ?_⟩
    obtain rfl := Option.some.inj ho
    obtain ⟨hv1, hR1⟩ := (spe hA.2 hs11_1 (hp 1 (by kernel_rfl)))
    rw [hA.1, hs11_2]
    refine And.intro (fun a ha => (want_none rfl a ha).trans hon.symm) (And.intro (fun _ => ?_) (fun h => by rw [hon] at h; cases h))
    have hF := fr_next (rfl) ((hf 1 21 (by kernel_rfl) rfl).trans hv1)
    refine ls_fr hF ?_
    refine ls_load (a0 := ⟨g1, (0 + 3), none⟩) (v := .int .u32 a1.2.2.2.1) (de := (TypeDesc.int .u32)) rfl rfl (by kernel_rfl) rfl (by kernel_rfl) (by kernel_rfl) (by kernel_rfl) (fun w1 hs1 => cell_step hs1.below.bw (hs.var (k := 0) ((hS 0 (by kernel_rfl)).trans (by exact rfl)) (Sub4.trans (Sub4.all _) (Sub4.skip (n := 1) (len1 _) (Sub4.skip (n := 1) (len1 _) (Sub4.skip (n := 1) (len1 _) (Sub4.head _ _))))))) ?_
    exact ls_fin s0 (.int .u32 a1.2.2.2.1) (congrArg (fun z => upd z 22 _) hF.symm) ⟨rfl, rfl⟩ (sub_nil _)
  obtain ⟨s11_3, hs11_3⟩ : ∃ z : Value → Sto → Prop, z = (fun v R => v = .int .u64 (IntKind.wrap .u64 a1.2.2.2.1) ∧ R = s0) := ⟨_, rfl⟩
  refine have_op (l := [_, _, _, _, _, _, _, _, _, _]) pointer_Put.tab9 5 3 (fun sp => sp 3 = s11_3 ∧ sp 2 = s11_2) (fun sp on hA hon => ?_) (fun ops11_3 => ?_)
  · refine ⟨fun o ho vs Rs f' S' w hp hf hx hS hR hs => ?_⟩
    obtain rfl := Option.some.inj ho
    obtain ⟨hv2, hR2⟩ := (spe hA.2 hs11_2 (hp 2 (by kernel_rfl)))
    rw [hA.1, hs11_3]
    refine And.intro (fun a ha => (want_none rfl a ha).trans hon.symm) (And.intro (fun _ => ?_) (fun h => by rw [hon] at h; cases h))
    have hF := fr_next (rfl) ((hf 2 22 (by kernel_rfl) rfl).trans hv2)
    refine ls_fr hF ?_
    refine ls_val (v := .int .u64 (IntKind.wrap .u64 a1.2.2.2.1)) rfl rfl (by kernel_rfl) (fun w => by kernel_rfl) ?_
    exact ls_fin s0 (.int .u64 (IntKind.wrap .u64 a1.2.2.2.1)) (congrArg (fun z => upd z 23 _) hF.symm) ⟨rfl, rfl⟩ (sub_nil _)
  obtain ⟨s11_4, hs11_4⟩ : ∃ z : Value → Sto → Prop, z = (fun v R => ∃ g12 : Nat, v = .slice (some ⟨g12, 0, none⟩) [IntKind.wrap .u64 a1.2.2.2.1].length [IntKind.wrap .u64 a1.2.2.2.1].length ∧ R = sput s0 0 (some (Ck.sl (Ec.int 62 .u64) (some ⟨g12, 0, none⟩) ([IntKind.wrap .u64 a1.2.2.2.1].length) ([IntKind.wrap .u64 a1.2.2.2.1])))) := ⟨_, rfl⟩
  refine have_op (l := [_, _, _, _, _, _, _, _, _, _]) pointer_Put.tab9 5 4 (fun sp => sp 4 = s11_4 ∧ sp 3 = s11_3) (fun sp on hA hon => ?_) (fun ops11_4 => ?_)
  · refine ⟨fun o ho vs Rs f' S' w hp hf hx hS hR hs => ?_⟩
    obtain rfl := Option.some.inj ho
    obtain ⟨hv3, hR3⟩ := (spe hA.2 hs11_3 (hp 3 (by kernel_rfl)))
    rw [hA.1, hs11_4]
    refine And.intro (fun a ha => (want_none rfl a ha).trans hon.symm) (And.intro (fun _ => ?_) (fun h => by rw [hon] at h; cases h))
    have hF := fr_next (rfl) ((hf 3 23 (by kernel_rfl) rfl).trans hv3)
    refine ls_fr hF ?_
    refine ls_lit (Ec.int 62 .u64) 0 rfl rfl (by kernel_rfl) ([IntKind.wrap .u64 a1.2.2.2.1]) (by exact of_decide_eq_true (by kernel_rfl)) (fun w => by kernel_rfl) ?_
    intro g12
    exact ls_fin (sput s0 0 (some (Ck.sl (Ec.int 62 .u64) (some ⟨g12, 0, none⟩) ([IntKind.wrap .u64 a1.2.2.2.1].length) ([IntKind.wrap .u64 a1.2.2.2.1])))) (.slice (some ⟨g12, 0, none⟩) [IntKind.wrap .u64 a1.2.2.2.1].length [IntKind.wrap .u64 a1.2.2.2.1].length) (congrArg (fun z => upd z 24 _) hF.symm) ⟨g12, rfl, rfl⟩ (sub_put (by exact rfl) (sub_nil _))
  obtain ⟨t13, hc14, H⟩ := bind_some H
  obtain ⟨s11_5, hs11_5⟩ : ∃ z : Value → Sto → Prop, z = (fun v R => ∃ x15 : (Option Addr × Nat), v = .slice x15.1 t13.length x15.2 ∧ R = stl [Ck.sl (Ec.int 5 .u8) x15.1 x15.2 t13]) := ⟨_, rfl⟩
  refine have_op (l := [_, _, _, _, _, _, _, _, _, _]) pointer_Put.tab9 5 5 (fun sp => sp 5 = s11_5 ∧ sp 0 = s11_0 ∧ sp 4 = s11_4) (fun sp on hA hon => ?_) (fun ops11_5 => ?_)
  · refine ⟨fun o ho vs Rs f' S' w hp hf hx hS hR hs => ?_⟩
    obtain rfl := Option.some.inj ho
    obtain ⟨hv0, hR0⟩ := (spe hA.2.1 hs11_0 (hp 0 (by kernel_rfl)))
    obtain ⟨g12, hv4, hR4⟩ := (spe hA.2.2 hs11_4 (hp 4 (by kernel_rfl)))
    have hT4_0 := (hR 4 0 (by kernel_rfl) (by decide)).trans (congrFun hR4 0)
    rw [hA.1, hs11_5]
    refine And.intro (fun a ha => (want_none rfl a ha).trans hon.symm) (And.intro (fun _ => ?_) (fun h => by rw [hon] at h; cases h))
    have hF := fr_next (fr_next (rfl) ((hf 0 20 (by kernel_rfl) rfl).trans hv0)) ((hf 4 24 (by kernel_rfl) rfl).trans hv4)
    refine ls_fr hF ?_
    refine ls_call (fid := 34) (vals := #[.slice x9.1 t7.length x9.2, .int .i64 (4 : Int), .slice (some ⟨g12, 0, none⟩) ([IntKind.wrap .u64 a1.2.2.2.1]).length [IntKind.wrap .u64 a1.2.2.2.1].length]) (X := (Option Addr × Nat)) (fun x => .slice x.1 t13.length x.2) (fun x => stl [Ck.sl (Ec.int 5 .u8) x.1 x.2 t13]) 0 rfl rfl (by kernel_rfl) (fun w => by kernel_rfl) (fun w1 hs1 => codec_Fixed.calls k x9.1 x9.2 t7 (4 : Int) (some ⟨g12, 0, none⟩) ([IntKind.wrap .u64 a1.2.2.2.1].length) ([IntKind.wrap .u64 a1.2.2.2.1]) t13 (bw w1) (St.refl w1) (Rd.ro (Rd.step (hs.rd (k := 4) ((hS 4 (by kernel_rfl)).trans (by exact rfl))) hs1.below.bw)) (hs.cap (k := 4) ((hS 4 (by kernel_rfl)).trans (by exact rfl))) (Rd.ro (Rd.step (hs.rd (k := 37) hT4_0) hs1.below.bw)) (hs.cap (k := 37) hT4_0) hc14) ?_
    intro x15
    exact ls_fin (stl [Ck.sl (Ec.int 5 .u8) x15.1 x15.2 t13]) (.slice x15.1 t13.length x15.2) (congrArg (fun z => upd z 25 _) hF.symm) ⟨x15, rfl, rfl⟩ (sub_join _)
  obtain ⟨s11_6, hs11_6⟩ : ∃ z : Value → Sto → Prop, z = (fun v R => v = .pointer (some ⟨g1, (0 + 4), none⟩) ∧ R = s0) := ⟨_, rfl⟩
  refine have_op (l := [_, _, _, _, _, _, _, _, _, _]) pointer_Put.tab9 5 6 (fun sp => sp 6 = s11_6) (fun sp on hA hon => ?_) (fun ops11_6 => ?_)
  · refine ⟨fun o ho vs Rs f' S' w hp hf hx hS hR hs => ?_⟩
    obtain rfl := Option.some.inj ho
    rw [hA, hs11_6]
    refine And.intro (fun a ha => (want_none rfl a ha).trans hon.symm) (And.intro (fun _ => ?_) (fun h => by rw [hon] at h; cases h))
    have hF := fr_next (rfl) ((hx 3 (by kernel_rfl)).trans (by kernel_rfl : (_ : Value) = .pointer (some ⟨g1, 0, none⟩)))
    refine ls_fr hF ?_
    refine ls_val (v := .pointer (some ⟨g1, (0 + 4), none⟩)) rfl rfl (by kernel_rfl) (fun w => by kernel_rfl) ?_
    exact ls_fin s0 (.pointer (some ⟨g1, (0 + 4), none⟩)) (congrArg (fun z => upd z 26 _) hF.symm) ⟨rfl, rfl⟩ (sub_nil _)
  obtain ⟨s11_7, hs11_7⟩ : ∃ z : Value → Sto → Prop, z = (fun v R => v = .slice (some ⟨g1, (0 + 4), none⟩) a1.2.2.2.2.1.length 32 ∧ R = s0) := ⟨_, rfl⟩
  refine have_op (l := [_, _, _, _, _, _, _, _, _, _]) pointer_Put.tab9 5 7 (fun sp => sp 7 = s11_7 ∧ sp 6 = s11_6) (fun sp on hA hon => ?_) (fun ops11_7 => ?_)
  · refine ⟨fun o ho vs Rs f' S' w hp hf hx hS hR hs => ?_⟩
    obtain rfl := Option.some.inj ho
    obtain ⟨hv6, hR6⟩ := (spe hA.2 hs11_6 (hp 6 (by kernel_rfl)))
    rw [hA.1, hs11_7]
    refine And.intro (fun a ha => (want_none rfl a ha).trans hon.symm) (And.intro (fun _ => ?_) (fun h => by rw [hon] at h; cases h))
    have hF := fr_next (rfl) ((hf 6 26 (by kernel_rfl) rfl).trans hv6)
    refine ls_fr hF ?_
    refine ls_val (v := .slice (some ⟨g1, (0 + 4), none⟩) a1.2.2.2.2.1.length 32) rfl rfl (by kernel_rfl) (fun w => by rw [show a1.2.2.2.2.1.length = 32 from a1.2.2.2.2.2]; kernel_rfl) ?_
    exact ls_fin s0 (.slice (some ⟨g1, (0 + 4), none⟩) a1.2.2.2.2.1.length 32) (congrArg (fun z => upd z 27 _) hF.symm) ⟨rfl, rfl⟩ (sub_nil _)
  refine cs_draw pointer_Put.tab9 8 5 (spl [s11_0, s11_1, s11_2, s11_3, s11_4, s11_5, s11_6, s11_7]) (onl [true, true, true, true, true, true, true, true]) (by kernel_rfl) (by kernel_rfl) (by kernel_rfl) (by kernel_rfl) (rs := [_, _]) rfl (by kernel_rfl) (by kernel_rfl) (all_snoc (all_snoc (all_snoc (all_snoc (all_snoc (all_snoc (all_snoc (all_snoc (all_nil) (ops11_0 _ _ rfl rfl)) (ops11_1 _ _ rfl rfl)) (ops11_2 _ _ ⟨rfl, rfl⟩ rfl)) (ops11_3 _ _ ⟨rfl, rfl⟩ rfl)) (ops11_4 _ _ ⟨rfl, rfl⟩ rfl)) (ops11_5 _ _ ⟨rfl, rfl, rfl⟩ rfl)) (ops11_6 _ _ rfl rfl)) (ops11_7 _ _ ⟨rfl, rfl⟩ rfl)) ?_
  intro vs Rs f' S' hp hf hx hS hR
  obtain ⟨g12, hv4, hR4⟩ := (spe rfl hs11_4 (hp 4 (by kernel_rfl)))
  have hT4_0 := (hR 4 0 (by kernel_rfl) (by decide)).trans (congrFun hR4 0)
  obtain ⟨x15, hv5, hR5⟩ := (spe rfl hs11_5 (hp 5 (by kernel_rfl)))
  have hT5_0 := (hR 5 0 (by kernel_rfl) (by decide)).trans (congrFun hR5 0)
  obtain ⟨hv7, hR7⟩ := (spe rfl hs11_7 (hp 7 (by kernel_rfl)))
  refine ls_fr (F := upd (upd f' 25 (.slice x15.1 t13.length x15.2)) 27 (.slice (some ⟨g1, (0 + 4), none⟩) a1.2.2.2.2.1.length 32)) (fr_next (fr_next (rfl) ((hf 5 25 (by kernel_rfl) rfl).trans hv5)) ((hf 7 27 (by kernel_rfl) rfl).trans hv7)) ?_
  refine ls_sub (sput (sput s0 0 (some (Ck.var 25 g1 (([Value.int .i64 a1.1] ++ ([Value.int .i64 a1.2.1] ++ ([Value.int .i64 a1.2.2.1] ++ ([Value.int .u32 a1.2.2.2.1] ++ en (Value.int .u8) a1.2.2.2.2.1)))))))) 45 (some (Ck.sl (Ec.int 5 .u8) x15.1 x15.2 t13))) (sub_put (by exact hT5_0) (sub_put ((hS 0 (by kernel_rfl)).trans (by exact rfl)) (sub_nil _))) ?_
  obtain ⟨q16, H⟩ := ite_need H
  refine ls_app (Ec.int 5 .u8) (A := x15.1) (c := x15.2) (B := (some ⟨g1, (0 + 4), none⟩)) (cb := 32) (z := (Value.int .u8 0)) (l := t13) (m := a1.2.2.2.2.1) (bytes := 1) 45 rfl rfl (by kernel_rfl) rfl (by kernel_rfl) (by exact rfl) (by kernel_rfl) (fun w hs => (Rd.ofen (t := 5) (hs.vars (k := 0) (by exact rfl) (Sub4.trans (Sub4.all _) (Sub4.skip (n := 1) (len1 _) (Sub4.skip (n := 1) (len1 _) (Sub4.skip (n := 1) (len1 _) (Sub4.skip (n := 1) (len1 _) (Sub4.all _))))))))) (by kernel_rfl) (by kernel_rfl) rfl (by decide) q16 ?_
  intro xA17 xc18
  refine ls_val (v := .slice xA17 (t13 ++ a1.2.2.2.2.1).length xc18) rfl rfl (by kernel_rfl) (fun w => by kernel_rfl) ?_
  refine ls_end ?_
  refine qn_then ?_
  refine cs_ret' ?_
  obtain rfl := Option.some.inj H
  refine qr_res (rs := [_]) rfl (fun w' hs => ⟨[.slice xA17 (t13 ++ a1.2.2.2.2.1).length xc18], (res_tmp (by kernel_rfl) (.nil)), (xA17, xc18), rfl, hs.pick (ts := [45]) (cs := [Ck.sl (Ec.int 5 .u8) xA17 xc18 (t13 ++ a1.2.2.2.2.1)]) ⟨by exact rfl, trivial⟩ (by decide)⟩)

/-! ### shadowbox/crc.halves: function 56 -/
def crc_halves.cst0 : Vc Int 16 := ⟨[(0 : Int), (274646895 : Int), (549293790 : Int), (820201905 : Int), (1098587580 : Int), (1361435347 : Int), (1640403810 : Int), (1905808397 : Int), (2197175160 : Int), (2460548119 : Int), (2722870694 : Int), (2987750089 : Int), (3280807620 : Int), (3553878443 : Int), (3811616794 : Int), (4084100981 : Int)], rfl⟩
def crc_halves.f (k : Nat) : Option ((Vc Int 16)) :=
  some crc_halves.cst0
set_option maxRecDepth 100000 in
set_option maxHeartbeats 4000000 in
theorem crc_halves.calls (k : Nat)  (r : (Vc Int 16)) (b : Bs) (hs0 : St b (stl []) b.w) (H : crc_halves.f k = some r) :
    Calls Try.prog 56 #[] b.w fun e w' => ∃ x : Unit, e = .returned (.agg ⟨en (Value.int .u32) r.1⟩) ∧ St b (stl []) w' := by
  unfold crc_halves.f at H
  refine enterb (n := 2) Try.func56 rfl (by kernel_rfl) (by kernel_rfl) hs0 ?_
  refine cs_sub (s0) (sub_nil _) ?_
  refine cs_seq ?_
  refine cs_region (l := [_]) ?_
  refine ls_new rfl rfl (by kernel_rfl) 0 (fun g => .pointer (some ⟨g, 0, none⟩)) (.cells ⟨en (Value.int .u32) (vrep 16 (0 : Int)).1⟩ 92) (fun w => by kernel_rfl) ?_
  intro g1
  refine ls_end ?_
  refine qn_then ?_
  refine cs_seq ?_
  refine cs_region (l := [_, _]) ?_
  refine ls_val (v := .agg ⟨en (Value.int .u32) crc_halves.cst0.1⟩) rfl rfl (by kernel_rfl) (fun w => by kernel_rfl) ?_
  refine ls_storec (g := g1) (off := 0) (v := .agg ⟨en (Value.int .u32) crc_halves.cst0.1⟩) (vs := en (Value.int .u32) crc_halves.cst0.1) (cs := en (Value.int .u32) (vrep 16 (0 : Int)).1) (ty := 92) 0 rfl rfl rfl (by kernel_rfl) (by kernel_rfl) (by kernel_rfl) (by exact rfl) (by kernel_rfl) (len_en _ crc_halves.cst0) (one_en (fun _ => rfl) _) (hl_of (Sub4.all _) (len_eq (len_en _ crc_halves.cst0) (len_en _ (vrep 16 (0 : Int))))) (cs' := en (Value.int .u32) crc_halves.cst0.1) (splc_all (len_eq (len_en _ crc_halves.cst0) (len_en _ (vrep 16 (0 : Int))))) ?_
  refine ls_end ?_
  refine qn_then ?_
  refine cs_ret' ?_
  obtain rfl := Option.some.inj H
  refine qr_res (rs := [_]) rfl (fun w' hs => ⟨[.agg ⟨en (Value.int .u32) crc_halves.cst0.1⟩], (.cell (by kernel_rfl) (run_cellres (by kernel_rfl) (by kernel_rfl) (len_en _ crc_halves.cst0) (hs.holds 0 _ (by exact rfl))) (.nil)), (), rfl, hs.pick (ts := []) (cs := []) trivial (by decide)⟩)

/-! ### shadowbox/crc.Go$1: function 57 -/
def crc_Go_1.tab0 : List (List Nat) := [[], [0], [], [2], [2, 3], [2, 3, 4], [0, 1, 2, 3, 4, 5], [0, 1, 2, 3, 4, 5, 6]]
def crc_Go_1.f (k : Nat) (v0 : Int) (v1 : (Vc Int 16)) : Option (Int) :=
  (if 0 ≤ bits .and .u32 v0 (15 : Int) then (if bits .and .u32 v0 (15 : Int) < (16 : Int) then lt ((v1.1.getD (bits .and .u32 v0 (15 : Int)).toNat (0 : Int))) fun y5 => some (bits .xor .u32 (Int.fdiv v0 16) y5) else none) else none)
set_option maxRecDepth 100000 in
set_option maxHeartbeats 4000000 in
theorem crc_Go_1.calls (k : Nat) (pg0 : Nat) (v0 : Int) (pg1 : Nat) (v1 : (Vc Int 16)) (r : Int) (b : Bs) (hs0 : St b (stl [Ck.var 22 pg0 ([Value.int .u32 v0]), Ck.var 92 pg1 (en (Value.int .u32) v1.1)]) b.w) (H : crc_Go_1.f k v0 v1 = some r) :
    Calls Try.prog 57 #[.pointer (some ⟨pg0, 0, none⟩), .pointer (some ⟨pg1, 0, none⟩)] b.w fun e w' => ∃ x : Unit, e = .returned (.tuple #[]) ∧ St b (stl [Ck.var 22 pg0 ([Value.int .u32 r]), Ck.var 92 pg1 (en (Value.int .u32) v1.1)]) w' := by
  unfold crc_Go_1.f at H
  refine enterb (n := 9) Try.func57 rfl (by kernel_rfl) (by kernel_rfl) hs0 ?_
  refine cs_sub (sput (sput s0 0 (some (Ck.var 22 pg0 ([Value.int .u32 v0])))) 1 (some (Ck.var 92 pg1 (en (Value.int .u32) v1.1)))) (sub_put (by exact rfl) (sub_put (by exact rfl) (sub_nil _))) ?_
  obtain ⟨s2_0, hs2_0⟩ : ∃ z : Value → Sto → Prop, z = (fun v R => v = .int .u32 v0 ∧ R = s0) := ⟨_, rfl⟩
  refine have_op (l := [_, _, _, _, _, _, _, _]) crc_Go_1.tab0 2 0 (fun sp => sp 0 = s2_0) (fun sp on hA hon => ?_) (fun ops2_0 => ?_)
  · refine ⟨fun o ho vs Rs f' S' w hp hf hx hS hR hs => ?_⟩
    obtain rfl := Option.some.inj ho
    rw [hA, hs2_0]
    refine And.intro (fun a ha => (want_none rfl a ha).trans hon.symm) (And.intro (fun _ => ?_) (fun h => by rw [hon] at h; cases h))
    have hF := fr_next (rfl) ((hx 0 (by kernel_rfl)).trans (by kernel_rfl : (_ : Value) = .pointer (some ⟨pg0, 0, none⟩)))
    refine ls_fr hF ?_
    refine ls_load (a0 := ⟨pg0, 0, none⟩) (v := .int .u32 v0) (de := (TypeDesc.int .u32)) rfl rfl (by kernel_rfl) rfl (by kernel_rfl) (by kernel_rfl) (by kernel_rfl) (fun w1 hs1 => cell_step hs1.below.bw (hs.var (k := 0) ((hS 0 (by kernel_rfl)).trans (by exact rfl)) (Sub4.all _))) ?_
    exact ls_fin s0 (.int .u32 v0) (congrArg (fun z => upd z 2 _) hF.symm) ⟨rfl, rfl⟩ (sub_nil _)
  obtain ⟨s2_1, hs2_1⟩ : ∃ z : Value → Sto → Prop, z = (fun v R => v = .int .u32 (Int.fdiv v0 16) ∧ R = s0) := ⟨_, rfl⟩
  refine have_op (l := [_, _, _, _, _, _, _, _]) crc_Go_1.tab0 2 1 (fun sp => sp 1 = s2_1 ∧ sp 0 = s2_0) (fun sp on hA hon => ?_) (fun ops2_1 => ?_)
  · refine ⟨fun o ho vs Rs f' S' w hp hf hx hS hR hs => ?_⟩
    obtain rfl := Option.some.inj ho
    obtain ⟨hv0, hR0⟩ := (spe hA.2 hs2_0 (hp 0 (by kernel_rfl)))
    rw [hA.1, hs2_1]
    refine And.intro (fun a ha => (want_none rfl a ha).trans hon.symm) (And.intro (fun _ => ?_) (fun h => by rw [hon] at h; cases h))
    have hF := fr_next (rfl) ((hf 0 2 (by kernel_rfl) rfl).trans hv0)
    refine ls_fr hF ?_
    refine ls_val (v := .int .u32 (Int.fdiv v0 16)) rfl rfl (by kernel_rfl) (fun w => by kernel_rfl) ?_
    exact ls_fin s0 (.int .u32 (Int.fdiv v0 16)) (congrArg (fun z => upd z 3 _) hF.symm) ⟨rfl, rfl⟩ (sub_nil _)
  obtain ⟨s2_2, hs2_2⟩ : ∃ z : Value → Sto → Prop, z = (fun v R => v = .int .u32 v0 ∧ R = s0) := ⟨_, rfl⟩
  refine have_op (l := [_, _, _, _, _, _, _, _]) crc_Go_1.tab0 2 2 (fun sp => sp 2 = s2_2) (fun sp on hA hon => ?_) (fun ops2_2 => ?_)
  · refine ⟨fun o ho vs Rs f' S' w hp hf hx hS hR hs => ?_⟩
    obtain rfl := Option.some.inj ho
    rw [hA, hs2_2]
    refine And.intro (fun a ha => (want_none rfl a ha).trans hon.symm) (And.intro (fun _ => ?_) (fun h => by rw [hon] at h; cases h))
    have hF := fr_next (rfl) ((hx 0 (by kernel_rfl)).trans (by kernel_rfl : (_ : Value) = .pointer (some ⟨pg0, 0, none⟩)))
    refine ls_fr hF ?_
    refine ls_load (a0 := ⟨pg0, 0, none⟩) (v := .int .u32 v0) (de := (TypeDesc.int .u32)) rfl rfl (by kernel_rfl) rfl (by kernel_rfl) (by kernel_rfl) (by kernel_rfl) (fun w1 hs1 => cell_step hs1.below.bw (hs.var (k := 0) ((hS 0 (by kernel_rfl)).trans (by exact rfl)) (Sub4.all _))) ?_
    exact ls_fin s0 (.int .u32 v0) (congrArg (fun z => upd z 4 _) hF.symm) ⟨rfl, rfl⟩ (sub_nil _)
  obtain ⟨s2_3, hs2_3⟩ : ∃ z : Value → Sto → Prop, z = (fun v R => v = .int .u32 (bits .and .u32 v0 (15 : Int)) ∧ R = s0) := ⟨_, rfl⟩
  refine have_op (l := [_, _, _, _, _, _, _, _]) crc_Go_1.tab0 2 3 (fun sp => sp 3 = s2_3 ∧ sp 2 = s2_2) (fun sp on hA hon => ?_) (fun ops2_3 => ?_)
  · refine ⟨fun o ho vs Rs f' S' w hp hf hx hS hR hs => ?_⟩
    obtain rfl := Option.some.inj ho
    obtain ⟨hv2, hR2⟩ := (spe hA.2 hs2_2 (hp 2 (by kernel_rfl)))
    rw [hA.1, hs2_3]
    refine And.intro (fun a ha => (want_none rfl a ha).trans hon.symm) (And.intro (fun _ => ?_) (fun h => by rw [hon] at h; cases h))
    have hF := fr_next (rfl) ((hf 2 4 (by kernel_rfl) rfl).trans hv2)
    refine ls_fr hF ?_
    refine ls_val (v := .int .u32 (bits .and .u32 v0 (15 : Int))) rfl rfl (by kernel_rfl) (fun w => by kernel_rfl) ?_
    exact ls_fin s0 (.int .u32 (bits .and .u32 v0 (15 : Int))) (congrArg (fun z => upd z 5 _) hF.symm) ⟨rfl, rfl⟩ (sub_nil _)
  obtain ⟨q3, H⟩ := ite_need H
  obtain ⟨q4, H⟩ := ite_need H
  obtain ⟨s2_4, hs2_4⟩ : ∃ z : Value → Sto → Prop, z = (fun v R => v = .pointer (some ⟨pg1, (0 + (bits .and .u32 v0 (15 : Int)).toNat), none⟩) ∧ R = s0) := ⟨_, rfl⟩
  refine have_op (l := [_, _, _, _, _, _, _, _]) crc_Go_1.tab0 2 4 (fun sp => sp 4 = s2_4 ∧ sp 3 = s2_3) (fun sp on hA hon => ?_) (fun ops2_4 => ?_)
  · refine ⟨fun o ho vs Rs f' S' w hp hf hx hS hR hs => ?_⟩
    obtain rfl := Option.some.inj ho
    obtain ⟨hv3, hR3⟩ := (spe hA.2 hs2_3 (hp 3 (by kernel_rfl)))
    rw [hA.1, hs2_4]
    refine And.intro (fun a ha => (want_none rfl a ha).trans hon.symm) (And.intro (fun _ => ?_) (fun h => by rw [hon] at h; cases h))
    have hF := fr_next (fr_next (rfl) ((hx 1 (by kernel_rfl)).trans (by kernel_rfl : (_ : Value) = .pointer (some ⟨pg1, 0, none⟩)))) ((hf 3 5 (by kernel_rfl) rfl).trans hv3)
    refine ls_fr hF ?_
    refine ls_idxa1 (g := pg1) (off := 0) (i := bits .and .u32 v0 (15 : Int)) (kk := .u32) (ln := 16) (e := 22) rfl rfl (by kernel_rfl) rfl (by kernel_rfl) (by kernel_rfl) (by kernel_rfl) (by kernel_rfl) q3 q4 ?_
    exact ls_fin s0 (.pointer (some ⟨pg1, (0 + (bits .and .u32 v0 (15 : Int)).toNat), none⟩)) (congrArg (fun z => upd z 6 _) hF.symm) ⟨rfl, rfl⟩ (sub_nil _)
  obtain ⟨y5, hy6, H⟩ := lt_some H
  obtain ⟨s2_5, hs2_5⟩ : ∃ z : Value → Sto → Prop, z = (fun v R => v = .int .u32 y5 ∧ R = s0) := ⟨_, rfl⟩
  refine have_op (l := [_, _, _, _, _, _, _, _]) crc_Go_1.tab0 2 5 (fun sp => sp 5 = s2_5 ∧ sp 4 = s2_4) (fun sp on hA hon => ?_) (fun ops2_5 => ?_)
  · refine ⟨fun o ho vs Rs f' S' w hp hf hx hS hR hs => ?_⟩
    obtain rfl := Option.some.inj ho
    obtain ⟨hv4, hR4⟩ := (spe hA.2 hs2_4 (hp 4 (by kernel_rfl)))
    rw [hA.1, hs2_5]
    refine And.intro (fun a ha => (want_none rfl a ha).trans hon.symm) (And.intro (fun _ => ?_) (fun h => by rw [hon] at h; cases h))
    have hF := fr_next (rfl) ((hf 4 6 (by kernel_rfl) rfl).trans hv4)
    refine ls_fr hF ?_
    refine ls_load (a0 := ⟨pg1, (0 + (bits .and .u32 v0 (15 : Int)).toNat), none⟩) (v := .int .u32 (v1.1.getD (bits .and .u32 v0 (15 : Int)).toNat (0 : Int))) (de := (TypeDesc.int .u32)) rfl rfl (by kernel_rfl) rfl (by kernel_rfl) (by kernel_rfl) (by kernel_rfl) (fun w1 hs1 => cell_step hs1.below.bw (hs.var (k := 1) ((hS 1 (by kernel_rfl)).trans (by exact rfl)) (Sub4.trans (Sub4.all _) (Sub4.one (i := (bits .and .u32 v0 (15 : Int)).toNat) (Value.int .u32) v1.1 0 (by have := v1.2; omega))))) ?_
    refine ls_ren 7 (v := .int .u32 (v1.1.getD (bits .and .u32 v0 (15 : Int)).toNat (0 : Int))) (v' := .int .u32 y5) (by kernel_rfl) (by rw [hy6]) ?_
    exact ls_fin s0 (.int .u32 y5) ((upd_upd _ _ _ _).trans (congrArg (fun z => upd z 7 _) hF.symm)) ⟨rfl, rfl⟩ (sub_nil _)
  refine cs_draw crc_Go_1.tab0 6 2 (spl [s2_0, s2_1, s2_2, s2_3, s2_4, s2_5]) (onl [true, true, true, true, true, true]) (by kernel_rfl) (by kernel_rfl) (by kernel_rfl) (by kernel_rfl) (rs := [_, _]) rfl (by kernel_rfl) (by kernel_rfl) (all_snoc (all_snoc (all_snoc (all_snoc (all_snoc (all_snoc (all_nil) (ops2_0 _ _ rfl rfl)) (ops2_1 _ _ ⟨rfl, rfl⟩ rfl)) (ops2_2 _ _ rfl rfl)) (ops2_3 _ _ ⟨rfl, rfl⟩ rfl)) (ops2_4 _ _ ⟨rfl, rfl⟩ rfl)) (ops2_5 _ _ ⟨rfl, rfl⟩ rfl)) ?_
  intro vs Rs f' S' hp hf hx hS hR
  obtain ⟨hv1, hR1⟩ := (spe rfl hs2_1 (hp 1 (by kernel_rfl)))
  obtain ⟨hv5, hR5⟩ := (spe rfl hs2_5 (hp 5 (by kernel_rfl)))
  refine ls_fr (F := upd (upd (upd f' 0 (.pointer (some ⟨pg0, 0, none⟩))) 3 (.int .u32 (Int.fdiv v0 16))) 7 (.int .u32 y5)) (fr_next (fr_next (fr_next (rfl) ((hx 0 (by kernel_rfl)).trans (by kernel_rfl : (_ : Value) = .pointer (some ⟨pg0, 0, none⟩)))) ((hf 1 3 (by kernel_rfl) rfl).trans hv1)) ((hf 5 7 (by kernel_rfl) rfl).trans hv5)) ?_
  refine ls_sub (sput (sput s0 0 (some (Ck.var 22 pg0 ([Value.int .u32 v0])))) 1 (some (Ck.var 92 pg1 (en (Value.int .u32) v1.1)))) (sub_put ((hS 1 (by kernel_rfl)).trans (by exact rfl)) (sub_put ((hS 0 (by kernel_rfl)).trans (by exact rfl)) (sub_nil _))) ?_
  refine ls_val (v := .int .u32 (bits .xor .u32 (Int.fdiv v0 16) y5)) rfl rfl (by kernel_rfl) (fun w => by kernel_rfl) ?_
  refine ls_storec (g := pg0) (off := 0) (v := .int .u32 (bits .xor .u32 (Int.fdiv v0 16) y5)) (vs := [Value.int .u32 (bits .xor .u32 (Int.fdiv v0 16) y5)]) (cs := [Value.int .u32 v0]) (ty := 22) 0 rfl rfl rfl (by kernel_rfl) (by kernel_rfl) (by kernel_rfl) (by exact rfl) (by kernel_rfl) (len1 _) (one_cons rfl one_nil) (hl_of (Sub4.all _) (len_eq (len1 _) (len1 _))) (cs' := [Value.int .u32 (bits .xor .u32 (Int.fdiv v0 16) y5)]) (splc_all (len_eq (len1 _) (len1 _))) ?_
  refine ls_end ?_
  obtain rfl := Option.some.inj H
  refine qn_res (rs := []) rfl (fun w' hs => ⟨[], (.nil), (), rfl, hs.pick (ts := [0, 1]) (cs := [Ck.var 22 pg0 ([Value.int .u32 (bits .xor .u32 (Int.fdiv v0 16) y5)]), Ck.var 92 pg1 (en (Value.int .u32) v1.1)]) ⟨by exact rfl, by exact rfl, trivial⟩ (by decide)⟩)

/-! ### shadowbox/crc.Go: function 45 -/
def crc_Go.lo1 (l1 : List Int) (t1 : (Vc Int 16)) : Nat → Int → Int → Option (Int)
  | 0, _, _ => none
  | k1 + 1, x16_1, m1_1 => (if x16_1 < (l1.length : Int) then (if 0 ≤ x16_1 then lt (IntKind.wrap .u32 ((l1).getD (x16_1).toNat (0 : Int))) fun y12 => (crc_Go_1.f k1 (bits .xor .u32 m1_1 y12) t1).bind fun t14 => (crc_Go_1.f k1 t14 t1).bind fun t17 => (crc_Go.lo1 l1 t1 k1) (IntKind.wrap .i64 (x16_1 + (1 : Int))) t17 else none) else lt (bits .xor .u32 (if IntKind.signed .u32 then -1 else IntKind.max .u32) m1_1) fun y20 => some y20)
def crc_Go.f (k : Nat) (a0 : Int) (l1 : List Int) : Option (Int) :=
  (crc_halves.f k).bind fun t1 => lt (bits .xor .u32 (if IntKind.signed .u32 then -1 else IntKind.max .u32) a0) fun y5 => crc_Go.lo1 l1 t1 k (0 : Int) y5
set_option maxRecDepth 100000 in
set_option maxHeartbeats 4000000 in
theorem crc_Go.calls (k : Nat) (a0 : Int) (A1 : Option Addr) (c1 : Nat) (l1 : List Int) (r : Int) (b : Bs) (hs0 : St b (stl []) b.w) (R1 : Ro b A1 (em (Ec.int 5 .u8) l1)) (C1 : l1.length ≤ c1) (H : crc_Go.f k a0 l1 = some r) :
    Calls Try.prog 45 #[.int .u32 a0, .slice A1 l1.length c1] b.w fun e w' => ∃ x : Unit, e = .returned (.int .u32 r) ∧ St b (stl []) w' := by
  unfold crc_Go.f at H
  refine enterb (n := 31) Try.func45 rfl (by kernel_rfl) (by kernel_rfl) hs0 ?_
  refine cs_sub (s0) (sub_nil _) ?_
  refine cs_seq ?_
  refine cs_region (l := [_]) ?_
  refine ls_val (v := .int .u32 (0 : Int)) rfl rfl (by kernel_rfl) (fun w => by kernel_rfl) ?_
  refine ls_end ?_
  refine qn_then ?_
  refine cs_seq ?_
  refine cs_region (l := [_, _, _]) ?_
  obtain ⟨t1, hc2, H⟩ := bind_some H
  refine ls_callb (fid := 56) (vals := #[]) (X := Unit) (fun x => .agg ⟨en (Value.int .u32) t1.1⟩) (fun x => stl []) [] [] [] [] 0 rfl rfl (by kernel_rfl) (fun w => by kernel_rfl) trivial trivial (by decide) (fun w hs hb => crc_halves.calls k  t1 (lent b w [] []) hb  hc2) ?_
  intro x3
  refine ls_new rfl rfl (by kernel_rfl) 0 (fun g => .pointer (some ⟨g, 0, none⟩)) (.cells ⟨en (Value.int .u32) (vrep 16 (0 : Int)).1⟩ 92) (fun w => by kernel_rfl) ?_
  intro g4
  refine ls_storec (g := g4) (off := 0) (v := .agg ⟨en (Value.int .u32) t1.1⟩) (vs := en (Value.int .u32) t1.1) (cs := en (Value.int .u32) (vrep 16 (0 : Int)).1) (ty := 92) 0 rfl rfl rfl (by kernel_rfl) (by kernel_rfl) (by kernel_rfl) (by exact rfl) (by kernel_rfl) (len_en _ t1) (one_en (fun _ => rfl) _) (hl_of (Sub4.all _) (len_eq (len_en _ t1) (len_en _ (vrep 16 (0 : Int))))) (cs' := en (Value.int .u32) t1.1) (splc_all (len_eq (len_en _ t1) (len_en _ (vrep 16 (0 : Int))))) ?_
  refine ls_end ?_
  refine qn_then ?_
  refine cs_seq ?_
  refine cs_region (l := [_, _, _, _]) ?_
  refine ls_val (v := .int .u32 a0) rfl rfl (by kernel_rfl) (fun w => by kernel_rfl) ?_
  obtain ⟨y5, hy6, H⟩ := lt_some H
  refine ls_val (v := .int .u32 (bits .xor .u32 (if IntKind.signed .u32 then -1 else IntKind.max .u32) a0)) rfl rfl (by kernel_rfl) (fun w => by kernel_rfl) ?_
  refine ls_ren 12 (v := .int .u32 (bits .xor .u32 (if IntKind.signed .u32 then -1 else IntKind.max .u32) a0)) (v' := .int .u32 y5) (by kernel_rfl) (by rw [hy6]) ?_
  refine ls_new rfl rfl (by kernel_rfl) 1 (fun g => .pointer (some ⟨g, 0, none⟩)) (.cells ⟨[Value.int .u32 (0 : Int)]⟩ 22) (fun w => by kernel_rfl) ?_
  intro g7
  refine ls_storec (g := g7) (off := 0) (v := .int .u32 y5) (vs := [Value.int .u32 y5]) (cs := [Value.int .u32 (0 : Int)]) (ty := 22) 1 rfl rfl rfl (by kernel_rfl) (by kernel_rfl) (by kernel_rfl) (by exact rfl) (by kernel_rfl) (len1 _) (one_cons rfl one_nil) (hl_of (Sub4.all _) (len_eq (len1 _) (len1 _))) (cs' := [Value.int .u32 y5]) (splc_all (len_eq (len1 _) (len1 _))) ?_
  refine ls_end ?_
  refine qn_then ?_
  refine cs_seq ?_
  refine cs_region (l := [_, _]) ?_
  refine ls_val (v := .func (.func 57) #[] #[.pointer (some ⟨g7, 0, none⟩), .pointer (some ⟨g4, 0, none⟩)]) rfl rfl (by kernel_rfl) (fun w => by kernel_rfl) ?_
  refine ls_val (v := .func (.func 57) #[] #[.pointer (some ⟨g7, 0, none⟩), .pointer (some ⟨g4, 0, none⟩)]) rfl rfl (by kernel_rfl) (fun w => by kernel_rfl) ?_
  refine ls_end ?_
  refine qn_then ?_
  refine cs_seq ?_
  refine cs_seq ?_
  refine cs_region (l := [_, _, _]) ?_
  refine ls_val (v := .slice A1 l1.length c1) rfl rfl (by kernel_rfl) (fun w => by kernel_rfl) ?_
  refine ls_val (v := .int .i64 (l1.length : Int)) rfl rfl (by kernel_rfl) (fun w => by kernel_rfl) ?_
  refine ls_val (v := .int .i64 (0 : Int)) rfl rfl (by kernel_rfl) (fun w => by kernel_rfl) ?_
  refine ls_end ?_
  refine qn_then ?_
  refine cs_block ?_
  refine cs_sub (sput (sput s0 0 (some (Ck.var 92 g4 (en (Value.int .u32) t1.1)))) 1 (some (Ck.var 22 g7 ([Value.int .u32 y5])))) (sub_put (by exact rfl) (sub_put (by exact rfl) (sub_nil _))) ?_
  refine cs_loop (fun kk f S => ∃ (fR : Fr) (x16_1 : Int) (m1_1 : Int), f = upd (upd (upd (upd (upd fR 6 (.pointer (some ⟨g7, 0, none⟩))) 7 (.func (.func 57) #[] #[.pointer (some ⟨g7, 0, none⟩), .pointer (some ⟨g4, 0, none⟩)])) 14 (.slice A1 l1.length c1)) 15 (.int .i64 (l1.length : Int))) 16 (.int .i64 x16_1) ∧ S = sput (sput s0 0 (some (Ck.var 92 g4 (en (Value.int .u32) t1.1)))) 1 (some (Ck.var 22 g7 ([Value.int .u32 m1_1]))) ∧ crc_Go.lo1 l1 t1 kk x16_1 m1_1 = some r) k ?_ ?_ ?_
  · exact ⟨_, (0 : Int), y5, fr_next (fr_next (fr_next (fr_next (fr_next (rfl) (by kernel_rfl)) (by kernel_rfl)) (by kernel_rfl)) (by kernel_rfl)) (by kernel_rfl), rfl, H⟩
  · rintro f S ⟨fr1, x16_1, m1_1, rfl, rfl, H⟩; cases H
  · rintro k1 f S ⟨fr1, x16_1, m1_1, rfl, rfl, H⟩
    replace H : ((if x16_1 < (l1.length : Int) then (if 0 ≤ x16_1 then lt (IntKind.wrap .u32 ((l1).getD (x16_1).toNat (0 : Int))) fun y12 => (crc_Go_1.f k1 (bits .xor .u32 m1_1 y12) t1).bind fun t14 => (crc_Go_1.f k1 t14 t1).bind fun t17 => (crc_Go.lo1 l1 t1 k1) (IntKind.wrap .i64 (x16_1 + (1 : Int))) t17 else none) else lt (bits .xor .u32 (if IntKind.signed .u32 then -1 else IntKind.max .u32) m1_1) fun y20 => some y20)) = some r := H
    refine cs_seq ?_
    refine cs_region (l := [_]) ?_
    refine ls_val (v := .bool (decide (x16_1 < (l1.length : Int)))) rfl rfl (by kernel_rfl) (fun w => by kernel_rfl) ?_
    refine ls_end ?_
    refine qn_then ?_
    refine cs_seq ?_
    by_cases q8 : x16_1 < (l1.length : Int)
    · replace H := ite_t q8 H
      refine cs_know (c := true) (dec_t q8) 17 (by kernel_rfl) ?_
      refine cs_true (by kernel_rfl) ?_
      refine cs_skip' ?_
      refine qn_then ?_
      refine cs_seq ?_
      refine cs_block ?_
      refine cs_seq ?_
      refine cs_region (l := [_, _, _]) ?_
      obtain ⟨q9, H⟩ := ite_need H
      obtain ⟨ad10, hA11⟩ := ido_at (T := (Ec.int 5 .u8)) (l := l1) (i := x16_1) R1 q9 q8
      refine ls_idxv (Ec.int 5 .u8) (A := A1) (c := c1) (l := l1) (k := .i64) (i := x16_1) (z := 1) (ad := ad10) rfl rfl (by kernel_rfl) hA11 rfl (by kernel_rfl) (by kernel_rfl) (by kernel_rfl) (by kernel_rfl) q9 q8 ?_
      refine ls_load (a0 := (ad10.add ((x16_1).toNat * 1))) (v := .int .u8 ((l1).getD (x16_1).toNat (0 : Int))) (de := (TypeDesc.int .u8)) rfl rfl (by kernel_rfl) rfl (by kernel_rfl) (by kernel_rfl) (by kernel_rfl) (fun w hs => (hs.old R1).at hA11 (em_sub (Ec.int 5 .u8) l1 (i := (x16_1).toNat) (by have h0 : (0 : Int) ≤ x16_1 := q9; have h1 : x16_1 < (l1.length : Int) := q8; omega))) ?_
      refine ls_val (v := .int .u8 ((l1).getD (x16_1).toNat (0 : Int))) rfl rfl (by kernel_rfl) (fun w => by kernel_rfl) ?_
      refine ls_end ?_
      refine qn_then ?_
      refine cs_seq ?_
      refine cs_region (l := [_, _, _, _, _]) ?_
      refine ls_load (a0 := ⟨g7, 0, none⟩) (v := .int .u32 m1_1) (de := (TypeDesc.int .u32)) rfl rfl (by kernel_rfl) rfl (by kernel_rfl) (by kernel_rfl) (by kernel_rfl) (fun w hs => (hs.var (k := 1) (by exact rfl) (Sub4.all _))) ?_
      refine ls_val (v := .int .u8 ((l1).getD (x16_1).toNat (0 : Int))) rfl rfl (by kernel_rfl) (fun w => by kernel_rfl) ?_
      obtain ⟨y12, hy13, H⟩ := lt_some H
      refine ls_val (v := .int .u32 (IntKind.wrap .u32 ((l1).getD (x16_1).toNat (0 : Int)))) rfl rfl (by kernel_rfl) (fun w => by kernel_rfl) ?_
      refine ls_ren 22 (v := .int .u32 (IntKind.wrap .u32 ((l1).getD (x16_1).toNat (0 : Int)))) (v' := .int .u32 y12) (by kernel_rfl) (by rw [hy13]) ?_
      refine ls_val (v := .int .u32 (bits .xor .u32 m1_1 y12)) rfl rfl (by kernel_rfl) (fun w => by kernel_rfl) ?_
      refine ls_storec (g := g7) (off := 0) (v := .int .u32 (bits .xor .u32 m1_1 y12)) (vs := [Value.int .u32 (bits .xor .u32 m1_1 y12)]) (cs := [Value.int .u32 m1_1]) (ty := 22) 1 rfl rfl rfl (by kernel_rfl) (by kernel_rfl) (by kernel_rfl) (by exact rfl) (by kernel_rfl) (len1 _) (one_cons rfl one_nil) (hl_of (Sub4.all _) (len_eq (len1 _) (len1 _))) (cs' := [Value.int .u32 (bits .xor .u32 m1_1 y12)]) (splc_all (len_eq (len1 _) (len1 _))) ?_
      refine ls_end ?_
      refine qn_then ?_
      refine cs_seq ?_
      refine cs_region (l := [_, _]) ?_
      refine ls_val (v := .func (.func 57) #[] #[.pointer (some ⟨g7, 0, none⟩), .pointer (some ⟨g4, 0, none⟩)]) rfl rfl (by kernel_rfl) (fun w => by kernel_rfl) ?_
      obtain ⟨t14, hc15, H⟩ := bind_some H
      refine ls_callb (fid := 57) (vals := #[.pointer (some ⟨g7, 0, none⟩), .pointer (some ⟨g4, 0, none⟩)]) (X := Unit) (fun x => .tuple #[]) (fun x => stl [Ck.var 22 g7 ([Value.int .u32 t14]), Ck.var 92 g4 (en (Value.int .u32) t1.1)]) [1, 0] [] [Ck.var 22 g7 ([Value.int .u32 (bits .xor .u32 m1_1 y12)]), Ck.var 92 g4 (en (Value.int .u32) t1.1)] [] 2 rfl rfl (by kernel_rfl) (fun w => by kernel_rfl) ⟨by exact rfl, by exact rfl, trivial⟩ trivial (by decide) (fun w hs hb => crc_Go_1.calls k1 g7 (bits .xor .u32 m1_1 y12) g4 t1 t14 (lent b w [Ck.var 22 g7 ([Value.int .u32 (bits .xor .u32 m1_1 y12)]), Ck.var 92 g4 (en (Value.int .u32) t1.1)] []) hb  hc15) ?_
      intro x16
      refine ls_end ?_
      refine qn_then ?_
      refine cs_region (l := [_, _]) ?_
      refine ls_val (v := .func (.func 57) #[] #[.pointer (some ⟨g7, 0, none⟩), .pointer (some ⟨g4, 0, none⟩)]) rfl rfl (by kernel_rfl) (fun w => by kernel_rfl) ?_
      obtain ⟨t17, hc18, H⟩ := bind_some H
      refine ls_callb (fid := 57) (vals := #[.pointer (some ⟨g7, 0, none⟩), .pointer (some ⟨g4, 0, none⟩)]) (X := Unit) (fun x => .tuple #[]) (fun x => stl [Ck.var 22 g7 ([Value.int .u32 t17]), Ck.var 92 g4 (en (Value.int .u32) t1.1)]) [1, 0] [] [Ck.var 22 g7 ([Value.int .u32 t14]), Ck.var 92 g4 (en (Value.int .u32) t1.1)] [] 2 rfl rfl (by kernel_rfl) (fun w => by kernel_rfl) ⟨by exact rfl, by exact rfl, trivial⟩ trivial (by decide) (fun w hs hb => crc_Go_1.calls k1 g7 t14 g4 t1 t17 (lent b w [Ck.var 22 g7 ([Value.int .u32 t14]), Ck.var 92 g4 (en (Value.int .u32) t1.1)] []) hb  hc18) ?_
      intro x19
      refine ls_end ?_
      refine qn_block ?_
      refine qn_then ?_
      refine cs_region (l := [_, _]) ?_
      refine ls_val (v := .int .i64 (IntKind.wrap .i64 (x16_1 + (1 : Int)))) rfl rfl (by kernel_rfl) (fun w => by kernel_rfl) ?_
      refine ls_val (v := .int .i64 (IntKind.wrap .i64 (x16_1 + (1 : Int)))) rfl rfl (by kernel_rfl) (fun w => by kernel_rfl) ?_
      refine ls_end ?_
      refine qn_again k1 (sput (sput s0 0 (some (Ck.var 92 g4 (en (Value.int .u32) t1.1)))) 1 (some (Ck.var 22 g7 ([Value.int .u32 t17])))) (Nat.le_refl _) ⟨_, (IntKind.wrap .i64 (x16_1 + (1 : Int))), t17, fr_next (fr_next (fr_next (fr_next (fr_next (rfl) (by kernel_rfl)) (by kernel_rfl)) (by kernel_rfl)) (by kernel_rfl)) (by kernel_rfl), rfl, H⟩ (sub_put (by exact rfl) (sub_put (by exact rfl) (sub_nil _)))
    · replace H := ite_f q8 H
      refine cs_know (c := false) (dec_f q8) 17 (by kernel_rfl) ?_
      refine cs_false (by kernel_rfl) ?_
      refine cs_exit' ?_
      refine qx_then ?_
      refine qx_then ?_
      refine qx_same ?_
      refine qn_then ?_
      refine cs_seq ?_
      refine cs_region (l := [_, _, _]) ?_
      refine ls_load (a0 := ⟨g7, 0, none⟩) (v := .int .u32 m1_1) (de := (TypeDesc.int .u32)) rfl rfl (by kernel_rfl) rfl (by kernel_rfl) (by kernel_rfl) (by kernel_rfl) (fun w hs => (hs.var (k := 1) (by exact rfl) (Sub4.all _))) ?_
      obtain ⟨y20, hy21, H⟩ := lt_some H
      refine ls_val (v := .int .u32 (bits .xor .u32 (if IntKind.signed .u32 then -1 else IntKind.max .u32) m1_1)) rfl rfl (by kernel_rfl) (fun w => by kernel_rfl) ?_
      refine ls_ren 30 (v := .int .u32 (bits .xor .u32 (if IntKind.signed .u32 then -1 else IntKind.max .u32) m1_1)) (v' := .int .u32 y20) (by kernel_rfl) (by rw [hy21]) ?_
      refine ls_val (v := .int .u32 y20) rfl rfl (by kernel_rfl) (fun w => by kernel_rfl) ?_
      refine ls_end ?_
      refine qn_then ?_
      refine cs_ret' ?_
      obtain rfl := Option.some.inj H
      refine qr_res (rs := [_]) rfl (fun w' hs => ⟨[.int .u32 y20], (res_tmp (by kernel_rfl) (.nil)), (), rfl, hs.pick (ts := []) (cs := []) trivial (by decide)⟩)

/-! ### shadowbox/crc.Sum: function 36 -/
def crc_Sum.f (k : Nat) (l0 : List Int) : Option (Int) :=
  (crc_Go.f k (0 : Int) l0).bind fun t1 => some t1
set_option maxRecDepth 100000 in
set_option maxHeartbeats 4000000 in
theorem crc_Sum.calls (k : Nat) (A0 : Option Addr) (c0 : Nat) (l0 : List Int) (r : Int) (b : Bs) (hs0 : St b (stl []) b.w) (R0 : Ro b A0 (em (Ec.int 5 .u8) l0)) (C0 : l0.length ≤ c0) (H : crc_Sum.f k l0 = some r) :
    Calls Try.prog 36 #[.slice A0 l0.length c0] b.w fun e w' => ∃ x : Unit, e = .returned (.int .u32 r) ∧ St b (stl []) w' := by
  unfold crc_Sum.f at H
  refine enterb (n := 5) Try.func36 rfl (by kernel_rfl) (by kernel_rfl) hs0 ?_
  refine cs_sub (s0) (sub_nil _) ?_
  refine cs_seq ?_
  refine cs_region (l := [_]) ?_
  refine ls_val (v := .int .u32 (0 : Int)) rfl rfl (by kernel_rfl) (fun w => by kernel_rfl) ?_
  refine ls_end ?_
  refine qn_then ?_
  refine cs_seq ?_
  refine cs_region (l := [_, _, _]) ?_
  refine ls_val (v := .slice A0 l0.length c0) rfl rfl (by kernel_rfl) (fun w => by kernel_rfl) ?_
  obtain ⟨t1, hc2, H⟩ := bind_some H
  refine ls_callb (fid := 45) (vals := #[.int .u32 (0 : Int), .slice A0 l0.length c0]) (X := Unit) (fun x => .int .u32 t1) (fun x => stl []) [] [] [] [] 0 rfl rfl (by kernel_rfl) (fun w => by kernel_rfl) trivial trivial (by decide) (fun w hs hb => crc_Go.calls k (0 : Int) A0 c0 l0 t1 (lent b w [] []) hb (hs.ro R0 _ _) C0 hc2) ?_
  intro x3
  refine ls_val (v := .int .u32 t1) rfl rfl (by kernel_rfl) (fun w => by kernel_rfl) ?_
  refine ls_end ?_
  refine qn_then ?_
  refine cs_ret' ?_
  obtain rfl := Option.some.inj H
  refine qr_res (rs := [_]) rfl (fun w' hs => ⟨[.int .u32 t1], (res_tmp (by kernel_rfl) (.nil)), (), rfl, hs.pick (ts := []) (cs := []) trivial (by decide)⟩)

/-! ### (shadowbox/label.Label).bytes: function 41 -/
def label_Label_bytes.tab8 : List (List Nat) := [[], [], [1], [1, 2], [1, 2, 3], [0, 1, 2, 3, 4], [], [6], [0, 1, 2, 3, 4, 5, 6, 7], [0, 1, 2, 3, 4, 5, 6, 7, 8]]
def label_Label_bytes.f (k : Nat) (a0 : (Int × (Int × Int × Int × Int × (Vc Int 32)) × Int)) : Option ((List Int)) :=
  (codec_Fixed.f k ([] : List Int) (8 : Int) ([IntKind.wrap .u64 a0.1])).bind fun t3 => (if t3.length + (⟨#[83, 66, 88, 49]⟩ : ByteArray).size ≤ 140737488355328 then (codec_Fixed.f k (t3 ++ bl (⟨#[83, 66, 88, 49]⟩ : ByteArray)) (8 : Int) ([IntKind.wrap .u64 a0.2.2])).bind fun t12 => (pointer_Put.f k t12 a0.2.1).bind fun t15 => lt (IntKind.wrap .i64 ((500 : Int) - (t15.length : Int))) fun y18 => (if 0 ≤ y18 then (if (t15.length + (y18).toNat) * 1 ≤ 140737488355328 then (crc_Sum.f k (t15 ++ List.replicate (y18).toNat (0 : Int))).bind fun t24 => (codec_Fixed.f k (t15 ++ List.replicate (y18).toNat (0 : Int)) (4 : Int) ([IntKind.wrap .u64 t24])).bind fun t28 => (codec_Fixed.f k t28 (8 : Int) ([IntKind.wrap .u64 a0.1])).bind fun t32 => some t32 else none) else none) else none)
set_option maxRecDepth 100000 in
set_option maxHeartbeats 4000000 in
theorem label_Label_bytes.calls (k : Nat) (a0 : (Int × (Int × Int × Int × Int × (Vc Int 32)) × Int)) (r : (List Int)) (b : Bs) (hs0 : St b (stl []) b.w) (H : label_Label_bytes.f k a0 = some r) :
    Calls Try.prog 41 #[.agg ⟨([Value.int .i64 a0.1] ++ (([Value.int .i64 a0.2.1.1] ++ ([Value.int .i64 a0.2.1.2.1] ++ ([Value.int .i64 a0.2.1.2.2.1] ++ ([Value.int .u32 a0.2.1.2.2.2.1] ++ en (Value.int .u8) a0.2.1.2.2.2.2.1)))) ++ [Value.int .i64 a0.2.2]))⟩] b.w fun e w' => ∃ x : (Option Addr × Nat), e = .returned (.slice x.1 r.length x.2) ∧ St b (stl [Ck.sl (Ec.int 5 .u8) x.1 x.2 r]) w' := by
  unfold label_Label_bytes.f at H
  refine enterb (n := 36) Try.func41 rfl (by kernel_rfl) (by kernel_rfl) hs0 ?_
  refine cs_sub (s0) (sub_nil _) ?_
  refine cs_seq ?_
  refine cs_region (l := [_, _]) ?_
  refine ls_new rfl rfl (by kernel_rfl) 0 (fun g => .pointer (some ⟨g, 0, none⟩)) (.cells ⟨([Value.int .i64 a0.1] ++ (([Value.int .i64 a0.2.1.1] ++ ([Value.int .i64 a0.2.1.2.1] ++ ([Value.int .i64 a0.2.1.2.2.1] ++ ([Value.int .u32 a0.2.1.2.2.2.1] ++ en (Value.int .u8) a0.2.1.2.2.2.2.1)))) ++ [Value.int .i64 a0.2.2]))⟩ 42) (fun w => by kernel_rfl) ?_
  intro g1
  refine ls_val (v := .slice none 0 0) rfl rfl (by kernel_rfl) (fun w => by kernel_rfl) ?_
  refine ls_end ?_
  refine qn_then ?_
  refine cs_seq ?_
  refine cs_region (l := [_, _, _, _, _, _, _]) ?_
  refine ls_val (v := .pointer (some ⟨g1, (0 + 0), none⟩)) rfl rfl (by kernel_rfl) (fun w => by kernel_rfl) ?_
  refine ls_load (a0 := ⟨g1, (0 + 0), none⟩) (v := .int .i64 a0.1) (de := (TypeDesc.int .i64)) rfl rfl (by kernel_rfl) rfl (by kernel_rfl) (by kernel_rfl) (by kernel_rfl) (fun w hs => (hs.var (k := 0) (by exact rfl) (Sub4.trans (Sub4.all _) (Sub4.head _ _)))) ?_
  refine ls_val (v := .int .u64 (IntKind.wrap .u64 a0.1)) rfl rfl (by kernel_rfl) (fun w => by kernel_rfl) ?_
  refine ls_lit (Ec.int 62 .u64) 1 rfl rfl (by kernel_rfl) ([IntKind.wrap .u64 a0.1]) (by exact of_decide_eq_true (by kernel_rfl)) (fun w => by kernel_rfl) ?_
  intro g2
  obtain ⟨t3, hc4, H⟩ := bind_some H
  refine ls_callb (fid := 34) (vals := #[.slice none ([] : List Int).length 0, .int .i64 (8 : Int), .slice (some ⟨g2, 0, none⟩) ([IntKind.wrap .u64 a0.1]).length [IntKind.wrap .u64 a0.1].length]) (X := (Option Addr × Nat)) (fun x => .slice x.1 t3.length x.2) (fun x => stl [Ck.sl (Ec.int 5 .u8) x.1 x.2 t3]) [] [1] [] [Ck.sl (Ec.int 62 .u64) (some ⟨g2, 0, none⟩) ([IntKind.wrap .u64 a0.1].length) ([IntKind.wrap .u64 a0.1])] 2 rfl rfl (by kernel_rfl) (fun w => by kernel_rfl) trivial ⟨by exact rfl, trivial⟩ (by decide) (fun w hs hb => codec_Fixed.calls k none 0 ([] : List Int) (8 : Int) (some ⟨g2, 0, none⟩) ([IntKind.wrap .u64 a0.1].length) ([IntKind.wrap .u64 a0.1]) t3 (lent b w [] [Ck.sl (Ec.int 62 .u64) (some ⟨g2, 0, none⟩) ([IntKind.wrap .u64 a0.1].length) ([IntKind.wrap .u64 a0.1])]) hb (Ro.nil _ _) (Nat.le_refl 0) (hs.ror (k := 1) (by exact rfl) (.head _)) (hs.cap (k := 1) (by exact rfl)) hc4) ?_
  intro x5
  obtain ⟨q6, H⟩ := ite_need H
  refine ls_apps (A := x5.1) (c := x5.2) (e := 5) (l := t3) (y := (⟨#[83, 66, 88, 49]⟩ : ByteArray)) 2 rfl rfl (by kernel_rfl) rfl (by kernel_rfl) (by exact rfl) (by kernel_rfl) (by kernel_rfl) (by kernel_rfl) (by kernel_rfl) q6 ?_
  intro xA7 xc8
  refine ls_val (v := .slice xA7 (t3 ++ bl (⟨#[83, 66, 88, 49]⟩ : ByteArray)).length xc8) rfl rfl (by kernel_rfl) (fun w => by kernel_rfl) ?_
  refine ls_end ?_
  refine qn_then ?_
  refine cs_seq ?_
  obtain ⟨s10_0, hs10_0⟩ : ∃ z : Value → Sto → Prop, z = (fun v R => v = .slice xA7 (t3 ++ bl (⟨#[83, 66, 88, 49]⟩ : ByteArray)).length xc8 ∧ R = s0) := ⟨_, rfl⟩
  refine have_op (l := [_, _, _, _, _, _, _, _, _, _]) label_Label_bytes.tab8 3 0 (fun sp => sp 0 = s10_0) (fun sp on hA hon => ?_) (fun ops10_0 => ?_)
  · refine ⟨fun o ho vs Rs f' S' w hp hf hx hS hR hs => ?_⟩
    obtain rfl := Option.some.inj ho
    rw [hA, hs10_0]
    refine And.intro (fun a ha => (want_none rfl a ha).trans hon.symm) (And.intro (fun _ => ?_) (fun h => by rw [hon] at h; cases h))
    have hF := fr_next (rfl) ((hx 3 (by kernel_rfl)).trans (by kernel_rfl : (_ : Value) = .slice xA7 (t3 ++ bl (⟨#[83, 66, 88, 49]⟩ : ByteArray)).length xc8))
    refine ls_fr hF ?_
    refine ls_val (v := .slice xA7 (t3 ++ bl (⟨#[83, 66, 88, 49]⟩ : ByteArray)).length xc8) rfl rfl (by kernel_rfl) (fun w => by kernel_rfl) ?_
    exact ls_fin s0 (.slice xA7 (t3 ++ bl (⟨#[83, 66, 88, 49]⟩ : ByteArray)).length xc8) (congrArg (fun z => upd z 10 _) hF.symm) ⟨rfl, rfl⟩ (sub_nil _)
  obtain ⟨s10_1, hs10_1⟩ : ∃ z : Value → Sto → Prop, z = (fun v R => v = .pointer (some ⟨g1, (0 + 37), none⟩) ∧ R = s0) := ⟨_, rfl⟩
  refine have_op (l := [_, _, _, _, _, _, _, _, _, _]) label_Label_bytes.tab8 3 1 (fun sp => sp 1 = s10_1) (fun sp on hA hon => ?_) (fun ops10_1 => ?_)
  · refine ⟨fun o ho vs Rs f' S' w hp hf hx hS hR hs => ?_⟩
    obtain rfl := Option.some.inj ho
    rw [hA, hs10_1]
    refine And.intro (fun a ha => (want_none rfl a ha).trans hon.symm) (And.intro (fun _ => ?_) (fun h => by rw [hon] at h; cases h))
    have hF := fr_next (rfl) ((hx 1 (by kernel_rfl)).trans (by kernel_rfl : (_ : Value) = .pointer (some ⟨g1, 0, none⟩)))
    refine ls_fr hF ?_
    refine ls_val (v := .pointer (some ⟨g1, (0 + 37), none⟩)) rfl rfl (by kernel_rfl) (fun w => by kernel_rfl) ?_
    exact ls_fin s0 (.pointer (some ⟨g1, (0 + 37), none⟩)) (congrArg (fun z => upd z 11 _) hF.symm) ⟨rfl, rfl⟩ (sub_nil _)
  obtain ⟨s10_2, hs10_2⟩ : ∃ z : Value → Sto → Prop, z = (fun v R => v = .int .i64 a0.2.2 ∧ R = s0) := ⟨_, rfl⟩
  refine have_op (l := [_, _, _, _, _, _, _, _, _, _]) label_Label_bytes.tab8 3 2 (fun sp => sp 2 = s10_2 ∧ sp 1 = s10_1) (fun sp on hA hon => ?_) (fun ops10_2 => ?_)
  · refine ⟨fun o ho vs Rs f' S' w hp hf hx hS hR hs => ?_⟩
    obtain rfl := Option.some.inj ho
    obtain ⟨hv1, hR1⟩ := (spe hA.2 hs10_1 (hp 1 (by kernel_rfl)))
    rw [hA.1, hs10_2]
    refine And.intro (fun a ha => (want_none rfl a ha).trans hon.symm) (And.intro (fun _ => ?_) (fun h => by rw [hon] at h; cases h))
    have hF := fr_next (rfl) ((hf 1 11 (by kernel_rfl) rfl).trans hv1)
    refine ls_fr hF ?_
    refine ls_load (a0 := ⟨g1, (0 + 37), none⟩) (v := .int .i64 a0.2.2) (de := (TypeDesc.int .i64)) rfl rfl (by kernel_rfl) rfl (by kernel_rfl) (by kernel_rfl) (by kernel_rfl) (fun w1 hs1 => cell_step hs1.below.bw (hs.var (k := 0) ((hS 0 (by kernel_rfl)).trans (by exact rfl)) (Sub4.trans (Sub4.all _) (Sub4.skip (n := 1) (len1 _) (Sub4.skip (n := 36) (len_app (len1 _) (len_app (len1 _) (len_app (len1 _) (len_app (len1 _) (len_en _ a0.2.1.2.2.2.2))))) (Sub4.all _)))))) ?_
    exact ls_fin s0 (.int .i64 a0.2.2) (congrArg (fun z => upd z 12 _) hF.symm) ⟨rfl, rfl⟩ (sub_nil _)
  obtain ⟨s10_3, hs10_3⟩ : ∃ z : Value → Sto → Prop, z = (fun v R => v = .int .u64 (IntKind.wrap .u64 a0.2.2) ∧ R = s0) := ⟨_, rfl⟩
  refine have_op (l := [_, _, _, _, _, _, _, _, _, _]) label_Label_bytes.tab8 3 3 (fun sp => sp 3 = s10_3 ∧ sp 2 = s10_2) (fun sp on hA hon => ?_) (fun ops10_3 => ?_)
  · refine ⟨fun o ho vs Rs f' S' w hp hf hx hS hR hs => ?_⟩
    obtain rfl := Option.some.inj ho
    obtain ⟨hv2, hR2⟩ := (spe hA.2 hs10_2 (hp 2 (by kernel_rfl)))
    rw [hA.1, hs10_3]
    refine And.intro (fun a ha => (want_none rfl a ha).trans hon.symm) (And.intro (fun _ => ?_) (fun h => by rw [hon] at h; cases h))
    have hF := fr_next (rfl) ((hf 2 12 (by kernel_rfl) rfl).trans hv2)
    refine ls_fr hF ?_
    refine ls_val (v := .int .u64 (IntKind.wrap .u64 a0.2.2)) rfl rfl (by kernel_rfl) (fun w => by kernel_rfl) ?_
    exact ls_fin s0 (.int .u64 (IntKind.wrap .u64 a0.2.2)) (congrArg (fun z => upd z 13 _) hF.symm) ⟨rfl, rfl⟩ (sub_nil _)
  obtain ⟨s10_4, hs10_4⟩ : ∃ z : Value → Sto → Prop, z = (fun v R => ∃ g11 : Nat, v = .slice (some ⟨g11, 0, none⟩) [IntKind.wrap .u64 a0.2.2].length [IntKind.wrap .u64 a0.2.2].length ∧ R = sput s0 0 (some (Ck.sl (Ec.int 62 .u64) (some ⟨g11, 0, none⟩) ([IntKind.wrap .u64 a0.2.2].length) ([IntKind.wrap .u64 a0.2.2])))) := ⟨_, rfl⟩
  refine have_op (l := [_, _, _, _, _, _, _, _, _, _]) label_Label_bytes.tab8 3 4 (fun sp => sp 4 = s10_4 ∧ sp 3 = s10_3) (fun sp on hA hon => ?_) (fun ops10_4 => ?_)
  · refine ⟨fun o ho vs Rs f' S' w hp hf hx hS hR hs => ?_⟩
    obtain rfl := Option.some.inj ho
    obtain ⟨hv3, hR3⟩ := (spe hA.2 hs10_3 (hp 3 (by kernel_rfl)))
    rw [hA.1, hs10_4]
    refine And.intro (fun a ha => (want_none rfl a ha).trans hon.symm) (And.intro (fun _ => ?_) (fun h => by rw [hon] at h; cases h))
    have hF := fr_next (rfl) ((hf 3 13 (by kernel_rfl) rfl).trans hv3)
    refine ls_fr hF ?_
    refine ls_lit (Ec.int 62 .u64) 0 rfl rfl (by kernel_rfl) ([IntKind.wrap .u64 a0.2.2]) (by exact of_decide_eq_true (by kernel_rfl)) (fun w => by kernel_rfl) ?_
    intro g11
    exact ls_fin (sput s0 0 (some (Ck.sl (Ec.int 62 .u64) (some ⟨g11, 0, none⟩) ([IntKind.wrap .u64 a0.2.2].length) ([IntKind.wrap .u64 a0.2.2])))) (.slice (some ⟨g11, 0, none⟩) [IntKind.wrap .u64 a0.2.2].length [IntKind.wrap .u64 a0.2.2].length) (congrArg (fun z => upd z 14 _) hF.symm) ⟨g11, rfl, rfl⟩ (sub_put (by exact rfl) (sub_nil _))
  obtain ⟨t12, hc13, H⟩ := bind_some H
  obtain ⟨s10_5, hs10_5⟩ : ∃ z : Value → Sto → Prop, z = (fun v R => ∃ x14 : (Option Addr × Nat), v = .slice x14.1 t12.length x14.2 ∧ R = stl [Ck.sl (Ec.int 5 .u8) x14.1 x14.2 t12]) := ⟨_, rfl⟩
  refine have_op (l := [_, _, _, _, _, _, _, _, _, _]) label_Label_bytes.tab8 3 5 (fun sp => sp 5 = s10_5 ∧ sp 0 = s10_0 ∧ sp 4 = s10_4) (fun sp on hA hon => ?_) (fun ops10_5 => ?_)
  · refine ⟨fun o ho vs Rs f' S' w hp hf hx hS hR hs => ?_⟩
    obtain rfl := Option.some.inj ho
    obtain ⟨hv0, hR0⟩ := (spe hA.2.1 hs10_0 (hp 0 (by kernel_rfl)))
    obtain ⟨g11, hv4, hR4⟩ := (spe hA.2.2 hs10_4 (hp 4 (by kernel_rfl)))
    have hT4_0 := (hR 4 0 (by kernel_rfl) (by decide)).trans (congrFun hR4 0)
    rw [hA.1, hs10_5]
    refine And.intro (fun a ha => (want_none rfl a ha).trans hon.symm) (And.intro (fun _ => ?_) (fun h => by rw [hon] at h; cases h))
    have hF := fr_next (fr_next (rfl) ((hf 0 10 (by kernel_rfl) rfl).trans hv0)) ((hf 4 14 (by kernel_rfl) rfl).trans hv4)
    refine ls_fr hF ?_
    refine ls_call (fid := 34) (vals := #[.slice xA7 (t3 ++ bl (⟨#[83, 66, 88, 49]⟩ : ByteArray)).length xc8, .int .i64 (8 : Int), .slice (some ⟨g11, 0, none⟩) ([IntKind.wrap .u64 a0.2.2]).length [IntKind.wrap .u64 a0.2.2].length]) (X := (Option Addr × Nat)) (fun x => .slice x.1 t12.length x.2) (fun x => stl [Ck.sl (Ec.int 5 .u8) x.1 x.2 t12]) 0 rfl rfl (by kernel_rfl) (fun w => by kernel_rfl) (fun w1 hs1 => codec_Fixed.calls k xA7 xc8 (t3 ++ bl (⟨#[83, 66, 88, 49]⟩ : ByteArray)) (8 : Int) (some ⟨g11, 0, none⟩) ([IntKind.wrap .u64 a0.2.2].length) ([IntKind.wrap .u64 a0.2.2]) t12 (bw w1) (St.refl w1) (Rd.ro (Rd.step (hs.rd (k := 2) ((hS 2 (by kernel_rfl)).trans (by exact rfl))) hs1.below.bw)) (hs.cap (k := 2) ((hS 2 (by kernel_rfl)).trans (by exact rfl))) (Rd.ro (Rd.step (hs.rd (k := 35) hT4_0) hs1.below.bw)) (hs.cap (k := 35) hT4_0) hc13) ?_
    intro x14
    exact ls_fin (stl [Ck.sl (Ec.int 5 .u8) x14.1 x14.2 t12]) (.slice x14.1 t12.length x14.2) (congrArg (fun z => upd z 15 _) hF.symm) ⟨x14, rfl, rfl⟩ (sub_join _)
  obtain ⟨s10_6, hs10_6⟩ : ∃ z : Value → Sto → Prop, z = (fun v R => v = .pointer (some ⟨g1, (0 + 1), none⟩) ∧ R = s0) := ⟨_, rfl⟩
  refine have_op (l := [_, _, _, _, _, _, _, _, _, _]) label_Label_bytes.tab8 3 6 (fun sp => sp 6 = s10_6) (fun sp on hA hon => ?_) (fun ops10_6 => ?_)
  · refine ⟨fun o ho vs Rs f' S' w hp hf hx hS hR hs => ?_⟩
    obtain rfl := Option.some.inj ho
    rw [hA, hs10_6]
    refine And.intro (fun a ha => (want_none rfl a ha).trans hon.symm) (And.intro (fun _ => ?_) (fun h => by rw [hon] at h; cases h))
    have hF := fr_next (rfl) ((hx 1 (by kernel_rfl)).trans (by kernel_rfl : (_ : Value) = .pointer (some ⟨g1, 0, none⟩)))
    refine ls_fr hF ?_
    refine ls_val (v := .pointer (some ⟨g1, (0 + 1), none⟩)) rfl rfl (by kernel_rfl) (fun w => by kernel_rfl) ?_
    exact ls_fin s0 (.pointer (some ⟨g1, (0 + 1), none⟩)) (congrArg (fun z => upd z 16 _) hF.symm) ⟨rfl, rfl⟩ (sub_nil _)
  obtain ⟨s10_7, hs10_7⟩ : ∃ z : Value → Sto → Prop, z = (fun v R => v = .agg ⟨([Value.int .i64 a0.2.1.1] ++ ([Value.int .i64 a0.2.1.2.1] ++ ([Value.int .i64 a0.2.1.2.2.1] ++ ([Value.int .u32 a0.2.1.2.2.2.1] ++ en (Value.int .u8) a0.2.1.2.2.2.2.1))))⟩ ∧ R = s0) := ⟨_, rfl⟩
  refine have_op (l := [_, _, _, _, _, _, _, _, _, _]) label_Label_bytes.tab8 3 7 (fun sp => sp 7 = s10_7 ∧ sp 6 = s10_6) (fun sp on hA hon => ?_) (fun ops10_7 => ?_)
  · refine ⟨fun o ho vs Rs f' S' w hp hf hx hS hR hs => ?_⟩
    obtain rfl := Option.some.inj ho
    obtain ⟨hv6, hR6⟩ := (spe hA.2 hs10_6 (hp 6 (by kernel_rfl)))
    rw [hA.1, hs10_7]
    refine And.intro (fun a ha => (want_none rfl a ha).trans hon.symm) (And.intro (fun _ => ?_) (fun h => by rw [hon] at h; cases h))
    have hF := fr_next (rfl) ((hf 6 16 (by kernel_rfl) rfl).trans hv6)
    refine ls_fr hF ?_
    refine ls_loadagg (a := ⟨g1, (0 + 1), none⟩) (sub := ([Value.int .i64 a0.2.1.1] ++ ([Value.int .i64 a0.2.1.2.1] ++ ([Value.int .i64 a0.2.1.2.2.1] ++ ([Value.int .u32 a0.2.1.2.2.2.1] ++ en (Value.int .u8) a0.2.1.2.2.2.2.1))))) rfl rfl (by kernel_rfl) rfl (by kernel_rfl) (by kernel_rfl) (by kernel_rfl) (len_app (len1 _) (len_app (len1 _) (len_app (len1 _) (len_app (len1 _) (len_en _ a0.2.1.2.2.2.2))))) (fun w1 hs1 => Rd.step (hs.vars (k := 0) ((hS 0 (by kernel_rfl)).trans (by exact rfl)) (Sub4.trans (Sub4.all _) (Sub4.skip (n := 1) (len1 _) (Sub4.head _ _)))) hs1.below.bw) ?_
    exact ls_fin s0 (.agg ⟨([Value.int .i64 a0.2.1.1] ++ ([Value.int .i64 a0.2.1.2.1] ++ ([Value.int .i64 a0.2.1.2.2.1] ++ ([Value.int .u32 a0.2.1.2.2.2.1] ++ en (Value.int .u8) a0.2.1.2.2.2.2.1))))⟩) (congrArg (fun z => upd z 17 _) hF.symm) ⟨rfl, rfl⟩ (sub_nil _)
  refine cs_draw label_Label_bytes.tab8 8 3 (spl [s10_0, s10_1, s10_2, s10_3, s10_4, s10_5, s10_6, s10_7]) (onl [true, true, true, true, true, true, true, true]) (by kernel_rfl) (by kernel_rfl) (by kernel_rfl) (by kernel_rfl) (rs := [_, _]) rfl (by kernel_rfl) (by kernel_rfl) (all_snoc (all_snoc (all_snoc (all_snoc (all_snoc (all_snoc (all_snoc (all_snoc (all_nil) (ops10_0 _ _ rfl rfl)) (ops10_1 _ _ rfl rfl)) (ops10_2 _ _ ⟨rfl, rfl⟩ rfl)) (ops10_3 _ _ ⟨rfl, rfl⟩ rfl)) (ops10_4 _ _ ⟨rfl, rfl⟩ rfl)) (ops10_5 _ _ ⟨rfl, rfl, rfl⟩ rfl)) (ops10_6 _ _ rfl rfl)) (ops10_7 _ _ ⟨rfl, rfl⟩ rfl)) ?_
  intro vs Rs f' S' hp hf hx hS hR
  obtain ⟨g11, hv4, hR4⟩ := (spe rfl hs10_4 (hp 4 (by kernel_rfl)))
  have hT4_0 := (hR 4 0 (by kernel_rfl) (by decide)).trans (congrFun hR4 0)
  obtain ⟨x14, hv5, hR5⟩ := (spe rfl hs10_5 (hp 5 (by kernel_rfl)))
  have hT5_0 := (hR 5 0 (by kernel_rfl) (by decide)).trans (congrFun hR5 0)
  obtain ⟨hv7, hR7⟩ := (spe rfl hs10_7 (hp 7 (by kernel_rfl)))
  refine ls_fr (F := upd (upd (upd f' 1 (.pointer (some ⟨g1, 0, none⟩))) 15 (.slice x14.1 t12.length x14.2)) 17 (.agg ⟨([Value.int .i64 a0.2.1.1] ++ ([Value.int .i64 a0.2.1.2.1] ++ ([Value.int .i64 a0.2.1.2.2.1] ++ ([Value.int .u32 a0.2.1.2.2.2.1] ++ en (Value.int .u8) a0.2.1.2.2.2.2.1))))⟩)) (fr_next (fr_next (fr_next (rfl) ((hx 1 (by kernel_rfl)).trans (by kernel_rfl : (_ : Value) = .pointer (some ⟨g1, 0, none⟩)))) ((hf 5 15 (by kernel_rfl) rfl).trans hv5)) ((hf 7 17 (by kernel_rfl) rfl).trans hv7)) ?_
  refine ls_sub (sput (sput s0 0 (some (Ck.var 42 g1 (([Value.int .i64 a0.1] ++ (([Value.int .i64 a0.2.1.1] ++ ([Value.int .i64 a0.2.1.2.1] ++ ([Value.int .i64 a0.2.1.2.2.1] ++ ([Value.int .u32 a0.2.1.2.2.2.1] ++ en (Value.int .u8) a0.2.1.2.2.2.2.1)))) ++ [Value.int .i64 a0.2.2])))))) 43 (some (Ck.sl (Ec.int 5 .u8) x14.1 x14.2 t12))) (sub_put (by exact hT5_0) (sub_put ((hS 0 (by kernel_rfl)).trans (by exact rfl)) (sub_nil _))) ?_
  obtain ⟨t15, hc16, H⟩ := bind_some H
  refine ls_callb (fid := 18) (vals := #[.slice x14.1 t12.length x14.2, .agg ⟨([Value.int .i64 a0.2.1.1] ++ ([Value.int .i64 a0.2.1.2.1] ++ ([Value.int .i64 a0.2.1.2.2.1] ++ ([Value.int .u32 a0.2.1.2.2.2.1] ++ en (Value.int .u8) a0.2.1.2.2.2.2.1))))⟩]) (X := (Option Addr × Nat)) (fun x => .slice x.1 t15.length x.2) (fun x => stl [Ck.sl (Ec.int 5 .u8) x.1 x.2 t15]) [] [43] [] [Ck.sl (Ec.int 5 .u8) x14.1 x14.2 t12] 67 rfl rfl (by kernel_rfl) (fun w => by kernel_rfl) trivial ⟨by exact rfl, trivial⟩ (by decide) (fun w hs hb => pointer_Put.calls k x14.1 x14.2 t12 a0.2.1 t15 (lent b w [] [Ck.sl (Ec.int 5 .u8) x14.1 x14.2 t12]) hb (hs.ror (k := 43) (by exact rfl) (.head _)) (hs.cap (k := 43) (by exact rfl)) hc16) ?_
  intro x17
  refine ls_val (v := .slice x17.1 t15.length x17.2) rfl rfl (by kernel_rfl) (fun w => by kernel_rfl) ?_
  refine ls_end ?_
  refine qn_then ?_
  refine cs_seq ?_
  refine cs_region (l := [_, _, _, _, _, _]) ?_
  refine ls_val (v := .slice x17.1 t15.length x17.2) rfl rfl (by kernel_rfl) (fun w => by kernel_rfl) ?_
  refine ls_val (v := .slice x17.1 t15.length x17.2) rfl rfl (by kernel_rfl) (fun w => by kernel_rfl) ?_
  refine ls_val (v := .int .i64 (t15.length : Int)) rfl rfl (by kernel_rfl) (fun w => by kernel_rfl) ?_
  obtain ⟨y18, hy19, H⟩ := lt_some H
  refine ls_val (v := .int .i64 (IntKind.wrap .i64 ((500 : Int) - (t15.length : Int)))) rfl rfl (by kernel_rfl) (fun w => by kernel_rfl) ?_
  refine ls_ren 22 (v := .int .i64 (IntKind.wrap .i64 ((500 : Int) - (t15.length : Int)))) (v' := .int .i64 y18) (by kernel_rfl) (by rw [hy19]) ?_
  obtain ⟨q20, H⟩ := ite_need H
  obtain ⟨q21, H⟩ := ite_need H
  refine ls_appz (Ec.int 5 .u8) (A := x17.1) (c := x17.2) (l := t15) (m := y18) (kk := .i64) (kk' := .i64) (zc := [Value.int .u8 (0 : Int)]) (z := (Value.int .u8 0)) (bytes := 1) 67 rfl rfl (by kernel_rfl) rfl (by kernel_rfl) (by exact rfl) (by kernel_rfl) q20 (by kernel_rfl) (by kernel_rfl) (by kernel_rfl) rfl rfl (by decide) q21 ?_
  intro xA22 xc23
  refine ls_val (v := .slice xA22 (t15 ++ List.replicate (y18).toNat (0 : Int)).length xc23) rfl rfl (by kernel_rfl) (fun w => by kernel_rfl) ?_
  refine ls_end ?_
  refine qn_then ?_
  refine cs_seq ?_
  refine cs_region (l := [_, _, _, _, _, _, _]) ?_
  refine ls_val (v := .slice xA22 (t15 ++ List.replicate (y18).toNat (0 : Int)).length xc23) rfl rfl (by kernel_rfl) (fun w => by kernel_rfl) ?_
  refine ls_val (v := .slice xA22 (t15 ++ List.replicate (y18).toNat (0 : Int)).length xc23) rfl rfl (by kernel_rfl) (fun w => by kernel_rfl) ?_
  obtain ⟨t24, hc25, H⟩ := bind_some H
  refine ls_callb (fid := 36) (vals := #[.slice xA22 (t15 ++ List.replicate (y18).toNat (0 : Int)).length xc23]) (X := Unit) (fun x => .int .u32 t24) (fun x => stl []) [] [67] [] [Ck.sl (Ec.int 5 .u8) xA22 xc23 (t15 ++ List.replicate (y18).toNat (0 : Int))] 68 rfl rfl (by kernel_rfl) (fun w => by kernel_rfl) trivial ⟨by exact rfl, trivial⟩ (by decide) (fun w hs hb => crc_Sum.calls k xA22 xc23 (t15 ++ List.replicate (y18).toNat (0 : Int)) t24 (lent b w [] [Ck.sl (Ec.int 5 .u8) xA22 xc23 (t15 ++ List.replicate (y18).toNat (0 : Int))]) hb (hs.ror (k := 67) (by exact rfl) (.head _)) (hs.cap (k := 67) (by exact rfl)) hc25) ?_
  intro x26
  refine ls_val (v := .int .u64 (IntKind.wrap .u64 t24)) rfl rfl (by kernel_rfl) (fun w => by kernel_rfl) ?_
  refine ls_lit (Ec.int 62 .u64) 68 rfl rfl (by kernel_rfl) ([IntKind.wrap .u64 t24]) (by exact of_decide_eq_true (by kernel_rfl)) (fun w => by kernel_rfl) ?_
  intro g27
  obtain ⟨t28, hc29, H⟩ := bind_some H
  refine ls_callb (fid := 34) (vals := #[.slice xA22 (t15 ++ List.replicate (y18).toNat (0 : Int)).length xc23, .int .i64 (4 : Int), .slice (some ⟨g27, 0, none⟩) ([IntKind.wrap .u64 t24]).length [IntKind.wrap .u64 t24].length]) (X := (Option Addr × Nat)) (fun x => .slice x.1 t28.length x.2) (fun x => stl [Ck.sl (Ec.int 5 .u8) x.1 x.2 t28]) [] [67, 68] [] [Ck.sl (Ec.int 5 .u8) xA22 xc23 (t15 ++ List.replicate (y18).toNat (0 : Int)), Ck.sl (Ec.int 62 .u64) (some ⟨g27, 0, none⟩) ([IntKind.wrap .u64 t24].length) ([IntKind.wrap .u64 t24])] 69 rfl rfl (by kernel_rfl) (fun w => by kernel_rfl) trivial ⟨by exact rfl, by exact rfl, trivial⟩ (by decide) (fun w hs hb => codec_Fixed.calls k xA22 xc23 (t15 ++ List.replicate (y18).toNat (0 : Int)) (4 : Int) (some ⟨g27, 0, none⟩) ([IntKind.wrap .u64 t24].length) ([IntKind.wrap .u64 t24]) t28 (lent b w [] [Ck.sl (Ec.int 5 .u8) xA22 xc23 (t15 ++ List.replicate (y18).toNat (0 : Int)), Ck.sl (Ec.int 62 .u64) (some ⟨g27, 0, none⟩) ([IntKind.wrap .u64 t24].length) ([IntKind.wrap .u64 t24])]) hb (hs.ror (k := 67) (by exact rfl) (.head _)) (hs.cap (k := 67) (by exact rfl)) (hs.ror (k := 68) (by exact rfl) (.tail _ (.head _))) (hs.cap (k := 68) (by exact rfl)) hc29) ?_
  intro x30
  refine ls_val (v := .slice x30.1 t28.length x30.2) rfl rfl (by kernel_rfl) (fun w => by kernel_rfl) ?_
  refine ls_end ?_
  refine qn_then ?_
  refine cs_seq ?_
  refine cs_region (l := [_, _, _, _, _, _, _]) ?_
  refine ls_val (v := .slice x30.1 t28.length x30.2) rfl rfl (by kernel_rfl) (fun w => by kernel_rfl) ?_
  refine ls_val (v := .pointer (some ⟨g1, (0 + 0), none⟩)) rfl rfl (by kernel_rfl) (fun w => by kernel_rfl) ?_
  refine ls_load (a0 := ⟨g1, (0 + 0), none⟩) (v := .int .i64 a0.1) (de := (TypeDesc.int .i64)) rfl rfl (by kernel_rfl) rfl (by kernel_rfl) (by kernel_rfl) (by kernel_rfl) (fun w hs => (hs.var (k := 0) (by exact rfl) (Sub4.trans (Sub4.all _) (Sub4.head _ _)))) ?_
  refine ls_val (v := .int .u64 (IntKind.wrap .u64 a0.1)) rfl rfl (by kernel_rfl) (fun w => by kernel_rfl) ?_
  refine ls_lit (Ec.int 62 .u64) 70 rfl rfl (by kernel_rfl) ([IntKind.wrap .u64 a0.1]) (by exact of_decide_eq_true (by kernel_rfl)) (fun w => by kernel_rfl) ?_
  intro g31
  obtain ⟨t32, hc33, H⟩ := bind_some H
  refine ls_callb (fid := 34) (vals := #[.slice x30.1 t28.length x30.2, .int .i64 (8 : Int), .slice (some ⟨g31, 0, none⟩) ([IntKind.wrap .u64 a0.1]).length [IntKind.wrap .u64 a0.1].length]) (X := (Option Addr × Nat)) (fun x => .slice x.1 t32.length x.2) (fun x => stl [Ck.sl (Ec.int 5 .u8) x.1 x.2 t32]) [] [69, 70] [] [Ck.sl (Ec.int 5 .u8) x30.1 x30.2 t28, Ck.sl (Ec.int 62 .u64) (some ⟨g31, 0, none⟩) ([IntKind.wrap .u64 a0.1].length) ([IntKind.wrap .u64 a0.1])] 71 rfl rfl (by kernel_rfl) (fun w => by kernel_rfl) trivial ⟨by exact rfl, by exact rfl, trivial⟩ (by decide) (fun w hs hb => codec_Fixed.calls k x30.1 x30.2 t28 (8 : Int) (some ⟨g31, 0, none⟩) ([IntKind.wrap .u64 a0.1].length) ([IntKind.wrap .u64 a0.1]) t32 (lent b w [] [Ck.sl (Ec.int 5 .u8) x30.1 x30.2 t28, Ck.sl (Ec.int 62 .u64) (some ⟨g31, 0, none⟩) ([IntKind.wrap .u64 a0.1].length) ([IntKind.wrap .u64 a0.1])]) hb (hs.ror (k := 69) (by exact rfl) (.head _)) (hs.cap (k := 69) (by exact rfl)) (hs.ror (k := 70) (by exact rfl) (.tail _ (.head _))) (hs.cap (k := 70) (by exact rfl)) hc33) ?_
  intro x34
  refine ls_val (v := .slice x34.1 t32.length x34.2) rfl rfl (by kernel_rfl) (fun w => by kernel_rfl) ?_
  refine ls_end ?_
  refine qn_then ?_
  refine cs_ret' ?_
  obtain rfl := Option.some.inj H
  refine qr_res (rs := [_]) rfl (fun w' hs => ⟨[.slice x34.1 t32.length x34.2], (res_tmp (by kernel_rfl) (.nil)), (x34.1, x34.2), rfl, hs.pick (ts := [71]) (cs := [Ck.sl (Ec.int 5 .u8) x34.1 x34.2 t32]) ⟨by exact rfl, trivial⟩ (by decide)⟩)

/-! ### shadowbox/label.Seal: function 24 -/
def label_Seal.f (k : Nat) (a0 : (Int × (Int × Int × Int × Int × (Vc Int 32)) × Int)) : Option ((List Int) × Int × Int) :=
  (label_Label_right.f k a0).bind fun t2 => (if t2 = true then (label_Label_bytes.f k a0).bind fun t6 => some (t6, Int.tmod a0.1 (2 : Int), (0 : Int)) else some (([] : List Int), (0 : Int), (2 : Int)))
set_option maxRecDepth 100000 in
set_option maxHeartbeats 4000000 in
theorem label_Seal.calls (k : Nat) (a0 : (Int × (Int × Int × Int × Int × (Vc Int 32)) × Int)) (r : (List Int) × Int × Int) (b : Bs) (hs0 : St b (stl []) b.w) (H : label_Seal.f k a0 = some r) :
    Calls Try.prog 24 #[.agg ⟨([Value.int .i64 a0.1] ++ (([Value.int .i64 a0.2.1.1] ++ ([Value.int .i64 a0.2.1.2.1] ++ ([Value.int .i64 a0.2.1.2.2.1] ++ ([Value.int .u32 a0.2.1.2.2.2.1] ++ en (Value.int .u8) a0.2.1.2.2.2.2.1)))) ++ [Value.int .i64 a0.2.2]))⟩] b.w fun e w' => ∃ x : (Option Addr × Nat), e = .returned (.tuple #[.slice x.1 r.1.length x.2, .int .i64 r.2.1, .int .i64 r.2.2]) ∧ St b (stl [Ck.sl (Ec.int 5 .u8) x.1 x.2 r.1]) w' := by
  unfold label_Seal.f at H
  refine enterb (n := 13) Try.func24 rfl (by kernel_rfl) (by kernel_rfl) hs0 ?_
  refine cs_sub (s0) (sub_nil _) ?_
  refine cs_seq ?_
  refine cs_region (l := [_, _, _, _]) ?_
  refine ls_new rfl rfl (by kernel_rfl) 0 (fun g => .pointer (some ⟨g, 0, none⟩)) (.cells ⟨([Value.int .i64 a0.1] ++ (([Value.int .i64 a0.2.1.1] ++ ([Value.int .i64 a0.2.1.2.1] ++ ([Value.int .i64 a0.2.1.2.2.1] ++ ([Value.int .u32 a0.2.1.2.2.2.1] ++ en (Value.int .u8) a0.2.1.2.2.2.2.1)))) ++ [Value.int .i64 a0.2.2]))⟩ 42) (fun w => by kernel_rfl) ?_
  intro g1
  refine ls_val (v := .slice none 0 0) rfl rfl (by kernel_rfl) (fun w => by kernel_rfl) ?_
  refine ls_val (v := .int .i64 (0 : Int)) rfl rfl (by kernel_rfl) (fun w => by kernel_rfl) ?_
  refine ls_val (v := .int .i64 (0 : Int)) rfl rfl (by kernel_rfl) (fun w => by kernel_rfl) ?_
  refine ls_end ?_
  refine qn_then ?_
  refine cs_seq ?_
  refine cs_seq ?_
  refine cs_region (l := [_, _, _]) ?_
  refine ls_loadagg (a := ⟨g1, 0, none⟩) (sub := ([Value.int .i64 a0.1] ++ (([Value.int .i64 a0.2.1.1] ++ ([Value.int .i64 a0.2.1.2.1] ++ ([Value.int .i64 a0.2.1.2.2.1] ++ ([Value.int .u32 a0.2.1.2.2.2.1] ++ en (Value.int .u8) a0.2.1.2.2.2.2.1)))) ++ [Value.int .i64 a0.2.2]))) rfl rfl (by kernel_rfl) rfl (by kernel_rfl) (by kernel_rfl) (by kernel_rfl) (len_app (len1 _) (len_app (len_app (len1 _) (len_app (len1 _) (len_app (len1 _) (len_app (len1 _) (len_en _ a0.2.1.2.2.2.2))))) (len1 _))) (fun w hs => (hs.vars (k := 0) (by exact rfl) (Sub4.all _))) ?_
  obtain ⟨t2, hc3, H⟩ := bind_some H
  refine ls_callb (fid := 40) (vals := #[.agg ⟨([Value.int .i64 a0.1] ++ (([Value.int .i64 a0.2.1.1] ++ ([Value.int .i64 a0.2.1.2.1] ++ ([Value.int .i64 a0.2.1.2.2.1] ++ ([Value.int .u32 a0.2.1.2.2.2.1] ++ en (Value.int .u8) a0.2.1.2.2.2.2.1)))) ++ [Value.int .i64 a0.2.2]))⟩]) (X := Unit) (fun x => .bool t2) (fun x => stl []) [] [] [] [] 1 rfl rfl (by kernel_rfl) (fun w => by kernel_rfl) trivial trivial (by decide) (fun w hs hb => label_Label_right.calls k a0 t2 (lent b w [] []) hb  hc3) ?_
  intro x4
  refine ls_val (v := .bool (!t2)) rfl rfl (by kernel_rfl) (fun w => by kernel_rfl) ?_
  refine ls_end ?_
  refine qn_then ?_
  by_cases q5 : t2 = true
  · replace H := ite_t q5 H
    refine cs_know (c := false) (congrArg Bool.not (q5)) 7 (by kernel_rfl) ?_
    refine cs_false (by kernel_rfl) ?_
    refine cs_skip' ?_
    refine qn_then ?_
    refine cs_seq ?_
    obtain ⟨t6, hc7, H⟩ := bind_some H
    refine cs_sub (sput s0 0 (some (Ck.var 42 g1 (([Value.int .i64 a0.1] ++ (([Value.int .i64 a0.2.1.1] ++ ([Value.int .i64 a0.2.1.2.1] ++ ([Value.int .i64 a0.2.1.2.2.1] ++ ([Value.int .u32 a0.2.1.2.2.2.1] ++ en (Value.int .u8) a0.2.1.2.2.2.2.1)))) ++ [Value.int .i64 a0.2.2])))))) (sub_put (by exact rfl) (sub_nil _)) ?_
    refine cs_chain (l := [_, _, _, _, _, _, _, _]) [[], [0], [], [2], [2, 3], [0, 1], [0, 1, 2, 3, 4, 5], [0, 1, 2, 3, 4, 5, 6]] 6 (fun u => [0].contains u) (efl [false, true, false, false, false, false]) (pvl [.val (.agg ⟨([Value.int .i64 a0.1] ++ (([Value.int .i64 a0.2.1.1] ++ ([Value.int .i64 a0.2.1.2.1] ++ ([Value.int .i64 a0.2.1.2.2.1] ++ ([Value.int .u32 a0.2.1.2.2.2.1] ++ en (Value.int .u8) a0.2.1.2.2.2.2.1)))) ++ [Value.int .i64 a0.2.2]))⟩), .eff 1, .val (.pointer (some ⟨g1, (0 + 0), none⟩)), .val (.int .i64 a0.1), .val (.int .i64 (Int.tmod a0.1 (2 : Int))), .eff 1]) (Esl [fun (es : Nat → Value) (S' : Sto) => S' = sput s0 0 (some (Ck.var 42 g1 (([Value.int .i64 a0.1] ++ (([Value.int .i64 a0.2.1.1] ++ ([Value.int .i64 a0.2.1.2.1] ++ ([Value.int .i64 a0.2.1.2.2.1] ++ ([Value.int .u32 a0.2.1.2.2.2.1] ++ en (Value.int .u8) a0.2.1.2.2.2.2.1)))) ++ [Value.int .i64 a0.2.2]))))), fun (es : Nat → Value) (S' : Sto) => ∃ (x8 : (Option Addr × Nat)), es 1 = .slice x8.1 t6.length x8.2 ∧ S' = sput (sput s0 0 (some (Ck.var 42 g1 (([Value.int .i64 a0.1] ++ (([Value.int .i64 a0.2.1.1] ++ ([Value.int .i64 a0.2.1.2.1] ++ ([Value.int .i64 a0.2.1.2.2.1] ++ ([Value.int .u32 a0.2.1.2.2.2.1] ++ en (Value.int .u8) a0.2.1.2.2.2.2.1)))) ++ [Value.int .i64 a0.2.2])))))) 1 (some (Ck.sl (Ec.int 5 .u8) x8.1 x8.2 t6))] [0, 0, 0, 0, 0, 0, 1]) (nxl [0, 6, 0, 0, 0, 0]) (onl [true, true, true, true, true, true]) 1 (by kernel_rfl) (by kernel_rfl) (by kernel_rfl) (by kernel_rfl) (by kernel_rfl) (rs := [_, _]) rfl (by kernel_rfl) (by kernel_rfl) (fun es => ?_) ?_ ?_
    · exact (rfl : sput s0 0 (some (Ck.var 42 g1 (([Value.int .i64 a0.1] ++ (([Value.int .i64 a0.2.1.1] ++ ([Value.int .i64 a0.2.1.2.1] ++ ([Value.int .i64 a0.2.1.2.2.1] ++ ([Value.int .u32 a0.2.1.2.2.2.1] ++ en (Value.int .u8) a0.2.1.2.2.2.2.1)))) ++ [Value.int .i64 a0.2.2]))))) = sput s0 0 (some (Ck.var 42 g1 (([Value.int .i64 a0.1] ++ (([Value.int .i64 a0.2.1.1] ++ ([Value.int .i64 a0.2.1.2.1] ++ ([Value.int .i64 a0.2.1.2.2.1] ++ ([Value.int .u32 a0.2.1.2.2.2.1] ++ en (Value.int .u8) a0.2.1.2.2.2.2.1)))) ++ [Value.int .i64 a0.2.2]))))))
    · refine all_snoc (all_snoc (all_snoc (all_snoc (all_snoc (all_snoc (all_nil) ?_) ?_) ?_) ?_) ?_) ?_
      · refine ⟨fun o ho es vs f' S' hve hvp hf hx hK hE => ?_⟩
        obtain rfl := Option.some.inj ho
        refine ⟨want_none rfl, fun _ _ => ?_, (fun _ h => by cases h), (fun h _ => by cases h), (fun h _ => by cases h)⟩
        have hF := fr_next (rfl) ((hx 1 (by kernel_rfl)).trans (by kernel_rfl : (_ : Value) = .pointer (some ⟨g1, 0, none⟩)))
        refine ls_fr hF ?_
        refine ls_loadagg (a := ⟨g1, 0, none⟩) (sub := ([Value.int .i64 a0.1] ++ (([Value.int .i64 a0.2.1.1] ++ ([Value.int .i64 a0.2.1.2.1] ++ ([Value.int .i64 a0.2.1.2.2.1] ++ ([Value.int .u32 a0.2.1.2.2.2.1] ++ en (Value.int .u8) a0.2.1.2.2.2.2.1)))) ++ [Value.int .i64 a0.2.2]))) rfl rfl (by kernel_rfl) rfl (by kernel_rfl) (by kernel_rfl) (by kernel_rfl) (len_app (len1 _) (len_app (len_app (len1 _) (len_app (len1 _) (len_app (len1 _) (len_app (len1 _) (len_en _ a0.2.1.2.2.2.2))))) (len1 _))) (fun w hs => (hs.vars (k := 0) ((hK 0 (by rfl)).trans (by exact rfl)) (Sub4.all _))) ?_
        exact ls_finp (.agg ⟨([Value.int .i64 a0.1] ++ (([Value.int .i64 a0.2.1.1] ++ ([Value.int .i64 a0.2.1.2.1] ++ ([Value.int .i64 a0.2.1.2.2.1] ++ ([Value.int .u32 a0.2.1.2.2.2.1] ++ en (Value.int .u8) a0.2.1.2.2.2.2.1)))) ++ [Value.int .i64 a0.2.2]))⟩) (congrArg (fun z => upd z 8 _) hF.symm) rfl
      · refine ⟨fun o ho es vs f' S' hve hvp hf hx hK hE => ?_⟩
        obtain rfl := Option.some.inj ho
        obtain rfl := hE rfl
        refine ⟨want_none rfl, (fun h _ => by cases h), (fun h _ => by cases h), fun _ _ => ?_, (fun _ h => by cases h)⟩
        have hF := fr_next (rfl) ((hf 0 8 (by kernel_rfl) rfl).trans (show vs 0 = .agg ⟨([Value.int .i64 a0.1] ++ (([Value.int .i64 a0.2.1.1] ++ ([Value.int .i64 a0.2.1.2.1] ++ ([Value.int .i64 a0.2.1.2.2.1] ++ ([Value.int .u32 a0.2.1.2.2.2.1] ++ en (Value.int .u8) a0.2.1.2.2.2.2.1)))) ++ [Value.int .i64 a0.2.2]))⟩ from hvp 0 (by kernel_rfl)))
        refine ls_fr hF ?_
        refine ls_callb (fid := 41) (vals := #[.agg ⟨([Value.int .i64 a0.1] ++ (([Value.int .i64 a0.2.1.1] ++ ([Value.int .i64 a0.2.1.2.1] ++ ([Value.int .i64 a0.2.1.2.2.1] ++ ([Value.int .u32 a0.2.1.2.2.2.1] ++ en (Value.int .u8) a0.2.1.2.2.2.2.1)))) ++ [Value.int .i64 a0.2.2]))⟩]) (X := (Option Addr × Nat)) (fun x => .slice x.1 t6.length x.2) (fun x => stl [Ck.sl (Ec.int 5 .u8) x.1 x.2 t6]) [] [] [] [] 1 rfl rfl (by kernel_rfl) (fun w => by kernel_rfl) trivial trivial (by decide) (fun w hs hb => label_Label_bytes.calls k a0 t6 (lent b w [] []) hb  hc7) ?_
        intro x8
        exact ls_fine (sput (sput s0 0 (some (Ck.var 42 g1 (([Value.int .i64 a0.1] ++ (([Value.int .i64 a0.2.1.1] ++ ([Value.int .i64 a0.2.1.2.1] ++ ([Value.int .i64 a0.2.1.2.2.1] ++ ([Value.int .u32 a0.2.1.2.2.2.1] ++ en (Value.int .u8) a0.2.1.2.2.2.2.1)))) ++ [Value.int .i64 a0.2.2])))))) 1 (some (Ck.sl (Ec.int 5 .u8) x8.1 x8.2 t6))) (.slice x8.1 t6.length x8.2) (congrArg (fun z => upd z 9 _) hF.symm) (show (fun (es : Nat → Value) (S' : Sto) => ∃ (x8 : (Option Addr × Nat)), es 1 = .slice x8.1 t6.length x8.2 ∧ S' = sput (sput s0 0 (some (Ck.var 42 g1 (([Value.int .i64 a0.1] ++ (([Value.int .i64 a0.2.1.1] ++ ([Value.int .i64 a0.2.1.2.1] ++ ([Value.int .i64 a0.2.1.2.2.1] ++ ([Value.int .u32 a0.2.1.2.2.2.1] ++ en (Value.int .u8) a0.2.1.2.2.2.2.1)))) ++ [Value.int .i64 a0.2.2])))))) 1 (some (Ck.sl (Ec.int 5 .u8) x8.1 x8.2 t6))) (upv es 1 (.slice x8.1 t6.length x8.2)) (sput (sput s0 0 (some (Ck.var 42 g1 (([Value.int .i64 a0.1] ++ (([Value.int .i64 a0.2.1.1] ++ ([Value.int .i64 a0.2.1.2.1] ++ ([Value.int .i64 a0.2.1.2.2.1] ++ ([Value.int .u32 a0.2.1.2.2.2.1] ++ en (Value.int .u8) a0.2.1.2.2.2.2.1)))) ++ [Value.int .i64 a0.2.2])))))) 1 (some (Ck.sl (Ec.int 5 .u8) x8.1 x8.2 t6))) from ⟨x8, rfl, rfl⟩) rfl (keep_cons (by exact rfl) (keep_nil)) (sub_put (by exact rfl) (sub_put (by exact rfl) (sub_nil _)))
      · refine ⟨fun o ho es vs f' S' hve hvp hf hx hK hE => ?_⟩
        obtain rfl := Option.some.inj ho
        refine ⟨want_none rfl, fun _ _ => ?_, (fun _ h => by cases h), (fun h _ => by cases h), (fun h _ => by cases h)⟩
        have hF := fr_next (rfl) ((hx 1 (by kernel_rfl)).trans (by kernel_rfl : (_ : Value) = .pointer (some ⟨g1, 0, none⟩)))
        refine ls_fr hF ?_
        refine ls_val (v := .pointer (some ⟨g1, (0 + 0), none⟩)) rfl rfl (by kernel_rfl) (fun w => by kernel_rfl) ?_
        exact ls_finp (.pointer (some ⟨g1, (0 + 0), none⟩)) (congrArg (fun z => upd z 10 _) hF.symm) rfl
      · refine ⟨fun o ho es vs f' S' hve hvp hf hx hK hE => ?_⟩
        obtain rfl := Option.some.inj ho
        refine ⟨want_none rfl, fun _ _ => ?_, (fun _ h => by cases h), (fun h _ => by cases h), (fun h _ => by cases h)⟩
        have hF := fr_next (rfl) ((hf 2 10 (by kernel_rfl) rfl).trans (show vs 2 = .pointer (some ⟨g1, (0 + 0), none⟩) from hvp 2 (by kernel_rfl)))
        refine ls_fr hF ?_
        refine ls_load (a0 := ⟨g1, (0 + 0), none⟩) (v := .int .i64 a0.1) (de := (TypeDesc.int .i64)) rfl rfl (by kernel_rfl) rfl (by kernel_rfl) (by kernel_rfl) (by kernel_rfl) (fun w hs => (hs.var (k := 0) ((hK 0 (by rfl)).trans (by exact rfl)) (Sub4.trans (Sub4.all _) (Sub4.head _ _)))) ?_
        exact ls_finp (.int .i64 a0.1) (congrArg (fun z => upd z 11 _) hF.symm) rfl
      · refine ⟨fun o ho es vs f' S' hve hvp hf hx hK hE => ?_⟩
        obtain rfl := Option.some.inj ho
        refine ⟨want_none rfl, fun _ _ => ?_, (fun _ h => by cases h), (fun h _ => by cases h), (fun h _ => by cases h)⟩
        have hF := fr_next (rfl) ((hf 3 11 (by kernel_rfl) rfl).trans (show vs 3 = .int .i64 a0.1 from hvp 3 (by kernel_rfl)))
        refine ls_fr hF ?_
        refine ls_val (v := .int .i64 (Int.tmod a0.1 (2 : Int))) rfl rfl (by kernel_rfl) (fun w => by kernel_rfl) ?_
        exact ls_finp (.int .i64 (Int.tmod a0.1 (2 : Int))) (congrArg (fun z => upd z 12 _) hF.symm) rfl
      · refine ⟨fun o ho es vs f' S' hve hvp hf hx hK hE => ?_⟩
        obtain rfl := Option.some.inj ho
        refine ⟨want_none rfl, fun _ _ => ?_, (fun _ h => by cases h), (fun h _ => by cases h), (fun h _ => by cases h)⟩
        have hF := fr_next (rfl) ((hf 1 9 (by kernel_rfl) rfl).trans (show vs 1 = es 1 from hvp 1 (by kernel_rfl)))
        refine ls_fr hF ?_
        refine ls_val (v := es 1) rfl rfl (by kernel_rfl) (fun w => by kernel_rfl) ?_
        exact ls_finp (es 1) (congrArg (fun z => upd z 2 _) hF.symm) rfl
    · intro es vs f' S' hve hvp hf hx hK hE
      obtain ⟨x8, hv1, rfl⟩ := hE
      refine ls_fr (F := upd (upd f' 2 (.slice x8.1 t6.length x8.2)) 12 (.int .i64 (Int.tmod a0.1 (2 : Int)))) (fr_next (fr_next (rfl) (((hf 5 2 (by kernel_rfl) rfl).trans (show vs 5 = es 1 from hvp 5 (by kernel_rfl))).trans hv1)) ((hf 4 12 (by kernel_rfl) rfl).trans (show vs 4 = .int .i64 (Int.tmod a0.1 (2 : Int)) from hvp 4 (by kernel_rfl)))) ?_
      refine ls_sub (sput s0 1 (some (Ck.sl (Ec.int 5 .u8) x8.1 x8.2 t6))) (sub_put (by exact rfl) (sub_nil _)) ?_
      refine ls_val (v := .int .i64 (Int.tmod a0.1 (2 : Int))) rfl rfl (by kernel_rfl) (fun w => by kernel_rfl) ?_
      refine ls_val (v := .int .i64 (0 : Int)) rfl rfl (by kernel_rfl) (fun w => by kernel_rfl) ?_
      refine ls_end ?_
      refine qn_then ?_
      refine cs_ret' ?_
      obtain rfl := Option.some.inj H
      refine qr_res (rs := [_, _, _]) rfl (fun w' hs => ⟨[.slice x8.1 t6.length x8.2, .int .i64 (Int.tmod a0.1 (2 : Int)), .int .i64 (0 : Int)], (res_tmp (by kernel_rfl) (res_tmp (by kernel_rfl) (res_tmp (by kernel_rfl) (.nil)))), (x8.1, x8.2), rfl, hs.pick (ts := [1]) (cs := [Ck.sl (Ec.int 5 .u8) x8.1 x8.2 t6]) ⟨by exact rfl, trivial⟩ (by decide)⟩)
  · replace H := ite_f q5 H
    refine cs_know (c := true) (congrArg Bool.not (Bool.eq_false_iff.mpr q5)) 7 (by kernel_rfl) ?_
    refine cs_true (by kernel_rfl) ?_
    refine cs_seq ?_
    refine cs_region (l := [_, _, _]) ?_
    refine ls_val (v := .slice none 0 0) rfl rfl (by kernel_rfl) (fun w => by kernel_rfl) ?_
    refine ls_val (v := .int .i64 (0 : Int)) rfl rfl (by kernel_rfl) (fun w => by kernel_rfl) ?_
    refine ls_val (v := .int .i64 (2 : Int)) rfl rfl (by kernel_rfl) (fun w => by kernel_rfl) ?_
    refine ls_end ?_
    refine qn_then ?_
    refine cs_ret' ?_
    refine qr_then ?_
    refine qr_nilrow 1 (Ec.int 5 .u8) ?_
    obtain rfl := Option.some.inj H
    refine qr_res (rs := [_, _, _]) rfl (fun w' hs => ⟨[.slice none 0 0, .int .i64 (0 : Int), .int .i64 (2 : Int)], (res_tmp (by kernel_rfl) (res_tmp (by kernel_rfl) (res_tmp (by kernel_rfl) (.nil)))), (none, 0), rfl, hs.pick (ts := [1]) (cs := [Ck.sl (Ec.int 5 .u8) none 0 ([] : List Int)]) ⟨by exact rfl, trivial⟩ (by decide)⟩)

/-! ### shadowbox/codec.Take: function 31 -/
def codec_Take.lo2 (l0 : List Int) (a1 : Int) (xl7 : List Int) : Nat → Int → Int → Option (Int × (List Int) × Bool)
  | 0, _, _ => none
  | k2 + 1, x4_2, x25_2 => (if x25_2 < (xl7.length : Int) then (if 0 ≤ x25_2 then lt (IntKind.wrap .u64 ((xl7).getD (x25_2).toNat (0 : Int))) fun y16 => (if 0 ≤ IntKind.wrap .i64 ((8 : Int) * x25_2) then lt (shlv .u64 y16 (IntKind.wrap .i64 ((8 : Int) * x25_2))) fun y19 => (codec_Take.lo2 l0 a1 xl7 k2) (bits .or .u64 x4_2 y19) (IntKind.wrap .i64 (x25_2 + (1 : Int))) else none) else none) else lt (l0.drop (a1).toNat) fun xl26 => (if (([] : List Int).length + xl26.length) * 1 ≤ 140737488355328 then some (x4_2, (([] : List Int) ++ xl26), true) else none))
def codec_Take.jo1 (k : Nat) (l0 : List Int) (a1 : Int) (x4_1 : Int) : Option (Int × (List Int) × Bool) := (if 0 ≤ a1 then (if a1 ≤ (l0.length : Int) then lt (l0.take (a1).toNat) fun xl7 => codec_Take.lo2 l0 a1 xl7 k x4_1 (0 : Int) else none) else none)
def codec_Take.f (k : Nat) (l0 : List Int) (a1 : Int) : Option (Int × (List Int) × Bool) :=
  (if a1 < (1 : Int) then some ((0 : Int), ([] : List Int), false) else (if a1 > (8 : Int) then some ((0 : Int), ([] : List Int), false) else (if (l0.length : Int) < a1 then some ((0 : Int), ([] : List Int), false) else (codec_Take.jo1 k l0 a1) (0 : Int))))
set_option maxRecDepth 100000 in
set_option maxHeartbeats 4000000 in
theorem codec_Take.calls (k : Nat) (A0 : Option Addr) (c0 : Nat) (l0 : List Int) (a1 : Int) (r : Int × (List Int) × Bool) (b : Bs) (hs0 : St b (stl []) b.w) (R0 : Ro b A0 (em (Ec.int 5 .u8) l0)) (C0 : l0.length ≤ c0) (H : codec_Take.f k l0 a1 = some r) :
    Calls Try.prog 31 #[.slice A0 l0.length c0, .int .i64 a1] b.w fun e w' => ∃ x : (Option Addr × Nat), e = .returned (.tuple #[.int .u64 r.1, .slice x.1 r.2.1.length x.2, .bool r.2.2]) ∧ St b (stl [Ck.sl (Ec.int 5 .u8) x.1 x.2 r.2.1]) w' := by
  unfold codec_Take.f at H
  refine enterb (n := 44) Try.func31 rfl (by kernel_rfl) (by kernel_rfl) hs0 ?_
  refine cs_sub (s0) (sub_nil _) ?_
  refine cs_seq ?_
  refine cs_region (l := [_, _, _]) ?_
  refine ls_val (v := .int .u64 (0 : Int)) rfl rfl (by kernel_rfl) (fun w => by kernel_rfl) ?_
  refine ls_val (v := .slice none 0 0) rfl rfl (by kernel_rfl) (fun w => by kernel_rfl) ?_
  refine ls_val (v := .bool false) rfl rfl (by kernel_rfl) (fun w => by kernel_rfl) ?_
  refine ls_end ?_
  refine qn_then ?_
  refine cs_cut (fun f S => ∃ (fR : Fr) (x4_1 : Int), f = upd (upd (upd fR 0 (.slice A0 l0.length c0)) 1 (.int .i64 a1)) 4 (.int .u64 x4_1) ∧ S = s0 ∧ codec_Take.jo1 k l0 a1 x4_1 = some r) ?_ ?_
  · skip
    refine cs_seq ?_
    refine cs_region (l := [_, _, _, _, _, _, _, _, _, _, _, _]) ?_
    refine ls_val (v := .int .i64 a1) rfl rfl (by kernel_rfl) (fun w => by kernel_rfl) ?_
    refine ls_val (v := .bool (decide (a1 < (1 : Int)))) rfl rfl (by kernel_rfl) (fun w => by kernel_rfl) ?_
    refine ls_val (v := .bool (decide (a1 < (1 : Int)))) rfl rfl (by kernel_rfl) (fun w => by kernel_rfl) ?_
    by_cases q34 : a1 < (1 : Int)
    · replace H := ite_t q34 H
      refine ls_know (c := true) (dec_t q34) 11 (by kernel_rfl) ?_
      refine ls_off (j := 2) (t := 11) (b := false) (c := true) rfl rfl (by kernel_rfl) (by kernel_rfl) rfl rfl (by kernel_rfl) ?_
      refine ls_off (j := 2) (t := 11) (b := false) (c := true) rfl rfl (by kernel_rfl) (by kernel_rfl) rfl rfl (by kernel_rfl) ?_
      refine ls_val (v := .bool true) rfl rfl (by kernel_rfl) (fun w => by kernel_rfl) ?_
      refine ls_val (v := .bool true) rfl rfl (by kernel_rfl) (fun w => by kernel_rfl) ?_
      refine ls_off (j := 6) (t := 15) (b := false) (c := true) rfl rfl (by kernel_rfl) (by kernel_rfl) rfl rfl (by kernel_rfl) ?_
      refine ls_off (j := 6) (t := 15) (b := false) (c := true) rfl rfl (by kernel_rfl) (by kernel_rfl) rfl rfl (by kernel_rfl) ?_
      refine ls_off (j := 6) (t := 15) (b := false) (c := true) rfl rfl (by kernel_rfl) (by kernel_rfl) rfl rfl (by kernel_rfl) ?_
      refine ls_off (j := 6) (t := 15) (b := false) (c := true) rfl rfl (by kernel_rfl) (by kernel_rfl) rfl rfl (by kernel_rfl) ?_
      refine ls_val (v := .bool true) rfl rfl (by kernel_rfl) (fun w => by kernel_rfl) ?_
      refine ls_end ?_
      refine qn_then ?_
      refine cs_true (by kernel_rfl) ?_
      refine cs_seq ?_
      refine cs_region (l := [_, _, _]) ?_
      refine ls_val (v := .int .u64 (0 : Int)) rfl rfl (by kernel_rfl) (fun w => by kernel_rfl) ?_
      refine ls_val (v := .slice none 0 0) rfl rfl (by kernel_rfl) (fun w => by kernel_rfl) ?_
      refine ls_val (v := .bool false) rfl rfl (by kernel_rfl) (fun w => by kernel_rfl) ?_
      refine ls_end ?_
      refine qn_then ?_
      refine cs_ret' ?_
      refine qr_then ?_
      refine qr_nilrow 0 (Ec.int 5 .u8) ?_
      obtain rfl := Option.some.inj H
      refine qr_res (rs := [_, _, _]) rfl (fun w' hs => ⟨[.int .u64 (0 : Int), .slice none 0 0, .bool false], (res_tmp (by kernel_rfl) (res_tmp (by kernel_rfl) (res_tmp (by kernel_rfl) (.nil)))), (none, 0), rfl, hs.pick (ts := [0]) (cs := [Ck.sl (Ec.int 5 .u8) none 0 ([] : List Int)]) ⟨by exact rfl, trivial⟩ (by decide)⟩)
    · replace H := ite_f q34 H
      refine ls_know (c := false) (dec_f q34) 11 (by kernel_rfl) ?_
      refine ls_on (j := 2) (t := 11) (b := false) rfl rfl (by kernel_rfl) (by kernel_rfl) ?_
      refine ls_val (v := .int .i64 a1) rfl rfl (by kernel_rfl) (fun w => by kernel_rfl) ?_
      refine ls_on (j := 2) (t := 11) (b := false) rfl rfl (by kernel_rfl) (by kernel_rfl) ?_
      refine ls_val (v := .bool (decide (a1 > (8 : Int)))) rfl rfl (by kernel_rfl) (fun w => by kernel_rfl) ?_
      refine ls_val (v := .bool (decide (a1 > (8 : Int)))) rfl rfl (by kernel_rfl) (fun w => by kernel_rfl) ?_
      refine ls_val (v := .bool (decide (a1 > (8 : Int)))) rfl rfl (by kernel_rfl) (fun w => by kernel_rfl) ?_
      by_cases q35 : a1 > (8 : Int)
      · replace H := ite_t q35 H
        refine ls_know (c := true) (dec_t q35) 15 (by kernel_rfl) ?_
        refine ls_off (j := 6) (t := 15) (b := false) (c := true) rfl rfl (by kernel_rfl) (by kernel_rfl) rfl rfl (by kernel_rfl) ?_
        refine ls_off (j := 6) (t := 15) (b := false) (c := true) rfl rfl (by kernel_rfl) (by kernel_rfl) rfl rfl (by kernel_rfl) ?_
        refine ls_off (j := 6) (t := 15) (b := false) (c := true) rfl rfl (by kernel_rfl) (by kernel_rfl) rfl rfl (by kernel_rfl) ?_
        refine ls_off (j := 6) (t := 15) (b := false) (c := true) rfl rfl (by kernel_rfl) (by kernel_rfl) rfl rfl (by kernel_rfl) ?_
        refine ls_val (v := .bool true) rfl rfl (by kernel_rfl) (fun w => by kernel_rfl) ?_
        refine ls_end ?_
        refine qn_then ?_
        refine cs_true (by kernel_rfl) ?_
        refine cs_seq ?_
        refine cs_region (l := [_, _, _]) ?_
        refine ls_val (v := .int .u64 (0 : Int)) rfl rfl (by kernel_rfl) (fun w => by kernel_rfl) ?_
        refine ls_val (v := .slice none 0 0) rfl rfl (by kernel_rfl) (fun w => by kernel_rfl) ?_
        refine ls_val (v := .bool false) rfl rfl (by kernel_rfl) (fun w => by kernel_rfl) ?_
        refine ls_end ?_
        refine qn_then ?_
        refine cs_ret' ?_
        refine qr_then ?_
        refine qr_nilrow 0 (Ec.int 5 .u8) ?_
        obtain rfl := Option.some.inj H
        refine qr_res (rs := [_, _, _]) rfl (fun w' hs => ⟨[.int .u64 (0 : Int), .slice none 0 0, .bool false], (res_tmp (by kernel_rfl) (res_tmp (by kernel_rfl) (res_tmp (by kernel_rfl) (.nil)))), (none, 0), rfl, hs.pick (ts := [0]) (cs := [Ck.sl (Ec.int 5 .u8) none 0 ([] : List Int)]) ⟨by exact rfl, trivial⟩ (by decide)⟩)
      · replace H := ite_f q35 H
        refine ls_know (c := false) (dec_f q35) 15 (by kernel_rfl) ?_
        refine ls_on (j := 6) (t := 15) (b := false) rfl rfl (by kernel_rfl) (by kernel_rfl) ?_
        refine ls_val (v := .slice A0 l0.length c0) rfl rfl (by kernel_rfl) (fun w => by kernel_rfl) ?_
        refine ls_on (j := 6) (t := 15) (b := false) rfl rfl (by kernel_rfl) (by kernel_rfl) ?_
        refine ls_val (v := .int .i64 (l0.length : Int)) rfl rfl (by kernel_rfl) (fun w => by kernel_rfl) ?_
        refine ls_on (j := 6) (t := 15) (b := false) rfl rfl (by kernel_rfl) (by kernel_rfl) ?_
        refine ls_val (v := .int .i64 a1) rfl rfl (by kernel_rfl) (fun w => by kernel_rfl) ?_
        refine ls_on (j := 6) (t := 15) (b := false) rfl rfl (by kernel_rfl) (by kernel_rfl) ?_
        refine ls_val (v := .bool (decide ((l0.length : Int) < a1))) rfl rfl (by kernel_rfl) (fun w => by kernel_rfl) ?_
        refine ls_val (v := .bool (decide ((l0.length : Int) < a1))) rfl rfl (by kernel_rfl) (fun w => by kernel_rfl) ?_
        refine ls_end ?_
        refine qn_then ?_
        by_cases q36 : (l0.length : Int) < a1
        · replace H := ite_t q36 H
          refine cs_know (c := true) (dec_t q36) 20 (by kernel_rfl) ?_
          refine cs_true (by kernel_rfl) ?_
          refine cs_seq ?_
          refine cs_region (l := [_, _, _]) ?_
          refine ls_val (v := .int .u64 (0 : Int)) rfl rfl (by kernel_rfl) (fun w => by kernel_rfl) ?_
          refine ls_val (v := .slice none 0 0) rfl rfl (by kernel_rfl) (fun w => by kernel_rfl) ?_
          refine ls_val (v := .bool false) rfl rfl (by kernel_rfl) (fun w => by kernel_rfl) ?_
          refine ls_end ?_
          refine qn_then ?_
          refine cs_ret' ?_
          refine qr_then ?_
          refine qr_nilrow 0 (Ec.int 5 .u8) ?_
          obtain rfl := Option.some.inj H
          refine qr_res (rs := [_, _, _]) rfl (fun w' hs => ⟨[.int .u64 (0 : Int), .slice none 0 0, .bool false], (res_tmp (by kernel_rfl) (res_tmp (by kernel_rfl) (res_tmp (by kernel_rfl) (.nil)))), (none, 0), rfl, hs.pick (ts := [0]) (cs := [Ck.sl (Ec.int 5 .u8) none 0 ([] : List Int)]) ⟨by exact rfl, trivial⟩ (by decide)⟩)
        · replace H := ite_f q36 H
          refine cs_know (c := false) (dec_f q36) 20 (by kernel_rfl) ?_
          refine cs_false (by kernel_rfl) ?_
          refine cs_skip' ?_
          refine qn_meet (s0) ⟨_, (0 : Int), fr_next (fr_next (fr_next (rfl) (by kernel_rfl)) (by kernel_rfl)) (by kernel_rfl), rfl, H⟩ (sub_nil _)
  · rintro f S ⟨fr1, x4_1, rfl, rfl, H⟩
    replace H : ((if 0 ≤ a1 then (if a1 ≤ (l0.length : Int) then lt (l0.take (a1).toNat) fun xl7 => codec_Take.lo2 l0 a1 xl7 k x4_1 (0 : Int) else none) else none)) = some r := H
    refine cs_seq ?_
    refine cs_seq ?_
    refine cs_region (l := [_, _, _, _, _]) ?_
    refine ls_val (v := .slice A0 l0.length c0) rfl rfl (by kernel_rfl) (fun w => by kernel_rfl) ?_
    refine ls_val (v := .int .i64 a1) rfl rfl (by kernel_rfl) (fun w => by kernel_rfl) ?_
    obtain ⟨q1, H⟩ := ite_need H
    obtain ⟨q2, H⟩ := ite_need H
    obtain ⟨xl7, hy8, H⟩ := lt_some H
    have hz10 : 0 ≤ (a1).toNat := by omega
    have hz11 : (a1).toNat ≤ l0.length := by omega
    obtain ⟨xA3, xc4, he9, xC6, xR5⟩ := cut_at (A := A0) (c := c0) (l := l0) (Ec.int 5 .u8) 0 ((a1).toNat) hz10 hz11 C0 R0 (m := xl7) (by rw [← hy8] <;> simp) (z := 1) rfl
    refine ls_cutv (A := A0) (c := c0) (m := l0.length) (z := 1) (e := 5) (a := 0) (b := (a1).toNat) rfl rfl (by kernel_rfl) rfl (by kernel_rfl) (by kernel_rfl) (by kernel_rfl) (.inl ⟨rfl, rfl⟩) (.inr ⟨.i64, by rw [Int.toNat_of_nonneg (by first | assumption | omega)]; kernel_rfl⟩) hz10 hz11 C0 he9 ?_
    refine ls_val (v := .int .i64 (xl7.length : Int)) rfl rfl (by kernel_rfl) (fun w => by kernel_rfl) ?_
    refine ls_val (v := .int .i64 (0 : Int)) rfl rfl (by kernel_rfl) (fun w => by kernel_rfl) ?_
    refine ls_end ?_
    refine qn_then ?_
    refine cs_block ?_
    refine cs_sub (s0) (sub_nil _) ?_
    refine cs_loop (fun kk f S => ∃ (fR : Fr) (x4_2 : Int) (x25_2 : Int), f = upd (upd (upd (upd (upd (upd fR 0 (.slice A0 l0.length c0)) 1 (.int .i64 a1)) 4 (.int .u64 x4_2)) 23 (.slice xA3 xl7.length xc4)) 24 (.int .i64 (xl7.length : Int))) 25 (.int .i64 x25_2) ∧ S = s0 ∧ codec_Take.lo2 l0 a1 xl7 kk x4_2 x25_2 = some r) k ?_ ?_ ?_
    · exact ⟨_, x4_1, (0 : Int), fr_next (fr_next (fr_next (fr_next (fr_next (fr_next (rfl) (by kernel_rfl)) (by kernel_rfl)) (by kernel_rfl)) (by kernel_rfl)) (by kernel_rfl)) (by kernel_rfl), rfl, H⟩
    · rintro f S ⟨fr2, x4_2, x25_2, rfl, rfl, H⟩; cases H
    · rintro k2 f S ⟨fr2, x4_2, x25_2, rfl, rfl, H⟩
      replace H : ((if x25_2 < (xl7.length : Int) then (if 0 ≤ x25_2 then lt (IntKind.wrap .u64 ((xl7).getD (x25_2).toNat (0 : Int))) fun y16 => (if 0 ≤ IntKind.wrap .i64 ((8 : Int) * x25_2) then lt (shlv .u64 y16 (IntKind.wrap .i64 ((8 : Int) * x25_2))) fun y19 => (codec_Take.lo2 l0 a1 xl7 k2) (bits .or .u64 x4_2 y19) (IntKind.wrap .i64 (x25_2 + (1 : Int))) else none) else none) else lt (l0.drop (a1).toNat) fun xl26 => (if (([] : List Int).length + xl26.length) * 1 ≤ 140737488355328 then some (x4_2, (([] : List Int) ++ xl26), true) else none))) = some r := H
      refine cs_seq ?_
      refine cs_region (l := [_]) ?_
      refine ls_val (v := .bool (decide (x25_2 < (xl7.length : Int)))) rfl rfl (by kernel_rfl) (fun w => by kernel_rfl) ?_
      refine ls_end ?_
      refine qn_then ?_
      refine cs_seq ?_
      by_cases q12 : x25_2 < (xl7.length : Int)
      · replace H := ite_t q12 H
        refine cs_know (c := true) (dec_t q12) 26 (by kernel_rfl) ?_
        refine cs_true (by kernel_rfl) ?_
        refine cs_skip' ?_
        refine qn_then ?_
        refine cs_seq ?_
        refine cs_block ?_
        refine cs_seq ?_
        refine cs_region (l := [_, _, _, _, _]) ?_
        refine ls_val (v := .int .i64 x25_2) rfl rfl (by kernel_rfl) (fun w => by kernel_rfl) ?_
        obtain ⟨q13, H⟩ := ite_need H
        obtain ⟨ad14, hA15⟩ := ido_at (T := (Ec.int 5 .u8)) (l := xl7) (i := x25_2) xR5 q13 q12
        refine ls_idxv (Ec.int 5 .u8) (A := xA3) (c := xc4) (l := xl7) (k := .i64) (i := x25_2) (z := 1) (ad := ad14) rfl rfl (by kernel_rfl) hA15 rfl (by kernel_rfl) (by kernel_rfl) (by kernel_rfl) (by kernel_rfl) q13 q12 ?_
        refine ls_load (a0 := (ad14.add ((x25_2).toNat * 1))) (v := .int .u8 ((xl7).getD (x25_2).toNat (0 : Int))) (de := (TypeDesc.int .u8)) rfl rfl (by kernel_rfl) rfl (by kernel_rfl) (by kernel_rfl) (by kernel_rfl) (fun w hs => (hs.old xR5).at hA15 (em_sub (Ec.int 5 .u8) xl7 (i := (x25_2).toNat) (by have h0 : (0 : Int) ≤ x25_2 := q13; have h1 : x25_2 < (xl7.length : Int) := q12; omega))) ?_
        refine ls_val (v := .int .i64 x25_2) rfl rfl (by kernel_rfl) (fun w => by kernel_rfl) ?_
        refine ls_val (v := .int .u8 ((xl7).getD (x25_2).toNat (0 : Int))) rfl rfl (by kernel_rfl) (fun w => by kernel_rfl) ?_
        refine ls_end ?_
        refine qn_then ?_
        refine cs_region (l := [_, _, _, _, _, _, _, _]) ?_
        refine ls_val (v := .int .u64 x4_2) rfl rfl (by kernel_rfl) (fun w => by kernel_rfl) ?_
        refine ls_val (v := .int .u8 ((xl7).getD (x25_2).toNat (0 : Int))) rfl rfl (by kernel_rfl) (fun w => by kernel_rfl) ?_
        obtain ⟨y16, hy17, H⟩ := lt_some H
        refine ls_val (v := .int .u64 (IntKind.wrap .u64 ((xl7).getD (x25_2).toNat (0 : Int)))) rfl rfl (by kernel_rfl) (fun w => by kernel_rfl) ?_
        refine ls_ren 32 (v := .int .u64 (IntKind.wrap .u64 ((xl7).getD (x25_2).toNat (0 : Int)))) (v' := .int .u64 y16) (by kernel_rfl) (by rw [hy17]) ?_
        refine ls_val (v := .int .i64 x25_2) rfl rfl (by kernel_rfl) (fun w => by kernel_rfl) ?_
        refine ls_val (v := .int .i64 (IntKind.wrap .i64 ((8 : Int) * x25_2))) rfl rfl (by kernel_rfl) (fun w => by kernel_rfl) ?_
        obtain ⟨q18, H⟩ := ite_need H
        obtain ⟨y19, hy20, H⟩ := lt_some H
        refine ls_shiftl (k := .u64) (yk := .i64) (x := y16) (y := (IntKind.wrap .i64 ((8 : Int) * x25_2))) rfl rfl (by kernel_rfl) (fun w => by kernel_rfl) q18 ?_
        refine ls_ren 35 (v := .int .u64 (shlv .u64 y16 (IntKind.wrap .i64 ((8 : Int) * x25_2)))) (v' := .int .u64 y19) (by kernel_rfl) (by rw [hy20]) ?_
        refine ls_val (v := .int .u64 (bits .or .u64 x4_2 y19)) rfl rfl (by kernel_rfl) (fun w => by kernel_rfl) ?_
        refine ls_val (v := .int .u64 (bits .or .u64 x4_2 y19)) rfl rfl (by kernel_rfl) (fun w => by kernel_rfl) ?_
        refine ls_end ?_
        refine qn_block ?_
        refine qn_then ?_
        refine cs_region (l := [_, _]) ?_
        refine ls_val (v := .int .i64 (IntKind.wrap .i64 (x25_2 + (1 : Int)))) rfl rfl (by kernel_rfl) (fun w => by kernel_rfl) ?_
        refine ls_val (v := .int .i64 (IntKind.wrap .i64 (x25_2 + (1 : Int)))) rfl rfl (by kernel_rfl) (fun w => by kernel_rfl) ?_
        refine ls_end ?_
        refine qn_again k2 (s0) (Nat.le_refl _) ⟨_, (bits .or .u64 x4_2 y19), (IntKind.wrap .i64 (x25_2 + (1 : Int))), fr_next (fr_next (fr_next (fr_next (fr_next (fr_next (rfl) (by kernel_rfl)) (by kernel_rfl)) (by kernel_rfl)) (by kernel_rfl)) (by kernel_rfl)) (by kernel_rfl), rfl, H⟩ (sub_nil _)
      · replace H := ite_f q12 H
        refine cs_know (c := false) (dec_f q12) 26 (by kernel_rfl) ?_
        refine cs_false (by kernel_rfl) ?_
        refine cs_exit' ?_
        refine qx_then ?_
        refine qx_then ?_
        refine qx_same ?_
        refine qn_then ?_
        refine cs_seq ?_
        refine cs_region (l := [_, _, _, _, _, _, _, _, _]) ?_
        refine ls_val (v := .int .u64 x4_2) rfl rfl (by kernel_rfl) (fun w => by kernel_rfl) ?_
        refine ls_lit (Ec.int 5 .u8) 0 rfl rfl (by kernel_rfl) ([] : List Int) (by exact of_decide_eq_true (by kernel_rfl)) (fun w => by kernel_rfl) ?_
        intro g21
        refine ls_val (v := .slice A0 l0.length c0) rfl rfl (by kernel_rfl) (fun w => by kernel_rfl) ?_
        refine ls_val (v := .int .i64 a1) rfl rfl (by kernel_rfl) (fun w => by kernel_rfl) ?_
        obtain ⟨xl26, hy27, H⟩ := lt_some H
        have hz29 : (a1).toNat ≤ l0.length := by omega
        have hz30 : l0.length ≤ l0.length := by omega
        obtain ⟨xA22, xc23, he28, xC25, xR24⟩ := cut_at (A := A0) (c := c0) (l := l0) (Ec.int 5 .u8) ((a1).toNat) l0.length hz29 hz30 C0 R0 (m := xl26) (by rw [← hy27] <;> simp) (z := 1) rfl
        refine ls_cutv (A := A0) (c := c0) (m := l0.length) (z := 1) (e := 5) (a := (a1).toNat) (b := l0.length) rfl rfl (by kernel_rfl) rfl (by kernel_rfl) (by kernel_rfl) (by kernel_rfl) (.inr ⟨.i64, by rw [Int.toNat_of_nonneg (by first | assumption | omega)]; kernel_rfl⟩) (.inl ⟨rfl, rfl⟩) hz29 hz30 C0 he28 ?_
        obtain ⟨q31, H⟩ := ite_need H
        refine ls_app (Ec.int 5 .u8) (A := (some ⟨g21, 0, none⟩)) (c := ([] : List Int).length) (B := xA22) (cb := xc23) (z := (Value.int .u8 0)) (l := ([] : List Int)) (m := xl26) (bytes := 1) 0 rfl rfl (by kernel_rfl) rfl (by kernel_rfl) (by exact rfl) (by kernel_rfl) (fun w hs => (hs.old xR24)) (by kernel_rfl) (by kernel_rfl) rfl (by decide) q31 ?_
        intro xA32 xc33
        refine ls_val (v := .int .u64 x4_2) rfl rfl (by kernel_rfl) (fun w => by kernel_rfl) ?_
        refine ls_val (v := .slice xA32 (([] : List Int) ++ xl26).length xc33) rfl rfl (by kernel_rfl) (fun w => by kernel_rfl) ?_
        refine ls_val (v := .bool true) rfl rfl (by kernel_rfl) (fun w => by kernel_rfl) ?_
        refine ls_end ?_
        refine qn_then ?_
        refine cs_ret' ?_
        obtain rfl := Option.some.inj H
        refine qr_res (rs := [_, _, _]) rfl (fun w' hs => ⟨[.int .u64 x4_2, .slice xA32 (([] : List Int) ++ xl26).length xc33, .bool true], (res_tmp (by kernel_rfl) (res_tmp (by kernel_rfl) (res_tmp (by kernel_rfl) (.nil)))), (xA32, xc33), rfl, hs.pick (ts := [0]) (cs := [Ck.sl (Ec.int 5 .u8) xA32 xc33 (([] : List Int) ++ xl26)]) ⟨by exact rfl, trivial⟩ (by decide)⟩)

/-! ### shadowbox/pointer.Read$1: function 30 -/
def pointer_Read_1.f (k : Nat) (a0 : Int) (v1 : (List Int)) : Option (Int × (List Int)) :=
  (if 0 ≤ a0 then (if a0 ≤ (v1.length : Int) then lt (v1.take (a0).toNat) fun xl7 => (codec_Take.f k xl7 a0).bind fun t12 => lt (v1.drop (a0).toNat) fun xl19 => some (t12.1, xl19) else none) else none)
set_option maxRecDepth 100000 in
set_option maxHeartbeats 4000000 in
theorem pointer_Read_1.calls (k : Nat) (a0 : Int) (pg1 : Nat) (A1 : Option Addr) (c1 : Nat) (v1 : (List Int)) (r : Int × (List Int)) (b : Bs) (hs0 : St b (stl [Ck.var 26 pg1 ([Value.slice A1 v1.length c1])]) b.w) (R1 : Ro b A1 (em (Ec.int 5 .u8) v1)) (C1 : v1.length ≤ c1) (H : pointer_Read_1.f k a0 v1 = some r) :
    Calls Try.prog 30 #[.int .i64 a0, .pointer (some ⟨pg1, 0, none⟩)] b.w fun e w' => ∃ x : (Option Addr × Nat), e = .returned (.int .u64 r.1) ∧ ((Ro b x.1 (em (Ec.int 5 .u8) r.2) ∧ r.2.length ≤ x.2)) ∧ St b (stl [Ck.var 26 pg1 ([Value.slice x.1 r.2.length x.2])]) w' := by
  unfold pointer_Read_1.f at H
  refine enterb (n := 20) Try.func30 rfl (by kernel_rfl) (by kernel_rfl) hs0 ?_
  refine cs_sub (sput s0 0 (some (Ck.var 26 pg1 ([Value.slice A1 v1.length c1])))) (sub_put (by exact rfl) (sub_nil _)) ?_
  refine cs_seq ?_
  refine cs_region (l := [_]) ?_
  refine ls_val (v := .int .u64 (0 : Int)) rfl rfl (by kernel_rfl) (fun w => by kernel_rfl) ?_
  refine ls_end ?_
  refine qn_then ?_
  refine cs_seq ?_
  refine cs_region (l := [_, _, _, _, _, _, _, _, _, _, _, _]) ?_
  refine ls_load (a0 := ⟨pg1, 0, none⟩) (v := .slice A1 v1.length c1) (de := (TypeDesc.slice 5)) rfl rfl (by kernel_rfl) rfl (by kernel_rfl) (by kernel_rfl) (by kernel_rfl) (fun w hs => (hs.var (k := 0) (by exact rfl) (Sub4.all _))) ?_
  refine ls_val (v := .int .i64 a0) rfl rfl (by kernel_rfl) (fun w => by kernel_rfl) ?_
  obtain ⟨q1, H⟩ := ite_need H
  obtain ⟨q2, H⟩ := ite_need H
  obtain ⟨xl7, hy8, H⟩ := lt_some H
  have hz10 : 0 ≤ (a0).toNat := by omega
  have hz11 : (a0).toNat ≤ v1.length := by omega
  obtain ⟨xA3, xc4, he9, xC6, xR5⟩ := cut_at (A := A1) (c := c1) (l := v1) (Ec.int 5 .u8) 0 ((a0).toNat) hz10 hz11 C1 R1 (m := xl7) (by rw [← hy8] <;> simp) (z := 1) rfl
  refine ls_cutv (A := A1) (c := c1) (m := v1.length) (z := 1) (e := 5) (a := 0) (b := (a0).toNat) rfl rfl (by kernel_rfl) rfl (by kernel_rfl) (by kernel_rfl) (by kernel_rfl) (.inl ⟨rfl, rfl⟩) (.inr ⟨.i64, by rw [Int.toNat_of_nonneg (by first | assumption | omega)]; kernel_rfl⟩) hz10 hz11 C1 he9 ?_
  refine ls_val (v := .int .i64 a0) rfl rfl (by kernel_rfl) (fun w => by kernel_rfl) ?_
  obtain ⟨t12, hc13, H⟩ := bind_some H
  refine ls_callb (fid := 31) (vals := #[.slice xA3 xl7.length xc4, .int .i64 a0]) (X := (Option Addr × Nat)) (fun x => .tuple #[.int .u64 t12.1, .slice x.1 t12.2.1.length x.2, .bool t12.2.2]) (fun x => stl [Ck.sl (Ec.int 5 .u8) x.1 x.2 t12.2.1]) [] [] [] [] 1 rfl rfl (by kernel_rfl) (fun w => by kernel_rfl) trivial trivial (by decide) (fun w hs hb => codec_Take.calls k xA3 xc4 xl7 a0 t12 (lent b w [] []) hb (hs.ro xR5 _ _) xC6 hc13) ?_
  intro x14
  refine ls_val (v := .tuple #[.int .u64 t12.1, .slice x14.1 t12.2.1.length x14.2, .bool t12.2.2]) rfl rfl (by kernel_rfl) (fun w => by kernel_rfl) ?_
  refine ls_val (v := .int .u64 t12.1) rfl rfl (by kernel_rfl) (fun w => by kernel_rfl) ?_
  refine ls_val (v := .slice x14.1 t12.2.1.length x14.2) rfl rfl (by kernel_rfl) (fun w => by kernel_rfl) ?_
  refine ls_val (v := .bool t12.2.2) rfl rfl (by kernel_rfl) (fun w => by kernel_rfl) ?_
  refine ls_val (v := .int .u64 t12.1) rfl rfl (by kernel_rfl) (fun w => by kernel_rfl) ?_
  refine ls_val (v := .slice x14.1 t12.2.1.length x14.2) rfl rfl (by kernel_rfl) (fun w => by kernel_rfl) ?_
  refine ls_val (v := .bool t12.2.2) rfl rfl (by kernel_rfl) (fun w => by kernel_rfl) ?_
  refine ls_end ?_
  refine qn_then ?_
  refine cs_seq ?_
  refine cs_region (l := [_, _, _, _]) ?_
  refine ls_load (a0 := ⟨pg1, 0, none⟩) (v := .slice A1 v1.length c1) (de := (TypeDesc.slice 5)) rfl rfl (by kernel_rfl) rfl (by kernel_rfl) (by kernel_rfl) (by kernel_rfl) (fun w hs => (hs.var (k := 0) (by exact rfl) (Sub4.all _))) ?_
  refine ls_val (v := .int .i64 a0) rfl rfl (by kernel_rfl) (fun w => by kernel_rfl) ?_
  obtain ⟨xl19, hy20, H⟩ := lt_some H
  have hz22 : (a0).toNat ≤ v1.length := by omega
  have hz23 : v1.length ≤ v1.length := by omega
  obtain ⟨xA15, xc16, he21, xC18, xR17⟩ := cut_at (A := A1) (c := c1) (l := v1) (Ec.int 5 .u8) ((a0).toNat) v1.length hz22 hz23 C1 R1 (m := xl19) (by rw [← hy20] <;> simp) (z := 1) rfl
  refine ls_cutv (A := A1) (c := c1) (m := v1.length) (z := 1) (e := 5) (a := (a0).toNat) (b := v1.length) rfl rfl (by kernel_rfl) rfl (by kernel_rfl) (by kernel_rfl) (by kernel_rfl) (.inr ⟨.i64, by rw [Int.toNat_of_nonneg (by first | assumption | omega)]; kernel_rfl⟩) (.inl ⟨rfl, rfl⟩) hz22 hz23 C1 he21 ?_
  refine ls_storec (g := pg1) (off := 0) (v := .slice xA15 xl19.length xc16) (vs := [Value.slice xA15 xl19.length xc16]) (cs := [Value.slice A1 v1.length c1]) (ty := 26) 0 rfl rfl rfl (by kernel_rfl) (by kernel_rfl) (by kernel_rfl) (by exact rfl) (by kernel_rfl) (len1 _) (one_cons rfl one_nil) (hl_of (Sub4.all _) (len_eq (len1 _) (len1 _))) (cs' := [Value.slice xA15 xl19.length xc16]) (splc_all (len_eq (len1 _) (len1 _))) ?_
  refine ls_end ?_
  refine qn_then ?_
  refine cs_seq ?_
  refine cs_region (l := [_, _]) ?_
  refine ls_val (v := .int .u64 t12.1) rfl rfl (by kernel_rfl) (fun w => by kernel_rfl) ?_
  refine ls_val (v := .int .u64 t12.1) rfl rfl (by kernel_rfl) (fun w => by kernel_rfl) ?_
  refine ls_end ?_
  refine qn_then ?_
  refine cs_ret' ?_
  obtain rfl := Option.some.inj H
  refine qr_res (rs := [_]) rfl (fun w' hs => ⟨[.int .u64 t12.1], (res_tmp (by kernel_rfl) (.nil)), (xA15, xc16), rfl, ⟨xR17, xC18⟩, hs.pick (ts := [0]) (cs := [Ck.var 26 pg1 ([Value.slice xA15 xl19.length xc16])]) ⟨by exact rfl, trivial⟩ (by decide)⟩)

/-! ### shadowbox/pointer.Read: function 10 -/
def pointer_Read.jo1 (k : Nat) (l0 : List Int) : Option ((Int × Int × Int × Int × (Vc Int 32)) × Int) := (if (52 : Int) ≤ (l0.length : Int) then lt (l0.take ((52 : Int)).toNat) fun xl8 => (pointer_Read_1.f k (4 : Int) xl8).bind fun t13 => (pointer_Read_1.f k (4 : Int) t13.2).bind fun t19 => (pointer_Read_1.f k (8 : Int) t19.2).bind fun t25 => (pointer_Read_1.f k (4 : Int) t25.2).bind fun t31 => (if 32 ≤ t31.2.length then (pointer_None.f k (IntKind.wrap .i64 t13.1, IntKind.wrap .i64 t25.1, IntKind.wrap .i64 t19.1, IntKind.wrap .u32 t31.1, (vpad 32 0 t31.2))).bind fun t40 => (if t40 = true then some ((IntKind.wrap .i64 t13.1, IntKind.wrap .i64 t25.1, IntKind.wrap .i64 t19.1, IntKind.wrap .u32 t31.1, (vpad 32 0 t31.2)), (0 : Int)) else (pointer_Right.f k (IntKind.wrap .i64 t13.1, IntKind.wrap .i64 t25.1, IntKind.wrap .i64 t19.1, IntKind.wrap .u32 t31.1, (vpad 32 0 t31.2))).bind fun t44 => (if t44 = true then some ((IntKind.wrap .i64 t13.1, IntKind.wrap .i64 t25.1, IntKind.wrap .i64 t19.1, IntKind.wrap .u32 t31.1, (vpad 32 0 t31.2)), (0 : Int)) else some (((0 : Int), (0 : Int), (0 : Int), (0 : Int), (vrep 32 (0 : Int))), (11 : Int)))) else none) else none)
def pointer_Read.f (k : Nat) (l0 : List Int) : Option ((Int × Int × Int × Int × (Vc Int 32)) × Int) :=
  (if (l0.length : Int) < (52 : Int) then some (((0 : Int), (0 : Int), (0 : Int), (0 : Int), (vrep 32 (0 : Int))), (10 : Int)) else (pointer_Read.jo1 k l0))
set_option maxRecDepth 100000 in
set_option maxHeartbeats 4000000 in
theorem pointer_Read.calls (k : Nat) (A0 : Option Addr) (c0 : Nat) (l0 : List Int) (r : (Int × Int × Int × Int × (Vc Int 32)) × Int) (b : Bs) (hs0 : St b (stl []) b.w) (R0 : Ro b A0 (em (Ec.int 5 .u8) l0)) (C0 : l0.length ≤ c0) (H : pointer_Read.f k l0 = some r) :
    Calls Try.prog 10 #[.slice A0 l0.length c0] b.w fun e w' => ∃ x : Unit, e = .returned (.tuple #[.agg ⟨([Value.int .i64 r.1.1] ++ ([Value.int .i64 r.1.2.1] ++ ([Value.int .i64 r.1.2.2.1] ++ ([Value.int .u32 r.1.2.2.2.1] ++ en (Value.int .u8) r.1.2.2.2.2.1))))⟩, .int .i64 r.2]) ∧ St b (stl []) w' := by
  unfold pointer_Read.f at H
  refine enterb (n := 42) Try.func10 rfl (by kernel_rfl) (by kernel_rfl) hs0 ?_
  refine cs_sub (s0) (sub_nil _) ?_
  refine cs_seq ?_
  refine cs_region (l := [_, _, _]) ?_
  refine ls_new rfl rfl (by kernel_rfl) 0 (fun g => .pointer (some ⟨g, 0, none⟩)) (.cells ⟨[Value.slice A0 l0.length c0]⟩ 26) (fun w => by kernel_rfl) ?_
  intro g1
  refine ls_new rfl rfl (by kernel_rfl) 1 (fun g => .pointer (some ⟨g, 0, none⟩)) (.cells ⟨([Value.int .i64 (0 : Int)] ++ ([Value.int .i64 (0 : Int)] ++ ([Value.int .i64 (0 : Int)] ++ ([Value.int .u32 (0 : Int)] ++ en (Value.int .u8) (vrep 32 (0 : Int)).1))))⟩ 25) (fun w => by kernel_rfl) ?_
  intro g2
  refine ls_val (v := .int .i64 (0 : Int)) rfl rfl (by kernel_rfl) (fun w => by kernel_rfl) ?_
  refine ls_end ?_
  refine qn_then ?_
  refine cs_cut (fun f S => ∃ (fR : Fr), f = upd (upd fR 1 (.pointer (some ⟨g1, 0, none⟩))) 2 (.pointer (some ⟨g2, 0, none⟩)) ∧ S = sput (sput s0 0 (some (Ck.var 26 g1 ([Value.slice A0 l0.length c0])))) 1 (some (Ck.var 25 g2 (([Value.int .i64 (0 : Int)] ++ ([Value.int .i64 (0 : Int)] ++ ([Value.int .i64 (0 : Int)] ++ ([Value.int .u32 (0 : Int)] ++ en (Value.int .u8) (vrep 32 (0 : Int)).1))))))) ∧ pointer_Read.jo1 k l0 = some r) ?_ ?_
  · skip
    refine cs_seq ?_
    refine cs_region (l := [_, _, _]) ?_
    refine ls_load (a0 := ⟨g1, 0, none⟩) (v := .slice A0 l0.length c0) (de := (TypeDesc.slice 5)) rfl rfl (by kernel_rfl) rfl (by kernel_rfl) (by kernel_rfl) (by kernel_rfl) (fun w hs => (hs.var (k := 0) (by exact rfl) (Sub4.all _))) ?_
    refine ls_val (v := .int .i64 (l0.length : Int)) rfl rfl (by kernel_rfl) (fun w => by kernel_rfl) ?_
    refine ls_val (v := .bool (decide ((l0.length : Int) < (52 : Int)))) rfl rfl (by kernel_rfl) (fun w => by kernel_rfl) ?_
    refine ls_end ?_
    refine qn_then ?_
    by_cases q48 : (l0.length : Int) < (52 : Int)
    · replace H := ite_t q48 H
      refine cs_know (c := true) (dec_t q48) 7 (by kernel_rfl) ?_
      refine cs_true (by kernel_rfl) ?_
      refine cs_seq ?_
      refine cs_region (l := [_, _, _]) ?_
      refine ls_build (ps := []) (pl := #[(0, 1), (1, 1), (2, 1), (3, 1), (4, 32)]) (zv := .agg ⟨([Value.int .i64 (0 : Int)] ++ ([Value.int .i64 (0 : Int)] ++ ([Value.int .i64 (0 : Int)] ++ ([Value.int .u32 (0 : Int)] ++ en (Value.int .u8) (vrep 32 (0 : Int)).1))))⟩) (zc := ([Value.int .i64 (0 : Int)] ++ ([Value.int .i64 (0 : Int)] ++ ([Value.int .i64 (0 : Int)] ++ ([Value.int .u32 (0 : Int)] ++ en (Value.int .u8) (vrep 32 (0 : Int)).1))))) (r := ([Value.int .i64 (0 : Int)] ++ ([Value.int .i64 (0 : Int)] ++ ([Value.int .i64 (0 : Int)] ++ ([Value.int .u32 (0 : Int)] ++ en (Value.int .u8) (vrep 32 (0 : Int)).1))))) rfl rfl (by kernel_rfl) rfl (by kernel_rfl) (by kernel_rfl) (fun w => by kernel_rfl) (fun w => by kernel_rfl) rfl fill_nil ?_
      refine ls_storec (g := g2) (off := 0) (v := .agg ⟨([Value.int .i64 (0 : Int)] ++ ([Value.int .i64 (0 : Int)] ++ ([Value.int .i64 (0 : Int)] ++ ([Value.int .u32 (0 : Int)] ++ en (Value.int .u8) (vrep 32 (0 : Int)).1))))⟩) (vs := ([Value.int .i64 (0 : Int)] ++ ([Value.int .i64 (0 : Int)] ++ ([Value.int .i64 (0 : Int)] ++ ([Value.int .u32 (0 : Int)] ++ en (Value.int .u8) (vrep 32 (0 : Int)).1))))) (cs := ([Value.int .i64 (0 : Int)] ++ ([Value.int .i64 (0 : Int)] ++ ([Value.int .i64 (0 : Int)] ++ ([Value.int .u32 (0 : Int)] ++ en (Value.int .u8) (vrep 32 (0 : Int)).1))))) (ty := 25) 1 rfl rfl rfl (by kernel_rfl) (by kernel_rfl) (by kernel_rfl) (by exact rfl) (by kernel_rfl) (len_app (len1 _) (len_app (len1 _) (len_app (len1 _) (len_app (len1 _) (len_en _ (vrep 32 (0 : Int))))))) (one_app (one_cons rfl one_nil) (one_app (one_cons rfl one_nil) (one_app (one_cons rfl one_nil) (one_app (one_cons rfl one_nil) (one_en (fun _ => rfl) _))))) (hl_of (Sub4.all _) (len_eq (len_app (len1 _) (len_app (len1 _) (len_app (len1 _) (len_app (len1 _) (len_en _ (vrep 32 (0 : Int))))))) (len_app (len1 _) (len_app (len1 _) (len_app (len1 _) (len_app (len1 _) (len_en _ (vrep 32 (0 : Int))))))))) (cs' := ([Value.int .i64 (0 : Int)] ++ ([Value.int .i64 (0 : Int)] ++ ([Value.int .i64 (0 : Int)] ++ ([Value.int .u32 (0 : Int)] ++ en (Value.int .u8) (vrep 32 (0 : Int)).1))))) (splc_all (len_eq (len_app (len1 _) (len_app (len1 _) (len_app (len1 _) (len_app (len1 _) (len_en _ (vrep 32 (0 : Int))))))) (len_app (len1 _) (len_app (len1 _) (len_app (len1 _) (len_app (len1 _) (len_en _ (vrep 32 (0 : Int))))))))) ?_
      refine ls_val (v := .int .i64 (10 : Int)) rfl rfl (by kernel_rfl) (fun w => by kernel_rfl) ?_
      refine ls_end ?_
      refine qn_then ?_
      refine cs_ret' ?_
      refine qr_then ?_
      obtain rfl := Option.some.inj H
      refine qr_res (rs := [_, _]) rfl (fun w' hs => ⟨[.agg ⟨([Value.int .i64 (0 : Int)] ++ ([Value.int .i64 (0 : Int)] ++ ([Value.int .i64 (0 : Int)] ++ ([Value.int .u32 (0 : Int)] ++ en (Value.int .u8) (vrep 32 (0 : Int)).1))))⟩, .int .i64 (10 : Int)], (.cell (by kernel_rfl) (run_cellres (by kernel_rfl) (by kernel_rfl) (len_app (len1 _) (len_app (len1 _) (len_app (len1 _) (len_app (len1 _) (len_en _ (vrep 32 (0 : Int))))))) (hs.holds 1 _ (by exact rfl))) (res_tmp (by kernel_rfl) (.nil))), (), rfl, hs.pick (ts := []) (cs := []) trivial (by decide)⟩)
    · replace H := ite_f q48 H
      refine cs_know (c := false) (dec_f q48) 7 (by kernel_rfl) ?_
      refine cs_false (by kernel_rfl) ?_
      refine cs_skip' ?_
      refine qn_meet (sput (sput s0 0 (some (Ck.var 26 g1 ([Value.slice A0 l0.length c0])))) 1 (some (Ck.var 25 g2 (([Value.int .i64 (0 : Int)] ++ ([Value.int .i64 (0 : Int)] ++ ([Value.int .i64 (0 : Int)] ++ ([Value.int .u32 (0 : Int)] ++ en (Value.int .u8) (vrep 32 (0 : Int)).1)))))))) ⟨_, fr_next (fr_next (rfl) (by kernel_rfl)) (by kernel_rfl), rfl, H⟩ (sub_put (by exact rfl) (sub_put (by exact rfl) (sub_nil _)))
  · rintro f S ⟨fr1, rfl, rfl, H⟩
    replace H : ((if (52 : Int) ≤ (l0.length : Int) then lt (l0.take ((52 : Int)).toNat) fun xl8 => (pointer_Read_1.f k (4 : Int) xl8).bind fun t13 => (pointer_Read_1.f k (4 : Int) t13.2).bind fun t19 => (pointer_Read_1.f k (8 : Int) t19.2).bind fun t25 => (pointer_Read_1.f k (4 : Int) t25.2).bind fun t31 => (if 32 ≤ t31.2.length then (pointer_None.f k (IntKind.wrap .i64 t13.1, IntKind.wrap .i64 t25.1, IntKind.wrap .i64 t19.1, IntKind.wrap .u32 t31.1, (vpad 32 0 t31.2))).bind fun t40 => (if t40 = true then some ((IntKind.wrap .i64 t13.1, IntKind.wrap .i64 t25.1, IntKind.wrap .i64 t19.1, IntKind.wrap .u32 t31.1, (vpad 32 0 t31.2)), (0 : Int)) else (pointer_Right.f k (IntKind.wrap .i64 t13.1, IntKind.wrap .i64 t25.1, IntKind.wrap .i64 t19.1, IntKind.wrap .u32 t31.1, (vpad 32 0 t31.2))).bind fun t44 => (if t44 = true then some ((IntKind.wrap .i64 t13.1, IntKind.wrap .i64 t25.1, IntKind.wrap .i64 t19.1, IntKind.wrap .u32 t31.1, (vpad 32 0 t31.2)), (0 : Int)) else some (((0 : Int), (0 : Int), (0 : Int), (0 : Int), (vrep 32 (0 : Int))), (11 : Int)))) else none) else none)) = some r := H
    refine cs_seq ?_
    refine cs_region (l := [_, _, _]) ?_
    refine ls_load (a0 := ⟨g1, 0, none⟩) (v := .slice A0 l0.length c0) (de := (TypeDesc.slice 5)) rfl rfl (by kernel_rfl) rfl (by kernel_rfl) (by kernel_rfl) (by kernel_rfl) (fun w hs => (hs.var (k := 0) (by exact rfl) (Sub4.all _))) ?_
    obtain ⟨q3, H⟩ := ite_need H
    obtain ⟨xl8, hy9, H⟩ := lt_some H
    have hz11 : 0 ≤ ((52 : Int)).toNat := by omega
    have hz12 : ((52 : Int)).toNat ≤ l0.length := by omega
    obtain ⟨xA4, xc5, he10, xC7, xR6⟩ := cut_at (A := A0) (c := c0) (l := l0) (Ec.int 5 .u8) 0 (((52 : Int)).toNat) hz11 hz12 C0 R0 (m := xl8) (by rw [← hy9] <;> simp) (z := 1) rfl
    refine ls_cutv (A := A0) (c := c0) (m := l0.length) (z := 1) (e := 5) (a := 0) (b := ((52 : Int)).toNat) rfl rfl (by kernel_rfl) rfl (by kernel_rfl) (by kernel_rfl) (by kernel_rfl) (.inl ⟨rfl, rfl⟩) (.inr ⟨.i64, by rw [Int.toNat_of_nonneg (by first | assumption | omega)]; kernel_rfl⟩) hz11 hz12 C0 he10 ?_
    refine ls_storec (g := g1) (off := 0) (v := .slice xA4 xl8.length xc5) (vs := [Value.slice xA4 xl8.length xc5]) (cs := [Value.slice A0 l0.length c0]) (ty := 26) 0 rfl rfl rfl (by kernel_rfl) (by kernel_rfl) (by kernel_rfl) (by exact rfl) (by kernel_rfl) (len1 _) (one_cons rfl one_nil) (hl_of (Sub4.all _) (len_eq (len1 _) (len1 _))) (cs' := [Value.slice xA4 xl8.length xc5]) (splc_all (len_eq (len1 _) (len1 _))) ?_
    refine ls_end ?_
    refine qn_then ?_
    refine cs_seq ?_
    refine cs_region (l := [_, _]) ?_
    refine ls_val (v := .func (.func 30) #[] #[.pointer (some ⟨g1, 0, none⟩)]) rfl rfl (by kernel_rfl) (fun w => by kernel_rfl) ?_
    refine ls_val (v := .func (.func 30) #[] #[.pointer (some ⟨g1, 0, none⟩)]) rfl rfl (by kernel_rfl) (fun w => by kernel_rfl) ?_
    refine ls_end ?_
    refine qn_then ?_
    refine cs_seq ?_
    refine cs_region (l := [_, _, _, _, _, _, _, _, _, _]) ?_
    refine ls_val (v := .func (.func 30) #[] #[.pointer (some ⟨g1, 0, none⟩)]) rfl rfl (by kernel_rfl) (fun w => by kernel_rfl) ?_
    obtain ⟨t13, hc14, H⟩ := bind_some H
    refine ls_callg (fid := 30) (vals := #[.int .i64 (4 : Int), .pointer (some ⟨g1, 0, none⟩)]) (X := (Option Addr × Nat)) (fun x => .int .u64 t13.1) (fun x => stl [Ck.var 26 g1 ([Value.slice x.1 t13.2.length x.2])]) (fun x B => (Ro B x.1 (em (Ec.int 5 .u8) t13.2) ∧ t13.2.length ≤ x.2)) [0] [Ck.var 26 g1 ([Value.slice xA4 xl8.length xc5])] 2 rfl rfl (by kernel_rfl) (fun w => by kernel_rfl) ⟨by exact rfl, trivial⟩ (by decide) (fun x b b' h hf => ⟨h _ _ hf.1, hf.2⟩) (fun w hs hb => pointer_Read_1.calls k (4 : Int) g1 xA4 xc5 xl8 t13 (lent b w [Ck.var 26 g1 ([Value.slice xA4 xl8.length xc5])] []) hb (hs.ro xR6 _ _) xC7 hc14) ?_
    intro x15 hf18
    obtain ⟨fR16, fC17⟩ := hf18
    refine ls_val (v := .int .i64 (IntKind.wrap .i64 t13.1)) rfl rfl (by kernel_rfl) (fun w => by kernel_rfl) ?_
    refine ls_val (v := .func (.func 30) #[] #[.pointer (some ⟨g1, 0, none⟩)]) rfl rfl (by kernel_rfl) (fun w => by kernel_rfl) ?_
    obtain ⟨t19, hc20, H⟩ := bind_some H
    refine ls_callg (fid := 30) (vals := #[.int .i64 (4 : Int), .pointer (some ⟨g1, 0, none⟩)]) (X := (Option Addr × Nat)) (fun x => .int .u64 t19.1) (fun x => stl [Ck.var 26 g1 ([Value.slice x.1 t19.2.length x.2])]) (fun x B => (Ro B x.1 (em (Ec.int 5 .u8) t19.2) ∧ t19.2.length ≤ x.2)) [0] [Ck.var 26 g1 ([Value.slice x15.1 t13.2.length x15.2])] 2 rfl rfl (by kernel_rfl) (fun w => by kernel_rfl) ⟨by exact rfl, trivial⟩ (by decide) (fun x b b' h hf => ⟨h _ _ hf.1, hf.2⟩) (fun w hs hb => pointer_Read_1.calls k (4 : Int) g1 x15.1 x15.2 t13.2 t19 (lent b w [Ck.var 26 g1 ([Value.slice x15.1 t13.2.length x15.2])] []) hb (hs.ro fR16 _ _) fC17 hc20) ?_
    intro x21 hf24
    obtain ⟨fR22, fC23⟩ := hf24
    refine ls_val (v := .int .i64 (IntKind.wrap .i64 t19.1)) rfl rfl (by kernel_rfl) (fun w => by kernel_rfl) ?_
    refine ls_val (v := .pointer (some ⟨g2, (0 + 0), none⟩)) rfl rfl (by kernel_rfl) (fun w => by kernel_rfl) ?_
    refine ls_storec (g := g2) (off := (0 + 0)) (v := .int .i64 (IntKind.wrap .i64 t13.1)) (vs := [Value.int .i64 (IntKind.wrap .i64 t13.1)]) (cs := ([Value.int .i64 (0 : Int)] ++ ([Value.int .i64 (0 : Int)] ++ ([Value.int .i64 (0 : Int)] ++ ([Value.int .u32 (0 : Int)] ++ en (Value.int .u8) (vrep 32 (0 : Int)).1))))) (ty := 25) 1 rfl rfl rfl (by kernel_rfl) (by kernel_rfl) (by kernel_rfl) (by exact rfl) (by kernel_rfl) (len1 _) (one_cons rfl one_nil) (hl_of (Sub4.trans (Sub4.all _) (Sub4.head _ _)) (len_eq (len1 _) (len1 _))) (cs' := ([Value.int .i64 (IntKind.wrap .i64 t13.1)] ++ ([Value.int .i64 (0 : Int)] ++ ([Value.int .i64 (0 : Int)] ++ ([Value.int .u32 (0 : Int)] ++ en (Value.int .u8) (vrep 32 (0 : Int)).1))))) (splc_in (Sub4.all _) (splc_head (len_eq (len1 _) (len1 _))) (splc_all (len_eq (len_app (len1 _) (len_app (len1 _) (len_app (len1 _) (len_app (len1 _) (len_en _ (vrep 32 (0 : Int))))))) (len_app (len1 _) (len_app (len1 _) (len_app (len1 _) (len_app (len1 _) (len_en _ (vrep 32 (0 : Int))))))))) (hl_of (Sub4.head _ _) (len_eq (len1 _) (len1 _)))) ?_
    refine ls_val (v := .pointer (some ⟨g2, (0 + 2), none⟩)) rfl rfl (by kernel_rfl) (fun w => by kernel_rfl) ?_
    refine ls_storec (g := g2) (off := (0 + 2)) (v := .int .i64 (IntKind.wrap .i64 t19.1)) (vs := [Value.int .i64 (IntKind.wrap .i64 t19.1)]) (cs := ([Value.int .i64 (IntKind.wrap .i64 t13.1)] ++ ([Value.int .i64 (0 : Int)] ++ ([Value.int .i64 (0 : Int)] ++ ([Value.int .u32 (0 : Int)] ++ en (Value.int .u8) (vrep 32 (0 : Int)).1))))) (ty := 25) 1 rfl rfl rfl (by kernel_rfl) (by kernel_rfl) (by kernel_rfl) (by exact rfl) (by kernel_rfl) (len1 _) (one_cons rfl one_nil) (hl_of (Sub4.trans (Sub4.all _) (Sub4.skip (n := 1) (len1 _) (Sub4.skip (n := 1) (len1 _) (Sub4.head _ _)))) (len_eq (len1 _) (len1 _))) (cs' := ([Value.int .i64 (IntKind.wrap .i64 t13.1)] ++ ([Value.int .i64 (0 : Int)] ++ ([Value.int .i64 (IntKind.wrap .i64 t19.1)] ++ ([Value.int .u32 (0 : Int)] ++ en (Value.int .u8) (vrep 32 (0 : Int)).1))))) (splc_in (Sub4.all _) (splc_skip (n := 1) (len1 _) (splc_skip (n := 1) (len1 _) (splc_head (len_eq (len1 _) (len1 _))))) (splc_all (len_eq (len_app (len1 _) (len_app (len1 _) (len_app (len1 _) (len_app (len1 _) (len_en _ (vrep 32 (0 : Int))))))) (len_app (len1 _) (len_app (len1 _) (len_app (len1 _) (len_app (len1 _) (len_en _ (vrep 32 (0 : Int))))))))) (hl_of (Sub4.skip (n := 1) (len1 _) (Sub4.skip (n := 1) (len1 _) (Sub4.head _ _))) (len_eq (len1 _) (len1 _)))) ?_
    refine ls_end ?_
    refine qn_then ?_
    refine cs_seq ?_
    refine cs_region (l := [_, _, _, _, _]) ?_
    refine ls_val (v := .func (.func 30) #[] #[.pointer (some ⟨g1, 0, none⟩)]) rfl rfl (by kernel_rfl) (fun w => by kernel_rfl) ?_
    obtain ⟨t25, hc26, H⟩ := bind_some H
    refine ls_callg (fid := 30) (vals := #[.int .i64 (8 : Int), .pointer (some ⟨g1, 0, none⟩)]) (X := (Option Addr × Nat)) (fun x => .int .u64 t25.1) (fun x => stl [Ck.var 26 g1 ([Value.slice x.1 t25.2.length x.2])]) (fun x B => (Ro B x.1 (em (Ec.int 5 .u8) t25.2) ∧ t25.2.length ≤ x.2)) [0] [Ck.var 26 g1 ([Value.slice x21.1 t19.2.length x21.2])] 2 rfl rfl (by kernel_rfl) (fun w => by kernel_rfl) ⟨by exact rfl, trivial⟩ (by decide) (fun x b b' h hf => ⟨h _ _ hf.1, hf.2⟩) (fun w hs hb => pointer_Read_1.calls k (8 : Int) g1 x21.1 x21.2 t19.2 t25 (lent b w [Ck.var 26 g1 ([Value.slice x21.1 t19.2.length x21.2])] []) hb (hs.ro fR22 _ _) fC23 hc26) ?_
    intro x27 hf30
    obtain ⟨fR28, fC29⟩ := hf30
    refine ls_val (v := .int .i64 (IntKind.wrap .i64 t25.1)) rfl rfl (by kernel_rfl) (fun w => by kernel_rfl) ?_
    refine ls_val (v := .pointer (some ⟨g2, (0 + 1), none⟩)) rfl rfl (by kernel_rfl) (fun w => by kernel_rfl) ?_
    refine ls_storec (g := g2) (off := (0 + 1)) (v := .int .i64 (IntKind.wrap .i64 t25.1)) (vs := [Value.int .i64 (IntKind.wrap .i64 t25.1)]) (cs := ([Value.int .i64 (IntKind.wrap .i64 t13.1)] ++ ([Value.int .i64 (0 : Int)] ++ ([Value.int .i64 (IntKind.wrap .i64 t19.1)] ++ ([Value.int .u32 (0 : Int)] ++ en (Value.int .u8) (vrep 32 (0 : Int)).1))))) (ty := 25) 1 rfl rfl rfl (by kernel_rfl) (by kernel_rfl) (by kernel_rfl) (by exact rfl) (by kernel_rfl) (len1 _) (one_cons rfl one_nil) (hl_of (Sub4.trans (Sub4.all _) (Sub4.skip (n := 1) (len1 _) (Sub4.head _ _))) (len_eq (len1 _) (len1 _))) (cs' := ([Value.int .i64 (IntKind.wrap .i64 t13.1)] ++ ([Value.int .i64 (IntKind.wrap .i64 t25.1)] ++ ([Value.int .i64 (IntKind.wrap .i64 t19.1)] ++ ([Value.int .u32 (0 : Int)] ++ en (Value.int .u8) (vrep 32 (0 : Int)).1))))) (splc_in (Sub4.all _) (splc_skip (n := 1) (len1 _) (splc_head (len_eq (len1 _) (len1 _)))) (splc_all (len_eq (len_app (len1 _) (len_app (len1 _) (len_app (len1 _) (len_app (len1 _) (len_en _ (vrep 32 (0 : Int))))))) (len_app (len1 _) (len_app (len1 _) (len_app (len1 _) (len_app (len1 _) (len_en _ (vrep 32 (0 : Int))))))))) (hl_of (Sub4.skip (n := 1) (len1 _) (Sub4.head _ _)) (len_eq (len1 _) (len1 _)))) ?_
    refine ls_end ?_
    refine qn_then ?_
    refine cs_seq ?_
    refine cs_region (l := [_, _, _, _, _]) ?_
    refine ls_val (v := .func (.func 30) #[] #[.pointer (some ⟨g1, 0, none⟩)]) rfl rfl (by kernel_rfl) (fun w => by kernel_rfl) ?_
    obtain ⟨t31, hc32, H⟩ := bind_some H
    refine ls_callg (fid := 30) (vals := #[.int .i64 (4 : Int), .pointer (some ⟨g1, 0, none⟩)]) (X := (Option Addr × Nat)) (fun x => .int .u64 t31.1) (fun x => stl [Ck.var 26 g1 ([Value.slice x.1 t31.2.length x.2])]) (fun x B => (Ro B x.1 (em (Ec.int 5 .u8) t31.2) ∧ t31.2.length ≤ x.2)) [0] [Ck.var 26 g1 ([Value.slice x27.1 t25.2.length x27.2])] 2 rfl rfl (by kernel_rfl) (fun w => by kernel_rfl) ⟨by exact rfl, trivial⟩ (by decide) (fun x b b' h hf => ⟨h _ _ hf.1, hf.2⟩) (fun w hs hb => pointer_Read_1.calls k (4 : Int) g1 x27.1 x27.2 t25.2 t31 (lent b w [Ck.var 26 g1 ([Value.slice x27.1 t25.2.length x27.2])] []) hb (hs.ro fR28 _ _) fC29 hc32) ?_
    intro x33 hf36
    obtain ⟨fR34, fC35⟩ := hf36
    refine ls_val (v := .int .u32 (IntKind.wrap .u32 t31.1)) rfl rfl (by kernel_rfl) (fun w => by kernel_rfl) ?_
    refine ls_val (v := .pointer (some ⟨g2, (0 + 3), none⟩)) rfl rfl (by kernel_rfl) (fun w => by kernel_rfl) ?_
    refine ls_storec (g := g2) (off := (0 + 3)) (v := .int .u32 (IntKind.wrap .u32 t31.1)) (vs := [Value.int .u32 (IntKind.wrap .u32 t31.1)]) (cs := ([Value.int .i64 (IntKind.wrap .i64 t13.1)] ++ ([Value.int .i64 (IntKind.wrap .i64 t25.1)] ++ ([Value.int .i64 (IntKind.wrap .i64 t19.1)] ++ ([Value.int .u32 (0 : Int)] ++ en (Value.int .u8) (vrep 32 (0 : Int)).1))))) (ty := 25) 1 rfl rfl rfl (by kernel_rfl) (by kernel_rfl) (by kernel_rfl) (by exact rfl) (by kernel_rfl) (len1 _) (one_cons rfl one_nil) (hl_of (Sub4.trans (Sub4.all _) (Sub4.skip (n := 1) (len1 _) (Sub4.skip (n := 1) (len1 _) (Sub4.skip (n := 1) (len1 _) (Sub4.head _ _))))) (len_eq (len1 _) (len1 _))) (cs' := ([Value.int .i64 (IntKind.wrap .i64 t13.1)] ++ ([Value.int .i64 (IntKind.wrap .i64 t25.1)] ++ ([Value.int .i64 (IntKind.wrap .i64 t19.1)] ++ ([Value.int .u32 (IntKind.wrap .u32 t31.1)] ++ en (Value.int .u8) (vrep 32 (0 : Int)).1))))) (splc_in (Sub4.all _) (splc_skip (n := 1) (len1 _) (splc_skip (n := 1) (len1 _) (splc_skip (n := 1) (len1 _) (splc_head (len_eq (len1 _) (len1 _)))))) (splc_all (len_eq (len_app (len1 _) (len_app (len1 _) (len_app (len1 _) (len_app (len1 _) (len_en _ (vrep 32 (0 : Int))))))) (len_app (len1 _) (len_app (len1 _) (len_app (len1 _) (len_app (len1 _) (len_en _ (vrep 32 (0 : Int))))))))) (hl_of (Sub4.skip (n := 1) (len1 _) (Sub4.skip (n := 1) (len1 _) (Sub4.skip (n := 1) (len1 _) (Sub4.head _ _)))) (len_eq (len1 _) (len1 _)))) ?_
    refine ls_end ?_
    refine qn_then ?_
    refine cs_seq ?_
    refine cs_region (l := [_, _, _, _, _]) ?_
    refine ls_load (a0 := ⟨g1, 0, none⟩) (v := .slice x33.1 t31.2.length x33.2) (de := (TypeDesc.slice 5)) rfl rfl (by kernel_rfl) rfl (by kernel_rfl) (by kernel_rfl) (by kernel_rfl) (fun w hs => (hs.var (k := 0) (by exact rfl) (Sub4.all _))) ?_
    obtain ⟨q37, H⟩ := ite_need H
    obtain ⟨ad38, hA39⟩ := ido_at (T := (Ec.int 5 .u8)) (l := t31.2) (i := (0 : Int)) fR34 (by decide) (by have := q37; omega)
    refine ls_toarr (e := 5) (A := x33.1) (m := t31.2.length) (c := x33.2) rfl rfl (by kernel_rfl) rfl (by kernel_rfl) (by kernel_rfl) q37 hA39 ?_
    refine ls_loadagg (a := (ad38.add 0)) (sub := en (Value.int .u8) (vpad 32 0 t31.2).1) rfl rfl (by kernel_rfl) rfl (by kernel_rfl) (by kernel_rfl) (by kernel_rfl) (len_en _ (vpad 32 0 t31.2)) (fun w hs => ((hs.old fR34).vpad q37 0).part hA39 (Sub4.all _)) ?_
    refine ls_val (v := .pointer (some ⟨g2, (0 + 4), none⟩)) rfl rfl (by kernel_rfl) (fun w => by kernel_rfl) ?_
    refine ls_storec (g := g2) (off := (0 + 4)) (v := .agg ⟨en (Value.int .u8) (vpad 32 0 t31.2).1⟩) (vs := en (Value.int .u8) (vpad 32 0 t31.2).1) (cs := ([Value.int .i64 (IntKind.wrap .i64 t13.1)] ++ ([Value.int .i64 (IntKind.wrap .i64 t25.1)] ++ ([Value.int .i64 (IntKind.wrap .i64 t19.1)] ++ ([Value.int .u32 (IntKind.wrap .u32 t31.1)] ++ en (Value.int .u8) (vrep 32 (0 : Int)).1))))) (ty := 25) 1 rfl rfl rfl (by kernel_rfl) (by kernel_rfl) (by kernel_rfl) (by exact rfl) (by kernel_rfl) (len_en _ (vpad 32 0 t31.2)) (one_en (fun _ => rfl) _) (hl_of (Sub4.trans (Sub4.all _) (Sub4.skip (n := 1) (len1 _) (Sub4.skip (n := 1) (len1 _) (Sub4.skip (n := 1) (len1 _) (Sub4.skip (n := 1) (len1 _) (Sub4.all _)))))) (len_eq (len_en _ (vpad 32 0 t31.2)) (len_en _ (vrep 32 (0 : Int))))) (cs' := ([Value.int .i64 (IntKind.wrap .i64 t13.1)] ++ ([Value.int .i64 (IntKind.wrap .i64 t25.1)] ++ ([Value.int .i64 (IntKind.wrap .i64 t19.1)] ++ ([Value.int .u32 (IntKind.wrap .u32 t31.1)] ++ en (Value.int .u8) (vpad 32 0 t31.2).1))))) (splc_in (Sub4.all _) (splc_skip (n := 1) (len1 _) (splc_skip (n := 1) (len1 _) (splc_skip (n := 1) (len1 _) (splc_skip (n := 1) (len1 _) (splc_all (len_eq (len_en _ (vpad 32 0 t31.2)) (len_en _ (vrep 32 (0 : Int))))))))) (splc_all (len_eq (len_app (len1 _) (len_app (len1 _) (len_app (len1 _) (len_app (len1 _) (len_en _ (vpad 32 0 t31.2)))))) (len_app (len1 _) (len_app (len1 _) (len_app (len1 _) (len_app (len1 _) (len_en _ (vrep 32 (0 : Int))))))))) (hl_of (Sub4.skip (n := 1) (len1 _) (Sub4.skip (n := 1) (len1 _) (Sub4.skip (n := 1) (len1 _) (Sub4.skip (n := 1) (len1 _) (Sub4.all _))))) (len_eq (len_en _ (vpad 32 0 t31.2)) (len_en _ (vrep 32 (0 : Int)))))) ?_
    refine ls_end ?_
    refine qn_then ?_
    refine cs_seq ?_
    refine cs_seq ?_
    refine cs_region (l := [_, _, _, _, _, _, _, _]) ?_
    refine ls_loadagg (a := ⟨g2, 0, none⟩) (sub := ([Value.int .i64 (IntKind.wrap .i64 t13.1)] ++ ([Value.int .i64 (IntKind.wrap .i64 t25.1)] ++ ([Value.int .i64 (IntKind.wrap .i64 t19.1)] ++ ([Value.int .u32 (IntKind.wrap .u32 t31.1)] ++ en (Value.int .u8) (vpad 32 0 t31.2).1))))) rfl rfl (by kernel_rfl) rfl (by kernel_rfl) (by kernel_rfl) (by kernel_rfl) (len_app (len1 _) (len_app (len1 _) (len_app (len1 _) (len_app (len1 _) (len_en _ (vpad 32 0 t31.2)))))) (fun w hs => (hs.vars (k := 1) (by exact rfl) (Sub4.all _))) ?_
    obtain ⟨t40, hc41, H⟩ := bind_some H
    refine ls_callb (fid := 12) (vals := #[.agg ⟨([Value.int .i64 (IntKind.wrap .i64 t13.1)] ++ ([Value.int .i64 (IntKind.wrap .i64 t25.1)] ++ ([Value.int .i64 (IntKind.wrap .i64 t19.1)] ++ ([Value.int .u32 (IntKind.wrap .u32 t31.1)] ++ en (Value.int .u8) (vpad 32 0 t31.2).1))))⟩]) (X := Unit) (fun x => .bool t40) (fun x => stl []) [] [] [] [] 2 rfl rfl (by kernel_rfl) (fun w => by kernel_rfl) trivial trivial (by decide) (fun w hs hb => pointer_None.calls k (IntKind.wrap .i64 t13.1, IntKind.wrap .i64 t25.1, IntKind.wrap .i64 t19.1, IntKind.wrap .u32 t31.1, (vpad 32 0 t31.2)) t40 (lent b w [] []) hb  hc41) ?_
    intro x42
    refine ls_val (v := .bool (!t40)) rfl rfl (by kernel_rfl) (fun w => by kernel_rfl) ?_
    refine ls_val (v := .bool (!t40)) rfl rfl (by kernel_rfl) (fun w => by kernel_rfl) ?_
    by_cases q43 : t40 = true
    · replace H := ite_t q43 H
      refine ls_know (c := false) (congrArg Bool.not (q43)) 35 (by kernel_rfl) ?_
      refine ls_off (j := 3) (t := 35) (b := true) (c := false) rfl rfl (by kernel_rfl) (by kernel_rfl) rfl rfl (by kernel_rfl) ?_
      refine ls_off (j := 3) (t := 35) (b := true) (c := false) rfl rfl (by kernel_rfl) (by kernel_rfl) rfl rfl (by kernel_rfl) ?_
      refine ls_off (j := 3) (t := 35) (b := true) (c := false) rfl rfl (by kernel_rfl) (by kernel_rfl) rfl rfl (by kernel_rfl) ?_
      refine ls_val (v := .bool false) rfl rfl (by kernel_rfl) (fun w => by kernel_rfl) ?_
      refine ls_end ?_
      refine qn_then ?_
      refine cs_false (by kernel_rfl) ?_
      refine cs_skip' ?_
      refine qn_then ?_
      refine cs_seq ?_
      refine cs_region (l := [_, _, _]) ?_
      refine ls_loadagg (a := ⟨g2, 0, none⟩) (sub := ([Value.int .i64 (IntKind.wrap .i64 t13.1)] ++ ([Value.int .i64 (IntKind.wrap .i64 t25.1)] ++ ([Value.int .i64 (IntKind.wrap .i64 t19.1)] ++ ([Value.int .u32 (IntKind.wrap .u32 t31.1)] ++ en (Value.int .u8) (vpad 32 0 t31.2).1))))) rfl rfl (by kernel_rfl) rfl (by kernel_rfl) (by kernel_rfl) (by kernel_rfl) (len_app (len1 _) (len_app (len1 _) (len_app (len1 _) (len_app (len1 _) (len_en _ (vpad 32 0 t31.2)))))) (fun w hs => (hs.vars (k := 1) (by exact rfl) (Sub4.all _))) ?_
      refine ls_storec (g := g2) (off := 0) (v := .agg ⟨([Value.int .i64 (IntKind.wrap .i64 t13.1)] ++ ([Value.int .i64 (IntKind.wrap .i64 t25.1)] ++ ([Value.int .i64 (IntKind.wrap .i64 t19.1)] ++ ([Value.int .u32 (IntKind.wrap .u32 t31.1)] ++ en (Value.int .u8) (vpad 32 0 t31.2).1))))⟩) (vs := ([Value.int .i64 (IntKind.wrap .i64 t13.1)] ++ ([Value.int .i64 (IntKind.wrap .i64 t25.1)] ++ ([Value.int .i64 (IntKind.wrap .i64 t19.1)] ++ ([Value.int .u32 (IntKind.wrap .u32 t31.1)] ++ en (Value.int .u8) (vpad 32 0 t31.2).1))))) (cs := ([Value.int .i64 (IntKind.wrap .i64 t13.1)] ++ ([Value.int .i64 (IntKind.wrap .i64 t25.1)] ++ ([Value.int .i64 (IntKind.wrap .i64 t19.1)] ++ ([Value.int .u32 (IntKind.wrap .u32 t31.1)] ++ en (Value.int .u8) (vpad 32 0 t31.2).1))))) (ty := 25) 1 rfl rfl rfl (by kernel_rfl) (by kernel_rfl) (by kernel_rfl) (by exact rfl) (by kernel_rfl) (len_app (len1 _) (len_app (len1 _) (len_app (len1 _) (len_app (len1 _) (len_en _ (vpad 32 0 t31.2)))))) (one_app (one_cons rfl one_nil) (one_app (one_cons rfl one_nil) (one_app (one_cons rfl one_nil) (one_app (one_cons rfl one_nil) (one_en (fun _ => rfl) _))))) (hl_of (Sub4.all _) (len_eq (len_app (len1 _) (len_app (len1 _) (len_app (len1 _) (len_app (len1 _) (len_en _ (vpad 32 0 t31.2)))))) (len_app (len1 _) (len_app (len1 _) (len_app (len1 _) (len_app (len1 _) (len_en _ (vpad 32 0 t31.2)))))))) (cs' := ([Value.int .i64 (IntKind.wrap .i64 t13.1)] ++ ([Value.int .i64 (IntKind.wrap .i64 t25.1)] ++ ([Value.int .i64 (IntKind.wrap .i64 t19.1)] ++ ([Value.int .u32 (IntKind.wrap .u32 t31.1)] ++ en (Value.int .u8) (vpad 32 0 t31.2).1))))) (splc_all (len_eq (len_app (len1 _) (len_app (len1 _) (len_app (len1 _) (len_app (len1 _) (len_en _ (vpad 32 0 t31.2)))))) (len_app (len1 _) (len_app (len1 _) (len_app (len1 _) (len_app (len1 _) (len_en _ (vpad 32 0 t31.2)))))))) ?_
      refine ls_val (v := .int .i64 (0 : Int)) rfl rfl (by kernel_rfl) (fun w => by kernel_rfl) ?_
      refine ls_end ?_
      refine qn_then ?_
      refine cs_ret' ?_
      obtain rfl := Option.some.inj H
      refine qr_res (rs := [_, _]) rfl (fun w' hs => ⟨[.agg ⟨([Value.int .i64 (IntKind.wrap .i64 t13.1)] ++ ([Value.int .i64 (IntKind.wrap .i64 t25.1)] ++ ([Value.int .i64 (IntKind.wrap .i64 t19.1)] ++ ([Value.int .u32 (IntKind.wrap .u32 t31.1)] ++ en (Value.int .u8) (vpad 32 0 t31.2).1))))⟩, .int .i64 (0 : Int)], (.cell (by kernel_rfl) (run_cellres (by kernel_rfl) (by kernel_rfl) (len_app (len1 _) (len_app (len1 _) (len_app (len1 _) (len_app (len1 _) (len_en _ (vpad 32 0 t31.2)))))) (hs.holds 1 _ (by exact rfl))) (res_tmp (by kernel_rfl) (.nil))), (), rfl, hs.pick (ts := []) (cs := []) trivial (by decide)⟩)
    · replace H := ite_f q43 H
      refine ls_know (c := true) (congrArg Bool.not (Bool.eq_false_iff.mpr q43)) 35 (by kernel_rfl) ?_
      refine ls_on (j := 3) (t := 35) (b := true) rfl rfl (by kernel_rfl) (by kernel_rfl) ?_
      refine ls_loadagg (a := ⟨g2, 0, none⟩) (sub := ([Value.int .i64 (IntKind.wrap .i64 t13.1)] ++ ([Value.int .i64 (IntKind.wrap .i64 t25.1)] ++ ([Value.int .i64 (IntKind.wrap .i64 t19.1)] ++ ([Value.int .u32 (IntKind.wrap .u32 t31.1)] ++ en (Value.int .u8) (vpad 32 0 t31.2).1))))) rfl rfl (by kernel_rfl) rfl (by kernel_rfl) (by kernel_rfl) (by kernel_rfl) (len_app (len1 _) (len_app (len1 _) (len_app (len1 _) (len_app (len1 _) (len_en _ (vpad 32 0 t31.2)))))) (fun w hs => (hs.vars (k := 1) (by exact rfl) (Sub4.all _))) ?_
      refine ls_on (j := 3) (t := 35) (b := true) rfl rfl (by kernel_rfl) (by kernel_rfl) ?_
      obtain ⟨t44, hc45, H⟩ := bind_some H
      refine ls_callb (fid := 14) (vals := #[.agg ⟨([Value.int .i64 (IntKind.wrap .i64 t13.1)] ++ ([Value.int .i64 (IntKind.wrap .i64 t25.1)] ++ ([Value.int .i64 (IntKind.wrap .i64 t19.1)] ++ ([Value.int .u32 (IntKind.wrap .u32 t31.1)] ++ en (Value.int .u8) (vpad 32 0 t31.2).1))))⟩]) (X := Unit) (fun x => .bool t44) (fun x => stl []) [] [] [] [] 2 rfl rfl (by kernel_rfl) (fun w => by kernel_rfl) trivial trivial (by decide) (fun w hs hb => pointer_Right.calls k (IntKind.wrap .i64 t13.1, IntKind.wrap .i64 t25.1, IntKind.wrap .i64 t19.1, IntKind.wrap .u32 t31.1, (vpad 32 0 t31.2)) t44 (lent b w [] []) hb  hc45) ?_
      intro x46
      refine ls_on (j := 3) (t := 35) (b := true) rfl rfl (by kernel_rfl) (by kernel_rfl) ?_
      refine ls_val (v := .bool (!t44)) rfl rfl (by kernel_rfl) (fun w => by kernel_rfl) ?_
      refine ls_val (v := .bool (!t44)) rfl rfl (by kernel_rfl) (fun w => by kernel_rfl) ?_
      refine ls_end ?_
      refine qn_then ?_
      by_cases q47 : t44 = true
      · replace H := ite_t q47 H
        refine cs_know (c := false) (congrArg Bool.not (q47)) 39 (by kernel_rfl) ?_
        refine cs_false (by kernel_rfl) ?_
        refine cs_skip' ?_
        refine qn_then ?_
        refine cs_seq ?_
        refine cs_region (l := [_, _, _]) ?_
        refine ls_loadagg (a := ⟨g2, 0, none⟩) (sub := ([Value.int .i64 (IntKind.wrap .i64 t13.1)] ++ ([Value.int .i64 (IntKind.wrap .i64 t25.1)] ++ ([Value.int .i64 (IntKind.wrap .i64 t19.1)] ++ ([Value.int .u32 (IntKind.wrap .u32 t31.1)] ++ en (Value.int .u8) (vpad 32 0 t31.2).1))))) rfl rfl (by kernel_rfl) rfl (by kernel_rfl) (by kernel_rfl) (by kernel_rfl) (len_app (len1 _) (len_app (len1 _) (len_app (len1 _) (len_app (len1 _) (len_en _ (vpad 32 0 t31.2)))))) (fun w hs => (hs.vars (k := 1) (by exact rfl) (Sub4.all _))) ?_
        refine ls_storec (g := g2) (off := 0) (v := .agg ⟨([Value.int .i64 (IntKind.wrap .i64 t13.1)] ++ ([Value.int .i64 (IntKind.wrap .i64 t25.1)] ++ ([Value.int .i64 (IntKind.wrap .i64 t19.1)] ++ ([Value.int .u32 (IntKind.wrap .u32 t31.1)] ++ en (Value.int .u8) (vpad 32 0 t31.2).1))))⟩) (vs := ([Value.int .i64 (IntKind.wrap .i64 t13.1)] ++ ([Value.int .i64 (IntKind.wrap .i64 t25.1)] ++ ([Value.int .i64 (IntKind.wrap .i64 t19.1)] ++ ([Value.int .u32 (IntKind.wrap .u32 t31.1)] ++ en (Value.int .u8) (vpad 32 0 t31.2).1))))) (cs := ([Value.int .i64 (IntKind.wrap .i64 t13.1)] ++ ([Value.int .i64 (IntKind.wrap .i64 t25.1)] ++ ([Value.int .i64 (IntKind.wrap .i64 t19.1)] ++ ([Value.int .u32 (IntKind.wrap .u32 t31.1)] ++ en (Value.int .u8) (vpad 32 0 t31.2).1))))) (ty := 25) 1 rfl rfl rfl (by kernel_rfl) (by kernel_rfl) (by kernel_rfl) (by exact rfl) (by kernel_rfl) (len_app (len1 _) (len_app (len1 _) (len_app (len1 _) (len_app (len1 _) (len_en _ (vpad 32 0 t31.2)))))) (one_app (one_cons rfl one_nil) (one_app (one_cons rfl one_nil) (one_app (one_cons rfl one_nil) (one_app (one_cons rfl one_nil) (one_en (fun _ => rfl) _))))) (hl_of (Sub4.all _) (len_eq (len_app (len1 _) (len_app (len1 _) (len_app (len1 _) (len_app (len1 _) (len_en _ (vpad 32 0 t31.2)))))) (len_app (len1 _) (len_app (len1 _) (len_app (len1 _) (len_app (len1 _) (len_en _ (vpad 32 0 t31.2)))))))) (cs' := ([Value.int .i64 (IntKind.wrap .i64 t13.1)] ++ ([Value.int .i64 (IntKind.wrap .i64 t25.1)] ++ ([Value.int .i64 (IntKind.wrap .i64 t19.1)] ++ ([Value.int .u32 (IntKind.wrap .u32 t31.1)] ++ en (Value.int .u8) (vpad 32 0 t31.2).1))))) (splc_all (len_eq (len_app (len1 _) (len_app (len1 _) (len_app (len1 _) (len_app (len1 _) (len_en _ (vpad 32 0 t31.2)))))) (len_app (len1 _) (len_app (len1 _) (len_app (len1 _) (len_app (len1 _) (len_en _ (vpad 32 0 t31.2)))))))) ?_
        refine ls_val (v := .int .i64 (0 : Int)) rfl rfl (by kernel_rfl) (fun w => by kernel_rfl) ?_
        refine ls_end ?_
        refine qn_then ?_
        refine cs_ret' ?_
        obtain rfl := Option.some.inj H
        refine qr_res (rs := [_, _]) rfl (fun w' hs => ⟨[.agg ⟨([Value.int .i64 (IntKind.wrap .i64 t13.1)] ++ ([Value.int .i64 (IntKind.wrap .i64 t25.1)] ++ ([Value.int .i64 (IntKind.wrap .i64 t19.1)] ++ ([Value.int .u32 (IntKind.wrap .u32 t31.1)] ++ en (Value.int .u8) (vpad 32 0 t31.2).1))))⟩, .int .i64 (0 : Int)], (.cell (by kernel_rfl) (run_cellres (by kernel_rfl) (by kernel_rfl) (len_app (len1 _) (len_app (len1 _) (len_app (len1 _) (len_app (len1 _) (len_en _ (vpad 32 0 t31.2)))))) (hs.holds 1 _ (by exact rfl))) (res_tmp (by kernel_rfl) (.nil))), (), rfl, hs.pick (ts := []) (cs := []) trivial (by decide)⟩)
      · replace H := ite_f q47 H
        refine cs_know (c := true) (congrArg Bool.not (Bool.eq_false_iff.mpr q47)) 39 (by kernel_rfl) ?_
        refine cs_true (by kernel_rfl) ?_
        refine cs_seq ?_
        refine cs_region (l := [_, _, _]) ?_
        refine ls_build (ps := []) (pl := #[(0, 1), (1, 1), (2, 1), (3, 1), (4, 32)]) (zv := .agg ⟨([Value.int .i64 (0 : Int)] ++ ([Value.int .i64 (0 : Int)] ++ ([Value.int .i64 (0 : Int)] ++ ([Value.int .u32 (0 : Int)] ++ en (Value.int .u8) (vrep 32 (0 : Int)).1))))⟩) (zc := ([Value.int .i64 (0 : Int)] ++ ([Value.int .i64 (0 : Int)] ++ ([Value.int .i64 (0 : Int)] ++ ([Value.int .u32 (0 : Int)] ++ en (Value.int .u8) (vrep 32 (0 : Int)).1))))) (r := ([Value.int .i64 (0 : Int)] ++ ([Value.int .i64 (0 : Int)] ++ ([Value.int .i64 (0 : Int)] ++ ([Value.int .u32 (0 : Int)] ++ en (Value.int .u8) (vrep 32 (0 : Int)).1))))) rfl rfl (by kernel_rfl) rfl (by kernel_rfl) (by kernel_rfl) (fun w => by kernel_rfl) (fun w => by kernel_rfl) rfl fill_nil ?_
        refine ls_storec (g := g2) (off := 0) (v := .agg ⟨([Value.int .i64 (0 : Int)] ++ ([Value.int .i64 (0 : Int)] ++ ([Value.int .i64 (0 : Int)] ++ ([Value.int .u32 (0 : Int)] ++ en (Value.int .u8) (vrep 32 (0 : Int)).1))))⟩) (vs := ([Value.int .i64 (0 : Int)] ++ ([Value.int .i64 (0 : Int)] ++ ([Value.int .i64 (0 : Int)] ++ ([Value.int .u32 (0 : Int)] ++ en (Value.int .u8) (vrep 32 (0 : Int)).1))))) (cs := ([Value.int .i64 (IntKind.wrap .i64 t13.1)] ++ ([Value.int .i64 (IntKind.wrap .i64 t25.1)] ++ ([Value.int .i64 (IntKind.wrap .i64 t19.1)] ++ ([Value.int .u32 (IntKind.wrap .u32 t31.1)] ++ en (Value.int .u8) (vpad 32 0 t31.2).1))))) (ty := 25) 1 rfl rfl rfl (by kernel_rfl) (by kernel_rfl) (by kernel_rfl) (by exact rfl) (by kernel_rfl) (len_app (len1 _) (len_app (len1 _) (len_app (len1 _) (len_app (len1 _) (len_en _ (vrep 32 (0 : Int))))))) (one_app (one_cons rfl one_nil) (one_app (one_cons rfl one_nil) (one_app (one_cons rfl one_nil) (one_app (one_cons rfl one_nil) (one_en (fun _ => rfl) _))))) (hl_of (Sub4.all _) (len_eq (len_app (len1 _) (len_app (len1 _) (len_app (len1 _) (len_app (len1 _) (len_en _ (vrep 32 (0 : Int))))))) (len_app (len1 _) (len_app (len1 _) (len_app (len1 _) (len_app (len1 _) (len_en _ (vpad 32 0 t31.2)))))))) (cs' := ([Value.int .i64 (0 : Int)] ++ ([Value.int .i64 (0 : Int)] ++ ([Value.int .i64 (0 : Int)] ++ ([Value.int .u32 (0 : Int)] ++ en (Value.int .u8) (vrep 32 (0 : Int)).1))))) (splc_all (len_eq (len_app (len1 _) (len_app (len1 _) (len_app (len1 _) (len_app (len1 _) (len_en _ (vrep 32 (0 : Int))))))) (len_app (len1 _) (len_app (len1 _) (len_app (len1 _) (len_app (len1 _) (len_en _ (vpad 32 0 t31.2)))))))) ?_
        refine ls_val (v := .int .i64 (11 : Int)) rfl rfl (by kernel_rfl) (fun w => by kernel_rfl) ?_
        refine ls_end ?_
        refine qn_then ?_
        refine cs_ret' ?_
        refine qr_then ?_
        obtain rfl := Option.some.inj H
        refine qr_res (rs := [_, _]) rfl (fun w' hs => ⟨[.agg ⟨([Value.int .i64 (0 : Int)] ++ ([Value.int .i64 (0 : Int)] ++ ([Value.int .i64 (0 : Int)] ++ ([Value.int .u32 (0 : Int)] ++ en (Value.int .u8) (vrep 32 (0 : Int)).1))))⟩, .int .i64 (11 : Int)], (.cell (by kernel_rfl) (run_cellres (by kernel_rfl) (by kernel_rfl) (len_app (len1 _) (len_app (len1 _) (len_app (len1 _) (len_app (len1 _) (len_en _ (vrep 32 (0 : Int))))))) (hs.holds 1 _ (by exact rfl))) (res_tmp (by kernel_rfl) (.nil))), (), rfl, hs.pick (ts := []) (cs := []) trivial (by decide)⟩)

/-! ### shadowbox/label.Open$1: function 43 -/
def label_Open_1.f (k : Nat) (v0 : (List Int)) : Option (Int × (List Int)) :=
  (codec_Take.f k v0 (8 : Int)).bind fun t1 => some (IntKind.wrap .i64 t1.1, t1.2.1)
set_option maxRecDepth 100000 in
set_option maxHeartbeats 4000000 in
theorem label_Open_1.calls (k : Nat) (pg0 : Nat) (A0 : Option Addr) (c0 : Nat) (v0 : (List Int)) (r : Int × (List Int)) (b : Bs) (hs0 : St b (stl [Ck.var 26 pg0 ([Value.slice A0 v0.length c0])]) b.w) (R0 : Ro b A0 (em (Ec.int 5 .u8) v0)) (C0 : v0.length ≤ c0) (H : label_Open_1.f k v0 = some r) :
    Calls Try.prog 43 #[.pointer (some ⟨pg0, 0, none⟩)] b.w fun e w' => ∃ b', b.le b' ∧ ∃ x : (Option Addr × Nat), e = .returned (.int .i64 r.1) ∧ ((Ro b' x.1 (em (Ec.int 5 .u8) r.2) ∧ r.2.length ≤ x.2)) ∧ St b' (stl [Ck.var 26 pg0 ([Value.slice x.1 r.2.length x.2])]) w' := by
  unfold label_Open_1.f at H
  refine enterb (n := 14) Try.func43 rfl (by kernel_rfl) (by kernel_rfl) hs0 ?_
  refine cs_sub (sput s0 0 (some (Ck.var 26 pg0 ([Value.slice A0 v0.length c0])))) (sub_put (by exact rfl) (sub_nil _)) ?_
  refine cs_seq ?_
  refine cs_region (l := [_]) ?_
  refine ls_val (v := .int .i64 (0 : Int)) rfl rfl (by kernel_rfl) (fun w => by kernel_rfl) ?_
  refine ls_end ?_
  refine qn_then ?_
  refine cs_seq ?_
  refine cs_region (l := [_, _, _, _, _, _, _, _, _]) ?_
  refine ls_load (a0 := ⟨pg0, 0, none⟩) (v := .slice A0 v0.length c0) (de := (TypeDesc.slice 5)) rfl rfl (by kernel_rfl) rfl (by kernel_rfl) (by kernel_rfl) (by kernel_rfl) (fun w hs => (hs.var (k := 0) (by exact rfl) (Sub4.all _))) ?_
  obtain ⟨t1, hc2, H⟩ := bind_some H
  refine ls_callb (fid := 31) (vals := #[.slice A0 v0.length c0, .int .i64 (8 : Int)]) (X := (Option Addr × Nat)) (fun x => .tuple #[.int .u64 t1.1, .slice x.1 t1.2.1.length x.2, .bool t1.2.2]) (fun x => stl [Ck.sl (Ec.int 5 .u8) x.1 x.2 t1.2.1]) [] [] [] [] 1 rfl rfl (by kernel_rfl) (fun w => by kernel_rfl) trivial trivial (by decide) (fun w hs hb => codec_Take.calls k A0 c0 v0 (8 : Int) t1 (lent b w [] []) hb (hs.ro R0 _ _) C0 hc2) ?_
  intro x3
  refine ls_val (v := .tuple #[.int .u64 t1.1, .slice x3.1 t1.2.1.length x3.2, .bool t1.2.2]) rfl rfl (by kernel_rfl) (fun w => by kernel_rfl) ?_
  refine ls_val (v := .int .u64 t1.1) rfl rfl (by kernel_rfl) (fun w => by kernel_rfl) ?_
  refine ls_val (v := .slice x3.1 t1.2.1.length x3.2) rfl rfl (by kernel_rfl) (fun w => by kernel_rfl) ?_
  refine ls_val (v := .bool t1.2.2) rfl rfl (by kernel_rfl) (fun w => by kernel_rfl) ?_
  refine ls_val (v := .int .u64 t1.1) rfl rfl (by kernel_rfl) (fun w => by kernel_rfl) ?_
  refine ls_val (v := .slice x3.1 t1.2.1.length x3.2) rfl rfl (by kernel_rfl) (fun w => by kernel_rfl) ?_
  refine ls_val (v := .bool t1.2.2) rfl rfl (by kernel_rfl) (fun w => by kernel_rfl) ?_
  refine ls_end ?_
  refine qn_then ?_
  refine cs_seq ?_
  refine cs_region (l := [_, _]) ?_
  refine ls_val (v := .slice x3.1 t1.2.1.length x3.2) rfl rfl (by kernel_rfl) (fun w => by kernel_rfl) ?_
  refine ls_storec (g := pg0) (off := 0) (v := .slice x3.1 t1.2.1.length x3.2) (vs := [Value.slice x3.1 t1.2.1.length x3.2]) (cs := [Value.slice A0 v0.length c0]) (ty := 26) 0 rfl rfl rfl (by kernel_rfl) (by kernel_rfl) (by kernel_rfl) (by exact rfl) (by kernel_rfl) (len1 _) (one_cons rfl one_nil) (hl_of (Sub4.all _) (len_eq (len1 _) (len1 _))) (cs' := [Value.slice x3.1 t1.2.1.length x3.2]) (splc_all (len_eq (len1 _) (len1 _))) ?_
  refine ls_end ?_
  refine qn_then ?_
  refine cs_seq ?_
  refine cs_region (l := [_, _, _]) ?_
  refine ls_val (v := .int .u64 t1.1) rfl rfl (by kernel_rfl) (fun w => by kernel_rfl) ?_
  refine ls_val (v := .int .i64 (IntKind.wrap .i64 t1.1)) rfl rfl (by kernel_rfl) (fun w => by kernel_rfl) ?_
  refine ls_val (v := .int .i64 (IntKind.wrap .i64 t1.1)) rfl rfl (by kernel_rfl) (fun w => by kernel_rfl) ?_
  refine ls_end ?_
  refine qn_then ?_
  refine cs_ret' ?_
  refine qr_freeze (T := (Ec.int 5 .u8)) (A := x3.1) (c := x3.2) (l := t1.2.1) 1 (by exact rfl) ?_
  intro bs4 hle5 hok6 fR7 fC8
  obtain rfl := Option.some.inj H
  refine qr_res (rs := [_]) rfl (fun w' hs => ⟨[.int .i64 (IntKind.wrap .i64 t1.1)], (res_tmp (by kernel_rfl) (.nil)), bs4, hle5, (x3.1, x3.2), rfl, ⟨fR7, fC8⟩, hs.pick (ts := [0]) (cs := [Ck.var 26 pg0 ([Value.slice x3.1 t1.2.1.length x3.2])]) ⟨by exact rfl, trivial⟩ (by decide)⟩)

end Go.Proofs.Ytnjijflgafghmaa.G
