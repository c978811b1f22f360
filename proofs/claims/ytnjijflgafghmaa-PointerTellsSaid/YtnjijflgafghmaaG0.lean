/- Printed by a program of this session (sz.py): plain functions, and walks that show that the code comes to them; no condition. -/
import Derived.Test.YtnjijflgafghmaaProg
import Derived.Test.YtnjijflgafghmaaTy
set_option linter.unusedVariables false
set_option linter.unusedSimpArgs false
namespace Go.Proofs.Ytnjijflgafghmaa.G
open Go Go.RowKit Go.Proofs.Ytnjijflgafghmaa.Sx

/-! ### shadowbox/pointer.None: function 12 -/
def pointer_None.f (k : Nat) (a0 : (Int × Int × Int × Int × (Vc Int 32))) : Option (Bool) :=
  some ((a0.1 == (0 : Int)) && ((a0.2.1 == (0 : Int)) && ((a0.2.2.1 == (0 : Int)) && ((a0.2.2.2.1 == (0 : Int)) && (a0.2.2.2.2.1 == (vrep 32 (0 : Int)).1)))))
set_option maxRecDepth 100000 in
set_option maxHeartbeats 4000000 in
theorem pointer_None.calls (k : Nat) (a0 : (Int × Int × Int × Int × (Vc Int 32))) (r : Bool) (b : Bs) (hs0 : St b (stl []) b.w) (H : pointer_None.f k a0 = some r) :
    Calls Try.prog 12 #[.agg ⟨([Value.int .i64 a0.1] ++ ([Value.int .i64 a0.2.1] ++ ([Value.int .i64 a0.2.2.1] ++ ([Value.int .u32 a0.2.2.2.1] ++ en (Value.int .u8) a0.2.2.2.2.1))))⟩] b.w fun e w' => ∃ x : Unit, e = .returned (.bool r) ∧ St b (stl []) w' := by
  unfold pointer_None.f at H
  refine enterb (n := 6) Try.func12 rfl (by kernel_rfl) (by kernel_rfl) hs0 ?_
  refine cs_sub (s0) (sub_nil _) ?_
  refine cs_seq ?_
  refine cs_region (l := [_, _]) ?_
  refine ls_new rfl rfl (by kernel_rfl) 0 (fun g => .pointer (some ⟨g, 0, none⟩)) (.cells ⟨([Value.int .i64 a0.1] ++ ([Value.int .i64 a0.2.1] ++ ([Value.int .i64 a0.2.2.1] ++ ([Value.int .u32 a0.2.2.2.1] ++ en (Value.int .u8) a0.2.2.2.2.1))))⟩ 25) (fun w => by kernel_rfl) ?_
  intro g1
  refine ls_val (v := .bool false) rfl rfl (by kernel_rfl) (fun w => by kernel_rfl) ?_
  refine ls_end ?_
  refine qn_then ?_
  refine cs_seq ?_
  refine cs_region (l := [_, _, _, _]) ?_
  refine ls_loadagg (a := ⟨g1, 0, none⟩) (sub := ([Value.int .i64 a0.1] ++ ([Value.int .i64 a0.2.1] ++ ([Value.int .i64 a0.2.2.1] ++ ([Value.int .u32 a0.2.2.2.1] ++ en (Value.int .u8) a0.2.2.2.2.1))))) rfl rfl (by kernel_rfl) rfl (by kernel_rfl) (by kernel_rfl) (by kernel_rfl) (len_app (len1 _) (len_app (len1 _) (len_app (len1 _) (len_app (len1 _) (len_en _ a0.2.2.2.2))))) (fun w hs => (hs.vars (k := 0) (by exact rfl) (Sub4.all _))) ?_
  refine ls_build (ps := []) (pl := #[(0, 1), (1, 1), (2, 1), (3, 1), (4, 32)]) (zv := .agg ⟨([Value.int .i64 (0 : Int)] ++ ([Value.int .i64 (0 : Int)] ++ ([Value.int .i64 (0 : Int)] ++ ([Value.int .u32 (0 : Int)] ++ en (Value.int .u8) (vrep 32 (0 : Int)).1))))⟩) (zc := ([Value.int .i64 (0 : Int)] ++ ([Value.int .i64 (0 : Int)] ++ ([Value.int .i64 (0 : Int)] ++ ([Value.int .u32 (0 : Int)] ++ en (Value.int .u8) (vrep 32 (0 : Int)).1))))) (r := ([Value.int .i64 (0 : Int)] ++ ([Value.int .i64 (0 : Int)] ++ ([Value.int .i64 (0 : Int)] ++ ([Value.int .u32 (0 : Int)] ++ en (Value.int .u8) (vrep 32 (0 : Int)).1))))) rfl rfl (by kernel_rfl) rfl (by kernel_rfl) (by kernel_rfl) (fun w => by kernel_rfl) (fun w => by kernel_rfl) rfl fill_nil ?_
  refine ls_eql (xs := ([Value.int .i64 a0.1] ++ ([Value.int .i64 a0.2.1] ++ ([Value.int .i64 a0.2.2.1] ++ ([Value.int .u32 a0.2.2.2.1] ++ en (Value.int .u8) a0.2.2.2.2.1))))) (ys := ([Value.int .i64 (0 : Int)] ++ ([Value.int .i64 (0 : Int)] ++ ([Value.int .i64 (0 : Int)] ++ ([Value.int .u32 (0 : Int)] ++ en (Value.int .u8) (vrep 32 (0 : Int)).1))))) (r := ((a0.1 == (0 : Int)) && ((a0.2.1 == (0 : Int)) && ((a0.2.2.1 == (0 : Int)) && ((a0.2.2.2.1 == (0 : Int)) && (a0.2.2.2.2.1 == (vrep 32 (0 : Int)).1)))))) rfl rfl (by kernel_rfl) rfl (by kernel_rfl) (by kernel_rfl) (by kernel_rfl) (eq_st (by kernel_rfl) (by kernel_rfl) (eqf_cons (ft := 3) (fo := 0) (by kernel_rfl) (part_one (by kernel_rfl) (Sub4.trans (Sub4.all _) (Sub4.head _ _))) (part_one (by kernel_rfl) (Sub4.trans (Sub4.all _) (Sub4.head _ _))) (eq_int (by kernel_rfl) _ _ _) (eqf_cons (ft := 3) (fo := 1) (by kernel_rfl) (part_one (by kernel_rfl) (Sub4.trans (Sub4.all _) (Sub4.skip (n := 1) (len1 _) (Sub4.head _ _)))) (part_one (by kernel_rfl) (Sub4.trans (Sub4.all _) (Sub4.skip (n := 1) (len1 _) (Sub4.head _ _)))) (eq_int (by kernel_rfl) _ _ _) (eqf_cons (ft := 3) (fo := 2) (by kernel_rfl) (part_one (by kernel_rfl) (Sub4.trans (Sub4.all _) (Sub4.skip (n := 1) (len1 _) (Sub4.skip (n := 1) (len1 _) (Sub4.head _ _))))) (part_one (by kernel_rfl) (Sub4.trans (Sub4.all _) (Sub4.skip (n := 1) (len1 _) (Sub4.skip (n := 1) (len1 _) (Sub4.head _ _))))) (eq_int (by kernel_rfl) _ _ _) (eqf_cons (ft := 22) (fo := 3) (by kernel_rfl) (part_one (by kernel_rfl) (Sub4.trans (Sub4.all _) (Sub4.skip (n := 1) (len1 _) (Sub4.skip (n := 1) (len1 _) (Sub4.skip (n := 1) (len1 _) (Sub4.head _ _)))))) (part_one (by kernel_rfl) (Sub4.trans (Sub4.all _) (Sub4.skip (n := 1) (len1 _) (Sub4.skip (n := 1) (len1 _) (Sub4.skip (n := 1) (len1 _) (Sub4.head _ _)))))) (eq_int (by kernel_rfl) _ _ _) (eqf_last (ft := 23) (fo := 4) (by kernel_rfl) (part_agg (by kernel_rfl) (by kernel_rfl) (len_en _ a0.2.2.2.2) (Sub4.trans (Sub4.all _) (Sub4.skip (n := 1) (len1 _) (Sub4.skip (n := 1) (len1 _) (Sub4.skip (n := 1) (len1 _) (Sub4.skip (n := 1) (len1 _) (Sub4.all _))))))) (part_agg (by kernel_rfl) (by kernel_rfl) (len_en _ (vrep 32 (0 : Int))) (Sub4.trans (Sub4.all _) (Sub4.skip (n := 1) (len1 _) (Sub4.skip (n := 1) (len1 _) (Sub4.skip (n := 1) (len1 _) (Sub4.skip (n := 1) (len1 _) (Sub4.all _))))))) (eq_ints (e := 5) (ln := 32) (by kernel_rfl) (by kernel_rfl) (by kernel_rfl) a0.2.2.2.2.2 (vrep 32 (0 : Int)).2 _) (by kernel_rfl))))))) ?_
  refine ls_val (v := .bool ((a0.1 == (0 : Int)) && ((a0.2.1 == (0 : Int)) && ((a0.2.2.1 == (0 : Int)) && ((a0.2.2.2.1 == (0 : Int)) && (a0.2.2.2.2.1 == (vrep 32 (0 : Int)).1)))))) rfl rfl (by kernel_rfl) (fun w => by kernel_rfl) ?_
  refine ls_end ?_
  refine qn_then ?_
  refine cs_ret' ?_
  obtain rfl := Option.some.inj H
  refine qr_res (rs := [_]) rfl (fun w' hs => ⟨[.bool ((a0.1 == (0 : Int)) && ((a0.2.1 == (0 : Int)) && ((a0.2.2.1 == (0 : Int)) && ((a0.2.2.2.1 == (0 : Int)) && (a0.2.2.2.2.1 == (vrep 32 (0 : Int)).1)))))], (res_tmp (by kernel_rfl) (.nil)), (), rfl, hs.pick (ts := []) (cs := []) trivial (by decide)⟩)

/-! ### shadowbox/pointer.Sectors: function 16 -/
def pointer_Sectors.f (k : Nat) (a0 : (Int × Int × Int × Int × (Vc Int 32))) : Option (Int) :=
  (if a0.2.2.1 < (1 : Int) then some (0 : Int) else (if a0.2.2.1 > (65536 : Int) then some (0 : Int) else lt (IntKind.wrap .i64 (a0.2.2.1 + (512 : Int))) fun y4 => lt (IntKind.wrap .i64 (Int.tdiv (IntKind.wrap .i64 (y4 - (1 : Int))) (512 : Int))) fun y6 => some y6))
set_option maxRecDepth 100000 in
set_option maxHeartbeats 4000000 in
theorem pointer_Sectors.calls (k : Nat) (a0 : (Int × Int × Int × Int × (Vc Int 32))) (r : Int) (b : Bs) (hs0 : St b (stl []) b.w) (H : pointer_Sectors.f k a0 = some r) :
    Calls Try.prog 16 #[.agg ⟨([Value.int .i64 a0.1] ++ ([Value.int .i64 a0.2.1] ++ ([Value.int .i64 a0.2.2.1] ++ ([Value.int .u32 a0.2.2.2.1] ++ en (Value.int .u8) a0.2.2.2.2.1))))⟩] b.w fun e w' => ∃ x : Unit, e = .returned (.int .i64 r) ∧ St b (stl []) w' := by
  unfold pointer_Sectors.f at H
  refine enterb (n := 16) Try.func16 rfl (by kernel_rfl) (by kernel_rfl) hs0 ?_
  refine cs_sub (s0) (sub_nil _) ?_
  refine cs_seq ?_
  refine cs_region (l := [_, _]) ?_
  refine ls_new rfl rfl (by kernel_rfl) 0 (fun g => .pointer (some ⟨g, 0, none⟩)) (.cells ⟨([Value.int .i64 a0.1] ++ ([Value.int .i64 a0.2.1] ++ ([Value.int .i64 a0.2.2.1] ++ ([Value.int .u32 a0.2.2.2.1] ++ en (Value.int .u8) a0.2.2.2.2.1))))⟩ 25) (fun w => by kernel_rfl) ?_
  intro g1
  refine ls_val (v := .int .i64 (0 : Int)) rfl rfl (by kernel_rfl) (fun w => by kernel_rfl) ?_
  refine ls_end ?_
  refine qn_then ?_
  refine cs_seq ?_
  refine cs_seq ?_
  refine cs_region (l := [_, _, _, _, _, _, _, _]) ?_
  refine ls_val (v := .pointer (some ⟨g1, (0 + 2), none⟩)) rfl rfl (by kernel_rfl) (fun w => by kernel_rfl) ?_
  refine ls_load (a0 := ⟨g1, (0 + 2), none⟩) (v := .int .i64 a0.2.2.1) (de := (TypeDesc.int .i64)) rfl rfl (by kernel_rfl) rfl (by kernel_rfl) (by kernel_rfl) (by kernel_rfl) (fun w hs => (hs.var (k := 0) (by exact rfl) (Sub4.trans (Sub4.all _) (Sub4.skip (n := 1) (len1 _) (Sub4.skip (n := 1) (len1 _) (Sub4.head _ _)))))) ?_
  refine ls_val (v := .bool (decide (a0.2.2.1 < (1 : Int)))) rfl rfl (by kernel_rfl) (fun w => by kernel_rfl) ?_
  refine ls_val (v := .bool (decide (a0.2.2.1 < (1 : Int)))) rfl rfl (by kernel_rfl) (fun w => by kernel_rfl) ?_
  by_cases q2 : a0.2.2.1 < (1 : Int)
  · replace H := ite_t q2 H
    refine ls_know (c := true) (dec_t q2) 6 (by kernel_rfl) ?_
    refine ls_off (j := 3) (t := 6) (b := false) (c := true) rfl rfl (by kernel_rfl) (by kernel_rfl) rfl rfl (by kernel_rfl) ?_
    refine ls_off (j := 3) (t := 6) (b := false) (c := true) rfl rfl (by kernel_rfl) (by kernel_rfl) rfl rfl (by kernel_rfl) ?_
    refine ls_off (j := 3) (t := 6) (b := false) (c := true) rfl rfl (by kernel_rfl) (by kernel_rfl) rfl rfl (by kernel_rfl) ?_
    refine ls_val (v := .bool true) rfl rfl (by kernel_rfl) (fun w => by kernel_rfl) ?_
    refine ls_end ?_
    refine qn_then ?_
    refine cs_true (by kernel_rfl) ?_
    refine cs_seq ?_
    refine cs_region (l := [_]) ?_
    refine ls_val (v := .int .i64 (0 : Int)) rfl rfl (by kernel_rfl) (fun w => by kernel_rfl) ?_
    refine ls_end ?_
    refine qn_then ?_
    refine cs_ret' ?_
    refine qr_then ?_
    obtain rfl := Option.some.inj H
    refine qr_res (rs := [_]) rfl (fun w' hs => ⟨[.int .i64 (0 : Int)], (res_tmp (by kernel_rfl) (.nil)), (), rfl, hs.pick (ts := []) (cs := []) trivial (by decide)⟩)
  · replace H := ite_f q2 H
    refine ls_know (c := false) (dec_f q2) 6 (by kernel_rfl) ?_
    refine ls_on (j := 3) (t := 6) (b := false) rfl rfl (by kernel_rfl) (by kernel_rfl) ?_
    refine ls_val (v := .pointer (some ⟨g1, (0 + 2), none⟩)) rfl rfl (by kernel_rfl) (fun w => by kernel_rfl) ?_
    refine ls_on (j := 3) (t := 6) (b := false) rfl rfl (by kernel_rfl) (by kernel_rfl) ?_
    refine ls_load (a0 := ⟨g1, (0 + 2), none⟩) (v := .int .i64 a0.2.2.1) (de := (TypeDesc.int .i64)) rfl rfl (by kernel_rfl) rfl (by kernel_rfl) (by kernel_rfl) (by kernel_rfl) (fun w hs => (hs.var (k := 0) (by exact rfl) (Sub4.trans (Sub4.all _) (Sub4.skip (n := 1) (len1 _) (Sub4.skip (n := 1) (len1 _) (Sub4.head _ _)))))) ?_
    refine ls_on (j := 3) (t := 6) (b := false) rfl rfl (by kernel_rfl) (by kernel_rfl) ?_
    refine ls_val (v := .bool (decide (a0.2.2.1 > (65536 : Int)))) rfl rfl (by kernel_rfl) (fun w => by kernel_rfl) ?_
    refine ls_val (v := .bool (decide (a0.2.2.1 > (65536 : Int)))) rfl rfl (by kernel_rfl) (fun w => by kernel_rfl) ?_
    refine ls_end ?_
    refine qn_then ?_
    by_cases q3 : a0.2.2.1 > (65536 : Int)
    · replace H := ite_t q3 H
      refine cs_know (c := true) (dec_t q3) 10 (by kernel_rfl) ?_
      refine cs_true (by kernel_rfl) ?_
      refine cs_seq ?_
      refine cs_region (l := [_]) ?_
      refine ls_val (v := .int .i64 (0 : Int)) rfl rfl (by kernel_rfl) (fun w => by kernel_rfl) ?_
      refine ls_end ?_
      refine qn_then ?_
      refine cs_ret' ?_
      refine qr_then ?_
      obtain rfl := Option.some.inj H
      refine qr_res (rs := [_]) rfl (fun w' hs => ⟨[.int .i64 (0 : Int)], (res_tmp (by kernel_rfl) (.nil)), (), rfl, hs.pick (ts := []) (cs := []) trivial (by decide)⟩)
    · replace H := ite_f q3 H
      refine cs_know (c := false) (dec_f q3) 10 (by kernel_rfl) ?_
      refine cs_false (by kernel_rfl) ?_
      refine cs_skip' ?_
      refine qn_then ?_
      refine cs_seq ?_
      refine cs_region (l := [_, _, _, _, _, _]) ?_
      refine ls_val (v := .pointer (some ⟨g1, (0 + 2), none⟩)) rfl rfl (by kernel_rfl) (fun w => by kernel_rfl) ?_
      refine ls_load (a0 := ⟨g1, (0 + 2), none⟩) (v := .int .i64 a0.2.2.1) (de := (TypeDesc.int .i64)) rfl rfl (by kernel_rfl) rfl (by kernel_rfl) (by kernel_rfl) (by kernel_rfl) (fun w hs => (hs.var (k := 0) (by exact rfl) (Sub4.trans (Sub4.all _) (Sub4.skip (n := 1) (len1 _) (Sub4.skip (n := 1) (len1 _) (Sub4.head _ _)))))) ?_
      obtain ⟨y4, hy5, H⟩ := lt_some H
      refine ls_val (v := .int .i64 (IntKind.wrap .i64 (a0.2.2.1 + (512 : Int)))) rfl rfl (by kernel_rfl) (fun w => by kernel_rfl) ?_
      refine ls_ren 13 (v := .int .i64 (IntKind.wrap .i64 (a0.2.2.1 + (512 : Int)))) (v' := .int .i64 y4) (by kernel_rfl) (by rw [hy5]) ?_
      refine ls_val (v := .int .i64 (IntKind.wrap .i64 (y4 - (1 : Int)))) rfl rfl (by kernel_rfl) (fun w => by kernel_rfl) ?_
      obtain ⟨y6, hy7, H⟩ := lt_some H
      refine ls_val (v := .int .i64 (IntKind.wrap .i64 (Int.tdiv (IntKind.wrap .i64 (y4 - (1 : Int))) (512 : Int)))) rfl rfl (by kernel_rfl) (fun w => by kernel_rfl) ?_
      refine ls_ren 15 (v := .int .i64 (IntKind.wrap .i64 (Int.tdiv (IntKind.wrap .i64 (y4 - (1 : Int))) (512 : Int)))) (v' := .int .i64 y6) (by kernel_rfl) (by rw [hy7]) ?_
      refine ls_val (v := .int .i64 y6) rfl rfl (by kernel_rfl) (fun w => by kernel_rfl) ?_
      refine ls_end ?_
      refine qn_then ?_
      refine cs_ret' ?_
      obtain rfl := Option.some.inj H
      refine qr_res (rs := [_]) rfl (fun w' hs => ⟨[.int .i64 y6], (res_tmp (by kernel_rfl) (.nil)), (), rfl, hs.pick (ts := []) (cs := []) trivial (by decide)⟩)

/-! ### shadowbox/pointer.Right$1: function 33 -/
def pointer_Right_1.f (k : Nat) (a0 : Int) (a1 : Int) (a2 : Int) : Option (Bool) :=
  (if a0 ≥ a1 then some (decide (a0 ≤ a2)) else some false)
set_option maxRecDepth 100000 in
set_option maxHeartbeats 4000000 in
theorem pointer_Right_1.calls (k : Nat) (a0 : Int) (a1 : Int) (a2 : Int) (r : Bool) (b : Bs) (hs0 : St b (stl []) b.w) (H : pointer_Right_1.f k a0 a1 a2 = some r) :
    Calls Try.prog 33 #[.int .i64 a0, .int .i64 a1, .int .i64 a2] b.w fun e w' => ∃ x : Unit, e = .returned (.bool r) ∧ St b (stl []) w' := by
  unfold pointer_Right_1.f at H
  refine enterb (n := 15) Try.func33 rfl (by kernel_rfl) (by kernel_rfl) hs0 ?_
  refine cs_sub (s0) (sub_nil _) ?_
  refine cs_seq ?_
  refine cs_region (l := [_]) ?_
  refine ls_val (v := .bool false) rfl rfl (by kernel_rfl) (fun w => by kernel_rfl) ?_
  refine ls_end ?_
  refine qn_then ?_
  refine cs_seq ?_
  refine cs_region (l := [_, _, _, _, _, _, _, _, _]) ?_
  refine ls_val (v := .int .i64 a0) rfl rfl (by kernel_rfl) (fun w => by kernel_rfl) ?_
  refine ls_val (v := .int .i64 a1) rfl rfl (by kernel_rfl) (fun w => by kernel_rfl) ?_
  refine ls_val (v := .bool (decide (a0 ≥ a1))) rfl rfl (by kernel_rfl) (fun w => by kernel_rfl) ?_
  refine ls_val (v := .bool (decide (a0 ≥ a1))) rfl rfl (by kernel_rfl) (fun w => by kernel_rfl) ?_
  by_cases q1 : a0 ≥ a1
  · replace H := ite_t q1 H
    refine ls_know (c := true) (dec_t q1) 10 (by kernel_rfl) ?_
    refine ls_on (j := 3) (t := 10) (b := true) rfl rfl (by kernel_rfl) (by kernel_rfl) ?_
    refine ls_val (v := .int .i64 a0) rfl rfl (by kernel_rfl) (fun w => by kernel_rfl) ?_
    refine ls_on (j := 3) (t := 10) (b := true) rfl rfl (by kernel_rfl) (by kernel_rfl) ?_
    refine ls_val (v := .int .i64 a2) rfl rfl (by kernel_rfl) (fun w => by kernel_rfl) ?_
    refine ls_on (j := 3) (t := 10) (b := true) rfl rfl (by kernel_rfl) (by kernel_rfl) ?_
    refine ls_val (v := .bool (decide (a0 ≤ a2))) rfl rfl (by kernel_rfl) (fun w => by kernel_rfl) ?_
    refine ls_val (v := .bool (decide (a0 ≤ a2))) rfl rfl (by kernel_rfl) (fun w => by kernel_rfl) ?_
    refine ls_val (v := .bool (decide (a0 ≤ a2))) rfl rfl (by kernel_rfl) (fun w => by kernel_rfl) ?_
    refine ls_end ?_
    refine qn_then ?_
    refine cs_ret' ?_
    obtain rfl := Option.some.inj H
    refine qr_res (rs := [_]) rfl (fun w' hs => ⟨[.bool (decide (a0 ≤ a2))], (res_tmp (by kernel_rfl) (.nil)), (), rfl, hs.pick (ts := []) (cs := []) trivial (by decide)⟩)
  · replace H := ite_f q1 H
    refine ls_know (c := false) (dec_f q1) 10 (by kernel_rfl) ?_
    refine ls_off (j := 3) (t := 10) (b := true) (c := false) rfl rfl (by kernel_rfl) (by kernel_rfl) rfl rfl (by kernel_rfl) ?_
    refine ls_off (j := 3) (t := 10) (b := true) (c := false) rfl rfl (by kernel_rfl) (by kernel_rfl) rfl rfl (by kernel_rfl) ?_
    refine ls_off (j := 3) (t := 10) (b := true) (c := false) rfl rfl (by kernel_rfl) (by kernel_rfl) rfl rfl (by kernel_rfl) ?_
    refine ls_val (v := .bool false) rfl rfl (by kernel_rfl) (fun w => by kernel_rfl) ?_
    refine ls_val (v := .bool false) rfl rfl (by kernel_rfl) (fun w => by kernel_rfl) ?_
    refine ls_end ?_
    refine qn_then ?_
    refine cs_ret' ?_
    obtain rfl := Option.some.inj H
    refine qr_res (rs := [_]) rfl (fun w' hs => ⟨[.bool false], (res_tmp (by kernel_rfl) (.nil)), (), rfl, hs.pick (ts := []) (cs := []) trivial (by decide)⟩)

/-! ### shadowbox/pointer.Right: function 14 -/
def pointer_Right.tab1 : List (List Nat) := [[], [], [1], [0, 1, 2], [0, 1, 2, 3], [0, 1, 2, 3, 4], [0, 1, 2, 3, 4, 5], [0, 1, 2, 3, 4, 5, 6], [0, 1, 2, 3, 4, 5, 6, 7], [0, 1, 2, 3, 4, 5, 6, 7, 8], [0, 1, 2, 3, 4, 5, 6, 7, 8, 9], [0, 1, 2, 3, 4, 5, 6, 7, 8, 9], [0, 1, 2, 3, 4, 5, 6, 7, 8, 9, 11], [0, 1, 2, 3, 4, 5, 6, 7, 8, 9], [0, 1, 2, 3, 4, 5, 6, 7, 8, 9, 13], [0, 1, 2, 3, 4, 5, 6, 7, 8, 9, 13, 14], [0, 1, 2, 3, 4, 5, 6, 7, 8, 9, 10, 11, 12, 13, 14, 15], [0, 1, 2, 3, 4, 5, 6, 7, 8, 9, 10, 11, 12, 13, 14, 15, 16], [0, 1, 2, 3, 4, 5, 6, 7, 8, 9, 10, 11, 12, 13, 14, 15, 16, 17]]
def pointer_Right.f (k : Nat) (a0 : (Int × Int × Int × Int × (Vc Int 32))) : Option (Bool) :=
  (pointer_Right_1.f k a0.2.1 (1 : Int) (1152921504606846976 : Int)).bind fun t4 => (if t4 = true then (pointer_Sectors.f k a0).bind fun t8 => (if t8 > (0 : Int) then (pointer_Sectors.f k a0).bind fun t12 => (pointer_Right_1.f k a0.1 (2 : Int) (IntKind.wrap .i64 ((8192 : Int) - t12))).bind fun t15 => some t15 else some false) else some false)
set_option maxRecDepth 100000 in
set_option maxHeartbeats 4000000 in
theorem pointer_Right.calls (k : Nat) (a0 : (Int × Int × Int × Int × (Vc Int 32))) (r : Bool) (b : Bs) (hs0 : St b (stl []) b.w) (H : pointer_Right.f k a0 = some r) :
    Calls Try.prog 14 #[.agg ⟨([Value.int .i64 a0.1] ++ ([Value.int .i64 a0.2.1] ++ ([Value.int .i64 a0.2.2.1] ++ ([Value.int .u32 a0.2.2.2.1] ++ en (Value.int .u8) a0.2.2.2.2.1))))⟩] b.w fun e w' => ∃ x : Unit, e = .returned (.bool r) ∧ St b (stl []) w' := by
  unfold pointer_Right.f at H
  refine enterb (n := 22) Try.func14 rfl (by kernel_rfl) (by kernel_rfl) hs0 ?_
  refine cs_sub (s0) (sub_nil _) ?_
  refine cs_seq ?_
  refine cs_region (l := [_, _]) ?_
  refine ls_new rfl rfl (by kernel_rfl) 0 (fun g => .pointer (some ⟨g, 0, none⟩)) (.cells ⟨([Value.int .i64 a0.1] ++ ([Value.int .i64 a0.2.1] ++ ([Value.int .i64 a0.2.2.1] ++ ([Value.int .u32 a0.2.2.2.1] ++ en (Value.int .u8) a0.2.2.2.2.1))))⟩ 25) (fun w => by kernel_rfl) ?_
  intro g1
  refine ls_val (v := .bool false) rfl rfl (by kernel_rfl) (fun w => by kernel_rfl) ?_
  refine ls_end ?_
  refine qn_then ?_
  refine cs_seq ?_
  refine cs_region (l := [_]) ?_
  refine ls_val (v := .func (.func 33) #[] #[]) rfl rfl (by kernel_rfl) (fun w => by kernel_rfl) ?_
  refine ls_end ?_
  refine qn_then ?_
  refine cs_seq ?_
  obtain ⟨s3_0, hs3_0⟩ : ∃ z : Value → Sto → Prop, z = (fun v R => v = .func (.func 33) #[] #[] ∧ R = s0) := ⟨_, rfl⟩
  refine have_op (l := [_, _, _, _, _, _, _, _, _, _, _, _, _, _, _, _, _, _, _]) pointer_Right.tab1 1 0 (fun sp => sp 0 = s3_0) (fun sp on hA hon => ?_) (fun ops3_0 => ?_)
  · refine ⟨fun o ho vs Rs f' S' w hp hf hx hS hR hs => ?_⟩
    obtain rfl := Option.some.inj ho
    rw [hA, hs3_0]
    refine And.intro (fun a ha => (want_none rfl a ha).trans hon.symm) (And.intro (fun _ => ?_) (fun h => by rw [hon] at h; cases h))
    have hF := fr_next (rfl) ((hx 3 (by kernel_rfl)).trans (by kernel_rfl : (_ : Value) = .func (.func 33) #[] #[]))
    refine ls_fr hF ?_
    refine ls_val (v := .func (.func 33) #[] #[]) rfl rfl (by kernel_rfl) (fun w => by kernel_rfl) ?_
    exact ls_fin s0 (.func (.func 33) #[] #[]) (congrArg (fun z => upd z 4 _) hF.symm) ⟨rfl, rfl⟩ (sub_nil _)
  obtain ⟨s3_1, hs3_1⟩ : ∃ z : Value → Sto → Prop, z = (fun v R => v = .pointer (some ⟨g1, (0 + 1), none⟩) ∧ R = s0) := ⟨_, rfl⟩
  refine have_op (l := [_, _, _, _, _, _, _, _, _, _, _, _, _, _, _, _, _, _, _]) pointer_Right.tab1 1 1 (fun sp => sp 1 = s3_1) (fun sp on hA hon => ?_) (fun ops3_1 => ?_)
  · refine ⟨fun o ho vs Rs f' S' w hp hf hx hS hR hs => ?_⟩
    obtain rfl := Option.some.inj ho
    rw [hA, hs3_1]
    refine And.intro (fun a ha => (want_none rfl a ha).trans hon.symm) (And.intro (fun _ => ?_) (fun h => by rw [hon] at h; cases h))
    have hF := fr_next (rfl) ((hx 1 (by kernel_rfl)).trans (by kernel_rfl : (_ : Value) = .pointer (some ⟨g1, 0, none⟩)))
    refine ls_fr hF ?_
    refine ls_val (v := .pointer (some ⟨g1, (0 + 1), none⟩)) rfl rfl (by kernel_rfl) (fun w => by kernel_rfl) ?_
    exact ls_fin s0 (.pointer (some ⟨g1, (0 + 1), none⟩)) (congrArg (fun z => upd z 5 _) hF.symm) ⟨rfl, rfl⟩ (sub_nil _)
  obtain ⟨s3_2, hs3_2⟩ : ∃ z : Value → Sto → Prop, z = (fun v R => v = .int .i64 a0.2.1 ∧ R = s0) := ⟨_, rfl⟩
  refine have_op (l := [_, _, _, _, _, _, _, _, _, _, _, _, _, _, _, _, _, _, _]) pointer_Right.tab1 1 2 (fun sp => sp 2 = s3_2 ∧ sp 1 = s3_1) (fun sp on hA hon => ?_) (fun ops3_2 => ?_)
  · refine ⟨fun o ho vs Rs f' S' w hp hf hx hS hR hs => ?_⟩
    obtain rfl := Option.some.inj ho
    obtain ⟨hv1, hR1⟩ := (spe hA.2 hs3_1 (hp 1 (by kernel_rfl)))
    rw [hA.1, hs3_2]
    refine And.intro (fun a ha => (want_none rfl a ha).trans hon.symm) (And.intro (fun _ => ?_) (fun h => by rw [hon] at h; cases h))
    have hF := fr_next (rfl) ((hf 1 5 (by kernel_rfl) rfl).trans hv1)
    refine ls_fr hF ?_
    refine ls_load (a0 := ⟨g1, (0 + 1), none⟩) (v := .int .i64 a0.2.1) (de := (TypeDesc.int .i64)) rfl rfl (by kernel_rfl) rfl (by kernel_rfl) (by kernel_rfl) (by kernel_rfl) (fun w1 hs1 => cell_step hs1.below.bw (hs.var (k := 0) ((hS 0 (by kernel_rfl)).trans (by exact rfl)) (Sub4.trans (Sub4.all _) (Sub4.skip (n := 1) (len1 _) (Sub4.head _ _))))) ?_
    exact ls_fin s0 (.int .i64 a0.2.1) (congrArg (fun z => upd z 6 _) hF.symm) ⟨rfl, rfl⟩ (sub_nil _)
  obtain ⟨t4, hc5, H⟩ := bind_some H
  obtain ⟨s3_3, hs3_3⟩ : ∃ z : Value → Sto → Prop, z = (fun v R => ∃ x6 : Unit, v = .bool t4 ∧ R = stl []) := ⟨_, rfl⟩
  refine have_op (l := [_, _, _, _, _, _, _, _, _, _, _, _, _, _, _, _, _, _, _]) pointer_Right.tab1 1 3 (fun sp => sp 3 = s3_3 ∧ sp 0 = s3_0 ∧ sp 2 = s3_2) (fun sp on hA hon => ?_) (fun ops3_3 => ?_)
  · refine ⟨fun o ho vs Rs f' S' w hp hf hx hS hR hs => ?_⟩
    obtain rfl := Option.some.inj ho
    obtain ⟨hv0, hR0⟩ := (spe hA.2.1 hs3_0 (hp 0 (by kernel_rfl)))
    obtain ⟨hv2, hR2⟩ := (spe hA.2.2 hs3_2 (hp 2 (by kernel_rfl)))
    rw [hA.1, hs3_3]
    refine And.intro (fun a ha => (want_none rfl a ha).trans hon.symm) (And.intro (fun _ => ?_) (fun h => by rw [hon] at h; cases h))
    have hF := fr_next (fr_next (rfl) ((hf 0 4 (by kernel_rfl) rfl).trans hv0)) ((hf 2 6 (by kernel_rfl) rfl).trans hv2)
    refine ls_fr hF ?_
    refine ls_call (fid := 33) (vals := #[.int .i64 a0.2.1, .int .i64 (1 : Int), .int .i64 (1152921504606846976 : Int)]) (X := Unit) (fun x => .bool t4) (fun x => stl []) 0 rfl rfl (by kernel_rfl) (fun w => by kernel_rfl) (fun w1 hs1 => pointer_Right_1.calls k a0.2.1 (1 : Int) (1152921504606846976 : Int) t4 (bw w1) (St.refl w1)  hc5) ?_
    intro x6
    exact ls_fin (stl []) (.bool t4) (congrArg (fun z => upd z 7 _) hF.symm) ⟨x6, rfl, rfl⟩ (sub_join _)
  obtain ⟨s3_4, hs3_4⟩ : ∃ z : Value → Sto → Prop, z = (fun v R => v = .bool t4 ∧ R = s0) := ⟨_, rfl⟩
  refine have_op (l := [_, _, _, _, _, _, _, _, _, _, _, _, _, _, _, _, _, _, _]) pointer_Right.tab1 1 4 (fun sp => sp 4 = s3_4 ∧ sp 3 = s3_3) (fun sp on hA hon => ?_) (fun ops3_4 => ?_)
  · refine ⟨fun o ho vs Rs f' S' w hp hf hx hS hR hs => ?_⟩
    obtain rfl := Option.some.inj ho
    obtain ⟨x6, hv3, hR3⟩ := (spe hA.2 hs3_3 (hp 3 (by kernel_rfl)))
    rw [hA.1, hs3_4]
    refine And.intro (fun a ha => (want_none rfl a ha).trans hon.symm) (And.intro (fun _ => ?_) (fun h => by rw [hon] at h; cases h))
    have hF := fr_next (rfl) ((hf 3 7 (by kernel_rfl) rfl).trans hv3)
    refine ls_fr hF ?_
    refine ls_val (v := .bool t4) rfl rfl (by kernel_rfl) (fun w => by kernel_rfl) ?_
    exact ls_fin s0 (.bool t4) (congrArg (fun z => upd z 8 _) hF.symm) ⟨rfl, rfl⟩ (sub_nil _)
  by_cases q7 : t4 = true
  · replace H := ite_t q7 H
    obtain ⟨s3_5, hs3_5⟩ : ∃ z : Value → Sto → Prop, z = (fun v R => v = .agg ⟨([Value.int .i64 a0.1] ++ ([Value.int .i64 a0.2.1] ++ ([Value.int .i64 a0.2.2.1] ++ ([Value.int .u32 a0.2.2.2.1] ++ en (Value.int .u8) a0.2.2.2.2.1))))⟩ ∧ R = s0) := ⟨_, rfl⟩
    refine have_op (l := [_, _, _, _, _, _, _, _, _, _, _, _, _, _, _, _, _, _, _]) pointer_Right.tab1 1 5 (fun sp => sp 5 = s3_5 ∧ sp 4 = s3_4) (fun sp on hA hon => ?_) (fun ops3_5 => ?_)
    · refine ⟨fun o ho vs Rs f' S' w hp hf hx hS hR hs => ?_⟩
      obtain rfl := Option.some.inj ho
      obtain ⟨hv4, hR4⟩ := (spe hA.2 hs3_4 (hp 4 (by kernel_rfl)))
      rw [hA.1, hs3_5]
      refine And.intro (fun a ha => (want_is (j := 4) (t := 8) (r := true) rfl rfl (by kernel_rfl) (((hf 4 8 (by kernel_rfl) rfl).trans hv4).trans (congrArg Value.bool (show t4 = true from q7))) rfl a ha).trans hon.symm) (And.intro (fun _ => ?_) (fun h => by rw [hon] at h; cases h))
      have hF := fr_next (fr_next (rfl) ((hx 1 (by kernel_rfl)).trans (by kernel_rfl : (_ : Value) = .pointer (some ⟨g1, 0, none⟩)))) (((hf 4 8 (by kernel_rfl) rfl).trans hv4).trans (congrArg Value.bool (show t4 = true from q7)))
      refine ls_fr hF ?_
      refine ls_loadagg (a := ⟨g1, 0, none⟩) (sub := ([Value.int .i64 a0.1] ++ ([Value.int .i64 a0.2.1] ++ ([Value.int .i64 a0.2.2.1] ++ ([Value.int .u32 a0.2.2.2.1] ++ en (Value.int .u8) a0.2.2.2.2.1))))) rfl rfl (by kernel_rfl) rfl (by kernel_rfl) (by kernel_rfl) (by kernel_rfl) (len_app (len1 _) (len_app (len1 _) (len_app (len1 _) (len_app (len1 _) (len_en _ a0.2.2.2.2))))) (fun w1 hs1 => Rd.step (hs.vars (k := 0) ((hS 0 (by kernel_rfl)).trans (by exact rfl)) (Sub4.all _)) hs1.below.bw) ?_
      exact ls_fin s0 (.agg ⟨([Value.int .i64 a0.1] ++ ([Value.int .i64 a0.2.1] ++ ([Value.int .i64 a0.2.2.1] ++ ([Value.int .u32 a0.2.2.2.1] ++ en (Value.int .u8) a0.2.2.2.2.1))))⟩) (congrArg (fun z => upd z 9 _) hF.symm) ⟨rfl, rfl⟩ (sub_nil _)
    obtain ⟨t8, hc9, H⟩ := bind_some H
    obtain ⟨s3_6, hs3_6⟩ : ∃ z : Value → Sto → Prop, z = (fun v R => ∃ x10 : Unit, v = .int .i64 t8 ∧ R = stl []) := ⟨_, rfl⟩
    refine have_op (l := [_, _, _, _, _, _, _, _, _, _, _, _, _, _, _, _, _, _, _]) pointer_Right.tab1 1 6 (fun sp => sp 6 = s3_6 ∧ sp 4 = s3_4 ∧ sp 5 = s3_5) (fun sp on hA hon => ?_) (fun ops3_6 => ?_)
    · refine ⟨fun o ho vs Rs f' S' w hp hf hx hS hR hs => ?_⟩
      obtain rfl := Option.some.inj ho
      obtain ⟨hv4, hR4⟩ := (spe hA.2.1 hs3_4 (hp 4 (by kernel_rfl)))
      obtain ⟨hv5, hR5⟩ := (spe hA.2.2 hs3_5 (hp 5 (by kernel_rfl)))
      rw [hA.1, hs3_6]
      refine And.intro (fun a ha => (want_is (j := 4) (t := 8) (r := true) rfl rfl (by kernel_rfl) (((hf 4 8 (by kernel_rfl) rfl).trans hv4).trans (congrArg Value.bool (show t4 = true from q7))) rfl a ha).trans hon.symm) (And.intro (fun _ => ?_) (fun h => by rw [hon] at h; cases h))
      have hF := fr_next (fr_next (rfl) (((hf 4 8 (by kernel_rfl) rfl).trans hv4).trans (congrArg Value.bool (show t4 = true from q7)))) ((hf 5 9 (by kernel_rfl) rfl).trans hv5)
      refine ls_fr hF ?_
      refine ls_call (fid := 16) (vals := #[.agg ⟨([Value.int .i64 a0.1] ++ ([Value.int .i64 a0.2.1] ++ ([Value.int .i64 a0.2.2.1] ++ ([Value.int .u32 a0.2.2.2.1] ++ en (Value.int .u8) a0.2.2.2.2.1))))⟩]) (X := Unit) (fun x => .int .i64 t8) (fun x => stl []) 0 rfl rfl (by kernel_rfl) (fun w => by kernel_rfl) (fun w1 hs1 => pointer_Sectors.calls k a0 t8 (bw w1) (St.refl w1)  hc9) ?_
      intro x10
      exact ls_fin (stl []) (.int .i64 t8) (congrArg (fun z => upd z 10 _) hF.symm) ⟨x10, rfl, rfl⟩ (sub_join _)
    obtain ⟨s3_7, hs3_7⟩ : ∃ z : Value → Sto → Prop, z = (fun v R => v = .bool (decide (t8 > (0 : Int))) ∧ R = s0) := ⟨_, rfl⟩
    refine have_op (l := [_, _, _, _, _, _, _, _, _, _, _, _, _, _, _, _, _, _, _]) pointer_Right.tab1 1 7 (fun sp => sp 7 = s3_7 ∧ sp 4 = s3_4 ∧ sp 6 = s3_6) (fun sp on hA hon => ?_) (fun ops3_7 => ?_)
    · refine ⟨fun o ho vs Rs f' S' w hp hf hx hS hR hs => ?_⟩
      obtain rfl := Option.some.inj ho
      obtain ⟨hv4, hR4⟩ := (spe hA.2.1 hs3_4 (hp 4 (by kernel_rfl)))
      obtain ⟨x10, hv6, hR6⟩ := (spe hA.2.2 hs3_6 (hp 6 (by kernel_rfl)))
      rw [hA.1, hs3_7]
      refine And.intro (fun a ha => (want_is (j := 4) (t := 8) (r := true) rfl rfl (by kernel_rfl) (((hf 4 8 (by kernel_rfl) rfl).trans hv4).trans (congrArg Value.bool (show t4 = true from q7))) rfl a ha).trans hon.symm) (And.intro (fun _ => ?_) (fun h => by rw [hon] at h; cases h))
      have hF := fr_next (fr_next (rfl) (((hf 4 8 (by kernel_rfl) rfl).trans hv4).trans (congrArg Value.bool (show t4 = true from q7)))) ((hf 6 10 (by kernel_rfl) rfl).trans hv6)
      refine ls_fr hF ?_
      refine ls_val (v := .bool (decide (t8 > (0 : Int)))) rfl rfl (by kernel_rfl) (fun w => by kernel_rfl) ?_
      exact ls_fin s0 (.bool (decide (t8 > (0 : Int)))) (congrArg (fun z => upd z 11 _) hF.symm) ⟨rfl, rfl⟩ (sub_nil _)
    obtain ⟨s3_8, hs3_8⟩ : ∃ z : Value → Sto → Prop, z = (fun v R => v = .bool (decide (t8 > (0 : Int))) ∧ R = s0) := ⟨_, rfl⟩
    refine have_op (l := [_, _, _, _, _, _, _, _, _, _, _, _, _, _, _, _, _, _, _]) pointer_Right.tab1 1 8 (fun sp => sp 8 = s3_8 ∧ sp 4 = s3_4 ∧ sp 7 = s3_7) (fun sp on hA hon => ?_) (fun ops3_8 => ?_)
    · refine ⟨fun o ho vs Rs f' S' w hp hf hx hS hR hs => ?_⟩
      obtain rfl := Option.some.inj ho
      obtain ⟨hv4, hR4⟩ := (spe hA.2.1 hs3_4 (hp 4 (by kernel_rfl)))
      obtain ⟨hv7, hR7⟩ := (spe hA.2.2 hs3_7 (hp 7 (by kernel_rfl)))
      rw [hA.1, hs3_8]
      refine And.intro (fun a ha => (want_none rfl a ha).trans hon.symm) (And.intro (fun _ => ?_) (fun h => by rw [hon] at h; cases h))
      have hF := fr_next (fr_next (rfl) (((hf 4 8 (by kernel_rfl) rfl).trans hv4).trans (congrArg Value.bool (show t4 = true from q7)))) ((hf 7 11 (by kernel_rfl) rfl).trans hv7)
      refine ls_fr hF ?_
      refine ls_val (v := .bool (decide (t8 > (0 : Int)))) rfl rfl (by kernel_rfl) (fun w => by kernel_rfl) ?_
      exact ls_fin s0 (.bool (decide (t8 > (0 : Int)))) (congrArg (fun z => upd z 12 _) hF.symm) ⟨rfl, rfl⟩ (sub_nil _)
    obtain ⟨s3_9, hs3_9⟩ : ∃ z : Value → Sto → Prop, z = (fun v R => v = .bool (decide (t8 > (0 : Int))) ∧ R = s0) := ⟨_, rfl⟩
    refine have_op (l := [_, _, _, _, _, _, _, _, _, _, _, _, _, _, _, _, _, _, _]) pointer_Right.tab1 1 9 (fun sp => sp 9 = s3_9 ∧ sp 8 = s3_8) (fun sp on hA hon => ?_) (fun ops3_9 => ?_)
    · refine ⟨fun o ho vs Rs f' S' w hp hf hx hS hR hs => ?_⟩
      obtain rfl := Option.some.inj ho
      obtain ⟨hv8, hR8⟩ := (spe hA.2 hs3_8 (hp 8 (by kernel_rfl)))
      rw [hA.1, hs3_9]
      refine And.intro (fun a ha => (want_none rfl a ha).trans hon.symm) (And.intro (fun _ => ?_) (fun h => by rw [hon] at h; cases h))
      have hF := fr_next (rfl) ((hf 8 12 (by kernel_rfl) rfl).trans hv8)
      refine ls_fr hF ?_
      refine ls_val (v := .bool (decide (t8 > (0 : Int)))) rfl rfl (by kernel_rfl) (fun w => by kernel_rfl) ?_
      exact ls_fin s0 (.bool (decide (t8 > (0 : Int)))) (congrArg (fun z => upd z 13 _) hF.symm) ⟨rfl, rfl⟩ (sub_nil _)
    by_cases q11 : t8 > (0 : Int)
    · replace H := ite_t q11 H
      obtain ⟨s3_10, hs3_10⟩ : ∃ z : Value → Sto → Prop, z = (fun v R => v = .func (.func 33) #[] #[] ∧ R = s0) := ⟨_, rfl⟩
      refine have_op (l := [_, _, _, _, _, _, _, _, _, _, _, _, _, _, _, _, _, _, _]) pointer_Right.tab1 1 10 (fun sp => sp 10 = s3_10 ∧ sp 9 = s3_9) (fun sp on hA hon => ?_) (fun ops3_10 => ?_)
      · refine ⟨fun o ho vs Rs f' S' w hp hf hx hS hR hs => ?_⟩
        obtain rfl := Option.some.inj ho
        obtain ⟨hv9, hR9⟩ := (spe hA.2 hs3_9 (hp 9 (by kernel_rfl)))
        rw [hA.1, hs3_10]
        refine And.intro (fun a ha => (want_is (j := 9) (t := 13) (r := true) rfl rfl (by kernel_rfl) (((hf 9 13 (by kernel_rfl) rfl).trans hv9).trans (congrArg Value.bool (show (decide (t8 > (0 : Int))) = true from dec_t q11))) rfl a ha).trans hon.symm) (And.intro (fun _ => ?_) (fun h => by rw [hon] at h; cases h))
        have hF := fr_next (fr_next (rfl) ((hx 3 (by kernel_rfl)).trans (by kernel_rfl : (_ : Value) = .func (.func 33) #[] #[]))) (((hf 9 13 (by kernel_rfl) rfl).trans hv9).trans (congrArg Value.bool (show (decide (t8 > (0 : Int))) = true from dec_t q11)))
        refine ls_fr hF ?_
        refine ls_val (v := .func (.func 33) #[] #[]) rfl rfl (by kernel_rfl) (fun w => by kernel_rfl) ?_
        exact ls_fin s0 (.func (.func 33) #[] #[]) (congrArg (fun z => upd z 14 _) hF.symm) ⟨rfl, rfl⟩ (sub_nil _)
      obtain ⟨s3_11, hs3_11⟩ : ∃ z : Value → Sto → Prop, z = (fun v R => v = .pointer (some ⟨g1, (0 + 0), none⟩) ∧ R = s0) := ⟨_, rfl⟩
      refine have_op (l := [_, _, _, _, _, _, _, _, _, _, _, _, _, _, _, _, _, _, _]) pointer_Right.tab1 1 11 (fun sp => sp 11 = s3_11 ∧ sp 9 = s3_9) (fun sp on hA hon => ?_) (fun ops3_11 => ?_)
      · refine ⟨fun o ho vs Rs f' S' w hp hf hx hS hR hs => ?_⟩
        obtain rfl := Option.some.inj ho
        obtain ⟨hv9, hR9⟩ := (spe hA.2 hs3_9 (hp 9 (by kernel_rfl)))
        rw [hA.1, hs3_11]
        refine And.intro (fun a ha => (want_is (j := 9) (t := 13) (r := true) rfl rfl (by kernel_rfl) (((hf 9 13 (by kernel_rfl) rfl).trans hv9).trans (congrArg Value.bool (show (decide (t8 > (0 : Int))) = true from dec_t q11))) rfl a ha).trans hon.symm) (And.intro (fun _ => ?_) (fun h => by rw [hon] at h; cases h))
        have hF := fr_next (fr_next (rfl) ((hx 1 (by kernel_rfl)).trans (by kernel_rfl : (_ : Value) = .pointer (some ⟨g1, 0, none⟩)))) (((hf 9 13 (by kernel_rfl) rfl).trans hv9).trans (congrArg Value.bool (show (decide (t8 > (0 : Int))) = true from dec_t q11)))
        refine ls_fr hF ?_
        refine ls_val (v := .pointer (some ⟨g1, (0 + 0), none⟩)) rfl rfl (by kernel_rfl) (fun w => by kernel_rfl) ?_
        exact ls_fin s0 (.pointer (some ⟨g1, (0 + 0), none⟩)) (congrArg (fun z => upd z 15 _) hF.symm) ⟨rfl, rfl⟩ (sub_nil _)
      obtain ⟨s3_12, hs3_12⟩ : ∃ z : Value → Sto → Prop, z = (fun v R => v = .int .i64 a0.1 ∧ R = s0) := ⟨_, rfl⟩
      refine have_op (l := [_, _, _, _, _, _, _, _, _, _, _, _, _, _, _, _, _, _, _]) pointer_Right.tab1 1 12 (fun sp => sp 12 = s3_12 ∧ sp 9 = s3_9 ∧ sp 11 = s3_11) (fun sp on hA hon => ?_) (fun ops3_12 => ?_)
      · refine ⟨fun o ho vs Rs f' S' w hp hf hx hS hR hs => ?_⟩
        obtain rfl := Option.some.inj ho
        obtain ⟨hv9, hR9⟩ := (spe hA.2.1 hs3_9 (hp 9 (by kernel_rfl)))
        obtain ⟨hv11, hR11⟩ := (spe hA.2.2 hs3_11 (hp 11 (by kernel_rfl)))
        rw [hA.1, hs3_12]
        refine And.intro (fun a ha => (want_is (j := 9) (t := 13) (r := true) rfl rfl (by kernel_rfl) (((hf 9 13 (by kernel_rfl) rfl).trans hv9).trans (congrArg Value.bool (show (decide (t8 > (0 : Int))) = true from dec_t q11))) rfl a ha).trans hon.symm) (And.intro (fun _ => ?_) (fun h => by rw [hon] at h; cases h))
        have hF := fr_next (fr_next (rfl) (((hf 9 13 (by kernel_rfl) rfl).trans hv9).trans (congrArg Value.bool (show (decide (t8 > (0 : Int))) = true from dec_t q11)))) ((hf 11 15 (by kernel_rfl) rfl).trans hv11)
        refine ls_fr hF ?_
        refine ls_load (a0 := ⟨g1, (0 + 0), none⟩) (v := .int .i64 a0.1) (de := (TypeDesc.int .i64)) rfl rfl (by kernel_rfl) rfl (by kernel_rfl) (by kernel_rfl) (by kernel_rfl) (fun w1 hs1 => cell_step hs1.below.bw (hs.var (k := 0) ((hS 0 (by kernel_rfl)).trans (by exact rfl)) (Sub4.trans (Sub4.all _) (Sub4.head _ _)))) ?_
        exact ls_fin s0 (.int .i64 a0.1) (congrArg (fun z => upd z 16 _) hF.symm) ⟨rfl, rfl⟩ (sub_nil _)
      obtain ⟨s3_13, hs3_13⟩ : ∃ z : Value → Sto → Prop, z = (fun v R => v = .agg ⟨([Value.int .i64 a0.1] ++ ([Value.int .i64 a0.2.1] ++ ([Value.int .i64 a0.2.2.1] ++ ([Value.int .u32 a0.2.2.2.1] ++ en (Value.int .u8) a0.2.2.2.2.1))))⟩ ∧ R = s0) := ⟨_, rfl⟩
      refine have_op (l := [_, _, _, _, _, _, _, _, _, _, _, _, _, _, _, _, _, _, _]) pointer_Right.tab1 1 13 (fun sp => sp 13 = s3_13 ∧ sp 9 = s3_9) (fun sp on hA hon => ?_) (fun ops3_13 => ?_)
      · refine ⟨fun o ho vs Rs f' S' w hp hf hx hS hR hs => ?_⟩
        obtain rfl := Option.some.inj ho
        obtain ⟨hv9, hR9⟩ := (spe hA.2 hs3_9 (hp 9 (by kernel_rfl)))
        rw [hA.1, hs3_13]
        refine And.intro (fun a ha => (want_is (j := 9) (t := 13) (r := true) rfl rfl (by kernel_rfl) (((hf 9 13 (by kernel_rfl) rfl).trans hv9).trans (congrArg Value.bool (show (decide (t8 > (0 : Int))) = true from dec_t q11))) rfl a ha).trans hon.symm) (And.intro (fun _ => ?_) (fun h => by rw [hon] at h; cases h))
        have hF := fr_next (fr_next (rfl) ((hx 1 (by kernel_rfl)).trans (by kernel_rfl : (_ : Value) = .pointer (some ⟨g1, 0, none⟩)))) (((hf 9 13 (by kernel_rfl) rfl).trans hv9).trans (congrArg Value.bool (show (decide (t8 > (0 : Int))) = true from dec_t q11)))
        refine ls_fr hF ?_
        refine ls_loadagg (a := ⟨g1, 0, none⟩) (sub := ([Value.int .i64 a0.1] ++ ([Value.int .i64 a0.2.1] ++ ([Value.int .i64 a0.2.2.1] ++ ([Value.int .u32 a0.2.2.2.1] ++ en (Value.int .u8) a0.2.2.2.2.1))))) rfl rfl (by kernel_rfl) rfl (by kernel_rfl) (by kernel_rfl) (by kernel_rfl) (len_app (len1 _) (len_app (len1 _) (len_app (len1 _) (len_app (len1 _) (len_en _ a0.2.2.2.2))))) (fun w1 hs1 => Rd.step (hs.vars (k := 0) ((hS 0 (by kernel_rfl)).trans (by exact rfl)) (Sub4.all _)) hs1.below.bw) ?_
        exact ls_fin s0 (.agg ⟨([Value.int .i64 a0.1] ++ ([Value.int .i64 a0.2.1] ++ ([Value.int .i64 a0.2.2.1] ++ ([Value.int .u32 a0.2.2.2.1] ++ en (Value.int .u8) a0.2.2.2.2.1))))⟩) (congrArg (fun z => upd z 17 _) hF.symm) ⟨rfl, rfl⟩ (sub_nil _)
      obtain ⟨t12, hc13, H⟩ := bind_some H
      obtain ⟨s3_14, hs3_14⟩ : ∃ z : Value → Sto → Prop, z = (fun v R => ∃ x14 : Unit, v = .int .i64 t12 ∧ R = stl []) := ⟨_, rfl⟩
      refine have_op (l := [_, _, _, _, _, _, _, _, _, _, _, _, _, _, _, _, _, _, _]) pointer_Right.tab1 1 14 (fun sp => sp 14 = s3_14 ∧ sp 9 = s3_9 ∧ sp 13 = s3_13) (fun sp on hA hon => ?_) (fun ops3_14 => ?_)
      · refine ⟨fun o ho vs Rs f' S' w hp hf hx hS hR hs => ?_⟩
        obtain rfl := Option.some.inj ho
        obtain ⟨hv9, hR9⟩ := (spe hA.2.1 hs3_9 (hp 9 (by kernel_rfl)))
        obtain ⟨hv13, hR13⟩ := (spe hA.2.2 hs3_13 (hp 13 (by kernel_rfl)))
        rw [hA.1, hs3_14]
        refine And.intro (fun a ha => (want_is (j := 9) (t := 13) (r := true) rfl rfl (by kernel_rfl) (((hf 9 13 (by kernel_rfl) rfl).trans hv9).trans (congrArg Value.bool (show (decide (t8 > (0 : Int))) = true from dec_t q11))) rfl a ha).trans hon.symm) (And.intro (fun _ => ?_) (fun h => by rw [hon] at h; cases h))
        have hF := fr_next (fr_next (rfl) (((hf 9 13 (by kernel_rfl) rfl).trans hv9).trans (congrArg Value.bool (show (decide (t8 > (0 : Int))) = true from dec_t q11)))) ((hf 13 17 (by kernel_rfl) rfl).trans hv13)
        refine ls_fr hF ?_
        refine ls_call (fid := 16) (vals := #[.agg ⟨([Value.int .i64 a0.1] ++ ([Value.int .i64 a0.2.1] ++ ([Value.int .i64 a0.2.2.1] ++ ([Value.int .u32 a0.2.2.2.1] ++ en (Value.int .u8) a0.2.2.2.2.1))))⟩]) (X := Unit) (fun x => .int .i64 t12) (fun x => stl []) 0 rfl rfl (by kernel_rfl) (fun w => by kernel_rfl) (fun w1 hs1 => pointer_Sectors.calls k a0 t12 (bw w1) (St.refl w1)  hc13) ?_
        intro x14
        exact ls_fin (stl []) (.int .i64 t12) (congrArg (fun z => upd z 18 _) hF.symm) ⟨x14, rfl, rfl⟩ (sub_join _)
      obtain ⟨s3_15, hs3_15⟩ : ∃ z : Value → Sto → Prop, z = (fun v R => v = .int .i64 (IntKind.wrap .i64 ((8192 : Int) - t12)) ∧ R = s0) := ⟨_, rfl⟩
      refine have_op (l := [_, _, _, _, _, _, _, _, _, _, _, _, _, _, _, _, _, _, _]) pointer_Right.tab1 1 15 (fun sp => sp 15 = s3_15 ∧ sp 9 = s3_9 ∧ sp 14 = s3_14) (fun sp on hA hon => ?_) (fun ops3_15 => ?_)
      · refine ⟨fun o ho vs Rs f' S' w hp hf hx hS hR hs => ?_⟩
        obtain rfl := Option.some.inj ho
        obtain ⟨hv9, hR9⟩ := (spe hA.2.1 hs3_9 (hp 9 (by kernel_rfl)))
        obtain ⟨x14, hv14, hR14⟩ := (spe hA.2.2 hs3_14 (hp 14 (by kernel_rfl)))
        rw [hA.1, hs3_15]
        refine And.intro (fun a ha => (want_is (j := 9) (t := 13) (r := true) rfl rfl (by kernel_rfl) (((hf 9 13 (by kernel_rfl) rfl).trans hv9).trans (congrArg Value.bool (show (decide (t8 > (0 : Int))) = true from dec_t q11))) rfl a ha).trans hon.symm) (And.intro (fun _ => ?_) (fun h => by rw [hon] at h; cases h))
        have hF := fr_next (fr_next (rfl) (((hf 9 13 (by kernel_rfl) rfl).trans hv9).trans (congrArg Value.bool (show (decide (t8 > (0 : Int))) = true from dec_t q11)))) ((hf 14 18 (by kernel_rfl) rfl).trans hv14)
        refine ls_fr hF ?_
        refine ls_val (v := .int .i64 (IntKind.wrap .i64 ((8192 : Int) - t12))) rfl rfl (by kernel_rfl) (fun w => by kernel_rfl) ?_
        exact ls_fin s0 (.int .i64 (IntKind.wrap .i64 ((8192 : Int) - t12))) (congrArg (fun z => upd z 19 _) hF.symm) ⟨rfl, rfl⟩ (sub_nil _)
      refine cs_draw pointer_Right.tab1 16 1 (spl [s3_0, s3_1, s3_2, s3_3, s3_4, s3_5, s3_6, s3_7, s3_8, s3_9, s3_10, s3_11, s3_12, s3_13, s3_14, s3_15]) (onl [true, true, true, true, true, true, true, true, true, true, true, true, true, true, true, true]) (by kernel_rfl) (by kernel_rfl) (by kernel_rfl) (by kernel_rfl) (rs := [_, _, _]) rfl (by kernel_rfl) (by kernel_rfl) (all_snoc (all_snoc (all_snoc (all_snoc (all_snoc (all_snoc (all_snoc (all_snoc (all_snoc (all_snoc (all_snoc (all_snoc (all_snoc (all_snoc (all_snoc (all_snoc (all_nil) (ops3_0 _ _ rfl rfl)) (ops3_1 _ _ rfl rfl)) (ops3_2 _ _ ⟨rfl, rfl⟩ rfl)) (ops3_3 _ _ ⟨rfl, rfl, rfl⟩ rfl)) (ops3_4 _ _ ⟨rfl, rfl⟩ rfl)) (ops3_5 _ _ ⟨rfl, rfl⟩ rfl)) (ops3_6 _ _ ⟨rfl, rfl, rfl⟩ rfl)) (ops3_7 _ _ ⟨rfl, rfl, rfl⟩ rfl)) (ops3_8 _ _ ⟨rfl, rfl, rfl⟩ rfl)) (ops3_9 _ _ ⟨rfl, rfl⟩ rfl)) (ops3_10 _ _ ⟨rfl, rfl⟩ rfl)) (ops3_11 _ _ ⟨rfl, rfl⟩ rfl)) (ops3_12 _ _ ⟨rfl, rfl, rfl⟩ rfl)) (ops3_13 _ _ ⟨rfl, rfl⟩ rfl)) (ops3_14 _ _ ⟨rfl, rfl, rfl⟩ rfl)) (ops3_15 _ _ ⟨rfl, rfl, rfl⟩ rfl)) ?_
      intro vs Rs f' S' hp hf hx hS hR
      obtain ⟨x6, hv3, hR3⟩ := (spe rfl hs3_3 (hp 3 (by kernel_rfl)))
      obtain ⟨x10, hv6, hR6⟩ := (spe rfl hs3_6 (hp 6 (by kernel_rfl)))
      obtain ⟨hv9, hR9⟩ := (spe rfl hs3_9 (hp 9 (by kernel_rfl)))
      obtain ⟨hv10, hR10⟩ := (spe rfl hs3_10 (hp 10 (by kernel_rfl)))
      obtain ⟨hv12, hR12⟩ := (spe rfl hs3_12 (hp 12 (by kernel_rfl)))
      obtain ⟨x14, hv14, hR14⟩ := (spe rfl hs3_14 (hp 14 (by kernel_rfl)))
      obtain ⟨hv15, hR15⟩ := (spe rfl hs3_15 (hp 15 (by kernel_rfl)))
      refine ls_fr (F := upd (upd (upd (upd f' 13 (.bool (decide (t8 > (0 : Int))))) 14 (.func (.func 33) #[] #[])) 16 (.int .i64 a0.1)) 19 (.int .i64 (IntKind.wrap .i64 ((8192 : Int) - t12)))) (fr_next (fr_next (fr_next (fr_next (rfl) ((hf 9 13 (by kernel_rfl) rfl).trans hv9)) ((hf 10 14 (by kernel_rfl) rfl).trans hv10)) ((hf 12 16 (by kernel_rfl) rfl).trans hv12)) ((hf 15 19 (by kernel_rfl) rfl).trans hv15)) ?_
      refine ls_sub (s0) (sub_nil _) ?_
      refine ls_know (c := true) (dec_t q11) 13 (by kernel_rfl) ?_
      refine ls_on (j := 9) (t := 13) (b := true) rfl rfl (by kernel_rfl) (by kernel_rfl) ?_
      obtain ⟨t15, hc16, H⟩ := bind_some H
      refine ls_callb (fid := 33) (vals := #[.int .i64 a0.1, .int .i64 (2 : Int), .int .i64 (IntKind.wrap .i64 ((8192 : Int) - t12))]) (X := Unit) (fun x => .bool t15) (fun x => stl []) [] [] [] [] 129 rfl rfl (by kernel_rfl) (fun w => by kernel_rfl) trivial trivial (by decide) (fun w hs hb => pointer_Right_1.calls k a0.1 (2 : Int) (IntKind.wrap .i64 ((8192 : Int) - t12)) t15 (lent b w [] []) hb  hc16) ?_
      intro x17
      refine ls_val (v := .bool t15) rfl rfl (by kernel_rfl) (fun w => by kernel_rfl) ?_
      refine ls_val (v := .bool t15) rfl rfl (by kernel_rfl) (fun w => by kernel_rfl) ?_
      refine ls_end ?_
      refine qn_then ?_
      refine cs_ret' ?_
      obtain rfl := Option.some.inj H
      refine qr_res (rs := [_]) rfl (fun w' hs => ⟨[.bool t15], (res_tmp (by kernel_rfl) (.nil)), (), rfl, hs.pick (ts := []) (cs := []) trivial (by decide)⟩)
    · replace H := ite_f q11 H
      refine cs_draw pointer_Right.tab1 16 1 (spl [s3_0, s3_1, s3_2, s3_3, s3_4, s3_5, s3_6, s3_7, s3_8, s3_9, spu, spu, spu, spu, spu, spu]) (onl [true, true, true, true, true, true, true, true, true, true, false, false, false, false, false, false]) (by kernel_rfl) (by kernel_rfl) (by kernel_rfl) (by kernel_rfl) (rs := [_, _, _]) rfl (by kernel_rfl) (by kernel_rfl) (all_snoc (all_snoc (all_snoc (all_snoc (all_snoc (all_snoc (all_snoc (all_snoc (all_snoc (all_snoc (all_snoc (all_snoc (all_snoc (all_snoc (all_snoc (all_snoc (all_nil) (ops3_0 _ _ rfl rfl)) (ops3_1 _ _ rfl rfl)) (ops3_2 _ _ ⟨rfl, rfl⟩ rfl)) (ops3_3 _ _ ⟨rfl, rfl, rfl⟩ rfl)) (ops3_4 _ _ ⟨rfl, rfl⟩ rfl)) (ops3_5 _ _ ⟨rfl, rfl⟩ rfl)) (ops3_6 _ _ ⟨rfl, rfl, rfl⟩ rfl)) (ops3_7 _ _ ⟨rfl, rfl, rfl⟩ rfl)) (ops3_8 _ _ ⟨rfl, rfl, rfl⟩ rfl)) (ops3_9 _ _ ⟨rfl, rfl⟩ rfl)) (op_offi 10 9 13 true rfl rfl (by kernel_rfl) (by kernel_rfl) rfl (fun v R h => by rw [hs3_9] at h; obtain ⟨h, _⟩ := h; exact h.trans (congrArg Value.bool (show (decide (t8 > (0 : Int))) = false from dec_f q11))) rfl rfl)) (op_offi 11 9 13 true rfl rfl (by kernel_rfl) (by kernel_rfl) rfl (fun v R h => by rw [hs3_9] at h; obtain ⟨h, _⟩ := h; exact h.trans (congrArg Value.bool (show (decide (t8 > (0 : Int))) = false from dec_f q11))) rfl rfl)) (op_offi 12 9 13 true rfl rfl (by kernel_rfl) (by kernel_rfl) rfl (fun v R h => by rw [hs3_9] at h; obtain ⟨h, _⟩ := h; exact h.trans (congrArg Value.bool (show (decide (t8 > (0 : Int))) = false from dec_f q11))) rfl rfl)) (op_offi 13 9 13 true rfl rfl (by kernel_rfl) (by kernel_rfl) rfl (fun v R h => by rw [hs3_9] at h; obtain ⟨h, _⟩ := h; exact h.trans (congrArg Value.bool (show (decide (t8 > (0 : Int))) = false from dec_f q11))) rfl rfl)) (op_offi 14 9 13 true rfl rfl (by kernel_rfl) (by kernel_rfl) rfl (fun v R h => by rw [hs3_9] at h; obtain ⟨h, _⟩ := h; exact h.trans (congrArg Value.bool (show (decide (t8 > (0 : Int))) = false from dec_f q11))) rfl rfl)) (op_offi 15 9 13 true rfl rfl (by kernel_rfl) (by kernel_rfl) rfl (fun v R h => by rw [hs3_9] at h; obtain ⟨h, _⟩ := h; exact h.trans (congrArg Value.bool (show (decide (t8 > (0 : Int))) = false from dec_f q11))) rfl rfl)) ?_
      intro vs Rs f' S' hp hf hx hS hR
      obtain ⟨x6, hv3, hR3⟩ := (spe rfl hs3_3 (hp 3 (by kernel_rfl)))
      obtain ⟨x10, hv6, hR6⟩ := (spe rfl hs3_6 (hp 6 (by kernel_rfl)))
      obtain ⟨hv9, hR9⟩ := (spe rfl hs3_9 (hp 9 (by kernel_rfl)))
      obtain ⟨hv10, hR10⟩ := (spe rfl rfl (hp 10 (by kernel_rfl)) : spu _ _)
      obtain ⟨hv12, hR12⟩ := (spe rfl rfl (hp 12 (by kernel_rfl)) : spu _ _)
      obtain ⟨hv15, hR15⟩ := (spe rfl rfl (hp 15 (by kernel_rfl)) : spu _ _)
      refine ls_fr (F := upd f' 13 (.bool (decide (t8 > (0 : Int))))) (fr_next (rfl) ((hf 9 13 (by kernel_rfl) rfl).trans hv9)) ?_
      refine ls_sub (s0) (sub_nil _) ?_
      refine ls_know (c := false) (dec_f q11) 13 (by kernel_rfl) ?_
      refine ls_off (j := 9) (t := 13) (b := true) (c := false) rfl rfl (by kernel_rfl) (by kernel_rfl) rfl rfl (by kernel_rfl) ?_
      refine ls_val (v := .bool false) rfl rfl (by kernel_rfl) (fun w => by kernel_rfl) ?_
      refine ls_val (v := .bool false) rfl rfl (by kernel_rfl) (fun w => by kernel_rfl) ?_
      refine ls_end ?_
      refine qn_then ?_
      refine cs_ret' ?_
      obtain rfl := Option.some.inj H
      refine qr_res (rs := [_]) rfl (fun w' hs => ⟨[.bool false], (res_tmp (by kernel_rfl) (.nil)), (), rfl, hs.pick (ts := []) (cs := []) trivial (by decide)⟩)
  · replace H := ite_f q7 H
    obtain ⟨s3_8, hs3_8⟩ : ∃ z : Value → Sto → Prop, z = (fun v R => v = .bool false ∧ R = s0) := ⟨_, rfl⟩
    refine have_op (l := [_, _, _, _, _, _, _, _, _, _, _, _, _, _, _, _, _, _, _]) pointer_Right.tab1 1 8 (fun sp => sp 8 = s3_8 ∧ sp 4 = s3_4 ∧ sp 7 = spu) (fun sp on hA hon => ?_) (fun ops3_8 => ?_)
    · refine ⟨fun o ho vs Rs f' S' w hp hf hx hS hR hs => ?_⟩
      obtain rfl := Option.some.inj ho
      obtain ⟨hv4, hR4⟩ := (spe hA.2.1 hs3_4 (hp 4 (by kernel_rfl)))
      obtain ⟨hv7, hR7⟩ := (spe hA.2.2 rfl (hp 7 (by kernel_rfl)) : spu _ _)
      rw [hA.1, hs3_8]
      refine And.intro (fun a ha => (want_none rfl a ha).trans hon.symm) (And.intro (fun _ => ?_) (fun h => by rw [hon] at h; cases h))
      have hF := fr_next (fr_next (rfl) (((hf 4 8 (by kernel_rfl) rfl).trans hv4).trans (congrArg Value.bool (show t4 = false from Bool.eq_false_iff.mpr q7)))) ((hf 7 11 (by kernel_rfl) rfl).trans hv7)
      refine ls_fr hF ?_
      refine ls_val (v := .bool false) rfl rfl (by kernel_rfl) (fun w => by kernel_rfl) ?_
      exact ls_fin s0 (.bool false) (congrArg (fun z => upd z 12 _) hF.symm) ⟨rfl, rfl⟩ (sub_nil _)
    obtain ⟨s3_9, hs3_9⟩ : ∃ z : Value → Sto → Prop, z = (fun v R => v = .bool false ∧ R = s0) := ⟨_, rfl⟩
    refine have_op (l := [_, _, _, _, _, _, _, _, _, _, _, _, _, _, _, _, _, _, _]) pointer_Right.tab1 1 9 (fun sp => sp 9 = s3_9 ∧ sp 8 = s3_8) (fun sp on hA hon => ?_) (fun ops3_9 => ?_)
    · refine ⟨fun o ho vs Rs f' S' w hp hf hx hS hR hs => ?_⟩
      obtain rfl := Option.some.inj ho
      obtain ⟨hv8, hR8⟩ := (spe hA.2 hs3_8 (hp 8 (by kernel_rfl)))
      rw [hA.1, hs3_9]
      refine And.intro (fun a ha => (want_none rfl a ha).trans hon.symm) (And.intro (fun _ => ?_) (fun h => by rw [hon] at h; cases h))
      have hF := fr_next (rfl) ((hf 8 12 (by kernel_rfl) rfl).trans hv8)
      refine ls_fr hF ?_
      refine ls_val (v := .bool false) rfl rfl (by kernel_rfl) (fun w => by kernel_rfl) ?_
      exact ls_fin s0 (.bool false) (congrArg (fun z => upd z 13 _) hF.symm) ⟨rfl, rfl⟩ (sub_nil _)
    refine cs_draw pointer_Right.tab1 16 1 (spl [s3_0, s3_1, s3_2, s3_3, s3_4, spu, spu, spu, s3_8, s3_9, spu, spu, spu, spu, spu, spu]) (onl [true, true, true, true, true, false, false, false, true, true, false, false, false, false, false, false]) (by kernel_rfl) (by kernel_rfl) (by kernel_rfl) (by kernel_rfl) (rs := [_, _, _]) rfl (by kernel_rfl) (by kernel_rfl) (all_snoc (all_snoc (all_snoc (all_snoc (all_snoc (all_snoc (all_snoc (all_snoc (all_snoc (all_snoc (all_snoc (all_snoc (all_snoc (all_snoc (all_snoc (all_snoc (all_nil) (ops3_0 _ _ rfl rfl)) (ops3_1 _ _ rfl rfl)) (ops3_2 _ _ ⟨rfl, rfl⟩ rfl)) (ops3_3 _ _ ⟨rfl, rfl, rfl⟩ rfl)) (ops3_4 _ _ ⟨rfl, rfl⟩ rfl)) (op_offi 5 4 8 true rfl rfl (by kernel_rfl) (by kernel_rfl) rfl (fun v R h => by rw [hs3_4] at h; obtain ⟨h, _⟩ := h; exact h.trans (congrArg Value.bool (show t4 = false from Bool.eq_false_iff.mpr q7))) rfl rfl)) (op_offi 6 4 8 true rfl rfl (by kernel_rfl) (by kernel_rfl) rfl (fun v R h => by rw [hs3_4] at h; obtain ⟨h, _⟩ := h; exact h.trans (congrArg Value.bool (show t4 = false from Bool.eq_false_iff.mpr q7))) rfl rfl)) (op_offi 7 4 8 true rfl rfl (by kernel_rfl) (by kernel_rfl) rfl (fun v R h => by rw [hs3_4] at h; obtain ⟨h, _⟩ := h; exact h.trans (congrArg Value.bool (show t4 = false from Bool.eq_false_iff.mpr q7))) rfl rfl)) (ops3_8 _ _ ⟨rfl, rfl, rfl⟩ rfl)) (ops3_9 _ _ ⟨rfl, rfl⟩ rfl)) (op_offi 10 9 13 true rfl rfl (by kernel_rfl) (by kernel_rfl) rfl (fun v R h => by rw [hs3_9] at h; obtain ⟨h, _⟩ := h; exact h) rfl rfl)) (op_offi 11 9 13 true rfl rfl (by kernel_rfl) (by kernel_rfl) rfl (fun v R h => by rw [hs3_9] at h; obtain ⟨h, _⟩ := h; exact h) rfl rfl)) (op_offi 12 9 13 true rfl rfl (by kernel_rfl) (by kernel_rfl) rfl (fun v R h => by rw [hs3_9] at h; obtain ⟨h, _⟩ := h; exact h) rfl rfl)) (op_offi 13 9 13 true rfl rfl (by kernel_rfl) (by kernel_rfl) rfl (fun v R h => by rw [hs3_9] at h; obtain ⟨h, _⟩ := h; exact h) rfl rfl)) (op_offi 14 9 13 true rfl rfl (by kernel_rfl) (by kernel_rfl) rfl (fun v R h => by rw [hs3_9] at h; obtain ⟨h, _⟩ := h; exact h) rfl rfl)) (op_offi 15 9 13 true rfl rfl (by kernel_rfl) (by kernel_rfl) rfl (fun v R h => by rw [hs3_9] at h; obtain ⟨h, _⟩ := h; exact h) rfl rfl)) ?_
    intro vs Rs f' S' hp hf hx hS hR
    obtain ⟨x6, hv3, hR3⟩ := (spe rfl hs3_3 (hp 3 (by kernel_rfl)))
    obtain ⟨hv9, hR9⟩ := (spe rfl hs3_9 (hp 9 (by kernel_rfl)))
    obtain ⟨hv10, hR10⟩ := (spe rfl rfl (hp 10 (by kernel_rfl)) : spu _ _)
    obtain ⟨hv12, hR12⟩ := (spe rfl rfl (hp 12 (by kernel_rfl)) : spu _ _)
    obtain ⟨hv15, hR15⟩ := (spe rfl rfl (hp 15 (by kernel_rfl)) : spu _ _)
    refine ls_fr (F := upd f' 13 (.bool false)) (fr_next (rfl) ((hf 9 13 (by kernel_rfl) rfl).trans hv9)) ?_
    refine ls_sub (s0) (sub_nil _) ?_
    refine ls_off (j := 9) (t := 13) (b := true) (c := false) rfl rfl (by kernel_rfl) (by kernel_rfl) rfl rfl (by kernel_rfl) ?_
    refine ls_val (v := .bool false) rfl rfl (by kernel_rfl) (fun w => by kernel_rfl) ?_
    refine ls_val (v := .bool false) rfl rfl (by kernel_rfl) (fun w => by kernel_rfl) ?_
    refine ls_end ?_
    refine qn_then ?_
    refine cs_ret' ?_
    obtain rfl := Option.some.inj H
    refine qr_res (rs := [_]) rfl (fun w' hs => ⟨[.bool false], (res_tmp (by kernel_rfl) (.nil)), (), rfl, hs.pick (ts := []) (cs := []) trivial (by decide)⟩)

/-! ### shadowbox/codec.Take: function 31 -/
def codec_Take.lo2 (l0 : List Int) (a1 : Int) (xl7 : List Int) : Nat → Int → Int → Option (Int × (List Int) × Bool)
  | 0, _, _ => none
  | k2 + 1, x4_2, x25_2 => (if x25_2 < (xl7.length : Int) then (if 0 ≤ x25_2 then lt (IntKind.wrap .u64 ((xl7).getD (x25_2).toNat (0 : Int))) fun y16 => (if 0 ≤ IntKind.wrap .i64 ((8 : Int) * x25_2) then lt (shlv .u64 y16 (IntKind.wrap .i64 ((8 : Int) * x25_2))) fun y19 => (codec_Take.lo2 l0 a1 xl7 k2) (bits .or .u64 x4_2 y19) (IntKind.wrap .i64 (x25_2 + (1 : Int))) else none) else none) else lt (l0.drop (a1).toNat) fun xl26 => (if (([] : List Int).length + xl26.length) * 1 ≤ 140737488355328 then some (x4_2, (([] : List Int) ++ xl26), true) else none))
def codec_Take.jo1 (k : Nat) (l0 : List Int) (a1 : Int) (x4_1 : Int) : Option (Int × (List Int) × Bool) := (if 0 ≤ a1 then (if a1 ≤ (l0.length : Int) then lt (l0.take (a1).toNat) fun xl7 => codec_Take.lo2 l0 a1 xl7 k x4_1 (0 : Int) else none) else none)
def codec_Take.f (k : Nat) (l0 : List Int) (a1 : Int) : Option (Int × (List Int) × Bool) :=
  (if a1 < (1 : Int) then some ((0 : Int), ([] : List Int), false) else (if a1 > (8 : Int) then some ((0 : Int), ([] : List Int), false) else (if (l0.length : Int) < a1 then some ((0 : Int), ([] : List Int), false) else (codec_Take.jo1 k l0 a1) (0 : Int))))
set_option maxRecDepth 100000 in
set_option maxHeartbeats 4000000 in
theorem codec_Take.calls (k : Nat) (A0 : Option Addr) (c0 : Nat) (l0 : List Int) (a1 : Int) (r : Int × (List Int) × Bool) (b : Bs) (hs0 : St b (stl []) b.w) (R0 : Ro b A0 (em (Ec.int 5 .u8) l0)) (C0 : l0.length ≤ c0) (H : codec_Take.f k l0 a1 = some r) :
    Calls Try.prog 31 #[.slice A0 l0.length c0, .int .i64 a1] b.w fun e w' => ∃ x : (Option Addr × Nat), e = .returned (.tuple #[.int .u64 r.1, .slice x.1 r.2.1.length x.2, .bool r.2.2]) ∧ St b (stl [Ck.sl (Ec.int 5 .u8) x.1 x.2 r.2.1]) w' := by
  unfold codec_Take.f at H
  refine enterb (n := 44) Try.func31 rfl (by kernel_rfl) (by kernel_rfl) hs0 ?_
  refine cs_sub (s0) (sub_nil _) ?_
  refine cs_seq ?_
  refine cs_region (l := [_, _, _]) ?_
  refine ls_val (v := .int .u64 (0 : Int)) rfl rfl (by kernel_rfl) (fun w => by kernel_rfl) ?_
  refine ls_val (v := .slice none 0 0) rfl rfl (by kernel_rfl) (fun w => by kernel_rfl) ?_
  refine ls_val (v := .bool false) rfl rfl (by kernel_rfl) (fun w => by kernel_rfl) ?_
  refine ls_end ?_
  refine qn_then ?_
  refine cs_cut (fun f S => ∃ (fR : Fr) (x4_1 : Int), f = upd (upd (upd fR 0 (.slice A0 l0.length c0)) 1 (.int .i64 a1)) 4 (.int .u64 x4_1) ∧ S = s0 ∧ codec_Take.jo1 k l0 a1 x4_1 = some r) ?_ ?_
  · skip
    refine cs_seq ?_
    refine cs_region (l := [_, _, _, _, _, _, _, _, _, _, _, _]) ?_
    refine ls_val (v := .int .i64 a1) rfl rfl (by kernel_rfl) (fun w => by kernel_rfl) ?_
    refine ls_val (v := .bool (decide (a1 < (1 : Int)))) rfl rfl (by kernel_rfl) (fun w => by kernel_rfl) ?_
    refine ls_val (v := .bool (decide (a1 < (1 : Int)))) rfl rfl (by kernel_rfl) (fun w => by kernel_rfl) ?_
    by_cases q34 : a1 < (1 : Int)
    · replace H := ite_t q34 H
      refine ls_know (c := true) (dec_t q34) 11 (by kernel_rfl) ?_
      refine ls_off (j := 2) (t := 11) (b := false) (c := true) rfl rfl (by kernel_rfl) (by kernel_rfl) rfl rfl (by kernel_rfl) ?_
      refine ls_off (j := 2) (t := 11) (b := false) (c := true) rfl rfl (by kernel_rfl) (by kernel_rfl) rfl rfl (by kernel_rfl) ?_
      refine ls_val (v := .bool true) rfl rfl (by kernel_rfl) (fun w => by kernel_rfl) ?_
      refine ls_val (v := .bool true) rfl rfl (by kernel_rfl) (fun w => by kernel_rfl) ?_
      refine ls_off (j := 6) (t := 15) (b := false) (c := true) rfl rfl (by kernel_rfl) (by kernel_rfl) rfl rfl (by kernel_rfl) ?_
      refine ls_off (j := 6) (t := 15) (b := false) (c := true) rfl rfl (by kernel_rfl) (by kernel_rfl) rfl rfl (by kernel_rfl) ?_
      refine ls_off (j := 6) (t := 15) (b := false) (c := true) rfl rfl (by kernel_rfl) (by kernel_rfl) rfl rfl (by kernel_rfl) ?_
      refine ls_off (j := 6) (t := 15) (b := false) (c := true) rfl rfl (by kernel_rfl) (by kernel_rfl) rfl rfl (by kernel_rfl) ?_
      refine ls_val (v := .bool true) rfl rfl (by kernel_rfl) (fun w => by kernel_rfl) ?_
      refine ls_end ?_
      refine qn_then ?_
      refine cs_true (by kernel_rfl) ?_
      refine cs_seq ?_
      refine cs_region (l := [_, _, _]) ?_
      refine ls_val (v := .int .u64 (0 : Int)) rfl rfl (by kernel_rfl) (fun w => by kernel_rfl) ?_
      refine ls_val (v := .slice none 0 0) rfl rfl (by kernel_rfl) (fun w => by kernel_rfl) ?_
      refine ls_val (v := .bool false) rfl rfl (by kernel_rfl) (fun w => by kernel_rfl) ?_
      refine ls_end ?_
      refine qn_then ?_
      refine cs_ret' ?_
      refine qr_then ?_
      refine qr_nilrow 0 (Ec.int 5 .u8) ?_
      obtain rfl := Option.some.inj H
      refine qr_res (rs := [_, _, _]) rfl (fun w' hs => ⟨[.int .u64 (0 : Int), .slice none 0 0, .bool false], (res_tmp (by kernel_rfl) (res_tmp (by kernel_rfl) (res_tmp (by kernel_rfl) (.nil)))), (none, 0), rfl, hs.pick (ts := [0]) (cs := [Ck.sl (Ec.int 5 .u8) none 0 ([] : List Int)]) ⟨by exact rfl, trivial⟩ (by decide)⟩)
    · replace H := ite_f q34 H
      refine ls_know (c := false) (dec_f q34) 11 (by kernel_rfl) ?_
      refine ls_on (j := 2) (t := 11) (b := false) rfl rfl (by kernel_rfl) (by kernel_rfl) ?_
      refine ls_val (v := .int .i64 a1) rfl rfl (by kernel_rfl) (fun w => by kernel_rfl) ?_
      refine ls_on (j := 2) (t := 11) (b := false) rfl rfl (by kernel_rfl) (by kernel_rfl) ?_
      refine ls_val (v := .bool (decide (a1 > (8 : Int)))) rfl rfl (by kernel_rfl) (fun w => by kernel_rfl) ?_
      refine ls_val (v := .bool (decide (a1 > (8 : Int)))) rfl rfl (by kernel_rfl) (fun w => by kernel_rfl) ?_
      refine ls_val (v := .bool (decide (a1 > (8 : Int)))) rfl rfl (by kernel_rfl) (fun w => by kernel_rfl) ?_
      by_cases q35 : a1 > (8 : Int)
      · replace H := ite_t q35 H
        refine ls_know (c := true) (dec_t q35) 15 (by kernel_rfl) ?_
        refine ls_off (j := 6) (t := 15) (b := false) (c := true) rfl rfl (by kernel_rfl) (by kernel_rfl) rfl rfl (by kernel_rfl) ?_
        refine ls_off (j := 6) (t := 15) (b := false) (c := true) rfl rfl (by kernel_rfl) (by kernel_rfl) rfl rfl (by kernel_rfl) ?_
        refine ls_off (j := 6) (t := 15) (b := false) (c := true) rfl rfl (by kernel_rfl) (by kernel_rfl) rfl rfl (by kernel_rfl) ?_
        refine ls_off (j := 6) (t := 15) (b := false) (c := true) rfl rfl (by kernel_rfl) (by kernel_rfl) rfl rfl (by kernel_rfl) ?_
        refine ls_val (v := .bool true) rfl rfl (by kernel_rfl) (fun w => by kernel_rfl) ?_
        refine ls_end ?_
        refine qn_then ?_
        refine cs_true (by kernel_rfl) ?_
        refine cs_seq ?_
        refine cs_region (l := [_, _, _]) ?_
        refine ls_val (v := .int .u64 (0 : Int)) rfl rfl (by kernel_rfl) (fun w => by kernel_rfl) ?_
        refine ls_val (v := .slice none 0 0) rfl rfl (by kernel_rfl) (fun w => by kernel_rfl) ?_
        refine ls_val (v := .bool false) rfl rfl (by kernel_rfl) (fun w => by kernel_rfl) ?_
        refine ls_end ?_
        refine qn_then ?_
        refine cs_ret' ?_
        refine qr_then ?_
        refine qr_nilrow 0 (Ec.int 5 .u8) ?_
        obtain rfl := Option.some.inj H
        refine qr_res (rs := [_, _, _]) rfl (fun w' hs => ⟨[.int .u64 (0 : Int), .slice none 0 0, .bool false], (res_tmp (by kernel_rfl) (res_tmp (by kernel_rfl) (res_tmp (by kernel_rfl) (.nil)))), (none, 0), rfl, hs.pick (ts := [0]) (cs := [Ck.sl (Ec.int 5 .u8) none 0 ([] : List Int)]) ⟨by exact rfl, trivial⟩ (by decide)⟩)
      · replace H := ite_f q35 H
        refine ls_know (c := false) (dec_f q35) 15 (by kernel_rfl) ?_
        refine ls_on (j := 6) (t := 15) (b := false) rfl rfl (by kernel_rfl) (by kernel_rfl) ?_
        refine ls_val (v := .slice A0 l0.length c0) rfl rfl (by kernel_rfl) (fun w => by kernel_rfl) ?_
        refine ls_on (j := 6) (t := 15) (b := false) rfl rfl (by kernel_rfl) (by kernel_rfl) ?_
        refine ls_val (v := .int .i64 (l0.length : Int)) rfl rfl (by kernel_rfl) (fun w => by kernel_rfl) ?_
        refine ls_on (j := 6) (t := 15) (b := false) rfl rfl (by kernel_rfl) (by kernel_rfl) ?_
        refine ls_val (v := .int .i64 a1) rfl rfl (by kernel_rfl) (fun w => by kernel_rfl) ?_
        refine ls_on (j := 6) (t := 15) (b := false) rfl rfl (by kernel_rfl) (by kernel_rfl) ?_
        refine ls_val (v := .bool (decide ((l0.length : Int) < a1))) rfl rfl (by kernel_rfl) (fun w => by kernel_rfl) ?_
        refine ls_val (v := .bool (decide ((l0.length : Int) < a1))) rfl rfl (by kernel_rfl) (fun w => by kernel_rfl) ?_
        refine ls_end ?_
        refine qn_then ?_
        by_cases q36 : (l0.length : Int) < a1
        · replace H := ite_t q36 H
          refine cs_know (c := true) (dec_t q36) 20 (by kernel_rfl) ?_
          refine cs_true (by kernel_rfl) ?_
          refine cs_seq ?_
          refine cs_region (l := [_, _, _]) ?_
          refine ls_val (v := .int .u64 (0 : Int)) rfl rfl (by kernel_rfl) (fun w => by kernel_rfl) ?_
          refine ls_val (v := .slice none 0 0) rfl rfl (by kernel_rfl) (fun w => by kernel_rfl) ?_
          refine ls_val (v := .bool false) rfl rfl (by kernel_rfl) (fun w => by kernel_rfl) ?_
          refine ls_end ?_
          refine qn_then ?_
          refine cs_ret' ?_
          refine qr_then ?_
          refine qr_nilrow 0 (Ec.int 5 .u8) ?_
          obtain rfl := Option.some.inj H
          refine qr_res (rs := [_, _, _]) rfl (fun w' hs => ⟨[.int .u64 (0 : Int), .slice none 0 0, .bool false], (res_tmp (by kernel_rfl) (res_tmp (by kernel_rfl) (res_tmp (by kernel_rfl) (.nil)))), (none, 0), rfl, hs.pick (ts := [0]) (cs := [Ck.sl (Ec.int 5 .u8) none 0 ([] : List Int)]) ⟨by exact rfl, trivial⟩ (by decide)⟩)
        · replace H := ite_f q36 H
          refine cs_know (c := false) (dec_f q36) 20 (by kernel_rfl) ?_
          refine cs_false (by kernel_rfl) ?_
          refine cs_skip' ?_
          refine qn_meet (s0) ⟨_, (0 : Int), fr_next (fr_next (fr_next (rfl) (by kernel_rfl)) (by kernel_rfl)) (by kernel_rfl), rfl, H⟩ (sub_nil _)
  · rintro f S ⟨fr1, x4_1, rfl, rfl, H⟩
    replace H : ((if 0 ≤ a1 then (if a1 ≤ (l0.length : Int) then lt (l0.take (a1).toNat) fun xl7 => codec_Take.lo2 l0 a1 xl7 k x4_1 (0 : Int) else none) else none)) = some r := H
    refine cs_seq ?_
    refine cs_seq ?_
    refine cs_region (l := [_, _, _, _, _]) ?_
    refine ls_val (v := .slice A0 l0.length c0) rfl rfl (by kernel_rfl) (fun w => by kernel_rfl) ?_
    refine ls_val (v := .int .i64 a1) rfl rfl (by kernel_rfl) (fun w => by kernel_rfl) ?_
    obtain ⟨q1, H⟩ := ite_need H
    obtain ⟨q2, H⟩ := ite_need H
    obtain ⟨xl7, hy8, H⟩ := lt_some H
    have hz10 : 0 ≤ (a1).toNat := by omega
    have hz11 : (a1).toNat ≤ l0.length := by omega
    obtain ⟨xA3, xc4, he9, xC6, xR5⟩ := cut_at (A := A0) (c := c0) (l := l0) (Ec.int 5 .u8) 0 ((a1).toNat) hz10 hz11 C0 R0 (m := xl7) (by rw [← hy8] <;> simp) (z := 1) rfl
    refine ls_cutv (A := A0) (c := c0) (m := l0.length) (z := 1) (e := 5) (a := 0) (b := (a1).toNat) rfl rfl (by kernel_rfl) rfl (by kernel_rfl) (by kernel_rfl) (by kernel_rfl) (.inl ⟨rfl, rfl⟩) (.inr ⟨.i64, by rw [Int.toNat_of_nonneg (by first | assumption | omega)]; kernel_rfl⟩) hz10 hz11 C0 he9 ?_
    refine ls_val (v := .int .i64 (xl7.length : Int)) rfl rfl (by kernel_rfl) (fun w => by kernel_rfl) ?_
    refine ls_val (v := .int .i64 (0 : Int)) rfl rfl (by kernel_rfl) (fun w => by kernel_rfl) ?_
    refine ls_end ?_
    refine qn_then ?_
    refine cs_block ?_
    refine cs_sub (s0) (sub_nil _) ?_
    refine cs_loop (fun kk f S => ∃ (fR : Fr) (x4_2 : Int) (x25_2 : Int), f = upd (upd (upd (upd (upd (upd fR 0 (.slice A0 l0.length c0)) 1 (.int .i64 a1)) 4 (.int .u64 x4_2)) 23 (.slice xA3 xl7.length xc4)) 24 (.int .i64 (xl7.length : Int))) 25 (.int .i64 x25_2) ∧ S = s0 ∧ codec_Take.lo2 l0 a1 xl7 kk x4_2 x25_2 = some r) k ?_ ?_ ?_
    · exact ⟨_, x4_1, (0 : Int), fr_next (fr_next (fr_next (fr_next (fr_next (fr_next (rfl) (by kernel_rfl)) (by kernel_rfl)) (by kernel_rfl)) (by kernel_rfl)) (by kernel_rfl)) (by kernel_rfl), rfl, H⟩
    · rintro f S ⟨fr2, x4_2, x25_2, rfl, rfl, H⟩; cases H
    · rintro k2 f S ⟨fr2, x4_2, x25_2, rfl, rfl, H⟩
      replace H : ((if x25_2 < (xl7.length : Int) then (if 0 ≤ x25_2 then lt (IntKind.wrap .u64 ((xl7).getD (x25_2).toNat (0 : Int))) fun y16 => (if 0 ≤ IntKind.wrap .i64 ((8 : Int) * x25_2) then lt (shlv .u64 y16 (IntKind.wrap .i64 ((8 : Int) * x25_2))) fun y19 => (codec_Take.lo2 l0 a1 xl7 k2) (bits .or .u64 x4_2 y19) (IntKind.wrap .i64 (x25_2 + (1 : Int))) else none) else none) else lt (l0.drop (a1).toNat) fun xl26 => (if (([] : List Int).length + xl26.length) * 1 ≤ 140737488355328 then some (x4_2, (([] : List Int) ++ xl26), true) else none))) = some r := H
      refine cs_seq ?_
      refine cs_region (l := [_]) ?_
      refine ls_val (v := .bool (decide (x25_2 < (xl7.length : Int)))) rfl rfl (by kernel_rfl) (fun w => by kernel_rfl) ?_
      refine ls_end ?_
      refine qn_then ?_
      refine cs_seq ?_
      by_cases q12 : x25_2 < (xl7.length : Int)
      · replace H := ite_t q12 H
        refine cs_know (c := true) (dec_t q12) 26 (by kernel_rfl) ?_
        refine cs_true (by kernel_rfl) ?_
        refine cs_skip' ?_
        refine qn_then ?_
        refine cs_seq ?_
        refine cs_block ?_
        refine cs_seq ?_
        refine cs_region (l := [_, _, _, _, _]) ?_
        refine ls_val (v := .int .i64 x25_2) rfl rfl (by kernel_rfl) (fun w => by kernel_rfl) ?_
        obtain ⟨q13, H⟩ := ite_need H
        obtain ⟨ad14, hA15⟩ := ido_at (T := (Ec.int 5 .u8)) (l := xl7) (i := x25_2) xR5 q13 q12
        refine ls_idxv (Ec.int 5 .u8) (A := xA3) (c := xc4) (l := xl7) (k := .i64) (i := x25_2) (z := 1) (ad := ad14) rfl rfl (by kernel_rfl) hA15 rfl (by kernel_rfl) (by kernel_rfl) (by kernel_rfl) (by kernel_rfl) q13 q12 ?_
        refine ls_load (a0 := (ad14.add ((x25_2).toNat * 1))) (v := .int .u8 ((xl7).getD (x25_2).toNat (0 : Int))) (de := (TypeDesc.int .u8)) rfl rfl (by kernel_rfl) rfl (by kernel_rfl) (by kernel_rfl) (by kernel_rfl) (fun w hs => (hs.old xR5).at hA15 (em_sub (Ec.int 5 .u8) xl7 (i := (x25_2).toNat) (by have h0 : (0 : Int) ≤ x25_2 := q13; have h1 : x25_2 < (xl7.length : Int) := q12; omega))) ?_
        refine ls_val (v := .int .i64 x25_2) rfl rfl (by kernel_rfl) (fun w => by kernel_rfl) ?_
        refine ls_val (v := .int .u8 ((xl7).getD (x25_2).toNat (0 : Int))) rfl rfl (by kernel_rfl) (fun w => by kernel_rfl) ?_
        refine ls_end ?_
        refine qn_then ?_
        refine cs_region (l := [_, _, _, _, _, _, _, _]) ?_
        refine ls_val (v := .int .u64 x4_2) rfl rfl (by kernel_rfl) (fun w => by kernel_rfl) ?_
        refine ls_val (v := .int .u8 ((xl7).getD (x25_2).toNat (0 : Int))) rfl rfl (by kernel_rfl) (fun w => by kernel_rfl) ?_
        obtain ⟨y16, hy17, H⟩ := lt_some H
        refine ls_val (v := .int .u64 (IntKind.wrap .u64 ((xl7).getD (x25_2).toNat (0 : Int)))) rfl rfl (by kernel_rfl) (fun w => by kernel_rfl) ?_
        refine ls_ren 32 (v := .int .u64 (IntKind.wrap .u64 ((xl7).getD (x25_2).toNat (0 : Int)))) (v' := .int .u64 y16) (by kernel_rfl) (by rw [hy17]) ?_
        refine ls_val (v := .int .i64 x25_2) rfl rfl (by kernel_rfl) (fun w => by kernel_rfl) ?_
        refine ls_val (v := .int .i64 (IntKind.wrap .i64 ((8 : Int) * x25_2))) rfl rfl (by kernel_rfl) (fun w => by kernel_rfl) ?_
        obtain ⟨q18, H⟩ := ite_need H
        obtain ⟨y19, hy20, H⟩ := lt_some H
        refine ls_shiftl (k := .u64) (yk := .i64) (x := y16) (y := (IntKind.wrap .i64 ((8 : Int) * x25_2))) rfl rfl (by kernel_rfl) (fun w => by kernel_rfl) q18 ?_
        refine ls_ren 35 (v := .int .u64 (shlv .u64 y16 (IntKind.wrap .i64 ((8 : Int) * x25_2)))) (v' := .int .u64 y19) (by kernel_rfl) (by rw [hy20]) ?_
        refine ls_val (v := .int .u64 (bits .or .u64 x4_2 y19)) rfl rfl (by kernel_rfl) (fun w => by kernel_rfl) ?_
        refine ls_val (v := .int .u64 (bits .or .u64 x4_2 y19)) rfl rfl (by kernel_rfl) (fun w => by kernel_rfl) ?_
        refine ls_end ?_
        refine qn_block ?_
        refine qn_then ?_
        refine cs_region (l := [_, _]) ?_
        refine ls_val (v := .int .i64 (IntKind.wrap .i64 (x25_2 + (1 : Int)))) rfl rfl (by kernel_rfl) (fun w => by kernel_rfl) ?_
        refine ls_val (v := .int .i64 (IntKind.wrap .i64 (x25_2 + (1 : Int)))) rfl rfl (by kernel_rfl) (fun w => by kernel_rfl) ?_
        refine ls_end ?_
        refine qn_again k2 (s0) (Nat.le_refl _) ⟨_, (bits .or .u64 x4_2 y19), (IntKind.wrap .i64 (x25_2 + (1 : Int))), fr_next (fr_next (fr_next (fr_next (fr_next (fr_next (rfl) (by kernel_rfl)) (by kernel_rfl)) (by kernel_rfl)) (by kernel_rfl)) (by kernel_rfl)) (by kernel_rfl), rfl, H⟩ (sub_nil _)
      · replace H := ite_f q12 H
        refine cs_know (c := false) (dec_f q12) 26 (by kernel_rfl) ?_
        refine cs_false (by kernel_rfl) ?_
        refine cs_exit' ?_
        refine qx_then ?_
        refine qx_then ?_
        refine qx_same ?_
        refine qn_then ?_
        refine cs_seq ?_
        refine cs_region (l := [_, _, _, _, _, _, _, _, _]) ?_
        refine ls_val (v := .int .u64 x4_2) rfl rfl (by kernel_rfl) (fun w => by kernel_rfl) ?_
        refine ls_lit (Ec.int 5 .u8) 0 rfl rfl (by kernel_rfl) ([] : List Int) (by exact of_decide_eq_true (by kernel_rfl)) (fun w => by kernel_rfl) ?_
        intro g21
        refine ls_val (v := .slice A0 l0.length c0) rfl rfl (by kernel_rfl) (fun w => by kernel_rfl) ?_
        refine ls_val (v := .int .i64 a1) rfl rfl (by kernel_rfl) (fun w => by kernel_rfl) ?_
        obtain ⟨xl26, hy27, H⟩ := lt_some H
        have hz29 : (a1).toNat ≤ l0.length := by omega
        have hz30 : l0.length ≤ l0.length := by omega
        obtain ⟨xA22, xc23, he28, xC25, xR24⟩ := cut_at (A := A0) (c := c0) (l := l0) (Ec.int 5 .u8) ((a1).toNat) l0.length hz29 hz30 C0 R0 (m := xl26) (by rw [← hy27] <;> simp) (z := 1) rfl
        refine ls_cutv (A := A0) (c := c0) (m := l0.length) (z := 1) (e := 5) (a := (a1).toNat) (b := l0.length) rfl rfl (by kernel_rfl) rfl (by kernel_rfl) (by kernel_rfl) (by kernel_rfl) (.inr ⟨.i64, by rw [Int.toNat_of_nonneg (by first | assumption | omega)]; kernel_rfl⟩) (.inl ⟨rfl, rfl⟩) hz29 hz30 C0 he28 ?_
        obtain ⟨q31, H⟩ := ite_need H
        refine ls_app (Ec.int 5 .u8) (A := (some ⟨g21, 0, none⟩)) (c := ([] : List Int).length) (B := xA22) (cb := xc23) (z := (Value.int .u8 0)) (l := ([] : List Int)) (m := xl26) (bytes := 1) 0 rfl rfl (by kernel_rfl) rfl (by kernel_rfl) (by exact rfl) (by kernel_rfl) (fun w hs => (hs.old xR24)) (by kernel_rfl) (by kernel_rfl) rfl (by decide) q31 ?_
        intro xA32 xc33
        refine ls_val (v := .int .u64 x4_2) rfl rfl (by kernel_rfl) (fun w => by kernel_rfl) ?_
        refine ls_val (v := .slice xA32 (([] : List Int) ++ xl26).length xc33) rfl rfl (by kernel_rfl) (fun w => by kernel_rfl) ?_
        refine ls_val (v := .bool true) rfl rfl (by kernel_rfl) (fun w => by kernel_rfl) ?_
        refine ls_end ?_
        refine qn_then ?_
        refine cs_ret' ?_
        obtain rfl := Option.some.inj H
        refine qr_res (rs := [_, _, _]) rfl (fun w' hs => ⟨[.int .u64 x4_2, .slice xA32 (([] : List Int) ++ xl26).length xc33, .bool true], (res_tmp (by kernel_rfl) (res_tmp (by kernel_rfl) (res_tmp (by kernel_rfl) (.nil)))), (xA32, xc33), rfl, hs.pick (ts := [0]) (cs := [Ck.sl (Ec.int 5 .u8) xA32 xc33 (([] : List Int) ++ xl26)]) ⟨by exact rfl, trivial⟩ (by decide)⟩)

/-! ### shadowbox/pointer.Read$1: function 30 -/
def pointer_Read_1.f (k : Nat) (a0 : Int) (v1 : (List Int)) : Option (Int × (List Int)) :=
  (if 0 ≤ a0 then (if a0 ≤ (v1.length : Int) then lt (v1.take (a0).toNat) fun xl7 => (codec_Take.f k xl7 a0).bind fun t12 => lt (v1.drop (a0).toNat) fun xl19 => some (t12.1, xl19) else none) else none)
set_option maxRecDepth 100000 in
set_option maxHeartbeats 4000000 in
theorem pointer_Read_1.calls (k : Nat) (a0 : Int) (pg1 : Nat) (A1 : Option Addr) (c1 : Nat) (v1 : (List Int)) (r : Int × (List Int)) (b : Bs) (hs0 : St b (stl [Ck.var 26 pg1 ([Value.slice A1 v1.length c1])]) b.w) (R1 : Ro b A1 (em (Ec.int 5 .u8) v1)) (C1 : v1.length ≤ c1) (H : pointer_Read_1.f k a0 v1 = some r) :
    Calls Try.prog 30 #[.int .i64 a0, .pointer (some ⟨pg1, 0, none⟩)] b.w fun e w' => ∃ x : (Option Addr × Nat), e = .returned (.int .u64 r.1) ∧ ((Ro b x.1 (em (Ec.int 5 .u8) r.2) ∧ r.2.length ≤ x.2)) ∧ St b (stl [Ck.var 26 pg1 ([Value.slice x.1 r.2.length x.2])]) w' := by
  unfold pointer_Read_1.f at H
  refine enterb (n := 20) Try.func30 rfl (by kernel_rfl) (by kernel_rfl) hs0 ?_
  refine cs_sub (sput s0 0 (some (Ck.var 26 pg1 ([Value.slice A1 v1.length c1])))) (sub_put (by exact rfl) (sub_nil _)) ?_
  refine cs_seq ?_
  refine cs_region (l := [_]) ?_
  refine ls_val (v := .int .u64 (0 : Int)) rfl rfl (by kernel_rfl) (fun w => by kernel_rfl) ?_
  refine ls_end ?_
  refine qn_then ?_
  refine cs_seq ?_
  refine cs_region (l := [_, _, _, _, _, _, _, _, _, _, _, _]) ?_
  refine ls_load (a0 := ⟨pg1, 0, none⟩) (v := .slice A1 v1.length c1) (de := (TypeDesc.slice 5)) rfl rfl (by kernel_rfl) rfl (by kernel_rfl) (by kernel_rfl) (by kernel_rfl) (fun w hs => (hs.var (k := 0) (by exact rfl) (Sub4.all _))) ?_
  refine ls_val (v := .int .i64 a0) rfl rfl (by kernel_rfl) (fun w => by kernel_rfl) ?_
  obtain ⟨q1, H⟩ := ite_need H
  obtain ⟨q2, H⟩ := ite_need H
  obtain ⟨xl7, hy8, H⟩ := lt_some H
  have hz10 : 0 ≤ (a0).toNat := by omega
  have hz11 : (a0).toNat ≤ v1.length := by omega
  obtain ⟨xA3, xc4, he9, xC6, xR5⟩ := cut_at (A := A1) (c := c1) (l := v1) (Ec.int 5 .u8) 0 ((a0).toNat) hz10 hz11 C1 R1 (m := xl7) (by rw [← hy8] <;> simp) (z := 1) rfl
  refine ls_cutv (A := A1) (c := c1) (m := v1.length) (z := 1) (e := 5) (a := 0) (b := (a0).toNat) rfl rfl (by kernel_rfl) rfl (by kernel_rfl) (by kernel_rfl) (by kernel_rfl) (.inl ⟨rfl, rfl⟩) (.inr ⟨.i64, by rw [Int.toNat_of_nonneg (by first | assumption | omega)]; kernel_rfl⟩) hz10 hz11 C1 he9 ?_
  refine ls_val (v := .int .i64 a0) rfl rfl (by kernel_rfl) (fun w => by kernel_rfl) ?_
  obtain ⟨t12, hc13, H⟩ := bind_some H
  refine ls_callb (fid := 31) (vals := #[.slice xA3 xl7.length xc4, .int .i64 a0]) (X := (Option Addr × Nat)) (fun x => .tuple #[.int .u64 t12.1, .slice x.1 t12.2.1.length x.2, .bool t12.2.2]) (fun x => stl [Ck.sl (Ec.int 5 .u8) x.1 x.2 t12.2.1]) [] [] [] [] 1 rfl rfl (by kernel_rfl) (fun w => by kernel_rfl) trivial trivial (by decide) (fun w hs hb => codec_Take.calls k xA3 xc4 xl7 a0 t12 (lent b w [] []) hb (hs.ro xR5 _ _) xC6 hc13) ?_
  intro x14
  refine ls_val (v := .tuple #[.int .u64 t12.1, .slice x14.1 t12.2.1.length x14.2, .bool t12.2.2]) rfl rfl (by kernel_rfl) (fun w => by kernel_rfl) ?_
  refine ls_val (v := .int .u64 t12.1) rfl rfl (by kernel_rfl) (fun w => by kernel_rfl) ?_
  refine ls_val (v := .slice x14.1 t12.2.1.length x14.2) rfl rfl (by kernel_rfl) (fun w => by kernel_rfl) ?_
  refine ls_val (v := .bool t12.2.2) rfl rfl (by kernel_rfl) (fun w => by kernel_rfl) ?_
  refine ls_val (v := .int .u64 t12.1) rfl rfl (by kernel_rfl) (fun w => by kernel_rfl) ?_
  refine ls_val (v := .slice x14.1 t12.2.1.length x14.2) rfl rfl (by kernel_rfl) (fun w => by kernel_rfl) ?_
  refine ls_val (v := .bool t12.2.2) rfl rfl (by kernel_rfl) (fun w => by kernel_rfl) ?_
  refine ls_end ?_
  refine qn_then ?_
  refine cs_seq ?_
  refine cs_region (l := [_, _, _, _]) ?_
  refine ls_load (a0 := ⟨pg1, 0, none⟩) (v := .slice A1 v1.length c1) (de := (TypeDesc.slice 5)) rfl rfl (by kernel_rfl) rfl (by kernel_rfl) (by kernel_rfl) (by kernel_rfl) (fun w hs => (hs.var (k := 0) (by exact rfl) (Sub4.all _))) ?_
  refine ls_val (v := .int .i64 a0) rfl rfl (by kernel_rfl) (fun w => by kernel_rfl) ?_
  obtain ⟨xl19, hy20, H⟩ := lt_some H
  have hz22 : (a0).toNat ≤ v1.length := by omega
  have hz23 : v1.length ≤ v1.length := by omega
  obtain ⟨xA15, xc16, he21, xC18, xR17⟩ := cut_at (A := A1) (c := c1) (l := v1) (Ec.int 5 .u8) ((a0).toNat) v1.length hz22 hz23 C1 R1 (m := xl19) (by rw [← hy20] <;> simp) (z := 1) rfl
  refine ls_cutv (A := A1) (c := c1) (m := v1.length) (z := 1) (e := 5) (a := (a0).toNat) (b := v1.length) rfl rfl (by kernel_rfl) rfl (by kernel_rfl) (by kernel_rfl) (by kernel_rfl) (.inr ⟨.i64, by rw [Int.toNat_of_nonneg (by first | assumption | omega)]; kernel_rfl⟩) (.inl ⟨rfl, rfl⟩) hz22 hz23 C1 he21 ?_
  refine ls_storec (g := pg1) (off := 0) (v := .slice xA15 xl19.length xc16) (vs := [Value.slice xA15 xl19.length xc16]) (cs := [Value.slice A1 v1.length c1]) (ty := 26) 0 rfl rfl rfl (by kernel_rfl) (by kernel_rfl) (by kernel_rfl) (by exact rfl) (by kernel_rfl) (len1 _) (one_cons rfl one_nil) (hl_of (Sub4.all _) (len_eq (len1 _) (len1 _))) (cs' := [Value.slice xA15 xl19.length xc16]) (splc_all (len_eq (len1 _) (len1 _))) ?_
  refine ls_end ?_
  refine qn_then ?_
  refine cs_seq ?_
  refine cs_region (l := [_, _]) ?_
  refine ls_val (v := .int .u64 t12.1) rfl rfl (by kernel_rfl) (fun w => by kernel_rfl) ?_
  refine ls_val (v := .int .u64 t12.1) rfl rfl (by kernel_rfl) (fun w => by kernel_rfl) ?_
  refine ls_end ?_
  refine qn_then ?_
  refine cs_ret' ?_
  obtain rfl := Option.some.inj H
  refine qr_res (rs := [_]) rfl (fun w' hs => ⟨[.int .u64 t12.1], (res_tmp (by kernel_rfl) (.nil)), (xA15, xc16), rfl, ⟨xR17, xC18⟩, hs.pick (ts := [0]) (cs := [Ck.var 26 pg1 ([Value.slice xA15 xl19.length xc16])]) ⟨by exact rfl, trivial⟩ (by decide)⟩)

/-! ### shadowbox/pointer.Read: function 10 -/
def pointer_Read.jo1 (k : Nat) (l0 : List Int) : Option ((Int × Int × Int × Int × (Vc Int 32)) × Int) := (if (52 : Int) ≤ (l0.length : Int) then lt (l0.take ((52 : Int)).toNat) fun xl8 => (pointer_Read_1.f k (4 : Int) xl8).bind fun t13 => (pointer_Read_1.f k (4 : Int) t13.2).bind fun t19 => (pointer_Read_1.f k (8 : Int) t19.2).bind fun t25 => (pointer_Read_1.f k (4 : Int) t25.2).bind fun t31 => (if 32 ≤ t31.2.length then (pointer_None.f k (IntKind.wrap .i64 t13.1, IntKind.wrap .i64 t25.1, IntKind.wrap .i64 t19.1, IntKind.wrap .u32 t31.1, (vpad 32 0 t31.2))).bind fun t40 => (if t40 = true then some ((IntKind.wrap .i64 t13.1, IntKind.wrap .i64 t25.1, IntKind.wrap .i64 t19.1, IntKind.wrap .u32 t31.1, (vpad 32 0 t31.2)), (0 : Int)) else (pointer_Right.f k (IntKind.wrap .i64 t13.1, IntKind.wrap .i64 t25.1, IntKind.wrap .i64 t19.1, IntKind.wrap .u32 t31.1, (vpad 32 0 t31.2))).bind fun t44 => (if t44 = true then some ((IntKind.wrap .i64 t13.1, IntKind.wrap .i64 t25.1, IntKind.wrap .i64 t19.1, IntKind.wrap .u32 t31.1, (vpad 32 0 t31.2)), (0 : Int)) else some (((0 : Int), (0 : Int), (0 : Int), (0 : Int), (vrep 32 (0 : Int))), (11 : Int)))) else none) else none)
def pointer_Read.f (k : Nat) (l0 : List Int) : Option ((Int × Int × Int × Int × (Vc Int 32)) × Int) :=
  (if (l0.length : Int) < (52 : Int) then some (((0 : Int), (0 : Int), (0 : Int), (0 : Int), (vrep 32 (0 : Int))), (10 : Int)) else (pointer_Read.jo1 k l0))
set_option maxRecDepth 100000 in
set_option maxHeartbeats 4000000 in
theorem pointer_Read.calls (k : Nat) (A0 : Option Addr) (c0 : Nat) (l0 : List Int) (r : (Int × Int × Int × Int × (Vc Int 32)) × Int) (b : Bs) (hs0 : St b (stl []) b.w) (R0 : Ro b A0 (em (Ec.int 5 .u8) l0)) (C0 : l0.length ≤ c0) (H : pointer_Read.f k l0 = some r) :
    Calls Try.prog 10 #[.slice A0 l0.length c0] b.w fun e w' => ∃ x : Unit, e = .returned (.tuple #[.agg ⟨([Value.int .i64 r.1.1] ++ ([Value.int .i64 r.1.2.1] ++ ([Value.int .i64 r.1.2.2.1] ++ ([Value.int .u32 r.1.2.2.2.1] ++ en (Value.int .u8) r.1.2.2.2.2.1))))⟩, .int .i64 r.2]) ∧ St b (stl []) w' := by
  unfold pointer_Read.f at H
  refine enterb (n := 42) Try.func10 rfl (by kernel_rfl) (by kernel_rfl) hs0 ?_
  refine cs_sub (s0) (sub_nil _) ?_
  refine cs_seq ?_
  refine cs_region (l := [_, _, _]) ?_
  refine ls_new rfl rfl (by kernel_rfl) 0 (fun g => .pointer (some ⟨g, 0, none⟩)) (.cells ⟨[Value.slice A0 l0.length c0]⟩ 26) (fun w => by kernel_rfl) ?_
  intro g1
  refine ls_new rfl rfl (by kernel_rfl) 1 (fun g => .pointer (some ⟨g, 0, none⟩)) (.cells ⟨([Value.int .i64 (0 : Int)] ++ ([Value.int .i64 (0 : Int)] ++ ([Value.int .i64 (0 : Int)] ++ ([Value.int .u32 (0 : Int)] ++ en (Value.int .u8) (vrep 32 (0 : Int)).1))))⟩ 25) (fun w => by kernel_rfl) ?_
  intro g2
  refine ls_val (v := .int .i64 (0 : Int)) rfl rfl (by kernel_rfl) (fun w => by kernel_rfl) ?_
  refine ls_end ?_
  refine qn_then ?_
  refine cs_cut (fun f S => ∃ (fR : Fr), f = upd (upd fR 1 (.pointer (some ⟨g1, 0, none⟩))) 2 (.pointer (some ⟨g2, 0, none⟩)) ∧ S = sput (sput s0 0 (some (Ck.var 26 g1 ([Value.slice A0 l0.length c0])))) 1 (some (Ck.var 25 g2 (([Value.int .i64 (0 : Int)] ++ ([Value.int .i64 (0 : Int)] ++ ([Value.int .i64 (0 : Int)] ++ ([Value.int .u32 (0 : Int)] ++ en (Value.int .u8) (vrep 32 (0 : Int)).1))))))) ∧ pointer_Read.jo1 k l0 = some r) ?_ ?_
  · skip
    refine cs_seq ?_
    refine cs_region (l := [_, _, _]) ?_
    refine ls_load (a0 := ⟨g1, 0, none⟩) (v := .slice A0 l0.length c0) (de := (TypeDesc.slice 5)) rfl rfl (by kernel_rfl) rfl (by kernel_rfl) (by kernel_rfl) (by kernel_rfl) (fun w hs => (hs.var (k := 0) (by exact rfl) (Sub4.all _))) ?_
    refine ls_val (v := .int .i64 (l0.length : Int)) rfl rfl (by kernel_rfl) (fun w => by kernel_rfl) ?_
    refine ls_val (v := .bool (decide ((l0.length : Int) < (52 : Int)))) rfl rfl (by kernel_rfl) (fun w => by kernel_rfl) ?_
    refine ls_end ?_
    refine qn_then ?_
    by_cases q48 : (l0.length : Int) < (52 : Int)
    · replace H := ite_t q48 H
      refine cs_know (c := true) (dec_t q48) 7 (by kernel_rfl) ?_
      refine cs_true (by kernel_rfl) ?_
      refine cs_seq ?_
      refine cs_region (l := [_, _, _]) ?_
      refine ls_build (ps := []) (pl := #[(0, 1), (1, 1), (2, 1), (3, 1), (4, 32)]) (zv := .agg ⟨([Value.int .i64 (0 : Int)] ++ ([Value.int .i64 (0 : Int)] ++ ([Value.int .i64 (0 : Int)] ++ ([Value.int .u32 (0 : Int)] ++ en (Value.int .u8) (vrep 32 (0 : Int)).1))))⟩) (zc := ([Value.int .i64 (0 : Int)] ++ ([Value.int .i64 (0 : Int)] ++ ([Value.int .i64 (0 : Int)] ++ ([Value.int .u32 (0 : Int)] ++ en (Value.int .u8) (vrep 32 (0 : Int)).1))))) (r := ([Value.int .i64 (0 : Int)] ++ ([Value.int .i64 (0 : Int)] ++ ([Value.int .i64 (0 : Int)] ++ ([Value.int .u32 (0 : Int)] ++ en (Value.int .u8) (vrep 32 (0 : Int)).1))))) rfl rfl (by kernel_rfl) rfl (by kernel_rfl) (by kernel_rfl) (fun w => by kernel_rfl) (fun w => by kernel_rfl) rfl fill_nil ?_
      refine ls_storec (g := g2) (off := 0) (v := .agg ⟨([Value.int .i64 (0 : Int)] ++ ([Value.int .i64 (0 : Int)] ++ ([Value.int .i64 (0 : Int)] ++ ([Value.int .u32 (0 : Int)] ++ en (Value.int .u8) (vrep 32 (0 : Int)).1))))⟩) (vs := ([Value.int .i64 (0 : Int)] ++ ([Value.int .i64 (0 : Int)] ++ ([Value.int .i64 (0 : Int)] ++ ([Value.int .u32 (0 : Int)] ++ en (Value.int .u8) (vrep 32 (0 : Int)).1))))) (cs := ([Value.int .i64 (0 : Int)] ++ ([Value.int .i64 (0 : Int)] ++ ([Value.int .i64 (0 : Int)] ++ ([Value.int .u32 (0 : Int)] ++ en (Value.int .u8) (vrep 32 (0 : Int)).1))))) (ty := 25) 1 rfl rfl rfl (by kernel_rfl) (by kernel_rfl) (by kernel_rfl) (by exact rfl) (by kernel_rfl) (len_app (len1 _) (len_app (len1 _) (len_app (len1 _) (len_app (len1 _) (len_en _ (vrep 32 (0 : Int))))))) (one_app (one_cons rfl one_nil) (one_app (one_cons rfl one_nil) (one_app (one_cons rfl one_nil) (one_app (one_cons rfl one_nil) (one_en (fun _ => rfl) _))))) (hl_of (Sub4.all _) (len_eq (len_app (len1 _) (len_app (len1 _) (len_app (len1 _) (len_app (len1 _) (len_en _ (vrep 32 (0 : Int))))))) (len_app (len1 _) (len_app (len1 _) (len_app (len1 _) (len_app (len1 _) (len_en _ (vrep 32 (0 : Int))))))))) (cs' := ([Value.int .i64 (0 : Int)] ++ ([Value.int .i64 (0 : Int)] ++ ([Value.int .i64 (0 : Int)] ++ ([Value.int .u32 (0 : Int)] ++ en (Value.int .u8) (vrep 32 (0 : Int)).1))))) (splc_all (len_eq (len_app (len1 _) (len_app (len1 _) (len_app (len1 _) (len_app (len1 _) (len_en _ (vrep 32 (0 : Int))))))) (len_app (len1 _) (len_app (len1 _) (len_app (len1 _) (len_app (len1 _) (len_en _ (vrep 32 (0 : Int))))))))) ?_
      refine ls_val (v := .int .i64 (10 : Int)) rfl rfl (by kernel_rfl) (fun w => by kernel_rfl) ?_
      refine ls_end ?_
      refine qn_then ?_
      refine cs_ret' ?_
      refine qr_then ?_
      obtain rfl := Option.some.inj H
      refine qr_res (rs := [_, _]) rfl (fun w' hs => ⟨[.agg ⟨([Value.int .i64 (0 : Int)] ++ ([Value.int .i64 (0 : Int)] ++ ([Value.int .i64 (0 : Int)] ++ ([Value.int .u32 (0 : Int)] ++ en (Value.int .u8) (vrep 32 (0 : Int)).1))))⟩, .int .i64 (10 : Int)], (.cell (by kernel_rfl) (run_cellres (by kernel_rfl) (by kernel_rfl) (len_app (len1 _) (len_app (len1 _) (len_app (len1 _) (len_app (len1 _) (len_en _ (vrep 32 (0 : Int))))))) (hs.holds 1 _ (by exact rfl))) (res_tmp (by kernel_rfl) (.nil))), (), rfl, hs.pick (ts := []) (cs := []) trivial (by decide)⟩)
    · replace H := ite_f q48 H
      refine cs_know (c := false) (dec_f q48) 7 (by kernel_rfl) ?_
      refine cs_false (by kernel_rfl) ?_
      refine cs_skip' ?_
      refine qn_meet (sput (sput s0 0 (some (Ck.var 26 g1 ([Value.slice A0 l0.length c0])))) 1 (some (Ck.var 25 g2 (([Value.int .i64 (0 : Int)] ++ ([Value.int .i64 (0 : Int)] ++ ([Value.int .i64 (0 : Int)] ++ ([Value.int .u32 (0 : Int)] ++ en (Value.int .u8) (vrep 32 (0 : Int)).1)))))))) ⟨_, fr_next (fr_next (rfl) (by kernel_rfl)) (by kernel_rfl), rfl, H⟩ (sub_put (by exact rfl) (sub_put (by exact rfl) (sub_nil _)))
  · rintro f S ⟨fr1, rfl, rfl, H⟩
    replace H : ((if (52 : Int) ≤ (l0.length : Int) then lt (l0.take ((52 : Int)).toNat) fun xl8 => (pointer_Read_1.f k (4 : Int) xl8).bind fun t13 => (pointer_Read_1.f k (4 : Int) t13.2).bind fun t19 => (pointer_Read_1.f k (8 : Int) t19.2).bind fun t25 => (pointer_Read_1.f k (4 : Int) t25.2).bind fun t31 => (if 32 ≤ t31.2.length then (pointer_None.f k (IntKind.wrap .i64 t13.1, IntKind.wrap .i64 t25.1, IntKind.wrap .i64 t19.1, IntKind.wrap .u32 t31.1, (vpad 32 0 t31.2))).bind fun t40 => (if t40 = true then some ((IntKind.wrap .i64 t13.1, IntKind.wrap .i64 t25.1, IntKind.wrap .i64 t19.1, IntKind.wrap .u32 t31.1, (vpad 32 0 t31.2)), (0 : Int)) else (pointer_Right.f k (IntKind.wrap .i64 t13.1, IntKind.wrap .i64 t25.1, IntKind.wrap .i64 t19.1, IntKind.wrap .u32 t31.1, (vpad 32 0 t31.2))).bind fun t44 => (if t44 = true then some ((IntKind.wrap .i64 t13.1, IntKind.wrap .i64 t25.1, IntKind.wrap .i64 t19.1, IntKind.wrap .u32 t31.1, (vpad 32 0 t31.2)), (0 : Int)) else some (((0 : Int), (0 : Int), (0 : Int), (0 : Int), (vrep 32 (0 : Int))), (11 : Int)))) else none) else none)) = some r := H
    refine cs_seq ?_
    refine cs_region (l := [_, _, _]) ?_
    refine ls_load (a0 := ⟨g1, 0, none⟩) (v := .slice A0 l0.length c0) (de := (TypeDesc.slice 5)) rfl rfl (by kernel_rfl) rfl (by kernel_rfl) (by kernel_rfl) (by kernel_rfl) (fun w hs => (hs.var (k := 0) (by exact rfl) (Sub4.all _))) ?_
    obtain ⟨q3, H⟩ := ite_need H
    obtain ⟨xl8, hy9, H⟩ := lt_some H
    have hz11 : 0 ≤ ((52 : Int)).toNat := by omega
    have hz12 : ((52 : Int)).toNat ≤ l0.length := by omega
    obtain ⟨xA4, xc5, he10, xC7, xR6⟩ := cut_at (A := A0) (c := c0) (l := l0) (Ec.int 5 .u8) 0 (((52 : Int)).toNat) hz11 hz12 C0 R0 (m := xl8) (by rw [← hy9] <;> simp) (z := 1) rfl
    refine ls_cutv (A := A0) (c := c0) (m := l0.length) (z := 1) (e := 5) (a := 0) (b := ((52 : Int)).toNat) rfl rfl (by kernel_rfl) rfl (by kernel_rfl) (by kernel_rfl) (by kernel_rfl) (.inl ⟨rfl, rfl⟩) (.inr ⟨.i64, by rw [Int.toNat_of_nonneg (by first | assumption | omega)]; kernel_rfl⟩) hz11 hz12 C0 he10 ?_
    refine ls_storec (g := g1) (off := 0) (v := .slice xA4 xl8.length xc5) (vs := [Value.slice xA4 xl8.length xc5]) (cs := [Value.slice A0 l0.length c0]) (ty := 26) 0 rfl rfl rfl (by kernel_rfl) (by kernel_rfl) (by kernel_rfl) (by exact rfl) (by kernel_rfl) (len1 _) (one_cons rfl one_nil) (hl_of (Sub4.all _) (len_eq (len1 _) (len1 _))) (cs' := [Value.slice xA4 xl8.length xc5]) (splc_all (len_eq (len1 _) (len1 _))) ?_
    refine ls_end ?_
    refine qn_then ?_
    refine cs_seq ?_
    refine cs_region (l := [_, _]) ?_
    refine ls_val (v := .func (.func 30) #[] #[.pointer (some ⟨g1, 0, none⟩)]) rfl rfl (by kernel_rfl) (fun w => by kernel_rfl) ?_
    refine ls_val (v := .func (.func 30) #[] #[.pointer (some ⟨g1, 0, none⟩)]) rfl rfl (by kernel_rfl) (fun w => by kernel_rfl) ?_
    refine ls_end ?_
    refine qn_then ?_
    refine cs_seq ?_
    refine cs_region (l := [_, _, _, _, _, _, _, _, _, _]) ?_
    refine ls_val (v := .func (.func 30) #[] #[.pointer (some ⟨g1, 0, none⟩)]) rfl rfl (by kernel_rfl) (fun w => by kernel_rfl) ?_
    obtain ⟨t13, hc14, H⟩ := bind_some H
    refine ls_callg (fid := 30) (vals := #[.int .i64 (4 : Int), .pointer (some ⟨g1, 0, none⟩)]) (X := (Option Addr × Nat)) (fun x => .int .u64 t13.1) (fun x => stl [Ck.var 26 g1 ([Value.slice x.1 t13.2.length x.2])]) (fun x B => (Ro B x.1 (em (Ec.int 5 .u8) t13.2) ∧ t13.2.length ≤ x.2)) [0] [Ck.var 26 g1 ([Value.slice xA4 xl8.length xc5])] 2 rfl rfl (by kernel_rfl) (fun w => by kernel_rfl) ⟨by exact rfl, trivial⟩ (by decide) (fun x b b' h hf => ⟨h _ _ hf.1, hf.2⟩) (fun w hs hb => pointer_Read_1.calls k (4 : Int) g1 xA4 xc5 xl8 t13 (lent b w [Ck.var 26 g1 ([Value.slice xA4 xl8.length xc5])] []) hb (hs.ro xR6 _ _) xC7 hc14) ?_
    intro x15 hf18
    obtain ⟨fR16, fC17⟩ := hf18
    refine ls_val (v := .int .i64 (IntKind.wrap .i64 t13.1)) rfl rfl (by kernel_rfl) (fun w => by kernel_rfl) ?_
    refine ls_val (v := .func (.func 30) #[] #[.pointer (some ⟨g1, 0, none⟩)]) rfl rfl (by kernel_rfl) (fun w => by kernel_rfl) ?_
    obtain ⟨t19, hc20, H⟩ := bind_some H
    refine ls_callg (fid := 30) (vals := #[.int .i64 (4 : Int), .pointer (some ⟨g1, 0, none⟩)]) (X := (Option Addr × Nat)) (fun x => .int .u64 t19.1) (fun x => stl [Ck.var 26 g1 ([Value.slice x.1 t19.2.length x.2])]) (fun x B => (Ro B x.1 (em (Ec.int 5 .u8) t19.2) ∧ t19.2.length ≤ x.2)) [0] [Ck.var 26 g1 ([Value.slice x15.1 t13.2.length x15.2])] 2 rfl rfl (by kernel_rfl) (fun w => by kernel_rfl) ⟨by exact rfl, trivial⟩ (by decide) (fun x b b' h hf => ⟨h _ _ hf.1, hf.2⟩) (fun w hs hb => pointer_Read_1.calls k (4 : Int) g1 x15.1 x15.2 t13.2 t19 (lent b w [Ck.var 26 g1 ([Value.slice x15.1 t13.2.length x15.2])] []) hb (hs.ro fR16 _ _) fC17 hc20) ?_
    intro x21 hf24
    obtain ⟨fR22, fC23⟩ := hf24
    refine ls_val (v := .int .i64 (IntKind.wrap .i64 t19.1)) rfl rfl (by kernel_rfl) (fun w => by kernel_rfl) ?_
    refine ls_val (v := .pointer (some ⟨g2, (0 + 0), none⟩)) rfl rfl (by kernel_rfl) (fun w => by kernel_rfl) ?_
    refine ls_storec (g := g2) (off := (0 + 0)) (v := .int .i64 (IntKind.wrap .i64 t13.1)) (vs := [Value.int .i64 (IntKind.wrap .i64 t13.1)]) (cs := ([Value.int .i64 (0 : Int)] ++ ([Value.int .i64 (0 : Int)] ++ ([Value.int .i64 (0 : Int)] ++ ([Value.int .u32 (0 : Int)] ++ en (Value.int .u8) (vrep 32 (0 : Int)).1))))) (ty := 25) 1 rfl rfl rfl (by kernel_rfl) (by kernel_rfl) (by kernel_rfl) (by exact rfl) (by kernel_rfl) (len1 _) (one_cons rfl one_nil) (hl_of (Sub4.trans (Sub4.all _) (Sub4.head _ _)) (len_eq (len1 _) (len1 _))) (cs' := ([Value.int .i64 (IntKind.wrap .i64 t13.1)] ++ ([Value.int .i64 (0 : Int)] ++ ([Value.int .i64 (0 : Int)] ++ ([Value.int .u32 (0 : Int)] ++ en (Value.int .u8) (vrep 32 (0 : Int)).1))))) (splc_in (Sub4.all _) (splc_head (len_eq (len1 _) (len1 _))) (splc_all (len_eq (len_app (len1 _) (len_app (len1 _) (len_app (len1 _) (len_app (len1 _) (len_en _ (vrep 32 (0 : Int))))))) (len_app (len1 _) (len_app (len1 _) (len_app (len1 _) (len_app (len1 _) (len_en _ (vrep 32 (0 : Int))))))))) (hl_of (Sub4.head _ _) (len_eq (len1 _) (len1 _)))) ?_
    refine ls_val (v := .pointer (some ⟨g2, (0 + 2), none⟩)) rfl rfl (by kernel_rfl) (fun w => by kernel_rfl) ?_
    refine ls_storec (g := g2) (off := (0 + 2)) (v := .int .i64 (IntKind.wrap .i64 t19.1)) (vs := [Value.int .i64 (IntKind.wrap .i64 t19.1)]) (cs := ([Value.int .i64 (IntKind.wrap .i64 t13.1)] ++ ([Value.int .i64 (0 : Int)] ++ ([Value.int .i64 (0 : Int)] ++ ([Value.int .u32 (0 : Int)] ++ en (Value.int .u8) (vrep 32 (0 : Int)).1))))) (ty := 25) 1 rfl rfl rfl (by kernel_rfl) (by kernel_rfl) (by kernel_rfl) (by exact rfl) (by kernel_rfl) (len1 _) (one_cons rfl one_nil) (hl_of (Sub4.trans (Sub4.all _) (Sub4.skip (n := 1) (len1 _) (Sub4.skip (n := 1) (len1 _) (Sub4.head _ _)))) (len_eq (len1 _) (len1 _))) (cs' := ([Value.int .i64 (IntKind.wrap .i64 t13.1)] ++ ([Value.int .i64 (0 : Int)] ++ ([Value.int .i64 (IntKind.wrap .i64 t19.1)] ++ ([Value.int .u32 (0 : Int)] ++ en (Value.int .u8) (vrep 32 (0 : Int)).1))))) (splc_in (Sub4.all _) (splc_skip (n := 1) (len1 _) (splc_skip (n := 1) (len1 _) (splc_head (len_eq (len1 _) (len1 _))))) (splc_all (len_eq (len_app (len1 _) (len_app (len1 _) (len_app (len1 _) (len_app (len1 _) (len_en _ (vrep 32 (0 : Int))))))) (len_app (len1 _) (len_app (len1 _) (len_app (len1 _) (len_app (len1 _) (len_en _ (vrep 32 (0 : Int))))))))) (hl_of (Sub4.skip (n := 1) (len1 _) (Sub4.skip (n := 1) (len1 _) (Sub4.head _ _))) (len_eq (len1 _) (len1 _)))) ?_
    refine ls_end ?_
    refine qn_then ?_
    refine cs_seq ?_
    refine cs_region (l := [_, _, _, _, _]) ?_
    refine ls_val (v := .func (.func 30) #[] #[.pointer (some ⟨g1, 0, none⟩)]) rfl rfl (by kernel_rfl) (fun w => by kernel_rfl) ?_
    obtain ⟨t25, hc26, H⟩ := bind_some H
    refine ls_callg (fid := 30) (vals := #[.int .i64 (8 : Int), .pointer (some ⟨g1, 0, none⟩)]) (X := (Option Addr × Nat)) (fun x => .int .u64 t25.1) (fun x => stl [Ck.var 26 g1 ([Value.slice x.1 t25.2.length x.2])]) (fun x B => (Ro B x.1 (em (Ec.int 5 .u8) t25.2) ∧ t25.2.length ≤ x.2)) [0] [Ck.var 26 g1 ([Value.slice x21.1 t19.2.length x21.2])] 2 rfl rfl (by kernel_rfl) (fun w => by kernel_rfl) ⟨by exact rfl, trivial⟩ (by decide) (fun x b b' h hf => ⟨h _ _ hf.1, hf.2⟩) (fun w hs hb => pointer_Read_1.calls k (8 : Int) g1 x21.1 x21.2 t19.2 t25 (lent b w [Ck.var 26 g1 ([Value.slice x21.1 t19.2.length x21.2])] []) hb (hs.ro fR22 _ _) fC23 hc26) ?_
    intro x27 hf30
    obtain ⟨fR28, fC29⟩ := hf30
    refine ls_val (v := .int .i64 (IntKind.wrap .i64 t25.1)) rfl rfl (by kernel_rfl) (fun w => by kernel_rfl) ?_
    refine ls_val (v := .pointer (some ⟨g2, (0 + 1), none⟩)) rfl rfl (by kernel_rfl) (fun w => by kernel_rfl) ?_
    refine ls_storec (g := g2) (off := (0 + 1)) (v := .int .i64 (IntKind.wrap .i64 t25.1)) (vs := [Value.int .i64 (IntKind.wrap .i64 t25.1)]) (cs := ([Value.int .i64 (IntKind.wrap .i64 t13.1)] ++ ([Value.int .i64 (0 : Int)] ++ ([Value.int .i64 (IntKind.wrap .i64 t19.1)] ++ ([Value.int .u32 (0 : Int)] ++ en (Value.int .u8) (vrep 32 (0 : Int)).1))))) (ty := 25) 1 rfl rfl rfl (by kernel_rfl) (by kernel_rfl) (by kernel_rfl) (by exact rfl) (by kernel_rfl) (len1 _) (one_cons rfl one_nil) (hl_of (Sub4.trans (Sub4.all _) (Sub4.skip (n := 1) (len1 _) (Sub4.head _ _))) (len_eq (len1 _) (len1 _))) (cs' := ([Value.int .i64 (IntKind.wrap .i64 t13.1)] ++ ([Value.int .i64 (IntKind.wrap .i64 t25.1)] ++ ([Value.int .i64 (IntKind.wrap .i64 t19.1)] ++ ([Value.int .u32 (0 : Int)] ++ en (Value.int .u8) (vrep 32 (0 : Int)).1))))) (splc_in (Sub4.all _) (splc_skip (n := 1) (len1 _) (splc_head (len_eq (len1 _) (len1 _)))) (splc_all (len_eq (len_app (len1 _) (len_app (len1 _) (len_app (len1 _) (len_app (len1 _) (len_en _ (vrep 32 (0 : Int))))))) (len_app (len1 _) (len_app (len1 _) (len_app (len1 _) (len_app (len1 _) (len_en _ (vrep 32 (0 : Int))))))))) (hl_of (Sub4.skip (n := 1) (len1 _) (Sub4.head _ _)) (len_eq (len1 _) (len1 _)))) ?_
    refine ls_end ?_
    refine qn_then ?_
    refine cs_seq ?_
    refine cs_region (l := [_, _, _, _, _]) ?_
    refine ls_val (v := .func (.func 30) #[] #[.pointer (some ⟨g1, 0, none⟩)]) rfl rfl (by kernel_rfl) (fun w => by kernel_rfl) ?_
    obtain ⟨t31, hc32, H⟩ := bind_some H
    refine ls_callg (fid := 30) (vals := #[.int .i64 (4 : Int), .pointer (some ⟨g1, 0, none⟩)]) (X := (Option Addr × Nat)) (fun x => .int .u64 t31.1) (fun x => stl [Ck.var 26 g1 ([Value.slice x.1 t31.2.length x.2])]) (fun x B => (Ro B x.1 (em (Ec.int 5 .u8) t31.2) ∧ t31.2.length ≤ x.2)) [0] [Ck.var 26 g1 ([Value.slice x27.1 t25.2.length x27.2])] 2 rfl rfl (by kernel_rfl) (fun w => by kernel_rfl) ⟨by exact rfl, trivial⟩ (by decide) (fun x b b' h hf => ⟨h _ _ hf.1, hf.2⟩) (fun w hs hb => pointer_Read_1.calls k (4 : Int) g1 x27.1 x27.2 t25.2 t31 (lent b w [Ck.var 26 g1 ([Value.slice x27.1 t25.2.length x27.2])] []) hb (hs.ro fR28 _ _) fC29 hc32) ?_
    intro x33 hf36
    obtain ⟨fR34, fC35⟩ := hf36
    refine ls_val (v := .int .u32 (IntKind.wrap .u32 t31.1)) rfl rfl (by kernel_rfl) (fun w => by kernel_rfl) ?_
    refine ls_val (v := .pointer (some ⟨g2, (0 + 3), none⟩)) rfl rfl (by kernel_rfl) (fun w => by kernel_rfl) ?_
    refine ls_storec (g := g2) (off := (0 + 3)) (v := .int .u32 (IntKind.wrap .u32 t31.1)) (vs := [Value.int .u32 (IntKind.wrap .u32 t31.1)]) (cs := ([Value.int .i64 (IntKind.wrap .i64 t13.1)] ++ ([Value.int .i64 (IntKind.wrap .i64 t25.1)] ++ ([Value.int .i64 (IntKind.wrap .i64 t19.1)] ++ ([Value.int .u32 (0 : Int)] ++ en (Value.int .u8) (vrep 32 (0 : Int)).1))))) (ty := 25) 1 rfl rfl rfl (by kernel_rfl) (by kernel_rfl) (by kernel_rfl) (by exact rfl) (by kernel_rfl) (len1 _) (one_cons rfl one_nil) (hl_of (Sub4.trans (Sub4.all _) (Sub4.skip (n := 1) (len1 _) (Sub4.skip (n := 1) (len1 _) (Sub4.skip (n := 1) (len1 _) (Sub4.head _ _))))) (len_eq (len1 _) (len1 _))) (cs' := ([Value.int .i64 (IntKind.wrap .i64 t13.1)] ++ ([Value.int .i64 (IntKind.wrap .i64 t25.1)] ++ ([Value.int .i64 (IntKind.wrap .i64 t19.1)] ++ ([Value.int .u32 (IntKind.wrap .u32 t31.1)] ++ en (Value.int .u8) (vrep 32 (0 : Int)).1))))) (splc_in (Sub4.all _) (splc_skip (n := 1) (len1 _) (splc_skip (n := 1) (len1 _) (splc_skip (n := 1) (len1 _) (splc_head (len_eq (len1 _) (len1 _)))))) (splc_all (len_eq (len_app (len1 _) (len_app (len1 _) (len_app (len1 _) (len_app (len1 _) (len_en _ (vrep 32 (0 : Int))))))) (len_app (len1 _) (len_app (len1 _) (len_app (len1 _) (len_app (len1 _) (len_en _ (vrep 32 (0 : Int))))))))) (hl_of (Sub4.skip (n := 1) (len1 _) (Sub4.skip (n := 1) (len1 _) (Sub4.skip (n := 1) (len1 _) (Sub4.head _ _)))) (len_eq (len1 _) (len1 _)))) ?_
    refine ls_end ?_
    refine qn_then ?_
    refine cs_seq ?_
    refine cs_region (l := [_, _, _, _, _]) ?_
    refine ls_load (a0 := ⟨g1, 0, none⟩) (v := .slice x33.1 t31.2.length x33.2) (de := (TypeDesc.slice 5)) rfl rfl (by kernel_rfl) rfl (by kernel_rfl) (by kernel_rfl) (by kernel_rfl) (fun w hs => (hs.var (k := 0) (by exact rfl) (Sub4.all _))) ?_
    obtain ⟨q37, H⟩ := ite_need H
    obtain ⟨ad38, hA39⟩ := ido_at (T := (Ec.int 5 .u8)) (l := t31.2) (i := (0 : Int)) fR34 (by decide) (by have := q37; omega)
    refine ls_toarr (e := 5) (A := x33.1) (m := t31.2.length) (c := x33.2) rfl rfl (by kernel_rfl) rfl (by kernel_rfl) (by kernel_rfl) q37 hA39 ?_
    refine ls_loadagg (a := (ad38.add 0)) (sub := en (Value.int .u8) (vpad 32 0 t31.2).1) rfl rfl (by kernel_rfl) rfl (by kernel_rfl) (by kernel_rfl) (by kernel_rfl) (len_en _ (vpad 32 0 t31.2)) (fun w hs => ((hs.old fR34).vpad q37 0).part hA39 (Sub4.all _)) ?_
    refine ls_val (v := .pointer (some ⟨g2, (0 + 4), none⟩)) rfl rfl (by kernel_rfl) (fun w => by kernel_rfl) ?_
    refine ls_storec (g := g2) (off := (0 + 4)) (v := .agg ⟨en (Value.int .u8) (vpad 32 0 t31.2).1⟩) (vs := en (Value.int .u8) (vpad 32 0 t31.2).1) (cs := ([Value.int .i64 (IntKind.wrap .i64 t13.1)] ++ ([Value.int .i64 (IntKind.wrap .i64 t25.1)] ++ ([Value.int .i64 (IntKind.wrap .i64 t19.1)] ++ ([Value.int .u32 (IntKind.wrap .u32 t31.1)] ++ en (Value.int .u8) (vrep 32 (0 : Int)).1))))) (ty := 25) 1 rfl rfl rfl (by kernel_rfl) (by kernel_rfl) (by kernel_rfl) (by exact rfl) (by kernel_rfl) (len_en _ (vpad 32 0 t31.2)) (one_en (fun _ => rfl) _) (hl_of (Sub4.trans (Sub4.all _) (Sub4.skip (n := 1) (len1 _) (Sub4.skip (n := 1) (len1 _) (Sub4.skip (n := 1) (len1 _) (Sub4.skip (n := 1) (len1 _) (Sub4.all _)))))) (len_eq (len_en _ (vpad 32 0 t31.2)) (len_en _ (vrep 32 (0 : Int))))) (cs' := ([Value.int .i64 (IntKind.wrap .i64 t13.1)] ++ ([Value.int .i64 (IntKind.wrap .i64 t25.1)] ++ ([Value.int .i64 (IntKind.wrap .i64 t19.1)] ++ ([Value.int .u32 (IntKind.wrap .u32 t31.1)] ++ en (Value.int .u8) (vpad 32 0 t31.2).1))))) (splc_in (Sub4.all _) (splc_skip (n := 1) (len1 _) (splc_skip (n := 1) (len1 _) (splc_skip (n := 1) (len1 _) (splc_skip (n := 1) (len1 _) (splc_all (len_eq (len_en _ (vpad 32 0 t31.2)) (len_en _ (vrep 32 (0 : Int))))))))) (splc_all (len_eq (len_app (len1 _) (len_app (len1 _) (len_app (len1 _) (len_app (len1 _) (len_en _ (vpad 32 0 t31.2)))))) (len_app (len1 _) (len_app (len1 _) (len_app (len1 _) (len_app (len1 _) (len_en _ (vrep 32 (0 : Int))))))))) (hl_of (Sub4.skip (n := 1) (len1 _) (Sub4.skip (n := 1) (len1 _) (Sub4.skip (n := 1) (len1 _) (Sub4.skip (n := 1) (len1 _) (Sub4.all _))))) (len_eq (len_en _ (vpad 32 0 t31.2)) (len_en _ (vrep 32 (0 : Int)))))) ?_
    refine ls_end ?_
    refine qn_then ?_
    refine cs_seq ?_
    refine cs_seq ?_
    refine cs_region (l := [_, _, _, _, _, _, _, _]) ?_
    refine ls_loadagg (a := ⟨g2, 0, none⟩) (sub := ([Value.int .i64 (IntKind.wrap .i64 t13.1)] ++ ([Value.int .i64 (IntKind.wrap .i64 t25.1)] ++ ([Value.int .i64 (IntKind.wrap .i64 t19.1)] ++ ([Value.int .u32 (IntKind.wrap .u32 t31.1)] ++ en (Value.int .u8) (vpad 32 0 t31.2).1))))) rfl rfl (by kernel_rfl) rfl (by kernel_rfl) (by kernel_rfl) (by kernel_rfl) (len_app (len1 _) (len_app (len1 _) (len_app (len1 _) (len_app (len1 _) (len_en _ (vpad 32 0 t31.2)))))) (fun w hs => (hs.vars (k := 1) (by exact rfl) (Sub4.all _))) ?_
    obtain ⟨t40, hc41, H⟩ := bind_some H
    refine ls_callb (fid := 12) (vals := #[.agg ⟨([Value.int .i64 (IntKind.wrap .i64 t13.1)] ++ ([Value.int .i64 (IntKind.wrap .i64 t25.1)] ++ ([Value.int .i64 (IntKind.wrap .i64 t19.1)] ++ ([Value.int .u32 (IntKind.wrap .u32 t31.1)] ++ en (Value.int .u8) (vpad 32 0 t31.2).1))))⟩]) (X := Unit) (fun x => .bool t40) (fun x => stl []) [] [] [] [] 2 rfl rfl (by kernel_rfl) (fun w => by kernel_rfl) trivial trivial (by decide) (fun w hs hb => pointer_None.calls k (IntKind.wrap .i64 t13.1, IntKind.wrap .i64 t25.1, IntKind.wrap .i64 t19.1, IntKind.wrap .u32 t31.1, (vpad 32 0 t31.2)) t40 (lent b w [] []) hb  hc41) ?_
    intro x42
    refine ls_val (v := .bool (!t40)) rfl rfl (by kernel_rfl) (fun w => by kernel_rfl) ?_
    refine ls_val (v := .bool (!t40)) rfl rfl (by kernel_rfl) (fun w => by kernel_rfl) ?_
    by_cases q43 : t40 = true
    · replace H := ite_t q43 H
      refine ls_know (c := false) (congrArg Bool.not (q43)) 35 (by kernel_rfl) ?_
      refine ls_off (j := 3) (t := 35) (b := true) (c := false) rfl rfl (by kernel_rfl) (by kernel_rfl) rfl rfl (by kernel_rfl) ?_
      refine ls_off (j := 3) (t := 35) (b := true) (c := false) rfl rfl (by kernel_rfl) (by kernel_rfl) rfl rfl (by kernel_rfl) ?_
      refine ls_off (j := 3) (t := 35) (b := true) (c := false) rfl rfl (by kernel_rfl) (by kernel_rfl) rfl rfl (by kernel_rfl) ?_
      refine ls_val (v := .bool false) rfl rfl (by kernel_rfl) (fun w => by kernel_rfl) ?_
      refine ls_end ?_
      refine qn_then ?_
      refine cs_false (by kernel_rfl) ?_
      refine cs_skip' ?_
      refine qn_then ?_
      refine cs_seq ?_
      refine cs_region (l := [_, _, _]) ?_
      refine ls_loadagg (a := ⟨g2, 0, none⟩) (sub := ([Value.int .i64 (IntKind.wrap .i64 t13.1)] ++ ([Value.int .i64 (IntKind.wrap .i64 t25.1)] ++ ([Value.int .i64 (IntKind.wrap .i64 t19.1)] ++ ([Value.int .u32 (IntKind.wrap .u32 t31.1)] ++ en (Value.int .u8) (vpad 32 0 t31.2).1))))) rfl rfl (by kernel_rfl) rfl (by kernel_rfl) (by kernel_rfl) (by kernel_rfl) (len_app (len1 _) (len_app (len1 _) (len_app (len1 _) (len_app (len1 _) (len_en _ (vpad 32 0 t31.2)))))) (fun w hs => (hs.vars (k := 1) (by exact rfl) (Sub4.all _))) ?_
      refine ls_storec (g := g2) (off := 0) (v := .agg ⟨([Value.int .i64 (IntKind.wrap .i64 t13.1)] ++ ([Value.int .i64 (IntKind.wrap .i64 t25.1)] ++ ([Value.int .i64 (IntKind.wrap .i64 t19.1)] ++ ([Value.int .u32 (IntKind.wrap .u32 t31.1)] ++ en (Value.int .u8) (vpad 32 0 t31.2).1))))⟩) (vs := ([Value.int .i64 (IntKind.wrap .i64 t13.1)] ++ ([Value.int .i64 (IntKind.wrap .i64 t25.1)] ++ ([Value.int .i64 (IntKind.wrap .i64 t19.1)] ++ ([Value.int .u32 (IntKind.wrap .u32 t31.1)] ++ en (Value.int .u8) (vpad 32 0 t31.2).1))))) (cs := ([Value.int .i64 (IntKind.wrap .i64 t13.1)] ++ ([Value.int .i64 (IntKind.wrap .i64 t25.1)] ++ ([Value.int .i64 (IntKind.wrap .i64 t19.1)] ++ ([Value.int .u32 (IntKind.wrap .u32 t31.1)] ++ en (Value.int .u8) (vpad 32 0 t31.2).1))))) (ty := 25) 1 rfl rfl rfl (by kernel_rfl) (by kernel_rfl) (by kernel_rfl) (by exact rfl) (by kernel_rfl) (len_app (len1 _) (len_app (len1 _) (len_app (len1 _) (len_app (len1 _) (len_en _ (vpad 32 0 t31.2)))))) (one_app (one_cons rfl one_nil) (one_app (one_cons rfl one_nil) (one_app (one_cons rfl one_nil) (one_app (one_cons rfl one_nil) (one_en (fun _ => rfl) _))))) (hl_of (Sub4.all _) (len_eq (len_app (len1 _) (len_app (len1 _) (len_app (len1 _) (len_app (len1 _) (len_en _ (vpad 32 0 t31.2)))))) (len_app (len1 _) (len_app (len1 _) (len_app (len1 _) (len_app (len1 _) (len_en _ (vpad 32 0 t31.2)))))))) (cs' := ([Value.int .i64 (IntKind.wrap .i64 t13.1)] ++ ([Value.int .i64 (IntKind.wrap .i64 t25.1)] ++ ([Value.int .i64 (IntKind.wrap .i64 t19.1)] ++ ([Value.int .u32 (IntKind.wrap .u32 t31.1)] ++ en (Value.int .u8) (vpad 32 0 t31.2).1))))) (splc_all (len_eq (len_app (len1 _) (len_app (len1 _) (len_app (len1 _) (len_app (len1 _) (len_en _ (vpad 32 0 t31.2)))))) (len_app (len1 _) (len_app (len1 _) (len_app (len1 _) (len_app (len1 _) (len_en _ (vpad 32 0 t31.2)))))))) ?_
      refine ls_val (v := .int .i64 (0 : Int)) rfl rfl (by kernel_rfl) (fun w => by kernel_rfl) ?_
      refine ls_end ?_
      refine qn_then ?_
      refine cs_ret' ?_
      obtain rfl := Option.some.inj H
      refine qr_res (rs := [_, _]) rfl (fun w' hs => ⟨[.agg ⟨([Value.int .i64 (IntKind.wrap .i64 t13.1)] ++ ([Value.int .i64 (IntKind.wrap .i64 t25.1)] ++ ([Value.int .i64 (IntKind.wrap .i64 t19.1)] ++ ([Value.int .u32 (IntKind.wrap .u32 t31.1)] ++ en (Value.int .u8) (vpad 32 0 t31.2).1))))⟩, .int .i64 (0 : Int)], (.cell (by kernel_rfl) (run_cellres (by kernel_rfl) (by kernel_rfl) (len_app (len1 _) (len_app (len1 _) (len_app (len1 _) (len_app (len1 _) (len_en _ (vpad 32 0 t31.2)))))) (hs.holds 1 _ (by exact rfl))) (res_tmp (by kernel_rfl) (.nil))), (), rfl, hs.pick (ts := []) (cs := []) trivial (by decide)⟩)
    · replace H := ite_f q43 H
      refine ls_know (c := true) (congrArg Bool.not (Bool.eq_false_iff.mpr q43)) 35 (by kernel_rfl) ?_
      refine ls_on (j := 3) (t := 35) (b := true) rfl rfl (by kernel_rfl) (by kernel_rfl) ?_
      refine ls_loadagg (a := ⟨g2, 0, none⟩) (sub := ([Value.int .i64 (IntKind.wrap .i64 t13.1)] ++ ([Value.int .i64 (IntKind.wrap .i64 t25.1)] ++ ([Value.int .i64 (IntKind.wrap .i64 t19.1)] ++ ([Value.int .u32 (IntKind.wrap .u32 t31.1)] ++ en (Value.int .u8) (vpad 32 0 t31.2).1))))) rfl rfl (by kernel_rfl) rfl (by kernel_rfl) (by kernel_rfl) (by kernel_rfl) (len_app (len1 _) (len_app (len1 _) (len_app (len1 _) (len_app (len1 _) (len_en _ (vpad 32 0 t31.2)))))) (fun w hs => (hs.vars (k := 1) (by exact rfl) (Sub4.all _))) ?_
      refine ls_on (j := 3) (t := 35) (b := true) rfl rfl (by kernel_rfl) (by kernel_rfl) ?_
      obtain ⟨t44, hc45, H⟩ := bind_some H
      refine ls_callb (fid := 14) (vals := #[.agg ⟨([Value.int .i64 (IntKind.wrap .i64 t13.1)] ++ ([Value.int .i64 (IntKind.wrap .i64 t25.1)] ++ ([Value.int .i64 (IntKind.wrap .i64 t19.1)] ++ ([Value.int .u32 (IntKind.wrap .u32 t31.1)] ++ en (Value.int .u8) (vpad 32 0 t31.2).1))))⟩]) (X := Unit) (fun x => .bool t44) (fun x => stl []) [] [] [] [] 2 rfl rfl (by kernel_rfl) (fun w => by kernel_rfl) trivial trivial (by decide) (fun w hs hb => pointer_Right.calls k (IntKind.wrap .i64 t13.1, IntKind.wrap .i64 t25.1, IntKind.wrap .i64 t19.1, IntKind.wrap .u32 t31.1, (vpad 32 0 t31.2)) t44 (lent b w [] []) hb  hc45) ?_
      intro x46
      refine ls_on (j := 3) (t := 35) (b := true) rfl rfl (by kernel_rfl) (by kernel_rfl) ?_
      refine ls_val (v := .bool (!t44)) rfl rfl (by kernel_rfl) (fun w => by kernel_rfl) ?_
      refine ls_val (v := .bool (!t44)) rfl rfl (by kernel_rfl) (fun w => by kernel_rfl) ?_
      refine ls_end ?_
      refine qn_then ?_
      by_cases q47 : t44 = true
      · replace H := ite_t q47 H
        refine cs_know (c := false) (congrArg Bool.not (q47)) 39 (by kernel_rfl) ?_
        refine cs_false (by kernel_rfl) ?_
        refine cs_skip' ?_
        refine qn_then ?_
        refine cs_seq ?_
        refine cs_region (l := [_, _, _]) ?_
        refine ls_loadagg (a := ⟨g2, 0, none⟩) (sub := ([Value.int .i64 (IntKind.wrap .i64 t13.1)] ++ ([Value.int .i64 (IntKind.wrap .i64 t25.1)] ++ ([Value.int .i64 (IntKind.wrap .i64 t19.1)] ++ ([Value.int .u32 (IntKind.wrap .u32 t31.1)] ++ en (Value.int .u8) (vpad 32 0 t31.2).1))))) rfl rfl (by kernel_rfl) rfl (by kernel_rfl) (by kernel_rfl) (by kernel_rfl) (len_app (len1 _) (len_app (len1 _) (len_app (len1 _) (len_app (len1 _) (len_en _ (vpad 32 0 t31.2)))))) (fun w hs => (hs.vars (k := 1) (by exact rfl) (Sub4.all _))) ?_
        refine ls_storec (g := g2) (off := 0) (v := .agg ⟨([Value.int .i64 (IntKind.wrap .i64 t13.1)] ++ ([Value.int .i64 (IntKind.wrap .i64 t25.1)] ++ ([Value.int .i64 (IntKind.wrap .i64 t19.1)] ++ ([Value.int .u32 (IntKind.wrap .u32 t31.1)] ++ en (Value.int .u8) (vpad 32 0 t31.2).1))))⟩) (vs := ([Value.int .i64 (IntKind.wrap .i64 t13.1)] ++ ([Value.int .i64 (IntKind.wrap .i64 t25.1)] ++ ([Value.int .i64 (IntKind.wrap .i64 t19.1)] ++ ([Value.int .u32 (IntKind.wrap .u32 t31.1)] ++ en (Value.int .u8) (vpad 32 0 t31.2).1))))) (cs := ([Value.int .i64 (IntKind.wrap .i64 t13.1)] ++ ([Value.int .i64 (IntKind.wrap .i64 t25.1)] ++ ([Value.int .i64 (IntKind.wrap .i64 t19.1)] ++ ([Value.int .u32 (IntKind.wrap .u32 t31.1)] ++ en (Value.int .u8) (vpad 32 0 t31.2).1))))) (ty := 25) 1 rfl rfl rfl (by kernel_rfl) (by kernel_rfl) (by kernel_rfl) (by exact rfl) (by kernel_rfl) (len_app (len1 _) (len_app (len1 _) (len_app (len1 _) (len_app (len1 _) (len_en _ (vpad 32 0 t31.2)))))) (one_app (one_cons rfl one_nil) (one_app (one_cons rfl one_nil) (one_app (one_cons rfl one_nil) (one_app (one_cons rfl one_nil) (one_en (fun _ => rfl) _))))) (hl_of (Sub4.all _) (len_eq (len_app (len1 _) (len_app (len1 _) (len_app (len1 _) (len_app (len1 _) (len_en _ (vpad 32 0 t31.2)))))) (len_app (len1 _) (len_app (len1 _) (len_app (len1 _) (len_app (len1 _) (len_en _ (vpad 32 0 t31.2)))))))) (cs' := ([Value.int .i64 (IntKind.wrap .i64 t13.1)] ++ ([Value.int .i64 (IntKind.wrap .i64 t25.1)] ++ ([Value.int .i64 (IntKind.wrap .i64 t19.1)] ++ ([Value.int .u32 (IntKind.wrap .u32 t31.1)] ++ en (Value.int .u8) (vpad 32 0 t31.2).1))))) (splc_all (len_eq (len_app (len1 _) (len_app (len1 _) (len_app (len1 _) (len_app (len1 _) (len_en _ (vpad 32 0 t31.2)))))) (len_app (len1 _) (len_app (len1 _) (len_app (len1 _) (len_app (len1 _) (len_en _ (vpad 32 0 t31.2)))))))) ?_
        refine ls_val (v := .int .i64 (0 : Int)) rfl rfl (by kernel_rfl) (fun w => by kernel_rfl) ?_
        refine ls_end ?_
        refine qn_then ?_
        refine cs_ret' ?_
        obtain rfl := Option.some.inj H
        refine qr_res (rs := [_, _]) rfl (fun w' hs => ⟨[.agg ⟨([Value.int .i64 (IntKind.wrap .i64 t13.1)] ++ ([Value.int .i64 (IntKind.wrap .i64 t25.1)] ++ ([Value.int .i64 (IntKind.wrap .i64 t19.1)] ++ ([Value.int .u32 (IntKind.wrap .u32 t31.1)] ++ en (Value.int .u8) (vpad 32 0 t31.2).1))))⟩, .int .i64 (0 : Int)], (.cell (by kernel_rfl) (run_cellres (by kernel_rfl) (by kernel_rfl) (len_app (len1 _) (len_app (len1 _) (len_app (len1 _) (len_app (len1 _) (len_en _ (vpad 32 0 t31.2)))))) (hs.holds 1 _ (by exact rfl))) (res_tmp (by kernel_rfl) (.nil))), (), rfl, hs.pick (ts := []) (cs := []) trivial (by decide)⟩)
      · replace H := ite_f q47 H
        refine cs_know (c := true) (congrArg Bool.not (Bool.eq_false_iff.mpr q47)) 39 (by kernel_rfl) ?_
        refine cs_true (by kernel_rfl) ?_
        refine cs_seq ?_
        refine cs_region (l := [_, _, _]) ?_
        refine ls_build (ps := []) (pl := #[(0, 1), (1, 1), (2, 1), (3, 1), (4, 32)]) (zv := .agg ⟨([Value.int .i64 (0 : Int)] ++ ([Value.int .i64 (0 : Int)] ++ ([Value.int .i64 (0 : Int)] ++ ([Value.int .u32 (0 : Int)] ++ en (Value.int .u8) (vrep 32 (0 : Int)).1))))⟩) (zc := ([Value.int .i64 (0 : Int)] ++ ([Value.int .i64 (0 : Int)] ++ ([Value.int .i64 (0 : Int)] ++ ([Value.int .u32 (0 : Int)] ++ en (Value.int .u8) (vrep 32 (0 : Int)).1))))) (r := ([Value.int .i64 (0 : Int)] ++ ([Value.int .i64 (0 : Int)] ++ ([Value.int .i64 (0 : Int)] ++ ([Value.int .u32 (0 : Int)] ++ en (Value.int .u8) (vrep 32 (0 : Int)).1))))) rfl rfl (by kernel_rfl) rfl (by kernel_rfl) (by kernel_rfl) (fun w => by kernel_rfl) (fun w => by kernel_rfl) rfl fill_nil ?_
        refine ls_storec (g := g2) (off := 0) (v := .agg ⟨([Value.int .i64 (0 : Int)] ++ ([Value.int .i64 (0 : Int)] ++ ([Value.int .i64 (0 : Int)] ++ ([Value.int .u32 (0 : Int)] ++ en (Value.int .u8) (vrep 32 (0 : Int)).1))))⟩) (vs := ([Value.int .i64 (0 : Int)] ++ ([Value.int .i64 (0 : Int)] ++ ([Value.int .i64 (0 : Int)] ++ ([Value.int .u32 (0 : Int)] ++ en (Value.int .u8) (vrep 32 (0 : Int)).1))))) (cs := ([Value.int .i64 (IntKind.wrap .i64 t13.1)] ++ ([Value.int .i64 (IntKind.wrap .i64 t25.1)] ++ ([Value.int .i64 (IntKind.wrap .i64 t19.1)] ++ ([Value.int .u32 (IntKind.wrap .u32 t31.1)] ++ en (Value.int .u8) (vpad 32 0 t31.2).1))))) (ty := 25) 1 rfl rfl rfl (by kernel_rfl) (by kernel_rfl) (by kernel_rfl) (by exact rfl) (by kernel_rfl) (len_app (len1 _) (len_app (len1 _) (len_app (len1 _) (len_app (len1 _) (len_en _ (vrep 32 (0 : Int))))))) (one_app (one_cons rfl one_nil) (one_app (one_cons rfl one_nil) (one_app (one_cons rfl one_nil) (one_app (one_cons rfl one_nil) (one_en (fun _ => rfl) _))))) (hl_of (Sub4.all _) (len_eq (len_app (len1 _) (len_app (len1 _) (len_app (len1 _) (len_app (len1 _) (len_en _ (vrep 32 (0 : Int))))))) (len_app (len1 _) (len_app (len1 _) (len_app (len1 _) (len_app (len1 _) (len_en _ (vpad 32 0 t31.2)))))))) (cs' := ([Value.int .i64 (0 : Int)] ++ ([Value.int .i64 (0 : Int)] ++ ([Value.int .i64 (0 : Int)] ++ ([Value.int .u32 (0 : Int)] ++ en (Value.int .u8) (vrep 32 (0 : Int)).1))))) (splc_all (len_eq (len_app (len1 _) (len_app (len1 _) (len_app (len1 _) (len_app (len1 _) (len_en _ (vrep 32 (0 : Int))))))) (len_app (len1 _) (len_app (len1 _) (len_app (len1 _) (len_app (len1 _) (len_en _ (vpad 32 0 t31.2)))))))) ?_
        refine ls_val (v := .int .i64 (11 : Int)) rfl rfl (by kernel_rfl) (fun w => by kernel_rfl) ?_
        refine ls_end ?_
        refine qn_then ?_
        refine cs_ret' ?_
        refine qr_then ?_
        obtain rfl := Option.some.inj H
        refine qr_res (rs := [_, _]) rfl (fun w' hs => ⟨[.agg ⟨([Value.int .i64 (0 : Int)] ++ ([Value.int .i64 (0 : Int)] ++ ([Value.int .i64 (0 : Int)] ++ ([Value.int .u32 (0 : Int)] ++ en (Value.int .u8) (vrep 32 (0 : Int)).1))))⟩, .int .i64 (11 : Int)], (.cell (by kernel_rfl) (run_cellres (by kernel_rfl) (by kernel_rfl) (len_app (len1 _) (len_app (len1 _) (len_app (len1 _) (len_app (len1 _) (len_en _ (vrep 32 (0 : Int))))))) (hs.holds 1 _ (by exact rfl))) (res_tmp (by kernel_rfl) (.nil))), (), rfl, hs.pick (ts := []) (cs := []) trivial (by decide)⟩)

/-! ### shadowbox/shadowboxref06.None: function 13 -/
def shadowboxref06_None.lo2 (a0 : (Int × Int × Int × Int × (Vc Int 32))) : Nat → Int → Option (Bool)
  | 0, _ => none
  | k2 + 1, x3_2 => (if x3_2 < (32 : Int) then (if 0 ≤ x3_2 then lt ((a0.2.2.2.2.1.getD (x3_2).toNat (0 : Int))) fun y4 => (if y4 = (0 : Int) then (shadowboxref06_None.lo2 a0 k2) (IntKind.wrap .i64 (x3_2 + (1 : Int))) else some false) else none) else some true)
def shadowboxref06_None.jo1 (k : Nat) (a0 : (Int × Int × Int × Int × (Vc Int 32))) : Option (Bool) := shadowboxref06_None.lo2 a0 k (0 : Int)
def shadowboxref06_None.f (k : Nat) (a0 : (Int × Int × Int × Int × (Vc Int 32))) : Option (Bool) :=
  (if a0.1 = (0 : Int) then (if a0.2.1 = (0 : Int) then (if a0.2.2.1 = (0 : Int) then (if a0.2.2.2.1 = (0 : Int) then (shadowboxref06_None.jo1 k a0) else some false) else some false) else some false) else some false)
set_option maxRecDepth 100000 in
set_option maxHeartbeats 4000000 in
theorem shadowboxref06_None.calls (k : Nat) (a0 : (Int × Int × Int × Int × (Vc Int 32))) (r : Bool) (b : Bs) (hs0 : St b (stl []) b.w) (H : shadowboxref06_None.f k a0 = some r) :
    Calls Try.prog 13 #[.agg ⟨([Value.int .i64 a0.1] ++ ([Value.int .i64 a0.2.1] ++ ([Value.int .i64 a0.2.2.1] ++ ([Value.int .u32 a0.2.2.2.1] ++ en (Value.int .u8) a0.2.2.2.2.1))))⟩] b.w fun e w' => ∃ x : Unit, e = .returned (.bool r) ∧ St b (stl []) w' := by
  unfold shadowboxref06_None.f at H
  refine enterb (n := 31) Try.func13 rfl (by kernel_rfl) (by kernel_rfl) hs0 ?_
  refine cs_sub (s0) (sub_nil _) ?_
  refine cs_seq ?_
  refine cs_region (l := [_, _]) ?_
  refine ls_new rfl rfl (by kernel_rfl) 0 (fun g => .pointer (some ⟨g, 0, none⟩)) (.cells ⟨([Value.int .i64 a0.1] ++ ([Value.int .i64 a0.2.1] ++ ([Value.int .i64 a0.2.2.1] ++ ([Value.int .u32 a0.2.2.2.1] ++ en (Value.int .u8) a0.2.2.2.2.1))))⟩ 25) (fun w => by kernel_rfl) ?_
  intro g1
  refine ls_val (v := .bool false) rfl rfl (by kernel_rfl) (fun w => by kernel_rfl) ?_
  refine ls_end ?_
  refine qn_then ?_
  refine cs_cut (fun f S => ∃ (fR : Fr), f = upd fR 1 (.pointer (some ⟨g1, 0, none⟩)) ∧ S = sput s0 0 (some (Ck.var 25 g1 (([Value.int .i64 a0.1] ++ ([Value.int .i64 a0.2.1] ++ ([Value.int .i64 a0.2.2.1] ++ ([Value.int .u32 a0.2.2.2.1] ++ en (Value.int .u8) a0.2.2.2.2.1))))))) ∧ shadowboxref06_None.jo1 k a0 = some r) ?_ ?_
  · skip
    refine cs_seq ?_
    refine cs_region (l := [_, _, _, _, _, _, _, _, _, _, _, _, _, _, _, _, _, _]) ?_
    refine ls_val (v := .pointer (some ⟨g1, (0 + 0), none⟩)) rfl rfl (by kernel_rfl) (fun w => by kernel_rfl) ?_
    refine ls_load (a0 := ⟨g1, (0 + 0), none⟩) (v := .int .i64 a0.1) (de := (TypeDesc.int .i64)) rfl rfl (by kernel_rfl) rfl (by kernel_rfl) (by kernel_rfl) (by kernel_rfl) (fun w hs => (hs.var (k := 0) (by exact rfl) (Sub4.trans (Sub4.all _) (Sub4.head _ _)))) ?_
    refine ls_val (v := .bool (!decide (a0.1 = (0 : Int)))) rfl rfl (by kernel_rfl) (fun w => by kernel_rfl) ?_
    refine ls_val (v := .bool (!decide (a0.1 = (0 : Int)))) rfl rfl (by kernel_rfl) (fun w => by kernel_rfl) ?_
    by_cases q7 : a0.1 = (0 : Int)
    · replace H := ite_t q7 H
      refine ls_know (c := false) (congrArg Bool.not (dec_t q7)) 7 (by kernel_rfl) ?_
      refine ls_on (j := 3) (t := 7) (b := false) rfl rfl (by kernel_rfl) (by kernel_rfl) ?_
      refine ls_val (v := .pointer (some ⟨g1, (0 + 1), none⟩)) rfl rfl (by kernel_rfl) (fun w => by kernel_rfl) ?_
      refine ls_on (j := 3) (t := 7) (b := false) rfl rfl (by kernel_rfl) (by kernel_rfl) ?_
      refine ls_load (a0 := ⟨g1, (0 + 1), none⟩) (v := .int .i64 a0.2.1) (de := (TypeDesc.int .i64)) rfl rfl (by kernel_rfl) rfl (by kernel_rfl) (by kernel_rfl) (by kernel_rfl) (fun w hs => (hs.var (k := 0) (by exact rfl) (Sub4.trans (Sub4.all _) (Sub4.skip (n := 1) (len1 _) (Sub4.head _ _))))) ?_
      refine ls_on (j := 3) (t := 7) (b := false) rfl rfl (by kernel_rfl) (by kernel_rfl) ?_
      refine ls_val (v := .bool (!decide (a0.2.1 = (0 : Int)))) rfl rfl (by kernel_rfl) (fun w => by kernel_rfl) ?_
      refine ls_val (v := .bool (!decide (a0.2.1 = (0 : Int)))) rfl rfl (by kernel_rfl) (fun w => by kernel_rfl) ?_
      refine ls_val (v := .bool (!decide (a0.2.1 = (0 : Int)))) rfl rfl (by kernel_rfl) (fun w => by kernel_rfl) ?_
      by_cases q8 : a0.2.1 = (0 : Int)
      · replace H := ite_t q8 H
        refine ls_know (c := false) (congrArg Bool.not (dec_t q8)) 12 (by kernel_rfl) ?_
        refine ls_on (j := 8) (t := 12) (b := false) rfl rfl (by kernel_rfl) (by kernel_rfl) ?_
        refine ls_val (v := .pointer (some ⟨g1, (0 + 2), none⟩)) rfl rfl (by kernel_rfl) (fun w => by kernel_rfl) ?_
        refine ls_on (j := 8) (t := 12) (b := false) rfl rfl (by kernel_rfl) (by kernel_rfl) ?_
        refine ls_load (a0 := ⟨g1, (0 + 2), none⟩) (v := .int .i64 a0.2.2.1) (de := (TypeDesc.int .i64)) rfl rfl (by kernel_rfl) rfl (by kernel_rfl) (by kernel_rfl) (by kernel_rfl) (fun w hs => (hs.var (k := 0) (by exact rfl) (Sub4.trans (Sub4.all _) (Sub4.skip (n := 1) (len1 _) (Sub4.skip (n := 1) (len1 _) (Sub4.head _ _)))))) ?_
        refine ls_on (j := 8) (t := 12) (b := false) rfl rfl (by kernel_rfl) (by kernel_rfl) ?_
        refine ls_val (v := .bool (!decide (a0.2.2.1 = (0 : Int)))) rfl rfl (by kernel_rfl) (fun w => by kernel_rfl) ?_
        refine ls_val (v := .bool (!decide (a0.2.2.1 = (0 : Int)))) rfl rfl (by kernel_rfl) (fun w => by kernel_rfl) ?_
        refine ls_val (v := .bool (!decide (a0.2.2.1 = (0 : Int)))) rfl rfl (by kernel_rfl) (fun w => by kernel_rfl) ?_
        by_cases q9 : a0.2.2.1 = (0 : Int)
        · replace H := ite_t q9 H
          refine ls_know (c := false) (congrArg Bool.not (dec_t q9)) 17 (by kernel_rfl) ?_
          refine ls_on (j := 13) (t := 17) (b := false) rfl rfl (by kernel_rfl) (by kernel_rfl) ?_
          refine ls_val (v := .pointer (some ⟨g1, (0 + 3), none⟩)) rfl rfl (by kernel_rfl) (fun w => by kernel_rfl) ?_
          refine ls_on (j := 13) (t := 17) (b := false) rfl rfl (by kernel_rfl) (by kernel_rfl) ?_
          refine ls_load (a0 := ⟨g1, (0 + 3), none⟩) (v := .int .u32 a0.2.2.2.1) (de := (TypeDesc.int .u32)) rfl rfl (by kernel_rfl) rfl (by kernel_rfl) (by kernel_rfl) (by kernel_rfl) (fun w hs => (hs.var (k := 0) (by exact rfl) (Sub4.trans (Sub4.all _) (Sub4.skip (n := 1) (len1 _) (Sub4.skip (n := 1) (len1 _) (Sub4.skip (n := 1) (len1 _) (Sub4.head _ _))))))) ?_
          refine ls_on (j := 13) (t := 17) (b := false) rfl rfl (by kernel_rfl) (by kernel_rfl) ?_
          refine ls_val (v := .bool (!decide (a0.2.2.2.1 = (0 : Int)))) rfl rfl (by kernel_rfl) (fun w => by kernel_rfl) ?_
          refine ls_val (v := .bool (!decide (a0.2.2.2.1 = (0 : Int)))) rfl rfl (by kernel_rfl) (fun w => by kernel_rfl) ?_
          refine ls_end ?_
          refine qn_then ?_
          by_cases q10 : a0.2.2.2.1 = (0 : Int)
          · replace H := ite_t q10 H
            refine cs_know (c := false) (congrArg Bool.not (dec_t q10)) 21 (by kernel_rfl) ?_
            refine cs_false (by kernel_rfl) ?_
            refine cs_skip' ?_
            refine qn_meet (sput s0 0 (some (Ck.var 25 g1 (([Value.int .i64 a0.1] ++ ([Value.int .i64 a0.2.1] ++ ([Value.int .i64 a0.2.2.1] ++ ([Value.int .u32 a0.2.2.2.1] ++ en (Value.int .u8) a0.2.2.2.2.1)))))))) ⟨_, fr_next (rfl) (by kernel_rfl), rfl, H⟩ (sub_put (by exact rfl) (sub_nil _))
          · replace H := ite_f q10 H
            refine cs_know (c := true) (congrArg Bool.not (dec_f q10)) 21 (by kernel_rfl) ?_
            refine cs_true (by kernel_rfl) ?_
            refine cs_seq ?_
            refine cs_region (l := [_]) ?_
            refine ls_val (v := .bool false) rfl rfl (by kernel_rfl) (fun w => by kernel_rfl) ?_
            refine ls_end ?_
            refine qn_then ?_
            refine cs_ret' ?_
            refine qr_then ?_
            obtain rfl := Option.some.inj H
            refine qr_res (rs := [_]) rfl (fun w' hs => ⟨[.bool false], (res_tmp (by kernel_rfl) (.nil)), (), rfl, hs.pick (ts := []) (cs := []) trivial (by decide)⟩)
        · replace H := ite_f q9 H
          refine ls_know (c := true) (congrArg Bool.not (dec_f q9)) 17 (by kernel_rfl) ?_
          refine ls_off (j := 13) (t := 17) (b := false) (c := true) rfl rfl (by kernel_rfl) (by kernel_rfl) rfl rfl (by kernel_rfl) ?_
          refine ls_off (j := 13) (t := 17) (b := false) (c := true) rfl rfl (by kernel_rfl) (by kernel_rfl) rfl rfl (by kernel_rfl) ?_
          refine ls_off (j := 13) (t := 17) (b := false) (c := true) rfl rfl (by kernel_rfl) (by kernel_rfl) rfl rfl (by kernel_rfl) ?_
          refine ls_val (v := .bool true) rfl rfl (by kernel_rfl) (fun w => by kernel_rfl) ?_
          refine ls_end ?_
          refine qn_then ?_
          refine cs_true (by kernel_rfl) ?_
          refine cs_seq ?_
          refine cs_region (l := [_]) ?_
          refine ls_val (v := .bool false) rfl rfl (by kernel_rfl) (fun w => by kernel_rfl) ?_
          refine ls_end ?_
          refine qn_then ?_
          refine cs_ret' ?_
          refine qr_then ?_
          obtain rfl := Option.some.inj H
          refine qr_res (rs := [_]) rfl (fun w' hs => ⟨[.bool false], (res_tmp (by kernel_rfl) (.nil)), (), rfl, hs.pick (ts := []) (cs := []) trivial (by decide)⟩)
      · replace H := ite_f q8 H
        refine ls_know (c := true) (congrArg Bool.not (dec_f q8)) 12 (by kernel_rfl) ?_
        refine ls_off (j := 8) (t := 12) (b := false) (c := true) rfl rfl (by kernel_rfl) (by kernel_rfl) rfl rfl (by kernel_rfl) ?_
        refine ls_off (j := 8) (t := 12) (b := false) (c := true) rfl rfl (by kernel_rfl) (by kernel_rfl) rfl rfl (by kernel_rfl) ?_
        refine ls_off (j := 8) (t := 12) (b := false) (c := true) rfl rfl (by kernel_rfl) (by kernel_rfl) rfl rfl (by kernel_rfl) ?_
        refine ls_val (v := .bool true) rfl rfl (by kernel_rfl) (fun w => by kernel_rfl) ?_
        refine ls_val (v := .bool true) rfl rfl (by kernel_rfl) (fun w => by kernel_rfl) ?_
        refine ls_off (j := 13) (t := 17) (b := false) (c := true) rfl rfl (by kernel_rfl) (by kernel_rfl) rfl rfl (by kernel_rfl) ?_
        refine ls_off (j := 13) (t := 17) (b := false) (c := true) rfl rfl (by kernel_rfl) (by kernel_rfl) rfl rfl (by kernel_rfl) ?_
        refine ls_off (j := 13) (t := 17) (b := false) (c := true) rfl rfl (by kernel_rfl) (by kernel_rfl) rfl rfl (by kernel_rfl) ?_
        refine ls_val (v := .bool true) rfl rfl (by kernel_rfl) (fun w => by kernel_rfl) ?_
        refine ls_end ?_
        refine qn_then ?_
        refine cs_true (by kernel_rfl) ?_
        refine cs_seq ?_
        refine cs_region (l := [_]) ?_
        refine ls_val (v := .bool false) rfl rfl (by kernel_rfl) (fun w => by kernel_rfl) ?_
        refine ls_end ?_
        refine qn_then ?_
        refine cs_ret' ?_
        refine qr_then ?_
        obtain rfl := Option.some.inj H
        refine qr_res (rs := [_]) rfl (fun w' hs => ⟨[.bool false], (res_tmp (by kernel_rfl) (.nil)), (), rfl, hs.pick (ts := []) (cs := []) trivial (by decide)⟩)
    · replace H := ite_f q7 H
      refine ls_know (c := true) (congrArg Bool.not (dec_f q7)) 7 (by kernel_rfl) ?_
      refine ls_off (j := 3) (t := 7) (b := false) (c := true) rfl rfl (by kernel_rfl) (by kernel_rfl) rfl rfl (by kernel_rfl) ?_
      refine ls_off (j := 3) (t := 7) (b := false) (c := true) rfl rfl (by kernel_rfl) (by kernel_rfl) rfl rfl (by kernel_rfl) ?_
      refine ls_off (j := 3) (t := 7) (b := false) (c := true) rfl rfl (by kernel_rfl) (by kernel_rfl) rfl rfl (by kernel_rfl) ?_
      refine ls_val (v := .bool true) rfl rfl (by kernel_rfl) (fun w => by kernel_rfl) ?_
      refine ls_val (v := .bool true) rfl rfl (by kernel_rfl) (fun w => by kernel_rfl) ?_
      refine ls_off (j := 8) (t := 12) (b := false) (c := true) rfl rfl (by kernel_rfl) (by kernel_rfl) rfl rfl (by kernel_rfl) ?_
      refine ls_off (j := 8) (t := 12) (b := false) (c := true) rfl rfl (by kernel_rfl) (by kernel_rfl) rfl rfl (by kernel_rfl) ?_
      refine ls_off (j := 8) (t := 12) (b := false) (c := true) rfl rfl (by kernel_rfl) (by kernel_rfl) rfl rfl (by kernel_rfl) ?_
      refine ls_val (v := .bool true) rfl rfl (by kernel_rfl) (fun w => by kernel_rfl) ?_
      refine ls_val (v := .bool true) rfl rfl (by kernel_rfl) (fun w => by kernel_rfl) ?_
      refine ls_off (j := 13) (t := 17) (b := false) (c := true) rfl rfl (by kernel_rfl) (by kernel_rfl) rfl rfl (by kernel_rfl) ?_
      refine ls_off (j := 13) (t := 17) (b := false) (c := true) rfl rfl (by kernel_rfl) (by kernel_rfl) rfl rfl (by kernel_rfl) ?_
      refine ls_off (j := 13) (t := 17) (b := false) (c := true) rfl rfl (by kernel_rfl) (by kernel_rfl) rfl rfl (by kernel_rfl) ?_
      refine ls_val (v := .bool true) rfl rfl (by kernel_rfl) (fun w => by kernel_rfl) ?_
      refine ls_end ?_
      refine qn_then ?_
      refine cs_true (by kernel_rfl) ?_
      refine cs_seq ?_
      refine cs_region (l := [_]) ?_
      refine ls_val (v := .bool false) rfl rfl (by kernel_rfl) (fun w => by kernel_rfl) ?_
      refine ls_end ?_
      refine qn_then ?_
      refine cs_ret' ?_
      refine qr_then ?_
      obtain rfl := Option.some.inj H
      refine qr_res (rs := [_]) rfl (fun w' hs => ⟨[.bool false], (res_tmp (by kernel_rfl) (.nil)), (), rfl, hs.pick (ts := []) (cs := []) trivial (by decide)⟩)
  · rintro f S ⟨fr1, rfl, rfl, H⟩
    replace H : (shadowboxref06_None.lo2 a0 k (0 : Int)) = some r := H
    refine cs_seq ?_
    refine cs_seq ?_
    refine cs_region (l := [_]) ?_
    refine ls_val (v := .int .i64 (0 : Int)) rfl rfl (by kernel_rfl) (fun w => by kernel_rfl) ?_
    refine ls_end ?_
    refine qn_then ?_
    refine cs_block ?_
    refine cs_sub (sput s0 0 (some (Ck.var 25 g1 (([Value.int .i64 a0.1] ++ ([Value.int .i64 a0.2.1] ++ ([Value.int .i64 a0.2.2.1] ++ ([Value.int .u32 a0.2.2.2.1] ++ en (Value.int .u8) a0.2.2.2.2.1)))))))) (sub_put (by exact rfl) (sub_nil _)) ?_
    refine cs_loop (fun kk f S => ∃ (fR : Fr) (x3_2 : Int), f = upd (upd fR 1 (.pointer (some ⟨g1, 0, none⟩))) 3 (.int .i64 x3_2) ∧ S = sput s0 0 (some (Ck.var 25 g1 (([Value.int .i64 a0.1] ++ ([Value.int .i64 a0.2.1] ++ ([Value.int .i64 a0.2.2.1] ++ ([Value.int .u32 a0.2.2.2.1] ++ en (Value.int .u8) a0.2.2.2.2.1))))))) ∧ shadowboxref06_None.lo2 a0 kk x3_2 = some r) k ?_ ?_ ?_
    · exact ⟨_, (0 : Int), fr_next (fr_next (rfl) (by kernel_rfl)) (by kernel_rfl), rfl, H⟩
    · rintro f S ⟨fr2, x3_2, rfl, rfl, H⟩; cases H
    · rintro k2 f S ⟨fr2, x3_2, rfl, rfl, H⟩
      replace H : ((if x3_2 < (32 : Int) then (if 0 ≤ x3_2 then lt ((a0.2.2.2.2.1.getD (x3_2).toNat (0 : Int))) fun y4 => (if y4 = (0 : Int) then (shadowboxref06_None.lo2 a0 k2) (IntKind.wrap .i64 (x3_2 + (1 : Int))) else some false) else none) else some true)) = some r := H
      refine cs_seq ?_
      refine cs_seq ?_
      refine cs_region (l := [_, _]) ?_
      refine ls_val (v := .int .i64 x3_2) rfl rfl (by kernel_rfl) (fun w => by kernel_rfl) ?_
      refine ls_val (v := .bool (decide (x3_2 < (32 : Int)))) rfl rfl (by kernel_rfl) (fun w => by kernel_rfl) ?_
      refine ls_end ?_
      refine qn_then ?_
      by_cases q2 : x3_2 < (32 : Int)
      · replace H := ite_t q2 H
        refine cs_know (c := true) (dec_t q2) 23 (by kernel_rfl) ?_
        refine cs_true (by kernel_rfl) ?_
        refine cs_skip' ?_
        refine qn_then ?_
        refine cs_seq ?_
        refine cs_block ?_
        refine cs_seq ?_
        refine cs_region (l := [_, _, _, _, _]) ?_
        refine ls_val (v := .int .i64 x3_2) rfl rfl (by kernel_rfl) (fun w => by kernel_rfl) ?_
        refine ls_val (v := .pointer (some ⟨g1, (0 + 4), none⟩)) rfl rfl (by kernel_rfl) (fun w => by kernel_rfl) ?_
        obtain ⟨q3, H⟩ := ite_need H
        refine ls_idxa1 (g := g1) (off := (0 + 4)) (i := x3_2) (kk := .i64) (ln := 32) (e := 5) rfl rfl (by kernel_rfl) rfl (by kernel_rfl) (by kernel_rfl) (by kernel_rfl) (by kernel_rfl) q3 q2 ?_
        obtain ⟨y4, hy5, H⟩ := lt_some H
        refine ls_load (a0 := ⟨g1, ((0 + 4) + (x3_2).toNat), none⟩) (v := .int .u8 (a0.2.2.2.2.1.getD (x3_2).toNat (0 : Int))) (de := (TypeDesc.int .u8)) rfl rfl (by kernel_rfl) rfl (by kernel_rfl) (by kernel_rfl) (by kernel_rfl) (fun w hs => (hs.var (k := 0) (by exact rfl) (Sub4.trans (Sub4.trans (Sub4.all _) (Sub4.skip (n := 1) (len1 _) (Sub4.skip (n := 1) (len1 _) (Sub4.skip (n := 1) (len1 _) (Sub4.skip (n := 1) (len1 _) (Sub4.all _)))))) (Sub4.one (Value.int .u8) a0.2.2.2.2.1 0 (by have := a0.2.2.2.2.2; omega))))) ?_
        refine ls_ren 29 (v := .int .u8 (a0.2.2.2.2.1.getD (x3_2).toNat (0 : Int))) (v' := .int .u8 y4) (by kernel_rfl) (by rw [hy5]) ?_
        refine ls_val (v := .bool (!decide (y4 = (0 : Int)))) rfl rfl (by kernel_rfl) (fun w => by kernel_rfl) ?_
        refine ls_end ?_
        refine qn_then ?_
        by_cases q6 : y4 = (0 : Int)
        · replace H := ite_t q6 H
          refine cs_know (c := false) (congrArg Bool.not (dec_t q6)) 30 (by kernel_rfl) ?_
          refine cs_false (by kernel_rfl) ?_
          refine cs_skip' ?_
          refine qn_block ?_
          refine qn_then ?_
          refine cs_region (l := [_, _, _]) ?_
          refine ls_val (v := .int .i64 x3_2) rfl rfl (by kernel_rfl) (fun w => by kernel_rfl) ?_
          refine ls_val (v := .int .i64 (IntKind.wrap .i64 (x3_2 + (1 : Int)))) rfl rfl (by kernel_rfl) (fun w => by kernel_rfl) ?_
          refine ls_val (v := .int .i64 (IntKind.wrap .i64 (x3_2 + (1 : Int)))) rfl rfl (by kernel_rfl) (fun w => by kernel_rfl) ?_
          refine ls_end ?_
          refine qn_again k2 (sput s0 0 (some (Ck.var 25 g1 (([Value.int .i64 a0.1] ++ ([Value.int .i64 a0.2.1] ++ ([Value.int .i64 a0.2.2.1] ++ ([Value.int .u32 a0.2.2.2.1] ++ en (Value.int .u8) a0.2.2.2.2.1)))))))) (Nat.le_refl _) ⟨_, (IntKind.wrap .i64 (x3_2 + (1 : Int))), fr_next (fr_next (rfl) (by kernel_rfl)) (by kernel_rfl), rfl, H⟩ (sub_put (by exact rfl) (sub_nil _))
        · replace H := ite_f q6 H
          refine cs_know (c := true) (congrArg Bool.not (dec_f q6)) 30 (by kernel_rfl) ?_
          refine cs_true (by kernel_rfl) ?_
          refine cs_seq ?_
          refine cs_region (l := [_]) ?_
          refine ls_val (v := .bool false) rfl rfl (by kernel_rfl) (fun w => by kernel_rfl) ?_
          refine ls_end ?_
          refine qn_then ?_
          refine cs_ret' ?_
          refine qr_block ?_
          refine qr_then ?_
          refine qr_then ?_
          refine qr_block ?_
          refine qr_then ?_
          obtain rfl := Option.some.inj H
          refine qr_res (rs := [_]) rfl (fun w' hs => ⟨[.bool false], (res_tmp (by kernel_rfl) (.nil)), (), rfl, hs.pick (ts := []) (cs := []) trivial (by decide)⟩)
      · replace H := ite_f q2 H
        refine cs_know (c := false) (dec_f q2) 23 (by kernel_rfl) ?_
        refine cs_false (by kernel_rfl) ?_
        refine cs_exit' ?_
        refine qx_then ?_
        refine qx_then ?_
        refine qx_same ?_
        refine qn_then ?_
        refine cs_seq ?_
        refine cs_region (l := [_]) ?_
        refine ls_val (v := .bool true) rfl rfl (by kernel_rfl) (fun w => by kernel_rfl) ?_
        refine ls_end ?_
        refine qn_then ?_
        refine cs_ret' ?_
        obtain rfl := Option.some.inj H
        refine qr_res (rs := [_]) rfl (fun w' hs => ⟨[.bool true], (res_tmp (by kernel_rfl) (.nil)), (), rfl, hs.pick (ts := []) (cs := []) trivial (by decide)⟩)

/-! ### shadowbox/shadowboxref06.Sectors: function 17 -/
def shadowboxref06_Sectors.f (k : Nat) (a0 : (Int × Int × Int × Int × (Vc Int 32))) : Option (Int) :=
  (if a0.2.2.1 < (1 : Int) then some (0 : Int) else (if a0.2.2.1 > (65536 : Int) then some (0 : Int) else lt (IntKind.wrap .i64 (a0.2.2.1 + (511 : Int))) fun y4 => lt (IntKind.wrap .i64 (Int.tdiv y4 (512 : Int))) fun y6 => some y6))
set_option maxRecDepth 100000 in
set_option maxHeartbeats 4000000 in
theorem shadowboxref06_Sectors.calls (k : Nat) (a0 : (Int × Int × Int × Int × (Vc Int 32))) (r : Int) (b : Bs) (hs0 : St b (stl []) b.w) (H : shadowboxref06_Sectors.f k a0 = some r) :
    Calls Try.prog 17 #[.agg ⟨([Value.int .i64 a0.1] ++ ([Value.int .i64 a0.2.1] ++ ([Value.int .i64 a0.2.2.1] ++ ([Value.int .u32 a0.2.2.2.1] ++ en (Value.int .u8) a0.2.2.2.2.1))))⟩] b.w fun e w' => ∃ x : Unit, e = .returned (.int .i64 r) ∧ St b (stl []) w' := by
  unfold shadowboxref06_Sectors.f at H
  refine enterb (n := 15) Try.func17 rfl (by kernel_rfl) (by kernel_rfl) hs0 ?_
  refine cs_sub (s0) (sub_nil _) ?_
  refine cs_seq ?_
  refine cs_region (l := [_, _]) ?_
  refine ls_new rfl rfl (by kernel_rfl) 0 (fun g => .pointer (some ⟨g, 0, none⟩)) (.cells ⟨([Value.int .i64 a0.1] ++ ([Value.int .i64 a0.2.1] ++ ([Value.int .i64 a0.2.2.1] ++ ([Value.int .u32 a0.2.2.2.1] ++ en (Value.int .u8) a0.2.2.2.2.1))))⟩ 25) (fun w => by kernel_rfl) ?_
  intro g1
  refine ls_val (v := .int .i64 (0 : Int)) rfl rfl (by kernel_rfl) (fun w => by kernel_rfl) ?_
  refine ls_end ?_
  refine qn_then ?_
  refine cs_seq ?_
  refine cs_seq ?_
  refine cs_region (l := [_, _, _, _, _, _, _, _]) ?_
  refine ls_val (v := .pointer (some ⟨g1, (0 + 2), none⟩)) rfl rfl (by kernel_rfl) (fun w => by kernel_rfl) ?_
  refine ls_load (a0 := ⟨g1, (0 + 2), none⟩) (v := .int .i64 a0.2.2.1) (de := (TypeDesc.int .i64)) rfl rfl (by kernel_rfl) rfl (by kernel_rfl) (by kernel_rfl) (by kernel_rfl) (fun w hs => (hs.var (k := 0) (by exact rfl) (Sub4.trans (Sub4.all _) (Sub4.skip (n := 1) (len1 _) (Sub4.skip (n := 1) (len1 _) (Sub4.head _ _)))))) ?_
  refine ls_val (v := .bool (decide (a0.2.2.1 < (1 : Int)))) rfl rfl (by kernel_rfl) (fun w => by kernel_rfl) ?_
  refine ls_val (v := .bool (decide (a0.2.2.1 < (1 : Int)))) rfl rfl (by kernel_rfl) (fun w => by kernel_rfl) ?_
  by_cases q2 : a0.2.2.1 < (1 : Int)
  · replace H := ite_t q2 H
    refine ls_know (c := true) (dec_t q2) 6 (by kernel_rfl) ?_
    refine ls_off (j := 3) (t := 6) (b := false) (c := true) rfl rfl (by kernel_rfl) (by kernel_rfl) rfl rfl (by kernel_rfl) ?_
    refine ls_off (j := 3) (t := 6) (b := false) (c := true) rfl rfl (by kernel_rfl) (by kernel_rfl) rfl rfl (by kernel_rfl) ?_
    refine ls_off (j := 3) (t := 6) (b := false) (c := true) rfl rfl (by kernel_rfl) (by kernel_rfl) rfl rfl (by kernel_rfl) ?_
    refine ls_val (v := .bool true) rfl rfl (by kernel_rfl) (fun w => by kernel_rfl) ?_
    refine ls_end ?_
    refine qn_then ?_
    refine cs_true (by kernel_rfl) ?_
    refine cs_seq ?_
    refine cs_region (l := [_]) ?_
    refine ls_val (v := .int .i64 (0 : Int)) rfl rfl (by kernel_rfl) (fun w => by kernel_rfl) ?_
    refine ls_end ?_
    refine qn_then ?_
    refine cs_ret' ?_
    refine qr_then ?_
    obtain rfl := Option.some.inj H
    refine qr_res (rs := [_]) rfl (fun w' hs => ⟨[.int .i64 (0 : Int)], (res_tmp (by kernel_rfl) (.nil)), (), rfl, hs.pick (ts := []) (cs := []) trivial (by decide)⟩)
  · replace H := ite_f q2 H
    refine ls_know (c := false) (dec_f q2) 6 (by kernel_rfl) ?_
    refine ls_on (j := 3) (t := 6) (b := false) rfl rfl (by kernel_rfl) (by kernel_rfl) ?_
    refine ls_val (v := .pointer (some ⟨g1, (0 + 2), none⟩)) rfl rfl (by kernel_rfl) (fun w => by kernel_rfl) ?_
    refine ls_on (j := 3) (t := 6) (b := false) rfl rfl (by kernel_rfl) (by kernel_rfl) ?_
    refine ls_load (a0 := ⟨g1, (0 + 2), none⟩) (v := .int .i64 a0.2.2.1) (de := (TypeDesc.int .i64)) rfl rfl (by kernel_rfl) rfl (by kernel_rfl) (by kernel_rfl) (by kernel_rfl) (fun w hs => (hs.var (k := 0) (by exact rfl) (Sub4.trans (Sub4.all _) (Sub4.skip (n := 1) (len1 _) (Sub4.skip (n := 1) (len1 _) (Sub4.head _ _)))))) ?_
    refine ls_on (j := 3) (t := 6) (b := false) rfl rfl (by kernel_rfl) (by kernel_rfl) ?_
    refine ls_val (v := .bool (decide (a0.2.2.1 > (65536 : Int)))) rfl rfl (by kernel_rfl) (fun w => by kernel_rfl) ?_
    refine ls_val (v := .bool (decide (a0.2.2.1 > (65536 : Int)))) rfl rfl (by kernel_rfl) (fun w => by kernel_rfl) ?_
    refine ls_end ?_
    refine qn_then ?_
    by_cases q3 : a0.2.2.1 > (65536 : Int)
    · replace H := ite_t q3 H
      refine cs_know (c := true) (dec_t q3) 10 (by kernel_rfl) ?_
      refine cs_true (by kernel_rfl) ?_
      refine cs_seq ?_
      refine cs_region (l := [_]) ?_
      refine ls_val (v := .int .i64 (0 : Int)) rfl rfl (by kernel_rfl) (fun w => by kernel_rfl) ?_
      refine ls_end ?_
      refine qn_then ?_
      refine cs_ret' ?_
      refine qr_then ?_
      obtain rfl := Option.some.inj H
      refine qr_res (rs := [_]) rfl (fun w' hs => ⟨[.int .i64 (0 : Int)], (res_tmp (by kernel_rfl) (.nil)), (), rfl, hs.pick (ts := []) (cs := []) trivial (by decide)⟩)
    · replace H := ite_f q3 H
      refine cs_know (c := false) (dec_f q3) 10 (by kernel_rfl) ?_
      refine cs_false (by kernel_rfl) ?_
      refine cs_skip' ?_
      refine qn_then ?_
      refine cs_seq ?_
      refine cs_region (l := [_, _, _, _, _]) ?_
      refine ls_val (v := .pointer (some ⟨g1, (0 + 2), none⟩)) rfl rfl (by kernel_rfl) (fun w => by kernel_rfl) ?_
      refine ls_load (a0 := ⟨g1, (0 + 2), none⟩) (v := .int .i64 a0.2.2.1) (de := (TypeDesc.int .i64)) rfl rfl (by kernel_rfl) rfl (by kernel_rfl) (by kernel_rfl) (by kernel_rfl) (fun w hs => (hs.var (k := 0) (by exact rfl) (Sub4.trans (Sub4.all _) (Sub4.skip (n := 1) (len1 _) (Sub4.skip (n := 1) (len1 _) (Sub4.head _ _)))))) ?_
      obtain ⟨y4, hy5, H⟩ := lt_some H
      refine ls_val (v := .int .i64 (IntKind.wrap .i64 (a0.2.2.1 + (511 : Int)))) rfl rfl (by kernel_rfl) (fun w => by kernel_rfl) ?_
      refine ls_ren 13 (v := .int .i64 (IntKind.wrap .i64 (a0.2.2.1 + (511 : Int)))) (v' := .int .i64 y4) (by kernel_rfl) (by rw [hy5]) ?_
      obtain ⟨y6, hy7, H⟩ := lt_some H
      refine ls_val (v := .int .i64 (IntKind.wrap .i64 (Int.tdiv y4 (512 : Int)))) rfl rfl (by kernel_rfl) (fun w => by kernel_rfl) ?_
      refine ls_ren 14 (v := .int .i64 (IntKind.wrap .i64 (Int.tdiv y4 (512 : Int)))) (v' := .int .i64 y6) (by kernel_rfl) (by rw [hy7]) ?_
      refine ls_val (v := .int .i64 y6) rfl rfl (by kernel_rfl) (fun w => by kernel_rfl) ?_
      refine ls_end ?_
      refine qn_then ?_
      refine cs_ret' ?_
      obtain rfl := Option.some.inj H
      refine qr_res (rs := [_]) rfl (fun w' hs => ⟨[.int .i64 y6], (res_tmp (by kernel_rfl) (.nil)), (), rfl, hs.pick (ts := []) (cs := []) trivial (by decide)⟩)

/-! ### shadowbox/shadowboxref06.Right: function 15 -/
def shadowboxref06_Right.tab1 : List (List Nat) := [[], [0], [0, 1], [0, 1, 2], [0, 1, 2, 3], [0, 1, 2, 3, 4], [0, 1, 2, 3, 4, 5], [0, 1, 2, 3, 4, 5, 6], [0, 1, 2, 3, 4, 5, 6, 7], [0, 1, 2, 3, 4, 5, 6, 7, 8], [0, 1, 2, 3, 4, 5, 6, 7, 8, 9], [0, 1, 2, 3, 4, 5, 6, 7, 8, 9, 10], [0, 1, 2, 3, 4, 5, 6, 7, 8, 9, 10, 11], [0, 1, 2, 3, 4, 5, 6, 7, 8, 9, 10, 11, 12], [0, 1, 2, 3, 4, 5, 6, 7, 8, 9, 10, 11, 12, 13], [0, 1, 2, 3, 4, 5, 6, 7, 8, 9, 10, 11, 12, 13, 14], [0, 1, 2, 3, 4, 5, 6, 7, 8, 9, 10, 11, 12, 13, 14, 15], [0, 1, 2, 3, 4, 5, 6, 7, 8, 9, 10, 11, 12, 13, 14, 15, 16], [0, 1, 2, 3, 4, 5, 6, 7, 8, 9, 10, 11, 12, 13, 14, 15, 16, 17], [0, 1, 2, 3, 4, 5, 6, 7, 8, 9, 10, 11, 12, 13, 14, 15, 16, 17, 18], [0, 1, 2, 3, 4, 5, 6, 7, 8, 9, 10, 11, 12, 13, 14, 15, 16, 17, 18, 19], [0, 1, 2, 3, 4, 5, 6, 7, 8, 9, 10, 11, 12, 13, 14, 15, 16, 17, 18, 19, 20], [0, 1, 2, 3, 4, 5, 6, 7, 8, 9, 10, 11, 12, 13, 14, 15, 16, 17, 18, 19, 20, 21], [0, 1, 2, 3, 4, 5, 6, 7, 8, 9, 10, 11, 12, 13, 14, 15, 16, 17, 18, 19, 20, 21, 22], [0, 1, 2, 3, 4, 5, 6, 7, 8, 9, 10, 11, 12, 13, 14, 15, 16, 17, 18, 19, 20, 21, 22, 23], [0, 1, 2, 3, 4, 5, 6, 7, 8, 9, 10, 11, 12, 13, 14, 15, 16, 17, 18, 19, 20, 21, 22, 23, 24], [0, 1, 2, 3, 4, 5, 6, 7, 8, 9, 10, 11, 12, 13, 14, 15, 16, 17, 18, 19, 20, 21, 22, 23, 24, 25], [0, 1, 2, 3, 4, 5, 6, 7, 8, 9, 10, 11, 12, 13, 14, 15, 16, 17, 18, 19, 20, 21, 22, 23, 24, 25, 26], [0, 1, 2, 3, 4, 5, 6, 7, 8, 9, 10, 11, 12, 13, 14, 15, 16, 17, 18, 19, 20, 21, 22, 23, 24, 25, 26, 27], [0, 1, 2, 3, 4, 5, 6, 7, 8, 9, 10, 11, 12, 13, 14, 15, 16, 17, 18, 19, 20, 21, 22, 23, 24, 25, 26, 27, 28], [0, 1, 2, 3, 4, 5, 6, 7, 8, 9, 10, 11, 12, 13, 14, 15, 16, 17, 18, 19, 20, 21, 22, 23, 24, 25, 26, 27, 28, 29], [0, 1, 2, 3, 4, 5, 6, 7, 8, 9, 10, 11, 12, 13, 14, 15, 16, 17, 18, 19, 20, 21, 22, 23, 24, 25, 26, 27, 28], [0, 1, 2, 3, 4, 5, 6, 7, 8, 9, 10, 11, 12, 13, 14, 15, 16, 17, 18, 19, 20, 21, 22, 23, 24, 25, 26, 27, 28, 31], [0, 1, 2, 3, 4, 5, 6, 7, 8, 9, 10, 11, 12, 13, 14, 15, 16, 17, 18, 19, 20, 21, 22, 23, 24, 25, 26, 27, 28, 29, 30, 31, 32], [0, 1, 2, 3, 4, 5, 6, 7, 8, 9, 10, 11, 12, 13, 14, 15, 16, 17, 18, 19, 20, 21, 22, 23, 24, 25, 26, 27, 28, 29, 30, 31, 32, 33], [0, 1, 2, 3, 4, 5, 6, 7, 8, 9, 10, 11, 12, 13, 14, 15, 16, 17, 18, 19, 20, 21, 22, 23, 24, 25, 26, 27, 28, 29, 30, 31, 32, 33, 34], [0, 1, 2, 3, 4, 5, 6, 7, 8, 9, 10, 11, 12, 13, 14, 15, 16, 17, 18, 19, 20, 21, 22, 23, 24, 25, 26, 27, 28, 29, 30, 31, 32, 33, 34, 35]]
def shadowboxref06_Right.f (k : Nat) (a0 : (Int × Int × Int × Int × (Vc Int 32))) : Option (Bool) :=
  (if a0.2.1 ≥ (1 : Int) then (if a0.2.1 ≤ (1152921504606846976 : Int) then (if a0.2.2.1 ≥ (1 : Int) then (if a0.2.2.1 ≤ (65536 : Int) then (if a0.1 ≥ (2 : Int) then (if a0.1 ≤ (8192 : Int) then (shadowboxref06_Sectors.f k a0).bind fun t10 => some (decide ((IntKind.wrap .i64 (a0.1 + t10)) ≤ (8192 : Int))) else some false) else some false) else some false) else some false) else some false) else some false)
set_option maxRecDepth 100000 in
set_option maxHeartbeats 4000000 in
theorem shadowboxref06_Right.calls (k : Nat) (a0 : (Int × Int × Int × Int × (Vc Int 32))) (r : Bool) (b : Bs) (hs0 : St b (stl []) b.w) (H : shadowboxref06_Right.f k a0 = some r) :
    Calls Try.prog 15 #[.agg ⟨([Value.int .i64 a0.1] ++ ([Value.int .i64 a0.2.1] ++ ([Value.int .i64 a0.2.2.1] ++ ([Value.int .u32 a0.2.2.2.1] ++ en (Value.int .u8) a0.2.2.2.2.1))))⟩] b.w fun e w' => ∃ x : Unit, e = .returned (.bool r) ∧ St b (stl []) w' := by
  unfold shadowboxref06_Right.f at H
  refine enterb (n := 39) Try.func15 rfl (by kernel_rfl) (by kernel_rfl) hs0 ?_
  refine cs_sub (s0) (sub_nil _) ?_
  refine cs_seq ?_
  refine cs_region (l := [_, _]) ?_
  refine ls_new rfl rfl (by kernel_rfl) 0 (fun g => .pointer (some ⟨g, 0, none⟩)) (.cells ⟨([Value.int .i64 a0.1] ++ ([Value.int .i64 a0.2.1] ++ ([Value.int .i64 a0.2.2.1] ++ ([Value.int .u32 a0.2.2.2.1] ++ en (Value.int .u8) a0.2.2.2.2.1))))⟩ 25) (fun w => by kernel_rfl) ?_
  intro g1
  refine ls_val (v := .bool false) rfl rfl (by kernel_rfl) (fun w => by kernel_rfl) ?_
  refine ls_end ?_
  refine qn_then ?_
  refine cs_seq ?_
  obtain ⟨s3_0, hs3_0⟩ : ∃ z : Value → Sto → Prop, z = (fun v R => v = .pointer (some ⟨g1, (0 + 1), none⟩) ∧ R = s0) := ⟨_, rfl⟩
  refine have_op (l := [_, _, _, _, _, _, _, _, _, _, _, _, _, _, _, _, _, _, _, _, _, _, _, _, _, _, _, _, _, _, _, _, _, _, _, _, _]) shadowboxref06_Right.tab1 1 0 (fun sp => sp 0 = s3_0) (fun sp on hA hon => ?_) (fun ops3_0 => ?_)
  · refine ⟨fun o ho vs Rs f' S' w hp hf hx hS hR hs => ?_⟩
    obtain rfl := Option.some.inj ho
    rw [hA, hs3_0]
    refine And.intro (fun a ha => (want_none rfl a ha).trans hon.symm) (And.intro (fun _ => ?_) (fun h => by rw [hon] at h; cases h))
    have hF := fr_next (rfl) ((hx 1 (by kernel_rfl)).trans (by kernel_rfl : (_ : Value) = .pointer (some ⟨g1, 0, none⟩)))
    refine ls_fr hF ?_
    refine ls_val (v := .pointer (some ⟨g1, (0 + 1), none⟩)) rfl rfl (by kernel_rfl) (fun w => by kernel_rfl) ?_
    exact ls_fin s0 (.pointer (some ⟨g1, (0 + 1), none⟩)) (congrArg (fun z => upd z 3 _) hF.symm) ⟨rfl, rfl⟩ (sub_nil _)
  obtain ⟨s3_1, hs3_1⟩ : ∃ z : Value → Sto → Prop, z = (fun v R => v = .int .i64 a0.2.1 ∧ R = s0) := ⟨_, rfl⟩
  refine have_op (l := [_, _, _, _, _, _, _, _, _, _, _, _, _, _, _, _, _, _, _, _, _, _, _, _, _, _, _, _, _, _, _, _, _, _, _, _, _]) shadowboxref06_Right.tab1 1 1 (fun sp => sp 1 = s3_1 ∧ sp 0 = s3_0) (fun sp on hA hon => ?_) (fun ops3_1 => ?_)
  · refine ⟨fun o ho vs Rs f' S' w hp hf hx hS hR hs => ?_⟩
    obtain rfl := Option.some.inj ho
    obtain ⟨hv0, hR0⟩ := (spe hA.2 hs3_0 (hp 0 (by kernel_rfl)))
    rw [hA.1, hs3_1]
    refine And.intro (fun a ha => (want_none rfl a ha).trans hon.symm) (And.intro (fun _ => ?_) (fun h => by rw [hon] at h; cases h))
    have hF := fr_next (rfl) ((hf 0 3 (by kernel_rfl) rfl).trans hv0)
    refine ls_fr hF ?_
    refine ls_load (a0 := ⟨g1, (0 + 1), none⟩) (v := .int .i64 a0.2.1) (de := (TypeDesc.int .i64)) rfl rfl (by kernel_rfl) rfl (by kernel_rfl) (by kernel_rfl) (by kernel_rfl) (fun w1 hs1 => cell_step hs1.below.bw (hs.var (k := 0) ((hS 0 (by kernel_rfl)).trans (by exact rfl)) (Sub4.trans (Sub4.all _) (Sub4.skip (n := 1) (len1 _) (Sub4.head _ _))))) ?_
    exact ls_fin s0 (.int .i64 a0.2.1) (congrArg (fun z => upd z 4 _) hF.symm) ⟨rfl, rfl⟩ (sub_nil _)
  obtain ⟨s3_2, hs3_2⟩ : ∃ z : Value → Sto → Prop, z = (fun v R => v = .bool (decide (a0.2.1 ≥ (1 : Int))) ∧ R = s0) := ⟨_, rfl⟩
  refine have_op (l := [_, _, _, _, _, _, _, _, _, _, _, _, _, _, _, _, _, _, _, _, _, _, _, _, _, _, _, _, _, _, _, _, _, _, _, _, _]) shadowboxref06_Right.tab1 1 2 (fun sp => sp 2 = s3_2 ∧ sp 1 = s3_1) (fun sp on hA hon => ?_) (fun ops3_2 => ?_)
  · refine ⟨fun o ho vs Rs f' S' w hp hf hx hS hR hs => ?_⟩
    obtain rfl := Option.some.inj ho
    obtain ⟨hv1, hR1⟩ := (spe hA.2 hs3_1 (hp 1 (by kernel_rfl)))
    rw [hA.1, hs3_2]
    refine And.intro (fun a ha => (want_none rfl a ha).trans hon.symm) (And.intro (fun _ => ?_) (fun h => by rw [hon] at h; cases h))
    have hF := fr_next (rfl) ((hf 1 4 (by kernel_rfl) rfl).trans hv1)
    refine ls_fr hF ?_
    refine ls_val (v := .bool (decide (a0.2.1 ≥ (1 : Int)))) rfl rfl (by kernel_rfl) (fun w => by kernel_rfl) ?_
    exact ls_fin s0 (.bool (decide (a0.2.1 ≥ (1 : Int)))) (congrArg (fun z => upd z 5 _) hF.symm) ⟨rfl, rfl⟩ (sub_nil _)
  obtain ⟨s3_3, hs3_3⟩ : ∃ z : Value → Sto → Prop, z = (fun v R => v = .bool (decide (a0.2.1 ≥ (1 : Int))) ∧ R = s0) := ⟨_, rfl⟩
  refine have_op (l := [_, _, _, _, _, _, _, _, _, _, _, _, _, _, _, _, _, _, _, _, _, _, _, _, _, _, _, _, _, _, _, _, _, _, _, _, _]) shadowboxref06_Right.tab1 1 3 (fun sp => sp 3 = s3_3 ∧ sp 2 = s3_2) (fun sp on hA hon => ?_) (fun ops3_3 => ?_)
  · refine ⟨fun o ho vs Rs f' S' w hp hf hx hS hR hs => ?_⟩
    obtain rfl := Option.some.inj ho
    obtain ⟨hv2, hR2⟩ := (spe hA.2 hs3_2 (hp 2 (by kernel_rfl)))
    rw [hA.1, hs3_3]
    refine And.intro (fun a ha => (want_none rfl a ha).trans hon.symm) (And.intro (fun _ => ?_) (fun h => by rw [hon] at h; cases h))
    have hF := fr_next (rfl) ((hf 2 5 (by kernel_rfl) rfl).trans hv2)
    refine ls_fr hF ?_
    refine ls_val (v := .bool (decide (a0.2.1 ≥ (1 : Int)))) rfl rfl (by kernel_rfl) (fun w => by kernel_rfl) ?_
    exact ls_fin s0 (.bool (decide (a0.2.1 ≥ (1 : Int)))) (congrArg (fun z => upd z 6 _) hF.symm) ⟨rfl, rfl⟩ (sub_nil _)
  by_cases q4 : a0.2.1 ≥ (1 : Int)
  · replace H := ite_t q4 H
    obtain ⟨s3_4, hs3_4⟩ : ∃ z : Value → Sto → Prop, z = (fun v R => v = .pointer (some ⟨g1, (0 + 1), none⟩) ∧ R = s0) := ⟨_, rfl⟩
    refine have_op (l := [_, _, _, _, _, _, _, _, _, _, _, _, _, _, _, _, _, _, _, _, _, _, _, _, _, _, _, _, _, _, _, _, _, _, _, _, _]) shadowboxref06_Right.tab1 1 4 (fun sp => sp 4 = s3_4 ∧ sp 3 = s3_3) (fun sp on hA hon => ?_) (fun ops3_4 => ?_)
    · refine ⟨fun o ho vs Rs f' S' w hp hf hx hS hR hs => ?_⟩
      obtain rfl := Option.some.inj ho
      obtain ⟨hv3, hR3⟩ := (spe hA.2 hs3_3 (hp 3 (by kernel_rfl)))
      rw [hA.1, hs3_4]
      refine And.intro (fun a ha => (want_is (j := 3) (t := 6) (r := true) rfl rfl (by kernel_rfl) (((hf 3 6 (by kernel_rfl) rfl).trans hv3).trans (congrArg Value.bool (show (decide (a0.2.1 ≥ (1 : Int))) = true from dec_t q4))) rfl a ha).trans hon.symm) (And.intro (fun _ => ?_) (fun h => by rw [hon] at h; cases h))
      have hF := fr_next (fr_next (rfl) ((hx 1 (by kernel_rfl)).trans (by kernel_rfl : (_ : Value) = .pointer (some ⟨g1, 0, none⟩)))) (((hf 3 6 (by kernel_rfl) rfl).trans hv3).trans (congrArg Value.bool (show (decide (a0.2.1 ≥ (1 : Int))) = true from dec_t q4)))
      refine ls_fr hF ?_
      refine ls_val (v := .pointer (some ⟨g1, (0 + 1), none⟩)) rfl rfl (by kernel_rfl) (fun w => by kernel_rfl) ?_
      exact ls_fin s0 (.pointer (some ⟨g1, (0 + 1), none⟩)) (congrArg (fun z => upd z 7 _) hF.symm) ⟨rfl, rfl⟩ (sub_nil _)
    obtain ⟨s3_5, hs3_5⟩ : ∃ z : Value → Sto → Prop, z = (fun v R => v = .int .i64 a0.2.1 ∧ R = s0) := ⟨_, rfl⟩
    refine have_op (l := [_, _, _, _, _, _, _, _, _, _, _, _, _, _, _, _, _, _, _, _, _, _, _, _, _, _, _, _, _, _, _, _, _, _, _, _, _]) shadowboxref06_Right.tab1 1 5 (fun sp => sp 5 = s3_5 ∧ sp 3 = s3_3 ∧ sp 4 = s3_4) (fun sp on hA hon => ?_) (fun ops3_5 => ?_)
    · refine ⟨fun o ho vs Rs f' S' w hp hf hx hS hR hs => ?_⟩
      obtain rfl := Option.some.inj ho
      obtain ⟨hv3, hR3⟩ := (spe hA.2.1 hs3_3 (hp 3 (by kernel_rfl)))
      obtain ⟨hv4, hR4⟩ := (spe hA.2.2 hs3_4 (hp 4 (by kernel_rfl)))
      rw [hA.1, hs3_5]
      refine And.intro (fun a ha => (want_is (j := 3) (t := 6) (r := true) rfl rfl (by kernel_rfl) (((hf 3 6 (by kernel_rfl) rfl).trans hv3).trans (congrArg Value.bool (show (decide (a0.2.1 ≥ (1 : Int))) = true from dec_t q4))) rfl a ha).trans hon.symm) (And.intro (fun _ => ?_) (fun h => by rw [hon] at h; cases h))
      have hF := fr_next (fr_next (rfl) (((hf 3 6 (by kernel_rfl) rfl).trans hv3).trans (congrArg Value.bool (show (decide (a0.2.1 ≥ (1 : Int))) = true from dec_t q4)))) ((hf 4 7 (by kernel_rfl) rfl).trans hv4)
      refine ls_fr hF ?_
      refine ls_load (a0 := ⟨g1, (0 + 1), none⟩) (v := .int .i64 a0.2.1) (de := (TypeDesc.int .i64)) rfl rfl (by kernel_rfl) rfl (by kernel_rfl) (by kernel_rfl) (by kernel_rfl) (fun w1 hs1 => cell_step hs1.below.bw (hs.var (k := 0) ((hS 0 (by kernel_rfl)).trans (by exact rfl)) (Sub4.trans (Sub4.all _) (Sub4.skip (n := 1) (len1 _) (Sub4.head _ _))))) ?_
      exact ls_fin s0 (.int .i64 a0.2.1) (congrArg (fun z => upd z 8 _) hF.symm) ⟨rfl, rfl⟩ (sub_nil _)
    obtain ⟨s3_6, hs3_6⟩ : ∃ z : Value → Sto → Prop, z = (fun v R => v = .bool (decide (a0.2.1 ≤ (1152921504606846976 : Int))) ∧ R = s0) := ⟨_, rfl⟩
    refine have_op (l := [_, _, _, _, _, _, _, _, _, _, _, _, _, _, _, _, _, _, _, _, _, _, _, _, _, _, _, _, _, _, _, _, _, _, _, _, _]) shadowboxref06_Right.tab1 1 6 (fun sp => sp 6 = s3_6 ∧ sp 3 = s3_3 ∧ sp 5 = s3_5) (fun sp on hA hon => ?_) (fun ops3_6 => ?_)
    · refine ⟨fun o ho vs Rs f' S' w hp hf hx hS hR hs => ?_⟩
      obtain rfl := Option.some.inj ho
      obtain ⟨hv3, hR3⟩ := (spe hA.2.1 hs3_3 (hp 3 (by kernel_rfl)))
      obtain ⟨hv5, hR5⟩ := (spe hA.2.2 hs3_5 (hp 5 (by kernel_rfl)))
      rw [hA.1, hs3_6]
      refine And.intro (fun a ha => (want_is (j := 3) (t := 6) (r := true) rfl rfl (by kernel_rfl) (((hf 3 6 (by kernel_rfl) rfl).trans hv3).trans (congrArg Value.bool (show (decide (a0.2.1 ≥ (1 : Int))) = true from dec_t q4))) rfl a ha).trans hon.symm) (And.intro (fun _ => ?_) (fun h => by rw [hon] at h; cases h))
      have hF := fr_next (fr_next (rfl) (((hf 3 6 (by kernel_rfl) rfl).trans hv3).trans (congrArg Value.bool (show (decide (a0.2.1 ≥ (1 : Int))) = true from dec_t q4)))) ((hf 5 8 (by kernel_rfl) rfl).trans hv5)
      refine ls_fr hF ?_
      refine ls_val (v := .bool (decide (a0.2.1 ≤ (1152921504606846976 : Int)))) rfl rfl (by kernel_rfl) (fun w => by kernel_rfl) ?_
      exact ls_fin s0 (.bool (decide (a0.2.1 ≤ (1152921504606846976 : Int)))) (congrArg (fun z => upd z 9 _) hF.symm) ⟨rfl, rfl⟩ (sub_nil _)
    obtain ⟨s3_7, hs3_7⟩ : ∃ z : Value → Sto → Prop, z = (fun v R => v = .bool (decide (a0.2.1 ≤ (1152921504606846976 : Int))) ∧ R = s0) := ⟨_, rfl⟩
    refine have_op (l := [_, _, _, _, _, _, _, _, _, _, _, _, _, _, _, _, _, _, _, _, _, _, _, _, _, _, _, _, _, _, _, _, _, _, _, _, _]) shadowboxref06_Right.tab1 1 7 (fun sp => sp 7 = s3_7 ∧ sp 3 = s3_3 ∧ sp 6 = s3_6) (fun sp on hA hon => ?_) (fun ops3_7 => ?_)
    · refine ⟨fun o ho vs Rs f' S' w hp hf hx hS hR hs => ?_⟩
      obtain rfl := Option.some.inj ho
      obtain ⟨hv3, hR3⟩ := (spe hA.2.1 hs3_3 (hp 3 (by kernel_rfl)))
      obtain ⟨hv6, hR6⟩ := (spe hA.2.2 hs3_6 (hp 6 (by kernel_rfl)))
      rw [hA.1, hs3_7]
      refine And.intro (fun a ha => (want_none rfl a ha).trans hon.symm) (And.intro (fun _ => ?_) (fun h => by rw [hon] at h; cases h))
      have hF := fr_next (fr_next (rfl) (((hf 3 6 (by kernel_rfl) rfl).trans hv3).trans (congrArg Value.bool (show (decide (a0.2.1 ≥ (1 : Int))) = true from dec_t q4)))) ((hf 6 9 (by kernel_rfl) rfl).trans hv6)
      refine ls_fr hF ?_
      refine ls_val (v := .bool (decide (a0.2.1 ≤ (1152921504606846976 : Int)))) rfl rfl (by kernel_rfl) (fun w => by kernel_rfl) ?_
      exact ls_fin s0 (.bool (decide (a0.2.1 ≤ (1152921504606846976 : Int)))) (congrArg (fun z => upd z 10 _) hF.symm) ⟨rfl, rfl⟩ (sub_nil _)
    obtain ⟨s3_8, hs3_8⟩ : ∃ z : Value → Sto → Prop, z = (fun v R => v = .bool (decide (a0.2.1 ≤ (1152921504606846976 : Int))) ∧ R = s0) := ⟨_, rfl⟩
    refine have_op (l := [_, _, _, _, _, _, _, _, _, _, _, _, _, _, _, _, _, _, _, _, _, _, _, _, _, _, _, _, _, _, _, _, _, _, _, _, _]) shadowboxref06_Right.tab1 1 8 (fun sp => sp 8 = s3_8 ∧ sp 7 = s3_7) (fun sp on hA hon => ?_) (fun ops3_8 => ?_)
    · refine ⟨fun o ho vs Rs f' S' w hp hf hx hS hR hs => ?_⟩
      obtain rfl := Option.some.inj ho
      obtain ⟨hv7, hR7⟩ := (spe hA.2 hs3_7 (hp 7 (by kernel_rfl)))
      rw [hA.1, hs3_8]
      refine And.intro (fun a ha => (want_none rfl a ha).trans hon.symm) (And.intro (fun _ => ?_) (fun h => by rw [hon] at h; cases h))
      have hF := fr_next (rfl) ((hf 7 10 (by kernel_rfl) rfl).trans hv7)
      refine ls_fr hF ?_
      refine ls_val (v := .bool (decide (a0.2.1 ≤ (1152921504606846976 : Int)))) rfl rfl (by kernel_rfl) (fun w => by kernel_rfl) ?_
      exact ls_fin s0 (.bool (decide (a0.2.1 ≤ (1152921504606846976 : Int)))) (congrArg (fun z => upd z 11 _) hF.symm) ⟨rfl, rfl⟩ (sub_nil _)
    by_cases q5 : a0.2.1 ≤ (1152921504606846976 : Int)
    · replace H := ite_t q5 H
      obtain ⟨s3_9, hs3_9⟩ : ∃ z : Value → Sto → Prop, z = (fun v R => v = .pointer (some ⟨g1, (0 + 2), none⟩) ∧ R = s0) := ⟨_, rfl⟩
      refine have_op (l := [_, _, _, _, _, _, _, _, _, _, _, _, _, _, _, _, _, _, _, _, _, _, _, _, _, _, _, _, _, _, _, _, _, _, _, _, _]) shadowboxref06_Right.tab1 1 9 (fun sp => sp 9 = s3_9 ∧ sp 8 = s3_8) (fun sp on hA hon => ?_) (fun ops3_9 => ?_)
      · refine ⟨fun o ho vs Rs f' S' w hp hf hx hS hR hs => ?_⟩
        obtain rfl := Option.some.inj ho
        obtain ⟨hv8, hR8⟩ := (spe hA.2 hs3_8 (hp 8 (by kernel_rfl)))
        rw [hA.1, hs3_9]
        refine And.intro (fun a ha => (want_is (j := 8) (t := 11) (r := true) rfl rfl (by kernel_rfl) (((hf 8 11 (by kernel_rfl) rfl).trans hv8).trans (congrArg Value.bool (show (decide (a0.2.1 ≤ (1152921504606846976 : Int))) = true from dec_t q5))) rfl a ha).trans hon.symm) (And.intro (fun _ => ?_) (fun h => by rw [hon] at h; cases h))
        have hF := fr_next (fr_next (rfl) ((hx 1 (by kernel_rfl)).trans (by kernel_rfl : (_ : Value) = .pointer (some ⟨g1, 0, none⟩)))) (((hf 8 11 (by kernel_rfl) rfl).trans hv8).trans (congrArg Value.bool (show (decide (a0.2.1 ≤ (1152921504606846976 : Int))) = true from dec_t q5)))
        refine ls_fr hF ?_
        refine ls_val (v := .pointer (some ⟨g1, (0 + 2), none⟩)) rfl rfl (by kernel_rfl) (fun w => by kernel_rfl) ?_
        exact ls_fin s0 (.pointer (some ⟨g1, (0 + 2), none⟩)) (congrArg (fun z => upd z 12 _) hF.symm) ⟨rfl, rfl⟩ (sub_nil _)
      obtain ⟨s3_10, hs3_10⟩ : ∃ z : Value → Sto → Prop, z = (fun v R => v = .int .i64 a0.2.2.1 ∧ R = s0) := ⟨_, rfl⟩
      refine have_op (l := [_, _, _, _, _, _, _, _, _, _, _, _, _, _, _, _, _, _, _, _, _, _, _, _, _, _, _, _, _, _, _, _, _, _, _, _, _]) shadowboxref06_Right.tab1 1 10 (fun sp => sp 10 = s3_10 ∧ sp 8 = s3_8 ∧ sp 9 = s3_9) (fun sp on hA hon => ?_) (fun ops3_10 => ?_)
      · refine ⟨fun o ho vs Rs f' S' w hp hf hx hS hR hs => ?_⟩
        obtain rfl := Option.some.inj ho
        obtain ⟨hv8, hR8⟩ := (spe hA.2.1 hs3_8 (hp 8 (by kernel_rfl)))
        obtain ⟨hv9, hR9⟩ := (spe hA.2.2 hs3_9 (hp 9 (by kernel_rfl)))
        rw [hA.1, hs3_10]
        refine And.intro (fun a ha => (want_is (j := 8) (t := 11) (r := true) rfl rfl (by kernel_rfl) (((hf 8 11 (by kernel_rfl) rfl).trans hv8).trans (congrArg Value.bool (show (decide (a0.2.1 ≤ (1152921504606846976 : Int))) = true from dec_t q5))) rfl a ha).trans hon.symm) (And.intro (fun _ => ?_) (fun h => by rw [hon] at h; cases h))
        have hF := fr_next (fr_next (rfl) (((hf 8 11 (by kernel_rfl) rfl).trans hv8).trans (congrArg Value.bool (show (decide (a0.2.1 ≤ (1152921504606846976 : Int))) = true from dec_t q5)))) ((hf 9 12 (by kernel_rfl) rfl).trans hv9)
        refine ls_fr hF ?_
        refine ls_load (a0 := ⟨g1, (0 + 2), none⟩) (v := .int .i64 a0.2.2.1) (de := (TypeDesc.int .i64)) rfl rfl (by kernel_rfl) rfl (by kernel_rfl) (by kernel_rfl) (by kernel_rfl) (fun w1 hs1 => cell_step hs1.below.bw (hs.var (k := 0) ((hS 0 (by kernel_rfl)).trans (by exact rfl)) (Sub4.trans (Sub4.all _) (Sub4.skip (n := 1) (len1 _) (Sub4.skip (n := 1) (len1 _) (Sub4.head _ _)))))) ?_
        exact ls_fin s0 (.int .i64 a0.2.2.1) (congrArg (fun z => upd z 13 _) hF.symm) ⟨rfl, rfl⟩ (sub_nil _)
      obtain ⟨s3_11, hs3_11⟩ : ∃ z : Value → Sto → Prop, z = (fun v R => v = .bool (decide (a0.2.2.1 ≥ (1 : Int))) ∧ R = s0) := ⟨_, rfl⟩
      refine have_op (l := [_, _, _, _, _, _, _, _, _, _, _, _, _, _, _, _, _, _, _, _, _, _, _, _, _, _, _, _, _, _, _, _, _, _, _, _, _]) shadowboxref06_Right.tab1 1 11 (fun sp => sp 11 = s3_11 ∧ sp 8 = s3_8 ∧ sp 10 = s3_10) (fun sp on hA hon => ?_) (fun ops3_11 => ?_)
      · refine ⟨fun o ho vs Rs f' S' w hp hf hx hS hR hs => ?_⟩
        obtain rfl := Option.some.inj ho
        obtain ⟨hv8, hR8⟩ := (spe hA.2.1 hs3_8 (hp 8 (by kernel_rfl)))
        obtain ⟨hv10, hR10⟩ := (spe hA.2.2 hs3_10 (hp 10 (by kernel_rfl)))
        rw [hA.1, hs3_11]
        refine And.intro (fun a ha => (want_is (j := 8) (t := 11) (r := true) rfl rfl (by kernel_rfl) (((hf 8 11 (by kernel_rfl) rfl).trans hv8).trans (congrArg Value.bool (show (decide (a0.2.1 ≤ (1152921504606846976 : Int))) = true from dec_t q5))) rfl a ha).trans hon.symm) (And.intro (fun _ => ?_) (fun h => by rw [hon] at h; cases h))
        have hF := fr_next (fr_next (rfl) (((hf 8 11 (by kernel_rfl) rfl).trans hv8).trans (congrArg Value.bool (show (decide (a0.2.1 ≤ (1152921504606846976 : Int))) = true from dec_t q5)))) ((hf 10 13 (by kernel_rfl) rfl).trans hv10)
        refine ls_fr hF ?_
        refine ls_val (v := .bool (decide (a0.2.2.1 ≥ (1 : Int)))) rfl rfl (by kernel_rfl) (fun w => by kernel_rfl) ?_
        exact ls_fin s0 (.bool (decide (a0.2.2.1 ≥ (1 : Int)))) (congrArg (fun z => upd z 14 _) hF.symm) ⟨rfl, rfl⟩ (sub_nil _)
      obtain ⟨s3_12, hs3_12⟩ : ∃ z : Value → Sto → Prop, z = (fun v R => v = .bool (decide (a0.2.2.1 ≥ (1 : Int))) ∧ R = s0) := ⟨_, rfl⟩
      refine have_op (l := [_, _, _, _, _, _, _, _, _, _, _, _, _, _, _, _, _, _, _, _, _, _, _, _, _, _, _, _, _, _, _, _, _, _, _, _, _]) shadowboxref06_Right.tab1 1 12 (fun sp => sp 12 = s3_12 ∧ sp 8 = s3_8 ∧ sp 11 = s3_11) (fun sp on hA hon => ?_) (fun ops3_12 => ?_)
      · refine ⟨fun o ho vs Rs f' S' w hp hf hx hS hR hs => ?_⟩
        obtain rfl := Option.some.inj ho
        obtain ⟨hv8, hR8⟩ := (spe hA.2.1 hs3_8 (hp 8 (by kernel_rfl)))
        obtain ⟨hv11, hR11⟩ := (spe hA.2.2 hs3_11 (hp 11 (by kernel_rfl)))
        rw [hA.1, hs3_12]
        refine And.intro (fun a ha => (want_none rfl a ha).trans hon.symm) (And.intro (fun _ => ?_) (fun h => by rw [hon] at h; cases h))
        have hF := fr_next (fr_next (rfl) (((hf 8 11 (by kernel_rfl) rfl).trans hv8).trans (congrArg Value.bool (show (decide (a0.2.1 ≤ (1152921504606846976 : Int))) = true from dec_t q5)))) ((hf 11 14 (by kernel_rfl) rfl).trans hv11)
        refine ls_fr hF ?_
        refine ls_val (v := .bool (decide (a0.2.2.1 ≥ (1 : Int)))) rfl rfl (by kernel_rfl) (fun w => by kernel_rfl) ?_
        exact ls_fin s0 (.bool (decide (a0.2.2.1 ≥ (1 : Int)))) (congrArg (fun z => upd z 15 _) hF.symm) ⟨rfl, rfl⟩ (sub_nil _)
      obtain ⟨s3_13, hs3_13⟩ : ∃ z : Value → Sto → Prop, z = (fun v R => v = .bool (decide (a0.2.2.1 ≥ (1 : Int))) ∧ R = s0) := ⟨_, rfl⟩
      refine have_op (l := [_, _, _, _, _, _, _, _, _, _, _, _, _, _, _, _, _, _, _, _, _, _, _, _, _, _, _, _, _, _, _, _, _, _, _, _, _]) shadowboxref06_Right.tab1 1 13 (fun sp => sp 13 = s3_13 ∧ sp 12 = s3_12) (fun sp on hA hon => ?_) (fun ops3_13 => ?_)
      · refine ⟨fun o ho vs Rs f' S' w hp hf hx hS hR hs => ?_⟩
        obtain rfl := Option.some.inj ho
        obtain ⟨hv12, hR12⟩ := (spe hA.2 hs3_12 (hp 12 (by kernel_rfl)))
        rw [hA.1, hs3_13]
        refine And.intro (fun a ha => (want_none rfl a ha).trans hon.symm) (And.intro (fun _ => ?_) (fun h => by rw [hon] at h; cases h))
        have hF := fr_next (rfl) ((hf 12 15 (by kernel_rfl) rfl).trans hv12)
        refine ls_fr hF ?_
        refine ls_val (v := .bool (decide (a0.2.2.1 ≥ (1 : Int)))) rfl rfl (by kernel_rfl) (fun w => by kernel_rfl) ?_
        exact ls_fin s0 (.bool (decide (a0.2.2.1 ≥ (1 : Int)))) (congrArg (fun z => upd z 16 _) hF.symm) ⟨rfl, rfl⟩ (sub_nil _)
      by_cases q6 : a0.2.2.1 ≥ (1 : Int)
      · replace H := ite_t q6 H
        obtain ⟨s3_14, hs3_14⟩ : ∃ z : Value → Sto → Prop, z = (fun v R => v = .pointer (some ⟨g1, (0 + 2), none⟩) ∧ R = s0) := ⟨_, rfl⟩
        refine have_op (l := [_, _, _, _, _, _, _, _, _, _, _, _, _, _, _, _, _, _, _, _, _, _, _, _, _, _, _, _, _, _, _, _, _, _, _, _, _]) shadowboxref06_Right.tab1 1 14 (fun sp => sp 14 = s3_14 ∧ sp 13 = s3_13) (fun sp on hA hon => ?_) (fun ops3_14 => ?_)
        · refine ⟨fun o ho vs Rs f' S' w hp hf hx hS hR hs => ?_⟩
          obtain rfl := Option.some.inj ho
          obtain ⟨hv13, hR13⟩ := (spe hA.2 hs3_13 (hp 13 (by kernel_rfl)))
          rw [hA.1, hs3_14]
          refine And.intro (fun a ha => (want_is (j := 13) (t := 16) (r := true) rfl rfl (by kernel_rfl) (((hf 13 16 (by kernel_rfl) rfl).trans hv13).trans (congrArg Value.bool (show (decide (a0.2.2.1 ≥ (1 : Int))) = true from dec_t q6))) rfl a ha).trans hon.symm) (And.intro (fun _ => ?_) (fun h => by rw [hon] at h; cases h))
          have hF := fr_next (fr_next (rfl) ((hx 1 (by kernel_rfl)).trans (by kernel_rfl : (_ : Value) = .pointer (some ⟨g1, 0, none⟩)))) (((hf 13 16 (by kernel_rfl) rfl).trans hv13).trans (congrArg Value.bool (show (decide (a0.2.2.1 ≥ (1 : Int))) = true from dec_t q6)))
          refine ls_fr hF ?_
          refine ls_val (v := .pointer (some ⟨g1, (0 + 2), none⟩)) rfl rfl (by kernel_rfl) (fun w => by kernel_rfl) ?_
          exact ls_fin s0 (.pointer (some ⟨g1, (0 + 2), none⟩)) (congrArg (fun z => upd z 17 _) hF.symm) ⟨rfl, rfl⟩ (sub_nil _)
        obtain ⟨s3_15, hs3_15⟩ : ∃ z : Value → Sto → Prop, z = (fun v R => v = .int .i64 a0.2.2.1 ∧ R = s0) := ⟨_, rfl⟩
        refine have_op (l := [_, _, _, _, _, _, _, _, _, _, _, _, _, _, _, _, _, _, _, _, _, _, _, _, _, _, _, _, _, _, _, _, _, _, _, _, _]) shadowboxref06_Right.tab1 1 15 (fun sp => sp 15 = s3_15 ∧ sp 13 = s3_13 ∧ sp 14 = s3_14) (fun sp on hA hon => ?_) (fun ops3_15 => ?_)
        · refine ⟨fun o ho vs Rs f' S' w hp hf hx hS hR hs => ?_⟩
          obtain rfl := Option.some.inj ho
          obtain ⟨hv13, hR13⟩ := (spe hA.2.1 hs3_13 (hp 13 (by kernel_rfl)))
          obtain ⟨hv14, hR14⟩ := (spe hA.2.2 hs3_14 (hp 14 (by kernel_rfl)))
          rw [hA.1, hs3_15]
          refine And.intro (fun a ha => (want_is (j := 13) (t := 16) (r := true) rfl rfl (by kernel_rfl) (((hf 13 16 (by kernel_rfl) rfl).trans hv13).trans (congrArg Value.bool (show (decide (a0.2.2.1 ≥ (1 : Int))) = true from dec_t q6))) rfl a ha).trans hon.symm) (And.intro (fun _ => ?_) (fun h => by rw [hon] at h; cases h))
          have hF := fr_next (fr_next (rfl) (((hf 13 16 (by kernel_rfl) rfl).trans hv13).trans (congrArg Value.bool (show (decide (a0.2.2.1 ≥ (1 : Int))) = true from dec_t q6)))) ((hf 14 17 (by kernel_rfl) rfl).trans hv14)
          refine ls_fr hF ?_
          refine ls_load (a0 := ⟨g1, (0 + 2), none⟩) (v := .int .i64 a0.2.2.1) (de := (TypeDesc.int .i64)) rfl rfl (by kernel_rfl) rfl (by kernel_rfl) (by kernel_rfl) (by kernel_rfl) (fun w1 hs1 => cell_step hs1.below.bw (hs.var (k := 0) ((hS 0 (by kernel_rfl)).trans (by exact rfl)) (Sub4.trans (Sub4.all _) (Sub4.skip (n := 1) (len1 _) (Sub4.skip (n := 1) (len1 _) (Sub4.head _ _)))))) ?_
          exact ls_fin s0 (.int .i64 a0.2.2.1) (congrArg (fun z => upd z 18 _) hF.symm) ⟨rfl, rfl⟩ (sub_nil _)
        obtain ⟨s3_16, hs3_16⟩ : ∃ z : Value → Sto → Prop, z = (fun v R => v = .bool (decide (a0.2.2.1 ≤ (65536 : Int))) ∧ R = s0) := ⟨_, rfl⟩
        refine have_op (l := [_, _, _, _, _, _, _, _, _, _, _, _, _, _, _, _, _, _, _, _, _, _, _, _, _, _, _, _, _, _, _, _, _, _, _, _, _]) shadowboxref06_Right.tab1 1 16 (fun sp => sp 16 = s3_16 ∧ sp 13 = s3_13 ∧ sp 15 = s3_15) (fun sp on hA hon => ?_) (fun ops3_16 => ?_)
        · refine ⟨fun o ho vs Rs f' S' w hp hf hx hS hR hs => ?_⟩
          obtain rfl := Option.some.inj ho
          obtain ⟨hv13, hR13⟩ := (spe hA.2.1 hs3_13 (hp 13 (by kernel_rfl)))
          obtain ⟨hv15, hR15⟩ := (spe hA.2.2 hs3_15 (hp 15 (by kernel_rfl)))
          rw [hA.1, hs3_16]
          refine And.intro (fun a ha => (want_is (j := 13) (t := 16) (r := true) rfl rfl (by kernel_rfl) (((hf 13 16 (by kernel_rfl) rfl).trans hv13).trans (congrArg Value.bool (show (decide (a0.2.2.1 ≥ (1 : Int))) = true from dec_t q6))) rfl a ha).trans hon.symm) (And.intro (fun _ => ?_) (fun h => by rw [hon] at h; cases h))
          have hF := fr_next (fr_next (rfl) (((hf 13 16 (by kernel_rfl) rfl).trans hv13).trans (congrArg Value.bool (show (decide (a0.2.2.1 ≥ (1 : Int))) = true from dec_t q6)))) ((hf 15 18 (by kernel_rfl) rfl).trans hv15)
          refine ls_fr hF ?_
          refine ls_val (v := .bool (decide (a0.2.2.1 ≤ (65536 : Int)))) rfl rfl (by kernel_rfl) (fun w => by kernel_rfl) ?_
          exact ls_fin s0 (.bool (decide (a0.2.2.1 ≤ (65536 : Int)))) (congrArg (fun z => upd z 19 _) hF.symm) ⟨rfl, rfl⟩ (sub_nil _)
        obtain ⟨s3_17, hs3_17⟩ : ∃ z : Value → Sto → Prop, z = (fun v R => v = .bool (decide (a0.2.2.1 ≤ (65536 : Int))) ∧ R = s0) := ⟨_, rfl⟩
        refine have_op (l := [_, _, _, _, _, _, _, _, _, _, _, _, _, _, _, _, _, _, _, _, _, _, _, _, _, _, _, _, _, _, _, _, _, _, _, _, _]) shadowboxref06_Right.tab1 1 17 (fun sp => sp 17 = s3_17 ∧ sp 13 = s3_13 ∧ sp 16 = s3_16) (fun sp on hA hon => ?_) (fun ops3_17 => ?_)
        · refine ⟨fun o ho vs Rs f' S' w hp hf hx hS hR hs => ?_⟩
          obtain rfl := Option.some.inj ho
          obtain ⟨hv13, hR13⟩ := (spe hA.2.1 hs3_13 (hp 13 (by kernel_rfl)))
          obtain ⟨hv16, hR16⟩ := (spe hA.2.2 hs3_16 (hp 16 (by kernel_rfl)))
          rw [hA.1, hs3_17]
          refine And.intro (fun a ha => (want_none rfl a ha).trans hon.symm) (And.intro (fun _ => ?_) (fun h => by rw [hon] at h; cases h))
          have hF := fr_next (fr_next (rfl) (((hf 13 16 (by kernel_rfl) rfl).trans hv13).trans (congrArg Value.bool (show (decide (a0.2.2.1 ≥ (1 : Int))) = true from dec_t q6)))) ((hf 16 19 (by kernel_rfl) rfl).trans hv16)
          refine ls_fr hF ?_
          refine ls_val (v := .bool (decide (a0.2.2.1 ≤ (65536 : Int)))) rfl rfl (by kernel_rfl) (fun w => by kernel_rfl) ?_
          exact ls_fin s0 (.bool (decide (a0.2.2.1 ≤ (65536 : Int)))) (congrArg (fun z => upd z 20 _) hF.symm) ⟨rfl, rfl⟩ (sub_nil _)
        obtain ⟨s3_18, hs3_18⟩ : ∃ z : Value → Sto → Prop, z = (fun v R => v = .bool (decide (a0.2.2.1 ≤ (65536 : Int))) ∧ R = s0) := ⟨_, rfl⟩
        refine have_op (l := [_, _, _, _, _, _, _, _, _, _, _, _, _, _, _, _, _, _, _, _, _, _, _, _, _, _, _, _, _, _, _, _, _, _, _, _, _]) shadowboxref06_Right.tab1 1 18 (fun sp => sp 18 = s3_18 ∧ sp 17 = s3_17) (fun sp on hA hon => ?_) (fun ops3_18 => ?_)
        · refine ⟨fun o ho vs Rs f' S' w hp hf hx hS hR hs => ?_⟩
          obtain rfl := Option.some.inj ho
          obtain ⟨hv17, hR17⟩ := (spe hA.2 hs3_17 (hp 17 (by kernel_rfl)))
          rw [hA.1, hs3_18]
          refine And.intro (fun a ha => (want_none rfl a ha).trans hon.symm) (And.intro (fun _ => ?_) (fun h => by rw [hon] at h; cases h))
          have hF := fr_next (rfl) ((hf 17 20 (by kernel_rfl) rfl).trans hv17)
          refine ls_fr hF ?_
          refine ls_val (v := .bool (decide (a0.2.2.1 ≤ (65536 : Int)))) rfl rfl (by kernel_rfl) (fun w => by kernel_rfl) ?_
          exact ls_fin s0 (.bool (decide (a0.2.2.1 ≤ (65536 : Int)))) (congrArg (fun z => upd z 21 _) hF.symm) ⟨rfl, rfl⟩ (sub_nil _)
        by_cases q7 : a0.2.2.1 ≤ (65536 : Int)
        · replace H := ite_t q7 H
          obtain ⟨s3_19, hs3_19⟩ : ∃ z : Value → Sto → Prop, z = (fun v R => v = .pointer (some ⟨g1, (0 + 0), none⟩) ∧ R = s0) := ⟨_, rfl⟩
          refine have_op (l := [_, _, _, _, _, _, _, _, _, _, _, _, _, _, _, _, _, _, _, _, _, _, _, _, _, _, _, _, _, _, _, _, _, _, _, _, _]) shadowboxref06_Right.tab1 1 19 (fun sp => sp 19 = s3_19 ∧ sp 18 = s3_18) (fun sp on hA hon => ?_) (fun ops3_19 => ?_)
          · refine ⟨fun o ho vs Rs f' S' w hp hf hx hS hR hs => ?_⟩
            obtain rfl := Option.some.inj ho
            obtain ⟨hv18, hR18⟩ := (spe hA.2 hs3_18 (hp 18 (by kernel_rfl)))
            rw [hA.1, hs3_19]
            refine And.intro (fun a ha => (want_is (j := 18) (t := 21) (r := true) rfl rfl (by kernel_rfl) (((hf 18 21 (by kernel_rfl) rfl).trans hv18).trans (congrArg Value.bool (show (decide (a0.2.2.1 ≤ (65536 : Int))) = true from dec_t q7))) rfl a ha).trans hon.symm) (And.intro (fun _ => ?_) (fun h => by rw [hon] at h; cases h))
            have hF := fr_next (fr_next (rfl) ((hx 1 (by kernel_rfl)).trans (by kernel_rfl : (_ : Value) = .pointer (some ⟨g1, 0, none⟩)))) (((hf 18 21 (by kernel_rfl) rfl).trans hv18).trans (congrArg Value.bool (show (decide (a0.2.2.1 ≤ (65536 : Int))) = true from dec_t q7)))
            refine ls_fr hF ?_
            refine ls_val (v := .pointer (some ⟨g1, (0 + 0), none⟩)) rfl rfl (by kernel_rfl) (fun w => by kernel_rfl) ?_
            exact ls_fin s0 (.pointer (some ⟨g1, (0 + 0), none⟩)) (congrArg (fun z => upd z 22 _) hF.symm) ⟨rfl, rfl⟩ (sub_nil _)
          obtain ⟨s3_20, hs3_20⟩ : ∃ z : Value → Sto → Prop, z = (fun v R => v = .int .i64 a0.1 ∧ R = s0) := ⟨_, rfl⟩
          refine have_op (l := [_, _, _, _, _, _, _, _, _, _, _, _, _, _, _, _, _, _, _, _, _, _, _, _, _, _, _, _, _, _, _, _, _, _, _, _, _]) shadowboxref06_Right.tab1 1 20 (fun sp => sp 20 = s3_20 ∧ sp 18 = s3_18 ∧ sp 19 = s3_19) (fun sp on hA hon => ?_) (fun ops3_20 => ?_)
          · refine ⟨fun o ho vs Rs f' S' w hp hf hx hS hR hs => ?_⟩
            obtain rfl := Option.some.inj ho
            obtain ⟨hv18, hR18⟩ := (spe hA.2.1 hs3_18 (hp 18 (by kernel_rfl)))
            obtain ⟨hv19, hR19⟩ := (spe hA.2.2 hs3_19 (hp 19 (by kernel_rfl)))
            rw [hA.1, hs3_20]
            refine And.intro (fun a ha => (want_is (j := 18) (t := 21) (r := true) rfl rfl (by kernel_rfl) (((hf 18 21 (by kernel_rfl) rfl).trans hv18).trans (congrArg Value.bool (show (decide (a0.2.2.1 ≤ (65536 : Int))) = true from dec_t q7))) rfl a ha).trans hon.symm) (And.intro (fun _ => ?_) (fun h => by rw [hon] at h; cases h))
            have hF := fr_next (fr_next (rfl) (((hf 18 21 (by kernel_rfl) rfl).trans hv18).trans (congrArg Value.bool (show (decide (a0.2.2.1 ≤ (65536 : Int))) = true from dec_t q7)))) ((hf 19 22 (by kernel_rfl) rfl).trans hv19)
            refine ls_fr hF ?_
            refine ls_load (a0 := ⟨g1, (0 + 0), none⟩) (v := .int .i64 a0.1) (de := (TypeDesc.int .i64)) rfl rfl (by kernel_rfl) rfl (by kernel_rfl) (by kernel_rfl) (by kernel_rfl) (fun w1 hs1 => cell_step hs1.below.bw (hs.var (k := 0) ((hS 0 (by kernel_rfl)).trans (by exact rfl)) (Sub4.trans (Sub4.all _) (Sub4.head _ _)))) ?_
            exact ls_fin s0 (.int .i64 a0.1) (congrArg (fun z => upd z 23 _) hF.symm) ⟨rfl, rfl⟩ (sub_nil _)
          obtain ⟨s3_21, hs3_21⟩ : ∃ z : Value → Sto → Prop, z = (fun v R => v = .bool (decide (a0.1 ≥ (2 : Int))) ∧ R = s0) := ⟨_, rfl⟩
          refine have_op (l := [_, _, _, _, _, _, _, _, _, _, _, _, _, _, _, _, _, _, _, _, _, _, _, _, _, _, _, _, _, _, _, _, _, _, _, _, _]) shadowboxref06_Right.tab1 1 21 (fun sp => sp 21 = s3_21 ∧ sp 18 = s3_18 ∧ sp 20 = s3_20) (fun sp on hA hon => ?_) (fun ops3_21 => ?_)
          · refine ⟨fun o ho vs Rs f' S' w hp hf hx hS hR hs => ?_⟩
            obtain rfl := Option.some.inj ho
            obtain ⟨hv18, hR18⟩ := (spe hA.2.1 hs3_18 (hp 18 (by kernel_rfl)))
            obtain ⟨hv20, hR20⟩ := (spe hA.2.2 hs3_20 (hp 20 (by kernel_rfl)))
            rw [hA.1, hs3_21]
            refine And.intro (fun a ha => (want_is (j := 18) (t := 21) (r := true) rfl rfl (by kernel_rfl) (((hf 18 21 (by kernel_rfl) rfl).trans hv18).trans (congrArg Value.bool (show (decide (a0.2.2.1 ≤ (65536 : Int))) = true from dec_t q7))) rfl a ha).trans hon.symm) (And.intro (fun _ => ?_) (fun h => by rw [hon] at h; cases h))
            have hF := fr_next (fr_next (rfl) (((hf 18 21 (by kernel_rfl) rfl).trans hv18).trans (congrArg Value.bool (show (decide (a0.2.2.1 ≤ (65536 : Int))) = true from dec_t q7)))) ((hf 20 23 (by kernel_rfl) rfl).trans hv20)
            refine ls_fr hF ?_
            refine ls_val (v := .bool (decide (a0.1 ≥ (2 : Int)))) rfl rfl (by kernel_rfl) (fun w => by kernel_rfl) ?_
            exact ls_fin s0 (.bool (decide (a0.1 ≥ (2 : Int)))) (congrArg (fun z => upd z 24 _) hF.symm) ⟨rfl, rfl⟩ (sub_nil _)
          obtain ⟨s3_22, hs3_22⟩ : ∃ z : Value → Sto → Prop, z = (fun v R => v = .bool (decide (a0.1 ≥ (2 : Int))) ∧ R = s0) := ⟨_, rfl⟩
          refine have_op (l := [_, _, _, _, _, _, _, _, _, _, _, _, _, _, _, _, _, _, _, _, _, _, _, _, _, _, _, _, _, _, _, _, _, _, _, _, _]) shadowboxref06_Right.tab1 1 22 (fun sp => sp 22 = s3_22 ∧ sp 18 = s3_18 ∧ sp 21 = s3_21) (fun sp on hA hon => ?_) (fun ops3_22 => ?_)
          · refine ⟨fun o ho vs Rs f' S' w hp hf hx hS hR hs => ?_⟩
            obtain rfl := Option.some.inj ho
            obtain ⟨hv18, hR18⟩ := (spe hA.2.1 hs3_18 (hp 18 (by kernel_rfl)))
            obtain ⟨hv21, hR21⟩ := (spe hA.2.2 hs3_21 (hp 21 (by kernel_rfl)))
            rw [hA.1, hs3_22]
            refine And.intro (fun a ha => (want_none rfl a ha).trans hon.symm) (And.intro (fun _ => ?_) (fun h => by rw [hon] at h; cases h))
            have hF := fr_next (fr_next (rfl) (((hf 18 21 (by kernel_rfl) rfl).trans hv18).trans (congrArg Value.bool (show (decide (a0.2.2.1 ≤ (65536 : Int))) = true from dec_t q7)))) ((hf 21 24 (by kernel_rfl) rfl).trans hv21)
            refine ls_fr hF ?_
            refine ls_val (v := .bool (decide (a0.1 ≥ (2 : Int)))) rfl rfl (by kernel_rfl) (fun w => by kernel_rfl) ?_
            exact ls_fin s0 (.bool (decide (a0.1 ≥ (2 : Int)))) (congrArg (fun z => upd z 25 _) hF.symm) ⟨rfl, rfl⟩ (sub_nil _)
          obtain ⟨s3_23, hs3_23⟩ : ∃ z : Value → Sto → Prop, z = (fun v R => v = .bool (decide (a0.1 ≥ (2 : Int))) ∧ R = s0) := ⟨_, rfl⟩
          refine have_op (l := [_, _, _, _, _, _, _, _, _, _, _, _, _, _, _, _, _, _, _, _, _, _, _, _, _, _, _, _, _, _, _, _, _, _, _, _, _]) shadowboxref06_Right.tab1 1 23 (fun sp => sp 23 = s3_23 ∧ sp 22 = s3_22) (fun sp on hA hon => ?_) (fun ops3_23 => ?_)
          · refine ⟨fun o ho vs Rs f' S' w hp hf hx hS hR hs => ?_⟩
            obtain rfl := Option.some.inj ho
            obtain ⟨hv22, hR22⟩ := (spe hA.2 hs3_22 (hp 22 (by kernel_rfl)))
            rw [hA.1, hs3_23]
            refine And.intro (fun a ha => (want_none rfl a ha).trans hon.symm) (And.intro (fun _ => ?_) (fun h => by rw [hon] at h; cases h))
            have hF := fr_next (rfl) ((hf 22 25 (by kernel_rfl) rfl).trans hv22)
            refine ls_fr hF ?_
            refine ls_val (v := .bool (decide (a0.1 ≥ (2 : Int)))) rfl rfl (by kernel_rfl) (fun w => by kernel_rfl) ?_
            exact ls_fin s0 (.bool (decide (a0.1 ≥ (2 : Int)))) (congrArg (fun z => upd z 26 _) hF.symm) ⟨rfl, rfl⟩ (sub_nil _)
          by_cases q8 : a0.1 ≥ (2 : Int)
          · replace H := ite_t q8 H
            obtain ⟨s3_24, hs3_24⟩ : ∃ z : Value → Sto → Prop, z = (fun v R => v = .pointer (some ⟨g1, (0 + 0), none⟩) ∧ R = s0) := ⟨_, rfl⟩
            refine have_op (l := [_, _, _, _, _, _, _, _, _, _, _, _, _, _, _, _, _, _, _, _, _, _, _, _, _, _, _, _, _, _, _, _, _, _, _, _, _]) shadowboxref06_Right.tab1 1 24 (fun sp => sp 24 = s3_24 ∧ sp 23 = s3_23) (fun sp on hA hon => ?_) (fun ops3_24 => ?_)
            · refine ⟨fun o ho vs Rs f' S' w hp hf hx hS hR hs => ?_⟩
              obtain rfl := Option.some.inj ho
              obtain ⟨hv23, hR23⟩ := (spe hA.2 hs3_23 (hp 23 (by kernel_rfl)))
              rw [hA.1, hs3_24]
              refine And.intro (fun a ha => (want_is (j := 23) (t := 26) (r := true) rfl rfl (by kernel_rfl) (((hf 23 26 (by kernel_rfl) rfl).trans hv23).trans (congrArg Value.bool (show (decide (a0.1 ≥ (2 : Int))) = true from dec_t q8))) rfl a ha).trans hon.symm) (And.intro (fun _ => ?_) (fun h => by rw [hon] at h; cases h))
              have hF := fr_next (fr_next (rfl) ((hx 1 (by kernel_rfl)).trans (by kernel_rfl : (_ : Value) = .pointer (some ⟨g1, 0, none⟩)))) (((hf 23 26 (by kernel_rfl) rfl).trans hv23).trans (congrArg Value.bool (show (decide (a0.1 ≥ (2 : Int))) = true from dec_t q8)))
              refine ls_fr hF ?_
              refine ls_val (v := .pointer (some ⟨g1, (0 + 0), none⟩)) rfl rfl (by kernel_rfl) (fun w => by kernel_rfl) ?_
              exact ls_fin s0 (.pointer (some ⟨g1, (0 + 0), none⟩)) (congrArg (fun z => upd z 27 _) hF.symm) ⟨rfl, rfl⟩ (sub_nil _)
            obtain ⟨s3_25, hs3_25⟩ : ∃ z : Value → Sto → Prop, z = (fun v R => v = .int .i64 a0.1 ∧ R = s0) := ⟨_, rfl⟩
            refine have_op (l := [_, _, _, _, _, _, _, _, _, _, _, _, _, _, _, _, _, _, _, _, _, _, _, _, _, _, _, _, _, _, _, _, _, _, _, _, _]) shadowboxref06_Right.tab1 1 25 (fun sp => sp 25 = s3_25 ∧ sp 23 = s3_23 ∧ sp 24 = s3_24) (fun sp on hA hon => ?_) (fun ops3_25 => ?_)
            · refine ⟨fun o ho vs Rs f' S' w hp hf hx hS hR hs => ?_⟩
              obtain rfl := Option.some.inj ho
              obtain ⟨hv23, hR23⟩ := (spe hA.2.1 hs3_23 (hp 23 (by kernel_rfl)))
              obtain ⟨hv24, hR24⟩ := (spe hA.2.2 hs3_24 (hp 24 (by kernel_rfl)))
              rw [hA.1, hs3_25]
              refine And.intro (fun a ha => (want_is (j := 23) (t := 26) (r := true) rfl rfl (by kernel_rfl) (((hf 23 26 (by kernel_rfl) rfl).trans hv23).trans (congrArg Value.bool (show (decide (a0.1 ≥ (2 : Int))) = true from dec_t q8))) rfl a ha).trans hon.symm) (And.intro (fun _ => ?_) (fun h => by rw [hon] at h; cases h))
              have hF := fr_next (fr_next (rfl) (((hf 23 26 (by kernel_rfl) rfl).trans hv23).trans (congrArg Value.bool (show (decide (a0.1 ≥ (2 : Int))) = true from dec_t q8)))) ((hf 24 27 (by kernel_rfl) rfl).trans hv24)
              refine ls_fr hF ?_
              refine ls_load (a0 := ⟨g1, (0 + 0), none⟩) (v := .int .i64 a0.1) (de := (TypeDesc.int .i64)) rfl rfl (by kernel_rfl) rfl (by kernel_rfl) (by kernel_rfl) (by kernel_rfl) (fun w1 hs1 => cell_step hs1.below.bw (hs.var (k := 0) ((hS 0 (by kernel_rfl)).trans (by exact rfl)) (Sub4.trans (Sub4.all _) (Sub4.head _ _)))) ?_
              exact ls_fin s0 (.int .i64 a0.1) (congrArg (fun z => upd z 28 _) hF.symm) ⟨rfl, rfl⟩ (sub_nil _)
            obtain ⟨s3_26, hs3_26⟩ : ∃ z : Value → Sto → Prop, z = (fun v R => v = .bool (decide (a0.1 ≤ (8192 : Int))) ∧ R = s0) := ⟨_, rfl⟩
            refine have_op (l := [_, _, _, _, _, _, _, _, _, _, _, _, _, _, _, _, _, _, _, _, _, _, _, _, _, _, _, _, _, _, _, _, _, _, _, _, _]) shadowboxref06_Right.tab1 1 26 (fun sp => sp 26 = s3_26 ∧ sp 23 = s3_23 ∧ sp 25 = s3_25) (fun sp on hA hon => ?_) (fun ops3_26 => ?_)
            · refine ⟨fun o ho vs Rs f' S' w hp hf hx hS hR hs => ?_⟩
              obtain rfl := Option.some.inj ho
              obtain ⟨hv23, hR23⟩ := (spe hA.2.1 hs3_23 (hp 23 (by kernel_rfl)))
              obtain ⟨hv25, hR25⟩ := (spe hA.2.2 hs3_25 (hp 25 (by kernel_rfl)))
              rw [hA.1, hs3_26]
              refine And.intro (fun a ha => (want_is (j := 23) (t := 26) (r := true) rfl rfl (by kernel_rfl) (((hf 23 26 (by kernel_rfl) rfl).trans hv23).trans (congrArg Value.bool (show (decide (a0.1 ≥ (2 : Int))) = true from dec_t q8))) rfl a ha).trans hon.symm) (And.intro (fun _ => ?_) (fun h => by rw [hon] at h; cases h))
              have hF := fr_next (fr_next (rfl) (((hf 23 26 (by kernel_rfl) rfl).trans hv23).trans (congrArg Value.bool (show (decide (a0.1 ≥ (2 : Int))) = true from dec_t q8)))) ((hf 25 28 (by kernel_rfl) rfl).trans hv25)
              refine ls_fr hF ?_
              refine ls_val (v := .bool (decide (a0.1 ≤ (8192 : Int)))) rfl rfl (by kernel_rfl) (fun w => by kernel_rfl) ?_
              exact ls_fin s0 (.bool (decide (a0.1 ≤ (8192 : Int)))) (congrArg (fun z => upd z 29 _) hF.symm) ⟨rfl, rfl⟩ (sub_nil _)
            obtain ⟨s3_27, hs3_27⟩ : ∃ z : Value → Sto → Prop, z = (fun v R => v = .bool (decide (a0.1 ≤ (8192 : Int))) ∧ R = s0) := ⟨_, rfl⟩
            refine have_op (l := [_, _, _, _, _, _, _, _, _, _, _, _, _, _, _, _, _, _, _, _, _, _, _, _, _, _, _, _, _, _, _, _, _, _, _, _, _]) shadowboxref06_Right.tab1 1 27 (fun sp => sp 27 = s3_27 ∧ sp 23 = s3_23 ∧ sp 26 = s3_26) (fun sp on hA hon => ?_) (fun ops3_27 => ?_)
            · refine ⟨fun o ho vs Rs f' S' w hp hf hx hS hR hs => ?_⟩
              obtain rfl := Option.some.inj ho
              obtain ⟨hv23, hR23⟩ := (spe hA.2.1 hs3_23 (hp 23 (by kernel_rfl)))
              obtain ⟨hv26, hR26⟩ := (spe hA.2.2 hs3_26 (hp 26 (by kernel_rfl)))
              rw [hA.1, hs3_27]
              refine And.intro (fun a ha => (want_none rfl a ha).trans hon.symm) (And.intro (fun _ => ?_) (fun h => by rw [hon] at h; cases h))
              have hF := fr_next (fr_next (rfl) (((hf 23 26 (by kernel_rfl) rfl).trans hv23).trans (congrArg Value.bool (show (decide (a0.1 ≥ (2 : Int))) = true from dec_t q8)))) ((hf 26 29 (by kernel_rfl) rfl).trans hv26)
              refine ls_fr hF ?_
              refine ls_val (v := .bool (decide (a0.1 ≤ (8192 : Int)))) rfl rfl (by kernel_rfl) (fun w => by kernel_rfl) ?_
              exact ls_fin s0 (.bool (decide (a0.1 ≤ (8192 : Int)))) (congrArg (fun z => upd z 30 _) hF.symm) ⟨rfl, rfl⟩ (sub_nil _)
            obtain ⟨s3_28, hs3_28⟩ : ∃ z : Value → Sto → Prop, z = (fun v R => v = .bool (decide (a0.1 ≤ (8192 : Int))) ∧ R = s0) := ⟨_, rfl⟩
            refine have_op (l := [_, _, _, _, _, _, _, _, _, _, _, _, _, _, _, _, _, _, _, _, _, _, _, _, _, _, _, _, _, _, _, _, _, _, _, _, _]) shadowboxref06_Right.tab1 1 28 (fun sp => sp 28 = s3_28 ∧ sp 27 = s3_27) (fun sp on hA hon => ?_) (fun ops3_28 => ?_)
            · refine ⟨fun o ho vs Rs f' S' w hp hf hx hS hR hs => ?_⟩
              obtain rfl := Option.some.inj ho
              obtain ⟨hv27, hR27⟩ := (spe hA.2 hs3_27 (hp 27 (by kernel_rfl)))
              rw [hA.1, hs3_28]
              refine And.intro (fun a ha => (want_none rfl a ha).trans hon.symm) (And.intro (fun _ => ?_) (fun h => by rw [hon] at h; cases h))
              have hF := fr_next (rfl) ((hf 27 30 (by kernel_rfl) rfl).trans hv27)
              refine ls_fr hF ?_
              refine ls_val (v := .bool (decide (a0.1 ≤ (8192 : Int)))) rfl rfl (by kernel_rfl) (fun w => by kernel_rfl) ?_
              exact ls_fin s0 (.bool (decide (a0.1 ≤ (8192 : Int)))) (congrArg (fun z => upd z 31 _) hF.symm) ⟨rfl, rfl⟩ (sub_nil _)
            by_cases q9 : a0.1 ≤ (8192 : Int)
            · replace H := ite_t q9 H
              obtain ⟨s3_29, hs3_29⟩ : ∃ z : Value → Sto → Prop, z = (fun v R => v = .pointer (some ⟨g1, (0 + 0), none⟩) ∧ R = s0) := ⟨_, rfl⟩
              refine have_op (l := [_, _, _, _, _, _, _, _, _, _, _, _, _, _, _, _, _, _, _, _, _, _, _, _, _, _, _, _, _, _, _, _, _, _, _, _, _]) shadowboxref06_Right.tab1 1 29 (fun sp => sp 29 = s3_29 ∧ sp 28 = s3_28) (fun sp on hA hon => ?_) (fun ops3_29 => ?_)
              · refine ⟨fun o ho vs Rs f' S' w hp hf hx hS hR hs => ?_⟩
                obtain rfl := Option.some.inj ho
                obtain ⟨hv28, hR28⟩ := (spe hA.2 hs3_28 (hp 28 (by kernel_rfl)))
                rw [hA.1, hs3_29]
                refine And.intro (fun a ha => (want_is (j := 28) (t := 31) (r := true) rfl rfl (by kernel_rfl) (((hf 28 31 (by kernel_rfl) rfl).trans hv28).trans (congrArg Value.bool (show (decide (a0.1 ≤ (8192 : Int))) = true from dec_t q9))) rfl a ha).trans hon.symm) (And.intro (fun _ => ?_) (fun h => by rw [hon] at h; cases h))
                have hF := fr_next (fr_next (rfl) ((hx 1 (by kernel_rfl)).trans (by kernel_rfl : (_ : Value) = .pointer (some ⟨g1, 0, none⟩)))) (((hf 28 31 (by kernel_rfl) rfl).trans hv28).trans (congrArg Value.bool (show (decide (a0.1 ≤ (8192 : Int))) = true from dec_t q9)))
                refine ls_fr hF ?_
                refine ls_val (v := .pointer (some ⟨g1, (0 + 0), none⟩)) rfl rfl (by kernel_rfl) (fun w => by kernel_rfl) ?_
                exact ls_fin s0 (.pointer (some ⟨g1, (0 + 0), none⟩)) (congrArg (fun z => upd z 32 _) hF.symm) ⟨rfl, rfl⟩ (sub_nil _)
              obtain ⟨s3_30, hs3_30⟩ : ∃ z : Value → Sto → Prop, z = (fun v R => v = .int .i64 a0.1 ∧ R = s0) := ⟨_, rfl⟩
              refine have_op (l := [_, _, _, _, _, _, _, _, _, _, _, _, _, _, _, _, _, _, _, _, _, _, _, _, _, _, _, _, _, _, _, _, _, _, _, _, _]) shadowboxref06_Right.tab1 1 30 (fun sp => sp 30 = s3_30 ∧ sp 28 = s3_28 ∧ sp 29 = s3_29) (fun sp on hA hon => ?_) (fun ops3_30 => ?_)
              · refine ⟨fun o ho vs Rs f' S' w hp hf hx hS hR hs => ?_⟩
                obtain rfl := Option.some.inj ho
                obtain ⟨hv28, hR28⟩ := (spe hA.2.1 hs3_28 (hp 28 (by kernel_rfl)))
                obtain ⟨hv29, hR29⟩ := (spe hA.2.2 hs3_29 (hp 29 (by kernel_rfl)))
                rw [hA.1, hs3_30]
                refine And.intro (fun a ha => (want_is (j := 28) (t := 31) (r := true) rfl rfl (by kernel_rfl) (((hf 28 31 (by kernel_rfl) rfl).trans hv28).trans (congrArg Value.bool (show (decide (a0.1 ≤ (8192 : Int))) = true from dec_t q9))) rfl a ha).trans hon.symm) (And.intro (fun _ => ?_) (fun h => by rw [hon] at h; cases h))
                have hF := fr_next (fr_next (rfl) (((hf 28 31 (by kernel_rfl) rfl).trans hv28).trans (congrArg Value.bool (show (decide (a0.1 ≤ (8192 : Int))) = true from dec_t q9)))) ((hf 29 32 (by kernel_rfl) rfl).trans hv29)
                refine ls_fr hF ?_
                refine ls_load (a0 := ⟨g1, (0 + 0), none⟩) (v := .int .i64 a0.1) (de := (TypeDesc.int .i64)) rfl rfl (by kernel_rfl) rfl (by kernel_rfl) (by kernel_rfl) (by kernel_rfl) (fun w1 hs1 => cell_step hs1.below.bw (hs.var (k := 0) ((hS 0 (by kernel_rfl)).trans (by exact rfl)) (Sub4.trans (Sub4.all _) (Sub4.head _ _)))) ?_
                exact ls_fin s0 (.int .i64 a0.1) (congrArg (fun z => upd z 33 _) hF.symm) ⟨rfl, rfl⟩ (sub_nil _)
              obtain ⟨s3_31, hs3_31⟩ : ∃ z : Value → Sto → Prop, z = (fun v R => v = .agg ⟨([Value.int .i64 a0.1] ++ ([Value.int .i64 a0.2.1] ++ ([Value.int .i64 a0.2.2.1] ++ ([Value.int .u32 a0.2.2.2.1] ++ en (Value.int .u8) a0.2.2.2.2.1))))⟩ ∧ R = s0) := ⟨_, rfl⟩
              refine have_op (l := [_, _, _, _, _, _, _, _, _, _, _, _, _, _, _, _, _, _, _, _, _, _, _, _, _, _, _, _, _, _, _, _, _, _, _, _, _]) shadowboxref06_Right.tab1 1 31 (fun sp => sp 31 = s3_31 ∧ sp 28 = s3_28) (fun sp on hA hon => ?_) (fun ops3_31 => ?_)
              · refine ⟨fun o ho vs Rs f' S' w hp hf hx hS hR hs => ?_⟩
                obtain rfl := Option.some.inj ho
                obtain ⟨hv28, hR28⟩ := (spe hA.2 hs3_28 (hp 28 (by kernel_rfl)))
                rw [hA.1, hs3_31]
                refine And.intro (fun a ha => (want_is (j := 28) (t := 31) (r := true) rfl rfl (by kernel_rfl) (((hf 28 31 (by kernel_rfl) rfl).trans hv28).trans (congrArg Value.bool (show (decide (a0.1 ≤ (8192 : Int))) = true from dec_t q9))) rfl a ha).trans hon.symm) (And.intro (fun _ => ?_) (fun h => by rw [hon] at h; cases h))
                have hF := fr_next (fr_next (rfl) ((hx 1 (by kernel_rfl)).trans (by kernel_rfl : (_ : Value) = .pointer (some ⟨g1, 0, none⟩)))) (((hf 28 31 (by kernel_rfl) rfl).trans hv28).trans (congrArg Value.bool (show (decide (a0.1 ≤ (8192 : Int))) = true from dec_t q9)))
                refine ls_fr hF ?_
                refine ls_loadagg (a := ⟨g1, 0, none⟩) (sub := ([Value.int .i64 a0.1] ++ ([Value.int .i64 a0.2.1] ++ ([Value.int .i64 a0.2.2.1] ++ ([Value.int .u32 a0.2.2.2.1] ++ en (Value.int .u8) a0.2.2.2.2.1))))) rfl rfl (by kernel_rfl) rfl (by kernel_rfl) (by kernel_rfl) (by kernel_rfl) (len_app (len1 _) (len_app (len1 _) (len_app (len1 _) (len_app (len1 _) (len_en _ a0.2.2.2.2))))) (fun w1 hs1 => Rd.step (hs.vars (k := 0) ((hS 0 (by kernel_rfl)).trans (by exact rfl)) (Sub4.all _)) hs1.below.bw) ?_
                exact ls_fin s0 (.agg ⟨([Value.int .i64 a0.1] ++ ([Value.int .i64 a0.2.1] ++ ([Value.int .i64 a0.2.2.1] ++ ([Value.int .u32 a0.2.2.2.1] ++ en (Value.int .u8) a0.2.2.2.2.1))))⟩) (congrArg (fun z => upd z 34 _) hF.symm) ⟨rfl, rfl⟩ (sub_nil _)
              obtain ⟨t10, hc11, H⟩ := bind_some H
              obtain ⟨s3_32, hs3_32⟩ : ∃ z : Value → Sto → Prop, z = (fun v R => ∃ x12 : Unit, v = .int .i64 t10 ∧ R = stl []) := ⟨_, rfl⟩
              refine have_op (l := [_, _, _, _, _, _, _, _, _, _, _, _, _, _, _, _, _, _, _, _, _, _, _, _, _, _, _, _, _, _, _, _, _, _, _, _, _]) shadowboxref06_Right.tab1 1 32 (fun sp => sp 32 = s3_32 ∧ sp 28 = s3_28 ∧ sp 31 = s3_31) (fun sp on hA hon => ?_) (fun ops3_32 => ?_)
              · refine ⟨fun o ho vs Rs f' S' w hp hf hx hS hR hs => ?_⟩
                obtain rfl := Option.some.inj ho
                obtain ⟨hv28, hR28⟩ := (spe hA.2.1 hs3_28 (hp 28 (by kernel_rfl)))
                obtain ⟨hv31, hR31⟩ := (spe hA.2.2 hs3_31 (hp 31 (by kernel_rfl)))
                rw [hA.1, hs3_32]
                refine And.intro (fun a ha => (want_is (j := 28) (t := 31) (r := true) rfl rfl (by kernel_rfl) (((hf 28 31 (by kernel_rfl) rfl).trans hv28).trans (congrArg Value.bool (show (decide (a0.1 ≤ (8192 : Int))) = true from dec_t q9))) rfl a ha).trans hon.symm) (And.intro (fun _ => ?_) (fun h => by rw [hon] at h; cases h))
                have hF := fr_next (fr_next (rfl) (((hf 28 31 (by kernel_rfl) rfl).trans hv28).trans (congrArg Value.bool (show (decide (a0.1 ≤ (8192 : Int))) = true from dec_t q9)))) ((hf 31 34 (by kernel_rfl) rfl).trans hv31)
                refine ls_fr hF ?_
                refine ls_call (fid := 17) (vals := #[.agg ⟨([Value.int .i64 a0.1] ++ ([Value.int .i64 a0.2.1] ++ ([Value.int .i64 a0.2.2.1] ++ ([Value.int .u32 a0.2.2.2.1] ++ en (Value.int .u8) a0.2.2.2.2.1))))⟩]) (X := Unit) (fun x => .int .i64 t10) (fun x => stl []) 0 rfl rfl (by kernel_rfl) (fun w => by kernel_rfl) (fun w1 hs1 => shadowboxref06_Sectors.calls k a0 t10 (bw w1) (St.refl w1)  hc11) ?_
                intro x12
                exact ls_fin (stl []) (.int .i64 t10) (congrArg (fun z => upd z 35 _) hF.symm) ⟨x12, rfl, rfl⟩ (sub_join _)
              refine cs_draw shadowboxref06_Right.tab1 33 1 (spl [s3_0, s3_1, s3_2, s3_3, s3_4, s3_5, s3_6, s3_7, s3_8, s3_9, s3_10, s3_11, s3_12, s3_13, s3_14, s3_15, s3_16, s3_17, s3_18, s3_19, s3_20, s3_21, s3_22, s3_23, s3_24, s3_25, s3_26, s3_27, s3_28, s3_29, s3_30, s3_31, s3_32]) (onl [true, true, true, true, true, true, true, true, true, true, true, true, true, true, true, true, true, true, true, true, true, true, true, true, true, true, true, true, true, true, true, true, true]) (by kernel_rfl) (by kernel_rfl) (by kernel_rfl) (by kernel_rfl) (rs := [_, _, _, _]) rfl (by kernel_rfl) (by kernel_rfl) (all_snoc (all_snoc (all_snoc (all_snoc (all_snoc (all_snoc (all_snoc (all_snoc (all_snoc (all_snoc (all_snoc (all_snoc (all_snoc (all_snoc (all_snoc (all_snoc (all_snoc (all_snoc (all_snoc (all_snoc (all_snoc (all_snoc (all_snoc (all_snoc (all_snoc (all_snoc (all_snoc (all_snoc (all_snoc (all_snoc (all_snoc (all_snoc (all_snoc (all_nil) (ops3_0 _ _ rfl rfl)) (ops3_1 _ _ ⟨rfl, rfl⟩ rfl)) (ops3_2 _ _ ⟨rfl, rfl⟩ rfl)) (ops3_3 _ _ ⟨rfl, rfl⟩ rfl)) (ops3_4 _ _ ⟨rfl, rfl⟩ rfl)) (ops3_5 _ _ ⟨rfl, rfl, rfl⟩ rfl)) (ops3_6 _ _ ⟨rfl, rfl, rfl⟩ rfl)) (ops3_7 _ _ ⟨rfl, rfl, rfl⟩ rfl)) (ops3_8 _ _ ⟨rfl, rfl⟩ rfl)) (ops3_9 _ _ ⟨rfl, rfl⟩ rfl)) (ops3_10 _ _ ⟨rfl, rfl, rfl⟩ rfl)) (ops3_11 _ _ ⟨rfl, rfl, rfl⟩ rfl)) (ops3_12 _ _ ⟨rfl, rfl, rfl⟩ rfl)) (ops3_13 _ _ ⟨rfl, rfl⟩ rfl)) (ops3_14 _ _ ⟨rfl, rfl⟩ rfl)) (ops3_15 _ _ ⟨rfl, rfl, rfl⟩ rfl)) (ops3_16 _ _ ⟨rfl, rfl, rfl⟩ rfl)) (ops3_17 _ _ ⟨rfl, rfl, rfl⟩ rfl)) (ops3_18 _ _ ⟨rfl, rfl⟩ rfl)) (ops3_19 _ _ ⟨rfl, rfl⟩ rfl)) (ops3_20 _ _ ⟨rfl, rfl, rfl⟩ rfl)) (ops3_21 _ _ ⟨rfl, rfl, rfl⟩ rfl)) (ops3_22 _ _ ⟨rfl, rfl, rfl⟩ rfl)) (ops3_23 _ _ ⟨rfl, rfl⟩ rfl)) (ops3_24 _ _ ⟨rfl, rfl⟩ rfl)) (ops3_25 _ _ ⟨rfl, rfl, rfl⟩ rfl)) (ops3_26 _ _ ⟨rfl, rfl, rfl⟩ rfl)) (ops3_27 _ _ ⟨rfl, rfl, rfl⟩ rfl)) (ops3_28 _ _ ⟨rfl, rfl⟩ rfl)) (ops3_29 _ _ ⟨rfl, rfl⟩ rfl)) (ops3_30 _ _ ⟨rfl, rfl, rfl⟩ rfl)) (ops3_31 _ _ ⟨rfl, rfl⟩ rfl)) (ops3_32 _ _ ⟨rfl, rfl, rfl⟩ rfl)) ?_
              intro vs Rs f' S' hp hf hx hS hR
              obtain ⟨hv28, hR28⟩ := (spe rfl hs3_28 (hp 28 (by kernel_rfl)))
              obtain ⟨hv30, hR30⟩ := (spe rfl hs3_30 (hp 30 (by kernel_rfl)))
              obtain ⟨x12, hv32, hR32⟩ := (spe rfl hs3_32 (hp 32 (by kernel_rfl)))
              refine ls_fr (F := upd (upd (upd f' 31 (.bool (decide (a0.1 ≤ (8192 : Int))))) 33 (.int .i64 a0.1)) 35 (.int .i64 t10)) (fr_next (fr_next (fr_next (rfl) ((hf 28 31 (by kernel_rfl) rfl).trans hv28)) ((hf 30 33 (by kernel_rfl) rfl).trans hv30)) ((hf 32 35 (by kernel_rfl) rfl).trans hv32)) ?_
              refine ls_sub (s0) (sub_nil _) ?_
              refine ls_know (c := true) (dec_t q9) 31 (by kernel_rfl) ?_
              refine ls_on (j := 28) (t := 31) (b := true) rfl rfl (by kernel_rfl) (by kernel_rfl) ?_
              refine ls_val (v := .int .i64 (IntKind.wrap .i64 (a0.1 + t10))) rfl rfl (by kernel_rfl) (fun w => by kernel_rfl) ?_
              refine ls_on (j := 28) (t := 31) (b := true) rfl rfl (by kernel_rfl) (by kernel_rfl) ?_
              refine ls_val (v := .bool (decide ((IntKind.wrap .i64 (a0.1 + t10)) ≤ (8192 : Int)))) rfl rfl (by kernel_rfl) (fun w => by kernel_rfl) ?_
              refine ls_val (v := .bool (decide ((IntKind.wrap .i64 (a0.1 + t10)) ≤ (8192 : Int)))) rfl rfl (by kernel_rfl) (fun w => by kernel_rfl) ?_
              refine ls_val (v := .bool (decide ((IntKind.wrap .i64 (a0.1 + t10)) ≤ (8192 : Int)))) rfl rfl (by kernel_rfl) (fun w => by kernel_rfl) ?_
              refine ls_end ?_
              refine qn_then ?_
              refine cs_ret' ?_
              obtain rfl := Option.some.inj H
              refine qr_res (rs := [_]) rfl (fun w' hs => ⟨[.bool (decide ((IntKind.wrap .i64 (a0.1 + t10)) ≤ (8192 : Int)))], (res_tmp (by kernel_rfl) (.nil)), (), rfl, hs.pick (ts := []) (cs := []) trivial (by decide)⟩)
            · replace H := ite_f q9 H
              refine cs_draw shadowboxref06_Right.tab1 33 1 (spl [s3_0, s3_1, s3_2, s3_3, s3_4, s3_5, s3_6, s3_7, s3_8, s3_9, s3_10, s3_11, s3_12, s3_13, s3_14, s3_15, s3_16, s3_17, s3_18, s3_19, s3_20, s3_21, s3_22, s3_23, s3_24, s3_25, s3_26, s3_27, s3_28, spu, spu, spu, spu]) (onl [true, true, true, true, true, true, true, true, true, true, true, true, true, true, true, true, true, true, true, true, true, true, true, true, true, true, true, true, true, false, false, false, false]) (by kernel_rfl) (by kernel_rfl) (by kernel_rfl) (by kernel_rfl) (rs := [_, _, _, _]) rfl (by kernel_rfl) (by kernel_rfl) (all_snoc (all_snoc (all_snoc (all_snoc (all_snoc (all_snoc (all_snoc (all_snoc (all_snoc (all_snoc (all_snoc (all_snoc (all_snoc (all_snoc (all_snoc (all_snoc (all_snoc (all_snoc (all_snoc (all_snoc (all_snoc (all_snoc (all_snoc (all_snoc (all_snoc (all_snoc (all_snoc (all_snoc (all_snoc (all_snoc (all_snoc (all_snoc (all_snoc (all_nil) (ops3_0 _ _ rfl rfl)) (ops3_1 _ _ ⟨rfl, rfl⟩ rfl)) (ops3_2 _ _ ⟨rfl, rfl⟩ rfl)) (ops3_3 _ _ ⟨rfl, rfl⟩ rfl)) (ops3_4 _ _ ⟨rfl, rfl⟩ rfl)) (ops3_5 _ _ ⟨rfl, rfl, rfl⟩ rfl)) (ops3_6 _ _ ⟨rfl, rfl, rfl⟩ rfl)) (ops3_7 _ _ ⟨rfl, rfl, rfl⟩ rfl)) (ops3_8 _ _ ⟨rfl, rfl⟩ rfl)) (ops3_9 _ _ ⟨rfl, rfl⟩ rfl)) (ops3_10 _ _ ⟨rfl, rfl, rfl⟩ rfl)) (ops3_11 _ _ ⟨rfl, rfl, rfl⟩ rfl)) (ops3_12 _ _ ⟨rfl, rfl, rfl⟩ rfl)) (ops3_13 _ _ ⟨rfl, rfl⟩ rfl)) (ops3_14 _ _ ⟨rfl, rfl⟩ rfl)) (ops3_15 _ _ ⟨rfl, rfl, rfl⟩ rfl)) (ops3_16 _ _ ⟨rfl, rfl, rfl⟩ rfl)) (ops3_17 _ _ ⟨rfl, rfl, rfl⟩ rfl)) (ops3_18 _ _ ⟨rfl, rfl⟩ rfl)) (ops3_19 _ _ ⟨rfl, rfl⟩ rfl)) (ops3_20 _ _ ⟨rfl, rfl, rfl⟩ rfl)) (ops3_21 _ _ ⟨rfl, rfl, rfl⟩ rfl)) (ops3_22 _ _ ⟨rfl, rfl, rfl⟩ rfl)) (ops3_23 _ _ ⟨rfl, rfl⟩ rfl)) (ops3_24 _ _ ⟨rfl, rfl⟩ rfl)) (ops3_25 _ _ ⟨rfl, rfl, rfl⟩ rfl)) (ops3_26 _ _ ⟨rfl, rfl, rfl⟩ rfl)) (ops3_27 _ _ ⟨rfl, rfl, rfl⟩ rfl)) (ops3_28 _ _ ⟨rfl, rfl⟩ rfl)) (op_offi 29 28 31 true rfl rfl (by kernel_rfl) (by kernel_rfl) rfl (fun v R h => by rw [hs3_28] at h; obtain ⟨h, _⟩ := h; exact h.trans (congrArg Value.bool (show (decide (a0.1 ≤ (8192 : Int))) = false from dec_f q9))) rfl rfl)) (op_offi 30 28 31 true rfl rfl (by kernel_rfl) (by kernel_rfl) rfl (fun v R h => by rw [hs3_28] at h; obtain ⟨h, _⟩ := h; exact h.trans (congrArg Value.bool (show (decide (a0.1 ≤ (8192 : Int))) = false from dec_f q9))) rfl rfl)) (op_offi 31 28 31 true rfl rfl (by kernel_rfl) (by kernel_rfl) rfl (fun v R h => by rw [hs3_28] at h; obtain ⟨h, _⟩ := h; exact h.trans (congrArg Value.bool (show (decide (a0.1 ≤ (8192 : Int))) = false from dec_f q9))) rfl rfl)) (op_offi 32 28 31 true rfl rfl (by kernel_rfl) (by kernel_rfl) rfl (fun v R h => by rw [hs3_28] at h; obtain ⟨h, _⟩ := h; exact h.trans (congrArg Value.bool (show (decide (a0.1 ≤ (8192 : Int))) = false from dec_f q9))) rfl rfl)) ?_
              intro vs Rs f' S' hp hf hx hS hR
              obtain ⟨hv28, hR28⟩ := (spe rfl hs3_28 (hp 28 (by kernel_rfl)))
              obtain ⟨hv30, hR30⟩ := (spe rfl rfl (hp 30 (by kernel_rfl)) : spu _ _)
              obtain ⟨hv32, hR32⟩ := (spe rfl rfl (hp 32 (by kernel_rfl)) : spu _ _)
              refine ls_fr (F := upd f' 31 (.bool (decide (a0.1 ≤ (8192 : Int))))) (fr_next (rfl) ((hf 28 31 (by kernel_rfl) rfl).trans hv28)) ?_
              refine ls_sub (s0) (sub_nil _) ?_
              refine ls_know (c := false) (dec_f q9) 31 (by kernel_rfl) ?_
              refine ls_off (j := 28) (t := 31) (b := true) (c := false) rfl rfl (by kernel_rfl) (by kernel_rfl) rfl rfl (by kernel_rfl) ?_
              refine ls_off (j := 28) (t := 31) (b := true) (c := false) rfl rfl (by kernel_rfl) (by kernel_rfl) rfl rfl (by kernel_rfl) ?_
              refine ls_val (v := .bool false) rfl rfl (by kernel_rfl) (fun w => by kernel_rfl) ?_
              refine ls_val (v := .bool false) rfl rfl (by kernel_rfl) (fun w => by kernel_rfl) ?_
              refine ls_end ?_
              refine qn_then ?_
              refine cs_ret' ?_
              obtain rfl := Option.some.inj H
              refine qr_res (rs := [_]) rfl (fun w' hs => ⟨[.bool false], (res_tmp (by kernel_rfl) (.nil)), (), rfl, hs.pick (ts := []) (cs := []) trivial (by decide)⟩)
          · replace H := ite_f q8 H
            obtain ⟨s3_27, hs3_27⟩ : ∃ z : Value → Sto → Prop, z = (fun v R => v = .bool false ∧ R = s0) := ⟨_, rfl⟩
            refine have_op (l := [_, _, _, _, _, _, _, _, _, _, _, _, _, _, _, _, _, _, _, _, _, _, _, _, _, _, _, _, _, _, _, _, _, _, _, _, _]) shadowboxref06_Right.tab1 1 27 (fun sp => sp 27 = s3_27 ∧ sp 23 = s3_23 ∧ sp 26 = spu) (fun sp on hA hon => ?_) (fun ops3_27 => ?_)
            · refine ⟨fun o ho vs Rs f' S' w hp hf hx hS hR hs => ?_⟩
              obtain rfl := Option.some.inj ho
              obtain ⟨hv23, hR23⟩ := (spe hA.2.1 hs3_23 (hp 23 (by kernel_rfl)))
              obtain ⟨hv26, hR26⟩ := (spe hA.2.2 rfl (hp 26 (by kernel_rfl)) : spu _ _)
              rw [hA.1, hs3_27]
              refine And.intro (fun a ha => (want_none rfl a ha).trans hon.symm) (And.intro (fun _ => ?_) (fun h => by rw [hon] at h; cases h))
              have hF := fr_next (fr_next (rfl) (((hf 23 26 (by kernel_rfl) rfl).trans hv23).trans (congrArg Value.bool (show (decide (a0.1 ≥ (2 : Int))) = false from dec_f q8)))) ((hf 26 29 (by kernel_rfl) rfl).trans hv26)
              refine ls_fr hF ?_
              refine ls_val (v := .bool false) rfl rfl (by kernel_rfl) (fun w => by kernel_rfl) ?_
              exact ls_fin s0 (.bool false) (congrArg (fun z => upd z 30 _) hF.symm) ⟨rfl, rfl⟩ (sub_nil _)
            obtain ⟨s3_28, hs3_28⟩ : ∃ z : Value → Sto → Prop, z = (fun v R => v = .bool false ∧ R = s0) := ⟨_, rfl⟩
            refine have_op (l := [_, _, _, _, _, _, _, _, _, _, _, _, _, _, _, _, _, _, _, _, _, _, _, _, _, _, _, _, _, _, _, _, _, _, _, _, _]) shadowboxref06_Right.tab1 1 28 (fun sp => sp 28 = s3_28 ∧ sp 27 = s3_27) (fun sp on hA hon => ?_) (fun ops3_28 => ?_)
            · refine ⟨fun o ho vs Rs f' S' w hp hf hx hS hR hs => ?_⟩
              obtain rfl := Option.some.inj ho
              obtain ⟨hv27, hR27⟩ := (spe hA.2 hs3_27 (hp 27 (by kernel_rfl)))
              rw [hA.1, hs3_28]
              refine And.intro (fun a ha => (want_none rfl a ha).trans hon.symm) (And.intro (fun _ => ?_) (fun h => by rw [hon] at h; cases h))
              have hF := fr_next (rfl) ((hf 27 30 (by kernel_rfl) rfl).trans hv27)
              refine ls_fr hF ?_
              refine ls_val (v := .bool false) rfl rfl (by kernel_rfl) (fun w => by kernel_rfl) ?_
              exact ls_fin s0 (.bool false) (congrArg (fun z => upd z 31 _) hF.symm) ⟨rfl, rfl⟩ (sub_nil _)
            refine cs_draw shadowboxref06_Right.tab1 33 1 (spl [s3_0, s3_1, s3_2, s3_3, s3_4, s3_5, s3_6, s3_7, s3_8, s3_9, s3_10, s3_11, s3_12, s3_13, s3_14, s3_15, s3_16, s3_17, s3_18, s3_19, s3_20, s3_21, s3_22, s3_23, spu, spu, spu, s3_27, s3_28, spu, spu, spu, spu]) (onl [true, true, true, true, true, true, true, true, true, true, true, true, true, true, true, true, true, true, true, true, true, true, true, true, false, false, false, true, true, false, false, false, false]) (by kernel_rfl) (by kernel_rfl) (by kernel_rfl) (by kernel_rfl) (rs := [_, _, _, _]) rfl (by kernel_rfl) (by kernel_rfl) (all_snoc (all_snoc (all_snoc (all_snoc (all_snoc (all_snoc (all_snoc (all_snoc (all_snoc (all_snoc (all_snoc (all_snoc (all_snoc (all_snoc (all_snoc (all_snoc (all_snoc (all_snoc (all_snoc (all_snoc (all_snoc (all_snoc (all_snoc (all_snoc (all_snoc (all_snoc (all_snoc (all_snoc (all_snoc (all_snoc (all_snoc (all_snoc (all_snoc (all_nil) (ops3_0 _ _ rfl rfl)) (ops3_1 _ _ ⟨rfl, rfl⟩ rfl)) (ops3_2 _ _ ⟨rfl, rfl⟩ rfl)) (ops3_3 _ _ ⟨rfl, rfl⟩ rfl)) (ops3_4 _ _ ⟨rfl, rfl⟩ rfl)) (ops3_5 _ _ ⟨rfl, rfl, rfl⟩ rfl)) (ops3_6 _ _ ⟨rfl, rfl, rfl⟩ rfl)) (ops3_7 _ _ ⟨rfl, rfl, rfl⟩ rfl)) (ops3_8 _ _ ⟨rfl, rfl⟩ rfl)) (ops3_9 _ _ ⟨rfl, rfl⟩ rfl)) (ops3_10 _ _ ⟨rfl, rfl, rfl⟩ rfl)) (ops3_11 _ _ ⟨rfl, rfl, rfl⟩ rfl)) (ops3_12 _ _ ⟨rfl, rfl, rfl⟩ rfl)) (ops3_13 _ _ ⟨rfl, rfl⟩ rfl)) (ops3_14 _ _ ⟨rfl, rfl⟩ rfl)) (ops3_15 _ _ ⟨rfl, rfl, rfl⟩ rfl)) (ops3_16 _ _ ⟨rfl, rfl, rfl⟩ rfl)) (ops3_17 _ _ ⟨rfl, rfl, rfl⟩ rfl)) (ops3_18 _ _ ⟨rfl, rfl⟩ rfl)) (ops3_19 _ _ ⟨rfl, rfl⟩ rfl)) (ops3_20 _ _ ⟨rfl, rfl, rfl⟩ rfl)) (ops3_21 _ _ ⟨rfl, rfl, rfl⟩ rfl)) (ops3_22 _ _ ⟨rfl, rfl, rfl⟩ rfl)) (ops3_23 _ _ ⟨rfl, rfl⟩ rfl)) (op_offi 24 23 26 true rfl rfl (by kernel_rfl) (by kernel_rfl) rfl (fun v R h => by rw [hs3_23] at h; obtain ⟨h, _⟩ := h; exact h.trans (congrArg Value.bool (show (decide (a0.1 ≥ (2 : Int))) = false from dec_f q8))) rfl rfl)) (op_offi 25 23 26 true rfl rfl (by kernel_rfl) (by kernel_rfl) rfl (fun v R h => by rw [hs3_23] at h; obtain ⟨h, _⟩ := h; exact h.trans (congrArg Value.bool (show (decide (a0.1 ≥ (2 : Int))) = false from dec_f q8))) rfl rfl)) (op_offi 26 23 26 true rfl rfl (by kernel_rfl) (by kernel_rfl) rfl (fun v R h => by rw [hs3_23] at h; obtain ⟨h, _⟩ := h; exact h.trans (congrArg Value.bool (show (decide (a0.1 ≥ (2 : Int))) = false from dec_f q8))) rfl rfl)) (ops3_27 _ _ ⟨rfl, rfl, rfl⟩ rfl)) (ops3_28 _ _ ⟨rfl, rfl⟩ rfl)) (op_offi 29 28 31 true rfl rfl (by kernel_rfl) (by kernel_rfl) rfl (fun v R h => by rw [hs3_28] at h; obtain ⟨h, _⟩ := h; exact h) rfl rfl)) (op_offi 30 28 31 true rfl rfl (by kernel_rfl) (by kernel_rfl) rfl (fun v R h => by rw [hs3_28] at h; obtain ⟨h, _⟩ := h; exact h) rfl rfl)) (op_offi 31 28 31 true rfl rfl (by kernel_rfl) (by kernel_rfl) rfl (fun v R h => by rw [hs3_28] at h; obtain ⟨h, _⟩ := h; exact h) rfl rfl)) (op_offi 32 28 31 true rfl rfl (by kernel_rfl) (by kernel_rfl) rfl (fun v R h => by rw [hs3_28] at h; obtain ⟨h, _⟩ := h; exact h) rfl rfl)) ?_
            intro vs Rs f' S' hp hf hx hS hR
            obtain ⟨hv28, hR28⟩ := (spe rfl hs3_28 (hp 28 (by kernel_rfl)))
            obtain ⟨hv30, hR30⟩ := (spe rfl rfl (hp 30 (by kernel_rfl)) : spu _ _)
            obtain ⟨hv32, hR32⟩ := (spe rfl rfl (hp 32 (by kernel_rfl)) : spu _ _)
            refine ls_fr (F := upd f' 31 (.bool false)) (fr_next (rfl) ((hf 28 31 (by kernel_rfl) rfl).trans hv28)) ?_
            refine ls_sub (s0) (sub_nil _) ?_
            refine ls_off (j := 28) (t := 31) (b := true) (c := false) rfl rfl (by kernel_rfl) (by kernel_rfl) rfl rfl (by kernel_rfl) ?_
            refine ls_off (j := 28) (t := 31) (b := true) (c := false) rfl rfl (by kernel_rfl) (by kernel_rfl) rfl rfl (by kernel_rfl) ?_
            refine ls_val (v := .bool false) rfl rfl (by kernel_rfl) (fun w => by kernel_rfl) ?_
            refine ls_val (v := .bool false) rfl rfl (by kernel_rfl) (fun w => by kernel_rfl) ?_
            refine ls_end ?_
            refine qn_then ?_
            refine cs_ret' ?_
            obtain rfl := Option.some.inj H
            refine qr_res (rs := [_]) rfl (fun w' hs => ⟨[.bool false], (res_tmp (by kernel_rfl) (.nil)), (), rfl, hs.pick (ts := []) (cs := []) trivial (by decide)⟩)
        · replace H := ite_f q7 H
          obtain ⟨s3_22, hs3_22⟩ : ∃ z : Value → Sto → Prop, z = (fun v R => v = .bool false ∧ R = s0) := ⟨_, rfl⟩
          refine have_op (l := [_, _, _, _, _, _, _, _, _, _, _, _, _, _, _, _, _, _, _, _, _, _, _, _, _, _, _, _, _, _, _, _, _, _, _, _, _]) shadowboxref06_Right.tab1 1 22 (fun sp => sp 22 = s3_22 ∧ sp 18 = s3_18 ∧ sp 21 = spu) (fun sp on hA hon => ?_) (fun ops3_22 => ?_)
          · refine ⟨fun o ho vs Rs f' S' w hp hf hx hS hR hs => ?_⟩
            obtain rfl := Option.some.inj ho
            obtain ⟨hv18, hR18⟩ := (spe hA.2.1 hs3_18 (hp 18 (by kernel_rfl)))
            obtain ⟨hv21, hR21⟩ := (spe hA.2.2 rfl (hp 21 (by kernel_rfl)) : spu _ _)
            rw [hA.1, hs3_22]
            refine And.intro (fun a ha => (want_none rfl a ha).trans hon.symm) (And.intro (fun _ => ?_) (fun h => by rw [hon] at h; cases h))
            have hF := fr_next (fr_next (rfl) (((hf 18 21 (by kernel_rfl) rfl).trans hv18).trans (congrArg Value.bool (show (decide (a0.2.2.1 ≤ (65536 : Int))) = false from dec_f q7)))) ((hf 21 24 (by kernel_rfl) rfl).trans hv21)
            refine ls_fr hF ?_
            refine ls_val (v := .bool false) rfl rfl (by kernel_rfl) (fun w => by kernel_rfl) ?_
            exact ls_fin s0 (.bool false) (congrArg (fun z => upd z 25 _) hF.symm) ⟨rfl, rfl⟩ (sub_nil _)
          obtain ⟨s3_23, hs3_23⟩ : ∃ z : Value → Sto → Prop, z = (fun v R => v = .bool false ∧ R = s0) := ⟨_, rfl⟩
          refine have_op (l := [_, _, _, _, _, _, _, _, _, _, _, _, _, _, _, _, _, _, _, _, _, _, _, _, _, _, _, _, _, _, _, _, _, _, _, _, _]) shadowboxref06_Right.tab1 1 23 (fun sp => sp 23 = s3_23 ∧ sp 22 = s3_22) (fun sp on hA hon => ?_) (fun ops3_23 => ?_)
          · refine ⟨fun o ho vs Rs f' S' w hp hf hx hS hR hs => ?_⟩
            obtain rfl := Option.some.inj ho
            obtain ⟨hv22, hR22⟩ := (spe hA.2 hs3_22 (hp 22 (by kernel_rfl)))
            rw [hA.1, hs3_23]
            refine And.intro (fun a ha => (want_none rfl a ha).trans hon.symm) (And.intro (fun _ => ?_) (fun h => by rw [hon] at h; cases h))
            have hF := fr_next (rfl) ((hf 22 25 (by kernel_rfl) rfl).trans hv22)
            refine ls_fr hF ?_
            refine ls_val (v := .bool false) rfl rfl (by kernel_rfl) (fun w => by kernel_rfl) ?_
            exact ls_fin s0 (.bool false) (congrArg (fun z => upd z 26 _) hF.symm) ⟨rfl, rfl⟩ (sub_nil _)
          obtain ⟨s3_27, hs3_27⟩ : ∃ z : Value → Sto → Prop, z = (fun v R => v = .bool false ∧ R = s0) := ⟨_, rfl⟩
          refine have_op (l := [_, _, _, _, _, _, _, _, _, _, _, _, _, _, _, _, _, _, _, _, _, _, _, _, _, _, _, _, _, _, _, _, _, _, _, _, _]) shadowboxref06_Right.tab1 1 27 (fun sp => sp 27 = s3_27 ∧ sp 23 = s3_23 ∧ sp 26 = spu) (fun sp on hA hon => ?_) (fun ops3_27 => ?_)
          · refine ⟨fun o ho vs Rs f' S' w hp hf hx hS hR hs => ?_⟩
            obtain rfl := Option.some.inj ho
            obtain ⟨hv23, hR23⟩ := (spe hA.2.1 hs3_23 (hp 23 (by kernel_rfl)))
            obtain ⟨hv26, hR26⟩ := (spe hA.2.2 rfl (hp 26 (by kernel_rfl)) : spu _ _)
            rw [hA.1, hs3_27]
            refine And.intro (fun a ha => (want_none rfl a ha).trans hon.symm) (And.intro (fun _ => ?_) (fun h => by rw [hon] at h; cases h))
            have hF := fr_next (fr_next (rfl) ((hf 23 26 (by kernel_rfl) rfl).trans hv23)) ((hf 26 29 (by kernel_rfl) rfl).trans hv26)
            refine ls_fr hF ?_
            refine ls_val (v := .bool false) rfl rfl (by kernel_rfl) (fun w => by kernel_rfl) ?_
            exact ls_fin s0 (.bool false) (congrArg (fun z => upd z 30 _) hF.symm) ⟨rfl, rfl⟩ (sub_nil _)
          obtain ⟨s3_28, hs3_28⟩ : ∃ z : Value → Sto → Prop, z = (fun v R => v = .bool false ∧ R = s0) := ⟨_, rfl⟩
          refine have_op (l := [_, _, _, _, _, _, _, _, _, _, _, _, _, _, _, _, _, _, _, _, _, _, _, _, _, _, _, _, _, _, _, _, _, _, _, _, _]) shadowboxref06_Right.tab1 1 28 (fun sp => sp 28 = s3_28 ∧ sp 27 = s3_27) (fun sp on hA hon => ?_) (fun ops3_28 => ?_)
          · refine ⟨fun o ho vs Rs f' S' w hp hf hx hS hR hs => ?_⟩
            obtain rfl := Option.some.inj ho
            obtain ⟨hv27, hR27⟩ := (spe hA.2 hs3_27 (hp 27 (by kernel_rfl)))
            rw [hA.1, hs3_28]
            refine And.intro (fun a ha => (want_none rfl a ha).trans hon.symm) (And.intro (fun _ => ?_) (fun h => by rw [hon] at h; cases h))
            have hF := fr_next (rfl) ((hf 27 30 (by kernel_rfl) rfl).trans hv27)
            refine ls_fr hF ?_
            refine ls_val (v := .bool false) rfl rfl (by kernel_rfl) (fun w => by kernel_rfl) ?_
            exact ls_fin s0 (.bool false) (congrArg (fun z => upd z 31 _) hF.symm) ⟨rfl, rfl⟩ (sub_nil _)
          refine cs_draw shadowboxref06_Right.tab1 33 1 (spl [s3_0, s3_1, s3_2, s3_3, s3_4, s3_5, s3_6, s3_7, s3_8, s3_9, s3_10, s3_11, s3_12, s3_13, s3_14, s3_15, s3_16, s3_17, s3_18, spu, spu, spu, s3_22, s3_23, spu, spu, spu, s3_27, s3_28, spu, spu, spu, spu]) (onl [true, true, true, true, true, true, true, true, true, true, true, true, true, true, true, true, true, true, true, false, false, false, true, true, false, false, false, true, true, false, false, false, false]) (by kernel_rfl) (by kernel_rfl) (by kernel_rfl) (by kernel_rfl) (rs := [_, _, _, _]) rfl (by kernel_rfl) (by kernel_rfl) (all_snoc (all_snoc (all_snoc (all_snoc (all_snoc (all_snoc (all_snoc (all_snoc (all_snoc (all_snoc (all_snoc (all_snoc (all_snoc (all_snoc (all_snoc (all_snoc (all_snoc (all_snoc (all_snoc (all_snoc (all_snoc (all_snoc (all_snoc (all_snoc (all_snoc (all_snoc (all_snoc (all_snoc (all_snoc (all_snoc (all_snoc (all_snoc (all_snoc (all_nil) (ops3_0 _ _ rfl rfl)) (ops3_1 _ _ ⟨rfl, rfl⟩ rfl)) (ops3_2 _ _ ⟨rfl, rfl⟩ rfl)) (ops3_3 _ _ ⟨rfl, rfl⟩ rfl)) (ops3_4 _ _ ⟨rfl, rfl⟩ rfl)) (ops3_5 _ _ ⟨rfl, rfl, rfl⟩ rfl)) (ops3_6 _ _ ⟨rfl, rfl, rfl⟩ rfl)) (ops3_7 _ _ ⟨rfl, rfl, rfl⟩ rfl)) (ops3_8 _ _ ⟨rfl, rfl⟩ rfl)) (ops3_9 _ _ ⟨rfl, rfl⟩ rfl)) (ops3_10 _ _ ⟨rfl, rfl, rfl⟩ rfl)) (ops3_11 _ _ ⟨rfl, rfl, rfl⟩ rfl)) (ops3_12 _ _ ⟨rfl, rfl, rfl⟩ rfl)) (ops3_13 _ _ ⟨rfl, rfl⟩ rfl)) (ops3_14 _ _ ⟨rfl, rfl⟩ rfl)) (ops3_15 _ _ ⟨rfl, rfl, rfl⟩ rfl)) (ops3_16 _ _ ⟨rfl, rfl, rfl⟩ rfl)) (ops3_17 _ _ ⟨rfl, rfl, rfl⟩ rfl)) (ops3_18 _ _ ⟨rfl, rfl⟩ rfl)) (op_offi 19 18 21 true rfl rfl (by kernel_rfl) (by kernel_rfl) rfl (fun v R h => by rw [hs3_18] at h; obtain ⟨h, _⟩ := h; exact h.trans (congrArg Value.bool (show (decide (a0.2.2.1 ≤ (65536 : Int))) = false from dec_f q7))) rfl rfl)) (op_offi 20 18 21 true rfl rfl (by kernel_rfl) (by kernel_rfl) rfl (fun v R h => by rw [hs3_18] at h; obtain ⟨h, _⟩ := h; exact h.trans (congrArg Value.bool (show (decide (a0.2.2.1 ≤ (65536 : Int))) = false from dec_f q7))) rfl rfl)) (op_offi 21 18 21 true rfl rfl (by kernel_rfl) (by kernel_rfl) rfl (fun v R h => by rw [hs3_18] at h; obtain ⟨h, _⟩ := h; exact h.trans (congrArg Value.bool (show (decide (a0.2.2.1 ≤ (65536 : Int))) = false from dec_f q7))) rfl rfl)) (ops3_22 _ _ ⟨rfl, rfl, rfl⟩ rfl)) (ops3_23 _ _ ⟨rfl, rfl⟩ rfl)) (op_offi 24 23 26 true rfl rfl (by kernel_rfl) (by kernel_rfl) rfl (fun v R h => by rw [hs3_23] at h; obtain ⟨h, _⟩ := h; exact h) rfl rfl)) (op_offi 25 23 26 true rfl rfl (by kernel_rfl) (by kernel_rfl) rfl (fun v R h => by rw [hs3_23] at h; obtain ⟨h, _⟩ := h; exact h) rfl rfl)) (op_offi 26 23 26 true rfl rfl (by kernel_rfl) (by kernel_rfl) rfl (fun v R h => by rw [hs3_23] at h; obtain ⟨h, _⟩ := h; exact h) rfl rfl)) (ops3_27 _ _ ⟨rfl, rfl, rfl⟩ rfl)) (ops3_28 _ _ ⟨rfl, rfl⟩ rfl)) (op_offi 29 28 31 true rfl rfl (by kernel_rfl) (by kernel_rfl) rfl (fun v R h => by rw [hs3_28] at h; obtain ⟨h, _⟩ := h; exact h) rfl rfl)) (op_offi 30 28 31 true rfl rfl (by kernel_rfl) (by kernel_rfl) rfl (fun v R h => by rw [hs3_28] at h; obtain ⟨h, _⟩ := h; exact h) rfl rfl)) (op_offi 31 28 31 true rfl rfl (by kernel_rfl) (by kernel_rfl) rfl (fun v R h => by rw [hs3_28] at h; obtain ⟨h, _⟩ := h; exact h) rfl rfl)) (op_offi 32 28 31 true rfl rfl (by kernel_rfl) (by kernel_rfl) rfl (fun v R h => by rw [hs3_28] at h; obtain ⟨h, _⟩ := h; exact h) rfl rfl)) ?_
          intro vs Rs f' S' hp hf hx hS hR
          obtain ⟨hv28, hR28⟩ := (spe rfl hs3_28 (hp 28 (by kernel_rfl)))
          obtain ⟨hv30, hR30⟩ := (spe rfl rfl (hp 30 (by kernel_rfl)) : spu _ _)
          obtain ⟨hv32, hR32⟩ := (spe rfl rfl (hp 32 (by kernel_rfl)) : spu _ _)
          refine ls_fr (F := upd f' 31 (.bool false)) (fr_next (rfl) ((hf 28 31 (by kernel_rfl) rfl).trans hv28)) ?_
          refine ls_sub (s0) (sub_nil _) ?_
          refine ls_off (j := 28) (t := 31) (b := true) (c := false) rfl rfl (by kernel_rfl) (by kernel_rfl) rfl rfl (by kernel_rfl) ?_
          refine ls_off (j := 28) (t := 31) (b := true) (c := false) rfl rfl (by kernel_rfl) (by kernel_rfl) rfl rfl (by kernel_rfl) ?_
          refine ls_val (v := .bool false) rfl rfl (by kernel_rfl) (fun w => by kernel_rfl) ?_
          refine ls_val (v := .bool false) rfl rfl (by kernel_rfl) (fun w => by kernel_rfl) ?_
          refine ls_end ?_
          refine qn_then ?_
          refine cs_ret' ?_
          obtain rfl := Option.some.inj H
          refine qr_res (rs := [_]) rfl (fun w' hs => ⟨[.bool false], (res_tmp (by kernel_rfl) (.nil)), (), rfl, hs.pick (ts := []) (cs := []) trivial (by decide)⟩)
      · replace H := ite_f q6 H
        obtain ⟨s3_17, hs3_17⟩ : ∃ z : Value → Sto → Prop, z = (fun v R => v = .bool false ∧ R = s0) := ⟨_, rfl⟩
        refine have_op (l := [_, _, _, _, _, _, _, _, _, _, _, _, _, _, _, _, _, _, _, _, _, _, _, _, _, _, _, _, _, _, _, _, _, _, _, _, _]) shadowboxref06_Right.tab1 1 17 (fun sp => sp 17 = s3_17 ∧ sp 13 = s3_13 ∧ sp 16 = spu) (fun sp on hA hon => ?_) (fun ops3_17 => ?_)
        · refine ⟨fun o ho vs Rs f' S' w hp hf hx hS hR hs => ?_⟩
          obtain rfl := Option.some.inj ho
          obtain ⟨hv13, hR13⟩ := (spe hA.2.1 hs3_13 (hp 13 (by kernel_rfl)))
          obtain ⟨hv16, hR16⟩ := (spe hA.2.2 rfl (hp 16 (by kernel_rfl)) : spu _ _)
          rw [hA.1, hs3_17]
          refine And.intro (fun a ha => (want_none rfl a ha).trans hon.symm) (And.intro (fun _ => ?_) (fun h => by rw [hon] at h; cases h))
          have hF := fr_next (fr_next (rfl) (((hf 13 16 (by kernel_rfl) rfl).trans hv13).trans (congrArg Value.bool (show (decide (a0.2.2.1 ≥ (1 : Int))) = false from dec_f q6)))) ((hf 16 19 (by kernel_rfl) rfl).trans hv16)
          refine ls_fr hF ?_
          refine ls_val (v := .bool false) rfl rfl (by kernel_rfl) (fun w => by kernel_rfl) ?_
          exact ls_fin s0 (.bool false) (congrArg (fun z => upd z 20 _) hF.symm) ⟨rfl, rfl⟩ (sub_nil _)
        obtain ⟨s3_18, hs3_18⟩ : ∃ z : Value → Sto → Prop, z = (fun v R => v = .bool false ∧ R = s0) := ⟨_, rfl⟩
        refine have_op (l := [_, _, _, _, _, _, _, _, _, _, _, _, _, _, _, _, _, _, _, _, _, _, _, _, _, _, _, _, _, _, _, _, _, _, _, _, _]) shadowboxref06_Right.tab1 1 18 (fun sp => sp 18 = s3_18 ∧ sp 17 = s3_17) (fun sp on hA hon => ?_) (fun ops3_18 => ?_)
        · refine ⟨fun o ho vs Rs f' S' w hp hf hx hS hR hs => ?_⟩
          obtain rfl := Option.some.inj ho
          obtain ⟨hv17, hR17⟩ := (spe hA.2 hs3_17 (hp 17 (by kernel_rfl)))
          rw [hA.1, hs3_18]
          refine And.intro (fun a ha => (want_none rfl a ha).trans hon.symm) (And.intro (fun _ => ?_) (fun h => by rw [hon] at h; cases h))
          have hF := fr_next (rfl) ((hf 17 20 (by kernel_rfl) rfl).trans hv17)
          refine ls_fr hF ?_
          refine ls_val (v := .bool false) rfl rfl (by kernel_rfl) (fun w => by kernel_rfl) ?_
          exact ls_fin s0 (.bool false) (congrArg (fun z => upd z 21 _) hF.symm) ⟨rfl, rfl⟩ (sub_nil _)
        obtain ⟨s3_22, hs3_22⟩ : ∃ z : Value → Sto → Prop, z = (fun v R => v = .bool false ∧ R = s0) := ⟨_, rfl⟩
        refine have_op (l := [_, _, _, _, _, _, _, _, _, _, _, _, _, _, _, _, _, _, _, _, _, _, _, _, _, _, _, _, _, _, _, _, _, _, _, _, _]) shadowboxref06_Right.tab1 1 22 (fun sp => sp 22 = s3_22 ∧ sp 18 = s3_18 ∧ sp 21 = spu) (fun sp on hA hon => ?_) (fun ops3_22 => ?_)
        · refine ⟨fun o ho vs Rs f' S' w hp hf hx hS hR hs => ?_⟩
          obtain rfl := Option.some.inj ho
          obtain ⟨hv18, hR18⟩ := (spe hA.2.1 hs3_18 (hp 18 (by kernel_rfl)))
          obtain ⟨hv21, hR21⟩ := (spe hA.2.2 rfl (hp 21 (by kernel_rfl)) : spu _ _)
          rw [hA.1, hs3_22]
          refine And.intro (fun a ha => (want_none rfl a ha).trans hon.symm) (And.intro (fun _ => ?_) (fun h => by rw [hon] at h; cases h))
          have hF := fr_next (fr_next (rfl) ((hf 18 21 (by kernel_rfl) rfl).trans hv18)) ((hf 21 24 (by kernel_rfl) rfl).trans hv21)
          refine ls_fr hF ?_
          refine ls_val (v := .bool false) rfl rfl (by kernel_rfl) (fun w => by kernel_rfl) ?_
          exact ls_fin s0 (.bool false) (congrArg (fun z => upd z 25 _) hF.symm) ⟨rfl, rfl⟩ (sub_nil _)
        obtain ⟨s3_23, hs3_23⟩ : ∃ z : Value → Sto → Prop, z = (fun v R => v = .bool false ∧ R = s0) := ⟨_, rfl⟩
        refine have_op (l := [_, _, _, _, _, _, _, _, _, _, _, _, _, _, _, _, _, _, _, _, _, _, _, _, _, _, _, _, _, _, _, _, _, _, _, _, _]) shadowboxref06_Right.tab1 1 23 (fun sp => sp 23 = s3_23 ∧ sp 22 = s3_22) (fun sp on hA hon => ?_) (fun ops3_23 => ?_)
        · refine ⟨fun o ho vs Rs f' S' w hp hf hx hS hR hs => ?_⟩
          obtain rfl := Option.some.inj ho
          obtain ⟨hv22, hR22⟩ := (spe hA.2 hs3_22 (hp 22 (by kernel_rfl)))
          rw [hA.1, hs3_23]
          refine And.intro (fun a ha => (want_none rfl a ha).trans hon.symm) (And.intro (fun _ => ?_) (fun h => by rw [hon] at h; cases h))
          have hF := fr_next (rfl) ((hf 22 25 (by kernel_rfl) rfl).trans hv22)
          refine ls_fr hF ?_
          refine ls_val (v := .bool false) rfl rfl (by kernel_rfl) (fun w => by kernel_rfl) ?_
          exact ls_fin s0 (.bool false) (congrArg (fun z => upd z 26 _) hF.symm) ⟨rfl, rfl⟩ (sub_nil _)
        obtain ⟨s3_27, hs3_27⟩ : ∃ z : Value → Sto → Prop, z = (fun v R => v = .bool false ∧ R = s0) := ⟨_, rfl⟩
        refine have_op (l := [_, _, _, _, _, _, _, _, _, _, _, _, _, _, _, _, _, _, _, _, _, _, _, _, _, _, _, _, _, _, _, _, _, _, _, _, _]) shadowboxref06_Right.tab1 1 27 (fun sp => sp 27 = s3_27 ∧ sp 23 = s3_23 ∧ sp 26 = spu) (fun sp on hA hon => ?_) (fun ops3_27 => ?_)
        · refine ⟨fun o ho vs Rs f' S' w hp hf hx hS hR hs => ?_⟩
          obtain rfl := Option.some.inj ho
          obtain ⟨hv23, hR23⟩ := (spe hA.2.1 hs3_23 (hp 23 (by kernel_rfl)))
          obtain ⟨hv26, hR26⟩ := (spe hA.2.2 rfl (hp 26 (by kernel_rfl)) : spu _ _)
          rw [hA.1, hs3_27]
          refine And.intro (fun a ha => (want_none rfl a ha).trans hon.symm) (And.intro (fun _ => ?_) (fun h => by rw [hon] at h; cases h))
          have hF := fr_next (fr_next (rfl) ((hf 23 26 (by kernel_rfl) rfl).trans hv23)) ((hf 26 29 (by kernel_rfl) rfl).trans hv26)
          refine ls_fr hF ?_
          refine ls_val (v := .bool false) rfl rfl (by kernel_rfl) (fun w => by kernel_rfl) ?_
          exact ls_fin s0 (.bool false) (congrArg (fun z => upd z 30 _) hF.symm) ⟨rfl, rfl⟩ (sub_nil _)
        obtain ⟨s3_28, hs3_28⟩ : ∃ z : Value → Sto → Prop, z = (fun v R => v = .bool false ∧ R = s0) := ⟨_, rfl⟩
        refine have_op (l := [_, _, _, _, _, _, _, _, _, _, _, _, _, _, _, _, _, _, _, _, _, _, _, _, _, _, _, _, _, _, _, _, _, _, _, _, _]) shadowboxref06_Right.tab1 1 28 (fun sp => sp 28 = s3_28 ∧ sp 27 = s3_27) (fun sp on hA hon => ?_) (fun ops3_28 => ?_)
        · refine ⟨fun o ho vs Rs f' S' w hp hf hx hS hR hs => ?_⟩
          obtain rfl := Option.some.inj ho
          obtain ⟨hv27, hR27⟩ := (spe hA.2 hs3_27 (hp 27 (by kernel_rfl)))
          rw [hA.1, hs3_28]
          refine And.intro (fun a ha => (want_none rfl a ha).trans hon.symm) (And.intro (fun _ => ?_) (fun h => by rw [hon] at h; cases h))
          have hF := fr_next (rfl) ((hf 27 30 (by kernel_rfl) rfl).trans hv27)
          refine ls_fr hF ?_
          refine ls_val (v := .bool false) rfl rfl (by kernel_rfl) (fun w => by kernel_rfl) ?_
          exact ls_fin s0 (.bool false) (congrArg (fun z => upd z 31 _) hF.symm) ⟨rfl, rfl⟩ (sub_nil _)
        refine cs_draw shadowboxref06_Right.tab1 33 1 (spl [s3_0, s3_1, s3_2, s3_3, s3_4, s3_5, s3_6, s3_7, s3_8, s3_9, s3_10, s3_11, s3_12, s3_13, spu, spu, spu, s3_17, s3_18, spu, spu, spu, s3_22, s3_23, spu, spu, spu, s3_27, s3_28, spu, spu, spu, spu]) (onl [true, true, true, true, true, true, true, true, true, true, true, true, true, true, false, false, false, true, true, false, false, false, true, true, false, false, false, true, true, false, false, false, false]) (by kernel_rfl) (by kernel_rfl) (by kernel_rfl) (by kernel_rfl) (rs := [_, _, _, _]) rfl (by kernel_rfl) (by kernel_rfl) (all_snoc (all_snoc (all_snoc (all_snoc (all_snoc (all_snoc (all_snoc (all_snoc (all_snoc (all_snoc (all_snoc (all_snoc (all_snoc (all_snoc (all_snoc (all_snoc (all_snoc (all_snoc (all_snoc (all_snoc (all_snoc (all_snoc (all_snoc (all_snoc (all_snoc (all_snoc (all_snoc (all_snoc (all_snoc (all_snoc (all_snoc (all_snoc (all_snoc (all_nil) (ops3_0 _ _ rfl rfl)) (ops3_1 _ _ ⟨rfl, rfl⟩ rfl)) (ops3_2 _ _ ⟨rfl, rfl⟩ rfl)) (ops3_3 _ _ ⟨rfl, rfl⟩ rfl)) (ops3_4 _ _ ⟨rfl, rfl⟩ rfl)) (ops3_5 _ _ ⟨rfl, rfl, rfl⟩ rfl)) (ops3_6 _ _ ⟨rfl, rfl, rfl⟩ rfl)) (ops3_7 _ _ ⟨rfl, rfl, rfl⟩ rfl)) (ops3_8 _ _ ⟨rfl, rfl⟩ rfl)) (ops3_9 _ _ ⟨rfl, rfl⟩ rfl)) (ops3_10 _ _ ⟨rfl, rfl, rfl⟩ rfl)) (ops3_11 _ _ ⟨rfl, rfl, rfl⟩ rfl)) (ops3_12 _ _ ⟨rfl, rfl, rfl⟩ rfl)) (ops3_13 _ _ ⟨rfl, rfl⟩ rfl)) (op_offi 14 13 16 true rfl rfl (by kernel_rfl) (by kernel_rfl) rfl (fun v R h => by rw [hs3_13] at h; obtain ⟨h, _⟩ := h; exact h.trans (congrArg Value.bool (show (decide (a0.2.2.1 ≥ (1 : Int))) = false from dec_f q6))) rfl rfl)) (op_offi 15 13 16 true rfl rfl (by kernel_rfl) (by kernel_rfl) rfl (fun v R h => by rw [hs3_13] at h; obtain ⟨h, _⟩ := h; exact h.trans (congrArg Value.bool (show (decide (a0.2.2.1 ≥ (1 : Int))) = false from dec_f q6))) rfl rfl)) (op_offi 16 13 16 true rfl rfl (by kernel_rfl) (by kernel_rfl) rfl (fun v R h => by rw [hs3_13] at h; obtain ⟨h, _⟩ := h; exact h.trans (congrArg Value.bool (show (decide (a0.2.2.1 ≥ (1 : Int))) = false from dec_f q6))) rfl rfl)) (ops3_17 _ _ ⟨rfl, rfl, rfl⟩ rfl)) (ops3_18 _ _ ⟨rfl, rfl⟩ rfl)) (op_offi 19 18 21 true rfl rfl (by kernel_rfl) (by kernel_rfl) rfl (fun v R h => by rw [hs3_18] at h; obtain ⟨h, _⟩ := h; exact h) rfl rfl)) (op_offi 20 18 21 true rfl rfl (by kernel_rfl) (by kernel_rfl) rfl (fun v R h => by rw [hs3_18] at h; obtain ⟨h, _⟩ := h; exact h) rfl rfl)) (op_offi 21 18 21 true rfl rfl (by kernel_rfl) (by kernel_rfl) rfl (fun v R h => by rw [hs3_18] at h; obtain ⟨h, _⟩ := h; exact h) rfl rfl)) (ops3_22 _ _ ⟨rfl, rfl, rfl⟩ rfl)) (ops3_23 _ _ ⟨rfl, rfl⟩ rfl)) (op_offi 24 23 26 true rfl rfl (by kernel_rfl) (by kernel_rfl) rfl (fun v R h => by rw [hs3_23] at h; obtain ⟨h, _⟩ := h; exact h) rfl rfl)) (op_offi 25 23 26 true rfl rfl (by kernel_rfl) (by kernel_rfl) rfl (fun v R h => by rw [hs3_23] at h; obtain ⟨h, _⟩ := h; exact h) rfl rfl)) (op_offi 26 23 26 true rfl rfl (by kernel_rfl) (by kernel_rfl) rfl (fun v R h => by rw [hs3_23] at h; obtain ⟨h, _⟩ := h; exact h) rfl rfl)) (ops3_27 _ _ ⟨rfl, rfl, rfl⟩ rfl)) (ops3_28 _ _ ⟨rfl, rfl⟩ rfl)) (op_offi 29 28 31 true rfl rfl (by kernel_rfl) (by kernel_rfl) rfl (fun v R h => by rw [hs3_28] at h; obtain ⟨h, _⟩ := h; exact h) rfl rfl)) (op_offi 30 28 31 true rfl rfl (by kernel_rfl) (by kernel_rfl) rfl (fun v R h => by rw [hs3_28] at h; obtain ⟨h, _⟩ := h; exact h) rfl rfl)) (op_offi 31 28 31 true rfl rfl (by kernel_rfl) (by kernel_rfl) rfl (fun v R h => by rw [hs3_28] at h; obtain ⟨h, _⟩ := h; exact h) rfl rfl)) (op_offi 32 28 31 true rfl rfl (by kernel_rfl) (by kernel_rfl) rfl (fun v R h => by rw [hs3_28] at h; obtain ⟨h, _⟩ := h; exact h) rfl rfl)) ?_
        intro vs Rs f' S' hp hf hx hS hR
        obtain ⟨hv28, hR28⟩ := (spe rfl hs3_28 (hp 28 (by kernel_rfl)))
        obtain ⟨hv30, hR30⟩ := (spe rfl rfl (hp 30 (by kernel_rfl)) : spu _ _)
        obtain ⟨hv32, hR32⟩ := (spe rfl rfl (hp 32 (by kernel_rfl)) : spu _ _)
        refine ls_fr (F := upd f' 31 (.bool false)) (fr_next (rfl) ((hf 28 31 (by kernel_rfl) rfl).trans hv28)) ?_
        refine ls_sub (s0) (sub_nil _) ?_
        refine ls_off (j := 28) (t := 31) (b := true) (c := false) rfl rfl (by kernel_rfl) (by kernel_rfl) rfl rfl (by kernel_rfl) ?_
        refine ls_off (j := 28) (t := 31) (b := true) (c := false) rfl rfl (by kernel_rfl) (by kernel_rfl) rfl rfl (by kernel_rfl) ?_
        refine ls_val (v := .bool false) rfl rfl (by kernel_rfl) (fun w => by kernel_rfl) ?_
        refine ls_val (v := .bool false) rfl rfl (by kernel_rfl) (fun w => by kernel_rfl) ?_
        refine ls_end ?_
        refine qn_then ?_
        refine cs_ret' ?_
        obtain rfl := Option.some.inj H
        refine qr_res (rs := [_]) rfl (fun w' hs => ⟨[.bool false], (res_tmp (by kernel_rfl) (.nil)), (), rfl, hs.pick (ts := []) (cs := []) trivial (by decide)⟩)
    · replace H := ite_f q5 H
      obtain ⟨s3_12, hs3_12⟩ : ∃ z : Value → Sto → Prop, z = (fun v R => v = .bool false ∧ R = s0) := ⟨_, rfl⟩
      refine have_op (l := [_, _, _, _, _, _, _, _, _, _, _, _, _, _, _, _, _, _, _, _, _, _, _, _, _, _, _, _, _, _, _, _, _, _, _, _, _]) shadowboxref06_Right.tab1 1 12 (fun sp => sp 12 = s3_12 ∧ sp 8 = s3_8 ∧ sp 11 = spu) (fun sp on hA hon => ?_) (fun ops3_12 => ?_)
      · refine ⟨fun o ho vs Rs f' S' w hp hf hx hS hR hs => ?_⟩
        obtain rfl := Option.some.inj ho
        obtain ⟨hv8, hR8⟩ := (spe hA.2.1 hs3_8 (hp 8 (by kernel_rfl)))
        obtain ⟨hv11, hR11⟩ := (spe hA.2.2 rfl (hp 11 (by kernel_rfl)) : spu _ _)
        rw [hA.1, hs3_12]
        refine And.intro (fun a ha => (want_none rfl a ha).trans hon.symm) (And.intro (fun _ => ?_) (fun h => by rw [hon] at h; cases h))
        have hF := fr_next (fr_next (rfl) (((hf 8 11 (by kernel_rfl) rfl).trans hv8).trans (congrArg Value.bool (show (decide (a0.2.1 ≤ (1152921504606846976 : Int))) = false from dec_f q5)))) ((hf 11 14 (by kernel_rfl) rfl).trans hv11)
        refine ls_fr hF ?_
        refine ls_val (v := .bool false) rfl rfl (by kernel_rfl) (fun w => by kernel_rfl) ?_
        exact ls_fin s0 (.bool false) (congrArg (fun z => upd z 15 _) hF.symm) ⟨rfl, rfl⟩ (sub_nil _)
      obtain ⟨s3_13, hs3_13⟩ : ∃ z : Value → Sto → Prop, z = (fun v R => v = .bool false ∧ R = s0) := ⟨_, rfl⟩
      refine have_op (l := [_, _, _, _, _, _, _, _, _, _, _, _, _, _, _, _, _, _, _, _, _, _, _, _, _, _, _, _, _, _, _, _, _, _, _, _, _]) shadowboxref06_Right.tab1 1 13 (fun sp => sp 13 = s3_13 ∧ sp 12 = s3_12) (fun sp on hA hon => ?_) (fun ops3_13 => ?_)
      · refine ⟨fun o ho vs Rs f' S' w hp hf hx hS hR hs => ?_⟩
        obtain rfl := Option.some.inj ho
        obtain ⟨hv12, hR12⟩ := (spe hA.2 hs3_12 (hp 12 (by kernel_rfl)))
        rw [hA.1, hs3_13]
        refine And.intro (fun a ha => (want_none rfl a ha).trans hon.symm) (And.intro (fun _ => ?_) (fun h => by rw [hon] at h; cases h))
        have hF := fr_next (rfl) ((hf 12 15 (by kernel_rfl) rfl).trans hv12)
        refine ls_fr hF ?_
        refine ls_val (v := .bool false) rfl rfl (by kernel_rfl) (fun w => by kernel_rfl) ?_
        exact ls_fin s0 (.bool false) (congrArg (fun z => upd z 16 _) hF.symm) ⟨rfl, rfl⟩ (sub_nil _)
      obtain ⟨s3_17, hs3_17⟩ : ∃ z : Value → Sto → Prop, z = (fun v R => v = .bool false ∧ R = s0) := ⟨_, rfl⟩
      refine have_op (l := [_, _, _, _, _, _, _, _, _, _, _, _, _, _, _, _, _, _, _, _, _, _, _, _, _, _, _, _, _, _, _, _, _, _, _, _, _]) shadowboxref06_Right.tab1 1 17 (fun sp => sp 17 = s3_17 ∧ sp 13 = s3_13 ∧ sp 16 = spu) (fun sp on hA hon => ?_) (fun ops3_17 => ?_)
      · refine ⟨fun o ho vs Rs f' S' w hp hf hx hS hR hs => ?_⟩
        obtain rfl := Option.some.inj ho
        obtain ⟨hv13, hR13⟩ := (spe hA.2.1 hs3_13 (hp 13 (by kernel_rfl)))
        obtain ⟨hv16, hR16⟩ := (spe hA.2.2 rfl (hp 16 (by kernel_rfl)) : spu _ _)
        rw [hA.1, hs3_17]
        refine And.intro (fun a ha => (want_none rfl a ha).trans hon.symm) (And.intro (fun _ => ?_) (fun h => by rw [hon] at h; cases h))
        have hF := fr_next (fr_next (rfl) ((hf 13 16 (by kernel_rfl) rfl).trans hv13)) ((hf 16 19 (by kernel_rfl) rfl).trans hv16)
        refine ls_fr hF ?_
        refine ls_val (v := .bool false) rfl rfl (by kernel_rfl) (fun w => by kernel_rfl) ?_
        exact ls_fin s0 (.bool false) (congrArg (fun z => upd z 20 _) hF.symm) ⟨rfl, rfl⟩ (sub_nil _)
      obtain ⟨s3_18, hs3_18⟩ : ∃ z : Value → Sto → Prop, z = (fun v R => v = .bool false ∧ R = s0) := ⟨_, rfl⟩
      refine have_op (l := [_, _, _, _, _, _, _, _, _, _, _, _, _, _, _, _, _, _, _, _, _, _, _, _, _, _, _, _, _, _, _, _, _, _, _, _, _]) shadowboxref06_Right.tab1 1 18 (fun sp => sp 18 = s3_18 ∧ sp 17 = s3_17) (fun sp on hA hon => ?_) (fun ops3_18 => ?_)
      · refine ⟨fun o ho vs Rs f' S' w hp hf hx hS hR hs => ?_⟩
        obtain rfl := Option.some.inj ho
        obtain ⟨hv17, hR17⟩ := (spe hA.2 hs3_17 (hp 17 (by kernel_rfl)))
        rw [hA.1, hs3_18]
        refine And.intro (fun a ha => (want_none rfl a ha).trans hon.symm) (And.intro (fun _ => ?_) (fun h => by rw [hon] at h; cases h))
        have hF := fr_next (rfl) ((hf 17 20 (by kernel_rfl) rfl).trans hv17)
        refine ls_fr hF ?_
        refine ls_val (v := .bool false) rfl rfl (by kernel_rfl) (fun w => by kernel_rfl) ?_
        exact ls_fin s0 (.bool false) (congrArg (fun z => upd z 21 _) hF.symm) ⟨rfl, rfl⟩ (sub_nil _)
      obtain ⟨s3_22, hs3_22⟩ : ∃ z : Value → Sto → Prop, z = (fun v R => v = .bool false ∧ R = s0) := ⟨_, rfl⟩
      refine have_op (l := [_, _, _, _, _, _, _, _, _, _, _, _, _, _, _, _, _, _, _, _, _, _, _, _, _, _, _, _, _, _, _, _, _, _, _, _, _]) shadowboxref06_Right.tab1 1 22 (fun sp => sp 22 = s3_22 ∧ sp 18 = s3_18 ∧ sp 21 = spu) (fun sp on hA hon => ?_) (fun ops3_22 => ?_)
      · refine ⟨fun o ho vs Rs f' S' w hp hf hx hS hR hs => ?_⟩
        obtain rfl := Option.some.inj ho
        obtain ⟨hv18, hR18⟩ := (spe hA.2.1 hs3_18 (hp 18 (by kernel_rfl)))
        obtain ⟨hv21, hR21⟩ := (spe hA.2.2 rfl (hp 21 (by kernel_rfl)) : spu _ _)
        rw [hA.1, hs3_22]
        refine And.intro (fun a ha => (want_none rfl a ha).trans hon.symm) (And.intro (fun _ => ?_) (fun h => by rw [hon] at h; cases h))
        have hF := fr_next (fr_next (rfl) ((hf 18 21 (by kernel_rfl) rfl).trans hv18)) ((hf 21 24 (by kernel_rfl) rfl).trans hv21)
        refine ls_fr hF ?_
        refine ls_val (v := .bool false) rfl rfl (by kernel_rfl) (fun w => by kernel_rfl) ?_
        exact ls_fin s0 (.bool false) (congrArg (fun z => upd z 25 _) hF.symm) ⟨rfl, rfl⟩ (sub_nil _)
      obtain ⟨s3_23, hs3_23⟩ : ∃ z : Value → Sto → Prop, z = (fun v R => v = .bool false ∧ R = s0) := ⟨_, rfl⟩
      refine have_op (l := [_, _, _, _, _, _, _, _, _, _, _, _, _, _, _, _, _, _, _, _, _, _, _, _, _, _, _, _, _, _, _, _, _, _, _, _, _]) shadowboxref06_Right.tab1 1 23 (fun sp => sp 23 = s3_23 ∧ sp 22 = s3_22) (fun sp on hA hon => ?_) (fun ops3_23 => ?_)
      · refine ⟨fun o ho vs Rs f' S' w hp hf hx hS hR hs => ?_⟩
        obtain rfl := Option.some.inj ho
        obtain ⟨hv22, hR22⟩ := (spe hA.2 hs3_22 (hp 22 (by kernel_rfl)))
        rw [hA.1, hs3_23]
        refine And.intro (fun a ha => (want_none rfl a ha).trans hon.symm) (And.intro (fun _ => ?_) (fun h => by rw [hon] at h; cases h))
        have hF := fr_next (rfl) ((hf 22 25 (by kernel_rfl) rfl).trans hv22)
        refine ls_fr hF ?_
        refine ls_val (v := .bool false) rfl rfl (by kernel_rfl) (fun w => by kernel_rfl) ?_
        exact ls_fin s0 (.bool false) (congrArg (fun z => upd z 26 _) hF.symm) ⟨rfl, rfl⟩ (sub_nil _)
      obtain ⟨s3_27, hs3_27⟩ : ∃ z : Value → Sto → Prop, z = (fun v R => v = .bool false ∧ R = s0) := ⟨_, rfl⟩
      refine have_op (l := [_, _, _, _, _, _, _, _, _, _, _, _, _, _, _, _, _, _, _, _, _, _, _, _, _, _, _, _, _, _, _, _, _, _, _, _, _]) shadowboxref06_Right.tab1 1 27 (fun sp => sp 27 = s3_27 ∧ sp 23 = s3_23 ∧ sp 26 = spu) (fun sp on hA hon => ?_) (fun ops3_27 => ?_)
      · refine ⟨fun o ho vs Rs f' S' w hp hf hx hS hR hs => ?_⟩
        obtain rfl := Option.some.inj ho
        obtain ⟨hv23, hR23⟩ := (spe hA.2.1 hs3_23 (hp 23 (by kernel_rfl)))
        obtain ⟨hv26, hR26⟩ := (spe hA.2.2 rfl (hp 26 (by kernel_rfl)) : spu _ _)
        rw [hA.1, hs3_27]
        refine And.intro (fun a ha => (want_none rfl a ha).trans hon.symm) (And.intro (fun _ => ?_) (fun h => by rw [hon] at h; cases h))
        have hF := fr_next (fr_next (rfl) ((hf 23 26 (by kernel_rfl) rfl).trans hv23)) ((hf 26 29 (by kernel_rfl) rfl).trans hv26)
        refine ls_fr hF ?_
        refine ls_val (v := .bool false) rfl rfl (by kernel_rfl) (fun w => by kernel_rfl) ?_
        exact ls_fin s0 (.bool false) (congrArg (fun z => upd z 30 _) hF.symm) ⟨rfl, rfl⟩ (sub_nil _)
      obtain ⟨s3_28, hs3_28⟩ : ∃ z : Value → Sto → Prop, z = (fun v R => v = .bool false ∧ R = s0) := ⟨_, rfl⟩
      refine have_op (l := [_, _, _, _, _, _, _, _, _, _, _, _, _, _, _, _, _, _, _, _, _, _, _, _, _, _, _, _, _, _, _, _, _, _, _, _, _]) shadowboxref06_Right.tab1 1 28 (fun sp => sp 28 = s3_28 ∧ sp 27 = s3_27) (fun sp on hA hon => ?_) (fun ops3_28 => ?_)
      · refine ⟨fun o ho vs Rs f' S' w hp hf hx hS hR hs => ?_⟩
        obtain rfl := Option.some.inj ho
        obtain ⟨hv27, hR27⟩ := (spe hA.2 hs3_27 (hp 27 (by kernel_rfl)))
        rw [hA.1, hs3_28]
        refine And.intro (fun a ha => (want_none rfl a ha).trans hon.symm) (And.intro (fun _ => ?_) (fun h => by rw [hon] at h; cases h))
        have hF := fr_next (rfl) ((hf 27 30 (by kernel_rfl) rfl).trans hv27)
        refine ls_fr hF ?_
        refine ls_val (v := .bool false) rfl rfl (by kernel_rfl) (fun w => by kernel_rfl) ?_
        exact ls_fin s0 (.bool false) (congrArg (fun z => upd z 31 _) hF.symm) ⟨rfl, rfl⟩ (sub_nil _)
      refine cs_draw shadowboxref06_Right.tab1 33 1 (spl [s3_0, s3_1, s3_2, s3_3, s3_4, s3_5, s3_6, s3_7, s3_8, spu, spu, spu, s3_12, s3_13, spu, spu, spu, s3_17, s3_18, spu, spu, spu, s3_22, s3_23, spu, spu, spu, s3_27, s3_28, spu, spu, spu, spu]) (onl [true, true, true, true, true, true, true, true, true, false, false, false, true, true, false, false, false, true, true, false, false, false, true, true, false, false, false, true, true, false, false, false, false]) (by kernel_rfl) (by kernel_rfl) (by kernel_rfl) (by kernel_rfl) (rs := [_, _, _, _]) rfl (by kernel_rfl) (by kernel_rfl) (all_snoc (all_snoc (all_snoc (all_snoc (all_snoc (all_snoc (all_snoc (all_snoc (all_snoc (all_snoc (all_snoc (all_snoc (all_snoc (all_snoc (all_snoc (all_snoc (all_snoc (all_snoc (all_snoc (all_snoc (all_snoc (all_snoc (all_snoc (all_snoc (all_snoc (all_snoc (all_snoc (all_snoc (all_snoc (all_snoc (all_snoc (all_snoc (all_snoc (all_nil) (ops3_0 _ _ rfl rfl)) (ops3_1 _ _ ⟨rfl, rfl⟩ rfl)) (ops3_2 _ _ ⟨rfl, rfl⟩ rfl)) (ops3_3 _ _ ⟨rfl, rfl⟩ rfl)) (ops3_4 _ _ ⟨rfl, rfl⟩ rfl)) (ops3_5 _ _ ⟨rfl, rfl, rfl⟩ rfl)) (ops3_6 _ _ ⟨rfl, rfl, rfl⟩ rfl)) (ops3_7 _ _ ⟨rfl, rfl, rfl⟩ rfl)) (ops3_8 _ _ ⟨rfl, rfl⟩ rfl)) (op_offi 9 8 11 true rfl rfl (by kernel_rfl) (by kernel_rfl) rfl (fun v R h => by rw [hs3_8] at h; obtain ⟨h, _⟩ := h; exact h.trans (congrArg Value.bool (show (decide (a0.2.1 ≤ (1152921504606846976 : Int))) = false from dec_f q5))) rfl rfl)) (op_offi 10 8 11 true rfl rfl (by kernel_rfl) (by kernel_rfl) rfl (fun v R h => by rw [hs3_8] at h; obtain ⟨h, _⟩ := h; exact h.trans (congrArg Value.bool (show (decide (a0.2.1 ≤ (1152921504606846976 : Int))) = false from dec_f q5))) rfl rfl)) (op_offi 11 8 11 true rfl rfl (by kernel_rfl) (by kernel_rfl) rfl (fun v R h => by rw [hs3_8] at h; obtain ⟨h, _⟩ := h; exact h.trans (congrArg Value.bool (show (decide (a0.2.1 ≤ (1152921504606846976 : Int))) = false from dec_f q5))) rfl rfl)) (ops3_12 _ _ ⟨rfl, rfl, rfl⟩ rfl)) (ops3_13 _ _ ⟨rfl, rfl⟩ rfl)) (op_offi 14 13 16 true rfl rfl (by kernel_rfl) (by kernel_rfl) rfl (fun v R h => by rw [hs3_13] at h; obtain ⟨h, _⟩ := h; exact h) rfl rfl)) (op_offi 15 13 16 true rfl rfl (by kernel_rfl) (by kernel_rfl) rfl (fun v R h => by rw [hs3_13] at h; obtain ⟨h, _⟩ := h; exact h) rfl rfl)) (op_offi 16 13 16 true rfl rfl (by kernel_rfl) (by kernel_rfl) rfl (fun v R h => by rw [hs3_13] at h; obtain ⟨h, _⟩ := h; exact h) rfl rfl)) (ops3_17 _ _ ⟨rfl, rfl, rfl⟩ rfl)) (ops3_18 _ _ ⟨rfl, rfl⟩ rfl)) (op_offi 19 18 21 true rfl rfl (by kernel_rfl) (by kernel_rfl) rfl (fun v R h => by rw [hs3_18] at h; obtain ⟨h, _⟩ := h; exact h) rfl rfl)) (op_offi 20 18 21 true rfl rfl (by kernel_rfl) (by kernel_rfl) rfl (fun v R h => by rw [hs3_18] at h; obtain ⟨h, _⟩ := h; exact h) rfl rfl)) (op_offi 21 18 21 true rfl rfl (by kernel_rfl) (by kernel_rfl) rfl (fun v R h => by rw [hs3_18] at h; obtain ⟨h, _⟩ := h; exact h) rfl rfl)) (ops3_22 _ _ ⟨rfl, rfl, rfl⟩ rfl)) (ops3_23 _ _ ⟨rfl, rfl⟩ rfl)) (op_offi 24 23 26 true rfl rfl (by kernel_rfl) (by kernel_rfl) rfl (fun v R h => by rw [hs3_23] at h; obtain ⟨h, _⟩ := h; exact h) rfl rfl)) (op_offi 25 23 26 true rfl rfl (by kernel_rfl) (by kernel_rfl) rfl (fun v R h => by rw [hs3_23] at h; obtain ⟨h, _⟩ := h; exact h) rfl rfl)) (op_offi 26 23 26 true rfl rfl (by kernel_rfl) (by kernel_rfl) rfl (fun v R h => by rw [hs3_23] at h; obtain ⟨h, _⟩ := h; exact h) rfl rfl)) (ops3_27 _ _ ⟨rfl, rfl, rfl⟩ rfl)) (ops3_28 _ _ ⟨rfl, rfl⟩ rfl)) (op_offi 29 28 31 true rfl rfl (by kernel_rfl) (by kernel_rfl) rfl (fun v R h => by rw [hs3_28] at h; obtain ⟨h, _⟩ := h; exact h) rfl rfl)) (op_offi 30 28 31 true rfl rfl (by kernel_rfl) (by kernel_rfl) rfl (fun v R h => by rw [hs3_28] at h; obtain ⟨h, _⟩ := h; exact h) rfl rfl)) (op_offi 31 28 31 true rfl rfl (by kernel_rfl) (by kernel_rfl) rfl (fun v R h => by rw [hs3_28] at h; obtain ⟨h, _⟩ := h; exact h) rfl rfl)) (op_offi 32 28 31 true rfl rfl (by kernel_rfl) (by kernel_rfl) rfl (fun v R h => by rw [hs3_28] at h; obtain ⟨h, _⟩ := h; exact h) rfl rfl)) ?_
      intro vs Rs f' S' hp hf hx hS hR
      obtain ⟨hv28, hR28⟩ := (spe rfl hs3_28 (hp 28 (by kernel_rfl)))
      obtain ⟨hv30, hR30⟩ := (spe rfl rfl (hp 30 (by kernel_rfl)) : spu _ _)
      obtain ⟨hv32, hR32⟩ := (spe rfl rfl (hp 32 (by kernel_rfl)) : spu _ _)
      refine ls_fr (F := upd f' 31 (.bool false)) (fr_next (rfl) ((hf 28 31 (by kernel_rfl) rfl).trans hv28)) ?_
      refine ls_sub (s0) (sub_nil _) ?_
      refine ls_off (j := 28) (t := 31) (b := true) (c := false) rfl rfl (by kernel_rfl) (by kernel_rfl) rfl rfl (by kernel_rfl) ?_
      refine ls_off (j := 28) (t := 31) (b := true) (c := false) rfl rfl (by kernel_rfl) (by kernel_rfl) rfl rfl (by kernel_rfl) ?_
      refine ls_val (v := .bool false) rfl rfl (by kernel_rfl) (fun w => by kernel_rfl) ?_
      refine ls_val (v := .bool false) rfl rfl (by kernel_rfl) (fun w => by kernel_rfl) ?_
      refine ls_end ?_
      refine qn_then ?_
      refine cs_ret' ?_
      obtain rfl := Option.some.inj H
      refine qr_res (rs := [_]) rfl (fun w' hs => ⟨[.bool false], (res_tmp (by kernel_rfl) (.nil)), (), rfl, hs.pick (ts := []) (cs := []) trivial (by decide)⟩)
  · replace H := ite_f q4 H
    obtain ⟨s3_7, hs3_7⟩ : ∃ z : Value → Sto → Prop, z = (fun v R => v = .bool false ∧ R = s0) := ⟨_, rfl⟩
    refine have_op (l := [_, _, _, _, _, _, _, _, _, _, _, _, _, _, _, _, _, _, _, _, _, _, _, _, _, _, _, _, _, _, _, _, _, _, _, _, _]) shadowboxref06_Right.tab1 1 7 (fun sp => sp 7 = s3_7 ∧ sp 3 = s3_3 ∧ sp 6 = spu) (fun sp on hA hon => ?_) (fun ops3_7 => ?_)
    · refine ⟨fun o ho vs Rs f' S' w hp hf hx hS hR hs => ?_⟩
      obtain rfl := Option.some.inj ho
      obtain ⟨hv3, hR3⟩ := (spe hA.2.1 hs3_3 (hp 3 (by kernel_rfl)))
      obtain ⟨hv6, hR6⟩ := (spe hA.2.2 rfl (hp 6 (by kernel_rfl)) : spu _ _)
      rw [hA.1, hs3_7]
      refine And.intro (fun a ha => (want_none rfl a ha).trans hon.symm) (And.intro (fun _ => ?_) (fun h => by rw [hon] at h; cases h))
      have hF := fr_next (fr_next (rfl) (((hf 3 6 (by kernel_rfl) rfl).trans hv3).trans (congrArg Value.bool (show (decide (a0.2.1 ≥ (1 : Int))) = false from dec_f q4)))) ((hf 6 9 (by kernel_rfl) rfl).trans hv6)
      refine ls_fr hF ?_
      refine ls_val (v := .bool false) rfl rfl (by kernel_rfl) (fun w => by kernel_rfl) ?_
      exact ls_fin s0 (.bool false) (congrArg (fun z => upd z 10 _) hF.symm) ⟨rfl, rfl⟩ (sub_nil _)
    obtain ⟨s3_8, hs3_8⟩ : ∃ z : Value → Sto → Prop, z = (fun v R => v = .bool false ∧ R = s0) := ⟨_, rfl⟩
    refine have_op (l := [_, _, _, _, _, _, _, _, _, _, _, _, _, _, _, _, _, _, _, _, _, _, _, _, _, _, _, _, _, _, _, _, _, _, _, _, _]) shadowboxref06_Right.tab1 1 8 (fun sp => sp 8 = s3_8 ∧ sp 7 = s3_7) (fun sp on hA hon => ?_) (fun ops3_8 => ?_)
    · refine ⟨fun o ho vs Rs f' S' w hp hf hx hS hR hs => ?_⟩
      obtain rfl := Option.some.inj ho
      obtain ⟨hv7, hR7⟩ := (spe hA.2 hs3_7 (hp 7 (by kernel_rfl)))
      rw [hA.1, hs3_8]
      refine And.intro (fun a ha => (want_none rfl a ha).trans hon.symm) (And.intro (fun _ => ?_) (fun h => by rw [hon] at h; cases h))
      have hF := fr_next (rfl) ((hf 7 10 (by kernel_rfl) rfl).trans hv7)
      refine ls_fr hF ?_
      refine ls_val (v := .bool false) rfl rfl (by kernel_rfl) (fun w => by kernel_rfl) ?_
      exact ls_fin s0 (.bool false) (congrArg (fun z => upd z 11 _) hF.symm) ⟨rfl, rfl⟩ (sub_nil _)
    obtain ⟨s3_12, hs3_12⟩ : ∃ z : Value → Sto → Prop, z = (fun v R => v = .bool false ∧ R = s0) := ⟨_, rfl⟩
    refine have_op (l := [_, _, _, _, _, _, _, _, _, _, _, _, _, _, _, _, _, _, _, _, _, _, _, _, _, _, _, _, _, _, _, _, _, _, _, _, _]) shadowboxref06_Right.tab1 1 12 (fun sp => sp 12 = s3_12 ∧ sp 8 = s3_8 ∧ sp 11 = spu) (fun sp on hA hon => ?_) (fun ops3_12 => ?_)
    · refine ⟨fun o ho vs Rs f' S' w hp hf hx hS hR hs => ?_⟩
      obtain rfl := Option.some.inj ho
      obtain ⟨hv8, hR8⟩ := (spe hA.2.1 hs3_8 (hp 8 (by kernel_rfl)))
      obtain ⟨hv11, hR11⟩ := (spe hA.2.2 rfl (hp 11 (by kernel_rfl)) : spu _ _)
      rw [hA.1, hs3_12]
      refine And.intro (fun a ha => (want_none rfl a ha).trans hon.symm) (And.intro (fun _ => ?_) (fun h => by rw [hon] at h; cases h))
      have hF := fr_next (fr_next (rfl) ((hf 8 11 (by kernel_rfl) rfl).trans hv8)) ((hf 11 14 (by kernel_rfl) rfl).trans hv11)
      refine ls_fr hF ?_
      refine ls_val (v := .bool false) rfl rfl (by kernel_rfl) (fun w => by kernel_rfl) ?_
      exact ls_fin s0 (.bool false) (congrArg (fun z => upd z 15 _) hF.symm) ⟨rfl, rfl⟩ (sub_nil _)
    obtain ⟨s3_13, hs3_13⟩ : ∃ z : Value → Sto → Prop, z = (fun v R => v = .bool false ∧ R = s0) := ⟨_, rfl⟩
    refine have_op (l := [_, _, _, _, _, _, _, _, _, _, _, _, _, _, _, _, _, _, _, _, _, _, _, _, _, _, _, _, _, _, _, _, _, _, _, _, _]) shadowboxref06_Right.tab1 1 13 (fun sp => sp 13 = s3_13 ∧ sp 12 = s3_12) (fun sp on hA hon => ?_) (fun ops3_13 => ?_)
    · refine ⟨fun o ho vs Rs f' S' w hp hf hx hS hR hs => ?_⟩
      obtain rfl := Option.some.inj ho
      obtain ⟨hv12, hR12⟩ := (spe hA.2 hs3_12 (hp 12 (by kernel_rfl)))
      rw [hA.1, hs3_13]
      refine And.intro (fun a ha => (want_none rfl a ha).trans hon.symm) (And.intro (fun _ => ?_) (fun h => by rw [hon] at h; cases h))
      have hF := fr_next (rfl) ((hf 12 15 (by kernel_rfl) rfl).trans hv12)
      refine ls_fr hF ?_
      refine ls_val (v := .bool false) rfl rfl (by kernel_rfl) (fun w => by kernel_rfl) ?_
      exact ls_fin s0 (.bool false) (congrArg (fun z => upd z 16 _) hF.symm) ⟨rfl, rfl⟩ (sub_nil _)
    obtain ⟨s3_17, hs3_17⟩ : ∃ z : Value → Sto → Prop, z = (fun v R => v = .bool false ∧ R = s0) := ⟨_, rfl⟩
    refine have_op (l := [_, _, _, _, _, _, _, _, _, _, _, _, _, _, _, _, _, _, _, _, _, _, _, _, _, _, _, _, _, _, _, _, _, _, _, _, _]) shadowboxref06_Right.tab1 1 17 (fun sp => sp 17 = s3_17 ∧ sp 13 = s3_13 ∧ sp 16 = spu) (fun sp on hA hon => ?_) (fun ops3_17 => ?_)
    · refine ⟨fun o ho vs Rs f' S' w hp hf hx hS hR hs => ?_⟩
      obtain rfl := Option.some.inj ho
      obtain ⟨hv13, hR13⟩ := (spe hA.2.1 hs3_13 (hp 13 (by kernel_rfl)))
      obtain ⟨hv16, hR16⟩ := (spe hA.2.2 rfl (hp 16 (by kernel_rfl)) : spu _ _)
      rw [hA.1, hs3_17]
      refine And.intro (fun a ha => (want_none rfl a ha).trans hon.symm) (And.intro (fun _ => ?_) (fun h => by rw [hon] at h; cases h))
      have hF := fr_next (fr_next (rfl) ((hf 13 16 (by kernel_rfl) rfl).trans hv13)) ((hf 16 19 (by kernel_rfl) rfl).trans hv16)
      refine ls_fr hF ?_
      refine ls_val (v := .bool false) rfl rfl (by kernel_rfl) (fun w => by kernel_rfl) ?_
      exact ls_fin s0 (.bool false) (congrArg (fun z => upd z 20 _) hF.symm) ⟨rfl, rfl⟩ (sub_nil _)
    obtain ⟨s3_18, hs3_18⟩ : ∃ z : Value → Sto → Prop, z = (fun v R => v = .bool false ∧ R = s0) := ⟨_, rfl⟩
    refine have_op (l := [_, _, _, _, _, _, _, _, _, _, _, _, _, _, _, _, _, _, _, _, _, _, _, _, _, _, _, _, _, _, _, _, _, _, _, _, _]) shadowboxref06_Right.tab1 1 18 (fun sp => sp 18 = s3_18 ∧ sp 17 = s3_17) (fun sp on hA hon => ?_) (fun ops3_18 => ?_)
    · refine ⟨fun o ho vs Rs f' S' w hp hf hx hS hR hs => ?_⟩
      obtain rfl := Option.some.inj ho
      obtain ⟨hv17, hR17⟩ := (spe hA.2 hs3_17 (hp 17 (by kernel_rfl)))
      rw [hA.1, hs3_18]
      refine And.intro (fun a ha => (want_none rfl a ha).trans hon.symm) (And.intro (fun _ => ?_) (fun h => by rw [hon] at h; cases h))
      have hF := fr_next (rfl) ((hf 17 20 (by kernel_rfl) rfl).trans hv17)
      refine ls_fr hF ?_
      refine ls_val (v := .bool false) rfl rfl (by kernel_rfl) (fun w => by kernel_rfl) ?_
      exact ls_fin s0 (.bool false) (congrArg (fun z => upd z 21 _) hF.symm) ⟨rfl, rfl⟩ (sub_nil _)
    obtain ⟨s3_22, hs3_22⟩ : ∃ z : Value → Sto → Prop, z = (fun v R => v = .bool false ∧ R = s0) := ⟨_, rfl⟩
    refine have_op (l := [_, _, _, _, _, _, _, _, _, _, _, _, _, _, _, _, _, _, _, _, _, _, _, _, _, _, _, _, _, _, _, _, _, _, _, _, _]) shadowboxref06_Right.tab1 1 22 (fun sp => sp 22 = s3_22 ∧ sp 18 = s3_18 ∧ sp 21 = spu) (fun sp on hA hon => ?_) (fun ops3_22 => ?_)
    · refine ⟨fun o ho vs Rs f' S' w hp hf hx hS hR hs => ?_⟩
      obtain rfl := Option.some.inj ho
      obtain ⟨hv18, hR18⟩ := (spe hA.2.1 hs3_18 (hp 18 (by kernel_rfl)))
      obtain ⟨hv21, hR21⟩ := (spe hA.2.2 rfl (hp 21 (by kernel_rfl)) : spu _ _)
      rw [hA.1, hs3_22]
      refine And.intro (fun a ha => (want_none rfl a ha).trans hon.symm) (And.intro (fun _ => ?_) (fun h => by rw [hon] at h; cases h))
      have hF := fr_next (fr_next (rfl) ((hf 18 21 (by kernel_rfl) rfl).trans hv18)) ((hf 21 24 (by kernel_rfl) rfl).trans hv21)
      refine ls_fr hF ?_
      refine ls_val (v := .bool false) rfl rfl (by kernel_rfl) (fun w => by kernel_rfl) ?_
      exact ls_fin s0 (.bool false) (congrArg (fun z => upd z 25 _) hF.symm) ⟨rfl, rfl⟩ (sub_nil _)
    obtain ⟨s3_23, hs3_23⟩ : ∃ z : Value → Sto → Prop, z = (fun v R => v = .bool false ∧ R = s0) := ⟨_, rfl⟩
    refine have_op (l := [_, _, _, _, _, _, _, _, _, _, _, _, _, _, _, _, _, _, _, _, _, _, _, _, _, _, _, _, _, _, _, _, _, _, _, _, _]) shadowboxref06_Right.tab1 1 23 (fun sp => sp 23 = s3_23 ∧ sp 22 = s3_22) (fun sp on hA hon => ?_) (fun ops3_23 => ?_)
    · refine ⟨fun o ho vs Rs f' S' w hp hf hx hS hR hs => ?_⟩
      obtain rfl := Option.some.inj ho
      obtain ⟨hv22, hR22⟩ := (spe hA.2 hs3_22 (hp 22 (by kernel_rfl)))
      rw [hA.1, hs3_23]
      refine And.intro (fun a ha => (want_none rfl a ha).trans hon.symm) (And.intro (fun _ => ?_) (fun h => by rw [hon] at h; cases h))
      have hF := fr_next (rfl) ((hf 22 25 (by kernel_rfl) rfl).trans hv22)
      refine ls_fr hF ?_
      refine ls_val (v := .bool false) rfl rfl (by kernel_rfl) (fun w => by kernel_rfl) ?_
      exact ls_fin s0 (.bool false) (congrArg (fun z => upd z 26 _) hF.symm) ⟨rfl, rfl⟩ (sub_nil _)
    obtain ⟨s3_27, hs3_27⟩ : ∃ z : Value → Sto → Prop, z = (fun v R => v = .bool false ∧ R = s0) := ⟨_, rfl⟩
    refine have_op (l := [_, _, _, _, _, _, _, _, _, _, _, _, _, _, _, _, _, _, _, _, _, _, _, _, _, _, _, _, _, _, _, _, _, _, _, _, _]) shadowboxref06_Right.tab1 1 27 (fun sp => sp 27 = s3_27 ∧ sp 23 = s3_23 ∧ sp 26 = spu) (fun sp on hA hon => ?_) (fun ops3_27 => ?_)
    · refine ⟨fun o ho vs Rs f' S' w hp hf hx hS hR hs => ?_⟩
      obtain rfl := Option.some.inj ho
      obtain ⟨hv23, hR23⟩ := (spe hA.2.1 hs3_23 (hp 23 (by kernel_rfl)))
      obtain ⟨hv26, hR26⟩ := (spe hA.2.2 rfl (hp 26 (by kernel_rfl)) : spu _ _)
      rw [hA.1, hs3_27]
      refine And.intro (fun a ha => (want_none rfl a ha).trans hon.symm) (And.intro (fun _ => ?_) (fun h => by rw [hon] at h; cases h))
      have hF := fr_next (fr_next (rfl) ((hf 23 26 (by kernel_rfl) rfl).trans hv23)) ((hf 26 29 (by kernel_rfl) rfl).trans hv26)
      refine ls_fr hF ?_
      refine ls_val (v := .bool false) rfl rfl (by kernel_rfl) (fun w => by kernel_rfl) ?_
      exact ls_fin s0 (.bool false) (congrArg (fun z => upd z 30 _) hF.symm) ⟨rfl, rfl⟩ (sub_nil _)
    obtain ⟨s3_28, hs3_28⟩ : ∃ z : Value → Sto → Prop, z = (fun v R => v = .bool false ∧ R = s0) := ⟨_, rfl⟩
    refine have_op (l := [_, _, _, _, _, _, _, _, _, _, _, _, _, _, _, _, _, _, _, _, _, _, _, _, _, _, _, _, _, _, _, _, _, _, _, _, _]) shadowboxref06_Right.tab1 1 28 (fun sp => sp 28 = s3_28 ∧ sp 27 = s3_27) (fun sp on hA hon => ?_) (fun ops3_28 => ?_)
    · refine ⟨fun o ho vs Rs f' S' w hp hf hx hS hR hs => ?_⟩
      obtain rfl := Option.some.inj ho
      obtain ⟨hv27, hR27⟩ := (spe hA.2 hs3_27 (hp 27 (by kernel_rfl)))
      rw [hA.1, hs3_28]
      refine And.intro (fun a ha => (want_none rfl a ha).trans hon.symm) (And.intro (fun _ => ?_) (fun h => by rw [hon] at h; cases h))
      have hF := fr_next (rfl) ((hf 27 30 (by kernel_rfl) rfl).trans hv27)
      refine ls_fr hF ?_
      refine ls_val (v := .bool false) rfl rfl (by kernel_rfl) (fun w => by kernel_rfl) ?_
      exact ls_fin s0 (.bool false) (congrArg (fun z => upd z 31 _) hF.symm) ⟨rfl, rfl⟩ (sub_nil _)
    refine cs_draw shadowboxref06_Right.tab1 33 1 (spl [s3_0, s3_1, s3_2, s3_3, spu, spu, spu, s3_7, s3_8, spu, spu, spu, s3_12, s3_13, spu, spu, spu, s3_17, s3_18, spu, spu, spu, s3_22, s3_23, spu, spu, spu, s3_27, s3_28, spu, spu, spu, spu]) (onl [true, true, true, true, false, false, false, true, true, false, false, false, true, true, false, false, false, true, true, false, false, false, true, true, false, false, false, true, true, false, false, false, false]) (by kernel_rfl) (by kernel_rfl) (by kernel_rfl) (by kernel_rfl) (rs := [_, _, _, _]) rfl (by kernel_rfl) (by kernel_rfl) (all_snoc (all_snoc (all_snoc (all_snoc (all_snoc (all_snoc (all_snoc (all_snoc (all_snoc (all_snoc (all_snoc (all_snoc (all_snoc (all_snoc (all_snoc (all_snoc (all_snoc (all_snoc (all_snoc (all_snoc (all_snoc (all_snoc (all_snoc (all_snoc (all_snoc (all_snoc (all_snoc (all_snoc (all_snoc (all_snoc (all_snoc (all_snoc (all_snoc (all_nil) (ops3_0 _ _ rfl rfl)) (ops3_1 _ _ ⟨rfl, rfl⟩ rfl)) (ops3_2 _ _ ⟨rfl, rfl⟩ rfl)) (ops3_3 _ _ ⟨rfl, rfl⟩ rfl)) (op_offi 4 3 6 true rfl rfl (by kernel_rfl) (by kernel_rfl) rfl (fun v R h => by rw [hs3_3] at h; obtain ⟨h, _⟩ := h; exact h.trans (congrArg Value.bool (show (decide (a0.2.1 ≥ (1 : Int))) = false from dec_f q4))) rfl rfl)) (op_offi 5 3 6 true rfl rfl (by kernel_rfl) (by kernel_rfl) rfl (fun v R h => by rw [hs3_3] at h; obtain ⟨h, _⟩ := h; exact h.trans (congrArg Value.bool (show (decide (a0.2.1 ≥ (1 : Int))) = false from dec_f q4))) rfl rfl)) (op_offi 6 3 6 true rfl rfl (by kernel_rfl) (by kernel_rfl) rfl (fun v R h => by rw [hs3_3] at h; obtain ⟨h, _⟩ := h; exact h.trans (congrArg Value.bool (show (decide (a0.2.1 ≥ (1 : Int))) = false from dec_f q4))) rfl rfl)) (ops3_7 _ _ ⟨rfl, rfl, rfl⟩ rfl)) (ops3_8 _ _ ⟨rfl, rfl⟩ rfl)) (op_offi 9 8 11 true rfl rfl (by kernel_rfl) (by kernel_rfl) rfl (fun v R h => by rw [hs3_8] at h; obtain ⟨h, _⟩ := h; exact h) rfl rfl)) (op_offi 10 8 11 true rfl rfl (by kernel_rfl) (by kernel_rfl) rfl (fun v R h => by rw [hs3_8] at h; obtain ⟨h, _⟩ := h; exact h) rfl rfl)) (op_offi 11 8 11 true rfl rfl (by kernel_rfl) (by kernel_rfl) rfl (fun v R h => by rw [hs3_8] at h; obtain ⟨h, _⟩ := h; exact h) rfl rfl)) (ops3_12 _ _ ⟨rfl, rfl, rfl⟩ rfl)) (ops3_13 _ _ ⟨rfl, rfl⟩ rfl)) (op_offi 14 13 16 true rfl rfl (by kernel_rfl) (by kernel_rfl) rfl (fun v R h => by rw [hs3_13] at h; obtain ⟨h, _⟩ := h; exact h) rfl rfl)) (op_offi 15 13 16 true rfl rfl (by kernel_rfl) (by kernel_rfl) rfl (fun v R h => by rw [hs3_13] at h; obtain ⟨h, _⟩ := h; exact h) rfl rfl)) (op_offi 16 13 16 true rfl rfl (by kernel_rfl) (by kernel_rfl) rfl (fun v R h => by rw [hs3_13] at h; obtain ⟨h, _⟩ := h; exact h) rfl rfl)) (ops3_17 _ _ ⟨rfl, rfl, rfl⟩ rfl)) (ops3_18 _ _ ⟨rfl, rfl⟩ rfl)) (op_offi 19 18 21 true rfl rfl (by kernel_rfl) (by kernel_rfl) rfl (fun v R h => by rw [hs3_18] at h; obtain ⟨h, _⟩ := h; exact h) rfl rfl)) (op_offi 20 18 21 true rfl rfl (by kernel_rfl) (by kernel_rfl) rfl (fun v R h => by rw [hs3_18] at h; obtain ⟨h, _⟩ := h; exact h) rfl rfl)) (op_offi 21 18 21 true rfl rfl (by kernel_rfl) (by kernel_rfl) rfl (fun v R h => by rw [hs3_18] at h; obtain ⟨h, _⟩ := h; exact h) rfl rfl)) (ops3_22 _ _ ⟨rfl, rfl, rfl⟩ rfl)) (ops3_23 _ _ ⟨rfl, rfl⟩ rfl)) (op_offi 24 23 26 true rfl rfl (by kernel_rfl) (by kernel_rfl) rfl (fun v R h => by rw [hs3_23] at h; obtain ⟨h, _⟩ := h; exact h) rfl rfl)) (op_offi 25 23 26 true rfl rfl (by kernel_rfl) (by kernel_rfl) rfl (fun v R h => by rw [hs3_23] at h; obtain ⟨h, _⟩ := h; exact h) rfl rfl)) (op_offi 26 23 26 true rfl rfl (by kernel_rfl) (by kernel_rfl) rfl (fun v R h => by rw [hs3_23] at h; obtain ⟨h, _⟩ := h; exact h) rfl rfl)) (ops3_27 _ _ ⟨rfl, rfl, rfl⟩ rfl)) (ops3_28 _ _ ⟨rfl, rfl⟩ rfl)) (op_offi 29 28 31 true rfl rfl (by kernel_rfl) (by kernel_rfl) rfl (fun v R h => by rw [hs3_28] at h; obtain ⟨h, _⟩ := h; exact h) rfl rfl)) (op_offi 30 28 31 true rfl rfl (by kernel_rfl) (by kernel_rfl) rfl (fun v R h => by rw [hs3_28] at h; obtain ⟨h, _⟩ := h; exact h) rfl rfl)) (op_offi 31 28 31 true rfl rfl (by kernel_rfl) (by kernel_rfl) rfl (fun v R h => by rw [hs3_28] at h; obtain ⟨h, _⟩ := h; exact h) rfl rfl)) (op_offi 32 28 31 true rfl rfl (by kernel_rfl) (by kernel_rfl) rfl (fun v R h => by rw [hs3_28] at h; obtain ⟨h, _⟩ := h; exact h) rfl rfl)) ?_
    intro vs Rs f' S' hp hf hx hS hR
    obtain ⟨hv28, hR28⟩ := (spe rfl hs3_28 (hp 28 (by kernel_rfl)))
    obtain ⟨hv30, hR30⟩ := (spe rfl rfl (hp 30 (by kernel_rfl)) : spu _ _)
    obtain ⟨hv32, hR32⟩ := (spe rfl rfl (hp 32 (by kernel_rfl)) : spu _ _)
    refine ls_fr (F := upd f' 31 (.bool false)) (fr_next (rfl) ((hf 28 31 (by kernel_rfl) rfl).trans hv28)) ?_
    refine ls_sub (s0) (sub_nil _) ?_
    refine ls_off (j := 28) (t := 31) (b := true) (c := false) rfl rfl (by kernel_rfl) (by kernel_rfl) rfl rfl (by kernel_rfl) ?_
    refine ls_off (j := 28) (t := 31) (b := true) (c := false) rfl rfl (by kernel_rfl) (by kernel_rfl) rfl rfl (by kernel_rfl) ?_
    refine ls_val (v := .bool false) rfl rfl (by kernel_rfl) (fun w => by kernel_rfl) ?_
    refine ls_val (v := .bool false) rfl rfl (by kernel_rfl) (fun w => by kernel_rfl) ?_
    refine ls_end ?_
    refine qn_then ?_
    refine cs_ret' ?_
    obtain rfl := Option.some.inj H
    refine qr_res (rs := [_]) rfl (fun w' hs => ⟨[.bool false], (res_tmp (by kernel_rfl) (.nil)), (), rfl, hs.pick (ts := []) (cs := []) trivial (by decide)⟩)

/-! ### shadowbox/shadowboxref01.Take: function 32 -/
def shadowboxref01_Take.lo2 (l0 : List Int) (a1 : Int) : Nat → Int → Int → Option (Int × (List Int) × Bool)
  | 0, _, _ => none
  | k2 + 1, x7_2, x8_2 => (if x8_2 ≥ (0 : Int) then (if 0 ≤ x8_2 then (if x8_2 < (l0.length : Int) then lt (IntKind.wrap .u64 ((l0).getD (x8_2).toNat (0 : Int))) fun y6 => lt (IntKind.wrap .u64 ((IntKind.wrap .u64 (x7_2 * (256 : Int))) + y6)) fun y8 => (shadowboxref01_Take.lo2 l0 a1 k2) y8 (IntKind.wrap .i64 (x8_2 - (1 : Int))) else none) else none) else (if 0 ≤ a1 then (if a1 ≤ (l0.length : Int) then lt (l0.drop (a1).toNat) fun xl17 => (if (([] : List Int).length + xl17.length) * 1 ≤ 140737488355328 then some (x7_2, (([] : List Int) ++ xl17), true) else none) else none) else none))
def shadowboxref01_Take.jo1 (k : Nat) (l0 : List Int) (a1 : Int) : Option (Int × (List Int) × Bool) := shadowboxref01_Take.lo2 l0 a1 k (0 : Int) (IntKind.wrap .i64 (a1 - (1 : Int)))
def shadowboxref01_Take.f (k : Nat) (l0 : List Int) (a1 : Int) : Option (Int × (List Int) × Bool) :=
  (if a1 < (1 : Int) then some ((0 : Int), ([] : List Int), false) else (if a1 > (8 : Int) then some ((0 : Int), ([] : List Int), false) else (if (l0.length : Int) < a1 then some ((0 : Int), ([] : List Int), false) else (shadowboxref01_Take.jo1 k l0 a1))))
set_option maxRecDepth 100000 in
set_option maxHeartbeats 4000000 in
theorem shadowboxref01_Take.calls (k : Nat) (A0 : Option Addr) (c0 : Nat) (l0 : List Int) (a1 : Int) (r : Int × (List Int) × Bool) (b : Bs) (hs0 : St b (stl []) b.w) (R0 : Ro b A0 (em (Ec.int 5 .u8) l0)) (C0 : l0.length ≤ c0) (H : shadowboxref01_Take.f k l0 a1 = some r) :
    Calls Try.prog 32 #[.slice A0 l0.length c0, .int .i64 a1] b.w fun e w' => ∃ x : (Option Addr × Nat), e = .returned (.tuple #[.int .u64 r.1, .slice x.1 r.2.1.length x.2, .bool r.2.2]) ∧ St b (stl [Ck.sl (Ec.int 5 .u8) x.1 x.2 r.2.1]) w' := by
  unfold shadowboxref01_Take.f at H
  refine enterb (n := 41) Try.func32 rfl (by kernel_rfl) (by kernel_rfl) hs0 ?_
  refine cs_sub (s0) (sub_nil _) ?_
  refine cs_seq ?_
  refine cs_region (l := [_, _, _]) ?_
  refine ls_val (v := .int .u64 (0 : Int)) rfl rfl (by kernel_rfl) (fun w => by kernel_rfl) ?_
  refine ls_val (v := .slice none 0 0) rfl rfl (by kernel_rfl) (fun w => by kernel_rfl) ?_
  refine ls_val (v := .bool false) rfl rfl (by kernel_rfl) (fun w => by kernel_rfl) ?_
  refine ls_end ?_
  refine qn_then ?_
  refine cs_cut (fun f S => ∃ (fR : Fr), f = upd (upd fR 0 (.slice A0 l0.length c0)) 1 (.int .i64 a1) ∧ S = s0 ∧ shadowboxref01_Take.jo1 k l0 a1 = some r) ?_ ?_
  · skip
    refine cs_seq ?_
    refine cs_region (l := [_, _, _, _, _, _, _, _, _, _, _, _]) ?_
    refine ls_val (v := .int .i64 a1) rfl rfl (by kernel_rfl) (fun w => by kernel_rfl) ?_
    refine ls_val (v := .bool (decide (a1 < (1 : Int)))) rfl rfl (by kernel_rfl) (fun w => by kernel_rfl) ?_
    refine ls_val (v := .bool (decide (a1 < (1 : Int)))) rfl rfl (by kernel_rfl) (fun w => by kernel_rfl) ?_
    by_cases q25 : a1 < (1 : Int)
    · replace H := ite_t q25 H
      refine ls_know (c := true) (dec_t q25) 11 (by kernel_rfl) ?_
      refine ls_off (j := 2) (t := 11) (b := false) (c := true) rfl rfl (by kernel_rfl) (by kernel_rfl) rfl rfl (by kernel_rfl) ?_
      refine ls_off (j := 2) (t := 11) (b := false) (c := true) rfl rfl (by kernel_rfl) (by kernel_rfl) rfl rfl (by kernel_rfl) ?_
      refine ls_val (v := .bool true) rfl rfl (by kernel_rfl) (fun w => by kernel_rfl) ?_
      refine ls_val (v := .bool true) rfl rfl (by kernel_rfl) (fun w => by kernel_rfl) ?_
      refine ls_off (j := 6) (t := 15) (b := false) (c := true) rfl rfl (by kernel_rfl) (by kernel_rfl) rfl rfl (by kernel_rfl) ?_
      refine ls_off (j := 6) (t := 15) (b := false) (c := true) rfl rfl (by kernel_rfl) (by kernel_rfl) rfl rfl (by kernel_rfl) ?_
      refine ls_off (j := 6) (t := 15) (b := false) (c := true) rfl rfl (by kernel_rfl) (by kernel_rfl) rfl rfl (by kernel_rfl) ?_
      refine ls_off (j := 6) (t := 15) (b := false) (c := true) rfl rfl (by kernel_rfl) (by kernel_rfl) rfl rfl (by kernel_rfl) ?_
      refine ls_val (v := .bool true) rfl rfl (by kernel_rfl) (fun w => by kernel_rfl) ?_
      refine ls_end ?_
      refine qn_then ?_
      refine cs_true (by kernel_rfl) ?_
      refine cs_seq ?_
      refine cs_region (l := [_, _, _]) ?_
      refine ls_val (v := .int .u64 (0 : Int)) rfl rfl (by kernel_rfl) (fun w => by kernel_rfl) ?_
      refine ls_val (v := .slice none 0 0) rfl rfl (by kernel_rfl) (fun w => by kernel_rfl) ?_
      refine ls_val (v := .bool false) rfl rfl (by kernel_rfl) (fun w => by kernel_rfl) ?_
      refine ls_end ?_
      refine qn_then ?_
      refine cs_ret' ?_
      refine qr_then ?_
      refine qr_nilrow 0 (Ec.int 5 .u8) ?_
      obtain rfl := Option.some.inj H
      refine qr_res (rs := [_, _, _]) rfl (fun w' hs => ⟨[.int .u64 (0 : Int), .slice none 0 0, .bool false], (res_tmp (by kernel_rfl) (res_tmp (by kernel_rfl) (res_tmp (by kernel_rfl) (.nil)))), (none, 0), rfl, hs.pick (ts := [0]) (cs := [Ck.sl (Ec.int 5 .u8) none 0 ([] : List Int)]) ⟨by exact rfl, trivial⟩ (by decide)⟩)
    · replace H := ite_f q25 H
      refine ls_know (c := false) (dec_f q25) 11 (by kernel_rfl) ?_
      refine ls_on (j := 2) (t := 11) (b := false) rfl rfl (by kernel_rfl) (by kernel_rfl) ?_
      refine ls_val (v := .int .i64 a1) rfl rfl (by kernel_rfl) (fun w => by kernel_rfl) ?_
      refine ls_on (j := 2) (t := 11) (b := false) rfl rfl (by kernel_rfl) (by kernel_rfl) ?_
      refine ls_val (v := .bool (decide (a1 > (8 : Int)))) rfl rfl (by kernel_rfl) (fun w => by kernel_rfl) ?_
      refine ls_val (v := .bool (decide (a1 > (8 : Int)))) rfl rfl (by kernel_rfl) (fun w => by kernel_rfl) ?_
      refine ls_val (v := .bool (decide (a1 > (8 : Int)))) rfl rfl (by kernel_rfl) (fun w => by kernel_rfl) ?_
      by_cases q26 : a1 > (8 : Int)
      · replace H := ite_t q26 H
        refine ls_know (c := true) (dec_t q26) 15 (by kernel_rfl) ?_
        refine ls_off (j := 6) (t := 15) (b := false) (c := true) rfl rfl (by kernel_rfl) (by kernel_rfl) rfl rfl (by kernel_rfl) ?_
        refine ls_off (j := 6) (t := 15) (b := false) (c := true) rfl rfl (by kernel_rfl) (by kernel_rfl) rfl rfl (by kernel_rfl) ?_
        refine ls_off (j := 6) (t := 15) (b := false) (c := true) rfl rfl (by kernel_rfl) (by kernel_rfl) rfl rfl (by kernel_rfl) ?_
        refine ls_off (j := 6) (t := 15) (b := false) (c := true) rfl rfl (by kernel_rfl) (by kernel_rfl) rfl rfl (by kernel_rfl) ?_
        refine ls_val (v := .bool true) rfl rfl (by kernel_rfl) (fun w => by kernel_rfl) ?_
        refine ls_end ?_
        refine qn_then ?_
        refine cs_true (by kernel_rfl) ?_
        refine cs_seq ?_
        refine cs_region (l := [_, _, _]) ?_
        refine ls_val (v := .int .u64 (0 : Int)) rfl rfl (by kernel_rfl) (fun w => by kernel_rfl) ?_
        refine ls_val (v := .slice none 0 0) rfl rfl (by kernel_rfl) (fun w => by kernel_rfl) ?_
        refine ls_val (v := .bool false) rfl rfl (by kernel_rfl) (fun w => by kernel_rfl) ?_
        refine ls_end ?_
        refine qn_then ?_
        refine cs_ret' ?_
        refine qr_then ?_
        refine qr_nilrow 0 (Ec.int 5 .u8) ?_
        obtain rfl := Option.some.inj H
        refine qr_res (rs := [_, _, _]) rfl (fun w' hs => ⟨[.int .u64 (0 : Int), .slice none 0 0, .bool false], (res_tmp (by kernel_rfl) (res_tmp (by kernel_rfl) (res_tmp (by kernel_rfl) (.nil)))), (none, 0), rfl, hs.pick (ts := [0]) (cs := [Ck.sl (Ec.int 5 .u8) none 0 ([] : List Int)]) ⟨by exact rfl, trivial⟩ (by decide)⟩)
      · replace H := ite_f q26 H
        refine ls_know (c := false) (dec_f q26) 15 (by kernel_rfl) ?_
        refine ls_on (j := 6) (t := 15) (b := false) rfl rfl (by kernel_rfl) (by kernel_rfl) ?_
        refine ls_val (v := .slice A0 l0.length c0) rfl rfl (by kernel_rfl) (fun w => by kernel_rfl) ?_
        refine ls_on (j := 6) (t := 15) (b := false) rfl rfl (by kernel_rfl) (by kernel_rfl) ?_
        refine ls_val (v := .int .i64 (l0.length : Int)) rfl rfl (by kernel_rfl) (fun w => by kernel_rfl) ?_
        refine ls_on (j := 6) (t := 15) (b := false) rfl rfl (by kernel_rfl) (by kernel_rfl) ?_
        refine ls_val (v := .int .i64 a1) rfl rfl (by kernel_rfl) (fun w => by kernel_rfl) ?_
        refine ls_on (j := 6) (t := 15) (b := false) rfl rfl (by kernel_rfl) (by kernel_rfl) ?_
        refine ls_val (v := .bool (decide ((l0.length : Int) < a1))) rfl rfl (by kernel_rfl) (fun w => by kernel_rfl) ?_
        refine ls_val (v := .bool (decide ((l0.length : Int) < a1))) rfl rfl (by kernel_rfl) (fun w => by kernel_rfl) ?_
        refine ls_end ?_
        refine qn_then ?_
        by_cases q27 : (l0.length : Int) < a1
        · replace H := ite_t q27 H
          refine cs_know (c := true) (dec_t q27) 20 (by kernel_rfl) ?_
          refine cs_true (by kernel_rfl) ?_
          refine cs_seq ?_
          refine cs_region (l := [_, _, _]) ?_
          refine ls_val (v := .int .u64 (0 : Int)) rfl rfl (by kernel_rfl) (fun w => by kernel_rfl) ?_
          refine ls_val (v := .slice none 0 0) rfl rfl (by kernel_rfl) (fun w => by kernel_rfl) ?_
          refine ls_val (v := .bool false) rfl rfl (by kernel_rfl) (fun w => by kernel_rfl) ?_
          refine ls_end ?_
          refine qn_then ?_
          refine cs_ret' ?_
          refine qr_then ?_
          refine qr_nilrow 0 (Ec.int 5 .u8) ?_
          obtain rfl := Option.some.inj H
          refine qr_res (rs := [_, _, _]) rfl (fun w' hs => ⟨[.int .u64 (0 : Int), .slice none 0 0, .bool false], (res_tmp (by kernel_rfl) (res_tmp (by kernel_rfl) (res_tmp (by kernel_rfl) (.nil)))), (none, 0), rfl, hs.pick (ts := [0]) (cs := [Ck.sl (Ec.int 5 .u8) none 0 ([] : List Int)]) ⟨by exact rfl, trivial⟩ (by decide)⟩)
        · replace H := ite_f q27 H
          refine cs_know (c := false) (dec_f q27) 20 (by kernel_rfl) ?_
          refine cs_false (by kernel_rfl) ?_
          refine cs_skip' ?_
          refine qn_meet (s0) ⟨_, fr_next (fr_next (rfl) (by kernel_rfl)) (by kernel_rfl), rfl, H⟩ (sub_nil _)
  · rintro f S ⟨fr1, rfl, rfl, H⟩
    replace H : (shadowboxref01_Take.lo2 l0 a1 k (0 : Int) (IntKind.wrap .i64 (a1 - (1 : Int)))) = some r := H
    refine cs_seq ?_
    refine cs_region (l := [_]) ?_
    refine ls_val (v := .int .u64 (0 : Int)) rfl rfl (by kernel_rfl) (fun w => by kernel_rfl) ?_
    refine ls_end ?_
    refine qn_then ?_
    refine cs_seq ?_
    refine cs_seq ?_
    refine cs_region (l := [_, _, _]) ?_
    refine ls_val (v := .int .i64 a1) rfl rfl (by kernel_rfl) (fun w => by kernel_rfl) ?_
    refine ls_val (v := .int .i64 (IntKind.wrap .i64 (a1 - (1 : Int)))) rfl rfl (by kernel_rfl) (fun w => by kernel_rfl) ?_
    refine ls_val (v := .int .i64 (IntKind.wrap .i64 (a1 - (1 : Int)))) rfl rfl (by kernel_rfl) (fun w => by kernel_rfl) ?_
    refine ls_end ?_
    refine qn_then ?_
    refine cs_block ?_
    refine cs_sub (s0) (sub_nil _) ?_
    refine cs_loop (fun kk f S => ∃ (fR : Fr) (x7_2 : Int) (x8_2 : Int), f = upd (upd (upd (upd fR 0 (.slice A0 l0.length c0)) 1 (.int .i64 a1)) 7 (.int .u64 x7_2)) 8 (.int .i64 x8_2) ∧ S = s0 ∧ shadowboxref01_Take.lo2 l0 a1 kk x7_2 x8_2 = some r) k ?_ ?_ ?_
    · exact ⟨_, (0 : Int), (IntKind.wrap .i64 (a1 - (1 : Int))), fr_next (fr_next (fr_next (fr_next (rfl) (by kernel_rfl)) (by kernel_rfl)) (by kernel_rfl)) (by kernel_rfl), rfl, H⟩
    · rintro f S ⟨fr2, x7_2, x8_2, rfl, rfl, H⟩; cases H
    · rintro k2 f S ⟨fr2, x7_2, x8_2, rfl, rfl, H⟩
      replace H : ((if x8_2 ≥ (0 : Int) then (if 0 ≤ x8_2 then (if x8_2 < (l0.length : Int) then lt (IntKind.wrap .u64 ((l0).getD (x8_2).toNat (0 : Int))) fun y6 => lt (IntKind.wrap .u64 ((IntKind.wrap .u64 (x7_2 * (256 : Int))) + y6)) fun y8 => (shadowboxref01_Take.lo2 l0 a1 k2) y8 (IntKind.wrap .i64 (x8_2 - (1 : Int))) else none) else none) else (if 0 ≤ a1 then (if a1 ≤ (l0.length : Int) then lt (l0.drop (a1).toNat) fun xl17 => (if (([] : List Int).length + xl17.length) * 1 ≤ 140737488355328 then some (x7_2, (([] : List Int) ++ xl17), true) else none) else none) else none))) = some r := H
      refine cs_seq ?_
      refine cs_seq ?_
      refine cs_region (l := [_, _]) ?_
      refine ls_val (v := .int .i64 x8_2) rfl rfl (by kernel_rfl) (fun w => by kernel_rfl) ?_
      refine ls_val (v := .bool (decide (x8_2 ≥ (0 : Int)))) rfl rfl (by kernel_rfl) (fun w => by kernel_rfl) ?_
      refine ls_end ?_
      refine qn_then ?_
      by_cases q1 : x8_2 ≥ (0 : Int)
      · replace H := ite_t q1 H
        refine cs_know (c := true) (dec_t q1) 24 (by kernel_rfl) ?_
        refine cs_true (by kernel_rfl) ?_
        refine cs_skip' ?_
        refine qn_then ?_
        refine cs_seq ?_
        refine cs_block ?_
        refine cs_region (l := [_, _, _, _, _, _, _, _, _]) ?_
        refine ls_val (v := .int .u64 x7_2) rfl rfl (by kernel_rfl) (fun w => by kernel_rfl) ?_
        refine ls_val (v := .int .u64 (IntKind.wrap .u64 (x7_2 * (256 : Int)))) rfl rfl (by kernel_rfl) (fun w => by kernel_rfl) ?_
        refine ls_val (v := .slice A0 l0.length c0) rfl rfl (by kernel_rfl) (fun w => by kernel_rfl) ?_
        refine ls_val (v := .int .i64 x8_2) rfl rfl (by kernel_rfl) (fun w => by kernel_rfl) ?_
        obtain ⟨q2, H⟩ := ite_need H
        obtain ⟨q3, H⟩ := ite_need H
        obtain ⟨ad4, hA5⟩ := ido_at (T := (Ec.int 5 .u8)) (l := l0) (i := x8_2) R0 q2 q3
        refine ls_idxv (Ec.int 5 .u8) (A := A0) (c := c0) (l := l0) (k := .i64) (i := x8_2) (z := 1) (ad := ad4) rfl rfl (by kernel_rfl) hA5 rfl (by kernel_rfl) (by kernel_rfl) (by kernel_rfl) (by kernel_rfl) q2 q3 ?_
        refine ls_load (a0 := (ad4.add ((x8_2).toNat * 1))) (v := .int .u8 ((l0).getD (x8_2).toNat (0 : Int))) (de := (TypeDesc.int .u8)) rfl rfl (by kernel_rfl) rfl (by kernel_rfl) (by kernel_rfl) (by kernel_rfl) (fun w hs => (hs.old R0).at hA5 (em_sub (Ec.int 5 .u8) l0 (i := (x8_2).toNat) (by have h0 : (0 : Int) ≤ x8_2 := q2; have h1 : x8_2 < (l0.length : Int) := q3; omega))) ?_
        obtain ⟨y6, hy7, H⟩ := lt_some H
        refine ls_val (v := .int .u64 (IntKind.wrap .u64 ((l0).getD (x8_2).toNat (0 : Int)))) rfl rfl (by kernel_rfl) (fun w => by kernel_rfl) ?_
        refine ls_ren 33 (v := .int .u64 (IntKind.wrap .u64 ((l0).getD (x8_2).toNat (0 : Int)))) (v' := .int .u64 y6) (by kernel_rfl) (by rw [hy7]) ?_
        obtain ⟨y8, hy9, H⟩ := lt_some H
        refine ls_val (v := .int .u64 (IntKind.wrap .u64 ((IntKind.wrap .u64 (x7_2 * (256 : Int))) + y6))) rfl rfl (by kernel_rfl) (fun w => by kernel_rfl) ?_
        refine ls_ren 34 (v := .int .u64 (IntKind.wrap .u64 ((IntKind.wrap .u64 (x7_2 * (256 : Int))) + y6))) (v' := .int .u64 y8) (by kernel_rfl) (by rw [hy9]) ?_
        refine ls_val (v := .int .u64 y8) rfl rfl (by kernel_rfl) (fun w => by kernel_rfl) ?_
        refine ls_end ?_
        refine qn_block ?_
        refine qn_then ?_
        refine cs_region (l := [_, _, _]) ?_
        refine ls_val (v := .int .i64 x8_2) rfl rfl (by kernel_rfl) (fun w => by kernel_rfl) ?_
        refine ls_val (v := .int .i64 (IntKind.wrap .i64 (x8_2 - (1 : Int)))) rfl rfl (by kernel_rfl) (fun w => by kernel_rfl) ?_
        refine ls_val (v := .int .i64 (IntKind.wrap .i64 (x8_2 - (1 : Int)))) rfl rfl (by kernel_rfl) (fun w => by kernel_rfl) ?_
        refine ls_end ?_
        refine qn_again k2 (s0) (Nat.le_refl _) ⟨_, y8, (IntKind.wrap .i64 (x8_2 - (1 : Int))), fr_next (fr_next (fr_next (fr_next (rfl) (by kernel_rfl)) (by kernel_rfl)) (by kernel_rfl)) (by kernel_rfl), rfl, H⟩ (sub_nil _)
      · replace H := ite_f q1 H
        refine cs_know (c := false) (dec_f q1) 24 (by kernel_rfl) ?_
        refine cs_false (by kernel_rfl) ?_
        refine cs_exit' ?_
        refine qx_then ?_
        refine qx_then ?_
        refine qx_same ?_
        refine qn_then ?_
        refine cs_seq ?_
        refine cs_region (l := [_, _, _, _, _, _, _, _, _]) ?_
        refine ls_val (v := .int .u64 x7_2) rfl rfl (by kernel_rfl) (fun w => by kernel_rfl) ?_
        refine ls_lit (Ec.int 5 .u8) 0 rfl rfl (by kernel_rfl) ([] : List Int) (by exact of_decide_eq_true (by kernel_rfl)) (fun w => by kernel_rfl) ?_
        intro g10
        refine ls_val (v := .slice A0 l0.length c0) rfl rfl (by kernel_rfl) (fun w => by kernel_rfl) ?_
        refine ls_val (v := .int .i64 a1) rfl rfl (by kernel_rfl) (fun w => by kernel_rfl) ?_
        obtain ⟨q11, H⟩ := ite_need H
        obtain ⟨q12, H⟩ := ite_need H
        obtain ⟨xl17, hy18, H⟩ := lt_some H
        have hz20 : (a1).toNat ≤ l0.length := by omega
        have hz21 : l0.length ≤ l0.length := by omega
        obtain ⟨xA13, xc14, he19, xC16, xR15⟩ := cut_at (A := A0) (c := c0) (l := l0) (Ec.int 5 .u8) ((a1).toNat) l0.length hz20 hz21 C0 R0 (m := xl17) (by rw [← hy18] <;> simp) (z := 1) rfl
        refine ls_cutv (A := A0) (c := c0) (m := l0.length) (z := 1) (e := 5) (a := (a1).toNat) (b := l0.length) rfl rfl (by kernel_rfl) rfl (by kernel_rfl) (by kernel_rfl) (by kernel_rfl) (.inr ⟨.i64, by rw [Int.toNat_of_nonneg (by first | assumption | omega)]; kernel_rfl⟩) (.inl ⟨rfl, rfl⟩) hz20 hz21 C0 he19 ?_
        obtain ⟨q22, H⟩ := ite_need H
        refine ls_app (Ec.int 5 .u8) (A := (some ⟨g10, 0, none⟩)) (c := ([] : List Int).length) (B := xA13) (cb := xc14) (z := (Value.int .u8 0)) (l := ([] : List Int)) (m := xl17) (bytes := 1) 0 rfl rfl (by kernel_rfl) rfl (by kernel_rfl) (by exact rfl) (by kernel_rfl) (fun w hs => (hs.old xR15)) (by kernel_rfl) (by kernel_rfl) rfl (by decide) q22 ?_
        intro xA23 xc24
        refine ls_val (v := .int .u64 x7_2) rfl rfl (by kernel_rfl) (fun w => by kernel_rfl) ?_
        refine ls_val (v := .slice xA23 (([] : List Int) ++ xl17).length xc24) rfl rfl (by kernel_rfl) (fun w => by kernel_rfl) ?_
        refine ls_val (v := .bool true) rfl rfl (by kernel_rfl) (fun w => by kernel_rfl) ?_
        refine ls_end ?_
        refine qn_then ?_
        refine cs_ret' ?_
        obtain rfl := Option.some.inj H
        refine qr_res (rs := [_, _, _]) rfl (fun w' hs => ⟨[.int .u64 x7_2, .slice xA23 (([] : List Int) ++ xl17).length xc24, .bool true], (res_tmp (by kernel_rfl) (res_tmp (by kernel_rfl) (res_tmp (by kernel_rfl) (.nil)))), (xA23, xc24), rfl, hs.pick (ts := [0]) (cs := [Ck.sl (Ec.int 5 .u8) xA23 xc24 (([] : List Int) ++ xl17)]) ⟨by exact rfl, trivial⟩ (by decide)⟩)

end Go.Proofs.Ytnjijflgafghmaa.G
