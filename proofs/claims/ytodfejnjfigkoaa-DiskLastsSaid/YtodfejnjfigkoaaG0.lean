/- Printed by a program of this session (sz.py): plain functions, and walks that show that the code comes to them; no condition. -/
import Derived.Test.YtodfejnjfigkoaaProg
import Derived.Test.YtodfejnjfigkoaaTy
set_option linter.unusedVariables false
set_option linter.unusedSimpArgs false
namespace Go.Proofs.Ytodfejnjfigkoaa.G
open Go Go.RowKit Go.Proofs.Ytodfejnjfigkoaa.Sx

/-! ### shadowbox/disk.New: function 6 -/
def disk_New.f (k : Nat) (a0 : Int) : Option (((Unit × Unit × Bool × Int × Bool) × (List (Int × (Vc Int 512)) × List (Vc Int 512))) × Int) :=
  (if a0 < (1 : Int) then none else (if a0 > (8192 : Int) then none else (if 0 ≤ a0 then (if a0 ≤ a0 then (if a0 ≤ 140737488355328 then (if (512 : Int) * a0 ≤ 281474976710656 then some ((((), (), false, (0 : Int), false), (([] : List (Int × (Vc Int 512))), (List.replicate (a0).toNat (vrep 512 (0 : Int))))), (0 : Int)) else none) else none) else none) else none)))
set_option maxRecDepth 100000 in
set_option maxHeartbeats 4000000 in
theorem disk_New.calls (k : Nat) (a0 : Int) (r : ((Unit × Unit × Bool × Int × Bool) × (List (Int × (Vc Int 512)) × List (Vc Int 512))) × Int) (b : Bs) (hs0 : St b (stl []) b.w) (H : disk_New.f k a0 = some r) :
    Calls Try.prog 6 #[.int .i64 a0] b.w fun e w' => ∃ x : Nat × Nat × Nat × Nat × Nat, e = .returned (.tuple #[.pointer (some ⟨x.1, 0, none⟩), .int .i64 r.2]) ∧ St b (stl [Ck.var 34 x.1 (([Value.slice (some ⟨x.2.2.1, 0, none⟩) x.2.2.2.2 x.2.2.2.1] ++ ([Value.map (some x.2.1)] ++ ([Value.bool r.1.1.2.2.1] ++ ([Value.int .i64 r.1.1.2.2.2.1] ++ [Value.bool r.1.1.2.2.2.2]))))), Ck.mr T48 x.2.1 x.2.2.1 x.2.2.2.1 x.2.2.2.2 r.1.2]) w' := by
  unfold disk_New.f at H
  refine enterb (n := 15) Try.func6 rfl (by kernel_rfl) (by kernel_rfl) hs0 ?_
  refine cs_sub (s0) (sub_nil _) ?_
  refine cs_seq ?_
  refine cs_region (l := [_, _]) ?_
  refine lv (.pointer none) ?_
  refine lv (.int .i64 (0 : Int)) ?_
  refine ls_end ?_
  refine qn_then ?_
  refine cs_seq ?_
  refine cs_seq ?_
  refine cs_region (l := [_, _, _, _, _, _]) ?_
  refine lv (.int .i64 a0) ?_
  refine lv (.bool (decide (a0 < (1 : Int)))) ?_
  refine lv (.bool (decide (a0 < (1 : Int)))) ?_
  by_cases q1 : a0 < (1 : Int)
  · replace H := ite_t q1 H
    refine ls_know (c := true) (dec_t q1) 6 (by kernel_rfl) ?_
    refine lofx 2 6 false true ?_
    refine lofx 2 6 false true ?_
    refine lv (.bool true) ?_
    refine ls_end ?_
    refine qn_then ?_
    refine cs_true (by kernel_rfl) ?_
    refine cs_seq ?_
    refine cs_region (l := [_, _]) ?_
    refine lv (.pointer none) ?_
    refine lv (.int .i64 (2 : Int)) ?_
    refine ls_end ?_
    refine qn_then ?_
    cases H
  replace H := ite_f q1 H
  refine ls_know (c := false) (dec_f q1) 6 (by kernel_rfl) ?_
  refine ls_on (j := 2) (t := 6) (b := false) rfl rfl (by kernel_rfl) (by kernel_rfl) ?_
  refine lv (.int .i64 a0) ?_
  refine ls_on (j := 2) (t := 6) (b := false) rfl rfl (by kernel_rfl) (by kernel_rfl) ?_
  refine lv (.bool (decide (a0 > (8192 : Int)))) ?_
  refine lv (.bool (decide (a0 > (8192 : Int)))) ?_
  refine ls_end ?_
  refine qn_then ?_
  by_cases q2 : a0 > (8192 : Int)
  · replace H := ite_t q2 H
    refine cs_know (c := true) (dec_t q2) 9 (by kernel_rfl) ?_
    refine cs_true (by kernel_rfl) ?_
    refine cs_seq ?_
    refine cs_region (l := [_, _]) ?_
    refine lv (.pointer none) ?_
    refine lv (.int .i64 (2 : Int)) ?_
    refine ls_end ?_
    refine qn_then ?_
    cases H
  replace H := ite_f q2 H
  refine cs_know (c := false) (dec_f q2) 9 (by kernel_rfl) ?_
  refine cs_false (by kernel_rfl) ?_
  refine cs_skip' ?_
  refine qn_then ?_
  refine cs_seq ?_
  refine cs_region (l := [_, _, _, _, _, _, _]) ?_
  refine lv (.int .i64 a0) ?_
  obtain ⟨q3, H⟩ := ite_need H
  obtain ⟨q4, H⟩ := ite_need H
  obtain ⟨q5, H⟩ := ite_need H
  obtain ⟨q6, H⟩ := ite_need H
  refine ls_make T48 (bytes := 512) (a := a0) (b := a0) (kx := .i64) (ky := .i64) (zc := en (Value.int .u8) (vrep 512 (0 : Int)).1) 0 rfl rfl (by kernel_rfl) rfl (by kernel_rfl) (by kernel_rfl) (by kernel_rfl) (by kernel_rfl) rfl q3 q4 q5 q6 ?_
  intro g7
  refine ls_makemap 1 rfl rfl (by kernel_rfl) rfl ?_
  intro g8
  refine lv (.agg ⟨([Value.slice (some ⟨g7, 0, none⟩) (List.replicate (a0).toNat (vrep 512 (0 : Int))).length (a0).toNat] ++ ([Value.map (some g8)] ++ ([Value.bool false] ++ ([Value.int .i64 (0 : Int)] ++ [Value.bool false]))))⟩) ?_
  refine ls_mkmr (T := T48) (gl := g7) (c := ((a0).toNat)) (l := (List.replicate (a0).toNat (vrep 512 (0 : Int)))) (r := g8) 0 1 (by decide) (by exact rfl) (by exact rfl) ?_
  refine ls_new rfl rfl (by kernel_rfl) 2 (fun g => .pointer (some ⟨g, 0, none⟩)) (.cells ⟨([Value.slice (some ⟨g7, 0, none⟩) ((List.replicate (a0).toNat (vrep 512 (0 : Int))).length) ((a0).toNat)] ++ ([Value.map (some g8)] ++ ([Value.bool false] ++ ([Value.int .i64 (0 : Int)] ++ [Value.bool false]))))⟩ 34) (fun w => by kernel_rfl) ?_
  intro g9
  refine lv (.pointer (some ⟨g9, 0, none⟩)) ?_
  refine lv (.int .i64 (0 : Int)) ?_
  refine ls_end ?_
  refine qn_then ?_
  refine cs_ret' ?_
  obtain rfl := Option.some.inj H
  refine qr_res (rs := [_, _]) rfl (fun w' hs => ⟨[.pointer (some ⟨g9, 0, none⟩), .int .i64 (0 : Int)], (res_tmp (by kernel_rfl) (res_tmp (by kernel_rfl) (.nil))), (g9, g8, g7, (a0).toNat, (List.replicate (a0).toNat (vrep 512 (0 : Int))).length), rfl, hs.pick (ts := [2, 1]) (cs := [Ck.var 34 g9 (([Value.slice (some ⟨g7, 0, none⟩) ((List.replicate (a0).toNat (vrep 512 (0 : Int))).length) ((a0).toNat)] ++ ([Value.map (some g8)] ++ ([Value.bool false] ++ ([Value.int .i64 (0 : Int)] ++ [Value.bool false]))))), Ck.mr T48 g8 g7 ((a0).toNat) ((List.replicate (a0).toNat (vrep 512 (0 : Int))).length) (([] : List (Int × (Vc Int 512))), (List.replicate (a0).toNat (vrep 512 (0 : Int))))]) ⟨by exact rfl, by exact rfl, trivial⟩ (by decide)⟩)

/-! ### (*shadowbox/disk.Disk).none: function 14 -/
def disk_Disk_none.f (k : Nat) (v0 : (Unit × Unit × Bool × Int × Bool)) (w0_1 : (List (Int × (Vc Int 512)) × List (Vc Int 512))) : Option (Bool) :=
  some false
set_option maxRecDepth 100000 in
set_option maxHeartbeats 4000000 in
theorem disk_Disk_none.calls (k : Nat) (pg0 : Nat) (gl0_0 : Nat) (n0_0 : Nat) (c0_0 : Nat) (r0_1 : Nat) (v0 : (Unit × Unit × Bool × Int × Bool)) (w0_1 : (List (Int × (Vc Int 512)) × List (Vc Int 512))) (r : Bool) (b : Bs) (hs0 : St b (stl [Ck.var 34 pg0 (([Value.slice (some ⟨gl0_0, 0, none⟩) n0_0 c0_0] ++ ([Value.map (some r0_1)] ++ ([Value.bool v0.2.2.1] ++ ([Value.int .i64 v0.2.2.2.1] ++ [Value.bool v0.2.2.2.2]))))), Ck.mr T48 r0_1 gl0_0 c0_0 n0_0 w0_1]) b.w) (H : disk_Disk_none.f k v0 w0_1 = some r) :
    Calls Try.prog 14 #[.pointer (some ⟨pg0, 0, none⟩)] b.w fun e w' => ∃ x : Unit, e = .returned (.bool r) ∧ St b (stl [Ck.var 34 pg0 (([Value.slice (some ⟨gl0_0, 0, none⟩) n0_0 c0_0] ++ ([Value.map (some r0_1)] ++ ([Value.bool v0.2.2.1] ++ ([Value.int .i64 v0.2.2.2.1] ++ [Value.bool v0.2.2.2.2]))))), Ck.mr T48 r0_1 gl0_0 c0_0 n0_0 w0_1]) w' := by
  unfold disk_Disk_none.f at H
  refine enterb (n := 12) Try.func14 rfl (by kernel_rfl) (by kernel_rfl) hs0 ?_
  refine cs_sub (sput (sput s0 0 (some (Ck.var 34 pg0 (([Value.slice (some ⟨gl0_0, 0, none⟩) n0_0 c0_0] ++ ([Value.map (some r0_1)] ++ ([Value.bool v0.2.2.1] ++ ([Value.int .i64 v0.2.2.2.1] ++ [Value.bool v0.2.2.2.2])))))))) 1 (some (Ck.mr T48 r0_1 gl0_0 c0_0 n0_0 w0_1))) (sub_put (by exact rfl) (sub_put (by exact rfl) (sub_nil _))) ?_
  refine cs_seq ?_
  refine cs_region (l := [_]) ?_
  refine lv (.bool false) ?_
  refine ls_end ?_
  refine qn_then ?_
  refine cs_seq ?_
  refine cs_region (l := [_, _, _, _, _, _, _, _, _, _]) ?_
  refine lv (.pointer (some ⟨pg0, 0, none⟩)) ?_
  refine lv (.bool false) ?_
  refine lv (.bool false) ?_
  refine ls_on (j := 2) (t := 5) (b := false) rfl rfl (by kernel_rfl) (by kernel_rfl) ?_
  refine lv (.pointer (some ⟨pg0, 0, none⟩)) ?_
  refine ls_on (j := 2) (t := 5) (b := false) rfl rfl (by kernel_rfl) (by kernel_rfl) ?_
  refine lv (.pointer (some ⟨pg0, 0, none⟩)) ?_
  refine ls_on (j := 2) (t := 5) (b := false) rfl rfl (by kernel_rfl) (by kernel_rfl) ?_
  refine lv (.pointer (some ⟨pg0, (0 + 0), none⟩)) ?_
  refine ls_on (j := 2) (t := 5) (b := false) rfl rfl (by kernel_rfl) (by kernel_rfl) ?_
  refine ls_mrn 1 (by exact rfl) (fun hn1 => ?_)
  refine ls_load (a0 := ⟨pg0, (0 + 0), none⟩) (v := .slice (some ⟨gl0_0, 0, none⟩) n0_0 c0_0) (de := (TypeDesc.slice 48)) rfl rfl (by kernel_rfl) rfl (by kernel_rfl) (by kernel_rfl) (by kernel_rfl) (fun w hs => (hs.var (k := 0) (by exact rfl) (Sub4.trans (Sub4.all _) (Sub4.head _ _)))) ?_
  refine ls_ren 9 (v := .slice (some ⟨gl0_0, 0, none⟩) n0_0 c0_0) (v' := .slice (some ⟨gl0_0, 0, none⟩) w0_1.2.length c0_0) (by kernel_rfl) (by rw [hn1]) ?_
  refine ls_on (j := 2) (t := 5) (b := false) rfl rfl (by kernel_rfl) (by kernel_rfl) ?_
  refine lv (.bool false) ?_
  refine lv (.bool false) ?_
  refine lv (.bool false) ?_
  refine ls_end ?_
  refine qn_then ?_
  refine cs_ret' ?_
  obtain rfl := Option.some.inj H
  refine qr_res (rs := [_]) rfl (fun w' hs => ⟨[.bool false], (res_tmp (by kernel_rfl) (.nil)), (), rfl, hs.pick (ts := [0, 1]) (cs := [Ck.var 34 pg0 (([Value.slice (some ⟨gl0_0, 0, none⟩) n0_0 c0_0] ++ ([Value.map (some r0_1)] ++ ([Value.bool v0.2.2.1] ++ ([Value.int .i64 v0.2.2.2.1] ++ [Value.bool v0.2.2.2.2]))))), Ck.mr T48 r0_1 gl0_0 c0_0 n0_0 w0_1]) ⟨by exact rfl, by exact rfl, trivial⟩ (by decide)⟩)

/-! ### (*shadowbox/disk.Disk).check: function 15 -/
def disk_Disk_check.f (k : Nat) (v0 : (Unit × Unit × Bool × Int × Bool)) (w0_1 : (List (Int × (Vc Int 512)) × List (Vc Int 512))) (a1 : Int) : Option (Int) :=
  (if a1 < (0 : Int) then some (2 : Int) else (if a1 ≥ (w0_1.2.length : Int) then some (2 : Int) else some (0 : Int)))
set_option maxRecDepth 100000 in
set_option maxHeartbeats 4000000 in
theorem disk_Disk_check.calls (k : Nat) (pg0 : Nat) (gl0_0 : Nat) (n0_0 : Nat) (c0_0 : Nat) (r0_1 : Nat) (v0 : (Unit × Unit × Bool × Int × Bool)) (w0_1 : (List (Int × (Vc Int 512)) × List (Vc Int 512))) (a1 : Int) (r : Int) (b : Bs) (hs0 : St b (stl [Ck.var 34 pg0 (([Value.slice (some ⟨gl0_0, 0, none⟩) n0_0 c0_0] ++ ([Value.map (some r0_1)] ++ ([Value.bool v0.2.2.1] ++ ([Value.int .i64 v0.2.2.2.1] ++ [Value.bool v0.2.2.2.2]))))), Ck.mr T48 r0_1 gl0_0 c0_0 n0_0 w0_1]) b.w) (H : disk_Disk_check.f k v0 w0_1 a1 = some r) :
    Calls Try.prog 15 #[.pointer (some ⟨pg0, 0, none⟩), .int .i64 a1] b.w fun e w' => ∃ x : Unit, e = .returned (.int .i64 r) ∧ St b (stl [Ck.var 34 pg0 (([Value.slice (some ⟨gl0_0, 0, none⟩) n0_0 c0_0] ++ ([Value.map (some r0_1)] ++ ([Value.bool v0.2.2.1] ++ ([Value.int .i64 v0.2.2.2.1] ++ [Value.bool v0.2.2.2.2]))))), Ck.mr T48 r0_1 gl0_0 c0_0 n0_0 w0_1]) w' := by
  unfold disk_Disk_check.f at H
  refine enterb (n := 20) Try.func15 rfl (by kernel_rfl) (by kernel_rfl) hs0 ?_
  refine cs_sub (sput (sput s0 0 (some (Ck.var 34 pg0 (([Value.slice (some ⟨gl0_0, 0, none⟩) n0_0 c0_0] ++ ([Value.map (some r0_1)] ++ ([Value.bool v0.2.2.1] ++ ([Value.int .i64 v0.2.2.2.1] ++ [Value.bool v0.2.2.2.2])))))))) 1 (some (Ck.mr T48 r0_1 gl0_0 c0_0 n0_0 w0_1))) (sub_put (by exact rfl) (sub_put (by exact rfl) (sub_nil _))) ?_
  refine cs_seq ?_
  refine cs_region (l := [_]) ?_
  refine lv (.int .i64 (0 : Int)) ?_
  refine ls_end ?_
  refine qn_then ?_
  refine cs_seq ?_
  refine cs_block ?_
  refine cs_seq ?_
  refine cs_region (l := [_, _, _]) ?_
  refine lv (.pointer (some ⟨pg0, 0, none⟩)) ?_
  have hc2 : disk_Disk_none.f k ((), (), v0.2.2.1, v0.2.2.2.1, v0.2.2.2.2) w0_1 = some false := rfl
  refine ls_callb (fid := 14) (vals := #[.pointer (some ⟨pg0, 0, none⟩)]) (X := Unit) (fun x => .bool false) (fun x => stl [Ck.var 34 pg0 (([Value.slice (some ⟨gl0_0, 0, none⟩) n0_0 c0_0] ++ ([Value.map (some r0_1)] ++ ([Value.bool v0.2.2.1] ++ ([Value.int .i64 v0.2.2.2.1] ++ [Value.bool v0.2.2.2.2]))))), Ck.mr T48 r0_1 gl0_0 c0_0 n0_0 w0_1]) [0, 1] [] [Ck.var 34 pg0 (([Value.slice (some ⟨gl0_0, 0, none⟩) n0_0 c0_0] ++ ([Value.map (some r0_1)] ++ ([Value.bool v0.2.2.1] ++ ([Value.int .i64 v0.2.2.2.1] ++ [Value.bool v0.2.2.2.2]))))), Ck.mr T48 r0_1 gl0_0 c0_0 n0_0 w0_1] [] 2 rfl rfl (by kernel_rfl) (fun w => by kernel_rfl) ⟨by exact rfl, by exact rfl, trivial⟩ trivial (by decide) (fun w hs hb => disk_Disk_none.calls k pg0 gl0_0 n0_0 c0_0 r0_1 ((), (), v0.2.2.1, v0.2.2.2.1, v0.2.2.2.2) w0_1 false (lent b w [Ck.var 34 pg0 (([Value.slice (some ⟨gl0_0, 0, none⟩) n0_0 c0_0] ++ ([Value.map (some r0_1)] ++ ([Value.bool v0.2.2.1] ++ ([Value.int .i64 v0.2.2.2.1] ++ [Value.bool v0.2.2.2.2]))))), Ck.mr T48 r0_1 gl0_0 c0_0 n0_0 w0_1] []) hb  hc2) ?_
  intro x3
  refine lv (.bool false) ?_
  refine ls_end ?_
  refine qn_then ?_
  refine cs_false (by kernel_rfl) ?_
  refine cs_seq ?_
  refine cs_region (l := [_, _, _, _, _, _, _, _, _, _, _, _]) ?_
  refine lv (.int .i64 a1) ?_
  refine lv (.bool (decide (a1 < (0 : Int)))) ?_
  refine lv (.bool (decide (a1 < (0 : Int)))) ?_
  by_cases q4 : a1 < (0 : Int)
  · replace H := ite_t q4 H
    refine ls_know (c := true) (dec_t q4) 11 (by kernel_rfl) ?_
    refine lofx 2 11 false true ?_
    refine lofx 2 11 false true ?_
    refine lofx 2 11 false true ?_
    refine lofx 2 11 false true ?_
    refine lofx 2 11 false true ?_
    refine lofx 2 11 false true ?_
    refine lofx 2 11 false true ?_
    refine lv (.bool true) ?_
    refine lv (.bool true) ?_
    refine ls_end ?_
    refine qn_then ?_
    refine cs_true (by kernel_rfl) ?_
    refine cs_seq ?_
    refine cs_region (l := [_]) ?_
    refine lv (.int .i64 (2 : Int)) ?_
    refine ls_end ?_
    refine qn_then ?_
    refine cs_ret' ?_
    refine qr_block ?_
    refine qr_then ?_
    obtain rfl := Option.some.inj H
    refine qr_res (rs := [_]) rfl (fun w' hs => ⟨[.int .i64 (2 : Int)], (res_tmp (by kernel_rfl) (.nil)), (), rfl, hs.pick (ts := [0, 1]) (cs := [Ck.var 34 pg0 (([Value.slice (some ⟨gl0_0, 0, none⟩) n0_0 c0_0] ++ ([Value.map (some r0_1)] ++ ([Value.bool v0.2.2.1] ++ ([Value.int .i64 v0.2.2.2.1] ++ [Value.bool v0.2.2.2.2]))))), Ck.mr T48 r0_1 gl0_0 c0_0 n0_0 w0_1]) ⟨by exact rfl, by exact rfl, trivial⟩ (by decide)⟩)
  replace H := ite_f q4 H
  refine ls_know (c := false) (dec_f q4) 11 (by kernel_rfl) ?_
  refine ls_on (j := 2) (t := 11) (b := false) rfl rfl (by kernel_rfl) (by kernel_rfl) ?_
  refine lv (.int .i64 a1) ?_
  refine ls_on (j := 2) (t := 11) (b := false) rfl rfl (by kernel_rfl) (by kernel_rfl) ?_
  refine lv (.pointer (some ⟨pg0, 0, none⟩)) ?_
  refine ls_on (j := 2) (t := 11) (b := false) rfl rfl (by kernel_rfl) (by kernel_rfl) ?_
  refine lv (.pointer (some ⟨pg0, 0, none⟩)) ?_
  refine ls_on (j := 2) (t := 11) (b := false) rfl rfl (by kernel_rfl) (by kernel_rfl) ?_
  refine lv (.pointer (some ⟨pg0, (0 + 0), none⟩)) ?_
  refine ls_on (j := 2) (t := 11) (b := false) rfl rfl (by kernel_rfl) (by kernel_rfl) ?_
  refine ls_mrn 1 (by exact rfl) (fun hn5 => ?_)
  refine ls_load (a0 := ⟨pg0, (0 + 0), none⟩) (v := .slice (some ⟨gl0_0, 0, none⟩) n0_0 c0_0) (de := (TypeDesc.slice 48)) rfl rfl (by kernel_rfl) rfl (by kernel_rfl) (by kernel_rfl) (by kernel_rfl) (fun w hs => (hs.var (k := 0) (by exact rfl) (Sub4.trans (Sub4.all _) (Sub4.head _ _)))) ?_
  refine ls_ren 16 (v := .slice (some ⟨gl0_0, 0, none⟩) n0_0 c0_0) (v' := .slice (some ⟨gl0_0, 0, none⟩) w0_1.2.length c0_0) (by kernel_rfl) (by rw [hn5]) ?_
  refine ls_on (j := 2) (t := 11) (b := false) rfl rfl (by kernel_rfl) (by kernel_rfl) ?_
  refine lv (.int .i64 (w0_1.2.length : Int)) ?_
  refine ls_on (j := 2) (t := 11) (b := false) rfl rfl (by kernel_rfl) (by kernel_rfl) ?_
  refine lv (.bool (decide (a1 ≥ (w0_1.2.length : Int)))) ?_
  refine lv (.bool (decide (a1 ≥ (w0_1.2.length : Int)))) ?_
  refine lv (.bool (decide (a1 ≥ (w0_1.2.length : Int)))) ?_
  refine ls_end ?_
  refine qn_then ?_
  by_cases q6 : a1 ≥ (w0_1.2.length : Int)
  · replace H := ite_t q6 H
    refine cs_know (c := true) (dec_t q6) 8 (by kernel_rfl) ?_
    refine cs_true (by kernel_rfl) ?_
    refine cs_seq ?_
    refine cs_region (l := [_]) ?_
    refine lv (.int .i64 (2 : Int)) ?_
    refine ls_end ?_
    refine qn_then ?_
    refine cs_ret' ?_
    refine qr_block ?_
    refine qr_then ?_
    obtain rfl := Option.some.inj H
    refine qr_res (rs := [_]) rfl (fun w' hs => ⟨[.int .i64 (2 : Int)], (res_tmp (by kernel_rfl) (.nil)), (), rfl, hs.pick (ts := [0, 1]) (cs := [Ck.var 34 pg0 (([Value.slice (some ⟨gl0_0, 0, none⟩) n0_0 c0_0] ++ ([Value.map (some r0_1)] ++ ([Value.bool v0.2.2.1] ++ ([Value.int .i64 v0.2.2.2.1] ++ [Value.bool v0.2.2.2.2]))))), Ck.mr T48 r0_1 gl0_0 c0_0 n0_0 w0_1]) ⟨by exact rfl, by exact rfl, trivial⟩ (by decide)⟩)
  replace H := ite_f q6 H
  refine cs_know (c := false) (dec_f q6) 8 (by kernel_rfl) ?_
  refine cs_false (by kernel_rfl) ?_
  refine cs_skip' ?_
  refine qn_block ?_
  refine qn_then ?_
  refine cs_seq ?_
  refine cs_region (l := [_]) ?_
  refine lv (.int .i64 (0 : Int)) ?_
  refine ls_end ?_
  refine qn_then ?_
  refine cs_ret' ?_
  obtain rfl := Option.some.inj H
  refine qr_res (rs := [_]) rfl (fun w' hs => ⟨[.int .i64 (0 : Int)], (res_tmp (by kernel_rfl) (.nil)), (), rfl, hs.pick (ts := [0, 1]) (cs := [Ck.var 34 pg0 (([Value.slice (some ⟨gl0_0, 0, none⟩) n0_0 c0_0] ++ ([Value.map (some r0_1)] ++ ([Value.bool v0.2.2.1] ++ ([Value.int .i64 v0.2.2.2.1] ++ [Value.bool v0.2.2.2.2]))))), Ck.mr T48 r0_1 gl0_0 c0_0 n0_0 w0_1]) ⟨by exact rfl, by exact rfl, trivial⟩ (by decide)⟩)

/-! ### (*shadowbox/disk.Disk).spend: function 16 -/
def disk_Disk_spend.f (k : Nat) (v0 : (Unit × Unit × Bool × Int × Bool)) (w0_1 : (List (Int × (Vc Int 512)) × List (Vc Int 512))) : Option (Int × (Unit × Unit × Bool × Int × Bool)) :=
  (if v0.2.2.2.2 = true then some ((17 : Int), ((), (), v0.2.2.1, v0.2.2.2.1, true)) else (if v0.2.2.1 = true then (if decide (v0.2.2.2.1 = (0 : Int)) = true then some ((17 : Int), ((), (), v0.2.2.1, v0.2.2.2.1, decide (v0.2.2.2.1 = (0 : Int)))) else lt (IntKind.wrap .i64 (v0.2.2.2.1 - (1 : Int))) fun y4 => some ((0 : Int), ((), (), v0.2.2.1, y4, decide (v0.2.2.2.1 = (0 : Int))))) else some ((0 : Int), ((), (), v0.2.2.1, v0.2.2.2.1, false))))
set_option maxRecDepth 100000 in
set_option maxHeartbeats 4000000 in
theorem disk_Disk_spend.calls (k : Nat) (pg0 : Nat) (gl0_0 : Nat) (n0_0 : Nat) (c0_0 : Nat) (r0_1 : Nat) (v0 : (Unit × Unit × Bool × Int × Bool)) (w0_1 : (List (Int × (Vc Int 512)) × List (Vc Int 512))) (r : Int × (Unit × Unit × Bool × Int × Bool)) (b : Bs) (hs0 : St b (stl [Ck.var 34 pg0 (([Value.slice (some ⟨gl0_0, 0, none⟩) n0_0 c0_0] ++ ([Value.map (some r0_1)] ++ ([Value.bool v0.2.2.1] ++ ([Value.int .i64 v0.2.2.2.1] ++ [Value.bool v0.2.2.2.2]))))), Ck.mr T48 r0_1 gl0_0 c0_0 n0_0 w0_1]) b.w) (H : disk_Disk_spend.f k v0 w0_1 = some r) :
    Calls Try.prog 16 #[.pointer (some ⟨pg0, 0, none⟩)] b.w fun e w' => ∃ x : Unit, e = .returned (.int .i64 r.1) ∧ St b (stl [Ck.var 34 pg0 (([Value.slice (some ⟨gl0_0, 0, none⟩) n0_0 c0_0] ++ ([Value.map (some r0_1)] ++ ([Value.bool r.2.2.2.1] ++ ([Value.int .i64 r.2.2.2.2.1] ++ [Value.bool r.2.2.2.2.2]))))), Ck.mr T48 r0_1 gl0_0 c0_0 n0_0 w0_1]) w' := by
  unfold disk_Disk_spend.f at H
  refine enterb (n := 38) Try.func16 rfl (by kernel_rfl) (by kernel_rfl) hs0 ?_
  refine cs_sub (sput (sput s0 0 (some (Ck.var 34 pg0 (([Value.slice (some ⟨gl0_0, 0, none⟩) n0_0 c0_0] ++ ([Value.map (some r0_1)] ++ ([Value.bool v0.2.2.1] ++ ([Value.int .i64 v0.2.2.2.1] ++ [Value.bool v0.2.2.2.2])))))))) 1 (some (Ck.mr T48 r0_1 gl0_0 c0_0 n0_0 w0_1))) (sub_put (by exact rfl) (sub_put (by exact rfl) (sub_nil _))) ?_
  refine cs_seq ?_
  refine cs_region (l := [_]) ?_
  refine lv (.int .i64 (0 : Int)) ?_
  refine ls_end ?_
  refine qn_then ?_
  refine cs_seq ?_
  refine cs_region (l := [_, _, _, _, _, _, _, _, _, _, _, _, _, _, _, _, _, _, _, _, _]) ?_
  refine lv (.pointer (some ⟨pg0, 0, none⟩)) ?_
  refine lv (.pointer (some ⟨pg0, 0, none⟩)) ?_
  refine lv (.pointer (some ⟨pg0, 0, none⟩)) ?_
  refine lv (.pointer (some ⟨pg0, (0 + 4), none⟩)) ?_
  refine ls_load (a0 := ⟨pg0, (0 + 4), none⟩) (v := .bool v0.2.2.2.2) (de := TypeDesc.bool) rfl rfl (by kernel_rfl) rfl (by kernel_rfl) (by kernel_rfl) (by kernel_rfl) (fun w hs => (hs.var (k := 0) (by exact rfl) (Sub4.trans (Sub4.all _) (Sub4.skip (n := 1) (len1 _) (Sub4.skip (n := 1) (len1 _) (Sub4.skip (n := 1) (len1 _) (Sub4.skip (n := 1) (len1 _) (Sub4.all _)))))))) ?_
  refine lv (.bool v0.2.2.2.2) ?_
  by_cases q1 : v0.2.2.2.2 = true
  · replace H := ite_t q1 H
    refine ls_know (c := true) (q1) 8 (by kernel_rfl) ?_
    refine lofx 5 8 false true ?_
    refine lofx 5 8 false true ?_
    refine lofx 5 8 false true ?_
    refine lofx 5 8 false true ?_
    refine lofx 5 8 false true ?_
    refine ls_offu (j := 10) (t := 13) (b := true) rfl rfl (by kernel_rfl) (by kernel_rfl) rfl (by kernel_rfl) ?_
    refine ls_offu (j := 10) (t := 13) (b := true) rfl rfl (by kernel_rfl) (by kernel_rfl) rfl (by kernel_rfl) ?_
    refine ls_offu (j := 10) (t := 13) (b := true) rfl rfl (by kernel_rfl) (by kernel_rfl) rfl (by kernel_rfl) ?_
    refine ls_offu (j := 10) (t := 13) (b := true) rfl rfl (by kernel_rfl) (by kernel_rfl) rfl (by kernel_rfl) ?_
    refine ls_offu (j := 10) (t := 13) (b := true) rfl rfl (by kernel_rfl) (by kernel_rfl) rfl (by kernel_rfl) ?_
    refine lofx 5 8 false true ?_
    refine lv (.bool true) ?_
    refine lv (.pointer (some ⟨pg0, 0, none⟩)) ?_
    refine lv (.pointer (some ⟨pg0, (0 + 4), none⟩)) ?_
    refine ls_storec (g := pg0) (off := (0 + 4)) (v := .bool true) (vs := [Value.bool true]) (cs := ([Value.slice (some ⟨gl0_0, 0, none⟩) n0_0 c0_0] ++ ([Value.map (some r0_1)] ++ ([Value.bool v0.2.2.1] ++ ([Value.int .i64 v0.2.2.2.1] ++ [Value.bool v0.2.2.2.2]))))) (ty := 34) 0 rfl rfl rfl (by kernel_rfl) (by kernel_rfl) (by kernel_rfl) (by exact rfl) (by kernel_rfl) (len1 _) (one_cons rfl one_nil) (hl_of (Sub4.trans (Sub4.all _) (Sub4.skip (n := 1) (len1 _) (Sub4.skip (n := 1) (len1 _) (Sub4.skip (n := 1) (len1 _) (Sub4.skip (n := 1) (len1 _) (Sub4.all _)))))) (len_eq (len1 _) (len1 _))) (cs' := ([Value.slice (some ⟨gl0_0, 0, none⟩) n0_0 c0_0] ++ ([Value.map (some r0_1)] ++ ([Value.bool v0.2.2.1] ++ ([Value.int .i64 v0.2.2.2.1] ++ [Value.bool true]))))) (splc_in (Sub4.all _) (splc_skip (n := 1) (len1 _) (splc_skip (n := 1) (len1 _) (splc_skip (n := 1) (len1 _) (splc_skip (n := 1) (len1 _) (splc_all (len_eq (len1 _) (len1 _))))))) (splc_all (len_eq (len_app (len1 _) (len_app (len1 _) (len_app (len1 _) (len_app (len1 _) (len1 _))))) (len_app (len1 _) (len_app (len1 _) (len_app (len1 _) (len_app (len1 _) (len1 _))))))) (hl_of (Sub4.skip (n := 1) (len1 _) (Sub4.skip (n := 1) (len1 _) (Sub4.skip (n := 1) (len1 _) (Sub4.skip (n := 1) (len1 _) (Sub4.all _))))) (len_eq (len1 _) (len1 _)))) ?_
    refine ls_end ?_
    refine qn_then ?_
    refine cs_seq ?_
    refine cs_seq ?_
    refine cs_region (l := [_, _, _, _]) ?_
    refine lv (.pointer (some ⟨pg0, 0, none⟩)) ?_
    refine lv (.pointer (some ⟨pg0, 0, none⟩)) ?_
    refine lv (.pointer (some ⟨pg0, (0 + 4), none⟩)) ?_
    refine ls_load (a0 := ⟨pg0, (0 + 4), none⟩) (v := .bool true) (de := TypeDesc.bool) rfl rfl (by kernel_rfl) rfl (by kernel_rfl) (by kernel_rfl) (by kernel_rfl) (fun w hs => (hs.var (k := 0) (by exact rfl) (Sub4.trans (Sub4.all _) (Sub4.skip (n := 1) (len1 _) (Sub4.skip (n := 1) (len1 _) (Sub4.skip (n := 1) (len1 _) (Sub4.skip (n := 1) (len1 _) (Sub4.all _)))))))) ?_
    refine ls_end ?_
    refine qn_then ?_
    refine cs_true (by kernel_rfl) ?_
    refine cs_seq ?_
    refine cs_region (l := [_]) ?_
    refine lv (.int .i64 (17 : Int)) ?_
    refine ls_end ?_
    refine qn_then ?_
    refine cs_ret' ?_
    refine qr_then ?_
    obtain rfl := Option.some.inj H
    refine qr_res (rs := [_]) rfl (fun w' hs => ⟨[.int .i64 (17 : Int)], (res_tmp (by kernel_rfl) (.nil)), (), rfl, hs.pick (ts := [0, 1]) (cs := [Ck.var 34 pg0 (([Value.slice (some ⟨gl0_0, 0, none⟩) n0_0 c0_0] ++ ([Value.map (some r0_1)] ++ ([Value.bool v0.2.2.1] ++ ([Value.int .i64 v0.2.2.2.1] ++ [Value.bool true]))))), Ck.mr T48 r0_1 gl0_0 c0_0 n0_0 w0_1]) ⟨by exact rfl, by exact rfl, trivial⟩ (by decide)⟩)
  replace H := ite_f q1 H
  refine ls_know (c := false) (Bool.eq_false_iff.mpr q1) 8 (by kernel_rfl) ?_
  refine ls_on (j := 5) (t := 8) (b := false) rfl rfl (by kernel_rfl) (by kernel_rfl) ?_
  refine lv (.pointer (some ⟨pg0, 0, none⟩)) ?_
  refine ls_on (j := 5) (t := 8) (b := false) rfl rfl (by kernel_rfl) (by kernel_rfl) ?_
  refine lv (.pointer (some ⟨pg0, 0, none⟩)) ?_
  refine ls_on (j := 5) (t := 8) (b := false) rfl rfl (by kernel_rfl) (by kernel_rfl) ?_
  refine lv (.pointer (some ⟨pg0, (0 + 2), none⟩)) ?_
  refine ls_on (j := 5) (t := 8) (b := false) rfl rfl (by kernel_rfl) (by kernel_rfl) ?_
  refine ls_load (a0 := ⟨pg0, (0 + 2), none⟩) (v := .bool v0.2.2.1) (de := TypeDesc.bool) rfl rfl (by kernel_rfl) rfl (by kernel_rfl) (by kernel_rfl) (by kernel_rfl) (fun w hs => (hs.var (k := 0) (by exact rfl) (Sub4.trans (Sub4.all _) (Sub4.skip (n := 1) (len1 _) (Sub4.skip (n := 1) (len1 _) (Sub4.head _ _)))))) ?_
  refine ls_on (j := 5) (t := 8) (b := false) rfl rfl (by kernel_rfl) (by kernel_rfl) ?_
  refine lv (.bool v0.2.2.1) ?_
  by_cases q2 : v0.2.2.1 = true
  · replace H := ite_t q2 H
    refine ls_know (c := true) (q2) 13 (by kernel_rfl) ?_
    refine ls_on (j := 10) (t := 13) (b := true) rfl rfl (by kernel_rfl) (by kernel_rfl) ?_
    refine lv (.pointer (some ⟨pg0, 0, none⟩)) ?_
    refine ls_on (j := 10) (t := 13) (b := true) rfl rfl (by kernel_rfl) (by kernel_rfl) ?_
    refine lv (.pointer (some ⟨pg0, 0, none⟩)) ?_
    refine ls_on (j := 10) (t := 13) (b := true) rfl rfl (by kernel_rfl) (by kernel_rfl) ?_
    refine lv (.pointer (some ⟨pg0, (0 + 3), none⟩)) ?_
    refine ls_on (j := 10) (t := 13) (b := true) rfl rfl (by kernel_rfl) (by kernel_rfl) ?_
    refine ls_load (a0 := ⟨pg0, (0 + 3), none⟩) (v := .int .i64 v0.2.2.2.1) (de := (TypeDesc.int .i64)) rfl rfl (by kernel_rfl) rfl (by kernel_rfl) (by kernel_rfl) (by kernel_rfl) (fun w hs => (hs.var (k := 0) (by exact rfl) (Sub4.trans (Sub4.all _) (Sub4.skip (n := 1) (len1 _) (Sub4.skip (n := 1) (len1 _) (Sub4.skip (n := 1) (len1 _) (Sub4.head _ _))))))) ?_
    refine ls_on (j := 10) (t := 13) (b := true) rfl rfl (by kernel_rfl) (by kernel_rfl) ?_
    refine lv (.bool (decide (v0.2.2.2.1 = (0 : Int)))) ?_
    refine ls_on (j := 5) (t := 8) (b := false) rfl rfl (by kernel_rfl) (by kernel_rfl) ?_
    refine lv (.bool (decide (v0.2.2.2.1 = (0 : Int)))) ?_
    refine lv (.bool (decide (v0.2.2.2.1 = (0 : Int)))) ?_
    refine lv (.pointer (some ⟨pg0, 0, none⟩)) ?_
    refine lv (.pointer (some ⟨pg0, (0 + 4), none⟩)) ?_
    refine ls_storec (g := pg0) (off := (0 + 4)) (v := .bool (decide (v0.2.2.2.1 = (0 : Int)))) (vs := [Value.bool (decide (v0.2.2.2.1 = (0 : Int)))]) (cs := ([Value.slice (some ⟨gl0_0, 0, none⟩) n0_0 c0_0] ++ ([Value.map (some r0_1)] ++ ([Value.bool v0.2.2.1] ++ ([Value.int .i64 v0.2.2.2.1] ++ [Value.bool v0.2.2.2.2]))))) (ty := 34) 0 rfl rfl rfl (by kernel_rfl) (by kernel_rfl) (by kernel_rfl) (by exact rfl) (by kernel_rfl) (len1 _) (one_cons rfl one_nil) (hl_of (Sub4.trans (Sub4.all _) (Sub4.skip (n := 1) (len1 _) (Sub4.skip (n := 1) (len1 _) (Sub4.skip (n := 1) (len1 _) (Sub4.skip (n := 1) (len1 _) (Sub4.all _)))))) (len_eq (len1 _) (len1 _))) (cs' := ([Value.slice (some ⟨gl0_0, 0, none⟩) n0_0 c0_0] ++ ([Value.map (some r0_1)] ++ ([Value.bool v0.2.2.1] ++ ([Value.int .i64 v0.2.2.2.1] ++ [Value.bool (decide (v0.2.2.2.1 = (0 : Int)))]))))) (splc_in (Sub4.all _) (splc_skip (n := 1) (len1 _) (splc_skip (n := 1) (len1 _) (splc_skip (n := 1) (len1 _) (splc_skip (n := 1) (len1 _) (splc_all (len_eq (len1 _) (len1 _))))))) (splc_all (len_eq (len_app (len1 _) (len_app (len1 _) (len_app (len1 _) (len_app (len1 _) (len1 _))))) (len_app (len1 _) (len_app (len1 _) (len_app (len1 _) (len_app (len1 _) (len1 _))))))) (hl_of (Sub4.skip (n := 1) (len1 _) (Sub4.skip (n := 1) (len1 _) (Sub4.skip (n := 1) (len1 _) (Sub4.skip (n := 1) (len1 _) (Sub4.all _))))) (len_eq (len1 _) (len1 _)))) ?_
    refine ls_end ?_
    refine qn_then ?_
    refine cs_seq ?_
    refine cs_seq ?_
    refine cs_region (l := [_, _, _, _]) ?_
    refine lv (.pointer (some ⟨pg0, 0, none⟩)) ?_
    refine lv (.pointer (some ⟨pg0, 0, none⟩)) ?_
    refine lv (.pointer (some ⟨pg0, (0 + 4), none⟩)) ?_
    refine ls_load (a0 := ⟨pg0, (0 + 4), none⟩) (v := .bool (decide (v0.2.2.2.1 = (0 : Int)))) (de := TypeDesc.bool) rfl rfl (by kernel_rfl) rfl (by kernel_rfl) (by kernel_rfl) (by kernel_rfl) (fun w hs => (hs.var (k := 0) (by exact rfl) (Sub4.trans (Sub4.all _) (Sub4.skip (n := 1) (len1 _) (Sub4.skip (n := 1) (len1 _) (Sub4.skip (n := 1) (len1 _) (Sub4.skip (n := 1) (len1 _) (Sub4.all _)))))))) ?_
    refine ls_end ?_
    refine qn_then ?_
    by_cases q3 : decide (v0.2.2.2.1 = (0 : Int)) = true
    · replace H := ite_t q3 H
      refine cs_know (c := true) (q3) 26 (by kernel_rfl) ?_
      refine cs_true (by kernel_rfl) ?_
      refine cs_seq ?_
      refine cs_region (l := [_]) ?_
      refine lv (.int .i64 (17 : Int)) ?_
      refine ls_end ?_
      refine qn_then ?_
      refine cs_ret' ?_
      refine qr_then ?_
      obtain rfl := Option.some.inj H
      refine qr_res (rs := [_]) rfl (fun w' hs => ⟨[.int .i64 (17 : Int)], (res_tmp (by kernel_rfl) (.nil)), (), rfl, hs.pick (ts := [0, 1]) (cs := [Ck.var 34 pg0 (([Value.slice (some ⟨gl0_0, 0, none⟩) n0_0 c0_0] ++ ([Value.map (some r0_1)] ++ ([Value.bool v0.2.2.1] ++ ([Value.int .i64 v0.2.2.2.1] ++ [Value.bool (decide (v0.2.2.2.1 = (0 : Int)))]))))), Ck.mr T48 r0_1 gl0_0 c0_0 n0_0 w0_1]) ⟨by exact rfl, by exact rfl, trivial⟩ (by decide)⟩)
    replace H := ite_f q3 H
    refine cs_know (c := false) (Bool.eq_false_iff.mpr q3) 26 (by kernel_rfl) ?_
    refine cs_false (by kernel_rfl) ?_
    refine cs_skip' ?_
    refine qn_then ?_
    refine cs_seq ?_
    refine cs_seq ?_
    refine cs_region (l := [_, _, _, _]) ?_
    refine lv (.pointer (some ⟨pg0, 0, none⟩)) ?_
    refine lv (.pointer (some ⟨pg0, 0, none⟩)) ?_
    refine lv (.pointer (some ⟨pg0, (0 + 2), none⟩)) ?_
    refine ls_load (a0 := ⟨pg0, (0 + 2), none⟩) (v := .bool v0.2.2.1) (de := TypeDesc.bool) rfl rfl (by kernel_rfl) rfl (by kernel_rfl) (by kernel_rfl) (by kernel_rfl) (fun w hs => (hs.var (k := 0) (by exact rfl) (Sub4.trans (Sub4.all _) (Sub4.skip (n := 1) (len1 _) (Sub4.skip (n := 1) (len1 _) (Sub4.head _ _)))))) ?_
    refine ls_end ?_
    refine qn_then ?_
    refine cs_know (c := true) (q2) 30 (by kernel_rfl) ?_
    refine cs_true (by kernel_rfl) ?_
    refine cs_region (l := [_, _, _, _, _, _, _, _]) ?_
    refine lv (.pointer (some ⟨pg0, 0, none⟩)) ?_
    refine lv (.pointer (some ⟨pg0, 0, none⟩)) ?_
    refine lv (.pointer (some ⟨pg0, (0 + 3), none⟩)) ?_
    refine ls_load (a0 := ⟨pg0, (0 + 3), none⟩) (v := .int .i64 v0.2.2.2.1) (de := (TypeDesc.int .i64)) rfl rfl (by kernel_rfl) rfl (by kernel_rfl) (by kernel_rfl) (by kernel_rfl) (fun w hs => (hs.var (k := 0) (by exact rfl) (Sub4.trans (Sub4.all _) (Sub4.skip (n := 1) (len1 _) (Sub4.skip (n := 1) (len1 _) (Sub4.skip (n := 1) (len1 _) (Sub4.head _ _))))))) ?_
    obtain ⟨y4, hy5, H⟩ := lt_some H
    refine lv (.int .i64 (IntKind.wrap .i64 (v0.2.2.2.1 - (1 : Int)))) ?_
    refine ls_ren 35 (v := .int .i64 (IntKind.wrap .i64 (v0.2.2.2.1 - (1 : Int)))) (v' := .int .i64 y4) (by kernel_rfl) (by rw [hy5]) ?_
    refine lv (.pointer (some ⟨pg0, 0, none⟩)) ?_
    refine lv (.pointer (some ⟨pg0, (0 + 3), none⟩)) ?_
    refine ls_storec (g := pg0) (off := (0 + 3)) (v := .int .i64 y4) (vs := [Value.int .i64 y4]) (cs := ([Value.slice (some ⟨gl0_0, 0, none⟩) n0_0 c0_0] ++ ([Value.map (some r0_1)] ++ ([Value.bool v0.2.2.1] ++ ([Value.int .i64 v0.2.2.2.1] ++ [Value.bool (decide (v0.2.2.2.1 = (0 : Int)))]))))) (ty := 34) 0 rfl rfl rfl (by kernel_rfl) (by kernel_rfl) (by kernel_rfl) (by exact rfl) (by kernel_rfl) (len1 _) (one_cons rfl one_nil) (hl_of (Sub4.trans (Sub4.all _) (Sub4.skip (n := 1) (len1 _) (Sub4.skip (n := 1) (len1 _) (Sub4.skip (n := 1) (len1 _) (Sub4.head _ _))))) (len_eq (len1 _) (len1 _))) (cs' := ([Value.slice (some ⟨gl0_0, 0, none⟩) n0_0 c0_0] ++ ([Value.map (some r0_1)] ++ ([Value.bool v0.2.2.1] ++ ([Value.int .i64 y4] ++ [Value.bool (decide (v0.2.2.2.1 = (0 : Int)))]))))) (splc_in (Sub4.all _) (splc_skip (n := 1) (len1 _) (splc_skip (n := 1) (len1 _) (splc_skip (n := 1) (len1 _) (splc_head (len_eq (len1 _) (len1 _)))))) (splc_all (len_eq (len_app (len1 _) (len_app (len1 _) (len_app (len1 _) (len_app (len1 _) (len1 _))))) (len_app (len1 _) (len_app (len1 _) (len_app (len1 _) (len_app (len1 _) (len1 _))))))) (hl_of (Sub4.skip (n := 1) (len1 _) (Sub4.skip (n := 1) (len1 _) (Sub4.skip (n := 1) (len1 _) (Sub4.head _ _)))) (len_eq (len1 _) (len1 _)))) ?_
    refine ls_end ?_
    refine qn_then ?_
    refine cs_seq ?_
    refine cs_region (l := [_]) ?_
    refine lv (.int .i64 (0 : Int)) ?_
    refine ls_end ?_
    refine qn_then ?_
    refine cs_ret' ?_
    obtain rfl := Option.some.inj H
    refine qr_res (rs := [_]) rfl (fun w' hs => ⟨[.int .i64 (0 : Int)], (res_tmp (by kernel_rfl) (.nil)), (), rfl, hs.pick (ts := [0, 1]) (cs := [Ck.var 34 pg0 (([Value.slice (some ⟨gl0_0, 0, none⟩) n0_0 c0_0] ++ ([Value.map (some r0_1)] ++ ([Value.bool v0.2.2.1] ++ ([Value.int .i64 y4] ++ [Value.bool (decide (v0.2.2.2.1 = (0 : Int)))]))))), Ck.mr T48 r0_1 gl0_0 c0_0 n0_0 w0_1]) ⟨by exact rfl, by exact rfl, trivial⟩ (by decide)⟩)
  replace H := ite_f q2 H
  refine ls_know (c := false) (Bool.eq_false_iff.mpr q2) 13 (by kernel_rfl) ?_
  refine lofx 10 13 true false ?_
  refine lofx 10 13 true false ?_
  refine lofx 10 13 true false ?_
  refine lofx 10 13 true false ?_
  refine lofx 10 13 true false ?_
  refine ls_on (j := 5) (t := 8) (b := false) rfl rfl (by kernel_rfl) (by kernel_rfl) ?_
  refine lv (.bool false) ?_
  refine lv (.bool false) ?_
  refine lv (.pointer (some ⟨pg0, 0, none⟩)) ?_
  refine lv (.pointer (some ⟨pg0, (0 + 4), none⟩)) ?_
  refine ls_storec (g := pg0) (off := (0 + 4)) (v := .bool false) (vs := [Value.bool false]) (cs := ([Value.slice (some ⟨gl0_0, 0, none⟩) n0_0 c0_0] ++ ([Value.map (some r0_1)] ++ ([Value.bool v0.2.2.1] ++ ([Value.int .i64 v0.2.2.2.1] ++ [Value.bool v0.2.2.2.2]))))) (ty := 34) 0 rfl rfl rfl (by kernel_rfl) (by kernel_rfl) (by kernel_rfl) (by exact rfl) (by kernel_rfl) (len1 _) (one_cons rfl one_nil) (hl_of (Sub4.trans (Sub4.all _) (Sub4.skip (n := 1) (len1 _) (Sub4.skip (n := 1) (len1 _) (Sub4.skip (n := 1) (len1 _) (Sub4.skip (n := 1) (len1 _) (Sub4.all _)))))) (len_eq (len1 _) (len1 _))) (cs' := ([Value.slice (some ⟨gl0_0, 0, none⟩) n0_0 c0_0] ++ ([Value.map (some r0_1)] ++ ([Value.bool v0.2.2.1] ++ ([Value.int .i64 v0.2.2.2.1] ++ [Value.bool false]))))) (splc_in (Sub4.all _) (splc_skip (n := 1) (len1 _) (splc_skip (n := 1) (len1 _) (splc_skip (n := 1) (len1 _) (splc_skip (n := 1) (len1 _) (splc_all (len_eq (len1 _) (len1 _))))))) (splc_all (len_eq (len_app (len1 _) (len_app (len1 _) (len_app (len1 _) (len_app (len1 _) (len1 _))))) (len_app (len1 _) (len_app (len1 _) (len_app (len1 _) (len_app (len1 _) (len1 _))))))) (hl_of (Sub4.skip (n := 1) (len1 _) (Sub4.skip (n := 1) (len1 _) (Sub4.skip (n := 1) (len1 _) (Sub4.skip (n := 1) (len1 _) (Sub4.all _))))) (len_eq (len1 _) (len1 _)))) ?_
  refine ls_end ?_
  refine qn_then ?_
  refine cs_seq ?_
  refine cs_seq ?_
  refine cs_region (l := [_, _, _, _]) ?_
  refine lv (.pointer (some ⟨pg0, 0, none⟩)) ?_
  refine lv (.pointer (some ⟨pg0, 0, none⟩)) ?_
  refine lv (.pointer (some ⟨pg0, (0 + 4), none⟩)) ?_
  refine ls_load (a0 := ⟨pg0, (0 + 4), none⟩) (v := .bool false) (de := TypeDesc.bool) rfl rfl (by kernel_rfl) rfl (by kernel_rfl) (by kernel_rfl) (by kernel_rfl) (fun w hs => (hs.var (k := 0) (by exact rfl) (Sub4.trans (Sub4.all _) (Sub4.skip (n := 1) (len1 _) (Sub4.skip (n := 1) (len1 _) (Sub4.skip (n := 1) (len1 _) (Sub4.skip (n := 1) (len1 _) (Sub4.all _)))))))) ?_
  refine ls_end ?_
  refine qn_then ?_
  refine cs_false (by kernel_rfl) ?_
  refine cs_skip' ?_
  refine qn_then ?_
  refine cs_seq ?_
  refine cs_seq ?_
  refine cs_region (l := [_, _, _, _]) ?_
  refine lv (.pointer (some ⟨pg0, 0, none⟩)) ?_
  refine lv (.pointer (some ⟨pg0, 0, none⟩)) ?_
  refine lv (.pointer (some ⟨pg0, (0 + 2), none⟩)) ?_
  refine ls_load (a0 := ⟨pg0, (0 + 2), none⟩) (v := .bool v0.2.2.1) (de := TypeDesc.bool) rfl rfl (by kernel_rfl) rfl (by kernel_rfl) (by kernel_rfl) (by kernel_rfl) (fun w hs => (hs.var (k := 0) (by exact rfl) (Sub4.trans (Sub4.all _) (Sub4.skip (n := 1) (len1 _) (Sub4.skip (n := 1) (len1 _) (Sub4.head _ _)))))) ?_
  refine ls_end ?_
  refine qn_then ?_
  refine cs_know (c := false) (Bool.eq_false_iff.mpr q2) 30 (by kernel_rfl) ?_
  refine cs_false (by kernel_rfl) ?_
  refine cs_skip' ?_
  refine qn_then ?_
  refine cs_seq ?_
  refine cs_region (l := [_]) ?_
  refine lv (.int .i64 (0 : Int)) ?_
  refine ls_end ?_
  refine qn_then ?_
  refine cs_ret' ?_
  obtain rfl := Option.some.inj H
  refine qr_res (rs := [_]) rfl (fun w' hs => ⟨[.int .i64 (0 : Int)], (res_tmp (by kernel_rfl) (.nil)), (), rfl, hs.pick (ts := [0, 1]) (cs := [Ck.var 34 pg0 (([Value.slice (some ⟨gl0_0, 0, none⟩) n0_0 c0_0] ++ ([Value.map (some r0_1)] ++ ([Value.bool v0.2.2.1] ++ ([Value.int .i64 v0.2.2.2.1] ++ [Value.bool false]))))), Ck.mr T48 r0_1 gl0_0 c0_0 n0_0 w0_1]) ⟨by exact rfl, by exact rfl, trivial⟩ (by decide)⟩)

/-! ### (*shadowbox/disk.Disk).Write: function 8 -/
def disk_Disk_Write.tab13 : List (List Nat) := [[], [0], [0, 1], [0, 1, 2], [], [], [0, 1, 2, 3, 4, 5]]
def disk_Disk_Write.tab22 : List (List Nat) := [[], [0], [0, 1], [0, 1, 2], [], [], [0, 1, 2, 3, 4, 5]]
def disk_Disk_Write.f (k : Nat) (v0 : (Unit × Unit × Bool × Int × Bool)) (w0_1 : (List (Int × (Vc Int 512)) × List (Vc Int 512))) (a1 : Int) (l2 : List Int) : Option (Int × (Unit × Unit × Bool × Int × Bool) × (List (Int × (Vc Int 512)) × List (Vc Int 512))) :=
  (disk_Disk_check.f k ((), (), v0.2.2.1, v0.2.2.2.1, v0.2.2.2.2) w0_1 a1).bind fun t1 => (if t1 = (0 : Int) then (if (l2.length : Int) > (512 : Int) then (if (3 : Int) = (0 : Int) then (disk_Disk_spend.f k ((), (), v0.2.2.1, v0.2.2.2.1, v0.2.2.2.2) w0_1).bind fun t7 => (if t7.1 = (0 : Int) then lt (vcopy (vrep 512 (0 : Int)) l2) fun y12 => some ((0 : Int), ((), (), t7.2.2.2.1, t7.2.2.2.2.1, t7.2.2.2.2.2), (mput a1 y12 w0_1.1, w0_1.2)) else some (t7.1, ((), (), t7.2.2.2.1, t7.2.2.2.2.1, t7.2.2.2.2.2), w0_1)) else some ((3 : Int), ((), (), v0.2.2.1, v0.2.2.2.1, v0.2.2.2.2), w0_1)) else (disk_Disk_spend.f k ((), (), v0.2.2.1, v0.2.2.2.1, v0.2.2.2.2) w0_1).bind fun t16 => (if t16.1 = (0 : Int) then lt (vcopy (vrep 512 (0 : Int)) l2) fun y21 => some ((0 : Int), ((), (), t16.2.2.2.1, t16.2.2.2.2.1, t16.2.2.2.2.2), (mput a1 y21 w0_1.1, w0_1.2)) else some (t16.1, ((), (), t16.2.2.2.1, t16.2.2.2.2.1, t16.2.2.2.2.2), w0_1))) else some (t1, ((), (), v0.2.2.1, v0.2.2.2.1, v0.2.2.2.2), w0_1))
set_option maxRecDepth 100000 in
set_option maxHeartbeats 4000000 in
theorem disk_Disk_Write.calls (k : Nat) (pg0 : Nat) (gl0_0 : Nat) (n0_0 : Nat) (c0_0 : Nat) (r0_1 : Nat) (v0 : (Unit × Unit × Bool × Int × Bool)) (w0_1 : (List (Int × (Vc Int 512)) × List (Vc Int 512))) (a1 : Int) (A2 : Option Addr) (c2 : Nat) (l2 : List Int) (r : Int × (Unit × Unit × Bool × Int × Bool) × (List (Int × (Vc Int 512)) × List (Vc Int 512))) (b : Bs) (hs0 : St b (stl [Ck.var 34 pg0 (([Value.slice (some ⟨gl0_0, 0, none⟩) n0_0 c0_0] ++ ([Value.map (some r0_1)] ++ ([Value.bool v0.2.2.1] ++ ([Value.int .i64 v0.2.2.2.1] ++ [Value.bool v0.2.2.2.2]))))), Ck.mr T48 r0_1 gl0_0 c0_0 n0_0 w0_1]) b.w) (R2 : Ro b A2 (em (Ec.int 5 .u8) l2)) (C2 : l2.length ≤ c2) (H : disk_Disk_Write.f k v0 w0_1 a1 l2 = some r) :
    Calls Try.prog 8 #[.pointer (some ⟨pg0, 0, none⟩), .int .i64 a1, .slice A2 l2.length c2] b.w fun e w' => ∃ x : Unit, e = .returned (.int .i64 r.1) ∧ St b (stl [Ck.var 34 pg0 (([Value.slice (some ⟨gl0_0, 0, none⟩) n0_0 c0_0] ++ ([Value.map (some r0_1)] ++ ([Value.bool r.2.1.2.2.1] ++ ([Value.int .i64 r.2.1.2.2.2.1] ++ [Value.bool r.2.1.2.2.2.2]))))), Ck.mr T48 r0_1 gl0_0 c0_0 n0_0 r.2.2]) w' := by
  unfold disk_Disk_Write.f at H
  refine enterb (n := 35) Try.func8 rfl (by kernel_rfl) (by kernel_rfl) hs0 ?_
  refine cs_sub (sput (sput s0 0 (some (Ck.var 34 pg0 (([Value.slice (some ⟨gl0_0, 0, none⟩) n0_0 c0_0] ++ ([Value.map (some r0_1)] ++ ([Value.bool v0.2.2.1] ++ ([Value.int .i64 v0.2.2.2.1] ++ [Value.bool v0.2.2.2.2])))))))) 1 (some (Ck.mr T48 r0_1 gl0_0 c0_0 n0_0 w0_1))) (sub_put (by exact rfl) (sub_put (by exact rfl) (sub_nil _))) ?_
  refine cs_seq ?_
  refine cs_region (l := [_]) ?_
  refine lv (.int .i64 (0 : Int)) ?_
  refine ls_end ?_
  refine qn_then ?_
  refine cs_seq ?_
  refine cs_region (l := [_, _, _, _]) ?_
  refine lv (.pointer (some ⟨pg0, 0, none⟩)) ?_
  refine lv (.int .i64 a1) ?_
  obtain ⟨t1, hc2, H⟩ := bind_some H
  refine ls_callb (fid := 15) (vals := #[.pointer (some ⟨pg0, 0, none⟩), .int .i64 a1]) (X := Unit) (fun x => .int .i64 t1) (fun x => stl [Ck.var 34 pg0 (([Value.slice (some ⟨gl0_0, 0, none⟩) n0_0 c0_0] ++ ([Value.map (some r0_1)] ++ ([Value.bool v0.2.2.1] ++ ([Value.int .i64 v0.2.2.2.1] ++ [Value.bool v0.2.2.2.2]))))), Ck.mr T48 r0_1 gl0_0 c0_0 n0_0 w0_1]) [0, 1] [] [Ck.var 34 pg0 (([Value.slice (some ⟨gl0_0, 0, none⟩) n0_0 c0_0] ++ ([Value.map (some r0_1)] ++ ([Value.bool v0.2.2.1] ++ ([Value.int .i64 v0.2.2.2.1] ++ [Value.bool v0.2.2.2.2]))))), Ck.mr T48 r0_1 gl0_0 c0_0 n0_0 w0_1] [] 2 rfl rfl (by kernel_rfl) (fun w => by kernel_rfl) ⟨by exact rfl, by exact rfl, trivial⟩ trivial (by decide) (fun w hs hb => disk_Disk_check.calls k pg0 gl0_0 n0_0 c0_0 r0_1 ((), (), v0.2.2.1, v0.2.2.2.1, v0.2.2.2.2) w0_1 a1 t1 (lent b w [Ck.var 34 pg0 (([Value.slice (some ⟨gl0_0, 0, none⟩) n0_0 c0_0] ++ ([Value.map (some r0_1)] ++ ([Value.bool v0.2.2.1] ++ ([Value.int .i64 v0.2.2.2.1] ++ [Value.bool v0.2.2.2.2]))))), Ck.mr T48 r0_1 gl0_0 c0_0 n0_0 w0_1] []) hb  hc2) ?_
  intro x3
  refine lv (.int .i64 t1) ?_
  refine ls_end ?_
  refine qn_then ?_
  refine cs_seq ?_
  refine cs_seq ?_
  refine cs_region (l := [_, _, _, _, _, _, _]) ?_
  refine lv (.int .i64 t1) ?_
  refine lv (.bool (decide (t1 = (0 : Int)))) ?_
  refine lv (.bool (decide (t1 = (0 : Int)))) ?_
  by_cases q4 : t1 = (0 : Int)
  · replace H := ite_t q4 H
    refine ls_know (c := true) (dec_t q4) 14 (by kernel_rfl) ?_
    refine ls_on (j := 2) (t := 14) (b := true) rfl rfl (by kernel_rfl) (by kernel_rfl) ?_
    refine lv (.slice A2 l2.length c2) ?_
    refine ls_on (j := 2) (t := 14) (b := true) rfl rfl (by kernel_rfl) (by kernel_rfl) ?_
    refine lv (.int .i64 (l2.length : Int)) ?_
    refine ls_on (j := 2) (t := 14) (b := true) rfl rfl (by kernel_rfl) (by kernel_rfl) ?_
    refine lv (.bool (decide ((l2.length : Int) > (512 : Int)))) ?_
    refine lv (.bool (decide ((l2.length : Int) > (512 : Int)))) ?_
    refine ls_end ?_
    refine qn_then ?_
    by_cases q5 : (l2.length : Int) > (512 : Int)
    · replace H := ite_t q5 H
      refine cs_know (c := true) (dec_t q5) 18 (by kernel_rfl) ?_
      refine cs_true (by kernel_rfl) ?_
      refine cs_region (l := [_]) ?_
      refine lv (.int .i64 (3 : Int)) ?_
      refine ls_end ?_
      refine qn_then ?_
      refine cs_seq ?_
      refine cs_seq ?_
      refine cs_region (l := [_, _]) ?_
      refine lv (.int .i64 (3 : Int)) ?_
      refine lv (.bool (decide ((3 : Int) = (0 : Int)))) ?_
      refine ls_end ?_
      refine qn_then ?_
      by_cases q6 : (3 : Int) = (0 : Int)
      · replace H := ite_t q6 H
        refine cs_know (c := true) (dec_t q6) 20 (by kernel_rfl) ?_
        refine cs_true (by kernel_rfl) ?_
        refine cs_region (l := [_, _, _]) ?_
        refine lv (.pointer (some ⟨pg0, 0, none⟩)) ?_
        obtain ⟨t7, hc8, H⟩ := bind_some H
        refine ls_callb (fid := 16) (vals := #[.pointer (some ⟨pg0, 0, none⟩)]) (X := Unit) (fun x => .int .i64 t7.1) (fun x => stl [Ck.var 34 pg0 (([Value.slice (some ⟨gl0_0, 0, none⟩) n0_0 c0_0] ++ ([Value.map (some r0_1)] ++ ([Value.bool t7.2.2.2.1] ++ ([Value.int .i64 t7.2.2.2.2.1] ++ [Value.bool t7.2.2.2.2.2]))))), Ck.mr T48 r0_1 gl0_0 c0_0 n0_0 w0_1]) [0, 1] [] [Ck.var 34 pg0 (([Value.slice (some ⟨gl0_0, 0, none⟩) n0_0 c0_0] ++ ([Value.map (some r0_1)] ++ ([Value.bool v0.2.2.1] ++ ([Value.int .i64 v0.2.2.2.1] ++ [Value.bool v0.2.2.2.2]))))), Ck.mr T48 r0_1 gl0_0 c0_0 n0_0 w0_1] [] 2 rfl rfl (by kernel_rfl) (fun w => by kernel_rfl) ⟨by exact rfl, by exact rfl, trivial⟩ trivial (by decide) (fun w hs hb => disk_Disk_spend.calls k pg0 gl0_0 n0_0 c0_0 r0_1 ((), (), v0.2.2.1, v0.2.2.2.1, v0.2.2.2.2) w0_1 t7 (lent b w [Ck.var 34 pg0 (([Value.slice (some ⟨gl0_0, 0, none⟩) n0_0 c0_0] ++ ([Value.map (some r0_1)] ++ ([Value.bool v0.2.2.1] ++ ([Value.int .i64 v0.2.2.2.1] ++ [Value.bool v0.2.2.2.2]))))), Ck.mr T48 r0_1 gl0_0 c0_0 n0_0 w0_1] []) hb  hc8) ?_
        intro x9
        refine lv (.int .i64 t7.1) ?_
        refine ls_end ?_
        refine qn_then ?_
        refine cs_seq ?_
        refine cs_seq ?_
        refine cs_region (l := [_, _]) ?_
        refine lv (.int .i64 t7.1) ?_
        refine lv (.bool (!decide (t7.1 = (0 : Int)))) ?_
        refine ls_end ?_
        refine qn_then ?_
        by_cases q10 : t7.1 = (0 : Int)
        · replace H := ite_t q10 H
          refine cs_know (c := false) (congrArg Bool.not (dec_t q10)) 24 (by kernel_rfl) ?_
          refine cs_false (by kernel_rfl) ?_
          refine cs_skip' ?_
          refine qn_then ?_
          refine cs_seq ?_
          refine cs_region (l := [_]) ?_
          refine ls_new rfl rfl (by kernel_rfl) 2 (fun g => .pointer (some ⟨g, 0, none⟩)) (.cells ⟨en (Value.int .u8) (vrep 512 (0 : Int)).1⟩ 48) (fun w => by kernel_rfl) ?_
          intro g11
          refine ls_end ?_
          refine qn_then ?_
          refine cs_seq ?_
          refine cs_region (l := [_, _, _]) ?_
          refine ls_val (v := .slice (some ⟨g11, 0, none⟩) (vrep 512 (0 : Int)).1.length 512) rfl rfl (by kernel_rfl) (fun w => by rw [show (vrep 512 (0 : Int)).1.length = 512 from (vrep 512 (0 : Int)).2]; kernel_rfl) ?_
          refine lv (.slice A2 l2.length c2) ?_
          obtain ⟨y12, hy13, H⟩ := lt_some H
          refine ls_copyv (Value.int .u8) (g := g11) (off := 0) (N := 512) (cx := 512) (B := A2) (cb := c2) (l := l2) (v := (vrep 512 (0 : Int))) (cs := en (Value.int .u8) (vrep 512 (0 : Int)).1) (ty := 48) (e := 5) 2 rfl rfl (by rw [show (vrep 512 (0 : Int)).1.length = 512 from (vrep 512 (0 : Int)).2]; kernel_rfl) (by kernel_rfl) (by exact rfl) (by kernel_rfl) (by kernel_rfl) (fun w hs => Rd.toen (t := 5) (hs.old R2)) (fun _ => rfl) (Sub4.all _) (cs' := en (Value.int .u8) (vcopy (vrep 512 (0 : Int)) l2).1) (splc_all (len_eq (len_en _ (vcopy (vrep 512 (0 : Int)) l2)) (len_en _ (vrep 512 (0 : Int))))) rfl (by kernel_rfl) ?_
          rw [hy13]
          refine ls_end ?_
          refine qn_then ?_
          refine cs_seq ?_
          obtain ⟨s15_0, hs15_0⟩ := exv (.pointer (some ⟨pg0, 0, none⟩))
          refine have_opa disk_Disk_Write.tab13 3 0 (fun sp => sp 0 = s15_0) (fun sp on hA hon => ?_) (fun ops15_0 => ?_)
          · refine ⟨fun o ho vs Rs f' S' w hp hf hx hS hR hs => ?_⟩
            obtain rfl := Option.some.inj ho
            exact opv (.pointer (some ⟨pg0, 0, none⟩)) hA hs15_0 hon (fr_next (rfl) ((hx 0 (by kernel_rfl)).trans (by kernel_rfl : (_ : Value) = .pointer (some ⟨pg0, 0, none⟩))))
          obtain ⟨s15_1, hs15_1⟩ := exv (.pointer (some ⟨pg0, 0, none⟩))
          refine have_opa disk_Disk_Write.tab13 3 1 (fun sp => sp 1 = s15_1 ∧ sp 0 = s15_0) (fun sp on hA hon => ?_) (fun ops15_1 => ?_)
          · refine ⟨fun o ho vs Rs f' S' w hp hf hx hS hR hs => ?_⟩
            obtain rfl := Option.some.inj ho
            obtain ⟨hv0, hR0⟩ := (spe hA.2 hs15_0 (hp 0 (by kernel_rfl)))
            exact opv (.pointer (some ⟨pg0, 0, none⟩)) hA.1 hs15_1 hon (fr_next (rfl) ((hf 0 29 (by kernel_rfl) rfl).trans hv0))
          obtain ⟨s15_2, hs15_2⟩ := exv (.pointer (some ⟨pg0, (0 + 1), none⟩))
          refine have_opa disk_Disk_Write.tab13 3 2 (fun sp => sp 2 = s15_2 ∧ sp 1 = s15_1) (fun sp on hA hon => ?_) (fun ops15_2 => ?_)
          · refine ⟨fun o ho vs Rs f' S' w hp hf hx hS hR hs => ?_⟩
            obtain rfl := Option.some.inj ho
            obtain ⟨hv1, hR1⟩ := (spe hA.2 hs15_1 (hp 1 (by kernel_rfl)))
            exact opv (.pointer (some ⟨pg0, (0 + 1), none⟩)) hA.1 hs15_2 hon (fr_next (rfl) ((hf 1 30 (by kernel_rfl) rfl).trans hv1))
          obtain ⟨s15_3, hs15_3⟩ := exv (.map (some r0_1))
          refine have_opa disk_Disk_Write.tab13 3 3 (fun sp => sp 3 = s15_3 ∧ sp 2 = s15_2) (fun sp on hA hon => ?_) (fun ops15_3 => ?_)
          · refine ⟨fun o ho vs Rs f' S' w hp hf hx hS hR hs => ?_⟩
            obtain rfl := Option.some.inj ho
            obtain ⟨hv2, hR2⟩ := (spe hA.2 hs15_2 (hp 2 (by kernel_rfl)))
            rw [hA.1, hs15_3]
            refine wn hon ?_
            have hF := fr_next (rfl) ((hf 2 31 (by kernel_rfl) rfl).trans hv2)
            refine ls_fr hF ?_
            refine ls_load (a0 := ⟨pg0, (0 + 1), none⟩) (v := .map (some r0_1)) (de := (TypeDesc.map 3 48)) rfl rfl (by kernel_rfl) rfl (by kernel_rfl) (by kernel_rfl) (by kernel_rfl) (fun w1 hs1 => cell_step hs1.below.bw (hs.var (k := 0) ((hS 0 (by kernel_rfl)).trans (by exact rfl)) (Sub4.trans (Sub4.all _) (Sub4.skip (n := 1) (len1 _) (Sub4.head _ _))))) ?_
            exact ls_fin s0 _ (congrArg (fun z => upd z 32 _) hF.symm) ⟨rfl, rfl⟩ (sub_nil _)
          obtain ⟨s15_4, hs15_4⟩ := exv (.int .i64 a1)
          refine have_opa disk_Disk_Write.tab13 3 4 (fun sp => sp 4 = s15_4) (fun sp on hA hon => ?_) (fun ops15_4 => ?_)
          · refine ⟨fun o ho vs Rs f' S' w hp hf hx hS hR hs => ?_⟩
            obtain rfl := Option.some.inj ho
            exact opv (.int .i64 a1) hA hs15_4 hon (fr_next (rfl) ((hx 1 (by kernel_rfl)).trans (by kernel_rfl : (_ : Value) = .int .i64 a1)))
          obtain ⟨s15_5, hs15_5⟩ := exv (.agg ⟨en (Value.int .u8) y12.1⟩)
          refine have_opa disk_Disk_Write.tab13 3 5 (fun sp => sp 5 = s15_5) (fun sp on hA hon => ?_) (fun ops15_5 => ?_)
          · refine ⟨fun o ho vs Rs f' S' w hp hf hx hS hR hs => ?_⟩
            obtain rfl := Option.some.inj ho
            rw [hA, hs15_5]
            refine wn hon ?_
            have hF := fr_next (rfl) ((hx 8 (by kernel_rfl)).trans (by kernel_rfl : (_ : Value) = .pointer (some ⟨g11, 0, none⟩)))
            refine ls_fr hF ?_
            refine ls_loadagg (a := ⟨g11, 0, none⟩) (sub := en (Value.int .u8) y12.1) rfl rfl (by kernel_rfl) rfl (by kernel_rfl) (by kernel_rfl) (by kernel_rfl) (len_en _ y12) (fun w1 hs1 => Rd.step (hs.vars (k := 2) ((hS 2 (by kernel_rfl)).trans (by exact rfl)) (Sub4.all _)) hs1.below.bw) ?_
            exact ls_fin s0 _ (congrArg (fun z => upd z 34 _) hF.symm) ⟨rfl, rfl⟩ (sub_nil _)
          refine cs_draw disk_Disk_Write.tab13 6 3 (spl [s15_0, s15_1, s15_2, s15_3, s15_4, s15_5]) (onl [true, true, true, true, true, true]) (by kernel_rfl) (by kernel_rfl) (by kernel_rfl) (by kernel_rfl) (rs := [_]) rfl (by kernel_rfl) (by kernel_rfl) (all_snoc (all_snoc (all_snoc (all_snoc (all_snoc (all_snoc (all_nil) (ops15_0 _ _ rfl rfl)) (ops15_1 _ _ ⟨rfl, rfl⟩ rfl)) (ops15_2 _ _ ⟨rfl, rfl⟩ rfl)) (ops15_3 _ _ ⟨rfl, rfl⟩ rfl)) (ops15_4 _ _ rfl rfl)) (ops15_5 _ _ rfl rfl)) ?_
          intro vs Rs f' S' hp hf hx hS hR
          obtain ⟨hv3, hR3⟩ := (spe rfl hs15_3 (hp 3 (by kernel_rfl)))
          obtain ⟨hv4, hR4⟩ := (spe rfl hs15_4 (hp 4 (by kernel_rfl)))
          obtain ⟨hv5, hR5⟩ := (spe rfl hs15_5 (hp 5 (by kernel_rfl)))
          refine ls_fr (F := upd (upd (upd f' 32 (.map (some r0_1))) 33 (.int .i64 a1)) 34 (.agg ⟨en (Value.int .u8) y12.1⟩)) (fr_next (fr_next (fr_next (rfl) ((hf 3 32 (by kernel_rfl) rfl).trans hv3)) ((hf 4 33 (by kernel_rfl) rfl).trans hv4)) ((hf 5 34 (by kernel_rfl) rfl).trans hv5)) ?_
          refine ls_sub (sput (sput s0 0 (some (Ck.var 34 pg0 (([Value.slice (some ⟨gl0_0, 0, none⟩) n0_0 c0_0] ++ ([Value.map (some r0_1)] ++ ([Value.bool t7.2.2.2.1] ++ ([Value.int .i64 t7.2.2.2.2.1] ++ [Value.bool t7.2.2.2.2.2])))))))) 1 (some (Ck.mr T48 r0_1 gl0_0 c0_0 n0_0 w0_1))) (sub_put ((hS 1 (by kernel_rfl)).trans (by exact rfl)) (sub_put ((hS 0 (by kernel_rfl)).trans (by exact rfl)) (sub_nil _))) ?_
          refine ls_mrput (T := T48) (r := r0_1) (m := w0_1) (kt := 3) (et := 48) (i := a1) (v := y12) 1 rfl rfl rfl (by kernel_rfl) (by kernel_rfl) (by kernel_rfl) (by kernel_rfl) (by kernel_rfl) (by exact rfl) ?_
          refine ls_end ?_
          refine qn_then ?_
          refine cs_seq ?_
          refine cs_region (l := [_]) ?_
          refine lv (.int .i64 (0 : Int)) ?_
          refine ls_end ?_
          refine qn_then ?_
          refine cs_ret' ?_
          obtain rfl := Option.some.inj H
          refine qr_res (rs := [_]) rfl (fun w' hs => ⟨[.int .i64 (0 : Int)], (res_tmp (by kernel_rfl) (.nil)), (), rfl, hs.pick (ts := [0, 1]) (cs := [Ck.var 34 pg0 (([Value.slice (some ⟨gl0_0, 0, none⟩) n0_0 c0_0] ++ ([Value.map (some r0_1)] ++ ([Value.bool t7.2.2.2.1] ++ ([Value.int .i64 t7.2.2.2.2.1] ++ [Value.bool t7.2.2.2.2.2]))))), Ck.mr T48 r0_1 gl0_0 c0_0 n0_0 (mput a1 y12 w0_1.1, w0_1.2)]) ⟨by exact rfl, by exact rfl, trivial⟩ (by decide)⟩)
        replace H := ite_f q10 H
        refine cs_know (c := true) (congrArg Bool.not (dec_f q10)) 24 (by kernel_rfl) ?_
        refine cs_true (by kernel_rfl) ?_
        refine cs_seq ?_
        refine cs_region (l := [_, _]) ?_
        refine lv (.int .i64 t7.1) ?_
        refine lv (.int .i64 t7.1) ?_
        refine ls_end ?_
        refine qn_then ?_
        refine cs_ret' ?_
        refine qr_then ?_
        obtain rfl := Option.some.inj H
        refine qr_res (rs := [_]) rfl (fun w' hs => ⟨[.int .i64 t7.1], (res_tmp (by kernel_rfl) (.nil)), (), rfl, hs.pick (ts := [0, 1]) (cs := [Ck.var 34 pg0 (([Value.slice (some ⟨gl0_0, 0, none⟩) n0_0 c0_0] ++ ([Value.map (some r0_1)] ++ ([Value.bool t7.2.2.2.1] ++ ([Value.int .i64 t7.2.2.2.2.1] ++ [Value.bool t7.2.2.2.2.2]))))), Ck.mr T48 r0_1 gl0_0 c0_0 n0_0 w0_1]) ⟨by exact rfl, by exact rfl, trivial⟩ (by decide)⟩)
      replace H := ite_f q6 H
      refine cs_know (c := false) (dec_f q6) 20 (by kernel_rfl) ?_
      refine cs_false (by kernel_rfl) ?_
      refine cs_skip' ?_
      refine qn_then ?_
      refine cs_seq ?_
      refine cs_seq ?_
      refine cs_region (l := [_, _]) ?_
      refine lv (.int .i64 (3 : Int)) ?_
      refine lv (.bool (!decide ((3 : Int) = (0 : Int)))) ?_
      refine ls_end ?_
      refine qn_then ?_
      refine cs_know (c := true) (congrArg Bool.not (dec_f q6)) 24 (by kernel_rfl) ?_
      refine cs_true (by kernel_rfl) ?_
      refine cs_seq ?_
      refine cs_region (l := [_, _]) ?_
      refine lv (.int .i64 (3 : Int)) ?_
      refine lv (.int .i64 (3 : Int)) ?_
      refine ls_end ?_
      refine qn_then ?_
      refine cs_ret' ?_
      refine qr_then ?_
      obtain rfl := Option.some.inj H
      refine qr_res (rs := [_]) rfl (fun w' hs => ⟨[.int .i64 (3 : Int)], (res_tmp (by kernel_rfl) (.nil)), (), rfl, hs.pick (ts := [0, 1]) (cs := [Ck.var 34 pg0 (([Value.slice (some ⟨gl0_0, 0, none⟩) n0_0 c0_0] ++ ([Value.map (some r0_1)] ++ ([Value.bool v0.2.2.1] ++ ([Value.int .i64 v0.2.2.2.1] ++ [Value.bool v0.2.2.2.2]))))), Ck.mr T48 r0_1 gl0_0 c0_0 n0_0 w0_1]) ⟨by exact rfl, by exact rfl, trivial⟩ (by decide)⟩)
    replace H := ite_f q5 H
    refine cs_know (c := false) (dec_f q5) 18 (by kernel_rfl) ?_
    refine cs_false (by kernel_rfl) ?_
    refine cs_skip' ?_
    refine qn_then ?_
    refine cs_seq ?_
    refine cs_seq ?_
    refine cs_region (l := [_, _]) ?_
    refine lv (.int .i64 t1) ?_
    refine lv (.bool (decide (t1 = (0 : Int)))) ?_
    refine ls_end ?_
    refine qn_then ?_
    refine cs_know (c := true) (dec_t q4) 20 (by kernel_rfl) ?_
    refine cs_true (by kernel_rfl) ?_
    refine cs_region (l := [_, _, _]) ?_
    refine lv (.pointer (some ⟨pg0, 0, none⟩)) ?_
    obtain ⟨t16, hc17, H⟩ := bind_some H
    refine ls_callb (fid := 16) (vals := #[.pointer (some ⟨pg0, 0, none⟩)]) (X := Unit) (fun x => .int .i64 t16.1) (fun x => stl [Ck.var 34 pg0 (([Value.slice (some ⟨gl0_0, 0, none⟩) n0_0 c0_0] ++ ([Value.map (some r0_1)] ++ ([Value.bool t16.2.2.2.1] ++ ([Value.int .i64 t16.2.2.2.2.1] ++ [Value.bool t16.2.2.2.2.2]))))), Ck.mr T48 r0_1 gl0_0 c0_0 n0_0 w0_1]) [0, 1] [] [Ck.var 34 pg0 (([Value.slice (some ⟨gl0_0, 0, none⟩) n0_0 c0_0] ++ ([Value.map (some r0_1)] ++ ([Value.bool v0.2.2.1] ++ ([Value.int .i64 v0.2.2.2.1] ++ [Value.bool v0.2.2.2.2]))))), Ck.mr T48 r0_1 gl0_0 c0_0 n0_0 w0_1] [] 2 rfl rfl (by kernel_rfl) (fun w => by kernel_rfl) ⟨by exact rfl, by exact rfl, trivial⟩ trivial (by decide) (fun w hs hb => disk_Disk_spend.calls k pg0 gl0_0 n0_0 c0_0 r0_1 ((), (), v0.2.2.1, v0.2.2.2.1, v0.2.2.2.2) w0_1 t16 (lent b w [Ck.var 34 pg0 (([Value.slice (some ⟨gl0_0, 0, none⟩) n0_0 c0_0] ++ ([Value.map (some r0_1)] ++ ([Value.bool v0.2.2.1] ++ ([Value.int .i64 v0.2.2.2.1] ++ [Value.bool v0.2.2.2.2]))))), Ck.mr T48 r0_1 gl0_0 c0_0 n0_0 w0_1] []) hb  hc17) ?_
    intro x18
    refine lv (.int .i64 t16.1) ?_
    refine ls_end ?_
    refine qn_then ?_
    refine cs_seq ?_
    refine cs_seq ?_
    refine cs_region (l := [_, _]) ?_
    refine lv (.int .i64 t16.1) ?_
    refine lv (.bool (!decide (t16.1 = (0 : Int)))) ?_
    refine ls_end ?_
    refine qn_then ?_
    by_cases q19 : t16.1 = (0 : Int)
    · replace H := ite_t q19 H
      refine cs_know (c := false) (congrArg Bool.not (dec_t q19)) 24 (by kernel_rfl) ?_
      refine cs_false (by kernel_rfl) ?_
      refine cs_skip' ?_
      refine qn_then ?_
      refine cs_seq ?_
      refine cs_region (l := [_]) ?_
      refine ls_new rfl rfl (by kernel_rfl) 2 (fun g => .pointer (some ⟨g, 0, none⟩)) (.cells ⟨en (Value.int .u8) (vrep 512 (0 : Int)).1⟩ 48) (fun w => by kernel_rfl) ?_
      intro g20
      refine ls_end ?_
      refine qn_then ?_
      refine cs_seq ?_
      refine cs_region (l := [_, _, _]) ?_
      refine ls_val (v := .slice (some ⟨g20, 0, none⟩) (vrep 512 (0 : Int)).1.length 512) rfl rfl (by kernel_rfl) (fun w => by rw [show (vrep 512 (0 : Int)).1.length = 512 from (vrep 512 (0 : Int)).2]; kernel_rfl) ?_
      refine lv (.slice A2 l2.length c2) ?_
      obtain ⟨y21, hy22, H⟩ := lt_some H
      refine ls_copyv (Value.int .u8) (g := g20) (off := 0) (N := 512) (cx := 512) (B := A2) (cb := c2) (l := l2) (v := (vrep 512 (0 : Int))) (cs := en (Value.int .u8) (vrep 512 (0 : Int)).1) (ty := 48) (e := 5) 2 rfl rfl (by rw [show (vrep 512 (0 : Int)).1.length = 512 from (vrep 512 (0 : Int)).2]; kernel_rfl) (by kernel_rfl) (by exact rfl) (by kernel_rfl) (by kernel_rfl) (fun w hs => Rd.toen (t := 5) (hs.old R2)) (fun _ => rfl) (Sub4.all _) (cs' := en (Value.int .u8) (vcopy (vrep 512 (0 : Int)) l2).1) (splc_all (len_eq (len_en _ (vcopy (vrep 512 (0 : Int)) l2)) (len_en _ (vrep 512 (0 : Int))))) rfl (by kernel_rfl) ?_
      rw [hy22]
      refine ls_end ?_
      refine qn_then ?_
      refine cs_seq ?_
      obtain ⟨s24_0, hs24_0⟩ := exv (.pointer (some ⟨pg0, 0, none⟩))
      refine have_opa disk_Disk_Write.tab22 3 0 (fun sp => sp 0 = s24_0) (fun sp on hA hon => ?_) (fun ops24_0 => ?_)
      · refine ⟨fun o ho vs Rs f' S' w hp hf hx hS hR hs => ?_⟩
        obtain rfl := Option.some.inj ho
        exact opv (.pointer (some ⟨pg0, 0, none⟩)) hA hs24_0 hon (fr_next (rfl) ((hx 0 (by kernel_rfl)).trans (by kernel_rfl : (_ : Value) = .pointer (some ⟨pg0, 0, none⟩))))
      obtain ⟨s24_1, hs24_1⟩ := exv (.pointer (some ⟨pg0, 0, none⟩))
      refine have_opa disk_Disk_Write.tab22 3 1 (fun sp => sp 1 = s24_1 ∧ sp 0 = s24_0) (fun sp on hA hon => ?_) (fun ops24_1 => ?_)
      · refine ⟨fun o ho vs Rs f' S' w hp hf hx hS hR hs => ?_⟩
        obtain rfl := Option.some.inj ho
        obtain ⟨hv0, hR0⟩ := (spe hA.2 hs24_0 (hp 0 (by kernel_rfl)))
        exact opv (.pointer (some ⟨pg0, 0, none⟩)) hA.1 hs24_1 hon (fr_next (rfl) ((hf 0 29 (by kernel_rfl) rfl).trans hv0))
      obtain ⟨s24_2, hs24_2⟩ := exv (.pointer (some ⟨pg0, (0 + 1), none⟩))
      refine have_opa disk_Disk_Write.tab22 3 2 (fun sp => sp 2 = s24_2 ∧ sp 1 = s24_1) (fun sp on hA hon => ?_) (fun ops24_2 => ?_)
      · refine ⟨fun o ho vs Rs f' S' w hp hf hx hS hR hs => ?_⟩
        obtain rfl := Option.some.inj ho
        obtain ⟨hv1, hR1⟩ := (spe hA.2 hs24_1 (hp 1 (by kernel_rfl)))
        exact opv (.pointer (some ⟨pg0, (0 + 1), none⟩)) hA.1 hs24_2 hon (fr_next (rfl) ((hf 1 30 (by kernel_rfl) rfl).trans hv1))
      obtain ⟨s24_3, hs24_3⟩ := exv (.map (some r0_1))
      refine have_opa disk_Disk_Write.tab22 3 3 (fun sp => sp 3 = s24_3 ∧ sp 2 = s24_2) (fun sp on hA hon => ?_) (fun ops24_3 => ?_)
      · refine ⟨fun o ho vs Rs f' S' w hp hf hx hS hR hs => ?_⟩
        obtain rfl := Option.some.inj ho
        obtain ⟨hv2, hR2⟩ := (spe hA.2 hs24_2 (hp 2 (by kernel_rfl)))
        rw [hA.1, hs24_3]
        refine wn hon ?_
        have hF := fr_next (rfl) ((hf 2 31 (by kernel_rfl) rfl).trans hv2)
        refine ls_fr hF ?_
        refine ls_load (a0 := ⟨pg0, (0 + 1), none⟩) (v := .map (some r0_1)) (de := (TypeDesc.map 3 48)) rfl rfl (by kernel_rfl) rfl (by kernel_rfl) (by kernel_rfl) (by kernel_rfl) (fun w1 hs1 => cell_step hs1.below.bw (hs.var (k := 0) ((hS 0 (by kernel_rfl)).trans (by exact rfl)) (Sub4.trans (Sub4.all _) (Sub4.skip (n := 1) (len1 _) (Sub4.head _ _))))) ?_
        exact ls_fin s0 _ (congrArg (fun z => upd z 32 _) hF.symm) ⟨rfl, rfl⟩ (sub_nil _)
      obtain ⟨s24_4, hs24_4⟩ := exv (.int .i64 a1)
      refine have_opa disk_Disk_Write.tab22 3 4 (fun sp => sp 4 = s24_4) (fun sp on hA hon => ?_) (fun ops24_4 => ?_)
      · refine ⟨fun o ho vs Rs f' S' w hp hf hx hS hR hs => ?_⟩
        obtain rfl := Option.some.inj ho
        exact opv (.int .i64 a1) hA hs24_4 hon (fr_next (rfl) ((hx 1 (by kernel_rfl)).trans (by kernel_rfl : (_ : Value) = .int .i64 a1)))
      obtain ⟨s24_5, hs24_5⟩ := exv (.agg ⟨en (Value.int .u8) y21.1⟩)
      refine have_opa disk_Disk_Write.tab22 3 5 (fun sp => sp 5 = s24_5) (fun sp on hA hon => ?_) (fun ops24_5 => ?_)
      · refine ⟨fun o ho vs Rs f' S' w hp hf hx hS hR hs => ?_⟩
        obtain rfl := Option.some.inj ho
        rw [hA, hs24_5]
        refine wn hon ?_
        have hF := fr_next (rfl) ((hx 8 (by kernel_rfl)).trans (by kernel_rfl : (_ : Value) = .pointer (some ⟨g20, 0, none⟩)))
        refine ls_fr hF ?_
        refine ls_loadagg (a := ⟨g20, 0, none⟩) (sub := en (Value.int .u8) y21.1) rfl rfl (by kernel_rfl) rfl (by kernel_rfl) (by kernel_rfl) (by kernel_rfl) (len_en _ y21) (fun w1 hs1 => Rd.step (hs.vars (k := 2) ((hS 2 (by kernel_rfl)).trans (by exact rfl)) (Sub4.all _)) hs1.below.bw) ?_
        exact ls_fin s0 _ (congrArg (fun z => upd z 34 _) hF.symm) ⟨rfl, rfl⟩ (sub_nil _)
      refine cs_draw disk_Disk_Write.tab22 6 3 (spl [s24_0, s24_1, s24_2, s24_3, s24_4, s24_5]) (onl [true, true, true, true, true, true]) (by kernel_rfl) (by kernel_rfl) (by kernel_rfl) (by kernel_rfl) (rs := [_]) rfl (by kernel_rfl) (by kernel_rfl) (all_snoc (all_snoc (all_snoc (all_snoc (all_snoc (all_snoc (all_nil) (ops24_0 _ _ rfl rfl)) (ops24_1 _ _ ⟨rfl, rfl⟩ rfl)) (ops24_2 _ _ ⟨rfl, rfl⟩ rfl)) (ops24_3 _ _ ⟨rfl, rfl⟩ rfl)) (ops24_4 _ _ rfl rfl)) (ops24_5 _ _ rfl rfl)) ?_
      intro vs Rs f' S' hp hf hx hS hR
      obtain ⟨hv3, hR3⟩ := (spe rfl hs24_3 (hp 3 (by kernel_rfl)))
      obtain ⟨hv4, hR4⟩ := (spe rfl hs24_4 (hp 4 (by kernel_rfl)))
      obtain ⟨hv5, hR5⟩ := (spe rfl hs24_5 (hp 5 (by kernel_rfl)))
      refine ls_fr (F := upd (upd (upd f' 32 (.map (some r0_1))) 33 (.int .i64 a1)) 34 (.agg ⟨en (Value.int .u8) y21.1⟩)) (fr_next (fr_next (fr_next (rfl) ((hf 3 32 (by kernel_rfl) rfl).trans hv3)) ((hf 4 33 (by kernel_rfl) rfl).trans hv4)) ((hf 5 34 (by kernel_rfl) rfl).trans hv5)) ?_
      refine ls_sub (sput (sput s0 0 (some (Ck.var 34 pg0 (([Value.slice (some ⟨gl0_0, 0, none⟩) n0_0 c0_0] ++ ([Value.map (some r0_1)] ++ ([Value.bool t16.2.2.2.1] ++ ([Value.int .i64 t16.2.2.2.2.1] ++ [Value.bool t16.2.2.2.2.2])))))))) 1 (some (Ck.mr T48 r0_1 gl0_0 c0_0 n0_0 w0_1))) (sub_put ((hS 1 (by kernel_rfl)).trans (by exact rfl)) (sub_put ((hS 0 (by kernel_rfl)).trans (by exact rfl)) (sub_nil _))) ?_
      refine ls_mrput (T := T48) (r := r0_1) (m := w0_1) (kt := 3) (et := 48) (i := a1) (v := y21) 1 rfl rfl rfl (by kernel_rfl) (by kernel_rfl) (by kernel_rfl) (by kernel_rfl) (by kernel_rfl) (by exact rfl) ?_
      refine ls_end ?_
      refine qn_then ?_
      refine cs_seq ?_
      refine cs_region (l := [_]) ?_
      refine lv (.int .i64 (0 : Int)) ?_
      refine ls_end ?_
      refine qn_then ?_
      refine cs_ret' ?_
      obtain rfl := Option.some.inj H
      refine qr_res (rs := [_]) rfl (fun w' hs => ⟨[.int .i64 (0 : Int)], (res_tmp (by kernel_rfl) (.nil)), (), rfl, hs.pick (ts := [0, 1]) (cs := [Ck.var 34 pg0 (([Value.slice (some ⟨gl0_0, 0, none⟩) n0_0 c0_0] ++ ([Value.map (some r0_1)] ++ ([Value.bool t16.2.2.2.1] ++ ([Value.int .i64 t16.2.2.2.2.1] ++ [Value.bool t16.2.2.2.2.2]))))), Ck.mr T48 r0_1 gl0_0 c0_0 n0_0 (mput a1 y21 w0_1.1, w0_1.2)]) ⟨by exact rfl, by exact rfl, trivial⟩ (by decide)⟩)
    replace H := ite_f q19 H
    refine cs_know (c := true) (congrArg Bool.not (dec_f q19)) 24 (by kernel_rfl) ?_
    refine cs_true (by kernel_rfl) ?_
    refine cs_seq ?_
    refine cs_region (l := [_, _]) ?_
    refine lv (.int .i64 t16.1) ?_
    refine lv (.int .i64 t16.1) ?_
    refine ls_end ?_
    refine qn_then ?_
    refine cs_ret' ?_
    refine qr_then ?_
    obtain rfl := Option.some.inj H
    refine qr_res (rs := [_]) rfl (fun w' hs => ⟨[.int .i64 t16.1], (res_tmp (by kernel_rfl) (.nil)), (), rfl, hs.pick (ts := [0, 1]) (cs := [Ck.var 34 pg0 (([Value.slice (some ⟨gl0_0, 0, none⟩) n0_0 c0_0] ++ ([Value.map (some r0_1)] ++ ([Value.bool t16.2.2.2.1] ++ ([Value.int .i64 t16.2.2.2.2.1] ++ [Value.bool t16.2.2.2.2.2]))))), Ck.mr T48 r0_1 gl0_0 c0_0 n0_0 w0_1]) ⟨by exact rfl, by exact rfl, trivial⟩ (by decide)⟩)
  replace H := ite_f q4 H
  refine ls_know (c := false) (dec_f q4) 14 (by kernel_rfl) ?_
  refine lofx 2 14 true false ?_
  refine lofx 2 14 true false ?_
  refine lofx 2 14 true false ?_
  refine lv (.bool false) ?_
  refine ls_end ?_
  refine qn_then ?_
  refine cs_false (by kernel_rfl) ?_
  refine cs_skip' ?_
  refine qn_then ?_
  refine cs_seq ?_
  refine cs_seq ?_
  refine cs_region (l := [_, _]) ?_
  refine lv (.int .i64 t1) ?_
  refine lv (.bool (decide (t1 = (0 : Int)))) ?_
  refine ls_end ?_
  refine qn_then ?_
  refine cs_know (c := false) (dec_f q4) 20 (by kernel_rfl) ?_
  refine cs_false (by kernel_rfl) ?_
  refine cs_skip' ?_
  refine qn_then ?_
  refine cs_seq ?_
  refine cs_seq ?_
  refine cs_region (l := [_, _]) ?_
  refine lv (.int .i64 t1) ?_
  refine lv (.bool (!decide (t1 = (0 : Int)))) ?_
  refine ls_end ?_
  refine qn_then ?_
  refine cs_know (c := true) (congrArg Bool.not (dec_f q4)) 24 (by kernel_rfl) ?_
  refine cs_true (by kernel_rfl) ?_
  refine cs_seq ?_
  refine cs_region (l := [_, _]) ?_
  refine lv (.int .i64 t1) ?_
  refine lv (.int .i64 t1) ?_
  refine ls_end ?_
  refine qn_then ?_
  refine cs_ret' ?_
  refine qr_then ?_
  obtain rfl := Option.some.inj H
  refine qr_res (rs := [_]) rfl (fun w' hs => ⟨[.int .i64 t1], (res_tmp (by kernel_rfl) (.nil)), (), rfl, hs.pick (ts := [0, 1]) (cs := [Ck.var 34 pg0 (([Value.slice (some ⟨gl0_0, 0, none⟩) n0_0 c0_0] ++ ([Value.map (some r0_1)] ++ ([Value.bool v0.2.2.1] ++ ([Value.int .i64 v0.2.2.2.1] ++ [Value.bool v0.2.2.2.2]))))), Ck.mr T48 r0_1 gl0_0 c0_0 n0_0 w0_1]) ⟨by exact rfl, by exact rfl, trivial⟩ (by decide)⟩)

/-! ### (*shadowbox/disk.Disk).Flush: function 9 -/
def disk_Disk_Flush.tab8 : List (List Nat) := [[], [0], [0, 1], [0, 1, 2], [], [], [0, 1, 2, 3, 4, 5], [0, 1, 2, 3, 4, 5, 6]]
def disk_Disk_Flush.lo3 (m0_2 : (Unit × Unit × Bool × Int × Bool)) : Nat → ((List (Int × (Vc Int 512)) × List (Vc Int 512))) → Option (Int × (Unit × Unit × Bool × Int × Bool) × (List (Int × (Vc Int 512)) × List (Vc Int 512))) := fun kk mm => mrlo (fun mE7 => some ((0 : Int), ((), (), m0_2.2.2.1, m0_2.2.2.2.1, m0_2.2.2.2.2), mE7)) kk mm
def disk_Disk_Flush.jo2 (k : Nat) (w0_1 : (List (Int × (Vc Int 512)) × List (Vc Int 512))) (m0_2 : (Unit × Unit × Bool × Int × Bool)) : Option (Int × (Unit × Unit × Bool × Int × Bool) × (List (Int × (Vc Int 512)) × List (Vc Int 512))) := disk_Disk_Flush.lo3 m0_2 k w0_1
def disk_Disk_Flush.jo1 (k : Nat) (v0 : (Unit × Unit × Bool × Int × Bool)) (w0_1 : (List (Int × (Vc Int 512)) × List (Vc Int 512))) : Option (Int × (Unit × Unit × Bool × Int × Bool) × (List (Int × (Vc Int 512)) × List (Vc Int 512))) := (disk_Disk_spend.f k ((), (), v0.2.2.1, v0.2.2.2.1, v0.2.2.2.2) w0_1).bind fun t13 => (if t13.1 = (0 : Int) then (disk_Disk_Flush.jo2 k w0_1) ((), (), t13.2.2.2.1, t13.2.2.2.2.1, t13.2.2.2.2.2) else some (t13.1, ((), (), t13.2.2.2.1, t13.2.2.2.2.1, t13.2.2.2.2.2), w0_1))
def disk_Disk_Flush.f (k : Nat) (v0 : (Unit × Unit × Bool × Int × Bool)) (w0_1 : (List (Int × (Vc Int 512)) × List (Vc Int 512))) : Option (Int × (Unit × Unit × Bool × Int × Bool) × (List (Int × (Vc Int 512)) × List (Vc Int 512))) :=
  (disk_Disk_Flush.jo1 k v0 w0_1)
set_option maxRecDepth 100000 in
set_option maxHeartbeats 4000000 in
theorem disk_Disk_Flush.calls (k : Nat) (pg0 : Nat) (gl0_0 : Nat) (n0_0 : Nat) (c0_0 : Nat) (r0_1 : Nat) (v0 : (Unit × Unit × Bool × Int × Bool)) (w0_1 : (List (Int × (Vc Int 512)) × List (Vc Int 512))) (r : Int × (Unit × Unit × Bool × Int × Bool) × (List (Int × (Vc Int 512)) × List (Vc Int 512))) (b : Bs) (hs0 : St b (stl [Ck.var 34 pg0 (([Value.slice (some ⟨gl0_0, 0, none⟩) n0_0 c0_0] ++ ([Value.map (some r0_1)] ++ ([Value.bool v0.2.2.1] ++ ([Value.int .i64 v0.2.2.2.1] ++ [Value.bool v0.2.2.2.2]))))), Ck.mr T48 r0_1 gl0_0 c0_0 n0_0 w0_1]) b.w) (H : disk_Disk_Flush.f k v0 w0_1 = some r) :
    Calls Try.prog 9 #[.pointer (some ⟨pg0, 0, none⟩)] b.w fun e w' => ∃ x : Unit, e = .returned (.int .i64 r.1) ∧ St b (stl [Ck.var 34 pg0 (([Value.slice (some ⟨gl0_0, 0, none⟩) n0_0 c0_0] ++ ([Value.map (some r0_1)] ++ ([Value.bool r.2.1.2.2.1] ++ ([Value.int .i64 r.2.1.2.2.2.1] ++ [Value.bool r.2.1.2.2.2.2]))))), Ck.mr T48 r0_1 gl0_0 c0_0 n0_0 r.2.2]) w' := by
  unfold disk_Disk_Flush.f at H
  refine enterb (n := 35) Try.func9 rfl (by kernel_rfl) (by kernel_rfl) hs0 ?_
  refine cs_sub (sput (sput s0 0 (some (Ck.var 34 pg0 (([Value.slice (some ⟨gl0_0, 0, none⟩) n0_0 c0_0] ++ ([Value.map (some r0_1)] ++ ([Value.bool v0.2.2.1] ++ ([Value.int .i64 v0.2.2.2.1] ++ [Value.bool v0.2.2.2.2])))))))) 1 (some (Ck.mr T48 r0_1 gl0_0 c0_0 n0_0 w0_1))) (sub_put (by exact rfl) (sub_put (by exact rfl) (sub_nil _))) ?_
  refine cs_seq ?_
  refine cs_region (l := [_]) ?_
  refine lv (.int .i64 (0 : Int)) ?_
  refine ls_end ?_
  refine qn_then ?_
  refine cs_cut (fun f S => ∃ (fR : Fr), f = upd fR 0 (.pointer (some ⟨pg0, 0, none⟩)) ∧ S = sput (sput s0 0 (some (Ck.var 34 pg0 (([Value.slice (some ⟨gl0_0, 0, none⟩) n0_0 c0_0] ++ ([Value.map (some r0_1)] ++ ([Value.bool v0.2.2.1] ++ ([Value.int .i64 v0.2.2.2.1] ++ [Value.bool v0.2.2.2.2])))))))) 1 (some (Ck.mr T48 r0_1 gl0_0 c0_0 n0_0 w0_1)) ∧ disk_Disk_Flush.jo1 k v0 w0_1 = some r) ?_ ?_
  · skip
    refine cs_seq ?_
    refine cs_region (l := [_, _]) ?_
    refine lv (.pointer (some ⟨pg0, 0, none⟩)) ?_
    have hc18 : disk_Disk_none.f k ((), (), v0.2.2.1, v0.2.2.2.1, v0.2.2.2.2) w0_1 = some false := rfl
    refine ls_callb (fid := 14) (vals := #[.pointer (some ⟨pg0, 0, none⟩)]) (X := Unit) (fun x => .bool false) (fun x => stl [Ck.var 34 pg0 (([Value.slice (some ⟨gl0_0, 0, none⟩) n0_0 c0_0] ++ ([Value.map (some r0_1)] ++ ([Value.bool v0.2.2.1] ++ ([Value.int .i64 v0.2.2.2.1] ++ [Value.bool v0.2.2.2.2]))))), Ck.mr T48 r0_1 gl0_0 c0_0 n0_0 w0_1]) [0, 1] [] [Ck.var 34 pg0 (([Value.slice (some ⟨gl0_0, 0, none⟩) n0_0 c0_0] ++ ([Value.map (some r0_1)] ++ ([Value.bool v0.2.2.1] ++ ([Value.int .i64 v0.2.2.2.1] ++ [Value.bool v0.2.2.2.2]))))), Ck.mr T48 r0_1 gl0_0 c0_0 n0_0 w0_1] [] 2 rfl rfl (by kernel_rfl) (fun w => by kernel_rfl) ⟨by exact rfl, by exact rfl, trivial⟩ trivial (by decide) (fun w hs hb => disk_Disk_none.calls k pg0 gl0_0 n0_0 c0_0 r0_1 ((), (), v0.2.2.1, v0.2.2.2.1, v0.2.2.2.2) w0_1 false (lent b w [Ck.var 34 pg0 (([Value.slice (some ⟨gl0_0, 0, none⟩) n0_0 c0_0] ++ ([Value.map (some r0_1)] ++ ([Value.bool v0.2.2.1] ++ ([Value.int .i64 v0.2.2.2.1] ++ [Value.bool v0.2.2.2.2]))))), Ck.mr T48 r0_1 gl0_0 c0_0 n0_0 w0_1] []) hb  hc18) ?_
    intro x19
    refine ls_end ?_
    refine qn_then ?_
    refine cs_false (by kernel_rfl) ?_
    refine cs_skip' ?_
    refine qn_meet (sput (sput s0 0 (some (Ck.var 34 pg0 (([Value.slice (some ⟨gl0_0, 0, none⟩) n0_0 c0_0] ++ ([Value.map (some r0_1)] ++ ([Value.bool v0.2.2.1] ++ ([Value.int .i64 v0.2.2.2.1] ++ [Value.bool v0.2.2.2.2])))))))) 1 (some (Ck.mr T48 r0_1 gl0_0 c0_0 n0_0 w0_1))) ⟨_, fr_next (rfl) (by kernel_rfl), rfl, H⟩ (sub_put (by exact rfl) (sub_put (by exact rfl) (sub_nil _)))
  rintro f S ⟨fr1, rfl, rfl, H⟩
  replace H : ((disk_Disk_spend.f k ((), (), v0.2.2.1, v0.2.2.2.1, v0.2.2.2.2) w0_1).bind fun t13 => (if t13.1 = (0 : Int) then (disk_Disk_Flush.jo2 k w0_1) ((), (), t13.2.2.2.1, t13.2.2.2.2.1, t13.2.2.2.2.2) else some (t13.1, ((), (), t13.2.2.2.1, t13.2.2.2.2.1, t13.2.2.2.2.2), w0_1))) = some r := H
  refine cs_cut (fun f S => ∃ (fR : Fr) (m0_2 : (Unit × Unit × Bool × Int × Bool)), f = upd fR 0 (.pointer (some ⟨pg0, 0, none⟩)) ∧ S = sput (sput s0 0 (some (Ck.var 34 pg0 (([Value.slice (some ⟨gl0_0, 0, none⟩) n0_0 c0_0] ++ ([Value.map (some r0_1)] ++ ([Value.bool m0_2.2.2.1] ++ ([Value.int .i64 m0_2.2.2.2.1] ++ [Value.bool m0_2.2.2.2.2])))))))) 1 (some (Ck.mr T48 r0_1 gl0_0 c0_0 n0_0 w0_1)) ∧ disk_Disk_Flush.jo2 k w0_1 m0_2 = some r) ?_ ?_
  · skip
    refine cs_seq ?_
    refine cs_region (l := [_, _, _]) ?_
    refine lv (.pointer (some ⟨pg0, 0, none⟩)) ?_
    obtain ⟨t13, hc14, H⟩ := bind_some H
    refine ls_callb (fid := 16) (vals := #[.pointer (some ⟨pg0, 0, none⟩)]) (X := Unit) (fun x => .int .i64 t13.1) (fun x => stl [Ck.var 34 pg0 (([Value.slice (some ⟨gl0_0, 0, none⟩) n0_0 c0_0] ++ ([Value.map (some r0_1)] ++ ([Value.bool t13.2.2.2.1] ++ ([Value.int .i64 t13.2.2.2.2.1] ++ [Value.bool t13.2.2.2.2.2]))))), Ck.mr T48 r0_1 gl0_0 c0_0 n0_0 w0_1]) [0, 1] [] [Ck.var 34 pg0 (([Value.slice (some ⟨gl0_0, 0, none⟩) n0_0 c0_0] ++ ([Value.map (some r0_1)] ++ ([Value.bool v0.2.2.1] ++ ([Value.int .i64 v0.2.2.2.1] ++ [Value.bool v0.2.2.2.2]))))), Ck.mr T48 r0_1 gl0_0 c0_0 n0_0 w0_1] [] 2 rfl rfl (by kernel_rfl) (fun w => by kernel_rfl) ⟨by exact rfl, by exact rfl, trivial⟩ trivial (by decide) (fun w hs hb => disk_Disk_spend.calls k pg0 gl0_0 n0_0 c0_0 r0_1 ((), (), v0.2.2.1, v0.2.2.2.1, v0.2.2.2.2) w0_1 t13 (lent b w [Ck.var 34 pg0 (([Value.slice (some ⟨gl0_0, 0, none⟩) n0_0 c0_0] ++ ([Value.map (some r0_1)] ++ ([Value.bool v0.2.2.1] ++ ([Value.int .i64 v0.2.2.2.1] ++ [Value.bool v0.2.2.2.2]))))), Ck.mr T48 r0_1 gl0_0 c0_0 n0_0 w0_1] []) hb  hc14) ?_
    intro x15
    refine lv (.int .i64 t13.1) ?_
    refine ls_end ?_
    refine qn_then ?_
    refine cs_seq ?_
    refine cs_region (l := [_, _]) ?_
    refine lv (.int .i64 t13.1) ?_
    refine lv (.bool (!decide (t13.1 = (0 : Int)))) ?_
    refine ls_end ?_
    refine qn_then ?_
    by_cases q16 : t13.1 = (0 : Int)
    · replace H := ite_t q16 H
      refine cs_know (c := false) (congrArg Bool.not (dec_t q16)) 11 (by kernel_rfl) ?_
      refine cs_false (by kernel_rfl) ?_
      refine cs_skip' ?_
      refine qn_meet (sput (sput s0 0 (some (Ck.var 34 pg0 (([Value.slice (some ⟨gl0_0, 0, none⟩) n0_0 c0_0] ++ ([Value.map (some r0_1)] ++ ([Value.bool t13.2.2.2.1] ++ ([Value.int .i64 t13.2.2.2.2.1] ++ [Value.bool t13.2.2.2.2.2])))))))) 1 (some (Ck.mr T48 r0_1 gl0_0 c0_0 n0_0 w0_1))) ⟨_, ((), (), t13.2.2.2.1, t13.2.2.2.2.1, t13.2.2.2.2.2), fr_next (rfl) (by kernel_rfl), rfl, H⟩ (sub_put (by exact rfl) (sub_put (by exact rfl) (sub_nil _)))
    replace H := ite_f q16 H
    refine cs_know (c := true) (congrArg Bool.not (dec_f q16)) 11 (by kernel_rfl) ?_
    refine cs_true (by kernel_rfl) ?_
    refine cs_seq ?_
    refine cs_region (l := [_, _]) ?_
    refine lv (.int .i64 t13.1) ?_
    refine lv (.int .i64 t13.1) ?_
    refine ls_end ?_
    refine qn_then ?_
    refine cs_ret' ?_
    refine qr_then ?_
    obtain rfl := Option.some.inj H
    refine qr_res (rs := [_]) rfl (fun w' hs => ⟨[.int .i64 t13.1], (res_tmp (by kernel_rfl) (.nil)), (), rfl, hs.pick (ts := [0, 1]) (cs := [Ck.var 34 pg0 (([Value.slice (some ⟨gl0_0, 0, none⟩) n0_0 c0_0] ++ ([Value.map (some r0_1)] ++ ([Value.bool t13.2.2.2.1] ++ ([Value.int .i64 t13.2.2.2.2.1] ++ [Value.bool t13.2.2.2.2.2]))))), Ck.mr T48 r0_1 gl0_0 c0_0 n0_0 w0_1]) ⟨by exact rfl, by exact rfl, trivial⟩ (by decide)⟩)
  rintro f S ⟨fr2, m0_2, rfl, rfl, H⟩
  replace H : (disk_Disk_Flush.lo3 m0_2 k w0_1) = some r := H
  refine cs_seq ?_
  refine cs_seq ?_
  refine cs_region (l := [_, _, _, _, _]) ?_
  refine lv (.pointer (some ⟨pg0, 0, none⟩)) ?_
  refine lv (.pointer (some ⟨pg0, 0, none⟩)) ?_
  refine lv (.pointer (some ⟨pg0, (0 + 1), none⟩)) ?_
  refine ls_load (a0 := ⟨pg0, (0 + 1), none⟩) (v := .map (some r0_1)) (de := (TypeDesc.map 3 48)) rfl rfl (by kernel_rfl) rfl (by kernel_rfl) (by kernel_rfl) (by kernel_rfl) (fun w hs => (hs.var (k := 0) (by exact rfl) (Sub4.trans (Sub4.all _) (Sub4.skip (n := 1) (len1 _) (Sub4.head _ _))))) ?_
  refine ls_mrrange (T := T48) (r := r0_1) (m := w0_1) (kt := 3) (et := 48) 1 rfl rfl (by kernel_rfl) rfl (by kernel_rfl) (by kernel_rfl) (by exact rfl) ?_
  intro g1
  refine ls_end ?_
  refine qn_then ?_
  refine cs_block ?_
  refine cs_sub (sput (sput s0 0 (some (Ck.var 34 pg0 (([Value.slice (some ⟨gl0_0, 0, none⟩) n0_0 c0_0] ++ ([Value.map (some r0_1)] ++ ([Value.bool m0_2.2.2.1] ++ ([Value.int .i64 m0_2.2.2.2.1] ++ [Value.bool m0_2.2.2.2.2])))))))) 1 (some (Ck.mri T48 r0_1 gl0_0 c0_0 n0_0 g1 none w0_1))) (sub_put (by exact rfl) (sub_put (by exact rfl) (sub_nil _))) ?_
  refine cs_loop (fun kk f S => ∃ (fR : Fr) (m1_3 : (List (Int × (Vc Int 512)) × List (Vc Int 512))), f = upd (upd fR 0 (.pointer (some ⟨pg0, 0, none⟩))) 17 (.pointer (some ⟨g1, 0, none⟩)) ∧ S = sput (sput s0 0 (some (Ck.var 34 pg0 (([Value.slice (some ⟨gl0_0, 0, none⟩) n0_0 c0_0] ++ ([Value.map (some r0_1)] ++ ([Value.bool m0_2.2.2.1] ++ ([Value.int .i64 m0_2.2.2.2.1] ++ [Value.bool m0_2.2.2.2.2])))))))) 1 (some (Ck.mri T48 r0_1 gl0_0 c0_0 n0_0 g1 none m1_3)) ∧ disk_Disk_Flush.lo3 m0_2 kk m1_3 = some r) k ?_ ?_ ?_
  · exact ⟨_, w0_1, fr_next (fr_next (rfl) (by kernel_rfl)) (by kernel_rfl), rfl, H⟩
  · rintro f S ⟨fr3, m1_3, rfl, rfl, H⟩; exact (mrlo_zero H).elim
  rintro k3 f S ⟨fr3, m1_3, rfl, rfl, H⟩
  replace H : (mrlo (fun mE7 => some ((0 : Int), ((), (), m0_2.2.2.1, m0_2.2.2.2.1, m0_2.2.2.2.2), mE7)) (k3 + 1) m1_3) = some r := H
  refine cs_seq ?_
  refine cs_region (l := [_, _]) ?_
  refine ls_mrnext (T := T48) (gi := g1) (m := m1_3) 1 rfl rfl (by kernel_rfl) rfl (by kernel_rfl) (by exact rfl) ?_ ?_
  · intro hnil2
    replace H := mrlo_end H hnil2
    generalize (([] : List (Int × (Vc Int 512))), m1_3.2) = mE7 at H ⊢
    replace H : (some ((0 : Int), ((), (), m0_2.2.2.1, m0_2.2.2.2.1, m0_2.2.2.2.2), mE7)) = some r := H
    refine lv (.bool false) ?_
    refine ls_end ?_
    refine qn_then ?_
    refine cs_seq ?_
    refine cs_false (by kernel_rfl) ?_
    refine cs_exit' ?_
    refine qx_then ?_
    refine qx_then ?_
    refine qx_same ?_
    refine qn_then ?_
    refine cs_seq ?_
    refine cs_region (l := [_]) ?_
    refine lv (.int .i64 (0 : Int)) ?_
    refine ls_end ?_
    refine qn_then ?_
    refine cs_ret' ?_
    obtain rfl := Option.some.inj H
    refine qr_res (rs := [_]) rfl (fun w' hs => ⟨[.int .i64 (0 : Int)], (res_tmp (by kernel_rfl) (.nil)), (), rfl, hs.pick (ts := [0, 1]) (cs := [Ck.var 34 pg0 (([Value.slice (some ⟨gl0_0, 0, none⟩) n0_0 c0_0] ++ ([Value.map (some r0_1)] ++ ([Value.bool m0_2.2.2.1] ++ ([Value.int .i64 m0_2.2.2.2.1] ++ [Value.bool m0_2.2.2.2.2]))))), Ck.mr T48 r0_1 gl0_0 c0_0 n0_0 mE7]) ⟨by exact rfl, by exact rfl, trivial⟩ (by decide)⟩)
  intro p3 hp4 hnd5
  have hin6 := mrlo_in H
  refine lv (.bool true) ?_
  refine ls_end ?_
  refine qn_then ?_
  refine cs_seq ?_
  refine cs_true (by kernel_rfl) ?_
  refine cs_skip' ?_
  refine qn_then ?_
  refine cs_block ?_
  refine cs_seq ?_
  refine cs_region (l := [_, _, _, _, _, _]) ?_
  refine ls_mrentry (T := T48) (gi := g1) (m := m1_3) (p := p3) 1 rfl rfl (by kernel_rfl) rfl (by kernel_rfl) (by exact rfl) ?_
  refine lv (.int .i64 p3.1) ?_
  refine lv (.agg ⟨en (Value.int .u8) p3.2.1⟩) ?_
  refine ls_new rfl rfl (by kernel_rfl) 2 (fun g => .pointer (some ⟨g, 0, none⟩)) (.cells ⟨en (Value.int .u8) (vrep 512 (0 : Int)).1⟩ 48) (fun w => by kernel_rfl) ?_
  intro g8
  refine lv (.int .i64 p3.1) ?_
  refine ls_storec (g := g8) (off := 0) (v := .agg ⟨en (Value.int .u8) p3.2.1⟩) (vs := en (Value.int .u8) p3.2.1) (cs := en (Value.int .u8) (vrep 512 (0 : Int)).1) (ty := 48) 2 rfl rfl rfl (by kernel_rfl) (by kernel_rfl) (by kernel_rfl) (by exact rfl) (by kernel_rfl) (len_en _ p3.2) (one_en (fun _ => rfl) _) (hl_of (Sub4.all _) (len_eq (len_en _ p3.2) (len_en _ (vrep 512 (0 : Int))))) (cs' := en (Value.int .u8) p3.2.1) (splc_all (len_eq (len_en _ p3.2) (len_en _ (vrep 512 (0 : Int))))) ?_
  refine ls_end ?_
  refine qn_then ?_
  refine cs_seq ?_
  obtain ⟨s10_0, hs10_0⟩ := exv (.pointer (some ⟨pg0, 0, none⟩))
  refine have_opa disk_Disk_Flush.tab8 3 0 (fun sp => sp 0 = s10_0) (fun sp on hA hon => ?_) (fun ops10_0 => ?_)
  · refine ⟨fun o ho vs Rs f' S' w hp hf hx hS hR hs => ?_⟩
    obtain rfl := Option.some.inj ho
    exact opv (.pointer (some ⟨pg0, 0, none⟩)) hA hs10_0 hon (fr_next (rfl) ((hx 0 (by kernel_rfl)).trans (by kernel_rfl : (_ : Value) = .pointer (some ⟨pg0, 0, none⟩))))
  obtain ⟨s10_1, hs10_1⟩ := exv (.pointer (some ⟨pg0, 0, none⟩))
  refine have_opa disk_Disk_Flush.tab8 3 1 (fun sp => sp 1 = s10_1 ∧ sp 0 = s10_0) (fun sp on hA hon => ?_) (fun ops10_1 => ?_)
  · refine ⟨fun o ho vs Rs f' S' w hp hf hx hS hR hs => ?_⟩
    obtain rfl := Option.some.inj ho
    obtain ⟨hv0, hR0⟩ := (spe hA.2 hs10_0 (hp 0 (by kernel_rfl)))
    exact opv (.pointer (some ⟨pg0, 0, none⟩)) hA.1 hs10_1 hon (fr_next (rfl) ((hf 0 23 (by kernel_rfl) rfl).trans hv0))
  obtain ⟨s10_2, hs10_2⟩ := exv (.pointer (some ⟨pg0, (0 + 0), none⟩))
  refine have_opa disk_Disk_Flush.tab8 3 2 (fun sp => sp 2 = s10_2 ∧ sp 1 = s10_1) (fun sp on hA hon => ?_) (fun ops10_2 => ?_)
  · refine ⟨fun o ho vs Rs f' S' w hp hf hx hS hR hs => ?_⟩
    obtain rfl := Option.some.inj ho
    obtain ⟨hv1, hR1⟩ := (spe hA.2 hs10_1 (hp 1 (by kernel_rfl)))
    exact opv (.pointer (some ⟨pg0, (0 + 0), none⟩)) hA.1 hs10_2 hon (fr_next (rfl) ((hf 1 24 (by kernel_rfl) rfl).trans hv1))
  obtain ⟨s10_3, hs10_3⟩ := exv (.slice (some ⟨gl0_0, 0, none⟩) n0_0 c0_0)
  refine have_opa disk_Disk_Flush.tab8 3 3 (fun sp => sp 3 = s10_3 ∧ sp 2 = s10_2) (fun sp on hA hon => ?_) (fun ops10_3 => ?_)
  · refine ⟨fun o ho vs Rs f' S' w hp hf hx hS hR hs => ?_⟩
    obtain rfl := Option.some.inj ho
    obtain ⟨hv2, hR2⟩ := (spe hA.2 hs10_2 (hp 2 (by kernel_rfl)))
    rw [hA.1, hs10_3]
    refine wn hon ?_
    have hF := fr_next (rfl) ((hf 2 25 (by kernel_rfl) rfl).trans hv2)
    refine ls_fr hF ?_
    refine ls_load (a0 := ⟨pg0, (0 + 0), none⟩) (v := .slice (some ⟨gl0_0, 0, none⟩) n0_0 c0_0) (de := (TypeDesc.slice 48)) rfl rfl (by kernel_rfl) rfl (by kernel_rfl) (by kernel_rfl) (by kernel_rfl) (fun w1 hs1 => cell_step hs1.below.bw (hs.var (k := 0) ((hS 0 (by kernel_rfl)).trans (by exact rfl)) (Sub4.trans (Sub4.all _) (Sub4.head _ _)))) ?_
    exact ls_fin s0 _ (congrArg (fun z => upd z 26 _) hF.symm) ⟨rfl, rfl⟩ (sub_nil _)
  obtain ⟨s10_4, hs10_4⟩ := exv (.int .i64 p3.1)
  refine have_opa disk_Disk_Flush.tab8 3 4 (fun sp => sp 4 = s10_4) (fun sp on hA hon => ?_) (fun ops10_4 => ?_)
  · refine ⟨fun o ho vs Rs f' S' w hp hf hx hS hR hs => ?_⟩
    obtain rfl := Option.some.inj ho
    exact opv (.int .i64 p3.1) hA hs10_4 hon (fr_next (rfl) ((hx 4 (by kernel_rfl)).trans (by kernel_rfl : (_ : Value) = .int .i64 p3.1)))
  obtain ⟨s10_5, hs10_5⟩ := exv (.agg ⟨en (Value.int .u8) p3.2.1⟩)
  refine have_opa disk_Disk_Flush.tab8 3 5 (fun sp => sp 5 = s10_5) (fun sp on hA hon => ?_) (fun ops10_5 => ?_)
  · refine ⟨fun o ho vs Rs f' S' w hp hf hx hS hR hs => ?_⟩
    obtain rfl := Option.some.inj ho
    rw [hA, hs10_5]
    refine wn hon ?_
    have hF := fr_next (rfl) ((hx 5 (by kernel_rfl)).trans (by kernel_rfl : (_ : Value) = .pointer (some ⟨g8, 0, none⟩)))
    refine ls_fr hF ?_
    refine ls_loadagg (a := ⟨g8, 0, none⟩) (sub := en (Value.int .u8) p3.2.1) rfl rfl (by kernel_rfl) rfl (by kernel_rfl) (by kernel_rfl) (by kernel_rfl) (len_en _ p3.2) (fun w1 hs1 => Rd.step (hs.vars (k := 2) ((hS 2 (by kernel_rfl)).trans (by exact rfl)) (Sub4.all _)) hs1.below.bw) ?_
    exact ls_fin s0 _ (congrArg (fun z => upd z 28 _) hF.symm) ⟨rfl, rfl⟩ (sub_nil _)
  refine cs_draw disk_Disk_Flush.tab8 6 3 (spl [s10_0, s10_1, s10_2, s10_3, s10_4, s10_5]) (onl [true, true, true, true, true, true]) (by kernel_rfl) (by kernel_rfl) (by kernel_rfl) (by kernel_rfl) (rs := [_, _]) rfl (by kernel_rfl) (by kernel_rfl) (all_snoc (all_snoc (all_snoc (all_snoc (all_snoc (all_snoc (all_nil) (ops10_0 _ _ rfl rfl)) (ops10_1 _ _ ⟨rfl, rfl⟩ rfl)) (ops10_2 _ _ ⟨rfl, rfl⟩ rfl)) (ops10_3 _ _ ⟨rfl, rfl⟩ rfl)) (ops10_4 _ _ rfl rfl)) (ops10_5 _ _ rfl rfl)) ?_
  intro vs Rs f' S' hp hf hx hS hR
  obtain ⟨hv3, hR3⟩ := (spe rfl hs10_3 (hp 3 (by kernel_rfl)))
  obtain ⟨hv4, hR4⟩ := (spe rfl hs10_4 (hp 4 (by kernel_rfl)))
  obtain ⟨hv5, hR5⟩ := (spe rfl hs10_5 (hp 5 (by kernel_rfl)))
  refine ls_fr (F := upd (upd (upd (upd (upd (upd f' 0 (.pointer (some ⟨pg0, 0, none⟩))) 4 (.int .i64 p3.1)) 17 (.pointer (some ⟨g1, 0, none⟩))) 26 (.slice (some ⟨gl0_0, 0, none⟩) n0_0 c0_0)) 27 (.int .i64 p3.1)) 28 (.agg ⟨en (Value.int .u8) p3.2.1⟩)) (fr_next (fr_next (fr_next (fr_next (fr_next (fr_next (rfl) ((hx 0 (by kernel_rfl)).trans (by kernel_rfl : (_ : Value) = .pointer (some ⟨pg0, 0, none⟩)))) ((hx 4 (by kernel_rfl)).trans (by kernel_rfl : (_ : Value) = .int .i64 p3.1))) ((hx 17 (by kernel_rfl)).trans (by kernel_rfl : (_ : Value) = .pointer (some ⟨g1, 0, none⟩)))) ((hf 3 26 (by kernel_rfl) rfl).trans hv3)) ((hf 4 27 (by kernel_rfl) rfl).trans hv4)) ((hf 5 28 (by kernel_rfl) rfl).trans hv5)) ?_
  refine ls_sub (sput (sput s0 0 (some (Ck.var 34 pg0 (([Value.slice (some ⟨gl0_0, 0, none⟩) n0_0 c0_0] ++ ([Value.map (some r0_1)] ++ ([Value.bool m0_2.2.2.1] ++ ([Value.int .i64 m0_2.2.2.2.1] ++ [Value.bool m0_2.2.2.2.2])))))))) 1 (some (Ck.mri T48 r0_1 gl0_0 c0_0 n0_0 g1 (some p3) m1_3))) (sub_put ((hS 1 (by kernel_rfl)).trans (by exact rfl)) (sub_put ((hS 0 (by kernel_rfl)).trans (by exact rfl)) (sub_nil _))) ?_
  refine ls_mrin 1 (by exact rfl) (fun hn12 => ?_)
  refine ls_ren 26 (v := .slice (some ⟨gl0_0, 0, none⟩) n0_0 c0_0) (v' := .slice (some ⟨gl0_0, 0, none⟩) m1_3.2.length c0_0) (by kernel_rfl) (by rw [hn12]) ?_
  refine ls_idxv T48 (A := (some ⟨gl0_0, 0, none⟩)) (c := c0_0) (l := m1_3.2) (k := .i64) (i := p3.1) (z := 512) (ad := (⟨gl0_0, 0, none⟩ : Addr)) rfl rfl (by kernel_rfl) rfl rfl (by kernel_rfl) (by kernel_rfl) (by kernel_rfl) (by kernel_rfl) (hin6 p3 hp4).1 (hin6 p3 hp4).2 ?_
  refine ls_mristore (T := T48) (m := m1_3) (off := ((p3.1).toNat * 512)) (v := .agg ⟨en (Value.int .u8) p3.2.1⟩) (vs := en (Value.int .u8) p3.2.1) (l' := (m1_3.2.set (p3.1).toNat p3.2)) 1 rfl rfl rfl (by kernel_rfl) (by kernel_rfl) (by kernel_rfl) (by exact rfl) (by kernel_rfl) (len_en _ p3.2) (one_en (fun _ => rfl) _) (hl_of (em_sub T48 m1_3.2 (i := (p3.1).toNat) (by have h0 : (0 : Int) ≤ p3.1 := (hin6 p3 hp4).1; have h1 : p3.1 < (m1_3.2.length : Int) := (hin6 p3 hp4).2; omega)) (len_eq (len_en _ p3.2) (len_en _ ((m1_3.2).getD (p3.1).toNat (vrep 512 (0 : Int)))))) (splc_em T48 m1_3.2 p3.2 (i := (p3.1).toNat) (by have h0 : (0 : Int) ≤ p3.1 := (hin6 p3 hp4).1; have h1 : p3.1 < (m1_3.2.length : Int) := (hin6 p3 hp4).2; omega)) (by rw [List.length_set]) ?_
  refine ls_end ?_
  refine qn_then ?_
  refine cs_region (l := [_, _, _, _, _, _]) ?_
  refine lv (.pointer (some ⟨pg0, 0, none⟩)) ?_
  refine lv (.pointer (some ⟨pg0, 0, none⟩)) ?_
  refine lv (.pointer (some ⟨pg0, (0 + 1), none⟩)) ?_
  refine ls_load (a0 := ⟨pg0, (0 + 1), none⟩) (v := .map (some r0_1)) (de := (TypeDesc.map 3 48)) rfl rfl (by kernel_rfl) rfl (by kernel_rfl) (by kernel_rfl) (by kernel_rfl) (fun w hs => (hs.var (k := 0) (by exact rfl) (Sub4.trans (Sub4.all _) (Sub4.skip (n := 1) (len1 _) (Sub4.head _ _))))) ?_
  refine lv (.int .i64 p3.1) ?_
  refine ls_mridel (T := T48) (m := (m1_3.1, (m1_3.2.set (p3.1).toNat p3.2))) (p := p3) (kt := 3) (et := 48) 1 rfl rfl rfl (by kernel_rfl) (by kernel_rfl) (by kernel_rfl) (by kernel_rfl) (by exact rfl) ?_
  replace H := mrlo_step H hp4 hnd5
  refine ls_end ?_
  refine qn_block ?_
  refine qn_again k3 (sput (sput s0 0 (some (Ck.var 34 pg0 (([Value.slice (some ⟨gl0_0, 0, none⟩) n0_0 c0_0] ++ ([Value.map (some r0_1)] ++ ([Value.bool m0_2.2.2.1] ++ ([Value.int .i64 m0_2.2.2.2.1] ++ [Value.bool m0_2.2.2.2.2])))))))) 1 (some (Ck.mri T48 r0_1 gl0_0 c0_0 n0_0 g1 none (mdel p3.1 m1_3.1, (m1_3.2.set (p3.1).toNat p3.2))))) (Nat.le_refl _) ⟨_, (mdel p3.1 m1_3.1, (m1_3.2.set (p3.1).toNat p3.2)), fr_next (fr_next (rfl) (by kernel_rfl)) (by kernel_rfl), rfl, H⟩ (sub_put (by exact rfl) (sub_put (by exact rfl) (sub_nil _)))

/-! ### (*shadowbox/disk.Disk).Read: function 10 -/
def disk_Disk_Read.f (k : Nat) (v0 : (Unit × Unit × Bool × Int × Bool)) (w0_1 : (List (Int × (Vc Int 512)) × List (Vc Int 512))) (a1 : Int) : Option ((List Int) × Int) :=
  (disk_Disk_check.f k ((), (), v0.2.2.1, v0.2.2.2.1, v0.2.2.2.2) w0_1 a1).bind fun t1 => (if t1 = (0 : Int) then (if (mget a1 w0_1.1).isSome = true then some (((mget a1 w0_1.1).getD (vrep 512 (0 : Int))).1, (0 : Int)) else (if 0 ≤ a1 then (if a1 < (w0_1.2.length : Int) then some (((w0_1.2).getD (a1).toNat (vrep 512 (0 : Int))).1, (0 : Int)) else none) else none)) else some (([] : List Int), t1))
set_option maxRecDepth 100000 in
set_option maxHeartbeats 4000000 in
theorem disk_Disk_Read.calls (k : Nat) (pg0 : Nat) (gl0_0 : Nat) (n0_0 : Nat) (c0_0 : Nat) (r0_1 : Nat) (v0 : (Unit × Unit × Bool × Int × Bool)) (w0_1 : (List (Int × (Vc Int 512)) × List (Vc Int 512))) (a1 : Int) (r : (List Int) × Int) (b : Bs) (hs0 : St b (stl [Ck.var 34 pg0 (([Value.slice (some ⟨gl0_0, 0, none⟩) n0_0 c0_0] ++ ([Value.map (some r0_1)] ++ ([Value.bool v0.2.2.1] ++ ([Value.int .i64 v0.2.2.2.1] ++ [Value.bool v0.2.2.2.2]))))), Ck.mr T48 r0_1 gl0_0 c0_0 n0_0 w0_1]) b.w) (H : disk_Disk_Read.f k v0 w0_1 a1 = some r) :
    Calls Try.prog 10 #[.pointer (some ⟨pg0, 0, none⟩), .int .i64 a1] b.w fun e w' => ∃ x : (Option Addr × Nat), e = .returned (.tuple #[.slice x.1 r.1.length x.2, .int .i64 r.2]) ∧ St b (stl [Ck.var 34 pg0 (([Value.slice (some ⟨gl0_0, 0, none⟩) n0_0 c0_0] ++ ([Value.map (some r0_1)] ++ ([Value.bool v0.2.2.1] ++ ([Value.int .i64 v0.2.2.2.1] ++ [Value.bool v0.2.2.2.2]))))), Ck.mr T48 r0_1 gl0_0 c0_0 n0_0 w0_1, Ck.ro (Ec.int 5 .u8) x.1 x.2 r.1]) w' := by
  unfold disk_Disk_Read.f at H
  refine enterb (n := 34) Try.func10 rfl (by kernel_rfl) (by kernel_rfl) hs0 ?_
  refine cs_sub (sput (sput s0 0 (some (Ck.var 34 pg0 (([Value.slice (some ⟨gl0_0, 0, none⟩) n0_0 c0_0] ++ ([Value.map (some r0_1)] ++ ([Value.bool v0.2.2.1] ++ ([Value.int .i64 v0.2.2.2.1] ++ [Value.bool v0.2.2.2.2])))))))) 1 (some (Ck.mr T48 r0_1 gl0_0 c0_0 n0_0 w0_1))) (sub_put (by exact rfl) (sub_put (by exact rfl) (sub_nil _))) ?_
  refine cs_seq ?_
  refine cs_region (l := [_, _]) ?_
  refine lv (.slice none 0 0) ?_
  refine lv (.int .i64 (0 : Int)) ?_
  refine ls_end ?_
  refine qn_then ?_
  refine cs_seq ?_
  refine cs_seq ?_
  refine cs_region (l := [_, _, _, _]) ?_
  refine lv (.pointer (some ⟨pg0, 0, none⟩)) ?_
  refine lv (.int .i64 a1) ?_
  obtain ⟨t1, hc2, H⟩ := bind_some H
  refine ls_callb (fid := 15) (vals := #[.pointer (some ⟨pg0, 0, none⟩), .int .i64 a1]) (X := Unit) (fun x => .int .i64 t1) (fun x => stl [Ck.var 34 pg0 (([Value.slice (some ⟨gl0_0, 0, none⟩) n0_0 c0_0] ++ ([Value.map (some r0_1)] ++ ([Value.bool v0.2.2.1] ++ ([Value.int .i64 v0.2.2.2.1] ++ [Value.bool v0.2.2.2.2]))))), Ck.mr T48 r0_1 gl0_0 c0_0 n0_0 w0_1]) [0, 1] [] [Ck.var 34 pg0 (([Value.slice (some ⟨gl0_0, 0, none⟩) n0_0 c0_0] ++ ([Value.map (some r0_1)] ++ ([Value.bool v0.2.2.1] ++ ([Value.int .i64 v0.2.2.2.1] ++ [Value.bool v0.2.2.2.2]))))), Ck.mr T48 r0_1 gl0_0 c0_0 n0_0 w0_1] [] 2 rfl rfl (by kernel_rfl) (fun w => by kernel_rfl) ⟨by exact rfl, by exact rfl, trivial⟩ trivial (by decide) (fun w hs hb => disk_Disk_check.calls k pg0 gl0_0 n0_0 c0_0 r0_1 ((), (), v0.2.2.1, v0.2.2.2.1, v0.2.2.2.2) w0_1 a1 t1 (lent b w [Ck.var 34 pg0 (([Value.slice (some ⟨gl0_0, 0, none⟩) n0_0 c0_0] ++ ([Value.map (some r0_1)] ++ ([Value.bool v0.2.2.1] ++ ([Value.int .i64 v0.2.2.2.1] ++ [Value.bool v0.2.2.2.2]))))), Ck.mr T48 r0_1 gl0_0 c0_0 n0_0 w0_1] []) hb  hc2) ?_
  intro x3
  refine lv (.int .i64 t1) ?_
  refine ls_end ?_
  refine qn_then ?_
  refine cs_seq ?_
  refine cs_region (l := [_, _]) ?_
  refine lv (.int .i64 t1) ?_
  refine lv (.bool (!decide (t1 = (0 : Int)))) ?_
  refine ls_end ?_
  refine qn_then ?_
  by_cases q4 : t1 = (0 : Int)
  · replace H := ite_t q4 H
    refine cs_know (c := false) (congrArg Bool.not (dec_t q4)) 13 (by kernel_rfl) ?_
    refine cs_false (by kernel_rfl) ?_
    refine cs_skip' ?_
    refine qn_then ?_
    refine cs_seq ?_
    refine cs_region (l := [_, _, _, _, _, _, _, _, _, _, _, _]) ?_
    refine lv (.pointer (some ⟨pg0, 0, none⟩)) ?_
    refine lv (.pointer (some ⟨pg0, 0, none⟩)) ?_
    refine lv (.pointer (some ⟨pg0, (0 + 1), none⟩)) ?_
    refine ls_load (a0 := ⟨pg0, (0 + 1), none⟩) (v := .map (some r0_1)) (de := (TypeDesc.map 3 48)) rfl rfl (by kernel_rfl) rfl (by kernel_rfl) (by kernel_rfl) (by kernel_rfl) (fun w hs => (hs.var (k := 0) (by exact rfl) (Sub4.trans (Sub4.all _) (Sub4.skip (n := 1) (len1 _) (Sub4.head _ _))))) ?_
    refine lv (.int .i64 a1) ?_
    refine ls_mrlook (T := T48) (r := r0_1) (m := w0_1) (kt := 3) (et := 48) (i := a1) 1 rfl rfl (by kernel_rfl) rfl (by kernel_rfl) (by kernel_rfl) (by kernel_rfl) (by kernel_rfl) (by kernel_rfl) (by exact rfl) ?_
    refine lv (.tuple #[.agg ⟨en (Value.int .u8) ((mget a1 w0_1.1).getD (vrep 512 (0 : Int))).1⟩, .bool ((mget a1 w0_1.1).isSome)]) ?_
    refine lv (.agg ⟨en (Value.int .u8) ((mget a1 w0_1.1).getD (vrep 512 (0 : Int))).1⟩) ?_
    refine lv (.bool ((mget a1 w0_1.1).isSome)) ?_
    refine ls_new rfl rfl (by kernel_rfl) 2 (fun g => .pointer (some ⟨g, 0, none⟩)) (.cells ⟨en (Value.int .u8) (vrep 512 (0 : Int)).1⟩ 48) (fun w => by kernel_rfl) ?_
    intro g5
    refine ls_storec (g := g5) (off := 0) (v := .agg ⟨en (Value.int .u8) ((mget a1 w0_1.1).getD (vrep 512 (0 : Int))).1⟩) (vs := en (Value.int .u8) ((mget a1 w0_1.1).getD (vrep 512 (0 : Int))).1) (cs := en (Value.int .u8) (vrep 512 (0 : Int)).1) (ty := 48) 2 rfl rfl rfl (by kernel_rfl) (by kernel_rfl) (by kernel_rfl) (by exact rfl) (by kernel_rfl) (len_en _ ((mget a1 w0_1.1).getD (vrep 512 (0 : Int)))) (one_en (fun _ => rfl) _) (hl_of (Sub4.all _) (len_eq (len_en _ ((mget a1 w0_1.1).getD (vrep 512 (0 : Int)))) (len_en _ (vrep 512 (0 : Int))))) (cs' := en (Value.int .u8) ((mget a1 w0_1.1).getD (vrep 512 (0 : Int))).1) (splc_all (len_eq (len_en _ ((mget a1 w0_1.1).getD (vrep 512 (0 : Int)))) (len_en _ (vrep 512 (0 : Int))))) ?_
    refine lv (.bool ((mget a1 w0_1.1).isSome)) ?_
    refine ls_end ?_
    refine qn_then ?_
    refine cs_seq ?_
    refine cs_seq ?_
    refine cs_region (l := [_, _]) ?_
    refine lv (.bool ((mget a1 w0_1.1).isSome)) ?_
    refine lv (.bool (!((mget a1 w0_1.1).isSome))) ?_
    refine ls_end ?_
    refine qn_then ?_
    by_cases q6 : (mget a1 w0_1.1).isSome = true
    · replace H := ite_t q6 H
      refine cs_know (c := false) (congrArg Bool.not (q6)) 25 (by kernel_rfl) ?_
      refine cs_false (by kernel_rfl) ?_
      refine cs_skip' ?_
      refine qn_then ?_
      refine cs_seq ?_
      refine cs_region (l := [_, _, _]) ?_
      refine ls_val (v := .slice (some ⟨g5, 0, none⟩) ((mget a1 w0_1.1).getD (vrep 512 (0 : Int))).1.length 512) rfl rfl (by kernel_rfl) (fun w => by rw [show ((mget a1 w0_1.1).getD (vrep 512 (0 : Int))).1.length = 512 from ((mget a1 w0_1.1).getD (vrep 512 (0 : Int))).2]; kernel_rfl) ?_
      refine lv (.slice (some ⟨g5, 0, none⟩) ((mget a1 w0_1.1).getD (vrep 512 (0 : Int))).1.length 512) ?_
      refine lv (.int .i64 (0 : Int)) ?_
      refine ls_end ?_
      refine qn_then ?_
      refine cs_ret' ?_
      refine qr_torov (Ec.int 5 .u8) (((mget a1 w0_1.1).getD (vrep 512 (0 : Int))).1) 512 2 3 (by exact rfl) (by rw [em_int]; exact (Sub4.all _)) (Nat.le_of_eq ((mget a1 w0_1.1).getD (vrep 512 (0 : Int))).2) ?_
      obtain rfl := Option.some.inj H
      refine qr_res (rs := [_, _]) rfl (fun w' hs => ⟨[.slice (some ⟨g5, 0, none⟩) ((mget a1 w0_1.1).getD (vrep 512 (0 : Int))).1.length 512, .int .i64 (0 : Int)], (res_tmp (by kernel_rfl) (res_tmp (by kernel_rfl) (.nil))), ((some ⟨g5, 0, none⟩), 512), rfl, hs.pick (ts := [0, 1, 3]) (cs := [Ck.var 34 pg0 (([Value.slice (some ⟨gl0_0, 0, none⟩) n0_0 c0_0] ++ ([Value.map (some r0_1)] ++ ([Value.bool v0.2.2.1] ++ ([Value.int .i64 v0.2.2.2.1] ++ [Value.bool v0.2.2.2.2]))))), Ck.mr T48 r0_1 gl0_0 c0_0 n0_0 w0_1, Ck.ro (Ec.int 5 .u8) (some ⟨g5, 0, none⟩) 512 (((mget a1 w0_1.1).getD (vrep 512 (0 : Int))).1)]) ⟨by exact rfl, by exact rfl, by exact rfl, trivial⟩ (by decide)⟩)
    replace H := ite_f q6 H
    refine cs_know (c := true) (congrArg Bool.not (Bool.eq_false_iff.mpr q6)) 25 (by kernel_rfl) ?_
    refine cs_true (by kernel_rfl) ?_
    refine cs_region (l := [_, _, _, _, _, _, _, _]) ?_
    refine lv (.pointer (some ⟨pg0, 0, none⟩)) ?_
    refine lv (.pointer (some ⟨pg0, 0, none⟩)) ?_
    refine lv (.pointer (some ⟨pg0, (0 + 0), none⟩)) ?_
    refine ls_mrn 1 (by exact rfl) (fun hn7 => ?_)
    refine ls_load (a0 := ⟨pg0, (0 + 0), none⟩) (v := .slice (some ⟨gl0_0, 0, none⟩) n0_0 c0_0) (de := (TypeDesc.slice 48)) rfl rfl (by kernel_rfl) rfl (by kernel_rfl) (by kernel_rfl) (by kernel_rfl) (fun w hs => (hs.var (k := 0) (by exact rfl) (Sub4.trans (Sub4.all _) (Sub4.head _ _)))) ?_
    refine ls_ren 29 (v := .slice (some ⟨gl0_0, 0, none⟩) n0_0 c0_0) (v' := .slice (some ⟨gl0_0, 0, none⟩) w0_1.2.length c0_0) (by kernel_rfl) (by rw [hn7]) ?_
    refine lv (.int .i64 a1) ?_
    obtain ⟨q8, H⟩ := ite_need H
    obtain ⟨q9, H⟩ := ite_need H
    refine ls_idxv T48 (A := (some ⟨gl0_0, 0, none⟩)) (c := c0_0) (l := w0_1.2) (k := .i64) (i := a1) (z := 512) (ad := (⟨gl0_0, 0, none⟩ : Addr)) rfl rfl (by kernel_rfl) rfl rfl (by kernel_rfl) (by kernel_rfl) (by kernel_rfl) (by kernel_rfl) q8 q9 ?_
    refine ls_loadagg (a := ((⟨gl0_0, 0, none⟩ : Addr).add ((a1).toNat * 512))) (sub := en (Value.int .u8) ((w0_1.2).getD (a1).toNat (vrep 512 (0 : Int))).1) rfl rfl (by kernel_rfl) rfl (by kernel_rfl) (by kernel_rfl) (by kernel_rfl) (len_en _ ((w0_1.2).getD (a1).toNat (vrep 512 (0 : Int)))) (fun w hs => (hs.mrrd (k := 1) (by exact rfl)).part rfl (em_sub T48 w0_1.2 (i := (a1).toNat) (by have h0 : (0 : Int) ≤ a1 := q8; have h1 : a1 < (w0_1.2.length : Int) := q9; omega))) ?_
    refine ls_storec (g := g5) (off := 0) (v := .agg ⟨en (Value.int .u8) ((w0_1.2).getD (a1).toNat (vrep 512 (0 : Int))).1⟩) (vs := en (Value.int .u8) ((w0_1.2).getD (a1).toNat (vrep 512 (0 : Int))).1) (cs := en (Value.int .u8) ((mget a1 w0_1.1).getD (vrep 512 (0 : Int))).1) (ty := 48) 2 rfl rfl rfl (by kernel_rfl) (by kernel_rfl) (by kernel_rfl) (by exact rfl) (by kernel_rfl) (len_en _ ((w0_1.2).getD (a1).toNat (vrep 512 (0 : Int)))) (one_en (fun _ => rfl) _) (hl_of (Sub4.all _) (len_eq (len_en _ ((w0_1.2).getD (a1).toNat (vrep 512 (0 : Int)))) (len_en _ ((mget a1 w0_1.1).getD (vrep 512 (0 : Int)))))) (cs' := en (Value.int .u8) ((w0_1.2).getD (a1).toNat (vrep 512 (0 : Int))).1) (splc_all (len_eq (len_en _ ((w0_1.2).getD (a1).toNat (vrep 512 (0 : Int)))) (len_en _ ((mget a1 w0_1.1).getD (vrep 512 (0 : Int)))))) ?_
    refine ls_end ?_
    refine qn_then ?_
    refine cs_seq ?_
    refine cs_region (l := [_, _, _]) ?_
    refine ls_val (v := .slice (some ⟨g5, 0, none⟩) ((w0_1.2).getD (a1).toNat (vrep 512 (0 : Int))).1.length 512) rfl rfl (by kernel_rfl) (fun w => by rw [show ((w0_1.2).getD (a1).toNat (vrep 512 (0 : Int))).1.length = 512 from ((w0_1.2).getD (a1).toNat (vrep 512 (0 : Int))).2]; kernel_rfl) ?_
    refine lv (.slice (some ⟨g5, 0, none⟩) ((w0_1.2).getD (a1).toNat (vrep 512 (0 : Int))).1.length 512) ?_
    refine lv (.int .i64 (0 : Int)) ?_
    refine ls_end ?_
    refine qn_then ?_
    refine cs_ret' ?_
    refine qr_torov (Ec.int 5 .u8) (((w0_1.2).getD (a1).toNat (vrep 512 (0 : Int))).1) 512 2 3 (by exact rfl) (by rw [em_int]; exact (Sub4.all _)) (Nat.le_of_eq ((w0_1.2).getD (a1).toNat (vrep 512 (0 : Int))).2) ?_
    obtain rfl := Option.some.inj H
    refine qr_res (rs := [_, _]) rfl (fun w' hs => ⟨[.slice (some ⟨g5, 0, none⟩) ((w0_1.2).getD (a1).toNat (vrep 512 (0 : Int))).1.length 512, .int .i64 (0 : Int)], (res_tmp (by kernel_rfl) (res_tmp (by kernel_rfl) (.nil))), ((some ⟨g5, 0, none⟩), 512), rfl, hs.pick (ts := [0, 1, 3]) (cs := [Ck.var 34 pg0 (([Value.slice (some ⟨gl0_0, 0, none⟩) n0_0 c0_0] ++ ([Value.map (some r0_1)] ++ ([Value.bool v0.2.2.1] ++ ([Value.int .i64 v0.2.2.2.1] ++ [Value.bool v0.2.2.2.2]))))), Ck.mr T48 r0_1 gl0_0 c0_0 n0_0 w0_1, Ck.ro (Ec.int 5 .u8) (some ⟨g5, 0, none⟩) 512 (((w0_1.2).getD (a1).toNat (vrep 512 (0 : Int))).1)]) ⟨by exact rfl, by exact rfl, by exact rfl, trivial⟩ (by decide)⟩)
  replace H := ite_f q4 H
  refine cs_know (c := true) (congrArg Bool.not (dec_f q4)) 13 (by kernel_rfl) ?_
  refine cs_true (by kernel_rfl) ?_
  refine cs_seq ?_
  refine cs_region (l := [_, _, _]) ?_
  refine lv (.int .i64 t1) ?_
  refine lv (.slice none 0 0) ?_
  refine lv (.int .i64 t1) ?_
  refine ls_end ?_
  refine qn_then ?_
  refine cs_ret' ?_
  refine qr_then ?_
  refine qr_nilro 2 (Ec.int 5 .u8) ?_
  obtain rfl := Option.some.inj H
  refine qr_res (rs := [_, _]) rfl (fun w' hs => ⟨[.slice none 0 0, .int .i64 t1], (res_tmp (by kernel_rfl) (res_tmp (by kernel_rfl) (.nil))), (none, 0), rfl, hs.pick (ts := [0, 1, 2]) (cs := [Ck.var 34 pg0 (([Value.slice (some ⟨gl0_0, 0, none⟩) n0_0 c0_0] ++ ([Value.map (some r0_1)] ++ ([Value.bool v0.2.2.1] ++ ([Value.int .i64 v0.2.2.2.1] ++ [Value.bool v0.2.2.2.2]))))), Ck.mr T48 r0_1 gl0_0 c0_0 n0_0 w0_1, Ck.ro (Ec.int 5 .u8) none 0 ([] : List Int)]) ⟨by exact rfl, by exact rfl, by exact rfl, trivial⟩ (by decide)⟩)

/-! ### slices.Clone[[]shadowbox/disk.sector,shadowbox/disk.sector]: function 17 -/
def slices_Clone_17.f (k : Nat) (l0 : List (Vc Int 512)) : Option ((List (Vc Int 512))) :=
  (if (([] : List (Vc Int 512)).length + l0.length) * 512 ≤ 140737488355328 then some (([] : List (Vc Int 512)) ++ l0) else none)
set_option maxRecDepth 100000 in
set_option maxHeartbeats 4000000 in
theorem slices_Clone_17.calls (k : Nat) (A0 : Option Addr) (c0 : Nat) (l0 : List (Vc Int 512)) (r : (List (Vc Int 512))) (b : Bs) (hs0 : St b (stl []) b.w) (R0 : Ro b A0 (em T48 l0)) (C0 : l0.length ≤ c0) (H : slices_Clone_17.f k l0 = some r) :
    Calls Try.prog 17 #[.slice A0 l0.length c0] b.w fun e w' => ∃ x : (Option Addr × Nat), e = .returned (.slice x.1 r.length x.2) ∧ St b (stl [Ck.sl T48 x.1 x.2 r]) w' := by
  unfold slices_Clone_17.f at H
  refine enterb (n := 8) Try.func17 rfl (by kernel_rfl) (by kernel_rfl) hs0 ?_
  refine cs_sub (s0) (sub_nil _) ?_
  refine cs_seq ?_
  refine cs_region (l := [_]) ?_
  refine lv (.slice none 0 0) ?_
  refine ls_end ?_
  refine qn_then ?_
  refine cs_seq ?_
  refine cs_seq ?_
  refine cs_region (l := [_, _]) ?_
  refine lv (.slice A0 l0.length c0) ?_
  refine ls_val (v := .bool (Option.isNone A0)) rfl rfl (by kernel_rfl) (fun w => by cases A0 <;> kernel_rfl) ?_
  refine ls_end ?_
  refine qn_then ?_
  by_cases q1 : A0 = none
  · have hl2 : l0 = [] := Ro.nil_of (T := T48) R0 q1
    replace H : (some ([] : List (Vc Int 512))) = some r := by first | (rw [hl2] at H; simpa using H) | simpa [hl2] using H
    refine cs_know (c := true) (isNone_t q1) 4 (by kernel_rfl) ?_
    refine cs_true (by kernel_rfl) ?_
    refine cs_seq ?_
    refine cs_region (l := [_]) ?_
    refine lv (.slice none 0 0) ?_
    refine ls_end ?_
    refine qn_then ?_
    refine cs_ret' ?_
    refine qr_then ?_
    refine qr_nilrow 0 T48 ?_
    obtain rfl := Option.some.inj H
    refine qr_res (rs := [_]) rfl (fun w' hs => ⟨[.slice none 0 0], (res_tmp (by kernel_rfl) (.nil)), (none, 0), rfl, hs.pick (ts := [0]) (cs := [Ck.sl T48 none 0 ([] : List (Vc Int 512))]) ⟨by exact rfl, trivial⟩ (by decide)⟩)
  skip
  refine cs_know (c := false) (isNone_f q1) 4 (by kernel_rfl) ?_
  refine cs_false (by kernel_rfl) ?_
  refine cs_skip' ?_
  refine qn_then ?_
  refine cs_seq ?_
  refine cs_region (l := [_, _, _, _]) ?_
  refine ls_lit T48 0 rfl rfl (by kernel_rfl) ([] : List (Vc Int 512)) (by exact of_decide_eq_true (by kernel_rfl)) (fun w => by kernel_rfl) ?_
  intro g3
  refine lv (.slice A0 l0.length c0) ?_
  obtain ⟨q4, H⟩ := ite_need H
  refine ls_app T48 (A := (some ⟨g3, 0, none⟩)) (c := ([] : List (Vc Int 512)).length) (B := A0) (cb := c0) (z := (.agg ⟨en (Value.int .u8) (vrep 512 (0 : Int)).1⟩)) (l := ([] : List (Vc Int 512))) (m := l0) (bytes := 512) 0 rfl rfl (by kernel_rfl) rfl (by kernel_rfl) (by exact rfl) (by kernel_rfl) (fun w hs => (hs.old R0)) (by kernel_rfl) (by kernel_rfl) rfl (by decide) q4 ?_
  intro xA5 xc6
  refine lv (.slice xA5 (([] : List (Vc Int 512)) ++ l0).length xc6) ?_
  refine ls_end ?_
  refine qn_then ?_
  refine cs_ret' ?_
  obtain rfl := Option.some.inj H
  refine qr_res (rs := [_]) rfl (fun w' hs => ⟨[.slice xA5 (([] : List (Vc Int 512)) ++ l0).length xc6], (res_tmp (by kernel_rfl) (.nil)), (xA5, xc6), rfl, hs.pick (ts := [0]) (cs := [Ck.sl T48 xA5 xc6 (([] : List (Vc Int 512)) ++ l0)]) ⟨by exact rfl, trivial⟩ (by decide)⟩)

/-! ### (*shadowbox/disk.Disk).Crash: function 11 -/
def disk_Disk_Crash.tab25 : List (List Nat) := [[], [0], [0, 1], [0, 1, 2], [], [0, 1, 2, 3, 4], [0, 1, 2, 3, 4, 5], [], [], [7, 8], [7, 8, 9], [7, 8, 9, 10], [7, 8, 9, 10, 11], [7, 8, 9, 10, 11, 12], [0, 1, 2, 3, 4, 5, 6, 7, 8, 9, 10, 11, 12, 13]]
def disk_Disk_Crash.jo4 (w0_1 : (List (Int × (Vc Int 512)) × List (Vc Int 512))) (l1 : List Int) (y16 : List Int) (x39_3 : Int) (m3_3 : (List (Int × (Vc Int 512)) × List (Vc Int 512))) (lo3 : Int → ((List (Int × (Vc Int 512)) × List (Vc Int 512))) → Option (((Unit × Unit × Bool × Int × Bool) × (List (Int × (Vc Int 512)) × List (Vc Int 512))) × Int)) : Option (((Unit × Unit × Bool × Int × Bool) × (List (Int × (Vc Int 512)) × List (Vc Int 512))) × Int) := (if 0 ≤ x39_3 then (if x39_3 < (y16.length : Int) then (if x39_3 = (l1.length : Int) then some ((((), (), false, (0 : Int), false), m3_3), (0 : Int)) else (if 0 ≤ ((y16).getD (x39_3).toNat (0 : Int)) then (if ((y16).getD (x39_3).toNat (0 : Int)) < (m3_3.2.length : Int) then (if x39_3 < (l1.length : Int) then lt ((if ((l1).getD (x39_3).toNat (0 : Int)) < (0 : Int) then (0 : Int) else ((l1).getD (x39_3).toNat (0 : Int)))) fun y34 => lt ((if (512 : Int) < y34 then (512 : Int) else y34)) fun y36 => (if 0 ≤ y36 then (if y36 ≤ (512 : Int) then lt (List.take (y36).toNat ((mget ((y16).getD (x39_3).toNat (0 : Int)) w0_1.1).getD (vrep 512 (0 : Int))).1) fun xl44 => lt (m3_3.2.set (((y16).getD (x39_3).toNat (0 : Int))).toNat (vcopy ((m3_3.2).getD (((y16).getD (x39_3).toNat (0 : Int))).toNat (vrep 512 (0 : Int))) xl44)) fun y50 => lo3 (IntKind.wrap .i64 (x39_3 + (1 : Int))) (m3_3.1, y50) else none) else none) else none) else none) else none)) else none) else none)
def disk_Disk_Crash.lo3 (w0_1 : (List (Int × (Vc Int 512)) × List (Vc Int 512))) (l1 : List Int) (y16 : List Int) : Nat → Int → ((List (Int × (Vc Int 512)) × List (Vc Int 512))) → Option (((Unit × Unit × Bool × Int × Bool) × (List (Int × (Vc Int 512)) × List (Vc Int 512))) × Int)
  | 0, _, _ => none
  | k3 + 1, x39_3, m3_3 => (if x39_3 < (y16.length : Int) then (disk_Disk_Crash.jo4 w0_1 l1 y16 x39_3 m3_3 (disk_Disk_Crash.lo3 w0_1 l1 y16 k3)) else some ((((), (), false, (0 : Int), false), m3_3), (0 : Int)))
def disk_Disk_Crash.lo2 (k : Nat) (w0_1 : (List (Int × (Vc Int 512)) × List (Vc Int 512))) (l1 : List Int) (t2 : (List (Vc Int 512))) : Nat → (List Int) → (List (Int × (Vc Int 512))) → Option (((Unit × Unit × Bool × Int × Bool) × (List (Int × (Vc Int 512)) × List (Vc Int 512))) × Int) := fun kk ll ff => mrks (fun zz15 => lt (zz15) fun y16 => (if y16.length < 4611686018427387904 then disk_Disk_Crash.lo3 w0_1 l1 y16 k (0 : Int) (([] : List (Int × (Vc Int 512))), t2) else none)) kk ll ff
def disk_Disk_Crash.jo1 (k : Nat) (w0_1 : (List (Int × (Vc Int 512)) × List (Vc Int 512))) (l1 : List Int) : Option (((Unit × Unit × Bool × Int × Bool) × (List (Int × (Vc Int 512)) × List (Vc Int 512))) × Int) := (slices_Clone_17.f k w0_1.2).bind fun t2 => (if 0 < t2.length then disk_Disk_Crash.lo2 k w0_1 l1 t2 k ([] : List Int) w0_1.1 else none)
def disk_Disk_Crash.f (k : Nat) (v0 : (Unit × Unit × Bool × Int × Bool)) (w0_1 : (List (Int × (Vc Int 512)) × List (Vc Int 512))) (l1 : List Int) : Option (((Unit × Unit × Bool × Int × Bool) × (List (Int × (Vc Int 512)) × List (Vc Int 512))) × Int) :=
  (disk_Disk_Crash.jo1 k w0_1 l1)
set_option maxRecDepth 100000 in
set_option maxHeartbeats 4000000 in
theorem disk_Disk_Crash.calls (k : Nat) (pg0 : Nat) (gl0_0 : Nat) (n0_0 : Nat) (c0_0 : Nat) (r0_1 : Nat) (v0 : (Unit × Unit × Bool × Int × Bool)) (w0_1 : (List (Int × (Vc Int 512)) × List (Vc Int 512))) (A1 : Option Addr) (c1 : Nat) (l1 : List Int) (r : ((Unit × Unit × Bool × Int × Bool) × (List (Int × (Vc Int 512)) × List (Vc Int 512))) × Int) (b : Bs) (hs0 : St b (stl [Ck.var 34 pg0 (([Value.slice (some ⟨gl0_0, 0, none⟩) n0_0 c0_0] ++ ([Value.map (some r0_1)] ++ ([Value.bool v0.2.2.1] ++ ([Value.int .i64 v0.2.2.2.1] ++ [Value.bool v0.2.2.2.2]))))), Ck.mr T48 r0_1 gl0_0 c0_0 n0_0 w0_1]) b.w) (R1 : Ro b A1 (em (Ec.int 3 .i64) l1)) (C1 : l1.length ≤ c1) (H : disk_Disk_Crash.f k v0 w0_1 l1 = some r) :
    Calls Try.prog 11 #[.pointer (some ⟨pg0, 0, none⟩), .slice A1 l1.length c1] b.w fun e w' => ∃ x : Nat × Nat × Nat × Nat × Nat, e = .returned (.tuple #[.pointer (some ⟨x.1, 0, none⟩), .int .i64 r.2]) ∧ St b (stl [Ck.var 34 pg0 (([Value.slice (some ⟨gl0_0, 0, none⟩) n0_0 c0_0] ++ ([Value.map (some r0_1)] ++ ([Value.bool v0.2.2.1] ++ ([Value.int .i64 v0.2.2.2.1] ++ [Value.bool v0.2.2.2.2]))))), Ck.mr T48 r0_1 gl0_0 c0_0 n0_0 w0_1, Ck.var 34 x.1 (([Value.slice (some ⟨x.2.2.1, 0, none⟩) x.2.2.2.2 x.2.2.2.1] ++ ([Value.map (some x.2.1)] ++ ([Value.bool r.1.1.2.2.1] ++ ([Value.int .i64 r.1.1.2.2.2.1] ++ [Value.bool r.1.1.2.2.2.2]))))), Ck.mr T48 x.2.1 x.2.2.1 x.2.2.2.1 x.2.2.2.2 r.1.2]) w' := by
  unfold disk_Disk_Crash.f at H
  refine enterb (n := 71) Try.func11 rfl (by kernel_rfl) (by kernel_rfl) hs0 ?_
  refine cs_sub (sput (sput s0 0 (some (Ck.var 34 pg0 (([Value.slice (some ⟨gl0_0, 0, none⟩) n0_0 c0_0] ++ ([Value.map (some r0_1)] ++ ([Value.bool v0.2.2.1] ++ ([Value.int .i64 v0.2.2.2.1] ++ [Value.bool v0.2.2.2.2])))))))) 1 (some (Ck.mr T48 r0_1 gl0_0 c0_0 n0_0 w0_1))) (sub_put (by exact rfl) (sub_put (by exact rfl) (sub_nil _))) ?_
  refine cs_seq ?_
  refine cs_region (l := [_, _]) ?_
  refine lv (.pointer none) ?_
  refine lv (.int .i64 (0 : Int)) ?_
  refine ls_end ?_
  refine qn_then ?_
  refine cs_cut (fun f S => ∃ (fR : Fr), f = upd (upd fR 0 (.pointer (some ⟨pg0, 0, none⟩))) 1 (.slice A1 l1.length c1) ∧ S = sput (sput s0 0 (some (Ck.var 34 pg0 (([Value.slice (some ⟨gl0_0, 0, none⟩) n0_0 c0_0] ++ ([Value.map (some r0_1)] ++ ([Value.bool v0.2.2.1] ++ ([Value.int .i64 v0.2.2.2.1] ++ [Value.bool v0.2.2.2.2])))))))) 1 (some (Ck.mr T48 r0_1 gl0_0 c0_0 n0_0 w0_1)) ∧ disk_Disk_Crash.jo1 k w0_1 l1 = some r) ?_ ?_
  · skip
    refine cs_seq ?_
    refine cs_region (l := [_, _]) ?_
    refine lv (.pointer (some ⟨pg0, 0, none⟩)) ?_
    have hc57 : disk_Disk_none.f k ((), (), v0.2.2.1, v0.2.2.2.1, v0.2.2.2.2) w0_1 = some false := rfl
    refine ls_callb (fid := 14) (vals := #[.pointer (some ⟨pg0, 0, none⟩)]) (X := Unit) (fun x => .bool false) (fun x => stl [Ck.var 34 pg0 (([Value.slice (some ⟨gl0_0, 0, none⟩) n0_0 c0_0] ++ ([Value.map (some r0_1)] ++ ([Value.bool v0.2.2.1] ++ ([Value.int .i64 v0.2.2.2.1] ++ [Value.bool v0.2.2.2.2]))))), Ck.mr T48 r0_1 gl0_0 c0_0 n0_0 w0_1]) [0, 1] [] [Ck.var 34 pg0 (([Value.slice (some ⟨gl0_0, 0, none⟩) n0_0 c0_0] ++ ([Value.map (some r0_1)] ++ ([Value.bool v0.2.2.1] ++ ([Value.int .i64 v0.2.2.2.1] ++ [Value.bool v0.2.2.2.2]))))), Ck.mr T48 r0_1 gl0_0 c0_0 n0_0 w0_1] [] 2 rfl rfl (by kernel_rfl) (fun w => by kernel_rfl) ⟨by exact rfl, by exact rfl, trivial⟩ trivial (by decide) (fun w hs hb => disk_Disk_none.calls k pg0 gl0_0 n0_0 c0_0 r0_1 ((), (), v0.2.2.1, v0.2.2.2.1, v0.2.2.2.2) w0_1 false (lent b w [Ck.var 34 pg0 (([Value.slice (some ⟨gl0_0, 0, none⟩) n0_0 c0_0] ++ ([Value.map (some r0_1)] ++ ([Value.bool v0.2.2.1] ++ ([Value.int .i64 v0.2.2.2.1] ++ [Value.bool v0.2.2.2.2]))))), Ck.mr T48 r0_1 gl0_0 c0_0 n0_0 w0_1] []) hb  hc57) ?_
    intro x58
    refine ls_end ?_
    refine qn_then ?_
    refine cs_false (by kernel_rfl) ?_
    refine cs_skip' ?_
    refine qn_meet (sput (sput s0 0 (some (Ck.var 34 pg0 (([Value.slice (some ⟨gl0_0, 0, none⟩) n0_0 c0_0] ++ ([Value.map (some r0_1)] ++ ([Value.bool v0.2.2.1] ++ ([Value.int .i64 v0.2.2.2.1] ++ [Value.bool v0.2.2.2.2])))))))) 1 (some (Ck.mr T48 r0_1 gl0_0 c0_0 n0_0 w0_1))) ⟨_, fr_next (fr_next (rfl) (by kernel_rfl)) (by kernel_rfl), rfl, H⟩ (sub_put (by exact rfl) (sub_put (by exact rfl) (sub_nil _)))
  rintro f S ⟨fr1, rfl, rfl, H⟩
  replace H : ((slices_Clone_17.f k w0_1.2).bind fun t2 => (if 0 < t2.length then disk_Disk_Crash.lo2 k w0_1 l1 t2 k ([] : List Int) w0_1.1 else none)) = some r := H
  refine cs_seq ?_
  refine cs_region (l := [_, _, _, _, _, _, _, _, _]) ?_
  refine lv (.pointer (some ⟨pg0, 0, none⟩)) ?_
  refine lv (.pointer (some ⟨pg0, 0, none⟩)) ?_
  refine lv (.pointer (some ⟨pg0, (0 + 0), none⟩)) ?_
  refine ls_mrn 1 (by exact rfl) (fun hn1 => ?_)
  refine ls_load (a0 := ⟨pg0, (0 + 0), none⟩) (v := .slice (some ⟨gl0_0, 0, none⟩) n0_0 c0_0) (de := (TypeDesc.slice 48)) rfl rfl (by kernel_rfl) rfl (by kernel_rfl) (by kernel_rfl) (by kernel_rfl) (fun w hs => (hs.var (k := 0) (by exact rfl) (Sub4.trans (Sub4.all _) (Sub4.head _ _)))) ?_
  refine ls_ren 17 (v := .slice (some ⟨gl0_0, 0, none⟩) n0_0 c0_0) (v' := .slice (some ⟨gl0_0, 0, none⟩) w0_1.2.length c0_0) (by kernel_rfl) (by rw [hn1]) ?_
  obtain ⟨t2, hc3, H⟩ := bind_some H
  refine ls_callb (fid := 17) (vals := #[.slice (some ⟨gl0_0, 0, none⟩) w0_1.2.length c0_0]) (X := (Option Addr × Nat)) (fun x => .slice x.1 t2.length x.2) (fun x => stl [Ck.sl T48 x.1 x.2 t2]) [] [1] [] [Ck.mr T48 r0_1 gl0_0 c0_0 n0_0 w0_1] 2 rfl rfl (by kernel_rfl) (fun w => by kernel_rfl) trivial ⟨by exact rfl, trivial⟩ (by decide) (fun w hs hb => slices_Clone_17.calls k (some ⟨gl0_0, 0, none⟩) c0_0 w0_1.2 t2 (lent b w [] [Ck.mr T48 r0_1 gl0_0 c0_0 n0_0 w0_1]) hb (Rd.ror (hs.mrrd (k := 1) (by exact rfl)) (.head _) Ck.mr_key) (hs.mrcap (k := 1) (by exact rfl)) hc3) ?_
  intro x4
  refine ls_makemap 3 rfl rfl (by kernel_rfl) rfl ?_
  intro g5
  refine lv (.agg ⟨([Value.slice x4.1 t2.length x4.2] ++ ([Value.map (some g5)] ++ ([Value.bool false] ++ ([Value.int .i64 (0 : Int)] ++ [Value.bool false]))))⟩) ?_
  obtain ⟨q6, H⟩ := ite_need H
  refine ls_rowlit (T := T48) (A := x4.1) (c := x4.2) (l := t2) 2 (by exact rfl) q6 ?_
  intro gl7 hA8
  refine ls_ren 20 (v := .agg ⟨([Value.slice x4.1 t2.length x4.2] ++ ([Value.map (some g5)] ++ ([Value.bool false] ++ ([Value.int .i64 (0 : Int)] ++ [Value.bool false]))))⟩) (v' := .agg ⟨([Value.slice (some ⟨gl7, 0, none⟩) t2.length x4.2] ++ ([Value.map (some g5)] ++ ([Value.bool false] ++ ([Value.int .i64 (0 : Int)] ++ [Value.bool false]))))⟩) (by kernel_rfl) (by rw [hA8]) ?_
  refine ls_mkmr (T := T48) (gl := gl7) (c := x4.2) (l := t2) (r := g5) 2 3 (by decide) (by exact rfl) (by exact rfl) ?_
  refine ls_new rfl rfl (by kernel_rfl) 4 (fun g => .pointer (some ⟨g, 0, none⟩)) (.cells ⟨([Value.slice (some ⟨gl7, 0, none⟩) t2.length x4.2] ++ ([Value.map (some g5)] ++ ([Value.bool false] ++ ([Value.int .i64 (0 : Int)] ++ [Value.bool false]))))⟩ 34) (fun w => by kernel_rfl) ?_
  intro g9
  refine lv (.pointer (some ⟨g9, 0, none⟩)) ?_
  refine ls_end ?_
  refine qn_then ?_
  refine cs_seq ?_
  refine cs_region (l := [_]) ?_
  refine lv (.slice none 0 0) ?_
  refine ls_end ?_
  refine qn_then ?_
  refine cs_seq ?_
  refine cs_seq ?_
  refine cs_region (l := [_, _, _, _, _]) ?_
  refine lv (.pointer (some ⟨pg0, 0, none⟩)) ?_
  refine lv (.pointer (some ⟨pg0, 0, none⟩)) ?_
  refine lv (.pointer (some ⟨pg0, (0 + 1), none⟩)) ?_
  refine ls_load (a0 := ⟨pg0, (0 + 1), none⟩) (v := .map (some r0_1)) (de := (TypeDesc.map 3 48)) rfl rfl (by kernel_rfl) rfl (by kernel_rfl) (by kernel_rfl) (by kernel_rfl) (fun w hs => (hs.var (k := 0) (by exact rfl) (Sub4.trans (Sub4.all _) (Sub4.skip (n := 1) (len1 _) (Sub4.head _ _))))) ?_
  refine ls_mkrange (T := T48) (r := r0_1) (m := w0_1) (kt := 3) (et := 48) 1 rfl rfl (by kernel_rfl) rfl (by kernel_rfl) (by kernel_rfl) (by exact rfl) ?_
  intro g10
  refine ls_end ?_
  refine qn_then ?_
  refine cs_block ?_
  refine cs_nilrow 5 (Ec.int 3 .i64) ?_
  refine cs_sub (sput (sput (sput (sput (sput s0 0 (some (Ck.var 34 pg0 (([Value.slice (some ⟨gl0_0, 0, none⟩) n0_0 c0_0] ++ ([Value.map (some r0_1)] ++ ([Value.bool v0.2.2.1] ++ ([Value.int .i64 v0.2.2.2.1] ++ [Value.bool v0.2.2.2.2])))))))) 1 (some (Ck.mrk T48 r0_1 gl0_0 c0_0 n0_0 g10 w0_1.1 none w0_1))) 3 (some (Ck.mr T48 g5 gl7 x4.2 t2.length (([] : List (Int × (Vc Int 512))), t2)))) 4 (some (Ck.var 34 g9 (([Value.slice (some ⟨gl7, 0, none⟩) t2.length x4.2] ++ ([Value.map (some g5)] ++ ([Value.bool false] ++ ([Value.int .i64 (0 : Int)] ++ [Value.bool false])))))))) 5 (some (Ck.sl (Ec.int 3 .i64) none 0 ([] : List Int)))) (sub_put (by exact rfl) (sub_put (by exact rfl) (sub_put (by exact rfl) (sub_put (by exact rfl) (sub_put (by exact rfl) (sub_nil _)))))) ?_
  refine cs_loop (fun kk f S => ∃ (fR : Fr) (A7_2 : Option Addr) (c7_2 : Nat) (l7_2 : List Int) (lf1_2 : List (Int × (Vc Int 512))), f = upd (upd (upd (upd (upd fR 0 (.pointer (some ⟨pg0, 0, none⟩))) 1 (.slice A1 l1.length c1)) 6 (.pointer (some ⟨g9, 0, none⟩))) 7 (.slice A7_2 l7_2.length c7_2)) 26 (.pointer (some ⟨g10, 0, none⟩)) ∧ S = sput (sput (sput (sput (sput s0 0 (some (Ck.var 34 pg0 (([Value.slice (some ⟨gl0_0, 0, none⟩) n0_0 c0_0] ++ ([Value.map (some r0_1)] ++ ([Value.bool v0.2.2.1] ++ ([Value.int .i64 v0.2.2.2.1] ++ [Value.bool v0.2.2.2.2])))))))) 1 (some (Ck.mrk T48 r0_1 gl0_0 c0_0 n0_0 g10 lf1_2 none w0_1))) 3 (some (Ck.mr T48 g5 gl7 x4.2 t2.length (([] : List (Int × (Vc Int 512))), t2)))) 4 (some (Ck.var 34 g9 (([Value.slice (some ⟨gl7, 0, none⟩) t2.length x4.2] ++ ([Value.map (some g5)] ++ ([Value.bool false] ++ ([Value.int .i64 (0 : Int)] ++ [Value.bool false])))))))) 5 (some (Ck.sl (Ec.int 3 .i64) A7_2 c7_2 l7_2)) ∧ disk_Disk_Crash.lo2 k w0_1 l1 t2 kk l7_2 lf1_2 = some r) k ?_ ?_ ?_
  · exact ⟨_, none, 0, ([] : List Int), w0_1.1, fr_next (fr_next (fr_next (fr_next (fr_next (rfl) (by kernel_rfl)) (by kernel_rfl)) (by kernel_rfl)) (by kernel_rfl)) (by kernel_rfl), rfl, H⟩
  · rintro f S ⟨fr2, A7_2, c7_2, l7_2, lf1_2, rfl, rfl, H⟩; exact (mrks_zero H).elim
  rintro k2 f S ⟨fr2, A7_2, c7_2, l7_2, lf1_2, rfl, rfl, H⟩
  replace H : (mrks (fun zz15 => lt (zz15) fun y16 => (if y16.length < 4611686018427387904 then disk_Disk_Crash.lo3 w0_1 l1 y16 k (0 : Int) (([] : List (Int × (Vc Int 512))), t2) else none)) (k2 + 1) l7_2 lf1_2) = some r := H
  refine cs_seq ?_
  refine cs_region (l := [_, _]) ?_
  refine ls_mknext (T := T48) (gi := g10) (left := lf1_2) (m := w0_1) 1 rfl rfl (by kernel_rfl) rfl (by kernel_rfl) (by exact rfl) ?_ ?_
  · intro hnil11
    replace H := mrks_end H hnil11
    replace H : (lt (sortI l7_2) fun y16 => (if y16.length < 4611686018427387904 then disk_Disk_Crash.lo3 w0_1 l1 y16 k (0 : Int) (([] : List (Int × (Vc Int 512))), t2) else none)) = some r := H
    refine lv (.bool false) ?_
    refine ls_end ?_
    refine qn_then ?_
    refine cs_seq ?_
    refine cs_false (by kernel_rfl) ?_
    refine cs_exit' ?_
    refine qx_then ?_
    refine qx_then ?_
    refine qx_same ?_
    refine qn_then ?_
    refine cs_seq ?_
    refine cs_region (l := [_, _]) ?_
    refine lv (.slice A7_2 l7_2.length c7_2) ?_
    obtain ⟨y16, hy17, H⟩ := lt_some H
    obtain ⟨q18, H⟩ := ite_need H
    refine ls_sortd (e := 3) (A := A7_2) (c := c7_2) (l := l7_2) 5 rfl rfl (by kernel_rfl) (fun w => by kernel_rfl) (by exact rfl) (by rw [← sortI_len, hy17]; exact q18) sortC sortC0 ?_
    rw [hy17]
    refine ls_ren 7 (v := .slice A7_2 l7_2.length c7_2) (v' := .slice A7_2 y16.length c7_2) (by kernel_rfl) (by rw [← hy17, sortI_len]) ?_
    refine ls_ren 35 (v := .slice A7_2 l7_2.length c7_2) (v' := .slice A7_2 y16.length c7_2) (by kernel_rfl) (by rw [← hy17, sortI_len]) ?_
    refine ls_end ?_
    refine qn_then ?_
    refine cs_seq ?_
    refine cs_seq ?_
    refine cs_region (l := [_, _, _]) ?_
    refine lv (.slice A7_2 y16.length c7_2) ?_
    refine lv (.int .i64 (y16.length : Int)) ?_
    refine lv (.int .i64 (0 : Int)) ?_
    refine ls_end ?_
    refine qn_then ?_
    refine cs_block ?_
    refine cs_sub (sput (sput (sput (sput (sput s0 0 (some (Ck.var 34 pg0 (([Value.slice (some ⟨gl0_0, 0, none⟩) n0_0 c0_0] ++ ([Value.map (some r0_1)] ++ ([Value.bool v0.2.2.1] ++ ([Value.int .i64 v0.2.2.2.1] ++ [Value.bool v0.2.2.2.2])))))))) 1 (some (Ck.mr T48 r0_1 gl0_0 c0_0 n0_0 w0_1))) 3 (some (Ck.mr T48 g5 gl7 x4.2 t2.length (([] : List (Int × (Vc Int 512))), t2)))) 4 (some (Ck.var 34 g9 (([Value.slice (some ⟨gl7, 0, none⟩) t2.length x4.2] ++ ([Value.map (some g5)] ++ ([Value.bool false] ++ ([Value.int .i64 (0 : Int)] ++ [Value.bool false])))))))) 5 (some (Ck.sl (Ec.int 3 .i64) A7_2 c7_2 y16))) (sub_put (by exact rfl) (sub_put (by exact rfl) (sub_put (by exact rfl) (sub_put (by exact rfl) (sub_put (by exact rfl) (sub_nil _)))))) ?_
    refine cs_loop (fun kk f S => ∃ (fR : Fr) (x39_3 : Int) (m3_3 : (List (Int × (Vc Int 512)) × List (Vc Int 512))), f = upd (upd (upd (upd (upd (upd fR 0 (.pointer (some ⟨pg0, 0, none⟩))) 1 (.slice A1 l1.length c1)) 6 (.pointer (some ⟨g9, 0, none⟩))) 37 (.slice A7_2 y16.length c7_2)) 38 (.int .i64 (y16.length : Int))) 39 (.int .i64 x39_3) ∧ S = sput (sput (sput (sput (sput s0 0 (some (Ck.var 34 pg0 (([Value.slice (some ⟨gl0_0, 0, none⟩) n0_0 c0_0] ++ ([Value.map (some r0_1)] ++ ([Value.bool v0.2.2.1] ++ ([Value.int .i64 v0.2.2.2.1] ++ [Value.bool v0.2.2.2.2])))))))) 1 (some (Ck.mr T48 r0_1 gl0_0 c0_0 n0_0 w0_1))) 3 (some (Ck.mr T48 g5 gl7 x4.2 t2.length m3_3))) 4 (some (Ck.var 34 g9 (([Value.slice (some ⟨gl7, 0, none⟩) t2.length x4.2] ++ ([Value.map (some g5)] ++ ([Value.bool false] ++ ([Value.int .i64 (0 : Int)] ++ [Value.bool false])))))))) 5 (some (Ck.sl (Ec.int 3 .i64) A7_2 c7_2 y16)) ∧ disk_Disk_Crash.lo3 w0_1 l1 y16 kk x39_3 m3_3 = some r) k ?_ ?_ ?_
    · exact ⟨_, (0 : Int), (([] : List (Int × (Vc Int 512))), t2), fr_next (fr_next (fr_next (fr_next (fr_next (fr_next (rfl) (by kernel_rfl)) (by kernel_rfl)) (by kernel_rfl)) (by kernel_rfl)) (by kernel_rfl)) (by kernel_rfl), rfl, H⟩
    · rintro f S ⟨fr3, x39_3, m3_3, rfl, rfl, H⟩; cases H
    rintro k3 f S ⟨fr3, x39_3, m3_3, rfl, rfl, H⟩
    replace H : ((if x39_3 < (y16.length : Int) then (disk_Disk_Crash.jo4 w0_1 l1 y16 x39_3 m3_3 (disk_Disk_Crash.lo3 w0_1 l1 y16 k3)) else some ((((), (), false, (0 : Int), false), m3_3), (0 : Int)))) = some r := H
    refine cs_seq ?_
    refine cs_region (l := [_]) ?_
    refine lv (.bool (decide (x39_3 < (y16.length : Int)))) ?_
    refine ls_end ?_
    refine qn_then ?_
    refine cs_cut (fun f S => ∃ (fR : Fr), f = upd (upd (upd (upd (upd (upd fR 0 (.pointer (some ⟨pg0, 0, none⟩))) 1 (.slice A1 l1.length c1)) 6 (.pointer (some ⟨g9, 0, none⟩))) 37 (.slice A7_2 y16.length c7_2)) 38 (.int .i64 (y16.length : Int))) 39 (.int .i64 x39_3) ∧ S = sput (sput (sput (sput (sput s0 0 (some (Ck.var 34 pg0 (([Value.slice (some ⟨gl0_0, 0, none⟩) n0_0 c0_0] ++ ([Value.map (some r0_1)] ++ ([Value.bool v0.2.2.1] ++ ([Value.int .i64 v0.2.2.2.1] ++ [Value.bool v0.2.2.2.2])))))))) 1 (some (Ck.mr T48 r0_1 gl0_0 c0_0 n0_0 w0_1))) 3 (some (Ck.mr T48 g5 gl7 x4.2 t2.length m3_3))) 4 (some (Ck.var 34 g9 (([Value.slice (some ⟨gl7, 0, none⟩) t2.length x4.2] ++ ([Value.map (some g5)] ++ ([Value.bool false] ++ ([Value.int .i64 (0 : Int)] ++ [Value.bool false])))))))) 5 (some (Ck.sl (Ec.int 3 .i64) A7_2 c7_2 y16)) ∧ disk_Disk_Crash.jo4 w0_1 l1 y16 x39_3 m3_3 (disk_Disk_Crash.lo3 w0_1 l1 y16 k3) = some r) ?_ ?_
    · skip
      by_cases q52 : x39_3 < (y16.length : Int)
      · replace H := ite_t q52 H
        refine cs_know (c := true) (dec_t q52) 40 (by kernel_rfl) ?_
        refine cs_true (by kernel_rfl) ?_
        refine cs_skip' ?_
        refine qn_meet (sput (sput (sput (sput (sput s0 0 (some (Ck.var 34 pg0 (([Value.slice (some ⟨gl0_0, 0, none⟩) n0_0 c0_0] ++ ([Value.map (some r0_1)] ++ ([Value.bool v0.2.2.1] ++ ([Value.int .i64 v0.2.2.2.1] ++ [Value.bool v0.2.2.2.2])))))))) 1 (some (Ck.mr T48 r0_1 gl0_0 c0_0 n0_0 w0_1))) 3 (some (Ck.mr T48 g5 gl7 x4.2 t2.length m3_3))) 4 (some (Ck.var 34 g9 (([Value.slice (some ⟨gl7, 0, none⟩) t2.length x4.2] ++ ([Value.map (some g5)] ++ ([Value.bool false] ++ ([Value.int .i64 (0 : Int)] ++ [Value.bool false])))))))) 5 (some (Ck.sl (Ec.int 3 .i64) A7_2 c7_2 y16))) ⟨_, fr_next (fr_next (fr_next (fr_next (fr_next (fr_next (rfl) (by kernel_rfl)) (by kernel_rfl)) (by kernel_rfl)) (by kernel_rfl)) (by kernel_rfl)) (by kernel_rfl), rfl, H⟩ (sub_put (by exact rfl) (sub_put (by exact rfl) (sub_put (by exact rfl) (sub_put (by exact rfl) (sub_put (by exact rfl) (sub_nil _))))))
      replace H := ite_f q52 H
      refine cs_know (c := false) (dec_f q52) 40 (by kernel_rfl) ?_
      refine cs_false (by kernel_rfl) ?_
      refine cs_exit' ?_
      refine qx_then ?_
      refine qx_then ?_
      refine qx_same ?_
      refine qn_then ?_
      refine cs_seq ?_
      refine cs_region (l := [_, _, _]) ?_
      refine lv (.pointer (some ⟨g9, 0, none⟩)) ?_
      refine lv (.pointer (some ⟨g9, 0, none⟩)) ?_
      refine lv (.int .i64 (0 : Int)) ?_
      refine ls_end ?_
      refine qn_then ?_
      refine cs_ret' ?_
      obtain rfl := Option.some.inj H
      refine qr_res (rs := [_, _]) rfl (fun w' hs => ⟨[.pointer (some ⟨g9, 0, none⟩), .int .i64 (0 : Int)], (res_tmp (by kernel_rfl) (res_tmp (by kernel_rfl) (.nil))), (g9, g5, gl7, x4.2, t2.length), rfl, hs.pick (ts := [0, 1, 4, 3]) (cs := [Ck.var 34 pg0 (([Value.slice (some ⟨gl0_0, 0, none⟩) n0_0 c0_0] ++ ([Value.map (some r0_1)] ++ ([Value.bool v0.2.2.1] ++ ([Value.int .i64 v0.2.2.2.1] ++ [Value.bool v0.2.2.2.2]))))), Ck.mr T48 r0_1 gl0_0 c0_0 n0_0 w0_1, Ck.var 34 g9 (([Value.slice (some ⟨gl7, 0, none⟩) t2.length x4.2] ++ ([Value.map (some g5)] ++ ([Value.bool false] ++ ([Value.int .i64 (0 : Int)] ++ [Value.bool false]))))), Ck.mr T48 g5 gl7 x4.2 t2.length m3_3]) ⟨by exact rfl, by exact rfl, by exact rfl, by exact rfl, trivial⟩ (by decide)⟩)
    rintro f S ⟨fr4, rfl, rfl, H⟩
    replace H : ((if 0 ≤ x39_3 then (if x39_3 < (y16.length : Int) then (if x39_3 = (l1.length : Int) then some ((((), (), false, (0 : Int), false), m3_3), (0 : Int)) else (if 0 ≤ ((y16).getD (x39_3).toNat (0 : Int)) then (if ((y16).getD (x39_3).toNat (0 : Int)) < (m3_3.2.length : Int) then (if x39_3 < (l1.length : Int) then lt ((if ((l1).getD (x39_3).toNat (0 : Int)) < (0 : Int) then (0 : Int) else ((l1).getD (x39_3).toNat (0 : Int)))) fun y34 => lt ((if (512 : Int) < y34 then (512 : Int) else y34)) fun y36 => (if 0 ≤ y36 then (if y36 ≤ (512 : Int) then lt (List.take (y36).toNat ((mget ((y16).getD (x39_3).toNat (0 : Int)) w0_1.1).getD (vrep 512 (0 : Int))).1) fun xl44 => lt (m3_3.2.set (((y16).getD (x39_3).toNat (0 : Int))).toNat (vcopy ((m3_3.2).getD (((y16).getD (x39_3).toNat (0 : Int))).toNat (vrep 512 (0 : Int))) xl44)) fun y50 => (disk_Disk_Crash.lo3 w0_1 l1 y16 k3) (IntKind.wrap .i64 (x39_3 + (1 : Int))) (m3_3.1, y50) else none) else none) else none) else none) else none)) else none) else none)) = some r := H
    refine cs_seq ?_
    refine cs_block ?_
    refine cs_seq ?_
    refine cs_region (l := [_, _, _, _, _]) ?_
    refine lv (.int .i64 x39_3) ?_
    obtain ⟨q19, H⟩ := ite_need H
    obtain ⟨q20, H⟩ := ite_need H
    refine ls_at (T := (Ec.int 3 .i64)) (tk := 5) (i := x39_3) (by exact rfl) q19 q20 ?_
    intro ad21 hA22
    refine ls_idxv (Ec.int 3 .i64) (A := A7_2) (c := c7_2) (l := y16) (k := .i64) (i := x39_3) (z := 1) (ad := ad21) rfl rfl (by kernel_rfl) hA22 rfl (by kernel_rfl) (by kernel_rfl) (by kernel_rfl) (by kernel_rfl) q19 q20 ?_
    refine ls_load (a0 := (ad21.add ((x39_3).toNat * 1))) (v := .int .i64 ((y16).getD (x39_3).toNat (0 : Int))) (de := (TypeDesc.int .i64)) rfl rfl (by kernel_rfl) rfl (by kernel_rfl) (by kernel_rfl) (by kernel_rfl) (fun w hs => (hs.rd (k := 5) (by exact rfl)).at hA22 (em_sub (Ec.int 3 .i64) y16 (i := (x39_3).toNat) (by have h0 : (0 : Int) ≤ x39_3 := q19; have h1 : x39_3 < (y16.length : Int) := q20; omega))) ?_
    refine lv (.int .i64 x39_3) ?_
    refine lv (.int .i64 ((y16).getD (x39_3).toNat (0 : Int))) ?_
    refine ls_end ?_
    refine qn_then ?_
    refine cs_seq ?_
    refine cs_seq ?_
    refine cs_region (l := [_, _, _, _]) ?_
    refine lv (.int .i64 x39_3) ?_
    refine lv (.slice A1 l1.length c1) ?_
    refine lv (.int .i64 (l1.length : Int)) ?_
    refine lv (.bool (decide (x39_3 = (l1.length : Int)))) ?_
    refine ls_end ?_
    refine qn_then ?_
    by_cases q23 : x39_3 = (l1.length : Int)
    · replace H := ite_t q23 H
      refine cs_know (c := true) (dec_t q23) 47 (by kernel_rfl) ?_
      refine cs_true (by kernel_rfl) ?_
      refine cs_exit' ?_
      refine qx_then ?_
      refine qx_other (by decide) ?_
      refine qx_then ?_
      refine qx_then ?_
      refine qx_same ?_
      refine qn_then ?_
      refine cs_seq ?_
      refine cs_region (l := [_, _, _]) ?_
      refine lv (.pointer (some ⟨g9, 0, none⟩)) ?_
      refine lv (.pointer (some ⟨g9, 0, none⟩)) ?_
      refine lv (.int .i64 (0 : Int)) ?_
      refine ls_end ?_
      refine qn_then ?_
      refine cs_ret' ?_
      obtain rfl := Option.some.inj H
      refine qr_res (rs := [_, _]) rfl (fun w' hs => ⟨[.pointer (some ⟨g9, 0, none⟩), .int .i64 (0 : Int)], (res_tmp (by kernel_rfl) (res_tmp (by kernel_rfl) (.nil))), (g9, g5, gl7, x4.2, t2.length), rfl, hs.pick (ts := [0, 1, 4, 3]) (cs := [Ck.var 34 pg0 (([Value.slice (some ⟨gl0_0, 0, none⟩) n0_0 c0_0] ++ ([Value.map (some r0_1)] ++ ([Value.bool v0.2.2.1] ++ ([Value.int .i64 v0.2.2.2.1] ++ [Value.bool v0.2.2.2.2]))))), Ck.mr T48 r0_1 gl0_0 c0_0 n0_0 w0_1, Ck.var 34 g9 (([Value.slice (some ⟨gl7, 0, none⟩) t2.length x4.2] ++ ([Value.map (some g5)] ++ ([Value.bool false] ++ ([Value.int .i64 (0 : Int)] ++ [Value.bool false]))))), Ck.mr T48 g5 gl7 x4.2 t2.length m3_3]) ⟨by exact rfl, by exact rfl, by exact rfl, by exact rfl, trivial⟩ (by decide)⟩)
    replace H := ite_f q23 H
    refine cs_know (c := false) (dec_f q23) 47 (by kernel_rfl) ?_
    refine cs_false (by kernel_rfl) ?_
    refine cs_skip' ?_
    refine qn_then ?_
    refine cs_seq ?_
    refine cs_region (l := [_, _, _, _, _, _, _, _]) ?_
    refine lv (.pointer (some ⟨pg0, 0, none⟩)) ?_
    refine lv (.pointer (some ⟨pg0, 0, none⟩)) ?_
    refine lv (.pointer (some ⟨pg0, (0 + 1), none⟩)) ?_
    refine ls_load (a0 := ⟨pg0, (0 + 1), none⟩) (v := .map (some r0_1)) (de := (TypeDesc.map 3 48)) rfl rfl (by kernel_rfl) rfl (by kernel_rfl) (by kernel_rfl) (by kernel_rfl) (fun w hs => (hs.var (k := 0) (by exact rfl) (Sub4.trans (Sub4.all _) (Sub4.skip (n := 1) (len1 _) (Sub4.head _ _))))) ?_
    refine lv (.int .i64 ((y16).getD (x39_3).toNat (0 : Int))) ?_
    refine ls_mrlook1 (T := T48) (r := r0_1) (m := w0_1) (kt := 3) (et := 48) (i := ((y16).getD (x39_3).toNat (0 : Int))) 1 rfl rfl (by kernel_rfl) rfl (by kernel_rfl) (by kernel_rfl) (by kernel_rfl) (by kernel_rfl) (by kernel_rfl) (by exact rfl) ?_
    refine ls_new rfl rfl (by kernel_rfl) 6 (fun g => .pointer (some ⟨g, 0, none⟩)) (.cells ⟨en (Value.int .u8) (vrep 512 (0 : Int)).1⟩ 48) (fun w => by kernel_rfl) ?_
    intro g24
    refine ls_storec (g := g24) (off := 0) (v := .agg ⟨en (Value.int .u8) ((mget ((y16).getD (x39_3).toNat (0 : Int)) w0_1.1).getD (vrep 512 (0 : Int))).1⟩) (vs := en (Value.int .u8) ((mget ((y16).getD (x39_3).toNat (0 : Int)) w0_1.1).getD (vrep 512 (0 : Int))).1) (cs := en (Value.int .u8) (vrep 512 (0 : Int)).1) (ty := 48) 6 rfl rfl rfl (by kernel_rfl) (by kernel_rfl) (by kernel_rfl) (by exact rfl) (by kernel_rfl) (len_en _ ((mget ((y16).getD (x39_3).toNat (0 : Int)) w0_1.1).getD (vrep 512 (0 : Int)))) (one_en (fun _ => rfl) _) (hl_of (Sub4.all _) (len_eq (len_en _ ((mget ((y16).getD (x39_3).toNat (0 : Int)) w0_1.1).getD (vrep 512 (0 : Int)))) (len_en _ (vrep 512 (0 : Int))))) (cs' := en (Value.int .u8) ((mget ((y16).getD (x39_3).toNat (0 : Int)) w0_1.1).getD (vrep 512 (0 : Int))).1) (splc_all (len_eq (len_en _ ((mget ((y16).getD (x39_3).toNat (0 : Int)) w0_1.1).getD (vrep 512 (0 : Int)))) (len_en _ (vrep 512 (0 : Int))))) ?_
    refine ls_end ?_
    refine qn_then ?_
    refine cs_mrn 3 (by exact rfl) (fun hn25 => ?_)
    obtain ⟨s27_0, hs27_0⟩ := exv (.pointer (some ⟨g9, 0, none⟩))
    refine have_opa disk_Disk_Crash.tab25 7 0 (fun sp => sp 0 = s27_0) (fun sp on hA hon => ?_) (fun ops27_0 => ?_)
    · refine ⟨fun o ho vs Rs f' S' w hp hf hx hS hR hs => ?_⟩
      obtain rfl := Option.some.inj ho
      exact opv (.pointer (some ⟨g9, 0, none⟩)) hA hs27_0 hon (fr_next (rfl) ((hx 6 (by kernel_rfl)).trans (by kernel_rfl : (_ : Value) = .pointer (some ⟨g9, 0, none⟩))))
    obtain ⟨s27_1, hs27_1⟩ := exv (.pointer (some ⟨g9, 0, none⟩))
    refine have_opa disk_Disk_Crash.tab25 7 1 (fun sp => sp 1 = s27_1 ∧ sp 0 = s27_0) (fun sp on hA hon => ?_) (fun ops27_1 => ?_)
    · refine ⟨fun o ho vs Rs f' S' w hp hf hx hS hR hs => ?_⟩
      obtain rfl := Option.some.inj ho
      obtain ⟨hv0, hR0⟩ := (spe hA.2 hs27_0 (hp 0 (by kernel_rfl)))
      exact opv (.pointer (some ⟨g9, 0, none⟩)) hA.1 hs27_1 hon (fr_next (rfl) ((hf 0 54 (by kernel_rfl) rfl).trans hv0))
    obtain ⟨s27_2, hs27_2⟩ := exv (.pointer (some ⟨g9, (0 + 0), none⟩))
    refine have_opa disk_Disk_Crash.tab25 7 2 (fun sp => sp 2 = s27_2 ∧ sp 1 = s27_1) (fun sp on hA hon => ?_) (fun ops27_2 => ?_)
    · refine ⟨fun o ho vs Rs f' S' w hp hf hx hS hR hs => ?_⟩
      obtain rfl := Option.some.inj ho
      obtain ⟨hv1, hR1⟩ := (spe hA.2 hs27_1 (hp 1 (by kernel_rfl)))
      exact opv (.pointer (some ⟨g9, (0 + 0), none⟩)) hA.1 hs27_2 hon (fr_next (rfl) ((hf 1 55 (by kernel_rfl) rfl).trans hv1))
    obtain ⟨s27_3, hs27_3⟩ := exv (.slice (some ⟨gl7, 0, none⟩) m3_3.2.length x4.2)
    refine have_opa disk_Disk_Crash.tab25 7 3 (fun sp => sp 3 = s27_3 ∧ sp 2 = s27_2) (fun sp on hA hon => ?_) (fun ops27_3 => ?_)
    · refine ⟨fun o ho vs Rs f' S' w hp hf hx hS hR hs => ?_⟩
      obtain rfl := Option.some.inj ho
      obtain ⟨hv2, hR2⟩ := (spe hA.2 hs27_2 (hp 2 (by kernel_rfl)))
      rw [hA.1, hs27_3]
      refine wn hon ?_
      have hF := fr_next (rfl) ((hf 2 56 (by kernel_rfl) rfl).trans hv2)
      refine ls_fr hF ?_
      refine ls_load (a0 := ⟨g9, (0 + 0), none⟩) (v := .slice (some ⟨gl7, 0, none⟩) t2.length x4.2) (de := (TypeDesc.slice 48)) rfl rfl (by kernel_rfl) rfl (by kernel_rfl) (by kernel_rfl) (by kernel_rfl) (fun w1 hs1 => cell_step hs1.below.bw (hs.var (k := 4) ((hS 4 (by kernel_rfl)).trans (by exact rfl)) (Sub4.trans (Sub4.all _) (Sub4.head _ _)))) ?_
      refine ls_ren 57 (v := .slice (some ⟨gl7, 0, none⟩) t2.length x4.2) (v' := .slice (some ⟨gl7, 0, none⟩) m3_3.2.length x4.2) (by kernel_rfl) (by rw [hn25]) ?_
      exact ls_fin s0 _ ((upd_upd _ _ _ _).trans (congrArg (fun z => upd z 57 _) hF.symm)) ⟨rfl, rfl⟩ (sub_nil _)
    obtain ⟨s27_4, hs27_4⟩ := exv (.int .i64 ((y16).getD (x39_3).toNat (0 : Int)))
    refine have_opa disk_Disk_Crash.tab25 7 4 (fun sp => sp 4 = s27_4) (fun sp on hA hon => ?_) (fun ops27_4 => ?_)
    · refine ⟨fun o ho vs Rs f' S' w hp hf hx hS hR hs => ?_⟩
      obtain rfl := Option.some.inj ho
      exact opv (.int .i64 ((y16).getD (x39_3).toNat (0 : Int))) hA hs27_4 hon (fr_next (rfl) ((hx 10 (by kernel_rfl)).trans (by kernel_rfl : (_ : Value) = .int .i64 ((y16).getD (x39_3).toNat (0 : Int)))))
    obtain ⟨q29, H⟩ := ite_need H
    obtain ⟨q30, H⟩ := ite_need H
    obtain ⟨s27_5, hs27_5⟩ := exv (.pointer (some ((⟨gl7, 0, none⟩ : Addr).add ((((y16).getD (x39_3).toNat (0 : Int))).toNat * 512))))
    refine have_opa disk_Disk_Crash.tab25 7 5 (fun sp => sp 5 = s27_5 ∧ sp 3 = s27_3 ∧ sp 4 = s27_4) (fun sp on hA hon => ?_) (fun ops27_5 => ?_)
    · refine ⟨fun o ho vs Rs f' S' w hp hf hx hS hR hs => ?_⟩
      obtain rfl := Option.some.inj ho
      obtain ⟨hv3, hR3⟩ := (spe hA.2.1 hs27_3 (hp 3 (by kernel_rfl)))
      obtain ⟨hv4, hR4⟩ := (spe hA.2.2 hs27_4 (hp 4 (by kernel_rfl)))
      rw [hA.1, hs27_5]
      refine wn hon ?_
      have hF := fr_next (fr_next (rfl) ((hf 3 57 (by kernel_rfl) rfl).trans hv3)) ((hf 4 58 (by kernel_rfl) rfl).trans hv4)
      refine ls_fr hF ?_
      refine ls_idxv T48 (A := (some ⟨gl7, 0, none⟩)) (c := x4.2) (l := m3_3.2) (k := .i64) (i := ((y16).getD (x39_3).toNat (0 : Int))) (z := 512) (ad := (⟨gl7, 0, none⟩ : Addr)) rfl rfl (by kernel_rfl) rfl rfl (by kernel_rfl) (by kernel_rfl) (by kernel_rfl) (by kernel_rfl) q29 q30 ?_
      exact ls_fin s0 _ (congrArg (fun z => upd z 59 _) hF.symm) ⟨rfl, rfl⟩ (sub_nil _)
    obtain ⟨s27_6, hs27_6⟩ := exv (.slice (some ((⟨gl7, 0, none⟩ : Addr).add ((((y16).getD (x39_3).toNat (0 : Int))).toNat * 512))) 512 512)
    refine have_opa disk_Disk_Crash.tab25 7 6 (fun sp => sp 6 = s27_6 ∧ sp 5 = s27_5) (fun sp on hA hon => ?_) (fun ops27_6 => ?_)
    · refine ⟨fun o ho vs Rs f' S' w hp hf hx hS hR hs => ?_⟩
      obtain rfl := Option.some.inj ho
      obtain ⟨hv5, hR5⟩ := (spe hA.2 hs27_5 (hp 5 (by kernel_rfl)))
      rw [hA.1, hs27_6]
      refine wn hon ?_
      have hF := fr_next (rfl) ((hf 5 59 (by kernel_rfl) rfl).trans hv5)
      refine ls_fr hF ?_
      refine ls_awhole (z := 1) (ad := ((⟨gl7, 0, none⟩ : Addr).add ((((y16).getD (x39_3).toNat (0 : Int))).toNat * 512))) (N := 512) (e := 5) rfl rfl (by kernel_rfl) rfl (by kernel_rfl) (by kernel_rfl) (by kernel_rfl) ?_
      exact ls_fin s0 _ (congrArg (fun z => upd z 60 _) hF.symm) ⟨rfl, rfl⟩ (sub_nil _)
    obtain ⟨s27_7, hs27_7⟩ := exv (.slice A1 l1.length c1)
    refine have_opa disk_Disk_Crash.tab25 7 7 (fun sp => sp 7 = s27_7) (fun sp on hA hon => ?_) (fun ops27_7 => ?_)
    · refine ⟨fun o ho vs Rs f' S' w hp hf hx hS hR hs => ?_⟩
      obtain rfl := Option.some.inj ho
      exact opv (.slice A1 l1.length c1) hA hs27_7 hon (fr_next (rfl) ((hx 1 (by kernel_rfl)).trans (by kernel_rfl : (_ : Value) = .slice A1 l1.length c1)))
    obtain ⟨s27_8, hs27_8⟩ := exv (.int .i64 x39_3)
    refine have_opa disk_Disk_Crash.tab25 7 8 (fun sp => sp 8 = s27_8) (fun sp on hA hon => ?_) (fun ops27_8 => ?_)
    · refine ⟨fun o ho vs Rs f' S' w hp hf hx hS hR hs => ?_⟩
      obtain rfl := Option.some.inj ho
      exact opv (.int .i64 x39_3) hA hs27_8 hon (fr_next (rfl) ((hx 9 (by kernel_rfl)).trans (by kernel_rfl : (_ : Value) = .int .i64 x39_3)))
    obtain ⟨q31, H⟩ := ite_need H
    obtain ⟨ad32, hA33⟩ := ido_at (T := (Ec.int 3 .i64)) (l := l1) (i := x39_3) R1 q19 q31
    obtain ⟨s27_9, hs27_9⟩ := exv (.pointer (some (ad32.add ((x39_3).toNat * 1))))
    refine have_opa disk_Disk_Crash.tab25 7 9 (fun sp => sp 9 = s27_9 ∧ sp 7 = s27_7 ∧ sp 8 = s27_8) (fun sp on hA hon => ?_) (fun ops27_9 => ?_)
    · refine ⟨fun o ho vs Rs f' S' w hp hf hx hS hR hs => ?_⟩
      obtain rfl := Option.some.inj ho
      obtain ⟨hv7, hR7⟩ := (spe hA.2.1 hs27_7 (hp 7 (by kernel_rfl)))
      obtain ⟨hv8, hR8⟩ := (spe hA.2.2 hs27_8 (hp 8 (by kernel_rfl)))
      rw [hA.1, hs27_9]
      refine wn hon ?_
      have hF := fr_next (fr_next (rfl) ((hf 7 61 (by kernel_rfl) rfl).trans hv7)) ((hf 8 62 (by kernel_rfl) rfl).trans hv8)
      refine ls_fr hF ?_
      refine ls_idxv (Ec.int 3 .i64) (A := A1) (c := c1) (l := l1) (k := .i64) (i := x39_3) (z := 1) (ad := ad32) rfl rfl (by kernel_rfl) hA33 rfl (by kernel_rfl) (by kernel_rfl) (by kernel_rfl) (by kernel_rfl) q19 q31 ?_
      exact ls_fin s0 _ (congrArg (fun z => upd z 63 _) hF.symm) ⟨rfl, rfl⟩ (sub_nil _)
    obtain ⟨s27_10, hs27_10⟩ := exv (.int .i64 ((l1).getD (x39_3).toNat (0 : Int)))
    refine have_opa disk_Disk_Crash.tab25 7 10 (fun sp => sp 10 = s27_10 ∧ sp 9 = s27_9) (fun sp on hA hon => ?_) (fun ops27_10 => ?_)
    · refine ⟨fun o ho vs Rs f' S' w hp hf hx hS hR hs => ?_⟩
      obtain rfl := Option.some.inj ho
      obtain ⟨hv9, hR9⟩ := (spe hA.2 hs27_9 (hp 9 (by kernel_rfl)))
      rw [hA.1, hs27_10]
      refine wn hon ?_
      have hF := fr_next (rfl) ((hf 9 63 (by kernel_rfl) rfl).trans hv9)
      refine ls_fr hF ?_
      refine ls_load (a0 := (ad32.add ((x39_3).toNat * 1))) (v := .int .i64 ((l1).getD (x39_3).toNat (0 : Int))) (de := (TypeDesc.int .i64)) rfl rfl (by kernel_rfl) rfl (by kernel_rfl) (by kernel_rfl) (by kernel_rfl) (fun w1 hs1 => (Rd.step (hs.old R1) hs1.below.bw).at hA33 (em_sub (Ec.int 3 .i64) l1 (i := (x39_3).toNat) (by have h0 : (0 : Int) ≤ x39_3 := q19; have h1 : x39_3 < (l1.length : Int) := q31; omega))) ?_
      exact ls_fin s0 _ (congrArg (fun z => upd z 64 _) hF.symm) ⟨rfl, rfl⟩ (sub_nil _)
    obtain ⟨y34, hy35, H⟩ := lt_some H
    obtain ⟨s27_11, hs27_11⟩ := exv (.int .i64 y34)
    refine have_opa disk_Disk_Crash.tab25 7 11 (fun sp => sp 11 = s27_11 ∧ sp 10 = s27_10) (fun sp on hA hon => ?_) (fun ops27_11 => ?_)
    · refine ⟨fun o ho vs Rs f' S' w hp hf hx hS hR hs => ?_⟩
      obtain rfl := Option.some.inj ho
      obtain ⟨hv10, hR10⟩ := (spe hA.2 hs27_10 (hp 10 (by kernel_rfl)))
      rw [hA.1, hs27_11]
      refine wn hon ?_
      have hF := fr_next (rfl) ((hf 10 64 (by kernel_rfl) rfl).trans hv10)
      refine ls_fr hF ?_
      refine lv (.int .i64 (if ((l1).getD (x39_3).toNat (0 : Int)) < (0 : Int) then (0 : Int) else ((l1).getD (x39_3).toNat (0 : Int)))) ?_
      refine ls_ren 65 (v := .int .i64 (if ((l1).getD (x39_3).toNat (0 : Int)) < (0 : Int) then (0 : Int) else ((l1).getD (x39_3).toNat (0 : Int)))) (v' := .int .i64 y34) (by kernel_rfl) (by rw [hy35]) ?_
      exact ls_fin s0 _ ((upd_upd _ _ _ _).trans (congrArg (fun z => upd z 65 _) hF.symm)) ⟨rfl, rfl⟩ (sub_nil _)
    obtain ⟨y36, hy37, H⟩ := lt_some H
    obtain ⟨s27_12, hs27_12⟩ := exv (.int .i64 y36)
    refine have_opa disk_Disk_Crash.tab25 7 12 (fun sp => sp 12 = s27_12 ∧ sp 11 = s27_11) (fun sp on hA hon => ?_) (fun ops27_12 => ?_)
    · refine ⟨fun o ho vs Rs f' S' w hp hf hx hS hR hs => ?_⟩
      obtain rfl := Option.some.inj ho
      obtain ⟨hv11, hR11⟩ := (spe hA.2 hs27_11 (hp 11 (by kernel_rfl)))
      rw [hA.1, hs27_12]
      refine wn hon ?_
      have hF := fr_next (rfl) ((hf 11 65 (by kernel_rfl) rfl).trans hv11)
      refine ls_fr hF ?_
      refine lv (.int .i64 (if (512 : Int) < y34 then (512 : Int) else y34)) ?_
      refine ls_ren 66 (v := .int .i64 (if (512 : Int) < y34 then (512 : Int) else y34)) (v' := .int .i64 y36) (by kernel_rfl) (by rw [hy37]) ?_
      exact ls_fin s0 _ ((upd_upd _ _ _ _).trans (congrArg (fun z => upd z 66 _) hF.symm)) ⟨rfl, rfl⟩ (sub_nil _)
    obtain ⟨q38, H⟩ := ite_need H
    obtain ⟨q39, H⟩ := ite_need H
    obtain ⟨xl44, hy45, H⟩ := lt_some H
    have hz48 : (y36).toNat ≤ 512 := by omega
    have hz47 : (y36).toNat ≤ ((mget ((y16).getD (x39_3).toNat (0 : Int)) w0_1.1).getD (vrep 512 (0 : Int))).1.length := by rw [((mget ((y16).getD (x39_3).toNat (0 : Int)) w0_1.1).getD (vrep 512 (0 : Int))).2]; exact hz48
    obtain ⟨xA40, xc41, he46, xC43, xR42⟩ := cutr_at (A := (some ⟨g24, 0, none⟩)) (c := 512) (l := ((mget ((y16).getD (x39_3).toNat (0 : Int)) w0_1.1).getD (vrep 512 (0 : Int))).1) (Ec.int 5 .u8) 0 (y36).toNat (Nat.zero_le _) hz47 (Nat.le_of_eq ((mget ((y16).getD (x39_3).toNat (0 : Int)) w0_1.1).getD (vrep 512 (0 : Int))).2) (m := xl44) (by rw [← hy45] <;> simp) (z := 1) rfl
    obtain ⟨s27_13, hs27_13⟩ := exv (.slice xA40 xl44.length xc41)
    refine have_opa disk_Disk_Crash.tab25 7 13 (fun sp => sp 13 = s27_13 ∧ sp 12 = s27_12) (fun sp on hA hon => ?_) (fun ops27_13 => ?_)
    · refine ⟨fun o ho vs Rs f' S' w hp hf hx hS hR hs => ?_⟩
      obtain rfl := Option.some.inj ho
      obtain ⟨hv12, hR12⟩ := (spe hA.2 hs27_12 (hp 12 (by kernel_rfl)))
      rw [hA.1, hs27_13]
      refine wn hon ?_
      have hF := fr_next (fr_next (rfl) ((hx 11 (by kernel_rfl)).trans (by kernel_rfl : (_ : Value) = .pointer (some ⟨g24, 0, none⟩)))) ((hf 12 66 (by kernel_rfl) rfl).trans hv12)
      refine ls_fr hF ?_
      refine ls_acut (z := 1) (ad := ⟨g24, 0, none⟩) (N := 512) (b := (y36).toNat) (e := 5) (kh := .i64) rfl rfl (by kernel_rfl) rfl (by kernel_rfl) (by rw [Int.toNat_of_nonneg (by first | assumption | omega)]; kernel_rfl) (by kernel_rfl) (by kernel_rfl) hz48 ?_
      refine ls_ren 67 (v := .slice (some ⟨g24, 0, none⟩) (y36).toNat 512) (v' := .slice xA40 xl44.length xc41) (by kernel_rfl) ((acut_he _ _ _ 1).trans he46) ?_
      exact ls_fin s0 _ ((upd_upd _ _ _ _).trans (congrArg (fun z => upd z 67 _) hF.symm)) ⟨rfl, rfl⟩ (sub_nil _)
    refine cs_draw disk_Disk_Crash.tab25 14 7 (spl [s27_0, s27_1, s27_2, s27_3, s27_4, s27_5, s27_6, s27_7, s27_8, s27_9, s27_10, s27_11, s27_12, s27_13]) (onl [true, true, true, true, true, true, true, true, true, true, true, true, true, true]) (by kernel_rfl) (by kernel_rfl) (by kernel_rfl) (by kernel_rfl) (rs := [_]) rfl (by kernel_rfl) (by kernel_rfl) (all_snoc (all_snoc (all_snoc (all_snoc (all_snoc (all_snoc (all_snoc (all_snoc (all_snoc (all_snoc (all_snoc (all_snoc (all_snoc (all_snoc (all_nil) (ops27_0 _ _ rfl rfl)) (ops27_1 _ _ ⟨rfl, rfl⟩ rfl)) (ops27_2 _ _ ⟨rfl, rfl⟩ rfl)) (ops27_3 _ _ ⟨rfl, rfl⟩ rfl)) (ops27_4 _ _ rfl rfl)) (ops27_5 _ _ ⟨rfl, rfl, rfl⟩ rfl)) (ops27_6 _ _ ⟨rfl, rfl⟩ rfl)) (ops27_7 _ _ rfl rfl)) (ops27_8 _ _ rfl rfl)) (ops27_9 _ _ ⟨rfl, rfl, rfl⟩ rfl)) (ops27_10 _ _ ⟨rfl, rfl⟩ rfl)) (ops27_11 _ _ ⟨rfl, rfl⟩ rfl)) (ops27_12 _ _ ⟨rfl, rfl⟩ rfl)) (ops27_13 _ _ ⟨rfl, rfl⟩ rfl)) ?_
    intro vs Rs f' S' hp hf hx hS hR
    obtain ⟨hv6, hR6⟩ := (spe rfl hs27_6 (hp 6 (by kernel_rfl)))
    obtain ⟨hv13, hR13⟩ := (spe rfl hs27_13 (hp 13 (by kernel_rfl)))
    refine ls_fr (F := upd (upd (upd (upd (upd (upd (upd (upd f' 0 (.pointer (some ⟨pg0, 0, none⟩))) 1 (.slice A1 l1.length c1)) 6 (.pointer (some ⟨g9, 0, none⟩))) 37 (.slice A7_2 y16.length c7_2)) 38 (.int .i64 (y16.length : Int))) 39 (.int .i64 x39_3)) 60 (.slice (some ((⟨gl7, 0, none⟩ : Addr).add ((((y16).getD (x39_3).toNat (0 : Int))).toNat * 512))) 512 512)) 67 (.slice xA40 xl44.length xc41)) (fr_next (fr_next (fr_next (fr_next (fr_next (fr_next (fr_next (fr_next (rfl) ((hx 0 (by kernel_rfl)).trans (by kernel_rfl : (_ : Value) = .pointer (some ⟨pg0, 0, none⟩)))) ((hx 1 (by kernel_rfl)).trans (by kernel_rfl : (_ : Value) = .slice A1 l1.length c1))) ((hx 6 (by kernel_rfl)).trans (by kernel_rfl : (_ : Value) = .pointer (some ⟨g9, 0, none⟩)))) ((hx 37 (by kernel_rfl)).trans (by kernel_rfl : (_ : Value) = .slice A7_2 y16.length c7_2))) ((hx 38 (by kernel_rfl)).trans (by kernel_rfl : (_ : Value) = .int .i64 (y16.length : Int)))) ((hx 39 (by kernel_rfl)).trans (by kernel_rfl : (_ : Value) = .int .i64 x39_3))) ((hf 6 60 (by kernel_rfl) rfl).trans hv6)) ((hf 13 67 (by kernel_rfl) rfl).trans hv13)) ?_
    refine ls_sub (sput (sput (sput (sput (sput (sput s0 0 (some (Ck.var 34 pg0 (([Value.slice (some ⟨gl0_0, 0, none⟩) n0_0 c0_0] ++ ([Value.map (some r0_1)] ++ ([Value.bool v0.2.2.1] ++ ([Value.int .i64 v0.2.2.2.1] ++ [Value.bool v0.2.2.2.2])))))))) 1 (some (Ck.mr T48 r0_1 gl0_0 c0_0 n0_0 w0_1))) 3 (some (Ck.mr T48 g5 gl7 x4.2 t2.length m3_3))) 4 (some (Ck.var 34 g9 (([Value.slice (some ⟨gl7, 0, none⟩) t2.length x4.2] ++ ([Value.map (some g5)] ++ ([Value.bool false] ++ ([Value.int .i64 (0 : Int)] ++ [Value.bool false])))))))) 5 (some (Ck.sl (Ec.int 3 .i64) A7_2 c7_2 y16))) 6 (some (Ck.var 48 g24 (en (Value.int .u8) ((mget ((y16).getD (x39_3).toNat (0 : Int)) w0_1.1).getD (vrep 512 (0 : Int))).1)))) (sub_put ((hS 6 (by kernel_rfl)).trans (by exact rfl)) (sub_put ((hS 5 (by kernel_rfl)).trans (by exact rfl)) (sub_put ((hS 4 (by kernel_rfl)).trans (by exact rfl)) (sub_put ((hS 3 (by kernel_rfl)).trans (by exact rfl)) (sub_put ((hS 1 (by kernel_rfl)).trans (by exact rfl)) (sub_put ((hS 0 (by kernel_rfl)).trans (by exact rfl)) (sub_nil _))))))) ?_
    obtain ⟨y50, hy51, H⟩ := lt_some H
    refine ls_mrcopy (T := T48) (m := m3_3) (Value.int .u8) (off := ((((y16).getD (x39_3).toNat (0 : Int))).toNat * 512)) (N := 512) (cx := 512) (B := xA40) (cb := xc41) (l := xl44) (v := ((m3_3.2).getD (((y16).getD (x39_3).toNat (0 : Int))).toNat (vrep 512 (0 : Int)))) (l' := (m3_3.2.set (((y16).getD (x39_3).toNat (0 : Int))).toNat (vcopy ((m3_3.2).getD (((y16).getD (x39_3).toNat (0 : Int))).toNat (vrep 512 (0 : Int))) xl44))) (e := 5) 3 rfl rfl (by kernel_rfl) (by kernel_rfl) (by exact rfl) (by kernel_rfl) (by kernel_rfl) (fun w hs => Rd.toen (t := 5) (xR42.1 _ (Rd.ofen (t := 5) (hs.vars (k := 6) (by exact rfl) (Sub4.all _))))) (fun _ => rfl) (em_sub T48 m3_3.2 (i := (((y16).getD (x39_3).toNat (0 : Int))).toNat) (by have h0 : (0 : Int) ≤ ((y16).getD (x39_3).toNat (0 : Int)) := q29; have h1 : ((y16).getD (x39_3).toNat (0 : Int)) < (m3_3.2.length : Int) := q30; omega)) (splc_em T48 m3_3.2 (vcopy ((m3_3.2).getD (((y16).getD (x39_3).toNat (0 : Int))).toNat (vrep 512 (0 : Int))) xl44) (i := (((y16).getD (x39_3).toNat (0 : Int))).toNat) (by have h0 : (0 : Int) ≤ ((y16).getD (x39_3).toNat (0 : Int)) := q29; have h1 : ((y16).getD (x39_3).toNat (0 : Int)) < (m3_3.2.length : Int) := q30; omega)) (by rw [List.length_set]) rfl (by kernel_rfl) ?_
    rw [hy51]
    refine ls_end ?_
    refine qn_block ?_
    refine qn_then ?_
    refine cs_region (l := [_, _]) ?_
    refine lv (.int .i64 (IntKind.wrap .i64 (x39_3 + (1 : Int)))) ?_
    refine lv (.int .i64 (IntKind.wrap .i64 (x39_3 + (1 : Int)))) ?_
    refine ls_end ?_
    refine qn_again k3 (sput (sput (sput (sput (sput s0 0 (some (Ck.var 34 pg0 (([Value.slice (some ⟨gl0_0, 0, none⟩) n0_0 c0_0] ++ ([Value.map (some r0_1)] ++ ([Value.bool v0.2.2.1] ++ ([Value.int .i64 v0.2.2.2.1] ++ [Value.bool v0.2.2.2.2])))))))) 1 (some (Ck.mr T48 r0_1 gl0_0 c0_0 n0_0 w0_1))) 3 (some (Ck.mr T48 g5 gl7 x4.2 t2.length (m3_3.1, y50)))) 4 (some (Ck.var 34 g9 (([Value.slice (some ⟨gl7, 0, none⟩) t2.length x4.2] ++ ([Value.map (some g5)] ++ ([Value.bool false] ++ ([Value.int .i64 (0 : Int)] ++ [Value.bool false])))))))) 5 (some (Ck.sl (Ec.int 3 .i64) A7_2 c7_2 y16))) (Nat.le_refl _) ⟨_, (IntKind.wrap .i64 (x39_3 + (1 : Int))), (m3_3.1, y50), fr_next (fr_next (fr_next (fr_next (fr_next (fr_next (rfl) (by kernel_rfl)) (by kernel_rfl)) (by kernel_rfl)) (by kernel_rfl)) (by kernel_rfl)) (by kernel_rfl), rfl, H⟩ (sub_put (by exact rfl) (sub_put (by exact rfl) (sub_put (by exact rfl) (sub_put (by exact rfl) (sub_put (by exact rfl) (sub_nil _))))))
  intro p12 hp13
  have hin14 := mrks_in H hp13
  replace H := mrks_step H hp13
  refine lv (.bool true) ?_
  refine ls_end ?_
  refine qn_then ?_
  refine cs_seq ?_
  refine cs_true (by kernel_rfl) ?_
  refine cs_skip' ?_
  refine qn_then ?_
  refine cs_block ?_
  refine cs_seq ?_
  refine cs_region (l := [_, _, _]) ?_
  refine ls_mkentry (T := T48) (gi := g10) (left := (mdel p12.1 lf1_2)) (m := w0_1) (p := p12) 1 rfl rfl (by kernel_rfl) rfl (by kernel_rfl) (by exact rfl) ?_
  refine ls_mkfree 1 (by exact rfl) ?_
  refine lv (.int .i64 p12.1) ?_
  refine lv (.int .i64 p12.1) ?_
  refine ls_end ?_
  refine qn_then ?_
  refine cs_region (l := [_, _, _, _, _]) ?_
  refine lv (.slice A7_2 l7_2.length c7_2) ?_
  refine lv (.int .i64 p12.1) ?_
  refine ls_lit (Ec.int 3 .i64) 6 rfl rfl (by kernel_rfl) ([p12.1]) (by exact of_decide_eq_true (by kernel_rfl)) (fun w => by kernel_rfl) ?_
  intro g53
  refine ls_app (Ec.int 3 .i64) (A := A7_2) (c := c7_2) (B := (some ⟨g53, 0, none⟩)) (cb := [p12.1].length) (z := (Value.int .i64 0)) (l := l7_2) (m := [p12.1]) (bytes := 8) 5 rfl rfl (by kernel_rfl) rfl (by kernel_rfl) (by exact rfl) (by kernel_rfl) (fun w hs => (hs.rd (k := 6) (by exact rfl))) (by kernel_rfl) (by kernel_rfl) rfl (by decide) (hin14 p12.1) ?_
  intro xA54 xc55
  refine lv (.slice xA54 (l7_2 ++ [p12.1]).length xc55) ?_
  refine ls_end ?_
  refine qn_block ?_
  refine qn_again k2 (sput (sput (sput (sput (sput s0 0 (some (Ck.var 34 pg0 (([Value.slice (some ⟨gl0_0, 0, none⟩) n0_0 c0_0] ++ ([Value.map (some r0_1)] ++ ([Value.bool v0.2.2.1] ++ ([Value.int .i64 v0.2.2.2.1] ++ [Value.bool v0.2.2.2.2])))))))) 1 (some (Ck.mrk T48 r0_1 gl0_0 c0_0 n0_0 g10 (mdel p12.1 lf1_2) none w0_1))) 3 (some (Ck.mr T48 g5 gl7 x4.2 t2.length (([] : List (Int × (Vc Int 512))), t2)))) 4 (some (Ck.var 34 g9 (([Value.slice (some ⟨gl7, 0, none⟩) t2.length x4.2] ++ ([Value.map (some g5)] ++ ([Value.bool false] ++ ([Value.int .i64 (0 : Int)] ++ [Value.bool false])))))))) 5 (some (Ck.sl (Ec.int 3 .i64) xA54 xc55 (l7_2 ++ [p12.1])))) (Nat.le_refl _) ⟨_, xA54, xc55, (l7_2 ++ [p12.1]), (mdel p12.1 lf1_2), fr_next (fr_next (fr_next (fr_next (fr_next (rfl) (by kernel_rfl)) (by kernel_rfl)) (by kernel_rfl)) (by kernel_rfl)) (by kernel_rfl), rfl, H⟩ (sub_put (by exact rfl) (sub_put (by exact rfl) (sub_put (by exact rfl) (sub_put (by exact rfl) (sub_put (by exact rfl) (sub_nil _))))))

/-! ### (*shadowbox/disk.Disk).Waiting: function 13 -/
def disk_Disk_Waiting.f (k : Nat) (v0 : (Unit × Unit × Bool × Int × Bool)) (w0_1 : (List (Int × (Vc Int 512)) × List (Vc Int 512))) : Option (Int) :=
  some (w0_1.1.length : Int)
set_option maxRecDepth 100000 in
set_option maxHeartbeats 4000000 in
theorem disk_Disk_Waiting.calls (k : Nat) (pg0 : Nat) (gl0_0 : Nat) (n0_0 : Nat) (c0_0 : Nat) (r0_1 : Nat) (v0 : (Unit × Unit × Bool × Int × Bool)) (w0_1 : (List (Int × (Vc Int 512)) × List (Vc Int 512))) (r : Int) (b : Bs) (hs0 : St b (stl [Ck.var 34 pg0 (([Value.slice (some ⟨gl0_0, 0, none⟩) n0_0 c0_0] ++ ([Value.map (some r0_1)] ++ ([Value.bool v0.2.2.1] ++ ([Value.int .i64 v0.2.2.2.1] ++ [Value.bool v0.2.2.2.2]))))), Ck.mr T48 r0_1 gl0_0 c0_0 n0_0 w0_1]) b.w) (H : disk_Disk_Waiting.f k v0 w0_1 = some r) :
    Calls Try.prog 13 #[.pointer (some ⟨pg0, 0, none⟩)] b.w fun e w' => ∃ x : Unit, e = .returned (.int .i64 r) ∧ St b (stl [Ck.var 34 pg0 (([Value.slice (some ⟨gl0_0, 0, none⟩) n0_0 c0_0] ++ ([Value.map (some r0_1)] ++ ([Value.bool v0.2.2.1] ++ ([Value.int .i64 v0.2.2.2.1] ++ [Value.bool v0.2.2.2.2]))))), Ck.mr T48 r0_1 gl0_0 c0_0 n0_0 w0_1]) w' := by
  unfold disk_Disk_Waiting.f at H
  refine enterb (n := 10) Try.func13 rfl (by kernel_rfl) (by kernel_rfl) hs0 ?_
  refine cs_sub (sput (sput s0 0 (some (Ck.var 34 pg0 (([Value.slice (some ⟨gl0_0, 0, none⟩) n0_0 c0_0] ++ ([Value.map (some r0_1)] ++ ([Value.bool v0.2.2.1] ++ ([Value.int .i64 v0.2.2.2.1] ++ [Value.bool v0.2.2.2.2])))))))) 1 (some (Ck.mr T48 r0_1 gl0_0 c0_0 n0_0 w0_1))) (sub_put (by exact rfl) (sub_put (by exact rfl) (sub_nil _))) ?_
  refine cs_seq ?_
  refine cs_region (l := [_]) ?_
  refine lv (.int .i64 (0 : Int)) ?_
  refine ls_end ?_
  refine qn_then ?_
  refine cs_seq ?_
  refine cs_seq ?_
  refine cs_region (l := [_, _]) ?_
  refine lv (.pointer (some ⟨pg0, 0, none⟩)) ?_
  have hc2 : disk_Disk_none.f k ((), (), v0.2.2.1, v0.2.2.2.1, v0.2.2.2.2) w0_1 = some false := rfl
  refine ls_callb (fid := 14) (vals := #[.pointer (some ⟨pg0, 0, none⟩)]) (X := Unit) (fun x => .bool false) (fun x => stl [Ck.var 34 pg0 (([Value.slice (some ⟨gl0_0, 0, none⟩) n0_0 c0_0] ++ ([Value.map (some r0_1)] ++ ([Value.bool v0.2.2.1] ++ ([Value.int .i64 v0.2.2.2.1] ++ [Value.bool v0.2.2.2.2]))))), Ck.mr T48 r0_1 gl0_0 c0_0 n0_0 w0_1]) [0, 1] [] [Ck.var 34 pg0 (([Value.slice (some ⟨gl0_0, 0, none⟩) n0_0 c0_0] ++ ([Value.map (some r0_1)] ++ ([Value.bool v0.2.2.1] ++ ([Value.int .i64 v0.2.2.2.1] ++ [Value.bool v0.2.2.2.2]))))), Ck.mr T48 r0_1 gl0_0 c0_0 n0_0 w0_1] [] 2 rfl rfl (by kernel_rfl) (fun w => by kernel_rfl) ⟨by exact rfl, by exact rfl, trivial⟩ trivial (by decide) (fun w hs hb => disk_Disk_none.calls k pg0 gl0_0 n0_0 c0_0 r0_1 ((), (), v0.2.2.1, v0.2.2.2.1, v0.2.2.2.2) w0_1 false (lent b w [Ck.var 34 pg0 (([Value.slice (some ⟨gl0_0, 0, none⟩) n0_0 c0_0] ++ ([Value.map (some r0_1)] ++ ([Value.bool v0.2.2.1] ++ ([Value.int .i64 v0.2.2.2.1] ++ [Value.bool v0.2.2.2.2]))))), Ck.mr T48 r0_1 gl0_0 c0_0 n0_0 w0_1] []) hb  hc2) ?_
  intro x3
  refine ls_end ?_
  refine qn_then ?_
  refine cs_false (by kernel_rfl) ?_
  refine cs_skip' ?_
  refine qn_then ?_
  refine cs_seq ?_
  refine cs_region (l := [_, _, _, _, _, _]) ?_
  refine lv (.pointer (some ⟨pg0, 0, none⟩)) ?_
  refine lv (.pointer (some ⟨pg0, 0, none⟩)) ?_
  refine lv (.pointer (some ⟨pg0, (0 + 1), none⟩)) ?_
  refine ls_load (a0 := ⟨pg0, (0 + 1), none⟩) (v := .map (some r0_1)) (de := (TypeDesc.map 3 48)) rfl rfl (by kernel_rfl) rfl (by kernel_rfl) (by kernel_rfl) (by kernel_rfl) (fun w hs => (hs.var (k := 0) (by exact rfl) (Sub4.trans (Sub4.all _) (Sub4.skip (n := 1) (len1 _) (Sub4.head _ _))))) ?_
  refine ls_mrlen (r := r0_1) (m := w0_1) (kt := 3) (et := 48) 1 rfl rfl (by kernel_rfl) rfl (by kernel_rfl) (by kernel_rfl) (by exact rfl) ?_
  refine lv (.int .i64 (w0_1.1.length : Int)) ?_
  refine ls_end ?_
  refine qn_then ?_
  refine cs_ret' ?_
  obtain rfl := Option.some.inj H
  refine qr_res (rs := [_]) rfl (fun w' hs => ⟨[.int .i64 (w0_1.1.length : Int)], (res_tmp (by kernel_rfl) (.nil)), (), rfl, hs.pick (ts := [0, 1]) (cs := [Ck.var 34 pg0 (([Value.slice (some ⟨gl0_0, 0, none⟩) n0_0 c0_0] ++ ([Value.map (some r0_1)] ++ ([Value.bool v0.2.2.1] ++ ([Value.int .i64 v0.2.2.2.1] ++ [Value.bool v0.2.2.2.2]))))), Ck.mr T48 r0_1 gl0_0 c0_0 n0_0 w0_1]) ⟨by exact rfl, by exact rfl, trivial⟩ (by decide)⟩)

end Go.Proofs.Ytodfejnjfigkoaa.G
