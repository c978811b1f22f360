/- Printed by a program of this session (sz.py): plain functions, and walks that show that the code comes to them; no condition. -/
import Derived.Test.YtbidihabicgedaaProg
import Derived.Test.YtbidihabicgedaaTy
set_option linter.unusedVariables false
set_option linter.unusedSimpArgs false
namespace Go.Proofs.Ytbidihabicgedaa.G
open Go Go.RowKit Go.Proofs.Ytbidihabicgedaa.Sx

/-! ### shadowbox/disk.New: function 6 -/
def disk_New.f (k : Nat) (a0 : Int) : Option (((Unit × Unit × Bool × Int × Bool) × (List (Int × (Vc Int 512)) × List (Vc Int 512))) × Int) :=
  (if a0 < (1 : Int) then none else (if a0 > (8192 : Int) then none else (if 0 ≤ a0 then (if a0 ≤ a0 then (if a0 ≤ 140737488355328 then (if (512 : Int) * a0 ≤ 281474976710656 then some ((((), (), false, (0 : Int), false), (([] : List (Int × (Vc Int 512))), (List.replicate (a0).toNat (vrep 512 (0 : Int))))), (0 : Int)) else none) else none) else none) else none)))
set_option maxRecDepth 100000 in
set_option maxHeartbeats 4000000 in
theorem disk_New.calls (k : Nat) (a0 : Int) (r : ((Unit × Unit × Bool × Int × Bool) × (List (Int × (Vc Int 512)) × List (Vc Int 512))) × Int) (b : Bs) (hs0 : St b (stl []) b.w) (H : disk_New.f k a0 = some r) :
    Calls Try.prog 6 #[.int .i64 a0] b.w fun e w' => ∃ x : Nat × Nat × Nat × Nat × Nat, e = .returned (.tuple #[.pointer (some ⟨x.1, 0, none⟩), .int .i64 r.2]) ∧ St b (stl [Ck.var 42 x.1 (([Value.slice (some ⟨x.2.2.1, 0, none⟩) x.2.2.2.2 x.2.2.2.1] ++ ([Value.map (some x.2.1)] ++ ([Value.bool r.1.1.2.2.1] ++ ([Value.int .i64 r.1.1.2.2.2.1] ++ [Value.bool r.1.1.2.2.2.2]))))), Ck.mr T56 x.2.1 x.2.2.1 x.2.2.2.1 x.2.2.2.2 r.1.2]) w' := by
  unfold disk_New.f at H
  refine enterb (n := 15) Try.func6 rfl (by kernel_rfl) (by kernel_rfl) hs0 ?_
  refine cs_sub (s0) (sub_nil _) ?_
  refine cs_seq ?_
  refine cs_region (l := [_, _]) ?_
  refine lv (.pointer none) ?_
  refine lv (.int .i64 (0 : Int)) ?_
  refine ls_end ?_
  refine qn_then ?_
  refine cs_seq ?_
  refine cs_seq ?_
  refine cs_region (l := [_, _, _, _, _, _]) ?_
  refine lv (.int .i64 a0) ?_
  refine lv (.bool (decide (a0 < (1 : Int)))) ?_
  refine lv (.bool (decide (a0 < (1 : Int)))) ?_
  by_cases q1 : a0 < (1 : Int)
  · replace H := ite_t q1 H
    refine ls_know (c := true) (dec_t q1) 6 (by kernel_rfl) ?_
    refine lofx 2 6 false true ?_
    refine lofx 2 6 false true ?_
    refine lv (.bool true) ?_
    refine ls_end ?_
    refine qn_then ?_
    refine cs_true (by kernel_rfl) ?_
    refine cs_seq ?_
    refine cs_region (l := [_, _]) ?_
    refine lv (.pointer none) ?_
    refine lv (.int .i64 (2 : Int)) ?_
    refine ls_end ?_
    refine qn_then ?_
    cases H
  replace H := ite_f q1 H
  refine ls_know (c := false) (dec_f q1) 6 (by kernel_rfl) ?_
  refine ls_on (j := 2) (t := 6) (b := false) rfl rfl (by kernel_rfl) (by kernel_rfl) ?_
  refine lv (.int .i64 a0) ?_
  refine ls_on (j := 2) (t := 6) (b := false) rfl rfl (by kernel_rfl) (by kernel_rfl) ?_
  refine lv (.bool (decide (a0 > (8192 : Int)))) ?_
  refine lv (.bool (decide (a0 > (8192 : Int)))) ?_
  refine ls_end ?_
  refine qn_then ?_
  by_cases q2 : a0 > (8192 : Int)
  · replace H := ite_t q2 H
    refine cs_know (c := true) (dec_t q2) 9 (by kernel_rfl) ?_
    refine cs_true (by kernel_rfl) ?_
    refine cs_seq ?_
    refine cs_region (l := [_, _]) ?_
    refine lv (.pointer none) ?_
    refine lv (.int .i64 (2 : Int)) ?_
    refine ls_end ?_
    refine qn_then ?_
    cases H
  replace H := ite_f q2 H
  refine cs_know (c := false) (dec_f q2) 9 (by kernel_rfl) ?_
  refine cs_false (by kernel_rfl) ?_
  refine cs_skip' ?_
  refine qn_then ?_
  refine cs_seq ?_
  refine cs_region (l := [_, _, _, _, _, _, _]) ?_
  refine lv (.int .i64 a0) ?_
  obtain ⟨q3, H⟩ := ite_need H
  obtain ⟨q4, H⟩ := ite_need H
  obtain ⟨q5, H⟩ := ite_need H
  obtain ⟨q6, H⟩ := ite_need H
  refine ls_make T56 (bytes := 512) (a := a0) (b := a0) (kx := .i64) (ky := .i64) (zc := en (Value.int .u8) (vrep 512 (0 : Int)).1) 0 rfl rfl (by kernel_rfl) rfl (by kernel_rfl) (by kernel_rfl) (by kernel_rfl) (by kernel_rfl) rfl q3 q4 q5 q6 ?_
  intro g7
  refine ls_makemap 1 rfl rfl (by kernel_rfl) rfl ?_
  intro g8
  refine lv (.agg ⟨([Value.slice (some ⟨g7, 0, none⟩) (List.replicate (a0).toNat (vrep 512 (0 : Int))).length (a0).toNat] ++ ([Value.map (some g8)] ++ ([Value.bool false] ++ ([Value.int .i64 (0 : Int)] ++ [Value.bool false]))))⟩) ?_
  refine ls_mkmr (T := T56) (gl := g7) (c := ((a0).toNat)) (l := (List.replicate (a0).toNat (vrep 512 (0 : Int)))) (r := g8) 0 1 (by decide) (by exact rfl) (by exact rfl) ?_
  refine ls_new rfl rfl (by kernel_rfl) 2 (fun g => .pointer (some ⟨g, 0, none⟩)) (.cells ⟨([Value.slice (some ⟨g7, 0, none⟩) ((List.replicate (a0).toNat (vrep 512 (0 : Int))).length) ((a0).toNat)] ++ ([Value.map (some g8)] ++ ([Value.bool false] ++ ([Value.int .i64 (0 : Int)] ++ [Value.bool false]))))⟩ 42) (fun w => by kernel_rfl) ?_
  intro g9
  refine lv (.pointer (some ⟨g9, 0, none⟩)) ?_
  refine lv (.int .i64 (0 : Int)) ?_
  refine ls_end ?_
  refine qn_then ?_
  refine cs_ret' ?_
  obtain rfl := Option.some.inj H
  refine qr_res (rs := [_, _]) rfl (fun w' hs => ⟨[.pointer (some ⟨g9, 0, none⟩), .int .i64 (0 : Int)], (res_tmp (by kernel_rfl) (res_tmp (by kernel_rfl) (.nil))), (g9, g8, g7, (a0).toNat, (List.replicate (a0).toNat (vrep 512 (0 : Int))).length), rfl, hs.pick (ts := [2, 1]) (cs := [Ck.var 42 g9 (([Value.slice (some ⟨g7, 0, none⟩) ((List.replicate (a0).toNat (vrep 512 (0 : Int))).length) ((a0).toNat)] ++ ([Value.map (some g8)] ++ ([Value.bool false] ++ ([Value.int .i64 (0 : Int)] ++ [Value.bool false]))))), Ck.mr T56 g8 g7 ((a0).toNat) ((List.replicate (a0).toNat (vrep 512 (0 : Int))).length) (([] : List (Int × (Vc Int 512))), (List.replicate (a0).toNat (vrep 512 (0 : Int))))]) ⟨by exact rfl, by exact rfl, trivial⟩ (by decide)⟩)

/-! ### (*shadowbox/disk.Disk).none: function 21 -/
def disk_Disk_none.f (k : Nat) (v0 : (Unit × Unit × Bool × Int × Bool)) (w0_1 : (List (Int × (Vc Int 512)) × List (Vc Int 512))) : Option (Bool) :=
  some false
set_option maxRecDepth 100000 in
set_option maxHeartbeats 4000000 in
theorem disk_Disk_none.calls (k : Nat) (pg0 : Nat) (gl0_0 : Nat) (n0_0 : Nat) (c0_0 : Nat) (r0_1 : Nat) (v0 : (Unit × Unit × Bool × Int × Bool)) (w0_1 : (List (Int × (Vc Int 512)) × List (Vc Int 512))) (r : Bool) (b : Bs) (hs0 : St b (stl [Ck.var 42 pg0 (([Value.slice (some ⟨gl0_0, 0, none⟩) n0_0 c0_0] ++ ([Value.map (some r0_1)] ++ ([Value.bool v0.2.2.1] ++ ([Value.int .i64 v0.2.2.2.1] ++ [Value.bool v0.2.2.2.2]))))), Ck.mr T56 r0_1 gl0_0 c0_0 n0_0 w0_1]) b.w) (H : disk_Disk_none.f k v0 w0_1 = some r) :
    Calls Try.prog 21 #[.pointer (some ⟨pg0, 0, none⟩)] b.w fun e w' => ∃ x : Unit, e = .returned (.bool r) ∧ St b (stl [Ck.var 42 pg0 (([Value.slice (some ⟨gl0_0, 0, none⟩) n0_0 c0_0] ++ ([Value.map (some r0_1)] ++ ([Value.bool v0.2.2.1] ++ ([Value.int .i64 v0.2.2.2.1] ++ [Value.bool v0.2.2.2.2]))))), Ck.mr T56 r0_1 gl0_0 c0_0 n0_0 w0_1]) w' := by
  unfold disk_Disk_none.f at H
  refine enterb (n := 12) Try.func21 rfl (by kernel_rfl) (by kernel_rfl) hs0 ?_
  refine cs_sub (sput (sput s0 0 (some (Ck.var 42 pg0 (([Value.slice (some ⟨gl0_0, 0, none⟩) n0_0 c0_0] ++ ([Value.map (some r0_1)] ++ ([Value.bool v0.2.2.1] ++ ([Value.int .i64 v0.2.2.2.1] ++ [Value.bool v0.2.2.2.2])))))))) 1 (some (Ck.mr T56 r0_1 gl0_0 c0_0 n0_0 w0_1))) (sub_put (by exact rfl) (sub_put (by exact rfl) (sub_nil _))) ?_
  refine cs_seq ?_
  refine cs_region (l := [_]) ?_
  refine lv (.bool false) ?_
  refine ls_end ?_
  refine qn_then ?_
  refine cs_seq ?_
  refine cs_region (l := [_, _, _, _, _, _, _, _, _, _]) ?_
  refine lv (.pointer (some ⟨pg0, 0, none⟩)) ?_
  refine lv (.bool false) ?_
  refine lv (.bool false) ?_
  refine ls_on (j := 2) (t := 5) (b := false) rfl rfl (by kernel_rfl) (by kernel_rfl) ?_
  refine lv (.pointer (some ⟨pg0, 0, none⟩)) ?_
  refine ls_on (j := 2) (t := 5) (b := false) rfl rfl (by kernel_rfl) (by kernel_rfl) ?_
  refine lv (.pointer (some ⟨pg0, 0, none⟩)) ?_
  refine ls_on (j := 2) (t := 5) (b := false) rfl rfl (by kernel_rfl) (by kernel_rfl) ?_
  refine lv (.pointer (some ⟨pg0, (0 + 0), none⟩)) ?_
  refine ls_on (j := 2) (t := 5) (b := false) rfl rfl (by kernel_rfl) (by kernel_rfl) ?_
  refine ls_mrn 1 (by exact rfl) (fun hn1 => ?_)
  refine ls_load (a0 := ⟨pg0, (0 + 0), none⟩) (v := .slice (some ⟨gl0_0, 0, none⟩) n0_0 c0_0) (de := (TypeDesc.slice 56)) rfl rfl (by kernel_rfl) rfl (by kernel_rfl) (by kernel_rfl) (by kernel_rfl) (fun w hs => (hs.var (k := 0) (by exact rfl) (Sub4.trans (Sub4.all _) (Sub4.head _ _)))) ?_
  refine ls_ren 9 (v := .slice (some ⟨gl0_0, 0, none⟩) n0_0 c0_0) (v' := .slice (some ⟨gl0_0, 0, none⟩) w0_1.2.length c0_0) (by kernel_rfl) (by rw [hn1]) ?_
  refine ls_on (j := 2) (t := 5) (b := false) rfl rfl (by kernel_rfl) (by kernel_rfl) ?_
  refine lv (.bool false) ?_
  refine lv (.bool false) ?_
  refine lv (.bool false) ?_
  refine ls_end ?_
  refine qn_then ?_
  refine cs_ret' ?_
  obtain rfl := Option.some.inj H
  refine qr_res (rs := [_]) rfl (fun w' hs => ⟨[.bool false], (res_tmp (by kernel_rfl) (.nil)), (), rfl, hs.pick (ts := [0, 1]) (cs := [Ck.var 42 pg0 (([Value.slice (some ⟨gl0_0, 0, none⟩) n0_0 c0_0] ++ ([Value.map (some r0_1)] ++ ([Value.bool v0.2.2.1] ++ ([Value.int .i64 v0.2.2.2.1] ++ [Value.bool v0.2.2.2.2]))))), Ck.mr T56 r0_1 gl0_0 c0_0 n0_0 w0_1]) ⟨by exact rfl, by exact rfl, trivial⟩ (by decide)⟩)

/-! ### (*shadowbox/disk.Disk).Len: function 16 -/
def disk_Disk_Len.f (k : Nat) (v0 : (Unit × Unit × Bool × Int × Bool)) (w0_1 : (List (Int × (Vc Int 512)) × List (Vc Int 512))) : Option (Int) :=
  some (w0_1.2.length : Int)
set_option maxRecDepth 100000 in
set_option maxHeartbeats 4000000 in
theorem disk_Disk_Len.calls (k : Nat) (pg0 : Nat) (gl0_0 : Nat) (n0_0 : Nat) (c0_0 : Nat) (r0_1 : Nat) (v0 : (Unit × Unit × Bool × Int × Bool)) (w0_1 : (List (Int × (Vc Int 512)) × List (Vc Int 512))) (r : Int) (b : Bs) (hs0 : St b (stl [Ck.var 42 pg0 (([Value.slice (some ⟨gl0_0, 0, none⟩) n0_0 c0_0] ++ ([Value.map (some r0_1)] ++ ([Value.bool v0.2.2.1] ++ ([Value.int .i64 v0.2.2.2.1] ++ [Value.bool v0.2.2.2.2]))))), Ck.mr T56 r0_1 gl0_0 c0_0 n0_0 w0_1]) b.w) (H : disk_Disk_Len.f k v0 w0_1 = some r) :
    Calls Try.prog 16 #[.pointer (some ⟨pg0, 0, none⟩)] b.w fun e w' => ∃ x : Unit, e = .returned (.int .i64 r) ∧ St b (stl [Ck.var 42 pg0 (([Value.slice (some ⟨gl0_0, 0, none⟩) n0_0 c0_0] ++ ([Value.map (some r0_1)] ++ ([Value.bool v0.2.2.1] ++ ([Value.int .i64 v0.2.2.2.1] ++ [Value.bool v0.2.2.2.2]))))), Ck.mr T56 r0_1 gl0_0 c0_0 n0_0 w0_1]) w' := by
  unfold disk_Disk_Len.f at H
  refine enterb (n := 10) Try.func16 rfl (by kernel_rfl) (by kernel_rfl) hs0 ?_
  refine cs_sub (sput (sput s0 0 (some (Ck.var 42 pg0 (([Value.slice (some ⟨gl0_0, 0, none⟩) n0_0 c0_0] ++ ([Value.map (some r0_1)] ++ ([Value.bool v0.2.2.1] ++ ([Value.int .i64 v0.2.2.2.1] ++ [Value.bool v0.2.2.2.2])))))))) 1 (some (Ck.mr T56 r0_1 gl0_0 c0_0 n0_0 w0_1))) (sub_put (by exact rfl) (sub_put (by exact rfl) (sub_nil _))) ?_
  refine cs_seq ?_
  refine cs_region (l := [_]) ?_
  refine lv (.int .i64 (0 : Int)) ?_
  refine ls_end ?_
  refine qn_then ?_
  refine cs_seq ?_
  refine cs_seq ?_
  refine cs_region (l := [_, _]) ?_
  refine lv (.pointer (some ⟨pg0, 0, none⟩)) ?_
  have hc2 : disk_Disk_none.f k ((), (), v0.2.2.1, v0.2.2.2.1, v0.2.2.2.2) w0_1 = some false := rfl
  refine ls_callb (fid := 21) (vals := #[.pointer (some ⟨pg0, 0, none⟩)]) (X := Unit) (fun x => .bool false) (fun x => stl [Ck.var 42 pg0 (([Value.slice (some ⟨gl0_0, 0, none⟩) n0_0 c0_0] ++ ([Value.map (some r0_1)] ++ ([Value.bool v0.2.2.1] ++ ([Value.int .i64 v0.2.2.2.1] ++ [Value.bool v0.2.2.2.2]))))), Ck.mr T56 r0_1 gl0_0 c0_0 n0_0 w0_1]) [0, 1] [] [Ck.var 42 pg0 (([Value.slice (some ⟨gl0_0, 0, none⟩) n0_0 c0_0] ++ ([Value.map (some r0_1)] ++ ([Value.bool v0.2.2.1] ++ ([Value.int .i64 v0.2.2.2.1] ++ [Value.bool v0.2.2.2.2]))))), Ck.mr T56 r0_1 gl0_0 c0_0 n0_0 w0_1] [] 2 rfl rfl (by kernel_rfl) (fun w => by kernel_rfl) ⟨by exact rfl, by exact rfl, trivial⟩ trivial (by decide) (fun w hs hb => disk_Disk_none.calls k pg0 gl0_0 n0_0 c0_0 r0_1 ((), (), v0.2.2.1, v0.2.2.2.1, v0.2.2.2.2) w0_1 false (lent b w [Ck.var 42 pg0 (([Value.slice (some ⟨gl0_0, 0, none⟩) n0_0 c0_0] ++ ([Value.map (some r0_1)] ++ ([Value.bool v0.2.2.1] ++ ([Value.int .i64 v0.2.2.2.1] ++ [Value.bool v0.2.2.2.2]))))), Ck.mr T56 r0_1 gl0_0 c0_0 n0_0 w0_1] []) hb  hc2) ?_
  intro x3
  refine ls_end ?_
  refine qn_then ?_
  refine cs_false (by kernel_rfl) ?_
  refine cs_skip' ?_
  refine qn_then ?_
  refine cs_seq ?_
  refine cs_region (l := [_, _, _, _, _, _]) ?_
  refine lv (.pointer (some ⟨pg0, 0, none⟩)) ?_
  refine lv (.pointer (some ⟨pg0, 0, none⟩)) ?_
  refine lv (.pointer (some ⟨pg0, (0 + 0), none⟩)) ?_
  refine ls_mrn 1 (by exact rfl) (fun hn4 => ?_)
  refine ls_load (a0 := ⟨pg0, (0 + 0), none⟩) (v := .slice (some ⟨gl0_0, 0, none⟩) n0_0 c0_0) (de := (TypeDesc.slice 56)) rfl rfl (by kernel_rfl) rfl (by kernel_rfl) (by kernel_rfl) (by kernel_rfl) (fun w hs => (hs.var (k := 0) (by exact rfl) (Sub4.trans (Sub4.all _) (Sub4.head _ _)))) ?_
  refine ls_ren 8 (v := .slice (some ⟨gl0_0, 0, none⟩) n0_0 c0_0) (v' := .slice (some ⟨gl0_0, 0, none⟩) w0_1.2.length c0_0) (by kernel_rfl) (by rw [hn4]) ?_
  refine lv (.int .i64 (w0_1.2.length : Int)) ?_
  refine lv (.int .i64 (w0_1.2.length : Int)) ?_
  refine ls_end ?_
  refine qn_then ?_
  refine cs_ret' ?_
  obtain rfl := Option.some.inj H
  refine qr_res (rs := [_]) rfl (fun w' hs => ⟨[.int .i64 (w0_1.2.length : Int)], (res_tmp (by kernel_rfl) (.nil)), (), rfl, hs.pick (ts := [0, 1]) (cs := [Ck.var 42 pg0 (([Value.slice (some ⟨gl0_0, 0, none⟩) n0_0 c0_0] ++ ([Value.map (some r0_1)] ++ ([Value.bool v0.2.2.1] ++ ([Value.int .i64 v0.2.2.2.1] ++ [Value.bool v0.2.2.2.2]))))), Ck.mr T56 r0_1 gl0_0 c0_0 n0_0 w0_1]) ⟨by exact rfl, by exact rfl, trivial⟩ (by decide)⟩)

/-! ### shadowbox/pointer.Sectors: function 18 -/
def pointer_Sectors.f (k : Nat) (a0 : (Int × Int × Int × Int × (Vc Int 32))) : Option (Int) :=
  (if a0.2.2.1 < (1 : Int) then some (0 : Int) else (if a0.2.2.1 > (65536 : Int) then some (0 : Int) else lt (IntKind.wrap .i64 (a0.2.2.1 + (512 : Int))) fun y4 => lt (IntKind.wrap .i64 (Int.tdiv (IntKind.wrap .i64 (y4 - (1 : Int))) (512 : Int))) fun y6 => some y6))
set_option maxRecDepth 100000 in
set_option maxHeartbeats 4000000 in
theorem pointer_Sectors.calls (k : Nat) (a0 : (Int × Int × Int × Int × (Vc Int 32))) (r : Int) (b : Bs) (hs0 : St b (stl []) b.w) (H : pointer_Sectors.f k a0 = some r) :
    Calls Try.prog 18 #[.agg ⟨([Value.int .i64 a0.1] ++ ([Value.int .i64 a0.2.1] ++ ([Value.int .i64 a0.2.2.1] ++ ([Value.int .u32 a0.2.2.2.1] ++ en (Value.int .u8) a0.2.2.2.2.1))))⟩] b.w fun e w' => ∃ x : Unit, e = .returned (.int .i64 r) ∧ St b (stl []) w' := by
  unfold pointer_Sectors.f at H
  refine enterb (n := 16) Try.func18 rfl (by kernel_rfl) (by kernel_rfl) hs0 ?_
  refine cs_sub (s0) (sub_nil _) ?_
  refine cs_seq ?_
  refine cs_region (l := [_, _]) ?_
  refine ls_new rfl rfl (by kernel_rfl) 0 (fun g => .pointer (some ⟨g, 0, none⟩)) (.cells ⟨([Value.int .i64 a0.1] ++ ([Value.int .i64 a0.2.1] ++ ([Value.int .i64 a0.2.2.1] ++ ([Value.int .u32 a0.2.2.2.1] ++ en (Value.int .u8) a0.2.2.2.2.1))))⟩ 30) (fun w => by kernel_rfl) ?_
  intro g1
  refine lv (.int .i64 (0 : Int)) ?_
  refine ls_end ?_
  refine qn_then ?_
  refine cs_seq ?_
  refine cs_seq ?_
  refine cs_region (l := [_, _, _, _, _, _, _, _]) ?_
  refine lv (.pointer (some ⟨g1, (0 + 2), none⟩)) ?_
  refine ls_load (a0 := ⟨g1, (0 + 2), none⟩) (v := .int .i64 a0.2.2.1) (de := (TypeDesc.int .i64)) rfl rfl (by kernel_rfl) rfl (by kernel_rfl) (by kernel_rfl) (by kernel_rfl) (fun w hs => (hs.var (k := 0) (by exact rfl) (Sub4.trans (Sub4.all _) (Sub4.skip (n := 1) (len1 _) (Sub4.skip (n := 1) (len1 _) (Sub4.head _ _)))))) ?_
  refine lv (.bool (decide (a0.2.2.1 < (1 : Int)))) ?_
  refine lv (.bool (decide (a0.2.2.1 < (1 : Int)))) ?_
  by_cases q2 : a0.2.2.1 < (1 : Int)
  · replace H := ite_t q2 H
    refine ls_know (c := true) (dec_t q2) 6 (by kernel_rfl) ?_
    refine lofx 3 6 false true ?_
    refine lofx 3 6 false true ?_
    refine lofx 3 6 false true ?_
    refine lv (.bool true) ?_
    refine ls_end ?_
    refine qn_then ?_
    refine cs_true (by kernel_rfl) ?_
    refine cs_seq ?_
    refine cs_region (l := [_]) ?_
    refine lv (.int .i64 (0 : Int)) ?_
    refine ls_end ?_
    refine qn_then ?_
    refine cs_ret' ?_
    refine qr_then ?_
    obtain rfl := Option.some.inj H
    refine qr_res (rs := [_]) rfl (fun w' hs => ⟨[.int .i64 (0 : Int)], (res_tmp (by kernel_rfl) (.nil)), (), rfl, hs.pick (ts := []) (cs := []) trivial (by decide)⟩)
  replace H := ite_f q2 H
  refine ls_know (c := false) (dec_f q2) 6 (by kernel_rfl) ?_
  refine ls_on (j := 3) (t := 6) (b := false) rfl rfl (by kernel_rfl) (by kernel_rfl) ?_
  refine lv (.pointer (some ⟨g1, (0 + 2), none⟩)) ?_
  refine ls_on (j := 3) (t := 6) (b := false) rfl rfl (by kernel_rfl) (by kernel_rfl) ?_
  refine ls_load (a0 := ⟨g1, (0 + 2), none⟩) (v := .int .i64 a0.2.2.1) (de := (TypeDesc.int .i64)) rfl rfl (by kernel_rfl) rfl (by kernel_rfl) (by kernel_rfl) (by kernel_rfl) (fun w hs => (hs.var (k := 0) (by exact rfl) (Sub4.trans (Sub4.all _) (Sub4.skip (n := 1) (len1 _) (Sub4.skip (n := 1) (len1 _) (Sub4.head _ _)))))) ?_
  refine ls_on (j := 3) (t := 6) (b := false) rfl rfl (by kernel_rfl) (by kernel_rfl) ?_
  refine lv (.bool (decide (a0.2.2.1 > (65536 : Int)))) ?_
  refine lv (.bool (decide (a0.2.2.1 > (65536 : Int)))) ?_
  refine ls_end ?_
  refine qn_then ?_
  by_cases q3 : a0.2.2.1 > (65536 : Int)
  · replace H := ite_t q3 H
    refine cs_know (c := true) (dec_t q3) 10 (by kernel_rfl) ?_
    refine cs_true (by kernel_rfl) ?_
    refine cs_seq ?_
    refine cs_region (l := [_]) ?_
    refine lv (.int .i64 (0 : Int)) ?_
    refine ls_end ?_
    refine qn_then ?_
    refine cs_ret' ?_
    refine qr_then ?_
    obtain rfl := Option.some.inj H
    refine qr_res (rs := [_]) rfl (fun w' hs => ⟨[.int .i64 (0 : Int)], (res_tmp (by kernel_rfl) (.nil)), (), rfl, hs.pick (ts := []) (cs := []) trivial (by decide)⟩)
  replace H := ite_f q3 H
  refine cs_know (c := false) (dec_f q3) 10 (by kernel_rfl) ?_
  refine cs_false (by kernel_rfl) ?_
  refine cs_skip' ?_
  refine qn_then ?_
  refine cs_seq ?_
  refine cs_region (l := [_, _, _, _, _, _]) ?_
  refine lv (.pointer (some ⟨g1, (0 + 2), none⟩)) ?_
  refine ls_load (a0 := ⟨g1, (0 + 2), none⟩) (v := .int .i64 a0.2.2.1) (de := (TypeDesc.int .i64)) rfl rfl (by kernel_rfl) rfl (by kernel_rfl) (by kernel_rfl) (by kernel_rfl) (fun w hs => (hs.var (k := 0) (by exact rfl) (Sub4.trans (Sub4.all _) (Sub4.skip (n := 1) (len1 _) (Sub4.skip (n := 1) (len1 _) (Sub4.head _ _)))))) ?_
  obtain ⟨y4, hy5, H⟩ := lt_some H
  refine lv (.int .i64 (IntKind.wrap .i64 (a0.2.2.1 + (512 : Int)))) ?_
  refine ls_ren 13 (v := .int .i64 (IntKind.wrap .i64 (a0.2.2.1 + (512 : Int)))) (v' := .int .i64 y4) (by kernel_rfl) (by rw [hy5]) ?_
  refine lv (.int .i64 (IntKind.wrap .i64 (y4 - (1 : Int)))) ?_
  obtain ⟨y6, hy7, H⟩ := lt_some H
  refine lv (.int .i64 (IntKind.wrap .i64 (Int.tdiv (IntKind.wrap .i64 (y4 - (1 : Int))) (512 : Int)))) ?_
  refine ls_ren 15 (v := .int .i64 (IntKind.wrap .i64 (Int.tdiv (IntKind.wrap .i64 (y4 - (1 : Int))) (512 : Int)))) (v' := .int .i64 y6) (by kernel_rfl) (by rw [hy7]) ?_
  refine lv (.int .i64 y6) ?_
  refine ls_end ?_
  refine qn_then ?_
  refine cs_ret' ?_
  obtain rfl := Option.some.inj H
  refine qr_res (rs := [_]) rfl (fun w' hs => ⟨[.int .i64 y6], (res_tmp (by kernel_rfl) (.nil)), (), rfl, hs.pick (ts := []) (cs := []) trivial (by decide)⟩)

/-! ### shadowbox/pointer.Right$1: function 39 -/
def pointer_Right_1.f (k : Nat) (a0 : Int) (a1 : Int) (a2 : Int) : Option (Bool) :=
  (if a0 ≥ a1 then some (decide (a0 ≤ a2)) else some false)
set_option maxRecDepth 100000 in
set_option maxHeartbeats 4000000 in
theorem pointer_Right_1.calls (k : Nat) (a0 : Int) (a1 : Int) (a2 : Int) (r : Bool) (b : Bs) (hs0 : St b (stl []) b.w) (H : pointer_Right_1.f k a0 a1 a2 = some r) :
    Calls Try.prog 39 #[.int .i64 a0, .int .i64 a1, .int .i64 a2] b.w fun e w' => ∃ x : Unit, e = .returned (.bool r) ∧ St b (stl []) w' := by
  unfold pointer_Right_1.f at H
  refine enterb (n := 15) Try.func39 rfl (by kernel_rfl) (by kernel_rfl) hs0 ?_
  refine cs_sub (s0) (sub_nil _) ?_
  refine cs_seq ?_
  refine cs_region (l := [_]) ?_
  refine lv (.bool false) ?_
  refine ls_end ?_
  refine qn_then ?_
  refine cs_seq ?_
  refine cs_region (l := [_, _, _, _, _, _, _, _, _]) ?_
  refine lv (.int .i64 a0) ?_
  refine lv (.int .i64 a1) ?_
  refine lv (.bool (decide (a0 ≥ a1))) ?_
  refine lv (.bool (decide (a0 ≥ a1))) ?_
  by_cases q1 : a0 ≥ a1
  · replace H := ite_t q1 H
    refine ls_know (c := true) (dec_t q1) 10 (by kernel_rfl) ?_
    refine ls_on (j := 3) (t := 10) (b := true) rfl rfl (by kernel_rfl) (by kernel_rfl) ?_
    refine lv (.int .i64 a0) ?_
    refine ls_on (j := 3) (t := 10) (b := true) rfl rfl (by kernel_rfl) (by kernel_rfl) ?_
    refine lv (.int .i64 a2) ?_
    refine ls_on (j := 3) (t := 10) (b := true) rfl rfl (by kernel_rfl) (by kernel_rfl) ?_
    refine lv (.bool (decide (a0 ≤ a2))) ?_
    refine lv (.bool (decide (a0 ≤ a2))) ?_
    refine lv (.bool (decide (a0 ≤ a2))) ?_
    refine ls_end ?_
    refine qn_then ?_
    refine cs_ret' ?_
    obtain rfl := Option.some.inj H
    refine qr_res (rs := [_]) rfl (fun w' hs => ⟨[.bool (decide (a0 ≤ a2))], (res_tmp (by kernel_rfl) (.nil)), (), rfl, hs.pick (ts := []) (cs := []) trivial (by decide)⟩)
  replace H := ite_f q1 H
  refine ls_know (c := false) (dec_f q1) 10 (by kernel_rfl) ?_
  refine lofx 3 10 true false ?_
  refine lofx 3 10 true false ?_
  refine lofx 3 10 true false ?_
  refine lv (.bool false) ?_
  refine lv (.bool false) ?_
  refine ls_end ?_
  refine qn_then ?_
  refine cs_ret' ?_
  obtain rfl := Option.some.inj H
  refine qr_res (rs := [_]) rfl (fun w' hs => ⟨[.bool false], (res_tmp (by kernel_rfl) (.nil)), (), rfl, hs.pick (ts := []) (cs := []) trivial (by decide)⟩)

/-! ### shadowbox/pointer.Right: function 29 -/
def pointer_Right.tab1 : List (List Nat) := [[], [], [1], [0, 1, 2], [0, 1, 2, 3], [0, 1, 2, 3, 4], [0, 1, 2, 3, 4, 5], [0, 1, 2, 3, 4, 5, 6], [0, 1, 2, 3, 4, 5, 6, 7], [0, 1, 2, 3, 4, 5, 6, 7, 8], [0, 1, 2, 3, 4, 5, 6, 7, 8, 9], [0, 1, 2, 3, 4, 5, 6, 7, 8, 9], [0, 1, 2, 3, 4, 5, 6, 7, 8, 9, 11], [0, 1, 2, 3, 4, 5, 6, 7, 8, 9], [0, 1, 2, 3, 4, 5, 6, 7, 8, 9, 13], [0, 1, 2, 3, 4, 5, 6, 7, 8, 9, 13, 14], [0, 1, 2, 3, 4, 5, 6, 7, 8, 9, 10, 11, 12, 13, 14, 15], [0, 1, 2, 3, 4, 5, 6, 7, 8, 9, 10, 11, 12, 13, 14, 15, 16], [0, 1, 2, 3, 4, 5, 6, 7, 8, 9, 10, 11, 12, 13, 14, 15, 16, 17]]
def pointer_Right.f (k : Nat) (a0 : (Int × Int × Int × Int × (Vc Int 32))) : Option (Bool) :=
  (pointer_Right_1.f k a0.2.1 (1 : Int) (1152921504606846976 : Int)).bind fun t4 => (if t4 = true then (pointer_Sectors.f k a0).bind fun t8 => (if t8 > (0 : Int) then (pointer_Sectors.f k a0).bind fun t12 => (pointer_Right_1.f k a0.1 (2 : Int) (IntKind.wrap .i64 ((8192 : Int) - t12))).bind fun t15 => some t15 else some false) else some false)
set_option maxRecDepth 100000 in
set_option maxHeartbeats 4000000 in
theorem pointer_Right.calls (k : Nat) (a0 : (Int × Int × Int × Int × (Vc Int 32))) (r : Bool) (b : Bs) (hs0 : St b (stl []) b.w) (H : pointer_Right.f k a0 = some r) :
    Calls Try.prog 29 #[.agg ⟨([Value.int .i64 a0.1] ++ ([Value.int .i64 a0.2.1] ++ ([Value.int .i64 a0.2.2.1] ++ ([Value.int .u32 a0.2.2.2.1] ++ en (Value.int .u8) a0.2.2.2.2.1))))⟩] b.w fun e w' => ∃ x : Unit, e = .returned (.bool r) ∧ St b (stl []) w' := by
  unfold pointer_Right.f at H
  refine enterb (n := 22) Try.func29 rfl (by kernel_rfl) (by kernel_rfl) hs0 ?_
  refine cs_sub (s0) (sub_nil _) ?_
  refine cs_seq ?_
  refine cs_region (l := [_, _]) ?_
  refine ls_new rfl rfl (by kernel_rfl) 0 (fun g => .pointer (some ⟨g, 0, none⟩)) (.cells ⟨([Value.int .i64 a0.1] ++ ([Value.int .i64 a0.2.1] ++ ([Value.int .i64 a0.2.2.1] ++ ([Value.int .u32 a0.2.2.2.1] ++ en (Value.int .u8) a0.2.2.2.2.1))))⟩ 30) (fun w => by kernel_rfl) ?_
  intro g1
  refine lv (.bool false) ?_
  refine ls_end ?_
  refine qn_then ?_
  refine cs_seq ?_
  refine cs_region (l := [_]) ?_
  refine lv (.func (.func 39) #[] #[]) ?_
  refine ls_end ?_
  refine qn_then ?_
  refine cs_seq ?_
  obtain ⟨s3_0, hs3_0⟩ := exv (.func (.func 39) #[] #[])
  refine have_opa pointer_Right.tab1 1 0 (fun sp => sp 0 = s3_0) (fun sp on hA hon => ?_) (fun ops3_0 => ?_)
  · refine ⟨fun o ho vs Rs f' S' w hp hf hx hS hR hs => ?_⟩
    obtain rfl := Option.some.inj ho
    exact opv (.func (.func 39) #[] #[]) hA hs3_0 hon (fr_next (rfl) ((hx 3 (by kernel_rfl)).trans (by kernel_rfl : (_ : Value) = .func (.func 39) #[] #[])))
  obtain ⟨s3_1, hs3_1⟩ := exv (.pointer (some ⟨g1, (0 + 1), none⟩))
  refine have_opa pointer_Right.tab1 1 1 (fun sp => sp 1 = s3_1) (fun sp on hA hon => ?_) (fun ops3_1 => ?_)
  · refine ⟨fun o ho vs Rs f' S' w hp hf hx hS hR hs => ?_⟩
    obtain rfl := Option.some.inj ho
    exact opv (.pointer (some ⟨g1, (0 + 1), none⟩)) hA hs3_1 hon (fr_next (rfl) ((hx 1 (by kernel_rfl)).trans (by kernel_rfl : (_ : Value) = .pointer (some ⟨g1, 0, none⟩))))
  obtain ⟨s3_2, hs3_2⟩ := exv (.int .i64 a0.2.1)
  refine have_opa pointer_Right.tab1 1 2 (fun sp => sp 2 = s3_2 ∧ sp 1 = s3_1) (fun sp on hA hon => ?_) (fun ops3_2 => ?_)
  · refine ⟨fun o ho vs Rs f' S' w hp hf hx hS hR hs => ?_⟩
    obtain rfl := Option.some.inj ho
    obtain ⟨hv1, hR1⟩ := (spe hA.2 hs3_1 (hp 1 (by kernel_rfl)))
    rw [hA.1, hs3_2]
    refine wn hon ?_
    have hF := fr_next (rfl) ((hf 1 5 (by kernel_rfl) rfl).trans hv1)
    refine ls_fr hF ?_
    refine ls_load (a0 := ⟨g1, (0 + 1), none⟩) (v := .int .i64 a0.2.1) (de := (TypeDesc.int .i64)) rfl rfl (by kernel_rfl) rfl (by kernel_rfl) (by kernel_rfl) (by kernel_rfl) (fun w1 hs1 => cell_step hs1.below.bw (hs.var (k := 0) ((hS 0 (by kernel_rfl)).trans (by exact rfl)) (Sub4.trans (Sub4.all _) (Sub4.skip (n := 1) (len1 _) (Sub4.head _ _))))) ?_
    exact ls_fin s0 _ (congrArg (fun z => upd z 6 _) hF.symm) ⟨rfl, rfl⟩ (sub_nil _)
  obtain ⟨t4, hc5, H⟩ := bind_some H
  obtain ⟨s3_3, hs3_3⟩ : ∃ z : Value → Sto → Prop, z = (fun v R => ∃ x6 : Unit, v = .bool t4 ∧ R = stl []) := ⟨_, rfl⟩
  refine have_opa pointer_Right.tab1 1 3 (fun sp => sp 3 = s3_3 ∧ sp 0 = s3_0 ∧ sp 2 = s3_2) (fun sp on hA hon => ?_) (fun ops3_3 => ?_)
  · refine ⟨fun o ho vs Rs f' S' w hp hf hx hS hR hs => ?_⟩
    obtain rfl := Option.some.inj ho
    obtain ⟨hv0, hR0⟩ := (spe hA.2.1 hs3_0 (hp 0 (by kernel_rfl)))
    obtain ⟨hv2, hR2⟩ := (spe hA.2.2 hs3_2 (hp 2 (by kernel_rfl)))
    rw [hA.1, hs3_3]
    refine wn hon ?_
    have hF := fr_next (fr_next (rfl) ((hf 0 4 (by kernel_rfl) rfl).trans hv0)) ((hf 2 6 (by kernel_rfl) rfl).trans hv2)
    refine ls_fr hF ?_
    refine ls_call (fid := 39) (vals := #[.int .i64 a0.2.1, .int .i64 (1 : Int), .int .i64 (1152921504606846976 : Int)]) (X := Unit) (fun x => .bool t4) (fun x => stl []) 0 rfl rfl (by kernel_rfl) (fun w => by kernel_rfl) (fun w1 hs1 => pointer_Right_1.calls k a0.2.1 (1 : Int) (1152921504606846976 : Int) t4 (bw w1) (St.refl w1)  hc5) ?_
    intro x6
    exact ls_fin (stl []) (.bool t4) (congrArg (fun z => upd z 7 _) hF.symm) ⟨x6, rfl, rfl⟩ (sub_join _)
  obtain ⟨s3_4, hs3_4⟩ := exv (.bool t4)
  refine have_opa pointer_Right.tab1 1 4 (fun sp => sp 4 = s3_4 ∧ sp 3 = s3_3) (fun sp on hA hon => ?_) (fun ops3_4 => ?_)
  · refine ⟨fun o ho vs Rs f' S' w hp hf hx hS hR hs => ?_⟩
    obtain rfl := Option.some.inj ho
    obtain ⟨x6, hv3, hR3⟩ := (spe hA.2 hs3_3 (hp 3 (by kernel_rfl)))
    exact opv (.bool t4) hA.1 hs3_4 hon (fr_next (rfl) ((hf 3 7 (by kernel_rfl) rfl).trans hv3))
  by_cases q7 : t4 = true
  · replace H := ite_t q7 H
    obtain ⟨s3_5, hs3_5⟩ := exv (.agg ⟨([Value.int .i64 a0.1] ++ ([Value.int .i64 a0.2.1] ++ ([Value.int .i64 a0.2.2.1] ++ ([Value.int .u32 a0.2.2.2.1] ++ en (Value.int .u8) a0.2.2.2.2.1))))⟩)
    refine have_opa pointer_Right.tab1 1 5 (fun sp => sp 5 = s3_5 ∧ sp 4 = s3_4) (fun sp on hA hon => ?_) (fun ops3_5 => ?_)
    · refine ⟨fun o ho vs Rs f' S' w hp hf hx hS hR hs => ?_⟩
      obtain rfl := Option.some.inj ho
      obtain ⟨hv4, hR4⟩ := (spe hA.2 hs3_4 (hp 4 (by kernel_rfl)))
      rw [hA.1, hs3_5]
      refine And.intro (fun a ha => (want_is (j := 4) (t := 8) (r := true) rfl rfl (by kernel_rfl) (((hf 4 8 (by kernel_rfl) rfl).trans hv4).trans (congrArg Value.bool (show t4 = true from q7))) rfl a ha).trans hon.symm) (And.intro (fun _ => ?_) (fun h => by rw [hon] at h; cases h))
      have hF := fr_next (fr_next (rfl) ((hx 1 (by kernel_rfl)).trans (by kernel_rfl : (_ : Value) = .pointer (some ⟨g1, 0, none⟩)))) (((hf 4 8 (by kernel_rfl) rfl).trans hv4).trans (congrArg Value.bool (show t4 = true from q7)))
      refine ls_fr hF ?_
      refine ls_loadagg (a := ⟨g1, 0, none⟩) (sub := ([Value.int .i64 a0.1] ++ ([Value.int .i64 a0.2.1] ++ ([Value.int .i64 a0.2.2.1] ++ ([Value.int .u32 a0.2.2.2.1] ++ en (Value.int .u8) a0.2.2.2.2.1))))) rfl rfl (by kernel_rfl) rfl (by kernel_rfl) (by kernel_rfl) (by kernel_rfl) (len_app (len1 _) (len_app (len1 _) (len_app (len1 _) (len_app (len1 _) (len_en _ a0.2.2.2.2))))) (fun w1 hs1 => Rd.step (hs.vars (k := 0) ((hS 0 (by kernel_rfl)).trans (by exact rfl)) (Sub4.all _)) hs1.below.bw) ?_
      exact ls_fin s0 _ (congrArg (fun z => upd z 9 _) hF.symm) ⟨rfl, rfl⟩ (sub_nil _)
    obtain ⟨t8, hc9, H⟩ := bind_some H
    obtain ⟨s3_6, hs3_6⟩ : ∃ z : Value → Sto → Prop, z = (fun v R => ∃ x10 : Unit, v = .int .i64 t8 ∧ R = stl []) := ⟨_, rfl⟩
    refine have_opa pointer_Right.tab1 1 6 (fun sp => sp 6 = s3_6 ∧ sp 4 = s3_4 ∧ sp 5 = s3_5) (fun sp on hA hon => ?_) (fun ops3_6 => ?_)
    · refine ⟨fun o ho vs Rs f' S' w hp hf hx hS hR hs => ?_⟩
      obtain rfl := Option.some.inj ho
      obtain ⟨hv4, hR4⟩ := (spe hA.2.1 hs3_4 (hp 4 (by kernel_rfl)))
      obtain ⟨hv5, hR5⟩ := (spe hA.2.2 hs3_5 (hp 5 (by kernel_rfl)))
      rw [hA.1, hs3_6]
      refine And.intro (fun a ha => (want_is (j := 4) (t := 8) (r := true) rfl rfl (by kernel_rfl) (((hf 4 8 (by kernel_rfl) rfl).trans hv4).trans (congrArg Value.bool (show t4 = true from q7))) rfl a ha).trans hon.symm) (And.intro (fun _ => ?_) (fun h => by rw [hon] at h; cases h))
      have hF := fr_next (fr_next (rfl) (((hf 4 8 (by kernel_rfl) rfl).trans hv4).trans (congrArg Value.bool (show t4 = true from q7)))) ((hf 5 9 (by kernel_rfl) rfl).trans hv5)
      refine ls_fr hF ?_
      refine ls_call (fid := 18) (vals := #[.agg ⟨([Value.int .i64 a0.1] ++ ([Value.int .i64 a0.2.1] ++ ([Value.int .i64 a0.2.2.1] ++ ([Value.int .u32 a0.2.2.2.1] ++ en (Value.int .u8) a0.2.2.2.2.1))))⟩]) (X := Unit) (fun x => .int .i64 t8) (fun x => stl []) 0 rfl rfl (by kernel_rfl) (fun w => by kernel_rfl) (fun w1 hs1 => pointer_Sectors.calls k a0 t8 (bw w1) (St.refl w1)  hc9) ?_
      intro x10
      exact ls_fin (stl []) (.int .i64 t8) (congrArg (fun z => upd z 10 _) hF.symm) ⟨x10, rfl, rfl⟩ (sub_join _)
    obtain ⟨s3_7, hs3_7⟩ := exv (.bool (decide (t8 > (0 : Int))))
    refine have_opa pointer_Right.tab1 1 7 (fun sp => sp 7 = s3_7 ∧ sp 4 = s3_4 ∧ sp 6 = s3_6) (fun sp on hA hon => ?_) (fun ops3_7 => ?_)
    · refine ⟨fun o ho vs Rs f' S' w hp hf hx hS hR hs => ?_⟩
      obtain rfl := Option.some.inj ho
      obtain ⟨hv4, hR4⟩ := (spe hA.2.1 hs3_4 (hp 4 (by kernel_rfl)))
      obtain ⟨x10, hv6, hR6⟩ := (spe hA.2.2 hs3_6 (hp 6 (by kernel_rfl)))
      rw [hA.1, hs3_7]
      refine And.intro (fun a ha => (want_is (j := 4) (t := 8) (r := true) rfl rfl (by kernel_rfl) (((hf 4 8 (by kernel_rfl) rfl).trans hv4).trans (congrArg Value.bool (show t4 = true from q7))) rfl a ha).trans hon.symm) (And.intro (fun _ => ?_) (fun h => by rw [hon] at h; cases h))
      have hF := fr_next (fr_next (rfl) (((hf 4 8 (by kernel_rfl) rfl).trans hv4).trans (congrArg Value.bool (show t4 = true from q7)))) ((hf 6 10 (by kernel_rfl) rfl).trans hv6)
      refine ls_fr hF ?_
      refine lv (.bool (decide (t8 > (0 : Int)))) ?_
      exact ls_fin s0 _ (congrArg (fun z => upd z 11 _) hF.symm) ⟨rfl, rfl⟩ (sub_nil _)
    obtain ⟨s3_8, hs3_8⟩ := exv (.bool (decide (t8 > (0 : Int))))
    refine have_opa pointer_Right.tab1 1 8 (fun sp => sp 8 = s3_8 ∧ sp 4 = s3_4 ∧ sp 7 = s3_7) (fun sp on hA hon => ?_) (fun ops3_8 => ?_)
    · refine ⟨fun o ho vs Rs f' S' w hp hf hx hS hR hs => ?_⟩
      obtain rfl := Option.some.inj ho
      obtain ⟨hv4, hR4⟩ := (spe hA.2.1 hs3_4 (hp 4 (by kernel_rfl)))
      obtain ⟨hv7, hR7⟩ := (spe hA.2.2 hs3_7 (hp 7 (by kernel_rfl)))
      exact opv (.bool (decide (t8 > (0 : Int)))) hA.1 hs3_8 hon (fr_next (fr_next (rfl) (((hf 4 8 (by kernel_rfl) rfl).trans hv4).trans (congrArg Value.bool (show t4 = true from q7)))) ((hf 7 11 (by kernel_rfl) rfl).trans hv7))
    obtain ⟨s3_9, hs3_9⟩ := exv (.bool (decide (t8 > (0 : Int))))
    refine have_opa pointer_Right.tab1 1 9 (fun sp => sp 9 = s3_9 ∧ sp 8 = s3_8) (fun sp on hA hon => ?_) (fun ops3_9 => ?_)
    · refine ⟨fun o ho vs Rs f' S' w hp hf hx hS hR hs => ?_⟩
      obtain rfl := Option.some.inj ho
      obtain ⟨hv8, hR8⟩ := (spe hA.2 hs3_8 (hp 8 (by kernel_rfl)))
      exact opv (.bool (decide (t8 > (0 : Int)))) hA.1 hs3_9 hon (fr_next (rfl) ((hf 8 12 (by kernel_rfl) rfl).trans hv8))
    by_cases q11 : t8 > (0 : Int)
    · replace H := ite_t q11 H
      obtain ⟨s3_10, hs3_10⟩ := exv (.func (.func 39) #[] #[])
      refine have_opa pointer_Right.tab1 1 10 (fun sp => sp 10 = s3_10 ∧ sp 9 = s3_9) (fun sp on hA hon => ?_) (fun ops3_10 => ?_)
      · refine ⟨fun o ho vs Rs f' S' w hp hf hx hS hR hs => ?_⟩
        obtain rfl := Option.some.inj ho
        obtain ⟨hv9, hR9⟩ := (spe hA.2 hs3_9 (hp 9 (by kernel_rfl)))
        rw [hA.1, hs3_10]
        refine And.intro (fun a ha => (want_is (j := 9) (t := 13) (r := true) rfl rfl (by kernel_rfl) (((hf 9 13 (by kernel_rfl) rfl).trans hv9).trans (congrArg Value.bool (show (decide (t8 > (0 : Int))) = true from dec_t q11))) rfl a ha).trans hon.symm) (And.intro (fun _ => ?_) (fun h => by rw [hon] at h; cases h))
        have hF := fr_next (fr_next (rfl) ((hx 3 (by kernel_rfl)).trans (by kernel_rfl : (_ : Value) = .func (.func 39) #[] #[]))) (((hf 9 13 (by kernel_rfl) rfl).trans hv9).trans (congrArg Value.bool (show (decide (t8 > (0 : Int))) = true from dec_t q11)))
        refine ls_fr hF ?_
        refine lv (.func (.func 39) #[] #[]) ?_
        exact ls_fin s0 _ (congrArg (fun z => upd z 14 _) hF.symm) ⟨rfl, rfl⟩ (sub_nil _)
      obtain ⟨s3_11, hs3_11⟩ := exv (.pointer (some ⟨g1, (0 + 0), none⟩))
      refine have_opa pointer_Right.tab1 1 11 (fun sp => sp 11 = s3_11 ∧ sp 9 = s3_9) (fun sp on hA hon => ?_) (fun ops3_11 => ?_)
      · refine ⟨fun o ho vs Rs f' S' w hp hf hx hS hR hs => ?_⟩
        obtain rfl := Option.some.inj ho
        obtain ⟨hv9, hR9⟩ := (spe hA.2 hs3_9 (hp 9 (by kernel_rfl)))
        rw [hA.1, hs3_11]
        refine And.intro (fun a ha => (want_is (j := 9) (t := 13) (r := true) rfl rfl (by kernel_rfl) (((hf 9 13 (by kernel_rfl) rfl).trans hv9).trans (congrArg Value.bool (show (decide (t8 > (0 : Int))) = true from dec_t q11))) rfl a ha).trans hon.symm) (And.intro (fun _ => ?_) (fun h => by rw [hon] at h; cases h))
        have hF := fr_next (fr_next (rfl) ((hx 1 (by kernel_rfl)).trans (by kernel_rfl : (_ : Value) = .pointer (some ⟨g1, 0, none⟩)))) (((hf 9 13 (by kernel_rfl) rfl).trans hv9).trans (congrArg Value.bool (show (decide (t8 > (0 : Int))) = true from dec_t q11)))
        refine ls_fr hF ?_
        refine lv (.pointer (some ⟨g1, (0 + 0), none⟩)) ?_
        exact ls_fin s0 _ (congrArg (fun z => upd z 15 _) hF.symm) ⟨rfl, rfl⟩ (sub_nil _)
      obtain ⟨s3_12, hs3_12⟩ := exv (.int .i64 a0.1)
      refine have_opa pointer_Right.tab1 1 12 (fun sp => sp 12 = s3_12 ∧ sp 9 = s3_9 ∧ sp 11 = s3_11) (fun sp on hA hon => ?_) (fun ops3_12 => ?_)
      · refine ⟨fun o ho vs Rs f' S' w hp hf hx hS hR hs => ?_⟩
        obtain rfl := Option.some.inj ho
        obtain ⟨hv9, hR9⟩ := (spe hA.2.1 hs3_9 (hp 9 (by kernel_rfl)))
        obtain ⟨hv11, hR11⟩ := (spe hA.2.2 hs3_11 (hp 11 (by kernel_rfl)))
        rw [hA.1, hs3_12]
        refine And.intro (fun a ha => (want_is (j := 9) (t := 13) (r := true) rfl rfl (by kernel_rfl) (((hf 9 13 (by kernel_rfl) rfl).trans hv9).trans (congrArg Value.bool (show (decide (t8 > (0 : Int))) = true from dec_t q11))) rfl a ha).trans hon.symm) (And.intro (fun _ => ?_) (fun h => by rw [hon] at h; cases h))
        have hF := fr_next (fr_next (rfl) (((hf 9 13 (by kernel_rfl) rfl).trans hv9).trans (congrArg Value.bool (show (decide (t8 > (0 : Int))) = true from dec_t q11)))) ((hf 11 15 (by kernel_rfl) rfl).trans hv11)
        refine ls_fr hF ?_
        refine ls_load (a0 := ⟨g1, (0 + 0), none⟩) (v := .int .i64 a0.1) (de := (TypeDesc.int .i64)) rfl rfl (by kernel_rfl) rfl (by kernel_rfl) (by kernel_rfl) (by kernel_rfl) (fun w1 hs1 => cell_step hs1.below.bw (hs.var (k := 0) ((hS 0 (by kernel_rfl)).trans (by exact rfl)) (Sub4.trans (Sub4.all _) (Sub4.head _ _)))) ?_
        exact ls_fin s0 _ (congrArg (fun z => upd z 16 _) hF.symm) ⟨rfl, rfl⟩ (sub_nil _)
      obtain ⟨s3_13, hs3_13⟩ := exv (.agg ⟨([Value.int .i64 a0.1] ++ ([Value.int .i64 a0.2.1] ++ ([Value.int .i64 a0.2.2.1] ++ ([Value.int .u32 a0.2.2.2.1] ++ en (Value.int .u8) a0.2.2.2.2.1))))⟩)
      refine have_opa pointer_Right.tab1 1 13 (fun sp => sp 13 = s3_13 ∧ sp 9 = s3_9) (fun sp on hA hon => ?_) (fun ops3_13 => ?_)
      · refine ⟨fun o ho vs Rs f' S' w hp hf hx hS hR hs => ?_⟩
        obtain rfl := Option.some.inj ho
        obtain ⟨hv9, hR9⟩ := (spe hA.2 hs3_9 (hp 9 (by kernel_rfl)))
        rw [hA.1, hs3_13]
        refine And.intro (fun a ha => (want_is (j := 9) (t := 13) (r := true) rfl rfl (by kernel_rfl) (((hf 9 13 (by kernel_rfl) rfl).trans hv9).trans (congrArg Value.bool (show (decide (t8 > (0 : Int))) = true from dec_t q11))) rfl a ha).trans hon.symm) (And.intro (fun _ => ?_) (fun h => by rw [hon] at h; cases h))
        have hF := fr_next (fr_next (rfl) ((hx 1 (by kernel_rfl)).trans (by kernel_rfl : (_ : Value) = .pointer (some ⟨g1, 0, none⟩)))) (((hf 9 13 (by kernel_rfl) rfl).trans hv9).trans (congrArg Value.bool (show (decide (t8 > (0 : Int))) = true from dec_t q11)))
        refine ls_fr hF ?_
        refine ls_loadagg (a := ⟨g1, 0, none⟩) (sub := ([Value.int .i64 a0.1] ++ ([Value.int .i64 a0.2.1] ++ ([Value.int .i64 a0.2.2.1] ++ ([Value.int .u32 a0.2.2.2.1] ++ en (Value.int .u8) a0.2.2.2.2.1))))) rfl rfl (by kernel_rfl) rfl (by kernel_rfl) (by kernel_rfl) (by kernel_rfl) (len_app (len1 _) (len_app (len1 _) (len_app (len1 _) (len_app (len1 _) (len_en _ a0.2.2.2.2))))) (fun w1 hs1 => Rd.step (hs.vars (k := 0) ((hS 0 (by kernel_rfl)).trans (by exact rfl)) (Sub4.all _)) hs1.below.bw) ?_
        exact ls_fin s0 _ (congrArg (fun z => upd z 17 _) hF.symm) ⟨rfl, rfl⟩ (sub_nil _)
      obtain ⟨t12, hc13, H⟩ := bind_some H
      obtain ⟨s3_14, hs3_14⟩ : ∃ z : Value → Sto → Prop, z = (fun v R => ∃ x14 : Unit, v = .int .i64 t12 ∧ R = stl []) := ⟨_, rfl⟩
      refine have_opa pointer_Right.tab1 1 14 (fun sp => sp 14 = s3_14 ∧ sp 9 = s3_9 ∧ sp 13 = s3_13) (fun sp on hA hon => ?_) (fun ops3_14 => ?_)
      · refine ⟨fun o ho vs Rs f' S' w hp hf hx hS hR hs => ?_⟩
        obtain rfl := Option.some.inj ho
        obtain ⟨hv9, hR9⟩ := (spe hA.2.1 hs3_9 (hp 9 (by kernel_rfl)))
        obtain ⟨hv13, hR13⟩ := (spe hA.2.2 hs3_13 (hp 13 (by kernel_rfl)))
        rw [hA.1, hs3_14]
        refine And.intro (fun a ha => (want_is (j := 9) (t := 13) (r := true) rfl rfl (by kernel_rfl) (((hf 9 13 (by kernel_rfl) rfl).trans hv9).trans (congrArg Value.bool (show (decide (t8 > (0 : Int))) = true from dec_t q11))) rfl a ha).trans hon.symm) (And.intro (fun _ => ?_) (fun h => by rw [hon] at h; cases h))
        have hF := fr_next (fr_next (rfl) (((hf 9 13 (by kernel_rfl) rfl).trans hv9).trans (congrArg Value.bool (show (decide (t8 > (0 : Int))) = true from dec_t q11)))) ((hf 13 17 (by kernel_rfl) rfl).trans hv13)
        refine ls_fr hF ?_
        refine ls_call (fid := 18) (vals := #[.agg ⟨([Value.int .i64 a0.1] ++ ([Value.int .i64 a0.2.1] ++ ([Value.int .i64 a0.2.2.1] ++ ([Value.int .u32 a0.2.2.2.1] ++ en (Value.int .u8) a0.2.2.2.2.1))))⟩]) (X := Unit) (fun x => .int .i64 t12) (fun x => stl []) 0 rfl rfl (by kernel_rfl) (fun w => by kernel_rfl) (fun w1 hs1 => pointer_Sectors.calls k a0 t12 (bw w1) (St.refl w1)  hc13) ?_
        intro x14
        exact ls_fin (stl []) (.int .i64 t12) (congrArg (fun z => upd z 18 _) hF.symm) ⟨x14, rfl, rfl⟩ (sub_join _)
      obtain ⟨s3_15, hs3_15⟩ := exv (.int .i64 (IntKind.wrap .i64 ((8192 : Int) - t12)))
      refine have_opa pointer_Right.tab1 1 15 (fun sp => sp 15 = s3_15 ∧ sp 9 = s3_9 ∧ sp 14 = s3_14) (fun sp on hA hon => ?_) (fun ops3_15 => ?_)
      · refine ⟨fun o ho vs Rs f' S' w hp hf hx hS hR hs => ?_⟩
        obtain rfl := Option.some.inj ho
        obtain ⟨hv9, hR9⟩ := (spe hA.2.1 hs3_9 (hp 9 (by kernel_rfl)))
        obtain ⟨x14, hv14, hR14⟩ := (spe hA.2.2 hs3_14 (hp 14 (by kernel_rfl)))
        rw [hA.1, hs3_15]
        refine And.intro (fun a ha => (want_is (j := 9) (t := 13) (r := true) rfl rfl (by kernel_rfl) (((hf 9 13 (by kernel_rfl) rfl).trans hv9).trans (congrArg Value.bool (show (decide (t8 > (0 : Int))) = true from dec_t q11))) rfl a ha).trans hon.symm) (And.intro (fun _ => ?_) (fun h => by rw [hon] at h; cases h))
        have hF := fr_next (fr_next (rfl) (((hf 9 13 (by kernel_rfl) rfl).trans hv9).trans (congrArg Value.bool (show (decide (t8 > (0 : Int))) = true from dec_t q11)))) ((hf 14 18 (by kernel_rfl) rfl).trans hv14)
        refine ls_fr hF ?_
        refine lv (.int .i64 (IntKind.wrap .i64 ((8192 : Int) - t12))) ?_
        exact ls_fin s0 _ (congrArg (fun z => upd z 19 _) hF.symm) ⟨rfl, rfl⟩ (sub_nil _)
      refine cs_draw pointer_Right.tab1 16 1 (spl [s3_0, s3_1, s3_2, s3_3, s3_4, s3_5, s3_6, s3_7, s3_8, s3_9, s3_10, s3_11, s3_12, s3_13, s3_14, s3_15]) (onl [true, true, true, true, true, true, true, true, true, true, true, true, true, true, true, true]) (by kernel_rfl) (by kernel_rfl) (by kernel_rfl) (by kernel_rfl) (rs := [_, _, _]) rfl (by kernel_rfl) (by kernel_rfl) (all_snoc (all_snoc (all_snoc (all_snoc (all_snoc (all_snoc (all_snoc (all_snoc (all_snoc (all_snoc (all_snoc (all_snoc (all_snoc (all_snoc (all_snoc (all_snoc (all_nil) (ops3_0 _ _ rfl rfl)) (ops3_1 _ _ rfl rfl)) (ops3_2 _ _ ⟨rfl, rfl⟩ rfl)) (ops3_3 _ _ ⟨rfl, rfl, rfl⟩ rfl)) (ops3_4 _ _ ⟨rfl, rfl⟩ rfl)) (ops3_5 _ _ ⟨rfl, rfl⟩ rfl)) (ops3_6 _ _ ⟨rfl, rfl, rfl⟩ rfl)) (ops3_7 _ _ ⟨rfl, rfl, rfl⟩ rfl)) (ops3_8 _ _ ⟨rfl, rfl, rfl⟩ rfl)) (ops3_9 _ _ ⟨rfl, rfl⟩ rfl)) (ops3_10 _ _ ⟨rfl, rfl⟩ rfl)) (ops3_11 _ _ ⟨rfl, rfl⟩ rfl)) (ops3_12 _ _ ⟨rfl, rfl, rfl⟩ rfl)) (ops3_13 _ _ ⟨rfl, rfl⟩ rfl)) (ops3_14 _ _ ⟨rfl, rfl, rfl⟩ rfl)) (ops3_15 _ _ ⟨rfl, rfl, rfl⟩ rfl)) ?_
      intro vs Rs f' S' hp hf hx hS hR
      obtain ⟨x6, hv3, hR3⟩ := (spe rfl hs3_3 (hp 3 (by kernel_rfl)))
      obtain ⟨x10, hv6, hR6⟩ := (spe rfl hs3_6 (hp 6 (by kernel_rfl)))
      obtain ⟨hv9, hR9⟩ := (spe rfl hs3_9 (hp 9 (by kernel_rfl)))
      obtain ⟨hv10, hR10⟩ := (spe rfl hs3_10 (hp 10 (by kernel_rfl)))
      obtain ⟨hv12, hR12⟩ := (spe rfl hs3_12 (hp 12 (by kernel_rfl)))
      obtain ⟨x14, hv14, hR14⟩ := (spe rfl hs3_14 (hp 14 (by kernel_rfl)))
      obtain ⟨hv15, hR15⟩ := (spe rfl hs3_15 (hp 15 (by kernel_rfl)))
      refine ls_fr (F := upd (upd (upd (upd f' 13 (.bool (decide (t8 > (0 : Int))))) 14 (.func (.func 39) #[] #[])) 16 (.int .i64 a0.1)) 19 (.int .i64 (IntKind.wrap .i64 ((8192 : Int) - t12)))) (fr_next (fr_next (fr_next (fr_next (rfl) ((hf 9 13 (by kernel_rfl) rfl).trans hv9)) ((hf 10 14 (by kernel_rfl) rfl).trans hv10)) ((hf 12 16 (by kernel_rfl) rfl).trans hv12)) ((hf 15 19 (by kernel_rfl) rfl).trans hv15)) ?_
      refine ls_sub (s0) (sub_nil _) ?_
      refine ls_know (c := true) (dec_t q11) 13 (by kernel_rfl) ?_
      refine ls_on (j := 9) (t := 13) (b := true) rfl rfl (by kernel_rfl) (by kernel_rfl) ?_
      obtain ⟨t15, hc16, H⟩ := bind_some H
      refine ls_callb (fid := 39) (vals := #[.int .i64 a0.1, .int .i64 (2 : Int), .int .i64 (IntKind.wrap .i64 ((8192 : Int) - t12))]) (X := Unit) (fun x => .bool t15) (fun x => stl []) [] [] [] [] 129 rfl rfl (by kernel_rfl) (fun w => by kernel_rfl) trivial trivial (by decide) (fun w hs hb => pointer_Right_1.calls k a0.1 (2 : Int) (IntKind.wrap .i64 ((8192 : Int) - t12)) t15 (lent b w [] []) hb  hc16) ?_
      intro x17
      refine lv (.bool t15) ?_
      refine lv (.bool t15) ?_
      refine ls_end ?_
      refine qn_then ?_
      refine cs_ret' ?_
      obtain rfl := Option.some.inj H
      refine qr_res (rs := [_]) rfl (fun w' hs => ⟨[.bool t15], (res_tmp (by kernel_rfl) (.nil)), (), rfl, hs.pick (ts := []) (cs := []) trivial (by decide)⟩)
    replace H := ite_f q11 H
    refine cs_draw pointer_Right.tab1 16 1 (spl [s3_0, s3_1, s3_2, s3_3, s3_4, s3_5, s3_6, s3_7, s3_8, s3_9, spu, spu, spu, spu, spu, spu]) (onl [true, true, true, true, true, true, true, true, true, true, false, false, false, false, false, false]) (by kernel_rfl) (by kernel_rfl) (by kernel_rfl) (by kernel_rfl) (rs := [_, _, _]) rfl (by kernel_rfl) (by kernel_rfl) (all_snoc (all_snoc (all_snoc (all_snoc (all_snoc (all_snoc (all_snoc (all_snoc (all_snoc (all_snoc (all_snoc (all_snoc (all_snoc (all_snoc (all_snoc (all_snoc (all_nil) (ops3_0 _ _ rfl rfl)) (ops3_1 _ _ rfl rfl)) (ops3_2 _ _ ⟨rfl, rfl⟩ rfl)) (ops3_3 _ _ ⟨rfl, rfl, rfl⟩ rfl)) (ops3_4 _ _ ⟨rfl, rfl⟩ rfl)) (ops3_5 _ _ ⟨rfl, rfl⟩ rfl)) (ops3_6 _ _ ⟨rfl, rfl, rfl⟩ rfl)) (ops3_7 _ _ ⟨rfl, rfl, rfl⟩ rfl)) (ops3_8 _ _ ⟨rfl, rfl, rfl⟩ rfl)) (ops3_9 _ _ ⟨rfl, rfl⟩ rfl)) (op_offi 10 9 13 true rfl rfl (by kernel_rfl) (by kernel_rfl) rfl (fun v R h => by rw [hs3_9] at h; obtain ⟨h, _⟩ := h; exact h.trans (congrArg Value.bool (show (decide (t8 > (0 : Int))) = false from dec_f q11))) rfl rfl)) (op_offi 11 9 13 true rfl rfl (by kernel_rfl) (by kernel_rfl) rfl (fun v R h => by rw [hs3_9] at h; obtain ⟨h, _⟩ := h; exact h.trans (congrArg Value.bool (show (decide (t8 > (0 : Int))) = false from dec_f q11))) rfl rfl)) (op_offi 12 9 13 true rfl rfl (by kernel_rfl) (by kernel_rfl) rfl (fun v R h => by rw [hs3_9] at h; obtain ⟨h, _⟩ := h; exact h.trans (congrArg Value.bool (show (decide (t8 > (0 : Int))) = false from dec_f q11))) rfl rfl)) (op_offi 13 9 13 true rfl rfl (by kernel_rfl) (by kernel_rfl) rfl (fun v R h => by rw [hs3_9] at h; obtain ⟨h, _⟩ := h; exact h.trans (congrArg Value.bool (show (decide (t8 > (0 : Int))) = false from dec_f q11))) rfl rfl)) (op_offi 14 9 13 true rfl rfl (by kernel_rfl) (by kernel_rfl) rfl (fun v R h => by rw [hs3_9] at h; obtain ⟨h, _⟩ := h; exact h.trans (congrArg Value.bool (show (decide (t8 > (0 : Int))) = false from dec_f q11))) rfl rfl)) (op_offi 15 9 13 true rfl rfl (by kernel_rfl) (by kernel_rfl) rfl (fun v R h => by rw [hs3_9] at h; obtain ⟨h, _⟩ := h; exact h.trans (congrArg Value.bool (show (decide (t8 > (0 : Int))) = false from dec_f q11))) rfl rfl)) ?_
    intro vs Rs f' S' hp hf hx hS hR
    obtain ⟨x6, hv3, hR3⟩ := (spe rfl hs3_3 (hp 3 (by kernel_rfl)))
    obtain ⟨x10, hv6, hR6⟩ := (spe rfl hs3_6 (hp 6 (by kernel_rfl)))
    obtain ⟨hv9, hR9⟩ := (spe rfl hs3_9 (hp 9 (by kernel_rfl)))
    obtain ⟨hv10, hR10⟩ := (spe rfl rfl (hp 10 (by kernel_rfl)) : spu _ _)
    obtain ⟨hv12, hR12⟩ := (spe rfl rfl (hp 12 (by kernel_rfl)) : spu _ _)
    obtain ⟨hv15, hR15⟩ := (spe rfl rfl (hp 15 (by kernel_rfl)) : spu _ _)
    refine ls_fr (F := upd f' 13 (.bool (decide (t8 > (0 : Int))))) (fr_next (rfl) ((hf 9 13 (by kernel_rfl) rfl).trans hv9)) ?_
    refine ls_sub (s0) (sub_nil _) ?_
    refine ls_know (c := false) (dec_f q11) 13 (by kernel_rfl) ?_
    refine lofx 9 13 true false ?_
    refine lv (.bool false) ?_
    refine lv (.bool false) ?_
    refine ls_end ?_
    refine qn_then ?_
    refine cs_ret' ?_
    obtain rfl := Option.some.inj H
    refine qr_res (rs := [_]) rfl (fun w' hs => ⟨[.bool false], (res_tmp (by kernel_rfl) (.nil)), (), rfl, hs.pick (ts := []) (cs := []) trivial (by decide)⟩)
  replace H := ite_f q7 H
  obtain ⟨s3_8, hs3_8⟩ := exv (.bool false)
  refine have_opa pointer_Right.tab1 1 8 (fun sp => sp 8 = s3_8 ∧ sp 4 = s3_4 ∧ sp 7 = spu) (fun sp on hA hon => ?_) (fun ops3_8 => ?_)
  · refine ⟨fun o ho vs Rs f' S' w hp hf hx hS hR hs => ?_⟩
    obtain rfl := Option.some.inj ho
    obtain ⟨hv4, hR4⟩ := (spe hA.2.1 hs3_4 (hp 4 (by kernel_rfl)))
    obtain ⟨hv7, hR7⟩ := (spe hA.2.2 rfl (hp 7 (by kernel_rfl)) : spu _ _)
    exact opv (.bool false) hA.1 hs3_8 hon (fr_next (fr_next (rfl) (((hf 4 8 (by kernel_rfl) rfl).trans hv4).trans (congrArg Value.bool (show t4 = false from Bool.eq_false_iff.mpr q7)))) ((hf 7 11 (by kernel_rfl) rfl).trans hv7))
  obtain ⟨s3_9, hs3_9⟩ := exv (.bool false)
  refine have_opa pointer_Right.tab1 1 9 (fun sp => sp 9 = s3_9 ∧ sp 8 = s3_8) (fun sp on hA hon => ?_) (fun ops3_9 => ?_)
  · refine ⟨fun o ho vs Rs f' S' w hp hf hx hS hR hs => ?_⟩
    obtain rfl := Option.some.inj ho
    obtain ⟨hv8, hR8⟩ := (spe hA.2 hs3_8 (hp 8 (by kernel_rfl)))
    exact opv (.bool false) hA.1 hs3_9 hon (fr_next (rfl) ((hf 8 12 (by kernel_rfl) rfl).trans hv8))
  refine cs_draw pointer_Right.tab1 16 1 (spl [s3_0, s3_1, s3_2, s3_3, s3_4, spu, spu, spu, s3_8, s3_9, spu, spu, spu, spu, spu, spu]) (onl [true, true, true, true, true, false, false, false, true, true, false, false, false, false, false, false]) (by kernel_rfl) (by kernel_rfl) (by kernel_rfl) (by kernel_rfl) (rs := [_, _, _]) rfl (by kernel_rfl) (by kernel_rfl) (all_snoc (all_snoc (all_snoc (all_snoc (all_snoc (all_snoc (all_snoc (all_snoc (all_snoc (all_snoc (all_snoc (all_snoc (all_snoc (all_snoc (all_snoc (all_snoc (all_nil) (ops3_0 _ _ rfl rfl)) (ops3_1 _ _ rfl rfl)) (ops3_2 _ _ ⟨rfl, rfl⟩ rfl)) (ops3_3 _ _ ⟨rfl, rfl, rfl⟩ rfl)) (ops3_4 _ _ ⟨rfl, rfl⟩ rfl)) (op_offi 5 4 8 true rfl rfl (by kernel_rfl) (by kernel_rfl) rfl (fun v R h => by rw [hs3_4] at h; obtain ⟨h, _⟩ := h; exact h.trans (congrArg Value.bool (show t4 = false from Bool.eq_false_iff.mpr q7))) rfl rfl)) (op_offi 6 4 8 true rfl rfl (by kernel_rfl) (by kernel_rfl) rfl (fun v R h => by rw [hs3_4] at h; obtain ⟨h, _⟩ := h; exact h.trans (congrArg Value.bool (show t4 = false from Bool.eq_false_iff.mpr q7))) rfl rfl)) (op_offi 7 4 8 true rfl rfl (by kernel_rfl) (by kernel_rfl) rfl (fun v R h => by rw [hs3_4] at h; obtain ⟨h, _⟩ := h; exact h.trans (congrArg Value.bool (show t4 = false from Bool.eq_false_iff.mpr q7))) rfl rfl)) (ops3_8 _ _ ⟨rfl, rfl, rfl⟩ rfl)) (ops3_9 _ _ ⟨rfl, rfl⟩ rfl)) (op_offi 10 9 13 true rfl rfl (by kernel_rfl) (by kernel_rfl) rfl (fun v R h => by rw [hs3_9] at h; obtain ⟨h, _⟩ := h; exact h) rfl rfl)) (op_offi 11 9 13 true rfl rfl (by kernel_rfl) (by kernel_rfl) rfl (fun v R h => by rw [hs3_9] at h; obtain ⟨h, _⟩ := h; exact h) rfl rfl)) (op_offi 12 9 13 true rfl rfl (by kernel_rfl) (by kernel_rfl) rfl (fun v R h => by rw [hs3_9] at h; obtain ⟨h, _⟩ := h; exact h) rfl rfl)) (op_offi 13 9 13 true rfl rfl (by kernel_rfl) (by kernel_rfl) rfl (fun v R h => by rw [hs3_9] at h; obtain ⟨h, _⟩ := h; exact h) rfl rfl)) (op_offi 14 9 13 true rfl rfl (by kernel_rfl) (by kernel_rfl) rfl (fun v R h => by rw [hs3_9] at h; obtain ⟨h, _⟩ := h; exact h) rfl rfl)) (op_offi 15 9 13 true rfl rfl (by kernel_rfl) (by kernel_rfl) rfl (fun v R h => by rw [hs3_9] at h; obtain ⟨h, _⟩ := h; exact h) rfl rfl)) ?_
  intro vs Rs f' S' hp hf hx hS hR
  obtain ⟨x6, hv3, hR3⟩ := (spe rfl hs3_3 (hp 3 (by kernel_rfl)))
  obtain ⟨hv9, hR9⟩ := (spe rfl hs3_9 (hp 9 (by kernel_rfl)))
  obtain ⟨hv10, hR10⟩ := (spe rfl rfl (hp 10 (by kernel_rfl)) : spu _ _)
  obtain ⟨hv12, hR12⟩ := (spe rfl rfl (hp 12 (by kernel_rfl)) : spu _ _)
  obtain ⟨hv15, hR15⟩ := (spe rfl rfl (hp 15 (by kernel_rfl)) : spu _ _)
  refine ls_fr (F := upd f' 13 (.bool false)) (fr_next (rfl) ((hf 9 13 (by kernel_rfl) rfl).trans hv9)) ?_
  refine ls_sub (s0) (sub_nil _) ?_
  refine lofx 9 13 true false ?_
  refine lv (.bool false) ?_
  refine lv (.bool false) ?_
  refine ls_end ?_
  refine qn_then ?_
  refine cs_ret' ?_
  obtain rfl := Option.some.inj H
  refine qr_res (rs := [_]) rfl (fun w' hs => ⟨[.bool false], (res_tmp (by kernel_rfl) (.nil)), (), rfl, hs.pick (ts := []) (cs := []) trivial (by decide)⟩)

/-! ### shadowbox/block.check: function 17 -/
def block_check.f (k : Nat) (v0 : (Unit × Unit × Bool × Int × Bool)) (w0_1 : (List (Int × (Vc Int 512)) × List (Vc Int 512))) (a1 : (Int × Int × Int × Int × (Vc Int 32))) : Option (Int) :=
  (disk_Disk_Len.f k ((), (), v0.2.2.1, v0.2.2.2.1, v0.2.2.2.2) w0_1).bind fun t2 => (if t2 = (0 : Int) then some (1 : Int) else (pointer_Right.f k a1).bind fun t6 => (if t6 = true then (pointer_Sectors.f k a1).bind fun t10 => (disk_Disk_Len.f k ((), (), v0.2.2.1, v0.2.2.2.1, v0.2.2.2.2) w0_1).bind fun t13 => (if (IntKind.wrap .i64 (a1.1 + t10)) > t13 then some (2 : Int) else some (0 : Int)) else some (2 : Int)))
set_option maxRecDepth 100000 in
set_option maxHeartbeats 4000000 in
theorem block_check.calls (k : Nat) (pg0 : Nat) (gl0_0 : Nat) (n0_0 : Nat) (c0_0 : Nat) (r0_1 : Nat) (v0 : (Unit × Unit × Bool × Int × Bool)) (w0_1 : (List (Int × (Vc Int 512)) × List (Vc Int 512))) (a1 : (Int × Int × Int × Int × (Vc Int 32))) (r : Int) (b : Bs) (hs0 : St b (stl [Ck.var 42 pg0 (([Value.slice (some ⟨gl0_0, 0, none⟩) n0_0 c0_0] ++ ([Value.map (some r0_1)] ++ ([Value.bool v0.2.2.1] ++ ([Value.int .i64 v0.2.2.2.1] ++ [Value.bool v0.2.2.2.2]))))), Ck.mr T56 r0_1 gl0_0 c0_0 n0_0 w0_1]) b.w) (H : block_check.f k v0 w0_1 a1 = some r) :
    Calls Try.prog 17 #[.pointer (some ⟨pg0, 0, none⟩), .agg ⟨([Value.int .i64 a1.1] ++ ([Value.int .i64 a1.2.1] ++ ([Value.int .i64 a1.2.2.1] ++ ([Value.int .u32 a1.2.2.2.1] ++ en (Value.int .u8) a1.2.2.2.2.1))))⟩] b.w fun e w' => ∃ x : Unit, e = .returned (.int .i64 r) ∧ St b (stl [Ck.var 42 pg0 (([Value.slice (some ⟨gl0_0, 0, none⟩) n0_0 c0_0] ++ ([Value.map (some r0_1)] ++ ([Value.bool v0.2.2.1] ++ ([Value.int .i64 v0.2.2.2.1] ++ [Value.bool v0.2.2.2.2]))))), Ck.mr T56 r0_1 gl0_0 c0_0 n0_0 w0_1]) w' := by
  unfold block_check.f at H
  refine enterb (n := 23) Try.func17 rfl (by kernel_rfl) (by kernel_rfl) hs0 ?_
  refine cs_sub (sput (sput s0 0 (some (Ck.var 42 pg0 (([Value.slice (some ⟨gl0_0, 0, none⟩) n0_0 c0_0] ++ ([Value.map (some r0_1)] ++ ([Value.bool v0.2.2.1] ++ ([Value.int .i64 v0.2.2.2.1] ++ [Value.bool v0.2.2.2.2])))))))) 1 (some (Ck.mr T56 r0_1 gl0_0 c0_0 n0_0 w0_1))) (sub_put (by exact rfl) (sub_put (by exact rfl) (sub_nil _))) ?_
  refine cs_seq ?_
  refine cs_region (l := [_, _]) ?_
  refine ls_new rfl rfl (by kernel_rfl) 2 (fun g => .pointer (some ⟨g, 0, none⟩)) (.cells ⟨([Value.int .i64 a1.1] ++ ([Value.int .i64 a1.2.1] ++ ([Value.int .i64 a1.2.2.1] ++ ([Value.int .u32 a1.2.2.2.1] ++ en (Value.int .u8) a1.2.2.2.2.1))))⟩ 30) (fun w => by kernel_rfl) ?_
  intro g1
  refine lv (.int .i64 (0 : Int)) ?_
  refine ls_end ?_
  refine qn_then ?_
  refine cs_seq ?_
  refine cs_block ?_
  refine cs_seq ?_
  refine cs_region (l := [_, _, _, _]) ?_
  refine lv (.pointer (some ⟨pg0, 0, none⟩)) ?_
  obtain ⟨t2, hc3, H⟩ := bind_some H
  refine ls_callb (fid := 16) (vals := #[.pointer (some ⟨pg0, 0, none⟩)]) (X := Unit) (fun x => .int .i64 t2) (fun x => stl [Ck.var 42 pg0 (([Value.slice (some ⟨gl0_0, 0, none⟩) n0_0 c0_0] ++ ([Value.map (some r0_1)] ++ ([Value.bool v0.2.2.1] ++ ([Value.int .i64 v0.2.2.2.1] ++ [Value.bool v0.2.2.2.2]))))), Ck.mr T56 r0_1 gl0_0 c0_0 n0_0 w0_1]) [0, 1] [] [Ck.var 42 pg0 (([Value.slice (some ⟨gl0_0, 0, none⟩) n0_0 c0_0] ++ ([Value.map (some r0_1)] ++ ([Value.bool v0.2.2.1] ++ ([Value.int .i64 v0.2.2.2.1] ++ [Value.bool v0.2.2.2.2]))))), Ck.mr T56 r0_1 gl0_0 c0_0 n0_0 w0_1] [] 3 rfl rfl (by kernel_rfl) (fun w => by kernel_rfl) ⟨by exact rfl, by exact rfl, trivial⟩ trivial (by decide) (fun w hs hb => disk_Disk_Len.calls k pg0 gl0_0 n0_0 c0_0 r0_1 ((), (), v0.2.2.1, v0.2.2.2.1, v0.2.2.2.2) w0_1 t2 (lent b w [Ck.var 42 pg0 (([Value.slice (some ⟨gl0_0, 0, none⟩) n0_0 c0_0] ++ ([Value.map (some r0_1)] ++ ([Value.bool v0.2.2.1] ++ ([Value.int .i64 v0.2.2.2.1] ++ [Value.bool v0.2.2.2.2]))))), Ck.mr T56 r0_1 gl0_0 c0_0 n0_0 w0_1] []) hb  hc3) ?_
  intro x4
  refine lv (.bool (decide (t2 = (0 : Int)))) ?_
  refine lv (.bool (decide (t2 = (0 : Int)))) ?_
  refine ls_end ?_
  refine qn_then ?_
  by_cases q5 : t2 = (0 : Int)
  · replace H := ite_t q5 H
    refine cs_know (c := true) (dec_t q5) 5 (by kernel_rfl) ?_
    refine cs_true (by kernel_rfl) ?_
    refine cs_seq ?_
    refine cs_region (l := [_]) ?_
    refine lv (.int .i64 (1 : Int)) ?_
    refine ls_end ?_
    refine qn_then ?_
    refine cs_ret' ?_
    refine qr_block ?_
    refine qr_then ?_
    obtain rfl := Option.some.inj H
    refine qr_res (rs := [_]) rfl (fun w' hs => ⟨[.int .i64 (1 : Int)], (res_tmp (by kernel_rfl) (.nil)), (), rfl, hs.pick (ts := [0, 1]) (cs := [Ck.var 42 pg0 (([Value.slice (some ⟨gl0_0, 0, none⟩) n0_0 c0_0] ++ ([Value.map (some r0_1)] ++ ([Value.bool v0.2.2.1] ++ ([Value.int .i64 v0.2.2.2.1] ++ [Value.bool v0.2.2.2.2]))))), Ck.mr T56 r0_1 gl0_0 c0_0 n0_0 w0_1]) ⟨by exact rfl, by exact rfl, trivial⟩ (by decide)⟩)
  replace H := ite_f q5 H
  refine cs_know (c := false) (dec_f q5) 5 (by kernel_rfl) ?_
  refine cs_false (by kernel_rfl) ?_
  refine cs_seq ?_
  obtain ⟨t6, hc7, H⟩ := bind_some H
  by_cases q9 : t6 = true
  · replace H := ite_t q9 H
    obtain ⟨t10, hc11, H⟩ := bind_some H
    obtain ⟨t13, hc14, H⟩ := bind_some H
    refine cs_sub (sput (sput (sput s0 0 (some (Ck.var 42 pg0 (([Value.slice (some ⟨gl0_0, 0, none⟩) n0_0 c0_0] ++ ([Value.map (some r0_1)] ++ ([Value.bool v0.2.2.1] ++ ([Value.int .i64 v0.2.2.2.1] ++ [Value.bool v0.2.2.2.2])))))))) 1 (some (Ck.mr T56 r0_1 gl0_0 c0_0 n0_0 w0_1))) 2 (some (Ck.var 30 g1 (([Value.int .i64 a1.1] ++ ([Value.int .i64 a1.2.1] ++ ([Value.int .i64 a1.2.2.1] ++ ([Value.int .u32 a1.2.2.2.1] ++ en (Value.int .u8) a1.2.2.2.2.1)))))))) (sub_put (by exact rfl) (sub_put (by exact rfl) (sub_put (by exact rfl) (sub_nil _)))) ?_
    refine cs_chain (l := [_, _, _, _, _, _, _, _, _, _, _, _, _, _]) [[], [0], [0, 1], [0, 1, 2], [0, 1, 2, 3], [0, 1, 2, 3, 4], [0, 1, 2, 3], [0, 1, 2, 3, 6], [0, 1, 2, 3, 4, 5, 6, 7], [0, 1, 2, 3], [0, 1, 2, 3, 6, 7, 9], [0, 1, 2, 3, 4, 5, 6, 7, 8, 9, 10], [0, 1, 2, 3, 4, 5, 6, 7, 8, 9, 10, 11], [0, 1, 2, 3, 4, 5, 6, 7, 8, 9, 10, 11, 12]] 11 (fun u => [0, 1, 2].contains u) (efl [false, true, false, false, false, false, false, true, false, false, true]) (pvl [.val (.agg ⟨([Value.int .i64 a1.1] ++ ([Value.int .i64 a1.2.1] ++ ([Value.int .i64 a1.2.2.1] ++ ([Value.int .u32 a1.2.2.2.1] ++ en (Value.int .u8) a1.2.2.2.2.1))))⟩), .val (.bool true), .val (.bool false), .val (.bool false), .val (.pointer (some ⟨g1, (0 + 0), none⟩)), .val (.int .i64 a1.1), .val (.agg ⟨([Value.int .i64 a1.1] ++ ([Value.int .i64 a1.2.1] ++ ([Value.int .i64 a1.2.2.1] ++ ([Value.int .u32 a1.2.2.2.1] ++ en (Value.int .u8) a1.2.2.2.2.1))))⟩), .val (.int .i64 t10), .val (.int .i64 (IntKind.wrap .i64 (a1.1 + t10))), .val (.pointer (some ⟨pg0, 0, none⟩)), .val (.int .i64 t13)]) (Esl [fun (es : Nat → Value) (S' : Sto) => S' = sput (sput (sput s0 0 (some (Ck.var 42 pg0 (([Value.slice (some ⟨gl0_0, 0, none⟩) n0_0 c0_0] ++ ([Value.map (some r0_1)] ++ ([Value.bool v0.2.2.1] ++ ([Value.int .i64 v0.2.2.2.1] ++ [Value.bool v0.2.2.2.2])))))))) 1 (some (Ck.mr T56 r0_1 gl0_0 c0_0 n0_0 w0_1))) 2 (some (Ck.var 30 g1 (([Value.int .i64 a1.1] ++ ([Value.int .i64 a1.2.1] ++ ([Value.int .i64 a1.2.2.1] ++ ([Value.int .u32 a1.2.2.2.1] ++ en (Value.int .u8) a1.2.2.2.2.1))))))), fun (es : Nat → Value) (S' : Sto) => ∃ (x8 : Unit), es 1 = .bool true ∧ S' = sput (sput (sput s0 0 (some (Ck.var 42 pg0 (([Value.slice (some ⟨gl0_0, 0, none⟩) n0_0 c0_0] ++ ([Value.map (some r0_1)] ++ ([Value.bool v0.2.2.1] ++ ([Value.int .i64 v0.2.2.2.1] ++ [Value.bool v0.2.2.2.2])))))))) 1 (some (Ck.mr T56 r0_1 gl0_0 c0_0 n0_0 w0_1))) 2 (some (Ck.var 30 g1 (([Value.int .i64 a1.1] ++ ([Value.int .i64 a1.2.1] ++ ([Value.int .i64 a1.2.2.1] ++ ([Value.int .u32 a1.2.2.2.1] ++ en (Value.int .u8) a1.2.2.2.2.1))))))), fun (es : Nat → Value) (S' : Sto) => ∃ (x8 : Unit) (x12 : Unit), es 1 = .bool true ∧ es 7 = .int .i64 t10 ∧ S' = sput (sput (sput s0 0 (some (Ck.var 42 pg0 (([Value.slice (some ⟨gl0_0, 0, none⟩) n0_0 c0_0] ++ ([Value.map (some r0_1)] ++ ([Value.bool v0.2.2.1] ++ ([Value.int .i64 v0.2.2.2.1] ++ [Value.bool v0.2.2.2.2])))))))) 1 (some (Ck.mr T56 r0_1 gl0_0 c0_0 n0_0 w0_1))) 2 (some (Ck.var 30 g1 (([Value.int .i64 a1.1] ++ ([Value.int .i64 a1.2.1] ++ ([Value.int .i64 a1.2.2.1] ++ ([Value.int .u32 a1.2.2.2.1] ++ en (Value.int .u8) a1.2.2.2.2.1))))))), fun (es : Nat → Value) (S' : Sto) => ∃ (x8 : Unit) (x12 : Unit) (x15 : Unit), es 1 = .bool true ∧ es 7 = .int .i64 t10 ∧ es 10 = .int .i64 t13 ∧ S' = sput (sput (sput s0 0 (some (Ck.var 42 pg0 (([Value.slice (some ⟨gl0_0, 0, none⟩) n0_0 c0_0] ++ ([Value.map (some r0_1)] ++ ([Value.bool v0.2.2.1] ++ ([Value.int .i64 v0.2.2.2.1] ++ [Value.bool v0.2.2.2.2])))))))) 1 (some (Ck.mr T56 r0_1 gl0_0 c0_0 n0_0 w0_1))) 2 (some (Ck.var 30 g1 (([Value.int .i64 a1.1] ++ ([Value.int .i64 a1.2.1] ++ ([Value.int .i64 a1.2.2.1] ++ ([Value.int .u32 a1.2.2.2.1] ++ en (Value.int .u8) a1.2.2.2.2.1)))))))] [0, 0, 0, 0, 0, 0, 0, 1, 0, 0, 2, 3]) (nxl [0, 7, 0, 0, 0, 0, 0, 10, 0, 0, 11]) (onl [true, true, true, true, true, true, true, true, true, true, true]) 1 (by kernel_rfl) (by kernel_rfl) (by kernel_rfl) (by kernel_rfl) (by kernel_rfl) (rs := [_, _, _]) rfl (by kernel_rfl) (by kernel_rfl) (fun es => ?_) ?_ ?_
    · exact (rfl : sput (sput (sput s0 0 (some (Ck.var 42 pg0 (([Value.slice (some ⟨gl0_0, 0, none⟩) n0_0 c0_0] ++ ([Value.map (some r0_1)] ++ ([Value.bool v0.2.2.1] ++ ([Value.int .i64 v0.2.2.2.1] ++ [Value.bool v0.2.2.2.2])))))))) 1 (some (Ck.mr T56 r0_1 gl0_0 c0_0 n0_0 w0_1))) 2 (some (Ck.var 30 g1 (([Value.int .i64 a1.1] ++ ([Value.int .i64 a1.2.1] ++ ([Value.int .i64 a1.2.2.1] ++ ([Value.int .u32 a1.2.2.2.1] ++ en (Value.int .u8) a1.2.2.2.2.1))))))) = sput (sput (sput s0 0 (some (Ck.var 42 pg0 (([Value.slice (some ⟨gl0_0, 0, none⟩) n0_0 c0_0] ++ ([Value.map (some r0_1)] ++ ([Value.bool v0.2.2.1] ++ ([Value.int .i64 v0.2.2.2.1] ++ [Value.bool v0.2.2.2.2])))))))) 1 (some (Ck.mr T56 r0_1 gl0_0 c0_0 n0_0 w0_1))) 2 (some (Ck.var 30 g1 (([Value.int .i64 a1.1] ++ ([Value.int .i64 a1.2.1] ++ ([Value.int .i64 a1.2.2.1] ++ ([Value.int .u32 a1.2.2.2.1] ++ en (Value.int .u8) a1.2.2.2.2.1))))))))
    · refine all_snoc (all_snoc (all_snoc (all_snoc (all_snoc (all_snoc (all_snoc (all_snoc (all_snoc (all_snoc (all_snoc (all_nil) ?_) ?_) ?_) ?_) ?_) ?_) ?_) ?_) ?_) ?_) ?_
      · refine ⟨fun o ho es vs f' S' hve hvp hf hx hK hE => ?_⟩
        obtain rfl := Option.some.inj ho
        refine ⟨want_none rfl, fun _ _ => ?_, (fun _ h => by cases h), (fun h _ => by cases h), (fun h _ => by cases h)⟩
        have hF := fr_next (rfl) ((hx 3 (by kernel_rfl)).trans (by kernel_rfl : (_ : Value) = .pointer (some ⟨g1, 0, none⟩)))
        refine ls_fr hF ?_
        refine ls_loadagg (a := ⟨g1, 0, none⟩) (sub := ([Value.int .i64 a1.1] ++ ([Value.int .i64 a1.2.1] ++ ([Value.int .i64 a1.2.2.1] ++ ([Value.int .u32 a1.2.2.2.1] ++ en (Value.int .u8) a1.2.2.2.2.1))))) rfl rfl (by kernel_rfl) rfl (by kernel_rfl) (by kernel_rfl) (by kernel_rfl) (len_app (len1 _) (len_app (len1 _) (len_app (len1 _) (len_app (len1 _) (len_en _ a1.2.2.2.2))))) (fun w hs => (hs.vars (k := 2) ((hK 2 (by rfl)).trans (by exact rfl)) (Sub4.all _))) ?_
        exact ls_finp (.agg ⟨([Value.int .i64 a1.1] ++ ([Value.int .i64 a1.2.1] ++ ([Value.int .i64 a1.2.2.1] ++ ([Value.int .u32 a1.2.2.2.1] ++ en (Value.int .u8) a1.2.2.2.2.1))))⟩) (congrArg (fun z => upd z 10 _) hF.symm) rfl
      · refine ⟨fun o ho es vs f' S' hve hvp hf hx hK hE => ?_⟩
        obtain rfl := Option.some.inj ho
        obtain rfl := hE rfl
        refine ⟨want_none rfl, (fun h _ => by cases h), (fun h _ => by cases h), fun _ _ => ?_, (fun _ h => by cases h)⟩
        have hF := fr_next (rfl) ((hf 0 10 (by kernel_rfl) rfl).trans (show vs 0 = .agg ⟨([Value.int .i64 a1.1] ++ ([Value.int .i64 a1.2.1] ++ ([Value.int .i64 a1.2.2.1] ++ ([Value.int .u32 a1.2.2.2.1] ++ en (Value.int .u8) a1.2.2.2.2.1))))⟩ from hvp 0 (by kernel_rfl)))
        refine ls_fr hF ?_
        refine ls_callb (fid := 29) (vals := #[.agg ⟨([Value.int .i64 a1.1] ++ ([Value.int .i64 a1.2.1] ++ ([Value.int .i64 a1.2.2.1] ++ ([Value.int .u32 a1.2.2.2.1] ++ en (Value.int .u8) a1.2.2.2.2.1))))⟩]) (X := Unit) (fun x => .bool t6) (fun x => stl []) [] [] [] [] 3 rfl rfl (by kernel_rfl) (fun w => by kernel_rfl) trivial trivial (by decide) (fun w hs hb => pointer_Right.calls k a1 t6 (lent b w [] []) hb  hc7) ?_
        intro x8
        refine ls_ren 11 (v := .bool t6) (v' := .bool true) (by kernel_rfl) (congrArg Value.bool (show t6 = true from q9)) ?_
        exact ls_fine (sput (sput (sput s0 0 (some (Ck.var 42 pg0 (([Value.slice (some ⟨gl0_0, 0, none⟩) n0_0 c0_0] ++ ([Value.map (some r0_1)] ++ ([Value.bool v0.2.2.1] ++ ([Value.int .i64 v0.2.2.2.1] ++ [Value.bool v0.2.2.2.2])))))))) 1 (some (Ck.mr T56 r0_1 gl0_0 c0_0 n0_0 w0_1))) 2 (some (Ck.var 30 g1 (([Value.int .i64 a1.1] ++ ([Value.int .i64 a1.2.1] ++ ([Value.int .i64 a1.2.2.1] ++ ([Value.int .u32 a1.2.2.2.1] ++ en (Value.int .u8) a1.2.2.2.2.1)))))))) (.bool true) ((upd_upd _ _ _ _).trans (congrArg (fun z => upd z 11 _) hF.symm)) (show (fun (es : Nat → Value) (S' : Sto) => ∃ (x8 : Unit), es 1 = .bool true ∧ S' = sput (sput (sput s0 0 (some (Ck.var 42 pg0 (([Value.slice (some ⟨gl0_0, 0, none⟩) n0_0 c0_0] ++ ([Value.map (some r0_1)] ++ ([Value.bool v0.2.2.1] ++ ([Value.int .i64 v0.2.2.2.1] ++ [Value.bool v0.2.2.2.2])))))))) 1 (some (Ck.mr T56 r0_1 gl0_0 c0_0 n0_0 w0_1))) 2 (some (Ck.var 30 g1 (([Value.int .i64 a1.1] ++ ([Value.int .i64 a1.2.1] ++ ([Value.int .i64 a1.2.2.1] ++ ([Value.int .u32 a1.2.2.2.1] ++ en (Value.int .u8) a1.2.2.2.2.1)))))))) (upv es 1 (.bool true)) (sput (sput (sput s0 0 (some (Ck.var 42 pg0 (([Value.slice (some ⟨gl0_0, 0, none⟩) n0_0 c0_0] ++ ([Value.map (some r0_1)] ++ ([Value.bool v0.2.2.1] ++ ([Value.int .i64 v0.2.2.2.1] ++ [Value.bool v0.2.2.2.2])))))))) 1 (some (Ck.mr T56 r0_1 gl0_0 c0_0 n0_0 w0_1))) 2 (some (Ck.var 30 g1 (([Value.int .i64 a1.1] ++ ([Value.int .i64 a1.2.1] ++ ([Value.int .i64 a1.2.2.1] ++ ([Value.int .u32 a1.2.2.2.1] ++ en (Value.int .u8) a1.2.2.2.2.1)))))))) from ⟨x8, rfl, rfl⟩) rfl (keep_cons (by exact rfl) (keep_cons (by exact rfl) (keep_cons (by exact rfl) (keep_nil)))) (sub_put (by exact rfl) (sub_put (by exact rfl) (sub_put (by exact rfl) (sub_nil _))))
      · refine ⟨fun o ho es vs f' S' hve hvp hf hx hK hE => ?_⟩
        obtain rfl := Option.some.inj ho
        refine ⟨want_none rfl, fun _ _ => ?_, (fun _ h => by cases h), (fun h _ => by cases h), (fun h _ => by cases h)⟩
        have hF := fr_next (rfl) ((hf 1 11 (by kernel_rfl) rfl).trans (show vs 1 = .bool true from hvp 1 (by kernel_rfl)))
        refine ls_fr hF ?_
        refine lv (.bool false) ?_
        exact ls_finp (.bool false) (congrArg (fun z => upd z 12 _) hF.symm) rfl
      · refine ⟨fun o ho es vs f' S' hve hvp hf hx hK hE => ?_⟩
        obtain rfl := Option.some.inj ho
        refine ⟨want_none rfl, fun _ _ => ?_, (fun _ h => by cases h), (fun h _ => by cases h), (fun h _ => by cases h)⟩
        have hF := fr_next (rfl) ((hf 2 12 (by kernel_rfl) rfl).trans (show vs 2 = .bool false from hvp 2 (by kernel_rfl)))
        refine ls_fr hF ?_
        refine lv (.bool false) ?_
        exact ls_finp (.bool false) (congrArg (fun z => upd z 13 _) hF.symm) rfl
      · refine ⟨fun o ho es vs f' S' hve hvp hf hx hK hE => ?_⟩
        obtain rfl := Option.some.inj ho
        refine ⟨want_is (j := 3) (t := 13) rfl rfl (by kernel_rfl) ((hf 3 13 (by kernel_rfl) rfl).trans (show vs 3 = .bool false from hvp 3 (by kernel_rfl))) rfl, fun _ _ => ?_, (fun _ h => by cases h), (fun h _ => by cases h), (fun h _ => by cases h)⟩
        have hF := fr_next (fr_next (rfl) ((hx 3 (by kernel_rfl)).trans (by kernel_rfl : (_ : Value) = .pointer (some ⟨g1, 0, none⟩)))) ((hf 3 13 (by kernel_rfl) rfl).trans (show vs 3 = .bool false from hvp 3 (by kernel_rfl)))
        refine ls_fr hF ?_
        refine lv (.pointer (some ⟨g1, (0 + 0), none⟩)) ?_
        exact ls_finp (.pointer (some ⟨g1, (0 + 0), none⟩)) (congrArg (fun z => upd z 14 _) hF.symm) rfl
      · refine ⟨fun o ho es vs f' S' hve hvp hf hx hK hE => ?_⟩
        obtain rfl := Option.some.inj ho
        refine ⟨want_is (j := 3) (t := 13) rfl rfl (by kernel_rfl) ((hf 3 13 (by kernel_rfl) rfl).trans (show vs 3 = .bool false from hvp 3 (by kernel_rfl))) rfl, fun _ _ => ?_, (fun _ h => by cases h), (fun h _ => by cases h), (fun h _ => by cases h)⟩
        have hF := fr_next (fr_next (rfl) ((hf 3 13 (by kernel_rfl) rfl).trans (show vs 3 = .bool false from hvp 3 (by kernel_rfl)))) ((hf 4 14 (by kernel_rfl) rfl).trans (show vs 4 = .pointer (some ⟨g1, (0 + 0), none⟩) from hvp 4 (by kernel_rfl)))
        refine ls_fr hF ?_
        refine ls_load (a0 := ⟨g1, (0 + 0), none⟩) (v := .int .i64 a1.1) (de := (TypeDesc.int .i64)) rfl rfl (by kernel_rfl) rfl (by kernel_rfl) (by kernel_rfl) (by kernel_rfl) (fun w hs => (hs.var (k := 2) ((hK 2 (by rfl)).trans (by exact rfl)) (Sub4.trans (Sub4.all _) (Sub4.head _ _)))) ?_
        exact ls_finp (.int .i64 a1.1) (congrArg (fun z => upd z 15 _) hF.symm) rfl
      · refine ⟨fun o ho es vs f' S' hve hvp hf hx hK hE => ?_⟩
        obtain rfl := Option.some.inj ho
        refine ⟨want_is (j := 3) (t := 13) rfl rfl (by kernel_rfl) ((hf 3 13 (by kernel_rfl) rfl).trans (show vs 3 = .bool false from hvp 3 (by kernel_rfl))) rfl, fun _ _ => ?_, (fun _ h => by cases h), (fun h _ => by cases h), (fun h _ => by cases h)⟩
        have hF := fr_next (fr_next (rfl) ((hx 3 (by kernel_rfl)).trans (by kernel_rfl : (_ : Value) = .pointer (some ⟨g1, 0, none⟩)))) ((hf 3 13 (by kernel_rfl) rfl).trans (show vs 3 = .bool false from hvp 3 (by kernel_rfl)))
        refine ls_fr hF ?_
        refine ls_loadagg (a := ⟨g1, 0, none⟩) (sub := ([Value.int .i64 a1.1] ++ ([Value.int .i64 a1.2.1] ++ ([Value.int .i64 a1.2.2.1] ++ ([Value.int .u32 a1.2.2.2.1] ++ en (Value.int .u8) a1.2.2.2.2.1))))) rfl rfl (by kernel_rfl) rfl (by kernel_rfl) (by kernel_rfl) (by kernel_rfl) (len_app (len1 _) (len_app (len1 _) (len_app (len1 _) (len_app (len1 _) (len_en _ a1.2.2.2.2))))) (fun w hs => (hs.vars (k := 2) ((hK 2 (by rfl)).trans (by exact rfl)) (Sub4.all _))) ?_
        exact ls_finp (.agg ⟨([Value.int .i64 a1.1] ++ ([Value.int .i64 a1.2.1] ++ ([Value.int .i64 a1.2.2.1] ++ ([Value.int .u32 a1.2.2.2.1] ++ en (Value.int .u8) a1.2.2.2.2.1))))⟩) (congrArg (fun z => upd z 16 _) hF.symm) rfl
      · refine ⟨fun o ho es vs f' S' hve hvp hf hx hK hE => ?_⟩
        obtain rfl := Option.some.inj ho
        obtain ⟨x8, hv1, rfl⟩ := hE rfl
        refine ⟨want_is (j := 3) (t := 13) rfl rfl (by kernel_rfl) ((hf 3 13 (by kernel_rfl) rfl).trans (show vs 3 = .bool false from hvp 3 (by kernel_rfl))) rfl, (fun h _ => by cases h), (fun h _ => by cases h), fun _ _ => ?_, (fun _ h => by cases h)⟩
        have hF := fr_next (fr_next (rfl) ((hf 3 13 (by kernel_rfl) rfl).trans (show vs 3 = .bool false from hvp 3 (by kernel_rfl)))) ((hf 6 16 (by kernel_rfl) rfl).trans (show vs 6 = .agg ⟨([Value.int .i64 a1.1] ++ ([Value.int .i64 a1.2.1] ++ ([Value.int .i64 a1.2.2.1] ++ ([Value.int .u32 a1.2.2.2.1] ++ en (Value.int .u8) a1.2.2.2.2.1))))⟩ from hvp 6 (by kernel_rfl)))
        refine ls_fr hF ?_
        refine ls_callb (fid := 18) (vals := #[.agg ⟨([Value.int .i64 a1.1] ++ ([Value.int .i64 a1.2.1] ++ ([Value.int .i64 a1.2.2.1] ++ ([Value.int .u32 a1.2.2.2.1] ++ en (Value.int .u8) a1.2.2.2.2.1))))⟩]) (X := Unit) (fun x => .int .i64 t10) (fun x => stl []) [] [] [] [] 3 rfl rfl (by kernel_rfl) (fun w => by kernel_rfl) trivial trivial (by decide) (fun w hs hb => pointer_Sectors.calls k a1 t10 (lent b w [] []) hb  hc11) ?_
        intro x12
        exact ls_fine (sput (sput (sput s0 0 (some (Ck.var 42 pg0 (([Value.slice (some ⟨gl0_0, 0, none⟩) n0_0 c0_0] ++ ([Value.map (some r0_1)] ++ ([Value.bool v0.2.2.1] ++ ([Value.int .i64 v0.2.2.2.1] ++ [Value.bool v0.2.2.2.2])))))))) 1 (some (Ck.mr T56 r0_1 gl0_0 c0_0 n0_0 w0_1))) 2 (some (Ck.var 30 g1 (([Value.int .i64 a1.1] ++ ([Value.int .i64 a1.2.1] ++ ([Value.int .i64 a1.2.2.1] ++ ([Value.int .u32 a1.2.2.2.1] ++ en (Value.int .u8) a1.2.2.2.2.1)))))))) (.int .i64 t10) (congrArg (fun z => upd z 17 _) hF.symm) (show (fun (es : Nat → Value) (S' : Sto) => ∃ (x8 : Unit) (x12 : Unit), es 1 = .bool true ∧ es 7 = .int .i64 t10 ∧ S' = sput (sput (sput s0 0 (some (Ck.var 42 pg0 (([Value.slice (some ⟨gl0_0, 0, none⟩) n0_0 c0_0] ++ ([Value.map (some r0_1)] ++ ([Value.bool v0.2.2.1] ++ ([Value.int .i64 v0.2.2.2.1] ++ [Value.bool v0.2.2.2.2])))))))) 1 (some (Ck.mr T56 r0_1 gl0_0 c0_0 n0_0 w0_1))) 2 (some (Ck.var 30 g1 (([Value.int .i64 a1.1] ++ ([Value.int .i64 a1.2.1] ++ ([Value.int .i64 a1.2.2.1] ++ ([Value.int .u32 a1.2.2.2.1] ++ en (Value.int .u8) a1.2.2.2.2.1)))))))) (upv es 7 (.int .i64 t10)) (sput (sput (sput s0 0 (some (Ck.var 42 pg0 (([Value.slice (some ⟨gl0_0, 0, none⟩) n0_0 c0_0] ++ ([Value.map (some r0_1)] ++ ([Value.bool v0.2.2.1] ++ ([Value.int .i64 v0.2.2.2.1] ++ [Value.bool v0.2.2.2.2])))))))) 1 (some (Ck.mr T56 r0_1 gl0_0 c0_0 n0_0 w0_1))) 2 (some (Ck.var 30 g1 (([Value.int .i64 a1.1] ++ ([Value.int .i64 a1.2.1] ++ ([Value.int .i64 a1.2.2.1] ++ ([Value.int .u32 a1.2.2.2.1] ++ en (Value.int .u8) a1.2.2.2.2.1)))))))) from ⟨x8, x12, hv1, rfl, rfl⟩) rfl (keep_cons (by exact rfl) (keep_cons (by exact rfl) (keep_cons (by exact rfl) (keep_nil)))) (sub_put (by exact rfl) (sub_put (by exact rfl) (sub_put (by exact rfl) (sub_nil _))))
      · refine ⟨fun o ho es vs f' S' hve hvp hf hx hK hE => ?_⟩
        obtain rfl := Option.some.inj ho
        refine ⟨want_is (j := 3) (t := 13) rfl rfl (by kernel_rfl) ((hf 3 13 (by kernel_rfl) rfl).trans (show vs 3 = .bool false from hvp 3 (by kernel_rfl))) rfl, fun _ _ => ?_, (fun _ h => by cases h), (fun h _ => by cases h), (fun h _ => by cases h)⟩
        have hF := fr_next (fr_next (fr_next (rfl) ((hf 3 13 (by kernel_rfl) rfl).trans (show vs 3 = .bool false from hvp 3 (by kernel_rfl)))) ((hf 5 15 (by kernel_rfl) rfl).trans (show vs 5 = .int .i64 a1.1 from hvp 5 (by kernel_rfl)))) ((hf 7 17 (by kernel_rfl) rfl).trans (show vs 7 = .int .i64 t10 from hvp 7 (by kernel_rfl)))
        refine ls_fr hF ?_
        refine lv (.int .i64 (IntKind.wrap .i64 (a1.1 + t10))) ?_
        exact ls_finp (.int .i64 (IntKind.wrap .i64 (a1.1 + t10))) (congrArg (fun z => upd z 18 _) hF.symm) rfl
      · refine ⟨fun o ho es vs f' S' hve hvp hf hx hK hE => ?_⟩
        obtain rfl := Option.some.inj ho
        refine ⟨want_is (j := 3) (t := 13) rfl rfl (by kernel_rfl) ((hf 3 13 (by kernel_rfl) rfl).trans (show vs 3 = .bool false from hvp 3 (by kernel_rfl))) rfl, fun _ _ => ?_, (fun _ h => by cases h), (fun h _ => by cases h), (fun h _ => by cases h)⟩
        have hF := fr_next (fr_next (rfl) ((hx 0 (by kernel_rfl)).trans (by kernel_rfl : (_ : Value) = .pointer (some ⟨pg0, 0, none⟩)))) ((hf 3 13 (by kernel_rfl) rfl).trans (show vs 3 = .bool false from hvp 3 (by kernel_rfl)))
        refine ls_fr hF ?_
        refine lv (.pointer (some ⟨pg0, 0, none⟩)) ?_
        exact ls_finp (.pointer (some ⟨pg0, 0, none⟩)) (congrArg (fun z => upd z 19 _) hF.symm) rfl
      refine ⟨fun o ho es vs f' S' hve hvp hf hx hK hE => ?_⟩
      obtain rfl := Option.some.inj ho
      obtain ⟨x8, x12, hv1, hv7, rfl⟩ := hE rfl
      refine ⟨want_is (j := 3) (t := 13) rfl rfl (by kernel_rfl) ((hf 3 13 (by kernel_rfl) rfl).trans (show vs 3 = .bool false from hvp 3 (by kernel_rfl))) rfl, (fun h _ => by cases h), (fun h _ => by cases h), fun _ _ => ?_, (fun _ h => by cases h)⟩
      have hF := fr_next (fr_next (rfl) ((hf 3 13 (by kernel_rfl) rfl).trans (show vs 3 = .bool false from hvp 3 (by kernel_rfl)))) ((hf 9 19 (by kernel_rfl) rfl).trans (show vs 9 = .pointer (some ⟨pg0, 0, none⟩) from hvp 9 (by kernel_rfl)))
      refine ls_fr hF ?_
      refine ls_callb (fid := 16) (vals := #[.pointer (some ⟨pg0, 0, none⟩)]) (X := Unit) (fun x => .int .i64 t13) (fun x => stl [Ck.var 42 pg0 (([Value.slice (some ⟨gl0_0, 0, none⟩) n0_0 c0_0] ++ ([Value.map (some r0_1)] ++ ([Value.bool v0.2.2.1] ++ ([Value.int .i64 v0.2.2.2.1] ++ [Value.bool v0.2.2.2.2]))))), Ck.mr T56 r0_1 gl0_0 c0_0 n0_0 w0_1]) [0, 1] [] [Ck.var 42 pg0 (([Value.slice (some ⟨gl0_0, 0, none⟩) n0_0 c0_0] ++ ([Value.map (some r0_1)] ++ ([Value.bool v0.2.2.1] ++ ([Value.int .i64 v0.2.2.2.1] ++ [Value.bool v0.2.2.2.2]))))), Ck.mr T56 r0_1 gl0_0 c0_0 n0_0 w0_1] [] 3 rfl rfl (by kernel_rfl) (fun w => by kernel_rfl) ⟨by exact rfl, by exact rfl, trivial⟩ trivial (by decide) (fun w hs hb => disk_Disk_Len.calls k pg0 gl0_0 n0_0 c0_0 r0_1 ((), (), v0.2.2.1, v0.2.2.2.1, v0.2.2.2.2) w0_1 t13 (lent b w [Ck.var 42 pg0 (([Value.slice (some ⟨gl0_0, 0, none⟩) n0_0 c0_0] ++ ([Value.map (some r0_1)] ++ ([Value.bool v0.2.2.1] ++ ([Value.int .i64 v0.2.2.2.1] ++ [Value.bool v0.2.2.2.2]))))), Ck.mr T56 r0_1 gl0_0 c0_0 n0_0 w0_1] []) hb  hc14) ?_
      intro x15
      exact ls_fine (sput (sput (sput s0 0 (some (Ck.var 42 pg0 (([Value.slice (some ⟨gl0_0, 0, none⟩) n0_0 c0_0] ++ ([Value.map (some r0_1)] ++ ([Value.bool v0.2.2.1] ++ ([Value.int .i64 v0.2.2.2.1] ++ [Value.bool v0.2.2.2.2])))))))) 1 (some (Ck.mr T56 r0_1 gl0_0 c0_0 n0_0 w0_1))) 2 (some (Ck.var 30 g1 (([Value.int .i64 a1.1] ++ ([Value.int .i64 a1.2.1] ++ ([Value.int .i64 a1.2.2.1] ++ ([Value.int .u32 a1.2.2.2.1] ++ en (Value.int .u8) a1.2.2.2.2.1)))))))) (.int .i64 t13) (congrArg (fun z => upd z 20 _) hF.symm) (show (fun (es : Nat → Value) (S' : Sto) => ∃ (x8 : Unit) (x12 : Unit) (x15 : Unit), es 1 = .bool true ∧ es 7 = .int .i64 t10 ∧ es 10 = .int .i64 t13 ∧ S' = sput (sput (sput s0 0 (some (Ck.var 42 pg0 (([Value.slice (some ⟨gl0_0, 0, none⟩) n0_0 c0_0] ++ ([Value.map (some r0_1)] ++ ([Value.bool v0.2.2.1] ++ ([Value.int .i64 v0.2.2.2.1] ++ [Value.bool v0.2.2.2.2])))))))) 1 (some (Ck.mr T56 r0_1 gl0_0 c0_0 n0_0 w0_1))) 2 (some (Ck.var 30 g1 (([Value.int .i64 a1.1] ++ ([Value.int .i64 a1.2.1] ++ ([Value.int .i64 a1.2.2.1] ++ ([Value.int .u32 a1.2.2.2.1] ++ en (Value.int .u8) a1.2.2.2.2.1)))))))) (upv es 10 (.int .i64 t13)) (sput (sput (sput s0 0 (some (Ck.var 42 pg0 (([Value.slice (some ⟨gl0_0, 0, none⟩) n0_0 c0_0] ++ ([Value.map (some r0_1)] ++ ([Value.bool v0.2.2.1] ++ ([Value.int .i64 v0.2.2.2.1] ++ [Value.bool v0.2.2.2.2])))))))) 1 (some (Ck.mr T56 r0_1 gl0_0 c0_0 n0_0 w0_1))) 2 (some (Ck.var 30 g1 (([Value.int .i64 a1.1] ++ ([Value.int .i64 a1.2.1] ++ ([Value.int .i64 a1.2.2.1] ++ ([Value.int .u32 a1.2.2.2.1] ++ en (Value.int .u8) a1.2.2.2.2.1)))))))) from ⟨x8, x12, x15, hv1, hv7, rfl, rfl⟩) rfl (keep_cons (by exact rfl) (keep_cons (by exact rfl) (keep_cons (by exact rfl) (keep_nil)))) (sub_put (by exact rfl) (sub_put (by exact rfl) (sub_put (by exact rfl) (sub_nil _))))
    intro es vs f' S' hve hvp hf hx hK hE
    obtain ⟨x8, x12, x15, hv1, hv7, hv10, rfl⟩ := hE
    refine ls_fr (F := upd (upd (upd f' 13 (.bool false)) 18 (.int .i64 (IntKind.wrap .i64 (a1.1 + t10)))) 20 (.int .i64 t13)) (fr_next (fr_next (fr_next (rfl) ((hf 3 13 (by kernel_rfl) rfl).trans (show vs 3 = .bool false from hvp 3 (by kernel_rfl)))) ((hf 8 18 (by kernel_rfl) rfl).trans (show vs 8 = .int .i64 (IntKind.wrap .i64 (a1.1 + t10)) from hvp 8 (by kernel_rfl)))) ((hf 10 20 (by kernel_rfl) rfl).trans (show vs 10 = .int .i64 t13 from hvp 10 (by kernel_rfl)))) ?_
    refine ls_sub (sput (sput s0 0 (some (Ck.var 42 pg0 (([Value.slice (some ⟨gl0_0, 0, none⟩) n0_0 c0_0] ++ ([Value.map (some r0_1)] ++ ([Value.bool v0.2.2.1] ++ ([Value.int .i64 v0.2.2.2.1] ++ [Value.bool v0.2.2.2.2])))))))) 1 (some (Ck.mr T56 r0_1 gl0_0 c0_0 n0_0 w0_1))) (sub_put (by exact rfl) (sub_put (by exact rfl) (sub_nil _))) ?_
    refine ls_on (j := 3) (t := 13) (b := false) rfl rfl (by kernel_rfl) (by kernel_rfl) ?_
    refine lv (.bool (decide ((IntKind.wrap .i64 (a1.1 + t10)) > t13))) ?_
    refine lv (.bool (decide ((IntKind.wrap .i64 (a1.1 + t10)) > t13))) ?_
    refine lv (.bool (decide ((IntKind.wrap .i64 (a1.1 + t10)) > t13))) ?_
    refine ls_end ?_
    refine qn_then ?_
    by_cases q16 : (IntKind.wrap .i64 (a1.1 + t10)) > t13
    · replace H := ite_t q16 H
      refine cs_know (c := true) (dec_t q16) 9 (by kernel_rfl) ?_
      refine cs_true (by kernel_rfl) ?_
      refine cs_seq ?_
      refine cs_region (l := [_]) ?_
      refine lv (.int .i64 (2 : Int)) ?_
      refine ls_end ?_
      refine qn_then ?_
      refine cs_ret' ?_
      refine qr_block ?_
      refine qr_then ?_
      obtain rfl := Option.some.inj H
      refine qr_res (rs := [_]) rfl (fun w' hs => ⟨[.int .i64 (2 : Int)], (res_tmp (by kernel_rfl) (.nil)), (), rfl, hs.pick (ts := [0, 1]) (cs := [Ck.var 42 pg0 (([Value.slice (some ⟨gl0_0, 0, none⟩) n0_0 c0_0] ++ ([Value.map (some r0_1)] ++ ([Value.bool v0.2.2.1] ++ ([Value.int .i64 v0.2.2.2.1] ++ [Value.bool v0.2.2.2.2]))))), Ck.mr T56 r0_1 gl0_0 c0_0 n0_0 w0_1]) ⟨by exact rfl, by exact rfl, trivial⟩ (by decide)⟩)
    replace H := ite_f q16 H
    refine cs_know (c := false) (dec_f q16) 9 (by kernel_rfl) ?_
    refine cs_false (by kernel_rfl) ?_
    refine cs_skip' ?_
    refine qn_block ?_
    refine qn_then ?_
    refine cs_seq ?_
    refine cs_region (l := [_]) ?_
    refine lv (.int .i64 (0 : Int)) ?_
    refine ls_end ?_
    refine qn_then ?_
    refine cs_ret' ?_
    obtain rfl := Option.some.inj H
    refine qr_res (rs := [_]) rfl (fun w' hs => ⟨[.int .i64 (0 : Int)], (res_tmp (by kernel_rfl) (.nil)), (), rfl, hs.pick (ts := [0, 1]) (cs := [Ck.var 42 pg0 (([Value.slice (some ⟨gl0_0, 0, none⟩) n0_0 c0_0] ++ ([Value.map (some r0_1)] ++ ([Value.bool v0.2.2.1] ++ ([Value.int .i64 v0.2.2.2.1] ++ [Value.bool v0.2.2.2.2]))))), Ck.mr T56 r0_1 gl0_0 c0_0 n0_0 w0_1]) ⟨by exact rfl, by exact rfl, trivial⟩ (by decide)⟩)
  replace H := ite_f q9 H
  refine cs_sub (sput (sput (sput s0 0 (some (Ck.var 42 pg0 (([Value.slice (some ⟨gl0_0, 0, none⟩) n0_0 c0_0] ++ ([Value.map (some r0_1)] ++ ([Value.bool v0.2.2.1] ++ ([Value.int .i64 v0.2.2.2.1] ++ [Value.bool v0.2.2.2.2])))))))) 1 (some (Ck.mr T56 r0_1 gl0_0 c0_0 n0_0 w0_1))) 2 (some (Ck.var 30 g1 (([Value.int .i64 a1.1] ++ ([Value.int .i64 a1.2.1] ++ ([Value.int .i64 a1.2.2.1] ++ ([Value.int .u32 a1.2.2.2.1] ++ en (Value.int .u8) a1.2.2.2.2.1)))))))) (sub_put (by exact rfl) (sub_put (by exact rfl) (sub_put (by exact rfl) (sub_nil _)))) ?_
  refine cs_chain (l := [_, _, _, _, _, _, _, _, _, _, _, _, _, _]) [[], [0], [0, 1], [0, 1, 2], [0, 1, 2, 3], [0, 1, 2, 3, 4], [0, 1, 2, 3], [0, 1, 2, 3, 6], [0, 1, 2, 3, 4, 5, 6, 7], [0, 1, 2, 3], [0, 1, 2, 3, 6, 7, 9], [0, 1, 2, 3, 4, 5, 6, 7, 8, 9, 10], [0, 1, 2, 3, 4, 5, 6, 7, 8, 9, 10, 11], [0, 1, 2, 3, 4, 5, 6, 7, 8, 9, 10, 11, 12]] 11 (fun u => [0, 1, 2].contains u) (efl [false, true, false, false, false, false, false, false, false, false, false]) (pvl [.val (.agg ⟨([Value.int .i64 a1.1] ++ ([Value.int .i64 a1.2.1] ++ ([Value.int .i64 a1.2.2.1] ++ ([Value.int .u32 a1.2.2.2.1] ++ en (Value.int .u8) a1.2.2.2.2.1))))⟩), .val (.bool false), .val (.bool true), .val (.bool true), .val (undef), .val (undef), .val (undef), .val (undef), .val (undef), .val (undef), .val (undef)]) (Esl [fun (es : Nat → Value) (S' : Sto) => S' = sput (sput (sput s0 0 (some (Ck.var 42 pg0 (([Value.slice (some ⟨gl0_0, 0, none⟩) n0_0 c0_0] ++ ([Value.map (some r0_1)] ++ ([Value.bool v0.2.2.1] ++ ([Value.int .i64 v0.2.2.2.1] ++ [Value.bool v0.2.2.2.2])))))))) 1 (some (Ck.mr T56 r0_1 gl0_0 c0_0 n0_0 w0_1))) 2 (some (Ck.var 30 g1 (([Value.int .i64 a1.1] ++ ([Value.int .i64 a1.2.1] ++ ([Value.int .i64 a1.2.2.1] ++ ([Value.int .u32 a1.2.2.2.1] ++ en (Value.int .u8) a1.2.2.2.2.1))))))), fun (es : Nat → Value) (S' : Sto) => ∃ (x8 : Unit), es 1 = .bool false ∧ S' = sput (sput (sput s0 0 (some (Ck.var 42 pg0 (([Value.slice (some ⟨gl0_0, 0, none⟩) n0_0 c0_0] ++ ([Value.map (some r0_1)] ++ ([Value.bool v0.2.2.1] ++ ([Value.int .i64 v0.2.2.2.1] ++ [Value.bool v0.2.2.2.2])))))))) 1 (some (Ck.mr T56 r0_1 gl0_0 c0_0 n0_0 w0_1))) 2 (some (Ck.var 30 g1 (([Value.int .i64 a1.1] ++ ([Value.int .i64 a1.2.1] ++ ([Value.int .i64 a1.2.2.1] ++ ([Value.int .u32 a1.2.2.2.1] ++ en (Value.int .u8) a1.2.2.2.2.1)))))))] [0, 0, 0, 0, 0, 0, 0, 0, 0, 0, 0, 1]) (nxl [0, 11, 0, 0, 0, 0, 0, 0, 0, 0, 0]) (onl [true, true, true, true, false, false, false, false, false, false, false]) 1 (by kernel_rfl) (by kernel_rfl) (by kernel_rfl) (by kernel_rfl) (by kernel_rfl) (rs := [_, _, _]) rfl (by kernel_rfl) (by kernel_rfl) (fun es => ?_) ?_ ?_
  · exact (rfl : sput (sput (sput s0 0 (some (Ck.var 42 pg0 (([Value.slice (some ⟨gl0_0, 0, none⟩) n0_0 c0_0] ++ ([Value.map (some r0_1)] ++ ([Value.bool v0.2.2.1] ++ ([Value.int .i64 v0.2.2.2.1] ++ [Value.bool v0.2.2.2.2])))))))) 1 (some (Ck.mr T56 r0_1 gl0_0 c0_0 n0_0 w0_1))) 2 (some (Ck.var 30 g1 (([Value.int .i64 a1.1] ++ ([Value.int .i64 a1.2.1] ++ ([Value.int .i64 a1.2.2.1] ++ ([Value.int .u32 a1.2.2.2.1] ++ en (Value.int .u8) a1.2.2.2.2.1))))))) = sput (sput (sput s0 0 (some (Ck.var 42 pg0 (([Value.slice (some ⟨gl0_0, 0, none⟩) n0_0 c0_0] ++ ([Value.map (some r0_1)] ++ ([Value.bool v0.2.2.1] ++ ([Value.int .i64 v0.2.2.2.1] ++ [Value.bool v0.2.2.2.2])))))))) 1 (some (Ck.mr T56 r0_1 gl0_0 c0_0 n0_0 w0_1))) 2 (some (Ck.var 30 g1 (([Value.int .i64 a1.1] ++ ([Value.int .i64 a1.2.1] ++ ([Value.int .i64 a1.2.2.1] ++ ([Value.int .u32 a1.2.2.2.1] ++ en (Value.int .u8) a1.2.2.2.2.1))))))))
  · refine all_snoc (all_snoc (all_snoc (all_snoc (all_snoc (all_snoc (all_snoc (all_snoc (all_snoc (all_snoc (all_snoc (all_nil) ?_) ?_) ?_) ?_) ?_) ?_) ?_) ?_) ?_) ?_) ?_
    · refine ⟨fun o ho es vs f' S' hve hvp hf hx hK hE => ?_⟩
      obtain rfl := Option.some.inj ho
      refine ⟨want_none rfl, fun _ _ => ?_, (fun _ h => by cases h), (fun h _ => by cases h), (fun h _ => by cases h)⟩
      have hF := fr_next (rfl) ((hx 3 (by kernel_rfl)).trans (by kernel_rfl : (_ : Value) = .pointer (some ⟨g1, 0, none⟩)))
      refine ls_fr hF ?_
      refine ls_loadagg (a := ⟨g1, 0, none⟩) (sub := ([Value.int .i64 a1.1] ++ ([Value.int .i64 a1.2.1] ++ ([Value.int .i64 a1.2.2.1] ++ ([Value.int .u32 a1.2.2.2.1] ++ en (Value.int .u8) a1.2.2.2.2.1))))) rfl rfl (by kernel_rfl) rfl (by kernel_rfl) (by kernel_rfl) (by kernel_rfl) (len_app (len1 _) (len_app (len1 _) (len_app (len1 _) (len_app (len1 _) (len_en _ a1.2.2.2.2))))) (fun w hs => (hs.vars (k := 2) ((hK 2 (by rfl)).trans (by exact rfl)) (Sub4.all _))) ?_
      exact ls_finp (.agg ⟨([Value.int .i64 a1.1] ++ ([Value.int .i64 a1.2.1] ++ ([Value.int .i64 a1.2.2.1] ++ ([Value.int .u32 a1.2.2.2.1] ++ en (Value.int .u8) a1.2.2.2.2.1))))⟩) (congrArg (fun z => upd z 10 _) hF.symm) rfl
    · refine ⟨fun o ho es vs f' S' hve hvp hf hx hK hE => ?_⟩
      obtain rfl := Option.some.inj ho
      obtain rfl := hE rfl
      refine ⟨want_none rfl, (fun h _ => by cases h), (fun h _ => by cases h), fun _ _ => ?_, (fun _ h => by cases h)⟩
      have hF := fr_next (rfl) ((hf 0 10 (by kernel_rfl) rfl).trans (show vs 0 = .agg ⟨([Value.int .i64 a1.1] ++ ([Value.int .i64 a1.2.1] ++ ([Value.int .i64 a1.2.2.1] ++ ([Value.int .u32 a1.2.2.2.1] ++ en (Value.int .u8) a1.2.2.2.2.1))))⟩ from hvp 0 (by kernel_rfl)))
      refine ls_fr hF ?_
      refine ls_callb (fid := 29) (vals := #[.agg ⟨([Value.int .i64 a1.1] ++ ([Value.int .i64 a1.2.1] ++ ([Value.int .i64 a1.2.2.1] ++ ([Value.int .u32 a1.2.2.2.1] ++ en (Value.int .u8) a1.2.2.2.2.1))))⟩]) (X := Unit) (fun x => .bool t6) (fun x => stl []) [] [] [] [] 3 rfl rfl (by kernel_rfl) (fun w => by kernel_rfl) trivial trivial (by decide) (fun w hs hb => pointer_Right.calls k a1 t6 (lent b w [] []) hb  hc7) ?_
      intro x8
      refine ls_ren 11 (v := .bool t6) (v' := .bool false) (by kernel_rfl) (congrArg Value.bool (show t6 = false from Bool.eq_false_iff.mpr q9)) ?_
      exact ls_fine (sput (sput (sput s0 0 (some (Ck.var 42 pg0 (([Value.slice (some ⟨gl0_0, 0, none⟩) n0_0 c0_0] ++ ([Value.map (some r0_1)] ++ ([Value.bool v0.2.2.1] ++ ([Value.int .i64 v0.2.2.2.1] ++ [Value.bool v0.2.2.2.2])))))))) 1 (some (Ck.mr T56 r0_1 gl0_0 c0_0 n0_0 w0_1))) 2 (some (Ck.var 30 g1 (([Value.int .i64 a1.1] ++ ([Value.int .i64 a1.2.1] ++ ([Value.int .i64 a1.2.2.1] ++ ([Value.int .u32 a1.2.2.2.1] ++ en (Value.int .u8) a1.2.2.2.2.1)))))))) (.bool false) ((upd_upd _ _ _ _).trans (congrArg (fun z => upd z 11 _) hF.symm)) (show (fun (es : Nat → Value) (S' : Sto) => ∃ (x8 : Unit), es 1 = .bool false ∧ S' = sput (sput (sput s0 0 (some (Ck.var 42 pg0 (([Value.slice (some ⟨gl0_0, 0, none⟩) n0_0 c0_0] ++ ([Value.map (some r0_1)] ++ ([Value.bool v0.2.2.1] ++ ([Value.int .i64 v0.2.2.2.1] ++ [Value.bool v0.2.2.2.2])))))))) 1 (some (Ck.mr T56 r0_1 gl0_0 c0_0 n0_0 w0_1))) 2 (some (Ck.var 30 g1 (([Value.int .i64 a1.1] ++ ([Value.int .i64 a1.2.1] ++ ([Value.int .i64 a1.2.2.1] ++ ([Value.int .u32 a1.2.2.2.1] ++ en (Value.int .u8) a1.2.2.2.2.1)))))))) (upv es 1 (.bool false)) (sput (sput (sput s0 0 (some (Ck.var 42 pg0 (([Value.slice (some ⟨gl0_0, 0, none⟩) n0_0 c0_0] ++ ([Value.map (some r0_1)] ++ ([Value.bool v0.2.2.1] ++ ([Value.int .i64 v0.2.2.2.1] ++ [Value.bool v0.2.2.2.2])))))))) 1 (some (Ck.mr T56 r0_1 gl0_0 c0_0 n0_0 w0_1))) 2 (some (Ck.var 30 g1 (([Value.int .i64 a1.1] ++ ([Value.int .i64 a1.2.1] ++ ([Value.int .i64 a1.2.2.1] ++ ([Value.int .u32 a1.2.2.2.1] ++ en (Value.int .u8) a1.2.2.2.2.1)))))))) from ⟨x8, rfl, rfl⟩) rfl (keep_cons (by exact rfl) (keep_cons (by exact rfl) (keep_cons (by exact rfl) (keep_nil)))) (sub_put (by exact rfl) (sub_put (by exact rfl) (sub_put (by exact rfl) (sub_nil _))))
    · refine ⟨fun o ho es vs f' S' hve hvp hf hx hK hE => ?_⟩
      obtain rfl := Option.some.inj ho
      refine ⟨want_none rfl, fun _ _ => ?_, (fun _ h => by cases h), (fun h _ => by cases h), (fun h _ => by cases h)⟩
      have hF := fr_next (rfl) ((hf 1 11 (by kernel_rfl) rfl).trans (show vs 1 = .bool false from hvp 1 (by kernel_rfl)))
      refine ls_fr hF ?_
      refine lv (.bool true) ?_
      exact ls_finp (.bool true) (congrArg (fun z => upd z 12 _) hF.symm) rfl
    · refine ⟨fun o ho es vs f' S' hve hvp hf hx hK hE => ?_⟩
      obtain rfl := Option.some.inj ho
      refine ⟨want_none rfl, fun _ _ => ?_, (fun _ h => by cases h), (fun h _ => by cases h), (fun h _ => by cases h)⟩
      have hF := fr_next (rfl) ((hf 2 12 (by kernel_rfl) rfl).trans (show vs 2 = .bool true from hvp 2 (by kernel_rfl)))
      refine ls_fr hF ?_
      refine lv (.bool true) ?_
      exact ls_finp (.bool true) (congrArg (fun z => upd z 13 _) hF.symm) rfl
    · refine ⟨fun o ho es vs f' S' hve hvp hf hx hK hE => ?_⟩
      obtain rfl := Option.some.inj ho
      exact ⟨want_is (j := 3) (t := 13) rfl rfl (by kernel_rfl) ((hf 3 13 (by kernel_rfl) rfl).trans (show vs 3 = .bool true from hvp 3 (by kernel_rfl))) rfl, (fun _ h => by cases h), fun _ _ => rfl, (fun h _ => by cases h), (fun h _ => by cases h)⟩
    · refine ⟨fun o ho es vs f' S' hve hvp hf hx hK hE => ?_⟩
      obtain rfl := Option.some.inj ho
      exact ⟨want_is (j := 3) (t := 13) rfl rfl (by kernel_rfl) ((hf 3 13 (by kernel_rfl) rfl).trans (show vs 3 = .bool true from hvp 3 (by kernel_rfl))) rfl, (fun _ h => by cases h), fun _ _ => rfl, (fun h _ => by cases h), (fun h _ => by cases h)⟩
    · refine ⟨fun o ho es vs f' S' hve hvp hf hx hK hE => ?_⟩
      obtain rfl := Option.some.inj ho
      exact ⟨want_is (j := 3) (t := 13) rfl rfl (by kernel_rfl) ((hf 3 13 (by kernel_rfl) rfl).trans (show vs 3 = .bool true from hvp 3 (by kernel_rfl))) rfl, (fun _ h => by cases h), fun _ _ => rfl, (fun h _ => by cases h), (fun h _ => by cases h)⟩
    · refine ⟨fun o ho es vs f' S' hve hvp hf hx hK hE => ?_⟩
      obtain rfl := Option.some.inj ho
      exact ⟨want_is (j := 3) (t := 13) rfl rfl (by kernel_rfl) ((hf 3 13 (by kernel_rfl) rfl).trans (show vs 3 = .bool true from hvp 3 (by kernel_rfl))) rfl, (fun _ h => by cases h), fun _ _ => rfl, (fun h _ => by cases h), (fun h _ => by cases h)⟩
    · refine ⟨fun o ho es vs f' S' hve hvp hf hx hK hE => ?_⟩
      obtain rfl := Option.some.inj ho
      exact ⟨want_is (j := 3) (t := 13) rfl rfl (by kernel_rfl) ((hf 3 13 (by kernel_rfl) rfl).trans (show vs 3 = .bool true from hvp 3 (by kernel_rfl))) rfl, (fun _ h => by cases h), fun _ _ => rfl, (fun h _ => by cases h), (fun h _ => by cases h)⟩
    · refine ⟨fun o ho es vs f' S' hve hvp hf hx hK hE => ?_⟩
      obtain rfl := Option.some.inj ho
      exact ⟨want_is (j := 3) (t := 13) rfl rfl (by kernel_rfl) ((hf 3 13 (by kernel_rfl) rfl).trans (show vs 3 = .bool true from hvp 3 (by kernel_rfl))) rfl, (fun _ h => by cases h), fun _ _ => rfl, (fun h _ => by cases h), (fun h _ => by cases h)⟩
    refine ⟨fun o ho es vs f' S' hve hvp hf hx hK hE => ?_⟩
    obtain rfl := Option.some.inj ho
    exact ⟨want_is (j := 3) (t := 13) rfl rfl (by kernel_rfl) ((hf 3 13 (by kernel_rfl) rfl).trans (show vs 3 = .bool true from hvp 3 (by kernel_rfl))) rfl, (fun _ h => by cases h), fun _ _ => rfl, (fun h _ => by cases h), (fun h _ => by cases h)⟩
  intro es vs f' S' hve hvp hf hx hK hE
  obtain ⟨x8, hv1, rfl⟩ := hE
  refine ls_fr (F := upd f' 13 (.bool true)) (fr_next (rfl) ((hf 3 13 (by kernel_rfl) rfl).trans (show vs 3 = .bool true from hvp 3 (by kernel_rfl)))) ?_
  refine ls_sub (sput (sput s0 0 (some (Ck.var 42 pg0 (([Value.slice (some ⟨gl0_0, 0, none⟩) n0_0 c0_0] ++ ([Value.map (some r0_1)] ++ ([Value.bool v0.2.2.1] ++ ([Value.int .i64 v0.2.2.2.1] ++ [Value.bool v0.2.2.2.2])))))))) 1 (some (Ck.mr T56 r0_1 gl0_0 c0_0 n0_0 w0_1))) (sub_put (by exact rfl) (sub_put (by exact rfl) (sub_nil _))) ?_
  refine lofx 3 13 false true ?_
  refine lv (.bool true) ?_
  refine lv (.bool true) ?_
  refine ls_end ?_
  refine qn_then ?_
  refine cs_true (by kernel_rfl) ?_
  refine cs_seq ?_
  refine cs_region (l := [_]) ?_
  refine lv (.int .i64 (2 : Int)) ?_
  refine ls_end ?_
  refine qn_then ?_
  refine cs_ret' ?_
  refine qr_block ?_
  refine qr_then ?_
  obtain rfl := Option.some.inj H
  refine qr_res (rs := [_]) rfl (fun w' hs => ⟨[.int .i64 (2 : Int)], (res_tmp (by kernel_rfl) (.nil)), (), rfl, hs.pick (ts := [0, 1]) (cs := [Ck.var 42 pg0 (([Value.slice (some ⟨gl0_0, 0, none⟩) n0_0 c0_0] ++ ([Value.map (some r0_1)] ++ ([Value.bool v0.2.2.1] ++ ([Value.int .i64 v0.2.2.2.1] ++ [Value.bool v0.2.2.2.2]))))), Ck.mr T56 r0_1 gl0_0 c0_0 n0_0 w0_1]) ⟨by exact rfl, by exact rfl, trivial⟩ (by decide)⟩)

/-! ### (*shadowbox/disk.Disk).spend: function 22 -/
def disk_Disk_spend.f (k : Nat) (v0 : (Unit × Unit × Bool × Int × Bool)) (w0_1 : (List (Int × (Vc Int 512)) × List (Vc Int 512))) : Option (Int × (Unit × Unit × Bool × Int × Bool)) :=
  (if v0.2.2.2.2 = true then some ((17 : Int), ((), (), v0.2.2.1, v0.2.2.2.1, true)) else (if v0.2.2.1 = true then (if decide (v0.2.2.2.1 = (0 : Int)) = true then some ((17 : Int), ((), (), v0.2.2.1, v0.2.2.2.1, decide (v0.2.2.2.1 = (0 : Int)))) else lt (IntKind.wrap .i64 (v0.2.2.2.1 - (1 : Int))) fun y4 => some ((0 : Int), ((), (), v0.2.2.1, y4, decide (v0.2.2.2.1 = (0 : Int))))) else some ((0 : Int), ((), (), v0.2.2.1, v0.2.2.2.1, false))))
set_option maxRecDepth 100000 in
set_option maxHeartbeats 4000000 in
theorem disk_Disk_spend.calls (k : Nat) (pg0 : Nat) (gl0_0 : Nat) (n0_0 : Nat) (c0_0 : Nat) (r0_1 : Nat) (v0 : (Unit × Unit × Bool × Int × Bool)) (w0_1 : (List (Int × (Vc Int 512)) × List (Vc Int 512))) (r : Int × (Unit × Unit × Bool × Int × Bool)) (b : Bs) (hs0 : St b (stl [Ck.var 42 pg0 (([Value.slice (some ⟨gl0_0, 0, none⟩) n0_0 c0_0] ++ ([Value.map (some r0_1)] ++ ([Value.bool v0.2.2.1] ++ ([Value.int .i64 v0.2.2.2.1] ++ [Value.bool v0.2.2.2.2]))))), Ck.mr T56 r0_1 gl0_0 c0_0 n0_0 w0_1]) b.w) (H : disk_Disk_spend.f k v0 w0_1 = some r) :
    Calls Try.prog 22 #[.pointer (some ⟨pg0, 0, none⟩)] b.w fun e w' => ∃ x : Unit, e = .returned (.int .i64 r.1) ∧ St b (stl [Ck.var 42 pg0 (([Value.slice (some ⟨gl0_0, 0, none⟩) n0_0 c0_0] ++ ([Value.map (some r0_1)] ++ ([Value.bool r.2.2.2.1] ++ ([Value.int .i64 r.2.2.2.2.1] ++ [Value.bool r.2.2.2.2.2]))))), Ck.mr T56 r0_1 gl0_0 c0_0 n0_0 w0_1]) w' := by
  unfold disk_Disk_spend.f at H
  refine enterb (n := 38) Try.func22 rfl (by kernel_rfl) (by kernel_rfl) hs0 ?_
  refine cs_sub (sput (sput s0 0 (some (Ck.var 42 pg0 (([Value.slice (some ⟨gl0_0, 0, none⟩) n0_0 c0_0] ++ ([Value.map (some r0_1)] ++ ([Value.bool v0.2.2.1] ++ ([Value.int .i64 v0.2.2.2.1] ++ [Value.bool v0.2.2.2.2])))))))) 1 (some (Ck.mr T56 r0_1 gl0_0 c0_0 n0_0 w0_1))) (sub_put (by exact rfl) (sub_put (by exact rfl) (sub_nil _))) ?_
  refine cs_seq ?_
  refine cs_region (l := [_]) ?_
  refine lv (.int .i64 (0 : Int)) ?_
  refine ls_end ?_
  refine qn_then ?_
  refine cs_seq ?_
  refine cs_region (l := [_, _, _, _, _, _, _, _, _, _, _, _, _, _, _, _, _, _, _, _, _]) ?_
  refine lv (.pointer (some ⟨pg0, 0, none⟩)) ?_
  refine lv (.pointer (some ⟨pg0, 0, none⟩)) ?_
  refine lv (.pointer (some ⟨pg0, 0, none⟩)) ?_
  refine lv (.pointer (some ⟨pg0, (0 + 4), none⟩)) ?_
  refine ls_load (a0 := ⟨pg0, (0 + 4), none⟩) (v := .bool v0.2.2.2.2) (de := TypeDesc.bool) rfl rfl (by kernel_rfl) rfl (by kernel_rfl) (by kernel_rfl) (by kernel_rfl) (fun w hs => (hs.var (k := 0) (by exact rfl) (Sub4.trans (Sub4.all _) (Sub4.skip (n := 1) (len1 _) (Sub4.skip (n := 1) (len1 _) (Sub4.skip (n := 1) (len1 _) (Sub4.skip (n := 1) (len1 _) (Sub4.all _)))))))) ?_
  refine lv (.bool v0.2.2.2.2) ?_
  by_cases q1 : v0.2.2.2.2 = true
  · replace H := ite_t q1 H
    refine ls_know (c := true) (q1) 8 (by kernel_rfl) ?_
    refine lofx 5 8 false true ?_
    refine lofx 5 8 false true ?_
    refine lofx 5 8 false true ?_
    refine lofx 5 8 false true ?_
    refine lofx 5 8 false true ?_
    refine ls_offu (j := 10) (t := 13) (b := true) rfl rfl (by kernel_rfl) (by kernel_rfl) rfl (by kernel_rfl) ?_
    refine ls_offu (j := 10) (t := 13) (b := true) rfl rfl (by kernel_rfl) (by kernel_rfl) rfl (by kernel_rfl) ?_
    refine ls_offu (j := 10) (t := 13) (b := true) rfl rfl (by kernel_rfl) (by kernel_rfl) rfl (by kernel_rfl) ?_
    refine ls_offu (j := 10) (t := 13) (b := true) rfl rfl (by kernel_rfl) (by kernel_rfl) rfl (by kernel_rfl) ?_
    refine ls_offu (j := 10) (t := 13) (b := true) rfl rfl (by kernel_rfl) (by kernel_rfl) rfl (by kernel_rfl) ?_
    refine lofx 5 8 false true ?_
    refine lv (.bool true) ?_
    refine lv (.pointer (some ⟨pg0, 0, none⟩)) ?_
    refine lv (.pointer (some ⟨pg0, (0 + 4), none⟩)) ?_
    refine ls_storec (g := pg0) (off := (0 + 4)) (v := .bool true) (vs := [Value.bool true]) (cs := ([Value.slice (some ⟨gl0_0, 0, none⟩) n0_0 c0_0] ++ ([Value.map (some r0_1)] ++ ([Value.bool v0.2.2.1] ++ ([Value.int .i64 v0.2.2.2.1] ++ [Value.bool v0.2.2.2.2]))))) (ty := 42) 0 rfl rfl rfl (by kernel_rfl) (by kernel_rfl) (by kernel_rfl) (by exact rfl) (by kernel_rfl) (len1 _) (one_cons rfl one_nil) (hl_of (Sub4.trans (Sub4.all _) (Sub4.skip (n := 1) (len1 _) (Sub4.skip (n := 1) (len1 _) (Sub4.skip (n := 1) (len1 _) (Sub4.skip (n := 1) (len1 _) (Sub4.all _)))))) (len_eq (len1 _) (len1 _))) (cs' := ([Value.slice (some ⟨gl0_0, 0, none⟩) n0_0 c0_0] ++ ([Value.map (some r0_1)] ++ ([Value.bool v0.2.2.1] ++ ([Value.int .i64 v0.2.2.2.1] ++ [Value.bool true]))))) (splc_in (Sub4.all _) (splc_skip (n := 1) (len1 _) (splc_skip (n := 1) (len1 _) (splc_skip (n := 1) (len1 _) (splc_skip (n := 1) (len1 _) (splc_all (len_eq (len1 _) (len1 _))))))) (splc_all (len_eq (len_app (len1 _) (len_app (len1 _) (len_app (len1 _) (len_app (len1 _) (len1 _))))) (len_app (len1 _) (len_app (len1 _) (len_app (len1 _) (len_app (len1 _) (len1 _))))))) (hl_of (Sub4.skip (n := 1) (len1 _) (Sub4.skip (n := 1) (len1 _) (Sub4.skip (n := 1) (len1 _) (Sub4.skip (n := 1) (len1 _) (Sub4.all _))))) (len_eq (len1 _) (len1 _)))) ?_
    refine ls_end ?_
    refine qn_then ?_
    refine cs_seq ?_
    refine cs_seq ?_
    refine cs_region (l := [_, _, _, _]) ?_
    refine lv (.pointer (some ⟨pg0, 0, none⟩)) ?_
    refine lv (.pointer (some ⟨pg0, 0, none⟩)) ?_
    refine lv (.pointer (some ⟨pg0, (0 + 4), none⟩)) ?_
    refine ls_load (a0 := ⟨pg0, (0 + 4), none⟩) (v := .bool true) (de := TypeDesc.bool) rfl rfl (by kernel_rfl) rfl (by kernel_rfl) (by kernel_rfl) (by kernel_rfl) (fun w hs => (hs.var (k := 0) (by exact rfl) (Sub4.trans (Sub4.all _) (Sub4.skip (n := 1) (len1 _) (Sub4.skip (n := 1) (len1 _) (Sub4.skip (n := 1) (len1 _) (Sub4.skip (n := 1) (len1 _) (Sub4.all _)))))))) ?_
    refine ls_end ?_
    refine qn_then ?_
    refine cs_true (by kernel_rfl) ?_
    refine cs_seq ?_
    refine cs_region (l := [_]) ?_
    refine lv (.int .i64 (17 : Int)) ?_
    refine ls_end ?_
    refine qn_then ?_
    refine cs_ret' ?_
    refine qr_then ?_
    obtain rfl := Option.some.inj H
    refine qr_res (rs := [_]) rfl (fun w' hs => ⟨[.int .i64 (17 : Int)], (res_tmp (by kernel_rfl) (.nil)), (), rfl, hs.pick (ts := [0, 1]) (cs := [Ck.var 42 pg0 (([Value.slice (some ⟨gl0_0, 0, none⟩) n0_0 c0_0] ++ ([Value.map (some r0_1)] ++ ([Value.bool v0.2.2.1] ++ ([Value.int .i64 v0.2.2.2.1] ++ [Value.bool true]))))), Ck.mr T56 r0_1 gl0_0 c0_0 n0_0 w0_1]) ⟨by exact rfl, by exact rfl, trivial⟩ (by decide)⟩)
  replace H := ite_f q1 H
  refine ls_know (c := false) (Bool.eq_false_iff.mpr q1) 8 (by kernel_rfl) ?_
  refine ls_on (j := 5) (t := 8) (b := false) rfl rfl (by kernel_rfl) (by kernel_rfl) ?_
  refine lv (.pointer (some ⟨pg0, 0, none⟩)) ?_
  refine ls_on (j := 5) (t := 8) (b := false) rfl rfl (by kernel_rfl) (by kernel_rfl) ?_
  refine lv (.pointer (some ⟨pg0, 0, none⟩)) ?_
  refine ls_on (j := 5) (t := 8) (b := false) rfl rfl (by kernel_rfl) (by kernel_rfl) ?_
  refine lv (.pointer (some ⟨pg0, (0 + 2), none⟩)) ?_
  refine ls_on (j := 5) (t := 8) (b := false) rfl rfl (by kernel_rfl) (by kernel_rfl) ?_
  refine ls_load (a0 := ⟨pg0, (0 + 2), none⟩) (v := .bool v0.2.2.1) (de := TypeDesc.bool) rfl rfl (by kernel_rfl) rfl (by kernel_rfl) (by kernel_rfl) (by kernel_rfl) (fun w hs => (hs.var (k := 0) (by exact rfl) (Sub4.trans (Sub4.all _) (Sub4.skip (n := 1) (len1 _) (Sub4.skip (n := 1) (len1 _) (Sub4.head _ _)))))) ?_
  refine ls_on (j := 5) (t := 8) (b := false) rfl rfl (by kernel_rfl) (by kernel_rfl) ?_
  refine lv (.bool v0.2.2.1) ?_
  by_cases q2 : v0.2.2.1 = true
  · replace H := ite_t q2 H
    refine ls_know (c := true) (q2) 13 (by kernel_rfl) ?_
    refine ls_on (j := 10) (t := 13) (b := true) rfl rfl (by kernel_rfl) (by kernel_rfl) ?_
    refine lv (.pointer (some ⟨pg0, 0, none⟩)) ?_
    refine ls_on (j := 10) (t := 13) (b := true) rfl rfl (by kernel_rfl) (by kernel_rfl) ?_
    refine lv (.pointer (some ⟨pg0, 0, none⟩)) ?_
    refine ls_on (j := 10) (t := 13) (b := true) rfl rfl (by kernel_rfl) (by kernel_rfl) ?_
    refine lv (.pointer (some ⟨pg0, (0 + 3), none⟩)) ?_
    refine ls_on (j := 10) (t := 13) (b := true) rfl rfl (by kernel_rfl) (by kernel_rfl) ?_
    refine ls_load (a0 := ⟨pg0, (0 + 3), none⟩) (v := .int .i64 v0.2.2.2.1) (de := (TypeDesc.int .i64)) rfl rfl (by kernel_rfl) rfl (by kernel_rfl) (by kernel_rfl) (by kernel_rfl) (fun w hs => (hs.var (k := 0) (by exact rfl) (Sub4.trans (Sub4.all _) (Sub4.skip (n := 1) (len1 _) (Sub4.skip (n := 1) (len1 _) (Sub4.skip (n := 1) (len1 _) (Sub4.head _ _))))))) ?_
    refine ls_on (j := 10) (t := 13) (b := true) rfl rfl (by kernel_rfl) (by kernel_rfl) ?_
    refine lv (.bool (decide (v0.2.2.2.1 = (0 : Int)))) ?_
    refine ls_on (j := 5) (t := 8) (b := false) rfl rfl (by kernel_rfl) (by kernel_rfl) ?_
    refine lv (.bool (decide (v0.2.2.2.1 = (0 : Int)))) ?_
    refine lv (.bool (decide (v0.2.2.2.1 = (0 : Int)))) ?_
    refine lv (.pointer (some ⟨pg0, 0, none⟩)) ?_
    refine lv (.pointer (some ⟨pg0, (0 + 4), none⟩)) ?_
    refine ls_storec (g := pg0) (off := (0 + 4)) (v := .bool (decide (v0.2.2.2.1 = (0 : Int)))) (vs := [Value.bool (decide (v0.2.2.2.1 = (0 : Int)))]) (cs := ([Value.slice (some ⟨gl0_0, 0, none⟩) n0_0 c0_0] ++ ([Value.map (some r0_1)] ++ ([Value.bool v0.2.2.1] ++ ([Value.int .i64 v0.2.2.2.1] ++ [Value.bool v0.2.2.2.2]))))) (ty := 42) 0 rfl rfl rfl (by kernel_rfl) (by kernel_rfl) (by kernel_rfl) (by exact rfl) (by kernel_rfl) (len1 _) (one_cons rfl one_nil) (hl_of (Sub4.trans (Sub4.all _) (Sub4.skip (n := 1) (len1 _) (Sub4.skip (n := 1) (len1 _) (Sub4.skip (n := 1) (len1 _) (Sub4.skip (n := 1) (len1 _) (Sub4.all _)))))) (len_eq (len1 _) (len1 _))) (cs' := ([Value.slice (some ⟨gl0_0, 0, none⟩) n0_0 c0_0] ++ ([Value.map (some r0_1)] ++ ([Value.bool v0.2.2.1] ++ ([Value.int .i64 v0.2.2.2.1] ++ [Value.bool (decide (v0.2.2.2.1 = (0 : Int)))]))))) (splc_in (Sub4.all _) (splc_skip (n := 1) (len1 _) (splc_skip (n := 1) (len1 _) (splc_skip (n := 1) (len1 _) (splc_skip (n := 1) (len1 _) (splc_all (len_eq (len1 _) (len1 _))))))) (splc_all (len_eq (len_app (len1 _) (len_app (len1 _) (len_app (len1 _) (len_app (len1 _) (len1 _))))) (len_app (len1 _) (len_app (len1 _) (len_app (len1 _) (len_app (len1 _) (len1 _))))))) (hl_of (Sub4.skip (n := 1) (len1 _) (Sub4.skip (n := 1) (len1 _) (Sub4.skip (n := 1) (len1 _) (Sub4.skip (n := 1) (len1 _) (Sub4.all _))))) (len_eq (len1 _) (len1 _)))) ?_
    refine ls_end ?_
    refine qn_then ?_
    refine cs_seq ?_
    refine cs_seq ?_
    refine cs_region (l := [_, _, _, _]) ?_
    refine lv (.pointer (some ⟨pg0, 0, none⟩)) ?_
    refine lv (.pointer (some ⟨pg0, 0, none⟩)) ?_
    refine lv (.pointer (some ⟨pg0, (0 + 4), none⟩)) ?_
    refine ls_load (a0 := ⟨pg0, (0 + 4), none⟩) (v := .bool (decide (v0.2.2.2.1 = (0 : Int)))) (de := TypeDesc.bool) rfl rfl (by kernel_rfl) rfl (by kernel_rfl) (by kernel_rfl) (by kernel_rfl) (fun w hs => (hs.var (k := 0) (by exact rfl) (Sub4.trans (Sub4.all _) (Sub4.skip (n := 1) (len1 _) (Sub4.skip (n := 1) (len1 _) (Sub4.skip (n := 1) (len1 _) (Sub4.skip (n := 1) (len1 _) (Sub4.all _)))))))) ?_
    refine ls_end ?_
    refine qn_then ?_
    by_cases q3 : decide (v0.2.2.2.1 = (0 : Int)) = true
    · replace H := ite_t q3 H
      refine cs_know (c := true) (q3) 26 (by kernel_rfl) ?_
      refine cs_true (by kernel_rfl) ?_
      refine cs_seq ?_
      refine cs_region (l := [_]) ?_
      refine lv (.int .i64 (17 : Int)) ?_
      refine ls_end ?_
      refine qn_then ?_
      refine cs_ret' ?_
      refine qr_then ?_
      obtain rfl := Option.some.inj H
      refine qr_res (rs := [_]) rfl (fun w' hs => ⟨[.int .i64 (17 : Int)], (res_tmp (by kernel_rfl) (.nil)), (), rfl, hs.pick (ts := [0, 1]) (cs := [Ck.var 42 pg0 (([Value.slice (some ⟨gl0_0, 0, none⟩) n0_0 c0_0] ++ ([Value.map (some r0_1)] ++ ([Value.bool v0.2.2.1] ++ ([Value.int .i64 v0.2.2.2.1] ++ [Value.bool (decide (v0.2.2.2.1 = (0 : Int)))]))))), Ck.mr T56 r0_1 gl0_0 c0_0 n0_0 w0_1]) ⟨by exact rfl, by exact rfl, trivial⟩ (by decide)⟩)
    replace H := ite_f q3 H
    refine cs_know (c := false) (Bool.eq_false_iff.mpr q3) 26 (by kernel_rfl) ?_
    refine cs_false (by kernel_rfl) ?_
    refine cs_skip' ?_
    refine qn_then ?_
    refine cs_seq ?_
    refine cs_seq ?_
    refine cs_region (l := [_, _, _, _]) ?_
    refine lv (.pointer (some ⟨pg0, 0, none⟩)) ?_
    refine lv (.pointer (some ⟨pg0, 0, none⟩)) ?_
    refine lv (.pointer (some ⟨pg0, (0 + 2), none⟩)) ?_
    refine ls_load (a0 := ⟨pg0, (0 + 2), none⟩) (v := .bool v0.2.2.1) (de := TypeDesc.bool) rfl rfl (by kernel_rfl) rfl (by kernel_rfl) (by kernel_rfl) (by kernel_rfl) (fun w hs => (hs.var (k := 0) (by exact rfl) (Sub4.trans (Sub4.all _) (Sub4.skip (n := 1) (len1 _) (Sub4.skip (n := 1) (len1 _) (Sub4.head _ _)))))) ?_
    refine ls_end ?_
    refine qn_then ?_
    refine cs_know (c := true) (q2) 30 (by kernel_rfl) ?_
    refine cs_true (by kernel_rfl) ?_
    refine cs_region (l := [_, _, _, _, _, _, _, _]) ?_
    refine lv (.pointer (some ⟨pg0, 0, none⟩)) ?_
    refine lv (.pointer (some ⟨pg0, 0, none⟩)) ?_
    refine lv (.pointer (some ⟨pg0, (0 + 3), none⟩)) ?_
    refine ls_load (a0 := ⟨pg0, (0 + 3), none⟩) (v := .int .i64 v0.2.2.2.1) (de := (TypeDesc.int .i64)) rfl rfl (by kernel_rfl) rfl (by kernel_rfl) (by kernel_rfl) (by kernel_rfl) (fun w hs => (hs.var (k := 0) (by exact rfl) (Sub4.trans (Sub4.all _) (Sub4.skip (n := 1) (len1 _) (Sub4.skip (n := 1) (len1 _) (Sub4.skip (n := 1) (len1 _) (Sub4.head _ _))))))) ?_
    obtain ⟨y4, hy5, H⟩ := lt_some H
    refine lv (.int .i64 (IntKind.wrap .i64 (v0.2.2.2.1 - (1 : Int)))) ?_
    refine ls_ren 35 (v := .int .i64 (IntKind.wrap .i64 (v0.2.2.2.1 - (1 : Int)))) (v' := .int .i64 y4) (by kernel_rfl) (by rw [hy5]) ?_
    refine lv (.pointer (some ⟨pg0, 0, none⟩)) ?_
    refine lv (.pointer (some ⟨pg0, (0 + 3), none⟩)) ?_
    refine ls_storec (g := pg0) (off := (0 + 3)) (v := .int .i64 y4) (vs := [Value.int .i64 y4]) (cs := ([Value.slice (some ⟨gl0_0, 0, none⟩) n0_0 c0_0] ++ ([Value.map (some r0_1)] ++ ([Value.bool v0.2.2.1] ++ ([Value.int .i64 v0.2.2.2.1] ++ [Value.bool (decide (v0.2.2.2.1 = (0 : Int)))]))))) (ty := 42) 0 rfl rfl rfl (by kernel_rfl) (by kernel_rfl) (by kernel_rfl) (by exact rfl) (by kernel_rfl) (len1 _) (one_cons rfl one_nil) (hl_of (Sub4.trans (Sub4.all _) (Sub4.skip (n := 1) (len1 _) (Sub4.skip (n := 1) (len1 _) (Sub4.skip (n := 1) (len1 _) (Sub4.head _ _))))) (len_eq (len1 _) (len1 _))) (cs' := ([Value.slice (some ⟨gl0_0, 0, none⟩) n0_0 c0_0] ++ ([Value.map (some r0_1)] ++ ([Value.bool v0.2.2.1] ++ ([Value.int .i64 y4] ++ [Value.bool (decide (v0.2.2.2.1 = (0 : Int)))]))))) (splc_in (Sub4.all _) (splc_skip (n := 1) (len1 _) (splc_skip (n := 1) (len1 _) (splc_skip (n := 1) (len1 _) (splc_head (len_eq (len1 _) (len1 _)))))) (splc_all (len_eq (len_app (len1 _) (len_app (len1 _) (len_app (len1 _) (len_app (len1 _) (len1 _))))) (len_app (len1 _) (len_app (len1 _) (len_app (len1 _) (len_app (len1 _) (len1 _))))))) (hl_of (Sub4.skip (n := 1) (len1 _) (Sub4.skip (n := 1) (len1 _) (Sub4.skip (n := 1) (len1 _) (Sub4.head _ _)))) (len_eq (len1 _) (len1 _)))) ?_
    refine ls_end ?_
    refine qn_then ?_
    refine cs_seq ?_
    refine cs_region (l := [_]) ?_
    refine lv (.int .i64 (0 : Int)) ?_
    refine ls_end ?_
    refine qn_then ?_
    refine cs_ret' ?_
    obtain rfl := Option.some.inj H
    refine qr_res (rs := [_]) rfl (fun w' hs => ⟨[.int .i64 (0 : Int)], (res_tmp (by kernel_rfl) (.nil)), (), rfl, hs.pick (ts := [0, 1]) (cs := [Ck.var 42 pg0 (([Value.slice (some ⟨gl0_0, 0, none⟩) n0_0 c0_0] ++ ([Value.map (some r0_1)] ++ ([Value.bool v0.2.2.1] ++ ([Value.int .i64 y4] ++ [Value.bool (decide (v0.2.2.2.1 = (0 : Int)))]))))), Ck.mr T56 r0_1 gl0_0 c0_0 n0_0 w0_1]) ⟨by exact rfl, by exact rfl, trivial⟩ (by decide)⟩)
  replace H := ite_f q2 H
  refine ls_know (c := false) (Bool.eq_false_iff.mpr q2) 13 (by kernel_rfl) ?_
  refine lofx 10 13 true false ?_
  refine lofx 10 13 true false ?_
  refine lofx 10 13 true false ?_
  refine lofx 10 13 true false ?_
  refine lofx 10 13 true false ?_
  refine ls_on (j := 5) (t := 8) (b := false) rfl rfl (by kernel_rfl) (by kernel_rfl) ?_
  refine lv (.bool false) ?_
  refine lv (.bool false) ?_
  refine lv (.pointer (some ⟨pg0, 0, none⟩)) ?_
  refine lv (.pointer (some ⟨pg0, (0 + 4), none⟩)) ?_
  refine ls_storec (g := pg0) (off := (0 + 4)) (v := .bool false) (vs := [Value.bool false]) (cs := ([Value.slice (some ⟨gl0_0, 0, none⟩) n0_0 c0_0] ++ ([Value.map (some r0_1)] ++ ([Value.bool v0.2.2.1] ++ ([Value.int .i64 v0.2.2.2.1] ++ [Value.bool v0.2.2.2.2]))))) (ty := 42) 0 rfl rfl rfl (by kernel_rfl) (by kernel_rfl) (by kernel_rfl) (by exact rfl) (by kernel_rfl) (len1 _) (one_cons rfl one_nil) (hl_of (Sub4.trans (Sub4.all _) (Sub4.skip (n := 1) (len1 _) (Sub4.skip (n := 1) (len1 _) (Sub4.skip (n := 1) (len1 _) (Sub4.skip (n := 1) (len1 _) (Sub4.all _)))))) (len_eq (len1 _) (len1 _))) (cs' := ([Value.slice (some ⟨gl0_0, 0, none⟩) n0_0 c0_0] ++ ([Value.map (some r0_1)] ++ ([Value.bool v0.2.2.1] ++ ([Value.int .i64 v0.2.2.2.1] ++ [Value.bool false]))))) (splc_in (Sub4.all _) (splc_skip (n := 1) (len1 _) (splc_skip (n := 1) (len1 _) (splc_skip (n := 1) (len1 _) (splc_skip (n := 1) (len1 _) (splc_all (len_eq (len1 _) (len1 _))))))) (splc_all (len_eq (len_app (len1 _) (len_app (len1 _) (len_app (len1 _) (len_app (len1 _) (len1 _))))) (len_app (len1 _) (len_app (len1 _) (len_app (len1 _) (len_app (len1 _) (len1 _))))))) (hl_of (Sub4.skip (n := 1) (len1 _) (Sub4.skip (n := 1) (len1 _) (Sub4.skip (n := 1) (len1 _) (Sub4.skip (n := 1) (len1 _) (Sub4.all _))))) (len_eq (len1 _) (len1 _)))) ?_
  refine ls_end ?_
  refine qn_then ?_
  refine cs_seq ?_
  refine cs_seq ?_
  refine cs_region (l := [_, _, _, _]) ?_
  refine lv (.pointer (some ⟨pg0, 0, none⟩)) ?_
  refine lv (.pointer (some ⟨pg0, 0, none⟩)) ?_
  refine lv (.pointer (some ⟨pg0, (0 + 4), none⟩)) ?_
  refine ls_load (a0 := ⟨pg0, (0 + 4), none⟩) (v := .bool false) (de := TypeDesc.bool) rfl rfl (by kernel_rfl) rfl (by kernel_rfl) (by kernel_rfl) (by kernel_rfl) (fun w hs => (hs.var (k := 0) (by exact rfl) (Sub4.trans (Sub4.all _) (Sub4.skip (n := 1) (len1 _) (Sub4.skip (n := 1) (len1 _) (Sub4.skip (n := 1) (len1 _) (Sub4.skip (n := 1) (len1 _) (Sub4.all _)))))))) ?_
  refine ls_end ?_
  refine qn_then ?_
  refine cs_false (by kernel_rfl) ?_
  refine cs_skip' ?_
  refine qn_then ?_
  refine cs_seq ?_
  refine cs_seq ?_
  refine cs_region (l := [_, _, _, _]) ?_
  refine lv (.pointer (some ⟨pg0, 0, none⟩)) ?_
  refine lv (.pointer (some ⟨pg0, 0, none⟩)) ?_
  refine lv (.pointer (some ⟨pg0, (0 + 2), none⟩)) ?_
  refine ls_load (a0 := ⟨pg0, (0 + 2), none⟩) (v := .bool v0.2.2.1) (de := TypeDesc.bool) rfl rfl (by kernel_rfl) rfl (by kernel_rfl) (by kernel_rfl) (by kernel_rfl) (fun w hs => (hs.var (k := 0) (by exact rfl) (Sub4.trans (Sub4.all _) (Sub4.skip (n := 1) (len1 _) (Sub4.skip (n := 1) (len1 _) (Sub4.head _ _)))))) ?_
  refine ls_end ?_
  refine qn_then ?_
  refine cs_know (c := false) (Bool.eq_false_iff.mpr q2) 30 (by kernel_rfl) ?_
  refine cs_false (by kernel_rfl) ?_
  refine cs_skip' ?_
  refine qn_then ?_
  refine cs_seq ?_
  refine cs_region (l := [_]) ?_
  refine lv (.int .i64 (0 : Int)) ?_
  refine ls_end ?_
  refine qn_then ?_
  refine cs_ret' ?_
  obtain rfl := Option.some.inj H
  refine qr_res (rs := [_]) rfl (fun w' hs => ⟨[.int .i64 (0 : Int)], (res_tmp (by kernel_rfl) (.nil)), (), rfl, hs.pick (ts := [0, 1]) (cs := [Ck.var 42 pg0 (([Value.slice (some ⟨gl0_0, 0, none⟩) n0_0 c0_0] ++ ([Value.map (some r0_1)] ++ ([Value.bool v0.2.2.1] ++ ([Value.int .i64 v0.2.2.2.1] ++ [Value.bool false]))))), Ck.mr T56 r0_1 gl0_0 c0_0 n0_0 w0_1]) ⟨by exact rfl, by exact rfl, trivial⟩ (by decide)⟩)

/-! ### (*shadowbox/disk.Disk).check: function 28 -/
def disk_Disk_check.f (k : Nat) (v0 : (Unit × Unit × Bool × Int × Bool)) (w0_1 : (List (Int × (Vc Int 512)) × List (Vc Int 512))) (a1 : Int) : Option (Int) :=
  (if a1 < (0 : Int) then some (2 : Int) else (if a1 ≥ (w0_1.2.length : Int) then some (2 : Int) else some (0 : Int)))
set_option maxRecDepth 100000 in
set_option maxHeartbeats 4000000 in
theorem disk_Disk_check.calls (k : Nat) (pg0 : Nat) (gl0_0 : Nat) (n0_0 : Nat) (c0_0 : Nat) (r0_1 : Nat) (v0 : (Unit × Unit × Bool × Int × Bool)) (w0_1 : (List (Int × (Vc Int 512)) × List (Vc Int 512))) (a1 : Int) (r : Int) (b : Bs) (hs0 : St b (stl [Ck.var 42 pg0 (([Value.slice (some ⟨gl0_0, 0, none⟩) n0_0 c0_0] ++ ([Value.map (some r0_1)] ++ ([Value.bool v0.2.2.1] ++ ([Value.int .i64 v0.2.2.2.1] ++ [Value.bool v0.2.2.2.2]))))), Ck.mr T56 r0_1 gl0_0 c0_0 n0_0 w0_1]) b.w) (H : disk_Disk_check.f k v0 w0_1 a1 = some r) :
    Calls Try.prog 28 #[.pointer (some ⟨pg0, 0, none⟩), .int .i64 a1] b.w fun e w' => ∃ x : Unit, e = .returned (.int .i64 r) ∧ St b (stl [Ck.var 42 pg0 (([Value.slice (some ⟨gl0_0, 0, none⟩) n0_0 c0_0] ++ ([Value.map (some r0_1)] ++ ([Value.bool v0.2.2.1] ++ ([Value.int .i64 v0.2.2.2.1] ++ [Value.bool v0.2.2.2.2]))))), Ck.mr T56 r0_1 gl0_0 c0_0 n0_0 w0_1]) w' := by
  unfold disk_Disk_check.f at H
  refine enterb (n := 20) Try.func28 rfl (by kernel_rfl) (by kernel_rfl) hs0 ?_
  refine cs_sub (sput (sput s0 0 (some (Ck.var 42 pg0 (([Value.slice (some ⟨gl0_0, 0, none⟩) n0_0 c0_0] ++ ([Value.map (some r0_1)] ++ ([Value.bool v0.2.2.1] ++ ([Value.int .i64 v0.2.2.2.1] ++ [Value.bool v0.2.2.2.2])))))))) 1 (some (Ck.mr T56 r0_1 gl0_0 c0_0 n0_0 w0_1))) (sub_put (by exact rfl) (sub_put (by exact rfl) (sub_nil _))) ?_
  refine cs_seq ?_
  refine cs_region (l := [_]) ?_
  refine lv (.int .i64 (0 : Int)) ?_
  refine ls_end ?_
  refine qn_then ?_
  refine cs_seq ?_
  refine cs_block ?_
  refine cs_seq ?_
  refine cs_region (l := [_, _, _]) ?_
  refine lv (.pointer (some ⟨pg0, 0, none⟩)) ?_
  have hc2 : disk_Disk_none.f k ((), (), v0.2.2.1, v0.2.2.2.1, v0.2.2.2.2) w0_1 = some false := rfl
  refine ls_callb (fid := 21) (vals := #[.pointer (some ⟨pg0, 0, none⟩)]) (X := Unit) (fun x => .bool false) (fun x => stl [Ck.var 42 pg0 (([Value.slice (some ⟨gl0_0, 0, none⟩) n0_0 c0_0] ++ ([Value.map (some r0_1)] ++ ([Value.bool v0.2.2.1] ++ ([Value.int .i64 v0.2.2.2.1] ++ [Value.bool v0.2.2.2.2]))))), Ck.mr T56 r0_1 gl0_0 c0_0 n0_0 w0_1]) [0, 1] [] [Ck.var 42 pg0 (([Value.slice (some ⟨gl0_0, 0, none⟩) n0_0 c0_0] ++ ([Value.map (some r0_1)] ++ ([Value.bool v0.2.2.1] ++ ([Value.int .i64 v0.2.2.2.1] ++ [Value.bool v0.2.2.2.2]))))), Ck.mr T56 r0_1 gl0_0 c0_0 n0_0 w0_1] [] 2 rfl rfl (by kernel_rfl) (fun w => by kernel_rfl) ⟨by exact rfl, by exact rfl, trivial⟩ trivial (by decide) (fun w hs hb => disk_Disk_none.calls k pg0 gl0_0 n0_0 c0_0 r0_1 ((), (), v0.2.2.1, v0.2.2.2.1, v0.2.2.2.2) w0_1 false (lent b w [Ck.var 42 pg0 (([Value.slice (some ⟨gl0_0, 0, none⟩) n0_0 c0_0] ++ ([Value.map (some r0_1)] ++ ([Value.bool v0.2.2.1] ++ ([Value.int .i64 v0.2.2.2.1] ++ [Value.bool v0.2.2.2.2]))))), Ck.mr T56 r0_1 gl0_0 c0_0 n0_0 w0_1] []) hb  hc2) ?_
  intro x3
  refine lv (.bool false) ?_
  refine ls_end ?_
  refine qn_then ?_
  refine cs_false (by kernel_rfl) ?_
  refine cs_seq ?_
  refine cs_region (l := [_, _, _, _, _, _, _, _, _, _, _, _]) ?_
  refine lv (.int .i64 a1) ?_
  refine lv (.bool (decide (a1 < (0 : Int)))) ?_
  refine lv (.bool (decide (a1 < (0 : Int)))) ?_
  by_cases q4 : a1 < (0 : Int)
  · replace H := ite_t q4 H
    refine ls_know (c := true) (dec_t q4) 11 (by kernel_rfl) ?_
    refine lofx 2 11 false true ?_
    refine lofx 2 11 false true ?_
    refine lofx 2 11 false true ?_
    refine lofx 2 11 false true ?_
    refine lofx 2 11 false true ?_
    refine lofx 2 11 false true ?_
    refine lofx 2 11 false true ?_
    refine lv (.bool true) ?_
    refine lv (.bool true) ?_
    refine ls_end ?_
    refine qn_then ?_
    refine cs_true (by kernel_rfl) ?_
    refine cs_seq ?_
    refine cs_region (l := [_]) ?_
    refine lv (.int .i64 (2 : Int)) ?_
    refine ls_end ?_
    refine qn_then ?_
    refine cs_ret' ?_
    refine qr_block ?_
    refine qr_then ?_
    obtain rfl := Option.some.inj H
    refine qr_res (rs := [_]) rfl (fun w' hs => ⟨[.int .i64 (2 : Int)], (res_tmp (by kernel_rfl) (.nil)), (), rfl, hs.pick (ts := [0, 1]) (cs := [Ck.var 42 pg0 (([Value.slice (some ⟨gl0_0, 0, none⟩) n0_0 c0_0] ++ ([Value.map (some r0_1)] ++ ([Value.bool v0.2.2.1] ++ ([Value.int .i64 v0.2.2.2.1] ++ [Value.bool v0.2.2.2.2]))))), Ck.mr T56 r0_1 gl0_0 c0_0 n0_0 w0_1]) ⟨by exact rfl, by exact rfl, trivial⟩ (by decide)⟩)
  replace H := ite_f q4 H
  refine ls_know (c := false) (dec_f q4) 11 (by kernel_rfl) ?_
  refine ls_on (j := 2) (t := 11) (b := false) rfl rfl (by kernel_rfl) (by kernel_rfl) ?_
  refine lv (.int .i64 a1) ?_
  refine ls_on (j := 2) (t := 11) (b := false) rfl rfl (by kernel_rfl) (by kernel_rfl) ?_
  refine lv (.pointer (some ⟨pg0, 0, none⟩)) ?_
  refine ls_on (j := 2) (t := 11) (b := false) rfl rfl (by kernel_rfl) (by kernel_rfl) ?_
  refine lv (.pointer (some ⟨pg0, 0, none⟩)) ?_
  refine ls_on (j := 2) (t := 11) (b := false) rfl rfl (by kernel_rfl) (by kernel_rfl) ?_
  refine lv (.pointer (some ⟨pg0, (0 + 0), none⟩)) ?_
  refine ls_on (j := 2) (t := 11) (b := false) rfl rfl (by kernel_rfl) (by kernel_rfl) ?_
  refine ls_mrn 1 (by exact rfl) (fun hn5 => ?_)
  refine ls_load (a0 := ⟨pg0, (0 + 0), none⟩) (v := .slice (some ⟨gl0_0, 0, none⟩) n0_0 c0_0) (de := (TypeDesc.slice 56)) rfl rfl (by kernel_rfl) rfl (by kernel_rfl) (by kernel_rfl) (by kernel_rfl) (fun w hs => (hs.var (k := 0) (by exact rfl) (Sub4.trans (Sub4.all _) (Sub4.head _ _)))) ?_
  refine ls_ren 16 (v := .slice (some ⟨gl0_0, 0, none⟩) n0_0 c0_0) (v' := .slice (some ⟨gl0_0, 0, none⟩) w0_1.2.length c0_0) (by kernel_rfl) (by rw [hn5]) ?_
  refine ls_on (j := 2) (t := 11) (b := false) rfl rfl (by kernel_rfl) (by kernel_rfl) ?_
  refine lv (.int .i64 (w0_1.2.length : Int)) ?_
  refine ls_on (j := 2) (t := 11) (b := false) rfl rfl (by kernel_rfl) (by kernel_rfl) ?_
  refine lv (.bool (decide (a1 ≥ (w0_1.2.length : Int)))) ?_
  refine lv (.bool (decide (a1 ≥ (w0_1.2.length : Int)))) ?_
  refine lv (.bool (decide (a1 ≥ (w0_1.2.length : Int)))) ?_
  refine ls_end ?_
  refine qn_then ?_
  by_cases q6 : a1 ≥ (w0_1.2.length : Int)
  · replace H := ite_t q6 H
    refine cs_know (c := true) (dec_t q6) 8 (by kernel_rfl) ?_
    refine cs_true (by kernel_rfl) ?_
    refine cs_seq ?_
    refine cs_region (l := [_]) ?_
    refine lv (.int .i64 (2 : Int)) ?_
    refine ls_end ?_
    refine qn_then ?_
    refine cs_ret' ?_
    refine qr_block ?_
    refine qr_then ?_
    obtain rfl := Option.some.inj H
    refine qr_res (rs := [_]) rfl (fun w' hs => ⟨[.int .i64 (2 : Int)], (res_tmp (by kernel_rfl) (.nil)), (), rfl, hs.pick (ts := [0, 1]) (cs := [Ck.var 42 pg0 (([Value.slice (some ⟨gl0_0, 0, none⟩) n0_0 c0_0] ++ ([Value.map (some r0_1)] ++ ([Value.bool v0.2.2.1] ++ ([Value.int .i64 v0.2.2.2.1] ++ [Value.bool v0.2.2.2.2]))))), Ck.mr T56 r0_1 gl0_0 c0_0 n0_0 w0_1]) ⟨by exact rfl, by exact rfl, trivial⟩ (by decide)⟩)
  replace H := ite_f q6 H
  refine cs_know (c := false) (dec_f q6) 8 (by kernel_rfl) ?_
  refine cs_false (by kernel_rfl) ?_
  refine cs_skip' ?_
  refine qn_block ?_
  refine qn_then ?_
  refine cs_seq ?_
  refine cs_region (l := [_]) ?_
  refine lv (.int .i64 (0 : Int)) ?_
  refine ls_end ?_
  refine qn_then ?_
  refine cs_ret' ?_
  obtain rfl := Option.some.inj H
  refine qr_res (rs := [_]) rfl (fun w' hs => ⟨[.int .i64 (0 : Int)], (res_tmp (by kernel_rfl) (.nil)), (), rfl, hs.pick (ts := [0, 1]) (cs := [Ck.var 42 pg0 (([Value.slice (some ⟨gl0_0, 0, none⟩) n0_0 c0_0] ++ ([Value.map (some r0_1)] ++ ([Value.bool v0.2.2.1] ++ ([Value.int .i64 v0.2.2.2.1] ++ [Value.bool v0.2.2.2.2]))))), Ck.mr T56 r0_1 gl0_0 c0_0 n0_0 w0_1]) ⟨by exact rfl, by exact rfl, trivial⟩ (by decide)⟩)

/-! ### (*shadowbox/disk.Disk).Write: function 19 -/
def disk_Disk_Write.tab13 : List (List Nat) := [[], [0], [0, 1], [0, 1, 2], [], [], [0, 1, 2, 3, 4, 5]]
def disk_Disk_Write.tab22 : List (List Nat) := [[], [0], [0, 1], [0, 1, 2], [], [], [0, 1, 2, 3, 4, 5]]
def disk_Disk_Write.f (k : Nat) (v0 : (Unit × Unit × Bool × Int × Bool)) (w0_1 : (List (Int × (Vc Int 512)) × List (Vc Int 512))) (a1 : Int) (l2 : List Int) : Option (Int × (Unit × Unit × Bool × Int × Bool) × (List (Int × (Vc Int 512)) × List (Vc Int 512))) :=
  (disk_Disk_check.f k ((), (), v0.2.2.1, v0.2.2.2.1, v0.2.2.2.2) w0_1 a1).bind fun t1 => (if t1 = (0 : Int) then (if (l2.length : Int) > (512 : Int) then (if (3 : Int) = (0 : Int) then (disk_Disk_spend.f k ((), (), v0.2.2.1, v0.2.2.2.1, v0.2.2.2.2) w0_1).bind fun t7 => (if t7.1 = (0 : Int) then lt (vcopy (vrep 512 (0 : Int)) l2) fun y12 => some ((0 : Int), ((), (), t7.2.2.2.1, t7.2.2.2.2.1, t7.2.2.2.2.2), (mput a1 y12 w0_1.1, w0_1.2)) else some (t7.1, ((), (), t7.2.2.2.1, t7.2.2.2.2.1, t7.2.2.2.2.2), w0_1)) else some ((3 : Int), ((), (), v0.2.2.1, v0.2.2.2.1, v0.2.2.2.2), w0_1)) else (disk_Disk_spend.f k ((), (), v0.2.2.1, v0.2.2.2.1, v0.2.2.2.2) w0_1).bind fun t16 => (if t16.1 = (0 : Int) then lt (vcopy (vrep 512 (0 : Int)) l2) fun y21 => some ((0 : Int), ((), (), t16.2.2.2.1, t16.2.2.2.2.1, t16.2.2.2.2.2), (mput a1 y21 w0_1.1, w0_1.2)) else some (t16.1, ((), (), t16.2.2.2.1, t16.2.2.2.2.1, t16.2.2.2.2.2), w0_1))) else some (t1, ((), (), v0.2.2.1, v0.2.2.2.1, v0.2.2.2.2), w0_1))
set_option maxRecDepth 100000 in
set_option maxHeartbeats 4000000 in
theorem disk_Disk_Write.calls (k : Nat) (pg0 : Nat) (gl0_0 : Nat) (n0_0 : Nat) (c0_0 : Nat) (r0_1 : Nat) (v0 : (Unit × Unit × Bool × Int × Bool)) (w0_1 : (List (Int × (Vc Int 512)) × List (Vc Int 512))) (a1 : Int) (A2 : Option Addr) (c2 : Nat) (l2 : List Int) (r : Int × (Unit × Unit × Bool × Int × Bool) × (List (Int × (Vc Int 512)) × List (Vc Int 512))) (b : Bs) (hs0 : St b (stl [Ck.var 42 pg0 (([Value.slice (some ⟨gl0_0, 0, none⟩) n0_0 c0_0] ++ ([Value.map (some r0_1)] ++ ([Value.bool v0.2.2.1] ++ ([Value.int .i64 v0.2.2.2.1] ++ [Value.bool v0.2.2.2.2]))))), Ck.mr T56 r0_1 gl0_0 c0_0 n0_0 w0_1]) b.w) (R2 : Ro b A2 (em (Ec.int 5 .u8) l2)) (C2 : l2.length ≤ c2) (H : disk_Disk_Write.f k v0 w0_1 a1 l2 = some r) :
    Calls Try.prog 19 #[.pointer (some ⟨pg0, 0, none⟩), .int .i64 a1, .slice A2 l2.length c2] b.w fun e w' => ∃ x : Unit, e = .returned (.int .i64 r.1) ∧ St b (stl [Ck.var 42 pg0 (([Value.slice (some ⟨gl0_0, 0, none⟩) n0_0 c0_0] ++ ([Value.map (some r0_1)] ++ ([Value.bool r.2.1.2.2.1] ++ ([Value.int .i64 r.2.1.2.2.2.1] ++ [Value.bool r.2.1.2.2.2.2]))))), Ck.mr T56 r0_1 gl0_0 c0_0 n0_0 r.2.2]) w' := by
  unfold disk_Disk_Write.f at H
  refine enterb (n := 35) Try.func19 rfl (by kernel_rfl) (by kernel_rfl) hs0 ?_
  refine cs_sub (sput (sput s0 0 (some (Ck.var 42 pg0 (([Value.slice (some ⟨gl0_0, 0, none⟩) n0_0 c0_0] ++ ([Value.map (some r0_1)] ++ ([Value.bool v0.2.2.1] ++ ([Value.int .i64 v0.2.2.2.1] ++ [Value.bool v0.2.2.2.2])))))))) 1 (some (Ck.mr T56 r0_1 gl0_0 c0_0 n0_0 w0_1))) (sub_put (by exact rfl) (sub_put (by exact rfl) (sub_nil _))) ?_
  refine cs_seq ?_
  refine cs_region (l := [_]) ?_
  refine lv (.int .i64 (0 : Int)) ?_
  refine ls_end ?_
  refine qn_then ?_
  refine cs_seq ?_
  refine cs_region (l := [_, _, _, _]) ?_
  refine lv (.pointer (some ⟨pg0, 0, none⟩)) ?_
  refine lv (.int .i64 a1) ?_
  obtain ⟨t1, hc2, H⟩ := bind_some H
  refine ls_callb (fid := 28) (vals := #[.pointer (some ⟨pg0, 0, none⟩), .int .i64 a1]) (X := Unit) (fun x => .int .i64 t1) (fun x => stl [Ck.var 42 pg0 (([Value.slice (some ⟨gl0_0, 0, none⟩) n0_0 c0_0] ++ ([Value.map (some r0_1)] ++ ([Value.bool v0.2.2.1] ++ ([Value.int .i64 v0.2.2.2.1] ++ [Value.bool v0.2.2.2.2]))))), Ck.mr T56 r0_1 gl0_0 c0_0 n0_0 w0_1]) [0, 1] [] [Ck.var 42 pg0 (([Value.slice (some ⟨gl0_0, 0, none⟩) n0_0 c0_0] ++ ([Value.map (some r0_1)] ++ ([Value.bool v0.2.2.1] ++ ([Value.int .i64 v0.2.2.2.1] ++ [Value.bool v0.2.2.2.2]))))), Ck.mr T56 r0_1 gl0_0 c0_0 n0_0 w0_1] [] 2 rfl rfl (by kernel_rfl) (fun w => by kernel_rfl) ⟨by exact rfl, by exact rfl, trivial⟩ trivial (by decide) (fun w hs hb => disk_Disk_check.calls k pg0 gl0_0 n0_0 c0_0 r0_1 ((), (), v0.2.2.1, v0.2.2.2.1, v0.2.2.2.2) w0_1 a1 t1 (lent b w [Ck.var 42 pg0 (([Value.slice (some ⟨gl0_0, 0, none⟩) n0_0 c0_0] ++ ([Value.map (some r0_1)] ++ ([Value.bool v0.2.2.1] ++ ([Value.int .i64 v0.2.2.2.1] ++ [Value.bool v0.2.2.2.2]))))), Ck.mr T56 r0_1 gl0_0 c0_0 n0_0 w0_1] []) hb  hc2) ?_
  intro x3
  refine lv (.int .i64 t1) ?_
  refine ls_end ?_
  refine qn_then ?_
  refine cs_seq ?_
  refine cs_seq ?_
  refine cs_region (l := [_, _, _, _, _, _, _]) ?_
  refine lv (.int .i64 t1) ?_
  refine lv (.bool (decide (t1 = (0 : Int)))) ?_
  refine lv (.bool (decide (t1 = (0 : Int)))) ?_
  by_cases q4 : t1 = (0 : Int)
  · replace H := ite_t q4 H
    refine ls_know (c := true) (dec_t q4) 14 (by kernel_rfl) ?_
    refine ls_on (j := 2) (t := 14) (b := true) rfl rfl (by kernel_rfl) (by kernel_rfl) ?_
    refine lv (.slice A2 l2.length c2) ?_
    refine ls_on (j := 2) (t := 14) (b := true) rfl rfl (by kernel_rfl) (by kernel_rfl) ?_
    refine lv (.int .i64 (l2.length : Int)) ?_
    refine ls_on (j := 2) (t := 14) (b := true) rfl rfl (by kernel_rfl) (by kernel_rfl) ?_
    refine lv (.bool (decide ((l2.length : Int) > (512 : Int)))) ?_
    refine lv (.bool (decide ((l2.length : Int) > (512 : Int)))) ?_
    refine ls_end ?_
    refine qn_then ?_
    by_cases q5 : (l2.length : Int) > (512 : Int)
    · replace H := ite_t q5 H
      refine cs_know (c := true) (dec_t q5) 18 (by kernel_rfl) ?_
      refine cs_true (by kernel_rfl) ?_
      refine cs_region (l := [_]) ?_
      refine lv (.int .i64 (3 : Int)) ?_
      refine ls_end ?_
      refine qn_then ?_
      refine cs_seq ?_
      refine cs_seq ?_
      refine cs_region (l := [_, _]) ?_
      refine lv (.int .i64 (3 : Int)) ?_
      refine lv (.bool (decide ((3 : Int) = (0 : Int)))) ?_
      refine ls_end ?_
      refine qn_then ?_
      by_cases q6 : (3 : Int) = (0 : Int)
      · replace H := ite_t q6 H
        refine cs_know (c := true) (dec_t q6) 20 (by kernel_rfl) ?_
        refine cs_true (by kernel_rfl) ?_
        refine cs_region (l := [_, _, _]) ?_
        refine lv (.pointer (some ⟨pg0, 0, none⟩)) ?_
        obtain ⟨t7, hc8, H⟩ := bind_some H
        refine ls_callb (fid := 22) (vals := #[.pointer (some ⟨pg0, 0, none⟩)]) (X := Unit) (fun x => .int .i64 t7.1) (fun x => stl [Ck.var 42 pg0 (([Value.slice (some ⟨gl0_0, 0, none⟩) n0_0 c0_0] ++ ([Value.map (some r0_1)] ++ ([Value.bool t7.2.2.2.1] ++ ([Value.int .i64 t7.2.2.2.2.1] ++ [Value.bool t7.2.2.2.2.2]))))), Ck.mr T56 r0_1 gl0_0 c0_0 n0_0 w0_1]) [0, 1] [] [Ck.var 42 pg0 (([Value.slice (some ⟨gl0_0, 0, none⟩) n0_0 c0_0] ++ ([Value.map (some r0_1)] ++ ([Value.bool v0.2.2.1] ++ ([Value.int .i64 v0.2.2.2.1] ++ [Value.bool v0.2.2.2.2]))))), Ck.mr T56 r0_1 gl0_0 c0_0 n0_0 w0_1] [] 2 rfl rfl (by kernel_rfl) (fun w => by kernel_rfl) ⟨by exact rfl, by exact rfl, trivial⟩ trivial (by decide) (fun w hs hb => disk_Disk_spend.calls k pg0 gl0_0 n0_0 c0_0 r0_1 ((), (), v0.2.2.1, v0.2.2.2.1, v0.2.2.2.2) w0_1 t7 (lent b w [Ck.var 42 pg0 (([Value.slice (some ⟨gl0_0, 0, none⟩) n0_0 c0_0] ++ ([Value.map (some r0_1)] ++ ([Value.bool v0.2.2.1] ++ ([Value.int .i64 v0.2.2.2.1] ++ [Value.bool v0.2.2.2.2]))))), Ck.mr T56 r0_1 gl0_0 c0_0 n0_0 w0_1] []) hb  hc8) ?_
        intro x9
        refine lv (.int .i64 t7.1) ?_
        refine ls_end ?_
        refine qn_then ?_
        refine cs_seq ?_
        refine cs_seq ?_
        refine cs_region (l := [_, _]) ?_
        refine lv (.int .i64 t7.1) ?_
        refine lv (.bool (!decide (t7.1 = (0 : Int)))) ?_
        refine ls_end ?_
        refine qn_then ?_
        by_cases q10 : t7.1 = (0 : Int)
        · replace H := ite_t q10 H
          refine cs_know (c := false) (congrArg Bool.not (dec_t q10)) 24 (by kernel_rfl) ?_
          refine cs_false (by kernel_rfl) ?_
          refine cs_skip' ?_
          refine qn_then ?_
          refine cs_seq ?_
          refine cs_region (l := [_]) ?_
          refine ls_new rfl rfl (by kernel_rfl) 2 (fun g => .pointer (some ⟨g, 0, none⟩)) (.cells ⟨en (Value.int .u8) (vrep 512 (0 : Int)).1⟩ 56) (fun w => by kernel_rfl) ?_
          intro g11
          refine ls_end ?_
          refine qn_then ?_
          refine cs_seq ?_
          refine cs_region (l := [_, _, _]) ?_
          refine ls_val (v := .slice (some ⟨g11, 0, none⟩) (vrep 512 (0 : Int)).1.length 512) rfl rfl (by kernel_rfl) (fun w => by rw [show (vrep 512 (0 : Int)).1.length = 512 from (vrep 512 (0 : Int)).2]; kernel_rfl) ?_
          refine lv (.slice A2 l2.length c2) ?_
          obtain ⟨y12, hy13, H⟩ := lt_some H
          refine ls_copyv (Value.int .u8) (g := g11) (off := 0) (N := 512) (cx := 512) (B := A2) (cb := c2) (l := l2) (v := (vrep 512 (0 : Int))) (cs := en (Value.int .u8) (vrep 512 (0 : Int)).1) (ty := 56) (e := 5) 2 rfl rfl (by rw [show (vrep 512 (0 : Int)).1.length = 512 from (vrep 512 (0 : Int)).2]; kernel_rfl) (by kernel_rfl) (by exact rfl) (by kernel_rfl) (by kernel_rfl) (fun w hs => Rd.toen (t := 5) (hs.old R2)) (fun _ => rfl) (Sub4.all _) (cs' := en (Value.int .u8) (vcopy (vrep 512 (0 : Int)) l2).1) (splc_all (len_eq (len_en _ (vcopy (vrep 512 (0 : Int)) l2)) (len_en _ (vrep 512 (0 : Int))))) rfl (by kernel_rfl) ?_
          rw [hy13]
          refine ls_end ?_
          refine qn_then ?_
          refine cs_seq ?_
          obtain ⟨s15_0, hs15_0⟩ := exv (.pointer (some ⟨pg0, 0, none⟩))
          refine have_opa disk_Disk_Write.tab13 3 0 (fun sp => sp 0 = s15_0) (fun sp on hA hon => ?_) (fun ops15_0 => ?_)
          · refine ⟨fun o ho vs Rs f' S' w hp hf hx hS hR hs => ?_⟩
            obtain rfl := Option.some.inj ho
            exact opv (.pointer (some ⟨pg0, 0, none⟩)) hA hs15_0 hon (fr_next (rfl) ((hx 0 (by kernel_rfl)).trans (by kernel_rfl : (_ : Value) = .pointer (some ⟨pg0, 0, none⟩))))
          obtain ⟨s15_1, hs15_1⟩ := exv (.pointer (some ⟨pg0, 0, none⟩))
          refine have_opa disk_Disk_Write.tab13 3 1 (fun sp => sp 1 = s15_1 ∧ sp 0 = s15_0) (fun sp on hA hon => ?_) (fun ops15_1 => ?_)
          · refine ⟨fun o ho vs Rs f' S' w hp hf hx hS hR hs => ?_⟩
            obtain rfl := Option.some.inj ho
            obtain ⟨hv0, hR0⟩ := (spe hA.2 hs15_0 (hp 0 (by kernel_rfl)))
            exact opv (.pointer (some ⟨pg0, 0, none⟩)) hA.1 hs15_1 hon (fr_next (rfl) ((hf 0 29 (by kernel_rfl) rfl).trans hv0))
          obtain ⟨s15_2, hs15_2⟩ := exv (.pointer (some ⟨pg0, (0 + 1), none⟩))
          refine have_opa disk_Disk_Write.tab13 3 2 (fun sp => sp 2 = s15_2 ∧ sp 1 = s15_1) (fun sp on hA hon => ?_) (fun ops15_2 => ?_)
          · refine ⟨fun o ho vs Rs f' S' w hp hf hx hS hR hs => ?_⟩
            obtain rfl := Option.some.inj ho
            obtain ⟨hv1, hR1⟩ := (spe hA.2 hs15_1 (hp 1 (by kernel_rfl)))
            exact opv (.pointer (some ⟨pg0, (0 + 1), none⟩)) hA.1 hs15_2 hon (fr_next (rfl) ((hf 1 30 (by kernel_rfl) rfl).trans hv1))
          obtain ⟨s15_3, hs15_3⟩ := exv (.map (some r0_1))
          refine have_opa disk_Disk_Write.tab13 3 3 (fun sp => sp 3 = s15_3 ∧ sp 2 = s15_2) (fun sp on hA hon => ?_) (fun ops15_3 => ?_)
          · refine ⟨fun o ho vs Rs f' S' w hp hf hx hS hR hs => ?_⟩
            obtain rfl := Option.some.inj ho
            obtain ⟨hv2, hR2⟩ := (spe hA.2 hs15_2 (hp 2 (by kernel_rfl)))
            rw [hA.1, hs15_3]
            refine wn hon ?_
            have hF := fr_next (rfl) ((hf 2 31 (by kernel_rfl) rfl).trans hv2)
            refine ls_fr hF ?_
            refine ls_load (a0 := ⟨pg0, (0 + 1), none⟩) (v := .map (some r0_1)) (de := (TypeDesc.map 3 56)) rfl rfl (by kernel_rfl) rfl (by kernel_rfl) (by kernel_rfl) (by kernel_rfl) (fun w1 hs1 => cell_step hs1.below.bw (hs.var (k := 0) ((hS 0 (by kernel_rfl)).trans (by exact rfl)) (Sub4.trans (Sub4.all _) (Sub4.skip (n := 1) (len1 _) (Sub4.head _ _))))) ?_
            exact ls_fin s0 _ (congrArg (fun z => upd z 32 _) hF.symm) ⟨rfl, rfl⟩ (sub_nil _)
          obtain ⟨s15_4, hs15_4⟩ := exv (.int .i64 a1)
          refine have_opa disk_Disk_Write.tab13 3 4 (fun sp => sp 4 = s15_4) (fun sp on hA hon => ?_) (fun ops15_4 => ?_)
          · refine ⟨fun o ho vs Rs f' S' w hp hf hx hS hR hs => ?_⟩
            obtain rfl := Option.some.inj ho
            exact opv (.int .i64 a1) hA hs15_4 hon (fr_next (rfl) ((hx 1 (by kernel_rfl)).trans (by kernel_rfl : (_ : Value) = .int .i64 a1)))
          obtain ⟨s15_5, hs15_5⟩ := exv (.agg ⟨en (Value.int .u8) y12.1⟩)
          refine have_opa disk_Disk_Write.tab13 3 5 (fun sp => sp 5 = s15_5) (fun sp on hA hon => ?_) (fun ops15_5 => ?_)
          · refine ⟨fun o ho vs Rs f' S' w hp hf hx hS hR hs => ?_⟩
            obtain rfl := Option.some.inj ho
            rw [hA, hs15_5]
            refine wn hon ?_
            have hF := fr_next (rfl) ((hx 8 (by kernel_rfl)).trans (by kernel_rfl : (_ : Value) = .pointer (some ⟨g11, 0, none⟩)))
            refine ls_fr hF ?_
            refine ls_loadagg (a := ⟨g11, 0, none⟩) (sub := en (Value.int .u8) y12.1) rfl rfl (by kernel_rfl) rfl (by kernel_rfl) (by kernel_rfl) (by kernel_rfl) (len_en _ y12) (fun w1 hs1 => Rd.step (hs.vars (k := 2) ((hS 2 (by kernel_rfl)).trans (by exact rfl)) (Sub4.all _)) hs1.below.bw) ?_
            exact ls_fin s0 _ (congrArg (fun z => upd z 34 _) hF.symm) ⟨rfl, rfl⟩ (sub_nil _)
          refine cs_draw disk_Disk_Write.tab13 6 3 (spl [s15_0, s15_1, s15_2, s15_3, s15_4, s15_5]) (onl [true, true, true, true, true, true]) (by kernel_rfl) (by kernel_rfl) (by kernel_rfl) (by kernel_rfl) (rs := [_]) rfl (by kernel_rfl) (by kernel_rfl) (all_snoc (all_snoc (all_snoc (all_snoc (all_snoc (all_snoc (all_nil) (ops15_0 _ _ rfl rfl)) (ops15_1 _ _ ⟨rfl, rfl⟩ rfl)) (ops15_2 _ _ ⟨rfl, rfl⟩ rfl)) (ops15_3 _ _ ⟨rfl, rfl⟩ rfl)) (ops15_4 _ _ rfl rfl)) (ops15_5 _ _ rfl rfl)) ?_
          intro vs Rs f' S' hp hf hx hS hR
          obtain ⟨hv3, hR3⟩ := (spe rfl hs15_3 (hp 3 (by kernel_rfl)))
          obtain ⟨hv4, hR4⟩ := (spe rfl hs15_4 (hp 4 (by kernel_rfl)))
          obtain ⟨hv5, hR5⟩ := (spe rfl hs15_5 (hp 5 (by kernel_rfl)))
          refine ls_fr (F := upd (upd (upd f' 32 (.map (some r0_1))) 33 (.int .i64 a1)) 34 (.agg ⟨en (Value.int .u8) y12.1⟩)) (fr_next (fr_next (fr_next (rfl) ((hf 3 32 (by kernel_rfl) rfl).trans hv3)) ((hf 4 33 (by kernel_rfl) rfl).trans hv4)) ((hf 5 34 (by kernel_rfl) rfl).trans hv5)) ?_
          refine ls_sub (sput (sput s0 0 (some (Ck.var 42 pg0 (([Value.slice (some ⟨gl0_0, 0, none⟩) n0_0 c0_0] ++ ([Value.map (some r0_1)] ++ ([Value.bool t7.2.2.2.1] ++ ([Value.int .i64 t7.2.2.2.2.1] ++ [Value.bool t7.2.2.2.2.2])))))))) 1 (some (Ck.mr T56 r0_1 gl0_0 c0_0 n0_0 w0_1))) (sub_put ((hS 1 (by kernel_rfl)).trans (by exact rfl)) (sub_put ((hS 0 (by kernel_rfl)).trans (by exact rfl)) (sub_nil _))) ?_
          refine ls_mrput (T := T56) (r := r0_1) (m := w0_1) (kt := 3) (et := 56) (i := a1) (v := y12) 1 rfl rfl rfl (by kernel_rfl) (by kernel_rfl) (by kernel_rfl) (by kernel_rfl) (by kernel_rfl) (by exact rfl) ?_
          refine ls_end ?_
          refine qn_then ?_
          refine cs_seq ?_
          refine cs_region (l := [_]) ?_
          refine lv (.int .i64 (0 : Int)) ?_
          refine ls_end ?_
          refine qn_then ?_
          refine cs_ret' ?_
          obtain rfl := Option.some.inj H
          refine qr_res (rs := [_]) rfl (fun w' hs => ⟨[.int .i64 (0 : Int)], (res_tmp (by kernel_rfl) (.nil)), (), rfl, hs.pick (ts := [0, 1]) (cs := [Ck.var 42 pg0 (([Value.slice (some ⟨gl0_0, 0, none⟩) n0_0 c0_0] ++ ([Value.map (some r0_1)] ++ ([Value.bool t7.2.2.2.1] ++ ([Value.int .i64 t7.2.2.2.2.1] ++ [Value.bool t7.2.2.2.2.2]))))), Ck.mr T56 r0_1 gl0_0 c0_0 n0_0 (mput a1 y12 w0_1.1, w0_1.2)]) ⟨by exact rfl, by exact rfl, trivial⟩ (by decide)⟩)
        replace H := ite_f q10 H
        refine cs_know (c := true) (congrArg Bool.not (dec_f q10)) 24 (by kernel_rfl) ?_
        refine cs_true (by kernel_rfl) ?_
        refine cs_seq ?_
        refine cs_region (l := [_, _]) ?_
        refine lv (.int .i64 t7.1) ?_
        refine lv (.int .i64 t7.1) ?_
        refine ls_end ?_
        refine qn_then ?_
        refine cs_ret' ?_
        refine qr_then ?_
        obtain rfl := Option.some.inj H
        refine qr_res (rs := [_]) rfl (fun w' hs => ⟨[.int .i64 t7.1], (res_tmp (by kernel_rfl) (.nil)), (), rfl, hs.pick (ts := [0, 1]) (cs := [Ck.var 42 pg0 (([Value.slice (some ⟨gl0_0, 0, none⟩) n0_0 c0_0] ++ ([Value.map (some r0_1)] ++ ([Value.bool t7.2.2.2.1] ++ ([Value.int .i64 t7.2.2.2.2.1] ++ [Value.bool t7.2.2.2.2.2]))))), Ck.mr T56 r0_1 gl0_0 c0_0 n0_0 w0_1]) ⟨by exact rfl, by exact rfl, trivial⟩ (by decide)⟩)
      replace H := ite_f q6 H
      refine cs_know (c := false) (dec_f q6) 20 (by kernel_rfl) ?_
      refine cs_false (by kernel_rfl) ?_
      refine cs_skip' ?_
      refine qn_then ?_
      refine cs_seq ?_
      refine cs_seq ?_
      refine cs_region (l := [_, _]) ?_
      refine lv (.int .i64 (3 : Int)) ?_
      refine lv (.bool (!decide ((3 : Int) = (0 : Int)))) ?_
      refine ls_end ?_
      refine qn_then ?_
      refine cs_know (c := true) (congrArg Bool.not (dec_f q6)) 24 (by kernel_rfl) ?_
      refine cs_true (by kernel_rfl) ?_
      refine cs_seq ?_
      refine cs_region (l := [_, _]) ?_
      refine lv (.int .i64 (3 : Int)) ?_
      refine lv (.int .i64 (3 : Int)) ?_
      refine ls_end ?_
      refine qn_then ?_
      refine cs_ret' ?_
      refine qr_then ?_
      obtain rfl := Option.some.inj H
      refine qr_res (rs := [_]) rfl (fun w' hs => ⟨[.int .i64 (3 : Int)], (res_tmp (by kernel_rfl) (.nil)), (), rfl, hs.pick (ts := [0, 1]) (cs := [Ck.var 42 pg0 (([Value.slice (some ⟨gl0_0, 0, none⟩) n0_0 c0_0] ++ ([Value.map (some r0_1)] ++ ([Value.bool v0.2.2.1] ++ ([Value.int .i64 v0.2.2.2.1] ++ [Value.bool v0.2.2.2.2]))))), Ck.mr T56 r0_1 gl0_0 c0_0 n0_0 w0_1]) ⟨by exact rfl, by exact rfl, trivial⟩ (by decide)⟩)
    replace H := ite_f q5 H
    refine cs_know (c := false) (dec_f q5) 18 (by kernel_rfl) ?_
    refine cs_false (by kernel_rfl) ?_
    refine cs_skip' ?_
    refine qn_then ?_
    refine cs_seq ?_
    refine cs_seq ?_
    refine cs_region (l := [_, _]) ?_
    refine lv (.int .i64 t1) ?_
    refine lv (.bool (decide (t1 = (0 : Int)))) ?_
    refine ls_end ?_
    refine qn_then ?_
    refine cs_know (c := true) (dec_t q4) 20 (by kernel_rfl) ?_
    refine cs_true (by kernel_rfl) ?_
    refine cs_region (l := [_, _, _]) ?_
    refine lv (.pointer (some ⟨pg0, 0, none⟩)) ?_
    obtain ⟨t16, hc17, H⟩ := bind_some H
    refine ls_callb (fid := 22) (vals := #[.pointer (some ⟨pg0, 0, none⟩)]) (X := Unit) (fun x => .int .i64 t16.1) (fun x => stl [Ck.var 42 pg0 (([Value.slice (some ⟨gl0_0, 0, none⟩) n0_0 c0_0] ++ ([Value.map (some r0_1)] ++ ([Value.bool t16.2.2.2.1] ++ ([Value.int .i64 t16.2.2.2.2.1] ++ [Value.bool t16.2.2.2.2.2]))))), Ck.mr T56 r0_1 gl0_0 c0_0 n0_0 w0_1]) [0, 1] [] [Ck.var 42 pg0 (([Value.slice (some ⟨gl0_0, 0, none⟩) n0_0 c0_0] ++ ([Value.map (some r0_1)] ++ ([Value.bool v0.2.2.1] ++ ([Value.int .i64 v0.2.2.2.1] ++ [Value.bool v0.2.2.2.2]))))), Ck.mr T56 r0_1 gl0_0 c0_0 n0_0 w0_1] [] 2 rfl rfl (by kernel_rfl) (fun w => by kernel_rfl) ⟨by exact rfl, by exact rfl, trivial⟩ trivial (by decide) (fun w hs hb => disk_Disk_spend.calls k pg0 gl0_0 n0_0 c0_0 r0_1 ((), (), v0.2.2.1, v0.2.2.2.1, v0.2.2.2.2) w0_1 t16 (lent b w [Ck.var 42 pg0 (([Value.slice (some ⟨gl0_0, 0, none⟩) n0_0 c0_0] ++ ([Value.map (some r0_1)] ++ ([Value.bool v0.2.2.1] ++ ([Value.int .i64 v0.2.2.2.1] ++ [Value.bool v0.2.2.2.2]))))), Ck.mr T56 r0_1 gl0_0 c0_0 n0_0 w0_1] []) hb  hc17) ?_
    intro x18
    refine lv (.int .i64 t16.1) ?_
    refine ls_end ?_
    refine qn_then ?_
    refine cs_seq ?_
    refine cs_seq ?_
    refine cs_region (l := [_, _]) ?_
    refine lv (.int .i64 t16.1) ?_
    refine lv (.bool (!decide (t16.1 = (0 : Int)))) ?_
    refine ls_end ?_
    refine qn_then ?_
    by_cases q19 : t16.1 = (0 : Int)
    · replace H := ite_t q19 H
      refine cs_know (c := false) (congrArg Bool.not (dec_t q19)) 24 (by kernel_rfl) ?_
      refine cs_false (by kernel_rfl) ?_
      refine cs_skip' ?_
      refine qn_then ?_
      refine cs_seq ?_
      refine cs_region (l := [_]) ?_
      refine ls_new rfl rfl (by kernel_rfl) 2 (fun g => .pointer (some ⟨g, 0, none⟩)) (.cells ⟨en (Value.int .u8) (vrep 512 (0 : Int)).1⟩ 56) (fun w => by kernel_rfl) ?_
      intro g20
      refine ls_end ?_
      refine qn_then ?_
      refine cs_seq ?_
      refine cs_region (l := [_, _, _]) ?_
      refine ls_val (v := .slice (some ⟨g20, 0, none⟩) (vrep 512 (0 : Int)).1.length 512) rfl rfl (by kernel_rfl) (fun w => by rw [show (vrep 512 (0 : Int)).1.length = 512 from (vrep 512 (0 : Int)).2]; kernel_rfl) ?_
      refine lv (.slice A2 l2.length c2) ?_
      obtain ⟨y21, hy22, H⟩ := lt_some H
      refine ls_copyv (Value.int .u8) (g := g20) (off := 0) (N := 512) (cx := 512) (B := A2) (cb := c2) (l := l2) (v := (vrep 512 (0 : Int))) (cs := en (Value.int .u8) (vrep 512 (0 : Int)).1) (ty := 56) (e := 5) 2 rfl rfl (by rw [show (vrep 512 (0 : Int)).1.length = 512 from (vrep 512 (0 : Int)).2]; kernel_rfl) (by kernel_rfl) (by exact rfl) (by kernel_rfl) (by kernel_rfl) (fun w hs => Rd.toen (t := 5) (hs.old R2)) (fun _ => rfl) (Sub4.all _) (cs' := en (Value.int .u8) (vcopy (vrep 512 (0 : Int)) l2).1) (splc_all (len_eq (len_en _ (vcopy (vrep 512 (0 : Int)) l2)) (len_en _ (vrep 512 (0 : Int))))) rfl (by kernel_rfl) ?_
      rw [hy22]
      refine ls_end ?_
      refine qn_then ?_
      refine cs_seq ?_
      obtain ⟨s24_0, hs24_0⟩ := exv (.pointer (some ⟨pg0, 0, none⟩))
      refine have_opa disk_Disk_Write.tab22 3 0 (fun sp => sp 0 = s24_0) (fun sp on hA hon => ?_) (fun ops24_0 => ?_)
      · refine ⟨fun o ho vs Rs f' S' w hp hf hx hS hR hs => ?_⟩
        obtain rfl := Option.some.inj ho
        exact opv (.pointer (some ⟨pg0, 0, none⟩)) hA hs24_0 hon (fr_next (rfl) ((hx 0 (by kernel_rfl)).trans (by kernel_rfl : (_ : Value) = .pointer (some ⟨pg0, 0, none⟩))))
      obtain ⟨s24_1, hs24_1⟩ := exv (.pointer (some ⟨pg0, 0, none⟩))
      refine have_opa disk_Disk_Write.tab22 3 1 (fun sp => sp 1 = s24_1 ∧ sp 0 = s24_0) (fun sp on hA hon => ?_) (fun ops24_1 => ?_)
      · refine ⟨fun o ho vs Rs f' S' w hp hf hx hS hR hs => ?_⟩
        obtain rfl := Option.some.inj ho
        obtain ⟨hv0, hR0⟩ := (spe hA.2 hs24_0 (hp 0 (by kernel_rfl)))
        exact opv (.pointer (some ⟨pg0, 0, none⟩)) hA.1 hs24_1 hon (fr_next (rfl) ((hf 0 29 (by kernel_rfl) rfl).trans hv0))
      obtain ⟨s24_2, hs24_2⟩ := exv (.pointer (some ⟨pg0, (0 + 1), none⟩))
      refine have_opa disk_Disk_Write.tab22 3 2 (fun sp => sp 2 = s24_2 ∧ sp 1 = s24_1) (fun sp on hA hon => ?_) (fun ops24_2 => ?_)
      · refine ⟨fun o ho vs Rs f' S' w hp hf hx hS hR hs => ?_⟩
        obtain rfl := Option.some.inj ho
        obtain ⟨hv1, hR1⟩ := (spe hA.2 hs24_1 (hp 1 (by kernel_rfl)))
        exact opv (.pointer (some ⟨pg0, (0 + 1), none⟩)) hA.1 hs24_2 hon (fr_next (rfl) ((hf 1 30 (by kernel_rfl) rfl).trans hv1))
      obtain ⟨s24_3, hs24_3⟩ := exv (.map (some r0_1))
      refine have_opa disk_Disk_Write.tab22 3 3 (fun sp => sp 3 = s24_3 ∧ sp 2 = s24_2) (fun sp on hA hon => ?_) (fun ops24_3 => ?_)
      · refine ⟨fun o ho vs Rs f' S' w hp hf hx hS hR hs => ?_⟩
        obtain rfl := Option.some.inj ho
        obtain ⟨hv2, hR2⟩ := (spe hA.2 hs24_2 (hp 2 (by kernel_rfl)))
        rw [hA.1, hs24_3]
        refine wn hon ?_
        have hF := fr_next (rfl) ((hf 2 31 (by kernel_rfl) rfl).trans hv2)
        refine ls_fr hF ?_
        refine ls_load (a0 := ⟨pg0, (0 + 1), none⟩) (v := .map (some r0_1)) (de := (TypeDesc.map 3 56)) rfl rfl (by kernel_rfl) rfl (by kernel_rfl) (by kernel_rfl) (by kernel_rfl) (fun w1 hs1 => cell_step hs1.below.bw (hs.var (k := 0) ((hS 0 (by kernel_rfl)).trans (by exact rfl)) (Sub4.trans (Sub4.all _) (Sub4.skip (n := 1) (len1 _) (Sub4.head _ _))))) ?_
        exact ls_fin s0 _ (congrArg (fun z => upd z 32 _) hF.symm) ⟨rfl, rfl⟩ (sub_nil _)
      obtain ⟨s24_4, hs24_4⟩ := exv (.int .i64 a1)
      refine have_opa disk_Disk_Write.tab22 3 4 (fun sp => sp 4 = s24_4) (fun sp on hA hon => ?_) (fun ops24_4 => ?_)
      · refine ⟨fun o ho vs Rs f' S' w hp hf hx hS hR hs => ?_⟩
        obtain rfl := Option.some.inj ho
        exact opv (.int .i64 a1) hA hs24_4 hon (fr_next (rfl) ((hx 1 (by kernel_rfl)).trans (by kernel_rfl : (_ : Value) = .int .i64 a1)))
      obtain ⟨s24_5, hs24_5⟩ := exv (.agg ⟨en (Value.int .u8) y21.1⟩)
      refine have_opa disk_Disk_Write.tab22 3 5 (fun sp => sp 5 = s24_5) (fun sp on hA hon => ?_) (fun ops24_5 => ?_)
      · refine ⟨fun o ho vs Rs f' S' w hp hf hx hS hR hs => ?_⟩
        obtain rfl := Option.some.inj ho
        rw [hA, hs24_5]
        refine wn hon ?_
        have hF := fr_next (rfl) ((hx 8 (by kernel_rfl)).trans (by kernel_rfl : (_ : Value) = .pointer (some ⟨g20, 0, none⟩)))
        refine ls_fr hF ?_
        refine ls_loadagg (a := ⟨g20, 0, none⟩) (sub := en (Value.int .u8) y21.1) rfl rfl (by kernel_rfl) rfl (by kernel_rfl) (by kernel_rfl) (by kernel_rfl) (len_en _ y21) (fun w1 hs1 => Rd.step (hs.vars (k := 2) ((hS 2 (by kernel_rfl)).trans (by exact rfl)) (Sub4.all _)) hs1.below.bw) ?_
        exact ls_fin s0 _ (congrArg (fun z => upd z 34 _) hF.symm) ⟨rfl, rfl⟩ (sub_nil _)
      refine cs_draw disk_Disk_Write.tab22 6 3 (spl [s24_0, s24_1, s24_2, s24_3, s24_4, s24_5]) (onl [true, true, true, true, true, true]) (by kernel_rfl) (by kernel_rfl) (by kernel_rfl) (by kernel_rfl) (rs := [_]) rfl (by kernel_rfl) (by kernel_rfl) (all_snoc (all_snoc (all_snoc (all_snoc (all_snoc (all_snoc (all_nil) (ops24_0 _ _ rfl rfl)) (ops24_1 _ _ ⟨rfl, rfl⟩ rfl)) (ops24_2 _ _ ⟨rfl, rfl⟩ rfl)) (ops24_3 _ _ ⟨rfl, rfl⟩ rfl)) (ops24_4 _ _ rfl rfl)) (ops24_5 _ _ rfl rfl)) ?_
      intro vs Rs f' S' hp hf hx hS hR
      obtain ⟨hv3, hR3⟩ := (spe rfl hs24_3 (hp 3 (by kernel_rfl)))
      obtain ⟨hv4, hR4⟩ := (spe rfl hs24_4 (hp 4 (by kernel_rfl)))
      obtain ⟨hv5, hR5⟩ := (spe rfl hs24_5 (hp 5 (by kernel_rfl)))
      refine ls_fr (F := upd (upd (upd f' 32 (.map (some r0_1))) 33 (.int .i64 a1)) 34 (.agg ⟨en (Value.int .u8) y21.1⟩)) (fr_next (fr_next (fr_next (rfl) ((hf 3 32 (by kernel_rfl) rfl).trans hv3)) ((hf 4 33 (by kernel_rfl) rfl).trans hv4)) ((hf 5 34 (by kernel_rfl) rfl).trans hv5)) ?_
      refine ls_sub (sput (sput s0 0 (some (Ck.var 42 pg0 (([Value.slice (some ⟨gl0_0, 0, none⟩) n0_0 c0_0] ++ ([Value.map (some r0_1)] ++ ([Value.bool t16.2.2.2.1] ++ ([Value.int .i64 t16.2.2.2.2.1] ++ [Value.bool t16.2.2.2.2.2])))))))) 1 (some (Ck.mr T56 r0_1 gl0_0 c0_0 n0_0 w0_1))) (sub_put ((hS 1 (by kernel_rfl)).trans (by exact rfl)) (sub_put ((hS 0 (by kernel_rfl)).trans (by exact rfl)) (sub_nil _))) ?_
      refine ls_mrput (T := T56) (r := r0_1) (m := w0_1) (kt := 3) (et := 56) (i := a1) (v := y21) 1 rfl rfl rfl (by kernel_rfl) (by kernel_rfl) (by kernel_rfl) (by kernel_rfl) (by kernel_rfl) (by exact rfl) ?_
      refine ls_end ?_
      refine qn_then ?_
      refine cs_seq ?_
      refine cs_region (l := [_]) ?_
      refine lv (.int .i64 (0 : Int)) ?_
      refine ls_end ?_
      refine qn_then ?_
      refine cs_ret' ?_
      obtain rfl := Option.some.inj H
      refine qr_res (rs := [_]) rfl (fun w' hs => ⟨[.int .i64 (0 : Int)], (res_tmp (by kernel_rfl) (.nil)), (), rfl, hs.pick (ts := [0, 1]) (cs := [Ck.var 42 pg0 (([Value.slice (some ⟨gl0_0, 0, none⟩) n0_0 c0_0] ++ ([Value.map (some r0_1)] ++ ([Value.bool t16.2.2.2.1] ++ ([Value.int .i64 t16.2.2.2.2.1] ++ [Value.bool t16.2.2.2.2.2]))))), Ck.mr T56 r0_1 gl0_0 c0_0 n0_0 (mput a1 y21 w0_1.1, w0_1.2)]) ⟨by exact rfl, by exact rfl, trivial⟩ (by decide)⟩)
    replace H := ite_f q19 H
    refine cs_know (c := true) (congrArg Bool.not (dec_f q19)) 24 (by kernel_rfl) ?_
    refine cs_true (by kernel_rfl) ?_
    refine cs_seq ?_
    refine cs_region (l := [_, _]) ?_
    refine lv (.int .i64 t16.1) ?_
    refine lv (.int .i64 t16.1) ?_
    refine ls_end ?_
    refine qn_then ?_
    refine cs_ret' ?_
    refine qr_then ?_
    obtain rfl := Option.some.inj H
    refine qr_res (rs := [_]) rfl (fun w' hs => ⟨[.int .i64 t16.1], (res_tmp (by kernel_rfl) (.nil)), (), rfl, hs.pick (ts := [0, 1]) (cs := [Ck.var 42 pg0 (([Value.slice (some ⟨gl0_0, 0, none⟩) n0_0 c0_0] ++ ([Value.map (some r0_1)] ++ ([Value.bool t16.2.2.2.1] ++ ([Value.int .i64 t16.2.2.2.2.1] ++ [Value.bool t16.2.2.2.2.2]))))), Ck.mr T56 r0_1 gl0_0 c0_0 n0_0 w0_1]) ⟨by exact rfl, by exact rfl, trivial⟩ (by decide)⟩)
  replace H := ite_f q4 H
  refine ls_know (c := false) (dec_f q4) 14 (by kernel_rfl) ?_
  refine lofx 2 14 true false ?_
  refine lofx 2 14 true false ?_
  refine lofx 2 14 true false ?_
  refine lv (.bool false) ?_
  refine ls_end ?_
  refine qn_then ?_
  refine cs_false (by kernel_rfl) ?_
  refine cs_skip' ?_
  refine qn_then ?_
  refine cs_seq ?_
  refine cs_seq ?_
  refine cs_region (l := [_, _]) ?_
  refine lv (.int .i64 t1) ?_
  refine lv (.bool (decide (t1 = (0 : Int)))) ?_
  refine ls_end ?_
  refine qn_then ?_
  refine cs_know (c := false) (dec_f q4) 20 (by kernel_rfl) ?_
  refine cs_false (by kernel_rfl) ?_
  refine cs_skip' ?_
  refine qn_then ?_
  refine cs_seq ?_
  refine cs_seq ?_
  refine cs_region (l := [_, _]) ?_
  refine lv (.int .i64 t1) ?_
  refine lv (.bool (!decide (t1 = (0 : Int)))) ?_
  refine ls_end ?_
  refine qn_then ?_
  refine cs_know (c := true) (congrArg Bool.not (dec_f q4)) 24 (by kernel_rfl) ?_
  refine cs_true (by kernel_rfl) ?_
  refine cs_seq ?_
  refine cs_region (l := [_, _]) ?_
  refine lv (.int .i64 t1) ?_
  refine lv (.int .i64 t1) ?_
  refine ls_end ?_
  refine qn_then ?_
  refine cs_ret' ?_
  refine qr_then ?_
  obtain rfl := Option.some.inj H
  refine qr_res (rs := [_]) rfl (fun w' hs => ⟨[.int .i64 t1], (res_tmp (by kernel_rfl) (.nil)), (), rfl, hs.pick (ts := [0, 1]) (cs := [Ck.var 42 pg0 (([Value.slice (some ⟨gl0_0, 0, none⟩) n0_0 c0_0] ++ ([Value.map (some r0_1)] ++ ([Value.bool v0.2.2.1] ++ ([Value.int .i64 v0.2.2.2.1] ++ [Value.bool v0.2.2.2.2]))))), Ck.mr T56 r0_1 gl0_0 c0_0 n0_0 w0_1]) ⟨by exact rfl, by exact rfl, trivial⟩ (by decide)⟩)

/-! ### shadowbox/crc.halves: function 58 -/
def crc_halves.cst0 : Vc Int 16 := ⟨[(0 : Int), (274646895 : Int), (549293790 : Int), (820201905 : Int), (1098587580 : Int), (1361435347 : Int), (1640403810 : Int), (1905808397 : Int), (2197175160 : Int), (2460548119 : Int), (2722870694 : Int), (2987750089 : Int), (3280807620 : Int), (3553878443 : Int), (3811616794 : Int), (4084100981 : Int)], rfl⟩
def crc_halves.f (k : Nat) : Option ((Vc Int 16)) :=
  some crc_halves.cst0
set_option maxRecDepth 100000 in
set_option maxHeartbeats 4000000 in
theorem crc_halves.calls (k : Nat)  (r : (Vc Int 16)) (b : Bs) (hs0 : St b (stl []) b.w) (H : crc_halves.f k = some r) :
    Calls Try.prog 58 #[] b.w fun e w' => ∃ x : Unit, e = .returned (.agg ⟨en (Value.int .u32) r.1⟩) ∧ St b (stl []) w' := by
  unfold crc_halves.f at H
  refine enterb (n := 2) Try.func58 rfl (by kernel_rfl) (by kernel_rfl) hs0 ?_
  refine cs_sub (s0) (sub_nil _) ?_
  refine cs_seq ?_
  refine cs_region (l := [_]) ?_
  refine ls_new rfl rfl (by kernel_rfl) 0 (fun g => .pointer (some ⟨g, 0, none⟩)) (.cells ⟨en (Value.int .u32) (vrep 16 (0 : Int)).1⟩ 98) (fun w => by kernel_rfl) ?_
  intro g1
  refine ls_end ?_
  refine qn_then ?_
  refine cs_seq ?_
  refine cs_region (l := [_, _]) ?_
  refine lv (.agg ⟨en (Value.int .u32) crc_halves.cst0.1⟩) ?_
  refine ls_storec (g := g1) (off := 0) (v := .agg ⟨en (Value.int .u32) crc_halves.cst0.1⟩) (vs := en (Value.int .u32) crc_halves.cst0.1) (cs := en (Value.int .u32) (vrep 16 (0 : Int)).1) (ty := 98) 0 rfl rfl rfl (by kernel_rfl) (by kernel_rfl) (by kernel_rfl) (by exact rfl) (by kernel_rfl) (len_en _ crc_halves.cst0) (one_en (fun _ => rfl) _) (hl_of (Sub4.all _) (len_eq (len_en _ crc_halves.cst0) (len_en _ (vrep 16 (0 : Int))))) (cs' := en (Value.int .u32) crc_halves.cst0.1) (splc_all (len_eq (len_en _ crc_halves.cst0) (len_en _ (vrep 16 (0 : Int))))) ?_
  refine ls_end ?_
  refine qn_then ?_
  refine cs_ret' ?_
  obtain rfl := Option.some.inj H
  refine qr_res (rs := [_]) rfl (fun w' hs => ⟨[.agg ⟨en (Value.int .u32) crc_halves.cst0.1⟩], (.cell (by kernel_rfl) (run_cellres (by kernel_rfl) (by kernel_rfl) (len_en _ crc_halves.cst0) (hs.holds 0 _ (by exact rfl))) (.nil)), (), rfl, hs.pick (ts := []) (cs := []) trivial (by decide)⟩)

/-! ### shadowbox/crc.Go$1: function 59 -/
def crc_Go_1.tab0 : List (List Nat) := [[], [0], [], [2], [2, 3], [2, 3, 4], [0, 1, 2, 3, 4, 5], [0, 1, 2, 3, 4, 5, 6]]
def crc_Go_1.f (k : Nat) (v0 : Int) (v1 : (Vc Int 16)) : Option (Int) :=
  (if 0 ≤ bits .and .u32 v0 (15 : Int) then (if bits .and .u32 v0 (15 : Int) < (16 : Int) then lt ((v1.1.getD (bits .and .u32 v0 (15 : Int)).toNat (0 : Int))) fun y5 => some (bits .xor .u32 (Int.fdiv v0 16) y5) else none) else none)
set_option maxRecDepth 100000 in
set_option maxHeartbeats 4000000 in
theorem crc_Go_1.calls (k : Nat) (pg0 : Nat) (v0 : Int) (pg1 : Nat) (v1 : (Vc Int 16)) (r : Int) (b : Bs) (hs0 : St b (stl [Ck.var 23 pg0 ([Value.int .u32 v0]), Ck.var 98 pg1 (en (Value.int .u32) v1.1)]) b.w) (H : crc_Go_1.f k v0 v1 = some r) :
    Calls Try.prog 59 #[.pointer (some ⟨pg0, 0, none⟩), .pointer (some ⟨pg1, 0, none⟩)] b.w fun e w' => ∃ x : Unit, e = .returned (.tuple #[]) ∧ St b (stl [Ck.var 23 pg0 ([Value.int .u32 r]), Ck.var 98 pg1 (en (Value.int .u32) v1.1)]) w' := by
  unfold crc_Go_1.f at H
  refine enterb (n := 9) Try.func59 rfl (by kernel_rfl) (by kernel_rfl) hs0 ?_
  refine cs_sub (sput (sput s0 0 (some (Ck.var 23 pg0 ([Value.int .u32 v0])))) 1 (some (Ck.var 98 pg1 (en (Value.int .u32) v1.1)))) (sub_put (by exact rfl) (sub_put (by exact rfl) (sub_nil _))) ?_
  obtain ⟨s2_0, hs2_0⟩ := exv (.int .u32 v0)
  refine have_opa crc_Go_1.tab0 2 0 (fun sp => sp 0 = s2_0) (fun sp on hA hon => ?_) (fun ops2_0 => ?_)
  · refine ⟨fun o ho vs Rs f' S' w hp hf hx hS hR hs => ?_⟩
    obtain rfl := Option.some.inj ho
    rw [hA, hs2_0]
    refine wn hon ?_
    have hF := fr_next (rfl) ((hx 0 (by kernel_rfl)).trans (by kernel_rfl : (_ : Value) = .pointer (some ⟨pg0, 0, none⟩)))
    refine ls_fr hF ?_
    refine ls_load (a0 := ⟨pg0, 0, none⟩) (v := .int .u32 v0) (de := (TypeDesc.int .u32)) rfl rfl (by kernel_rfl) rfl (by kernel_rfl) (by kernel_rfl) (by kernel_rfl) (fun w1 hs1 => cell_step hs1.below.bw (hs.var (k := 0) ((hS 0 (by kernel_rfl)).trans (by exact rfl)) (Sub4.all _))) ?_
    exact ls_fin s0 _ (congrArg (fun z => upd z 2 _) hF.symm) ⟨rfl, rfl⟩ (sub_nil _)
  obtain ⟨s2_1, hs2_1⟩ := exv (.int .u32 (Int.fdiv v0 16))
  refine have_opa crc_Go_1.tab0 2 1 (fun sp => sp 1 = s2_1 ∧ sp 0 = s2_0) (fun sp on hA hon => ?_) (fun ops2_1 => ?_)
  · refine ⟨fun o ho vs Rs f' S' w hp hf hx hS hR hs => ?_⟩
    obtain rfl := Option.some.inj ho
    obtain ⟨hv0, hR0⟩ := (spe hA.2 hs2_0 (hp 0 (by kernel_rfl)))
    exact opv (.int .u32 (Int.fdiv v0 16)) hA.1 hs2_1 hon (fr_next (rfl) ((hf 0 2 (by kernel_rfl) rfl).trans hv0))
  obtain ⟨s2_2, hs2_2⟩ := exv (.int .u32 v0)
  refine have_opa crc_Go_1.tab0 2 2 (fun sp => sp 2 = s2_2) (fun sp on hA hon => ?_) (fun ops2_2 => ?_)
  · refine ⟨fun o ho vs Rs f' S' w hp hf hx hS hR hs => ?_⟩
    obtain rfl := Option.some.inj ho
    rw [hA, hs2_2]
    refine wn hon ?_
    have hF := fr_next (rfl) ((hx 0 (by kernel_rfl)).trans (by kernel_rfl : (_ : Value) = .pointer (some ⟨pg0, 0, none⟩)))
    refine ls_fr hF ?_
    refine ls_load (a0 := ⟨pg0, 0, none⟩) (v := .int .u32 v0) (de := (TypeDesc.int .u32)) rfl rfl (by kernel_rfl) rfl (by kernel_rfl) (by kernel_rfl) (by kernel_rfl) (fun w1 hs1 => cell_step hs1.below.bw (hs.var (k := 0) ((hS 0 (by kernel_rfl)).trans (by exact rfl)) (Sub4.all _))) ?_
    exact ls_fin s0 _ (congrArg (fun z => upd z 4 _) hF.symm) ⟨rfl, rfl⟩ (sub_nil _)
  obtain ⟨s2_3, hs2_3⟩ := exv (.int .u32 (bits .and .u32 v0 (15 : Int)))
  refine have_opa crc_Go_1.tab0 2 3 (fun sp => sp 3 = s2_3 ∧ sp 2 = s2_2) (fun sp on hA hon => ?_) (fun ops2_3 => ?_)
  · refine ⟨fun o ho vs Rs f' S' w hp hf hx hS hR hs => ?_⟩
    obtain rfl := Option.some.inj ho
    obtain ⟨hv2, hR2⟩ := (spe hA.2 hs2_2 (hp 2 (by kernel_rfl)))
    exact opv (.int .u32 (bits .and .u32 v0 (15 : Int))) hA.1 hs2_3 hon (fr_next (rfl) ((hf 2 4 (by kernel_rfl) rfl).trans hv2))
  obtain ⟨q3, H⟩ := ite_need H
  obtain ⟨q4, H⟩ := ite_need H
  obtain ⟨s2_4, hs2_4⟩ := exv (.pointer (some ⟨pg1, (0 + (bits .and .u32 v0 (15 : Int)).toNat), none⟩))
  refine have_opa crc_Go_1.tab0 2 4 (fun sp => sp 4 = s2_4 ∧ sp 3 = s2_3) (fun sp on hA hon => ?_) (fun ops2_4 => ?_)
  · refine ⟨fun o ho vs Rs f' S' w hp hf hx hS hR hs => ?_⟩
    obtain rfl := Option.some.inj ho
    obtain ⟨hv3, hR3⟩ := (spe hA.2 hs2_3 (hp 3 (by kernel_rfl)))
    rw [hA.1, hs2_4]
    refine wn hon ?_
    have hF := fr_next (fr_next (rfl) ((hx 1 (by kernel_rfl)).trans (by kernel_rfl : (_ : Value) = .pointer (some ⟨pg1, 0, none⟩)))) ((hf 3 5 (by kernel_rfl) rfl).trans hv3)
    refine ls_fr hF ?_
    refine ls_idxa1 (g := pg1) (off := 0) (i := bits .and .u32 v0 (15 : Int)) (kk := .u32) (ln := 16) (e := 23) rfl rfl (by kernel_rfl) rfl (by kernel_rfl) (by kernel_rfl) (by kernel_rfl) (by kernel_rfl) q3 q4 ?_
    exact ls_fin s0 _ (congrArg (fun z => upd z 6 _) hF.symm) ⟨rfl, rfl⟩ (sub_nil _)
  obtain ⟨y5, hy6, H⟩ := lt_some H
  obtain ⟨s2_5, hs2_5⟩ := exv (.int .u32 y5)
  refine have_opa crc_Go_1.tab0 2 5 (fun sp => sp 5 = s2_5 ∧ sp 4 = s2_4) (fun sp on hA hon => ?_) (fun ops2_5 => ?_)
  · refine ⟨fun o ho vs Rs f' S' w hp hf hx hS hR hs => ?_⟩
    obtain rfl := Option.some.inj ho
    obtain ⟨hv4, hR4⟩ := (spe hA.2 hs2_4 (hp 4 (by kernel_rfl)))
    rw [hA.1, hs2_5]
    refine wn hon ?_
    have hF := fr_next (rfl) ((hf 4 6 (by kernel_rfl) rfl).trans hv4)
    refine ls_fr hF ?_
    refine ls_load (a0 := ⟨pg1, (0 + (bits .and .u32 v0 (15 : Int)).toNat), none⟩) (v := .int .u32 (v1.1.getD (bits .and .u32 v0 (15 : Int)).toNat (0 : Int))) (de := (TypeDesc.int .u32)) rfl rfl (by kernel_rfl) rfl (by kernel_rfl) (by kernel_rfl) (by kernel_rfl) (fun w1 hs1 => cell_step hs1.below.bw (hs.var (k := 1) ((hS 1 (by kernel_rfl)).trans (by exact rfl)) (Sub4.trans (Sub4.all _) (Sub4.one (i := (bits .and .u32 v0 (15 : Int)).toNat) (Value.int .u32) v1.1 0 (by have := v1.2; omega))))) ?_
    refine ls_ren 7 (v := .int .u32 (v1.1.getD (bits .and .u32 v0 (15 : Int)).toNat (0 : Int))) (v' := .int .u32 y5) (by kernel_rfl) (by rw [hy6]) ?_
    exact ls_fin s0 _ ((upd_upd _ _ _ _).trans (congrArg (fun z => upd z 7 _) hF.symm)) ⟨rfl, rfl⟩ (sub_nil _)
  refine cs_draw crc_Go_1.tab0 6 2 (spl [s2_0, s2_1, s2_2, s2_3, s2_4, s2_5]) (onl [true, true, true, true, true, true]) (by kernel_rfl) (by kernel_rfl) (by kernel_rfl) (by kernel_rfl) (rs := [_, _]) rfl (by kernel_rfl) (by kernel_rfl) (all_snoc (all_snoc (all_snoc (all_snoc (all_snoc (all_snoc (all_nil) (ops2_0 _ _ rfl rfl)) (ops2_1 _ _ ⟨rfl, rfl⟩ rfl)) (ops2_2 _ _ rfl rfl)) (ops2_3 _ _ ⟨rfl, rfl⟩ rfl)) (ops2_4 _ _ ⟨rfl, rfl⟩ rfl)) (ops2_5 _ _ ⟨rfl, rfl⟩ rfl)) ?_
  intro vs Rs f' S' hp hf hx hS hR
  obtain ⟨hv1, hR1⟩ := (spe rfl hs2_1 (hp 1 (by kernel_rfl)))
  obtain ⟨hv5, hR5⟩ := (spe rfl hs2_5 (hp 5 (by kernel_rfl)))
  refine ls_fr (F := upd (upd (upd f' 0 (.pointer (some ⟨pg0, 0, none⟩))) 3 (.int .u32 (Int.fdiv v0 16))) 7 (.int .u32 y5)) (fr_next (fr_next (fr_next (rfl) ((hx 0 (by kernel_rfl)).trans (by kernel_rfl : (_ : Value) = .pointer (some ⟨pg0, 0, none⟩)))) ((hf 1 3 (by kernel_rfl) rfl).trans hv1)) ((hf 5 7 (by kernel_rfl) rfl).trans hv5)) ?_
  refine ls_sub (sput (sput s0 0 (some (Ck.var 23 pg0 ([Value.int .u32 v0])))) 1 (some (Ck.var 98 pg1 (en (Value.int .u32) v1.1)))) (sub_put ((hS 1 (by kernel_rfl)).trans (by exact rfl)) (sub_put ((hS 0 (by kernel_rfl)).trans (by exact rfl)) (sub_nil _))) ?_
  refine lv (.int .u32 (bits .xor .u32 (Int.fdiv v0 16) y5)) ?_
  refine ls_storec (g := pg0) (off := 0) (v := .int .u32 (bits .xor .u32 (Int.fdiv v0 16) y5)) (vs := [Value.int .u32 (bits .xor .u32 (Int.fdiv v0 16) y5)]) (cs := [Value.int .u32 v0]) (ty := 23) 0 rfl rfl rfl (by kernel_rfl) (by kernel_rfl) (by kernel_rfl) (by exact rfl) (by kernel_rfl) (len1 _) (one_cons rfl one_nil) (hl_of (Sub4.all _) (len_eq (len1 _) (len1 _))) (cs' := [Value.int .u32 (bits .xor .u32 (Int.fdiv v0 16) y5)]) (splc_all (len_eq (len1 _) (len1 _))) ?_
  refine ls_end ?_
  obtain rfl := Option.some.inj H
  refine qn_res (rs := []) rfl (fun w' hs => ⟨[], (.nil), (), rfl, hs.pick (ts := [0, 1]) (cs := [Ck.var 23 pg0 ([Value.int .u32 (bits .xor .u32 (Int.fdiv v0 16) y5)]), Ck.var 98 pg1 (en (Value.int .u32) v1.1)]) ⟨by exact rfl, by exact rfl, trivial⟩ (by decide)⟩)

/-! ### shadowbox/crc.Go: function 40 -/
def crc_Go.lo1 (l1 : List Int) (t1 : (Vc Int 16)) : Nat → Int → Int → Option (Int)
  | 0, _, _ => none
  | k1 + 1, x16_1, m1_1 => (if x16_1 < (l1.length : Int) then (if 0 ≤ x16_1 then lt (IntKind.wrap .u32 ((l1).getD (x16_1).toNat (0 : Int))) fun y12 => (crc_Go_1.f k1 (bits .xor .u32 m1_1 y12) t1).bind fun t14 => (crc_Go_1.f k1 t14 t1).bind fun t17 => (crc_Go.lo1 l1 t1 k1) (IntKind.wrap .i64 (x16_1 + (1 : Int))) t17 else none) else lt (bits .xor .u32 (if IntKind.signed .u32 then -1 else IntKind.max .u32) m1_1) fun y20 => some y20)
def crc_Go.f (k : Nat) (a0 : Int) (l1 : List Int) : Option (Int) :=
  (crc_halves.f k).bind fun t1 => lt (bits .xor .u32 (if IntKind.signed .u32 then -1 else IntKind.max .u32) a0) fun y5 => crc_Go.lo1 l1 t1 k (0 : Int) y5
set_option maxRecDepth 100000 in
set_option maxHeartbeats 4000000 in
theorem crc_Go.calls (k : Nat) (a0 : Int) (A1 : Option Addr) (c1 : Nat) (l1 : List Int) (r : Int) (b : Bs) (hs0 : St b (stl []) b.w) (R1 : Ro b A1 (em (Ec.int 5 .u8) l1)) (C1 : l1.length ≤ c1) (H : crc_Go.f k a0 l1 = some r) :
    Calls Try.prog 40 #[.int .u32 a0, .slice A1 l1.length c1] b.w fun e w' => ∃ x : Unit, e = .returned (.int .u32 r) ∧ St b (stl []) w' := by
  unfold crc_Go.f at H
  refine enterb (n := 31) Try.func40 rfl (by kernel_rfl) (by kernel_rfl) hs0 ?_
  refine cs_sub (s0) (sub_nil _) ?_
  refine cs_seq ?_
  refine cs_region (l := [_]) ?_
  refine lv (.int .u32 (0 : Int)) ?_
  refine ls_end ?_
  refine qn_then ?_
  refine cs_seq ?_
  refine cs_region (l := [_, _, _]) ?_
  obtain ⟨t1, hc2, H⟩ := bind_some H
  refine ls_callb (fid := 58) (vals := #[]) (X := Unit) (fun x => .agg ⟨en (Value.int .u32) t1.1⟩) (fun x => stl []) [] [] [] [] 0 rfl rfl (by kernel_rfl) (fun w => by kernel_rfl) trivial trivial (by decide) (fun w hs hb => crc_halves.calls k  t1 (lent b w [] []) hb  hc2) ?_
  intro x3
  refine ls_new rfl rfl (by kernel_rfl) 0 (fun g => .pointer (some ⟨g, 0, none⟩)) (.cells ⟨en (Value.int .u32) (vrep 16 (0 : Int)).1⟩ 98) (fun w => by kernel_rfl) ?_
  intro g4
  refine ls_storec (g := g4) (off := 0) (v := .agg ⟨en (Value.int .u32) t1.1⟩) (vs := en (Value.int .u32) t1.1) (cs := en (Value.int .u32) (vrep 16 (0 : Int)).1) (ty := 98) 0 rfl rfl rfl (by kernel_rfl) (by kernel_rfl) (by kernel_rfl) (by exact rfl) (by kernel_rfl) (len_en _ t1) (one_en (fun _ => rfl) _) (hl_of (Sub4.all _) (len_eq (len_en _ t1) (len_en _ (vrep 16 (0 : Int))))) (cs' := en (Value.int .u32) t1.1) (splc_all (len_eq (len_en _ t1) (len_en _ (vrep 16 (0 : Int))))) ?_
  refine ls_end ?_
  refine qn_then ?_
  refine cs_seq ?_
  refine cs_region (l := [_, _, _, _]) ?_
  refine lv (.int .u32 a0) ?_
  obtain ⟨y5, hy6, H⟩ := lt_some H
  refine lv (.int .u32 (bits .xor .u32 (if IntKind.signed .u32 then -1 else IntKind.max .u32) a0)) ?_
  refine ls_ren 12 (v := .int .u32 (bits .xor .u32 (if IntKind.signed .u32 then -1 else IntKind.max .u32) a0)) (v' := .int .u32 y5) (by kernel_rfl) (by rw [hy6]) ?_
  refine ls_new rfl rfl (by kernel_rfl) 1 (fun g => .pointer (some ⟨g, 0, none⟩)) (.cells ⟨[Value.int .u32 (0 : Int)]⟩ 23) (fun w => by kernel_rfl) ?_
  intro g7
  refine ls_storec (g := g7) (off := 0) (v := .int .u32 y5) (vs := [Value.int .u32 y5]) (cs := [Value.int .u32 (0 : Int)]) (ty := 23) 1 rfl rfl rfl (by kernel_rfl) (by kernel_rfl) (by kernel_rfl) (by exact rfl) (by kernel_rfl) (len1 _) (one_cons rfl one_nil) (hl_of (Sub4.all _) (len_eq (len1 _) (len1 _))) (cs' := [Value.int .u32 y5]) (splc_all (len_eq (len1 _) (len1 _))) ?_
  refine ls_end ?_
  refine qn_then ?_
  refine cs_seq ?_
  refine cs_region (l := [_, _]) ?_
  refine lv (.func (.func 59) #[] #[.pointer (some ⟨g7, 0, none⟩), .pointer (some ⟨g4, 0, none⟩)]) ?_
  refine lv (.func (.func 59) #[] #[.pointer (some ⟨g7, 0, none⟩), .pointer (some ⟨g4, 0, none⟩)]) ?_
  refine ls_end ?_
  refine qn_then ?_
  refine cs_seq ?_
  refine cs_seq ?_
  refine cs_region (l := [_, _, _]) ?_
  refine lv (.slice A1 l1.length c1) ?_
  refine lv (.int .i64 (l1.length : Int)) ?_
  refine lv (.int .i64 (0 : Int)) ?_
  refine ls_end ?_
  refine qn_then ?_
  refine cs_block ?_
  refine cs_sub (sput (sput s0 0 (some (Ck.var 98 g4 (en (Value.int .u32) t1.1)))) 1 (some (Ck.var 23 g7 ([Value.int .u32 y5])))) (sub_put (by exact rfl) (sub_put (by exact rfl) (sub_nil _))) ?_
  refine cs_loop (fun kk f S => ∃ (fR : Fr) (x16_1 : Int) (m1_1 : Int), f = upd (upd (upd (upd (upd fR 6 (.pointer (some ⟨g7, 0, none⟩))) 7 (.func (.func 59) #[] #[.pointer (some ⟨g7, 0, none⟩), .pointer (some ⟨g4, 0, none⟩)])) 14 (.slice A1 l1.length c1)) 15 (.int .i64 (l1.length : Int))) 16 (.int .i64 x16_1) ∧ S = sput (sput s0 0 (some (Ck.var 98 g4 (en (Value.int .u32) t1.1)))) 1 (some (Ck.var 23 g7 ([Value.int .u32 m1_1]))) ∧ crc_Go.lo1 l1 t1 kk x16_1 m1_1 = some r) k ?_ ?_ ?_
  · exact ⟨_, (0 : Int), y5, fr_next (fr_next (fr_next (fr_next (fr_next (rfl) (by kernel_rfl)) (by kernel_rfl)) (by kernel_rfl)) (by kernel_rfl)) (by kernel_rfl), rfl, H⟩
  · rintro f S ⟨fr1, x16_1, m1_1, rfl, rfl, H⟩; cases H
  rintro k1 f S ⟨fr1, x16_1, m1_1, rfl, rfl, H⟩
  replace H : ((if x16_1 < (l1.length : Int) then (if 0 ≤ x16_1 then lt (IntKind.wrap .u32 ((l1).getD (x16_1).toNat (0 : Int))) fun y12 => (crc_Go_1.f k1 (bits .xor .u32 m1_1 y12) t1).bind fun t14 => (crc_Go_1.f k1 t14 t1).bind fun t17 => (crc_Go.lo1 l1 t1 k1) (IntKind.wrap .i64 (x16_1 + (1 : Int))) t17 else none) else lt (bits .xor .u32 (if IntKind.signed .u32 then -1 else IntKind.max .u32) m1_1) fun y20 => some y20)) = some r := H
  refine cs_seq ?_
  refine cs_region (l := [_]) ?_
  refine lv (.bool (decide (x16_1 < (l1.length : Int)))) ?_
  refine ls_end ?_
  refine qn_then ?_
  refine cs_seq ?_
  by_cases q8 : x16_1 < (l1.length : Int)
  · replace H := ite_t q8 H
    refine cs_know (c := true) (dec_t q8) 17 (by kernel_rfl) ?_
    refine cs_true (by kernel_rfl) ?_
    refine cs_skip' ?_
    refine qn_then ?_
    refine cs_seq ?_
    refine cs_block ?_
    refine cs_seq ?_
    refine cs_region (l := [_, _, _]) ?_
    obtain ⟨q9, H⟩ := ite_need H
    obtain ⟨ad10, hA11⟩ := ido_at (T := (Ec.int 5 .u8)) (l := l1) (i := x16_1) R1 q9 q8
    refine ls_idxv (Ec.int 5 .u8) (A := A1) (c := c1) (l := l1) (k := .i64) (i := x16_1) (z := 1) (ad := ad10) rfl rfl (by kernel_rfl) hA11 rfl (by kernel_rfl) (by kernel_rfl) (by kernel_rfl) (by kernel_rfl) q9 q8 ?_
    refine ls_load (a0 := (ad10.add ((x16_1).toNat * 1))) (v := .int .u8 ((l1).getD (x16_1).toNat (0 : Int))) (de := (TypeDesc.int .u8)) rfl rfl (by kernel_rfl) rfl (by kernel_rfl) (by kernel_rfl) (by kernel_rfl) (fun w hs => (hs.old R1).at hA11 (em_sub (Ec.int 5 .u8) l1 (i := (x16_1).toNat) (by have h0 : (0 : Int) ≤ x16_1 := q9; have h1 : x16_1 < (l1.length : Int) := q8; omega))) ?_
    refine lv (.int .u8 ((l1).getD (x16_1).toNat (0 : Int))) ?_
    refine ls_end ?_
    refine qn_then ?_
    refine cs_seq ?_
    refine cs_region (l := [_, _, _, _, _]) ?_
    refine ls_load (a0 := ⟨g7, 0, none⟩) (v := .int .u32 m1_1) (de := (TypeDesc.int .u32)) rfl rfl (by kernel_rfl) rfl (by kernel_rfl) (by kernel_rfl) (by kernel_rfl) (fun w hs => (hs.var (k := 1) (by exact rfl) (Sub4.all _))) ?_
    refine lv (.int .u8 ((l1).getD (x16_1).toNat (0 : Int))) ?_
    obtain ⟨y12, hy13, H⟩ := lt_some H
    refine lv (.int .u32 (IntKind.wrap .u32 ((l1).getD (x16_1).toNat (0 : Int)))) ?_
    refine ls_ren 22 (v := .int .u32 (IntKind.wrap .u32 ((l1).getD (x16_1).toNat (0 : Int)))) (v' := .int .u32 y12) (by kernel_rfl) (by rw [hy13]) ?_
    refine lv (.int .u32 (bits .xor .u32 m1_1 y12)) ?_
    refine ls_storec (g := g7) (off := 0) (v := .int .u32 (bits .xor .u32 m1_1 y12)) (vs := [Value.int .u32 (bits .xor .u32 m1_1 y12)]) (cs := [Value.int .u32 m1_1]) (ty := 23) 1 rfl rfl rfl (by kernel_rfl) (by kernel_rfl) (by kernel_rfl) (by exact rfl) (by kernel_rfl) (len1 _) (one_cons rfl one_nil) (hl_of (Sub4.all _) (len_eq (len1 _) (len1 _))) (cs' := [Value.int .u32 (bits .xor .u32 m1_1 y12)]) (splc_all (len_eq (len1 _) (len1 _))) ?_
    refine ls_end ?_
    refine qn_then ?_
    refine cs_seq ?_
    refine cs_region (l := [_, _]) ?_
    refine lv (.func (.func 59) #[] #[.pointer (some ⟨g7, 0, none⟩), .pointer (some ⟨g4, 0, none⟩)]) ?_
    obtain ⟨t14, hc15, H⟩ := bind_some H
    refine ls_callb (fid := 59) (vals := #[.pointer (some ⟨g7, 0, none⟩), .pointer (some ⟨g4, 0, none⟩)]) (X := Unit) (fun x => .tuple #[]) (fun x => stl [Ck.var 23 g7 ([Value.int .u32 t14]), Ck.var 98 g4 (en (Value.int .u32) t1.1)]) [1, 0] [] [Ck.var 23 g7 ([Value.int .u32 (bits .xor .u32 m1_1 y12)]), Ck.var 98 g4 (en (Value.int .u32) t1.1)] [] 2 rfl rfl (by kernel_rfl) (fun w => by kernel_rfl) ⟨by exact rfl, by exact rfl, trivial⟩ trivial (by decide) (fun w hs hb => crc_Go_1.calls k1 g7 (bits .xor .u32 m1_1 y12) g4 t1 t14 (lent b w [Ck.var 23 g7 ([Value.int .u32 (bits .xor .u32 m1_1 y12)]), Ck.var 98 g4 (en (Value.int .u32) t1.1)] []) hb  hc15) ?_
    intro x16
    refine ls_end ?_
    refine qn_then ?_
    refine cs_region (l := [_, _]) ?_
    refine lv (.func (.func 59) #[] #[.pointer (some ⟨g7, 0, none⟩), .pointer (some ⟨g4, 0, none⟩)]) ?_
    obtain ⟨t17, hc18, H⟩ := bind_some H
    refine ls_callb (fid := 59) (vals := #[.pointer (some ⟨g7, 0, none⟩), .pointer (some ⟨g4, 0, none⟩)]) (X := Unit) (fun x => .tuple #[]) (fun x => stl [Ck.var 23 g7 ([Value.int .u32 t17]), Ck.var 98 g4 (en (Value.int .u32) t1.1)]) [1, 0] [] [Ck.var 23 g7 ([Value.int .u32 t14]), Ck.var 98 g4 (en (Value.int .u32) t1.1)] [] 2 rfl rfl (by kernel_rfl) (fun w => by kernel_rfl) ⟨by exact rfl, by exact rfl, trivial⟩ trivial (by decide) (fun w hs hb => crc_Go_1.calls k1 g7 t14 g4 t1 t17 (lent b w [Ck.var 23 g7 ([Value.int .u32 t14]), Ck.var 98 g4 (en (Value.int .u32) t1.1)] []) hb  hc18) ?_
    intro x19
    refine ls_end ?_
    refine qn_block ?_
    refine qn_then ?_
    refine cs_region (l := [_, _]) ?_
    refine lv (.int .i64 (IntKind.wrap .i64 (x16_1 + (1 : Int)))) ?_
    refine lv (.int .i64 (IntKind.wrap .i64 (x16_1 + (1 : Int)))) ?_
    refine ls_end ?_
    refine qn_again k1 (sput (sput s0 0 (some (Ck.var 98 g4 (en (Value.int .u32) t1.1)))) 1 (some (Ck.var 23 g7 ([Value.int .u32 t17])))) (Nat.le_refl _) ⟨_, (IntKind.wrap .i64 (x16_1 + (1 : Int))), t17, fr_next (fr_next (fr_next (fr_next (fr_next (rfl) (by kernel_rfl)) (by kernel_rfl)) (by kernel_rfl)) (by kernel_rfl)) (by kernel_rfl), rfl, H⟩ (sub_put (by exact rfl) (sub_put (by exact rfl) (sub_nil _)))
  replace H := ite_f q8 H
  refine cs_know (c := false) (dec_f q8) 17 (by kernel_rfl) ?_
  refine cs_false (by kernel_rfl) ?_
  refine cs_exit' ?_
  refine qx_then ?_
  refine qx_then ?_
  refine qx_same ?_
  refine qn_then ?_
  refine cs_seq ?_
  refine cs_region (l := [_, _, _]) ?_
  refine ls_load (a0 := ⟨g7, 0, none⟩) (v := .int .u32 m1_1) (de := (TypeDesc.int .u32)) rfl rfl (by kernel_rfl) rfl (by kernel_rfl) (by kernel_rfl) (by kernel_rfl) (fun w hs => (hs.var (k := 1) (by exact rfl) (Sub4.all _))) ?_
  obtain ⟨y20, hy21, H⟩ := lt_some H
  refine lv (.int .u32 (bits .xor .u32 (if IntKind.signed .u32 then -1 else IntKind.max .u32) m1_1)) ?_
  refine ls_ren 30 (v := .int .u32 (bits .xor .u32 (if IntKind.signed .u32 then -1 else IntKind.max .u32) m1_1)) (v' := .int .u32 y20) (by kernel_rfl) (by rw [hy21]) ?_
  refine lv (.int .u32 y20) ?_
  refine ls_end ?_
  refine qn_then ?_
  refine cs_ret' ?_
  obtain rfl := Option.some.inj H
  refine qr_res (rs := [_]) rfl (fun w' hs => ⟨[.int .u32 y20], (res_tmp (by kernel_rfl) (.nil)), (), rfl, hs.pick (ts := []) (cs := []) trivial (by decide)⟩)

/-! ### shadowbox/crc.Sum: function 30 -/
def crc_Sum.f (k : Nat) (l0 : List Int) : Option (Int) :=
  (crc_Go.f k (0 : Int) l0).bind fun t1 => some t1
set_option maxRecDepth 100000 in
set_option maxHeartbeats 4000000 in
theorem crc_Sum.calls (k : Nat) (A0 : Option Addr) (c0 : Nat) (l0 : List Int) (r : Int) (b : Bs) (hs0 : St b (stl []) b.w) (R0 : Ro b A0 (em (Ec.int 5 .u8) l0)) (C0 : l0.length ≤ c0) (H : crc_Sum.f k l0 = some r) :
    Calls Try.prog 30 #[.slice A0 l0.length c0] b.w fun e w' => ∃ x : Unit, e = .returned (.int .u32 r) ∧ St b (stl []) w' := by
  unfold crc_Sum.f at H
  refine enterb (n := 5) Try.func30 rfl (by kernel_rfl) (by kernel_rfl) hs0 ?_
  refine cs_sub (s0) (sub_nil _) ?_
  refine cs_seq ?_
  refine cs_region (l := [_]) ?_
  refine lv (.int .u32 (0 : Int)) ?_
  refine ls_end ?_
  refine qn_then ?_
  refine cs_seq ?_
  refine cs_region (l := [_, _, _]) ?_
  refine lv (.slice A0 l0.length c0) ?_
  obtain ⟨t1, hc2, H⟩ := bind_some H
  refine ls_callb (fid := 40) (vals := #[.int .u32 (0 : Int), .slice A0 l0.length c0]) (X := Unit) (fun x => .int .u32 t1) (fun x => stl []) [] [] [] [] 0 rfl rfl (by kernel_rfl) (fun w => by kernel_rfl) trivial trivial (by decide) (fun w hs hb => crc_Go.calls k (0 : Int) A0 c0 l0 t1 (lent b w [] []) hb (hs.ro R0 _ _) C0 hc2) ?_
  intro x3
  refine lv (.int .u32 t1) ?_
  refine ls_end ?_
  refine qn_then ?_
  refine cs_ret' ?_
  obtain rfl := Option.some.inj H
  refine qr_res (rs := [_]) rfl (fun w' hs => ⟨[.int .u32 t1], (res_tmp (by kernel_rfl) (.nil)), (), rfl, hs.pick (ts := []) (cs := []) trivial (by decide)⟩)

/-! ### shadowbox/sha.Begin: function 41 -/
def sha_Begin.cst0 : Vc Int 8 := ⟨[(1779033703 : Int), (3144134277 : Int), (1013904242 : Int), (2773480762 : Int), (1359893119 : Int), (2600822924 : Int), (528734635 : Int), (1541459225 : Int)], rfl⟩
def sha_Begin.f (k : Nat) : Option (((Vc Int 8) × Int)) :=
  some (sha_Begin.cst0, (0 : Int))
set_option maxRecDepth 100000 in
set_option maxHeartbeats 4000000 in
theorem sha_Begin.calls (k : Nat)  (r : ((Vc Int 8) × Int)) (b : Bs) (hs0 : St b (stl []) b.w) (H : sha_Begin.f k = some r) :
    Calls Try.prog 41 #[] b.w fun e w' => ∃ x : Unit, e = .returned (.agg ⟨(en (Value.int .u32) r.1.1 ++ [Value.int .u64 r.2])⟩) ∧ St b (stl []) w' := by
  unfold sha_Begin.f at H
  refine enterb (n := 3) Try.func41 rfl (by kernel_rfl) (by kernel_rfl) hs0 ?_
  refine cs_sub (s0) (sub_nil _) ?_
  refine cs_seq ?_
  refine cs_region (l := [_]) ?_
  refine ls_new rfl rfl (by kernel_rfl) 0 (fun g => .pointer (some ⟨g, 0, none⟩)) (.cells ⟨(en (Value.int .u32) (vrep 8 (0 : Int)).1 ++ [Value.int .u64 (0 : Int)])⟩ 79) (fun w => by kernel_rfl) ?_
  intro g1
  refine ls_end ?_
  refine qn_then ?_
  refine cs_seq ?_
  refine cs_region (l := [_, _, _]) ?_
  refine lv (.agg ⟨en (Value.int .u32) sha_Begin.cst0.1⟩) ?_
  refine ls_build (ps := [(0, .agg ⟨en (Value.int .u32) sha_Begin.cst0.1⟩)]) (pl := #[(0, 8), (8, 1)]) (zv := .agg ⟨(en (Value.int .u32) (vrep 8 (0 : Int)).1 ++ [Value.int .u64 (0 : Int)])⟩) (zc := (en (Value.int .u32) (vrep 8 (0 : Int)).1 ++ [Value.int .u64 (0 : Int)])) (r := (en (Value.int .u32) sha_Begin.cst0.1 ++ [Value.int .u64 (0 : Int)])) rfl rfl (by kernel_rfl) rfl (by kernel_rfl) (by kernel_rfl) (fun w => by kernel_rfl) (fun w => by kernel_rfl) rfl (fill_cons (vs := en (Value.int .u32) sha_Begin.cst0.1) (cs' := (en (Value.int .u32) sha_Begin.cst0.1 ++ [Value.int .u64 (0 : Int)])) (off := 0) (size := 8) rfl (by kernel_rfl) (len_en _ sha_Begin.cst0) (le_of_len (len_app (len_en _ (vrep 8 (0 : Int))) (len1 _)) (by decide)) (splc_in (Sub4.all _) (splc_head (len_eq (len_en _ sha_Begin.cst0) (len_en _ (vrep 8 (0 : Int))))) (splc_all (len_eq (len_app (len_en _ sha_Begin.cst0) (len1 _)) (len_app (len_en _ (vrep 8 (0 : Int))) (len1 _)))) (hl_of (Sub4.head _ _) (len_eq (len_en _ sha_Begin.cst0) (len_en _ (vrep 8 (0 : Int)))))) fill_nil) ?_
  refine ls_storec (g := g1) (off := 0) (v := .agg ⟨(en (Value.int .u32) sha_Begin.cst0.1 ++ [Value.int .u64 (0 : Int)])⟩) (vs := (en (Value.int .u32) sha_Begin.cst0.1 ++ [Value.int .u64 (0 : Int)])) (cs := (en (Value.int .u32) (vrep 8 (0 : Int)).1 ++ [Value.int .u64 (0 : Int)])) (ty := 79) 0 rfl rfl rfl (by kernel_rfl) (by kernel_rfl) (by kernel_rfl) (by exact rfl) (by kernel_rfl) (len_app (len_en _ sha_Begin.cst0) (len1 _)) (one_app (one_en (fun _ => rfl) _) (one_cons rfl one_nil)) (hl_of (Sub4.all _) (len_eq (len_app (len_en _ sha_Begin.cst0) (len1 _)) (len_app (len_en _ (vrep 8 (0 : Int))) (len1 _)))) (cs' := (en (Value.int .u32) sha_Begin.cst0.1 ++ [Value.int .u64 (0 : Int)])) (splc_all (len_eq (len_app (len_en _ sha_Begin.cst0) (len1 _)) (len_app (len_en _ (vrep 8 (0 : Int))) (len1 _)))) ?_
  refine ls_end ?_
  refine qn_then ?_
  refine cs_ret' ?_
  obtain rfl := Option.some.inj H
  refine qr_res (rs := [_]) rfl (fun w' hs => ⟨[.agg ⟨(en (Value.int .u32) sha_Begin.cst0.1 ++ [Value.int .u64 (0 : Int)])⟩], (.cell (by kernel_rfl) (run_cellres (by kernel_rfl) (by kernel_rfl) (len_app (len_en _ sha_Begin.cst0) (len1 _)) (hs.holds 0 _ (by exact rfl))) (.nil)), (), rfl, hs.pick (ts := []) (cs := []) trivial (by decide)⟩)

/-! ### math/bits.RotateLeft32: function 70 -/
def bits_RotateLeft32.f (k : Nat) (a0 : Int) (a1 : Int) : Option (Int) :=
  lt (bits .and .u64 (IntKind.wrap .u64 a1) (31 : Int)) fun y1 => (if 0 ≤ y1 then (if 0 ≤ IntKind.wrap .u64 ((32 : Int) - y1) then lt (shrv .u32 a0 (IntKind.wrap .u64 ((32 : Int) - y1))) fun y5 => some (bits .or .u32 (shlv .u32 a0 y1) y5) else none) else none)
set_option maxRecDepth 100000 in
set_option maxHeartbeats 4000000 in
theorem bits_RotateLeft32.calls (k : Nat) (a0 : Int) (a1 : Int) (r : Int) (b : Bs) (hs0 : St b (stl []) b.w) (H : bits_RotateLeft32.f k a0 a1 = some r) :
    Calls Try.prog 70 #[.int .u32 a0, .int .i64 a1] b.w fun e w' => ∃ x : Unit, e = .returned (.int .u32 r) ∧ St b (stl []) w' := by
  unfold bits_RotateLeft32.f at H
  refine enterb (n := 17) Try.func70 rfl (by kernel_rfl) (by kernel_rfl) hs0 ?_
  refine cs_sub (s0) (sub_nil _) ?_
  refine cs_seq ?_
  refine cs_region (l := [_]) ?_
  refine lv (.int .u32 (0 : Int)) ?_
  refine ls_end ?_
  refine qn_then ?_
  refine cs_seq ?_
  refine cs_region (l := [_, _, _, _]) ?_
  refine lv (.int .i64 a1) ?_
  refine lv (.int .u64 (IntKind.wrap .u64 a1)) ?_
  obtain ⟨y1, hy2, H⟩ := lt_some H
  refine lv (.int .u64 (bits .and .u64 (IntKind.wrap .u64 a1) (31 : Int))) ?_
  refine ls_ren 8 (v := .int .u64 (bits .and .u64 (IntKind.wrap .u64 a1) (31 : Int))) (v' := .int .u64 y1) (by kernel_rfl) (by rw [hy2]) ?_
  refine lv (.int .u64 y1) ?_
  refine ls_end ?_
  refine qn_then ?_
  refine cs_seq ?_
  refine cs_region (l := [_, _, _, _, _, _, _, _, _]) ?_
  refine lv (.int .u32 a0) ?_
  refine lv (.int .u64 y1) ?_
  obtain ⟨q3, H⟩ := ite_need H
  refine ls_shiftl (k := .u32) (yk := .u64) (x := a0) (y := y1) rfl rfl (by kernel_rfl) (fun w => by kernel_rfl) q3 ?_
  refine lv (.int .u32 a0) ?_
  refine lv (.int .u64 y1) ?_
  refine lv (.int .u64 (IntKind.wrap .u64 ((32 : Int) - y1))) ?_
  obtain ⟨q4, H⟩ := ite_need H
  obtain ⟨y5, hy6, H⟩ := lt_some H
  refine ls_shiftr (k := .u32) (yk := .u64) (x := a0) (y := (IntKind.wrap .u64 ((32 : Int) - y1))) rfl rfl (by kernel_rfl) (fun w => by kernel_rfl) q4 ?_
  refine ls_ren 15 (v := .int .u32 (shrv .u32 a0 (IntKind.wrap .u64 ((32 : Int) - y1)))) (v' := .int .u32 y5) (by kernel_rfl) (by rw [hy6]) ?_
  refine lv (.int .u32 (bits .or .u32 (shlv .u32 a0 y1) y5)) ?_
  refine lv (.int .u32 (bits .or .u32 (shlv .u32 a0 y1) y5)) ?_
  refine ls_end ?_
  refine qn_then ?_
  refine cs_ret' ?_
  obtain rfl := Option.some.inj H
  refine qr_res (rs := [_]) rfl (fun w' hs => ⟨[.int .u32 (bits .or .u32 (shlv .u32 a0 y1) y5)], (res_tmp (by kernel_rfl) (.nil)), (), rfl, hs.pick (ts := []) (cs := []) trivial (by decide)⟩)

/-! ### shadowbox/sha.down: function 62 -/
def sha_down.f (k : Nat) (a0 : Int) (a1 : Int) : Option (Int) :=
  (bits_RotateLeft32.f k a0 (IntKind.wrap .i64 (0 - a1))).bind fun t1 => some t1
set_option maxRecDepth 100000 in
set_option maxHeartbeats 4000000 in
theorem sha_down.calls (k : Nat) (a0 : Int) (a1 : Int) (r : Int) (b : Bs) (hs0 : St b (stl []) b.w) (H : sha_down.f k a0 a1 = some r) :
    Calls Try.prog 62 #[.int .u32 a0, .int .i64 a1] b.w fun e w' => ∃ x : Unit, e = .returned (.int .u32 r) ∧ St b (stl []) w' := by
  unfold sha_down.f at H
  refine enterb (n := 9) Try.func62 rfl (by kernel_rfl) (by kernel_rfl) hs0 ?_
  refine cs_sub (s0) (sub_nil _) ?_
  refine cs_seq ?_
  refine cs_region (l := [_]) ?_
  refine lv (.int .u32 (0 : Int)) ?_
  refine ls_end ?_
  refine qn_then ?_
  refine cs_seq ?_
  refine cs_region (l := [_, _, _, _, _]) ?_
  refine lv (.int .u32 a0) ?_
  refine lv (.int .i64 a1) ?_
  refine lv (.int .i64 (IntKind.wrap .i64 (0 - a1))) ?_
  obtain ⟨t1, hc2, H⟩ := bind_some H
  refine ls_callb (fid := 70) (vals := #[.int .u32 a0, .int .i64 (IntKind.wrap .i64 (0 - a1))]) (X := Unit) (fun x => .int .u32 t1) (fun x => stl []) [] [] [] [] 0 rfl rfl (by kernel_rfl) (fun w => by kernel_rfl) trivial trivial (by decide) (fun w hs hb => bits_RotateLeft32.calls k a0 (IntKind.wrap .i64 (0 - a1)) t1 (lent b w [] []) hb  hc2) ?_
  intro x3
  refine lv (.int .u32 t1) ?_
  refine ls_end ?_
  refine qn_then ?_
  refine cs_ret' ?_
  obtain rfl := Option.some.inj H
  refine qr_res (rs := [_]) rfl (fun w' hs => ⟨[.int .u32 t1], (res_tmp (by kernel_rfl) (.nil)), (), rfl, hs.pick (ts := []) (cs := []) trivial (by decide)⟩)

/-! ### shadowbox/sha.spread: function 60 -/
def sha_spread.tab3 : List (List Nat) := [[], [0], [0, 1], [0, 1, 2], [], [4], [4, 5], [4, 5, 6], [0, 1, 2, 3], [0, 1, 2, 3, 4, 5, 6, 7, 8]]
def sha_spread.tab13 : List (List Nat) := [[], [], [1], [], [1, 2, 3], [1, 2, 3, 4], [], [6], [1, 2, 3, 4, 5, 6, 7], [], [9], [9, 10], [9, 10, 11], [1, 2, 3, 4, 5, 6, 7, 8, 9, 10, 11, 12], [], [1, 2, 3, 4, 14], [], [1, 2, 3, 4, 14, 15, 16], [1, 2, 3, 4, 14, 15, 16, 17], [], [19], [1, 2, 3, 4, 14, 15, 16, 17, 18, 19, 20], [1, 2, 3, 4, 5, 6, 7, 8, 9, 10, 11, 12, 13, 14, 15, 16, 17, 18, 19, 20, 21], [], [23], [23, 24], [23, 24, 25], [1, 2, 3, 4, 5, 6, 7, 8, 9, 10, 11, 12, 13, 14, 15, 16, 17, 18, 19, 20, 21, 22, 23, 24, 25, 26], [0, 1, 2, 3, 4, 5, 6, 7, 8, 9, 10, 11, 12, 13, 14, 15, 16, 17, 18, 19, 20, 21, 22, 23, 24, 25, 26, 27], [0, 1, 2, 3, 4, 5, 6, 7, 8, 9, 10, 11, 12, 13, 14, 15, 16, 17, 18, 19, 20, 21, 22, 23, 24, 25, 26, 27, 28]]
def sha_spread.jo3 (x6_2 : Int) (m2_2 : (Vc Int 64)) (k2 : Nat) (lo2 : Int → ((Vc Int 64)) → Option ((Vc Int 64))) : Option ((Vc Int 64)) := (if 0 ≤ IntKind.wrap .i64 (x6_2 - (2 : Int)) then (if IntKind.wrap .i64 (x6_2 - (2 : Int)) < (64 : Int) then lt ((m2_2.1.getD (IntKind.wrap .i64 (x6_2 - (2 : Int))).toNat (0 : Int))) fun y8 => (if 0 ≤ IntKind.wrap .i64 (x6_2 - (15 : Int)) then (if IntKind.wrap .i64 (x6_2 - (15 : Int)) < (64 : Int) then lt ((m2_2.1.getD (IntKind.wrap .i64 (x6_2 - (15 : Int))).toNat (0 : Int))) fun y12 => (sha_down.f k2 y8 (17 : Int)).bind fun t16 => (sha_down.f k2 y8 (19 : Int)).bind fun t19 => lt (bits .xor .u32 (bits .xor .u32 t16 t19) (Int.fdiv y8 1024)) fun y22 => (if 0 ≤ IntKind.wrap .i64 (x6_2 - (7 : Int)) then (if IntKind.wrap .i64 (x6_2 - (7 : Int)) < (64 : Int) then lt ((m2_2.1.getD (IntKind.wrap .i64 (x6_2 - (7 : Int))).toNat (0 : Int))) fun y26 => (sha_down.f k2 y12 (7 : Int)).bind fun t28 => (sha_down.f k2 y12 (18 : Int)).bind fun t31 => lt (bits .xor .u32 (bits .xor .u32 t28 t31) (Int.fdiv y12 8)) fun y34 => lt (IntKind.wrap .u32 ((IntKind.wrap .u32 (y22 + y26)) + y34)) fun y36 => (if 0 ≤ IntKind.wrap .i64 (x6_2 - (16 : Int)) then (if IntKind.wrap .i64 (x6_2 - (16 : Int)) < (64 : Int) then lt ((m2_2.1.getD (IntKind.wrap .i64 (x6_2 - (16 : Int))).toNat (0 : Int))) fun y40 => (if 0 ≤ x6_2 then (if x6_2 < (64 : Int) then lt (vset m2_2 (x6_2).toNat (IntKind.wrap .u32 (y36 + y40))) fun y44 => lo2 (IntKind.wrap .i64 (x6_2 + (1 : Int))) y44 else none) else none) else none) else none) else none) else none) else none) else none) else none) else none)
def sha_spread.lo2 : Nat → Int → ((Vc Int 64)) → Option ((Vc Int 64))
  | 0, _, _ => none
  | k2 + 1, x6_2, m2_2 => (if x6_2 < (64 : Int) then (sha_spread.jo3 x6_2 m2_2 k2 (sha_spread.lo2 k2)) else some m2_2)
def sha_spread.jo1 (k : Nat) (m2_1 : (Vc Int 64)) : Option ((Vc Int 64)) := sha_spread.lo2 k (16 : Int) m2_1
def sha_spread.lo4 (a0 : (Vc Int 64)) (jo1 : ((Vc Int 64)) → Option ((Vc Int 64))) : Nat → Int → ((Vc Int 64)) → Option ((Vc Int 64))
  | 0, _, _ => none
  | k4 + 1, x10_4, m2_4 => (if x10_4 < (64 : Int) then (if 0 ≤ x10_4 then lt (IntKind.wrap .i64 (Int.tdiv x10_4 (4 : Int))) fun y49 => lt (IntKind.wrap .i64 (Int.tdiv x10_4 (4 : Int))) fun y51 => (if 0 ≤ y51 then (if y51 < (64 : Int) then lt (IntKind.wrap .u32 ((m2_4.1.getD (y51).toNat (0 : Int)) * 256)) fun y55 => lt (IntKind.wrap .u32 (a0.1.getD (x10_4).toNat (0 : Int))) fun y57 => (if 0 ≤ y49 then (if y49 < (64 : Int) then lt (vset m2_4 (y49).toNat (bits .or .u32 y55 y57)) fun y61 => (sha_spread.lo4 a0 jo1 k4) (IntKind.wrap .i64 (x10_4 + (1 : Int))) y61 else none) else none) else none) else none) else none) else jo1 m2_4)
def sha_spread.f (k : Nat) (a0 : (Vc Int 64)) : Option ((Vc Int 64)) :=
  sha_spread.lo4 a0 (sha_spread.jo1 k) k (0 : Int) (vrep 64 (0 : Int))
set_option maxRecDepth 100000 in
set_option maxHeartbeats 4000000 in
theorem sha_spread.calls (k : Nat) (a0 : (Vc Int 64)) (r : (Vc Int 64)) (b : Bs) (hs0 : St b (stl []) b.w) (H : sha_spread.f k a0 = some r) :
    Calls Try.prog 60 #[.agg ⟨en (Value.int .u8) a0.1⟩] b.w fun e w' => ∃ x : Unit, e = .returned (.agg ⟨en (Value.int .u32) r.1⟩) ∧ St b (stl []) w' := by
  unfold sha_spread.f at H
  refine enterb (n := 68) Try.func60 rfl (by kernel_rfl) (by kernel_rfl) hs0 ?_
  refine cs_sub (s0) (sub_nil _) ?_
  refine cs_seq ?_
  refine cs_region (l := [_, _]) ?_
  refine ls_new rfl rfl (by kernel_rfl) 0 (fun g => .pointer (some ⟨g, 0, none⟩)) (.cells ⟨en (Value.int .u8) a0.1⟩ 82) (fun w => by kernel_rfl) ?_
  intro g1
  refine ls_new rfl rfl (by kernel_rfl) 1 (fun g => .pointer (some ⟨g, 0, none⟩)) (.cells ⟨en (Value.int .u32) (vrep 64 (0 : Int)).1⟩ 69) (fun w => by kernel_rfl) ?_
  intro g2
  refine ls_end ?_
  refine qn_then ?_
  refine cs_seq ?_
  refine cs_region (l := [_]) ?_
  refine ls_new rfl rfl (by kernel_rfl) 2 (fun g => .pointer (some ⟨g, 0, none⟩)) (.cells ⟨en (Value.int .u32) (vrep 64 (0 : Int)).1⟩ 69) (fun w => by kernel_rfl) ?_
  intro g3
  refine ls_end ?_
  refine qn_then ?_
  refine cs_cut (fun f S => ∃ (fR : Fr) (m2_1 : (Vc Int 64)), f = upd (upd fR 2 (.pointer (some ⟨g2, 0, none⟩))) 3 (.pointer (some ⟨g3, 0, none⟩)) ∧ S = sput (sput s0 1 (some (Ck.var 69 g2 (en (Value.int .u32) (vrep 64 (0 : Int)).1)))) 2 (some (Ck.var 69 g3 (en (Value.int .u32) m2_1.1))) ∧ sha_spread.jo1 k m2_1 = some r) ?_ ?_
  · skip
    refine cs_seq ?_
    refine cs_region (l := [_, _]) ?_
    refine ls_loadagg (a := ⟨g1, 0, none⟩) (sub := en (Value.int .u8) a0.1) rfl rfl (by kernel_rfl) rfl (by kernel_rfl) (by kernel_rfl) (by kernel_rfl) (len_en _ a0) (fun w hs => (hs.vars (k := 0) (by exact rfl) (Sub4.all _))) ?_
    refine lv (.int .i64 (0 : Int)) ?_
    refine ls_end ?_
    refine qn_then ?_
    refine cs_block ?_
    refine cs_sub (sput (sput s0 1 (some (Ck.var 69 g2 (en (Value.int .u32) (vrep 64 (0 : Int)).1)))) 2 (some (Ck.var 69 g3 (en (Value.int .u32) (vrep 64 (0 : Int)).1)))) (sub_put (by exact rfl) (sub_put (by exact rfl) (sub_nil _))) ?_
    refine cs_loop (fun kk f S => ∃ (fR : Fr) (x10_4 : Int) (m2_4 : (Vc Int 64)), f = upd (upd (upd (upd fR 2 (.pointer (some ⟨g2, 0, none⟩))) 3 (.pointer (some ⟨g3, 0, none⟩))) 9 (.agg ⟨en (Value.int .u8) a0.1⟩)) 10 (.int .i64 x10_4) ∧ S = sput (sput s0 1 (some (Ck.var 69 g2 (en (Value.int .u32) (vrep 64 (0 : Int)).1)))) 2 (some (Ck.var 69 g3 (en (Value.int .u32) m2_4.1))) ∧ sha_spread.lo4 a0 (sha_spread.jo1 k) kk x10_4 m2_4 = some r) k ?_ ?_ ?_
    · exact ⟨_, (0 : Int), (vrep 64 (0 : Int)), fr_next (fr_next (fr_next (fr_next (rfl) (by kernel_rfl)) (by kernel_rfl)) (by kernel_rfl)) (by kernel_rfl), rfl, H⟩
    · rintro f S ⟨fr4, x10_4, m2_4, rfl, rfl, H⟩; cases H
    rintro k4 f S ⟨fr4, x10_4, m2_4, rfl, rfl, H⟩
    replace H : ((if x10_4 < (64 : Int) then (if 0 ≤ x10_4 then lt (IntKind.wrap .i64 (Int.tdiv x10_4 (4 : Int))) fun y49 => lt (IntKind.wrap .i64 (Int.tdiv x10_4 (4 : Int))) fun y51 => (if 0 ≤ y51 then (if y51 < (64 : Int) then lt (IntKind.wrap .u32 ((m2_4.1.getD (y51).toNat (0 : Int)) * 256)) fun y55 => lt (IntKind.wrap .u32 (a0.1.getD (x10_4).toNat (0 : Int))) fun y57 => (if 0 ≤ y49 then (if y49 < (64 : Int) then lt (vset m2_4 (y49).toNat (bits .or .u32 y55 y57)) fun y61 => (sha_spread.lo4 a0 (sha_spread.jo1 k) k4) (IntKind.wrap .i64 (x10_4 + (1 : Int))) y61 else none) else none) else none) else none) else none) else (sha_spread.jo1 k) m2_4)) = some r := H
    refine cs_seq ?_
    refine cs_region (l := [_]) ?_
    refine lv (.bool (decide (x10_4 < (64 : Int)))) ?_
    refine ls_end ?_
    refine qn_then ?_
    refine cs_seq ?_
    by_cases q47 : x10_4 < (64 : Int)
    · replace H := ite_t q47 H
      refine cs_know (c := true) (dec_t q47) 11 (by kernel_rfl) ?_
      refine cs_true (by kernel_rfl) ?_
      refine cs_skip' ?_
      refine qn_then ?_
      refine cs_seq ?_
      refine cs_block ?_
      refine cs_seq ?_
      refine cs_region (l := [_, _, _, _]) ?_
      refine lv (.int .i64 x10_4) ?_
      obtain ⟨q48, H⟩ := ite_need H
      refine ls_index (l := a0.1) (E := (Value.int .u8)) (i := x10_4) (kk := .i64) (ln := 64) (e := 5) rfl rfl (by kernel_rfl) a0.2 rfl (by kernel_rfl) (by kernel_rfl) (by kernel_rfl) (by kernel_rfl) (by kernel_rfl) q48 q47 0 ?_
      refine lv (.int .i64 x10_4) ?_
      refine lv (.int .u8 (a0.1.getD (x10_4).toNat (0 : Int))) ?_
      refine ls_end ?_
      refine qn_then ?_
      refine cs_region (l := [_, _, _, _, _, _, _, _, _, _, _, _]) ?_
      refine lv (.int .i64 x10_4) ?_
      obtain ⟨y49, hy50, H⟩ := lt_some H
      refine lv (.int .i64 (IntKind.wrap .i64 (Int.tdiv x10_4 (4 : Int)))) ?_
      refine ls_ren 15 (v := .int .i64 (IntKind.wrap .i64 (Int.tdiv x10_4 (4 : Int)))) (v' := .int .i64 y49) (by kernel_rfl) (by rw [hy50]) ?_
      refine lv (.int .i64 x10_4) ?_
      obtain ⟨y51, hy52, H⟩ := lt_some H
      refine lv (.int .i64 (IntKind.wrap .i64 (Int.tdiv x10_4 (4 : Int)))) ?_
      refine ls_ren 17 (v := .int .i64 (IntKind.wrap .i64 (Int.tdiv x10_4 (4 : Int)))) (v' := .int .i64 y51) (by kernel_rfl) (by rw [hy52]) ?_
      obtain ⟨q53, H⟩ := ite_need H
      obtain ⟨q54, H⟩ := ite_need H
      refine ls_idxa1 (g := g3) (off := 0) (i := y51) (kk := .i64) (ln := 64) (e := 23) rfl rfl (by kernel_rfl) rfl (by kernel_rfl) (by kernel_rfl) (by kernel_rfl) (by kernel_rfl) q53 q54 ?_
      refine ls_load (a0 := ⟨g3, (0 + (y51).toNat), none⟩) (v := .int .u32 (m2_4.1.getD (y51).toNat (0 : Int))) (de := (TypeDesc.int .u32)) rfl rfl (by kernel_rfl) rfl (by kernel_rfl) (by kernel_rfl) (by kernel_rfl) (fun w hs => (hs.var (k := 2) (by exact rfl) (Sub4.trans (Sub4.all _) (Sub4.one (i := (y51).toNat) (Value.int .u32) m2_4.1 0 (by have := m2_4.2; omega))))) ?_
      obtain ⟨y55, hy56, H⟩ := lt_some H
      refine lv (.int .u32 (IntKind.wrap .u32 ((m2_4.1.getD (y51).toNat (0 : Int)) * 256))) ?_
      refine ls_ren 20 (v := .int .u32 (IntKind.wrap .u32 ((m2_4.1.getD (y51).toNat (0 : Int)) * 256))) (v' := .int .u32 y55) (by kernel_rfl) (by rw [hy56]) ?_
      refine lv (.int .u8 (a0.1.getD (x10_4).toNat (0 : Int))) ?_
      obtain ⟨y57, hy58, H⟩ := lt_some H
      refine lv (.int .u32 (IntKind.wrap .u32 (a0.1.getD (x10_4).toNat (0 : Int)))) ?_
      refine ls_ren 22 (v := .int .u32 (IntKind.wrap .u32 (a0.1.getD (x10_4).toNat (0 : Int)))) (v' := .int .u32 y57) (by kernel_rfl) (by rw [hy58]) ?_
      refine lv (.int .u32 (bits .or .u32 y55 y57)) ?_
      obtain ⟨q59, H⟩ := ite_need H
      obtain ⟨q60, H⟩ := ite_need H
      refine ls_idxa1 (g := g3) (off := 0) (i := y49) (kk := .i64) (ln := 64) (e := 23) rfl rfl (by kernel_rfl) rfl (by kernel_rfl) (by kernel_rfl) (by kernel_rfl) (by kernel_rfl) q59 q60 ?_
      obtain ⟨y61, hy62, H⟩ := lt_some H
      refine ls_storec (g := g3) (off := (0 + (y49).toNat)) (v := .int .u32 (bits .or .u32 y55 y57)) (vs := [Value.int .u32 (bits .or .u32 y55 y57)]) (cs := en (Value.int .u32) m2_4.1) (ty := 69) 2 rfl rfl rfl (by kernel_rfl) (by kernel_rfl) (by kernel_rfl) (by exact rfl) (by kernel_rfl) (len1 _) (one_cons rfl one_nil) (hl_of (Sub4.trans (Sub4.all _) (Sub4.one (i := (y49).toNat) (Value.int .u32) m2_4.1 0 (by have := m2_4.2; omega))) (len_eq (len1 _) (len1 _))) (cs' := en (Value.int .u32) y61.1) (splc_in (Sub4.all _) ((splc_one (Value.int .u32) m2_4.1 (bits .or .u32 y55 y57) (by have := m2_4.2; omega)).trans (congrArg (fun z : (Vc Int 64) => en (Value.int .u32) z.1) hy62)) (splc_all (len_eq (len_en _ y61) (len_en _ m2_4))) (hl_of (Sub4.one (i := (y49).toNat) (Value.int .u32) m2_4.1 0 (by have := m2_4.2; omega)) (len_eq (len1 _) (len1 _)))) ?_
      refine ls_end ?_
      refine qn_block ?_
      refine qn_then ?_
      refine cs_region (l := [_, _]) ?_
      refine lv (.int .i64 (IntKind.wrap .i64 (x10_4 + (1 : Int)))) ?_
      refine lv (.int .i64 (IntKind.wrap .i64 (x10_4 + (1 : Int)))) ?_
      refine ls_end ?_
      refine qn_again k4 (sput (sput s0 1 (some (Ck.var 69 g2 (en (Value.int .u32) (vrep 64 (0 : Int)).1)))) 2 (some (Ck.var 69 g3 (en (Value.int .u32) y61.1)))) (Nat.le_refl _) ⟨_, (IntKind.wrap .i64 (x10_4 + (1 : Int))), y61, fr_next (fr_next (fr_next (fr_next (rfl) (by kernel_rfl)) (by kernel_rfl)) (by kernel_rfl)) (by kernel_rfl), rfl, H⟩ (sub_put (by exact rfl) (sub_put (by exact rfl) (sub_nil _)))
    replace H := ite_f q47 H
    refine cs_know (c := false) (dec_f q47) 11 (by kernel_rfl) ?_
    refine cs_false (by kernel_rfl) ?_
    refine cs_exit' ?_
    refine qx_then ?_
    refine qx_then ?_
    refine qx_same ?_
    refine qn_meet (sput (sput s0 1 (some (Ck.var 69 g2 (en (Value.int .u32) (vrep 64 (0 : Int)).1)))) 2 (some (Ck.var 69 g3 (en (Value.int .u32) m2_4.1)))) ⟨_, m2_4, fr_next (fr_next (rfl) (by kernel_rfl)) (by kernel_rfl), rfl, H⟩ (sub_put (by exact rfl) (sub_put (by exact rfl) (sub_nil _)))
  rintro f S ⟨fr1, m2_1, rfl, rfl, H⟩
  replace H : (sha_spread.lo2 k (16 : Int) m2_1) = some r := H
  refine cs_seq ?_
  refine cs_seq ?_
  refine cs_region (l := [_]) ?_
  refine lv (.int .i64 (16 : Int)) ?_
  refine ls_end ?_
  refine qn_then ?_
  refine cs_block ?_
  refine cs_sub (sput (sput s0 1 (some (Ck.var 69 g2 (en (Value.int .u32) (vrep 64 (0 : Int)).1)))) 2 (some (Ck.var 69 g3 (en (Value.int .u32) m2_1.1)))) (sub_put (by exact rfl) (sub_put (by exact rfl) (sub_nil _))) ?_
  refine cs_loop (fun kk f S => ∃ (fR : Fr) (x6_2 : Int) (m2_2 : (Vc Int 64)), f = upd (upd (upd fR 2 (.pointer (some ⟨g2, 0, none⟩))) 3 (.pointer (some ⟨g3, 0, none⟩))) 6 (.int .i64 x6_2) ∧ S = sput (sput s0 1 (some (Ck.var 69 g2 (en (Value.int .u32) (vrep 64 (0 : Int)).1)))) 2 (some (Ck.var 69 g3 (en (Value.int .u32) m2_2.1))) ∧ sha_spread.lo2 kk x6_2 m2_2 = some r) k ?_ ?_ ?_
  · exact ⟨_, (16 : Int), m2_1, fr_next (fr_next (fr_next (rfl) (by kernel_rfl)) (by kernel_rfl)) (by kernel_rfl), rfl, H⟩
  · rintro f S ⟨fr2, x6_2, m2_2, rfl, rfl, H⟩; cases H
  rintro k2 f S ⟨fr2, x6_2, m2_2, rfl, rfl, H⟩
  replace H : ((if x6_2 < (64 : Int) then (sha_spread.jo3 x6_2 m2_2 k2 (sha_spread.lo2 k2)) else some m2_2)) = some r := H
  refine cs_cut (fun f S => ∃ (fR : Fr), f = upd (upd (upd fR 2 (.pointer (some ⟨g2, 0, none⟩))) 3 (.pointer (some ⟨g3, 0, none⟩))) 6 (.int .i64 x6_2) ∧ S = sput (sput s0 1 (some (Ck.var 69 g2 (en (Value.int .u32) (vrep 64 (0 : Int)).1)))) 2 (some (Ck.var 69 g3 (en (Value.int .u32) m2_2.1))) ∧ sha_spread.jo3 x6_2 m2_2 k2 (sha_spread.lo2 k2) = some r) ?_ ?_
  · skip
    refine cs_seq ?_
    refine cs_region (l := [_, _]) ?_
    refine lv (.int .i64 x6_2) ?_
    refine lv (.bool (decide (x6_2 < (64 : Int)))) ?_
    refine ls_end ?_
    refine qn_then ?_
    by_cases q46 : x6_2 < (64 : Int)
    · replace H := ite_t q46 H
      refine cs_know (c := true) (dec_t q46) 27 (by kernel_rfl) ?_
      refine cs_true (by kernel_rfl) ?_
      refine cs_skip' ?_
      refine qn_meet (sput (sput s0 1 (some (Ck.var 69 g2 (en (Value.int .u32) (vrep 64 (0 : Int)).1)))) 2 (some (Ck.var 69 g3 (en (Value.int .u32) m2_2.1)))) ⟨_, fr_next (fr_next (fr_next (rfl) (by kernel_rfl)) (by kernel_rfl)) (by kernel_rfl), rfl, H⟩ (sub_put (by exact rfl) (sub_put (by exact rfl) (sub_nil _)))
    replace H := ite_f q46 H
    refine cs_know (c := false) (dec_f q46) 27 (by kernel_rfl) ?_
    refine cs_false (by kernel_rfl) ?_
    refine cs_exit' ?_
    refine qx_then ?_
    refine qx_then ?_
    refine qx_same ?_
    refine qn_then ?_
    refine cs_seq ?_
    refine cs_region (l := [_, _]) ?_
    refine ls_loadagg (a := ⟨g3, 0, none⟩) (sub := en (Value.int .u32) m2_2.1) rfl rfl (by kernel_rfl) rfl (by kernel_rfl) (by kernel_rfl) (by kernel_rfl) (len_en _ m2_2) (fun w hs => (hs.vars (k := 2) (by exact rfl) (Sub4.all _))) ?_
    refine ls_storec (g := g2) (off := 0) (v := .agg ⟨en (Value.int .u32) m2_2.1⟩) (vs := en (Value.int .u32) m2_2.1) (cs := en (Value.int .u32) (vrep 64 (0 : Int)).1) (ty := 69) 1 rfl rfl rfl (by kernel_rfl) (by kernel_rfl) (by kernel_rfl) (by exact rfl) (by kernel_rfl) (len_en _ m2_2) (one_en (fun _ => rfl) _) (hl_of (Sub4.all _) (len_eq (len_en _ m2_2) (len_en _ (vrep 64 (0 : Int))))) (cs' := en (Value.int .u32) m2_2.1) (splc_all (len_eq (len_en _ m2_2) (len_en _ (vrep 64 (0 : Int))))) ?_
    refine ls_end ?_
    refine qn_then ?_
    refine cs_ret' ?_
    obtain rfl := Option.some.inj H
    refine qr_res (rs := [_]) rfl (fun w' hs => ⟨[.agg ⟨en (Value.int .u32) m2_2.1⟩], (.cell (by kernel_rfl) (run_cellres (by kernel_rfl) (by kernel_rfl) (len_en _ m2_2) (hs.holds 1 _ (by exact rfl))) (.nil)), (), rfl, hs.pick (ts := []) (cs := []) trivial (by decide)⟩)
  rintro f S ⟨fr3, rfl, rfl, H⟩
  replace H : ((if 0 ≤ IntKind.wrap .i64 (x6_2 - (2 : Int)) then (if IntKind.wrap .i64 (x6_2 - (2 : Int)) < (64 : Int) then lt ((m2_2.1.getD (IntKind.wrap .i64 (x6_2 - (2 : Int))).toNat (0 : Int))) fun y8 => (if 0 ≤ IntKind.wrap .i64 (x6_2 - (15 : Int)) then (if IntKind.wrap .i64 (x6_2 - (15 : Int)) < (64 : Int) then lt ((m2_2.1.getD (IntKind.wrap .i64 (x6_2 - (15 : Int))).toNat (0 : Int))) fun y12 => (sha_down.f k2 y8 (17 : Int)).bind fun t16 => (sha_down.f k2 y8 (19 : Int)).bind fun t19 => lt (bits .xor .u32 (bits .xor .u32 t16 t19) (Int.fdiv y8 1024)) fun y22 => (if 0 ≤ IntKind.wrap .i64 (x6_2 - (7 : Int)) then (if IntKind.wrap .i64 (x6_2 - (7 : Int)) < (64 : Int) then lt ((m2_2.1.getD (IntKind.wrap .i64 (x6_2 - (7 : Int))).toNat (0 : Int))) fun y26 => (sha_down.f k2 y12 (7 : Int)).bind fun t28 => (sha_down.f k2 y12 (18 : Int)).bind fun t31 => lt (bits .xor .u32 (bits .xor .u32 t28 t31) (Int.fdiv y12 8)) fun y34 => lt (IntKind.wrap .u32 ((IntKind.wrap .u32 (y22 + y26)) + y34)) fun y36 => (if 0 ≤ IntKind.wrap .i64 (x6_2 - (16 : Int)) then (if IntKind.wrap .i64 (x6_2 - (16 : Int)) < (64 : Int) then lt ((m2_2.1.getD (IntKind.wrap .i64 (x6_2 - (16 : Int))).toNat (0 : Int))) fun y40 => (if 0 ≤ x6_2 then (if x6_2 < (64 : Int) then lt (vset m2_2 (x6_2).toNat (IntKind.wrap .u32 (y36 + y40))) fun y44 => (sha_spread.lo2 k2) (IntKind.wrap .i64 (x6_2 + (1 : Int))) y44 else none) else none) else none) else none) else none) else none) else none) else none) else none) else none)) = some r := H
  refine cs_seq ?_
  refine cs_block ?_
  refine cs_seq ?_
  obtain ⟨s5_0, hs5_0⟩ := exv (.int .i64 x6_2)
  refine have_opa sha_spread.tab3 3 0 (fun sp => sp 0 = s5_0) (fun sp on hA hon => ?_) (fun ops5_0 => ?_)
  · refine ⟨fun o ho vs Rs f' S' w hp hf hx hS hR hs => ?_⟩
    obtain rfl := Option.some.inj ho
    exact opv (.int .i64 x6_2) hA hs5_0 hon (fr_next (rfl) ((hx 6 (by kernel_rfl)).trans (by kernel_rfl : (_ : Value) = .int .i64 x6_2)))
  obtain ⟨s5_1, hs5_1⟩ := exv (.int .i64 (IntKind.wrap .i64 (x6_2 - (2 : Int))))
  refine have_opa sha_spread.tab3 3 1 (fun sp => sp 1 = s5_1 ∧ sp 0 = s5_0) (fun sp on hA hon => ?_) (fun ops5_1 => ?_)
  · refine ⟨fun o ho vs Rs f' S' w hp hf hx hS hR hs => ?_⟩
    obtain rfl := Option.some.inj ho
    obtain ⟨hv0, hR0⟩ := (spe hA.2 hs5_0 (hp 0 (by kernel_rfl)))
    exact opv (.int .i64 (IntKind.wrap .i64 (x6_2 - (2 : Int)))) hA.1 hs5_1 hon (fr_next (rfl) ((hf 0 30 (by kernel_rfl) rfl).trans hv0))
  obtain ⟨q6, H⟩ := ite_need H
  obtain ⟨q7, H⟩ := ite_need H
  obtain ⟨s5_2, hs5_2⟩ := exv (.pointer (some ⟨g3, (0 + (IntKind.wrap .i64 (x6_2 - (2 : Int))).toNat), none⟩))
  refine have_opa sha_spread.tab3 3 2 (fun sp => sp 2 = s5_2 ∧ sp 1 = s5_1) (fun sp on hA hon => ?_) (fun ops5_2 => ?_)
  · refine ⟨fun o ho vs Rs f' S' w hp hf hx hS hR hs => ?_⟩
    obtain rfl := Option.some.inj ho
    obtain ⟨hv1, hR1⟩ := (spe hA.2 hs5_1 (hp 1 (by kernel_rfl)))
    rw [hA.1, hs5_2]
    refine wn hon ?_
    have hF := fr_next (fr_next (rfl) ((hx 3 (by kernel_rfl)).trans (by kernel_rfl : (_ : Value) = .pointer (some ⟨g3, 0, none⟩)))) ((hf 1 31 (by kernel_rfl) rfl).trans hv1)
    refine ls_fr hF ?_
    refine ls_idxa1 (g := g3) (off := 0) (i := IntKind.wrap .i64 (x6_2 - (2 : Int))) (kk := .i64) (ln := 64) (e := 23) rfl rfl (by kernel_rfl) rfl (by kernel_rfl) (by kernel_rfl) (by kernel_rfl) (by kernel_rfl) q6 q7 ?_
    exact ls_fin s0 _ (congrArg (fun z => upd z 32 _) hF.symm) ⟨rfl, rfl⟩ (sub_nil _)
  obtain ⟨y8, hy9, H⟩ := lt_some H
  obtain ⟨s5_3, hs5_3⟩ := exv (.int .u32 y8)
  refine have_opa sha_spread.tab3 3 3 (fun sp => sp 3 = s5_3 ∧ sp 2 = s5_2) (fun sp on hA hon => ?_) (fun ops5_3 => ?_)
  · refine ⟨fun o ho vs Rs f' S' w hp hf hx hS hR hs => ?_⟩
    obtain rfl := Option.some.inj ho
    obtain ⟨hv2, hR2⟩ := (spe hA.2 hs5_2 (hp 2 (by kernel_rfl)))
    rw [hA.1, hs5_3]
    refine wn hon ?_
    have hF := fr_next (rfl) ((hf 2 32 (by kernel_rfl) rfl).trans hv2)
    refine ls_fr hF ?_
    refine ls_load (a0 := ⟨g3, (0 + (IntKind.wrap .i64 (x6_2 - (2 : Int))).toNat), none⟩) (v := .int .u32 (m2_2.1.getD (IntKind.wrap .i64 (x6_2 - (2 : Int))).toNat (0 : Int))) (de := (TypeDesc.int .u32)) rfl rfl (by kernel_rfl) rfl (by kernel_rfl) (by kernel_rfl) (by kernel_rfl) (fun w1 hs1 => cell_step hs1.below.bw (hs.var (k := 2) ((hS 2 (by kernel_rfl)).trans (by exact rfl)) (Sub4.trans (Sub4.all _) (Sub4.one (i := (IntKind.wrap .i64 (x6_2 - (2 : Int))).toNat) (Value.int .u32) m2_2.1 0 (by have := m2_2.2; omega))))) ?_
    refine ls_ren 33 (v := .int .u32 (m2_2.1.getD (IntKind.wrap .i64 (x6_2 - (2 : Int))).toNat (0 : Int))) (v' := .int .u32 y8) (by kernel_rfl) (by rw [hy9]) ?_
    exact ls_fin s0 _ ((upd_upd _ _ _ _).trans (congrArg (fun z => upd z 33 _) hF.symm)) ⟨rfl, rfl⟩ (sub_nil _)
  obtain ⟨s5_4, hs5_4⟩ := exv (.int .i64 x6_2)
  refine have_opa sha_spread.tab3 3 4 (fun sp => sp 4 = s5_4) (fun sp on hA hon => ?_) (fun ops5_4 => ?_)
  · refine ⟨fun o ho vs Rs f' S' w hp hf hx hS hR hs => ?_⟩
    obtain rfl := Option.some.inj ho
    exact opv (.int .i64 x6_2) hA hs5_4 hon (fr_next (rfl) ((hx 6 (by kernel_rfl)).trans (by kernel_rfl : (_ : Value) = .int .i64 x6_2)))
  obtain ⟨s5_5, hs5_5⟩ := exv (.int .i64 (IntKind.wrap .i64 (x6_2 - (15 : Int))))
  refine have_opa sha_spread.tab3 3 5 (fun sp => sp 5 = s5_5 ∧ sp 4 = s5_4) (fun sp on hA hon => ?_) (fun ops5_5 => ?_)
  · refine ⟨fun o ho vs Rs f' S' w hp hf hx hS hR hs => ?_⟩
    obtain rfl := Option.some.inj ho
    obtain ⟨hv4, hR4⟩ := (spe hA.2 hs5_4 (hp 4 (by kernel_rfl)))
    exact opv (.int .i64 (IntKind.wrap .i64 (x6_2 - (15 : Int)))) hA.1 hs5_5 hon (fr_next (rfl) ((hf 4 34 (by kernel_rfl) rfl).trans hv4))
  obtain ⟨q10, H⟩ := ite_need H
  obtain ⟨q11, H⟩ := ite_need H
  obtain ⟨s5_6, hs5_6⟩ := exv (.pointer (some ⟨g3, (0 + (IntKind.wrap .i64 (x6_2 - (15 : Int))).toNat), none⟩))
  refine have_opa sha_spread.tab3 3 6 (fun sp => sp 6 = s5_6 ∧ sp 5 = s5_5) (fun sp on hA hon => ?_) (fun ops5_6 => ?_)
  · refine ⟨fun o ho vs Rs f' S' w hp hf hx hS hR hs => ?_⟩
    obtain rfl := Option.some.inj ho
    obtain ⟨hv5, hR5⟩ := (spe hA.2 hs5_5 (hp 5 (by kernel_rfl)))
    rw [hA.1, hs5_6]
    refine wn hon ?_
    have hF := fr_next (fr_next (rfl) ((hx 3 (by kernel_rfl)).trans (by kernel_rfl : (_ : Value) = .pointer (some ⟨g3, 0, none⟩)))) ((hf 5 35 (by kernel_rfl) rfl).trans hv5)
    refine ls_fr hF ?_
    refine ls_idxa1 (g := g3) (off := 0) (i := IntKind.wrap .i64 (x6_2 - (15 : Int))) (kk := .i64) (ln := 64) (e := 23) rfl rfl (by kernel_rfl) rfl (by kernel_rfl) (by kernel_rfl) (by kernel_rfl) (by kernel_rfl) q10 q11 ?_
    exact ls_fin s0 _ (congrArg (fun z => upd z 36 _) hF.symm) ⟨rfl, rfl⟩ (sub_nil _)
  obtain ⟨y12, hy13, H⟩ := lt_some H
  obtain ⟨s5_7, hs5_7⟩ := exv (.int .u32 y12)
  refine have_opa sha_spread.tab3 3 7 (fun sp => sp 7 = s5_7 ∧ sp 6 = s5_6) (fun sp on hA hon => ?_) (fun ops5_7 => ?_)
  · refine ⟨fun o ho vs Rs f' S' w hp hf hx hS hR hs => ?_⟩
    obtain rfl := Option.some.inj ho
    obtain ⟨hv6, hR6⟩ := (spe hA.2 hs5_6 (hp 6 (by kernel_rfl)))
    rw [hA.1, hs5_7]
    refine wn hon ?_
    have hF := fr_next (rfl) ((hf 6 36 (by kernel_rfl) rfl).trans hv6)
    refine ls_fr hF ?_
    refine ls_load (a0 := ⟨g3, (0 + (IntKind.wrap .i64 (x6_2 - (15 : Int))).toNat), none⟩) (v := .int .u32 (m2_2.1.getD (IntKind.wrap .i64 (x6_2 - (15 : Int))).toNat (0 : Int))) (de := (TypeDesc.int .u32)) rfl rfl (by kernel_rfl) rfl (by kernel_rfl) (by kernel_rfl) (by kernel_rfl) (fun w1 hs1 => cell_step hs1.below.bw (hs.var (k := 2) ((hS 2 (by kernel_rfl)).trans (by exact rfl)) (Sub4.trans (Sub4.all _) (Sub4.one (i := (IntKind.wrap .i64 (x6_2 - (15 : Int))).toNat) (Value.int .u32) m2_2.1 0 (by have := m2_2.2; omega))))) ?_
    refine ls_ren 37 (v := .int .u32 (m2_2.1.getD (IntKind.wrap .i64 (x6_2 - (15 : Int))).toNat (0 : Int))) (v' := .int .u32 y12) (by kernel_rfl) (by rw [hy13]) ?_
    exact ls_fin s0 _ ((upd_upd _ _ _ _).trans (congrArg (fun z => upd z 37 _) hF.symm)) ⟨rfl, rfl⟩ (sub_nil _)
  obtain ⟨s5_8, hs5_8⟩ := exv (.int .u32 y8)
  refine have_opa sha_spread.tab3 3 8 (fun sp => sp 8 = s5_8 ∧ sp 3 = s5_3) (fun sp on hA hon => ?_) (fun ops5_8 => ?_)
  · refine ⟨fun o ho vs Rs f' S' w hp hf hx hS hR hs => ?_⟩
    obtain rfl := Option.some.inj ho
    obtain ⟨hv3, hR3⟩ := (spe hA.2 hs5_3 (hp 3 (by kernel_rfl)))
    exact opv (.int .u32 y8) hA.1 hs5_8 hon (fr_next (rfl) ((hf 3 33 (by kernel_rfl) rfl).trans hv3))
  refine cs_draw sha_spread.tab3 9 3 (spl [s5_0, s5_1, s5_2, s5_3, s5_4, s5_5, s5_6, s5_7, s5_8]) (onl [true, true, true, true, true, true, true, true, true]) (by kernel_rfl) (by kernel_rfl) (by kernel_rfl) (by kernel_rfl) (rs := [_]) rfl (by kernel_rfl) (by kernel_rfl) (all_snoc (all_snoc (all_snoc (all_snoc (all_snoc (all_snoc (all_snoc (all_snoc (all_snoc (all_nil) (ops5_0 _ _ rfl rfl)) (ops5_1 _ _ ⟨rfl, rfl⟩ rfl)) (ops5_2 _ _ ⟨rfl, rfl⟩ rfl)) (ops5_3 _ _ ⟨rfl, rfl⟩ rfl)) (ops5_4 _ _ rfl rfl)) (ops5_5 _ _ ⟨rfl, rfl⟩ rfl)) (ops5_6 _ _ ⟨rfl, rfl⟩ rfl)) (ops5_7 _ _ ⟨rfl, rfl⟩ rfl)) (ops5_8 _ _ ⟨rfl, rfl⟩ rfl)) ?_
  intro vs Rs f' S' hp hf hx hS hR
  obtain ⟨hv7, hR7⟩ := (spe rfl hs5_7 (hp 7 (by kernel_rfl)))
  obtain ⟨hv8, hR8⟩ := (spe rfl hs5_8 (hp 8 (by kernel_rfl)))
  refine ls_fr (F := upd (upd (upd (upd (upd f' 2 (.pointer (some ⟨g2, 0, none⟩))) 3 (.pointer (some ⟨g3, 0, none⟩))) 6 (.int .i64 x6_2)) 7 (.int .u32 y8)) 37 (.int .u32 y12)) (fr_next (fr_next (fr_next (fr_next (fr_next (rfl) ((hx 2 (by kernel_rfl)).trans (by kernel_rfl : (_ : Value) = .pointer (some ⟨g2, 0, none⟩)))) ((hx 3 (by kernel_rfl)).trans (by kernel_rfl : (_ : Value) = .pointer (some ⟨g3, 0, none⟩)))) ((hx 6 (by kernel_rfl)).trans (by kernel_rfl : (_ : Value) = .int .i64 x6_2))) ((hf 8 7 (by kernel_rfl) rfl).trans hv8)) ((hf 7 37 (by kernel_rfl) rfl).trans hv7)) ?_
  refine ls_sub (sput (sput s0 1 (some (Ck.var 69 g2 (en (Value.int .u32) (vrep 64 (0 : Int)).1)))) 2 (some (Ck.var 69 g3 (en (Value.int .u32) m2_2.1)))) (sub_put ((hS 2 (by kernel_rfl)).trans (by exact rfl)) (sub_put ((hS 1 (by kernel_rfl)).trans (by exact rfl)) (sub_nil _))) ?_
  refine lv (.int .u32 y12) ?_
  refine ls_end ?_
  refine qn_then ?_
  obtain ⟨s15_0, hs15_0⟩ := exv (.int .i64 x6_2)
  refine have_opa sha_spread.tab13 75 0 (fun sp => sp 0 = s15_0) (fun sp on hA hon => ?_) (fun ops15_0 => ?_)
  · refine ⟨fun o ho vs Rs f' S' w hp hf hx hS hR hs => ?_⟩
    obtain rfl := Option.some.inj ho
    exact opv (.int .i64 x6_2) hA hs15_0 hon (fr_next (rfl) ((hx 6 (by kernel_rfl)).trans (by kernel_rfl : (_ : Value) = .int .i64 x6_2)))
  obtain ⟨s15_1, hs15_1⟩ := exv (.int .u32 y8)
  refine have_opa sha_spread.tab13 75 1 (fun sp => sp 1 = s15_1) (fun sp on hA hon => ?_) (fun ops15_1 => ?_)
  · refine ⟨fun o ho vs Rs f' S' w hp hf hx hS hR hs => ?_⟩
    obtain rfl := Option.some.inj ho
    exact opv (.int .u32 y8) hA hs15_1 hon (fr_next (rfl) ((hx 7 (by kernel_rfl)).trans (by kernel_rfl : (_ : Value) = .int .u32 y8)))
  obtain ⟨t16, hc17, H⟩ := bind_some H
  obtain ⟨s15_2, hs15_2⟩ : ∃ z : Value → Sto → Prop, z = (fun v R => ∃ x18 : Unit, v = .int .u32 t16 ∧ R = stl []) := ⟨_, rfl⟩
  refine have_opa sha_spread.tab13 75 2 (fun sp => sp 2 = s15_2 ∧ sp 1 = s15_1) (fun sp on hA hon => ?_) (fun ops15_2 => ?_)
  · refine ⟨fun o ho vs Rs f' S' w hp hf hx hS hR hs => ?_⟩
    obtain rfl := Option.some.inj ho
    obtain ⟨hv1, hR1⟩ := (spe hA.2 hs15_1 (hp 1 (by kernel_rfl)))
    rw [hA.1, hs15_2]
    refine wn hon ?_
    have hF := fr_next (rfl) ((hf 1 39 (by kernel_rfl) rfl).trans hv1)
    refine ls_fr hF ?_
    refine ls_call (fid := 62) (vals := #[.int .u32 y8, .int .i64 (17 : Int)]) (X := Unit) (fun x => .int .u32 t16) (fun x => stl []) 0 rfl rfl (by kernel_rfl) (fun w => by kernel_rfl) (fun w1 hs1 => sha_down.calls k2 y8 (17 : Int) t16 (bw w1) (St.refl w1)  hc17) ?_
    intro x18
    exact ls_fin (stl []) (.int .u32 t16) (congrArg (fun z => upd z 40 _) hF.symm) ⟨x18, rfl, rfl⟩ (sub_join _)
  obtain ⟨s15_3, hs15_3⟩ := exv (.int .u32 y8)
  refine have_opa sha_spread.tab13 75 3 (fun sp => sp 3 = s15_3) (fun sp on hA hon => ?_) (fun ops15_3 => ?_)
  · refine ⟨fun o ho vs Rs f' S' w hp hf hx hS hR hs => ?_⟩
    obtain rfl := Option.some.inj ho
    exact opv (.int .u32 y8) hA hs15_3 hon (fr_next (rfl) ((hx 7 (by kernel_rfl)).trans (by kernel_rfl : (_ : Value) = .int .u32 y8)))
  obtain ⟨t19, hc20, H⟩ := bind_some H
  obtain ⟨s15_4, hs15_4⟩ : ∃ z : Value → Sto → Prop, z = (fun v R => ∃ x21 : Unit, v = .int .u32 t19 ∧ R = stl []) := ⟨_, rfl⟩
  refine have_opa sha_spread.tab13 75 4 (fun sp => sp 4 = s15_4 ∧ sp 3 = s15_3) (fun sp on hA hon => ?_) (fun ops15_4 => ?_)
  · refine ⟨fun o ho vs Rs f' S' w hp hf hx hS hR hs => ?_⟩
    obtain rfl := Option.some.inj ho
    obtain ⟨hv3, hR3⟩ := (spe hA.2 hs15_3 (hp 3 (by kernel_rfl)))
    rw [hA.1, hs15_4]
    refine wn hon ?_
    have hF := fr_next (rfl) ((hf 3 41 (by kernel_rfl) rfl).trans hv3)
    refine ls_fr hF ?_
    refine ls_call (fid := 62) (vals := #[.int .u32 y8, .int .i64 (19 : Int)]) (X := Unit) (fun x => .int .u32 t19) (fun x => stl []) 0 rfl rfl (by kernel_rfl) (fun w => by kernel_rfl) (fun w1 hs1 => sha_down.calls k2 y8 (19 : Int) t19 (bw w1) (St.refl w1)  hc20) ?_
    intro x21
    exact ls_fin (stl []) (.int .u32 t19) (congrArg (fun z => upd z 42 _) hF.symm) ⟨x21, rfl, rfl⟩ (sub_join _)
  obtain ⟨s15_5, hs15_5⟩ := exv (.int .u32 (bits .xor .u32 t16 t19))
  refine have_opa sha_spread.tab13 75 5 (fun sp => sp 5 = s15_5 ∧ sp 2 = s15_2 ∧ sp 4 = s15_4) (fun sp on hA hon => ?_) (fun ops15_5 => ?_)
  · refine ⟨fun o ho vs Rs f' S' w hp hf hx hS hR hs => ?_⟩
    obtain rfl := Option.some.inj ho
    obtain ⟨x18, hv2, hR2⟩ := (spe hA.2.1 hs15_2 (hp 2 (by kernel_rfl)))
    obtain ⟨x21, hv4, hR4⟩ := (spe hA.2.2 hs15_4 (hp 4 (by kernel_rfl)))
    exact opv (.int .u32 (bits .xor .u32 t16 t19)) hA.1 hs15_5 hon (fr_next (fr_next (rfl) ((hf 2 40 (by kernel_rfl) rfl).trans hv2)) ((hf 4 42 (by kernel_rfl) rfl).trans hv4))
  obtain ⟨s15_6, hs15_6⟩ := exv (.int .u32 y8)
  refine have_opa sha_spread.tab13 75 6 (fun sp => sp 6 = s15_6) (fun sp on hA hon => ?_) (fun ops15_6 => ?_)
  · refine ⟨fun o ho vs Rs f' S' w hp hf hx hS hR hs => ?_⟩
    obtain rfl := Option.some.inj ho
    exact opv (.int .u32 y8) hA hs15_6 hon (fr_next (rfl) ((hx 7 (by kernel_rfl)).trans (by kernel_rfl : (_ : Value) = .int .u32 y8)))
  obtain ⟨s15_7, hs15_7⟩ := exv (.int .u32 (Int.fdiv y8 1024))
  refine have_opa sha_spread.tab13 75 7 (fun sp => sp 7 = s15_7 ∧ sp 6 = s15_6) (fun sp on hA hon => ?_) (fun ops15_7 => ?_)
  · refine ⟨fun o ho vs Rs f' S' w hp hf hx hS hR hs => ?_⟩
    obtain rfl := Option.some.inj ho
    obtain ⟨hv6, hR6⟩ := (spe hA.2 hs15_6 (hp 6 (by kernel_rfl)))
    exact opv (.int .u32 (Int.fdiv y8 1024)) hA.1 hs15_7 hon (fr_next (rfl) ((hf 6 44 (by kernel_rfl) rfl).trans hv6))
  obtain ⟨y22, hy23, H⟩ := lt_some H
  obtain ⟨s15_8, hs15_8⟩ := exv (.int .u32 y22)
  refine have_opa sha_spread.tab13 75 8 (fun sp => sp 8 = s15_8 ∧ sp 5 = s15_5 ∧ sp 7 = s15_7) (fun sp on hA hon => ?_) (fun ops15_8 => ?_)
  · refine ⟨fun o ho vs Rs f' S' w hp hf hx hS hR hs => ?_⟩
    obtain rfl := Option.some.inj ho
    obtain ⟨hv5, hR5⟩ := (spe hA.2.1 hs15_5 (hp 5 (by kernel_rfl)))
    obtain ⟨hv7, hR7⟩ := (spe hA.2.2 hs15_7 (hp 7 (by kernel_rfl)))
    rw [hA.1, hs15_8]
    refine wn hon ?_
    have hF := fr_next (fr_next (rfl) ((hf 5 43 (by kernel_rfl) rfl).trans hv5)) ((hf 7 45 (by kernel_rfl) rfl).trans hv7)
    refine ls_fr hF ?_
    refine lv (.int .u32 (bits .xor .u32 (bits .xor .u32 t16 t19) (Int.fdiv y8 1024))) ?_
    refine ls_ren 46 (v := .int .u32 (bits .xor .u32 (bits .xor .u32 t16 t19) (Int.fdiv y8 1024))) (v' := .int .u32 y22) (by kernel_rfl) (by rw [hy23]) ?_
    exact ls_fin s0 _ ((upd_upd _ _ _ _).trans (congrArg (fun z => upd z 46 _) hF.symm)) ⟨rfl, rfl⟩ (sub_nil _)
  obtain ⟨s15_9, hs15_9⟩ := exv (.int .i64 x6_2)
  refine have_opa sha_spread.tab13 75 9 (fun sp => sp 9 = s15_9) (fun sp on hA hon => ?_) (fun ops15_9 => ?_)
  · refine ⟨fun o ho vs Rs f' S' w hp hf hx hS hR hs => ?_⟩
    obtain rfl := Option.some.inj ho
    exact opv (.int .i64 x6_2) hA hs15_9 hon (fr_next (rfl) ((hx 6 (by kernel_rfl)).trans (by kernel_rfl : (_ : Value) = .int .i64 x6_2)))
  obtain ⟨s15_10, hs15_10⟩ := exv (.int .i64 (IntKind.wrap .i64 (x6_2 - (7 : Int))))
  refine have_opa sha_spread.tab13 75 10 (fun sp => sp 10 = s15_10 ∧ sp 9 = s15_9) (fun sp on hA hon => ?_) (fun ops15_10 => ?_)
  · refine ⟨fun o ho vs Rs f' S' w hp hf hx hS hR hs => ?_⟩
    obtain rfl := Option.some.inj ho
    obtain ⟨hv9, hR9⟩ := (spe hA.2 hs15_9 (hp 9 (by kernel_rfl)))
    exact opv (.int .i64 (IntKind.wrap .i64 (x6_2 - (7 : Int)))) hA.1 hs15_10 hon (fr_next (rfl) ((hf 9 47 (by kernel_rfl) rfl).trans hv9))
  obtain ⟨q24, H⟩ := ite_need H
  obtain ⟨q25, H⟩ := ite_need H
  obtain ⟨s15_11, hs15_11⟩ := exv (.pointer (some ⟨g3, (0 + (IntKind.wrap .i64 (x6_2 - (7 : Int))).toNat), none⟩))
  refine have_opa sha_spread.tab13 75 11 (fun sp => sp 11 = s15_11 ∧ sp 10 = s15_10) (fun sp on hA hon => ?_) (fun ops15_11 => ?_)
  · refine ⟨fun o ho vs Rs f' S' w hp hf hx hS hR hs => ?_⟩
    obtain rfl := Option.some.inj ho
    obtain ⟨hv10, hR10⟩ := (spe hA.2 hs15_10 (hp 10 (by kernel_rfl)))
    rw [hA.1, hs15_11]
    refine wn hon ?_
    have hF := fr_next (fr_next (rfl) ((hx 3 (by kernel_rfl)).trans (by kernel_rfl : (_ : Value) = .pointer (some ⟨g3, 0, none⟩)))) ((hf 10 48 (by kernel_rfl) rfl).trans hv10)
    refine ls_fr hF ?_
    refine ls_idxa1 (g := g3) (off := 0) (i := IntKind.wrap .i64 (x6_2 - (7 : Int))) (kk := .i64) (ln := 64) (e := 23) rfl rfl (by kernel_rfl) rfl (by kernel_rfl) (by kernel_rfl) (by kernel_rfl) (by kernel_rfl) q24 q25 ?_
    exact ls_fin s0 _ (congrArg (fun z => upd z 49 _) hF.symm) ⟨rfl, rfl⟩ (sub_nil _)
  obtain ⟨y26, hy27, H⟩ := lt_some H
  obtain ⟨s15_12, hs15_12⟩ := exv (.int .u32 y26)
  refine have_opa sha_spread.tab13 75 12 (fun sp => sp 12 = s15_12 ∧ sp 11 = s15_11) (fun sp on hA hon => ?_) (fun ops15_12 => ?_)
  · refine ⟨fun o ho vs Rs f' S' w hp hf hx hS hR hs => ?_⟩
    obtain rfl := Option.some.inj ho
    obtain ⟨hv11, hR11⟩ := (spe hA.2 hs15_11 (hp 11 (by kernel_rfl)))
    rw [hA.1, hs15_12]
    refine wn hon ?_
    have hF := fr_next (rfl) ((hf 11 49 (by kernel_rfl) rfl).trans hv11)
    refine ls_fr hF ?_
    refine ls_load (a0 := ⟨g3, (0 + (IntKind.wrap .i64 (x6_2 - (7 : Int))).toNat), none⟩) (v := .int .u32 (m2_2.1.getD (IntKind.wrap .i64 (x6_2 - (7 : Int))).toNat (0 : Int))) (de := (TypeDesc.int .u32)) rfl rfl (by kernel_rfl) rfl (by kernel_rfl) (by kernel_rfl) (by kernel_rfl) (fun w1 hs1 => cell_step hs1.below.bw (hs.var (k := 2) ((hS 2 (by kernel_rfl)).trans (by exact rfl)) (Sub4.trans (Sub4.all _) (Sub4.one (i := (IntKind.wrap .i64 (x6_2 - (7 : Int))).toNat) (Value.int .u32) m2_2.1 0 (by have := m2_2.2; omega))))) ?_
    refine ls_ren 50 (v := .int .u32 (m2_2.1.getD (IntKind.wrap .i64 (x6_2 - (7 : Int))).toNat (0 : Int))) (v' := .int .u32 y26) (by kernel_rfl) (by rw [hy27]) ?_
    exact ls_fin s0 _ ((upd_upd _ _ _ _).trans (congrArg (fun z => upd z 50 _) hF.symm)) ⟨rfl, rfl⟩ (sub_nil _)
  obtain ⟨s15_13, hs15_13⟩ := exv (.int .u32 (IntKind.wrap .u32 (y22 + y26)))
  refine have_opa sha_spread.tab13 75 13 (fun sp => sp 13 = s15_13 ∧ sp 8 = s15_8 ∧ sp 12 = s15_12) (fun sp on hA hon => ?_) (fun ops15_13 => ?_)
  · refine ⟨fun o ho vs Rs f' S' w hp hf hx hS hR hs => ?_⟩
    obtain rfl := Option.some.inj ho
    obtain ⟨hv8, hR8⟩ := (spe hA.2.1 hs15_8 (hp 8 (by kernel_rfl)))
    obtain ⟨hv12, hR12⟩ := (spe hA.2.2 hs15_12 (hp 12 (by kernel_rfl)))
    exact opv (.int .u32 (IntKind.wrap .u32 (y22 + y26))) hA.1 hs15_13 hon (fr_next (fr_next (rfl) ((hf 8 46 (by kernel_rfl) rfl).trans hv8)) ((hf 12 50 (by kernel_rfl) rfl).trans hv12))
  obtain ⟨s15_14, hs15_14⟩ := exv (.int .u32 y12)
  refine have_opa sha_spread.tab13 75 14 (fun sp => sp 14 = s15_14) (fun sp on hA hon => ?_) (fun ops15_14 => ?_)
  · refine ⟨fun o ho vs Rs f' S' w hp hf hx hS hR hs => ?_⟩
    obtain rfl := Option.some.inj ho
    exact opv (.int .u32 y12) hA hs15_14 hon (fr_next (rfl) ((hx 8 (by kernel_rfl)).trans (by kernel_rfl : (_ : Value) = .int .u32 y12)))
  obtain ⟨t28, hc29, H⟩ := bind_some H
  obtain ⟨s15_15, hs15_15⟩ : ∃ z : Value → Sto → Prop, z = (fun v R => ∃ x30 : Unit, v = .int .u32 t28 ∧ R = stl []) := ⟨_, rfl⟩
  refine have_opa sha_spread.tab13 75 15 (fun sp => sp 15 = s15_15 ∧ sp 14 = s15_14) (fun sp on hA hon => ?_) (fun ops15_15 => ?_)
  · refine ⟨fun o ho vs Rs f' S' w hp hf hx hS hR hs => ?_⟩
    obtain rfl := Option.some.inj ho
    obtain ⟨hv14, hR14⟩ := (spe hA.2 hs15_14 (hp 14 (by kernel_rfl)))
    rw [hA.1, hs15_15]
    refine wn hon ?_
    have hF := fr_next (rfl) ((hf 14 52 (by kernel_rfl) rfl).trans hv14)
    refine ls_fr hF ?_
    refine ls_call (fid := 62) (vals := #[.int .u32 y12, .int .i64 (7 : Int)]) (X := Unit) (fun x => .int .u32 t28) (fun x => stl []) 0 rfl rfl (by kernel_rfl) (fun w => by kernel_rfl) (fun w1 hs1 => sha_down.calls k2 y12 (7 : Int) t28 (bw w1) (St.refl w1)  hc29) ?_
    intro x30
    exact ls_fin (stl []) (.int .u32 t28) (congrArg (fun z => upd z 53 _) hF.symm) ⟨x30, rfl, rfl⟩ (sub_join _)
  obtain ⟨s15_16, hs15_16⟩ := exv (.int .u32 y12)
  refine have_opa sha_spread.tab13 75 16 (fun sp => sp 16 = s15_16) (fun sp on hA hon => ?_) (fun ops15_16 => ?_)
  · refine ⟨fun o ho vs Rs f' S' w hp hf hx hS hR hs => ?_⟩
    obtain rfl := Option.some.inj ho
    exact opv (.int .u32 y12) hA hs15_16 hon (fr_next (rfl) ((hx 8 (by kernel_rfl)).trans (by kernel_rfl : (_ : Value) = .int .u32 y12)))
  obtain ⟨t31, hc32, H⟩ := bind_some H
  obtain ⟨s15_17, hs15_17⟩ : ∃ z : Value → Sto → Prop, z = (fun v R => ∃ x33 : Unit, v = .int .u32 t31 ∧ R = stl []) := ⟨_, rfl⟩
  refine have_opa sha_spread.tab13 75 17 (fun sp => sp 17 = s15_17 ∧ sp 16 = s15_16) (fun sp on hA hon => ?_) (fun ops15_17 => ?_)
  · refine ⟨fun o ho vs Rs f' S' w hp hf hx hS hR hs => ?_⟩
    obtain rfl := Option.some.inj ho
    obtain ⟨hv16, hR16⟩ := (spe hA.2 hs15_16 (hp 16 (by kernel_rfl)))
    rw [hA.1, hs15_17]
    refine wn hon ?_
    have hF := fr_next (rfl) ((hf 16 54 (by kernel_rfl) rfl).trans hv16)
    refine ls_fr hF ?_
    refine ls_call (fid := 62) (vals := #[.int .u32 y12, .int .i64 (18 : Int)]) (X := Unit) (fun x => .int .u32 t31) (fun x => stl []) 0 rfl rfl (by kernel_rfl) (fun w => by kernel_rfl) (fun w1 hs1 => sha_down.calls k2 y12 (18 : Int) t31 (bw w1) (St.refl w1)  hc32) ?_
    intro x33
    exact ls_fin (stl []) (.int .u32 t31) (congrArg (fun z => upd z 55 _) hF.symm) ⟨x33, rfl, rfl⟩ (sub_join _)
  obtain ⟨s15_18, hs15_18⟩ := exv (.int .u32 (bits .xor .u32 t28 t31))
  refine have_opa sha_spread.tab13 75 18 (fun sp => sp 18 = s15_18 ∧ sp 15 = s15_15 ∧ sp 17 = s15_17) (fun sp on hA hon => ?_) (fun ops15_18 => ?_)
  · refine ⟨fun o ho vs Rs f' S' w hp hf hx hS hR hs => ?_⟩
    obtain rfl := Option.some.inj ho
    obtain ⟨x30, hv15, hR15⟩ := (spe hA.2.1 hs15_15 (hp 15 (by kernel_rfl)))
    obtain ⟨x33, hv17, hR17⟩ := (spe hA.2.2 hs15_17 (hp 17 (by kernel_rfl)))
    exact opv (.int .u32 (bits .xor .u32 t28 t31)) hA.1 hs15_18 hon (fr_next (fr_next (rfl) ((hf 15 53 (by kernel_rfl) rfl).trans hv15)) ((hf 17 55 (by kernel_rfl) rfl).trans hv17))
  obtain ⟨s15_19, hs15_19⟩ := exv (.int .u32 y12)
  refine have_opa sha_spread.tab13 75 19 (fun sp => sp 19 = s15_19) (fun sp on hA hon => ?_) (fun ops15_19 => ?_)
  · refine ⟨fun o ho vs Rs f' S' w hp hf hx hS hR hs => ?_⟩
    obtain rfl := Option.some.inj ho
    exact opv (.int .u32 y12) hA hs15_19 hon (fr_next (rfl) ((hx 8 (by kernel_rfl)).trans (by kernel_rfl : (_ : Value) = .int .u32 y12)))
  obtain ⟨s15_20, hs15_20⟩ := exv (.int .u32 (Int.fdiv y12 8))
  refine have_opa sha_spread.tab13 75 20 (fun sp => sp 20 = s15_20 ∧ sp 19 = s15_19) (fun sp on hA hon => ?_) (fun ops15_20 => ?_)
  · refine ⟨fun o ho vs Rs f' S' w hp hf hx hS hR hs => ?_⟩
    obtain rfl := Option.some.inj ho
    obtain ⟨hv19, hR19⟩ := (spe hA.2 hs15_19 (hp 19 (by kernel_rfl)))
    exact opv (.int .u32 (Int.fdiv y12 8)) hA.1 hs15_20 hon (fr_next (rfl) ((hf 19 57 (by kernel_rfl) rfl).trans hv19))
  obtain ⟨y34, hy35, H⟩ := lt_some H
  obtain ⟨s15_21, hs15_21⟩ := exv (.int .u32 y34)
  refine have_opa sha_spread.tab13 75 21 (fun sp => sp 21 = s15_21 ∧ sp 18 = s15_18 ∧ sp 20 = s15_20) (fun sp on hA hon => ?_) (fun ops15_21 => ?_)
  · refine ⟨fun o ho vs Rs f' S' w hp hf hx hS hR hs => ?_⟩
    obtain rfl := Option.some.inj ho
    obtain ⟨hv18, hR18⟩ := (spe hA.2.1 hs15_18 (hp 18 (by kernel_rfl)))
    obtain ⟨hv20, hR20⟩ := (spe hA.2.2 hs15_20 (hp 20 (by kernel_rfl)))
    rw [hA.1, hs15_21]
    refine wn hon ?_
    have hF := fr_next (fr_next (rfl) ((hf 18 56 (by kernel_rfl) rfl).trans hv18)) ((hf 20 58 (by kernel_rfl) rfl).trans hv20)
    refine ls_fr hF ?_
    refine lv (.int .u32 (bits .xor .u32 (bits .xor .u32 t28 t31) (Int.fdiv y12 8))) ?_
    refine ls_ren 59 (v := .int .u32 (bits .xor .u32 (bits .xor .u32 t28 t31) (Int.fdiv y12 8))) (v' := .int .u32 y34) (by kernel_rfl) (by rw [hy35]) ?_
    exact ls_fin s0 _ ((upd_upd _ _ _ _).trans (congrArg (fun z => upd z 59 _) hF.symm)) ⟨rfl, rfl⟩ (sub_nil _)
  obtain ⟨y36, hy37, H⟩ := lt_some H
  obtain ⟨s15_22, hs15_22⟩ := exv (.int .u32 y36)
  refine have_opa sha_spread.tab13 75 22 (fun sp => sp 22 = s15_22 ∧ sp 13 = s15_13 ∧ sp 21 = s15_21) (fun sp on hA hon => ?_) (fun ops15_22 => ?_)
  · refine ⟨fun o ho vs Rs f' S' w hp hf hx hS hR hs => ?_⟩
    obtain rfl := Option.some.inj ho
    obtain ⟨hv13, hR13⟩ := (spe hA.2.1 hs15_13 (hp 13 (by kernel_rfl)))
    obtain ⟨hv21, hR21⟩ := (spe hA.2.2 hs15_21 (hp 21 (by kernel_rfl)))
    rw [hA.1, hs15_22]
    refine wn hon ?_
    have hF := fr_next (fr_next (rfl) ((hf 13 51 (by kernel_rfl) rfl).trans hv13)) ((hf 21 59 (by kernel_rfl) rfl).trans hv21)
    refine ls_fr hF ?_
    refine lv (.int .u32 (IntKind.wrap .u32 ((IntKind.wrap .u32 (y22 + y26)) + y34))) ?_
    refine ls_ren 60 (v := .int .u32 (IntKind.wrap .u32 ((IntKind.wrap .u32 (y22 + y26)) + y34))) (v' := .int .u32 y36) (by kernel_rfl) (by rw [hy37]) ?_
    exact ls_fin s0 _ ((upd_upd _ _ _ _).trans (congrArg (fun z => upd z 60 _) hF.symm)) ⟨rfl, rfl⟩ (sub_nil _)
  obtain ⟨s15_23, hs15_23⟩ := exv (.int .i64 x6_2)
  refine have_opa sha_spread.tab13 75 23 (fun sp => sp 23 = s15_23) (fun sp on hA hon => ?_) (fun ops15_23 => ?_)
  · refine ⟨fun o ho vs Rs f' S' w hp hf hx hS hR hs => ?_⟩
    obtain rfl := Option.some.inj ho
    exact opv (.int .i64 x6_2) hA hs15_23 hon (fr_next (rfl) ((hx 6 (by kernel_rfl)).trans (by kernel_rfl : (_ : Value) = .int .i64 x6_2)))
  obtain ⟨s15_24, hs15_24⟩ := exv (.int .i64 (IntKind.wrap .i64 (x6_2 - (16 : Int))))
  refine have_opa sha_spread.tab13 75 24 (fun sp => sp 24 = s15_24 ∧ sp 23 = s15_23) (fun sp on hA hon => ?_) (fun ops15_24 => ?_)
  · refine ⟨fun o ho vs Rs f' S' w hp hf hx hS hR hs => ?_⟩
    obtain rfl := Option.some.inj ho
    obtain ⟨hv23, hR23⟩ := (spe hA.2 hs15_23 (hp 23 (by kernel_rfl)))
    exact opv (.int .i64 (IntKind.wrap .i64 (x6_2 - (16 : Int)))) hA.1 hs15_24 hon (fr_next (rfl) ((hf 23 61 (by kernel_rfl) rfl).trans hv23))
  obtain ⟨q38, H⟩ := ite_need H
  obtain ⟨q39, H⟩ := ite_need H
  obtain ⟨s15_25, hs15_25⟩ := exv (.pointer (some ⟨g3, (0 + (IntKind.wrap .i64 (x6_2 - (16 : Int))).toNat), none⟩))
  refine have_opa sha_spread.tab13 75 25 (fun sp => sp 25 = s15_25 ∧ sp 24 = s15_24) (fun sp on hA hon => ?_) (fun ops15_25 => ?_)
  · refine ⟨fun o ho vs Rs f' S' w hp hf hx hS hR hs => ?_⟩
    obtain rfl := Option.some.inj ho
    obtain ⟨hv24, hR24⟩ := (spe hA.2 hs15_24 (hp 24 (by kernel_rfl)))
    rw [hA.1, hs15_25]
    refine wn hon ?_
    have hF := fr_next (fr_next (rfl) ((hx 3 (by kernel_rfl)).trans (by kernel_rfl : (_ : Value) = .pointer (some ⟨g3, 0, none⟩)))) ((hf 24 62 (by kernel_rfl) rfl).trans hv24)
    refine ls_fr hF ?_
    refine ls_idxa1 (g := g3) (off := 0) (i := IntKind.wrap .i64 (x6_2 - (16 : Int))) (kk := .i64) (ln := 64) (e := 23) rfl rfl (by kernel_rfl) rfl (by kernel_rfl) (by kernel_rfl) (by kernel_rfl) (by kernel_rfl) q38 q39 ?_
    exact ls_fin s0 _ (congrArg (fun z => upd z 63 _) hF.symm) ⟨rfl, rfl⟩ (sub_nil _)
  obtain ⟨y40, hy41, H⟩ := lt_some H
  obtain ⟨s15_26, hs15_26⟩ := exv (.int .u32 y40)
  refine have_opa sha_spread.tab13 75 26 (fun sp => sp 26 = s15_26 ∧ sp 25 = s15_25) (fun sp on hA hon => ?_) (fun ops15_26 => ?_)
  · refine ⟨fun o ho vs Rs f' S' w hp hf hx hS hR hs => ?_⟩
    obtain rfl := Option.some.inj ho
    obtain ⟨hv25, hR25⟩ := (spe hA.2 hs15_25 (hp 25 (by kernel_rfl)))
    rw [hA.1, hs15_26]
    refine wn hon ?_
    have hF := fr_next (rfl) ((hf 25 63 (by kernel_rfl) rfl).trans hv25)
    refine ls_fr hF ?_
    refine ls_load (a0 := ⟨g3, (0 + (IntKind.wrap .i64 (x6_2 - (16 : Int))).toNat), none⟩) (v := .int .u32 (m2_2.1.getD (IntKind.wrap .i64 (x6_2 - (16 : Int))).toNat (0 : Int))) (de := (TypeDesc.int .u32)) rfl rfl (by kernel_rfl) rfl (by kernel_rfl) (by kernel_rfl) (by kernel_rfl) (fun w1 hs1 => cell_step hs1.below.bw (hs.var (k := 2) ((hS 2 (by kernel_rfl)).trans (by exact rfl)) (Sub4.trans (Sub4.all _) (Sub4.one (i := (IntKind.wrap .i64 (x6_2 - (16 : Int))).toNat) (Value.int .u32) m2_2.1 0 (by have := m2_2.2; omega))))) ?_
    refine ls_ren 64 (v := .int .u32 (m2_2.1.getD (IntKind.wrap .i64 (x6_2 - (16 : Int))).toNat (0 : Int))) (v' := .int .u32 y40) (by kernel_rfl) (by rw [hy41]) ?_
    exact ls_fin s0 _ ((upd_upd _ _ _ _).trans (congrArg (fun z => upd z 64 _) hF.symm)) ⟨rfl, rfl⟩ (sub_nil _)
  obtain ⟨s15_27, hs15_27⟩ := exv (.int .u32 (IntKind.wrap .u32 (y36 + y40)))
  refine have_opa sha_spread.tab13 75 27 (fun sp => sp 27 = s15_27 ∧ sp 22 = s15_22 ∧ sp 26 = s15_26) (fun sp on hA hon => ?_) (fun ops15_27 => ?_)
  · refine ⟨fun o ho vs Rs f' S' w hp hf hx hS hR hs => ?_⟩
    obtain rfl := Option.some.inj ho
    obtain ⟨hv22, hR22⟩ := (spe hA.2.1 hs15_22 (hp 22 (by kernel_rfl)))
    obtain ⟨hv26, hR26⟩ := (spe hA.2.2 hs15_26 (hp 26 (by kernel_rfl)))
    exact opv (.int .u32 (IntKind.wrap .u32 (y36 + y40))) hA.1 hs15_27 hon (fr_next (fr_next (rfl) ((hf 22 60 (by kernel_rfl) rfl).trans hv22)) ((hf 26 64 (by kernel_rfl) rfl).trans hv26))
  refine cs_draw sha_spread.tab13 28 75 (spl [s15_0, s15_1, s15_2, s15_3, s15_4, s15_5, s15_6, s15_7, s15_8, s15_9, s15_10, s15_11, s15_12, s15_13, s15_14, s15_15, s15_16, s15_17, s15_18, s15_19, s15_20, s15_21, s15_22, s15_23, s15_24, s15_25, s15_26, s15_27]) (onl [true, true, true, true, true, true, true, true, true, true, true, true, true, true, true, true, true, true, true, true, true, true, true, true, true, true, true, true]) (by kernel_rfl) (by kernel_rfl) (by kernel_rfl) (by kernel_rfl) (rs := [_, _]) rfl (by kernel_rfl) (by kernel_rfl) (all_snoc (all_snoc (all_snoc (all_snoc (all_snoc (all_snoc (all_snoc (all_snoc (all_snoc (all_snoc (all_snoc (all_snoc (all_snoc (all_snoc (all_snoc (all_snoc (all_snoc (all_snoc (all_snoc (all_snoc (all_snoc (all_snoc (all_snoc (all_snoc (all_snoc (all_snoc (all_snoc (all_snoc (all_nil) (ops15_0 _ _ rfl rfl)) (ops15_1 _ _ rfl rfl)) (ops15_2 _ _ ⟨rfl, rfl⟩ rfl)) (ops15_3 _ _ rfl rfl)) (ops15_4 _ _ ⟨rfl, rfl⟩ rfl)) (ops15_5 _ _ ⟨rfl, rfl, rfl⟩ rfl)) (ops15_6 _ _ rfl rfl)) (ops15_7 _ _ ⟨rfl, rfl⟩ rfl)) (ops15_8 _ _ ⟨rfl, rfl, rfl⟩ rfl)) (ops15_9 _ _ rfl rfl)) (ops15_10 _ _ ⟨rfl, rfl⟩ rfl)) (ops15_11 _ _ ⟨rfl, rfl⟩ rfl)) (ops15_12 _ _ ⟨rfl, rfl⟩ rfl)) (ops15_13 _ _ ⟨rfl, rfl, rfl⟩ rfl)) (ops15_14 _ _ rfl rfl)) (ops15_15 _ _ ⟨rfl, rfl⟩ rfl)) (ops15_16 _ _ rfl rfl)) (ops15_17 _ _ ⟨rfl, rfl⟩ rfl)) (ops15_18 _ _ ⟨rfl, rfl, rfl⟩ rfl)) (ops15_19 _ _ rfl rfl)) (ops15_20 _ _ ⟨rfl, rfl⟩ rfl)) (ops15_21 _ _ ⟨rfl, rfl, rfl⟩ rfl)) (ops15_22 _ _ ⟨rfl, rfl, rfl⟩ rfl)) (ops15_23 _ _ rfl rfl)) (ops15_24 _ _ ⟨rfl, rfl⟩ rfl)) (ops15_25 _ _ ⟨rfl, rfl⟩ rfl)) (ops15_26 _ _ ⟨rfl, rfl⟩ rfl)) (ops15_27 _ _ ⟨rfl, rfl, rfl⟩ rfl)) ?_
  intro vs Rs f' S' hp hf hx hS hR
  obtain ⟨hv0, hR0⟩ := (spe rfl hs15_0 (hp 0 (by kernel_rfl)))
  obtain ⟨x18, hv2, hR2⟩ := (spe rfl hs15_2 (hp 2 (by kernel_rfl)))
  obtain ⟨x21, hv4, hR4⟩ := (spe rfl hs15_4 (hp 4 (by kernel_rfl)))
  obtain ⟨x30, hv15, hR15⟩ := (spe rfl hs15_15 (hp 15 (by kernel_rfl)))
  obtain ⟨x33, hv17, hR17⟩ := (spe rfl hs15_17 (hp 17 (by kernel_rfl)))
  obtain ⟨hv27, hR27⟩ := (spe rfl hs15_27 (hp 27 (by kernel_rfl)))
  refine ls_fr (F := upd (upd (upd (upd (upd f' 2 (.pointer (some ⟨g2, 0, none⟩))) 3 (.pointer (some ⟨g3, 0, none⟩))) 6 (.int .i64 x6_2)) 38 (.int .i64 x6_2)) 65 (.int .u32 (IntKind.wrap .u32 (y36 + y40)))) (fr_next (fr_next (fr_next (fr_next (fr_next (rfl) ((hx 2 (by kernel_rfl)).trans (by kernel_rfl : (_ : Value) = .pointer (some ⟨g2, 0, none⟩)))) ((hx 3 (by kernel_rfl)).trans (by kernel_rfl : (_ : Value) = .pointer (some ⟨g3, 0, none⟩)))) ((hx 6 (by kernel_rfl)).trans (by kernel_rfl : (_ : Value) = .int .i64 x6_2))) ((hf 0 38 (by kernel_rfl) rfl).trans hv0)) ((hf 27 65 (by kernel_rfl) rfl).trans hv27)) ?_
  refine ls_sub (sput (sput s0 1 (some (Ck.var 69 g2 (en (Value.int .u32) (vrep 64 (0 : Int)).1)))) 2 (some (Ck.var 69 g3 (en (Value.int .u32) m2_2.1)))) (sub_put ((hS 2 (by kernel_rfl)).trans (by exact rfl)) (sub_put ((hS 1 (by kernel_rfl)).trans (by exact rfl)) (sub_nil _))) ?_
  obtain ⟨q42, H⟩ := ite_need H
  obtain ⟨q43, H⟩ := ite_need H
  refine ls_idxa1 (g := g3) (off := 0) (i := x6_2) (kk := .i64) (ln := 64) (e := 23) rfl rfl (by kernel_rfl) rfl (by kernel_rfl) (by kernel_rfl) (by kernel_rfl) (by kernel_rfl) q42 q43 ?_
  obtain ⟨y44, hy45, H⟩ := lt_some H
  refine ls_storec (g := g3) (off := (0 + (x6_2).toNat)) (v := .int .u32 (IntKind.wrap .u32 (y36 + y40))) (vs := [Value.int .u32 (IntKind.wrap .u32 (y36 + y40))]) (cs := en (Value.int .u32) m2_2.1) (ty := 69) 2 rfl rfl rfl (by kernel_rfl) (by kernel_rfl) (by kernel_rfl) (by exact rfl) (by kernel_rfl) (len1 _) (one_cons rfl one_nil) (hl_of (Sub4.trans (Sub4.all _) (Sub4.one (i := (x6_2).toNat) (Value.int .u32) m2_2.1 0 (by have := m2_2.2; omega))) (len_eq (len1 _) (len1 _))) (cs' := en (Value.int .u32) y44.1) (splc_in (Sub4.all _) ((splc_one (Value.int .u32) m2_2.1 (IntKind.wrap .u32 (y36 + y40)) (by have := m2_2.2; omega)).trans (congrArg (fun z : (Vc Int 64) => en (Value.int .u32) z.1) hy45)) (splc_all (len_eq (len_en _ y44) (len_en _ m2_2))) (hl_of (Sub4.one (i := (x6_2).toNat) (Value.int .u32) m2_2.1 0 (by have := m2_2.2; omega)) (len_eq (len1 _) (len1 _)))) ?_
  refine ls_end ?_
  refine qn_block ?_
  refine qn_then ?_
  refine cs_region (l := [_, _, _]) ?_
  refine lv (.int .i64 x6_2) ?_
  refine lv (.int .i64 (IntKind.wrap .i64 (x6_2 + (1 : Int)))) ?_
  refine lv (.int .i64 (IntKind.wrap .i64 (x6_2 + (1 : Int)))) ?_
  refine ls_end ?_
  refine qn_again k2 (sput (sput s0 1 (some (Ck.var 69 g2 (en (Value.int .u32) (vrep 64 (0 : Int)).1)))) 2 (some (Ck.var 69 g3 (en (Value.int .u32) y44.1)))) (Nat.le_refl _) ⟨_, (IntKind.wrap .i64 (x6_2 + (1 : Int))), y44, fr_next (fr_next (fr_next (rfl) (by kernel_rfl)) (by kernel_rfl)) (by kernel_rfl), rfl, H⟩ (sub_put (by exact rfl) (sub_put (by exact rfl) (sub_nil _)))

/-! ### shadowbox/sha.keys: function 61 -/
def sha_keys.cst0 : Vc Int 64 := ⟨[(1116352408 : Int), (1899447441 : Int), (3049323471 : Int), (3921009573 : Int), (961987163 : Int), (1508970993 : Int), (2453635748 : Int), (2870763221 : Int), (3624381080 : Int), (310598401 : Int), (607225278 : Int), (1426881987 : Int), (1925078388 : Int), (2162078206 : Int), (2614888103 : Int), (3248222580 : Int), (3835390401 : Int), (4022224774 : Int), (264347078 : Int), (604807628 : Int), (770255983 : Int), (1249150122 : Int), (1555081692 : Int), (1996064986 : Int), (2554220882 : Int), (2821834349 : Int), (2952996808 : Int), (3210313671 : Int), (3336571891 : Int), (3584528711 : Int), (113926993 : Int), (338241895 : Int), (666307205 : Int), (773529912 : Int), (1294757372 : Int), (1396182291 : Int), (1695183700 : Int), (1986661051 : Int), (2177026350 : Int), (2456956037 : Int), (2730485921 : Int), (2820302411 : Int), (3259730800 : Int), (3345764771 : Int), (3516065817 : Int), (3600352804 : Int), (4094571909 : Int), (275423344 : Int), (430227734 : Int), (506948616 : Int), (659060556 : Int), (883997877 : Int), (958139571 : Int), (1322822218 : Int), (1537002063 : Int), (1747873779 : Int), (1955562222 : Int), (2024104815 : Int), (2227730452 : Int), (2361852424 : Int), (2428436474 : Int), (2756734187 : Int), (3204031479 : Int), (3329325298 : Int)], rfl⟩
def sha_keys.f (k : Nat) : Option ((Vc Int 64)) :=
  some sha_keys.cst0
set_option maxRecDepth 100000 in
set_option maxHeartbeats 4000000 in
theorem sha_keys.calls (k : Nat)  (r : (Vc Int 64)) (b : Bs) (hs0 : St b (stl []) b.w) (H : sha_keys.f k = some r) :
    Calls Try.prog 61 #[] b.w fun e w' => ∃ x : Unit, e = .returned (.agg ⟨en (Value.int .u32) r.1⟩) ∧ St b (stl []) w' := by
  unfold sha_keys.f at H
  refine enterb (n := 2) Try.func61 rfl (by kernel_rfl) (by kernel_rfl) hs0 ?_
  refine cs_sub (s0) (sub_nil _) ?_
  refine cs_seq ?_
  refine cs_region (l := [_]) ?_
  refine ls_new rfl rfl (by kernel_rfl) 0 (fun g => .pointer (some ⟨g, 0, none⟩)) (.cells ⟨en (Value.int .u32) (vrep 64 (0 : Int)).1⟩ 69) (fun w => by kernel_rfl) ?_
  intro g1
  refine ls_end ?_
  refine qn_then ?_
  refine cs_seq ?_
  refine cs_region (l := [_, _]) ?_
  refine lv (.agg ⟨en (Value.int .u32) sha_keys.cst0.1⟩) ?_
  refine ls_storec (g := g1) (off := 0) (v := .agg ⟨en (Value.int .u32) sha_keys.cst0.1⟩) (vs := en (Value.int .u32) sha_keys.cst0.1) (cs := en (Value.int .u32) (vrep 64 (0 : Int)).1) (ty := 69) 0 rfl rfl rfl (by kernel_rfl) (by kernel_rfl) (by kernel_rfl) (by exact rfl) (by kernel_rfl) (len_en _ sha_keys.cst0) (one_en (fun _ => rfl) _) (hl_of (Sub4.all _) (len_eq (len_en _ sha_keys.cst0) (len_en _ (vrep 64 (0 : Int))))) (cs' := en (Value.int .u32) sha_keys.cst0.1) (splc_all (len_eq (len_en _ sha_keys.cst0) (len_en _ (vrep 64 (0 : Int))))) ?_
  refine ls_end ?_
  refine qn_then ?_
  refine cs_ret' ?_
  obtain rfl := Option.some.inj H
  refine qr_res (rs := [_]) rfl (fun w' hs => ⟨[.agg ⟨en (Value.int .u32) sha_keys.cst0.1⟩], (.cell (by kernel_rfl) (run_cellres (by kernel_rfl) (by kernel_rfl) (len_en _ sha_keys.cst0) (hs.holds 0 _ (by exact rfl))) (.nil)), (), rfl, hs.pick (ts := []) (cs := []) trivial (by decide)⟩)

end Go.Proofs.Ytbidihabicgedaa.G
