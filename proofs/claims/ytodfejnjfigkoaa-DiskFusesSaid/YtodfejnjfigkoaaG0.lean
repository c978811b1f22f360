/- Printed by a program of this session (sz.py): plain functions, and walks that show that the code comes to them; no condition. -/
import Derived.Test.YtodfejnjfigkoaaProg
import Derived.Test.YtodfejnjfigkoaaTy
set_option linter.unusedVariables false
set_option linter.unusedSimpArgs false
namespace Go.Proofs.Ytodfejnjfigkoaa.G
open Go Go.RowKit Go.Proofs.Ytodfejnjfigkoaa.Sx

/-! ### shadowbox/disk.New: function 6 -/
def disk_New.f (k : Nat) (a0 : Int) : Option (((Unit × Unit × Bool × Int × Bool) × (List (Int × (Vc Int 512)) × List (Vc Int 512))) × Int) :=
  (if a0 < (1 : Int) then none else (if a0 > (8192 : Int) then none else (if 0 ≤ a0 then (if a0 ≤ a0 then (if a0 ≤ 140737488355328 then (if (512 : Int) * a0 ≤ 281474976710656 then some ((((), (), false, (0 : Int), false), (([] : List (Int × (Vc Int 512))), (List.replicate (a0).toNat (vrep 512 (0 : Int))))), (0 : Int)) else none) else none) else none) else none)))
set_option maxRecDepth 100000 in
set_option maxHeartbeats 4000000 in
theorem disk_New.calls (k : Nat) (a0 : Int) (r : ((Unit × Unit × Bool × Int × Bool) × (List (Int × (Vc Int 512)) × List (Vc Int 512))) × Int) (b : Bs) (hs0 : St b (stl []) b.w) (H : disk_New.f k a0 = some r) :
    Calls Try.prog 6 #[.int .i64 a0] b.w fun e w' => ∃ x : Nat × Nat × Nat × Nat × Nat, e = .returned (.tuple #[.pointer (some ⟨x.1, 0, none⟩), .int .i64 r.2]) ∧ St b (stl [Ck.var 34 x.1 (([Value.slice (some ⟨x.2.2.1, 0, none⟩) x.2.2.2.2 x.2.2.2.1] ++ ([Value.map (some x.2.1)] ++ ([Value.bool r.1.1.2.2.1] ++ ([Value.int .i64 r.1.1.2.2.2.1] ++ [Value.bool r.1.1.2.2.2.2]))))), Ck.mr T48 x.2.1 x.2.2.1 x.2.2.2.1 x.2.2.2.2 r.1.2]) w' := by
  unfold disk_New.f at H
  refine enterb (n := 15) Try.func6 rfl (by kernel_rfl) (by kernel_rfl) hs0 ?_
  refine cs_sub (s0) (sub_nil _) ?_
  refine cs_seq ?_
  refine cs_region (l := [_, _]) ?_
  refine ls_val (v := .pointer none) rfl rfl (by kernel_rfl) (fun w => by kernel_rfl) ?_
  refine ls_val (v := .int .i64 (0 : Int)) rfl rfl (by kernel_rfl) (fun w => by kernel_rfl) ?_
  refine ls_end ?_
  refine qn_then ?_
  refine cs_seq ?_
  refine cs_seq ?_
  refine cs_region (l := [_, _, _, _, _, _]) ?_
  refine ls_val (v := .int .i64 a0) rfl rfl (by kernel_rfl) (fun w => by kernel_rfl) ?_
  refine ls_val (v := .bool (decide (a0 < (1 : Int)))) rfl rfl (by kernel_rfl) (fun w => by kernel_rfl) ?_
  refine ls_val (v := .bool (decide (a0 < (1 : Int)))) rfl rfl (by kernel_rfl) (fun w => by kernel_rfl) ?_
  by_cases q1 : a0 < (1 : Int)
  · replace H := ite_t q1 H
    refine ls_know (c := true) (dec_t q1) 6 (by kernel_rfl) ?_
    refine ls_off (j := 2) (t := 6) (b := false) (c := true) rfl rfl (by kernel_rfl) (by kernel_rfl) rfl rfl (by kernel_rfl) ?_
    refine ls_off (j := 2) (t := 6) (b := false) (c := true) rfl rfl (by kernel_rfl) (by kernel_rfl) rfl rfl (by kernel_rfl) ?_
    refine ls_val (v := .bool true) rfl rfl (by kernel_rfl) (fun w => by kernel_rfl) ?_
    refine ls_end ?_
    refine qn_then ?_
    refine cs_true (by kernel_rfl) ?_
    refine cs_seq ?_
    refine cs_region (l := [_, _]) ?_
    refine ls_val (v := .pointer none) rfl rfl (by kernel_rfl) (fun w => by kernel_rfl) ?_
    refine ls_val (v := .int .i64 (2 : Int)) rfl rfl (by kernel_rfl) (fun w => by kernel_rfl) ?_
    refine ls_end ?_
    refine qn_then ?_
    cases H
  · replace H := ite_f q1 H
    refine ls_know (c := false) (dec_f q1) 6 (by kernel_rfl) ?_
    refine ls_on (j := 2) (t := 6) (b := false) rfl rfl (by kernel_rfl) (by kernel_rfl) ?_
    refine ls_val (v := .int .i64 a0) rfl rfl (by kernel_rfl) (fun w => by kernel_rfl) ?_
    refine ls_on (j := 2) (t := 6) (b := false) rfl rfl (by kernel_rfl) (by kernel_rfl) ?_
    refine ls_val (v := .bool (decide (a0 > (8192 : Int)))) rfl rfl (by kernel_rfl) (fun w => by kernel_rfl) ?_
    refine ls_val (v := .bool (decide (a0 > (8192 : Int)))) rfl rfl (by kernel_rfl) (fun w => by kernel_rfl) ?_
    refine ls_end ?_
    refine qn_then ?_
    by_cases q2 : a0 > (8192 : Int)
    · replace H := ite_t q2 H
      refine cs_know (c := true) (dec_t q2) 9 (by kernel_rfl) ?_
      refine cs_true (by kernel_rfl) ?_
      refine cs_seq ?_
      refine cs_region (l := [_, _]) ?_
      refine ls_val (v := .pointer none) rfl rfl (by kernel_rfl) (fun w => by kernel_rfl) ?_
      refine ls_val (v := .int .i64 (2 : Int)) rfl rfl (by kernel_rfl) (fun w => by kernel_rfl) ?_
      refine ls_end ?_
      refine qn_then ?_
      cases H
    · replace H := ite_f q2 H
      refine cs_know (c := false) (dec_f q2) 9 (by kernel_rfl) ?_
      refine cs_false (by kernel_rfl) ?_
      refine cs_skip' ?_
      refine qn_then ?_
      refine cs_seq ?_
      refine cs_region (l := [_, _, _, _, _, _, _]) ?_
      refine ls_val (v := .int .i64 a0) rfl rfl (by kernel_rfl) (fun w => by kernel_rfl) ?_
      obtain ⟨q3, H⟩ := ite_need H
      obtain ⟨q4, H⟩ := ite_need H
      obtain ⟨q5, H⟩ := ite_need H
      obtain ⟨q6, H⟩ := ite_need H
      refine ls_make T48 (bytes := 512) (a := a0) (b := a0) (kx := .i64) (ky := .i64) (zc := en (Value.int .u8) (vrep 512 (0 : Int)).1) 0 rfl rfl (by kernel_rfl) rfl (by kernel_rfl) (by kernel_rfl) (by kernel_rfl) (by kernel_rfl) rfl q3 q4 q5 q6 ?_
      intro g7
      refine ls_makemap 1 rfl rfl (by kernel_rfl) rfl ?_
      intro g8
      refine ls_val (v := .agg ⟨([Value.slice (some ⟨g7, 0, none⟩) (List.replicate (a0).toNat (vrep 512 (0 : Int))).length (a0).toNat] ++ ([Value.map (some g8)] ++ ([Value.bool false] ++ ([Value.int .i64 (0 : Int)] ++ [Value.bool false]))))⟩) rfl rfl (by kernel_rfl) (fun w => by kernel_rfl) ?_
      refine ls_mkmr (T := T48) (gl := g7) (c := ((a0).toNat)) (l := (List.replicate (a0).toNat (vrep 512 (0 : Int)))) (r := g8) 0 1 (by decide) (by exact rfl) (by exact rfl) ?_
      refine ls_new rfl rfl (by kernel_rfl) 2 (fun g => .pointer (some ⟨g, 0, none⟩)) (.cells ⟨([Value.slice (some ⟨g7, 0, none⟩) ((List.replicate (a0).toNat (vrep 512 (0 : Int))).length) ((a0).toNat)] ++ ([Value.map (some g8)] ++ ([Value.bool false] ++ ([Value.int .i64 (0 : Int)] ++ [Value.bool false]))))⟩ 34) (fun w => by kernel_rfl) ?_
      intro g9
      refine ls_val (v := .pointer (some ⟨g9, 0, none⟩)) rfl rfl (by kernel_rfl) (fun w => by kernel_rfl) ?_
      refine ls_val (v := .int .i64 (0 : Int)) rfl rfl (by kernel_rfl) (fun w => by kernel_rfl) ?_
      refine ls_end ?_
      refine qn_then ?_
      refine cs_ret' ?_
      obtain rfl := Option.some.inj H
      refine qr_res (rs := [_, _]) rfl (fun w' hs => ⟨[.pointer (some ⟨g9, 0, none⟩), .int .i64 (0 : Int)], (res_tmp (by kernel_rfl) (res_tmp (by kernel_rfl) (.nil))), (g9, g8, g7, (a0).toNat, (List.replicate (a0).toNat (vrep 512 (0 : Int))).length), rfl, hs.pick (ts := [2, 1]) (cs := [Ck.var 34 g9 (([Value.slice (some ⟨g7, 0, none⟩) ((List.replicate (a0).toNat (vrep 512 (0 : Int))).length) ((a0).toNat)] ++ ([Value.map (some g8)] ++ ([Value.bool false] ++ ([Value.int .i64 (0 : Int)] ++ [Value.bool false]))))), Ck.mr T48 g8 g7 ((a0).toNat) ((List.replicate (a0).toNat (vrep 512 (0 : Int))).length) (([] : List (Int × (Vc Int 512))), (List.replicate (a0).toNat (vrep 512 (0 : Int))))]) ⟨by exact rfl, by exact rfl, trivial⟩ (by decide)⟩)

/-! ### (*shadowbox/disk.Disk).none: function 14 -/
def disk_Disk_none.f (k : Nat) (v0 : (Unit × Unit × Bool × Int × Bool)) (w0_1 : (List (Int × (Vc Int 512)) × List (Vc Int 512))) : Option (Bool) :=
  some false
set_option maxRecDepth 100000 in
set_option maxHeartbeats 4000000 in
theorem disk_Disk_none.calls (k : Nat) (pg0 : Nat) (gl0_0 : Nat) (n0_0 : Nat) (c0_0 : Nat) (r0_1 : Nat) (v0 : (Unit × Unit × Bool × Int × Bool)) (w0_1 : (List (Int × (Vc Int 512)) × List (Vc Int 512))) (r : Bool) (b : Bs) (hs0 : St b (stl [Ck.var 34 pg0 (([Value.slice (some ⟨gl0_0, 0, none⟩) n0_0 c0_0] ++ ([Value.map (some r0_1)] ++ ([Value.bool v0.2.2.1] ++ ([Value.int .i64 v0.2.2.2.1] ++ [Value.bool v0.2.2.2.2]))))), Ck.mr T48 r0_1 gl0_0 c0_0 n0_0 w0_1]) b.w) (H : disk_Disk_none.f k v0 w0_1 = some r) :
    Calls Try.prog 14 #[.pointer (some ⟨pg0, 0, none⟩)] b.w fun e w' => ∃ x : Unit, e = .returned (.bool r) ∧ St b (stl [Ck.var 34 pg0 (([Value.slice (some ⟨gl0_0, 0, none⟩) n0_0 c0_0] ++ ([Value.map (some r0_1)] ++ ([Value.bool v0.2.2.1] ++ ([Value.int .i64 v0.2.2.2.1] ++ [Value.bool v0.2.2.2.2]))))), Ck.mr T48 r0_1 gl0_0 c0_0 n0_0 w0_1]) w' := by
  unfold disk_Disk_none.f at H
  refine enterb (n := 12) Try.func14 rfl (by kernel_rfl) (by kernel_rfl) hs0 ?_
  refine cs_sub (sput (sput s0 0 (some (Ck.var 34 pg0 (([Value.slice (some ⟨gl0_0, 0, none⟩) n0_0 c0_0] ++ ([Value.map (some r0_1)] ++ ([Value.bool v0.2.2.1] ++ ([Value.int .i64 v0.2.2.2.1] ++ [Value.bool v0.2.2.2.2])))))))) 1 (some (Ck.mr T48 r0_1 gl0_0 c0_0 n0_0 w0_1))) (sub_put (by exact rfl) (sub_put (by exact rfl) (sub_nil _))) ?_
  refine cs_seq ?_
  refine cs_region (l := [_]) ?_
  refine ls_val (v := .bool false) rfl rfl (by kernel_rfl) (fun w => by kernel_rfl) ?_
  refine ls_end ?_
  refine qn_then ?_
  refine cs_seq ?_
  refine cs_region (l := [_, _, _, _, _, _, _, _, _, _]) ?_
  refine ls_val (v := .pointer (some ⟨pg0, 0, none⟩)) rfl rfl (by kernel_rfl) (fun w => by kernel_rfl) ?_
  refine ls_val (v := .bool false) rfl rfl (by kernel_rfl) (fun w => by kernel_rfl) ?_
  refine ls_val (v := .bool false) rfl rfl (by kernel_rfl) (fun w => by kernel_rfl) ?_
  refine ls_on (j := 2) (t := 5) (b := false) rfl rfl (by kernel_rfl) (by kernel_rfl) ?_
  refine ls_val (v := .pointer (some ⟨pg0, 0, none⟩)) rfl rfl (by kernel_rfl) (fun w => by kernel_rfl) ?_
  refine ls_on (j := 2) (t := 5) (b := false) rfl rfl (by kernel_rfl) (by kernel_rfl) ?_
  refine ls_val (v := .pointer (some ⟨pg0, 0, none⟩)) rfl rfl (by kernel_rfl) (fun w => by kernel_rfl) ?_
  refine ls_on (j := 2) (t := 5) (b := false) rfl rfl (by kernel_rfl) (by kernel_rfl) ?_
  refine ls_val (v := .pointer (some ⟨pg0, (0 + 0), none⟩)) rfl rfl (by kernel_rfl) (fun w => by kernel_rfl) ?_
  refine ls_on (j := 2) (t := 5) (b := false) rfl rfl (by kernel_rfl) (by kernel_rfl) ?_
  refine ls_mrn 1 (by exact rfl) (fun hn1 => ?_)
  refine ls_load (a0 := ⟨pg0, (0 + 0), none⟩) (v := .slice (some ⟨gl0_0, 0, none⟩) n0_0 c0_0) (de := (TypeDesc.slice 48)) rfl rfl (by kernel_rfl) rfl (by kernel_rfl) (by kernel_rfl) (by kernel_rfl) (fun w hs => (hs.var (k := 0) (by exact rfl) (Sub4.trans (Sub4.all _) (Sub4.head _ _)))) ?_
  refine ls_ren 9 (v := .slice (some ⟨gl0_0, 0, none⟩) n0_0 c0_0) (v' := .slice (some ⟨gl0_0, 0, none⟩) w0_1.2.length c0_0) (by kernel_rfl) (by rw [hn1]) ?_
  refine ls_on (j := 2) (t := 5) (b := false) rfl rfl (by kernel_rfl) (by kernel_rfl) ?_
  refine ls_val (v := .bool false) rfl rfl (by kernel_rfl) (fun w => by kernel_rfl) ?_
  refine ls_val (v := .bool false) rfl rfl (by kernel_rfl) (fun w => by kernel_rfl) ?_
  refine ls_val (v := .bool false) rfl rfl (by kernel_rfl) (fun w => by kernel_rfl) ?_
  refine ls_end ?_
  refine qn_then ?_
  refine cs_ret' ?_
  obtain rfl := Option.some.inj H
  refine qr_res (rs := [_]) rfl (fun w' hs => ⟨[.bool false], (res_tmp (by kernel_rfl) (.nil)), (), rfl, hs.pick (ts := [0, 1]) (cs := [Ck.var 34 pg0 (([Value.slice (some ⟨gl0_0, 0, none⟩) n0_0 c0_0] ++ ([Value.map (some r0_1)] ++ ([Value.bool v0.2.2.1] ++ ([Value.int .i64 v0.2.2.2.1] ++ [Value.bool v0.2.2.2.2]))))), Ck.mr T48 r0_1 gl0_0 c0_0 n0_0 w0_1]) ⟨by exact rfl, by exact rfl, trivial⟩ (by decide)⟩)

/-! ### (*shadowbox/disk.Disk).Fuse: function 7 -/
def disk_Disk_Fuse.f (k : Nat) (v0 : (Unit × Unit × Bool × Int × Bool)) (w0_1 : (List (Int × (Vc Int 512)) × List (Vc Int 512))) (a1 : Int) : Option ((Unit × Unit × Bool × Int × Bool)) :=
  lt ((if a1 < (0 : Int) then (0 : Int) else a1)) fun y4 => some ((), (), true, y4, v0.2.2.2.2)
set_option maxRecDepth 100000 in
set_option maxHeartbeats 4000000 in
theorem disk_Disk_Fuse.calls (k : Nat) (pg0 : Nat) (gl0_0 : Nat) (n0_0 : Nat) (c0_0 : Nat) (r0_1 : Nat) (v0 : (Unit × Unit × Bool × Int × Bool)) (w0_1 : (List (Int × (Vc Int 512)) × List (Vc Int 512))) (a1 : Int) (r : (Unit × Unit × Bool × Int × Bool)) (b : Bs) (hs0 : St b (stl [Ck.var 34 pg0 (([Value.slice (some ⟨gl0_0, 0, none⟩) n0_0 c0_0] ++ ([Value.map (some r0_1)] ++ ([Value.bool v0.2.2.1] ++ ([Value.int .i64 v0.2.2.2.1] ++ [Value.bool v0.2.2.2.2]))))), Ck.mr T48 r0_1 gl0_0 c0_0 n0_0 w0_1]) b.w) (H : disk_Disk_Fuse.f k v0 w0_1 a1 = some r) :
    Calls Try.prog 7 #[.pointer (some ⟨pg0, 0, none⟩), .int .i64 a1] b.w fun e w' => ∃ x : Unit, e = .returned (.tuple #[]) ∧ St b (stl [Ck.var 34 pg0 (([Value.slice (some ⟨gl0_0, 0, none⟩) n0_0 c0_0] ++ ([Value.map (some r0_1)] ++ ([Value.bool r.2.2.1] ++ ([Value.int .i64 r.2.2.2.1] ++ [Value.bool r.2.2.2.2]))))), Ck.mr T48 r0_1 gl0_0 c0_0 n0_0 w0_1]) w' := by
  unfold disk_Disk_Fuse.f at H
  refine enterb (n := 15) Try.func7 rfl (by kernel_rfl) (by kernel_rfl) hs0 ?_
  refine cs_sub (sput (sput s0 0 (some (Ck.var 34 pg0 (([Value.slice (some ⟨gl0_0, 0, none⟩) n0_0 c0_0] ++ ([Value.map (some r0_1)] ++ ([Value.bool v0.2.2.1] ++ ([Value.int .i64 v0.2.2.2.1] ++ [Value.bool v0.2.2.2.2])))))))) 1 (some (Ck.mr T48 r0_1 gl0_0 c0_0 n0_0 w0_1))) (sub_put (by exact rfl) (sub_put (by exact rfl) (sub_nil _))) ?_
  refine cs_seq ?_
  refine cs_region (l := [_, _, _]) ?_
  refine ls_val (v := .pointer (some ⟨pg0, 0, none⟩)) rfl rfl (by kernel_rfl) (fun w => by kernel_rfl) ?_
  have hc2 : disk_Disk_none.f k ((), (), v0.2.2.1, v0.2.2.2.1, v0.2.2.2.2) w0_1 = some false := rfl
  refine ls_callb (fid := 14) (vals := #[.pointer (some ⟨pg0, 0, none⟩)]) (X := Unit) (fun x => .bool false) (fun x => stl [Ck.var 34 pg0 (([Value.slice (some ⟨gl0_0, 0, none⟩) n0_0 c0_0] ++ ([Value.map (some r0_1)] ++ ([Value.bool v0.2.2.1] ++ ([Value.int .i64 v0.2.2.2.1] ++ [Value.bool v0.2.2.2.2]))))), Ck.mr T48 r0_1 gl0_0 c0_0 n0_0 w0_1]) [0, 1] [] [Ck.var 34 pg0 (([Value.slice (some ⟨gl0_0, 0, none⟩) n0_0 c0_0] ++ ([Value.map (some r0_1)] ++ ([Value.bool v0.2.2.1] ++ ([Value.int .i64 v0.2.2.2.1] ++ [Value.bool v0.2.2.2.2]))))), Ck.mr T48 r0_1 gl0_0 c0_0 n0_0 w0_1] [] 2 rfl rfl (by kernel_rfl) (fun w => by kernel_rfl) ⟨by exact rfl, by exact rfl, trivial⟩ trivial (by decide) (fun w hs hb => disk_Disk_none.calls k pg0 gl0_0 n0_0 c0_0 r0_1 ((), (), v0.2.2.1, v0.2.2.2.1, v0.2.2.2.2) w0_1 false (lent b w [Ck.var 34 pg0 (([Value.slice (some ⟨gl0_0, 0, none⟩) n0_0 c0_0] ++ ([Value.map (some r0_1)] ++ ([Value.bool v0.2.2.1] ++ ([Value.int .i64 v0.2.2.2.1] ++ [Value.bool v0.2.2.2.2]))))), Ck.mr T48 r0_1 gl0_0 c0_0 n0_0 w0_1] []) hb  hc2) ?_
  intro x3
  refine ls_val (v := .bool true) rfl rfl (by kernel_rfl) (fun w => by kernel_rfl) ?_
  refine ls_end ?_
  refine qn_then ?_
  refine cs_true (by kernel_rfl) ?_
  refine cs_region (l := [_, _, _, _, _, _, _, _, _, _]) ?_
  refine ls_val (v := .pointer (some ⟨pg0, 0, none⟩)) rfl rfl (by kernel_rfl) (fun w => by kernel_rfl) ?_
  refine ls_val (v := .pointer (some ⟨pg0, 0, none⟩)) rfl rfl (by kernel_rfl) (fun w => by kernel_rfl) ?_
  refine ls_val (v := .int .i64 a1) rfl rfl (by kernel_rfl) (fun w => by kernel_rfl) ?_
  obtain ⟨y4, hy5, H⟩ := lt_some H
  refine ls_val (v := .int .i64 (if a1 < (0 : Int) then (0 : Int) else a1)) rfl rfl (by kernel_rfl) (fun w => by kernel_rfl) ?_
  refine ls_ren 10 (v := .int .i64 (if a1 < (0 : Int) then (0 : Int) else a1)) (v' := .int .i64 y4) (by kernel_rfl) (by rw [hy5]) ?_
  refine ls_val (v := .pointer (some ⟨pg0, 0, none⟩)) rfl rfl (by kernel_rfl) (fun w => by kernel_rfl) ?_
  refine ls_val (v := .pointer (some ⟨pg0, (0 + 2), none⟩)) rfl rfl (by kernel_rfl) (fun w => by kernel_rfl) ?_
  refine ls_storec (g := pg0) (off := (0 + 2)) (v := .bool true) (vs := [Value.bool true]) (cs := ([Value.slice (some ⟨gl0_0, 0, none⟩) n0_0 c0_0] ++ ([Value.map (some r0_1)] ++ ([Value.bool v0.2.2.1] ++ ([Value.int .i64 v0.2.2.2.1] ++ [Value.bool v0.2.2.2.2]))))) (ty := 34) 0 rfl rfl rfl (by kernel_rfl) (by kernel_rfl) (by kernel_rfl) (by exact rfl) (by kernel_rfl) (len1 _) (one_cons rfl one_nil) (hl_of (Sub4.trans (Sub4.all _) (Sub4.skip (n := 1) (len1 _) (Sub4.skip (n := 1) (len1 _) (Sub4.head _ _)))) (len_eq (len1 _) (len1 _))) (cs' := ([Value.slice (some ⟨gl0_0, 0, none⟩) n0_0 c0_0] ++ ([Value.map (some r0_1)] ++ ([Value.bool true] ++ ([Value.int .i64 v0.2.2.2.1] ++ [Value.bool v0.2.2.2.2]))))) (splc_in (Sub4.all _) (splc_skip (n := 1) (len1 _) (splc_skip (n := 1) (len1 _) (splc_head (len_eq (len1 _) (len1 _))))) (splc_all (len_eq (len_app (len1 _) (len_app (len1 _) (len_app (len1 _) (len_app (len1 _) (len1 _))))) (len_app (len1 _) (len_app (len1 _) (len_app (len1 _) (len_app (len1 _) (len1 _))))))) (hl_of (Sub4.skip (n := 1) (len1 _) (Sub4.skip (n := 1) (len1 _) (Sub4.head _ _))) (len_eq (len1 _) (len1 _)))) ?_
  refine ls_val (v := .pointer (some ⟨pg0, 0, none⟩)) rfl rfl (by kernel_rfl) (fun w => by kernel_rfl) ?_
  refine ls_val (v := .pointer (some ⟨pg0, (0 + 3), none⟩)) rfl rfl (by kernel_rfl) (fun w => by kernel_rfl) ?_
  refine ls_storec (g := pg0) (off := (0 + 3)) (v := .int .i64 y4) (vs := [Value.int .i64 y4]) (cs := ([Value.slice (some ⟨gl0_0, 0, none⟩) n0_0 c0_0] ++ ([Value.map (some r0_1)] ++ ([Value.bool true] ++ ([Value.int .i64 v0.2.2.2.1] ++ [Value.bool v0.2.2.2.2]))))) (ty := 34) 0 rfl rfl rfl (by kernel_rfl) (by kernel_rfl) (by kernel_rfl) (by exact rfl) (by kernel_rfl) (len1 _) (one_cons rfl one_nil) (hl_of (Sub4.trans (Sub4.all _) (Sub4.skip (n := 1) (len1 _) (Sub4.skip (n := 1) (len1 _) (Sub4.skip (n := 1) (len1 _) (Sub4.head _ _))))) (len_eq (len1 _) (len1 _))) (cs' := ([Value.slice (some ⟨gl0_0, 0, none⟩) n0_0 c0_0] ++ ([Value.map (some r0_1)] ++ ([Value.bool true] ++ ([Value.int .i64 y4] ++ [Value.bool v0.2.2.2.2]))))) (splc_in (Sub4.all _) (splc_skip (n := 1) (len1 _) (splc_skip (n := 1) (len1 _) (splc_skip (n := 1) (len1 _) (splc_head (len_eq (len1 _) (len1 _)))))) (splc_all (len_eq (len_app (len1 _) (len_app (len1 _) (len_app (len1 _) (len_app (len1 _) (len1 _))))) (len_app (len1 _) (len_app (len1 _) (len_app (len1 _) (len_app (len1 _) (len1 _))))))) (hl_of (Sub4.skip (n := 1) (len1 _) (Sub4.skip (n := 1) (len1 _) (Sub4.skip (n := 1) (len1 _) (Sub4.head _ _)))) (len_eq (len1 _) (len1 _)))) ?_
  refine ls_end ?_
  obtain rfl := Option.some.inj H
  refine qn_res (rs := []) rfl (fun w' hs => ⟨[], (.nil), (), rfl, hs.pick (ts := [0, 1]) (cs := [Ck.var 34 pg0 (([Value.slice (some ⟨gl0_0, 0, none⟩) n0_0 c0_0] ++ ([Value.map (some r0_1)] ++ ([Value.bool true] ++ ([Value.int .i64 y4] ++ [Value.bool v0.2.2.2.2]))))), Ck.mr T48 r0_1 gl0_0 c0_0 n0_0 w0_1]) ⟨by exact rfl, by exact rfl, trivial⟩ (by decide)⟩)

/-! ### (*shadowbox/disk.Disk).check: function 15 -/
def disk_Disk_check.f (k : Nat) (v0 : (Unit × Unit × Bool × Int × Bool)) (w0_1 : (List (Int × (Vc Int 512)) × List (Vc Int 512))) (a1 : Int) : Option (Int) :=
  (if a1 < (0 : Int) then some (2 : Int) else (if a1 ≥ (w0_1.2.length : Int) then some (2 : Int) else some (0 : Int)))
set_option maxRecDepth 100000 in
set_option maxHeartbeats 4000000 in
theorem disk_Disk_check.calls (k : Nat) (pg0 : Nat) (gl0_0 : Nat) (n0_0 : Nat) (c0_0 : Nat) (r0_1 : Nat) (v0 : (Unit × Unit × Bool × Int × Bool)) (w0_1 : (List (Int × (Vc Int 512)) × List (Vc Int 512))) (a1 : Int) (r : Int) (b : Bs) (hs0 : St b (stl [Ck.var 34 pg0 (([Value.slice (some ⟨gl0_0, 0, none⟩) n0_0 c0_0] ++ ([Value.map (some r0_1)] ++ ([Value.bool v0.2.2.1] ++ ([Value.int .i64 v0.2.2.2.1] ++ [Value.bool v0.2.2.2.2]))))), Ck.mr T48 r0_1 gl0_0 c0_0 n0_0 w0_1]) b.w) (H : disk_Disk_check.f k v0 w0_1 a1 = some r) :
    Calls Try.prog 15 #[.pointer (some ⟨pg0, 0, none⟩), .int .i64 a1] b.w fun e w' => ∃ x : Unit, e = .returned (.int .i64 r) ∧ St b (stl [Ck.var 34 pg0 (([Value.slice (some ⟨gl0_0, 0, none⟩) n0_0 c0_0] ++ ([Value.map (some r0_1)] ++ ([Value.bool v0.2.2.1] ++ ([Value.int .i64 v0.2.2.2.1] ++ [Value.bool v0.2.2.2.2]))))), Ck.mr T48 r0_1 gl0_0 c0_0 n0_0 w0_1]) w' := by
  unfold disk_Disk_check.f at H
  refine enterb (n := 20) Try.func15 rfl (by kernel_rfl) (by kernel_rfl) hs0 ?_
  refine cs_sub (sput (sput s0 0 (some (Ck.var 34 pg0 (([Value.slice (some ⟨gl0_0, 0, none⟩) n0_0 c0_0] ++ ([Value.map (some r0_1)] ++ ([Value.bool v0.2.2.1] ++ ([Value.int .i64 v0.2.2.2.1] ++ [Value.bool v0.2.2.2.2])))))))) 1 (some (Ck.mr T48 r0_1 gl0_0 c0_0 n0_0 w0_1))) (sub_put (by exact rfl) (sub_put (by exact rfl) (sub_nil _))) ?_
  refine cs_seq ?_
  refine cs_region (l := [_]) ?_
  refine ls_val (v := .int .i64 (0 : Int)) rfl rfl (by kernel_rfl) (fun w => by kernel_rfl) ?_
  refine ls_end ?_
  refine qn_then ?_
  refine cs_seq ?_
  refine cs_block ?_
  refine cs_seq ?_
  refine cs_region (l := [_, _, _]) ?_
  refine ls_val (v := .pointer (some ⟨pg0, 0, none⟩)) rfl rfl (by kernel_rfl) (fun w => by kernel_rfl) ?_
  have hc2 : disk_Disk_none.f k ((), (), v0.2.2.1, v0.2.2.2.1, v0.2.2.2.2) w0_1 = some false := rfl
  refine ls_callb (fid := 14) (vals := #[.pointer (some ⟨pg0, 0, none⟩)]) (X := Unit) (fun x => .bool false) (fun x => stl [Ck.var 34 pg0 (([Value.slice (some ⟨gl0_0, 0, none⟩) n0_0 c0_0] ++ ([Value.map (some r0_1)] ++ ([Value.bool v0.2.2.1] ++ ([Value.int .i64 v0.2.2.2.1] ++ [Value.bool v0.2.2.2.2]))))), Ck.mr T48 r0_1 gl0_0 c0_0 n0_0 w0_1]) [0, 1] [] [Ck.var 34 pg0 (([Value.slice (some ⟨gl0_0, 0, none⟩) n0_0 c0_0] ++ ([Value.map (some r0_1)] ++ ([Value.bool v0.2.2.1] ++ ([Value.int .i64 v0.2.2.2.1] ++ [Value.bool v0.2.2.2.2]))))), Ck.mr T48 r0_1 gl0_0 c0_0 n0_0 w0_1] [] 2 rfl rfl (by kernel_rfl) (fun w => by kernel_rfl) ⟨by exact rfl, by exact rfl, trivial⟩ trivial (by decide) (fun w hs hb => disk_Disk_none.calls k pg0 gl0_0 n0_0 c0_0 r0_1 ((), (), v0.2.2.1, v0.2.2.2.1, v0.2.2.2.2) w0_1 false (lent b w [Ck.var 34 pg0 (([Value.slice (some ⟨gl0_0, 0, none⟩) n0_0 c0_0] ++ ([Value.map (some r0_1)] ++ ([Value.bool v0.2.2.1] ++ ([Value.int .i64 v0.2.2.2.1] ++ [Value.bool v0.2.2.2.2]))))), Ck.mr T48 r0_1 gl0_0 c0_0 n0_0 w0_1] []) hb  hc2) ?_
  intro x3
  refine ls_val (v := .bool false) rfl rfl (by kernel_rfl) (fun w => by kernel_rfl) ?_
  refine ls_end ?_
  refine qn_then ?_
  refine cs_false (by kernel_rfl) ?_
  refine cs_seq ?_
  refine cs_region (l := [_, _, _, _, _, _, _, _, _, _, _, _]) ?_
  refine ls_val (v := .int .i64 a1) rfl rfl (by kernel_rfl) (fun w => by kernel_rfl) ?_
  refine ls_val (v := .bool (decide (a1 < (0 : Int)))) rfl rfl (by kernel_rfl) (fun w => by kernel_rfl) ?_
  refine ls_val (v := .bool (decide (a1 < (0 : Int)))) rfl rfl (by kernel_rfl) (fun w => by kernel_rfl) ?_
  by_cases q4 : a1 < (0 : Int)
  · replace H := ite_t q4 H
    refine ls_know (c := true) (dec_t q4) 11 (by kernel_rfl) ?_
    refine ls_off (j := 2) (t := 11) (b := false) (c := true) rfl rfl (by kernel_rfl) (by kernel_rfl) rfl rfl (by kernel_rfl) ?_
    refine ls_off (j := 2) (t := 11) (b := false) (c := true) rfl rfl (by kernel_rfl) (by kernel_rfl) rfl rfl (by kernel_rfl) ?_
    refine ls_off (j := 2) (t := 11) (b := false) (c := true) rfl rfl (by kernel_rfl) (by kernel_rfl) rfl rfl (by kernel_rfl) ?_
    refine ls_off (j := 2) (t := 11) (b := false) (c := true) rfl rfl (by kernel_rfl) (by kernel_rfl) rfl rfl (by kernel_rfl) ?_
    refine ls_off (j := 2) (t := 11) (b := false) (c := true) rfl rfl (by kernel_rfl) (by kernel_rfl) rfl rfl (by kernel_rfl) ?_
    refine ls_off (j := 2) (t := 11) (b := false) (c := true) rfl rfl (by kernel_rfl) (by kernel_rfl) rfl rfl (by kernel_rfl) ?_
    refine ls_off (j := 2) (t := 11) (b := false) (c := true) rfl rfl (by kernel_rfl) (by kernel_rfl) rfl rfl (by kernel_rfl) ?_
    refine ls_val (v := .bool true) rfl rfl (by kernel_rfl) (fun w => by kernel_rfl) ?_
    refine ls_val (v := .bool true) rfl rfl (by kernel_rfl) (fun w => by kernel_rfl) ?_
    refine ls_end ?_
    refine qn_then ?_
    refine cs_true (by kernel_rfl) ?_
    refine cs_seq ?_
    refine cs_region (l := [_]) ?_
    refine ls_val (v := .int .i64 (2 : Int)) rfl rfl (by kernel_rfl) (fun w => by kernel_rfl) ?_
    refine ls_end ?_
    refine qn_then ?_
    refine cs_ret' ?_
    refine qr_block ?_
    refine qr_then ?_
    obtain rfl := Option.some.inj H
    refine qr_res (rs := [_]) rfl (fun w' hs => ⟨[.int .i64 (2 : Int)], (res_tmp (by kernel_rfl) (.nil)), (), rfl, hs.pick (ts := [0, 1]) (cs := [Ck.var 34 pg0 (([Value.slice (some ⟨gl0_0, 0, none⟩) n0_0 c0_0] ++ ([Value.map (some r0_1)] ++ ([Value.bool v0.2.2.1] ++ ([Value.int .i64 v0.2.2.2.1] ++ [Value.bool v0.2.2.2.2]))))), Ck.mr T48 r0_1 gl0_0 c0_0 n0_0 w0_1]) ⟨by exact rfl, by exact rfl, trivial⟩ (by decide)⟩)
  · replace H := ite_f q4 H
    refine ls_know (c := false) (dec_f q4) 11 (by kernel_rfl) ?_
    refine ls_on (j := 2) (t := 11) (b := false) rfl rfl (by kernel_rfl) (by kernel_rfl) ?_
    refine ls_val (v := .int .i64 a1) rfl rfl (by kernel_rfl) (fun w => by kernel_rfl) ?_
    refine ls_on (j := 2) (t := 11) (b := false) rfl rfl (by kernel_rfl) (by kernel_rfl) ?_
    refine ls_val (v := .pointer (some ⟨pg0, 0, none⟩)) rfl rfl (by kernel_rfl) (fun w => by kernel_rfl) ?_
    refine ls_on (j := 2) (t := 11) (b := false) rfl rfl (by kernel_rfl) (by kernel_rfl) ?_
    refine ls_val (v := .pointer (some ⟨pg0, 0, none⟩)) rfl rfl (by kernel_rfl) (fun w => by kernel_rfl) ?_
    refine ls_on (j := 2) (t := 11) (b := false) rfl rfl (by kernel_rfl) (by kernel_rfl) ?_
    refine ls_val (v := .pointer (some ⟨pg0, (0 + 0), none⟩)) rfl rfl (by kernel_rfl) (fun w => by kernel_rfl) ?_
    refine ls_on (j := 2) (t := 11) (b := false) rfl rfl (by kernel_rfl) (by kernel_rfl) ?_
    refine ls_mrn 1 (by exact rfl) (fun hn5 => ?_)
    refine ls_load (a0 := ⟨pg0, (0 + 0), none⟩) (v := .slice (some ⟨gl0_0, 0, none⟩) n0_0 c0_0) (de := (TypeDesc.slice 48)) rfl rfl (by kernel_rfl) rfl (by kernel_rfl) (by kernel_rfl) (by kernel_rfl) (fun w hs => (hs.var (k := 0) (by exact rfl) (Sub4.trans (Sub4.all _) (Sub4.head _ _)))) ?_
    refine ls_ren 16 (v := .slice (some ⟨gl0_0, 0, none⟩) n0_0 c0_0) (v' := .slice (some ⟨gl0_0, 0, none⟩) w0_1.2.length c0_0) (by kernel_rfl) (by rw [hn5]) ?_
    refine ls_on (j := 2) (t := 11) (b := false) rfl rfl (by kernel_rfl) (by kernel_rfl) ?_
    refine ls_val (v := .int .i64 (w0_1.2.length : Int)) rfl rfl (by kernel_rfl) (fun w => by kernel_rfl) ?_
    refine ls_on (j := 2) (t := 11) (b := false) rfl rfl (by kernel_rfl) (by kernel_rfl) ?_
    refine ls_val (v := .bool (decide (a1 ≥ (w0_1.2.length : Int)))) rfl rfl (by kernel_rfl) (fun w => by kernel_rfl) ?_
    refine ls_val (v := .bool (decide (a1 ≥ (w0_1.2.length : Int)))) rfl rfl (by kernel_rfl) (fun w => by kernel_rfl) ?_
    refine ls_val (v := .bool (decide (a1 ≥ (w0_1.2.length : Int)))) rfl rfl (by kernel_rfl) (fun w => by kernel_rfl) ?_
    refine ls_end ?_
    refine qn_then ?_
    by_cases q6 : a1 ≥ (w0_1.2.length : Int)
    · replace H := ite_t q6 H
      refine cs_know (c := true) (dec_t q6) 8 (by kernel_rfl) ?_
      refine cs_true (by kernel_rfl) ?_
      refine cs_seq ?_
      refine cs_region (l := [_]) ?_
      refine ls_val (v := .int .i64 (2 : Int)) rfl rfl (by kernel_rfl) (fun w => by kernel_rfl) ?_
      refine ls_end ?_
      refine qn_then ?_
      refine cs_ret' ?_
      refine qr_block ?_
      refine qr_then ?_
      obtain rfl := Option.some.inj H
      refine qr_res (rs := [_]) rfl (fun w' hs => ⟨[.int .i64 (2 : Int)], (res_tmp (by kernel_rfl) (.nil)), (), rfl, hs.pick (ts := [0, 1]) (cs := [Ck.var 34 pg0 (([Value.slice (some ⟨gl0_0, 0, none⟩) n0_0 c0_0] ++ ([Value.map (some r0_1)] ++ ([Value.bool v0.2.2.1] ++ ([Value.int .i64 v0.2.2.2.1] ++ [Value.bool v0.2.2.2.2]))))), Ck.mr T48 r0_1 gl0_0 c0_0 n0_0 w0_1]) ⟨by exact rfl, by exact rfl, trivial⟩ (by decide)⟩)
    · replace H := ite_f q6 H
      refine cs_know (c := false) (dec_f q6) 8 (by kernel_rfl) ?_
      refine cs_false (by kernel_rfl) ?_
      refine cs_skip' ?_
      refine qn_block ?_
      refine qn_then ?_
      refine cs_seq ?_
      refine cs_region (l := [_]) ?_
      refine ls_val (v := .int .i64 (0 : Int)) rfl rfl (by kernel_rfl) (fun w => by kernel_rfl) ?_
      refine ls_end ?_
      refine qn_then ?_
      refine cs_ret' ?_
      obtain rfl := Option.some.inj H
      refine qr_res (rs := [_]) rfl (fun w' hs => ⟨[.int .i64 (0 : Int)], (res_tmp (by kernel_rfl) (.nil)), (), rfl, hs.pick (ts := [0, 1]) (cs := [Ck.var 34 pg0 (([Value.slice (some ⟨gl0_0, 0, none⟩) n0_0 c0_0] ++ ([Value.map (some r0_1)] ++ ([Value.bool v0.2.2.1] ++ ([Value.int .i64 v0.2.2.2.1] ++ [Value.bool v0.2.2.2.2]))))), Ck.mr T48 r0_1 gl0_0 c0_0 n0_0 w0_1]) ⟨by exact rfl, by exact rfl, trivial⟩ (by decide)⟩)

/-! ### (*shadowbox/disk.Disk).spend: function 16 -/
def disk_Disk_spend.f (k : Nat) (v0 : (Unit × Unit × Bool × Int × Bool)) (w0_1 : (List (Int × (Vc Int 512)) × List (Vc Int 512))) : Option (Int × (Unit × Unit × Bool × Int × Bool)) :=
  (if v0.2.2.2.2 = true then some ((17 : Int), ((), (), v0.2.2.1, v0.2.2.2.1, true)) else (if v0.2.2.1 = true then (if decide (v0.2.2.2.1 = (0 : Int)) = true then some ((17 : Int), ((), (), v0.2.2.1, v0.2.2.2.1, decide (v0.2.2.2.1 = (0 : Int)))) else lt (IntKind.wrap .i64 (v0.2.2.2.1 - (1 : Int))) fun y4 => some ((0 : Int), ((), (), v0.2.2.1, y4, decide (v0.2.2.2.1 = (0 : Int))))) else some ((0 : Int), ((), (), v0.2.2.1, v0.2.2.2.1, false))))
set_option maxRecDepth 100000 in
set_option maxHeartbeats 4000000 in
theorem disk_Disk_spend.calls (k : Nat) (pg0 : Nat) (gl0_0 : Nat) (n0_0 : Nat) (c0_0 : Nat) (r0_1 : Nat) (v0 : (Unit × Unit × Bool × Int × Bool)) (w0_1 : (List (Int × (Vc Int 512)) × List (Vc Int 512))) (r : Int × (Unit × Unit × Bool × Int × Bool)) (b : Bs) (hs0 : St b (stl [Ck.var 34 pg0 (([Value.slice (some ⟨gl0_0, 0, none⟩) n0_0 c0_0] ++ ([Value.map (some r0_1)] ++ ([Value.bool v0.2.2.1] ++ ([Value.int .i64 v0.2.2.2.1] ++ [Value.bool v0.2.2.2.2]))))), Ck.mr T48 r0_1 gl0_0 c0_0 n0_0 w0_1]) b.w) (H : disk_Disk_spend.f k v0 w0_1 = some r) :
    Calls Try.prog 16 #[.pointer (some ⟨pg0, 0, none⟩)] b.w fun e w' => ∃ x : Unit, e = .returned (.int .i64 r.1) ∧ St b (stl [Ck.var 34 pg0 (([Value.slice (some ⟨gl0_0, 0, none⟩) n0_0 c0_0] ++ ([Value.map (some r0_1)] ++ ([Value.bool r.2.2.2.1] ++ ([Value.int .i64 r.2.2.2.2.1] ++ [Value.bool r.2.2.2.2.2]))))), Ck.mr T48 r0_1 gl0_0 c0_0 n0_0 w0_1]) w' := by
  unfold disk_Disk_spend.f at H
  refine enterb (n := 38) Try.func16 rfl (by kernel_rfl) (by kernel_rfl) hs0 ?_
  refine cs_sub (sput (sput s0 0 (some (Ck.var 34 pg0 (([Value.slice (some ⟨gl0_0, 0, none⟩) n0_0 c0_0] ++ ([Value.map (some r0_1)] ++ ([Value.bool v0.2.2.1] ++ ([Value.int .i64 v0.2.2.2.1] ++ [Value.bool v0.2.2.2.2])))))))) 1 (some (Ck.mr T48 r0_1 gl0_0 c0_0 n0_0 w0_1))) (sub_put (by exact rfl) (sub_put (by exact rfl) (sub_nil _))) ?_
  refine cs_seq ?_
  refine cs_region (l := [_]) ?_
  refine ls_val (v := .int .i64 (0 : Int)) rfl rfl (by kernel_rfl) (fun w => by kernel_rfl) ?_
  refine ls_end ?_
  refine qn_then ?_
  refine cs_seq ?_
  refine cs_region (l := [_, _, _, _, _, _, _, _, _, _, _, _, _, _, _, _, _, _, _, _, _]) ?_
  refine ls_val (v := .pointer (some ⟨pg0, 0, none⟩)) rfl rfl (by kernel_rfl) (fun w => by kernel_rfl) ?_
  refine ls_val (v := .pointer (some ⟨pg0, 0, none⟩)) rfl rfl (by kernel_rfl) (fun w => by kernel_rfl) ?_
  refine ls_val (v := .pointer (some ⟨pg0, 0, none⟩)) rfl rfl (by kernel_rfl) (fun w => by kernel_rfl) ?_
  refine ls_val (v := .pointer (some ⟨pg0, (0 + 4), none⟩)) rfl rfl (by kernel_rfl) (fun w => by kernel_rfl) ?_
  refine ls_load (a0 := ⟨pg0, (0 + 4), none⟩) (v := .bool v0.2.2.2.2) (de := TypeDesc.bool) rfl rfl (by kernel_rfl) rfl (by kernel_rfl) (by kernel_rfl) (by kernel_rfl) (fun w hs => (hs.var (k := 0) (by exact rfl) (Sub4.trans (Sub4.all _) (Sub4.skip (n := 1) (len1 _) (Sub4.skip (n := 1) (len1 _) (Sub4.skip (n := 1) (len1 _) (Sub4.skip (n := 1) (len1 _) (Sub4.all _)))))))) ?_
  refine ls_val (v := .bool v0.2.2.2.2) rfl rfl (by kernel_rfl) (fun w => by kernel_rfl) ?_
  by_cases q1 : v0.2.2.2.2 = true
  · replace H := ite_t q1 H
    refine ls_know (c := true) (q1) 8 (by kernel_rfl) ?_
    refine ls_off (j := 5) (t := 8) (b := false) (c := true) rfl rfl (by kernel_rfl) (by kernel_rfl) rfl rfl (by kernel_rfl) ?_
    refine ls_off (j := 5) (t := 8) (b := false) (c := true) rfl rfl (by kernel_rfl) (by kernel_rfl) rfl rfl (by kernel_rfl) ?_
    refine ls_off (j := 5) (t := 8) (b := false) (c := true) rfl rfl (by kernel_rfl) (by kernel_rfl) rfl rfl (by kernel_rfl) ?_
    refine ls_off (j := 5) (t := 8) (b := false) (c := true) rfl rfl (by kernel_rfl) (by kernel_rfl) rfl rfl (by kernel_rfl) ?_
    refine ls_off (j := 5) (t := 8) (b := false) (c := true) rfl rfl (by kernel_rfl) (by kernel_rfl) rfl rfl (by kernel_rfl) ?_
    refine ls_offu (j := 10) (t := 13) (b := true) rfl rfl (by kernel_rfl) (by kernel_rfl) rfl (by kernel_rfl) ?_
    refine ls_offu (j := 10) (t := 13) (b := true) rfl rfl (by kernel_rfl) (by kernel_rfl) rfl (by kernel_rfl) ?_
    refine ls_offu (j := 10) (t := 13) (b := true) rfl rfl (by kernel_rfl) (by kernel_rfl) rfl (by kernel_rfl) ?_
    refine ls_offu (j := 10) (t := 13) (b := true) rfl rfl (by kernel_rfl) (by kernel_rfl) rfl (by kernel_rfl) ?_
    refine ls_offu (j := 10) (t := 13) (b := true) rfl rfl (by kernel_rfl) (by kernel_rfl) rfl (by kernel_rfl) ?_
    refine ls_off (j := 5) (t := 8) (b := false) (c := true) rfl rfl (by kernel_rfl) (by kernel_rfl) rfl rfl (by kernel_rfl) ?_
    refine ls_val (v := .bool true) rfl rfl (by kernel_rfl) (fun w => by kernel_rfl) ?_
    refine ls_val (v := .pointer (some ⟨pg0, 0, none⟩)) rfl rfl (by kernel_rfl) (fun w => by kernel_rfl) ?_
    refine ls_val (v := .pointer (some ⟨pg0, (0 + 4), none⟩)) rfl rfl (by kernel_rfl) (fun w => by kernel_rfl) ?_
    refine ls_storec (g := pg0) (off := (0 + 4)) (v := .bool true) (vs := [Value.bool true]) (cs := ([Value.slice (some ⟨gl0_0, 0, none⟩) n0_0 c0_0] ++ ([Value.map (some r0_1)] ++ ([Value.bool v0.2.2.1] ++ ([Value.int .i64 v0.2.2.2.1] ++ [Value.bool v0.2.2.2.2]))))) (ty := 34) 0 rfl rfl rfl (by kernel_rfl) (by kernel_rfl) (by kernel_rfl) (by exact rfl) (by kernel_rfl) (len1 _) (one_cons rfl one_nil) (hl_of (Sub4.trans (Sub4.all _) (Sub4.skip (n := 1) (len1 _) (Sub4.skip (n := 1) (len1 _) (Sub4.skip (n := 1) (len1 _) (Sub4.skip (n := 1) (len1 _) (Sub4.all _)))))) (len_eq (len1 _) (len1 _))) (cs' := ([Value.slice (some ⟨gl0_0, 0, none⟩) n0_0 c0_0] ++ ([Value.map (some r0_1)] ++ ([Value.bool v0.2.2.1] ++ ([Value.int .i64 v0.2.2.2.1] ++ [Value.bool true]))))) (splc_in (Sub4.all _) (splc_skip (n := 1) (len1 _) (splc_skip (n := 1) (len1 _) (splc_skip (n := 1) (len1 _) (splc_skip (n := 1) (len1 _) (splc_all (len_eq (len1 _) (len1 _))))))) (splc_all (len_eq (len_app (len1 _) (len_app (len1 _) (len_app (len1 _) (len_app (len1 _) (len1 _))))) (len_app (len1 _) (len_app (len1 _) (len_app (len1 _) (len_app (len1 _) (len1 _))))))) (hl_of (Sub4.skip (n := 1) (len1 _) (Sub4.skip (n := 1) (len1 _) (Sub4.skip (n := 1) (len1 _) (Sub4.skip (n := 1) (len1 _) (Sub4.all _))))) (len_eq (len1 _) (len1 _)))) ?_
    refine ls_end ?_
    refine qn_then ?_
    refine cs_seq ?_
    refine cs_seq ?_
    refine cs_region (l := [_, _, _, _]) ?_
    refine ls_val (v := .pointer (some ⟨pg0, 0, none⟩)) rfl rfl (by kernel_rfl) (fun w => by kernel_rfl) ?_
    refine ls_val (v := .pointer (some ⟨pg0, 0, none⟩)) rfl rfl (by kernel_rfl) (fun w => by kernel_rfl) ?_
    refine ls_val (v := .pointer (some ⟨pg0, (0 + 4), none⟩)) rfl rfl (by kernel_rfl) (fun w => by kernel_rfl) ?_
    refine ls_load (a0 := ⟨pg0, (0 + 4), none⟩) (v := .bool true) (de := TypeDesc.bool) rfl rfl (by kernel_rfl) rfl (by kernel_rfl) (by kernel_rfl) (by kernel_rfl) (fun w hs => (hs.var (k := 0) (by exact rfl) (Sub4.trans (Sub4.all _) (Sub4.skip (n := 1) (len1 _) (Sub4.skip (n := 1) (len1 _) (Sub4.skip (n := 1) (len1 _) (Sub4.skip (n := 1) (len1 _) (Sub4.all _)))))))) ?_
    refine ls_end ?_
    refine qn_then ?_
    refine cs_true (by kernel_rfl) ?_
    refine cs_seq ?_
    refine cs_region (l := [_]) ?_
    refine ls_val (v := .int .i64 (17 : Int)) rfl rfl (by kernel_rfl) (fun w => by kernel_rfl) ?_
    refine ls_end ?_
    refine qn_then ?_
    refine cs_ret' ?_
    refine qr_then ?_
    obtain rfl := Option.some.inj H
    refine qr_res (rs := [_]) rfl (fun w' hs => ⟨[.int .i64 (17 : Int)], (res_tmp (by kernel_rfl) (.nil)), (), rfl, hs.pick (ts := [0, 1]) (cs := [Ck.var 34 pg0 (([Value.slice (some ⟨gl0_0, 0, none⟩) n0_0 c0_0] ++ ([Value.map (some r0_1)] ++ ([Value.bool v0.2.2.1] ++ ([Value.int .i64 v0.2.2.2.1] ++ [Value.bool true]))))), Ck.mr T48 r0_1 gl0_0 c0_0 n0_0 w0_1]) ⟨by exact rfl, by exact rfl, trivial⟩ (by decide)⟩)
  · replace H := ite_f q1 H
    refine ls_know (c := false) (Bool.eq_false_iff.mpr q1) 8 (by kernel_rfl) ?_
    refine ls_on (j := 5) (t := 8) (b := false) rfl rfl (by kernel_rfl) (by kernel_rfl) ?_
    refine ls_val (v := .pointer (some ⟨pg0, 0, none⟩)) rfl rfl (by kernel_rfl) (fun w => by kernel_rfl) ?_
    refine ls_on (j := 5) (t := 8) (b := false) rfl rfl (by kernel_rfl) (by kernel_rfl) ?_
    refine ls_val (v := .pointer (some ⟨pg0, 0, none⟩)) rfl rfl (by kernel_rfl) (fun w => by kernel_rfl) ?_
    refine ls_on (j := 5) (t := 8) (b := false) rfl rfl (by kernel_rfl) (by kernel_rfl) ?_
    refine ls_val (v := .pointer (some ⟨pg0, (0 + 2), none⟩)) rfl rfl (by kernel_rfl) (fun w => by kernel_rfl) ?_
    refine ls_on (j := 5) (t := 8) (b := false) rfl rfl (by kernel_rfl) (by kernel_rfl) ?_
    refine ls_load (a0 := ⟨pg0, (0 + 2), none⟩) (v := .bool v0.2.2.1) (de := TypeDesc.bool) rfl rfl (by kernel_rfl) rfl (by kernel_rfl) (by kernel_rfl) (by kernel_rfl) (fun w hs => (hs.var (k := 0) (by exact rfl) (Sub4.trans (Sub4.all _) (Sub4.skip (n := 1) (len1 _) (Sub4.skip (n := 1) (len1 _) (Sub4.head _ _)))))) ?_
    refine ls_on (j := 5) (t := 8) (b := false) rfl rfl (by kernel_rfl) (by kernel_rfl) ?_
    refine ls_val (v := .bool v0.2.2.1) rfl rfl (by kernel_rfl) (fun w => by kernel_rfl) ?_
    by_cases q2 : v0.2.2.1 = true
    · replace H := ite_t q2 H
      refine ls_know (c := true) (q2) 13 (by kernel_rfl) ?_
      refine ls_on (j := 10) (t := 13) (b := true) rfl rfl (by kernel_rfl) (by kernel_rfl) ?_
      refine ls_val (v := .pointer (some ⟨pg0, 0, none⟩)) rfl rfl (by kernel_rfl) (fun w => by kernel_rfl) ?_
      refine ls_on (j := 10) (t := 13) (b := true) rfl rfl (by kernel_rfl) (by kernel_rfl) ?_
      refine ls_val (v := .pointer (some ⟨pg0, 0, none⟩)) rfl rfl (by kernel_rfl) (fun w => by kernel_rfl) ?_
      refine ls_on (j := 10) (t := 13) (b := true) rfl rfl (by kernel_rfl) (by kernel_rfl) ?_
      refine ls_val (v := .pointer (some ⟨pg0, (0 + 3), none⟩)) rfl rfl (by kernel_rfl) (fun w => by kernel_rfl) ?_
      refine ls_on (j := 10) (t := 13) (b := true) rfl rfl (by kernel_rfl) (by kernel_rfl) ?_
      refine ls_load (a0 := ⟨pg0, (0 + 3), none⟩) (v := .int .i64 v0.2.2.2.1) (de := (TypeDesc.int .i64)) rfl rfl (by kernel_rfl) rfl (by kernel_rfl) (by kernel_rfl) (by kernel_rfl) (fun w hs => (hs.var (k := 0) (by exact rfl) (Sub4.trans (Sub4.all _) (Sub4.skip (n := 1) (len1 _) (Sub4.skip (n := 1) (len1 _) (Sub4.skip (n := 1) (len1 _) (Sub4.head _ _))))))) ?_
      refine ls_on (j := 10) (t := 13) (b := true) rfl rfl (by kernel_rfl) (by kernel_rfl) ?_
      refine ls_val (v := .bool (decide (v0.2.2.2.1 = (0 : Int)))) rfl rfl (by kernel_rfl) (fun w => by kernel_rfl) ?_
      refine ls_on (j := 5) (t := 8) (b := false) rfl rfl (by kernel_rfl) (by kernel_rfl) ?_
      refine ls_val (v := .bool (decide (v0.2.2.2.1 = (0 : Int)))) rfl rfl (by kernel_rfl) (fun w => by kernel_rfl) ?_
      refine ls_val (v := .bool (decide (v0.2.2.2.1 = (0 : Int)))) rfl rfl (by kernel_rfl) (fun w => by kernel_rfl) ?_
      refine ls_val (v := .pointer (some ⟨pg0, 0, none⟩)) rfl rfl (by kernel_rfl) (fun w => by kernel_rfl) ?_
      refine ls_val (v := .pointer (some ⟨pg0, (0 + 4), none⟩)) rfl rfl (by kernel_rfl) (fun w => by kernel_rfl) ?_
      refine ls_storec (g := pg0) (off := (0 + 4)) (v := .bool (decide (v0.2.2.2.1 = (0 : Int)))) (vs := [Value.bool (decide (v0.2.2.2.1 = (0 : Int)))]) (cs := ([Value.slice (some ⟨gl0_0, 0, none⟩) n0_0 c0_0] ++ ([Value.map (some r0_1)] ++ ([Value.bool v0.2.2.1] ++ ([Value.int .i64 v0.2.2.2.1] ++ [Value.bool v0.2.2.2.2]))))) (ty := 34) 0 rfl rfl rfl (by kernel_rfl) (by kernel_rfl) (by kernel_rfl) (by exact rfl) (by kernel_rfl) (len1 _) (one_cons rfl one_nil) (hl_of (Sub4.trans (Sub4.all _) (Sub4.skip (n := 1) (len1 _) (Sub4.skip (n := 1) (len1 _) (Sub4.skip (n := 1) (len1 _) (Sub4.skip (n := 1) (len1 _) (Sub4.all _)))))) (len_eq (len1 _) (len1 _))) (cs' := ([Value.slice (some ⟨gl0_0, 0, none⟩) n0_0 c0_0] ++ ([Value.map (some r0_1)] ++ ([Value.bool v0.2.2.1] ++ ([Value.int .i64 v0.2.2.2.1] ++ [Value.bool (decide (v0.2.2.2.1 = (0 : Int)))]))))) (splc_in (Sub4.all _) (splc_skip (n := 1) (len1 _) (splc_skip (n := 1) (len1 _) (splc_skip (n := 1) (len1 _) (splc_skip (n := 1) (len1 _) (splc_all (len_eq (len1 _) (len1 _))))))) (splc_all (len_eq (len_app (len1 _) (len_app (len1 _) (len_app (len1 _) (len_app (len1 _) (len1 _))))) (len_app (len1 _) (len_app (len1 _) (len_app (len1 _) (len_app (len1 _) (len1 _))))))) (hl_of (Sub4.skip (n := 1) (len1 _) (Sub4.skip (n := 1) (len1 _) (Sub4.skip (n := 1) (len1 _) (Sub4.skip (n := 1) (len1 _) (Sub4.all _))))) (len_eq (len1 _) (len1 _)))) ?_
      refine ls_end ?_
      refine qn_then ?_
      refine cs_seq ?_
      refine cs_seq ?_
      refine cs_region (l := [_, _, _, _]) ?_
      refine ls_val (v := .pointer (some ⟨pg0, 0, none⟩)) rfl rfl (by kernel_rfl) (fun w => by kernel_rfl) ?_
      refine ls_val (v := .pointer (some ⟨pg0, 0, none⟩)) rfl rfl (by kernel_rfl) (fun w => by kernel_rfl) ?_
      refine ls_val (v := .pointer (some ⟨pg0, (0 + 4), none⟩)) rfl rfl (by kernel_rfl) (fun w => by kernel_rfl) ?_
      refine ls_load (a0 := ⟨pg0, (0 + 4), none⟩) (v := .bool (decide (v0.2.2.2.1 = (0 : Int)))) (de := TypeDesc.bool) rfl rfl (by kernel_rfl) rfl (by kernel_rfl) (by kernel_rfl) (by kernel_rfl) (fun w hs => (hs.var (k := 0) (by exact rfl) (Sub4.trans (Sub4.all _) (Sub4.skip (n := 1) (len1 _) (Sub4.skip (n := 1) (len1 _) (Sub4.skip (n := 1) (len1 _) (Sub4.skip (n := 1) (len1 _) (Sub4.all _)))))))) ?_
      refine ls_end ?_
      refine qn_then ?_
      by_cases q3 : decide (v0.2.2.2.1 = (0 : Int)) = true
      · replace H := ite_t q3 H
        refine cs_know (c := true) (q3) 26 (by kernel_rfl) ?_
        refine cs_true (by kernel_rfl) ?_
        refine cs_seq ?_
        refine cs_region (l := [_]) ?_
        refine ls_val (v := .int .i64 (17 : Int)) rfl rfl (by kernel_rfl) (fun w => by kernel_rfl) ?_
        refine ls_end ?_
        refine qn_then ?_
        refine cs_ret' ?_
        refine qr_then ?_
        obtain rfl := Option.some.inj H
        refine qr_res (rs := [_]) rfl (fun w' hs => ⟨[.int .i64 (17 : Int)], (res_tmp (by kernel_rfl) (.nil)), (), rfl, hs.pick (ts := [0, 1]) (cs := [Ck.var 34 pg0 (([Value.slice (some ⟨gl0_0, 0, none⟩) n0_0 c0_0] ++ ([Value.map (some r0_1)] ++ ([Value.bool v0.2.2.1] ++ ([Value.int .i64 v0.2.2.2.1] ++ [Value.bool (decide (v0.2.2.2.1 = (0 : Int)))]))))), Ck.mr T48 r0_1 gl0_0 c0_0 n0_0 w0_1]) ⟨by exact rfl, by exact rfl, trivial⟩ (by decide)⟩)
      · replace H := ite_f q3 H
        refine cs_know (c := false) (Bool.eq_false_iff.mpr q3) 26 (by kernel_rfl) ?_
        refine cs_false (by kernel_rfl) ?_
        refine cs_skip' ?_
        refine qn_then ?_
        refine cs_seq ?_
        refine cs_seq ?_
        refine cs_region (l := [_, _, _, _]) ?_
        refine ls_val (v := .pointer (some ⟨pg0, 0, none⟩)) rfl rfl (by kernel_rfl) (fun w => by kernel_rfl) ?_
        refine ls_val (v := .pointer (some ⟨pg0, 0, none⟩)) rfl rfl (by kernel_rfl) (fun w => by kernel_rfl) ?_
        refine ls_val (v := .pointer (some ⟨pg0, (0 + 2), none⟩)) rfl rfl (by kernel_rfl) (fun w => by kernel_rfl) ?_
        refine ls_load (a0 := ⟨pg0, (0 + 2), none⟩) (v := .bool v0.2.2.1) (de := TypeDesc.bool) rfl rfl (by kernel_rfl) rfl (by kernel_rfl) (by kernel_rfl) (by kernel_rfl) (fun w hs => (hs.var (k := 0) (by exact rfl) (Sub4.trans (Sub4.all _) (Sub4.skip (n := 1) (len1 _) (Sub4.skip (n := 1) (len1 _) (Sub4.head _ _)))))) ?_
        refine ls_end ?_
        refine qn_then ?_
        refine cs_know (c := true) (q2) 30 (by kernel_rfl) ?_
        refine cs_true (by kernel_rfl) ?_
        refine cs_region (l := [_, _, _, _, _, _, _, _]) ?_
        refine ls_val (v := .pointer (some ⟨pg0, 0, none⟩)) rfl rfl (by kernel_rfl) (fun w => by kernel_rfl) ?_
        refine ls_val (v := .pointer (some ⟨pg0, 0, none⟩)) rfl rfl (by kernel_rfl) (fun w => by kernel_rfl) ?_
        refine ls_val (v := .pointer (some ⟨pg0, (0 + 3), none⟩)) rfl rfl (by kernel_rfl) (fun w => by kernel_rfl) ?_
        refine ls_load (a0 := ⟨pg0, (0 + 3), none⟩) (v := .int .i64 v0.2.2.2.1) (de := (TypeDesc.int .i64)) rfl rfl (by kernel_rfl) rfl (by kernel_rfl) (by kernel_rfl) (by kernel_rfl) (fun w hs => (hs.var (k := 0) (by exact rfl) (Sub4.trans (Sub4.all _) (Sub4.skip (n := 1) (len1 _) (Sub4.skip (n := 1) (len1 _) (Sub4.skip (n := 1) (len1 _) (Sub4.head _ _))))))) ?_
        obtain ⟨y4, hy5, H⟩ := lt_some H
        refine ls_val (v := .int .i64 (IntKind.wrap .i64 (v0.2.2.2.1 - (1 : Int)))) rfl rfl (by kernel_rfl) (fun w => by kernel_rfl) ?_
        refine ls_ren 35 (v := .int .i64 (IntKind.wrap .i64 (v0.2.2.2.1 - (1 : Int)))) (v' := .int .i64 y4) (by kernel_rfl) (by rw [hy5]) ?_
        refine ls_val (v := .pointer (some ⟨pg0, 0, none⟩)) rfl rfl (by kernel_rfl) (fun w => by kernel_rfl) ?_
        refine ls_val (v := .pointer (some ⟨pg0, (0 + 3), none⟩)) rfl rfl (by kernel_rfl) (fun w => by kernel_rfl) ?_
        refine ls_storec (g := pg0) (off := (0 + 3)) (v := .int .i64 y4) (vs := [Value.int .i64 y4]) (cs := ([Value.slice (some ⟨gl0_0, 0, none⟩) n0_0 c0_0] ++ ([Value.map (some r0_1)] ++ ([Value.bool v0.2.2.1] ++ ([Value.int .i64 v0.2.2.2.1] ++ [Value.bool (decide (v0.2.2.2.1 = (0 : Int)))]))))) (ty := 34) 0 rfl rfl rfl (by kernel_rfl) (by kernel_rfl) (by kernel_rfl) (by exact rfl) (by kernel_rfl) (len1 _) (one_cons rfl one_nil) (hl_of (Sub4.trans (Sub4.all _) (Sub4.skip (n := 1) (len1 _) (Sub4.skip (n := 1) (len1 _) (Sub4.skip (n := 1) (len1 _) (Sub4.head _ _))))) (len_eq (len1 _) (len1 _))) (cs' := ([Value.slice (some ⟨gl0_0, 0, none⟩) n0_0 c0_0] ++ ([Value.map (some r0_1)] ++ ([Value.bool v0.2.2.1] ++ ([Value.int .i64 y4] ++ [Value.bool (decide (v0.2.2.2.1 = (0 : Int)))]))))) (splc_in (Sub4.all _) (splc_skip (n := 1) (len1 _) (splc_skip (n := 1) (len1 _) (splc_skip (n := 1) (len1 _) (splc_head (len_eq (len1 _) (len1 _)))))) (splc_all (len_eq (len_app (len1 _) (len_app (len1 _) (len_app (len1 _) (len_app (len1 _) (len1 _))))) (len_app (len1 _) (len_app (len1 _) (len_app (len1 _) (len_app (len1 _) (len1 _))))))) (hl_of (Sub4.skip (n := 1) (len1 _) (Sub4.skip (n := 1) (len1 _) (Sub4.skip (n := 1) (len1 _) (Sub4.head _ _)))) (len_eq (len1 _) (len1 _)))) ?_
        refine ls_end ?_
        refine qn_then ?_
        refine cs_seq ?_
        refine cs_region (l := [_]) ?_
        refine ls_val (v := .int .i64 (0 : Int)) rfl rfl (by kernel_rfl) (fun w => by kernel_rfl) ?_
        refine ls_end ?_
        refine qn_then ?_
        refine cs_ret' ?_
        obtain rfl := Option.some.inj H
        refine qr_res (rs := [_]) rfl (fun w' hs => ⟨[.int .i64 (0 : Int)], (res_tmp (by kernel_rfl) (.nil)), (), rfl, hs.pick (ts := [0, 1]) (cs := [Ck.var 34 pg0 (([Value.slice (some ⟨gl0_0, 0, none⟩) n0_0 c0_0] ++ ([Value.map (some r0_1)] ++ ([Value.bool v0.2.2.1] ++ ([Value.int .i64 y4] ++ [Value.bool (decide (v0.2.2.2.1 = (0 : Int)))]))))), Ck.mr T48 r0_1 gl0_0 c0_0 n0_0 w0_1]) ⟨by exact rfl, by exact rfl, trivial⟩ (by decide)⟩)
    · replace H := ite_f q2 H
      refine ls_know (c := false) (Bool.eq_false_iff.mpr q2) 13 (by kernel_rfl) ?_
      refine ls_off (j := 10) (t := 13) (b := true) (c := false) rfl rfl (by kernel_rfl) (by kernel_rfl) rfl rfl (by kernel_rfl) ?_
      refine ls_off (j := 10) (t := 13) (b := true) (c := false) rfl rfl (by kernel_rfl) (by kernel_rfl) rfl rfl (by kernel_rfl) ?_
      refine ls_off (j := 10) (t := 13) (b := true) (c := false) rfl rfl (by kernel_rfl) (by kernel_rfl) rfl rfl (by kernel_rfl) ?_
      refine ls_off (j := 10) (t := 13) (b := true) (c := false) rfl rfl (by kernel_rfl) (by kernel_rfl) rfl rfl (by kernel_rfl) ?_
      refine ls_off (j := 10) (t := 13) (b := true) (c := false) rfl rfl (by kernel_rfl) (by kernel_rfl) rfl rfl (by kernel_rfl) ?_
      refine ls_on (j := 5) (t := 8) (b := false) rfl rfl (by kernel_rfl) (by kernel_rfl) ?_
      refine ls_val (v := .bool false) rfl rfl (by kernel_rfl) (fun w => by kernel_rfl) ?_
      refine ls_val (v := .bool false) rfl rfl (by kernel_rfl) (fun w => by kernel_rfl) ?_
      refine ls_val (v := .pointer (some ⟨pg0, 0, none⟩)) rfl rfl (by kernel_rfl) (fun w => by kernel_rfl) ?_
      refine ls_val (v := .pointer (some ⟨pg0, (0 + 4), none⟩)) rfl rfl (by kernel_rfl) (fun w => by kernel_rfl) ?_
      refine ls_storec (g := pg0) (off := (0 + 4)) (v := .bool false) (vs := [Value.bool false]) (cs := ([Value.slice (some ⟨gl0_0, 0, none⟩) n0_0 c0_0] ++ ([Value.map (some r0_1)] ++ ([Value.bool v0.2.2.1] ++ ([Value.int .i64 v0.2.2.2.1] ++ [Value.bool v0.2.2.2.2]))))) (ty := 34) 0 rfl rfl rfl (by kernel_rfl) (by kernel_rfl) (by kernel_rfl) (by exact rfl) (by kernel_rfl) (len1 _) (one_cons rfl one_nil) (hl_of (Sub4.trans (Sub4.all _) (Sub4.skip (n := 1) (len1 _) (Sub4.skip (n := 1) (len1 _) (Sub4.skip (n := 1) (len1 _) (Sub4.skip (n := 1) (len1 _) (Sub4.all _)))))) (len_eq (len1 _) (len1 _))) (cs' := ([Value.slice (some ⟨gl0_0, 0, none⟩) n0_0 c0_0] ++ ([Value.map (some r0_1)] ++ ([Value.bool v0.2.2.1] ++ ([Value.int .i64 v0.2.2.2.1] ++ [Value.bool false]))))) (splc_in (Sub4.all _) (splc_skip (n := 1) (len1 _) (splc_skip (n := 1) (len1 _) (splc_skip (n := 1) (len1 _) (splc_skip (n := 1) (len1 _) (splc_all (len_eq (len1 _) (len1 _))))))) (splc_all (len_eq (len_app (len1 _) (len_app (len1 _) (len_app (len1 _) (len_app (len1 _) (len1 _))))) (len_app (len1 _) (len_app (len1 _) (len_app (len1 _) (len_app (len1 _) (len1 _))))))) (hl_of (Sub4.skip (n := 1) (len1 _) (Sub4.skip (n := 1) (len1 _) (Sub4.skip (n := 1) (len1 _) (Sub4.skip (n := 1) (len1 _) (Sub4.all _))))) (len_eq (len1 _) (len1 _)))) ?_
      refine ls_end ?_
      refine qn_then ?_
      refine cs_seq ?_
      refine cs_seq ?_
      refine cs_region (l := [_, _, _, _]) ?_
      refine ls_val (v := .pointer (some ⟨pg0, 0, none⟩)) rfl rfl (by kernel_rfl) (fun w => by kernel_rfl) ?_
      refine ls_val (v := .pointer (some ⟨pg0, 0, none⟩)) rfl rfl (by kernel_rfl) (fun w => by kernel_rfl) ?_
      refine ls_val (v := .pointer (some ⟨pg0, (0 + 4), none⟩)) rfl rfl (by kernel_rfl) (fun w => by kernel_rfl) ?_
      refine ls_load (a0 := ⟨pg0, (0 + 4), none⟩) (v := .bool false) (de := TypeDesc.bool) rfl rfl (by kernel_rfl) rfl (by kernel_rfl) (by kernel_rfl) (by kernel_rfl) (fun w hs => (hs.var (k := 0) (by exact rfl) (Sub4.trans (Sub4.all _) (Sub4.skip (n := 1) (len1 _) (Sub4.skip (n := 1) (len1 _) (Sub4.skip (n := 1) (len1 _) (Sub4.skip (n := 1) (len1 _) (Sub4.all _)))))))) ?_
      refine ls_end ?_
      refine qn_then ?_
      refine cs_false (by kernel_rfl) ?_
      refine cs_skip' ?_
      refine qn_then ?_
      refine cs_seq ?_
      refine cs_seq ?_
      refine cs_region (l := [_, _, _, _]) ?_
      refine ls_val (v := .pointer (some ⟨pg0, 0, none⟩)) rfl rfl (by kernel_rfl) (fun w => by kernel_rfl) ?_
      refine ls_val (v := .pointer (some ⟨pg0, 0, none⟩)) rfl rfl (by kernel_rfl) (fun w => by kernel_rfl) ?_
      refine ls_val (v := .pointer (some ⟨pg0, (0 + 2), none⟩)) rfl rfl (by kernel_rfl) (fun w => by kernel_rfl) ?_
      refine ls_load (a0 := ⟨pg0, (0 + 2), none⟩) (v := .bool v0.2.2.1) (de := TypeDesc.bool) rfl rfl (by kernel_rfl) rfl (by kernel_rfl) (by kernel_rfl) (by kernel_rfl) (fun w hs => (hs.var (k := 0) (by exact rfl) (Sub4.trans (Sub4.all _) (Sub4.skip (n := 1) (len1 _) (Sub4.skip (n := 1) (len1 _) (Sub4.head _ _)))))) ?_
      refine ls_end ?_
      refine qn_then ?_
      refine cs_know (c := false) (Bool.eq_false_iff.mpr q2) 30 (by kernel_rfl) ?_
      refine cs_false (by kernel_rfl) ?_
      refine cs_skip' ?_
      refine qn_then ?_
      refine cs_seq ?_
      refine cs_region (l := [_]) ?_
      refine ls_val (v := .int .i64 (0 : Int)) rfl rfl (by kernel_rfl) (fun w => by kernel_rfl) ?_
      refine ls_end ?_
      refine qn_then ?_
      refine cs_ret' ?_
      obtain rfl := Option.some.inj H
      refine qr_res (rs := [_]) rfl (fun w' hs => ⟨[.int .i64 (0 : Int)], (res_tmp (by kernel_rfl) (.nil)), (), rfl, hs.pick (ts := [0, 1]) (cs := [Ck.var 34 pg0 (([Value.slice (some ⟨gl0_0, 0, none⟩) n0_0 c0_0] ++ ([Value.map (some r0_1)] ++ ([Value.bool v0.2.2.1] ++ ([Value.int .i64 v0.2.2.2.1] ++ [Value.bool false]))))), Ck.mr T48 r0_1 gl0_0 c0_0 n0_0 w0_1]) ⟨by exact rfl, by exact rfl, trivial⟩ (by decide)⟩)

/-! ### (*shadowbox/disk.Disk).Write: function 8 -/
def disk_Disk_Write.tab13 : List (List Nat) := [[], [0], [0, 1], [0, 1, 2], [], [], [0, 1, 2, 3, 4, 5]]
def disk_Disk_Write.tab22 : List (List Nat) := [[], [0], [0, 1], [0, 1, 2], [], [], [0, 1, 2, 3, 4, 5]]
def disk_Disk_Write.f (k : Nat) (v0 : (Unit × Unit × Bool × Int × Bool)) (w0_1 : (List (Int × (Vc Int 512)) × List (Vc Int 512))) (a1 : Int) (l2 : List Int) : Option (Int × (Unit × Unit × Bool × Int × Bool) × (List (Int × (Vc Int 512)) × List (Vc Int 512))) :=
  (disk_Disk_check.f k ((), (), v0.2.2.1, v0.2.2.2.1, v0.2.2.2.2) w0_1 a1).bind fun t1 => (if t1 = (0 : Int) then (if (l2.length : Int) > (512 : Int) then (if (3 : Int) = (0 : Int) then (disk_Disk_spend.f k ((), (), v0.2.2.1, v0.2.2.2.1, v0.2.2.2.2) w0_1).bind fun t7 => (if t7.1 = (0 : Int) then lt (vcopy (vrep 512 (0 : Int)) l2) fun y12 => some ((0 : Int), ((), (), t7.2.2.2.1, t7.2.2.2.2.1, t7.2.2.2.2.2), (mput a1 y12 w0_1.1, w0_1.2)) else some (t7.1, ((), (), t7.2.2.2.1, t7.2.2.2.2.1, t7.2.2.2.2.2), w0_1)) else some ((3 : Int), ((), (), v0.2.2.1, v0.2.2.2.1, v0.2.2.2.2), w0_1)) else (disk_Disk_spend.f k ((), (), v0.2.2.1, v0.2.2.2.1, v0.2.2.2.2) w0_1).bind fun t16 => (if t16.1 = (0 : Int) then lt (vcopy (vrep 512 (0 : Int)) l2) fun y21 => some ((0 : Int), ((), (), t16.2.2.2.1, t16.2.2.2.2.1, t16.2.2.2.2.2), (mput a1 y21 w0_1.1, w0_1.2)) else some (t16.1, ((), (), t16.2.2.2.1, t16.2.2.2.2.1, t16.2.2.2.2.2), w0_1))) else some (t1, ((), (), v0.2.2.1, v0.2.2.2.1, v0.2.2.2.2), w0_1))
set_option maxRecDepth 100000 in
set_option maxHeartbeats 4000000 in
theorem disk_Disk_Write.calls (k : Nat) (pg0 : Nat) (gl0_0 : Nat) (n0_0 : Nat) (c0_0 : Nat) (r0_1 : Nat) (v0 : (Unit × Unit × Bool × Int × Bool)) (w0_1 : (List (Int × (Vc Int 512)) × List (Vc Int 512))) (a1 : Int) (A2 : Option Addr) (c2 : Nat) (l2 : List Int) (r : Int × (Unit × Unit × Bool × Int × Bool) × (List (Int × (Vc Int 512)) × List (Vc Int 512))) (b : Bs) (hs0 : St b (stl [Ck.var 34 pg0 (([Value.slice (some ⟨gl0_0, 0, none⟩) n0_0 c0_0] ++ ([Value.map (some r0_1)] ++ ([Value.bool v0.2.2.1] ++ ([Value.int .i64 v0.2.2.2.1] ++ [Value.bool v0.2.2.2.2]))))), Ck.mr T48 r0_1 gl0_0 c0_0 n0_0 w0_1]) b.w) (R2 : Ro b A2 (em (Ec.int 5 .u8) l2)) (C2 : l2.length ≤ c2) (H : disk_Disk_Write.f k v0 w0_1 a1 l2 = some r) :
    Calls Try.prog 8 #[.pointer (some ⟨pg0, 0, none⟩), .int .i64 a1, .slice A2 l2.length c2] b.w fun e w' => ∃ x : Unit, e = .returned (.int .i64 r.1) ∧ St b (stl [Ck.var 34 pg0 (([Value.slice (some ⟨gl0_0, 0, none⟩) n0_0 c0_0] ++ ([Value.map (some r0_1)] ++ ([Value.bool r.2.1.2.2.1] ++ ([Value.int .i64 r.2.1.2.2.2.1] ++ [Value.bool r.2.1.2.2.2.2]))))), Ck.mr T48 r0_1 gl0_0 c0_0 n0_0 r.2.2]) w' := by
  unfold disk_Disk_Write.f at H
  refine enterb (n := 35) Try.func8 rfl (by kernel_rfl) (by kernel_rfl) hs0 ?_
  refine cs_sub (sput (sput s0 0 (some (Ck.var 34 pg0 (([Value.slice (some ⟨gl0_0, 0, none⟩) n0_0 c0_0] ++ ([Value.map (some r0_1)] ++ ([Value.bool v0.2.2.1] ++ ([Value.int .i64 v0.2.2.2.1] ++ [Value.bool v0.2.2.2.2])))))))) 1 (some (Ck.mr T48 r0_1 gl0_0 c0_0 n0_0 w0_1))) (sub_put (by exact rfl) (sub_put (by exact rfl) (sub_nil _))) ?_
  refine cs_seq ?_
  refine cs_region (l := [_]) ?_
  refine ls_val (v := .int .i64 (0 : Int)) rfl rfl (by kernel_rfl) (fun w => by kernel_rfl) ?_
  refine ls_end ?_
  refine qn_then ?_
  refine cs_seq ?_
  refine cs_region (l := [_, _, _, _]) ?_
  refine ls_val (v := .pointer (some ⟨pg0, 0, none⟩)) rfl rfl (by kernel_rfl) (fun w => by kernel_rfl) ?_
  refine ls_val (v := .int .i64 a1) rfl rfl (by kernel_rfl) (fun w => by kernel_rfl) ?_
  obtain ⟨t1, hc2, H⟩ := bind_some H
  refine ls_callb (fid := 15) (vals := #[.pointer (some ⟨pg0, 0, none⟩), .int .i64 a1]) (X := Unit) (fun x => .int .i64 t1) (fun x => stl [Ck.var 34 pg0 (([Value.slice (some ⟨gl0_0, 0, none⟩) n0_0 c0_0] ++ ([Value.map (some r0_1)] ++ ([Value.bool v0.2.2.1] ++ ([Value.int .i64 v0.2.2.2.1] ++ [Value.bool v0.2.2.2.2]))))), Ck.mr T48 r0_1 gl0_0 c0_0 n0_0 w0_1]) [0, 1] [] [Ck.var 34 pg0 (([Value.slice (some ⟨gl0_0, 0, none⟩) n0_0 c0_0] ++ ([Value.map (some r0_1)] ++ ([Value.bool v0.2.2.1] ++ ([Value.int .i64 v0.2.2.2.1] ++ [Value.bool v0.2.2.2.2]))))), Ck.mr T48 r0_1 gl0_0 c0_0 n0_0 w0_1] [] 2 rfl rfl (by kernel_rfl) (fun w => by kernel_rfl) ⟨by exact rfl, by exact rfl, trivial⟩ trivial (by decide) (fun w hs hb => disk_Disk_check.calls k pg0 gl0_0 n0_0 c0_0 r0_1 ((), (), v0.2.2.1, v0.2.2.2.1, v0.2.2.2.2) w0_1 a1 t1 (lent b w [Ck.var 34 pg0 (([Value.slice (some ⟨gl0_0, 0, none⟩) n0_0 c0_0] ++ ([Value.map (some r0_1)] ++ ([Value.bool v0.2.2.1] ++ ([Value.int .i64 v0.2.2.2.1] ++ [Value.bool v0.2.2.2.2]))))), Ck.mr T48 r0_1 gl0_0 c0_0 n0_0 w0_1] []) hb  hc2) ?_
  intro x3
  refine ls_val (v := .int .i64 t1) rfl rfl (by kernel_rfl) (fun w => by kernel_rfl) ?_
  refine ls_end ?_
  refine qn_then ?_
  refine cs_seq ?_
  refine cs_seq ?_
  refine cs_region (l := [_, _, _, _, _, _, _]) ?_
  refine ls_val (v := .int .i64 t1) rfl rfl (by kernel_rfl) (fun w => by kernel_rfl) ?_
  refine ls_val (v := .bool (decide (t1 = (0 : Int)))) rfl rfl (by kernel_rfl) (fun w => by kernel_rfl) ?_
  refine ls_val (v := .bool (decide (t1 = (0 : Int)))) rfl rfl (by kernel_rfl) (fun w => by kernel_rfl) ?_
  by_cases q4 : t1 = (0 : Int)
  · replace H := ite_t q4 H
    refine ls_know (c := true) (dec_t q4) 14 (by kernel_rfl) ?_
    refine ls_on (j := 2) (t := 14) (b := true) rfl rfl (by kernel_rfl) (by kernel_rfl) ?_
    refine ls_val (v := .slice A2 l2.length c2) rfl rfl (by kernel_rfl) (fun w => by kernel_rfl) ?_
    refine ls_on (j := 2) (t := 14) (b := true) rfl rfl (by kernel_rfl) (by kernel_rfl) ?_
    refine ls_val (v := .int .i64 (l2.length : Int)) rfl rfl (by kernel_rfl) (fun w => by kernel_rfl) ?_
    refine ls_on (j := 2) (t := 14) (b := true) rfl rfl (by kernel_rfl) (by kernel_rfl) ?_
    refine ls_val (v := .bool (decide ((l2.length : Int) > (512 : Int)))) rfl rfl (by kernel_rfl) (fun w => by kernel_rfl) ?_
    refine ls_val (v := .bool (decide ((l2.length : Int) > (512 : Int)))) rfl rfl (by kernel_rfl) (fun w => by kernel_rfl) ?_
    refine ls_end ?_
    refine qn_then ?_
    by_cases q5 : (l2.length : Int) > (512 : Int)
    · replace H := ite_t q5 H
      refine cs_know (c := true) (dec_t q5) 18 (by kernel_rfl) ?_
      refine cs_true (by kernel_rfl) ?_
      refine cs_region (l := [_]) ?_
      refine ls_val (v := .int .i64 (3 : Int)) rfl rfl (by kernel_rfl) (fun w => by kernel_rfl) ?_
      refine ls_end ?_
      refine qn_then ?_
      refine cs_seq ?_
      refine cs_seq ?_
      refine cs_region (l := [_, _]) ?_
      refine ls_val (v := .int .i64 (3 : Int)) rfl rfl (by kernel_rfl) (fun w => by kernel_rfl) ?_
      refine ls_val (v := .bool (decide ((3 : Int) = (0 : Int)))) rfl rfl (by kernel_rfl) (fun w => by kernel_rfl) ?_
      refine ls_end ?_
      refine qn_then ?_
      by_cases q6 : (3 : Int) = (0 : Int)
      · replace H := ite_t q6 H
        refine cs_know (c := true) (dec_t q6) 20 (by kernel_rfl) ?_
        refine cs_true (by kernel_rfl) ?_
        refine cs_region (l := [_, _, _]) ?_
        refine ls_val (v := .pointer (some ⟨pg0, 0, none⟩)) rfl rfl (by kernel_rfl) (fun w => by kernel_rfl) ?_
        obtain ⟨t7, hc8, H⟩ := bind_some H
        refine ls_callb (fid := 16) (vals := #[.pointer (some ⟨pg0, 0, none⟩)]) (X := Unit) (fun x => .int .i64 t7.1) (fun x => stl [Ck.var 34 pg0 (([Value.slice (some ⟨gl0_0, 0, none⟩) n0_0 c0_0] ++ ([Value.map (some r0_1)] ++ ([Value.bool t7.2.2.2.1] ++ ([Value.int .i64 t7.2.2.2.2.1] ++ [Value.bool t7.2.2.2.2.2]))))), Ck.mr T48 r0_1 gl0_0 c0_0 n0_0 w0_1]) [0, 1] [] [Ck.var 34 pg0 (([Value.slice (some ⟨gl0_0, 0, none⟩) n0_0 c0_0] ++ ([Value.map (some r0_1)] ++ ([Value.bool v0.2.2.1] ++ ([Value.int .i64 v0.2.2.2.1] ++ [Value.bool v0.2.2.2.2]))))), Ck.mr T48 r0_1 gl0_0 c0_0 n0_0 w0_1] [] 2 rfl rfl (by kernel_rfl) (fun w => by kernel_rfl) ⟨by exact rfl, by exact rfl, trivial⟩ trivial (by decide) (fun w hs hb => disk_Disk_spend.calls k pg0 gl0_0 n0_0 c0_0 r0_1 ((), (), v0.2.2.1, v0.2.2.2.1, v0.2.2.2.2) w0_1 t7 (lent b w [Ck.var 34 pg0 (([Value.slice (some ⟨gl0_0, 0, none⟩) n0_0 c0_0] ++ ([Value.map (some r0_1)] ++ ([Value.bool v0.2.2.1] ++ ([Value.int .i64 v0.2.2.2.1] ++ [Value.bool v0.2.2.2.2]))))), Ck.mr T48 r0_1 gl0_0 c0_0 n0_0 w0_1] []) hb  hc8) ?_
        intro x9
        refine ls_val (v := .int .i64 t7.1) rfl rfl (by kernel_rfl) (fun w => by kernel_rfl) ?_
        refine ls_end ?_
        refine qn_then ?_
        refine cs_seq ?_
        refine cs_seq ?_
        refine cs_region (l := [_, _]) ?_
        refine ls_val (v := .int .i64 t7.1) rfl rfl (by kernel_rfl) (fun w => by kernel_rfl) ?_
        refine ls_val (v := .bool (!decide (t7.1 = (0 : Int)))) rfl rfl (by kernel_rfl) (fun w => by kernel_rfl) ?_
        refine ls_end ?_
        refine qn_then ?_
        by_cases q10 : t7.1 = (0 : Int)
        · replace H := ite_t q10 H
          refine cs_know (c := false) (congrArg Bool.not (dec_t q10)) 24 (by kernel_rfl) ?_
          refine cs_false (by kernel_rfl) ?_
          refine cs_skip' ?_
          refine qn_then ?_
          refine cs_seq ?_
          refine cs_region (l := [_]) ?_
          refine ls_new rfl rfl (by kernel_rfl) 2 (fun g => .pointer (some ⟨g, 0, none⟩)) (.cells ⟨en (Value.int .u8) (vrep 512 (0 : Int)).1⟩ 48) (fun w => by kernel_rfl) ?_
          intro g11
          refine ls_end ?_
          refine qn_then ?_
          refine cs_seq ?_
          refine cs_region (l := [_, _, _]) ?_
          refine ls_val (v := .slice (some ⟨g11, 0, none⟩) (vrep 512 (0 : Int)).1.length 512) rfl rfl (by kernel_rfl) (fun w => by rw [show (vrep 512 (0 : Int)).1.length = 512 from (vrep 512 (0 : Int)).2]; kernel_rfl) ?_
          refine ls_val (v := .slice A2 l2.length c2) rfl rfl (by kernel_rfl) (fun w => by kernel_rfl) ?_
          obtain ⟨y12, hy13, H⟩ := lt_some H
          refine ls_copyv (Value.int .u8) (g := g11) (off := 0) (N := 512) (cx := 512) (B := A2) (cb := c2) (l := l2) (v := (vrep 512 (0 : Int))) (cs := en (Value.int .u8) (vrep 512 (0 : Int)).1) (ty := 48) (e := 5) 2 rfl rfl (by rw [show (vrep 512 (0 : Int)).1.length = 512 from (vrep 512 (0 : Int)).2]; kernel_rfl) (by kernel_rfl) (by exact rfl) (by kernel_rfl) (by kernel_rfl) (fun w hs => Rd.toen (t := 5) (hs.old R2)) (fun _ => rfl) (Sub4.all _) (cs' := en (Value.int .u8) (vcopy (vrep 512 (0 : Int)) l2).1) (splc_all (len_eq (len_en _ (vcopy (vrep 512 (0 : Int)) l2)) (len_en _ (vrep 512 (0 : Int))))) rfl (by kernel_rfl) ?_
          rw [hy13]
          refine ls_end ?_
          refine qn_then ?_
          refine cs_seq ?_
          obtain ⟨s15_0, hs15_0⟩ : ∃ z : Value → Sto → Prop, z = (fun v R => v = .pointer (some ⟨pg0, 0, none⟩) ∧ R = s0) := ⟨_, rfl⟩
          refine have_op (l := [_, _, _, _, _, _, _]) disk_Disk_Write.tab13 3 0 (fun sp => sp 0 = s15_0) (fun sp on hA hon => ?_) (fun ops15_0 => ?_)
          · refine ⟨fun o ho vs Rs f' S' w hp hf hx hS hR hs => ?_⟩
            obtain rfl := Option.some.inj ho
            rw [hA, hs15_0]
            refine And.intro (fun a ha => (want_none rfl a ha).trans hon.symm) (And.intro (fun _ => ?_) (fun h => by rw [hon] at h; cases h))
            have hF := fr_next (rfl) ((hx 0 (by kernel_rfl)).trans (by kernel_rfl : (_ : Value) = .pointer (some ⟨pg0, 0, none⟩)))
            refine ls_fr hF ?_
            refine ls_val (v := .pointer (some ⟨pg0, 0, none⟩)) rfl rfl (by kernel_rfl) (fun w => by kernel_rfl) ?_
            exact ls_fin s0 (.pointer (some ⟨pg0, 0, none⟩)) (congrArg (fun z => upd z 29 _) hF.symm) ⟨rfl, rfl⟩ (sub_nil _)
          obtain ⟨s15_1, hs15_1⟩ : ∃ z : Value → Sto → Prop, z = (fun v R => v = .pointer (some ⟨pg0, 0, none⟩) ∧ R = s0) := ⟨_, rfl⟩
          refine have_op (l := [_, _, _, _, _, _, _]) disk_Disk_Write.tab13 3 1 (fun sp => sp 1 = s15_1 ∧ sp 0 = s15_0) (fun sp on hA hon => ?_) (fun ops15_1 => ?_)
          · refine ⟨fun o ho vs Rs f' S' w hp hf hx hS hR hs => ?_⟩
            obtain rfl := Option.some.inj ho
            obtain ⟨hv0, hR0⟩ := (spe hA.2 hs15_0 (hp 0 (by kernel_rfl)))
            rw [hA.1, hs15_1]
            refine And.intro (fun a ha => (want_none rfl a ha).trans hon.symm) (And.intro (fun _ => ?_) (fun h => by rw [hon] at h; cases h))
            have hF := fr_next (rfl) ((hf 0 29 (by kernel_rfl) rfl).trans hv0)
            refine ls_fr hF ?_
            refine ls_val (v := .pointer (some ⟨pg0, 0, none⟩)) rfl rfl (by kernel_rfl) (fun w => by kernel_rfl) ?_
            exact ls_fin s0 (.pointer (some ⟨pg0, 0, none⟩)) (congrArg (fun z => upd z 30 _) hF.symm) ⟨rfl, rfl⟩ (sub_nil _)
          obtain ⟨s15_2, hs15_2⟩ : ∃ z : Value → Sto → Prop, z = (fun v R => v = .pointer (some ⟨pg0, (0 + 1), none⟩) ∧ R = s0) := ⟨_, rfl⟩
          refine have_op (l := [_, _, _, _, _, _, _]) disk_Disk_Write.tab13 3 2 (fun sp => sp 2 = s15_2 ∧ sp 1 = s15_1) (fun sp on hA hon => ?_) (fun ops15_2 => ?_)
          · refine ⟨fun o ho vs Rs f' S' w hp hf hx hS hR hs => ?_⟩
            obtain rfl := Option.some.inj ho
            obtain ⟨hv1, hR1⟩ := (spe hA.2 hs15_1 (hp 1 (by kernel_rfl)))
            rw [hA.1, hs15_2]
            refine And.intro (fun a ha => (want_none rfl a ha).trans hon.symm) (And.intro (fun _ => ?_) (fun h => by rw [hon] at h; cases h))
            have hF := fr_next (rfl) ((hf 1 30 (by kernel_rfl) rfl).trans hv1)
            refine ls_fr hF ?_
            refine ls_val (v := .pointer (some ⟨pg0, (0 + 1), none⟩)) rfl rfl (by kernel_rfl) (fun w => by kernel_rfl) ?_
            exact ls_fin s0 (.pointer (some ⟨pg0, (0 + 1), none⟩)) (congrArg (fun z => upd z 31 _) hF.symm) ⟨rfl, rfl⟩ (sub_nil _)
          obtain ⟨s15_3, hs15_3⟩ : ∃ z : Value → Sto → Prop, z = (fun v R => v = .map (some r0_1) ∧ R = s0) := ⟨_, rfl⟩
          refine have_op (l := [_, _, _, _, _, _, _]) disk_Disk_Write.tab13 3 3 (fun sp => sp 3 = s15_3 ∧ sp 2 = s15_2) (fun sp on hA hon => ?_) (fun ops15_3 => ?_)
          · refine ⟨fun o ho vs Rs f' S' w hp hf hx hS hR hs => ?_⟩
            obtain rfl := Option.some.inj ho
            obtain ⟨hv2, hR2⟩ := (spe hA.2 hs15_2 (hp 2 (by kernel_rfl)))
            rw [hA.1, hs15_3]
            refine And.intro (fun a ha => (want_none rfl a ha).trans hon.symm) (And.intro (fun _ => ?_) (fun h => by rw [hon] at h; cases h))
            have hF := fr_next (rfl) ((hf 2 31 (by kernel_rfl) rfl).trans hv2)
            refine ls_fr hF ?_
            refine ls_load (a0 := ⟨pg0, (0 + 1), none⟩) (v := .map (some r0_1)) (de := (TypeDesc.map 3 48)) rfl rfl (by kernel_rfl) rfl (by kernel_rfl) (by kernel_rfl) (by kernel_rfl) (fun w1 hs1 => cell_step hs1.below.bw (hs.var (k := 0) ((hS 0 (by kernel_rfl)).trans (by exact rfl)) (Sub4.trans (Sub4.all _) (Sub4.skip (n := 1) (len1 _) (Sub4.head _ _))))) ?_
            exact ls_fin s0 (.map (some r0_1)) (congrArg (fun z => upd z 32 _) hF.symm) ⟨rfl, rfl⟩ (sub_nil _)
          obtain ⟨s15_4, hs15_4⟩ : ∃ z : Value → Sto → Prop, z = (fun v R => v = .int .i64 a1 ∧ R = s0) := ⟨_, rfl⟩
          refine have_op (l := [_, _, _, _, _, _, _]) disk_Disk_Write.tab13 3 4 (fun sp => sp 4 = s15_4) (fun sp on hA hon => ?_) (fun ops15_4 => ?_)
          · refine ⟨fun o ho vs Rs f' S' w hp hf hx hS hR hs => ?_⟩
            obtain rfl := Option.some.inj ho
            rw [hA, hs15_4]
            refine And.intro (fun a ha => (want_none rfl a ha).trans hon.symm) (And.intro (fun _ => ?_) (fun h => by rw [hon] at h; cases h))
            have hF := fr_next (rfl) ((hx 1 (by kernel_rfl)).trans (by kernel_rfl : (_ : Value) = .int .i64 a1))
            refine ls_fr hF ?_
            refine ls_val (v := .int .i64 a1) rfl rfl (by kernel_rfl) (fun w => by kernel_rfl) ?_
            exact ls_fin s0 (.int .i64 a1) (congrArg (fun z => upd z 33 _) hF.symm) ⟨rfl, rfl⟩ (sub_nil _)
          obtain ⟨s15_5, hs15_5⟩ : ∃ z : Value → Sto → Prop, z = (fun v R => v = .agg ⟨en (Value.int .u8) y12.1⟩ ∧ R = s0) := ⟨_, rfl⟩
          refine have_op (l := [_, _, _, _, _, _, _]) disk_Disk_Write.tab13 3 5 (fun sp => sp 5 = s15_5) (fun sp on hA hon => ?_) (fun ops15_5 => ?_)
          · refine ⟨fun o ho vs Rs f' S' w hp hf hx hS hR hs => ?_⟩
            obtain rfl := Option.some.inj ho
            rw [hA, hs15_5]
            refine And.intro (fun a ha => (want_none rfl a ha).trans hon.symm) (And.intro (fun _ => ?_) (fun h => by rw [hon] at h; cases h))
            have hF := fr_next (rfl) ((hx 8 (by kernel_rfl)).trans (by kernel_rfl : (_ : Value) = .pointer (some ⟨g11, 0, none⟩)))
            refine ls_fr hF ?_
            refine ls_loadagg (a := ⟨g11, 0, none⟩) (sub := en (Value.int .u8) y12.1) rfl rfl (by kernel_rfl) rfl (by kernel_rfl) (by kernel_rfl) (by kernel_rfl) (len_en _ y12) (fun w1 hs1 => Rd.step (hs.vars (k := 2) ((hS 2 (by kernel_rfl)).trans (by exact rfl)) (Sub4.all _)) hs1.below.bw) ?_
            exact ls_fin s0 (.agg ⟨en (Value.int .u8) y12.1⟩) (congrArg (fun z => upd z 34 _) hF.symm) ⟨rfl, rfl⟩ (sub_nil _)
          refine cs_draw disk_Disk_Write.tab13 6 3 (spl [s15_0, s15_1, s15_2, s15_3, s15_4, s15_5]) (onl [true, true, true, true, true, true]) (by kernel_rfl) (by kernel_rfl) (by kernel_rfl) (by kernel_rfl) (rs := [_]) rfl (by kernel_rfl) (by kernel_rfl) (all_snoc (all_snoc (all_snoc (all_snoc (all_snoc (all_snoc (all_nil) (ops15_0 _ _ rfl rfl)) (ops15_1 _ _ ⟨rfl, rfl⟩ rfl)) (ops15_2 _ _ ⟨rfl, rfl⟩ rfl)) (ops15_3 _ _ ⟨rfl, rfl⟩ rfl)) (ops15_4 _ _ rfl rfl)) (ops15_5 _ _ rfl rfl)) ?_
          intro vs Rs f' S' hp hf hx hS hR
          obtain ⟨hv3, hR3⟩ := (spe rfl hs15_3 (hp 3 (by kernel_rfl)))
          obtain ⟨hv4, hR4⟩ := (spe rfl hs15_4 (hp 4 (by kernel_rfl)))
          obtain ⟨hv5, hR5⟩ := (spe rfl hs15_5 (hp 5 (by kernel_rfl)))
          refine ls_fr (F := upd (upd (upd f' 32 (.map (some r0_1))) 33 (.int .i64 a1)) 34 (.agg ⟨en (Value.int .u8) y12.1⟩)) (fr_next (fr_next (fr_next (rfl) ((hf 3 32 (by kernel_rfl) rfl).trans hv3)) ((hf 4 33 (by kernel_rfl) rfl).trans hv4)) ((hf 5 34 (by kernel_rfl) rfl).trans hv5)) ?_
          refine ls_sub (sput (sput s0 0 (some (Ck.var 34 pg0 (([Value.slice (some ⟨gl0_0, 0, none⟩) n0_0 c0_0] ++ ([Value.map (some r0_1)] ++ ([Value.bool t7.2.2.2.1] ++ ([Value.int .i64 t7.2.2.2.2.1] ++ [Value.bool t7.2.2.2.2.2])))))))) 1 (some (Ck.mr T48 r0_1 gl0_0 c0_0 n0_0 w0_1))) (sub_put ((hS 1 (by kernel_rfl)).trans (by exact rfl)) (sub_put ((hS 0 (by kernel_rfl)).trans (by exact rfl)) (sub_nil _))) ?_
          refine ls_mrput (T := T48) (r := r0_1) (m := w0_1) (kt := 3) (et := 48) (i := a1) (v := y12) 1 rfl rfl rfl (by kernel_rfl) (by kernel_rfl) (by kernel_rfl) (by kernel_rfl) (by kernel_rfl) (by exact rfl) ?_
          refine ls_end ?_
          refine qn_then ?_
          refine cs_seq ?_
          refine cs_region (l := [_]) ?_
          refine ls_val (v := .int .i64 (0 : Int)) rfl rfl (by kernel_rfl) (fun w => by kernel_rfl) ?_
          refine ls_end ?_
          refine qn_then ?_
          refine cs_ret' ?_
          obtain rfl := Option.some.inj H
          refine qr_res (rs := [_]) rfl (fun w' hs => ⟨[.int .i64 (0 : Int)], (res_tmp (by kernel_rfl) (.nil)), (), rfl, hs.pick (ts := [0, 1]) (cs := [Ck.var 34 pg0 (([Value.slice (some ⟨gl0_0, 0, none⟩) n0_0 c0_0] ++ ([Value.map (some r0_1)] ++ ([Value.bool t7.2.2.2.1] ++ ([Value.int .i64 t7.2.2.2.2.1] ++ [Value.bool t7.2.2.2.2.2]))))), Ck.mr T48 r0_1 gl0_0 c0_0 n0_0 (mput a1 y12 w0_1.1, w0_1.2)]) ⟨by exact rfl, by exact rfl, trivial⟩ (by decide)⟩)
        · replace H := ite_f q10 H
          refine cs_know (c := true) (congrArg Bool.not (dec_f q10)) 24 (by kernel_rfl) ?_
          refine cs_true (by kernel_rfl) ?_
          refine cs_seq ?_
          refine cs_region (l := [_, _]) ?_
          refine ls_val (v := .int .i64 t7.1) rfl rfl (by kernel_rfl) (fun w => by kernel_rfl) ?_
          refine ls_val (v := .int .i64 t7.1) rfl rfl (by kernel_rfl) (fun w => by kernel_rfl) ?_
          refine ls_end ?_
          refine qn_then ?_
          refine cs_ret' ?_
          refine qr_then ?_
          obtain rfl := Option.some.inj H
          refine qr_res (rs := [_]) rfl (fun w' hs => ⟨[.int .i64 t7.1], (res_tmp (by kernel_rfl) (.nil)), (), rfl, hs.pick (ts := [0, 1]) (cs := [Ck.var 34 pg0 (([Value.slice (some ⟨gl0_0, 0, none⟩) n0_0 c0_0] ++ ([Value.map (some r0_1)] ++ ([Value.bool t7.2.2.2.1] ++ ([Value.int .i64 t7.2.2.2.2.1] ++ [Value.bool t7.2.2.2.2.2]))))), Ck.mr T48 r0_1 gl0_0 c0_0 n0_0 w0_1]) ⟨by exact rfl, by exact rfl, trivial⟩ (by decide)⟩)
      · replace H := ite_f q6 H
        refine cs_know (c := false) (dec_f q6) 20 (by kernel_rfl) ?_
        refine cs_false (by kernel_rfl) ?_
        refine cs_skip' ?_
        refine qn_then ?_
        refine cs_seq ?_
        refine cs_seq ?_
        refine cs_region (l := [_, _]) ?_
        refine ls_val (v := .int .i64 (3 : Int)) rfl rfl (by kernel_rfl) (fun w => by kernel_rfl) ?_
        refine ls_val (v := .bool (!decide ((3 : Int) = (0 : Int)))) rfl rfl (by kernel_rfl) (fun w => by kernel_rfl) ?_
        refine ls_end ?_
        refine qn_then ?_
        refine cs_know (c := true) (congrArg Bool.not (dec_f q6)) 24 (by kernel_rfl) ?_
        refine cs_true (by kernel_rfl) ?_
        refine cs_seq ?_
        refine cs_region (l := [_, _]) ?_
        refine ls_val (v := .int .i64 (3 : Int)) rfl rfl (by kernel_rfl) (fun w => by kernel_rfl) ?_
        refine ls_val (v := .int .i64 (3 : Int)) rfl rfl (by kernel_rfl) (fun w => by kernel_rfl) ?_
        refine ls_end ?_
        refine qn_then ?_
        refine cs_ret' ?_
        refine qr_then ?_
        obtain rfl := Option.some.inj H
        refine qr_res (rs := [_]) rfl (fun w' hs => ⟨[.int .i64 (3 : Int)], (res_tmp (by kernel_rfl) (.nil)), (), rfl, hs.pick (ts := [0, 1]) (cs := [Ck.var 34 pg0 (([Value.slice (some ⟨gl0_0, 0, none⟩) n0_0 c0_0] ++ ([Value.map (some r0_1)] ++ ([Value.bool v0.2.2.1] ++ ([Value.int .i64 v0.2.2.2.1] ++ [Value.bool v0.2.2.2.2]))))), Ck.mr T48 r0_1 gl0_0 c0_0 n0_0 w0_1]) ⟨by exact rfl, by exact rfl, trivial⟩ (by decide)⟩)
    · replace H := ite_f q5 H
      refine cs_know (c := false) (dec_f q5) 18 (by kernel_rfl) ?_
      refine cs_false (by kernel_rfl) ?_
      refine cs_skip' ?_
      refine qn_then ?_
      refine cs_seq ?_
      refine cs_seq ?_
      refine cs_region (l := [_, _]) ?_
      refine ls_val (v := .int .i64 t1) rfl rfl (by kernel_rfl) (fun w => by kernel_rfl) ?_
      refine ls_val (v := .bool (decide (t1 = (0 : Int)))) rfl rfl (by kernel_rfl) (fun w => by kernel_rfl) ?_
      refine ls_end ?_
      refine qn_then ?_
      refine cs_know (c := true) (dec_t q4) 20 (by kernel_rfl) ?_
      refine cs_true (by kernel_rfl) ?_
      refine cs_region (l := [_, _, _]) ?_
      refine ls_val (v := .pointer (some ⟨pg0, 0, none⟩)) rfl rfl (by kernel_rfl) (fun w => by kernel_rfl) ?_
      obtain ⟨t16, hc17, H⟩ := bind_some H
      refine ls_callb (fid := 16) (vals := #[.pointer (some ⟨pg0, 0, none⟩)]) (X := Unit) (fun x => .int .i64 t16.1) (fun x => stl [Ck.var 34 pg0 (([Value.slice (some ⟨gl0_0, 0, none⟩) n0_0 c0_0] ++ ([Value.map (some r0_1)] ++ ([Value.bool t16.2.2.2.1] ++ ([Value.int .i64 t16.2.2.2.2.1] ++ [Value.bool t16.2.2.2.2.2]))))), Ck.mr T48 r0_1 gl0_0 c0_0 n0_0 w0_1]) [0, 1] [] [Ck.var 34 pg0 (([Value.slice (some ⟨gl0_0, 0, none⟩) n0_0 c0_0] ++ ([Value.map (some r0_1)] ++ ([Value.bool v0.2.2.1] ++ ([Value.int .i64 v0.2.2.2.1] ++ [Value.bool v0.2.2.2.2]))))), Ck.mr T48 r0_1 gl0_0 c0_0 n0_0 w0_1] [] 2 rfl rfl (by kernel_rfl) (fun w => by kernel_rfl) ⟨by exact rfl, by exact rfl, trivial⟩ trivial (by decide) (fun w hs hb => disk_Disk_spend.calls k pg0 gl0_0 n0_0 c0_0 r0_1 ((), (), v0.2.2.1, v0.2.2.2.1, v0.2.2.2.2) w0_1 t16 (lent b w [Ck.var 34 pg0 (([Value.slice (some ⟨gl0_0, 0, none⟩) n0_0 c0_0] ++ ([Value.map (some r0_1)] ++ ([Value.bool v0.2.2.1] ++ ([Value.int .i64 v0.2.2.2.1] ++ [Value.bool v0.2.2.2.2]))))), Ck.mr T48 r0_1 gl0_0 c0_0 n0_0 w0_1] []) hb  hc17) ?_
      intro x18
      refine ls_val (v := .int .i64 t16.1) rfl rfl (by kernel_rfl) (fun w => by kernel_rfl) ?_
      refine ls_end ?_
      refine qn_then ?_
      refine cs_seq ?_
      refine cs_seq ?_
      refine cs_region (l := [_, _]) ?_
      refine ls_val (v := .int .i64 t16.1) rfl rfl (by kernel_rfl) (fun w => by kernel_rfl) ?_
      refine ls_val (v := .bool (!decide (t16.1 = (0 : Int)))) rfl rfl (by kernel_rfl) (fun w => by kernel_rfl) ?_
      refine ls_end ?_
      refine qn_then ?_
      by_cases q19 : t16.1 = (0 : Int)
      · replace H := ite_t q19 H
        refine cs_know (c := false) (congrArg Bool.not (dec_t q19)) 24 (by kernel_rfl) ?_
        refine cs_false (by kernel_rfl) ?_
        refine cs_skip' ?_
        refine qn_then ?_
        refine cs_seq ?_
        refine cs_region (l := [_]) ?_
        refine ls_new rfl rfl (by kernel_rfl) 2 (fun g => .pointer (some ⟨g, 0, none⟩)) (.cells ⟨en (Value.int .u8) (vrep 512 (0 : Int)).1⟩ 48) (fun w => by kernel_rfl) ?_
        intro g20
        refine ls_end ?_
        refine qn_then ?_
        refine cs_seq ?_
        refine cs_region (l := [_, _, _]) ?_
        refine ls_val (v := .slice (some ⟨g20, 0, none⟩) (vrep 512 (0 : Int)).1.length 512) rfl rfl (by kernel_rfl) (fun w => by rw [show (vrep 512 (0 : Int)).1.length = 512 from (vrep 512 (0 : Int)).2]; kernel_rfl) ?_
        refine ls_val (v := .slice A2 l2.length c2) rfl rfl (by kernel_rfl) (fun w => by kernel_rfl) ?_
        obtain ⟨y21, hy22, H⟩ := lt_some H
        refine ls_copyv (Value.int .u8) (g := g20) (off := 0) (N := 512) (cx := 512) (B := A2) (cb := c2) (l := l2) (v := (vrep 512 (0 : Int))) (cs := en (Value.int .u8) (vrep 512 (0 : Int)).1) (ty := 48) (e := 5) 2 rfl rfl (by rw [show (vrep 512 (0 : Int)).1.length = 512 from (vrep 512 (0 : Int)).2]; kernel_rfl) (by kernel_rfl) (by exact rfl) (by kernel_rfl) (by kernel_rfl) (fun w hs => Rd.toen (t := 5) (hs.old R2)) (fun _ => rfl) (Sub4.all _) (cs' := en (Value.int .u8) (vcopy (vrep 512 (0 : Int)) l2).1) (splc_all (len_eq (len_en _ (vcopy (vrep 512 (0 : Int)) l2)) (len_en _ (vrep 512 (0 : Int))))) rfl (by kernel_rfl) ?_
        rw [hy22]
        refine ls_end ?_
        refine qn_then ?_
        refine cs_seq ?_
        obtain ⟨s24_0, hs24_0⟩ : ∃ z : Value → Sto → Prop, z = (fun v R => v = .pointer (some ⟨pg0, 0, none⟩) ∧ R = s0) := ⟨_, rfl⟩
        refine have_op (l := [_, _, _, _, _, _, _]) disk_Disk_Write.tab22 3 0 (fun sp => sp 0 = s24_0) (fun sp on hA hon => ?_) (fun ops24_0 => ?_)
        · refine ⟨fun o ho vs Rs f' S' w hp hf hx hS hR hs => ?_⟩
          obtain rfl := Option.some.inj ho
          rw [hA, hs24_0]
          refine And.intro (fun a ha => (want_none rfl a ha).trans hon.symm) (And.intro (fun _ => ?_) (fun h => by rw [hon] at h; cases h))
          have hF := fr_next (rfl) ((hx 0 (by kernel_rfl)).trans (by kernel_rfl : (_ : Value) = .pointer (some ⟨pg0, 0, none⟩)))
          refine ls_fr hF ?_
          refine ls_val (v := .pointer (some ⟨pg0, 0, none⟩)) rfl rfl (by kernel_rfl) (fun w => by kernel_rfl) ?_
          exact ls_fin s0 (.pointer (some ⟨pg0, 0, none⟩)) (congrArg (fun z => upd z 29 _) hF.symm) ⟨rfl, rfl⟩ (sub_nil _)
        obtain ⟨s24_1, hs24_1⟩ : ∃ z : Value → Sto → Prop, z = (fun v R => v = .pointer (some ⟨pg0, 0, none⟩) ∧ R = s0) := ⟨_, rfl⟩
        refine have_op (l := [_, _, _, _, _, _, _]) disk_Disk_Write.tab22 3 1 (fun sp => sp 1 = s24_1 ∧ sp 0 = s24_0) (fun sp on hA hon => ?_) (fun ops24_1 => ?_)
        · refine ⟨fun o ho vs Rs f' S' w hp hf hx hS hR hs => ?_⟩
          obtain rfl := Option.some.inj ho
          obtain ⟨hv0, hR0⟩ := (spe hA.2 hs24_0 (hp 0 (by kernel_rfl)))
          rw [hA.1, hs24_1]
          refine And.intro (fun a ha => (want_none rfl a ha).trans hon.symm) (And.intro (fun _ => ?_) (fun h => by rw [hon] at h; cases h))
          have hF := fr_next (rfl) ((hf 0 29 (by kernel_rfl) rfl).trans hv0)
          refine ls_fr hF ?_
          refine ls_val (v := .pointer (some ⟨pg0, 0, none⟩)) rfl rfl (by kernel_rfl) (fun w => by kernel_rfl) ?_
          exact ls_fin s0 (.pointer (some ⟨pg0, 0, none⟩)) (congrArg (fun z => upd z 30 _) hF.symm) ⟨rfl, rfl⟩ (sub_nil _)
        obtain ⟨s24_2, hs24_2⟩ : ∃ z : Value → Sto → Prop, z = (fun v R => v = .pointer (some ⟨pg0, (0 + 1), none⟩) ∧ R = s0) := ⟨_, rfl⟩
        refine have_op (l := [_, _, _, _, _, _, _]) disk_Disk_Write.tab22 3 2 (fun sp => sp 2 = s24_2 ∧ sp 1 = s24_1) (fun sp on hA hon => ?_) (fun ops24_2 => ?_)
        · refine ⟨fun o ho vs Rs f' S' w hp hf hx hS hR hs => ?_⟩
          obtain rfl := Option.some.inj ho
          obtain ⟨hv1, hR1⟩ := (spe hA.2 hs24_1 (hp 1 (by kernel_rfl)))
          rw [hA.1, hs24_2]
          refine And.intro (fun a ha => (want_none rfl a ha).trans hon.symm) (And.intro (fun _ => ?_) (fun h => by rw [hon] at h; cases h))
          have hF := fr_next (rfl) ((hf 1 30 (by kernel_rfl) rfl).trans hv1)
          refine ls_fr hF ?_
          refine ls_val (v := .pointer (some ⟨pg0, (0 + 1), none⟩)) rfl rfl (by kernel_rfl) (fun w => by kernel_rfl) ?_
          exact ls_fin s0 (.pointer (some ⟨pg0, (0 + 1), none⟩)) (congrArg (fun z => upd z 31 _) hF.symm) ⟨rfl, rfl⟩ (sub_nil _)
        obtain ⟨s24_3, hs24_3⟩ : ∃ z : Value → Sto → Prop, z = (fun v R => v = .map (some r0_1) ∧ R = s0) := ⟨_, rfl⟩
        refine have_op (l := [_, _, _, _, _, _, _]) disk_Disk_Write.tab22 3 3 (fun sp => sp 3 = s24_3 ∧ sp 2 = s24_2) (fun sp on hA hon => ?_) (fun ops24_3 => ?_)
        · refine ⟨fun o ho vs Rs f' S' w hp hf hx hS hR hs => ?_⟩
          obtain rfl := Option.some.inj ho
          obtain ⟨hv2, hR2⟩ := (spe hA.2 hs24_2 (hp 2 (by kernel_rfl)))
          rw [hA.1, hs24_3]
          refine And.intro (fun a ha => (want_none rfl a ha).trans hon.symm) (And.intro (fun _ => ?_) (fun h => by rw [hon] at h; cases h))
          have hF := fr_next (rfl) ((hf 2 31 (by kernel_rfl) rfl).trans hv2)
          refine ls_fr hF ?_
          refine ls_load (a0 := ⟨pg0, (0 + 1), none⟩) (v := .map (some r0_1)) (de := (TypeDesc.map 3 48)) rfl rfl (by kernel_rfl) rfl (by kernel_rfl) (by kernel_rfl) (by kernel_rfl) (fun w1 hs1 => cell_step hs1.below.bw (hs.var (k := 0) ((hS 0 (by kernel_rfl)).trans (by exact rfl)) (Sub4.trans (Sub4.all _) (Sub4.skip (n := 1) (len1 _) (Sub4.head _ _))))) ?_
          exact ls_fin s0 (.map (some r0_1)) (congrArg (fun z => upd z 32 _) hF.symm) ⟨rfl, rfl⟩ (sub_nil _)
        obtain ⟨s24_4, hs24_4⟩ : ∃ z : Value → Sto → Prop, z = (fun v R => v = .int .i64 a1 ∧ R = s0) := ⟨_, rfl⟩
        refine have_op (l := [_, _, _, _, _, _, _]) disk_Disk_Write.tab22 3 4 (fun sp => sp 4 = s24_4) (fun sp on hA hon => ?_) (fun ops24_4 => ?_)
        · refine ⟨fun o ho vs Rs f' S' w hp hf hx hS hR hs => ?_⟩
          obtain rfl := Option.some.inj ho
          rw [hA, hs24_4]
          refine And.intro (fun a ha => (want_none rfl a ha).trans hon.symm) (And.intro (fun _ => ?_) (fun h => by rw [hon] at h; cases h))
          have hF := fr_next (rfl) ((hx 1 (by kernel_rfl)).trans (by kernel_rfl : (_ : Value) = .int .i64 a1))
          refine ls_fr hF ?_
          refine ls_val (v := .int .i64 a1) rfl rfl (by kernel_rfl) (fun w => by kernel_rfl) ?_
          exact ls_fin s0 (.int .i64 a1) (congrArg (fun z => upd z 33 _) hF.symm) ⟨rfl, rfl⟩ (sub_nil _)
        obtain ⟨s24_5, hs24_5⟩ : ∃ z : Value → Sto → Prop, z = (fun v R => v = .agg ⟨en (Value.int .u8) y21.1⟩ ∧ R = s0) := ⟨_, rfl⟩
        refine have_op (l := [_, _, _, _, _, _, _]) disk_Disk_Write.tab22 3 5 (fun sp => sp 5 = s24_5) (fun sp on hA hon => ?_) (fun ops24_5 => ?_)
        · refine ⟨fun o ho vs Rs f' S' w hp hf hx hS hR hs => ?_⟩
          obtain rfl := Option.some.inj ho
          rw [hA, hs24_5]
          refine And.intro (fun a ha => (want_none rfl a ha).trans hon.symm) (And.intro (fun _ => ?_) (fun h => by rw [hon] at h; cases h))
          have hF := fr_next (rfl) ((hx 8 (by kernel_rfl)).trans (by kernel_rfl : (_ : Value) = .pointer (some ⟨g20, 0, none⟩)))
          refine ls_fr hF ?_
          refine ls_loadagg (a := ⟨g20, 0, none⟩) (sub := en (Value.int .u8) y21.1) rfl rfl (by kernel_rfl) rfl (by kernel_rfl) (by kernel_rfl) (by kernel_rfl) (len_en _ y21) (fun w1 hs1 => Rd.step (hs.vars (k := 2) ((hS 2 (by kernel_rfl)).trans (by exact rfl)) (Sub4.all _)) hs1.below.bw) ?_
          exact ls_fin s0 (.agg ⟨en (Value.int .u8) y21.1⟩) (congrArg (fun z => upd z 34 _) hF.symm) ⟨rfl, rfl⟩ (sub_nil _)
        refine cs_draw disk_Disk_Write.tab22 6 3 (spl [s24_0, s24_1, s24_2, s24_3, s24_4, s24_5]) (onl [true, true, true, true, true, true]) (by kernel_rfl) (by kernel_rfl) (by kernel_rfl) (by kernel_rfl) (rs := [_]) rfl (by kernel_rfl) (by kernel_rfl) (all_snoc (all_snoc (all_snoc (all_snoc (all_snoc (all_snoc (all_nil) (ops24_0 _ _ rfl rfl)) (ops24_1 _ _ ⟨rfl, rfl⟩ rfl)) (ops24_2 _ _ ⟨rfl, rfl⟩ rfl)) (ops24_3 _ _ ⟨rfl, rfl⟩ rfl)) (ops24_4 _ _ rfl rfl)) (ops24_5 _ _ rfl rfl)) ?_
        intro vs Rs f' S' hp hf hx hS hR
        obtain ⟨hv3, hR3⟩ := (spe rfl hs24_3 (hp 3 (by kernel_rfl)))
        obtain ⟨hv4, hR4⟩ := (spe rfl hs24_4 (hp 4 (by kernel_rfl)))
        obtain ⟨hv5, hR5⟩ := (spe rfl hs24_5 (hp 5 (by kernel_rfl)))
        refine ls_fr (F := upd (upd (upd f' 32 (.map (some r0_1))) 33 (.int .i64 a1)) 34 (.agg ⟨en (Value.int .u8) y21.1⟩)) (fr_next (fr_next (fr_next (rfl) ((hf 3 32 (by kernel_rfl) rfl).trans hv3)) ((hf 4 33 (by kernel_rfl) rfl).trans hv4)) ((hf 5 34 (by kernel_rfl) rfl).trans hv5)) ?_
        refine ls_sub (sput (sput s0 0 (some (Ck.var 34 pg0 (([Value.slice (some ⟨gl0_0, 0, none⟩) n0_0 c0_0] ++ ([Value.map (some r0_1)] ++ ([Value.bool t16.2.2.2.1] ++ ([Value.int .i64 t16.2.2.2.2.1] ++ [Value.bool t16.2.2.2.2.2])))))))) 1 (some (Ck.mr T48 r0_1 gl0_0 c0_0 n0_0 w0_1))) (sub_put ((hS 1 (by kernel_rfl)).trans (by exact rfl)) (sub_put ((hS 0 (by kernel_rfl)).trans (by exact rfl)) (sub_nil _))) ?_
        refine ls_mrput (T := T48) (r := r0_1) (m := w0_1) (kt := 3) (et := 48) (i := a1) (v := y21) 1 rfl rfl rfl (by kernel_rfl) (by kernel_rfl) (by kernel_rfl) (by kernel_rfl) (by kernel_rfl) (by exact rfl) ?_
        refine ls_end ?_
        refine qn_then ?_
        refine cs_seq ?_
        refine cs_region (l := [_]) ?_
        refine ls_val (v := .int .i64 (0 : Int)) rfl rfl (by kernel_rfl) (fun w => by kernel_rfl) ?_
        refine ls_end ?_
        refine qn_then ?_
        refine cs_ret' ?_
        obtain rfl := Option.some.inj H
        refine qr_res (rs := [_]) rfl (fun w' hs => ⟨[.int .i64 (0 : Int)], (res_tmp (by kernel_rfl) (.nil)), (), rfl, hs.pick (ts := [0, 1]) (cs := [Ck.var 34 pg0 (([Value.slice (some ⟨gl0_0, 0, none⟩) n0_0 c0_0] ++ ([Value.map (some r0_1)] ++ ([Value.bool t16.2.2.2.1] ++ ([Value.int .i64 t16.2.2.2.2.1] ++ [Value.bool t16.2.2.2.2.2]))))), Ck.mr T48 r0_1 gl0_0 c0_0 n0_0 (mput a1 y21 w0_1.1, w0_1.2)]) ⟨by exact rfl, by exact rfl, trivial⟩ (by decide)⟩)
      · replace H := ite_f q19 H
        refine cs_know (c := true) (congrArg Bool.not (dec_f q19)) 24 (by kernel_rfl) ?_
        refine cs_true (by kernel_rfl) ?_
        refine cs_seq ?_
        refine cs_region (l := [_, _]) ?_
        refine ls_val (v := .int .i64 t16.1) rfl rfl (by kernel_rfl) (fun w => by kernel_rfl) ?_
        refine ls_val (v := .int .i64 t16.1) rfl rfl (by kernel_rfl) (fun w => by kernel_rfl) ?_
        refine ls_end ?_
        refine qn_then ?_
        refine cs_ret' ?_
        refine qr_then ?_
        obtain rfl := Option.some.inj H
        refine qr_res (rs := [_]) rfl (fun w' hs => ⟨[.int .i64 t16.1], (res_tmp (by kernel_rfl) (.nil)), (), rfl, hs.pick (ts := [0, 1]) (cs := [Ck.var 34 pg0 (([Value.slice (some ⟨gl0_0, 0, none⟩) n0_0 c0_0] ++ ([Value.map (some r0_1)] ++ ([Value.bool t16.2.2.2.1] ++ ([Value.int .i64 t16.2.2.2.2.1] ++ [Value.bool t16.2.2.2.2.2]))))), Ck.mr T48 r0_1 gl0_0 c0_0 n0_0 w0_1]) ⟨by exact rfl, by exact rfl, trivial⟩ (by decide)⟩)
  · replace H := ite_f q4 H
    refine ls_know (c := false) (dec_f q4) 14 (by kernel_rfl) ?_
    refine ls_off (j := 2) (t := 14) (b := true) (c := false) rfl rfl (by kernel_rfl) (by kernel_rfl) rfl rfl (by kernel_rfl) ?_
    refine ls_off (j := 2) (t := 14) (b := true) (c := false) rfl rfl (by kernel_rfl) (by kernel_rfl) rfl rfl (by kernel_rfl) ?_
    refine ls_off (j := 2) (t := 14) (b := true) (c := false) rfl rfl (by kernel_rfl) (by kernel_rfl) rfl rfl (by kernel_rfl) ?_
    refine ls_val (v := .bool false) rfl rfl (by kernel_rfl) (fun w => by kernel_rfl) ?_
    refine ls_end ?_
    refine qn_then ?_
    refine cs_false (by kernel_rfl) ?_
    refine cs_skip' ?_
    refine qn_then ?_
    refine cs_seq ?_
    refine cs_seq ?_
    refine cs_region (l := [_, _]) ?_
    refine ls_val (v := .int .i64 t1) rfl rfl (by kernel_rfl) (fun w => by kernel_rfl) ?_
    refine ls_val (v := .bool (decide (t1 = (0 : Int)))) rfl rfl (by kernel_rfl) (fun w => by kernel_rfl) ?_
    refine ls_end ?_
    refine qn_then ?_
    refine cs_know (c := false) (dec_f q4) 20 (by kernel_rfl) ?_
    refine cs_false (by kernel_rfl) ?_
    refine cs_skip' ?_
    refine qn_then ?_
    refine cs_seq ?_
    refine cs_seq ?_
    refine cs_region (l := [_, _]) ?_
    refine ls_val (v := .int .i64 t1) rfl rfl (by kernel_rfl) (fun w => by kernel_rfl) ?_
    refine ls_val (v := .bool (!decide (t1 = (0 : Int)))) rfl rfl (by kernel_rfl) (fun w => by kernel_rfl) ?_
    refine ls_end ?_
    refine qn_then ?_
    refine cs_know (c := true) (congrArg Bool.not (dec_f q4)) 24 (by kernel_rfl) ?_
    refine cs_true (by kernel_rfl) ?_
    refine cs_seq ?_
    refine cs_region (l := [_, _]) ?_
    refine ls_val (v := .int .i64 t1) rfl rfl (by kernel_rfl) (fun w => by kernel_rfl) ?_
    refine ls_val (v := .int .i64 t1) rfl rfl (by kernel_rfl) (fun w => by kernel_rfl) ?_
    refine ls_end ?_
    refine qn_then ?_
    refine cs_ret' ?_
    refine qr_then ?_
    obtain rfl := Option.some.inj H
    refine qr_res (rs := [_]) rfl (fun w' hs => ⟨[.int .i64 t1], (res_tmp (by kernel_rfl) (.nil)), (), rfl, hs.pick (ts := [0, 1]) (cs := [Ck.var 34 pg0 (([Value.slice (some ⟨gl0_0, 0, none⟩) n0_0 c0_0] ++ ([Value.map (some r0_1)] ++ ([Value.bool v0.2.2.1] ++ ([Value.int .i64 v0.2.2.2.1] ++ [Value.bool v0.2.2.2.2]))))), Ck.mr T48 r0_1 gl0_0 c0_0 n0_0 w0_1]) ⟨by exact rfl, by exact rfl, trivial⟩ (by decide)⟩)

/-! ### (*shadowbox/disk.Disk).Flush: function 9 -/
def disk_Disk_Flush.tab8 : List (List Nat) := [[], [0], [0, 1], [0, 1, 2], [], [], [0, 1, 2, 3, 4, 5], [0, 1, 2, 3, 4, 5, 6]]
def disk_Disk_Flush.lo3 (m0_2 : (Unit × Unit × Bool × Int × Bool)) : Nat → ((List (Int × (Vc Int 512)) × List (Vc Int 512))) → Option (Int × (Unit × Unit × Bool × Int × Bool) × (List (Int × (Vc Int 512)) × List (Vc Int 512))) := fun kk mm => mrlo (fun mE7 => some ((0 : Int), ((), (), m0_2.2.2.1, m0_2.2.2.2.1, m0_2.2.2.2.2), mE7)) kk mm
def disk_Disk_Flush.jo2 (k : Nat) (w0_1 : (List (Int × (Vc Int 512)) × List (Vc Int 512))) (m0_2 : (Unit × Unit × Bool × Int × Bool)) : Option (Int × (Unit × Unit × Bool × Int × Bool) × (List (Int × (Vc Int 512)) × List (Vc Int 512))) := disk_Disk_Flush.lo3 m0_2 k w0_1
def disk_Disk_Flush.jo1 (k : Nat) (v0 : (Unit × Unit × Bool × Int × Bool)) (w0_1 : (List (Int × (Vc Int 512)) × List (Vc Int 512))) : Option (Int × (Unit × Unit × Bool × Int × Bool) × (List (Int × (Vc Int 512)) × List (Vc Int 512))) := (disk_Disk_spend.f k ((), (), v0.2.2.1, v0.2.2.2.1, v0.2.2.2.2) w0_1).bind fun t13 => (if t13.1 = (0 : Int) then (disk_Disk_Flush.jo2 k w0_1) ((), (), t13.2.2.2.1, t13.2.2.2.2.1, t13.2.2.2.2.2) else some (t13.1, ((), (), t13.2.2.2.1, t13.2.2.2.2.1, t13.2.2.2.2.2), w0_1))
def disk_Disk_Flush.f (k : Nat) (v0 : (Unit × Unit × Bool × Int × Bool)) (w0_1 : (List (Int × (Vc Int 512)) × List (Vc Int 512))) : Option (Int × (Unit × Unit × Bool × Int × Bool) × (List (Int × (Vc Int 512)) × List (Vc Int 512))) :=
  (disk_Disk_Flush.jo1 k v0 w0_1)
set_option maxRecDepth 100000 in
set_option maxHeartbeats 4000000 in
theorem disk_Disk_Flush.calls (k : Nat) (pg0 : Nat) (gl0_0 : Nat) (n0_0 : Nat) (c0_0 : Nat) (r0_1 : Nat) (v0 : (Unit × Unit × Bool × Int × Bool)) (w0_1 : (List (Int × (Vc Int 512)) × List (Vc Int 512))) (r : Int × (Unit × Unit × Bool × Int × Bool) × (List (Int × (Vc Int 512)) × List (Vc Int 512))) (b : Bs) (hs0 : St b (stl [Ck.var 34 pg0 (([Value.slice (some ⟨gl0_0, 0, none⟩) n0_0 c0_0] ++ ([Value.map (some r0_1)] ++ ([Value.bool v0.2.2.1] ++ ([Value.int .i64 v0.2.2.2.1] ++ [Value.bool v0.2.2.2.2]))))), Ck.mr T48 r0_1 gl0_0 c0_0 n0_0 w0_1]) b.w) (H : disk_Disk_Flush.f k v0 w0_1 = some r) :
    Calls Try.prog 9 #[.pointer (some ⟨pg0, 0, none⟩)] b.w fun e w' => ∃ x : Unit, e = .returned (.int .i64 r.1) ∧ St b (stl [Ck.var 34 pg0 (([Value.slice (some ⟨gl0_0, 0, none⟩) n0_0 c0_0] ++ ([Value.map (some r0_1)] ++ ([Value.bool r.2.1.2.2.1] ++ ([Value.int .i64 r.2.1.2.2.2.1] ++ [Value.bool r.2.1.2.2.2.2]))))), Ck.mr T48 r0_1 gl0_0 c0_0 n0_0 r.2.2]) w' := by
  unfold disk_Disk_Flush.f at H
  refine enterb (n := 35) Try.func9 rfl (by kernel_rfl) (by kernel_rfl) hs0 ?_
  refine cs_sub (sput (sput s0 0 (some (Ck.var 34 pg0 (([Value.slice (some ⟨gl0_0, 0, none⟩) n0_0 c0_0] ++ ([Value.map (some r0_1)] ++ ([Value.bool v0.2.2.1] ++ ([Value.int .i64 v0.2.2.2.1] ++ [Value.bool v0.2.2.2.2])))))))) 1 (some (Ck.mr T48 r0_1 gl0_0 c0_0 n0_0 w0_1))) (sub_put (by exact rfl) (sub_put (by exact rfl) (sub_nil _))) ?_
  refine cs_seq ?_
  refine cs_region (l := [_]) ?_
  refine ls_val (v := .int .i64 (0 : Int)) rfl rfl (by kernel_rfl) (fun w => by kernel_rfl) ?_
  refine ls_end ?_
  refine qn_then ?_
  refine cs_cut (fun f S => ∃ (fR : Fr), f = upd fR 0 (.pointer (some ⟨pg0, 0, none⟩)) ∧ S = sput (sput s0 0 (some (Ck.var 34 pg0 (([Value.slice (some ⟨gl0_0, 0, none⟩) n0_0 c0_0] ++ ([Value.map (some r0_1)] ++ ([Value.bool v0.2.2.1] ++ ([Value.int .i64 v0.2.2.2.1] ++ [Value.bool v0.2.2.2.2])))))))) 1 (some (Ck.mr T48 r0_1 gl0_0 c0_0 n0_0 w0_1)) ∧ disk_Disk_Flush.jo1 k v0 w0_1 = some r) ?_ ?_
  · skip
    refine cs_seq ?_
    refine cs_region (l := [_, _]) ?_
    refine ls_val (v := .pointer (some ⟨pg0, 0, none⟩)) rfl rfl (by kernel_rfl) (fun w => by kernel_rfl) ?_
    have hc18 : disk_Disk_none.f k ((), (), v0.2.2.1, v0.2.2.2.1, v0.2.2.2.2) w0_1 = some false := rfl
    refine ls_callb (fid := 14) (vals := #[.pointer (some ⟨pg0, 0, none⟩)]) (X := Unit) (fun x => .bool false) (fun x => stl [Ck.var 34 pg0 (([Value.slice (some ⟨gl0_0, 0, none⟩) n0_0 c0_0] ++ ([Value.map (some r0_1)] ++ ([Value.bool v0.2.2.1] ++ ([Value.int .i64 v0.2.2.2.1] ++ [Value.bool v0.2.2.2.2]))))), Ck.mr T48 r0_1 gl0_0 c0_0 n0_0 w0_1]) [0, 1] [] [Ck.var 34 pg0 (([Value.slice (some ⟨gl0_0, 0, none⟩) n0_0 c0_0] ++ ([Value.map (some r0_1)] ++ ([Value.bool v0.2.2.1] ++ ([Value.int .i64 v0.2.2.2.1] ++ [Value.bool v0.2.2.2.2]))))), Ck.mr T48 r0_1 gl0_0 c0_0 n0_0 w0_1] [] 2 rfl rfl (by kernel_rfl) (fun w => by kernel_rfl) ⟨by exact rfl, by exact rfl, trivial⟩ trivial (by decide) (fun w hs hb => disk_Disk_none.calls k pg0 gl0_0 n0_0 c0_0 r0_1 ((), (), v0.2.2.1, v0.2.2.2.1, v0.2.2.2.2) w0_1 false (lent b w [Ck.var 34 pg0 (([Value.slice (some ⟨gl0_0, 0, none⟩) n0_0 c0_0] ++ ([Value.map (some r0_1)] ++ ([Value.bool v0.2.2.1] ++ ([Value.int .i64 v0.2.2.2.1] ++ [Value.bool v0.2.2.2.2]))))), Ck.mr T48 r0_1 gl0_0 c0_0 n0_0 w0_1] []) hb  hc18) ?_
    intro x19
    refine ls_end ?_
    refine qn_then ?_
    refine cs_false (by kernel_rfl) ?_
    refine cs_skip' ?_
    refine qn_meet (sput (sput s0 0 (some (Ck.var 34 pg0 (([Value.slice (some ⟨gl0_0, 0, none⟩) n0_0 c0_0] ++ ([Value.map (some r0_1)] ++ ([Value.bool v0.2.2.1] ++ ([Value.int .i64 v0.2.2.2.1] ++ [Value.bool v0.2.2.2.2])))))))) 1 (some (Ck.mr T48 r0_1 gl0_0 c0_0 n0_0 w0_1))) ⟨_, fr_next (rfl) (by kernel_rfl), rfl, H⟩ (sub_put (by exact rfl) (sub_put (by exact rfl) (sub_nil _)))
  · rintro f S ⟨fr1, rfl, rfl, H⟩
    replace H : ((disk_Disk_spend.f k ((), (), v0.2.2.1, v0.2.2.2.1, v0.2.2.2.2) w0_1).bind fun t13 => (if t13.1 = (0 : Int) then (disk_Disk_Flush.jo2 k w0_1) ((), (), t13.2.2.2.1, t13.2.2.2.2.1, t13.2.2.2.2.2) else some (t13.1, ((), (), t13.2.2.2.1, t13.2.2.2.2.1, t13.2.2.2.2.2), w0_1))) = some r := H
    refine cs_cut (fun f S => ∃ (fR : Fr) (m0_2 : (Unit × Unit × Bool × Int × Bool)), f = upd fR 0 (.pointer (some ⟨pg0, 0, none⟩)) ∧ S = sput (sput s0 0 (some (Ck.var 34 pg0 (([Value.slice (some ⟨gl0_0, 0, none⟩) n0_0 c0_0] ++ ([Value.map (some r0_1)] ++ ([Value.bool m0_2.2.2.1] ++ ([Value.int .i64 m0_2.2.2.2.1] ++ [Value.bool m0_2.2.2.2.2])))))))) 1 (some (Ck.mr T48 r0_1 gl0_0 c0_0 n0_0 w0_1)) ∧ disk_Disk_Flush.jo2 k w0_1 m0_2 = some r) ?_ ?_
    · skip
      refine cs_seq ?_
      refine cs_region (l := [_, _, _]) ?_
      refine ls_val (v := .pointer (some ⟨pg0, 0, none⟩)) rfl rfl (by kernel_rfl) (fun w => by kernel_rfl) ?_
      obtain ⟨t13, hc14, H⟩ := bind_some H
      refine ls_callb (fid := 16) (vals := #[.pointer (some ⟨pg0, 0, none⟩)]) (X := Unit) (fun x => .int .i64 t13.1) (fun x => stl [Ck.var 34 pg0 (([Value.slice (some ⟨gl0_0, 0, none⟩) n0_0 c0_0] ++ ([Value.map (some r0_1)] ++ ([Value.bool t13.2.2.2.1] ++ ([Value.int .i64 t13.2.2.2.2.1] ++ [Value.bool t13.2.2.2.2.2]))))), Ck.mr T48 r0_1 gl0_0 c0_0 n0_0 w0_1]) [0, 1] [] [Ck.var 34 pg0 (([Value.slice (some ⟨gl0_0, 0, none⟩) n0_0 c0_0] ++ ([Value.map (some r0_1)] ++ ([Value.bool v0.2.2.1] ++ ([Value.int .i64 v0.2.2.2.1] ++ [Value.bool v0.2.2.2.2]))))), Ck.mr T48 r0_1 gl0_0 c0_0 n0_0 w0_1] [] 2 rfl rfl (by kernel_rfl) (fun w => by kernel_rfl) ⟨by exact rfl, by exact rfl, trivial⟩ trivial (by decide) (fun w hs hb => disk_Disk_spend.calls k pg0 gl0_0 n0_0 c0_0 r0_1 ((), (), v0.2.2.1, v0.2.2.2.1, v0.2.2.2.2) w0_1 t13 (lent b w [Ck.var 34 pg0 (([Value.slice (some ⟨gl0_0, 0, none⟩) n0_0 c0_0] ++ ([Value.map (some r0_1)] ++ ([Value.bool v0.2.2.1] ++ ([Value.int .i64 v0.2.2.2.1] ++ [Value.bool v0.2.2.2.2]))))), Ck.mr T48 r0_1 gl0_0 c0_0 n0_0 w0_1] []) hb  hc14) ?_
      intro x15
      refine ls_val (v := .int .i64 t13.1) rfl rfl (by kernel_rfl) (fun w => by kernel_rfl) ?_
      refine ls_end ?_
      refine qn_then ?_
      refine cs_seq ?_
      refine cs_region (l := [_, _]) ?_
      refine ls_val (v := .int .i64 t13.1) rfl rfl (by kernel_rfl) (fun w => by kernel_rfl) ?_
      refine ls_val (v := .bool (!decide (t13.1 = (0 : Int)))) rfl rfl (by kernel_rfl) (fun w => by kernel_rfl) ?_
      refine ls_end ?_
      refine qn_then ?_
      by_cases q16 : t13.1 = (0 : Int)
      · replace H := ite_t q16 H
        refine cs_know (c := false) (congrArg Bool.not (dec_t q16)) 11 (by kernel_rfl) ?_
        refine cs_false (by kernel_rfl) ?_
        refine cs_skip' ?_
        refine qn_meet (sput (sput s0 0 (some (Ck.var 34 pg0 (([Value.slice (some ⟨gl0_0, 0, none⟩) n0_0 c0_0] ++ ([Value.map (some r0_1)] ++ ([Value.bool t13.2.2.2.1] ++ ([Value.int .i64 t13.2.2.2.2.1] ++ [Value.bool t13.2.2.2.2.2])))))))) 1 (some (Ck.mr T48 r0_1 gl0_0 c0_0 n0_0 w0_1))) ⟨_, ((), (), t13.2.2.2.1, t13.2.2.2.2.1, t13.2.2.2.2.2), fr_next (rfl) (by kernel_rfl), rfl, H⟩ (sub_put (by exact rfl) (sub_put (by exact rfl) (sub_nil _)))
      · replace H := ite_f q16 H
        refine cs_know (c := true) (congrArg Bool.not (dec_f q16)) 11 (by kernel_rfl) ?_
        refine cs_true (by kernel_rfl) ?_
        refine cs_seq ?_
        refine cs_region (l := [_, _]) ?_
        refine ls_val (v := .int .i64 t13.1) rfl rfl (by kernel_rfl) (fun w => by kernel_rfl) ?_
        refine ls_val (v := .int .i64 t13.1) rfl rfl (by kernel_rfl) (fun w => by kernel_rfl) ?_
        refine ls_end ?_
        refine qn_then ?_
        refine cs_ret' ?_
        refine qr_then ?_
        obtain rfl := Option.some.inj H
        refine qr_res (rs := [_]) rfl (fun w' hs => ⟨[.int .i64 t13.1], (res_tmp (by kernel_rfl) (.nil)), (), rfl, hs.pick (ts := [0, 1]) (cs := [Ck.var 34 pg0 (([Value.slice (some ⟨gl0_0, 0, none⟩) n0_0 c0_0] ++ ([Value.map (some r0_1)] ++ ([Value.bool t13.2.2.2.1] ++ ([Value.int .i64 t13.2.2.2.2.1] ++ [Value.bool t13.2.2.2.2.2]))))), Ck.mr T48 r0_1 gl0_0 c0_0 n0_0 w0_1]) ⟨by exact rfl, by exact rfl, trivial⟩ (by decide)⟩)
    · rintro f S ⟨fr2, m0_2, rfl, rfl, H⟩
      replace H : (disk_Disk_Flush.lo3 m0_2 k w0_1) = some r := H
      refine cs_seq ?_
      refine cs_seq ?_
      refine cs_region (l := [_, _, _, _, _]) ?_
      refine ls_val (v := .pointer (some ⟨pg0, 0, none⟩)) rfl rfl (by kernel_rfl) (fun w => by kernel_rfl) ?_
      refine ls_val (v := .pointer (some ⟨pg0, 0, none⟩)) rfl rfl (by kernel_rfl) (fun w => by kernel_rfl) ?_
      refine ls_val (v := .pointer (some ⟨pg0, (0 + 1), none⟩)) rfl rfl (by kernel_rfl) (fun w => by kernel_rfl) ?_
      refine ls_load (a0 := ⟨pg0, (0 + 1), none⟩) (v := .map (some r0_1)) (de := (TypeDesc.map 3 48)) rfl rfl (by kernel_rfl) rfl (by kernel_rfl) (by kernel_rfl) (by kernel_rfl) (fun w hs => (hs.var (k := 0) (by exact rfl) (Sub4.trans (Sub4.all _) (Sub4.skip (n := 1) (len1 _) (Sub4.head _ _))))) ?_
      refine ls_mrrange (T := T48) (r := r0_1) (m := w0_1) (kt := 3) (et := 48) 1 rfl rfl (by kernel_rfl) rfl (by kernel_rfl) (by kernel_rfl) (by exact rfl) ?_
      intro g1
      refine ls_end ?_
      refine qn_then ?_
      refine cs_block ?_
      refine cs_sub (sput (sput s0 0 (some (Ck.var 34 pg0 (([Value.slice (some ⟨gl0_0, 0, none⟩) n0_0 c0_0] ++ ([Value.map (some r0_1)] ++ ([Value.bool m0_2.2.2.1] ++ ([Value.int .i64 m0_2.2.2.2.1] ++ [Value.bool m0_2.2.2.2.2])))))))) 1 (some (Ck.mri T48 r0_1 gl0_0 c0_0 n0_0 g1 none w0_1))) (sub_put (by exact rfl) (sub_put (by exact rfl) (sub_nil _))) ?_
      refine cs_loop (fun kk f S => ∃ (fR : Fr) (m1_3 : (List (Int × (Vc Int 512)) × List (Vc Int 512))), f = upd (upd fR 0 (.pointer (some ⟨pg0, 0, none⟩))) 17 (.pointer (some ⟨g1, 0, none⟩)) ∧ S = sput (sput s0 0 (some (Ck.var 34 pg0 (([Value.slice (some ⟨gl0_0, 0, none⟩) n0_0 c0_0] ++ ([Value.map (some r0_1)] ++ ([Value.bool m0_2.2.2.1] ++ ([Value.int .i64 m0_2.2.2.2.1] ++ [Value.bool m0_2.2.2.2.2])))))))) 1 (some (Ck.mri T48 r0_1 gl0_0 c0_0 n0_0 g1 none m1_3)) ∧ disk_Disk_Flush.lo3 m0_2 kk m1_3 = some r) k ?_ ?_ ?_
      · exact ⟨_, w0_1, fr_next (fr_next (rfl) (by kernel_rfl)) (by kernel_rfl), rfl, H⟩
      · rintro f S ⟨fr3, m1_3, rfl, rfl, H⟩; exact (mrlo_zero H).elim
      · rintro k3 f S ⟨fr3, m1_3, rfl, rfl, H⟩
        replace H : (mrlo (fun mE7 => some ((0 : Int), ((), (), m0_2.2.2.1, m0_2.2.2.2.1, m0_2.2.2.2.2), mE7)) (k3 + 1) m1_3) = some r := H
        refine cs_seq ?_
        refine cs_region (l := [_, _]) ?_
        refine ls_mrnext (T := T48) (gi := g1) (m := m1_3) 1 rfl rfl (by kernel_rfl) rfl (by kernel_rfl) (by exact rfl) ?_ ?_
        · intro hnil2
          replace H := mrlo_end H hnil2
          generalize (([] : List (Int × (Vc Int 512))), m1_3.2) = mE7 at H ⊢
          replace H : (some ((0 : Int), ((), (), m0_2.2.2.1, m0_2.2.2.2.1, m0_2.2.2.2.2), mE7)) = some r := H
          refine ls_val (v := .bool false) rfl rfl (by kernel_rfl) (fun w => by kernel_rfl) ?_
          refine ls_end ?_
          refine qn_then ?_
          refine cs_seq ?_
          refine cs_false (by kernel_rfl) ?_
          refine cs_exit' ?_
          refine qx_then ?_
          refine qx_then ?_
          refine qx_same ?_
          refine qn_then ?_
          refine cs_seq ?_
          refine cs_region (l := [_]) ?_
          refine ls_val (v := .int .i64 (0 : Int)) rfl rfl (by kernel_rfl) (fun w => by kernel_rfl) ?_
          refine ls_end ?_
          refine qn_then ?_
          refine cs_ret' ?_
          obtain rfl := Option.some.inj H
          refine qr_res (rs := [_]) rfl (fun w' hs => ⟨[.int .i64 (0 : Int)], (res_tmp (by kernel_rfl) (.nil)), (), rfl, hs.pick (ts := [0, 1]) (cs := [Ck.var 34 pg0 (([Value.slice (some ⟨gl0_0, 0, none⟩) n0_0 c0_0] ++ ([Value.map (some r0_1)] ++ ([Value.bool m0_2.2.2.1] ++ ([Value.int .i64 m0_2.2.2.2.1] ++ [Value.bool m0_2.2.2.2.2]))))), Ck.mr T48 r0_1 gl0_0 c0_0 n0_0 mE7]) ⟨by exact rfl, by exact rfl, trivial⟩ (by decide)⟩)
        · intro p3 hp4 hnd5
          have hin6 := mrlo_in H
          refine ls_val (v := .bool true) rfl rfl (by kernel_rfl) (fun w => by kernel_rfl) ?_
          refine ls_end ?_
          refine qn_then ?_
          refine cs_seq ?_
          refine cs_true (by kernel_rfl) ?_
          refine cs_skip' ?_
          refine qn_then ?_
          refine cs_block ?_
          refine cs_seq ?_
          refine cs_region (l := [_, _, _, _, _, _]) ?_
          refine ls_mrentry (T := T48) (gi := g1) (m := m1_3) (p := p3) 1 rfl rfl (by kernel_rfl) rfl (by kernel_rfl) (by exact rfl) ?_
          refine ls_val (v := .int .i64 p3.1) rfl rfl (by kernel_rfl) (fun w => by kernel_rfl) ?_
          refine ls_val (v := .agg ⟨en (Value.int .u8) p3.2.1⟩) rfl rfl (by kernel_rfl) (fun w => by kernel_rfl) ?_
          refine ls_new rfl rfl (by kernel_rfl) 2 (fun g => .pointer (some ⟨g, 0, none⟩)) (.cells ⟨en (Value.int .u8) (vrep 512 (0 : Int)).1⟩ 48) (fun w => by kernel_rfl) ?_
          intro g8
          refine ls_val (v := .int .i64 p3.1) rfl rfl (by kernel_rfl) (fun w => by kernel_rfl) ?_
          refine ls_storec (g := g8) (off := 0) (v := .agg ⟨en (Value.int .u8) p3.2.1⟩) (vs := en (Value.int .u8) p3.2.1) (cs := en (Value.int .u8) (vrep 512 (0 : Int)).1) (ty := 48) 2 rfl rfl rfl (by kernel_rfl) (by kernel_rfl) (by kernel_rfl) (by exact rfl) (by kernel_rfl) (len_en _ p3.2) (one_en (fun _ => rfl) _) (hl_of (Sub4.all _) (len_eq (len_en _ p3.2) (len_en _ (vrep 512 (0 : Int))))) (cs' := en (Value.int .u8) p3.2.1) (splc_all (len_eq (len_en _ p3.2) (len_en _ (vrep 512 (0 : Int))))) ?_
          refine ls_end ?_
          refine qn_then ?_
          refine cs_seq ?_
          obtain ⟨s10_0, hs10_0⟩ : ∃ z : Value → Sto → Prop, z = (fun v R => v = .pointer (some ⟨pg0, 0, none⟩) ∧ R = s0) := ⟨_, rfl⟩
          refine have_op (l := [_, _, _, _, _, _, _, _]) disk_Disk_Flush.tab8 3 0 (fun sp => sp 0 = s10_0) (fun sp on hA hon => ?_) (fun ops10_0 => ?_)
          · refine ⟨fun o ho vs Rs f' S' w hp hf hx hS hR hs => ?_⟩
            obtain rfl := Option.some.inj ho
            rw [hA, hs10_0]
            refine And.intro (fun a ha => (want_none rfl a ha).trans hon.symm) (And.intro (fun _ => ?_) (fun h => by rw [hon] at h; cases h))
            have hF := fr_next (rfl) ((hx 0 (by kernel_rfl)).trans (by kernel_rfl : (_ : Value) = .pointer (some ⟨pg0, 0, none⟩)))
            refine ls_fr hF ?_
            refine ls_val (v := .pointer (some ⟨pg0, 0, none⟩)) rfl rfl (by kernel_rfl) (fun w => by kernel_rfl) ?_
            exact ls_fin s0 (.pointer (some ⟨pg0, 0, none⟩)) (congrArg (fun z => upd z 23 _) hF.symm) ⟨rfl, rfl⟩ (sub_nil _)
          obtain ⟨s10_1, hs10_1⟩ : ∃ z : Value → Sto → Prop, z = (fun v R => v = .pointer (some ⟨pg0, 0, none⟩) ∧ R = s0) := ⟨_, rfl⟩
          refine have_op (l := [_, _, _, _, _, _, _, _]) disk_Disk_Flush.tab8 3 1 (fun sp => sp 1 = s10_1 ∧ sp 0 = s10_0) (fun sp on hA hon => ?_) (fun ops10_1 => ?_)
          · refine ⟨fun o ho vs Rs f' S' w hp hf hx hS hR hs => ?_⟩
            obtain rfl := Option.some.inj ho
            obtain ⟨hv0, hR0⟩ := (spe hA.2 hs10_0 (hp 0 (by kernel_rfl)))
            rw [hA.1, hs10_1]
            refine And.intro (fun a ha => (want_none rfl a ha).trans hon.symm) (And.intro (fun _ => ?_) (fun h => by rw [hon] at h; cases h))
            have hF := fr_next (rfl) ((hf 0 23 (by kernel_rfl) rfl).trans hv0)
            refine ls_fr hF ?_
            refine ls_val (v := .pointer (some ⟨pg0, 0, none⟩)) rfl rfl (by kernel_rfl) (fun w => by kernel_rfl) ?_
            exact ls_fin s0 (.pointer (some ⟨pg0, 0, none⟩)) (congrArg (fun z => upd z 24 _) hF.symm) ⟨rfl, rfl⟩ (sub_nil _)
          obtain ⟨s10_2, hs10_2⟩ : ∃ z : Value → Sto → Prop, z = (fun v R => v = .pointer (some ⟨pg0, (0 + 0), none⟩) ∧ R = s0) := ⟨_, rfl⟩
          refine have_op (l := [_, _, _, _, _, _, _, _]) disk_Disk_Flush.tab8 3 2 (fun sp => sp 2 = s10_2 ∧ sp 1 = s10_1) (fun sp on hA hon => ?_) (fun ops10_2 => ?_)
          · refine ⟨fun o ho vs Rs f' S' w hp hf hx hS hR hs => ?_⟩
            obtain rfl := Option.some.inj ho
            obtain ⟨hv1, hR1⟩ := (spe hA.2 hs10_1 (hp 1 (by kernel_rfl)))
            rw [hA.1, hs10_2]
            refine And.intro (fun a ha => (want_none rfl a ha).trans hon.symm) (And.intro (fun _ => ?_) (fun h => by rw [hon] at h; cases h))
            have hF := fr_next (rfl) ((hf 1 24 (by kernel_rfl) rfl).trans hv1)
            refine ls_fr hF ?_
            refine ls_val (v := .pointer (some ⟨pg0, (0 + 0), none⟩)) rfl rfl (by kernel_rfl) (fun w => by kernel_rfl) ?_
            exact ls_fin s0 (.pointer (some ⟨pg0, (0 + 0), none⟩)) (congrArg (fun z => upd z 25 _) hF.symm) ⟨rfl, rfl⟩ (sub_nil _)
          obtain ⟨s10_3, hs10_3⟩ : ∃ z : Value → Sto → Prop, z = (fun v R => v = .slice (some ⟨gl0_0, 0, none⟩) n0_0 c0_0 ∧ R = s0) := ⟨_, rfl⟩
          refine have_op (l := [_, _, _, _, _, _, _, _]) disk_Disk_Flush.tab8 3 3 (fun sp => sp 3 = s10_3 ∧ sp 2 = s10_2) (fun sp on hA hon => ?_) (fun ops10_3 => ?_)
          · refine ⟨fun o ho vs Rs f' S' w hp hf hx hS hR hs => ?_⟩
            obtain rfl := Option.some.inj ho
            obtain ⟨hv2, hR2⟩ := (spe hA.2 hs10_2 (hp 2 (by kernel_rfl)))
            rw [hA.1, hs10_3]
            refine And.intro (fun a ha => (want_none rfl a ha).trans hon.symm) (And.intro (fun _ => ?_) (fun h => by rw [hon] at h; cases h))
            have hF := fr_next (rfl) ((hf 2 25 (by kernel_rfl) rfl).trans hv2)
            refine ls_fr hF ?_
            refine ls_load (a0 := ⟨pg0, (0 + 0), none⟩) (v := .slice (some ⟨gl0_0, 0, none⟩) n0_0 c0_0) (de := (TypeDesc.slice 48)) rfl rfl (by kernel_rfl) rfl (by kernel_rfl) (by kernel_rfl) (by kernel_rfl) (fun w1 hs1 => cell_step hs1.below.bw (hs.var (k := 0) ((hS 0 (by kernel_rfl)).trans (by exact rfl)) (Sub4.trans (Sub4.all _) (Sub4.head _ _)))) ?_
            exact ls_fin s0 (.slice (some ⟨gl0_0, 0, none⟩) n0_0 c0_0) (congrArg (fun z => upd z 26 _) hF.symm) ⟨rfl, rfl⟩ (sub_nil _)
          obtain ⟨s10_4, hs10_4⟩ : ∃ z : Value → Sto → Prop, z = (fun v R => v = .int .i64 p3.1 ∧ R = s0) := ⟨_, rfl⟩
          refine have_op (l := [_, _, _, _, _, _, _, _]) disk_Disk_Flush.tab8 3 4 (fun sp => sp 4 = s10_4) (fun sp on hA hon => ?_) (fun ops10_4 => ?_)
          · refine ⟨fun o ho vs Rs f' S' w hp hf hx hS hR hs => ?_⟩
            obtain rfl := Option.some.inj ho
            rw [hA, hs10_4]
            refine And.intro (fun a ha => (want_none rfl a ha).trans hon.symm) (And.intro (fun _ => ?_) (fun h => by rw [hon] at h; cases h))
            have hF := fr_next (rfl) ((hx 4 (by kernel_rfl)).trans (by kernel_rfl : (_ : Value) = .int .i64 p3.1))
            refine ls_fr hF ?_
            refine ls_val (v := .int .i64 p3.1) rfl rfl (by kernel_rfl) (fun w => by kernel_rfl) ?_
            exact ls_fin s0 (.int .i64 p3.1) (congrArg (fun z => upd z 27 _) hF.symm) ⟨rfl, rfl⟩ (sub_nil _)
          obtain ⟨s10_5, hs10_5⟩ : ∃ z : Value → Sto → Prop, z = (fun v R => v = .agg ⟨en (Value.int .u8) p3.2.1⟩ ∧ R = s0) := ⟨_, rfl⟩
          refine have_op (l := [_, _, _, _, _, _, _, _]) disk_Disk_Flush.tab8 3 5 (fun sp => sp 5 = s10_5) (fun sp on hA hon => ?_) (fun ops10_5 => ?_)
          · refine ⟨fun o ho vs Rs f' S' w hp hf hx hS hR hs => ?_⟩
            obtain rfl := Option.some.inj ho
            rw [hA, hs10_5]
            refine And.intro (fun a ha => (want_none rfl a ha).trans hon.symm) (And.intro (fun _ => ?_) (fun h => by rw [hon] at h; cases h))
            have hF := fr_next (rfl) ((hx 5 (by kernel_rfl)).trans (by kernel_rfl : (_ : Value) = .pointer (some ⟨g8, 0, none⟩)))
            refine ls_fr hF ?_
            refine ls_loadagg (a := ⟨g8, 0, none⟩) (sub := en (Value.int .u8) p3.2.1) rfl rfl (by kernel_rfl) rfl (by kernel_rfl) (by kernel_rfl) (by kernel_rfl) (len_en _ p3.2) (fun w1 hs1 => Rd.step (hs.vars (k := 2) ((hS 2 (by kernel_rfl)).trans (by exact rfl)) (Sub4.all _)) hs1.below.bw) ?_
            exact ls_fin s0 (.agg ⟨en (Value.int .u8) p3.2.1⟩) (congrArg (fun z => upd z 28 _) hF.symm) ⟨rfl, rfl⟩ (sub_nil _)
          refine cs_draw disk_Disk_Flush.tab8 6 3 (spl [s10_0, s10_1, s10_2, s10_3, s10_4, s10_5]) (onl [true, true, true, true, true, true]) (by kernel_rfl) (by kernel_rfl) (by kernel_rfl) (by kernel_rfl) (rs := [_, _]) rfl (by kernel_rfl) (by kernel_rfl) (all_snoc (all_snoc (all_snoc (all_snoc (all_snoc (all_snoc (all_nil) (ops10_0 _ _ rfl rfl)) (ops10_1 _ _ ⟨rfl, rfl⟩ rfl)) (ops10_2 _ _ ⟨rfl, rfl⟩ rfl)) (ops10_3 _ _ ⟨rfl, rfl⟩ rfl)) (ops10_4 _ _ rfl rfl)) (ops10_5 _ _ rfl rfl)) ?_
          intro vs Rs f' S' hp hf hx hS hR
          obtain ⟨hv3, hR3⟩ := (spe rfl hs10_3 (hp 3 (by kernel_rfl)))
          obtain ⟨hv4, hR4⟩ := (spe rfl hs10_4 (hp 4 (by kernel_rfl)))
          obtain ⟨hv5, hR5⟩ := (spe rfl hs10_5 (hp 5 (by kernel_rfl)))
          refine ls_fr (F := upd (upd (upd (upd (upd (upd f' 0 (.pointer (some ⟨pg0, 0, none⟩))) 4 (.int .i64 p3.1)) 17 (.pointer (some ⟨g1, 0, none⟩))) 26 (.slice (some ⟨gl0_0, 0, none⟩) n0_0 c0_0)) 27 (.int .i64 p3.1)) 28 (.agg ⟨en (Value.int .u8) p3.2.1⟩)) (fr_next (fr_next (fr_next (fr_next (fr_next (fr_next (rfl) ((hx 0 (by kernel_rfl)).trans (by kernel_rfl : (_ : Value) = .pointer (some ⟨pg0, 0, none⟩)))) ((hx 4 (by kernel_rfl)).trans (by kernel_rfl : (_ : Value) = .int .i64 p3.1))) ((hx 17 (by kernel_rfl)).trans (by kernel_rfl : (_ : Value) = .pointer (some ⟨g1, 0, none⟩)))) ((hf 3 26 (by kernel_rfl) rfl).trans hv3)) ((hf 4 27 (by kernel_rfl) rfl).trans hv4)) ((hf 5 28 (by kernel_rfl) rfl).trans hv5)) ?_
          refine ls_sub (sput (sput s0 0 (some (Ck.var 34 pg0 (([Value.slice (some ⟨gl0_0, 0, none⟩) n0_0 c0_0] ++ ([Value.map (some r0_1)] ++ ([Value.bool m0_2.2.2.1] ++ ([Value.int .i64 m0_2.2.2.2.1] ++ [Value.bool m0_2.2.2.2.2])))))))) 1 (some (Ck.mri T48 r0_1 gl0_0 c0_0 n0_0 g1 (some p3) m1_3))) (sub_put ((hS 1 (by kernel_rfl)).trans (by exact rfl)) (sub_put ((hS 0 (by kernel_rfl)).trans (by exact rfl)) (sub_nil _))) ?_
          refine ls_mrin 1 (by exact rfl) (fun hn12 => ?_)
          refine ls_ren 26 (v := .slice (some ⟨gl0_0, 0, none⟩) n0_0 c0_0) (v' := .slice (some ⟨gl0_0, 0, none⟩) m1_3.2.length c0_0) (by kernel_rfl) (by rw [hn12]) ?_
          refine ls_idxv T48 (A := (some ⟨gl0_0, 0, none⟩)) (c := c0_0) (l := m1_3.2) (k := .i64) (i := p3.1) (z := 512) (ad := (⟨gl0_0, 0, none⟩ : Addr)) rfl rfl (by kernel_rfl) rfl rfl (by kernel_rfl) (by kernel_rfl) (by kernel_rfl) (by kernel_rfl) (hin6 p3 hp4).1 (hin6 p3 hp4).2 ?_
          refine ls_mristore (T := T48) (m := m1_3) (off := ((p3.1).toNat * 512)) (v := .agg ⟨en (Value.int .u8) p3.2.1⟩) (vs := en (Value.int .u8) p3.2.1) (l' := (m1_3.2.set (p3.1).toNat p3.2)) 1 rfl rfl rfl (by kernel_rfl) (by kernel_rfl) (by kernel_rfl) (by exact rfl) (by kernel_rfl) (len_en _ p3.2) (one_en (fun _ => rfl) _) (hl_of (em_sub T48 m1_3.2 (i := (p3.1).toNat) (by have h0 : (0 : Int) ≤ p3.1 := (hin6 p3 hp4).1; have h1 : p3.1 < (m1_3.2.length : Int) := (hin6 p3 hp4).2; omega)) (len_eq (len_en _ p3.2) (len_en _ ((m1_3.2).getD (p3.1).toNat (vrep 512 (0 : Int)))))) (splc_em T48 m1_3.2 p3.2 (i := (p3.1).toNat) (by have h0 : (0 : Int) ≤ p3.1 := (hin6 p3 hp4).1; have h1 : p3.1 < (m1_3.2.length : Int) := (hin6 p3 hp4).2; omega)) (by rw [List.length_set]) ?_
          refine ls_end ?_
          refine qn_then ?_
          refine cs_region (l := [_, _, _, _, _, _]) ?_
          refine ls_val (v := .pointer (some ⟨pg0, 0, none⟩)) rfl rfl (by kernel_rfl) (fun w => by kernel_rfl) ?_
          refine ls_val (v := .pointer (some ⟨pg0, 0, none⟩)) rfl rfl (by kernel_rfl) (fun w => by kernel_rfl) ?_
          refine ls_val (v := .pointer (some ⟨pg0, (0 + 1), none⟩)) rfl rfl (by kernel_rfl) (fun w => by kernel_rfl) ?_
          refine ls_load (a0 := ⟨pg0, (0 + 1), none⟩) (v := .map (some r0_1)) (de := (TypeDesc.map 3 48)) rfl rfl (by kernel_rfl) rfl (by kernel_rfl) (by kernel_rfl) (by kernel_rfl) (fun w hs => (hs.var (k := 0) (by exact rfl) (Sub4.trans (Sub4.all _) (Sub4.skip (n := 1) (len1 _) (Sub4.head _ _))))) ?_
          refine ls_val (v := .int .i64 p3.1) rfl rfl (by kernel_rfl) (fun w => by kernel_rfl) ?_
          refine ls_mridel (T := T48) (m := (m1_3.1, (m1_3.2.set (p3.1).toNat p3.2))) (p := p3) (kt := 3) (et := 48) 1 rfl rfl rfl (by kernel_rfl) (by kernel_rfl) (by kernel_rfl) (by kernel_rfl) (by exact rfl) ?_
          replace H := mrlo_step H hp4 hnd5
          refine ls_end ?_
          refine qn_block ?_
          refine qn_again k3 (sput (sput s0 0 (some (Ck.var 34 pg0 (([Value.slice (some ⟨gl0_0, 0, none⟩) n0_0 c0_0] ++ ([Value.map (some r0_1)] ++ ([Value.bool m0_2.2.2.1] ++ ([Value.int .i64 m0_2.2.2.2.1] ++ [Value.bool m0_2.2.2.2.2])))))))) 1 (some (Ck.mri T48 r0_1 gl0_0 c0_0 n0_0 g1 none (mdel p3.1 m1_3.1, (m1_3.2.set (p3.1).toNat p3.2))))) (Nat.le_refl _) ⟨_, (mdel p3.1 m1_3.1, (m1_3.2.set (p3.1).toNat p3.2)), fr_next (fr_next (rfl) (by kernel_rfl)) (by kernel_rfl), rfl, H⟩ (sub_put (by exact rfl) (sub_put (by exact rfl) (sub_nil _)))

end Go.Proofs.Ytodfejnjfigkoaa.G
