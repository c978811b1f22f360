/- Printed by a program of this session (sz.py): plain functions, and walks that show that the code comes to them; no condition. -/
import Derived.Test.YtbidihabicgedaaProg
import Derived.Test.YtbidihabicgedaaTy
import Derived.Test.YtbidihabicgedaaG0
import Derived.Test.YtbidihabicgedaaG1
set_option linter.unusedVariables false
set_option linter.unusedSimpArgs false
namespace Go.Proofs.Ytbidihabicgedaa.G
open Go Go.RowKit Go.Proofs.Ytbidihabicgedaa.Sx

/-! ### (*shadowbox/disk.Disk).Crash: function 10 -/
def disk_Disk_Crash.tab25 : List (List Nat) := [[], [0], [0, 1], [0, 1, 2], [], [0, 1, 2, 3, 4], [0, 1, 2, 3, 4, 5], [], [], [7, 8], [7, 8, 9], [7, 8, 9, 10], [7, 8, 9, 10, 11], [7, 8, 9, 10, 11, 12], [0, 1, 2, 3, 4, 5, 6, 7, 8, 9, 10, 11, 12, 13]]
def disk_Disk_Crash.jo4 (w0_1 : (List (Int × (Vc Int 512)) × List (Vc Int 512))) (l1 : List Int) (y16 : List Int) (x39_3 : Int) (m3_3 : (List (Int × (Vc Int 512)) × List (Vc Int 512))) (lo3 : Int → ((List (Int × (Vc Int 512)) × List (Vc Int 512))) → Option (((Unit × Unit × Bool × Int × Bool) × (List (Int × (Vc Int 512)) × List (Vc Int 512))) × Int)) : Option (((Unit × Unit × Bool × Int × Bool) × (List (Int × (Vc Int 512)) × List (Vc Int 512))) × Int) := (if 0 ≤ x39_3 then (if x39_3 < (y16.length : Int) then (if x39_3 = (l1.length : Int) then some ((((), (), false, (0 : Int), false), m3_3), (0 : Int)) else (if 0 ≤ ((y16).getD (x39_3).toNat (0 : Int)) then (if ((y16).getD (x39_3).toNat (0 : Int)) < (m3_3.2.length : Int) then (if x39_3 < (l1.length : Int) then lt ((if ((l1).getD (x39_3).toNat (0 : Int)) < (0 : Int) then (0 : Int) else ((l1).getD (x39_3).toNat (0 : Int)))) fun y34 => lt ((if (512 : Int) < y34 then (512 : Int) else y34)) fun y36 => (if 0 ≤ y36 then (if y36 ≤ (512 : Int) then lt (List.take (y36).toNat ((mget ((y16).getD (x39_3).toNat (0 : Int)) w0_1.1).getD (vrep 512 (0 : Int))).1) fun xl44 => lt (m3_3.2.set (((y16).getD (x39_3).toNat (0 : Int))).toNat (vcopy ((m3_3.2).getD (((y16).getD (x39_3).toNat (0 : Int))).toNat (vrep 512 (0 : Int))) xl44)) fun y50 => lo3 (IntKind.wrap .i64 (x39_3 + (1 : Int))) (m3_3.1, y50) else none) else none) else none) else none) else none)) else none) else none)
def disk_Disk_Crash.lo3 (w0_1 : (List (Int × (Vc Int 512)) × List (Vc Int 512))) (l1 : List Int) (y16 : List Int) : Nat → Int → ((List (Int × (Vc Int 512)) × List (Vc Int 512))) → Option (((Unit × Unit × Bool × Int × Bool) × (List (Int × (Vc Int 512)) × List (Vc Int 512))) × Int)
  | 0, _, _ => none
  | k3 + 1, x39_3, m3_3 => (if x39_3 < (y16.length : Int) then (disk_Disk_Crash.jo4 w0_1 l1 y16 x39_3 m3_3 (disk_Disk_Crash.lo3 w0_1 l1 y16 k3)) else some ((((), (), false, (0 : Int), false), m3_3), (0 : Int)))
def disk_Disk_Crash.lo2 (k : Nat) (w0_1 : (List (Int × (Vc Int 512)) × List (Vc Int 512))) (l1 : List Int) (t2 : (List (Vc Int 512))) : Nat → (List Int) → (List (Int × (Vc Int 512))) → Option (((Unit × Unit × Bool × Int × Bool) × (List (Int × (Vc Int 512)) × List (Vc Int 512))) × Int) := fun kk ll ff => mrks (fun zz15 => lt (zz15) fun y16 => (if y16.length < 4611686018427387904 then disk_Disk_Crash.lo3 w0_1 l1 y16 k (0 : Int) (([] : List (Int × (Vc Int 512))), t2) else none)) kk ll ff
def disk_Disk_Crash.jo1 (k : Nat) (w0_1 : (List (Int × (Vc Int 512)) × List (Vc Int 512))) (l1 : List Int) : Option (((Unit × Unit × Bool × Int × Bool) × (List (Int × (Vc Int 512)) × List (Vc Int 512))) × Int) := (slices_Clone_24.f k w0_1.2).bind fun t2 => (if 0 < t2.length then disk_Disk_Crash.lo2 k w0_1 l1 t2 k ([] : List Int) w0_1.1 else none)
def disk_Disk_Crash.f (k : Nat) (v0 : (Unit × Unit × Bool × Int × Bool)) (w0_1 : (List (Int × (Vc Int 512)) × List (Vc Int 512))) (l1 : List Int) : Option (((Unit × Unit × Bool × Int × Bool) × (List (Int × (Vc Int 512)) × List (Vc Int 512))) × Int) :=
  (disk_Disk_Crash.jo1 k w0_1 l1)
set_option maxRecDepth 100000 in
set_option maxHeartbeats 4000000 in
theorem disk_Disk_Crash.calls (k : Nat) (pg0 : Nat) (gl0_0 : Nat) (n0_0 : Nat) (c0_0 : Nat) (r0_1 : Nat) (v0 : (Unit × Unit × Bool × Int × Bool)) (w0_1 : (List (Int × (Vc Int 512)) × List (Vc Int 512))) (A1 : Option Addr) (c1 : Nat) (l1 : List Int) (r : ((Unit × Unit × Bool × Int × Bool) × (List (Int × (Vc Int 512)) × List (Vc Int 512))) × Int) (b : Bs) (hs0 : St b (stl [Ck.var 42 pg0 (([Value.slice (some ⟨gl0_0, 0, none⟩) n0_0 c0_0] ++ ([Value.map (some r0_1)] ++ ([Value.bool v0.2.2.1] ++ ([Value.int .i64 v0.2.2.2.1] ++ [Value.bool v0.2.2.2.2]))))), Ck.mr T56 r0_1 gl0_0 c0_0 n0_0 w0_1]) b.w) (R1 : Ro b A1 (em (Ec.int 3 .i64) l1)) (C1 : l1.length ≤ c1) (H : disk_Disk_Crash.f k v0 w0_1 l1 = some r) :
    Calls Try.prog 10 #[.pointer (some ⟨pg0, 0, none⟩), .slice A1 l1.length c1] b.w fun e w' => ∃ x : Nat × Nat × Nat × Nat × Nat, e = .returned (.tuple #[.pointer (some ⟨x.1, 0, none⟩), .int .i64 r.2]) ∧ St b (stl [Ck.var 42 pg0 (([Value.slice (some ⟨gl0_0, 0, none⟩) n0_0 c0_0] ++ ([Value.map (some r0_1)] ++ ([Value.bool v0.2.2.1] ++ ([Value.int .i64 v0.2.2.2.1] ++ [Value.bool v0.2.2.2.2]))))), Ck.mr T56 r0_1 gl0_0 c0_0 n0_0 w0_1, Ck.var 42 x.1 (([Value.slice (some ⟨x.2.2.1, 0, none⟩) x.2.2.2.2 x.2.2.2.1] ++ ([Value.map (some x.2.1)] ++ ([Value.bool r.1.1.2.2.1] ++ ([Value.int .i64 r.1.1.2.2.2.1] ++ [Value.bool r.1.1.2.2.2.2]))))), Ck.mr T56 x.2.1 x.2.2.1 x.2.2.2.1 x.2.2.2.2 r.1.2]) w' := by
  unfold disk_Disk_Crash.f at H
  refine enterb (n := 71) Try.func10 rfl (by kernel_rfl) (by kernel_rfl) hs0 ?_
  refine cs_sub (sput (sput s0 0 (some (Ck.var 42 pg0 (([Value.slice (some ⟨gl0_0, 0, none⟩) n0_0 c0_0] ++ ([Value.map (some r0_1)] ++ ([Value.bool v0.2.2.1] ++ ([Value.int .i64 v0.2.2.2.1] ++ [Value.bool v0.2.2.2.2])))))))) 1 (some (Ck.mr T56 r0_1 gl0_0 c0_0 n0_0 w0_1))) (sub_put (by exact rfl) (sub_put (by exact rfl) (sub_nil _))) ?_
  refine cs_seq ?_
  refine cs_region (l := [_, _]) ?_
  refine lv (.pointer none) ?_
  refine lv (.int .i64 (0 : Int)) ?_
  refine ls_end ?_
  refine qn_then ?_
  refine cs_cut (fun f S => ∃ (fR : Fr), f = upd (upd fR 0 (.pointer (some ⟨pg0, 0, none⟩))) 1 (.slice A1 l1.length c1) ∧ S = sput (sput s0 0 (some (Ck.var 42 pg0 (([Value.slice (some ⟨gl0_0, 0, none⟩) n0_0 c0_0] ++ ([Value.map (some r0_1)] ++ ([Value.bool v0.2.2.1] ++ ([Value.int .i64 v0.2.2.2.1] ++ [Value.bool v0.2.2.2.2])))))))) 1 (some (Ck.mr T56 r0_1 gl0_0 c0_0 n0_0 w0_1)) ∧ disk_Disk_Crash.jo1 k w0_1 l1 = some r) ?_ ?_
  · skip
    refine cs_seq ?_
    refine cs_region (l := [_, _]) ?_
    refine lv (.pointer (some ⟨pg0, 0, none⟩)) ?_
    have hc57 : disk_Disk_none.f k ((), (), v0.2.2.1, v0.2.2.2.1, v0.2.2.2.2) w0_1 = some false := rfl
    refine ls_callb (fid := 21) (vals := #[.pointer (some ⟨pg0, 0, none⟩)]) (X := Unit) (fun x => .bool false) (fun x => stl [Ck.var 42 pg0 (([Value.slice (some ⟨gl0_0, 0, none⟩) n0_0 c0_0] ++ ([Value.map (some r0_1)] ++ ([Value.bool v0.2.2.1] ++ ([Value.int .i64 v0.2.2.2.1] ++ [Value.bool v0.2.2.2.2]))))), Ck.mr T56 r0_1 gl0_0 c0_0 n0_0 w0_1]) [0, 1] [] [Ck.var 42 pg0 (([Value.slice (some ⟨gl0_0, 0, none⟩) n0_0 c0_0] ++ ([Value.map (some r0_1)] ++ ([Value.bool v0.2.2.1] ++ ([Value.int .i64 v0.2.2.2.1] ++ [Value.bool v0.2.2.2.2]))))), Ck.mr T56 r0_1 gl0_0 c0_0 n0_0 w0_1] [] 2 rfl rfl (by kernel_rfl) (fun w => by kernel_rfl) ⟨by exact rfl, by exact rfl, trivial⟩ trivial (by decide) (fun w hs hb => disk_Disk_none.calls k pg0 gl0_0 n0_0 c0_0 r0_1 ((), (), v0.2.2.1, v0.2.2.2.1, v0.2.2.2.2) w0_1 false (lent b w [Ck.var 42 pg0 (([Value.slice (some ⟨gl0_0, 0, none⟩) n0_0 c0_0] ++ ([Value.map (some r0_1)] ++ ([Value.bool v0.2.2.1] ++ ([Value.int .i64 v0.2.2.2.1] ++ [Value.bool v0.2.2.2.2]))))), Ck.mr T56 r0_1 gl0_0 c0_0 n0_0 w0_1] []) hb  hc57) ?_
    intro x58
    refine ls_end ?_
    refine qn_then ?_
    refine cs_false (by kernel_rfl) ?_
    refine cs_skip' ?_
    refine qn_meet (sput (sput s0 0 (some (Ck.var 42 pg0 (([Value.slice (some ⟨gl0_0, 0, none⟩) n0_0 c0_0] ++ ([Value.map (some r0_1)] ++ ([Value.bool v0.2.2.1] ++ ([Value.int .i64 v0.2.2.2.1] ++ [Value.bool v0.2.2.2.2])))))))) 1 (some (Ck.mr T56 r0_1 gl0_0 c0_0 n0_0 w0_1))) ⟨_, fr_next (fr_next (rfl) (by kernel_rfl)) (by kernel_rfl), rfl, H⟩ (sub_put (by exact rfl) (sub_put (by exact rfl) (sub_nil _)))
  rintro f S ⟨fr1, rfl, rfl, H⟩
  replace H : ((slices_Clone_24.f k w0_1.2).bind fun t2 => (if 0 < t2.length then disk_Disk_Crash.lo2 k w0_1 l1 t2 k ([] : List Int) w0_1.1 else none)) = some r := H
  refine cs_seq ?_
  refine cs_region (l := [_, _, _, _, _, _, _, _, _]) ?_
  refine lv (.pointer (some ⟨pg0, 0, none⟩)) ?_
  refine lv (.pointer (some ⟨pg0, 0, none⟩)) ?_
  refine lv (.pointer (some ⟨pg0, (0 + 0), none⟩)) ?_
  refine ls_mrn 1 (by exact rfl) (fun hn1 => ?_)
  refine ls_load (a0 := ⟨pg0, (0 + 0), none⟩) (v := .slice (some ⟨gl0_0, 0, none⟩) n0_0 c0_0) (de := (TypeDesc.slice 56)) rfl rfl (by kernel_rfl) rfl (by kernel_rfl) (by kernel_rfl) (by kernel_rfl) (fun w hs => (hs.var (k := 0) (by exact rfl) (Sub4.trans (Sub4.all _) (Sub4.head _ _)))) ?_
  refine ls_ren 17 (v := .slice (some ⟨gl0_0, 0, none⟩) n0_0 c0_0) (v' := .slice (some ⟨gl0_0, 0, none⟩) w0_1.2.length c0_0) (by kernel_rfl) (by rw [hn1]) ?_
  obtain ⟨t2, hc3, H⟩ := bind_some H
  refine ls_callb (fid := 24) (vals := #[.slice (some ⟨gl0_0, 0, none⟩) w0_1.2.length c0_0]) (X := (Option Addr × Nat)) (fun x => .slice x.1 t2.length x.2) (fun x => stl [Ck.sl T56 x.1 x.2 t2]) [] [1] [] [Ck.mr T56 r0_1 gl0_0 c0_0 n0_0 w0_1] 2 rfl rfl (by kernel_rfl) (fun w => by kernel_rfl) trivial ⟨by exact rfl, trivial⟩ (by decide) (fun w hs hb => slices_Clone_24.calls k (some ⟨gl0_0, 0, none⟩) c0_0 w0_1.2 t2 (lent b w [] [Ck.mr T56 r0_1 gl0_0 c0_0 n0_0 w0_1]) hb (Rd.ror (hs.mrrd (k := 1) (by exact rfl)) (.head _) Ck.mr_key) (hs.mrcap (k := 1) (by exact rfl)) hc3) ?_
  intro x4
  refine ls_makemap 3 rfl rfl (by kernel_rfl) rfl ?_
  intro g5
  refine lv (.agg ⟨([Value.slice x4.1 t2.length x4.2] ++ ([Value.map (some g5)] ++ ([Value.bool false] ++ ([Value.int .i64 (0 : Int)] ++ [Value.bool false]))))⟩) ?_
  obtain ⟨q6, H⟩ := ite_need H
  refine ls_rowlit (T := T56) (A := x4.1) (c := x4.2) (l := t2) 2 (by exact rfl) q6 ?_
  intro gl7 hA8
  refine ls_ren 20 (v := .agg ⟨([Value.slice x4.1 t2.length x4.2] ++ ([Value.map (some g5)] ++ ([Value.bool false] ++ ([Value.int .i64 (0 : Int)] ++ [Value.bool false]))))⟩) (v' := .agg ⟨([Value.slice (some ⟨gl7, 0, none⟩) t2.length x4.2] ++ ([Value.map (some g5)] ++ ([Value.bool false] ++ ([Value.int .i64 (0 : Int)] ++ [Value.bool false]))))⟩) (by kernel_rfl) (by rw [hA8]) ?_
  refine ls_mkmr (T := T56) (gl := gl7) (c := x4.2) (l := t2) (r := g5) 2 3 (by decide) (by exact rfl) (by exact rfl) ?_
  refine ls_new rfl rfl (by kernel_rfl) 4 (fun g => .pointer (some ⟨g, 0, none⟩)) (.cells ⟨([Value.slice (some ⟨gl7, 0, none⟩) t2.length x4.2] ++ ([Value.map (some g5)] ++ ([Value.bool false] ++ ([Value.int .i64 (0 : Int)] ++ [Value.bool false]))))⟩ 42) (fun w => by kernel_rfl) ?_
  intro g9
  refine lv (.pointer (some ⟨g9, 0, none⟩)) ?_
  refine ls_end ?_
  refine qn_then ?_
  refine cs_seq ?_
  refine cs_region (l := [_]) ?_
  refine lv (.slice none 0 0) ?_
  refine ls_end ?_
  refine qn_then ?_
  refine cs_seq ?_
  refine cs_seq ?_
  refine cs_region (l := [_, _, _, _, _]) ?_
  refine lv (.pointer (some ⟨pg0, 0, none⟩)) ?_
  refine lv (.pointer (some ⟨pg0, 0, none⟩)) ?_
  refine lv (.pointer (some ⟨pg0, (0 + 1), none⟩)) ?_
  refine ls_load (a0 := ⟨pg0, (0 + 1), none⟩) (v := .map (some r0_1)) (de := (TypeDesc.map 3 56)) rfl rfl (by kernel_rfl) rfl (by kernel_rfl) (by kernel_rfl) (by kernel_rfl) (fun w hs => (hs.var (k := 0) (by exact rfl) (Sub4.trans (Sub4.all _) (Sub4.skip (n := 1) (len1 _) (Sub4.head _ _))))) ?_
  refine ls_mkrange (T := T56) (r := r0_1) (m := w0_1) (kt := 3) (et := 56) 1 rfl rfl (by kernel_rfl) rfl (by kernel_rfl) (by kernel_rfl) (by exact rfl) ?_
  intro g10
  refine ls_end ?_
  refine qn_then ?_
  refine cs_block ?_
  refine cs_nilrow 5 (Ec.int 3 .i64) ?_
  refine cs_sub (sput (sput (sput (sput (sput s0 0 (some (Ck.var 42 pg0 (([Value.slice (some ⟨gl0_0, 0, none⟩) n0_0 c0_0] ++ ([Value.map (some r0_1)] ++ ([Value.bool v0.2.2.1] ++ ([Value.int .i64 v0.2.2.2.1] ++ [Value.bool v0.2.2.2.2])))))))) 1 (some (Ck.mrk T56 r0_1 gl0_0 c0_0 n0_0 g10 w0_1.1 none w0_1))) 3 (some (Ck.mr T56 g5 gl7 x4.2 t2.length (([] : List (Int × (Vc Int 512))), t2)))) 4 (some (Ck.var 42 g9 (([Value.slice (some ⟨gl7, 0, none⟩) t2.length x4.2] ++ ([Value.map (some g5)] ++ ([Value.bool false] ++ ([Value.int .i64 (0 : Int)] ++ [Value.bool false])))))))) 5 (some (Ck.sl (Ec.int 3 .i64) none 0 ([] : List Int)))) (sub_put (by exact rfl) (sub_put (by exact rfl) (sub_put (by exact rfl) (sub_put (by exact rfl) (sub_put (by exact rfl) (sub_nil _)))))) ?_
  refine cs_loop (fun kk f S => ∃ (fR : Fr) (A7_2 : Option Addr) (c7_2 : Nat) (l7_2 : List Int) (lf1_2 : List (Int × (Vc Int 512))), f = upd (upd (upd (upd (upd fR 0 (.pointer (some ⟨pg0, 0, none⟩))) 1 (.slice A1 l1.length c1)) 6 (.pointer (some ⟨g9, 0, none⟩))) 7 (.slice A7_2 l7_2.length c7_2)) 26 (.pointer (some ⟨g10, 0, none⟩)) ∧ S = sput (sput (sput (sput (sput s0 0 (some (Ck.var 42 pg0 (([Value.slice (some ⟨gl0_0, 0, none⟩) n0_0 c0_0] ++ ([Value.map (some r0_1)] ++ ([Value.bool v0.2.2.1] ++ ([Value.int .i64 v0.2.2.2.1] ++ [Value.bool v0.2.2.2.2])))))))) 1 (some (Ck.mrk T56 r0_1 gl0_0 c0_0 n0_0 g10 lf1_2 none w0_1))) 3 (some (Ck.mr T56 g5 gl7 x4.2 t2.length (([] : List (Int × (Vc Int 512))), t2)))) 4 (some (Ck.var 42 g9 (([Value.slice (some ⟨gl7, 0, none⟩) t2.length x4.2] ++ ([Value.map (some g5)] ++ ([Value.bool false] ++ ([Value.int .i64 (0 : Int)] ++ [Value.bool false])))))))) 5 (some (Ck.sl (Ec.int 3 .i64) A7_2 c7_2 l7_2)) ∧ disk_Disk_Crash.lo2 k w0_1 l1 t2 kk l7_2 lf1_2 = some r) k ?_ ?_ ?_
  · exact ⟨_, none, 0, ([] : List Int), w0_1.1, fr_next (fr_next (fr_next (fr_next (fr_next (rfl) (by kernel_rfl)) (by kernel_rfl)) (by kernel_rfl)) (by kernel_rfl)) (by kernel_rfl), rfl, H⟩
  · rintro f S ⟨fr2, A7_2, c7_2, l7_2, lf1_2, rfl, rfl, H⟩; exact (mrks_zero H).elim
  rintro k2 f S ⟨fr2, A7_2, c7_2, l7_2, lf1_2, rfl, rfl, H⟩
  replace H : (mrks (fun zz15 => lt (zz15) fun y16 => (if y16.length < 4611686018427387904 then disk_Disk_Crash.lo3 w0_1 l1 y16 k (0 : Int) (([] : List (Int × (Vc Int 512))), t2) else none)) (k2 + 1) l7_2 lf1_2) = some r := H
  refine cs_seq ?_
  refine cs_region (l := [_, _]) ?_
  refine ls_mknext (T := T56) (gi := g10) (left := lf1_2) (m := w0_1) 1 rfl rfl (by kernel_rfl) rfl (by kernel_rfl) (by exact rfl) ?_ ?_
  · intro hnil11
    replace H := mrks_end H hnil11
    replace H : (lt (sortI l7_2) fun y16 => (if y16.length < 4611686018427387904 then disk_Disk_Crash.lo3 w0_1 l1 y16 k (0 : Int) (([] : List (Int × (Vc Int 512))), t2) else none)) = some r := H
    refine lv (.bool false) ?_
    refine ls_end ?_
    refine qn_then ?_
    refine cs_seq ?_
    refine cs_false (by kernel_rfl) ?_
    refine cs_exit' ?_
    refine qx_then ?_
    refine qx_then ?_
    refine qx_same ?_
    refine qn_then ?_
    refine cs_seq ?_
    refine cs_region (l := [_, _]) ?_
    refine lv (.slice A7_2 l7_2.length c7_2) ?_
    obtain ⟨y16, hy17, H⟩ := lt_some H
    obtain ⟨q18, H⟩ := ite_need H
    refine ls_sortd (e := 3) (A := A7_2) (c := c7_2) (l := l7_2) 5 rfl rfl (by kernel_rfl) (fun w => by kernel_rfl) (by exact rfl) (by rw [← sortI_len, hy17]; exact q18) sortC sortC0 ?_
    rw [hy17]
    refine ls_ren 7 (v := .slice A7_2 l7_2.length c7_2) (v' := .slice A7_2 y16.length c7_2) (by kernel_rfl) (by rw [← hy17, sortI_len]) ?_
    refine ls_ren 35 (v := .slice A7_2 l7_2.length c7_2) (v' := .slice A7_2 y16.length c7_2) (by kernel_rfl) (by rw [← hy17, sortI_len]) ?_
    refine ls_end ?_
    refine qn_then ?_
    refine cs_seq ?_
    refine cs_seq ?_
    refine cs_region (l := [_, _, _]) ?_
    refine lv (.slice A7_2 y16.length c7_2) ?_
    refine lv (.int .i64 (y16.length : Int)) ?_
    refine lv (.int .i64 (0 : Int)) ?_
    refine ls_end ?_
    refine qn_then ?_
    refine cs_block ?_
    refine cs_sub (sput (sput (sput (sput (sput s0 0 (some (Ck.var 42 pg0 (([Value.slice (some ⟨gl0_0, 0, none⟩) n0_0 c0_0] ++ ([Value.map (some r0_1)] ++ ([Value.bool v0.2.2.1] ++ ([Value.int .i64 v0.2.2.2.1] ++ [Value.bool v0.2.2.2.2])))))))) 1 (some (Ck.mr T56 r0_1 gl0_0 c0_0 n0_0 w0_1))) 3 (some (Ck.mr T56 g5 gl7 x4.2 t2.length (([] : List (Int × (Vc Int 512))), t2)))) 4 (some (Ck.var 42 g9 (([Value.slice (some ⟨gl7, 0, none⟩) t2.length x4.2] ++ ([Value.map (some g5)] ++ ([Value.bool false] ++ ([Value.int .i64 (0 : Int)] ++ [Value.bool false])))))))) 5 (some (Ck.sl (Ec.int 3 .i64) A7_2 c7_2 y16))) (sub_put (by exact rfl) (sub_put (by exact rfl) (sub_put (by exact rfl) (sub_put (by exact rfl) (sub_put (by exact rfl) (sub_nil _)))))) ?_
    refine cs_loop (fun kk f S => ∃ (fR : Fr) (x39_3 : Int) (m3_3 : (List (Int × (Vc Int 512)) × List (Vc Int 512))), f = upd (upd (upd (upd (upd (upd fR 0 (.pointer (some ⟨pg0, 0, none⟩))) 1 (.slice A1 l1.length c1)) 6 (.pointer (some ⟨g9, 0, none⟩))) 37 (.slice A7_2 y16.length c7_2)) 38 (.int .i64 (y16.length : Int))) 39 (.int .i64 x39_3) ∧ S = sput (sput (sput (sput (sput s0 0 (some (Ck.var 42 pg0 (([Value.slice (some ⟨gl0_0, 0, none⟩) n0_0 c0_0] ++ ([Value.map (some r0_1)] ++ ([Value.bool v0.2.2.1] ++ ([Value.int .i64 v0.2.2.2.1] ++ [Value.bool v0.2.2.2.2])))))))) 1 (some (Ck.mr T56 r0_1 gl0_0 c0_0 n0_0 w0_1))) 3 (some (Ck.mr T56 g5 gl7 x4.2 t2.length m3_3))) 4 (some (Ck.var 42 g9 (([Value.slice (some ⟨gl7, 0, none⟩) t2.length x4.2] ++ ([Value.map (some g5)] ++ ([Value.bool false] ++ ([Value.int .i64 (0 : Int)] ++ [Value.bool false])))))))) 5 (some (Ck.sl (Ec.int 3 .i64) A7_2 c7_2 y16)) ∧ disk_Disk_Crash.lo3 w0_1 l1 y16 kk x39_3 m3_3 = some r) k ?_ ?_ ?_
    · exact ⟨_, (0 : Int), (([] : List (Int × (Vc Int 512))), t2), fr_next (fr_next (fr_next (fr_next (fr_next (fr_next (rfl) (by kernel_rfl)) (by kernel_rfl)) (by kernel_rfl)) (by kernel_rfl)) (by kernel_rfl)) (by kernel_rfl), rfl, H⟩
    · rintro f S ⟨fr3, x39_3, m3_3, rfl, rfl, H⟩; cases H
    rintro k3 f S ⟨fr3, x39_3, m3_3, rfl, rfl, H⟩
    replace H : ((if x39_3 < (y16.length : Int) then (disk_Disk_Crash.jo4 w0_1 l1 y16 x39_3 m3_3 (disk_Disk_Crash.lo3 w0_1 l1 y16 k3)) else some ((((), (), false, (0 : Int), false), m3_3), (0 : Int)))) = some r := H
    refine cs_seq ?_
    refine cs_region (l := [_]) ?_
    refine lv (.bool (decide (x39_3 < (y16.length : Int)))) ?_
    refine ls_end ?_
    refine qn_then ?_
    refine cs_cut (fun f S => ∃ (fR : Fr), f = upd (upd (upd (upd (upd (upd fR 0 (.pointer (some ⟨pg0, 0, none⟩))) 1 (.slice A1 l1.length c1)) 6 (.pointer (some ⟨g9, 0, none⟩))) 37 (.slice A7_2 y16.length c7_2)) 38 (.int .i64 (y16.length : Int))) 39 (.int .i64 x39_3) ∧ S = sput (sput (sput (sput (sput s0 0 (some (Ck.var 42 pg0 (([Value.slice (some ⟨gl0_0, 0, none⟩) n0_0 c0_0] ++ ([Value.map (some r0_1)] ++ ([Value.bool v0.2.2.1] ++ ([Value.int .i64 v0.2.2.2.1] ++ [Value.bool v0.2.2.2.2])))))))) 1 (some (Ck.mr T56 r0_1 gl0_0 c0_0 n0_0 w0_1))) 3 (some (Ck.mr T56 g5 gl7 x4.2 t2.length m3_3))) 4 (some (Ck.var 42 g9 (([Value.slice (some ⟨gl7, 0, none⟩) t2.length x4.2] ++ ([Value.map (some g5)] ++ ([Value.bool false] ++ ([Value.int .i64 (0 : Int)] ++ [Value.bool false])))))))) 5 (some (Ck.sl (Ec.int 3 .i64) A7_2 c7_2 y16)) ∧ disk_Disk_Crash.jo4 w0_1 l1 y16 x39_3 m3_3 (disk_Disk_Crash.lo3 w0_1 l1 y16 k3) = some r) ?_ ?_
    · skip
      by_cases q52 : x39_3 < (y16.length : Int)
      · replace H := ite_t q52 H
        refine cs_know (c := true) (dec_t q52) 40 (by kernel_rfl) ?_
        refine cs_true (by kernel_rfl) ?_
        refine cs_skip' ?_
        refine qn_meet (sput (sput (sput (sput (sput s0 0 (some (Ck.var 42 pg0 (([Value.slice (some ⟨gl0_0, 0, none⟩) n0_0 c0_0] ++ ([Value.map (some r0_1)] ++ ([Value.bool v0.2.2.1] ++ ([Value.int .i64 v0.2.2.2.1] ++ [Value.bool v0.2.2.2.2])))))))) 1 (some (Ck.mr T56 r0_1 gl0_0 c0_0 n0_0 w0_1))) 3 (some (Ck.mr T56 g5 gl7 x4.2 t2.length m3_3))) 4 (some (Ck.var 42 g9 (([Value.slice (some ⟨gl7, 0, none⟩) t2.length x4.2] ++ ([Value.map (some g5)] ++ ([Value.bool false] ++ ([Value.int .i64 (0 : Int)] ++ [Value.bool false])))))))) 5 (some (Ck.sl (Ec.int 3 .i64) A7_2 c7_2 y16))) ⟨_, fr_next (fr_next (fr_next (fr_next (fr_next (fr_next (rfl) (by kernel_rfl)) (by kernel_rfl)) (by kernel_rfl)) (by kernel_rfl)) (by kernel_rfl)) (by kernel_rfl), rfl, H⟩ (sub_put (by exact rfl) (sub_put (by exact rfl) (sub_put (by exact rfl) (sub_put (by exact rfl) (sub_put (by exact rfl) (sub_nil _))))))
      replace H := ite_f q52 H
      refine cs_know (c := false) (dec_f q52) 40 (by kernel_rfl) ?_
      refine cs_false (by kernel_rfl) ?_
      refine cs_exit' ?_
      refine qx_then ?_
      refine qx_then ?_
      refine qx_same ?_
      refine qn_then ?_
      refine cs_seq ?_
      refine cs_region (l := [_, _, _]) ?_
      refine lv (.pointer (some ⟨g9, 0, none⟩)) ?_
      refine lv (.pointer (some ⟨g9, 0, none⟩)) ?_
      refine lv (.int .i64 (0 : Int)) ?_
      refine ls_end ?_
      refine qn_then ?_
      refine cs_ret' ?_
      obtain rfl := Option.some.inj H
      refine qr_res (rs := [_, _]) rfl (fun w' hs => ⟨[.pointer (some ⟨g9, 0, none⟩), .int .i64 (0 : Int)], (res_tmp (by kernel_rfl) (res_tmp (by kernel_rfl) (.nil))), (g9, g5, gl7, x4.2, t2.length), rfl, hs.pick (ts := [0, 1, 4, 3]) (cs := [Ck.var 42 pg0 (([Value.slice (some ⟨gl0_0, 0, none⟩) n0_0 c0_0] ++ ([Value.map (some r0_1)] ++ ([Value.bool v0.2.2.1] ++ ([Value.int .i64 v0.2.2.2.1] ++ [Value.bool v0.2.2.2.2]))))), Ck.mr T56 r0_1 gl0_0 c0_0 n0_0 w0_1, Ck.var 42 g9 (([Value.slice (some ⟨gl7, 0, none⟩) t2.length x4.2] ++ ([Value.map (some g5)] ++ ([Value.bool false] ++ ([Value.int .i64 (0 : Int)] ++ [Value.bool false]))))), Ck.mr T56 g5 gl7 x4.2 t2.length m3_3]) ⟨by exact rfl, by exact rfl, by exact rfl, by exact rfl, trivial⟩ (by decide)⟩)
    rintro f S ⟨fr4, rfl, rfl, H⟩
    replace H : ((if 0 ≤ x39_3 then (if x39_3 < (y16.length : Int) then (if x39_3 = (l1.length : Int) then some ((((), (), false, (0 : Int), false), m3_3), (0 : Int)) else (if 0 ≤ ((y16).getD (x39_3).toNat (0 : Int)) then (if ((y16).getD (x39_3).toNat (0 : Int)) < (m3_3.2.length : Int) then (if x39_3 < (l1.length : Int) then lt ((if ((l1).getD (x39_3).toNat (0 : Int)) < (0 : Int) then (0 : Int) else ((l1).getD (x39_3).toNat (0 : Int)))) fun y34 => lt ((if (512 : Int) < y34 then (512 : Int) else y34)) fun y36 => (if 0 ≤ y36 then (if y36 ≤ (512 : Int) then lt (List.take (y36).toNat ((mget ((y16).getD (x39_3).toNat (0 : Int)) w0_1.1).getD (vrep 512 (0 : Int))).1) fun xl44 => lt (m3_3.2.set (((y16).getD (x39_3).toNat (0 : Int))).toNat (vcopy ((m3_3.2).getD (((y16).getD (x39_3).toNat (0 : Int))).toNat (vrep 512 (0 : Int))) xl44)) fun y50 => (disk_Disk_Crash.lo3 w0_1 l1 y16 k3) (IntKind.wrap .i64 (x39_3 + (1 : Int))) (m3_3.1, y50) else none) else none) else none) else none) else none)) else none) else none)) = some r := H
    refine cs_seq ?_
    refine cs_block ?_
    refine cs_seq ?_
    refine cs_region (l := [_, _, _, _, _]) ?_
    refine lv (.int .i64 x39_3) ?_
    obtain ⟨q19, H⟩ := ite_need H
    obtain ⟨q20, H⟩ := ite_need H
    refine ls_at (T := (Ec.int 3 .i64)) (tk := 5) (i := x39_3) (by exact rfl) q19 q20 ?_
    intro ad21 hA22
    refine ls_idxv (Ec.int 3 .i64) (A := A7_2) (c := c7_2) (l := y16) (k := .i64) (i := x39_3) (z := 1) (ad := ad21) rfl rfl (by kernel_rfl) hA22 rfl (by kernel_rfl) (by kernel_rfl) (by kernel_rfl) (by kernel_rfl) q19 q20 ?_
    refine ls_load (a0 := (ad21.add ((x39_3).toNat * 1))) (v := .int .i64 ((y16).getD (x39_3).toNat (0 : Int))) (de := (TypeDesc.int .i64)) rfl rfl (by kernel_rfl) rfl (by kernel_rfl) (by kernel_rfl) (by kernel_rfl) (fun w hs => (hs.rd (k := 5) (by exact rfl)).at hA22 (em_sub (Ec.int 3 .i64) y16 (i := (x39_3).toNat) (by have h0 : (0 : Int) ≤ x39_3 := q19; have h1 : x39_3 < (y16.length : Int) := q20; omega))) ?_
    refine lv (.int .i64 x39_3) ?_
    refine lv (.int .i64 ((y16).getD (x39_3).toNat (0 : Int))) ?_
    refine ls_end ?_
    refine qn_then ?_
    refine cs_seq ?_
    refine cs_seq ?_
    refine cs_region (l := [_, _, _, _]) ?_
    refine lv (.int .i64 x39_3) ?_
    refine lv (.slice A1 l1.length c1) ?_
    refine lv (.int .i64 (l1.length : Int)) ?_
    refine lv (.bool (decide (x39_3 = (l1.length : Int)))) ?_
    refine ls_end ?_
    refine qn_then ?_
    by_cases q23 : x39_3 = (l1.length : Int)
    · replace H := ite_t q23 H
      refine cs_know (c := true) (dec_t q23) 47 (by kernel_rfl) ?_
      refine cs_true (by kernel_rfl) ?_
      refine cs_exit' ?_
      refine qx_then ?_
      refine qx_other (by decide) ?_
      refine qx_then ?_
      refine qx_then ?_
      refine qx_same ?_
      refine qn_then ?_
      refine cs_seq ?_
      refine cs_region (l := [_, _, _]) ?_
      refine lv (.pointer (some ⟨g9, 0, none⟩)) ?_
      refine lv (.pointer (some ⟨g9, 0, none⟩)) ?_
      refine lv (.int .i64 (0 : Int)) ?_
      refine ls_end ?_
      refine qn_then ?_
      refine cs_ret' ?_
      obtain rfl := Option.some.inj H
      refine qr_res (rs := [_, _]) rfl (fun w' hs => ⟨[.pointer (some ⟨g9, 0, none⟩), .int .i64 (0 : Int)], (res_tmp (by kernel_rfl) (res_tmp (by kernel_rfl) (.nil))), (g9, g5, gl7, x4.2, t2.length), rfl, hs.pick (ts := [0, 1, 4, 3]) (cs := [Ck.var 42 pg0 (([Value.slice (some ⟨gl0_0, 0, none⟩) n0_0 c0_0] ++ ([Value.map (some r0_1)] ++ ([Value.bool v0.2.2.1] ++ ([Value.int .i64 v0.2.2.2.1] ++ [Value.bool v0.2.2.2.2]))))), Ck.mr T56 r0_1 gl0_0 c0_0 n0_0 w0_1, Ck.var 42 g9 (([Value.slice (some ⟨gl7, 0, none⟩) t2.length x4.2] ++ ([Value.map (some g5)] ++ ([Value.bool false] ++ ([Value.int .i64 (0 : Int)] ++ [Value.bool false]))))), Ck.mr T56 g5 gl7 x4.2 t2.length m3_3]) ⟨by exact rfl, by exact rfl, by exact rfl, by exact rfl, trivial⟩ (by decide)⟩)
    replace H := ite_f q23 H
    refine cs_know (c := false) (dec_f q23) 47 (by kernel_rfl) ?_
    refine cs_false (by kernel_rfl) ?_
    refine cs_skip' ?_
    refine qn_then ?_
    refine cs_seq ?_
    refine cs_region (l := [_, _, _, _, _, _, _, _]) ?_
    refine lv (.pointer (some ⟨pg0, 0, none⟩)) ?_
    refine lv (.pointer (some ⟨pg0, 0, none⟩)) ?_
    refine lv (.pointer (some ⟨pg0, (0 + 1), none⟩)) ?_
    refine ls_load (a0 := ⟨pg0, (0 + 1), none⟩) (v := .map (some r0_1)) (de := (TypeDesc.map 3 56)) rfl rfl (by kernel_rfl) rfl (by kernel_rfl) (by kernel_rfl) (by kernel_rfl) (fun w hs => (hs.var (k := 0) (by exact rfl) (Sub4.trans (Sub4.all _) (Sub4.skip (n := 1) (len1 _) (Sub4.head _ _))))) ?_
    refine lv (.int .i64 ((y16).getD (x39_3).toNat (0 : Int))) ?_
    refine ls_mrlook1 (T := T56) (r := r0_1) (m := w0_1) (kt := 3) (et := 56) (i := ((y16).getD (x39_3).toNat (0 : Int))) 1 rfl rfl (by kernel_rfl) rfl (by kernel_rfl) (by kernel_rfl) (by kernel_rfl) (by kernel_rfl) (by kernel_rfl) (by exact rfl) ?_
    refine ls_new rfl rfl (by kernel_rfl) 6 (fun g => .pointer (some ⟨g, 0, none⟩)) (.cells ⟨en (Value.int .u8) (vrep 512 (0 : Int)).1⟩ 56) (fun w => by kernel_rfl) ?_
    intro g24
    refine ls_storec (g := g24) (off := 0) (v := .agg ⟨en (Value.int .u8) ((mget ((y16).getD (x39_3).toNat (0 : Int)) w0_1.1).getD (vrep 512 (0 : Int))).1⟩) (vs := en (Value.int .u8) ((mget ((y16).getD (x39_3).toNat (0 : Int)) w0_1.1).getD (vrep 512 (0 : Int))).1) (cs := en (Value.int .u8) (vrep 512 (0 : Int)).1) (ty := 56) 6 rfl rfl rfl (by kernel_rfl) (by kernel_rfl) (by kernel_rfl) (by exact rfl) (by kernel_rfl) (len_en _ ((mget ((y16).getD (x39_3).toNat (0 : Int)) w0_1.1).getD (vrep 512 (0 : Int)))) (one_en (fun _ => rfl) _) (hl_of (Sub4.all _) (len_eq (len_en _ ((mget ((y16).getD (x39_3).toNat (0 : Int)) w0_1.1).getD (vrep 512 (0 : Int)))) (len_en _ (vrep 512 (0 : Int))))) (cs' := en (Value.int .u8) ((mget ((y16).getD (x39_3).toNat (0 : Int)) w0_1.1).getD (vrep 512 (0 : Int))).1) (splc_all (len_eq (len_en _ ((mget ((y16).getD (x39_3).toNat (0 : Int)) w0_1.1).getD (vrep 512 (0 : Int)))) (len_en _ (vrep 512 (0 : Int))))) ?_
    refine ls_end ?_
    refine qn_then ?_
    refine cs_mrn 3 (by exact rfl) (fun hn25 => ?_)
    obtain ⟨s27_0, hs27_0⟩ := exv (.pointer (some ⟨g9, 0, none⟩))
    refine have_opa disk_Disk_Crash.tab25 7 0 (fun sp => sp 0 = s27_0) (fun sp on hA hon => ?_) (fun ops27_0 => ?_)
    · refine ⟨fun o ho vs Rs f' S' w hp hf hx hS hR hs => ?_⟩
      obtain rfl := Option.some.inj ho
      exact opv (.pointer (some ⟨g9, 0, none⟩)) hA hs27_0 hon (fr_next (rfl) ((hx 6 (by kernel_rfl)).trans (by kernel_rfl : (_ : Value) = .pointer (some ⟨g9, 0, none⟩))))
    obtain ⟨s27_1, hs27_1⟩ := exv (.pointer (some ⟨g9, 0, none⟩))
    refine have_opa disk_Disk_Crash.tab25 7 1 (fun sp => sp 1 = s27_1 ∧ sp 0 = s27_0) (fun sp on hA hon => ?_) (fun ops27_1 => ?_)
    · refine ⟨fun o ho vs Rs f' S' w hp hf hx hS hR hs => ?_⟩
      obtain rfl := Option.some.inj ho
      obtain ⟨hv0, hR0⟩ := (spe hA.2 hs27_0 (hp 0 (by kernel_rfl)))
      exact opv (.pointer (some ⟨g9, 0, none⟩)) hA.1 hs27_1 hon (fr_next (rfl) ((hf 0 54 (by kernel_rfl) rfl).trans hv0))
    obtain ⟨s27_2, hs27_2⟩ := exv (.pointer (some ⟨g9, (0 + 0), none⟩))
    refine have_opa disk_Disk_Crash.tab25 7 2 (fun sp => sp 2 = s27_2 ∧ sp 1 = s27_1) (fun sp on hA hon => ?_) (fun ops27_2 => ?_)
    · refine ⟨fun o ho vs Rs f' S' w hp hf hx hS hR hs => ?_⟩
      obtain rfl := Option.some.inj ho
      obtain ⟨hv1, hR1⟩ := (spe hA.2 hs27_1 (hp 1 (by kernel_rfl)))
      exact opv (.pointer (some ⟨g9, (0 + 0), none⟩)) hA.1 hs27_2 hon (fr_next (rfl) ((hf 1 55 (by kernel_rfl) rfl).trans hv1))
    obtain ⟨s27_3, hs27_3⟩ := exv (.slice (some ⟨gl7, 0, none⟩) m3_3.2.length x4.2)
    refine have_opa disk_Disk_Crash.tab25 7 3 (fun sp => sp 3 = s27_3 ∧ sp 2 = s27_2) (fun sp on hA hon => ?_) (fun ops27_3 => ?_)
    · refine ⟨fun o ho vs Rs f' S' w hp hf hx hS hR hs => ?_⟩
      obtain rfl := Option.some.inj ho
      obtain ⟨hv2, hR2⟩ := (spe hA.2 hs27_2 (hp 2 (by kernel_rfl)))
      rw [hA.1, hs27_3]
      refine wn hon ?_
      have hF := fr_next (rfl) ((hf 2 56 (by kernel_rfl) rfl).trans hv2)
      refine ls_fr hF ?_
      refine ls_load (a0 := ⟨g9, (0 + 0), none⟩) (v := .slice (some ⟨gl7, 0, none⟩) t2.length x4.2) (de := (TypeDesc.slice 56)) rfl rfl (by kernel_rfl) rfl (by kernel_rfl) (by kernel_rfl) (by kernel_rfl) (fun w1 hs1 => cell_step hs1.below.bw (hs.var (k := 4) ((hS 4 (by kernel_rfl)).trans (by exact rfl)) (Sub4.trans (Sub4.all _) (Sub4.head _ _)))) ?_
      refine ls_ren 57 (v := .slice (some ⟨gl7, 0, none⟩) t2.length x4.2) (v' := .slice (some ⟨gl7, 0, none⟩) m3_3.2.length x4.2) (by kernel_rfl) (by rw [hn25]) ?_
      exact ls_fin s0 _ ((upd_upd _ _ _ _).trans (congrArg (fun z => upd z 57 _) hF.symm)) ⟨rfl, rfl⟩ (sub_nil _)
    obtain ⟨s27_4, hs27_4⟩ := exv (.int .i64 ((y16).getD (x39_3).toNat (0 : Int)))
    refine have_opa disk_Disk_Crash.tab25 7 4 (fun sp => sp 4 = s27_4) (fun sp on hA hon => ?_) (fun ops27_4 => ?_)
    · refine ⟨fun o ho vs Rs f' S' w hp hf hx hS hR hs => ?_⟩
      obtain rfl := Option.some.inj ho
      exact opv (.int .i64 ((y16).getD (x39_3).toNat (0 : Int))) hA hs27_4 hon (fr_next (rfl) ((hx 10 (by kernel_rfl)).trans (by kernel_rfl : (_ : Value) = .int .i64 ((y16).getD (x39_3).toNat (0 : Int)))))
    obtain ⟨q29, H⟩ := ite_need H
    obtain ⟨q30, H⟩ := ite_need H
    obtain ⟨s27_5, hs27_5⟩ := exv (.pointer (some ((⟨gl7, 0, none⟩ : Addr).add ((((y16).getD (x39_3).toNat (0 : Int))).toNat * 512))))
    refine have_opa disk_Disk_Crash.tab25 7 5 (fun sp => sp 5 = s27_5 ∧ sp 3 = s27_3 ∧ sp 4 = s27_4) (fun sp on hA hon => ?_) (fun ops27_5 => ?_)
    · refine ⟨fun o ho vs Rs f' S' w hp hf hx hS hR hs => ?_⟩
      obtain rfl := Option.some.inj ho
      obtain ⟨hv3, hR3⟩ := (spe hA.2.1 hs27_3 (hp 3 (by kernel_rfl)))
      obtain ⟨hv4, hR4⟩ := (spe hA.2.2 hs27_4 (hp 4 (by kernel_rfl)))
      rw [hA.1, hs27_5]
      refine wn hon ?_
      have hF := fr_next (fr_next (rfl) ((hf 3 57 (by kernel_rfl) rfl).trans hv3)) ((hf 4 58 (by kernel_rfl) rfl).trans hv4)
      refine ls_fr hF ?_
      refine ls_idxv T56 (A := (some ⟨gl7, 0, none⟩)) (c := x4.2) (l := m3_3.2) (k := .i64) (i := ((y16).getD (x39_3).toNat (0 : Int))) (z := 512) (ad := (⟨gl7, 0, none⟩ : Addr)) rfl rfl (by kernel_rfl) rfl rfl (by kernel_rfl) (by kernel_rfl) (by kernel_rfl) (by kernel_rfl) q29 q30 ?_
      exact ls_fin s0 _ (congrArg (fun z => upd z 59 _) hF.symm) ⟨rfl, rfl⟩ (sub_nil _)
    obtain ⟨s27_6, hs27_6⟩ := exv (.slice (some ((⟨gl7, 0, none⟩ : Addr).add ((((y16).getD (x39_3).toNat (0 : Int))).toNat * 512))) 512 512)
    refine have_opa disk_Disk_Crash.tab25 7 6 (fun sp => sp 6 = s27_6 ∧ sp 5 = s27_5) (fun sp on hA hon => ?_) (fun ops27_6 => ?_)
    · refine ⟨fun o ho vs Rs f' S' w hp hf hx hS hR hs => ?_⟩
      obtain rfl := Option.some.inj ho
      obtain ⟨hv5, hR5⟩ := (spe hA.2 hs27_5 (hp 5 (by kernel_rfl)))
      rw [hA.1, hs27_6]
      refine wn hon ?_
      have hF := fr_next (rfl) ((hf 5 59 (by kernel_rfl) rfl).trans hv5)
      refine ls_fr hF ?_
      refine ls_awhole (z := 1) (ad := ((⟨gl7, 0, none⟩ : Addr).add ((((y16).getD (x39_3).toNat (0 : Int))).toNat * 512))) (N := 512) (e := 5) rfl rfl (by kernel_rfl) rfl (by kernel_rfl) (by kernel_rfl) (by kernel_rfl) ?_
      exact ls_fin s0 _ (congrArg (fun z => upd z 60 _) hF.symm) ⟨rfl, rfl⟩ (sub_nil _)
    obtain ⟨s27_7, hs27_7⟩ := exv (.slice A1 l1.length c1)
    refine have_opa disk_Disk_Crash.tab25 7 7 (fun sp => sp 7 = s27_7) (fun sp on hA hon => ?_) (fun ops27_7 => ?_)
    · refine ⟨fun o ho vs Rs f' S' w hp hf hx hS hR hs => ?_⟩
      obtain rfl := Option.some.inj ho
      exact opv (.slice A1 l1.length c1) hA hs27_7 hon (fr_next (rfl) ((hx 1 (by kernel_rfl)).trans (by kernel_rfl : (_ : Value) = .slice A1 l1.length c1)))
    obtain ⟨s27_8, hs27_8⟩ := exv (.int .i64 x39_3)
    refine have_opa disk_Disk_Crash.tab25 7 8 (fun sp => sp 8 = s27_8) (fun sp on hA hon => ?_) (fun ops27_8 => ?_)
    · refine ⟨fun o ho vs Rs f' S' w hp hf hx hS hR hs => ?_⟩
      obtain rfl := Option.some.inj ho
      exact opv (.int .i64 x39_3) hA hs27_8 hon (fr_next (rfl) ((hx 9 (by kernel_rfl)).trans (by kernel_rfl : (_ : Value) = .int .i64 x39_3)))
    obtain ⟨q31, H⟩ := ite_need H
    obtain ⟨ad32, hA33⟩ := ido_at (T := (Ec.int 3 .i64)) (l := l1) (i := x39_3) R1 q19 q31
    obtain ⟨s27_9, hs27_9⟩ := exv (.pointer (some (ad32.add ((x39_3).toNat * 1))))
    refine have_opa disk_Disk_Crash.tab25 7 9 (fun sp => sp 9 = s27_9 ∧ sp 7 = s27_7 ∧ sp 8 = s27_8) (fun sp on hA hon => ?_) (fun ops27_9 => ?_)
    · refine ⟨fun o ho vs Rs f' S' w hp hf hx hS hR hs => ?_⟩
      obtain rfl := Option.some.inj ho
      obtain ⟨hv7, hR7⟩ := (spe hA.2.1 hs27_7 (hp 7 (by kernel_rfl)))
      obtain ⟨hv8, hR8⟩ := (spe hA.2.2 hs27_8 (hp 8 (by kernel_rfl)))
      rw [hA.1, hs27_9]
      refine wn hon ?_
      have hF := fr_next (fr_next (rfl) ((hf 7 61 (by kernel_rfl) rfl).trans hv7)) ((hf 8 62 (by kernel_rfl) rfl).trans hv8)
      refine ls_fr hF ?_
      refine ls_idxv (Ec.int 3 .i64) (A := A1) (c := c1) (l := l1) (k := .i64) (i := x39_3) (z := 1) (ad := ad32) rfl rfl (by kernel_rfl) hA33 rfl (by kernel_rfl) (by kernel_rfl) (by kernel_rfl) (by kernel_rfl) q19 q31 ?_
      exact ls_fin s0 _ (congrArg (fun z => upd z 63 _) hF.symm) ⟨rfl, rfl⟩ (sub_nil _)
    obtain ⟨s27_10, hs27_10⟩ := exv (.int .i64 ((l1).getD (x39_3).toNat (0 : Int)))
    refine have_opa disk_Disk_Crash.tab25 7 10 (fun sp => sp 10 = s27_10 ∧ sp 9 = s27_9) (fun sp on hA hon => ?_) (fun ops27_10 => ?_)
    · refine ⟨fun o ho vs Rs f' S' w hp hf hx hS hR hs => ?_⟩
      obtain rfl := Option.some.inj ho
      obtain ⟨hv9, hR9⟩ := (spe hA.2 hs27_9 (hp 9 (by kernel_rfl)))
      rw [hA.1, hs27_10]
      refine wn hon ?_
      have hF := fr_next (rfl) ((hf 9 63 (by kernel_rfl) rfl).trans hv9)
      refine ls_fr hF ?_
      refine ls_load (a0 := (ad32.add ((x39_3).toNat * 1))) (v := .int .i64 ((l1).getD (x39_3).toNat (0 : Int))) (de := (TypeDesc.int .i64)) rfl rfl (by kernel_rfl) rfl (by kernel_rfl) (by kernel_rfl) (by kernel_rfl) (fun w1 hs1 => (Rd.step (hs.old R1) hs1.below.bw).at hA33 (em_sub (Ec.int 3 .i64) l1 (i := (x39_3).toNat) (by have h0 : (0 : Int) ≤ x39_3 := q19; have h1 : x39_3 < (l1.length : Int) := q31; omega))) ?_
      exact ls_fin s0 _ (congrArg (fun z => upd z 64 _) hF.symm) ⟨rfl, rfl⟩ (sub_nil _)
    obtain ⟨y34, hy35, H⟩ := lt_some H
    obtain ⟨s27_11, hs27_11⟩ := exv (.int .i64 y34)
    refine have_opa disk_Disk_Crash.tab25 7 11 (fun sp => sp 11 = s27_11 ∧ sp 10 = s27_10) (fun sp on hA hon => ?_) (fun ops27_11 => ?_)
    · refine ⟨fun o ho vs Rs f' S' w hp hf hx hS hR hs => ?_⟩
      obtain rfl := Option.some.inj ho
      obtain ⟨hv10, hR10⟩ := (spe hA.2 hs27_10 (hp 10 (by kernel_rfl)))
      rw [hA.1, hs27_11]
      refine wn hon ?_
      have hF := fr_next (rfl) ((hf 10 64 (by kernel_rfl) rfl).trans hv10)
      refine ls_fr hF ?_
      refine lv (.int .i64 (if ((l1).getD (x39_3).toNat (0 : Int)) < (0 : Int) then (0 : Int) else ((l1).getD (x39_3).toNat (0 : Int)))) ?_
      refine ls_ren 65 (v := .int .i64 (if ((l1).getD (x39_3).toNat (0 : Int)) < (0 : Int) then (0 : Int) else ((l1).getD (x39_3).toNat (0 : Int)))) (v' := .int .i64 y34) (by kernel_rfl) (by rw [hy35]) ?_
      exact ls_fin s0 _ ((upd_upd _ _ _ _).trans (congrArg (fun z => upd z 65 _) hF.symm)) ⟨rfl, rfl⟩ (sub_nil _)
    obtain ⟨y36, hy37, H⟩ := lt_some H
    obtain ⟨s27_12, hs27_12⟩ := exv (.int .i64 y36)
    refine have_opa disk_Disk_Crash.tab25 7 12 (fun sp => sp 12 = s27_12 ∧ sp 11 = s27_11) (fun sp on hA hon => ?_) (fun ops27_12 => ?_)
    · refine ⟨fun o ho vs Rs f' S' w hp hf hx hS hR hs => ?_⟩
      obtain rfl := Option.some.inj ho
      obtain ⟨hv11, hR11⟩ := (spe hA.2 hs27_11 (hp 11 (by kernel_rfl)))
      rw [hA.1, hs27_12]
      refine wn hon ?_
      have hF := fr_next (rfl) ((hf 11 65 (by kernel_rfl) rfl).trans hv11)
      refine ls_fr hF ?_
      refine lv (.int .i64 (if (512 : Int) < y34 then (512 : Int) else y34)) ?_
      refine ls_ren 66 (v := .int .i64 (if (512 : Int) < y34 then (512 : Int) else y34)) (v' := .int .i64 y36) (by kernel_rfl) (by rw [hy37]) ?_
      exact ls_fin s0 _ ((upd_upd _ _ _ _).trans (congrArg (fun z => upd z 66 _) hF.symm)) ⟨rfl, rfl⟩ (sub_nil _)
    obtain ⟨q38, H⟩ := ite_need H
    obtain ⟨q39, H⟩ := ite_need H
    obtain ⟨xl44, hy45, H⟩ := lt_some H
    have hz48 : (y36).toNat ≤ 512 := by omega
    have hz47 : (y36).toNat ≤ ((mget ((y16).getD (x39_3).toNat (0 : Int)) w0_1.1).getD (vrep 512 (0 : Int))).1.length := by rw [((mget ((y16).getD (x39_3).toNat (0 : Int)) w0_1.1).getD (vrep 512 (0 : Int))).2]; exact hz48
    obtain ⟨xA40, xc41, he46, xC43, xR42⟩ := cutr_at (A := (some ⟨g24, 0, none⟩)) (c := 512) (l := ((mget ((y16).getD (x39_3).toNat (0 : Int)) w0_1.1).getD (vrep 512 (0 : Int))).1) (Ec.int 5 .u8) 0 (y36).toNat (Nat.zero_le _) hz47 (Nat.le_of_eq ((mget ((y16).getD (x39_3).toNat (0 : Int)) w0_1.1).getD (vrep 512 (0 : Int))).2) (m := xl44) (by rw [← hy45] <;> simp) (z := 1) rfl
    obtain ⟨s27_13, hs27_13⟩ := exv (.slice xA40 xl44.length xc41)
    refine have_opa disk_Disk_Crash.tab25 7 13 (fun sp => sp 13 = s27_13 ∧ sp 12 = s27_12) (fun sp on hA hon => ?_) (fun ops27_13 => ?_)
    · refine ⟨fun o ho vs Rs f' S' w hp hf hx hS hR hs => ?_⟩
      obtain rfl := Option.some.inj ho
      obtain ⟨hv12, hR12⟩ := (spe hA.2 hs27_12 (hp 12 (by kernel_rfl)))
      rw [hA.1, hs27_13]
      refine wn hon ?_
      have hF := fr_next (fr_next (rfl) ((hx 11 (by kernel_rfl)).trans (by kernel_rfl : (_ : Value) = .pointer (some ⟨g24, 0, none⟩)))) ((hf 12 66 (by kernel_rfl) rfl).trans hv12)
      refine ls_fr hF ?_
      refine ls_acut (z := 1) (ad := ⟨g24, 0, none⟩) (N := 512) (b := (y36).toNat) (e := 5) (kh := .i64) rfl rfl (by kernel_rfl) rfl (by kernel_rfl) (by rw [Int.toNat_of_nonneg (by first | assumption | omega)]; kernel_rfl) (by kernel_rfl) (by kernel_rfl) hz48 ?_
      refine ls_ren 67 (v := .slice (some ⟨g24, 0, none⟩) (y36).toNat 512) (v' := .slice xA40 xl44.length xc41) (by kernel_rfl) ((acut_he _ _ _ 1).trans he46) ?_
      exact ls_fin s0 _ ((upd_upd _ _ _ _).trans (congrArg (fun z => upd z 67 _) hF.symm)) ⟨rfl, rfl⟩ (sub_nil _)
    refine cs_draw disk_Disk_Crash.tab25 14 7 (spl [s27_0, s27_1, s27_2, s27_3, s27_4, s27_5, s27_6, s27_7, s27_8, s27_9, s27_10, s27_11, s27_12, s27_13]) (onl [true, true, true, true, true, true, true, true, true, true, true, true, true, true]) (by kernel_rfl) (by kernel_rfl) (by kernel_rfl) (by kernel_rfl) (rs := [_]) rfl (by kernel_rfl) (by kernel_rfl) (all_snoc (all_snoc (all_snoc (all_snoc (all_snoc (all_snoc (all_snoc (all_snoc (all_snoc (all_snoc (all_snoc (all_snoc (all_snoc (all_snoc (all_nil) (ops27_0 _ _ rfl rfl)) (ops27_1 _ _ ⟨rfl, rfl⟩ rfl)) (ops27_2 _ _ ⟨rfl, rfl⟩ rfl)) (ops27_3 _ _ ⟨rfl, rfl⟩ rfl)) (ops27_4 _ _ rfl rfl)) (ops27_5 _ _ ⟨rfl, rfl, rfl⟩ rfl)) (ops27_6 _ _ ⟨rfl, rfl⟩ rfl)) (ops27_7 _ _ rfl rfl)) (ops27_8 _ _ rfl rfl)) (ops27_9 _ _ ⟨rfl, rfl, rfl⟩ rfl)) (ops27_10 _ _ ⟨rfl, rfl⟩ rfl)) (ops27_11 _ _ ⟨rfl, rfl⟩ rfl)) (ops27_12 _ _ ⟨rfl, rfl⟩ rfl)) (ops27_13 _ _ ⟨rfl, rfl⟩ rfl)) ?_
    intro vs Rs f' S' hp hf hx hS hR
    obtain ⟨hv6, hR6⟩ := (spe rfl hs27_6 (hp 6 (by kernel_rfl)))
    obtain ⟨hv13, hR13⟩ := (spe rfl hs27_13 (hp 13 (by kernel_rfl)))
    refine ls_fr (F := upd (upd (upd (upd (upd (upd (upd (upd f' 0 (.pointer (some ⟨pg0, 0, none⟩))) 1 (.slice A1 l1.length c1)) 6 (.pointer (some ⟨g9, 0, none⟩))) 37 (.slice A7_2 y16.length c7_2)) 38 (.int .i64 (y16.length : Int))) 39 (.int .i64 x39_3)) 60 (.slice (some ((⟨gl7, 0, none⟩ : Addr).add ((((y16).getD (x39_3).toNat (0 : Int))).toNat * 512))) 512 512)) 67 (.slice xA40 xl44.length xc41)) (fr_next (fr_next (fr_next (fr_next (fr_next (fr_next (fr_next (fr_next (rfl) ((hx 0 (by kernel_rfl)).trans (by kernel_rfl : (_ : Value) = .pointer (some ⟨pg0, 0, none⟩)))) ((hx 1 (by kernel_rfl)).trans (by kernel_rfl : (_ : Value) = .slice A1 l1.length c1))) ((hx 6 (by kernel_rfl)).trans (by kernel_rfl : (_ : Value) = .pointer (some ⟨g9, 0, none⟩)))) ((hx 37 (by kernel_rfl)).trans (by kernel_rfl : (_ : Value) = .slice A7_2 y16.length c7_2))) ((hx 38 (by kernel_rfl)).trans (by kernel_rfl : (_ : Value) = .int .i64 (y16.length : Int)))) ((hx 39 (by kernel_rfl)).trans (by kernel_rfl : (_ : Value) = .int .i64 x39_3))) ((hf 6 60 (by kernel_rfl) rfl).trans hv6)) ((hf 13 67 (by kernel_rfl) rfl).trans hv13)) ?_
    refine ls_sub (sput (sput (sput (sput (sput (sput s0 0 (some (Ck.var 42 pg0 (([Value.slice (some ⟨gl0_0, 0, none⟩) n0_0 c0_0] ++ ([Value.map (some r0_1)] ++ ([Value.bool v0.2.2.1] ++ ([Value.int .i64 v0.2.2.2.1] ++ [Value.bool v0.2.2.2.2])))))))) 1 (some (Ck.mr T56 r0_1 gl0_0 c0_0 n0_0 w0_1))) 3 (some (Ck.mr T56 g5 gl7 x4.2 t2.length m3_3))) 4 (some (Ck.var 42 g9 (([Value.slice (some ⟨gl7, 0, none⟩) t2.length x4.2] ++ ([Value.map (some g5)] ++ ([Value.bool false] ++ ([Value.int .i64 (0 : Int)] ++ [Value.bool false])))))))) 5 (some (Ck.sl (Ec.int 3 .i64) A7_2 c7_2 y16))) 6 (some (Ck.var 56 g24 (en (Value.int .u8) ((mget ((y16).getD (x39_3).toNat (0 : Int)) w0_1.1).getD (vrep 512 (0 : Int))).1)))) (sub_put ((hS 6 (by kernel_rfl)).trans (by exact rfl)) (sub_put ((hS 5 (by kernel_rfl)).trans (by exact rfl)) (sub_put ((hS 4 (by kernel_rfl)).trans (by exact rfl)) (sub_put ((hS 3 (by kernel_rfl)).trans (by exact rfl)) (sub_put ((hS 1 (by kernel_rfl)).trans (by exact rfl)) (sub_put ((hS 0 (by kernel_rfl)).trans (by exact rfl)) (sub_nil _))))))) ?_
    obtain ⟨y50, hy51, H⟩ := lt_some H
    refine ls_mrcopy (T := T56) (m := m3_3) (Value.int .u8) (off := ((((y16).getD (x39_3).toNat (0 : Int))).toNat * 512)) (N := 512) (cx := 512) (B := xA40) (cb := xc41) (l := xl44) (v := ((m3_3.2).getD (((y16).getD (x39_3).toNat (0 : Int))).toNat (vrep 512 (0 : Int)))) (l' := (m3_3.2.set (((y16).getD (x39_3).toNat (0 : Int))).toNat (vcopy ((m3_3.2).getD (((y16).getD (x39_3).toNat (0 : Int))).toNat (vrep 512 (0 : Int))) xl44))) (e := 5) 3 rfl rfl (by kernel_rfl) (by kernel_rfl) (by exact rfl) (by kernel_rfl) (by kernel_rfl) (fun w hs => Rd.toen (t := 5) (xR42.1 _ (Rd.ofen (t := 5) (hs.vars (k := 6) (by exact rfl) (Sub4.all _))))) (fun _ => rfl) (em_sub T56 m3_3.2 (i := (((y16).getD (x39_3).toNat (0 : Int))).toNat) (by have h0 : (0 : Int) ≤ ((y16).getD (x39_3).toNat (0 : Int)) := q29; have h1 : ((y16).getD (x39_3).toNat (0 : Int)) < (m3_3.2.length : Int) := q30; omega)) (splc_em T56 m3_3.2 (vcopy ((m3_3.2).getD (((y16).getD (x39_3).toNat (0 : Int))).toNat (vrep 512 (0 : Int))) xl44) (i := (((y16).getD (x39_3).toNat (0 : Int))).toNat) (by have h0 : (0 : Int) ≤ ((y16).getD (x39_3).toNat (0 : Int)) := q29; have h1 : ((y16).getD (x39_3).toNat (0 : Int)) < (m3_3.2.length : Int) := q30; omega)) (by rw [List.length_set]) rfl (by kernel_rfl) ?_
    rw [hy51]
    refine ls_end ?_
    refine qn_block ?_
    refine qn_then ?_
    refine cs_region (l := [_, _]) ?_
    refine lv (.int .i64 (IntKind.wrap .i64 (x39_3 + (1 : Int)))) ?_
    refine lv (.int .i64 (IntKind.wrap .i64 (x39_3 + (1 : Int)))) ?_
    refine ls_end ?_
    refine qn_again k3 (sput (sput (sput (sput (sput s0 0 (some (Ck.var 42 pg0 (([Value.slice (some ⟨gl0_0, 0, none⟩) n0_0 c0_0] ++ ([Value.map (some r0_1)] ++ ([Value.bool v0.2.2.1] ++ ([Value.int .i64 v0.2.2.2.1] ++ [Value.bool v0.2.2.2.2])))))))) 1 (some (Ck.mr T56 r0_1 gl0_0 c0_0 n0_0 w0_1))) 3 (some (Ck.mr T56 g5 gl7 x4.2 t2.length (m3_3.1, y50)))) 4 (some (Ck.var 42 g9 (([Value.slice (some ⟨gl7, 0, none⟩) t2.length x4.2] ++ ([Value.map (some g5)] ++ ([Value.bool false] ++ ([Value.int .i64 (0 : Int)] ++ [Value.bool false])))))))) 5 (some (Ck.sl (Ec.int 3 .i64) A7_2 c7_2 y16))) (Nat.le_refl _) ⟨_, (IntKind.wrap .i64 (x39_3 + (1 : Int))), (m3_3.1, y50), fr_next (fr_next (fr_next (fr_next (fr_next (fr_next (rfl) (by kernel_rfl)) (by kernel_rfl)) (by kernel_rfl)) (by kernel_rfl)) (by kernel_rfl)) (by kernel_rfl), rfl, H⟩ (sub_put (by exact rfl) (sub_put (by exact rfl) (sub_put (by exact rfl) (sub_put (by exact rfl) (sub_put (by exact rfl) (sub_nil _))))))
  intro p12 hp13
  have hin14 := mrks_in H hp13
  replace H := mrks_step H hp13
  refine lv (.bool true) ?_
  refine ls_end ?_
  refine qn_then ?_
  refine cs_seq ?_
  refine cs_true (by kernel_rfl) ?_
  refine cs_skip' ?_
  refine qn_then ?_
  refine cs_block ?_
  refine cs_seq ?_
  refine cs_region (l := [_, _, _]) ?_
  refine ls_mkentry (T := T56) (gi := g10) (left := (mdel p12.1 lf1_2)) (m := w0_1) (p := p12) 1 rfl rfl (by kernel_rfl) rfl (by kernel_rfl) (by exact rfl) ?_
  refine ls_mkfree 1 (by exact rfl) ?_
  refine lv (.int .i64 p12.1) ?_
  refine lv (.int .i64 p12.1) ?_
  refine ls_end ?_
  refine qn_then ?_
  refine cs_region (l := [_, _, _, _, _]) ?_
  refine lv (.slice A7_2 l7_2.length c7_2) ?_
  refine lv (.int .i64 p12.1) ?_
  refine ls_lit (Ec.int 3 .i64) 6 rfl rfl (by kernel_rfl) ([p12.1]) (by exact of_decide_eq_true (by kernel_rfl)) (fun w => by kernel_rfl) ?_
  intro g53
  refine ls_app (Ec.int 3 .i64) (A := A7_2) (c := c7_2) (B := (some ⟨g53, 0, none⟩)) (cb := [p12.1].length) (z := (Value.int .i64 0)) (l := l7_2) (m := [p12.1]) (bytes := 8) 5 rfl rfl (by kernel_rfl) rfl (by kernel_rfl) (by exact rfl) (by kernel_rfl) (fun w hs => (hs.rd (k := 6) (by exact rfl))) (by kernel_rfl) (by kernel_rfl) rfl (by decide) (hin14 p12.1) ?_
  intro xA54 xc55
  refine lv (.slice xA54 (l7_2 ++ [p12.1]).length xc55) ?_
  refine ls_end ?_
  refine qn_block ?_
  refine qn_again k2 (sput (sput (sput (sput (sput s0 0 (some (Ck.var 42 pg0 (([Value.slice (some ⟨gl0_0, 0, none⟩) n0_0 c0_0] ++ ([Value.map (some r0_1)] ++ ([Value.bool v0.2.2.1] ++ ([Value.int .i64 v0.2.2.2.1] ++ [Value.bool v0.2.2.2.2])))))))) 1 (some (Ck.mrk T56 r0_1 gl0_0 c0_0 n0_0 g10 (mdel p12.1 lf1_2) none w0_1))) 3 (some (Ck.mr T56 g5 gl7 x4.2 t2.length (([] : List (Int × (Vc Int 512))), t2)))) 4 (some (Ck.var 42 g9 (([Value.slice (some ⟨gl7, 0, none⟩) t2.length x4.2] ++ ([Value.map (some g5)] ++ ([Value.bool false] ++ ([Value.int .i64 (0 : Int)] ++ [Value.bool false])))))))) 5 (some (Ck.sl (Ec.int 3 .i64) xA54 xc55 (l7_2 ++ [p12.1])))) (Nat.le_refl _) ⟨_, xA54, xc55, (l7_2 ++ [p12.1]), (mdel p12.1 lf1_2), fr_next (fr_next (fr_next (fr_next (fr_next (rfl) (by kernel_rfl)) (by kernel_rfl)) (by kernel_rfl)) (by kernel_rfl)) (by kernel_rfl), rfl, H⟩ (sub_put (by exact rfl) (sub_put (by exact rfl) (sub_put (by exact rfl) (sub_put (by exact rfl) (sub_put (by exact rfl) (sub_nil _))))))

end Go.Proofs.Ytbidihabicgedaa.G
