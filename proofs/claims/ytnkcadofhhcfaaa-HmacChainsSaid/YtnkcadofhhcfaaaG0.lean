/- Printed by a program of this session (sz.py): plain functions, and walks that show that the code comes to them; no condition. -/
import Derived.Test.YtnkcadofhhcfaaaProg
import Derived.Test.YtnkcadofhhcfaaaTy
set_option linter.unusedVariables false
set_option linter.unusedSimpArgs false
namespace Go.Proofs.Ytnkcadofhhcfaaa.G
open Go Go.RowKit Go.Proofs.Ytnkcadofhhcfaaa.Sx

/-! ### shadowbox/sha.Begin: function 35 -/
def sha_Begin.cst0 : Vc Int 8 := ⟨[(1779033703 : Int), (3144134277 : Int), (1013904242 : Int), (2773480762 : Int), (1359893119 : Int), (2600822924 : Int), (528734635 : Int), (1541459225 : Int)], rfl⟩
def sha_Begin.f (k : Nat) : Option (((Vc Int 8) × Int)) :=
  some (sha_Begin.cst0, (0 : Int))
set_option maxRecDepth 100000 in
set_option maxHeartbeats 4000000 in
theorem sha_Begin.calls (k : Nat)  (r : ((Vc Int 8) × Int)) (b : Bs) (hs0 : St b (stl []) b.w) (H : sha_Begin.f k = some r) :
    Calls Try.prog 35 #[] b.w fun e w' => ∃ x : Unit, e = .returned (.agg ⟨(en (Value.int .u32) r.1.1 ++ [Value.int .u64 r.2])⟩) ∧ St b (stl []) w' := by
  unfold sha_Begin.f at H
  refine enterb (n := 3) Try.func35 rfl (by kernel_rfl) (by kernel_rfl) hs0 ?_
  refine cs_sub (s0) (sub_nil _) ?_
  refine cs_seq ?_
  refine cs_region (l := [_]) ?_
  refine ls_new rfl rfl (by kernel_rfl) 0 (fun g => .pointer (some ⟨g, 0, none⟩)) (.cells ⟨(en (Value.int .u32) (vrep 8 (0 : Int)).1 ++ [Value.int .u64 (0 : Int)])⟩ 52) (fun w => by kernel_rfl) ?_
  intro g1
  refine ls_end ?_
  refine qn_then ?_
  refine cs_seq ?_
  refine cs_region (l := [_, _, _]) ?_
  refine ls_val (v := .agg ⟨en (Value.int .u32) sha_Begin.cst0.1⟩) rfl rfl (by kernel_rfl) (fun w => by kernel_rfl) ?_
  refine ls_build (ps := [(0, .agg ⟨en (Value.int .u32) sha_Begin.cst0.1⟩)]) (pl := #[(0, 8), (8, 1)]) (zv := .agg ⟨(en (Value.int .u32) (vrep 8 (0 : Int)).1 ++ [Value.int .u64 (0 : Int)])⟩) (zc := (en (Value.int .u32) (vrep 8 (0 : Int)).1 ++ [Value.int .u64 (0 : Int)])) (r := (en (Value.int .u32) sha_Begin.cst0.1 ++ [Value.int .u64 (0 : Int)])) rfl rfl (by kernel_rfl) rfl (by kernel_rfl) (by kernel_rfl) (fun w => by kernel_rfl) (fun w => by kernel_rfl) rfl (fill_cons (vs := en (Value.int .u32) sha_Begin.cst0.1) (cs' := (en (Value.int .u32) sha_Begin.cst0.1 ++ [Value.int .u64 (0 : Int)])) (off := 0) (size := 8) rfl (by kernel_rfl) (len_en _ sha_Begin.cst0) (le_of_len (len_app (len_en _ (vrep 8 (0 : Int))) (len1 _)) (by decide)) (splc_in (Sub4.all _) (splc_head (len_eq (len_en _ sha_Begin.cst0) (len_en _ (vrep 8 (0 : Int))))) (splc_all (len_eq (len_app (len_en _ sha_Begin.cst0) (len1 _)) (len_app (len_en _ (vrep 8 (0 : Int))) (len1 _)))) (hl_of (Sub4.head _ _) (len_eq (len_en _ sha_Begin.cst0) (len_en _ (vrep 8 (0 : Int)))))) fill_nil) ?_
  refine ls_storec (g := g1) (off := 0) (v := .agg ⟨(en (Value.int .u32) sha_Begin.cst0.1 ++ [Value.int .u64 (0 : Int)])⟩) (vs := (en (Value.int .u32) sha_Begin.cst0.1 ++ [Value.int .u64 (0 : Int)])) (cs := (en (Value.int .u32) (vrep 8 (0 : Int)).1 ++ [Value.int .u64 (0 : Int)])) (ty := 52) 0 rfl rfl rfl (by kernel_rfl) (by kernel_rfl) (by kernel_rfl) (by exact rfl) (by kernel_rfl) (len_app (len_en _ sha_Begin.cst0) (len1 _)) (one_app (one_en (fun _ => rfl) _) (one_cons rfl one_nil)) (hl_of (Sub4.all _) (len_eq (len_app (len_en _ sha_Begin.cst0) (len1 _)) (len_app (len_en _ (vrep 8 (0 : Int))) (len1 _)))) (cs' := (en (Value.int .u32) sha_Begin.cst0.1 ++ [Value.int .u64 (0 : Int)])) (splc_all (len_eq (len_app (len_en _ sha_Begin.cst0) (len1 _)) (len_app (len_en _ (vrep 8 (0 : Int))) (len1 _)))) ?_
  refine ls_end ?_
  refine qn_then ?_
  refine cs_ret' ?_
  obtain rfl := Option.some.inj H
  refine qr_res (rs := [_]) rfl (fun w' hs => ⟨[.agg ⟨(en (Value.int .u32) sha_Begin.cst0.1 ++ [Value.int .u64 (0 : Int)])⟩], (.cell (by kernel_rfl) (run_cellres (by kernel_rfl) (by kernel_rfl) (len_app (len_en _ sha_Begin.cst0) (len1 _)) (hs.holds 0 _ (by exact rfl))) (.nil)), (), rfl, hs.pick (ts := []) (cs := []) trivial (by decide)⟩)

/-! ### math/bits.RotateLeft32: function 52 -/
def bits_RotateLeft32.f (k : Nat) (a0 : Int) (a1 : Int) : Option (Int) :=
  lt (bits .and .u64 (IntKind.wrap .u64 a1) (31 : Int)) fun y1 => (if 0 ≤ y1 then (if 0 ≤ IntKind.wrap .u64 ((32 : Int) - y1) then lt (shrv .u32 a0 (IntKind.wrap .u64 ((32 : Int) - y1))) fun y5 => some (bits .or .u32 (shlv .u32 a0 y1) y5) else none) else none)
set_option maxRecDepth 100000 in
set_option maxHeartbeats 4000000 in
theorem bits_RotateLeft32.calls (k : Nat) (a0 : Int) (a1 : Int) (r : Int) (b : Bs) (hs0 : St b (stl []) b.w) (H : bits_RotateLeft32.f k a0 a1 = some r) :
    Calls Try.prog 52 #[.int .u32 a0, .int .i64 a1] b.w fun e w' => ∃ x : Unit, e = .returned (.int .u32 r) ∧ St b (stl []) w' := by
  unfold bits_RotateLeft32.f at H
  refine enterb (n := 17) Try.func52 rfl (by kernel_rfl) (by kernel_rfl) hs0 ?_
  refine cs_sub (s0) (sub_nil _) ?_
  refine cs_seq ?_
  refine cs_region (l := [_]) ?_
  refine ls_val (v := .int .u32 (0 : Int)) rfl rfl (by kernel_rfl) (fun w => by kernel_rfl) ?_
  refine ls_end ?_
  refine qn_then ?_
  refine cs_seq ?_
  refine cs_region (l := [_, _, _, _]) ?_
  refine ls_val (v := .int .i64 a1) rfl rfl (by kernel_rfl) (fun w => by kernel_rfl) ?_
  refine ls_val (v := .int .u64 (IntKind.wrap .u64 a1)) rfl rfl (by kernel_rfl) (fun w => by kernel_rfl) ?_
  obtain ⟨y1, hy2, H⟩ := lt_some H
  refine ls_val (v := .int .u64 (bits .and .u64 (IntKind.wrap .u64 a1) (31 : Int))) rfl rfl (by kernel_rfl) (fun w => by kernel_rfl) ?_
  refine ls_ren 8 (v := .int .u64 (bits .and .u64 (IntKind.wrap .u64 a1) (31 : Int))) (v' := .int .u64 y1) (by kernel_rfl) (by rw [hy2]) ?_
  refine ls_val (v := .int .u64 y1) rfl rfl (by kernel_rfl) (fun w => by kernel_rfl) ?_
  refine ls_end ?_
  refine qn_then ?_
  refine cs_seq ?_
  refine cs_region (l := [_, _, _, _, _, _, _, _, _]) ?_
  refine ls_val (v := .int .u32 a0) rfl rfl (by kernel_rfl) (fun w => by kernel_rfl) ?_
  refine ls_val (v := .int .u64 y1) rfl rfl (by kernel_rfl) (fun w => by kernel_rfl) ?_
  obtain ⟨q3, H⟩ := ite_need H
  refine ls_shiftl (k := .u32) (yk := .u64) (x := a0) (y := y1) rfl rfl (by kernel_rfl) (fun w => by kernel_rfl) q3 ?_
  refine ls_val (v := .int .u32 a0) rfl rfl (by kernel_rfl) (fun w => by kernel_rfl) ?_
  refine ls_val (v := .int .u64 y1) rfl rfl (by kernel_rfl) (fun w => by kernel_rfl) ?_
  refine ls_val (v := .int .u64 (IntKind.wrap .u64 ((32 : Int) - y1))) rfl rfl (by kernel_rfl) (fun w => by kernel_rfl) ?_
  obtain ⟨q4, H⟩ := ite_need H
  obtain ⟨y5, hy6, H⟩ := lt_some H
  refine ls_shiftr (k := .u32) (yk := .u64) (x := a0) (y := (IntKind.wrap .u64 ((32 : Int) - y1))) rfl rfl (by kernel_rfl) (fun w => by kernel_rfl) q4 ?_
  refine ls_ren 15 (v := .int .u32 (shrv .u32 a0 (IntKind.wrap .u64 ((32 : Int) - y1)))) (v' := .int .u32 y5) (by kernel_rfl) (by rw [hy6]) ?_
  refine ls_val (v := .int .u32 (bits .or .u32 (shlv .u32 a0 y1) y5)) rfl rfl (by kernel_rfl) (fun w => by kernel_rfl) ?_
  refine ls_val (v := .int .u32 (bits .or .u32 (shlv .u32 a0 y1) y5)) rfl rfl (by kernel_rfl) (fun w => by kernel_rfl) ?_
  refine ls_end ?_
  refine qn_then ?_
  refine cs_ret' ?_
  obtain rfl := Option.some.inj H
  refine qr_res (rs := [_]) rfl (fun w' hs => ⟨[.int .u32 (bits .or .u32 (shlv .u32 a0 y1) y5)], (res_tmp (by kernel_rfl) (.nil)), (), rfl, hs.pick (ts := []) (cs := []) trivial (by decide)⟩)

/-! ### shadowbox/sha.down: function 47 -/
def sha_down.f (k : Nat) (a0 : Int) (a1 : Int) : Option (Int) :=
  (bits_RotateLeft32.f k a0 (IntKind.wrap .i64 (0 - a1))).bind fun t1 => some t1
set_option maxRecDepth 100000 in
set_option maxHeartbeats 4000000 in
theorem sha_down.calls (k : Nat) (a0 : Int) (a1 : Int) (r : Int) (b : Bs) (hs0 : St b (stl []) b.w) (H : sha_down.f k a0 a1 = some r) :
    Calls Try.prog 47 #[.int .u32 a0, .int .i64 a1] b.w fun e w' => ∃ x : Unit, e = .returned (.int .u32 r) ∧ St b (stl []) w' := by
  unfold sha_down.f at H
  refine enterb (n := 9) Try.func47 rfl (by kernel_rfl) (by kernel_rfl) hs0 ?_
  refine cs_sub (s0) (sub_nil _) ?_
  refine cs_seq ?_
  refine cs_region (l := [_]) ?_
  refine ls_val (v := .int .u32 (0 : Int)) rfl rfl (by kernel_rfl) (fun w => by kernel_rfl) ?_
  refine ls_end ?_
  refine qn_then ?_
  refine cs_seq ?_
  refine cs_region (l := [_, _, _, _, _]) ?_
  refine ls_val (v := .int .u32 a0) rfl rfl (by kernel_rfl) (fun w => by kernel_rfl) ?_
  refine ls_val (v := .int .i64 a1) rfl rfl (by kernel_rfl) (fun w => by kernel_rfl) ?_
  refine ls_val (v := .int .i64 (IntKind.wrap .i64 (0 - a1))) rfl rfl (by kernel_rfl) (fun w => by kernel_rfl) ?_
  obtain ⟨t1, hc2, H⟩ := bind_some H
  refine ls_callb (fid := 52) (vals := #[.int .u32 a0, .int .i64 (IntKind.wrap .i64 (0 - a1))]) (X := Unit) (fun x => .int .u32 t1) (fun x => stl []) [] [] [] [] 0 rfl rfl (by kernel_rfl) (fun w => by kernel_rfl) trivial trivial (by decide) (fun w hs hb => bits_RotateLeft32.calls k a0 (IntKind.wrap .i64 (0 - a1)) t1 (lent b w [] []) hb  hc2) ?_
  intro x3
  refine ls_val (v := .int .u32 t1) rfl rfl (by kernel_rfl) (fun w => by kernel_rfl) ?_
  refine ls_end ?_
  refine qn_then ?_
  refine cs_ret' ?_
  obtain rfl := Option.some.inj H
  refine qr_res (rs := [_]) rfl (fun w' hs => ⟨[.int .u32 t1], (res_tmp (by kernel_rfl) (.nil)), (), rfl, hs.pick (ts := []) (cs := []) trivial (by decide)⟩)

/-! ### shadowbox/sha.spread: function 45 -/
def sha_spread.tab3 : List (List Nat) := [[], [0], [0, 1], [0, 1, 2], [], [4], [4, 5], [4, 5, 6], [0, 1, 2, 3], [0, 1, 2, 3, 4, 5, 6, 7, 8]]
def sha_spread.tab13 : List (List Nat) := [[], [], [1], [], [1, 2, 3], [1, 2, 3, 4], [], [6], [1, 2, 3, 4, 5, 6, 7], [], [9], [9, 10], [9, 10, 11], [1, 2, 3, 4, 5, 6, 7, 8, 9, 10, 11, 12], [], [1, 2, 3, 4, 14], [], [1, 2, 3, 4, 14, 15, 16], [1, 2, 3, 4, 14, 15, 16, 17], [], [19], [1, 2, 3, 4, 14, 15, 16, 17, 18, 19, 20], [1, 2, 3, 4, 5, 6, 7, 8, 9, 10, 11, 12, 13, 14, 15, 16, 17, 18, 19, 20, 21], [], [23], [23, 24], [23, 24, 25], [1, 2, 3, 4, 5, 6, 7, 8, 9, 10, 11, 12, 13, 14, 15, 16, 17, 18, 19, 20, 21, 22, 23, 24, 25, 26], [0, 1, 2, 3, 4, 5, 6, 7, 8, 9, 10, 11, 12, 13, 14, 15, 16, 17, 18, 19, 20, 21, 22, 23, 24, 25, 26, 27], [0, 1, 2, 3, 4, 5, 6, 7, 8, 9, 10, 11, 12, 13, 14, 15, 16, 17, 18, 19, 20, 21, 22, 23, 24, 25, 26, 27, 28]]
def sha_spread.jo3 (x6_2 : Int) (m2_2 : (Vc Int 64)) (k2 : Nat) (lo2 : Int → ((Vc Int 64)) → Option ((Vc Int 64))) : Option ((Vc Int 64)) := (if 0 ≤ IntKind.wrap .i64 (x6_2 - (2 : Int)) then (if IntKind.wrap .i64 (x6_2 - (2 : Int)) < (64 : Int) then lt ((m2_2.1.getD (IntKind.wrap .i64 (x6_2 - (2 : Int))).toNat (0 : Int))) fun y8 => (if 0 ≤ IntKind.wrap .i64 (x6_2 - (15 : Int)) then (if IntKind.wrap .i64 (x6_2 - (15 : Int)) < (64 : Int) then lt ((m2_2.1.getD (IntKind.wrap .i64 (x6_2 - (15 : Int))).toNat (0 : Int))) fun y12 => (sha_down.f k2 y8 (17 : Int)).bind fun t16 => (sha_down.f k2 y8 (19 : Int)).bind fun t19 => lt (bits .xor .u32 (bits .xor .u32 t16 t19) (Int.fdiv y8 1024)) fun y22 => (if 0 ≤ IntKind.wrap .i64 (x6_2 - (7 : Int)) then (if IntKind.wrap .i64 (x6_2 - (7 : Int)) < (64 : Int) then lt ((m2_2.1.getD (IntKind.wrap .i64 (x6_2 - (7 : Int))).toNat (0 : Int))) fun y26 => (sha_down.f k2 y12 (7 : Int)).bind fun t28 => (sha_down.f k2 y12 (18 : Int)).bind fun t31 => lt (bits .xor .u32 (bits .xor .u32 t28 t31) (Int.fdiv y12 8)) fun y34 => lt (IntKind.wrap .u32 ((IntKind.wrap .u32 (y22 + y26)) + y34)) fun y36 => (if 0 ≤ IntKind.wrap .i64 (x6_2 - (16 : Int)) then (if IntKind.wrap .i64 (x6_2 - (16 : Int)) < (64 : Int) then lt ((m2_2.1.getD (IntKind.wrap .i64 (x6_2 - (16 : Int))).toNat (0 : Int))) fun y40 => (if 0 ≤ x6_2 then (if x6_2 < (64 : Int) then lt (vset m2_2 (x6_2).toNat (IntKind.wrap .u32 (y36 + y40))) fun y44 => lo2 (IntKind.wrap .i64 (x6_2 + (1 : Int))) y44 else none) else none) else none) else none) else none) else none) else none) else none) else none) else none)
def sha_spread.lo2 : Nat → Int → ((Vc Int 64)) → Option ((Vc Int 64))
  | 0, _, _ => none
  | k2 + 1, x6_2, m2_2 => (if x6_2 < (64 : Int) then (sha_spread.jo3 x6_2 m2_2 k2 (sha_spread.lo2 k2)) else some m2_2)
def sha_spread.jo1 (k : Nat) (m2_1 : (Vc Int 64)) : Option ((Vc Int 64)) := sha_spread.lo2 k (16 : Int) m2_1
def sha_spread.lo4 (a0 : (Vc Int 64)) (jo1 : ((Vc Int 64)) → Option ((Vc Int 64))) : Nat → Int → ((Vc Int 64)) → Option ((Vc Int 64))
  | 0, _, _ => none
  | k4 + 1, x10_4, m2_4 => (if x10_4 < (64 : Int) then (if 0 ≤ x10_4 then lt (IntKind.wrap .i64 (Int.tdiv x10_4 (4 : Int))) fun y49 => lt (IntKind.wrap .i64 (Int.tdiv x10_4 (4 : Int))) fun y51 => (if 0 ≤ y51 then (if y51 < (64 : Int) then lt (IntKind.wrap .u32 ((m2_4.1.getD (y51).toNat (0 : Int)) * 256)) fun y55 => lt (IntKind.wrap .u32 (a0.1.getD (x10_4).toNat (0 : Int))) fun y57 => (if 0 ≤ y49 then (if y49 < (64 : Int) then lt (vset m2_4 (y49).toNat (bits .or .u32 y55 y57)) fun y61 => (sha_spread.lo4 a0 jo1 k4) (IntKind.wrap .i64 (x10_4 + (1 : Int))) y61 else none) else none) else none) else none) else none) else jo1 m2_4)
def sha_spread.f (k : Nat) (a0 : (Vc Int 64)) : Option ((Vc Int 64)) :=
  sha_spread.lo4 a0 (sha_spread.jo1 k) k (0 : Int) (vrep 64 (0 : Int))
set_option maxRecDepth 100000 in
set_option maxHeartbeats 4000000 in
theorem sha_spread.calls (k : Nat) (a0 : (Vc Int 64)) (r : (Vc Int 64)) (b : Bs) (hs0 : St b (stl []) b.w) (H : sha_spread.f k a0 = some r) :
    Calls Try.prog 45 #[.agg ⟨en (Value.int .u8) a0.1⟩] b.w fun e w' => ∃ x : Unit, e = .returned (.agg ⟨en (Value.int .u32) r.1⟩) ∧ St b (stl []) w' := by
  unfold sha_spread.f at H
  refine enterb (n := 68) Try.func45 rfl (by kernel_rfl) (by kernel_rfl) hs0 ?_
  refine cs_sub (s0) (sub_nil _) ?_
  refine cs_seq ?_
  refine cs_region (l := [_, _]) ?_
  refine ls_new rfl rfl (by kernel_rfl) 0 (fun g => .pointer (some ⟨g, 0, none⟩)) (.cells ⟨en (Value.int .u8) a0.1⟩ 39) (fun w => by kernel_rfl) ?_
  intro g1
  refine ls_new rfl rfl (by kernel_rfl) 1 (fun g => .pointer (some ⟨g, 0, none⟩)) (.cells ⟨en (Value.int .u32) (vrep 64 (0 : Int)).1⟩ 55) (fun w => by kernel_rfl) ?_
  intro g2
  refine ls_end ?_
  refine qn_then ?_
  refine cs_seq ?_
  refine cs_region (l := [_]) ?_
  refine ls_new rfl rfl (by kernel_rfl) 2 (fun g => .pointer (some ⟨g, 0, none⟩)) (.cells ⟨en (Value.int .u32) (vrep 64 (0 : Int)).1⟩ 55) (fun w => by kernel_rfl) ?_
  intro g3
  refine ls_end ?_
  refine qn_then ?_
  refine cs_cut (fun f S => ∃ (fR : Fr) (m2_1 : (Vc Int 64)), f = upd (upd fR 2 (.pointer (some ⟨g2, 0, none⟩))) 3 (.pointer (some ⟨g3, 0, none⟩)) ∧ S = sput (sput s0 1 (some (Ck.var 55 g2 (en (Value.int .u32) (vrep 64 (0 : Int)).1)))) 2 (some (Ck.var 55 g3 (en (Value.int .u32) m2_1.1))) ∧ sha_spread.jo1 k m2_1 = some r) ?_ ?_
  · skip
    refine cs_seq ?_
    refine cs_region (l := [_, _]) ?_
    refine ls_loadagg (a := ⟨g1, 0, none⟩) (sub := en (Value.int .u8) a0.1) rfl rfl (by kernel_rfl) rfl (by kernel_rfl) (by kernel_rfl) (by kernel_rfl) (len_en _ a0) (fun w hs => (hs.vars (k := 0) (by exact rfl) (Sub4.all _))) ?_
    refine ls_val (v := .int .i64 (0 : Int)) rfl rfl (by kernel_rfl) (fun w => by kernel_rfl) ?_
    refine ls_end ?_
    refine qn_then ?_
    refine cs_block ?_
    refine cs_sub (sput (sput s0 1 (some (Ck.var 55 g2 (en (Value.int .u32) (vrep 64 (0 : Int)).1)))) 2 (some (Ck.var 55 g3 (en (Value.int .u32) (vrep 64 (0 : Int)).1)))) (sub_put (by exact rfl) (sub_put (by exact rfl) (sub_nil _))) ?_
    refine cs_loop (fun kk f S => ∃ (fR : Fr) (x10_4 : Int) (m2_4 : (Vc Int 64)), f = upd (upd (upd (upd fR 2 (.pointer (some ⟨g2, 0, none⟩))) 3 (.pointer (some ⟨g3, 0, none⟩))) 9 (.agg ⟨en (Value.int .u8) a0.1⟩)) 10 (.int .i64 x10_4) ∧ S = sput (sput s0 1 (some (Ck.var 55 g2 (en (Value.int .u32) (vrep 64 (0 : Int)).1)))) 2 (some (Ck.var 55 g3 (en (Value.int .u32) m2_4.1))) ∧ sha_spread.lo4 a0 (sha_spread.jo1 k) kk x10_4 m2_4 = some r) k ?_ ?_ ?_
    · exact ⟨_, (0 : Int), (vrep 64 (0 : Int)), fr_next (fr_next (fr_next (fr_next (rfl) (by kernel_rfl)) (by kernel_rfl)) (by kernel_rfl)) (by kernel_rfl), rfl, H⟩
    · rintro f S ⟨fr4, x10_4, m2_4, rfl, rfl, H⟩; cases H
    · rintro k4 f S ⟨fr4, x10_4, m2_4, rfl, rfl, H⟩
      replace H : ((if x10_4 < (64 : Int) then (if 0 ≤ x10_4 then lt (IntKind.wrap .i64 (Int.tdiv x10_4 (4 : Int))) fun y49 => lt (IntKind.wrap .i64 (Int.tdiv x10_4 (4 : Int))) fun y51 => (if 0 ≤ y51 then (if y51 < (64 : Int) then lt (IntKind.wrap .u32 ((m2_4.1.getD (y51).toNat (0 : Int)) * 256)) fun y55 => lt (IntKind.wrap .u32 (a0.1.getD (x10_4).toNat (0 : Int))) fun y57 => (if 0 ≤ y49 then (if y49 < (64 : Int) then lt (vset m2_4 (y49).toNat (bits .or .u32 y55 y57)) fun y61 => (sha_spread.lo4 a0 (sha_spread.jo1 k) k4) (IntKind.wrap .i64 (x10_4 + (1 : Int))) y61 else none) else none) else none) else none) else none) else (sha_spread.jo1 k) m2_4)) = some r := H
      refine cs_seq ?_
      refine cs_region (l := [_]) ?_
      refine ls_val (v := .bool (decide (x10_4 < (64 : Int)))) rfl rfl (by kernel_rfl) (fun w => by kernel_rfl) ?_
      refine ls_end ?_
      refine qn_then ?_
      refine cs_seq ?_
      by_cases q47 : x10_4 < (64 : Int)
      · replace H := ite_t q47 H
        refine cs_know (c := true) (dec_t q47) 11 (by kernel_rfl) ?_
        refine cs_true (by kernel_rfl) ?_
        refine cs_skip' ?_
        refine qn_then ?_
        refine cs_seq ?_
        refine cs_block ?_
        refine cs_seq ?_
        refine cs_region (l := [_, _, _, _]) ?_
        refine ls_val (v := .int .i64 x10_4) rfl rfl (by kernel_rfl) (fun w => by kernel_rfl) ?_
        obtain ⟨q48, H⟩ := ite_need H
        refine ls_index (l := a0.1) (E := (Value.int .u8)) (i := x10_4) (kk := .i64) (ln := 64) (e := 5) rfl rfl (by kernel_rfl) a0.2 rfl (by kernel_rfl) (by kernel_rfl) (by kernel_rfl) (by kernel_rfl) (by kernel_rfl) q48 q47 0 ?_
        refine ls_val (v := .int .i64 x10_4) rfl rfl (by kernel_rfl) (fun w => by kernel_rfl) ?_
        refine ls_val (v := .int .u8 (a0.1.getD (x10_4).toNat (0 : Int))) rfl rfl (by kernel_rfl) (fun w => by kernel_rfl) ?_
        refine ls_end ?_
        refine qn_then ?_
        refine cs_region (l := [_, _, _, _, _, _, _, _, _, _, _, _]) ?_
        refine ls_val (v := .int .i64 x10_4) rfl rfl (by kernel_rfl) (fun w => by kernel_rfl) ?_
        obtain ⟨y49, hy50, H⟩ := lt_some H
        refine ls_val (v := .int .i64 (IntKind.wrap .i64 (Int.tdiv x10_4 (4 : Int)))) rfl rfl (by kernel_rfl) (fun w => by kernel_rfl) ?_
        refine ls_ren 15 (v := .int .i64 (IntKind.wrap .i64 (Int.tdiv x10_4 (4 : Int)))) (v' := .int .i64 y49) (by kernel_rfl) (by rw [hy50]) ?_
        refine ls_val (v := .int .i64 x10_4) rfl rfl (by kernel_rfl) (fun w => by kernel_rfl) ?_
        obtain ⟨y51, hy52, H⟩ := lt_some H
        refine ls_val (v := .int .i64 (IntKind.wrap .i64 (Int.tdiv x10_4 (4 : Int)))) rfl rfl (by kernel_rfl) (fun w => by kernel_rfl) ?_
        refine ls_ren 17 (v := .int .i64 (IntKind.wrap .i64 (Int.tdiv x10_4 (4 : Int)))) (v' := .int .i64 y51) (by kernel_rfl) (by rw [hy52]) ?_
        obtain ⟨q53, H⟩ := ite_need H
        obtain ⟨q54, H⟩ := ite_need H
        refine ls_idxa1 (g := g3) (off := 0) (i := y51) (kk := .i64) (ln := 64) (e := 48) rfl rfl (by kernel_rfl) rfl (by kernel_rfl) (by kernel_rfl) (by kernel_rfl) (by kernel_rfl) q53 q54 ?_
        refine ls_load (a0 := ⟨g3, (0 + (y51).toNat), none⟩) (v := .int .u32 (m2_4.1.getD (y51).toNat (0 : Int))) (de := (TypeDesc.int .u32)) rfl rfl (by kernel_rfl) rfl (by kernel_rfl) (by kernel_rfl) (by kernel_rfl) (fun w hs => (hs.var (k := 2) (by exact rfl) (Sub4.trans (Sub4.all _) (Sub4.one (i := (y51).toNat) (Value.int .u32) m2_4.1 0 (by have := m2_4.2; omega))))) ?_
        obtain ⟨y55, hy56, H⟩ := lt_some H
        refine ls_val (v := .int .u32 (IntKind.wrap .u32 ((m2_4.1.getD (y51).toNat (0 : Int)) * 256))) rfl rfl (by kernel_rfl) (fun w => by kernel_rfl) ?_
        refine ls_ren 20 (v := .int .u32 (IntKind.wrap .u32 ((m2_4.1.getD (y51).toNat (0 : Int)) * 256))) (v' := .int .u32 y55) (by kernel_rfl) (by rw [hy56]) ?_
        refine ls_val (v := .int .u8 (a0.1.getD (x10_4).toNat (0 : Int))) rfl rfl (by kernel_rfl) (fun w => by kernel_rfl) ?_
        obtain ⟨y57, hy58, H⟩ := lt_some H
        refine ls_val (v := .int .u32 (IntKind.wrap .u32 (a0.1.getD (x10_4).toNat (0 : Int)))) rfl rfl (by kernel_rfl) (fun w => by kernel_rfl) ?_
        refine ls_ren 22 (v := .int .u32 (IntKind.wrap .u32 (a0.1.getD (x10_4).toNat (0 : Int)))) (v' := .int .u32 y57) (by kernel_rfl) (by rw [hy58]) ?_
        refine ls_val (v := .int .u32 (bits .or .u32 y55 y57)) rfl rfl (by kernel_rfl) (fun w => by kernel_rfl) ?_
        obtain ⟨q59, H⟩ := ite_need H
        obtain ⟨q60, H⟩ := ite_need H
        refine ls_idxa1 (g := g3) (off := 0) (i := y49) (kk := .i64) (ln := 64) (e := 48) rfl rfl (by kernel_rfl) rfl (by kernel_rfl) (by kernel_rfl) (by kernel_rfl) (by kernel_rfl) q59 q60 ?_
        obtain ⟨y61, hy62, H⟩ := lt_some H
        refine ls_storec (g := g3) (off := (0 + (y49).toNat)) (v := .int .u32 (bits .or .u32 y55 y57)) (vs := [Value.int .u32 (bits .or .u32 y55 y57)]) (cs := en (Value.int .u32) m2_4.1) (ty := 55) 2 rfl rfl rfl (by kernel_rfl) (by kernel_rfl) (by kernel_rfl) (by exact rfl) (by kernel_rfl) (len1 _) (one_cons rfl one_nil) (hl_of (Sub4.trans (Sub4.all _) (Sub4.one (i := (y49).toNat) (Value.int .u32) m2_4.1 0 (by have := m2_4.2; omega))) (len_eq (len1 _) (len1 _))) (cs' := en (Value.int .u32) y61.1) (splc_in (Sub4.all _) ((splc_one (Value.int .u32) m2_4.1 (bits .or .u32 y55 y57) (by have := m2_4.2; omega)).trans (congrArg (fun z : (Vc Int 64) => en (Value.int .u32) z.1) hy62)) (splc_all (len_eq (len_en _ y61) (len_en _ m2_4))) (hl_of (Sub4.one (i := (y49).toNat) (Value.int .u32) m2_4.1 0 (by have := m2_4.2; omega)) (len_eq (len1 _) (len1 _)))) ?_
        refine ls_end ?_
        refine qn_block ?_
        refine qn_then ?_
        refine cs_region (l := [_, _]) ?_
        refine ls_val (v := .int .i64 (IntKind.wrap .i64 (x10_4 + (1 : Int)))) rfl rfl (by kernel_rfl) (fun w => by kernel_rfl) ?_
        refine ls_val (v := .int .i64 (IntKind.wrap .i64 (x10_4 + (1 : Int)))) rfl rfl (by kernel_rfl) (fun w => by kernel_rfl) ?_
        refine ls_end ?_
        refine qn_again k4 (sput (sput s0 1 (some (Ck.var 55 g2 (en (Value.int .u32) (vrep 64 (0 : Int)).1)))) 2 (some (Ck.var 55 g3 (en (Value.int .u32) y61.1)))) (Nat.le_refl _) ⟨_, (IntKind.wrap .i64 (x10_4 + (1 : Int))), y61, fr_next (fr_next (fr_next (fr_next (rfl) (by kernel_rfl)) (by kernel_rfl)) (by kernel_rfl)) (by kernel_rfl), rfl, H⟩ (sub_put (by exact rfl) (sub_put (by exact rfl) (sub_nil _)))
      · replace H := ite_f q47 H
        refine cs_know (c := false) (dec_f q47) 11 (by kernel_rfl) ?_
        refine cs_false (by kernel_rfl) ?_
        refine cs_exit' ?_
        refine qx_then ?_
        refine qx_then ?_
        refine qx_same ?_
        refine qn_meet (sput (sput s0 1 (some (Ck.var 55 g2 (en (Value.int .u32) (vrep 64 (0 : Int)).1)))) 2 (some (Ck.var 55 g3 (en (Value.int .u32) m2_4.1)))) ⟨_, m2_4, fr_next (fr_next (rfl) (by kernel_rfl)) (by kernel_rfl), rfl, H⟩ (sub_put (by exact rfl) (sub_put (by exact rfl) (sub_nil _)))
  · rintro f S ⟨fr1, m2_1, rfl, rfl, H⟩
    replace H : (sha_spread.lo2 k (16 : Int) m2_1) = some r := H
    refine cs_seq ?_
    refine cs_seq ?_
    refine cs_region (l := [_]) ?_
    refine ls_val (v := .int .i64 (16 : Int)) rfl rfl (by kernel_rfl) (fun w => by kernel_rfl) ?_
    refine ls_end ?_
    refine qn_then ?_
    refine cs_block ?_
    refine cs_sub (sput (sput s0 1 (some (Ck.var 55 g2 (en (Value.int .u32) (vrep 64 (0 : Int)).1)))) 2 (some (Ck.var 55 g3 (en (Value.int .u32) m2_1.1)))) (sub_put (by exact rfl) (sub_put (by exact rfl) (sub_nil _))) ?_
    refine cs_loop (fun kk f S => ∃ (fR : Fr) (x6_2 : Int) (m2_2 : (Vc Int 64)), f = upd (upd (upd fR 2 (.pointer (some ⟨g2, 0, none⟩))) 3 (.pointer (some ⟨g3, 0, none⟩))) 6 (.int .i64 x6_2) ∧ S = sput (sput s0 1 (some (Ck.var 55 g2 (en (Value.int .u32) (vrep 64 (0 : Int)).1)))) 2 (some (Ck.var 55 g3 (en (Value.int .u32) m2_2.1))) ∧ sha_spread.lo2 kk x6_2 m2_2 = some r) k ?_ ?_ ?_
    · exact ⟨_, (16 : Int), m2_1, fr_next (fr_next (fr_next (rfl) (by kernel_rfl)) (by kernel_rfl)) (by kernel_rfl), rfl, H⟩
    · rintro f S ⟨fr2, x6_2, m2_2, rfl, rfl, H⟩; cases H
    · rintro k2 f S ⟨fr2, x6_2, m2_2, rfl, rfl, H⟩
      replace H : ((if x6_2 < (64 : Int) then (sha_spread.jo3 x6_2 m2_2 k2 (sha_spread.lo2 k2)) else some m2_2)) = some r := H
      refine cs_cut (fun f S => ∃ (fR : Fr), f = upd (upd (upd fR 2 (.pointer (some ⟨g2, 0, none⟩))) 3 (.pointer (some ⟨g3, 0, none⟩))) 6 (.int .i64 x6_2) ∧ S = sput (sput s0 1 (some (Ck.var 55 g2 (en (Value.int .u32) (vrep 64 (0 : Int)).1)))) 2 (some (Ck.var 55 g3 (en (Value.int .u32) m2_2.1))) ∧ sha_spread.jo3 x6_2 m2_2 k2 (sha_spread.lo2 k2) = some r) ?_ ?_
      · skip
        refine cs_seq ?_
        refine cs_region (l := [_, _]) ?_
        refine ls_val (v := .int .i64 x6_2) rfl rfl (by kernel_rfl) (fun w => by kernel_rfl) ?_
        refine ls_val (v := .bool (decide (x6_2 < (64 : Int)))) rfl rfl (by kernel_rfl) (fun w => by kernel_rfl) ?_
        refine ls_end ?_
        refine qn_then ?_
        by_cases q46 : x6_2 < (64 : Int)
        · replace H := ite_t q46 H
          refine cs_know (c := true) (dec_t q46) 27 (by kernel_rfl) ?_
          refine cs_true (by kernel_rfl) ?_
          refine cs_skip' ?_
          refine qn_meet (sput (sput s0 1 (some (Ck.var 55 g2 (en (Value.int .u32) (vrep 64 (0 : Int)).1)))) 2 (some (Ck.var 55 g3 (en (Value.int .u32) m2_2.1)))) ⟨_, fr_next (fr_next (fr_next (rfl) (by kernel_rfl)) (by kernel_rfl)) (by kernel_rfl), rfl, H⟩ (sub_put (by exact rfl) (sub_put (by exact rfl) (sub_nil _)))
        · replace H := ite_f q46 H
          refine cs_know (c := false) (dec_f q46) 27 (by kernel_rfl) ?_
          refine cs_false (by kernel_rfl) ?_
          refine cs_exit' ?_
          refine qx_then ?_
          refine qx_then ?_
          refine qx_same ?_
          refine qn_then ?_
          refine cs_seq ?_
          refine cs_region (l := [_, _]) ?_
          refine ls_loadagg (a := ⟨g3, 0, none⟩) (sub := en (Value.int .u32) m2_2.1) rfl rfl (by kernel_rfl) rfl (by kernel_rfl) (by kernel_rfl) (by kernel_rfl) (len_en _ m2_2) (fun w hs => (hs.vars (k := 2) (by exact rfl) (Sub4.all _))) ?_
          refine ls_storec (g := g2) (off := 0) (v := .agg ⟨en (Value.int .u32) m2_2.1⟩) (vs := en (Value.int .u32) m2_2.1) (cs := en (Value.int .u32) (vrep 64 (0 : Int)).1) (ty := 55) 1 rfl rfl rfl (by kernel_rfl) (by kernel_rfl) (by kernel_rfl) (by exact rfl) (by kernel_rfl) (len_en _ m2_2) (one_en (fun _ => rfl) _) (hl_of (Sub4.all _) (len_eq (len_en _ m2_2) (len_en _ (vrep 64 (0 : Int))))) (cs' := en (Value.int .u32) m2_2.1) (splc_all (len_eq (len_en _ m2_2) (len_en _ (vrep 64 (0 : Int))))) ?_
          refine ls_end ?_
          refine qn_then ?_
          refine cs_ret' ?_
          obtain rfl := Option.some.inj H
          refine qr_res (rs := [_]) rfl (fun w' hs => ⟨[.agg ⟨en (Value.int .u32) m2_2.1⟩], (.cell (by kernel_rfl) (run_cellres (by kernel_rfl) (by kernel_rfl) (len_en _ m2_2) (hs.holds 1 _ (by exact rfl))) (.nil)), (), rfl, hs.pick (ts := []) (cs := []) trivial (by decide)⟩)
      · rintro f S ⟨fr3, rfl, rfl, H⟩
        replace H : ((if 0 ≤ IntKind.wrap .i64 (x6_2 - (2 : Int)) then (if IntKind.wrap .i64 (x6_2 - (2 : Int)) < (64 : Int) then lt ((m2_2.1.getD (IntKind.wrap .i64 (x6_2 - (2 : Int))).toNat (0 : Int))) fun y8 => (if 0 ≤ IntKind.wrap .i64 (x6_2 - (15 : Int)) then (if IntKind.wrap .i64 (x6_2 - (15 : Int)) < (64 : Int) then lt ((m2_2.1.getD (IntKind.wrap .i64 (x6_2 - (15 : Int))).toNat (0 : Int))) fun y12 => (sha_down.f k2 y8 (17 : Int)).bind fun t16 => (sha_down.f k2 y8 (19 : Int)).bind fun t19 => lt (bits .xor .u32 (bits .xor .u32 t16 t19) (Int.fdiv y8 1024)) fun y22 => (if 0 ≤ IntKind.wrap .i64 (x6_2 - (7 : Int)) then (if IntKind.wrap .i64 (x6_2 - (7 : Int)) < (64 : Int) then lt ((m2_2.1.getD (IntKind.wrap .i64 (x6_2 - (7 : Int))).toNat (0 : Int))) fun y26 => (sha_down.f k2 y12 (7 : Int)).bind fun t28 => (sha_down.f k2 y12 (18 : Int)).bind fun t31 => lt (bits .xor .u32 (bits .xor .u32 t28 t31) (Int.fdiv y12 8)) fun y34 => lt (IntKind.wrap .u32 ((IntKind.wrap .u32 (y22 + y26)) + y34)) fun y36 => (if 0 ≤ IntKind.wrap .i64 (x6_2 - (16 : Int)) then (if IntKind.wrap .i64 (x6_2 - (16 : Int)) < (64 : Int) then lt ((m2_2.1.getD (IntKind.wrap .i64 (x6_2 - (16 : Int))).toNat (0 : Int))) fun y40 => (if 0 ≤ x6_2 then (if x6_2 < (64 : Int) then lt (vset m2_2 (x6_2).toNat (IntKind.wrap .u32 (y36 + y40))) fun y44 => (sha_spread.lo2 k2) (IntKind.wrap .i64 (x6_2 + (1 : Int))) y44 else none) else none) else none) else none) else none) else none) else none) else none) else none) else none)) = some r := H
        refine cs_seq ?_
        refine cs_block ?_
        refine cs_seq ?_
        obtain ⟨s5_0, hs5_0⟩ : ∃ z : Value → Sto → Prop, z = (fun v R => v = .int .i64 x6_2 ∧ R = s0) := ⟨_, rfl⟩
        refine have_op (l := [_, _, _, _, _, _, _, _, _, _]) sha_spread.tab3 3 0 (fun sp => sp 0 = s5_0) (fun sp on hA hon => ?_) (fun ops5_0 => ?_)
        · refine ⟨fun o ho vs Rs f' S' w hp hf hx hS hR hs => ?_⟩
          obtain rfl := Option.some.inj ho
          rw [hA, hs5_0]
          refine And.intro (fun a ha => (want_none rfl a ha).trans hon.symm) (And.intro (fun _ => ?_) (fun h => by rw [hon] at h; cases h))
          have hF := fr_next (rfl) ((hx 6 (by kernel_rfl)).trans (by kernel_rfl : (_ : Value) = .int .i64 x6_2))
          refine ls_fr hF ?_
          refine ls_val (v := .int .i64 x6_2) rfl rfl (by kernel_rfl) (fun w => by kernel_rfl) ?_
          exact ls_fin s0 (.int .i64 x6_2) (congrArg (fun z => upd z 30 _) hF.symm) ⟨rfl, rfl⟩ (sub_nil _)
        obtain ⟨s5_1, hs5_1⟩ : ∃ z : Value → Sto → Prop, z = (fun v R => v = .int .i64 (IntKind.wrap .i64 (x6_2 - (2 : Int))) ∧ R = s0) := ⟨_, rfl⟩
        refine have_op (l := [_, _, _, _, _, _, _, _, _, _]) sha_spread.tab3 3 1 (fun sp => sp 1 = s5_1 ∧ sp 0 = s5_0) (fun sp on hA hon => ?_) (fun ops5_1 => ?_)
        · refine ⟨fun o ho vs Rs f' S' w hp hf hx hS hR hs => ?_⟩
          obtain rfl := Option.some.inj ho
          obtain ⟨hv0, hR0⟩ := (spe hA.2 hs5_0 (hp 0 (by kernel_rfl)))
          rw [hA.1, hs5_1]
          refine And.intro (fun a ha => (want_none rfl a ha).trans hon.symm) (And.intro (fun _ => ?_) (fun h => by rw [hon] at h; cases h))
          have hF := fr_next (rfl) ((hf 0 30 (by kernel_rfl) rfl).trans hv0)
          refine ls_fr hF ?_
          refine ls_val (v := .int .i64 (IntKind.wrap .i64 (x6_2 - (2 : Int)))) rfl rfl (by kernel_rfl) (fun w => by kernel_rfl) ?_
          exact ls_fin s0 (.int .i64 (IntKind.wrap .i64 (x6_2 - (2 : Int)))) (congrArg (fun z => upd z 31 _) hF.symm) ⟨rfl, rfl⟩ (sub_nil _)
        obtain ⟨q6, H⟩ := ite_need H
        obtain ⟨q7, H⟩ := ite_need H
        obtain ⟨s5_2, hs5_2⟩ : ∃ z : Value → Sto → Prop, z = (fun v R => v = .pointer (some ⟨g3, (0 + (IntKind.wrap .i64 (x6_2 - (2 : Int))).toNat), none⟩) ∧ R = s0) := ⟨_, rfl⟩
        refine have_op (l := [_, _, _, _, _, _, _, _, _, _]) sha_spread.tab3 3 2 (fun sp => sp 2 = s5_2 ∧ sp 1 = s5_1) (fun sp on hA hon => ?_) (fun ops5_2 => ?_)
        · refine ⟨fun o ho vs Rs f' S' w hp hf hx hS hR hs => ?_⟩
          obtain rfl := Option.some.inj ho
          obtain ⟨hv1, hR1⟩ := (spe hA.2 hs5_1 (hp 1 (by kernel_rfl)))
          rw [hA.1, hs5_2]
          refine And.intro (fun a ha => (want_none rfl a ha).trans hon.symm) (And.intro (fun _ => ?_) (fun h => by rw [hon] at h; cases h))
          have hF := fr_next (fr_next (rfl) ((hx 3 (by kernel_rfl)).trans (by kernel_rfl : (_ : Value) = .pointer (some ⟨g3, 0, none⟩)))) ((hf 1 31 (by kernel_rfl) rfl).trans hv1)
          refine ls_fr hF ?_
          refine ls_idxa1 (g := g3) (off := 0) (i := IntKind.wrap .i64 (x6_2 - (2 : Int))) (kk := .i64) (ln := 64) (e := 48) rfl rfl (by kernel_rfl) rfl (by kernel_rfl) (by kernel_rfl) (by kernel_rfl) (by kernel_rfl) q6 q7 ?_
          exact ls_fin s0 (.pointer (some ⟨g3, (0 + (IntKind.wrap .i64 (x6_2 - (2 : Int))).toNat), none⟩)) (congrArg (fun z => upd z 32 _) hF.symm) ⟨rfl, rfl⟩ (sub_nil _)
        obtain ⟨y8, hy9, H⟩ := lt_some H
        obtain ⟨s5_3, hs5_3⟩ : ∃ z : Value → Sto → Prop, z = (fun v R => v = .int .u32 y8 ∧ R = s0) := ⟨_, rfl⟩
        refine have_op (l := [_, _, _, _, _, _, _, _, _, _]) sha_spread.tab3 3 3 (fun sp => sp 3 = s5_3 ∧ sp 2 = s5_2) (fun sp on hA hon => ?_) (fun ops5_3 => ?_)
        · refine ⟨fun o ho vs Rs f' S' w hp hf hx hS hR hs => ?_⟩
          obtain rfl := Option.some.inj ho
          obtain ⟨hv2, hR2⟩ := (spe hA.2 hs5_2 (hp 2 (by kernel_rfl)))
          rw [hA.1, hs5_3]
          refine And.intro (fun a ha => (want_none rfl a ha).trans hon.symm) (And.intro (fun _ => ?_) (fun h => by rw [hon] at h; cases h))
          have hF := fr_next (rfl) ((hf 2 32 (by kernel_rfl) rfl).trans hv2)
          refine ls_fr hF ?_
          refine ls_load (a0 := ⟨g3, (0 + (IntKind.wrap .i64 (x6_2 - (2 : Int))).toNat), none⟩) (v := .int .u32 (m2_2.1.getD (IntKind.wrap .i64 (x6_2 - (2 : Int))).toNat (0 : Int))) (de := (TypeDesc.int .u32)) rfl rfl (by kernel_rfl) rfl (by kernel_rfl) (by kernel_rfl) (by kernel_rfl) (fun w1 hs1 => cell_step hs1.below.bw (hs.var (k := 2) ((hS 2 (by kernel_rfl)).trans (by exact rfl)) (Sub4.trans (Sub4.all _) (Sub4.one (i := (IntKind.wrap .i64 (x6_2 - (2 : Int))).toNat) (Value.int .u32) m2_2.1 0 (by have := m2_2.2; omega))))) ?_
          refine ls_ren 33 (v := .int .u32 (m2_2.1.getD (IntKind.wrap .i64 (x6_2 - (2 : Int))).toNat (0 : Int))) (v' := .int .u32 y8) (by kernel_rfl) (by rw [hy9]) ?_
          exact ls_fin s0 (.int .u32 y8) ((upd_upd _ _ _ _).trans (congrArg (fun z => upd z 33 _) hF.symm)) ⟨rfl, rfl⟩ (sub_nil _)
        obtain ⟨s5_4, hs5_4⟩ : ∃ z : Value → Sto → Prop, z = (fun v R => v = .int .i64 x6_2 ∧ R = s0) := ⟨_, rfl⟩
        refine have_op (l := [_, _, _, _, _, _, _, _, _, _]) sha_spread.tab3 3 4 (fun sp => sp 4 = s5_4) (fun sp on hA hon => ?_) (fun ops5_4 => ?_)
        · refine ⟨fun o ho vs Rs f' S' w hp hf hx hS hR hs => ?_⟩
          obtain rfl := Option.some.inj ho
          rw [hA, hs5_4]
          refine And.intro (fun a ha => (want_none rfl a ha).trans hon.symm) (And.intro (fun _ => ?_) (fun h => by rw [hon] at h; cases h))
          have hF := fr_next (rfl) ((hx 6 (by kernel_rfl)).trans (by kernel_rfl : (_ : Value) = .int .i64 x6_2))
          refine ls_fr hF ?_
          refine ls_val (v := .int .i64 x6_2) rfl rfl (by kernel_rfl) (fun w => by kernel_rfl) ?_
          exact ls_fin s0 (.int .i64 x6_2) (congrArg (fun z => upd z 34 _) hF.symm) ⟨rfl, rfl⟩ (sub_nil _)
        obtain ⟨s5_5, hs5_5⟩ : ∃ z : Value → Sto → Prop, z = (fun v R => v = .int .i64 (IntKind.wrap .i64 (x6_2 - (15 : Int))) ∧ R = s0) := ⟨_, rfl⟩
        refine have_op (l := [_, _, _, _, _, _, _, _, _, _]) sha_spread.tab3 3 5 (fun sp => sp 5 = s5_5 ∧ sp 4 = s5_4) (fun sp on hA hon => ?_) (fun ops5_5 => ?_)
        · refine ⟨fun o ho vs Rs f' S' w hp hf hx hS hR hs => ?_⟩
          obtain rfl := Option.some.inj ho
          obtain ⟨hv4, hR4⟩ := (spe hA.2 hs5_4 (hp 4 (by kernel_rfl)))
          rw [hA.1, hs5_5]
          refine And.intro (fun a ha => (want_none rfl a ha).trans hon.symm) (And.intro (fun _ => ?_) (fun h => by rw [hon] at h; cases h))
          have hF := fr_next (rfl) ((hf 4 34 (by kernel_rfl) rfl).trans hv4)
          refine ls_fr hF ?_
          refine ls_val (v := .int .i64 (IntKind.wrap .i64 (x6_2 - (15 : Int)))) rfl rfl (by kernel_rfl) (fun w => by kernel_rfl) ?_
          exact ls_fin s0 (.int .i64 (IntKind.wrap .i64 (x6_2 - (15 : Int)))) (congrArg (fun z => upd z 35 _) hF.symm) ⟨rfl, rfl⟩ (sub_nil _)
        obtain ⟨q10, H⟩ := ite_need H
        obtain ⟨q11, H⟩ := ite_need H
        obtain ⟨s5_6, hs5_6⟩ : ∃ z : Value → Sto → Prop, z = (fun v R => v = .pointer (some ⟨g3, (0 + (IntKind.wrap .i64 (x6_2 - (15 : Int))).toNat), none⟩) ∧ R = s0) := ⟨_, rfl⟩
        refine have_op (l := [_, _, _, _, _, _, _, _, _, _]) sha_spread.tab3 3 6 (fun sp => sp 6 = s5_6 ∧ sp 5 = s5_5) (fun sp on hA hon => ?_) (fun ops5_6 => ?_)
        · refine ⟨fun o ho vs Rs f' S' w hp hf hx hS hR hs => ?_⟩
          obtain rfl := Option.some.inj ho
          obtain ⟨hv5, hR5⟩ := (spe hA.2 hs5_5 (hp 5 (by kernel_rfl)))
          rw [hA.1, hs5_6]
          refine And.intro (fun a ha => (want_none rfl a ha).trans hon.symm) (And.intro (fun _ => ?_) (fun h => by rw [hon] at h; cases h))
          have hF := fr_next (fr_next (rfl) ((hx 3 (by kernel_rfl)).trans (by kernel_rfl : (_ : Value) = .pointer (some ⟨g3, 0, none⟩)))) ((hf 5 35 (by kernel_rfl) rfl).trans hv5)
          refine ls_fr hF ?_
          refine ls_idxa1 (g := g3) (off := 0) (i := IntKind.wrap .i64 (x6_2 - (15 : Int))) (kk := .i64) (ln := 64) (e := 48) rfl rfl (by kernel_rfl) rfl (by kernel_rfl) (by kernel_rfl) (by kernel_rfl) (by kernel_rfl) q10 q11 ?_
          exact ls_fin s0 (.pointer (some ⟨g3, (0 + (IntKind.wrap .i64 (x6_2 - (15 : Int))).toNat), none⟩)) (congrArg (fun z => upd z 36 _) hF.symm) ⟨rfl, rfl⟩ (sub_nil _)
        obtain ⟨y12, hy13, H⟩ := lt_some H
        obtain ⟨s5_7, hs5_7⟩ : ∃ z : Value → Sto → Prop, z = (fun v R => v = .int .u32 y12 ∧ R = s0) := ⟨_, rfl⟩
        refine have_op (l := [_, _, _, _, _, _, _, _, _, _]) sha_spread.tab3 3 7 (fun sp => sp 7 = s5_7 ∧ sp 6 = s5_6) (fun sp on hA hon => ?_) (fun ops5_7 => ?_)
        · refine ⟨fun o ho vs Rs f' S' w hp hf hx hS hR hs => ?_⟩
          obtain rfl := Option.some.inj ho
          obtain ⟨hv6, hR6⟩ := (spe hA.2 hs5_6 (hp 6 (by kernel_rfl)))
          rw [hA.1, hs5_7]
          refine And.intro (fun a ha => (want_none rfl a ha).trans hon.symm) (And.intro (fun _ => ?_) (fun h => by rw [hon] at h; cases h))
          have hF := fr_next (rfl) ((hf 6 36 (by kernel_rfl) rfl).trans hv6)
          refine ls_fr hF ?_
          refine ls_load (a0 := ⟨g3, (0 + (IntKind.wrap .i64 (x6_2 - (15 : Int))).toNat), none⟩) (v := .int .u32 (m2_2.1.getD (IntKind.wrap .i64 (x6_2 - (15 : Int))).toNat (0 : Int))) (de := (TypeDesc.int .u32)) rfl rfl (by kernel_rfl) rfl (by kernel_rfl) (by kernel_rfl) (by kernel_rfl) (fun w1 hs1 => cell_step hs1.below.bw (hs.var (k := 2) ((hS 2 (by kernel_rfl)).trans (by exact rfl)) (Sub4.trans (Sub4.all _) (Sub4.one (i := (IntKind.wrap .i64 (x6_2 - (15 : Int))).toNat) (Value.int .u32) m2_2.1 0 (by have := m2_2.2; omega))))) ?_
          refine ls_ren 37 (v := .int .u32 (m2_2.1.getD (IntKind.wrap .i64 (x6_2 - (15 : Int))).toNat (0 : Int))) (v' := .int .u32 y12) (by kernel_rfl) (by rw [hy13]) ?_
          exact ls_fin s0 (.int .u32 y12) ((upd_upd _ _ _ _).trans (congrArg (fun z => upd z 37 _) hF.symm)) ⟨rfl, rfl⟩ (sub_nil _)
        obtain ⟨s5_8, hs5_8⟩ : ∃ z : Value → Sto → Prop, z = (fun v R => v = .int .u32 y8 ∧ R = s0) := ⟨_, rfl⟩
        refine have_op (l := [_, _, _, _, _, _, _, _, _, _]) sha_spread.tab3 3 8 (fun sp => sp 8 = s5_8 ∧ sp 3 = s5_3) (fun sp on hA hon => ?_) (fun ops5_8 => ?_)
        · refine ⟨fun o ho vs Rs f' S' w hp hf hx hS hR hs => ?_⟩
          obtain rfl := Option.some.inj ho
          obtain ⟨hv3, hR3⟩ := (spe hA.2 hs5_3 (hp 3 (by kernel_rfl)))
          rw [hA.1, hs5_8]
          refine And.intro (fun a ha => (want_none rfl a ha).trans hon.symm) (And.intro (fun _ => ?_) (fun h => by rw [hon] at h; cases h))
          have hF := fr_next (rfl) ((hf 3 33 (by kernel_rfl) rfl).trans hv3)
          refine ls_fr hF ?_
          refine ls_val (v := .int .u32 y8) rfl rfl (by kernel_rfl) (fun w => by kernel_rfl) ?_
          exact ls_fin s0 (.int .u32 y8) (congrArg (fun z => upd z 7 _) hF.symm) ⟨rfl, rfl⟩ (sub_nil _)
        refine cs_draw sha_spread.tab3 9 3 (spl [s5_0, s5_1, s5_2, s5_3, s5_4, s5_5, s5_6, s5_7, s5_8]) (onl [true, true, true, true, true, true, true, true, true]) (by kernel_rfl) (by kernel_rfl) (by kernel_rfl) (by kernel_rfl) (rs := [_]) rfl (by kernel_rfl) (by kernel_rfl) (all_snoc (all_snoc (all_snoc (all_snoc (all_snoc (all_snoc (all_snoc (all_snoc (all_snoc (all_nil) (ops5_0 _ _ rfl rfl)) (ops5_1 _ _ ⟨rfl, rfl⟩ rfl)) (ops5_2 _ _ ⟨rfl, rfl⟩ rfl)) (ops5_3 _ _ ⟨rfl, rfl⟩ rfl)) (ops5_4 _ _ rfl rfl)) (ops5_5 _ _ ⟨rfl, rfl⟩ rfl)) (ops5_6 _ _ ⟨rfl, rfl⟩ rfl)) (ops5_7 _ _ ⟨rfl, rfl⟩ rfl)) (ops5_8 _ _ ⟨rfl, rfl⟩ rfl)) ?_
        intro vs Rs f' S' hp hf hx hS hR
        obtain ⟨hv7, hR7⟩ := (spe rfl hs5_7 (hp 7 (by kernel_rfl)))
        obtain ⟨hv8, hR8⟩ := (spe rfl hs5_8 (hp 8 (by kernel_rfl)))
        refine ls_fr (F := upd (upd (upd (upd (upd f' 2 (.pointer (some ⟨g2, 0, none⟩))) 3 (.pointer (some ⟨g3, 0, none⟩))) 6 (.int .i64 x6_2)) 7 (.int .u32 y8)) 37 (.int .u32 y12)) (fr_next (fr_next (fr_next (fr_next (fr_next (rfl) ((hx 2 (by kernel_rfl)).trans (by kernel_rfl : (_ : Value) = .pointer (some ⟨g2, 0, none⟩)))) ((hx 3 (by kernel_rfl)).trans (by kernel_rfl : (_ : Value) = .pointer (some ⟨g3, 0, none⟩)))) ((hx 6 (by kernel_rfl)).trans (by kernel_rfl : (_ : Value) = .int .i64 x6_2))) ((hf 8 7 (by kernel_rfl) rfl).trans hv8)) ((hf 7 37 (by kernel_rfl) rfl).trans hv7)) ?_
        refine ls_sub (sput (sput s0 1 (some (Ck.var 55 g2 (en (Value.int .u32) (vrep 64 (0 : Int)).1)))) 2 (some (Ck.var 55 g3 (en (Value.int .u32) m2_2.1)))) (sub_put ((hS 2 (by kernel_rfl)).trans (by exact rfl)) (sub_put ((hS 1 (by kernel_rfl)).trans (by exact rfl)) (sub_nil _))) ?_
        refine ls_val (v := .int .u32 y12) rfl rfl (by kernel_rfl) (fun w => by kernel_rfl) ?_
        refine ls_end ?_
        refine qn_then ?_
        obtain ⟨s15_0, hs15_0⟩ : ∃ z : Value → Sto → Prop, z = (fun v R => v = .int .i64 x6_2 ∧ R = s0) := ⟨_, rfl⟩
        refine have_op (l := [_, _, _, _, _, _, _, _, _, _, _, _, _, _, _, _, _, _, _, _, _, _, _, _, _, _, _, _, _, _]) sha_spread.tab13 75 0 (fun sp => sp 0 = s15_0) (fun sp on hA hon => ?_) (fun ops15_0 => ?_)
        · refine ⟨fun o ho vs Rs f' S' w hp hf hx hS hR hs => ?_⟩
          obtain rfl := Option.some.inj ho
          rw [hA, hs15_0]
          refine And.intro (fun a ha => (want_none rfl a ha).trans hon.symm) (And.intro (fun _ => ?_) (fun h => by rw [hon] at h; cases h))
          have hF := fr_next (rfl) ((hx 6 (by kernel_rfl)).trans (by kernel_rfl : (_ : Value) = .int .i64 x6_2))
          refine ls_fr hF ?_
          refine ls_val (v := .int .i64 x6_2) rfl rfl (by kernel_rfl) (fun w => by kernel_rfl) ?_
          exact ls_fin s0 (.int .i64 x6_2) (congrArg (fun z => upd z 38 _) hF.symm) ⟨rfl, rfl⟩ (sub_nil _)
        obtain ⟨s15_1, hs15_1⟩ : ∃ z : Value → Sto → Prop, z = (fun v R => v = .int .u32 y8 ∧ R = s0) := ⟨_, rfl⟩
        refine have_op (l := [_, _, _, _, _, _, _, _, _, _, _, _, _, _, _, _, _, _, _, _, _, _, _, _, _, _, _, _, _, _]) sha_spread.tab13 75 1 (fun sp => sp 1 = s15_1) (fun sp on hA hon => ?_) (fun ops15_1 => ?_)
        · refine ⟨fun o ho vs Rs f' S' w hp hf hx hS hR hs => ?_⟩
          obtain rfl := Option.some.inj ho
          rw [hA, hs15_1]
          refine And.intro (fun a ha => (want_none rfl a ha).trans hon.symm) (And.intro (fun _ => ?_) (fun h => by rw [hon] at h; cases h))
          have hF := fr_next (rfl) ((hx 7 (by kernel_rfl)).trans (by kernel_rfl : (_ : Value) = .int .u32 y8))
          refine ls_fr hF ?_
          refine ls_val (v := .int .u32 y8) rfl rfl (by kernel_rfl) (fun w => by kernel_rfl) ?_
          exact ls_fin s0 (.int .u32 y8) (congrArg (fun z => upd z 39 _) hF.symm) ⟨rfl, rfl⟩ (sub_nil _)
        obtain ⟨t16, hc17, H⟩ := bind_some H
        obtain ⟨s15_2, hs15_2⟩ : ∃ z : Value → Sto → Prop, z = (fun v R => ∃ x18 : Unit, v = .int .u32 t16 ∧ R = stl []) := ⟨_, rfl⟩
        refine have_op (l := [_, _, _, _, _, _, _, _, _, _, _, _, _, _, _, _, _, _, _, _, _, _, _, _, _, _, _, _, _, _]) sha_spread.tab13 75 2 (fun sp => sp 2 = s15_2 ∧ sp 1 = s15_1) (fun sp on hA hon => ?_) (fun ops15_2 => ?_)
        · refine ⟨fun o ho vs Rs f' S' w hp hf hx hS hR hs => ?_⟩
          obtain rfl := Option.some.inj ho
          obtain ⟨hv1, hR1⟩ := (spe hA.2 hs15_1 (hp 1 (by kernel_rfl)))
          rw [hA.1, hs15_2]
          refine And.intro (fun a ha => (want_none rfl a ha).trans hon.symm) (And.intro (fun _ => ?_) (fun h => by rw [hon] at h; cases h))
          have hF := fr_next (rfl) ((hf 1 39 (by kernel_rfl) rfl).trans hv1)
          refine ls_fr hF ?_
          refine ls_call (fid := 47) (vals := #[.int .u32 y8, .int .i64 (17 : Int)]) (X := Unit) (fun x => .int .u32 t16) (fun x => stl []) 0 rfl rfl (by kernel_rfl) (fun w => by kernel_rfl) (fun w1 hs1 => sha_down.calls k2 y8 (17 : Int) t16 (bw w1) (St.refl w1)  hc17) ?_
          intro x18
          exact ls_fin (stl []) (.int .u32 t16) (congrArg (fun z => upd z 40 _) hF.symm) ⟨x18, rfl, rfl⟩ (sub_join _)
        obtain ⟨s15_3, hs15_3⟩ : ∃ z : Value → Sto → Prop, z = (fun v R => v = .int .u32 y8 ∧ R = s0) := ⟨_, rfl⟩
        refine have_op (l := [_, _, _, _, _, _, _, _, _, _, _, _, _, _, _, _, _, _, _, _, _, _, _, _, _, _, _, _, _, _]) sha_spread.tab13 75 3 (fun sp => sp 3 = s15_3) (fun sp on hA hon => ?_) (fun ops15_3 => ?_)
        · refine ⟨fun o ho vs Rs f' S' w hp hf hx hS hR hs => ?_⟩
          obtain rfl := Option.some.inj ho
          rw [hA, hs15_3]
          refine And.intro (fun a ha => (want_none rfl a ha).trans hon.symm) (And.intro (fun _ => ?_) (fun h => by rw [hon] at h; cases h))
          have hF := fr_next (rfl) ((hx 7 (by kernel_rfl)).trans (by kernel_rfl : (_ : Value) = .int .u32 y8))
          refine ls_fr hF ?_
          refine ls_val (v := .int .u32 y8) rfl rfl (by kernel_rfl) (fun w => by kernel_rfl) ?_
          exact ls_fin s0 (.int .u32 y8) (congrArg (fun z => upd z 41 _) hF.symm) ⟨rfl, rfl⟩ (sub_nil _)
        obtain ⟨t19, hc20, H⟩ := bind_some H
        obtain ⟨s15_4, hs15_4⟩ : ∃ z : Value → Sto → Prop, z = (fun v R => ∃ x21 : Unit, v = .int .u32 t19 ∧ R = stl []) := ⟨_, rfl⟩
        refine have_op (l := [_, _, _, _, _, _, _, _, _, _, _, _, _, _, _, _, _, _, _, _, _, _, _, _, _, _, _, _, _, _]) sha_spread.tab13 75 4 (fun sp => sp 4 = s15_4 ∧ sp 3 = s15_3) (fun sp on hA hon => ?_) (fun ops15_4 => ?_)
        · refine ⟨fun o ho vs Rs f' S' w hp hf hx hS hR hs => ?_⟩
          obtain rfl := Option.some.inj ho
          obtain ⟨hv3, hR3⟩ := (spe hA.2 hs15_3 (hp 3 (by kernel_rfl)))
          rw [hA.1, hs15_4]
          refine And.intro (fun a ha => (want_none rfl a ha).trans hon.symm) (And.intro (fun _ => ?_) (fun h => by rw [hon] at h; cases h))
          have hF := fr_next (rfl) ((hf 3 41 (by kernel_rfl) rfl).trans hv3)
          refine ls_fr hF ?_
          refine ls_call (fid := 47) (vals := #[.int .u32 y8, .int .i64 (19 : Int)]) (X := Unit) (fun x => .int .u32 t19) (fun x => stl []) 0 rfl rfl (by kernel_rfl) (fun w => by kernel_rfl) (fun w1 hs1 => sha_down.calls k2 y8 (19 : Int) t19 (bw w1) (St.refl w1)  hc20) ?_
          intro x21
          exact ls_fin (stl []) (.int .u32 t19) (congrArg (fun z => upd z 42 _) hF.symm) ⟨x21, rfl, rfl⟩ (sub_join _)
        obtain ⟨s15_5, hs15_5⟩ : ∃ z : Value → Sto → Prop, z = (fun v R => v = .int .u32 (bits .xor .u32 t16 t19) ∧ R = s0) := ⟨_, rfl⟩
        refine have_op (l := [_, _, _, _, _, _, _, _, _, _, _, _, _, _, _, _, _, _, _, _, _, _, _, _, _, _, _, _, _, _]) sha_spread.tab13 75 5 (fun sp => sp 5 = s15_5 ∧ sp 2 = s15_2 ∧ sp 4 = s15_4) (fun sp on hA hon => ?_) (fun ops15_5 => ?_)
        · refine ⟨fun o ho vs Rs f' S' w hp hf hx hS hR hs => ?_⟩
          obtain rfl := Option.some.inj ho
          obtain ⟨x18, hv2, hR2⟩ := (spe hA.2.1 hs15_2 (hp 2 (by kernel_rfl)))
          obtain ⟨x21, hv4, hR4⟩ := (spe hA.2.2 hs15_4 (hp 4 (by kernel_rfl)))
          rw [hA.1, hs15_5]
          refine And.intro (fun a ha => (want_none rfl a ha).trans hon.symm) (And.intro (fun _ => ?_) (fun h => by rw [hon] at h; cases h))
          have hF := fr_next (fr_next (rfl) ((hf 2 40 (by kernel_rfl) rfl).trans hv2)) ((hf 4 42 (by kernel_rfl) rfl).trans hv4)
          refine ls_fr hF ?_
          refine ls_val (v := .int .u32 (bits .xor .u32 t16 t19)) rfl rfl (by kernel_rfl) (fun w => by kernel_rfl) ?_
          exact ls_fin s0 (.int .u32 (bits .xor .u32 t16 t19)) (congrArg (fun z => upd z 43 _) hF.symm) ⟨rfl, rfl⟩ (sub_nil _)
        obtain ⟨s15_6, hs15_6⟩ : ∃ z : Value → Sto → Prop, z = (fun v R => v = .int .u32 y8 ∧ R = s0) := ⟨_, rfl⟩
        refine have_op (l := [_, _, _, _, _, _, _, _, _, _, _, _, _, _, _, _, _, _, _, _, _, _, _, _, _, _, _, _, _, _]) sha_spread.tab13 75 6 (fun sp => sp 6 = s15_6) (fun sp on hA hon => ?_) (fun ops15_6 => ?_)
        · refine ⟨fun o ho vs Rs f' S' w hp hf hx hS hR hs => ?_⟩
          obtain rfl := Option.some.inj ho
          rw [hA, hs15_6]
          refine And.intro (fun a ha => (want_none rfl a ha).trans hon.symm) (And.intro (fun _ => ?_) (fun h => by rw [hon] at h; cases h))
          have hF := fr_next (rfl) ((hx 7 (by kernel_rfl)).trans (by kernel_rfl : (_ : Value) = .int .u32 y8))
          refine ls_fr hF ?_
          refine ls_val (v := .int .u32 y8) rfl rfl (by kernel_rfl) (fun w => by kernel_rfl) ?_
          exact ls_fin s0 (.int .u32 y8) (congrArg (fun z => upd z 44 _) hF.symm) ⟨rfl, rfl⟩ (sub_nil _)
        obtain ⟨s15_7, hs15_7⟩ : ∃ z : Value → Sto → Prop, z = (fun v R => v = .int .u32 (Int.fdiv y8 1024) ∧ R = s0) := ⟨_, rfl⟩
        refine have_op (l := [_, _, _, _, _, _, _, _, _, _, _, _, _, _, _, _, _, _, _, _, _, _, _, _, _, _, _, _, _, _]) sha_spread.tab13 75 7 (fun sp => sp 7 = s15_7 ∧ sp 6 = s15_6) (fun sp on hA hon => ?_) (fun ops15_7 => ?_)
        · refine ⟨fun o ho vs Rs f' S' w hp hf hx hS hR hs => ?_⟩
          obtain rfl := Option.some.inj ho
          obtain ⟨hv6, hR6⟩ := (spe hA.2 hs15_6 (hp 6 (by kernel_rfl)))
          rw [hA.1, hs15_7]
          refine And.intro (fun a ha => (want_none rfl a ha).trans hon.symm) (And.intro (fun _ => ?_) (fun h => by rw [hon] at h; cases h))
          have hF := fr_next (rfl) ((hf 6 44 (by kernel_rfl) rfl).trans hv6)
          refine ls_fr hF ?_
          refine ls_val (v := .int .u32 (Int.fdiv y8 1024)) rfl rfl (by kernel_rfl) (fun w => by kernel_rfl) ?_
          exact ls_fin s0 (.int .u32 (Int.fdiv y8 1024)) (congrArg (fun z => upd z 45 _) hF.symm) ⟨rfl, rfl⟩ (sub_nil _)
        obtain ⟨y22, hy23, H⟩ := lt_some H
        obtain ⟨s15_8, hs15_8⟩ : ∃ z : Value → Sto → Prop, z = (fun v R => v = .int .u32 y22 ∧ R = s0) := ⟨_, rfl⟩
        refine have_op (l := [_, _, _, _, _, _, _, _, _, _, _, _, _, _, _, _, _, _, _, _, _, _, _, _, _, _, _, _, _, _]) sha_spread.tab13 75 8 (fun sp => sp 8 = s15_8 ∧ sp 5 = s15_5 ∧ sp 7 = s15_7) (fun sp on hA hon => ?_) (fun ops15_8 => ?_)
        · refine ⟨fun o ho vs Rs f' S' w hp hf hx hS hR hs => ?_⟩
          obtain rfl := Option.some.inj ho
          obtain ⟨hv5, hR5⟩ := (spe hA.2.1 hs15_5 (hp 5 (by kernel_rfl)))
          obtain ⟨hv7, hR7⟩ := (spe hA.2.2 hs15_7 (hp 7 (by kernel_rfl)))
          rw [hA.1, hs15_8]
          refine And.intro (fun a ha => (want_none rfl a ha).trans hon.symm) (And.intro (fun _ => ?_) (fun h => by rw [hon] at h; cases h))
          have hF := fr_next (fr_next (rfl) ((hf 5 43 (by kernel_rfl) rfl).trans hv5)) ((hf 7 45 (by kernel_rfl) rfl).trans hv7)
          refine ls_fr hF ?_
          refine ls_val (v := .int .u32 (bits .xor .u32 (bits .xor .u32 t16 t19) (Int.fdiv y8 1024))) rfl rfl (by kernel_rfl) (fun w => by kernel_rfl) ?_
          refine ls_ren 46 (v := .int .u32 (bits .xor .u32 (bits .xor .u32 t16 t19) (Int.fdiv y8 1024))) (v' := .int .u32 y22) (by kernel_rfl) (by rw [hy23]) ?_
          exact ls_fin s0 (.int .u32 y22) ((upd_upd _ _ _ _).trans (congrArg (fun z => upd z 46 _) hF.symm)) ⟨rfl, rfl⟩ (sub_nil _)
        obtain ⟨s15_9, hs15_9⟩ : ∃ z : Value → Sto → Prop, z = (fun v R => v = .int .i64 x6_2 ∧ R = s0) := ⟨_, rfl⟩
        refine have_op (l := [_, _, _, _, _, _, _, _, _, _, _, _, _, _, _, _, _, _, _, _, _, _, _, _, _, _, _, _, _, _]) sha_spread.tab13 75 9 (fun sp => sp 9 = s15_9) (fun sp on hA hon => ?_) (fun ops15_9 => ?_)
        · refine ⟨fun o ho vs Rs f' S' w hp hf hx hS hR hs => ?_⟩
          obtain rfl := Option.some.inj ho
          rw [hA, hs15_9]
          refine And.intro (fun a ha => (want_none rfl a ha).trans hon.symm) (And.intro (fun _ => ?_) (fun h => by rw [hon] at h; cases h))
          have hF := fr_next (rfl) ((hx 6 (by kernel_rfl)).trans (by kernel_rfl : (_ : Value) = .int .i64 x6_2))
          refine ls_fr hF ?_
          refine ls_val (v := .int .i64 x6_2) rfl rfl (by kernel_rfl) (fun w => by kernel_rfl) ?_
          exact ls_fin s0 (.int .i64 x6_2) (congrArg (fun z => upd z 47 _) hF.symm) ⟨rfl, rfl⟩ (sub_nil _)
        obtain ⟨s15_10, hs15_10⟩ : ∃ z : Value → Sto → Prop, z = (fun v R => v = .int .i64 (IntKind.wrap .i64 (x6_2 - (7 : Int))) ∧ R = s0) := ⟨_, rfl⟩
        refine have_op (l := [_, _, _, _, _, _, _, _, _, _, _, _, _, _, _, _, _, _, _, _, _, _, _, _, _, _, _, _, _, _]) sha_spread.tab13 75 10 (fun sp => sp 10 = s15_10 ∧ sp 9 = s15_9) (fun sp on hA hon => ?_) (fun ops15_10 => ?_)
        · refine ⟨fun o ho vs Rs f' S' w hp hf hx hS hR hs => ?_⟩
          obtain rfl := Option.some.inj ho
          obtain ⟨hv9, hR9⟩ := (spe hA.2 hs15_9 (hp 9 (by kernel_rfl)))
          rw [hA.1, hs15_10]
          refine And.intro (fun a ha => (want_none rfl a ha).trans hon.symm) (And.intro (fun _ => ?_) (fun h => by rw [hon] at h; cases h))
          have hF := fr_next (rfl) ((hf 9 47 (by kernel_rfl) rfl).trans hv9)
          refine ls_fr hF ?_
          refine ls_val (v := .int .i64 (IntKind.wrap .i64 (x6_2 - (7 : Int)))) rfl rfl (by kernel_rfl) (fun w => by kernel_rfl) ?_
          exact ls_fin s0 (.int .i64 (IntKind.wrap .i64 (x6_2 - (7 : Int)))) (congrArg (fun z => upd z 48 _) hF.symm) ⟨rfl, rfl⟩ (sub_nil _)
        obtain ⟨q24, H⟩ := ite_need H
        obtain ⟨q25, H⟩ := ite_need H
        obtain ⟨s15_11, hs15_11⟩ : ∃ z : Value → Sto → Prop, z = (fun v R => v = .pointer (some ⟨g3, (0 + (IntKind.wrap .i64 (x6_2 - (7 : Int))).toNat), none⟩) ∧ R = s0) := ⟨_, rfl⟩
        refine have_op (l := [_, _, _, _, _, _, _, _, _, _, _, _, _, _, _, _, _, _, _, _, _, _, _, _, _, _, _, _, _, _]) sha_spread.tab13 75 11 (fun sp => sp 11 = s15_11 ∧ sp 10 = s15_10) (fun sp on hA hon => ?_) (fun ops15_11 => ?_)
        · refine ⟨fun o ho vs Rs f' S' w hp hf hx hS hR hs => ?_⟩
          obtain rfl := Option.some.inj ho
          obtain ⟨hv10, hR10⟩ := (spe hA.2 hs15_10 (hp 10 (by kernel_rfl)))
          rw [hA.1, hs15_11]
          refine And.intro (fun a ha => (want_none rfl a ha).trans hon.symm) (And.intro (fun _ => ?_) (fun h => by rw [hon] at h; cases h))
          have hF := fr_next (fr_next (rfl) ((hx 3 (by kernel_rfl)).trans (by kernel_rfl : (_ : Value) = .pointer (some ⟨g3, 0, none⟩)))) ((hf 10 48 (by kernel_rfl) rfl).trans hv10)
          refine ls_fr hF ?_
          refine ls_idxa1 (g := g3) (off := 0) (i := IntKind.wrap .i64 (x6_2 - (7 : Int))) (kk := .i64) (ln := 64) (e := 48) rfl rfl (by kernel_rfl) rfl (by kernel_rfl) (by kernel_rfl) (by kernel_rfl) (by kernel_rfl) q24 q25 ?_
          exact ls_fin s0 (.pointer (some ⟨g3, (0 + (IntKind.wrap .i64 (x6_2 - (7 : Int))).toNat), none⟩)) (congrArg (fun z => upd z 49 _) hF.symm) ⟨rfl, rfl⟩ (sub_nil _)
        obtain ⟨y26, hy27, H⟩ := lt_some H
        obtain ⟨s15_12, hs15_12⟩ : ∃ z : Value → Sto → Prop, z = (fun v R => v = .int .u32 y26 ∧ R = s0) := ⟨_, rfl⟩
        refine have_op (l := [_, _, _, _, _, _, _, _, _, _, _, _, _, _, _, _, _, _, _, _, _, _, _, _, _, _, _, _, _, _]) sha_spread.tab13 75 12 (fun sp => sp 12 = s15_12 ∧ sp 11 = s15_11) (fun sp on hA hon => ?_) (fun ops15_12 => ?_)
        · refine ⟨fun o ho vs Rs f' S' w hp hf hx hS hR hs => ?_⟩
          obtain rfl := Option.some.inj ho
          obtain ⟨hv11, hR11⟩ := (spe hA.2 hs15_11 (hp 11 (by kernel_rfl)))
          rw [hA.1, hs15_12]
          refine And.intro (fun a ha => (want_none rfl a ha).trans hon.symm) (And.intro (fun _ => ?_) (fun h => by rw [hon] at h; cases h))
          have hF := fr_next (rfl) ((hf 11 49 (by kernel_rfl) rfl).trans hv11)
          refine ls_fr hF ?_
          refine ls_load (a0 := ⟨g3, (0 + (IntKind.wrap .i64 (x6_2 - (7 : Int))).toNat), none⟩) (v := .int .u32 (m2_2.1.getD (IntKind.wrap .i64 (x6_2 - (7 : Int))).toNat (0 : Int))) (de := (TypeDesc.int .u32)) rfl rfl (by kernel_rfl) rfl (by kernel_rfl) (by kernel_rfl) (by kernel_rfl) (fun w1 hs1 => cell_step hs1.below.bw (hs.var (k := 2) ((hS 2 (by kernel_rfl)).trans (by exact rfl)) (Sub4.trans (Sub4.all _) (Sub4.one (i := (IntKind.wrap .i64 (x6_2 - (7 : Int))).toNat) (Value.int .u32) m2_2.1 0 (by have := m2_2.2; omega))))) ?_
          refine ls_ren 50 (v := .int .u32 (m2_2.1.getD (IntKind.wrap .i64 (x6_2 - (7 : Int))).toNat (0 : Int))) (v' := .int .u32 y26) (by kernel_rfl) (by rw [hy27]) ?_
          exact ls_fin s0 (.int .u32 y26) ((upd_upd _ _ _ _).trans (congrArg (fun z => upd z 50 _) hF.symm)) ⟨rfl, rfl⟩ (sub_nil _)
        obtain ⟨s15_13, hs15_13⟩ : ∃ z : Value → Sto → Prop, z = (fun v R => v = .int .u32 (IntKind.wrap .u32 (y22 + y26)) ∧ R = s0) := ⟨_, rfl⟩
        refine have_op (l := [_, _, _, _, _, _, _, _, _, _, _, _, _, _, _, _, _, _, _, _, _, _, _, _, _, _, _, _, _, _]) sha_spread.tab13 75 13 (fun sp => sp 13 = s15_13 ∧ sp 8 = s15_8 ∧ sp 12 = s15_12) (fun sp on hA hon => ?_) (fun ops15_13 => ?_)
        · refine ⟨fun o ho vs Rs f' S' w hp hf hx hS hR hs => ?_⟩
          obtain rfl := Option.some.inj ho
          obtain ⟨hv8, hR8⟩ := (spe hA.2.1 hs15_8 (hp 8 (by kernel_rfl)))
          obtain ⟨hv12, hR12⟩ := (spe hA.2.2 hs15_12 (hp 12 (by kernel_rfl)))
          rw [hA.1, hs15_13]
          refine And.intro (fun a ha => (want_none rfl a ha).trans hon.symm) (And.intro (fun _ => ?_) (fun h => by rw [hon] at h; cases h))
          have hF := fr_next (fr_next (rfl) ((hf 8 46 (by kernel_rfl) rfl).trans hv8)) ((hf 12 50 (by kernel_rfl) rfl).trans hv12)
          refine ls_fr hF ?_
          refine ls_val (v := .int .u32 (IntKind.wrap .u32 (y22 + y26))) rfl rfl (by kernel_rfl) (fun w => by kernel_rfl) ?_
          exact ls_fin s0 (.int .u32 (IntKind.wrap .u32 (y22 + y26))) (congrArg (fun z => upd z 51 _) hF.symm) ⟨rfl, rfl⟩ (sub_nil _)
        obtain ⟨s15_14, hs15_14⟩ : ∃ z : Value → Sto → Prop, z = (fun v R => v = .int .u32 y12 ∧ R = s0) := ⟨_, rfl⟩
        refine have_op (l := [_, _, _, _, _, _, _, _, _, _, _, _, _, _, _, _, _, _, _, _, _, _, _, _, _, _, _, _, _, _]) sha_spread.tab13 75 14 (fun sp => sp 14 = s15_14) (fun sp on hA hon => ?_) (fun ops15_14 => ?_)
        · refine ⟨fun o ho vs Rs f' S' w hp hf hx hS hR hs => ?_⟩
          obtain rfl := Option.some.inj ho
          rw [hA, hs15_14]
          refine And.intro (fun a ha => (want_none rfl a ha).trans hon.symm) (And.intro (fun _ => ?_) (fun h => by rw [hon] at h; cases h))
          have hF := fr_next (rfl) ((hx 8 (by kernel_rfl)).trans (by kernel_rfl : (_ : Value) = .int .u32 y12))
          refine ls_fr hF ?_
          refine ls_val (v := .int .u32 y12) rfl rfl (by kernel_rfl) (fun w => by kernel_rfl) ?_
          exact ls_fin s0 (.int .u32 y12) (congrArg (fun z => upd z 52 _) hF.symm) ⟨rfl, rfl⟩ (sub_nil _)
        obtain ⟨t28, hc29, H⟩ := bind_some H
        obtain ⟨s15_15, hs15_15⟩ : ∃ z : Value → Sto → Prop, z = (fun v R => ∃ x30 : Unit, v = .int .u32 t28 ∧ R = stl []) := ⟨_, rfl⟩
        refine have_op (l := [_, _, _, _, _, _, _, _, _, _, _, _, _, _, _, _, _, _, _, _, _, _, _, _, _, _, _, _, _, _]) sha_spread.tab13 75 15 (fun sp => sp 15 = s15_15 ∧ sp 14 = s15_14) (fun sp on hA hon => ?_) (fun ops15_15 => ?_)
        · refine ⟨fun o ho vs Rs f' S' w hp hf hx hS hR hs => ?_⟩
          obtain rfl := Option.some.inj ho
          obtain ⟨hv14, hR14⟩ := (spe hA.2 hs15_14 (hp 14 (by kernel_rfl)))
          rw [hA.1, hs15_15]
          refine And.intro (fun a ha => (want_none rfl a ha).trans hon.symm) (And.intro (fun _ => ?_) (fun h => by rw [hon] at h; cases h))
          have hF := fr_next (rfl) ((hf 14 52 (by kernel_rfl) rfl).trans hv14)
          refine ls_fr hF ?_
          refine ls_call (fid := 47) (vals := #[.int .u32 y12, .int .i64 (7 : Int)]) (X := Unit) (fun x => .int .u32 t28) (fun x => stl []) 0 rfl rfl (by kernel_rfl) (fun w => by kernel_rfl) (fun w1 hs1 => sha_down.calls k2 y12 (7 : Int) t28 (bw w1) (St.refl w1)  hc29) ?_
          intro x30
          exact ls_fin (stl []) (.int .u32 t28) (congrArg (fun z => upd z 53 _) hF.symm) ⟨x30, rfl, rfl⟩ (sub_join _)
        obtain ⟨s15_16, hs15_16⟩ : ∃ z : Value → Sto → Prop, z = (fun v R => v = .int .u32 y12 ∧ R = s0) := ⟨_, rfl⟩
        refine have_op (l := [_, _, _, _, _, _, _, _, _, _, _, _, _, _, _, _, _, _, _, _, _, _, _, _, _, _, _, _, _, _]) sha_spread.tab13 75 16 (fun sp => sp 16 = s15_16) (fun sp on hA hon => ?_) (fun ops15_16 => ?_)
        · refine ⟨fun o ho vs Rs f' S' w hp hf hx hS hR hs => ?_⟩
          obtain rfl := Option.some.inj ho
          rw [hA, hs15_16]
          refine And.intro (fun a ha => (want_none rfl a ha).trans hon.symm) (And.intro (fun _ => ?_) (fun h => by rw [hon] at h; cases h))
          have hF := fr_next (rfl) ((hx 8 (by kernel_rfl)).trans (by kernel_rfl : (_ : Value) = .int .u32 y12))
          refine ls_fr hF ?_
          refine ls_val (v := .int .u32 y12) rfl rfl (by kernel_rfl) (fun w => by kernel_rfl) ?_
          exact ls_fin s0 (.int .u32 y12) (congrArg (fun z => upd z 54 _) hF.symm) ⟨rfl, rfl⟩ (sub_nil _)
        obtain ⟨t31, hc32, H⟩ := bind_some H
        obtain ⟨s15_17, hs15_17⟩ : ∃ z : Value → Sto → Prop, z = (fun v R => ∃ x33 : Unit, v = .int .u32 t31 ∧ R = stl []) := ⟨_, rfl⟩
        refine have_op (l := [_, _, _, _, _, _, _, _, _, _, _, _, _, _, _, _, _, _, _, _, _, _, _, _, _, _, _, _, _, _]) sha_spread.tab13 75 17 (fun sp => sp 17 = s15_17 ∧ sp 16 = s15_16) (fun sp on hA hon => ?_) (fun ops15_17 => ?_)
        · refine ⟨fun o ho vs Rs f' S' w hp hf hx hS hR hs => ?_⟩
          obtain rfl := Option.some.inj ho
          obtain ⟨hv16, hR16⟩ := (spe hA.2 hs15_16 (hp 16 (by kernel_rfl)))
          rw [hA.1, hs15_17]
          refine And.intro (fun a ha => (want_none rfl a ha).trans hon.symm) (And.intro (fun _ => ?_) (fun h => by rw [hon] at h; cases h))
          have hF := fr_next (rfl) ((hf 16 54 (by kernel_rfl) rfl).trans hv16)
          refine ls_fr hF ?_
          refine ls_call (fid := 47) (vals := #[.int .u32 y12, .int .i64 (18 : Int)]) (X := Unit) (fun x => .int .u32 t31) (fun x => stl []) 0 rfl rfl (by kernel_rfl) (fun w => by kernel_rfl) (fun w1 hs1 => sha_down.calls k2 y12 (18 : Int) t31 (bw w1) (St.refl w1)  hc32) ?_
          intro x33
          exact ls_fin (stl []) (.int .u32 t31) (congrArg (fun z => upd z 55 _) hF.symm) ⟨x33, rfl, rfl⟩ (sub_join _)
        obtain ⟨s15_18, hs15_18⟩ : ∃ z : Value → Sto → Prop, z = (fun v R => v = .int .u32 (bits .xor .u32 t28 t31) ∧ R = s0) := ⟨_, rfl⟩
        refine have_op (l := [_, _, _, _, _, _, _, _, _, _, _, _, _, _, _, _, _, _, _, _, _, _, _, _, _, _, _, _, _, _]) sha_spread.tab13 75 18 (fun sp => sp 18 = s15_18 ∧ sp 15 = s15_15 ∧ sp 17 = s15_17) (fun sp on hA hon => ?_) (fun ops15_18 => ?_)
        · refine ⟨fun o ho vs Rs f' S' w hp hf hx hS hR hs => ?_⟩
          obtain rfl := Option.some.inj ho
          obtain ⟨x30, hv15, hR15⟩ := (spe hA.2.1 hs15_15 (hp 15 (by kernel_rfl)))
          obtain ⟨x33, hv17, hR17⟩ := (spe hA.2.2 hs15_17 (hp 17 (by kernel_rfl)))
          rw [hA.1, hs15_18]
          refine And.intro (fun a ha => (want_none rfl a ha).trans hon.symm) (And.intro (fun _ => ?_) (fun h => by rw [hon] at h; cases h))
          have hF := fr_next (fr_next (rfl) ((hf 15 53 (by kernel_rfl) rfl).trans hv15)) ((hf 17 55 (by kernel_rfl) rfl).trans hv17)
          refine ls_fr hF ?_
          refine ls_val (v := .int .u32 (bits .xor .u32 t28 t31)) rfl rfl (by kernel_rfl) (fun w => by kernel_rfl) ?_
          exact ls_fin s0 (.int .u32 (bits .xor .u32 t28 t31)) (congrArg (fun z => upd z 56 _) hF.symm) ⟨rfl, rfl⟩ (sub_nil _)
        obtain ⟨s15_19, hs15_19⟩ : ∃ z : Value → Sto → Prop, z = (fun v R => v = .int .u32 y12 ∧ R = s0) := ⟨_, rfl⟩
        refine have_op (l := [_, _, _, _, _, _, _, _, _, _, _, _, _, _, _, _, _, _, _, _, _, _, _, _, _, _, _, _, _, _]) sha_spread.tab13 75 19 (fun sp => sp 19 = s15_19) (fun sp on hA hon => ?_) (fun ops15_19 => ?_)
        · refine ⟨fun o ho vs Rs f' S' w hp hf hx hS hR hs => ?_⟩
          obtain rfl := Option.some.inj ho
          rw [hA, hs15_19]
          refine And.intro (fun a ha => (want_none rfl a ha).trans hon.symm) (And.intro (fun _ => ?_) (fun h => by rw [hon] at h; cases h))
          have hF := fr_next (rfl) ((hx 8 (by kernel_rfl)).trans (by kernel_rfl : (_ : Value) = .int .u32 y12))
          refine ls_fr hF ?_
          refine ls_val (v := .int .u32 y12) rfl rfl (by kernel_rfl) (fun w => by kernel_rfl) ?_
          exact ls_fin s0 (.int .u32 y12) (congrArg (fun z => upd z 57 _) hF.symm) ⟨rfl, rfl⟩ (sub_nil _)
        obtain ⟨s15_20, hs15_20⟩ : ∃ z : Value → Sto → Prop, z = (fun v R => v = .int .u32 (Int.fdiv y12 8) ∧ R = s0) := ⟨_, rfl⟩
        refine have_op (l := [_, _, _, _, _, _, _, _, _, _, _, _, _, _, _, _, _, _, _, _, _, _, _, _, _, _, _, _, _, _]) sha_spread.tab13 75 20 (fun sp => sp 20 = s15_20 ∧ sp 19 = s15_19) (fun sp on hA hon => ?_) (fun ops15_20 => ?_)
        · refine ⟨fun o ho vs Rs f' S' w hp hf hx hS hR hs => ?_⟩
          obtain rfl := Option.some.inj ho
          obtain ⟨hv19, hR19⟩ := (spe hA.2 hs15_19 (hp 19 (by kernel_rfl)))
          rw [hA.1, hs15_20]
          refine And.intro (fun a ha => (want_none rfl a ha).trans hon.symm) (And.intro (fun _ => ?_) (fun h => by rw [hon] at h; cases h))
          have hF := fr_next (rfl) ((hf 19 57 (by kernel_rfl) rfl).trans hv19)
          refine ls_fr hF ?_
          refine ls_val (v := .int .u32 (Int.fdiv y12 8)) rfl rfl (by kernel_rfl) (fun w => by kernel_rfl) ?_
          exact ls_fin s0 (.int .u32 (Int.fdiv y12 8)) (congrArg (fun z => upd z 58 _) hF.symm) ⟨rfl, rfl⟩ (sub_nil _)
        obtain ⟨y34, hy35, H⟩ := lt_some H
        obtain ⟨s15_21, hs15_21⟩ : ∃ z : Value → Sto → Prop, z = (fun v R => v = .int .u32 y34 ∧ R = s0) := ⟨_, rfl⟩
        refine have_op (l := [_, _, _, _, _, _, _, _, _, _, _, _, _, _, _, _, _, _, _, _, _, _, _, _, _, _, _, _, _, _]) sha_spread.tab13 75 21 (fun sp => sp 21 = s15_21 ∧ sp 18 = s15_18 ∧ sp 20 = s15_20) (fun sp on hA hon => ?_) (fun ops15_21 => ?_)
        · refine ⟨fun o ho vs Rs f' S' w hp hf hx hS hR hs => ?_⟩
          obtain rfl := Option.some.inj ho
          obtain ⟨hv18, hR18⟩ := (spe hA.2.1 hs15_18 (hp 18 (by kernel_rfl)))
          obtain ⟨hv20, hR20⟩ := (spe hA.2.2 hs15_20 (hp 20 (by kernel_rfl)))
          rw [hA.1, hs15_21]
          refine And.intro (fun a ha => (want_none rfl a ha).trans hon.symm) (And.intro (fun _ => ?_) (fun h => by rw [hon] at h; cases h))
          have hF := fr_next (fr_next (rfl) ((hf 18 56 (by kernel_rfl) rfl).trans hv18)) ((hf 20 58 (by kernel_rfl) rfl).trans hv20)
          refine ls_fr hF ?_
          refine ls_val (v := .int .u32 (bits .xor .u32 (bits .xor .u32 t28 t31) (Int.fdiv y12 8))) rfl rfl (by kernel_rfl) (fun w => by kernel_rfl) ?_
          refine ls_ren 59 (v := .int .u32 (bits .xor .u32 (bits .xor .u32 t28 t31) (Int.fdiv y12 8))) (v' := .int .u32 y34) (by kernel_rfl) (by rw [hy35]) ?_
          exact ls_fin s0 (.int .u32 y34) ((upd_upd _ _ _ _).trans (congrArg (fun z => upd z 59 _) hF.symm)) ⟨rfl, rfl⟩ (sub_nil _)
        obtain ⟨y36, hy37, H⟩ := lt_some H
        obtain ⟨s15_22, hs15_22⟩ : ∃ z : Value → Sto → Prop, z = (fun v R => v = .int .u32 y36 ∧ R = s0) := ⟨_, rfl⟩
        refine have_op (l := [_, _, _, _, _, _, _, _, _, _, _, _, _, _, _, _, _, _, _, _, _, _, _, _, _, _, _, _, _, _]) sha_spread.tab13 75 22 (fun sp => sp 22 = s15_22 ∧ sp 13 = s15_13 ∧ sp 21 = s15_21) (fun sp on hA hon => ?_) (fun ops15_22 => ?_)
        · refine ⟨fun o ho vs Rs f' S' w hp hf hx hS hR hs => ?_⟩
          obtain rfl := Option.some.inj ho
          obtain ⟨hv13, hR13⟩ := (spe hA.2.1 hs15_13 (hp 13 (by kernel_rfl)))
          obtain ⟨hv21, hR21⟩ := (spe hA.2.2 hs15_21 (hp 21 (by kernel_rfl)))
          rw [hA.1, hs15_22]
          refine And.intro (fun a ha => (want_none rfl a ha).trans hon.symm) (And.intro (fun _ => ?_) (fun h => by rw [hon] at h; cases h))
          have hF := fr_next (fr_next (rfl) ((hf 13 51 (by kernel_rfl) rfl).trans hv13)) ((hf 21 59 (by kernel_rfl) rfl).trans hv21)
          refine ls_fr hF ?_
          refine ls_val (v := .int .u32 (IntKind.wrap .u32 ((IntKind.wrap .u32 (y22 + y26)) + y34))) rfl rfl (by kernel_rfl) (fun w => by kernel_rfl) ?_
          refine ls_ren 60 (v := .int .u32 (IntKind.wrap .u32 ((IntKind.wrap .u32 (y22 + y26)) + y34))) (v' := .int .u32 y36) (by kernel_rfl) (by rw [hy37]) ?_
          exact ls_fin s0 (.int .u32 y36) ((upd_upd _ _ _ _).trans (congrArg (fun z => upd z 60 _) hF.symm)) ⟨rfl, rfl⟩ (sub_nil _)
        obtain ⟨s15_23, hs15_23⟩ : ∃ z : Value → Sto → Prop, z = (fun v R => v = .int .i64 x6_2 ∧ R = s0) := ⟨_, rfl⟩
        refine have_op (l := [_, _, _, _, _, _, _, _, _, _, _, _, _, _, _, _, _, _, _, _, _, _, _, _, _, _, _, _, _, _]) sha_spread.tab13 75 23 (fun sp => sp 23 = s15_23) (fun sp on hA hon => ?_) (fun ops15_23 => ?_)
        · refine ⟨fun o ho vs Rs f' S' w hp hf hx hS hR hs => ?_⟩
          obtain rfl := Option.some.inj ho
          rw [hA, hs15_23]
          refine And.intro (fun a ha => (want_none rfl a ha).trans hon.symm) (And.intro (fun _ => ?_) (fun h => by rw [hon] at h; cases h))
          have hF := fr_next (rfl) ((hx 6 (by kernel_rfl)).trans (by kernel_rfl : (_ : Value) = .int .i64 x6_2))
          refine ls_fr hF ?_
          refine ls_val (v := .int .i64 x6_2) rfl rfl (by kernel_rfl) (fun w => by kernel_rfl) ?_
          exact ls_fin s0 (.int .i64 x6_2) (congrArg (fun z => upd z 61 _) hF.symm) ⟨rfl, rfl⟩ (sub_nil _)
        obtain ⟨s15_24, hs15_24⟩ : ∃ z : Value → Sto → Prop, z = (fun v R => v = .int .i64 (IntKind.wrap .i64 (x6_2 - (16 : Int))) ∧ R = s0) := ⟨_, rfl⟩
        refine have_op (l := [_, _, _, _, _, _, _, _, _, _, _, _, _, _, _, _, _, _, _, _, _, _, _, _, _, _, _, _, _, _]) sha_spread.tab13 75 24 (fun sp => sp 24 = s15_24 ∧ sp 23 = s15_23) (fun sp on hA hon => ?_) (fun ops15_24 => ?_)
        · refine ⟨fun o ho vs Rs f' S' w hp hf hx hS hR hs => ?_⟩
          obtain rfl := Option.some.inj ho
          obtain ⟨hv23, hR23⟩ := (spe hA.2 hs15_23 (hp 23 (by kernel_rfl)))
          rw [hA.1, hs15_24]
          refine And.intro (fun a ha => (want_none rfl a ha).trans hon.symm) (And.intro (fun _ => ?_) (fun h => by rw [hon] at h; cases h))
          have hF := fr_next (rfl) ((hf 23 61 (by kernel_rfl) rfl).trans hv23)
          refine ls_fr hF ?_
          refine ls_val (v := .int .i64 (IntKind.wrap .i64 (x6_2 - (16 : Int)))) rfl rfl (by kernel_rfl) (fun w => by kernel_rfl) ?_
          exact ls_fin s0 (.int .i64 (IntKind.wrap .i64 (x6_2 - (16 : Int)))) (congrArg (fun z => upd z 62 _) hF.symm) ⟨rfl, rfl⟩ (sub_nil _)
        obtain ⟨q38, H⟩ := ite_need H
        obtain ⟨q39, H⟩ := ite_need H
        obtain ⟨s15_25, hs15_25⟩ : ∃ z : Value → Sto → Prop, z = (fun v R => v = .pointer (some ⟨g3, (0 + (IntKind.wrap .i64 (x6_2 - (16 : Int))).toNat), none⟩) ∧ R = s0) := ⟨_, rfl⟩
        refine have_op (l := [_, _, _, _, _, _, _, _, _, _, _, _, _, _, _, _, _, _, _, _, _, _, _, _, _, _, _, _, _, _]) sha_spread.tab13 75 25 (fun sp => sp 25 = s15_25 ∧ sp 24 = s15_24) (fun sp on hA hon => ?_) (fun ops15_25 => ?_)
        · refine ⟨fun o ho vs Rs f' S' w hp hf hx hS hR hs => ?_⟩
          obtain rfl := Option.some.inj ho
          obtain ⟨hv24, hR24⟩ := (spe hA.2 hs15_24 (hp 24 (by kernel_rfl)))
          rw [hA.1, hs15_25]
          refine And.intro (fun a ha => (want_none rfl a ha).trans hon.symm) (And.intro (fun _ => ?_) (fun h => by rw [hon] at h; cases h))
          have hF := fr_next (fr_next (rfl) ((hx 3 (by kernel_rfl)).trans (by kernel_rfl : (_ : Value) = .pointer (some ⟨g3, 0, none⟩)))) ((hf 24 62 (by kernel_rfl) rfl).trans hv24)
          refine ls_fr hF ?_
          refine ls_idxa1 (g := g3) (off := 0) (i := IntKind.wrap .i64 (x6_2 - (16 : Int))) (kk := .i64) (ln := 64) (e := 48) rfl rfl (by kernel_rfl) rfl (by kernel_rfl) (by kernel_rfl) (by kernel_rfl) (by kernel_rfl) q38 q39 ?_
          exact ls_fin s0 (.pointer (some ⟨g3, (0 + (IntKind.wrap .i64 (x6_2 - (16 : Int))).toNat), none⟩)) (congrArg (fun z => upd z 63 _) hF.symm) ⟨rfl, rfl⟩ (sub_nil _)
        obtain ⟨y40, hy41, H⟩ := lt_some H
        obtain ⟨s15_26, hs15_26⟩ : ∃ z : Value → Sto → Prop, z = (fun v R => v = .int .u32 y40 ∧ R = s0) := ⟨_, rfl⟩
        refine have_op (l := [_, _, _, _, _, _, _, _, _, _, _, _, _, _, _, _, _, _, _, _, _, _, _, _, _, _, _, _, _, _]) sha_spread.tab13 75 26 (fun sp => sp 26 = s15_26 ∧ sp 25 = s15_25) (fun sp on hA hon => ?_) (fun ops15_26 => ?_)
        · refine ⟨fun o ho vs Rs f' S' w hp hf hx hS hR hs => ?_⟩
          obtain rfl := Option.some.inj ho
          obtain ⟨hv25, hR25⟩ := (spe hA.2 hs15_25 (hp 25 (by kernel_rfl)))
          rw [hA.1, hs15_26]
          refine And.intro (fun a ha => (want_none rfl a ha).trans hon.symm) (And.intro (fun _ => ?_) (fun h => by rw [hon] at h; cases h))
          have hF := fr_next (rfl) ((hf 25 63 (by kernel_rfl) rfl).trans hv25)
          refine ls_fr hF ?_
          refine ls_load (a0 := ⟨g3, (0 + (IntKind.wrap .i64 (x6_2 - (16 : Int))).toNat), none⟩) (v := .int .u32 (m2_2.1.getD (IntKind.wrap .i64 (x6_2 - (16 : Int))).toNat (0 : Int))) (de := (TypeDesc.int .u32)) rfl rfl (by kernel_rfl) rfl (by kernel_rfl) (by kernel_rfl) (by kernel_rfl) (fun w1 hs1 => cell_step hs1.below.bw (hs.var (k := 2) ((hS 2 (by kernel_rfl)).trans (by exact rfl)) (Sub4.trans (Sub4.all _) (Sub4.one (i := (IntKind.wrap .i64 (x6_2 - (16 : Int))).toNat) (Value.int .u32) m2_2.1 0 (by have := m2_2.2; omega))))) ?_
          refine ls_ren 64 (v := .int .u32 (m2_2.1.getD (IntKind.wrap .i64 (x6_2 - (16 : Int))).toNat (0 : Int))) (v' := .int .u32 y40) (by kernel_rfl) (by rw [hy41]) ?_
          exact ls_fin s0 (.int .u32 y40) ((upd_upd _ _ _ _).trans (congrArg (fun z => upd z 64 _) hF.symm)) ⟨rfl, rfl⟩ (sub_nil _)
        obtain ⟨s15_27, hs15_27⟩ : ∃ z : Value → Sto → Prop, z = (fun v R => v = .int .u32 (IntKind.wrap .u32 (y36 + y40)) ∧ R = s0) := ⟨_, rfl⟩
        refine have_op (l := [_, _, _, _, _, _, _, _, _, _, _, _, _, _, _, _, _, _, _, _, _, _, _, _, _, _, _, _, _, _]) sha_spread.tab13 75 27 (fun sp => sp 27 = s15_27 ∧ sp 22 = s15_22 ∧ sp 26 = s15_26) (fun sp on hA hon => ?_) (fun ops15_27 => ?_)
        · refine ⟨fun o ho vs Rs f' S' w hp hf hx hS hR hs => ?_⟩
          obtain rfl := Option.some.inj ho
          obtain ⟨hv22, hR22⟩ := (spe hA.2.1 hs15_22 (hp 22 (by kernel_rfl)))
          obtain ⟨hv26, hR26⟩ := (spe hA.2.2 hs15_26 (hp 26 (by kernel_rfl)))
          rw [hA.1, hs15_27]
          refine And.intro (fun a ha => (want_none rfl a ha).trans hon.symm) (And.intro (fun _ => ?_) (fun h => by rw [hon] at h; cases h))
          have hF := fr_next (fr_next (rfl) ((hf 22 60 (by kernel_rfl) rfl).trans hv22)) ((hf 26 64 (by kernel_rfl) rfl).trans hv26)
          refine ls_fr hF ?_
          refine ls_val (v := .int .u32 (IntKind.wrap .u32 (y36 + y40))) rfl rfl (by kernel_rfl) (fun w => by kernel_rfl) ?_
          exact ls_fin s0 (.int .u32 (IntKind.wrap .u32 (y36 + y40))) (congrArg (fun z => upd z 65 _) hF.symm) ⟨rfl, rfl⟩ (sub_nil _)
        refine cs_draw sha_spread.tab13 28 75 (spl [s15_0, s15_1, s15_2, s15_3, s15_4, s15_5, s15_6, s15_7, s15_8, s15_9, s15_10, s15_11, s15_12, s15_13, s15_14, s15_15, s15_16, s15_17, s15_18, s15_19, s15_20, s15_21, s15_22, s15_23, s15_24, s15_25, s15_26, s15_27]) (onl [true, true, true, true, true, true, true, true, true, true, true, true, true, true, true, true, true, true, true, true, true, true, true, true, true, true, true, true]) (by kernel_rfl) (by kernel_rfl) (by kernel_rfl) (by kernel_rfl) (rs := [_, _]) rfl (by kernel_rfl) (by kernel_rfl) (all_snoc (all_snoc (all_snoc (all_snoc (all_snoc (all_snoc (all_snoc (all_snoc (all_snoc (all_snoc (all_snoc (all_snoc (all_snoc (all_snoc (all_snoc (all_snoc (all_snoc (all_snoc (all_snoc (all_snoc (all_snoc (all_snoc (all_snoc (all_snoc (all_snoc (all_snoc (all_snoc (all_snoc (all_nil) (ops15_0 _ _ rfl rfl)) (ops15_1 _ _ rfl rfl)) (ops15_2 _ _ ⟨rfl, rfl⟩ rfl)) (ops15_3 _ _ rfl rfl)) (ops15_4 _ _ ⟨rfl, rfl⟩ rfl)) (ops15_5 _ _ ⟨rfl, rfl, rfl⟩ rfl)) (ops15_6 _ _ rfl rfl)) (ops15_7 _ _ ⟨rfl, rfl⟩ rfl)) (ops15_8 _ _ ⟨rfl, rfl, rfl⟩ rfl)) (ops15_9 _ _ rfl rfl)) (ops15_10 _ _ ⟨rfl, rfl⟩ rfl)) (ops15_11 _ _ ⟨rfl, rfl⟩ rfl)) (ops15_12 _ _ ⟨rfl, rfl⟩ rfl)) (ops15_13 _ _ ⟨rfl, rfl, rfl⟩ rfl)) (ops15_14 _ _ rfl rfl)) (ops15_15 _ _ ⟨rfl, rfl⟩ rfl)) (ops15_16 _ _ rfl rfl)) (ops15_17 _ _ ⟨rfl, rfl⟩ rfl)) (ops15_18 _ _ ⟨rfl, rfl, rfl⟩ rfl)) (ops15_19 _ _ rfl rfl)) (ops15_20 _ _ ⟨rfl, rfl⟩ rfl)) (ops15_21 _ _ ⟨rfl, rfl, rfl⟩ rfl)) (ops15_22 _ _ ⟨rfl, rfl, rfl⟩ rfl)) (ops15_23 _ _ rfl rfl)) (ops15_24 _ _ ⟨rfl, rfl⟩ rfl)) (ops15_25 _ _ ⟨rfl, rfl⟩ rfl)) (ops15_26 _ _ ⟨rfl, rfl⟩ rfl)) (ops15_27 _ _ ⟨rfl, rfl, rfl⟩ rfl)) ?_
        intro vs Rs f' S' hp hf hx hS hR
        obtain ⟨hv0, hR0⟩ := (spe rfl hs15_0 (hp 0 (by kernel_rfl)))
        obtain ⟨x18, hv2, hR2⟩ := (spe rfl hs15_2 (hp 2 (by kernel_rfl)))
        obtain ⟨x21, hv4, hR4⟩ := (spe rfl hs15_4 (hp 4 (by kernel_rfl)))
        obtain ⟨x30, hv15, hR15⟩ := (spe rfl hs15_15 (hp 15 (by kernel_rfl)))
        obtain ⟨x33, hv17, hR17⟩ := (spe rfl hs15_17 (hp 17 (by kernel_rfl)))
        obtain ⟨hv27, hR27⟩ := (spe rfl hs15_27 (hp 27 (by kernel_rfl)))
        refine ls_fr (F := upd (upd (upd (upd (upd f' 2 (.pointer (some ⟨g2, 0, none⟩))) 3 (.pointer (some ⟨g3, 0, none⟩))) 6 (.int .i64 x6_2)) 38 (.int .i64 x6_2)) 65 (.int .u32 (IntKind.wrap .u32 (y36 + y40)))) (fr_next (fr_next (fr_next (fr_next (fr_next (rfl) ((hx 2 (by kernel_rfl)).trans (by kernel_rfl : (_ : Value) = .pointer (some ⟨g2, 0, none⟩)))) ((hx 3 (by kernel_rfl)).trans (by kernel_rfl : (_ : Value) = .pointer (some ⟨g3, 0, none⟩)))) ((hx 6 (by kernel_rfl)).trans (by kernel_rfl : (_ : Value) = .int .i64 x6_2))) ((hf 0 38 (by kernel_rfl) rfl).trans hv0)) ((hf 27 65 (by kernel_rfl) rfl).trans hv27)) ?_
        refine ls_sub (sput (sput s0 1 (some (Ck.var 55 g2 (en (Value.int .u32) (vrep 64 (0 : Int)).1)))) 2 (some (Ck.var 55 g3 (en (Value.int .u32) m2_2.1)))) (sub_put ((hS 2 (by kernel_rfl)).trans (by exact rfl)) (sub_put ((hS 1 (by kernel_rfl)).trans (by exact rfl)) (sub_nil _))) ?_
        obtain ⟨q42, H⟩ := ite_need H
        obtain ⟨q43, H⟩ := ite_need H
        refine ls_idxa1 (g := g3) (off := 0) (i := x6_2) (kk := .i64) (ln := 64) (e := 48) rfl rfl (by kernel_rfl) rfl (by kernel_rfl) (by kernel_rfl) (by kernel_rfl) (by kernel_rfl) q42 q43 ?_
        obtain ⟨y44, hy45, H⟩ := lt_some H
        refine ls_storec (g := g3) (off := (0 + (x6_2).toNat)) (v := .int .u32 (IntKind.wrap .u32 (y36 + y40))) (vs := [Value.int .u32 (IntKind.wrap .u32 (y36 + y40))]) (cs := en (Value.int .u32) m2_2.1) (ty := 55) 2 rfl rfl rfl (by kernel_rfl) (by kernel_rfl) (by kernel_rfl) (by exact rfl) (by kernel_rfl) (len1 _) (one_cons rfl one_nil) (hl_of (Sub4.trans (Sub4.all _) (Sub4.one (i := (x6_2).toNat) (Value.int .u32) m2_2.1 0 (by have := m2_2.2; omega))) (len_eq (len1 _) (len1 _))) (cs' := en (Value.int .u32) y44.1) (splc_in (Sub4.all _) ((splc_one (Value.int .u32) m2_2.1 (IntKind.wrap .u32 (y36 + y40)) (by have := m2_2.2; omega)).trans (congrArg (fun z : (Vc Int 64) => en (Value.int .u32) z.1) hy45)) (splc_all (len_eq (len_en _ y44) (len_en _ m2_2))) (hl_of (Sub4.one (i := (x6_2).toNat) (Value.int .u32) m2_2.1 0 (by have := m2_2.2; omega)) (len_eq (len1 _) (len1 _)))) ?_
        refine ls_end ?_
        refine qn_block ?_
        refine qn_then ?_
        refine cs_region (l := [_, _, _]) ?_
        refine ls_val (v := .int .i64 x6_2) rfl rfl (by kernel_rfl) (fun w => by kernel_rfl) ?_
        refine ls_val (v := .int .i64 (IntKind.wrap .i64 (x6_2 + (1 : Int)))) rfl rfl (by kernel_rfl) (fun w => by kernel_rfl) ?_
        refine ls_val (v := .int .i64 (IntKind.wrap .i64 (x6_2 + (1 : Int)))) rfl rfl (by kernel_rfl) (fun w => by kernel_rfl) ?_
        refine ls_end ?_
        refine qn_again k2 (sput (sput s0 1 (some (Ck.var 55 g2 (en (Value.int .u32) (vrep 64 (0 : Int)).1)))) 2 (some (Ck.var 55 g3 (en (Value.int .u32) y44.1)))) (Nat.le_refl _) ⟨_, (IntKind.wrap .i64 (x6_2 + (1 : Int))), y44, fr_next (fr_next (fr_next (rfl) (by kernel_rfl)) (by kernel_rfl)) (by kernel_rfl), rfl, H⟩ (sub_put (by exact rfl) (sub_put (by exact rfl) (sub_nil _)))

/-! ### shadowbox/sha.keys: function 46 -/
def sha_keys.cst0 : Vc Int 64 := ⟨[(1116352408 : Int), (1899447441 : Int), (3049323471 : Int), (3921009573 : Int), (961987163 : Int), (1508970993 : Int), (2453635748 : Int), (2870763221 : Int), (3624381080 : Int), (310598401 : Int), (607225278 : Int), (1426881987 : Int), (1925078388 : Int), (2162078206 : Int), (2614888103 : Int), (3248222580 : Int), (3835390401 : Int), (4022224774 : Int), (264347078 : Int), (604807628 : Int), (770255983 : Int), (1249150122 : Int), (1555081692 : Int), (1996064986 : Int), (2554220882 : Int), (2821834349 : Int), (2952996808 : Int), (3210313671 : Int), (3336571891 : Int), (3584528711 : Int), (113926993 : Int), (338241895 : Int), (666307205 : Int), (773529912 : Int), (1294757372 : Int), (1396182291 : Int), (1695183700 : Int), (1986661051 : Int), (2177026350 : Int), (2456956037 : Int), (2730485921 : Int), (2820302411 : Int), (3259730800 : Int), (3345764771 : Int), (3516065817 : Int), (3600352804 : Int), (4094571909 : Int), (275423344 : Int), (430227734 : Int), (506948616 : Int), (659060556 : Int), (883997877 : Int), (958139571 : Int), (1322822218 : Int), (1537002063 : Int), (1747873779 : Int), (1955562222 : Int), (2024104815 : Int), (2227730452 : Int), (2361852424 : Int), (2428436474 : Int), (2756734187 : Int), (3204031479 : Int), (3329325298 : Int)], rfl⟩
def sha_keys.f (k : Nat) : Option ((Vc Int 64)) :=
  some sha_keys.cst0
set_option maxRecDepth 100000 in
set_option maxHeartbeats 4000000 in
theorem sha_keys.calls (k : Nat)  (r : (Vc Int 64)) (b : Bs) (hs0 : St b (stl []) b.w) (H : sha_keys.f k = some r) :
    Calls Try.prog 46 #[] b.w fun e w' => ∃ x : Unit, e = .returned (.agg ⟨en (Value.int .u32) r.1⟩) ∧ St b (stl []) w' := by
  unfold sha_keys.f at H
  refine enterb (n := 2) Try.func46 rfl (by kernel_rfl) (by kernel_rfl) hs0 ?_
  refine cs_sub (s0) (sub_nil _) ?_
  refine cs_seq ?_
  refine cs_region (l := [_]) ?_
  refine ls_new rfl rfl (by kernel_rfl) 0 (fun g => .pointer (some ⟨g, 0, none⟩)) (.cells ⟨en (Value.int .u32) (vrep 64 (0 : Int)).1⟩ 55) (fun w => by kernel_rfl) ?_
  intro g1
  refine ls_end ?_
  refine qn_then ?_
  refine cs_seq ?_
  refine cs_region (l := [_, _]) ?_
  refine ls_val (v := .agg ⟨en (Value.int .u32) sha_keys.cst0.1⟩) rfl rfl (by kernel_rfl) (fun w => by kernel_rfl) ?_
  refine ls_storec (g := g1) (off := 0) (v := .agg ⟨en (Value.int .u32) sha_keys.cst0.1⟩) (vs := en (Value.int .u32) sha_keys.cst0.1) (cs := en (Value.int .u32) (vrep 64 (0 : Int)).1) (ty := 55) 0 rfl rfl rfl (by kernel_rfl) (by kernel_rfl) (by kernel_rfl) (by exact rfl) (by kernel_rfl) (len_en _ sha_keys.cst0) (one_en (fun _ => rfl) _) (hl_of (Sub4.all _) (len_eq (len_en _ sha_keys.cst0) (len_en _ (vrep 64 (0 : Int))))) (cs' := en (Value.int .u32) sha_keys.cst0.1) (splc_all (len_eq (len_en _ sha_keys.cst0) (len_en _ (vrep 64 (0 : Int))))) ?_
  refine ls_end ?_
  refine qn_then ?_
  refine cs_ret' ?_
  obtain rfl := Option.some.inj H
  refine qr_res (rs := [_]) rfl (fun w' hs => ⟨[.agg ⟨en (Value.int .u32) sha_keys.cst0.1⟩], (.cell (by kernel_rfl) (run_cellres (by kernel_rfl) (by kernel_rfl) (len_en _ sha_keys.cst0) (hs.holds 0 _ (by exact rfl))) (.nil)), (), rfl, hs.pick (ts := []) (cs := []) trivial (by decide)⟩)

/-! ### (shadowbox/sha.State).Block: function 36 -/
def sha_State_Block.tab11 : List (List Nat) := [[], [0], [0, 1], [], [3], [3, 4], [], [6], [6, 7], [], [9], [9, 10], [], [12], [12, 13], [], [15], [15, 16], [], [18], [18, 19], [], [21], [21, 22], [0, 1, 2], [0, 1, 2, 3, 4, 5, 24], [0, 1, 2, 3, 4, 5, 6, 7, 8, 24, 25], [0, 1, 2, 3, 4, 5, 6, 7, 8, 9, 10, 11, 24, 25, 26], [0, 1, 2, 3, 4, 5, 6, 7, 8, 9, 10, 11, 12, 13, 14, 24, 25, 26, 27], [0, 1, 2, 3, 4, 5, 6, 7, 8, 9, 10, 11, 12, 13, 14, 15, 16, 17, 24, 25, 26, 27, 28], [0, 1, 2, 3, 4, 5, 6, 7, 8, 9, 10, 11, 12, 13, 14, 15, 16, 17, 18, 19, 20, 24, 25, 26, 27, 28, 29], [0, 1, 2, 3, 4, 5, 6, 7, 8, 9, 10, 11, 12, 13, 14, 15, 16, 17, 18, 19, 20, 21, 22, 23, 24, 25, 26, 27, 28, 29, 30]]
def sha_State_Block.lo2 (x7_1 : Int) (x8_1 : Int) (x9_1 : Int) (x10_1 : Int) (x11_1 : Int) (x12_1 : Int) (x13_1 : Int) (x14_1 : Int) : Nat → Int → (((Vc Int 8) × Int)) → Option (((Vc Int 8) × Int))
  | 0, _, _ => none
  | k2 + 1, x123_2, m0_2 => (if x123_2 < (8 : Int) then (if 0 ≤ x123_2 then lt (((⟨[x7_1, x8_1, x9_1, x10_1, x11_1, x12_1, x13_1, x14_1], rfl⟩ : (Vc Int 8)).1.getD (x123_2).toNat (0 : Int))) fun y40 => lt (IntKind.wrap .u32 ((m0_2.1.1.getD (x123_2).toNat (0 : Int)) + y40)) fun y42 => lt (vset m0_2.1 (x123_2).toNat y42) fun y44 => (sha_State_Block.lo2 x7_1 x8_1 x9_1 x10_1 x11_1 x12_1 x13_1 x14_1 k2) (IntKind.wrap .i64 (x123_2 + (1 : Int))) (y44, m0_2.2) else none) else some (m0_2.1, IntKind.wrap .u64 (m0_2.2 + (64 : Int))))
def sha_State_Block.jo1 (k : Nat) (a0 : ((Vc Int 8) × Int)) (x7_1 : Int) (x8_1 : Int) (x9_1 : Int) (x10_1 : Int) (x11_1 : Int) (x12_1 : Int) (x13_1 : Int) (x14_1 : Int) : Option (((Vc Int 8) × Int)) := sha_State_Block.lo2 x7_1 x8_1 x9_1 x10_1 x11_1 x12_1 x13_1 x14_1 k (0 : Int) a0
def sha_State_Block.tab53 : List (List Nat) := [[], [], [1], [], [1, 2, 3], [1, 2, 3, 4], [], [1, 2, 3, 4, 6], [1, 2, 3, 4, 5, 6, 7], [0, 1, 2, 3, 4, 5, 6, 7, 8], [], [0, 1, 2, 3, 4, 5, 6, 7, 8, 9, 10], [], [12], [12, 13], [0, 1, 2, 3, 4, 5, 6, 7, 8, 9, 10, 11, 12, 13, 14], [], [16], [16, 17], [0, 1, 2, 3, 4, 5, 6, 7, 8, 9, 10, 11, 12, 13, 14, 15, 16, 17, 18], [0, 1, 2, 3, 4, 5, 6, 7, 8, 9, 10, 11, 12, 13, 14, 15, 16, 17, 18, 19]]
def sha_State_Block.jo4 (t4 : (Vc Int 64)) (t7 : (Vc Int 64)) (x7_3 : Int) (x8_3 : Int) (x9_3 : Int) (x10_3 : Int) (x11_3 : Int) (x12_3 : Int) (x13_3 : Int) (x14_3 : Int) (x49_3 : Int) (k3 : Nat) (lo3 : Int → Int → Int → Int → Int → Int → Int → Int → Int → Option (((Vc Int 8) × Int))) : Option (((Vc Int 8) × Int)) := lt (bits .xor .u32 (if IntKind.signed .u32 then -1 else IntKind.max .u32) x11_3) fun y46 => lt (bits .xor .u32 (bits .and .u32 x11_3 x12_3) (bits .and .u32 y46 x13_3)) fun y48 => lt (bits .xor .u32 (bits .and .u32 x7_3 x8_3) (bits .and .u32 x7_3 x9_3)) fun y50 => lt (bits .xor .u32 y50 (bits .and .u32 x8_3 x9_3)) fun y52 => (sha_down.f k3 x11_3 (6 : Int)).bind fun t56 => (sha_down.f k3 x11_3 (11 : Int)).bind fun t59 => (sha_down.f k3 x11_3 (25 : Int)).bind fun t62 => lt (bits .xor .u32 (bits .xor .u32 t56 t59) t62) fun y65 => lt (IntKind.wrap .u32 ((IntKind.wrap .u32 (x14_3 + y65)) + y48)) fun y67 => (if 0 ≤ x49_3 then (if x49_3 < (64 : Int) then lt (IntKind.wrap .u32 (y67 + (t7.1.getD (x49_3).toNat (0 : Int)))) fun y71 => lt (IntKind.wrap .u32 (y71 + (t4.1.getD (x49_3).toNat (0 : Int)))) fun y73 => (sha_down.f k3 x7_3 (2 : Int)).bind fun t75 => (sha_down.f k3 x7_3 (13 : Int)).bind fun t78 => (sha_down.f k3 x7_3 (22 : Int)).bind fun t81 => lt (bits .xor .u32 (bits .xor .u32 t75 t78) t81) fun y84 => lt (IntKind.wrap .u32 (y73 + (IntKind.wrap .u32 (y84 + y52)))) fun y86 => lo3 y86 x7_3 x8_3 x9_3 (IntKind.wrap .u32 (x10_3 + y73)) x11_3 x12_3 x13_3 (IntKind.wrap .i64 (x49_3 + (1 : Int))) else none) else none)
def sha_State_Block.lo3 (t4 : (Vc Int 64)) (t7 : (Vc Int 64)) (jo1 : Int → Int → Int → Int → Int → Int → Int → Int → Option (((Vc Int 8) × Int))) : Nat → Int → Int → Int → Int → Int → Int → Int → Int → Int → Option (((Vc Int 8) × Int))
  | 0, _, _, _, _, _, _, _, _, _ => none
  | k3 + 1, x7_3, x8_3, x9_3, x10_3, x11_3, x12_3, x13_3, x14_3, x49_3 => (if x49_3 < (64 : Int) then (sha_State_Block.jo4 t4 t7 x7_3 x8_3 x9_3 x10_3 x11_3 x12_3 x13_3 x14_3 x49_3 k3 (sha_State_Block.lo3 t4 t7 jo1 k3)) else jo1 x7_3 x8_3 x9_3 x10_3 x11_3 x12_3 x13_3 x14_3)
def sha_State_Block.f (k : Nat) (a0 : ((Vc Int 8) × Int)) (a1 : (Vc Int 64)) : Option (((Vc Int 8) × Int)) :=
  (sha_spread.f k a1).bind fun t4 => (sha_keys.f k).bind fun t7 => (if (0 : Int) < (8 : Int) then lt ((a0.1.1.getD ((0 : Int)).toNat (0 : Int))) fun y15 => (if (1 : Int) < (8 : Int) then lt ((a0.1.1.getD ((1 : Int)).toNat (0 : Int))) fun y18 => (if (2 : Int) < (8 : Int) then lt ((a0.1.1.getD ((2 : Int)).toNat (0 : Int))) fun y21 => (if (3 : Int) < (8 : Int) then lt ((a0.1.1.getD ((3 : Int)).toNat (0 : Int))) fun y24 => (if (4 : Int) < (8 : Int) then lt ((a0.1.1.getD ((4 : Int)).toNat (0 : Int))) fun y27 => (if (5 : Int) < (8 : Int) then lt ((a0.1.1.getD ((5 : Int)).toNat (0 : Int))) fun y30 => (if (6 : Int) < (8 : Int) then lt ((a0.1.1.getD ((6 : Int)).toNat (0 : Int))) fun y33 => (if (7 : Int) < (8 : Int) then lt ((a0.1.1.getD ((7 : Int)).toNat (0 : Int))) fun y36 => sha_State_Block.lo3 t4 t7 (sha_State_Block.jo1 k a0) k y15 y18 y21 y24 y27 y30 y33 y36 (0 : Int) else none) else none) else none) else none) else none) else none) else none) else none)
set_option maxRecDepth 100000 in
set_option maxHeartbeats 4000000 in
theorem sha_State_Block.calls (k : Nat) (a0 : ((Vc Int 8) × Int)) (a1 : (Vc Int 64)) (r : ((Vc Int 8) × Int)) (b : Bs) (hs0 : St b (stl []) b.w) (H : sha_State_Block.f k a0 a1 = some r) :
    Calls Try.prog 36 #[.agg ⟨(en (Value.int .u32) a0.1.1 ++ [Value.int .u64 a0.2])⟩, .agg ⟨en (Value.int .u8) a1.1⟩] b.w fun e w' => ∃ x : Unit, e = .returned (.agg ⟨(en (Value.int .u32) r.1.1 ++ [Value.int .u64 r.2])⟩) ∧ St b (stl []) w' := by
  unfold sha_State_Block.f at H
  refine enterb (n := 141) Try.func36 rfl (by kernel_rfl) (by kernel_rfl) hs0 ?_
  refine cs_sub (s0) (sub_nil _) ?_
  refine cs_seq ?_
  refine cs_region (l := [_, _, _]) ?_
  refine ls_new rfl rfl (by kernel_rfl) 0 (fun g => .pointer (some ⟨g, 0, none⟩)) (.cells ⟨(en (Value.int .u32) a0.1.1 ++ [Value.int .u64 a0.2])⟩ 52) (fun w => by kernel_rfl) ?_
  intro g1
  refine ls_new rfl rfl (by kernel_rfl) 1 (fun g => .pointer (some ⟨g, 0, none⟩)) (.cells ⟨en (Value.int .u8) a1.1⟩ 39) (fun w => by kernel_rfl) ?_
  intro g2
  refine ls_new rfl rfl (by kernel_rfl) 2 (fun g => .pointer (some ⟨g, 0, none⟩)) (.cells ⟨(en (Value.int .u32) (vrep 8 (0 : Int)).1 ++ [Value.int .u64 (0 : Int)])⟩ 52) (fun w => by kernel_rfl) ?_
  intro g3
  refine ls_end ?_
  refine qn_then ?_
  refine cs_seq ?_
  refine cs_region (l := [_, _, _, _, _, _, _]) ?_
  refine ls_loadagg (a := ⟨g2, 0, none⟩) (sub := en (Value.int .u8) a1.1) rfl rfl (by kernel_rfl) rfl (by kernel_rfl) (by kernel_rfl) (by kernel_rfl) (len_en _ a1) (fun w hs => (hs.vars (k := 1) (by exact rfl) (Sub4.all _))) ?_
  obtain ⟨t4, hc5, H⟩ := bind_some H
  refine ls_callb (fid := 45) (vals := #[.agg ⟨en (Value.int .u8) a1.1⟩]) (X := Unit) (fun x => .agg ⟨en (Value.int .u32) t4.1⟩) (fun x => stl []) [] [] [] [] 3 rfl rfl (by kernel_rfl) (fun w => by kernel_rfl) trivial trivial (by decide) (fun w hs hb => sha_spread.calls k a1 t4 (lent b w [] []) hb  hc5) ?_
  intro x6
  obtain ⟨t7, hc8, H⟩ := bind_some H
  refine ls_callb (fid := 46) (vals := #[]) (X := Unit) (fun x => .agg ⟨en (Value.int .u32) t7.1⟩) (fun x => stl []) [] [] [] [] 3 rfl rfl (by kernel_rfl) (fun w => by kernel_rfl) trivial trivial (by decide) (fun w hs hb => sha_keys.calls k  t7 (lent b w [] []) hb  hc8) ?_
  intro x9
  refine ls_new rfl rfl (by kernel_rfl) 3 (fun g => .pointer (some ⟨g, 0, none⟩)) (.cells ⟨en (Value.int .u32) (vrep 64 (0 : Int)).1⟩ 55) (fun w => by kernel_rfl) ?_
  intro g10
  refine ls_new rfl rfl (by kernel_rfl) 4 (fun g => .pointer (some ⟨g, 0, none⟩)) (.cells ⟨en (Value.int .u32) (vrep 64 (0 : Int)).1⟩ 55) (fun w => by kernel_rfl) ?_
  intro g11
  refine ls_storec (g := g10) (off := 0) (v := .agg ⟨en (Value.int .u32) t4.1⟩) (vs := en (Value.int .u32) t4.1) (cs := en (Value.int .u32) (vrep 64 (0 : Int)).1) (ty := 55) 3 rfl rfl rfl (by kernel_rfl) (by kernel_rfl) (by kernel_rfl) (by exact rfl) (by kernel_rfl) (len_en _ t4) (one_en (fun _ => rfl) _) (hl_of (Sub4.all _) (len_eq (len_en _ t4) (len_en _ (vrep 64 (0 : Int))))) (cs' := en (Value.int .u32) t4.1) (splc_all (len_eq (len_en _ t4) (len_en _ (vrep 64 (0 : Int))))) ?_
  refine ls_storec (g := g11) (off := 0) (v := .agg ⟨en (Value.int .u32) t7.1⟩) (vs := en (Value.int .u32) t7.1) (cs := en (Value.int .u32) (vrep 64 (0 : Int)).1) (ty := 55) 4 rfl rfl rfl (by kernel_rfl) (by kernel_rfl) (by kernel_rfl) (by exact rfl) (by kernel_rfl) (len_en _ t7) (one_en (fun _ => rfl) _) (hl_of (Sub4.all _) (len_eq (len_en _ t7) (len_en _ (vrep 64 (0 : Int))))) (cs' := en (Value.int .u32) t7.1) (splc_all (len_eq (len_en _ t7) (len_en _ (vrep 64 (0 : Int))))) ?_
  refine ls_end ?_
  refine qn_then ?_
  refine cs_seq ?_
  obtain ⟨s13_0, hs13_0⟩ : ∃ z : Value → Sto → Prop, z = (fun v R => v = .pointer (some ⟨g1, (0 + 0), none⟩) ∧ R = s0) := ⟨_, rfl⟩
  refine have_op (l := [_, _, _, _, _, _, _, _, _, _, _, _, _, _, _, _, _, _, _, _, _, _, _, _, _, _, _, _, _, _, _, _]) sha_State_Block.tab11 5 0 (fun sp => sp 0 = s13_0) (fun sp on hA hon => ?_) (fun ops13_0 => ?_)
  · refine ⟨fun o ho vs Rs f' S' w hp hf hx hS hR hs => ?_⟩
    obtain rfl := Option.some.inj ho
    rw [hA, hs13_0]
    refine And.intro (fun a ha => (want_none rfl a ha).trans hon.symm) (And.intro (fun _ => ?_) (fun h => by rw [hon] at h; cases h))
    have hF := fr_next (rfl) ((hx 2 (by kernel_rfl)).trans (by kernel_rfl : (_ : Value) = .pointer (some ⟨g1, 0, none⟩)))
    refine ls_fr hF ?_
    refine ls_val (v := .pointer (some ⟨g1, (0 + 0), none⟩)) rfl rfl (by kernel_rfl) (fun w => by kernel_rfl) ?_
    exact ls_fin s0 (.pointer (some ⟨g1, (0 + 0), none⟩)) (congrArg (fun z => upd z 25 _) hF.symm) ⟨rfl, rfl⟩ (sub_nil _)
  obtain ⟨q14, H⟩ := ite_need H
  obtain ⟨s13_1, hs13_1⟩ : ∃ z : Value → Sto → Prop, z = (fun v R => v = .pointer (some ⟨g1, ((0 + 0) + ((0 : Int)).toNat), none⟩) ∧ R = s0) := ⟨_, rfl⟩
  refine have_op (l := [_, _, _, _, _, _, _, _, _, _, _, _, _, _, _, _, _, _, _, _, _, _, _, _, _, _, _, _, _, _, _, _]) sha_State_Block.tab11 5 1 (fun sp => sp 1 = s13_1 ∧ sp 0 = s13_0) (fun sp on hA hon => ?_) (fun ops13_1 => ?_)
  · refine ⟨fun o ho vs Rs f' S' w hp hf hx hS hR hs => ?_⟩
    obtain rfl := Option.some.inj ho
    obtain ⟨hv0, hR0⟩ := (spe hA.2 hs13_0 (hp 0 (by kernel_rfl)))
    rw [hA.1, hs13_1]
    refine And.intro (fun a ha => (want_none rfl a ha).trans hon.symm) (And.intro (fun _ => ?_) (fun h => by rw [hon] at h; cases h))
    have hF := fr_next (rfl) ((hf 0 25 (by kernel_rfl) rfl).trans hv0)
    refine ls_fr hF ?_
    refine ls_idxa1 (g := g1) (off := (0 + 0)) (i := (0 : Int)) (kk := .i64) (ln := 8) (e := 48) rfl rfl (by kernel_rfl) rfl (by kernel_rfl) (by kernel_rfl) (by kernel_rfl) (by kernel_rfl) (by decide) q14 ?_
    exact ls_fin s0 (.pointer (some ⟨g1, ((0 + 0) + ((0 : Int)).toNat), none⟩)) (congrArg (fun z => upd z 26 _) hF.symm) ⟨rfl, rfl⟩ (sub_nil _)
  obtain ⟨y15, hy16, H⟩ := lt_some H
  obtain ⟨s13_2, hs13_2⟩ : ∃ z : Value → Sto → Prop, z = (fun v R => v = .int .u32 y15 ∧ R = s0) := ⟨_, rfl⟩
  refine have_op (l := [_, _, _, _, _, _, _, _, _, _, _, _, _, _, _, _, _, _, _, _, _, _, _, _, _, _, _, _, _, _, _, _]) sha_State_Block.tab11 5 2 (fun sp => sp 2 = s13_2 ∧ sp 1 = s13_1) (fun sp on hA hon => ?_) (fun ops13_2 => ?_)
  · refine ⟨fun o ho vs Rs f' S' w hp hf hx hS hR hs => ?_⟩
    obtain rfl := Option.some.inj ho
    obtain ⟨hv1, hR1⟩ := (spe hA.2 hs13_1 (hp 1 (by kernel_rfl)))
    rw [hA.1, hs13_2]
    refine And.intro (fun a ha => (want_none rfl a ha).trans hon.symm) (And.intro (fun _ => ?_) (fun h => by rw [hon] at h; cases h))
    have hF := fr_next (rfl) ((hf 1 26 (by kernel_rfl) rfl).trans hv1)
    refine ls_fr hF ?_
    refine ls_load (a0 := ⟨g1, ((0 + 0) + ((0 : Int)).toNat), none⟩) (v := .int .u32 (a0.1.1.getD ((0 : Int)).toNat (0 : Int))) (de := (TypeDesc.int .u32)) rfl rfl (by kernel_rfl) rfl (by kernel_rfl) (by kernel_rfl) (by kernel_rfl) (fun w1 hs1 => cell_step hs1.below.bw (hs.var (k := 0) ((hS 0 (by kernel_rfl)).trans (by exact rfl)) (Sub4.trans (Sub4.trans (Sub4.all _) (Sub4.head _ _)) (Sub4.one (i := ((0 : Int)).toNat) (Value.int .u32) a0.1.1 0 (by have := a0.1.2; omega))))) ?_
    refine ls_ren 27 (v := .int .u32 (a0.1.1.getD ((0 : Int)).toNat (0 : Int))) (v' := .int .u32 y15) (by kernel_rfl) (by rw [hy16]) ?_
    exact ls_fin s0 (.int .u32 y15) ((upd_upd _ _ _ _).trans (congrArg (fun z => upd z 27 _) hF.symm)) ⟨rfl, rfl⟩ (sub_nil _)
  obtain ⟨s13_3, hs13_3⟩ : ∃ z : Value → Sto → Prop, z = (fun v R => v = .pointer (some ⟨g1, (0 + 0), none⟩) ∧ R = s0) := ⟨_, rfl⟩
  refine have_op (l := [_, _, _, _, _, _, _, _, _, _, _, _, _, _, _, _, _, _, _, _, _, _, _, _, _, _, _, _, _, _, _, _]) sha_State_Block.tab11 5 3 (fun sp => sp 3 = s13_3) (fun sp on hA hon => ?_) (fun ops13_3 => ?_)
  · refine ⟨fun o ho vs Rs f' S' w hp hf hx hS hR hs => ?_⟩
    obtain rfl := Option.some.inj ho
    rw [hA, hs13_3]
    refine And.intro (fun a ha => (want_none rfl a ha).trans hon.symm) (And.intro (fun _ => ?_) (fun h => by rw [hon] at h; cases h))
    have hF := fr_next (rfl) ((hx 2 (by kernel_rfl)).trans (by kernel_rfl : (_ : Value) = .pointer (some ⟨g1, 0, none⟩)))
    refine ls_fr hF ?_
    refine ls_val (v := .pointer (some ⟨g1, (0 + 0), none⟩)) rfl rfl (by kernel_rfl) (fun w => by kernel_rfl) ?_
    exact ls_fin s0 (.pointer (some ⟨g1, (0 + 0), none⟩)) (congrArg (fun z => upd z 28 _) hF.symm) ⟨rfl, rfl⟩ (sub_nil _)
  obtain ⟨q17, H⟩ := ite_need H
  obtain ⟨s13_4, hs13_4⟩ : ∃ z : Value → Sto → Prop, z = (fun v R => v = .pointer (some ⟨g1, ((0 + 0) + ((1 : Int)).toNat), none⟩) ∧ R = s0) := ⟨_, rfl⟩
  refine have_op (l := [_, _, _, _, _, _, _, _, _, _, _, _, _, _, _, _, _, _, _, _, _, _, _, _, _, _, _, _, _, _, _, _]) sha_State_Block.tab11 5 4 (fun sp => sp 4 = s13_4 ∧ sp 3 = s13_3) (fun sp on hA hon => ?_) (fun ops13_4 => ?_)
  · refine ⟨fun o ho vs Rs f' S' w hp hf hx hS hR hs => ?_⟩
    obtain rfl := Option.some.inj ho
    obtain ⟨hv3, hR3⟩ := (spe hA.2 hs13_3 (hp 3 (by kernel_rfl)))
    rw [hA.1, hs13_4]
    refine And.intro (fun a ha => (want_none rfl a ha).trans hon.symm) (And.intro (fun _ => ?_) (fun h => by rw [hon] at h; cases h))
    have hF := fr_next (rfl) ((hf 3 28 (by kernel_rfl) rfl).trans hv3)
    refine ls_fr hF ?_
    refine ls_idxa1 (g := g1) (off := (0 + 0)) (i := (1 : Int)) (kk := .i64) (ln := 8) (e := 48) rfl rfl (by kernel_rfl) rfl (by kernel_rfl) (by kernel_rfl) (by kernel_rfl) (by kernel_rfl) (by decide) q17 ?_
    exact ls_fin s0 (.pointer (some ⟨g1, ((0 + 0) + ((1 : Int)).toNat), none⟩)) (congrArg (fun z => upd z 29 _) hF.symm) ⟨rfl, rfl⟩ (sub_nil _)
  obtain ⟨y18, hy19, H⟩ := lt_some H
  obtain ⟨s13_5, hs13_5⟩ : ∃ z : Value → Sto → Prop, z = (fun v R => v = .int .u32 y18 ∧ R = s0) := ⟨_, rfl⟩
  refine have_op (l := [_, _, _, _, _, _, _, _, _, _, _, _, _, _, _, _, _, _, _, _, _, _, _, _, _, _, _, _, _, _, _, _]) sha_State_Block.tab11 5 5 (fun sp => sp 5 = s13_5 ∧ sp 4 = s13_4) (fun sp on hA hon => ?_) (fun ops13_5 => ?_)
  · refine ⟨fun o ho vs Rs f' S' w hp hf hx hS hR hs => ?_⟩
    obtain rfl := Option.some.inj ho
    obtain ⟨hv4, hR4⟩ := (spe hA.2 hs13_4 (hp 4 (by kernel_rfl)))
    rw [hA.1, hs13_5]
    refine And.intro (fun a ha => (want_none rfl a ha).trans hon.symm) (And.intro (fun _ => ?_) (fun h => by rw [hon] at h; cases h))
    have hF := fr_next (rfl) ((hf 4 29 (by kernel_rfl) rfl).trans hv4)
    refine ls_fr hF ?_
    refine ls_load (a0 := ⟨g1, ((0 + 0) + ((1 : Int)).toNat), none⟩) (v := .int .u32 (a0.1.1.getD ((1 : Int)).toNat (0 : Int))) (de := (TypeDesc.int .u32)) rfl rfl (by kernel_rfl) rfl (by kernel_rfl) (by kernel_rfl) (by kernel_rfl) (fun w1 hs1 => cell_step hs1.below.bw (hs.var (k := 0) ((hS 0 (by kernel_rfl)).trans (by exact rfl)) (Sub4.trans (Sub4.trans (Sub4.all _) (Sub4.head _ _)) (Sub4.one (i := ((1 : Int)).toNat) (Value.int .u32) a0.1.1 0 (by have := a0.1.2; omega))))) ?_
    refine ls_ren 30 (v := .int .u32 (a0.1.1.getD ((1 : Int)).toNat (0 : Int))) (v' := .int .u32 y18) (by kernel_rfl) (by rw [hy19]) ?_
    exact ls_fin s0 (.int .u32 y18) ((upd_upd _ _ _ _).trans (congrArg (fun z => upd z 30 _) hF.symm)) ⟨rfl, rfl⟩ (sub_nil _)
  obtain ⟨s13_6, hs13_6⟩ : ∃ z : Value → Sto → Prop, z = (fun v R => v = .pointer (some ⟨g1, (0 + 0), none⟩) ∧ R = s0) := ⟨_, rfl⟩
  refine have_op (l := [_, _, _, _, _, _, _, _, _, _, _, _, _, _, _, _, _, _, _, _, _, _, _, _, _, _, _, _, _, _, _, _]) sha_State_Block.tab11 5 6 (fun sp => sp 6 = s13_6) (fun sp on hA hon => ?_) (fun ops13_6 => ?_)
  · refine ⟨fun o ho vs Rs f' S' w hp hf hx hS hR hs => ?_⟩
    obtain rfl := Option.some.inj ho
    rw [hA, hs13_6]
    refine And.intro (fun a ha => (want_none rfl a ha).trans hon.symm) (And.intro (fun _ => ?_) (fun h => by rw [hon] at h; cases h))
    have hF := fr_next (rfl) ((hx 2 (by kernel_rfl)).trans (by kernel_rfl : (_ : Value) = .pointer (some ⟨g1, 0, none⟩)))
    refine ls_fr hF ?_
    refine ls_val (v := .pointer (some ⟨g1, (0 + 0), none⟩)) rfl rfl (by kernel_rfl) (fun w => by kernel_rfl) ?_
    exact ls_fin s0 (.pointer (some ⟨g1, (0 + 0), none⟩)) (congrArg (fun z => upd z 31 _) hF.symm) ⟨rfl, rfl⟩ (sub_nil _)
  obtain ⟨q20, H⟩ := ite_need H
  obtain ⟨s13_7, hs13_7⟩ : ∃ z : Value → Sto → Prop, z = (fun v R => v = .pointer (some ⟨g1, ((0 + 0) + ((2 : Int)).toNat), none⟩) ∧ R = s0) := ⟨_, rfl⟩
  refine have_op (l := [_, _, _, _, _, _, _, _, _, _, _, _, _, _, _, _, _, _, _, _, _, _, _, _, _, _, _, _, _, _, _, _]) sha_State_Block.tab11 5 7 (fun sp => sp 7 = s13_7 ∧ sp 6 = s13_6) (fun sp on hA hon => ?_) (fun ops13_7 => ?_)
  · refine ⟨fun o ho vs Rs f' S' w hp hf hx hS hR hs => ?_⟩
    obtain rfl := Option.some.inj ho
    obtain ⟨hv6, hR6⟩ := (spe hA.2 hs13_6 (hp 6 (by kernel_rfl)))
    rw [hA.1, hs13_7]
    refine And.intro (fun a ha => (want_none rfl a ha).trans hon.symm) (And.intro (fun _ => ?_) (fun h => by rw [hon] at h; cases h))
    have hF := fr_next (rfl) ((hf 6 31 (by kernel_rfl) rfl).trans hv6)
    refine ls_fr hF ?_
    refine ls_idxa1 (g := g1) (off := (0 + 0)) (i := (2 : Int)) (kk := .i64) (ln := 8) (e := 48) rfl rfl (by kernel_rfl) rfl (by kernel_rfl) (by kernel_rfl) (by kernel_rfl) (by kernel_rfl) (by decide) q20 ?_
    exact ls_fin s0 (.pointer (some ⟨g1, ((0 + 0) + ((2 : Int)).toNat), none⟩)) (congrArg (fun z => upd z 32 _) hF.symm) ⟨rfl, rfl⟩ (sub_nil _)
  obtain ⟨y21, hy22, H⟩ := lt_some H
  obtain ⟨s13_8, hs13_8⟩ : ∃ z : Value → Sto → Prop, z = (fun v R => v = .int .u32 y21 ∧ R = s0) := ⟨_, rfl⟩
  refine have_op (l := [_, _, _, _, _, _, _, _, _, _, _, _, _, _, _, _, _, _, _, _, _, _, _, _, _, _, _, _, _, _, _, _]) sha_State_Block.tab11 5 8 (fun sp => sp 8 = s13_8 ∧ sp 7 = s13_7) (fun sp on hA hon => ?_) (fun ops13_8 => ?_)
  · refine ⟨fun o ho vs Rs f' S' w hp hf hx hS hR hs => ?_⟩
    obtain rfl := Option.some.inj ho
    obtain ⟨hv7, hR7⟩ := (spe hA.2 hs13_7 (hp 7 (by kernel_rfl)))
    rw [hA.1, hs13_8]
    refine And.intro (fun a ha => (want_none rfl a ha).trans hon.symm) (And.intro (fun _ => ?_) (fun h => by rw [hon] at h; cases h))
    have hF := fr_next (rfl) ((hf 7 32 (by kernel_rfl) rfl).trans hv7)
    refine ls_fr hF ?_
    refine ls_load (a0 := ⟨g1, ((0 + 0) + ((2 : Int)).toNat), none⟩) (v := .int .u32 (a0.1.1.getD ((2 : Int)).toNat (0 : Int))) (de := (TypeDesc.int .u32)) rfl rfl (by kernel_rfl) rfl (by kernel_rfl) (by kernel_rfl) (by kernel_rfl) (fun w1 hs1 => cell_step hs1.below.bw (hs.var (k := 0) ((hS 0 (by kernel_rfl)).trans (by exact rfl)) (Sub4.trans (Sub4.trans (Sub4.all _) (Sub4.head _ _)) (Sub4.one (i := ((2 : Int)).toNat) (Value.int .u32) a0.1.1 0 (by have := a0.1.2; omega))))) ?_
    refine ls_ren 33 (v := .int .u32 (a0.1.1.getD ((2 : Int)).toNat (0 : Int))) (v' := .int .u32 y21) (by kernel_rfl) (by rw [hy22]) ?_
    exact ls_fin s0 (.int .u32 y21) ((upd_upd _ _ _ _).trans (congrArg (fun z => upd z 33 _) hF.symm)) ⟨rfl, rfl⟩ (sub_nil _)
  obtain ⟨s13_9, hs13_9⟩ : ∃ z : Value → Sto → Prop, z = (fun v R => v = .pointer (some ⟨g1, (0 + 0), none⟩) ∧ R = s0) := ⟨_, rfl⟩
  refine have_op (l := [_, _, _, _, _, _, _, _, _, _, _, _, _, _, _, _, _, _, _, _, _, _, _, _, _, _, _, _, _, _, _, _]) sha_State_Block.tab11 5 9 (fun sp => sp 9 = s13_9) (fun sp on hA hon => ?_) (fun ops13_9 => ?_)
  · refine ⟨fun o ho vs Rs f' S' w hp hf hx hS hR hs => ?_⟩
    obtain rfl := Option.some.inj ho
    rw [hA, hs13_9]
    refine And.intro (fun a ha => (want_none rfl a ha).trans hon.symm) (And.intro (fun _ => ?_) (fun h => by rw [hon] at h; cases h))
    have hF := fr_next (rfl) ((hx 2 (by kernel_rfl)).trans (by kernel_rfl : (_ : Value) = .pointer (some ⟨g1, 0, none⟩)))
    refine ls_fr hF ?_
    refine ls_val (v := .pointer (some ⟨g1, (0 + 0), none⟩)) rfl rfl (by kernel_rfl) (fun w => by kernel_rfl) ?_
    exact ls_fin s0 (.pointer (some ⟨g1, (0 + 0), none⟩)) (congrArg (fun z => upd z 34 _) hF.symm) ⟨rfl, rfl⟩ (sub_nil _)
  obtain ⟨q23, H⟩ := ite_need H
  obtain ⟨s13_10, hs13_10⟩ : ∃ z : Value → Sto → Prop, z = (fun v R => v = .pointer (some ⟨g1, ((0 + 0) + ((3 : Int)).toNat), none⟩) ∧ R = s0) := ⟨_, rfl⟩
  refine have_op (l := [_, _, _, _, _, _, _, _, _, _, _, _, _, _, _, _, _, _, _, _, _, _, _, _, _, _, _, _, _, _, _, _]) sha_State_Block.tab11 5 10 (fun sp => sp 10 = s13_10 ∧ sp 9 = s13_9) (fun sp on hA hon => ?_) (fun ops13_10 => ?_)
  · refine ⟨fun o ho vs Rs f' S' w hp hf hx hS hR hs => ?_⟩
    obtain rfl := Option.some.inj ho
    obtain ⟨hv9, hR9⟩ := (spe hA.2 hs13_9 (hp 9 (by kernel_rfl)))
    rw [hA.1, hs13_10]
    refine And.intro (fun a ha => (want_none rfl a ha).trans hon.symm) (And.intro (fun _ => ?_) (fun h => by rw [hon] at h; cases h))
    have hF := fr_next (rfl) ((hf 9 34 (by kernel_rfl) rfl).trans hv9)
    refine ls_fr hF ?_
    refine ls_idxa1 (g := g1) (off := (0 + 0)) (i := (3 : Int)) (kk := .i64) (ln := 8) (e := 48) rfl rfl (by kernel_rfl) rfl (by kernel_rfl) (by kernel_rfl) (by kernel_rfl) (by kernel_rfl) (by decide) q23 ?_
    exact ls_fin s0 (.pointer (some ⟨g1, ((0 + 0) + ((3 : Int)).toNat), none⟩)) (congrArg (fun z => upd z 35 _) hF.symm) ⟨rfl, rfl⟩ (sub_nil _)
  obtain ⟨y24, hy25, H⟩ := lt_some H
  obtain ⟨s13_11, hs13_11⟩ : ∃ z : Value → Sto → Prop, z = (fun v R => v = .int .u32 y24 ∧ R = s0) := ⟨_, rfl⟩
  refine have_op (l := [_, _, _, _, _, _, _, _, _, _, _, _, _, _, _, _, _, _, _, _, _, _, _, _, _, _, _, _, _, _, _, _]) sha_State_Block.tab11 5 11 (fun sp => sp 11 = s13_11 ∧ sp 10 = s13_10) (fun sp on hA hon => ?_) (fun ops13_11 => ?_)
  · refine ⟨fun o ho vs Rs f' S' w hp hf hx hS hR hs => ?_⟩
    obtain rfl := Option.some.inj ho
    obtain ⟨hv10, hR10⟩ := (spe hA.2 hs13_10 (hp 10 (by kernel_rfl)))
    rw [hA.1, hs13_11]
    refine And.intro (fun a ha => (want_none rfl a ha).trans hon.symm) (And.intro (fun _ => ?_) (fun h => by rw [hon] at h; cases h))
    have hF := fr_next (rfl) ((hf 10 35 (by kernel_rfl) rfl).trans hv10)
    refine ls_fr hF ?_
    refine ls_load (a0 := ⟨g1, ((0 + 0) + ((3 : Int)).toNat), none⟩) (v := .int .u32 (a0.1.1.getD ((3 : Int)).toNat (0 : Int))) (de := (TypeDesc.int .u32)) rfl rfl (by kernel_rfl) rfl (by kernel_rfl) (by kernel_rfl) (by kernel_rfl) (fun w1 hs1 => cell_step hs1.below.bw (hs.var (k := 0) ((hS 0 (by kernel_rfl)).trans (by exact rfl)) (Sub4.trans (Sub4.trans (Sub4.all _) (Sub4.head _ _)) (Sub4.one (i := ((3 : Int)).toNat) (Value.int .u32) a0.1.1 0 (by have := a0.1.2; omega))))) ?_
    refine ls_ren 36 (v := .int .u32 (a0.1.1.getD ((3 : Int)).toNat (0 : Int))) (v' := .int .u32 y24) (by kernel_rfl) (by rw [hy25]) ?_
    exact ls_fin s0 (.int .u32 y24) ((upd_upd _ _ _ _).trans (congrArg (fun z => upd z 36 _) hF.symm)) ⟨rfl, rfl⟩ (sub_nil _)
  obtain ⟨s13_12, hs13_12⟩ : ∃ z : Value → Sto → Prop, z = (fun v R => v = .pointer (some ⟨g1, (0 + 0), none⟩) ∧ R = s0) := ⟨_, rfl⟩
  refine have_op (l := [_, _, _, _, _, _, _, _, _, _, _, _, _, _, _, _, _, _, _, _, _, _, _, _, _, _, _, _, _, _, _, _]) sha_State_Block.tab11 5 12 (fun sp => sp 12 = s13_12) (fun sp on hA hon => ?_) (fun ops13_12 => ?_)
  · refine ⟨fun o ho vs Rs f' S' w hp hf hx hS hR hs => ?_⟩
    obtain rfl := Option.some.inj ho
    rw [hA, hs13_12]
    refine And.intro (fun a ha => (want_none rfl a ha).trans hon.symm) (And.intro (fun _ => ?_) (fun h => by rw [hon] at h; cases h))
    have hF := fr_next (rfl) ((hx 2 (by kernel_rfl)).trans (by kernel_rfl : (_ : Value) = .pointer (some ⟨g1, 0, none⟩)))
    refine ls_fr hF ?_
    refine ls_val (v := .pointer (some ⟨g1, (0 + 0), none⟩)) rfl rfl (by kernel_rfl) (fun w => by kernel_rfl) ?_
    exact ls_fin s0 (.pointer (some ⟨g1, (0 + 0), none⟩)) (congrArg (fun z => upd z 37 _) hF.symm) ⟨rfl, rfl⟩ (sub_nil _)
  obtain ⟨q26, H⟩ := ite_need H
  obtain ⟨s13_13, hs13_13⟩ : ∃ z : Value → Sto → Prop, z = (fun v R => v = .pointer (some ⟨g1, ((0 + 0) + ((4 : Int)).toNat), none⟩) ∧ R = s0) := ⟨_, rfl⟩
  refine have_op (l := [_, _, _, _, _, _, _, _, _, _, _, _, _, _, _, _, _, _, _, _, _, _, _, _, _, _, _, _, _, _, _, _]) sha_State_Block.tab11 5 13 (fun sp => sp 13 = s13_13 ∧ sp 12 = s13_12) (fun sp on hA hon => ?_) (fun ops13_13 => ?_)
  · refine ⟨fun o ho vs Rs f' S' w hp hf hx hS hR hs => ?_⟩
    obtain rfl := Option.some.inj ho
    obtain ⟨hv12, hR12⟩ := (spe hA.2 hs13_12 (hp 12 (by kernel_rfl)))
    rw [hA.1, hs13_13]
    refine And.intro (fun a ha => (want_none rfl a ha).trans hon.symm) (And.intro (fun _ => ?_) (fun h => by rw [hon] at h; cases h))
    have hF := fr_next (rfl) ((hf 12 37 (by kernel_rfl) rfl).trans hv12)
    refine ls_fr hF ?_
    refine ls_idxa1 (g := g1) (off := (0 + 0)) (i := (4 : Int)) (kk := .i64) (ln := 8) (e := 48) rfl rfl (by kernel_rfl) rfl (by kernel_rfl) (by kernel_rfl) (by kernel_rfl) (by kernel_rfl) (by decide) q26 ?_
    exact ls_fin s0 (.pointer (some ⟨g1, ((0 + 0) + ((4 : Int)).toNat), none⟩)) (congrArg (fun z => upd z 38 _) hF.symm) ⟨rfl, rfl⟩ (sub_nil _)
  obtain ⟨y27, hy28, H⟩ := lt_some H
  obtain ⟨s13_14, hs13_14⟩ : ∃ z : Value → Sto → Prop, z = (fun v R => v = .int .u32 y27 ∧ R = s0) := ⟨_, rfl⟩
  refine have_op (l := [_, _, _, _, _, _, _, _, _, _, _, _, _, _, _, _, _, _, _, _, _, _, _, _, _, _, _, _, _, _, _, _]) sha_State_Block.tab11 5 14 (fun sp => sp 14 = s13_14 ∧ sp 13 = s13_13) (fun sp on hA hon => ?_) (fun ops13_14 => ?_)
  · refine ⟨fun o ho vs Rs f' S' w hp hf hx hS hR hs => ?_⟩
    obtain rfl := Option.some.inj ho
    obtain ⟨hv13, hR13⟩ := (spe hA.2 hs13_13 (hp 13 (by kernel_rfl)))
    rw [hA.1, hs13_14]
    refine And.intro (fun a ha => (want_none rfl a ha).trans hon.symm) (And.intro (fun _ => ?_) (fun h => by rw [hon] at h; cases h))
    have hF := fr_next (rfl) ((hf 13 38 (by kernel_rfl) rfl).trans hv13)
    refine ls_fr hF ?_
    refine ls_load (a0 := ⟨g1, ((0 + 0) + ((4 : Int)).toNat), none⟩) (v := .int .u32 (a0.1.1.getD ((4 : Int)).toNat (0 : Int))) (de := (TypeDesc.int .u32)) rfl rfl (by kernel_rfl) rfl (by kernel_rfl) (by kernel_rfl) (by kernel_rfl) (fun w1 hs1 => cell_step hs1.below.bw (hs.var (k := 0) ((hS 0 (by kernel_rfl)).trans (by exact rfl)) (Sub4.trans (Sub4.trans (Sub4.all _) (Sub4.head _ _)) (Sub4.one (i := ((4 : Int)).toNat) (Value.int .u32) a0.1.1 0 (by have := a0.1.2; omega))))) ?_
    refine ls_ren 39 (v := .int .u32 (a0.1.1.getD ((4 : Int)).toNat (0 : Int))) (v' := .int .u32 y27) (by kernel_rfl) (by rw [hy28]) ?_
    exact ls_fin s0 (.int .u32 y27) ((upd_upd _ _ _ _).trans (congrArg (fun z => upd z 39 _) hF.symm)) ⟨rfl, rfl⟩ (sub_nil _)
  obtain ⟨s13_15, hs13_15⟩ : ∃ z : Value → Sto → Prop, z = (fun v R => v = .pointer (some ⟨g1, (0 + 0), none⟩) ∧ R = s0) := ⟨_, rfl⟩
  refine have_op (l := [_, _, _, _, _, _, _, _, _, _, _, _, _, _, _, _, _, _, _, _, _, _, _, _, _, _, _, _, _, _, _, _]) sha_State_Block.tab11 5 15 (fun sp => sp 15 = s13_15) (fun sp on hA hon => ?_) (fun ops13_15 => ?_)
  · refine ⟨fun o ho vs Rs f' S' w hp hf hx hS hR hs => ?_⟩
    obtain rfl := Option.some.inj ho
    rw [hA, hs13_15]
    refine And.intro (fun a ha => (want_none rfl a ha).trans hon.symm) (And.intro (fun _ => ?_) (fun h => by rw [hon] at h; cases h))
    have hF := fr_next (rfl) ((hx 2 (by kernel_rfl)).trans (by kernel_rfl : (_ : Value) = .pointer (some ⟨g1, 0, none⟩)))
    refine ls_fr hF ?_
    refine ls_val (v := .pointer (some ⟨g1, (0 + 0), none⟩)) rfl rfl (by kernel_rfl) (fun w => by kernel_rfl) ?_
    exact ls_fin s0 (.pointer (some ⟨g1, (0 + 0), none⟩)) (congrArg (fun z => upd z 40 _) hF.symm) ⟨rfl, rfl⟩ (sub_nil _)
  obtain ⟨q29, H⟩ := ite_need H
  obtain ⟨s13_16, hs13_16⟩ : ∃ z : Value → Sto → Prop, z = (fun v R => v = .pointer (some ⟨g1, ((0 + 0) + ((5 : Int)).toNat), none⟩) ∧ R = s0) := ⟨_, rfl⟩
  refine have_op (l := [_, _, _, _, _, _, _, _, _, _, _, _, _, _, _, _, _, _, _, _, _, _, _, _, _, _, _, _, _, _, _, _]) sha_State_Block.tab11 5 16 (fun sp => sp 16 = s13_16 ∧ sp 15 = s13_15) (fun sp on hA hon => ?_) (fun ops13_16 => ?_)
  · refine ⟨fun o ho vs Rs f' S' w hp hf hx hS hR hs => ?_⟩
    obtain rfl := Option.some.inj ho
    obtain ⟨hv15, hR15⟩ := (spe hA.2 hs13_15 (hp 15 (by kernel_rfl)))
    rw [hA.1, hs13_16]
    refine And.intro (fun a ha => (want_none rfl a ha).trans hon.symm) (And.intro (fun _ => ?_) (fun h => by rw [hon] at h; cases h))
    have hF := fr_next (rfl) ((hf 15 40 (by kernel_rfl) rfl).trans hv15)
    refine ls_fr hF ?_
    refine ls_idxa1 (g := g1) (off := (0 + 0)) (i := (5 : Int)) (kk := .i64) (ln := 8) (e := 48) rfl rfl (by kernel_rfl) rfl (by kernel_rfl) (by kernel_rfl) (by kernel_rfl) (by kernel_rfl) (by decide) q29 ?_
    exact ls_fin s0 (.pointer (some ⟨g1, ((0 + 0) + ((5 : Int)).toNat), none⟩)) (congrArg (fun z => upd z 41 _) hF.symm) ⟨rfl, rfl⟩ (sub_nil _)
  obtain ⟨y30, hy31, H⟩ := lt_some H
  obtain ⟨s13_17, hs13_17⟩ : ∃ z : Value → Sto → Prop, z = (fun v R => v = .int .u32 y30 ∧ R = s0) := ⟨_, rfl⟩
  refine have_op (l := [_, _, _, _, _, _, _, _, _, _, _, _, _, _, _, _, _, _, _, _, _, _, _, _, _, _, _, _, _, _, _, _]) sha_State_Block.tab11 5 17 (fun sp => sp 17 = s13_17 ∧ sp 16 = s13_16) (fun sp on hA hon => ?_) (fun ops13_17 => ?_)
  · refine ⟨fun o ho vs Rs f' S' w hp hf hx hS hR hs => ?_⟩
    obtain rfl := Option.some.inj ho
    obtain ⟨hv16, hR16⟩ := (spe hA.2 hs13_16 (hp 16 (by kernel_rfl)))
    rw [hA.1, hs13_17]
    refine And.intro (fun a ha => (want_none rfl a ha).trans hon.symm) (And.intro (fun _ => ?_) (fun h => by rw [hon] at h; cases h))
    have hF := fr_next (rfl) ((hf 16 41 (by kernel_rfl) rfl).trans hv16)
    refine ls_fr hF ?_
    refine ls_load (a0 := ⟨g1, ((0 + 0) + ((5 : Int)).toNat), none⟩) (v := .int .u32 (a0.1.1.getD ((5 : Int)).toNat (0 : Int))) (de := (TypeDesc.int .u32)) rfl rfl (by kernel_rfl) rfl (by kernel_rfl) (by kernel_rfl) (by kernel_rfl) (fun w1 hs1 => cell_step hs1.below.bw (hs.var (k := 0) ((hS 0 (by kernel_rfl)).trans (by exact rfl)) (Sub4.trans (Sub4.trans (Sub4.all _) (Sub4.head _ _)) (Sub4.one (i := ((5 : Int)).toNat) (Value.int .u32) a0.1.1 0 (by have := a0.1.2; omega))))) ?_
    refine ls_ren 42 (v := .int .u32 (a0.1.1.getD ((5 : Int)).toNat (0 : Int))) (v' := .int .u32 y30) (by kernel_rfl) (by rw [hy31]) ?_
    exact ls_fin s0 (.int .u32 y30) ((upd_upd _ _ _ _).trans (congrArg (fun z => upd z 42 _) hF.symm)) ⟨rfl, rfl⟩ (sub_nil _)
  obtain ⟨s13_18, hs13_18⟩ : ∃ z : Value → Sto → Prop, z = (fun v R => v = .pointer (some ⟨g1, (0 + 0), none⟩) ∧ R = s0) := ⟨_, rfl⟩
  refine have_op (l := [_, _, _, _, _, _, _, _, _, _, _, _, _, _, _, _, _, _, _, _, _, _, _, _, _, _, _, _, _, _, _, _]) sha_State_Block.tab11 5 18 (fun sp => sp 18 = s13_18) (fun sp on hA hon => ?_) (fun ops13_18 => ?_)
  · refine ⟨fun o ho vs Rs f' S' w hp hf hx hS hR hs => ?_⟩
    obtain rfl := Option.some.inj ho
    rw [hA, hs13_18]
    refine And.intro (fun a ha => (want_none rfl a ha).trans hon.symm) (And.intro (fun _ => ?_) (fun h => by rw [hon] at h; cases h))
    have hF := fr_next (rfl) ((hx 2 (by kernel_rfl)).trans (by kernel_rfl : (_ : Value) = .pointer (some ⟨g1, 0, none⟩)))
    refine ls_fr hF ?_
    refine ls_val (v := .pointer (some ⟨g1, (0 + 0), none⟩)) rfl rfl (by kernel_rfl) (fun w => by kernel_rfl) ?_
    exact ls_fin s0 (.pointer (some ⟨g1, (0 + 0), none⟩)) (congrArg (fun z => upd z 43 _) hF.symm) ⟨rfl, rfl⟩ (sub_nil _)
  obtain ⟨q32, H⟩ := ite_need H
  obtain ⟨s13_19, hs13_19⟩ : ∃ z : Value → Sto → Prop, z = (fun v R => v = .pointer (some ⟨g1, ((0 + 0) + ((6 : Int)).toNat), none⟩) ∧ R = s0) := ⟨_, rfl⟩
  refine have_op (l := [_, _, _, _, _, _, _, _, _, _, _, _, _, _, _, _, _, _, _, _, _, _, _, _, _, _, _, _, _, _, _, _]) sha_State_Block.tab11 5 19 (fun sp => sp 19 = s13_19 ∧ sp 18 = s13_18) (fun sp on hA hon => ?_) (fun ops13_19 => ?_)
  · refine ⟨fun o ho vs Rs f' S' w hp hf hx hS hR hs => ?_⟩
    obtain rfl := Option.some.inj ho
    obtain ⟨hv18, hR18⟩ := (spe hA.2 hs13_18 (hp 18 (by kernel_rfl)))
    rw [hA.1, hs13_19]
    refine And.intro (fun a ha => (want_none rfl a ha).trans hon.symm) (And.intro (fun _ => ?_) (fun h => by rw [hon] at h; cases h))
    have hF := fr_next (rfl) ((hf 18 43 (by kernel_rfl) rfl).trans hv18)
    refine ls_fr hF ?_
    refine ls_idxa1 (g := g1) (off := (0 + 0)) (i := (6 : Int)) (kk := .i64) (ln := 8) (e := 48) rfl rfl (by kernel_rfl) rfl (by kernel_rfl) (by kernel_rfl) (by kernel_rfl) (by kernel_rfl) (by decide) q32 ?_
    exact ls_fin s0 (.pointer (some ⟨g1, ((0 + 0) + ((6 : Int)).toNat), none⟩)) (congrArg (fun z => upd z 44 _) hF.symm) ⟨rfl, rfl⟩ (sub_nil _)
  obtain ⟨y33, hy34, H⟩ := lt_some H
  obtain ⟨s13_20, hs13_20⟩ : ∃ z : Value → Sto → Prop, z = (fun v R => v = .int .u32 y33 ∧ R = s0) := ⟨_, rfl⟩
  refine have_op (l := [_, _, _, _, _, _, _, _, _, _, _, _, _, _, _, _, _, _, _, _, _, _, _, _, _, _, _, _, _, _, _, _]) sha_State_Block.tab11 5 20 (fun sp => sp 20 = s13_20 ∧ sp 19 = s13_19) (fun sp on hA hon => ?_) (fun ops13_20 => ?_)
  · refine ⟨fun o ho vs Rs f' S' w hp hf hx hS hR hs => ?_⟩
    obtain rfl := Option.some.inj ho
    obtain ⟨hv19, hR19⟩ := (spe hA.2 hs13_19 (hp 19 (by kernel_rfl)))
    rw [hA.1, hs13_20]
    refine And.intro (fun a ha => (want_none rfl a ha).trans hon.symm) (And.intro (fun _ => ?_) (fun h => by rw [hon] at h; cases h))
    have hF := fr_next (rfl) ((hf 19 44 (by kernel_rfl) rfl).trans hv19)
    refine ls_fr hF ?_
    refine ls_load (a0 := ⟨g1, ((0 + 0) + ((6 : Int)).toNat), none⟩) (v := .int .u32 (a0.1.1.getD ((6 : Int)).toNat (0 : Int))) (de := (TypeDesc.int .u32)) rfl rfl (by kernel_rfl) rfl (by kernel_rfl) (by kernel_rfl) (by kernel_rfl) (fun w1 hs1 => cell_step hs1.below.bw (hs.var (k := 0) ((hS 0 (by kernel_rfl)).trans (by exact rfl)) (Sub4.trans (Sub4.trans (Sub4.all _) (Sub4.head _ _)) (Sub4.one (i := ((6 : Int)).toNat) (Value.int .u32) a0.1.1 0 (by have := a0.1.2; omega))))) ?_
    refine ls_ren 45 (v := .int .u32 (a0.1.1.getD ((6 : Int)).toNat (0 : Int))) (v' := .int .u32 y33) (by kernel_rfl) (by rw [hy34]) ?_
    exact ls_fin s0 (.int .u32 y33) ((upd_upd _ _ _ _).trans (congrArg (fun z => upd z 45 _) hF.symm)) ⟨rfl, rfl⟩ (sub_nil _)
  obtain ⟨s13_21, hs13_21⟩ : ∃ z : Value → Sto → Prop, z = (fun v R => v = .pointer (some ⟨g1, (0 + 0), none⟩) ∧ R = s0) := ⟨_, rfl⟩
  refine have_op (l := [_, _, _, _, _, _, _, _, _, _, _, _, _, _, _, _, _, _, _, _, _, _, _, _, _, _, _, _, _, _, _, _]) sha_State_Block.tab11 5 21 (fun sp => sp 21 = s13_21) (fun sp on hA hon => ?_) (fun ops13_21 => ?_)
  · refine ⟨fun o ho vs Rs f' S' w hp hf hx hS hR hs => ?_⟩
    obtain rfl := Option.some.inj ho
    rw [hA, hs13_21]
    refine And.intro (fun a ha => (want_none rfl a ha).trans hon.symm) (And.intro (fun _ => ?_) (fun h => by rw [hon] at h; cases h))
    have hF := fr_next (rfl) ((hx 2 (by kernel_rfl)).trans (by kernel_rfl : (_ : Value) = .pointer (some ⟨g1, 0, none⟩)))
    refine ls_fr hF ?_
    refine ls_val (v := .pointer (some ⟨g1, (0 + 0), none⟩)) rfl rfl (by kernel_rfl) (fun w => by kernel_rfl) ?_
    exact ls_fin s0 (.pointer (some ⟨g1, (0 + 0), none⟩)) (congrArg (fun z => upd z 46 _) hF.symm) ⟨rfl, rfl⟩ (sub_nil _)
  obtain ⟨q35, H⟩ := ite_need H
  obtain ⟨s13_22, hs13_22⟩ : ∃ z : Value → Sto → Prop, z = (fun v R => v = .pointer (some ⟨g1, ((0 + 0) + ((7 : Int)).toNat), none⟩) ∧ R = s0) := ⟨_, rfl⟩
  refine have_op (l := [_, _, _, _, _, _, _, _, _, _, _, _, _, _, _, _, _, _, _, _, _, _, _, _, _, _, _, _, _, _, _, _]) sha_State_Block.tab11 5 22 (fun sp => sp 22 = s13_22 ∧ sp 21 = s13_21) (fun sp on hA hon => ?_) (fun ops13_22 => ?_)
  · refine ⟨fun o ho vs Rs f' S' w hp hf hx hS hR hs => ?_⟩
    obtain rfl := Option.some.inj ho
    obtain ⟨hv21, hR21⟩ := (spe hA.2 hs13_21 (hp 21 (by kernel_rfl)))
    rw [hA.1, hs13_22]
    refine And.intro (fun a ha => (want_none rfl a ha).trans hon.symm) (And.intro (fun _ => ?_) (fun h => by rw [hon] at h; cases h))
    have hF := fr_next (rfl) ((hf 21 46 (by kernel_rfl) rfl).trans hv21)
    refine ls_fr hF ?_
    refine ls_idxa1 (g := g1) (off := (0 + 0)) (i := (7 : Int)) (kk := .i64) (ln := 8) (e := 48) rfl rfl (by kernel_rfl) rfl (by kernel_rfl) (by kernel_rfl) (by kernel_rfl) (by kernel_rfl) (by decide) q35 ?_
    exact ls_fin s0 (.pointer (some ⟨g1, ((0 + 0) + ((7 : Int)).toNat), none⟩)) (congrArg (fun z => upd z 47 _) hF.symm) ⟨rfl, rfl⟩ (sub_nil _)
  obtain ⟨y36, hy37, H⟩ := lt_some H
  obtain ⟨s13_23, hs13_23⟩ : ∃ z : Value → Sto → Prop, z = (fun v R => v = .int .u32 y36 ∧ R = s0) := ⟨_, rfl⟩
  refine have_op (l := [_, _, _, _, _, _, _, _, _, _, _, _, _, _, _, _, _, _, _, _, _, _, _, _, _, _, _, _, _, _, _, _]) sha_State_Block.tab11 5 23 (fun sp => sp 23 = s13_23 ∧ sp 22 = s13_22) (fun sp on hA hon => ?_) (fun ops13_23 => ?_)
  · refine ⟨fun o ho vs Rs f' S' w hp hf hx hS hR hs => ?_⟩
    obtain rfl := Option.some.inj ho
    obtain ⟨hv22, hR22⟩ := (spe hA.2 hs13_22 (hp 22 (by kernel_rfl)))
    rw [hA.1, hs13_23]
    refine And.intro (fun a ha => (want_none rfl a ha).trans hon.symm) (And.intro (fun _ => ?_) (fun h => by rw [hon] at h; cases h))
    have hF := fr_next (rfl) ((hf 22 47 (by kernel_rfl) rfl).trans hv22)
    refine ls_fr hF ?_
    refine ls_load (a0 := ⟨g1, ((0 + 0) + ((7 : Int)).toNat), none⟩) (v := .int .u32 (a0.1.1.getD ((7 : Int)).toNat (0 : Int))) (de := (TypeDesc.int .u32)) rfl rfl (by kernel_rfl) rfl (by kernel_rfl) (by kernel_rfl) (by kernel_rfl) (fun w1 hs1 => cell_step hs1.below.bw (hs.var (k := 0) ((hS 0 (by kernel_rfl)).trans (by exact rfl)) (Sub4.trans (Sub4.trans (Sub4.all _) (Sub4.head _ _)) (Sub4.one (i := ((7 : Int)).toNat) (Value.int .u32) a0.1.1 0 (by have := a0.1.2; omega))))) ?_
    refine ls_ren 48 (v := .int .u32 (a0.1.1.getD ((7 : Int)).toNat (0 : Int))) (v' := .int .u32 y36) (by kernel_rfl) (by rw [hy37]) ?_
    exact ls_fin s0 (.int .u32 y36) ((upd_upd _ _ _ _).trans (congrArg (fun z => upd z 48 _) hF.symm)) ⟨rfl, rfl⟩ (sub_nil _)
  obtain ⟨s13_24, hs13_24⟩ : ∃ z : Value → Sto → Prop, z = (fun v R => v = .int .u32 y15 ∧ R = s0) := ⟨_, rfl⟩
  refine have_op (l := [_, _, _, _, _, _, _, _, _, _, _, _, _, _, _, _, _, _, _, _, _, _, _, _, _, _, _, _, _, _, _, _]) sha_State_Block.tab11 5 24 (fun sp => sp 24 = s13_24 ∧ sp 2 = s13_2) (fun sp on hA hon => ?_) (fun ops13_24 => ?_)
  · refine ⟨fun o ho vs Rs f' S' w hp hf hx hS hR hs => ?_⟩
    obtain rfl := Option.some.inj ho
    obtain ⟨hv2, hR2⟩ := (spe hA.2 hs13_2 (hp 2 (by kernel_rfl)))
    rw [hA.1, hs13_24]
    refine And.intro (fun a ha => (want_none rfl a ha).trans hon.symm) (And.intro (fun _ => ?_) (fun h => by rw [hon] at h; cases h))
    have hF := fr_next (rfl) ((hf 2 27 (by kernel_rfl) rfl).trans hv2)
    refine ls_fr hF ?_
    refine ls_val (v := .int .u32 y15) rfl rfl (by kernel_rfl) (fun w => by kernel_rfl) ?_
    exact ls_fin s0 (.int .u32 y15) (congrArg (fun z => upd z 7 _) hF.symm) ⟨rfl, rfl⟩ (sub_nil _)
  obtain ⟨s13_25, hs13_25⟩ : ∃ z : Value → Sto → Prop, z = (fun v R => v = .int .u32 y18 ∧ R = s0) := ⟨_, rfl⟩
  refine have_op (l := [_, _, _, _, _, _, _, _, _, _, _, _, _, _, _, _, _, _, _, _, _, _, _, _, _, _, _, _, _, _, _, _]) sha_State_Block.tab11 5 25 (fun sp => sp 25 = s13_25 ∧ sp 5 = s13_5) (fun sp on hA hon => ?_) (fun ops13_25 => ?_)
  · refine ⟨fun o ho vs Rs f' S' w hp hf hx hS hR hs => ?_⟩
    obtain rfl := Option.some.inj ho
    obtain ⟨hv5, hR5⟩ := (spe hA.2 hs13_5 (hp 5 (by kernel_rfl)))
    rw [hA.1, hs13_25]
    refine And.intro (fun a ha => (want_none rfl a ha).trans hon.symm) (And.intro (fun _ => ?_) (fun h => by rw [hon] at h; cases h))
    have hF := fr_next (rfl) ((hf 5 30 (by kernel_rfl) rfl).trans hv5)
    refine ls_fr hF ?_
    refine ls_val (v := .int .u32 y18) rfl rfl (by kernel_rfl) (fun w => by kernel_rfl) ?_
    exact ls_fin s0 (.int .u32 y18) (congrArg (fun z => upd z 8 _) hF.symm) ⟨rfl, rfl⟩ (sub_nil _)
  obtain ⟨s13_26, hs13_26⟩ : ∃ z : Value → Sto → Prop, z = (fun v R => v = .int .u32 y21 ∧ R = s0) := ⟨_, rfl⟩
  refine have_op (l := [_, _, _, _, _, _, _, _, _, _, _, _, _, _, _, _, _, _, _, _, _, _, _, _, _, _, _, _, _, _, _, _]) sha_State_Block.tab11 5 26 (fun sp => sp 26 = s13_26 ∧ sp 8 = s13_8) (fun sp on hA hon => ?_) (fun ops13_26 => ?_)
  · refine ⟨fun o ho vs Rs f' S' w hp hf hx hS hR hs => ?_⟩
    obtain rfl := Option.some.inj ho
    obtain ⟨hv8, hR8⟩ := (spe hA.2 hs13_8 (hp 8 (by kernel_rfl)))
    rw [hA.1, hs13_26]
    refine And.intro (fun a ha => (want_none rfl a ha).trans hon.symm) (And.intro (fun _ => ?_) (fun h => by rw [hon] at h; cases h))
    have hF := fr_next (rfl) ((hf 8 33 (by kernel_rfl) rfl).trans hv8)
    refine ls_fr hF ?_
    refine ls_val (v := .int .u32 y21) rfl rfl (by kernel_rfl) (fun w => by kernel_rfl) ?_
    exact ls_fin s0 (.int .u32 y21) (congrArg (fun z => upd z 9 _) hF.symm) ⟨rfl, rfl⟩ (sub_nil _)
  obtain ⟨s13_27, hs13_27⟩ : ∃ z : Value → Sto → Prop, z = (fun v R => v = .int .u32 y24 ∧ R = s0) := ⟨_, rfl⟩
  refine have_op (l := [_, _, _, _, _, _, _, _, _, _, _, _, _, _, _, _, _, _, _, _, _, _, _, _, _, _, _, _, _, _, _, _]) sha_State_Block.tab11 5 27 (fun sp => sp 27 = s13_27 ∧ sp 11 = s13_11) (fun sp on hA hon => ?_) (fun ops13_27 => ?_)
  · refine ⟨fun o ho vs Rs f' S' w hp hf hx hS hR hs => ?_⟩
    obtain rfl := Option.some.inj ho
    obtain ⟨hv11, hR11⟩ := (spe hA.2 hs13_11 (hp 11 (by kernel_rfl)))
    rw [hA.1, hs13_27]
    refine And.intro (fun a ha => (want_none rfl a ha).trans hon.symm) (And.intro (fun _ => ?_) (fun h => by rw [hon] at h; cases h))
    have hF := fr_next (rfl) ((hf 11 36 (by kernel_rfl) rfl).trans hv11)
    refine ls_fr hF ?_
    refine ls_val (v := .int .u32 y24) rfl rfl (by kernel_rfl) (fun w => by kernel_rfl) ?_
    exact ls_fin s0 (.int .u32 y24) (congrArg (fun z => upd z 10 _) hF.symm) ⟨rfl, rfl⟩ (sub_nil _)
  obtain ⟨s13_28, hs13_28⟩ : ∃ z : Value → Sto → Prop, z = (fun v R => v = .int .u32 y27 ∧ R = s0) := ⟨_, rfl⟩
  refine have_op (l := [_, _, _, _, _, _, _, _, _, _, _, _, _, _, _, _, _, _, _, _, _, _, _, _, _, _, _, _, _, _, _, _]) sha_State_Block.tab11 5 28 (fun sp => sp 28 = s13_28 ∧ sp 14 = s13_14) (fun sp on hA hon => ?_) (fun ops13_28 => ?_)
  · refine ⟨fun o ho vs Rs f' S' w hp hf hx hS hR hs => ?_⟩
    obtain rfl := Option.some.inj ho
    obtain ⟨hv14, hR14⟩ := (spe hA.2 hs13_14 (hp 14 (by kernel_rfl)))
    rw [hA.1, hs13_28]
    refine And.intro (fun a ha => (want_none rfl a ha).trans hon.symm) (And.intro (fun _ => ?_) (fun h => by rw [hon] at h; cases h))
    have hF := fr_next (rfl) ((hf 14 39 (by kernel_rfl) rfl).trans hv14)
    refine ls_fr hF ?_
    refine ls_val (v := .int .u32 y27) rfl rfl (by kernel_rfl) (fun w => by kernel_rfl) ?_
    exact ls_fin s0 (.int .u32 y27) (congrArg (fun z => upd z 11 _) hF.symm) ⟨rfl, rfl⟩ (sub_nil _)
  obtain ⟨s13_29, hs13_29⟩ : ∃ z : Value → Sto → Prop, z = (fun v R => v = .int .u32 y30 ∧ R = s0) := ⟨_, rfl⟩
  refine have_op (l := [_, _, _, _, _, _, _, _, _, _, _, _, _, _, _, _, _, _, _, _, _, _, _, _, _, _, _, _, _, _, _, _]) sha_State_Block.tab11 5 29 (fun sp => sp 29 = s13_29 ∧ sp 17 = s13_17) (fun sp on hA hon => ?_) (fun ops13_29 => ?_)
  · refine ⟨fun o ho vs Rs f' S' w hp hf hx hS hR hs => ?_⟩
    obtain rfl := Option.some.inj ho
    obtain ⟨hv17, hR17⟩ := (spe hA.2 hs13_17 (hp 17 (by kernel_rfl)))
    rw [hA.1, hs13_29]
    refine And.intro (fun a ha => (want_none rfl a ha).trans hon.symm) (And.intro (fun _ => ?_) (fun h => by rw [hon] at h; cases h))
    have hF := fr_next (rfl) ((hf 17 42 (by kernel_rfl) rfl).trans hv17)
    refine ls_fr hF ?_
    refine ls_val (v := .int .u32 y30) rfl rfl (by kernel_rfl) (fun w => by kernel_rfl) ?_
    exact ls_fin s0 (.int .u32 y30) (congrArg (fun z => upd z 12 _) hF.symm) ⟨rfl, rfl⟩ (sub_nil _)
  obtain ⟨s13_30, hs13_30⟩ : ∃ z : Value → Sto → Prop, z = (fun v R => v = .int .u32 y33 ∧ R = s0) := ⟨_, rfl⟩
  refine have_op (l := [_, _, _, _, _, _, _, _, _, _, _, _, _, _, _, _, _, _, _, _, _, _, _, _, _, _, _, _, _, _, _, _]) sha_State_Block.tab11 5 30 (fun sp => sp 30 = s13_30 ∧ sp 20 = s13_20) (fun sp on hA hon => ?_) (fun ops13_30 => ?_)
  · refine ⟨fun o ho vs Rs f' S' w hp hf hx hS hR hs => ?_⟩
    obtain rfl := Option.some.inj ho
    obtain ⟨hv20, hR20⟩ := (spe hA.2 hs13_20 (hp 20 (by kernel_rfl)))
    rw [hA.1, hs13_30]
    refine And.intro (fun a ha => (want_none rfl a ha).trans hon.symm) (And.intro (fun _ => ?_) (fun h => by rw [hon] at h; cases h))
    have hF := fr_next (rfl) ((hf 20 45 (by kernel_rfl) rfl).trans hv20)
    refine ls_fr hF ?_
    refine ls_val (v := .int .u32 y33) rfl rfl (by kernel_rfl) (fun w => by kernel_rfl) ?_
    exact ls_fin s0 (.int .u32 y33) (congrArg (fun z => upd z 13 _) hF.symm) ⟨rfl, rfl⟩ (sub_nil _)
  refine cs_draw sha_State_Block.tab11 31 5 (spl [s13_0, s13_1, s13_2, s13_3, s13_4, s13_5, s13_6, s13_7, s13_8, s13_9, s13_10, s13_11, s13_12, s13_13, s13_14, s13_15, s13_16, s13_17, s13_18, s13_19, s13_20, s13_21, s13_22, s13_23, s13_24, s13_25, s13_26, s13_27, s13_28, s13_29, s13_30]) (onl [true, true, true, true, true, true, true, true, true, true, true, true, true, true, true, true, true, true, true, true, true, true, true, true, true, true, true, true, true, true, true]) (by kernel_rfl) (by kernel_rfl) (by kernel_rfl) (by kernel_rfl) (rs := [_]) rfl (by kernel_rfl) (by kernel_rfl) (all_snoc (all_snoc (all_snoc (all_snoc (all_snoc (all_snoc (all_snoc (all_snoc (all_snoc (all_snoc (all_snoc (all_snoc (all_snoc (all_snoc (all_snoc (all_snoc (all_snoc (all_snoc (all_snoc (all_snoc (all_snoc (all_snoc (all_snoc (all_snoc (all_snoc (all_snoc (all_snoc (all_snoc (all_snoc (all_snoc (all_snoc (all_nil) (ops13_0 _ _ rfl rfl)) (ops13_1 _ _ ⟨rfl, rfl⟩ rfl)) (ops13_2 _ _ ⟨rfl, rfl⟩ rfl)) (ops13_3 _ _ rfl rfl)) (ops13_4 _ _ ⟨rfl, rfl⟩ rfl)) (ops13_5 _ _ ⟨rfl, rfl⟩ rfl)) (ops13_6 _ _ rfl rfl)) (ops13_7 _ _ ⟨rfl, rfl⟩ rfl)) (ops13_8 _ _ ⟨rfl, rfl⟩ rfl)) (ops13_9 _ _ rfl rfl)) (ops13_10 _ _ ⟨rfl, rfl⟩ rfl)) (ops13_11 _ _ ⟨rfl, rfl⟩ rfl)) (ops13_12 _ _ rfl rfl)) (ops13_13 _ _ ⟨rfl, rfl⟩ rfl)) (ops13_14 _ _ ⟨rfl, rfl⟩ rfl)) (ops13_15 _ _ rfl rfl)) (ops13_16 _ _ ⟨rfl, rfl⟩ rfl)) (ops13_17 _ _ ⟨rfl, rfl⟩ rfl)) (ops13_18 _ _ rfl rfl)) (ops13_19 _ _ ⟨rfl, rfl⟩ rfl)) (ops13_20 _ _ ⟨rfl, rfl⟩ rfl)) (ops13_21 _ _ rfl rfl)) (ops13_22 _ _ ⟨rfl, rfl⟩ rfl)) (ops13_23 _ _ ⟨rfl, rfl⟩ rfl)) (ops13_24 _ _ ⟨rfl, rfl⟩ rfl)) (ops13_25 _ _ ⟨rfl, rfl⟩ rfl)) (ops13_26 _ _ ⟨rfl, rfl⟩ rfl)) (ops13_27 _ _ ⟨rfl, rfl⟩ rfl)) (ops13_28 _ _ ⟨rfl, rfl⟩ rfl)) (ops13_29 _ _ ⟨rfl, rfl⟩ rfl)) (ops13_30 _ _ ⟨rfl, rfl⟩ rfl)) ?_
  intro vs Rs f' S' hp hf hx hS hR
  obtain ⟨hv23, hR23⟩ := (spe rfl hs13_23 (hp 23 (by kernel_rfl)))
  obtain ⟨hv24, hR24⟩ := (spe rfl hs13_24 (hp 24 (by kernel_rfl)))
  obtain ⟨hv25, hR25⟩ := (spe rfl hs13_25 (hp 25 (by kernel_rfl)))
  obtain ⟨hv26, hR26⟩ := (spe rfl hs13_26 (hp 26 (by kernel_rfl)))
  obtain ⟨hv27, hR27⟩ := (spe rfl hs13_27 (hp 27 (by kernel_rfl)))
  obtain ⟨hv28, hR28⟩ := (spe rfl hs13_28 (hp 28 (by kernel_rfl)))
  obtain ⟨hv29, hR29⟩ := (spe rfl hs13_29 (hp 29 (by kernel_rfl)))
  obtain ⟨hv30, hR30⟩ := (spe rfl hs13_30 (hp 30 (by kernel_rfl)))
  refine ls_fr (F := upd (upd (upd (upd (upd (upd (upd (upd (upd (upd (upd (upd f' 2 (.pointer (some ⟨g1, 0, none⟩))) 4 (.pointer (some ⟨g3, 0, none⟩))) 5 (.pointer (some ⟨g10, 0, none⟩))) 6 (.pointer (some ⟨g11, 0, none⟩))) 7 (.int .u32 y15)) 8 (.int .u32 y18)) 9 (.int .u32 y21)) 10 (.int .u32 y24)) 11 (.int .u32 y27)) 12 (.int .u32 y30)) 13 (.int .u32 y33)) 48 (.int .u32 y36)) (fr_next (fr_next (fr_next (fr_next (fr_next (fr_next (fr_next (fr_next (fr_next (fr_next (fr_next (fr_next (rfl) ((hx 2 (by kernel_rfl)).trans (by kernel_rfl : (_ : Value) = .pointer (some ⟨g1, 0, none⟩)))) ((hx 4 (by kernel_rfl)).trans (by kernel_rfl : (_ : Value) = .pointer (some ⟨g3, 0, none⟩)))) ((hx 5 (by kernel_rfl)).trans (by kernel_rfl : (_ : Value) = .pointer (some ⟨g10, 0, none⟩)))) ((hx 6 (by kernel_rfl)).trans (by kernel_rfl : (_ : Value) = .pointer (some ⟨g11, 0, none⟩)))) ((hf 24 7 (by kernel_rfl) rfl).trans hv24)) ((hf 25 8 (by kernel_rfl) rfl).trans hv25)) ((hf 26 9 (by kernel_rfl) rfl).trans hv26)) ((hf 27 10 (by kernel_rfl) rfl).trans hv27)) ((hf 28 11 (by kernel_rfl) rfl).trans hv28)) ((hf 29 12 (by kernel_rfl) rfl).trans hv29)) ((hf 30 13 (by kernel_rfl) rfl).trans hv30)) ((hf 23 48 (by kernel_rfl) rfl).trans hv23)) ?_
  refine ls_sub (sput (sput (sput (sput s0 0 (some (Ck.var 52 g1 ((en (Value.int .u32) a0.1.1 ++ [Value.int .u64 a0.2]))))) 2 (some (Ck.var 52 g3 ((en (Value.int .u32) (vrep 8 (0 : Int)).1 ++ [Value.int .u64 (0 : Int)]))))) 3 (some (Ck.var 55 g10 (en (Value.int .u32) t4.1)))) 4 (some (Ck.var 55 g11 (en (Value.int .u32) t7.1)))) (sub_put ((hS 4 (by kernel_rfl)).trans (by exact rfl)) (sub_put ((hS 3 (by kernel_rfl)).trans (by exact rfl)) (sub_put ((hS 2 (by kernel_rfl)).trans (by exact rfl)) (sub_put ((hS 0 (by kernel_rfl)).trans (by exact rfl)) (sub_nil _))))) ?_
  refine ls_val (v := .int .u32 y36) rfl rfl (by kernel_rfl) (fun w => by kernel_rfl) ?_
  refine ls_end ?_
  refine qn_then ?_
  refine cs_cut (fun f S => ∃ (fR : Fr) (x7_1 : Int) (x8_1 : Int) (x9_1 : Int) (x10_1 : Int) (x11_1 : Int) (x12_1 : Int) (x13_1 : Int) (x14_1 : Int), f = upd (upd (upd (upd (upd (upd (upd (upd (upd (upd fR 2 (.pointer (some ⟨g1, 0, none⟩))) 4 (.pointer (some ⟨g3, 0, none⟩))) 7 (.int .u32 x7_1)) 8 (.int .u32 x8_1)) 9 (.int .u32 x9_1)) 10 (.int .u32 x10_1)) 11 (.int .u32 x11_1)) 12 (.int .u32 x12_1)) 13 (.int .u32 x13_1)) 14 (.int .u32 x14_1) ∧ S = sput (sput s0 0 (some (Ck.var 52 g1 ((en (Value.int .u32) a0.1.1 ++ [Value.int .u64 a0.2]))))) 2 (some (Ck.var 52 g3 ((en (Value.int .u32) (vrep 8 (0 : Int)).1 ++ [Value.int .u64 (0 : Int)])))) ∧ sha_State_Block.jo1 k a0 x7_1 x8_1 x9_1 x10_1 x11_1 x12_1 x13_1 x14_1 = some r) ?_ ?_
  · skip
    refine cs_seq ?_
    refine cs_region (l := [_]) ?_
    refine ls_val (v := .int .i64 (0 : Int)) rfl rfl (by kernel_rfl) (fun w => by kernel_rfl) ?_
    refine ls_end ?_
    refine qn_then ?_
    refine cs_block ?_
    refine cs_sub (sput (sput (sput (sput s0 0 (some (Ck.var 52 g1 ((en (Value.int .u32) a0.1.1 ++ [Value.int .u64 a0.2]))))) 2 (some (Ck.var 52 g3 ((en (Value.int .u32) (vrep 8 (0 : Int)).1 ++ [Value.int .u64 (0 : Int)]))))) 3 (some (Ck.var 55 g10 (en (Value.int .u32) t4.1)))) 4 (some (Ck.var 55 g11 (en (Value.int .u32) t7.1)))) (sub_put (by exact rfl) (sub_put (by exact rfl) (sub_put (by exact rfl) (sub_put (by exact rfl) (sub_nil _))))) ?_
    refine cs_loop (fun kk f S => ∃ (fR : Fr) (x7_3 : Int) (x8_3 : Int) (x9_3 : Int) (x10_3 : Int) (x11_3 : Int) (x12_3 : Int) (x13_3 : Int) (x14_3 : Int) (x49_3 : Int), f = upd (upd (upd (upd (upd (upd (upd (upd (upd (upd (upd (upd (upd fR 2 (.pointer (some ⟨g1, 0, none⟩))) 4 (.pointer (some ⟨g3, 0, none⟩))) 5 (.pointer (some ⟨g10, 0, none⟩))) 6 (.pointer (some ⟨g11, 0, none⟩))) 7 (.int .u32 x7_3)) 8 (.int .u32 x8_3)) 9 (.int .u32 x9_3)) 10 (.int .u32 x10_3)) 11 (.int .u32 x11_3)) 12 (.int .u32 x12_3)) 13 (.int .u32 x13_3)) 14 (.int .u32 x14_3)) 49 (.int .i64 x49_3) ∧ S = sput (sput (sput (sput s0 0 (some (Ck.var 52 g1 ((en (Value.int .u32) a0.1.1 ++ [Value.int .u64 a0.2]))))) 2 (some (Ck.var 52 g3 ((en (Value.int .u32) (vrep 8 (0 : Int)).1 ++ [Value.int .u64 (0 : Int)]))))) 3 (some (Ck.var 55 g10 (en (Value.int .u32) t4.1)))) 4 (some (Ck.var 55 g11 (en (Value.int .u32) t7.1))) ∧ sha_State_Block.lo3 t4 t7 (sha_State_Block.jo1 k a0) kk x7_3 x8_3 x9_3 x10_3 x11_3 x12_3 x13_3 x14_3 x49_3 = some r) k ?_ ?_ ?_
    · exact ⟨_, y15, y18, y21, y24, y27, y30, y33, y36, (0 : Int), fr_next (fr_next (fr_next (fr_next (fr_next (fr_next (fr_next (fr_next (fr_next (fr_next (fr_next (fr_next (fr_next (rfl) (by kernel_rfl)) (by kernel_rfl)) (by kernel_rfl)) (by kernel_rfl)) (by kernel_rfl)) (by kernel_rfl)) (by kernel_rfl)) (by kernel_rfl)) (by kernel_rfl)) (by kernel_rfl)) (by kernel_rfl)) (by kernel_rfl)) (by kernel_rfl), rfl, H⟩
    · rintro f S ⟨fr3, x7_3, x8_3, x9_3, x10_3, x11_3, x12_3, x13_3, x14_3, x49_3, rfl, rfl, H⟩; cases H
    · rintro k3 f S ⟨fr3, x7_3, x8_3, x9_3, x10_3, x11_3, x12_3, x13_3, x14_3, x49_3, rfl, rfl, H⟩
      replace H : ((if x49_3 < (64 : Int) then (sha_State_Block.jo4 t4 t7 x7_3 x8_3 x9_3 x10_3 x11_3 x12_3 x13_3 x14_3 x49_3 k3 (sha_State_Block.lo3 t4 t7 (sha_State_Block.jo1 k a0) k3)) else (sha_State_Block.jo1 k a0) x7_3 x8_3 x9_3 x10_3 x11_3 x12_3 x13_3 x14_3)) = some r := H
      refine cs_seq ?_
      refine cs_region (l := [_]) ?_
      refine ls_val (v := .bool (decide (x49_3 < (64 : Int)))) rfl rfl (by kernel_rfl) (fun w => by kernel_rfl) ?_
      refine ls_end ?_
      refine qn_then ?_
      refine cs_cut (fun f S => ∃ (fR : Fr), f = upd (upd (upd (upd (upd (upd (upd (upd (upd (upd (upd (upd (upd fR 2 (.pointer (some ⟨g1, 0, none⟩))) 4 (.pointer (some ⟨g3, 0, none⟩))) 5 (.pointer (some ⟨g10, 0, none⟩))) 6 (.pointer (some ⟨g11, 0, none⟩))) 7 (.int .u32 x7_3)) 8 (.int .u32 x8_3)) 9 (.int .u32 x9_3)) 10 (.int .u32 x10_3)) 11 (.int .u32 x11_3)) 12 (.int .u32 x12_3)) 13 (.int .u32 x13_3)) 14 (.int .u32 x14_3)) 49 (.int .i64 x49_3) ∧ S = sput (sput (sput (sput s0 0 (some (Ck.var 52 g1 ((en (Value.int .u32) a0.1.1 ++ [Value.int .u64 a0.2]))))) 2 (some (Ck.var 52 g3 ((en (Value.int .u32) (vrep 8 (0 : Int)).1 ++ [Value.int .u64 (0 : Int)]))))) 3 (some (Ck.var 55 g10 (en (Value.int .u32) t4.1)))) 4 (some (Ck.var 55 g11 (en (Value.int .u32) t7.1))) ∧ sha_State_Block.jo4 t4 t7 x7_3 x8_3 x9_3 x10_3 x11_3 x12_3 x13_3 x14_3 x49_3 k3 (sha_State_Block.lo3 t4 t7 (sha_State_Block.jo1 k a0) k3) = some r) ?_ ?_
      · skip
        by_cases q88 : x49_3 < (64 : Int)
        · replace H := ite_t q88 H
          refine cs_know (c := true) (dec_t q88) 50 (by kernel_rfl) ?_
          refine cs_true (by kernel_rfl) ?_
          refine cs_skip' ?_
          refine qn_meet (sput (sput (sput (sput s0 0 (some (Ck.var 52 g1 ((en (Value.int .u32) a0.1.1 ++ [Value.int .u64 a0.2]))))) 2 (some (Ck.var 52 g3 ((en (Value.int .u32) (vrep 8 (0 : Int)).1 ++ [Value.int .u64 (0 : Int)]))))) 3 (some (Ck.var 55 g10 (en (Value.int .u32) t4.1)))) 4 (some (Ck.var 55 g11 (en (Value.int .u32) t7.1)))) ⟨_, fr_next (fr_next (fr_next (fr_next (fr_next (fr_next (fr_next (fr_next (fr_next (fr_next (fr_next (fr_next (fr_next (rfl) (by kernel_rfl)) (by kernel_rfl)) (by kernel_rfl)) (by kernel_rfl)) (by kernel_rfl)) (by kernel_rfl)) (by kernel_rfl)) (by kernel_rfl)) (by kernel_rfl)) (by kernel_rfl)) (by kernel_rfl)) (by kernel_rfl)) (by kernel_rfl), rfl, H⟩ (sub_put (by exact rfl) (sub_put (by exact rfl) (sub_put (by exact rfl) (sub_put (by exact rfl) (sub_nil _)))))
        · replace H := ite_f q88 H
          refine cs_know (c := false) (dec_f q88) 50 (by kernel_rfl) ?_
          refine cs_false (by kernel_rfl) ?_
          refine cs_exit' ?_
          refine qx_then ?_
          refine qx_then ?_
          refine qx_same ?_
          refine qn_meet (sput (sput s0 0 (some (Ck.var 52 g1 ((en (Value.int .u32) a0.1.1 ++ [Value.int .u64 a0.2]))))) 2 (some (Ck.var 52 g3 ((en (Value.int .u32) (vrep 8 (0 : Int)).1 ++ [Value.int .u64 (0 : Int)]))))) ⟨_, x7_3, x8_3, x9_3, x10_3, x11_3, x12_3, x13_3, x14_3, fr_next (fr_next (fr_next (fr_next (fr_next (fr_next (fr_next (fr_next (fr_next (fr_next (rfl) (by kernel_rfl)) (by kernel_rfl)) (by kernel_rfl)) (by kernel_rfl)) (by kernel_rfl)) (by kernel_rfl)) (by kernel_rfl)) (by kernel_rfl)) (by kernel_rfl)) (by kernel_rfl), rfl, H⟩ (sub_put (by exact rfl) (sub_put (by exact rfl) (sub_nil _)))
      · rintro f S ⟨fr4, rfl, rfl, H⟩
        replace H : (lt (bits .xor .u32 (if IntKind.signed .u32 then -1 else IntKind.max .u32) x11_3) fun y46 => lt (bits .xor .u32 (bits .and .u32 x11_3 x12_3) (bits .and .u32 y46 x13_3)) fun y48 => lt (bits .xor .u32 (bits .and .u32 x7_3 x8_3) (bits .and .u32 x7_3 x9_3)) fun y50 => lt (bits .xor .u32 y50 (bits .and .u32 x8_3 x9_3)) fun y52 => (sha_down.f k3 x11_3 (6 : Int)).bind fun t56 => (sha_down.f k3 x11_3 (11 : Int)).bind fun t59 => (sha_down.f k3 x11_3 (25 : Int)).bind fun t62 => lt (bits .xor .u32 (bits .xor .u32 t56 t59) t62) fun y65 => lt (IntKind.wrap .u32 ((IntKind.wrap .u32 (x14_3 + y65)) + y48)) fun y67 => (if 0 ≤ x49_3 then (if x49_3 < (64 : Int) then lt (IntKind.wrap .u32 (y67 + (t7.1.getD (x49_3).toNat (0 : Int)))) fun y71 => lt (IntKind.wrap .u32 (y71 + (t4.1.getD (x49_3).toNat (0 : Int)))) fun y73 => (sha_down.f k3 x7_3 (2 : Int)).bind fun t75 => (sha_down.f k3 x7_3 (13 : Int)).bind fun t78 => (sha_down.f k3 x7_3 (22 : Int)).bind fun t81 => lt (bits .xor .u32 (bits .xor .u32 t75 t78) t81) fun y84 => lt (IntKind.wrap .u32 (y73 + (IntKind.wrap .u32 (y84 + y52)))) fun y86 => (sha_State_Block.lo3 t4 t7 (sha_State_Block.jo1 k a0) k3) y86 x7_3 x8_3 x9_3 (IntKind.wrap .u32 (x10_3 + y73)) x11_3 x12_3 x13_3 (IntKind.wrap .i64 (x49_3 + (1 : Int))) else none) else none)) = some r := H
        refine cs_seq ?_
        refine cs_block ?_
        refine cs_seq ?_
        refine cs_region (l := [_, _]) ?_
        refine ls_val (v := .int .i64 x49_3) rfl rfl (by kernel_rfl) (fun w => by kernel_rfl) ?_
        refine ls_val (v := .int .i64 x49_3) rfl rfl (by kernel_rfl) (fun w => by kernel_rfl) ?_
        refine ls_end ?_
        refine qn_then ?_
        refine cs_seq ?_
        refine cs_region (l := [_, _, _, _, _, _, _, _, _]) ?_
        refine ls_val (v := .int .u32 x11_3) rfl rfl (by kernel_rfl) (fun w => by kernel_rfl) ?_
        refine ls_val (v := .int .u32 x12_3) rfl rfl (by kernel_rfl) (fun w => by kernel_rfl) ?_
        refine ls_val (v := .int .u32 (bits .and .u32 x11_3 x12_3)) rfl rfl (by kernel_rfl) (fun w => by kernel_rfl) ?_
        refine ls_val (v := .int .u32 x11_3) rfl rfl (by kernel_rfl) (fun w => by kernel_rfl) ?_
        obtain ⟨y46, hy47, H⟩ := lt_some H
        refine ls_val (v := .int .u32 (bits .xor .u32 (if IntKind.signed .u32 then -1 else IntKind.max .u32) x11_3)) rfl rfl (by kernel_rfl) (fun w => by kernel_rfl) ?_
        refine ls_ren 56 (v := .int .u32 (bits .xor .u32 (if IntKind.signed .u32 then -1 else IntKind.max .u32) x11_3)) (v' := .int .u32 y46) (by kernel_rfl) (by rw [hy47]) ?_
        refine ls_val (v := .int .u32 x13_3) rfl rfl (by kernel_rfl) (fun w => by kernel_rfl) ?_
        refine ls_val (v := .int .u32 (bits .and .u32 y46 x13_3)) rfl rfl (by kernel_rfl) (fun w => by kernel_rfl) ?_
        obtain ⟨y48, hy49, H⟩ := lt_some H
        refine ls_val (v := .int .u32 (bits .xor .u32 (bits .and .u32 x11_3 x12_3) (bits .and .u32 y46 x13_3))) rfl rfl (by kernel_rfl) (fun w => by kernel_rfl) ?_
        refine ls_ren 59 (v := .int .u32 (bits .xor .u32 (bits .and .u32 x11_3 x12_3) (bits .and .u32 y46 x13_3))) (v' := .int .u32 y48) (by kernel_rfl) (by rw [hy49]) ?_
        refine ls_val (v := .int .u32 y48) rfl rfl (by kernel_rfl) (fun w => by kernel_rfl) ?_
        refine ls_end ?_
        refine qn_then ?_
        refine cs_seq ?_
        refine cs_region (l := [_, _, _, _, _, _, _, _, _, _, _, _]) ?_
        refine ls_val (v := .int .u32 x7_3) rfl rfl (by kernel_rfl) (fun w => by kernel_rfl) ?_
        refine ls_val (v := .int .u32 x8_3) rfl rfl (by kernel_rfl) (fun w => by kernel_rfl) ?_
        refine ls_val (v := .int .u32 (bits .and .u32 x7_3 x8_3)) rfl rfl (by kernel_rfl) (fun w => by kernel_rfl) ?_
        refine ls_val (v := .int .u32 x7_3) rfl rfl (by kernel_rfl) (fun w => by kernel_rfl) ?_
        refine ls_val (v := .int .u32 x9_3) rfl rfl (by kernel_rfl) (fun w => by kernel_rfl) ?_
        refine ls_val (v := .int .u32 (bits .and .u32 x7_3 x9_3)) rfl rfl (by kernel_rfl) (fun w => by kernel_rfl) ?_
        obtain ⟨y50, hy51, H⟩ := lt_some H
        refine ls_val (v := .int .u32 (bits .xor .u32 (bits .and .u32 x7_3 x8_3) (bits .and .u32 x7_3 x9_3))) rfl rfl (by kernel_rfl) (fun w => by kernel_rfl) ?_
        refine ls_ren 66 (v := .int .u32 (bits .xor .u32 (bits .and .u32 x7_3 x8_3) (bits .and .u32 x7_3 x9_3))) (v' := .int .u32 y50) (by kernel_rfl) (by rw [hy51]) ?_
        refine ls_val (v := .int .u32 x8_3) rfl rfl (by kernel_rfl) (fun w => by kernel_rfl) ?_
        refine ls_val (v := .int .u32 x9_3) rfl rfl (by kernel_rfl) (fun w => by kernel_rfl) ?_
        refine ls_val (v := .int .u32 (bits .and .u32 x8_3 x9_3)) rfl rfl (by kernel_rfl) (fun w => by kernel_rfl) ?_
        obtain ⟨y52, hy53, H⟩ := lt_some H
        refine ls_val (v := .int .u32 (bits .xor .u32 y50 (bits .and .u32 x8_3 x9_3))) rfl rfl (by kernel_rfl) (fun w => by kernel_rfl) ?_
        refine ls_ren 70 (v := .int .u32 (bits .xor .u32 y50 (bits .and .u32 x8_3 x9_3))) (v' := .int .u32 y52) (by kernel_rfl) (by rw [hy53]) ?_
        refine ls_val (v := .int .u32 y52) rfl rfl (by kernel_rfl) (fun w => by kernel_rfl) ?_
        refine ls_end ?_
        refine qn_then ?_
        refine cs_seq ?_
        obtain ⟨s55_0, hs55_0⟩ : ∃ z : Value → Sto → Prop, z = (fun v R => v = .int .u32 x14_3 ∧ R = s0) := ⟨_, rfl⟩
        refine have_op (l := [_, _, _, _, _, _, _, _, _, _, _, _, _, _, _, _, _, _, _, _, _]) sha_State_Block.tab53 253 0 (fun sp => sp 0 = s55_0) (fun sp on hA hon => ?_) (fun ops55_0 => ?_)
        · refine ⟨fun o ho vs Rs f' S' w hp hf hx hS hR hs => ?_⟩
          obtain rfl := Option.some.inj ho
          rw [hA, hs55_0]
          refine And.intro (fun a ha => (want_none rfl a ha).trans hon.symm) (And.intro (fun _ => ?_) (fun h => by rw [hon] at h; cases h))
          have hF := fr_next (rfl) ((hx 14 (by kernel_rfl)).trans (by kernel_rfl : (_ : Value) = .int .u32 x14_3))
          refine ls_fr hF ?_
          refine ls_val (v := .int .u32 x14_3) rfl rfl (by kernel_rfl) (fun w => by kernel_rfl) ?_
          exact ls_fin s0 (.int .u32 x14_3) (congrArg (fun z => upd z 71 _) hF.symm) ⟨rfl, rfl⟩ (sub_nil _)
        obtain ⟨s55_1, hs55_1⟩ : ∃ z : Value → Sto → Prop, z = (fun v R => v = .int .u32 x11_3 ∧ R = s0) := ⟨_, rfl⟩
        refine have_op (l := [_, _, _, _, _, _, _, _, _, _, _, _, _, _, _, _, _, _, _, _, _]) sha_State_Block.tab53 253 1 (fun sp => sp 1 = s55_1) (fun sp on hA hon => ?_) (fun ops55_1 => ?_)
        · refine ⟨fun o ho vs Rs f' S' w hp hf hx hS hR hs => ?_⟩
          obtain rfl := Option.some.inj ho
          rw [hA, hs55_1]
          refine And.intro (fun a ha => (want_none rfl a ha).trans hon.symm) (And.intro (fun _ => ?_) (fun h => by rw [hon] at h; cases h))
          have hF := fr_next (rfl) ((hx 11 (by kernel_rfl)).trans (by kernel_rfl : (_ : Value) = .int .u32 x11_3))
          refine ls_fr hF ?_
          refine ls_val (v := .int .u32 x11_3) rfl rfl (by kernel_rfl) (fun w => by kernel_rfl) ?_
          exact ls_fin s0 (.int .u32 x11_3) (congrArg (fun z => upd z 72 _) hF.symm) ⟨rfl, rfl⟩ (sub_nil _)
        obtain ⟨t56, hc57, H⟩ := bind_some H
        obtain ⟨s55_2, hs55_2⟩ : ∃ z : Value → Sto → Prop, z = (fun v R => ∃ x58 : Unit, v = .int .u32 t56 ∧ R = stl []) := ⟨_, rfl⟩
        refine have_op (l := [_, _, _, _, _, _, _, _, _, _, _, _, _, _, _, _, _, _, _, _, _]) sha_State_Block.tab53 253 2 (fun sp => sp 2 = s55_2 ∧ sp 1 = s55_1) (fun sp on hA hon => ?_) (fun ops55_2 => ?_)
        · refine ⟨fun o ho vs Rs f' S' w hp hf hx hS hR hs => ?_⟩
          obtain rfl := Option.some.inj ho
          obtain ⟨hv1, hR1⟩ := (spe hA.2 hs55_1 (hp 1 (by kernel_rfl)))
          rw [hA.1, hs55_2]
          refine And.intro (fun a ha => (want_none rfl a ha).trans hon.symm) (And.intro (fun _ => ?_) (fun h => by rw [hon] at h; cases h))
          have hF := fr_next (rfl) ((hf 1 72 (by kernel_rfl) rfl).trans hv1)
          refine ls_fr hF ?_
          refine ls_call (fid := 47) (vals := #[.int .u32 x11_3, .int .i64 (6 : Int)]) (X := Unit) (fun x => .int .u32 t56) (fun x => stl []) 0 rfl rfl (by kernel_rfl) (fun w => by kernel_rfl) (fun w1 hs1 => sha_down.calls k3 x11_3 (6 : Int) t56 (bw w1) (St.refl w1)  hc57) ?_
          intro x58
          exact ls_fin (stl []) (.int .u32 t56) (congrArg (fun z => upd z 73 _) hF.symm) ⟨x58, rfl, rfl⟩ (sub_join _)
        obtain ⟨s55_3, hs55_3⟩ : ∃ z : Value → Sto → Prop, z = (fun v R => v = .int .u32 x11_3 ∧ R = s0) := ⟨_, rfl⟩
        refine have_op (l := [_, _, _, _, _, _, _, _, _, _, _, _, _, _, _, _, _, _, _, _, _]) sha_State_Block.tab53 253 3 (fun sp => sp 3 = s55_3) (fun sp on hA hon => ?_) (fun ops55_3 => ?_)
        · refine ⟨fun o ho vs Rs f' S' w hp hf hx hS hR hs => ?_⟩
          obtain rfl := Option.some.inj ho
          rw [hA, hs55_3]
          refine And.intro (fun a ha => (want_none rfl a ha).trans hon.symm) (And.intro (fun _ => ?_) (fun h => by rw [hon] at h; cases h))
          have hF := fr_next (rfl) ((hx 11 (by kernel_rfl)).trans (by kernel_rfl : (_ : Value) = .int .u32 x11_3))
          refine ls_fr hF ?_
          refine ls_val (v := .int .u32 x11_3) rfl rfl (by kernel_rfl) (fun w => by kernel_rfl) ?_
          exact ls_fin s0 (.int .u32 x11_3) (congrArg (fun z => upd z 74 _) hF.symm) ⟨rfl, rfl⟩ (sub_nil _)
        obtain ⟨t59, hc60, H⟩ := bind_some H
        obtain ⟨s55_4, hs55_4⟩ : ∃ z : Value → Sto → Prop, z = (fun v R => ∃ x61 : Unit, v = .int .u32 t59 ∧ R = stl []) := ⟨_, rfl⟩
        refine have_op (l := [_, _, _, _, _, _, _, _, _, _, _, _, _, _, _, _, _, _, _, _, _]) sha_State_Block.tab53 253 4 (fun sp => sp 4 = s55_4 ∧ sp 3 = s55_3) (fun sp on hA hon => ?_) (fun ops55_4 => ?_)
        · refine ⟨fun o ho vs Rs f' S' w hp hf hx hS hR hs => ?_⟩
          obtain rfl := Option.some.inj ho
          obtain ⟨hv3, hR3⟩ := (spe hA.2 hs55_3 (hp 3 (by kernel_rfl)))
          rw [hA.1, hs55_4]
          refine And.intro (fun a ha => (want_none rfl a ha).trans hon.symm) (And.intro (fun _ => ?_) (fun h => by rw [hon] at h; cases h))
          have hF := fr_next (rfl) ((hf 3 74 (by kernel_rfl) rfl).trans hv3)
          refine ls_fr hF ?_
          refine ls_call (fid := 47) (vals := #[.int .u32 x11_3, .int .i64 (11 : Int)]) (X := Unit) (fun x => .int .u32 t59) (fun x => stl []) 0 rfl rfl (by kernel_rfl) (fun w => by kernel_rfl) (fun w1 hs1 => sha_down.calls k3 x11_3 (11 : Int) t59 (bw w1) (St.refl w1)  hc60) ?_
          intro x61
          exact ls_fin (stl []) (.int .u32 t59) (congrArg (fun z => upd z 75 _) hF.symm) ⟨x61, rfl, rfl⟩ (sub_join _)
        obtain ⟨s55_5, hs55_5⟩ : ∃ z : Value → Sto → Prop, z = (fun v R => v = .int .u32 (bits .xor .u32 t56 t59) ∧ R = s0) := ⟨_, rfl⟩
        refine have_op (l := [_, _, _, _, _, _, _, _, _, _, _, _, _, _, _, _, _, _, _, _, _]) sha_State_Block.tab53 253 5 (fun sp => sp 5 = s55_5 ∧ sp 2 = s55_2 ∧ sp 4 = s55_4) (fun sp on hA hon => ?_) (fun ops55_5 => ?_)
        · refine ⟨fun o ho vs Rs f' S' w hp hf hx hS hR hs => ?_⟩
          obtain rfl := Option.some.inj ho
          obtain ⟨x58, hv2, hR2⟩ := (spe hA.2.1 hs55_2 (hp 2 (by kernel_rfl)))
          obtain ⟨x61, hv4, hR4⟩ := (spe hA.2.2 hs55_4 (hp 4 (by kernel_rfl)))
          rw [hA.1, hs55_5]
          refine And.intro (fun a ha => (want_none rfl a ha).trans hon.symm) (And.intro (fun _ => ?_) (fun h => by rw [hon] at h; cases h))
          have hF := fr_next (fr_next (rfl) ((hf 2 73 (by kernel_rfl) rfl).trans hv2)) ((hf 4 75 (by kernel_rfl) rfl).trans hv4)
          refine ls_fr hF ?_
          refine ls_val (v := .int .u32 (bits .xor .u32 t56 t59)) rfl rfl (by kernel_rfl) (fun w => by kernel_rfl) ?_
          exact ls_fin s0 (.int .u32 (bits .xor .u32 t56 t59)) (congrArg (fun z => upd z 76 _) hF.symm) ⟨rfl, rfl⟩ (sub_nil _)
        obtain ⟨s55_6, hs55_6⟩ : ∃ z : Value → Sto → Prop, z = (fun v R => v = .int .u32 x11_3 ∧ R = s0) := ⟨_, rfl⟩
        refine have_op (l := [_, _, _, _, _, _, _, _, _, _, _, _, _, _, _, _, _, _, _, _, _]) sha_State_Block.tab53 253 6 (fun sp => sp 6 = s55_6) (fun sp on hA hon => ?_) (fun ops55_6 => ?_)
        · refine ⟨fun o ho vs Rs f' S' w hp hf hx hS hR hs => ?_⟩
          obtain rfl := Option.some.inj ho
          rw [hA, hs55_6]
          refine And.intro (fun a ha => (want_none rfl a ha).trans hon.symm) (And.intro (fun _ => ?_) (fun h => by rw [hon] at h; cases h))
          have hF := fr_next (rfl) ((hx 11 (by kernel_rfl)).trans (by kernel_rfl : (_ : Value) = .int .u32 x11_3))
          refine ls_fr hF ?_
          refine ls_val (v := .int .u32 x11_3) rfl rfl (by kernel_rfl) (fun w => by kernel_rfl) ?_
          exact ls_fin s0 (.int .u32 x11_3) (congrArg (fun z => upd z 77 _) hF.symm) ⟨rfl, rfl⟩ (sub_nil _)
        obtain ⟨t62, hc63, H⟩ := bind_some H
        obtain ⟨s55_7, hs55_7⟩ : ∃ z : Value → Sto → Prop, z = (fun v R => ∃ x64 : Unit, v = .int .u32 t62 ∧ R = stl []) := ⟨_, rfl⟩
        refine have_op (l := [_, _, _, _, _, _, _, _, _, _, _, _, _, _, _, _, _, _, _, _, _]) sha_State_Block.tab53 253 7 (fun sp => sp 7 = s55_7 ∧ sp 6 = s55_6) (fun sp on hA hon => ?_) (fun ops55_7 => ?_)
        · refine ⟨fun o ho vs Rs f' S' w hp hf hx hS hR hs => ?_⟩
          obtain rfl := Option.some.inj ho
          obtain ⟨hv6, hR6⟩ := (spe hA.2 hs55_6 (hp 6 (by kernel_rfl)))
          rw [hA.1, hs55_7]
          refine And.intro (fun a ha => (want_none rfl a ha).trans hon.symm) (And.intro (fun _ => ?_) (fun h => by rw [hon] at h; cases h))
          have hF := fr_next (rfl) ((hf 6 77 (by kernel_rfl) rfl).trans hv6)
          refine ls_fr hF ?_
          refine ls_call (fid := 47) (vals := #[.int .u32 x11_3, .int .i64 (25 : Int)]) (X := Unit) (fun x => .int .u32 t62) (fun x => stl []) 0 rfl rfl (by kernel_rfl) (fun w => by kernel_rfl) (fun w1 hs1 => sha_down.calls k3 x11_3 (25 : Int) t62 (bw w1) (St.refl w1)  hc63) ?_
          intro x64
          exact ls_fin (stl []) (.int .u32 t62) (congrArg (fun z => upd z 78 _) hF.symm) ⟨x64, rfl, rfl⟩ (sub_join _)
        obtain ⟨y65, hy66, H⟩ := lt_some H
        obtain ⟨s55_8, hs55_8⟩ : ∃ z : Value → Sto → Prop, z = (fun v R => v = .int .u32 y65 ∧ R = s0) := ⟨_, rfl⟩
        refine have_op (l := [_, _, _, _, _, _, _, _, _, _, _, _, _, _, _, _, _, _, _, _, _]) sha_State_Block.tab53 253 8 (fun sp => sp 8 = s55_8 ∧ sp 5 = s55_5 ∧ sp 7 = s55_7) (fun sp on hA hon => ?_) (fun ops55_8 => ?_)
        · refine ⟨fun o ho vs Rs f' S' w hp hf hx hS hR hs => ?_⟩
          obtain rfl := Option.some.inj ho
          obtain ⟨hv5, hR5⟩ := (spe hA.2.1 hs55_5 (hp 5 (by kernel_rfl)))
          obtain ⟨x64, hv7, hR7⟩ := (spe hA.2.2 hs55_7 (hp 7 (by kernel_rfl)))
          rw [hA.1, hs55_8]
          refine And.intro (fun a ha => (want_none rfl a ha).trans hon.symm) (And.intro (fun _ => ?_) (fun h => by rw [hon] at h; cases h))
          have hF := fr_next (fr_next (rfl) ((hf 5 76 (by kernel_rfl) rfl).trans hv5)) ((hf 7 78 (by kernel_rfl) rfl).trans hv7)
          refine ls_fr hF ?_
          refine ls_val (v := .int .u32 (bits .xor .u32 (bits .xor .u32 t56 t59) t62)) rfl rfl (by kernel_rfl) (fun w => by kernel_rfl) ?_
          refine ls_ren 79 (v := .int .u32 (bits .xor .u32 (bits .xor .u32 t56 t59) t62)) (v' := .int .u32 y65) (by kernel_rfl) (by rw [hy66]) ?_
          exact ls_fin s0 (.int .u32 y65) ((upd_upd _ _ _ _).trans (congrArg (fun z => upd z 79 _) hF.symm)) ⟨rfl, rfl⟩ (sub_nil _)
        obtain ⟨s55_9, hs55_9⟩ : ∃ z : Value → Sto → Prop, z = (fun v R => v = .int .u32 (IntKind.wrap .u32 (x14_3 + y65)) ∧ R = s0) := ⟨_, rfl⟩
        refine have_op (l := [_, _, _, _, _, _, _, _, _, _, _, _, _, _, _, _, _, _, _, _, _]) sha_State_Block.tab53 253 9 (fun sp => sp 9 = s55_9 ∧ sp 0 = s55_0 ∧ sp 8 = s55_8) (fun sp on hA hon => ?_) (fun ops55_9 => ?_)
        · refine ⟨fun o ho vs Rs f' S' w hp hf hx hS hR hs => ?_⟩
          obtain rfl := Option.some.inj ho
          obtain ⟨hv0, hR0⟩ := (spe hA.2.1 hs55_0 (hp 0 (by kernel_rfl)))
          obtain ⟨hv8, hR8⟩ := (spe hA.2.2 hs55_8 (hp 8 (by kernel_rfl)))
          rw [hA.1, hs55_9]
          refine And.intro (fun a ha => (want_none rfl a ha).trans hon.symm) (And.intro (fun _ => ?_) (fun h => by rw [hon] at h; cases h))
          have hF := fr_next (fr_next (rfl) ((hf 0 71 (by kernel_rfl) rfl).trans hv0)) ((hf 8 79 (by kernel_rfl) rfl).trans hv8)
          refine ls_fr hF ?_
          refine ls_val (v := .int .u32 (IntKind.wrap .u32 (x14_3 + y65))) rfl rfl (by kernel_rfl) (fun w => by kernel_rfl) ?_
          exact ls_fin s0 (.int .u32 (IntKind.wrap .u32 (x14_3 + y65))) (congrArg (fun z => upd z 80 _) hF.symm) ⟨rfl, rfl⟩ (sub_nil _)
        obtain ⟨s55_10, hs55_10⟩ : ∃ z : Value → Sto → Prop, z = (fun v R => v = .int .u32 y48 ∧ R = s0) := ⟨_, rfl⟩
        refine have_op (l := [_, _, _, _, _, _, _, _, _, _, _, _, _, _, _, _, _, _, _, _, _]) sha_State_Block.tab53 253 10 (fun sp => sp 10 = s55_10) (fun sp on hA hon => ?_) (fun ops55_10 => ?_)
        · refine ⟨fun o ho vs Rs f' S' w hp hf hx hS hR hs => ?_⟩
          obtain rfl := Option.some.inj ho
          rw [hA, hs55_10]
          refine And.intro (fun a ha => (want_none rfl a ha).trans hon.symm) (And.intro (fun _ => ?_) (fun h => by rw [hon] at h; cases h))
          have hF := fr_next (rfl) ((hx 16 (by kernel_rfl)).trans (by kernel_rfl : (_ : Value) = .int .u32 y48))
          refine ls_fr hF ?_
          refine ls_val (v := .int .u32 y48) rfl rfl (by kernel_rfl) (fun w => by kernel_rfl) ?_
          exact ls_fin s0 (.int .u32 y48) (congrArg (fun z => upd z 81 _) hF.symm) ⟨rfl, rfl⟩ (sub_nil _)
        obtain ⟨y67, hy68, H⟩ := lt_some H
        obtain ⟨s55_11, hs55_11⟩ : ∃ z : Value → Sto → Prop, z = (fun v R => v = .int .u32 y67 ∧ R = s0) := ⟨_, rfl⟩
        refine have_op (l := [_, _, _, _, _, _, _, _, _, _, _, _, _, _, _, _, _, _, _, _, _]) sha_State_Block.tab53 253 11 (fun sp => sp 11 = s55_11 ∧ sp 9 = s55_9 ∧ sp 10 = s55_10) (fun sp on hA hon => ?_) (fun ops55_11 => ?_)
        · refine ⟨fun o ho vs Rs f' S' w hp hf hx hS hR hs => ?_⟩
          obtain rfl := Option.some.inj ho
          obtain ⟨hv9, hR9⟩ := (spe hA.2.1 hs55_9 (hp 9 (by kernel_rfl)))
          obtain ⟨hv10, hR10⟩ := (spe hA.2.2 hs55_10 (hp 10 (by kernel_rfl)))
          rw [hA.1, hs55_11]
          refine And.intro (fun a ha => (want_none rfl a ha).trans hon.symm) (And.intro (fun _ => ?_) (fun h => by rw [hon] at h; cases h))
          have hF := fr_next (fr_next (rfl) ((hf 9 80 (by kernel_rfl) rfl).trans hv9)) ((hf 10 81 (by kernel_rfl) rfl).trans hv10)
          refine ls_fr hF ?_
          refine ls_val (v := .int .u32 (IntKind.wrap .u32 ((IntKind.wrap .u32 (x14_3 + y65)) + y48))) rfl rfl (by kernel_rfl) (fun w => by kernel_rfl) ?_
          refine ls_ren 82 (v := .int .u32 (IntKind.wrap .u32 ((IntKind.wrap .u32 (x14_3 + y65)) + y48))) (v' := .int .u32 y67) (by kernel_rfl) (by rw [hy68]) ?_
          exact ls_fin s0 (.int .u32 y67) ((upd_upd _ _ _ _).trans (congrArg (fun z => upd z 82 _) hF.symm)) ⟨rfl, rfl⟩ (sub_nil _)
        obtain ⟨s55_12, hs55_12⟩ : ∃ z : Value → Sto → Prop, z = (fun v R => v = .int .i64 x49_3 ∧ R = s0) := ⟨_, rfl⟩
        refine have_op (l := [_, _, _, _, _, _, _, _, _, _, _, _, _, _, _, _, _, _, _, _, _]) sha_State_Block.tab53 253 12 (fun sp => sp 12 = s55_12) (fun sp on hA hon => ?_) (fun ops55_12 => ?_)
        · refine ⟨fun o ho vs Rs f' S' w hp hf hx hS hR hs => ?_⟩
          obtain rfl := Option.some.inj ho
          rw [hA, hs55_12]
          refine And.intro (fun a ha => (want_none rfl a ha).trans hon.symm) (And.intro (fun _ => ?_) (fun h => by rw [hon] at h; cases h))
          have hF := fr_next (rfl) ((hx 15 (by kernel_rfl)).trans (by kernel_rfl : (_ : Value) = .int .i64 x49_3))
          refine ls_fr hF ?_
          refine ls_val (v := .int .i64 x49_3) rfl rfl (by kernel_rfl) (fun w => by kernel_rfl) ?_
          exact ls_fin s0 (.int .i64 x49_3) (congrArg (fun z => upd z 83 _) hF.symm) ⟨rfl, rfl⟩ (sub_nil _)
        obtain ⟨q69, H⟩ := ite_need H
        obtain ⟨q70, H⟩ := ite_need H
        obtain ⟨s55_13, hs55_13⟩ : ∃ z : Value → Sto → Prop, z = (fun v R => v = .pointer (some ⟨g11, (0 + (x49_3).toNat), none⟩) ∧ R = s0) := ⟨_, rfl⟩
        refine have_op (l := [_, _, _, _, _, _, _, _, _, _, _, _, _, _, _, _, _, _, _, _, _]) sha_State_Block.tab53 253 13 (fun sp => sp 13 = s55_13 ∧ sp 12 = s55_12) (fun sp on hA hon => ?_) (fun ops55_13 => ?_)
        · refine ⟨fun o ho vs Rs f' S' w hp hf hx hS hR hs => ?_⟩
          obtain rfl := Option.some.inj ho
          obtain ⟨hv12, hR12⟩ := (spe hA.2 hs55_12 (hp 12 (by kernel_rfl)))
          rw [hA.1, hs55_13]
          refine And.intro (fun a ha => (want_none rfl a ha).trans hon.symm) (And.intro (fun _ => ?_) (fun h => by rw [hon] at h; cases h))
          have hF := fr_next (fr_next (rfl) ((hx 6 (by kernel_rfl)).trans (by kernel_rfl : (_ : Value) = .pointer (some ⟨g11, 0, none⟩)))) ((hf 12 83 (by kernel_rfl) rfl).trans hv12)
          refine ls_fr hF ?_
          refine ls_idxa1 (g := g11) (off := 0) (i := x49_3) (kk := .i64) (ln := 64) (e := 48) rfl rfl (by kernel_rfl) rfl (by kernel_rfl) (by kernel_rfl) (by kernel_rfl) (by kernel_rfl) q69 q70 ?_
          exact ls_fin s0 (.pointer (some ⟨g11, (0 + (x49_3).toNat), none⟩)) (congrArg (fun z => upd z 84 _) hF.symm) ⟨rfl, rfl⟩ (sub_nil _)
        obtain ⟨s55_14, hs55_14⟩ : ∃ z : Value → Sto → Prop, z = (fun v R => v = .int .u32 (t7.1.getD (x49_3).toNat (0 : Int)) ∧ R = s0) := ⟨_, rfl⟩
        refine have_op (l := [_, _, _, _, _, _, _, _, _, _, _, _, _, _, _, _, _, _, _, _, _]) sha_State_Block.tab53 253 14 (fun sp => sp 14 = s55_14 ∧ sp 13 = s55_13) (fun sp on hA hon => ?_) (fun ops55_14 => ?_)
        · refine ⟨fun o ho vs Rs f' S' w hp hf hx hS hR hs => ?_⟩
          obtain rfl := Option.some.inj ho
          obtain ⟨hv13, hR13⟩ := (spe hA.2 hs55_13 (hp 13 (by kernel_rfl)))
          rw [hA.1, hs55_14]
          refine And.intro (fun a ha => (want_none rfl a ha).trans hon.symm) (And.intro (fun _ => ?_) (fun h => by rw [hon] at h; cases h))
          have hF := fr_next (rfl) ((hf 13 84 (by kernel_rfl) rfl).trans hv13)
          refine ls_fr hF ?_
          refine ls_load (a0 := ⟨g11, (0 + (x49_3).toNat), none⟩) (v := .int .u32 (t7.1.getD (x49_3).toNat (0 : Int))) (de := (TypeDesc.int .u32)) rfl rfl (by kernel_rfl) rfl (by kernel_rfl) (by kernel_rfl) (by kernel_rfl) (fun w1 hs1 => cell_step hs1.below.bw (hs.var (k := 4) ((hS 4 (by kernel_rfl)).trans (by exact rfl)) (Sub4.trans (Sub4.all _) (Sub4.one (i := (x49_3).toNat) (Value.int .u32) t7.1 0 (by have := t7.2; omega))))) ?_
          exact ls_fin s0 (.int .u32 (t7.1.getD (x49_3).toNat (0 : Int))) (congrArg (fun z => upd z 85 _) hF.symm) ⟨rfl, rfl⟩ (sub_nil _)
        obtain ⟨y71, hy72, H⟩ := lt_some H
        obtain ⟨s55_15, hs55_15⟩ : ∃ z : Value → Sto → Prop, z = (fun v R => v = .int .u32 y71 ∧ R = s0) := ⟨_, rfl⟩
        refine have_op (l := [_, _, _, _, _, _, _, _, _, _, _, _, _, _, _, _, _, _, _, _, _]) sha_State_Block.tab53 253 15 (fun sp => sp 15 = s55_15 ∧ sp 11 = s55_11 ∧ sp 14 = s55_14) (fun sp on hA hon => ?_) (fun ops55_15 => ?_)
        · refine ⟨fun o ho vs Rs f' S' w hp hf hx hS hR hs => ?_⟩
          obtain rfl := Option.some.inj ho
          obtain ⟨hv11, hR11⟩ := (spe hA.2.1 hs55_11 (hp 11 (by kernel_rfl)))
          obtain ⟨hv14, hR14⟩ := (spe hA.2.2 hs55_14 (hp 14 (by kernel_rfl)))
          rw [hA.1, hs55_15]
          refine And.intro (fun a ha => (want_none rfl a ha).trans hon.symm) (And.intro (fun _ => ?_) (fun h => by rw [hon] at h; cases h))
          have hF := fr_next (fr_next (rfl) ((hf 11 82 (by kernel_rfl) rfl).trans hv11)) ((hf 14 85 (by kernel_rfl) rfl).trans hv14)
          refine ls_fr hF ?_
          refine ls_val (v := .int .u32 (IntKind.wrap .u32 (y67 + (t7.1.getD (x49_3).toNat (0 : Int))))) rfl rfl (by kernel_rfl) (fun w => by kernel_rfl) ?_
          refine ls_ren 86 (v := .int .u32 (IntKind.wrap .u32 (y67 + (t7.1.getD (x49_3).toNat (0 : Int))))) (v' := .int .u32 y71) (by kernel_rfl) (by rw [hy72]) ?_
          exact ls_fin s0 (.int .u32 y71) ((upd_upd _ _ _ _).trans (congrArg (fun z => upd z 86 _) hF.symm)) ⟨rfl, rfl⟩ (sub_nil _)
        obtain ⟨s55_16, hs55_16⟩ : ∃ z : Value → Sto → Prop, z = (fun v R => v = .int .i64 x49_3 ∧ R = s0) := ⟨_, rfl⟩
        refine have_op (l := [_, _, _, _, _, _, _, _, _, _, _, _, _, _, _, _, _, _, _, _, _]) sha_State_Block.tab53 253 16 (fun sp => sp 16 = s55_16) (fun sp on hA hon => ?_) (fun ops55_16 => ?_)
        · refine ⟨fun o ho vs Rs f' S' w hp hf hx hS hR hs => ?_⟩
          obtain rfl := Option.some.inj ho
          rw [hA, hs55_16]
          refine And.intro (fun a ha => (want_none rfl a ha).trans hon.symm) (And.intro (fun _ => ?_) (fun h => by rw [hon] at h; cases h))
          have hF := fr_next (rfl) ((hx 15 (by kernel_rfl)).trans (by kernel_rfl : (_ : Value) = .int .i64 x49_3))
          refine ls_fr hF ?_
          refine ls_val (v := .int .i64 x49_3) rfl rfl (by kernel_rfl) (fun w => by kernel_rfl) ?_
          exact ls_fin s0 (.int .i64 x49_3) (congrArg (fun z => upd z 87 _) hF.symm) ⟨rfl, rfl⟩ (sub_nil _)
        obtain ⟨s55_17, hs55_17⟩ : ∃ z : Value → Sto → Prop, z = (fun v R => v = .pointer (some ⟨g10, (0 + (x49_3).toNat), none⟩) ∧ R = s0) := ⟨_, rfl⟩
        refine have_op (l := [_, _, _, _, _, _, _, _, _, _, _, _, _, _, _, _, _, _, _, _, _]) sha_State_Block.tab53 253 17 (fun sp => sp 17 = s55_17 ∧ sp 16 = s55_16) (fun sp on hA hon => ?_) (fun ops55_17 => ?_)
        · refine ⟨fun o ho vs Rs f' S' w hp hf hx hS hR hs => ?_⟩
          obtain rfl := Option.some.inj ho
          obtain ⟨hv16, hR16⟩ := (spe hA.2 hs55_16 (hp 16 (by kernel_rfl)))
          rw [hA.1, hs55_17]
          refine And.intro (fun a ha => (want_none rfl a ha).trans hon.symm) (And.intro (fun _ => ?_) (fun h => by rw [hon] at h; cases h))
          have hF := fr_next (fr_next (rfl) ((hx 5 (by kernel_rfl)).trans (by kernel_rfl : (_ : Value) = .pointer (some ⟨g10, 0, none⟩)))) ((hf 16 87 (by kernel_rfl) rfl).trans hv16)
          refine ls_fr hF ?_
          refine ls_idxa1 (g := g10) (off := 0) (i := x49_3) (kk := .i64) (ln := 64) (e := 48) rfl rfl (by kernel_rfl) rfl (by kernel_rfl) (by kernel_rfl) (by kernel_rfl) (by kernel_rfl) q69 q70 ?_
          exact ls_fin s0 (.pointer (some ⟨g10, (0 + (x49_3).toNat), none⟩)) (congrArg (fun z => upd z 88 _) hF.symm) ⟨rfl, rfl⟩ (sub_nil _)
        obtain ⟨s55_18, hs55_18⟩ : ∃ z : Value → Sto → Prop, z = (fun v R => v = .int .u32 (t4.1.getD (x49_3).toNat (0 : Int)) ∧ R = s0) := ⟨_, rfl⟩
        refine have_op (l := [_, _, _, _, _, _, _, _, _, _, _, _, _, _, _, _, _, _, _, _, _]) sha_State_Block.tab53 253 18 (fun sp => sp 18 = s55_18 ∧ sp 17 = s55_17) (fun sp on hA hon => ?_) (fun ops55_18 => ?_)
        · refine ⟨fun o ho vs Rs f' S' w hp hf hx hS hR hs => ?_⟩
          obtain rfl := Option.some.inj ho
          obtain ⟨hv17, hR17⟩ := (spe hA.2 hs55_17 (hp 17 (by kernel_rfl)))
          rw [hA.1, hs55_18]
          refine And.intro (fun a ha => (want_none rfl a ha).trans hon.symm) (And.intro (fun _ => ?_) (fun h => by rw [hon] at h; cases h))
          have hF := fr_next (rfl) ((hf 17 88 (by kernel_rfl) rfl).trans hv17)
          refine ls_fr hF ?_
          refine ls_load (a0 := ⟨g10, (0 + (x49_3).toNat), none⟩) (v := .int .u32 (t4.1.getD (x49_3).toNat (0 : Int))) (de := (TypeDesc.int .u32)) rfl rfl (by kernel_rfl) rfl (by kernel_rfl) (by kernel_rfl) (by kernel_rfl) (fun w1 hs1 => cell_step hs1.below.bw (hs.var (k := 3) ((hS 3 (by kernel_rfl)).trans (by exact rfl)) (Sub4.trans (Sub4.all _) (Sub4.one (i := (x49_3).toNat) (Value.int .u32) t4.1 0 (by have := t4.2; omega))))) ?_
          exact ls_fin s0 (.int .u32 (t4.1.getD (x49_3).toNat (0 : Int))) (congrArg (fun z => upd z 89 _) hF.symm) ⟨rfl, rfl⟩ (sub_nil _)
        refine cs_draw sha_State_Block.tab53 19 253 (spl [s55_0, s55_1, s55_2, s55_3, s55_4, s55_5, s55_6, s55_7, s55_8, s55_9, s55_10, s55_11, s55_12, s55_13, s55_14, s55_15, s55_16, s55_17, s55_18]) (onl [true, true, true, true, true, true, true, true, true, true, true, true, true, true, true, true, true, true, true]) (by kernel_rfl) (by kernel_rfl) (by kernel_rfl) (by kernel_rfl) (rs := [_, _]) rfl (by kernel_rfl) (by kernel_rfl) (all_snoc (all_snoc (all_snoc (all_snoc (all_snoc (all_snoc (all_snoc (all_snoc (all_snoc (all_snoc (all_snoc (all_snoc (all_snoc (all_snoc (all_snoc (all_snoc (all_snoc (all_snoc (all_snoc (all_nil) (ops55_0 _ _ rfl rfl)) (ops55_1 _ _ rfl rfl)) (ops55_2 _ _ ⟨rfl, rfl⟩ rfl)) (ops55_3 _ _ rfl rfl)) (ops55_4 _ _ ⟨rfl, rfl⟩ rfl)) (ops55_5 _ _ ⟨rfl, rfl, rfl⟩ rfl)) (ops55_6 _ _ rfl rfl)) (ops55_7 _ _ ⟨rfl, rfl⟩ rfl)) (ops55_8 _ _ ⟨rfl, rfl, rfl⟩ rfl)) (ops55_9 _ _ ⟨rfl, rfl, rfl⟩ rfl)) (ops55_10 _ _ rfl rfl)) (ops55_11 _ _ ⟨rfl, rfl, rfl⟩ rfl)) (ops55_12 _ _ rfl rfl)) (ops55_13 _ _ ⟨rfl, rfl⟩ rfl)) (ops55_14 _ _ ⟨rfl, rfl⟩ rfl)) (ops55_15 _ _ ⟨rfl, rfl, rfl⟩ rfl)) (ops55_16 _ _ rfl rfl)) (ops55_17 _ _ ⟨rfl, rfl⟩ rfl)) (ops55_18 _ _ ⟨rfl, rfl⟩ rfl)) ?_
        intro vs Rs f' S' hp hf hx hS hR
        obtain ⟨x58, hv2, hR2⟩ := (spe rfl hs55_2 (hp 2 (by kernel_rfl)))
        obtain ⟨x61, hv4, hR4⟩ := (spe rfl hs55_4 (hp 4 (by kernel_rfl)))
        obtain ⟨x64, hv7, hR7⟩ := (spe rfl hs55_7 (hp 7 (by kernel_rfl)))
        obtain ⟨hv15, hR15⟩ := (spe rfl hs55_15 (hp 15 (by kernel_rfl)))
        obtain ⟨hv18, hR18⟩ := (spe rfl hs55_18 (hp 18 (by kernel_rfl)))
        refine ls_fr (F := upd (upd (upd (upd (upd (upd (upd (upd (upd (upd (upd (upd (upd (upd (upd f' 2 (.pointer (some ⟨g1, 0, none⟩))) 4 (.pointer (some ⟨g3, 0, none⟩))) 5 (.pointer (some ⟨g10, 0, none⟩))) 6 (.pointer (some ⟨g11, 0, none⟩))) 7 (.int .u32 x7_3)) 8 (.int .u32 x8_3)) 9 (.int .u32 x9_3)) 10 (.int .u32 x10_3)) 11 (.int .u32 x11_3)) 12 (.int .u32 x12_3)) 13 (.int .u32 x13_3)) 17 (.int .u32 y52)) 49 (.int .i64 x49_3)) 86 (.int .u32 y71)) 89 (.int .u32 (t4.1.getD (x49_3).toNat (0 : Int)))) (fr_next (fr_next (fr_next (fr_next (fr_next (fr_next (fr_next (fr_next (fr_next (fr_next (fr_next (fr_next (fr_next (fr_next (fr_next (rfl) ((hx 2 (by kernel_rfl)).trans (by kernel_rfl : (_ : Value) = .pointer (some ⟨g1, 0, none⟩)))) ((hx 4 (by kernel_rfl)).trans (by kernel_rfl : (_ : Value) = .pointer (some ⟨g3, 0, none⟩)))) ((hx 5 (by kernel_rfl)).trans (by kernel_rfl : (_ : Value) = .pointer (some ⟨g10, 0, none⟩)))) ((hx 6 (by kernel_rfl)).trans (by kernel_rfl : (_ : Value) = .pointer (some ⟨g11, 0, none⟩)))) ((hx 7 (by kernel_rfl)).trans (by kernel_rfl : (_ : Value) = .int .u32 x7_3))) ((hx 8 (by kernel_rfl)).trans (by kernel_rfl : (_ : Value) = .int .u32 x8_3))) ((hx 9 (by kernel_rfl)).trans (by kernel_rfl : (_ : Value) = .int .u32 x9_3))) ((hx 10 (by kernel_rfl)).trans (by kernel_rfl : (_ : Value) = .int .u32 x10_3))) ((hx 11 (by kernel_rfl)).trans (by kernel_rfl : (_ : Value) = .int .u32 x11_3))) ((hx 12 (by kernel_rfl)).trans (by kernel_rfl : (_ : Value) = .int .u32 x12_3))) ((hx 13 (by kernel_rfl)).trans (by kernel_rfl : (_ : Value) = .int .u32 x13_3))) ((hx 17 (by kernel_rfl)).trans (by kernel_rfl : (_ : Value) = .int .u32 y52))) ((hx 49 (by kernel_rfl)).trans (by kernel_rfl : (_ : Value) = .int .i64 x49_3))) ((hf 15 86 (by kernel_rfl) rfl).trans hv15)) ((hf 18 89 (by kernel_rfl) rfl).trans hv18)) ?_
        refine ls_sub (sput (sput (sput (sput s0 0 (some (Ck.var 52 g1 ((en (Value.int .u32) a0.1.1 ++ [Value.int .u64 a0.2]))))) 2 (some (Ck.var 52 g3 ((en (Value.int .u32) (vrep 8 (0 : Int)).1 ++ [Value.int .u64 (0 : Int)]))))) 3 (some (Ck.var 55 g10 (en (Value.int .u32) t4.1)))) 4 (some (Ck.var 55 g11 (en (Value.int .u32) t7.1)))) (sub_put ((hS 4 (by kernel_rfl)).trans (by exact rfl)) (sub_put ((hS 3 (by kernel_rfl)).trans (by exact rfl)) (sub_put ((hS 2 (by kernel_rfl)).trans (by exact rfl)) (sub_put ((hS 0 (by kernel_rfl)).trans (by exact rfl)) (sub_nil _))))) ?_
        obtain ⟨y73, hy74, H⟩ := lt_some H
        refine ls_val (v := .int .u32 (IntKind.wrap .u32 (y71 + (t4.1.getD (x49_3).toNat (0 : Int))))) rfl rfl (by kernel_rfl) (fun w => by kernel_rfl) ?_
        refine ls_ren 90 (v := .int .u32 (IntKind.wrap .u32 (y71 + (t4.1.getD (x49_3).toNat (0 : Int))))) (v' := .int .u32 y73) (by kernel_rfl) (by rw [hy74]) ?_
        refine ls_val (v := .int .u32 y73) rfl rfl (by kernel_rfl) (fun w => by kernel_rfl) ?_
        refine ls_end ?_
        refine qn_then ?_
        refine cs_seq ?_
        refine cs_region (l := [_, _, _, _, _, _, _, _, _, _, _]) ?_
        refine ls_val (v := .int .u32 x7_3) rfl rfl (by kernel_rfl) (fun w => by kernel_rfl) ?_
        obtain ⟨t75, hc76, H⟩ := bind_some H
        refine ls_callb (fid := 47) (vals := #[.int .u32 x7_3, .int .i64 (2 : Int)]) (X := Unit) (fun x => .int .u32 t75) (fun x => stl []) [] [] [] [] 405 rfl rfl (by kernel_rfl) (fun w => by kernel_rfl) trivial trivial (by decide) (fun w hs hb => sha_down.calls k3 x7_3 (2 : Int) t75 (lent b w [] []) hb  hc76) ?_
        intro x77
        refine ls_val (v := .int .u32 x7_3) rfl rfl (by kernel_rfl) (fun w => by kernel_rfl) ?_
        obtain ⟨t78, hc79, H⟩ := bind_some H
        refine ls_callb (fid := 47) (vals := #[.int .u32 x7_3, .int .i64 (13 : Int)]) (X := Unit) (fun x => .int .u32 t78) (fun x => stl []) [] [] [] [] 405 rfl rfl (by kernel_rfl) (fun w => by kernel_rfl) trivial trivial (by decide) (fun w hs hb => sha_down.calls k3 x7_3 (13 : Int) t78 (lent b w [] []) hb  hc79) ?_
        intro x80
        refine ls_val (v := .int .u32 (bits .xor .u32 t75 t78)) rfl rfl (by kernel_rfl) (fun w => by kernel_rfl) ?_
        refine ls_val (v := .int .u32 x7_3) rfl rfl (by kernel_rfl) (fun w => by kernel_rfl) ?_
        obtain ⟨t81, hc82, H⟩ := bind_some H
        refine ls_callb (fid := 47) (vals := #[.int .u32 x7_3, .int .i64 (22 : Int)]) (X := Unit) (fun x => .int .u32 t81) (fun x => stl []) [] [] [] [] 405 rfl rfl (by kernel_rfl) (fun w => by kernel_rfl) trivial trivial (by decide) (fun w hs hb => sha_down.calls k3 x7_3 (22 : Int) t81 (lent b w [] []) hb  hc82) ?_
        intro x83
        obtain ⟨y84, hy85, H⟩ := lt_some H
        refine ls_val (v := .int .u32 (bits .xor .u32 (bits .xor .u32 t75 t78) t81)) rfl rfl (by kernel_rfl) (fun w => by kernel_rfl) ?_
        refine ls_ren 98 (v := .int .u32 (bits .xor .u32 (bits .xor .u32 t75 t78) t81)) (v' := .int .u32 y84) (by kernel_rfl) (by rw [hy85]) ?_
        refine ls_val (v := .int .u32 y52) rfl rfl (by kernel_rfl) (fun w => by kernel_rfl) ?_
        refine ls_val (v := .int .u32 (IntKind.wrap .u32 (y84 + y52))) rfl rfl (by kernel_rfl) (fun w => by kernel_rfl) ?_
        refine ls_val (v := .int .u32 (IntKind.wrap .u32 (y84 + y52))) rfl rfl (by kernel_rfl) (fun w => by kernel_rfl) ?_
        refine ls_end ?_
        refine qn_then ?_
        refine cs_seq ?_
        refine cs_region (l := [_, _, _, _, _, _, _, _, _, _]) ?_
        refine ls_val (v := .int .u32 x13_3) rfl rfl (by kernel_rfl) (fun w => by kernel_rfl) ?_
        refine ls_val (v := .int .u32 x12_3) rfl rfl (by kernel_rfl) (fun w => by kernel_rfl) ?_
        refine ls_val (v := .int .u32 x11_3) rfl rfl (by kernel_rfl) (fun w => by kernel_rfl) ?_
        refine ls_val (v := .int .u32 x10_3) rfl rfl (by kernel_rfl) (fun w => by kernel_rfl) ?_
        refine ls_val (v := .int .u32 y73) rfl rfl (by kernel_rfl) (fun w => by kernel_rfl) ?_
        refine ls_val (v := .int .u32 (IntKind.wrap .u32 (x10_3 + y73))) rfl rfl (by kernel_rfl) (fun w => by kernel_rfl) ?_
        refine ls_val (v := .int .u32 x13_3) rfl rfl (by kernel_rfl) (fun w => by kernel_rfl) ?_
        refine ls_val (v := .int .u32 x12_3) rfl rfl (by kernel_rfl) (fun w => by kernel_rfl) ?_
        refine ls_val (v := .int .u32 x11_3) rfl rfl (by kernel_rfl) (fun w => by kernel_rfl) ?_
        refine ls_val (v := .int .u32 (IntKind.wrap .u32 (x10_3 + y73))) rfl rfl (by kernel_rfl) (fun w => by kernel_rfl) ?_
        refine ls_end ?_
        refine qn_then ?_
        refine cs_region (l := [_, _, _, _, _, _, _, _, _, _]) ?_
        refine ls_val (v := .int .u32 x9_3) rfl rfl (by kernel_rfl) (fun w => by kernel_rfl) ?_
        refine ls_val (v := .int .u32 x8_3) rfl rfl (by kernel_rfl) (fun w => by kernel_rfl) ?_
        refine ls_val (v := .int .u32 x7_3) rfl rfl (by kernel_rfl) (fun w => by kernel_rfl) ?_
        refine ls_val (v := .int .u32 y73) rfl rfl (by kernel_rfl) (fun w => by kernel_rfl) ?_
        refine ls_val (v := .int .u32 (IntKind.wrap .u32 (y84 + y52))) rfl rfl (by kernel_rfl) (fun w => by kernel_rfl) ?_
        obtain ⟨y86, hy87, H⟩ := lt_some H
        refine ls_val (v := .int .u32 (IntKind.wrap .u32 (y73 + (IntKind.wrap .u32 (y84 + y52))))) rfl rfl (by kernel_rfl) (fun w => by kernel_rfl) ?_
        refine ls_ren 112 (v := .int .u32 (IntKind.wrap .u32 (y73 + (IntKind.wrap .u32 (y84 + y52))))) (v' := .int .u32 y86) (by kernel_rfl) (by rw [hy87]) ?_
        refine ls_val (v := .int .u32 x9_3) rfl rfl (by kernel_rfl) (fun w => by kernel_rfl) ?_
        refine ls_val (v := .int .u32 x8_3) rfl rfl (by kernel_rfl) (fun w => by kernel_rfl) ?_
        refine ls_val (v := .int .u32 x7_3) rfl rfl (by kernel_rfl) (fun w => by kernel_rfl) ?_
        refine ls_val (v := .int .u32 y86) rfl rfl (by kernel_rfl) (fun w => by kernel_rfl) ?_
        refine ls_end ?_
        refine qn_block ?_
        refine qn_then ?_
        refine cs_region (l := [_, _]) ?_
        refine ls_val (v := .int .i64 (IntKind.wrap .i64 (x49_3 + (1 : Int)))) rfl rfl (by kernel_rfl) (fun w => by kernel_rfl) ?_
        refine ls_val (v := .int .i64 (IntKind.wrap .i64 (x49_3 + (1 : Int)))) rfl rfl (by kernel_rfl) (fun w => by kernel_rfl) ?_
        refine ls_end ?_
        refine qn_again k3 (sput (sput (sput (sput s0 0 (some (Ck.var 52 g1 ((en (Value.int .u32) a0.1.1 ++ [Value.int .u64 a0.2]))))) 2 (some (Ck.var 52 g3 ((en (Value.int .u32) (vrep 8 (0 : Int)).1 ++ [Value.int .u64 (0 : Int)]))))) 3 (some (Ck.var 55 g10 (en (Value.int .u32) t4.1)))) 4 (some (Ck.var 55 g11 (en (Value.int .u32) t7.1)))) (Nat.le_refl _) ⟨_, y86, x7_3, x8_3, x9_3, (IntKind.wrap .u32 (x10_3 + y73)), x11_3, x12_3, x13_3, (IntKind.wrap .i64 (x49_3 + (1 : Int))), fr_next (fr_next (fr_next (fr_next (fr_next (fr_next (fr_next (fr_next (fr_next (fr_next (fr_next (fr_next (fr_next (rfl) (by kernel_rfl)) (by kernel_rfl)) (by kernel_rfl)) (by kernel_rfl)) (by kernel_rfl)) (by kernel_rfl)) (by kernel_rfl)) (by kernel_rfl)) (by kernel_rfl)) (by kernel_rfl)) (by kernel_rfl)) (by kernel_rfl)) (by kernel_rfl), rfl, H⟩ (sub_put (by exact rfl) (sub_put (by exact rfl) (sub_put (by exact rfl) (sub_put (by exact rfl) (sub_nil _)))))
  · rintro f S ⟨fr1, x7_1, x8_1, x9_1, x10_1, x11_1, x12_1, x13_1, x14_1, rfl, rfl, H⟩
    replace H : (sha_State_Block.lo2 x7_1 x8_1 x9_1 x10_1 x11_1 x12_1 x13_1 x14_1 k (0 : Int) a0) = some r := H
    refine cs_seq ?_
    refine cs_seq ?_
    refine cs_region (l := [_, _, _, _, _, _, _, _, _, _]) ?_
    refine ls_val (v := .int .u32 x7_1) rfl rfl (by kernel_rfl) (fun w => by kernel_rfl) ?_
    refine ls_val (v := .int .u32 x8_1) rfl rfl (by kernel_rfl) (fun w => by kernel_rfl) ?_
    refine ls_val (v := .int .u32 x9_1) rfl rfl (by kernel_rfl) (fun w => by kernel_rfl) ?_
    refine ls_val (v := .int .u32 x10_1) rfl rfl (by kernel_rfl) (fun w => by kernel_rfl) ?_
    refine ls_val (v := .int .u32 x11_1) rfl rfl (by kernel_rfl) (fun w => by kernel_rfl) ?_
    refine ls_val (v := .int .u32 x12_1) rfl rfl (by kernel_rfl) (fun w => by kernel_rfl) ?_
    refine ls_val (v := .int .u32 x13_1) rfl rfl (by kernel_rfl) (fun w => by kernel_rfl) ?_
    refine ls_val (v := .int .u32 x14_1) rfl rfl (by kernel_rfl) (fun w => by kernel_rfl) ?_
    refine ls_val (v := .agg ⟨en (Value.int .u32) (⟨[x7_1, x8_1, x9_1, x10_1, x11_1, x12_1, x13_1, x14_1], rfl⟩ : (Vc Int 8)).1⟩) rfl rfl (by kernel_rfl) (fun w => by kernel_rfl) ?_
    refine ls_val (v := .int .i64 (0 : Int)) rfl rfl (by kernel_rfl) (fun w => by kernel_rfl) ?_
    refine ls_end ?_
    refine qn_then ?_
    refine cs_block ?_
    refine cs_sub (sput (sput s0 0 (some (Ck.var 52 g1 ((en (Value.int .u32) a0.1.1 ++ [Value.int .u64 a0.2]))))) 2 (some (Ck.var 52 g3 ((en (Value.int .u32) (vrep 8 (0 : Int)).1 ++ [Value.int .u64 (0 : Int)]))))) (sub_put (by exact rfl) (sub_put (by exact rfl) (sub_nil _))) ?_
    refine cs_loop (fun kk f S => ∃ (fR : Fr) (x123_2 : Int) (m0_2 : ((Vc Int 8) × Int)), f = upd (upd (upd (upd fR 2 (.pointer (some ⟨g1, 0, none⟩))) 4 (.pointer (some ⟨g3, 0, none⟩))) 122 (.agg ⟨en (Value.int .u32) (⟨[x7_1, x8_1, x9_1, x10_1, x11_1, x12_1, x13_1, x14_1], rfl⟩ : (Vc Int 8)).1⟩)) 123 (.int .i64 x123_2) ∧ S = sput (sput s0 0 (some (Ck.var 52 g1 ((en (Value.int .u32) m0_2.1.1 ++ [Value.int .u64 m0_2.2]))))) 2 (some (Ck.var 52 g3 ((en (Value.int .u32) (vrep 8 (0 : Int)).1 ++ [Value.int .u64 (0 : Int)])))) ∧ sha_State_Block.lo2 x7_1 x8_1 x9_1 x10_1 x11_1 x12_1 x13_1 x14_1 kk x123_2 m0_2 = some r) k ?_ ?_ ?_
    · exact ⟨_, (0 : Int), a0, fr_next (fr_next (fr_next (fr_next (rfl) (by kernel_rfl)) (by kernel_rfl)) (by kernel_rfl)) (by kernel_rfl), rfl, H⟩
    · rintro f S ⟨fr2, x123_2, m0_2, rfl, rfl, H⟩; cases H
    · rintro k2 f S ⟨fr2, x123_2, m0_2, rfl, rfl, H⟩
      replace H : ((if x123_2 < (8 : Int) then (if 0 ≤ x123_2 then lt (((⟨[x7_1, x8_1, x9_1, x10_1, x11_1, x12_1, x13_1, x14_1], rfl⟩ : (Vc Int 8)).1.getD (x123_2).toNat (0 : Int))) fun y40 => lt (IntKind.wrap .u32 ((m0_2.1.1.getD (x123_2).toNat (0 : Int)) + y40)) fun y42 => lt (vset m0_2.1 (x123_2).toNat y42) fun y44 => (sha_State_Block.lo2 x7_1 x8_1 x9_1 x10_1 x11_1 x12_1 x13_1 x14_1 k2) (IntKind.wrap .i64 (x123_2 + (1 : Int))) (y44, m0_2.2) else none) else some (m0_2.1, IntKind.wrap .u64 (m0_2.2 + (64 : Int))))) = some r := H
      refine cs_seq ?_
      refine cs_region (l := [_]) ?_
      refine ls_val (v := .bool (decide (x123_2 < (8 : Int)))) rfl rfl (by kernel_rfl) (fun w => by kernel_rfl) ?_
      refine ls_end ?_
      refine qn_then ?_
      refine cs_seq ?_
      by_cases q38 : x123_2 < (8 : Int)
      · replace H := ite_t q38 H
        refine cs_know (c := true) (dec_t q38) 124 (by kernel_rfl) ?_
        refine cs_true (by kernel_rfl) ?_
        refine cs_skip' ?_
        refine qn_then ?_
        refine cs_seq ?_
        refine cs_block ?_
        refine cs_seq ?_
        refine cs_region (l := [_, _, _, _]) ?_
        refine ls_val (v := .int .i64 x123_2) rfl rfl (by kernel_rfl) (fun w => by kernel_rfl) ?_
        obtain ⟨q39, H⟩ := ite_need H
        obtain ⟨y40, hy41, H⟩ := lt_some H
        refine ls_index (l := (⟨[x7_1, x8_1, x9_1, x10_1, x11_1, x12_1, x13_1, x14_1], rfl⟩ : (Vc Int 8)).1) (E := (Value.int .u32)) (i := x123_2) (kk := .i64) (ln := 8) (e := 48) rfl rfl (by kernel_rfl) (⟨[x7_1, x8_1, x9_1, x10_1, x11_1, x12_1, x13_1, x14_1], rfl⟩ : (Vc Int 8)).2 rfl (by kernel_rfl) (by kernel_rfl) (by kernel_rfl) (by kernel_rfl) (by kernel_rfl) q39 q38 0 ?_
        refine ls_ren 126 (v := .int .u32 ((⟨[x7_1, x8_1, x9_1, x10_1, x11_1, x12_1, x13_1, x14_1], rfl⟩ : (Vc Int 8)).1.getD (x123_2).toNat (0 : Int))) (v' := .int .u32 y40) (by kernel_rfl) (by rw [hy41]) ?_
        refine ls_val (v := .int .i64 x123_2) rfl rfl (by kernel_rfl) (fun w => by kernel_rfl) ?_
        refine ls_val (v := .int .u32 y40) rfl rfl (by kernel_rfl) (fun w => by kernel_rfl) ?_
        refine ls_end ?_
        refine qn_then ?_
        refine cs_region (l := [_, _, _, _, _, _, _, _, _]) ?_
        refine ls_val (v := .int .i64 x123_2) rfl rfl (by kernel_rfl) (fun w => by kernel_rfl) ?_
        refine ls_val (v := .pointer (some ⟨g1, (0 + 0), none⟩)) rfl rfl (by kernel_rfl) (fun w => by kernel_rfl) ?_
        refine ls_idxa1 (g := g1) (off := (0 + 0)) (i := x123_2) (kk := .i64) (ln := 8) (e := 48) rfl rfl (by kernel_rfl) rfl (by kernel_rfl) (by kernel_rfl) (by kernel_rfl) (by kernel_rfl) q39 q38 ?_
        refine ls_load (a0 := ⟨g1, ((0 + 0) + (x123_2).toNat), none⟩) (v := .int .u32 (m0_2.1.1.getD (x123_2).toNat (0 : Int))) (de := (TypeDesc.int .u32)) rfl rfl (by kernel_rfl) rfl (by kernel_rfl) (by kernel_rfl) (by kernel_rfl) (fun w hs => (hs.var (k := 0) (by exact rfl) (Sub4.trans (Sub4.trans (Sub4.all _) (Sub4.head _ _)) (Sub4.one (i := (x123_2).toNat) (Value.int .u32) m0_2.1.1 0 (by have := m0_2.1.2; omega))))) ?_
        refine ls_val (v := .int .u32 y40) rfl rfl (by kernel_rfl) (fun w => by kernel_rfl) ?_
        obtain ⟨y42, hy43, H⟩ := lt_some H
        refine ls_val (v := .int .u32 (IntKind.wrap .u32 ((m0_2.1.1.getD (x123_2).toNat (0 : Int)) + y40))) rfl rfl (by kernel_rfl) (fun w => by kernel_rfl) ?_
        refine ls_ren 132 (v := .int .u32 (IntKind.wrap .u32 ((m0_2.1.1.getD (x123_2).toNat (0 : Int)) + y40))) (v' := .int .u32 y42) (by kernel_rfl) (by rw [hy43]) ?_
        refine ls_val (v := .pointer (some ⟨g1, (0 + 0), none⟩)) rfl rfl (by kernel_rfl) (fun w => by kernel_rfl) ?_
        refine ls_idxa1 (g := g1) (off := (0 + 0)) (i := x123_2) (kk := .i64) (ln := 8) (e := 48) rfl rfl (by kernel_rfl) rfl (by kernel_rfl) (by kernel_rfl) (by kernel_rfl) (by kernel_rfl) q39 q38 ?_
        obtain ⟨y44, hy45, H⟩ := lt_some H
        refine ls_storec (g := g1) (off := ((0 + 0) + (x123_2).toNat)) (v := .int .u32 y42) (vs := [Value.int .u32 y42]) (cs := (en (Value.int .u32) m0_2.1.1 ++ [Value.int .u64 m0_2.2])) (ty := 52) 0 rfl rfl rfl (by kernel_rfl) (by kernel_rfl) (by kernel_rfl) (by exact rfl) (by kernel_rfl) (len1 _) (one_cons rfl one_nil) (hl_of (Sub4.trans (Sub4.trans (Sub4.all _) (Sub4.head _ _)) (Sub4.one (i := (x123_2).toNat) (Value.int .u32) m0_2.1.1 0 (by have := m0_2.1.2; omega))) (len_eq (len1 _) (len1 _))) (cs' := (en (Value.int .u32) y44.1 ++ [Value.int .u64 m0_2.2])) (splc_in (Sub4.trans (Sub4.all _) (Sub4.head _ _)) ((splc_one (Value.int .u32) m0_2.1.1 y42 (by have := m0_2.1.2; omega)).trans (congrArg (fun z : (Vc Int 8) => en (Value.int .u32) z.1) hy45)) (splc_in (Sub4.all _) (splc_head (len_eq (len_en _ y44) (len_en _ m0_2.1))) (splc_all (len_eq (len_app (len_en _ y44) (len1 _)) (len_app (len_en _ m0_2.1) (len1 _)))) (hl_of (Sub4.head _ _) (len_eq (len_en _ y44) (len_en _ m0_2.1)))) (hl_of (Sub4.one (i := (x123_2).toNat) (Value.int .u32) m0_2.1.1 0 (by have := m0_2.1.2; omega)) (len_eq (len1 _) (len1 _)))) ?_
        refine ls_end ?_
        refine qn_block ?_
        refine qn_then ?_
        refine cs_region (l := [_, _]) ?_
        refine ls_val (v := .int .i64 (IntKind.wrap .i64 (x123_2 + (1 : Int)))) rfl rfl (by kernel_rfl) (fun w => by kernel_rfl) ?_
        refine ls_val (v := .int .i64 (IntKind.wrap .i64 (x123_2 + (1 : Int)))) rfl rfl (by kernel_rfl) (fun w => by kernel_rfl) ?_
        refine ls_end ?_
        refine qn_again k2 (sput (sput s0 0 (some (Ck.var 52 g1 ((en (Value.int .u32) y44.1 ++ [Value.int .u64 m0_2.2]))))) 2 (some (Ck.var 52 g3 ((en (Value.int .u32) (vrep 8 (0 : Int)).1 ++ [Value.int .u64 (0 : Int)]))))) (Nat.le_refl _) ⟨_, (IntKind.wrap .i64 (x123_2 + (1 : Int))), (y44, m0_2.2), fr_next (fr_next (fr_next (fr_next (rfl) (by kernel_rfl)) (by kernel_rfl)) (by kernel_rfl)) (by kernel_rfl), rfl, H⟩ (sub_put (by exact rfl) (sub_put (by exact rfl) (sub_nil _)))
      · replace H := ite_f q38 H
        refine cs_know (c := false) (dec_f q38) 124 (by kernel_rfl) ?_
        refine cs_false (by kernel_rfl) ?_
        refine cs_exit' ?_
        refine qx_then ?_
        refine qx_then ?_
        refine qx_same ?_
        refine qn_then ?_
        refine cs_seq ?_
        refine cs_region (l := [_, _, _, _, _]) ?_
        refine ls_val (v := .pointer (some ⟨g1, (0 + 8), none⟩)) rfl rfl (by kernel_rfl) (fun w => by kernel_rfl) ?_
        refine ls_load (a0 := ⟨g1, (0 + 8), none⟩) (v := .int .u64 m0_2.2) (de := (TypeDesc.int .u64)) rfl rfl (by kernel_rfl) rfl (by kernel_rfl) (by kernel_rfl) (by kernel_rfl) (fun w hs => (hs.var (k := 0) (by exact rfl) (Sub4.trans (Sub4.all _) (Sub4.skip (n := 8) (len_en _ m0_2.1) (Sub4.all _))))) ?_
        refine ls_val (v := .int .u64 (IntKind.wrap .u64 (m0_2.2 + (64 : Int)))) rfl rfl (by kernel_rfl) (fun w => by kernel_rfl) ?_
        refine ls_val (v := .pointer (some ⟨g1, (0 + 8), none⟩)) rfl rfl (by kernel_rfl) (fun w => by kernel_rfl) ?_
        refine ls_storec (g := g1) (off := (0 + 8)) (v := .int .u64 (IntKind.wrap .u64 (m0_2.2 + (64 : Int)))) (vs := [Value.int .u64 (IntKind.wrap .u64 (m0_2.2 + (64 : Int)))]) (cs := (en (Value.int .u32) m0_2.1.1 ++ [Value.int .u64 m0_2.2])) (ty := 52) 0 rfl rfl rfl (by kernel_rfl) (by kernel_rfl) (by kernel_rfl) (by exact rfl) (by kernel_rfl) (len1 _) (one_cons rfl one_nil) (hl_of (Sub4.trans (Sub4.all _) (Sub4.skip (n := 8) (len_en _ m0_2.1) (Sub4.all _))) (len_eq (len1 _) (len1 _))) (cs' := (en (Value.int .u32) m0_2.1.1 ++ [Value.int .u64 (IntKind.wrap .u64 (m0_2.2 + (64 : Int)))])) (splc_in (Sub4.all _) (splc_skip (n := 8) (len_en _ m0_2.1) (splc_all (len_eq (len1 _) (len1 _)))) (splc_all (len_eq (len_app (len_en _ m0_2.1) (len1 _)) (len_app (len_en _ m0_2.1) (len1 _)))) (hl_of (Sub4.skip (n := 8) (len_en _ m0_2.1) (Sub4.all _)) (len_eq (len1 _) (len1 _)))) ?_
        refine ls_end ?_
        refine qn_then ?_
        refine cs_seq ?_
        refine cs_region (l := [_, _]) ?_
        refine ls_loadagg (a := ⟨g1, 0, none⟩) (sub := (en (Value.int .u32) m0_2.1.1 ++ [Value.int .u64 (IntKind.wrap .u64 (m0_2.2 + (64 : Int)))])) rfl rfl (by kernel_rfl) rfl (by kernel_rfl) (by kernel_rfl) (by kernel_rfl) (len_app (len_en _ m0_2.1) (len1 _)) (fun w hs => (hs.vars (k := 0) (by exact rfl) (Sub4.all _))) ?_
        refine ls_storec (g := g3) (off := 0) (v := .agg ⟨(en (Value.int .u32) m0_2.1.1 ++ [Value.int .u64 (IntKind.wrap .u64 (m0_2.2 + (64 : Int)))])⟩) (vs := (en (Value.int .u32) m0_2.1.1 ++ [Value.int .u64 (IntKind.wrap .u64 (m0_2.2 + (64 : Int)))])) (cs := (en (Value.int .u32) (vrep 8 (0 : Int)).1 ++ [Value.int .u64 (0 : Int)])) (ty := 52) 2 rfl rfl rfl (by kernel_rfl) (by kernel_rfl) (by kernel_rfl) (by exact rfl) (by kernel_rfl) (len_app (len_en _ m0_2.1) (len1 _)) (one_app (one_en (fun _ => rfl) _) (one_cons rfl one_nil)) (hl_of (Sub4.all _) (len_eq (len_app (len_en _ m0_2.1) (len1 _)) (len_app (len_en _ (vrep 8 (0 : Int))) (len1 _)))) (cs' := (en (Value.int .u32) m0_2.1.1 ++ [Value.int .u64 (IntKind.wrap .u64 (m0_2.2 + (64 : Int)))])) (splc_all (len_eq (len_app (len_en _ m0_2.1) (len1 _)) (len_app (len_en _ (vrep 8 (0 : Int))) (len1 _)))) ?_
        refine ls_end ?_
        refine qn_then ?_
        refine cs_ret' ?_
        obtain rfl := Option.some.inj H
        refine qr_res (rs := [_]) rfl (fun w' hs => ⟨[.agg ⟨(en (Value.int .u32) m0_2.1.1 ++ [Value.int .u64 (IntKind.wrap .u64 (m0_2.2 + (64 : Int)))])⟩], (.cell (by kernel_rfl) (run_cellres (by kernel_rfl) (by kernel_rfl) (len_app (len_en _ m0_2.1) (len1 _)) (hs.holds 2 _ (by exact rfl))) (.nil)), (), rfl, hs.pick (ts := []) (cs := []) trivial (by decide)⟩)

/-! ### (shadowbox/sha.State).End: function 37 -/
def sha_State_End.lo3 (t25 : ((Vc Int 8) × Int)) : Nat → Int → ((Vc Int 32)) → Option ((Vc Int 32))
  | 0, _, _ => none
  | k3 + 1, x48_3, m3_3 => (if x48_3 < (32 : Int) then lt (IntKind.wrap .i64 (Int.tdiv x48_3 (4 : Int))) fun y30 => (if 0 ≤ y30 then (if y30 < (8 : Int) then lt (IntKind.wrap .i64 ((3 : Int) - (Int.tmod x48_3 (4 : Int)))) fun y34 => (if 0 ≤ IntKind.wrap .i64 ((8 : Int) * y34) then lt (shrv .u32 (t25.1.1.getD (y30).toNat (0 : Int)) (IntKind.wrap .i64 ((8 : Int) * y34))) fun y37 => (if 0 ≤ x48_3 then lt (vset m3_3 (x48_3).toNat (IntKind.wrap .u8 y37)) fun y40 => (sha_State_End.lo3 t25 k3) (IntKind.wrap .i64 (x48_3 + (1 : Int))) y40 else none) else none) else none) else none) else some m3_3)
def sha_State_End.jo2 (k : Nat) (m0_1 : ((Vc Int 8) × Int)) (m2_2 : (Vc Int 64)) : Option ((Vc Int 32)) := (sha_State_Block.f k m0_1 m2_2).bind fun t25 => sha_State_End.lo3 t25 k (0 : Int) (vrep 32 (0 : Int))
def sha_State_End.lo4 (y16 : Int) (jo2 : ((Vc Int 64)) → Option ((Vc Int 32))) : Nat → Int → ((Vc Int 64)) → Option ((Vc Int 32))
  | 0, _, _ => none
  | k4 + 1, x33_4, m2_4 => (if x33_4 < (8 : Int) then (if 0 ≤ IntKind.wrap .i64 ((8 : Int) * x33_4) then lt (shrv .u64 (IntKind.wrap .u64 ((8 : Int) * y16)) (IntKind.wrap .i64 ((8 : Int) * x33_4))) fun y44 => (if 0 ≤ IntKind.wrap .i64 ((63 : Int) - x33_4) then (if IntKind.wrap .i64 ((63 : Int) - x33_4) < (64 : Int) then lt (vset m2_4 (IntKind.wrap .i64 ((63 : Int) - x33_4)).toNat (IntKind.wrap .u8 y44)) fun y48 => (sha_State_End.lo4 y16 jo2 k4) (IntKind.wrap .i64 (x33_4 + (1 : Int))) y48 else none) else none) else none) else jo2 m2_4)
def sha_State_End.jo1 (k : Nat) (y16 : Int) (m0_1 : ((Vc Int 8) × Int)) (m2_1 : (Vc Int 64)) : Option ((Vc Int 32)) := sha_State_End.lo4 y16 (sha_State_End.jo2 k m0_1) k (0 : Int) m2_1
def sha_State_End.cst0 : Vc Int 64 := ⟨[(0 : Int), (0 : Int), (0 : Int), (0 : Int), (0 : Int), (0 : Int), (0 : Int), (0 : Int), (0 : Int), (0 : Int), (0 : Int), (0 : Int), (0 : Int), (0 : Int), (0 : Int), (0 : Int), (0 : Int), (0 : Int), (0 : Int), (0 : Int), (0 : Int), (0 : Int), (0 : Int), (0 : Int), (0 : Int), (0 : Int), (0 : Int), (0 : Int), (0 : Int), (0 : Int), (0 : Int), (0 : Int), (0 : Int), (0 : Int), (0 : Int), (0 : Int), (0 : Int), (0 : Int), (0 : Int), (0 : Int), (0 : Int), (0 : Int), (0 : Int), (0 : Int), (0 : Int), (0 : Int), (0 : Int), (0 : Int), (0 : Int), (0 : Int), (0 : Int), (0 : Int), (0 : Int), (0 : Int), (0 : Int), (0 : Int), (0 : Int), (0 : Int), (0 : Int), (0 : Int), (0 : Int), (0 : Int), (0 : Int), (0 : Int)], rfl⟩
def sha_State_End.f (k : Nat) (a0 : ((Vc Int 8) × Int)) (l1 : List Int) : Option ((Vc Int 32)) :=
  lt ((if (63 : Int) < (l1.length : Int) then (63 : Int) else (l1.length : Int))) fun y3 => (if 0 ≤ y3 then (if y3 ≤ (l1.length : Int) then lt (l1.take (y3).toNat) fun xl11 => lt (IntKind.wrap .u64 (a0.2 + (IntKind.wrap .u64 (xl11.length : Int)))) fun y16 => lt (vcopy (vrep 64 (0 : Int)) xl11) fun y19 => (if 0 ≤ ((min xl11.length 64 : Nat) : Int) then (if ((min xl11.length 64 : Nat) : Int) < (64 : Int) then lt (vset y19 (((min xl11.length 64 : Nat) : Int)).toNat (128 : Int)) fun y23 => (if (xl11.length : Int) ≥ (56 : Int) then (sha_State_Block.f k a0 y23).bind fun t51 => (sha_State_End.jo1 k y16) t51 sha_State_End.cst0 else (sha_State_End.jo1 k y16) a0 y23) else none) else none) else none) else none)
set_option maxRecDepth 100000 in
set_option maxHeartbeats 4000000 in
theorem sha_State_End.calls (k : Nat) (a0 : ((Vc Int 8) × Int)) (A1 : Option Addr) (c1 : Nat) (l1 : List Int) (r : (Vc Int 32)) (b : Bs) (hs0 : St b (stl []) b.w) (R1 : Ro b A1 (em (Ec.int 5 .u8) l1)) (C1 : l1.length ≤ c1) (H : sha_State_End.f k a0 l1 = some r) :
    Calls Try.prog 37 #[.agg ⟨(en (Value.int .u32) a0.1.1 ++ [Value.int .u64 a0.2])⟩, .slice A1 l1.length c1] b.w fun e w' => ∃ x : Unit, e = .returned (.agg ⟨en (Value.int .u8) r.1⟩) ∧ St b (stl []) w' := by
  unfold sha_State_End.f at H
  refine enterb (n := 66) Try.func37 rfl (by kernel_rfl) (by kernel_rfl) hs0 ?_
  refine cs_sub (s0) (sub_nil _) ?_
  refine cs_seq ?_
  refine cs_region (l := [_, _]) ?_
  refine ls_new rfl rfl (by kernel_rfl) 0 (fun g => .pointer (some ⟨g, 0, none⟩)) (.cells ⟨(en (Value.int .u32) a0.1.1 ++ [Value.int .u64 a0.2])⟩ 52) (fun w => by kernel_rfl) ?_
  intro g1
  refine ls_new rfl rfl (by kernel_rfl) 1 (fun g => .pointer (some ⟨g, 0, none⟩)) (.cells ⟨en (Value.int .u8) (vrep 32 (0 : Int)).1⟩ 23) (fun w => by kernel_rfl) ?_
  intro g2
  refine ls_end ?_
  refine qn_then ?_
  refine cs_seq ?_
  refine cs_region (l := [_, _, _, _, _, _]) ?_
  refine ls_val (v := .slice A1 l1.length c1) rfl rfl (by kernel_rfl) (fun w => by kernel_rfl) ?_
  refine ls_val (v := .slice A1 l1.length c1) rfl rfl (by kernel_rfl) (fun w => by kernel_rfl) ?_
  refine ls_val (v := .int .i64 (l1.length : Int)) rfl rfl (by kernel_rfl) (fun w => by kernel_rfl) ?_
  obtain ⟨y3, hy4, H⟩ := lt_some H
  refine ls_val (v := .int .i64 (if (63 : Int) < (l1.length : Int) then (63 : Int) else (l1.length : Int))) rfl rfl (by kernel_rfl) (fun w => by kernel_rfl) ?_
  refine ls_ren 13 (v := .int .i64 (if (63 : Int) < (l1.length : Int) then (63 : Int) else (l1.length : Int))) (v' := .int .i64 y3) (by kernel_rfl) (by rw [hy4]) ?_
  obtain ⟨q5, H⟩ := ite_need H
  obtain ⟨q6, H⟩ := ite_need H
  obtain ⟨xl11, hy12, H⟩ := lt_some H
  have hz14 : 0 ≤ (y3).toNat := by omega
  have hz15 : (y3).toNat ≤ l1.length := by omega
  obtain ⟨xA7, xc8, he13, xC10, xR9⟩ := cut_at (A := A1) (c := c1) (l := l1) (Ec.int 5 .u8) 0 ((y3).toNat) hz14 hz15 C1 R1 (m := xl11) (by rw [← hy12] <;> simp) (z := 1) rfl
  refine ls_cutv (A := A1) (c := c1) (m := l1.length) (z := 1) (e := 5) (a := 0) (b := (y3).toNat) rfl rfl (by kernel_rfl) rfl (by kernel_rfl) (by kernel_rfl) (by kernel_rfl) (.inl ⟨rfl, rfl⟩) (.inr ⟨.i64, by rw [Int.toNat_of_nonneg (by first | assumption | omega)]; kernel_rfl⟩) hz14 hz15 C1 he13 ?_
  refine ls_val (v := .slice xA7 xl11.length xc8) rfl rfl (by kernel_rfl) (fun w => by kernel_rfl) ?_
  refine ls_end ?_
  refine qn_then ?_
  refine cs_seq ?_
  refine cs_region (l := [_, _, _, _, _, _, _, _]) ?_
  refine ls_val (v := .pointer (some ⟨g1, (0 + 8), none⟩)) rfl rfl (by kernel_rfl) (fun w => by kernel_rfl) ?_
  refine ls_load (a0 := ⟨g1, (0 + 8), none⟩) (v := .int .u64 a0.2) (de := (TypeDesc.int .u64)) rfl rfl (by kernel_rfl) rfl (by kernel_rfl) (by kernel_rfl) (by kernel_rfl) (fun w hs => (hs.var (k := 0) (by exact rfl) (Sub4.trans (Sub4.all _) (Sub4.skip (n := 8) (len_en _ a0.1) (Sub4.all _))))) ?_
  refine ls_val (v := .slice xA7 xl11.length xc8) rfl rfl (by kernel_rfl) (fun w => by kernel_rfl) ?_
  refine ls_val (v := .int .i64 (xl11.length : Int)) rfl rfl (by kernel_rfl) (fun w => by kernel_rfl) ?_
  refine ls_val (v := .int .u64 (IntKind.wrap .u64 (xl11.length : Int))) rfl rfl (by kernel_rfl) (fun w => by kernel_rfl) ?_
  obtain ⟨y16, hy17, H⟩ := lt_some H
  refine ls_val (v := .int .u64 (IntKind.wrap .u64 (a0.2 + (IntKind.wrap .u64 (xl11.length : Int))))) rfl rfl (by kernel_rfl) (fun w => by kernel_rfl) ?_
  refine ls_ren 20 (v := .int .u64 (IntKind.wrap .u64 (a0.2 + (IntKind.wrap .u64 (xl11.length : Int))))) (v' := .int .u64 y16) (by kernel_rfl) (by rw [hy17]) ?_
  refine ls_val (v := .int .u64 (IntKind.wrap .u64 ((8 : Int) * y16))) rfl rfl (by kernel_rfl) (fun w => by kernel_rfl) ?_
  refine ls_val (v := .int .u64 (IntKind.wrap .u64 ((8 : Int) * y16))) rfl rfl (by kernel_rfl) (fun w => by kernel_rfl) ?_
  refine ls_end ?_
  refine qn_then ?_
  refine cs_seq ?_
  refine cs_region (l := [_]) ?_
  refine ls_new rfl rfl (by kernel_rfl) 2 (fun g => .pointer (some ⟨g, 0, none⟩)) (.cells ⟨en (Value.int .u8) (vrep 64 (0 : Int)).1⟩ 39) (fun w => by kernel_rfl) ?_
  intro g18
  refine ls_end ?_
  refine qn_then ?_
  refine cs_seq ?_
  refine cs_region (l := [_, _, _, _, _]) ?_
  refine ls_val (v := .slice (some ⟨g18, 0, none⟩) (vrep 64 (0 : Int)).1.length 64) rfl rfl (by kernel_rfl) (fun w => by rw [show (vrep 64 (0 : Int)).1.length = 64 from (vrep 64 (0 : Int)).2]; kernel_rfl) ?_
  refine ls_val (v := .slice xA7 xl11.length xc8) rfl rfl (by kernel_rfl) (fun w => by kernel_rfl) ?_
  obtain ⟨y19, hy20, H⟩ := lt_some H
  refine ls_copyv (Value.int .u8) (g := g18) (off := 0) (N := 64) (cx := 64) (B := xA7) (cb := xc8) (l := xl11) (v := (vrep 64 (0 : Int))) (cs := en (Value.int .u8) (vrep 64 (0 : Int)).1) (ty := 39) (e := 5) 2 rfl rfl (by rw [show (vrep 64 (0 : Int)).1.length = 64 from (vrep 64 (0 : Int)).2]; kernel_rfl) (by kernel_rfl) (by exact rfl) (by kernel_rfl) (by kernel_rfl) (fun w hs => Rd.toen (t := 5) (hs.old xR9)) (fun _ => rfl) (Sub4.all _) (cs' := en (Value.int .u8) (vcopy (vrep 64 (0 : Int)) xl11).1) (splc_all (len_eq (len_en _ (vcopy (vrep 64 (0 : Int)) xl11)) (len_en _ (vrep 64 (0 : Int))))) rfl (by kernel_rfl) ?_
  rw [hy20]
  obtain ⟨q21, H⟩ := ite_need H
  obtain ⟨q22, H⟩ := ite_need H
  refine ls_idxa1 (g := g18) (off := 0) (i := ((min xl11.length 64 : Nat) : Int)) (kk := .i64) (ln := 64) (e := 5) rfl rfl (by kernel_rfl) rfl (by kernel_rfl) (by kernel_rfl) (by kernel_rfl) (by kernel_rfl) q21 q22 ?_
  obtain ⟨y23, hy24, H⟩ := lt_some H
  refine ls_storec (g := g18) (off := (0 + (((min xl11.length 64 : Nat) : Int)).toNat)) (v := .int .u8 (128 : Int)) (vs := [Value.int .u8 (128 : Int)]) (cs := en (Value.int .u8) y19.1) (ty := 39) 2 rfl rfl rfl (by kernel_rfl) (by kernel_rfl) (by kernel_rfl) (by exact rfl) (by kernel_rfl) (len1 _) (one_cons rfl one_nil) (hl_of (Sub4.trans (Sub4.all _) (Sub4.one (i := (((min xl11.length 64 : Nat) : Int)).toNat) (Value.int .u8) y19.1 0 (by have := y19.2; omega))) (len_eq (len1 _) (len1 _))) (cs' := en (Value.int .u8) y23.1) (splc_in (Sub4.all _) ((splc_one (Value.int .u8) y19.1 (128 : Int) (by have := y19.2; omega)).trans (congrArg (fun z : (Vc Int 64) => en (Value.int .u8) z.1) hy24)) (splc_all (len_eq (len_en _ y23) (len_en _ y19))) (hl_of (Sub4.one (i := (((min xl11.length 64 : Nat) : Int)).toNat) (Value.int .u8) y19.1 0 (by have := y19.2; omega)) (len_eq (len1 _) (len1 _)))) ?_
  refine ls_end ?_
  refine qn_then ?_
  refine cs_cut (fun f S => ∃ (fR : Fr) (m0_1 : ((Vc Int 8) × Int)) (m2_1 : (Vc Int 64)), f = upd (upd (upd (upd fR 2 (.pointer (some ⟨g1, 0, none⟩))) 4 (.pointer (some ⟨g2, 0, none⟩))) 5 (.int .u64 (IntKind.wrap .u64 ((8 : Int) * y16)))) 6 (.pointer (some ⟨g18, 0, none⟩)) ∧ S = sput (sput (sput s0 0 (some (Ck.var 52 g1 ((en (Value.int .u32) m0_1.1.1 ++ [Value.int .u64 m0_1.2]))))) 1 (some (Ck.var 23 g2 (en (Value.int .u8) (vrep 32 (0 : Int)).1)))) 2 (some (Ck.var 39 g18 (en (Value.int .u8) m2_1.1))) ∧ sha_State_End.jo1 k y16 m0_1 m2_1 = some r) ?_ ?_
  · skip
    refine cs_seq ?_
    refine cs_region (l := [_, _, _]) ?_
    refine ls_val (v := .slice xA7 xl11.length xc8) rfl rfl (by kernel_rfl) (fun w => by kernel_rfl) ?_
    refine ls_val (v := .int .i64 (xl11.length : Int)) rfl rfl (by kernel_rfl) (fun w => by kernel_rfl) ?_
    refine ls_val (v := .bool (decide ((xl11.length : Int) ≥ (56 : Int)))) rfl rfl (by kernel_rfl) (fun w => by kernel_rfl) ?_
    refine ls_end ?_
    refine qn_then ?_
    by_cases q50 : (xl11.length : Int) ≥ (56 : Int)
    · replace H := ite_t q50 H
      refine cs_know (c := true) (dec_t q50) 28 (by kernel_rfl) ?_
      refine cs_true (by kernel_rfl) ?_
      refine cs_seq ?_
      refine cs_region (l := [_, _, _, _]) ?_
      refine ls_loadagg (a := ⟨g1, 0, none⟩) (sub := (en (Value.int .u32) a0.1.1 ++ [Value.int .u64 a0.2])) rfl rfl (by kernel_rfl) rfl (by kernel_rfl) (by kernel_rfl) (by kernel_rfl) (len_app (len_en _ a0.1) (len1 _)) (fun w hs => (hs.vars (k := 0) (by exact rfl) (Sub4.all _))) ?_
      refine ls_loadagg (a := ⟨g18, 0, none⟩) (sub := en (Value.int .u8) y23.1) rfl rfl (by kernel_rfl) rfl (by kernel_rfl) (by kernel_rfl) (by kernel_rfl) (len_en _ y23) (fun w hs => (hs.vars (k := 2) (by exact rfl) (Sub4.all _))) ?_
      obtain ⟨t51, hc52, H⟩ := bind_some H
      refine ls_callb (fid := 36) (vals := #[.agg ⟨(en (Value.int .u32) a0.1.1 ++ [Value.int .u64 a0.2])⟩, .agg ⟨en (Value.int .u8) y23.1⟩]) (X := Unit) (fun x => .agg ⟨(en (Value.int .u32) t51.1.1 ++ [Value.int .u64 t51.2])⟩) (fun x => stl []) [] [] [] [] 3 rfl rfl (by kernel_rfl) (fun w => by kernel_rfl) trivial trivial (by decide) (fun w hs hb => sha_State_Block.calls k a0 y23 t51 (lent b w [] []) hb  hc52) ?_
      intro x53
      refine ls_storec (g := g1) (off := 0) (v := .agg ⟨(en (Value.int .u32) t51.1.1 ++ [Value.int .u64 t51.2])⟩) (vs := (en (Value.int .u32) t51.1.1 ++ [Value.int .u64 t51.2])) (cs := (en (Value.int .u32) a0.1.1 ++ [Value.int .u64 a0.2])) (ty := 52) 0 rfl rfl rfl (by kernel_rfl) (by kernel_rfl) (by kernel_rfl) (by exact rfl) (by kernel_rfl) (len_app (len_en _ t51.1) (len1 _)) (one_app (one_en (fun _ => rfl) _) (one_cons rfl one_nil)) (hl_of (Sub4.all _) (len_eq (len_app (len_en _ t51.1) (len1 _)) (len_app (len_en _ a0.1) (len1 _)))) (cs' := (en (Value.int .u32) t51.1.1 ++ [Value.int .u64 t51.2])) (splc_all (len_eq (len_app (len_en _ t51.1) (len1 _)) (len_app (len_en _ a0.1) (len1 _)))) ?_
      refine ls_end ?_
      refine qn_then ?_
      refine cs_region (l := [_, _]) ?_
      refine ls_val (v := .agg ⟨en (Value.int .u8) sha_State_End.cst0.1⟩) rfl rfl (by kernel_rfl) (fun w => by kernel_rfl) ?_
      refine ls_storec (g := g18) (off := 0) (v := .agg ⟨en (Value.int .u8) sha_State_End.cst0.1⟩) (vs := en (Value.int .u8) sha_State_End.cst0.1) (cs := en (Value.int .u8) y23.1) (ty := 39) 2 rfl rfl rfl (by kernel_rfl) (by kernel_rfl) (by kernel_rfl) (by exact rfl) (by kernel_rfl) (len_en _ sha_State_End.cst0) (one_en (fun _ => rfl) _) (hl_of (Sub4.all _) (len_eq (len_en _ sha_State_End.cst0) (len_en _ y23))) (cs' := en (Value.int .u8) sha_State_End.cst0.1) (splc_all (len_eq (len_en _ sha_State_End.cst0) (len_en _ y23))) ?_
      refine ls_end ?_
      refine qn_meet (sput (sput (sput s0 0 (some (Ck.var 52 g1 ((en (Value.int .u32) t51.1.1 ++ [Value.int .u64 t51.2]))))) 1 (some (Ck.var 23 g2 (en (Value.int .u8) (vrep 32 (0 : Int)).1)))) 2 (some (Ck.var 39 g18 (en (Value.int .u8) sha_State_End.cst0.1)))) ⟨_, t51, sha_State_End.cst0, fr_next (fr_next (fr_next (fr_next (rfl) (by kernel_rfl)) (by kernel_rfl)) (by kernel_rfl)) (by kernel_rfl), rfl, H⟩ (sub_put (by exact rfl) (sub_put (by exact rfl) (sub_put (by exact rfl) (sub_nil _))))
    · replace H := ite_f q50 H
      refine cs_know (c := false) (dec_f q50) 28 (by kernel_rfl) ?_
      refine cs_false (by kernel_rfl) ?_
      refine cs_skip' ?_
      refine qn_meet (sput (sput (sput s0 0 (some (Ck.var 52 g1 ((en (Value.int .u32) a0.1.1 ++ [Value.int .u64 a0.2]))))) 1 (some (Ck.var 23 g2 (en (Value.int .u8) (vrep 32 (0 : Int)).1)))) 2 (some (Ck.var 39 g18 (en (Value.int .u8) y23.1)))) ⟨_, a0, y23, fr_next (fr_next (fr_next (fr_next (rfl) (by kernel_rfl)) (by kernel_rfl)) (by kernel_rfl)) (by kernel_rfl), rfl, H⟩ (sub_put (by exact rfl) (sub_put (by exact rfl) (sub_put (by exact rfl) (sub_nil _))))
  · rintro f S ⟨fr1, m0_1, m2_1, rfl, rfl, H⟩
    replace H : (sha_State_End.lo4 y16 (sha_State_End.jo2 k m0_1) k (0 : Int) m2_1) = some r := H
    refine cs_cut (fun f S => ∃ (fR : Fr) (m2_2 : (Vc Int 64)), f = upd (upd (upd fR 2 (.pointer (some ⟨g1, 0, none⟩))) 4 (.pointer (some ⟨g2, 0, none⟩))) 6 (.pointer (some ⟨g18, 0, none⟩)) ∧ S = sput (sput (sput s0 0 (some (Ck.var 52 g1 ((en (Value.int .u32) m0_1.1.1 ++ [Value.int .u64 m0_1.2]))))) 1 (some (Ck.var 23 g2 (en (Value.int .u8) (vrep 32 (0 : Int)).1)))) 2 (some (Ck.var 39 g18 (en (Value.int .u8) m2_2.1))) ∧ sha_State_End.jo2 k m0_1 m2_2 = some r) ?_ ?_
    · skip
      refine cs_seq ?_
      refine cs_region (l := [_]) ?_
      refine ls_val (v := .int .i64 (0 : Int)) rfl rfl (by kernel_rfl) (fun w => by kernel_rfl) ?_
      refine ls_end ?_
      refine qn_then ?_
      refine cs_block ?_
      refine cs_sub (sput (sput (sput s0 0 (some (Ck.var 52 g1 ((en (Value.int .u32) m0_1.1.1 ++ [Value.int .u64 m0_1.2]))))) 1 (some (Ck.var 23 g2 (en (Value.int .u8) (vrep 32 (0 : Int)).1)))) 2 (some (Ck.var 39 g18 (en (Value.int .u8) m2_1.1)))) (sub_put (by exact rfl) (sub_put (by exact rfl) (sub_put (by exact rfl) (sub_nil _)))) ?_
      refine cs_loop (fun kk f S => ∃ (fR : Fr) (x33_4 : Int) (m2_4 : (Vc Int 64)), f = upd (upd (upd (upd (upd fR 2 (.pointer (some ⟨g1, 0, none⟩))) 4 (.pointer (some ⟨g2, 0, none⟩))) 5 (.int .u64 (IntKind.wrap .u64 ((8 : Int) * y16)))) 6 (.pointer (some ⟨g18, 0, none⟩))) 33 (.int .i64 x33_4) ∧ S = sput (sput (sput s0 0 (some (Ck.var 52 g1 ((en (Value.int .u32) m0_1.1.1 ++ [Value.int .u64 m0_1.2]))))) 1 (some (Ck.var 23 g2 (en (Value.int .u8) (vrep 32 (0 : Int)).1)))) 2 (some (Ck.var 39 g18 (en (Value.int .u8) m2_4.1))) ∧ sha_State_End.lo4 y16 (sha_State_End.jo2 k m0_1) kk x33_4 m2_4 = some r) k ?_ ?_ ?_
      · exact ⟨_, (0 : Int), m2_1, fr_next (fr_next (fr_next (fr_next (fr_next (rfl) (by kernel_rfl)) (by kernel_rfl)) (by kernel_rfl)) (by kernel_rfl)) (by kernel_rfl), rfl, H⟩
      · rintro f S ⟨fr4, x33_4, m2_4, rfl, rfl, H⟩; cases H
      · rintro k4 f S ⟨fr4, x33_4, m2_4, rfl, rfl, H⟩
        replace H : ((if x33_4 < (8 : Int) then (if 0 ≤ IntKind.wrap .i64 ((8 : Int) * x33_4) then lt (shrv .u64 (IntKind.wrap .u64 ((8 : Int) * y16)) (IntKind.wrap .i64 ((8 : Int) * x33_4))) fun y44 => (if 0 ≤ IntKind.wrap .i64 ((63 : Int) - x33_4) then (if IntKind.wrap .i64 ((63 : Int) - x33_4) < (64 : Int) then lt (vset m2_4 (IntKind.wrap .i64 ((63 : Int) - x33_4)).toNat (IntKind.wrap .u8 y44)) fun y48 => (sha_State_End.lo4 y16 (sha_State_End.jo2 k m0_1) k4) (IntKind.wrap .i64 (x33_4 + (1 : Int))) y48 else none) else none) else none) else (sha_State_End.jo2 k m0_1) m2_4)) = some r := H
        refine cs_seq ?_
        refine cs_region (l := [_]) ?_
        refine ls_val (v := .bool (decide (x33_4 < (8 : Int)))) rfl rfl (by kernel_rfl) (fun w => by kernel_rfl) ?_
        refine ls_end ?_
        refine qn_then ?_
        refine cs_seq ?_
        by_cases q42 : x33_4 < (8 : Int)
        · replace H := ite_t q42 H
          refine cs_know (c := true) (dec_t q42) 34 (by kernel_rfl) ?_
          refine cs_true (by kernel_rfl) ?_
          refine cs_skip' ?_
          refine qn_then ?_
          refine cs_seq ?_
          refine cs_block ?_
          refine cs_seq ?_
          refine cs_region (l := [_, _]) ?_
          refine ls_val (v := .int .i64 x33_4) rfl rfl (by kernel_rfl) (fun w => by kernel_rfl) ?_
          refine ls_val (v := .int .i64 x33_4) rfl rfl (by kernel_rfl) (fun w => by kernel_rfl) ?_
          refine ls_end ?_
          refine qn_then ?_
          refine cs_region (l := [_, _, _, _, _, _, _, _, _]) ?_
          refine ls_val (v := .int .i64 x33_4) rfl rfl (by kernel_rfl) (fun w => by kernel_rfl) ?_
          refine ls_val (v := .int .i64 (IntKind.wrap .i64 ((63 : Int) - x33_4))) rfl rfl (by kernel_rfl) (fun w => by kernel_rfl) ?_
          refine ls_val (v := .int .u64 (IntKind.wrap .u64 ((8 : Int) * y16))) rfl rfl (by kernel_rfl) (fun w => by kernel_rfl) ?_
          refine ls_val (v := .int .i64 x33_4) rfl rfl (by kernel_rfl) (fun w => by kernel_rfl) ?_
          refine ls_val (v := .int .i64 (IntKind.wrap .i64 ((8 : Int) * x33_4))) rfl rfl (by kernel_rfl) (fun w => by kernel_rfl) ?_
          obtain ⟨q43, H⟩ := ite_need H
          obtain ⟨y44, hy45, H⟩ := lt_some H
          refine ls_shiftr (k := .u64) (yk := .i64) (x := (IntKind.wrap .u64 ((8 : Int) * y16))) (y := (IntKind.wrap .i64 ((8 : Int) * x33_4))) rfl rfl (by kernel_rfl) (fun w => by kernel_rfl) q43 ?_
          refine ls_ren 41 (v := .int .u64 (shrv .u64 (IntKind.wrap .u64 ((8 : Int) * y16)) (IntKind.wrap .i64 ((8 : Int) * x33_4)))) (v' := .int .u64 y44) (by kernel_rfl) (by rw [hy45]) ?_
          refine ls_val (v := .int .u8 (IntKind.wrap .u8 y44)) rfl rfl (by kernel_rfl) (fun w => by kernel_rfl) ?_
          obtain ⟨q46, H⟩ := ite_need H
          obtain ⟨q47, H⟩ := ite_need H
          refine ls_idxa1 (g := g18) (off := 0) (i := IntKind.wrap .i64 ((63 : Int) - x33_4)) (kk := .i64) (ln := 64) (e := 5) rfl rfl (by kernel_rfl) rfl (by kernel_rfl) (by kernel_rfl) (by kernel_rfl) (by kernel_rfl) q46 q47 ?_
          obtain ⟨y48, hy49, H⟩ := lt_some H
          refine ls_storec (g := g18) (off := (0 + (IntKind.wrap .i64 ((63 : Int) - x33_4)).toNat)) (v := .int .u8 (IntKind.wrap .u8 y44)) (vs := [Value.int .u8 (IntKind.wrap .u8 y44)]) (cs := en (Value.int .u8) m2_4.1) (ty := 39) 2 rfl rfl rfl (by kernel_rfl) (by kernel_rfl) (by kernel_rfl) (by exact rfl) (by kernel_rfl) (len1 _) (one_cons rfl one_nil) (hl_of (Sub4.trans (Sub4.all _) (Sub4.one (i := (IntKind.wrap .i64 ((63 : Int) - x33_4)).toNat) (Value.int .u8) m2_4.1 0 (by have := m2_4.2; omega))) (len_eq (len1 _) (len1 _))) (cs' := en (Value.int .u8) y48.1) (splc_in (Sub4.all _) ((splc_one (Value.int .u8) m2_4.1 (IntKind.wrap .u8 y44) (by have := m2_4.2; omega)).trans (congrArg (fun z : (Vc Int 64) => en (Value.int .u8) z.1) hy49)) (splc_all (len_eq (len_en _ y48) (len_en _ m2_4))) (hl_of (Sub4.one (i := (IntKind.wrap .i64 ((63 : Int) - x33_4)).toNat) (Value.int .u8) m2_4.1 0 (by have := m2_4.2; omega)) (len_eq (len1 _) (len1 _)))) ?_
          refine ls_end ?_
          refine qn_block ?_
          refine qn_then ?_
          refine cs_region (l := [_, _]) ?_
          refine ls_val (v := .int .i64 (IntKind.wrap .i64 (x33_4 + (1 : Int)))) rfl rfl (by kernel_rfl) (fun w => by kernel_rfl) ?_
          refine ls_val (v := .int .i64 (IntKind.wrap .i64 (x33_4 + (1 : Int)))) rfl rfl (by kernel_rfl) (fun w => by kernel_rfl) ?_
          refine ls_end ?_
          refine qn_again k4 (sput (sput (sput s0 0 (some (Ck.var 52 g1 ((en (Value.int .u32) m0_1.1.1 ++ [Value.int .u64 m0_1.2]))))) 1 (some (Ck.var 23 g2 (en (Value.int .u8) (vrep 32 (0 : Int)).1)))) 2 (some (Ck.var 39 g18 (en (Value.int .u8) y48.1)))) (Nat.le_refl _) ⟨_, (IntKind.wrap .i64 (x33_4 + (1 : Int))), y48, fr_next (fr_next (fr_next (fr_next (fr_next (rfl) (by kernel_rfl)) (by kernel_rfl)) (by kernel_rfl)) (by kernel_rfl)) (by kernel_rfl), rfl, H⟩ (sub_put (by exact rfl) (sub_put (by exact rfl) (sub_put (by exact rfl) (sub_nil _))))
        · replace H := ite_f q42 H
          refine cs_know (c := false) (dec_f q42) 34 (by kernel_rfl) ?_
          refine cs_false (by kernel_rfl) ?_
          refine cs_exit' ?_
          refine qx_then ?_
          refine qx_then ?_
          refine qx_same ?_
          refine qn_meet (sput (sput (sput s0 0 (some (Ck.var 52 g1 ((en (Value.int .u32) m0_1.1.1 ++ [Value.int .u64 m0_1.2]))))) 1 (some (Ck.var 23 g2 (en (Value.int .u8) (vrep 32 (0 : Int)).1)))) 2 (some (Ck.var 39 g18 (en (Value.int .u8) m2_4.1)))) ⟨_, m2_4, fr_next (fr_next (fr_next (rfl) (by kernel_rfl)) (by kernel_rfl)) (by kernel_rfl), rfl, H⟩ (sub_put (by exact rfl) (sub_put (by exact rfl) (sub_put (by exact rfl) (sub_nil _))))
    · rintro f S ⟨fr2, m2_2, rfl, rfl, H⟩
      replace H : ((sha_State_Block.f k m0_1 m2_2).bind fun t25 => sha_State_End.lo3 t25 k (0 : Int) (vrep 32 (0 : Int))) = some r := H
      refine cs_seq ?_
      refine cs_region (l := [_, _, _, _]) ?_
      refine ls_loadagg (a := ⟨g1, 0, none⟩) (sub := (en (Value.int .u32) m0_1.1.1 ++ [Value.int .u64 m0_1.2])) rfl rfl (by kernel_rfl) rfl (by kernel_rfl) (by kernel_rfl) (by kernel_rfl) (len_app (len_en _ m0_1.1) (len1 _)) (fun w hs => (hs.vars (k := 0) (by exact rfl) (Sub4.all _))) ?_
      refine ls_loadagg (a := ⟨g18, 0, none⟩) (sub := en (Value.int .u8) m2_2.1) rfl rfl (by kernel_rfl) rfl (by kernel_rfl) (by kernel_rfl) (by kernel_rfl) (len_en _ m2_2) (fun w hs => (hs.vars (k := 2) (by exact rfl) (Sub4.all _))) ?_
      obtain ⟨t25, hc26, H⟩ := bind_some H
      refine ls_callb (fid := 36) (vals := #[.agg ⟨(en (Value.int .u32) m0_1.1.1 ++ [Value.int .u64 m0_1.2])⟩, .agg ⟨en (Value.int .u8) m2_2.1⟩]) (X := Unit) (fun x => .agg ⟨(en (Value.int .u32) t25.1.1 ++ [Value.int .u64 t25.2])⟩) (fun x => stl []) [] [] [] [] 3 rfl rfl (by kernel_rfl) (fun w => by kernel_rfl) trivial trivial (by decide) (fun w hs hb => sha_State_Block.calls k m0_1 m2_2 t25 (lent b w [] []) hb  hc26) ?_
      intro x27
      refine ls_storec (g := g1) (off := 0) (v := .agg ⟨(en (Value.int .u32) t25.1.1 ++ [Value.int .u64 t25.2])⟩) (vs := (en (Value.int .u32) t25.1.1 ++ [Value.int .u64 t25.2])) (cs := (en (Value.int .u32) m0_1.1.1 ++ [Value.int .u64 m0_1.2])) (ty := 52) 0 rfl rfl rfl (by kernel_rfl) (by kernel_rfl) (by kernel_rfl) (by exact rfl) (by kernel_rfl) (len_app (len_en _ t25.1) (len1 _)) (one_app (one_en (fun _ => rfl) _) (one_cons rfl one_nil)) (hl_of (Sub4.all _) (len_eq (len_app (len_en _ t25.1) (len1 _)) (len_app (len_en _ m0_1.1) (len1 _)))) (cs' := (en (Value.int .u32) t25.1.1 ++ [Value.int .u64 t25.2])) (splc_all (len_eq (len_app (len_en _ t25.1) (len1 _)) (len_app (len_en _ m0_1.1) (len1 _)))) ?_
      refine ls_end ?_
      refine qn_then ?_
      refine cs_seq ?_
      refine cs_region (l := [_]) ?_
      refine ls_new rfl rfl (by kernel_rfl) 3 (fun g => .pointer (some ⟨g, 0, none⟩)) (.cells ⟨en (Value.int .u8) (vrep 32 (0 : Int)).1⟩ 23) (fun w => by kernel_rfl) ?_
      intro g28
      refine ls_end ?_
      refine qn_then ?_
      refine cs_seq ?_
      refine cs_seq ?_
      refine cs_region (l := [_]) ?_
      refine ls_val (v := .int .i64 (0 : Int)) rfl rfl (by kernel_rfl) (fun w => by kernel_rfl) ?_
      refine ls_end ?_
      refine qn_then ?_
      refine cs_block ?_
      refine cs_sub (sput (sput (sput s0 0 (some (Ck.var 52 g1 ((en (Value.int .u32) t25.1.1 ++ [Value.int .u64 t25.2]))))) 1 (some (Ck.var 23 g2 (en (Value.int .u8) (vrep 32 (0 : Int)).1)))) 3 (some (Ck.var 23 g28 (en (Value.int .u8) (vrep 32 (0 : Int)).1)))) (sub_put (by exact rfl) (sub_put (by exact rfl) (sub_put (by exact rfl) (sub_nil _)))) ?_
      refine cs_loop (fun kk f S => ∃ (fR : Fr) (x48_3 : Int) (m3_3 : (Vc Int 32)), f = upd (upd (upd (upd fR 2 (.pointer (some ⟨g1, 0, none⟩))) 4 (.pointer (some ⟨g2, 0, none⟩))) 8 (.pointer (some ⟨g28, 0, none⟩))) 48 (.int .i64 x48_3) ∧ S = sput (sput (sput s0 0 (some (Ck.var 52 g1 ((en (Value.int .u32) t25.1.1 ++ [Value.int .u64 t25.2]))))) 1 (some (Ck.var 23 g2 (en (Value.int .u8) (vrep 32 (0 : Int)).1)))) 3 (some (Ck.var 23 g28 (en (Value.int .u8) m3_3.1))) ∧ sha_State_End.lo3 t25 kk x48_3 m3_3 = some r) k ?_ ?_ ?_
      · exact ⟨_, (0 : Int), (vrep 32 (0 : Int)), fr_next (fr_next (fr_next (fr_next (rfl) (by kernel_rfl)) (by kernel_rfl)) (by kernel_rfl)) (by kernel_rfl), rfl, H⟩
      · rintro f S ⟨fr3, x48_3, m3_3, rfl, rfl, H⟩; cases H
      · rintro k3 f S ⟨fr3, x48_3, m3_3, rfl, rfl, H⟩
        replace H : ((if x48_3 < (32 : Int) then lt (IntKind.wrap .i64 (Int.tdiv x48_3 (4 : Int))) fun y30 => (if 0 ≤ y30 then (if y30 < (8 : Int) then lt (IntKind.wrap .i64 ((3 : Int) - (Int.tmod x48_3 (4 : Int)))) fun y34 => (if 0 ≤ IntKind.wrap .i64 ((8 : Int) * y34) then lt (shrv .u32 (t25.1.1.getD (y30).toNat (0 : Int)) (IntKind.wrap .i64 ((8 : Int) * y34))) fun y37 => (if 0 ≤ x48_3 then lt (vset m3_3 (x48_3).toNat (IntKind.wrap .u8 y37)) fun y40 => (sha_State_End.lo3 t25 k3) (IntKind.wrap .i64 (x48_3 + (1 : Int))) y40 else none) else none) else none) else none) else some m3_3)) = some r := H
        refine cs_seq ?_
        refine cs_region (l := [_]) ?_
        refine ls_val (v := .bool (decide (x48_3 < (32 : Int)))) rfl rfl (by kernel_rfl) (fun w => by kernel_rfl) ?_
        refine ls_end ?_
        refine qn_then ?_
        refine cs_seq ?_
        by_cases q29 : x48_3 < (32 : Int)
        · replace H := ite_t q29 H
          refine cs_know (c := true) (dec_t q29) 49 (by kernel_rfl) ?_
          refine cs_true (by kernel_rfl) ?_
          refine cs_skip' ?_
          refine qn_then ?_
          refine cs_seq ?_
          refine cs_block ?_
          refine cs_seq ?_
          refine cs_region (l := [_, _]) ?_
          refine ls_val (v := .int .i64 x48_3) rfl rfl (by kernel_rfl) (fun w => by kernel_rfl) ?_
          refine ls_val (v := .int .i64 x48_3) rfl rfl (by kernel_rfl) (fun w => by kernel_rfl) ?_
          refine ls_end ?_
          refine qn_then ?_
          refine cs_region (l := [_, _, _, _, _, _, _, _, _, _, _, _, _, _]) ?_
          refine ls_val (v := .int .i64 x48_3) rfl rfl (by kernel_rfl) (fun w => by kernel_rfl) ?_
          refine ls_val (v := .int .i64 x48_3) rfl rfl (by kernel_rfl) (fun w => by kernel_rfl) ?_
          obtain ⟨y30, hy31, H⟩ := lt_some H
          refine ls_val (v := .int .i64 (IntKind.wrap .i64 (Int.tdiv x48_3 (4 : Int)))) rfl rfl (by kernel_rfl) (fun w => by kernel_rfl) ?_
          refine ls_ren 53 (v := .int .i64 (IntKind.wrap .i64 (Int.tdiv x48_3 (4 : Int)))) (v' := .int .i64 y30) (by kernel_rfl) (by rw [hy31]) ?_
          refine ls_val (v := .pointer (some ⟨g1, (0 + 0), none⟩)) rfl rfl (by kernel_rfl) (fun w => by kernel_rfl) ?_
          obtain ⟨q32, H⟩ := ite_need H
          obtain ⟨q33, H⟩ := ite_need H
          refine ls_idxa1 (g := g1) (off := (0 + 0)) (i := y30) (kk := .i64) (ln := 8) (e := 48) rfl rfl (by kernel_rfl) rfl (by kernel_rfl) (by kernel_rfl) (by kernel_rfl) (by kernel_rfl) q32 q33 ?_
          refine ls_load (a0 := ⟨g1, ((0 + 0) + (y30).toNat), none⟩) (v := .int .u32 (t25.1.1.getD (y30).toNat (0 : Int))) (de := (TypeDesc.int .u32)) rfl rfl (by kernel_rfl) rfl (by kernel_rfl) (by kernel_rfl) (by kernel_rfl) (fun w hs => (hs.var (k := 0) (by exact rfl) (Sub4.trans (Sub4.trans (Sub4.all _) (Sub4.head _ _)) (Sub4.one (i := (y30).toNat) (Value.int .u32) t25.1.1 0 (by have := t25.1.2; omega))))) ?_
          refine ls_val (v := .int .i64 x48_3) rfl rfl (by kernel_rfl) (fun w => by kernel_rfl) ?_
          refine ls_val (v := .int .i64 (Int.tmod x48_3 (4 : Int))) rfl rfl (by kernel_rfl) (fun w => by kernel_rfl) ?_
          obtain ⟨y34, hy35, H⟩ := lt_some H
          refine ls_val (v := .int .i64 (IntKind.wrap .i64 ((3 : Int) - (Int.tmod x48_3 (4 : Int))))) rfl rfl (by kernel_rfl) (fun w => by kernel_rfl) ?_
          refine ls_ren 59 (v := .int .i64 (IntKind.wrap .i64 ((3 : Int) - (Int.tmod x48_3 (4 : Int))))) (v' := .int .i64 y34) (by kernel_rfl) (by rw [hy35]) ?_
          refine ls_val (v := .int .i64 (IntKind.wrap .i64 ((8 : Int) * y34))) rfl rfl (by kernel_rfl) (fun w => by kernel_rfl) ?_
          obtain ⟨q36, H⟩ := ite_need H
          obtain ⟨y37, hy38, H⟩ := lt_some H
          refine ls_shiftr (k := .u32) (yk := .i64) (x := (t25.1.1.getD (y30).toNat (0 : Int))) (y := (IntKind.wrap .i64 ((8 : Int) * y34))) rfl rfl (by kernel_rfl) (fun w => by kernel_rfl) q36 ?_
          refine ls_ren 61 (v := .int .u32 (shrv .u32 (t25.1.1.getD (y30).toNat (0 : Int)) (IntKind.wrap .i64 ((8 : Int) * y34)))) (v' := .int .u32 y37) (by kernel_rfl) (by rw [hy38]) ?_
          refine ls_val (v := .int .u8 (IntKind.wrap .u8 y37)) rfl rfl (by kernel_rfl) (fun w => by kernel_rfl) ?_
          obtain ⟨q39, H⟩ := ite_need H
          refine ls_idxa1 (g := g28) (off := 0) (i := x48_3) (kk := .i64) (ln := 32) (e := 5) rfl rfl (by kernel_rfl) rfl (by kernel_rfl) (by kernel_rfl) (by kernel_rfl) (by kernel_rfl) q39 q29 ?_
          obtain ⟨y40, hy41, H⟩ := lt_some H
          refine ls_storec (g := g28) (off := (0 + (x48_3).toNat)) (v := .int .u8 (IntKind.wrap .u8 y37)) (vs := [Value.int .u8 (IntKind.wrap .u8 y37)]) (cs := en (Value.int .u8) m3_3.1) (ty := 23) 3 rfl rfl rfl (by kernel_rfl) (by kernel_rfl) (by kernel_rfl) (by exact rfl) (by kernel_rfl) (len1 _) (one_cons rfl one_nil) (hl_of (Sub4.trans (Sub4.all _) (Sub4.one (i := (x48_3).toNat) (Value.int .u8) m3_3.1 0 (by have := m3_3.2; omega))) (len_eq (len1 _) (len1 _))) (cs' := en (Value.int .u8) y40.1) (splc_in (Sub4.all _) ((splc_one (Value.int .u8) m3_3.1 (IntKind.wrap .u8 y37) (by have := m3_3.2; omega)).trans (congrArg (fun z : (Vc Int 32) => en (Value.int .u8) z.1) hy41)) (splc_all (len_eq (len_en _ y40) (len_en _ m3_3))) (hl_of (Sub4.one (i := (x48_3).toNat) (Value.int .u8) m3_3.1 0 (by have := m3_3.2; omega)) (len_eq (len1 _) (len1 _)))) ?_
          refine ls_end ?_
          refine qn_block ?_
          refine qn_then ?_
          refine cs_region (l := [_, _]) ?_
          refine ls_val (v := .int .i64 (IntKind.wrap .i64 (x48_3 + (1 : Int)))) rfl rfl (by kernel_rfl) (fun w => by kernel_rfl) ?_
          refine ls_val (v := .int .i64 (IntKind.wrap .i64 (x48_3 + (1 : Int)))) rfl rfl (by kernel_rfl) (fun w => by kernel_rfl) ?_
          refine ls_end ?_
          refine qn_again k3 (sput (sput (sput s0 0 (some (Ck.var 52 g1 ((en (Value.int .u32) t25.1.1 ++ [Value.int .u64 t25.2]))))) 1 (some (Ck.var 23 g2 (en (Value.int .u8) (vrep 32 (0 : Int)).1)))) 3 (some (Ck.var 23 g28 (en (Value.int .u8) y40.1)))) (Nat.le_refl _) ⟨_, (IntKind.wrap .i64 (x48_3 + (1 : Int))), y40, fr_next (fr_next (fr_next (fr_next (rfl) (by kernel_rfl)) (by kernel_rfl)) (by kernel_rfl)) (by kernel_rfl), rfl, H⟩ (sub_put (by exact rfl) (sub_put (by exact rfl) (sub_put (by exact rfl) (sub_nil _))))
        · replace H := ite_f q29 H
          refine cs_know (c := false) (dec_f q29) 49 (by kernel_rfl) ?_
          refine cs_false (by kernel_rfl) ?_
          refine cs_exit' ?_
          refine qx_then ?_
          refine qx_then ?_
          refine qx_same ?_
          refine qn_then ?_
          refine cs_seq ?_
          refine cs_region (l := [_, _]) ?_
          refine ls_loadagg (a := ⟨g28, 0, none⟩) (sub := en (Value.int .u8) m3_3.1) rfl rfl (by kernel_rfl) rfl (by kernel_rfl) (by kernel_rfl) (by kernel_rfl) (len_en _ m3_3) (fun w hs => (hs.vars (k := 3) (by exact rfl) (Sub4.all _))) ?_
          refine ls_storec (g := g2) (off := 0) (v := .agg ⟨en (Value.int .u8) m3_3.1⟩) (vs := en (Value.int .u8) m3_3.1) (cs := en (Value.int .u8) (vrep 32 (0 : Int)).1) (ty := 23) 1 rfl rfl rfl (by kernel_rfl) (by kernel_rfl) (by kernel_rfl) (by exact rfl) (by kernel_rfl) (len_en _ m3_3) (one_en (fun _ => rfl) _) (hl_of (Sub4.all _) (len_eq (len_en _ m3_3) (len_en _ (vrep 32 (0 : Int))))) (cs' := en (Value.int .u8) m3_3.1) (splc_all (len_eq (len_en _ m3_3) (len_en _ (vrep 32 (0 : Int))))) ?_
          refine ls_end ?_
          refine qn_then ?_
          refine cs_ret' ?_
          obtain rfl := Option.some.inj H
          refine qr_res (rs := [_]) rfl (fun w' hs => ⟨[.agg ⟨en (Value.int .u8) m3_3.1⟩], (.cell (by kernel_rfl) (run_cellres (by kernel_rfl) (by kernel_rfl) (len_en _ m3_3) (hs.holds 1 _ (by exact rfl))) (.nil)), (), rfl, hs.pick (ts := []) (cs := []) trivial (by decide)⟩)

/-! ### shadowbox/sha.Sum: function 22 -/
def sha_Sum.tab6 : List (List Nat) := [[], [], [1], [1, 2], [0, 1, 2, 3], [0, 1, 2, 3, 4]]
def sha_Sum.lo1 : Nat → (List Int) → (((Vc Int 8) × Int)) → Option ((Vc Int 32))
  | 0, _, _ => none
  | k1 + 1, l0_1, m1_1 => (if (l0_1.length : Int) ≥ (64 : Int) then (if 64 ≤ l0_1.length then (sha_State_Block.f k1 m1_1 (vpad 64 0 l0_1)).bind fun t12 => (if (64 : Int) ≤ (l0_1.length : Int) then lt (l0_1.drop ((64 : Int)).toNat) fun xl20 => (sha_Sum.lo1 k1) xl20 t12 else none) else none) else (sha_State_End.f k1 m1_1 l0_1).bind fun t25 => some t25)
def sha_Sum.f (k : Nat) (l0 : List Int) : Option ((Vc Int 32)) :=
  (sha_Begin.f k).bind fun t2 => sha_Sum.lo1 k l0 t2
set_option maxRecDepth 100000 in
set_option maxHeartbeats 4000000 in
theorem sha_Sum.calls (k : Nat) (A0 : Option Addr) (c0 : Nat) (l0 : List Int) (r : (Vc Int 32)) (b : Bs) (hs0 : St b (stl []) b.w) (R0 : Ro b A0 (em (Ec.int 5 .u8) l0)) (C0 : l0.length ≤ c0) (H : sha_Sum.f k l0 = some r) :
    Calls Try.prog 22 #[.slice A0 l0.length c0] b.w fun e w' => ∃ x : Unit, e = .returned (.agg ⟨en (Value.int .u8) r.1⟩) ∧ St b (stl []) w' := by
  unfold sha_Sum.f at H
  refine enterb (n := 18) Try.func22 rfl (by kernel_rfl) (by kernel_rfl) hs0 ?_
  refine cs_sub (s0) (sub_nil _) ?_
  refine cs_seq ?_
  refine cs_region (l := [_]) ?_
  refine ls_new rfl rfl (by kernel_rfl) 0 (fun g => .pointer (some ⟨g, 0, none⟩)) (.cells ⟨en (Value.int .u8) (vrep 32 (0 : Int)).1⟩ 23) (fun w => by kernel_rfl) ?_
  intro g1
  refine ls_end ?_
  refine qn_then ?_
  refine cs_seq ?_
  refine cs_region (l := [_, _, _]) ?_
  obtain ⟨t2, hc3, H⟩ := bind_some H
  refine ls_callb (fid := 35) (vals := #[]) (X := Unit) (fun x => .agg ⟨(en (Value.int .u32) t2.1.1 ++ [Value.int .u64 t2.2])⟩) (fun x => stl []) [] [] [] [] 1 rfl rfl (by kernel_rfl) (fun w => by kernel_rfl) trivial trivial (by decide) (fun w hs hb => sha_Begin.calls k  t2 (lent b w [] []) hb  hc3) ?_
  intro x4
  refine ls_new rfl rfl (by kernel_rfl) 1 (fun g => .pointer (some ⟨g, 0, none⟩)) (.cells ⟨(en (Value.int .u32) (vrep 8 (0 : Int)).1 ++ [Value.int .u64 (0 : Int)])⟩ 52) (fun w => by kernel_rfl) ?_
  intro g5
  refine ls_storec (g := g5) (off := 0) (v := .agg ⟨(en (Value.int .u32) t2.1.1 ++ [Value.int .u64 t2.2])⟩) (vs := (en (Value.int .u32) t2.1.1 ++ [Value.int .u64 t2.2])) (cs := (en (Value.int .u32) (vrep 8 (0 : Int)).1 ++ [Value.int .u64 (0 : Int)])) (ty := 52) 1 rfl rfl rfl (by kernel_rfl) (by kernel_rfl) (by kernel_rfl) (by exact rfl) (by kernel_rfl) (len_app (len_en _ t2.1) (len1 _)) (one_app (one_en (fun _ => rfl) _) (one_cons rfl one_nil)) (hl_of (Sub4.all _) (len_eq (len_app (len_en _ t2.1) (len1 _)) (len_app (len_en _ (vrep 8 (0 : Int))) (len1 _)))) (cs' := (en (Value.int .u32) t2.1.1 ++ [Value.int .u64 t2.2])) (splc_all (len_eq (len_app (len_en _ t2.1) (len1 _)) (len_app (len_en _ (vrep 8 (0 : Int))) (len1 _)))) ?_
  refine ls_end ?_
  refine qn_then ?_
  refine cs_seq ?_
  refine cs_block ?_
  refine cs_sub (sput (sput s0 0 (some (Ck.var 23 g1 (en (Value.int .u8) (vrep 32 (0 : Int)).1)))) 1 (some (Ck.var 52 g5 ((en (Value.int .u32) t2.1.1 ++ [Value.int .u64 t2.2]))))) (sub_put (by exact rfl) (sub_put (by exact rfl) (sub_nil _))) ?_
  refine cs_loop (fun kk f S => ∃ (fR : Fr) (A0_1 : Option Addr) (c0_1 : Nat) (l0_1 : List Int) (m1_1 : ((Vc Int 8) × Int)), f = upd (upd (upd fR 0 (.slice A0_1 l0_1.length c0_1)) 2 (.pointer (some ⟨g1, 0, none⟩))) 3 (.pointer (some ⟨g5, 0, none⟩)) ∧ S = sput (sput s0 0 (some (Ck.var 23 g1 (en (Value.int .u8) (vrep 32 (0 : Int)).1)))) 1 (some (Ck.var 52 g5 ((en (Value.int .u32) m1_1.1.1 ++ [Value.int .u64 m1_1.2])))) ∧ Ro b A0_1 (em (Ec.int 5 .u8) l0_1) ∧ l0_1.length ≤ c0_1 ∧ sha_Sum.lo1 kk l0_1 m1_1 = some r) k ?_ ?_ ?_
  · exact ⟨_, A0, c0, l0, t2, fr_next (fr_next (fr_next (rfl) (by kernel_rfl)) (by kernel_rfl)) (by kernel_rfl), rfl, R0, C0, H⟩
  · rintro f S ⟨fr1, A0_1, c0_1, l0_1, m1_1, rfl, rfl, R0_1, C0_1, H⟩; cases H
  · rintro k1 f S ⟨fr1, A0_1, c0_1, l0_1, m1_1, rfl, rfl, R0_1, C0_1, H⟩
    replace H : ((if (l0_1.length : Int) ≥ (64 : Int) then (if 64 ≤ l0_1.length then (sha_State_Block.f k1 m1_1 (vpad 64 0 l0_1)).bind fun t12 => (if (64 : Int) ≤ (l0_1.length : Int) then lt (l0_1.drop ((64 : Int)).toNat) fun xl20 => (sha_Sum.lo1 k1) xl20 t12 else none) else none) else (sha_State_End.f k1 m1_1 l0_1).bind fun t25 => some t25)) = some r := H
    refine cs_seq ?_
    refine cs_seq ?_
    refine cs_region (l := [_, _, _]) ?_
    refine ls_val (v := .slice A0_1 l0_1.length c0_1) rfl rfl (by kernel_rfl) (fun w => by kernel_rfl) ?_
    refine ls_val (v := .int .i64 (l0_1.length : Int)) rfl rfl (by kernel_rfl) (fun w => by kernel_rfl) ?_
    refine ls_val (v := .bool (decide ((l0_1.length : Int) ≥ (64 : Int)))) rfl rfl (by kernel_rfl) (fun w => by kernel_rfl) ?_
    refine ls_end ?_
    refine qn_then ?_
    by_cases q6 : (l0_1.length : Int) ≥ (64 : Int)
    · replace H := ite_t q6 H
      refine cs_know (c := true) (dec_t q6) 7 (by kernel_rfl) ?_
      refine cs_true (by kernel_rfl) ?_
      refine cs_skip' ?_
      refine qn_then ?_
      refine cs_seq ?_
      refine cs_block ?_
      obtain ⟨s8_0, hs8_0⟩ : ∃ z : Value → Sto → Prop, z = (fun v R => v = .agg ⟨(en (Value.int .u32) m1_1.1.1 ++ [Value.int .u64 m1_1.2])⟩ ∧ R = s0) := ⟨_, rfl⟩
      refine have_op (l := [_, _, _, _, _, _]) sha_Sum.tab6 2 0 (fun sp => sp 0 = s8_0) (fun sp on hA hon => ?_) (fun ops8_0 => ?_)
      · refine ⟨fun o ho vs Rs f' S' w hp hf hx hS hR hs => ?_⟩
        obtain rfl := Option.some.inj ho
        rw [hA, hs8_0]
        refine And.intro (fun a ha => (want_none rfl a ha).trans hon.symm) (And.intro (fun _ => ?_) (fun h => by rw [hon] at h; cases h))
        have hF := fr_next (rfl) ((hx 3 (by kernel_rfl)).trans (by kernel_rfl : (_ : Value) = .pointer (some ⟨g5, 0, none⟩)))
        refine ls_fr hF ?_
        refine ls_loadagg (a := ⟨g5, 0, none⟩) (sub := (en (Value.int .u32) m1_1.1.1 ++ [Value.int .u64 m1_1.2])) rfl rfl (by kernel_rfl) rfl (by kernel_rfl) (by kernel_rfl) (by kernel_rfl) (len_app (len_en _ m1_1.1) (len1 _)) (fun w1 hs1 => Rd.step (hs.vars (k := 1) ((hS 1 (by kernel_rfl)).trans (by exact rfl)) (Sub4.all _)) hs1.below.bw) ?_
        exact ls_fin s0 (.agg ⟨(en (Value.int .u32) m1_1.1.1 ++ [Value.int .u64 m1_1.2])⟩) (congrArg (fun z => upd z 10 _) hF.symm) ⟨rfl, rfl⟩ (sub_nil _)
      obtain ⟨s8_1, hs8_1⟩ : ∃ z : Value → Sto → Prop, z = (fun v R => v = .slice A0_1 l0_1.length c0_1 ∧ R = s0) := ⟨_, rfl⟩
      refine have_op (l := [_, _, _, _, _, _]) sha_Sum.tab6 2 1 (fun sp => sp 1 = s8_1) (fun sp on hA hon => ?_) (fun ops8_1 => ?_)
      · refine ⟨fun o ho vs Rs f' S' w hp hf hx hS hR hs => ?_⟩
        obtain rfl := Option.some.inj ho
        rw [hA, hs8_1]
        refine And.intro (fun a ha => (want_none rfl a ha).trans hon.symm) (And.intro (fun _ => ?_) (fun h => by rw [hon] at h; cases h))
        have hF := fr_next (rfl) ((hx 0 (by kernel_rfl)).trans (by kernel_rfl : (_ : Value) = .slice A0_1 l0_1.length c0_1))
        refine ls_fr hF ?_
        refine ls_val (v := .slice A0_1 l0_1.length c0_1) rfl rfl (by kernel_rfl) (fun w => by kernel_rfl) ?_
        exact ls_fin s0 (.slice A0_1 l0_1.length c0_1) (congrArg (fun z => upd z 11 _) hF.symm) ⟨rfl, rfl⟩ (sub_nil _)
      obtain ⟨q9, H⟩ := ite_need H
      obtain ⟨ad10, hA11⟩ := ido_at (T := (Ec.int 5 .u8)) (l := l0_1) (i := (0 : Int)) R0_1 (by decide) (by have := q9; omega)
      obtain ⟨s8_2, hs8_2⟩ : ∃ z : Value → Sto → Prop, z = (fun v R => v = .pointer (some ad10) ∧ R = s0) := ⟨_, rfl⟩
      refine have_op (l := [_, _, _, _, _, _]) sha_Sum.tab6 2 2 (fun sp => sp 2 = s8_2 ∧ sp 1 = s8_1) (fun sp on hA hon => ?_) (fun ops8_2 => ?_)
      · refine ⟨fun o ho vs Rs f' S' w hp hf hx hS hR hs => ?_⟩
        obtain rfl := Option.some.inj ho
        obtain ⟨hv1, hR1⟩ := (spe hA.2 hs8_1 (hp 1 (by kernel_rfl)))
        rw [hA.1, hs8_2]
        refine And.intro (fun a ha => (want_none rfl a ha).trans hon.symm) (And.intro (fun _ => ?_) (fun h => by rw [hon] at h; cases h))
        have hF := fr_next (rfl) ((hf 1 11 (by kernel_rfl) rfl).trans hv1)
        refine ls_fr hF ?_
        refine ls_toarr (e := 5) (A := A0_1) (m := l0_1.length) (c := c0_1) rfl rfl (by kernel_rfl) rfl (by kernel_rfl) (by kernel_rfl) q9 hA11 ?_
        exact ls_fin s0 (.pointer (some ad10)) (congrArg (fun z => upd z 12 _) hF.symm) ⟨rfl, rfl⟩ (sub_nil _)
      obtain ⟨s8_3, hs8_3⟩ : ∃ z : Value → Sto → Prop, z = (fun v R => v = .agg ⟨en (Value.int .u8) (vpad 64 0 l0_1).1⟩ ∧ R = s0) := ⟨_, rfl⟩
      refine have_op (l := [_, _, _, _, _, _]) sha_Sum.tab6 2 3 (fun sp => sp 3 = s8_3 ∧ sp 2 = s8_2) (fun sp on hA hon => ?_) (fun ops8_3 => ?_)
      · refine ⟨fun o ho vs Rs f' S' w hp hf hx hS hR hs => ?_⟩
        obtain rfl := Option.some.inj ho
        obtain ⟨hv2, hR2⟩ := (spe hA.2 hs8_2 (hp 2 (by kernel_rfl)))
        rw [hA.1, hs8_3]
        refine And.intro (fun a ha => (want_none rfl a ha).trans hon.symm) (And.intro (fun _ => ?_) (fun h => by rw [hon] at h; cases h))
        have hF := fr_next (rfl) ((hf 2 12 (by kernel_rfl) rfl).trans hv2)
        refine ls_fr hF ?_
        refine ls_loadagg (a := (ad10.add 0)) (sub := en (Value.int .u8) (vpad 64 0 l0_1).1) rfl rfl (by kernel_rfl) rfl (by kernel_rfl) (by kernel_rfl) (by kernel_rfl) (len_en _ (vpad 64 0 l0_1)) (fun w1 hs1 => ((Rd.step (hs.old R0_1) hs1.below.bw).vpad q9 0).part hA11 (Sub4.all _)) ?_
        exact ls_fin s0 (.agg ⟨en (Value.int .u8) (vpad 64 0 l0_1).1⟩) (congrArg (fun z => upd z 13 _) hF.symm) ⟨rfl, rfl⟩ (sub_nil _)
      refine cs_draw sha_Sum.tab6 4 2 (spl [s8_0, s8_1, s8_2, s8_3]) (onl [true, true, true, true]) (by kernel_rfl) (by kernel_rfl) (by kernel_rfl) (by kernel_rfl) (rs := [_, _]) rfl (by kernel_rfl) (by kernel_rfl) (all_snoc (all_snoc (all_snoc (all_snoc (all_nil) (ops8_0 _ _ rfl rfl)) (ops8_1 _ _ rfl rfl)) (ops8_2 _ _ ⟨rfl, rfl⟩ rfl)) (ops8_3 _ _ ⟨rfl, rfl⟩ rfl)) ?_
      intro vs Rs f' S' hp hf hx hS hR
      obtain ⟨hv0, hR0⟩ := (spe rfl hs8_0 (hp 0 (by kernel_rfl)))
      obtain ⟨hv3, hR3⟩ := (spe rfl hs8_3 (hp 3 (by kernel_rfl)))
      refine ls_fr (F := upd (upd (upd (upd (upd f' 0 (.slice A0_1 l0_1.length c0_1)) 2 (.pointer (some ⟨g1, 0, none⟩))) 3 (.pointer (some ⟨g5, 0, none⟩))) 10 (.agg ⟨(en (Value.int .u32) m1_1.1.1 ++ [Value.int .u64 m1_1.2])⟩)) 13 (.agg ⟨en (Value.int .u8) (vpad 64 0 l0_1).1⟩)) (fr_next (fr_next (fr_next (fr_next (fr_next (rfl) ((hx 0 (by kernel_rfl)).trans (by kernel_rfl : (_ : Value) = .slice A0_1 l0_1.length c0_1))) ((hx 2 (by kernel_rfl)).trans (by kernel_rfl : (_ : Value) = .pointer (some ⟨g1, 0, none⟩)))) ((hx 3 (by kernel_rfl)).trans (by kernel_rfl : (_ : Value) = .pointer (some ⟨g5, 0, none⟩)))) ((hf 0 10 (by kernel_rfl) rfl).trans hv0)) ((hf 3 13 (by kernel_rfl) rfl).trans hv3)) ?_
      refine ls_sub (sput (sput s0 0 (some (Ck.var 23 g1 (en (Value.int .u8) (vrep 32 (0 : Int)).1)))) 1 (some (Ck.var 52 g5 ((en (Value.int .u32) m1_1.1.1 ++ [Value.int .u64 m1_1.2]))))) (sub_put ((hS 1 (by kernel_rfl)).trans (by exact rfl)) (sub_put ((hS 0 (by kernel_rfl)).trans (by exact rfl)) (sub_nil _))) ?_
      obtain ⟨t12, hc13, H⟩ := bind_some H
      refine ls_callb (fid := 36) (vals := #[.agg ⟨(en (Value.int .u32) m1_1.1.1 ++ [Value.int .u64 m1_1.2])⟩, .agg ⟨en (Value.int .u8) (vpad 64 0 l0_1).1⟩]) (X := Unit) (fun x => .agg ⟨(en (Value.int .u32) t12.1.1 ++ [Value.int .u64 t12.2])⟩) (fun x => stl []) [] [] [] [] 34 rfl rfl (by kernel_rfl) (fun w => by kernel_rfl) trivial trivial (by decide) (fun w hs hb => sha_State_Block.calls k1 m1_1 (vpad 64 0 l0_1) t12 (lent b w [] []) hb  hc13) ?_
      intro x14
      refine ls_storec (g := g5) (off := 0) (v := .agg ⟨(en (Value.int .u32) t12.1.1 ++ [Value.int .u64 t12.2])⟩) (vs := (en (Value.int .u32) t12.1.1 ++ [Value.int .u64 t12.2])) (cs := (en (Value.int .u32) m1_1.1.1 ++ [Value.int .u64 m1_1.2])) (ty := 52) 1 rfl rfl rfl (by kernel_rfl) (by kernel_rfl) (by kernel_rfl) (by exact rfl) (by kernel_rfl) (len_app (len_en _ t12.1) (len1 _)) (one_app (one_en (fun _ => rfl) _) (one_cons rfl one_nil)) (hl_of (Sub4.all _) (len_eq (len_app (len_en _ t12.1) (len1 _)) (len_app (len_en _ m1_1.1) (len1 _)))) (cs' := (en (Value.int .u32) t12.1.1 ++ [Value.int .u64 t12.2])) (splc_all (len_eq (len_app (len_en _ t12.1) (len1 _)) (len_app (len_en _ m1_1.1) (len1 _)))) ?_
      refine ls_end ?_
      refine qn_block ?_
      refine qn_then ?_
      refine cs_region (l := [_, _, _]) ?_
      refine ls_val (v := .slice A0_1 l0_1.length c0_1) rfl rfl (by kernel_rfl) (fun w => by kernel_rfl) ?_
      obtain ⟨q15, H⟩ := ite_need H
      obtain ⟨xl20, hy21, H⟩ := lt_some H
      have hz23 : ((64 : Int)).toNat ≤ l0_1.length := by omega
      have hz24 : l0_1.length ≤ l0_1.length := by omega
      obtain ⟨xA16, xc17, he22, xC19, xR18⟩ := cut_at (A := A0_1) (c := c0_1) (l := l0_1) (Ec.int 5 .u8) (((64 : Int)).toNat) l0_1.length hz23 hz24 C0_1 R0_1 (m := xl20) (by rw [← hy21] <;> simp) (z := 1) rfl
      refine ls_cutv (A := A0_1) (c := c0_1) (m := l0_1.length) (z := 1) (e := 5) (a := ((64 : Int)).toNat) (b := l0_1.length) rfl rfl (by kernel_rfl) rfl (by kernel_rfl) (by kernel_rfl) (by kernel_rfl) (.inr ⟨.i64, by rw [Int.toNat_of_nonneg (by first | assumption | omega)]; kernel_rfl⟩) (.inl ⟨rfl, rfl⟩) hz23 hz24 C0_1 he22 ?_
      refine ls_val (v := .slice xA16 xl20.length xc17) rfl rfl (by kernel_rfl) (fun w => by kernel_rfl) ?_
      refine ls_end ?_
      refine qn_again k1 (sput (sput s0 0 (some (Ck.var 23 g1 (en (Value.int .u8) (vrep 32 (0 : Int)).1)))) 1 (some (Ck.var 52 g5 ((en (Value.int .u32) t12.1.1 ++ [Value.int .u64 t12.2]))))) (Nat.le_refl _) ⟨_, xA16, xc17, xl20, t12, fr_next (fr_next (fr_next (rfl) (by kernel_rfl)) (by kernel_rfl)) (by kernel_rfl), rfl, xR18, xC19, H⟩ (sub_put (by exact rfl) (sub_put (by exact rfl) (sub_nil _)))
    · replace H := ite_f q6 H
      refine cs_know (c := false) (dec_f q6) 7 (by kernel_rfl) ?_
      refine cs_false (by kernel_rfl) ?_
      refine cs_exit' ?_
      refine qx_then ?_
      refine qx_then ?_
      refine qx_same ?_
      refine qn_then ?_
      refine cs_seq ?_
      refine cs_region (l := [_, _, _, _]) ?_
      refine ls_loadagg (a := ⟨g5, 0, none⟩) (sub := (en (Value.int .u32) m1_1.1.1 ++ [Value.int .u64 m1_1.2])) rfl rfl (by kernel_rfl) rfl (by kernel_rfl) (by kernel_rfl) (by kernel_rfl) (len_app (len_en _ m1_1.1) (len1 _)) (fun w hs => (hs.vars (k := 1) (by exact rfl) (Sub4.all _))) ?_
      refine ls_val (v := .slice A0_1 l0_1.length c0_1) rfl rfl (by kernel_rfl) (fun w => by kernel_rfl) ?_
      obtain ⟨t25, hc26, H⟩ := bind_some H
      refine ls_callb (fid := 37) (vals := #[.agg ⟨(en (Value.int .u32) m1_1.1.1 ++ [Value.int .u64 m1_1.2])⟩, .slice A0_1 l0_1.length c0_1]) (X := Unit) (fun x => .agg ⟨en (Value.int .u8) t25.1⟩) (fun x => stl []) [] [] [] [] 2 rfl rfl (by kernel_rfl) (fun w => by kernel_rfl) trivial trivial (by decide) (fun w hs hb => sha_State_End.calls k1 m1_1 A0_1 c0_1 l0_1 t25 (lent b w [] []) hb (hs.ro R0_1 _ _) C0_1 hc26) ?_
      intro x27
      refine ls_storec (g := g1) (off := 0) (v := .agg ⟨en (Value.int .u8) t25.1⟩) (vs := en (Value.int .u8) t25.1) (cs := en (Value.int .u8) (vrep 32 (0 : Int)).1) (ty := 23) 0 rfl rfl rfl (by kernel_rfl) (by kernel_rfl) (by kernel_rfl) (by exact rfl) (by kernel_rfl) (len_en _ t25) (one_en (fun _ => rfl) _) (hl_of (Sub4.all _) (len_eq (len_en _ t25) (len_en _ (vrep 32 (0 : Int))))) (cs' := en (Value.int .u8) t25.1) (splc_all (len_eq (len_en _ t25) (len_en _ (vrep 32 (0 : Int))))) ?_
      refine ls_end ?_
      refine qn_then ?_
      refine cs_ret' ?_
      obtain rfl := Option.some.inj H
      refine qr_res (rs := [_]) rfl (fun w' hs => ⟨[.agg ⟨en (Value.int .u8) t25.1⟩], (.cell (by kernel_rfl) (run_cellres (by kernel_rfl) (by kernel_rfl) (len_en _ t25) (hs.holds 0 _ (by exact rfl))) (.nil)), (), rfl, hs.pick (ts := []) (cs := []) trivial (by decide)⟩)

/-! ### shadowbox/hmac.Mac$1: function 23 -/
def hmac_Mac_1.lo1 (a0 : Int) (l1 : List Int) (v2 : (Vc Int 64)) : Nat → (List Int) → Int → Option ((List Int))
  | 0, _, _ => none
  | k1 + 1, l6_1, x14_1 => (if x14_1 < (64 : Int) then (if 0 ≤ x14_1 then lt (bits .xor .u8 (v2.1.getD (x14_1).toNat (0 : Int)) a0) fun y9 => (if (l6_1.length + ([y9]).length) * 1 ≤ 140737488355328 then (hmac_Mac_1.lo1 a0 l1 v2 k1) (l6_1 ++ [y9]) (IntKind.wrap .i64 (x14_1 + (1 : Int))) else none) else none) else (if (l6_1.length + l1.length) * 1 ≤ 140737488355328 then some (l6_1 ++ l1) else none))
def hmac_Mac_1.f (k : Nat) (a0 : Int) (l1 : List Int) (v2 : (Vc Int 64)) : Option ((List Int)) :=
  lt (IntKind.wrap .i64 ((64 : Int) + (l1.length : Int))) fun y1 => (if (0 : Int) ≤ y1 then (if y1 ≤ 140737488355328 then (if (1 : Int) * y1 ≤ 281474976710656 then hmac_Mac_1.lo1 a0 l1 v2 k (List.replicate ((0 : Int)).toNat (0 : Int)) (0 : Int) else none) else none) else none)
set_option maxRecDepth 100000 in
set_option maxHeartbeats 4000000 in
theorem hmac_Mac_1.calls (k : Nat) (a0 : Int) (A1 : Option Addr) (c1 : Nat) (l1 : List Int) (pg2 : Nat) (v2 : (Vc Int 64)) (r : (List Int)) (b : Bs) (hs0 : St b (stl [Ck.var 39 pg2 (en (Value.int .u8) v2.1)]) b.w) (R1 : Ro b A1 (em (Ec.int 5 .u8) l1)) (C1 : l1.length ≤ c1) (H : hmac_Mac_1.f k a0 l1 v2 = some r) :
    Calls Try.prog 23 #[.int .u8 a0, .slice A1 l1.length c1, .pointer (some ⟨pg2, 0, none⟩)] b.w fun e w' => ∃ x : (Option Addr × Nat), e = .returned (.slice x.1 r.length x.2) ∧ St b (stl [Ck.var 39 pg2 (en (Value.int .u8) v2.1), Ck.sl (Ec.int 5 .u8) x.1 x.2 r]) w' := by
  unfold hmac_Mac_1.f at H
  refine enterb (n := 27) Try.func23 rfl (by kernel_rfl) (by kernel_rfl) hs0 ?_
  refine cs_sub (sput s0 0 (some (Ck.var 39 pg2 (en (Value.int .u8) v2.1)))) (sub_put (by exact rfl) (sub_nil _)) ?_
  refine cs_seq ?_
  refine cs_region (l := [_]) ?_
  refine ls_val (v := .slice none 0 0) rfl rfl (by kernel_rfl) (fun w => by kernel_rfl) ?_
  refine ls_end ?_
  refine qn_then ?_
  refine cs_seq ?_
  refine cs_region (l := [_, _, _, _, _]) ?_
  refine ls_val (v := .slice A1 l1.length c1) rfl rfl (by kernel_rfl) (fun w => by kernel_rfl) ?_
  refine ls_val (v := .int .i64 (l1.length : Int)) rfl rfl (by kernel_rfl) (fun w => by kernel_rfl) ?_
  obtain ⟨y1, hy2, H⟩ := lt_some H
  refine ls_val (v := .int .i64 (IntKind.wrap .i64 ((64 : Int) + (l1.length : Int)))) rfl rfl (by kernel_rfl) (fun w => by kernel_rfl) ?_
  refine ls_ren 11 (v := .int .i64 (IntKind.wrap .i64 ((64 : Int) + (l1.length : Int)))) (v' := .int .i64 y1) (by kernel_rfl) (by rw [hy2]) ?_
  obtain ⟨q3, H⟩ := ite_need H
  obtain ⟨q4, H⟩ := ite_need H
  obtain ⟨q5, H⟩ := ite_need H
  refine ls_make (Ec.int 5 .u8) (bytes := 1) (a := (0 : Int)) (b := y1) (kx := .i64) (ky := .i64) (zc := [Value.int .u8 (0 : Int)]) 1 rfl rfl (by kernel_rfl) rfl (by kernel_rfl) (by kernel_rfl) (by kernel_rfl) (by kernel_rfl) rfl (by decide) q3 q4 q5 ?_
  intro g6
  refine ls_val (v := .slice (some ⟨g6, 0, none⟩) (List.replicate ((0 : Int)).toNat (0 : Int)).length (y1).toNat) rfl rfl (by kernel_rfl) (fun w => by kernel_rfl) ?_
  refine ls_end ?_
  refine qn_then ?_
  refine cs_seq ?_
  refine cs_seq ?_
  refine cs_region (l := [_, _]) ?_
  refine ls_loadagg (a := ⟨pg2, 0, none⟩) (sub := en (Value.int .u8) v2.1) rfl rfl (by kernel_rfl) rfl (by kernel_rfl) (by kernel_rfl) (by kernel_rfl) (len_en _ v2) (fun w hs => (hs.vars (k := 0) (by exact rfl) (Sub4.all _))) ?_
  refine ls_val (v := .int .i64 (0 : Int)) rfl rfl (by kernel_rfl) (fun w => by kernel_rfl) ?_
  refine ls_end ?_
  refine qn_then ?_
  refine cs_block ?_
  refine cs_sub (sput (sput s0 0 (some (Ck.var 39 pg2 (en (Value.int .u8) v2.1)))) 1 (some (Ck.sl (Ec.int 5 .u8) (some ⟨g6, 0, none⟩) ((y1).toNat) (List.replicate ((0 : Int)).toNat (0 : Int))))) (sub_put (by exact rfl) (sub_put (by exact rfl) (sub_nil _))) ?_
  refine cs_loop (fun kk f S => ∃ (fR : Fr) (A6_1 : Option Addr) (c6_1 : Nat) (l6_1 : List Int) (x14_1 : Int), f = upd (upd (upd (upd (upd fR 0 (.int .u8 a0)) 1 (.slice A1 l1.length c1)) 6 (.slice A6_1 l6_1.length c6_1)) 13 (.agg ⟨en (Value.int .u8) v2.1⟩)) 14 (.int .i64 x14_1) ∧ S = sput (sput s0 0 (some (Ck.var 39 pg2 (en (Value.int .u8) v2.1)))) 1 (some (Ck.sl (Ec.int 5 .u8) A6_1 c6_1 l6_1)) ∧ hmac_Mac_1.lo1 a0 l1 v2 kk l6_1 x14_1 = some r) k ?_ ?_ ?_
  · exact ⟨_, (some ⟨g6, 0, none⟩), (y1).toNat, (List.replicate ((0 : Int)).toNat (0 : Int)), (0 : Int), fr_next (fr_next (fr_next (fr_next (fr_next (rfl) (by kernel_rfl)) (by kernel_rfl)) (by kernel_rfl)) (by kernel_rfl)) (by kernel_rfl), rfl, H⟩
  · rintro f S ⟨fr1, A6_1, c6_1, l6_1, x14_1, rfl, rfl, H⟩; cases H
  · rintro k1 f S ⟨fr1, A6_1, c6_1, l6_1, x14_1, rfl, rfl, H⟩
    replace H : ((if x14_1 < (64 : Int) then (if 0 ≤ x14_1 then lt (bits .xor .u8 (v2.1.getD (x14_1).toNat (0 : Int)) a0) fun y9 => (if (l6_1.length + ([y9]).length) * 1 ≤ 140737488355328 then (hmac_Mac_1.lo1 a0 l1 v2 k1) (l6_1 ++ [y9]) (IntKind.wrap .i64 (x14_1 + (1 : Int))) else none) else none) else (if (l6_1.length + l1.length) * 1 ≤ 140737488355328 then some (l6_1 ++ l1) else none))) = some r := H
    refine cs_seq ?_
    refine cs_region (l := [_]) ?_
    refine ls_val (v := .bool (decide (x14_1 < (64 : Int)))) rfl rfl (by kernel_rfl) (fun w => by kernel_rfl) ?_
    refine ls_end ?_
    refine qn_then ?_
    refine cs_seq ?_
    by_cases q7 : x14_1 < (64 : Int)
    · replace H := ite_t q7 H
      refine cs_know (c := true) (dec_t q7) 15 (by kernel_rfl) ?_
      refine cs_true (by kernel_rfl) ?_
      refine cs_skip' ?_
      refine qn_then ?_
      refine cs_seq ?_
      refine cs_block ?_
      refine cs_seq ?_
      refine cs_region (l := [_, _]) ?_
      obtain ⟨q8, H⟩ := ite_need H
      refine ls_index (l := v2.1) (E := (Value.int .u8)) (i := x14_1) (kk := .i64) (ln := 64) (e := 5) rfl rfl (by kernel_rfl) v2.2 rfl (by kernel_rfl) (by kernel_rfl) (by kernel_rfl) (by kernel_rfl) (by kernel_rfl) q8 q7 0 ?_
      refine ls_val (v := .int .u8 (v2.1.getD (x14_1).toNat (0 : Int))) rfl rfl (by kernel_rfl) (fun w => by kernel_rfl) ?_
      refine ls_end ?_
      refine qn_then ?_
      refine cs_region (l := [_, _, _, _, _, _, _]) ?_
      refine ls_val (v := .slice A6_1 l6_1.length c6_1) rfl rfl (by kernel_rfl) (fun w => by kernel_rfl) ?_
      refine ls_val (v := .int .u8 (v2.1.getD (x14_1).toNat (0 : Int))) rfl rfl (by kernel_rfl) (fun w => by kernel_rfl) ?_
      refine ls_val (v := .int .u8 a0) rfl rfl (by kernel_rfl) (fun w => by kernel_rfl) ?_
      obtain ⟨y9, hy10, H⟩ := lt_some H
      refine ls_val (v := .int .u8 (bits .xor .u8 (v2.1.getD (x14_1).toNat (0 : Int)) a0)) rfl rfl (by kernel_rfl) (fun w => by kernel_rfl) ?_
      refine ls_ren 20 (v := .int .u8 (bits .xor .u8 (v2.1.getD (x14_1).toNat (0 : Int)) a0)) (v' := .int .u8 y9) (by kernel_rfl) (by rw [hy10]) ?_
      refine ls_lit (Ec.int 5 .u8) 2 rfl rfl (by kernel_rfl) ([y9]) (by exact of_decide_eq_true (by kernel_rfl)) (fun w => by kernel_rfl) ?_
      intro g11
      obtain ⟨q12, H⟩ := ite_need H
      refine ls_app (Ec.int 5 .u8) (A := A6_1) (c := c6_1) (B := (some ⟨g11, 0, none⟩)) (cb := [y9].length) (z := (Value.int .u8 0)) (l := l6_1) (m := [y9]) (bytes := 1) 1 rfl rfl (by kernel_rfl) rfl (by kernel_rfl) (by exact rfl) (by kernel_rfl) (fun w hs => (hs.rd (k := 2) (by exact rfl))) (by kernel_rfl) (by kernel_rfl) rfl (by decide) q12 ?_
      intro xA13 xc14
      refine ls_val (v := .slice xA13 (l6_1 ++ [y9]).length xc14) rfl rfl (by kernel_rfl) (fun w => by kernel_rfl) ?_
      refine ls_end ?_
      refine qn_block ?_
      refine qn_then ?_
      refine cs_region (l := [_, _]) ?_
      refine ls_val (v := .int .i64 (IntKind.wrap .i64 (x14_1 + (1 : Int)))) rfl rfl (by kernel_rfl) (fun w => by kernel_rfl) ?_
      refine ls_val (v := .int .i64 (IntKind.wrap .i64 (x14_1 + (1 : Int)))) rfl rfl (by kernel_rfl) (fun w => by kernel_rfl) ?_
      refine ls_end ?_
      refine qn_again k1 (sput (sput s0 0 (some (Ck.var 39 pg2 (en (Value.int .u8) v2.1)))) 1 (some (Ck.sl (Ec.int 5 .u8) xA13 xc14 (l6_1 ++ [y9])))) (Nat.le_refl _) ⟨_, xA13, xc14, (l6_1 ++ [y9]), (IntKind.wrap .i64 (x14_1 + (1 : Int))), fr_next (fr_next (fr_next (fr_next (fr_next (rfl) (by kernel_rfl)) (by kernel_rfl)) (by kernel_rfl)) (by kernel_rfl)) (by kernel_rfl), rfl, H⟩ (sub_put (by exact rfl) (sub_put (by exact rfl) (sub_nil _)))
    · replace H := ite_f q7 H
      refine cs_know (c := false) (dec_f q7) 15 (by kernel_rfl) ?_
      refine cs_false (by kernel_rfl) ?_
      refine cs_exit' ?_
      refine qx_then ?_
      refine qx_then ?_
      refine qx_same ?_
      refine qn_then ?_
      refine cs_seq ?_
      refine cs_region (l := [_, _, _, _]) ?_
      refine ls_val (v := .slice A6_1 l6_1.length c6_1) rfl rfl (by kernel_rfl) (fun w => by kernel_rfl) ?_
      refine ls_val (v := .slice A1 l1.length c1) rfl rfl (by kernel_rfl) (fun w => by kernel_rfl) ?_
      obtain ⟨q15, H⟩ := ite_need H
      refine ls_app (Ec.int 5 .u8) (A := A6_1) (c := c6_1) (B := A1) (cb := c1) (z := (Value.int .u8 0)) (l := l6_1) (m := l1) (bytes := 1) 1 rfl rfl (by kernel_rfl) rfl (by kernel_rfl) (by exact rfl) (by kernel_rfl) (fun w hs => (hs.old R1)) (by kernel_rfl) (by kernel_rfl) rfl (by decide) q15 ?_
      intro xA16 xc17
      refine ls_val (v := .slice xA16 (l6_1 ++ l1).length xc17) rfl rfl (by kernel_rfl) (fun w => by kernel_rfl) ?_
      refine ls_end ?_
      refine qn_then ?_
      refine cs_ret' ?_
      obtain rfl := Option.some.inj H
      refine qr_res (rs := [_]) rfl (fun w' hs => ⟨[.slice xA16 (l6_1 ++ l1).length xc17], (res_tmp (by kernel_rfl) (.nil)), (xA16, xc17), rfl, hs.pick (ts := [0, 1]) (cs := [Ck.var 39 pg2 (en (Value.int .u8) v2.1), Ck.sl (Ec.int 5 .u8) xA16 xc17 (l6_1 ++ l1)]) ⟨by exact rfl, by exact rfl, trivial⟩ (by decide)⟩)

/-! ### shadowbox/hmac.Mac: function 9 -/
def hmac_Mac.tab7 : List (List Nat) := [[], [], [0, 1]]
def hmac_Mac.f (k : Nat) (l0 : List Int) (l1 : List Int) : Option ((Vc Int 32)) :=
  (if (l0.length : Int) > (64 : Int) then (sha_Sum.f k l0).bind fun t4 => lt (vcopy (vrep 64 (0 : Int)) t4.1) fun y10 => (hmac_Mac_1.f k (54 : Int) l1 y10).bind fun t12 => (sha_Sum.f k t12).bind fun t15 => (hmac_Mac_1.f k (92 : Int) t15.1 y10).bind fun t19 => (sha_Sum.f k t19).bind fun t22 => some t22 else lt (vcopy (vrep 64 (0 : Int)) l0) fun y25 => (hmac_Mac_1.f k (54 : Int) l1 y25).bind fun t27 => (sha_Sum.f k t27).bind fun t30 => (hmac_Mac_1.f k (92 : Int) t30.1 y25).bind fun t34 => (sha_Sum.f k t34).bind fun t37 => some t37)
set_option maxRecDepth 100000 in
set_option maxHeartbeats 4000000 in
theorem hmac_Mac.calls (k : Nat) (A0 : Option Addr) (c0 : Nat) (l0 : List Int) (A1 : Option Addr) (c1 : Nat) (l1 : List Int) (r : (Vc Int 32)) (b : Bs) (hs0 : St b (stl []) b.w) (R0 : Ro b A0 (em (Ec.int 5 .u8) l0)) (C0 : l0.length ≤ c0) (R1 : Ro b A1 (em (Ec.int 5 .u8) l1)) (C1 : l1.length ≤ c1) (H : hmac_Mac.f k l0 l1 = some r) :
    Calls Try.prog 9 #[.slice A0 l0.length c0, .slice A1 l1.length c1] b.w fun e w' => ∃ x : Unit, e = .returned (.agg ⟨en (Value.int .u8) r.1⟩) ∧ St b (stl []) w' := by
  unfold hmac_Mac.f at H
  refine enterb (n := 29) Try.func9 rfl (by kernel_rfl) (by kernel_rfl) hs0 ?_
  refine cs_sub (s0) (sub_nil _) ?_
  refine cs_seq ?_
  refine cs_region (l := [_]) ?_
  refine ls_new rfl rfl (by kernel_rfl) 0 (fun g => .pointer (some ⟨g, 0, none⟩)) (.cells ⟨en (Value.int .u8) (vrep 32 (0 : Int)).1⟩ 23) (fun w => by kernel_rfl) ?_
  intro g1
  refine ls_end ?_
  refine qn_then ?_
  refine cs_seq ?_
  refine cs_region (l := [_]) ?_
  refine ls_new rfl rfl (by kernel_rfl) 1 (fun g => .pointer (some ⟨g, 0, none⟩)) (.cells ⟨en (Value.int .u8) (vrep 64 (0 : Int)).1⟩ 39) (fun w => by kernel_rfl) ?_
  intro g2
  refine ls_end ?_
  refine qn_then ?_
  refine cs_seq ?_
  refine cs_seq ?_
  refine cs_region (l := [_, _, _]) ?_
  refine ls_val (v := .slice A0 l0.length c0) rfl rfl (by kernel_rfl) (fun w => by kernel_rfl) ?_
  refine ls_val (v := .int .i64 (l0.length : Int)) rfl rfl (by kernel_rfl) (fun w => by kernel_rfl) ?_
  refine ls_val (v := .bool (decide ((l0.length : Int) > (64 : Int)))) rfl rfl (by kernel_rfl) (fun w => by kernel_rfl) ?_
  refine ls_end ?_
  refine qn_then ?_
  by_cases q3 : (l0.length : Int) > (64 : Int)
  · replace H := ite_t q3 H
    refine cs_know (c := true) (dec_t q3) 11 (by kernel_rfl) ?_
    refine cs_true (by kernel_rfl) ?_
    refine cs_seq ?_
    refine cs_region (l := [_, _, _, _]) ?_
    refine ls_val (v := .slice A0 l0.length c0) rfl rfl (by kernel_rfl) (fun w => by kernel_rfl) ?_
    obtain ⟨t4, hc5, H⟩ := bind_some H
    refine ls_callb (fid := 22) (vals := #[.slice A0 l0.length c0]) (X := Unit) (fun x => .agg ⟨en (Value.int .u8) t4.1⟩) (fun x => stl []) [] [] [] [] 2 rfl rfl (by kernel_rfl) (fun w => by kernel_rfl) trivial trivial (by decide) (fun w hs hb => sha_Sum.calls k A0 c0 l0 t4 (lent b w [] []) hb (hs.ro R0 _ _) C0 hc5) ?_
    intro x6
    refine ls_new rfl rfl (by kernel_rfl) 2 (fun g => .pointer (some ⟨g, 0, none⟩)) (.cells ⟨en (Value.int .u8) (vrep 32 (0 : Int)).1⟩ 23) (fun w => by kernel_rfl) ?_
    intro g7
    refine ls_storec (g := g7) (off := 0) (v := .agg ⟨en (Value.int .u8) t4.1⟩) (vs := en (Value.int .u8) t4.1) (cs := en (Value.int .u8) (vrep 32 (0 : Int)).1) (ty := 23) 2 rfl rfl rfl (by kernel_rfl) (by kernel_rfl) (by kernel_rfl) (by exact rfl) (by kernel_rfl) (len_en _ t4) (one_en (fun _ => rfl) _) (hl_of (Sub4.all _) (len_eq (len_en _ t4) (len_en _ (vrep 32 (0 : Int))))) (cs' := en (Value.int .u8) t4.1) (splc_all (len_eq (len_en _ t4) (len_en _ (vrep 32 (0 : Int))))) ?_
    refine ls_end ?_
    refine qn_then ?_
    obtain ⟨s9_0, hs9_0⟩ : ∃ z : Value → Sto → Prop, z = (fun v R => v = .slice (some ⟨g2, 0, none⟩) (vrep 64 (0 : Int)).1.length 64 ∧ R = s0) := ⟨_, rfl⟩
    refine have_op (l := [_, _, _]) hmac_Mac.tab7 3 0 (fun sp => sp 0 = s9_0) (fun sp on hA hon => ?_) (fun ops9_0 => ?_)
    · refine ⟨fun o ho vs Rs f' S' w hp hf hx hS hR hs => ?_⟩
      obtain rfl := Option.some.inj ho
      rw [hA, hs9_0]
      refine And.intro (fun a ha => (want_none rfl a ha).trans hon.symm) (And.intro (fun _ => ?_) (fun h => by rw [hon] at h; cases h))
      have hF := fr_next (rfl) ((hx 5 (by kernel_rfl)).trans (by kernel_rfl : (_ : Value) = .pointer (some ⟨g2, 0, none⟩)))
      refine ls_fr hF ?_
      refine ls_val (v := .slice (some ⟨g2, 0, none⟩) (vrep 64 (0 : Int)).1.length 64) rfl rfl (by kernel_rfl) (fun w => by rw [show (vrep 64 (0 : Int)).1.length = 64 from (vrep 64 (0 : Int)).2]; kernel_rfl) ?_
      exact ls_fin s0 (.slice (some ⟨g2, 0, none⟩) (vrep 64 (0 : Int)).1.length 64) (congrArg (fun z => upd z 14 _) hF.symm) ⟨rfl, rfl⟩ (sub_nil _)
    obtain ⟨s9_1, hs9_1⟩ : ∃ z : Value → Sto → Prop, z = (fun v R => v = .slice (some ⟨g7, 0, none⟩) t4.1.length 32 ∧ R = s0) := ⟨_, rfl⟩
    refine have_op (l := [_, _, _]) hmac_Mac.tab7 3 1 (fun sp => sp 1 = s9_1) (fun sp on hA hon => ?_) (fun ops9_1 => ?_)
    · refine ⟨fun o ho vs Rs f' S' w hp hf hx hS hR hs => ?_⟩
      obtain rfl := Option.some.inj ho
      rw [hA, hs9_1]
      refine And.intro (fun a ha => (want_none rfl a ha).trans hon.symm) (And.intro (fun _ => ?_) (fun h => by rw [hon] at h; cases h))
      have hF := fr_next (rfl) ((hx 6 (by kernel_rfl)).trans (by kernel_rfl : (_ : Value) = .pointer (some ⟨g7, 0, none⟩)))
      refine ls_fr hF ?_
      refine ls_val (v := .slice (some ⟨g7, 0, none⟩) t4.1.length 32) rfl rfl (by kernel_rfl) (fun w => by rw [show t4.1.length = 32 from t4.2]; kernel_rfl) ?_
      exact ls_fin s0 (.slice (some ⟨g7, 0, none⟩) t4.1.length 32) (congrArg (fun z => upd z 15 _) hF.symm) ⟨rfl, rfl⟩ (sub_nil _)
    refine cs_draw hmac_Mac.tab7 2 3 (spl [s9_0, s9_1]) (onl [true, true]) (by kernel_rfl) (by kernel_rfl) (by kernel_rfl) (by kernel_rfl) (rs := [_]) rfl (by kernel_rfl) (by kernel_rfl) (all_snoc (all_snoc (all_nil) (ops9_0 _ _ rfl rfl)) (ops9_1 _ _ rfl rfl)) ?_
    intro vs Rs f' S' hp hf hx hS hR
    obtain ⟨hv0, hR0⟩ := (spe rfl hs9_0 (hp 0 (by kernel_rfl)))
    obtain ⟨hv1, hR1⟩ := (spe rfl hs9_1 (hp 1 (by kernel_rfl)))
    refine ls_fr (F := upd (upd (upd (upd (upd f' 1 (.slice A1 l1.length c1)) 4 (.pointer (some ⟨g1, 0, none⟩))) 5 (.pointer (some ⟨g2, 0, none⟩))) 14 (.slice (some ⟨g2, 0, none⟩) (vrep 64 (0 : Int)).1.length 64)) 15 (.slice (some ⟨g7, 0, none⟩) t4.1.length 32)) (fr_next (fr_next (fr_next (fr_next (fr_next (rfl) ((hx 1 (by kernel_rfl)).trans (by kernel_rfl : (_ : Value) = .slice A1 l1.length c1))) ((hx 4 (by kernel_rfl)).trans (by kernel_rfl : (_ : Value) = .pointer (some ⟨g1, 0, none⟩)))) ((hx 5 (by kernel_rfl)).trans (by kernel_rfl : (_ : Value) = .pointer (some ⟨g2, 0, none⟩)))) ((hf 0 14 (by kernel_rfl) rfl).trans hv0)) ((hf 1 15 (by kernel_rfl) rfl).trans hv1)) ?_
    refine ls_sub (sput (sput (sput s0 0 (some (Ck.var 23 g1 (en (Value.int .u8) (vrep 32 (0 : Int)).1)))) 1 (some (Ck.var 39 g2 (en (Value.int .u8) (vrep 64 (0 : Int)).1)))) 2 (some (Ck.var 23 g7 (en (Value.int .u8) t4.1)))) (sub_put ((hS 2 (by kernel_rfl)).trans (by exact rfl)) (sub_put ((hS 1 (by kernel_rfl)).trans (by exact rfl)) (sub_put ((hS 0 (by kernel_rfl)).trans (by exact rfl)) (sub_nil _)))) ?_
    obtain ⟨y10, hy11, H⟩ := lt_some H
    refine ls_copyv (Value.int .u8) (g := g2) (off := 0) (N := 64) (cx := 64) (B := (some ⟨g7, 0, none⟩)) (cb := 32) (l := t4.1) (v := (vrep 64 (0 : Int))) (cs := en (Value.int .u8) (vrep 64 (0 : Int)).1) (ty := 39) (e := 5) 1 rfl rfl (by rw [show (vrep 64 (0 : Int)).1.length = 64 from (vrep 64 (0 : Int)).2]; kernel_rfl) (by kernel_rfl) (by exact rfl) (by kernel_rfl) (by kernel_rfl) (fun w hs => Rd.toen (t := 5) (Rd.ofen (t := 5) (hs.vars (k := 2) (by exact rfl) (Sub4.all _)))) (fun _ => rfl) (Sub4.all _) (cs' := en (Value.int .u8) (vcopy (vrep 64 (0 : Int)) t4.1).1) (splc_all (len_eq (len_en _ (vcopy (vrep 64 (0 : Int)) t4.1)) (len_en _ (vrep 64 (0 : Int))))) rfl (by kernel_rfl) ?_
    rw [hy11]
    refine ls_end ?_
    refine qn_then ?_
    refine cs_seq ?_
    refine cs_region (l := [_, _]) ?_
    refine ls_val (v := .func (.func 23) #[] #[.pointer (some ⟨g2, 0, none⟩)]) rfl rfl (by kernel_rfl) (fun w => by kernel_rfl) ?_
    refine ls_val (v := .func (.func 23) #[] #[.pointer (some ⟨g2, 0, none⟩)]) rfl rfl (by kernel_rfl) (fun w => by kernel_rfl) ?_
    refine ls_end ?_
    refine qn_then ?_
    refine cs_seq ?_
    refine cs_region (l := [_, _, _, _, _, _]) ?_
    refine ls_val (v := .func (.func 23) #[] #[.pointer (some ⟨g2, 0, none⟩)]) rfl rfl (by kernel_rfl) (fun w => by kernel_rfl) ?_
    refine ls_val (v := .slice A1 l1.length c1) rfl rfl (by kernel_rfl) (fun w => by kernel_rfl) ?_
    obtain ⟨t12, hc13, H⟩ := bind_some H
    refine ls_callb (fid := 23) (vals := #[.int .u8 (54 : Int), .slice A1 l1.length c1, .pointer (some ⟨g2, 0, none⟩)]) (X := (Option Addr × Nat)) (fun x => .slice x.1 t12.length x.2) (fun x => stl [Ck.var 39 g2 (en (Value.int .u8) y10.1), Ck.sl (Ec.int 5 .u8) x.1 x.2 t12]) [1] [] [Ck.var 39 g2 (en (Value.int .u8) y10.1)] [] 19 rfl rfl (by kernel_rfl) (fun w => by kernel_rfl) ⟨by exact rfl, trivial⟩ trivial (by decide) (fun w hs hb => hmac_Mac_1.calls k (54 : Int) A1 c1 l1 g2 y10 t12 (lent b w [Ck.var 39 g2 (en (Value.int .u8) y10.1)] []) hb (hs.ro R1 _ _) C1 hc13) ?_
    intro x14
    obtain ⟨t15, hc16, H⟩ := bind_some H
    refine ls_callb (fid := 22) (vals := #[.slice x14.1 t12.length x14.2]) (X := Unit) (fun x => .agg ⟨en (Value.int .u8) t15.1⟩) (fun x => stl []) [] [19] [] [Ck.sl (Ec.int 5 .u8) x14.1 x14.2 t12] 20 rfl rfl (by kernel_rfl) (fun w => by kernel_rfl) trivial ⟨by exact rfl, trivial⟩ (by decide) (fun w hs hb => sha_Sum.calls k x14.1 x14.2 t12 t15 (lent b w [] [Ck.sl (Ec.int 5 .u8) x14.1 x14.2 t12]) hb (hs.ror (k := 19) (by exact rfl) (.head _)) (hs.cap (k := 19) (by exact rfl)) hc16) ?_
    intro x17
    refine ls_new rfl rfl (by kernel_rfl) 20 (fun g => .pointer (some ⟨g, 0, none⟩)) (.cells ⟨en (Value.int .u8) (vrep 32 (0 : Int)).1⟩ 23) (fun w => by kernel_rfl) ?_
    intro g18
    refine ls_storec (g := g18) (off := 0) (v := .agg ⟨en (Value.int .u8) t15.1⟩) (vs := en (Value.int .u8) t15.1) (cs := en (Value.int .u8) (vrep 32 (0 : Int)).1) (ty := 23) 20 rfl rfl rfl (by kernel_rfl) (by kernel_rfl) (by kernel_rfl) (by exact rfl) (by kernel_rfl) (len_en _ t15) (one_en (fun _ => rfl) _) (hl_of (Sub4.all _) (len_eq (len_en _ t15) (len_en _ (vrep 32 (0 : Int))))) (cs' := en (Value.int .u8) t15.1) (splc_all (len_eq (len_en _ t15) (len_en _ (vrep 32 (0 : Int))))) ?_
    refine ls_end ?_
    refine qn_then ?_
    refine cs_seq ?_
    refine cs_region (l := [_, _, _, _, _]) ?_
    refine ls_val (v := .func (.func 23) #[] #[.pointer (some ⟨g2, 0, none⟩)]) rfl rfl (by kernel_rfl) (fun w => by kernel_rfl) ?_
    refine ls_val (v := .slice (some ⟨g18, 0, none⟩) t15.1.length 32) rfl rfl (by kernel_rfl) (fun w => by rw [show t15.1.length = 32 from t15.2]; kernel_rfl) ?_
    obtain ⟨t19, hc20, H⟩ := bind_some H
    refine ls_callb (fid := 23) (vals := #[.int .u8 (92 : Int), .slice (some ⟨g18, 0, none⟩) t15.1.length 32, .pointer (some ⟨g2, 0, none⟩)]) (X := (Option Addr × Nat)) (fun x => .slice x.1 t19.length x.2) (fun x => stl [Ck.var 39 g2 (en (Value.int .u8) y10.1), Ck.sl (Ec.int 5 .u8) x.1 x.2 t19]) [1] [20] [Ck.var 39 g2 (en (Value.int .u8) y10.1)] [Ck.var 23 g18 (en (Value.int .u8) t15.1)] 21 rfl rfl (by kernel_rfl) (fun w => by kernel_rfl) ⟨by exact rfl, trivial⟩ ⟨by exact rfl, trivial⟩ (by decide) (fun w hs hb => hmac_Mac_1.calls k (92 : Int) (some ⟨g18, 0, none⟩) 32 t15.1 g2 y10 t19 (lent b w [Ck.var 39 g2 (en (Value.int .u8) y10.1)] [Ck.var 23 g18 (en (Value.int .u8) t15.1)]) hb (Rd.ror (Rd.ofen (t := 5) (hs.vars (k := 20) (by exact rfl) (Sub4.all _))) (.head _) Ck.var_key) (Nat.le_of_eq t15.2) hc20) ?_
    intro x21
    obtain ⟨t22, hc23, H⟩ := bind_some H
    refine ls_callb (fid := 22) (vals := #[.slice x21.1 t19.length x21.2]) (X := Unit) (fun x => .agg ⟨en (Value.int .u8) t22.1⟩) (fun x => stl []) [] [21] [] [Ck.sl (Ec.int 5 .u8) x21.1 x21.2 t19] 22 rfl rfl (by kernel_rfl) (fun w => by kernel_rfl) trivial ⟨by exact rfl, trivial⟩ (by decide) (fun w hs hb => sha_Sum.calls k x21.1 x21.2 t19 t22 (lent b w [] [Ck.sl (Ec.int 5 .u8) x21.1 x21.2 t19]) hb (hs.ror (k := 21) (by exact rfl) (.head _)) (hs.cap (k := 21) (by exact rfl)) hc23) ?_
    intro x24
    refine ls_storec (g := g1) (off := 0) (v := .agg ⟨en (Value.int .u8) t22.1⟩) (vs := en (Value.int .u8) t22.1) (cs := en (Value.int .u8) (vrep 32 (0 : Int)).1) (ty := 23) 0 rfl rfl rfl (by kernel_rfl) (by kernel_rfl) (by kernel_rfl) (by exact rfl) (by kernel_rfl) (len_en _ t22) (one_en (fun _ => rfl) _) (hl_of (Sub4.all _) (len_eq (len_en _ t22) (len_en _ (vrep 32 (0 : Int))))) (cs' := en (Value.int .u8) t22.1) (splc_all (len_eq (len_en _ t22) (len_en _ (vrep 32 (0 : Int))))) ?_
    refine ls_end ?_
    refine qn_then ?_
    refine cs_ret' ?_
    obtain rfl := Option.some.inj H
    refine qr_res (rs := [_]) rfl (fun w' hs => ⟨[.agg ⟨en (Value.int .u8) t22.1⟩], (.cell (by kernel_rfl) (run_cellres (by kernel_rfl) (by kernel_rfl) (len_en _ t22) (hs.holds 0 _ (by exact rfl))) (.nil)), (), rfl, hs.pick (ts := []) (cs := []) trivial (by decide)⟩)
  · replace H := ite_f q3 H
    refine cs_know (c := false) (dec_f q3) 11 (by kernel_rfl) ?_
    refine cs_false (by kernel_rfl) ?_
    refine cs_region (l := [_, _, _]) ?_
    refine ls_val (v := .slice (some ⟨g2, 0, none⟩) (vrep 64 (0 : Int)).1.length 64) rfl rfl (by kernel_rfl) (fun w => by rw [show (vrep 64 (0 : Int)).1.length = 64 from (vrep 64 (0 : Int)).2]; kernel_rfl) ?_
    refine ls_val (v := .slice A0 l0.length c0) rfl rfl (by kernel_rfl) (fun w => by kernel_rfl) ?_
    obtain ⟨y25, hy26, H⟩ := lt_some H
    refine ls_copyv (Value.int .u8) (g := g2) (off := 0) (N := 64) (cx := 64) (B := A0) (cb := c0) (l := l0) (v := (vrep 64 (0 : Int))) (cs := en (Value.int .u8) (vrep 64 (0 : Int)).1) (ty := 39) (e := 5) 1 rfl rfl (by rw [show (vrep 64 (0 : Int)).1.length = 64 from (vrep 64 (0 : Int)).2]; kernel_rfl) (by kernel_rfl) (by exact rfl) (by kernel_rfl) (by kernel_rfl) (fun w hs => Rd.toen (t := 5) (hs.old R0)) (fun _ => rfl) (Sub4.all _) (cs' := en (Value.int .u8) (vcopy (vrep 64 (0 : Int)) l0).1) (splc_all (len_eq (len_en _ (vcopy (vrep 64 (0 : Int)) l0)) (len_en _ (vrep 64 (0 : Int))))) rfl (by kernel_rfl) ?_
    rw [hy26]
    refine ls_end ?_
    refine qn_then ?_
    refine cs_seq ?_
    refine cs_region (l := [_, _]) ?_
    refine ls_val (v := .func (.func 23) #[] #[.pointer (some ⟨g2, 0, none⟩)]) rfl rfl (by kernel_rfl) (fun w => by kernel_rfl) ?_
    refine ls_val (v := .func (.func 23) #[] #[.pointer (some ⟨g2, 0, none⟩)]) rfl rfl (by kernel_rfl) (fun w => by kernel_rfl) ?_
    refine ls_end ?_
    refine qn_then ?_
    refine cs_seq ?_
    refine cs_region (l := [_, _, _, _, _, _]) ?_
    refine ls_val (v := .func (.func 23) #[] #[.pointer (some ⟨g2, 0, none⟩)]) rfl rfl (by kernel_rfl) (fun w => by kernel_rfl) ?_
    refine ls_val (v := .slice A1 l1.length c1) rfl rfl (by kernel_rfl) (fun w => by kernel_rfl) ?_
    obtain ⟨t27, hc28, H⟩ := bind_some H
    refine ls_callb (fid := 23) (vals := #[.int .u8 (54 : Int), .slice A1 l1.length c1, .pointer (some ⟨g2, 0, none⟩)]) (X := (Option Addr × Nat)) (fun x => .slice x.1 t27.length x.2) (fun x => stl [Ck.var 39 g2 (en (Value.int .u8) y25.1), Ck.sl (Ec.int 5 .u8) x.1 x.2 t27]) [1] [] [Ck.var 39 g2 (en (Value.int .u8) y25.1)] [] 2 rfl rfl (by kernel_rfl) (fun w => by kernel_rfl) ⟨by exact rfl, trivial⟩ trivial (by decide) (fun w hs hb => hmac_Mac_1.calls k (54 : Int) A1 c1 l1 g2 y25 t27 (lent b w [Ck.var 39 g2 (en (Value.int .u8) y25.1)] []) hb (hs.ro R1 _ _) C1 hc28) ?_
    intro x29
    obtain ⟨t30, hc31, H⟩ := bind_some H
    refine ls_callb (fid := 22) (vals := #[.slice x29.1 t27.length x29.2]) (X := Unit) (fun x => .agg ⟨en (Value.int .u8) t30.1⟩) (fun x => stl []) [] [2] [] [Ck.sl (Ec.int 5 .u8) x29.1 x29.2 t27] 3 rfl rfl (by kernel_rfl) (fun w => by kernel_rfl) trivial ⟨by exact rfl, trivial⟩ (by decide) (fun w hs hb => sha_Sum.calls k x29.1 x29.2 t27 t30 (lent b w [] [Ck.sl (Ec.int 5 .u8) x29.1 x29.2 t27]) hb (hs.ror (k := 2) (by exact rfl) (.head _)) (hs.cap (k := 2) (by exact rfl)) hc31) ?_
    intro x32
    refine ls_new rfl rfl (by kernel_rfl) 3 (fun g => .pointer (some ⟨g, 0, none⟩)) (.cells ⟨en (Value.int .u8) (vrep 32 (0 : Int)).1⟩ 23) (fun w => by kernel_rfl) ?_
    intro g33
    refine ls_storec (g := g33) (off := 0) (v := .agg ⟨en (Value.int .u8) t30.1⟩) (vs := en (Value.int .u8) t30.1) (cs := en (Value.int .u8) (vrep 32 (0 : Int)).1) (ty := 23) 3 rfl rfl rfl (by kernel_rfl) (by kernel_rfl) (by kernel_rfl) (by exact rfl) (by kernel_rfl) (len_en _ t30) (one_en (fun _ => rfl) _) (hl_of (Sub4.all _) (len_eq (len_en _ t30) (len_en _ (vrep 32 (0 : Int))))) (cs' := en (Value.int .u8) t30.1) (splc_all (len_eq (len_en _ t30) (len_en _ (vrep 32 (0 : Int))))) ?_
    refine ls_end ?_
    refine qn_then ?_
    refine cs_seq ?_
    refine cs_region (l := [_, _, _, _, _]) ?_
    refine ls_val (v := .func (.func 23) #[] #[.pointer (some ⟨g2, 0, none⟩)]) rfl rfl (by kernel_rfl) (fun w => by kernel_rfl) ?_
    refine ls_val (v := .slice (some ⟨g33, 0, none⟩) t30.1.length 32) rfl rfl (by kernel_rfl) (fun w => by rw [show t30.1.length = 32 from t30.2]; kernel_rfl) ?_
    obtain ⟨t34, hc35, H⟩ := bind_some H
    refine ls_callb (fid := 23) (vals := #[.int .u8 (92 : Int), .slice (some ⟨g33, 0, none⟩) t30.1.length 32, .pointer (some ⟨g2, 0, none⟩)]) (X := (Option Addr × Nat)) (fun x => .slice x.1 t34.length x.2) (fun x => stl [Ck.var 39 g2 (en (Value.int .u8) y25.1), Ck.sl (Ec.int 5 .u8) x.1 x.2 t34]) [1] [3] [Ck.var 39 g2 (en (Value.int .u8) y25.1)] [Ck.var 23 g33 (en (Value.int .u8) t30.1)] 4 rfl rfl (by kernel_rfl) (fun w => by kernel_rfl) ⟨by exact rfl, trivial⟩ ⟨by exact rfl, trivial⟩ (by decide) (fun w hs hb => hmac_Mac_1.calls k (92 : Int) (some ⟨g33, 0, none⟩) 32 t30.1 g2 y25 t34 (lent b w [Ck.var 39 g2 (en (Value.int .u8) y25.1)] [Ck.var 23 g33 (en (Value.int .u8) t30.1)]) hb (Rd.ror (Rd.ofen (t := 5) (hs.vars (k := 3) (by exact rfl) (Sub4.all _))) (.head _) Ck.var_key) (Nat.le_of_eq t30.2) hc35) ?_
    intro x36
    obtain ⟨t37, hc38, H⟩ := bind_some H
    refine ls_callb (fid := 22) (vals := #[.slice x36.1 t34.length x36.2]) (X := Unit) (fun x => .agg ⟨en (Value.int .u8) t37.1⟩) (fun x => stl []) [] [4] [] [Ck.sl (Ec.int 5 .u8) x36.1 x36.2 t34] 5 rfl rfl (by kernel_rfl) (fun w => by kernel_rfl) trivial ⟨by exact rfl, trivial⟩ (by decide) (fun w hs hb => sha_Sum.calls k x36.1 x36.2 t34 t37 (lent b w [] [Ck.sl (Ec.int 5 .u8) x36.1 x36.2 t34]) hb (hs.ror (k := 4) (by exact rfl) (.head _)) (hs.cap (k := 4) (by exact rfl)) hc38) ?_
    intro x39
    refine ls_storec (g := g1) (off := 0) (v := .agg ⟨en (Value.int .u8) t37.1⟩) (vs := en (Value.int .u8) t37.1) (cs := en (Value.int .u8) (vrep 32 (0 : Int)).1) (ty := 23) 0 rfl rfl rfl (by kernel_rfl) (by kernel_rfl) (by kernel_rfl) (by exact rfl) (by kernel_rfl) (len_en _ t37) (one_en (fun _ => rfl) _) (hl_of (Sub4.all _) (len_eq (len_en _ t37) (len_en _ (vrep 32 (0 : Int))))) (cs' := en (Value.int .u8) t37.1) (splc_all (len_eq (len_en _ t37) (len_en _ (vrep 32 (0 : Int))))) ?_
    refine ls_end ?_
    refine qn_then ?_
    refine cs_ret' ?_
    obtain rfl := Option.some.inj H
    refine qr_res (rs := [_]) rfl (fun w' hs => ⟨[.agg ⟨en (Value.int .u8) t37.1⟩], (.cell (by kernel_rfl) (run_cellres (by kernel_rfl) (by kernel_rfl) (len_en _ t37) (hs.holds 0 _ (by exact rfl))) (.nil)), (), rfl, hs.pick (ts := []) (cs := []) trivial (by decide)⟩)

/-! ### shadowbox/hmac.Chain: function 13 -/
def hmac_Chain.lo1 (l1 : List ByteArray) : Nat → (List Int) → Int → Option ((List Int))
  | 0, _, _ => none
  | k1 + 1, l5_1, x14_1 => (if x14_1 < (l1.length : Int) then (if 0 ≤ x14_1 then lt (((l1).getD (x14_1).toNat ByteArray.empty)) fun y9 => (hmac_Mac.f k1 l5_1 (bl y9)).bind fun t14 => (hmac_Chain.lo1 l1 k1) t14.1 (IntKind.wrap .i64 (x14_1 + (1 : Int))) else none) else some l5_1)
def hmac_Chain.f (k : Nat) (l0 : List Int) (l1 : List ByteArray) : Option ((List Int)) :=
  (if (([] : List Int).length + l0.length) * 1 ≤ 140737488355328 then hmac_Chain.lo1 l1 k (([] : List Int) ++ l0) (0 : Int) else none)
set_option maxRecDepth 100000 in
set_option maxHeartbeats 4000000 in
theorem hmac_Chain.calls (k : Nat) (A0 : Option Addr) (c0 : Nat) (l0 : List Int) (A1 : Option Addr) (c1 : Nat) (l1 : List ByteArray) (r : (List Int)) (b : Bs) (hs0 : St b (stl []) b.w) (R0 : Ro b A0 (em (Ec.int 5 .u8) l0)) (C0 : l0.length ≤ c0) (R1 : Ro b A1 (em (Ec.str 9) l1)) (C1 : l1.length ≤ c1) (H : hmac_Chain.f k l0 l1 = some r) :
    Calls Try.prog 13 #[.slice A0 l0.length c0, .slice A1 l1.length c1] b.w fun e w' => ∃ x : (Option Addr × Nat), e = .returned (.slice x.1 r.length x.2) ∧ St b (stl [Ck.ro (Ec.int 5 .u8) x.1 x.2 r]) w' := by
  unfold hmac_Chain.f at H
  refine enterb (n := 25) Try.func13 rfl (by kernel_rfl) (by kernel_rfl) hs0 ?_
  refine cs_sub (s0) (sub_nil _) ?_
  refine cs_seq ?_
  refine cs_region (l := [_]) ?_
  refine ls_val (v := .slice none 0 0) rfl rfl (by kernel_rfl) (fun w => by kernel_rfl) ?_
  refine ls_end ?_
  refine qn_then ?_
  refine cs_seq ?_
  refine cs_region (l := [_, _, _, _]) ?_
  refine ls_lit (Ec.int 5 .u8) 0 rfl rfl (by kernel_rfl) ([] : List Int) (by exact of_decide_eq_true (by kernel_rfl)) (fun w => by kernel_rfl) ?_
  intro g1
  refine ls_val (v := .slice A0 l0.length c0) rfl rfl (by kernel_rfl) (fun w => by kernel_rfl) ?_
  obtain ⟨q2, H⟩ := ite_need H
  refine ls_app (Ec.int 5 .u8) (A := (some ⟨g1, 0, none⟩)) (c := ([] : List Int).length) (B := A0) (cb := c0) (z := (Value.int .u8 0)) (l := ([] : List Int)) (m := l0) (bytes := 1) 0 rfl rfl (by kernel_rfl) rfl (by kernel_rfl) (by exact rfl) (by kernel_rfl) (fun w hs => (hs.old R0)) (by kernel_rfl) (by kernel_rfl) rfl (by decide) q2 ?_
  intro xA3 xc4
  refine ls_val (v := .slice xA3 (([] : List Int) ++ l0).length xc4) rfl rfl (by kernel_rfl) (fun w => by kernel_rfl) ?_
  refine ls_end ?_
  refine qn_then ?_
  refine cs_seq ?_
  refine cs_seq ?_
  refine cs_region (l := [_, _, _]) ?_
  refine ls_val (v := .slice A1 l1.length c1) rfl rfl (by kernel_rfl) (fun w => by kernel_rfl) ?_
  refine ls_val (v := .int .i64 (l1.length : Int)) rfl rfl (by kernel_rfl) (fun w => by kernel_rfl) ?_
  refine ls_val (v := .int .i64 (0 : Int)) rfl rfl (by kernel_rfl) (fun w => by kernel_rfl) ?_
  refine ls_end ?_
  refine qn_then ?_
  refine cs_block ?_
  refine cs_toro (T := (Ec.int 5 .u8)) (A := xA3) (c := xc4) (l := (([] : List Int) ++ l0)) 0 1 (by exact rfl) ?_
  refine cs_sub (sput s0 1 (some (Ck.ro (Ec.int 5 .u8) xA3 xc4 (([] : List Int) ++ l0)))) (sub_put (by exact rfl) (sub_nil _)) ?_
  refine cs_loop (fun kk f S => ∃ (fR : Fr) (A5_1 : Option Addr) (c5_1 : Nat) (l5_1 : List Int) (x14_1 : Int), f = upd (upd (upd (upd fR 5 (.slice A5_1 l5_1.length c5_1)) 12 (.slice A1 l1.length c1)) 13 (.int .i64 (l1.length : Int))) 14 (.int .i64 x14_1) ∧ S = sput s0 1 (some (Ck.ro (Ec.int 5 .u8) A5_1 c5_1 l5_1)) ∧ hmac_Chain.lo1 l1 kk l5_1 x14_1 = some r) k ?_ ?_ ?_
  · exact ⟨_, xA3, xc4, (([] : List Int) ++ l0), (0 : Int), fr_next (fr_next (fr_next (fr_next (rfl) (by kernel_rfl)) (by kernel_rfl)) (by kernel_rfl)) (by kernel_rfl), rfl, H⟩
  · rintro f S ⟨fr1, A5_1, c5_1, l5_1, x14_1, rfl, rfl, H⟩; cases H
  · rintro k1 f S ⟨fr1, A5_1, c5_1, l5_1, x14_1, rfl, rfl, H⟩
    replace H : ((if x14_1 < (l1.length : Int) then (if 0 ≤ x14_1 then lt (((l1).getD (x14_1).toNat ByteArray.empty)) fun y9 => (hmac_Mac.f k1 l5_1 (bl y9)).bind fun t14 => (hmac_Chain.lo1 l1 k1) t14.1 (IntKind.wrap .i64 (x14_1 + (1 : Int))) else none) else some l5_1)) = some r := H
    refine cs_seq ?_
    refine cs_region (l := [_]) ?_
    refine ls_val (v := .bool (decide (x14_1 < (l1.length : Int)))) rfl rfl (by kernel_rfl) (fun w => by kernel_rfl) ?_
    refine ls_end ?_
    refine qn_then ?_
    refine cs_seq ?_
    by_cases q5 : x14_1 < (l1.length : Int)
    · replace H := ite_t q5 H
      refine cs_know (c := true) (dec_t q5) 15 (by kernel_rfl) ?_
      refine cs_true (by kernel_rfl) ?_
      refine cs_skip' ?_
      refine qn_then ?_
      refine cs_seq ?_
      refine cs_block ?_
      refine cs_seq ?_
      refine cs_region (l := [_, _, _]) ?_
      obtain ⟨q6, H⟩ := ite_need H
      obtain ⟨ad7, hA8⟩ := ido_at (T := (Ec.str 9)) (l := l1) (i := x14_1) R1 q6 q5
      refine ls_idxv (Ec.str 9) (A := A1) (c := c1) (l := l1) (k := .i64) (i := x14_1) (z := 1) (ad := ad7) rfl rfl (by kernel_rfl) hA8 rfl (by kernel_rfl) (by kernel_rfl) (by kernel_rfl) (by kernel_rfl) q6 q5 ?_
      obtain ⟨y9, hy10, H⟩ := lt_some H
      refine ls_load (a0 := (ad7.add ((x14_1).toNat * 1))) (v := .string ((l1).getD (x14_1).toNat ByteArray.empty)) (de := TypeDesc.string) rfl rfl (by kernel_rfl) rfl (by kernel_rfl) (by kernel_rfl) (by kernel_rfl) (fun w hs => (hs.old R1).at hA8 (em_sub (Ec.str 9) l1 (i := (x14_1).toNat) (by have h0 : (0 : Int) ≤ x14_1 := q6; have h1 : x14_1 < (l1.length : Int) := q5; omega))) ?_
      refine ls_ren 17 (v := .string ((l1).getD (x14_1).toNat ByteArray.empty)) (v' := .string y9) (by kernel_rfl) (by rw [hy10]) ?_
      refine ls_val (v := .string y9) rfl rfl (by kernel_rfl) (fun w => by kernel_rfl) ?_
      refine ls_end ?_
      refine qn_then ?_
      refine cs_seq ?_
      refine cs_region (l := [_, _, _, _, _, _]) ?_
      refine ls_val (v := .slice A5_1 l5_1.length c5_1) rfl rfl (by kernel_rfl) (fun w => by kernel_rfl) ?_
      refine ls_val (v := .string y9) rfl rfl (by kernel_rfl) (fun w => by kernel_rfl) ?_
      refine ls_bytes (u := .string) (e := 5) (s := y9) 2 rfl rfl (by kernel_rfl) rfl (by kernel_rfl) (by kernel_rfl) (by kernel_rfl) (by kernel_rfl) ?_
      intro g11 xc12 xC13
      obtain ⟨t14, hc15, H⟩ := bind_some H
      refine ls_callb (fid := 9) (vals := #[.slice A5_1 l5_1.length c5_1, .slice (some ⟨g11, 0, none⟩) (bl y9).length xc12]) (X := Unit) (fun x => .agg ⟨en (Value.int .u8) t14.1⟩) (fun x => stl []) [] [1, 2] [] [Ck.ro (Ec.int 5 .u8) A5_1 c5_1 l5_1, Ck.rs g11 (em (Ec.int 5 .u8) (bl y9))] 3 rfl rfl (by kernel_rfl) (fun w => by kernel_rfl) trivial ⟨by exact rfl, by exact rfl, trivial⟩ (by decide) (fun w hs hb => hmac_Mac.calls k1 A5_1 c5_1 l5_1 (some ⟨g11, 0, none⟩) xc12 (bl y9) t14 (lent b w [] [Ck.ro (Ec.int 5 .u8) A5_1 c5_1 l5_1, Ck.rs g11 (em (Ec.int 5 .u8) (bl y9))]) hb (hs.roror (k := 1) (by exact rfl) (.head _)) (hs.rocap (k := 1) (by exact rfl)) (Rd.ror (hs.rs (k := 2) (by exact rfl)) (.tail _ (.head _)) Ck.rs_key) xC13 hc15) ?_
      intro x16
      refine ls_new rfl rfl (by kernel_rfl) 3 (fun g => .pointer (some ⟨g, 0, none⟩)) (.cells ⟨en (Value.int .u8) (vrep 32 (0 : Int)).1⟩ 23) (fun w => by kernel_rfl) ?_
      intro g17
      refine ls_storec (g := g17) (off := 0) (v := .agg ⟨en (Value.int .u8) t14.1⟩) (vs := en (Value.int .u8) t14.1) (cs := en (Value.int .u8) (vrep 32 (0 : Int)).1) (ty := 23) 3 rfl rfl rfl (by kernel_rfl) (by kernel_rfl) (by kernel_rfl) (by exact rfl) (by kernel_rfl) (len_en _ t14) (one_en (fun _ => rfl) _) (hl_of (Sub4.all _) (len_eq (len_en _ t14) (len_en _ (vrep 32 (0 : Int))))) (cs' := en (Value.int .u8) t14.1) (splc_all (len_eq (len_en _ t14) (len_en _ (vrep 32 (0 : Int))))) ?_
      refine ls_end ?_
      refine qn_then ?_
      refine cs_region (l := [_, _]) ?_
      refine ls_val (v := .slice (some ⟨g17, 0, none⟩) t14.1.length 32) rfl rfl (by kernel_rfl) (fun w => by rw [show t14.1.length = 32 from t14.2]; kernel_rfl) ?_
      refine ls_val (v := .slice (some ⟨g17, 0, none⟩) t14.1.length 32) rfl rfl (by kernel_rfl) (fun w => by kernel_rfl) ?_
      refine ls_end ?_
      refine qn_block ?_
      refine qn_then ?_
      refine cs_region (l := [_, _]) ?_
      refine ls_val (v := .int .i64 (IntKind.wrap .i64 (x14_1 + (1 : Int)))) rfl rfl (by kernel_rfl) (fun w => by kernel_rfl) ?_
      refine ls_val (v := .int .i64 (IntKind.wrap .i64 (x14_1 + (1 : Int)))) rfl rfl (by kernel_rfl) (fun w => by kernel_rfl) ?_
      refine ls_end ?_
      refine qn_torov (Ec.int 5 .u8) t14.1 32 3 1 (by exact rfl) (by rw [em_int]; exact (Sub4.all _)) (Nat.le_of_eq t14.2) ?_
      refine qn_again k1 (sput s0 1 (some (Ck.ro (Ec.int 5 .u8) (some ⟨g17, 0, none⟩) 32 t14.1))) (Nat.le_refl _) ⟨_, (some ⟨g17, 0, none⟩), 32, t14.1, (IntKind.wrap .i64 (x14_1 + (1 : Int))), fr_next (fr_next (fr_next (fr_next (rfl) (by kernel_rfl)) (by kernel_rfl)) (by kernel_rfl)) (by kernel_rfl), rfl, H⟩ (sub_put (by exact rfl) (sub_nil _))
    · replace H := ite_f q5 H
      refine cs_know (c := false) (dec_f q5) 15 (by kernel_rfl) ?_
      refine cs_false (by kernel_rfl) ?_
      refine cs_exit' ?_
      refine qx_then ?_
      refine qx_then ?_
      refine qx_same ?_
      refine qn_then ?_
      refine cs_seq ?_
      refine cs_region (l := [_, _]) ?_
      refine ls_val (v := .slice A5_1 l5_1.length c5_1) rfl rfl (by kernel_rfl) (fun w => by kernel_rfl) ?_
      refine ls_val (v := .slice A5_1 l5_1.length c5_1) rfl rfl (by kernel_rfl) (fun w => by kernel_rfl) ?_
      refine ls_end ?_
      refine qn_then ?_
      refine cs_ret' ?_
      obtain rfl := Option.some.inj H
      refine qr_res (rs := [_]) rfl (fun w' hs => ⟨[.slice A5_1 l5_1.length c5_1], (res_tmp (by kernel_rfl) (.nil)), (A5_1, c5_1), rfl, hs.pick (ts := [1]) (cs := [Ck.ro (Ec.int 5 .u8) A5_1 c5_1 l5_1]) ⟨by exact rfl, trivial⟩ (by decide)⟩)

end Go.Proofs.Ytnkcadofhhcfaaa.G
