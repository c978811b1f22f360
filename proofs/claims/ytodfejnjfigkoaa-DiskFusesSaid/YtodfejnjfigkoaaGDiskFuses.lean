/- Printed by a program of this session (sz.py): plain functions, and walks that show that the code comes to them; no condition. -/
import Derived.Test.YtodfejnjfigkoaaProg
import Derived.Test.YtodfejnjfigkoaaTy
import Derived.Test.YtodfejnjfigkoaaG0
set_option linter.unusedVariables false
set_option linter.unusedSimpArgs false
namespace Go.Proofs.Ytodfejnjfigkoaa.G
open Go Go.RowKit Go.Proofs.Ytodfejnjfigkoaa.Sx

/-! ### shadowbox/shadowboxlaw05.DiskFuses: function 3 -/
def shadowboxlaw05_DiskFuses.lo3 (a0 : Int) (a1 : Int) (x7_2 : Int) (m0_2 : (Unit × Unit × Bool × Int × Bool)) (m1_2 : (List (Int × (Vc Int 512)) × List (Vc Int 512))) : Nat → Int → Int → Option (Bool)
  | 0, _, _ => none
  | k3 + 1, x10_3, x11_3 => (if x11_3 < (bits .and .i64 a1 (63 : Int)) then (if (Int.tmod x11_3 (3 : Int)) = (2 : Int) then lt (IntKind.wrap .i64 ((IntKind.wrap .i64 (x10_3 + (1 : Int))) + (1 : Int))) fun y9 => (shadowboxlaw05_DiskFuses.lo3 a0 a1 x7_2 m0_2 m1_2 k3) y9 (IntKind.wrap .i64 (x11_3 + (1 : Int))) else (shadowboxlaw05_DiskFuses.lo3 a0 a1 x7_2 m0_2 m1_2 k3) (IntKind.wrap .i64 (x10_3 + (1 : Int))) (IntKind.wrap .i64 (x11_3 + (1 : Int)))) else (if x10_3 > (bits .and .i64 a0 (31 : Int)) then (disk_Disk_Fuse.f k3 ((), (), m0_2.2.2.1, m0_2.2.2.2.1, m0_2.2.2.2.2) m1_2 (5 : Int)).bind fun t12 => (disk_Disk_Flush.f k3 ((), (), t12.2.2.1, t12.2.2.2.1, t12.2.2.2.2) m1_2).bind fun t15 => (if t15.1 = (17 : Int) then some (decide (x7_2 ≤ (bits .and .i64 a0 (31 : Int)))) else some false) else some (decide (x7_2 = (bits .and .i64 a1 (63 : Int))))))
def shadowboxlaw05_DiskFuses.jo2 (k : Nat) (a0 : Int) (a1 : Int) (x7_2 : Int) (m0_2 : (Unit × Unit × Bool × Int × Bool)) (m1_2 : (List (Int × (Vc Int 512)) × List (Vc Int 512))) : Option (Bool) := shadowboxlaw05_DiskFuses.lo3 a0 a1 x7_2 m0_2 m1_2 k (0 : Int) (0 : Int)
def shadowboxlaw05_DiskFuses.jo5 (x7_4 : Int) (x8_4 : Int) (m0_4 : (Unit × Unit × Bool × Int × Bool)) (m1_4 : (List (Int × (Vc Int 512)) × List (Vc Int 512))) (k4 : Nat) (lo4 : Int → Int → ((Unit × Unit × Bool × Int × Bool)) → ((List (Int × (Vc Int 512)) × List (Vc Int 512))) → Option (Bool)) : Option (Bool) := (disk_Disk_Write.f k4 ((), (), m0_4.2.2.1, m0_4.2.2.2.1, m0_4.2.2.2.2) m1_4 (bits .and .i64 x8_4 (3 : Int)) ([IntKind.wrap .u8 x8_4])).bind fun t20 => (if (Int.tmod x8_4 (3 : Int)) = (2 : Int) then (disk_Disk_Flush.f k4 ((), (), t20.2.1.2.2.1, t20.2.1.2.2.2.1, t20.2.1.2.2.2.2) t20.2.2).bind fun t24 => (if t24.1 = (0 : Int) then (disk_Disk_Write.f k4 ((), (), t24.2.1.2.2.1, t24.2.1.2.2.2.1, t24.2.1.2.2.2.2) t24.2.2 (9 : Int) ([] : List Int)).bind fun t28 => (if t28.1 = (2 : Int) then (if (513 : Int) ≤ (513 : Int) then (if (513 : Int) ≤ 140737488355328 then (if (1 : Int) * (513 : Int) ≤ 281474976710656 then (disk_Disk_Write.f k4 ((), (), t28.2.1.2.2.1, t28.2.1.2.2.2.1, t28.2.1.2.2.2.2) t28.2.2 (0 : Int) (List.replicate ((513 : Int)).toNat (0 : Int))).bind fun t36 => (if t36.1 = (3 : Int) then lo4 (IntKind.wrap .i64 (x7_4 + (1 : Int))) (IntKind.wrap .i64 (x8_4 + (1 : Int))) ((), (), t36.2.1.2.2.1, t36.2.1.2.2.2.1, t36.2.1.2.2.2.2) t36.2.2 else some false) else none) else none) else none) else some false) else (if t24.1 = (17 : Int) then (disk_Disk_Write.f k4 ((), (), t24.2.1.2.2.1, t24.2.1.2.2.2.1, t24.2.1.2.2.2.2) t24.2.2 (9 : Int) ([] : List Int)).bind fun t41 => (if t41.1 = (2 : Int) then (if (513 : Int) ≤ (513 : Int) then (if (513 : Int) ≤ 140737488355328 then (if (1 : Int) * (513 : Int) ≤ 281474976710656 then (disk_Disk_Write.f k4 ((), (), t41.2.1.2.2.1, t41.2.1.2.2.2.1, t41.2.1.2.2.2.2) t41.2.2 (0 : Int) (List.replicate ((513 : Int)).toNat (0 : Int))).bind fun t49 => (if t49.1 = (3 : Int) then lo4 x7_4 (IntKind.wrap .i64 (x8_4 + (1 : Int))) ((), (), t49.2.1.2.2.1, t49.2.1.2.2.2.1, t49.2.1.2.2.2.2) t49.2.2 else some false) else none) else none) else none) else some false) else some false)) else (if t20.1 = (0 : Int) then (disk_Disk_Write.f k4 ((), (), t20.2.1.2.2.1, t20.2.1.2.2.2.1, t20.2.1.2.2.2.2) t20.2.2 (9 : Int) ([] : List Int)).bind fun t54 => (if t54.1 = (2 : Int) then (if (513 : Int) ≤ (513 : Int) then (if (513 : Int) ≤ 140737488355328 then (if (1 : Int) * (513 : Int) ≤ 281474976710656 then (disk_Disk_Write.f k4 ((), (), t54.2.1.2.2.1, t54.2.1.2.2.2.1, t54.2.1.2.2.2.2) t54.2.2 (0 : Int) (List.replicate ((513 : Int)).toNat (0 : Int))).bind fun t62 => (if t62.1 = (3 : Int) then lo4 (IntKind.wrap .i64 (x7_4 + (1 : Int))) (IntKind.wrap .i64 (x8_4 + (1 : Int))) ((), (), t62.2.1.2.2.1, t62.2.1.2.2.2.1, t62.2.1.2.2.2.2) t62.2.2 else some false) else none) else none) else none) else some false) else (if t20.1 = (17 : Int) then (disk_Disk_Write.f k4 ((), (), t20.2.1.2.2.1, t20.2.1.2.2.2.1, t20.2.1.2.2.2.2) t20.2.2 (9 : Int) ([] : List Int)).bind fun t67 => (if t67.1 = (2 : Int) then (if (513 : Int) ≤ (513 : Int) then (if (513 : Int) ≤ 140737488355328 then (if (1 : Int) * (513 : Int) ≤ 281474976710656 then (disk_Disk_Write.f k4 ((), (), t67.2.1.2.2.1, t67.2.1.2.2.2.1, t67.2.1.2.2.2.2) t67.2.2 (0 : Int) (List.replicate ((513 : Int)).toNat (0 : Int))).bind fun t75 => (if t75.1 = (3 : Int) then lo4 x7_4 (IntKind.wrap .i64 (x8_4 + (1 : Int))) ((), (), t75.2.1.2.2.1, t75.2.1.2.2.2.1, t75.2.1.2.2.2.2) t75.2.2 else some false) else none) else none) else none) else some false) else some false)))
def shadowboxlaw05_DiskFuses.lo4 (a1 : Int) (jo2 : Int → ((Unit × Unit × Bool × Int × Bool)) → ((List (Int × (Vc Int 512)) × List (Vc Int 512))) → Option (Bool)) : Nat → Int → Int → ((Unit × Unit × Bool × Int × Bool)) → ((List (Int × (Vc Int 512)) × List (Vc Int 512))) → Option (Bool)
  | 0, _, _, _, _ => none
  | k4 + 1, x7_4, x8_4, m0_4, m1_4 => (if x8_4 < (bits .and .i64 a1 (63 : Int)) then (shadowboxlaw05_DiskFuses.jo5 x7_4 x8_4 m0_4 m1_4 k4 (shadowboxlaw05_DiskFuses.lo4 a1 jo2 k4)) else jo2 x7_4 ((), (), m0_4.2.2.1, m0_4.2.2.2.1, m0_4.2.2.2.2) m1_4)
def shadowboxlaw05_DiskFuses.jo1 (k : Nat) (a0 : Int) (a1 : Int) (t1 : ((Unit × Unit × Bool × Int × Bool) × (List (Int × (Vc Int 512)) × List (Vc Int 512))) × Int) : Option (Bool) := (disk_Disk_Fuse.f k ((), (), t1.1.1.2.2.1, t1.1.1.2.2.2.1, t1.1.1.2.2.2.2) t1.1.2 (bits .and .i64 a0 (31 : Int))).bind fun t4 => shadowboxlaw05_DiskFuses.lo4 a1 (shadowboxlaw05_DiskFuses.jo2 k a0 a1) k (0 : Int) (0 : Int) ((), (), t4.2.2.1, t4.2.2.2.1, t4.2.2.2.2) t1.1.2
def shadowboxlaw05_DiskFuses.f (k : Nat) (a0 : Int) (a1 : Int) : Option (Bool) :=
  (disk_New.f k (4 : Int)).bind fun t1 => (if t1.2 = (0 : Int) then (shadowboxlaw05_DiskFuses.jo1 k a0 a1 t1) else some false)
set_option maxRecDepth 100000 in
set_option maxHeartbeats 4000000 in
theorem shadowboxlaw05_DiskFuses.calls (k : Nat) (a0 : Int) (a1 : Int) (r : Bool) (b : Bs) (hs0 : St b (stl []) b.w) (H : shadowboxlaw05_DiskFuses.f k a0 a1 = some r) :
    Calls Try.prog 3 #[.int .i64 a0, .int .i64 a1] b.w fun e w' => ∃ x : Unit, e = .returned (.bool r) ∧ St b (stl []) w' := by
  unfold shadowboxlaw05_DiskFuses.f at H
  refine enterb (n := 89) Try.func3 rfl (by kernel_rfl) (by kernel_rfl) hs0 ?_
  refine cs_sub (s0) (sub_nil _) ?_
  refine cs_seq ?_
  refine cs_region (l := [_]) ?_
  refine ls_val (v := .bool false) rfl rfl (by kernel_rfl) (fun w => by kernel_rfl) ?_
  refine ls_end ?_
  refine qn_then ?_
  refine cs_seq ?_
  refine cs_region (l := [_, _, _, _, _, _]) ?_
  refine ls_val (v := .int .i64 a0) rfl rfl (by kernel_rfl) (fun w => by kernel_rfl) ?_
  refine ls_val (v := .int .i64 (bits .and .i64 a0 (31 : Int))) rfl rfl (by kernel_rfl) (fun w => by kernel_rfl) ?_
  refine ls_val (v := .int .i64 a1) rfl rfl (by kernel_rfl) (fun w => by kernel_rfl) ?_
  refine ls_val (v := .int .i64 (bits .and .i64 a1 (63 : Int))) rfl rfl (by kernel_rfl) (fun w => by kernel_rfl) ?_
  refine ls_val (v := .int .i64 (bits .and .i64 a0 (31 : Int))) rfl rfl (by kernel_rfl) (fun w => by kernel_rfl) ?_
  refine ls_val (v := .int .i64 (bits .and .i64 a1 (63 : Int))) rfl rfl (by kernel_rfl) (fun w => by kernel_rfl) ?_
  refine ls_end ?_
  refine qn_then ?_
  refine cs_seq ?_
  refine cs_region (l := [_, _, _, _, _, _]) ?_
  obtain ⟨t1, hc2, H⟩ := bind_some H
  refine ls_callb (fid := 6) (vals := #[.int .i64 (4 : Int)]) (X := Nat × Nat × Nat × Nat × Nat) (fun x => .tuple #[.pointer (some ⟨x.1, 0, none⟩), .int .i64 t1.2]) (fun x => stl [Ck.var 34 x.1 (([Value.slice (some ⟨x.2.2.1, 0, none⟩) x.2.2.2.2 x.2.2.2.1] ++ ([Value.map (some x.2.1)] ++ ([Value.bool t1.1.1.2.2.1] ++ ([Value.int .i64 t1.1.1.2.2.2.1] ++ [Value.bool t1.1.1.2.2.2.2]))))), Ck.mr T48 x.2.1 x.2.2.1 x.2.2.2.1 x.2.2.2.2 t1.1.2]) [] [] [] [] 0 rfl rfl (by kernel_rfl) (fun w => by kernel_rfl) trivial trivial (by decide) (fun w hs hb => disk_New.calls k (4 : Int) t1 (lent b w [] []) hb  hc2) ?_
  intro x3
  refine ls_val (v := .tuple #[.pointer (some ⟨x3.1, 0, none⟩), .int .i64 t1.2]) rfl rfl (by kernel_rfl) (fun w => by kernel_rfl) ?_
  refine ls_val (v := .pointer (some ⟨x3.1, 0, none⟩)) rfl rfl (by kernel_rfl) (fun w => by kernel_rfl) ?_
  refine ls_val (v := .int .i64 t1.2) rfl rfl (by kernel_rfl) (fun w => by kernel_rfl) ?_
  refine ls_val (v := .pointer (some ⟨x3.1, 0, none⟩)) rfl rfl (by kernel_rfl) (fun w => by kernel_rfl) ?_
  refine ls_val (v := .int .i64 t1.2) rfl rfl (by kernel_rfl) (fun w => by kernel_rfl) ?_
  refine ls_end ?_
  refine qn_then ?_
  refine cs_cut (fun f S => ∃ (fR : Fr), f = upd (upd (upd fR 0 (.int .i64 (bits .and .i64 a0 (31 : Int)))) 1 (.int .i64 (bits .and .i64 a1 (63 : Int)))) 5 (.pointer (some ⟨x3.1, 0, none⟩)) ∧ S = sput (sput s0 0 (some (Ck.var 34 x3.1 (([Value.slice (some ⟨x3.2.2.1, 0, none⟩) x3.2.2.2.2 x3.2.2.2.1] ++ ([Value.map (some x3.2.1)] ++ ([Value.bool t1.1.1.2.2.1] ++ ([Value.int .i64 t1.1.1.2.2.2.1] ++ [Value.bool t1.1.1.2.2.2.2])))))))) 1 (some (Ck.mr T48 x3.2.1 x3.2.2.1 x3.2.2.2.1 x3.2.2.2.2 t1.1.2)) ∧ shadowboxlaw05_DiskFuses.jo1 k a0 a1 t1 = some r) ?_ ?_
  · skip
    refine cs_seq ?_
    refine cs_region (l := [_, _, _, _, _, _]) ?_
    refine ls_val (v := .int .i64 t1.2) rfl rfl (by kernel_rfl) (fun w => by kernel_rfl) ?_
    refine ls_val (v := .bool (!decide (t1.2 = (0 : Int)))) rfl rfl (by kernel_rfl) (fun w => by kernel_rfl) ?_
    refine ls_val (v := .bool (!decide (t1.2 = (0 : Int)))) rfl rfl (by kernel_rfl) (fun w => by kernel_rfl) ?_
    by_cases q80 : t1.2 = (0 : Int)
    · replace H := ite_t q80 H
      refine ls_know (c := false) (congrArg Bool.not (dec_t q80)) 22 (by kernel_rfl) ?_
      refine ls_on (j := 2) (t := 22) (b := false) rfl rfl (by kernel_rfl) (by kernel_rfl) ?_
      refine ls_val (v := .pointer (some ⟨x3.1, 0, none⟩)) rfl rfl (by kernel_rfl) (fun w => by kernel_rfl) ?_
      refine ls_on (j := 2) (t := 22) (b := false) rfl rfl (by kernel_rfl) (by kernel_rfl) ?_
      refine ls_val (v := .bool false) rfl rfl (by kernel_rfl) (fun w => by kernel_rfl) ?_
      refine ls_val (v := .bool false) rfl rfl (by kernel_rfl) (fun w => by kernel_rfl) ?_
      refine ls_end ?_
      refine qn_then ?_
      refine cs_false (by kernel_rfl) ?_
      refine cs_skip' ?_
      refine qn_meet (sput (sput s0 0 (some (Ck.var 34 x3.1 (([Value.slice (some ⟨x3.2.2.1, 0, none⟩) x3.2.2.2.2 x3.2.2.2.1] ++ ([Value.map (some x3.2.1)] ++ ([Value.bool t1.1.1.2.2.1] ++ ([Value.int .i64 t1.1.1.2.2.2.1] ++ [Value.bool t1.1.1.2.2.2.2])))))))) 1 (some (Ck.mr T48 x3.2.1 x3.2.2.1 x3.2.2.2.1 x3.2.2.2.2 t1.1.2))) ⟨_, fr_next (fr_next (fr_next (rfl) (by kernel_rfl)) (by kernel_rfl)) (by kernel_rfl), rfl, H⟩ (sub_put (by exact rfl) (sub_put (by exact rfl) (sub_nil _)))
    · replace H := ite_f q80 H
      refine ls_know (c := true) (congrArg Bool.not (dec_f q80)) 22 (by kernel_rfl) ?_
      refine ls_off (j := 2) (t := 22) (b := false) (c := true) rfl rfl (by kernel_rfl) (by kernel_rfl) rfl rfl (by kernel_rfl) ?_
      refine ls_off (j := 2) (t := 22) (b := false) (c := true) rfl rfl (by kernel_rfl) (by kernel_rfl) rfl rfl (by kernel_rfl) ?_
      refine ls_val (v := .bool true) rfl rfl (by kernel_rfl) (fun w => by kernel_rfl) ?_
      refine ls_end ?_
      refine qn_then ?_
      refine cs_true (by kernel_rfl) ?_
      refine cs_seq ?_
      refine cs_region (l := [_]) ?_
      refine ls_val (v := .bool false) rfl rfl (by kernel_rfl) (fun w => by kernel_rfl) ?_
      refine ls_end ?_
      refine qn_then ?_
      refine cs_ret' ?_
      refine qr_then ?_
      obtain rfl := Option.some.inj H
      refine qr_res (rs := [_]) rfl (fun w' hs => ⟨[.bool false], (res_tmp (by kernel_rfl) (.nil)), (), rfl, hs.pick (ts := []) (cs := []) trivial (by decide)⟩)
  · rintro f S ⟨fr1, rfl, rfl, H⟩
    replace H : ((disk_Disk_Fuse.f k ((), (), t1.1.1.2.2.1, t1.1.1.2.2.2.1, t1.1.1.2.2.2.2) t1.1.2 (bits .and .i64 a0 (31 : Int))).bind fun t4 => shadowboxlaw05_DiskFuses.lo4 a1 (shadowboxlaw05_DiskFuses.jo2 k a0 a1) k (0 : Int) (0 : Int) ((), (), t4.2.2.1, t4.2.2.2.1, t4.2.2.2.2) t1.1.2) = some r := H
    refine cs_seq ?_
    refine cs_region (l := [_, _, _]) ?_
    refine ls_val (v := .pointer (some ⟨x3.1, 0, none⟩)) rfl rfl (by kernel_rfl) (fun w => by kernel_rfl) ?_
    refine ls_val (v := .int .i64 (bits .and .i64 a0 (31 : Int))) rfl rfl (by kernel_rfl) (fun w => by kernel_rfl) ?_
    obtain ⟨t4, hc5, H⟩ := bind_some H
    refine ls_callb (fid := 7) (vals := #[.pointer (some ⟨x3.1, 0, none⟩), .int .i64 (bits .and .i64 a0 (31 : Int))]) (X := Unit) (fun x => .tuple #[]) (fun x => stl [Ck.var 34 x3.1 (([Value.slice (some ⟨x3.2.2.1, 0, none⟩) x3.2.2.2.2 x3.2.2.2.1] ++ ([Value.map (some x3.2.1)] ++ ([Value.bool t4.2.2.1] ++ ([Value.int .i64 t4.2.2.2.1] ++ [Value.bool t4.2.2.2.2]))))), Ck.mr T48 x3.2.1 x3.2.2.1 x3.2.2.2.1 x3.2.2.2.2 t1.1.2]) [0, 1] [] [Ck.var 34 x3.1 (([Value.slice (some ⟨x3.2.2.1, 0, none⟩) x3.2.2.2.2 x3.2.2.2.1] ++ ([Value.map (some x3.2.1)] ++ ([Value.bool t1.1.1.2.2.1] ++ ([Value.int .i64 t1.1.1.2.2.2.1] ++ [Value.bool t1.1.1.2.2.2.2]))))), Ck.mr T48 x3.2.1 x3.2.2.1 x3.2.2.2.1 x3.2.2.2.2 t1.1.2] [] 2 rfl rfl (by kernel_rfl) (fun w => by kernel_rfl) ⟨by exact rfl, by exact rfl, trivial⟩ trivial (by decide) (fun w hs hb => disk_Disk_Fuse.calls k x3.1 x3.2.2.1 x3.2.2.2.2 x3.2.2.2.1 x3.2.1 ((), (), t1.1.1.2.2.1, t1.1.1.2.2.2.1, t1.1.1.2.2.2.2) t1.1.2 (bits .and .i64 a0 (31 : Int)) t4 (lent b w [Ck.var 34 x3.1 (([Value.slice (some ⟨x3.2.2.1, 0, none⟩) x3.2.2.2.2 x3.2.2.2.1] ++ ([Value.map (some x3.2.1)] ++ ([Value.bool t1.1.1.2.2.1] ++ ([Value.int .i64 t1.1.1.2.2.2.1] ++ [Value.bool t1.1.1.2.2.2.2]))))), Ck.mr T48 x3.2.1 x3.2.2.1 x3.2.2.2.1 x3.2.2.2.2 t1.1.2] []) hb  hc5) ?_
    intro x6
    refine ls_end ?_
    refine qn_then ?_
    refine cs_seq ?_
    refine cs_region (l := [_]) ?_
    refine ls_val (v := .int .i64 (0 : Int)) rfl rfl (by kernel_rfl) (fun w => by kernel_rfl) ?_
    refine ls_end ?_
    refine qn_then ?_
    refine cs_cut (fun f S => ∃ (fR : Fr) (x7_2 : Int) (m0_2 : (Unit × Unit × Bool × Int × Bool)) (m1_2 : (List (Int × (Vc Int 512)) × List (Vc Int 512))), f = upd (upd (upd (upd fR 0 (.int .i64 (bits .and .i64 a0 (31 : Int)))) 1 (.int .i64 (bits .and .i64 a1 (63 : Int)))) 5 (.pointer (some ⟨x3.1, 0, none⟩))) 7 (.int .i64 x7_2) ∧ S = sput (sput s0 0 (some (Ck.var 34 x3.1 (([Value.slice (some ⟨x3.2.2.1, 0, none⟩) x3.2.2.2.2 x3.2.2.2.1] ++ ([Value.map (some x3.2.1)] ++ ([Value.bool m0_2.2.2.1] ++ ([Value.int .i64 m0_2.2.2.2.1] ++ [Value.bool m0_2.2.2.2.2])))))))) 1 (some (Ck.mr T48 x3.2.1 x3.2.2.1 x3.2.2.2.1 x3.2.2.2.2 m1_2)) ∧ shadowboxlaw05_DiskFuses.jo2 k a0 a1 x7_2 m0_2 m1_2 = some r) ?_ ?_
    · skip
      refine cs_seq ?_
      refine cs_region (l := [_]) ?_
      refine ls_val (v := .int .i64 (0 : Int)) rfl rfl (by kernel_rfl) (fun w => by kernel_rfl) ?_
      refine ls_end ?_
      refine qn_then ?_
      refine cs_block ?_
      refine cs_sub (sput (sput s0 0 (some (Ck.var 34 x3.1 (([Value.slice (some ⟨x3.2.2.1, 0, none⟩) x3.2.2.2.2 x3.2.2.2.1] ++ ([Value.map (some x3.2.1)] ++ ([Value.bool t4.2.2.1] ++ ([Value.int .i64 t4.2.2.2.1] ++ [Value.bool t4.2.2.2.2])))))))) 1 (some (Ck.mr T48 x3.2.1 x3.2.2.1 x3.2.2.2.1 x3.2.2.2.2 t1.1.2))) (sub_put (by exact rfl) (sub_put (by exact rfl) (sub_nil _))) ?_
      refine cs_loop (fun kk f S => ∃ (fR : Fr) (x7_4 : Int) (x8_4 : Int) (m0_4 : (Unit × Unit × Bool × Int × Bool)) (m1_4 : (List (Int × (Vc Int 512)) × List (Vc Int 512))), f = upd (upd (upd (upd (upd fR 0 (.int .i64 (bits .and .i64 a0 (31 : Int)))) 1 (.int .i64 (bits .and .i64 a1 (63 : Int)))) 5 (.pointer (some ⟨x3.1, 0, none⟩))) 7 (.int .i64 x7_4)) 8 (.int .i64 x8_4) ∧ S = sput (sput s0 0 (some (Ck.var 34 x3.1 (([Value.slice (some ⟨x3.2.2.1, 0, none⟩) x3.2.2.2.2 x3.2.2.2.1] ++ ([Value.map (some x3.2.1)] ++ ([Value.bool m0_4.2.2.1] ++ ([Value.int .i64 m0_4.2.2.2.1] ++ [Value.bool m0_4.2.2.2.2])))))))) 1 (some (Ck.mr T48 x3.2.1 x3.2.2.1 x3.2.2.2.1 x3.2.2.2.2 m1_4)) ∧ shadowboxlaw05_DiskFuses.lo4 a1 (shadowboxlaw05_DiskFuses.jo2 k a0 a1) kk x7_4 x8_4 m0_4 m1_4 = some r) k ?_ ?_ ?_
      · exact ⟨_, (0 : Int), (0 : Int), ((), (), t4.2.2.1, t4.2.2.2.1, t4.2.2.2.2), t1.1.2, fr_next (fr_next (fr_next (fr_next (fr_next (rfl) (by kernel_rfl)) (by kernel_rfl)) (by kernel_rfl)) (by kernel_rfl)) (by kernel_rfl), rfl, H⟩
      · rintro f S ⟨fr4, x7_4, x8_4, m0_4, m1_4, rfl, rfl, H⟩; cases H
      · rintro k4 f S ⟨fr4, x7_4, x8_4, m0_4, m1_4, rfl, rfl, H⟩
        replace H : ((if x8_4 < (bits .and .i64 a1 (63 : Int)) then (shadowboxlaw05_DiskFuses.jo5 x7_4 x8_4 m0_4 m1_4 k4 (shadowboxlaw05_DiskFuses.lo4 a1 (shadowboxlaw05_DiskFuses.jo2 k a0 a1) k4)) else (shadowboxlaw05_DiskFuses.jo2 k a0 a1) x7_4 ((), (), m0_4.2.2.1, m0_4.2.2.2.1, m0_4.2.2.2.2) m1_4)) = some r := H
        refine cs_cut (fun f S => ∃ (fR : Fr), f = upd (upd (upd (upd (upd fR 0 (.int .i64 (bits .and .i64 a0 (31 : Int)))) 1 (.int .i64 (bits .and .i64 a1 (63 : Int)))) 5 (.pointer (some ⟨x3.1, 0, none⟩))) 7 (.int .i64 x7_4)) 8 (.int .i64 x8_4) ∧ S = sput (sput s0 0 (some (Ck.var 34 x3.1 (([Value.slice (some ⟨x3.2.2.1, 0, none⟩) x3.2.2.2.2 x3.2.2.2.1] ++ ([Value.map (some x3.2.1)] ++ ([Value.bool m0_4.2.2.1] ++ ([Value.int .i64 m0_4.2.2.2.1] ++ [Value.bool m0_4.2.2.2.2])))))))) 1 (some (Ck.mr T48 x3.2.1 x3.2.2.1 x3.2.2.2.1 x3.2.2.2.2 m1_4)) ∧ shadowboxlaw05_DiskFuses.jo5 x7_4 x8_4 m0_4 m1_4 k4 (shadowboxlaw05_DiskFuses.lo4 a1 (shadowboxlaw05_DiskFuses.jo2 k a0 a1) k4) = some r) ?_ ?_
        · skip
          refine cs_seq ?_
          refine cs_region (l := [_, _, _]) ?_
          refine ls_val (v := .int .i64 x8_4) rfl rfl (by kernel_rfl) (fun w => by kernel_rfl) ?_
          refine ls_val (v := .int .i64 (bits .and .i64 a1 (63 : Int))) rfl rfl (by kernel_rfl) (fun w => by kernel_rfl) ?_
          refine ls_val (v := .bool (decide (x8_4 < (bits .and .i64 a1 (63 : Int))))) rfl rfl (by kernel_rfl) (fun w => by kernel_rfl) ?_
          refine ls_end ?_
          refine qn_then ?_
          by_cases q79 : x8_4 < (bits .and .i64 a1 (63 : Int))
          · replace H := ite_t q79 H
            refine cs_know (c := true) (dec_t q79) 31 (by kernel_rfl) ?_
            refine cs_true (by kernel_rfl) ?_
            refine cs_skip' ?_
            refine qn_meet (sput (sput s0 0 (some (Ck.var 34 x3.1 (([Value.slice (some ⟨x3.2.2.1, 0, none⟩) x3.2.2.2.2 x3.2.2.2.1] ++ ([Value.map (some x3.2.1)] ++ ([Value.bool m0_4.2.2.1] ++ ([Value.int .i64 m0_4.2.2.2.1] ++ [Value.bool m0_4.2.2.2.2])))))))) 1 (some (Ck.mr T48 x3.2.1 x3.2.2.1 x3.2.2.2.1 x3.2.2.2.2 m1_4))) ⟨_, fr_next (fr_next (fr_next (fr_next (fr_next (rfl) (by kernel_rfl)) (by kernel_rfl)) (by kernel_rfl)) (by kernel_rfl)) (by kernel_rfl), rfl, H⟩ (sub_put (by exact rfl) (sub_put (by exact rfl) (sub_nil _)))
          · replace H := ite_f q79 H
            refine cs_know (c := false) (dec_f q79) 31 (by kernel_rfl) ?_
            refine cs_false (by kernel_rfl) ?_
            refine cs_exit' ?_
            refine qx_then ?_
            refine qx_then ?_
            refine qx_same ?_
            refine qn_meet (sput (sput s0 0 (some (Ck.var 34 x3.1 (([Value.slice (some ⟨x3.2.2.1, 0, none⟩) x3.2.2.2.2 x3.2.2.2.1] ++ ([Value.map (some x3.2.1)] ++ ([Value.bool m0_4.2.2.1] ++ ([Value.int .i64 m0_4.2.2.2.1] ++ [Value.bool m0_4.2.2.2.2])))))))) 1 (some (Ck.mr T48 x3.2.1 x3.2.2.1 x3.2.2.2.1 x3.2.2.2.2 m1_4))) ⟨_, x7_4, ((), (), m0_4.2.2.1, m0_4.2.2.2.1, m0_4.2.2.2.2), m1_4, fr_next (fr_next (fr_next (fr_next (rfl) (by kernel_rfl)) (by kernel_rfl)) (by kernel_rfl)) (by kernel_rfl), rfl, H⟩ (sub_put (by exact rfl) (sub_put (by exact rfl) (sub_nil _)))
        · rintro f S ⟨fr5, rfl, rfl, H⟩
          replace H : ((disk_Disk_Write.f k4 ((), (), m0_4.2.2.1, m0_4.2.2.2.1, m0_4.2.2.2.2) m1_4 (bits .and .i64 x8_4 (3 : Int)) ([IntKind.wrap .u8 x8_4])).bind fun t20 => (if (Int.tmod x8_4 (3 : Int)) = (2 : Int) then (disk_Disk_Flush.f k4 ((), (), t20.2.1.2.2.1, t20.2.1.2.2.2.1, t20.2.1.2.2.2.2) t20.2.2).bind fun t24 => (if t24.1 = (0 : Int) then (disk_Disk_Write.f k4 ((), (), t24.2.1.2.2.1, t24.2.1.2.2.2.1, t24.2.1.2.2.2.2) t24.2.2 (9 : Int) ([] : List Int)).bind fun t28 => (if t28.1 = (2 : Int) then (if (513 : Int) ≤ (513 : Int) then (if (513 : Int) ≤ 140737488355328 then (if (1 : Int) * (513 : Int) ≤ 281474976710656 then (disk_Disk_Write.f k4 ((), (), t28.2.1.2.2.1, t28.2.1.2.2.2.1, t28.2.1.2.2.2.2) t28.2.2 (0 : Int) (List.replicate ((513 : Int)).toNat (0 : Int))).bind fun t36 => (if t36.1 = (3 : Int) then (shadowboxlaw05_DiskFuses.lo4 a1 (shadowboxlaw05_DiskFuses.jo2 k a0 a1) k4) (IntKind.wrap .i64 (x7_4 + (1 : Int))) (IntKind.wrap .i64 (x8_4 + (1 : Int))) ((), (), t36.2.1.2.2.1, t36.2.1.2.2.2.1, t36.2.1.2.2.2.2) t36.2.2 else some false) else none) else none) else none) else some false) else (if t24.1 = (17 : Int) then (disk_Disk_Write.f k4 ((), (), t24.2.1.2.2.1, t24.2.1.2.2.2.1, t24.2.1.2.2.2.2) t24.2.2 (9 : Int) ([] : List Int)).bind fun t41 => (if t41.1 = (2 : Int) then (if (513 : Int) ≤ (513 : Int) then (if (513 : Int) ≤ 140737488355328 then (if (1 : Int) * (513 : Int) ≤ 281474976710656 then (disk_Disk_Write.f k4 ((), (), t41.2.1.2.2.1, t41.2.1.2.2.2.1, t41.2.1.2.2.2.2) t41.2.2 (0 : Int) (List.replicate ((513 : Int)).toNat (0 : Int))).bind fun t49 => (if t49.1 = (3 : Int) then (shadowboxlaw05_DiskFuses.lo4 a1 (shadowboxlaw05_DiskFuses.jo2 k a0 a1) k4) x7_4 (IntKind.wrap .i64 (x8_4 + (1 : Int))) ((), (), t49.2.1.2.2.1, t49.2.1.2.2.2.1, t49.2.1.2.2.2.2) t49.2.2 else some false) else none) else none) else none) else some false) else some false)) else (if t20.1 = (0 : Int) then (disk_Disk_Write.f k4 ((), (), t20.2.1.2.2.1, t20.2.1.2.2.2.1, t20.2.1.2.2.2.2) t20.2.2 (9 : Int) ([] : List Int)).bind fun t54 => (if t54.1 = (2 : Int) then (if (513 : Int) ≤ (513 : Int) then (if (513 : Int) ≤ 140737488355328 then (if (1 : Int) * (513 : Int) ≤ 281474976710656 then (disk_Disk_Write.f k4 ((), (), t54.2.1.2.2.1, t54.2.1.2.2.2.1, t54.2.1.2.2.2.2) t54.2.2 (0 : Int) (List.replicate ((513 : Int)).toNat (0 : Int))).bind fun t62 => (if t62.1 = (3 : Int) then (shadowboxlaw05_DiskFuses.lo4 a1 (shadowboxlaw05_DiskFuses.jo2 k a0 a1) k4) (IntKind.wrap .i64 (x7_4 + (1 : Int))) (IntKind.wrap .i64 (x8_4 + (1 : Int))) ((), (), t62.2.1.2.2.1, t62.2.1.2.2.2.1, t62.2.1.2.2.2.2) t62.2.2 else some false) else none) else none) else none) else some false) else (if t20.1 = (17 : Int) then (disk_Disk_Write.f k4 ((), (), t20.2.1.2.2.1, t20.2.1.2.2.2.1, t20.2.1.2.2.2.2) t20.2.2 (9 : Int) ([] : List Int)).bind fun t67 => (if t67.1 = (2 : Int) then (if (513 : Int) ≤ (513 : Int) then (if (513 : Int) ≤ 140737488355328 then (if (1 : Int) * (513 : Int) ≤ 281474976710656 then (disk_Disk_Write.f k4 ((), (), t67.2.1.2.2.1, t67.2.1.2.2.2.1, t67.2.1.2.2.2.2) t67.2.2 (0 : Int) (List.replicate ((513 : Int)).toNat (0 : Int))).bind fun t75 => (if t75.1 = (3 : Int) then (shadowboxlaw05_DiskFuses.lo4 a1 (shadowboxlaw05_DiskFuses.jo2 k a0 a1) k4) x7_4 (IntKind.wrap .i64 (x8_4 + (1 : Int))) ((), (), t75.2.1.2.2.1, t75.2.1.2.2.2.1, t75.2.1.2.2.2.2) t75.2.2 else some false) else none) else none) else none) else some false) else some false)))) = some r := H
          refine cs_seq ?_
          refine cs_block ?_
          refine cs_seq ?_
          refine cs_region (l := [_, _, _, _, _, _, _, _]) ?_
          refine ls_val (v := .pointer (some ⟨x3.1, 0, none⟩)) rfl rfl (by kernel_rfl) (fun w => by kernel_rfl) ?_
          refine ls_val (v := .int .i64 x8_4) rfl rfl (by kernel_rfl) (fun w => by kernel_rfl) ?_
          refine ls_val (v := .int .i64 (bits .and .i64 x8_4 (3 : Int))) rfl rfl (by kernel_rfl) (fun w => by kernel_rfl) ?_
          refine ls_val (v := .int .i64 x8_4) rfl rfl (by kernel_rfl) (fun w => by kernel_rfl) ?_
          refine ls_val (v := .int .u8 (IntKind.wrap .u8 x8_4)) rfl rfl (by kernel_rfl) (fun w => by kernel_rfl) ?_
          refine ls_lit (Ec.int 5 .u8) 2 rfl rfl (by kernel_rfl) ([IntKind.wrap .u8 x8_4]) (by exact of_decide_eq_true (by kernel_rfl)) (fun w => by kernel_rfl) ?_
          intro g19
          obtain ⟨t20, hc21, H⟩ := bind_some H
          refine ls_callb (fid := 8) (vals := #[.pointer (some ⟨x3.1, 0, none⟩), .int .i64 (bits .and .i64 x8_4 (3 : Int)), .slice (some ⟨g19, 0, none⟩) ([IntKind.wrap .u8 x8_4]).length [IntKind.wrap .u8 x8_4].length]) (X := Unit) (fun x => .int .i64 t20.1) (fun x => stl [Ck.var 34 x3.1 (([Value.slice (some ⟨x3.2.2.1, 0, none⟩) x3.2.2.2.2 x3.2.2.2.1] ++ ([Value.map (some x3.2.1)] ++ ([Value.bool t20.2.1.2.2.1] ++ ([Value.int .i64 t20.2.1.2.2.2.1] ++ [Value.bool t20.2.1.2.2.2.2]))))), Ck.mr T48 x3.2.1 x3.2.2.1 x3.2.2.2.1 x3.2.2.2.2 t20.2.2]) [0, 1] [2] [Ck.var 34 x3.1 (([Value.slice (some ⟨x3.2.2.1, 0, none⟩) x3.2.2.2.2 x3.2.2.2.1] ++ ([Value.map (some x3.2.1)] ++ ([Value.bool m0_4.2.2.1] ++ ([Value.int .i64 m0_4.2.2.2.1] ++ [Value.bool m0_4.2.2.2.2]))))), Ck.mr T48 x3.2.1 x3.2.2.1 x3.2.2.2.1 x3.2.2.2.2 m1_4] [Ck.sl (Ec.int 5 .u8) (some ⟨g19, 0, none⟩) ([IntKind.wrap .u8 x8_4].length) ([IntKind.wrap .u8 x8_4])] 3 rfl rfl (by kernel_rfl) (fun w => by kernel_rfl) ⟨by exact rfl, by exact rfl, trivial⟩ ⟨by exact rfl, trivial⟩ (by decide) (fun w hs hb => disk_Disk_Write.calls k4 x3.1 x3.2.2.1 x3.2.2.2.2 x3.2.2.2.1 x3.2.1 ((), (), m0_4.2.2.1, m0_4.2.2.2.1, m0_4.2.2.2.2) m1_4 (bits .and .i64 x8_4 (3 : Int)) (some ⟨g19, 0, none⟩) ([IntKind.wrap .u8 x8_4].length) ([IntKind.wrap .u8 x8_4]) t20 (lent b w [Ck.var 34 x3.1 (([Value.slice (some ⟨x3.2.2.1, 0, none⟩) x3.2.2.2.2 x3.2.2.2.1] ++ ([Value.map (some x3.2.1)] ++ ([Value.bool m0_4.2.2.1] ++ ([Value.int .i64 m0_4.2.2.2.1] ++ [Value.bool m0_4.2.2.2.2]))))), Ck.mr T48 x3.2.1 x3.2.2.1 x3.2.2.2.1 x3.2.2.2.2 m1_4] [Ck.sl (Ec.int 5 .u8) (some ⟨g19, 0, none⟩) ([IntKind.wrap .u8 x8_4].length) ([IntKind.wrap .u8 x8_4])]) hb (hs.ror (k := 2) (by exact rfl) (.head _)) (hs.cap (k := 2) (by exact rfl)) hc21) ?_
          intro x22
          refine ls_val (v := .int .i64 t20.1) rfl rfl (by kernel_rfl) (fun w => by kernel_rfl) ?_
          refine ls_end ?_
          refine qn_then ?_
          refine cs_seq ?_
          refine cs_seq ?_
          refine cs_region (l := [_, _, _]) ?_
          refine ls_val (v := .int .i64 x8_4) rfl rfl (by kernel_rfl) (fun w => by kernel_rfl) ?_
          refine ls_val (v := .int .i64 (Int.tmod x8_4 (3 : Int))) rfl rfl (by kernel_rfl) (fun w => by kernel_rfl) ?_
          refine ls_val (v := .bool (decide ((Int.tmod x8_4 (3 : Int)) = (2 : Int)))) rfl rfl (by kernel_rfl) (fun w => by kernel_rfl) ?_
          refine ls_end ?_
          refine qn_then ?_
          by_cases q23 : (Int.tmod x8_4 (3 : Int)) = (2 : Int)
          · replace H := ite_t q23 H
            refine cs_know (c := true) (dec_t q23) 43 (by kernel_rfl) ?_
            refine cs_true (by kernel_rfl) ?_
            refine cs_region (l := [_, _, _]) ?_
            refine ls_val (v := .pointer (some ⟨x3.1, 0, none⟩)) rfl rfl (by kernel_rfl) (fun w => by kernel_rfl) ?_
            obtain ⟨t24, hc25, H⟩ := bind_some H
            refine ls_callb (fid := 9) (vals := #[.pointer (some ⟨x3.1, 0, none⟩)]) (X := Unit) (fun x => .int .i64 t24.1) (fun x => stl [Ck.var 34 x3.1 (([Value.slice (some ⟨x3.2.2.1, 0, none⟩) x3.2.2.2.2 x3.2.2.2.1] ++ ([Value.map (some x3.2.1)] ++ ([Value.bool t24.2.1.2.2.1] ++ ([Value.int .i64 t24.2.1.2.2.2.1] ++ [Value.bool t24.2.1.2.2.2.2]))))), Ck.mr T48 x3.2.1 x3.2.2.1 x3.2.2.2.1 x3.2.2.2.2 t24.2.2]) [0, 1] [] [Ck.var 34 x3.1 (([Value.slice (some ⟨x3.2.2.1, 0, none⟩) x3.2.2.2.2 x3.2.2.2.1] ++ ([Value.map (some x3.2.1)] ++ ([Value.bool t20.2.1.2.2.1] ++ ([Value.int .i64 t20.2.1.2.2.2.1] ++ [Value.bool t20.2.1.2.2.2.2]))))), Ck.mr T48 x3.2.1 x3.2.2.1 x3.2.2.2.1 x3.2.2.2.2 t20.2.2] [] 3 rfl rfl (by kernel_rfl) (fun w => by kernel_rfl) ⟨by exact rfl, by exact rfl, trivial⟩ trivial (by decide) (fun w hs hb => disk_Disk_Flush.calls k4 x3.1 x3.2.2.1 x3.2.2.2.2 x3.2.2.2.1 x3.2.1 ((), (), t20.2.1.2.2.1, t20.2.1.2.2.2.1, t20.2.1.2.2.2.2) t20.2.2 t24 (lent b w [Ck.var 34 x3.1 (([Value.slice (some ⟨x3.2.2.1, 0, none⟩) x3.2.2.2.2 x3.2.2.2.1] ++ ([Value.map (some x3.2.1)] ++ ([Value.bool t20.2.1.2.2.1] ++ ([Value.int .i64 t20.2.1.2.2.2.1] ++ [Value.bool t20.2.1.2.2.2.2]))))), Ck.mr T48 x3.2.1 x3.2.2.1 x3.2.2.2.1 x3.2.2.2.2 t20.2.2] []) hb  hc25) ?_
            intro x26
            refine ls_val (v := .int .i64 t24.1) rfl rfl (by kernel_rfl) (fun w => by kernel_rfl) ?_
            refine ls_end ?_
            refine qn_then ?_
            refine cs_seq ?_
            refine cs_seq ?_
            refine cs_region (l := [_, _]) ?_
            refine ls_val (v := .int .i64 t24.1) rfl rfl (by kernel_rfl) (fun w => by kernel_rfl) ?_
            refine ls_val (v := .bool (decide (t24.1 = (0 : Int)))) rfl rfl (by kernel_rfl) (fun w => by kernel_rfl) ?_
            refine ls_end ?_
            refine qn_then ?_
            by_cases q27 : t24.1 = (0 : Int)
            · replace H := ite_t q27 H
              refine cs_know (c := true) (dec_t q27) 47 (by kernel_rfl) ?_
              refine cs_true (by kernel_rfl) ?_
              refine cs_region (l := [_, _, _]) ?_
              refine ls_val (v := .int .i64 x7_4) rfl rfl (by kernel_rfl) (fun w => by kernel_rfl) ?_
              refine ls_val (v := .int .i64 (IntKind.wrap .i64 (x7_4 + (1 : Int)))) rfl rfl (by kernel_rfl) (fun w => by kernel_rfl) ?_
              refine ls_val (v := .int .i64 (IntKind.wrap .i64 (x7_4 + (1 : Int)))) rfl rfl (by kernel_rfl) (fun w => by kernel_rfl) ?_
              refine ls_end ?_
              refine qn_then ?_
              refine cs_seq ?_
              refine cs_region (l := [_, _, _, _, _, _, _, _, _]) ?_
              refine ls_val (v := .pointer (some ⟨x3.1, 0, none⟩)) rfl rfl (by kernel_rfl) (fun w => by kernel_rfl) ?_
              obtain ⟨t28, hc29, H⟩ := bind_some H
              refine ls_callb (fid := 8) (vals := #[.pointer (some ⟨x3.1, 0, none⟩), .int .i64 (9 : Int), .slice none ([] : List Int).length 0]) (X := Unit) (fun x => .int .i64 t28.1) (fun x => stl [Ck.var 34 x3.1 (([Value.slice (some ⟨x3.2.2.1, 0, none⟩) x3.2.2.2.2 x3.2.2.2.1] ++ ([Value.map (some x3.2.1)] ++ ([Value.bool t28.2.1.2.2.1] ++ ([Value.int .i64 t28.2.1.2.2.2.1] ++ [Value.bool t28.2.1.2.2.2.2]))))), Ck.mr T48 x3.2.1 x3.2.2.1 x3.2.2.2.1 x3.2.2.2.2 t28.2.2]) [0, 1] [] [Ck.var 34 x3.1 (([Value.slice (some ⟨x3.2.2.1, 0, none⟩) x3.2.2.2.2 x3.2.2.2.1] ++ ([Value.map (some x3.2.1)] ++ ([Value.bool t24.2.1.2.2.1] ++ ([Value.int .i64 t24.2.1.2.2.2.1] ++ [Value.bool t24.2.1.2.2.2.2]))))), Ck.mr T48 x3.2.1 x3.2.2.1 x3.2.2.2.1 x3.2.2.2.2 t24.2.2] [] 3 rfl rfl (by kernel_rfl) (fun w => by kernel_rfl) ⟨by exact rfl, by exact rfl, trivial⟩ trivial (by decide) (fun w hs hb => disk_Disk_Write.calls k4 x3.1 x3.2.2.1 x3.2.2.2.2 x3.2.2.2.1 x3.2.1 ((), (), t24.2.1.2.2.1, t24.2.1.2.2.2.1, t24.2.1.2.2.2.2) t24.2.2 (9 : Int) none 0 ([] : List Int) t28 (lent b w [Ck.var 34 x3.1 (([Value.slice (some ⟨x3.2.2.1, 0, none⟩) x3.2.2.2.2 x3.2.2.2.1] ++ ([Value.map (some x3.2.1)] ++ ([Value.bool t24.2.1.2.2.1] ++ ([Value.int .i64 t24.2.1.2.2.2.1] ++ [Value.bool t24.2.1.2.2.2.2]))))), Ck.mr T48 x3.2.1 x3.2.2.1 x3.2.2.2.1 x3.2.2.2.2 t24.2.2] []) hb (Ro.nil _ _) (Nat.le_refl 0) hc29) ?_
              intro x30
              refine ls_val (v := .bool (!decide (t28.1 = (2 : Int)))) rfl rfl (by kernel_rfl) (fun w => by kernel_rfl) ?_
              refine ls_val (v := .bool (!decide (t28.1 = (2 : Int)))) rfl rfl (by kernel_rfl) (fun w => by kernel_rfl) ?_
              by_cases q31 : t28.1 = (2 : Int)
              · replace H := ite_t q31 H
                refine ls_know (c := false) (congrArg Bool.not (dec_t q31)) 55 (by kernel_rfl) ?_
                refine ls_on (j := 3) (t := 55) (b := false) rfl rfl (by kernel_rfl) (by kernel_rfl) ?_
                refine ls_val (v := .pointer (some ⟨x3.1, 0, none⟩)) rfl rfl (by kernel_rfl) (fun w => by kernel_rfl) ?_
                refine ls_on (j := 3) (t := 55) (b := false) rfl rfl (by kernel_rfl) (by kernel_rfl) ?_
                obtain ⟨q32, H⟩ := ite_need H
                obtain ⟨q33, H⟩ := ite_need H
                obtain ⟨q34, H⟩ := ite_need H
                refine ls_make (Ec.int 5 .u8) (bytes := 1) (a := (513 : Int)) (b := (513 : Int)) (kx := .i64) (ky := .i64) (zc := [Value.int .u8 (0 : Int)]) 3 rfl rfl (by kernel_rfl) rfl (by kernel_rfl) (by kernel_rfl) (by kernel_rfl) (by kernel_rfl) rfl (by decide) q32 q33 q34 ?_
                intro g35
                refine ls_on (j := 3) (t := 55) (b := false) rfl rfl (by kernel_rfl) (by kernel_rfl) ?_
                obtain ⟨t36, hc37, H⟩ := bind_some H
                refine ls_callb (fid := 8) (vals := #[.pointer (some ⟨x3.1, 0, none⟩), .int .i64 (0 : Int), .slice (some ⟨g35, 0, none⟩) (List.replicate ((513 : Int)).toNat (0 : Int)).length ((513 : Int)).toNat]) (X := Unit) (fun x => .int .i64 t36.1) (fun x => stl [Ck.var 34 x3.1 (([Value.slice (some ⟨x3.2.2.1, 0, none⟩) x3.2.2.2.2 x3.2.2.2.1] ++ ([Value.map (some x3.2.1)] ++ ([Value.bool t36.2.1.2.2.1] ++ ([Value.int .i64 t36.2.1.2.2.2.1] ++ [Value.bool t36.2.1.2.2.2.2]))))), Ck.mr T48 x3.2.1 x3.2.2.1 x3.2.2.2.1 x3.2.2.2.2 t36.2.2]) [0, 1] [3] [Ck.var 34 x3.1 (([Value.slice (some ⟨x3.2.2.1, 0, none⟩) x3.2.2.2.2 x3.2.2.2.1] ++ ([Value.map (some x3.2.1)] ++ ([Value.bool t28.2.1.2.2.1] ++ ([Value.int .i64 t28.2.1.2.2.2.1] ++ [Value.bool t28.2.1.2.2.2.2]))))), Ck.mr T48 x3.2.1 x3.2.2.1 x3.2.2.2.1 x3.2.2.2.2 t28.2.2] [Ck.sl (Ec.int 5 .u8) (some ⟨g35, 0, none⟩) (((513 : Int)).toNat) (List.replicate ((513 : Int)).toNat (0 : Int))] 4 rfl rfl (by kernel_rfl) (fun w => by kernel_rfl) ⟨by exact rfl, by exact rfl, trivial⟩ ⟨by exact rfl, trivial⟩ (by decide) (fun w hs hb => disk_Disk_Write.calls k4 x3.1 x3.2.2.1 x3.2.2.2.2 x3.2.2.2.1 x3.2.1 ((), (), t28.2.1.2.2.1, t28.2.1.2.2.2.1, t28.2.1.2.2.2.2) t28.2.2 (0 : Int) (some ⟨g35, 0, none⟩) (((513 : Int)).toNat) (List.replicate ((513 : Int)).toNat (0 : Int)) t36 (lent b w [Ck.var 34 x3.1 (([Value.slice (some ⟨x3.2.2.1, 0, none⟩) x3.2.2.2.2 x3.2.2.2.1] ++ ([Value.map (some x3.2.1)] ++ ([Value.bool t28.2.1.2.2.1] ++ ([Value.int .i64 t28.2.1.2.2.2.1] ++ [Value.bool t28.2.1.2.2.2.2]))))), Ck.mr T48 x3.2.1 x3.2.2.1 x3.2.2.2.1 x3.2.2.2.2 t28.2.2] [Ck.sl (Ec.int 5 .u8) (some ⟨g35, 0, none⟩) (((513 : Int)).toNat) (List.replicate ((513 : Int)).toNat (0 : Int))]) hb (hs.ror (k := 3) (by exact rfl) (.head _)) (hs.cap (k := 3) (by exact rfl)) hc37) ?_
                intro x38
                refine ls_on (j := 3) (t := 55) (b := false) rfl rfl (by kernel_rfl) (by kernel_rfl) ?_
                refine ls_val (v := .bool (!decide (t36.1 = (3 : Int)))) rfl rfl (by kernel_rfl) (fun w => by kernel_rfl) ?_
                refine ls_val (v := .bool (!decide (t36.1 = (3 : Int)))) rfl rfl (by kernel_rfl) (fun w => by kernel_rfl) ?_
                refine ls_end ?_
                refine qn_then ?_
                by_cases q39 : t36.1 = (3 : Int)
                · replace H := ite_t q39 H
                  refine cs_know (c := false) (congrArg Bool.not (dec_t q39)) 60 (by kernel_rfl) ?_
                  refine cs_false (by kernel_rfl) ?_
                  refine cs_skip' ?_
                  refine qn_block ?_
                  refine qn_then ?_
                  refine cs_region (l := [_, _, _]) ?_
                  refine ls_val (v := .int .i64 x8_4) rfl rfl (by kernel_rfl) (fun w => by kernel_rfl) ?_
                  refine ls_val (v := .int .i64 (IntKind.wrap .i64 (x8_4 + (1 : Int)))) rfl rfl (by kernel_rfl) (fun w => by kernel_rfl) ?_
                  refine ls_val (v := .int .i64 (IntKind.wrap .i64 (x8_4 + (1 : Int)))) rfl rfl (by kernel_rfl) (fun w => by kernel_rfl) ?_
                  refine ls_end ?_
                  refine qn_again k4 (sput (sput s0 0 (some (Ck.var 34 x3.1 (([Value.slice (some ⟨x3.2.2.1, 0, none⟩) x3.2.2.2.2 x3.2.2.2.1] ++ ([Value.map (some x3.2.1)] ++ ([Value.bool t36.2.1.2.2.1] ++ ([Value.int .i64 t36.2.1.2.2.2.1] ++ [Value.bool t36.2.1.2.2.2.2])))))))) 1 (some (Ck.mr T48 x3.2.1 x3.2.2.1 x3.2.2.2.1 x3.2.2.2.2 t36.2.2))) (Nat.le_refl _) ⟨_, (IntKind.wrap .i64 (x7_4 + (1 : Int))), (IntKind.wrap .i64 (x8_4 + (1 : Int))), ((), (), t36.2.1.2.2.1, t36.2.1.2.2.2.1, t36.2.1.2.2.2.2), t36.2.2, fr_next (fr_next (fr_next (fr_next (fr_next (rfl) (by kernel_rfl)) (by kernel_rfl)) (by kernel_rfl)) (by kernel_rfl)) (by kernel_rfl), rfl, H⟩ (sub_put (by exact rfl) (sub_put (by exact rfl) (sub_nil _)))
                · replace H := ite_f q39 H
                  refine cs_know (c := true) (congrArg Bool.not (dec_f q39)) 60 (by kernel_rfl) ?_
                  refine cs_true (by kernel_rfl) ?_
                  refine cs_seq ?_
                  refine cs_region (l := [_]) ?_
                  refine ls_val (v := .bool false) rfl rfl (by kernel_rfl) (fun w => by kernel_rfl) ?_
                  refine ls_end ?_
                  refine qn_then ?_
                  refine cs_ret' ?_
                  refine qr_block ?_
                  refine qr_then ?_
                  refine qr_then ?_
                  refine qr_block ?_
                  refine qr_then ?_
                  obtain rfl := Option.some.inj H
                  refine qr_res (rs := [_]) rfl (fun w' hs => ⟨[.bool false], (res_tmp (by kernel_rfl) (.nil)), (), rfl, hs.pick (ts := []) (cs := []) trivial (by decide)⟩)
              · replace H := ite_f q31 H
                refine ls_know (c := true) (congrArg Bool.not (dec_f q31)) 55 (by kernel_rfl) ?_
                refine ls_off (j := 3) (t := 55) (b := false) (c := true) rfl rfl (by kernel_rfl) (by kernel_rfl) rfl rfl (by kernel_rfl) ?_
                refine ls_off (j := 3) (t := 55) (b := false) (c := true) rfl rfl (by kernel_rfl) (by kernel_rfl) rfl rfl (by kernel_rfl) ?_
                refine ls_off (j := 3) (t := 55) (b := false) (c := true) rfl rfl (by kernel_rfl) (by kernel_rfl) rfl rfl (by kernel_rfl) ?_
                refine ls_off (j := 3) (t := 55) (b := false) (c := true) rfl rfl (by kernel_rfl) (by kernel_rfl) rfl rfl (by kernel_rfl) ?_
                refine ls_val (v := .bool true) rfl rfl (by kernel_rfl) (fun w => by kernel_rfl) ?_
                refine ls_end ?_
                refine qn_then ?_
                refine cs_true (by kernel_rfl) ?_
                refine cs_seq ?_
                refine cs_region (l := [_]) ?_
                refine ls_val (v := .bool false) rfl rfl (by kernel_rfl) (fun w => by kernel_rfl) ?_
                refine ls_end ?_
                refine qn_then ?_
                refine cs_ret' ?_
                refine qr_block ?_
                refine qr_then ?_
                refine qr_then ?_
                refine qr_block ?_
                refine qr_then ?_
                obtain rfl := Option.some.inj H
                refine qr_res (rs := [_]) rfl (fun w' hs => ⟨[.bool false], (res_tmp (by kernel_rfl) (.nil)), (), rfl, hs.pick (ts := []) (cs := []) trivial (by decide)⟩)
            · replace H := ite_f q27 H
              refine cs_know (c := false) (dec_f q27) 47 (by kernel_rfl) ?_
              refine cs_false (by kernel_rfl) ?_
              refine cs_seq ?_
              refine cs_region (l := [_, _]) ?_
              refine ls_val (v := .int .i64 t24.1) rfl rfl (by kernel_rfl) (fun w => by kernel_rfl) ?_
              refine ls_val (v := .bool (!decide (t24.1 = (17 : Int)))) rfl rfl (by kernel_rfl) (fun w => by kernel_rfl) ?_
              refine ls_end ?_
              refine qn_then ?_
              by_cases q40 : t24.1 = (17 : Int)
              · replace H := ite_t q40 H
                refine cs_know (c := false) (congrArg Bool.not (dec_t q40)) 51 (by kernel_rfl) ?_
                refine cs_false (by kernel_rfl) ?_
                refine cs_skip' ?_
                refine qn_then ?_
                refine cs_seq ?_
                refine cs_region (l := [_, _, _, _, _, _, _, _, _]) ?_
                refine ls_val (v := .pointer (some ⟨x3.1, 0, none⟩)) rfl rfl (by kernel_rfl) (fun w => by kernel_rfl) ?_
                obtain ⟨t41, hc42, H⟩ := bind_some H
                refine ls_callb (fid := 8) (vals := #[.pointer (some ⟨x3.1, 0, none⟩), .int .i64 (9 : Int), .slice none ([] : List Int).length 0]) (X := Unit) (fun x => .int .i64 t41.1) (fun x => stl [Ck.var 34 x3.1 (([Value.slice (some ⟨x3.2.2.1, 0, none⟩) x3.2.2.2.2 x3.2.2.2.1] ++ ([Value.map (some x3.2.1)] ++ ([Value.bool t41.2.1.2.2.1] ++ ([Value.int .i64 t41.2.1.2.2.2.1] ++ [Value.bool t41.2.1.2.2.2.2]))))), Ck.mr T48 x3.2.1 x3.2.2.1 x3.2.2.2.1 x3.2.2.2.2 t41.2.2]) [0, 1] [] [Ck.var 34 x3.1 (([Value.slice (some ⟨x3.2.2.1, 0, none⟩) x3.2.2.2.2 x3.2.2.2.1] ++ ([Value.map (some x3.2.1)] ++ ([Value.bool t24.2.1.2.2.1] ++ ([Value.int .i64 t24.2.1.2.2.2.1] ++ [Value.bool t24.2.1.2.2.2.2]))))), Ck.mr T48 x3.2.1 x3.2.2.1 x3.2.2.2.1 x3.2.2.2.2 t24.2.2] [] 3 rfl rfl (by kernel_rfl) (fun w => by kernel_rfl) ⟨by exact rfl, by exact rfl, trivial⟩ trivial (by decide) (fun w hs hb => disk_Disk_Write.calls k4 x3.1 x3.2.2.1 x3.2.2.2.2 x3.2.2.2.1 x3.2.1 ((), (), t24.2.1.2.2.1, t24.2.1.2.2.2.1, t24.2.1.2.2.2.2) t24.2.2 (9 : Int) none 0 ([] : List Int) t41 (lent b w [Ck.var 34 x3.1 (([Value.slice (some ⟨x3.2.2.1, 0, none⟩) x3.2.2.2.2 x3.2.2.2.1] ++ ([Value.map (some x3.2.1)] ++ ([Value.bool t24.2.1.2.2.1] ++ ([Value.int .i64 t24.2.1.2.2.2.1] ++ [Value.bool t24.2.1.2.2.2.2]))))), Ck.mr T48 x3.2.1 x3.2.2.1 x3.2.2.2.1 x3.2.2.2.2 t24.2.2] []) hb (Ro.nil _ _) (Nat.le_refl 0) hc42) ?_
                intro x43
                refine ls_val (v := .bool (!decide (t41.1 = (2 : Int)))) rfl rfl (by kernel_rfl) (fun w => by kernel_rfl) ?_
                refine ls_val (v := .bool (!decide (t41.1 = (2 : Int)))) rfl rfl (by kernel_rfl) (fun w => by kernel_rfl) ?_
                by_cases q44 : t41.1 = (2 : Int)
                · replace H := ite_t q44 H
                  refine ls_know (c := false) (congrArg Bool.not (dec_t q44)) 55 (by kernel_rfl) ?_
                  refine ls_on (j := 3) (t := 55) (b := false) rfl rfl (by kernel_rfl) (by kernel_rfl) ?_
                  refine ls_val (v := .pointer (some ⟨x3.1, 0, none⟩)) rfl rfl (by kernel_rfl) (fun w => by kernel_rfl) ?_
                  refine ls_on (j := 3) (t := 55) (b := false) rfl rfl (by kernel_rfl) (by kernel_rfl) ?_
                  obtain ⟨q45, H⟩ := ite_need H
                  obtain ⟨q46, H⟩ := ite_need H
                  obtain ⟨q47, H⟩ := ite_need H
                  refine ls_make (Ec.int 5 .u8) (bytes := 1) (a := (513 : Int)) (b := (513 : Int)) (kx := .i64) (ky := .i64) (zc := [Value.int .u8 (0 : Int)]) 3 rfl rfl (by kernel_rfl) rfl (by kernel_rfl) (by kernel_rfl) (by kernel_rfl) (by kernel_rfl) rfl (by decide) q45 q46 q47 ?_
                  intro g48
                  refine ls_on (j := 3) (t := 55) (b := false) rfl rfl (by kernel_rfl) (by kernel_rfl) ?_
                  obtain ⟨t49, hc50, H⟩ := bind_some H
                  refine ls_callb (fid := 8) (vals := #[.pointer (some ⟨x3.1, 0, none⟩), .int .i64 (0 : Int), .slice (some ⟨g48, 0, none⟩) (List.replicate ((513 : Int)).toNat (0 : Int)).length ((513 : Int)).toNat]) (X := Unit) (fun x => .int .i64 t49.1) (fun x => stl [Ck.var 34 x3.1 (([Value.slice (some ⟨x3.2.2.1, 0, none⟩) x3.2.2.2.2 x3.2.2.2.1] ++ ([Value.map (some x3.2.1)] ++ ([Value.bool t49.2.1.2.2.1] ++ ([Value.int .i64 t49.2.1.2.2.2.1] ++ [Value.bool t49.2.1.2.2.2.2]))))), Ck.mr T48 x3.2.1 x3.2.2.1 x3.2.2.2.1 x3.2.2.2.2 t49.2.2]) [0, 1] [3] [Ck.var 34 x3.1 (([Value.slice (some ⟨x3.2.2.1, 0, none⟩) x3.2.2.2.2 x3.2.2.2.1] ++ ([Value.map (some x3.2.1)] ++ ([Value.bool t41.2.1.2.2.1] ++ ([Value.int .i64 t41.2.1.2.2.2.1] ++ [Value.bool t41.2.1.2.2.2.2]))))), Ck.mr T48 x3.2.1 x3.2.2.1 x3.2.2.2.1 x3.2.2.2.2 t41.2.2] [Ck.sl (Ec.int 5 .u8) (some ⟨g48, 0, none⟩) (((513 : Int)).toNat) (List.replicate ((513 : Int)).toNat (0 : Int))] 4 rfl rfl (by kernel_rfl) (fun w => by kernel_rfl) ⟨by exact rfl, by exact rfl, trivial⟩ ⟨by exact rfl, trivial⟩ (by decide) (fun w hs hb => disk_Disk_Write.calls k4 x3.1 x3.2.2.1 x3.2.2.2.2 x3.2.2.2.1 x3.2.1 ((), (), t41.2.1.2.2.1, t41.2.1.2.2.2.1, t41.2.1.2.2.2.2) t41.2.2 (0 : Int) (some ⟨g48, 0, none⟩) (((513 : Int)).toNat) (List.replicate ((513 : Int)).toNat (0 : Int)) t49 (lent b w [Ck.var 34 x3.1 (([Value.slice (some ⟨x3.2.2.1, 0, none⟩) x3.2.2.2.2 x3.2.2.2.1] ++ ([Value.map (some x3.2.1)] ++ ([Value.bool t41.2.1.2.2.1] ++ ([Value.int .i64 t41.2.1.2.2.2.1] ++ [Value.bool t41.2.1.2.2.2.2]))))), Ck.mr T48 x3.2.1 x3.2.2.1 x3.2.2.2.1 x3.2.2.2.2 t41.2.2] [Ck.sl (Ec.int 5 .u8) (some ⟨g48, 0, none⟩) (((513 : Int)).toNat) (List.replicate ((513 : Int)).toNat (0 : Int))]) hb (hs.ror (k := 3) (by exact rfl) (.head _)) (hs.cap (k := 3) (by exact rfl)) hc50) ?_
                  intro x51
                  refine ls_on (j := 3) (t := 55) (b := false) rfl rfl (by kernel_rfl) (by kernel_rfl) ?_
                  refine ls_val (v := .bool (!decide (t49.1 = (3 : Int)))) rfl rfl (by kernel_rfl) (fun w => by kernel_rfl) ?_
                  refine ls_val (v := .bool (!decide (t49.1 = (3 : Int)))) rfl rfl (by kernel_rfl) (fun w => by kernel_rfl) ?_
                  refine ls_end ?_
                  refine qn_then ?_
                  by_cases q52 : t49.1 = (3 : Int)
                  · replace H := ite_t q52 H
                    refine cs_know (c := false) (congrArg Bool.not (dec_t q52)) 60 (by kernel_rfl) ?_
                    refine cs_false (by kernel_rfl) ?_
                    refine cs_skip' ?_
                    refine qn_block ?_
                    refine qn_then ?_
                    refine cs_region (l := [_, _, _]) ?_
                    refine ls_val (v := .int .i64 x8_4) rfl rfl (by kernel_rfl) (fun w => by kernel_rfl) ?_
                    refine ls_val (v := .int .i64 (IntKind.wrap .i64 (x8_4 + (1 : Int)))) rfl rfl (by kernel_rfl) (fun w => by kernel_rfl) ?_
                    refine ls_val (v := .int .i64 (IntKind.wrap .i64 (x8_4 + (1 : Int)))) rfl rfl (by kernel_rfl) (fun w => by kernel_rfl) ?_
                    refine ls_end ?_
                    refine qn_again k4 (sput (sput s0 0 (some (Ck.var 34 x3.1 (([Value.slice (some ⟨x3.2.2.1, 0, none⟩) x3.2.2.2.2 x3.2.2.2.1] ++ ([Value.map (some x3.2.1)] ++ ([Value.bool t49.2.1.2.2.1] ++ ([Value.int .i64 t49.2.1.2.2.2.1] ++ [Value.bool t49.2.1.2.2.2.2])))))))) 1 (some (Ck.mr T48 x3.2.1 x3.2.2.1 x3.2.2.2.1 x3.2.2.2.2 t49.2.2))) (Nat.le_refl _) ⟨_, x7_4, (IntKind.wrap .i64 (x8_4 + (1 : Int))), ((), (), t49.2.1.2.2.1, t49.2.1.2.2.2.1, t49.2.1.2.2.2.2), t49.2.2, fr_next (fr_next (fr_next (fr_next (fr_next (rfl) (by kernel_rfl)) (by kernel_rfl)) (by kernel_rfl)) (by kernel_rfl)) (by kernel_rfl), rfl, H⟩ (sub_put (by exact rfl) (sub_put (by exact rfl) (sub_nil _)))
                  · replace H := ite_f q52 H
                    refine cs_know (c := true) (congrArg Bool.not (dec_f q52)) 60 (by kernel_rfl) ?_
                    refine cs_true (by kernel_rfl) ?_
                    refine cs_seq ?_
                    refine cs_region (l := [_]) ?_
                    refine ls_val (v := .bool false) rfl rfl (by kernel_rfl) (fun w => by kernel_rfl) ?_
                    refine ls_end ?_
                    refine qn_then ?_
                    refine cs_ret' ?_
                    refine qr_block ?_
                    refine qr_then ?_
                    refine qr_then ?_
                    refine qr_block ?_
                    refine qr_then ?_
                    obtain rfl := Option.some.inj H
                    refine qr_res (rs := [_]) rfl (fun w' hs => ⟨[.bool false], (res_tmp (by kernel_rfl) (.nil)), (), rfl, hs.pick (ts := []) (cs := []) trivial (by decide)⟩)
                · replace H := ite_f q44 H
                  refine ls_know (c := true) (congrArg Bool.not (dec_f q44)) 55 (by kernel_rfl) ?_
                  refine ls_off (j := 3) (t := 55) (b := false) (c := true) rfl rfl (by kernel_rfl) (by kernel_rfl) rfl rfl (by kernel_rfl) ?_
                  refine ls_off (j := 3) (t := 55) (b := false) (c := true) rfl rfl (by kernel_rfl) (by kernel_rfl) rfl rfl (by kernel_rfl) ?_
                  refine ls_off (j := 3) (t := 55) (b := false) (c := true) rfl rfl (by kernel_rfl) (by kernel_rfl) rfl rfl (by kernel_rfl) ?_
                  refine ls_off (j := 3) (t := 55) (b := false) (c := true) rfl rfl (by kernel_rfl) (by kernel_rfl) rfl rfl (by kernel_rfl) ?_
                  refine ls_val (v := .bool true) rfl rfl (by kernel_rfl) (fun w => by kernel_rfl) ?_
                  refine ls_end ?_
                  refine qn_then ?_
                  refine cs_true (by kernel_rfl) ?_
                  refine cs_seq ?_
                  refine cs_region (l := [_]) ?_
                  refine ls_val (v := .bool false) rfl rfl (by kernel_rfl) (fun w => by kernel_rfl) ?_
                  refine ls_end ?_
                  refine qn_then ?_
                  refine cs_ret' ?_
                  refine qr_block ?_
                  refine qr_then ?_
                  refine qr_then ?_
                  refine qr_block ?_
                  refine qr_then ?_
                  obtain rfl := Option.some.inj H
                  refine qr_res (rs := [_]) rfl (fun w' hs => ⟨[.bool false], (res_tmp (by kernel_rfl) (.nil)), (), rfl, hs.pick (ts := []) (cs := []) trivial (by decide)⟩)
              · replace H := ite_f q40 H
                refine cs_know (c := true) (congrArg Bool.not (dec_f q40)) 51 (by kernel_rfl) ?_
                refine cs_true (by kernel_rfl) ?_
                refine cs_seq ?_
                refine cs_region (l := [_]) ?_
                refine ls_val (v := .bool false) rfl rfl (by kernel_rfl) (fun w => by kernel_rfl) ?_
                refine ls_end ?_
                refine qn_then ?_
                refine cs_ret' ?_
                refine qr_then ?_
                refine qr_block ?_
                refine qr_then ?_
                refine qr_then ?_
                refine qr_block ?_
                refine qr_then ?_
                obtain rfl := Option.some.inj H
                refine qr_res (rs := [_]) rfl (fun w' hs => ⟨[.bool false], (res_tmp (by kernel_rfl) (.nil)), (), rfl, hs.pick (ts := []) (cs := []) trivial (by decide)⟩)
          · replace H := ite_f q23 H
            refine cs_know (c := false) (dec_f q23) 43 (by kernel_rfl) ?_
            refine cs_false (by kernel_rfl) ?_
            refine cs_skip' ?_
            refine qn_then ?_
            refine cs_seq ?_
            refine cs_seq ?_
            refine cs_region (l := [_, _]) ?_
            refine ls_val (v := .int .i64 t20.1) rfl rfl (by kernel_rfl) (fun w => by kernel_rfl) ?_
            refine ls_val (v := .bool (decide (t20.1 = (0 : Int)))) rfl rfl (by kernel_rfl) (fun w => by kernel_rfl) ?_
            refine ls_end ?_
            refine qn_then ?_
            by_cases q53 : t20.1 = (0 : Int)
            · replace H := ite_t q53 H
              refine cs_know (c := true) (dec_t q53) 47 (by kernel_rfl) ?_
              refine cs_true (by kernel_rfl) ?_
              refine cs_region (l := [_, _, _]) ?_
              refine ls_val (v := .int .i64 x7_4) rfl rfl (by kernel_rfl) (fun w => by kernel_rfl) ?_
              refine ls_val (v := .int .i64 (IntKind.wrap .i64 (x7_4 + (1 : Int)))) rfl rfl (by kernel_rfl) (fun w => by kernel_rfl) ?_
              refine ls_val (v := .int .i64 (IntKind.wrap .i64 (x7_4 + (1 : Int)))) rfl rfl (by kernel_rfl) (fun w => by kernel_rfl) ?_
              refine ls_end ?_
              refine qn_then ?_
              refine cs_seq ?_
              refine cs_region (l := [_, _, _, _, _, _, _, _, _]) ?_
              refine ls_val (v := .pointer (some ⟨x3.1, 0, none⟩)) rfl rfl (by kernel_rfl) (fun w => by kernel_rfl) ?_
              obtain ⟨t54, hc55, H⟩ := bind_some H
              refine ls_callb (fid := 8) (vals := #[.pointer (some ⟨x3.1, 0, none⟩), .int .i64 (9 : Int), .slice none ([] : List Int).length 0]) (X := Unit) (fun x => .int .i64 t54.1) (fun x => stl [Ck.var 34 x3.1 (([Value.slice (some ⟨x3.2.2.1, 0, none⟩) x3.2.2.2.2 x3.2.2.2.1] ++ ([Value.map (some x3.2.1)] ++ ([Value.bool t54.2.1.2.2.1] ++ ([Value.int .i64 t54.2.1.2.2.2.1] ++ [Value.bool t54.2.1.2.2.2.2]))))), Ck.mr T48 x3.2.1 x3.2.2.1 x3.2.2.2.1 x3.2.2.2.2 t54.2.2]) [0, 1] [] [Ck.var 34 x3.1 (([Value.slice (some ⟨x3.2.2.1, 0, none⟩) x3.2.2.2.2 x3.2.2.2.1] ++ ([Value.map (some x3.2.1)] ++ ([Value.bool t20.2.1.2.2.1] ++ ([Value.int .i64 t20.2.1.2.2.2.1] ++ [Value.bool t20.2.1.2.2.2.2]))))), Ck.mr T48 x3.2.1 x3.2.2.1 x3.2.2.2.1 x3.2.2.2.2 t20.2.2] [] 3 rfl rfl (by kernel_rfl) (fun w => by kernel_rfl) ⟨by exact rfl, by exact rfl, trivial⟩ trivial (by decide) (fun w hs hb => disk_Disk_Write.calls k4 x3.1 x3.2.2.1 x3.2.2.2.2 x3.2.2.2.1 x3.2.1 ((), (), t20.2.1.2.2.1, t20.2.1.2.2.2.1, t20.2.1.2.2.2.2) t20.2.2 (9 : Int) none 0 ([] : List Int) t54 (lent b w [Ck.var 34 x3.1 (([Value.slice (some ⟨x3.2.2.1, 0, none⟩) x3.2.2.2.2 x3.2.2.2.1] ++ ([Value.map (some x3.2.1)] ++ ([Value.bool t20.2.1.2.2.1] ++ ([Value.int .i64 t20.2.1.2.2.2.1] ++ [Value.bool t20.2.1.2.2.2.2]))))), Ck.mr T48 x3.2.1 x3.2.2.1 x3.2.2.2.1 x3.2.2.2.2 t20.2.2] []) hb (Ro.nil _ _) (Nat.le_refl 0) hc55) ?_
              intro x56
              refine ls_val (v := .bool (!decide (t54.1 = (2 : Int)))) rfl rfl (by kernel_rfl) (fun w => by kernel_rfl) ?_
              refine ls_val (v := .bool (!decide (t54.1 = (2 : Int)))) rfl rfl (by kernel_rfl) (fun w => by kernel_rfl) ?_
              by_cases q57 : t54.1 = (2 : Int)
              · replace H := ite_t q57 H
                refine ls_know (c := false) (congrArg Bool.not (dec_t q57)) 55 (by kernel_rfl) ?_
                refine ls_on (j := 3) (t := 55) (b := false) rfl rfl (by kernel_rfl) (by kernel_rfl) ?_
                refine ls_val (v := .pointer (some ⟨x3.1, 0, none⟩)) rfl rfl (by kernel_rfl) (fun w => by kernel_rfl) ?_
                refine ls_on (j := 3) (t := 55) (b := false) rfl rfl (by kernel_rfl) (by kernel_rfl) ?_
                obtain ⟨q58, H⟩ := ite_need H
                obtain ⟨q59, H⟩ := ite_need H
                obtain ⟨q60, H⟩ := ite_need H
                refine ls_make (Ec.int 5 .u8) (bytes := 1) (a := (513 : Int)) (b := (513 : Int)) (kx := .i64) (ky := .i64) (zc := [Value.int .u8 (0 : Int)]) 3 rfl rfl (by kernel_rfl) rfl (by kernel_rfl) (by kernel_rfl) (by kernel_rfl) (by kernel_rfl) rfl (by decide) q58 q59 q60 ?_
                intro g61
                refine ls_on (j := 3) (t := 55) (b := false) rfl rfl (by kernel_rfl) (by kernel_rfl) ?_
                obtain ⟨t62, hc63, H⟩ := bind_some H
                refine ls_callb (fid := 8) (vals := #[.pointer (some ⟨x3.1, 0, none⟩), .int .i64 (0 : Int), .slice (some ⟨g61, 0, none⟩) (List.replicate ((513 : Int)).toNat (0 : Int)).length ((513 : Int)).toNat]) (X := Unit) (fun x => .int .i64 t62.1) (fun x => stl [Ck.var 34 x3.1 (([Value.slice (some ⟨x3.2.2.1, 0, none⟩) x3.2.2.2.2 x3.2.2.2.1] ++ ([Value.map (some x3.2.1)] ++ ([Value.bool t62.2.1.2.2.1] ++ ([Value.int .i64 t62.2.1.2.2.2.1] ++ [Value.bool t62.2.1.2.2.2.2]))))), Ck.mr T48 x3.2.1 x3.2.2.1 x3.2.2.2.1 x3.2.2.2.2 t62.2.2]) [0, 1] [3] [Ck.var 34 x3.1 (([Value.slice (some ⟨x3.2.2.1, 0, none⟩) x3.2.2.2.2 x3.2.2.2.1] ++ ([Value.map (some x3.2.1)] ++ ([Value.bool t54.2.1.2.2.1] ++ ([Value.int .i64 t54.2.1.2.2.2.1] ++ [Value.bool t54.2.1.2.2.2.2]))))), Ck.mr T48 x3.2.1 x3.2.2.1 x3.2.2.2.1 x3.2.2.2.2 t54.2.2] [Ck.sl (Ec.int 5 .u8) (some ⟨g61, 0, none⟩) (((513 : Int)).toNat) (List.replicate ((513 : Int)).toNat (0 : Int))] 4 rfl rfl (by kernel_rfl) (fun w => by kernel_rfl) ⟨by exact rfl, by exact rfl, trivial⟩ ⟨by exact rfl, trivial⟩ (by decide) (fun w hs hb => disk_Disk_Write.calls k4 x3.1 x3.2.2.1 x3.2.2.2.2 x3.2.2.2.1 x3.2.1 ((), (), t54.2.1.2.2.1, t54.2.1.2.2.2.1, t54.2.1.2.2.2.2) t54.2.2 (0 : Int) (some ⟨g61, 0, none⟩) (((513 : Int)).toNat) (List.replicate ((513 : Int)).toNat (0 : Int)) t62 (lent b w [Ck.var 34 x3.1 (([Value.slice (some ⟨x3.2.2.1, 0, none⟩) x3.2.2.2.2 x3.2.2.2.1] ++ ([Value.map (some x3.2.1)] ++ ([Value.bool t54.2.1.2.2.1] ++ ([Value.int .i64 t54.2.1.2.2.2.1] ++ [Value.bool t54.2.1.2.2.2.2]))))), Ck.mr T48 x3.2.1 x3.2.2.1 x3.2.2.2.1 x3.2.2.2.2 t54.2.2] [Ck.sl (Ec.int 5 .u8) (some ⟨g61, 0, none⟩) (((513 : Int)).toNat) (List.replicate ((513 : Int)).toNat (0 : Int))]) hb (hs.ror (k := 3) (by exact rfl) (.head _)) (hs.cap (k := 3) (by exact rfl)) hc63) ?_
                intro x64
                refine ls_on (j := 3) (t := 55) (b := false) rfl rfl (by kernel_rfl) (by kernel_rfl) ?_
                refine ls_val (v := .bool (!decide (t62.1 = (3 : Int)))) rfl rfl (by kernel_rfl) (fun w => by kernel_rfl) ?_
                refine ls_val (v := .bool (!decide (t62.1 = (3 : Int)))) rfl rfl (by kernel_rfl) (fun w => by kernel_rfl) ?_
                refine ls_end ?_
                refine qn_then ?_
                by_cases q65 : t62.1 = (3 : Int)
                · replace H := ite_t q65 H
                  refine cs_know (c := false) (congrArg Bool.not (dec_t q65)) 60 (by kernel_rfl) ?_
                  refine cs_false (by kernel_rfl) ?_
                  refine cs_skip' ?_
                  refine qn_block ?_
                  refine qn_then ?_
                  refine cs_region (l := [_, _, _]) ?_
                  refine ls_val (v := .int .i64 x8_4) rfl rfl (by kernel_rfl) (fun w => by kernel_rfl) ?_
                  refine ls_val (v := .int .i64 (IntKind.wrap .i64 (x8_4 + (1 : Int)))) rfl rfl (by kernel_rfl) (fun w => by kernel_rfl) ?_
                  refine ls_val (v := .int .i64 (IntKind.wrap .i64 (x8_4 + (1 : Int)))) rfl rfl (by kernel_rfl) (fun w => by kernel_rfl) ?_
                  refine ls_end ?_
                  refine qn_again k4 (sput (sput s0 0 (some (Ck.var 34 x3.1 (([Value.slice (some ⟨x3.2.2.1, 0, none⟩) x3.2.2.2.2 x3.2.2.2.1] ++ ([Value.map (some x3.2.1)] ++ ([Value.bool t62.2.1.2.2.1] ++ ([Value.int .i64 t62.2.1.2.2.2.1] ++ [Value.bool t62.2.1.2.2.2.2])))))))) 1 (some (Ck.mr T48 x3.2.1 x3.2.2.1 x3.2.2.2.1 x3.2.2.2.2 t62.2.2))) (Nat.le_refl _) ⟨_, (IntKind.wrap .i64 (x7_4 + (1 : Int))), (IntKind.wrap .i64 (x8_4 + (1 : Int))), ((), (), t62.2.1.2.2.1, t62.2.1.2.2.2.1, t62.2.1.2.2.2.2), t62.2.2, fr_next (fr_next (fr_next (fr_next (fr_next (rfl) (by kernel_rfl)) (by kernel_rfl)) (by kernel_rfl)) (by kernel_rfl)) (by kernel_rfl), rfl, H⟩ (sub_put (by exact rfl) (sub_put (by exact rfl) (sub_nil _)))
                · replace H := ite_f q65 H
                  refine cs_know (c := true) (congrArg Bool.not (dec_f q65)) 60 (by kernel_rfl) ?_
                  refine cs_true (by kernel_rfl) ?_
                  refine cs_seq ?_
                  refine cs_region (l := [_]) ?_
                  refine ls_val (v := .bool false) rfl rfl (by kernel_rfl) (fun w => by kernel_rfl) ?_
                  refine ls_end ?_
                  refine qn_then ?_
                  refine cs_ret' ?_
                  refine qr_block ?_
                  refine qr_then ?_
                  refine qr_then ?_
                  refine qr_block ?_
                  refine qr_then ?_
                  obtain rfl := Option.some.inj H
                  refine qr_res (rs := [_]) rfl (fun w' hs => ⟨[.bool false], (res_tmp (by kernel_rfl) (.nil)), (), rfl, hs.pick (ts := []) (cs := []) trivial (by decide)⟩)
              · replace H := ite_f q57 H
                refine ls_know (c := true) (congrArg Bool.not (dec_f q57)) 55 (by kernel_rfl) ?_
                refine ls_off (j := 3) (t := 55) (b := false) (c := true) rfl rfl (by kernel_rfl) (by kernel_rfl) rfl rfl (by kernel_rfl) ?_
                refine ls_off (j := 3) (t := 55) (b := false) (c := true) rfl rfl (by kernel_rfl) (by kernel_rfl) rfl rfl (by kernel_rfl) ?_
                refine ls_off (j := 3) (t := 55) (b := false) (c := true) rfl rfl (by kernel_rfl) (by kernel_rfl) rfl rfl (by kernel_rfl) ?_
                refine ls_off (j := 3) (t := 55) (b := false) (c := true) rfl rfl (by kernel_rfl) (by kernel_rfl) rfl rfl (by kernel_rfl) ?_
                refine ls_val (v := .bool true) rfl rfl (by kernel_rfl) (fun w => by kernel_rfl) ?_
                refine ls_end ?_
                refine qn_then ?_
                refine cs_true (by kernel_rfl) ?_
                refine cs_seq ?_
                refine cs_region (l := [_]) ?_
                refine ls_val (v := .bool false) rfl rfl (by kernel_rfl) (fun w => by kernel_rfl) ?_
                refine ls_end ?_
                refine qn_then ?_
                refine cs_ret' ?_
                refine qr_block ?_
                refine qr_then ?_
                refine qr_then ?_
                refine qr_block ?_
                refine qr_then ?_
                obtain rfl := Option.some.inj H
                refine qr_res (rs := [_]) rfl (fun w' hs => ⟨[.bool false], (res_tmp (by kernel_rfl) (.nil)), (), rfl, hs.pick (ts := []) (cs := []) trivial (by decide)⟩)
            · replace H := ite_f q53 H
              refine cs_know (c := false) (dec_f q53) 47 (by kernel_rfl) ?_
              refine cs_false (by kernel_rfl) ?_
              refine cs_seq ?_
              refine cs_region (l := [_, _]) ?_
              refine ls_val (v := .int .i64 t20.1) rfl rfl (by kernel_rfl) (fun w => by kernel_rfl) ?_
              refine ls_val (v := .bool (!decide (t20.1 = (17 : Int)))) rfl rfl (by kernel_rfl) (fun w => by kernel_rfl) ?_
              refine ls_end ?_
              refine qn_then ?_
              by_cases q66 : t20.1 = (17 : Int)
              · replace H := ite_t q66 H
                refine cs_know (c := false) (congrArg Bool.not (dec_t q66)) 51 (by kernel_rfl) ?_
                refine cs_false (by kernel_rfl) ?_
                refine cs_skip' ?_
                refine qn_then ?_
                refine cs_seq ?_
                refine cs_region (l := [_, _, _, _, _, _, _, _, _]) ?_
                refine ls_val (v := .pointer (some ⟨x3.1, 0, none⟩)) rfl rfl (by kernel_rfl) (fun w => by kernel_rfl) ?_
                obtain ⟨t67, hc68, H⟩ := bind_some H
                refine ls_callb (fid := 8) (vals := #[.pointer (some ⟨x3.1, 0, none⟩), .int .i64 (9 : Int), .slice none ([] : List Int).length 0]) (X := Unit) (fun x => .int .i64 t67.1) (fun x => stl [Ck.var 34 x3.1 (([Value.slice (some ⟨x3.2.2.1, 0, none⟩) x3.2.2.2.2 x3.2.2.2.1] ++ ([Value.map (some x3.2.1)] ++ ([Value.bool t67.2.1.2.2.1] ++ ([Value.int .i64 t67.2.1.2.2.2.1] ++ [Value.bool t67.2.1.2.2.2.2]))))), Ck.mr T48 x3.2.1 x3.2.2.1 x3.2.2.2.1 x3.2.2.2.2 t67.2.2]) [0, 1] [] [Ck.var 34 x3.1 (([Value.slice (some ⟨x3.2.2.1, 0, none⟩) x3.2.2.2.2 x3.2.2.2.1] ++ ([Value.map (some x3.2.1)] ++ ([Value.bool t20.2.1.2.2.1] ++ ([Value.int .i64 t20.2.1.2.2.2.1] ++ [Value.bool t20.2.1.2.2.2.2]))))), Ck.mr T48 x3.2.1 x3.2.2.1 x3.2.2.2.1 x3.2.2.2.2 t20.2.2] [] 3 rfl rfl (by kernel_rfl) (fun w => by kernel_rfl) ⟨by exact rfl, by exact rfl, trivial⟩ trivial (by decide) (fun w hs hb => disk_Disk_Write.calls k4 x3.1 x3.2.2.1 x3.2.2.2.2 x3.2.2.2.1 x3.2.1 ((), (), t20.2.1.2.2.1, t20.2.1.2.2.2.1, t20.2.1.2.2.2.2) t20.2.2 (9 : Int) none 0 ([] : List Int) t67 (lent b w [Ck.var 34 x3.1 (([Value.slice (some ⟨x3.2.2.1, 0, none⟩) x3.2.2.2.2 x3.2.2.2.1] ++ ([Value.map (some x3.2.1)] ++ ([Value.bool t20.2.1.2.2.1] ++ ([Value.int .i64 t20.2.1.2.2.2.1] ++ [Value.bool t20.2.1.2.2.2.2]))))), Ck.mr T48 x3.2.1 x3.2.2.1 x3.2.2.2.1 x3.2.2.2.2 t20.2.2] []) hb (Ro.nil _ _) (Nat.le_refl 0) hc68) ?_
                intro x69
                refine ls_val (v := .bool (!decide (t67.1 = (2 : Int)))) rfl rfl (by kernel_rfl) (fun w => by kernel_rfl) ?_
                refine ls_val (v := .bool (!decide (t67.1 = (2 : Int)))) rfl rfl (by kernel_rfl) (fun w => by kernel_rfl) ?_
                by_cases q70 : t67.1 = (2 : Int)
                · replace H := ite_t q70 H
                  refine ls_know (c := false) (congrArg Bool.not (dec_t q70)) 55 (by kernel_rfl) ?_
                  refine ls_on (j := 3) (t := 55) (b := false) rfl rfl (by kernel_rfl) (by kernel_rfl) ?_
                  refine ls_val (v := .pointer (some ⟨x3.1, 0, none⟩)) rfl rfl (by kernel_rfl) (fun w => by kernel_rfl) ?_
                  refine ls_on (j := 3) (t := 55) (b := false) rfl rfl (by kernel_rfl) (by kernel_rfl) ?_
                  obtain ⟨q71, H⟩ := ite_need H
                  obtain ⟨q72, H⟩ := ite_need H
                  obtain ⟨q73, H⟩ := ite_need H
                  refine ls_make (Ec.int 5 .u8) (bytes := 1) (a := (513 : Int)) (b := (513 : Int)) (kx := .i64) (ky := .i64) (zc := [Value.int .u8 (0 : Int)]) 3 rfl rfl (by kernel_rfl) rfl (by kernel_rfl) (by kernel_rfl) (by kernel_rfl) (by kernel_rfl) rfl (by decide) q71 q72 q73 ?_
                  intro g74
                  refine ls_on (j := 3) (t := 55) (b := false) rfl rfl (by kernel_rfl) (by kernel_rfl) ?_
                  obtain ⟨t75, hc76, H⟩ := bind_some H
                  refine ls_callb (fid := 8) (vals := #[.pointer (some ⟨x3.1, 0, none⟩), .int .i64 (0 : Int), .slice (some ⟨g74, 0, none⟩) (List.replicate ((513 : Int)).toNat (0 : Int)).length ((513 : Int)).toNat]) (X := Unit) (fun x => .int .i64 t75.1) (fun x => stl [Ck.var 34 x3.1 (([Value.slice (some ⟨x3.2.2.1, 0, none⟩) x3.2.2.2.2 x3.2.2.2.1] ++ ([Value.map (some x3.2.1)] ++ ([Value.bool t75.2.1.2.2.1] ++ ([Value.int .i64 t75.2.1.2.2.2.1] ++ [Value.bool t75.2.1.2.2.2.2]))))), Ck.mr T48 x3.2.1 x3.2.2.1 x3.2.2.2.1 x3.2.2.2.2 t75.2.2]) [0, 1] [3] [Ck.var 34 x3.1 (([Value.slice (some ⟨x3.2.2.1, 0, none⟩) x3.2.2.2.2 x3.2.2.2.1] ++ ([Value.map (some x3.2.1)] ++ ([Value.bool t67.2.1.2.2.1] ++ ([Value.int .i64 t67.2.1.2.2.2.1] ++ [Value.bool t67.2.1.2.2.2.2]))))), Ck.mr T48 x3.2.1 x3.2.2.1 x3.2.2.2.1 x3.2.2.2.2 t67.2.2] [Ck.sl (Ec.int 5 .u8) (some ⟨g74, 0, none⟩) (((513 : Int)).toNat) (List.replicate ((513 : Int)).toNat (0 : Int))] 4 rfl rfl (by kernel_rfl) (fun w => by kernel_rfl) ⟨by exact rfl, by exact rfl, trivial⟩ ⟨by exact rfl, trivial⟩ (by decide) (fun w hs hb => disk_Disk_Write.calls k4 x3.1 x3.2.2.1 x3.2.2.2.2 x3.2.2.2.1 x3.2.1 ((), (), t67.2.1.2.2.1, t67.2.1.2.2.2.1, t67.2.1.2.2.2.2) t67.2.2 (0 : Int) (some ⟨g74, 0, none⟩) (((513 : Int)).toNat) (List.replicate ((513 : Int)).toNat (0 : Int)) t75 (lent b w [Ck.var 34 x3.1 (([Value.slice (some ⟨x3.2.2.1, 0, none⟩) x3.2.2.2.2 x3.2.2.2.1] ++ ([Value.map (some x3.2.1)] ++ ([Value.bool t67.2.1.2.2.1] ++ ([Value.int .i64 t67.2.1.2.2.2.1] ++ [Value.bool t67.2.1.2.2.2.2]))))), Ck.mr T48 x3.2.1 x3.2.2.1 x3.2.2.2.1 x3.2.2.2.2 t67.2.2] [Ck.sl (Ec.int 5 .u8) (some ⟨g74, 0, none⟩) (((513 : Int)).toNat) (List.replicate ((513 : Int)).toNat (0 : Int))]) hb (hs.ror (k := 3) (by exact rfl) (.head _)) (hs.cap (k := 3) (by exact rfl)) hc76) ?_
                  intro x77
                  refine ls_on (j := 3) (t := 55) (b := false) rfl rfl (by kernel_rfl) (by kernel_rfl) ?_
                  refine ls_val (v := .bool (!decide (t75.1 = (3 : Int)))) rfl rfl (by kernel_rfl) (fun w => by kernel_rfl) ?_
                  refine ls_val (v := .bool (!decide (t75.1 = (3 : Int)))) rfl rfl (by kernel_rfl) (fun w => by kernel_rfl) ?_
                  refine ls_end ?_
                  refine qn_then ?_
                  by_cases q78 : t75.1 = (3 : Int)
                  · replace H := ite_t q78 H
                    refine cs_know (c := false) (congrArg Bool.not (dec_t q78)) 60 (by kernel_rfl) ?_
                    refine cs_false (by kernel_rfl) ?_
                    refine cs_skip' ?_
                    refine qn_block ?_
                    refine qn_then ?_
                    refine cs_region (l := [_, _, _]) ?_
                    refine ls_val (v := .int .i64 x8_4) rfl rfl (by kernel_rfl) (fun w => by kernel_rfl) ?_
                    refine ls_val (v := .int .i64 (IntKind.wrap .i64 (x8_4 + (1 : Int)))) rfl rfl (by kernel_rfl) (fun w => by kernel_rfl) ?_
                    refine ls_val (v := .int .i64 (IntKind.wrap .i64 (x8_4 + (1 : Int)))) rfl rfl (by kernel_rfl) (fun w => by kernel_rfl) ?_
                    refine ls_end ?_
                    refine qn_again k4 (sput (sput s0 0 (some (Ck.var 34 x3.1 (([Value.slice (some ⟨x3.2.2.1, 0, none⟩) x3.2.2.2.2 x3.2.2.2.1] ++ ([Value.map (some x3.2.1)] ++ ([Value.bool t75.2.1.2.2.1] ++ ([Value.int .i64 t75.2.1.2.2.2.1] ++ [Value.bool t75.2.1.2.2.2.2])))))))) 1 (some (Ck.mr T48 x3.2.1 x3.2.2.1 x3.2.2.2.1 x3.2.2.2.2 t75.2.2))) (Nat.le_refl _) ⟨_, x7_4, (IntKind.wrap .i64 (x8_4 + (1 : Int))), ((), (), t75.2.1.2.2.1, t75.2.1.2.2.2.1, t75.2.1.2.2.2.2), t75.2.2, fr_next (fr_next (fr_next (fr_next (fr_next (rfl) (by kernel_rfl)) (by kernel_rfl)) (by kernel_rfl)) (by kernel_rfl)) (by kernel_rfl), rfl, H⟩ (sub_put (by exact rfl) (sub_put (by exact rfl) (sub_nil _)))
                  · replace H := ite_f q78 H
                    refine cs_know (c := true) (congrArg Bool.not (dec_f q78)) 60 (by kernel_rfl) ?_
                    refine cs_true (by kernel_rfl) ?_
                    refine cs_seq ?_
                    refine cs_region (l := [_]) ?_
                    refine ls_val (v := .bool false) rfl rfl (by kernel_rfl) (fun w => by kernel_rfl) ?_
                    refine ls_end ?_
                    refine qn_then ?_
                    refine cs_ret' ?_
                    refine qr_block ?_
                    refine qr_then ?_
                    refine qr_then ?_
                    refine qr_block ?_
                    refine qr_then ?_
                    obtain rfl := Option.some.inj H
                    refine qr_res (rs := [_]) rfl (fun w' hs => ⟨[.bool false], (res_tmp (by kernel_rfl) (.nil)), (), rfl, hs.pick (ts := []) (cs := []) trivial (by decide)⟩)
                · replace H := ite_f q70 H
                  refine ls_know (c := true) (congrArg Bool.not (dec_f q70)) 55 (by kernel_rfl) ?_
                  refine ls_off (j := 3) (t := 55) (b := false) (c := true) rfl rfl (by kernel_rfl) (by kernel_rfl) rfl rfl (by kernel_rfl) ?_
                  refine ls_off (j := 3) (t := 55) (b := false) (c := true) rfl rfl (by kernel_rfl) (by kernel_rfl) rfl rfl (by kernel_rfl) ?_
                  refine ls_off (j := 3) (t := 55) (b := false) (c := true) rfl rfl (by kernel_rfl) (by kernel_rfl) rfl rfl (by kernel_rfl) ?_
                  refine ls_off (j := 3) (t := 55) (b := false) (c := true) rfl rfl (by kernel_rfl) (by kernel_rfl) rfl rfl (by kernel_rfl) ?_
                  refine ls_val (v := .bool true) rfl rfl (by kernel_rfl) (fun w => by kernel_rfl) ?_
                  refine ls_end ?_
                  refine qn_then ?_
                  refine cs_true (by kernel_rfl) ?_
                  refine cs_seq ?_
                  refine cs_region (l := [_]) ?_
                  refine ls_val (v := .bool false) rfl rfl (by kernel_rfl) (fun w => by kernel_rfl) ?_
                  refine ls_end ?_
                  refine qn_then ?_
                  refine cs_ret' ?_
                  refine qr_block ?_
                  refine qr_then ?_
                  refine qr_then ?_
                  refine qr_block ?_
                  refine qr_then ?_
                  obtain rfl := Option.some.inj H
                  refine qr_res (rs := [_]) rfl (fun w' hs => ⟨[.bool false], (res_tmp (by kernel_rfl) (.nil)), (), rfl, hs.pick (ts := []) (cs := []) trivial (by decide)⟩)
              · replace H := ite_f q66 H
                refine cs_know (c := true) (congrArg Bool.not (dec_f q66)) 51 (by kernel_rfl) ?_
                refine cs_true (by kernel_rfl) ?_
                refine cs_seq ?_
                refine cs_region (l := [_]) ?_
                refine ls_val (v := .bool false) rfl rfl (by kernel_rfl) (fun w => by kernel_rfl) ?_
                refine ls_end ?_
                refine qn_then ?_
                refine cs_ret' ?_
                refine qr_then ?_
                refine qr_block ?_
                refine qr_then ?_
                refine qr_then ?_
                refine qr_block ?_
                refine qr_then ?_
                obtain rfl := Option.some.inj H
                refine qr_res (rs := [_]) rfl (fun w' hs => ⟨[.bool false], (res_tmp (by kernel_rfl) (.nil)), (), rfl, hs.pick (ts := []) (cs := []) trivial (by decide)⟩)
    · rintro f S ⟨fr2, x7_2, m0_2, m1_2, rfl, rfl, H⟩
      replace H : (shadowboxlaw05_DiskFuses.lo3 a0 a1 x7_2 m0_2 m1_2 k (0 : Int) (0 : Int)) = some r := H
      refine cs_seq ?_
      refine cs_region (l := [_]) ?_
      refine ls_val (v := .int .i64 (0 : Int)) rfl rfl (by kernel_rfl) (fun w => by kernel_rfl) ?_
      refine ls_end ?_
      refine qn_then ?_
      refine cs_seq ?_
      refine cs_seq ?_
      refine cs_region (l := [_]) ?_
      refine ls_val (v := .int .i64 (0 : Int)) rfl rfl (by kernel_rfl) (fun w => by kernel_rfl) ?_
      refine ls_end ?_
      refine qn_then ?_
      refine cs_block ?_
      refine cs_sub (sput (sput s0 0 (some (Ck.var 34 x3.1 (([Value.slice (some ⟨x3.2.2.1, 0, none⟩) x3.2.2.2.2 x3.2.2.2.1] ++ ([Value.map (some x3.2.1)] ++ ([Value.bool m0_2.2.2.1] ++ ([Value.int .i64 m0_2.2.2.2.1] ++ [Value.bool m0_2.2.2.2.2])))))))) 1 (some (Ck.mr T48 x3.2.1 x3.2.2.1 x3.2.2.2.1 x3.2.2.2.2 m1_2))) (sub_put (by exact rfl) (sub_put (by exact rfl) (sub_nil _))) ?_
      refine cs_loop (fun kk f S => ∃ (fR : Fr) (x10_3 : Int) (x11_3 : Int), f = upd (upd (upd (upd (upd (upd fR 0 (.int .i64 (bits .and .i64 a0 (31 : Int)))) 1 (.int .i64 (bits .and .i64 a1 (63 : Int)))) 5 (.pointer (some ⟨x3.1, 0, none⟩))) 7 (.int .i64 x7_2)) 10 (.int .i64 x10_3)) 11 (.int .i64 x11_3) ∧ S = sput (sput s0 0 (some (Ck.var 34 x3.1 (([Value.slice (some ⟨x3.2.2.1, 0, none⟩) x3.2.2.2.2 x3.2.2.2.1] ++ ([Value.map (some x3.2.1)] ++ ([Value.bool m0_2.2.2.1] ++ ([Value.int .i64 m0_2.2.2.2.1] ++ [Value.bool m0_2.2.2.2.2])))))))) 1 (some (Ck.mr T48 x3.2.1 x3.2.2.1 x3.2.2.2.1 x3.2.2.2.2 m1_2)) ∧ shadowboxlaw05_DiskFuses.lo3 a0 a1 x7_2 m0_2 m1_2 kk x10_3 x11_3 = some r) k ?_ ?_ ?_
      · exact ⟨_, (0 : Int), (0 : Int), fr_next (fr_next (fr_next (fr_next (fr_next (fr_next (rfl) (by kernel_rfl)) (by kernel_rfl)) (by kernel_rfl)) (by kernel_rfl)) (by kernel_rfl)) (by kernel_rfl), rfl, H⟩
      · rintro f S ⟨fr3, x10_3, x11_3, rfl, rfl, H⟩; cases H
      · rintro k3 f S ⟨fr3, x10_3, x11_3, rfl, rfl, H⟩
        replace H : ((if x11_3 < (bits .and .i64 a1 (63 : Int)) then (if (Int.tmod x11_3 (3 : Int)) = (2 : Int) then lt (IntKind.wrap .i64 ((IntKind.wrap .i64 (x10_3 + (1 : Int))) + (1 : Int))) fun y9 => (shadowboxlaw05_DiskFuses.lo3 a0 a1 x7_2 m0_2 m1_2 k3) y9 (IntKind.wrap .i64 (x11_3 + (1 : Int))) else (shadowboxlaw05_DiskFuses.lo3 a0 a1 x7_2 m0_2 m1_2 k3) (IntKind.wrap .i64 (x10_3 + (1 : Int))) (IntKind.wrap .i64 (x11_3 + (1 : Int)))) else (if x10_3 > (bits .and .i64 a0 (31 : Int)) then (disk_Disk_Fuse.f k3 ((), (), m0_2.2.2.1, m0_2.2.2.2.1, m0_2.2.2.2.2) m1_2 (5 : Int)).bind fun t12 => (disk_Disk_Flush.f k3 ((), (), t12.2.2.1, t12.2.2.2.1, t12.2.2.2.2) m1_2).bind fun t15 => (if t15.1 = (17 : Int) then some (decide (x7_2 ≤ (bits .and .i64 a0 (31 : Int)))) else some false) else some (decide (x7_2 = (bits .and .i64 a1 (63 : Int))))))) = some r := H
        refine cs_seq ?_
        refine cs_seq ?_
        refine cs_region (l := [_, _, _]) ?_
        refine ls_val (v := .int .i64 x11_3) rfl rfl (by kernel_rfl) (fun w => by kernel_rfl) ?_
        refine ls_val (v := .int .i64 (bits .and .i64 a1 (63 : Int))) rfl rfl (by kernel_rfl) (fun w => by kernel_rfl) ?_
        refine ls_val (v := .bool (decide (x11_3 < (bits .and .i64 a1 (63 : Int))))) rfl rfl (by kernel_rfl) (fun w => by kernel_rfl) ?_
        refine ls_end ?_
        refine qn_then ?_
        by_cases q7 : x11_3 < (bits .and .i64 a1 (63 : Int))
        · replace H := ite_t q7 H
          refine cs_know (c := true) (dec_t q7) 63 (by kernel_rfl) ?_
          refine cs_true (by kernel_rfl) ?_
          refine cs_skip' ?_
          refine qn_then ?_
          refine cs_seq ?_
          refine cs_block ?_
          refine cs_seq ?_
          refine cs_region (l := [_, _, _]) ?_
          refine ls_val (v := .int .i64 x10_3) rfl rfl (by kernel_rfl) (fun w => by kernel_rfl) ?_
          refine ls_val (v := .int .i64 (IntKind.wrap .i64 (x10_3 + (1 : Int)))) rfl rfl (by kernel_rfl) (fun w => by kernel_rfl) ?_
          refine ls_val (v := .int .i64 (IntKind.wrap .i64 (x10_3 + (1 : Int)))) rfl rfl (by kernel_rfl) (fun w => by kernel_rfl) ?_
          refine ls_end ?_
          refine qn_then ?_
          refine cs_seq ?_
          refine cs_region (l := [_, _, _]) ?_
          refine ls_val (v := .int .i64 x11_3) rfl rfl (by kernel_rfl) (fun w => by kernel_rfl) ?_
          refine ls_val (v := .int .i64 (Int.tmod x11_3 (3 : Int))) rfl rfl (by kernel_rfl) (fun w => by kernel_rfl) ?_
          refine ls_val (v := .bool (decide ((Int.tmod x11_3 (3 : Int)) = (2 : Int)))) rfl rfl (by kernel_rfl) (fun w => by kernel_rfl) ?_
          refine ls_end ?_
          refine qn_then ?_
          by_cases q8 : (Int.tmod x11_3 (3 : Int)) = (2 : Int)
          · replace H := ite_t q8 H
            refine cs_know (c := true) (dec_t q8) 70 (by kernel_rfl) ?_
            refine cs_true (by kernel_rfl) ?_
            refine cs_region (l := [_, _, _]) ?_
            refine ls_val (v := .int .i64 (IntKind.wrap .i64 (x10_3 + (1 : Int)))) rfl rfl (by kernel_rfl) (fun w => by kernel_rfl) ?_
            obtain ⟨y9, hy10, H⟩ := lt_some H
            refine ls_val (v := .int .i64 (IntKind.wrap .i64 ((IntKind.wrap .i64 (x10_3 + (1 : Int))) + (1 : Int)))) rfl rfl (by kernel_rfl) (fun w => by kernel_rfl) ?_
            refine ls_ren 72 (v := .int .i64 (IntKind.wrap .i64 ((IntKind.wrap .i64 (x10_3 + (1 : Int))) + (1 : Int)))) (v' := .int .i64 y9) (by kernel_rfl) (by rw [hy10]) ?_
            refine ls_val (v := .int .i64 y9) rfl rfl (by kernel_rfl) (fun w => by kernel_rfl) ?_
            refine ls_end ?_
            refine qn_block ?_
            refine qn_then ?_
            refine cs_region (l := [_, _, _]) ?_
            refine ls_val (v := .int .i64 x11_3) rfl rfl (by kernel_rfl) (fun w => by kernel_rfl) ?_
            refine ls_val (v := .int .i64 (IntKind.wrap .i64 (x11_3 + (1 : Int)))) rfl rfl (by kernel_rfl) (fun w => by kernel_rfl) ?_
            refine ls_val (v := .int .i64 (IntKind.wrap .i64 (x11_3 + (1 : Int)))) rfl rfl (by kernel_rfl) (fun w => by kernel_rfl) ?_
            refine ls_end ?_
            refine qn_again k3 (sput (sput s0 0 (some (Ck.var 34 x3.1 (([Value.slice (some ⟨x3.2.2.1, 0, none⟩) x3.2.2.2.2 x3.2.2.2.1] ++ ([Value.map (some x3.2.1)] ++ ([Value.bool m0_2.2.2.1] ++ ([Value.int .i64 m0_2.2.2.2.1] ++ [Value.bool m0_2.2.2.2.2])))))))) 1 (some (Ck.mr T48 x3.2.1 x3.2.2.1 x3.2.2.2.1 x3.2.2.2.2 m1_2))) (Nat.le_refl _) ⟨_, y9, (IntKind.wrap .i64 (x11_3 + (1 : Int))), fr_next (fr_next (fr_next (fr_next (fr_next (fr_next (rfl) (by kernel_rfl)) (by kernel_rfl)) (by kernel_rfl)) (by kernel_rfl)) (by kernel_rfl)) (by kernel_rfl), rfl, H⟩ (sub_put (by exact rfl) (sub_put (by exact rfl) (sub_nil _)))
          · replace H := ite_f q8 H
            refine cs_know (c := false) (dec_f q8) 70 (by kernel_rfl) ?_
            refine cs_false (by kernel_rfl) ?_
            refine cs_skip' ?_
            refine qn_block ?_
            refine qn_then ?_
            refine cs_region (l := [_, _, _]) ?_
            refine ls_val (v := .int .i64 x11_3) rfl rfl (by kernel_rfl) (fun w => by kernel_rfl) ?_
            refine ls_val (v := .int .i64 (IntKind.wrap .i64 (x11_3 + (1 : Int)))) rfl rfl (by kernel_rfl) (fun w => by kernel_rfl) ?_
            refine ls_val (v := .int .i64 (IntKind.wrap .i64 (x11_3 + (1 : Int)))) rfl rfl (by kernel_rfl) (fun w => by kernel_rfl) ?_
            refine ls_end ?_
            refine qn_again k3 (sput (sput s0 0 (some (Ck.var 34 x3.1 (([Value.slice (some ⟨x3.2.2.1, 0, none⟩) x3.2.2.2.2 x3.2.2.2.1] ++ ([Value.map (some x3.2.1)] ++ ([Value.bool m0_2.2.2.1] ++ ([Value.int .i64 m0_2.2.2.2.1] ++ [Value.bool m0_2.2.2.2.2])))))))) 1 (some (Ck.mr T48 x3.2.1 x3.2.2.1 x3.2.2.2.1 x3.2.2.2.2 m1_2))) (Nat.le_refl _) ⟨_, (IntKind.wrap .i64 (x10_3 + (1 : Int))), (IntKind.wrap .i64 (x11_3 + (1 : Int))), fr_next (fr_next (fr_next (fr_next (fr_next (fr_next (rfl) (by kernel_rfl)) (by kernel_rfl)) (by kernel_rfl)) (by kernel_rfl)) (by kernel_rfl)) (by kernel_rfl), rfl, H⟩ (sub_put (by exact rfl) (sub_put (by exact rfl) (sub_nil _)))
        · replace H := ite_f q7 H
          refine cs_know (c := false) (dec_f q7) 63 (by kernel_rfl) ?_
          refine cs_false (by kernel_rfl) ?_
          refine cs_exit' ?_
          refine qx_then ?_
          refine qx_then ?_
          refine qx_same ?_
          refine qn_then ?_
          refine cs_seq ?_
          refine cs_seq ?_
          refine cs_region (l := [_, _, _]) ?_
          refine ls_val (v := .int .i64 x10_3) rfl rfl (by kernel_rfl) (fun w => by kernel_rfl) ?_
          refine ls_val (v := .int .i64 (bits .and .i64 a0 (31 : Int))) rfl rfl (by kernel_rfl) (fun w => by kernel_rfl) ?_
          refine ls_val (v := .bool (decide (x10_3 > (bits .and .i64 a0 (31 : Int))))) rfl rfl (by kernel_rfl) (fun w => by kernel_rfl) ?_
          refine ls_end ?_
          refine qn_then ?_
          by_cases q11 : x10_3 > (bits .and .i64 a0 (31 : Int))
          · replace H := ite_t q11 H
            refine cs_know (c := true) (dec_t q11) 75 (by kernel_rfl) ?_
            refine cs_true (by kernel_rfl) ?_
            refine cs_seq ?_
            refine cs_region (l := [_, _]) ?_
            refine ls_val (v := .pointer (some ⟨x3.1, 0, none⟩)) rfl rfl (by kernel_rfl) (fun w => by kernel_rfl) ?_
            obtain ⟨t12, hc13, H⟩ := bind_some H
            refine ls_callb (fid := 7) (vals := #[.pointer (some ⟨x3.1, 0, none⟩), .int .i64 (5 : Int)]) (X := Unit) (fun x => .tuple #[]) (fun x => stl [Ck.var 34 x3.1 (([Value.slice (some ⟨x3.2.2.1, 0, none⟩) x3.2.2.2.2 x3.2.2.2.1] ++ ([Value.map (some x3.2.1)] ++ ([Value.bool t12.2.2.1] ++ ([Value.int .i64 t12.2.2.2.1] ++ [Value.bool t12.2.2.2.2]))))), Ck.mr T48 x3.2.1 x3.2.2.1 x3.2.2.2.1 x3.2.2.2.2 m1_2]) [0, 1] [] [Ck.var 34 x3.1 (([Value.slice (some ⟨x3.2.2.1, 0, none⟩) x3.2.2.2.2 x3.2.2.2.1] ++ ([Value.map (some x3.2.1)] ++ ([Value.bool m0_2.2.2.1] ++ ([Value.int .i64 m0_2.2.2.2.1] ++ [Value.bool m0_2.2.2.2.2]))))), Ck.mr T48 x3.2.1 x3.2.2.1 x3.2.2.2.1 x3.2.2.2.2 m1_2] [] 2 rfl rfl (by kernel_rfl) (fun w => by kernel_rfl) ⟨by exact rfl, by exact rfl, trivial⟩ trivial (by decide) (fun w hs hb => disk_Disk_Fuse.calls k3 x3.1 x3.2.2.1 x3.2.2.2.2 x3.2.2.2.1 x3.2.1 ((), (), m0_2.2.2.1, m0_2.2.2.2.1, m0_2.2.2.2.2) m1_2 (5 : Int) t12 (lent b w [Ck.var 34 x3.1 (([Value.slice (some ⟨x3.2.2.1, 0, none⟩) x3.2.2.2.2 x3.2.2.2.1] ++ ([Value.map (some x3.2.1)] ++ ([Value.bool m0_2.2.2.1] ++ ([Value.int .i64 m0_2.2.2.2.1] ++ [Value.bool m0_2.2.2.2.2]))))), Ck.mr T48 x3.2.1 x3.2.2.1 x3.2.2.2.1 x3.2.2.2.2 m1_2] []) hb  hc13) ?_
            intro x14
            refine ls_end ?_
            refine qn_then ?_
            refine cs_seq ?_
            refine cs_region (l := [_, _, _, _, _, _, _, _, _]) ?_
            refine ls_val (v := .pointer (some ⟨x3.1, 0, none⟩)) rfl rfl (by kernel_rfl) (fun w => by kernel_rfl) ?_
            obtain ⟨t15, hc16, H⟩ := bind_some H
            refine ls_callb (fid := 9) (vals := #[.pointer (some ⟨x3.1, 0, none⟩)]) (X := Unit) (fun x => .int .i64 t15.1) (fun x => stl [Ck.var 34 x3.1 (([Value.slice (some ⟨x3.2.2.1, 0, none⟩) x3.2.2.2.2 x3.2.2.2.1] ++ ([Value.map (some x3.2.1)] ++ ([Value.bool t15.2.1.2.2.1] ++ ([Value.int .i64 t15.2.1.2.2.2.1] ++ [Value.bool t15.2.1.2.2.2.2]))))), Ck.mr T48 x3.2.1 x3.2.2.1 x3.2.2.2.1 x3.2.2.2.2 t15.2.2]) [0, 1] [] [Ck.var 34 x3.1 (([Value.slice (some ⟨x3.2.2.1, 0, none⟩) x3.2.2.2.2 x3.2.2.2.1] ++ ([Value.map (some x3.2.1)] ++ ([Value.bool t12.2.2.1] ++ ([Value.int .i64 t12.2.2.2.1] ++ [Value.bool t12.2.2.2.2]))))), Ck.mr T48 x3.2.1 x3.2.2.1 x3.2.2.2.1 x3.2.2.2.2 m1_2] [] 2 rfl rfl (by kernel_rfl) (fun w => by kernel_rfl) ⟨by exact rfl, by exact rfl, trivial⟩ trivial (by decide) (fun w hs hb => disk_Disk_Flush.calls k3 x3.1 x3.2.2.1 x3.2.2.2.2 x3.2.2.2.1 x3.2.1 ((), (), t12.2.2.1, t12.2.2.2.1, t12.2.2.2.2) m1_2 t15 (lent b w [Ck.var 34 x3.1 (([Value.slice (some ⟨x3.2.2.1, 0, none⟩) x3.2.2.2.2 x3.2.2.2.1] ++ ([Value.map (some x3.2.1)] ++ ([Value.bool t12.2.2.1] ++ ([Value.int .i64 t12.2.2.2.1] ++ [Value.bool t12.2.2.2.2]))))), Ck.mr T48 x3.2.1 x3.2.2.1 x3.2.2.2.1 x3.2.2.2.2 m1_2] []) hb  hc16) ?_
            intro x17
            refine ls_val (v := .bool (decide (t15.1 = (17 : Int)))) rfl rfl (by kernel_rfl) (fun w => by kernel_rfl) ?_
            refine ls_val (v := .bool (decide (t15.1 = (17 : Int)))) rfl rfl (by kernel_rfl) (fun w => by kernel_rfl) ?_
            by_cases q18 : t15.1 = (17 : Int)
            · replace H := ite_t q18 H
              refine ls_know (c := true) (dec_t q18) 81 (by kernel_rfl) ?_
              refine ls_on (j := 3) (t := 81) (b := true) rfl rfl (by kernel_rfl) (by kernel_rfl) ?_
              refine ls_val (v := .int .i64 x7_2) rfl rfl (by kernel_rfl) (fun w => by kernel_rfl) ?_
              refine ls_on (j := 3) (t := 81) (b := true) rfl rfl (by kernel_rfl) (by kernel_rfl) ?_
              refine ls_val (v := .int .i64 (bits .and .i64 a0 (31 : Int))) rfl rfl (by kernel_rfl) (fun w => by kernel_rfl) ?_
              refine ls_on (j := 3) (t := 81) (b := true) rfl rfl (by kernel_rfl) (by kernel_rfl) ?_
              refine ls_val (v := .bool (decide (x7_2 ≤ (bits .and .i64 a0 (31 : Int))))) rfl rfl (by kernel_rfl) (fun w => by kernel_rfl) ?_
              refine ls_val (v := .bool (decide (x7_2 ≤ (bits .and .i64 a0 (31 : Int))))) rfl rfl (by kernel_rfl) (fun w => by kernel_rfl) ?_
              refine ls_val (v := .bool (decide (x7_2 ≤ (bits .and .i64 a0 (31 : Int))))) rfl rfl (by kernel_rfl) (fun w => by kernel_rfl) ?_
              refine ls_end ?_
              refine qn_then ?_
              refine cs_ret' ?_
              refine qr_then ?_
              obtain rfl := Option.some.inj H
              refine qr_res (rs := [_]) rfl (fun w' hs => ⟨[.bool (decide (x7_2 ≤ (bits .and .i64 a0 (31 : Int))))], (res_tmp (by kernel_rfl) (.nil)), (), rfl, hs.pick (ts := []) (cs := []) trivial (by decide)⟩)
            · replace H := ite_f q18 H
              refine ls_know (c := false) (dec_f q18) 81 (by kernel_rfl) ?_
              refine ls_off (j := 3) (t := 81) (b := true) (c := false) rfl rfl (by kernel_rfl) (by kernel_rfl) rfl rfl (by kernel_rfl) ?_
              refine ls_off (j := 3) (t := 81) (b := true) (c := false) rfl rfl (by kernel_rfl) (by kernel_rfl) rfl rfl (by kernel_rfl) ?_
              refine ls_off (j := 3) (t := 81) (b := true) (c := false) rfl rfl (by kernel_rfl) (by kernel_rfl) rfl rfl (by kernel_rfl) ?_
              refine ls_val (v := .bool false) rfl rfl (by kernel_rfl) (fun w => by kernel_rfl) ?_
              refine ls_val (v := .bool false) rfl rfl (by kernel_rfl) (fun w => by kernel_rfl) ?_
              refine ls_end ?_
              refine qn_then ?_
              refine cs_ret' ?_
              refine qr_then ?_
              obtain rfl := Option.some.inj H
              refine qr_res (rs := [_]) rfl (fun w' hs => ⟨[.bool false], (res_tmp (by kernel_rfl) (.nil)), (), rfl, hs.pick (ts := []) (cs := []) trivial (by decide)⟩)
          · replace H := ite_f q11 H
            refine cs_know (c := false) (dec_f q11) 75 (by kernel_rfl) ?_
            refine cs_false (by kernel_rfl) ?_
            refine cs_skip' ?_
            refine qn_then ?_
            refine cs_seq ?_
            refine cs_region (l := [_, _, _, _]) ?_
            refine ls_val (v := .int .i64 x7_2) rfl rfl (by kernel_rfl) (fun w => by kernel_rfl) ?_
            refine ls_val (v := .int .i64 (bits .and .i64 a1 (63 : Int))) rfl rfl (by kernel_rfl) (fun w => by kernel_rfl) ?_
            refine ls_val (v := .bool (decide (x7_2 = (bits .and .i64 a1 (63 : Int))))) rfl rfl (by kernel_rfl) (fun w => by kernel_rfl) ?_
            refine ls_val (v := .bool (decide (x7_2 = (bits .and .i64 a1 (63 : Int))))) rfl rfl (by kernel_rfl) (fun w => by kernel_rfl) ?_
            refine ls_end ?_
            refine qn_then ?_
            refine cs_ret' ?_
            obtain rfl := Option.some.inj H
            refine qr_res (rs := [_]) rfl (fun w' hs => ⟨[.bool (decide (x7_2 = (bits .and .i64 a1 (63 : Int))))], (res_tmp (by kernel_rfl) (.nil)), (), rfl, hs.pick (ts := []) (cs := []) trivial (by decide)⟩)

end Go.Proofs.Ytodfejnjfigkoaa.G
