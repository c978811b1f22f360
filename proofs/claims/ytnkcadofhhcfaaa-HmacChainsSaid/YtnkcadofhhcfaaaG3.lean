/- Printed by a program of this session (sz.py): plain functions, and walks that show that the code comes to them; no condition. -/
import Derived.Test.YtnkcadofhhcfaaaProg
import Derived.Test.YtnkcadofhhcfaaaTy
import Derived.Test.YtnkcadofhhcfaaaG0
import Derived.Test.YtnkcadofhhcfaaaG1
import Derived.Test.YtnkcadofhhcfaaaG2
set_option linter.unusedVariables false
set_option linter.unusedSimpArgs false
namespace Go.Proofs.Ytnkcadofhhcfaaa.G
open Go Go.RowKit Go.Proofs.Ytnkcadofhhcfaaa.Sx

/-! ### shadowbox/shadowboxref03.End: function 41 -/
def shadowboxref03_End.cst0 : Vc Int 32 := ⟨[(0 : Int), (0 : Int), (0 : Int), (0 : Int), (0 : Int), (0 : Int), (0 : Int), (0 : Int), (0 : Int), (0 : Int), (0 : Int), (0 : Int), (0 : Int), (0 : Int), (0 : Int), (0 : Int), (0 : Int), (0 : Int), (0 : Int), (0 : Int), (0 : Int), (0 : Int), (0 : Int), (0 : Int), (0 : Int), (0 : Int), (0 : Int), (0 : Int), (0 : Int), (0 : Int), (0 : Int), (0 : Int)], rfl⟩
def shadowboxref03_End.lo5 (m0_4 : ((Vc Int 8) × Int)) : Nat → Int → ((Vc Int 32)) → Option ((Vc Int 32))
  | 0, _, _ => none
  | k5 + 1, x12_5, m5_5 => (if x12_5 < (32 : Int) then lt (IntKind.wrap .i64 (Int.tdiv x12_5 (4 : Int))) fun y16 => (if 0 ≤ y16 then (if y16 < (8 : Int) then lt (IntKind.wrap .i64 ((8 : Int) * (Int.tmod x12_5 (4 : Int)))) fun y20 => lt (IntKind.wrap .u64 (IntKind.wrap .i64 ((24 : Int) - y20))) fun y22 => (if 0 ≤ y22 then lt (shrv .u32 (m0_4.1.1.getD (y16).toNat (0 : Int)) y22) fun y25 => (if 0 ≤ x12_5 then lt (vset m5_5 (x12_5).toNat (IntKind.wrap .u8 y25)) fun y28 => (shadowboxref03_End.lo5 m0_4 k5) (IntKind.wrap .i64 (x12_5 + (1 : Int))) y28 else none) else none) else none) else none) else some m5_5)
def shadowboxref03_End.jo4 (k : Nat) (m0_4 : ((Vc Int 8) × Int)) : Option ((Vc Int 32)) := shadowboxref03_End.lo5 m0_4 k (0 : Int) shadowboxref03_End.cst0
def shadowboxref03_End.tab30 : List (List Nat) := [[], [], [], [], [3], [1, 2, 3, 4], [], [0, 1, 2, 3, 4, 5, 6], [0, 1, 2, 3, 4, 5, 6, 7]]
def shadowboxref03_End.lo6 (a2 : (Vc Int 64)) (l8_3 : List Int) (jo4 : (((Vc Int 8) × Int)) → Option ((Vc Int 32))) : Nat → Int → (((Vc Int 8) × Int)) → Option ((Vc Int 32))
  | 0, _, _ => none
  | k6 + 1, x10_6, m0_6 => (if x10_6 < (l8_3.length : Int) then (if 0 ≤ IntKind.wrap .i64 (x10_6 + (64 : Int)) then (if IntKind.wrap .i64 (x10_6 + (64 : Int)) ≤ (l8_3.length : Int) then (if 0 ≤ x10_6 then (if x10_6 ≤ IntKind.wrap .i64 (x10_6 + (64 : Int)) then lt ((l8_3.take (IntKind.wrap .i64 (x10_6 + (64 : Int))).toNat).drop (x10_6).toNat) fun xl42 => (shadowboxref03_Block.f k6 m0_6 xl42 a2).bind fun t47 => (shadowboxref03_End.lo6 a2 l8_3 jo4 k6) (IntKind.wrap .i64 (x10_6 + (64 : Int))) t47 else none) else none) else none) else none) else jo4 m0_6)
def shadowboxref03_End.jo3 (k : Nat) (a0 : ((Vc Int 8) × Int)) (a2 : (Vc Int 64)) (l8_3 : List Int) : Option ((Vc Int 32)) := shadowboxref03_End.lo6 a2 l8_3 (shadowboxref03_End.jo4 k) k (0 : Int) a0
def shadowboxref03_End.lo7 (y4 : Int) (jo3 : (List Int) → Option ((Vc Int 32))) : Nat → (List Int) → Int → Option ((Vc Int 32))
  | 0, _, _ => none
  | k7 + 1, l8_7, x9_7 => (if x9_7 ≥ (0 : Int) then lt (IntKind.wrap .u64 (IntKind.wrap .i64 ((8 : Int) * x9_7))) fun y51 => (if 0 ≤ y51 then lt (shrv .u64 (IntKind.wrap .u64 ((8 : Int) * y4)) y51) fun y54 => (if (l8_7.length + ([IntKind.wrap .u8 y54]).length) * 1 ≤ 140737488355328 then (shadowboxref03_End.lo7 y4 jo3 k7) (l8_7 ++ [IntKind.wrap .u8 y54]) (IntKind.wrap .i64 (x9_7 - (1 : Int))) else none) else none) else jo3 l8_7)
def shadowboxref03_End.jo2 (k : Nat) (a0 : ((Vc Int 8) × Int)) (a2 : (Vc Int 64)) (y4 : Int) (l8_2 : List Int) : Option ((Vc Int 32)) := shadowboxref03_End.lo7 y4 (shadowboxref03_End.jo3 k a0 a2) k l8_2 (7 : Int)
def shadowboxref03_End.lo8 (jo2 : (List Int) → Option ((Vc Int 32))) : Nat → (List Int) → Option ((Vc Int 32))
  | 0, _ => none
  | k8 + 1, l8_8 => (if (Int.tmod (l8_8.length : Int) (64 : Int)) = (56 : Int) then jo2 l8_8 else (if (l8_8.length + ([(0 : Int)]).length) * 1 ≤ 140737488355328 then (shadowboxref03_End.lo8 jo2 k8) (l8_8 ++ [(0 : Int)]) else none))
def shadowboxref03_End.jo1 (k : Nat) (a0 : ((Vc Int 8) × Int)) (a2 : (Vc Int 64)) (l1_1 : List Int) : Option ((Vc Int 32)) := lt (IntKind.wrap .u64 (a0.2 + (IntKind.wrap .u64 (l1_1.length : Int)))) fun y4 => (if (([] : List Int).length + l1_1.length) * 1 ≤ 140737488355328 then (if ((([] : List Int) ++ l1_1).length + ([(128 : Int)]).length) * 1 ≤ 140737488355328 then shadowboxref03_End.lo8 (shadowboxref03_End.jo2 k a0 a2 y4) k ((([] : List Int) ++ l1_1) ++ [(128 : Int)]) else none) else none)
def shadowboxref03_End.f (k : Nat) (a0 : ((Vc Int 8) × Int)) (l1 : List Int) (a2 : (Vc Int 64)) : Option ((Vc Int 32)) :=
  (if (l1.length : Int) > (63 : Int) then (if (63 : Int) ≤ (l1.length : Int) then lt (l1.take ((63 : Int)).toNat) fun xl71 => (shadowboxref03_End.jo1 k a0 a2) xl71 else none) else (shadowboxref03_End.jo1 k a0 a2) l1)
set_option maxRecDepth 100000 in
set_option maxHeartbeats 4000000 in
theorem shadowboxref03_End.calls (k : Nat) (a0 : ((Vc Int 8) × Int)) (A1 : Option Addr) (c1 : Nat) (l1 : List Int) (a2 : (Vc Int 64)) (r : (Vc Int 32)) (b : Bs) (hs0 : St b (stl []) b.w) (R1 : Ro b A1 (em (Ec.int 5 .u8) l1)) (C1 : l1.length ≤ c1) (H : shadowboxref03_End.f k a0 l1 a2 = some r) :
    Calls Try.prog 41 #[.agg ⟨(en (Value.int .u32) a0.1.1 ++ [Value.int .u64 a0.2])⟩, .slice A1 l1.length c1, .agg ⟨en (Value.int .u32) a2.1⟩] b.w fun e w' => ∃ x : Unit, e = .returned (.agg ⟨en (Value.int .u8) r.1⟩) ∧ St b (stl []) w' := by
  unfold shadowboxref03_End.f at H
  refine enterb (n := 84) Try.func41 rfl (by kernel_rfl) (by kernel_rfl) hs0 ?_
  refine cs_sub (s0) (sub_nil _) ?_
  refine cs_seq ?_
  refine cs_region (l := [_, _, _]) ?_
  refine ls_new rfl rfl (by kernel_rfl) 0 (fun g => .pointer (some ⟨g, 0, none⟩)) (.cells ⟨(en (Value.int .u32) a0.1.1 ++ [Value.int .u64 a0.2])⟩ 57) (fun w => by kernel_rfl) ?_
  intro g1
  refine ls_new rfl rfl (by kernel_rfl) 1 (fun g => .pointer (some ⟨g, 0, none⟩)) (.cells ⟨en (Value.int .u32) a2.1⟩ 55) (fun w => by kernel_rfl) ?_
  intro g2
  refine ls_new rfl rfl (by kernel_rfl) 2 (fun g => .pointer (some ⟨g, 0, none⟩)) (.cells ⟨en (Value.int .u8) (vrep 32 (0 : Int)).1⟩ 23) (fun w => by kernel_rfl) ?_
  intro g3
  refine ls_end ?_
  refine qn_then ?_
  refine cs_cut (fun f S => ∃ (fR : Fr) (A1_1 : Option Addr) (c1_1 : Nat) (l1_1 : List Int), f = upd (upd (upd (upd fR 1 (.slice A1_1 l1_1.length c1_1)) 3 (.pointer (some ⟨g1, 0, none⟩))) 5 (.pointer (some ⟨g2, 0, none⟩))) 6 (.pointer (some ⟨g3, 0, none⟩)) ∧ S = sput (sput (sput s0 0 (some (Ck.var 57 g1 ((en (Value.int .u32) a0.1.1 ++ [Value.int .u64 a0.2]))))) 1 (some (Ck.var 55 g2 (en (Value.int .u32) a2.1)))) 2 (some (Ck.var 23 g3 (en (Value.int .u8) (vrep 32 (0 : Int)).1))) ∧ Ro b A1_1 (em (Ec.int 5 .u8) l1_1) ∧ l1_1.length ≤ c1_1 ∧ shadowboxref03_End.jo1 k a0 a2 l1_1 = some r) ?_ ?_
  · skip
    refine cs_seq ?_
    refine cs_region (l := [_, _, _]) ?_
    refine ls_val (v := .slice A1 l1.length c1) rfl rfl (by kernel_rfl) (fun w => by kernel_rfl) ?_
    refine ls_val (v := .int .i64 (l1.length : Int)) rfl rfl (by kernel_rfl) (fun w => by kernel_rfl) ?_
    refine ls_val (v := .bool (decide ((l1.length : Int) > (63 : Int)))) rfl rfl (by kernel_rfl) (fun w => by kernel_rfl) ?_
    refine ls_end ?_
    refine qn_then ?_
    by_cases q65 : (l1.length : Int) > (63 : Int)
    · replace H := ite_t q65 H
      refine cs_know (c := true) (dec_t q65) 15 (by kernel_rfl) ?_
      refine cs_true (by kernel_rfl) ?_
      refine cs_region (l := [_, _, _]) ?_
      refine ls_val (v := .slice A1 l1.length c1) rfl rfl (by kernel_rfl) (fun w => by kernel_rfl) ?_
      obtain ⟨q66, H⟩ := ite_need H
      obtain ⟨xl71, hy72, H⟩ := lt_some H
      have hz74 : 0 ≤ ((63 : Int)).toNat := by omega
      have hz75 : ((63 : Int)).toNat ≤ l1.length := by omega
      obtain ⟨xA67, xc68, he73, xC70, xR69⟩ := cut_at (A := A1) (c := c1) (l := l1) (Ec.int 5 .u8) 0 (((63 : Int)).toNat) hz74 hz75 C1 R1 (m := xl71) (by rw [← hy72] <;> simp) (z := 1) rfl
      refine ls_cutv (A := A1) (c := c1) (m := l1.length) (z := 1) (e := 5) (a := 0) (b := ((63 : Int)).toNat) rfl rfl (by kernel_rfl) rfl (by kernel_rfl) (by kernel_rfl) (by kernel_rfl) (.inl ⟨rfl, rfl⟩) (.inr ⟨.i64, by rw [Int.toNat_of_nonneg (by first | assumption | omega)]; kernel_rfl⟩) hz74 hz75 C1 he73 ?_
      refine ls_val (v := .slice xA67 xl71.length xc68) rfl rfl (by kernel_rfl) (fun w => by kernel_rfl) ?_
      refine ls_end ?_
      refine qn_meet (sput (sput (sput s0 0 (some (Ck.var 57 g1 ((en (Value.int .u32) a0.1.1 ++ [Value.int .u64 a0.2]))))) 1 (some (Ck.var 55 g2 (en (Value.int .u32) a2.1)))) 2 (some (Ck.var 23 g3 (en (Value.int .u8) (vrep 32 (0 : Int)).1)))) ⟨_, xA67, xc68, xl71, fr_next (fr_next (fr_next (fr_next (rfl) (by kernel_rfl)) (by kernel_rfl)) (by kernel_rfl)) (by kernel_rfl), rfl, xR69, xC70, H⟩ (sub_put (by exact rfl) (sub_put (by exact rfl) (sub_put (by exact rfl) (sub_nil _))))
    · replace H := ite_f q65 H
      refine cs_know (c := false) (dec_f q65) 15 (by kernel_rfl) ?_
      refine cs_false (by kernel_rfl) ?_
      refine cs_skip' ?_
      refine qn_meet (sput (sput (sput s0 0 (some (Ck.var 57 g1 ((en (Value.int .u32) a0.1.1 ++ [Value.int .u64 a0.2]))))) 1 (some (Ck.var 55 g2 (en (Value.int .u32) a2.1)))) 2 (some (Ck.var 23 g3 (en (Value.int .u8) (vrep 32 (0 : Int)).1)))) ⟨_, A1, c1, l1, fr_next (fr_next (fr_next (fr_next (rfl) (by kernel_rfl)) (by kernel_rfl)) (by kernel_rfl)) (by kernel_rfl), rfl, R1, C1, H⟩ (sub_put (by exact rfl) (sub_put (by exact rfl) (sub_put (by exact rfl) (sub_nil _))))
  · rintro f S ⟨fr1, A1_1, c1_1, l1_1, rfl, rfl, R1_1, C1_1, H⟩
    replace H : (lt (IntKind.wrap .u64 (a0.2 + (IntKind.wrap .u64 (l1_1.length : Int)))) fun y4 => (if (([] : List Int).length + l1_1.length) * 1 ≤ 140737488355328 then (if ((([] : List Int) ++ l1_1).length + ([(128 : Int)]).length) * 1 ≤ 140737488355328 then shadowboxref03_End.lo8 (shadowboxref03_End.jo2 k a0 a2 y4) k ((([] : List Int) ++ l1_1) ++ [(128 : Int)]) else none) else none)) = some r := H
    refine cs_seq ?_
    refine cs_region (l := [_, _, _, _, _, _, _, _]) ?_
    refine ls_val (v := .pointer (some ⟨g1, (0 + 8), none⟩)) rfl rfl (by kernel_rfl) (fun w => by kernel_rfl) ?_
    refine ls_load (a0 := ⟨g1, (0 + 8), none⟩) (v := .int .u64 a0.2) (de := (TypeDesc.int .u64)) rfl rfl (by kernel_rfl) rfl (by kernel_rfl) (by kernel_rfl) (by kernel_rfl) (fun w hs => (hs.var (k := 0) (by exact rfl) (Sub4.trans (Sub4.all _) (Sub4.skip (n := 8) (len_en _ a0.1) (Sub4.all _))))) ?_
    refine ls_val (v := .slice A1_1 l1_1.length c1_1) rfl rfl (by kernel_rfl) (fun w => by kernel_rfl) ?_
    refine ls_val (v := .int .i64 (l1_1.length : Int)) rfl rfl (by kernel_rfl) (fun w => by kernel_rfl) ?_
    refine ls_val (v := .int .u64 (IntKind.wrap .u64 (l1_1.length : Int))) rfl rfl (by kernel_rfl) (fun w => by kernel_rfl) ?_
    obtain ⟨y4, hy5, H⟩ := lt_some H
    refine ls_val (v := .int .u64 (IntKind.wrap .u64 (a0.2 + (IntKind.wrap .u64 (l1_1.length : Int))))) rfl rfl (by kernel_rfl) (fun w => by kernel_rfl) ?_
    refine ls_ren 23 (v := .int .u64 (IntKind.wrap .u64 (a0.2 + (IntKind.wrap .u64 (l1_1.length : Int))))) (v' := .int .u64 y4) (by kernel_rfl) (by rw [hy5]) ?_
    refine ls_val (v := .int .u64 (IntKind.wrap .u64 ((8 : Int) * y4))) rfl rfl (by kernel_rfl) (fun w => by kernel_rfl) ?_
    refine ls_val (v := .int .u64 (IntKind.wrap .u64 ((8 : Int) * y4))) rfl rfl (by kernel_rfl) (fun w => by kernel_rfl) ?_
    refine ls_end ?_
    refine qn_then ?_
    refine cs_seq ?_
    refine cs_region (l := [_, _, _, _, _, _]) ?_
    refine ls_lit (Ec.int 5 .u8) 3 rfl rfl (by kernel_rfl) ([] : List Int) (by exact of_decide_eq_true (by kernel_rfl)) (fun w => by kernel_rfl) ?_
    intro g6
    refine ls_val (v := .slice A1_1 l1_1.length c1_1) rfl rfl (by kernel_rfl) (fun w => by kernel_rfl) ?_
    obtain ⟨q7, H⟩ := ite_need H
    refine ls_app (Ec.int 5 .u8) (A := (some ⟨g6, 0, none⟩)) (c := ([] : List Int).length) (B := A1_1) (cb := c1_1) (z := (Value.int .u8 0)) (l := ([] : List Int)) (m := l1_1) (bytes := 1) 3 rfl rfl (by kernel_rfl) rfl (by kernel_rfl) (by exact rfl) (by kernel_rfl) (fun w hs => (hs.old R1_1)) (by kernel_rfl) (by kernel_rfl) rfl (by decide) q7 ?_
    intro xA8 xc9
    refine ls_lit (Ec.int 5 .u8) 4 rfl rfl (by kernel_rfl) ([(128 : Int)]) (by exact of_decide_eq_true (by kernel_rfl)) (fun w => by kernel_rfl) ?_
    intro g10
    obtain ⟨q11, H⟩ := ite_need H
    refine ls_app (Ec.int 5 .u8) (A := xA8) (c := xc9) (B := (some ⟨g10, 0, none⟩)) (cb := [(128 : Int)].length) (z := (Value.int .u8 0)) (l := (([] : List Int) ++ l1_1)) (m := [(128 : Int)]) (bytes := 1) 3 rfl rfl (by kernel_rfl) rfl (by kernel_rfl) (by exact rfl) (by kernel_rfl) (fun w hs => (hs.rd (k := 4) (by exact rfl))) (by kernel_rfl) (by kernel_rfl) rfl (by decide) q11 ?_
    intro xA12 xc13
    refine ls_val (v := .slice xA12 ((([] : List Int) ++ l1_1) ++ [(128 : Int)]).length xc13) rfl rfl (by kernel_rfl) (fun w => by kernel_rfl) ?_
    refine ls_end ?_
    refine qn_then ?_
    refine cs_cut (fun f S => ∃ (fR : Fr) (A8_2 : Option Addr) (c8_2 : Nat) (l8_2 : List Int), f = upd (upd (upd (upd (upd fR 3 (.pointer (some ⟨g1, 0, none⟩))) 5 (.pointer (some ⟨g2, 0, none⟩))) 6 (.pointer (some ⟨g3, 0, none⟩))) 7 (.int .u64 (IntKind.wrap .u64 ((8 : Int) * y4)))) 8 (.slice A8_2 l8_2.length c8_2) ∧ S = sput (sput (sput (sput s0 0 (some (Ck.var 57 g1 ((en (Value.int .u32) a0.1.1 ++ [Value.int .u64 a0.2]))))) 1 (some (Ck.var 55 g2 (en (Value.int .u32) a2.1)))) 2 (some (Ck.var 23 g3 (en (Value.int .u8) (vrep 32 (0 : Int)).1)))) 3 (some (Ck.sl (Ec.int 5 .u8) A8_2 c8_2 l8_2)) ∧ shadowboxref03_End.jo2 k a0 a2 y4 l8_2 = some r) ?_ ?_
    · skip
      refine cs_block ?_
      refine cs_sub (sput (sput (sput (sput s0 0 (some (Ck.var 57 g1 ((en (Value.int .u32) a0.1.1 ++ [Value.int .u64 a0.2]))))) 1 (some (Ck.var 55 g2 (en (Value.int .u32) a2.1)))) 2 (some (Ck.var 23 g3 (en (Value.int .u8) (vrep 32 (0 : Int)).1)))) 3 (some (Ck.sl (Ec.int 5 .u8) xA12 xc13 ((([] : List Int) ++ l1_1) ++ [(128 : Int)])))) (sub_put (by exact rfl) (sub_put (by exact rfl) (sub_put (by exact rfl) (sub_put (by exact rfl) (sub_nil _))))) ?_
      refine cs_loop (fun kk f S => ∃ (fR : Fr) (A8_8 : Option Addr) (c8_8 : Nat) (l8_8 : List Int), f = upd (upd (upd (upd (upd fR 3 (.pointer (some ⟨g1, 0, none⟩))) 5 (.pointer (some ⟨g2, 0, none⟩))) 6 (.pointer (some ⟨g3, 0, none⟩))) 7 (.int .u64 (IntKind.wrap .u64 ((8 : Int) * y4)))) 8 (.slice A8_8 l8_8.length c8_8) ∧ S = sput (sput (sput (sput s0 0 (some (Ck.var 57 g1 ((en (Value.int .u32) a0.1.1 ++ [Value.int .u64 a0.2]))))) 1 (some (Ck.var 55 g2 (en (Value.int .u32) a2.1)))) 2 (some (Ck.var 23 g3 (en (Value.int .u8) (vrep 32 (0 : Int)).1)))) 3 (some (Ck.sl (Ec.int 5 .u8) A8_8 c8_8 l8_8)) ∧ shadowboxref03_End.lo8 (shadowboxref03_End.jo2 k a0 a2 y4) kk l8_8 = some r) k ?_ ?_ ?_
      · exact ⟨_, xA12, xc13, ((([] : List Int) ++ l1_1) ++ [(128 : Int)]), fr_next (fr_next (fr_next (fr_next (fr_next (rfl) (by kernel_rfl)) (by kernel_rfl)) (by kernel_rfl)) (by kernel_rfl)) (by kernel_rfl), rfl, H⟩
      · rintro f S ⟨fr8, A8_8, c8_8, l8_8, rfl, rfl, H⟩; cases H
      · rintro k8 f S ⟨fr8, A8_8, c8_8, l8_8, rfl, rfl, H⟩
        replace H : ((if (Int.tmod (l8_8.length : Int) (64 : Int)) = (56 : Int) then (shadowboxref03_End.jo2 k a0 a2 y4) l8_8 else (if (l8_8.length + ([(0 : Int)]).length) * 1 ≤ 140737488355328 then (shadowboxref03_End.lo8 (shadowboxref03_End.jo2 k a0 a2 y4) k8) (l8_8 ++ [(0 : Int)]) else none))) = some r := H
        refine cs_seq ?_
        refine cs_seq ?_
        refine cs_region (l := [_, _, _, _]) ?_
        refine ls_val (v := .slice A8_8 l8_8.length c8_8) rfl rfl (by kernel_rfl) (fun w => by kernel_rfl) ?_
        refine ls_val (v := .int .i64 (l8_8.length : Int)) rfl rfl (by kernel_rfl) (fun w => by kernel_rfl) ?_
        refine ls_val (v := .int .i64 (Int.tmod (l8_8.length : Int) (64 : Int))) rfl rfl (by kernel_rfl) (fun w => by kernel_rfl) ?_
        refine ls_val (v := .bool (!decide ((Int.tmod (l8_8.length : Int) (64 : Int)) = (56 : Int)))) rfl rfl (by kernel_rfl) (fun w => by kernel_rfl) ?_
        refine ls_end ?_
        refine qn_then ?_
        by_cases q60 : (Int.tmod (l8_8.length : Int) (64 : Int)) = (56 : Int)
        · replace H := ite_t q60 H
          refine cs_know (c := false) (congrArg Bool.not (dec_t q60)) 33 (by kernel_rfl) ?_
          refine cs_false (by kernel_rfl) ?_
          refine cs_exit' ?_
          refine qx_then ?_
          refine qx_then ?_
          refine qx_same ?_
          refine qn_meet (sput (sput (sput (sput s0 0 (some (Ck.var 57 g1 ((en (Value.int .u32) a0.1.1 ++ [Value.int .u64 a0.2]))))) 1 (some (Ck.var 55 g2 (en (Value.int .u32) a2.1)))) 2 (some (Ck.var 23 g3 (en (Value.int .u8) (vrep 32 (0 : Int)).1)))) 3 (some (Ck.sl (Ec.int 5 .u8) A8_8 c8_8 l8_8))) ⟨_, A8_8, c8_8, l8_8, fr_next (fr_next (fr_next (fr_next (fr_next (rfl) (by kernel_rfl)) (by kernel_rfl)) (by kernel_rfl)) (by kernel_rfl)) (by kernel_rfl), rfl, H⟩ (sub_put (by exact rfl) (sub_put (by exact rfl) (sub_put (by exact rfl) (sub_put (by exact rfl) (sub_nil _)))))
        · replace H := ite_f q60 H
          refine cs_know (c := true) (congrArg Bool.not (dec_f q60)) 33 (by kernel_rfl) ?_
          refine cs_true (by kernel_rfl) ?_
          refine cs_skip' ?_
          refine qn_then ?_
          refine cs_block ?_
          refine cs_region (l := [_, _, _, _]) ?_
          refine ls_val (v := .slice A8_8 l8_8.length c8_8) rfl rfl (by kernel_rfl) (fun w => by kernel_rfl) ?_
          refine ls_lit (Ec.int 5 .u8) 5 rfl rfl (by kernel_rfl) ([(0 : Int)]) (by exact of_decide_eq_true (by kernel_rfl)) (fun w => by kernel_rfl) ?_
          intro g61
          obtain ⟨q62, H⟩ := ite_need H
          refine ls_app (Ec.int 5 .u8) (A := A8_8) (c := c8_8) (B := (some ⟨g61, 0, none⟩)) (cb := [(0 : Int)].length) (z := (Value.int .u8 0)) (l := l8_8) (m := [(0 : Int)]) (bytes := 1) 3 rfl rfl (by kernel_rfl) rfl (by kernel_rfl) (by exact rfl) (by kernel_rfl) (fun w hs => (hs.rd (k := 5) (by exact rfl))) (by kernel_rfl) (by kernel_rfl) rfl (by decide) q62 ?_
          intro xA63 xc64
          refine ls_val (v := .slice xA63 (l8_8 ++ [(0 : Int)]).length xc64) rfl rfl (by kernel_rfl) (fun w => by kernel_rfl) ?_
          refine ls_end ?_
          refine qn_block ?_
          refine qn_again k8 (sput (sput (sput (sput s0 0 (some (Ck.var 57 g1 ((en (Value.int .u32) a0.1.1 ++ [Value.int .u64 a0.2]))))) 1 (some (Ck.var 55 g2 (en (Value.int .u32) a2.1)))) 2 (some (Ck.var 23 g3 (en (Value.int .u8) (vrep 32 (0 : Int)).1)))) 3 (some (Ck.sl (Ec.int 5 .u8) xA63 xc64 (l8_8 ++ [(0 : Int)])))) (Nat.le_refl _) ⟨_, xA63, xc64, (l8_8 ++ [(0 : Int)]), fr_next (fr_next (fr_next (fr_next (fr_next (rfl) (by kernel_rfl)) (by kernel_rfl)) (by kernel_rfl)) (by kernel_rfl)) (by kernel_rfl), rfl, H⟩ (sub_put (by exact rfl) (sub_put (by exact rfl) (sub_put (by exact rfl) (sub_put (by exact rfl) (sub_nil _)))))
    · rintro f S ⟨fr2, A8_2, c8_2, l8_2, rfl, rfl, H⟩
      replace H : (shadowboxref03_End.lo7 y4 (shadowboxref03_End.jo3 k a0 a2) k l8_2 (7 : Int)) = some r := H
      refine cs_cut (fun f S => ∃ (fR : Fr) (A8_3 : Option Addr) (c8_3 : Nat) (l8_3 : List Int), f = upd (upd (upd (upd fR 3 (.pointer (some ⟨g1, 0, none⟩))) 5 (.pointer (some ⟨g2, 0, none⟩))) 6 (.pointer (some ⟨g3, 0, none⟩))) 8 (.slice A8_3 l8_3.length c8_3) ∧ S = sput (sput (sput (sput s0 0 (some (Ck.var 57 g1 ((en (Value.int .u32) a0.1.1 ++ [Value.int .u64 a0.2]))))) 1 (some (Ck.var 55 g2 (en (Value.int .u32) a2.1)))) 2 (some (Ck.var 23 g3 (en (Value.int .u8) (vrep 32 (0 : Int)).1)))) 3 (some (Ck.sl (Ec.int 5 .u8) A8_3 c8_3 l8_3)) ∧ shadowboxref03_End.jo3 k a0 a2 l8_3 = some r) ?_ ?_
      · skip
        refine cs_seq ?_
        refine cs_region (l := [_]) ?_
        refine ls_val (v := .int .i64 (7 : Int)) rfl rfl (by kernel_rfl) (fun w => by kernel_rfl) ?_
        refine ls_end ?_
        refine qn_then ?_
        refine cs_block ?_
        refine cs_sub (sput (sput (sput (sput s0 0 (some (Ck.var 57 g1 ((en (Value.int .u32) a0.1.1 ++ [Value.int .u64 a0.2]))))) 1 (some (Ck.var 55 g2 (en (Value.int .u32) a2.1)))) 2 (some (Ck.var 23 g3 (en (Value.int .u8) (vrep 32 (0 : Int)).1)))) 3 (some (Ck.sl (Ec.int 5 .u8) A8_2 c8_2 l8_2))) (sub_put (by exact rfl) (sub_put (by exact rfl) (sub_put (by exact rfl) (sub_put (by exact rfl) (sub_nil _))))) ?_
        refine cs_loop (fun kk f S => ∃ (fR : Fr) (A8_7 : Option Addr) (c8_7 : Nat) (l8_7 : List Int) (x9_7 : Int), f = upd (upd (upd (upd (upd (upd fR 3 (.pointer (some ⟨g1, 0, none⟩))) 5 (.pointer (some ⟨g2, 0, none⟩))) 6 (.pointer (some ⟨g3, 0, none⟩))) 7 (.int .u64 (IntKind.wrap .u64 ((8 : Int) * y4)))) 8 (.slice A8_7 l8_7.length c8_7)) 9 (.int .i64 x9_7) ∧ S = sput (sput (sput (sput s0 0 (some (Ck.var 57 g1 ((en (Value.int .u32) a0.1.1 ++ [Value.int .u64 a0.2]))))) 1 (some (Ck.var 55 g2 (en (Value.int .u32) a2.1)))) 2 (some (Ck.var 23 g3 (en (Value.int .u8) (vrep 32 (0 : Int)).1)))) 3 (some (Ck.sl (Ec.int 5 .u8) A8_7 c8_7 l8_7)) ∧ shadowboxref03_End.lo7 y4 (shadowboxref03_End.jo3 k a0 a2) kk l8_7 x9_7 = some r) k ?_ ?_ ?_
        · exact ⟨_, A8_2, c8_2, l8_2, (7 : Int), fr_next (fr_next (fr_next (fr_next (fr_next (fr_next (rfl) (by kernel_rfl)) (by kernel_rfl)) (by kernel_rfl)) (by kernel_rfl)) (by kernel_rfl)) (by kernel_rfl), rfl, H⟩
        · rintro f S ⟨fr7, A8_7, c8_7, l8_7, x9_7, rfl, rfl, H⟩; cases H
        · rintro k7 f S ⟨fr7, A8_7, c8_7, l8_7, x9_7, rfl, rfl, H⟩
          replace H : ((if x9_7 ≥ (0 : Int) then lt (IntKind.wrap .u64 (IntKind.wrap .i64 ((8 : Int) * x9_7))) fun y51 => (if 0 ≤ y51 then lt (shrv .u64 (IntKind.wrap .u64 ((8 : Int) * y4)) y51) fun y54 => (if (l8_7.length + ([IntKind.wrap .u8 y54]).length) * 1 ≤ 140737488355328 then (shadowboxref03_End.lo7 y4 (shadowboxref03_End.jo3 k a0 a2) k7) (l8_7 ++ [IntKind.wrap .u8 y54]) (IntKind.wrap .i64 (x9_7 - (1 : Int))) else none) else none) else (shadowboxref03_End.jo3 k a0 a2) l8_7)) = some r := H
          refine cs_seq ?_
          refine cs_seq ?_
          refine cs_region (l := [_, _]) ?_
          refine ls_val (v := .int .i64 x9_7) rfl rfl (by kernel_rfl) (fun w => by kernel_rfl) ?_
          refine ls_val (v := .bool (decide (x9_7 ≥ (0 : Int)))) rfl rfl (by kernel_rfl) (fun w => by kernel_rfl) ?_
          refine ls_end ?_
          refine qn_then ?_
          by_cases q50 : x9_7 ≥ (0 : Int)
          · replace H := ite_t q50 H
            refine cs_know (c := true) (dec_t q50) 38 (by kernel_rfl) ?_
            refine cs_true (by kernel_rfl) ?_
            refine cs_skip' ?_
            refine qn_then ?_
            refine cs_seq ?_
            refine cs_block ?_
            refine cs_region (l := [_, _, _, _, _, _, _, _, _, _]) ?_
            refine ls_val (v := .slice A8_7 l8_7.length c8_7) rfl rfl (by kernel_rfl) (fun w => by kernel_rfl) ?_
            refine ls_val (v := .int .u64 (IntKind.wrap .u64 ((8 : Int) * y4))) rfl rfl (by kernel_rfl) (fun w => by kernel_rfl) ?_
            refine ls_val (v := .int .i64 x9_7) rfl rfl (by kernel_rfl) (fun w => by kernel_rfl) ?_
            refine ls_val (v := .int .i64 (IntKind.wrap .i64 ((8 : Int) * x9_7))) rfl rfl (by kernel_rfl) (fun w => by kernel_rfl) ?_
            obtain ⟨y51, hy52, H⟩ := lt_some H
            refine ls_val (v := .int .u64 (IntKind.wrap .u64 (IntKind.wrap .i64 ((8 : Int) * x9_7)))) rfl rfl (by kernel_rfl) (fun w => by kernel_rfl) ?_
            refine ls_ren 45 (v := .int .u64 (IntKind.wrap .u64 (IntKind.wrap .i64 ((8 : Int) * x9_7)))) (v' := .int .u64 y51) (by kernel_rfl) (by rw [hy52]) ?_
            obtain ⟨q53, H⟩ := ite_need H
            obtain ⟨y54, hy55, H⟩ := lt_some H
            refine ls_shiftr (k := .u64) (yk := .u64) (x := (IntKind.wrap .u64 ((8 : Int) * y4))) (y := y51) rfl rfl (by kernel_rfl) (fun w => by kernel_rfl) q53 ?_
            refine ls_ren 46 (v := .int .u64 (shrv .u64 (IntKind.wrap .u64 ((8 : Int) * y4)) y51)) (v' := .int .u64 y54) (by kernel_rfl) (by rw [hy55]) ?_
            refine ls_val (v := .int .u8 (IntKind.wrap .u8 y54)) rfl rfl (by kernel_rfl) (fun w => by kernel_rfl) ?_
            refine ls_lit (Ec.int 5 .u8) 5 rfl rfl (by kernel_rfl) ([IntKind.wrap .u8 y54]) (by exact of_decide_eq_true (by kernel_rfl)) (fun w => by kernel_rfl) ?_
            intro g56
            obtain ⟨q57, H⟩ := ite_need H
            refine ls_app (Ec.int 5 .u8) (A := A8_7) (c := c8_7) (B := (some ⟨g56, 0, none⟩)) (cb := [IntKind.wrap .u8 y54].length) (z := (Value.int .u8 0)) (l := l8_7) (m := [IntKind.wrap .u8 y54]) (bytes := 1) 3 rfl rfl (by kernel_rfl) rfl (by kernel_rfl) (by exact rfl) (by kernel_rfl) (fun w hs => (hs.rd (k := 5) (by exact rfl))) (by kernel_rfl) (by kernel_rfl) rfl (by decide) q57 ?_
            intro xA58 xc59
            refine ls_val (v := .slice xA58 (l8_7 ++ [IntKind.wrap .u8 y54]).length xc59) rfl rfl (by kernel_rfl) (fun w => by kernel_rfl) ?_
            refine ls_end ?_
            refine qn_block ?_
            refine qn_then ?_
            refine cs_region (l := [_, _, _]) ?_
            refine ls_val (v := .int .i64 x9_7) rfl rfl (by kernel_rfl) (fun w => by kernel_rfl) ?_
            refine ls_val (v := .int .i64 (IntKind.wrap .i64 (x9_7 - (1 : Int)))) rfl rfl (by kernel_rfl) (fun w => by kernel_rfl) ?_
            refine ls_val (v := .int .i64 (IntKind.wrap .i64 (x9_7 - (1 : Int)))) rfl rfl (by kernel_rfl) (fun w => by kernel_rfl) ?_
            refine ls_end ?_
            refine qn_again k7 (sput (sput (sput (sput s0 0 (some (Ck.var 57 g1 ((en (Value.int .u32) a0.1.1 ++ [Value.int .u64 a0.2]))))) 1 (some (Ck.var 55 g2 (en (Value.int .u32) a2.1)))) 2 (some (Ck.var 23 g3 (en (Value.int .u8) (vrep 32 (0 : Int)).1)))) 3 (some (Ck.sl (Ec.int 5 .u8) xA58 xc59 (l8_7 ++ [IntKind.wrap .u8 y54])))) (Nat.le_refl _) ⟨_, xA58, xc59, (l8_7 ++ [IntKind.wrap .u8 y54]), (IntKind.wrap .i64 (x9_7 - (1 : Int))), fr_next (fr_next (fr_next (fr_next (fr_next (fr_next (rfl) (by kernel_rfl)) (by kernel_rfl)) (by kernel_rfl)) (by kernel_rfl)) (by kernel_rfl)) (by kernel_rfl), rfl, H⟩ (sub_put (by exact rfl) (sub_put (by exact rfl) (sub_put (by exact rfl) (sub_put (by exact rfl) (sub_nil _)))))
          · replace H := ite_f q50 H
            refine cs_know (c := false) (dec_f q50) 38 (by kernel_rfl) ?_
            refine cs_false (by kernel_rfl) ?_
            refine cs_exit' ?_
            refine qx_then ?_
            refine qx_then ?_
            refine qx_same ?_
            refine qn_meet (sput (sput (sput (sput s0 0 (some (Ck.var 57 g1 ((en (Value.int .u32) a0.1.1 ++ [Value.int .u64 a0.2]))))) 1 (some (Ck.var 55 g2 (en (Value.int .u32) a2.1)))) 2 (some (Ck.var 23 g3 (en (Value.int .u8) (vrep 32 (0 : Int)).1)))) 3 (some (Ck.sl (Ec.int 5 .u8) A8_7 c8_7 l8_7))) ⟨_, A8_7, c8_7, l8_7, fr_next (fr_next (fr_next (fr_next (rfl) (by kernel_rfl)) (by kernel_rfl)) (by kernel_rfl)) (by kernel_rfl), rfl, H⟩ (sub_put (by exact rfl) (sub_put (by exact rfl) (sub_put (by exact rfl) (sub_put (by exact rfl) (sub_nil _)))))
      · rintro f S ⟨fr3, A8_3, c8_3, l8_3, rfl, rfl, H⟩
        replace H : (shadowboxref03_End.lo6 a2 l8_3 (shadowboxref03_End.jo4 k) k (0 : Int) a0) = some r := H
        refine cs_cut (fun f S => ∃ (fR : Fr) (m0_4 : ((Vc Int 8) × Int)), f = upd (upd fR 3 (.pointer (some ⟨g1, 0, none⟩))) 6 (.pointer (some ⟨g3, 0, none⟩)) ∧ S = sput (sput s0 0 (some (Ck.var 57 g1 ((en (Value.int .u32) m0_4.1.1 ++ [Value.int .u64 m0_4.2]))))) 2 (some (Ck.var 23 g3 (en (Value.int .u8) (vrep 32 (0 : Int)).1))) ∧ shadowboxref03_End.jo4 k m0_4 = some r) ?_ ?_
        · skip
          refine cs_seq ?_
          refine cs_region (l := [_]) ?_
          refine ls_val (v := .int .i64 (0 : Int)) rfl rfl (by kernel_rfl) (fun w => by kernel_rfl) ?_
          refine ls_end ?_
          refine qn_then ?_
          refine cs_block ?_
          refine cs_sub (sput (sput (sput (sput s0 0 (some (Ck.var 57 g1 ((en (Value.int .u32) a0.1.1 ++ [Value.int .u64 a0.2]))))) 1 (some (Ck.var 55 g2 (en (Value.int .u32) a2.1)))) 2 (some (Ck.var 23 g3 (en (Value.int .u8) (vrep 32 (0 : Int)).1)))) 3 (some (Ck.sl (Ec.int 5 .u8) A8_3 c8_3 l8_3))) (sub_put (by exact rfl) (sub_put (by exact rfl) (sub_put (by exact rfl) (sub_put (by exact rfl) (sub_nil _))))) ?_
          refine cs_loop (fun kk f S => ∃ (fR : Fr) (x10_6 : Int) (m0_6 : ((Vc Int 8) × Int)), f = upd (upd (upd (upd (upd fR 3 (.pointer (some ⟨g1, 0, none⟩))) 5 (.pointer (some ⟨g2, 0, none⟩))) 6 (.pointer (some ⟨g3, 0, none⟩))) 8 (.slice A8_3 l8_3.length c8_3)) 10 (.int .i64 x10_6) ∧ S = sput (sput (sput (sput s0 0 (some (Ck.var 57 g1 ((en (Value.int .u32) m0_6.1.1 ++ [Value.int .u64 m0_6.2]))))) 1 (some (Ck.var 55 g2 (en (Value.int .u32) a2.1)))) 2 (some (Ck.var 23 g3 (en (Value.int .u8) (vrep 32 (0 : Int)).1)))) 3 (some (Ck.sl (Ec.int 5 .u8) A8_3 c8_3 l8_3)) ∧ shadowboxref03_End.lo6 a2 l8_3 (shadowboxref03_End.jo4 k) kk x10_6 m0_6 = some r) k ?_ ?_ ?_
          · exact ⟨_, (0 : Int), a0, fr_next (fr_next (fr_next (fr_next (fr_next (rfl) (by kernel_rfl)) (by kernel_rfl)) (by kernel_rfl)) (by kernel_rfl)) (by kernel_rfl), rfl, H⟩
          · rintro f S ⟨fr6, x10_6, m0_6, rfl, rfl, H⟩; cases H
          · rintro k6 f S ⟨fr6, x10_6, m0_6, rfl, rfl, H⟩
            replace H : ((if x10_6 < (l8_3.length : Int) then (if 0 ≤ IntKind.wrap .i64 (x10_6 + (64 : Int)) then (if IntKind.wrap .i64 (x10_6 + (64 : Int)) ≤ (l8_3.length : Int) then (if 0 ≤ x10_6 then (if x10_6 ≤ IntKind.wrap .i64 (x10_6 + (64 : Int)) then lt ((l8_3.take (IntKind.wrap .i64 (x10_6 + (64 : Int))).toNat).drop (x10_6).toNat) fun xl42 => (shadowboxref03_Block.f k6 m0_6 xl42 a2).bind fun t47 => (shadowboxref03_End.lo6 a2 l8_3 (shadowboxref03_End.jo4 k) k6) (IntKind.wrap .i64 (x10_6 + (64 : Int))) t47 else none) else none) else none) else none) else (shadowboxref03_End.jo4 k) m0_6)) = some r := H
            refine cs_seq ?_
            refine cs_seq ?_
            refine cs_region (l := [_, _, _, _]) ?_
            refine ls_val (v := .int .i64 x10_6) rfl rfl (by kernel_rfl) (fun w => by kernel_rfl) ?_
            refine ls_val (v := .slice A8_3 l8_3.length c8_3) rfl rfl (by kernel_rfl) (fun w => by kernel_rfl) ?_
            refine ls_val (v := .int .i64 (l8_3.length : Int)) rfl rfl (by kernel_rfl) (fun w => by kernel_rfl) ?_
            refine ls_val (v := .bool (decide (x10_6 < (l8_3.length : Int)))) rfl rfl (by kernel_rfl) (fun w => by kernel_rfl) ?_
            refine ls_end ?_
            refine qn_then ?_
            by_cases q30 : x10_6 < (l8_3.length : Int)
            · replace H := ite_t q30 H
              refine cs_know (c := true) (dec_t q30) 53 (by kernel_rfl) ?_
              refine cs_true (by kernel_rfl) ?_
              refine cs_skip' ?_
              refine qn_then ?_
              refine cs_seq ?_
              refine cs_block ?_
              obtain ⟨s32_0, hs32_0⟩ : ∃ z : Value → Sto → Prop, z = (fun v R => v = .agg ⟨(en (Value.int .u32) m0_6.1.1 ++ [Value.int .u64 m0_6.2])⟩ ∧ R = s0) := ⟨_, rfl⟩
              refine have_op (l := [_, _, _, _, _, _, _, _, _]) shadowboxref03_End.tab30 5 0 (fun sp => sp 0 = s32_0) (fun sp on hA hon => ?_) (fun ops32_0 => ?_)
              · refine ⟨fun o ho vs Rs f' S' w hp hf hx hS hR hs => ?_⟩
                obtain rfl := Option.some.inj ho
                rw [hA, hs32_0]
                refine And.intro (fun a ha => (want_none rfl a ha).trans hon.symm) (And.intro (fun _ => ?_) (fun h => by rw [hon] at h; cases h))
                have hF := fr_next (rfl) ((hx 3 (by kernel_rfl)).trans (by kernel_rfl : (_ : Value) = .pointer (some ⟨g1, 0, none⟩)))
                refine ls_fr hF ?_
                refine ls_loadagg (a := ⟨g1, 0, none⟩) (sub := (en (Value.int .u32) m0_6.1.1 ++ [Value.int .u64 m0_6.2])) rfl rfl (by kernel_rfl) rfl (by kernel_rfl) (by kernel_rfl) (by kernel_rfl) (len_app (len_en _ m0_6.1) (len1 _)) (fun w1 hs1 => Rd.step (hs.vars (k := 0) ((hS 0 (by kernel_rfl)).trans (by exact rfl)) (Sub4.all _)) hs1.below.bw) ?_
                exact ls_fin s0 (.agg ⟨(en (Value.int .u32) m0_6.1.1 ++ [Value.int .u64 m0_6.2])⟩) (congrArg (fun z => upd z 56 _) hF.symm) ⟨rfl, rfl⟩ (sub_nil _)
              obtain ⟨s32_1, hs32_1⟩ : ∃ z : Value → Sto → Prop, z = (fun v R => v = .slice A8_3 l8_3.length c8_3 ∧ R = s0) := ⟨_, rfl⟩
              refine have_op (l := [_, _, _, _, _, _, _, _, _]) shadowboxref03_End.tab30 5 1 (fun sp => sp 1 = s32_1) (fun sp on hA hon => ?_) (fun ops32_1 => ?_)
              · refine ⟨fun o ho vs Rs f' S' w hp hf hx hS hR hs => ?_⟩
                obtain rfl := Option.some.inj ho
                rw [hA, hs32_1]
                refine And.intro (fun a ha => (want_none rfl a ha).trans hon.symm) (And.intro (fun _ => ?_) (fun h => by rw [hon] at h; cases h))
                have hF := fr_next (rfl) ((hx 8 (by kernel_rfl)).trans (by kernel_rfl : (_ : Value) = .slice A8_3 l8_3.length c8_3))
                refine ls_fr hF ?_
                refine ls_val (v := .slice A8_3 l8_3.length c8_3) rfl rfl (by kernel_rfl) (fun w => by kernel_rfl) ?_
                exact ls_fin s0 (.slice A8_3 l8_3.length c8_3) (congrArg (fun z => upd z 57 _) hF.symm) ⟨rfl, rfl⟩ (sub_nil _)
              obtain ⟨s32_2, hs32_2⟩ : ∃ z : Value → Sto → Prop, z = (fun v R => v = .int .i64 x10_6 ∧ R = s0) := ⟨_, rfl⟩
              refine have_op (l := [_, _, _, _, _, _, _, _, _]) shadowboxref03_End.tab30 5 2 (fun sp => sp 2 = s32_2) (fun sp on hA hon => ?_) (fun ops32_2 => ?_)
              · refine ⟨fun o ho vs Rs f' S' w hp hf hx hS hR hs => ?_⟩
                obtain rfl := Option.some.inj ho
                rw [hA, hs32_2]
                refine And.intro (fun a ha => (want_none rfl a ha).trans hon.symm) (And.intro (fun _ => ?_) (fun h => by rw [hon] at h; cases h))
                have hF := fr_next (rfl) ((hx 10 (by kernel_rfl)).trans (by kernel_rfl : (_ : Value) = .int .i64 x10_6))
                refine ls_fr hF ?_
                refine ls_val (v := .int .i64 x10_6) rfl rfl (by kernel_rfl) (fun w => by kernel_rfl) ?_
                exact ls_fin s0 (.int .i64 x10_6) (congrArg (fun z => upd z 58 _) hF.symm) ⟨rfl, rfl⟩ (sub_nil _)
              obtain ⟨s32_3, hs32_3⟩ : ∃ z : Value → Sto → Prop, z = (fun v R => v = .int .i64 x10_6 ∧ R = s0) := ⟨_, rfl⟩
              refine have_op (l := [_, _, _, _, _, _, _, _, _]) shadowboxref03_End.tab30 5 3 (fun sp => sp 3 = s32_3) (fun sp on hA hon => ?_) (fun ops32_3 => ?_)
              · refine ⟨fun o ho vs Rs f' S' w hp hf hx hS hR hs => ?_⟩
                obtain rfl := Option.some.inj ho
                rw [hA, hs32_3]
                refine And.intro (fun a ha => (want_none rfl a ha).trans hon.symm) (And.intro (fun _ => ?_) (fun h => by rw [hon] at h; cases h))
                have hF := fr_next (rfl) ((hx 10 (by kernel_rfl)).trans (by kernel_rfl : (_ : Value) = .int .i64 x10_6))
                refine ls_fr hF ?_
                refine ls_val (v := .int .i64 x10_6) rfl rfl (by kernel_rfl) (fun w => by kernel_rfl) ?_
                exact ls_fin s0 (.int .i64 x10_6) (congrArg (fun z => upd z 59 _) hF.symm) ⟨rfl, rfl⟩ (sub_nil _)
              obtain ⟨s32_4, hs32_4⟩ : ∃ z : Value → Sto → Prop, z = (fun v R => v = .int .i64 (IntKind.wrap .i64 (x10_6 + (64 : Int))) ∧ R = s0) := ⟨_, rfl⟩
              refine have_op (l := [_, _, _, _, _, _, _, _, _]) shadowboxref03_End.tab30 5 4 (fun sp => sp 4 = s32_4 ∧ sp 3 = s32_3) (fun sp on hA hon => ?_) (fun ops32_4 => ?_)
              · refine ⟨fun o ho vs Rs f' S' w hp hf hx hS hR hs => ?_⟩
                obtain rfl := Option.some.inj ho
                obtain ⟨hv3, hR3⟩ := (spe hA.2 hs32_3 (hp 3 (by kernel_rfl)))
                rw [hA.1, hs32_4]
                refine And.intro (fun a ha => (want_none rfl a ha).trans hon.symm) (And.intro (fun _ => ?_) (fun h => by rw [hon] at h; cases h))
                have hF := fr_next (rfl) ((hf 3 59 (by kernel_rfl) rfl).trans hv3)
                refine ls_fr hF ?_
                refine ls_val (v := .int .i64 (IntKind.wrap .i64 (x10_6 + (64 : Int)))) rfl rfl (by kernel_rfl) (fun w => by kernel_rfl) ?_
                exact ls_fin s0 (.int .i64 (IntKind.wrap .i64 (x10_6 + (64 : Int)))) (congrArg (fun z => upd z 60 _) hF.symm) ⟨rfl, rfl⟩ (sub_nil _)
              obtain ⟨q34, H⟩ := ite_need H
              obtain ⟨q35, H⟩ := ite_need H
              obtain ⟨q36, H⟩ := ite_need H
              obtain ⟨q37, H⟩ := ite_need H
              obtain ⟨xl42, hy43, H⟩ := lt_some H
              have hz45 : (x10_6).toNat ≤ (IntKind.wrap .i64 (x10_6 + (64 : Int))).toNat := by omega
              have hz46 : (IntKind.wrap .i64 (x10_6 + (64 : Int))).toNat ≤ l8_3.length := by omega
              refine cs_cap (T := (Ec.int 5 .u8)) (tk := 3) (by exact rfl) ?_
              intro hC33
              obtain ⟨xA38, xc39, he44, xC41, xR40⟩ := cutr_at (A := A8_3) (c := c8_3) (l := l8_3) (Ec.int 5 .u8) ((x10_6).toNat) ((IntKind.wrap .i64 (x10_6 + (64 : Int))).toNat) hz45 hz46 hC33 (m := xl42) (by rw [← hy43] <;> simp) (z := 1) rfl
              obtain ⟨s32_5, hs32_5⟩ : ∃ z : Value → Sto → Prop, z = (fun v R => v = .slice xA38 xl42.length xc39 ∧ R = s0) := ⟨_, rfl⟩
              refine have_op (l := [_, _, _, _, _, _, _, _, _]) shadowboxref03_End.tab30 5 5 (fun sp => sp 5 = s32_5 ∧ sp 1 = s32_1 ∧ sp 2 = s32_2 ∧ sp 4 = s32_4) (fun sp on hA hon => ?_) (fun ops32_5 => ?_)
              · refine ⟨fun o ho vs Rs f' S' w hp hf hx hS hR hs => ?_⟩
                obtain rfl := Option.some.inj ho
                obtain ⟨hv1, hR1⟩ := (spe hA.2.1 hs32_1 (hp 1 (by kernel_rfl)))
                obtain ⟨hv2, hR2⟩ := (spe hA.2.2.1 hs32_2 (hp 2 (by kernel_rfl)))
                obtain ⟨hv4, hR4⟩ := (spe hA.2.2.2 hs32_4 (hp 4 (by kernel_rfl)))
                rw [hA.1, hs32_5]
                refine And.intro (fun a ha => (want_none rfl a ha).trans hon.symm) (And.intro (fun _ => ?_) (fun h => by rw [hon] at h; cases h))
                have hF := fr_next (fr_next (fr_next (rfl) ((hf 1 57 (by kernel_rfl) rfl).trans hv1)) ((hf 2 58 (by kernel_rfl) rfl).trans hv2)) ((hf 4 60 (by kernel_rfl) rfl).trans hv4)
                refine ls_fr hF ?_
                refine ls_cutv (A := A8_3) (c := c8_3) (m := l8_3.length) (z := 1) (e := 5) (a := (x10_6).toNat) (b := (IntKind.wrap .i64 (x10_6 + (64 : Int))).toNat) rfl rfl (by kernel_rfl) rfl (by kernel_rfl) (by kernel_rfl) (by kernel_rfl) (.inr ⟨.i64, by rw [Int.toNat_of_nonneg (by first | assumption | omega)]; kernel_rfl⟩) (.inr ⟨.i64, by rw [Int.toNat_of_nonneg (by first | assumption | omega)]; kernel_rfl⟩) hz45 hz46 hC33 he44 ?_
                exact ls_fin s0 (.slice xA38 xl42.length xc39) (congrArg (fun z => upd z 61 _) hF.symm) ⟨rfl, rfl⟩ (sub_nil _)
              obtain ⟨s32_6, hs32_6⟩ : ∃ z : Value → Sto → Prop, z = (fun v R => v = .agg ⟨en (Value.int .u32) a2.1⟩ ∧ R = s0) := ⟨_, rfl⟩
              refine have_op (l := [_, _, _, _, _, _, _, _, _]) shadowboxref03_End.tab30 5 6 (fun sp => sp 6 = s32_6) (fun sp on hA hon => ?_) (fun ops32_6 => ?_)
              · refine ⟨fun o ho vs Rs f' S' w hp hf hx hS hR hs => ?_⟩
                obtain rfl := Option.some.inj ho
                rw [hA, hs32_6]
                refine And.intro (fun a ha => (want_none rfl a ha).trans hon.symm) (And.intro (fun _ => ?_) (fun h => by rw [hon] at h; cases h))
                have hF := fr_next (rfl) ((hx 5 (by kernel_rfl)).trans (by kernel_rfl : (_ : Value) = .pointer (some ⟨g2, 0, none⟩)))
                refine ls_fr hF ?_
                refine ls_loadagg (a := ⟨g2, 0, none⟩) (sub := en (Value.int .u32) a2.1) rfl rfl (by kernel_rfl) rfl (by kernel_rfl) (by kernel_rfl) (by kernel_rfl) (len_en _ a2) (fun w1 hs1 => Rd.step (hs.vars (k := 1) ((hS 1 (by kernel_rfl)).trans (by exact rfl)) (Sub4.all _)) hs1.below.bw) ?_
                exact ls_fin s0 (.agg ⟨en (Value.int .u32) a2.1⟩) (congrArg (fun z => upd z 62 _) hF.symm) ⟨rfl, rfl⟩ (sub_nil _)
              refine cs_draw shadowboxref03_End.tab30 7 5 (spl [s32_0, s32_1, s32_2, s32_3, s32_4, s32_5, s32_6]) (onl [true, true, true, true, true, true, true]) (by kernel_rfl) (by kernel_rfl) (by kernel_rfl) (by kernel_rfl) (rs := [_, _]) rfl (by kernel_rfl) (by kernel_rfl) (all_snoc (all_snoc (all_snoc (all_snoc (all_snoc (all_snoc (all_snoc (all_nil) (ops32_0 _ _ rfl rfl)) (ops32_1 _ _ rfl rfl)) (ops32_2 _ _ rfl rfl)) (ops32_3 _ _ rfl rfl)) (ops32_4 _ _ ⟨rfl, rfl⟩ rfl)) (ops32_5 _ _ ⟨rfl, rfl, rfl, rfl⟩ rfl)) (ops32_6 _ _ rfl rfl)) ?_
              intro vs Rs f' S' hp hf hx hS hR
              obtain ⟨hv0, hR0⟩ := (spe rfl hs32_0 (hp 0 (by kernel_rfl)))
              obtain ⟨hv5, hR5⟩ := (spe rfl hs32_5 (hp 5 (by kernel_rfl)))
              obtain ⟨hv6, hR6⟩ := (spe rfl hs32_6 (hp 6 (by kernel_rfl)))
              refine ls_fr (F := upd (upd (upd (upd (upd (upd (upd (upd f' 3 (.pointer (some ⟨g1, 0, none⟩))) 5 (.pointer (some ⟨g2, 0, none⟩))) 6 (.pointer (some ⟨g3, 0, none⟩))) 8 (.slice A8_3 l8_3.length c8_3)) 10 (.int .i64 x10_6)) 56 (.agg ⟨(en (Value.int .u32) m0_6.1.1 ++ [Value.int .u64 m0_6.2])⟩)) 61 (.slice xA38 xl42.length xc39)) 62 (.agg ⟨en (Value.int .u32) a2.1⟩)) (fr_next (fr_next (fr_next (fr_next (fr_next (fr_next (fr_next (fr_next (rfl) ((hx 3 (by kernel_rfl)).trans (by kernel_rfl : (_ : Value) = .pointer (some ⟨g1, 0, none⟩)))) ((hx 5 (by kernel_rfl)).trans (by kernel_rfl : (_ : Value) = .pointer (some ⟨g2, 0, none⟩)))) ((hx 6 (by kernel_rfl)).trans (by kernel_rfl : (_ : Value) = .pointer (some ⟨g3, 0, none⟩)))) ((hx 8 (by kernel_rfl)).trans (by kernel_rfl : (_ : Value) = .slice A8_3 l8_3.length c8_3))) ((hx 10 (by kernel_rfl)).trans (by kernel_rfl : (_ : Value) = .int .i64 x10_6))) ((hf 0 56 (by kernel_rfl) rfl).trans hv0)) ((hf 5 61 (by kernel_rfl) rfl).trans hv5)) ((hf 6 62 (by kernel_rfl) rfl).trans hv6)) ?_
              refine ls_sub (sput (sput (sput (sput s0 0 (some (Ck.var 57 g1 ((en (Value.int .u32) m0_6.1.1 ++ [Value.int .u64 m0_6.2]))))) 1 (some (Ck.var 55 g2 (en (Value.int .u32) a2.1)))) 2 (some (Ck.var 23 g3 (en (Value.int .u8) (vrep 32 (0 : Int)).1)))) 3 (some (Ck.sl (Ec.int 5 .u8) A8_3 c8_3 l8_3))) (sub_put ((hS 3 (by kernel_rfl)).trans (by exact rfl)) (sub_put ((hS 2 (by kernel_rfl)).trans (by exact rfl)) (sub_put ((hS 1 (by kernel_rfl)).trans (by exact rfl)) (sub_put ((hS 0 (by kernel_rfl)).trans (by exact rfl)) (sub_nil _))))) ?_
              obtain ⟨t47, hc48, H⟩ := bind_some H
              refine ls_callb (fid := 40) (vals := #[.agg ⟨(en (Value.int .u32) m0_6.1.1 ++ [Value.int .u64 m0_6.2])⟩, .slice xA38 xl42.length xc39, .agg ⟨en (Value.int .u32) a2.1⟩]) (X := Unit) (fun x => .agg ⟨(en (Value.int .u32) t47.1.1 ++ [Value.int .u64 t47.2])⟩) (fun x => stl []) [] [3] [] [Ck.sl (Ec.int 5 .u8) A8_3 c8_3 l8_3] 61 rfl rfl (by kernel_rfl) (fun w => by kernel_rfl) trivial ⟨by exact rfl, trivial⟩ (by decide) (fun w hs hb => shadowboxref03_Block.calls k6 m0_6 xA38 xc39 xl42 a2 t47 (lent b w [] [Ck.sl (Ec.int 5 .u8) A8_3 c8_3 l8_3]) hb (Rd.ror (xR40.1 _ (hs.rd (k := 3) (by exact rfl))) (.head _) (cut_key xR40.2 Ck.sl_key)) xC41 hc48) ?_
              intro x49
              refine ls_storec (g := g1) (off := 0) (v := .agg ⟨(en (Value.int .u32) t47.1.1 ++ [Value.int .u64 t47.2])⟩) (vs := (en (Value.int .u32) t47.1.1 ++ [Value.int .u64 t47.2])) (cs := (en (Value.int .u32) m0_6.1.1 ++ [Value.int .u64 m0_6.2])) (ty := 57) 0 rfl rfl rfl (by kernel_rfl) (by kernel_rfl) (by kernel_rfl) (by exact rfl) (by kernel_rfl) (len_app (len_en _ t47.1) (len1 _)) (one_app (one_en (fun _ => rfl) _) (one_cons rfl one_nil)) (hl_of (Sub4.all _) (len_eq (len_app (len_en _ t47.1) (len1 _)) (len_app (len_en _ m0_6.1) (len1 _)))) (cs' := (en (Value.int .u32) t47.1.1 ++ [Value.int .u64 t47.2])) (splc_all (len_eq (len_app (len_en _ t47.1) (len1 _)) (len_app (len_en _ m0_6.1) (len1 _)))) ?_
              refine ls_end ?_
              refine qn_block ?_
              refine qn_then ?_
              refine cs_region (l := [_, _, _]) ?_
              refine ls_val (v := .int .i64 x10_6) rfl rfl (by kernel_rfl) (fun w => by kernel_rfl) ?_
              refine ls_val (v := .int .i64 (IntKind.wrap .i64 (x10_6 + (64 : Int)))) rfl rfl (by kernel_rfl) (fun w => by kernel_rfl) ?_
              refine ls_val (v := .int .i64 (IntKind.wrap .i64 (x10_6 + (64 : Int)))) rfl rfl (by kernel_rfl) (fun w => by kernel_rfl) ?_
              refine ls_end ?_
              refine qn_again k6 (sput (sput (sput (sput s0 0 (some (Ck.var 57 g1 ((en (Value.int .u32) t47.1.1 ++ [Value.int .u64 t47.2]))))) 1 (some (Ck.var 55 g2 (en (Value.int .u32) a2.1)))) 2 (some (Ck.var 23 g3 (en (Value.int .u8) (vrep 32 (0 : Int)).1)))) 3 (some (Ck.sl (Ec.int 5 .u8) A8_3 c8_3 l8_3))) (Nat.le_refl _) ⟨_, (IntKind.wrap .i64 (x10_6 + (64 : Int))), t47, fr_next (fr_next (fr_next (fr_next (fr_next (rfl) (by kernel_rfl)) (by kernel_rfl)) (by kernel_rfl)) (by kernel_rfl)) (by kernel_rfl), rfl, H⟩ (sub_put (by exact rfl) (sub_put (by exact rfl) (sub_put (by exact rfl) (sub_put (by exact rfl) (sub_nil _)))))
            · replace H := ite_f q30 H
              refine cs_know (c := false) (dec_f q30) 53 (by kernel_rfl) ?_
              refine cs_false (by kernel_rfl) ?_
              refine cs_exit' ?_
              refine qx_then ?_
              refine qx_then ?_
              refine qx_same ?_
              refine qn_meet (sput (sput s0 0 (some (Ck.var 57 g1 ((en (Value.int .u32) m0_6.1.1 ++ [Value.int .u64 m0_6.2]))))) 2 (some (Ck.var 23 g3 (en (Value.int .u8) (vrep 32 (0 : Int)).1)))) ⟨_, m0_6, fr_next (fr_next (rfl) (by kernel_rfl)) (by kernel_rfl), rfl, H⟩ (sub_put (by exact rfl) (sub_put (by exact rfl) (sub_nil _)))
        · rintro f S ⟨fr4, m0_4, rfl, rfl, H⟩
          replace H : (shadowboxref03_End.lo5 m0_4 k (0 : Int) shadowboxref03_End.cst0) = some r := H
          refine cs_seq ?_
          refine cs_region (l := [_, _, _]) ?_
          refine ls_val (v := .agg ⟨en (Value.int .u8) shadowboxref03_End.cst0.1⟩) rfl rfl (by kernel_rfl) (fun w => by kernel_rfl) ?_
          refine ls_new rfl rfl (by kernel_rfl) 5 (fun g => .pointer (some ⟨g, 0, none⟩)) (.cells ⟨en (Value.int .u8) (vrep 32 (0 : Int)).1⟩ 23) (fun w => by kernel_rfl) ?_
          intro g14
          refine ls_storec (g := g14) (off := 0) (v := .agg ⟨en (Value.int .u8) shadowboxref03_End.cst0.1⟩) (vs := en (Value.int .u8) shadowboxref03_End.cst0.1) (cs := en (Value.int .u8) (vrep 32 (0 : Int)).1) (ty := 23) 5 rfl rfl rfl (by kernel_rfl) (by kernel_rfl) (by kernel_rfl) (by exact rfl) (by kernel_rfl) (len_en _ shadowboxref03_End.cst0) (one_en (fun _ => rfl) _) (hl_of (Sub4.all _) (len_eq (len_en _ shadowboxref03_End.cst0) (len_en _ (vrep 32 (0 : Int))))) (cs' := en (Value.int .u8) shadowboxref03_End.cst0.1) (splc_all (len_eq (len_en _ shadowboxref03_End.cst0) (len_en _ (vrep 32 (0 : Int))))) ?_
          refine ls_end ?_
          refine qn_then ?_
          refine cs_seq ?_
          refine cs_seq ?_
          refine cs_region (l := [_]) ?_
          refine ls_val (v := .int .i64 (0 : Int)) rfl rfl (by kernel_rfl) (fun w => by kernel_rfl) ?_
          refine ls_end ?_
          refine qn_then ?_
          refine cs_block ?_
          refine cs_sub (sput (sput (sput s0 0 (some (Ck.var 57 g1 ((en (Value.int .u32) m0_4.1.1 ++ [Value.int .u64 m0_4.2]))))) 2 (some (Ck.var 23 g3 (en (Value.int .u8) (vrep 32 (0 : Int)).1)))) 5 (some (Ck.var 23 g14 (en (Value.int .u8) shadowboxref03_End.cst0.1)))) (sub_put (by exact rfl) (sub_put (by exact rfl) (sub_put (by exact rfl) (sub_nil _)))) ?_
          refine cs_loop (fun kk f S => ∃ (fR : Fr) (x12_5 : Int) (m5_5 : (Vc Int 32)), f = upd (upd (upd (upd fR 3 (.pointer (some ⟨g1, 0, none⟩))) 6 (.pointer (some ⟨g3, 0, none⟩))) 11 (.pointer (some ⟨g14, 0, none⟩))) 12 (.int .i64 x12_5) ∧ S = sput (sput (sput s0 0 (some (Ck.var 57 g1 ((en (Value.int .u32) m0_4.1.1 ++ [Value.int .u64 m0_4.2]))))) 2 (some (Ck.var 23 g3 (en (Value.int .u8) (vrep 32 (0 : Int)).1)))) 5 (some (Ck.var 23 g14 (en (Value.int .u8) m5_5.1))) ∧ shadowboxref03_End.lo5 m0_4 kk x12_5 m5_5 = some r) k ?_ ?_ ?_
          · exact ⟨_, (0 : Int), shadowboxref03_End.cst0, fr_next (fr_next (fr_next (fr_next (rfl) (by kernel_rfl)) (by kernel_rfl)) (by kernel_rfl)) (by kernel_rfl), rfl, H⟩
          · rintro f S ⟨fr5, x12_5, m5_5, rfl, rfl, H⟩; cases H
          · rintro k5 f S ⟨fr5, x12_5, m5_5, rfl, rfl, H⟩
            replace H : ((if x12_5 < (32 : Int) then lt (IntKind.wrap .i64 (Int.tdiv x12_5 (4 : Int))) fun y16 => (if 0 ≤ y16 then (if y16 < (8 : Int) then lt (IntKind.wrap .i64 ((8 : Int) * (Int.tmod x12_5 (4 : Int)))) fun y20 => lt (IntKind.wrap .u64 (IntKind.wrap .i64 ((24 : Int) - y20))) fun y22 => (if 0 ≤ y22 then lt (shrv .u32 (m0_4.1.1.getD (y16).toNat (0 : Int)) y22) fun y25 => (if 0 ≤ x12_5 then lt (vset m5_5 (x12_5).toNat (IntKind.wrap .u8 y25)) fun y28 => (shadowboxref03_End.lo5 m0_4 k5) (IntKind.wrap .i64 (x12_5 + (1 : Int))) y28 else none) else none) else none) else none) else some m5_5)) = some r := H
            refine cs_seq ?_
            refine cs_seq ?_
            refine cs_region (l := [_, _]) ?_
            refine ls_val (v := .int .i64 x12_5) rfl rfl (by kernel_rfl) (fun w => by kernel_rfl) ?_
            refine ls_val (v := .bool (decide (x12_5 < (32 : Int)))) rfl rfl (by kernel_rfl) (fun w => by kernel_rfl) ?_
            refine ls_end ?_
            refine qn_then ?_
            by_cases q15 : x12_5 < (32 : Int)
            · replace H := ite_t q15 H
              refine cs_know (c := true) (dec_t q15) 66 (by kernel_rfl) ?_
              refine cs_true (by kernel_rfl) ?_
              refine cs_skip' ?_
              refine qn_then ?_
              refine cs_seq ?_
              refine cs_block ?_
              refine cs_region (l := [_, _, _, _, _, _, _, _, _, _, _, _, _, _, _]) ?_
              refine ls_val (v := .int .i64 x12_5) rfl rfl (by kernel_rfl) (fun w => by kernel_rfl) ?_
              refine ls_val (v := .int .i64 x12_5) rfl rfl (by kernel_rfl) (fun w => by kernel_rfl) ?_
              obtain ⟨y16, hy17, H⟩ := lt_some H
              refine ls_val (v := .int .i64 (IntKind.wrap .i64 (Int.tdiv x12_5 (4 : Int)))) rfl rfl (by kernel_rfl) (fun w => by kernel_rfl) ?_
              refine ls_ren 71 (v := .int .i64 (IntKind.wrap .i64 (Int.tdiv x12_5 (4 : Int)))) (v' := .int .i64 y16) (by kernel_rfl) (by rw [hy17]) ?_
              refine ls_val (v := .pointer (some ⟨g1, (0 + 0), none⟩)) rfl rfl (by kernel_rfl) (fun w => by kernel_rfl) ?_
              obtain ⟨q18, H⟩ := ite_need H
              obtain ⟨q19, H⟩ := ite_need H
              refine ls_idxa1 (g := g1) (off := (0 + 0)) (i := y16) (kk := .i64) (ln := 8) (e := 48) rfl rfl (by kernel_rfl) rfl (by kernel_rfl) (by kernel_rfl) (by kernel_rfl) (by kernel_rfl) q18 q19 ?_
              refine ls_load (a0 := ⟨g1, ((0 + 0) + (y16).toNat), none⟩) (v := .int .u32 (m0_4.1.1.getD (y16).toNat (0 : Int))) (de := (TypeDesc.int .u32)) rfl rfl (by kernel_rfl) rfl (by kernel_rfl) (by kernel_rfl) (by kernel_rfl) (fun w hs => (hs.var (k := 0) (by exact rfl) (Sub4.trans (Sub4.trans (Sub4.all _) (Sub4.head _ _)) (Sub4.one (i := (y16).toNat) (Value.int .u32) m0_4.1.1 0 (by have := m0_4.1.2; omega))))) ?_
              refine ls_val (v := .int .i64 x12_5) rfl rfl (by kernel_rfl) (fun w => by kernel_rfl) ?_
              refine ls_val (v := .int .i64 (Int.tmod x12_5 (4 : Int))) rfl rfl (by kernel_rfl) (fun w => by kernel_rfl) ?_
              obtain ⟨y20, hy21, H⟩ := lt_some H
              refine ls_val (v := .int .i64 (IntKind.wrap .i64 ((8 : Int) * (Int.tmod x12_5 (4 : Int))))) rfl rfl (by kernel_rfl) (fun w => by kernel_rfl) ?_
              refine ls_ren 77 (v := .int .i64 (IntKind.wrap .i64 ((8 : Int) * (Int.tmod x12_5 (4 : Int))))) (v' := .int .i64 y20) (by kernel_rfl) (by rw [hy21]) ?_
              refine ls_val (v := .int .i64 (IntKind.wrap .i64 ((24 : Int) - y20))) rfl rfl (by kernel_rfl) (fun w => by kernel_rfl) ?_
              obtain ⟨y22, hy23, H⟩ := lt_some H
              refine ls_val (v := .int .u64 (IntKind.wrap .u64 (IntKind.wrap .i64 ((24 : Int) - y20)))) rfl rfl (by kernel_rfl) (fun w => by kernel_rfl) ?_
              refine ls_ren 79 (v := .int .u64 (IntKind.wrap .u64 (IntKind.wrap .i64 ((24 : Int) - y20)))) (v' := .int .u64 y22) (by kernel_rfl) (by rw [hy23]) ?_
              obtain ⟨q24, H⟩ := ite_need H
              obtain ⟨y25, hy26, H⟩ := lt_some H
              refine ls_shiftr (k := .u32) (yk := .u64) (x := (m0_4.1.1.getD (y16).toNat (0 : Int))) (y := y22) rfl rfl (by kernel_rfl) (fun w => by kernel_rfl) q24 ?_
              refine ls_ren 80 (v := .int .u32 (shrv .u32 (m0_4.1.1.getD (y16).toNat (0 : Int)) y22)) (v' := .int .u32 y25) (by kernel_rfl) (by rw [hy26]) ?_
              refine ls_val (v := .int .u8 (IntKind.wrap .u8 y25)) rfl rfl (by kernel_rfl) (fun w => by kernel_rfl) ?_
              obtain ⟨q27, H⟩ := ite_need H
              refine ls_idxa1 (g := g14) (off := 0) (i := x12_5) (kk := .i64) (ln := 32) (e := 5) rfl rfl (by kernel_rfl) rfl (by kernel_rfl) (by kernel_rfl) (by kernel_rfl) (by kernel_rfl) q27 q15 ?_
              obtain ⟨y28, hy29, H⟩ := lt_some H
              refine ls_storec (g := g14) (off := (0 + (x12_5).toNat)) (v := .int .u8 (IntKind.wrap .u8 y25)) (vs := [Value.int .u8 (IntKind.wrap .u8 y25)]) (cs := en (Value.int .u8) m5_5.1) (ty := 23) 5 rfl rfl rfl (by kernel_rfl) (by kernel_rfl) (by kernel_rfl) (by exact rfl) (by kernel_rfl) (len1 _) (one_cons rfl one_nil) (hl_of (Sub4.trans (Sub4.all _) (Sub4.one (i := (x12_5).toNat) (Value.int .u8) m5_5.1 0 (by have := m5_5.2; omega))) (len_eq (len1 _) (len1 _))) (cs' := en (Value.int .u8) y28.1) (splc_in (Sub4.all _) ((splc_one (Value.int .u8) m5_5.1 (IntKind.wrap .u8 y25) (by have := m5_5.2; omega)).trans (congrArg (fun z : (Vc Int 32) => en (Value.int .u8) z.1) hy29)) (splc_all (len_eq (len_en _ y28) (len_en _ m5_5))) (hl_of (Sub4.one (i := (x12_5).toNat) (Value.int .u8) m5_5.1 0 (by have := m5_5.2; omega)) (len_eq (len1 _) (len1 _)))) ?_
              refine ls_end ?_
              refine qn_block ?_
              refine qn_then ?_
              refine cs_region (l := [_, _, _]) ?_
              refine ls_val (v := .int .i64 x12_5) rfl rfl (by kernel_rfl) (fun w => by kernel_rfl) ?_
              refine ls_val (v := .int .i64 (IntKind.wrap .i64 (x12_5 + (1 : Int)))) rfl rfl (by kernel_rfl) (fun w => by kernel_rfl) ?_
              refine ls_val (v := .int .i64 (IntKind.wrap .i64 (x12_5 + (1 : Int)))) rfl rfl (by kernel_rfl) (fun w => by kernel_rfl) ?_
              refine ls_end ?_
              refine qn_again k5 (sput (sput (sput s0 0 (some (Ck.var 57 g1 ((en (Value.int .u32) m0_4.1.1 ++ [Value.int .u64 m0_4.2]))))) 2 (some (Ck.var 23 g3 (en (Value.int .u8) (vrep 32 (0 : Int)).1)))) 5 (some (Ck.var 23 g14 (en (Value.int .u8) y28.1)))) (Nat.le_refl _) ⟨_, (IntKind.wrap .i64 (x12_5 + (1 : Int))), y28, fr_next (fr_next (fr_next (fr_next (rfl) (by kernel_rfl)) (by kernel_rfl)) (by kernel_rfl)) (by kernel_rfl), rfl, H⟩ (sub_put (by exact rfl) (sub_put (by exact rfl) (sub_put (by exact rfl) (sub_nil _))))
            · replace H := ite_f q15 H
              refine cs_know (c := false) (dec_f q15) 66 (by kernel_rfl) ?_
              refine cs_false (by kernel_rfl) ?_
              refine cs_exit' ?_
              refine qx_then ?_
              refine qx_then ?_
              refine qx_same ?_
              refine qn_then ?_
              refine cs_seq ?_
              refine cs_region (l := [_, _]) ?_
              refine ls_loadagg (a := ⟨g14, 0, none⟩) (sub := en (Value.int .u8) m5_5.1) rfl rfl (by kernel_rfl) rfl (by kernel_rfl) (by kernel_rfl) (by kernel_rfl) (len_en _ m5_5) (fun w hs => (hs.vars (k := 5) (by exact rfl) (Sub4.all _))) ?_
              refine ls_storec (g := g3) (off := 0) (v := .agg ⟨en (Value.int .u8) m5_5.1⟩) (vs := en (Value.int .u8) m5_5.1) (cs := en (Value.int .u8) (vrep 32 (0 : Int)).1) (ty := 23) 2 rfl rfl rfl (by kernel_rfl) (by kernel_rfl) (by kernel_rfl) (by exact rfl) (by kernel_rfl) (len_en _ m5_5) (one_en (fun _ => rfl) _) (hl_of (Sub4.all _) (len_eq (len_en _ m5_5) (len_en _ (vrep 32 (0 : Int))))) (cs' := en (Value.int .u8) m5_5.1) (splc_all (len_eq (len_en _ m5_5) (len_en _ (vrep 32 (0 : Int))))) ?_
              refine ls_end ?_
              refine qn_then ?_
              refine cs_ret' ?_
              obtain rfl := Option.some.inj H
              refine qr_res (rs := [_]) rfl (fun w' hs => ⟨[.agg ⟨en (Value.int .u8) m5_5.1⟩], (.cell (by kernel_rfl) (run_cellres (by kernel_rfl) (by kernel_rfl) (len_en _ m5_5) (hs.holds 2 _ (by exact rfl))) (.nil)), (), rfl, hs.pick (ts := []) (cs := []) trivial (by decide)⟩)

/-! ### shadowbox/shadowboxref03.Sum: function 24 -/
def shadowboxref03_Sum.tab10 : List (List Nat) := [[], [], [1], [], [0, 1, 2, 3], [0, 1, 2, 3, 4]]
def shadowboxref03_Sum.lo1 (t2 : (Vc Int 64)) : Nat → (List Int) → (((Vc Int 8) × Int)) → Option ((Vc Int 32))
  | 0, _, _ => none
  | k1 + 1, l0_1, m2_1 => (if (l0_1.length : Int) ≥ (64 : Int) then (if (64 : Int) ≤ (l0_1.length : Int) then lt (l0_1.take ((64 : Int)).toNat) fun xl18 => (shadowboxref03_Block.f k1 m2_1 xl18 t2).bind fun t23 => lt (l0_1.drop ((64 : Int)).toNat) fun xl30 => (shadowboxref03_Sum.lo1 t2 k1) xl30 t23 else none) else (shadowboxref03_End.f k1 m2_1 l0_1 t2).bind fun t35 => some t35)
def shadowboxref03_Sum.f (k : Nat) (l0 : List Int) : Option ((Vc Int 32)) :=
  (shadowboxref03_Keys.f k).bind fun t2 => (shadowboxref03_Begin.f k).bind fun t6 => shadowboxref03_Sum.lo1 t2 k l0 t6
set_option maxRecDepth 100000 in
set_option maxHeartbeats 4000000 in
theorem shadowboxref03_Sum.calls (k : Nat) (A0 : Option Addr) (c0 : Nat) (l0 : List Int) (r : (Vc Int 32)) (b : Bs) (hs0 : St b (stl []) b.w) (R0 : Ro b A0 (em (Ec.int 5 .u8) l0)) (C0 : l0.length ≤ c0) (H : shadowboxref03_Sum.f k l0 = some r) :
    Calls Try.prog 24 #[.slice A0 l0.length c0] b.w fun e w' => ∃ x : Unit, e = .returned (.agg ⟨en (Value.int .u8) r.1⟩) ∧ St b (stl []) w' := by
  unfold shadowboxref03_Sum.f at H
  refine enterb (n := 21) Try.func24 rfl (by kernel_rfl) (by kernel_rfl) hs0 ?_
  refine cs_sub (s0) (sub_nil _) ?_
  refine cs_seq ?_
  refine cs_region (l := [_]) ?_
  refine ls_new rfl rfl (by kernel_rfl) 0 (fun g => .pointer (some ⟨g, 0, none⟩)) (.cells ⟨en (Value.int .u8) (vrep 32 (0 : Int)).1⟩ 23) (fun w => by kernel_rfl) ?_
  intro g1
  refine ls_end ?_
  refine qn_then ?_
  refine cs_seq ?_
  refine cs_region (l := [_, _, _]) ?_
  obtain ⟨t2, hc3, H⟩ := bind_some H
  refine ls_callb (fid := 38) (vals := #[]) (X := Unit) (fun x => .agg ⟨en (Value.int .u32) t2.1⟩) (fun x => stl []) [] [] [] [] 1 rfl rfl (by kernel_rfl) (fun w => by kernel_rfl) trivial trivial (by decide) (fun w hs hb => shadowboxref03_Keys.calls k  t2 (lent b w [] []) hb  hc3) ?_
  intro x4
  refine ls_new rfl rfl (by kernel_rfl) 1 (fun g => .pointer (some ⟨g, 0, none⟩)) (.cells ⟨en (Value.int .u32) (vrep 64 (0 : Int)).1⟩ 55) (fun w => by kernel_rfl) ?_
  intro g5
  refine ls_storec (g := g5) (off := 0) (v := .agg ⟨en (Value.int .u32) t2.1⟩) (vs := en (Value.int .u32) t2.1) (cs := en (Value.int .u32) (vrep 64 (0 : Int)).1) (ty := 55) 1 rfl rfl rfl (by kernel_rfl) (by kernel_rfl) (by kernel_rfl) (by exact rfl) (by kernel_rfl) (len_en _ t2) (one_en (fun _ => rfl) _) (hl_of (Sub4.all _) (len_eq (len_en _ t2) (len_en _ (vrep 64 (0 : Int))))) (cs' := en (Value.int .u32) t2.1) (splc_all (len_eq (len_en _ t2) (len_en _ (vrep 64 (0 : Int))))) ?_
  refine ls_end ?_
  refine qn_then ?_
  refine cs_seq ?_
  refine cs_region (l := [_, _, _]) ?_
  obtain ⟨t6, hc7, H⟩ := bind_some H
  refine ls_callb (fid := 39) (vals := #[]) (X := Unit) (fun x => .agg ⟨(en (Value.int .u32) t6.1.1 ++ [Value.int .u64 t6.2])⟩) (fun x => stl []) [] [] [] [] 2 rfl rfl (by kernel_rfl) (fun w => by kernel_rfl) trivial trivial (by decide) (fun w hs hb => shadowboxref03_Begin.calls k  t6 (lent b w [] []) hb  hc7) ?_
  intro x8
  refine ls_new rfl rfl (by kernel_rfl) 2 (fun g => .pointer (some ⟨g, 0, none⟩)) (.cells ⟨(en (Value.int .u32) (vrep 8 (0 : Int)).1 ++ [Value.int .u64 (0 : Int)])⟩ 57) (fun w => by kernel_rfl) ?_
  intro g9
  refine ls_storec (g := g9) (off := 0) (v := .agg ⟨(en (Value.int .u32) t6.1.1 ++ [Value.int .u64 t6.2])⟩) (vs := (en (Value.int .u32) t6.1.1 ++ [Value.int .u64 t6.2])) (cs := (en (Value.int .u32) (vrep 8 (0 : Int)).1 ++ [Value.int .u64 (0 : Int)])) (ty := 57) 2 rfl rfl rfl (by kernel_rfl) (by kernel_rfl) (by kernel_rfl) (by exact rfl) (by kernel_rfl) (len_app (len_en _ t6.1) (len1 _)) (one_app (one_en (fun _ => rfl) _) (one_cons rfl one_nil)) (hl_of (Sub4.all _) (len_eq (len_app (len_en _ t6.1) (len1 _)) (len_app (len_en _ (vrep 8 (0 : Int))) (len1 _)))) (cs' := (en (Value.int .u32) t6.1.1 ++ [Value.int .u64 t6.2])) (splc_all (len_eq (len_app (len_en _ t6.1) (len1 _)) (len_app (len_en _ (vrep 8 (0 : Int))) (len1 _)))) ?_
  refine ls_end ?_
  refine qn_then ?_
  refine cs_seq ?_
  refine cs_block ?_
  refine cs_sub (sput (sput (sput s0 0 (some (Ck.var 23 g1 (en (Value.int .u8) (vrep 32 (0 : Int)).1)))) 1 (some (Ck.var 55 g5 (en (Value.int .u32) t2.1)))) 2 (some (Ck.var 57 g9 ((en (Value.int .u32) t6.1.1 ++ [Value.int .u64 t6.2]))))) (sub_put (by exact rfl) (sub_put (by exact rfl) (sub_put (by exact rfl) (sub_nil _)))) ?_
  refine cs_loop (fun kk f S => ∃ (fR : Fr) (A0_1 : Option Addr) (c0_1 : Nat) (l0_1 : List Int) (m2_1 : ((Vc Int 8) × Int)), f = upd (upd (upd (upd fR 0 (.slice A0_1 l0_1.length c0_1)) 2 (.pointer (some ⟨g1, 0, none⟩))) 3 (.pointer (some ⟨g5, 0, none⟩))) 4 (.pointer (some ⟨g9, 0, none⟩)) ∧ S = sput (sput (sput s0 0 (some (Ck.var 23 g1 (en (Value.int .u8) (vrep 32 (0 : Int)).1)))) 1 (some (Ck.var 55 g5 (en (Value.int .u32) t2.1)))) 2 (some (Ck.var 57 g9 ((en (Value.int .u32) m2_1.1.1 ++ [Value.int .u64 m2_1.2])))) ∧ Ro b A0_1 (em (Ec.int 5 .u8) l0_1) ∧ l0_1.length ≤ c0_1 ∧ shadowboxref03_Sum.lo1 t2 kk l0_1 m2_1 = some r) k ?_ ?_ ?_
  · exact ⟨_, A0, c0, l0, t6, fr_next (fr_next (fr_next (fr_next (rfl) (by kernel_rfl)) (by kernel_rfl)) (by kernel_rfl)) (by kernel_rfl), rfl, R0, C0, H⟩
  · rintro f S ⟨fr1, A0_1, c0_1, l0_1, m2_1, rfl, rfl, R0_1, C0_1, H⟩; cases H
  · rintro k1 f S ⟨fr1, A0_1, c0_1, l0_1, m2_1, rfl, rfl, R0_1, C0_1, H⟩
    replace H : ((if (l0_1.length : Int) ≥ (64 : Int) then (if (64 : Int) ≤ (l0_1.length : Int) then lt (l0_1.take ((64 : Int)).toNat) fun xl18 => (shadowboxref03_Block.f k1 m2_1 xl18 t2).bind fun t23 => lt (l0_1.drop ((64 : Int)).toNat) fun xl30 => (shadowboxref03_Sum.lo1 t2 k1) xl30 t23 else none) else (shadowboxref03_End.f k1 m2_1 l0_1 t2).bind fun t35 => some t35)) = some r := H
    refine cs_seq ?_
    refine cs_seq ?_
    refine cs_region (l := [_, _, _]) ?_
    refine ls_val (v := .slice A0_1 l0_1.length c0_1) rfl rfl (by kernel_rfl) (fun w => by kernel_rfl) ?_
    refine ls_val (v := .int .i64 (l0_1.length : Int)) rfl rfl (by kernel_rfl) (fun w => by kernel_rfl) ?_
    refine ls_val (v := .bool (decide ((l0_1.length : Int) ≥ (64 : Int)))) rfl rfl (by kernel_rfl) (fun w => by kernel_rfl) ?_
    refine ls_end ?_
    refine qn_then ?_
    by_cases q10 : (l0_1.length : Int) ≥ (64 : Int)
    · replace H := ite_t q10 H
      refine cs_know (c := true) (dec_t q10) 9 (by kernel_rfl) ?_
      refine cs_true (by kernel_rfl) ?_
      refine cs_skip' ?_
      refine qn_then ?_
      refine cs_block ?_
      refine cs_seq ?_
      obtain ⟨s12_0, hs12_0⟩ : ∃ z : Value → Sto → Prop, z = (fun v R => v = .agg ⟨(en (Value.int .u32) m2_1.1.1 ++ [Value.int .u64 m2_1.2])⟩ ∧ R = s0) := ⟨_, rfl⟩
      refine have_op (l := [_, _, _, _, _, _]) shadowboxref03_Sum.tab10 3 0 (fun sp => sp 0 = s12_0) (fun sp on hA hon => ?_) (fun ops12_0 => ?_)
      · refine ⟨fun o ho vs Rs f' S' w hp hf hx hS hR hs => ?_⟩
        obtain rfl := Option.some.inj ho
        rw [hA, hs12_0]
        refine And.intro (fun a ha => (want_none rfl a ha).trans hon.symm) (And.intro (fun _ => ?_) (fun h => by rw [hon] at h; cases h))
        have hF := fr_next (rfl) ((hx 4 (by kernel_rfl)).trans (by kernel_rfl : (_ : Value) = .pointer (some ⟨g9, 0, none⟩)))
        refine ls_fr hF ?_
        refine ls_loadagg (a := ⟨g9, 0, none⟩) (sub := (en (Value.int .u32) m2_1.1.1 ++ [Value.int .u64 m2_1.2])) rfl rfl (by kernel_rfl) rfl (by kernel_rfl) (by kernel_rfl) (by kernel_rfl) (len_app (len_en _ m2_1.1) (len1 _)) (fun w1 hs1 => Rd.step (hs.vars (k := 2) ((hS 2 (by kernel_rfl)).trans (by exact rfl)) (Sub4.all _)) hs1.below.bw) ?_
        exact ls_fin s0 (.agg ⟨(en (Value.int .u32) m2_1.1.1 ++ [Value.int .u64 m2_1.2])⟩) (congrArg (fun z => upd z 10 _) hF.symm) ⟨rfl, rfl⟩ (sub_nil _)
      obtain ⟨s12_1, hs12_1⟩ : ∃ z : Value → Sto → Prop, z = (fun v R => v = .slice A0_1 l0_1.length c0_1 ∧ R = s0) := ⟨_, rfl⟩
      refine have_op (l := [_, _, _, _, _, _]) shadowboxref03_Sum.tab10 3 1 (fun sp => sp 1 = s12_1) (fun sp on hA hon => ?_) (fun ops12_1 => ?_)
      · refine ⟨fun o ho vs Rs f' S' w hp hf hx hS hR hs => ?_⟩
        obtain rfl := Option.some.inj ho
        rw [hA, hs12_1]
        refine And.intro (fun a ha => (want_none rfl a ha).trans hon.symm) (And.intro (fun _ => ?_) (fun h => by rw [hon] at h; cases h))
        have hF := fr_next (rfl) ((hx 0 (by kernel_rfl)).trans (by kernel_rfl : (_ : Value) = .slice A0_1 l0_1.length c0_1))
        refine ls_fr hF ?_
        refine ls_val (v := .slice A0_1 l0_1.length c0_1) rfl rfl (by kernel_rfl) (fun w => by kernel_rfl) ?_
        exact ls_fin s0 (.slice A0_1 l0_1.length c0_1) (congrArg (fun z => upd z 11 _) hF.symm) ⟨rfl, rfl⟩ (sub_nil _)
      obtain ⟨q13, H⟩ := ite_need H
      obtain ⟨xl18, hy19, H⟩ := lt_some H
      have hz21 : 0 ≤ ((64 : Int)).toNat := by omega
      have hz22 : ((64 : Int)).toNat ≤ l0_1.length := by omega
      obtain ⟨xA14, xc15, he20, xC17, xR16⟩ := cut_at (A := A0_1) (c := c0_1) (l := l0_1) (Ec.int 5 .u8) 0 (((64 : Int)).toNat) hz21 hz22 C0_1 R0_1 (m := xl18) (by rw [← hy19] <;> simp) (z := 1) rfl
      obtain ⟨s12_2, hs12_2⟩ : ∃ z : Value → Sto → Prop, z = (fun v R => v = .slice xA14 xl18.length xc15 ∧ R = s0) := ⟨_, rfl⟩
      refine have_op (l := [_, _, _, _, _, _]) shadowboxref03_Sum.tab10 3 2 (fun sp => sp 2 = s12_2 ∧ sp 1 = s12_1) (fun sp on hA hon => ?_) (fun ops12_2 => ?_)
      · refine ⟨fun o ho vs Rs f' S' w hp hf hx hS hR hs => ?_⟩
        obtain rfl := Option.some.inj ho
        obtain ⟨hv1, hR1⟩ := (spe hA.2 hs12_1 (hp 1 (by kernel_rfl)))
        rw [hA.1, hs12_2]
        refine And.intro (fun a ha => (want_none rfl a ha).trans hon.symm) (And.intro (fun _ => ?_) (fun h => by rw [hon] at h; cases h))
        have hF := fr_next (rfl) ((hf 1 11 (by kernel_rfl) rfl).trans hv1)
        refine ls_fr hF ?_
        refine ls_cutv (A := A0_1) (c := c0_1) (m := l0_1.length) (z := 1) (e := 5) (a := 0) (b := ((64 : Int)).toNat) rfl rfl (by kernel_rfl) rfl (by kernel_rfl) (by kernel_rfl) (by kernel_rfl) (.inl ⟨rfl, rfl⟩) (.inr ⟨.i64, by rw [Int.toNat_of_nonneg (by first | assumption | omega)]; kernel_rfl⟩) hz21 hz22 C0_1 he20 ?_
        exact ls_fin s0 (.slice xA14 xl18.length xc15) (congrArg (fun z => upd z 12 _) hF.symm) ⟨rfl, rfl⟩ (sub_nil _)
      obtain ⟨s12_3, hs12_3⟩ : ∃ z : Value → Sto → Prop, z = (fun v R => v = .agg ⟨en (Value.int .u32) t2.1⟩ ∧ R = s0) := ⟨_, rfl⟩
      refine have_op (l := [_, _, _, _, _, _]) shadowboxref03_Sum.tab10 3 3 (fun sp => sp 3 = s12_3) (fun sp on hA hon => ?_) (fun ops12_3 => ?_)
      · refine ⟨fun o ho vs Rs f' S' w hp hf hx hS hR hs => ?_⟩
        obtain rfl := Option.some.inj ho
        rw [hA, hs12_3]
        refine And.intro (fun a ha => (want_none rfl a ha).trans hon.symm) (And.intro (fun _ => ?_) (fun h => by rw [hon] at h; cases h))
        have hF := fr_next (rfl) ((hx 3 (by kernel_rfl)).trans (by kernel_rfl : (_ : Value) = .pointer (some ⟨g5, 0, none⟩)))
        refine ls_fr hF ?_
        refine ls_loadagg (a := ⟨g5, 0, none⟩) (sub := en (Value.int .u32) t2.1) rfl rfl (by kernel_rfl) rfl (by kernel_rfl) (by kernel_rfl) (by kernel_rfl) (len_en _ t2) (fun w1 hs1 => Rd.step (hs.vars (k := 1) ((hS 1 (by kernel_rfl)).trans (by exact rfl)) (Sub4.all _)) hs1.below.bw) ?_
        exact ls_fin s0 (.agg ⟨en (Value.int .u32) t2.1⟩) (congrArg (fun z => upd z 13 _) hF.symm) ⟨rfl, rfl⟩ (sub_nil _)
      refine cs_draw shadowboxref03_Sum.tab10 4 3 (spl [s12_0, s12_1, s12_2, s12_3]) (onl [true, true, true, true]) (by kernel_rfl) (by kernel_rfl) (by kernel_rfl) (by kernel_rfl) (rs := [_, _]) rfl (by kernel_rfl) (by kernel_rfl) (all_snoc (all_snoc (all_snoc (all_snoc (all_nil) (ops12_0 _ _ rfl rfl)) (ops12_1 _ _ rfl rfl)) (ops12_2 _ _ ⟨rfl, rfl⟩ rfl)) (ops12_3 _ _ rfl rfl)) ?_
      intro vs Rs f' S' hp hf hx hS hR
      obtain ⟨hv0, hR0⟩ := (spe rfl hs12_0 (hp 0 (by kernel_rfl)))
      obtain ⟨hv2, hR2⟩ := (spe rfl hs12_2 (hp 2 (by kernel_rfl)))
      obtain ⟨hv3, hR3⟩ := (spe rfl hs12_3 (hp 3 (by kernel_rfl)))
      refine ls_fr (F := upd (upd (upd (upd (upd (upd (upd f' 0 (.slice A0_1 l0_1.length c0_1)) 2 (.pointer (some ⟨g1, 0, none⟩))) 3 (.pointer (some ⟨g5, 0, none⟩))) 4 (.pointer (some ⟨g9, 0, none⟩))) 10 (.agg ⟨(en (Value.int .u32) m2_1.1.1 ++ [Value.int .u64 m2_1.2])⟩)) 12 (.slice xA14 xl18.length xc15)) 13 (.agg ⟨en (Value.int .u32) t2.1⟩)) (fr_next (fr_next (fr_next (fr_next (fr_next (fr_next (fr_next (rfl) ((hx 0 (by kernel_rfl)).trans (by kernel_rfl : (_ : Value) = .slice A0_1 l0_1.length c0_1))) ((hx 2 (by kernel_rfl)).trans (by kernel_rfl : (_ : Value) = .pointer (some ⟨g1, 0, none⟩)))) ((hx 3 (by kernel_rfl)).trans (by kernel_rfl : (_ : Value) = .pointer (some ⟨g5, 0, none⟩)))) ((hx 4 (by kernel_rfl)).trans (by kernel_rfl : (_ : Value) = .pointer (some ⟨g9, 0, none⟩)))) ((hf 0 10 (by kernel_rfl) rfl).trans hv0)) ((hf 2 12 (by kernel_rfl) rfl).trans hv2)) ((hf 3 13 (by kernel_rfl) rfl).trans hv3)) ?_
      refine ls_sub (sput (sput (sput s0 0 (some (Ck.var 23 g1 (en (Value.int .u8) (vrep 32 (0 : Int)).1)))) 1 (some (Ck.var 55 g5 (en (Value.int .u32) t2.1)))) 2 (some (Ck.var 57 g9 ((en (Value.int .u32) m2_1.1.1 ++ [Value.int .u64 m2_1.2]))))) (sub_put ((hS 2 (by kernel_rfl)).trans (by exact rfl)) (sub_put ((hS 1 (by kernel_rfl)).trans (by exact rfl)) (sub_put ((hS 0 (by kernel_rfl)).trans (by exact rfl)) (sub_nil _)))) ?_
      obtain ⟨t23, hc24, H⟩ := bind_some H
      refine ls_callb (fid := 40) (vals := #[.agg ⟨(en (Value.int .u32) m2_1.1.1 ++ [Value.int .u64 m2_1.2])⟩, .slice xA14 xl18.length xc15, .agg ⟨en (Value.int .u32) t2.1⟩]) (X := Unit) (fun x => .agg ⟨(en (Value.int .u32) t23.1.1 ++ [Value.int .u64 t23.2])⟩) (fun x => stl []) [] [] [] [] 35 rfl rfl (by kernel_rfl) (fun w => by kernel_rfl) trivial trivial (by decide) (fun w hs hb => shadowboxref03_Block.calls k1 m2_1 xA14 xc15 xl18 t2 t23 (lent b w [] []) hb (hs.ro xR16 _ _) xC17 hc24) ?_
      intro x25
      refine ls_storec (g := g9) (off := 0) (v := .agg ⟨(en (Value.int .u32) t23.1.1 ++ [Value.int .u64 t23.2])⟩) (vs := (en (Value.int .u32) t23.1.1 ++ [Value.int .u64 t23.2])) (cs := (en (Value.int .u32) m2_1.1.1 ++ [Value.int .u64 m2_1.2])) (ty := 57) 2 rfl rfl rfl (by kernel_rfl) (by kernel_rfl) (by kernel_rfl) (by exact rfl) (by kernel_rfl) (len_app (len_en _ t23.1) (len1 _)) (one_app (one_en (fun _ => rfl) _) (one_cons rfl one_nil)) (hl_of (Sub4.all _) (len_eq (len_app (len_en _ t23.1) (len1 _)) (len_app (len_en _ m2_1.1) (len1 _)))) (cs' := (en (Value.int .u32) t23.1.1 ++ [Value.int .u64 t23.2])) (splc_all (len_eq (len_app (len_en _ t23.1) (len1 _)) (len_app (len_en _ m2_1.1) (len1 _)))) ?_
      refine ls_end ?_
      refine qn_then ?_
      refine cs_region (l := [_, _, _]) ?_
      refine ls_val (v := .slice A0_1 l0_1.length c0_1) rfl rfl (by kernel_rfl) (fun w => by kernel_rfl) ?_
      obtain ⟨xl30, hy31, H⟩ := lt_some H
      have hz33 : ((64 : Int)).toNat ≤ l0_1.length := by omega
      have hz34 : l0_1.length ≤ l0_1.length := by omega
      obtain ⟨xA26, xc27, he32, xC29, xR28⟩ := cut_at (A := A0_1) (c := c0_1) (l := l0_1) (Ec.int 5 .u8) (((64 : Int)).toNat) l0_1.length hz33 hz34 C0_1 R0_1 (m := xl30) (by rw [← hy31] <;> simp) (z := 1) rfl
      refine ls_cutv (A := A0_1) (c := c0_1) (m := l0_1.length) (z := 1) (e := 5) (a := ((64 : Int)).toNat) (b := l0_1.length) rfl rfl (by kernel_rfl) rfl (by kernel_rfl) (by kernel_rfl) (by kernel_rfl) (.inr ⟨.i64, by rw [Int.toNat_of_nonneg (by first | assumption | omega)]; kernel_rfl⟩) (.inl ⟨rfl, rfl⟩) hz33 hz34 C0_1 he32 ?_
      refine ls_val (v := .slice xA26 xl30.length xc27) rfl rfl (by kernel_rfl) (fun w => by kernel_rfl) ?_
      refine ls_end ?_
      refine qn_block ?_
      refine qn_again k1 (sput (sput (sput s0 0 (some (Ck.var 23 g1 (en (Value.int .u8) (vrep 32 (0 : Int)).1)))) 1 (some (Ck.var 55 g5 (en (Value.int .u32) t2.1)))) 2 (some (Ck.var 57 g9 ((en (Value.int .u32) t23.1.1 ++ [Value.int .u64 t23.2]))))) (Nat.le_refl _) ⟨_, xA26, xc27, xl30, t23, fr_next (fr_next (fr_next (fr_next (rfl) (by kernel_rfl)) (by kernel_rfl)) (by kernel_rfl)) (by kernel_rfl), rfl, xR28, xC29, H⟩ (sub_put (by exact rfl) (sub_put (by exact rfl) (sub_put (by exact rfl) (sub_nil _))))
    · replace H := ite_f q10 H
      refine cs_know (c := false) (dec_f q10) 9 (by kernel_rfl) ?_
      refine cs_false (by kernel_rfl) ?_
      refine cs_exit' ?_
      refine qx_then ?_
      refine qx_then ?_
      refine qx_same ?_
      refine qn_then ?_
      refine cs_seq ?_
      refine cs_region (l := [_, _, _, _, _]) ?_
      refine ls_loadagg (a := ⟨g9, 0, none⟩) (sub := (en (Value.int .u32) m2_1.1.1 ++ [Value.int .u64 m2_1.2])) rfl rfl (by kernel_rfl) rfl (by kernel_rfl) (by kernel_rfl) (by kernel_rfl) (len_app (len_en _ m2_1.1) (len1 _)) (fun w hs => (hs.vars (k := 2) (by exact rfl) (Sub4.all _))) ?_
      refine ls_val (v := .slice A0_1 l0_1.length c0_1) rfl rfl (by kernel_rfl) (fun w => by kernel_rfl) ?_
      refine ls_loadagg (a := ⟨g5, 0, none⟩) (sub := en (Value.int .u32) t2.1) rfl rfl (by kernel_rfl) rfl (by kernel_rfl) (by kernel_rfl) (by kernel_rfl) (len_en _ t2) (fun w hs => (hs.vars (k := 1) (by exact rfl) (Sub4.all _))) ?_
      obtain ⟨t35, hc36, H⟩ := bind_some H
      refine ls_callb (fid := 41) (vals := #[.agg ⟨(en (Value.int .u32) m2_1.1.1 ++ [Value.int .u64 m2_1.2])⟩, .slice A0_1 l0_1.length c0_1, .agg ⟨en (Value.int .u32) t2.1⟩]) (X := Unit) (fun x => .agg ⟨en (Value.int .u8) t35.1⟩) (fun x => stl []) [] [] [] [] 3 rfl rfl (by kernel_rfl) (fun w => by kernel_rfl) trivial trivial (by decide) (fun w hs hb => shadowboxref03_End.calls k1 m2_1 A0_1 c0_1 l0_1 t2 t35 (lent b w [] []) hb (hs.ro R0_1 _ _) C0_1 hc36) ?_
      intro x37
      refine ls_storec (g := g1) (off := 0) (v := .agg ⟨en (Value.int .u8) t35.1⟩) (vs := en (Value.int .u8) t35.1) (cs := en (Value.int .u8) (vrep 32 (0 : Int)).1) (ty := 23) 0 rfl rfl rfl (by kernel_rfl) (by kernel_rfl) (by kernel_rfl) (by exact rfl) (by kernel_rfl) (len_en _ t35) (one_en (fun _ => rfl) _) (hl_of (Sub4.all _) (len_eq (len_en _ t35) (len_en _ (vrep 32 (0 : Int))))) (cs' := en (Value.int .u8) t35.1) (splc_all (len_eq (len_en _ t35) (len_en _ (vrep 32 (0 : Int))))) ?_
      refine ls_end ?_
      refine qn_then ?_
      refine cs_ret' ?_
      obtain rfl := Option.some.inj H
      refine qr_res (rs := [_]) rfl (fun w' hs => ⟨[.agg ⟨en (Value.int .u8) t35.1⟩], (.cell (by kernel_rfl) (run_cellres (by kernel_rfl) (by kernel_rfl) (len_en _ t35) (hs.holds 0 _ (by exact rfl))) (.nil)), (), rfl, hs.pick (ts := []) (cs := []) trivial (by decide)⟩)

/-! ### shadowbox/shadowboxref12.pad: function 25 -/
def shadowboxref12_pad.lo2 (a1 : Int) (l0_1 : List Int) : Nat → (List Int) → Int → Option ((List Int))
  | 0, _, _ => none
  | k2 + 1, l6_2, x7_2 => (if x7_2 < (64 : Int) then (if x7_2 < (l0_1.length : Int) then (if 0 ≤ x7_2 then lt (bits .xor .u8 ((l0_1).getD (x7_2).toNat (0 : Int)) a1) fun y6 => (if (l6_2.length + ([y6]).length) * 1 ≤ 140737488355328 then (shadowboxref12_pad.lo2 a1 l0_1 k2) (l6_2 ++ [y6]) (IntKind.wrap .i64 (x7_2 + (1 : Int))) else none) else none) else (if (l6_2.length + ([a1]).length) * 1 ≤ 140737488355328 then (shadowboxref12_pad.lo2 a1 l0_1 k2) (l6_2 ++ [a1]) (IntKind.wrap .i64 (x7_2 + (1 : Int))) else none)) else some l6_2)
def shadowboxref12_pad.jo1 (k : Nat) (a1 : Int) (l0_1 : List Int) : Option ((List Int)) := shadowboxref12_pad.lo2 a1 l0_1 k ([] : List Int) (0 : Int)
def shadowboxref12_pad.f (k : Nat) (l0 : List Int) (a1 : Int) : Option ((List Int)) :=
  (if (l0.length : Int) > (64 : Int) then (shadowboxref03_Sum.f k l0).bind fun t17 => (shadowboxref12_pad.jo1 k a1) t17.1 else (shadowboxref12_pad.jo1 k a1) l0)
set_option maxRecDepth 100000 in
set_option maxHeartbeats 4000000 in
theorem shadowboxref12_pad.calls (k : Nat) (A0 : Option Addr) (c0 : Nat) (l0 : List Int) (a1 : Int) (r : (List Int)) (b : Bs) (hs0 : St b (stl []) b.w) (R0 : Ro b A0 (em (Ec.int 5 .u8) l0)) (C0 : l0.length ≤ c0) (H : shadowboxref12_pad.f k l0 a1 = some r) :
    Calls Try.prog 25 #[.slice A0 l0.length c0, .int .u8 a1] b.w fun e w' => ∃ x : (Option Addr × Nat), e = .returned (.slice x.1 r.length x.2) ∧ St b (stl [Ck.sl (Ec.int 5 .u8) x.1 x.2 r]) w' := by
  unfold shadowboxref12_pad.f at H
  refine enterb (n := 35) Try.func25 rfl (by kernel_rfl) (by kernel_rfl) hs0 ?_
  refine cs_sub (s0) (sub_nil _) ?_
  refine cs_seq ?_
  refine cs_region (l := [_]) ?_
  refine ls_val (v := .slice none 0 0) rfl rfl (by kernel_rfl) (fun w => by kernel_rfl) ?_
  refine ls_end ?_
  refine qn_then ?_
  refine cs_cutb (fun bh1 f S => ∃ (fR : Fr) (A0_1 : Option Addr) (c0_1 : Nat) (l0_1 : List Int), f = upd (upd fR 0 (.slice A0_1 l0_1.length c0_1)) 1 (.int .u8 a1) ∧ S = s0 ∧ Ro bh1 A0_1 (em (Ec.int 5 .u8) l0_1) ∧ l0_1.length ≤ c0_1 ∧ b.le bh1 ∧ shadowboxref12_pad.jo1 k a1 l0_1 = some r) ?_ ?_
  · skip
    refine cs_seq ?_
    refine cs_region (l := [_, _, _]) ?_
    refine ls_val (v := .slice A0 l0.length c0) rfl rfl (by kernel_rfl) (fun w => by kernel_rfl) ?_
    refine ls_val (v := .int .i64 (l0.length : Int)) rfl rfl (by kernel_rfl) (fun w => by kernel_rfl) ?_
    refine ls_val (v := .bool (decide ((l0.length : Int) > (64 : Int)))) rfl rfl (by kernel_rfl) (fun w => by kernel_rfl) ?_
    refine ls_end ?_
    refine qn_then ?_
    by_cases q16 : (l0.length : Int) > (64 : Int)
    · replace H := ite_t q16 H
      refine cs_know (c := true) (dec_t q16) 11 (by kernel_rfl) ?_
      refine cs_true (by kernel_rfl) ?_
      refine cs_seq ?_
      refine cs_region (l := [_, _, _, _]) ?_
      refine ls_val (v := .slice A0 l0.length c0) rfl rfl (by kernel_rfl) (fun w => by kernel_rfl) ?_
      obtain ⟨t17, hc18, H⟩ := bind_some H
      refine ls_callb (fid := 24) (vals := #[.slice A0 l0.length c0]) (X := Unit) (fun x => .agg ⟨en (Value.int .u8) t17.1⟩) (fun x => stl []) [] [] [] [] 0 rfl rfl (by kernel_rfl) (fun w => by kernel_rfl) trivial trivial (by decide) (fun w hs hb => shadowboxref03_Sum.calls k A0 c0 l0 t17 (lent b w [] []) hb (hs.ro R0 _ _) C0 hc18) ?_
      intro x19
      refine ls_new rfl rfl (by kernel_rfl) 0 (fun g => .pointer (some ⟨g, 0, none⟩)) (.cells ⟨en (Value.int .u8) (vrep 32 (0 : Int)).1⟩ 23) (fun w => by kernel_rfl) ?_
      intro g20
      refine ls_storec (g := g20) (off := 0) (v := .agg ⟨en (Value.int .u8) t17.1⟩) (vs := en (Value.int .u8) t17.1) (cs := en (Value.int .u8) (vrep 32 (0 : Int)).1) (ty := 23) 0 rfl rfl rfl (by kernel_rfl) (by kernel_rfl) (by kernel_rfl) (by exact rfl) (by kernel_rfl) (len_en _ t17) (one_en (fun _ => rfl) _) (hl_of (Sub4.all _) (len_eq (len_en _ t17) (len_en _ (vrep 32 (0 : Int))))) (cs' := en (Value.int .u8) t17.1) (splc_all (len_eq (len_en _ t17) (len_en _ (vrep 32 (0 : Int))))) ?_
      refine ls_end ?_
      refine qn_then ?_
      refine cs_region (l := [_, _]) ?_
      refine ls_val (v := .slice (some ⟨g20, 0, none⟩) t17.1.length 32) rfl rfl (by kernel_rfl) (fun w => by rw [show t17.1.length = 32 from t17.2]; kernel_rfl) ?_
      refine ls_val (v := .slice (some ⟨g20, 0, none⟩) t17.1.length 32) rfl rfl (by kernel_rfl) (fun w => by kernel_rfl) ?_
      refine ls_end ?_
      refine qn_freezev 0 (by exact rfl) ?_
      intro bs21 hle22 hok23 fR24
      refine qn_meetb (s0) ⟨_, (some ⟨g20, 0, none⟩), 32, t17.1, fr_next (fr_next (rfl) (by kernel_rfl)) (by kernel_rfl), rfl, (Ro.ofen (Ro.part fR24 (Sub4.all _))), (Nat.le_of_eq t17.2), hle22, H⟩ (sub_nil _)
    · replace H := ite_f q16 H
      refine cs_know (c := false) (dec_f q16) 11 (by kernel_rfl) ?_
      refine cs_false (by kernel_rfl) ?_
      refine cs_skip' ?_
      refine qn_meetb (s0) ⟨_, A0, c0, l0, fr_next (fr_next (rfl) (by kernel_rfl)) (by kernel_rfl), rfl, R0, C0, (Bs.le.refl b), H⟩ (sub_nil _)
  · rintro bh1 f S ⟨fr1, A0_1, c0_1, l0_1, rfl, rfl, R0_1, C0_1, hleh1, H⟩
    replace H : (shadowboxref12_pad.lo2 a1 l0_1 k ([] : List Int) (0 : Int)) = some r := H
    refine cs_seq ?_
    refine cs_region (l := [_]) ?_
    refine ls_val (v := .slice none 0 0) rfl rfl (by kernel_rfl) (fun w => by kernel_rfl) ?_
    refine ls_end ?_
    refine qn_then ?_
    refine cs_seq ?_
    refine cs_seq ?_
    refine cs_region (l := [_]) ?_
    refine ls_val (v := .int .i64 (0 : Int)) rfl rfl (by kernel_rfl) (fun w => by kernel_rfl) ?_
    refine ls_end ?_
    refine qn_then ?_
    refine cs_block ?_
    refine cs_nilrow 0 (Ec.int 5 .u8) ?_
    refine cs_sub (sput s0 0 (some (Ck.sl (Ec.int 5 .u8) none 0 ([] : List Int)))) (sub_put (by exact rfl) (sub_nil _)) ?_
    refine cs_loop (fun kk f S => ∃ (fR : Fr) (A6_2 : Option Addr) (c6_2 : Nat) (l6_2 : List Int) (x7_2 : Int), f = upd (upd (upd (upd fR 0 (.slice A0_1 l0_1.length c0_1)) 1 (.int .u8 a1)) 6 (.slice A6_2 l6_2.length c6_2)) 7 (.int .i64 x7_2) ∧ S = sput s0 0 (some (Ck.sl (Ec.int 5 .u8) A6_2 c6_2 l6_2)) ∧ shadowboxref12_pad.lo2 a1 l0_1 kk l6_2 x7_2 = some r) k ?_ ?_ ?_
    · exact ⟨_, none, 0, ([] : List Int), (0 : Int), fr_next (fr_next (fr_next (fr_next (rfl) (by kernel_rfl)) (by kernel_rfl)) (by kernel_rfl)) (by kernel_rfl), rfl, H⟩
    · rintro f S ⟨fr2, A6_2, c6_2, l6_2, x7_2, rfl, rfl, H⟩; cases H
    · rintro k2 f S ⟨fr2, A6_2, c6_2, l6_2, x7_2, rfl, rfl, H⟩
      replace H : ((if x7_2 < (64 : Int) then (if x7_2 < (l0_1.length : Int) then (if 0 ≤ x7_2 then lt (bits .xor .u8 ((l0_1).getD (x7_2).toNat (0 : Int)) a1) fun y6 => (if (l6_2.length + ([y6]).length) * 1 ≤ 140737488355328 then (shadowboxref12_pad.lo2 a1 l0_1 k2) (l6_2 ++ [y6]) (IntKind.wrap .i64 (x7_2 + (1 : Int))) else none) else none) else (if (l6_2.length + ([a1]).length) * 1 ≤ 140737488355328 then (shadowboxref12_pad.lo2 a1 l0_1 k2) (l6_2 ++ [a1]) (IntKind.wrap .i64 (x7_2 + (1 : Int))) else none)) else some l6_2)) = some r := H
      refine cs_seq ?_
      refine cs_seq ?_
      refine cs_region (l := [_, _]) ?_
      refine ls_val (v := .int .i64 x7_2) rfl rfl (by kernel_rfl) (fun w => by kernel_rfl) ?_
      refine ls_val (v := .bool (decide (x7_2 < (64 : Int)))) rfl rfl (by kernel_rfl) (fun w => by kernel_rfl) ?_
      refine ls_end ?_
      refine qn_then ?_
      by_cases q1 : x7_2 < (64 : Int)
      · replace H := ite_t q1 H
        refine cs_know (c := true) (dec_t q1) 16 (by kernel_rfl) ?_
        refine cs_true (by kernel_rfl) ?_
        refine cs_skip' ?_
        refine qn_then ?_
        refine cs_seq ?_
        refine cs_block ?_
        refine cs_seq ?_
        refine cs_region (l := [_, _]) ?_
        refine ls_val (v := .int .u8 a1) rfl rfl (by kernel_rfl) (fun w => by kernel_rfl) ?_
        refine ls_val (v := .int .u8 a1) rfl rfl (by kernel_rfl) (fun w => by kernel_rfl) ?_
        refine ls_end ?_
        refine qn_then ?_
        refine cs_seq ?_
        refine cs_seq ?_
        refine cs_region (l := [_, _, _, _]) ?_
        refine ls_val (v := .int .i64 x7_2) rfl rfl (by kernel_rfl) (fun w => by kernel_rfl) ?_
        refine ls_val (v := .slice A0_1 l0_1.length c0_1) rfl rfl (by kernel_rfl) (fun w => by kernel_rfl) ?_
        refine ls_val (v := .int .i64 (l0_1.length : Int)) rfl rfl (by kernel_rfl) (fun w => by kernel_rfl) ?_
        refine ls_val (v := .bool (decide (x7_2 < (l0_1.length : Int)))) rfl rfl (by kernel_rfl) (fun w => by kernel_rfl) ?_
        refine ls_end ?_
        refine qn_then ?_
        by_cases q2 : x7_2 < (l0_1.length : Int)
        · replace H := ite_t q2 H
          refine cs_know (c := true) (dec_t q2) 23 (by kernel_rfl) ?_
          refine cs_true (by kernel_rfl) ?_
          refine cs_region (l := [_, _, _, _, _, _, _]) ?_
          refine ls_val (v := .slice A0_1 l0_1.length c0_1) rfl rfl (by kernel_rfl) (fun w => by kernel_rfl) ?_
          refine ls_val (v := .int .i64 x7_2) rfl rfl (by kernel_rfl) (fun w => by kernel_rfl) ?_
          obtain ⟨q3, H⟩ := ite_need H
          obtain ⟨ad4, hA5⟩ := ido_at (T := (Ec.int 5 .u8)) (l := l0_1) (i := x7_2) R0_1 q3 q2
          refine ls_idxv (Ec.int 5 .u8) (A := A0_1) (c := c0_1) (l := l0_1) (k := .i64) (i := x7_2) (z := 1) (ad := ad4) rfl rfl (by kernel_rfl) hA5 rfl (by kernel_rfl) (by kernel_rfl) (by kernel_rfl) (by kernel_rfl) q3 q2 ?_
          refine ls_load (a0 := (ad4.add ((x7_2).toNat * 1))) (v := .int .u8 ((l0_1).getD (x7_2).toNat (0 : Int))) (de := (TypeDesc.int .u8)) rfl rfl (by kernel_rfl) rfl (by kernel_rfl) (by kernel_rfl) (by kernel_rfl) (fun w hs => (hs.old R0_1).at hA5 (em_sub (Ec.int 5 .u8) l0_1 (i := (x7_2).toNat) (by have h0 : (0 : Int) ≤ x7_2 := q3; have h1 : x7_2 < (l0_1.length : Int) := q2; omega))) ?_
          refine ls_val (v := .int .u8 a1) rfl rfl (by kernel_rfl) (fun w => by kernel_rfl) ?_
          obtain ⟨y6, hy7, H⟩ := lt_some H
          refine ls_val (v := .int .u8 (bits .xor .u8 ((l0_1).getD (x7_2).toNat (0 : Int)) a1)) rfl rfl (by kernel_rfl) (fun w => by kernel_rfl) ?_
          refine ls_ren 29 (v := .int .u8 (bits .xor .u8 ((l0_1).getD (x7_2).toNat (0 : Int)) a1)) (v' := .int .u8 y6) (by kernel_rfl) (by rw [hy7]) ?_
          refine ls_val (v := .int .u8 y6) rfl rfl (by kernel_rfl) (fun w => by kernel_rfl) ?_
          refine ls_end ?_
          refine qn_then ?_
          refine cs_region (l := [_, _, _, _, _]) ?_
          refine ls_val (v := .slice A6_2 l6_2.length c6_2) rfl rfl (by kernel_rfl) (fun w => by kernel_rfl) ?_
          refine ls_val (v := .int .u8 y6) rfl rfl (by kernel_rfl) (fun w => by kernel_rfl) ?_
          refine ls_lit (Ec.int 5 .u8) 1 rfl rfl (by kernel_rfl) ([y6]) (by exact of_decide_eq_true (by kernel_rfl)) (fun w => by kernel_rfl) ?_
          intro g8
          obtain ⟨q9, H⟩ := ite_need H
          refine ls_app (Ec.int 5 .u8) (A := A6_2) (c := c6_2) (B := (some ⟨g8, 0, none⟩)) (cb := [y6].length) (z := (Value.int .u8 0)) (l := l6_2) (m := [y6]) (bytes := 1) 0 rfl rfl (by kernel_rfl) rfl (by kernel_rfl) (by exact rfl) (by kernel_rfl) (fun w hs => (hs.rd (k := 1) (by exact rfl))) (by kernel_rfl) (by kernel_rfl) rfl (by decide) q9 ?_
          intro xA10 xc11
          refine ls_val (v := .slice xA10 (l6_2 ++ [y6]).length xc11) rfl rfl (by kernel_rfl) (fun w => by kernel_rfl) ?_
          refine ls_end ?_
          refine qn_block ?_
          refine qn_then ?_
          refine cs_region (l := [_, _, _]) ?_
          refine ls_val (v := .int .i64 x7_2) rfl rfl (by kernel_rfl) (fun w => by kernel_rfl) ?_
          refine ls_val (v := .int .i64 (IntKind.wrap .i64 (x7_2 + (1 : Int)))) rfl rfl (by kernel_rfl) (fun w => by kernel_rfl) ?_
          refine ls_val (v := .int .i64 (IntKind.wrap .i64 (x7_2 + (1 : Int)))) rfl rfl (by kernel_rfl) (fun w => by kernel_rfl) ?_
          refine ls_end ?_
          refine qn_again k2 (sput s0 0 (some (Ck.sl (Ec.int 5 .u8) xA10 xc11 (l6_2 ++ [y6])))) (Nat.le_refl _) ⟨_, xA10, xc11, (l6_2 ++ [y6]), (IntKind.wrap .i64 (x7_2 + (1 : Int))), fr_next (fr_next (fr_next (fr_next (rfl) (by kernel_rfl)) (by kernel_rfl)) (by kernel_rfl)) (by kernel_rfl), rfl, H⟩ (sub_put (by exact rfl) (sub_nil _))
        · replace H := ite_f q2 H
          refine cs_know (c := false) (dec_f q2) 23 (by kernel_rfl) ?_
          refine cs_false (by kernel_rfl) ?_
          refine cs_skip' ?_
          refine qn_then ?_
          refine cs_region (l := [_, _, _, _, _]) ?_
          refine ls_val (v := .slice A6_2 l6_2.length c6_2) rfl rfl (by kernel_rfl) (fun w => by kernel_rfl) ?_
          refine ls_val (v := .int .u8 a1) rfl rfl (by kernel_rfl) (fun w => by kernel_rfl) ?_
          refine ls_lit (Ec.int 5 .u8) 1 rfl rfl (by kernel_rfl) ([a1]) (by exact of_decide_eq_true (by kernel_rfl)) (fun w => by kernel_rfl) ?_
          intro g12
          obtain ⟨q13, H⟩ := ite_need H
          refine ls_app (Ec.int 5 .u8) (A := A6_2) (c := c6_2) (B := (some ⟨g12, 0, none⟩)) (cb := [a1].length) (z := (Value.int .u8 0)) (l := l6_2) (m := [a1]) (bytes := 1) 0 rfl rfl (by kernel_rfl) rfl (by kernel_rfl) (by exact rfl) (by kernel_rfl) (fun w hs => (hs.rd (k := 1) (by exact rfl))) (by kernel_rfl) (by kernel_rfl) rfl (by decide) q13 ?_
          intro xA14 xc15
          refine ls_val (v := .slice xA14 (l6_2 ++ [a1]).length xc15) rfl rfl (by kernel_rfl) (fun w => by kernel_rfl) ?_
          refine ls_end ?_
          refine qn_block ?_
          refine qn_then ?_
          refine cs_region (l := [_, _, _]) ?_
          refine ls_val (v := .int .i64 x7_2) rfl rfl (by kernel_rfl) (fun w => by kernel_rfl) ?_
          refine ls_val (v := .int .i64 (IntKind.wrap .i64 (x7_2 + (1 : Int)))) rfl rfl (by kernel_rfl) (fun w => by kernel_rfl) ?_
          refine ls_val (v := .int .i64 (IntKind.wrap .i64 (x7_2 + (1 : Int)))) rfl rfl (by kernel_rfl) (fun w => by kernel_rfl) ?_
          refine ls_end ?_
          refine qn_again k2 (sput s0 0 (some (Ck.sl (Ec.int 5 .u8) xA14 xc15 (l6_2 ++ [a1])))) (Nat.le_refl _) ⟨_, xA14, xc15, (l6_2 ++ [a1]), (IntKind.wrap .i64 (x7_2 + (1 : Int))), fr_next (fr_next (fr_next (fr_next (rfl) (by kernel_rfl)) (by kernel_rfl)) (by kernel_rfl)) (by kernel_rfl), rfl, H⟩ (sub_put (by exact rfl) (sub_nil _))
      · replace H := ite_f q1 H
        refine cs_know (c := false) (dec_f q1) 16 (by kernel_rfl) ?_
        refine cs_false (by kernel_rfl) ?_
        refine cs_exit' ?_
        refine qx_then ?_
        refine qx_then ?_
        refine qx_same ?_
        refine qn_then ?_
        refine cs_seq ?_
        refine cs_region (l := [_, _]) ?_
        refine ls_val (v := .slice A6_2 l6_2.length c6_2) rfl rfl (by kernel_rfl) (fun w => by kernel_rfl) ?_
        refine ls_val (v := .slice A6_2 l6_2.length c6_2) rfl rfl (by kernel_rfl) (fun w => by kernel_rfl) ?_
        refine ls_end ?_
        refine qn_then ?_
        refine cs_ret' ?_
        obtain rfl := Option.some.inj H
        refine qr_res (rs := [_]) rfl (fun w' hs => ⟨[.slice A6_2 l6_2.length c6_2], (res_tmp (by kernel_rfl) (.nil)), (A6_2, c6_2), rfl, St.later hs0.ok hleh1 (hs.pick (ts := [0]) (cs := [Ck.sl (Ec.int 5 .u8) A6_2 c6_2 l6_2]) ⟨by exact rfl, trivial⟩ (by decide))⟩)

/-! ### shadowbox/shadowboxref12.Mac: function 10 -/
def shadowboxref12_Mac.tab11 : List (List Nat) := [[], [0], [], [0, 1, 2], [0, 1, 2, 3], [0, 1, 2, 3, 4]]
def shadowboxref12_Mac.f (k : Nat) (l0 : List Int) (l1 : List Int) : Option ((Vc Int 32)) :=
  (shadowboxref12_pad.f k l0 (54 : Int)).bind fun t2 => (if (t2.length + l1.length) * 1 ≤ 140737488355328 then (shadowboxref03_Sum.f k (t2 ++ l1)).bind fun t8 => (shadowboxref12_pad.f k l0 (92 : Int)).bind fun t14 => (if (t14.length + t8.1.length) * 1 ≤ 140737488355328 then (shadowboxref03_Sum.f k (t14 ++ t8.1)).bind fun t20 => some t20 else none) else none)
set_option maxRecDepth 100000 in
set_option maxHeartbeats 4000000 in
theorem shadowboxref12_Mac.calls (k : Nat) (A0 : Option Addr) (c0 : Nat) (l0 : List Int) (A1 : Option Addr) (c1 : Nat) (l1 : List Int) (r : (Vc Int 32)) (b : Bs) (hs0 : St b (stl []) b.w) (R0 : Ro b A0 (em (Ec.int 5 .u8) l0)) (C0 : l0.length ≤ c0) (R1 : Ro b A1 (em (Ec.int 5 .u8) l1)) (C1 : l1.length ≤ c1) (H : shadowboxref12_Mac.f k l0 l1 = some r) :
    Calls Try.prog 10 #[.slice A0 l0.length c0, .slice A1 l1.length c1] b.w fun e w' => ∃ x : Unit, e = .returned (.agg ⟨en (Value.int .u8) r.1⟩) ∧ St b (stl []) w' := by
  unfold shadowboxref12_Mac.f at H
  refine enterb (n := 16) Try.func10 rfl (by kernel_rfl) (by kernel_rfl) hs0 ?_
  refine cs_sub (s0) (sub_nil _) ?_
  refine cs_seq ?_
  refine cs_region (l := [_]) ?_
  refine ls_new rfl rfl (by kernel_rfl) 0 (fun g => .pointer (some ⟨g, 0, none⟩)) (.cells ⟨en (Value.int .u8) (vrep 32 (0 : Int)).1⟩ 23) (fun w => by kernel_rfl) ?_
  intro g1
  refine ls_end ?_
  refine qn_then ?_
  refine cs_seq ?_
  refine cs_region (l := [_, _, _, _, _, _, _]) ?_
  refine ls_val (v := .slice A0 l0.length c0) rfl rfl (by kernel_rfl) (fun w => by kernel_rfl) ?_
  obtain ⟨t2, hc3, H⟩ := bind_some H
  refine ls_callb (fid := 25) (vals := #[.slice A0 l0.length c0, .int .u8 (54 : Int)]) (X := (Option Addr × Nat)) (fun x => .slice x.1 t2.length x.2) (fun x => stl [Ck.sl (Ec.int 5 .u8) x.1 x.2 t2]) [] [] [] [] 1 rfl rfl (by kernel_rfl) (fun w => by kernel_rfl) trivial trivial (by decide) (fun w hs hb => shadowboxref12_pad.calls k A0 c0 l0 (54 : Int) t2 (lent b w [] []) hb (hs.ro R0 _ _) C0 hc3) ?_
  intro x4
  refine ls_val (v := .slice A1 l1.length c1) rfl rfl (by kernel_rfl) (fun w => by kernel_rfl) ?_
  obtain ⟨q5, H⟩ := ite_need H
  refine ls_app (Ec.int 5 .u8) (A := x4.1) (c := x4.2) (B := A1) (cb := c1) (z := (Value.int .u8 0)) (l := t2) (m := l1) (bytes := 1) 1 rfl rfl (by kernel_rfl) rfl (by kernel_rfl) (by exact rfl) (by kernel_rfl) (fun w hs => (hs.old R1)) (by kernel_rfl) (by kernel_rfl) rfl (by decide) q5 ?_
  intro xA6 xc7
  obtain ⟨t8, hc9, H⟩ := bind_some H
  refine ls_callb (fid := 24) (vals := #[.slice xA6 (t2 ++ l1).length xc7]) (X := Unit) (fun x => .agg ⟨en (Value.int .u8) t8.1⟩) (fun x => stl []) [] [1] [] [Ck.sl (Ec.int 5 .u8) xA6 xc7 (t2 ++ l1)] 2 rfl rfl (by kernel_rfl) (fun w => by kernel_rfl) trivial ⟨by exact rfl, trivial⟩ (by decide) (fun w hs hb => shadowboxref03_Sum.calls k xA6 xc7 (t2 ++ l1) t8 (lent b w [] [Ck.sl (Ec.int 5 .u8) xA6 xc7 (t2 ++ l1)]) hb (hs.ror (k := 1) (by exact rfl) (.head _)) (hs.cap (k := 1) (by exact rfl)) hc9) ?_
  intro x10
  refine ls_new rfl rfl (by kernel_rfl) 2 (fun g => .pointer (some ⟨g, 0, none⟩)) (.cells ⟨en (Value.int .u8) (vrep 32 (0 : Int)).1⟩ 23) (fun w => by kernel_rfl) ?_
  intro g11
  refine ls_storec (g := g11) (off := 0) (v := .agg ⟨en (Value.int .u8) t8.1⟩) (vs := en (Value.int .u8) t8.1) (cs := en (Value.int .u8) (vrep 32 (0 : Int)).1) (ty := 23) 2 rfl rfl rfl (by kernel_rfl) (by kernel_rfl) (by kernel_rfl) (by exact rfl) (by kernel_rfl) (len_en _ t8) (one_en (fun _ => rfl) _) (hl_of (Sub4.all _) (len_eq (len_en _ t8) (len_en _ (vrep 32 (0 : Int))))) (cs' := en (Value.int .u8) t8.1) (splc_all (len_eq (len_en _ t8) (len_en _ (vrep 32 (0 : Int))))) ?_
  refine ls_end ?_
  refine qn_then ?_
  refine cs_seq ?_
  obtain ⟨s13_0, hs13_0⟩ : ∃ z : Value → Sto → Prop, z = (fun v R => v = .slice A0 l0.length c0 ∧ R = s0) := ⟨_, rfl⟩
  refine have_op (l := [_, _, _, _, _, _]) shadowboxref12_Mac.tab11 3 0 (fun sp => sp 0 = s13_0) (fun sp on hA hon => ?_) (fun ops13_0 => ?_)
  · refine ⟨fun o ho vs Rs f' S' w hp hf hx hS hR hs => ?_⟩
    obtain rfl := Option.some.inj ho
    rw [hA, hs13_0]
    refine And.intro (fun a ha => (want_none rfl a ha).trans hon.symm) (And.intro (fun _ => ?_) (fun h => by rw [hon] at h; cases h))
    have hF := fr_next (rfl) ((hx 0 (by kernel_rfl)).trans (by kernel_rfl : (_ : Value) = .slice A0 l0.length c0))
    refine ls_fr hF ?_
    refine ls_val (v := .slice A0 l0.length c0) rfl rfl (by kernel_rfl) (fun w => by kernel_rfl) ?_
    exact ls_fin s0 (.slice A0 l0.length c0) (congrArg (fun z => upd z 11 _) hF.symm) ⟨rfl, rfl⟩ (sub_nil _)
  obtain ⟨t14, hc15, H⟩ := bind_some H
  obtain ⟨s13_1, hs13_1⟩ : ∃ z : Value → Sto → Prop, z = (fun v R => ∃ x16 : (Option Addr × Nat), v = .slice x16.1 t14.length x16.2 ∧ R = stl [Ck.sl (Ec.int 5 .u8) x16.1 x16.2 t14]) := ⟨_, rfl⟩
  refine have_op (l := [_, _, _, _, _, _]) shadowboxref12_Mac.tab11 3 1 (fun sp => sp 1 = s13_1 ∧ sp 0 = s13_0) (fun sp on hA hon => ?_) (fun ops13_1 => ?_)
  · refine ⟨fun o ho vs Rs f' S' w hp hf hx hS hR hs => ?_⟩
    obtain rfl := Option.some.inj ho
    obtain ⟨hv0, hR0⟩ := (spe hA.2 hs13_0 (hp 0 (by kernel_rfl)))
    rw [hA.1, hs13_1]
    refine And.intro (fun a ha => (want_none rfl a ha).trans hon.symm) (And.intro (fun _ => ?_) (fun h => by rw [hon] at h; cases h))
    have hF := fr_next (rfl) ((hf 0 11 (by kernel_rfl) rfl).trans hv0)
    refine ls_fr hF ?_
    refine ls_call (fid := 25) (vals := #[.slice A0 l0.length c0, .int .u8 (92 : Int)]) (X := (Option Addr × Nat)) (fun x => .slice x.1 t14.length x.2) (fun x => stl [Ck.sl (Ec.int 5 .u8) x.1 x.2 t14]) 0 rfl rfl (by kernel_rfl) (fun w => by kernel_rfl) (fun w1 hs1 => shadowboxref12_pad.calls k A0 c0 l0 (92 : Int) t14 (bw w1) (St.refl w1) (Rd.ro (Rd.step (hs.old R0) hs1.below.bw)) C0 hc15) ?_
    intro x16
    exact ls_fin (stl [Ck.sl (Ec.int 5 .u8) x16.1 x16.2 t14]) (.slice x16.1 t14.length x16.2) (congrArg (fun z => upd z 12 _) hF.symm) ⟨x16, rfl, rfl⟩ (sub_join _)
  obtain ⟨s13_2, hs13_2⟩ : ∃ z : Value → Sto → Prop, z = (fun v R => v = .slice (some ⟨g11, 0, none⟩) t8.1.length 32 ∧ R = s0) := ⟨_, rfl⟩
  refine have_op (l := [_, _, _, _, _, _]) shadowboxref12_Mac.tab11 3 2 (fun sp => sp 2 = s13_2) (fun sp on hA hon => ?_) (fun ops13_2 => ?_)
  · refine ⟨fun o ho vs Rs f' S' w hp hf hx hS hR hs => ?_⟩
    obtain rfl := Option.some.inj ho
    rw [hA, hs13_2]
    refine And.intro (fun a ha => (want_none rfl a ha).trans hon.symm) (And.intro (fun _ => ?_) (fun h => by rw [hon] at h; cases h))
    have hF := fr_next (rfl) ((hx 5 (by kernel_rfl)).trans (by kernel_rfl : (_ : Value) = .pointer (some ⟨g11, 0, none⟩)))
    refine ls_fr hF ?_
    refine ls_val (v := .slice (some ⟨g11, 0, none⟩) t8.1.length 32) rfl rfl (by kernel_rfl) (fun w => by rw [show t8.1.length = 32 from t8.2]; kernel_rfl) ?_
    exact ls_fin s0 (.slice (some ⟨g11, 0, none⟩) t8.1.length 32) (congrArg (fun z => upd z 13 _) hF.symm) ⟨rfl, rfl⟩ (sub_nil _)
  refine cs_draw shadowboxref12_Mac.tab11 3 3 (spl [s13_0, s13_1, s13_2]) (onl [true, true, true]) (by kernel_rfl) (by kernel_rfl) (by kernel_rfl) (by kernel_rfl) (rs := [_, _, _]) rfl (by kernel_rfl) (by kernel_rfl) (all_snoc (all_snoc (all_snoc (all_nil) (ops13_0 _ _ rfl rfl)) (ops13_1 _ _ ⟨rfl, rfl⟩ rfl)) (ops13_2 _ _ rfl rfl)) ?_
  intro vs Rs f' S' hp hf hx hS hR
  obtain ⟨x16, hv1, hR1⟩ := (spe rfl hs13_1 (hp 1 (by kernel_rfl)))
  have hT1_0 := (hR 1 0 (by kernel_rfl) (by decide)).trans (congrFun hR1 0)
  obtain ⟨hv2, hR2⟩ := (spe rfl hs13_2 (hp 2 (by kernel_rfl)))
  refine ls_fr (F := upd (upd (upd f' 4 (.pointer (some ⟨g1, 0, none⟩))) 12 (.slice x16.1 t14.length x16.2)) 13 (.slice (some ⟨g11, 0, none⟩) t8.1.length 32)) (fr_next (fr_next (fr_next (rfl) ((hx 4 (by kernel_rfl)).trans (by kernel_rfl : (_ : Value) = .pointer (some ⟨g1, 0, none⟩)))) ((hf 1 12 (by kernel_rfl) rfl).trans hv1)) ((hf 2 13 (by kernel_rfl) rfl).trans hv2)) ?_
  refine ls_sub (sput (sput (sput s0 0 (some (Ck.var 23 g1 (en (Value.int .u8) (vrep 32 (0 : Int)).1)))) 2 (some (Ck.var 23 g11 (en (Value.int .u8) t8.1)))) 11 (some (Ck.sl (Ec.int 5 .u8) x16.1 x16.2 t14))) (sub_put (by exact hT1_0) (sub_put ((hS 2 (by kernel_rfl)).trans (by exact rfl)) (sub_put ((hS 0 (by kernel_rfl)).trans (by exact rfl)) (sub_nil _)))) ?_
  obtain ⟨q17, H⟩ := ite_need H
  refine ls_app (Ec.int 5 .u8) (A := x16.1) (c := x16.2) (B := (some ⟨g11, 0, none⟩)) (cb := 32) (z := (Value.int .u8 0)) (l := t14) (m := t8.1) (bytes := 1) 11 rfl rfl (by kernel_rfl) rfl (by kernel_rfl) (by exact rfl) (by kernel_rfl) (fun w hs => (Rd.ofen (t := 5) (hs.vars (k := 2) (by exact rfl) (Sub4.all _)))) (by kernel_rfl) (by kernel_rfl) rfl (by decide) q17 ?_
  intro xA18 xc19
  obtain ⟨t20, hc21, H⟩ := bind_some H
  refine ls_callb (fid := 24) (vals := #[.slice xA18 (t14 ++ t8.1).length xc19]) (X := Unit) (fun x => .agg ⟨en (Value.int .u8) t20.1⟩) (fun x => stl []) [] [11] [] [Ck.sl (Ec.int 5 .u8) xA18 xc19 (t14 ++ t8.1)] 27 rfl rfl (by kernel_rfl) (fun w => by kernel_rfl) trivial ⟨by exact rfl, trivial⟩ (by decide) (fun w hs hb => shadowboxref03_Sum.calls k xA18 xc19 (t14 ++ t8.1) t20 (lent b w [] [Ck.sl (Ec.int 5 .u8) xA18 xc19 (t14 ++ t8.1)]) hb (hs.ror (k := 11) (by exact rfl) (.head _)) (hs.cap (k := 11) (by exact rfl)) hc21) ?_
  intro x22
  refine ls_storec (g := g1) (off := 0) (v := .agg ⟨en (Value.int .u8) t20.1⟩) (vs := en (Value.int .u8) t20.1) (cs := en (Value.int .u8) (vrep 32 (0 : Int)).1) (ty := 23) 0 rfl rfl rfl (by kernel_rfl) (by kernel_rfl) (by kernel_rfl) (by exact rfl) (by kernel_rfl) (len_en _ t20) (one_en (fun _ => rfl) _) (hl_of (Sub4.all _) (len_eq (len_en _ t20) (len_en _ (vrep 32 (0 : Int))))) (cs' := en (Value.int .u8) t20.1) (splc_all (len_eq (len_en _ t20) (len_en _ (vrep 32 (0 : Int))))) ?_
  refine ls_end ?_
  refine qn_then ?_
  refine cs_ret' ?_
  obtain rfl := Option.some.inj H
  refine qr_res (rs := [_]) rfl (fun w' hs => ⟨[.agg ⟨en (Value.int .u8) t20.1⟩], (.cell (by kernel_rfl) (run_cellres (by kernel_rfl) (by kernel_rfl) (len_en _ t20) (hs.holds 0 _ (by exact rfl))) (.nil)), (), rfl, hs.pick (ts := []) (cs := []) trivial (by decide)⟩)

/-! ### shadowbox/shadowboxref12.Chain: function 14 -/
def shadowboxref12_Chain.lo1 (l1 : List ByteArray) : Nat → (List Int) → Int → Option ((List Int))
  | 0, _, _ => none
  | k1 + 1, l0_1, x5_1 => (if x5_1 < (l1.length : Int) then (if 0 ≤ x5_1 then (shadowboxref12_Mac.f k1 l0_1 (bl ((l1).getD (x5_1).toNat ByteArray.empty))).bind fun t8 => (if (([] : List Int).length + t8.1.length) * 1 ≤ 140737488355328 then (shadowboxref12_Chain.lo1 l1 k1) (([] : List Int) ++ t8.1) (IntKind.wrap .i64 (x5_1 + (1 : Int))) else none) else none) else some l0_1)
def shadowboxref12_Chain.f (k : Nat) (l0 : List Int) (l1 : List ByteArray) : Option ((List Int)) :=
  shadowboxref12_Chain.lo1 l1 k l0 (0 : Int)
set_option maxRecDepth 100000 in
set_option maxHeartbeats 4000000 in
theorem shadowboxref12_Chain.calls (k : Nat) (A0 : Option Addr) (c0 : Nat) (l0 : List Int) (A1 : Option Addr) (c1 : Nat) (l1 : List ByteArray) (r : (List Int)) (b : Bs) (hs0 : St b (stl []) b.w) (R0 : Ro b A0 (em (Ec.int 5 .u8) l0)) (C0 : l0.length ≤ c0) (R1 : Ro b A1 (em (Ec.str 9) l1)) (C1 : l1.length ≤ c1) (H : shadowboxref12_Chain.f k l0 l1 = some r) :
    Calls Try.prog 14 #[.slice A0 l0.length c0, .slice A1 l1.length c1] b.w fun e w' => ∃ b', b.le b' ∧ ∃ x : (Option Addr × Nat), e = .returned (.slice x.1 r.length x.2) ∧ ((Ro b' x.1 (em (Ec.int 5 .u8) r) ∧ r.length ≤ x.2)) ∧ St b' (stl []) w' := by
  unfold shadowboxref12_Chain.f at H
  refine enterb (n := 24) Try.func14 rfl (by kernel_rfl) (by kernel_rfl) hs0 ?_
  refine cs_sub (s0) (sub_nil _) ?_
  refine cs_seq ?_
  refine cs_region (l := [_]) ?_
  refine ls_val (v := .slice none 0 0) rfl rfl (by kernel_rfl) (fun w => by kernel_rfl) ?_
  refine ls_end ?_
  refine qn_then ?_
  refine cs_seq ?_
  refine cs_seq ?_
  refine cs_region (l := [_]) ?_
  refine ls_val (v := .int .i64 (0 : Int)) rfl rfl (by kernel_rfl) (fun w => by kernel_rfl) ?_
  refine ls_end ?_
  refine qn_then ?_
  refine cs_block ?_
  refine cs_sub (s0) (sub_nil _) ?_
  refine cs_loopb (fun kk bh1 f S => ∃ (fR : Fr) (A0_1 : Option Addr) (c0_1 : Nat) (l0_1 : List Int) (x5_1 : Int), f = upd (upd (upd fR 0 (.slice A0_1 l0_1.length c0_1)) 1 (.slice A1 l1.length c1)) 5 (.int .i64 x5_1) ∧ S = s0 ∧ Ro bh1 A0_1 (em (Ec.int 5 .u8) l0_1) ∧ l0_1.length ≤ c0_1 ∧ b.le bh1 ∧ Ro bh1 A1 (em (Ec.str 9) l1) ∧ shadowboxref12_Chain.lo1 l1 kk l0_1 x5_1 = some r) k ?_ ?_ ?_
  · exact ⟨_, A0, c0, l0, (0 : Int), fr_next (fr_next (fr_next (rfl) (by kernel_rfl)) (by kernel_rfl)) (by kernel_rfl), rfl, R0, C0, (Bs.le.refl b), R1, H⟩
  · rintro bh1 f S ⟨fr1, A0_1, c0_1, l0_1, x5_1, rfl, rfl, R0_1, C0_1, hleh1, Rb1_1, H⟩; cases H
  · rintro k1 bh1 f S ⟨fr1, A0_1, c0_1, l0_1, x5_1, rfl, rfl, R0_1, C0_1, hleh1, Rb1_1, H⟩
    replace H : ((if x5_1 < (l1.length : Int) then (if 0 ≤ x5_1 then (shadowboxref12_Mac.f k1 l0_1 (bl ((l1).getD (x5_1).toNat ByteArray.empty))).bind fun t8 => (if (([] : List Int).length + t8.1.length) * 1 ≤ 140737488355328 then (shadowboxref12_Chain.lo1 l1 k1) (([] : List Int) ++ t8.1) (IntKind.wrap .i64 (x5_1 + (1 : Int))) else none) else none) else some l0_1)) = some r := H
    refine cs_seq ?_
    refine cs_seq ?_
    refine cs_region (l := [_, _, _, _]) ?_
    refine ls_val (v := .int .i64 x5_1) rfl rfl (by kernel_rfl) (fun w => by kernel_rfl) ?_
    refine ls_val (v := .slice A1 l1.length c1) rfl rfl (by kernel_rfl) (fun w => by kernel_rfl) ?_
    refine ls_val (v := .int .i64 (l1.length : Int)) rfl rfl (by kernel_rfl) (fun w => by kernel_rfl) ?_
    refine ls_val (v := .bool (decide (x5_1 < (l1.length : Int)))) rfl rfl (by kernel_rfl) (fun w => by kernel_rfl) ?_
    refine ls_end ?_
    refine qn_then ?_
    by_cases q1 : x5_1 < (l1.length : Int)
    · replace H := ite_t q1 H
      refine cs_know (c := true) (dec_t q1) 10 (by kernel_rfl) ?_
      refine cs_true (by kernel_rfl) ?_
      refine cs_skip' ?_
      refine qn_then ?_
      refine cs_seq ?_
      refine cs_block ?_
      refine cs_seq ?_
      refine cs_region (l := [_, _, _, _, _, _, _, _, _]) ?_
      refine ls_val (v := .slice A0_1 l0_1.length c0_1) rfl rfl (by kernel_rfl) (fun w => by kernel_rfl) ?_
      refine ls_val (v := .slice A1 l1.length c1) rfl rfl (by kernel_rfl) (fun w => by kernel_rfl) ?_
      refine ls_val (v := .int .i64 x5_1) rfl rfl (by kernel_rfl) (fun w => by kernel_rfl) ?_
      obtain ⟨q2, H⟩ := ite_need H
      obtain ⟨ad3, hA4⟩ := ido_at (T := (Ec.str 9)) (l := l1) (i := x5_1) Rb1_1 q2 q1
      refine ls_idxv (Ec.str 9) (A := A1) (c := c1) (l := l1) (k := .i64) (i := x5_1) (z := 1) (ad := ad3) rfl rfl (by kernel_rfl) hA4 rfl (by kernel_rfl) (by kernel_rfl) (by kernel_rfl) (by kernel_rfl) q2 q1 ?_
      refine ls_load (a0 := (ad3.add ((x5_1).toNat * 1))) (v := .string ((l1).getD (x5_1).toNat ByteArray.empty)) (de := TypeDesc.string) rfl rfl (by kernel_rfl) rfl (by kernel_rfl) (by kernel_rfl) (by kernel_rfl) (fun w hs => (hs.old Rb1_1).at hA4 (em_sub (Ec.str 9) l1 (i := (x5_1).toNat) (by have h0 : (0 : Int) ≤ x5_1 := q2; have h1 : x5_1 < (l1.length : Int) := q1; omega))) ?_
      refine ls_bytes (u := .string) (e := 5) (s := ((l1).getD (x5_1).toNat ByteArray.empty)) 0 rfl rfl (by kernel_rfl) rfl (by kernel_rfl) (by kernel_rfl) (by kernel_rfl) (by kernel_rfl) ?_
      intro g5 xc6 xC7
      obtain ⟨t8, hc9, H⟩ := bind_some H
      refine ls_callb (fid := 10) (vals := #[.slice A0_1 l0_1.length c0_1, .slice (some ⟨g5, 0, none⟩) (bl ((l1).getD (x5_1).toNat ByteArray.empty)).length xc6]) (X := Unit) (fun x => .agg ⟨en (Value.int .u8) t8.1⟩) (fun x => stl []) [] [0] [] [Ck.rs g5 (em (Ec.int 5 .u8) (bl ((l1).getD (x5_1).toNat ByteArray.empty)))] 1 rfl rfl (by kernel_rfl) (fun w => by kernel_rfl) trivial ⟨by exact rfl, trivial⟩ (by decide) (fun w hs hb => shadowboxref12_Mac.calls k1 A0_1 c0_1 l0_1 (some ⟨g5, 0, none⟩) xc6 (bl ((l1).getD (x5_1).toNat ByteArray.empty)) t8 (lent bh1 w [] [Ck.rs g5 (em (Ec.int 5 .u8) (bl ((l1).getD (x5_1).toNat ByteArray.empty)))]) hb (hs.ro R0_1 _ _) C0_1 (Rd.ror (hs.rs (k := 0) (by exact rfl)) (.head _) Ck.rs_key) xC7 hc9) ?_
      intro x10
      refine ls_new rfl rfl (by kernel_rfl) 1 (fun g => .pointer (some ⟨g, 0, none⟩)) (.cells ⟨en (Value.int .u8) (vrep 32 (0 : Int)).1⟩ 23) (fun w => by kernel_rfl) ?_
      intro g11
      refine ls_storec (g := g11) (off := 0) (v := .agg ⟨en (Value.int .u8) t8.1⟩) (vs := en (Value.int .u8) t8.1) (cs := en (Value.int .u8) (vrep 32 (0 : Int)).1) (ty := 23) 1 rfl rfl rfl (by kernel_rfl) (by kernel_rfl) (by kernel_rfl) (by exact rfl) (by kernel_rfl) (len_en _ t8) (one_en (fun _ => rfl) _) (hl_of (Sub4.all _) (len_eq (len_en _ t8) (len_en _ (vrep 32 (0 : Int))))) (cs' := en (Value.int .u8) t8.1) (splc_all (len_eq (len_en _ t8) (len_en _ (vrep 32 (0 : Int))))) ?_
      refine ls_end ?_
      refine qn_then ?_
      refine cs_region (l := [_, _, _, _]) ?_
      refine ls_lit (Ec.int 5 .u8) 2 rfl rfl (by kernel_rfl) ([] : List Int) (by exact of_decide_eq_true (by kernel_rfl)) (fun w => by kernel_rfl) ?_
      intro g12
      refine ls_val (v := .slice (some ⟨g11, 0, none⟩) t8.1.length 32) rfl rfl (by kernel_rfl) (fun w => by rw [show t8.1.length = 32 from t8.2]; kernel_rfl) ?_
      obtain ⟨q13, H⟩ := ite_need H
      refine ls_app (Ec.int 5 .u8) (A := (some ⟨g12, 0, none⟩)) (c := ([] : List Int).length) (B := (some ⟨g11, 0, none⟩)) (cb := 32) (z := (Value.int .u8 0)) (l := ([] : List Int)) (m := t8.1) (bytes := 1) 2 rfl rfl (by kernel_rfl) rfl (by kernel_rfl) (by exact rfl) (by kernel_rfl) (fun w hs => (Rd.ofen (t := 5) (hs.vars (k := 1) (by exact rfl) (Sub4.all _)))) (by kernel_rfl) (by kernel_rfl) rfl (by decide) q13 ?_
      intro xA14 xc15
      refine ls_val (v := .slice xA14 (([] : List Int) ++ t8.1).length xc15) rfl rfl (by kernel_rfl) (fun w => by kernel_rfl) ?_
      refine ls_end ?_
      refine qn_block ?_
      refine qn_then ?_
      refine cs_region (l := [_, _, _]) ?_
      refine ls_val (v := .int .i64 x5_1) rfl rfl (by kernel_rfl) (fun w => by kernel_rfl) ?_
      refine ls_val (v := .int .i64 (IntKind.wrap .i64 (x5_1 + (1 : Int)))) rfl rfl (by kernel_rfl) (fun w => by kernel_rfl) ?_
      refine ls_val (v := .int .i64 (IntKind.wrap .i64 (x5_1 + (1 : Int)))) rfl rfl (by kernel_rfl) (fun w => by kernel_rfl) ?_
      refine ls_end ?_
      refine qn_freeze (T := (Ec.int 5 .u8)) (A := xA14) (c := xc15) (l := (([] : List Int) ++ t8.1)) 2 (by exact rfl) ?_
      intro bs16 hle17 hok18 fR19 fC20
      refine qn_againb k1 (s0) (Nat.le_refl _) ⟨_, xA14, xc15, (([] : List Int) ++ t8.1), (IntKind.wrap .i64 (x5_1 + (1 : Int))), fr_next (fr_next (fr_next (rfl) (by kernel_rfl)) (by kernel_rfl)) (by kernel_rfl), rfl, fR19, fC20, (hleh1.trans hle17), (Ro.mono hok18 hle17 Rb1_1), H⟩ (sub_nil _)
    · replace H := ite_f q1 H
      refine cs_know (c := false) (dec_f q1) 10 (by kernel_rfl) ?_
      refine cs_false (by kernel_rfl) ?_
      refine cs_exit' ?_
      refine qx_then ?_
      refine qx_then ?_
      refine qx_same ?_
      refine qn_then ?_
      refine cs_seq ?_
      refine cs_region (l := [_, _]) ?_
      refine ls_val (v := .slice A0_1 l0_1.length c0_1) rfl rfl (by kernel_rfl) (fun w => by kernel_rfl) ?_
      refine ls_val (v := .slice A0_1 l0_1.length c0_1) rfl rfl (by kernel_rfl) (fun w => by kernel_rfl) ?_
      refine ls_end ?_
      refine qn_then ?_
      refine cs_ret' ?_
      obtain rfl := Option.some.inj H
      refine qr_res (rs := [_]) rfl (fun w' hs => ⟨[.slice A0_1 l0_1.length c0_1], (res_tmp (by kernel_rfl) (.nil)), bh1, hleh1, (A0_1, c0_1), rfl, ⟨R0_1, C0_1⟩, hs.pick (ts := []) (cs := []) trivial (by decide)⟩)

/-! ### shadowbox/hmac.Same: function 15 -/
def hmac_Same.tab1 : List (List Nat) := [[], [], [], [1, 2], [1, 2, 3], [], [], [5, 6], [5, 6, 7], [1, 2, 3, 4, 5, 6, 7, 8], [0, 1, 2, 3, 4, 5, 6, 7, 8, 9], [0, 1, 2, 3, 4, 5, 6, 7, 8, 9, 10]]
def hmac_Same.lo2 (l0 : List Int) (l1 : List Int) : Nat → Int → Int → Option (Bool)
  | 0, _, _ => none
  | k2 + 1, x5_2, x14_2 => (if x14_2 < (l0.length : Int) then (if 0 ≤ x14_2 then (if x14_2 < (l1.length : Int) then lt (bits .xor .u8 ((l0).getD (x14_2).toNat (0 : Int)) ((l1).getD (x14_2).toNat (0 : Int))) fun y10 => (hmac_Same.lo2 l0 l1 k2) (bits .or .u8 x5_2 y10) (IntKind.wrap .i64 (x14_2 + (1 : Int))) else none) else none) else some (decide (x5_2 = (0 : Int))))
def hmac_Same.jo1 (k : Nat) (l0 : List Int) (l1 : List Int) : Option (Bool) := hmac_Same.lo2 l0 l1 k (0 : Int) (0 : Int)
def hmac_Same.f (k : Nat) (l0 : List Int) (l1 : List Int) : Option (Bool) :=
  (if (l0.length : Int) = (l1.length : Int) then (hmac_Same.jo1 k l0 l1) else some false)
set_option maxRecDepth 100000 in
set_option maxHeartbeats 4000000 in
theorem hmac_Same.calls (k : Nat) (A0 : Option Addr) (c0 : Nat) (l0 : List Int) (A1 : Option Addr) (c1 : Nat) (l1 : List Int) (r : Bool) (b : Bs) (hs0 : St b (stl []) b.w) (R0 : Ro b A0 (em (Ec.int 5 .u8) l0)) (C0 : l0.length ≤ c0) (R1 : Ro b A1 (em (Ec.int 5 .u8) l1)) (C1 : l1.length ≤ c1) (H : hmac_Same.f k l0 l1 = some r) :
    Calls Try.prog 15 #[.slice A0 l0.length c0, .slice A1 l1.length c1] b.w fun e w' => ∃ x : Unit, e = .returned (.bool r) ∧ St b (stl []) w' := by
  unfold hmac_Same.f at H
  refine enterb (n := 31) Try.func15 rfl (by kernel_rfl) (by kernel_rfl) hs0 ?_
  refine cs_sub (s0) (sub_nil _) ?_
  refine cs_seq ?_
  refine cs_region (l := [_]) ?_
  refine ls_val (v := .bool false) rfl rfl (by kernel_rfl) (fun w => by kernel_rfl) ?_
  refine ls_end ?_
  refine qn_then ?_
  refine cs_cut (fun f S => ∃ (fR : Fr), f = upd (upd fR 0 (.slice A0 l0.length c0)) 1 (.slice A1 l1.length c1) ∧ S = s0 ∧ hmac_Same.jo1 k l0 l1 = some r) ?_ ?_
  · skip
    refine cs_seq ?_
    refine cs_region (l := [_, _, _, _, _]) ?_
    refine ls_val (v := .slice A0 l0.length c0) rfl rfl (by kernel_rfl) (fun w => by kernel_rfl) ?_
    refine ls_val (v := .int .i64 (l0.length : Int)) rfl rfl (by kernel_rfl) (fun w => by kernel_rfl) ?_
    refine ls_val (v := .slice A1 l1.length c1) rfl rfl (by kernel_rfl) (fun w => by kernel_rfl) ?_
    refine ls_val (v := .int .i64 (l1.length : Int)) rfl rfl (by kernel_rfl) (fun w => by kernel_rfl) ?_
    refine ls_val (v := .bool (!decide ((l0.length : Int) = (l1.length : Int)))) rfl rfl (by kernel_rfl) (fun w => by kernel_rfl) ?_
    refine ls_end ?_
    refine qn_then ?_
    by_cases q12 : (l0.length : Int) = (l1.length : Int)
    · replace H := ite_t q12 H
      refine cs_know (c := false) (congrArg Bool.not (dec_t q12)) 11 (by kernel_rfl) ?_
      refine cs_false (by kernel_rfl) ?_
      refine cs_skip' ?_
      refine qn_meet (s0) ⟨_, fr_next (fr_next (rfl) (by kernel_rfl)) (by kernel_rfl), rfl, H⟩ (sub_nil _)
    · replace H := ite_f q12 H
      refine cs_know (c := true) (congrArg Bool.not (dec_f q12)) 11 (by kernel_rfl) ?_
      refine cs_true (by kernel_rfl) ?_
      refine cs_seq ?_
      refine cs_region (l := [_]) ?_
      refine ls_val (v := .bool false) rfl rfl (by kernel_rfl) (fun w => by kernel_rfl) ?_
      refine ls_end ?_
      refine qn_then ?_
      refine cs_ret' ?_
      refine qr_then ?_
      obtain rfl := Option.some.inj H
      refine qr_res (rs := [_]) rfl (fun w' hs => ⟨[.bool false], (res_tmp (by kernel_rfl) (.nil)), (), rfl, hs.pick (ts := []) (cs := []) trivial (by decide)⟩)
  · rintro f S ⟨fr1, rfl, rfl, H⟩
    replace H : (hmac_Same.lo2 l0 l1 k (0 : Int) (0 : Int)) = some r := H
    refine cs_seq ?_
    refine cs_region (l := [_]) ?_
    refine ls_val (v := .int .u8 (0 : Int)) rfl rfl (by kernel_rfl) (fun w => by kernel_rfl) ?_
    refine ls_end ?_
    refine qn_then ?_
    refine cs_seq ?_
    refine cs_seq ?_
    refine cs_region (l := [_, _, _]) ?_
    refine ls_val (v := .slice A0 l0.length c0) rfl rfl (by kernel_rfl) (fun w => by kernel_rfl) ?_
    refine ls_val (v := .int .i64 (l0.length : Int)) rfl rfl (by kernel_rfl) (fun w => by kernel_rfl) ?_
    refine ls_val (v := .int .i64 (0 : Int)) rfl rfl (by kernel_rfl) (fun w => by kernel_rfl) ?_
    refine ls_end ?_
    refine qn_then ?_
    refine cs_block ?_
    refine cs_sub (s0) (sub_nil _) ?_
    refine cs_loop (fun kk f S => ∃ (fR : Fr) (x5_2 : Int) (x14_2 : Int), f = upd (upd (upd (upd (upd fR 0 (.slice A0 l0.length c0)) 1 (.slice A1 l1.length c1)) 5 (.int .u8 x5_2)) 13 (.int .i64 (l0.length : Int))) 14 (.int .i64 x14_2) ∧ S = s0 ∧ hmac_Same.lo2 l0 l1 kk x5_2 x14_2 = some r) k ?_ ?_ ?_
    · exact ⟨_, (0 : Int), (0 : Int), fr_next (fr_next (fr_next (fr_next (fr_next (rfl) (by kernel_rfl)) (by kernel_rfl)) (by kernel_rfl)) (by kernel_rfl)) (by kernel_rfl), rfl, H⟩
    · rintro f S ⟨fr2, x5_2, x14_2, rfl, rfl, H⟩; cases H
    · rintro k2 f S ⟨fr2, x5_2, x14_2, rfl, rfl, H⟩
      replace H : ((if x14_2 < (l0.length : Int) then (if 0 ≤ x14_2 then (if x14_2 < (l1.length : Int) then lt (bits .xor .u8 ((l0).getD (x14_2).toNat (0 : Int)) ((l1).getD (x14_2).toNat (0 : Int))) fun y10 => (hmac_Same.lo2 l0 l1 k2) (bits .or .u8 x5_2 y10) (IntKind.wrap .i64 (x14_2 + (1 : Int))) else none) else none) else some (decide (x5_2 = (0 : Int))))) = some r := H
      refine cs_seq ?_
      refine cs_region (l := [_]) ?_
      refine ls_val (v := .bool (decide (x14_2 < (l0.length : Int)))) rfl rfl (by kernel_rfl) (fun w => by kernel_rfl) ?_
      refine ls_end ?_
      refine qn_then ?_
      refine cs_seq ?_
      by_cases q1 : x14_2 < (l0.length : Int)
      · replace H := ite_t q1 H
        refine cs_know (c := true) (dec_t q1) 15 (by kernel_rfl) ?_
        refine cs_true (by kernel_rfl) ?_
        refine cs_skip' ?_
        refine qn_then ?_
        refine cs_seq ?_
        refine cs_block ?_
        refine cs_seq ?_
        refine cs_region (l := [_, _]) ?_
        refine ls_val (v := .int .i64 x14_2) rfl rfl (by kernel_rfl) (fun w => by kernel_rfl) ?_
        refine ls_val (v := .int .i64 x14_2) rfl rfl (by kernel_rfl) (fun w => by kernel_rfl) ?_
        refine ls_end ?_
        refine qn_then ?_
        obtain ⟨s3_0, hs3_0⟩ : ∃ z : Value → Sto → Prop, z = (fun v R => v = .int .u8 x5_2 ∧ R = s0) := ⟨_, rfl⟩
        refine have_op (l := [_, _, _, _, _, _, _, _, _, _, _, _]) hmac_Same.tab1 0 0 (fun sp => sp 0 = s3_0) (fun sp on hA hon => ?_) (fun ops3_0 => ?_)
        · refine ⟨fun o ho vs Rs f' S' w hp hf hx hS hR hs => ?_⟩
          obtain rfl := Option.some.inj ho
          rw [hA, hs3_0]
          refine And.intro (fun a ha => (want_none rfl a ha).trans hon.symm) (And.intro (fun _ => ?_) (fun h => by rw [hon] at h; cases h))
          have hF := fr_next (rfl) ((hx 5 (by kernel_rfl)).trans (by kernel_rfl : (_ : Value) = .int .u8 x5_2))
          refine ls_fr hF ?_
          refine ls_val (v := .int .u8 x5_2) rfl rfl (by kernel_rfl) (fun w => by kernel_rfl) ?_
          exact ls_fin s0 (.int .u8 x5_2) (congrArg (fun z => upd z 17 _) hF.symm) ⟨rfl, rfl⟩ (sub_nil _)
        obtain ⟨s3_1, hs3_1⟩ : ∃ z : Value → Sto → Prop, z = (fun v R => v = .slice A0 l0.length c0 ∧ R = s0) := ⟨_, rfl⟩
        refine have_op (l := [_, _, _, _, _, _, _, _, _, _, _, _]) hmac_Same.tab1 0 1 (fun sp => sp 1 = s3_1) (fun sp on hA hon => ?_) (fun ops3_1 => ?_)
        · refine ⟨fun o ho vs Rs f' S' w hp hf hx hS hR hs => ?_⟩
          obtain rfl := Option.some.inj ho
          rw [hA, hs3_1]
          refine And.intro (fun a ha => (want_none rfl a ha).trans hon.symm) (And.intro (fun _ => ?_) (fun h => by rw [hon] at h; cases h))
          have hF := fr_next (rfl) ((hx 0 (by kernel_rfl)).trans (by kernel_rfl : (_ : Value) = .slice A0 l0.length c0))
          refine ls_fr hF ?_
          refine ls_val (v := .slice A0 l0.length c0) rfl rfl (by kernel_rfl) (fun w => by kernel_rfl) ?_
          exact ls_fin s0 (.slice A0 l0.length c0) (congrArg (fun z => upd z 18 _) hF.symm) ⟨rfl, rfl⟩ (sub_nil _)
        obtain ⟨s3_2, hs3_2⟩ : ∃ z : Value → Sto → Prop, z = (fun v R => v = .int .i64 x14_2 ∧ R = s0) := ⟨_, rfl⟩
        refine have_op (l := [_, _, _, _, _, _, _, _, _, _, _, _]) hmac_Same.tab1 0 2 (fun sp => sp 2 = s3_2) (fun sp on hA hon => ?_) (fun ops3_2 => ?_)
        · refine ⟨fun o ho vs Rs f' S' w hp hf hx hS hR hs => ?_⟩
          obtain rfl := Option.some.inj ho
          rw [hA, hs3_2]
          refine And.intro (fun a ha => (want_none rfl a ha).trans hon.symm) (And.intro (fun _ => ?_) (fun h => by rw [hon] at h; cases h))
          have hF := fr_next (rfl) ((hx 6 (by kernel_rfl)).trans (by kernel_rfl : (_ : Value) = .int .i64 x14_2))
          refine ls_fr hF ?_
          refine ls_val (v := .int .i64 x14_2) rfl rfl (by kernel_rfl) (fun w => by kernel_rfl) ?_
          exact ls_fin s0 (.int .i64 x14_2) (congrArg (fun z => upd z 19 _) hF.symm) ⟨rfl, rfl⟩ (sub_nil _)
        obtain ⟨q4, H⟩ := ite_need H
        obtain ⟨ad5, hA6⟩ := ido_at (T := (Ec.int 5 .u8)) (l := l0) (i := x14_2) R0 q4 q1
        obtain ⟨s3_3, hs3_3⟩ : ∃ z : Value → Sto → Prop, z = (fun v R => v = .pointer (some (ad5.add ((x14_2).toNat * 1))) ∧ R = s0) := ⟨_, rfl⟩
        refine have_op (l := [_, _, _, _, _, _, _, _, _, _, _, _]) hmac_Same.tab1 0 3 (fun sp => sp 3 = s3_3 ∧ sp 1 = s3_1 ∧ sp 2 = s3_2) (fun sp on hA hon => ?_) (fun ops3_3 => ?_)
        · refine ⟨fun o ho vs Rs f' S' w hp hf hx hS hR hs => ?_⟩
          obtain rfl := Option.some.inj ho
          obtain ⟨hv1, hR1⟩ := (spe hA.2.1 hs3_1 (hp 1 (by kernel_rfl)))
          obtain ⟨hv2, hR2⟩ := (spe hA.2.2 hs3_2 (hp 2 (by kernel_rfl)))
          rw [hA.1, hs3_3]
          refine And.intro (fun a ha => (want_none rfl a ha).trans hon.symm) (And.intro (fun _ => ?_) (fun h => by rw [hon] at h; cases h))
          have hF := fr_next (fr_next (rfl) ((hf 1 18 (by kernel_rfl) rfl).trans hv1)) ((hf 2 19 (by kernel_rfl) rfl).trans hv2)
          refine ls_fr hF ?_
          refine ls_idxv (Ec.int 5 .u8) (A := A0) (c := c0) (l := l0) (k := .i64) (i := x14_2) (z := 1) (ad := ad5) rfl rfl (by kernel_rfl) hA6 rfl (by kernel_rfl) (by kernel_rfl) (by kernel_rfl) (by kernel_rfl) q4 q1 ?_
          exact ls_fin s0 (.pointer (some (ad5.add ((x14_2).toNat * 1)))) (congrArg (fun z => upd z 20 _) hF.symm) ⟨rfl, rfl⟩ (sub_nil _)
        obtain ⟨s3_4, hs3_4⟩ : ∃ z : Value → Sto → Prop, z = (fun v R => v = .int .u8 ((l0).getD (x14_2).toNat (0 : Int)) ∧ R = s0) := ⟨_, rfl⟩
        refine have_op (l := [_, _, _, _, _, _, _, _, _, _, _, _]) hmac_Same.tab1 0 4 (fun sp => sp 4 = s3_4 ∧ sp 3 = s3_3) (fun sp on hA hon => ?_) (fun ops3_4 => ?_)
        · refine ⟨fun o ho vs Rs f' S' w hp hf hx hS hR hs => ?_⟩
          obtain rfl := Option.some.inj ho
          obtain ⟨hv3, hR3⟩ := (spe hA.2 hs3_3 (hp 3 (by kernel_rfl)))
          rw [hA.1, hs3_4]
          refine And.intro (fun a ha => (want_none rfl a ha).trans hon.symm) (And.intro (fun _ => ?_) (fun h => by rw [hon] at h; cases h))
          have hF := fr_next (rfl) ((hf 3 20 (by kernel_rfl) rfl).trans hv3)
          refine ls_fr hF ?_
          refine ls_load (a0 := (ad5.add ((x14_2).toNat * 1))) (v := .int .u8 ((l0).getD (x14_2).toNat (0 : Int))) (de := (TypeDesc.int .u8)) rfl rfl (by kernel_rfl) rfl (by kernel_rfl) (by kernel_rfl) (by kernel_rfl) (fun w1 hs1 => (Rd.step (hs.old R0) hs1.below.bw).at hA6 (em_sub (Ec.int 5 .u8) l0 (i := (x14_2).toNat) (by have h0 : (0 : Int) ≤ x14_2 := q4; have h1 : x14_2 < (l0.length : Int) := q1; omega))) ?_
          exact ls_fin s0 (.int .u8 ((l0).getD (x14_2).toNat (0 : Int))) (congrArg (fun z => upd z 21 _) hF.symm) ⟨rfl, rfl⟩ (sub_nil _)
        obtain ⟨s3_5, hs3_5⟩ : ∃ z : Value → Sto → Prop, z = (fun v R => v = .slice A1 l1.length c1 ∧ R = s0) := ⟨_, rfl⟩
        refine have_op (l := [_, _, _, _, _, _, _, _, _, _, _, _]) hmac_Same.tab1 0 5 (fun sp => sp 5 = s3_5) (fun sp on hA hon => ?_) (fun ops3_5 => ?_)
        · refine ⟨fun o ho vs Rs f' S' w hp hf hx hS hR hs => ?_⟩
          obtain rfl := Option.some.inj ho
          rw [hA, hs3_5]
          refine And.intro (fun a ha => (want_none rfl a ha).trans hon.symm) (And.intro (fun _ => ?_) (fun h => by rw [hon] at h; cases h))
          have hF := fr_next (rfl) ((hx 1 (by kernel_rfl)).trans (by kernel_rfl : (_ : Value) = .slice A1 l1.length c1))
          refine ls_fr hF ?_
          refine ls_val (v := .slice A1 l1.length c1) rfl rfl (by kernel_rfl) (fun w => by kernel_rfl) ?_
          exact ls_fin s0 (.slice A1 l1.length c1) (congrArg (fun z => upd z 22 _) hF.symm) ⟨rfl, rfl⟩ (sub_nil _)
        obtain ⟨s3_6, hs3_6⟩ : ∃ z : Value → Sto → Prop, z = (fun v R => v = .int .i64 x14_2 ∧ R = s0) := ⟨_, rfl⟩
        refine have_op (l := [_, _, _, _, _, _, _, _, _, _, _, _]) hmac_Same.tab1 0 6 (fun sp => sp 6 = s3_6) (fun sp on hA hon => ?_) (fun ops3_6 => ?_)
        · refine ⟨fun o ho vs Rs f' S' w hp hf hx hS hR hs => ?_⟩
          obtain rfl := Option.some.inj ho
          rw [hA, hs3_6]
          refine And.intro (fun a ha => (want_none rfl a ha).trans hon.symm) (And.intro (fun _ => ?_) (fun h => by rw [hon] at h; cases h))
          have hF := fr_next (rfl) ((hx 6 (by kernel_rfl)).trans (by kernel_rfl : (_ : Value) = .int .i64 x14_2))
          refine ls_fr hF ?_
          refine ls_val (v := .int .i64 x14_2) rfl rfl (by kernel_rfl) (fun w => by kernel_rfl) ?_
          exact ls_fin s0 (.int .i64 x14_2) (congrArg (fun z => upd z 23 _) hF.symm) ⟨rfl, rfl⟩ (sub_nil _)
        obtain ⟨q7, H⟩ := ite_need H
        obtain ⟨ad8, hA9⟩ := ido_at (T := (Ec.int 5 .u8)) (l := l1) (i := x14_2) R1 q4 q7
        obtain ⟨s3_7, hs3_7⟩ : ∃ z : Value → Sto → Prop, z = (fun v R => v = .pointer (some (ad8.add ((x14_2).toNat * 1))) ∧ R = s0) := ⟨_, rfl⟩
        refine have_op (l := [_, _, _, _, _, _, _, _, _, _, _, _]) hmac_Same.tab1 0 7 (fun sp => sp 7 = s3_7 ∧ sp 5 = s3_5 ∧ sp 6 = s3_6) (fun sp on hA hon => ?_) (fun ops3_7 => ?_)
        · refine ⟨fun o ho vs Rs f' S' w hp hf hx hS hR hs => ?_⟩
          obtain rfl := Option.some.inj ho
          obtain ⟨hv5, hR5⟩ := (spe hA.2.1 hs3_5 (hp 5 (by kernel_rfl)))
          obtain ⟨hv6, hR6⟩ := (spe hA.2.2 hs3_6 (hp 6 (by kernel_rfl)))
          rw [hA.1, hs3_7]
          refine And.intro (fun a ha => (want_none rfl a ha).trans hon.symm) (And.intro (fun _ => ?_) (fun h => by rw [hon] at h; cases h))
          have hF := fr_next (fr_next (rfl) ((hf 5 22 (by kernel_rfl) rfl).trans hv5)) ((hf 6 23 (by kernel_rfl) rfl).trans hv6)
          refine ls_fr hF ?_
          refine ls_idxv (Ec.int 5 .u8) (A := A1) (c := c1) (l := l1) (k := .i64) (i := x14_2) (z := 1) (ad := ad8) rfl rfl (by kernel_rfl) hA9 rfl (by kernel_rfl) (by kernel_rfl) (by kernel_rfl) (by kernel_rfl) q4 q7 ?_
          exact ls_fin s0 (.pointer (some (ad8.add ((x14_2).toNat * 1)))) (congrArg (fun z => upd z 24 _) hF.symm) ⟨rfl, rfl⟩ (sub_nil _)
        obtain ⟨s3_8, hs3_8⟩ : ∃ z : Value → Sto → Prop, z = (fun v R => v = .int .u8 ((l1).getD (x14_2).toNat (0 : Int)) ∧ R = s0) := ⟨_, rfl⟩
        refine have_op (l := [_, _, _, _, _, _, _, _, _, _, _, _]) hmac_Same.tab1 0 8 (fun sp => sp 8 = s3_8 ∧ sp 7 = s3_7) (fun sp on hA hon => ?_) (fun ops3_8 => ?_)
        · refine ⟨fun o ho vs Rs f' S' w hp hf hx hS hR hs => ?_⟩
          obtain rfl := Option.some.inj ho
          obtain ⟨hv7, hR7⟩ := (spe hA.2 hs3_7 (hp 7 (by kernel_rfl)))
          rw [hA.1, hs3_8]
          refine And.intro (fun a ha => (want_none rfl a ha).trans hon.symm) (And.intro (fun _ => ?_) (fun h => by rw [hon] at h; cases h))
          have hF := fr_next (rfl) ((hf 7 24 (by kernel_rfl) rfl).trans hv7)
          refine ls_fr hF ?_
          refine ls_load (a0 := (ad8.add ((x14_2).toNat * 1))) (v := .int .u8 ((l1).getD (x14_2).toNat (0 : Int))) (de := (TypeDesc.int .u8)) rfl rfl (by kernel_rfl) rfl (by kernel_rfl) (by kernel_rfl) (by kernel_rfl) (fun w1 hs1 => (Rd.step (hs.old R1) hs1.below.bw).at hA9 (em_sub (Ec.int 5 .u8) l1 (i := (x14_2).toNat) (by have h0 : (0 : Int) ≤ x14_2 := q4; have h1 : x14_2 < (l1.length : Int) := q7; omega))) ?_
          exact ls_fin s0 (.int .u8 ((l1).getD (x14_2).toNat (0 : Int))) (congrArg (fun z => upd z 25 _) hF.symm) ⟨rfl, rfl⟩ (sub_nil _)
        obtain ⟨y10, hy11, H⟩ := lt_some H
        obtain ⟨s3_9, hs3_9⟩ : ∃ z : Value → Sto → Prop, z = (fun v R => v = .int .u8 y10 ∧ R = s0) := ⟨_, rfl⟩
        refine have_op (l := [_, _, _, _, _, _, _, _, _, _, _, _]) hmac_Same.tab1 0 9 (fun sp => sp 9 = s3_9 ∧ sp 4 = s3_4 ∧ sp 8 = s3_8) (fun sp on hA hon => ?_) (fun ops3_9 => ?_)
        · refine ⟨fun o ho vs Rs f' S' w hp hf hx hS hR hs => ?_⟩
          obtain rfl := Option.some.inj ho
          obtain ⟨hv4, hR4⟩ := (spe hA.2.1 hs3_4 (hp 4 (by kernel_rfl)))
          obtain ⟨hv8, hR8⟩ := (spe hA.2.2 hs3_8 (hp 8 (by kernel_rfl)))
          rw [hA.1, hs3_9]
          refine And.intro (fun a ha => (want_none rfl a ha).trans hon.symm) (And.intro (fun _ => ?_) (fun h => by rw [hon] at h; cases h))
          have hF := fr_next (fr_next (rfl) ((hf 4 21 (by kernel_rfl) rfl).trans hv4)) ((hf 8 25 (by kernel_rfl) rfl).trans hv8)
          refine ls_fr hF ?_
          refine ls_val (v := .int .u8 (bits .xor .u8 ((l0).getD (x14_2).toNat (0 : Int)) ((l1).getD (x14_2).toNat (0 : Int)))) rfl rfl (by kernel_rfl) (fun w => by kernel_rfl) ?_
          refine ls_ren 26 (v := .int .u8 (bits .xor .u8 ((l0).getD (x14_2).toNat (0 : Int)) ((l1).getD (x14_2).toNat (0 : Int)))) (v' := .int .u8 y10) (by kernel_rfl) (by rw [hy11]) ?_
          exact ls_fin s0 (.int .u8 y10) ((upd_upd _ _ _ _).trans (congrArg (fun z => upd z 26 _) hF.symm)) ⟨rfl, rfl⟩ (sub_nil _)
        refine cs_draw hmac_Same.tab1 10 0 (spl [s3_0, s3_1, s3_2, s3_3, s3_4, s3_5, s3_6, s3_7, s3_8, s3_9]) (onl [true, true, true, true, true, true, true, true, true, true]) (by kernel_rfl) (by kernel_rfl) (by kernel_rfl) (by kernel_rfl) (rs := [_, _]) rfl (by kernel_rfl) (by kernel_rfl) (all_snoc (all_snoc (all_snoc (all_snoc (all_snoc (all_snoc (all_snoc (all_snoc (all_snoc (all_snoc (all_nil) (ops3_0 _ _ rfl rfl)) (ops3_1 _ _ rfl rfl)) (ops3_2 _ _ rfl rfl)) (ops3_3 _ _ ⟨rfl, rfl, rfl⟩ rfl)) (ops3_4 _ _ ⟨rfl, rfl⟩ rfl)) (ops3_5 _ _ rfl rfl)) (ops3_6 _ _ rfl rfl)) (ops3_7 _ _ ⟨rfl, rfl, rfl⟩ rfl)) (ops3_8 _ _ ⟨rfl, rfl⟩ rfl)) (ops3_9 _ _ ⟨rfl, rfl, rfl⟩ rfl)) ?_
        intro vs Rs f' S' hp hf hx hS hR
        obtain ⟨hv0, hR0⟩ := (spe rfl hs3_0 (hp 0 (by kernel_rfl)))
        obtain ⟨hv9, hR9⟩ := (spe rfl hs3_9 (hp 9 (by kernel_rfl)))
        refine ls_fr (F := upd (upd (upd (upd (upd (upd f' 0 (.slice A0 l0.length c0)) 1 (.slice A1 l1.length c1)) 13 (.int .i64 (l0.length : Int))) 14 (.int .i64 x14_2)) 17 (.int .u8 x5_2)) 26 (.int .u8 y10)) (fr_next (fr_next (fr_next (fr_next (fr_next (fr_next (rfl) ((hx 0 (by kernel_rfl)).trans (by kernel_rfl : (_ : Value) = .slice A0 l0.length c0))) ((hx 1 (by kernel_rfl)).trans (by kernel_rfl : (_ : Value) = .slice A1 l1.length c1))) ((hx 13 (by kernel_rfl)).trans (by kernel_rfl : (_ : Value) = .int .i64 (l0.length : Int)))) ((hx 14 (by kernel_rfl)).trans (by kernel_rfl : (_ : Value) = .int .i64 x14_2))) ((hf 0 17 (by kernel_rfl) rfl).trans hv0)) ((hf 9 26 (by kernel_rfl) rfl).trans hv9)) ?_
        refine ls_sub (s0) (sub_nil _) ?_
        refine ls_val (v := .int .u8 (bits .or .u8 x5_2 y10)) rfl rfl (by kernel_rfl) (fun w => by kernel_rfl) ?_
        refine ls_val (v := .int .u8 (bits .or .u8 x5_2 y10)) rfl rfl (by kernel_rfl) (fun w => by kernel_rfl) ?_
        refine ls_end ?_
        refine qn_block ?_
        refine qn_then ?_
        refine cs_region (l := [_, _]) ?_
        refine ls_val (v := .int .i64 (IntKind.wrap .i64 (x14_2 + (1 : Int)))) rfl rfl (by kernel_rfl) (fun w => by kernel_rfl) ?_
        refine ls_val (v := .int .i64 (IntKind.wrap .i64 (x14_2 + (1 : Int)))) rfl rfl (by kernel_rfl) (fun w => by kernel_rfl) ?_
        refine ls_end ?_
        refine qn_again k2 (s0) (Nat.le_refl _) ⟨_, (bits .or .u8 x5_2 y10), (IntKind.wrap .i64 (x14_2 + (1 : Int))), fr_next (fr_next (fr_next (fr_next (fr_next (rfl) (by kernel_rfl)) (by kernel_rfl)) (by kernel_rfl)) (by kernel_rfl)) (by kernel_rfl), rfl, H⟩ (sub_nil _)
      · replace H := ite_f q1 H
        refine cs_know (c := false) (dec_f q1) 15 (by kernel_rfl) ?_
        refine cs_false (by kernel_rfl) ?_
        refine cs_exit' ?_
        refine qx_then ?_
        refine qx_then ?_
        refine qx_same ?_
        refine qn_then ?_
        refine cs_seq ?_
        refine cs_region (l := [_, _, _]) ?_
        refine ls_val (v := .int .u8 x5_2) rfl rfl (by kernel_rfl) (fun w => by kernel_rfl) ?_
        refine ls_val (v := .bool (decide (x5_2 = (0 : Int)))) rfl rfl (by kernel_rfl) (fun w => by kernel_rfl) ?_
        refine ls_val (v := .bool (decide (x5_2 = (0 : Int)))) rfl rfl (by kernel_rfl) (fun w => by kernel_rfl) ?_
        refine ls_end ?_
        refine qn_then ?_
        refine cs_ret' ?_
        obtain rfl := Option.some.inj H
        refine qr_res (rs := [_]) rfl (fun w' hs => ⟨[.bool (decide (x5_2 = (0 : Int)))], (res_tmp (by kernel_rfl) (.nil)), (), rfl, hs.pick (ts := []) (cs := []) trivial (by decide)⟩)

end Go.Proofs.Ytnkcadofhhcfaaa.G
