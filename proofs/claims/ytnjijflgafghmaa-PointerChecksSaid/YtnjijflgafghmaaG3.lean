/- Printed by a program of this session (sz.py): plain functions, and walks that show that the code comes to them; no condition. -/
import Derived.Test.YtnjijflgafghmaaProg
import Derived.Test.YtnjijflgafghmaaTy
import Derived.Test.YtnjijflgafghmaaG0
import Derived.Test.YtnjijflgafghmaaG1
import Derived.Test.YtnjijflgafghmaaG2
set_option linter.unusedVariables false
set_option linter.unusedSimpArgs false
namespace Go.Proofs.Ytnjijflgafghmaa.G
open Go Go.RowKit Go.Proofs.Ytnjijflgafghmaa.Sx

/-! ### shadowbox/shadowboxref03.End: function 53 -/
def shadowboxref03_End.cst0 : Vc Int 32 := ⟨[(0 : Int), (0 : Int), (0 : Int), (0 : Int), (0 : Int), (0 : Int), (0 : Int), (0 : Int), (0 : Int), (0 : Int), (0 : Int), (0 : Int), (0 : Int), (0 : Int), (0 : Int), (0 : Int), (0 : Int), (0 : Int), (0 : Int), (0 : Int), (0 : Int), (0 : Int), (0 : Int), (0 : Int), (0 : Int), (0 : Int), (0 : Int), (0 : Int), (0 : Int), (0 : Int), (0 : Int), (0 : Int)], rfl⟩
def shadowboxref03_End.lo5 (m0_4 : ((Vc Int 8) × Int)) : Nat → Int → ((Vc Int 32)) → Option ((Vc Int 32))
  | 0, _, _ => none
  | k5 + 1, x12_5, m5_5 => (if x12_5 < (32 : Int) then lt (IntKind.wrap .i64 (Int.tdiv x12_5 (4 : Int))) fun y16 => (if 0 ≤ y16 then (if y16 < (8 : Int) then lt (IntKind.wrap .i64 ((8 : Int) * (Int.tmod x12_5 (4 : Int)))) fun y20 => lt (IntKind.wrap .u64 (IntKind.wrap .i64 ((24 : Int) - y20))) fun y22 => (if 0 ≤ y22 then lt (shrv .u32 (m0_4.1.1.getD (y16).toNat (0 : Int)) y22) fun y25 => (if 0 ≤ x12_5 then lt (vset m5_5 (x12_5).toNat (IntKind.wrap .u8 y25)) fun y28 => (shadowboxref03_End.lo5 m0_4 k5) (IntKind.wrap .i64 (x12_5 + (1 : Int))) y28 else none) else none) else none) else none) else some m5_5)
def shadowboxref03_End.jo4 (k : Nat) (m0_4 : ((Vc Int 8) × Int)) : Option ((Vc Int 32)) := shadowboxref03_End.lo5 m0_4 k (0 : Int) shadowboxref03_End.cst0
def shadowboxref03_End.tab30 : List (List Nat) := [[], [], [], [], [3], [1, 2, 3, 4], [], [0, 1, 2, 3, 4, 5, 6], [0, 1, 2, 3, 4, 5, 6, 7]]
def shadowboxref03_End.lo6 (a2 : (Vc Int 64)) (l8_3 : List Int) (jo4 : (((Vc Int 8) × Int)) → Option ((Vc Int 32))) : Nat → Int → (((Vc Int 8) × Int)) → Option ((Vc Int 32))
  | 0, _, _ => none
  | k6 + 1, x10_6, m0_6 => (if x10_6 < (l8_3.length : Int) then (if 0 ≤ IntKind.wrap .i64 (x10_6 + (64 : Int)) then (if IntKind.wrap .i64 (x10_6 + (64 : Int)) ≤ (l8_3.length : Int) then (if 0 ≤ x10_6 then (if x10_6 ≤ IntKind.wrap .i64 (x10_6 + (64 : Int)) then lt ((l8_3.take (IntKind.wrap .i64 (x10_6 + (64 : Int))).toNat).drop (x10_6).toNat) fun xl42 => (shadowboxref03_Block.f k6 m0_6 xl42 a2).bind fun t47 => (shadowboxref03_End.lo6 a2 l8_3 jo4 k6) (IntKind.wrap .i64 (x10_6 + (64 : Int))) t47 else none) else none) else none) else none) else jo4 m0_6)
def shadowboxref03_End.jo3 (k : Nat) (a0 : ((Vc Int 8) × Int)) (a2 : (Vc Int 64)) (l8_3 : List Int) : Option ((Vc Int 32)) := shadowboxref03_End.lo6 a2 l8_3 (shadowboxref03_End.jo4 k) k (0 : Int) a0
def shadowboxref03_End.lo7 (y4 : Int) (jo3 : (List Int) → Option ((Vc Int 32))) : Nat → (List Int) → Int → Option ((Vc Int 32))
  | 0, _, _ => none
  | k7 + 1, l8_7, x9_7 => (if x9_7 ≥ (0 : Int) then lt (IntKind.wrap .u64 (IntKind.wrap .i64 ((8 : Int) * x9_7))) fun y51 => (if 0 ≤ y51 then lt (shrv .u64 (IntKind.wrap .u64 ((8 : Int) * y4)) y51) fun y54 => (if (l8_7.length + ([IntKind.wrap .u8 y54]).length) * 1 ≤ 140737488355328 then (shadowboxref03_End.lo7 y4 jo3 k7) (l8_7 ++ [IntKind.wrap .u8 y54]) (IntKind.wrap .i64 (x9_7 - (1 : Int))) else none) else none) else jo3 l8_7)
def shadowboxref03_End.jo2 (k : Nat) (a0 : ((Vc Int 8) × Int)) (a2 : (Vc Int 64)) (y4 : Int) (l8_2 : List Int) : Option ((Vc Int 32)) := shadowboxref03_End.lo7 y4 (shadowboxref03_End.jo3 k a0 a2) k l8_2 (7 : Int)
def shadowboxref03_End.lo8 (jo2 : (List Int) → Option ((Vc Int 32))) : Nat → (List Int) → Option ((Vc Int 32))
  | 0, _ => none
  | k8 + 1, l8_8 => (if (Int.tmod (l8_8.length : Int) (64 : Int)) = (56 : Int) then jo2 l8_8 else (if (l8_8.length + ([(0 : Int)]).length) * 1 ≤ 140737488355328 then (shadowboxref03_End.lo8 jo2 k8) (l8_8 ++ [(0 : Int)]) else none))
def shadowboxref03_End.jo1 (k : Nat) (a0 : ((Vc Int 8) × Int)) (a2 : (Vc Int 64)) (l1_1 : List Int) : Option ((Vc Int 32)) := lt (IntKind.wrap .u64 (a0.2 + (IntKind.wrap .u64 (l1_1.length : Int)))) fun y4 => (if (([] : List Int).length + l1_1.length) * 1 ≤ 140737488355328 then (if ((([] : List Int) ++ l1_1).length + ([(128 : Int)]).length) * 1 ≤ 140737488355328 then shadowboxref03_End.lo8 (shadowboxref03_End.jo2 k a0 a2 y4) k ((([] : List Int) ++ l1_1) ++ [(128 : Int)]) else none) else none)
def shadowboxref03_End.f (k : Nat) (a0 : ((Vc Int 8) × Int)) (l1 : List Int) (a2 : (Vc Int 64)) : Option ((Vc Int 32)) :=
  (if (l1.length : Int) > (63 : Int) then (if (63 : Int) ≤ (l1.length : Int) then lt (l1.take ((63 : Int)).toNat) fun xl71 => (shadowboxref03_End.jo1 k a0 a2) xl71 else none) else (shadowboxref03_End.jo1 k a0 a2) l1)
set_option maxRecDepth 100000 in
set_option maxHeartbeats 4000000 in
theorem shadowboxref03_End.calls (k : Nat) (a0 : ((Vc Int 8) × Int)) (A1 : Option Addr) (c1 : Nat) (l1 : List Int) (a2 : (Vc Int 64)) (r : (Vc Int 32)) (b : Bs) (hs0 : St b (stl []) b.w) (R1 : Ro b A1 (em (Ec.int 5 .u8) l1)) (C1 : l1.length ≤ c1) (H : shadowboxref03_End.f k a0 l1 a2 = some r) :
    Calls Try.prog 53 #[.agg ⟨(en (Value.int .u32) a0.1.1 ++ [Value.int .u64 a0.2])⟩, .slice A1 l1.length c1, .agg ⟨en (Value.int .u32) a2.1⟩] b.w fun e w' => ∃ x : Unit, e = .returned (.agg ⟨en (Value.int .u8) r.1⟩) ∧ St b (stl []) w' := by
  unfold shadowboxref03_End.f at H
  refine enterb (n := 84) Try.func53 rfl (by kernel_rfl) (by kernel_rfl) hs0 ?_
  refine cs_sub (s0) (sub_nil _) ?_
  refine cs_seq ?_
  refine cs_region (l := [_, _, _]) ?_
  refine ls_new rfl rfl (by kernel_rfl) 0 (fun g => .pointer (some ⟨g, 0, none⟩)) (.cells ⟨(en (Value.int .u32) a0.1.1 ++ [Value.int .u64 a0.2])⟩ 87) (fun w => by kernel_rfl) ?_
  intro g1
  refine ls_new rfl rfl (by kernel_rfl) 1 (fun g => .pointer (some ⟨g, 0, none⟩)) (.cells ⟨en (Value.int .u32) a2.1⟩ 85) (fun w => by kernel_rfl) ?_
  intro g2
  refine ls_new rfl rfl (by kernel_rfl) 2 (fun g => .pointer (some ⟨g, 0, none⟩)) (.cells ⟨en (Value.int .u8) (vrep 32 (0 : Int)).1⟩ 23) (fun w => by kernel_rfl) ?_
  intro g3
  refine ls_end ?_
  refine qn_then ?_
  refine cs_cut (fun f S => ∃ (fR : Fr) (A1_1 : Option Addr) (c1_1 : Nat) (l1_1 : List Int), f = upd (upd (upd (upd fR 1 (.slice A1_1 l1_1.length c1_1)) 3 (.pointer (some ⟨g1, 0, none⟩))) 5 (.pointer (some ⟨g2, 0, none⟩))) 6 (.pointer (some ⟨g3, 0, none⟩)) ∧ S = sput (sput (sput s0 0 (some (Ck.var 87 g1 ((en (Value.int .u32) a0.1.1 ++ [Value.int .u64 a0.2]))))) 1 (some (Ck.var 85 g2 (en (Value.int .u32) a2.1)))) 2 (some (Ck.var 23 g3 (en (Value.int .u8) (vrep 32 (0 : Int)).1))) ∧ Ro b A1_1 (em (Ec.int 5 .u8) l1_1) ∧ l1_1.length ≤ c1_1 ∧ shadowboxref03_End.jo1 k a0 a2 l1_1 = some r) ?_ ?_
  · skip
    refine cs_seq ?_
    refine cs_region (l := [_, _, _]) ?_
    refine ls_val (v := .slice A1 l1.length c1) rfl rfl (by kernel_rfl) (fun w => by kernel_rfl) ?_
    refine ls_val (v := .int .i64 (l1.length : Int)) rfl rfl (by kernel_rfl) (fun w => by kernel_rfl) ?_
    refine ls_val (v := .bool (decide ((l1.length : Int) > (63 : Int)))) rfl rfl (by kernel_rfl) (fun w => by kernel_rfl) ?_
    refine ls_end ?_
    refine qn_then ?_
    by_cases q65 : (l1.length : Int) > (63 : Int)
    · replace H := ite_t q65 H
      refine cs_know (c := true) (dec_t q65) 15 (by kernel_rfl) ?_
      refine cs_true (by kernel_rfl) ?_
      refine cs_region (l := [_, _, _]) ?_
      refine ls_val (v := .slice A1 l1.length c1) rfl rfl (by kernel_rfl) (fun w => by kernel_rfl) ?_
      obtain ⟨q66, H⟩ := ite_need H
      obtain ⟨xl71, hy72, H⟩ := lt_some H
      have hz74 : 0 ≤ ((63 : Int)).toNat := by omega
      have hz75 : ((63 : Int)).toNat ≤ l1.length := by omega
      obtain ⟨xA67, xc68, he73, xC70, xR69⟩ := cut_at (A := A1) (c := c1) (l := l1) (Ec.int 5 .u8) 0 (((63 : Int)).toNat) hz74 hz75 C1 R1 (m := xl71) (by rw [← hy72] <;> simp) (z := 1) rfl
      refine ls_cutv (A := A1) (c := c1) (m := l1.length) (z := 1) (e := 5) (a := 0) (b := ((63 : Int)).toNat) rfl rfl (by kernel_rfl) rfl (by kernel_rfl) (by kernel_rfl) (by kernel_rfl) (.inl ⟨rfl, rfl⟩) (.inr ⟨.i64, by rw [Int.toNat_of_nonneg (by first | assumption | omega)]; kernel_rfl⟩) hz74 hz75 C1 he73 ?_
      refine ls_val (v := .slice xA67 xl71.length xc68) rfl rfl (by kernel_rfl) (fun w => by kernel_rfl) ?_
      refine ls_end ?_
      refine qn_meet (sput (sput (sput s0 0 (some (Ck.var 87 g1 ((en (Value.int .u32) a0.1.1 ++ [Value.int .u64 a0.2]))))) 1 (some (Ck.var 85 g2 (en (Value.int .u32) a2.1)))) 2 (some (Ck.var 23 g3 (en (Value.int .u8) (vrep 32 (0 : Int)).1)))) ⟨_, xA67, xc68, xl71, fr_next (fr_next (fr_next (fr_next (rfl) (by kernel_rfl)) (by kernel_rfl)) (by kernel_rfl)) (by kernel_rfl), rfl, xR69, xC70, H⟩ (sub_put (by exact rfl) (sub_put (by exact rfl) (sub_put (by exact rfl) (sub_nil _))))
    · replace H := ite_f q65 H
      refine cs_know (c := false) (dec_f q65) 15 (by kernel_rfl) ?_
      refine cs_false (by kernel_rfl) ?_
      refine cs_skip' ?_
      refine qn_meet (sput (sput (sput s0 0 (some (Ck.var 87 g1 ((en (Value.int .u32) a0.1.1 ++ [Value.int .u64 a0.2]))))) 1 (some (Ck.var 85 g2 (en (Value.int .u32) a2.1)))) 2 (some (Ck.var 23 g3 (en (Value.int .u8) (vrep 32 (0 : Int)).1)))) ⟨_, A1, c1, l1, fr_next (fr_next (fr_next (fr_next (rfl) (by kernel_rfl)) (by kernel_rfl)) (by kernel_rfl)) (by kernel_rfl), rfl, R1, C1, H⟩ (sub_put (by exact rfl) (sub_put (by exact rfl) (sub_put (by exact rfl) (sub_nil _))))
  · rintro f S ⟨fr1, A1_1, c1_1, l1_1, rfl, rfl, R1_1, C1_1, H⟩
    replace H : (lt (IntKind.wrap .u64 (a0.2 + (IntKind.wrap .u64 (l1_1.length : Int)))) fun y4 => (if (([] : List Int).length + l1_1.length) * 1 ≤ 140737488355328 then (if ((([] : List Int) ++ l1_1).length + ([(128 : Int)]).length) * 1 ≤ 140737488355328 then shadowboxref03_End.lo8 (shadowboxref03_End.jo2 k a0 a2 y4) k ((([] : List Int) ++ l1_1) ++ [(128 : Int)]) else none) else none)) = some r := H
    refine cs_seq ?_
    refine cs_region (l := [_, _, _, _, _, _, _, _]) ?_
    refine ls_val (v := .pointer (some ⟨g1, (0 + 8), none⟩)) rfl rfl (by kernel_rfl) (fun w => by kernel_rfl) ?_
    refine ls_load (a0 := ⟨g1, (0 + 8), none⟩) (v := .int .u64 a0.2) (de := (TypeDesc.int .u64)) rfl rfl (by kernel_rfl) rfl (by kernel_rfl) (by kernel_rfl) (by kernel_rfl) (fun w hs => (hs.var (k := 0) (by exact rfl) (Sub4.trans (Sub4.all _) (Sub4.skip (n := 8) (len_en _ a0.1) (Sub4.all _))))) ?_
    refine ls_val (v := .slice A1_1 l1_1.length c1_1) rfl rfl (by kernel_rfl) (fun w => by kernel_rfl) ?_
    refine ls_val (v := .int .i64 (l1_1.length : Int)) rfl rfl (by kernel_rfl) (fun w => by kernel_rfl) ?_
    refine ls_val (v := .int .u64 (IntKind.wrap .u64 (l1_1.length : Int))) rfl rfl (by kernel_rfl) (fun w => by kernel_rfl) ?_
    obtain ⟨y4, hy5, H⟩ := lt_some H
    refine ls_val (v := .int .u64 (IntKind.wrap .u64 (a0.2 + (IntKind.wrap .u64 (l1_1.length : Int))))) rfl rfl (by kernel_rfl) (fun w => by kernel_rfl) ?_
    refine ls_ren 23 (v := .int .u64 (IntKind.wrap .u64 (a0.2 + (IntKind.wrap .u64 (l1_1.length : Int))))) (v' := .int .u64 y4) (by kernel_rfl) (by rw [hy5]) ?_
    refine ls_val (v := .int .u64 (IntKind.wrap .u64 ((8 : Int) * y4))) rfl rfl (by kernel_rfl) (fun w => by kernel_rfl) ?_
    refine ls_val (v := .int .u64 (IntKind.wrap .u64 ((8 : Int) * y4))) rfl rfl (by kernel_rfl) (fun w => by kernel_rfl) ?_
    refine ls_end ?_
    refine qn_then ?_
    refine cs_seq ?_
    refine cs_region (l := [_, _, _, _, _, _]) ?_
    refine ls_lit (Ec.int 5 .u8) 3 rfl rfl (by kernel_rfl) ([] : List Int) (by exact of_decide_eq_true (by kernel_rfl)) (fun w => by kernel_rfl) ?_
    intro g6
    refine ls_val (v := .slice A1_1 l1_1.length c1_1) rfl rfl (by kernel_rfl) (fun w => by kernel_rfl) ?_
    obtain ⟨q7, H⟩ := ite_need H
    refine ls_app (Ec.int 5 .u8) (A := (some ⟨g6, 0, none⟩)) (c := ([] : List Int).length) (B := A1_1) (cb := c1_1) (z := (Value.int .u8 0)) (l := ([] : List Int)) (m := l1_1) (bytes := 1) 3 rfl rfl (by kernel_rfl) rfl (by kernel_rfl) (by exact rfl) (by kernel_rfl) (fun w hs => (hs.old R1_1)) (by kernel_rfl) (by kernel_rfl) rfl (by decide) q7 ?_
    intro xA8 xc9
    refine ls_lit (Ec.int 5 .u8) 4 rfl rfl (by kernel_rfl) ([(128 : Int)]) (by exact of_decide_eq_true (by kernel_rfl)) (fun w => by kernel_rfl) ?_
    intro g10
    obtain ⟨q11, H⟩ := ite_need H
    refine ls_app (Ec.int 5 .u8) (A := xA8) (c := xc9) (B := (some ⟨g10, 0, none⟩)) (cb := [(128 : Int)].length) (z := (Value.int .u8 0)) (l := (([] : List Int) ++ l1_1)) (m := [(128 : Int)]) (bytes := 1) 3 rfl rfl (by kernel_rfl) rfl (by kernel_rfl) (by exact rfl) (by kernel_rfl) (fun w hs => (hs.rd (k := 4) (by exact rfl))) (by kernel_rfl) (by kernel_rfl) rfl (by decide) q11 ?_
    intro xA12 xc13
    refine ls_val (v := .slice xA12 ((([] : List Int) ++ l1_1) ++ [(128 : Int)]).length xc13) rfl rfl (by kernel_rfl) (fun w => by kernel_rfl) ?_
    refine ls_end ?_
    refine qn_then ?_
    refine cs_cut (fun f S => ∃ (fR : Fr) (A8_2 : Option Addr) (c8_2 : Nat) (l8_2 : List Int), f = upd (upd (upd (upd (upd fR 3 (.pointer (some ⟨g1, 0, none⟩))) 5 (.pointer (some ⟨g2, 0, none⟩))) 6 (.pointer (some ⟨g3, 0, none⟩))) 7 (.int .u64 (IntKind.wrap .u64 ((8 : Int) * y4)))) 8 (.slice A8_2 l8_2.length c8_2) ∧ S = sput (sput (sput (sput s0 0 (some (Ck.var 87 g1 ((en (Value.int .u32) a0.1.1 ++ [Value.int .u64 a0.2]))))) 1 (some (Ck.var 85 g2 (en (Value.int .u32) a2.1)))) 2 (some (Ck.var 23 g3 (en (Value.int .u8) (vrep 32 (0 : Int)).1)))) 3 (some (Ck.sl (Ec.int 5 .u8) A8_2 c8_2 l8_2)) ∧ shadowboxref03_End.jo2 k a0 a2 y4 l8_2 = some r) ?_ ?_
    · skip
      refine cs_block ?_
      refine cs_sub (sput (sput (sput (sput s0 0 (some (Ck.var 87 g1 ((en (Value.int .u32) a0.1.1 ++ [Value.int .u64 a0.2]))))) 1 (some (Ck.var 85 g2 (en (Value.int .u32) a2.1)))) 2 (some (Ck.var 23 g3 (en (Value.int .u8) (vrep 32 (0 : Int)).1)))) 3 (some (Ck.sl (Ec.int 5 .u8) xA12 xc13 ((([] : List Int) ++ l1_1) ++ [(128 : Int)])))) (sub_put (by exact rfl) (sub_put (by exact rfl) (sub_put (by exact rfl) (sub_put (by exact rfl) (sub_nil _))))) ?_
      refine cs_loop (fun kk f S => ∃ (fR : Fr) (A8_8 : Option Addr) (c8_8 : Nat) (l8_8 : List Int), f = upd (upd (upd (upd (upd fR 3 (.pointer (some ⟨g1, 0, none⟩))) 5 (.pointer (some ⟨g2, 0, none⟩))) 6 (.pointer (some ⟨g3, 0, none⟩))) 7 (.int .u64 (IntKind.wrap .u64 ((8 : Int) * y4)))) 8 (.slice A8_8 l8_8.length c8_8) ∧ S = sput (sput (sput (sput s0 0 (some (Ck.var 87 g1 ((en (Value.int .u32) a0.1.1 ++ [Value.int .u64 a0.2]))))) 1 (some (Ck.var 85 g2 (en (Value.int .u32) a2.1)))) 2 (some (Ck.var 23 g3 (en (Value.int .u8) (vrep 32 (0 : Int)).1)))) 3 (some (Ck.sl (Ec.int 5 .u8) A8_8 c8_8 l8_8)) ∧ shadowboxref03_End.lo8 (shadowboxref03_End.jo2 k a0 a2 y4) kk l8_8 = some r) k ?_ ?_ ?_
      · exact ⟨_, xA12, xc13, ((([] : List Int) ++ l1_1) ++ [(128 : Int)]), fr_next (fr_next (fr_next (fr_next (fr_next (rfl) (by kernel_rfl)) (by kernel_rfl)) (by kernel_rfl)) (by kernel_rfl)) (by kernel_rfl), rfl, H⟩
      · rintro f S ⟨fr8, A8_8, c8_8, l8_8, rfl, rfl, H⟩; cases H
      · rintro k8 f S ⟨fr8, A8_8, c8_8, l8_8, rfl, rfl, H⟩
        replace H : ((if (Int.tmod (l8_8.length : Int) (64 : Int)) = (56 : Int) then (shadowboxref03_End.jo2 k a0 a2 y4) l8_8 else (if (l8_8.length + ([(0 : Int)]).length) * 1 ≤ 140737488355328 then (shadowboxref03_End.lo8 (shadowboxref03_End.jo2 k a0 a2 y4) k8) (l8_8 ++ [(0 : Int)]) else none))) = some r := H
        refine cs_seq ?_
        refine cs_seq ?_
        refine cs_region (l := [_, _, _, _]) ?_
        refine ls_val (v := .slice A8_8 l8_8.length c8_8) rfl rfl (by kernel_rfl) (fun w => by kernel_rfl) ?_
        refine ls_val (v := .int .i64 (l8_8.length : Int)) rfl rfl (by kernel_rfl) (fun w => by kernel_rfl) ?_
        refine ls_val (v := .int .i64 (Int.tmod (l8_8.length : Int) (64 : Int))) rfl rfl (by kernel_rfl) (fun w => by kernel_rfl) ?_
        refine ls_val (v := .bool (!decide ((Int.tmod (l8_8.length : Int) (64 : Int)) = (56 : Int)))) rfl rfl (by kernel_rfl) (fun w => by kernel_rfl) ?_
        refine ls_end ?_
        refine qn_then ?_
        by_cases q60 : (Int.tmod (l8_8.length : Int) (64 : Int)) = (56 : Int)
        · replace H := ite_t q60 H
          refine cs_know (c := false) (congrArg Bool.not (dec_t q60)) 33 (by kernel_rfl) ?_
          refine cs_false (by kernel_rfl) ?_
          refine cs_exit' ?_
          refine qx_then ?_
          refine qx_then ?_
          refine qx_same ?_
          refine qn_meet (sput (sput (sput (sput s0 0 (some (Ck.var 87 g1 ((en (Value.int .u32) a0.1.1 ++ [Value.int .u64 a0.2]))))) 1 (some (Ck.var 85 g2 (en (Value.int .u32) a2.1)))) 2 (some (Ck.var 23 g3 (en (Value.int .u8) (vrep 32 (0 : Int)).1)))) 3 (some (Ck.sl (Ec.int 5 .u8) A8_8 c8_8 l8_8))) ⟨_, A8_8, c8_8, l8_8, fr_next (fr_next (fr_next (fr_next (fr_next (rfl) (by kernel_rfl)) (by kernel_rfl)) (by kernel_rfl)) (by kernel_rfl)) (by kernel_rfl), rfl, H⟩ (sub_put (by exact rfl) (sub_put (by exact rfl) (sub_put (by exact rfl) (sub_put (by exact rfl) (sub_nil _)))))
        · replace H := ite_f q60 H
          refine cs_know (c := true) (congrArg Bool.not (dec_f q60)) 33 (by kernel_rfl) ?_
          refine cs_true (by kernel_rfl) ?_
          refine cs_skip' ?_
          refine qn_then ?_
          refine cs_block ?_
          refine cs_region (l := [_, _, _, _]) ?_
          refine ls_val (v := .slice A8_8 l8_8.length c8_8) rfl rfl (by kernel_rfl) (fun w => by kernel_rfl) ?_
          refine ls_lit (Ec.int 5 .u8) 5 rfl rfl (by kernel_rfl) ([(0 : Int)]) (by exact of_decide_eq_true (by kernel_rfl)) (fun w => by kernel_rfl) ?_
          intro g61
          obtain ⟨q62, H⟩ := ite_need H
          refine ls_app (Ec.int 5 .u8) (A := A8_8) (c := c8_8) (B := (some ⟨g61, 0, none⟩)) (cb := [(0 : Int)].length) (z := (Value.int .u8 0)) (l := l8_8) (m := [(0 : Int)]) (bytes := 1) 3 rfl rfl (by kernel_rfl) rfl (by kernel_rfl) (by exact rfl) (by kernel_rfl) (fun w hs => (hs.rd (k := 5) (by exact rfl))) (by kernel_rfl) (by kernel_rfl) rfl (by decide) q62 ?_
          intro xA63 xc64
          refine ls_val (v := .slice xA63 (l8_8 ++ [(0 : Int)]).length xc64) rfl rfl (by kernel_rfl) (fun w => by kernel_rfl) ?_
          refine ls_end ?_
          refine qn_block ?_
          refine qn_again k8 (sput (sput (sput (sput s0 0 (some (Ck.var 87 g1 ((en (Value.int .u32) a0.1.1 ++ [Value.int .u64 a0.2]))))) 1 (some (Ck.var 85 g2 (en (Value.int .u32) a2.1)))) 2 (some (Ck.var 23 g3 (en (Value.int .u8) (vrep 32 (0 : Int)).1)))) 3 (some (Ck.sl (Ec.int 5 .u8) xA63 xc64 (l8_8 ++ [(0 : Int)])))) (Nat.le_refl _) ⟨_, xA63, xc64, (l8_8 ++ [(0 : Int)]), fr_next (fr_next (fr_next (fr_next (fr_next (rfl) (by kernel_rfl)) (by kernel_rfl)) (by kernel_rfl)) (by kernel_rfl)) (by kernel_rfl), rfl, H⟩ (sub_put (by exact rfl) (sub_put (by exact rfl) (sub_put (by exact rfl) (sub_put (by exact rfl) (sub_nil _)))))
    · rintro f S ⟨fr2, A8_2, c8_2, l8_2, rfl, rfl, H⟩
      replace H : (shadowboxref03_End.lo7 y4 (shadowboxref03_End.jo3 k a0 a2) k l8_2 (7 : Int)) = some r := H
      refine cs_cut (fun f S => ∃ (fR : Fr) (A8_3 : Option Addr) (c8_3 : Nat) (l8_3 : List Int), f = upd (upd (upd (upd fR 3 (.pointer (some ⟨g1, 0, none⟩))) 5 (.pointer (some ⟨g2, 0, none⟩))) 6 (.pointer (some ⟨g3, 0, none⟩))) 8 (.slice A8_3 l8_3.length c8_3) ∧ S = sput (sput (sput (sput s0 0 (some (Ck.var 87 g1 ((en (Value.int .u32) a0.1.1 ++ [Value.int .u64 a0.2]))))) 1 (some (Ck.var 85 g2 (en (Value.int .u32) a2.1)))) 2 (some (Ck.var 23 g3 (en (Value.int .u8) (vrep 32 (0 : Int)).1)))) 3 (some (Ck.sl (Ec.int 5 .u8) A8_3 c8_3 l8_3)) ∧ shadowboxref03_End.jo3 k a0 a2 l8_3 = some r) ?_ ?_
      · skip
        refine cs_seq ?_
        refine cs_region (l := [_]) ?_
        refine ls_val (v := .int .i64 (7 : Int)) rfl rfl (by kernel_rfl) (fun w => by kernel_rfl) ?_
        refine ls_end ?_
        refine qn_then ?_
        refine cs_block ?_
        refine cs_sub (sput (sput (sput (sput s0 0 (some (Ck.var 87 g1 ((en (Value.int .u32) a0.1.1 ++ [Value.int .u64 a0.2]))))) 1 (some (Ck.var 85 g2 (en (Value.int .u32) a2.1)))) 2 (some (Ck.var 23 g3 (en (Value.int .u8) (vrep 32 (0 : Int)).1)))) 3 (some (Ck.sl (Ec.int 5 .u8) A8_2 c8_2 l8_2))) (sub_put (by exact rfl) (sub_put (by exact rfl) (sub_put (by exact rfl) (sub_put (by exact rfl) (sub_nil _))))) ?_
        refine cs_loop (fun kk f S => ∃ (fR : Fr) (A8_7 : Option Addr) (c8_7 : Nat) (l8_7 : List Int) (x9_7 : Int), f = upd (upd (upd (upd (upd (upd fR 3 (.pointer (some ⟨g1, 0, none⟩))) 5 (.pointer (some ⟨g2, 0, none⟩))) 6 (.pointer (some ⟨g3, 0, none⟩))) 7 (.int .u64 (IntKind.wrap .u64 ((8 : Int) * y4)))) 8 (.slice A8_7 l8_7.length c8_7)) 9 (.int .i64 x9_7) ∧ S = sput (sput (sput (sput s0 0 (some (Ck.var 87 g1 ((en (Value.int .u32) a0.1.1 ++ [Value.int .u64 a0.2]))))) 1 (some (Ck.var 85 g2 (en (Value.int .u32) a2.1)))) 2 (some (Ck.var 23 g3 (en (Value.int .u8) (vrep 32 (0 : Int)).1)))) 3 (some (Ck.sl (Ec.int 5 .u8) A8_7 c8_7 l8_7)) ∧ shadowboxref03_End.lo7 y4 (shadowboxref03_End.jo3 k a0 a2) kk l8_7 x9_7 = some r) k ?_ ?_ ?_
        · exact ⟨_, A8_2, c8_2, l8_2, (7 : Int), fr_next (fr_next (fr_next (fr_next (fr_next (fr_next (rfl) (by kernel_rfl)) (by kernel_rfl)) (by kernel_rfl)) (by kernel_rfl)) (by kernel_rfl)) (by kernel_rfl), rfl, H⟩
        · rintro f S ⟨fr7, A8_7, c8_7, l8_7, x9_7, rfl, rfl, H⟩; cases H
        · rintro k7 f S ⟨fr7, A8_7, c8_7, l8_7, x9_7, rfl, rfl, H⟩
          replace H : ((if x9_7 ≥ (0 : Int) then lt (IntKind.wrap .u64 (IntKind.wrap .i64 ((8 : Int) * x9_7))) fun y51 => (if 0 ≤ y51 then lt (shrv .u64 (IntKind.wrap .u64 ((8 : Int) * y4)) y51) fun y54 => (if (l8_7.length + ([IntKind.wrap .u8 y54]).length) * 1 ≤ 140737488355328 then (shadowboxref03_End.lo7 y4 (shadowboxref03_End.jo3 k a0 a2) k7) (l8_7 ++ [IntKind.wrap .u8 y54]) (IntKind.wrap .i64 (x9_7 - (1 : Int))) else none) else none) else (shadowboxref03_End.jo3 k a0 a2) l8_7)) = some r := H
          refine cs_seq ?_
          refine cs_seq ?_
          refine cs_region (l := [_, _]) ?_
          refine ls_val (v := .int .i64 x9_7) rfl rfl (by kernel_rfl) (fun w => by kernel_rfl) ?_
          refine ls_val (v := .bool (decide (x9_7 ≥ (0 : Int)))) rfl rfl (by kernel_rfl) (fun w => by kernel_rfl) ?_
          refine ls_end ?_
          refine qn_then ?_
          by_cases q50 : x9_7 ≥ (0 : Int)
          · replace H := ite_t q50 H
            refine cs_know (c := true) (dec_t q50) 38 (by kernel_rfl) ?_
            refine cs_true (by kernel_rfl) ?_
            refine cs_skip' ?_
            refine qn_then ?_
            refine cs_seq ?_
            refine cs_block ?_
            refine cs_region (l := [_, _, _, _, _, _, _, _, _, _]) ?_
            refine ls_val (v := .slice A8_7 l8_7.length c8_7) rfl rfl (by kernel_rfl) (fun w => by kernel_rfl) ?_
            refine ls_val (v := .int .u64 (IntKind.wrap .u64 ((8 : Int) * y4))) rfl rfl (by kernel_rfl) (fun w => by kernel_rfl) ?_
            refine ls_val (v := .int .i64 x9_7) rfl rfl (by kernel_rfl) (fun w => by kernel_rfl) ?_
            refine ls_val (v := .int .i64 (IntKind.wrap .i64 ((8 : Int) * x9_7))) rfl rfl (by kernel_rfl) (fun w => by kernel_rfl) ?_
            obtain ⟨y51, hy52, H⟩ := lt_some H
            refine ls_val (v := .int .u64 (IntKind.wrap .u64 (IntKind.wrap .i64 ((8 : Int) * x9_7)))) rfl rfl (by kernel_rfl) (fun w => by kernel_rfl) ?_
            refine ls_ren 45 (v := .int .u64 (IntKind.wrap .u64 (IntKind.wrap .i64 ((8 : Int) * x9_7)))) (v' := .int .u64 y51) (by kernel_rfl) (by rw [hy52]) ?_
            obtain ⟨q53, H⟩ := ite_need H
            obtain ⟨y54, hy55, H⟩ := lt_some H
            refine ls_shiftr (k := .u64) (yk := .u64) (x := (IntKind.wrap .u64 ((8 : Int) * y4))) (y := y51) rfl rfl (by kernel_rfl) (fun w => by kernel_rfl) q53 ?_
            refine ls_ren 46 (v := .int .u64 (shrv .u64 (IntKind.wrap .u64 ((8 : Int) * y4)) y51)) (v' := .int .u64 y54) (by kernel_rfl) (by rw [hy55]) ?_
            refine ls_val (v := .int .u8 (IntKind.wrap .u8 y54)) rfl rfl (by kernel_rfl) (fun w => by kernel_rfl) ?_
            refine ls_lit (Ec.int 5 .u8) 5 rfl rfl (by kernel_rfl) ([IntKind.wrap .u8 y54]) (by exact of_decide_eq_true (by kernel_rfl)) (fun w => by kernel_rfl) ?_
            intro g56
            obtain ⟨q57, H⟩ := ite_need H
            refine ls_app (Ec.int 5 .u8) (A := A8_7) (c := c8_7) (B := (some ⟨g56, 0, none⟩)) (cb := [IntKind.wrap .u8 y54].length) (z := (Value.int .u8 0)) (l := l8_7) (m := [IntKind.wrap .u8 y54]) (bytes := 1) 3 rfl rfl (by kernel_rfl) rfl (by kernel_rfl) (by exact rfl) (by kernel_rfl) (fun w hs => (hs.rd (k := 5) (by exact rfl))) (by kernel_rfl) (by kernel_rfl) rfl (by decide) q57 ?_
            intro xA58 xc59
            refine ls_val (v := .slice xA58 (l8_7 ++ [IntKind.wrap .u8 y54]).length xc59) rfl rfl (by kernel_rfl) (fun w => by kernel_rfl) ?_
            refine ls_end ?_
            refine qn_block ?_
            refine qn_then ?_
            refine cs_region (l := [_, _, _]) ?_
            refine ls_val (v := .int .i64 x9_7) rfl rfl (by kernel_rfl) (fun w => by kernel_rfl) ?_
            refine ls_val (v := .int .i64 (IntKind.wrap .i64 (x9_7 - (1 : Int)))) rfl rfl (by kernel_rfl) (fun w => by kernel_rfl) ?_
            refine ls_val (v := .int .i64 (IntKind.wrap .i64 (x9_7 - (1 : Int)))) rfl rfl (by kernel_rfl) (fun w => by kernel_rfl) ?_
            refine ls_end ?_
            refine qn_again k7 (sput (sput (sput (sput s0 0 (some (Ck.var 87 g1 ((en (Value.int .u32) a0.1.1 ++ [Value.int .u64 a0.2]))))) 1 (some (Ck.var 85 g2 (en (Value.int .u32) a2.1)))) 2 (some (Ck.var 23 g3 (en (Value.int .u8) (vrep 32 (0 : Int)).1)))) 3 (some (Ck.sl (Ec.int 5 .u8) xA58 xc59 (l8_7 ++ [IntKind.wrap .u8 y54])))) (Nat.le_refl _) ⟨_, xA58, xc59, (l8_7 ++ [IntKind.wrap .u8 y54]), (IntKind.wrap .i64 (x9_7 - (1 : Int))), fr_next (fr_next (fr_next (fr_next (fr_next (fr_next (rfl) (by kernel_rfl)) (by kernel_rfl)) (by kernel_rfl)) (by kernel_rfl)) (by kernel_rfl)) (by kernel_rfl), rfl, H⟩ (sub_put (by exact rfl) (sub_put (by exact rfl) (sub_put (by exact rfl) (sub_put (by exact rfl) (sub_nil _)))))
          · replace H := ite_f q50 H
            refine cs_know (c := false) (dec_f q50) 38 (by kernel_rfl) ?_
            refine cs_false (by kernel_rfl) ?_
            refine cs_exit' ?_
            refine qx_then ?_
            refine qx_then ?_
            refine qx_same ?_
            refine qn_meet (sput (sput (sput (sput s0 0 (some (Ck.var 87 g1 ((en (Value.int .u32) a0.1.1 ++ [Value.int .u64 a0.2]))))) 1 (some (Ck.var 85 g2 (en (Value.int .u32) a2.1)))) 2 (some (Ck.var 23 g3 (en (Value.int .u8) (vrep 32 (0 : Int)).1)))) 3 (some (Ck.sl (Ec.int 5 .u8) A8_7 c8_7 l8_7))) ⟨_, A8_7, c8_7, l8_7, fr_next (fr_next (fr_next (fr_next (rfl) (by kernel_rfl)) (by kernel_rfl)) (by kernel_rfl)) (by kernel_rfl), rfl, H⟩ (sub_put (by exact rfl) (sub_put (by exact rfl) (sub_put (by exact rfl) (sub_put (by exact rfl) (sub_nil _)))))
      · rintro f S ⟨fr3, A8_3, c8_3, l8_3, rfl, rfl, H⟩
        replace H : (shadowboxref03_End.lo6 a2 l8_3 (shadowboxref03_End.jo4 k) k (0 : Int) a0) = some r := H
        refine cs_cut (fun f S => ∃ (fR : Fr) (m0_4 : ((Vc Int 8) × Int)), f = upd (upd fR 3 (.pointer (some ⟨g1, 0, none⟩))) 6 (.pointer (some ⟨g3, 0, none⟩)) ∧ S = sput (sput s0 0 (some (Ck.var 87 g1 ((en (Value.int .u32) m0_4.1.1 ++ [Value.int .u64 m0_4.2]))))) 2 (some (Ck.var 23 g3 (en (Value.int .u8) (vrep 32 (0 : Int)).1))) ∧ shadowboxref03_End.jo4 k m0_4 = some r) ?_ ?_
        · skip
          refine cs_seq ?_
          refine cs_region (l := [_]) ?_
          refine ls_val (v := .int .i64 (0 : Int)) rfl rfl (by kernel_rfl) (fun w => by kernel_rfl) ?_
          refine ls_end ?_
          refine qn_then ?_
          refine cs_block ?_
          refine cs_sub (sput (sput (sput (sput s0 0 (some (Ck.var 87 g1 ((en (Value.int .u32) a0.1.1 ++ [Value.int .u64 a0.2]))))) 1 (some (Ck.var 85 g2 (en (Value.int .u32) a2.1)))) 2 (some (Ck.var 23 g3 (en (Value.int .u8) (vrep 32 (0 : Int)).1)))) 3 (some (Ck.sl (Ec.int 5 .u8) A8_3 c8_3 l8_3))) (sub_put (by exact rfl) (sub_put (by exact rfl) (sub_put (by exact rfl) (sub_put (by exact rfl) (sub_nil _))))) ?_
          refine cs_loop (fun kk f S => ∃ (fR : Fr) (x10_6 : Int) (m0_6 : ((Vc Int 8) × Int)), f = upd (upd (upd (upd (upd fR 3 (.pointer (some ⟨g1, 0, none⟩))) 5 (.pointer (some ⟨g2, 0, none⟩))) 6 (.pointer (some ⟨g3, 0, none⟩))) 8 (.slice A8_3 l8_3.length c8_3)) 10 (.int .i64 x10_6) ∧ S = sput (sput (sput (sput s0 0 (some (Ck.var 87 g1 ((en (Value.int .u32) m0_6.1.1 ++ [Value.int .u64 m0_6.2]))))) 1 (some (Ck.var 85 g2 (en (Value.int .u32) a2.1)))) 2 (some (Ck.var 23 g3 (en (Value.int .u8) (vrep 32 (0 : Int)).1)))) 3 (some (Ck.sl (Ec.int 5 .u8) A8_3 c8_3 l8_3)) ∧ shadowboxref03_End.lo6 a2 l8_3 (shadowboxref03_End.jo4 k) kk x10_6 m0_6 = some r) k ?_ ?_ ?_
          · exact ⟨_, (0 : Int), a0, fr_next (fr_next (fr_next (fr_next (fr_next (rfl) (by kernel_rfl)) (by kernel_rfl)) (by kernel_rfl)) (by kernel_rfl)) (by kernel_rfl), rfl, H⟩
          · rintro f S ⟨fr6, x10_6, m0_6, rfl, rfl, H⟩; cases H
          · rintro k6 f S ⟨fr6, x10_6, m0_6, rfl, rfl, H⟩
            replace H : ((if x10_6 < (l8_3.length : Int) then (if 0 ≤ IntKind.wrap .i64 (x10_6 + (64 : Int)) then (if IntKind.wrap .i64 (x10_6 + (64 : Int)) ≤ (l8_3.length : Int) then (if 0 ≤ x10_6 then (if x10_6 ≤ IntKind.wrap .i64 (x10_6 + (64 : Int)) then lt ((l8_3.take (IntKind.wrap .i64 (x10_6 + (64 : Int))).toNat).drop (x10_6).toNat) fun xl42 => (shadowboxref03_Block.f k6 m0_6 xl42 a2).bind fun t47 => (shadowboxref03_End.lo6 a2 l8_3 (shadowboxref03_End.jo4 k) k6) (IntKind.wrap .i64 (x10_6 + (64 : Int))) t47 else none) else none) else none) else none) else (shadowboxref03_End.jo4 k) m0_6)) = some r := H
            refine cs_seq ?_
            refine cs_seq ?_
            refine cs_region (l := [_, _, _, _]) ?_
            refine ls_val (v := .int .i64 x10_6) rfl rfl (by kernel_rfl) (fun w => by kernel_rfl) ?_
            refine ls_val (v := .slice A8_3 l8_3.length c8_3) rfl rfl (by kernel_rfl) (fun w => by kernel_rfl) ?_
            refine ls_val (v := .int .i64 (l8_3.length : Int)) rfl rfl (by kernel_rfl) (fun w => by kernel_rfl) ?_
            refine ls_val (v := .bool (decide (x10_6 < (l8_3.length : Int)))) rfl rfl (by kernel_rfl) (fun w => by kernel_rfl) ?_
            refine ls_end ?_
            refine qn_then ?_
            by_cases q30 : x10_6 < (l8_3.length : Int)
            · replace H := ite_t q30 H
              refine cs_know (c := true) (dec_t q30) 53 (by kernel_rfl) ?_
              refine cs_true (by kernel_rfl) ?_
              refine cs_skip' ?_
              refine qn_then ?_
              refine cs_seq ?_
              refine cs_block ?_
              obtain ⟨s32_0, hs32_0⟩ : ∃ z : Value → Sto → Prop, z = (fun v R => v = .agg ⟨(en (Value.int .u32) m0_6.1.1 ++ [Value.int .u64 m0_6.2])⟩ ∧ R = s0) := ⟨_, rfl⟩
              refine have_op (l := [_, _, _, _, _, _, _, _, _]) shadowboxref03_End.tab30 5 0 (fun sp => sp 0 = s32_0) (fun sp on hA hon => ?_) (fun ops32_0 => ?_)
              · refine ⟨fun o ho vs Rs f' S' w hp hf hx hS hR hs => ?_⟩
                obtain rfl := Option.some.inj ho
                rw [hA, hs32_0]
                refine And.intro (fun a ha => (want_none rfl a ha).trans hon.symm) (And.intro (fun _ => ?_) (fun h => by rw [hon] at h; cases h))
                have hF := fr_next (rfl) ((hx 3 (by kernel_rfl)).trans (by kernel_rfl : (_ : Value) = .pointer (some ⟨g1, 0, none⟩)))
                refine ls_fr hF ?_
                refine ls_loadagg (a := ⟨g1, 0, none⟩) (sub := (en (Value.int .u32) m0_6.1.1 ++ [Value.int .u64 m0_6.2])) rfl rfl (by kernel_rfl) rfl (by kernel_rfl) (by kernel_rfl) (by kernel_rfl) (len_app (len_en _ m0_6.1) (len1 _)) (fun w1 hs1 => Rd.step (hs.vars (k := 0) ((hS 0 (by kernel_rfl)).trans (by exact rfl)) (Sub4.all _)) hs1.below.bw) ?_
                exact ls_fin s0 (.agg ⟨(en (Value.int .u32) m0_6.1.1 ++ [Value.int .u64 m0_6.2])⟩) (congrArg (fun z => upd z 56 _) hF.symm) ⟨rfl, rfl⟩ (sub_nil _)
              obtain ⟨s32_1, hs32_1⟩ : ∃ z : Value → Sto → Prop, z = (fun v R => v = .slice A8_3 l8_3.length c8_3 ∧ R = s0) := ⟨_, rfl⟩
              refine have_op (l := [_, _, _, _, _, _, _, _, _]) shadowboxref03_End.tab30 5 1 (fun sp => sp 1 = s32_1) (fun sp on hA hon => ?_) (fun ops32_1 => ?_)
              · refine ⟨fun o ho vs Rs f' S' w hp hf hx hS hR hs => ?_⟩
                obtain rfl := Option.some.inj ho
                rw [hA, hs32_1]
                refine And.intro (fun a ha => (want_none rfl a ha).trans hon.symm) (And.intro (fun _ => ?_) (fun h => by rw [hon] at h; cases h))
                have hF := fr_next (rfl) ((hx 8 (by kernel_rfl)).trans (by kernel_rfl : (_ : Value) = .slice A8_3 l8_3.length c8_3))
                refine ls_fr hF ?_
                refine ls_val (v := .slice A8_3 l8_3.length c8_3) rfl rfl (by kernel_rfl) (fun w => by kernel_rfl) ?_
                exact ls_fin s0 (.slice A8_3 l8_3.length c8_3) (congrArg (fun z => upd z 57 _) hF.symm) ⟨rfl, rfl⟩ (sub_nil _)
              obtain ⟨s32_2, hs32_2⟩ : ∃ z : Value → Sto → Prop, z = (fun v R => v = .int .i64 x10_6 ∧ R = s0) := ⟨_, rfl⟩
              refine have_op (l := [_, _, _, _, _, _, _, _, _]) shadowboxref03_End.tab30 5 2 (fun sp => sp 2 = s32_2) (fun sp on hA hon => ?_) (fun ops32_2 => ?_)
              · refine ⟨fun o ho vs Rs f' S' w hp hf hx hS hR hs => ?_⟩
                obtain rfl := Option.some.inj ho
                rw [hA, hs32_2]
                refine And.intro (fun a ha => (want_none rfl a ha).trans hon.symm) (And.intro (fun _ => ?_) (fun h => by rw [hon] at h; cases h))
                have hF := fr_next (rfl) ((hx 10 (by kernel_rfl)).trans (by kernel_rfl : (_ : Value) = .int .i64 x10_6))
                refine ls_fr hF ?_
                refine ls_val (v := .int .i64 x10_6) rfl rfl (by kernel_rfl) (fun w => by kernel_rfl) ?_
                exact ls_fin s0 (.int .i64 x10_6) (congrArg (fun z => upd z 58 _) hF.symm) ⟨rfl, rfl⟩ (sub_nil _)
              obtain ⟨s32_3, hs32_3⟩ : ∃ z : Value → Sto → Prop, z = (fun v R => v = .int .i64 x10_6 ∧ R = s0) := ⟨_, rfl⟩
              refine have_op (l := [_, _, _, _, _, _, _, _, _]) shadowboxref03_End.tab30 5 3 (fun sp => sp 3 = s32_3) (fun sp on hA hon => ?_) (fun ops32_3 => ?_)
              · refine ⟨fun o ho vs Rs f' S' w hp hf hx hS hR hs => ?_⟩
                obtain rfl := Option.some.inj ho
                rw [hA, hs32_3]
                refine And.intro (fun a ha => (want_none rfl a ha).trans hon.symm) (And.intro (fun _ => ?_) (fun h => by rw [hon] at h; cases h))
                have hF := fr_next (rfl) ((hx 10 (by kernel_rfl)).trans (by kernel_rfl : (_ : Value) = .int .i64 x10_6))
                refine ls_fr hF ?_
                refine ls_val (v := .int .i64 x10_6) rfl rfl (by kernel_rfl) (fun w => by kernel_rfl) ?_
                exact ls_fin s0 (.int .i64 x10_6) (congrArg (fun z => upd z 59 _) hF.symm) ⟨rfl, rfl⟩ (sub_nil _)
              obtain ⟨s32_4, hs32_4⟩ : ∃ z : Value → Sto → Prop, z = (fun v R => v = .int .i64 (IntKind.wrap .i64 (x10_6 + (64 : Int))) ∧ R = s0) := ⟨_, rfl⟩
              refine have_op (l := [_, _, _, _, _, _, _, _, _]) shadowboxref03_End.tab30 5 4 (fun sp => sp 4 = s32_4 ∧ sp 3 = s32_3) (fun sp on hA hon => ?_) (fun ops32_4 => ?_)
              · refine ⟨fun o ho vs Rs f' S' w hp hf hx hS hR hs => ?_⟩
                obtain rfl := Option.some.inj ho
                obtain ⟨hv3, hR3⟩ := (spe hA.2 hs32_3 (hp 3 (by kernel_rfl)))
                rw [hA.1, hs32_4]
                refine And.intro (fun a ha => (want_none rfl a ha).trans hon.symm) (And.intro (fun _ => ?_) (fun h => by rw [hon] at h; cases h))
                have hF := fr_next (rfl) ((hf 3 59 (by kernel_rfl) rfl).trans hv3)
                refine ls_fr hF ?_
                refine ls_val (v := .int .i64 (IntKind.wrap .i64 (x10_6 + (64 : Int)))) rfl rfl (by kernel_rfl) (fun w => by kernel_rfl) ?_
                exact ls_fin s0 (.int .i64 (IntKind.wrap .i64 (x10_6 + (64 : Int)))) (congrArg (fun z => upd z 60 _) hF.symm) ⟨rfl, rfl⟩ (sub_nil _)
              obtain ⟨q34, H⟩ := ite_need H
              obtain ⟨q35, H⟩ := ite_need H
              obtain ⟨q36, H⟩ := ite_need H
              obtain ⟨q37, H⟩ := ite_need H
              obtain ⟨xl42, hy43, H⟩ := lt_some H
              have hz45 : (x10_6).toNat ≤ (IntKind.wrap .i64 (x10_6 + (64 : Int))).toNat := by omega
              have hz46 : (IntKind.wrap .i64 (x10_6 + (64 : Int))).toNat ≤ l8_3.length := by omega
              refine cs_cap (T := (Ec.int 5 .u8)) (tk := 3) (by exact rfl) ?_
              intro hC33
              obtain ⟨xA38, xc39, he44, xC41, xR40⟩ := cutr_at (A := A8_3) (c := c8_3) (l := l8_3) (Ec.int 5 .u8) ((x10_6).toNat) ((IntKind.wrap .i64 (x10_6 + (64 : Int))).toNat) hz45 hz46 hC33 (m := xl42) (by rw [← hy43] <;> simp) (z := 1) rfl
              obtain ⟨s32_5, hs32_5⟩ : ∃ z : Value → Sto → Prop, z = (fun v R => v = .slice xA38 xl42.length xc39 ∧ R = s0) := ⟨_, rfl⟩
              refine have_op (l := [_, _, _, _, _, _, _, _, _]) shadowboxref03_End.tab30 5 5 (fun sp => sp 5 = s32_5 ∧ sp 1 = s32_1 ∧ sp 2 = s32_2 ∧ sp 4 = s32_4) (fun sp on hA hon => ?_) (fun ops32_5 => ?_)
              · refine ⟨fun o ho vs Rs f' S' w hp hf hx hS hR hs => ?_⟩
                obtain rfl := Option.some.inj ho
                obtain ⟨hv1, hR1⟩ := (spe hA.2.1 hs32_1 (hp 1 (by kernel_rfl)))
                obtain ⟨hv2, hR2⟩ := (spe hA.2.2.1 hs32_2 (hp 2 (by kernel_rfl)))
                obtain ⟨hv4, hR4⟩ := (spe hA.2.2.2 hs32_4 (hp 4 (by kernel_rfl)))
                rw [hA.1, hs32_5]
                refine And.intro (fun a ha => (want_none rfl a ha).trans hon.symm) (And.intro (fun _ => ?_) (fun h => by rw [hon] at h; cases h))
                have hF := fr_next (fr_next (fr_next (rfl) ((hf 1 57 (by kernel_rfl) rfl).trans hv1)) ((hf 2 58 (by kernel_rfl) rfl).trans hv2)) ((hf 4 60 (by kernel_rfl) rfl).trans hv4)
                refine ls_fr hF ?_
                refine ls_cutv (A := A8_3) (c := c8_3) (m := l8_3.length) (z := 1) (e := 5) (a := (x10_6).toNat) (b := (IntKind.wrap .i64 (x10_6 + (64 : Int))).toNat) rfl rfl (by kernel_rfl) rfl (by kernel_rfl) (by kernel_rfl) (by kernel_rfl) (.inr ⟨.i64, by rw [Int.toNat_of_nonneg (by first | assumption | omega)]; kernel_rfl⟩) (.inr ⟨.i64, by rw [Int.toNat_of_nonneg (by first | assumption | omega)]; kernel_rfl⟩) hz45 hz46 hC33 he44 ?_
                exact ls_fin s0 (.slice xA38 xl42.length xc39) (congrArg (fun z => upd z 61 _) hF.symm) ⟨rfl, rfl⟩ (sub_nil _)
              obtain ⟨s32_6, hs32_6⟩ : ∃ z : Value → Sto → Prop, z = (fun v R => v = .agg ⟨en (Value.int .u32) a2.1⟩ ∧ R = s0) := ⟨_, rfl⟩
              refine have_op (l := [_, _, _, _, _, _, _, _, _]) shadowboxref03_End.tab30 5 6 (fun sp => sp 6 = s32_6) (fun sp on hA hon => ?_) (fun ops32_6 => ?_)
              · refine ⟨fun o ho vs Rs f' S' w hp hf hx hS hR hs => ?_⟩
                obtain rfl := Option.some.inj ho
                rw [hA, hs32_6]
                refine And.intro (fun a ha => (want_none rfl a ha).trans hon.symm) (And.intro (fun _ => ?_) (fun h => by rw [hon] at h; cases h))
                have hF := fr_next (rfl) ((hx 5 (by kernel_rfl)).trans (by kernel_rfl : (_ : Value) = .pointer (some ⟨g2, 0, none⟩)))
                refine ls_fr hF ?_
                refine ls_loadagg (a := ⟨g2, 0, none⟩) (sub := en (Value.int .u32) a2.1) rfl rfl (by kernel_rfl) rfl (by kernel_rfl) (by kernel_rfl) (by kernel_rfl) (len_en _ a2) (fun w1 hs1 => Rd.step (hs.vars (k := 1) ((hS 1 (by kernel_rfl)).trans (by exact rfl)) (Sub4.all _)) hs1.below.bw) ?_
                exact ls_fin s0 (.agg ⟨en (Value.int .u32) a2.1⟩) (congrArg (fun z => upd z 62 _) hF.symm) ⟨rfl, rfl⟩ (sub_nil _)
              refine cs_draw shadowboxref03_End.tab30 7 5 (spl [s32_0, s32_1, s32_2, s32_3, s32_4, s32_5, s32_6]) (onl [true, true, true, true, true, true, true]) (by kernel_rfl) (by kernel_rfl) (by kernel_rfl) (by kernel_rfl) (rs := [_, _]) rfl (by kernel_rfl) (by kernel_rfl) (all_snoc (all_snoc (all_snoc (all_snoc (all_snoc (all_snoc (all_snoc (all_nil) (ops32_0 _ _ rfl rfl)) (ops32_1 _ _ rfl rfl)) (ops32_2 _ _ rfl rfl)) (ops32_3 _ _ rfl rfl)) (ops32_4 _ _ ⟨rfl, rfl⟩ rfl)) (ops32_5 _ _ ⟨rfl, rfl, rfl, rfl⟩ rfl)) (ops32_6 _ _ rfl rfl)) ?_
              intro vs Rs f' S' hp hf hx hS hR
              obtain ⟨hv0, hR0⟩ := (spe rfl hs32_0 (hp 0 (by kernel_rfl)))
              obtain ⟨hv5, hR5⟩ := (spe rfl hs32_5 (hp 5 (by kernel_rfl)))
              obtain ⟨hv6, hR6⟩ := (spe rfl hs32_6 (hp 6 (by kernel_rfl)))
              refine ls_fr (F := upd (upd (upd (upd (upd (upd (upd (upd f' 3 (.pointer (some ⟨g1, 0, none⟩))) 5 (.pointer (some ⟨g2, 0, none⟩))) 6 (.pointer (some ⟨g3, 0, none⟩))) 8 (.slice A8_3 l8_3.length c8_3)) 10 (.int .i64 x10_6)) 56 (.agg ⟨(en (Value.int .u32) m0_6.1.1 ++ [Value.int .u64 m0_6.2])⟩)) 61 (.slice xA38 xl42.length xc39)) 62 (.agg ⟨en (Value.int .u32) a2.1⟩)) (fr_next (fr_next (fr_next (fr_next (fr_next (fr_next (fr_next (fr_next (rfl) ((hx 3 (by kernel_rfl)).trans (by kernel_rfl : (_ : Value) = .pointer (some ⟨g1, 0, none⟩)))) ((hx 5 (by kernel_rfl)).trans (by kernel_rfl : (_ : Value) = .pointer (some ⟨g2, 0, none⟩)))) ((hx 6 (by kernel_rfl)).trans (by kernel_rfl : (_ : Value) = .pointer (some ⟨g3, 0, none⟩)))) ((hx 8 (by kernel_rfl)).trans (by kernel_rfl : (_ : Value) = .slice A8_3 l8_3.length c8_3))) ((hx 10 (by kernel_rfl)).trans (by kernel_rfl : (_ : Value) = .int .i64 x10_6))) ((hf 0 56 (by kernel_rfl) rfl).trans hv0)) ((hf 5 61 (by kernel_rfl) rfl).trans hv5)) ((hf 6 62 (by kernel_rfl) rfl).trans hv6)) ?_
              refine ls_sub (sput (sput (sput (sput s0 0 (some (Ck.var 87 g1 ((en (Value.int .u32) m0_6.1.1 ++ [Value.int .u64 m0_6.2]))))) 1 (some (Ck.var 85 g2 (en (Value.int .u32) a2.1)))) 2 (some (Ck.var 23 g3 (en (Value.int .u8) (vrep 32 (0 : Int)).1)))) 3 (some (Ck.sl (Ec.int 5 .u8) A8_3 c8_3 l8_3))) (sub_put ((hS 3 (by kernel_rfl)).trans (by exact rfl)) (sub_put ((hS 2 (by kernel_rfl)).trans (by exact rfl)) (sub_put ((hS 1 (by kernel_rfl)).trans (by exact rfl)) (sub_put ((hS 0 (by kernel_rfl)).trans (by exact rfl)) (sub_nil _))))) ?_
              obtain ⟨t47, hc48, H⟩ := bind_some H
              refine ls_callb (fid := 52) (vals := #[.agg ⟨(en (Value.int .u32) m0_6.1.1 ++ [Value.int .u64 m0_6.2])⟩, .slice xA38 xl42.length xc39, .agg ⟨en (Value.int .u32) a2.1⟩]) (X := Unit) (fun x => .agg ⟨(en (Value.int .u32) t47.1.1 ++ [Value.int .u64 t47.2])⟩) (fun x => stl []) [] [3] [] [Ck.sl (Ec.int 5 .u8) A8_3 c8_3 l8_3] 61 rfl rfl (by kernel_rfl) (fun w => by kernel_rfl) trivial ⟨by exact rfl, trivial⟩ (by decide) (fun w hs hb => shadowboxref03_Block.calls k6 m0_6 xA38 xc39 xl42 a2 t47 (lent b w [] [Ck.sl (Ec.int 5 .u8) A8_3 c8_3 l8_3]) hb (Rd.ror (xR40.1 _ (hs.rd (k := 3) (by exact rfl))) (.head _) (cut_key xR40.2 Ck.sl_key)) xC41 hc48) ?_
              intro x49
              refine ls_storec (g := g1) (off := 0) (v := .agg ⟨(en (Value.int .u32) t47.1.1 ++ [Value.int .u64 t47.2])⟩) (vs := (en (Value.int .u32) t47.1.1 ++ [Value.int .u64 t47.2])) (cs := (en (Value.int .u32) m0_6.1.1 ++ [Value.int .u64 m0_6.2])) (ty := 87) 0 rfl rfl rfl (by kernel_rfl) (by kernel_rfl) (by kernel_rfl) (by exact rfl) (by kernel_rfl) (len_app (len_en _ t47.1) (len1 _)) (one_app (one_en (fun _ => rfl) _) (one_cons rfl one_nil)) (hl_of (Sub4.all _) (len_eq (len_app (len_en _ t47.1) (len1 _)) (len_app (len_en _ m0_6.1) (len1 _)))) (cs' := (en (Value.int .u32) t47.1.1 ++ [Value.int .u64 t47.2])) (splc_all (len_eq (len_app (len_en _ t47.1) (len1 _)) (len_app (len_en _ m0_6.1) (len1 _)))) ?_
              refine ls_end ?_
              refine qn_block ?_
              refine qn_then ?_
              refine cs_region (l := [_, _, _]) ?_
              refine ls_val (v := .int .i64 x10_6) rfl rfl (by kernel_rfl) (fun w => by kernel_rfl) ?_
              refine ls_val (v := .int .i64 (IntKind.wrap .i64 (x10_6 + (64 : Int)))) rfl rfl (by kernel_rfl) (fun w => by kernel_rfl) ?_
              refine ls_val (v := .int .i64 (IntKind.wrap .i64 (x10_6 + (64 : Int)))) rfl rfl (by kernel_rfl) (fun w => by kernel_rfl) ?_
              refine ls_end ?_
              refine qn_again k6 (sput (sput (sput (sput s0 0 (some (Ck.var 87 g1 ((en (Value.int .u32) t47.1.1 ++ [Value.int .u64 t47.2]))))) 1 (some (Ck.var 85 g2 (en (Value.int .u32) a2.1)))) 2 (some (Ck.var 23 g3 (en (Value.int .u8) (vrep 32 (0 : Int)).1)))) 3 (some (Ck.sl (Ec.int 5 .u8) A8_3 c8_3 l8_3))) (Nat.le_refl _) ⟨_, (IntKind.wrap .i64 (x10_6 + (64 : Int))), t47, fr_next (fr_next (fr_next (fr_next (fr_next (rfl) (by kernel_rfl)) (by kernel_rfl)) (by kernel_rfl)) (by kernel_rfl)) (by kernel_rfl), rfl, H⟩ (sub_put (by exact rfl) (sub_put (by exact rfl) (sub_put (by exact rfl) (sub_put (by exact rfl) (sub_nil _)))))
            · replace H := ite_f q30 H
              refine cs_know (c := false) (dec_f q30) 53 (by kernel_rfl) ?_
              refine cs_false (by kernel_rfl) ?_
              refine cs_exit' ?_
              refine qx_then ?_
              refine qx_then ?_
              refine qx_same ?_
              refine qn_meet (sput (sput s0 0 (some (Ck.var 87 g1 ((en (Value.int .u32) m0_6.1.1 ++ [Value.int .u64 m0_6.2]))))) 2 (some (Ck.var 23 g3 (en (Value.int .u8) (vrep 32 (0 : Int)).1)))) ⟨_, m0_6, fr_next (fr_next (rfl) (by kernel_rfl)) (by kernel_rfl), rfl, H⟩ (sub_put (by exact rfl) (sub_put (by exact rfl) (sub_nil _)))
        · rintro f S ⟨fr4, m0_4, rfl, rfl, H⟩
          replace H : (shadowboxref03_End.lo5 m0_4 k (0 : Int) shadowboxref03_End.cst0) = some r := H
          refine cs_seq ?_
          refine cs_region (l := [_, _, _]) ?_
          refine ls_val (v := .agg ⟨en (Value.int .u8) shadowboxref03_End.cst0.1⟩) rfl rfl (by kernel_rfl) (fun w => by kernel_rfl) ?_
          refine ls_new rfl rfl (by kernel_rfl) 5 (fun g => .pointer (some ⟨g, 0, none⟩)) (.cells ⟨en (Value.int .u8) (vrep 32 (0 : Int)).1⟩ 23) (fun w => by kernel_rfl) ?_
          intro g14
          refine ls_storec (g := g14) (off := 0) (v := .agg ⟨en (Value.int .u8) shadowboxref03_End.cst0.1⟩) (vs := en (Value.int .u8) shadowboxref03_End.cst0.1) (cs := en (Value.int .u8) (vrep 32 (0 : Int)).1) (ty := 23) 5 rfl rfl rfl (by kernel_rfl) (by kernel_rfl) (by kernel_rfl) (by exact rfl) (by kernel_rfl) (len_en _ shadowboxref03_End.cst0) (one_en (fun _ => rfl) _) (hl_of (Sub4.all _) (len_eq (len_en _ shadowboxref03_End.cst0) (len_en _ (vrep 32 (0 : Int))))) (cs' := en (Value.int .u8) shadowboxref03_End.cst0.1) (splc_all (len_eq (len_en _ shadowboxref03_End.cst0) (len_en _ (vrep 32 (0 : Int))))) ?_
          refine ls_end ?_
          refine qn_then ?_
          refine cs_seq ?_
          refine cs_seq ?_
          refine cs_region (l := [_]) ?_
          refine ls_val (v := .int .i64 (0 : Int)) rfl rfl (by kernel_rfl) (fun w => by kernel_rfl) ?_
          refine ls_end ?_
          refine qn_then ?_
          refine cs_block ?_
          refine cs_sub (sput (sput (sput s0 0 (some (Ck.var 87 g1 ((en (Value.int .u32) m0_4.1.1 ++ [Value.int .u64 m0_4.2]))))) 2 (some (Ck.var 23 g3 (en (Value.int .u8) (vrep 32 (0 : Int)).1)))) 5 (some (Ck.var 23 g14 (en (Value.int .u8) shadowboxref03_End.cst0.1)))) (sub_put (by exact rfl) (sub_put (by exact rfl) (sub_put (by exact rfl) (sub_nil _)))) ?_
          refine cs_loop (fun kk f S => ∃ (fR : Fr) (x12_5 : Int) (m5_5 : (Vc Int 32)), f = upd (upd (upd (upd fR 3 (.pointer (some ⟨g1, 0, none⟩))) 6 (.pointer (some ⟨g3, 0, none⟩))) 11 (.pointer (some ⟨g14, 0, none⟩))) 12 (.int .i64 x12_5) ∧ S = sput (sput (sput s0 0 (some (Ck.var 87 g1 ((en (Value.int .u32) m0_4.1.1 ++ [Value.int .u64 m0_4.2]))))) 2 (some (Ck.var 23 g3 (en (Value.int .u8) (vrep 32 (0 : Int)).1)))) 5 (some (Ck.var 23 g14 (en (Value.int .u8) m5_5.1))) ∧ shadowboxref03_End.lo5 m0_4 kk x12_5 m5_5 = some r) k ?_ ?_ ?_
          · exact ⟨_, (0 : Int), shadowboxref03_End.cst0, fr_next (fr_next (fr_next (fr_next (rfl) (by kernel_rfl)) (by kernel_rfl)) (by kernel_rfl)) (by kernel_rfl), rfl, H⟩
          · rintro f S ⟨fr5, x12_5, m5_5, rfl, rfl, H⟩; cases H
          · rintro k5 f S ⟨fr5, x12_5, m5_5, rfl, rfl, H⟩
            replace H : ((if x12_5 < (32 : Int) then lt (IntKind.wrap .i64 (Int.tdiv x12_5 (4 : Int))) fun y16 => (if 0 ≤ y16 then (if y16 < (8 : Int) then lt (IntKind.wrap .i64 ((8 : Int) * (Int.tmod x12_5 (4 : Int)))) fun y20 => lt (IntKind.wrap .u64 (IntKind.wrap .i64 ((24 : Int) - y20))) fun y22 => (if 0 ≤ y22 then lt (shrv .u32 (m0_4.1.1.getD (y16).toNat (0 : Int)) y22) fun y25 => (if 0 ≤ x12_5 then lt (vset m5_5 (x12_5).toNat (IntKind.wrap .u8 y25)) fun y28 => (shadowboxref03_End.lo5 m0_4 k5) (IntKind.wrap .i64 (x12_5 + (1 : Int))) y28 else none) else none) else none) else none) else some m5_5)) = some r := H
            refine cs_seq ?_
            refine cs_seq ?_
            refine cs_region (l := [_, _]) ?_
            refine ls_val (v := .int .i64 x12_5) rfl rfl (by kernel_rfl) (fun w => by kernel_rfl) ?_
            refine ls_val (v := .bool (decide (x12_5 < (32 : Int)))) rfl rfl (by kernel_rfl) (fun w => by kernel_rfl) ?_
            refine ls_end ?_
            refine qn_then ?_
            by_cases q15 : x12_5 < (32 : Int)
            · replace H := ite_t q15 H
              refine cs_know (c := true) (dec_t q15) 66 (by kernel_rfl) ?_
              refine cs_true (by kernel_rfl) ?_
              refine cs_skip' ?_
              refine qn_then ?_
              refine cs_seq ?_
              refine cs_block ?_
              refine cs_region (l := [_, _, _, _, _, _, _, _, _, _, _, _, _, _, _]) ?_
              refine ls_val (v := .int .i64 x12_5) rfl rfl (by kernel_rfl) (fun w => by kernel_rfl) ?_
              refine ls_val (v := .int .i64 x12_5) rfl rfl (by kernel_rfl) (fun w => by kernel_rfl) ?_
              obtain ⟨y16, hy17, H⟩ := lt_some H
              refine ls_val (v := .int .i64 (IntKind.wrap .i64 (Int.tdiv x12_5 (4 : Int)))) rfl rfl (by kernel_rfl) (fun w => by kernel_rfl) ?_
              refine ls_ren 71 (v := .int .i64 (IntKind.wrap .i64 (Int.tdiv x12_5 (4 : Int)))) (v' := .int .i64 y16) (by kernel_rfl) (by rw [hy17]) ?_
              refine ls_val (v := .pointer (some ⟨g1, (0 + 0), none⟩)) rfl rfl (by kernel_rfl) (fun w => by kernel_rfl) ?_
              obtain ⟨q18, H⟩ := ite_need H
              obtain ⟨q19, H⟩ := ite_need H
              refine ls_idxa1 (g := g1) (off := (0 + 0)) (i := y16) (kk := .i64) (ln := 8) (e := 22) rfl rfl (by kernel_rfl) rfl (by kernel_rfl) (by kernel_rfl) (by kernel_rfl) (by kernel_rfl) q18 q19 ?_
              refine ls_load (a0 := ⟨g1, ((0 + 0) + (y16).toNat), none⟩) (v := .int .u32 (m0_4.1.1.getD (y16).toNat (0 : Int))) (de := (TypeDesc.int .u32)) rfl rfl (by kernel_rfl) rfl (by kernel_rfl) (by kernel_rfl) (by kernel_rfl) (fun w hs => (hs.var (k := 0) (by exact rfl) (Sub4.trans (Sub4.trans (Sub4.all _) (Sub4.head _ _)) (Sub4.one (Value.int .u32) m0_4.1.1 0 (by have := m0_4.1.2; omega))))) ?_
              refine ls_val (v := .int .i64 x12_5) rfl rfl (by kernel_rfl) (fun w => by kernel_rfl) ?_
              refine ls_val (v := .int .i64 (Int.tmod x12_5 (4 : Int))) rfl rfl (by kernel_rfl) (fun w => by kernel_rfl) ?_
              obtain ⟨y20, hy21, H⟩ := lt_some H
              refine ls_val (v := .int .i64 (IntKind.wrap .i64 ((8 : Int) * (Int.tmod x12_5 (4 : Int))))) rfl rfl (by kernel_rfl) (fun w => by kernel_rfl) ?_
              refine ls_ren 77 (v := .int .i64 (IntKind.wrap .i64 ((8 : Int) * (Int.tmod x12_5 (4 : Int))))) (v' := .int .i64 y20) (by kernel_rfl) (by rw [hy21]) ?_
              refine ls_val (v := .int .i64 (IntKind.wrap .i64 ((24 : Int) - y20))) rfl rfl (by kernel_rfl) (fun w => by kernel_rfl) ?_
              obtain ⟨y22, hy23, H⟩ := lt_some H
              refine ls_val (v := .int .u64 (IntKind.wrap .u64 (IntKind.wrap .i64 ((24 : Int) - y20)))) rfl rfl (by kernel_rfl) (fun w => by kernel_rfl) ?_
              refine ls_ren 79 (v := .int .u64 (IntKind.wrap .u64 (IntKind.wrap .i64 ((24 : Int) - y20)))) (v' := .int .u64 y22) (by kernel_rfl) (by rw [hy23]) ?_
              obtain ⟨q24, H⟩ := ite_need H
              obtain ⟨y25, hy26, H⟩ := lt_some H
              refine ls_shiftr (k := .u32) (yk := .u64) (x := (m0_4.1.1.getD (y16).toNat (0 : Int))) (y := y22) rfl rfl (by kernel_rfl) (fun w => by kernel_rfl) q24 ?_
              refine ls_ren 80 (v := .int .u32 (shrv .u32 (m0_4.1.1.getD (y16).toNat (0 : Int)) y22)) (v' := .int .u32 y25) (by kernel_rfl) (by rw [hy26]) ?_
              refine ls_val (v := .int .u8 (IntKind.wrap .u8 y25)) rfl rfl (by kernel_rfl) (fun w => by kernel_rfl) ?_
              obtain ⟨q27, H⟩ := ite_need H
              refine ls_idxa1 (g := g14) (off := 0) (i := x12_5) (kk := .i64) (ln := 32) (e := 5) rfl rfl (by kernel_rfl) rfl (by kernel_rfl) (by kernel_rfl) (by kernel_rfl) (by kernel_rfl) q27 q15 ?_
              obtain ⟨y28, hy29, H⟩ := lt_some H
              refine ls_storec (g := g14) (off := (0 + (x12_5).toNat)) (v := .int .u8 (IntKind.wrap .u8 y25)) (vs := [Value.int .u8 (IntKind.wrap .u8 y25)]) (cs := en (Value.int .u8) m5_5.1) (ty := 23) 5 rfl rfl rfl (by kernel_rfl) (by kernel_rfl) (by kernel_rfl) (by exact rfl) (by kernel_rfl) (len1 _) (one_cons rfl one_nil) (hl_of (Sub4.trans (Sub4.all _) (Sub4.one (Value.int .u8) m5_5.1 0 (by have := m5_5.2; omega))) (len_eq (len1 _) (len1 _))) (cs' := en (Value.int .u8) y28.1) (splc_in (Sub4.all _) ((splc_one (Value.int .u8) m5_5.1 (IntKind.wrap .u8 y25) (by have := m5_5.2; omega)).trans (congrArg (fun z : (Vc Int 32) => en (Value.int .u8) z.1) hy29)) (splc_all (len_eq (len_en _ y28) (len_en _ m5_5))) (hl_of (Sub4.one (Value.int .u8) m5_5.1 0 (by have := m5_5.2; omega)) (len_eq (len1 _) (len1 _)))) ?_
              refine ls_end ?_
              refine qn_block ?_
              refine qn_then ?_
              refine cs_region (l := [_, _, _]) ?_
              refine ls_val (v := .int .i64 x12_5) rfl rfl (by kernel_rfl) (fun w => by kernel_rfl) ?_
              refine ls_val (v := .int .i64 (IntKind.wrap .i64 (x12_5 + (1 : Int)))) rfl rfl (by kernel_rfl) (fun w => by kernel_rfl) ?_
              refine ls_val (v := .int .i64 (IntKind.wrap .i64 (x12_5 + (1 : Int)))) rfl rfl (by kernel_rfl) (fun w => by kernel_rfl) ?_
              refine ls_end ?_
              refine qn_again k5 (sput (sput (sput s0 0 (some (Ck.var 87 g1 ((en (Value.int .u32) m0_4.1.1 ++ [Value.int .u64 m0_4.2]))))) 2 (some (Ck.var 23 g3 (en (Value.int .u8) (vrep 32 (0 : Int)).1)))) 5 (some (Ck.var 23 g14 (en (Value.int .u8) y28.1)))) (Nat.le_refl _) ⟨_, (IntKind.wrap .i64 (x12_5 + (1 : Int))), y28, fr_next (fr_next (fr_next (fr_next (rfl) (by kernel_rfl)) (by kernel_rfl)) (by kernel_rfl)) (by kernel_rfl), rfl, H⟩ (sub_put (by exact rfl) (sub_put (by exact rfl) (sub_put (by exact rfl) (sub_nil _))))
            · replace H := ite_f q15 H
              refine cs_know (c := false) (dec_f q15) 66 (by kernel_rfl) ?_
              refine cs_false (by kernel_rfl) ?_
              refine cs_exit' ?_
              refine qx_then ?_
              refine qx_then ?_
              refine qx_same ?_
              refine qn_then ?_
              refine cs_seq ?_
              refine cs_region (l := [_, _]) ?_
              refine ls_loadagg (a := ⟨g14, 0, none⟩) (sub := en (Value.int .u8) m5_5.1) rfl rfl (by kernel_rfl) rfl (by kernel_rfl) (by kernel_rfl) (by kernel_rfl) (len_en _ m5_5) (fun w hs => (hs.vars (k := 5) (by exact rfl) (Sub4.all _))) ?_
              refine ls_storec (g := g3) (off := 0) (v := .agg ⟨en (Value.int .u8) m5_5.1⟩) (vs := en (Value.int .u8) m5_5.1) (cs := en (Value.int .u8) (vrep 32 (0 : Int)).1) (ty := 23) 2 rfl rfl rfl (by kernel_rfl) (by kernel_rfl) (by kernel_rfl) (by exact rfl) (by kernel_rfl) (len_en _ m5_5) (one_en (fun _ => rfl) _) (hl_of (Sub4.all _) (len_eq (len_en _ m5_5) (len_en _ (vrep 32 (0 : Int))))) (cs' := en (Value.int .u8) m5_5.1) (splc_all (len_eq (len_en _ m5_5) (len_en _ (vrep 32 (0 : Int))))) ?_
              refine ls_end ?_
              refine qn_then ?_
              refine cs_ret' ?_
              obtain rfl := Option.some.inj H
              refine qr_res (rs := [_]) rfl (fun w' hs => ⟨[.agg ⟨en (Value.int .u8) m5_5.1⟩], (.cell (by kernel_rfl) (run_cellres (by kernel_rfl) (by kernel_rfl) (len_en _ m5_5) (hs.holds 2 _ (by exact rfl))) (.nil)), (), rfl, hs.pick (ts := []) (cs := []) trivial (by decide)⟩)

/-! ### shadowbox/shadowboxref03.Sum: function 39 -/
def shadowboxref03_Sum.tab10 : List (List Nat) := [[], [], [1], [], [0, 1, 2, 3], [0, 1, 2, 3, 4]]
def shadowboxref03_Sum.lo1 (t2 : (Vc Int 64)) : Nat → (List Int) → (((Vc Int 8) × Int)) → Option ((Vc Int 32))
  | 0, _, _ => none
  | k1 + 1, l0_1, m2_1 => (if (l0_1.length : Int) ≥ (64 : Int) then (if (64 : Int) ≤ (l0_1.length : Int) then lt (l0_1.take ((64 : Int)).toNat) fun xl18 => (shadowboxref03_Block.f k1 m2_1 xl18 t2).bind fun t23 => lt (l0_1.drop ((64 : Int)).toNat) fun xl30 => (shadowboxref03_Sum.lo1 t2 k1) xl30 t23 else none) else (shadowboxref03_End.f k1 m2_1 l0_1 t2).bind fun t35 => some t35)
def shadowboxref03_Sum.f (k : Nat) (l0 : List Int) : Option ((Vc Int 32)) :=
  (shadowboxref03_Keys.f k).bind fun t2 => (shadowboxref03_Begin.f k).bind fun t6 => shadowboxref03_Sum.lo1 t2 k l0 t6
set_option maxRecDepth 100000 in
set_option maxHeartbeats 4000000 in
theorem shadowboxref03_Sum.calls (k : Nat) (A0 : Option Addr) (c0 : Nat) (l0 : List Int) (r : (Vc Int 32)) (b : Bs) (hs0 : St b (stl []) b.w) (R0 : Ro b A0 (em (Ec.int 5 .u8) l0)) (C0 : l0.length ≤ c0) (H : shadowboxref03_Sum.f k l0 = some r) :
    Calls Try.prog 39 #[.slice A0 l0.length c0] b.w fun e w' => ∃ x : Unit, e = .returned (.agg ⟨en (Value.int .u8) r.1⟩) ∧ St b (stl []) w' := by
  unfold shadowboxref03_Sum.f at H
  refine enterb (n := 21) Try.func39 rfl (by kernel_rfl) (by kernel_rfl) hs0 ?_
  refine cs_sub (s0) (sub_nil _) ?_
  refine cs_seq ?_
  refine cs_region (l := [_]) ?_
  refine ls_new rfl rfl (by kernel_rfl) 0 (fun g => .pointer (some ⟨g, 0, none⟩)) (.cells ⟨en (Value.int .u8) (vrep 32 (0 : Int)).1⟩ 23) (fun w => by kernel_rfl) ?_
  intro g1
  refine ls_end ?_
  refine qn_then ?_
  refine cs_seq ?_
  refine cs_region (l := [_, _, _]) ?_
  obtain ⟨t2, hc3, H⟩ := bind_some H
  refine ls_callb (fid := 50) (vals := #[]) (X := Unit) (fun x => .agg ⟨en (Value.int .u32) t2.1⟩) (fun x => stl []) [] [] [] [] 1 rfl rfl (by kernel_rfl) (fun w => by kernel_rfl) trivial trivial (by decide) (fun w hs hb => shadowboxref03_Keys.calls k  t2 (lent b w [] []) hb  hc3) ?_
  intro x4
  refine ls_new rfl rfl (by kernel_rfl) 1 (fun g => .pointer (some ⟨g, 0, none⟩)) (.cells ⟨en (Value.int .u32) (vrep 64 (0 : Int)).1⟩ 85) (fun w => by kernel_rfl) ?_
  intro g5
  refine ls_storec (g := g5) (off := 0) (v := .agg ⟨en (Value.int .u32) t2.1⟩) (vs := en (Value.int .u32) t2.1) (cs := en (Value.int .u32) (vrep 64 (0 : Int)).1) (ty := 85) 1 rfl rfl rfl (by kernel_rfl) (by kernel_rfl) (by kernel_rfl) (by exact rfl) (by kernel_rfl) (len_en _ t2) (one_en (fun _ => rfl) _) (hl_of (Sub4.all _) (len_eq (len_en _ t2) (len_en _ (vrep 64 (0 : Int))))) (cs' := en (Value.int .u32) t2.1) (splc_all (len_eq (len_en _ t2) (len_en _ (vrep 64 (0 : Int))))) ?_
  refine ls_end ?_
  refine qn_then ?_
  refine cs_seq ?_
  refine cs_region (l := [_, _, _]) ?_
  obtain ⟨t6, hc7, H⟩ := bind_some H
  refine ls_callb (fid := 51) (vals := #[]) (X := Unit) (fun x => .agg ⟨(en (Value.int .u32) t6.1.1 ++ [Value.int .u64 t6.2])⟩) (fun x => stl []) [] [] [] [] 2 rfl rfl (by kernel_rfl) (fun w => by kernel_rfl) trivial trivial (by decide) (fun w hs hb => shadowboxref03_Begin.calls k  t6 (lent b w [] []) hb  hc7) ?_
  intro x8
  refine ls_new rfl rfl (by kernel_rfl) 2 (fun g => .pointer (some ⟨g, 0, none⟩)) (.cells ⟨(en (Value.int .u32) (vrep 8 (0 : Int)).1 ++ [Value.int .u64 (0 : Int)])⟩ 87) (fun w => by kernel_rfl) ?_
  intro g9
  refine ls_storec (g := g9) (off := 0) (v := .agg ⟨(en (Value.int .u32) t6.1.1 ++ [Value.int .u64 t6.2])⟩) (vs := (en (Value.int .u32) t6.1.1 ++ [Value.int .u64 t6.2])) (cs := (en (Value.int .u32) (vrep 8 (0 : Int)).1 ++ [Value.int .u64 (0 : Int)])) (ty := 87) 2 rfl rfl rfl (by kernel_rfl) (by kernel_rfl) (by kernel_rfl) (by exact rfl) (by kernel_rfl) (len_app (len_en _ t6.1) (len1 _)) (one_app (one_en (fun _ => rfl) _) (one_cons rfl one_nil)) (hl_of (Sub4.all _) (len_eq (len_app (len_en _ t6.1) (len1 _)) (len_app (len_en _ (vrep 8 (0 : Int))) (len1 _)))) (cs' := (en (Value.int .u32) t6.1.1 ++ [Value.int .u64 t6.2])) (splc_all (len_eq (len_app (len_en _ t6.1) (len1 _)) (len_app (len_en _ (vrep 8 (0 : Int))) (len1 _)))) ?_
  refine ls_end ?_
  refine qn_then ?_
  refine cs_seq ?_
  refine cs_block ?_
  refine cs_sub (sput (sput (sput s0 0 (some (Ck.var 23 g1 (en (Value.int .u8) (vrep 32 (0 : Int)).1)))) 1 (some (Ck.var 85 g5 (en (Value.int .u32) t2.1)))) 2 (some (Ck.var 87 g9 ((en (Value.int .u32) t6.1.1 ++ [Value.int .u64 t6.2]))))) (sub_put (by exact rfl) (sub_put (by exact rfl) (sub_put (by exact rfl) (sub_nil _)))) ?_
  refine cs_loop (fun kk f S => ∃ (fR : Fr) (A0_1 : Option Addr) (c0_1 : Nat) (l0_1 : List Int) (m2_1 : ((Vc Int 8) × Int)), f = upd (upd (upd (upd fR 0 (.slice A0_1 l0_1.length c0_1)) 2 (.pointer (some ⟨g1, 0, none⟩))) 3 (.pointer (some ⟨g5, 0, none⟩))) 4 (.pointer (some ⟨g9, 0, none⟩)) ∧ S = sput (sput (sput s0 0 (some (Ck.var 23 g1 (en (Value.int .u8) (vrep 32 (0 : Int)).1)))) 1 (some (Ck.var 85 g5 (en (Value.int .u32) t2.1)))) 2 (some (Ck.var 87 g9 ((en (Value.int .u32) m2_1.1.1 ++ [Value.int .u64 m2_1.2])))) ∧ Ro b A0_1 (em (Ec.int 5 .u8) l0_1) ∧ l0_1.length ≤ c0_1 ∧ shadowboxref03_Sum.lo1 t2 kk l0_1 m2_1 = some r) k ?_ ?_ ?_
  · exact ⟨_, A0, c0, l0, t6, fr_next (fr_next (fr_next (fr_next (rfl) (by kernel_rfl)) (by kernel_rfl)) (by kernel_rfl)) (by kernel_rfl), rfl, R0, C0, H⟩
  · rintro f S ⟨fr1, A0_1, c0_1, l0_1, m2_1, rfl, rfl, R0_1, C0_1, H⟩; cases H
  · rintro k1 f S ⟨fr1, A0_1, c0_1, l0_1, m2_1, rfl, rfl, R0_1, C0_1, H⟩
    replace H : ((if (l0_1.length : Int) ≥ (64 : Int) then (if (64 : Int) ≤ (l0_1.length : Int) then lt (l0_1.take ((64 : Int)).toNat) fun xl18 => (shadowboxref03_Block.f k1 m2_1 xl18 t2).bind fun t23 => lt (l0_1.drop ((64 : Int)).toNat) fun xl30 => (shadowboxref03_Sum.lo1 t2 k1) xl30 t23 else none) else (shadowboxref03_End.f k1 m2_1 l0_1 t2).bind fun t35 => some t35)) = some r := H
    refine cs_seq ?_
    refine cs_seq ?_
    refine cs_region (l := [_, _, _]) ?_
    refine ls_val (v := .slice A0_1 l0_1.length c0_1) rfl rfl (by kernel_rfl) (fun w => by kernel_rfl) ?_
    refine ls_val (v := .int .i64 (l0_1.length : Int)) rfl rfl (by kernel_rfl) (fun w => by kernel_rfl) ?_
    refine ls_val (v := .bool (decide ((l0_1.length : Int) ≥ (64 : Int)))) rfl rfl (by kernel_rfl) (fun w => by kernel_rfl) ?_
    refine ls_end ?_
    refine qn_then ?_
    by_cases q10 : (l0_1.length : Int) ≥ (64 : Int)
    · replace H := ite_t q10 H
      refine cs_know (c := true) (dec_t q10) 9 (by kernel_rfl) ?_
      refine cs_true (by kernel_rfl) ?_
      refine cs_skip' ?_
      refine qn_then ?_
      refine cs_block ?_
      refine cs_seq ?_
      obtain ⟨s12_0, hs12_0⟩ : ∃ z : Value → Sto → Prop, z = (fun v R => v = .agg ⟨(en (Value.int .u32) m2_1.1.1 ++ [Value.int .u64 m2_1.2])⟩ ∧ R = s0) := ⟨_, rfl⟩
      refine have_op (l := [_, _, _, _, _, _]) shadowboxref03_Sum.tab10 3 0 (fun sp => sp 0 = s12_0) (fun sp on hA hon => ?_) (fun ops12_0 => ?_)
      · refine ⟨fun o ho vs Rs f' S' w hp hf hx hS hR hs => ?_⟩
        obtain rfl := Option.some.inj ho
        rw [hA, hs12_0]
        refine And.intro (fun a ha => (want_none rfl a ha).trans hon.symm) (And.intro (fun _ => ?_) (fun h => by rw [hon] at h; cases h))
        have hF := fr_next (rfl) ((hx 4 (by kernel_rfl)).trans (by kernel_rfl : (_ : Value) = .pointer (some ⟨g9, 0, none⟩)))
        refine ls_fr hF ?_
        refine ls_loadagg (a := ⟨g9, 0, none⟩) (sub := (en (Value.int .u32) m2_1.1.1 ++ [Value.int .u64 m2_1.2])) rfl rfl (by kernel_rfl) rfl (by kernel_rfl) (by kernel_rfl) (by kernel_rfl) (len_app (len_en _ m2_1.1) (len1 _)) (fun w1 hs1 => Rd.step (hs.vars (k := 2) ((hS 2 (by kernel_rfl)).trans (by exact rfl)) (Sub4.all _)) hs1.below.bw) ?_
        exact ls_fin s0 (.agg ⟨(en (Value.int .u32) m2_1.1.1 ++ [Value.int .u64 m2_1.2])⟩) (congrArg (fun z => upd z 10 _) hF.symm) ⟨rfl, rfl⟩ (sub_nil _)
      obtain ⟨s12_1, hs12_1⟩ : ∃ z : Value → Sto → Prop, z = (fun v R => v = .slice A0_1 l0_1.length c0_1 ∧ R = s0) := ⟨_, rfl⟩
      refine have_op (l := [_, _, _, _, _, _]) shadowboxref03_Sum.tab10 3 1 (fun sp => sp 1 = s12_1) (fun sp on hA hon => ?_) (fun ops12_1 => ?_)
      · refine ⟨fun o ho vs Rs f' S' w hp hf hx hS hR hs => ?_⟩
        obtain rfl := Option.some.inj ho
        rw [hA, hs12_1]
        refine And.intro (fun a ha => (want_none rfl a ha).trans hon.symm) (And.intro (fun _ => ?_) (fun h => by rw [hon] at h; cases h))
        have hF := fr_next (rfl) ((hx 0 (by kernel_rfl)).trans (by kernel_rfl : (_ : Value) = .slice A0_1 l0_1.length c0_1))
        refine ls_fr hF ?_
        refine ls_val (v := .slice A0_1 l0_1.length c0_1) rfl rfl (by kernel_rfl) (fun w => by kernel_rfl) ?_
        exact ls_fin s0 (.slice A0_1 l0_1.length c0_1) (congrArg (fun z => upd z 11 _) hF.symm) ⟨rfl, rfl⟩ (sub_nil _)
      obtain ⟨q13, H⟩ := ite_need H
      obtain ⟨xl18, hy19, H⟩ := lt_some H
      have hz21 : 0 ≤ ((64 : Int)).toNat := by omega
      have hz22 : ((64 : Int)).toNat ≤ l0_1.length := by omega
      obtain ⟨xA14, xc15, he20, xC17, xR16⟩ := cut_at (A := A0_1) (c := c0_1) (l := l0_1) (Ec.int 5 .u8) 0 (((64 : Int)).toNat) hz21 hz22 C0_1 R0_1 (m := xl18) (by rw [← hy19] <;> simp) (z := 1) rfl
      obtain ⟨s12_2, hs12_2⟩ : ∃ z : Value → Sto → Prop, z = (fun v R => v = .slice xA14 xl18.length xc15 ∧ R = s0) := ⟨_, rfl⟩
      refine have_op (l := [_, _, _, _, _, _]) shadowboxref03_Sum.tab10 3 2 (fun sp => sp 2 = s12_2 ∧ sp 1 = s12_1) (fun sp on hA hon => ?_) (fun ops12_2 => ?_)
      · refine ⟨fun o ho vs Rs f' S' w hp hf hx hS hR hs => ?_⟩
        obtain rfl := Option.some.inj ho
        obtain ⟨hv1, hR1⟩ := (spe hA.2 hs12_1 (hp 1 (by kernel_rfl)))
        rw [hA.1, hs12_2]
        refine And.intro (fun a ha => (want_none rfl a ha).trans hon.symm) (And.intro (fun _ => ?_) (fun h => by rw [hon] at h; cases h))
        have hF := fr_next (rfl) ((hf 1 11 (by kernel_rfl) rfl).trans hv1)
        refine ls_fr hF ?_
        refine ls_cutv (A := A0_1) (c := c0_1) (m := l0_1.length) (z := 1) (e := 5) (a := 0) (b := ((64 : Int)).toNat) rfl rfl (by kernel_rfl) rfl (by kernel_rfl) (by kernel_rfl) (by kernel_rfl) (.inl ⟨rfl, rfl⟩) (.inr ⟨.i64, by rw [Int.toNat_of_nonneg (by first | assumption | omega)]; kernel_rfl⟩) hz21 hz22 C0_1 he20 ?_
        exact ls_fin s0 (.slice xA14 xl18.length xc15) (congrArg (fun z => upd z 12 _) hF.symm) ⟨rfl, rfl⟩ (sub_nil _)
      obtain ⟨s12_3, hs12_3⟩ : ∃ z : Value → Sto → Prop, z = (fun v R => v = .agg ⟨en (Value.int .u32) t2.1⟩ ∧ R = s0) := ⟨_, rfl⟩
      refine have_op (l := [_, _, _, _, _, _]) shadowboxref03_Sum.tab10 3 3 (fun sp => sp 3 = s12_3) (fun sp on hA hon => ?_) (fun ops12_3 => ?_)
      · refine ⟨fun o ho vs Rs f' S' w hp hf hx hS hR hs => ?_⟩
        obtain rfl := Option.some.inj ho
        rw [hA, hs12_3]
        refine And.intro (fun a ha => (want_none rfl a ha).trans hon.symm) (And.intro (fun _ => ?_) (fun h => by rw [hon] at h; cases h))
        have hF := fr_next (rfl) ((hx 3 (by kernel_rfl)).trans (by kernel_rfl : (_ : Value) = .pointer (some ⟨g5, 0, none⟩)))
        refine ls_fr hF ?_
        refine ls_loadagg (a := ⟨g5, 0, none⟩) (sub := en (Value.int .u32) t2.1) rfl rfl (by kernel_rfl) rfl (by kernel_rfl) (by kernel_rfl) (by kernel_rfl) (len_en _ t2) (fun w1 hs1 => Rd.step (hs.vars (k := 1) ((hS 1 (by kernel_rfl)).trans (by exact rfl)) (Sub4.all _)) hs1.below.bw) ?_
        exact ls_fin s0 (.agg ⟨en (Value.int .u32) t2.1⟩) (congrArg (fun z => upd z 13 _) hF.symm) ⟨rfl, rfl⟩ (sub_nil _)
      refine cs_draw shadowboxref03_Sum.tab10 4 3 (spl [s12_0, s12_1, s12_2, s12_3]) (onl [true, true, true, true]) (by kernel_rfl) (by kernel_rfl) (by kernel_rfl) (by kernel_rfl) (rs := [_, _]) rfl (by kernel_rfl) (by kernel_rfl) (all_snoc (all_snoc (all_snoc (all_snoc (all_nil) (ops12_0 _ _ rfl rfl)) (ops12_1 _ _ rfl rfl)) (ops12_2 _ _ ⟨rfl, rfl⟩ rfl)) (ops12_3 _ _ rfl rfl)) ?_
      intro vs Rs f' S' hp hf hx hS hR
      obtain ⟨hv0, hR0⟩ := (spe rfl hs12_0 (hp 0 (by kernel_rfl)))
      obtain ⟨hv2, hR2⟩ := (spe rfl hs12_2 (hp 2 (by kernel_rfl)))
      obtain ⟨hv3, hR3⟩ := (spe rfl hs12_3 (hp 3 (by kernel_rfl)))
      refine ls_fr (F := upd (upd (upd (upd (upd (upd (upd f' 0 (.slice A0_1 l0_1.length c0_1)) 2 (.pointer (some ⟨g1, 0, none⟩))) 3 (.pointer (some ⟨g5, 0, none⟩))) 4 (.pointer (some ⟨g9, 0, none⟩))) 10 (.agg ⟨(en (Value.int .u32) m2_1.1.1 ++ [Value.int .u64 m2_1.2])⟩)) 12 (.slice xA14 xl18.length xc15)) 13 (.agg ⟨en (Value.int .u32) t2.1⟩)) (fr_next (fr_next (fr_next (fr_next (fr_next (fr_next (fr_next (rfl) ((hx 0 (by kernel_rfl)).trans (by kernel_rfl : (_ : Value) = .slice A0_1 l0_1.length c0_1))) ((hx 2 (by kernel_rfl)).trans (by kernel_rfl : (_ : Value) = .pointer (some ⟨g1, 0, none⟩)))) ((hx 3 (by kernel_rfl)).trans (by kernel_rfl : (_ : Value) = .pointer (some ⟨g5, 0, none⟩)))) ((hx 4 (by kernel_rfl)).trans (by kernel_rfl : (_ : Value) = .pointer (some ⟨g9, 0, none⟩)))) ((hf 0 10 (by kernel_rfl) rfl).trans hv0)) ((hf 2 12 (by kernel_rfl) rfl).trans hv2)) ((hf 3 13 (by kernel_rfl) rfl).trans hv3)) ?_
      refine ls_sub (sput (sput (sput s0 0 (some (Ck.var 23 g1 (en (Value.int .u8) (vrep 32 (0 : Int)).1)))) 1 (some (Ck.var 85 g5 (en (Value.int .u32) t2.1)))) 2 (some (Ck.var 87 g9 ((en (Value.int .u32) m2_1.1.1 ++ [Value.int .u64 m2_1.2]))))) (sub_put ((hS 2 (by kernel_rfl)).trans (by exact rfl)) (sub_put ((hS 1 (by kernel_rfl)).trans (by exact rfl)) (sub_put ((hS 0 (by kernel_rfl)).trans (by exact rfl)) (sub_nil _)))) ?_
      obtain ⟨t23, hc24, H⟩ := bind_some H
      refine ls_callb (fid := 52) (vals := #[.agg ⟨(en (Value.int .u32) m2_1.1.1 ++ [Value.int .u64 m2_1.2])⟩, .slice xA14 xl18.length xc15, .agg ⟨en (Value.int .u32) t2.1⟩]) (X := Unit) (fun x => .agg ⟨(en (Value.int .u32) t23.1.1 ++ [Value.int .u64 t23.2])⟩) (fun x => stl []) [] [] [] [] 35 rfl rfl (by kernel_rfl) (fun w => by kernel_rfl) trivial trivial (by decide) (fun w hs hb => shadowboxref03_Block.calls k1 m2_1 xA14 xc15 xl18 t2 t23 (lent b w [] []) hb (hs.ro xR16 _ _) xC17 hc24) ?_
      intro x25
      refine ls_storec (g := g9) (off := 0) (v := .agg ⟨(en (Value.int .u32) t23.1.1 ++ [Value.int .u64 t23.2])⟩) (vs := (en (Value.int .u32) t23.1.1 ++ [Value.int .u64 t23.2])) (cs := (en (Value.int .u32) m2_1.1.1 ++ [Value.int .u64 m2_1.2])) (ty := 87) 2 rfl rfl rfl (by kernel_rfl) (by kernel_rfl) (by kernel_rfl) (by exact rfl) (by kernel_rfl) (len_app (len_en _ t23.1) (len1 _)) (one_app (one_en (fun _ => rfl) _) (one_cons rfl one_nil)) (hl_of (Sub4.all _) (len_eq (len_app (len_en _ t23.1) (len1 _)) (len_app (len_en _ m2_1.1) (len1 _)))) (cs' := (en (Value.int .u32) t23.1.1 ++ [Value.int .u64 t23.2])) (splc_all (len_eq (len_app (len_en _ t23.1) (len1 _)) (len_app (len_en _ m2_1.1) (len1 _)))) ?_
      refine ls_end ?_
      refine qn_then ?_
      refine cs_region (l := [_, _, _]) ?_
      refine ls_val (v := .slice A0_1 l0_1.length c0_1) rfl rfl (by kernel_rfl) (fun w => by kernel_rfl) ?_
      obtain ⟨xl30, hy31, H⟩ := lt_some H
      have hz33 : ((64 : Int)).toNat ≤ l0_1.length := by omega
      have hz34 : l0_1.length ≤ l0_1.length := by omega
      obtain ⟨xA26, xc27, he32, xC29, xR28⟩ := cut_at (A := A0_1) (c := c0_1) (l := l0_1) (Ec.int 5 .u8) (((64 : Int)).toNat) l0_1.length hz33 hz34 C0_1 R0_1 (m := xl30) (by rw [← hy31] <;> simp) (z := 1) rfl
      refine ls_cutv (A := A0_1) (c := c0_1) (m := l0_1.length) (z := 1) (e := 5) (a := ((64 : Int)).toNat) (b := l0_1.length) rfl rfl (by kernel_rfl) rfl (by kernel_rfl) (by kernel_rfl) (by kernel_rfl) (.inr ⟨.i64, by rw [Int.toNat_of_nonneg (by first | assumption | omega)]; kernel_rfl⟩) (.inl ⟨rfl, rfl⟩) hz33 hz34 C0_1 he32 ?_
      refine ls_val (v := .slice xA26 xl30.length xc27) rfl rfl (by kernel_rfl) (fun w => by kernel_rfl) ?_
      refine ls_end ?_
      refine qn_block ?_
      refine qn_again k1 (sput (sput (sput s0 0 (some (Ck.var 23 g1 (en (Value.int .u8) (vrep 32 (0 : Int)).1)))) 1 (some (Ck.var 85 g5 (en (Value.int .u32) t2.1)))) 2 (some (Ck.var 87 g9 ((en (Value.int .u32) t23.1.1 ++ [Value.int .u64 t23.2]))))) (Nat.le_refl _) ⟨_, xA26, xc27, xl30, t23, fr_next (fr_next (fr_next (fr_next (rfl) (by kernel_rfl)) (by kernel_rfl)) (by kernel_rfl)) (by kernel_rfl), rfl, xR28, xC29, H⟩ (sub_put (by exact rfl) (sub_put (by exact rfl) (sub_put (by exact rfl) (sub_nil _))))
    · replace H := ite_f q10 H
      refine cs_know (c := false) (dec_f q10) 9 (by kernel_rfl) ?_
      refine cs_false (by kernel_rfl) ?_
      refine cs_exit' ?_
      refine qx_then ?_
      refine qx_then ?_
      refine qx_same ?_
      refine qn_then ?_
      refine cs_seq ?_
      refine cs_region (l := [_, _, _, _, _]) ?_
      refine ls_loadagg (a := ⟨g9, 0, none⟩) (sub := (en (Value.int .u32) m2_1.1.1 ++ [Value.int .u64 m2_1.2])) rfl rfl (by kernel_rfl) rfl (by kernel_rfl) (by kernel_rfl) (by kernel_rfl) (len_app (len_en _ m2_1.1) (len1 _)) (fun w hs => (hs.vars (k := 2) (by exact rfl) (Sub4.all _))) ?_
      refine ls_val (v := .slice A0_1 l0_1.length c0_1) rfl rfl (by kernel_rfl) (fun w => by kernel_rfl) ?_
      refine ls_loadagg (a := ⟨g5, 0, none⟩) (sub := en (Value.int .u32) t2.1) rfl rfl (by kernel_rfl) rfl (by kernel_rfl) (by kernel_rfl) (by kernel_rfl) (len_en _ t2) (fun w hs => (hs.vars (k := 1) (by exact rfl) (Sub4.all _))) ?_
      obtain ⟨t35, hc36, H⟩ := bind_some H
      refine ls_callb (fid := 53) (vals := #[.agg ⟨(en (Value.int .u32) m2_1.1.1 ++ [Value.int .u64 m2_1.2])⟩, .slice A0_1 l0_1.length c0_1, .agg ⟨en (Value.int .u32) t2.1⟩]) (X := Unit) (fun x => .agg ⟨en (Value.int .u8) t35.1⟩) (fun x => stl []) [] [] [] [] 3 rfl rfl (by kernel_rfl) (fun w => by kernel_rfl) trivial trivial (by decide) (fun w hs hb => shadowboxref03_End.calls k1 m2_1 A0_1 c0_1 l0_1 t2 t35 (lent b w [] []) hb (hs.ro R0_1 _ _) C0_1 hc36) ?_
      intro x37
      refine ls_storec (g := g1) (off := 0) (v := .agg ⟨en (Value.int .u8) t35.1⟩) (vs := en (Value.int .u8) t35.1) (cs := en (Value.int .u8) (vrep 32 (0 : Int)).1) (ty := 23) 0 rfl rfl rfl (by kernel_rfl) (by kernel_rfl) (by kernel_rfl) (by exact rfl) (by kernel_rfl) (len_en _ t35) (one_en (fun _ => rfl) _) (hl_of (Sub4.all _) (len_eq (len_en _ t35) (len_en _ (vrep 32 (0 : Int))))) (cs' := en (Value.int .u8) t35.1) (splc_all (len_eq (len_en _ t35) (len_en _ (vrep 32 (0 : Int))))) ?_
      refine ls_end ?_
      refine qn_then ?_
      refine cs_ret' ?_
      obtain rfl := Option.some.inj H
      refine qr_res (rs := [_]) rfl (fun w' hs => ⟨[.agg ⟨en (Value.int .u8) t35.1⟩], (.cell (by kernel_rfl) (run_cellres (by kernel_rfl) (by kernel_rfl) (len_en _ t35) (hs.holds 0 _ (by exact rfl))) (.nil)), (), rfl, hs.pick (ts := []) (cs := []) trivial (by decide)⟩)

/-! ### shadowbox/shadowboxref06.Of: function 21 -/
def shadowboxref06_Of.f (k : Nat) (a0 : Int) (a1 : Int) (l2 : List Int) : Option ((Int × Int × Int × Int × (Vc Int 32))) :=
  (shadowboxref02_Go.f k (0 : Int) l2).bind fun t2 => (shadowboxref03_Sum.f k l2).bind fun t5 => some (a0, a1, (l2.length : Int), t2, t5)
set_option maxRecDepth 100000 in
set_option maxHeartbeats 4000000 in
theorem shadowboxref06_Of.calls (k : Nat) (a0 : Int) (a1 : Int) (A2 : Option Addr) (c2 : Nat) (l2 : List Int) (r : (Int × Int × Int × Int × (Vc Int 32))) (b : Bs) (hs0 : St b (stl []) b.w) (R2 : Ro b A2 (em (Ec.int 5 .u8) l2)) (C2 : l2.length ≤ c2) (H : shadowboxref06_Of.f k a0 a1 l2 = some r) :
    Calls Try.prog 21 #[.int .i64 a0, .int .i64 a1, .slice A2 l2.length c2] b.w fun e w' => ∃ x : Unit, e = .returned (.agg ⟨([Value.int .i64 r.1] ++ ([Value.int .i64 r.2.1] ++ ([Value.int .i64 r.2.2.1] ++ ([Value.int .u32 r.2.2.2.1] ++ en (Value.int .u8) r.2.2.2.2.1))))⟩) ∧ St b (stl []) w' := by
  unfold shadowboxref06_Of.f at H
  refine enterb (n := 16) Try.func21 rfl (by kernel_rfl) (by kernel_rfl) hs0 ?_
  refine cs_sub (s0) (sub_nil _) ?_
  refine cs_seq ?_
  refine cs_region (l := [_]) ?_
  refine ls_new rfl rfl (by kernel_rfl) 0 (fun g => .pointer (some ⟨g, 0, none⟩)) (.cells ⟨([Value.int .i64 (0 : Int)] ++ ([Value.int .i64 (0 : Int)] ++ ([Value.int .i64 (0 : Int)] ++ ([Value.int .u32 (0 : Int)] ++ en (Value.int .u8) (vrep 32 (0 : Int)).1))))⟩ 25) (fun w => by kernel_rfl) ?_
  intro g1
  refine ls_end ?_
  refine qn_then ?_
  refine cs_seq ?_
  refine cs_region (l := [_, _, _, _, _, _, _, _, _, _]) ?_
  refine ls_val (v := .int .i64 a0) rfl rfl (by kernel_rfl) (fun w => by kernel_rfl) ?_
  refine ls_val (v := .int .i64 a1) rfl rfl (by kernel_rfl) (fun w => by kernel_rfl) ?_
  refine ls_val (v := .slice A2 l2.length c2) rfl rfl (by kernel_rfl) (fun w => by kernel_rfl) ?_
  refine ls_val (v := .int .i64 (l2.length : Int)) rfl rfl (by kernel_rfl) (fun w => by kernel_rfl) ?_
  refine ls_val (v := .slice A2 l2.length c2) rfl rfl (by kernel_rfl) (fun w => by kernel_rfl) ?_
  obtain ⟨t2, hc3, H⟩ := bind_some H
  refine ls_callb (fid := 38) (vals := #[.int .u32 (0 : Int), .slice A2 l2.length c2]) (X := Unit) (fun x => .int .u32 t2) (fun x => stl []) [] [] [] [] 1 rfl rfl (by kernel_rfl) (fun w => by kernel_rfl) trivial trivial (by decide) (fun w hs hb => shadowboxref02_Go.calls k (0 : Int) A2 c2 l2 t2 (lent b w [] []) hb (hs.ro R2 _ _) C2 hc3) ?_
  intro x4
  refine ls_val (v := .slice A2 l2.length c2) rfl rfl (by kernel_rfl) (fun w => by kernel_rfl) ?_
  obtain ⟨t5, hc6, H⟩ := bind_some H
  refine ls_callb (fid := 39) (vals := #[.slice A2 l2.length c2]) (X := Unit) (fun x => .agg ⟨en (Value.int .u8) t5.1⟩) (fun x => stl []) [] [] [] [] 1 rfl rfl (by kernel_rfl) (fun w => by kernel_rfl) trivial trivial (by decide) (fun w hs hb => shadowboxref03_Sum.calls k A2 c2 l2 t5 (lent b w [] []) hb (hs.ro R2 _ _) C2 hc6) ?_
  intro x7
  refine ls_build (ps := [(0, .int .i64 a0), (1, .int .i64 a1), (2, .int .i64 (l2.length : Int)), (3, .int .u32 t2), (4, .agg ⟨en (Value.int .u8) t5.1⟩)]) (pl := #[(0, 1), (1, 1), (2, 1), (3, 1), (4, 32)]) (zv := .agg ⟨([Value.int .i64 (0 : Int)] ++ ([Value.int .i64 (0 : Int)] ++ ([Value.int .i64 (0 : Int)] ++ ([Value.int .u32 (0 : Int)] ++ en (Value.int .u8) (vrep 32 (0 : Int)).1))))⟩) (zc := ([Value.int .i64 (0 : Int)] ++ ([Value.int .i64 (0 : Int)] ++ ([Value.int .i64 (0 : Int)] ++ ([Value.int .u32 (0 : Int)] ++ en (Value.int .u8) (vrep 32 (0 : Int)).1))))) (r := ([Value.int .i64 a0] ++ ([Value.int .i64 a1] ++ ([Value.int .i64 (l2.length : Int)] ++ ([Value.int .u32 t2] ++ en (Value.int .u8) t5.1))))) rfl rfl (by kernel_rfl) rfl (by kernel_rfl) (by kernel_rfl) (fun w => by kernel_rfl) (fun w => by kernel_rfl) rfl (fill_cons (vs := [Value.int .i64 a0]) (cs' := ([Value.int .i64 a0] ++ ([Value.int .i64 (0 : Int)] ++ ([Value.int .i64 (0 : Int)] ++ ([Value.int .u32 (0 : Int)] ++ en (Value.int .u8) (vrep 32 (0 : Int)).1))))) (off := 0) (size := 1) rfl (by kernel_rfl) (len1 _) (le_of_len (len_app (len1 _) (len_app (len1 _) (len_app (len1 _) (len_app (len1 _) (len_en _ (vrep 32 (0 : Int))))))) (by decide)) (splc_in (Sub4.all _) (splc_head (len_eq (len1 _) (len1 _))) (splc_all (len_eq (len_app (len1 _) (len_app (len1 _) (len_app (len1 _) (len_app (len1 _) (len_en _ (vrep 32 (0 : Int))))))) (len_app (len1 _) (len_app (len1 _) (len_app (len1 _) (len_app (len1 _) (len_en _ (vrep 32 (0 : Int))))))))) (hl_of (Sub4.head _ _) (len_eq (len1 _) (len1 _)))) (fill_cons (vs := [Value.int .i64 a1]) (cs' := ([Value.int .i64 a0] ++ ([Value.int .i64 a1] ++ ([Value.int .i64 (0 : Int)] ++ ([Value.int .u32 (0 : Int)] ++ en (Value.int .u8) (vrep 32 (0 : Int)).1))))) (off := 1) (size := 1) rfl (by kernel_rfl) (len1 _) (le_of_len (len_app (len1 _) (len_app (len1 _) (len_app (len1 _) (len_app (len1 _) (len_en _ (vrep 32 (0 : Int))))))) (by decide)) (splc_in (Sub4.all _) (splc_skip (n := 1) (len1 _) (splc_head (len_eq (len1 _) (len1 _)))) (splc_all (len_eq (len_app (len1 _) (len_app (len1 _) (len_app (len1 _) (len_app (len1 _) (len_en _ (vrep 32 (0 : Int))))))) (len_app (len1 _) (len_app (len1 _) (len_app (len1 _) (len_app (len1 _) (len_en _ (vrep 32 (0 : Int))))))))) (hl_of (Sub4.skip (n := 1) (len1 _) (Sub4.head _ _)) (len_eq (len1 _) (len1 _)))) (fill_cons (vs := [Value.int .i64 (l2.length : Int)]) (cs' := ([Value.int .i64 a0] ++ ([Value.int .i64 a1] ++ ([Value.int .i64 (l2.length : Int)] ++ ([Value.int .u32 (0 : Int)] ++ en (Value.int .u8) (vrep 32 (0 : Int)).1))))) (off := 2) (size := 1) rfl (by kernel_rfl) (len1 _) (le_of_len (len_app (len1 _) (len_app (len1 _) (len_app (len1 _) (len_app (len1 _) (len_en _ (vrep 32 (0 : Int))))))) (by decide)) (splc_in (Sub4.all _) (splc_skip (n := 1) (len1 _) (splc_skip (n := 1) (len1 _) (splc_head (len_eq (len1 _) (len1 _))))) (splc_all (len_eq (len_app (len1 _) (len_app (len1 _) (len_app (len1 _) (len_app (len1 _) (len_en _ (vrep 32 (0 : Int))))))) (len_app (len1 _) (len_app (len1 _) (len_app (len1 _) (len_app (len1 _) (len_en _ (vrep 32 (0 : Int))))))))) (hl_of (Sub4.skip (n := 1) (len1 _) (Sub4.skip (n := 1) (len1 _) (Sub4.head _ _))) (len_eq (len1 _) (len1 _)))) (fill_cons (vs := [Value.int .u32 t2]) (cs' := ([Value.int .i64 a0] ++ ([Value.int .i64 a1] ++ ([Value.int .i64 (l2.length : Int)] ++ ([Value.int .u32 t2] ++ en (Value.int .u8) (vrep 32 (0 : Int)).1))))) (off := 3) (size := 1) rfl (by kernel_rfl) (len1 _) (le_of_len (len_app (len1 _) (len_app (len1 _) (len_app (len1 _) (len_app (len1 _) (len_en _ (vrep 32 (0 : Int))))))) (by decide)) (splc_in (Sub4.all _) (splc_skip (n := 1) (len1 _) (splc_skip (n := 1) (len1 _) (splc_skip (n := 1) (len1 _) (splc_head (len_eq (len1 _) (len1 _)))))) (splc_all (len_eq (len_app (len1 _) (len_app (len1 _) (len_app (len1 _) (len_app (len1 _) (len_en _ (vrep 32 (0 : Int))))))) (len_app (len1 _) (len_app (len1 _) (len_app (len1 _) (len_app (len1 _) (len_en _ (vrep 32 (0 : Int))))))))) (hl_of (Sub4.skip (n := 1) (len1 _) (Sub4.skip (n := 1) (len1 _) (Sub4.skip (n := 1) (len1 _) (Sub4.head _ _)))) (len_eq (len1 _) (len1 _)))) (fill_cons (vs := en (Value.int .u8) t5.1) (cs' := ([Value.int .i64 a0] ++ ([Value.int .i64 a1] ++ ([Value.int .i64 (l2.length : Int)] ++ ([Value.int .u32 t2] ++ en (Value.int .u8) t5.1))))) (off := 4) (size := 32) rfl (by kernel_rfl) (len_en _ t5) (le_of_len (len_app (len1 _) (len_app (len1 _) (len_app (len1 _) (len_app (len1 _) (len_en _ (vrep 32 (0 : Int))))))) (by decide)) (splc_in (Sub4.all _) (splc_skip (n := 1) (len1 _) (splc_skip (n := 1) (len1 _) (splc_skip (n := 1) (len1 _) (splc_skip (n := 1) (len1 _) (splc_all (len_eq (len_en _ t5) (len_en _ (vrep 32 (0 : Int))))))))) (splc_all (len_eq (len_app (len1 _) (len_app (len1 _) (len_app (len1 _) (len_app (len1 _) (len_en _ t5))))) (len_app (len1 _) (len_app (len1 _) (len_app (len1 _) (len_app (len1 _) (len_en _ (vrep 32 (0 : Int))))))))) (hl_of (Sub4.skip (n := 1) (len1 _) (Sub4.skip (n := 1) (len1 _) (Sub4.skip (n := 1) (len1 _) (Sub4.skip (n := 1) (len1 _) (Sub4.all _))))) (len_eq (len_en _ t5) (len_en _ (vrep 32 (0 : Int)))))) fill_nil))))) ?_
  refine ls_storec (g := g1) (off := 0) (v := .agg ⟨([Value.int .i64 a0] ++ ([Value.int .i64 a1] ++ ([Value.int .i64 (l2.length : Int)] ++ ([Value.int .u32 t2] ++ en (Value.int .u8) t5.1))))⟩) (vs := ([Value.int .i64 a0] ++ ([Value.int .i64 a1] ++ ([Value.int .i64 (l2.length : Int)] ++ ([Value.int .u32 t2] ++ en (Value.int .u8) t5.1))))) (cs := ([Value.int .i64 (0 : Int)] ++ ([Value.int .i64 (0 : Int)] ++ ([Value.int .i64 (0 : Int)] ++ ([Value.int .u32 (0 : Int)] ++ en (Value.int .u8) (vrep 32 (0 : Int)).1))))) (ty := 25) 0 rfl rfl rfl (by kernel_rfl) (by kernel_rfl) (by kernel_rfl) (by exact rfl) (by kernel_rfl) (len_app (len1 _) (len_app (len1 _) (len_app (len1 _) (len_app (len1 _) (len_en _ t5))))) (one_app (one_cons rfl one_nil) (one_app (one_cons rfl one_nil) (one_app (one_cons rfl one_nil) (one_app (one_cons rfl one_nil) (one_en (fun _ => rfl) _))))) (hl_of (Sub4.all _) (len_eq (len_app (len1 _) (len_app (len1 _) (len_app (len1 _) (len_app (len1 _) (len_en _ t5))))) (len_app (len1 _) (len_app (len1 _) (len_app (len1 _) (len_app (len1 _) (len_en _ (vrep 32 (0 : Int))))))))) (cs' := ([Value.int .i64 a0] ++ ([Value.int .i64 a1] ++ ([Value.int .i64 (l2.length : Int)] ++ ([Value.int .u32 t2] ++ en (Value.int .u8) t5.1))))) (splc_all (len_eq (len_app (len1 _) (len_app (len1 _) (len_app (len1 _) (len_app (len1 _) (len_en _ t5))))) (len_app (len1 _) (len_app (len1 _) (len_app (len1 _) (len_app (len1 _) (len_en _ (vrep 32 (0 : Int))))))))) ?_
  refine ls_end ?_
  refine qn_then ?_
  refine cs_ret' ?_
  obtain rfl := Option.some.inj H
  refine qr_res (rs := [_]) rfl (fun w' hs => ⟨[.agg ⟨([Value.int .i64 a0] ++ ([Value.int .i64 a1] ++ ([Value.int .i64 (l2.length : Int)] ++ ([Value.int .u32 t2] ++ en (Value.int .u8) t5.1))))⟩], (.cell (by kernel_rfl) (run_cellres (by kernel_rfl) (by kernel_rfl) (len_app (len1 _) (len_app (len1 _) (len_app (len1 _) (len_app (len1 _) (len_en _ t5))))) (hs.holds 0 _ (by exact rfl))) (.nil)), (), rfl, hs.pick (ts := []) (cs := []) trivial (by decide)⟩)

/-! ### shadowbox/pointer.Sectors: function 16 -/
def pointer_Sectors.f (k : Nat) (a0 : (Int × Int × Int × Int × (Vc Int 32))) : Option (Int) :=
  (if a0.2.2.1 < (1 : Int) then some (0 : Int) else (if a0.2.2.1 > (65536 : Int) then some (0 : Int) else lt (IntKind.wrap .i64 (a0.2.2.1 + (512 : Int))) fun y4 => lt (IntKind.wrap .i64 (Int.tdiv (IntKind.wrap .i64 (y4 - (1 : Int))) (512 : Int))) fun y6 => some y6))
set_option maxRecDepth 100000 in
set_option maxHeartbeats 4000000 in
theorem pointer_Sectors.calls (k : Nat) (a0 : (Int × Int × Int × Int × (Vc Int 32))) (r : Int) (b : Bs) (hs0 : St b (stl []) b.w) (H : pointer_Sectors.f k a0 = some r) :
    Calls Try.prog 16 #[.agg ⟨([Value.int .i64 a0.1] ++ ([Value.int .i64 a0.2.1] ++ ([Value.int .i64 a0.2.2.1] ++ ([Value.int .u32 a0.2.2.2.1] ++ en (Value.int .u8) a0.2.2.2.2.1))))⟩] b.w fun e w' => ∃ x : Unit, e = .returned (.int .i64 r) ∧ St b (stl []) w' := by
  unfold pointer_Sectors.f at H
  refine enterb (n := 16) Try.func16 rfl (by kernel_rfl) (by kernel_rfl) hs0 ?_
  refine cs_sub (s0) (sub_nil _) ?_
  refine cs_seq ?_
  refine cs_region (l := [_, _]) ?_
  refine ls_new rfl rfl (by kernel_rfl) 0 (fun g => .pointer (some ⟨g, 0, none⟩)) (.cells ⟨([Value.int .i64 a0.1] ++ ([Value.int .i64 a0.2.1] ++ ([Value.int .i64 a0.2.2.1] ++ ([Value.int .u32 a0.2.2.2.1] ++ en (Value.int .u8) a0.2.2.2.2.1))))⟩ 25) (fun w => by kernel_rfl) ?_
  intro g1
  refine ls_val (v := .int .i64 (0 : Int)) rfl rfl (by kernel_rfl) (fun w => by kernel_rfl) ?_
  refine ls_end ?_
  refine qn_then ?_
  refine cs_seq ?_
  refine cs_seq ?_
  refine cs_region (l := [_, _, _, _, _, _, _, _]) ?_
  refine ls_val (v := .pointer (some ⟨g1, (0 + 2), none⟩)) rfl rfl (by kernel_rfl) (fun w => by kernel_rfl) ?_
  refine ls_load (a0 := ⟨g1, (0 + 2), none⟩) (v := .int .i64 a0.2.2.1) (de := (TypeDesc.int .i64)) rfl rfl (by kernel_rfl) rfl (by kernel_rfl) (by kernel_rfl) (by kernel_rfl) (fun w hs => (hs.var (k := 0) (by exact rfl) (Sub4.trans (Sub4.all _) (Sub4.skip (n := 1) (len1 _) (Sub4.skip (n := 1) (len1 _) (Sub4.head _ _)))))) ?_
  refine ls_val (v := .bool (decide (a0.2.2.1 < (1 : Int)))) rfl rfl (by kernel_rfl) (fun w => by kernel_rfl) ?_
  refine ls_val (v := .bool (decide (a0.2.2.1 < (1 : Int)))) rfl rfl (by kernel_rfl) (fun w => by kernel_rfl) ?_
  by_cases q2 : a0.2.2.1 < (1 : Int)
  · replace H := ite_t q2 H
    refine ls_know (c := true) (dec_t q2) 6 (by kernel_rfl) ?_
    refine ls_off (j := 3) (t := 6) (b := false) (c := true) rfl rfl (by kernel_rfl) (by kernel_rfl) rfl rfl (by kernel_rfl) ?_
    refine ls_off (j := 3) (t := 6) (b := false) (c := true) rfl rfl (by kernel_rfl) (by kernel_rfl) rfl rfl (by kernel_rfl) ?_
    refine ls_off (j := 3) (t := 6) (b := false) (c := true) rfl rfl (by kernel_rfl) (by kernel_rfl) rfl rfl (by kernel_rfl) ?_
    refine ls_val (v := .bool true) rfl rfl (by kernel_rfl) (fun w => by kernel_rfl) ?_
    refine ls_end ?_
    refine qn_then ?_
    refine cs_true (by kernel_rfl) ?_
    refine cs_seq ?_
    refine cs_region (l := [_]) ?_
    refine ls_val (v := .int .i64 (0 : Int)) rfl rfl (by kernel_rfl) (fun w => by kernel_rfl) ?_
    refine ls_end ?_
    refine qn_then ?_
    refine cs_ret' ?_
    refine qr_then ?_
    obtain rfl := Option.some.inj H
    refine qr_res (rs := [_]) rfl (fun w' hs => ⟨[.int .i64 (0 : Int)], (res_tmp (by kernel_rfl) (.nil)), (), rfl, hs.pick (ts := []) (cs := []) trivial (by decide)⟩)
  · replace H := ite_f q2 H
    refine ls_know (c := false) (dec_f q2) 6 (by kernel_rfl) ?_
    refine ls_on (j := 3) (t := 6) (b := false) rfl rfl (by kernel_rfl) (by kernel_rfl) ?_
    refine ls_val (v := .pointer (some ⟨g1, (0 + 2), none⟩)) rfl rfl (by kernel_rfl) (fun w => by kernel_rfl) ?_
    refine ls_on (j := 3) (t := 6) (b := false) rfl rfl (by kernel_rfl) (by kernel_rfl) ?_
    refine ls_load (a0 := ⟨g1, (0 + 2), none⟩) (v := .int .i64 a0.2.2.1) (de := (TypeDesc.int .i64)) rfl rfl (by kernel_rfl) rfl (by kernel_rfl) (by kernel_rfl) (by kernel_rfl) (fun w hs => (hs.var (k := 0) (by exact rfl) (Sub4.trans (Sub4.all _) (Sub4.skip (n := 1) (len1 _) (Sub4.skip (n := 1) (len1 _) (Sub4.head _ _)))))) ?_
    refine ls_on (j := 3) (t := 6) (b := false) rfl rfl (by kernel_rfl) (by kernel_rfl) ?_
    refine ls_val (v := .bool (decide (a0.2.2.1 > (65536 : Int)))) rfl rfl (by kernel_rfl) (fun w => by kernel_rfl) ?_
    refine ls_val (v := .bool (decide (a0.2.2.1 > (65536 : Int)))) rfl rfl (by kernel_rfl) (fun w => by kernel_rfl) ?_
    refine ls_end ?_
    refine qn_then ?_
    by_cases q3 : a0.2.2.1 > (65536 : Int)
    · replace H := ite_t q3 H
      refine cs_know (c := true) (dec_t q3) 10 (by kernel_rfl) ?_
      refine cs_true (by kernel_rfl) ?_
      refine cs_seq ?_
      refine cs_region (l := [_]) ?_
      refine ls_val (v := .int .i64 (0 : Int)) rfl rfl (by kernel_rfl) (fun w => by kernel_rfl) ?_
      refine ls_end ?_
      refine qn_then ?_
      refine cs_ret' ?_
      refine qr_then ?_
      obtain rfl := Option.some.inj H
      refine qr_res (rs := [_]) rfl (fun w' hs => ⟨[.int .i64 (0 : Int)], (res_tmp (by kernel_rfl) (.nil)), (), rfl, hs.pick (ts := []) (cs := []) trivial (by decide)⟩)
    · replace H := ite_f q3 H
      refine cs_know (c := false) (dec_f q3) 10 (by kernel_rfl) ?_
      refine cs_false (by kernel_rfl) ?_
      refine cs_skip' ?_
      refine qn_then ?_
      refine cs_seq ?_
      refine cs_region (l := [_, _, _, _, _, _]) ?_
      refine ls_val (v := .pointer (some ⟨g1, (0 + 2), none⟩)) rfl rfl (by kernel_rfl) (fun w => by kernel_rfl) ?_
      refine ls_load (a0 := ⟨g1, (0 + 2), none⟩) (v := .int .i64 a0.2.2.1) (de := (TypeDesc.int .i64)) rfl rfl (by kernel_rfl) rfl (by kernel_rfl) (by kernel_rfl) (by kernel_rfl) (fun w hs => (hs.var (k := 0) (by exact rfl) (Sub4.trans (Sub4.all _) (Sub4.skip (n := 1) (len1 _) (Sub4.skip (n := 1) (len1 _) (Sub4.head _ _)))))) ?_
      obtain ⟨y4, hy5, H⟩ := lt_some H
      refine ls_val (v := .int .i64 (IntKind.wrap .i64 (a0.2.2.1 + (512 : Int)))) rfl rfl (by kernel_rfl) (fun w => by kernel_rfl) ?_
      refine ls_ren 13 (v := .int .i64 (IntKind.wrap .i64 (a0.2.2.1 + (512 : Int)))) (v' := .int .i64 y4) (by kernel_rfl) (by rw [hy5]) ?_
      refine ls_val (v := .int .i64 (IntKind.wrap .i64 (y4 - (1 : Int)))) rfl rfl (by kernel_rfl) (fun w => by kernel_rfl) ?_
      obtain ⟨y6, hy7, H⟩ := lt_some H
      refine ls_val (v := .int .i64 (IntKind.wrap .i64 (Int.tdiv (IntKind.wrap .i64 (y4 - (1 : Int))) (512 : Int)))) rfl rfl (by kernel_rfl) (fun w => by kernel_rfl) ?_
      refine ls_ren 15 (v := .int .i64 (IntKind.wrap .i64 (Int.tdiv (IntKind.wrap .i64 (y4 - (1 : Int))) (512 : Int)))) (v' := .int .i64 y6) (by kernel_rfl) (by rw [hy7]) ?_
      refine ls_val (v := .int .i64 y6) rfl rfl (by kernel_rfl) (fun w => by kernel_rfl) ?_
      refine ls_end ?_
      refine qn_then ?_
      refine cs_ret' ?_
      obtain rfl := Option.some.inj H
      refine qr_res (rs := [_]) rfl (fun w' hs => ⟨[.int .i64 y6], (res_tmp (by kernel_rfl) (.nil)), (), rfl, hs.pick (ts := []) (cs := []) trivial (by decide)⟩)

/-! ### shadowbox/pointer.Right$1: function 33 -/
def pointer_Right_1.f (k : Nat) (a0 : Int) (a1 : Int) (a2 : Int) : Option (Bool) :=
  (if a0 ≥ a1 then some (decide (a0 ≤ a2)) else some false)
set_option maxRecDepth 100000 in
set_option maxHeartbeats 4000000 in
theorem pointer_Right_1.calls (k : Nat) (a0 : Int) (a1 : Int) (a2 : Int) (r : Bool) (b : Bs) (hs0 : St b (stl []) b.w) (H : pointer_Right_1.f k a0 a1 a2 = some r) :
    Calls Try.prog 33 #[.int .i64 a0, .int .i64 a1, .int .i64 a2] b.w fun e w' => ∃ x : Unit, e = .returned (.bool r) ∧ St b (stl []) w' := by
  unfold pointer_Right_1.f at H
  refine enterb (n := 15) Try.func33 rfl (by kernel_rfl) (by kernel_rfl) hs0 ?_
  refine cs_sub (s0) (sub_nil _) ?_
  refine cs_seq ?_
  refine cs_region (l := [_]) ?_
  refine ls_val (v := .bool false) rfl rfl (by kernel_rfl) (fun w => by kernel_rfl) ?_
  refine ls_end ?_
  refine qn_then ?_
  refine cs_seq ?_
  refine cs_region (l := [_, _, _, _, _, _, _, _, _]) ?_
  refine ls_val (v := .int .i64 a0) rfl rfl (by kernel_rfl) (fun w => by kernel_rfl) ?_
  refine ls_val (v := .int .i64 a1) rfl rfl (by kernel_rfl) (fun w => by kernel_rfl) ?_
  refine ls_val (v := .bool (decide (a0 ≥ a1))) rfl rfl (by kernel_rfl) (fun w => by kernel_rfl) ?_
  refine ls_val (v := .bool (decide (a0 ≥ a1))) rfl rfl (by kernel_rfl) (fun w => by kernel_rfl) ?_
  by_cases q1 : a0 ≥ a1
  · replace H := ite_t q1 H
    refine ls_know (c := true) (dec_t q1) 10 (by kernel_rfl) ?_
    refine ls_on (j := 3) (t := 10) (b := true) rfl rfl (by kernel_rfl) (by kernel_rfl) ?_
    refine ls_val (v := .int .i64 a0) rfl rfl (by kernel_rfl) (fun w => by kernel_rfl) ?_
    refine ls_on (j := 3) (t := 10) (b := true) rfl rfl (by kernel_rfl) (by kernel_rfl) ?_
    refine ls_val (v := .int .i64 a2) rfl rfl (by kernel_rfl) (fun w => by kernel_rfl) ?_
    refine ls_on (j := 3) (t := 10) (b := true) rfl rfl (by kernel_rfl) (by kernel_rfl) ?_
    refine ls_val (v := .bool (decide (a0 ≤ a2))) rfl rfl (by kernel_rfl) (fun w => by kernel_rfl) ?_
    refine ls_val (v := .bool (decide (a0 ≤ a2))) rfl rfl (by kernel_rfl) (fun w => by kernel_rfl) ?_
    refine ls_val (v := .bool (decide (a0 ≤ a2))) rfl rfl (by kernel_rfl) (fun w => by kernel_rfl) ?_
    refine ls_end ?_
    refine qn_then ?_
    refine cs_ret' ?_
    obtain rfl := Option.some.inj H
    refine qr_res (rs := [_]) rfl (fun w' hs => ⟨[.bool (decide (a0 ≤ a2))], (res_tmp (by kernel_rfl) (.nil)), (), rfl, hs.pick (ts := []) (cs := []) trivial (by decide)⟩)
  · replace H := ite_f q1 H
    refine ls_know (c := false) (dec_f q1) 10 (by kernel_rfl) ?_
    refine ls_off (j := 3) (t := 10) (b := true) (c := false) rfl rfl (by kernel_rfl) (by kernel_rfl) rfl rfl (by kernel_rfl) ?_
    refine ls_off (j := 3) (t := 10) (b := true) (c := false) rfl rfl (by kernel_rfl) (by kernel_rfl) rfl rfl (by kernel_rfl) ?_
    refine ls_off (j := 3) (t := 10) (b := true) (c := false) rfl rfl (by kernel_rfl) (by kernel_rfl) rfl rfl (by kernel_rfl) ?_
    refine ls_val (v := .bool false) rfl rfl (by kernel_rfl) (fun w => by kernel_rfl) ?_
    refine ls_val (v := .bool false) rfl rfl (by kernel_rfl) (fun w => by kernel_rfl) ?_
    refine ls_end ?_
    refine qn_then ?_
    refine cs_ret' ?_
    obtain rfl := Option.some.inj H
    refine qr_res (rs := [_]) rfl (fun w' hs => ⟨[.bool false], (res_tmp (by kernel_rfl) (.nil)), (), rfl, hs.pick (ts := []) (cs := []) trivial (by decide)⟩)

/-! ### shadowbox/pointer.Right: function 14 -/
def pointer_Right.tab1 : List (List Nat) := [[], [], [1], [0, 1, 2], [0, 1, 2, 3], [0, 1, 2, 3, 4], [0, 1, 2, 3, 4, 5], [0, 1, 2, 3, 4, 5, 6], [0, 1, 2, 3, 4, 5, 6, 7], [0, 1, 2, 3, 4, 5, 6, 7, 8], [0, 1, 2, 3, 4, 5, 6, 7, 8, 9], [0, 1, 2, 3, 4, 5, 6, 7, 8, 9], [0, 1, 2, 3, 4, 5, 6, 7, 8, 9, 11], [0, 1, 2, 3, 4, 5, 6, 7, 8, 9], [0, 1, 2, 3, 4, 5, 6, 7, 8, 9, 13], [0, 1, 2, 3, 4, 5, 6, 7, 8, 9, 13, 14], [0, 1, 2, 3, 4, 5, 6, 7, 8, 9, 10, 11, 12, 13, 14, 15], [0, 1, 2, 3, 4, 5, 6, 7, 8, 9, 10, 11, 12, 13, 14, 15, 16], [0, 1, 2, 3, 4, 5, 6, 7, 8, 9, 10, 11, 12, 13, 14, 15, 16, 17]]
def pointer_Right.f (k : Nat) (a0 : (Int × Int × Int × Int × (Vc Int 32))) : Option (Bool) :=
  (pointer_Right_1.f k a0.2.1 (1 : Int) (1152921504606846976 : Int)).bind fun t4 => (if t4 = true then (pointer_Sectors.f k a0).bind fun t8 => (if t8 > (0 : Int) then (pointer_Sectors.f k a0).bind fun t12 => (pointer_Right_1.f k a0.1 (2 : Int) (IntKind.wrap .i64 ((8192 : Int) - t12))).bind fun t15 => some t15 else some false) else some false)
set_option maxRecDepth 100000 in
set_option maxHeartbeats 4000000 in
theorem pointer_Right.calls (k : Nat) (a0 : (Int × Int × Int × Int × (Vc Int 32))) (r : Bool) (b : Bs) (hs0 : St b (stl []) b.w) (H : pointer_Right.f k a0 = some r) :
    Calls Try.prog 14 #[.agg ⟨([Value.int .i64 a0.1] ++ ([Value.int .i64 a0.2.1] ++ ([Value.int .i64 a0.2.2.1] ++ ([Value.int .u32 a0.2.2.2.1] ++ en (Value.int .u8) a0.2.2.2.2.1))))⟩] b.w fun e w' => ∃ x : Unit, e = .returned (.bool r) ∧ St b (stl []) w' := by
  unfold pointer_Right.f at H
  refine enterb (n := 22) Try.func14 rfl (by kernel_rfl) (by kernel_rfl) hs0 ?_
  refine cs_sub (s0) (sub_nil _) ?_
  refine cs_seq ?_
  refine cs_region (l := [_, _]) ?_
  refine ls_new rfl rfl (by kernel_rfl) 0 (fun g => .pointer (some ⟨g, 0, none⟩)) (.cells ⟨([Value.int .i64 a0.1] ++ ([Value.int .i64 a0.2.1] ++ ([Value.int .i64 a0.2.2.1] ++ ([Value.int .u32 a0.2.2.2.1] ++ en (Value.int .u8) a0.2.2.2.2.1))))⟩ 25) (fun w => by kernel_rfl) ?_
  intro g1
  refine ls_val (v := .bool false) rfl rfl (by kernel_rfl) (fun w => by kernel_rfl) ?_
  refine ls_end ?_
  refine qn_then ?_
  refine cs_seq ?_
  refine cs_region (l := [_]) ?_
  refine ls_val (v := .func (.func 33) #[] #[]) rfl rfl (by kernel_rfl) (fun w => by kernel_rfl) ?_
  refine ls_end ?_
  refine qn_then ?_
  refine cs_seq ?_
  obtain ⟨s3_0, hs3_0⟩ : ∃ z : Value → Sto → Prop, z = (fun v R => v = .func (.func 33) #[] #[] ∧ R = s0) := ⟨_, rfl⟩
  refine have_op (l := [_, _, _, _, _, _, _, _, _, _, _, _, _, _, _, _, _, _, _]) pointer_Right.tab1 1 0 (fun sp => sp 0 = s3_0) (fun sp on hA hon => ?_) (fun ops3_0 => ?_)
  · refine ⟨fun o ho vs Rs f' S' w hp hf hx hS hR hs => ?_⟩
    obtain rfl := Option.some.inj ho
    rw [hA, hs3_0]
    refine And.intro (fun a ha => (want_none rfl a ha).trans hon.symm) (And.intro (fun _ => ?_) (fun h => by rw [hon] at h; cases h))
    have hF := fr_next (rfl) ((hx 3 (by kernel_rfl)).trans (by kernel_rfl : (_ : Value) = .func (.func 33) #[] #[]))
    refine ls_fr hF ?_
    refine ls_val (v := .func (.func 33) #[] #[]) rfl rfl (by kernel_rfl) (fun w => by kernel_rfl) ?_
    exact ls_fin s0 (.func (.func 33) #[] #[]) (congrArg (fun z => upd z 4 _) hF.symm) ⟨rfl, rfl⟩ (sub_nil _)
  obtain ⟨s3_1, hs3_1⟩ : ∃ z : Value → Sto → Prop, z = (fun v R => v = .pointer (some ⟨g1, (0 + 1), none⟩) ∧ R = s0) := ⟨_, rfl⟩
  refine have_op (l := [_, _, _, _, _, _, _, _, _, _, _, _, _, _, _, _, _, _, _]) pointer_Right.tab1 1 1 (fun sp => sp 1 = s3_1) (fun sp on hA hon => ?_) (fun ops3_1 => ?_)
  · refine ⟨fun o ho vs Rs f' S' w hp hf hx hS hR hs => ?_⟩
    obtain rfl := Option.some.inj ho
    rw [hA, hs3_1]
    refine And.intro (fun a ha => (want_none rfl a ha).trans hon.symm) (And.intro (fun _ => ?_) (fun h => by rw [hon] at h; cases h))
    have hF := fr_next (rfl) ((hx 1 (by kernel_rfl)).trans (by kernel_rfl : (_ : Value) = .pointer (some ⟨g1, 0, none⟩)))
    refine ls_fr hF ?_
    refine ls_val (v := .pointer (some ⟨g1, (0 + 1), none⟩)) rfl rfl (by kernel_rfl) (fun w => by kernel_rfl) ?_
    exact ls_fin s0 (.pointer (some ⟨g1, (0 + 1), none⟩)) (congrArg (fun z => upd z 5 _) hF.symm) ⟨rfl, rfl⟩ (sub_nil _)
  obtain ⟨s3_2, hs3_2⟩ : ∃ z : Value → Sto → Prop, z = (fun v R => v = .int .i64 a0.2.1 ∧ R = s0) := ⟨_, rfl⟩
  refine have_op (l := [_, _, _, _, _, _, _, _, _, _, _, _, _, _, _, _, _, _, _]) pointer_Right.tab1 1 2 (fun sp => sp 2 = s3_2 ∧ sp 1 = s3_1) (fun sp on hA hon => ?_) (fun ops3_2 => ?_)
  · refine ⟨fun o ho vs Rs f' S' w hp hf hx hS hR hs => ?_⟩
    obtain rfl := Option.some.inj ho
    obtain ⟨hv1, hR1⟩ := (spe hA.2 hs3_1 (hp 1 (by kernel_rfl)))
    rw [hA.1, hs3_2]
    refine And.intro (fun a ha => (want_none rfl a ha).trans hon.symm) (And.intro (fun _ => ?_) (fun h => by rw [hon] at h; cases h))
    have hF := fr_next (rfl) ((hf 1 5 (by kernel_rfl) rfl).trans hv1)
    refine ls_fr hF ?_
    refine ls_load (a0 := ⟨g1, (0 + 1), none⟩) (v := .int .i64 a0.2.1) (de := (TypeDesc.int .i64)) rfl rfl (by kernel_rfl) rfl (by kernel_rfl) (by kernel_rfl) (by kernel_rfl) (fun w1 hs1 => cell_step hs1.below.bw (hs.var (k := 0) ((hS 0 (by kernel_rfl)).trans (by exact rfl)) (Sub4.trans (Sub4.all _) (Sub4.skip (n := 1) (len1 _) (Sub4.head _ _))))) ?_
    exact ls_fin s0 (.int .i64 a0.2.1) (congrArg (fun z => upd z 6 _) hF.symm) ⟨rfl, rfl⟩ (sub_nil _)
  obtain ⟨t4, hc5, H⟩ := bind_some H
  obtain ⟨s3_3, hs3_3⟩ : ∃ z : Value → Sto → Prop, z = (fun v R => ∃ x6 : Unit, v = .bool t4 ∧ R = stl []) := ⟨_, rfl⟩
  refine have_op (l := [_, _, _, _, _, _, _, _, _, _, _, _, _, _, _, _, _, _, _]) pointer_Right.tab1 1 3 (fun sp => sp 3 = s3_3 ∧ sp 0 = s3_0 ∧ sp 2 = s3_2) (fun sp on hA hon => ?_) (fun ops3_3 => ?_)
  · refine ⟨fun o ho vs Rs f' S' w hp hf hx hS hR hs => ?_⟩
    obtain rfl := Option.some.inj ho
    obtain ⟨hv0, hR0⟩ := (spe hA.2.1 hs3_0 (hp 0 (by kernel_rfl)))
    obtain ⟨hv2, hR2⟩ := (spe hA.2.2 hs3_2 (hp 2 (by kernel_rfl)))
    rw [hA.1, hs3_3]
    refine And.intro (fun a ha => (want_none rfl a ha).trans hon.symm) (And.intro (fun _ => ?_) (fun h => by rw [hon] at h; cases h))
    have hF := fr_next (fr_next (rfl) ((hf 0 4 (by kernel_rfl) rfl).trans hv0)) ((hf 2 6 (by kernel_rfl) rfl).trans hv2)
    refine ls_fr hF ?_
    refine ls_call (fid := 33) (vals := #[.int .i64 a0.2.1, .int .i64 (1 : Int), .int .i64 (1152921504606846976 : Int)]) (X := Unit) (fun x => .bool t4) (fun x => stl []) 0 rfl rfl (by kernel_rfl) (fun w => by kernel_rfl) (fun w1 hs1 => pointer_Right_1.calls k a0.2.1 (1 : Int) (1152921504606846976 : Int) t4 (bw w1) (St.refl w1)  hc5) ?_
    intro x6
    exact ls_fin (stl []) (.bool t4) (congrArg (fun z => upd z 7 _) hF.symm) ⟨x6, rfl, rfl⟩ (sub_join _)
  obtain ⟨s3_4, hs3_4⟩ : ∃ z : Value → Sto → Prop, z = (fun v R => v = .bool t4 ∧ R = s0) := ⟨_, rfl⟩
  refine have_op (l := [_, _, _, _, _, _, _, _, _, _, _, _, _, _, _, _, _, _, _]) pointer_Right.tab1 1 4 (fun sp => sp 4 = s3_4 ∧ sp 3 = s3_3) (fun sp on hA hon => ?_) (fun ops3_4 => ?_)
  · refine ⟨fun o ho vs Rs f' S' w hp hf hx hS hR hs => ?_⟩
    obtain rfl := Option.some.inj ho
    obtain ⟨x6, hv3, hR3⟩ := (spe hA.2 hs3_3 (hp 3 (by kernel_rfl)))
    rw [hA.1, hs3_4]
    refine And.intro (fun a ha => (want_none rfl a ha).trans hon.symm) (And.intro (fun _ => ?_) (fun h => by rw [hon] at h; cases h))
    have hF := fr_next (rfl) ((hf 3 7 (by kernel_rfl) rfl).trans hv3)
    refine ls_fr hF ?_
    refine ls_val (v := .bool t4) rfl rfl (by kernel_rfl) (fun w => by kernel_rfl) ?_
    exact ls_fin s0 (.bool t4) (congrArg (fun z => upd z 8 _) hF.symm) ⟨rfl, rfl⟩ (sub_nil _)
  by_cases q7 : t4 = true
  · replace H := ite_t q7 H
    obtain ⟨s3_5, hs3_5⟩ : ∃ z : Value → Sto → Prop, z = (fun v R => v = .agg ⟨([Value.int .i64 a0.1] ++ ([Value.int .i64 a0.2.1] ++ ([Value.int .i64 a0.2.2.1] ++ ([Value.int .u32 a0.2.2.2.1] ++ en (Value.int .u8) a0.2.2.2.2.1))))⟩ ∧ R = s0) := ⟨_, rfl⟩
    refine have_op (l := [_, _, _, _, _, _, _, _, _, _, _, _, _, _, _, _, _, _, _]) pointer_Right.tab1 1 5 (fun sp => sp 5 = s3_5 ∧ sp 4 = s3_4) (fun sp on hA hon => ?_) (fun ops3_5 => ?_)
    · refine ⟨fun o ho vs Rs f' S' w hp hf hx hS hR hs => ?_⟩
      obtain rfl := Option.some.inj ho
      obtain ⟨hv4, hR4⟩ := (spe hA.2 hs3_4 (hp 4 (by kernel_rfl)))
      rw [hA.1, hs3_5]
      refine And.intro (fun a ha => (want_is (j := 4) (t := 8) (r := true) rfl rfl (by kernel_rfl) (((hf 4 8 (by kernel_rfl) rfl).trans hv4).trans (congrArg Value.bool (show t4 = true from q7))) rfl a ha).trans hon.symm) (And.intro (fun _ => ?_) (fun h => by rw [hon] at h; cases h))
      have hF := fr_next (fr_next (rfl) ((hx 1 (by kernel_rfl)).trans (by kernel_rfl : (_ : Value) = .pointer (some ⟨g1, 0, none⟩)))) (((hf 4 8 (by kernel_rfl) rfl).trans hv4).trans (congrArg Value.bool (show t4 = true from q7)))
      refine ls_fr hF ?_
      refine ls_loadagg (a := ⟨g1, 0, none⟩) (sub := ([Value.int .i64 a0.1] ++ ([Value.int .i64 a0.2.1] ++ ([Value.int .i64 a0.2.2.1] ++ ([Value.int .u32 a0.2.2.2.1] ++ en (Value.int .u8) a0.2.2.2.2.1))))) rfl rfl (by kernel_rfl) rfl (by kernel_rfl) (by kernel_rfl) (by kernel_rfl) (len_app (len1 _) (len_app (len1 _) (len_app (len1 _) (len_app (len1 _) (len_en _ a0.2.2.2.2))))) (fun w1 hs1 => Rd.step (hs.vars (k := 0) ((hS 0 (by kernel_rfl)).trans (by exact rfl)) (Sub4.all _)) hs1.below.bw) ?_
      exact ls_fin s0 (.agg ⟨([Value.int .i64 a0.1] ++ ([Value.int .i64 a0.2.1] ++ ([Value.int .i64 a0.2.2.1] ++ ([Value.int .u32 a0.2.2.2.1] ++ en (Value.int .u8) a0.2.2.2.2.1))))⟩) (congrArg (fun z => upd z 9 _) hF.symm) ⟨rfl, rfl⟩ (sub_nil _)
    obtain ⟨t8, hc9, H⟩ := bind_some H
    obtain ⟨s3_6, hs3_6⟩ : ∃ z : Value → Sto → Prop, z = (fun v R => ∃ x10 : Unit, v = .int .i64 t8 ∧ R = stl []) := ⟨_, rfl⟩
    refine have_op (l := [_, _, _, _, _, _, _, _, _, _, _, _, _, _, _, _, _, _, _]) pointer_Right.tab1 1 6 (fun sp => sp 6 = s3_6 ∧ sp 4 = s3_4 ∧ sp 5 = s3_5) (fun sp on hA hon => ?_) (fun ops3_6 => ?_)
    · refine ⟨fun o ho vs Rs f' S' w hp hf hx hS hR hs => ?_⟩
      obtain rfl := Option.some.inj ho
      obtain ⟨hv4, hR4⟩ := (spe hA.2.1 hs3_4 (hp 4 (by kernel_rfl)))
      obtain ⟨hv5, hR5⟩ := (spe hA.2.2 hs3_5 (hp 5 (by kernel_rfl)))
      rw [hA.1, hs3_6]
      refine And.intro (fun a ha => (want_is (j := 4) (t := 8) (r := true) rfl rfl (by kernel_rfl) (((hf 4 8 (by kernel_rfl) rfl).trans hv4).trans (congrArg Value.bool (show t4 = true from q7))) rfl a ha).trans hon.symm) (And.intro (fun _ => ?_) (fun h => by rw [hon] at h; cases h))
      have hF := fr_next (fr_next (rfl) (((hf 4 8 (by kernel_rfl) rfl).trans hv4).trans (congrArg Value.bool (show t4 = true from q7)))) ((hf 5 9 (by kernel_rfl) rfl).trans hv5)
      refine ls_fr hF ?_
      refine ls_call (fid := 16) (vals := #[.agg ⟨([Value.int .i64 a0.1] ++ ([Value.int .i64 a0.2.1] ++ ([Value.int .i64 a0.2.2.1] ++ ([Value.int .u32 a0.2.2.2.1] ++ en (Value.int .u8) a0.2.2.2.2.1))))⟩]) (X := Unit) (fun x => .int .i64 t8) (fun x => stl []) 0 rfl rfl (by kernel_rfl) (fun w => by kernel_rfl) (fun w1 hs1 => pointer_Sectors.calls k a0 t8 (bw w1) (St.refl w1)  hc9) ?_
      intro x10
      exact ls_fin (stl []) (.int .i64 t8) (congrArg (fun z => upd z 10 _) hF.symm) ⟨x10, rfl, rfl⟩ (sub_join _)
    obtain ⟨s3_7, hs3_7⟩ : ∃ z : Value → Sto → Prop, z = (fun v R => v = .bool (decide (t8 > (0 : Int))) ∧ R = s0) := ⟨_, rfl⟩
    refine have_op (l := [_, _, _, _, _, _, _, _, _, _, _, _, _, _, _, _, _, _, _]) pointer_Right.tab1 1 7 (fun sp => sp 7 = s3_7 ∧ sp 4 = s3_4 ∧ sp 6 = s3_6) (fun sp on hA hon => ?_) (fun ops3_7 => ?_)
    · refine ⟨fun o ho vs Rs f' S' w hp hf hx hS hR hs => ?_⟩
      obtain rfl := Option.some.inj ho
      obtain ⟨hv4, hR4⟩ := (spe hA.2.1 hs3_4 (hp 4 (by kernel_rfl)))
      obtain ⟨x10, hv6, hR6⟩ := (spe hA.2.2 hs3_6 (hp 6 (by kernel_rfl)))
      rw [hA.1, hs3_7]
      refine And.intro (fun a ha => (want_is (j := 4) (t := 8) (r := true) rfl rfl (by kernel_rfl) (((hf 4 8 (by kernel_rfl) rfl).trans hv4).trans (congrArg Value.bool (show t4 = true from q7))) rfl a ha).trans hon.symm) (And.intro (fun _ => ?_) (fun h => by rw [hon] at h; cases h))
      have hF := fr_next (fr_next (rfl) (((hf 4 8 (by kernel_rfl) rfl).trans hv4).trans (congrArg Value.bool (show t4 = true from q7)))) ((hf 6 10 (by kernel_rfl) rfl).trans hv6)
      refine ls_fr hF ?_
      refine ls_val (v := .bool (decide (t8 > (0 : Int)))) rfl rfl (by kernel_rfl) (fun w => by kernel_rfl) ?_
      exact ls_fin s0 (.bool (decide (t8 > (0 : Int)))) (congrArg (fun z => upd z 11 _) hF.symm) ⟨rfl, rfl⟩ (sub_nil _)
    obtain ⟨s3_8, hs3_8⟩ : ∃ z : Value → Sto → Prop, z = (fun v R => v = .bool (decide (t8 > (0 : Int))) ∧ R = s0) := ⟨_, rfl⟩
    refine have_op (l := [_, _, _, _, _, _, _, _, _, _, _, _, _, _, _, _, _, _, _]) pointer_Right.tab1 1 8 (fun sp => sp 8 = s3_8 ∧ sp 4 = s3_4 ∧ sp 7 = s3_7) (fun sp on hA hon => ?_) (fun ops3_8 => ?_)
    · refine ⟨fun o ho vs Rs f' S' w hp hf hx hS hR hs => ?_⟩
      obtain rfl := Option.some.inj ho
      obtain ⟨hv4, hR4⟩ := (spe hA.2.1 hs3_4 (hp 4 (by kernel_rfl)))
      obtain ⟨hv7, hR7⟩ := (spe hA.2.2 hs3_7 (hp 7 (by kernel_rfl)))
      rw [hA.1, hs3_8]
      refine And.intro (fun a ha => (want_none rfl a ha).trans hon.symm) (And.intro (fun _ => ?_) (fun h => by rw [hon] at h; cases h))
      have hF := fr_next (fr_next (rfl) (((hf 4 8 (by kernel_rfl) rfl).trans hv4).trans (congrArg Value.bool (show t4 = true from q7)))) ((hf 7 11 (by kernel_rfl) rfl).trans hv7)
      refine ls_fr hF ?_
      refine ls_val (v := .bool (decide (t8 > (0 : Int)))) rfl rfl (by kernel_rfl) (fun w => by kernel_rfl) ?_
      exact ls_fin s0 (.bool (decide (t8 > (0 : Int)))) (congrArg (fun z => upd z 12 _) hF.symm) ⟨rfl, rfl⟩ (sub_nil _)
    obtain ⟨s3_9, hs3_9⟩ : ∃ z : Value → Sto → Prop, z = (fun v R => v = .bool (decide (t8 > (0 : Int))) ∧ R = s0) := ⟨_, rfl⟩
    refine have_op (l := [_, _, _, _, _, _, _, _, _, _, _, _, _, _, _, _, _, _, _]) pointer_Right.tab1 1 9 (fun sp => sp 9 = s3_9 ∧ sp 8 = s3_8) (fun sp on hA hon => ?_) (fun ops3_9 => ?_)
    · refine ⟨fun o ho vs Rs f' S' w hp hf hx hS hR hs => ?_⟩
      obtain rfl := Option.some.inj ho
      obtain ⟨hv8, hR8⟩ := (spe hA.2 hs3_8 (hp 8 (by kernel_rfl)))
      rw [hA.1, hs3_9]
      refine And.intro (fun a ha => (want_none rfl a ha).trans hon.symm) (And.intro (fun _ => ?_) (fun h => by rw [hon] at h; cases h))
      have hF := fr_next (rfl) ((hf 8 12 (by kernel_rfl) rfl).trans hv8)
      refine ls_fr hF ?_
      refine ls_val (v := .bool (decide (t8 > (0 : Int)))) rfl rfl (by kernel_rfl) (fun w => by kernel_rfl) ?_
      exact ls_fin s0 (.bool (decide (t8 > (0 : Int)))) (congrArg (fun z => upd z 13 _) hF.symm) ⟨rfl, rfl⟩ (sub_nil _)
    by_cases q11 : t8 > (0 : Int)
    · replace H := ite_t q11 H
      obtain ⟨s3_10, hs3_10⟩ : ∃ z : Value → Sto → Prop, z = (fun v R => v = .func (.func 33) #[] #[] ∧ R = s0) := ⟨_, rfl⟩
      refine have_op (l := [_, _, _, _, _, _, _, _, _, _, _, _, _, _, _, _, _, _, _]) pointer_Right.tab1 1 10 (fun sp => sp 10 = s3_10 ∧ sp 9 = s3_9) (fun sp on hA hon => ?_) (fun ops3_10 => ?_)
      · refine ⟨fun o ho vs Rs f' S' w hp hf hx hS hR hs => ?_⟩
        obtain rfl := Option.some.inj ho
        obtain ⟨hv9, hR9⟩ := (spe hA.2 hs3_9 (hp 9 (by kernel_rfl)))
        rw [hA.1, hs3_10]
        refine And.intro (fun a ha => (want_is (j := 9) (t := 13) (r := true) rfl rfl (by kernel_rfl) (((hf 9 13 (by kernel_rfl) rfl).trans hv9).trans (congrArg Value.bool (show (decide (t8 > (0 : Int))) = true from dec_t q11))) rfl a ha).trans hon.symm) (And.intro (fun _ => ?_) (fun h => by rw [hon] at h; cases h))
        have hF := fr_next (fr_next (rfl) ((hx 3 (by kernel_rfl)).trans (by kernel_rfl : (_ : Value) = .func (.func 33) #[] #[]))) (((hf 9 13 (by kernel_rfl) rfl).trans hv9).trans (congrArg Value.bool (show (decide (t8 > (0 : Int))) = true from dec_t q11)))
        refine ls_fr hF ?_
        refine ls_val (v := .func (.func 33) #[] #[]) rfl rfl (by kernel_rfl) (fun w => by kernel_rfl) ?_
        exact ls_fin s0 (.func (.func 33) #[] #[]) (congrArg (fun z => upd z 14 _) hF.symm) ⟨rfl, rfl⟩ (sub_nil _)
      obtain ⟨s3_11, hs3_11⟩ : ∃ z : Value → Sto → Prop, z = (fun v R => v = .pointer (some ⟨g1, (0 + 0), none⟩) ∧ R = s0) := ⟨_, rfl⟩
      refine have_op (l := [_, _, _, _, _, _, _, _, _, _, _, _, _, _, _, _, _, _, _]) pointer_Right.tab1 1 11 (fun sp => sp 11 = s3_11 ∧ sp 9 = s3_9) (fun sp on hA hon => ?_) (fun ops3_11 => ?_)
      · refine ⟨fun o ho vs Rs f' S' w hp hf hx hS hR hs => ?_⟩
        obtain rfl := Option.some.inj ho
        obtain ⟨hv9, hR9⟩ := (spe hA.2 hs3_9 (hp 9 (by kernel_rfl)))
        rw [hA.1, hs3_11]
        refine And.intro (fun a ha => (want_is (j := 9) (t := 13) (r := true) rfl rfl (by kernel_rfl) (((hf 9 13 (by kernel_rfl) rfl).trans hv9).trans (congrArg Value.bool (show (decide (t8 > (0 : Int))) = true from dec_t q11))) rfl a ha).trans hon.symm) (And.intro (fun _ => ?_) (fun h => by rw [hon] at h; cases h))
        have hF := fr_next (fr_next (rfl) ((hx 1 (by kernel_rfl)).trans (by kernel_rfl : (_ : Value) = .pointer (some ⟨g1, 0, none⟩)))) (((hf 9 13 (by kernel_rfl) rfl).trans hv9).trans (congrArg Value.bool (show (decide (t8 > (0 : Int))) = true from dec_t q11)))
        refine ls_fr hF ?_
        refine ls_val (v := .pointer (some ⟨g1, (0 + 0), none⟩)) rfl rfl (by kernel_rfl) (fun w => by kernel_rfl) ?_
        exact ls_fin s0 (.pointer (some ⟨g1, (0 + 0), none⟩)) (congrArg (fun z => upd z 15 _) hF.symm) ⟨rfl, rfl⟩ (sub_nil _)
      obtain ⟨s3_12, hs3_12⟩ : ∃ z : Value → Sto → Prop, z = (fun v R => v = .int .i64 a0.1 ∧ R = s0) := ⟨_, rfl⟩
      refine have_op (l := [_, _, _, _, _, _, _, _, _, _, _, _, _, _, _, _, _, _, _]) pointer_Right.tab1 1 12 (fun sp => sp 12 = s3_12 ∧ sp 9 = s3_9 ∧ sp 11 = s3_11) (fun sp on hA hon => ?_) (fun ops3_12 => ?_)
      · refine ⟨fun o ho vs Rs f' S' w hp hf hx hS hR hs => ?_⟩
        obtain rfl := Option.some.inj ho
        obtain ⟨hv9, hR9⟩ := (spe hA.2.1 hs3_9 (hp 9 (by kernel_rfl)))
        obtain ⟨hv11, hR11⟩ := (spe hA.2.2 hs3_11 (hp 11 (by kernel_rfl)))
        rw [hA.1, hs3_12]
        refine And.intro (fun a ha => (want_is (j := 9) (t := 13) (r := true) rfl rfl (by kernel_rfl) (((hf 9 13 (by kernel_rfl) rfl).trans hv9).trans (congrArg Value.bool (show (decide (t8 > (0 : Int))) = true from dec_t q11))) rfl a ha).trans hon.symm) (And.intro (fun _ => ?_) (fun h => by rw [hon] at h; cases h))
        have hF := fr_next (fr_next (rfl) (((hf 9 13 (by kernel_rfl) rfl).trans hv9).trans (congrArg Value.bool (show (decide (t8 > (0 : Int))) = true from dec_t q11)))) ((hf 11 15 (by kernel_rfl) rfl).trans hv11)
        refine ls_fr hF ?_
        refine ls_load (a0 := ⟨g1, (0 + 0), none⟩) (v := .int .i64 a0.1) (de := (TypeDesc.int .i64)) rfl rfl (by kernel_rfl) rfl (by kernel_rfl) (by kernel_rfl) (by kernel_rfl) (fun w1 hs1 => cell_step hs1.below.bw (hs.var (k := 0) ((hS 0 (by kernel_rfl)).trans (by exact rfl)) (Sub4.trans (Sub4.all _) (Sub4.head _ _)))) ?_
        exact ls_fin s0 (.int .i64 a0.1) (congrArg (fun z => upd z 16 _) hF.symm) ⟨rfl, rfl⟩ (sub_nil _)
      obtain ⟨s3_13, hs3_13⟩ : ∃ z : Value → Sto → Prop, z = (fun v R => v = .agg ⟨([Value.int .i64 a0.1] ++ ([Value.int .i64 a0.2.1] ++ ([Value.int .i64 a0.2.2.1] ++ ([Value.int .u32 a0.2.2.2.1] ++ en (Value.int .u8) a0.2.2.2.2.1))))⟩ ∧ R = s0) := ⟨_, rfl⟩
      refine have_op (l := [_, _, _, _, _, _, _, _, _, _, _, _, _, _, _, _, _, _, _]) pointer_Right.tab1 1 13 (fun sp => sp 13 = s3_13 ∧ sp 9 = s3_9) (fun sp on hA hon => ?_) (fun ops3_13 => ?_)
      · refine ⟨fun o ho vs Rs f' S' w hp hf hx hS hR hs => ?_⟩
        obtain rfl := Option.some.inj ho
        obtain ⟨hv9, hR9⟩ := (spe hA.2 hs3_9 (hp 9 (by kernel_rfl)))
        rw [hA.1, hs3_13]
        refine And.intro (fun a ha => (want_is (j := 9) (t := 13) (r := true) rfl rfl (by kernel_rfl) (((hf 9 13 (by kernel_rfl) rfl).trans hv9).trans (congrArg Value.bool (show (decide (t8 > (0 : Int))) = true from dec_t q11))) rfl a ha).trans hon.symm) (And.intro (fun _ => ?_) (fun h => by rw [hon] at h; cases h))
        have hF := fr_next (fr_next (rfl) ((hx 1 (by kernel_rfl)).trans (by kernel_rfl : (_ : Value) = .pointer (some ⟨g1, 0, none⟩)))) (((hf 9 13 (by kernel_rfl) rfl).trans hv9).trans (congrArg Value.bool (show (decide (t8 > (0 : Int))) = true from dec_t q11)))
        refine ls_fr hF ?_
        refine ls_loadagg (a := ⟨g1, 0, none⟩) (sub := ([Value.int .i64 a0.1] ++ ([Value.int .i64 a0.2.1] ++ ([Value.int .i64 a0.2.2.1] ++ ([Value.int .u32 a0.2.2.2.1] ++ en (Value.int .u8) a0.2.2.2.2.1))))) rfl rfl (by kernel_rfl) rfl (by kernel_rfl) (by kernel_rfl) (by kernel_rfl) (len_app (len1 _) (len_app (len1 _) (len_app (len1 _) (len_app (len1 _) (len_en _ a0.2.2.2.2))))) (fun w1 hs1 => Rd.step (hs.vars (k := 0) ((hS 0 (by kernel_rfl)).trans (by exact rfl)) (Sub4.all _)) hs1.below.bw) ?_
        exact ls_fin s0 (.agg ⟨([Value.int .i64 a0.1] ++ ([Value.int .i64 a0.2.1] ++ ([Value.int .i64 a0.2.2.1] ++ ([Value.int .u32 a0.2.2.2.1] ++ en (Value.int .u8) a0.2.2.2.2.1))))⟩) (congrArg (fun z => upd z 17 _) hF.symm) ⟨rfl, rfl⟩ (sub_nil _)
      obtain ⟨t12, hc13, H⟩ := bind_some H
      obtain ⟨s3_14, hs3_14⟩ : ∃ z : Value → Sto → Prop, z = (fun v R => ∃ x14 : Unit, v = .int .i64 t12 ∧ R = stl []) := ⟨_, rfl⟩
      refine have_op (l := [_, _, _, _, _, _, _, _, _, _, _, _, _, _, _, _, _, _, _]) pointer_Right.tab1 1 14 (fun sp => sp 14 = s3_14 ∧ sp 9 = s3_9 ∧ sp 13 = s3_13) (fun sp on hA hon => ?_) (fun ops3_14 => ?_)
      · refine ⟨fun o ho vs Rs f' S' w hp hf hx hS hR hs => ?_⟩
        obtain rfl := Option.some.inj ho
        obtain ⟨hv9, hR9⟩ := (spe hA.2.1 hs3_9 (hp 9 (by kernel_rfl)))
        obtain ⟨hv13, hR13⟩ := (spe hA.2.2 hs3_13 (hp 13 (by kernel_rfl)))
        rw [hA.1, hs3_14]
        refine And.intro (fun a ha => (want_is (j := 9) (t := 13) (r := true) rfl rfl (by kernel_rfl) (((hf 9 13 (by kernel_rfl) rfl).trans hv9).trans (congrArg Value.bool (show (decide (t8 > (0 : Int))) = true from dec_t q11))) rfl a ha).trans hon.symm) (And.intro (fun _ => ?_) (fun h => by rw [hon] at h; cases h))
        have hF := fr_next (fr_next (rfl) (((hf 9 13 (by kernel_rfl) rfl).trans hv9).trans (congrArg Value.bool (show (decide (t8 > (0 : Int))) = true from dec_t q11)))) ((hf 13 17 (by kernel_rfl) rfl).trans hv13)
        refine ls_fr hF ?_
        refine ls_call (fid := 16) (vals := #[.agg ⟨([Value.int .i64 a0.1] ++ ([Value.int .i64 a0.2.1] ++ ([Value.int .i64 a0.2.2.1] ++ ([Value.int .u32 a0.2.2.2.1] ++ en (Value.int .u8) a0.2.2.2.2.1))))⟩]) (X := Unit) (fun x => .int .i64 t12) (fun x => stl []) 0 rfl rfl (by kernel_rfl) (fun w => by kernel_rfl) (fun w1 hs1 => pointer_Sectors.calls k a0 t12 (bw w1) (St.refl w1)  hc13) ?_
        intro x14
        exact ls_fin (stl []) (.int .i64 t12) (congrArg (fun z => upd z 18 _) hF.symm) ⟨x14, rfl, rfl⟩ (sub_join _)
      obtain ⟨s3_15, hs3_15⟩ : ∃ z : Value → Sto → Prop, z = (fun v R => v = .int .i64 (IntKind.wrap .i64 ((8192 : Int) - t12)) ∧ R = s0) := ⟨_, rfl⟩
      refine have_op (l := [_, _, _, _, _, _, _, _, _, _, _, _, _, _, _, _, _, _, _]) pointer_Right.tab1 1 15 (fun sp => sp 15 = s3_15 ∧ sp 9 = s3_9 ∧ sp 14 = s3_14) (fun sp on hA hon => ?_) (fun ops3_15 => ?_)
      · refine ⟨fun o ho vs Rs f' S' w hp hf hx hS hR hs => ?_⟩
        obtain rfl := Option.some.inj ho
        obtain ⟨hv9, hR9⟩ := (spe hA.2.1 hs3_9 (hp 9 (by kernel_rfl)))
        obtain ⟨x14, hv14, hR14⟩ := (spe hA.2.2 hs3_14 (hp 14 (by kernel_rfl)))
        rw [hA.1, hs3_15]
        refine And.intro (fun a ha => (want_is (j := 9) (t := 13) (r := true) rfl rfl (by kernel_rfl) (((hf 9 13 (by kernel_rfl) rfl).trans hv9).trans (congrArg Value.bool (show (decide (t8 > (0 : Int))) = true from dec_t q11))) rfl a ha).trans hon.symm) (And.intro (fun _ => ?_) (fun h => by rw [hon] at h; cases h))
        have hF := fr_next (fr_next (rfl) (((hf 9 13 (by kernel_rfl) rfl).trans hv9).trans (congrArg Value.bool (show (decide (t8 > (0 : Int))) = true from dec_t q11)))) ((hf 14 18 (by kernel_rfl) rfl).trans hv14)
        refine ls_fr hF ?_
        refine ls_val (v := .int .i64 (IntKind.wrap .i64 ((8192 : Int) - t12))) rfl rfl (by kernel_rfl) (fun w => by kernel_rfl) ?_
        exact ls_fin s0 (.int .i64 (IntKind.wrap .i64 ((8192 : Int) - t12))) (congrArg (fun z => upd z 19 _) hF.symm) ⟨rfl, rfl⟩ (sub_nil _)
      refine cs_draw pointer_Right.tab1 16 1 (spl [s3_0, s3_1, s3_2, s3_3, s3_4, s3_5, s3_6, s3_7, s3_8, s3_9, s3_10, s3_11, s3_12, s3_13, s3_14, s3_15]) (onl [true, true, true, true, true, true, true, true, true, true, true, true, true, true, true, true]) (by kernel_rfl) (by kernel_rfl) (by kernel_rfl) (by kernel_rfl) (rs := [_, _, _]) rfl (by kernel_rfl) (by kernel_rfl) (all_snoc (all_snoc (all_snoc (all_snoc (all_snoc (all_snoc (all_snoc (all_snoc (all_snoc (all_snoc (all_snoc (all_snoc (all_snoc (all_snoc (all_snoc (all_snoc (all_nil) (ops3_0 _ _ rfl rfl)) (ops3_1 _ _ rfl rfl)) (ops3_2 _ _ ⟨rfl, rfl⟩ rfl)) (ops3_3 _ _ ⟨rfl, rfl, rfl⟩ rfl)) (ops3_4 _ _ ⟨rfl, rfl⟩ rfl)) (ops3_5 _ _ ⟨rfl, rfl⟩ rfl)) (ops3_6 _ _ ⟨rfl, rfl, rfl⟩ rfl)) (ops3_7 _ _ ⟨rfl, rfl, rfl⟩ rfl)) (ops3_8 _ _ ⟨rfl, rfl, rfl⟩ rfl)) (ops3_9 _ _ ⟨rfl, rfl⟩ rfl)) (ops3_10 _ _ ⟨rfl, rfl⟩ rfl)) (ops3_11 _ _ ⟨rfl, rfl⟩ rfl)) (ops3_12 _ _ ⟨rfl, rfl, rfl⟩ rfl)) (ops3_13 _ _ ⟨rfl, rfl⟩ rfl)) (ops3_14 _ _ ⟨rfl, rfl, rfl⟩ rfl)) (ops3_15 _ _ ⟨rfl, rfl, rfl⟩ rfl)) ?_
      intro vs Rs f' S' hp hf hx hS hR
      obtain ⟨x6, hv3, hR3⟩ := (spe rfl hs3_3 (hp 3 (by kernel_rfl)))
      obtain ⟨x10, hv6, hR6⟩ := (spe rfl hs3_6 (hp 6 (by kernel_rfl)))
      obtain ⟨hv9, hR9⟩ := (spe rfl hs3_9 (hp 9 (by kernel_rfl)))
      obtain ⟨hv10, hR10⟩ := (spe rfl hs3_10 (hp 10 (by kernel_rfl)))
      obtain ⟨hv12, hR12⟩ := (spe rfl hs3_12 (hp 12 (by kernel_rfl)))
      obtain ⟨x14, hv14, hR14⟩ := (spe rfl hs3_14 (hp 14 (by kernel_rfl)))
      obtain ⟨hv15, hR15⟩ := (spe rfl hs3_15 (hp 15 (by kernel_rfl)))
      refine ls_fr (F := upd (upd (upd (upd f' 13 (.bool (decide (t8 > (0 : Int))))) 14 (.func (.func 33) #[] #[])) 16 (.int .i64 a0.1)) 19 (.int .i64 (IntKind.wrap .i64 ((8192 : Int) - t12)))) (fr_next (fr_next (fr_next (fr_next (rfl) ((hf 9 13 (by kernel_rfl) rfl).trans hv9)) ((hf 10 14 (by kernel_rfl) rfl).trans hv10)) ((hf 12 16 (by kernel_rfl) rfl).trans hv12)) ((hf 15 19 (by kernel_rfl) rfl).trans hv15)) ?_
      refine ls_sub (s0) (sub_nil _) ?_
      refine ls_know (c := true) (dec_t q11) 13 (by kernel_rfl) ?_
      refine ls_on (j := 9) (t := 13) (b := true) rfl rfl (by kernel_rfl) (by kernel_rfl) ?_
      obtain ⟨t15, hc16, H⟩ := bind_some H
      refine ls_callb (fid := 33) (vals := #[.int .i64 a0.1, .int .i64 (2 : Int), .int .i64 (IntKind.wrap .i64 ((8192 : Int) - t12))]) (X := Unit) (fun x => .bool t15) (fun x => stl []) [] [] [] [] 129 rfl rfl (by kernel_rfl) (fun w => by kernel_rfl) trivial trivial (by decide) (fun w hs hb => pointer_Right_1.calls k a0.1 (2 : Int) (IntKind.wrap .i64 ((8192 : Int) - t12)) t15 (lent b w [] []) hb  hc16) ?_
      intro x17
      refine ls_val (v := .bool t15) rfl rfl (by kernel_rfl) (fun w => by kernel_rfl) ?_
      refine ls_val (v := .bool t15) rfl rfl (by kernel_rfl) (fun w => by kernel_rfl) ?_
      refine ls_end ?_
      refine qn_then ?_
      refine cs_ret' ?_
      obtain rfl := Option.some.inj H
      refine qr_res (rs := [_]) rfl (fun w' hs => ⟨[.bool t15], (res_tmp (by kernel_rfl) (.nil)), (), rfl, hs.pick (ts := []) (cs := []) trivial (by decide)⟩)
    · replace H := ite_f q11 H
      refine cs_draw pointer_Right.tab1 16 1 (spl [s3_0, s3_1, s3_2, s3_3, s3_4, s3_5, s3_6, s3_7, s3_8, s3_9, spu, spu, spu, spu, spu, spu]) (onl [true, true, true, true, true, true, true, true, true, true, false, false, false, false, false, false]) (by kernel_rfl) (by kernel_rfl) (by kernel_rfl) (by kernel_rfl) (rs := [_, _, _]) rfl (by kernel_rfl) (by kernel_rfl) (all_snoc (all_snoc (all_snoc (all_snoc (all_snoc (all_snoc (all_snoc (all_snoc (all_snoc (all_snoc (all_snoc (all_snoc (all_snoc (all_snoc (all_snoc (all_snoc (all_nil) (ops3_0 _ _ rfl rfl)) (ops3_1 _ _ rfl rfl)) (ops3_2 _ _ ⟨rfl, rfl⟩ rfl)) (ops3_3 _ _ ⟨rfl, rfl, rfl⟩ rfl)) (ops3_4 _ _ ⟨rfl, rfl⟩ rfl)) (ops3_5 _ _ ⟨rfl, rfl⟩ rfl)) (ops3_6 _ _ ⟨rfl, rfl, rfl⟩ rfl)) (ops3_7 _ _ ⟨rfl, rfl, rfl⟩ rfl)) (ops3_8 _ _ ⟨rfl, rfl, rfl⟩ rfl)) (ops3_9 _ _ ⟨rfl, rfl⟩ rfl)) (op_offi 10 9 13 true rfl rfl (by kernel_rfl) (by kernel_rfl) rfl (fun v R h => by rw [hs3_9] at h; obtain ⟨h, _⟩ := h; exact h.trans (congrArg Value.bool (show (decide (t8 > (0 : Int))) = false from dec_f q11))) rfl rfl)) (op_offi 11 9 13 true rfl rfl (by kernel_rfl) (by kernel_rfl) rfl (fun v R h => by rw [hs3_9] at h; obtain ⟨h, _⟩ := h; exact h.trans (congrArg Value.bool (show (decide (t8 > (0 : Int))) = false from dec_f q11))) rfl rfl)) (op_offi 12 9 13 true rfl rfl (by kernel_rfl) (by kernel_rfl) rfl (fun v R h => by rw [hs3_9] at h; obtain ⟨h, _⟩ := h; exact h.trans (congrArg Value.bool (show (decide (t8 > (0 : Int))) = false from dec_f q11))) rfl rfl)) (op_offi 13 9 13 true rfl rfl (by kernel_rfl) (by kernel_rfl) rfl (fun v R h => by rw [hs3_9] at h; obtain ⟨h, _⟩ := h; exact h.trans (congrArg Value.bool (show (decide (t8 > (0 : Int))) = false from dec_f q11))) rfl rfl)) (op_offi 14 9 13 true rfl rfl (by kernel_rfl) (by kernel_rfl) rfl (fun v R h => by rw [hs3_9] at h; obtain ⟨h, _⟩ := h; exact h.trans (congrArg Value.bool (show (decide (t8 > (0 : Int))) = false from dec_f q11))) rfl rfl)) (op_offi 15 9 13 true rfl rfl (by kernel_rfl) (by kernel_rfl) rfl (fun v R h => by rw [hs3_9] at h; obtain ⟨h, _⟩ := h; exact h.trans (congrArg Value.bool (show (decide (t8 > (0 : Int))) = false from dec_f q11))) rfl rfl)) ?_
      intro vs Rs f' S' hp hf hx hS hR
      obtain ⟨x6, hv3, hR3⟩ := (spe rfl hs3_3 (hp 3 (by kernel_rfl)))
      obtain ⟨x10, hv6, hR6⟩ := (spe rfl hs3_6 (hp 6 (by kernel_rfl)))
      obtain ⟨hv9, hR9⟩ := (spe rfl hs3_9 (hp 9 (by kernel_rfl)))
      obtain ⟨hv10, hR10⟩ := (spe rfl rfl (hp 10 (by kernel_rfl)) : spu _ _)
      obtain ⟨hv12, hR12⟩ := (spe rfl rfl (hp 12 (by kernel_rfl)) : spu _ _)
      obtain ⟨hv15, hR15⟩ := (spe rfl rfl (hp 15 (by kernel_rfl)) : spu _ _)
      refine ls_fr (F := upd f' 13 (.bool (decide (t8 > (0 : Int))))) (fr_next (rfl) ((hf 9 13 (by kernel_rfl) rfl).trans hv9)) ?_
      refine ls_sub (s0) (sub_nil _) ?_
      refine ls_know (c := false) (dec_f q11) 13 (by kernel_rfl) ?_
      refine ls_off (j := 9) (t := 13) (b := true) (c := false) rfl rfl (by kernel_rfl) (by kernel_rfl) rfl rfl (by kernel_rfl) ?_
      refine ls_val (v := .bool false) rfl rfl (by kernel_rfl) (fun w => by kernel_rfl) ?_
      refine ls_val (v := .bool false) rfl rfl (by kernel_rfl) (fun w => by kernel_rfl) ?_
      refine ls_end ?_
      refine qn_then ?_
      refine cs_ret' ?_
      obtain rfl := Option.some.inj H
      refine qr_res (rs := [_]) rfl (fun w' hs => ⟨[.bool false], (res_tmp (by kernel_rfl) (.nil)), (), rfl, hs.pick (ts := []) (cs := []) trivial (by decide)⟩)
  · replace H := ite_f q7 H
    obtain ⟨s3_8, hs3_8⟩ : ∃ z : Value → Sto → Prop, z = (fun v R => v = .bool false ∧ R = s0) := ⟨_, rfl⟩
    refine have_op (l := [_, _, _, _, _, _, _, _, _, _, _, _, _, _, _, _, _, _, _]) pointer_Right.tab1 1 8 (fun sp => sp 8 = s3_8 ∧ sp 4 = s3_4 ∧ sp 7 = spu) (fun sp on hA hon => ?_) (fun ops3_8 => ?_)
    · refine ⟨fun o ho vs Rs f' S' w hp hf hx hS hR hs => ?_⟩
      obtain rfl := Option.some.inj ho
      obtain ⟨hv4, hR4⟩ := (spe hA.2.1 hs3_4 (hp 4 (by kernel_rfl)))
      obtain ⟨hv7, hR7⟩ := (spe hA.2.2 rfl (hp 7 (by kernel_rfl)) : spu _ _)
      rw [hA.1, hs3_8]
      refine And.intro (fun a ha => (want_none rfl a ha).trans hon.symm) (And.intro (fun _ => ?_) (fun h => by rw [hon] at h; cases h))
      have hF := fr_next (fr_next (rfl) (((hf 4 8 (by kernel_rfl) rfl).trans hv4).trans (congrArg Value.bool (show t4 = false from Bool.eq_false_iff.mpr q7)))) ((hf 7 11 (by kernel_rfl) rfl).trans hv7)
      refine ls_fr hF ?_
      refine ls_val (v := .bool false) rfl rfl (by kernel_rfl) (fun w => by kernel_rfl) ?_
      exact ls_fin s0 (.bool false) (congrArg (fun z => upd z 12 _) hF.symm) ⟨rfl, rfl⟩ (sub_nil _)
    obtain ⟨s3_9, hs3_9⟩ : ∃ z : Value → Sto → Prop, z = (fun v R => v = .bool false ∧ R = s0) := ⟨_, rfl⟩
    refine have_op (l := [_, _, _, _, _, _, _, _, _, _, _, _, _, _, _, _, _, _, _]) pointer_Right.tab1 1 9 (fun sp => sp 9 = s3_9 ∧ sp 8 = s3_8) (fun sp on hA hon => ?_) (fun ops3_9 => ?_)
    · refine ⟨fun o ho vs Rs f' S' w hp hf hx hS hR hs => ?_⟩
      obtain rfl := Option.some.inj ho
      obtain ⟨hv8, hR8⟩ := (spe hA.2 hs3_8 (hp 8 (by kernel_rfl)))
      rw [hA.1, hs3_9]
      refine And.intro (fun a ha => (want_none rfl a ha).trans hon.symm) (And.intro (fun _ => ?_) (fun h => by rw [hon] at h; cases h))
      have hF := fr_next (rfl) ((hf 8 12 (by kernel_rfl) rfl).trans hv8)
      refine ls_fr hF ?_
      refine ls_val (v := .bool false) rfl rfl (by kernel_rfl) (fun w => by kernel_rfl) ?_
      exact ls_fin s0 (.bool false) (congrArg (fun z => upd z 13 _) hF.symm) ⟨rfl, rfl⟩ (sub_nil _)
    refine cs_draw pointer_Right.tab1 16 1 (spl [s3_0, s3_1, s3_2, s3_3, s3_4, spu, spu, spu, s3_8, s3_9, spu, spu, spu, spu, spu, spu]) (onl [true, true, true, true, true, false, false, false, true, true, false, false, false, false, false, false]) (by kernel_rfl) (by kernel_rfl) (by kernel_rfl) (by kernel_rfl) (rs := [_, _, _]) rfl (by kernel_rfl) (by kernel_rfl) (all_snoc (all_snoc (all_snoc (all_snoc (all_snoc (all_snoc (all_snoc (all_snoc (all_snoc (all_snoc (all_snoc (all_snoc (all_snoc (all_snoc (all_snoc (all_snoc (all_nil) (ops3_0 _ _ rfl rfl)) (ops3_1 _ _ rfl rfl)) (ops3_2 _ _ ⟨rfl, rfl⟩ rfl)) (ops3_3 _ _ ⟨rfl, rfl, rfl⟩ rfl)) (ops3_4 _ _ ⟨rfl, rfl⟩ rfl)) (op_offi 5 4 8 true rfl rfl (by kernel_rfl) (by kernel_rfl) rfl (fun v R h => by rw [hs3_4] at h; obtain ⟨h, _⟩ := h; exact h.trans (congrArg Value.bool (show t4 = false from Bool.eq_false_iff.mpr q7))) rfl rfl)) (op_offi 6 4 8 true rfl rfl (by kernel_rfl) (by kernel_rfl) rfl (fun v R h => by rw [hs3_4] at h; obtain ⟨h, _⟩ := h; exact h.trans (congrArg Value.bool (show t4 = false from Bool.eq_false_iff.mpr q7))) rfl rfl)) (op_offi 7 4 8 true rfl rfl (by kernel_rfl) (by kernel_rfl) rfl (fun v R h => by rw [hs3_4] at h; obtain ⟨h, _⟩ := h; exact h.trans (congrArg Value.bool (show t4 = false from Bool.eq_false_iff.mpr q7))) rfl rfl)) (ops3_8 _ _ ⟨rfl, rfl, rfl⟩ rfl)) (ops3_9 _ _ ⟨rfl, rfl⟩ rfl)) (op_offi 10 9 13 true rfl rfl (by kernel_rfl) (by kernel_rfl) rfl (fun v R h => by rw [hs3_9] at h; obtain ⟨h, _⟩ := h; exact h) rfl rfl)) (op_offi 11 9 13 true rfl rfl (by kernel_rfl) (by kernel_rfl) rfl (fun v R h => by rw [hs3_9] at h; obtain ⟨h, _⟩ := h; exact h) rfl rfl)) (op_offi 12 9 13 true rfl rfl (by kernel_rfl) (by kernel_rfl) rfl (fun v R h => by rw [hs3_9] at h; obtain ⟨h, _⟩ := h; exact h) rfl rfl)) (op_offi 13 9 13 true rfl rfl (by kernel_rfl) (by kernel_rfl) rfl (fun v R h => by rw [hs3_9] at h; obtain ⟨h, _⟩ := h; exact h) rfl rfl)) (op_offi 14 9 13 true rfl rfl (by kernel_rfl) (by kernel_rfl) rfl (fun v R h => by rw [hs3_9] at h; obtain ⟨h, _⟩ := h; exact h) rfl rfl)) (op_offi 15 9 13 true rfl rfl (by kernel_rfl) (by kernel_rfl) rfl (fun v R h => by rw [hs3_9] at h; obtain ⟨h, _⟩ := h; exact h) rfl rfl)) ?_
    intro vs Rs f' S' hp hf hx hS hR
    obtain ⟨x6, hv3, hR3⟩ := (spe rfl hs3_3 (hp 3 (by kernel_rfl)))
    obtain ⟨hv9, hR9⟩ := (spe rfl hs3_9 (hp 9 (by kernel_rfl)))
    obtain ⟨hv10, hR10⟩ := (spe rfl rfl (hp 10 (by kernel_rfl)) : spu _ _)
    obtain ⟨hv12, hR12⟩ := (spe rfl rfl (hp 12 (by kernel_rfl)) : spu _ _)
    obtain ⟨hv15, hR15⟩ := (spe rfl rfl (hp 15 (by kernel_rfl)) : spu _ _)
    refine ls_fr (F := upd f' 13 (.bool false)) (fr_next (rfl) ((hf 9 13 (by kernel_rfl) rfl).trans hv9)) ?_
    refine ls_sub (s0) (sub_nil _) ?_
    refine ls_off (j := 9) (t := 13) (b := true) (c := false) rfl rfl (by kernel_rfl) (by kernel_rfl) rfl rfl (by kernel_rfl) ?_
    refine ls_val (v := .bool false) rfl rfl (by kernel_rfl) (fun w => by kernel_rfl) ?_
    refine ls_val (v := .bool false) rfl rfl (by kernel_rfl) (fun w => by kernel_rfl) ?_
    refine ls_end ?_
    refine qn_then ?_
    refine cs_ret' ?_
    obtain rfl := Option.some.inj H
    refine qr_res (rs := [_]) rfl (fun w' hs => ⟨[.bool false], (res_tmp (by kernel_rfl) (.nil)), (), rfl, hs.pick (ts := []) (cs := []) trivial (by decide)⟩)

/-! ### shadowbox/pointer.Check: function 22 -/
def pointer_Check.tab5 : List (List Nat) := [[], [0], [], [2], [0, 1, 2, 3], [0, 1, 2, 3, 4], [0, 1, 2, 3, 4, 5], [0, 1, 2, 3, 4, 5], [0, 1, 2, 3, 4, 5, 7], [0, 1, 2, 3, 4, 5], [0, 1, 2, 3, 4, 5, 9], [0, 1, 2, 3, 4, 5], [0, 1, 2, 3, 4, 5, 7, 8, 9, 10, 11], [0, 1, 2, 3, 4, 5, 6, 7, 8, 9, 10, 11, 12], [0, 1, 2, 3, 4, 5, 6, 7, 8, 9, 10, 11, 12, 13], [0, 1, 2, 3, 4, 5, 6, 7, 8, 9, 10, 11, 12, 13, 14]]
def pointer_Check.f (k : Nat) (a0 : (Int × Int × Int × Int × (Vc Int 32))) (l1 : List Int) : Option (Int) :=
  (pointer_Right.f k a0).bind fun t2 => (if t2 = true then (if (l1.length : Int) = a0.2.2.1 then (pointer_Of.f k a0.1 a0.2.1 l1).bind fun t9 => (if ((a0.1 == t9.1) && ((a0.2.1 == t9.2.1) && ((a0.2.2.1 == t9.2.2.1) && ((a0.2.2.2.1 == t9.2.2.2.1) && (a0.2.2.2.2.1 == t9.2.2.2.2.1))))) = true then some (0 : Int) else some (12 : Int)) else some (12 : Int)) else some (2 : Int))
set_option maxRecDepth 100000 in
set_option maxHeartbeats 4000000 in
theorem pointer_Check.calls (k : Nat) (a0 : (Int × Int × Int × Int × (Vc Int 32))) (A1 : Option Addr) (c1 : Nat) (l1 : List Int) (r : Int) (b : Bs) (hs0 : St b (stl []) b.w) (R1 : Ro b A1 (em (Ec.int 5 .u8) l1)) (C1 : l1.length ≤ c1) (H : pointer_Check.f k a0 l1 = some r) :
    Calls Try.prog 22 #[.agg ⟨([Value.int .i64 a0.1] ++ ([Value.int .i64 a0.2.1] ++ ([Value.int .i64 a0.2.2.1] ++ ([Value.int .u32 a0.2.2.2.1] ++ en (Value.int .u8) a0.2.2.2.2.1))))⟩, .slice A1 l1.length c1] b.w fun e w' => ∃ x : Unit, e = .returned (.int .i64 r) ∧ St b (stl []) w' := by
  unfold pointer_Check.f at H
  refine enterb (n := 25) Try.func22 rfl (by kernel_rfl) (by kernel_rfl) hs0 ?_
  refine cs_sub (s0) (sub_nil _) ?_
  refine cs_seq ?_
  refine cs_region (l := [_, _]) ?_
  refine ls_new rfl rfl (by kernel_rfl) 0 (fun g => .pointer (some ⟨g, 0, none⟩)) (.cells ⟨([Value.int .i64 a0.1] ++ ([Value.int .i64 a0.2.1] ++ ([Value.int .i64 a0.2.2.1] ++ ([Value.int .u32 a0.2.2.2.1] ++ en (Value.int .u8) a0.2.2.2.2.1))))⟩ 25) (fun w => by kernel_rfl) ?_
  intro g1
  refine ls_val (v := .int .i64 (0 : Int)) rfl rfl (by kernel_rfl) (fun w => by kernel_rfl) ?_
  refine ls_end ?_
  refine qn_then ?_
  refine cs_seq ?_
  refine cs_block ?_
  refine cs_seq ?_
  refine cs_region (l := [_, _, _, _]) ?_
  refine ls_loadagg (a := ⟨g1, 0, none⟩) (sub := ([Value.int .i64 a0.1] ++ ([Value.int .i64 a0.2.1] ++ ([Value.int .i64 a0.2.2.1] ++ ([Value.int .u32 a0.2.2.2.1] ++ en (Value.int .u8) a0.2.2.2.2.1))))) rfl rfl (by kernel_rfl) rfl (by kernel_rfl) (by kernel_rfl) (by kernel_rfl) (len_app (len1 _) (len_app (len1 _) (len_app (len1 _) (len_app (len1 _) (len_en _ a0.2.2.2.2))))) (fun w hs => (hs.vars (k := 0) (by exact rfl) (Sub4.all _))) ?_
  obtain ⟨t2, hc3, H⟩ := bind_some H
  refine ls_callb (fid := 14) (vals := #[.agg ⟨([Value.int .i64 a0.1] ++ ([Value.int .i64 a0.2.1] ++ ([Value.int .i64 a0.2.2.1] ++ ([Value.int .u32 a0.2.2.2.1] ++ en (Value.int .u8) a0.2.2.2.2.1))))⟩]) (X := Unit) (fun x => .bool t2) (fun x => stl []) [] [] [] [] 1 rfl rfl (by kernel_rfl) (fun w => by kernel_rfl) trivial trivial (by decide) (fun w hs hb => pointer_Right.calls k a0 t2 (lent b w [] []) hb  hc3) ?_
  intro x4
  refine ls_val (v := .bool (!t2)) rfl rfl (by kernel_rfl) (fun w => by kernel_rfl) ?_
  refine ls_val (v := .bool (!t2)) rfl rfl (by kernel_rfl) (fun w => by kernel_rfl) ?_
  refine ls_end ?_
  refine qn_then ?_
  by_cases q5 : t2 = true
  · replace H := ite_t q5 H
    refine cs_know (c := false) (congrArg Bool.not (q5)) 5 (by kernel_rfl) ?_
    refine cs_false (by kernel_rfl) ?_
    refine cs_seq ?_
    obtain ⟨s7_0, hs7_0⟩ : ∃ z : Value → Sto → Prop, z = (fun v R => v = .slice A1 l1.length c1 ∧ R = s0) := ⟨_, rfl⟩
    refine have_op (l := [_, _, _, _, _, _, _, _, _, _, _, _, _, _, _, _]) pointer_Check.tab5 1 0 (fun sp => sp 0 = s7_0) (fun sp on hA hon => ?_) (fun ops7_0 => ?_)
    · refine ⟨fun o ho vs Rs f' S' w hp hf hx hS hR hs => ?_⟩
      obtain rfl := Option.some.inj ho
      rw [hA, hs7_0]
      refine And.intro (fun a ha => (want_none rfl a ha).trans hon.symm) (And.intro (fun _ => ?_) (fun h => by rw [hon] at h; cases h))
      have hF := fr_next (rfl) ((hx 1 (by kernel_rfl)).trans (by kernel_rfl : (_ : Value) = .slice A1 l1.length c1))
      refine ls_fr hF ?_
      refine ls_val (v := .slice A1 l1.length c1) rfl rfl (by kernel_rfl) (fun w => by kernel_rfl) ?_
      exact ls_fin s0 (.slice A1 l1.length c1) (congrArg (fun z => upd z 10 _) hF.symm) ⟨rfl, rfl⟩ (sub_nil _)
    obtain ⟨s7_1, hs7_1⟩ : ∃ z : Value → Sto → Prop, z = (fun v R => v = .int .i64 (l1.length : Int) ∧ R = s0) := ⟨_, rfl⟩
    refine have_op (l := [_, _, _, _, _, _, _, _, _, _, _, _, _, _, _, _]) pointer_Check.tab5 1 1 (fun sp => sp 1 = s7_1 ∧ sp 0 = s7_0) (fun sp on hA hon => ?_) (fun ops7_1 => ?_)
    · refine ⟨fun o ho vs Rs f' S' w hp hf hx hS hR hs => ?_⟩
      obtain rfl := Option.some.inj ho
      obtain ⟨hv0, hR0⟩ := (spe hA.2 hs7_0 (hp 0 (by kernel_rfl)))
      rw [hA.1, hs7_1]
      refine And.intro (fun a ha => (want_none rfl a ha).trans hon.symm) (And.intro (fun _ => ?_) (fun h => by rw [hon] at h; cases h))
      have hF := fr_next (rfl) ((hf 0 10 (by kernel_rfl) rfl).trans hv0)
      refine ls_fr hF ?_
      refine ls_val (v := .int .i64 (l1.length : Int)) rfl rfl (by kernel_rfl) (fun w => by kernel_rfl) ?_
      exact ls_fin s0 (.int .i64 (l1.length : Int)) (congrArg (fun z => upd z 11 _) hF.symm) ⟨rfl, rfl⟩ (sub_nil _)
    obtain ⟨s7_2, hs7_2⟩ : ∃ z : Value → Sto → Prop, z = (fun v R => v = .pointer (some ⟨g1, (0 + 2), none⟩) ∧ R = s0) := ⟨_, rfl⟩
    refine have_op (l := [_, _, _, _, _, _, _, _, _, _, _, _, _, _, _, _]) pointer_Check.tab5 1 2 (fun sp => sp 2 = s7_2) (fun sp on hA hon => ?_) (fun ops7_2 => ?_)
    · refine ⟨fun o ho vs Rs f' S' w hp hf hx hS hR hs => ?_⟩
      obtain rfl := Option.some.inj ho
      rw [hA, hs7_2]
      refine And.intro (fun a ha => (want_none rfl a ha).trans hon.symm) (And.intro (fun _ => ?_) (fun h => by rw [hon] at h; cases h))
      have hF := fr_next (rfl) ((hx 2 (by kernel_rfl)).trans (by kernel_rfl : (_ : Value) = .pointer (some ⟨g1, 0, none⟩)))
      refine ls_fr hF ?_
      refine ls_val (v := .pointer (some ⟨g1, (0 + 2), none⟩)) rfl rfl (by kernel_rfl) (fun w => by kernel_rfl) ?_
      exact ls_fin s0 (.pointer (some ⟨g1, (0 + 2), none⟩)) (congrArg (fun z => upd z 12 _) hF.symm) ⟨rfl, rfl⟩ (sub_nil _)
    obtain ⟨s7_3, hs7_3⟩ : ∃ z : Value → Sto → Prop, z = (fun v R => v = .int .i64 a0.2.2.1 ∧ R = s0) := ⟨_, rfl⟩
    refine have_op (l := [_, _, _, _, _, _, _, _, _, _, _, _, _, _, _, _]) pointer_Check.tab5 1 3 (fun sp => sp 3 = s7_3 ∧ sp 2 = s7_2) (fun sp on hA hon => ?_) (fun ops7_3 => ?_)
    · refine ⟨fun o ho vs Rs f' S' w hp hf hx hS hR hs => ?_⟩
      obtain rfl := Option.some.inj ho
      obtain ⟨hv2, hR2⟩ := (spe hA.2 hs7_2 (hp 2 (by kernel_rfl)))
      rw [hA.1, hs7_3]
      refine And.intro (fun a ha => (want_none rfl a ha).trans hon.symm) (And.intro (fun _ => ?_) (fun h => by rw [hon] at h; cases h))
      have hF := fr_next (rfl) ((hf 2 12 (by kernel_rfl) rfl).trans hv2)
      refine ls_fr hF ?_
      refine ls_load (a0 := ⟨g1, (0 + 2), none⟩) (v := .int .i64 a0.2.2.1) (de := (TypeDesc.int .i64)) rfl rfl (by kernel_rfl) rfl (by kernel_rfl) (by kernel_rfl) (by kernel_rfl) (fun w1 hs1 => cell_step hs1.below.bw (hs.var (k := 0) ((hS 0 (by kernel_rfl)).trans (by exact rfl)) (Sub4.trans (Sub4.all _) (Sub4.skip (n := 1) (len1 _) (Sub4.skip (n := 1) (len1 _) (Sub4.head _ _)))))) ?_
      exact ls_fin s0 (.int .i64 a0.2.2.1) (congrArg (fun z => upd z 13 _) hF.symm) ⟨rfl, rfl⟩ (sub_nil _)
    obtain ⟨s7_4, hs7_4⟩ : ∃ z : Value → Sto → Prop, z = (fun v R => v = .bool (!decide ((l1.length : Int) = a0.2.2.1)) ∧ R = s0) := ⟨_, rfl⟩
    refine have_op (l := [_, _, _, _, _, _, _, _, _, _, _, _, _, _, _, _]) pointer_Check.tab5 1 4 (fun sp => sp 4 = s7_4 ∧ sp 1 = s7_1 ∧ sp 3 = s7_3) (fun sp on hA hon => ?_) (fun ops7_4 => ?_)
    · refine ⟨fun o ho vs Rs f' S' w hp hf hx hS hR hs => ?_⟩
      obtain rfl := Option.some.inj ho
      obtain ⟨hv1, hR1⟩ := (spe hA.2.1 hs7_1 (hp 1 (by kernel_rfl)))
      obtain ⟨hv3, hR3⟩ := (spe hA.2.2 hs7_3 (hp 3 (by kernel_rfl)))
      rw [hA.1, hs7_4]
      refine And.intro (fun a ha => (want_none rfl a ha).trans hon.symm) (And.intro (fun _ => ?_) (fun h => by rw [hon] at h; cases h))
      have hF := fr_next (fr_next (rfl) ((hf 1 11 (by kernel_rfl) rfl).trans hv1)) ((hf 3 13 (by kernel_rfl) rfl).trans hv3)
      refine ls_fr hF ?_
      refine ls_val (v := .bool (!decide ((l1.length : Int) = a0.2.2.1))) rfl rfl (by kernel_rfl) (fun w => by kernel_rfl) ?_
      exact ls_fin s0 (.bool (!decide ((l1.length : Int) = a0.2.2.1))) (congrArg (fun z => upd z 14 _) hF.symm) ⟨rfl, rfl⟩ (sub_nil _)
    obtain ⟨s7_5, hs7_5⟩ : ∃ z : Value → Sto → Prop, z = (fun v R => v = .bool (!decide ((l1.length : Int) = a0.2.2.1)) ∧ R = s0) := ⟨_, rfl⟩
    refine have_op (l := [_, _, _, _, _, _, _, _, _, _, _, _, _, _, _, _]) pointer_Check.tab5 1 5 (fun sp => sp 5 = s7_5 ∧ sp 4 = s7_4) (fun sp on hA hon => ?_) (fun ops7_5 => ?_)
    · refine ⟨fun o ho vs Rs f' S' w hp hf hx hS hR hs => ?_⟩
      obtain rfl := Option.some.inj ho
      obtain ⟨hv4, hR4⟩ := (spe hA.2 hs7_4 (hp 4 (by kernel_rfl)))
      rw [hA.1, hs7_5]
      refine And.intro (fun a ha => (want_none rfl a ha).trans hon.symm) (And.intro (fun _ => ?_) (fun h => by rw [hon] at h; cases h))
      have hF := fr_next (rfl) ((hf 4 14 (by kernel_rfl) rfl).trans hv4)
      refine ls_fr hF ?_
      refine ls_val (v := .bool (!decide ((l1.length : Int) = a0.2.2.1))) rfl rfl (by kernel_rfl) (fun w => by kernel_rfl) ?_
      exact ls_fin s0 (.bool (!decide ((l1.length : Int) = a0.2.2.1))) (congrArg (fun z => upd z 15 _) hF.symm) ⟨rfl, rfl⟩ (sub_nil _)
    by_cases q8 : (l1.length : Int) = a0.2.2.1
    · replace H := ite_t q8 H
      obtain ⟨s7_6, hs7_6⟩ : ∃ z : Value → Sto → Prop, z = (fun v R => v = .agg ⟨([Value.int .i64 a0.1] ++ ([Value.int .i64 a0.2.1] ++ ([Value.int .i64 a0.2.2.1] ++ ([Value.int .u32 a0.2.2.2.1] ++ en (Value.int .u8) a0.2.2.2.2.1))))⟩ ∧ R = s0) := ⟨_, rfl⟩
      refine have_op (l := [_, _, _, _, _, _, _, _, _, _, _, _, _, _, _, _]) pointer_Check.tab5 1 6 (fun sp => sp 6 = s7_6 ∧ sp 5 = s7_5) (fun sp on hA hon => ?_) (fun ops7_6 => ?_)
      · refine ⟨fun o ho vs Rs f' S' w hp hf hx hS hR hs => ?_⟩
        obtain rfl := Option.some.inj ho
        obtain ⟨hv5, hR5⟩ := (spe hA.2 hs7_5 (hp 5 (by kernel_rfl)))
        rw [hA.1, hs7_6]
        refine And.intro (fun a ha => (want_is (j := 5) (t := 15) (r := true) rfl rfl (by kernel_rfl) (((hf 5 15 (by kernel_rfl) rfl).trans hv5).trans (congrArg Value.bool (show (!decide ((l1.length : Int) = a0.2.2.1)) = false from congrArg Bool.not (dec_t q8)))) rfl a ha).trans hon.symm) (And.intro (fun _ => ?_) (fun h => by rw [hon] at h; cases h))
        have hF := fr_next (fr_next (rfl) ((hx 2 (by kernel_rfl)).trans (by kernel_rfl : (_ : Value) = .pointer (some ⟨g1, 0, none⟩)))) (((hf 5 15 (by kernel_rfl) rfl).trans hv5).trans (congrArg Value.bool (show (!decide ((l1.length : Int) = a0.2.2.1)) = false from congrArg Bool.not (dec_t q8))))
        refine ls_fr hF ?_
        refine ls_loadagg (a := ⟨g1, 0, none⟩) (sub := ([Value.int .i64 a0.1] ++ ([Value.int .i64 a0.2.1] ++ ([Value.int .i64 a0.2.2.1] ++ ([Value.int .u32 a0.2.2.2.1] ++ en (Value.int .u8) a0.2.2.2.2.1))))) rfl rfl (by kernel_rfl) rfl (by kernel_rfl) (by kernel_rfl) (by kernel_rfl) (len_app (len1 _) (len_app (len1 _) (len_app (len1 _) (len_app (len1 _) (len_en _ a0.2.2.2.2))))) (fun w1 hs1 => Rd.step (hs.vars (k := 0) ((hS 0 (by kernel_rfl)).trans (by exact rfl)) (Sub4.all _)) hs1.below.bw) ?_
        exact ls_fin s0 (.agg ⟨([Value.int .i64 a0.1] ++ ([Value.int .i64 a0.2.1] ++ ([Value.int .i64 a0.2.2.1] ++ ([Value.int .u32 a0.2.2.2.1] ++ en (Value.int .u8) a0.2.2.2.2.1))))⟩) (congrArg (fun z => upd z 16 _) hF.symm) ⟨rfl, rfl⟩ (sub_nil _)
      obtain ⟨s7_7, hs7_7⟩ : ∃ z : Value → Sto → Prop, z = (fun v R => v = .pointer (some ⟨g1, (0 + 0), none⟩) ∧ R = s0) := ⟨_, rfl⟩
      refine have_op (l := [_, _, _, _, _, _, _, _, _, _, _, _, _, _, _, _]) pointer_Check.tab5 1 7 (fun sp => sp 7 = s7_7 ∧ sp 5 = s7_5) (fun sp on hA hon => ?_) (fun ops7_7 => ?_)
      · refine ⟨fun o ho vs Rs f' S' w hp hf hx hS hR hs => ?_⟩
        obtain rfl := Option.some.inj ho
        obtain ⟨hv5, hR5⟩ := (spe hA.2 hs7_5 (hp 5 (by kernel_rfl)))
        rw [hA.1, hs7_7]
        refine And.intro (fun a ha => (want_is (j := 5) (t := 15) (r := true) rfl rfl (by kernel_rfl) (((hf 5 15 (by kernel_rfl) rfl).trans hv5).trans (congrArg Value.bool (show (!decide ((l1.length : Int) = a0.2.2.1)) = false from congrArg Bool.not (dec_t q8)))) rfl a ha).trans hon.symm) (And.intro (fun _ => ?_) (fun h => by rw [hon] at h; cases h))
        have hF := fr_next (fr_next (rfl) ((hx 2 (by kernel_rfl)).trans (by kernel_rfl : (_ : Value) = .pointer (some ⟨g1, 0, none⟩)))) (((hf 5 15 (by kernel_rfl) rfl).trans hv5).trans (congrArg Value.bool (show (!decide ((l1.length : Int) = a0.2.2.1)) = false from congrArg Bool.not (dec_t q8))))
        refine ls_fr hF ?_
        refine ls_val (v := .pointer (some ⟨g1, (0 + 0), none⟩)) rfl rfl (by kernel_rfl) (fun w => by kernel_rfl) ?_
        exact ls_fin s0 (.pointer (some ⟨g1, (0 + 0), none⟩)) (congrArg (fun z => upd z 17 _) hF.symm) ⟨rfl, rfl⟩ (sub_nil _)
      obtain ⟨s7_8, hs7_8⟩ : ∃ z : Value → Sto → Prop, z = (fun v R => v = .int .i64 a0.1 ∧ R = s0) := ⟨_, rfl⟩
      refine have_op (l := [_, _, _, _, _, _, _, _, _, _, _, _, _, _, _, _]) pointer_Check.tab5 1 8 (fun sp => sp 8 = s7_8 ∧ sp 5 = s7_5 ∧ sp 7 = s7_7) (fun sp on hA hon => ?_) (fun ops7_8 => ?_)
      · refine ⟨fun o ho vs Rs f' S' w hp hf hx hS hR hs => ?_⟩
        obtain rfl := Option.some.inj ho
        obtain ⟨hv5, hR5⟩ := (spe hA.2.1 hs7_5 (hp 5 (by kernel_rfl)))
        obtain ⟨hv7, hR7⟩ := (spe hA.2.2 hs7_7 (hp 7 (by kernel_rfl)))
        rw [hA.1, hs7_8]
        refine And.intro (fun a ha => (want_is (j := 5) (t := 15) (r := true) rfl rfl (by kernel_rfl) (((hf 5 15 (by kernel_rfl) rfl).trans hv5).trans (congrArg Value.bool (show (!decide ((l1.length : Int) = a0.2.2.1)) = false from congrArg Bool.not (dec_t q8)))) rfl a ha).trans hon.symm) (And.intro (fun _ => ?_) (fun h => by rw [hon] at h; cases h))
        have hF := fr_next (fr_next (rfl) (((hf 5 15 (by kernel_rfl) rfl).trans hv5).trans (congrArg Value.bool (show (!decide ((l1.length : Int) = a0.2.2.1)) = false from congrArg Bool.not (dec_t q8))))) ((hf 7 17 (by kernel_rfl) rfl).trans hv7)
        refine ls_fr hF ?_
        refine ls_load (a0 := ⟨g1, (0 + 0), none⟩) (v := .int .i64 a0.1) (de := (TypeDesc.int .i64)) rfl rfl (by kernel_rfl) rfl (by kernel_rfl) (by kernel_rfl) (by kernel_rfl) (fun w1 hs1 => cell_step hs1.below.bw (hs.var (k := 0) ((hS 0 (by kernel_rfl)).trans (by exact rfl)) (Sub4.trans (Sub4.all _) (Sub4.head _ _)))) ?_
        exact ls_fin s0 (.int .i64 a0.1) (congrArg (fun z => upd z 18 _) hF.symm) ⟨rfl, rfl⟩ (sub_nil _)
      obtain ⟨s7_9, hs7_9⟩ : ∃ z : Value → Sto → Prop, z = (fun v R => v = .pointer (some ⟨g1, (0 + 1), none⟩) ∧ R = s0) := ⟨_, rfl⟩
      refine have_op (l := [_, _, _, _, _, _, _, _, _, _, _, _, _, _, _, _]) pointer_Check.tab5 1 9 (fun sp => sp 9 = s7_9 ∧ sp 5 = s7_5) (fun sp on hA hon => ?_) (fun ops7_9 => ?_)
      · refine ⟨fun o ho vs Rs f' S' w hp hf hx hS hR hs => ?_⟩
        obtain rfl := Option.some.inj ho
        obtain ⟨hv5, hR5⟩ := (spe hA.2 hs7_5 (hp 5 (by kernel_rfl)))
        rw [hA.1, hs7_9]
        refine And.intro (fun a ha => (want_is (j := 5) (t := 15) (r := true) rfl rfl (by kernel_rfl) (((hf 5 15 (by kernel_rfl) rfl).trans hv5).trans (congrArg Value.bool (show (!decide ((l1.length : Int) = a0.2.2.1)) = false from congrArg Bool.not (dec_t q8)))) rfl a ha).trans hon.symm) (And.intro (fun _ => ?_) (fun h => by rw [hon] at h; cases h))
        have hF := fr_next (fr_next (rfl) ((hx 2 (by kernel_rfl)).trans (by kernel_rfl : (_ : Value) = .pointer (some ⟨g1, 0, none⟩)))) (((hf 5 15 (by kernel_rfl) rfl).trans hv5).trans (congrArg Value.bool (show (!decide ((l1.length : Int) = a0.2.2.1)) = false from congrArg Bool.not (dec_t q8))))
        refine ls_fr hF ?_
        refine ls_val (v := .pointer (some ⟨g1, (0 + 1), none⟩)) rfl rfl (by kernel_rfl) (fun w => by kernel_rfl) ?_
        exact ls_fin s0 (.pointer (some ⟨g1, (0 + 1), none⟩)) (congrArg (fun z => upd z 19 _) hF.symm) ⟨rfl, rfl⟩ (sub_nil _)
      obtain ⟨s7_10, hs7_10⟩ : ∃ z : Value → Sto → Prop, z = (fun v R => v = .int .i64 a0.2.1 ∧ R = s0) := ⟨_, rfl⟩
      refine have_op (l := [_, _, _, _, _, _, _, _, _, _, _, _, _, _, _, _]) pointer_Check.tab5 1 10 (fun sp => sp 10 = s7_10 ∧ sp 5 = s7_5 ∧ sp 9 = s7_9) (fun sp on hA hon => ?_) (fun ops7_10 => ?_)
      · refine ⟨fun o ho vs Rs f' S' w hp hf hx hS hR hs => ?_⟩
        obtain rfl := Option.some.inj ho
        obtain ⟨hv5, hR5⟩ := (spe hA.2.1 hs7_5 (hp 5 (by kernel_rfl)))
        obtain ⟨hv9, hR9⟩ := (spe hA.2.2 hs7_9 (hp 9 (by kernel_rfl)))
        rw [hA.1, hs7_10]
        refine And.intro (fun a ha => (want_is (j := 5) (t := 15) (r := true) rfl rfl (by kernel_rfl) (((hf 5 15 (by kernel_rfl) rfl).trans hv5).trans (congrArg Value.bool (show (!decide ((l1.length : Int) = a0.2.2.1)) = false from congrArg Bool.not (dec_t q8)))) rfl a ha).trans hon.symm) (And.intro (fun _ => ?_) (fun h => by rw [hon] at h; cases h))
        have hF := fr_next (fr_next (rfl) (((hf 5 15 (by kernel_rfl) rfl).trans hv5).trans (congrArg Value.bool (show (!decide ((l1.length : Int) = a0.2.2.1)) = false from congrArg Bool.not (dec_t q8))))) ((hf 9 19 (by kernel_rfl) rfl).trans hv9)
        refine ls_fr hF ?_
        refine ls_load (a0 := ⟨g1, (0 + 1), none⟩) (v := .int .i64 a0.2.1) (de := (TypeDesc.int .i64)) rfl rfl (by kernel_rfl) rfl (by kernel_rfl) (by kernel_rfl) (by kernel_rfl) (fun w1 hs1 => cell_step hs1.below.bw (hs.var (k := 0) ((hS 0 (by kernel_rfl)).trans (by exact rfl)) (Sub4.trans (Sub4.all _) (Sub4.skip (n := 1) (len1 _) (Sub4.head _ _))))) ?_
        exact ls_fin s0 (.int .i64 a0.2.1) (congrArg (fun z => upd z 20 _) hF.symm) ⟨rfl, rfl⟩ (sub_nil _)
      obtain ⟨s7_11, hs7_11⟩ : ∃ z : Value → Sto → Prop, z = (fun v R => v = .slice A1 l1.length c1 ∧ R = s0) := ⟨_, rfl⟩
      refine have_op (l := [_, _, _, _, _, _, _, _, _, _, _, _, _, _, _, _]) pointer_Check.tab5 1 11 (fun sp => sp 11 = s7_11 ∧ sp 5 = s7_5) (fun sp on hA hon => ?_) (fun ops7_11 => ?_)
      · refine ⟨fun o ho vs Rs f' S' w hp hf hx hS hR hs => ?_⟩
        obtain rfl := Option.some.inj ho
        obtain ⟨hv5, hR5⟩ := (spe hA.2 hs7_5 (hp 5 (by kernel_rfl)))
        rw [hA.1, hs7_11]
        refine And.intro (fun a ha => (want_is (j := 5) (t := 15) (r := true) rfl rfl (by kernel_rfl) (((hf 5 15 (by kernel_rfl) rfl).trans hv5).trans (congrArg Value.bool (show (!decide ((l1.length : Int) = a0.2.2.1)) = false from congrArg Bool.not (dec_t q8)))) rfl a ha).trans hon.symm) (And.intro (fun _ => ?_) (fun h => by rw [hon] at h; cases h))
        have hF := fr_next (fr_next (rfl) ((hx 1 (by kernel_rfl)).trans (by kernel_rfl : (_ : Value) = .slice A1 l1.length c1))) (((hf 5 15 (by kernel_rfl) rfl).trans hv5).trans (congrArg Value.bool (show (!decide ((l1.length : Int) = a0.2.2.1)) = false from congrArg Bool.not (dec_t q8))))
        refine ls_fr hF ?_
        refine ls_val (v := .slice A1 l1.length c1) rfl rfl (by kernel_rfl) (fun w => by kernel_rfl) ?_
        exact ls_fin s0 (.slice A1 l1.length c1) (congrArg (fun z => upd z 21 _) hF.symm) ⟨rfl, rfl⟩ (sub_nil _)
      obtain ⟨t9, hc10, H⟩ := bind_some H
      obtain ⟨s7_12, hs7_12⟩ : ∃ z : Value → Sto → Prop, z = (fun v R => ∃ x11 : Unit, v = .agg ⟨([Value.int .i64 t9.1] ++ ([Value.int .i64 t9.2.1] ++ ([Value.int .i64 t9.2.2.1] ++ ([Value.int .u32 t9.2.2.2.1] ++ en (Value.int .u8) t9.2.2.2.2.1))))⟩ ∧ R = stl []) := ⟨_, rfl⟩
      refine have_op (l := [_, _, _, _, _, _, _, _, _, _, _, _, _, _, _, _]) pointer_Check.tab5 1 12 (fun sp => sp 12 = s7_12 ∧ sp 5 = s7_5 ∧ sp 8 = s7_8 ∧ sp 10 = s7_10 ∧ sp 11 = s7_11) (fun sp on hA hon => ?_) (fun ops7_12 => ?_)
      · refine ⟨fun o ho vs Rs f' S' w hp hf hx hS hR hs => ?_⟩
        obtain rfl := Option.some.inj ho
        obtain ⟨hv5, hR5⟩ := (spe hA.2.1 hs7_5 (hp 5 (by kernel_rfl)))
        obtain ⟨hv8, hR8⟩ := (spe hA.2.2.1 hs7_8 (hp 8 (by kernel_rfl)))
        obtain ⟨hv10, hR10⟩ := (spe hA.2.2.2.1 hs7_10 (hp 10 (by kernel_rfl)))
        obtain ⟨hv11, hR11⟩ := (spe hA.2.2.2.2 hs7_11 (hp 11 (by kernel_rfl)))
        rw [hA.1, hs7_12]
        refine And.intro (fun a ha => (want_is (j := 5) (t := 15) (r := true) rfl rfl (by kernel_rfl) (((hf 5 15 (by kernel_rfl) rfl).trans hv5).trans (congrArg Value.bool (show (!decide ((l1.length : Int) = a0.2.2.1)) = false from congrArg Bool.not (dec_t q8)))) rfl a ha).trans hon.symm) (And.intro (fun _ => ?_) (fun h => by rw [hon] at h; cases h))
        have hF := fr_next (fr_next (fr_next (fr_next (rfl) (((hf 5 15 (by kernel_rfl) rfl).trans hv5).trans (congrArg Value.bool (show (!decide ((l1.length : Int) = a0.2.2.1)) = false from congrArg Bool.not (dec_t q8))))) ((hf 8 18 (by kernel_rfl) rfl).trans hv8)) ((hf 10 20 (by kernel_rfl) rfl).trans hv10)) ((hf 11 21 (by kernel_rfl) rfl).trans hv11)
        refine ls_fr hF ?_
        refine ls_call (fid := 20) (vals := #[.int .i64 a0.1, .int .i64 a0.2.1, .slice A1 l1.length c1]) (X := Unit) (fun x => .agg ⟨([Value.int .i64 t9.1] ++ ([Value.int .i64 t9.2.1] ++ ([Value.int .i64 t9.2.2.1] ++ ([Value.int .u32 t9.2.2.2.1] ++ en (Value.int .u8) t9.2.2.2.2.1))))⟩) (fun x => stl []) 0 rfl rfl (by kernel_rfl) (fun w => by kernel_rfl) (fun w1 hs1 => pointer_Of.calls k a0.1 a0.2.1 A1 c1 l1 t9 (bw w1) (St.refl w1) (Rd.ro (Rd.step (hs.old R1) hs1.below.bw)) C1 hc10) ?_
        intro x11
        exact ls_fin (stl []) (.agg ⟨([Value.int .i64 t9.1] ++ ([Value.int .i64 t9.2.1] ++ ([Value.int .i64 t9.2.2.1] ++ ([Value.int .u32 t9.2.2.2.1] ++ en (Value.int .u8) t9.2.2.2.2.1))))⟩) (congrArg (fun z => upd z 22 _) hF.symm) ⟨x11, rfl, rfl⟩ (sub_join _)
      refine cs_draw pointer_Check.tab5 13 1 (spl [s7_0, s7_1, s7_2, s7_3, s7_4, s7_5, s7_6, s7_7, s7_8, s7_9, s7_10, s7_11, s7_12]) (onl [true, true, true, true, true, true, true, true, true, true, true, true, true]) (by kernel_rfl) (by kernel_rfl) (by kernel_rfl) (by kernel_rfl) (rs := [_, _, _]) rfl (by kernel_rfl) (by kernel_rfl) (all_snoc (all_snoc (all_snoc (all_snoc (all_snoc (all_snoc (all_snoc (all_snoc (all_snoc (all_snoc (all_snoc (all_snoc (all_snoc (all_nil) (ops7_0 _ _ rfl rfl)) (ops7_1 _ _ ⟨rfl, rfl⟩ rfl)) (ops7_2 _ _ rfl rfl)) (ops7_3 _ _ ⟨rfl, rfl⟩ rfl)) (ops7_4 _ _ ⟨rfl, rfl, rfl⟩ rfl)) (ops7_5 _ _ ⟨rfl, rfl⟩ rfl)) (ops7_6 _ _ ⟨rfl, rfl⟩ rfl)) (ops7_7 _ _ ⟨rfl, rfl⟩ rfl)) (ops7_8 _ _ ⟨rfl, rfl, rfl⟩ rfl)) (ops7_9 _ _ ⟨rfl, rfl⟩ rfl)) (ops7_10 _ _ ⟨rfl, rfl, rfl⟩ rfl)) (ops7_11 _ _ ⟨rfl, rfl⟩ rfl)) (ops7_12 _ _ ⟨rfl, rfl, rfl, rfl, rfl⟩ rfl)) ?_
      intro vs Rs f' S' hp hf hx hS hR
      obtain ⟨hv5, hR5⟩ := (spe rfl hs7_5 (hp 5 (by kernel_rfl)))
      obtain ⟨hv6, hR6⟩ := (spe rfl hs7_6 (hp 6 (by kernel_rfl)))
      obtain ⟨x11, hv12, hR12⟩ := (spe rfl hs7_12 (hp 12 (by kernel_rfl)))
      refine ls_fr (F := upd (upd (upd f' 15 (.bool (!decide ((l1.length : Int) = a0.2.2.1)))) 16 (.agg ⟨([Value.int .i64 a0.1] ++ ([Value.int .i64 a0.2.1] ++ ([Value.int .i64 a0.2.2.1] ++ ([Value.int .u32 a0.2.2.2.1] ++ en (Value.int .u8) a0.2.2.2.2.1))))⟩)) 22 (.agg ⟨([Value.int .i64 t9.1] ++ ([Value.int .i64 t9.2.1] ++ ([Value.int .i64 t9.2.2.1] ++ ([Value.int .u32 t9.2.2.2.1] ++ en (Value.int .u8) t9.2.2.2.2.1))))⟩)) (fr_next (fr_next (fr_next (rfl) ((hf 5 15 (by kernel_rfl) rfl).trans hv5)) ((hf 6 16 (by kernel_rfl) rfl).trans hv6)) ((hf 12 22 (by kernel_rfl) rfl).trans hv12)) ?_
      refine ls_sub (s0) (sub_nil _) ?_
      refine ls_know (c := false) (congrArg Bool.not (dec_t q8)) 15 (by kernel_rfl) ?_
      refine ls_on (j := 5) (t := 15) (b := false) rfl rfl (by kernel_rfl) (by kernel_rfl) ?_
      refine ls_neq (xs := ([Value.int .i64 a0.1] ++ ([Value.int .i64 a0.2.1] ++ ([Value.int .i64 a0.2.2.1] ++ ([Value.int .u32 a0.2.2.2.1] ++ en (Value.int .u8) a0.2.2.2.2.1))))) (ys := ([Value.int .i64 t9.1] ++ ([Value.int .i64 t9.2.1] ++ ([Value.int .i64 t9.2.2.1] ++ ([Value.int .u32 t9.2.2.2.1] ++ en (Value.int .u8) t9.2.2.2.2.1))))) (r := ((a0.1 == t9.1) && ((a0.2.1 == t9.2.1) && ((a0.2.2.1 == t9.2.2.1) && ((a0.2.2.2.1 == t9.2.2.2.1) && (a0.2.2.2.2.1 == t9.2.2.2.2.1)))))) rfl rfl (by kernel_rfl) rfl (by kernel_rfl) (by kernel_rfl) (by kernel_rfl) (eq_st (by kernel_rfl) (by kernel_rfl) (eqf_cons (ft := 3) (fo := 0) (by kernel_rfl) (part_one (by kernel_rfl) (Sub4.trans (Sub4.all _) (Sub4.head _ _))) (part_one (by kernel_rfl) (Sub4.trans (Sub4.all _) (Sub4.head _ _))) (eq_int (by kernel_rfl) _ _ _) (eqf_cons (ft := 3) (fo := 1) (by kernel_rfl) (part_one (by kernel_rfl) (Sub4.trans (Sub4.all _) (Sub4.skip (n := 1) (len1 _) (Sub4.head _ _)))) (part_one (by kernel_rfl) (Sub4.trans (Sub4.all _) (Sub4.skip (n := 1) (len1 _) (Sub4.head _ _)))) (eq_int (by kernel_rfl) _ _ _) (eqf_cons (ft := 3) (fo := 2) (by kernel_rfl) (part_one (by kernel_rfl) (Sub4.trans (Sub4.all _) (Sub4.skip (n := 1) (len1 _) (Sub4.skip (n := 1) (len1 _) (Sub4.head _ _))))) (part_one (by kernel_rfl) (Sub4.trans (Sub4.all _) (Sub4.skip (n := 1) (len1 _) (Sub4.skip (n := 1) (len1 _) (Sub4.head _ _))))) (eq_int (by kernel_rfl) _ _ _) (eqf_cons (ft := 22) (fo := 3) (by kernel_rfl) (part_one (by kernel_rfl) (Sub4.trans (Sub4.all _) (Sub4.skip (n := 1) (len1 _) (Sub4.skip (n := 1) (len1 _) (Sub4.skip (n := 1) (len1 _) (Sub4.head _ _)))))) (part_one (by kernel_rfl) (Sub4.trans (Sub4.all _) (Sub4.skip (n := 1) (len1 _) (Sub4.skip (n := 1) (len1 _) (Sub4.skip (n := 1) (len1 _) (Sub4.head _ _)))))) (eq_int (by kernel_rfl) _ _ _) (eqf_last (ft := 23) (fo := 4) (by kernel_rfl) (part_agg (by kernel_rfl) (by kernel_rfl) (len_en _ a0.2.2.2.2) (Sub4.trans (Sub4.all _) (Sub4.skip (n := 1) (len1 _) (Sub4.skip (n := 1) (len1 _) (Sub4.skip (n := 1) (len1 _) (Sub4.skip (n := 1) (len1 _) (Sub4.all _))))))) (part_agg (by kernel_rfl) (by kernel_rfl) (len_en _ t9.2.2.2.2) (Sub4.trans (Sub4.all _) (Sub4.skip (n := 1) (len1 _) (Sub4.skip (n := 1) (len1 _) (Sub4.skip (n := 1) (len1 _) (Sub4.skip (n := 1) (len1 _) (Sub4.all _))))))) (eq_ints (e := 5) (ln := 32) (by kernel_rfl) (by kernel_rfl) (by kernel_rfl) a0.2.2.2.2.2 t9.2.2.2.2.2 _) (by kernel_rfl))))))) ?_
      refine ls_val (v := .bool (!((a0.1 == t9.1) && ((a0.2.1 == t9.2.1) && ((a0.2.2.1 == t9.2.2.1) && ((a0.2.2.2.1 == t9.2.2.2.1) && (a0.2.2.2.2.1 == t9.2.2.2.2.1))))))) rfl rfl (by kernel_rfl) (fun w => by kernel_rfl) ?_
      refine ls_val (v := .bool (!((a0.1 == t9.1) && ((a0.2.1 == t9.2.1) && ((a0.2.2.1 == t9.2.2.1) && ((a0.2.2.2.1 == t9.2.2.2.1) && (a0.2.2.2.2.1 == t9.2.2.2.2.1))))))) rfl rfl (by kernel_rfl) (fun w => by kernel_rfl) ?_
      refine ls_end ?_
      refine qn_then ?_
      by_cases q12 : ((a0.1 == t9.1) && ((a0.2.1 == t9.2.1) && ((a0.2.2.1 == t9.2.2.1) && ((a0.2.2.2.1 == t9.2.2.2.1) && (a0.2.2.2.2.1 == t9.2.2.2.2.1))))) = true
      · replace H := ite_t q12 H
        refine cs_know (c := false) (congrArg Bool.not (q12)) 9 (by kernel_rfl) ?_
        refine cs_false (by kernel_rfl) ?_
        refine cs_skip' ?_
        refine qn_block ?_
        refine qn_then ?_
        refine cs_seq ?_
        refine cs_region (l := [_]) ?_
        refine ls_val (v := .int .i64 (0 : Int)) rfl rfl (by kernel_rfl) (fun w => by kernel_rfl) ?_
        refine ls_end ?_
        refine qn_then ?_
        refine cs_ret' ?_
        obtain rfl := Option.some.inj H
        refine qr_res (rs := [_]) rfl (fun w' hs => ⟨[.int .i64 (0 : Int)], (res_tmp (by kernel_rfl) (.nil)), (), rfl, hs.pick (ts := []) (cs := []) trivial (by decide)⟩)
      · replace H := ite_f q12 H
        refine cs_know (c := true) (congrArg Bool.not (Bool.eq_false_iff.mpr q12)) 9 (by kernel_rfl) ?_
        refine cs_true (by kernel_rfl) ?_
        refine cs_seq ?_
        refine cs_region (l := [_]) ?_
        refine ls_val (v := .int .i64 (12 : Int)) rfl rfl (by kernel_rfl) (fun w => by kernel_rfl) ?_
        refine ls_end ?_
        refine qn_then ?_
        refine cs_ret' ?_
        refine qr_block ?_
        refine qr_then ?_
        obtain rfl := Option.some.inj H
        refine qr_res (rs := [_]) rfl (fun w' hs => ⟨[.int .i64 (12 : Int)], (res_tmp (by kernel_rfl) (.nil)), (), rfl, hs.pick (ts := []) (cs := []) trivial (by decide)⟩)
    · replace H := ite_f q8 H
      refine cs_draw pointer_Check.tab5 13 1 (spl [s7_0, s7_1, s7_2, s7_3, s7_4, s7_5, spu, spu, spu, spu, spu, spu, spu]) (onl [true, true, true, true, true, true, false, false, false, false, false, false, false]) (by kernel_rfl) (by kernel_rfl) (by kernel_rfl) (by kernel_rfl) (rs := [_, _, _]) rfl (by kernel_rfl) (by kernel_rfl) (all_snoc (all_snoc (all_snoc (all_snoc (all_snoc (all_snoc (all_snoc (all_snoc (all_snoc (all_snoc (all_snoc (all_snoc (all_snoc (all_nil) (ops7_0 _ _ rfl rfl)) (ops7_1 _ _ ⟨rfl, rfl⟩ rfl)) (ops7_2 _ _ rfl rfl)) (ops7_3 _ _ ⟨rfl, rfl⟩ rfl)) (ops7_4 _ _ ⟨rfl, rfl, rfl⟩ rfl)) (ops7_5 _ _ ⟨rfl, rfl⟩ rfl)) (op_offi 6 5 15 false rfl rfl (by kernel_rfl) (by kernel_rfl) rfl (fun v R h => by rw [hs7_5] at h; obtain ⟨h, _⟩ := h; exact h.trans (congrArg Value.bool (show (!decide ((l1.length : Int) = a0.2.2.1)) = true from congrArg Bool.not (dec_f q8)))) rfl rfl)) (op_offi 7 5 15 false rfl rfl (by kernel_rfl) (by kernel_rfl) rfl (fun v R h => by rw [hs7_5] at h; obtain ⟨h, _⟩ := h; exact h.trans (congrArg Value.bool (show (!decide ((l1.length : Int) = a0.2.2.1)) = true from congrArg Bool.not (dec_f q8)))) rfl rfl)) (op_offi 8 5 15 false rfl rfl (by kernel_rfl) (by kernel_rfl) rfl (fun v R h => by rw [hs7_5] at h; obtain ⟨h, _⟩ := h; exact h.trans (congrArg Value.bool (show (!decide ((l1.length : Int) = a0.2.2.1)) = true from congrArg Bool.not (dec_f q8)))) rfl rfl)) (op_offi 9 5 15 false rfl rfl (by kernel_rfl) (by kernel_rfl) rfl (fun v R h => by rw [hs7_5] at h; obtain ⟨h, _⟩ := h; exact h.trans (congrArg Value.bool (show (!decide ((l1.length : Int) = a0.2.2.1)) = true from congrArg Bool.not (dec_f q8)))) rfl rfl)) (op_offi 10 5 15 false rfl rfl (by kernel_rfl) (by kernel_rfl) rfl (fun v R h => by rw [hs7_5] at h; obtain ⟨h, _⟩ := h; exact h.trans (congrArg Value.bool (show (!decide ((l1.length : Int) = a0.2.2.1)) = true from congrArg Bool.not (dec_f q8)))) rfl rfl)) (op_offi 11 5 15 false rfl rfl (by kernel_rfl) (by kernel_rfl) rfl (fun v R h => by rw [hs7_5] at h; obtain ⟨h, _⟩ := h; exact h.trans (congrArg Value.bool (show (!decide ((l1.length : Int) = a0.2.2.1)) = true from congrArg Bool.not (dec_f q8)))) rfl rfl)) (op_offi 12 5 15 false rfl rfl (by kernel_rfl) (by kernel_rfl) rfl (fun v R h => by rw [hs7_5] at h; obtain ⟨h, _⟩ := h; exact h.trans (congrArg Value.bool (show (!decide ((l1.length : Int) = a0.2.2.1)) = true from congrArg Bool.not (dec_f q8)))) rfl rfl)) ?_
      intro vs Rs f' S' hp hf hx hS hR
      obtain ⟨hv5, hR5⟩ := (spe rfl hs7_5 (hp 5 (by kernel_rfl)))
      obtain ⟨hv6, hR6⟩ := (spe rfl rfl (hp 6 (by kernel_rfl)) : spu _ _)
      obtain ⟨hv12, hR12⟩ := (spe rfl rfl (hp 12 (by kernel_rfl)) : spu _ _)
      refine ls_fr (F := upd f' 15 (.bool (!decide ((l1.length : Int) = a0.2.2.1)))) (fr_next (rfl) ((hf 5 15 (by kernel_rfl) rfl).trans hv5)) ?_
      refine ls_sub (s0) (sub_nil _) ?_
      refine ls_know (c := true) (congrArg Bool.not (dec_f q8)) 15 (by kernel_rfl) ?_
      refine ls_off (j := 5) (t := 15) (b := false) (c := true) rfl rfl (by kernel_rfl) (by kernel_rfl) rfl rfl (by kernel_rfl) ?_
      refine ls_val (v := .bool true) rfl rfl (by kernel_rfl) (fun w => by kernel_rfl) ?_
      refine ls_val (v := .bool true) rfl rfl (by kernel_rfl) (fun w => by kernel_rfl) ?_
      refine ls_end ?_
      refine qn_then ?_
      refine cs_true (by kernel_rfl) ?_
      refine cs_seq ?_
      refine cs_region (l := [_]) ?_
      refine ls_val (v := .int .i64 (12 : Int)) rfl rfl (by kernel_rfl) (fun w => by kernel_rfl) ?_
      refine ls_end ?_
      refine qn_then ?_
      refine cs_ret' ?_
      refine qr_block ?_
      refine qr_then ?_
      obtain rfl := Option.some.inj H
      refine qr_res (rs := [_]) rfl (fun w' hs => ⟨[.int .i64 (12 : Int)], (res_tmp (by kernel_rfl) (.nil)), (), rfl, hs.pick (ts := []) (cs := []) trivial (by decide)⟩)
  · replace H := ite_f q5 H
    refine cs_know (c := true) (congrArg Bool.not (Bool.eq_false_iff.mpr q5)) 5 (by kernel_rfl) ?_
    refine cs_true (by kernel_rfl) ?_
    refine cs_seq ?_
    refine cs_region (l := [_]) ?_
    refine ls_val (v := .int .i64 (2 : Int)) rfl rfl (by kernel_rfl) (fun w => by kernel_rfl) ?_
    refine ls_end ?_
    refine qn_then ?_
    refine cs_ret' ?_
    refine qr_block ?_
    refine qr_then ?_
    obtain rfl := Option.some.inj H
    refine qr_res (rs := [_]) rfl (fun w' hs => ⟨[.int .i64 (2 : Int)], (res_tmp (by kernel_rfl) (.nil)), (), rfl, hs.pick (ts := []) (cs := []) trivial (by decide)⟩)

/-! ### shadowbox/shadowboxref06.Sectors: function 17 -/
def shadowboxref06_Sectors.f (k : Nat) (a0 : (Int × Int × Int × Int × (Vc Int 32))) : Option (Int) :=
  (if a0.2.2.1 < (1 : Int) then some (0 : Int) else (if a0.2.2.1 > (65536 : Int) then some (0 : Int) else lt (IntKind.wrap .i64 (a0.2.2.1 + (511 : Int))) fun y4 => lt (IntKind.wrap .i64 (Int.tdiv y4 (512 : Int))) fun y6 => some y6))
set_option maxRecDepth 100000 in
set_option maxHeartbeats 4000000 in
theorem shadowboxref06_Sectors.calls (k : Nat) (a0 : (Int × Int × Int × Int × (Vc Int 32))) (r : Int) (b : Bs) (hs0 : St b (stl []) b.w) (H : shadowboxref06_Sectors.f k a0 = some r) :
    Calls Try.prog 17 #[.agg ⟨([Value.int .i64 a0.1] ++ ([Value.int .i64 a0.2.1] ++ ([Value.int .i64 a0.2.2.1] ++ ([Value.int .u32 a0.2.2.2.1] ++ en (Value.int .u8) a0.2.2.2.2.1))))⟩] b.w fun e w' => ∃ x : Unit, e = .returned (.int .i64 r) ∧ St b (stl []) w' := by
  unfold shadowboxref06_Sectors.f at H
  refine enterb (n := 15) Try.func17 rfl (by kernel_rfl) (by kernel_rfl) hs0 ?_
  refine cs_sub (s0) (sub_nil _) ?_
  refine cs_seq ?_
  refine cs_region (l := [_, _]) ?_
  refine ls_new rfl rfl (by kernel_rfl) 0 (fun g => .pointer (some ⟨g, 0, none⟩)) (.cells ⟨([Value.int .i64 a0.1] ++ ([Value.int .i64 a0.2.1] ++ ([Value.int .i64 a0.2.2.1] ++ ([Value.int .u32 a0.2.2.2.1] ++ en (Value.int .u8) a0.2.2.2.2.1))))⟩ 25) (fun w => by kernel_rfl) ?_
  intro g1
  refine ls_val (v := .int .i64 (0 : Int)) rfl rfl (by kernel_rfl) (fun w => by kernel_rfl) ?_
  refine ls_end ?_
  refine qn_then ?_
  refine cs_seq ?_
  refine cs_seq ?_
  refine cs_region (l := [_, _, _, _, _, _, _, _]) ?_
  refine ls_val (v := .pointer (some ⟨g1, (0 + 2), none⟩)) rfl rfl (by kernel_rfl) (fun w => by kernel_rfl) ?_
  refine ls_load (a0 := ⟨g1, (0 + 2), none⟩) (v := .int .i64 a0.2.2.1) (de := (TypeDesc.int .i64)) rfl rfl (by kernel_rfl) rfl (by kernel_rfl) (by kernel_rfl) (by kernel_rfl) (fun w hs => (hs.var (k := 0) (by exact rfl) (Sub4.trans (Sub4.all _) (Sub4.skip (n := 1) (len1 _) (Sub4.skip (n := 1) (len1 _) (Sub4.head _ _)))))) ?_
  refine ls_val (v := .bool (decide (a0.2.2.1 < (1 : Int)))) rfl rfl (by kernel_rfl) (fun w => by kernel_rfl) ?_
  refine ls_val (v := .bool (decide (a0.2.2.1 < (1 : Int)))) rfl rfl (by kernel_rfl) (fun w => by kernel_rfl) ?_
  by_cases q2 : a0.2.2.1 < (1 : Int)
  · replace H := ite_t q2 H
    refine ls_know (c := true) (dec_t q2) 6 (by kernel_rfl) ?_
    refine ls_off (j := 3) (t := 6) (b := false) (c := true) rfl rfl (by kernel_rfl) (by kernel_rfl) rfl rfl (by kernel_rfl) ?_
    refine ls_off (j := 3) (t := 6) (b := false) (c := true) rfl rfl (by kernel_rfl) (by kernel_rfl) rfl rfl (by kernel_rfl) ?_
    refine ls_off (j := 3) (t := 6) (b := false) (c := true) rfl rfl (by kernel_rfl) (by kernel_rfl) rfl rfl (by kernel_rfl) ?_
    refine ls_val (v := .bool true) rfl rfl (by kernel_rfl) (fun w => by kernel_rfl) ?_
    refine ls_end ?_
    refine qn_then ?_
    refine cs_true (by kernel_rfl) ?_
    refine cs_seq ?_
    refine cs_region (l := [_]) ?_
    refine ls_val (v := .int .i64 (0 : Int)) rfl rfl (by kernel_rfl) (fun w => by kernel_rfl) ?_
    refine ls_end ?_
    refine qn_then ?_
    refine cs_ret' ?_
    refine qr_then ?_
    obtain rfl := Option.some.inj H
    refine qr_res (rs := [_]) rfl (fun w' hs => ⟨[.int .i64 (0 : Int)], (res_tmp (by kernel_rfl) (.nil)), (), rfl, hs.pick (ts := []) (cs := []) trivial (by decide)⟩)
  · replace H := ite_f q2 H
    refine ls_know (c := false) (dec_f q2) 6 (by kernel_rfl) ?_
    refine ls_on (j := 3) (t := 6) (b := false) rfl rfl (by kernel_rfl) (by kernel_rfl) ?_
    refine ls_val (v := .pointer (some ⟨g1, (0 + 2), none⟩)) rfl rfl (by kernel_rfl) (fun w => by kernel_rfl) ?_
    refine ls_on (j := 3) (t := 6) (b := false) rfl rfl (by kernel_rfl) (by kernel_rfl) ?_
    refine ls_load (a0 := ⟨g1, (0 + 2), none⟩) (v := .int .i64 a0.2.2.1) (de := (TypeDesc.int .i64)) rfl rfl (by kernel_rfl) rfl (by kernel_rfl) (by kernel_rfl) (by kernel_rfl) (fun w hs => (hs.var (k := 0) (by exact rfl) (Sub4.trans (Sub4.all _) (Sub4.skip (n := 1) (len1 _) (Sub4.skip (n := 1) (len1 _) (Sub4.head _ _)))))) ?_
    refine ls_on (j := 3) (t := 6) (b := false) rfl rfl (by kernel_rfl) (by kernel_rfl) ?_
    refine ls_val (v := .bool (decide (a0.2.2.1 > (65536 : Int)))) rfl rfl (by kernel_rfl) (fun w => by kernel_rfl) ?_
    refine ls_val (v := .bool (decide (a0.2.2.1 > (65536 : Int)))) rfl rfl (by kernel_rfl) (fun w => by kernel_rfl) ?_
    refine ls_end ?_
    refine qn_then ?_
    by_cases q3 : a0.2.2.1 > (65536 : Int)
    · replace H := ite_t q3 H
      refine cs_know (c := true) (dec_t q3) 10 (by kernel_rfl) ?_
      refine cs_true (by kernel_rfl) ?_
      refine cs_seq ?_
      refine cs_region (l := [_]) ?_
      refine ls_val (v := .int .i64 (0 : Int)) rfl rfl (by kernel_rfl) (fun w => by kernel_rfl) ?_
      refine ls_end ?_
      refine qn_then ?_
      refine cs_ret' ?_
      refine qr_then ?_
      obtain rfl := Option.some.inj H
      refine qr_res (rs := [_]) rfl (fun w' hs => ⟨[.int .i64 (0 : Int)], (res_tmp (by kernel_rfl) (.nil)), (), rfl, hs.pick (ts := []) (cs := []) trivial (by decide)⟩)
    · replace H := ite_f q3 H
      refine cs_know (c := false) (dec_f q3) 10 (by kernel_rfl) ?_
      refine cs_false (by kernel_rfl) ?_
      refine cs_skip' ?_
      refine qn_then ?_
      refine cs_seq ?_
      refine cs_region (l := [_, _, _, _, _]) ?_
      refine ls_val (v := .pointer (some ⟨g1, (0 + 2), none⟩)) rfl rfl (by kernel_rfl) (fun w => by kernel_rfl) ?_
      refine ls_load (a0 := ⟨g1, (0 + 2), none⟩) (v := .int .i64 a0.2.2.1) (de := (TypeDesc.int .i64)) rfl rfl (by kernel_rfl) rfl (by kernel_rfl) (by kernel_rfl) (by kernel_rfl) (fun w hs => (hs.var (k := 0) (by exact rfl) (Sub4.trans (Sub4.all _) (Sub4.skip (n := 1) (len1 _) (Sub4.skip (n := 1) (len1 _) (Sub4.head _ _)))))) ?_
      obtain ⟨y4, hy5, H⟩ := lt_some H
      refine ls_val (v := .int .i64 (IntKind.wrap .i64 (a0.2.2.1 + (511 : Int)))) rfl rfl (by kernel_rfl) (fun w => by kernel_rfl) ?_
      refine ls_ren 13 (v := .int .i64 (IntKind.wrap .i64 (a0.2.2.1 + (511 : Int)))) (v' := .int .i64 y4) (by kernel_rfl) (by rw [hy5]) ?_
      obtain ⟨y6, hy7, H⟩ := lt_some H
      refine ls_val (v := .int .i64 (IntKind.wrap .i64 (Int.tdiv y4 (512 : Int)))) rfl rfl (by kernel_rfl) (fun w => by kernel_rfl) ?_
      refine ls_ren 14 (v := .int .i64 (IntKind.wrap .i64 (Int.tdiv y4 (512 : Int)))) (v' := .int .i64 y6) (by kernel_rfl) (by rw [hy7]) ?_
      refine ls_val (v := .int .i64 y6) rfl rfl (by kernel_rfl) (fun w => by kernel_rfl) ?_
      refine ls_end ?_
      refine qn_then ?_
      refine cs_ret' ?_
      obtain rfl := Option.some.inj H
      refine qr_res (rs := [_]) rfl (fun w' hs => ⟨[.int .i64 y6], (res_tmp (by kernel_rfl) (.nil)), (), rfl, hs.pick (ts := []) (cs := []) trivial (by decide)⟩)

end Go.Proofs.Ytnjijflgafghmaa.G
