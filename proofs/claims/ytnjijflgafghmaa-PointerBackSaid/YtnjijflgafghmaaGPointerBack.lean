/- Printed by a program of this session (sz.py): plain functions, and walks that show that the code comes to them; no condition. -/
import Derived.Test.YtnjijflgafghmaaProg
import Derived.Test.YtnjijflgafghmaaTy
import Derived.Test.YtnjijflgafghmaaG0
import Derived.Test.YtnjijflgafghmaaG1
set_option linter.unusedVariables false
set_option linter.unusedSimpArgs false
namespace Go.Proofs.Ytnjijflgafghmaa.G
open Go Go.RowKit Go.Proofs.Ytnjijflgafghmaa.Sx

/-! ### shadowbox/shadowboxlaw06.PointerBack: function 5 -/
def shadowboxlaw06_PointerBack.tab37 : List (List Nat) := [[], [0], [0, 1], [0, 1, 2], [0, 1, 2, 3], [0, 1, 2, 3, 4], [0, 1, 2, 3, 4, 5], [0, 1, 2, 3, 4, 5, 6], [0, 1, 2, 3, 4, 5, 6], [0, 1, 2, 3, 4, 5, 6, 7, 8], [0, 1, 2, 3, 4, 5, 6, 7, 8, 9], [0, 1, 2, 3, 4, 5, 6, 7, 8, 9, 10], [0, 1, 2, 3, 4, 5, 6, 7, 8, 9, 10, 11], [0, 1, 2, 3, 4, 5, 6, 7, 8, 9, 10, 11, 12], [0, 1, 2, 3, 4, 5, 6, 7, 8, 9, 10, 11, 12, 13], [0, 1, 2, 3, 4, 5, 6, 7, 8, 9, 10, 11, 12, 13, 14], [0, 1, 2, 3, 4, 5, 6, 7, 8, 9, 10, 11, 12, 13, 14, 15], [0, 1, 2, 3, 4, 5, 6, 7, 8, 9, 10, 11, 12, 13, 14, 15], [0, 1, 2, 3, 4, 5, 6, 7, 8, 9, 10, 11, 12, 13, 14, 15, 16, 17], [0, 1, 2, 3, 4, 5, 6, 7, 8, 9, 10, 11, 12, 13, 14, 15, 16, 17, 18], [0, 1, 2, 3, 4, 5, 6, 7, 8, 9, 10, 11, 12, 13, 14, 15, 16, 17, 18, 19], [0, 1, 2, 3, 4, 5, 6, 7, 8, 9, 10, 11, 12, 13, 14, 15, 16, 17, 18, 19, 20], [0, 1, 2, 3, 4, 5, 6, 7, 8, 9, 10, 11, 12, 13, 14, 15, 16, 17, 18, 19, 20, 21], [0, 1, 2, 3, 4, 5, 6, 7, 8, 9, 10, 11, 12, 13, 14, 15, 16, 17, 18, 19, 20, 21], [0, 1, 2, 3, 4, 5, 6, 7, 8, 9, 10, 11, 12, 13, 14, 15, 16, 17, 18, 19, 20, 21, 23], [0, 1, 2, 3, 4, 5, 6, 7, 8, 9, 10, 11, 12, 13, 14, 15, 16, 17, 18, 19, 20, 21, 22, 23, 24], [0, 1, 2, 3, 4, 5, 6, 7, 8, 9, 10, 11, 12, 13, 14, 15, 16, 17, 18, 19, 20, 21, 22, 23, 24, 25], [0, 1, 2, 3, 4, 5, 6, 7, 8, 9, 10, 11, 12, 13, 14, 15, 16, 17, 18, 19, 20, 21, 22, 23, 24, 25, 26], [0, 1, 2, 3, 4, 5, 6, 7, 8, 9, 10, 11, 12, 13, 14, 15, 16, 17, 18, 19, 20, 21, 22, 23, 24, 25, 26, 27], [0, 1, 2, 3, 4, 5, 6, 7, 8, 9, 10, 11, 12, 13, 14, 15, 16, 17, 18, 19, 20, 21, 22, 23, 24, 25, 26, 27, 28], [0, 1, 2, 3, 4, 5, 6, 7, 8, 9, 10, 11, 12, 13, 14, 15, 16, 17, 18, 19, 20, 21, 22, 23, 24, 25, 26, 27, 28, 29], [0, 1, 2, 3, 4, 5, 6, 7, 8, 9, 10, 11, 12, 13, 14, 15, 16, 17, 18, 19, 20, 21, 22, 23, 24, 25, 26, 27, 28, 29, 30], [0, 1, 2, 3, 4, 5, 6, 7, 8, 9, 10, 11, 12, 13, 14, 15, 16, 17, 18, 19, 20, 21, 22, 23, 24, 25, 26, 27, 28], [0, 1, 2, 3, 4, 5, 6, 7, 8, 9, 10, 11, 12, 13, 14, 15, 16, 17, 18, 19, 20, 21, 22, 23, 24, 25, 26, 27, 28, 32], [0, 1, 2, 3, 4, 5, 6, 7, 8, 9, 10, 11, 12, 13, 14, 15, 16, 17, 18, 19, 20, 21, 22, 23, 24, 25, 26, 27, 28, 29, 30, 31, 32, 33], [0, 1, 2, 3, 4, 5, 6, 7, 8, 9, 10, 11, 12, 13, 14, 15, 16, 17, 18, 19, 20, 21, 22, 23, 24, 25, 26, 27, 28, 29, 30, 31, 32, 33, 34], [0, 1, 2, 3, 4, 5, 6, 7, 8, 9, 10, 11, 12, 13, 14, 15, 16, 17, 18, 19, 20, 21, 22, 23, 24, 25, 26, 27, 28, 29, 30, 31, 32, 33, 34, 35], [0, 1, 2, 3, 4, 5, 6, 7, 8, 9, 10, 11, 12, 13, 14, 15, 16, 17, 18, 19, 20, 21, 22, 23, 24, 25, 26, 27, 28, 29, 30, 31, 32, 33, 34, 35, 36], [0, 1, 2, 3, 4, 5, 6, 7, 8, 9, 10, 11, 12, 13, 14, 15, 16, 17, 18, 19, 20, 21, 22, 23, 24, 25, 26, 27, 28, 29, 30, 31, 32, 33, 34, 35, 36, 37], [0, 1, 2, 3, 4, 5, 6, 7, 8, 9, 10, 11, 12, 13, 14, 15, 16, 17, 18, 19, 20, 21, 22, 23, 24, 25, 26, 27, 28, 29, 30, 31, 32, 33, 34, 35, 36, 37, 38], [0, 1, 2, 3, 4, 5, 6, 7, 8, 9, 10, 11, 12, 13, 14, 15, 16, 17, 18, 19, 20, 21, 22, 23, 24, 25, 26, 27, 28, 29, 30, 31, 32, 33, 34, 35, 36], [0, 1, 2, 3, 4, 5, 6, 7, 8, 9, 10, 11, 12, 13, 14, 15, 16, 17, 18, 19, 20, 21, 22, 23, 24, 25, 26, 27, 28, 29, 30, 31, 32, 33, 34, 35, 36, 40], [0, 1, 2, 3, 4, 5, 6, 7, 8, 9, 10, 11, 12, 13, 14, 15, 16, 17, 18, 19, 20, 21, 22, 23, 24, 25, 26, 27, 28, 29, 30, 31, 32, 33, 34, 35, 36, 40, 41], [0, 1, 2, 3, 4, 5, 6, 7, 8, 9, 10, 11, 12, 13, 14, 15, 16, 17, 18, 19, 20, 21, 22, 23, 24, 25, 26, 27, 28, 29, 30, 31, 32, 33, 34, 35, 36, 37, 38, 39, 40, 41, 42], [0, 1, 2, 3, 4, 5, 6, 7, 8, 9, 10, 11, 12, 13, 14, 15, 16, 17, 18, 19, 20, 21, 22, 23, 24, 25, 26, 27, 28, 29, 30, 31, 32, 33, 34, 35, 36, 37, 38, 39, 40, 41, 42, 43], [0, 1, 2, 3, 4, 5, 6, 7, 8, 9, 10, 11, 12, 13, 14, 15, 16, 17, 18, 19, 20, 21, 22, 23, 24, 25, 26, 27, 28, 29, 30, 31, 32, 33, 34, 35, 36, 37, 38, 39, 40, 41, 42, 43, 44]]
def shadowboxlaw06_PointerBack.jo3 (k : Nat) (l2_1 : List Int) (t5 : (Int × Int × Int × Int × (Vc Int 32))) (t9 : (List Int)) : Option (Bool) := (if (([] : List Int).length + t9.length) * 1 ≤ 140737488355328 then (if ((([] : List Int) ++ t9).length + l2_1.length) * 1 ≤ 140737488355328 then (pointer_Read.f k ((([] : List Int) ++ t9) ++ l2_1)).bind fun t19 => (if (51 : Int) ≤ (t9.length : Int) then lt (t9.take ((51 : Int)).toNat) fun xl29 => (pointer_Read.f k xl29).bind fun t34 => (pointer_Right.f k t5).bind fun t40 => (if t40 = true then (if t19.2 = (0 : Int) then (if ((t19.1.1 == t5.1) && ((t19.1.2.1 == t5.2.1) && ((t19.1.2.2.1 == t5.2.2.1) && ((t19.1.2.2.2.1 == t5.2.2.2.1) && (t19.1.2.2.2.2.1 == t5.2.2.2.2.1))))) = true then (if t34.2 = (10 : Int) then (pointer_Check.f k t5 l2_1).bind fun t47 => (if t47 = (0 : Int) then (if (1 : Int) ≤ (l2_1.length : Int) then lt (l2_1.drop ((1 : Int)).toNat) fun xl56 => (pointer_Check.f k t5 xl56).bind fun t61 => (if t61 = (12 : Int) then (pointer_Sectors.f k t5).bind fun t65 => (if (IntKind.wrap .i64 (t65 * (512 : Int))) ≥ (l2_1.length : Int) then (pointer_Sectors.f k t5).bind fun t69 => lt (IntKind.wrap .i64 ((l2_1.length : Int) + (512 : Int))) fun y72 => some (decide ((IntKind.wrap .i64 (t69 * (512 : Int))) < y72)) else some false) else some false) else none) else some false) else some false) else some false) else some false) else some false) else none) else none) else none)
def shadowboxlaw06_PointerBack.jo2 (k : Nat) (l2_1 : List Int) (t5 : (Int × Int × Int × Int × (Vc Int 32))) : Option (Bool) := (pointer_Put.f k ([] : List Int) t5).bind fun t9 => (if (t9.length : Int) = (52 : Int) then (shadowboxlaw06_PointerBack.jo3 k l2_1 t5 t9) else some false)
def shadowboxlaw06_PointerBack.jo1 (k : Nat) (a0 : Int) (a1 : Int) (l2_1 : List Int) : Option (Bool) := lt (IntKind.wrap .i64 ((2 : Int) + (bits .and .i64 a0 (4095 : Int)))) fun y1 => lt (IntKind.wrap .i64 ((1 : Int) + (bits .and .i64 a1 (1099511627775 : Int)))) fun y3 => (pointer_Of.f k y1 y3 l2_1).bind fun t5 => (if (l2_1.length : Int) = (0 : Int) then (pointer_Put.f k ([] : List Int) ((0 : Int), (0 : Int), (0 : Int), (0 : Int), (vrep 32 (0 : Int)))).bind fun t76 => (pointer_Read.f k t76).bind fun t79 => (pointer_Right.f k t5).bind fun t83 => (if t83 = true then some false else (if t79.2 = (0 : Int) then (pointer_None.f k t79.1).bind fun t88 => (if t88 = true then (pointer_Check.f k t5 l2_1).bind fun t92 => some (decide (t92 = (2 : Int))) else some false) else some false)) else (shadowboxlaw06_PointerBack.jo2 k l2_1 t5))
def shadowboxlaw06_PointerBack.f (k : Nat) (a0 : Int) (a1 : Int) (l2 : List Int) : Option (Bool) :=
  (if (l2.length : Int) > (2000 : Int) then (if (2000 : Int) ≤ (l2.length : Int) then lt (l2.take ((2000 : Int)).toNat) fun xl101 => (shadowboxlaw06_PointerBack.jo1 k a0 a1) xl101 else none) else (shadowboxlaw06_PointerBack.jo1 k a0 a1) l2)
set_option maxRecDepth 100000 in
set_option maxHeartbeats 4000000 in
theorem shadowboxlaw06_PointerBack.calls (k : Nat) (a0 : Int) (a1 : Int) (A2 : Option Addr) (c2 : Nat) (l2 : List Int) (r : Bool) (b : Bs) (hs0 : St b (stl []) b.w) (R2 : Ro b A2 (em (Ec.int 5 .u8) l2)) (C2 : l2.length ≤ c2) (H : shadowboxlaw06_PointerBack.f k a0 a1 l2 = some r) :
    Calls Try.prog 5 #[.int .i64 a0, .int .i64 a1, .slice A2 l2.length c2] b.w fun e w' => ∃ x : Unit, e = .returned (.bool r) ∧ St b (stl []) w' := by
  unfold shadowboxlaw06_PointerBack.f at H
  refine enterb (n := 121) Try.func5 rfl (by kernel_rfl) (by kernel_rfl) hs0 ?_
  refine cs_sub (s0) (sub_nil _) ?_
  refine cs_seq ?_
  refine cs_region (l := [_]) ?_
  refine ls_val (v := .bool false) rfl rfl (by kernel_rfl) (fun w => by kernel_rfl) ?_
  refine ls_end ?_
  refine qn_then ?_
  refine cs_cut (fun f S => ∃ (fR : Fr) (A2_1 : Option Addr) (c2_1 : Nat) (l2_1 : List Int), f = upd (upd (upd fR 0 (.int .i64 a0)) 1 (.int .i64 a1)) 2 (.slice A2_1 l2_1.length c2_1) ∧ S = s0 ∧ Ro b A2_1 (em (Ec.int 5 .u8) l2_1) ∧ l2_1.length ≤ c2_1 ∧ shadowboxlaw06_PointerBack.jo1 k a0 a1 l2_1 = some r) ?_ ?_
  · skip
    refine cs_seq ?_
    refine cs_region (l := [_, _, _]) ?_
    refine ls_val (v := .slice A2 l2.length c2) rfl rfl (by kernel_rfl) (fun w => by kernel_rfl) ?_
    refine ls_val (v := .int .i64 (l2.length : Int)) rfl rfl (by kernel_rfl) (fun w => by kernel_rfl) ?_
    refine ls_val (v := .bool (decide ((l2.length : Int) > (2000 : Int)))) rfl rfl (by kernel_rfl) (fun w => by kernel_rfl) ?_
    refine ls_end ?_
    refine qn_then ?_
    by_cases q95 : (l2.length : Int) > (2000 : Int)
    · replace H := ite_t q95 H
      refine cs_know (c := true) (dec_t q95) 17 (by kernel_rfl) ?_
      refine cs_true (by kernel_rfl) ?_
      refine cs_region (l := [_, _, _]) ?_
      refine ls_val (v := .slice A2 l2.length c2) rfl rfl (by kernel_rfl) (fun w => by kernel_rfl) ?_
      obtain ⟨q96, H⟩ := ite_need H
      obtain ⟨xl101, hy102, H⟩ := lt_some H
      have hz104 : 0 ≤ ((2000 : Int)).toNat := by omega
      have hz105 : ((2000 : Int)).toNat ≤ l2.length := by omega
      obtain ⟨xA97, xc98, he103, xC100, xR99⟩ := cut_at (A := A2) (c := c2) (l := l2) (Ec.int 5 .u8) 0 (((2000 : Int)).toNat) hz104 hz105 C2 R2 (m := xl101) (by rw [← hy102] <;> simp) (z := 1) rfl
      refine ls_cutv (A := A2) (c := c2) (m := l2.length) (z := 1) (e := 5) (a := 0) (b := ((2000 : Int)).toNat) rfl rfl (by kernel_rfl) rfl (by kernel_rfl) (by kernel_rfl) (by kernel_rfl) (.inl ⟨rfl, rfl⟩) (.inr ⟨.i64, by rw [Int.toNat_of_nonneg (by first | assumption | omega)]; kernel_rfl⟩) hz104 hz105 C2 he103 ?_
      refine ls_val (v := .slice xA97 xl101.length xc98) rfl rfl (by kernel_rfl) (fun w => by kernel_rfl) ?_
      refine ls_end ?_
      refine qn_meet (s0) ⟨_, xA97, xc98, xl101, fr_next (fr_next (fr_next (rfl) (by kernel_rfl)) (by kernel_rfl)) (by kernel_rfl), rfl, xR99, xC100, H⟩ (sub_nil _)
    · replace H := ite_f q95 H
      refine cs_know (c := false) (dec_f q95) 17 (by kernel_rfl) ?_
      refine cs_false (by kernel_rfl) ?_
      refine cs_skip' ?_
      refine qn_meet (s0) ⟨_, A2, c2, l2, fr_next (fr_next (fr_next (rfl) (by kernel_rfl)) (by kernel_rfl)) (by kernel_rfl), rfl, R2, C2, H⟩ (sub_nil _)
  · rintro f S ⟨fr1, A2_1, c2_1, l2_1, rfl, rfl, R2_1, C2_1, H⟩
    replace H : (lt (IntKind.wrap .i64 ((2 : Int) + (bits .and .i64 a0 (4095 : Int)))) fun y1 => lt (IntKind.wrap .i64 ((1 : Int) + (bits .and .i64 a1 (1099511627775 : Int)))) fun y3 => (pointer_Of.f k y1 y3 l2_1).bind fun t5 => (if (l2_1.length : Int) = (0 : Int) then (pointer_Put.f k ([] : List Int) ((0 : Int), (0 : Int), (0 : Int), (0 : Int), (vrep 32 (0 : Int)))).bind fun t76 => (pointer_Read.f k t76).bind fun t79 => (pointer_Right.f k t5).bind fun t83 => (if t83 = true then some false else (if t79.2 = (0 : Int) then (pointer_None.f k t79.1).bind fun t88 => (if t88 = true then (pointer_Check.f k t5 l2_1).bind fun t92 => some (decide (t92 = (2 : Int))) else some false) else some false)) else (shadowboxlaw06_PointerBack.jo2 k l2_1 t5))) = some r := H
    refine cs_seq ?_
    refine cs_region (l := [_, _, _, _, _, _, _, _]) ?_
    refine ls_val (v := .int .i64 a0) rfl rfl (by kernel_rfl) (fun w => by kernel_rfl) ?_
    refine ls_val (v := .int .i64 (bits .and .i64 a0 (4095 : Int))) rfl rfl (by kernel_rfl) (fun w => by kernel_rfl) ?_
    obtain ⟨y1, hy2, H⟩ := lt_some H
    refine ls_val (v := .int .i64 (IntKind.wrap .i64 ((2 : Int) + (bits .and .i64 a0 (4095 : Int))))) rfl rfl (by kernel_rfl) (fun w => by kernel_rfl) ?_
    refine ls_ren 22 (v := .int .i64 (IntKind.wrap .i64 ((2 : Int) + (bits .and .i64 a0 (4095 : Int))))) (v' := .int .i64 y1) (by kernel_rfl) (by rw [hy2]) ?_
    refine ls_val (v := .int .i64 a1) rfl rfl (by kernel_rfl) (fun w => by kernel_rfl) ?_
    refine ls_val (v := .int .i64 (bits .and .i64 a1 (1099511627775 : Int))) rfl rfl (by kernel_rfl) (fun w => by kernel_rfl) ?_
    obtain ⟨y3, hy4, H⟩ := lt_some H
    refine ls_val (v := .int .i64 (IntKind.wrap .i64 ((1 : Int) + (bits .and .i64 a1 (1099511627775 : Int))))) rfl rfl (by kernel_rfl) (fun w => by kernel_rfl) ?_
    refine ls_ren 25 (v := .int .i64 (IntKind.wrap .i64 ((1 : Int) + (bits .and .i64 a1 (1099511627775 : Int))))) (v' := .int .i64 y3) (by kernel_rfl) (by rw [hy4]) ?_
    refine ls_val (v := .int .i64 y1) rfl rfl (by kernel_rfl) (fun w => by kernel_rfl) ?_
    refine ls_val (v := .int .i64 y3) rfl rfl (by kernel_rfl) (fun w => by kernel_rfl) ?_
    refine ls_end ?_
    refine qn_then ?_
    refine cs_seq ?_
    refine cs_region (l := [_, _, _, _, _, _]) ?_
    refine ls_val (v := .int .i64 y1) rfl rfl (by kernel_rfl) (fun w => by kernel_rfl) ?_
    refine ls_val (v := .int .i64 y3) rfl rfl (by kernel_rfl) (fun w => by kernel_rfl) ?_
    refine ls_val (v := .slice A2_1 l2_1.length c2_1) rfl rfl (by kernel_rfl) (fun w => by kernel_rfl) ?_
    obtain ⟨t5, hc6, H⟩ := bind_some H
    refine ls_callb (fid := 20) (vals := #[.int .i64 y1, .int .i64 y3, .slice A2_1 l2_1.length c2_1]) (X := Unit) (fun x => .agg ⟨([Value.int .i64 t5.1] ++ ([Value.int .i64 t5.2.1] ++ ([Value.int .i64 t5.2.2.1] ++ ([Value.int .u32 t5.2.2.2.1] ++ en (Value.int .u8) t5.2.2.2.2.1))))⟩) (fun x => stl []) [] [] [] [] 0 rfl rfl (by kernel_rfl) (fun w => by kernel_rfl) trivial trivial (by decide) (fun w hs hb => pointer_Of.calls k y1 y3 A2_1 c2_1 l2_1 t5 (lent b w [] []) hb (hs.ro R2_1 _ _) C2_1 hc6) ?_
    intro x7
    refine ls_new rfl rfl (by kernel_rfl) 0 (fun g => .pointer (some ⟨g, 0, none⟩)) (.cells ⟨([Value.int .i64 (0 : Int)] ++ ([Value.int .i64 (0 : Int)] ++ ([Value.int .i64 (0 : Int)] ++ ([Value.int .u32 (0 : Int)] ++ en (Value.int .u8) (vrep 32 (0 : Int)).1))))⟩ 25) (fun w => by kernel_rfl) ?_
    intro g8
    refine ls_storec (g := g8) (off := 0) (v := .agg ⟨([Value.int .i64 t5.1] ++ ([Value.int .i64 t5.2.1] ++ ([Value.int .i64 t5.2.2.1] ++ ([Value.int .u32 t5.2.2.2.1] ++ en (Value.int .u8) t5.2.2.2.2.1))))⟩) (vs := ([Value.int .i64 t5.1] ++ ([Value.int .i64 t5.2.1] ++ ([Value.int .i64 t5.2.2.1] ++ ([Value.int .u32 t5.2.2.2.1] ++ en (Value.int .u8) t5.2.2.2.2.1))))) (cs := ([Value.int .i64 (0 : Int)] ++ ([Value.int .i64 (0 : Int)] ++ ([Value.int .i64 (0 : Int)] ++ ([Value.int .u32 (0 : Int)] ++ en (Value.int .u8) (vrep 32 (0 : Int)).1))))) (ty := 25) 0 rfl rfl rfl (by kernel_rfl) (by kernel_rfl) (by kernel_rfl) (by exact rfl) (by kernel_rfl) (len_app (len1 _) (len_app (len1 _) (len_app (len1 _) (len_app (len1 _) (len_en _ t5.2.2.2.2))))) (one_app (one_cons rfl one_nil) (one_app (one_cons rfl one_nil) (one_app (one_cons rfl one_nil) (one_app (one_cons rfl one_nil) (one_en (fun _ => rfl) _))))) (hl_of (Sub4.all _) (len_eq (len_app (len1 _) (len_app (len1 _) (len_app (len1 _) (len_app (len1 _) (len_en _ t5.2.2.2.2))))) (len_app (len1 _) (len_app (len1 _) (len_app (len1 _) (len_app (len1 _) (len_en _ (vrep 32 (0 : Int))))))))) (cs' := ([Value.int .i64 t5.1] ++ ([Value.int .i64 t5.2.1] ++ ([Value.int .i64 t5.2.2.1] ++ ([Value.int .u32 t5.2.2.2.1] ++ en (Value.int .u8) t5.2.2.2.2.1))))) (splc_all (len_eq (len_app (len1 _) (len_app (len1 _) (len_app (len1 _) (len_app (len1 _) (len_en _ t5.2.2.2.2))))) (len_app (len1 _) (len_app (len1 _) (len_app (len1 _) (len_app (len1 _) (len_en _ (vrep 32 (0 : Int))))))))) ?_
    refine ls_end ?_
    refine qn_then ?_
    refine cs_cut (fun f S => ∃ (fR : Fr), f = upd (upd fR 2 (.slice A2_1 l2_1.length c2_1)) 7 (.pointer (some ⟨g8, 0, none⟩)) ∧ S = sput s0 0 (some (Ck.var 25 g8 (([Value.int .i64 t5.1] ++ ([Value.int .i64 t5.2.1] ++ ([Value.int .i64 t5.2.2.1] ++ ([Value.int .u32 t5.2.2.2.1] ++ en (Value.int .u8) t5.2.2.2.2.1))))))) ∧ shadowboxlaw06_PointerBack.jo2 k l2_1 t5 = some r) ?_ ?_
    · skip
      refine cs_seq ?_
      refine cs_region (l := [_, _, _]) ?_
      refine ls_val (v := .slice A2_1 l2_1.length c2_1) rfl rfl (by kernel_rfl) (fun w => by kernel_rfl) ?_
      refine ls_val (v := .int .i64 (l2_1.length : Int)) rfl rfl (by kernel_rfl) (fun w => by kernel_rfl) ?_
      refine ls_val (v := .bool (decide ((l2_1.length : Int) = (0 : Int)))) rfl rfl (by kernel_rfl) (fun w => by kernel_rfl) ?_
      refine ls_end ?_
      refine qn_then ?_
      by_cases q75 : (l2_1.length : Int) = (0 : Int)
      · replace H := ite_t q75 H
        refine cs_know (c := true) (dec_t q75) 32 (by kernel_rfl) ?_
        refine cs_true (by kernel_rfl) ?_
        refine cs_seq ?_
        refine cs_region (l := [_, _, _, _, _, _, _, _, _]) ?_
        refine ls_build (ps := []) (pl := #[(0, 1), (1, 1), (2, 1), (3, 1), (4, 32)]) (zv := .agg ⟨([Value.int .i64 (0 : Int)] ++ ([Value.int .i64 (0 : Int)] ++ ([Value.int .i64 (0 : Int)] ++ ([Value.int .u32 (0 : Int)] ++ en (Value.int .u8) (vrep 32 (0 : Int)).1))))⟩) (zc := ([Value.int .i64 (0 : Int)] ++ ([Value.int .i64 (0 : Int)] ++ ([Value.int .i64 (0 : Int)] ++ ([Value.int .u32 (0 : Int)] ++ en (Value.int .u8) (vrep 32 (0 : Int)).1))))) (r := ([Value.int .i64 (0 : Int)] ++ ([Value.int .i64 (0 : Int)] ++ ([Value.int .i64 (0 : Int)] ++ ([Value.int .u32 (0 : Int)] ++ en (Value.int .u8) (vrep 32 (0 : Int)).1))))) rfl rfl (by kernel_rfl) rfl (by kernel_rfl) (by kernel_rfl) (fun w => by kernel_rfl) (fun w => by kernel_rfl) rfl fill_nil ?_
        obtain ⟨t76, hc77, H⟩ := bind_some H
        refine ls_callb (fid := 18) (vals := #[.slice none ([] : List Int).length 0, .agg ⟨([Value.int .i64 (0 : Int)] ++ ([Value.int .i64 (0 : Int)] ++ ([Value.int .i64 (0 : Int)] ++ ([Value.int .u32 (0 : Int)] ++ en (Value.int .u8) (vrep 32 (0 : Int)).1))))⟩]) (X := (Option Addr × Nat)) (fun x => .slice x.1 t76.length x.2) (fun x => stl [Ck.sl (Ec.int 5 .u8) x.1 x.2 t76]) [] [] [] [] 1 rfl rfl (by kernel_rfl) (fun w => by kernel_rfl) trivial trivial (by decide) (fun w hs hb => pointer_Put.calls k none 0 ([] : List Int) ((0 : Int), (0 : Int), (0 : Int), (0 : Int), (vrep 32 (0 : Int))) t76 (lent b w [] []) hb (Ro.nil _ _) (Nat.le_refl 0) hc77) ?_
        intro x78
        obtain ⟨t79, hc80, H⟩ := bind_some H
        refine ls_callb (fid := 10) (vals := #[.slice x78.1 t76.length x78.2]) (X := Unit) (fun x => .tuple #[.agg ⟨([Value.int .i64 t79.1.1] ++ ([Value.int .i64 t79.1.2.1] ++ ([Value.int .i64 t79.1.2.2.1] ++ ([Value.int .u32 t79.1.2.2.2.1] ++ en (Value.int .u8) t79.1.2.2.2.2.1))))⟩, .int .i64 t79.2]) (fun x => stl []) [] [1] [] [Ck.sl (Ec.int 5 .u8) x78.1 x78.2 t76] 2 rfl rfl (by kernel_rfl) (fun w => by kernel_rfl) trivial ⟨by exact rfl, trivial⟩ (by decide) (fun w hs hb => pointer_Read.calls k x78.1 x78.2 t76 t79 (lent b w [] [Ck.sl (Ec.int 5 .u8) x78.1 x78.2 t76]) hb (hs.ror (k := 1) (by exact rfl) (.head _)) (hs.cap (k := 1) (by exact rfl)) hc80) ?_
        intro x81
        refine ls_val (v := .tuple #[.agg ⟨([Value.int .i64 t79.1.1] ++ ([Value.int .i64 t79.1.2.1] ++ ([Value.int .i64 t79.1.2.2.1] ++ ([Value.int .u32 t79.1.2.2.2.1] ++ en (Value.int .u8) t79.1.2.2.2.2.1))))⟩, .int .i64 t79.2]) rfl rfl (by kernel_rfl) (fun w => by kernel_rfl) ?_
        refine ls_val (v := .agg ⟨([Value.int .i64 t79.1.1] ++ ([Value.int .i64 t79.1.2.1] ++ ([Value.int .i64 t79.1.2.2.1] ++ ([Value.int .u32 t79.1.2.2.2.1] ++ en (Value.int .u8) t79.1.2.2.2.2.1))))⟩) rfl rfl (by kernel_rfl) (fun w => by kernel_rfl) ?_
        refine ls_val (v := .int .i64 t79.2) rfl rfl (by kernel_rfl) (fun w => by kernel_rfl) ?_
        refine ls_new rfl rfl (by kernel_rfl) 2 (fun g => .pointer (some ⟨g, 0, none⟩)) (.cells ⟨([Value.int .i64 (0 : Int)] ++ ([Value.int .i64 (0 : Int)] ++ ([Value.int .i64 (0 : Int)] ++ ([Value.int .u32 (0 : Int)] ++ en (Value.int .u8) (vrep 32 (0 : Int)).1))))⟩ 25) (fun w => by kernel_rfl) ?_
        intro g82
        refine ls_storec (g := g82) (off := 0) (v := .agg ⟨([Value.int .i64 t79.1.1] ++ ([Value.int .i64 t79.1.2.1] ++ ([Value.int .i64 t79.1.2.2.1] ++ ([Value.int .u32 t79.1.2.2.2.1] ++ en (Value.int .u8) t79.1.2.2.2.2.1))))⟩) (vs := ([Value.int .i64 t79.1.1] ++ ([Value.int .i64 t79.1.2.1] ++ ([Value.int .i64 t79.1.2.2.1] ++ ([Value.int .u32 t79.1.2.2.2.1] ++ en (Value.int .u8) t79.1.2.2.2.2.1))))) (cs := ([Value.int .i64 (0 : Int)] ++ ([Value.int .i64 (0 : Int)] ++ ([Value.int .i64 (0 : Int)] ++ ([Value.int .u32 (0 : Int)] ++ en (Value.int .u8) (vrep 32 (0 : Int)).1))))) (ty := 25) 2 rfl rfl rfl (by kernel_rfl) (by kernel_rfl) (by kernel_rfl) (by exact rfl) (by kernel_rfl) (len_app (len1 _) (len_app (len1 _) (len_app (len1 _) (len_app (len1 _) (len_en _ t79.1.2.2.2.2))))) (one_app (one_cons rfl one_nil) (one_app (one_cons rfl one_nil) (one_app (one_cons rfl one_nil) (one_app (one_cons rfl one_nil) (one_en (fun _ => rfl) _))))) (hl_of (Sub4.all _) (len_eq (len_app (len1 _) (len_app (len1 _) (len_app (len1 _) (len_app (len1 _) (len_en _ t79.1.2.2.2.2))))) (len_app (len1 _) (len_app (len1 _) (len_app (len1 _) (len_app (len1 _) (len_en _ (vrep 32 (0 : Int))))))))) (cs' := ([Value.int .i64 t79.1.1] ++ ([Value.int .i64 t79.1.2.1] ++ ([Value.int .i64 t79.1.2.2.1] ++ ([Value.int .u32 t79.1.2.2.2.1] ++ en (Value.int .u8) t79.1.2.2.2.2.1))))) (splc_all (len_eq (len_app (len1 _) (len_app (len1 _) (len_app (len1 _) (len_app (len1 _) (len_en _ t79.1.2.2.2.2))))) (len_app (len1 _) (len_app (len1 _) (len_app (len1 _) (len_app (len1 _) (len_en _ (vrep 32 (0 : Int))))))))) ?_
        refine ls_val (v := .int .i64 t79.2) rfl rfl (by kernel_rfl) (fun w => by kernel_rfl) ?_
        refine ls_end ?_
        refine qn_then ?_
        refine cs_seq ?_
        refine cs_region (l := [_, _, _, _, _, _, _, _, _, _, _, _, _, _, _, _, _, _]) ?_
        refine ls_loadagg (a := ⟨g8, 0, none⟩) (sub := ([Value.int .i64 t5.1] ++ ([Value.int .i64 t5.2.1] ++ ([Value.int .i64 t5.2.2.1] ++ ([Value.int .u32 t5.2.2.2.1] ++ en (Value.int .u8) t5.2.2.2.2.1))))) rfl rfl (by kernel_rfl) rfl (by kernel_rfl) (by kernel_rfl) (by kernel_rfl) (len_app (len1 _) (len_app (len1 _) (len_app (len1 _) (len_app (len1 _) (len_en _ t5.2.2.2.2))))) (fun w hs => (hs.vars (k := 0) (by exact rfl) (Sub4.all _))) ?_
        obtain ⟨t83, hc84, H⟩ := bind_some H
        refine ls_callb (fid := 14) (vals := #[.agg ⟨([Value.int .i64 t5.1] ++ ([Value.int .i64 t5.2.1] ++ ([Value.int .i64 t5.2.2.1] ++ ([Value.int .u32 t5.2.2.2.1] ++ en (Value.int .u8) t5.2.2.2.2.1))))⟩]) (X := Unit) (fun x => .bool t83) (fun x => stl []) [] [] [] [] 3 rfl rfl (by kernel_rfl) (fun w => by kernel_rfl) trivial trivial (by decide) (fun w hs hb => pointer_Right.calls k t5 t83 (lent b w [] []) hb  hc84) ?_
        intro x85
        refine ls_val (v := .bool (!t83)) rfl rfl (by kernel_rfl) (fun w => by kernel_rfl) ?_
        refine ls_val (v := .bool (!t83)) rfl rfl (by kernel_rfl) (fun w => by kernel_rfl) ?_
        by_cases q86 : t83 = true
        · replace H := ite_t q86 H
          refine ls_know (c := false) (congrArg Bool.not (q86)) 42 (by kernel_rfl) ?_
          refine ls_off (j := 3) (t := 42) (b := true) (c := false) rfl rfl (by kernel_rfl) (by kernel_rfl) rfl rfl (by kernel_rfl) ?_
          refine ls_off (j := 3) (t := 42) (b := true) (c := false) rfl rfl (by kernel_rfl) (by kernel_rfl) rfl rfl (by kernel_rfl) ?_
          refine ls_val (v := .bool false) rfl rfl (by kernel_rfl) (fun w => by kernel_rfl) ?_
          refine ls_val (v := .bool false) rfl rfl (by kernel_rfl) (fun w => by kernel_rfl) ?_
          refine ls_off (j := 7) (t := 46) (b := true) (c := false) rfl rfl (by kernel_rfl) (by kernel_rfl) rfl rfl (by kernel_rfl) ?_
          refine ls_off (j := 7) (t := 46) (b := true) (c := false) rfl rfl (by kernel_rfl) (by kernel_rfl) rfl rfl (by kernel_rfl) ?_
          refine ls_val (v := .bool false) rfl rfl (by kernel_rfl) (fun w => by kernel_rfl) ?_
          refine ls_val (v := .bool false) rfl rfl (by kernel_rfl) (fun w => by kernel_rfl) ?_
          refine ls_off (j := 11) (t := 50) (b := true) (c := false) rfl rfl (by kernel_rfl) (by kernel_rfl) rfl rfl (by kernel_rfl) ?_
          refine ls_off (j := 11) (t := 50) (b := true) (c := false) rfl rfl (by kernel_rfl) (by kernel_rfl) rfl rfl (by kernel_rfl) ?_
          refine ls_off (j := 11) (t := 50) (b := true) (c := false) rfl rfl (by kernel_rfl) (by kernel_rfl) rfl rfl (by kernel_rfl) ?_
          refine ls_off (j := 11) (t := 50) (b := true) (c := false) rfl rfl (by kernel_rfl) (by kernel_rfl) rfl rfl (by kernel_rfl) ?_
          refine ls_val (v := .bool false) rfl rfl (by kernel_rfl) (fun w => by kernel_rfl) ?_
          refine ls_val (v := .bool false) rfl rfl (by kernel_rfl) (fun w => by kernel_rfl) ?_
          refine ls_end ?_
          refine qn_then ?_
          refine cs_ret' ?_
          refine qr_then ?_
          obtain rfl := Option.some.inj H
          refine qr_res (rs := [_]) rfl (fun w' hs => ⟨[.bool false], (res_tmp (by kernel_rfl) (.nil)), (), rfl, hs.pick (ts := []) (cs := []) trivial (by decide)⟩)
        · replace H := ite_f q86 H
          refine ls_know (c := true) (congrArg Bool.not (Bool.eq_false_iff.mpr q86)) 42 (by kernel_rfl) ?_
          refine ls_on (j := 3) (t := 42) (b := true) rfl rfl (by kernel_rfl) (by kernel_rfl) ?_
          refine ls_val (v := .int .i64 t79.2) rfl rfl (by kernel_rfl) (fun w => by kernel_rfl) ?_
          refine ls_on (j := 3) (t := 42) (b := true) rfl rfl (by kernel_rfl) (by kernel_rfl) ?_
          refine ls_val (v := .bool (decide (t79.2 = (0 : Int)))) rfl rfl (by kernel_rfl) (fun w => by kernel_rfl) ?_
          refine ls_val (v := .bool (decide (t79.2 = (0 : Int)))) rfl rfl (by kernel_rfl) (fun w => by kernel_rfl) ?_
          refine ls_val (v := .bool (decide (t79.2 = (0 : Int)))) rfl rfl (by kernel_rfl) (fun w => by kernel_rfl) ?_
          by_cases q87 : t79.2 = (0 : Int)
          · replace H := ite_t q87 H
            refine ls_know (c := true) (dec_t q87) 46 (by kernel_rfl) ?_
            refine ls_on (j := 7) (t := 46) (b := true) rfl rfl (by kernel_rfl) (by kernel_rfl) ?_
            refine ls_loadagg (a := ⟨g82, 0, none⟩) (sub := ([Value.int .i64 t79.1.1] ++ ([Value.int .i64 t79.1.2.1] ++ ([Value.int .i64 t79.1.2.2.1] ++ ([Value.int .u32 t79.1.2.2.2.1] ++ en (Value.int .u8) t79.1.2.2.2.2.1))))) rfl rfl (by kernel_rfl) rfl (by kernel_rfl) (by kernel_rfl) (by kernel_rfl) (len_app (len1 _) (len_app (len1 _) (len_app (len1 _) (len_app (len1 _) (len_en _ t79.1.2.2.2.2))))) (fun w hs => (hs.vars (k := 2) (by exact rfl) (Sub4.all _))) ?_
            refine ls_on (j := 7) (t := 46) (b := true) rfl rfl (by kernel_rfl) (by kernel_rfl) ?_
            obtain ⟨t88, hc89, H⟩ := bind_some H
            refine ls_callb (fid := 12) (vals := #[.agg ⟨([Value.int .i64 t79.1.1] ++ ([Value.int .i64 t79.1.2.1] ++ ([Value.int .i64 t79.1.2.2.1] ++ ([Value.int .u32 t79.1.2.2.2.1] ++ en (Value.int .u8) t79.1.2.2.2.2.1))))⟩]) (X := Unit) (fun x => .bool t88) (fun x => stl []) [] [] [] [] 3 rfl rfl (by kernel_rfl) (fun w => by kernel_rfl) trivial trivial (by decide) (fun w hs hb => pointer_None.calls k t79.1 t88 (lent b w [] []) hb  hc89) ?_
            intro x90
            refine ls_val (v := .bool t88) rfl rfl (by kernel_rfl) (fun w => by kernel_rfl) ?_
            refine ls_val (v := .bool t88) rfl rfl (by kernel_rfl) (fun w => by kernel_rfl) ?_
            by_cases q91 : t88 = true
            · replace H := ite_t q91 H
              refine ls_know (c := true) (q91) 50 (by kernel_rfl) ?_
              refine ls_on (j := 11) (t := 50) (b := true) rfl rfl (by kernel_rfl) (by kernel_rfl) ?_
              refine ls_loadagg (a := ⟨g8, 0, none⟩) (sub := ([Value.int .i64 t5.1] ++ ([Value.int .i64 t5.2.1] ++ ([Value.int .i64 t5.2.2.1] ++ ([Value.int .u32 t5.2.2.2.1] ++ en (Value.int .u8) t5.2.2.2.2.1))))) rfl rfl (by kernel_rfl) rfl (by kernel_rfl) (by kernel_rfl) (by kernel_rfl) (len_app (len1 _) (len_app (len1 _) (len_app (len1 _) (len_app (len1 _) (len_en _ t5.2.2.2.2))))) (fun w hs => (hs.vars (k := 0) (by exact rfl) (Sub4.all _))) ?_
              refine ls_on (j := 11) (t := 50) (b := true) rfl rfl (by kernel_rfl) (by kernel_rfl) ?_
              refine ls_val (v := .slice A2_1 l2_1.length c2_1) rfl rfl (by kernel_rfl) (fun w => by kernel_rfl) ?_
              refine ls_on (j := 11) (t := 50) (b := true) rfl rfl (by kernel_rfl) (by kernel_rfl) ?_
              obtain ⟨t92, hc93, H⟩ := bind_some H
              refine ls_callb (fid := 22) (vals := #[.agg ⟨([Value.int .i64 t5.1] ++ ([Value.int .i64 t5.2.1] ++ ([Value.int .i64 t5.2.2.1] ++ ([Value.int .u32 t5.2.2.2.1] ++ en (Value.int .u8) t5.2.2.2.2.1))))⟩, .slice A2_1 l2_1.length c2_1]) (X := Unit) (fun x => .int .i64 t92) (fun x => stl []) [] [] [] [] 3 rfl rfl (by kernel_rfl) (fun w => by kernel_rfl) trivial trivial (by decide) (fun w hs hb => pointer_Check.calls k t5 A2_1 c2_1 l2_1 t92 (lent b w [] []) hb (hs.ro R2_1 _ _) C2_1 hc93) ?_
              intro x94
              refine ls_on (j := 11) (t := 50) (b := true) rfl rfl (by kernel_rfl) (by kernel_rfl) ?_
              refine ls_val (v := .bool (decide (t92 = (2 : Int)))) rfl rfl (by kernel_rfl) (fun w => by kernel_rfl) ?_
              refine ls_val (v := .bool (decide (t92 = (2 : Int)))) rfl rfl (by kernel_rfl) (fun w => by kernel_rfl) ?_
              refine ls_val (v := .bool (decide (t92 = (2 : Int)))) rfl rfl (by kernel_rfl) (fun w => by kernel_rfl) ?_
              refine ls_end ?_
              refine qn_then ?_
              refine cs_ret' ?_
              refine qr_then ?_
              obtain rfl := Option.some.inj H
              refine qr_res (rs := [_]) rfl (fun w' hs => ⟨[.bool (decide (t92 = (2 : Int)))], (res_tmp (by kernel_rfl) (.nil)), (), rfl, hs.pick (ts := []) (cs := []) trivial (by decide)⟩)
            · replace H := ite_f q91 H
              refine ls_know (c := false) (Bool.eq_false_iff.mpr q91) 50 (by kernel_rfl) ?_
              refine ls_off (j := 11) (t := 50) (b := true) (c := false) rfl rfl (by kernel_rfl) (by kernel_rfl) rfl rfl (by kernel_rfl) ?_
              refine ls_off (j := 11) (t := 50) (b := true) (c := false) rfl rfl (by kernel_rfl) (by kernel_rfl) rfl rfl (by kernel_rfl) ?_
              refine ls_off (j := 11) (t := 50) (b := true) (c := false) rfl rfl (by kernel_rfl) (by kernel_rfl) rfl rfl (by kernel_rfl) ?_
              refine ls_off (j := 11) (t := 50) (b := true) (c := false) rfl rfl (by kernel_rfl) (by kernel_rfl) rfl rfl (by kernel_rfl) ?_
              refine ls_val (v := .bool false) rfl rfl (by kernel_rfl) (fun w => by kernel_rfl) ?_
              refine ls_val (v := .bool false) rfl rfl (by kernel_rfl) (fun w => by kernel_rfl) ?_
              refine ls_end ?_
              refine qn_then ?_
              refine cs_ret' ?_
              refine qr_then ?_
              obtain rfl := Option.some.inj H
              refine qr_res (rs := [_]) rfl (fun w' hs => ⟨[.bool false], (res_tmp (by kernel_rfl) (.nil)), (), rfl, hs.pick (ts := []) (cs := []) trivial (by decide)⟩)
          · replace H := ite_f q87 H
            refine ls_know (c := false) (dec_f q87) 46 (by kernel_rfl) ?_
            refine ls_off (j := 7) (t := 46) (b := true) (c := false) rfl rfl (by kernel_rfl) (by kernel_rfl) rfl rfl (by kernel_rfl) ?_
            refine ls_off (j := 7) (t := 46) (b := true) (c := false) rfl rfl (by kernel_rfl) (by kernel_rfl) rfl rfl (by kernel_rfl) ?_
            refine ls_val (v := .bool false) rfl rfl (by kernel_rfl) (fun w => by kernel_rfl) ?_
            refine ls_val (v := .bool false) rfl rfl (by kernel_rfl) (fun w => by kernel_rfl) ?_
            refine ls_off (j := 11) (t := 50) (b := true) (c := false) rfl rfl (by kernel_rfl) (by kernel_rfl) rfl rfl (by kernel_rfl) ?_
            refine ls_off (j := 11) (t := 50) (b := true) (c := false) rfl rfl (by kernel_rfl) (by kernel_rfl) rfl rfl (by kernel_rfl) ?_
            refine ls_off (j := 11) (t := 50) (b := true) (c := false) rfl rfl (by kernel_rfl) (by kernel_rfl) rfl rfl (by kernel_rfl) ?_
            refine ls_off (j := 11) (t := 50) (b := true) (c := false) rfl rfl (by kernel_rfl) (by kernel_rfl) rfl rfl (by kernel_rfl) ?_
            refine ls_val (v := .bool false) rfl rfl (by kernel_rfl) (fun w => by kernel_rfl) ?_
            refine ls_val (v := .bool false) rfl rfl (by kernel_rfl) (fun w => by kernel_rfl) ?_
            refine ls_end ?_
            refine qn_then ?_
            refine cs_ret' ?_
            refine qr_then ?_
            obtain rfl := Option.some.inj H
            refine qr_res (rs := [_]) rfl (fun w' hs => ⟨[.bool false], (res_tmp (by kernel_rfl) (.nil)), (), rfl, hs.pick (ts := []) (cs := []) trivial (by decide)⟩)
      · replace H := ite_f q75 H
        refine cs_know (c := false) (dec_f q75) 32 (by kernel_rfl) ?_
        refine cs_false (by kernel_rfl) ?_
        refine cs_skip' ?_
        refine qn_meet (sput s0 0 (some (Ck.var 25 g8 (([Value.int .i64 t5.1] ++ ([Value.int .i64 t5.2.1] ++ ([Value.int .i64 t5.2.2.1] ++ ([Value.int .u32 t5.2.2.2.1] ++ en (Value.int .u8) t5.2.2.2.2.1)))))))) ⟨_, fr_next (fr_next (rfl) (by kernel_rfl)) (by kernel_rfl), rfl, H⟩ (sub_put (by exact rfl) (sub_nil _))
    · rintro f S ⟨fr2, rfl, rfl, H⟩
      replace H : ((pointer_Put.f k ([] : List Int) t5).bind fun t9 => (if (t9.length : Int) = (52 : Int) then (shadowboxlaw06_PointerBack.jo3 k l2_1 t5 t9) else some false)) = some r := H
      refine cs_seq ?_
      refine cs_region (l := [_, _, _]) ?_
      refine ls_loadagg (a := ⟨g8, 0, none⟩) (sub := ([Value.int .i64 t5.1] ++ ([Value.int .i64 t5.2.1] ++ ([Value.int .i64 t5.2.2.1] ++ ([Value.int .u32 t5.2.2.2.1] ++ en (Value.int .u8) t5.2.2.2.2.1))))) rfl rfl (by kernel_rfl) rfl (by kernel_rfl) (by kernel_rfl) (by kernel_rfl) (len_app (len1 _) (len_app (len1 _) (len_app (len1 _) (len_app (len1 _) (len_en _ t5.2.2.2.2))))) (fun w hs => (hs.vars (k := 0) (by exact rfl) (Sub4.all _))) ?_
      obtain ⟨t9, hc10, H⟩ := bind_some H
      refine ls_callb (fid := 18) (vals := #[.slice none ([] : List Int).length 0, .agg ⟨([Value.int .i64 t5.1] ++ ([Value.int .i64 t5.2.1] ++ ([Value.int .i64 t5.2.2.1] ++ ([Value.int .u32 t5.2.2.2.1] ++ en (Value.int .u8) t5.2.2.2.2.1))))⟩]) (X := (Option Addr × Nat)) (fun x => .slice x.1 t9.length x.2) (fun x => stl [Ck.sl (Ec.int 5 .u8) x.1 x.2 t9]) [] [] [] [] 1 rfl rfl (by kernel_rfl) (fun w => by kernel_rfl) trivial trivial (by decide) (fun w hs hb => pointer_Put.calls k none 0 ([] : List Int) t5 t9 (lent b w [] []) hb (Ro.nil _ _) (Nat.le_refl 0) hc10) ?_
      intro x11
      refine ls_val (v := .slice x11.1 t9.length x11.2) rfl rfl (by kernel_rfl) (fun w => by kernel_rfl) ?_
      refine ls_end ?_
      refine qn_then ?_
      refine cs_cut (fun f S => ∃ (fR : Fr), f = upd (upd (upd fR 2 (.slice A2_1 l2_1.length c2_1)) 7 (.pointer (some ⟨g8, 0, none⟩))) 10 (.slice x11.1 t9.length x11.2) ∧ S = sput (sput s0 0 (some (Ck.var 25 g8 (([Value.int .i64 t5.1] ++ ([Value.int .i64 t5.2.1] ++ ([Value.int .i64 t5.2.2.1] ++ ([Value.int .u32 t5.2.2.2.1] ++ en (Value.int .u8) t5.2.2.2.2.1)))))))) 1 (some (Ck.sl (Ec.int 5 .u8) x11.1 x11.2 t9)) ∧ shadowboxlaw06_PointerBack.jo3 k l2_1 t5 t9 = some r) ?_ ?_
      · skip
        refine cs_seq ?_
        refine cs_region (l := [_, _, _]) ?_
        refine ls_val (v := .slice x11.1 t9.length x11.2) rfl rfl (by kernel_rfl) (fun w => by kernel_rfl) ?_
        refine ls_val (v := .int .i64 (t9.length : Int)) rfl rfl (by kernel_rfl) (fun w => by kernel_rfl) ?_
        refine ls_val (v := .bool (!decide ((t9.length : Int) = (52 : Int)))) rfl rfl (by kernel_rfl) (fun w => by kernel_rfl) ?_
        refine ls_end ?_
        refine qn_then ?_
        by_cases q74 : (t9.length : Int) = (52 : Int)
        · replace H := ite_t q74 H
          refine cs_know (c := false) (congrArg Bool.not (dec_t q74)) 60 (by kernel_rfl) ?_
          refine cs_false (by kernel_rfl) ?_
          refine cs_skip' ?_
          refine qn_meet (sput (sput s0 0 (some (Ck.var 25 g8 (([Value.int .i64 t5.1] ++ ([Value.int .i64 t5.2.1] ++ ([Value.int .i64 t5.2.2.1] ++ ([Value.int .u32 t5.2.2.2.1] ++ en (Value.int .u8) t5.2.2.2.2.1)))))))) 1 (some (Ck.sl (Ec.int 5 .u8) x11.1 x11.2 t9))) ⟨_, fr_next (fr_next (fr_next (rfl) (by kernel_rfl)) (by kernel_rfl)) (by kernel_rfl), rfl, H⟩ (sub_put (by exact rfl) (sub_put (by exact rfl) (sub_nil _)))
        · replace H := ite_f q74 H
          refine cs_know (c := true) (congrArg Bool.not (dec_f q74)) 60 (by kernel_rfl) ?_
          refine cs_true (by kernel_rfl) ?_
          refine cs_seq ?_
          refine cs_region (l := [_]) ?_
          refine ls_val (v := .bool false) rfl rfl (by kernel_rfl) (fun w => by kernel_rfl) ?_
          refine ls_end ?_
          refine qn_then ?_
          refine cs_ret' ?_
          refine qr_then ?_
          obtain rfl := Option.some.inj H
          refine qr_res (rs := [_]) rfl (fun w' hs => ⟨[.bool false], (res_tmp (by kernel_rfl) (.nil)), (), rfl, hs.pick (ts := []) (cs := []) trivial (by decide)⟩)
      · rintro f S ⟨fr3, rfl, rfl, H⟩
        replace H : ((if (([] : List Int).length + t9.length) * 1 ≤ 140737488355328 then (if ((([] : List Int) ++ t9).length + l2_1.length) * 1 ≤ 140737488355328 then (pointer_Read.f k ((([] : List Int) ++ t9) ++ l2_1)).bind fun t19 => (if (51 : Int) ≤ (t9.length : Int) then lt (t9.take ((51 : Int)).toNat) fun xl29 => (pointer_Read.f k xl29).bind fun t34 => (pointer_Right.f k t5).bind fun t40 => (if t40 = true then (if t19.2 = (0 : Int) then (if ((t19.1.1 == t5.1) && ((t19.1.2.1 == t5.2.1) && ((t19.1.2.2.1 == t5.2.2.1) && ((t19.1.2.2.2.1 == t5.2.2.2.1) && (t19.1.2.2.2.2.1 == t5.2.2.2.2.1))))) = true then (if t34.2 = (10 : Int) then (pointer_Check.f k t5 l2_1).bind fun t47 => (if t47 = (0 : Int) then (if (1 : Int) ≤ (l2_1.length : Int) then lt (l2_1.drop ((1 : Int)).toNat) fun xl56 => (pointer_Check.f k t5 xl56).bind fun t61 => (if t61 = (12 : Int) then (pointer_Sectors.f k t5).bind fun t65 => (if (IntKind.wrap .i64 (t65 * (512 : Int))) ≥ (l2_1.length : Int) then (pointer_Sectors.f k t5).bind fun t69 => lt (IntKind.wrap .i64 ((l2_1.length : Int) + (512 : Int))) fun y72 => some (decide ((IntKind.wrap .i64 (t69 * (512 : Int))) < y72)) else some false) else some false) else none) else some false) else some false) else some false) else some false) else some false) else none) else none) else none)) = some r := H
        refine cs_seq ?_
        refine cs_region (l := [_, _, _, _, _, _, _, _, _, _, _, _]) ?_
        refine ls_lit (Ec.int 5 .u8) 2 rfl rfl (by kernel_rfl) ([] : List Int) (by exact of_decide_eq_true (by kernel_rfl)) (fun w => by kernel_rfl) ?_
        intro g12
        refine ls_val (v := .slice x11.1 t9.length x11.2) rfl rfl (by kernel_rfl) (fun w => by kernel_rfl) ?_
        obtain ⟨q13, H⟩ := ite_need H
        refine ls_app (Ec.int 5 .u8) (A := (some ⟨g12, 0, none⟩)) (c := ([] : List Int).length) (B := x11.1) (cb := x11.2) (z := (Value.int .u8 0)) (l := ([] : List Int)) (m := t9) (bytes := 1) 2 rfl rfl (by kernel_rfl) rfl (by kernel_rfl) (by exact rfl) (by kernel_rfl) (fun w hs => (hs.rd (k := 1) (by exact rfl))) (by kernel_rfl) (by kernel_rfl) rfl (by decide) q13 ?_
        intro xA14 xc15
        refine ls_val (v := .slice A2_1 l2_1.length c2_1) rfl rfl (by kernel_rfl) (fun w => by kernel_rfl) ?_
        obtain ⟨q16, H⟩ := ite_need H
        refine ls_app (Ec.int 5 .u8) (A := xA14) (c := xc15) (B := A2_1) (cb := c2_1) (z := (Value.int .u8 0)) (l := (([] : List Int) ++ t9)) (m := l2_1) (bytes := 1) 2 rfl rfl (by kernel_rfl) rfl (by kernel_rfl) (by exact rfl) (by kernel_rfl) (fun w hs => (hs.old R2_1)) (by kernel_rfl) (by kernel_rfl) rfl (by decide) q16 ?_
        intro xA17 xc18
        obtain ⟨t19, hc20, H⟩ := bind_some H
        refine ls_callb (fid := 10) (vals := #[.slice xA17 ((([] : List Int) ++ t9) ++ l2_1).length xc18]) (X := Unit) (fun x => .tuple #[.agg ⟨([Value.int .i64 t19.1.1] ++ ([Value.int .i64 t19.1.2.1] ++ ([Value.int .i64 t19.1.2.2.1] ++ ([Value.int .u32 t19.1.2.2.2.1] ++ en (Value.int .u8) t19.1.2.2.2.2.1))))⟩, .int .i64 t19.2]) (fun x => stl []) [] [2] [] [Ck.sl (Ec.int 5 .u8) xA17 xc18 ((([] : List Int) ++ t9) ++ l2_1)] 3 rfl rfl (by kernel_rfl) (fun w => by kernel_rfl) trivial ⟨by exact rfl, trivial⟩ (by decide) (fun w hs hb => pointer_Read.calls k xA17 xc18 ((([] : List Int) ++ t9) ++ l2_1) t19 (lent b w [] [Ck.sl (Ec.int 5 .u8) xA17 xc18 ((([] : List Int) ++ t9) ++ l2_1)]) hb (hs.ror (k := 2) (by exact rfl) (.head _)) (hs.cap (k := 2) (by exact rfl)) hc20) ?_
        intro x21
        refine ls_val (v := .tuple #[.agg ⟨([Value.int .i64 t19.1.1] ++ ([Value.int .i64 t19.1.2.1] ++ ([Value.int .i64 t19.1.2.2.1] ++ ([Value.int .u32 t19.1.2.2.2.1] ++ en (Value.int .u8) t19.1.2.2.2.2.1))))⟩, .int .i64 t19.2]) rfl rfl (by kernel_rfl) (fun w => by kernel_rfl) ?_
        refine ls_val (v := .agg ⟨([Value.int .i64 t19.1.1] ++ ([Value.int .i64 t19.1.2.1] ++ ([Value.int .i64 t19.1.2.2.1] ++ ([Value.int .u32 t19.1.2.2.2.1] ++ en (Value.int .u8) t19.1.2.2.2.2.1))))⟩) rfl rfl (by kernel_rfl) (fun w => by kernel_rfl) ?_
        refine ls_val (v := .int .i64 t19.2) rfl rfl (by kernel_rfl) (fun w => by kernel_rfl) ?_
        refine ls_new rfl rfl (by kernel_rfl) 3 (fun g => .pointer (some ⟨g, 0, none⟩)) (.cells ⟨([Value.int .i64 (0 : Int)] ++ ([Value.int .i64 (0 : Int)] ++ ([Value.int .i64 (0 : Int)] ++ ([Value.int .u32 (0 : Int)] ++ en (Value.int .u8) (vrep 32 (0 : Int)).1))))⟩ 25) (fun w => by kernel_rfl) ?_
        intro g22
        refine ls_storec (g := g22) (off := 0) (v := .agg ⟨([Value.int .i64 t19.1.1] ++ ([Value.int .i64 t19.1.2.1] ++ ([Value.int .i64 t19.1.2.2.1] ++ ([Value.int .u32 t19.1.2.2.2.1] ++ en (Value.int .u8) t19.1.2.2.2.2.1))))⟩) (vs := ([Value.int .i64 t19.1.1] ++ ([Value.int .i64 t19.1.2.1] ++ ([Value.int .i64 t19.1.2.2.1] ++ ([Value.int .u32 t19.1.2.2.2.1] ++ en (Value.int .u8) t19.1.2.2.2.2.1))))) (cs := ([Value.int .i64 (0 : Int)] ++ ([Value.int .i64 (0 : Int)] ++ ([Value.int .i64 (0 : Int)] ++ ([Value.int .u32 (0 : Int)] ++ en (Value.int .u8) (vrep 32 (0 : Int)).1))))) (ty := 25) 3 rfl rfl rfl (by kernel_rfl) (by kernel_rfl) (by kernel_rfl) (by exact rfl) (by kernel_rfl) (len_app (len1 _) (len_app (len1 _) (len_app (len1 _) (len_app (len1 _) (len_en _ t19.1.2.2.2.2))))) (one_app (one_cons rfl one_nil) (one_app (one_cons rfl one_nil) (one_app (one_cons rfl one_nil) (one_app (one_cons rfl one_nil) (one_en (fun _ => rfl) _))))) (hl_of (Sub4.all _) (len_eq (len_app (len1 _) (len_app (len1 _) (len_app (len1 _) (len_app (len1 _) (len_en _ t19.1.2.2.2.2))))) (len_app (len1 _) (len_app (len1 _) (len_app (len1 _) (len_app (len1 _) (len_en _ (vrep 32 (0 : Int))))))))) (cs' := ([Value.int .i64 t19.1.1] ++ ([Value.int .i64 t19.1.2.1] ++ ([Value.int .i64 t19.1.2.2.1] ++ ([Value.int .u32 t19.1.2.2.2.1] ++ en (Value.int .u8) t19.1.2.2.2.2.1))))) (splc_all (len_eq (len_app (len1 _) (len_app (len1 _) (len_app (len1 _) (len_app (len1 _) (len_en _ t19.1.2.2.2.2))))) (len_app (len1 _) (len_app (len1 _) (len_app (len1 _) (len_app (len1 _) (len_en _ (vrep 32 (0 : Int))))))))) ?_
        refine ls_val (v := .int .i64 t19.2) rfl rfl (by kernel_rfl) (fun w => by kernel_rfl) ?_
        refine ls_end ?_
        refine qn_then ?_
        refine cs_seq ?_
        refine cs_region (l := [_, _, _, _, _, _, _, _, _]) ?_
        refine ls_val (v := .slice x11.1 t9.length x11.2) rfl rfl (by kernel_rfl) (fun w => by kernel_rfl) ?_
        obtain ⟨q24, H⟩ := ite_need H
        obtain ⟨xl29, hy30, H⟩ := lt_some H
        have hz32 : 0 ≤ ((51 : Int)).toNat := by omega
        have hz33 : ((51 : Int)).toNat ≤ t9.length := by omega
        refine ls_cap (T := (Ec.int 5 .u8)) (tk := 1) (by exact rfl) ?_
        intro hC23
        obtain ⟨xA25, xc26, he31, xC28, xR27⟩ := cutr_at (A := x11.1) (c := x11.2) (l := t9) (Ec.int 5 .u8) 0 (((51 : Int)).toNat) hz32 hz33 hC23 (m := xl29) (by rw [← hy30] <;> simp) (z := 1) rfl
        refine ls_cutv (A := x11.1) (c := x11.2) (m := t9.length) (z := 1) (e := 5) (a := 0) (b := ((51 : Int)).toNat) rfl rfl (by kernel_rfl) rfl (by kernel_rfl) (by kernel_rfl) (by kernel_rfl) (.inl ⟨rfl, rfl⟩) (.inr ⟨.i64, by rw [Int.toNat_of_nonneg (by first | assumption | omega)]; kernel_rfl⟩) hz32 hz33 hC23 he31 ?_
        obtain ⟨t34, hc35, H⟩ := bind_some H
        refine ls_callb (fid := 10) (vals := #[.slice xA25 xl29.length xc26]) (X := Unit) (fun x => .tuple #[.agg ⟨([Value.int .i64 t34.1.1] ++ ([Value.int .i64 t34.1.2.1] ++ ([Value.int .i64 t34.1.2.2.1] ++ ([Value.int .u32 t34.1.2.2.2.1] ++ en (Value.int .u8) t34.1.2.2.2.2.1))))⟩, .int .i64 t34.2]) (fun x => stl []) [] [1] [] [Ck.sl (Ec.int 5 .u8) x11.1 x11.2 t9] 4 rfl rfl (by kernel_rfl) (fun w => by kernel_rfl) trivial ⟨by exact rfl, trivial⟩ (by decide) (fun w hs hb => pointer_Read.calls k xA25 xc26 xl29 t34 (lent b w [] [Ck.sl (Ec.int 5 .u8) x11.1 x11.2 t9]) hb (Rd.ror (xR27.1 _ (hs.rd (k := 1) (by exact rfl))) (.head _) (cut_key xR27.2 Ck.sl_key)) xC28 hc35) ?_
        intro x36
        refine ls_val (v := .tuple #[.agg ⟨([Value.int .i64 t34.1.1] ++ ([Value.int .i64 t34.1.2.1] ++ ([Value.int .i64 t34.1.2.2.1] ++ ([Value.int .u32 t34.1.2.2.2.1] ++ en (Value.int .u8) t34.1.2.2.2.2.1))))⟩, .int .i64 t34.2]) rfl rfl (by kernel_rfl) (fun w => by kernel_rfl) ?_
        refine ls_val (v := .agg ⟨([Value.int .i64 t34.1.1] ++ ([Value.int .i64 t34.1.2.1] ++ ([Value.int .i64 t34.1.2.2.1] ++ ([Value.int .u32 t34.1.2.2.2.1] ++ en (Value.int .u8) t34.1.2.2.2.2.1))))⟩) rfl rfl (by kernel_rfl) (fun w => by kernel_rfl) ?_
        refine ls_val (v := .int .i64 t34.2) rfl rfl (by kernel_rfl) (fun w => by kernel_rfl) ?_
        refine ls_new rfl rfl (by kernel_rfl) 4 (fun g => .pointer (some ⟨g, 0, none⟩)) (.cells ⟨([Value.int .i64 (0 : Int)] ++ ([Value.int .i64 (0 : Int)] ++ ([Value.int .i64 (0 : Int)] ++ ([Value.int .u32 (0 : Int)] ++ en (Value.int .u8) (vrep 32 (0 : Int)).1))))⟩ 25) (fun w => by kernel_rfl) ?_
        intro g37
        refine ls_storec (g := g37) (off := 0) (v := .agg ⟨([Value.int .i64 t34.1.1] ++ ([Value.int .i64 t34.1.2.1] ++ ([Value.int .i64 t34.1.2.2.1] ++ ([Value.int .u32 t34.1.2.2.2.1] ++ en (Value.int .u8) t34.1.2.2.2.2.1))))⟩) (vs := ([Value.int .i64 t34.1.1] ++ ([Value.int .i64 t34.1.2.1] ++ ([Value.int .i64 t34.1.2.2.1] ++ ([Value.int .u32 t34.1.2.2.2.1] ++ en (Value.int .u8) t34.1.2.2.2.2.1))))) (cs := ([Value.int .i64 (0 : Int)] ++ ([Value.int .i64 (0 : Int)] ++ ([Value.int .i64 (0 : Int)] ++ ([Value.int .u32 (0 : Int)] ++ en (Value.int .u8) (vrep 32 (0 : Int)).1))))) (ty := 25) 4 rfl rfl rfl (by kernel_rfl) (by kernel_rfl) (by kernel_rfl) (by exact rfl) (by kernel_rfl) (len_app (len1 _) (len_app (len1 _) (len_app (len1 _) (len_app (len1 _) (len_en _ t34.1.2.2.2.2))))) (one_app (one_cons rfl one_nil) (one_app (one_cons rfl one_nil) (one_app (one_cons rfl one_nil) (one_app (one_cons rfl one_nil) (one_en (fun _ => rfl) _))))) (hl_of (Sub4.all _) (len_eq (len_app (len1 _) (len_app (len1 _) (len_app (len1 _) (len_app (len1 _) (len_en _ t34.1.2.2.2.2))))) (len_app (len1 _) (len_app (len1 _) (len_app (len1 _) (len_app (len1 _) (len_en _ (vrep 32 (0 : Int))))))))) (cs' := ([Value.int .i64 t34.1.1] ++ ([Value.int .i64 t34.1.2.1] ++ ([Value.int .i64 t34.1.2.2.1] ++ ([Value.int .u32 t34.1.2.2.2.1] ++ en (Value.int .u8) t34.1.2.2.2.2.1))))) (splc_all (len_eq (len_app (len1 _) (len_app (len1 _) (len_app (len1 _) (len_app (len1 _) (len_en _ t34.1.2.2.2.2))))) (len_app (len1 _) (len_app (len1 _) (len_app (len1 _) (len_app (len1 _) (len_en _ (vrep 32 (0 : Int))))))))) ?_
        refine ls_val (v := .int .i64 t34.2) rfl rfl (by kernel_rfl) (fun w => by kernel_rfl) ?_
        refine ls_end ?_
        refine qn_then ?_
        refine cs_seq ?_
        obtain ⟨s39_0, hs39_0⟩ : ∃ z : Value → Sto → Prop, z = (fun v R => v = .agg ⟨([Value.int .i64 t5.1] ++ ([Value.int .i64 t5.2.1] ++ ([Value.int .i64 t5.2.2.1] ++ ([Value.int .u32 t5.2.2.2.1] ++ en (Value.int .u8) t5.2.2.2.2.1))))⟩ ∧ R = s0) := ⟨_, rfl⟩
        refine have_op (l := [_, _, _, _, _, _, _, _, _, _, _, _, _, _, _, _, _, _, _, _, _, _, _, _, _, _, _, _, _, _, _, _, _, _, _, _, _, _, _, _, _, _, _, _, _, _]) shadowboxlaw06_PointerBack.tab37 5 0 (fun sp => sp 0 = s39_0) (fun sp on hA hon => ?_) (fun ops39_0 => ?_)
        · refine ⟨fun o ho vs Rs f' S' w hp hf hx hS hR hs => ?_⟩
          obtain rfl := Option.some.inj ho
          rw [hA, hs39_0]
          refine And.intro (fun a ha => (want_none rfl a ha).trans hon.symm) (And.intro (fun _ => ?_) (fun h => by rw [hon] at h; cases h))
          have hF := fr_next (rfl) ((hx 7 (by kernel_rfl)).trans (by kernel_rfl : (_ : Value) = .pointer (some ⟨g8, 0, none⟩)))
          refine ls_fr hF ?_
          refine ls_loadagg (a := ⟨g8, 0, none⟩) (sub := ([Value.int .i64 t5.1] ++ ([Value.int .i64 t5.2.1] ++ ([Value.int .i64 t5.2.2.1] ++ ([Value.int .u32 t5.2.2.2.1] ++ en (Value.int .u8) t5.2.2.2.2.1))))) rfl rfl (by kernel_rfl) rfl (by kernel_rfl) (by kernel_rfl) (by kernel_rfl) (len_app (len1 _) (len_app (len1 _) (len_app (len1 _) (len_app (len1 _) (len_en _ t5.2.2.2.2))))) (fun w1 hs1 => Rd.step (hs.vars (k := 0) ((hS 0 (by kernel_rfl)).trans (by exact rfl)) (Sub4.all _)) hs1.below.bw) ?_
          exact ls_fin s0 (.agg ⟨([Value.int .i64 t5.1] ++ ([Value.int .i64 t5.2.1] ++ ([Value.int .i64 t5.2.2.1] ++ ([Value.int .u32 t5.2.2.2.1] ++ en (Value.int .u8) t5.2.2.2.2.1))))⟩) (congrArg (fun z => upd z 76 _) hF.symm) ⟨rfl, rfl⟩ (sub_nil _)
        obtain ⟨t40, hc41, H⟩ := bind_some H
        obtain ⟨s39_1, hs39_1⟩ : ∃ z : Value → Sto → Prop, z = (fun v R => ∃ x42 : Unit, v = .bool t40 ∧ R = stl []) := ⟨_, rfl⟩
        refine have_op (l := [_, _, _, _, _, _, _, _, _, _, _, _, _, _, _, _, _, _, _, _, _, _, _, _, _, _, _, _, _, _, _, _, _, _, _, _, _, _, _, _, _, _, _, _, _, _]) shadowboxlaw06_PointerBack.tab37 5 1 (fun sp => sp 1 = s39_1 ∧ sp 0 = s39_0) (fun sp on hA hon => ?_) (fun ops39_1 => ?_)
        · refine ⟨fun o ho vs Rs f' S' w hp hf hx hS hR hs => ?_⟩
          obtain rfl := Option.some.inj ho
          obtain ⟨hv0, hR0⟩ := (spe hA.2 hs39_0 (hp 0 (by kernel_rfl)))
          rw [hA.1, hs39_1]
          refine And.intro (fun a ha => (want_none rfl a ha).trans hon.symm) (And.intro (fun _ => ?_) (fun h => by rw [hon] at h; cases h))
          have hF := fr_next (rfl) ((hf 0 76 (by kernel_rfl) rfl).trans hv0)
          refine ls_fr hF ?_
          refine ls_call (fid := 14) (vals := #[.agg ⟨([Value.int .i64 t5.1] ++ ([Value.int .i64 t5.2.1] ++ ([Value.int .i64 t5.2.2.1] ++ ([Value.int .u32 t5.2.2.2.1] ++ en (Value.int .u8) t5.2.2.2.2.1))))⟩]) (X := Unit) (fun x => .bool t40) (fun x => stl []) 0 rfl rfl (by kernel_rfl) (fun w => by kernel_rfl) (fun w1 hs1 => pointer_Right.calls k t5 t40 (bw w1) (St.refl w1)  hc41) ?_
          intro x42
          exact ls_fin (stl []) (.bool t40) (congrArg (fun z => upd z 77 _) hF.symm) ⟨x42, rfl, rfl⟩ (sub_join _)
        obtain ⟨s39_2, hs39_2⟩ : ∃ z : Value → Sto → Prop, z = (fun v R => v = .bool t40 ∧ R = s0) := ⟨_, rfl⟩
        refine have_op (l := [_, _, _, _, _, _, _, _, _, _, _, _, _, _, _, _, _, _, _, _, _, _, _, _, _, _, _, _, _, _, _, _, _, _, _, _, _, _, _, _, _, _, _, _, _, _]) shadowboxlaw06_PointerBack.tab37 5 2 (fun sp => sp 2 = s39_2 ∧ sp 1 = s39_1) (fun sp on hA hon => ?_) (fun ops39_2 => ?_)
        · refine ⟨fun o ho vs Rs f' S' w hp hf hx hS hR hs => ?_⟩
          obtain rfl := Option.some.inj ho
          obtain ⟨x42, hv1, hR1⟩ := (spe hA.2 hs39_1 (hp 1 (by kernel_rfl)))
          rw [hA.1, hs39_2]
          refine And.intro (fun a ha => (want_none rfl a ha).trans hon.symm) (And.intro (fun _ => ?_) (fun h => by rw [hon] at h; cases h))
          have hF := fr_next (rfl) ((hf 1 77 (by kernel_rfl) rfl).trans hv1)
          refine ls_fr hF ?_
          refine ls_val (v := .bool t40) rfl rfl (by kernel_rfl) (fun w => by kernel_rfl) ?_
          exact ls_fin s0 (.bool t40) (congrArg (fun z => upd z 78 _) hF.symm) ⟨rfl, rfl⟩ (sub_nil _)
        by_cases q43 : t40 = true
        · replace H := ite_t q43 H
          obtain ⟨s39_3, hs39_3⟩ : ∃ z : Value → Sto → Prop, z = (fun v R => v = .int .i64 t19.2 ∧ R = s0) := ⟨_, rfl⟩
          refine have_op (l := [_, _, _, _, _, _, _, _, _, _, _, _, _, _, _, _, _, _, _, _, _, _, _, _, _, _, _, _, _, _, _, _, _, _, _, _, _, _, _, _, _, _, _, _, _, _]) shadowboxlaw06_PointerBack.tab37 5 3 (fun sp => sp 3 = s39_3 ∧ sp 2 = s39_2) (fun sp on hA hon => ?_) (fun ops39_3 => ?_)
          · refine ⟨fun o ho vs Rs f' S' w hp hf hx hS hR hs => ?_⟩
            obtain rfl := Option.some.inj ho
            obtain ⟨hv2, hR2⟩ := (spe hA.2 hs39_2 (hp 2 (by kernel_rfl)))
            rw [hA.1, hs39_3]
            refine And.intro (fun a ha => (want_is (j := 2) (t := 78) (r := true) rfl rfl (by kernel_rfl) (((hf 2 78 (by kernel_rfl) rfl).trans hv2).trans (congrArg Value.bool (show t40 = true from q43))) rfl a ha).trans hon.symm) (And.intro (fun _ => ?_) (fun h => by rw [hon] at h; cases h))
            have hF := fr_next (fr_next (rfl) ((hx 12 (by kernel_rfl)).trans (by kernel_rfl : (_ : Value) = .int .i64 t19.2))) (((hf 2 78 (by kernel_rfl) rfl).trans hv2).trans (congrArg Value.bool (show t40 = true from q43)))
            refine ls_fr hF ?_
            refine ls_val (v := .int .i64 t19.2) rfl rfl (by kernel_rfl) (fun w => by kernel_rfl) ?_
            exact ls_fin s0 (.int .i64 t19.2) (congrArg (fun z => upd z 79 _) hF.symm) ⟨rfl, rfl⟩ (sub_nil _)
          obtain ⟨s39_4, hs39_4⟩ : ∃ z : Value → Sto → Prop, z = (fun v R => v = .bool (decide (t19.2 = (0 : Int))) ∧ R = s0) := ⟨_, rfl⟩
          refine have_op (l := [_, _, _, _, _, _, _, _, _, _, _, _, _, _, _, _, _, _, _, _, _, _, _, _, _, _, _, _, _, _, _, _, _, _, _, _, _, _, _, _, _, _, _, _, _, _]) shadowboxlaw06_PointerBack.tab37 5 4 (fun sp => sp 4 = s39_4 ∧ sp 2 = s39_2 ∧ sp 3 = s39_3) (fun sp on hA hon => ?_) (fun ops39_4 => ?_)
          · refine ⟨fun o ho vs Rs f' S' w hp hf hx hS hR hs => ?_⟩
            obtain rfl := Option.some.inj ho
            obtain ⟨hv2, hR2⟩ := (spe hA.2.1 hs39_2 (hp 2 (by kernel_rfl)))
            obtain ⟨hv3, hR3⟩ := (spe hA.2.2 hs39_3 (hp 3 (by kernel_rfl)))
            rw [hA.1, hs39_4]
            refine And.intro (fun a ha => (want_is (j := 2) (t := 78) (r := true) rfl rfl (by kernel_rfl) (((hf 2 78 (by kernel_rfl) rfl).trans hv2).trans (congrArg Value.bool (show t40 = true from q43))) rfl a ha).trans hon.symm) (And.intro (fun _ => ?_) (fun h => by rw [hon] at h; cases h))
            have hF := fr_next (fr_next (rfl) (((hf 2 78 (by kernel_rfl) rfl).trans hv2).trans (congrArg Value.bool (show t40 = true from q43)))) ((hf 3 79 (by kernel_rfl) rfl).trans hv3)
            refine ls_fr hF ?_
            refine ls_val (v := .bool (decide (t19.2 = (0 : Int)))) rfl rfl (by kernel_rfl) (fun w => by kernel_rfl) ?_
            exact ls_fin s0 (.bool (decide (t19.2 = (0 : Int)))) (congrArg (fun z => upd z 80 _) hF.symm) ⟨rfl, rfl⟩ (sub_nil _)
          obtain ⟨s39_5, hs39_5⟩ : ∃ z : Value → Sto → Prop, z = (fun v R => v = .bool (decide (t19.2 = (0 : Int))) ∧ R = s0) := ⟨_, rfl⟩
          refine have_op (l := [_, _, _, _, _, _, _, _, _, _, _, _, _, _, _, _, _, _, _, _, _, _, _, _, _, _, _, _, _, _, _, _, _, _, _, _, _, _, _, _, _, _, _, _, _, _]) shadowboxlaw06_PointerBack.tab37 5 5 (fun sp => sp 5 = s39_5 ∧ sp 2 = s39_2 ∧ sp 4 = s39_4) (fun sp on hA hon => ?_) (fun ops39_5 => ?_)
          · refine ⟨fun o ho vs Rs f' S' w hp hf hx hS hR hs => ?_⟩
            obtain rfl := Option.some.inj ho
            obtain ⟨hv2, hR2⟩ := (spe hA.2.1 hs39_2 (hp 2 (by kernel_rfl)))
            obtain ⟨hv4, hR4⟩ := (spe hA.2.2 hs39_4 (hp 4 (by kernel_rfl)))
            rw [hA.1, hs39_5]
            refine And.intro (fun a ha => (want_none rfl a ha).trans hon.symm) (And.intro (fun _ => ?_) (fun h => by rw [hon] at h; cases h))
            have hF := fr_next (fr_next (rfl) (((hf 2 78 (by kernel_rfl) rfl).trans hv2).trans (congrArg Value.bool (show t40 = true from q43)))) ((hf 4 80 (by kernel_rfl) rfl).trans hv4)
            refine ls_fr hF ?_
            refine ls_val (v := .bool (decide (t19.2 = (0 : Int)))) rfl rfl (by kernel_rfl) (fun w => by kernel_rfl) ?_
            exact ls_fin s0 (.bool (decide (t19.2 = (0 : Int)))) (congrArg (fun z => upd z 81 _) hF.symm) ⟨rfl, rfl⟩ (sub_nil _)
          obtain ⟨s39_6, hs39_6⟩ : ∃ z : Value → Sto → Prop, z = (fun v R => v = .bool (decide (t19.2 = (0 : Int))) ∧ R = s0) := ⟨_, rfl⟩
          refine have_op (l := [_, _, _, _, _, _, _, _, _, _, _, _, _, _, _, _, _, _, _, _, _, _, _, _, _, _, _, _, _, _, _, _, _, _, _, _, _, _, _, _, _, _, _, _, _, _]) shadowboxlaw06_PointerBack.tab37 5 6 (fun sp => sp 6 = s39_6 ∧ sp 5 = s39_5) (fun sp on hA hon => ?_) (fun ops39_6 => ?_)
          · refine ⟨fun o ho vs Rs f' S' w hp hf hx hS hR hs => ?_⟩
            obtain rfl := Option.some.inj ho
            obtain ⟨hv5, hR5⟩ := (spe hA.2 hs39_5 (hp 5 (by kernel_rfl)))
            rw [hA.1, hs39_6]
            refine And.intro (fun a ha => (want_none rfl a ha).trans hon.symm) (And.intro (fun _ => ?_) (fun h => by rw [hon] at h; cases h))
            have hF := fr_next (rfl) ((hf 5 81 (by kernel_rfl) rfl).trans hv5)
            refine ls_fr hF ?_
            refine ls_val (v := .bool (decide (t19.2 = (0 : Int)))) rfl rfl (by kernel_rfl) (fun w => by kernel_rfl) ?_
            exact ls_fin s0 (.bool (decide (t19.2 = (0 : Int)))) (congrArg (fun z => upd z 82 _) hF.symm) ⟨rfl, rfl⟩ (sub_nil _)
          by_cases q44 : t19.2 = (0 : Int)
          · replace H := ite_t q44 H
            obtain ⟨s39_7, hs39_7⟩ : ∃ z : Value → Sto → Prop, z = (fun v R => v = .agg ⟨([Value.int .i64 t19.1.1] ++ ([Value.int .i64 t19.1.2.1] ++ ([Value.int .i64 t19.1.2.2.1] ++ ([Value.int .u32 t19.1.2.2.2.1] ++ en (Value.int .u8) t19.1.2.2.2.2.1))))⟩ ∧ R = s0) := ⟨_, rfl⟩
            refine have_op (l := [_, _, _, _, _, _, _, _, _, _, _, _, _, _, _, _, _, _, _, _, _, _, _, _, _, _, _, _, _, _, _, _, _, _, _, _, _, _, _, _, _, _, _, _, _, _]) shadowboxlaw06_PointerBack.tab37 5 7 (fun sp => sp 7 = s39_7 ∧ sp 6 = s39_6) (fun sp on hA hon => ?_) (fun ops39_7 => ?_)
            · refine ⟨fun o ho vs Rs f' S' w hp hf hx hS hR hs => ?_⟩
              obtain rfl := Option.some.inj ho
              obtain ⟨hv6, hR6⟩ := (spe hA.2 hs39_6 (hp 6 (by kernel_rfl)))
              rw [hA.1, hs39_7]
              refine And.intro (fun a ha => (want_is (j := 6) (t := 82) (r := true) rfl rfl (by kernel_rfl) (((hf 6 82 (by kernel_rfl) rfl).trans hv6).trans (congrArg Value.bool (show (decide (t19.2 = (0 : Int))) = true from dec_t q44))) rfl a ha).trans hon.symm) (And.intro (fun _ => ?_) (fun h => by rw [hon] at h; cases h))
              have hF := fr_next (fr_next (rfl) ((hx 11 (by kernel_rfl)).trans (by kernel_rfl : (_ : Value) = .pointer (some ⟨g22, 0, none⟩)))) (((hf 6 82 (by kernel_rfl) rfl).trans hv6).trans (congrArg Value.bool (show (decide (t19.2 = (0 : Int))) = true from dec_t q44)))
              refine ls_fr hF ?_
              refine ls_loadagg (a := ⟨g22, 0, none⟩) (sub := ([Value.int .i64 t19.1.1] ++ ([Value.int .i64 t19.1.2.1] ++ ([Value.int .i64 t19.1.2.2.1] ++ ([Value.int .u32 t19.1.2.2.2.1] ++ en (Value.int .u8) t19.1.2.2.2.2.1))))) rfl rfl (by kernel_rfl) rfl (by kernel_rfl) (by kernel_rfl) (by kernel_rfl) (len_app (len1 _) (len_app (len1 _) (len_app (len1 _) (len_app (len1 _) (len_en _ t19.1.2.2.2.2))))) (fun w1 hs1 => Rd.step (hs.vars (k := 3) ((hS 3 (by kernel_rfl)).trans (by exact rfl)) (Sub4.all _)) hs1.below.bw) ?_
              exact ls_fin s0 (.agg ⟨([Value.int .i64 t19.1.1] ++ ([Value.int .i64 t19.1.2.1] ++ ([Value.int .i64 t19.1.2.2.1] ++ ([Value.int .u32 t19.1.2.2.2.1] ++ en (Value.int .u8) t19.1.2.2.2.2.1))))⟩) (congrArg (fun z => upd z 83 _) hF.symm) ⟨rfl, rfl⟩ (sub_nil _)
            obtain ⟨s39_8, hs39_8⟩ : ∃ z : Value → Sto → Prop, z = (fun v R => v = .agg ⟨([Value.int .i64 t5.1] ++ ([Value.int .i64 t5.2.1] ++ ([Value.int .i64 t5.2.2.1] ++ ([Value.int .u32 t5.2.2.2.1] ++ en (Value.int .u8) t5.2.2.2.2.1))))⟩ ∧ R = s0) := ⟨_, rfl⟩
            refine have_op (l := [_, _, _, _, _, _, _, _, _, _, _, _, _, _, _, _, _, _, _, _, _, _, _, _, _, _, _, _, _, _, _, _, _, _, _, _, _, _, _, _, _, _, _, _, _, _]) shadowboxlaw06_PointerBack.tab37 5 8 (fun sp => sp 8 = s39_8 ∧ sp 6 = s39_6) (fun sp on hA hon => ?_) (fun ops39_8 => ?_)
            · refine ⟨fun o ho vs Rs f' S' w hp hf hx hS hR hs => ?_⟩
              obtain rfl := Option.some.inj ho
              obtain ⟨hv6, hR6⟩ := (spe hA.2 hs39_6 (hp 6 (by kernel_rfl)))
              rw [hA.1, hs39_8]
              refine And.intro (fun a ha => (want_is (j := 6) (t := 82) (r := true) rfl rfl (by kernel_rfl) (((hf 6 82 (by kernel_rfl) rfl).trans hv6).trans (congrArg Value.bool (show (decide (t19.2 = (0 : Int))) = true from dec_t q44))) rfl a ha).trans hon.symm) (And.intro (fun _ => ?_) (fun h => by rw [hon] at h; cases h))
              have hF := fr_next (fr_next (rfl) ((hx 7 (by kernel_rfl)).trans (by kernel_rfl : (_ : Value) = .pointer (some ⟨g8, 0, none⟩)))) (((hf 6 82 (by kernel_rfl) rfl).trans hv6).trans (congrArg Value.bool (show (decide (t19.2 = (0 : Int))) = true from dec_t q44)))
              refine ls_fr hF ?_
              refine ls_loadagg (a := ⟨g8, 0, none⟩) (sub := ([Value.int .i64 t5.1] ++ ([Value.int .i64 t5.2.1] ++ ([Value.int .i64 t5.2.2.1] ++ ([Value.int .u32 t5.2.2.2.1] ++ en (Value.int .u8) t5.2.2.2.2.1))))) rfl rfl (by kernel_rfl) rfl (by kernel_rfl) (by kernel_rfl) (by kernel_rfl) (len_app (len1 _) (len_app (len1 _) (len_app (len1 _) (len_app (len1 _) (len_en _ t5.2.2.2.2))))) (fun w1 hs1 => Rd.step (hs.vars (k := 0) ((hS 0 (by kernel_rfl)).trans (by exact rfl)) (Sub4.all _)) hs1.below.bw) ?_
              exact ls_fin s0 (.agg ⟨([Value.int .i64 t5.1] ++ ([Value.int .i64 t5.2.1] ++ ([Value.int .i64 t5.2.2.1] ++ ([Value.int .u32 t5.2.2.2.1] ++ en (Value.int .u8) t5.2.2.2.2.1))))⟩) (congrArg (fun z => upd z 84 _) hF.symm) ⟨rfl, rfl⟩ (sub_nil _)
            obtain ⟨s39_9, hs39_9⟩ : ∃ z : Value → Sto → Prop, z = (fun v R => v = .bool ((t19.1.1 == t5.1) && ((t19.1.2.1 == t5.2.1) && ((t19.1.2.2.1 == t5.2.2.1) && ((t19.1.2.2.2.1 == t5.2.2.2.1) && (t19.1.2.2.2.2.1 == t5.2.2.2.2.1))))) ∧ R = s0) := ⟨_, rfl⟩
            refine have_op (l := [_, _, _, _, _, _, _, _, _, _, _, _, _, _, _, _, _, _, _, _, _, _, _, _, _, _, _, _, _, _, _, _, _, _, _, _, _, _, _, _, _, _, _, _, _, _]) shadowboxlaw06_PointerBack.tab37 5 9 (fun sp => sp 9 = s39_9 ∧ sp 6 = s39_6 ∧ sp 7 = s39_7 ∧ sp 8 = s39_8) (fun sp on hA hon => ?_) (fun ops39_9 => ?_)
            · refine ⟨fun o ho vs Rs f' S' w hp hf hx hS hR hs => ?_⟩
              obtain rfl := Option.some.inj ho
              obtain ⟨hv6, hR6⟩ := (spe hA.2.1 hs39_6 (hp 6 (by kernel_rfl)))
              obtain ⟨hv7, hR7⟩ := (spe hA.2.2.1 hs39_7 (hp 7 (by kernel_rfl)))
              obtain ⟨hv8, hR8⟩ := (spe hA.2.2.2 hs39_8 (hp 8 (by kernel_rfl)))
              rw [hA.1, hs39_9]
              refine And.intro (fun a ha => (want_is (j := 6) (t := 82) (r := true) rfl rfl (by kernel_rfl) (((hf 6 82 (by kernel_rfl) rfl).trans hv6).trans (congrArg Value.bool (show (decide (t19.2 = (0 : Int))) = true from dec_t q44))) rfl a ha).trans hon.symm) (And.intro (fun _ => ?_) (fun h => by rw [hon] at h; cases h))
              have hF := fr_next (fr_next (fr_next (rfl) (((hf 6 82 (by kernel_rfl) rfl).trans hv6).trans (congrArg Value.bool (show (decide (t19.2 = (0 : Int))) = true from dec_t q44)))) ((hf 7 83 (by kernel_rfl) rfl).trans hv7)) ((hf 8 84 (by kernel_rfl) rfl).trans hv8)
              refine ls_fr hF ?_
              refine ls_eql (xs := ([Value.int .i64 t19.1.1] ++ ([Value.int .i64 t19.1.2.1] ++ ([Value.int .i64 t19.1.2.2.1] ++ ([Value.int .u32 t19.1.2.2.2.1] ++ en (Value.int .u8) t19.1.2.2.2.2.1))))) (ys := ([Value.int .i64 t5.1] ++ ([Value.int .i64 t5.2.1] ++ ([Value.int .i64 t5.2.2.1] ++ ([Value.int .u32 t5.2.2.2.1] ++ en (Value.int .u8) t5.2.2.2.2.1))))) (r := ((t19.1.1 == t5.1) && ((t19.1.2.1 == t5.2.1) && ((t19.1.2.2.1 == t5.2.2.1) && ((t19.1.2.2.2.1 == t5.2.2.2.1) && (t19.1.2.2.2.2.1 == t5.2.2.2.2.1)))))) rfl rfl (by kernel_rfl) rfl (by kernel_rfl) (by kernel_rfl) (by kernel_rfl) (eq_st (by kernel_rfl) (by kernel_rfl) (eqf_cons (ft := 3) (fo := 0) (by kernel_rfl) (part_one (by kernel_rfl) (Sub4.trans (Sub4.all _) (Sub4.head _ _))) (part_one (by kernel_rfl) (Sub4.trans (Sub4.all _) (Sub4.head _ _))) (eq_int (by kernel_rfl) _ _ _) (eqf_cons (ft := 3) (fo := 1) (by kernel_rfl) (part_one (by kernel_rfl) (Sub4.trans (Sub4.all _) (Sub4.skip (n := 1) (len1 _) (Sub4.head _ _)))) (part_one (by kernel_rfl) (Sub4.trans (Sub4.all _) (Sub4.skip (n := 1) (len1 _) (Sub4.head _ _)))) (eq_int (by kernel_rfl) _ _ _) (eqf_cons (ft := 3) (fo := 2) (by kernel_rfl) (part_one (by kernel_rfl) (Sub4.trans (Sub4.all _) (Sub4.skip (n := 1) (len1 _) (Sub4.skip (n := 1) (len1 _) (Sub4.head _ _))))) (part_one (by kernel_rfl) (Sub4.trans (Sub4.all _) (Sub4.skip (n := 1) (len1 _) (Sub4.skip (n := 1) (len1 _) (Sub4.head _ _))))) (eq_int (by kernel_rfl) _ _ _) (eqf_cons (ft := 22) (fo := 3) (by kernel_rfl) (part_one (by kernel_rfl) (Sub4.trans (Sub4.all _) (Sub4.skip (n := 1) (len1 _) (Sub4.skip (n := 1) (len1 _) (Sub4.skip (n := 1) (len1 _) (Sub4.head _ _)))))) (part_one (by kernel_rfl) (Sub4.trans (Sub4.all _) (Sub4.skip (n := 1) (len1 _) (Sub4.skip (n := 1) (len1 _) (Sub4.skip (n := 1) (len1 _) (Sub4.head _ _)))))) (eq_int (by kernel_rfl) _ _ _) (eqf_last (ft := 23) (fo := 4) (by kernel_rfl) (part_agg (by kernel_rfl) (by kernel_rfl) (len_en _ t19.1.2.2.2.2) (Sub4.trans (Sub4.all _) (Sub4.skip (n := 1) (len1 _) (Sub4.skip (n := 1) (len1 _) (Sub4.skip (n := 1) (len1 _) (Sub4.skip (n := 1) (len1 _) (Sub4.all _))))))) (part_agg (by kernel_rfl) (by kernel_rfl) (len_en _ t5.2.2.2.2) (Sub4.trans (Sub4.all _) (Sub4.skip (n := 1) (len1 _) (Sub4.skip (n := 1) (len1 _) (Sub4.skip (n := 1) (len1 _) (Sub4.skip (n := 1) (len1 _) (Sub4.all _))))))) (eq_ints (e := 5) (ln := 32) (by kernel_rfl) (by kernel_rfl) (by kernel_rfl) t19.1.2.2.2.2.2 t5.2.2.2.2.2 _) (by kernel_rfl))))))) ?_
              exact ls_fin s0 (.bool ((t19.1.1 == t5.1) && ((t19.1.2.1 == t5.2.1) && ((t19.1.2.2.1 == t5.2.2.1) && ((t19.1.2.2.2.1 == t5.2.2.2.1) && (t19.1.2.2.2.2.1 == t5.2.2.2.2.1)))))) (congrArg (fun z => upd z 85 _) hF.symm) ⟨rfl, rfl⟩ (sub_nil _)
            obtain ⟨s39_10, hs39_10⟩ : ∃ z : Value → Sto → Prop, z = (fun v R => v = .bool ((t19.1.1 == t5.1) && ((t19.1.2.1 == t5.2.1) && ((t19.1.2.2.1 == t5.2.2.1) && ((t19.1.2.2.2.1 == t5.2.2.2.1) && (t19.1.2.2.2.2.1 == t5.2.2.2.2.1))))) ∧ R = s0) := ⟨_, rfl⟩
            refine have_op (l := [_, _, _, _, _, _, _, _, _, _, _, _, _, _, _, _, _, _, _, _, _, _, _, _, _, _, _, _, _, _, _, _, _, _, _, _, _, _, _, _, _, _, _, _, _, _]) shadowboxlaw06_PointerBack.tab37 5 10 (fun sp => sp 10 = s39_10 ∧ sp 6 = s39_6 ∧ sp 9 = s39_9) (fun sp on hA hon => ?_) (fun ops39_10 => ?_)
            · refine ⟨fun o ho vs Rs f' S' w hp hf hx hS hR hs => ?_⟩
              obtain rfl := Option.some.inj ho
              obtain ⟨hv6, hR6⟩ := (spe hA.2.1 hs39_6 (hp 6 (by kernel_rfl)))
              obtain ⟨hv9, hR9⟩ := (spe hA.2.2 hs39_9 (hp 9 (by kernel_rfl)))
              rw [hA.1, hs39_10]
              refine And.intro (fun a ha => (want_none rfl a ha).trans hon.symm) (And.intro (fun _ => ?_) (fun h => by rw [hon] at h; cases h))
              have hF := fr_next (fr_next (rfl) (((hf 6 82 (by kernel_rfl) rfl).trans hv6).trans (congrArg Value.bool (show (decide (t19.2 = (0 : Int))) = true from dec_t q44)))) ((hf 9 85 (by kernel_rfl) rfl).trans hv9)
              refine ls_fr hF ?_
              refine ls_val (v := .bool ((t19.1.1 == t5.1) && ((t19.1.2.1 == t5.2.1) && ((t19.1.2.2.1 == t5.2.2.1) && ((t19.1.2.2.2.1 == t5.2.2.2.1) && (t19.1.2.2.2.2.1 == t5.2.2.2.2.1)))))) rfl rfl (by kernel_rfl) (fun w => by kernel_rfl) ?_
              exact ls_fin s0 (.bool ((t19.1.1 == t5.1) && ((t19.1.2.1 == t5.2.1) && ((t19.1.2.2.1 == t5.2.2.1) && ((t19.1.2.2.2.1 == t5.2.2.2.1) && (t19.1.2.2.2.2.1 == t5.2.2.2.2.1)))))) (congrArg (fun z => upd z 86 _) hF.symm) ⟨rfl, rfl⟩ (sub_nil _)
            obtain ⟨s39_11, hs39_11⟩ : ∃ z : Value → Sto → Prop, z = (fun v R => v = .bool ((t19.1.1 == t5.1) && ((t19.1.2.1 == t5.2.1) && ((t19.1.2.2.1 == t5.2.2.1) && ((t19.1.2.2.2.1 == t5.2.2.2.1) && (t19.1.2.2.2.2.1 == t5.2.2.2.2.1))))) ∧ R = s0) := ⟨_, rfl⟩
            refine have_op (l := [_, _, _, _, _, _, _, _, _, _, _, _, _, _, _, _, _, _, _, _, _, _, _, _, _, _, _, _, _, _, _, _, _, _, _, _, _, _, _, _, _, _, _, _, _, _]) shadowboxlaw06_PointerBack.tab37 5 11 (fun sp => sp 11 = s39_11 ∧ sp 10 = s39_10) (fun sp on hA hon => ?_) (fun ops39_11 => ?_)
            · refine ⟨fun o ho vs Rs f' S' w hp hf hx hS hR hs => ?_⟩
              obtain rfl := Option.some.inj ho
              obtain ⟨hv10, hR10⟩ := (spe hA.2 hs39_10 (hp 10 (by kernel_rfl)))
              rw [hA.1, hs39_11]
              refine And.intro (fun a ha => (want_none rfl a ha).trans hon.symm) (And.intro (fun _ => ?_) (fun h => by rw [hon] at h; cases h))
              have hF := fr_next (rfl) ((hf 10 86 (by kernel_rfl) rfl).trans hv10)
              refine ls_fr hF ?_
              refine ls_val (v := .bool ((t19.1.1 == t5.1) && ((t19.1.2.1 == t5.2.1) && ((t19.1.2.2.1 == t5.2.2.1) && ((t19.1.2.2.2.1 == t5.2.2.2.1) && (t19.1.2.2.2.2.1 == t5.2.2.2.2.1)))))) rfl rfl (by kernel_rfl) (fun w => by kernel_rfl) ?_
              exact ls_fin s0 (.bool ((t19.1.1 == t5.1) && ((t19.1.2.1 == t5.2.1) && ((t19.1.2.2.1 == t5.2.2.1) && ((t19.1.2.2.2.1 == t5.2.2.2.1) && (t19.1.2.2.2.2.1 == t5.2.2.2.2.1)))))) (congrArg (fun z => upd z 87 _) hF.symm) ⟨rfl, rfl⟩ (sub_nil _)
            by_cases q45 : ((t19.1.1 == t5.1) && ((t19.1.2.1 == t5.2.1) && ((t19.1.2.2.1 == t5.2.2.1) && ((t19.1.2.2.2.1 == t5.2.2.2.1) && (t19.1.2.2.2.2.1 == t5.2.2.2.2.1))))) = true
            · replace H := ite_t q45 H
              obtain ⟨s39_12, hs39_12⟩ : ∃ z : Value → Sto → Prop, z = (fun v R => v = .int .i64 t34.2 ∧ R = s0) := ⟨_, rfl⟩
              refine have_op (l := [_, _, _, _, _, _, _, _, _, _, _, _, _, _, _, _, _, _, _, _, _, _, _, _, _, _, _, _, _, _, _, _, _, _, _, _, _, _, _, _, _, _, _, _, _, _]) shadowboxlaw06_PointerBack.tab37 5 12 (fun sp => sp 12 = s39_12 ∧ sp 11 = s39_11) (fun sp on hA hon => ?_) (fun ops39_12 => ?_)
              · refine ⟨fun o ho vs Rs f' S' w hp hf hx hS hR hs => ?_⟩
                obtain rfl := Option.some.inj ho
                obtain ⟨hv11, hR11⟩ := (spe hA.2 hs39_11 (hp 11 (by kernel_rfl)))
                rw [hA.1, hs39_12]
                refine And.intro (fun a ha => (want_is (j := 11) (t := 87) (r := true) rfl rfl (by kernel_rfl) (((hf 11 87 (by kernel_rfl) rfl).trans hv11).trans (congrArg Value.bool (show ((t19.1.1 == t5.1) && ((t19.1.2.1 == t5.2.1) && ((t19.1.2.2.1 == t5.2.2.1) && ((t19.1.2.2.2.1 == t5.2.2.2.1) && (t19.1.2.2.2.2.1 == t5.2.2.2.2.1))))) = true from q45))) rfl a ha).trans hon.symm) (And.intro (fun _ => ?_) (fun h => by rw [hon] at h; cases h))
                have hF := fr_next (fr_next (rfl) ((hx 14 (by kernel_rfl)).trans (by kernel_rfl : (_ : Value) = .int .i64 t34.2))) (((hf 11 87 (by kernel_rfl) rfl).trans hv11).trans (congrArg Value.bool (show ((t19.1.1 == t5.1) && ((t19.1.2.1 == t5.2.1) && ((t19.1.2.2.1 == t5.2.2.1) && ((t19.1.2.2.2.1 == t5.2.2.2.1) && (t19.1.2.2.2.2.1 == t5.2.2.2.2.1))))) = true from q45)))
                refine ls_fr hF ?_
                refine ls_val (v := .int .i64 t34.2) rfl rfl (by kernel_rfl) (fun w => by kernel_rfl) ?_
                exact ls_fin s0 (.int .i64 t34.2) (congrArg (fun z => upd z 88 _) hF.symm) ⟨rfl, rfl⟩ (sub_nil _)
              obtain ⟨s39_13, hs39_13⟩ : ∃ z : Value → Sto → Prop, z = (fun v R => v = .bool (decide (t34.2 = (10 : Int))) ∧ R = s0) := ⟨_, rfl⟩
              refine have_op (l := [_, _, _, _, _, _, _, _, _, _, _, _, _, _, _, _, _, _, _, _, _, _, _, _, _, _, _, _, _, _, _, _, _, _, _, _, _, _, _, _, _, _, _, _, _, _]) shadowboxlaw06_PointerBack.tab37 5 13 (fun sp => sp 13 = s39_13 ∧ sp 11 = s39_11 ∧ sp 12 = s39_12) (fun sp on hA hon => ?_) (fun ops39_13 => ?_)
              · refine ⟨fun o ho vs Rs f' S' w hp hf hx hS hR hs => ?_⟩
                obtain rfl := Option.some.inj ho
                obtain ⟨hv11, hR11⟩ := (spe hA.2.1 hs39_11 (hp 11 (by kernel_rfl)))
                obtain ⟨hv12, hR12⟩ := (spe hA.2.2 hs39_12 (hp 12 (by kernel_rfl)))
                rw [hA.1, hs39_13]
                refine And.intro (fun a ha => (want_is (j := 11) (t := 87) (r := true) rfl rfl (by kernel_rfl) (((hf 11 87 (by kernel_rfl) rfl).trans hv11).trans (congrArg Value.bool (show ((t19.1.1 == t5.1) && ((t19.1.2.1 == t5.2.1) && ((t19.1.2.2.1 == t5.2.2.1) && ((t19.1.2.2.2.1 == t5.2.2.2.1) && (t19.1.2.2.2.2.1 == t5.2.2.2.2.1))))) = true from q45))) rfl a ha).trans hon.symm) (And.intro (fun _ => ?_) (fun h => by rw [hon] at h; cases h))
                have hF := fr_next (fr_next (rfl) (((hf 11 87 (by kernel_rfl) rfl).trans hv11).trans (congrArg Value.bool (show ((t19.1.1 == t5.1) && ((t19.1.2.1 == t5.2.1) && ((t19.1.2.2.1 == t5.2.2.1) && ((t19.1.2.2.2.1 == t5.2.2.2.1) && (t19.1.2.2.2.2.1 == t5.2.2.2.2.1))))) = true from q45)))) ((hf 12 88 (by kernel_rfl) rfl).trans hv12)
                refine ls_fr hF ?_
                refine ls_val (v := .bool (decide (t34.2 = (10 : Int)))) rfl rfl (by kernel_rfl) (fun w => by kernel_rfl) ?_
                exact ls_fin s0 (.bool (decide (t34.2 = (10 : Int)))) (congrArg (fun z => upd z 89 _) hF.symm) ⟨rfl, rfl⟩ (sub_nil _)
              obtain ⟨s39_14, hs39_14⟩ : ∃ z : Value → Sto → Prop, z = (fun v R => v = .bool (decide (t34.2 = (10 : Int))) ∧ R = s0) := ⟨_, rfl⟩
              refine have_op (l := [_, _, _, _, _, _, _, _, _, _, _, _, _, _, _, _, _, _, _, _, _, _, _, _, _, _, _, _, _, _, _, _, _, _, _, _, _, _, _, _, _, _, _, _, _, _]) shadowboxlaw06_PointerBack.tab37 5 14 (fun sp => sp 14 = s39_14 ∧ sp 11 = s39_11 ∧ sp 13 = s39_13) (fun sp on hA hon => ?_) (fun ops39_14 => ?_)
              · refine ⟨fun o ho vs Rs f' S' w hp hf hx hS hR hs => ?_⟩
                obtain rfl := Option.some.inj ho
                obtain ⟨hv11, hR11⟩ := (spe hA.2.1 hs39_11 (hp 11 (by kernel_rfl)))
                obtain ⟨hv13, hR13⟩ := (spe hA.2.2 hs39_13 (hp 13 (by kernel_rfl)))
                rw [hA.1, hs39_14]
                refine And.intro (fun a ha => (want_none rfl a ha).trans hon.symm) (And.intro (fun _ => ?_) (fun h => by rw [hon] at h; cases h))
                have hF := fr_next (fr_next (rfl) (((hf 11 87 (by kernel_rfl) rfl).trans hv11).trans (congrArg Value.bool (show ((t19.1.1 == t5.1) && ((t19.1.2.1 == t5.2.1) && ((t19.1.2.2.1 == t5.2.2.1) && ((t19.1.2.2.2.1 == t5.2.2.2.1) && (t19.1.2.2.2.2.1 == t5.2.2.2.2.1))))) = true from q45)))) ((hf 13 89 (by kernel_rfl) rfl).trans hv13)
                refine ls_fr hF ?_
                refine ls_val (v := .bool (decide (t34.2 = (10 : Int)))) rfl rfl (by kernel_rfl) (fun w => by kernel_rfl) ?_
                exact ls_fin s0 (.bool (decide (t34.2 = (10 : Int)))) (congrArg (fun z => upd z 90 _) hF.symm) ⟨rfl, rfl⟩ (sub_nil _)
              obtain ⟨s39_15, hs39_15⟩ : ∃ z : Value → Sto → Prop, z = (fun v R => v = .bool (decide (t34.2 = (10 : Int))) ∧ R = s0) := ⟨_, rfl⟩
              refine have_op (l := [_, _, _, _, _, _, _, _, _, _, _, _, _, _, _, _, _, _, _, _, _, _, _, _, _, _, _, _, _, _, _, _, _, _, _, _, _, _, _, _, _, _, _, _, _, _]) shadowboxlaw06_PointerBack.tab37 5 15 (fun sp => sp 15 = s39_15 ∧ sp 14 = s39_14) (fun sp on hA hon => ?_) (fun ops39_15 => ?_)
              · refine ⟨fun o ho vs Rs f' S' w hp hf hx hS hR hs => ?_⟩
                obtain rfl := Option.some.inj ho
                obtain ⟨hv14, hR14⟩ := (spe hA.2 hs39_14 (hp 14 (by kernel_rfl)))
                rw [hA.1, hs39_15]
                refine And.intro (fun a ha => (want_none rfl a ha).trans hon.symm) (And.intro (fun _ => ?_) (fun h => by rw [hon] at h; cases h))
                have hF := fr_next (rfl) ((hf 14 90 (by kernel_rfl) rfl).trans hv14)
                refine ls_fr hF ?_
                refine ls_val (v := .bool (decide (t34.2 = (10 : Int)))) rfl rfl (by kernel_rfl) (fun w => by kernel_rfl) ?_
                exact ls_fin s0 (.bool (decide (t34.2 = (10 : Int)))) (congrArg (fun z => upd z 91 _) hF.symm) ⟨rfl, rfl⟩ (sub_nil _)
              by_cases q46 : t34.2 = (10 : Int)
              · replace H := ite_t q46 H
                obtain ⟨s39_16, hs39_16⟩ : ∃ z : Value → Sto → Prop, z = (fun v R => v = .agg ⟨([Value.int .i64 t5.1] ++ ([Value.int .i64 t5.2.1] ++ ([Value.int .i64 t5.2.2.1] ++ ([Value.int .u32 t5.2.2.2.1] ++ en (Value.int .u8) t5.2.2.2.2.1))))⟩ ∧ R = s0) := ⟨_, rfl⟩
                refine have_op (l := [_, _, _, _, _, _, _, _, _, _, _, _, _, _, _, _, _, _, _, _, _, _, _, _, _, _, _, _, _, _, _, _, _, _, _, _, _, _, _, _, _, _, _, _, _, _]) shadowboxlaw06_PointerBack.tab37 5 16 (fun sp => sp 16 = s39_16 ∧ sp 15 = s39_15) (fun sp on hA hon => ?_) (fun ops39_16 => ?_)
                · refine ⟨fun o ho vs Rs f' S' w hp hf hx hS hR hs => ?_⟩
                  obtain rfl := Option.some.inj ho
                  obtain ⟨hv15, hR15⟩ := (spe hA.2 hs39_15 (hp 15 (by kernel_rfl)))
                  rw [hA.1, hs39_16]
                  refine And.intro (fun a ha => (want_is (j := 15) (t := 91) (r := true) rfl rfl (by kernel_rfl) (((hf 15 91 (by kernel_rfl) rfl).trans hv15).trans (congrArg Value.bool (show (decide (t34.2 = (10 : Int))) = true from dec_t q46))) rfl a ha).trans hon.symm) (And.intro (fun _ => ?_) (fun h => by rw [hon] at h; cases h))
                  have hF := fr_next (fr_next (rfl) ((hx 7 (by kernel_rfl)).trans (by kernel_rfl : (_ : Value) = .pointer (some ⟨g8, 0, none⟩)))) (((hf 15 91 (by kernel_rfl) rfl).trans hv15).trans (congrArg Value.bool (show (decide (t34.2 = (10 : Int))) = true from dec_t q46)))
                  refine ls_fr hF ?_
                  refine ls_loadagg (a := ⟨g8, 0, none⟩) (sub := ([Value.int .i64 t5.1] ++ ([Value.int .i64 t5.2.1] ++ ([Value.int .i64 t5.2.2.1] ++ ([Value.int .u32 t5.2.2.2.1] ++ en (Value.int .u8) t5.2.2.2.2.1))))) rfl rfl (by kernel_rfl) rfl (by kernel_rfl) (by kernel_rfl) (by kernel_rfl) (len_app (len1 _) (len_app (len1 _) (len_app (len1 _) (len_app (len1 _) (len_en _ t5.2.2.2.2))))) (fun w1 hs1 => Rd.step (hs.vars (k := 0) ((hS 0 (by kernel_rfl)).trans (by exact rfl)) (Sub4.all _)) hs1.below.bw) ?_
                  exact ls_fin s0 (.agg ⟨([Value.int .i64 t5.1] ++ ([Value.int .i64 t5.2.1] ++ ([Value.int .i64 t5.2.2.1] ++ ([Value.int .u32 t5.2.2.2.1] ++ en (Value.int .u8) t5.2.2.2.2.1))))⟩) (congrArg (fun z => upd z 92 _) hF.symm) ⟨rfl, rfl⟩ (sub_nil _)
                obtain ⟨s39_17, hs39_17⟩ : ∃ z : Value → Sto → Prop, z = (fun v R => v = .slice A2_1 l2_1.length c2_1 ∧ R = s0) := ⟨_, rfl⟩
                refine have_op (l := [_, _, _, _, _, _, _, _, _, _, _, _, _, _, _, _, _, _, _, _, _, _, _, _, _, _, _, _, _, _, _, _, _, _, _, _, _, _, _, _, _, _, _, _, _, _]) shadowboxlaw06_PointerBack.tab37 5 17 (fun sp => sp 17 = s39_17 ∧ sp 15 = s39_15) (fun sp on hA hon => ?_) (fun ops39_17 => ?_)
                · refine ⟨fun o ho vs Rs f' S' w hp hf hx hS hR hs => ?_⟩
                  obtain rfl := Option.some.inj ho
                  obtain ⟨hv15, hR15⟩ := (spe hA.2 hs39_15 (hp 15 (by kernel_rfl)))
                  rw [hA.1, hs39_17]
                  refine And.intro (fun a ha => (want_is (j := 15) (t := 91) (r := true) rfl rfl (by kernel_rfl) (((hf 15 91 (by kernel_rfl) rfl).trans hv15).trans (congrArg Value.bool (show (decide (t34.2 = (10 : Int))) = true from dec_t q46))) rfl a ha).trans hon.symm) (And.intro (fun _ => ?_) (fun h => by rw [hon] at h; cases h))
                  have hF := fr_next (fr_next (rfl) ((hx 2 (by kernel_rfl)).trans (by kernel_rfl : (_ : Value) = .slice A2_1 l2_1.length c2_1))) (((hf 15 91 (by kernel_rfl) rfl).trans hv15).trans (congrArg Value.bool (show (decide (t34.2 = (10 : Int))) = true from dec_t q46)))
                  refine ls_fr hF ?_
                  refine ls_val (v := .slice A2_1 l2_1.length c2_1) rfl rfl (by kernel_rfl) (fun w => by kernel_rfl) ?_
                  exact ls_fin s0 (.slice A2_1 l2_1.length c2_1) (congrArg (fun z => upd z 93 _) hF.symm) ⟨rfl, rfl⟩ (sub_nil _)
                obtain ⟨t47, hc48, H⟩ := bind_some H
                obtain ⟨s39_18, hs39_18⟩ : ∃ z : Value → Sto → Prop, z = (fun v R => ∃ x49 : Unit, v = .int .i64 t47 ∧ R = stl []) := ⟨_, rfl⟩
                refine have_op (l := [_, _, _, _, _, _, _, _, _, _, _, _, _, _, _, _, _, _, _, _, _, _, _, _, _, _, _, _, _, _, _, _, _, _, _, _, _, _, _, _, _, _, _, _, _, _]) shadowboxlaw06_PointerBack.tab37 5 18 (fun sp => sp 18 = s39_18 ∧ sp 15 = s39_15 ∧ sp 16 = s39_16 ∧ sp 17 = s39_17) (fun sp on hA hon => ?_) (fun ops39_18 => ?_)
                · refine ⟨fun o ho vs Rs f' S' w hp hf hx hS hR hs => ?_⟩
                  obtain rfl := Option.some.inj ho
                  obtain ⟨hv15, hR15⟩ := (spe hA.2.1 hs39_15 (hp 15 (by kernel_rfl)))
                  obtain ⟨hv16, hR16⟩ := (spe hA.2.2.1 hs39_16 (hp 16 (by kernel_rfl)))
                  obtain ⟨hv17, hR17⟩ := (spe hA.2.2.2 hs39_17 (hp 17 (by kernel_rfl)))
                  rw [hA.1, hs39_18]
                  refine And.intro (fun a ha => (want_is (j := 15) (t := 91) (r := true) rfl rfl (by kernel_rfl) (((hf 15 91 (by kernel_rfl) rfl).trans hv15).trans (congrArg Value.bool (show (decide (t34.2 = (10 : Int))) = true from dec_t q46))) rfl a ha).trans hon.symm) (And.intro (fun _ => ?_) (fun h => by rw [hon] at h; cases h))
                  have hF := fr_next (fr_next (fr_next (rfl) (((hf 15 91 (by kernel_rfl) rfl).trans hv15).trans (congrArg Value.bool (show (decide (t34.2 = (10 : Int))) = true from dec_t q46)))) ((hf 16 92 (by kernel_rfl) rfl).trans hv16)) ((hf 17 93 (by kernel_rfl) rfl).trans hv17)
                  refine ls_fr hF ?_
                  refine ls_call (fid := 22) (vals := #[.agg ⟨([Value.int .i64 t5.1] ++ ([Value.int .i64 t5.2.1] ++ ([Value.int .i64 t5.2.2.1] ++ ([Value.int .u32 t5.2.2.2.1] ++ en (Value.int .u8) t5.2.2.2.2.1))))⟩, .slice A2_1 l2_1.length c2_1]) (X := Unit) (fun x => .int .i64 t47) (fun x => stl []) 0 rfl rfl (by kernel_rfl) (fun w => by kernel_rfl) (fun w1 hs1 => pointer_Check.calls k t5 A2_1 c2_1 l2_1 t47 (bw w1) (St.refl w1) (Rd.ro (Rd.step (hs.old R2_1) hs1.below.bw)) C2_1 hc48) ?_
                  intro x49
                  exact ls_fin (stl []) (.int .i64 t47) (congrArg (fun z => upd z 94 _) hF.symm) ⟨x49, rfl, rfl⟩ (sub_join _)
                obtain ⟨s39_19, hs39_19⟩ : ∃ z : Value → Sto → Prop, z = (fun v R => v = .bool (decide (t47 = (0 : Int))) ∧ R = s0) := ⟨_, rfl⟩
                refine have_op (l := [_, _, _, _, _, _, _, _, _, _, _, _, _, _, _, _, _, _, _, _, _, _, _, _, _, _, _, _, _, _, _, _, _, _, _, _, _, _, _, _, _, _, _, _, _, _]) shadowboxlaw06_PointerBack.tab37 5 19 (fun sp => sp 19 = s39_19 ∧ sp 15 = s39_15 ∧ sp 18 = s39_18) (fun sp on hA hon => ?_) (fun ops39_19 => ?_)
                · refine ⟨fun o ho vs Rs f' S' w hp hf hx hS hR hs => ?_⟩
                  obtain rfl := Option.some.inj ho
                  obtain ⟨hv15, hR15⟩ := (spe hA.2.1 hs39_15 (hp 15 (by kernel_rfl)))
                  obtain ⟨x49, hv18, hR18⟩ := (spe hA.2.2 hs39_18 (hp 18 (by kernel_rfl)))
                  rw [hA.1, hs39_19]
                  refine And.intro (fun a ha => (want_is (j := 15) (t := 91) (r := true) rfl rfl (by kernel_rfl) (((hf 15 91 (by kernel_rfl) rfl).trans hv15).trans (congrArg Value.bool (show (decide (t34.2 = (10 : Int))) = true from dec_t q46))) rfl a ha).trans hon.symm) (And.intro (fun _ => ?_) (fun h => by rw [hon] at h; cases h))
                  have hF := fr_next (fr_next (rfl) (((hf 15 91 (by kernel_rfl) rfl).trans hv15).trans (congrArg Value.bool (show (decide (t34.2 = (10 : Int))) = true from dec_t q46)))) ((hf 18 94 (by kernel_rfl) rfl).trans hv18)
                  refine ls_fr hF ?_
                  refine ls_val (v := .bool (decide (t47 = (0 : Int)))) rfl rfl (by kernel_rfl) (fun w => by kernel_rfl) ?_
                  exact ls_fin s0 (.bool (decide (t47 = (0 : Int)))) (congrArg (fun z => upd z 95 _) hF.symm) ⟨rfl, rfl⟩ (sub_nil _)
                obtain ⟨s39_20, hs39_20⟩ : ∃ z : Value → Sto → Prop, z = (fun v R => v = .bool (decide (t47 = (0 : Int))) ∧ R = s0) := ⟨_, rfl⟩
                refine have_op (l := [_, _, _, _, _, _, _, _, _, _, _, _, _, _, _, _, _, _, _, _, _, _, _, _, _, _, _, _, _, _, _, _, _, _, _, _, _, _, _, _, _, _, _, _, _, _]) shadowboxlaw06_PointerBack.tab37 5 20 (fun sp => sp 20 = s39_20 ∧ sp 15 = s39_15 ∧ sp 19 = s39_19) (fun sp on hA hon => ?_) (fun ops39_20 => ?_)
                · refine ⟨fun o ho vs Rs f' S' w hp hf hx hS hR hs => ?_⟩
                  obtain rfl := Option.some.inj ho
                  obtain ⟨hv15, hR15⟩ := (spe hA.2.1 hs39_15 (hp 15 (by kernel_rfl)))
                  obtain ⟨hv19, hR19⟩ := (spe hA.2.2 hs39_19 (hp 19 (by kernel_rfl)))
                  rw [hA.1, hs39_20]
                  refine And.intro (fun a ha => (want_none rfl a ha).trans hon.symm) (And.intro (fun _ => ?_) (fun h => by rw [hon] at h; cases h))
                  have hF := fr_next (fr_next (rfl) (((hf 15 91 (by kernel_rfl) rfl).trans hv15).trans (congrArg Value.bool (show (decide (t34.2 = (10 : Int))) = true from dec_t q46)))) ((hf 19 95 (by kernel_rfl) rfl).trans hv19)
                  refine ls_fr hF ?_
                  refine ls_val (v := .bool (decide (t47 = (0 : Int)))) rfl rfl (by kernel_rfl) (fun w => by kernel_rfl) ?_
                  exact ls_fin s0 (.bool (decide (t47 = (0 : Int)))) (congrArg (fun z => upd z 96 _) hF.symm) ⟨rfl, rfl⟩ (sub_nil _)
                obtain ⟨s39_21, hs39_21⟩ : ∃ z : Value → Sto → Prop, z = (fun v R => v = .bool (decide (t47 = (0 : Int))) ∧ R = s0) := ⟨_, rfl⟩
                refine have_op (l := [_, _, _, _, _, _, _, _, _, _, _, _, _, _, _, _, _, _, _, _, _, _, _, _, _, _, _, _, _, _, _, _, _, _, _, _, _, _, _, _, _, _, _, _, _, _]) shadowboxlaw06_PointerBack.tab37 5 21 (fun sp => sp 21 = s39_21 ∧ sp 20 = s39_20) (fun sp on hA hon => ?_) (fun ops39_21 => ?_)
                · refine ⟨fun o ho vs Rs f' S' w hp hf hx hS hR hs => ?_⟩
                  obtain rfl := Option.some.inj ho
                  obtain ⟨hv20, hR20⟩ := (spe hA.2 hs39_20 (hp 20 (by kernel_rfl)))
                  rw [hA.1, hs39_21]
                  refine And.intro (fun a ha => (want_none rfl a ha).trans hon.symm) (And.intro (fun _ => ?_) (fun h => by rw [hon] at h; cases h))
                  have hF := fr_next (rfl) ((hf 20 96 (by kernel_rfl) rfl).trans hv20)
                  refine ls_fr hF ?_
                  refine ls_val (v := .bool (decide (t47 = (0 : Int)))) rfl rfl (by kernel_rfl) (fun w => by kernel_rfl) ?_
                  exact ls_fin s0 (.bool (decide (t47 = (0 : Int)))) (congrArg (fun z => upd z 97 _) hF.symm) ⟨rfl, rfl⟩ (sub_nil _)
                by_cases q50 : t47 = (0 : Int)
                · replace H := ite_t q50 H
                  obtain ⟨s39_22, hs39_22⟩ : ∃ z : Value → Sto → Prop, z = (fun v R => v = .agg ⟨([Value.int .i64 t5.1] ++ ([Value.int .i64 t5.2.1] ++ ([Value.int .i64 t5.2.2.1] ++ ([Value.int .u32 t5.2.2.2.1] ++ en (Value.int .u8) t5.2.2.2.2.1))))⟩ ∧ R = s0) := ⟨_, rfl⟩
                  refine have_op (l := [_, _, _, _, _, _, _, _, _, _, _, _, _, _, _, _, _, _, _, _, _, _, _, _, _, _, _, _, _, _, _, _, _, _, _, _, _, _, _, _, _, _, _, _, _, _]) shadowboxlaw06_PointerBack.tab37 5 22 (fun sp => sp 22 = s39_22 ∧ sp 21 = s39_21) (fun sp on hA hon => ?_) (fun ops39_22 => ?_)
                  · refine ⟨fun o ho vs Rs f' S' w hp hf hx hS hR hs => ?_⟩
                    obtain rfl := Option.some.inj ho
                    obtain ⟨hv21, hR21⟩ := (spe hA.2 hs39_21 (hp 21 (by kernel_rfl)))
                    rw [hA.1, hs39_22]
                    refine And.intro (fun a ha => (want_is (j := 21) (t := 97) (r := true) rfl rfl (by kernel_rfl) (((hf 21 97 (by kernel_rfl) rfl).trans hv21).trans (congrArg Value.bool (show (decide (t47 = (0 : Int))) = true from dec_t q50))) rfl a ha).trans hon.symm) (And.intro (fun _ => ?_) (fun h => by rw [hon] at h; cases h))
                    have hF := fr_next (fr_next (rfl) ((hx 7 (by kernel_rfl)).trans (by kernel_rfl : (_ : Value) = .pointer (some ⟨g8, 0, none⟩)))) (((hf 21 97 (by kernel_rfl) rfl).trans hv21).trans (congrArg Value.bool (show (decide (t47 = (0 : Int))) = true from dec_t q50)))
                    refine ls_fr hF ?_
                    refine ls_loadagg (a := ⟨g8, 0, none⟩) (sub := ([Value.int .i64 t5.1] ++ ([Value.int .i64 t5.2.1] ++ ([Value.int .i64 t5.2.2.1] ++ ([Value.int .u32 t5.2.2.2.1] ++ en (Value.int .u8) t5.2.2.2.2.1))))) rfl rfl (by kernel_rfl) rfl (by kernel_rfl) (by kernel_rfl) (by kernel_rfl) (len_app (len1 _) (len_app (len1 _) (len_app (len1 _) (len_app (len1 _) (len_en _ t5.2.2.2.2))))) (fun w1 hs1 => Rd.step (hs.vars (k := 0) ((hS 0 (by kernel_rfl)).trans (by exact rfl)) (Sub4.all _)) hs1.below.bw) ?_
                    exact ls_fin s0 (.agg ⟨([Value.int .i64 t5.1] ++ ([Value.int .i64 t5.2.1] ++ ([Value.int .i64 t5.2.2.1] ++ ([Value.int .u32 t5.2.2.2.1] ++ en (Value.int .u8) t5.2.2.2.2.1))))⟩) (congrArg (fun z => upd z 98 _) hF.symm) ⟨rfl, rfl⟩ (sub_nil _)
                  obtain ⟨s39_23, hs39_23⟩ : ∃ z : Value → Sto → Prop, z = (fun v R => v = .slice A2_1 l2_1.length c2_1 ∧ R = s0) := ⟨_, rfl⟩
                  refine have_op (l := [_, _, _, _, _, _, _, _, _, _, _, _, _, _, _, _, _, _, _, _, _, _, _, _, _, _, _, _, _, _, _, _, _, _, _, _, _, _, _, _, _, _, _, _, _, _]) shadowboxlaw06_PointerBack.tab37 5 23 (fun sp => sp 23 = s39_23 ∧ sp 21 = s39_21) (fun sp on hA hon => ?_) (fun ops39_23 => ?_)
                  · refine ⟨fun o ho vs Rs f' S' w hp hf hx hS hR hs => ?_⟩
                    obtain rfl := Option.some.inj ho
                    obtain ⟨hv21, hR21⟩ := (spe hA.2 hs39_21 (hp 21 (by kernel_rfl)))
                    rw [hA.1, hs39_23]
                    refine And.intro (fun a ha => (want_is (j := 21) (t := 97) (r := true) rfl rfl (by kernel_rfl) (((hf 21 97 (by kernel_rfl) rfl).trans hv21).trans (congrArg Value.bool (show (decide (t47 = (0 : Int))) = true from dec_t q50))) rfl a ha).trans hon.symm) (And.intro (fun _ => ?_) (fun h => by rw [hon] at h; cases h))
                    have hF := fr_next (fr_next (rfl) ((hx 2 (by kernel_rfl)).trans (by kernel_rfl : (_ : Value) = .slice A2_1 l2_1.length c2_1))) (((hf 21 97 (by kernel_rfl) rfl).trans hv21).trans (congrArg Value.bool (show (decide (t47 = (0 : Int))) = true from dec_t q50)))
                    refine ls_fr hF ?_
                    refine ls_val (v := .slice A2_1 l2_1.length c2_1) rfl rfl (by kernel_rfl) (fun w => by kernel_rfl) ?_
                    exact ls_fin s0 (.slice A2_1 l2_1.length c2_1) (congrArg (fun z => upd z 99 _) hF.symm) ⟨rfl, rfl⟩ (sub_nil _)
                  obtain ⟨q51, H⟩ := ite_need H
                  obtain ⟨xl56, hy57, H⟩ := lt_some H
                  have hz59 : ((1 : Int)).toNat ≤ l2_1.length := by omega
                  have hz60 : l2_1.length ≤ l2_1.length := by omega
                  obtain ⟨xA52, xc53, he58, xC55, xR54⟩ := cut_at (A := A2_1) (c := c2_1) (l := l2_1) (Ec.int 5 .u8) (((1 : Int)).toNat) l2_1.length hz59 hz60 C2_1 R2_1 (m := xl56) (by rw [← hy57] <;> simp) (z := 1) rfl
                  obtain ⟨s39_24, hs39_24⟩ : ∃ z : Value → Sto → Prop, z = (fun v R => v = .slice xA52 xl56.length xc53 ∧ R = s0) := ⟨_, rfl⟩
                  refine have_op (l := [_, _, _, _, _, _, _, _, _, _, _, _, _, _, _, _, _, _, _, _, _, _, _, _, _, _, _, _, _, _, _, _, _, _, _, _, _, _, _, _, _, _, _, _, _, _]) shadowboxlaw06_PointerBack.tab37 5 24 (fun sp => sp 24 = s39_24 ∧ sp 21 = s39_21 ∧ sp 23 = s39_23) (fun sp on hA hon => ?_) (fun ops39_24 => ?_)
                  · refine ⟨fun o ho vs Rs f' S' w hp hf hx hS hR hs => ?_⟩
                    obtain rfl := Option.some.inj ho
                    obtain ⟨hv21, hR21⟩ := (spe hA.2.1 hs39_21 (hp 21 (by kernel_rfl)))
                    obtain ⟨hv23, hR23⟩ := (spe hA.2.2 hs39_23 (hp 23 (by kernel_rfl)))
                    rw [hA.1, hs39_24]
                    refine And.intro (fun a ha => (want_is (j := 21) (t := 97) (r := true) rfl rfl (by kernel_rfl) (((hf 21 97 (by kernel_rfl) rfl).trans hv21).trans (congrArg Value.bool (show (decide (t47 = (0 : Int))) = true from dec_t q50))) rfl a ha).trans hon.symm) (And.intro (fun _ => ?_) (fun h => by rw [hon] at h; cases h))
                    have hF := fr_next (fr_next (rfl) (((hf 21 97 (by kernel_rfl) rfl).trans hv21).trans (congrArg Value.bool (show (decide (t47 = (0 : Int))) = true from dec_t q50)))) ((hf 23 99 (by kernel_rfl) rfl).trans hv23)
                    refine ls_fr hF ?_
                    refine ls_cutv (A := A2_1) (c := c2_1) (m := l2_1.length) (z := 1) (e := 5) (a := ((1 : Int)).toNat) (b := l2_1.length) rfl rfl (by kernel_rfl) rfl (by kernel_rfl) (by kernel_rfl) (by kernel_rfl) (.inr ⟨.i64, by rw [Int.toNat_of_nonneg (by first | assumption | omega)]; kernel_rfl⟩) (.inl ⟨rfl, rfl⟩) hz59 hz60 C2_1 he58 ?_
                    exact ls_fin s0 (.slice xA52 xl56.length xc53) (congrArg (fun z => upd z 100 _) hF.symm) ⟨rfl, rfl⟩ (sub_nil _)
                  obtain ⟨t61, hc62, H⟩ := bind_some H
                  obtain ⟨s39_25, hs39_25⟩ : ∃ z : Value → Sto → Prop, z = (fun v R => ∃ x63 : Unit, v = .int .i64 t61 ∧ R = stl []) := ⟨_, rfl⟩
                  refine have_op (l := [_, _, _, _, _, _, _, _, _, _, _, _, _, _, _, _, _, _, _, _, _, _, _, _, _, _, _, _, _, _, _, _, _, _, _, _, _, _, _, _, _, _, _, _, _, _]) shadowboxlaw06_PointerBack.tab37 5 25 (fun sp => sp 25 = s39_25 ∧ sp 21 = s39_21 ∧ sp 22 = s39_22 ∧ sp 24 = s39_24) (fun sp on hA hon => ?_) (fun ops39_25 => ?_)
                  · refine ⟨fun o ho vs Rs f' S' w hp hf hx hS hR hs => ?_⟩
                    obtain rfl := Option.some.inj ho
                    obtain ⟨hv21, hR21⟩ := (spe hA.2.1 hs39_21 (hp 21 (by kernel_rfl)))
                    obtain ⟨hv22, hR22⟩ := (spe hA.2.2.1 hs39_22 (hp 22 (by kernel_rfl)))
                    obtain ⟨hv24, hR24⟩ := (spe hA.2.2.2 hs39_24 (hp 24 (by kernel_rfl)))
                    rw [hA.1, hs39_25]
                    refine And.intro (fun a ha => (want_is (j := 21) (t := 97) (r := true) rfl rfl (by kernel_rfl) (((hf 21 97 (by kernel_rfl) rfl).trans hv21).trans (congrArg Value.bool (show (decide (t47 = (0 : Int))) = true from dec_t q50))) rfl a ha).trans hon.symm) (And.intro (fun _ => ?_) (fun h => by rw [hon] at h; cases h))
                    have hF := fr_next (fr_next (fr_next (rfl) (((hf 21 97 (by kernel_rfl) rfl).trans hv21).trans (congrArg Value.bool (show (decide (t47 = (0 : Int))) = true from dec_t q50)))) ((hf 22 98 (by kernel_rfl) rfl).trans hv22)) ((hf 24 100 (by kernel_rfl) rfl).trans hv24)
                    refine ls_fr hF ?_
                    refine ls_call (fid := 22) (vals := #[.agg ⟨([Value.int .i64 t5.1] ++ ([Value.int .i64 t5.2.1] ++ ([Value.int .i64 t5.2.2.1] ++ ([Value.int .u32 t5.2.2.2.1] ++ en (Value.int .u8) t5.2.2.2.2.1))))⟩, .slice xA52 xl56.length xc53]) (X := Unit) (fun x => .int .i64 t61) (fun x => stl []) 0 rfl rfl (by kernel_rfl) (fun w => by kernel_rfl) (fun w1 hs1 => pointer_Check.calls k t5 xA52 xc53 xl56 t61 (bw w1) (St.refl w1) (Rd.ro (Rd.step (hs.old xR54) hs1.below.bw)) xC55 hc62) ?_
                    intro x63
                    exact ls_fin (stl []) (.int .i64 t61) (congrArg (fun z => upd z 101 _) hF.symm) ⟨x63, rfl, rfl⟩ (sub_join _)
                  obtain ⟨s39_26, hs39_26⟩ : ∃ z : Value → Sto → Prop, z = (fun v R => v = .bool (decide (t61 = (12 : Int))) ∧ R = s0) := ⟨_, rfl⟩
                  refine have_op (l := [_, _, _, _, _, _, _, _, _, _, _, _, _, _, _, _, _, _, _, _, _, _, _, _, _, _, _, _, _, _, _, _, _, _, _, _, _, _, _, _, _, _, _, _, _, _]) shadowboxlaw06_PointerBack.tab37 5 26 (fun sp => sp 26 = s39_26 ∧ sp 21 = s39_21 ∧ sp 25 = s39_25) (fun sp on hA hon => ?_) (fun ops39_26 => ?_)
                  · refine ⟨fun o ho vs Rs f' S' w hp hf hx hS hR hs => ?_⟩
                    obtain rfl := Option.some.inj ho
                    obtain ⟨hv21, hR21⟩ := (spe hA.2.1 hs39_21 (hp 21 (by kernel_rfl)))
                    obtain ⟨x63, hv25, hR25⟩ := (spe hA.2.2 hs39_25 (hp 25 (by kernel_rfl)))
                    rw [hA.1, hs39_26]
                    refine And.intro (fun a ha => (want_is (j := 21) (t := 97) (r := true) rfl rfl (by kernel_rfl) (((hf 21 97 (by kernel_rfl) rfl).trans hv21).trans (congrArg Value.bool (show (decide (t47 = (0 : Int))) = true from dec_t q50))) rfl a ha).trans hon.symm) (And.intro (fun _ => ?_) (fun h => by rw [hon] at h; cases h))
                    have hF := fr_next (fr_next (rfl) (((hf 21 97 (by kernel_rfl) rfl).trans hv21).trans (congrArg Value.bool (show (decide (t47 = (0 : Int))) = true from dec_t q50)))) ((hf 25 101 (by kernel_rfl) rfl).trans hv25)
                    refine ls_fr hF ?_
                    refine ls_val (v := .bool (decide (t61 = (12 : Int)))) rfl rfl (by kernel_rfl) (fun w => by kernel_rfl) ?_
                    exact ls_fin s0 (.bool (decide (t61 = (12 : Int)))) (congrArg (fun z => upd z 102 _) hF.symm) ⟨rfl, rfl⟩ (sub_nil _)
                  obtain ⟨s39_27, hs39_27⟩ : ∃ z : Value → Sto → Prop, z = (fun v R => v = .bool (decide (t61 = (12 : Int))) ∧ R = s0) := ⟨_, rfl⟩
                  refine have_op (l := [_, _, _, _, _, _, _, _, _, _, _, _, _, _, _, _, _, _, _, _, _, _, _, _, _, _, _, _, _, _, _, _, _, _, _, _, _, _, _, _, _, _, _, _, _, _]) shadowboxlaw06_PointerBack.tab37 5 27 (fun sp => sp 27 = s39_27 ∧ sp 21 = s39_21 ∧ sp 26 = s39_26) (fun sp on hA hon => ?_) (fun ops39_27 => ?_)
                  · refine ⟨fun o ho vs Rs f' S' w hp hf hx hS hR hs => ?_⟩
                    obtain rfl := Option.some.inj ho
                    obtain ⟨hv21, hR21⟩ := (spe hA.2.1 hs39_21 (hp 21 (by kernel_rfl)))
                    obtain ⟨hv26, hR26⟩ := (spe hA.2.2 hs39_26 (hp 26 (by kernel_rfl)))
                    rw [hA.1, hs39_27]
                    refine And.intro (fun a ha => (want_none rfl a ha).trans hon.symm) (And.intro (fun _ => ?_) (fun h => by rw [hon] at h; cases h))
                    have hF := fr_next (fr_next (rfl) (((hf 21 97 (by kernel_rfl) rfl).trans hv21).trans (congrArg Value.bool (show (decide (t47 = (0 : Int))) = true from dec_t q50)))) ((hf 26 102 (by kernel_rfl) rfl).trans hv26)
                    refine ls_fr hF ?_
                    refine ls_val (v := .bool (decide (t61 = (12 : Int)))) rfl rfl (by kernel_rfl) (fun w => by kernel_rfl) ?_
                    exact ls_fin s0 (.bool (decide (t61 = (12 : Int)))) (congrArg (fun z => upd z 103 _) hF.symm) ⟨rfl, rfl⟩ (sub_nil _)
                  obtain ⟨s39_28, hs39_28⟩ : ∃ z : Value → Sto → Prop, z = (fun v R => v = .bool (decide (t61 = (12 : Int))) ∧ R = s0) := ⟨_, rfl⟩
                  refine have_op (l := [_, _, _, _, _, _, _, _, _, _, _, _, _, _, _, _, _, _, _, _, _, _, _, _, _, _, _, _, _, _, _, _, _, _, _, _, _, _, _, _, _, _, _, _, _, _]) shadowboxlaw06_PointerBack.tab37 5 28 (fun sp => sp 28 = s39_28 ∧ sp 27 = s39_27) (fun sp on hA hon => ?_) (fun ops39_28 => ?_)
                  · refine ⟨fun o ho vs Rs f' S' w hp hf hx hS hR hs => ?_⟩
                    obtain rfl := Option.some.inj ho
                    obtain ⟨hv27, hR27⟩ := (spe hA.2 hs39_27 (hp 27 (by kernel_rfl)))
                    rw [hA.1, hs39_28]
                    refine And.intro (fun a ha => (want_none rfl a ha).trans hon.symm) (And.intro (fun _ => ?_) (fun h => by rw [hon] at h; cases h))
                    have hF := fr_next (rfl) ((hf 27 103 (by kernel_rfl) rfl).trans hv27)
                    refine ls_fr hF ?_
                    refine ls_val (v := .bool (decide (t61 = (12 : Int)))) rfl rfl (by kernel_rfl) (fun w => by kernel_rfl) ?_
                    exact ls_fin s0 (.bool (decide (t61 = (12 : Int)))) (congrArg (fun z => upd z 104 _) hF.symm) ⟨rfl, rfl⟩ (sub_nil _)
                  by_cases q64 : t61 = (12 : Int)
                  · replace H := ite_t q64 H
                    obtain ⟨s39_29, hs39_29⟩ : ∃ z : Value → Sto → Prop, z = (fun v R => v = .agg ⟨([Value.int .i64 t5.1] ++ ([Value.int .i64 t5.2.1] ++ ([Value.int .i64 t5.2.2.1] ++ ([Value.int .u32 t5.2.2.2.1] ++ en (Value.int .u8) t5.2.2.2.2.1))))⟩ ∧ R = s0) := ⟨_, rfl⟩
                    refine have_op (l := [_, _, _, _, _, _, _, _, _, _, _, _, _, _, _, _, _, _, _, _, _, _, _, _, _, _, _, _, _, _, _, _, _, _, _, _, _, _, _, _, _, _, _, _, _, _]) shadowboxlaw06_PointerBack.tab37 5 29 (fun sp => sp 29 = s39_29 ∧ sp 28 = s39_28) (fun sp on hA hon => ?_) (fun ops39_29 => ?_)
                    · refine ⟨fun o ho vs Rs f' S' w hp hf hx hS hR hs => ?_⟩
                      obtain rfl := Option.some.inj ho
                      obtain ⟨hv28, hR28⟩ := (spe hA.2 hs39_28 (hp 28 (by kernel_rfl)))
                      rw [hA.1, hs39_29]
                      refine And.intro (fun a ha => (want_is (j := 28) (t := 104) (r := true) rfl rfl (by kernel_rfl) (((hf 28 104 (by kernel_rfl) rfl).trans hv28).trans (congrArg Value.bool (show (decide (t61 = (12 : Int))) = true from dec_t q64))) rfl a ha).trans hon.symm) (And.intro (fun _ => ?_) (fun h => by rw [hon] at h; cases h))
                      have hF := fr_next (fr_next (rfl) ((hx 7 (by kernel_rfl)).trans (by kernel_rfl : (_ : Value) = .pointer (some ⟨g8, 0, none⟩)))) (((hf 28 104 (by kernel_rfl) rfl).trans hv28).trans (congrArg Value.bool (show (decide (t61 = (12 : Int))) = true from dec_t q64)))
                      refine ls_fr hF ?_
                      refine ls_loadagg (a := ⟨g8, 0, none⟩) (sub := ([Value.int .i64 t5.1] ++ ([Value.int .i64 t5.2.1] ++ ([Value.int .i64 t5.2.2.1] ++ ([Value.int .u32 t5.2.2.2.1] ++ en (Value.int .u8) t5.2.2.2.2.1))))) rfl rfl (by kernel_rfl) rfl (by kernel_rfl) (by kernel_rfl) (by kernel_rfl) (len_app (len1 _) (len_app (len1 _) (len_app (len1 _) (len_app (len1 _) (len_en _ t5.2.2.2.2))))) (fun w1 hs1 => Rd.step (hs.vars (k := 0) ((hS 0 (by kernel_rfl)).trans (by exact rfl)) (Sub4.all _)) hs1.below.bw) ?_
                      exact ls_fin s0 (.agg ⟨([Value.int .i64 t5.1] ++ ([Value.int .i64 t5.2.1] ++ ([Value.int .i64 t5.2.2.1] ++ ([Value.int .u32 t5.2.2.2.1] ++ en (Value.int .u8) t5.2.2.2.2.1))))⟩) (congrArg (fun z => upd z 105 _) hF.symm) ⟨rfl, rfl⟩ (sub_nil _)
                    obtain ⟨t65, hc66, H⟩ := bind_some H
                    obtain ⟨s39_30, hs39_30⟩ : ∃ z : Value → Sto → Prop, z = (fun v R => ∃ x67 : Unit, v = .int .i64 t65 ∧ R = stl []) := ⟨_, rfl⟩
                    refine have_op (l := [_, _, _, _, _, _, _, _, _, _, _, _, _, _, _, _, _, _, _, _, _, _, _, _, _, _, _, _, _, _, _, _, _, _, _, _, _, _, _, _, _, _, _, _, _, _]) shadowboxlaw06_PointerBack.tab37 5 30 (fun sp => sp 30 = s39_30 ∧ sp 28 = s39_28 ∧ sp 29 = s39_29) (fun sp on hA hon => ?_) (fun ops39_30 => ?_)
                    · refine ⟨fun o ho vs Rs f' S' w hp hf hx hS hR hs => ?_⟩
                      obtain rfl := Option.some.inj ho
                      obtain ⟨hv28, hR28⟩ := (spe hA.2.1 hs39_28 (hp 28 (by kernel_rfl)))
                      obtain ⟨hv29, hR29⟩ := (spe hA.2.2 hs39_29 (hp 29 (by kernel_rfl)))
                      rw [hA.1, hs39_30]
                      refine And.intro (fun a ha => (want_is (j := 28) (t := 104) (r := true) rfl rfl (by kernel_rfl) (((hf 28 104 (by kernel_rfl) rfl).trans hv28).trans (congrArg Value.bool (show (decide (t61 = (12 : Int))) = true from dec_t q64))) rfl a ha).trans hon.symm) (And.intro (fun _ => ?_) (fun h => by rw [hon] at h; cases h))
                      have hF := fr_next (fr_next (rfl) (((hf 28 104 (by kernel_rfl) rfl).trans hv28).trans (congrArg Value.bool (show (decide (t61 = (12 : Int))) = true from dec_t q64)))) ((hf 29 105 (by kernel_rfl) rfl).trans hv29)
                      refine ls_fr hF ?_
                      refine ls_call (fid := 16) (vals := #[.agg ⟨([Value.int .i64 t5.1] ++ ([Value.int .i64 t5.2.1] ++ ([Value.int .i64 t5.2.2.1] ++ ([Value.int .u32 t5.2.2.2.1] ++ en (Value.int .u8) t5.2.2.2.2.1))))⟩]) (X := Unit) (fun x => .int .i64 t65) (fun x => stl []) 0 rfl rfl (by kernel_rfl) (fun w => by kernel_rfl) (fun w1 hs1 => pointer_Sectors.calls k t5 t65 (bw w1) (St.refl w1)  hc66) ?_
                      intro x67
                      exact ls_fin (stl []) (.int .i64 t65) (congrArg (fun z => upd z 106 _) hF.symm) ⟨x67, rfl, rfl⟩ (sub_join _)
                    obtain ⟨s39_31, hs39_31⟩ : ∃ z : Value → Sto → Prop, z = (fun v R => v = .int .i64 (IntKind.wrap .i64 (t65 * (512 : Int))) ∧ R = s0) := ⟨_, rfl⟩
                    refine have_op (l := [_, _, _, _, _, _, _, _, _, _, _, _, _, _, _, _, _, _, _, _, _, _, _, _, _, _, _, _, _, _, _, _, _, _, _, _, _, _, _, _, _, _, _, _, _, _]) shadowboxlaw06_PointerBack.tab37 5 31 (fun sp => sp 31 = s39_31 ∧ sp 28 = s39_28 ∧ sp 30 = s39_30) (fun sp on hA hon => ?_) (fun ops39_31 => ?_)
                    · refine ⟨fun o ho vs Rs f' S' w hp hf hx hS hR hs => ?_⟩
                      obtain rfl := Option.some.inj ho
                      obtain ⟨hv28, hR28⟩ := (spe hA.2.1 hs39_28 (hp 28 (by kernel_rfl)))
                      obtain ⟨x67, hv30, hR30⟩ := (spe hA.2.2 hs39_30 (hp 30 (by kernel_rfl)))
                      rw [hA.1, hs39_31]
                      refine And.intro (fun a ha => (want_is (j := 28) (t := 104) (r := true) rfl rfl (by kernel_rfl) (((hf 28 104 (by kernel_rfl) rfl).trans hv28).trans (congrArg Value.bool (show (decide (t61 = (12 : Int))) = true from dec_t q64))) rfl a ha).trans hon.symm) (And.intro (fun _ => ?_) (fun h => by rw [hon] at h; cases h))
                      have hF := fr_next (fr_next (rfl) (((hf 28 104 (by kernel_rfl) rfl).trans hv28).trans (congrArg Value.bool (show (decide (t61 = (12 : Int))) = true from dec_t q64)))) ((hf 30 106 (by kernel_rfl) rfl).trans hv30)
                      refine ls_fr hF ?_
                      refine ls_val (v := .int .i64 (IntKind.wrap .i64 (t65 * (512 : Int)))) rfl rfl (by kernel_rfl) (fun w => by kernel_rfl) ?_
                      exact ls_fin s0 (.int .i64 (IntKind.wrap .i64 (t65 * (512 : Int)))) (congrArg (fun z => upd z 107 _) hF.symm) ⟨rfl, rfl⟩ (sub_nil _)
                    obtain ⟨s39_32, hs39_32⟩ : ∃ z : Value → Sto → Prop, z = (fun v R => v = .slice A2_1 l2_1.length c2_1 ∧ R = s0) := ⟨_, rfl⟩
                    refine have_op (l := [_, _, _, _, _, _, _, _, _, _, _, _, _, _, _, _, _, _, _, _, _, _, _, _, _, _, _, _, _, _, _, _, _, _, _, _, _, _, _, _, _, _, _, _, _, _]) shadowboxlaw06_PointerBack.tab37 5 32 (fun sp => sp 32 = s39_32 ∧ sp 28 = s39_28) (fun sp on hA hon => ?_) (fun ops39_32 => ?_)
                    · refine ⟨fun o ho vs Rs f' S' w hp hf hx hS hR hs => ?_⟩
                      obtain rfl := Option.some.inj ho
                      obtain ⟨hv28, hR28⟩ := (spe hA.2 hs39_28 (hp 28 (by kernel_rfl)))
                      rw [hA.1, hs39_32]
                      refine And.intro (fun a ha => (want_is (j := 28) (t := 104) (r := true) rfl rfl (by kernel_rfl) (((hf 28 104 (by kernel_rfl) rfl).trans hv28).trans (congrArg Value.bool (show (decide (t61 = (12 : Int))) = true from dec_t q64))) rfl a ha).trans hon.symm) (And.intro (fun _ => ?_) (fun h => by rw [hon] at h; cases h))
                      have hF := fr_next (fr_next (rfl) ((hx 2 (by kernel_rfl)).trans (by kernel_rfl : (_ : Value) = .slice A2_1 l2_1.length c2_1))) (((hf 28 104 (by kernel_rfl) rfl).trans hv28).trans (congrArg Value.bool (show (decide (t61 = (12 : Int))) = true from dec_t q64)))
                      refine ls_fr hF ?_
                      refine ls_val (v := .slice A2_1 l2_1.length c2_1) rfl rfl (by kernel_rfl) (fun w => by kernel_rfl) ?_
                      exact ls_fin s0 (.slice A2_1 l2_1.length c2_1) (congrArg (fun z => upd z 108 _) hF.symm) ⟨rfl, rfl⟩ (sub_nil _)
                    obtain ⟨s39_33, hs39_33⟩ : ∃ z : Value → Sto → Prop, z = (fun v R => v = .int .i64 (l2_1.length : Int) ∧ R = s0) := ⟨_, rfl⟩
                    refine have_op (l := [_, _, _, _, _, _, _, _, _, _, _, _, _, _, _, _, _, _, _, _, _, _, _, _, _, _, _, _, _, _, _, _, _, _, _, _, _, _, _, _, _, _, _, _, _, _]) shadowboxlaw06_PointerBack.tab37 5 33 (fun sp => sp 33 = s39_33 ∧ sp 28 = s39_28 ∧ sp 32 = s39_32) (fun sp on hA hon => ?_) (fun ops39_33 => ?_)
                    · refine ⟨fun o ho vs Rs f' S' w hp hf hx hS hR hs => ?_⟩
                      obtain rfl := Option.some.inj ho
                      obtain ⟨hv28, hR28⟩ := (spe hA.2.1 hs39_28 (hp 28 (by kernel_rfl)))
                      obtain ⟨hv32, hR32⟩ := (spe hA.2.2 hs39_32 (hp 32 (by kernel_rfl)))
                      rw [hA.1, hs39_33]
                      refine And.intro (fun a ha => (want_is (j := 28) (t := 104) (r := true) rfl rfl (by kernel_rfl) (((hf 28 104 (by kernel_rfl) rfl).trans hv28).trans (congrArg Value.bool (show (decide (t61 = (12 : Int))) = true from dec_t q64))) rfl a ha).trans hon.symm) (And.intro (fun _ => ?_) (fun h => by rw [hon] at h; cases h))
                      have hF := fr_next (fr_next (rfl) (((hf 28 104 (by kernel_rfl) rfl).trans hv28).trans (congrArg Value.bool (show (decide (t61 = (12 : Int))) = true from dec_t q64)))) ((hf 32 108 (by kernel_rfl) rfl).trans hv32)
                      refine ls_fr hF ?_
                      refine ls_val (v := .int .i64 (l2_1.length : Int)) rfl rfl (by kernel_rfl) (fun w => by kernel_rfl) ?_
                      exact ls_fin s0 (.int .i64 (l2_1.length : Int)) (congrArg (fun z => upd z 109 _) hF.symm) ⟨rfl, rfl⟩ (sub_nil _)
                    obtain ⟨s39_34, hs39_34⟩ : ∃ z : Value → Sto → Prop, z = (fun v R => v = .bool (decide ((IntKind.wrap .i64 (t65 * (512 : Int))) ≥ (l2_1.length : Int))) ∧ R = s0) := ⟨_, rfl⟩
                    refine have_op (l := [_, _, _, _, _, _, _, _, _, _, _, _, _, _, _, _, _, _, _, _, _, _, _, _, _, _, _, _, _, _, _, _, _, _, _, _, _, _, _, _, _, _, _, _, _, _]) shadowboxlaw06_PointerBack.tab37 5 34 (fun sp => sp 34 = s39_34 ∧ sp 28 = s39_28 ∧ sp 31 = s39_31 ∧ sp 33 = s39_33) (fun sp on hA hon => ?_) (fun ops39_34 => ?_)
                    · refine ⟨fun o ho vs Rs f' S' w hp hf hx hS hR hs => ?_⟩
                      obtain rfl := Option.some.inj ho
                      obtain ⟨hv28, hR28⟩ := (spe hA.2.1 hs39_28 (hp 28 (by kernel_rfl)))
                      obtain ⟨hv31, hR31⟩ := (spe hA.2.2.1 hs39_31 (hp 31 (by kernel_rfl)))
                      obtain ⟨hv33, hR33⟩ := (spe hA.2.2.2 hs39_33 (hp 33 (by kernel_rfl)))
                      rw [hA.1, hs39_34]
                      refine And.intro (fun a ha => (want_is (j := 28) (t := 104) (r := true) rfl rfl (by kernel_rfl) (((hf 28 104 (by kernel_rfl) rfl).trans hv28).trans (congrArg Value.bool (show (decide (t61 = (12 : Int))) = true from dec_t q64))) rfl a ha).trans hon.symm) (And.intro (fun _ => ?_) (fun h => by rw [hon] at h; cases h))
                      have hF := fr_next (fr_next (fr_next (rfl) (((hf 28 104 (by kernel_rfl) rfl).trans hv28).trans (congrArg Value.bool (show (decide (t61 = (12 : Int))) = true from dec_t q64)))) ((hf 31 107 (by kernel_rfl) rfl).trans hv31)) ((hf 33 109 (by kernel_rfl) rfl).trans hv33)
                      refine ls_fr hF ?_
                      refine ls_val (v := .bool (decide ((IntKind.wrap .i64 (t65 * (512 : Int))) ≥ (l2_1.length : Int)))) rfl rfl (by kernel_rfl) (fun w => by kernel_rfl) ?_
                      exact ls_fin s0 (.bool (decide ((IntKind.wrap .i64 (t65 * (512 : Int))) ≥ (l2_1.length : Int)))) (congrArg (fun z => upd z 110 _) hF.symm) ⟨rfl, rfl⟩ (sub_nil _)
                    obtain ⟨s39_35, hs39_35⟩ : ∃ z : Value → Sto → Prop, z = (fun v R => v = .bool (decide ((IntKind.wrap .i64 (t65 * (512 : Int))) ≥ (l2_1.length : Int))) ∧ R = s0) := ⟨_, rfl⟩
                    refine have_op (l := [_, _, _, _, _, _, _, _, _, _, _, _, _, _, _, _, _, _, _, _, _, _, _, _, _, _, _, _, _, _, _, _, _, _, _, _, _, _, _, _, _, _, _, _, _, _]) shadowboxlaw06_PointerBack.tab37 5 35 (fun sp => sp 35 = s39_35 ∧ sp 28 = s39_28 ∧ sp 34 = s39_34) (fun sp on hA hon => ?_) (fun ops39_35 => ?_)
                    · refine ⟨fun o ho vs Rs f' S' w hp hf hx hS hR hs => ?_⟩
                      obtain rfl := Option.some.inj ho
                      obtain ⟨hv28, hR28⟩ := (spe hA.2.1 hs39_28 (hp 28 (by kernel_rfl)))
                      obtain ⟨hv34, hR34⟩ := (spe hA.2.2 hs39_34 (hp 34 (by kernel_rfl)))
                      rw [hA.1, hs39_35]
                      refine And.intro (fun a ha => (want_none rfl a ha).trans hon.symm) (And.intro (fun _ => ?_) (fun h => by rw [hon] at h; cases h))
                      have hF := fr_next (fr_next (rfl) (((hf 28 104 (by kernel_rfl) rfl).trans hv28).trans (congrArg Value.bool (show (decide (t61 = (12 : Int))) = true from dec_t q64)))) ((hf 34 110 (by kernel_rfl) rfl).trans hv34)
                      refine ls_fr hF ?_
                      refine ls_val (v := .bool (decide ((IntKind.wrap .i64 (t65 * (512 : Int))) ≥ (l2_1.length : Int)))) rfl rfl (by kernel_rfl) (fun w => by kernel_rfl) ?_
                      exact ls_fin s0 (.bool (decide ((IntKind.wrap .i64 (t65 * (512 : Int))) ≥ (l2_1.length : Int)))) (congrArg (fun z => upd z 111 _) hF.symm) ⟨rfl, rfl⟩ (sub_nil _)
                    obtain ⟨s39_36, hs39_36⟩ : ∃ z : Value → Sto → Prop, z = (fun v R => v = .bool (decide ((IntKind.wrap .i64 (t65 * (512 : Int))) ≥ (l2_1.length : Int))) ∧ R = s0) := ⟨_, rfl⟩
                    refine have_op (l := [_, _, _, _, _, _, _, _, _, _, _, _, _, _, _, _, _, _, _, _, _, _, _, _, _, _, _, _, _, _, _, _, _, _, _, _, _, _, _, _, _, _, _, _, _, _]) shadowboxlaw06_PointerBack.tab37 5 36 (fun sp => sp 36 = s39_36 ∧ sp 35 = s39_35) (fun sp on hA hon => ?_) (fun ops39_36 => ?_)
                    · refine ⟨fun o ho vs Rs f' S' w hp hf hx hS hR hs => ?_⟩
                      obtain rfl := Option.some.inj ho
                      obtain ⟨hv35, hR35⟩ := (spe hA.2 hs39_35 (hp 35 (by kernel_rfl)))
                      rw [hA.1, hs39_36]
                      refine And.intro (fun a ha => (want_none rfl a ha).trans hon.symm) (And.intro (fun _ => ?_) (fun h => by rw [hon] at h; cases h))
                      have hF := fr_next (rfl) ((hf 35 111 (by kernel_rfl) rfl).trans hv35)
                      refine ls_fr hF ?_
                      refine ls_val (v := .bool (decide ((IntKind.wrap .i64 (t65 * (512 : Int))) ≥ (l2_1.length : Int)))) rfl rfl (by kernel_rfl) (fun w => by kernel_rfl) ?_
                      exact ls_fin s0 (.bool (decide ((IntKind.wrap .i64 (t65 * (512 : Int))) ≥ (l2_1.length : Int)))) (congrArg (fun z => upd z 112 _) hF.symm) ⟨rfl, rfl⟩ (sub_nil _)
                    by_cases q68 : (IntKind.wrap .i64 (t65 * (512 : Int))) ≥ (l2_1.length : Int)
                    · replace H := ite_t q68 H
                      obtain ⟨s39_37, hs39_37⟩ : ∃ z : Value → Sto → Prop, z = (fun v R => v = .agg ⟨([Value.int .i64 t5.1] ++ ([Value.int .i64 t5.2.1] ++ ([Value.int .i64 t5.2.2.1] ++ ([Value.int .u32 t5.2.2.2.1] ++ en (Value.int .u8) t5.2.2.2.2.1))))⟩ ∧ R = s0) := ⟨_, rfl⟩
                      refine have_op (l := [_, _, _, _, _, _, _, _, _, _, _, _, _, _, _, _, _, _, _, _, _, _, _, _, _, _, _, _, _, _, _, _, _, _, _, _, _, _, _, _, _, _, _, _, _, _]) shadowboxlaw06_PointerBack.tab37 5 37 (fun sp => sp 37 = s39_37 ∧ sp 36 = s39_36) (fun sp on hA hon => ?_) (fun ops39_37 => ?_)
                      · refine ⟨fun o ho vs Rs f' S' w hp hf hx hS hR hs => ?_⟩
                        obtain rfl := Option.some.inj ho
                        obtain ⟨hv36, hR36⟩ := (spe hA.2 hs39_36 (hp 36 (by kernel_rfl)))
                        rw [hA.1, hs39_37]
                        refine And.intro (fun a ha => (want_is (j := 36) (t := 112) (r := true) rfl rfl (by kernel_rfl) (((hf 36 112 (by kernel_rfl) rfl).trans hv36).trans (congrArg Value.bool (show (decide ((IntKind.wrap .i64 (t65 * (512 : Int))) ≥ (l2_1.length : Int))) = true from dec_t q68))) rfl a ha).trans hon.symm) (And.intro (fun _ => ?_) (fun h => by rw [hon] at h; cases h))
                        have hF := fr_next (fr_next (rfl) ((hx 7 (by kernel_rfl)).trans (by kernel_rfl : (_ : Value) = .pointer (some ⟨g8, 0, none⟩)))) (((hf 36 112 (by kernel_rfl) rfl).trans hv36).trans (congrArg Value.bool (show (decide ((IntKind.wrap .i64 (t65 * (512 : Int))) ≥ (l2_1.length : Int))) = true from dec_t q68)))
                        refine ls_fr hF ?_
                        refine ls_loadagg (a := ⟨g8, 0, none⟩) (sub := ([Value.int .i64 t5.1] ++ ([Value.int .i64 t5.2.1] ++ ([Value.int .i64 t5.2.2.1] ++ ([Value.int .u32 t5.2.2.2.1] ++ en (Value.int .u8) t5.2.2.2.2.1))))) rfl rfl (by kernel_rfl) rfl (by kernel_rfl) (by kernel_rfl) (by kernel_rfl) (len_app (len1 _) (len_app (len1 _) (len_app (len1 _) (len_app (len1 _) (len_en _ t5.2.2.2.2))))) (fun w1 hs1 => Rd.step (hs.vars (k := 0) ((hS 0 (by kernel_rfl)).trans (by exact rfl)) (Sub4.all _)) hs1.below.bw) ?_
                        exact ls_fin s0 (.agg ⟨([Value.int .i64 t5.1] ++ ([Value.int .i64 t5.2.1] ++ ([Value.int .i64 t5.2.2.1] ++ ([Value.int .u32 t5.2.2.2.1] ++ en (Value.int .u8) t5.2.2.2.2.1))))⟩) (congrArg (fun z => upd z 113 _) hF.symm) ⟨rfl, rfl⟩ (sub_nil _)
                      obtain ⟨t69, hc70, H⟩ := bind_some H
                      obtain ⟨s39_38, hs39_38⟩ : ∃ z : Value → Sto → Prop, z = (fun v R => ∃ x71 : Unit, v = .int .i64 t69 ∧ R = stl []) := ⟨_, rfl⟩
                      refine have_op (l := [_, _, _, _, _, _, _, _, _, _, _, _, _, _, _, _, _, _, _, _, _, _, _, _, _, _, _, _, _, _, _, _, _, _, _, _, _, _, _, _, _, _, _, _, _, _]) shadowboxlaw06_PointerBack.tab37 5 38 (fun sp => sp 38 = s39_38 ∧ sp 36 = s39_36 ∧ sp 37 = s39_37) (fun sp on hA hon => ?_) (fun ops39_38 => ?_)
                      · refine ⟨fun o ho vs Rs f' S' w hp hf hx hS hR hs => ?_⟩
                        obtain rfl := Option.some.inj ho
                        obtain ⟨hv36, hR36⟩ := (spe hA.2.1 hs39_36 (hp 36 (by kernel_rfl)))
                        obtain ⟨hv37, hR37⟩ := (spe hA.2.2 hs39_37 (hp 37 (by kernel_rfl)))
                        rw [hA.1, hs39_38]
                        refine And.intro (fun a ha => (want_is (j := 36) (t := 112) (r := true) rfl rfl (by kernel_rfl) (((hf 36 112 (by kernel_rfl) rfl).trans hv36).trans (congrArg Value.bool (show (decide ((IntKind.wrap .i64 (t65 * (512 : Int))) ≥ (l2_1.length : Int))) = true from dec_t q68))) rfl a ha).trans hon.symm) (And.intro (fun _ => ?_) (fun h => by rw [hon] at h; cases h))
                        have hF := fr_next (fr_next (rfl) (((hf 36 112 (by kernel_rfl) rfl).trans hv36).trans (congrArg Value.bool (show (decide ((IntKind.wrap .i64 (t65 * (512 : Int))) ≥ (l2_1.length : Int))) = true from dec_t q68)))) ((hf 37 113 (by kernel_rfl) rfl).trans hv37)
                        refine ls_fr hF ?_
                        refine ls_call (fid := 16) (vals := #[.agg ⟨([Value.int .i64 t5.1] ++ ([Value.int .i64 t5.2.1] ++ ([Value.int .i64 t5.2.2.1] ++ ([Value.int .u32 t5.2.2.2.1] ++ en (Value.int .u8) t5.2.2.2.2.1))))⟩]) (X := Unit) (fun x => .int .i64 t69) (fun x => stl []) 0 rfl rfl (by kernel_rfl) (fun w => by kernel_rfl) (fun w1 hs1 => pointer_Sectors.calls k t5 t69 (bw w1) (St.refl w1)  hc70) ?_
                        intro x71
                        exact ls_fin (stl []) (.int .i64 t69) (congrArg (fun z => upd z 114 _) hF.symm) ⟨x71, rfl, rfl⟩ (sub_join _)
                      obtain ⟨s39_39, hs39_39⟩ : ∃ z : Value → Sto → Prop, z = (fun v R => v = .int .i64 (IntKind.wrap .i64 (t69 * (512 : Int))) ∧ R = s0) := ⟨_, rfl⟩
                      refine have_op (l := [_, _, _, _, _, _, _, _, _, _, _, _, _, _, _, _, _, _, _, _, _, _, _, _, _, _, _, _, _, _, _, _, _, _, _, _, _, _, _, _, _, _, _, _, _, _]) shadowboxlaw06_PointerBack.tab37 5 39 (fun sp => sp 39 = s39_39 ∧ sp 36 = s39_36 ∧ sp 38 = s39_38) (fun sp on hA hon => ?_) (fun ops39_39 => ?_)
                      · refine ⟨fun o ho vs Rs f' S' w hp hf hx hS hR hs => ?_⟩
                        obtain rfl := Option.some.inj ho
                        obtain ⟨hv36, hR36⟩ := (spe hA.2.1 hs39_36 (hp 36 (by kernel_rfl)))
                        obtain ⟨x71, hv38, hR38⟩ := (spe hA.2.2 hs39_38 (hp 38 (by kernel_rfl)))
                        rw [hA.1, hs39_39]
                        refine And.intro (fun a ha => (want_is (j := 36) (t := 112) (r := true) rfl rfl (by kernel_rfl) (((hf 36 112 (by kernel_rfl) rfl).trans hv36).trans (congrArg Value.bool (show (decide ((IntKind.wrap .i64 (t65 * (512 : Int))) ≥ (l2_1.length : Int))) = true from dec_t q68))) rfl a ha).trans hon.symm) (And.intro (fun _ => ?_) (fun h => by rw [hon] at h; cases h))
                        have hF := fr_next (fr_next (rfl) (((hf 36 112 (by kernel_rfl) rfl).trans hv36).trans (congrArg Value.bool (show (decide ((IntKind.wrap .i64 (t65 * (512 : Int))) ≥ (l2_1.length : Int))) = true from dec_t q68)))) ((hf 38 114 (by kernel_rfl) rfl).trans hv38)
                        refine ls_fr hF ?_
                        refine ls_val (v := .int .i64 (IntKind.wrap .i64 (t69 * (512 : Int)))) rfl rfl (by kernel_rfl) (fun w => by kernel_rfl) ?_
                        exact ls_fin s0 (.int .i64 (IntKind.wrap .i64 (t69 * (512 : Int)))) (congrArg (fun z => upd z 115 _) hF.symm) ⟨rfl, rfl⟩ (sub_nil _)
                      obtain ⟨s39_40, hs39_40⟩ : ∃ z : Value → Sto → Prop, z = (fun v R => v = .slice A2_1 l2_1.length c2_1 ∧ R = s0) := ⟨_, rfl⟩
                      refine have_op (l := [_, _, _, _, _, _, _, _, _, _, _, _, _, _, _, _, _, _, _, _, _, _, _, _, _, _, _, _, _, _, _, _, _, _, _, _, _, _, _, _, _, _, _, _, _, _]) shadowboxlaw06_PointerBack.tab37 5 40 (fun sp => sp 40 = s39_40 ∧ sp 36 = s39_36) (fun sp on hA hon => ?_) (fun ops39_40 => ?_)
                      · refine ⟨fun o ho vs Rs f' S' w hp hf hx hS hR hs => ?_⟩
                        obtain rfl := Option.some.inj ho
                        obtain ⟨hv36, hR36⟩ := (spe hA.2 hs39_36 (hp 36 (by kernel_rfl)))
                        rw [hA.1, hs39_40]
                        refine And.intro (fun a ha => (want_is (j := 36) (t := 112) (r := true) rfl rfl (by kernel_rfl) (((hf 36 112 (by kernel_rfl) rfl).trans hv36).trans (congrArg Value.bool (show (decide ((IntKind.wrap .i64 (t65 * (512 : Int))) ≥ (l2_1.length : Int))) = true from dec_t q68))) rfl a ha).trans hon.symm) (And.intro (fun _ => ?_) (fun h => by rw [hon] at h; cases h))
                        have hF := fr_next (fr_next (rfl) ((hx 2 (by kernel_rfl)).trans (by kernel_rfl : (_ : Value) = .slice A2_1 l2_1.length c2_1))) (((hf 36 112 (by kernel_rfl) rfl).trans hv36).trans (congrArg Value.bool (show (decide ((IntKind.wrap .i64 (t65 * (512 : Int))) ≥ (l2_1.length : Int))) = true from dec_t q68)))
                        refine ls_fr hF ?_
                        refine ls_val (v := .slice A2_1 l2_1.length c2_1) rfl rfl (by kernel_rfl) (fun w => by kernel_rfl) ?_
                        exact ls_fin s0 (.slice A2_1 l2_1.length c2_1) (congrArg (fun z => upd z 116 _) hF.symm) ⟨rfl, rfl⟩ (sub_nil _)
                      obtain ⟨s39_41, hs39_41⟩ : ∃ z : Value → Sto → Prop, z = (fun v R => v = .int .i64 (l2_1.length : Int) ∧ R = s0) := ⟨_, rfl⟩
                      refine have_op (l := [_, _, _, _, _, _, _, _, _, _, _, _, _, _, _, _, _, _, _, _, _, _, _, _, _, _, _, _, _, _, _, _, _, _, _, _, _, _, _, _, _, _, _, _, _, _]) shadowboxlaw06_PointerBack.tab37 5 41 (fun sp => sp 41 = s39_41 ∧ sp 36 = s39_36 ∧ sp 40 = s39_40) (fun sp on hA hon => ?_) (fun ops39_41 => ?_)
                      · refine ⟨fun o ho vs Rs f' S' w hp hf hx hS hR hs => ?_⟩
                        obtain rfl := Option.some.inj ho
                        obtain ⟨hv36, hR36⟩ := (spe hA.2.1 hs39_36 (hp 36 (by kernel_rfl)))
                        obtain ⟨hv40, hR40⟩ := (spe hA.2.2 hs39_40 (hp 40 (by kernel_rfl)))
                        rw [hA.1, hs39_41]
                        refine And.intro (fun a ha => (want_is (j := 36) (t := 112) (r := true) rfl rfl (by kernel_rfl) (((hf 36 112 (by kernel_rfl) rfl).trans hv36).trans (congrArg Value.bool (show (decide ((IntKind.wrap .i64 (t65 * (512 : Int))) ≥ (l2_1.length : Int))) = true from dec_t q68))) rfl a ha).trans hon.symm) (And.intro (fun _ => ?_) (fun h => by rw [hon] at h; cases h))
                        have hF := fr_next (fr_next (rfl) (((hf 36 112 (by kernel_rfl) rfl).trans hv36).trans (congrArg Value.bool (show (decide ((IntKind.wrap .i64 (t65 * (512 : Int))) ≥ (l2_1.length : Int))) = true from dec_t q68)))) ((hf 40 116 (by kernel_rfl) rfl).trans hv40)
                        refine ls_fr hF ?_
                        refine ls_val (v := .int .i64 (l2_1.length : Int)) rfl rfl (by kernel_rfl) (fun w => by kernel_rfl) ?_
                        exact ls_fin s0 (.int .i64 (l2_1.length : Int)) (congrArg (fun z => upd z 117 _) hF.symm) ⟨rfl, rfl⟩ (sub_nil _)
                      obtain ⟨y72, hy73, H⟩ := lt_some H
                      obtain ⟨s39_42, hs39_42⟩ : ∃ z : Value → Sto → Prop, z = (fun v R => v = .int .i64 y72 ∧ R = s0) := ⟨_, rfl⟩
                      refine have_op (l := [_, _, _, _, _, _, _, _, _, _, _, _, _, _, _, _, _, _, _, _, _, _, _, _, _, _, _, _, _, _, _, _, _, _, _, _, _, _, _, _, _, _, _, _, _, _]) shadowboxlaw06_PointerBack.tab37 5 42 (fun sp => sp 42 = s39_42 ∧ sp 36 = s39_36 ∧ sp 41 = s39_41) (fun sp on hA hon => ?_) (fun ops39_42 => ?_)
                      · refine ⟨fun o ho vs Rs f' S' w hp hf hx hS hR hs => ?_⟩
                        obtain rfl := Option.some.inj ho
                        obtain ⟨hv36, hR36⟩ := (spe hA.2.1 hs39_36 (hp 36 (by kernel_rfl)))
                        obtain ⟨hv41, hR41⟩ := (spe hA.2.2 hs39_41 (hp 41 (by kernel_rfl)))
                        rw [hA.1, hs39_42]
                        refine And.intro (fun a ha => (want_is (j := 36) (t := 112) (r := true) rfl rfl (by kernel_rfl) (((hf 36 112 (by kernel_rfl) rfl).trans hv36).trans (congrArg Value.bool (show (decide ((IntKind.wrap .i64 (t65 * (512 : Int))) ≥ (l2_1.length : Int))) = true from dec_t q68))) rfl a ha).trans hon.symm) (And.intro (fun _ => ?_) (fun h => by rw [hon] at h; cases h))
                        have hF := fr_next (fr_next (rfl) (((hf 36 112 (by kernel_rfl) rfl).trans hv36).trans (congrArg Value.bool (show (decide ((IntKind.wrap .i64 (t65 * (512 : Int))) ≥ (l2_1.length : Int))) = true from dec_t q68)))) ((hf 41 117 (by kernel_rfl) rfl).trans hv41)
                        refine ls_fr hF ?_
                        refine ls_val (v := .int .i64 (IntKind.wrap .i64 ((l2_1.length : Int) + (512 : Int)))) rfl rfl (by kernel_rfl) (fun w => by kernel_rfl) ?_
                        refine ls_ren 118 (v := .int .i64 (IntKind.wrap .i64 ((l2_1.length : Int) + (512 : Int)))) (v' := .int .i64 y72) (by kernel_rfl) (by rw [hy73]) ?_
                        exact ls_fin s0 (.int .i64 y72) ((upd_upd _ _ _ _).trans (congrArg (fun z => upd z 118 _) hF.symm)) ⟨rfl, rfl⟩ (sub_nil _)
                      refine cs_draw shadowboxlaw06_PointerBack.tab37 43 5 (spl [s39_0, s39_1, s39_2, s39_3, s39_4, s39_5, s39_6, s39_7, s39_8, s39_9, s39_10, s39_11, s39_12, s39_13, s39_14, s39_15, s39_16, s39_17, s39_18, s39_19, s39_20, s39_21, s39_22, s39_23, s39_24, s39_25, s39_26, s39_27, s39_28, s39_29, s39_30, s39_31, s39_32, s39_33, s39_34, s39_35, s39_36, s39_37, s39_38, s39_39, s39_40, s39_41, s39_42]) (onl [true, true, true, true, true, true, true, true, true, true, true, true, true, true, true, true, true, true, true, true, true, true, true, true, true, true, true, true, true, true, true, true, true, true, true, true, true, true, true, true, true, true, true]) (by kernel_rfl) (by kernel_rfl) (by kernel_rfl) (by kernel_rfl) (rs := [_, _, _]) rfl (by kernel_rfl) (by kernel_rfl) (all_snoc (all_snoc (all_snoc (all_snoc (all_snoc (all_snoc (all_snoc (all_snoc (all_snoc (all_snoc (all_snoc (all_snoc (all_snoc (all_snoc (all_snoc (all_snoc (all_snoc (all_snoc (all_snoc (all_snoc (all_snoc (all_snoc (all_snoc (all_snoc (all_snoc (all_snoc (all_snoc (all_snoc (all_snoc (all_snoc (all_snoc (all_snoc (all_snoc (all_snoc (all_snoc (all_snoc (all_snoc (all_snoc (all_snoc (all_snoc (all_snoc (all_snoc (all_snoc (all_nil) (ops39_0 _ _ rfl rfl)) (ops39_1 _ _ ⟨rfl, rfl⟩ rfl)) (ops39_2 _ _ ⟨rfl, rfl⟩ rfl)) (ops39_3 _ _ ⟨rfl, rfl⟩ rfl)) (ops39_4 _ _ ⟨rfl, rfl, rfl⟩ rfl)) (ops39_5 _ _ ⟨rfl, rfl, rfl⟩ rfl)) (ops39_6 _ _ ⟨rfl, rfl⟩ rfl)) (ops39_7 _ _ ⟨rfl, rfl⟩ rfl)) (ops39_8 _ _ ⟨rfl, rfl⟩ rfl)) (ops39_9 _ _ ⟨rfl, rfl, rfl, rfl⟩ rfl)) (ops39_10 _ _ ⟨rfl, rfl, rfl⟩ rfl)) (ops39_11 _ _ ⟨rfl, rfl⟩ rfl)) (ops39_12 _ _ ⟨rfl, rfl⟩ rfl)) (ops39_13 _ _ ⟨rfl, rfl, rfl⟩ rfl)) (ops39_14 _ _ ⟨rfl, rfl, rfl⟩ rfl)) (ops39_15 _ _ ⟨rfl, rfl⟩ rfl)) (ops39_16 _ _ ⟨rfl, rfl⟩ rfl)) (ops39_17 _ _ ⟨rfl, rfl⟩ rfl)) (ops39_18 _ _ ⟨rfl, rfl, rfl, rfl⟩ rfl)) (ops39_19 _ _ ⟨rfl, rfl, rfl⟩ rfl)) (ops39_20 _ _ ⟨rfl, rfl, rfl⟩ rfl)) (ops39_21 _ _ ⟨rfl, rfl⟩ rfl)) (ops39_22 _ _ ⟨rfl, rfl⟩ rfl)) (ops39_23 _ _ ⟨rfl, rfl⟩ rfl)) (ops39_24 _ _ ⟨rfl, rfl, rfl⟩ rfl)) (ops39_25 _ _ ⟨rfl, rfl, rfl, rfl⟩ rfl)) (ops39_26 _ _ ⟨rfl, rfl, rfl⟩ rfl)) (ops39_27 _ _ ⟨rfl, rfl, rfl⟩ rfl)) (ops39_28 _ _ ⟨rfl, rfl⟩ rfl)) (ops39_29 _ _ ⟨rfl, rfl⟩ rfl)) (ops39_30 _ _ ⟨rfl, rfl, rfl⟩ rfl)) (ops39_31 _ _ ⟨rfl, rfl, rfl⟩ rfl)) (ops39_32 _ _ ⟨rfl, rfl⟩ rfl)) (ops39_33 _ _ ⟨rfl, rfl, rfl⟩ rfl)) (ops39_34 _ _ ⟨rfl, rfl, rfl, rfl⟩ rfl)) (ops39_35 _ _ ⟨rfl, rfl, rfl⟩ rfl)) (ops39_36 _ _ ⟨rfl, rfl⟩ rfl)) (ops39_37 _ _ ⟨rfl, rfl⟩ rfl)) (ops39_38 _ _ ⟨rfl, rfl, rfl⟩ rfl)) (ops39_39 _ _ ⟨rfl, rfl, rfl⟩ rfl)) (ops39_40 _ _ ⟨rfl, rfl⟩ rfl)) (ops39_41 _ _ ⟨rfl, rfl, rfl⟩ rfl)) (ops39_42 _ _ ⟨rfl, rfl, rfl⟩ rfl)) ?_
                      intro vs Rs f' S' hp hf hx hS hR
                      obtain ⟨x42, hv1, hR1⟩ := (spe rfl hs39_1 (hp 1 (by kernel_rfl)))
                      obtain ⟨x49, hv18, hR18⟩ := (spe rfl hs39_18 (hp 18 (by kernel_rfl)))
                      obtain ⟨x63, hv25, hR25⟩ := (spe rfl hs39_25 (hp 25 (by kernel_rfl)))
                      obtain ⟨x67, hv30, hR30⟩ := (spe rfl hs39_30 (hp 30 (by kernel_rfl)))
                      obtain ⟨hv36, hR36⟩ := (spe rfl hs39_36 (hp 36 (by kernel_rfl)))
                      obtain ⟨x71, hv38, hR38⟩ := (spe rfl hs39_38 (hp 38 (by kernel_rfl)))
                      obtain ⟨hv39, hR39⟩ := (spe rfl hs39_39 (hp 39 (by kernel_rfl)))
                      obtain ⟨hv42, hR42⟩ := (spe rfl hs39_42 (hp 42 (by kernel_rfl)))
                      refine ls_fr (F := upd (upd (upd f' 112 (.bool (decide ((IntKind.wrap .i64 (t65 * (512 : Int))) ≥ (l2_1.length : Int))))) 115 (.int .i64 (IntKind.wrap .i64 (t69 * (512 : Int))))) 118 (.int .i64 y72)) (fr_next (fr_next (fr_next (rfl) ((hf 36 112 (by kernel_rfl) rfl).trans hv36)) ((hf 39 115 (by kernel_rfl) rfl).trans hv39)) ((hf 42 118 (by kernel_rfl) rfl).trans hv42)) ?_
                      refine ls_sub (s0) (sub_nil _) ?_
                      refine ls_know (c := true) (dec_t q68) 112 (by kernel_rfl) ?_
                      refine ls_on (j := 36) (t := 112) (b := true) rfl rfl (by kernel_rfl) (by kernel_rfl) ?_
                      refine ls_val (v := .bool (decide ((IntKind.wrap .i64 (t69 * (512 : Int))) < y72))) rfl rfl (by kernel_rfl) (fun w => by kernel_rfl) ?_
                      refine ls_val (v := .bool (decide ((IntKind.wrap .i64 (t69 * (512 : Int))) < y72))) rfl rfl (by kernel_rfl) (fun w => by kernel_rfl) ?_
                      refine ls_val (v := .bool (decide ((IntKind.wrap .i64 (t69 * (512 : Int))) < y72))) rfl rfl (by kernel_rfl) (fun w => by kernel_rfl) ?_
                      refine ls_end ?_
                      refine qn_then ?_
                      refine cs_ret' ?_
                      obtain rfl := Option.some.inj H
                      refine qr_res (rs := [_]) rfl (fun w' hs => ⟨[.bool (decide ((IntKind.wrap .i64 (t69 * (512 : Int))) < y72))], (res_tmp (by kernel_rfl) (.nil)), (), rfl, hs.pick (ts := []) (cs := []) trivial (by decide)⟩)
                    · replace H := ite_f q68 H
                      refine cs_draw shadowboxlaw06_PointerBack.tab37 43 5 (spl [s39_0, s39_1, s39_2, s39_3, s39_4, s39_5, s39_6, s39_7, s39_8, s39_9, s39_10, s39_11, s39_12, s39_13, s39_14, s39_15, s39_16, s39_17, s39_18, s39_19, s39_20, s39_21, s39_22, s39_23, s39_24, s39_25, s39_26, s39_27, s39_28, s39_29, s39_30, s39_31, s39_32, s39_33, s39_34, s39_35, s39_36, spu, spu, spu, spu, spu, spu]) (onl [true, true, true, true, true, true, true, true, true, true, true, true, true, true, true, true, true, true, true, true, true, true, true, true, true, true, true, true, true, true, true, true, true, true, true, true, true, false, false, false, false, false, false]) (by kernel_rfl) (by kernel_rfl) (by kernel_rfl) (by kernel_rfl) (rs := [_, _, _]) rfl (by kernel_rfl) (by kernel_rfl) (all_snoc (all_snoc (all_snoc (all_snoc (all_snoc (all_snoc (all_snoc (all_snoc (all_snoc (all_snoc (all_snoc (all_snoc (all_snoc (all_snoc (all_snoc (all_snoc (all_snoc (all_snoc (all_snoc (all_snoc (all_snoc (all_snoc (all_snoc (all_snoc (all_snoc (all_snoc (all_snoc (all_snoc (all_snoc (all_snoc (all_snoc (all_snoc (all_snoc (all_snoc (all_snoc (all_snoc (all_snoc (all_snoc (all_snoc (all_snoc (all_snoc (all_snoc (all_snoc (all_nil) (ops39_0 _ _ rfl rfl)) (ops39_1 _ _ ⟨rfl, rfl⟩ rfl)) (ops39_2 _ _ ⟨rfl, rfl⟩ rfl)) (ops39_3 _ _ ⟨rfl, rfl⟩ rfl)) (ops39_4 _ _ ⟨rfl, rfl, rfl⟩ rfl)) (ops39_5 _ _ ⟨rfl, rfl, rfl⟩ rfl)) (ops39_6 _ _ ⟨rfl, rfl⟩ rfl)) (ops39_7 _ _ ⟨rfl, rfl⟩ rfl)) (ops39_8 _ _ ⟨rfl, rfl⟩ rfl)) (ops39_9 _ _ ⟨rfl, rfl, rfl, rfl⟩ rfl)) (ops39_10 _ _ ⟨rfl, rfl, rfl⟩ rfl)) (ops39_11 _ _ ⟨rfl, rfl⟩ rfl)) (ops39_12 _ _ ⟨rfl, rfl⟩ rfl)) (ops39_13 _ _ ⟨rfl, rfl, rfl⟩ rfl)) (ops39_14 _ _ ⟨rfl, rfl, rfl⟩ rfl)) (ops39_15 _ _ ⟨rfl, rfl⟩ rfl)) (ops39_16 _ _ ⟨rfl, rfl⟩ rfl)) (ops39_17 _ _ ⟨rfl, rfl⟩ rfl)) (ops39_18 _ _ ⟨rfl, rfl, rfl, rfl⟩ rfl)) (ops39_19 _ _ ⟨rfl, rfl, rfl⟩ rfl)) (ops39_20 _ _ ⟨rfl, rfl, rfl⟩ rfl)) (ops39_21 _ _ ⟨rfl, rfl⟩ rfl)) (ops39_22 _ _ ⟨rfl, rfl⟩ rfl)) (ops39_23 _ _ ⟨rfl, rfl⟩ rfl)) (ops39_24 _ _ ⟨rfl, rfl, rfl⟩ rfl)) (ops39_25 _ _ ⟨rfl, rfl, rfl, rfl⟩ rfl)) (ops39_26 _ _ ⟨rfl, rfl, rfl⟩ rfl)) (ops39_27 _ _ ⟨rfl, rfl, rfl⟩ rfl)) (ops39_28 _ _ ⟨rfl, rfl⟩ rfl)) (ops39_29 _ _ ⟨rfl, rfl⟩ rfl)) (ops39_30 _ _ ⟨rfl, rfl, rfl⟩ rfl)) (ops39_31 _ _ ⟨rfl, rfl, rfl⟩ rfl)) (ops39_32 _ _ ⟨rfl, rfl⟩ rfl)) (ops39_33 _ _ ⟨rfl, rfl, rfl⟩ rfl)) (ops39_34 _ _ ⟨rfl, rfl, rfl, rfl⟩ rfl)) (ops39_35 _ _ ⟨rfl, rfl, rfl⟩ rfl)) (ops39_36 _ _ ⟨rfl, rfl⟩ rfl)) (op_offi 37 36 112 true rfl rfl (by kernel_rfl) (by kernel_rfl) rfl (fun v R h => by rw [hs39_36] at h; obtain ⟨h, _⟩ := h; exact h.trans (congrArg Value.bool (show (decide ((IntKind.wrap .i64 (t65 * (512 : Int))) ≥ (l2_1.length : Int))) = false from dec_f q68))) rfl rfl)) (op_offi 38 36 112 true rfl rfl (by kernel_rfl) (by kernel_rfl) rfl (fun v R h => by rw [hs39_36] at h; obtain ⟨h, _⟩ := h; exact h.trans (congrArg Value.bool (show (decide ((IntKind.wrap .i64 (t65 * (512 : Int))) ≥ (l2_1.length : Int))) = false from dec_f q68))) rfl rfl)) (op_offi 39 36 112 true rfl rfl (by kernel_rfl) (by kernel_rfl) rfl (fun v R h => by rw [hs39_36] at h; obtain ⟨h, _⟩ := h; exact h.trans (congrArg Value.bool (show (decide ((IntKind.wrap .i64 (t65 * (512 : Int))) ≥ (l2_1.length : Int))) = false from dec_f q68))) rfl rfl)) (op_offi 40 36 112 true rfl rfl (by kernel_rfl) (by kernel_rfl) rfl (fun v R h => by rw [hs39_36] at h; obtain ⟨h, _⟩ := h; exact h.trans (congrArg Value.bool (show (decide ((IntKind.wrap .i64 (t65 * (512 : Int))) ≥ (l2_1.length : Int))) = false from dec_f q68))) rfl rfl)) (op_offi 41 36 112 true rfl rfl (by kernel_rfl) (by kernel_rfl) rfl (fun v R h => by rw [hs39_36] at h; obtain ⟨h, _⟩ := h; exact h.trans (congrArg Value.bool (show (decide ((IntKind.wrap .i64 (t65 * (512 : Int))) ≥ (l2_1.length : Int))) = false from dec_f q68))) rfl rfl)) (op_offi 42 36 112 true rfl rfl (by kernel_rfl) (by kernel_rfl) rfl (fun v R h => by rw [hs39_36] at h; obtain ⟨h, _⟩ := h; exact h.trans (congrArg Value.bool (show (decide ((IntKind.wrap .i64 (t65 * (512 : Int))) ≥ (l2_1.length : Int))) = false from dec_f q68))) rfl rfl)) ?_
                      intro vs Rs f' S' hp hf hx hS hR
                      obtain ⟨x42, hv1, hR1⟩ := (spe rfl hs39_1 (hp 1 (by kernel_rfl)))
                      obtain ⟨x49, hv18, hR18⟩ := (spe rfl hs39_18 (hp 18 (by kernel_rfl)))
                      obtain ⟨x63, hv25, hR25⟩ := (spe rfl hs39_25 (hp 25 (by kernel_rfl)))
                      obtain ⟨x67, hv30, hR30⟩ := (spe rfl hs39_30 (hp 30 (by kernel_rfl)))
                      obtain ⟨hv36, hR36⟩ := (spe rfl hs39_36 (hp 36 (by kernel_rfl)))
                      obtain ⟨hv39, hR39⟩ := (spe rfl rfl (hp 39 (by kernel_rfl)) : spu _ _)
                      obtain ⟨hv42, hR42⟩ := (spe rfl rfl (hp 42 (by kernel_rfl)) : spu _ _)
                      refine ls_fr (F := upd f' 112 (.bool (decide ((IntKind.wrap .i64 (t65 * (512 : Int))) ≥ (l2_1.length : Int))))) (fr_next (rfl) ((hf 36 112 (by kernel_rfl) rfl).trans hv36)) ?_
                      refine ls_sub (s0) (sub_nil _) ?_
                      refine ls_know (c := false) (dec_f q68) 112 (by kernel_rfl) ?_
                      refine ls_off (j := 36) (t := 112) (b := true) (c := false) rfl rfl (by kernel_rfl) (by kernel_rfl) rfl rfl (by kernel_rfl) ?_
                      refine ls_val (v := .bool false) rfl rfl (by kernel_rfl) (fun w => by kernel_rfl) ?_
                      refine ls_val (v := .bool false) rfl rfl (by kernel_rfl) (fun w => by kernel_rfl) ?_
                      refine ls_end ?_
                      refine qn_then ?_
                      refine cs_ret' ?_
                      obtain rfl := Option.some.inj H
                      refine qr_res (rs := [_]) rfl (fun w' hs => ⟨[.bool false], (res_tmp (by kernel_rfl) (.nil)), (), rfl, hs.pick (ts := []) (cs := []) trivial (by decide)⟩)
                  · replace H := ite_f q64 H
                    obtain ⟨s39_35, hs39_35⟩ : ∃ z : Value → Sto → Prop, z = (fun v R => v = .bool false ∧ R = s0) := ⟨_, rfl⟩
                    refine have_op (l := [_, _, _, _, _, _, _, _, _, _, _, _, _, _, _, _, _, _, _, _, _, _, _, _, _, _, _, _, _, _, _, _, _, _, _, _, _, _, _, _, _, _, _, _, _, _]) shadowboxlaw06_PointerBack.tab37 5 35 (fun sp => sp 35 = s39_35 ∧ sp 28 = s39_28 ∧ sp 34 = spu) (fun sp on hA hon => ?_) (fun ops39_35 => ?_)
                    · refine ⟨fun o ho vs Rs f' S' w hp hf hx hS hR hs => ?_⟩
                      obtain rfl := Option.some.inj ho
                      obtain ⟨hv28, hR28⟩ := (spe hA.2.1 hs39_28 (hp 28 (by kernel_rfl)))
                      obtain ⟨hv34, hR34⟩ := (spe hA.2.2 rfl (hp 34 (by kernel_rfl)) : spu _ _)
                      rw [hA.1, hs39_35]
                      refine And.intro (fun a ha => (want_none rfl a ha).trans hon.symm) (And.intro (fun _ => ?_) (fun h => by rw [hon] at h; cases h))
                      have hF := fr_next (fr_next (rfl) (((hf 28 104 (by kernel_rfl) rfl).trans hv28).trans (congrArg Value.bool (show (decide (t61 = (12 : Int))) = false from dec_f q64)))) ((hf 34 110 (by kernel_rfl) rfl).trans hv34)
                      refine ls_fr hF ?_
                      refine ls_val (v := .bool false) rfl rfl (by kernel_rfl) (fun w => by kernel_rfl) ?_
                      exact ls_fin s0 (.bool false) (congrArg (fun z => upd z 111 _) hF.symm) ⟨rfl, rfl⟩ (sub_nil _)
                    obtain ⟨s39_36, hs39_36⟩ : ∃ z : Value → Sto → Prop, z = (fun v R => v = .bool false ∧ R = s0) := ⟨_, rfl⟩
                    refine have_op (l := [_, _, _, _, _, _, _, _, _, _, _, _, _, _, _, _, _, _, _, _, _, _, _, _, _, _, _, _, _, _, _, _, _, _, _, _, _, _, _, _, _, _, _, _, _, _]) shadowboxlaw06_PointerBack.tab37 5 36 (fun sp => sp 36 = s39_36 ∧ sp 35 = s39_35) (fun sp on hA hon => ?_) (fun ops39_36 => ?_)
                    · refine ⟨fun o ho vs Rs f' S' w hp hf hx hS hR hs => ?_⟩
                      obtain rfl := Option.some.inj ho
                      obtain ⟨hv35, hR35⟩ := (spe hA.2 hs39_35 (hp 35 (by kernel_rfl)))
                      rw [hA.1, hs39_36]
                      refine And.intro (fun a ha => (want_none rfl a ha).trans hon.symm) (And.intro (fun _ => ?_) (fun h => by rw [hon] at h; cases h))
                      have hF := fr_next (rfl) ((hf 35 111 (by kernel_rfl) rfl).trans hv35)
                      refine ls_fr hF ?_
                      refine ls_val (v := .bool false) rfl rfl (by kernel_rfl) (fun w => by kernel_rfl) ?_
                      exact ls_fin s0 (.bool false) (congrArg (fun z => upd z 112 _) hF.symm) ⟨rfl, rfl⟩ (sub_nil _)
                    refine cs_draw shadowboxlaw06_PointerBack.tab37 43 5 (spl [s39_0, s39_1, s39_2, s39_3, s39_4, s39_5, s39_6, s39_7, s39_8, s39_9, s39_10, s39_11, s39_12, s39_13, s39_14, s39_15, s39_16, s39_17, s39_18, s39_19, s39_20, s39_21, s39_22, s39_23, s39_24, s39_25, s39_26, s39_27, s39_28, spu, spu, spu, spu, spu, spu, s39_35, s39_36, spu, spu, spu, spu, spu, spu]) (onl [true, true, true, true, true, true, true, true, true, true, true, true, true, true, true, true, true, true, true, true, true, true, true, true, true, true, true, true, true, false, false, false, false, false, false, true, true, false, false, false, false, false, false]) (by kernel_rfl) (by kernel_rfl) (by kernel_rfl) (by kernel_rfl) (rs := [_, _, _]) rfl (by kernel_rfl) (by kernel_rfl) (all_snoc (all_snoc (all_snoc (all_snoc (all_snoc (all_snoc (all_snoc (all_snoc (all_snoc (all_snoc (all_snoc (all_snoc (all_snoc (all_snoc (all_snoc (all_snoc (all_snoc (all_snoc (all_snoc (all_snoc (all_snoc (all_snoc (all_snoc (all_snoc (all_snoc (all_snoc (all_snoc (all_snoc (all_snoc (all_snoc (all_snoc (all_snoc (all_snoc (all_snoc (all_snoc (all_snoc (all_snoc (all_snoc (all_snoc (all_snoc (all_snoc (all_snoc (all_snoc (all_nil) (ops39_0 _ _ rfl rfl)) (ops39_1 _ _ ⟨rfl, rfl⟩ rfl)) (ops39_2 _ _ ⟨rfl, rfl⟩ rfl)) (ops39_3 _ _ ⟨rfl, rfl⟩ rfl)) (ops39_4 _ _ ⟨rfl, rfl, rfl⟩ rfl)) (ops39_5 _ _ ⟨rfl, rfl, rfl⟩ rfl)) (ops39_6 _ _ ⟨rfl, rfl⟩ rfl)) (ops39_7 _ _ ⟨rfl, rfl⟩ rfl)) (ops39_8 _ _ ⟨rfl, rfl⟩ rfl)) (ops39_9 _ _ ⟨rfl, rfl, rfl, rfl⟩ rfl)) (ops39_10 _ _ ⟨rfl, rfl, rfl⟩ rfl)) (ops39_11 _ _ ⟨rfl, rfl⟩ rfl)) (ops39_12 _ _ ⟨rfl, rfl⟩ rfl)) (ops39_13 _ _ ⟨rfl, rfl, rfl⟩ rfl)) (ops39_14 _ _ ⟨rfl, rfl, rfl⟩ rfl)) (ops39_15 _ _ ⟨rfl, rfl⟩ rfl)) (ops39_16 _ _ ⟨rfl, rfl⟩ rfl)) (ops39_17 _ _ ⟨rfl, rfl⟩ rfl)) (ops39_18 _ _ ⟨rfl, rfl, rfl, rfl⟩ rfl)) (ops39_19 _ _ ⟨rfl, rfl, rfl⟩ rfl)) (ops39_20 _ _ ⟨rfl, rfl, rfl⟩ rfl)) (ops39_21 _ _ ⟨rfl, rfl⟩ rfl)) (ops39_22 _ _ ⟨rfl, rfl⟩ rfl)) (ops39_23 _ _ ⟨rfl, rfl⟩ rfl)) (ops39_24 _ _ ⟨rfl, rfl, rfl⟩ rfl)) (ops39_25 _ _ ⟨rfl, rfl, rfl, rfl⟩ rfl)) (ops39_26 _ _ ⟨rfl, rfl, rfl⟩ rfl)) (ops39_27 _ _ ⟨rfl, rfl, rfl⟩ rfl)) (ops39_28 _ _ ⟨rfl, rfl⟩ rfl)) (op_offi 29 28 104 true rfl rfl (by kernel_rfl) (by kernel_rfl) rfl (fun v R h => by rw [hs39_28] at h; obtain ⟨h, _⟩ := h; exact h.trans (congrArg Value.bool (show (decide (t61 = (12 : Int))) = false from dec_f q64))) rfl rfl)) (op_offi 30 28 104 true rfl rfl (by kernel_rfl) (by kernel_rfl) rfl (fun v R h => by rw [hs39_28] at h; obtain ⟨h, _⟩ := h; exact h.trans (congrArg Value.bool (show (decide (t61 = (12 : Int))) = false from dec_f q64))) rfl rfl)) (op_offi 31 28 104 true rfl rfl (by kernel_rfl) (by kernel_rfl) rfl (fun v R h => by rw [hs39_28] at h; obtain ⟨h, _⟩ := h; exact h.trans (congrArg Value.bool (show (decide (t61 = (12 : Int))) = false from dec_f q64))) rfl rfl)) (op_offi 32 28 104 true rfl rfl (by kernel_rfl) (by kernel_rfl) rfl (fun v R h => by rw [hs39_28] at h; obtain ⟨h, _⟩ := h; exact h.trans (congrArg Value.bool (show (decide (t61 = (12 : Int))) = false from dec_f q64))) rfl rfl)) (op_offi 33 28 104 true rfl rfl (by kernel_rfl) (by kernel_rfl) rfl (fun v R h => by rw [hs39_28] at h; obtain ⟨h, _⟩ := h; exact h.trans (congrArg Value.bool (show (decide (t61 = (12 : Int))) = false from dec_f q64))) rfl rfl)) (op_offi 34 28 104 true rfl rfl (by kernel_rfl) (by kernel_rfl) rfl (fun v R h => by rw [hs39_28] at h; obtain ⟨h, _⟩ := h; exact h.trans (congrArg Value.bool (show (decide (t61 = (12 : Int))) = false from dec_f q64))) rfl rfl)) (ops39_35 _ _ ⟨rfl, rfl, rfl⟩ rfl)) (ops39_36 _ _ ⟨rfl, rfl⟩ rfl)) (op_offi 37 36 112 true rfl rfl (by kernel_rfl) (by kernel_rfl) rfl (fun v R h => by rw [hs39_36] at h; obtain ⟨h, _⟩ := h; exact h) rfl rfl)) (op_offi 38 36 112 true rfl rfl (by kernel_rfl) (by kernel_rfl) rfl (fun v R h => by rw [hs39_36] at h; obtain ⟨h, _⟩ := h; exact h) rfl rfl)) (op_offi 39 36 112 true rfl rfl (by kernel_rfl) (by kernel_rfl) rfl (fun v R h => by rw [hs39_36] at h; obtain ⟨h, _⟩ := h; exact h) rfl rfl)) (op_offi 40 36 112 true rfl rfl (by kernel_rfl) (by kernel_rfl) rfl (fun v R h => by rw [hs39_36] at h; obtain ⟨h, _⟩ := h; exact h) rfl rfl)) (op_offi 41 36 112 true rfl rfl (by kernel_rfl) (by kernel_rfl) rfl (fun v R h => by rw [hs39_36] at h; obtain ⟨h, _⟩ := h; exact h) rfl rfl)) (op_offi 42 36 112 true rfl rfl (by kernel_rfl) (by kernel_rfl) rfl (fun v R h => by rw [hs39_36] at h; obtain ⟨h, _⟩ := h; exact h) rfl rfl)) ?_
                    intro vs Rs f' S' hp hf hx hS hR
                    obtain ⟨x42, hv1, hR1⟩ := (spe rfl hs39_1 (hp 1 (by kernel_rfl)))
                    obtain ⟨x49, hv18, hR18⟩ := (spe rfl hs39_18 (hp 18 (by kernel_rfl)))
                    obtain ⟨x63, hv25, hR25⟩ := (spe rfl hs39_25 (hp 25 (by kernel_rfl)))
                    obtain ⟨hv36, hR36⟩ := (spe rfl hs39_36 (hp 36 (by kernel_rfl)))
                    obtain ⟨hv39, hR39⟩ := (spe rfl rfl (hp 39 (by kernel_rfl)) : spu _ _)
                    obtain ⟨hv42, hR42⟩ := (spe rfl rfl (hp 42 (by kernel_rfl)) : spu _ _)
                    refine ls_fr (F := upd f' 112 (.bool false)) (fr_next (rfl) ((hf 36 112 (by kernel_rfl) rfl).trans hv36)) ?_
                    refine ls_sub (s0) (sub_nil _) ?_
                    refine ls_off (j := 36) (t := 112) (b := true) (c := false) rfl rfl (by kernel_rfl) (by kernel_rfl) rfl rfl (by kernel_rfl) ?_
                    refine ls_val (v := .bool false) rfl rfl (by kernel_rfl) (fun w => by kernel_rfl) ?_
                    refine ls_val (v := .bool false) rfl rfl (by kernel_rfl) (fun w => by kernel_rfl) ?_
                    refine ls_end ?_
                    refine qn_then ?_
                    refine cs_ret' ?_
                    obtain rfl := Option.some.inj H
                    refine qr_res (rs := [_]) rfl (fun w' hs => ⟨[.bool false], (res_tmp (by kernel_rfl) (.nil)), (), rfl, hs.pick (ts := []) (cs := []) trivial (by decide)⟩)
                · replace H := ite_f q50 H
                  obtain ⟨s39_27, hs39_27⟩ : ∃ z : Value → Sto → Prop, z = (fun v R => v = .bool false ∧ R = s0) := ⟨_, rfl⟩
                  refine have_op (l := [_, _, _, _, _, _, _, _, _, _, _, _, _, _, _, _, _, _, _, _, _, _, _, _, _, _, _, _, _, _, _, _, _, _, _, _, _, _, _, _, _, _, _, _, _, _]) shadowboxlaw06_PointerBack.tab37 5 27 (fun sp => sp 27 = s39_27 ∧ sp 21 = s39_21 ∧ sp 26 = spu) (fun sp on hA hon => ?_) (fun ops39_27 => ?_)
                  · refine ⟨fun o ho vs Rs f' S' w hp hf hx hS hR hs => ?_⟩
                    obtain rfl := Option.some.inj ho
                    obtain ⟨hv21, hR21⟩ := (spe hA.2.1 hs39_21 (hp 21 (by kernel_rfl)))
                    obtain ⟨hv26, hR26⟩ := (spe hA.2.2 rfl (hp 26 (by kernel_rfl)) : spu _ _)
                    rw [hA.1, hs39_27]
                    refine And.intro (fun a ha => (want_none rfl a ha).trans hon.symm) (And.intro (fun _ => ?_) (fun h => by rw [hon] at h; cases h))
                    have hF := fr_next (fr_next (rfl) (((hf 21 97 (by kernel_rfl) rfl).trans hv21).trans (congrArg Value.bool (show (decide (t47 = (0 : Int))) = false from dec_f q50)))) ((hf 26 102 (by kernel_rfl) rfl).trans hv26)
                    refine ls_fr hF ?_
                    refine ls_val (v := .bool false) rfl rfl (by kernel_rfl) (fun w => by kernel_rfl) ?_
                    exact ls_fin s0 (.bool false) (congrArg (fun z => upd z 103 _) hF.symm) ⟨rfl, rfl⟩ (sub_nil _)
                  obtain ⟨s39_28, hs39_28⟩ : ∃ z : Value → Sto → Prop, z = (fun v R => v = .bool false ∧ R = s0) := ⟨_, rfl⟩
                  refine have_op (l := [_, _, _, _, _, _, _, _, _, _, _, _, _, _, _, _, _, _, _, _, _, _, _, _, _, _, _, _, _, _, _, _, _, _, _, _, _, _, _, _, _, _, _, _, _, _]) shadowboxlaw06_PointerBack.tab37 5 28 (fun sp => sp 28 = s39_28 ∧ sp 27 = s39_27) (fun sp on hA hon => ?_) (fun ops39_28 => ?_)
                  · refine ⟨fun o ho vs Rs f' S' w hp hf hx hS hR hs => ?_⟩
                    obtain rfl := Option.some.inj ho
                    obtain ⟨hv27, hR27⟩ := (spe hA.2 hs39_27 (hp 27 (by kernel_rfl)))
                    rw [hA.1, hs39_28]
                    refine And.intro (fun a ha => (want_none rfl a ha).trans hon.symm) (And.intro (fun _ => ?_) (fun h => by rw [hon] at h; cases h))
                    have hF := fr_next (rfl) ((hf 27 103 (by kernel_rfl) rfl).trans hv27)
                    refine ls_fr hF ?_
                    refine ls_val (v := .bool false) rfl rfl (by kernel_rfl) (fun w => by kernel_rfl) ?_
                    exact ls_fin s0 (.bool false) (congrArg (fun z => upd z 104 _) hF.symm) ⟨rfl, rfl⟩ (sub_nil _)
                  obtain ⟨s39_35, hs39_35⟩ : ∃ z : Value → Sto → Prop, z = (fun v R => v = .bool false ∧ R = s0) := ⟨_, rfl⟩
                  refine have_op (l := [_, _, _, _, _, _, _, _, _, _, _, _, _, _, _, _, _, _, _, _, _, _, _, _, _, _, _, _, _, _, _, _, _, _, _, _, _, _, _, _, _, _, _, _, _, _]) shadowboxlaw06_PointerBack.tab37 5 35 (fun sp => sp 35 = s39_35 ∧ sp 28 = s39_28 ∧ sp 34 = spu) (fun sp on hA hon => ?_) (fun ops39_35 => ?_)
                  · refine ⟨fun o ho vs Rs f' S' w hp hf hx hS hR hs => ?_⟩
                    obtain rfl := Option.some.inj ho
                    obtain ⟨hv28, hR28⟩ := (spe hA.2.1 hs39_28 (hp 28 (by kernel_rfl)))
                    obtain ⟨hv34, hR34⟩ := (spe hA.2.2 rfl (hp 34 (by kernel_rfl)) : spu _ _)
                    rw [hA.1, hs39_35]
                    refine And.intro (fun a ha => (want_none rfl a ha).trans hon.symm) (And.intro (fun _ => ?_) (fun h => by rw [hon] at h; cases h))
                    have hF := fr_next (fr_next (rfl) ((hf 28 104 (by kernel_rfl) rfl).trans hv28)) ((hf 34 110 (by kernel_rfl) rfl).trans hv34)
                    refine ls_fr hF ?_
                    refine ls_val (v := .bool false) rfl rfl (by kernel_rfl) (fun w => by kernel_rfl) ?_
                    exact ls_fin s0 (.bool false) (congrArg (fun z => upd z 111 _) hF.symm) ⟨rfl, rfl⟩ (sub_nil _)
                  obtain ⟨s39_36, hs39_36⟩ : ∃ z : Value → Sto → Prop, z = (fun v R => v = .bool false ∧ R = s0) := ⟨_, rfl⟩
                  refine have_op (l := [_, _, _, _, _, _, _, _, _, _, _, _, _, _, _, _, _, _, _, _, _, _, _, _, _, _, _, _, _, _, _, _, _, _, _, _, _, _, _, _, _, _, _, _, _, _]) shadowboxlaw06_PointerBack.tab37 5 36 (fun sp => sp 36 = s39_36 ∧ sp 35 = s39_35) (fun sp on hA hon => ?_) (fun ops39_36 => ?_)
                  · refine ⟨fun o ho vs Rs f' S' w hp hf hx hS hR hs => ?_⟩
                    obtain rfl := Option.some.inj ho
                    obtain ⟨hv35, hR35⟩ := (spe hA.2 hs39_35 (hp 35 (by kernel_rfl)))
                    rw [hA.1, hs39_36]
                    refine And.intro (fun a ha => (want_none rfl a ha).trans hon.symm) (And.intro (fun _ => ?_) (fun h => by rw [hon] at h; cases h))
                    have hF := fr_next (rfl) ((hf 35 111 (by kernel_rfl) rfl).trans hv35)
                    refine ls_fr hF ?_
                    refine ls_val (v := .bool false) rfl rfl (by kernel_rfl) (fun w => by kernel_rfl) ?_
                    exact ls_fin s0 (.bool false) (congrArg (fun z => upd z 112 _) hF.symm) ⟨rfl, rfl⟩ (sub_nil _)
                  refine cs_draw shadowboxlaw06_PointerBack.tab37 43 5 (spl [s39_0, s39_1, s39_2, s39_3, s39_4, s39_5, s39_6, s39_7, s39_8, s39_9, s39_10, s39_11, s39_12, s39_13, s39_14, s39_15, s39_16, s39_17, s39_18, s39_19, s39_20, s39_21, spu, spu, spu, spu, spu, s39_27, s39_28, spu, spu, spu, spu, spu, spu, s39_35, s39_36, spu, spu, spu, spu, spu, spu]) (onl [true, true, true, true, true, true, true, true, true, true, true, true, true, true, true, true, true, true, true, true, true, true, false, false, false, false, false, true, true, false, false, false, false, false, false, true, true, false, false, false, false, false, false]) (by kernel_rfl) (by kernel_rfl) (by kernel_rfl) (by kernel_rfl) (rs := [_, _, _]) rfl (by kernel_rfl) (by kernel_rfl) (all_snoc (all_snoc (all_snoc (all_snoc (all_snoc (all_snoc (all_snoc (all_snoc (all_snoc (all_snoc (all_snoc (all_snoc (all_snoc (all_snoc (all_snoc (all_snoc (all_snoc (all_snoc (all_snoc (all_snoc (all_snoc (all_snoc (all_snoc (all_snoc (all_snoc (all_snoc (all_snoc (all_snoc (all_snoc (all_snoc (all_snoc (all_snoc (all_snoc (all_snoc (all_snoc (all_snoc (all_snoc (all_snoc (all_snoc (all_snoc (all_snoc (all_snoc (all_snoc (all_nil) (ops39_0 _ _ rfl rfl)) (ops39_1 _ _ ⟨rfl, rfl⟩ rfl)) (ops39_2 _ _ ⟨rfl, rfl⟩ rfl)) (ops39_3 _ _ ⟨rfl, rfl⟩ rfl)) (ops39_4 _ _ ⟨rfl, rfl, rfl⟩ rfl)) (ops39_5 _ _ ⟨rfl, rfl, rfl⟩ rfl)) (ops39_6 _ _ ⟨rfl, rfl⟩ rfl)) (ops39_7 _ _ ⟨rfl, rfl⟩ rfl)) (ops39_8 _ _ ⟨rfl, rfl⟩ rfl)) (ops39_9 _ _ ⟨rfl, rfl, rfl, rfl⟩ rfl)) (ops39_10 _ _ ⟨rfl, rfl, rfl⟩ rfl)) (ops39_11 _ _ ⟨rfl, rfl⟩ rfl)) (ops39_12 _ _ ⟨rfl, rfl⟩ rfl)) (ops39_13 _ _ ⟨rfl, rfl, rfl⟩ rfl)) (ops39_14 _ _ ⟨rfl, rfl, rfl⟩ rfl)) (ops39_15 _ _ ⟨rfl, rfl⟩ rfl)) (ops39_16 _ _ ⟨rfl, rfl⟩ rfl)) (ops39_17 _ _ ⟨rfl, rfl⟩ rfl)) (ops39_18 _ _ ⟨rfl, rfl, rfl, rfl⟩ rfl)) (ops39_19 _ _ ⟨rfl, rfl, rfl⟩ rfl)) (ops39_20 _ _ ⟨rfl, rfl, rfl⟩ rfl)) (ops39_21 _ _ ⟨rfl, rfl⟩ rfl)) (op_offi 22 21 97 true rfl rfl (by kernel_rfl) (by kernel_rfl) rfl (fun v R h => by rw [hs39_21] at h; obtain ⟨h, _⟩ := h; exact h.trans (congrArg Value.bool (show (decide (t47 = (0 : Int))) = false from dec_f q50))) rfl rfl)) (op_offi 23 21 97 true rfl rfl (by kernel_rfl) (by kernel_rfl) rfl (fun v R h => by rw [hs39_21] at h; obtain ⟨h, _⟩ := h; exact h.trans (congrArg Value.bool (show (decide (t47 = (0 : Int))) = false from dec_f q50))) rfl rfl)) (op_offi 24 21 97 true rfl rfl (by kernel_rfl) (by kernel_rfl) rfl (fun v R h => by rw [hs39_21] at h; obtain ⟨h, _⟩ := h; exact h.trans (congrArg Value.bool (show (decide (t47 = (0 : Int))) = false from dec_f q50))) rfl rfl)) (op_offi 25 21 97 true rfl rfl (by kernel_rfl) (by kernel_rfl) rfl (fun v R h => by rw [hs39_21] at h; obtain ⟨h, _⟩ := h; exact h.trans (congrArg Value.bool (show (decide (t47 = (0 : Int))) = false from dec_f q50))) rfl rfl)) (op_offi 26 21 97 true rfl rfl (by kernel_rfl) (by kernel_rfl) rfl (fun v R h => by rw [hs39_21] at h; obtain ⟨h, _⟩ := h; exact h.trans (congrArg Value.bool (show (decide (t47 = (0 : Int))) = false from dec_f q50))) rfl rfl)) (ops39_27 _ _ ⟨rfl, rfl, rfl⟩ rfl)) (ops39_28 _ _ ⟨rfl, rfl⟩ rfl)) (op_offi 29 28 104 true rfl rfl (by kernel_rfl) (by kernel_rfl) rfl (fun v R h => by rw [hs39_28] at h; obtain ⟨h, _⟩ := h; exact h) rfl rfl)) (op_offi 30 28 104 true rfl rfl (by kernel_rfl) (by kernel_rfl) rfl (fun v R h => by rw [hs39_28] at h; obtain ⟨h, _⟩ := h; exact h) rfl rfl)) (op_offi 31 28 104 true rfl rfl (by kernel_rfl) (by kernel_rfl) rfl (fun v R h => by rw [hs39_28] at h; obtain ⟨h, _⟩ := h; exact h) rfl rfl)) (op_offi 32 28 104 true rfl rfl (by kernel_rfl) (by kernel_rfl) rfl (fun v R h => by rw [hs39_28] at h; obtain ⟨h, _⟩ := h; exact h) rfl rfl)) (op_offi 33 28 104 true rfl rfl (by kernel_rfl) (by kernel_rfl) rfl (fun v R h => by rw [hs39_28] at h; obtain ⟨h, _⟩ := h; exact h) rfl rfl)) (op_offi 34 28 104 true rfl rfl (by kernel_rfl) (by kernel_rfl) rfl (fun v R h => by rw [hs39_28] at h; obtain ⟨h, _⟩ := h; exact h) rfl rfl)) (ops39_35 _ _ ⟨rfl, rfl, rfl⟩ rfl)) (ops39_36 _ _ ⟨rfl, rfl⟩ rfl)) (op_offi 37 36 112 true rfl rfl (by kernel_rfl) (by kernel_rfl) rfl (fun v R h => by rw [hs39_36] at h; obtain ⟨h, _⟩ := h; exact h) rfl rfl)) (op_offi 38 36 112 true rfl rfl (by kernel_rfl) (by kernel_rfl) rfl (fun v R h => by rw [hs39_36] at h; obtain ⟨h, _⟩ := h; exact h) rfl rfl)) (op_offi 39 36 112 true rfl rfl (by kernel_rfl) (by kernel_rfl) rfl (fun v R h => by rw [hs39_36] at h; obtain ⟨h, _⟩ := h; exact h) rfl rfl)) (op_offi 40 36 112 true rfl rfl (by kernel_rfl) (by kernel_rfl) rfl (fun v R h => by rw [hs39_36] at h; obtain ⟨h, _⟩ := h; exact h) rfl rfl)) (op_offi 41 36 112 true rfl rfl (by kernel_rfl) (by kernel_rfl) rfl (fun v R h => by rw [hs39_36] at h; obtain ⟨h, _⟩ := h; exact h) rfl rfl)) (op_offi 42 36 112 true rfl rfl (by kernel_rfl) (by kernel_rfl) rfl (fun v R h => by rw [hs39_36] at h; obtain ⟨h, _⟩ := h; exact h) rfl rfl)) ?_
                  intro vs Rs f' S' hp hf hx hS hR
                  obtain ⟨x42, hv1, hR1⟩ := (spe rfl hs39_1 (hp 1 (by kernel_rfl)))
                  obtain ⟨x49, hv18, hR18⟩ := (spe rfl hs39_18 (hp 18 (by kernel_rfl)))
                  obtain ⟨hv36, hR36⟩ := (spe rfl hs39_36 (hp 36 (by kernel_rfl)))
                  obtain ⟨hv39, hR39⟩ := (spe rfl rfl (hp 39 (by kernel_rfl)) : spu _ _)
                  obtain ⟨hv42, hR42⟩ := (spe rfl rfl (hp 42 (by kernel_rfl)) : spu _ _)
                  refine ls_fr (F := upd f' 112 (.bool false)) (fr_next (rfl) ((hf 36 112 (by kernel_rfl) rfl).trans hv36)) ?_
                  refine ls_sub (s0) (sub_nil _) ?_
                  refine ls_off (j := 36) (t := 112) (b := true) (c := false) rfl rfl (by kernel_rfl) (by kernel_rfl) rfl rfl (by kernel_rfl) ?_
                  refine ls_val (v := .bool false) rfl rfl (by kernel_rfl) (fun w => by kernel_rfl) ?_
                  refine ls_val (v := .bool false) rfl rfl (by kernel_rfl) (fun w => by kernel_rfl) ?_
                  refine ls_end ?_
                  refine qn_then ?_
                  refine cs_ret' ?_
                  obtain rfl := Option.some.inj H
                  refine qr_res (rs := [_]) rfl (fun w' hs => ⟨[.bool false], (res_tmp (by kernel_rfl) (.nil)), (), rfl, hs.pick (ts := []) (cs := []) trivial (by decide)⟩)
              · replace H := ite_f q46 H
                obtain ⟨s39_20, hs39_20⟩ : ∃ z : Value → Sto → Prop, z = (fun v R => v = .bool false ∧ R = s0) := ⟨_, rfl⟩
                refine have_op (l := [_, _, _, _, _, _, _, _, _, _, _, _, _, _, _, _, _, _, _, _, _, _, _, _, _, _, _, _, _, _, _, _, _, _, _, _, _, _, _, _, _, _, _, _, _, _]) shadowboxlaw06_PointerBack.tab37 5 20 (fun sp => sp 20 = s39_20 ∧ sp 15 = s39_15 ∧ sp 19 = spu) (fun sp on hA hon => ?_) (fun ops39_20 => ?_)
                · refine ⟨fun o ho vs Rs f' S' w hp hf hx hS hR hs => ?_⟩
                  obtain rfl := Option.some.inj ho
                  obtain ⟨hv15, hR15⟩ := (spe hA.2.1 hs39_15 (hp 15 (by kernel_rfl)))
                  obtain ⟨hv19, hR19⟩ := (spe hA.2.2 rfl (hp 19 (by kernel_rfl)) : spu _ _)
                  rw [hA.1, hs39_20]
                  refine And.intro (fun a ha => (want_none rfl a ha).trans hon.symm) (And.intro (fun _ => ?_) (fun h => by rw [hon] at h; cases h))
                  have hF := fr_next (fr_next (rfl) (((hf 15 91 (by kernel_rfl) rfl).trans hv15).trans (congrArg Value.bool (show (decide (t34.2 = (10 : Int))) = false from dec_f q46)))) ((hf 19 95 (by kernel_rfl) rfl).trans hv19)
                  refine ls_fr hF ?_
                  refine ls_val (v := .bool false) rfl rfl (by kernel_rfl) (fun w => by kernel_rfl) ?_
                  exact ls_fin s0 (.bool false) (congrArg (fun z => upd z 96 _) hF.symm) ⟨rfl, rfl⟩ (sub_nil _)
                obtain ⟨s39_21, hs39_21⟩ : ∃ z : Value → Sto → Prop, z = (fun v R => v = .bool false ∧ R = s0) := ⟨_, rfl⟩
                refine have_op (l := [_, _, _, _, _, _, _, _, _, _, _, _, _, _, _, _, _, _, _, _, _, _, _, _, _, _, _, _, _, _, _, _, _, _, _, _, _, _, _, _, _, _, _, _, _, _]) shadowboxlaw06_PointerBack.tab37 5 21 (fun sp => sp 21 = s39_21 ∧ sp 20 = s39_20) (fun sp on hA hon => ?_) (fun ops39_21 => ?_)
                · refine ⟨fun o ho vs Rs f' S' w hp hf hx hS hR hs => ?_⟩
                  obtain rfl := Option.some.inj ho
                  obtain ⟨hv20, hR20⟩ := (spe hA.2 hs39_20 (hp 20 (by kernel_rfl)))
                  rw [hA.1, hs39_21]
                  refine And.intro (fun a ha => (want_none rfl a ha).trans hon.symm) (And.intro (fun _ => ?_) (fun h => by rw [hon] at h; cases h))
                  have hF := fr_next (rfl) ((hf 20 96 (by kernel_rfl) rfl).trans hv20)
                  refine ls_fr hF ?_
                  refine ls_val (v := .bool false) rfl rfl (by kernel_rfl) (fun w => by kernel_rfl) ?_
                  exact ls_fin s0 (.bool false) (congrArg (fun z => upd z 97 _) hF.symm) ⟨rfl, rfl⟩ (sub_nil _)
                obtain ⟨s39_27, hs39_27⟩ : ∃ z : Value → Sto → Prop, z = (fun v R => v = .bool false ∧ R = s0) := ⟨_, rfl⟩
                refine have_op (l := [_, _, _, _, _, _, _, _, _, _, _, _, _, _, _, _, _, _, _, _, _, _, _, _, _, _, _, _, _, _, _, _, _, _, _, _, _, _, _, _, _, _, _, _, _, _]) shadowboxlaw06_PointerBack.tab37 5 27 (fun sp => sp 27 = s39_27 ∧ sp 21 = s39_21 ∧ sp 26 = spu) (fun sp on hA hon => ?_) (fun ops39_27 => ?_)
                · refine ⟨fun o ho vs Rs f' S' w hp hf hx hS hR hs => ?_⟩
                  obtain rfl := Option.some.inj ho
                  obtain ⟨hv21, hR21⟩ := (spe hA.2.1 hs39_21 (hp 21 (by kernel_rfl)))
                  obtain ⟨hv26, hR26⟩ := (spe hA.2.2 rfl (hp 26 (by kernel_rfl)) : spu _ _)
                  rw [hA.1, hs39_27]
                  refine And.intro (fun a ha => (want_none rfl a ha).trans hon.symm) (And.intro (fun _ => ?_) (fun h => by rw [hon] at h; cases h))
                  have hF := fr_next (fr_next (rfl) ((hf 21 97 (by kernel_rfl) rfl).trans hv21)) ((hf 26 102 (by kernel_rfl) rfl).trans hv26)
                  refine ls_fr hF ?_
                  refine ls_val (v := .bool false) rfl rfl (by kernel_rfl) (fun w => by kernel_rfl) ?_
                  exact ls_fin s0 (.bool false) (congrArg (fun z => upd z 103 _) hF.symm) ⟨rfl, rfl⟩ (sub_nil _)
                obtain ⟨s39_28, hs39_28⟩ : ∃ z : Value → Sto → Prop, z = (fun v R => v = .bool false ∧ R = s0) := ⟨_, rfl⟩
                refine have_op (l := [_, _, _, _, _, _, _, _, _, _, _, _, _, _, _, _, _, _, _, _, _, _, _, _, _, _, _, _, _, _, _, _, _, _, _, _, _, _, _, _, _, _, _, _, _, _]) shadowboxlaw06_PointerBack.tab37 5 28 (fun sp => sp 28 = s39_28 ∧ sp 27 = s39_27) (fun sp on hA hon => ?_) (fun ops39_28 => ?_)
                · refine ⟨fun o ho vs Rs f' S' w hp hf hx hS hR hs => ?_⟩
                  obtain rfl := Option.some.inj ho
                  obtain ⟨hv27, hR27⟩ := (spe hA.2 hs39_27 (hp 27 (by kernel_rfl)))
                  rw [hA.1, hs39_28]
                  refine And.intro (fun a ha => (want_none rfl a ha).trans hon.symm) (And.intro (fun _ => ?_) (fun h => by rw [hon] at h; cases h))
                  have hF := fr_next (rfl) ((hf 27 103 (by kernel_rfl) rfl).trans hv27)
                  refine ls_fr hF ?_
                  refine ls_val (v := .bool false) rfl rfl (by kernel_rfl) (fun w => by kernel_rfl) ?_
                  exact ls_fin s0 (.bool false) (congrArg (fun z => upd z 104 _) hF.symm) ⟨rfl, rfl⟩ (sub_nil _)
                obtain ⟨s39_35, hs39_35⟩ : ∃ z : Value → Sto → Prop, z = (fun v R => v = .bool false ∧ R = s0) := ⟨_, rfl⟩
                refine have_op (l := [_, _, _, _, _, _, _, _, _, _, _, _, _, _, _, _, _, _, _, _, _, _, _, _, _, _, _, _, _, _, _, _, _, _, _, _, _, _, _, _, _, _, _, _, _, _]) shadowboxlaw06_PointerBack.tab37 5 35 (fun sp => sp 35 = s39_35 ∧ sp 28 = s39_28 ∧ sp 34 = spu) (fun sp on hA hon => ?_) (fun ops39_35 => ?_)
                · refine ⟨fun o ho vs Rs f' S' w hp hf hx hS hR hs => ?_⟩
                  obtain rfl := Option.some.inj ho
                  obtain ⟨hv28, hR28⟩ := (spe hA.2.1 hs39_28 (hp 28 (by kernel_rfl)))
                  obtain ⟨hv34, hR34⟩ := (spe hA.2.2 rfl (hp 34 (by kernel_rfl)) : spu _ _)
                  rw [hA.1, hs39_35]
                  refine And.intro (fun a ha => (want_none rfl a ha).trans hon.symm) (And.intro (fun _ => ?_) (fun h => by rw [hon] at h; cases h))
                  have hF := fr_next (fr_next (rfl) ((hf 28 104 (by kernel_rfl) rfl).trans hv28)) ((hf 34 110 (by kernel_rfl) rfl).trans hv34)
                  refine ls_fr hF ?_
                  refine ls_val (v := .bool false) rfl rfl (by kernel_rfl) (fun w => by kernel_rfl) ?_
                  exact ls_fin s0 (.bool false) (congrArg (fun z => upd z 111 _) hF.symm) ⟨rfl, rfl⟩ (sub_nil _)
                obtain ⟨s39_36, hs39_36⟩ : ∃ z : Value → Sto → Prop, z = (fun v R => v = .bool false ∧ R = s0) := ⟨_, rfl⟩
                refine have_op (l := [_, _, _, _, _, _, _, _, _, _, _, _, _, _, _, _, _, _, _, _, _, _, _, _, _, _, _, _, _, _, _, _, _, _, _, _, _, _, _, _, _, _, _, _, _, _]) shadowboxlaw06_PointerBack.tab37 5 36 (fun sp => sp 36 = s39_36 ∧ sp 35 = s39_35) (fun sp on hA hon => ?_) (fun ops39_36 => ?_)
                · refine ⟨fun o ho vs Rs f' S' w hp hf hx hS hR hs => ?_⟩
                  obtain rfl := Option.some.inj ho
                  obtain ⟨hv35, hR35⟩ := (spe hA.2 hs39_35 (hp 35 (by kernel_rfl)))
                  rw [hA.1, hs39_36]
                  refine And.intro (fun a ha => (want_none rfl a ha).trans hon.symm) (And.intro (fun _ => ?_) (fun h => by rw [hon] at h; cases h))
                  have hF := fr_next (rfl) ((hf 35 111 (by kernel_rfl) rfl).trans hv35)
                  refine ls_fr hF ?_
                  refine ls_val (v := .bool false) rfl rfl (by kernel_rfl) (fun w => by kernel_rfl) ?_
                  exact ls_fin s0 (.bool false) (congrArg (fun z => upd z 112 _) hF.symm) ⟨rfl, rfl⟩ (sub_nil _)
                refine cs_draw shadowboxlaw06_PointerBack.tab37 43 5 (spl [s39_0, s39_1, s39_2, s39_3, s39_4, s39_5, s39_6, s39_7, s39_8, s39_9, s39_10, s39_11, s39_12, s39_13, s39_14, s39_15, spu, spu, spu, spu, s39_20, s39_21, spu, spu, spu, spu, spu, s39_27, s39_28, spu, spu, spu, spu, spu, spu, s39_35, s39_36, spu, spu, spu, spu, spu, spu]) (onl [true, true, true, true, true, true, true, true, true, true, true, true, true, true, true, true, false, false, false, false, true, true, false, false, false, false, false, true, true, false, false, false, false, false, false, true, true, false, false, false, false, false, false]) (by kernel_rfl) (by kernel_rfl) (by kernel_rfl) (by kernel_rfl) (rs := [_, _, _]) rfl (by kernel_rfl) (by kernel_rfl) (all_snoc (all_snoc (all_snoc (all_snoc (all_snoc (all_snoc (all_snoc (all_snoc (all_snoc (all_snoc (all_snoc (all_snoc (all_snoc (all_snoc (all_snoc (all_snoc (all_snoc (all_snoc (all_snoc (all_snoc (all_snoc (all_snoc (all_snoc (all_snoc (all_snoc (all_snoc (all_snoc (all_snoc (all_snoc (all_snoc (all_snoc (all_snoc (all_snoc (all_snoc (all_snoc (all_snoc (all_snoc (all_snoc (all_snoc (all_snoc (all_snoc (all_snoc (all_snoc (all_nil) (ops39_0 _ _ rfl rfl)) (ops39_1 _ _ ⟨rfl, rfl⟩ rfl)) (ops39_2 _ _ ⟨rfl, rfl⟩ rfl)) (ops39_3 _ _ ⟨rfl, rfl⟩ rfl)) (ops39_4 _ _ ⟨rfl, rfl, rfl⟩ rfl)) (ops39_5 _ _ ⟨rfl, rfl, rfl⟩ rfl)) (ops39_6 _ _ ⟨rfl, rfl⟩ rfl)) (ops39_7 _ _ ⟨rfl, rfl⟩ rfl)) (ops39_8 _ _ ⟨rfl, rfl⟩ rfl)) (ops39_9 _ _ ⟨rfl, rfl, rfl, rfl⟩ rfl)) (ops39_10 _ _ ⟨rfl, rfl, rfl⟩ rfl)) (ops39_11 _ _ ⟨rfl, rfl⟩ rfl)) (ops39_12 _ _ ⟨rfl, rfl⟩ rfl)) (ops39_13 _ _ ⟨rfl, rfl, rfl⟩ rfl)) (ops39_14 _ _ ⟨rfl, rfl, rfl⟩ rfl)) (ops39_15 _ _ ⟨rfl, rfl⟩ rfl)) (op_offi 16 15 91 true rfl rfl (by kernel_rfl) (by kernel_rfl) rfl (fun v R h => by rw [hs39_15] at h; obtain ⟨h, _⟩ := h; exact h.trans (congrArg Value.bool (show (decide (t34.2 = (10 : Int))) = false from dec_f q46))) rfl rfl)) (op_offi 17 15 91 true rfl rfl (by kernel_rfl) (by kernel_rfl) rfl (fun v R h => by rw [hs39_15] at h; obtain ⟨h, _⟩ := h; exact h.trans (congrArg Value.bool (show (decide (t34.2 = (10 : Int))) = false from dec_f q46))) rfl rfl)) (op_offi 18 15 91 true rfl rfl (by kernel_rfl) (by kernel_rfl) rfl (fun v R h => by rw [hs39_15] at h; obtain ⟨h, _⟩ := h; exact h.trans (congrArg Value.bool (show (decide (t34.2 = (10 : Int))) = false from dec_f q46))) rfl rfl)) (op_offi 19 15 91 true rfl rfl (by kernel_rfl) (by kernel_rfl) rfl (fun v R h => by rw [hs39_15] at h; obtain ⟨h, _⟩ := h; exact h.trans (congrArg Value.bool (show (decide (t34.2 = (10 : Int))) = false from dec_f q46))) rfl rfl)) (ops39_20 _ _ ⟨rfl, rfl, rfl⟩ rfl)) (ops39_21 _ _ ⟨rfl, rfl⟩ rfl)) (op_offi 22 21 97 true rfl rfl (by kernel_rfl) (by kernel_rfl) rfl (fun v R h => by rw [hs39_21] at h; obtain ⟨h, _⟩ := h; exact h) rfl rfl)) (op_offi 23 21 97 true rfl rfl (by kernel_rfl) (by kernel_rfl) rfl (fun v R h => by rw [hs39_21] at h; obtain ⟨h, _⟩ := h; exact h) rfl rfl)) (op_offi 24 21 97 true rfl rfl (by kernel_rfl) (by kernel_rfl) rfl (fun v R h => by rw [hs39_21] at h; obtain ⟨h, _⟩ := h; exact h) rfl rfl)) (op_offi 25 21 97 true rfl rfl (by kernel_rfl) (by kernel_rfl) rfl (fun v R h => by rw [hs39_21] at h; obtain ⟨h, _⟩ := h; exact h) rfl rfl)) (op_offi 26 21 97 true rfl rfl (by kernel_rfl) (by kernel_rfl) rfl (fun v R h => by rw [hs39_21] at h; obtain ⟨h, _⟩ := h; exact h) rfl rfl)) (ops39_27 _ _ ⟨rfl, rfl, rfl⟩ rfl)) (ops39_28 _ _ ⟨rfl, rfl⟩ rfl)) (op_offi 29 28 104 true rfl rfl (by kernel_rfl) (by kernel_rfl) rfl (fun v R h => by rw [hs39_28] at h; obtain ⟨h, _⟩ := h; exact h) rfl rfl)) (op_offi 30 28 104 true rfl rfl (by kernel_rfl) (by kernel_rfl) rfl (fun v R h => by rw [hs39_28] at h; obtain ⟨h, _⟩ := h; exact h) rfl rfl)) (op_offi 31 28 104 true rfl rfl (by kernel_rfl) (by kernel_rfl) rfl (fun v R h => by rw [hs39_28] at h; obtain ⟨h, _⟩ := h; exact h) rfl rfl)) (op_offi 32 28 104 true rfl rfl (by kernel_rfl) (by kernel_rfl) rfl (fun v R h => by rw [hs39_28] at h; obtain ⟨h, _⟩ := h; exact h) rfl rfl)) (op_offi 33 28 104 true rfl rfl (by kernel_rfl) (by kernel_rfl) rfl (fun v R h => by rw [hs39_28] at h; obtain ⟨h, _⟩ := h; exact h) rfl rfl)) (op_offi 34 28 104 true rfl rfl (by kernel_rfl) (by kernel_rfl) rfl (fun v R h => by rw [hs39_28] at h; obtain ⟨h, _⟩ := h; exact h) rfl rfl)) (ops39_35 _ _ ⟨rfl, rfl, rfl⟩ rfl)) (ops39_36 _ _ ⟨rfl, rfl⟩ rfl)) (op_offi 37 36 112 true rfl rfl (by kernel_rfl) (by kernel_rfl) rfl (fun v R h => by rw [hs39_36] at h; obtain ⟨h, _⟩ := h; exact h) rfl rfl)) (op_offi 38 36 112 true rfl rfl (by kernel_rfl) (by kernel_rfl) rfl (fun v R h => by rw [hs39_36] at h; obtain ⟨h, _⟩ := h; exact h) rfl rfl)) (op_offi 39 36 112 true rfl rfl (by kernel_rfl) (by kernel_rfl) rfl (fun v R h => by rw [hs39_36] at h; obtain ⟨h, _⟩ := h; exact h) rfl rfl)) (op_offi 40 36 112 true rfl rfl (by kernel_rfl) (by kernel_rfl) rfl (fun v R h => by rw [hs39_36] at h; obtain ⟨h, _⟩ := h; exact h) rfl rfl)) (op_offi 41 36 112 true rfl rfl (by kernel_rfl) (by kernel_rfl) rfl (fun v R h => by rw [hs39_36] at h; obtain ⟨h, _⟩ := h; exact h) rfl rfl)) (op_offi 42 36 112 true rfl rfl (by kernel_rfl) (by kernel_rfl) rfl (fun v R h => by rw [hs39_36] at h; obtain ⟨h, _⟩ := h; exact h) rfl rfl)) ?_
                intro vs Rs f' S' hp hf hx hS hR
                obtain ⟨x42, hv1, hR1⟩ := (spe rfl hs39_1 (hp 1 (by kernel_rfl)))
                obtain ⟨hv36, hR36⟩ := (spe rfl hs39_36 (hp 36 (by kernel_rfl)))
                obtain ⟨hv39, hR39⟩ := (spe rfl rfl (hp 39 (by kernel_rfl)) : spu _ _)
                obtain ⟨hv42, hR42⟩ := (spe rfl rfl (hp 42 (by kernel_rfl)) : spu _ _)
                refine ls_fr (F := upd f' 112 (.bool false)) (fr_next (rfl) ((hf 36 112 (by kernel_rfl) rfl).trans hv36)) ?_
                refine ls_sub (s0) (sub_nil _) ?_
                refine ls_off (j := 36) (t := 112) (b := true) (c := false) rfl rfl (by kernel_rfl) (by kernel_rfl) rfl rfl (by kernel_rfl) ?_
                refine ls_val (v := .bool false) rfl rfl (by kernel_rfl) (fun w => by kernel_rfl) ?_
                refine ls_val (v := .bool false) rfl rfl (by kernel_rfl) (fun w => by kernel_rfl) ?_
                refine ls_end ?_
                refine qn_then ?_
                refine cs_ret' ?_
                obtain rfl := Option.some.inj H
                refine qr_res (rs := [_]) rfl (fun w' hs => ⟨[.bool false], (res_tmp (by kernel_rfl) (.nil)), (), rfl, hs.pick (ts := []) (cs := []) trivial (by decide)⟩)
            · replace H := ite_f q45 H
              obtain ⟨s39_14, hs39_14⟩ : ∃ z : Value → Sto → Prop, z = (fun v R => v = .bool false ∧ R = s0) := ⟨_, rfl⟩
              refine have_op (l := [_, _, _, _, _, _, _, _, _, _, _, _, _, _, _, _, _, _, _, _, _, _, _, _, _, _, _, _, _, _, _, _, _, _, _, _, _, _, _, _, _, _, _, _, _, _]) shadowboxlaw06_PointerBack.tab37 5 14 (fun sp => sp 14 = s39_14 ∧ sp 11 = s39_11 ∧ sp 13 = spu) (fun sp on hA hon => ?_) (fun ops39_14 => ?_)
              · refine ⟨fun o ho vs Rs f' S' w hp hf hx hS hR hs => ?_⟩
                obtain rfl := Option.some.inj ho
                obtain ⟨hv11, hR11⟩ := (spe hA.2.1 hs39_11 (hp 11 (by kernel_rfl)))
                obtain ⟨hv13, hR13⟩ := (spe hA.2.2 rfl (hp 13 (by kernel_rfl)) : spu _ _)
                rw [hA.1, hs39_14]
                refine And.intro (fun a ha => (want_none rfl a ha).trans hon.symm) (And.intro (fun _ => ?_) (fun h => by rw [hon] at h; cases h))
                have hF := fr_next (fr_next (rfl) (((hf 11 87 (by kernel_rfl) rfl).trans hv11).trans (congrArg Value.bool (show ((t19.1.1 == t5.1) && ((t19.1.2.1 == t5.2.1) && ((t19.1.2.2.1 == t5.2.2.1) && ((t19.1.2.2.2.1 == t5.2.2.2.1) && (t19.1.2.2.2.2.1 == t5.2.2.2.2.1))))) = false from Bool.eq_false_iff.mpr q45)))) ((hf 13 89 (by kernel_rfl) rfl).trans hv13)
                refine ls_fr hF ?_
                refine ls_val (v := .bool false) rfl rfl (by kernel_rfl) (fun w => by kernel_rfl) ?_
                exact ls_fin s0 (.bool false) (congrArg (fun z => upd z 90 _) hF.symm) ⟨rfl, rfl⟩ (sub_nil _)
              obtain ⟨s39_15, hs39_15⟩ : ∃ z : Value → Sto → Prop, z = (fun v R => v = .bool false ∧ R = s0) := ⟨_, rfl⟩
              refine have_op (l := [_, _, _, _, _, _, _, _, _, _, _, _, _, _, _, _, _, _, _, _, _, _, _, _, _, _, _, _, _, _, _, _, _, _, _, _, _, _, _, _, _, _, _, _, _, _]) shadowboxlaw06_PointerBack.tab37 5 15 (fun sp => sp 15 = s39_15 ∧ sp 14 = s39_14) (fun sp on hA hon => ?_) (fun ops39_15 => ?_)
              · refine ⟨fun o ho vs Rs f' S' w hp hf hx hS hR hs => ?_⟩
                obtain rfl := Option.some.inj ho
                obtain ⟨hv14, hR14⟩ := (spe hA.2 hs39_14 (hp 14 (by kernel_rfl)))
                rw [hA.1, hs39_15]
                refine And.intro (fun a ha => (want_none rfl a ha).trans hon.symm) (And.intro (fun _ => ?_) (fun h => by rw [hon] at h; cases h))
                have hF := fr_next (rfl) ((hf 14 90 (by kernel_rfl) rfl).trans hv14)
                refine ls_fr hF ?_
                refine ls_val (v := .bool false) rfl rfl (by kernel_rfl) (fun w => by kernel_rfl) ?_
                exact ls_fin s0 (.bool false) (congrArg (fun z => upd z 91 _) hF.symm) ⟨rfl, rfl⟩ (sub_nil _)
              obtain ⟨s39_20, hs39_20⟩ : ∃ z : Value → Sto → Prop, z = (fun v R => v = .bool false ∧ R = s0) := ⟨_, rfl⟩
              refine have_op (l := [_, _, _, _, _, _, _, _, _, _, _, _, _, _, _, _, _, _, _, _, _, _, _, _, _, _, _, _, _, _, _, _, _, _, _, _, _, _, _, _, _, _, _, _, _, _]) shadowboxlaw06_PointerBack.tab37 5 20 (fun sp => sp 20 = s39_20 ∧ sp 15 = s39_15 ∧ sp 19 = spu) (fun sp on hA hon => ?_) (fun ops39_20 => ?_)
              · refine ⟨fun o ho vs Rs f' S' w hp hf hx hS hR hs => ?_⟩
                obtain rfl := Option.some.inj ho
                obtain ⟨hv15, hR15⟩ := (spe hA.2.1 hs39_15 (hp 15 (by kernel_rfl)))
                obtain ⟨hv19, hR19⟩ := (spe hA.2.2 rfl (hp 19 (by kernel_rfl)) : spu _ _)
                rw [hA.1, hs39_20]
                refine And.intro (fun a ha => (want_none rfl a ha).trans hon.symm) (And.intro (fun _ => ?_) (fun h => by rw [hon] at h; cases h))
                have hF := fr_next (fr_next (rfl) ((hf 15 91 (by kernel_rfl) rfl).trans hv15)) ((hf 19 95 (by kernel_rfl) rfl).trans hv19)
                refine ls_fr hF ?_
                refine ls_val (v := .bool false) rfl rfl (by kernel_rfl) (fun w => by kernel_rfl) ?_
                exact ls_fin s0 (.bool false) (congrArg (fun z => upd z 96 _) hF.symm) ⟨rfl, rfl⟩ (sub_nil _)
              obtain ⟨s39_21, hs39_21⟩ : ∃ z : Value → Sto → Prop, z = (fun v R => v = .bool false ∧ R = s0) := ⟨_, rfl⟩
              refine have_op (l := [_, _, _, _, _, _, _, _, _, _, _, _, _, _, _, _, _, _, _, _, _, _, _, _, _, _, _, _, _, _, _, _, _, _, _, _, _, _, _, _, _, _, _, _, _, _]) shadowboxlaw06_PointerBack.tab37 5 21 (fun sp => sp 21 = s39_21 ∧ sp 20 = s39_20) (fun sp on hA hon => ?_) (fun ops39_21 => ?_)
              · refine ⟨fun o ho vs Rs f' S' w hp hf hx hS hR hs => ?_⟩
                obtain rfl := Option.some.inj ho
                obtain ⟨hv20, hR20⟩ := (spe hA.2 hs39_20 (hp 20 (by kernel_rfl)))
                rw [hA.1, hs39_21]
                refine And.intro (fun a ha => (want_none rfl a ha).trans hon.symm) (And.intro (fun _ => ?_) (fun h => by rw [hon] at h; cases h))
                have hF := fr_next (rfl) ((hf 20 96 (by kernel_rfl) rfl).trans hv20)
                refine ls_fr hF ?_
                refine ls_val (v := .bool false) rfl rfl (by kernel_rfl) (fun w => by kernel_rfl) ?_
                exact ls_fin s0 (.bool false) (congrArg (fun z => upd z 97 _) hF.symm) ⟨rfl, rfl⟩ (sub_nil _)
              obtain ⟨s39_27, hs39_27⟩ : ∃ z : Value → Sto → Prop, z = (fun v R => v = .bool false ∧ R = s0) := ⟨_, rfl⟩
              refine have_op (l := [_, _, _, _, _, _, _, _, _, _, _, _, _, _, _, _, _, _, _, _, _, _, _, _, _, _, _, _, _, _, _, _, _, _, _, _, _, _, _, _, _, _, _, _, _, _]) shadowboxlaw06_PointerBack.tab37 5 27 (fun sp => sp 27 = s39_27 ∧ sp 21 = s39_21 ∧ sp 26 = spu) (fun sp on hA hon => ?_) (fun ops39_27 => ?_)
              · refine ⟨fun o ho vs Rs f' S' w hp hf hx hS hR hs => ?_⟩
                obtain rfl := Option.some.inj ho
                obtain ⟨hv21, hR21⟩ := (spe hA.2.1 hs39_21 (hp 21 (by kernel_rfl)))
                obtain ⟨hv26, hR26⟩ := (spe hA.2.2 rfl (hp 26 (by kernel_rfl)) : spu _ _)
                rw [hA.1, hs39_27]
                refine And.intro (fun a ha => (want_none rfl a ha).trans hon.symm) (And.intro (fun _ => ?_) (fun h => by rw [hon] at h; cases h))
                have hF := fr_next (fr_next (rfl) ((hf 21 97 (by kernel_rfl) rfl).trans hv21)) ((hf 26 102 (by kernel_rfl) rfl).trans hv26)
                refine ls_fr hF ?_
                refine ls_val (v := .bool false) rfl rfl (by kernel_rfl) (fun w => by kernel_rfl) ?_
                exact ls_fin s0 (.bool false) (congrArg (fun z => upd z 103 _) hF.symm) ⟨rfl, rfl⟩ (sub_nil _)
              obtain ⟨s39_28, hs39_28⟩ : ∃ z : Value → Sto → Prop, z = (fun v R => v = .bool false ∧ R = s0) := ⟨_, rfl⟩
              refine have_op (l := [_, _, _, _, _, _, _, _, _, _, _, _, _, _, _, _, _, _, _, _, _, _, _, _, _, _, _, _, _, _, _, _, _, _, _, _, _, _, _, _, _, _, _, _, _, _]) shadowboxlaw06_PointerBack.tab37 5 28 (fun sp => sp 28 = s39_28 ∧ sp 27 = s39_27) (fun sp on hA hon => ?_) (fun ops39_28 => ?_)
              · refine ⟨fun o ho vs Rs f' S' w hp hf hx hS hR hs => ?_⟩
                obtain rfl := Option.some.inj ho
                obtain ⟨hv27, hR27⟩ := (spe hA.2 hs39_27 (hp 27 (by kernel_rfl)))
                rw [hA.1, hs39_28]
                refine And.intro (fun a ha => (want_none rfl a ha).trans hon.symm) (And.intro (fun _ => ?_) (fun h => by rw [hon] at h; cases h))
                have hF := fr_next (rfl) ((hf 27 103 (by kernel_rfl) rfl).trans hv27)
                refine ls_fr hF ?_
                refine ls_val (v := .bool false) rfl rfl (by kernel_rfl) (fun w => by kernel_rfl) ?_
                exact ls_fin s0 (.bool false) (congrArg (fun z => upd z 104 _) hF.symm) ⟨rfl, rfl⟩ (sub_nil _)
              obtain ⟨s39_35, hs39_35⟩ : ∃ z : Value → Sto → Prop, z = (fun v R => v = .bool false ∧ R = s0) := ⟨_, rfl⟩
              refine have_op (l := [_, _, _, _, _, _, _, _, _, _, _, _, _, _, _, _, _, _, _, _, _, _, _, _, _, _, _, _, _, _, _, _, _, _, _, _, _, _, _, _, _, _, _, _, _, _]) shadowboxlaw06_PointerBack.tab37 5 35 (fun sp => sp 35 = s39_35 ∧ sp 28 = s39_28 ∧ sp 34 = spu) (fun sp on hA hon => ?_) (fun ops39_35 => ?_)
              · refine ⟨fun o ho vs Rs f' S' w hp hf hx hS hR hs => ?_⟩
                obtain rfl := Option.some.inj ho
                obtain ⟨hv28, hR28⟩ := (spe hA.2.1 hs39_28 (hp 28 (by kernel_rfl)))
                obtain ⟨hv34, hR34⟩ := (spe hA.2.2 rfl (hp 34 (by kernel_rfl)) : spu _ _)
                rw [hA.1, hs39_35]
                refine And.intro (fun a ha => (want_none rfl a ha).trans hon.symm) (And.intro (fun _ => ?_) (fun h => by rw [hon] at h; cases h))
                have hF := fr_next (fr_next (rfl) ((hf 28 104 (by kernel_rfl) rfl).trans hv28)) ((hf 34 110 (by kernel_rfl) rfl).trans hv34)
                refine ls_fr hF ?_
                refine ls_val (v := .bool false) rfl rfl (by kernel_rfl) (fun w => by kernel_rfl) ?_
                exact ls_fin s0 (.bool false) (congrArg (fun z => upd z 111 _) hF.symm) ⟨rfl, rfl⟩ (sub_nil _)
              obtain ⟨s39_36, hs39_36⟩ : ∃ z : Value → Sto → Prop, z = (fun v R => v = .bool false ∧ R = s0) := ⟨_, rfl⟩
              refine have_op (l := [_, _, _, _, _, _, _, _, _, _, _, _, _, _, _, _, _, _, _, _, _, _, _, _, _, _, _, _, _, _, _, _, _, _, _, _, _, _, _, _, _, _, _, _, _, _]) shadowboxlaw06_PointerBack.tab37 5 36 (fun sp => sp 36 = s39_36 ∧ sp 35 = s39_35) (fun sp on hA hon => ?_) (fun ops39_36 => ?_)
              · refine ⟨fun o ho vs Rs f' S' w hp hf hx hS hR hs => ?_⟩
                obtain rfl := Option.some.inj ho
                obtain ⟨hv35, hR35⟩ := (spe hA.2 hs39_35 (hp 35 (by kernel_rfl)))
                rw [hA.1, hs39_36]
                refine And.intro (fun a ha => (want_none rfl a ha).trans hon.symm) (And.intro (fun _ => ?_) (fun h => by rw [hon] at h; cases h))
                have hF := fr_next (rfl) ((hf 35 111 (by kernel_rfl) rfl).trans hv35)
                refine ls_fr hF ?_
                refine ls_val (v := .bool false) rfl rfl (by kernel_rfl) (fun w => by kernel_rfl) ?_
                exact ls_fin s0 (.bool false) (congrArg (fun z => upd z 112 _) hF.symm) ⟨rfl, rfl⟩ (sub_nil _)
              refine cs_draw shadowboxlaw06_PointerBack.tab37 43 5 (spl [s39_0, s39_1, s39_2, s39_3, s39_4, s39_5, s39_6, s39_7, s39_8, s39_9, s39_10, s39_11, spu, spu, s39_14, s39_15, spu, spu, spu, spu, s39_20, s39_21, spu, spu, spu, spu, spu, s39_27, s39_28, spu, spu, spu, spu, spu, spu, s39_35, s39_36, spu, spu, spu, spu, spu, spu]) (onl [true, true, true, true, true, true, true, true, true, true, true, true, false, false, true, true, false, false, false, false, true, true, false, false, false, false, false, true, true, false, false, false, false, false, false, true, true, false, false, false, false, false, false]) (by kernel_rfl) (by kernel_rfl) (by kernel_rfl) (by kernel_rfl) (rs := [_, _, _]) rfl (by kernel_rfl) (by kernel_rfl) (all_snoc (all_snoc (all_snoc (all_snoc (all_snoc (all_snoc (all_snoc (all_snoc (all_snoc (all_snoc (all_snoc (all_snoc (all_snoc (all_snoc (all_snoc (all_snoc (all_snoc (all_snoc (all_snoc (all_snoc (all_snoc (all_snoc (all_snoc (all_snoc (all_snoc (all_snoc (all_snoc (all_snoc (all_snoc (all_snoc (all_snoc (all_snoc (all_snoc (all_snoc (all_snoc (all_snoc (all_snoc (all_snoc (all_snoc (all_snoc (all_snoc (all_snoc (all_snoc (all_nil) (ops39_0 _ _ rfl rfl)) (ops39_1 _ _ ⟨rfl, rfl⟩ rfl)) (ops39_2 _ _ ⟨rfl, rfl⟩ rfl)) (ops39_3 _ _ ⟨rfl, rfl⟩ rfl)) (ops39_4 _ _ ⟨rfl, rfl, rfl⟩ rfl)) (ops39_5 _ _ ⟨rfl, rfl, rfl⟩ rfl)) (ops39_6 _ _ ⟨rfl, rfl⟩ rfl)) (ops39_7 _ _ ⟨rfl, rfl⟩ rfl)) (ops39_8 _ _ ⟨rfl, rfl⟩ rfl)) (ops39_9 _ _ ⟨rfl, rfl, rfl, rfl⟩ rfl)) (ops39_10 _ _ ⟨rfl, rfl, rfl⟩ rfl)) (ops39_11 _ _ ⟨rfl, rfl⟩ rfl)) (op_offi 12 11 87 true rfl rfl (by kernel_rfl) (by kernel_rfl) rfl (fun v R h => by rw [hs39_11] at h; obtain ⟨h, _⟩ := h; exact h.trans (congrArg Value.bool (show ((t19.1.1 == t5.1) && ((t19.1.2.1 == t5.2.1) && ((t19.1.2.2.1 == t5.2.2.1) && ((t19.1.2.2.2.1 == t5.2.2.2.1) && (t19.1.2.2.2.2.1 == t5.2.2.2.2.1))))) = false from Bool.eq_false_iff.mpr q45))) rfl rfl)) (op_offi 13 11 87 true rfl rfl (by kernel_rfl) (by kernel_rfl) rfl (fun v R h => by rw [hs39_11] at h; obtain ⟨h, _⟩ := h; exact h.trans (congrArg Value.bool (show ((t19.1.1 == t5.1) && ((t19.1.2.1 == t5.2.1) && ((t19.1.2.2.1 == t5.2.2.1) && ((t19.1.2.2.2.1 == t5.2.2.2.1) && (t19.1.2.2.2.2.1 == t5.2.2.2.2.1))))) = false from Bool.eq_false_iff.mpr q45))) rfl rfl)) (ops39_14 _ _ ⟨rfl, rfl, rfl⟩ rfl)) (ops39_15 _ _ ⟨rfl, rfl⟩ rfl)) (op_offi 16 15 91 true rfl rfl (by kernel_rfl) (by kernel_rfl) rfl (fun v R h => by rw [hs39_15] at h; obtain ⟨h, _⟩ := h; exact h) rfl rfl)) (op_offi 17 15 91 true rfl rfl (by kernel_rfl) (by kernel_rfl) rfl (fun v R h => by rw [hs39_15] at h; obtain ⟨h, _⟩ := h; exact h) rfl rfl)) (op_offi 18 15 91 true rfl rfl (by kernel_rfl) (by kernel_rfl) rfl (fun v R h => by rw [hs39_15] at h; obtain ⟨h, _⟩ := h; exact h) rfl rfl)) (op_offi 19 15 91 true rfl rfl (by kernel_rfl) (by kernel_rfl) rfl (fun v R h => by rw [hs39_15] at h; obtain ⟨h, _⟩ := h; exact h) rfl rfl)) (ops39_20 _ _ ⟨rfl, rfl, rfl⟩ rfl)) (ops39_21 _ _ ⟨rfl, rfl⟩ rfl)) (op_offi 22 21 97 true rfl rfl (by kernel_rfl) (by kernel_rfl) rfl (fun v R h => by rw [hs39_21] at h; obtain ⟨h, _⟩ := h; exact h) rfl rfl)) (op_offi 23 21 97 true rfl rfl (by kernel_rfl) (by kernel_rfl) rfl (fun v R h => by rw [hs39_21] at h; obtain ⟨h, _⟩ := h; exact h) rfl rfl)) (op_offi 24 21 97 true rfl rfl (by kernel_rfl) (by kernel_rfl) rfl (fun v R h => by rw [hs39_21] at h; obtain ⟨h, _⟩ := h; exact h) rfl rfl)) (op_offi 25 21 97 true rfl rfl (by kernel_rfl) (by kernel_rfl) rfl (fun v R h => by rw [hs39_21] at h; obtain ⟨h, _⟩ := h; exact h) rfl rfl)) (op_offi 26 21 97 true rfl rfl (by kernel_rfl) (by kernel_rfl) rfl (fun v R h => by rw [hs39_21] at h; obtain ⟨h, _⟩ := h; exact h) rfl rfl)) (ops39_27 _ _ ⟨rfl, rfl, rfl⟩ rfl)) (ops39_28 _ _ ⟨rfl, rfl⟩ rfl)) (op_offi 29 28 104 true rfl rfl (by kernel_rfl) (by kernel_rfl) rfl (fun v R h => by rw [hs39_28] at h; obtain ⟨h, _⟩ := h; exact h) rfl rfl)) (op_offi 30 28 104 true rfl rfl (by kernel_rfl) (by kernel_rfl) rfl (fun v R h => by rw [hs39_28] at h; obtain ⟨h, _⟩ := h; exact h) rfl rfl)) (op_offi 31 28 104 true rfl rfl (by kernel_rfl) (by kernel_rfl) rfl (fun v R h => by rw [hs39_28] at h; obtain ⟨h, _⟩ := h; exact h) rfl rfl)) (op_offi 32 28 104 true rfl rfl (by kernel_rfl) (by kernel_rfl) rfl (fun v R h => by rw [hs39_28] at h; obtain ⟨h, _⟩ := h; exact h) rfl rfl)) (op_offi 33 28 104 true rfl rfl (by kernel_rfl) (by kernel_rfl) rfl (fun v R h => by rw [hs39_28] at h; obtain ⟨h, _⟩ := h; exact h) rfl rfl)) (op_offi 34 28 104 true rfl rfl (by kernel_rfl) (by kernel_rfl) rfl (fun v R h => by rw [hs39_28] at h; obtain ⟨h, _⟩ := h; exact h) rfl rfl)) (ops39_35 _ _ ⟨rfl, rfl, rfl⟩ rfl)) (ops39_36 _ _ ⟨rfl, rfl⟩ rfl)) (op_offi 37 36 112 true rfl rfl (by kernel_rfl) (by kernel_rfl) rfl (fun v R h => by rw [hs39_36] at h; obtain ⟨h, _⟩ := h; exact h) rfl rfl)) (op_offi 38 36 112 true rfl rfl (by kernel_rfl) (by kernel_rfl) rfl (fun v R h => by rw [hs39_36] at h; obtain ⟨h, _⟩ := h; exact h) rfl rfl)) (op_offi 39 36 112 true rfl rfl (by kernel_rfl) (by kernel_rfl) rfl (fun v R h => by rw [hs39_36] at h; obtain ⟨h, _⟩ := h; exact h) rfl rfl)) (op_offi 40 36 112 true rfl rfl (by kernel_rfl) (by kernel_rfl) rfl (fun v R h => by rw [hs39_36] at h; obtain ⟨h, _⟩ := h; exact h) rfl rfl)) (op_offi 41 36 112 true rfl rfl (by kernel_rfl) (by kernel_rfl) rfl (fun v R h => by rw [hs39_36] at h; obtain ⟨h, _⟩ := h; exact h) rfl rfl)) (op_offi 42 36 112 true rfl rfl (by kernel_rfl) (by kernel_rfl) rfl (fun v R h => by rw [hs39_36] at h; obtain ⟨h, _⟩ := h; exact h) rfl rfl)) ?_
              intro vs Rs f' S' hp hf hx hS hR
              obtain ⟨x42, hv1, hR1⟩ := (spe rfl hs39_1 (hp 1 (by kernel_rfl)))
              obtain ⟨hv36, hR36⟩ := (spe rfl hs39_36 (hp 36 (by kernel_rfl)))
              obtain ⟨hv39, hR39⟩ := (spe rfl rfl (hp 39 (by kernel_rfl)) : spu _ _)
              obtain ⟨hv42, hR42⟩ := (spe rfl rfl (hp 42 (by kernel_rfl)) : spu _ _)
              refine ls_fr (F := upd f' 112 (.bool false)) (fr_next (rfl) ((hf 36 112 (by kernel_rfl) rfl).trans hv36)) ?_
              refine ls_sub (s0) (sub_nil _) ?_
              refine ls_off (j := 36) (t := 112) (b := true) (c := false) rfl rfl (by kernel_rfl) (by kernel_rfl) rfl rfl (by kernel_rfl) ?_
              refine ls_val (v := .bool false) rfl rfl (by kernel_rfl) (fun w => by kernel_rfl) ?_
              refine ls_val (v := .bool false) rfl rfl (by kernel_rfl) (fun w => by kernel_rfl) ?_
              refine ls_end ?_
              refine qn_then ?_
              refine cs_ret' ?_
              obtain rfl := Option.some.inj H
              refine qr_res (rs := [_]) rfl (fun w' hs => ⟨[.bool false], (res_tmp (by kernel_rfl) (.nil)), (), rfl, hs.pick (ts := []) (cs := []) trivial (by decide)⟩)
          · replace H := ite_f q44 H
            obtain ⟨s39_10, hs39_10⟩ : ∃ z : Value → Sto → Prop, z = (fun v R => v = .bool false ∧ R = s0) := ⟨_, rfl⟩
            refine have_op (l := [_, _, _, _, _, _, _, _, _, _, _, _, _, _, _, _, _, _, _, _, _, _, _, _, _, _, _, _, _, _, _, _, _, _, _, _, _, _, _, _, _, _, _, _, _, _]) shadowboxlaw06_PointerBack.tab37 5 10 (fun sp => sp 10 = s39_10 ∧ sp 6 = s39_6 ∧ sp 9 = spu) (fun sp on hA hon => ?_) (fun ops39_10 => ?_)
            · refine ⟨fun o ho vs Rs f' S' w hp hf hx hS hR hs => ?_⟩
              obtain rfl := Option.some.inj ho
              obtain ⟨hv6, hR6⟩ := (spe hA.2.1 hs39_6 (hp 6 (by kernel_rfl)))
              obtain ⟨hv9, hR9⟩ := (spe hA.2.2 rfl (hp 9 (by kernel_rfl)) : spu _ _)
              rw [hA.1, hs39_10]
              refine And.intro (fun a ha => (want_none rfl a ha).trans hon.symm) (And.intro (fun _ => ?_) (fun h => by rw [hon] at h; cases h))
              have hF := fr_next (fr_next (rfl) (((hf 6 82 (by kernel_rfl) rfl).trans hv6).trans (congrArg Value.bool (show (decide (t19.2 = (0 : Int))) = false from dec_f q44)))) ((hf 9 85 (by kernel_rfl) rfl).trans hv9)
              refine ls_fr hF ?_
              refine ls_val (v := .bool false) rfl rfl (by kernel_rfl) (fun w => by kernel_rfl) ?_
              exact ls_fin s0 (.bool false) (congrArg (fun z => upd z 86 _) hF.symm) ⟨rfl, rfl⟩ (sub_nil _)
            obtain ⟨s39_11, hs39_11⟩ : ∃ z : Value → Sto → Prop, z = (fun v R => v = .bool false ∧ R = s0) := ⟨_, rfl⟩
            refine have_op (l := [_, _, _, _, _, _, _, _, _, _, _, _, _, _, _, _, _, _, _, _, _, _, _, _, _, _, _, _, _, _, _, _, _, _, _, _, _, _, _, _, _, _, _, _, _, _]) shadowboxlaw06_PointerBack.tab37 5 11 (fun sp => sp 11 = s39_11 ∧ sp 10 = s39_10) (fun sp on hA hon => ?_) (fun ops39_11 => ?_)
            · refine ⟨fun o ho vs Rs f' S' w hp hf hx hS hR hs => ?_⟩
              obtain rfl := Option.some.inj ho
              obtain ⟨hv10, hR10⟩ := (spe hA.2 hs39_10 (hp 10 (by kernel_rfl)))
              rw [hA.1, hs39_11]
              refine And.intro (fun a ha => (want_none rfl a ha).trans hon.symm) (And.intro (fun _ => ?_) (fun h => by rw [hon] at h; cases h))
              have hF := fr_next (rfl) ((hf 10 86 (by kernel_rfl) rfl).trans hv10)
              refine ls_fr hF ?_
              refine ls_val (v := .bool false) rfl rfl (by kernel_rfl) (fun w => by kernel_rfl) ?_
              exact ls_fin s0 (.bool false) (congrArg (fun z => upd z 87 _) hF.symm) ⟨rfl, rfl⟩ (sub_nil _)
            obtain ⟨s39_14, hs39_14⟩ : ∃ z : Value → Sto → Prop, z = (fun v R => v = .bool false ∧ R = s0) := ⟨_, rfl⟩
            refine have_op (l := [_, _, _, _, _, _, _, _, _, _, _, _, _, _, _, _, _, _, _, _, _, _, _, _, _, _, _, _, _, _, _, _, _, _, _, _, _, _, _, _, _, _, _, _, _, _]) shadowboxlaw06_PointerBack.tab37 5 14 (fun sp => sp 14 = s39_14 ∧ sp 11 = s39_11 ∧ sp 13 = spu) (fun sp on hA hon => ?_) (fun ops39_14 => ?_)
            · refine ⟨fun o ho vs Rs f' S' w hp hf hx hS hR hs => ?_⟩
              obtain rfl := Option.some.inj ho
              obtain ⟨hv11, hR11⟩ := (spe hA.2.1 hs39_11 (hp 11 (by kernel_rfl)))
              obtain ⟨hv13, hR13⟩ := (spe hA.2.2 rfl (hp 13 (by kernel_rfl)) : spu _ _)
              rw [hA.1, hs39_14]
              refine And.intro (fun a ha => (want_none rfl a ha).trans hon.symm) (And.intro (fun _ => ?_) (fun h => by rw [hon] at h; cases h))
              have hF := fr_next (fr_next (rfl) ((hf 11 87 (by kernel_rfl) rfl).trans hv11)) ((hf 13 89 (by kernel_rfl) rfl).trans hv13)
              refine ls_fr hF ?_
              refine ls_val (v := .bool false) rfl rfl (by kernel_rfl) (fun w => by kernel_rfl) ?_
              exact ls_fin s0 (.bool false) (congrArg (fun z => upd z 90 _) hF.symm) ⟨rfl, rfl⟩ (sub_nil _)
            obtain ⟨s39_15, hs39_15⟩ : ∃ z : Value → Sto → Prop, z = (fun v R => v = .bool false ∧ R = s0) := ⟨_, rfl⟩
            refine have_op (l := [_, _, _, _, _, _, _, _, _, _, _, _, _, _, _, _, _, _, _, _, _, _, _, _, _, _, _, _, _, _, _, _, _, _, _, _, _, _, _, _, _, _, _, _, _, _]) shadowboxlaw06_PointerBack.tab37 5 15 (fun sp => sp 15 = s39_15 ∧ sp 14 = s39_14) (fun sp on hA hon => ?_) (fun ops39_15 => ?_)
            · refine ⟨fun o ho vs Rs f' S' w hp hf hx hS hR hs => ?_⟩
              obtain rfl := Option.some.inj ho
              obtain ⟨hv14, hR14⟩ := (spe hA.2 hs39_14 (hp 14 (by kernel_rfl)))
              rw [hA.1, hs39_15]
              refine And.intro (fun a ha => (want_none rfl a ha).trans hon.symm) (And.intro (fun _ => ?_) (fun h => by rw [hon] at h; cases h))
              have hF := fr_next (rfl) ((hf 14 90 (by kernel_rfl) rfl).trans hv14)
              refine ls_fr hF ?_
              refine ls_val (v := .bool false) rfl rfl (by kernel_rfl) (fun w => by kernel_rfl) ?_
              exact ls_fin s0 (.bool false) (congrArg (fun z => upd z 91 _) hF.symm) ⟨rfl, rfl⟩ (sub_nil _)
            obtain ⟨s39_20, hs39_20⟩ : ∃ z : Value → Sto → Prop, z = (fun v R => v = .bool false ∧ R = s0) := ⟨_, rfl⟩
            refine have_op (l := [_, _, _, _, _, _, _, _, _, _, _, _, _, _, _, _, _, _, _, _, _, _, _, _, _, _, _, _, _, _, _, _, _, _, _, _, _, _, _, _, _, _, _, _, _, _]) shadowboxlaw06_PointerBack.tab37 5 20 (fun sp => sp 20 = s39_20 ∧ sp 15 = s39_15 ∧ sp 19 = spu) (fun sp on hA hon => ?_) (fun ops39_20 => ?_)
            · refine ⟨fun o ho vs Rs f' S' w hp hf hx hS hR hs => ?_⟩
              obtain rfl := Option.some.inj ho
              obtain ⟨hv15, hR15⟩ := (spe hA.2.1 hs39_15 (hp 15 (by kernel_rfl)))
              obtain ⟨hv19, hR19⟩ := (spe hA.2.2 rfl (hp 19 (by kernel_rfl)) : spu _ _)
              rw [hA.1, hs39_20]
              refine And.intro (fun a ha => (want_none rfl a ha).trans hon.symm) (And.intro (fun _ => ?_) (fun h => by rw [hon] at h; cases h))
              have hF := fr_next (fr_next (rfl) ((hf 15 91 (by kernel_rfl) rfl).trans hv15)) ((hf 19 95 (by kernel_rfl) rfl).trans hv19)
              refine ls_fr hF ?_
              refine ls_val (v := .bool false) rfl rfl (by kernel_rfl) (fun w => by kernel_rfl) ?_
              exact ls_fin s0 (.bool false) (congrArg (fun z => upd z 96 _) hF.symm) ⟨rfl, rfl⟩ (sub_nil _)
            obtain ⟨s39_21, hs39_21⟩ : ∃ z : Value → Sto → Prop, z = (fun v R => v = .bool false ∧ R = s0) := ⟨_, rfl⟩
            refine have_op (l := [_, _, _, _, _, _, _, _, _, _, _, _, _, _, _, _, _, _, _, _, _, _, _, _, _, _, _, _, _, _, _, _, _, _, _, _, _, _, _, _, _, _, _, _, _, _]) shadowboxlaw06_PointerBack.tab37 5 21 (fun sp => sp 21 = s39_21 ∧ sp 20 = s39_20) (fun sp on hA hon => ?_) (fun ops39_21 => ?_)
            · refine ⟨fun o ho vs Rs f' S' w hp hf hx hS hR hs => ?_⟩
              obtain rfl := Option.some.inj ho
              obtain ⟨hv20, hR20⟩ := (spe hA.2 hs39_20 (hp 20 (by kernel_rfl)))
              rw [hA.1, hs39_21]
              refine And.intro (fun a ha => (want_none rfl a ha).trans hon.symm) (And.intro (fun _ => ?_) (fun h => by rw [hon] at h; cases h))
              have hF := fr_next (rfl) ((hf 20 96 (by kernel_rfl) rfl).trans hv20)
              refine ls_fr hF ?_
              refine ls_val (v := .bool false) rfl rfl (by kernel_rfl) (fun w => by kernel_rfl) ?_
              exact ls_fin s0 (.bool false) (congrArg (fun z => upd z 97 _) hF.symm) ⟨rfl, rfl⟩ (sub_nil _)
            obtain ⟨s39_27, hs39_27⟩ : ∃ z : Value → Sto → Prop, z = (fun v R => v = .bool false ∧ R = s0) := ⟨_, rfl⟩
            refine have_op (l := [_, _, _, _, _, _, _, _, _, _, _, _, _, _, _, _, _, _, _, _, _, _, _, _, _, _, _, _, _, _, _, _, _, _, _, _, _, _, _, _, _, _, _, _, _, _]) shadowboxlaw06_PointerBack.tab37 5 27 (fun sp => sp 27 = s39_27 ∧ sp 21 = s39_21 ∧ sp 26 = spu) (fun sp on hA hon => ?_) (fun ops39_27 => ?_)
            · refine ⟨fun o ho vs Rs f' S' w hp hf hx hS hR hs => ?_⟩
              obtain rfl := Option.some.inj ho
              obtain ⟨hv21, hR21⟩ := (spe hA.2.1 hs39_21 (hp 21 (by kernel_rfl)))
              obtain ⟨hv26, hR26⟩ := (spe hA.2.2 rfl (hp 26 (by kernel_rfl)) : spu _ _)
              rw [hA.1, hs39_27]
              refine And.intro (fun a ha => (want_none rfl a ha).trans hon.symm) (And.intro (fun _ => ?_) (fun h => by rw [hon] at h; cases h))
              have hF := fr_next (fr_next (rfl) ((hf 21 97 (by kernel_rfl) rfl).trans hv21)) ((hf 26 102 (by kernel_rfl) rfl).trans hv26)
              refine ls_fr hF ?_
              refine ls_val (v := .bool false) rfl rfl (by kernel_rfl) (fun w => by kernel_rfl) ?_
              exact ls_fin s0 (.bool false) (congrArg (fun z => upd z 103 _) hF.symm) ⟨rfl, rfl⟩ (sub_nil _)
            obtain ⟨s39_28, hs39_28⟩ : ∃ z : Value → Sto → Prop, z = (fun v R => v = .bool false ∧ R = s0) := ⟨_, rfl⟩
            refine have_op (l := [_, _, _, _, _, _, _, _, _, _, _, _, _, _, _, _, _, _, _, _, _, _, _, _, _, _, _, _, _, _, _, _, _, _, _, _, _, _, _, _, _, _, _, _, _, _]) shadowboxlaw06_PointerBack.tab37 5 28 (fun sp => sp 28 = s39_28 ∧ sp 27 = s39_27) (fun sp on hA hon => ?_) (fun ops39_28 => ?_)
            · refine ⟨fun o ho vs Rs f' S' w hp hf hx hS hR hs => ?_⟩
              obtain rfl := Option.some.inj ho
              obtain ⟨hv27, hR27⟩ := (spe hA.2 hs39_27 (hp 27 (by kernel_rfl)))
              rw [hA.1, hs39_28]
              refine And.intro (fun a ha => (want_none rfl a ha).trans hon.symm) (And.intro (fun _ => ?_) (fun h => by rw [hon] at h; cases h))
              have hF := fr_next (rfl) ((hf 27 103 (by kernel_rfl) rfl).trans hv27)
              refine ls_fr hF ?_
              refine ls_val (v := .bool false) rfl rfl (by kernel_rfl) (fun w => by kernel_rfl) ?_
              exact ls_fin s0 (.bool false) (congrArg (fun z => upd z 104 _) hF.symm) ⟨rfl, rfl⟩ (sub_nil _)
            obtain ⟨s39_35, hs39_35⟩ : ∃ z : Value → Sto → Prop, z = (fun v R => v = .bool false ∧ R = s0) := ⟨_, rfl⟩
            refine have_op (l := [_, _, _, _, _, _, _, _, _, _, _, _, _, _, _, _, _, _, _, _, _, _, _, _, _, _, _, _, _, _, _, _, _, _, _, _, _, _, _, _, _, _, _, _, _, _]) shadowboxlaw06_PointerBack.tab37 5 35 (fun sp => sp 35 = s39_35 ∧ sp 28 = s39_28 ∧ sp 34 = spu) (fun sp on hA hon => ?_) (fun ops39_35 => ?_)
            · refine ⟨fun o ho vs Rs f' S' w hp hf hx hS hR hs => ?_⟩
              obtain rfl := Option.some.inj ho
              obtain ⟨hv28, hR28⟩ := (spe hA.2.1 hs39_28 (hp 28 (by kernel_rfl)))
              obtain ⟨hv34, hR34⟩ := (spe hA.2.2 rfl (hp 34 (by kernel_rfl)) : spu _ _)
              rw [hA.1, hs39_35]
              refine And.intro (fun a ha => (want_none rfl a ha).trans hon.symm) (And.intro (fun _ => ?_) (fun h => by rw [hon] at h; cases h))
              have hF := fr_next (fr_next (rfl) ((hf 28 104 (by kernel_rfl) rfl).trans hv28)) ((hf 34 110 (by kernel_rfl) rfl).trans hv34)
              refine ls_fr hF ?_
              refine ls_val (v := .bool false) rfl rfl (by kernel_rfl) (fun w => by kernel_rfl) ?_
              exact ls_fin s0 (.bool false) (congrArg (fun z => upd z 111 _) hF.symm) ⟨rfl, rfl⟩ (sub_nil _)
            obtain ⟨s39_36, hs39_36⟩ : ∃ z : Value → Sto → Prop, z = (fun v R => v = .bool false ∧ R = s0) := ⟨_, rfl⟩
            refine have_op (l := [_, _, _, _, _, _, _, _, _, _, _, _, _, _, _, _, _, _, _, _, _, _, _, _, _, _, _, _, _, _, _, _, _, _, _, _, _, _, _, _, _, _, _, _, _, _]) shadowboxlaw06_PointerBack.tab37 5 36 (fun sp => sp 36 = s39_36 ∧ sp 35 = s39_35) (fun sp on hA hon => ?_) (fun ops39_36 => ?_)
            · refine ⟨fun o ho vs Rs f' S' w hp hf hx hS hR hs => ?_⟩
              obtain rfl := Option.some.inj ho
              obtain ⟨hv35, hR35⟩ := (spe hA.2 hs39_35 (hp 35 (by kernel_rfl)))
              rw [hA.1, hs39_36]
              refine And.intro (fun a ha => (want_none rfl a ha).trans hon.symm) (And.intro (fun _ => ?_) (fun h => by rw [hon] at h; cases h))
              have hF := fr_next (rfl) ((hf 35 111 (by kernel_rfl) rfl).trans hv35)
              refine ls_fr hF ?_
              refine ls_val (v := .bool false) rfl rfl (by kernel_rfl) (fun w => by kernel_rfl) ?_
              exact ls_fin s0 (.bool false) (congrArg (fun z => upd z 112 _) hF.symm) ⟨rfl, rfl⟩ (sub_nil _)
            refine cs_draw shadowboxlaw06_PointerBack.tab37 43 5 (spl [s39_0, s39_1, s39_2, s39_3, s39_4, s39_5, s39_6, spu, spu, spu, s39_10, s39_11, spu, spu, s39_14, s39_15, spu, spu, spu, spu, s39_20, s39_21, spu, spu, spu, spu, spu, s39_27, s39_28, spu, spu, spu, spu, spu, spu, s39_35, s39_36, spu, spu, spu, spu, spu, spu]) (onl [true, true, true, true, true, true, true, false, false, false, true, true, false, false, true, true, false, false, false, false, true, true, false, false, false, false, false, true, true, false, false, false, false, false, false, true, true, false, false, false, false, false, false]) (by kernel_rfl) (by kernel_rfl) (by kernel_rfl) (by kernel_rfl) (rs := [_, _, _]) rfl (by kernel_rfl) (by kernel_rfl) (all_snoc (all_snoc (all_snoc (all_snoc (all_snoc (all_snoc (all_snoc (all_snoc (all_snoc (all_snoc (all_snoc (all_snoc (all_snoc (all_snoc (all_snoc (all_snoc (all_snoc (all_snoc (all_snoc (all_snoc (all_snoc (all_snoc (all_snoc (all_snoc (all_snoc (all_snoc (all_snoc (all_snoc (all_snoc (all_snoc (all_snoc (all_snoc (all_snoc (all_snoc (all_snoc (all_snoc (all_snoc (all_snoc (all_snoc (all_snoc (all_snoc (all_snoc (all_snoc (all_nil) (ops39_0 _ _ rfl rfl)) (ops39_1 _ _ ⟨rfl, rfl⟩ rfl)) (ops39_2 _ _ ⟨rfl, rfl⟩ rfl)) (ops39_3 _ _ ⟨rfl, rfl⟩ rfl)) (ops39_4 _ _ ⟨rfl, rfl, rfl⟩ rfl)) (ops39_5 _ _ ⟨rfl, rfl, rfl⟩ rfl)) (ops39_6 _ _ ⟨rfl, rfl⟩ rfl)) (op_offi 7 6 82 true rfl rfl (by kernel_rfl) (by kernel_rfl) rfl (fun v R h => by rw [hs39_6] at h; obtain ⟨h, _⟩ := h; exact h.trans (congrArg Value.bool (show (decide (t19.2 = (0 : Int))) = false from dec_f q44))) rfl rfl)) (op_offi 8 6 82 true rfl rfl (by kernel_rfl) (by kernel_rfl) rfl (fun v R h => by rw [hs39_6] at h; obtain ⟨h, _⟩ := h; exact h.trans (congrArg Value.bool (show (decide (t19.2 = (0 : Int))) = false from dec_f q44))) rfl rfl)) (op_offi 9 6 82 true rfl rfl (by kernel_rfl) (by kernel_rfl) rfl (fun v R h => by rw [hs39_6] at h; obtain ⟨h, _⟩ := h; exact h.trans (congrArg Value.bool (show (decide (t19.2 = (0 : Int))) = false from dec_f q44))) rfl rfl)) (ops39_10 _ _ ⟨rfl, rfl, rfl⟩ rfl)) (ops39_11 _ _ ⟨rfl, rfl⟩ rfl)) (op_offi 12 11 87 true rfl rfl (by kernel_rfl) (by kernel_rfl) rfl (fun v R h => by rw [hs39_11] at h; obtain ⟨h, _⟩ := h; exact h) rfl rfl)) (op_offi 13 11 87 true rfl rfl (by kernel_rfl) (by kernel_rfl) rfl (fun v R h => by rw [hs39_11] at h; obtain ⟨h, _⟩ := h; exact h) rfl rfl)) (ops39_14 _ _ ⟨rfl, rfl, rfl⟩ rfl)) (ops39_15 _ _ ⟨rfl, rfl⟩ rfl)) (op_offi 16 15 91 true rfl rfl (by kernel_rfl) (by kernel_rfl) rfl (fun v R h => by rw [hs39_15] at h; obtain ⟨h, _⟩ := h; exact h) rfl rfl)) (op_offi 17 15 91 true rfl rfl (by kernel_rfl) (by kernel_rfl) rfl (fun v R h => by rw [hs39_15] at h; obtain ⟨h, _⟩ := h; exact h) rfl rfl)) (op_offi 18 15 91 true rfl rfl (by kernel_rfl) (by kernel_rfl) rfl (fun v R h => by rw [hs39_15] at h; obtain ⟨h, _⟩ := h; exact h) rfl rfl)) (op_offi 19 15 91 true rfl rfl (by kernel_rfl) (by kernel_rfl) rfl (fun v R h => by rw [hs39_15] at h; obtain ⟨h, _⟩ := h; exact h) rfl rfl)) (ops39_20 _ _ ⟨rfl, rfl, rfl⟩ rfl)) (ops39_21 _ _ ⟨rfl, rfl⟩ rfl)) (op_offi 22 21 97 true rfl rfl (by kernel_rfl) (by kernel_rfl) rfl (fun v R h => by rw [hs39_21] at h; obtain ⟨h, _⟩ := h; exact h) rfl rfl)) (op_offi 23 21 97 true rfl rfl (by kernel_rfl) (by kernel_rfl) rfl (fun v R h => by rw [hs39_21] at h; obtain ⟨h, _⟩ := h; exact h) rfl rfl)) (op_offi 24 21 97 true rfl rfl (by kernel_rfl) (by kernel_rfl) rfl (fun v R h => by rw [hs39_21] at h; obtain ⟨h, _⟩ := h; exact h) rfl rfl)) (op_offi 25 21 97 true rfl rfl (by kernel_rfl) (by kernel_rfl) rfl (fun v R h => by rw [hs39_21] at h; obtain ⟨h, _⟩ := h; exact h) rfl rfl)) (op_offi 26 21 97 true rfl rfl (by kernel_rfl) (by kernel_rfl) rfl (fun v R h => by rw [hs39_21] at h; obtain ⟨h, _⟩ := h; exact h) rfl rfl)) (ops39_27 _ _ ⟨rfl, rfl, rfl⟩ rfl)) (ops39_28 _ _ ⟨rfl, rfl⟩ rfl)) (op_offi 29 28 104 true rfl rfl (by kernel_rfl) (by kernel_rfl) rfl (fun v R h => by rw [hs39_28] at h; obtain ⟨h, _⟩ := h; exact h) rfl rfl)) (op_offi 30 28 104 true rfl rfl (by kernel_rfl) (by kernel_rfl) rfl (fun v R h => by rw [hs39_28] at h; obtain ⟨h, _⟩ := h; exact h) rfl rfl)) (op_offi 31 28 104 true rfl rfl (by kernel_rfl) (by kernel_rfl) rfl (fun v R h => by rw [hs39_28] at h; obtain ⟨h, _⟩ := h; exact h) rfl rfl)) (op_offi 32 28 104 true rfl rfl (by kernel_rfl) (by kernel_rfl) rfl (fun v R h => by rw [hs39_28] at h; obtain ⟨h, _⟩ := h; exact h) rfl rfl)) (op_offi 33 28 104 true rfl rfl (by kernel_rfl) (by kernel_rfl) rfl (fun v R h => by rw [hs39_28] at h; obtain ⟨h, _⟩ := h; exact h) rfl rfl)) (op_offi 34 28 104 true rfl rfl (by kernel_rfl) (by kernel_rfl) rfl (fun v R h => by rw [hs39_28] at h; obtain ⟨h, _⟩ := h; exact h) rfl rfl)) (ops39_35 _ _ ⟨rfl, rfl, rfl⟩ rfl)) (ops39_36 _ _ ⟨rfl, rfl⟩ rfl)) (op_offi 37 36 112 true rfl rfl (by kernel_rfl) (by kernel_rfl) rfl (fun v R h => by rw [hs39_36] at h; obtain ⟨h, _⟩ := h; exact h) rfl rfl)) (op_offi 38 36 112 true rfl rfl (by kernel_rfl) (by kernel_rfl) rfl (fun v R h => by rw [hs39_36] at h; obtain ⟨h, _⟩ := h; exact h) rfl rfl)) (op_offi 39 36 112 true rfl rfl (by kernel_rfl) (by kernel_rfl) rfl (fun v R h => by rw [hs39_36] at h; obtain ⟨h, _⟩ := h; exact h) rfl rfl)) (op_offi 40 36 112 true rfl rfl (by kernel_rfl) (by kernel_rfl) rfl (fun v R h => by rw [hs39_36] at h; obtain ⟨h, _⟩ := h; exact h) rfl rfl)) (op_offi 41 36 112 true rfl rfl (by kernel_rfl) (by kernel_rfl) rfl (fun v R h => by rw [hs39_36] at h; obtain ⟨h, _⟩ := h; exact h) rfl rfl)) (op_offi 42 36 112 true rfl rfl (by kernel_rfl) (by kernel_rfl) rfl (fun v R h => by rw [hs39_36] at h; obtain ⟨h, _⟩ := h; exact h) rfl rfl)) ?_
            intro vs Rs f' S' hp hf hx hS hR
            obtain ⟨x42, hv1, hR1⟩ := (spe rfl hs39_1 (hp 1 (by kernel_rfl)))
            obtain ⟨hv36, hR36⟩ := (spe rfl hs39_36 (hp 36 (by kernel_rfl)))
            obtain ⟨hv39, hR39⟩ := (spe rfl rfl (hp 39 (by kernel_rfl)) : spu _ _)
            obtain ⟨hv42, hR42⟩ := (spe rfl rfl (hp 42 (by kernel_rfl)) : spu _ _)
            refine ls_fr (F := upd f' 112 (.bool false)) (fr_next (rfl) ((hf 36 112 (by kernel_rfl) rfl).trans hv36)) ?_
            refine ls_sub (s0) (sub_nil _) ?_
            refine ls_off (j := 36) (t := 112) (b := true) (c := false) rfl rfl (by kernel_rfl) (by kernel_rfl) rfl rfl (by kernel_rfl) ?_
            refine ls_val (v := .bool false) rfl rfl (by kernel_rfl) (fun w => by kernel_rfl) ?_
            refine ls_val (v := .bool false) rfl rfl (by kernel_rfl) (fun w => by kernel_rfl) ?_
            refine ls_end ?_
            refine qn_then ?_
            refine cs_ret' ?_
            obtain rfl := Option.some.inj H
            refine qr_res (rs := [_]) rfl (fun w' hs => ⟨[.bool false], (res_tmp (by kernel_rfl) (.nil)), (), rfl, hs.pick (ts := []) (cs := []) trivial (by decide)⟩)
        · replace H := ite_f q43 H
          obtain ⟨s39_5, hs39_5⟩ : ∃ z : Value → Sto → Prop, z = (fun v R => v = .bool false ∧ R = s0) := ⟨_, rfl⟩
          refine have_op (l := [_, _, _, _, _, _, _, _, _, _, _, _, _, _, _, _, _, _, _, _, _, _, _, _, _, _, _, _, _, _, _, _, _, _, _, _, _, _, _, _, _, _, _, _, _, _]) shadowboxlaw06_PointerBack.tab37 5 5 (fun sp => sp 5 = s39_5 ∧ sp 2 = s39_2 ∧ sp 4 = spu) (fun sp on hA hon => ?_) (fun ops39_5 => ?_)
          · refine ⟨fun o ho vs Rs f' S' w hp hf hx hS hR hs => ?_⟩
            obtain rfl := Option.some.inj ho
            obtain ⟨hv2, hR2⟩ := (spe hA.2.1 hs39_2 (hp 2 (by kernel_rfl)))
            obtain ⟨hv4, hR4⟩ := (spe hA.2.2 rfl (hp 4 (by kernel_rfl)) : spu _ _)
            rw [hA.1, hs39_5]
            refine And.intro (fun a ha => (want_none rfl a ha).trans hon.symm) (And.intro (fun _ => ?_) (fun h => by rw [hon] at h; cases h))
            have hF := fr_next (fr_next (rfl) (((hf 2 78 (by kernel_rfl) rfl).trans hv2).trans (congrArg Value.bool (show t40 = false from Bool.eq_false_iff.mpr q43)))) ((hf 4 80 (by kernel_rfl) rfl).trans hv4)
            refine ls_fr hF ?_
            refine ls_val (v := .bool false) rfl rfl (by kernel_rfl) (fun w => by kernel_rfl) ?_
            exact ls_fin s0 (.bool false) (congrArg (fun z => upd z 81 _) hF.symm) ⟨rfl, rfl⟩ (sub_nil _)
          obtain ⟨s39_6, hs39_6⟩ : ∃ z : Value → Sto → Prop, z = (fun v R => v = .bool false ∧ R = s0) := ⟨_, rfl⟩
          refine have_op (l := [_, _, _, _, _, _, _, _, _, _, _, _, _, _, _, _, _, _, _, _, _, _, _, _, _, _, _, _, _, _, _, _, _, _, _, _, _, _, _, _, _, _, _, _, _, _]) shadowboxlaw06_PointerBack.tab37 5 6 (fun sp => sp 6 = s39_6 ∧ sp 5 = s39_5) (fun sp on hA hon => ?_) (fun ops39_6 => ?_)
          · refine ⟨fun o ho vs Rs f' S' w hp hf hx hS hR hs => ?_⟩
            obtain rfl := Option.some.inj ho
            obtain ⟨hv5, hR5⟩ := (spe hA.2 hs39_5 (hp 5 (by kernel_rfl)))
            rw [hA.1, hs39_6]
            refine And.intro (fun a ha => (want_none rfl a ha).trans hon.symm) (And.intro (fun _ => ?_) (fun h => by rw [hon] at h; cases h))
            have hF := fr_next (rfl) ((hf 5 81 (by kernel_rfl) rfl).trans hv5)
            refine ls_fr hF ?_
            refine ls_val (v := .bool false) rfl rfl (by kernel_rfl) (fun w => by kernel_rfl) ?_
            exact ls_fin s0 (.bool false) (congrArg (fun z => upd z 82 _) hF.symm) ⟨rfl, rfl⟩ (sub_nil _)
          obtain ⟨s39_10, hs39_10⟩ : ∃ z : Value → Sto → Prop, z = (fun v R => v = .bool false ∧ R = s0) := ⟨_, rfl⟩
          refine have_op (l := [_, _, _, _, _, _, _, _, _, _, _, _, _, _, _, _, _, _, _, _, _, _, _, _, _, _, _, _, _, _, _, _, _, _, _, _, _, _, _, _, _, _, _, _, _, _]) shadowboxlaw06_PointerBack.tab37 5 10 (fun sp => sp 10 = s39_10 ∧ sp 6 = s39_6 ∧ sp 9 = spu) (fun sp on hA hon => ?_) (fun ops39_10 => ?_)
          · refine ⟨fun o ho vs Rs f' S' w hp hf hx hS hR hs => ?_⟩
            obtain rfl := Option.some.inj ho
            obtain ⟨hv6, hR6⟩ := (spe hA.2.1 hs39_6 (hp 6 (by kernel_rfl)))
            obtain ⟨hv9, hR9⟩ := (spe hA.2.2 rfl (hp 9 (by kernel_rfl)) : spu _ _)
            rw [hA.1, hs39_10]
            refine And.intro (fun a ha => (want_none rfl a ha).trans hon.symm) (And.intro (fun _ => ?_) (fun h => by rw [hon] at h; cases h))
            have hF := fr_next (fr_next (rfl) ((hf 6 82 (by kernel_rfl) rfl).trans hv6)) ((hf 9 85 (by kernel_rfl) rfl).trans hv9)
            refine ls_fr hF ?_
            refine ls_val (v := .bool false) rfl rfl (by kernel_rfl) (fun w => by kernel_rfl) ?_
            exact ls_fin s0 (.bool false) (congrArg (fun z => upd z 86 _) hF.symm) ⟨rfl, rfl⟩ (sub_nil _)
          obtain ⟨s39_11, hs39_11⟩ : ∃ z : Value → Sto → Prop, z = (fun v R => v = .bool false ∧ R = s0) := ⟨_, rfl⟩
          refine have_op (l := [_, _, _, _, _, _, _, _, _, _, _, _, _, _, _, _, _, _, _, _, _, _, _, _, _, _, _, _, _, _, _, _, _, _, _, _, _, _, _, _, _, _, _, _, _, _]) shadowboxlaw06_PointerBack.tab37 5 11 (fun sp => sp 11 = s39_11 ∧ sp 10 = s39_10) (fun sp on hA hon => ?_) (fun ops39_11 => ?_)
          · refine ⟨fun o ho vs Rs f' S' w hp hf hx hS hR hs => ?_⟩
            obtain rfl := Option.some.inj ho
            obtain ⟨hv10, hR10⟩ := (spe hA.2 hs39_10 (hp 10 (by kernel_rfl)))
            rw [hA.1, hs39_11]
            refine And.intro (fun a ha => (want_none rfl a ha).trans hon.symm) (And.intro (fun _ => ?_) (fun h => by rw [hon] at h; cases h))
            have hF := fr_next (rfl) ((hf 10 86 (by kernel_rfl) rfl).trans hv10)
            refine ls_fr hF ?_
            refine ls_val (v := .bool false) rfl rfl (by kernel_rfl) (fun w => by kernel_rfl) ?_
            exact ls_fin s0 (.bool false) (congrArg (fun z => upd z 87 _) hF.symm) ⟨rfl, rfl⟩ (sub_nil _)
          obtain ⟨s39_14, hs39_14⟩ : ∃ z : Value → Sto → Prop, z = (fun v R => v = .bool false ∧ R = s0) := ⟨_, rfl⟩
          refine have_op (l := [_, _, _, _, _, _, _, _, _, _, _, _, _, _, _, _, _, _, _, _, _, _, _, _, _, _, _, _, _, _, _, _, _, _, _, _, _, _, _, _, _, _, _, _, _, _]) shadowboxlaw06_PointerBack.tab37 5 14 (fun sp => sp 14 = s39_14 ∧ sp 11 = s39_11 ∧ sp 13 = spu) (fun sp on hA hon => ?_) (fun ops39_14 => ?_)
          · refine ⟨fun o ho vs Rs f' S' w hp hf hx hS hR hs => ?_⟩
            obtain rfl := Option.some.inj ho
            obtain ⟨hv11, hR11⟩ := (spe hA.2.1 hs39_11 (hp 11 (by kernel_rfl)))
            obtain ⟨hv13, hR13⟩ := (spe hA.2.2 rfl (hp 13 (by kernel_rfl)) : spu _ _)
            rw [hA.1, hs39_14]
            refine And.intro (fun a ha => (want_none rfl a ha).trans hon.symm) (And.intro (fun _ => ?_) (fun h => by rw [hon] at h; cases h))
            have hF := fr_next (fr_next (rfl) ((hf 11 87 (by kernel_rfl) rfl).trans hv11)) ((hf 13 89 (by kernel_rfl) rfl).trans hv13)
            refine ls_fr hF ?_
            refine ls_val (v := .bool false) rfl rfl (by kernel_rfl) (fun w => by kernel_rfl) ?_
            exact ls_fin s0 (.bool false) (congrArg (fun z => upd z 90 _) hF.symm) ⟨rfl, rfl⟩ (sub_nil _)
          obtain ⟨s39_15, hs39_15⟩ : ∃ z : Value → Sto → Prop, z = (fun v R => v = .bool false ∧ R = s0) := ⟨_, rfl⟩
          refine have_op (l := [_, _, _, _, _, _, _, _, _, _, _, _, _, _, _, _, _, _, _, _, _, _, _, _, _, _, _, _, _, _, _, _, _, _, _, _, _, _, _, _, _, _, _, _, _, _]) shadowboxlaw06_PointerBack.tab37 5 15 (fun sp => sp 15 = s39_15 ∧ sp 14 = s39_14) (fun sp on hA hon => ?_) (fun ops39_15 => ?_)
          · refine ⟨fun o ho vs Rs f' S' w hp hf hx hS hR hs => ?_⟩
            obtain rfl := Option.some.inj ho
            obtain ⟨hv14, hR14⟩ := (spe hA.2 hs39_14 (hp 14 (by kernel_rfl)))
            rw [hA.1, hs39_15]
            refine And.intro (fun a ha => (want_none rfl a ha).trans hon.symm) (And.intro (fun _ => ?_) (fun h => by rw [hon] at h; cases h))
            have hF := fr_next (rfl) ((hf 14 90 (by kernel_rfl) rfl).trans hv14)
            refine ls_fr hF ?_
            refine ls_val (v := .bool false) rfl rfl (by kernel_rfl) (fun w => by kernel_rfl) ?_
            exact ls_fin s0 (.bool false) (congrArg (fun z => upd z 91 _) hF.symm) ⟨rfl, rfl⟩ (sub_nil _)
          obtain ⟨s39_20, hs39_20⟩ : ∃ z : Value → Sto → Prop, z = (fun v R => v = .bool false ∧ R = s0) := ⟨_, rfl⟩
          refine have_op (l := [_, _, _, _, _, _, _, _, _, _, _, _, _, _, _, _, _, _, _, _, _, _, _, _, _, _, _, _, _, _, _, _, _, _, _, _, _, _, _, _, _, _, _, _, _, _]) shadowboxlaw06_PointerBack.tab37 5 20 (fun sp => sp 20 = s39_20 ∧ sp 15 = s39_15 ∧ sp 19 = spu) (fun sp on hA hon => ?_) (fun ops39_20 => ?_)
          · refine ⟨fun o ho vs Rs f' S' w hp hf hx hS hR hs => ?_⟩
            obtain rfl := Option.some.inj ho
            obtain ⟨hv15, hR15⟩ := (spe hA.2.1 hs39_15 (hp 15 (by kernel_rfl)))
            obtain ⟨hv19, hR19⟩ := (spe hA.2.2 rfl (hp 19 (by kernel_rfl)) : spu _ _)
            rw [hA.1, hs39_20]
            refine And.intro (fun a ha => (want_none rfl a ha).trans hon.symm) (And.intro (fun _ => ?_) (fun h => by rw [hon] at h; cases h))
            have hF := fr_next (fr_next (rfl) ((hf 15 91 (by kernel_rfl) rfl).trans hv15)) ((hf 19 95 (by kernel_rfl) rfl).trans hv19)
            refine ls_fr hF ?_
            refine ls_val (v := .bool false) rfl rfl (by kernel_rfl) (fun w => by kernel_rfl) ?_
            exact ls_fin s0 (.bool false) (congrArg (fun z => upd z 96 _) hF.symm) ⟨rfl, rfl⟩ (sub_nil _)
          obtain ⟨s39_21, hs39_21⟩ : ∃ z : Value → Sto → Prop, z = (fun v R => v = .bool false ∧ R = s0) := ⟨_, rfl⟩
          refine have_op (l := [_, _, _, _, _, _, _, _, _, _, _, _, _, _, _, _, _, _, _, _, _, _, _, _, _, _, _, _, _, _, _, _, _, _, _, _, _, _, _, _, _, _, _, _, _, _]) shadowboxlaw06_PointerBack.tab37 5 21 (fun sp => sp 21 = s39_21 ∧ sp 20 = s39_20) (fun sp on hA hon => ?_) (fun ops39_21 => ?_)
          · refine ⟨fun o ho vs Rs f' S' w hp hf hx hS hR hs => ?_⟩
            obtain rfl := Option.some.inj ho
            obtain ⟨hv20, hR20⟩ := (spe hA.2 hs39_20 (hp 20 (by kernel_rfl)))
            rw [hA.1, hs39_21]
            refine And.intro (fun a ha => (want_none rfl a ha).trans hon.symm) (And.intro (fun _ => ?_) (fun h => by rw [hon] at h; cases h))
            have hF := fr_next (rfl) ((hf 20 96 (by kernel_rfl) rfl).trans hv20)
            refine ls_fr hF ?_
            refine ls_val (v := .bool false) rfl rfl (by kernel_rfl) (fun w => by kernel_rfl) ?_
            exact ls_fin s0 (.bool false) (congrArg (fun z => upd z 97 _) hF.symm) ⟨rfl, rfl⟩ (sub_nil _)
          obtain ⟨s39_27, hs39_27⟩ : ∃ z : Value → Sto → Prop, z = (fun v R => v = .bool false ∧ R = s0) := ⟨_, rfl⟩
          refine have_op (l := [_, _, _, _, _, _, _, _, _, _, _, _, _, _, _, _, _, _, _, _, _, _, _, _, _, _, _, _, _, _, _, _, _, _, _, _, _, _, _, _, _, _, _, _, _, _]) shadowboxlaw06_PointerBack.tab37 5 27 (fun sp => sp 27 = s39_27 ∧ sp 21 = s39_21 ∧ sp 26 = spu) (fun sp on hA hon => ?_) (fun ops39_27 => ?_)
          · refine ⟨fun o ho vs Rs f' S' w hp hf hx hS hR hs => ?_⟩
            obtain rfl := Option.some.inj ho
            obtain ⟨hv21, hR21⟩ := (spe hA.2.1 hs39_21 (hp 21 (by kernel_rfl)))
            obtain ⟨hv26, hR26⟩ := (spe hA.2.2 rfl (hp 26 (by kernel_rfl)) : spu _ _)
            rw [hA.1, hs39_27]
            refine And.intro (fun a ha => (want_none rfl a ha).trans hon.symm) (And.intro (fun _ => ?_) (fun h => by rw [hon] at h; cases h))
            have hF := fr_next (fr_next (rfl) ((hf 21 97 (by kernel_rfl) rfl).trans hv21)) ((hf 26 102 (by kernel_rfl) rfl).trans hv26)
            refine ls_fr hF ?_
            refine ls_val (v := .bool false) rfl rfl (by kernel_rfl) (fun w => by kernel_rfl) ?_
            exact ls_fin s0 (.bool false) (congrArg (fun z => upd z 103 _) hF.symm) ⟨rfl, rfl⟩ (sub_nil _)
          obtain ⟨s39_28, hs39_28⟩ : ∃ z : Value → Sto → Prop, z = (fun v R => v = .bool false ∧ R = s0) := ⟨_, rfl⟩
          refine have_op (l := [_, _, _, _, _, _, _, _, _, _, _, _, _, _, _, _, _, _, _, _, _, _, _, _, _, _, _, _, _, _, _, _, _, _, _, _, _, _, _, _, _, _, _, _, _, _]) shadowboxlaw06_PointerBack.tab37 5 28 (fun sp => sp 28 = s39_28 ∧ sp 27 = s39_27) (fun sp on hA hon => ?_) (fun ops39_28 => ?_)
          · refine ⟨fun o ho vs Rs f' S' w hp hf hx hS hR hs => ?_⟩
            obtain rfl := Option.some.inj ho
            obtain ⟨hv27, hR27⟩ := (spe hA.2 hs39_27 (hp 27 (by kernel_rfl)))
            rw [hA.1, hs39_28]
            refine And.intro (fun a ha => (want_none rfl a ha).trans hon.symm) (And.intro (fun _ => ?_) (fun h => by rw [hon] at h; cases h))
            have hF := fr_next (rfl) ((hf 27 103 (by kernel_rfl) rfl).trans hv27)
            refine ls_fr hF ?_
            refine ls_val (v := .bool false) rfl rfl (by kernel_rfl) (fun w => by kernel_rfl) ?_
            exact ls_fin s0 (.bool false) (congrArg (fun z => upd z 104 _) hF.symm) ⟨rfl, rfl⟩ (sub_nil _)
          obtain ⟨s39_35, hs39_35⟩ : ∃ z : Value → Sto → Prop, z = (fun v R => v = .bool false ∧ R = s0) := ⟨_, rfl⟩
          refine have_op (l := [_, _, _, _, _, _, _, _, _, _, _, _, _, _, _, _, _, _, _, _, _, _, _, _, _, _, _, _, _, _, _, _, _, _, _, _, _, _, _, _, _, _, _, _, _, _]) shadowboxlaw06_PointerBack.tab37 5 35 (fun sp => sp 35 = s39_35 ∧ sp 28 = s39_28 ∧ sp 34 = spu) (fun sp on hA hon => ?_) (fun ops39_35 => ?_)
          · refine ⟨fun o ho vs Rs f' S' w hp hf hx hS hR hs => ?_⟩
            obtain rfl := Option.some.inj ho
            obtain ⟨hv28, hR28⟩ := (spe hA.2.1 hs39_28 (hp 28 (by kernel_rfl)))
            obtain ⟨hv34, hR34⟩ := (spe hA.2.2 rfl (hp 34 (by kernel_rfl)) : spu _ _)
            rw [hA.1, hs39_35]
            refine And.intro (fun a ha => (want_none rfl a ha).trans hon.symm) (And.intro (fun _ => ?_) (fun h => by rw [hon] at h; cases h))
            have hF := fr_next (fr_next (rfl) ((hf 28 104 (by kernel_rfl) rfl).trans hv28)) ((hf 34 110 (by kernel_rfl) rfl).trans hv34)
            refine ls_fr hF ?_
            refine ls_val (v := .bool false) rfl rfl (by kernel_rfl) (fun w => by kernel_rfl) ?_
            exact ls_fin s0 (.bool false) (congrArg (fun z => upd z 111 _) hF.symm) ⟨rfl, rfl⟩ (sub_nil _)
          obtain ⟨s39_36, hs39_36⟩ : ∃ z : Value → Sto → Prop, z = (fun v R => v = .bool false ∧ R = s0) := ⟨_, rfl⟩
          refine have_op (l := [_, _, _, _, _, _, _, _, _, _, _, _, _, _, _, _, _, _, _, _, _, _, _, _, _, _, _, _, _, _, _, _, _, _, _, _, _, _, _, _, _, _, _, _, _, _]) shadowboxlaw06_PointerBack.tab37 5 36 (fun sp => sp 36 = s39_36 ∧ sp 35 = s39_35) (fun sp on hA hon => ?_) (fun ops39_36 => ?_)
          · refine ⟨fun o ho vs Rs f' S' w hp hf hx hS hR hs => ?_⟩
            obtain rfl := Option.some.inj ho
            obtain ⟨hv35, hR35⟩ := (spe hA.2 hs39_35 (hp 35 (by kernel_rfl)))
            rw [hA.1, hs39_36]
            refine And.intro (fun a ha => (want_none rfl a ha).trans hon.symm) (And.intro (fun _ => ?_) (fun h => by rw [hon] at h; cases h))
            have hF := fr_next (rfl) ((hf 35 111 (by kernel_rfl) rfl).trans hv35)
            refine ls_fr hF ?_
            refine ls_val (v := .bool false) rfl rfl (by kernel_rfl) (fun w => by kernel_rfl) ?_
            exact ls_fin s0 (.bool false) (congrArg (fun z => upd z 112 _) hF.symm) ⟨rfl, rfl⟩ (sub_nil _)
          refine cs_draw shadowboxlaw06_PointerBack.tab37 43 5 (spl [s39_0, s39_1, s39_2, spu, spu, s39_5, s39_6, spu, spu, spu, s39_10, s39_11, spu, spu, s39_14, s39_15, spu, spu, spu, spu, s39_20, s39_21, spu, spu, spu, spu, spu, s39_27, s39_28, spu, spu, spu, spu, spu, spu, s39_35, s39_36, spu, spu, spu, spu, spu, spu]) (onl [true, true, true, false, false, true, true, false, false, false, true, true, false, false, true, true, false, false, false, false, true, true, false, false, false, false, false, true, true, false, false, false, false, false, false, true, true, false, false, false, false, false, false]) (by kernel_rfl) (by kernel_rfl) (by kernel_rfl) (by kernel_rfl) (rs := [_, _, _]) rfl (by kernel_rfl) (by kernel_rfl) (all_snoc (all_snoc (all_snoc (all_snoc (all_snoc (all_snoc (all_snoc (all_snoc (all_snoc (all_snoc (all_snoc (all_snoc (all_snoc (all_snoc (all_snoc (all_snoc (all_snoc (all_snoc (all_snoc (all_snoc (all_snoc (all_snoc (all_snoc (all_snoc (all_snoc (all_snoc (all_snoc (all_snoc (all_snoc (all_snoc (all_snoc (all_snoc (all_snoc (all_snoc (all_snoc (all_snoc (all_snoc (all_snoc (all_snoc (all_snoc (all_snoc (all_snoc (all_snoc (all_nil) (ops39_0 _ _ rfl rfl)) (ops39_1 _ _ ⟨rfl, rfl⟩ rfl)) (ops39_2 _ _ ⟨rfl, rfl⟩ rfl)) (op_offi 3 2 78 true rfl rfl (by kernel_rfl) (by kernel_rfl) rfl (fun v R h => by rw [hs39_2] at h; obtain ⟨h, _⟩ := h; exact h.trans (congrArg Value.bool (show t40 = false from Bool.eq_false_iff.mpr q43))) rfl rfl)) (op_offi 4 2 78 true rfl rfl (by kernel_rfl) (by kernel_rfl) rfl (fun v R h => by rw [hs39_2] at h; obtain ⟨h, _⟩ := h; exact h.trans (congrArg Value.bool (show t40 = false from Bool.eq_false_iff.mpr q43))) rfl rfl)) (ops39_5 _ _ ⟨rfl, rfl, rfl⟩ rfl)) (ops39_6 _ _ ⟨rfl, rfl⟩ rfl)) (op_offi 7 6 82 true rfl rfl (by kernel_rfl) (by kernel_rfl) rfl (fun v R h => by rw [hs39_6] at h; obtain ⟨h, _⟩ := h; exact h) rfl rfl)) (op_offi 8 6 82 true rfl rfl (by kernel_rfl) (by kernel_rfl) rfl (fun v R h => by rw [hs39_6] at h; obtain ⟨h, _⟩ := h; exact h) rfl rfl)) (op_offi 9 6 82 true rfl rfl (by kernel_rfl) (by kernel_rfl) rfl (fun v R h => by rw [hs39_6] at h; obtain ⟨h, _⟩ := h; exact h) rfl rfl)) (ops39_10 _ _ ⟨rfl, rfl, rfl⟩ rfl)) (ops39_11 _ _ ⟨rfl, rfl⟩ rfl)) (op_offi 12 11 87 true rfl rfl (by kernel_rfl) (by kernel_rfl) rfl (fun v R h => by rw [hs39_11] at h; obtain ⟨h, _⟩ := h; exact h) rfl rfl)) (op_offi 13 11 87 true rfl rfl (by kernel_rfl) (by kernel_rfl) rfl (fun v R h => by rw [hs39_11] at h; obtain ⟨h, _⟩ := h; exact h) rfl rfl)) (ops39_14 _ _ ⟨rfl, rfl, rfl⟩ rfl)) (ops39_15 _ _ ⟨rfl, rfl⟩ rfl)) (op_offi 16 15 91 true rfl rfl (by kernel_rfl) (by kernel_rfl) rfl (fun v R h => by rw [hs39_15] at h; obtain ⟨h, _⟩ := h; exact h) rfl rfl)) (op_offi 17 15 91 true rfl rfl (by kernel_rfl) (by kernel_rfl) rfl (fun v R h => by rw [hs39_15] at h; obtain ⟨h, _⟩ := h; exact h) rfl rfl)) (op_offi 18 15 91 true rfl rfl (by kernel_rfl) (by kernel_rfl) rfl (fun v R h => by rw [hs39_15] at h; obtain ⟨h, _⟩ := h; exact h) rfl rfl)) (op_offi 19 15 91 true rfl rfl (by kernel_rfl) (by kernel_rfl) rfl (fun v R h => by rw [hs39_15] at h; obtain ⟨h, _⟩ := h; exact h) rfl rfl)) (ops39_20 _ _ ⟨rfl, rfl, rfl⟩ rfl)) (ops39_21 _ _ ⟨rfl, rfl⟩ rfl)) (op_offi 22 21 97 true rfl rfl (by kernel_rfl) (by kernel_rfl) rfl (fun v R h => by rw [hs39_21] at h; obtain ⟨h, _⟩ := h; exact h) rfl rfl)) (op_offi 23 21 97 true rfl rfl (by kernel_rfl) (by kernel_rfl) rfl (fun v R h => by rw [hs39_21] at h; obtain ⟨h, _⟩ := h; exact h) rfl rfl)) (op_offi 24 21 97 true rfl rfl (by kernel_rfl) (by kernel_rfl) rfl (fun v R h => by rw [hs39_21] at h; obtain ⟨h, _⟩ := h; exact h) rfl rfl)) (op_offi 25 21 97 true rfl rfl (by kernel_rfl) (by kernel_rfl) rfl (fun v R h => by rw [hs39_21] at h; obtain ⟨h, _⟩ := h; exact h) rfl rfl)) (op_offi 26 21 97 true rfl rfl (by kernel_rfl) (by kernel_rfl) rfl (fun v R h => by rw [hs39_21] at h; obtain ⟨h, _⟩ := h; exact h) rfl rfl)) (ops39_27 _ _ ⟨rfl, rfl, rfl⟩ rfl)) (ops39_28 _ _ ⟨rfl, rfl⟩ rfl)) (op_offi 29 28 104 true rfl rfl (by kernel_rfl) (by kernel_rfl) rfl (fun v R h => by rw [hs39_28] at h; obtain ⟨h, _⟩ := h; exact h) rfl rfl)) (op_offi 30 28 104 true rfl rfl (by kernel_rfl) (by kernel_rfl) rfl (fun v R h => by rw [hs39_28] at h; obtain ⟨h, _⟩ := h; exact h) rfl rfl)) (op_offi 31 28 104 true rfl rfl (by kernel_rfl) (by kernel_rfl) rfl (fun v R h => by rw [hs39_28] at h; obtain ⟨h, _⟩ := h; exact h) rfl rfl)) (op_offi 32 28 104 true rfl rfl (by kernel_rfl) (by kernel_rfl) rfl (fun v R h => by rw [hs39_28] at h; obtain ⟨h, _⟩ := h; exact h) rfl rfl)) (op_offi 33 28 104 true rfl rfl (by kernel_rfl) (by kernel_rfl) rfl (fun v R h => by rw [hs39_28] at h; obtain ⟨h, _⟩ := h; exact h) rfl rfl)) (op_offi 34 28 104 true rfl rfl (by kernel_rfl) (by kernel_rfl) rfl (fun v R h => by rw [hs39_28] at h; obtain ⟨h, _⟩ := h; exact h) rfl rfl)) (ops39_35 _ _ ⟨rfl, rfl, rfl⟩ rfl)) (ops39_36 _ _ ⟨rfl, rfl⟩ rfl)) (op_offi 37 36 112 true rfl rfl (by kernel_rfl) (by kernel_rfl) rfl (fun v R h => by rw [hs39_36] at h; obtain ⟨h, _⟩ := h; exact h) rfl rfl)) (op_offi 38 36 112 true rfl rfl (by kernel_rfl) (by kernel_rfl) rfl (fun v R h => by rw [hs39_36] at h; obtain ⟨h, _⟩ := h; exact h) rfl rfl)) (op_offi 39 36 112 true rfl rfl (by kernel_rfl) (by kernel_rfl) rfl (fun v R h => by rw [hs39_36] at h; obtain ⟨h, _⟩ := h; exact h) rfl rfl)) (op_offi 40 36 112 true rfl rfl (by kernel_rfl) (by kernel_rfl) rfl (fun v R h => by rw [hs39_36] at h; obtain ⟨h, _⟩ := h; exact h) rfl rfl)) (op_offi 41 36 112 true rfl rfl (by kernel_rfl) (by kernel_rfl) rfl (fun v R h => by rw [hs39_36] at h; obtain ⟨h, _⟩ := h; exact h) rfl rfl)) (op_offi 42 36 112 true rfl rfl (by kernel_rfl) (by kernel_rfl) rfl (fun v R h => by rw [hs39_36] at h; obtain ⟨h, _⟩ := h; exact h) rfl rfl)) ?_
          intro vs Rs f' S' hp hf hx hS hR
          obtain ⟨x42, hv1, hR1⟩ := (spe rfl hs39_1 (hp 1 (by kernel_rfl)))
          obtain ⟨hv36, hR36⟩ := (spe rfl hs39_36 (hp 36 (by kernel_rfl)))
          obtain ⟨hv39, hR39⟩ := (spe rfl rfl (hp 39 (by kernel_rfl)) : spu _ _)
          obtain ⟨hv42, hR42⟩ := (spe rfl rfl (hp 42 (by kernel_rfl)) : spu _ _)
          refine ls_fr (F := upd f' 112 (.bool false)) (fr_next (rfl) ((hf 36 112 (by kernel_rfl) rfl).trans hv36)) ?_
          refine ls_sub (s0) (sub_nil _) ?_
          refine ls_off (j := 36) (t := 112) (b := true) (c := false) rfl rfl (by kernel_rfl) (by kernel_rfl) rfl rfl (by kernel_rfl) ?_
          refine ls_val (v := .bool false) rfl rfl (by kernel_rfl) (fun w => by kernel_rfl) ?_
          refine ls_val (v := .bool false) rfl rfl (by kernel_rfl) (fun w => by kernel_rfl) ?_
          refine ls_end ?_
          refine qn_then ?_
          refine cs_ret' ?_
          obtain rfl := Option.some.inj H
          refine qr_res (rs := [_]) rfl (fun w' hs => ⟨[.bool false], (res_tmp (by kernel_rfl) (.nil)), (), rfl, hs.pick (ts := []) (cs := []) trivial (by decide)⟩)

end Go.Proofs.Ytnjijflgafghmaa.G
