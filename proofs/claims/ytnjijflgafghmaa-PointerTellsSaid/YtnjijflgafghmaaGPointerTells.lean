/- Printed by a program of this session (sz.py): plain functions, and walks that show that the code comes to them; no condition. -/
import Derived.Test.YtnjijflgafghmaaProg
import Derived.Test.YtnjijflgafghmaaTy
import Derived.Test.YtnjijflgafghmaaG0
import Derived.Test.YtnjijflgafghmaaG1
set_option linter.unusedVariables false
set_option linter.unusedSimpArgs false
namespace Go.Proofs.Ytnjijflgafghmaa.G
open Go Go.RowKit Go.Proofs.Ytnjijflgafghmaa.Sx

/-! ### shadowbox/shadowboxlaw06.PointerTells: function 3 -/
def shadowboxlaw06_PointerTells.tab9 : List (List Nat) := [[], [0], [], [0, 1, 2], [0, 1, 2, 3], [0, 1, 2, 3, 4], [0, 1, 2, 3, 4, 5], [0, 1, 2, 3, 4, 5, 6], [0, 1, 2, 3, 4, 5], [0, 1, 2, 3, 4, 5, 6, 7, 8], [0, 1, 2, 3, 4, 5, 6, 7, 8, 9], [0, 1, 2, 3, 4, 5, 6, 7, 8, 9, 10], [0, 1, 2, 3, 4, 5, 6, 7, 8, 9, 10, 11], [0, 1, 2, 3, 4, 5, 6, 7, 8, 9, 10, 11, 12], [0, 1, 2, 3, 4, 5, 6, 7, 8, 9, 10, 11, 12, 13], [0, 1, 2, 3, 4, 5, 6, 7, 8, 9, 10, 11, 12], [0, 1, 2, 3, 4, 5, 6, 7, 8, 9, 10, 11, 12, 13, 14, 15], [0, 1, 2, 3, 4, 5, 6, 7, 8, 9, 10, 11, 12, 13, 14, 15, 16], [0, 1, 2, 3, 4, 5, 6, 7, 8, 9, 10, 11, 12, 13, 14, 15, 16, 17], [0, 1, 2, 3, 4, 5, 6, 7, 8, 9, 10, 11, 12, 13, 14, 15, 16, 17, 18], [0, 1, 2, 3, 4, 5, 6, 7, 8, 9, 10, 11, 12, 13, 14, 15, 16, 17, 18, 19], [0, 1, 2, 3, 4, 5, 6, 7, 8, 9, 10, 11, 12, 13, 14, 15, 16, 17, 18, 19], [0, 1, 2, 3, 4, 5, 6, 7, 8, 9, 10, 11, 12, 13, 14, 15, 16, 17, 18, 19, 20, 21], [0, 1, 2, 3, 4, 5, 6, 7, 8, 9, 10, 11, 12, 13, 14, 15, 16, 17, 18, 19, 20, 21, 22], [0, 1, 2, 3, 4, 5, 6, 7, 8, 9, 10, 11, 12, 13, 14, 15, 16, 17, 18, 19], [0, 1, 2, 3, 4, 5, 6, 7, 8, 9, 10, 11, 12, 13, 14, 15, 16, 17, 18, 19], [0, 1, 2, 3, 4, 5, 6, 7, 8, 9, 10, 11, 12, 13, 14, 15, 16, 17, 18, 19, 20, 21, 22, 24, 25], [0, 1, 2, 3, 4, 5, 6, 7, 8, 9, 10, 11, 12, 13, 14, 15, 16, 17, 18, 19, 20, 21, 22, 24, 25, 26], [0, 1, 2, 3, 4, 5, 6, 7, 8, 9, 10, 11, 12, 13, 14, 15, 16, 17, 18, 19, 20, 21, 22, 23, 24, 25, 26, 27], [0, 1, 2, 3, 4, 5, 6, 7, 8, 9, 10, 11, 12, 13, 14, 15, 16, 17, 18, 19, 20, 21, 22, 23, 24, 25, 26, 27, 28], [0, 1, 2, 3, 4, 5, 6, 7, 8, 9, 10, 11, 12, 13, 14, 15, 16, 17, 18, 19, 20, 21, 22, 23, 24, 25, 26, 27, 28, 29], [0, 1, 2, 3, 4, 5, 6, 7, 8, 9, 10, 11, 12, 13, 14, 15, 16, 17, 18, 19, 20, 21, 22, 23, 24, 25, 26, 27, 28, 29, 30], [0, 1, 2, 3, 4, 5, 6, 7, 8, 9, 10, 11, 12, 13, 14, 15, 16, 17, 18, 19, 20, 21, 22, 23, 24, 25, 26, 27, 28, 29, 30], [0, 1, 2, 3, 4, 5, 6, 7, 8, 9, 10, 11, 12, 13, 14, 15, 16, 17, 18, 19, 20, 21, 22, 23, 24, 25, 26, 27, 28, 29, 30, 31, 32], [0, 1, 2, 3, 4, 5, 6, 7, 8, 9, 10, 11, 12, 13, 14, 15, 16, 17, 18, 19, 20, 21, 22, 23, 24, 25, 26, 27, 28, 29, 30, 31, 32, 33], [0, 1, 2, 3, 4, 5, 6, 7, 8, 9, 10, 11, 12, 13, 14, 15, 16, 17, 18, 19, 20, 21, 22, 23, 24, 25, 26, 27, 28, 29, 30, 31, 32, 33, 34], [0, 1, 2, 3, 4, 5, 6, 7, 8, 9, 10, 11, 12, 13, 14, 15, 16, 17, 18, 19, 20, 21, 22, 23, 24, 25, 26, 27, 28, 29, 30, 31, 32, 33, 34, 35], [0, 1, 2, 3, 4, 5, 6, 7, 8, 9, 10, 11, 12, 13, 14, 15, 16, 17, 18, 19, 20, 21, 22, 23, 24, 25, 26, 27, 28, 29, 30, 31, 32, 33, 34, 35], [0, 1, 2, 3, 4, 5, 6, 7, 8, 9, 10, 11, 12, 13, 14, 15, 16, 17, 18, 19, 20, 21, 22, 23, 24, 25, 26, 27, 28, 29, 30, 31, 32, 33, 34, 35, 36, 37], [0, 1, 2, 3, 4, 5, 6, 7, 8, 9, 10, 11, 12, 13, 14, 15, 16, 17, 18, 19, 20, 21, 22, 23, 24, 25, 26, 27, 28, 29, 30, 31, 32, 33, 34, 35, 36, 37, 38], [0, 1, 2, 3, 4, 5, 6, 7, 8, 9, 10, 11, 12, 13, 14, 15, 16, 17, 18, 19, 20, 21, 22, 23, 24, 25, 26, 27, 28, 29, 30, 31, 32, 33, 34, 35, 36, 37, 38, 39], [0, 1, 2, 3, 4, 5, 6, 7, 8, 9, 10, 11, 12, 13, 14, 15, 16, 17, 18, 19, 20, 21, 22, 23, 24, 25, 26, 27, 28, 29, 30, 31, 32, 33, 34, 35, 36, 37, 38, 39, 40], [0, 1, 2, 3, 4, 5, 6, 7, 8, 9, 10, 11, 12, 13, 14, 15, 16, 17, 18, 19, 20, 21, 22, 23, 24, 25, 26, 27, 28, 29, 30, 31, 32, 33, 34, 35, 36, 37, 38, 39, 40, 41], [0, 1, 2, 3, 4, 5, 6, 7, 8, 9, 10, 11, 12, 13, 14, 15, 16, 17, 18, 19, 20, 21, 22, 23, 24, 25, 26, 27, 28, 29, 30, 31, 32, 33, 34, 35, 36, 37, 38, 39, 40, 41, 42], [0, 1, 2, 3, 4, 5, 6, 7, 8, 9, 10, 11, 12, 13, 14, 15, 16, 17, 18, 19, 20, 21, 22, 23, 24, 25, 26, 27, 28, 29, 30, 31, 32, 33, 34, 35, 36, 37, 38, 39, 40, 41, 42, 43], [0, 1, 2, 3, 4, 5, 6, 7, 8, 9, 10, 11, 12, 13, 14, 15, 16, 17, 18, 19, 20, 21, 22, 23, 24, 25, 26, 27, 28, 29, 30, 31, 32, 33, 34, 35, 36, 37, 38, 39, 40, 41, 42, 43, 44]]
def shadowboxlaw06_PointerTells.jo1 (k : Nat) (a0 : (Int × Int × Int × Int × (Vc Int 32))) (l1_1 : List Int) : Option (Bool) := (pointer_Read.f k l1_1).bind fun t2 => (shadowboxref06_Read.f k l1_1).bind fun t6 => (pointer_None.f k a0).bind fun t12 => (shadowboxref06_None.f k a0).bind fun t15 => (if (t12 == t15) = true then (pointer_Right.f k a0).bind fun t19 => (shadowboxref06_Right.f k a0).bind fun t22 => (if (t19 == t22) = true then (pointer_Sectors.f k a0).bind fun t26 => (shadowboxref06_Sectors.f k a0).bind fun t29 => (if t26 = t29 then (pointer_Put.f k l1_1 a0).bind fun t33 => (shadowboxref06_Put.f k l1_1 a0).bind fun t36 => (if ((strOfNums t33).toList == (strOfNums t36).toList) = true then (if ((t2.1.1 == t6.1.1) && ((t2.1.2.1 == t6.1.2.1) && ((t2.1.2.2.1 == t6.1.2.2.1) && ((t2.1.2.2.2.1 == t6.1.2.2.2.1) && (t2.1.2.2.2.2.1 == t6.1.2.2.2.2.1))))) = true then (if t2.2 = t6.2 then (pointer_Sectors.f k ((0 : Int), (0 : Int), (513 : Int), (0 : Int), (vrep 32 (0 : Int)))).bind fun t42 => some (decide (t42 = (2 : Int))) else some false) else some false) else some false) else some false) else some false) else some false)
def shadowboxlaw06_PointerTells.f (k : Nat) (a0 : (Int × Int × Int × Int × (Vc Int 32))) (l1 : List Int) : Option (Bool) :=
  (if (l1.length : Int) > (300 : Int) then (if (300 : Int) ≤ (l1.length : Int) then lt (l1.take ((300 : Int)).toNat) fun xl51 => (shadowboxlaw06_PointerTells.jo1 k a0) xl51 else none) else (shadowboxlaw06_PointerTells.jo1 k a0) l1)
set_option maxRecDepth 100000 in
set_option maxHeartbeats 4000000 in
theorem shadowboxlaw06_PointerTells.calls (k : Nat) (a0 : (Int × Int × Int × Int × (Vc Int 32))) (A1 : Option Addr) (c1 : Nat) (l1 : List Int) (r : Bool) (b : Bs) (hs0 : St b (stl []) b.w) (R1 : Ro b A1 (em (Ec.int 5 .u8) l1)) (C1 : l1.length ≤ c1) (H : shadowboxlaw06_PointerTells.f k a0 l1 = some r) :
    Calls Try.prog 3 #[.agg ⟨([Value.int .i64 a0.1] ++ ([Value.int .i64 a0.2.1] ++ ([Value.int .i64 a0.2.2.1] ++ ([Value.int .u32 a0.2.2.2.1] ++ en (Value.int .u8) a0.2.2.2.2.1))))⟩, .slice A1 l1.length c1] b.w fun e w' => ∃ x : Unit, e = .returned (.bool r) ∧ St b (stl []) w' := by
  unfold shadowboxlaw06_PointerTells.f at H
  refine enterb (n := 69) Try.func3 rfl (by kernel_rfl) (by kernel_rfl) hs0 ?_
  refine cs_sub (s0) (sub_nil _) ?_
  refine cs_seq ?_
  refine cs_region (l := [_, _]) ?_
  refine ls_new rfl rfl (by kernel_rfl) 0 (fun g => .pointer (some ⟨g, 0, none⟩)) (.cells ⟨([Value.int .i64 a0.1] ++ ([Value.int .i64 a0.2.1] ++ ([Value.int .i64 a0.2.2.1] ++ ([Value.int .u32 a0.2.2.2.1] ++ en (Value.int .u8) a0.2.2.2.2.1))))⟩ 25) (fun w => by kernel_rfl) ?_
  intro g1
  refine ls_val (v := .bool false) rfl rfl (by kernel_rfl) (fun w => by kernel_rfl) ?_
  refine ls_end ?_
  refine qn_then ?_
  refine cs_cut (fun f S => ∃ (fR : Fr) (A1_1 : Option Addr) (c1_1 : Nat) (l1_1 : List Int), f = upd (upd fR 1 (.slice A1_1 l1_1.length c1_1)) 2 (.pointer (some ⟨g1, 0, none⟩)) ∧ S = sput s0 0 (some (Ck.var 25 g1 (([Value.int .i64 a0.1] ++ ([Value.int .i64 a0.2.1] ++ ([Value.int .i64 a0.2.2.1] ++ ([Value.int .u32 a0.2.2.2.1] ++ en (Value.int .u8) a0.2.2.2.2.1))))))) ∧ Ro b A1_1 (em (Ec.int 5 .u8) l1_1) ∧ l1_1.length ≤ c1_1 ∧ shadowboxlaw06_PointerTells.jo1 k a0 l1_1 = some r) ?_ ?_
  · skip
    refine cs_seq ?_
    refine cs_region (l := [_, _, _]) ?_
    refine ls_val (v := .slice A1 l1.length c1) rfl rfl (by kernel_rfl) (fun w => by kernel_rfl) ?_
    refine ls_val (v := .int .i64 (l1.length : Int)) rfl rfl (by kernel_rfl) (fun w => by kernel_rfl) ?_
    refine ls_val (v := .bool (decide ((l1.length : Int) > (300 : Int)))) rfl rfl (by kernel_rfl) (fun w => by kernel_rfl) ?_
    refine ls_end ?_
    refine qn_then ?_
    by_cases q45 : (l1.length : Int) > (300 : Int)
    · replace H := ite_t q45 H
      refine cs_know (c := true) (dec_t q45) 11 (by kernel_rfl) ?_
      refine cs_true (by kernel_rfl) ?_
      refine cs_region (l := [_, _, _]) ?_
      refine ls_val (v := .slice A1 l1.length c1) rfl rfl (by kernel_rfl) (fun w => by kernel_rfl) ?_
      obtain ⟨q46, H⟩ := ite_need H
      obtain ⟨xl51, hy52, H⟩ := lt_some H
      have hz54 : 0 ≤ ((300 : Int)).toNat := by omega
      have hz55 : ((300 : Int)).toNat ≤ l1.length := by omega
      obtain ⟨xA47, xc48, he53, xC50, xR49⟩ := cut_at (A := A1) (c := c1) (l := l1) (Ec.int 5 .u8) 0 (((300 : Int)).toNat) hz54 hz55 C1 R1 (m := xl51) (by rw [← hy52] <;> simp) (z := 1) rfl
      refine ls_cutv (A := A1) (c := c1) (m := l1.length) (z := 1) (e := 5) (a := 0) (b := ((300 : Int)).toNat) rfl rfl (by kernel_rfl) rfl (by kernel_rfl) (by kernel_rfl) (by kernel_rfl) (.inl ⟨rfl, rfl⟩) (.inr ⟨.i64, by rw [Int.toNat_of_nonneg (by first | assumption | omega)]; kernel_rfl⟩) hz54 hz55 C1 he53 ?_
      refine ls_val (v := .slice xA47 xl51.length xc48) rfl rfl (by kernel_rfl) (fun w => by kernel_rfl) ?_
      refine ls_end ?_
      refine qn_meet (sput s0 0 (some (Ck.var 25 g1 (([Value.int .i64 a0.1] ++ ([Value.int .i64 a0.2.1] ++ ([Value.int .i64 a0.2.2.1] ++ ([Value.int .u32 a0.2.2.2.1] ++ en (Value.int .u8) a0.2.2.2.2.1)))))))) ⟨_, xA47, xc48, xl51, fr_next (fr_next (rfl) (by kernel_rfl)) (by kernel_rfl), rfl, xR49, xC50, H⟩ (sub_put (by exact rfl) (sub_nil _))
    · replace H := ite_f q45 H
      refine cs_know (c := false) (dec_f q45) 11 (by kernel_rfl) ?_
      refine cs_false (by kernel_rfl) ?_
      refine cs_skip' ?_
      refine qn_meet (sput s0 0 (some (Ck.var 25 g1 (([Value.int .i64 a0.1] ++ ([Value.int .i64 a0.2.1] ++ ([Value.int .i64 a0.2.2.1] ++ ([Value.int .u32 a0.2.2.2.1] ++ en (Value.int .u8) a0.2.2.2.2.1)))))))) ⟨_, A1, c1, l1, fr_next (fr_next (rfl) (by kernel_rfl)) (by kernel_rfl), rfl, R1, C1, H⟩ (sub_put (by exact rfl) (sub_nil _))
  · rintro f S ⟨fr1, A1_1, c1_1, l1_1, rfl, rfl, R1_1, C1_1, H⟩
    replace H : ((pointer_Read.f k l1_1).bind fun t2 => (shadowboxref06_Read.f k l1_1).bind fun t6 => (pointer_None.f k a0).bind fun t12 => (shadowboxref06_None.f k a0).bind fun t15 => (if (t12 == t15) = true then (pointer_Right.f k a0).bind fun t19 => (shadowboxref06_Right.f k a0).bind fun t22 => (if (t19 == t22) = true then (pointer_Sectors.f k a0).bind fun t26 => (shadowboxref06_Sectors.f k a0).bind fun t29 => (if t26 = t29 then (pointer_Put.f k l1_1 a0).bind fun t33 => (shadowboxref06_Put.f k l1_1 a0).bind fun t36 => (if ((strOfNums t33).toList == (strOfNums t36).toList) = true then (if ((t2.1.1 == t6.1.1) && ((t2.1.2.1 == t6.1.2.1) && ((t2.1.2.2.1 == t6.1.2.2.1) && ((t2.1.2.2.2.1 == t6.1.2.2.2.1) && (t2.1.2.2.2.2.1 == t6.1.2.2.2.2.1))))) = true then (if t2.2 = t6.2 then (pointer_Sectors.f k ((0 : Int), (0 : Int), (513 : Int), (0 : Int), (vrep 32 (0 : Int)))).bind fun t42 => some (decide (t42 = (2 : Int))) else some false) else some false) else some false) else some false) else some false) else some false)) = some r := H
    refine cs_seq ?_
    refine cs_region (l := [_, _, _, _, _, _, _, _]) ?_
    refine ls_val (v := .slice A1_1 l1_1.length c1_1) rfl rfl (by kernel_rfl) (fun w => by kernel_rfl) ?_
    obtain ⟨t2, hc3, H⟩ := bind_some H
    refine ls_callb (fid := 10) (vals := #[.slice A1_1 l1_1.length c1_1]) (X := Unit) (fun x => .tuple #[.agg ⟨([Value.int .i64 t2.1.1] ++ ([Value.int .i64 t2.1.2.1] ++ ([Value.int .i64 t2.1.2.2.1] ++ ([Value.int .u32 t2.1.2.2.2.1] ++ en (Value.int .u8) t2.1.2.2.2.2.1))))⟩, .int .i64 t2.2]) (fun x => stl []) [] [] [] [] 1 rfl rfl (by kernel_rfl) (fun w => by kernel_rfl) trivial trivial (by decide) (fun w hs hb => pointer_Read.calls k A1_1 c1_1 l1_1 t2 (lent b w [] []) hb (hs.ro R1_1 _ _) C1_1 hc3) ?_
    intro x4
    refine ls_val (v := .tuple #[.agg ⟨([Value.int .i64 t2.1.1] ++ ([Value.int .i64 t2.1.2.1] ++ ([Value.int .i64 t2.1.2.2.1] ++ ([Value.int .u32 t2.1.2.2.2.1] ++ en (Value.int .u8) t2.1.2.2.2.2.1))))⟩, .int .i64 t2.2]) rfl rfl (by kernel_rfl) (fun w => by kernel_rfl) ?_
    refine ls_val (v := .agg ⟨([Value.int .i64 t2.1.1] ++ ([Value.int .i64 t2.1.2.1] ++ ([Value.int .i64 t2.1.2.2.1] ++ ([Value.int .u32 t2.1.2.2.2.1] ++ en (Value.int .u8) t2.1.2.2.2.2.1))))⟩) rfl rfl (by kernel_rfl) (fun w => by kernel_rfl) ?_
    refine ls_val (v := .int .i64 t2.2) rfl rfl (by kernel_rfl) (fun w => by kernel_rfl) ?_
    refine ls_new rfl rfl (by kernel_rfl) 1 (fun g => .pointer (some ⟨g, 0, none⟩)) (.cells ⟨([Value.int .i64 (0 : Int)] ++ ([Value.int .i64 (0 : Int)] ++ ([Value.int .i64 (0 : Int)] ++ ([Value.int .u32 (0 : Int)] ++ en (Value.int .u8) (vrep 32 (0 : Int)).1))))⟩ 25) (fun w => by kernel_rfl) ?_
    intro g5
    refine ls_storec (g := g5) (off := 0) (v := .agg ⟨([Value.int .i64 t2.1.1] ++ ([Value.int .i64 t2.1.2.1] ++ ([Value.int .i64 t2.1.2.2.1] ++ ([Value.int .u32 t2.1.2.2.2.1] ++ en (Value.int .u8) t2.1.2.2.2.2.1))))⟩) (vs := ([Value.int .i64 t2.1.1] ++ ([Value.int .i64 t2.1.2.1] ++ ([Value.int .i64 t2.1.2.2.1] ++ ([Value.int .u32 t2.1.2.2.2.1] ++ en (Value.int .u8) t2.1.2.2.2.2.1))))) (cs := ([Value.int .i64 (0 : Int)] ++ ([Value.int .i64 (0 : Int)] ++ ([Value.int .i64 (0 : Int)] ++ ([Value.int .u32 (0 : Int)] ++ en (Value.int .u8) (vrep 32 (0 : Int)).1))))) (ty := 25) 1 rfl rfl rfl (by kernel_rfl) (by kernel_rfl) (by kernel_rfl) (by exact rfl) (by kernel_rfl) (len_app (len1 _) (len_app (len1 _) (len_app (len1 _) (len_app (len1 _) (len_en _ t2.1.2.2.2.2))))) (one_app (one_cons rfl one_nil) (one_app (one_cons rfl one_nil) (one_app (one_cons rfl one_nil) (one_app (one_cons rfl one_nil) (one_en (fun _ => rfl) _))))) (hl_of (Sub4.all _) (len_eq (len_app (len1 _) (len_app (len1 _) (len_app (len1 _) (len_app (len1 _) (len_en _ t2.1.2.2.2.2))))) (len_app (len1 _) (len_app (len1 _) (len_app (len1 _) (len_app (len1 _) (len_en _ (vrep 32 (0 : Int))))))))) (cs' := ([Value.int .i64 t2.1.1] ++ ([Value.int .i64 t2.1.2.1] ++ ([Value.int .i64 t2.1.2.2.1] ++ ([Value.int .u32 t2.1.2.2.2.1] ++ en (Value.int .u8) t2.1.2.2.2.2.1))))) (splc_all (len_eq (len_app (len1 _) (len_app (len1 _) (len_app (len1 _) (len_app (len1 _) (len_en _ t2.1.2.2.2.2))))) (len_app (len1 _) (len_app (len1 _) (len_app (len1 _) (len_app (len1 _) (len_en _ (vrep 32 (0 : Int))))))))) ?_
    refine ls_val (v := .int .i64 t2.2) rfl rfl (by kernel_rfl) (fun w => by kernel_rfl) ?_
    refine ls_end ?_
    refine qn_then ?_
    refine cs_seq ?_
    refine cs_region (l := [_, _, _, _, _, _, _, _]) ?_
    refine ls_val (v := .slice A1_1 l1_1.length c1_1) rfl rfl (by kernel_rfl) (fun w => by kernel_rfl) ?_
    obtain ⟨t6, hc7, H⟩ := bind_some H
    refine ls_callb (fid := 11) (vals := #[.slice A1_1 l1_1.length c1_1]) (X := Unit) (fun x => .tuple #[.agg ⟨([Value.int .i64 t6.1.1] ++ ([Value.int .i64 t6.1.2.1] ++ ([Value.int .i64 t6.1.2.2.1] ++ ([Value.int .u32 t6.1.2.2.2.1] ++ en (Value.int .u8) t6.1.2.2.2.2.1))))⟩, .int .i64 t6.2]) (fun x => stl []) [] [] [] [] 2 rfl rfl (by kernel_rfl) (fun w => by kernel_rfl) trivial trivial (by decide) (fun w hs hb => shadowboxref06_Read.calls k A1_1 c1_1 l1_1 t6 (lent b w [] []) hb (hs.ro R1_1 _ _) C1_1 hc7) ?_
    intro x8
    refine ls_val (v := .tuple #[.agg ⟨([Value.int .i64 t6.1.1] ++ ([Value.int .i64 t6.1.2.1] ++ ([Value.int .i64 t6.1.2.2.1] ++ ([Value.int .u32 t6.1.2.2.2.1] ++ en (Value.int .u8) t6.1.2.2.2.2.1))))⟩, .int .i64 t6.2]) rfl rfl (by kernel_rfl) (fun w => by kernel_rfl) ?_
    refine ls_val (v := .agg ⟨([Value.int .i64 t6.1.1] ++ ([Value.int .i64 t6.1.2.1] ++ ([Value.int .i64 t6.1.2.2.1] ++ ([Value.int .u32 t6.1.2.2.2.1] ++ en (Value.int .u8) t6.1.2.2.2.2.1))))⟩) rfl rfl (by kernel_rfl) (fun w => by kernel_rfl) ?_
    refine ls_val (v := .int .i64 t6.2) rfl rfl (by kernel_rfl) (fun w => by kernel_rfl) ?_
    refine ls_new rfl rfl (by kernel_rfl) 2 (fun g => .pointer (some ⟨g, 0, none⟩)) (.cells ⟨([Value.int .i64 (0 : Int)] ++ ([Value.int .i64 (0 : Int)] ++ ([Value.int .i64 (0 : Int)] ++ ([Value.int .u32 (0 : Int)] ++ en (Value.int .u8) (vrep 32 (0 : Int)).1))))⟩ 25) (fun w => by kernel_rfl) ?_
    intro g9
    refine ls_storec (g := g9) (off := 0) (v := .agg ⟨([Value.int .i64 t6.1.1] ++ ([Value.int .i64 t6.1.2.1] ++ ([Value.int .i64 t6.1.2.2.1] ++ ([Value.int .u32 t6.1.2.2.2.1] ++ en (Value.int .u8) t6.1.2.2.2.2.1))))⟩) (vs := ([Value.int .i64 t6.1.1] ++ ([Value.int .i64 t6.1.2.1] ++ ([Value.int .i64 t6.1.2.2.1] ++ ([Value.int .u32 t6.1.2.2.2.1] ++ en (Value.int .u8) t6.1.2.2.2.2.1))))) (cs := ([Value.int .i64 (0 : Int)] ++ ([Value.int .i64 (0 : Int)] ++ ([Value.int .i64 (0 : Int)] ++ ([Value.int .u32 (0 : Int)] ++ en (Value.int .u8) (vrep 32 (0 : Int)).1))))) (ty := 25) 2 rfl rfl rfl (by kernel_rfl) (by kernel_rfl) (by kernel_rfl) (by exact rfl) (by kernel_rfl) (len_app (len1 _) (len_app (len1 _) (len_app (len1 _) (len_app (len1 _) (len_en _ t6.1.2.2.2.2))))) (one_app (one_cons rfl one_nil) (one_app (one_cons rfl one_nil) (one_app (one_cons rfl one_nil) (one_app (one_cons rfl one_nil) (one_en (fun _ => rfl) _))))) (hl_of (Sub4.all _) (len_eq (len_app (len1 _) (len_app (len1 _) (len_app (len1 _) (len_app (len1 _) (len_en _ t6.1.2.2.2.2))))) (len_app (len1 _) (len_app (len1 _) (len_app (len1 _) (len_app (len1 _) (len_en _ (vrep 32 (0 : Int))))))))) (cs' := ([Value.int .i64 t6.1.1] ++ ([Value.int .i64 t6.1.2.1] ++ ([Value.int .i64 t6.1.2.2.1] ++ ([Value.int .u32 t6.1.2.2.2.1] ++ en (Value.int .u8) t6.1.2.2.2.2.1))))) (splc_all (len_eq (len_app (len1 _) (len_app (len1 _) (len_app (len1 _) (len_app (len1 _) (len_en _ t6.1.2.2.2.2))))) (len_app (len1 _) (len_app (len1 _) (len_app (len1 _) (len_app (len1 _) (len_en _ (vrep 32 (0 : Int))))))))) ?_
    refine ls_val (v := .int .i64 t6.2) rfl rfl (by kernel_rfl) (fun w => by kernel_rfl) ?_
    refine ls_end ?_
    refine qn_then ?_
    refine cs_seq ?_
    obtain ⟨s11_0, hs11_0⟩ : ∃ z : Value → Sto → Prop, z = (fun v R => v = .agg ⟨([Value.int .i64 a0.1] ++ ([Value.int .i64 a0.2.1] ++ ([Value.int .i64 a0.2.2.1] ++ ([Value.int .u32 a0.2.2.2.1] ++ en (Value.int .u8) a0.2.2.2.2.1))))⟩ ∧ R = s0) := ⟨_, rfl⟩
    refine have_op (l := [_, _, _, _, _, _, _, _, _, _, _, _, _, _, _, _, _, _, _, _, _, _, _, _, _, _, _, _, _, _, _, _, _, _, _, _, _, _, _, _, _, _, _, _, _, _]) shadowboxlaw06_PointerTells.tab9 3 0 (fun sp => sp 0 = s11_0) (fun sp on hA hon => ?_) (fun ops11_0 => ?_)
    · refine ⟨fun o ho vs Rs f' S' w hp hf hx hS hR hs => ?_⟩
      obtain rfl := Option.some.inj ho
      rw [hA, hs11_0]
      refine And.intro (fun a ha => (want_none rfl a ha).trans hon.symm) (And.intro (fun _ => ?_) (fun h => by rw [hon] at h; cases h))
      have hF := fr_next (rfl) ((hx 2 (by kernel_rfl)).trans (by kernel_rfl : (_ : Value) = .pointer (some ⟨g1, 0, none⟩)))
      refine ls_fr hF ?_
      refine ls_loadagg (a := ⟨g1, 0, none⟩) (sub := ([Value.int .i64 a0.1] ++ ([Value.int .i64 a0.2.1] ++ ([Value.int .i64 a0.2.2.1] ++ ([Value.int .u32 a0.2.2.2.1] ++ en (Value.int .u8) a0.2.2.2.2.1))))) rfl rfl (by kernel_rfl) rfl (by kernel_rfl) (by kernel_rfl) (by kernel_rfl) (len_app (len1 _) (len_app (len1 _) (len_app (len1 _) (len_app (len1 _) (len_en _ a0.2.2.2.2))))) (fun w1 hs1 => Rd.step (hs.vars (k := 0) ((hS 0 (by kernel_rfl)).trans (by exact rfl)) (Sub4.all _)) hs1.below.bw) ?_
      exact ls_fin s0 (.agg ⟨([Value.int .i64 a0.1] ++ ([Value.int .i64 a0.2.1] ++ ([Value.int .i64 a0.2.2.1] ++ ([Value.int .u32 a0.2.2.2.1] ++ en (Value.int .u8) a0.2.2.2.2.1))))⟩) (congrArg (fun z => upd z 24 _) hF.symm) ⟨rfl, rfl⟩ (sub_nil _)
    obtain ⟨t12, hc13, H⟩ := bind_some H
    obtain ⟨s11_1, hs11_1⟩ : ∃ z : Value → Sto → Prop, z = (fun v R => ∃ x14 : Unit, v = .bool t12 ∧ R = stl []) := ⟨_, rfl⟩
    refine have_op (l := [_, _, _, _, _, _, _, _, _, _, _, _, _, _, _, _, _, _, _, _, _, _, _, _, _, _, _, _, _, _, _, _, _, _, _, _, _, _, _, _, _, _, _, _, _, _]) shadowboxlaw06_PointerTells.tab9 3 1 (fun sp => sp 1 = s11_1 ∧ sp 0 = s11_0) (fun sp on hA hon => ?_) (fun ops11_1 => ?_)
    · refine ⟨fun o ho vs Rs f' S' w hp hf hx hS hR hs => ?_⟩
      obtain rfl := Option.some.inj ho
      obtain ⟨hv0, hR0⟩ := (spe hA.2 hs11_0 (hp 0 (by kernel_rfl)))
      rw [hA.1, hs11_1]
      refine And.intro (fun a ha => (want_none rfl a ha).trans hon.symm) (And.intro (fun _ => ?_) (fun h => by rw [hon] at h; cases h))
      have hF := fr_next (rfl) ((hf 0 24 (by kernel_rfl) rfl).trans hv0)
      refine ls_fr hF ?_
      refine ls_call (fid := 12) (vals := #[.agg ⟨([Value.int .i64 a0.1] ++ ([Value.int .i64 a0.2.1] ++ ([Value.int .i64 a0.2.2.1] ++ ([Value.int .u32 a0.2.2.2.1] ++ en (Value.int .u8) a0.2.2.2.2.1))))⟩]) (X := Unit) (fun x => .bool t12) (fun x => stl []) 0 rfl rfl (by kernel_rfl) (fun w => by kernel_rfl) (fun w1 hs1 => pointer_None.calls k a0 t12 (bw w1) (St.refl w1)  hc13) ?_
      intro x14
      exact ls_fin (stl []) (.bool t12) (congrArg (fun z => upd z 25 _) hF.symm) ⟨x14, rfl, rfl⟩ (sub_join _)
    obtain ⟨s11_2, hs11_2⟩ : ∃ z : Value → Sto → Prop, z = (fun v R => v = .agg ⟨([Value.int .i64 a0.1] ++ ([Value.int .i64 a0.2.1] ++ ([Value.int .i64 a0.2.2.1] ++ ([Value.int .u32 a0.2.2.2.1] ++ en (Value.int .u8) a0.2.2.2.2.1))))⟩ ∧ R = s0) := ⟨_, rfl⟩
    refine have_op (l := [_, _, _, _, _, _, _, _, _, _, _, _, _, _, _, _, _, _, _, _, _, _, _, _, _, _, _, _, _, _, _, _, _, _, _, _, _, _, _, _, _, _, _, _, _, _]) shadowboxlaw06_PointerTells.tab9 3 2 (fun sp => sp 2 = s11_2) (fun sp on hA hon => ?_) (fun ops11_2 => ?_)
    · refine ⟨fun o ho vs Rs f' S' w hp hf hx hS hR hs => ?_⟩
      obtain rfl := Option.some.inj ho
      rw [hA, hs11_2]
      refine And.intro (fun a ha => (want_none rfl a ha).trans hon.symm) (And.intro (fun _ => ?_) (fun h => by rw [hon] at h; cases h))
      have hF := fr_next (rfl) ((hx 2 (by kernel_rfl)).trans (by kernel_rfl : (_ : Value) = .pointer (some ⟨g1, 0, none⟩)))
      refine ls_fr hF ?_
      refine ls_loadagg (a := ⟨g1, 0, none⟩) (sub := ([Value.int .i64 a0.1] ++ ([Value.int .i64 a0.2.1] ++ ([Value.int .i64 a0.2.2.1] ++ ([Value.int .u32 a0.2.2.2.1] ++ en (Value.int .u8) a0.2.2.2.2.1))))) rfl rfl (by kernel_rfl) rfl (by kernel_rfl) (by kernel_rfl) (by kernel_rfl) (len_app (len1 _) (len_app (len1 _) (len_app (len1 _) (len_app (len1 _) (len_en _ a0.2.2.2.2))))) (fun w1 hs1 => Rd.step (hs.vars (k := 0) ((hS 0 (by kernel_rfl)).trans (by exact rfl)) (Sub4.all _)) hs1.below.bw) ?_
      exact ls_fin s0 (.agg ⟨([Value.int .i64 a0.1] ++ ([Value.int .i64 a0.2.1] ++ ([Value.int .i64 a0.2.2.1] ++ ([Value.int .u32 a0.2.2.2.1] ++ en (Value.int .u8) a0.2.2.2.2.1))))⟩) (congrArg (fun z => upd z 26 _) hF.symm) ⟨rfl, rfl⟩ (sub_nil _)
    obtain ⟨t15, hc16, H⟩ := bind_some H
    obtain ⟨s11_3, hs11_3⟩ : ∃ z : Value → Sto → Prop, z = (fun v R => ∃ x17 : Unit, v = .bool t15 ∧ R = stl []) := ⟨_, rfl⟩
    refine have_op (l := [_, _, _, _, _, _, _, _, _, _, _, _, _, _, _, _, _, _, _, _, _, _, _, _, _, _, _, _, _, _, _, _, _, _, _, _, _, _, _, _, _, _, _, _, _, _]) shadowboxlaw06_PointerTells.tab9 3 3 (fun sp => sp 3 = s11_3 ∧ sp 2 = s11_2) (fun sp on hA hon => ?_) (fun ops11_3 => ?_)
    · refine ⟨fun o ho vs Rs f' S' w hp hf hx hS hR hs => ?_⟩
      obtain rfl := Option.some.inj ho
      obtain ⟨hv2, hR2⟩ := (spe hA.2 hs11_2 (hp 2 (by kernel_rfl)))
      rw [hA.1, hs11_3]
      refine And.intro (fun a ha => (want_none rfl a ha).trans hon.symm) (And.intro (fun _ => ?_) (fun h => by rw [hon] at h; cases h))
      have hF := fr_next (rfl) ((hf 2 26 (by kernel_rfl) rfl).trans hv2)
      refine ls_fr hF ?_
      refine ls_call (fid := 13) (vals := #[.agg ⟨([Value.int .i64 a0.1] ++ ([Value.int .i64 a0.2.1] ++ ([Value.int .i64 a0.2.2.1] ++ ([Value.int .u32 a0.2.2.2.1] ++ en (Value.int .u8) a0.2.2.2.2.1))))⟩]) (X := Unit) (fun x => .bool t15) (fun x => stl []) 0 rfl rfl (by kernel_rfl) (fun w => by kernel_rfl) (fun w1 hs1 => shadowboxref06_None.calls k a0 t15 (bw w1) (St.refl w1)  hc16) ?_
      intro x17
      exact ls_fin (stl []) (.bool t15) (congrArg (fun z => upd z 27 _) hF.symm) ⟨x17, rfl, rfl⟩ (sub_join _)
    obtain ⟨s11_4, hs11_4⟩ : ∃ z : Value → Sto → Prop, z = (fun v R => v = .bool (t12 == t15) ∧ R = s0) := ⟨_, rfl⟩
    refine have_op (l := [_, _, _, _, _, _, _, _, _, _, _, _, _, _, _, _, _, _, _, _, _, _, _, _, _, _, _, _, _, _, _, _, _, _, _, _, _, _, _, _, _, _, _, _, _, _]) shadowboxlaw06_PointerTells.tab9 3 4 (fun sp => sp 4 = s11_4 ∧ sp 1 = s11_1 ∧ sp 3 = s11_3) (fun sp on hA hon => ?_) (fun ops11_4 => ?_)
    · refine ⟨fun o ho vs Rs f' S' w hp hf hx hS hR hs => ?_⟩
      obtain rfl := Option.some.inj ho
      obtain ⟨x14, hv1, hR1⟩ := (spe hA.2.1 hs11_1 (hp 1 (by kernel_rfl)))
      obtain ⟨x17, hv3, hR3⟩ := (spe hA.2.2 hs11_3 (hp 3 (by kernel_rfl)))
      rw [hA.1, hs11_4]
      refine And.intro (fun a ha => (want_none rfl a ha).trans hon.symm) (And.intro (fun _ => ?_) (fun h => by rw [hon] at h; cases h))
      have hF := fr_next (fr_next (rfl) ((hf 1 25 (by kernel_rfl) rfl).trans hv1)) ((hf 3 27 (by kernel_rfl) rfl).trans hv3)
      refine ls_fr hF ?_
      refine ls_val (v := .bool (t12 == t15)) rfl rfl (by kernel_rfl) (fun w => by kernel_rfl) ?_
      exact ls_fin s0 (.bool (t12 == t15)) (congrArg (fun z => upd z 28 _) hF.symm) ⟨rfl, rfl⟩ (sub_nil _)
    obtain ⟨s11_5, hs11_5⟩ : ∃ z : Value → Sto → Prop, z = (fun v R => v = .bool (t12 == t15) ∧ R = s0) := ⟨_, rfl⟩
    refine have_op (l := [_, _, _, _, _, _, _, _, _, _, _, _, _, _, _, _, _, _, _, _, _, _, _, _, _, _, _, _, _, _, _, _, _, _, _, _, _, _, _, _, _, _, _, _, _, _]) shadowboxlaw06_PointerTells.tab9 3 5 (fun sp => sp 5 = s11_5 ∧ sp 4 = s11_4) (fun sp on hA hon => ?_) (fun ops11_5 => ?_)
    · refine ⟨fun o ho vs Rs f' S' w hp hf hx hS hR hs => ?_⟩
      obtain rfl := Option.some.inj ho
      obtain ⟨hv4, hR4⟩ := (spe hA.2 hs11_4 (hp 4 (by kernel_rfl)))
      rw [hA.1, hs11_5]
      refine And.intro (fun a ha => (want_none rfl a ha).trans hon.symm) (And.intro (fun _ => ?_) (fun h => by rw [hon] at h; cases h))
      have hF := fr_next (rfl) ((hf 4 28 (by kernel_rfl) rfl).trans hv4)
      refine ls_fr hF ?_
      refine ls_val (v := .bool (t12 == t15)) rfl rfl (by kernel_rfl) (fun w => by kernel_rfl) ?_
      exact ls_fin s0 (.bool (t12 == t15)) (congrArg (fun z => upd z 29 _) hF.symm) ⟨rfl, rfl⟩ (sub_nil _)
    by_cases q18 : (t12 == t15) = true
    · replace H := ite_t q18 H
      obtain ⟨s11_6, hs11_6⟩ : ∃ z : Value → Sto → Prop, z = (fun v R => v = .agg ⟨([Value.int .i64 a0.1] ++ ([Value.int .i64 a0.2.1] ++ ([Value.int .i64 a0.2.2.1] ++ ([Value.int .u32 a0.2.2.2.1] ++ en (Value.int .u8) a0.2.2.2.2.1))))⟩ ∧ R = s0) := ⟨_, rfl⟩
      refine have_op (l := [_, _, _, _, _, _, _, _, _, _, _, _, _, _, _, _, _, _, _, _, _, _, _, _, _, _, _, _, _, _, _, _, _, _, _, _, _, _, _, _, _, _, _, _, _, _]) shadowboxlaw06_PointerTells.tab9 3 6 (fun sp => sp 6 = s11_6 ∧ sp 5 = s11_5) (fun sp on hA hon => ?_) (fun ops11_6 => ?_)
      · refine ⟨fun o ho vs Rs f' S' w hp hf hx hS hR hs => ?_⟩
        obtain rfl := Option.some.inj ho
        obtain ⟨hv5, hR5⟩ := (spe hA.2 hs11_5 (hp 5 (by kernel_rfl)))
        rw [hA.1, hs11_6]
        refine And.intro (fun a ha => (want_is (j := 5) (t := 29) (r := true) rfl rfl (by kernel_rfl) (((hf 5 29 (by kernel_rfl) rfl).trans hv5).trans (congrArg Value.bool (show (t12 == t15) = true from q18))) rfl a ha).trans hon.symm) (And.intro (fun _ => ?_) (fun h => by rw [hon] at h; cases h))
        have hF := fr_next (fr_next (rfl) ((hx 2 (by kernel_rfl)).trans (by kernel_rfl : (_ : Value) = .pointer (some ⟨g1, 0, none⟩)))) (((hf 5 29 (by kernel_rfl) rfl).trans hv5).trans (congrArg Value.bool (show (t12 == t15) = true from q18)))
        refine ls_fr hF ?_
        refine ls_loadagg (a := ⟨g1, 0, none⟩) (sub := ([Value.int .i64 a0.1] ++ ([Value.int .i64 a0.2.1] ++ ([Value.int .i64 a0.2.2.1] ++ ([Value.int .u32 a0.2.2.2.1] ++ en (Value.int .u8) a0.2.2.2.2.1))))) rfl rfl (by kernel_rfl) rfl (by kernel_rfl) (by kernel_rfl) (by kernel_rfl) (len_app (len1 _) (len_app (len1 _) (len_app (len1 _) (len_app (len1 _) (len_en _ a0.2.2.2.2))))) (fun w1 hs1 => Rd.step (hs.vars (k := 0) ((hS 0 (by kernel_rfl)).trans (by exact rfl)) (Sub4.all _)) hs1.below.bw) ?_
        exact ls_fin s0 (.agg ⟨([Value.int .i64 a0.1] ++ ([Value.int .i64 a0.2.1] ++ ([Value.int .i64 a0.2.2.1] ++ ([Value.int .u32 a0.2.2.2.1] ++ en (Value.int .u8) a0.2.2.2.2.1))))⟩) (congrArg (fun z => upd z 30 _) hF.symm) ⟨rfl, rfl⟩ (sub_nil _)
      obtain ⟨t19, hc20, H⟩ := bind_some H
      obtain ⟨s11_7, hs11_7⟩ : ∃ z : Value → Sto → Prop, z = (fun v R => ∃ x21 : Unit, v = .bool t19 ∧ R = stl []) := ⟨_, rfl⟩
      refine have_op (l := [_, _, _, _, _, _, _, _, _, _, _, _, _, _, _, _, _, _, _, _, _, _, _, _, _, _, _, _, _, _, _, _, _, _, _, _, _, _, _, _, _, _, _, _, _, _]) shadowboxlaw06_PointerTells.tab9 3 7 (fun sp => sp 7 = s11_7 ∧ sp 5 = s11_5 ∧ sp 6 = s11_6) (fun sp on hA hon => ?_) (fun ops11_7 => ?_)
      · refine ⟨fun o ho vs Rs f' S' w hp hf hx hS hR hs => ?_⟩
        obtain rfl := Option.some.inj ho
        obtain ⟨hv5, hR5⟩ := (spe hA.2.1 hs11_5 (hp 5 (by kernel_rfl)))
        obtain ⟨hv6, hR6⟩ := (spe hA.2.2 hs11_6 (hp 6 (by kernel_rfl)))
        rw [hA.1, hs11_7]
        refine And.intro (fun a ha => (want_is (j := 5) (t := 29) (r := true) rfl rfl (by kernel_rfl) (((hf 5 29 (by kernel_rfl) rfl).trans hv5).trans (congrArg Value.bool (show (t12 == t15) = true from q18))) rfl a ha).trans hon.symm) (And.intro (fun _ => ?_) (fun h => by rw [hon] at h; cases h))
        have hF := fr_next (fr_next (rfl) (((hf 5 29 (by kernel_rfl) rfl).trans hv5).trans (congrArg Value.bool (show (t12 == t15) = true from q18)))) ((hf 6 30 (by kernel_rfl) rfl).trans hv6)
        refine ls_fr hF ?_
        refine ls_call (fid := 14) (vals := #[.agg ⟨([Value.int .i64 a0.1] ++ ([Value.int .i64 a0.2.1] ++ ([Value.int .i64 a0.2.2.1] ++ ([Value.int .u32 a0.2.2.2.1] ++ en (Value.int .u8) a0.2.2.2.2.1))))⟩]) (X := Unit) (fun x => .bool t19) (fun x => stl []) 0 rfl rfl (by kernel_rfl) (fun w => by kernel_rfl) (fun w1 hs1 => pointer_Right.calls k a0 t19 (bw w1) (St.refl w1)  hc20) ?_
        intro x21
        exact ls_fin (stl []) (.bool t19) (congrArg (fun z => upd z 31 _) hF.symm) ⟨x21, rfl, rfl⟩ (sub_join _)
      obtain ⟨s11_8, hs11_8⟩ : ∃ z : Value → Sto → Prop, z = (fun v R => v = .agg ⟨([Value.int .i64 a0.1] ++ ([Value.int .i64 a0.2.1] ++ ([Value.int .i64 a0.2.2.1] ++ ([Value.int .u32 a0.2.2.2.1] ++ en (Value.int .u8) a0.2.2.2.2.1))))⟩ ∧ R = s0) := ⟨_, rfl⟩
      refine have_op (l := [_, _, _, _, _, _, _, _, _, _, _, _, _, _, _, _, _, _, _, _, _, _, _, _, _, _, _, _, _, _, _, _, _, _, _, _, _, _, _, _, _, _, _, _, _, _]) shadowboxlaw06_PointerTells.tab9 3 8 (fun sp => sp 8 = s11_8 ∧ sp 5 = s11_5) (fun sp on hA hon => ?_) (fun ops11_8 => ?_)
      · refine ⟨fun o ho vs Rs f' S' w hp hf hx hS hR hs => ?_⟩
        obtain rfl := Option.some.inj ho
        obtain ⟨hv5, hR5⟩ := (spe hA.2 hs11_5 (hp 5 (by kernel_rfl)))
        rw [hA.1, hs11_8]
        refine And.intro (fun a ha => (want_is (j := 5) (t := 29) (r := true) rfl rfl (by kernel_rfl) (((hf 5 29 (by kernel_rfl) rfl).trans hv5).trans (congrArg Value.bool (show (t12 == t15) = true from q18))) rfl a ha).trans hon.symm) (And.intro (fun _ => ?_) (fun h => by rw [hon] at h; cases h))
        have hF := fr_next (fr_next (rfl) ((hx 2 (by kernel_rfl)).trans (by kernel_rfl : (_ : Value) = .pointer (some ⟨g1, 0, none⟩)))) (((hf 5 29 (by kernel_rfl) rfl).trans hv5).trans (congrArg Value.bool (show (t12 == t15) = true from q18)))
        refine ls_fr hF ?_
        refine ls_loadagg (a := ⟨g1, 0, none⟩) (sub := ([Value.int .i64 a0.1] ++ ([Value.int .i64 a0.2.1] ++ ([Value.int .i64 a0.2.2.1] ++ ([Value.int .u32 a0.2.2.2.1] ++ en (Value.int .u8) a0.2.2.2.2.1))))) rfl rfl (by kernel_rfl) rfl (by kernel_rfl) (by kernel_rfl) (by kernel_rfl) (len_app (len1 _) (len_app (len1 _) (len_app (len1 _) (len_app (len1 _) (len_en _ a0.2.2.2.2))))) (fun w1 hs1 => Rd.step (hs.vars (k := 0) ((hS 0 (by kernel_rfl)).trans (by exact rfl)) (Sub4.all _)) hs1.below.bw) ?_
        exact ls_fin s0 (.agg ⟨([Value.int .i64 a0.1] ++ ([Value.int .i64 a0.2.1] ++ ([Value.int .i64 a0.2.2.1] ++ ([Value.int .u32 a0.2.2.2.1] ++ en (Value.int .u8) a0.2.2.2.2.1))))⟩) (congrArg (fun z => upd z 32 _) hF.symm) ⟨rfl, rfl⟩ (sub_nil _)
      obtain ⟨t22, hc23, H⟩ := bind_some H
      obtain ⟨s11_9, hs11_9⟩ : ∃ z : Value → Sto → Prop, z = (fun v R => ∃ x24 : Unit, v = .bool t22 ∧ R = stl []) := ⟨_, rfl⟩
      refine have_op (l := [_, _, _, _, _, _, _, _, _, _, _, _, _, _, _, _, _, _, _, _, _, _, _, _, _, _, _, _, _, _, _, _, _, _, _, _, _, _, _, _, _, _, _, _, _, _]) shadowboxlaw06_PointerTells.tab9 3 9 (fun sp => sp 9 = s11_9 ∧ sp 5 = s11_5 ∧ sp 8 = s11_8) (fun sp on hA hon => ?_) (fun ops11_9 => ?_)
      · refine ⟨fun o ho vs Rs f' S' w hp hf hx hS hR hs => ?_⟩
        obtain rfl := Option.some.inj ho
        obtain ⟨hv5, hR5⟩ := (spe hA.2.1 hs11_5 (hp 5 (by kernel_rfl)))
        obtain ⟨hv8, hR8⟩ := (spe hA.2.2 hs11_8 (hp 8 (by kernel_rfl)))
        rw [hA.1, hs11_9]
        refine And.intro (fun a ha => (want_is (j := 5) (t := 29) (r := true) rfl rfl (by kernel_rfl) (((hf 5 29 (by kernel_rfl) rfl).trans hv5).trans (congrArg Value.bool (show (t12 == t15) = true from q18))) rfl a ha).trans hon.symm) (And.intro (fun _ => ?_) (fun h => by rw [hon] at h; cases h))
        have hF := fr_next (fr_next (rfl) (((hf 5 29 (by kernel_rfl) rfl).trans hv5).trans (congrArg Value.bool (show (t12 == t15) = true from q18)))) ((hf 8 32 (by kernel_rfl) rfl).trans hv8)
        refine ls_fr hF ?_
        refine ls_call (fid := 15) (vals := #[.agg ⟨([Value.int .i64 a0.1] ++ ([Value.int .i64 a0.2.1] ++ ([Value.int .i64 a0.2.2.1] ++ ([Value.int .u32 a0.2.2.2.1] ++ en (Value.int .u8) a0.2.2.2.2.1))))⟩]) (X := Unit) (fun x => .bool t22) (fun x => stl []) 0 rfl rfl (by kernel_rfl) (fun w => by kernel_rfl) (fun w1 hs1 => shadowboxref06_Right.calls k a0 t22 (bw w1) (St.refl w1)  hc23) ?_
        intro x24
        exact ls_fin (stl []) (.bool t22) (congrArg (fun z => upd z 33 _) hF.symm) ⟨x24, rfl, rfl⟩ (sub_join _)
      obtain ⟨s11_10, hs11_10⟩ : ∃ z : Value → Sto → Prop, z = (fun v R => v = .bool (t19 == t22) ∧ R = s0) := ⟨_, rfl⟩
      refine have_op (l := [_, _, _, _, _, _, _, _, _, _, _, _, _, _, _, _, _, _, _, _, _, _, _, _, _, _, _, _, _, _, _, _, _, _, _, _, _, _, _, _, _, _, _, _, _, _]) shadowboxlaw06_PointerTells.tab9 3 10 (fun sp => sp 10 = s11_10 ∧ sp 5 = s11_5 ∧ sp 7 = s11_7 ∧ sp 9 = s11_9) (fun sp on hA hon => ?_) (fun ops11_10 => ?_)
      · refine ⟨fun o ho vs Rs f' S' w hp hf hx hS hR hs => ?_⟩
        obtain rfl := Option.some.inj ho
        obtain ⟨hv5, hR5⟩ := (spe hA.2.1 hs11_5 (hp 5 (by kernel_rfl)))
        obtain ⟨x21, hv7, hR7⟩ := (spe hA.2.2.1 hs11_7 (hp 7 (by kernel_rfl)))
        obtain ⟨x24, hv9, hR9⟩ := (spe hA.2.2.2 hs11_9 (hp 9 (by kernel_rfl)))
        rw [hA.1, hs11_10]
        refine And.intro (fun a ha => (want_is (j := 5) (t := 29) (r := true) rfl rfl (by kernel_rfl) (((hf 5 29 (by kernel_rfl) rfl).trans hv5).trans (congrArg Value.bool (show (t12 == t15) = true from q18))) rfl a ha).trans hon.symm) (And.intro (fun _ => ?_) (fun h => by rw [hon] at h; cases h))
        have hF := fr_next (fr_next (fr_next (rfl) (((hf 5 29 (by kernel_rfl) rfl).trans hv5).trans (congrArg Value.bool (show (t12 == t15) = true from q18)))) ((hf 7 31 (by kernel_rfl) rfl).trans hv7)) ((hf 9 33 (by kernel_rfl) rfl).trans hv9)
        refine ls_fr hF ?_
        refine ls_val (v := .bool (t19 == t22)) rfl rfl (by kernel_rfl) (fun w => by kernel_rfl) ?_
        exact ls_fin s0 (.bool (t19 == t22)) (congrArg (fun z => upd z 34 _) hF.symm) ⟨rfl, rfl⟩ (sub_nil _)
      obtain ⟨s11_11, hs11_11⟩ : ∃ z : Value → Sto → Prop, z = (fun v R => v = .bool (t19 == t22) ∧ R = s0) := ⟨_, rfl⟩
      refine have_op (l := [_, _, _, _, _, _, _, _, _, _, _, _, _, _, _, _, _, _, _, _, _, _, _, _, _, _, _, _, _, _, _, _, _, _, _, _, _, _, _, _, _, _, _, _, _, _]) shadowboxlaw06_PointerTells.tab9 3 11 (fun sp => sp 11 = s11_11 ∧ sp 5 = s11_5 ∧ sp 10 = s11_10) (fun sp on hA hon => ?_) (fun ops11_11 => ?_)
      · refine ⟨fun o ho vs Rs f' S' w hp hf hx hS hR hs => ?_⟩
        obtain rfl := Option.some.inj ho
        obtain ⟨hv5, hR5⟩ := (spe hA.2.1 hs11_5 (hp 5 (by kernel_rfl)))
        obtain ⟨hv10, hR10⟩ := (spe hA.2.2 hs11_10 (hp 10 (by kernel_rfl)))
        rw [hA.1, hs11_11]
        refine And.intro (fun a ha => (want_none rfl a ha).trans hon.symm) (And.intro (fun _ => ?_) (fun h => by rw [hon] at h; cases h))
        have hF := fr_next (fr_next (rfl) (((hf 5 29 (by kernel_rfl) rfl).trans hv5).trans (congrArg Value.bool (show (t12 == t15) = true from q18)))) ((hf 10 34 (by kernel_rfl) rfl).trans hv10)
        refine ls_fr hF ?_
        refine ls_val (v := .bool (t19 == t22)) rfl rfl (by kernel_rfl) (fun w => by kernel_rfl) ?_
        exact ls_fin s0 (.bool (t19 == t22)) (congrArg (fun z => upd z 35 _) hF.symm) ⟨rfl, rfl⟩ (sub_nil _)
      obtain ⟨s11_12, hs11_12⟩ : ∃ z : Value → Sto → Prop, z = (fun v R => v = .bool (t19 == t22) ∧ R = s0) := ⟨_, rfl⟩
      refine have_op (l := [_, _, _, _, _, _, _, _, _, _, _, _, _, _, _, _, _, _, _, _, _, _, _, _, _, _, _, _, _, _, _, _, _, _, _, _, _, _, _, _, _, _, _, _, _, _]) shadowboxlaw06_PointerTells.tab9 3 12 (fun sp => sp 12 = s11_12 ∧ sp 11 = s11_11) (fun sp on hA hon => ?_) (fun ops11_12 => ?_)
      · refine ⟨fun o ho vs Rs f' S' w hp hf hx hS hR hs => ?_⟩
        obtain rfl := Option.some.inj ho
        obtain ⟨hv11, hR11⟩ := (spe hA.2 hs11_11 (hp 11 (by kernel_rfl)))
        rw [hA.1, hs11_12]
        refine And.intro (fun a ha => (want_none rfl a ha).trans hon.symm) (And.intro (fun _ => ?_) (fun h => by rw [hon] at h; cases h))
        have hF := fr_next (rfl) ((hf 11 35 (by kernel_rfl) rfl).trans hv11)
        refine ls_fr hF ?_
        refine ls_val (v := .bool (t19 == t22)) rfl rfl (by kernel_rfl) (fun w => by kernel_rfl) ?_
        exact ls_fin s0 (.bool (t19 == t22)) (congrArg (fun z => upd z 36 _) hF.symm) ⟨rfl, rfl⟩ (sub_nil _)
      by_cases q25 : (t19 == t22) = true
      · replace H := ite_t q25 H
        obtain ⟨s11_13, hs11_13⟩ : ∃ z : Value → Sto → Prop, z = (fun v R => v = .agg ⟨([Value.int .i64 a0.1] ++ ([Value.int .i64 a0.2.1] ++ ([Value.int .i64 a0.2.2.1] ++ ([Value.int .u32 a0.2.2.2.1] ++ en (Value.int .u8) a0.2.2.2.2.1))))⟩ ∧ R = s0) := ⟨_, rfl⟩
        refine have_op (l := [_, _, _, _, _, _, _, _, _, _, _, _, _, _, _, _, _, _, _, _, _, _, _, _, _, _, _, _, _, _, _, _, _, _, _, _, _, _, _, _, _, _, _, _, _, _]) shadowboxlaw06_PointerTells.tab9 3 13 (fun sp => sp 13 = s11_13 ∧ sp 12 = s11_12) (fun sp on hA hon => ?_) (fun ops11_13 => ?_)
        · refine ⟨fun o ho vs Rs f' S' w hp hf hx hS hR hs => ?_⟩
          obtain rfl := Option.some.inj ho
          obtain ⟨hv12, hR12⟩ := (spe hA.2 hs11_12 (hp 12 (by kernel_rfl)))
          rw [hA.1, hs11_13]
          refine And.intro (fun a ha => (want_is (j := 12) (t := 36) (r := true) rfl rfl (by kernel_rfl) (((hf 12 36 (by kernel_rfl) rfl).trans hv12).trans (congrArg Value.bool (show (t19 == t22) = true from q25))) rfl a ha).trans hon.symm) (And.intro (fun _ => ?_) (fun h => by rw [hon] at h; cases h))
          have hF := fr_next (fr_next (rfl) ((hx 2 (by kernel_rfl)).trans (by kernel_rfl : (_ : Value) = .pointer (some ⟨g1, 0, none⟩)))) (((hf 12 36 (by kernel_rfl) rfl).trans hv12).trans (congrArg Value.bool (show (t19 == t22) = true from q25)))
          refine ls_fr hF ?_
          refine ls_loadagg (a := ⟨g1, 0, none⟩) (sub := ([Value.int .i64 a0.1] ++ ([Value.int .i64 a0.2.1] ++ ([Value.int .i64 a0.2.2.1] ++ ([Value.int .u32 a0.2.2.2.1] ++ en (Value.int .u8) a0.2.2.2.2.1))))) rfl rfl (by kernel_rfl) rfl (by kernel_rfl) (by kernel_rfl) (by kernel_rfl) (len_app (len1 _) (len_app (len1 _) (len_app (len1 _) (len_app (len1 _) (len_en _ a0.2.2.2.2))))) (fun w1 hs1 => Rd.step (hs.vars (k := 0) ((hS 0 (by kernel_rfl)).trans (by exact rfl)) (Sub4.all _)) hs1.below.bw) ?_
          exact ls_fin s0 (.agg ⟨([Value.int .i64 a0.1] ++ ([Value.int .i64 a0.2.1] ++ ([Value.int .i64 a0.2.2.1] ++ ([Value.int .u32 a0.2.2.2.1] ++ en (Value.int .u8) a0.2.2.2.2.1))))⟩) (congrArg (fun z => upd z 37 _) hF.symm) ⟨rfl, rfl⟩ (sub_nil _)
        obtain ⟨t26, hc27, H⟩ := bind_some H
        obtain ⟨s11_14, hs11_14⟩ : ∃ z : Value → Sto → Prop, z = (fun v R => ∃ x28 : Unit, v = .int .i64 t26 ∧ R = stl []) := ⟨_, rfl⟩
        refine have_op (l := [_, _, _, _, _, _, _, _, _, _, _, _, _, _, _, _, _, _, _, _, _, _, _, _, _, _, _, _, _, _, _, _, _, _, _, _, _, _, _, _, _, _, _, _, _, _]) shadowboxlaw06_PointerTells.tab9 3 14 (fun sp => sp 14 = s11_14 ∧ sp 12 = s11_12 ∧ sp 13 = s11_13) (fun sp on hA hon => ?_) (fun ops11_14 => ?_)
        · refine ⟨fun o ho vs Rs f' S' w hp hf hx hS hR hs => ?_⟩
          obtain rfl := Option.some.inj ho
          obtain ⟨hv12, hR12⟩ := (spe hA.2.1 hs11_12 (hp 12 (by kernel_rfl)))
          obtain ⟨hv13, hR13⟩ := (spe hA.2.2 hs11_13 (hp 13 (by kernel_rfl)))
          rw [hA.1, hs11_14]
          refine And.intro (fun a ha => (want_is (j := 12) (t := 36) (r := true) rfl rfl (by kernel_rfl) (((hf 12 36 (by kernel_rfl) rfl).trans hv12).trans (congrArg Value.bool (show (t19 == t22) = true from q25))) rfl a ha).trans hon.symm) (And.intro (fun _ => ?_) (fun h => by rw [hon] at h; cases h))
          have hF := fr_next (fr_next (rfl) (((hf 12 36 (by kernel_rfl) rfl).trans hv12).trans (congrArg Value.bool (show (t19 == t22) = true from q25)))) ((hf 13 37 (by kernel_rfl) rfl).trans hv13)
          refine ls_fr hF ?_
          refine ls_call (fid := 16) (vals := #[.agg ⟨([Value.int .i64 a0.1] ++ ([Value.int .i64 a0.2.1] ++ ([Value.int .i64 a0.2.2.1] ++ ([Value.int .u32 a0.2.2.2.1] ++ en (Value.int .u8) a0.2.2.2.2.1))))⟩]) (X := Unit) (fun x => .int .i64 t26) (fun x => stl []) 0 rfl rfl (by kernel_rfl) (fun w => by kernel_rfl) (fun w1 hs1 => pointer_Sectors.calls k a0 t26 (bw w1) (St.refl w1)  hc27) ?_
          intro x28
          exact ls_fin (stl []) (.int .i64 t26) (congrArg (fun z => upd z 38 _) hF.symm) ⟨x28, rfl, rfl⟩ (sub_join _)
        obtain ⟨s11_15, hs11_15⟩ : ∃ z : Value → Sto → Prop, z = (fun v R => v = .agg ⟨([Value.int .i64 a0.1] ++ ([Value.int .i64 a0.2.1] ++ ([Value.int .i64 a0.2.2.1] ++ ([Value.int .u32 a0.2.2.2.1] ++ en (Value.int .u8) a0.2.2.2.2.1))))⟩ ∧ R = s0) := ⟨_, rfl⟩
        refine have_op (l := [_, _, _, _, _, _, _, _, _, _, _, _, _, _, _, _, _, _, _, _, _, _, _, _, _, _, _, _, _, _, _, _, _, _, _, _, _, _, _, _, _, _, _, _, _, _]) shadowboxlaw06_PointerTells.tab9 3 15 (fun sp => sp 15 = s11_15 ∧ sp 12 = s11_12) (fun sp on hA hon => ?_) (fun ops11_15 => ?_)
        · refine ⟨fun o ho vs Rs f' S' w hp hf hx hS hR hs => ?_⟩
          obtain rfl := Option.some.inj ho
          obtain ⟨hv12, hR12⟩ := (spe hA.2 hs11_12 (hp 12 (by kernel_rfl)))
          rw [hA.1, hs11_15]
          refine And.intro (fun a ha => (want_is (j := 12) (t := 36) (r := true) rfl rfl (by kernel_rfl) (((hf 12 36 (by kernel_rfl) rfl).trans hv12).trans (congrArg Value.bool (show (t19 == t22) = true from q25))) rfl a ha).trans hon.symm) (And.intro (fun _ => ?_) (fun h => by rw [hon] at h; cases h))
          have hF := fr_next (fr_next (rfl) ((hx 2 (by kernel_rfl)).trans (by kernel_rfl : (_ : Value) = .pointer (some ⟨g1, 0, none⟩)))) (((hf 12 36 (by kernel_rfl) rfl).trans hv12).trans (congrArg Value.bool (show (t19 == t22) = true from q25)))
          refine ls_fr hF ?_
          refine ls_loadagg (a := ⟨g1, 0, none⟩) (sub := ([Value.int .i64 a0.1] ++ ([Value.int .i64 a0.2.1] ++ ([Value.int .i64 a0.2.2.1] ++ ([Value.int .u32 a0.2.2.2.1] ++ en (Value.int .u8) a0.2.2.2.2.1))))) rfl rfl (by kernel_rfl) rfl (by kernel_rfl) (by kernel_rfl) (by kernel_rfl) (len_app (len1 _) (len_app (len1 _) (len_app (len1 _) (len_app (len1 _) (len_en _ a0.2.2.2.2))))) (fun w1 hs1 => Rd.step (hs.vars (k := 0) ((hS 0 (by kernel_rfl)).trans (by exact rfl)) (Sub4.all _)) hs1.below.bw) ?_
          exact ls_fin s0 (.agg ⟨([Value.int .i64 a0.1] ++ ([Value.int .i64 a0.2.1] ++ ([Value.int .i64 a0.2.2.1] ++ ([Value.int .u32 a0.2.2.2.1] ++ en (Value.int .u8) a0.2.2.2.2.1))))⟩) (congrArg (fun z => upd z 39 _) hF.symm) ⟨rfl, rfl⟩ (sub_nil _)
        obtain ⟨t29, hc30, H⟩ := bind_some H
        obtain ⟨s11_16, hs11_16⟩ : ∃ z : Value → Sto → Prop, z = (fun v R => ∃ x31 : Unit, v = .int .i64 t29 ∧ R = stl []) := ⟨_, rfl⟩
        refine have_op (l := [_, _, _, _, _, _, _, _, _, _, _, _, _, _, _, _, _, _, _, _, _, _, _, _, _, _, _, _, _, _, _, _, _, _, _, _, _, _, _, _, _, _, _, _, _, _]) shadowboxlaw06_PointerTells.tab9 3 16 (fun sp => sp 16 = s11_16 ∧ sp 12 = s11_12 ∧ sp 15 = s11_15) (fun sp on hA hon => ?_) (fun ops11_16 => ?_)
        · refine ⟨fun o ho vs Rs f' S' w hp hf hx hS hR hs => ?_⟩
          obtain rfl := Option.some.inj ho
          obtain ⟨hv12, hR12⟩ := (spe hA.2.1 hs11_12 (hp 12 (by kernel_rfl)))
          obtain ⟨hv15, hR15⟩ := (spe hA.2.2 hs11_15 (hp 15 (by kernel_rfl)))
          rw [hA.1, hs11_16]
          refine And.intro (fun a ha => (want_is (j := 12) (t := 36) (r := true) rfl rfl (by kernel_rfl) (((hf 12 36 (by kernel_rfl) rfl).trans hv12).trans (congrArg Value.bool (show (t19 == t22) = true from q25))) rfl a ha).trans hon.symm) (And.intro (fun _ => ?_) (fun h => by rw [hon] at h; cases h))
          have hF := fr_next (fr_next (rfl) (((hf 12 36 (by kernel_rfl) rfl).trans hv12).trans (congrArg Value.bool (show (t19 == t22) = true from q25)))) ((hf 15 39 (by kernel_rfl) rfl).trans hv15)
          refine ls_fr hF ?_
          refine ls_call (fid := 17) (vals := #[.agg ⟨([Value.int .i64 a0.1] ++ ([Value.int .i64 a0.2.1] ++ ([Value.int .i64 a0.2.2.1] ++ ([Value.int .u32 a0.2.2.2.1] ++ en (Value.int .u8) a0.2.2.2.2.1))))⟩]) (X := Unit) (fun x => .int .i64 t29) (fun x => stl []) 0 rfl rfl (by kernel_rfl) (fun w => by kernel_rfl) (fun w1 hs1 => shadowboxref06_Sectors.calls k a0 t29 (bw w1) (St.refl w1)  hc30) ?_
          intro x31
          exact ls_fin (stl []) (.int .i64 t29) (congrArg (fun z => upd z 40 _) hF.symm) ⟨x31, rfl, rfl⟩ (sub_join _)
        obtain ⟨s11_17, hs11_17⟩ : ∃ z : Value → Sto → Prop, z = (fun v R => v = .bool (decide (t26 = t29)) ∧ R = s0) := ⟨_, rfl⟩
        refine have_op (l := [_, _, _, _, _, _, _, _, _, _, _, _, _, _, _, _, _, _, _, _, _, _, _, _, _, _, _, _, _, _, _, _, _, _, _, _, _, _, _, _, _, _, _, _, _, _]) shadowboxlaw06_PointerTells.tab9 3 17 (fun sp => sp 17 = s11_17 ∧ sp 12 = s11_12 ∧ sp 14 = s11_14 ∧ sp 16 = s11_16) (fun sp on hA hon => ?_) (fun ops11_17 => ?_)
        · refine ⟨fun o ho vs Rs f' S' w hp hf hx hS hR hs => ?_⟩
          obtain rfl := Option.some.inj ho
          obtain ⟨hv12, hR12⟩ := (spe hA.2.1 hs11_12 (hp 12 (by kernel_rfl)))
          obtain ⟨x28, hv14, hR14⟩ := (spe hA.2.2.1 hs11_14 (hp 14 (by kernel_rfl)))
          obtain ⟨x31, hv16, hR16⟩ := (spe hA.2.2.2 hs11_16 (hp 16 (by kernel_rfl)))
          rw [hA.1, hs11_17]
          refine And.intro (fun a ha => (want_is (j := 12) (t := 36) (r := true) rfl rfl (by kernel_rfl) (((hf 12 36 (by kernel_rfl) rfl).trans hv12).trans (congrArg Value.bool (show (t19 == t22) = true from q25))) rfl a ha).trans hon.symm) (And.intro (fun _ => ?_) (fun h => by rw [hon] at h; cases h))
          have hF := fr_next (fr_next (fr_next (rfl) (((hf 12 36 (by kernel_rfl) rfl).trans hv12).trans (congrArg Value.bool (show (t19 == t22) = true from q25)))) ((hf 14 38 (by kernel_rfl) rfl).trans hv14)) ((hf 16 40 (by kernel_rfl) rfl).trans hv16)
          refine ls_fr hF ?_
          refine ls_val (v := .bool (decide (t26 = t29))) rfl rfl (by kernel_rfl) (fun w => by kernel_rfl) ?_
          exact ls_fin s0 (.bool (decide (t26 = t29))) (congrArg (fun z => upd z 41 _) hF.symm) ⟨rfl, rfl⟩ (sub_nil _)
        obtain ⟨s11_18, hs11_18⟩ : ∃ z : Value → Sto → Prop, z = (fun v R => v = .bool (decide (t26 = t29)) ∧ R = s0) := ⟨_, rfl⟩
        refine have_op (l := [_, _, _, _, _, _, _, _, _, _, _, _, _, _, _, _, _, _, _, _, _, _, _, _, _, _, _, _, _, _, _, _, _, _, _, _, _, _, _, _, _, _, _, _, _, _]) shadowboxlaw06_PointerTells.tab9 3 18 (fun sp => sp 18 = s11_18 ∧ sp 12 = s11_12 ∧ sp 17 = s11_17) (fun sp on hA hon => ?_) (fun ops11_18 => ?_)
        · refine ⟨fun o ho vs Rs f' S' w hp hf hx hS hR hs => ?_⟩
          obtain rfl := Option.some.inj ho
          obtain ⟨hv12, hR12⟩ := (spe hA.2.1 hs11_12 (hp 12 (by kernel_rfl)))
          obtain ⟨hv17, hR17⟩ := (spe hA.2.2 hs11_17 (hp 17 (by kernel_rfl)))
          rw [hA.1, hs11_18]
          refine And.intro (fun a ha => (want_none rfl a ha).trans hon.symm) (And.intro (fun _ => ?_) (fun h => by rw [hon] at h; cases h))
          have hF := fr_next (fr_next (rfl) (((hf 12 36 (by kernel_rfl) rfl).trans hv12).trans (congrArg Value.bool (show (t19 == t22) = true from q25)))) ((hf 17 41 (by kernel_rfl) rfl).trans hv17)
          refine ls_fr hF ?_
          refine ls_val (v := .bool (decide (t26 = t29))) rfl rfl (by kernel_rfl) (fun w => by kernel_rfl) ?_
          exact ls_fin s0 (.bool (decide (t26 = t29))) (congrArg (fun z => upd z 42 _) hF.symm) ⟨rfl, rfl⟩ (sub_nil _)
        obtain ⟨s11_19, hs11_19⟩ : ∃ z : Value → Sto → Prop, z = (fun v R => v = .bool (decide (t26 = t29)) ∧ R = s0) := ⟨_, rfl⟩
        refine have_op (l := [_, _, _, _, _, _, _, _, _, _, _, _, _, _, _, _, _, _, _, _, _, _, _, _, _, _, _, _, _, _, _, _, _, _, _, _, _, _, _, _, _, _, _, _, _, _]) shadowboxlaw06_PointerTells.tab9 3 19 (fun sp => sp 19 = s11_19 ∧ sp 18 = s11_18) (fun sp on hA hon => ?_) (fun ops11_19 => ?_)
        · refine ⟨fun o ho vs Rs f' S' w hp hf hx hS hR hs => ?_⟩
          obtain rfl := Option.some.inj ho
          obtain ⟨hv18, hR18⟩ := (spe hA.2 hs11_18 (hp 18 (by kernel_rfl)))
          rw [hA.1, hs11_19]
          refine And.intro (fun a ha => (want_none rfl a ha).trans hon.symm) (And.intro (fun _ => ?_) (fun h => by rw [hon] at h; cases h))
          have hF := fr_next (rfl) ((hf 18 42 (by kernel_rfl) rfl).trans hv18)
          refine ls_fr hF ?_
          refine ls_val (v := .bool (decide (t26 = t29))) rfl rfl (by kernel_rfl) (fun w => by kernel_rfl) ?_
          exact ls_fin s0 (.bool (decide (t26 = t29))) (congrArg (fun z => upd z 43 _) hF.symm) ⟨rfl, rfl⟩ (sub_nil _)
        by_cases q32 : t26 = t29
        · replace H := ite_t q32 H
          obtain ⟨s11_20, hs11_20⟩ : ∃ z : Value → Sto → Prop, z = (fun v R => v = .slice A1_1 l1_1.length c1_1 ∧ R = s0) := ⟨_, rfl⟩
          refine have_op (l := [_, _, _, _, _, _, _, _, _, _, _, _, _, _, _, _, _, _, _, _, _, _, _, _, _, _, _, _, _, _, _, _, _, _, _, _, _, _, _, _, _, _, _, _, _, _]) shadowboxlaw06_PointerTells.tab9 3 20 (fun sp => sp 20 = s11_20 ∧ sp 19 = s11_19) (fun sp on hA hon => ?_) (fun ops11_20 => ?_)
          · refine ⟨fun o ho vs Rs f' S' w hp hf hx hS hR hs => ?_⟩
            obtain rfl := Option.some.inj ho
            obtain ⟨hv19, hR19⟩ := (spe hA.2 hs11_19 (hp 19 (by kernel_rfl)))
            rw [hA.1, hs11_20]
            refine And.intro (fun a ha => (want_is (j := 19) (t := 43) (r := true) rfl rfl (by kernel_rfl) (((hf 19 43 (by kernel_rfl) rfl).trans hv19).trans (congrArg Value.bool (show (decide (t26 = t29)) = true from dec_t q32))) rfl a ha).trans hon.symm) (And.intro (fun _ => ?_) (fun h => by rw [hon] at h; cases h))
            have hF := fr_next (fr_next (rfl) ((hx 1 (by kernel_rfl)).trans (by kernel_rfl : (_ : Value) = .slice A1_1 l1_1.length c1_1))) (((hf 19 43 (by kernel_rfl) rfl).trans hv19).trans (congrArg Value.bool (show (decide (t26 = t29)) = true from dec_t q32)))
            refine ls_fr hF ?_
            refine ls_val (v := .slice A1_1 l1_1.length c1_1) rfl rfl (by kernel_rfl) (fun w => by kernel_rfl) ?_
            exact ls_fin s0 (.slice A1_1 l1_1.length c1_1) (congrArg (fun z => upd z 44 _) hF.symm) ⟨rfl, rfl⟩ (sub_nil _)
          obtain ⟨s11_21, hs11_21⟩ : ∃ z : Value → Sto → Prop, z = (fun v R => v = .agg ⟨([Value.int .i64 a0.1] ++ ([Value.int .i64 a0.2.1] ++ ([Value.int .i64 a0.2.2.1] ++ ([Value.int .u32 a0.2.2.2.1] ++ en (Value.int .u8) a0.2.2.2.2.1))))⟩ ∧ R = s0) := ⟨_, rfl⟩
          refine have_op (l := [_, _, _, _, _, _, _, _, _, _, _, _, _, _, _, _, _, _, _, _, _, _, _, _, _, _, _, _, _, _, _, _, _, _, _, _, _, _, _, _, _, _, _, _, _, _]) shadowboxlaw06_PointerTells.tab9 3 21 (fun sp => sp 21 = s11_21 ∧ sp 19 = s11_19) (fun sp on hA hon => ?_) (fun ops11_21 => ?_)
          · refine ⟨fun o ho vs Rs f' S' w hp hf hx hS hR hs => ?_⟩
            obtain rfl := Option.some.inj ho
            obtain ⟨hv19, hR19⟩ := (spe hA.2 hs11_19 (hp 19 (by kernel_rfl)))
            rw [hA.1, hs11_21]
            refine And.intro (fun a ha => (want_is (j := 19) (t := 43) (r := true) rfl rfl (by kernel_rfl) (((hf 19 43 (by kernel_rfl) rfl).trans hv19).trans (congrArg Value.bool (show (decide (t26 = t29)) = true from dec_t q32))) rfl a ha).trans hon.symm) (And.intro (fun _ => ?_) (fun h => by rw [hon] at h; cases h))
            have hF := fr_next (fr_next (rfl) ((hx 2 (by kernel_rfl)).trans (by kernel_rfl : (_ : Value) = .pointer (some ⟨g1, 0, none⟩)))) (((hf 19 43 (by kernel_rfl) rfl).trans hv19).trans (congrArg Value.bool (show (decide (t26 = t29)) = true from dec_t q32)))
            refine ls_fr hF ?_
            refine ls_loadagg (a := ⟨g1, 0, none⟩) (sub := ([Value.int .i64 a0.1] ++ ([Value.int .i64 a0.2.1] ++ ([Value.int .i64 a0.2.2.1] ++ ([Value.int .u32 a0.2.2.2.1] ++ en (Value.int .u8) a0.2.2.2.2.1))))) rfl rfl (by kernel_rfl) rfl (by kernel_rfl) (by kernel_rfl) (by kernel_rfl) (len_app (len1 _) (len_app (len1 _) (len_app (len1 _) (len_app (len1 _) (len_en _ a0.2.2.2.2))))) (fun w1 hs1 => Rd.step (hs.vars (k := 0) ((hS 0 (by kernel_rfl)).trans (by exact rfl)) (Sub4.all _)) hs1.below.bw) ?_
            exact ls_fin s0 (.agg ⟨([Value.int .i64 a0.1] ++ ([Value.int .i64 a0.2.1] ++ ([Value.int .i64 a0.2.2.1] ++ ([Value.int .u32 a0.2.2.2.1] ++ en (Value.int .u8) a0.2.2.2.2.1))))⟩) (congrArg (fun z => upd z 45 _) hF.symm) ⟨rfl, rfl⟩ (sub_nil _)
          obtain ⟨t33, hc34, H⟩ := bind_some H
          obtain ⟨s11_22, hs11_22⟩ : ∃ z : Value → Sto → Prop, z = (fun v R => ∃ x35 : (Option Addr × Nat), v = .slice x35.1 t33.length x35.2 ∧ R = stl [Ck.sl (Ec.int 5 .u8) x35.1 x35.2 t33]) := ⟨_, rfl⟩
          refine have_op (l := [_, _, _, _, _, _, _, _, _, _, _, _, _, _, _, _, _, _, _, _, _, _, _, _, _, _, _, _, _, _, _, _, _, _, _, _, _, _, _, _, _, _, _, _, _, _]) shadowboxlaw06_PointerTells.tab9 3 22 (fun sp => sp 22 = s11_22 ∧ sp 19 = s11_19 ∧ sp 20 = s11_20 ∧ sp 21 = s11_21) (fun sp on hA hon => ?_) (fun ops11_22 => ?_)
          · refine ⟨fun o ho vs Rs f' S' w hp hf hx hS hR hs => ?_⟩
            obtain rfl := Option.some.inj ho
            obtain ⟨hv19, hR19⟩ := (spe hA.2.1 hs11_19 (hp 19 (by kernel_rfl)))
            obtain ⟨hv20, hR20⟩ := (spe hA.2.2.1 hs11_20 (hp 20 (by kernel_rfl)))
            obtain ⟨hv21, hR21⟩ := (spe hA.2.2.2 hs11_21 (hp 21 (by kernel_rfl)))
            rw [hA.1, hs11_22]
            refine And.intro (fun a ha => (want_is (j := 19) (t := 43) (r := true) rfl rfl (by kernel_rfl) (((hf 19 43 (by kernel_rfl) rfl).trans hv19).trans (congrArg Value.bool (show (decide (t26 = t29)) = true from dec_t q32))) rfl a ha).trans hon.symm) (And.intro (fun _ => ?_) (fun h => by rw [hon] at h; cases h))
            have hF := fr_next (fr_next (fr_next (rfl) (((hf 19 43 (by kernel_rfl) rfl).trans hv19).trans (congrArg Value.bool (show (decide (t26 = t29)) = true from dec_t q32)))) ((hf 20 44 (by kernel_rfl) rfl).trans hv20)) ((hf 21 45 (by kernel_rfl) rfl).trans hv21)
            refine ls_fr hF ?_
            refine ls_call (fid := 18) (vals := #[.slice A1_1 l1_1.length c1_1, .agg ⟨([Value.int .i64 a0.1] ++ ([Value.int .i64 a0.2.1] ++ ([Value.int .i64 a0.2.2.1] ++ ([Value.int .u32 a0.2.2.2.1] ++ en (Value.int .u8) a0.2.2.2.2.1))))⟩]) (X := (Option Addr × Nat)) (fun x => .slice x.1 t33.length x.2) (fun x => stl [Ck.sl (Ec.int 5 .u8) x.1 x.2 t33]) 0 rfl rfl (by kernel_rfl) (fun w => by kernel_rfl) (fun w1 hs1 => pointer_Put.calls k A1_1 c1_1 l1_1 a0 t33 (bw w1) (St.refl w1) (Rd.ro (Rd.step (hs.old R1_1) hs1.below.bw)) C1_1 hc34) ?_
            intro x35
            exact ls_fin (stl [Ck.sl (Ec.int 5 .u8) x35.1 x35.2 t33]) (.slice x35.1 t33.length x35.2) (congrArg (fun z => upd z 46 _) hF.symm) ⟨x35, rfl, rfl⟩ (sub_join _)
          obtain ⟨s11_23, hs11_23⟩ : ∃ z : Value → Sto → Prop, z = (fun v R => v = .string (strOfNums t33) ∧ R = s0) := ⟨_, rfl⟩
          refine have_op (l := [_, _, _, _, _, _, _, _, _, _, _, _, _, _, _, _, _, _, _, _, _, _, _, _, _, _, _, _, _, _, _, _, _, _, _, _, _, _, _, _, _, _, _, _, _, _]) shadowboxlaw06_PointerTells.tab9 3 23 (fun sp => sp 23 = s11_23 ∧ sp 19 = s11_19 ∧ sp 22 = s11_22) (fun sp on hA hon => ?_) (fun ops11_23 => ?_)
          · refine ⟨fun o ho vs Rs f' S' w hp hf hx hS hR hs => ?_⟩
            obtain rfl := Option.some.inj ho
            obtain ⟨hv19, hR19⟩ := (spe hA.2.1 hs11_19 (hp 19 (by kernel_rfl)))
            obtain ⟨x35, hv22, hR22⟩ := (spe hA.2.2 hs11_22 (hp 22 (by kernel_rfl)))
            have hT22_0 := (hR 22 0 (by kernel_rfl) (by decide)).trans (congrFun hR22 0)
            rw [hA.1, hs11_23]
            refine And.intro (fun a ha => (want_is (j := 19) (t := 43) (r := true) rfl rfl (by kernel_rfl) (((hf 19 43 (by kernel_rfl) rfl).trans hv19).trans (congrArg Value.bool (show (decide (t26 = t29)) = true from dec_t q32))) rfl a ha).trans hon.symm) (And.intro (fun _ => ?_) (fun h => by rw [hon] at h; cases h))
            have hF := fr_next (fr_next (rfl) (((hf 19 43 (by kernel_rfl) rfl).trans hv19).trans (congrArg Value.bool (show (decide (t26 = t29)) = true from dec_t q32)))) ((hf 22 46 (by kernel_rfl) rfl).trans hv22)
            refine ls_fr hF ?_
            refine ls_str (A := x35.1) (c := x35.2) (e := 5) (l := t33) rfl rfl (by kernel_rfl) rfl (by kernel_rfl) (by kernel_rfl) (by kernel_rfl) (by kernel_rfl) (fun w1 hs1 => (Rd.step (hs.rd (k := 179) hT22_0) hs1.below.bw)) ?_
            exact ls_fin s0 (.string (strOfNums t33)) (congrArg (fun z => upd z 47 _) hF.symm) ⟨rfl, rfl⟩ (sub_nil _)
          obtain ⟨s11_24, hs11_24⟩ : ∃ z : Value → Sto → Prop, z = (fun v R => v = .slice A1_1 l1_1.length c1_1 ∧ R = s0) := ⟨_, rfl⟩
          refine have_op (l := [_, _, _, _, _, _, _, _, _, _, _, _, _, _, _, _, _, _, _, _, _, _, _, _, _, _, _, _, _, _, _, _, _, _, _, _, _, _, _, _, _, _, _, _, _, _]) shadowboxlaw06_PointerTells.tab9 3 24 (fun sp => sp 24 = s11_24 ∧ sp 19 = s11_19) (fun sp on hA hon => ?_) (fun ops11_24 => ?_)
          · refine ⟨fun o ho vs Rs f' S' w hp hf hx hS hR hs => ?_⟩
            obtain rfl := Option.some.inj ho
            obtain ⟨hv19, hR19⟩ := (spe hA.2 hs11_19 (hp 19 (by kernel_rfl)))
            rw [hA.1, hs11_24]
            refine And.intro (fun a ha => (want_is (j := 19) (t := 43) (r := true) rfl rfl (by kernel_rfl) (((hf 19 43 (by kernel_rfl) rfl).trans hv19).trans (congrArg Value.bool (show (decide (t26 = t29)) = true from dec_t q32))) rfl a ha).trans hon.symm) (And.intro (fun _ => ?_) (fun h => by rw [hon] at h; cases h))
            have hF := fr_next (fr_next (rfl) ((hx 1 (by kernel_rfl)).trans (by kernel_rfl : (_ : Value) = .slice A1_1 l1_1.length c1_1))) (((hf 19 43 (by kernel_rfl) rfl).trans hv19).trans (congrArg Value.bool (show (decide (t26 = t29)) = true from dec_t q32)))
            refine ls_fr hF ?_
            refine ls_val (v := .slice A1_1 l1_1.length c1_1) rfl rfl (by kernel_rfl) (fun w => by kernel_rfl) ?_
            exact ls_fin s0 (.slice A1_1 l1_1.length c1_1) (congrArg (fun z => upd z 48 _) hF.symm) ⟨rfl, rfl⟩ (sub_nil _)
          obtain ⟨s11_25, hs11_25⟩ : ∃ z : Value → Sto → Prop, z = (fun v R => v = .agg ⟨([Value.int .i64 a0.1] ++ ([Value.int .i64 a0.2.1] ++ ([Value.int .i64 a0.2.2.1] ++ ([Value.int .u32 a0.2.2.2.1] ++ en (Value.int .u8) a0.2.2.2.2.1))))⟩ ∧ R = s0) := ⟨_, rfl⟩
          refine have_op (l := [_, _, _, _, _, _, _, _, _, _, _, _, _, _, _, _, _, _, _, _, _, _, _, _, _, _, _, _, _, _, _, _, _, _, _, _, _, _, _, _, _, _, _, _, _, _]) shadowboxlaw06_PointerTells.tab9 3 25 (fun sp => sp 25 = s11_25 ∧ sp 19 = s11_19) (fun sp on hA hon => ?_) (fun ops11_25 => ?_)
          · refine ⟨fun o ho vs Rs f' S' w hp hf hx hS hR hs => ?_⟩
            obtain rfl := Option.some.inj ho
            obtain ⟨hv19, hR19⟩ := (spe hA.2 hs11_19 (hp 19 (by kernel_rfl)))
            rw [hA.1, hs11_25]
            refine And.intro (fun a ha => (want_is (j := 19) (t := 43) (r := true) rfl rfl (by kernel_rfl) (((hf 19 43 (by kernel_rfl) rfl).trans hv19).trans (congrArg Value.bool (show (decide (t26 = t29)) = true from dec_t q32))) rfl a ha).trans hon.symm) (And.intro (fun _ => ?_) (fun h => by rw [hon] at h; cases h))
            have hF := fr_next (fr_next (rfl) ((hx 2 (by kernel_rfl)).trans (by kernel_rfl : (_ : Value) = .pointer (some ⟨g1, 0, none⟩)))) (((hf 19 43 (by kernel_rfl) rfl).trans hv19).trans (congrArg Value.bool (show (decide (t26 = t29)) = true from dec_t q32)))
            refine ls_fr hF ?_
            refine ls_loadagg (a := ⟨g1, 0, none⟩) (sub := ([Value.int .i64 a0.1] ++ ([Value.int .i64 a0.2.1] ++ ([Value.int .i64 a0.2.2.1] ++ ([Value.int .u32 a0.2.2.2.1] ++ en (Value.int .u8) a0.2.2.2.2.1))))) rfl rfl (by kernel_rfl) rfl (by kernel_rfl) (by kernel_rfl) (by kernel_rfl) (len_app (len1 _) (len_app (len1 _) (len_app (len1 _) (len_app (len1 _) (len_en _ a0.2.2.2.2))))) (fun w1 hs1 => Rd.step (hs.vars (k := 0) ((hS 0 (by kernel_rfl)).trans (by exact rfl)) (Sub4.all _)) hs1.below.bw) ?_
            exact ls_fin s0 (.agg ⟨([Value.int .i64 a0.1] ++ ([Value.int .i64 a0.2.1] ++ ([Value.int .i64 a0.2.2.1] ++ ([Value.int .u32 a0.2.2.2.1] ++ en (Value.int .u8) a0.2.2.2.2.1))))⟩) (congrArg (fun z => upd z 49 _) hF.symm) ⟨rfl, rfl⟩ (sub_nil _)
          obtain ⟨t36, hc37, H⟩ := bind_some H
          obtain ⟨s11_26, hs11_26⟩ : ∃ z : Value → Sto → Prop, z = (fun v R => ∃ x38 : (Option Addr × Nat), v = .slice x38.1 t36.length x38.2 ∧ R = stl [Ck.sl (Ec.int 5 .u8) x38.1 x38.2 t36]) := ⟨_, rfl⟩
          refine have_op (l := [_, _, _, _, _, _, _, _, _, _, _, _, _, _, _, _, _, _, _, _, _, _, _, _, _, _, _, _, _, _, _, _, _, _, _, _, _, _, _, _, _, _, _, _, _, _]) shadowboxlaw06_PointerTells.tab9 3 26 (fun sp => sp 26 = s11_26 ∧ sp 19 = s11_19 ∧ sp 24 = s11_24 ∧ sp 25 = s11_25) (fun sp on hA hon => ?_) (fun ops11_26 => ?_)
          · refine ⟨fun o ho vs Rs f' S' w hp hf hx hS hR hs => ?_⟩
            obtain rfl := Option.some.inj ho
            obtain ⟨hv19, hR19⟩ := (spe hA.2.1 hs11_19 (hp 19 (by kernel_rfl)))
            obtain ⟨hv24, hR24⟩ := (spe hA.2.2.1 hs11_24 (hp 24 (by kernel_rfl)))
            obtain ⟨hv25, hR25⟩ := (spe hA.2.2.2 hs11_25 (hp 25 (by kernel_rfl)))
            rw [hA.1, hs11_26]
            refine And.intro (fun a ha => (want_is (j := 19) (t := 43) (r := true) rfl rfl (by kernel_rfl) (((hf 19 43 (by kernel_rfl) rfl).trans hv19).trans (congrArg Value.bool (show (decide (t26 = t29)) = true from dec_t q32))) rfl a ha).trans hon.symm) (And.intro (fun _ => ?_) (fun h => by rw [hon] at h; cases h))
            have hF := fr_next (fr_next (fr_next (rfl) (((hf 19 43 (by kernel_rfl) rfl).trans hv19).trans (congrArg Value.bool (show (decide (t26 = t29)) = true from dec_t q32)))) ((hf 24 48 (by kernel_rfl) rfl).trans hv24)) ((hf 25 49 (by kernel_rfl) rfl).trans hv25)
            refine ls_fr hF ?_
            refine ls_call (fid := 19) (vals := #[.slice A1_1 l1_1.length c1_1, .agg ⟨([Value.int .i64 a0.1] ++ ([Value.int .i64 a0.2.1] ++ ([Value.int .i64 a0.2.2.1] ++ ([Value.int .u32 a0.2.2.2.1] ++ en (Value.int .u8) a0.2.2.2.2.1))))⟩]) (X := (Option Addr × Nat)) (fun x => .slice x.1 t36.length x.2) (fun x => stl [Ck.sl (Ec.int 5 .u8) x.1 x.2 t36]) 0 rfl rfl (by kernel_rfl) (fun w => by kernel_rfl) (fun w1 hs1 => shadowboxref06_Put.calls k A1_1 c1_1 l1_1 a0 t36 (bw w1) (St.refl w1) (Rd.ro (Rd.step (hs.old R1_1) hs1.below.bw)) C1_1 hc37) ?_
            intro x38
            exact ls_fin (stl [Ck.sl (Ec.int 5 .u8) x38.1 x38.2 t36]) (.slice x38.1 t36.length x38.2) (congrArg (fun z => upd z 50 _) hF.symm) ⟨x38, rfl, rfl⟩ (sub_join _)
          obtain ⟨s11_27, hs11_27⟩ : ∃ z : Value → Sto → Prop, z = (fun v R => v = .string (strOfNums t36) ∧ R = s0) := ⟨_, rfl⟩
          refine have_op (l := [_, _, _, _, _, _, _, _, _, _, _, _, _, _, _, _, _, _, _, _, _, _, _, _, _, _, _, _, _, _, _, _, _, _, _, _, _, _, _, _, _, _, _, _, _, _]) shadowboxlaw06_PointerTells.tab9 3 27 (fun sp => sp 27 = s11_27 ∧ sp 19 = s11_19 ∧ sp 26 = s11_26) (fun sp on hA hon => ?_) (fun ops11_27 => ?_)
          · refine ⟨fun o ho vs Rs f' S' w hp hf hx hS hR hs => ?_⟩
            obtain rfl := Option.some.inj ho
            obtain ⟨hv19, hR19⟩ := (spe hA.2.1 hs11_19 (hp 19 (by kernel_rfl)))
            obtain ⟨x38, hv26, hR26⟩ := (spe hA.2.2 hs11_26 (hp 26 (by kernel_rfl)))
            have hT26_0 := (hR 26 0 (by kernel_rfl) (by decide)).trans (congrFun hR26 0)
            rw [hA.1, hs11_27]
            refine And.intro (fun a ha => (want_is (j := 19) (t := 43) (r := true) rfl rfl (by kernel_rfl) (((hf 19 43 (by kernel_rfl) rfl).trans hv19).trans (congrArg Value.bool (show (decide (t26 = t29)) = true from dec_t q32))) rfl a ha).trans hon.symm) (And.intro (fun _ => ?_) (fun h => by rw [hon] at h; cases h))
            have hF := fr_next (fr_next (rfl) (((hf 19 43 (by kernel_rfl) rfl).trans hv19).trans (congrArg Value.bool (show (decide (t26 = t29)) = true from dec_t q32)))) ((hf 26 50 (by kernel_rfl) rfl).trans hv26)
            refine ls_fr hF ?_
            refine ls_str (A := x38.1) (c := x38.2) (e := 5) (l := t36) rfl rfl (by kernel_rfl) rfl (by kernel_rfl) (by kernel_rfl) (by kernel_rfl) (by kernel_rfl) (fun w1 hs1 => (Rd.step (hs.rd (k := 211) hT26_0) hs1.below.bw)) ?_
            exact ls_fin s0 (.string (strOfNums t36)) (congrArg (fun z => upd z 51 _) hF.symm) ⟨rfl, rfl⟩ (sub_nil _)
          obtain ⟨s11_28, hs11_28⟩ : ∃ z : Value → Sto → Prop, z = (fun v R => v = .bool ((strOfNums t33).toList == (strOfNums t36).toList) ∧ R = s0) := ⟨_, rfl⟩
          refine have_op (l := [_, _, _, _, _, _, _, _, _, _, _, _, _, _, _, _, _, _, _, _, _, _, _, _, _, _, _, _, _, _, _, _, _, _, _, _, _, _, _, _, _, _, _, _, _, _]) shadowboxlaw06_PointerTells.tab9 3 28 (fun sp => sp 28 = s11_28 ∧ sp 19 = s11_19 ∧ sp 23 = s11_23 ∧ sp 27 = s11_27) (fun sp on hA hon => ?_) (fun ops11_28 => ?_)
          · refine ⟨fun o ho vs Rs f' S' w hp hf hx hS hR hs => ?_⟩
            obtain rfl := Option.some.inj ho
            obtain ⟨hv19, hR19⟩ := (spe hA.2.1 hs11_19 (hp 19 (by kernel_rfl)))
            obtain ⟨hv23, hR23⟩ := (spe hA.2.2.1 hs11_23 (hp 23 (by kernel_rfl)))
            obtain ⟨hv27, hR27⟩ := (spe hA.2.2.2 hs11_27 (hp 27 (by kernel_rfl)))
            rw [hA.1, hs11_28]
            refine And.intro (fun a ha => (want_is (j := 19) (t := 43) (r := true) rfl rfl (by kernel_rfl) (((hf 19 43 (by kernel_rfl) rfl).trans hv19).trans (congrArg Value.bool (show (decide (t26 = t29)) = true from dec_t q32))) rfl a ha).trans hon.symm) (And.intro (fun _ => ?_) (fun h => by rw [hon] at h; cases h))
            have hF := fr_next (fr_next (fr_next (rfl) (((hf 19 43 (by kernel_rfl) rfl).trans hv19).trans (congrArg Value.bool (show (decide (t26 = t29)) = true from dec_t q32)))) ((hf 23 47 (by kernel_rfl) rfl).trans hv23)) ((hf 27 51 (by kernel_rfl) rfl).trans hv27)
            refine ls_fr hF ?_
            refine ls_val (v := .bool ((strOfNums t33).toList == (strOfNums t36).toList)) rfl rfl (by kernel_rfl) (fun w => by kernel_rfl) ?_
            exact ls_fin s0 (.bool ((strOfNums t33).toList == (strOfNums t36).toList)) (congrArg (fun z => upd z 52 _) hF.symm) ⟨rfl, rfl⟩ (sub_nil _)
          obtain ⟨s11_29, hs11_29⟩ : ∃ z : Value → Sto → Prop, z = (fun v R => v = .bool ((strOfNums t33).toList == (strOfNums t36).toList) ∧ R = s0) := ⟨_, rfl⟩
          refine have_op (l := [_, _, _, _, _, _, _, _, _, _, _, _, _, _, _, _, _, _, _, _, _, _, _, _, _, _, _, _, _, _, _, _, _, _, _, _, _, _, _, _, _, _, _, _, _, _]) shadowboxlaw06_PointerTells.tab9 3 29 (fun sp => sp 29 = s11_29 ∧ sp 19 = s11_19 ∧ sp 28 = s11_28) (fun sp on hA hon => ?_) (fun ops11_29 => ?_)
          · refine ⟨fun o ho vs Rs f' S' w hp hf hx hS hR hs => ?_⟩
            obtain rfl := Option.some.inj ho
            obtain ⟨hv19, hR19⟩ := (spe hA.2.1 hs11_19 (hp 19 (by kernel_rfl)))
            obtain ⟨hv28, hR28⟩ := (spe hA.2.2 hs11_28 (hp 28 (by kernel_rfl)))
            rw [hA.1, hs11_29]
            refine And.intro (fun a ha => (want_none rfl a ha).trans hon.symm) (And.intro (fun _ => ?_) (fun h => by rw [hon] at h; cases h))
            have hF := fr_next (fr_next (rfl) (((hf 19 43 (by kernel_rfl) rfl).trans hv19).trans (congrArg Value.bool (show (decide (t26 = t29)) = true from dec_t q32)))) ((hf 28 52 (by kernel_rfl) rfl).trans hv28)
            refine ls_fr hF ?_
            refine ls_val (v := .bool ((strOfNums t33).toList == (strOfNums t36).toList)) rfl rfl (by kernel_rfl) (fun w => by kernel_rfl) ?_
            exact ls_fin s0 (.bool ((strOfNums t33).toList == (strOfNums t36).toList)) (congrArg (fun z => upd z 53 _) hF.symm) ⟨rfl, rfl⟩ (sub_nil _)
          obtain ⟨s11_30, hs11_30⟩ : ∃ z : Value → Sto → Prop, z = (fun v R => v = .bool ((strOfNums t33).toList == (strOfNums t36).toList) ∧ R = s0) := ⟨_, rfl⟩
          refine have_op (l := [_, _, _, _, _, _, _, _, _, _, _, _, _, _, _, _, _, _, _, _, _, _, _, _, _, _, _, _, _, _, _, _, _, _, _, _, _, _, _, _, _, _, _, _, _, _]) shadowboxlaw06_PointerTells.tab9 3 30 (fun sp => sp 30 = s11_30 ∧ sp 29 = s11_29) (fun sp on hA hon => ?_) (fun ops11_30 => ?_)
          · refine ⟨fun o ho vs Rs f' S' w hp hf hx hS hR hs => ?_⟩
            obtain rfl := Option.some.inj ho
            obtain ⟨hv29, hR29⟩ := (spe hA.2 hs11_29 (hp 29 (by kernel_rfl)))
            rw [hA.1, hs11_30]
            refine And.intro (fun a ha => (want_none rfl a ha).trans hon.symm) (And.intro (fun _ => ?_) (fun h => by rw [hon] at h; cases h))
            have hF := fr_next (rfl) ((hf 29 53 (by kernel_rfl) rfl).trans hv29)
            refine ls_fr hF ?_
            refine ls_val (v := .bool ((strOfNums t33).toList == (strOfNums t36).toList)) rfl rfl (by kernel_rfl) (fun w => by kernel_rfl) ?_
            exact ls_fin s0 (.bool ((strOfNums t33).toList == (strOfNums t36).toList)) (congrArg (fun z => upd z 54 _) hF.symm) ⟨rfl, rfl⟩ (sub_nil _)
          by_cases q39 : ((strOfNums t33).toList == (strOfNums t36).toList) = true
          · replace H := ite_t q39 H
            obtain ⟨s11_31, hs11_31⟩ : ∃ z : Value → Sto → Prop, z = (fun v R => v = .agg ⟨([Value.int .i64 t2.1.1] ++ ([Value.int .i64 t2.1.2.1] ++ ([Value.int .i64 t2.1.2.2.1] ++ ([Value.int .u32 t2.1.2.2.2.1] ++ en (Value.int .u8) t2.1.2.2.2.2.1))))⟩ ∧ R = s0) := ⟨_, rfl⟩
            refine have_op (l := [_, _, _, _, _, _, _, _, _, _, _, _, _, _, _, _, _, _, _, _, _, _, _, _, _, _, _, _, _, _, _, _, _, _, _, _, _, _, _, _, _, _, _, _, _, _]) shadowboxlaw06_PointerTells.tab9 3 31 (fun sp => sp 31 = s11_31 ∧ sp 30 = s11_30) (fun sp on hA hon => ?_) (fun ops11_31 => ?_)
            · refine ⟨fun o ho vs Rs f' S' w hp hf hx hS hR hs => ?_⟩
              obtain rfl := Option.some.inj ho
              obtain ⟨hv30, hR30⟩ := (spe hA.2 hs11_30 (hp 30 (by kernel_rfl)))
              rw [hA.1, hs11_31]
              refine And.intro (fun a ha => (want_is (j := 30) (t := 54) (r := true) rfl rfl (by kernel_rfl) (((hf 30 54 (by kernel_rfl) rfl).trans hv30).trans (congrArg Value.bool (show ((strOfNums t33).toList == (strOfNums t36).toList) = true from q39))) rfl a ha).trans hon.symm) (And.intro (fun _ => ?_) (fun h => by rw [hon] at h; cases h))
              have hF := fr_next (fr_next (rfl) ((hx 5 (by kernel_rfl)).trans (by kernel_rfl : (_ : Value) = .pointer (some ⟨g5, 0, none⟩)))) (((hf 30 54 (by kernel_rfl) rfl).trans hv30).trans (congrArg Value.bool (show ((strOfNums t33).toList == (strOfNums t36).toList) = true from q39)))
              refine ls_fr hF ?_
              refine ls_loadagg (a := ⟨g5, 0, none⟩) (sub := ([Value.int .i64 t2.1.1] ++ ([Value.int .i64 t2.1.2.1] ++ ([Value.int .i64 t2.1.2.2.1] ++ ([Value.int .u32 t2.1.2.2.2.1] ++ en (Value.int .u8) t2.1.2.2.2.2.1))))) rfl rfl (by kernel_rfl) rfl (by kernel_rfl) (by kernel_rfl) (by kernel_rfl) (len_app (len1 _) (len_app (len1 _) (len_app (len1 _) (len_app (len1 _) (len_en _ t2.1.2.2.2.2))))) (fun w1 hs1 => Rd.step (hs.vars (k := 1) ((hS 1 (by kernel_rfl)).trans (by exact rfl)) (Sub4.all _)) hs1.below.bw) ?_
              exact ls_fin s0 (.agg ⟨([Value.int .i64 t2.1.1] ++ ([Value.int .i64 t2.1.2.1] ++ ([Value.int .i64 t2.1.2.2.1] ++ ([Value.int .u32 t2.1.2.2.2.1] ++ en (Value.int .u8) t2.1.2.2.2.2.1))))⟩) (congrArg (fun z => upd z 55 _) hF.symm) ⟨rfl, rfl⟩ (sub_nil _)
            obtain ⟨s11_32, hs11_32⟩ : ∃ z : Value → Sto → Prop, z = (fun v R => v = .agg ⟨([Value.int .i64 t6.1.1] ++ ([Value.int .i64 t6.1.2.1] ++ ([Value.int .i64 t6.1.2.2.1] ++ ([Value.int .u32 t6.1.2.2.2.1] ++ en (Value.int .u8) t6.1.2.2.2.2.1))))⟩ ∧ R = s0) := ⟨_, rfl⟩
            refine have_op (l := [_, _, _, _, _, _, _, _, _, _, _, _, _, _, _, _, _, _, _, _, _, _, _, _, _, _, _, _, _, _, _, _, _, _, _, _, _, _, _, _, _, _, _, _, _, _]) shadowboxlaw06_PointerTells.tab9 3 32 (fun sp => sp 32 = s11_32 ∧ sp 30 = s11_30) (fun sp on hA hon => ?_) (fun ops11_32 => ?_)
            · refine ⟨fun o ho vs Rs f' S' w hp hf hx hS hR hs => ?_⟩
              obtain rfl := Option.some.inj ho
              obtain ⟨hv30, hR30⟩ := (spe hA.2 hs11_30 (hp 30 (by kernel_rfl)))
              rw [hA.1, hs11_32]
              refine And.intro (fun a ha => (want_is (j := 30) (t := 54) (r := true) rfl rfl (by kernel_rfl) (((hf 30 54 (by kernel_rfl) rfl).trans hv30).trans (congrArg Value.bool (show ((strOfNums t33).toList == (strOfNums t36).toList) = true from q39))) rfl a ha).trans hon.symm) (And.intro (fun _ => ?_) (fun h => by rw [hon] at h; cases h))
              have hF := fr_next (fr_next (rfl) ((hx 7 (by kernel_rfl)).trans (by kernel_rfl : (_ : Value) = .pointer (some ⟨g9, 0, none⟩)))) (((hf 30 54 (by kernel_rfl) rfl).trans hv30).trans (congrArg Value.bool (show ((strOfNums t33).toList == (strOfNums t36).toList) = true from q39)))
              refine ls_fr hF ?_
              refine ls_loadagg (a := ⟨g9, 0, none⟩) (sub := ([Value.int .i64 t6.1.1] ++ ([Value.int .i64 t6.1.2.1] ++ ([Value.int .i64 t6.1.2.2.1] ++ ([Value.int .u32 t6.1.2.2.2.1] ++ en (Value.int .u8) t6.1.2.2.2.2.1))))) rfl rfl (by kernel_rfl) rfl (by kernel_rfl) (by kernel_rfl) (by kernel_rfl) (len_app (len1 _) (len_app (len1 _) (len_app (len1 _) (len_app (len1 _) (len_en _ t6.1.2.2.2.2))))) (fun w1 hs1 => Rd.step (hs.vars (k := 2) ((hS 2 (by kernel_rfl)).trans (by exact rfl)) (Sub4.all _)) hs1.below.bw) ?_
              exact ls_fin s0 (.agg ⟨([Value.int .i64 t6.1.1] ++ ([Value.int .i64 t6.1.2.1] ++ ([Value.int .i64 t6.1.2.2.1] ++ ([Value.int .u32 t6.1.2.2.2.1] ++ en (Value.int .u8) t6.1.2.2.2.2.1))))⟩) (congrArg (fun z => upd z 56 _) hF.symm) ⟨rfl, rfl⟩ (sub_nil _)
            obtain ⟨s11_33, hs11_33⟩ : ∃ z : Value → Sto → Prop, z = (fun v R => v = .bool ((t2.1.1 == t6.1.1) && ((t2.1.2.1 == t6.1.2.1) && ((t2.1.2.2.1 == t6.1.2.2.1) && ((t2.1.2.2.2.1 == t6.1.2.2.2.1) && (t2.1.2.2.2.2.1 == t6.1.2.2.2.2.1))))) ∧ R = s0) := ⟨_, rfl⟩
            refine have_op (l := [_, _, _, _, _, _, _, _, _, _, _, _, _, _, _, _, _, _, _, _, _, _, _, _, _, _, _, _, _, _, _, _, _, _, _, _, _, _, _, _, _, _, _, _, _, _]) shadowboxlaw06_PointerTells.tab9 3 33 (fun sp => sp 33 = s11_33 ∧ sp 30 = s11_30 ∧ sp 31 = s11_31 ∧ sp 32 = s11_32) (fun sp on hA hon => ?_) (fun ops11_33 => ?_)
            · refine ⟨fun o ho vs Rs f' S' w hp hf hx hS hR hs => ?_⟩
              obtain rfl := Option.some.inj ho
              obtain ⟨hv30, hR30⟩ := (spe hA.2.1 hs11_30 (hp 30 (by kernel_rfl)))
              obtain ⟨hv31, hR31⟩ := (spe hA.2.2.1 hs11_31 (hp 31 (by kernel_rfl)))
              obtain ⟨hv32, hR32⟩ := (spe hA.2.2.2 hs11_32 (hp 32 (by kernel_rfl)))
              rw [hA.1, hs11_33]
              refine And.intro (fun a ha => (want_is (j := 30) (t := 54) (r := true) rfl rfl (by kernel_rfl) (((hf 30 54 (by kernel_rfl) rfl).trans hv30).trans (congrArg Value.bool (show ((strOfNums t33).toList == (strOfNums t36).toList) = true from q39))) rfl a ha).trans hon.symm) (And.intro (fun _ => ?_) (fun h => by rw [hon] at h; cases h))
              have hF := fr_next (fr_next (fr_next (rfl) (((hf 30 54 (by kernel_rfl) rfl).trans hv30).trans (congrArg Value.bool (show ((strOfNums t33).toList == (strOfNums t36).toList) = true from q39)))) ((hf 31 55 (by kernel_rfl) rfl).trans hv31)) ((hf 32 56 (by kernel_rfl) rfl).trans hv32)
              refine ls_fr hF ?_
              refine ls_eql (xs := ([Value.int .i64 t2.1.1] ++ ([Value.int .i64 t2.1.2.1] ++ ([Value.int .i64 t2.1.2.2.1] ++ ([Value.int .u32 t2.1.2.2.2.1] ++ en (Value.int .u8) t2.1.2.2.2.2.1))))) (ys := ([Value.int .i64 t6.1.1] ++ ([Value.int .i64 t6.1.2.1] ++ ([Value.int .i64 t6.1.2.2.1] ++ ([Value.int .u32 t6.1.2.2.2.1] ++ en (Value.int .u8) t6.1.2.2.2.2.1))))) (r := ((t2.1.1 == t6.1.1) && ((t2.1.2.1 == t6.1.2.1) && ((t2.1.2.2.1 == t6.1.2.2.1) && ((t2.1.2.2.2.1 == t6.1.2.2.2.1) && (t2.1.2.2.2.2.1 == t6.1.2.2.2.2.1)))))) rfl rfl (by kernel_rfl) rfl (by kernel_rfl) (by kernel_rfl) (by kernel_rfl) (eq_st (by kernel_rfl) (by kernel_rfl) (eqf_cons (ft := 3) (fo := 0) (by kernel_rfl) (part_one (by kernel_rfl) (Sub4.trans (Sub4.all _) (Sub4.head _ _))) (part_one (by kernel_rfl) (Sub4.trans (Sub4.all _) (Sub4.head _ _))) (eq_int (by kernel_rfl) _ _ _) (eqf_cons (ft := 3) (fo := 1) (by kernel_rfl) (part_one (by kernel_rfl) (Sub4.trans (Sub4.all _) (Sub4.skip (n := 1) (len1 _) (Sub4.head _ _)))) (part_one (by kernel_rfl) (Sub4.trans (Sub4.all _) (Sub4.skip (n := 1) (len1 _) (Sub4.head _ _)))) (eq_int (by kernel_rfl) _ _ _) (eqf_cons (ft := 3) (fo := 2) (by kernel_rfl) (part_one (by kernel_rfl) (Sub4.trans (Sub4.all _) (Sub4.skip (n := 1) (len1 _) (Sub4.skip (n := 1) (len1 _) (Sub4.head _ _))))) (part_one (by kernel_rfl) (Sub4.trans (Sub4.all _) (Sub4.skip (n := 1) (len1 _) (Sub4.skip (n := 1) (len1 _) (Sub4.head _ _))))) (eq_int (by kernel_rfl) _ _ _) (eqf_cons (ft := 22) (fo := 3) (by kernel_rfl) (part_one (by kernel_rfl) (Sub4.trans (Sub4.all _) (Sub4.skip (n := 1) (len1 _) (Sub4.skip (n := 1) (len1 _) (Sub4.skip (n := 1) (len1 _) (Sub4.head _ _)))))) (part_one (by kernel_rfl) (Sub4.trans (Sub4.all _) (Sub4.skip (n := 1) (len1 _) (Sub4.skip (n := 1) (len1 _) (Sub4.skip (n := 1) (len1 _) (Sub4.head _ _)))))) (eq_int (by kernel_rfl) _ _ _) (eqf_last (ft := 23) (fo := 4) (by kernel_rfl) (part_agg (by kernel_rfl) (by kernel_rfl) (len_en _ t2.1.2.2.2.2) (Sub4.trans (Sub4.all _) (Sub4.skip (n := 1) (len1 _) (Sub4.skip (n := 1) (len1 _) (Sub4.skip (n := 1) (len1 _) (Sub4.skip (n := 1) (len1 _) (Sub4.all _))))))) (part_agg (by kernel_rfl) (by kernel_rfl) (len_en _ t6.1.2.2.2.2) (Sub4.trans (Sub4.all _) (Sub4.skip (n := 1) (len1 _) (Sub4.skip (n := 1) (len1 _) (Sub4.skip (n := 1) (len1 _) (Sub4.skip (n := 1) (len1 _) (Sub4.all _))))))) (eq_ints (e := 5) (ln := 32) (by kernel_rfl) (by kernel_rfl) (by kernel_rfl) t2.1.2.2.2.2.2 t6.1.2.2.2.2.2 _) (by kernel_rfl))))))) ?_
              exact ls_fin s0 (.bool ((t2.1.1 == t6.1.1) && ((t2.1.2.1 == t6.1.2.1) && ((t2.1.2.2.1 == t6.1.2.2.1) && ((t2.1.2.2.2.1 == t6.1.2.2.2.1) && (t2.1.2.2.2.2.1 == t6.1.2.2.2.2.1)))))) (congrArg (fun z => upd z 57 _) hF.symm) ⟨rfl, rfl⟩ (sub_nil _)
            obtain ⟨s11_34, hs11_34⟩ : ∃ z : Value → Sto → Prop, z = (fun v R => v = .bool ((t2.1.1 == t6.1.1) && ((t2.1.2.1 == t6.1.2.1) && ((t2.1.2.2.1 == t6.1.2.2.1) && ((t2.1.2.2.2.1 == t6.1.2.2.2.1) && (t2.1.2.2.2.2.1 == t6.1.2.2.2.2.1))))) ∧ R = s0) := ⟨_, rfl⟩
            refine have_op (l := [_, _, _, _, _, _, _, _, _, _, _, _, _, _, _, _, _, _, _, _, _, _, _, _, _, _, _, _, _, _, _, _, _, _, _, _, _, _, _, _, _, _, _, _, _, _]) shadowboxlaw06_PointerTells.tab9 3 34 (fun sp => sp 34 = s11_34 ∧ sp 30 = s11_30 ∧ sp 33 = s11_33) (fun sp on hA hon => ?_) (fun ops11_34 => ?_)
            · refine ⟨fun o ho vs Rs f' S' w hp hf hx hS hR hs => ?_⟩
              obtain rfl := Option.some.inj ho
              obtain ⟨hv30, hR30⟩ := (spe hA.2.1 hs11_30 (hp 30 (by kernel_rfl)))
              obtain ⟨hv33, hR33⟩ := (spe hA.2.2 hs11_33 (hp 33 (by kernel_rfl)))
              rw [hA.1, hs11_34]
              refine And.intro (fun a ha => (want_none rfl a ha).trans hon.symm) (And.intro (fun _ => ?_) (fun h => by rw [hon] at h; cases h))
              have hF := fr_next (fr_next (rfl) (((hf 30 54 (by kernel_rfl) rfl).trans hv30).trans (congrArg Value.bool (show ((strOfNums t33).toList == (strOfNums t36).toList) = true from q39)))) ((hf 33 57 (by kernel_rfl) rfl).trans hv33)
              refine ls_fr hF ?_
              refine ls_val (v := .bool ((t2.1.1 == t6.1.1) && ((t2.1.2.1 == t6.1.2.1) && ((t2.1.2.2.1 == t6.1.2.2.1) && ((t2.1.2.2.2.1 == t6.1.2.2.2.1) && (t2.1.2.2.2.2.1 == t6.1.2.2.2.2.1)))))) rfl rfl (by kernel_rfl) (fun w => by kernel_rfl) ?_
              exact ls_fin s0 (.bool ((t2.1.1 == t6.1.1) && ((t2.1.2.1 == t6.1.2.1) && ((t2.1.2.2.1 == t6.1.2.2.1) && ((t2.1.2.2.2.1 == t6.1.2.2.2.1) && (t2.1.2.2.2.2.1 == t6.1.2.2.2.2.1)))))) (congrArg (fun z => upd z 58 _) hF.symm) ⟨rfl, rfl⟩ (sub_nil _)
            obtain ⟨s11_35, hs11_35⟩ : ∃ z : Value → Sto → Prop, z = (fun v R => v = .bool ((t2.1.1 == t6.1.1) && ((t2.1.2.1 == t6.1.2.1) && ((t2.1.2.2.1 == t6.1.2.2.1) && ((t2.1.2.2.2.1 == t6.1.2.2.2.1) && (t2.1.2.2.2.2.1 == t6.1.2.2.2.2.1))))) ∧ R = s0) := ⟨_, rfl⟩
            refine have_op (l := [_, _, _, _, _, _, _, _, _, _, _, _, _, _, _, _, _, _, _, _, _, _, _, _, _, _, _, _, _, _, _, _, _, _, _, _, _, _, _, _, _, _, _, _, _, _]) shadowboxlaw06_PointerTells.tab9 3 35 (fun sp => sp 35 = s11_35 ∧ sp 34 = s11_34) (fun sp on hA hon => ?_) (fun ops11_35 => ?_)
            · refine ⟨fun o ho vs Rs f' S' w hp hf hx hS hR hs => ?_⟩
              obtain rfl := Option.some.inj ho
              obtain ⟨hv34, hR34⟩ := (spe hA.2 hs11_34 (hp 34 (by kernel_rfl)))
              rw [hA.1, hs11_35]
              refine And.intro (fun a ha => (want_none rfl a ha).trans hon.symm) (And.intro (fun _ => ?_) (fun h => by rw [hon] at h; cases h))
              have hF := fr_next (rfl) ((hf 34 58 (by kernel_rfl) rfl).trans hv34)
              refine ls_fr hF ?_
              refine ls_val (v := .bool ((t2.1.1 == t6.1.1) && ((t2.1.2.1 == t6.1.2.1) && ((t2.1.2.2.1 == t6.1.2.2.1) && ((t2.1.2.2.2.1 == t6.1.2.2.2.1) && (t2.1.2.2.2.2.1 == t6.1.2.2.2.2.1)))))) rfl rfl (by kernel_rfl) (fun w => by kernel_rfl) ?_
              exact ls_fin s0 (.bool ((t2.1.1 == t6.1.1) && ((t2.1.2.1 == t6.1.2.1) && ((t2.1.2.2.1 == t6.1.2.2.1) && ((t2.1.2.2.2.1 == t6.1.2.2.2.1) && (t2.1.2.2.2.2.1 == t6.1.2.2.2.2.1)))))) (congrArg (fun z => upd z 59 _) hF.symm) ⟨rfl, rfl⟩ (sub_nil _)
            by_cases q40 : ((t2.1.1 == t6.1.1) && ((t2.1.2.1 == t6.1.2.1) && ((t2.1.2.2.1 == t6.1.2.2.1) && ((t2.1.2.2.2.1 == t6.1.2.2.2.1) && (t2.1.2.2.2.2.1 == t6.1.2.2.2.2.1))))) = true
            · replace H := ite_t q40 H
              obtain ⟨s11_36, hs11_36⟩ : ∃ z : Value → Sto → Prop, z = (fun v R => v = .int .i64 t2.2 ∧ R = s0) := ⟨_, rfl⟩
              refine have_op (l := [_, _, _, _, _, _, _, _, _, _, _, _, _, _, _, _, _, _, _, _, _, _, _, _, _, _, _, _, _, _, _, _, _, _, _, _, _, _, _, _, _, _, _, _, _, _]) shadowboxlaw06_PointerTells.tab9 3 36 (fun sp => sp 36 = s11_36 ∧ sp 35 = s11_35) (fun sp on hA hon => ?_) (fun ops11_36 => ?_)
              · refine ⟨fun o ho vs Rs f' S' w hp hf hx hS hR hs => ?_⟩
                obtain rfl := Option.some.inj ho
                obtain ⟨hv35, hR35⟩ := (spe hA.2 hs11_35 (hp 35 (by kernel_rfl)))
                rw [hA.1, hs11_36]
                refine And.intro (fun a ha => (want_is (j := 35) (t := 59) (r := true) rfl rfl (by kernel_rfl) (((hf 35 59 (by kernel_rfl) rfl).trans hv35).trans (congrArg Value.bool (show ((t2.1.1 == t6.1.1) && ((t2.1.2.1 == t6.1.2.1) && ((t2.1.2.2.1 == t6.1.2.2.1) && ((t2.1.2.2.2.1 == t6.1.2.2.2.1) && (t2.1.2.2.2.2.1 == t6.1.2.2.2.2.1))))) = true from q40))) rfl a ha).trans hon.symm) (And.intro (fun _ => ?_) (fun h => by rw [hon] at h; cases h))
                have hF := fr_next (fr_next (rfl) ((hx 6 (by kernel_rfl)).trans (by kernel_rfl : (_ : Value) = .int .i64 t2.2))) (((hf 35 59 (by kernel_rfl) rfl).trans hv35).trans (congrArg Value.bool (show ((t2.1.1 == t6.1.1) && ((t2.1.2.1 == t6.1.2.1) && ((t2.1.2.2.1 == t6.1.2.2.1) && ((t2.1.2.2.2.1 == t6.1.2.2.2.1) && (t2.1.2.2.2.2.1 == t6.1.2.2.2.2.1))))) = true from q40)))
                refine ls_fr hF ?_
                refine ls_val (v := .int .i64 t2.2) rfl rfl (by kernel_rfl) (fun w => by kernel_rfl) ?_
                exact ls_fin s0 (.int .i64 t2.2) (congrArg (fun z => upd z 60 _) hF.symm) ⟨rfl, rfl⟩ (sub_nil _)
              obtain ⟨s11_37, hs11_37⟩ : ∃ z : Value → Sto → Prop, z = (fun v R => v = .int .i64 t6.2 ∧ R = s0) := ⟨_, rfl⟩
              refine have_op (l := [_, _, _, _, _, _, _, _, _, _, _, _, _, _, _, _, _, _, _, _, _, _, _, _, _, _, _, _, _, _, _, _, _, _, _, _, _, _, _, _, _, _, _, _, _, _]) shadowboxlaw06_PointerTells.tab9 3 37 (fun sp => sp 37 = s11_37 ∧ sp 35 = s11_35) (fun sp on hA hon => ?_) (fun ops11_37 => ?_)
              · refine ⟨fun o ho vs Rs f' S' w hp hf hx hS hR hs => ?_⟩
                obtain rfl := Option.some.inj ho
                obtain ⟨hv35, hR35⟩ := (spe hA.2 hs11_35 (hp 35 (by kernel_rfl)))
                rw [hA.1, hs11_37]
                refine And.intro (fun a ha => (want_is (j := 35) (t := 59) (r := true) rfl rfl (by kernel_rfl) (((hf 35 59 (by kernel_rfl) rfl).trans hv35).trans (congrArg Value.bool (show ((t2.1.1 == t6.1.1) && ((t2.1.2.1 == t6.1.2.1) && ((t2.1.2.2.1 == t6.1.2.2.1) && ((t2.1.2.2.2.1 == t6.1.2.2.2.1) && (t2.1.2.2.2.2.1 == t6.1.2.2.2.2.1))))) = true from q40))) rfl a ha).trans hon.symm) (And.intro (fun _ => ?_) (fun h => by rw [hon] at h; cases h))
                have hF := fr_next (fr_next (rfl) ((hx 8 (by kernel_rfl)).trans (by kernel_rfl : (_ : Value) = .int .i64 t6.2))) (((hf 35 59 (by kernel_rfl) rfl).trans hv35).trans (congrArg Value.bool (show ((t2.1.1 == t6.1.1) && ((t2.1.2.1 == t6.1.2.1) && ((t2.1.2.2.1 == t6.1.2.2.1) && ((t2.1.2.2.2.1 == t6.1.2.2.2.1) && (t2.1.2.2.2.2.1 == t6.1.2.2.2.2.1))))) = true from q40)))
                refine ls_fr hF ?_
                refine ls_val (v := .int .i64 t6.2) rfl rfl (by kernel_rfl) (fun w => by kernel_rfl) ?_
                exact ls_fin s0 (.int .i64 t6.2) (congrArg (fun z => upd z 61 _) hF.symm) ⟨rfl, rfl⟩ (sub_nil _)
              refine cs_draw shadowboxlaw06_PointerTells.tab9 38 3 (spl [s11_0, s11_1, s11_2, s11_3, s11_4, s11_5, s11_6, s11_7, s11_8, s11_9, s11_10, s11_11, s11_12, s11_13, s11_14, s11_15, s11_16, s11_17, s11_18, s11_19, s11_20, s11_21, s11_22, s11_23, s11_24, s11_25, s11_26, s11_27, s11_28, s11_29, s11_30, s11_31, s11_32, s11_33, s11_34, s11_35, s11_36, s11_37]) (onl [true, true, true, true, true, true, true, true, true, true, true, true, true, true, true, true, true, true, true, true, true, true, true, true, true, true, true, true, true, true, true, true, true, true, true, true, true, true]) (by kernel_rfl) (by kernel_rfl) (by kernel_rfl) (by kernel_rfl) (rs := [_, _, _, _, _, _, _, _]) rfl (by kernel_rfl) (by kernel_rfl) (all_snoc (all_snoc (all_snoc (all_snoc (all_snoc (all_snoc (all_snoc (all_snoc (all_snoc (all_snoc (all_snoc (all_snoc (all_snoc (all_snoc (all_snoc (all_snoc (all_snoc (all_snoc (all_snoc (all_snoc (all_snoc (all_snoc (all_snoc (all_snoc (all_snoc (all_snoc (all_snoc (all_snoc (all_snoc (all_snoc (all_snoc (all_snoc (all_snoc (all_snoc (all_snoc (all_snoc (all_snoc (all_snoc (all_nil) (ops11_0 _ _ rfl rfl)) (ops11_1 _ _ ⟨rfl, rfl⟩ rfl)) (ops11_2 _ _ rfl rfl)) (ops11_3 _ _ ⟨rfl, rfl⟩ rfl)) (ops11_4 _ _ ⟨rfl, rfl, rfl⟩ rfl)) (ops11_5 _ _ ⟨rfl, rfl⟩ rfl)) (ops11_6 _ _ ⟨rfl, rfl⟩ rfl)) (ops11_7 _ _ ⟨rfl, rfl, rfl⟩ rfl)) (ops11_8 _ _ ⟨rfl, rfl⟩ rfl)) (ops11_9 _ _ ⟨rfl, rfl, rfl⟩ rfl)) (ops11_10 _ _ ⟨rfl, rfl, rfl, rfl⟩ rfl)) (ops11_11 _ _ ⟨rfl, rfl, rfl⟩ rfl)) (ops11_12 _ _ ⟨rfl, rfl⟩ rfl)) (ops11_13 _ _ ⟨rfl, rfl⟩ rfl)) (ops11_14 _ _ ⟨rfl, rfl, rfl⟩ rfl)) (ops11_15 _ _ ⟨rfl, rfl⟩ rfl)) (ops11_16 _ _ ⟨rfl, rfl, rfl⟩ rfl)) (ops11_17 _ _ ⟨rfl, rfl, rfl, rfl⟩ rfl)) (ops11_18 _ _ ⟨rfl, rfl, rfl⟩ rfl)) (ops11_19 _ _ ⟨rfl, rfl⟩ rfl)) (ops11_20 _ _ ⟨rfl, rfl⟩ rfl)) (ops11_21 _ _ ⟨rfl, rfl⟩ rfl)) (ops11_22 _ _ ⟨rfl, rfl, rfl, rfl⟩ rfl)) (ops11_23 _ _ ⟨rfl, rfl, rfl⟩ rfl)) (ops11_24 _ _ ⟨rfl, rfl⟩ rfl)) (ops11_25 _ _ ⟨rfl, rfl⟩ rfl)) (ops11_26 _ _ ⟨rfl, rfl, rfl, rfl⟩ rfl)) (ops11_27 _ _ ⟨rfl, rfl, rfl⟩ rfl)) (ops11_28 _ _ ⟨rfl, rfl, rfl, rfl⟩ rfl)) (ops11_29 _ _ ⟨rfl, rfl, rfl⟩ rfl)) (ops11_30 _ _ ⟨rfl, rfl⟩ rfl)) (ops11_31 _ _ ⟨rfl, rfl⟩ rfl)) (ops11_32 _ _ ⟨rfl, rfl⟩ rfl)) (ops11_33 _ _ ⟨rfl, rfl, rfl, rfl⟩ rfl)) (ops11_34 _ _ ⟨rfl, rfl, rfl⟩ rfl)) (ops11_35 _ _ ⟨rfl, rfl⟩ rfl)) (ops11_36 _ _ ⟨rfl, rfl⟩ rfl)) (ops11_37 _ _ ⟨rfl, rfl⟩ rfl)) ?_
              intro vs Rs f' S' hp hf hx hS hR
              obtain ⟨x14, hv1, hR1⟩ := (spe rfl hs11_1 (hp 1 (by kernel_rfl)))
              obtain ⟨x17, hv3, hR3⟩ := (spe rfl hs11_3 (hp 3 (by kernel_rfl)))
              obtain ⟨x21, hv7, hR7⟩ := (spe rfl hs11_7 (hp 7 (by kernel_rfl)))
              obtain ⟨x24, hv9, hR9⟩ := (spe rfl hs11_9 (hp 9 (by kernel_rfl)))
              obtain ⟨x28, hv14, hR14⟩ := (spe rfl hs11_14 (hp 14 (by kernel_rfl)))
              obtain ⟨x31, hv16, hR16⟩ := (spe rfl hs11_16 (hp 16 (by kernel_rfl)))
              obtain ⟨x35, hv22, hR22⟩ := (spe rfl hs11_22 (hp 22 (by kernel_rfl)))
              have hT22_0 := (hR 22 0 (by kernel_rfl) (by decide)).trans (congrFun hR22 0)
              obtain ⟨x38, hv26, hR26⟩ := (spe rfl hs11_26 (hp 26 (by kernel_rfl)))
              have hT26_0 := (hR 26 0 (by kernel_rfl) (by decide)).trans (congrFun hR26 0)
              obtain ⟨hv35, hR35⟩ := (spe rfl hs11_35 (hp 35 (by kernel_rfl)))
              obtain ⟨hv36, hR36⟩ := (spe rfl hs11_36 (hp 36 (by kernel_rfl)))
              obtain ⟨hv37, hR37⟩ := (spe rfl hs11_37 (hp 37 (by kernel_rfl)))
              refine ls_fr (F := upd (upd (upd f' 59 (.bool ((t2.1.1 == t6.1.1) && ((t2.1.2.1 == t6.1.2.1) && ((t2.1.2.2.1 == t6.1.2.2.1) && ((t2.1.2.2.2.1 == t6.1.2.2.2.1) && (t2.1.2.2.2.2.1 == t6.1.2.2.2.2.1))))))) 60 (.int .i64 t2.2)) 61 (.int .i64 t6.2)) (fr_next (fr_next (fr_next (rfl) ((hf 35 59 (by kernel_rfl) rfl).trans hv35)) ((hf 36 60 (by kernel_rfl) rfl).trans hv36)) ((hf 37 61 (by kernel_rfl) rfl).trans hv37)) ?_
              refine ls_sub (s0) (sub_nil _) ?_
              refine ls_know (c := true) (q40) 59 (by kernel_rfl) ?_
              refine ls_on (j := 35) (t := 59) (b := true) rfl rfl (by kernel_rfl) (by kernel_rfl) ?_
              refine ls_val (v := .bool (decide (t2.2 = t6.2))) rfl rfl (by kernel_rfl) (fun w => by kernel_rfl) ?_
              refine ls_val (v := .bool (decide (t2.2 = t6.2))) rfl rfl (by kernel_rfl) (fun w => by kernel_rfl) ?_
              refine ls_val (v := .bool (decide (t2.2 = t6.2))) rfl rfl (by kernel_rfl) (fun w => by kernel_rfl) ?_
              by_cases q41 : t2.2 = t6.2
              · replace H := ite_t q41 H
                refine ls_know (c := true) (dec_t q41) 64 (by kernel_rfl) ?_
                refine ls_on (j := 40) (t := 64) (b := true) rfl rfl (by kernel_rfl) (by kernel_rfl) ?_
                refine ls_build (ps := [(2, .int .i64 (513 : Int))]) (pl := #[(0, 1), (1, 1), (2, 1), (3, 1), (4, 32)]) (zv := .agg ⟨([Value.int .i64 (0 : Int)] ++ ([Value.int .i64 (0 : Int)] ++ ([Value.int .i64 (0 : Int)] ++ ([Value.int .u32 (0 : Int)] ++ en (Value.int .u8) (vrep 32 (0 : Int)).1))))⟩) (zc := ([Value.int .i64 (0 : Int)] ++ ([Value.int .i64 (0 : Int)] ++ ([Value.int .i64 (0 : Int)] ++ ([Value.int .u32 (0 : Int)] ++ en (Value.int .u8) (vrep 32 (0 : Int)).1))))) (r := ([Value.int .i64 (0 : Int)] ++ ([Value.int .i64 (0 : Int)] ++ ([Value.int .i64 (513 : Int)] ++ ([Value.int .u32 (0 : Int)] ++ en (Value.int .u8) (vrep 32 (0 : Int)).1))))) rfl rfl (by kernel_rfl) rfl (by kernel_rfl) (by kernel_rfl) (fun w => by kernel_rfl) (fun w => by kernel_rfl) rfl (fill_cons (vs := [Value.int .i64 (513 : Int)]) (cs' := ([Value.int .i64 (0 : Int)] ++ ([Value.int .i64 (0 : Int)] ++ ([Value.int .i64 (513 : Int)] ++ ([Value.int .u32 (0 : Int)] ++ en (Value.int .u8) (vrep 32 (0 : Int)).1))))) (off := 2) (size := 1) rfl (by kernel_rfl) (len1 _) (le_of_len (len_app (len1 _) (len_app (len1 _) (len_app (len1 _) (len_app (len1 _) (len_en _ (vrep 32 (0 : Int))))))) (by decide)) (splc_in (Sub4.all _) (splc_skip (n := 1) (len1 _) (splc_skip (n := 1) (len1 _) (splc_head (len_eq (len1 _) (len1 _))))) (splc_all (len_eq (len_app (len1 _) (len_app (len1 _) (len_app (len1 _) (len_app (len1 _) (len_en _ (vrep 32 (0 : Int))))))) (len_app (len1 _) (len_app (len1 _) (len_app (len1 _) (len_app (len1 _) (len_en _ (vrep 32 (0 : Int))))))))) (hl_of (Sub4.skip (n := 1) (len1 _) (Sub4.skip (n := 1) (len1 _) (Sub4.head _ _))) (len_eq (len1 _) (len1 _)))) fill_nil) ?_
                refine ls_on (j := 40) (t := 64) (b := true) rfl rfl (by kernel_rfl) (by kernel_rfl) ?_
                obtain ⟨t42, hc43, H⟩ := bind_some H
                refine ls_callb (fid := 16) (vals := #[.agg ⟨([Value.int .i64 (0 : Int)] ++ ([Value.int .i64 (0 : Int)] ++ ([Value.int .i64 (513 : Int)] ++ ([Value.int .u32 (0 : Int)] ++ en (Value.int .u8) (vrep 32 (0 : Int)).1))))⟩]) (X := Unit) (fun x => .int .i64 t42) (fun x => stl []) [] [] [] [] 307 rfl rfl (by kernel_rfl) (fun w => by kernel_rfl) trivial trivial (by decide) (fun w hs hb => pointer_Sectors.calls k ((0 : Int), (0 : Int), (513 : Int), (0 : Int), (vrep 32 (0 : Int))) t42 (lent b w [] []) hb  hc43) ?_
                intro x44
                refine ls_on (j := 40) (t := 64) (b := true) rfl rfl (by kernel_rfl) (by kernel_rfl) ?_
                refine ls_val (v := .bool (decide (t42 = (2 : Int)))) rfl rfl (by kernel_rfl) (fun w => by kernel_rfl) ?_
                refine ls_val (v := .bool (decide (t42 = (2 : Int)))) rfl rfl (by kernel_rfl) (fun w => by kernel_rfl) ?_
                refine ls_val (v := .bool (decide (t42 = (2 : Int)))) rfl rfl (by kernel_rfl) (fun w => by kernel_rfl) ?_
                refine ls_end ?_
                refine qn_then ?_
                refine cs_ret' ?_
                obtain rfl := Option.some.inj H
                refine qr_res (rs := [_]) rfl (fun w' hs => ⟨[.bool (decide (t42 = (2 : Int)))], (res_tmp (by kernel_rfl) (.nil)), (), rfl, hs.pick (ts := []) (cs := []) trivial (by decide)⟩)
              · replace H := ite_f q41 H
                refine ls_know (c := false) (dec_f q41) 64 (by kernel_rfl) ?_
                refine ls_off (j := 40) (t := 64) (b := true) (c := false) rfl rfl (by kernel_rfl) (by kernel_rfl) rfl rfl (by kernel_rfl) ?_
                refine ls_off (j := 40) (t := 64) (b := true) (c := false) rfl rfl (by kernel_rfl) (by kernel_rfl) rfl rfl (by kernel_rfl) ?_
                refine ls_off (j := 40) (t := 64) (b := true) (c := false) rfl rfl (by kernel_rfl) (by kernel_rfl) rfl rfl (by kernel_rfl) ?_
                refine ls_val (v := .bool false) rfl rfl (by kernel_rfl) (fun w => by kernel_rfl) ?_
                refine ls_val (v := .bool false) rfl rfl (by kernel_rfl) (fun w => by kernel_rfl) ?_
                refine ls_end ?_
                refine qn_then ?_
                refine cs_ret' ?_
                obtain rfl := Option.some.inj H
                refine qr_res (rs := [_]) rfl (fun w' hs => ⟨[.bool false], (res_tmp (by kernel_rfl) (.nil)), (), rfl, hs.pick (ts := []) (cs := []) trivial (by decide)⟩)
            · replace H := ite_f q40 H
              refine cs_draw shadowboxlaw06_PointerTells.tab9 38 3 (spl [s11_0, s11_1, s11_2, s11_3, s11_4, s11_5, s11_6, s11_7, s11_8, s11_9, s11_10, s11_11, s11_12, s11_13, s11_14, s11_15, s11_16, s11_17, s11_18, s11_19, s11_20, s11_21, s11_22, s11_23, s11_24, s11_25, s11_26, s11_27, s11_28, s11_29, s11_30, s11_31, s11_32, s11_33, s11_34, s11_35, spu, spu]) (onl [true, true, true, true, true, true, true, true, true, true, true, true, true, true, true, true, true, true, true, true, true, true, true, true, true, true, true, true, true, true, true, true, true, true, true, true, false, false]) (by kernel_rfl) (by kernel_rfl) (by kernel_rfl) (by kernel_rfl) (rs := [_, _, _, _, _, _, _, _]) rfl (by kernel_rfl) (by kernel_rfl) (all_snoc (all_snoc (all_snoc (all_snoc (all_snoc (all_snoc (all_snoc (all_snoc (all_snoc (all_snoc (all_snoc (all_snoc (all_snoc (all_snoc (all_snoc (all_snoc (all_snoc (all_snoc (all_snoc (all_snoc (all_snoc (all_snoc (all_snoc (all_snoc (all_snoc (all_snoc (all_snoc (all_snoc (all_snoc (all_snoc (all_snoc (all_snoc (all_snoc (all_snoc (all_snoc (all_snoc (all_snoc (all_snoc (all_nil) (ops11_0 _ _ rfl rfl)) (ops11_1 _ _ ⟨rfl, rfl⟩ rfl)) (ops11_2 _ _ rfl rfl)) (ops11_3 _ _ ⟨rfl, rfl⟩ rfl)) (ops11_4 _ _ ⟨rfl, rfl, rfl⟩ rfl)) (ops11_5 _ _ ⟨rfl, rfl⟩ rfl)) (ops11_6 _ _ ⟨rfl, rfl⟩ rfl)) (ops11_7 _ _ ⟨rfl, rfl, rfl⟩ rfl)) (ops11_8 _ _ ⟨rfl, rfl⟩ rfl)) (ops11_9 _ _ ⟨rfl, rfl, rfl⟩ rfl)) (ops11_10 _ _ ⟨rfl, rfl, rfl, rfl⟩ rfl)) (ops11_11 _ _ ⟨rfl, rfl, rfl⟩ rfl)) (ops11_12 _ _ ⟨rfl, rfl⟩ rfl)) (ops11_13 _ _ ⟨rfl, rfl⟩ rfl)) (ops11_14 _ _ ⟨rfl, rfl, rfl⟩ rfl)) (ops11_15 _ _ ⟨rfl, rfl⟩ rfl)) (ops11_16 _ _ ⟨rfl, rfl, rfl⟩ rfl)) (ops11_17 _ _ ⟨rfl, rfl, rfl, rfl⟩ rfl)) (ops11_18 _ _ ⟨rfl, rfl, rfl⟩ rfl)) (ops11_19 _ _ ⟨rfl, rfl⟩ rfl)) (ops11_20 _ _ ⟨rfl, rfl⟩ rfl)) (ops11_21 _ _ ⟨rfl, rfl⟩ rfl)) (ops11_22 _ _ ⟨rfl, rfl, rfl, rfl⟩ rfl)) (ops11_23 _ _ ⟨rfl, rfl, rfl⟩ rfl)) (ops11_24 _ _ ⟨rfl, rfl⟩ rfl)) (ops11_25 _ _ ⟨rfl, rfl⟩ rfl)) (ops11_26 _ _ ⟨rfl, rfl, rfl, rfl⟩ rfl)) (ops11_27 _ _ ⟨rfl, rfl, rfl⟩ rfl)) (ops11_28 _ _ ⟨rfl, rfl, rfl, rfl⟩ rfl)) (ops11_29 _ _ ⟨rfl, rfl, rfl⟩ rfl)) (ops11_30 _ _ ⟨rfl, rfl⟩ rfl)) (ops11_31 _ _ ⟨rfl, rfl⟩ rfl)) (ops11_32 _ _ ⟨rfl, rfl⟩ rfl)) (ops11_33 _ _ ⟨rfl, rfl, rfl, rfl⟩ rfl)) (ops11_34 _ _ ⟨rfl, rfl, rfl⟩ rfl)) (ops11_35 _ _ ⟨rfl, rfl⟩ rfl)) (op_offi 36 35 59 true rfl rfl (by kernel_rfl) (by kernel_rfl) rfl (fun v R h => by rw [hs11_35] at h; obtain ⟨h, _⟩ := h; exact h.trans (congrArg Value.bool (show ((t2.1.1 == t6.1.1) && ((t2.1.2.1 == t6.1.2.1) && ((t2.1.2.2.1 == t6.1.2.2.1) && ((t2.1.2.2.2.1 == t6.1.2.2.2.1) && (t2.1.2.2.2.2.1 == t6.1.2.2.2.2.1))))) = false from Bool.eq_false_iff.mpr q40))) rfl rfl)) (op_offi 37 35 59 true rfl rfl (by kernel_rfl) (by kernel_rfl) rfl (fun v R h => by rw [hs11_35] at h; obtain ⟨h, _⟩ := h; exact h.trans (congrArg Value.bool (show ((t2.1.1 == t6.1.1) && ((t2.1.2.1 == t6.1.2.1) && ((t2.1.2.2.1 == t6.1.2.2.1) && ((t2.1.2.2.2.1 == t6.1.2.2.2.1) && (t2.1.2.2.2.2.1 == t6.1.2.2.2.2.1))))) = false from Bool.eq_false_iff.mpr q40))) rfl rfl)) ?_
              intro vs Rs f' S' hp hf hx hS hR
              obtain ⟨x14, hv1, hR1⟩ := (spe rfl hs11_1 (hp 1 (by kernel_rfl)))
              obtain ⟨x17, hv3, hR3⟩ := (spe rfl hs11_3 (hp 3 (by kernel_rfl)))
              obtain ⟨x21, hv7, hR7⟩ := (spe rfl hs11_7 (hp 7 (by kernel_rfl)))
              obtain ⟨x24, hv9, hR9⟩ := (spe rfl hs11_9 (hp 9 (by kernel_rfl)))
              obtain ⟨x28, hv14, hR14⟩ := (spe rfl hs11_14 (hp 14 (by kernel_rfl)))
              obtain ⟨x31, hv16, hR16⟩ := (spe rfl hs11_16 (hp 16 (by kernel_rfl)))
              obtain ⟨x35, hv22, hR22⟩ := (spe rfl hs11_22 (hp 22 (by kernel_rfl)))
              have hT22_0 := (hR 22 0 (by kernel_rfl) (by decide)).trans (congrFun hR22 0)
              obtain ⟨x38, hv26, hR26⟩ := (spe rfl hs11_26 (hp 26 (by kernel_rfl)))
              have hT26_0 := (hR 26 0 (by kernel_rfl) (by decide)).trans (congrFun hR26 0)
              obtain ⟨hv35, hR35⟩ := (spe rfl hs11_35 (hp 35 (by kernel_rfl)))
              obtain ⟨hv36, hR36⟩ := (spe rfl rfl (hp 36 (by kernel_rfl)) : spu _ _)
              obtain ⟨hv37, hR37⟩ := (spe rfl rfl (hp 37 (by kernel_rfl)) : spu _ _)
              refine ls_fr (F := upd f' 59 (.bool ((t2.1.1 == t6.1.1) && ((t2.1.2.1 == t6.1.2.1) && ((t2.1.2.2.1 == t6.1.2.2.1) && ((t2.1.2.2.2.1 == t6.1.2.2.2.1) && (t2.1.2.2.2.2.1 == t6.1.2.2.2.2.1))))))) (fr_next (rfl) ((hf 35 59 (by kernel_rfl) rfl).trans hv35)) ?_
              refine ls_sub (s0) (sub_nil _) ?_
              refine ls_know (c := false) (Bool.eq_false_iff.mpr q40) 59 (by kernel_rfl) ?_
              refine ls_off (j := 35) (t := 59) (b := true) (c := false) rfl rfl (by kernel_rfl) (by kernel_rfl) rfl rfl (by kernel_rfl) ?_
              refine ls_val (v := .bool false) rfl rfl (by kernel_rfl) (fun w => by kernel_rfl) ?_
              refine ls_val (v := .bool false) rfl rfl (by kernel_rfl) (fun w => by kernel_rfl) ?_
              refine ls_off (j := 40) (t := 64) (b := true) (c := false) rfl rfl (by kernel_rfl) (by kernel_rfl) rfl rfl (by kernel_rfl) ?_
              refine ls_off (j := 40) (t := 64) (b := true) (c := false) rfl rfl (by kernel_rfl) (by kernel_rfl) rfl rfl (by kernel_rfl) ?_
              refine ls_off (j := 40) (t := 64) (b := true) (c := false) rfl rfl (by kernel_rfl) (by kernel_rfl) rfl rfl (by kernel_rfl) ?_
              refine ls_val (v := .bool false) rfl rfl (by kernel_rfl) (fun w => by kernel_rfl) ?_
              refine ls_val (v := .bool false) rfl rfl (by kernel_rfl) (fun w => by kernel_rfl) ?_
              refine ls_end ?_
              refine qn_then ?_
              refine cs_ret' ?_
              obtain rfl := Option.some.inj H
              refine qr_res (rs := [_]) rfl (fun w' hs => ⟨[.bool false], (res_tmp (by kernel_rfl) (.nil)), (), rfl, hs.pick (ts := []) (cs := []) trivial (by decide)⟩)
          · replace H := ite_f q39 H
            obtain ⟨s11_34, hs11_34⟩ : ∃ z : Value → Sto → Prop, z = (fun v R => v = .bool false ∧ R = s0) := ⟨_, rfl⟩
            refine have_op (l := [_, _, _, _, _, _, _, _, _, _, _, _, _, _, _, _, _, _, _, _, _, _, _, _, _, _, _, _, _, _, _, _, _, _, _, _, _, _, _, _, _, _, _, _, _, _]) shadowboxlaw06_PointerTells.tab9 3 34 (fun sp => sp 34 = s11_34 ∧ sp 30 = s11_30 ∧ sp 33 = spu) (fun sp on hA hon => ?_) (fun ops11_34 => ?_)
            · refine ⟨fun o ho vs Rs f' S' w hp hf hx hS hR hs => ?_⟩
              obtain rfl := Option.some.inj ho
              obtain ⟨hv30, hR30⟩ := (spe hA.2.1 hs11_30 (hp 30 (by kernel_rfl)))
              obtain ⟨hv33, hR33⟩ := (spe hA.2.2 rfl (hp 33 (by kernel_rfl)) : spu _ _)
              rw [hA.1, hs11_34]
              refine And.intro (fun a ha => (want_none rfl a ha).trans hon.symm) (And.intro (fun _ => ?_) (fun h => by rw [hon] at h; cases h))
              have hF := fr_next (fr_next (rfl) (((hf 30 54 (by kernel_rfl) rfl).trans hv30).trans (congrArg Value.bool (show ((strOfNums t33).toList == (strOfNums t36).toList) = false from Bool.eq_false_iff.mpr q39)))) ((hf 33 57 (by kernel_rfl) rfl).trans hv33)
              refine ls_fr hF ?_
              refine ls_val (v := .bool false) rfl rfl (by kernel_rfl) (fun w => by kernel_rfl) ?_
              exact ls_fin s0 (.bool false) (congrArg (fun z => upd z 58 _) hF.symm) ⟨rfl, rfl⟩ (sub_nil _)
            obtain ⟨s11_35, hs11_35⟩ : ∃ z : Value → Sto → Prop, z = (fun v R => v = .bool false ∧ R = s0) := ⟨_, rfl⟩
            refine have_op (l := [_, _, _, _, _, _, _, _, _, _, _, _, _, _, _, _, _, _, _, _, _, _, _, _, _, _, _, _, _, _, _, _, _, _, _, _, _, _, _, _, _, _, _, _, _, _]) shadowboxlaw06_PointerTells.tab9 3 35 (fun sp => sp 35 = s11_35 ∧ sp 34 = s11_34) (fun sp on hA hon => ?_) (fun ops11_35 => ?_)
            · refine ⟨fun o ho vs Rs f' S' w hp hf hx hS hR hs => ?_⟩
              obtain rfl := Option.some.inj ho
              obtain ⟨hv34, hR34⟩ := (spe hA.2 hs11_34 (hp 34 (by kernel_rfl)))
              rw [hA.1, hs11_35]
              refine And.intro (fun a ha => (want_none rfl a ha).trans hon.symm) (And.intro (fun _ => ?_) (fun h => by rw [hon] at h; cases h))
              have hF := fr_next (rfl) ((hf 34 58 (by kernel_rfl) rfl).trans hv34)
              refine ls_fr hF ?_
              refine ls_val (v := .bool false) rfl rfl (by kernel_rfl) (fun w => by kernel_rfl) ?_
              exact ls_fin s0 (.bool false) (congrArg (fun z => upd z 59 _) hF.symm) ⟨rfl, rfl⟩ (sub_nil _)
            refine cs_draw shadowboxlaw06_PointerTells.tab9 38 3 (spl [s11_0, s11_1, s11_2, s11_3, s11_4, s11_5, s11_6, s11_7, s11_8, s11_9, s11_10, s11_11, s11_12, s11_13, s11_14, s11_15, s11_16, s11_17, s11_18, s11_19, s11_20, s11_21, s11_22, s11_23, s11_24, s11_25, s11_26, s11_27, s11_28, s11_29, s11_30, spu, spu, spu, s11_34, s11_35, spu, spu]) (onl [true, true, true, true, true, true, true, true, true, true, true, true, true, true, true, true, true, true, true, true, true, true, true, true, true, true, true, true, true, true, true, false, false, false, true, true, false, false]) (by kernel_rfl) (by kernel_rfl) (by kernel_rfl) (by kernel_rfl) (rs := [_, _, _, _, _, _, _, _]) rfl (by kernel_rfl) (by kernel_rfl) (all_snoc (all_snoc (all_snoc (all_snoc (all_snoc (all_snoc (all_snoc (all_snoc (all_snoc (all_snoc (all_snoc (all_snoc (all_snoc (all_snoc (all_snoc (all_snoc (all_snoc (all_snoc (all_snoc (all_snoc (all_snoc (all_snoc (all_snoc (all_snoc (all_snoc (all_snoc (all_snoc (all_snoc (all_snoc (all_snoc (all_snoc (all_snoc (all_snoc (all_snoc (all_snoc (all_snoc (all_snoc (all_snoc (all_nil) (ops11_0 _ _ rfl rfl)) (ops11_1 _ _ ⟨rfl, rfl⟩ rfl)) (ops11_2 _ _ rfl rfl)) (ops11_3 _ _ ⟨rfl, rfl⟩ rfl)) (ops11_4 _ _ ⟨rfl, rfl, rfl⟩ rfl)) (ops11_5 _ _ ⟨rfl, rfl⟩ rfl)) (ops11_6 _ _ ⟨rfl, rfl⟩ rfl)) (ops11_7 _ _ ⟨rfl, rfl, rfl⟩ rfl)) (ops11_8 _ _ ⟨rfl, rfl⟩ rfl)) (ops11_9 _ _ ⟨rfl, rfl, rfl⟩ rfl)) (ops11_10 _ _ ⟨rfl, rfl, rfl, rfl⟩ rfl)) (ops11_11 _ _ ⟨rfl, rfl, rfl⟩ rfl)) (ops11_12 _ _ ⟨rfl, rfl⟩ rfl)) (ops11_13 _ _ ⟨rfl, rfl⟩ rfl)) (ops11_14 _ _ ⟨rfl, rfl, rfl⟩ rfl)) (ops11_15 _ _ ⟨rfl, rfl⟩ rfl)) (ops11_16 _ _ ⟨rfl, rfl, rfl⟩ rfl)) (ops11_17 _ _ ⟨rfl, rfl, rfl, rfl⟩ rfl)) (ops11_18 _ _ ⟨rfl, rfl, rfl⟩ rfl)) (ops11_19 _ _ ⟨rfl, rfl⟩ rfl)) (ops11_20 _ _ ⟨rfl, rfl⟩ rfl)) (ops11_21 _ _ ⟨rfl, rfl⟩ rfl)) (ops11_22 _ _ ⟨rfl, rfl, rfl, rfl⟩ rfl)) (ops11_23 _ _ ⟨rfl, rfl, rfl⟩ rfl)) (ops11_24 _ _ ⟨rfl, rfl⟩ rfl)) (ops11_25 _ _ ⟨rfl, rfl⟩ rfl)) (ops11_26 _ _ ⟨rfl, rfl, rfl, rfl⟩ rfl)) (ops11_27 _ _ ⟨rfl, rfl, rfl⟩ rfl)) (ops11_28 _ _ ⟨rfl, rfl, rfl, rfl⟩ rfl)) (ops11_29 _ _ ⟨rfl, rfl, rfl⟩ rfl)) (ops11_30 _ _ ⟨rfl, rfl⟩ rfl)) (op_offi 31 30 54 true rfl rfl (by kernel_rfl) (by kernel_rfl) rfl (fun v R h => by rw [hs11_30] at h; obtain ⟨h, _⟩ := h; exact h.trans (congrArg Value.bool (show ((strOfNums t33).toList == (strOfNums t36).toList) = false from Bool.eq_false_iff.mpr q39))) rfl rfl)) (op_offi 32 30 54 true rfl rfl (by kernel_rfl) (by kernel_rfl) rfl (fun v R h => by rw [hs11_30] at h; obtain ⟨h, _⟩ := h; exact h.trans (congrArg Value.bool (show ((strOfNums t33).toList == (strOfNums t36).toList) = false from Bool.eq_false_iff.mpr q39))) rfl rfl)) (op_offi 33 30 54 true rfl rfl (by kernel_rfl) (by kernel_rfl) rfl (fun v R h => by rw [hs11_30] at h; obtain ⟨h, _⟩ := h; exact h.trans (congrArg Value.bool (show ((strOfNums t33).toList == (strOfNums t36).toList) = false from Bool.eq_false_iff.mpr q39))) rfl rfl)) (ops11_34 _ _ ⟨rfl, rfl, rfl⟩ rfl)) (ops11_35 _ _ ⟨rfl, rfl⟩ rfl)) (op_offi 36 35 59 true rfl rfl (by kernel_rfl) (by kernel_rfl) rfl (fun v R h => by rw [hs11_35] at h; obtain ⟨h, _⟩ := h; exact h) rfl rfl)) (op_offi 37 35 59 true rfl rfl (by kernel_rfl) (by kernel_rfl) rfl (fun v R h => by rw [hs11_35] at h; obtain ⟨h, _⟩ := h; exact h) rfl rfl)) ?_
            intro vs Rs f' S' hp hf hx hS hR
            obtain ⟨x14, hv1, hR1⟩ := (spe rfl hs11_1 (hp 1 (by kernel_rfl)))
            obtain ⟨x17, hv3, hR3⟩ := (spe rfl hs11_3 (hp 3 (by kernel_rfl)))
            obtain ⟨x21, hv7, hR7⟩ := (spe rfl hs11_7 (hp 7 (by kernel_rfl)))
            obtain ⟨x24, hv9, hR9⟩ := (spe rfl hs11_9 (hp 9 (by kernel_rfl)))
            obtain ⟨x28, hv14, hR14⟩ := (spe rfl hs11_14 (hp 14 (by kernel_rfl)))
            obtain ⟨x31, hv16, hR16⟩ := (spe rfl hs11_16 (hp 16 (by kernel_rfl)))
            obtain ⟨x35, hv22, hR22⟩ := (spe rfl hs11_22 (hp 22 (by kernel_rfl)))
            have hT22_0 := (hR 22 0 (by kernel_rfl) (by decide)).trans (congrFun hR22 0)
            obtain ⟨x38, hv26, hR26⟩ := (spe rfl hs11_26 (hp 26 (by kernel_rfl)))
            have hT26_0 := (hR 26 0 (by kernel_rfl) (by decide)).trans (congrFun hR26 0)
            obtain ⟨hv35, hR35⟩ := (spe rfl hs11_35 (hp 35 (by kernel_rfl)))
            obtain ⟨hv36, hR36⟩ := (spe rfl rfl (hp 36 (by kernel_rfl)) : spu _ _)
            obtain ⟨hv37, hR37⟩ := (spe rfl rfl (hp 37 (by kernel_rfl)) : spu _ _)
            refine ls_fr (F := upd f' 59 (.bool false)) (fr_next (rfl) ((hf 35 59 (by kernel_rfl) rfl).trans hv35)) ?_
            refine ls_sub (s0) (sub_nil _) ?_
            refine ls_off (j := 35) (t := 59) (b := true) (c := false) rfl rfl (by kernel_rfl) (by kernel_rfl) rfl rfl (by kernel_rfl) ?_
            refine ls_val (v := .bool false) rfl rfl (by kernel_rfl) (fun w => by kernel_rfl) ?_
            refine ls_val (v := .bool false) rfl rfl (by kernel_rfl) (fun w => by kernel_rfl) ?_
            refine ls_off (j := 40) (t := 64) (b := true) (c := false) rfl rfl (by kernel_rfl) (by kernel_rfl) rfl rfl (by kernel_rfl) ?_
            refine ls_off (j := 40) (t := 64) (b := true) (c := false) rfl rfl (by kernel_rfl) (by kernel_rfl) rfl rfl (by kernel_rfl) ?_
            refine ls_off (j := 40) (t := 64) (b := true) (c := false) rfl rfl (by kernel_rfl) (by kernel_rfl) rfl rfl (by kernel_rfl) ?_
            refine ls_val (v := .bool false) rfl rfl (by kernel_rfl) (fun w => by kernel_rfl) ?_
            refine ls_val (v := .bool false) rfl rfl (by kernel_rfl) (fun w => by kernel_rfl) ?_
            refine ls_end ?_
            refine qn_then ?_
            refine cs_ret' ?_
            obtain rfl := Option.some.inj H
            refine qr_res (rs := [_]) rfl (fun w' hs => ⟨[.bool false], (res_tmp (by kernel_rfl) (.nil)), (), rfl, hs.pick (ts := []) (cs := []) trivial (by decide)⟩)
        · replace H := ite_f q32 H
          obtain ⟨s11_29, hs11_29⟩ : ∃ z : Value → Sto → Prop, z = (fun v R => v = .bool false ∧ R = s0) := ⟨_, rfl⟩
          refine have_op (l := [_, _, _, _, _, _, _, _, _, _, _, _, _, _, _, _, _, _, _, _, _, _, _, _, _, _, _, _, _, _, _, _, _, _, _, _, _, _, _, _, _, _, _, _, _, _]) shadowboxlaw06_PointerTells.tab9 3 29 (fun sp => sp 29 = s11_29 ∧ sp 19 = s11_19 ∧ sp 28 = spu) (fun sp on hA hon => ?_) (fun ops11_29 => ?_)
          · refine ⟨fun o ho vs Rs f' S' w hp hf hx hS hR hs => ?_⟩
            obtain rfl := Option.some.inj ho
            obtain ⟨hv19, hR19⟩ := (spe hA.2.1 hs11_19 (hp 19 (by kernel_rfl)))
            obtain ⟨hv28, hR28⟩ := (spe hA.2.2 rfl (hp 28 (by kernel_rfl)) : spu _ _)
            rw [hA.1, hs11_29]
            refine And.intro (fun a ha => (want_none rfl a ha).trans hon.symm) (And.intro (fun _ => ?_) (fun h => by rw [hon] at h; cases h))
            have hF := fr_next (fr_next (rfl) (((hf 19 43 (by kernel_rfl) rfl).trans hv19).trans (congrArg Value.bool (show (decide (t26 = t29)) = false from dec_f q32)))) ((hf 28 52 (by kernel_rfl) rfl).trans hv28)
            refine ls_fr hF ?_
            refine ls_val (v := .bool false) rfl rfl (by kernel_rfl) (fun w => by kernel_rfl) ?_
            exact ls_fin s0 (.bool false) (congrArg (fun z => upd z 53 _) hF.symm) ⟨rfl, rfl⟩ (sub_nil _)
          obtain ⟨s11_30, hs11_30⟩ : ∃ z : Value → Sto → Prop, z = (fun v R => v = .bool false ∧ R = s0) := ⟨_, rfl⟩
          refine have_op (l := [_, _, _, _, _, _, _, _, _, _, _, _, _, _, _, _, _, _, _, _, _, _, _, _, _, _, _, _, _, _, _, _, _, _, _, _, _, _, _, _, _, _, _, _, _, _]) shadowboxlaw06_PointerTells.tab9 3 30 (fun sp => sp 30 = s11_30 ∧ sp 29 = s11_29) (fun sp on hA hon => ?_) (fun ops11_30 => ?_)
          · refine ⟨fun o ho vs Rs f' S' w hp hf hx hS hR hs => ?_⟩
            obtain rfl := Option.some.inj ho
            obtain ⟨hv29, hR29⟩ := (spe hA.2 hs11_29 (hp 29 (by kernel_rfl)))
            rw [hA.1, hs11_30]
            refine And.intro (fun a ha => (want_none rfl a ha).trans hon.symm) (And.intro (fun _ => ?_) (fun h => by rw [hon] at h; cases h))
            have hF := fr_next (rfl) ((hf 29 53 (by kernel_rfl) rfl).trans hv29)
            refine ls_fr hF ?_
            refine ls_val (v := .bool false) rfl rfl (by kernel_rfl) (fun w => by kernel_rfl) ?_
            exact ls_fin s0 (.bool false) (congrArg (fun z => upd z 54 _) hF.symm) ⟨rfl, rfl⟩ (sub_nil _)
          obtain ⟨s11_34, hs11_34⟩ : ∃ z : Value → Sto → Prop, z = (fun v R => v = .bool false ∧ R = s0) := ⟨_, rfl⟩
          refine have_op (l := [_, _, _, _, _, _, _, _, _, _, _, _, _, _, _, _, _, _, _, _, _, _, _, _, _, _, _, _, _, _, _, _, _, _, _, _, _, _, _, _, _, _, _, _, _, _]) shadowboxlaw06_PointerTells.tab9 3 34 (fun sp => sp 34 = s11_34 ∧ sp 30 = s11_30 ∧ sp 33 = spu) (fun sp on hA hon => ?_) (fun ops11_34 => ?_)
          · refine ⟨fun o ho vs Rs f' S' w hp hf hx hS hR hs => ?_⟩
            obtain rfl := Option.some.inj ho
            obtain ⟨hv30, hR30⟩ := (spe hA.2.1 hs11_30 (hp 30 (by kernel_rfl)))
            obtain ⟨hv33, hR33⟩ := (spe hA.2.2 rfl (hp 33 (by kernel_rfl)) : spu _ _)
            rw [hA.1, hs11_34]
            refine And.intro (fun a ha => (want_none rfl a ha).trans hon.symm) (And.intro (fun _ => ?_) (fun h => by rw [hon] at h; cases h))
            have hF := fr_next (fr_next (rfl) ((hf 30 54 (by kernel_rfl) rfl).trans hv30)) ((hf 33 57 (by kernel_rfl) rfl).trans hv33)
            refine ls_fr hF ?_
            refine ls_val (v := .bool false) rfl rfl (by kernel_rfl) (fun w => by kernel_rfl) ?_
            exact ls_fin s0 (.bool false) (congrArg (fun z => upd z 58 _) hF.symm) ⟨rfl, rfl⟩ (sub_nil _)
          obtain ⟨s11_35, hs11_35⟩ : ∃ z : Value → Sto → Prop, z = (fun v R => v = .bool false ∧ R = s0) := ⟨_, rfl⟩
          refine have_op (l := [_, _, _, _, _, _, _, _, _, _, _, _, _, _, _, _, _, _, _, _, _, _, _, _, _, _, _, _, _, _, _, _, _, _, _, _, _, _, _, _, _, _, _, _, _, _]) shadowboxlaw06_PointerTells.tab9 3 35 (fun sp => sp 35 = s11_35 ∧ sp 34 = s11_34) (fun sp on hA hon => ?_) (fun ops11_35 => ?_)
          · refine ⟨fun o ho vs Rs f' S' w hp hf hx hS hR hs => ?_⟩
            obtain rfl := Option.some.inj ho
            obtain ⟨hv34, hR34⟩ := (spe hA.2 hs11_34 (hp 34 (by kernel_rfl)))
            rw [hA.1, hs11_35]
            refine And.intro (fun a ha => (want_none rfl a ha).trans hon.symm) (And.intro (fun _ => ?_) (fun h => by rw [hon] at h; cases h))
            have hF := fr_next (rfl) ((hf 34 58 (by kernel_rfl) rfl).trans hv34)
            refine ls_fr hF ?_
            refine ls_val (v := .bool false) rfl rfl (by kernel_rfl) (fun w => by kernel_rfl) ?_
            exact ls_fin s0 (.bool false) (congrArg (fun z => upd z 59 _) hF.symm) ⟨rfl, rfl⟩ (sub_nil _)
          refine cs_draw shadowboxlaw06_PointerTells.tab9 38 3 (spl [s11_0, s11_1, s11_2, s11_3, s11_4, s11_5, s11_6, s11_7, s11_8, s11_9, s11_10, s11_11, s11_12, s11_13, s11_14, s11_15, s11_16, s11_17, s11_18, s11_19, spu, spu, spu, spu, spu, spu, spu, spu, spu, s11_29, s11_30, spu, spu, spu, s11_34, s11_35, spu, spu]) (onl [true, true, true, true, true, true, true, true, true, true, true, true, true, true, true, true, true, true, true, true, false, false, false, false, false, false, false, false, false, true, true, false, false, false, true, true, false, false]) (by kernel_rfl) (by kernel_rfl) (by kernel_rfl) (by kernel_rfl) (rs := [_, _, _, _, _, _, _, _]) rfl (by kernel_rfl) (by kernel_rfl) (all_snoc (all_snoc (all_snoc (all_snoc (all_snoc (all_snoc (all_snoc (all_snoc (all_snoc (all_snoc (all_snoc (all_snoc (all_snoc (all_snoc (all_snoc (all_snoc (all_snoc (all_snoc (all_snoc (all_snoc (all_snoc (all_snoc (all_snoc (all_snoc (all_snoc (all_snoc (all_snoc (all_snoc (all_snoc (all_snoc (all_snoc (all_snoc (all_snoc (all_snoc (all_snoc (all_snoc (all_snoc (all_snoc (all_nil) (ops11_0 _ _ rfl rfl)) (ops11_1 _ _ ⟨rfl, rfl⟩ rfl)) (ops11_2 _ _ rfl rfl)) (ops11_3 _ _ ⟨rfl, rfl⟩ rfl)) (ops11_4 _ _ ⟨rfl, rfl, rfl⟩ rfl)) (ops11_5 _ _ ⟨rfl, rfl⟩ rfl)) (ops11_6 _ _ ⟨rfl, rfl⟩ rfl)) (ops11_7 _ _ ⟨rfl, rfl, rfl⟩ rfl)) (ops11_8 _ _ ⟨rfl, rfl⟩ rfl)) (ops11_9 _ _ ⟨rfl, rfl, rfl⟩ rfl)) (ops11_10 _ _ ⟨rfl, rfl, rfl, rfl⟩ rfl)) (ops11_11 _ _ ⟨rfl, rfl, rfl⟩ rfl)) (ops11_12 _ _ ⟨rfl, rfl⟩ rfl)) (ops11_13 _ _ ⟨rfl, rfl⟩ rfl)) (ops11_14 _ _ ⟨rfl, rfl, rfl⟩ rfl)) (ops11_15 _ _ ⟨rfl, rfl⟩ rfl)) (ops11_16 _ _ ⟨rfl, rfl, rfl⟩ rfl)) (ops11_17 _ _ ⟨rfl, rfl, rfl, rfl⟩ rfl)) (ops11_18 _ _ ⟨rfl, rfl, rfl⟩ rfl)) (ops11_19 _ _ ⟨rfl, rfl⟩ rfl)) (op_offi 20 19 43 true rfl rfl (by kernel_rfl) (by kernel_rfl) rfl (fun v R h => by rw [hs11_19] at h; obtain ⟨h, _⟩ := h; exact h.trans (congrArg Value.bool (show (decide (t26 = t29)) = false from dec_f q32))) rfl rfl)) (op_offi 21 19 43 true rfl rfl (by kernel_rfl) (by kernel_rfl) rfl (fun v R h => by rw [hs11_19] at h; obtain ⟨h, _⟩ := h; exact h.trans (congrArg Value.bool (show (decide (t26 = t29)) = false from dec_f q32))) rfl rfl)) (op_offi 22 19 43 true rfl rfl (by kernel_rfl) (by kernel_rfl) rfl (fun v R h => by rw [hs11_19] at h; obtain ⟨h, _⟩ := h; exact h.trans (congrArg Value.bool (show (decide (t26 = t29)) = false from dec_f q32))) rfl rfl)) (op_offi 23 19 43 true rfl rfl (by kernel_rfl) (by kernel_rfl) rfl (fun v R h => by rw [hs11_19] at h; obtain ⟨h, _⟩ := h; exact h.trans (congrArg Value.bool (show (decide (t26 = t29)) = false from dec_f q32))) rfl rfl)) (op_offi 24 19 43 true rfl rfl (by kernel_rfl) (by kernel_rfl) rfl (fun v R h => by rw [hs11_19] at h; obtain ⟨h, _⟩ := h; exact h.trans (congrArg Value.bool (show (decide (t26 = t29)) = false from dec_f q32))) rfl rfl)) (op_offi 25 19 43 true rfl rfl (by kernel_rfl) (by kernel_rfl) rfl (fun v R h => by rw [hs11_19] at h; obtain ⟨h, _⟩ := h; exact h.trans (congrArg Value.bool (show (decide (t26 = t29)) = false from dec_f q32))) rfl rfl)) (op_offi 26 19 43 true rfl rfl (by kernel_rfl) (by kernel_rfl) rfl (fun v R h => by rw [hs11_19] at h; obtain ⟨h, _⟩ := h; exact h.trans (congrArg Value.bool (show (decide (t26 = t29)) = false from dec_f q32))) rfl rfl)) (op_offi 27 19 43 true rfl rfl (by kernel_rfl) (by kernel_rfl) rfl (fun v R h => by rw [hs11_19] at h; obtain ⟨h, _⟩ := h; exact h.trans (congrArg Value.bool (show (decide (t26 = t29)) = false from dec_f q32))) rfl rfl)) (op_offi 28 19 43 true rfl rfl (by kernel_rfl) (by kernel_rfl) rfl (fun v R h => by rw [hs11_19] at h; obtain ⟨h, _⟩ := h; exact h.trans (congrArg Value.bool (show (decide (t26 = t29)) = false from dec_f q32))) rfl rfl)) (ops11_29 _ _ ⟨rfl, rfl, rfl⟩ rfl)) (ops11_30 _ _ ⟨rfl, rfl⟩ rfl)) (op_offi 31 30 54 true rfl rfl (by kernel_rfl) (by kernel_rfl) rfl (fun v R h => by rw [hs11_30] at h; obtain ⟨h, _⟩ := h; exact h) rfl rfl)) (op_offi 32 30 54 true rfl rfl (by kernel_rfl) (by kernel_rfl) rfl (fun v R h => by rw [hs11_30] at h; obtain ⟨h, _⟩ := h; exact h) rfl rfl)) (op_offi 33 30 54 true rfl rfl (by kernel_rfl) (by kernel_rfl) rfl (fun v R h => by rw [hs11_30] at h; obtain ⟨h, _⟩ := h; exact h) rfl rfl)) (ops11_34 _ _ ⟨rfl, rfl, rfl⟩ rfl)) (ops11_35 _ _ ⟨rfl, rfl⟩ rfl)) (op_offi 36 35 59 true rfl rfl (by kernel_rfl) (by kernel_rfl) rfl (fun v R h => by rw [hs11_35] at h; obtain ⟨h, _⟩ := h; exact h) rfl rfl)) (op_offi 37 35 59 true rfl rfl (by kernel_rfl) (by kernel_rfl) rfl (fun v R h => by rw [hs11_35] at h; obtain ⟨h, _⟩ := h; exact h) rfl rfl)) ?_
          intro vs Rs f' S' hp hf hx hS hR
          obtain ⟨x14, hv1, hR1⟩ := (spe rfl hs11_1 (hp 1 (by kernel_rfl)))
          obtain ⟨x17, hv3, hR3⟩ := (spe rfl hs11_3 (hp 3 (by kernel_rfl)))
          obtain ⟨x21, hv7, hR7⟩ := (spe rfl hs11_7 (hp 7 (by kernel_rfl)))
          obtain ⟨x24, hv9, hR9⟩ := (spe rfl hs11_9 (hp 9 (by kernel_rfl)))
          obtain ⟨x28, hv14, hR14⟩ := (spe rfl hs11_14 (hp 14 (by kernel_rfl)))
          obtain ⟨x31, hv16, hR16⟩ := (spe rfl hs11_16 (hp 16 (by kernel_rfl)))
          obtain ⟨hv35, hR35⟩ := (spe rfl hs11_35 (hp 35 (by kernel_rfl)))
          obtain ⟨hv36, hR36⟩ := (spe rfl rfl (hp 36 (by kernel_rfl)) : spu _ _)
          obtain ⟨hv37, hR37⟩ := (spe rfl rfl (hp 37 (by kernel_rfl)) : spu _ _)
          refine ls_fr (F := upd f' 59 (.bool false)) (fr_next (rfl) ((hf 35 59 (by kernel_rfl) rfl).trans hv35)) ?_
          refine ls_sub (s0) (sub_nil _) ?_
          refine ls_off (j := 35) (t := 59) (b := true) (c := false) rfl rfl (by kernel_rfl) (by kernel_rfl) rfl rfl (by kernel_rfl) ?_
          refine ls_val (v := .bool false) rfl rfl (by kernel_rfl) (fun w => by kernel_rfl) ?_
          refine ls_val (v := .bool false) rfl rfl (by kernel_rfl) (fun w => by kernel_rfl) ?_
          refine ls_off (j := 40) (t := 64) (b := true) (c := false) rfl rfl (by kernel_rfl) (by kernel_rfl) rfl rfl (by kernel_rfl) ?_
          refine ls_off (j := 40) (t := 64) (b := true) (c := false) rfl rfl (by kernel_rfl) (by kernel_rfl) rfl rfl (by kernel_rfl) ?_
          refine ls_off (j := 40) (t := 64) (b := true) (c := false) rfl rfl (by kernel_rfl) (by kernel_rfl) rfl rfl (by kernel_rfl) ?_
          refine ls_val (v := .bool false) rfl rfl (by kernel_rfl) (fun w => by kernel_rfl) ?_
          refine ls_val (v := .bool false) rfl rfl (by kernel_rfl) (fun w => by kernel_rfl) ?_
          refine ls_end ?_
          refine qn_then ?_
          refine cs_ret' ?_
          obtain rfl := Option.some.inj H
          refine qr_res (rs := [_]) rfl (fun w' hs => ⟨[.bool false], (res_tmp (by kernel_rfl) (.nil)), (), rfl, hs.pick (ts := []) (cs := []) trivial (by decide)⟩)
      · replace H := ite_f q25 H
        obtain ⟨s11_18, hs11_18⟩ : ∃ z : Value → Sto → Prop, z = (fun v R => v = .bool false ∧ R = s0) := ⟨_, rfl⟩
        refine have_op (l := [_, _, _, _, _, _, _, _, _, _, _, _, _, _, _, _, _, _, _, _, _, _, _, _, _, _, _, _, _, _, _, _, _, _, _, _, _, _, _, _, _, _, _, _, _, _]) shadowboxlaw06_PointerTells.tab9 3 18 (fun sp => sp 18 = s11_18 ∧ sp 12 = s11_12 ∧ sp 17 = spu) (fun sp on hA hon => ?_) (fun ops11_18 => ?_)
        · refine ⟨fun o ho vs Rs f' S' w hp hf hx hS hR hs => ?_⟩
          obtain rfl := Option.some.inj ho
          obtain ⟨hv12, hR12⟩ := (spe hA.2.1 hs11_12 (hp 12 (by kernel_rfl)))
          obtain ⟨hv17, hR17⟩ := (spe hA.2.2 rfl (hp 17 (by kernel_rfl)) : spu _ _)
          rw [hA.1, hs11_18]
          refine And.intro (fun a ha => (want_none rfl a ha).trans hon.symm) (And.intro (fun _ => ?_) (fun h => by rw [hon] at h; cases h))
          have hF := fr_next (fr_next (rfl) (((hf 12 36 (by kernel_rfl) rfl).trans hv12).trans (congrArg Value.bool (show (t19 == t22) = false from Bool.eq_false_iff.mpr q25)))) ((hf 17 41 (by kernel_rfl) rfl).trans hv17)
          refine ls_fr hF ?_
          refine ls_val (v := .bool false) rfl rfl (by kernel_rfl) (fun w => by kernel_rfl) ?_
          exact ls_fin s0 (.bool false) (congrArg (fun z => upd z 42 _) hF.symm) ⟨rfl, rfl⟩ (sub_nil _)
        obtain ⟨s11_19, hs11_19⟩ : ∃ z : Value → Sto → Prop, z = (fun v R => v = .bool false ∧ R = s0) := ⟨_, rfl⟩
        refine have_op (l := [_, _, _, _, _, _, _, _, _, _, _, _, _, _, _, _, _, _, _, _, _, _, _, _, _, _, _, _, _, _, _, _, _, _, _, _, _, _, _, _, _, _, _, _, _, _]) shadowboxlaw06_PointerTells.tab9 3 19 (fun sp => sp 19 = s11_19 ∧ sp 18 = s11_18) (fun sp on hA hon => ?_) (fun ops11_19 => ?_)
        · refine ⟨fun o ho vs Rs f' S' w hp hf hx hS hR hs => ?_⟩
          obtain rfl := Option.some.inj ho
          obtain ⟨hv18, hR18⟩ := (spe hA.2 hs11_18 (hp 18 (by kernel_rfl)))
          rw [hA.1, hs11_19]
          refine And.intro (fun a ha => (want_none rfl a ha).trans hon.symm) (And.intro (fun _ => ?_) (fun h => by rw [hon] at h; cases h))
          have hF := fr_next (rfl) ((hf 18 42 (by kernel_rfl) rfl).trans hv18)
          refine ls_fr hF ?_
          refine ls_val (v := .bool false) rfl rfl (by kernel_rfl) (fun w => by kernel_rfl) ?_
          exact ls_fin s0 (.bool false) (congrArg (fun z => upd z 43 _) hF.symm) ⟨rfl, rfl⟩ (sub_nil _)
        obtain ⟨s11_29, hs11_29⟩ : ∃ z : Value → Sto → Prop, z = (fun v R => v = .bool false ∧ R = s0) := ⟨_, rfl⟩
        refine have_op (l := [_, _, _, _, _, _, _, _, _, _, _, _, _, _, _, _, _, _, _, _, _, _, _, _, _, _, _, _, _, _, _, _, _, _, _, _, _, _, _, _, _, _, _, _, _, _]) shadowboxlaw06_PointerTells.tab9 3 29 (fun sp => sp 29 = s11_29 ∧ sp 19 = s11_19 ∧ sp 28 = spu) (fun sp on hA hon => ?_) (fun ops11_29 => ?_)
        · refine ⟨fun o ho vs Rs f' S' w hp hf hx hS hR hs => ?_⟩
          obtain rfl := Option.some.inj ho
          obtain ⟨hv19, hR19⟩ := (spe hA.2.1 hs11_19 (hp 19 (by kernel_rfl)))
          obtain ⟨hv28, hR28⟩ := (spe hA.2.2 rfl (hp 28 (by kernel_rfl)) : spu _ _)
          rw [hA.1, hs11_29]
          refine And.intro (fun a ha => (want_none rfl a ha).trans hon.symm) (And.intro (fun _ => ?_) (fun h => by rw [hon] at h; cases h))
          have hF := fr_next (fr_next (rfl) ((hf 19 43 (by kernel_rfl) rfl).trans hv19)) ((hf 28 52 (by kernel_rfl) rfl).trans hv28)
          refine ls_fr hF ?_
          refine ls_val (v := .bool false) rfl rfl (by kernel_rfl) (fun w => by kernel_rfl) ?_
          exact ls_fin s0 (.bool false) (congrArg (fun z => upd z 53 _) hF.symm) ⟨rfl, rfl⟩ (sub_nil _)
        obtain ⟨s11_30, hs11_30⟩ : ∃ z : Value → Sto → Prop, z = (fun v R => v = .bool false ∧ R = s0) := ⟨_, rfl⟩
        refine have_op (l := [_, _, _, _, _, _, _, _, _, _, _, _, _, _, _, _, _, _, _, _, _, _, _, _, _, _, _, _, _, _, _, _, _, _, _, _, _, _, _, _, _, _, _, _, _, _]) shadowboxlaw06_PointerTells.tab9 3 30 (fun sp => sp 30 = s11_30 ∧ sp 29 = s11_29) (fun sp on hA hon => ?_) (fun ops11_30 => ?_)
        · refine ⟨fun o ho vs Rs f' S' w hp hf hx hS hR hs => ?_⟩
          obtain rfl := Option.some.inj ho
          obtain ⟨hv29, hR29⟩ := (spe hA.2 hs11_29 (hp 29 (by kernel_rfl)))
          rw [hA.1, hs11_30]
          refine And.intro (fun a ha => (want_none rfl a ha).trans hon.symm) (And.intro (fun _ => ?_) (fun h => by rw [hon] at h; cases h))
          have hF := fr_next (rfl) ((hf 29 53 (by kernel_rfl) rfl).trans hv29)
          refine ls_fr hF ?_
          refine ls_val (v := .bool false) rfl rfl (by kernel_rfl) (fun w => by kernel_rfl) ?_
          exact ls_fin s0 (.bool false) (congrArg (fun z => upd z 54 _) hF.symm) ⟨rfl, rfl⟩ (sub_nil _)
        obtain ⟨s11_34, hs11_34⟩ : ∃ z : Value → Sto → Prop, z = (fun v R => v = .bool false ∧ R = s0) := ⟨_, rfl⟩
        refine have_op (l := [_, _, _, _, _, _, _, _, _, _, _, _, _, _, _, _, _, _, _, _, _, _, _, _, _, _, _, _, _, _, _, _, _, _, _, _, _, _, _, _, _, _, _, _, _, _]) shadowboxlaw06_PointerTells.tab9 3 34 (fun sp => sp 34 = s11_34 ∧ sp 30 = s11_30 ∧ sp 33 = spu) (fun sp on hA hon => ?_) (fun ops11_34 => ?_)
        · refine ⟨fun o ho vs Rs f' S' w hp hf hx hS hR hs => ?_⟩
          obtain rfl := Option.some.inj ho
          obtain ⟨hv30, hR30⟩ := (spe hA.2.1 hs11_30 (hp 30 (by kernel_rfl)))
          obtain ⟨hv33, hR33⟩ := (spe hA.2.2 rfl (hp 33 (by kernel_rfl)) : spu _ _)
          rw [hA.1, hs11_34]
          refine And.intro (fun a ha => (want_none rfl a ha).trans hon.symm) (And.intro (fun _ => ?_) (fun h => by rw [hon] at h; cases h))
          have hF := fr_next (fr_next (rfl) ((hf 30 54 (by kernel_rfl) rfl).trans hv30)) ((hf 33 57 (by kernel_rfl) rfl).trans hv33)
          refine ls_fr hF ?_
          refine ls_val (v := .bool false) rfl rfl (by kernel_rfl) (fun w => by kernel_rfl) ?_
          exact ls_fin s0 (.bool false) (congrArg (fun z => upd z 58 _) hF.symm) ⟨rfl, rfl⟩ (sub_nil _)
        obtain ⟨s11_35, hs11_35⟩ : ∃ z : Value → Sto → Prop, z = (fun v R => v = .bool false ∧ R = s0) := ⟨_, rfl⟩
        refine have_op (l := [_, _, _, _, _, _, _, _, _, _, _, _, _, _, _, _, _, _, _, _, _, _, _, _, _, _, _, _, _, _, _, _, _, _, _, _, _, _, _, _, _, _, _, _, _, _]) shadowboxlaw06_PointerTells.tab9 3 35 (fun sp => sp 35 = s11_35 ∧ sp 34 = s11_34) (fun sp on hA hon => ?_) (fun ops11_35 => ?_)
        · refine ⟨fun o ho vs Rs f' S' w hp hf hx hS hR hs => ?_⟩
          obtain rfl := Option.some.inj ho
          obtain ⟨hv34, hR34⟩ := (spe hA.2 hs11_34 (hp 34 (by kernel_rfl)))
          rw [hA.1, hs11_35]
          refine And.intro (fun a ha => (want_none rfl a ha).trans hon.symm) (And.intro (fun _ => ?_) (fun h => by rw [hon] at h; cases h))
          have hF := fr_next (rfl) ((hf 34 58 (by kernel_rfl) rfl).trans hv34)
          refine ls_fr hF ?_
          refine ls_val (v := .bool false) rfl rfl (by kernel_rfl) (fun w => by kernel_rfl) ?_
          exact ls_fin s0 (.bool false) (congrArg (fun z => upd z 59 _) hF.symm) ⟨rfl, rfl⟩ (sub_nil _)
        refine cs_draw shadowboxlaw06_PointerTells.tab9 38 3 (spl [s11_0, s11_1, s11_2, s11_3, s11_4, s11_5, s11_6, s11_7, s11_8, s11_9, s11_10, s11_11, s11_12, spu, spu, spu, spu, spu, s11_18, s11_19, spu, spu, spu, spu, spu, spu, spu, spu, spu, s11_29, s11_30, spu, spu, spu, s11_34, s11_35, spu, spu]) (onl [true, true, true, true, true, true, true, true, true, true, true, true, true, false, false, false, false, false, true, true, false, false, false, false, false, false, false, false, false, true, true, false, false, false, true, true, false, false]) (by kernel_rfl) (by kernel_rfl) (by kernel_rfl) (by kernel_rfl) (rs := [_, _, _, _, _, _, _, _]) rfl (by kernel_rfl) (by kernel_rfl) (all_snoc (all_snoc (all_snoc (all_snoc (all_snoc (all_snoc (all_snoc (all_snoc (all_snoc (all_snoc (all_snoc (all_snoc (all_snoc (all_snoc (all_snoc (all_snoc (all_snoc (all_snoc (all_snoc (all_snoc (all_snoc (all_snoc (all_snoc (all_snoc (all_snoc (all_snoc (all_snoc (all_snoc (all_snoc (all_snoc (all_snoc (all_snoc (all_snoc (all_snoc (all_snoc (all_snoc (all_snoc (all_snoc (all_nil) (ops11_0 _ _ rfl rfl)) (ops11_1 _ _ ⟨rfl, rfl⟩ rfl)) (ops11_2 _ _ rfl rfl)) (ops11_3 _ _ ⟨rfl, rfl⟩ rfl)) (ops11_4 _ _ ⟨rfl, rfl, rfl⟩ rfl)) (ops11_5 _ _ ⟨rfl, rfl⟩ rfl)) (ops11_6 _ _ ⟨rfl, rfl⟩ rfl)) (ops11_7 _ _ ⟨rfl, rfl, rfl⟩ rfl)) (ops11_8 _ _ ⟨rfl, rfl⟩ rfl)) (ops11_9 _ _ ⟨rfl, rfl, rfl⟩ rfl)) (ops11_10 _ _ ⟨rfl, rfl, rfl, rfl⟩ rfl)) (ops11_11 _ _ ⟨rfl, rfl, rfl⟩ rfl)) (ops11_12 _ _ ⟨rfl, rfl⟩ rfl)) (op_offi 13 12 36 true rfl rfl (by kernel_rfl) (by kernel_rfl) rfl (fun v R h => by rw [hs11_12] at h; obtain ⟨h, _⟩ := h; exact h.trans (congrArg Value.bool (show (t19 == t22) = false from Bool.eq_false_iff.mpr q25))) rfl rfl)) (op_offi 14 12 36 true rfl rfl (by kernel_rfl) (by kernel_rfl) rfl (fun v R h => by rw [hs11_12] at h; obtain ⟨h, _⟩ := h; exact h.trans (congrArg Value.bool (show (t19 == t22) = false from Bool.eq_false_iff.mpr q25))) rfl rfl)) (op_offi 15 12 36 true rfl rfl (by kernel_rfl) (by kernel_rfl) rfl (fun v R h => by rw [hs11_12] at h; obtain ⟨h, _⟩ := h; exact h.trans (congrArg Value.bool (show (t19 == t22) = false from Bool.eq_false_iff.mpr q25))) rfl rfl)) (op_offi 16 12 36 true rfl rfl (by kernel_rfl) (by kernel_rfl) rfl (fun v R h => by rw [hs11_12] at h; obtain ⟨h, _⟩ := h; exact h.trans (congrArg Value.bool (show (t19 == t22) = false from Bool.eq_false_iff.mpr q25))) rfl rfl)) (op_offi 17 12 36 true rfl rfl (by kernel_rfl) (by kernel_rfl) rfl (fun v R h => by rw [hs11_12] at h; obtain ⟨h, _⟩ := h; exact h.trans (congrArg Value.bool (show (t19 == t22) = false from Bool.eq_false_iff.mpr q25))) rfl rfl)) (ops11_18 _ _ ⟨rfl, rfl, rfl⟩ rfl)) (ops11_19 _ _ ⟨rfl, rfl⟩ rfl)) (op_offi 20 19 43 true rfl rfl (by kernel_rfl) (by kernel_rfl) rfl (fun v R h => by rw [hs11_19] at h; obtain ⟨h, _⟩ := h; exact h) rfl rfl)) (op_offi 21 19 43 true rfl rfl (by kernel_rfl) (by kernel_rfl) rfl (fun v R h => by rw [hs11_19] at h; obtain ⟨h, _⟩ := h; exact h) rfl rfl)) (op_offi 22 19 43 true rfl rfl (by kernel_rfl) (by kernel_rfl) rfl (fun v R h => by rw [hs11_19] at h; obtain ⟨h, _⟩ := h; exact h) rfl rfl)) (op_offi 23 19 43 true rfl rfl (by kernel_rfl) (by kernel_rfl) rfl (fun v R h => by rw [hs11_19] at h; obtain ⟨h, _⟩ := h; exact h) rfl rfl)) (op_offi 24 19 43 true rfl rfl (by kernel_rfl) (by kernel_rfl) rfl (fun v R h => by rw [hs11_19] at h; obtain ⟨h, _⟩ := h; exact h) rfl rfl)) (op_offi 25 19 43 true rfl rfl (by kernel_rfl) (by kernel_rfl) rfl (fun v R h => by rw [hs11_19] at h; obtain ⟨h, _⟩ := h; exact h) rfl rfl)) (op_offi 26 19 43 true rfl rfl (by kernel_rfl) (by kernel_rfl) rfl (fun v R h => by rw [hs11_19] at h; obtain ⟨h, _⟩ := h; exact h) rfl rfl)) (op_offi 27 19 43 true rfl rfl (by kernel_rfl) (by kernel_rfl) rfl (fun v R h => by rw [hs11_19] at h; obtain ⟨h, _⟩ := h; exact h) rfl rfl)) (op_offi 28 19 43 true rfl rfl (by kernel_rfl) (by kernel_rfl) rfl (fun v R h => by rw [hs11_19] at h; obtain ⟨h, _⟩ := h; exact h) rfl rfl)) (ops11_29 _ _ ⟨rfl, rfl, rfl⟩ rfl)) (ops11_30 _ _ ⟨rfl, rfl⟩ rfl)) (op_offi 31 30 54 true rfl rfl (by kernel_rfl) (by kernel_rfl) rfl (fun v R h => by rw [hs11_30] at h; obtain ⟨h, _⟩ := h; exact h) rfl rfl)) (op_offi 32 30 54 true rfl rfl (by kernel_rfl) (by kernel_rfl) rfl (fun v R h => by rw [hs11_30] at h; obtain ⟨h, _⟩ := h; exact h) rfl rfl)) (op_offi 33 30 54 true rfl rfl (by kernel_rfl) (by kernel_rfl) rfl (fun v R h => by rw [hs11_30] at h; obtain ⟨h, _⟩ := h; exact h) rfl rfl)) (ops11_34 _ _ ⟨rfl, rfl, rfl⟩ rfl)) (ops11_35 _ _ ⟨rfl, rfl⟩ rfl)) (op_offi 36 35 59 true rfl rfl (by kernel_rfl) (by kernel_rfl) rfl (fun v R h => by rw [hs11_35] at h; obtain ⟨h, _⟩ := h; exact h) rfl rfl)) (op_offi 37 35 59 true rfl rfl (by kernel_rfl) (by kernel_rfl) rfl (fun v R h => by rw [hs11_35] at h; obtain ⟨h, _⟩ := h; exact h) rfl rfl)) ?_
        intro vs Rs f' S' hp hf hx hS hR
        obtain ⟨x14, hv1, hR1⟩ := (spe rfl hs11_1 (hp 1 (by kernel_rfl)))
        obtain ⟨x17, hv3, hR3⟩ := (spe rfl hs11_3 (hp 3 (by kernel_rfl)))
        obtain ⟨x21, hv7, hR7⟩ := (spe rfl hs11_7 (hp 7 (by kernel_rfl)))
        obtain ⟨x24, hv9, hR9⟩ := (spe rfl hs11_9 (hp 9 (by kernel_rfl)))
        obtain ⟨hv35, hR35⟩ := (spe rfl hs11_35 (hp 35 (by kernel_rfl)))
        obtain ⟨hv36, hR36⟩ := (spe rfl rfl (hp 36 (by kernel_rfl)) : spu _ _)
        obtain ⟨hv37, hR37⟩ := (spe rfl rfl (hp 37 (by kernel_rfl)) : spu _ _)
        refine ls_fr (F := upd f' 59 (.bool false)) (fr_next (rfl) ((hf 35 59 (by kernel_rfl) rfl).trans hv35)) ?_
        refine ls_sub (s0) (sub_nil _) ?_
        refine ls_off (j := 35) (t := 59) (b := true) (c := false) rfl rfl (by kernel_rfl) (by kernel_rfl) rfl rfl (by kernel_rfl) ?_
        refine ls_val (v := .bool false) rfl rfl (by kernel_rfl) (fun w => by kernel_rfl) ?_
        refine ls_val (v := .bool false) rfl rfl (by kernel_rfl) (fun w => by kernel_rfl) ?_
        refine ls_off (j := 40) (t := 64) (b := true) (c := false) rfl rfl (by kernel_rfl) (by kernel_rfl) rfl rfl (by kernel_rfl) ?_
        refine ls_off (j := 40) (t := 64) (b := true) (c := false) rfl rfl (by kernel_rfl) (by kernel_rfl) rfl rfl (by kernel_rfl) ?_
        refine ls_off (j := 40) (t := 64) (b := true) (c := false) rfl rfl (by kernel_rfl) (by kernel_rfl) rfl rfl (by kernel_rfl) ?_
        refine ls_val (v := .bool false) rfl rfl (by kernel_rfl) (fun w => by kernel_rfl) ?_
        refine ls_val (v := .bool false) rfl rfl (by kernel_rfl) (fun w => by kernel_rfl) ?_
        refine ls_end ?_
        refine qn_then ?_
        refine cs_ret' ?_
        obtain rfl := Option.some.inj H
        refine qr_res (rs := [_]) rfl (fun w' hs => ⟨[.bool false], (res_tmp (by kernel_rfl) (.nil)), (), rfl, hs.pick (ts := []) (cs := []) trivial (by decide)⟩)
    · replace H := ite_f q18 H
      obtain ⟨s11_11, hs11_11⟩ : ∃ z : Value → Sto → Prop, z = (fun v R => v = .bool false ∧ R = s0) := ⟨_, rfl⟩
      refine have_op (l := [_, _, _, _, _, _, _, _, _, _, _, _, _, _, _, _, _, _, _, _, _, _, _, _, _, _, _, _, _, _, _, _, _, _, _, _, _, _, _, _, _, _, _, _, _, _]) shadowboxlaw06_PointerTells.tab9 3 11 (fun sp => sp 11 = s11_11 ∧ sp 5 = s11_5 ∧ sp 10 = spu) (fun sp on hA hon => ?_) (fun ops11_11 => ?_)
      · refine ⟨fun o ho vs Rs f' S' w hp hf hx hS hR hs => ?_⟩
        obtain rfl := Option.some.inj ho
        obtain ⟨hv5, hR5⟩ := (spe hA.2.1 hs11_5 (hp 5 (by kernel_rfl)))
        obtain ⟨hv10, hR10⟩ := (spe hA.2.2 rfl (hp 10 (by kernel_rfl)) : spu _ _)
        rw [hA.1, hs11_11]
        refine And.intro (fun a ha => (want_none rfl a ha).trans hon.symm) (And.intro (fun _ => ?_) (fun h => by rw [hon] at h; cases h))
        have hF := fr_next (fr_next (rfl) (((hf 5 29 (by kernel_rfl) rfl).trans hv5).trans (congrArg Value.bool (show (t12 == t15) = false from Bool.eq_false_iff.mpr q18)))) ((hf 10 34 (by kernel_rfl) rfl).trans hv10)
        refine ls_fr hF ?_
        refine ls_val (v := .bool false) rfl rfl (by kernel_rfl) (fun w => by kernel_rfl) ?_
        exact ls_fin s0 (.bool false) (congrArg (fun z => upd z 35 _) hF.symm) ⟨rfl, rfl⟩ (sub_nil _)
      obtain ⟨s11_12, hs11_12⟩ : ∃ z : Value → Sto → Prop, z = (fun v R => v = .bool false ∧ R = s0) := ⟨_, rfl⟩
      refine have_op (l := [_, _, _, _, _, _, _, _, _, _, _, _, _, _, _, _, _, _, _, _, _, _, _, _, _, _, _, _, _, _, _, _, _, _, _, _, _, _, _, _, _, _, _, _, _, _]) shadowboxlaw06_PointerTells.tab9 3 12 (fun sp => sp 12 = s11_12 ∧ sp 11 = s11_11) (fun sp on hA hon => ?_) (fun ops11_12 => ?_)
      · refine ⟨fun o ho vs Rs f' S' w hp hf hx hS hR hs => ?_⟩
        obtain rfl := Option.some.inj ho
        obtain ⟨hv11, hR11⟩ := (spe hA.2 hs11_11 (hp 11 (by kernel_rfl)))
        rw [hA.1, hs11_12]
        refine And.intro (fun a ha => (want_none rfl a ha).trans hon.symm) (And.intro (fun _ => ?_) (fun h => by rw [hon] at h; cases h))
        have hF := fr_next (rfl) ((hf 11 35 (by kernel_rfl) rfl).trans hv11)
        refine ls_fr hF ?_
        refine ls_val (v := .bool false) rfl rfl (by kernel_rfl) (fun w => by kernel_rfl) ?_
        exact ls_fin s0 (.bool false) (congrArg (fun z => upd z 36 _) hF.symm) ⟨rfl, rfl⟩ (sub_nil _)
      obtain ⟨s11_18, hs11_18⟩ : ∃ z : Value → Sto → Prop, z = (fun v R => v = .bool false ∧ R = s0) := ⟨_, rfl⟩
      refine have_op (l := [_, _, _, _, _, _, _, _, _, _, _, _, _, _, _, _, _, _, _, _, _, _, _, _, _, _, _, _, _, _, _, _, _, _, _, _, _, _, _, _, _, _, _, _, _, _]) shadowboxlaw06_PointerTells.tab9 3 18 (fun sp => sp 18 = s11_18 ∧ sp 12 = s11_12 ∧ sp 17 = spu) (fun sp on hA hon => ?_) (fun ops11_18 => ?_)
      · refine ⟨fun o ho vs Rs f' S' w hp hf hx hS hR hs => ?_⟩
        obtain rfl := Option.some.inj ho
        obtain ⟨hv12, hR12⟩ := (spe hA.2.1 hs11_12 (hp 12 (by kernel_rfl)))
        obtain ⟨hv17, hR17⟩ := (spe hA.2.2 rfl (hp 17 (by kernel_rfl)) : spu _ _)
        rw [hA.1, hs11_18]
        refine And.intro (fun a ha => (want_none rfl a ha).trans hon.symm) (And.intro (fun _ => ?_) (fun h => by rw [hon] at h; cases h))
        have hF := fr_next (fr_next (rfl) ((hf 12 36 (by kernel_rfl) rfl).trans hv12)) ((hf 17 41 (by kernel_rfl) rfl).trans hv17)
        refine ls_fr hF ?_
        refine ls_val (v := .bool false) rfl rfl (by kernel_rfl) (fun w => by kernel_rfl) ?_
        exact ls_fin s0 (.bool false) (congrArg (fun z => upd z 42 _) hF.symm) ⟨rfl, rfl⟩ (sub_nil _)
      obtain ⟨s11_19, hs11_19⟩ : ∃ z : Value → Sto → Prop, z = (fun v R => v = .bool false ∧ R = s0) := ⟨_, rfl⟩
      refine have_op (l := [_, _, _, _, _, _, _, _, _, _, _, _, _, _, _, _, _, _, _, _, _, _, _, _, _, _, _, _, _, _, _, _, _, _, _, _, _, _, _, _, _, _, _, _, _, _]) shadowboxlaw06_PointerTells.tab9 3 19 (fun sp => sp 19 = s11_19 ∧ sp 18 = s11_18) (fun sp on hA hon => ?_) (fun ops11_19 => ?_)
      · refine ⟨fun o ho vs Rs f' S' w hp hf hx hS hR hs => ?_⟩
        obtain rfl := Option.some.inj ho
        obtain ⟨hv18, hR18⟩ := (spe hA.2 hs11_18 (hp 18 (by kernel_rfl)))
        rw [hA.1, hs11_19]
        refine And.intro (fun a ha => (want_none rfl a ha).trans hon.symm) (And.intro (fun _ => ?_) (fun h => by rw [hon] at h; cases h))
        have hF := fr_next (rfl) ((hf 18 42 (by kernel_rfl) rfl).trans hv18)
        refine ls_fr hF ?_
        refine ls_val (v := .bool false) rfl rfl (by kernel_rfl) (fun w => by kernel_rfl) ?_
        exact ls_fin s0 (.bool false) (congrArg (fun z => upd z 43 _) hF.symm) ⟨rfl, rfl⟩ (sub_nil _)
      obtain ⟨s11_29, hs11_29⟩ : ∃ z : Value → Sto → Prop, z = (fun v R => v = .bool false ∧ R = s0) := ⟨_, rfl⟩
      refine have_op (l := [_, _, _, _, _, _, _, _, _, _, _, _, _, _, _, _, _, _, _, _, _, _, _, _, _, _, _, _, _, _, _, _, _, _, _, _, _, _, _, _, _, _, _, _, _, _]) shadowboxlaw06_PointerTells.tab9 3 29 (fun sp => sp 29 = s11_29 ∧ sp 19 = s11_19 ∧ sp 28 = spu) (fun sp on hA hon => ?_) (fun ops11_29 => ?_)
      · refine ⟨fun o ho vs Rs f' S' w hp hf hx hS hR hs => ?_⟩
        obtain rfl := Option.some.inj ho
        obtain ⟨hv19, hR19⟩ := (spe hA.2.1 hs11_19 (hp 19 (by kernel_rfl)))
        obtain ⟨hv28, hR28⟩ := (spe hA.2.2 rfl (hp 28 (by kernel_rfl)) : spu _ _)
        rw [hA.1, hs11_29]
        refine And.intro (fun a ha => (want_none rfl a ha).trans hon.symm) (And.intro (fun _ => ?_) (fun h => by rw [hon] at h; cases h))
        have hF := fr_next (fr_next (rfl) ((hf 19 43 (by kernel_rfl) rfl).trans hv19)) ((hf 28 52 (by kernel_rfl) rfl).trans hv28)
        refine ls_fr hF ?_
        refine ls_val (v := .bool false) rfl rfl (by kernel_rfl) (fun w => by kernel_rfl) ?_
        exact ls_fin s0 (.bool false) (congrArg (fun z => upd z 53 _) hF.symm) ⟨rfl, rfl⟩ (sub_nil _)
      obtain ⟨s11_30, hs11_30⟩ : ∃ z : Value → Sto → Prop, z = (fun v R => v = .bool false ∧ R = s0) := ⟨_, rfl⟩
      refine have_op (l := [_, _, _, _, _, _, _, _, _, _, _, _, _, _, _, _, _, _, _, _, _, _, _, _, _, _, _, _, _, _, _, _, _, _, _, _, _, _, _, _, _, _, _, _, _, _]) shadowboxlaw06_PointerTells.tab9 3 30 (fun sp => sp 30 = s11_30 ∧ sp 29 = s11_29) (fun sp on hA hon => ?_) (fun ops11_30 => ?_)
      · refine ⟨fun o ho vs Rs f' S' w hp hf hx hS hR hs => ?_⟩
        obtain rfl := Option.some.inj ho
        obtain ⟨hv29, hR29⟩ := (spe hA.2 hs11_29 (hp 29 (by kernel_rfl)))
        rw [hA.1, hs11_30]
        refine And.intro (fun a ha => (want_none rfl a ha).trans hon.symm) (And.intro (fun _ => ?_) (fun h => by rw [hon] at h; cases h))
        have hF := fr_next (rfl) ((hf 29 53 (by kernel_rfl) rfl).trans hv29)
        refine ls_fr hF ?_
        refine ls_val (v := .bool false) rfl rfl (by kernel_rfl) (fun w => by kernel_rfl) ?_
        exact ls_fin s0 (.bool false) (congrArg (fun z => upd z 54 _) hF.symm) ⟨rfl, rfl⟩ (sub_nil _)
      obtain ⟨s11_34, hs11_34⟩ : ∃ z : Value → Sto → Prop, z = (fun v R => v = .bool false ∧ R = s0) := ⟨_, rfl⟩
      refine have_op (l := [_, _, _, _, _, _, _, _, _, _, _, _, _, _, _, _, _, _, _, _, _, _, _, _, _, _, _, _, _, _, _, _, _, _, _, _, _, _, _, _, _, _, _, _, _, _]) shadowboxlaw06_PointerTells.tab9 3 34 (fun sp => sp 34 = s11_34 ∧ sp 30 = s11_30 ∧ sp 33 = spu) (fun sp on hA hon => ?_) (fun ops11_34 => ?_)
      · refine ⟨fun o ho vs Rs f' S' w hp hf hx hS hR hs => ?_⟩
        obtain rfl := Option.some.inj ho
        obtain ⟨hv30, hR30⟩ := (spe hA.2.1 hs11_30 (hp 30 (by kernel_rfl)))
        obtain ⟨hv33, hR33⟩ := (spe hA.2.2 rfl (hp 33 (by kernel_rfl)) : spu _ _)
        rw [hA.1, hs11_34]
        refine And.intro (fun a ha => (want_none rfl a ha).trans hon.symm) (And.intro (fun _ => ?_) (fun h => by rw [hon] at h; cases h))
        have hF := fr_next (fr_next (rfl) ((hf 30 54 (by kernel_rfl) rfl).trans hv30)) ((hf 33 57 (by kernel_rfl) rfl).trans hv33)
        refine ls_fr hF ?_
        refine ls_val (v := .bool false) rfl rfl (by kernel_rfl) (fun w => by kernel_rfl) ?_
        exact ls_fin s0 (.bool false) (congrArg (fun z => upd z 58 _) hF.symm) ⟨rfl, rfl⟩ (sub_nil _)
      obtain ⟨s11_35, hs11_35⟩ : ∃ z : Value → Sto → Prop, z = (fun v R => v = .bool false ∧ R = s0) := ⟨_, rfl⟩
      refine have_op (l := [_, _, _, _, _, _, _, _, _, _, _, _, _, _, _, _, _, _, _, _, _, _, _, _, _, _, _, _, _, _, _, _, _, _, _, _, _, _, _, _, _, _, _, _, _, _]) shadowboxlaw06_PointerTells.tab9 3 35 (fun sp => sp 35 = s11_35 ∧ sp 34 = s11_34) (fun sp on hA hon => ?_) (fun ops11_35 => ?_)
      · refine ⟨fun o ho vs Rs f' S' w hp hf hx hS hR hs => ?_⟩
        obtain rfl := Option.some.inj ho
        obtain ⟨hv34, hR34⟩ := (spe hA.2 hs11_34 (hp 34 (by kernel_rfl)))
        rw [hA.1, hs11_35]
        refine And.intro (fun a ha => (want_none rfl a ha).trans hon.symm) (And.intro (fun _ => ?_) (fun h => by rw [hon] at h; cases h))
        have hF := fr_next (rfl) ((hf 34 58 (by kernel_rfl) rfl).trans hv34)
        refine ls_fr hF ?_
        refine ls_val (v := .bool false) rfl rfl (by kernel_rfl) (fun w => by kernel_rfl) ?_
        exact ls_fin s0 (.bool false) (congrArg (fun z => upd z 59 _) hF.symm) ⟨rfl, rfl⟩ (sub_nil _)
      refine cs_draw shadowboxlaw06_PointerTells.tab9 38 3 (spl [s11_0, s11_1, s11_2, s11_3, s11_4, s11_5, spu, spu, spu, spu, spu, s11_11, s11_12, spu, spu, spu, spu, spu, s11_18, s11_19, spu, spu, spu, spu, spu, spu, spu, spu, spu, s11_29, s11_30, spu, spu, spu, s11_34, s11_35, spu, spu]) (onl [true, true, true, true, true, true, false, false, false, false, false, true, true, false, false, false, false, false, true, true, false, false, false, false, false, false, false, false, false, true, true, false, false, false, true, true, false, false]) (by kernel_rfl) (by kernel_rfl) (by kernel_rfl) (by kernel_rfl) (rs := [_, _, _, _, _, _, _, _]) rfl (by kernel_rfl) (by kernel_rfl) (all_snoc (all_snoc (all_snoc (all_snoc (all_snoc (all_snoc (all_snoc (all_snoc (all_snoc (all_snoc (all_snoc (all_snoc (all_snoc (all_snoc (all_snoc (all_snoc (all_snoc (all_snoc (all_snoc (all_snoc (all_snoc (all_snoc (all_snoc (all_snoc (all_snoc (all_snoc (all_snoc (all_snoc (all_snoc (all_snoc (all_snoc (all_snoc (all_snoc (all_snoc (all_snoc (all_snoc (all_snoc (all_snoc (all_nil) (ops11_0 _ _ rfl rfl)) (ops11_1 _ _ ⟨rfl, rfl⟩ rfl)) (ops11_2 _ _ rfl rfl)) (ops11_3 _ _ ⟨rfl, rfl⟩ rfl)) (ops11_4 _ _ ⟨rfl, rfl, rfl⟩ rfl)) (ops11_5 _ _ ⟨rfl, rfl⟩ rfl)) (op_offi 6 5 29 true rfl rfl (by kernel_rfl) (by kernel_rfl) rfl (fun v R h => by rw [hs11_5] at h; obtain ⟨h, _⟩ := h; exact h.trans (congrArg Value.bool (show (t12 == t15) = false from Bool.eq_false_iff.mpr q18))) rfl rfl)) (op_offi 7 5 29 true rfl rfl (by kernel_rfl) (by kernel_rfl) rfl (fun v R h => by rw [hs11_5] at h; obtain ⟨h, _⟩ := h; exact h.trans (congrArg Value.bool (show (t12 == t15) = false from Bool.eq_false_iff.mpr q18))) rfl rfl)) (op_offi 8 5 29 true rfl rfl (by kernel_rfl) (by kernel_rfl) rfl (fun v R h => by rw [hs11_5] at h; obtain ⟨h, _⟩ := h; exact h.trans (congrArg Value.bool (show (t12 == t15) = false from Bool.eq_false_iff.mpr q18))) rfl rfl)) (op_offi 9 5 29 true rfl rfl (by kernel_rfl) (by kernel_rfl) rfl (fun v R h => by rw [hs11_5] at h; obtain ⟨h, _⟩ := h; exact h.trans (congrArg Value.bool (show (t12 == t15) = false from Bool.eq_false_iff.mpr q18))) rfl rfl)) (op_offi 10 5 29 true rfl rfl (by kernel_rfl) (by kernel_rfl) rfl (fun v R h => by rw [hs11_5] at h; obtain ⟨h, _⟩ := h; exact h.trans (congrArg Value.bool (show (t12 == t15) = false from Bool.eq_false_iff.mpr q18))) rfl rfl)) (ops11_11 _ _ ⟨rfl, rfl, rfl⟩ rfl)) (ops11_12 _ _ ⟨rfl, rfl⟩ rfl)) (op_offi 13 12 36 true rfl rfl (by kernel_rfl) (by kernel_rfl) rfl (fun v R h => by rw [hs11_12] at h; obtain ⟨h, _⟩ := h; exact h) rfl rfl)) (op_offi 14 12 36 true rfl rfl (by kernel_rfl) (by kernel_rfl) rfl (fun v R h => by rw [hs11_12] at h; obtain ⟨h, _⟩ := h; exact h) rfl rfl)) (op_offi 15 12 36 true rfl rfl (by kernel_rfl) (by kernel_rfl) rfl (fun v R h => by rw [hs11_12] at h; obtain ⟨h, _⟩ := h; exact h) rfl rfl)) (op_offi 16 12 36 true rfl rfl (by kernel_rfl) (by kernel_rfl) rfl (fun v R h => by rw [hs11_12] at h; obtain ⟨h, _⟩ := h; exact h) rfl rfl)) (op_offi 17 12 36 true rfl rfl (by kernel_rfl) (by kernel_rfl) rfl (fun v R h => by rw [hs11_12] at h; obtain ⟨h, _⟩ := h; exact h) rfl rfl)) (ops11_18 _ _ ⟨rfl, rfl, rfl⟩ rfl)) (ops11_19 _ _ ⟨rfl, rfl⟩ rfl)) (op_offi 20 19 43 true rfl rfl (by kernel_rfl) (by kernel_rfl) rfl (fun v R h => by rw [hs11_19] at h; obtain ⟨h, _⟩ := h; exact h) rfl rfl)) (op_offi 21 19 43 true rfl rfl (by kernel_rfl) (by kernel_rfl) rfl (fun v R h => by rw [hs11_19] at h; obtain ⟨h, _⟩ := h; exact h) rfl rfl)) (op_offi 22 19 43 true rfl rfl (by kernel_rfl) (by kernel_rfl) rfl (fun v R h => by rw [hs11_19] at h; obtain ⟨h, _⟩ := h; exact h) rfl rfl)) (op_offi 23 19 43 true rfl rfl (by kernel_rfl) (by kernel_rfl) rfl (fun v R h => by rw [hs11_19] at h; obtain ⟨h, _⟩ := h; exact h) rfl rfl)) (op_offi 24 19 43 true rfl rfl (by kernel_rfl) (by kernel_rfl) rfl (fun v R h => by rw [hs11_19] at h; obtain ⟨h, _⟩ := h; exact h) rfl rfl)) (op_offi 25 19 43 true rfl rfl (by kernel_rfl) (by kernel_rfl) rfl (fun v R h => by rw [hs11_19] at h; obtain ⟨h, _⟩ := h; exact h) rfl rfl)) (op_offi 26 19 43 true rfl rfl (by kernel_rfl) (by kernel_rfl) rfl (fun v R h => by rw [hs11_19] at h; obtain ⟨h, _⟩ := h; exact h) rfl rfl)) (op_offi 27 19 43 true rfl rfl (by kernel_rfl) (by kernel_rfl) rfl (fun v R h => by rw [hs11_19] at h; obtain ⟨h, _⟩ := h; exact h) rfl rfl)) (op_offi 28 19 43 true rfl rfl (by kernel_rfl) (by kernel_rfl) rfl (fun v R h => by rw [hs11_19] at h; obtain ⟨h, _⟩ := h; exact h) rfl rfl)) (ops11_29 _ _ ⟨rfl, rfl, rfl⟩ rfl)) (ops11_30 _ _ ⟨rfl, rfl⟩ rfl)) (op_offi 31 30 54 true rfl rfl (by kernel_rfl) (by kernel_rfl) rfl (fun v R h => by rw [hs11_30] at h; obtain ⟨h, _⟩ := h; exact h) rfl rfl)) (op_offi 32 30 54 true rfl rfl (by kernel_rfl) (by kernel_rfl) rfl (fun v R h => by rw [hs11_30] at h; obtain ⟨h, _⟩ := h; exact h) rfl rfl)) (op_offi 33 30 54 true rfl rfl (by kernel_rfl) (by kernel_rfl) rfl (fun v R h => by rw [hs11_30] at h; obtain ⟨h, _⟩ := h; exact h) rfl rfl)) (ops11_34 _ _ ⟨rfl, rfl, rfl⟩ rfl)) (ops11_35 _ _ ⟨rfl, rfl⟩ rfl)) (op_offi 36 35 59 true rfl rfl (by kernel_rfl) (by kernel_rfl) rfl (fun v R h => by rw [hs11_35] at h; obtain ⟨h, _⟩ := h; exact h) rfl rfl)) (op_offi 37 35 59 true rfl rfl (by kernel_rfl) (by kernel_rfl) rfl (fun v R h => by rw [hs11_35] at h; obtain ⟨h, _⟩ := h; exact h) rfl rfl)) ?_
      intro vs Rs f' S' hp hf hx hS hR
      obtain ⟨x14, hv1, hR1⟩ := (spe rfl hs11_1 (hp 1 (by kernel_rfl)))
      obtain ⟨x17, hv3, hR3⟩ := (spe rfl hs11_3 (hp 3 (by kernel_rfl)))
      obtain ⟨hv35, hR35⟩ := (spe rfl hs11_35 (hp 35 (by kernel_rfl)))
      obtain ⟨hv36, hR36⟩ := (spe rfl rfl (hp 36 (by kernel_rfl)) : spu _ _)
      obtain ⟨hv37, hR37⟩ := (spe rfl rfl (hp 37 (by kernel_rfl)) : spu _ _)
      refine ls_fr (F := upd f' 59 (.bool false)) (fr_next (rfl) ((hf 35 59 (by kernel_rfl) rfl).trans hv35)) ?_
      refine ls_sub (s0) (sub_nil _) ?_
      refine ls_off (j := 35) (t := 59) (b := true) (c := false) rfl rfl (by kernel_rfl) (by kernel_rfl) rfl rfl (by kernel_rfl) ?_
      refine ls_val (v := .bool false) rfl rfl (by kernel_rfl) (fun w => by kernel_rfl) ?_
      refine ls_val (v := .bool false) rfl rfl (by kernel_rfl) (fun w => by kernel_rfl) ?_
      refine ls_off (j := 40) (t := 64) (b := true) (c := false) rfl rfl (by kernel_rfl) (by kernel_rfl) rfl rfl (by kernel_rfl) ?_
      refine ls_off (j := 40) (t := 64) (b := true) (c := false) rfl rfl (by kernel_rfl) (by kernel_rfl) rfl rfl (by kernel_rfl) ?_
      refine ls_off (j := 40) (t := 64) (b := true) (c := false) rfl rfl (by kernel_rfl) (by kernel_rfl) rfl rfl (by kernel_rfl) ?_
      refine ls_val (v := .bool false) rfl rfl (by kernel_rfl) (fun w => by kernel_rfl) ?_
      refine ls_val (v := .bool false) rfl rfl (by kernel_rfl) (fun w => by kernel_rfl) ?_
      refine ls_end ?_
      refine qn_then ?_
      refine cs_ret' ?_
      obtain rfl := Option.some.inj H
      refine qr_res (rs := [_]) rfl (fun w' hs => ⟨[.bool false], (res_tmp (by kernel_rfl) (.nil)), (), rfl, hs.pick (ts := []) (cs := []) trivial (by decide)⟩)

end Go.Proofs.Ytnjijflgafghmaa.G
