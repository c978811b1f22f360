/- Printed by a program of this session (sz.py): plain functions, and walks that show that the code comes to them; no condition. -/
import Derived.Test.YtnkcadofhhcfaaaProg
import Derived.Test.YtnkcadofhhcfaaaTy
import Derived.Test.YtnkcadofhhcfaaaG0
import Derived.Test.YtnkcadofhhcfaaaG1
import Derived.Test.YtnkcadofhhcfaaaG2
import Derived.Test.YtnkcadofhhcfaaaG3
set_option linter.unusedVariables false
set_option linter.unusedSimpArgs false
namespace Go.Proofs.Ytnkcadofhhcfaaa.G
open Go Go.RowKit Go.Proofs.Ytnkcadofhhcfaaa.Sx

/-! ### shadowbox/shadowboxlaw12.HmacZeros: function 5 -/
def shadowboxlaw12_HmacZeros.tab12 : List (List Nat) := [[], [], [0, 1], [], [0, 1, 2, 3], [0, 1, 2, 3, 4], [0, 1, 2, 3, 4, 5], [0, 1, 2, 3, 4, 5], [0, 1, 2, 3, 4, 5], [0, 1, 2, 3, 4, 5, 7, 8], [0, 1, 2, 3, 4, 5, 6, 7, 8, 9], [0, 1, 2, 3, 4, 5, 6, 7, 8, 9, 10], [0, 1, 2, 3, 4, 5, 6, 7, 8, 9, 10, 11], [0, 1, 2, 3, 4, 5, 6, 7, 8, 9, 10, 11, 12], [0, 1, 2, 3, 4, 5, 6, 7, 8, 9, 10, 11, 12, 13], [0, 1, 2, 3, 4, 5, 6, 7, 8, 9, 10, 11, 12, 13, 14], [0, 1, 2, 3, 4, 5, 6, 7, 8, 9, 10, 11, 12, 13, 14, 15], [0, 1, 2, 3, 4, 5, 6, 7, 8, 9, 10, 11, 12, 13, 14, 15, 16], [0, 1, 2, 3, 4, 5, 6, 7, 8, 9, 10, 11, 12, 13, 14, 15, 16, 17], [0, 1, 2, 3, 4, 5, 6, 7, 8, 9, 10, 11, 12, 13, 14, 15, 16, 17], [0, 1, 2, 3, 4, 5, 6, 7, 8, 9, 10, 11, 12, 13, 14, 15, 16, 17, 18, 19], [0, 1, 2, 3, 4, 5, 6, 7, 8, 9, 10, 11, 12, 13, 14, 15, 16, 17, 18, 19, 20], [0, 1, 2, 3, 4, 5, 6, 7, 8, 9, 10, 11, 12, 13, 14, 15, 16, 17, 18, 19, 20, 21], [0, 1, 2, 3, 4, 5, 6, 7, 8, 9, 10, 11, 12, 13, 14, 15, 16, 17, 18, 19, 20, 21, 22], [0, 1, 2, 3, 4, 5, 6, 7, 8, 9, 10, 11, 12, 13, 14, 15, 16, 17, 18, 19, 20, 21, 22, 23]]
def shadowboxlaw12_HmacZeros.jo3 (k : Nat) (l0_1 : List Int) (l2_2 : List Int) (l7_3 : List Int) : Option (Bool) := (hmac_Mac.f k l0_1 l2_2).bind fun t5 => (hmac_Chain.f k l0_1 ([strOfNums l2_2, (⟨#[120]⟩ : ByteArray)])).bind fun t10 => (hmac_Mac.f k l7_3 l2_2).bind fun t15 => (if (t15.1 == t5.1) = true then (hmac_Chain.f k t5.1 ([(⟨#[120]⟩ : ByteArray)])).bind fun t20 => (hmac_Same.f k t10 t20).bind fun t23 => (if t23 = true then (if (t10.length : Int) = (32 : Int) then (hmac_Text.f k l0_1 l2_2).bind fun t28 => some (decide ((t28.size : Int) = (64 : Int))) else some false) else some false) else some false)
def shadowboxlaw12_HmacZeros.lo4 (a1 : Int) (jo3 : (List Int) → Option (Bool)) : Nat → (List Int) → Int → Option (Bool)
  | 0, _, _ => none
  | k4 + 1, l7_4, x8_4 => (if x8_4 < (bits .and .i64 a1 (63 : Int)) then (if (l7_4.length : Int) < (64 : Int) then (if (l7_4.length + ([(0 : Int)]).length) * 1 ≤ 140737488355328 then (shadowboxlaw12_HmacZeros.lo4 a1 jo3 k4) (l7_4 ++ [(0 : Int)]) (IntKind.wrap .i64 (x8_4 + (1 : Int))) else none) else jo3 l7_4) else jo3 l7_4)
def shadowboxlaw12_HmacZeros.jo2 (k : Nat) (a1 : Int) (l0_1 : List Int) (l2_2 : List Int) : Option (Bool) := (if (([] : List Int).length + l0_1.length) * 1 ≤ 140737488355328 then shadowboxlaw12_HmacZeros.lo4 a1 (shadowboxlaw12_HmacZeros.jo3 k l0_1 l2_2) k (([] : List Int) ++ l0_1) (0 : Int) else none)
def shadowboxlaw12_HmacZeros.jo1 (k : Nat) (a1 : Int) (l2 : List Int) (l0_1 : List Int) : Option (Bool) := (if (l2.length : Int) > (500 : Int) then (if (500 : Int) ≤ (l2.length : Int) then lt (l2.take ((500 : Int)).toNat) fun xl43 => (shadowboxlaw12_HmacZeros.jo2 k a1 l0_1) xl43 else none) else (shadowboxlaw12_HmacZeros.jo2 k a1 l0_1) l2)
def shadowboxlaw12_HmacZeros.f (k : Nat) (l0 : List Int) (a1 : Int) (l2 : List Int) : Option (Bool) :=
  (if (l0.length : Int) > (64 : Int) then (if (64 : Int) ≤ (l0.length : Int) then lt (l0.take ((64 : Int)).toNat) fun xl54 => (shadowboxlaw12_HmacZeros.jo1 k a1 l2) xl54 else none) else (shadowboxlaw12_HmacZeros.jo1 k a1 l2) l0)
set_option maxRecDepth 100000 in
set_option maxHeartbeats 4000000 in
theorem shadowboxlaw12_HmacZeros.calls (k : Nat) (A0 : Option Addr) (c0 : Nat) (l0 : List Int) (a1 : Int) (A2 : Option Addr) (c2 : Nat) (l2 : List Int) (r : Bool) (b : Bs) (hs0 : St b (stl []) b.w) (R0 : Ro b A0 (em (Ec.int 5 .u8) l0)) (C0 : l0.length ≤ c0) (R2 : Ro b A2 (em (Ec.int 5 .u8) l2)) (C2 : l2.length ≤ c2) (H : shadowboxlaw12_HmacZeros.f k l0 a1 l2 = some r) :
    Calls Try.prog 5 #[.slice A0 l0.length c0, .int .i64 a1, .slice A2 l2.length c2] b.w fun e w' => ∃ x : Unit, e = .returned (.bool r) ∧ St b (stl []) w' := by
  unfold shadowboxlaw12_HmacZeros.f at H
  refine enterb (n := 71) Try.func5 rfl (by kernel_rfl) (by kernel_rfl) hs0 ?_
  refine cs_sub (s0) (sub_nil _) ?_
  refine cs_seq ?_
  refine cs_region (l := [_]) ?_
  refine ls_val (v := .bool false) rfl rfl (by kernel_rfl) (fun w => by kernel_rfl) ?_
  refine ls_end ?_
  refine qn_then ?_
  refine cs_cut (fun f S => ∃ (fR : Fr) (A0_1 : Option Addr) (c0_1 : Nat) (l0_1 : List Int), f = upd (upd (upd fR 0 (.slice A0_1 l0_1.length c0_1)) 1 (.int .i64 a1)) 2 (.slice A2 l2.length c2) ∧ S = s0 ∧ Ro b A0_1 (em (Ec.int 5 .u8) l0_1) ∧ l0_1.length ≤ c0_1 ∧ shadowboxlaw12_HmacZeros.jo1 k a1 l2 l0_1 = some r) ?_ ?_
  · skip
    refine cs_seq ?_
    refine cs_region (l := [_, _, _]) ?_
    refine ls_val (v := .slice A0 l0.length c0) rfl rfl (by kernel_rfl) (fun w => by kernel_rfl) ?_
    refine ls_val (v := .int .i64 (l0.length : Int)) rfl rfl (by kernel_rfl) (fun w => by kernel_rfl) ?_
    refine ls_val (v := .bool (decide ((l0.length : Int) > (64 : Int)))) rfl rfl (by kernel_rfl) (fun w => by kernel_rfl) ?_
    refine ls_end ?_
    refine qn_then ?_
    by_cases q48 : (l0.length : Int) > (64 : Int)
    · replace H := ite_t q48 H
      refine cs_know (c := true) (dec_t q48) 13 (by kernel_rfl) ?_
      refine cs_true (by kernel_rfl) ?_
      refine cs_region (l := [_, _, _]) ?_
      refine ls_val (v := .slice A0 l0.length c0) rfl rfl (by kernel_rfl) (fun w => by kernel_rfl) ?_
      obtain ⟨q49, H⟩ := ite_need H
      obtain ⟨xl54, hy55, H⟩ := lt_some H
      have hz57 : 0 ≤ ((64 : Int)).toNat := by omega
      have hz58 : ((64 : Int)).toNat ≤ l0.length := by omega
      obtain ⟨xA50, xc51, he56, xC53, xR52⟩ := cut_at (A := A0) (c := c0) (l := l0) (Ec.int 5 .u8) 0 (((64 : Int)).toNat) hz57 hz58 C0 R0 (m := xl54) (by rw [← hy55] <;> simp) (z := 1) rfl
      refine ls_cutv (A := A0) (c := c0) (m := l0.length) (z := 1) (e := 5) (a := 0) (b := ((64 : Int)).toNat) rfl rfl (by kernel_rfl) rfl (by kernel_rfl) (by kernel_rfl) (by kernel_rfl) (.inl ⟨rfl, rfl⟩) (.inr ⟨.i64, by rw [Int.toNat_of_nonneg (by first | assumption | omega)]; kernel_rfl⟩) hz57 hz58 C0 he56 ?_
      refine ls_val (v := .slice xA50 xl54.length xc51) rfl rfl (by kernel_rfl) (fun w => by kernel_rfl) ?_
      refine ls_end ?_
      refine qn_meet (s0) ⟨_, xA50, xc51, xl54, fr_next (fr_next (fr_next (rfl) (by kernel_rfl)) (by kernel_rfl)) (by kernel_rfl), rfl, xR52, xC53, H⟩ (sub_nil _)
    · replace H := ite_f q48 H
      refine cs_know (c := false) (dec_f q48) 13 (by kernel_rfl) ?_
      refine cs_false (by kernel_rfl) ?_
      refine cs_skip' ?_
      refine qn_meet (s0) ⟨_, A0, c0, l0, fr_next (fr_next (fr_next (rfl) (by kernel_rfl)) (by kernel_rfl)) (by kernel_rfl), rfl, R0, C0, H⟩ (sub_nil _)
  · rintro f S ⟨fr1, A0_1, c0_1, l0_1, rfl, rfl, R0_1, C0_1, H⟩
    replace H : ((if (l2.length : Int) > (500 : Int) then (if (500 : Int) ≤ (l2.length : Int) then lt (l2.take ((500 : Int)).toNat) fun xl43 => (shadowboxlaw12_HmacZeros.jo2 k a1 l0_1) xl43 else none) else (shadowboxlaw12_HmacZeros.jo2 k a1 l0_1) l2)) = some r := H
    refine cs_cut (fun f S => ∃ (fR : Fr) (A2_2 : Option Addr) (c2_2 : Nat) (l2_2 : List Int), f = upd (upd (upd fR 0 (.slice A0_1 l0_1.length c0_1)) 1 (.int .i64 a1)) 2 (.slice A2_2 l2_2.length c2_2) ∧ S = s0 ∧ Ro b A2_2 (em (Ec.int 5 .u8) l2_2) ∧ l2_2.length ≤ c2_2 ∧ shadowboxlaw12_HmacZeros.jo2 k a1 l0_1 l2_2 = some r) ?_ ?_
    · skip
      refine cs_seq ?_
      refine cs_region (l := [_, _, _]) ?_
      refine ls_val (v := .slice A2 l2.length c2) rfl rfl (by kernel_rfl) (fun w => by kernel_rfl) ?_
      refine ls_val (v := .int .i64 (l2.length : Int)) rfl rfl (by kernel_rfl) (fun w => by kernel_rfl) ?_
      refine ls_val (v := .bool (decide ((l2.length : Int) > (500 : Int)))) rfl rfl (by kernel_rfl) (fun w => by kernel_rfl) ?_
      refine ls_end ?_
      refine qn_then ?_
      by_cases q37 : (l2.length : Int) > (500 : Int)
      · replace H := ite_t q37 H
        refine cs_know (c := true) (dec_t q37) 18 (by kernel_rfl) ?_
        refine cs_true (by kernel_rfl) ?_
        refine cs_region (l := [_, _, _]) ?_
        refine ls_val (v := .slice A2 l2.length c2) rfl rfl (by kernel_rfl) (fun w => by kernel_rfl) ?_
        obtain ⟨q38, H⟩ := ite_need H
        obtain ⟨xl43, hy44, H⟩ := lt_some H
        have hz46 : 0 ≤ ((500 : Int)).toNat := by omega
        have hz47 : ((500 : Int)).toNat ≤ l2.length := by omega
        obtain ⟨xA39, xc40, he45, xC42, xR41⟩ := cut_at (A := A2) (c := c2) (l := l2) (Ec.int 5 .u8) 0 (((500 : Int)).toNat) hz46 hz47 C2 R2 (m := xl43) (by rw [← hy44] <;> simp) (z := 1) rfl
        refine ls_cutv (A := A2) (c := c2) (m := l2.length) (z := 1) (e := 5) (a := 0) (b := ((500 : Int)).toNat) rfl rfl (by kernel_rfl) rfl (by kernel_rfl) (by kernel_rfl) (by kernel_rfl) (.inl ⟨rfl, rfl⟩) (.inr ⟨.i64, by rw [Int.toNat_of_nonneg (by first | assumption | omega)]; kernel_rfl⟩) hz46 hz47 C2 he45 ?_
        refine ls_val (v := .slice xA39 xl43.length xc40) rfl rfl (by kernel_rfl) (fun w => by kernel_rfl) ?_
        refine ls_end ?_
        refine qn_meet (s0) ⟨_, xA39, xc40, xl43, fr_next (fr_next (fr_next (rfl) (by kernel_rfl)) (by kernel_rfl)) (by kernel_rfl), rfl, xR41, xC42, H⟩ (sub_nil _)
      · replace H := ite_f q37 H
        refine cs_know (c := false) (dec_f q37) 18 (by kernel_rfl) ?_
        refine cs_false (by kernel_rfl) ?_
        refine cs_skip' ?_
        refine qn_meet (s0) ⟨_, A2, c2, l2, fr_next (fr_next (fr_next (rfl) (by kernel_rfl)) (by kernel_rfl)) (by kernel_rfl), rfl, R2, C2, H⟩ (sub_nil _)
    · rintro f S ⟨fr2, A2_2, c2_2, l2_2, rfl, rfl, R2_2, C2_2, H⟩
      replace H : ((if (([] : List Int).length + l0_1.length) * 1 ≤ 140737488355328 then shadowboxlaw12_HmacZeros.lo4 a1 (shadowboxlaw12_HmacZeros.jo3 k l0_1 l2_2) k (([] : List Int) ++ l0_1) (0 : Int) else none)) = some r := H
      refine cs_seq ?_
      refine cs_region (l := [_, _, _]) ?_
      refine ls_val (v := .int .i64 a1) rfl rfl (by kernel_rfl) (fun w => by kernel_rfl) ?_
      refine ls_val (v := .int .i64 (bits .and .i64 a1 (63 : Int))) rfl rfl (by kernel_rfl) (fun w => by kernel_rfl) ?_
      refine ls_val (v := .int .i64 (bits .and .i64 a1 (63 : Int))) rfl rfl (by kernel_rfl) (fun w => by kernel_rfl) ?_
      refine ls_end ?_
      refine qn_then ?_
      refine cs_seq ?_
      refine cs_region (l := [_, _, _, _]) ?_
      refine ls_lit (Ec.int 5 .u8) 0 rfl rfl (by kernel_rfl) ([] : List Int) (by exact of_decide_eq_true (by kernel_rfl)) (fun w => by kernel_rfl) ?_
      intro g1
      refine ls_val (v := .slice A0_1 l0_1.length c0_1) rfl rfl (by kernel_rfl) (fun w => by kernel_rfl) ?_
      obtain ⟨q2, H⟩ := ite_need H
      refine ls_app (Ec.int 5 .u8) (A := (some ⟨g1, 0, none⟩)) (c := ([] : List Int).length) (B := A0_1) (cb := c0_1) (z := (Value.int .u8 0)) (l := ([] : List Int)) (m := l0_1) (bytes := 1) 0 rfl rfl (by kernel_rfl) rfl (by kernel_rfl) (by exact rfl) (by kernel_rfl) (fun w hs => (hs.old R0_1)) (by kernel_rfl) (by kernel_rfl) rfl (by decide) q2 ?_
      intro xA3 xc4
      refine ls_val (v := .slice xA3 (([] : List Int) ++ l0_1).length xc4) rfl rfl (by kernel_rfl) (fun w => by kernel_rfl) ?_
      refine ls_end ?_
      refine qn_then ?_
      refine cs_cut (fun f S => ∃ (fR : Fr) (A7_3 : Option Addr) (c7_3 : Nat) (l7_3 : List Int), f = upd (upd (upd fR 0 (.slice A0_1 l0_1.length c0_1)) 2 (.slice A2_2 l2_2.length c2_2)) 7 (.slice A7_3 l7_3.length c7_3) ∧ S = sput s0 0 (some (Ck.sl (Ec.int 5 .u8) A7_3 c7_3 l7_3)) ∧ shadowboxlaw12_HmacZeros.jo3 k l0_1 l2_2 l7_3 = some r) ?_ ?_
      · skip
        refine cs_seq ?_
        refine cs_region (l := [_]) ?_
        refine ls_val (v := .int .i64 (0 : Int)) rfl rfl (by kernel_rfl) (fun w => by kernel_rfl) ?_
        refine ls_end ?_
        refine qn_then ?_
        refine cs_block ?_
        refine cs_sub (sput s0 0 (some (Ck.sl (Ec.int 5 .u8) xA3 xc4 (([] : List Int) ++ l0_1)))) (sub_put (by exact rfl) (sub_nil _)) ?_
        refine cs_loop (fun kk f S => ∃ (fR : Fr) (A7_4 : Option Addr) (c7_4 : Nat) (l7_4 : List Int) (x8_4 : Int), f = upd (upd (upd (upd (upd fR 0 (.slice A0_1 l0_1.length c0_1)) 1 (.int .i64 (bits .and .i64 a1 (63 : Int)))) 2 (.slice A2_2 l2_2.length c2_2)) 7 (.slice A7_4 l7_4.length c7_4)) 8 (.int .i64 x8_4) ∧ S = sput s0 0 (some (Ck.sl (Ec.int 5 .u8) A7_4 c7_4 l7_4)) ∧ shadowboxlaw12_HmacZeros.lo4 a1 (shadowboxlaw12_HmacZeros.jo3 k l0_1 l2_2) kk l7_4 x8_4 = some r) k ?_ ?_ ?_
        · exact ⟨_, xA3, xc4, (([] : List Int) ++ l0_1), (0 : Int), fr_next (fr_next (fr_next (fr_next (fr_next (rfl) (by kernel_rfl)) (by kernel_rfl)) (by kernel_rfl)) (by kernel_rfl)) (by kernel_rfl), rfl, H⟩
        · rintro f S ⟨fr4, A7_4, c7_4, l7_4, x8_4, rfl, rfl, H⟩; cases H
        · rintro k4 f S ⟨fr4, A7_4, c7_4, l7_4, x8_4, rfl, rfl, H⟩
          replace H : ((if x8_4 < (bits .and .i64 a1 (63 : Int)) then (if (l7_4.length : Int) < (64 : Int) then (if (l7_4.length + ([(0 : Int)]).length) * 1 ≤ 140737488355328 then (shadowboxlaw12_HmacZeros.lo4 a1 (shadowboxlaw12_HmacZeros.jo3 k l0_1 l2_2) k4) (l7_4 ++ [(0 : Int)]) (IntKind.wrap .i64 (x8_4 + (1 : Int))) else none) else (shadowboxlaw12_HmacZeros.jo3 k l0_1 l2_2) l7_4) else (shadowboxlaw12_HmacZeros.jo3 k l0_1 l2_2) l7_4)) = some r := H
          refine cs_seq ?_
          refine cs_seq ?_
          refine cs_region (l := [_, _, _, _, _, _, _, _]) ?_
          refine ls_val (v := .int .i64 x8_4) rfl rfl (by kernel_rfl) (fun w => by kernel_rfl) ?_
          refine ls_val (v := .int .i64 (bits .and .i64 a1 (63 : Int))) rfl rfl (by kernel_rfl) (fun w => by kernel_rfl) ?_
          refine ls_val (v := .bool (decide (x8_4 < (bits .and .i64 a1 (63 : Int))))) rfl rfl (by kernel_rfl) (fun w => by kernel_rfl) ?_
          refine ls_val (v := .bool (decide (x8_4 < (bits .and .i64 a1 (63 : Int))))) rfl rfl (by kernel_rfl) (fun w => by kernel_rfl) ?_
          by_cases q31 : x8_4 < (bits .and .i64 a1 (63 : Int))
          · replace H := ite_t q31 H
            refine ls_know (c := true) (dec_t q31) 29 (by kernel_rfl) ?_
            refine ls_on (j := 3) (t := 29) (b := true) rfl rfl (by kernel_rfl) (by kernel_rfl) ?_
            refine ls_val (v := .slice A7_4 l7_4.length c7_4) rfl rfl (by kernel_rfl) (fun w => by kernel_rfl) ?_
            refine ls_on (j := 3) (t := 29) (b := true) rfl rfl (by kernel_rfl) (by kernel_rfl) ?_
            refine ls_val (v := .int .i64 (l7_4.length : Int)) rfl rfl (by kernel_rfl) (fun w => by kernel_rfl) ?_
            refine ls_on (j := 3) (t := 29) (b := true) rfl rfl (by kernel_rfl) (by kernel_rfl) ?_
            refine ls_val (v := .bool (decide ((l7_4.length : Int) < (64 : Int)))) rfl rfl (by kernel_rfl) (fun w => by kernel_rfl) ?_
            refine ls_val (v := .bool (decide ((l7_4.length : Int) < (64 : Int)))) rfl rfl (by kernel_rfl) (fun w => by kernel_rfl) ?_
            refine ls_end ?_
            refine qn_then ?_
            by_cases q32 : (l7_4.length : Int) < (64 : Int)
            · replace H := ite_t q32 H
              refine cs_know (c := true) (dec_t q32) 33 (by kernel_rfl) ?_
              refine cs_true (by kernel_rfl) ?_
              refine cs_skip' ?_
              refine qn_then ?_
              refine cs_seq ?_
              refine cs_block ?_
              refine cs_region (l := [_, _, _, _]) ?_
              refine ls_val (v := .slice A7_4 l7_4.length c7_4) rfl rfl (by kernel_rfl) (fun w => by kernel_rfl) ?_
              refine ls_lit (Ec.int 5 .u8) 1 rfl rfl (by kernel_rfl) ([(0 : Int)]) (by exact of_decide_eq_true (by kernel_rfl)) (fun w => by kernel_rfl) ?_
              intro g33
              obtain ⟨q34, H⟩ := ite_need H
              refine ls_app (Ec.int 5 .u8) (A := A7_4) (c := c7_4) (B := (some ⟨g33, 0, none⟩)) (cb := [(0 : Int)].length) (z := (Value.int .u8 0)) (l := l7_4) (m := [(0 : Int)]) (bytes := 1) 0 rfl rfl (by kernel_rfl) rfl (by kernel_rfl) (by exact rfl) (by kernel_rfl) (fun w hs => (hs.rd (k := 1) (by exact rfl))) (by kernel_rfl) (by kernel_rfl) rfl (by decide) q34 ?_
              intro xA35 xc36
              refine ls_val (v := .slice xA35 (l7_4 ++ [(0 : Int)]).length xc36) rfl rfl (by kernel_rfl) (fun w => by kernel_rfl) ?_
              refine ls_end ?_
              refine qn_block ?_
              refine qn_then ?_
              refine cs_region (l := [_, _, _]) ?_
              refine ls_val (v := .int .i64 x8_4) rfl rfl (by kernel_rfl) (fun w => by kernel_rfl) ?_
              refine ls_val (v := .int .i64 (IntKind.wrap .i64 (x8_4 + (1 : Int)))) rfl rfl (by kernel_rfl) (fun w => by kernel_rfl) ?_
              refine ls_val (v := .int .i64 (IntKind.wrap .i64 (x8_4 + (1 : Int)))) rfl rfl (by kernel_rfl) (fun w => by kernel_rfl) ?_
              refine ls_end ?_
              refine qn_again k4 (sput s0 0 (some (Ck.sl (Ec.int 5 .u8) xA35 xc36 (l7_4 ++ [(0 : Int)])))) (Nat.le_refl _) ⟨_, xA35, xc36, (l7_4 ++ [(0 : Int)]), (IntKind.wrap .i64 (x8_4 + (1 : Int))), fr_next (fr_next (fr_next (fr_next (fr_next (rfl) (by kernel_rfl)) (by kernel_rfl)) (by kernel_rfl)) (by kernel_rfl)) (by kernel_rfl), rfl, H⟩ (sub_put (by exact rfl) (sub_nil _))
            · replace H := ite_f q32 H
              refine cs_know (c := false) (dec_f q32) 33 (by kernel_rfl) ?_
              refine cs_false (by kernel_rfl) ?_
              refine cs_exit' ?_
              refine qx_then ?_
              refine qx_then ?_
              refine qx_same ?_
              refine qn_meet (sput s0 0 (some (Ck.sl (Ec.int 5 .u8) A7_4 c7_4 l7_4))) ⟨_, A7_4, c7_4, l7_4, fr_next (fr_next (fr_next (rfl) (by kernel_rfl)) (by kernel_rfl)) (by kernel_rfl), rfl, H⟩ (sub_put (by exact rfl) (sub_nil _))
          · replace H := ite_f q31 H
            refine ls_know (c := false) (dec_f q31) 29 (by kernel_rfl) ?_
            refine ls_off (j := 3) (t := 29) (b := true) (c := false) rfl rfl (by kernel_rfl) (by kernel_rfl) rfl rfl (by kernel_rfl) ?_
            refine ls_off (j := 3) (t := 29) (b := true) (c := false) rfl rfl (by kernel_rfl) (by kernel_rfl) rfl rfl (by kernel_rfl) ?_
            refine ls_off (j := 3) (t := 29) (b := true) (c := false) rfl rfl (by kernel_rfl) (by kernel_rfl) rfl rfl (by kernel_rfl) ?_
            refine ls_val (v := .bool false) rfl rfl (by kernel_rfl) (fun w => by kernel_rfl) ?_
            refine ls_end ?_
            refine qn_then ?_
            refine cs_false (by kernel_rfl) ?_
            refine cs_exit' ?_
            refine qx_then ?_
            refine qx_then ?_
            refine qx_same ?_
            refine qn_meet (sput s0 0 (some (Ck.sl (Ec.int 5 .u8) A7_4 c7_4 l7_4))) ⟨_, A7_4, c7_4, l7_4, fr_next (fr_next (fr_next (rfl) (by kernel_rfl)) (by kernel_rfl)) (by kernel_rfl), rfl, H⟩ (sub_put (by exact rfl) (sub_nil _))
      · rintro f S ⟨fr3, A7_3, c7_3, l7_3, rfl, rfl, H⟩
        replace H : ((hmac_Mac.f k l0_1 l2_2).bind fun t5 => (hmac_Chain.f k l0_1 ([strOfNums l2_2, (⟨#[120]⟩ : ByteArray)])).bind fun t10 => (hmac_Mac.f k l7_3 l2_2).bind fun t15 => (if (t15.1 == t5.1) = true then (hmac_Chain.f k t5.1 ([(⟨#[120]⟩ : ByteArray)])).bind fun t20 => (hmac_Same.f k t10 t20).bind fun t23 => (if t23 = true then (if (t10.length : Int) = (32 : Int) then (hmac_Text.f k l0_1 l2_2).bind fun t28 => some (decide ((t28.size : Int) = (64 : Int))) else some false) else some false) else some false)) = some r := H
        refine cs_seq ?_
        refine cs_region (l := [_, _, _, _, _]) ?_
        refine ls_val (v := .slice A0_1 l0_1.length c0_1) rfl rfl (by kernel_rfl) (fun w => by kernel_rfl) ?_
        refine ls_val (v := .slice A2_2 l2_2.length c2_2) rfl rfl (by kernel_rfl) (fun w => by kernel_rfl) ?_
        obtain ⟨t5, hc6, H⟩ := bind_some H
        refine ls_callb (fid := 9) (vals := #[.slice A0_1 l0_1.length c0_1, .slice A2_2 l2_2.length c2_2]) (X := Unit) (fun x => .agg ⟨en (Value.int .u8) t5.1⟩) (fun x => stl []) [] [] [] [] 1 rfl rfl (by kernel_rfl) (fun w => by kernel_rfl) trivial trivial (by decide) (fun w hs hb => hmac_Mac.calls k A0_1 c0_1 l0_1 A2_2 c2_2 l2_2 t5 (lent b w [] []) hb (hs.ro R0_1 _ _) C0_1 (hs.ro R2_2 _ _) C2_2 hc6) ?_
        intro x7
        refine ls_new rfl rfl (by kernel_rfl) 1 (fun g => .pointer (some ⟨g, 0, none⟩)) (.cells ⟨en (Value.int .u8) (vrep 32 (0 : Int)).1⟩ 23) (fun w => by kernel_rfl) ?_
        intro g8
        refine ls_storec (g := g8) (off := 0) (v := .agg ⟨en (Value.int .u8) t5.1⟩) (vs := en (Value.int .u8) t5.1) (cs := en (Value.int .u8) (vrep 32 (0 : Int)).1) (ty := 23) 1 rfl rfl rfl (by kernel_rfl) (by kernel_rfl) (by kernel_rfl) (by exact rfl) (by kernel_rfl) (len_en _ t5) (one_en (fun _ => rfl) _) (hl_of (Sub4.all _) (len_eq (len_en _ t5) (len_en _ (vrep 32 (0 : Int))))) (cs' := en (Value.int .u8) t5.1) (splc_all (len_eq (len_en _ t5) (len_en _ (vrep 32 (0 : Int))))) ?_
        refine ls_end ?_
        refine qn_then ?_
        refine cs_seq ?_
        refine cs_region (l := [_, _, _, _, _, _]) ?_
        refine ls_val (v := .slice A0_1 l0_1.length c0_1) rfl rfl (by kernel_rfl) (fun w => by kernel_rfl) ?_
        refine ls_val (v := .slice A2_2 l2_2.length c2_2) rfl rfl (by kernel_rfl) (fun w => by kernel_rfl) ?_
        refine ls_str (A := A2_2) (c := c2_2) (e := 5) (l := l2_2) rfl rfl (by kernel_rfl) rfl (by kernel_rfl) (by kernel_rfl) (by kernel_rfl) (by kernel_rfl) (fun w hs => (hs.old R2_2)) ?_
        refine ls_lit (Ec.str 9) 2 rfl rfl (by kernel_rfl) ([strOfNums l2_2, (⟨#[120]⟩ : ByteArray)]) (by exact of_decide_eq_true (by kernel_rfl)) (fun w => by kernel_rfl) ?_
        intro g9
        obtain ⟨t10, hc11, H⟩ := bind_some H
        refine ls_callb (fid := 13) (vals := #[.slice A0_1 l0_1.length c0_1, .slice (some ⟨g9, 0, none⟩) ([strOfNums l2_2, (⟨#[120]⟩ : ByteArray)]).length [strOfNums l2_2, (⟨#[120]⟩ : ByteArray)].length]) (X := (Option Addr × Nat)) (fun x => .slice x.1 t10.length x.2) (fun x => stl [Ck.ro (Ec.int 5 .u8) x.1 x.2 t10]) [] [2] [] [Ck.sl (Ec.str 9) (some ⟨g9, 0, none⟩) ([strOfNums l2_2, (⟨#[120]⟩ : ByteArray)].length) ([strOfNums l2_2, (⟨#[120]⟩ : ByteArray)])] 3 rfl rfl (by kernel_rfl) (fun w => by kernel_rfl) trivial ⟨by exact rfl, trivial⟩ (by decide) (fun w hs hb => hmac_Chain.calls k A0_1 c0_1 l0_1 (some ⟨g9, 0, none⟩) ([strOfNums l2_2, (⟨#[120]⟩ : ByteArray)].length) ([strOfNums l2_2, (⟨#[120]⟩ : ByteArray)]) t10 (lent b w [] [Ck.sl (Ec.str 9) (some ⟨g9, 0, none⟩) ([strOfNums l2_2, (⟨#[120]⟩ : ByteArray)].length) ([strOfNums l2_2, (⟨#[120]⟩ : ByteArray)])]) hb (hs.ro R0_1 _ _) C0_1 (hs.ror (k := 2) (by exact rfl) (.head _)) (hs.cap (k := 2) (by exact rfl)) hc11) ?_
        intro x12
        refine ls_val (v := .slice x12.1 t10.length x12.2) rfl rfl (by kernel_rfl) (fun w => by kernel_rfl) ?_
        refine ls_end ?_
        refine qn_then ?_
        refine cs_seq ?_
        obtain ⟨s14_0, hs14_0⟩ : ∃ z : Value → Sto → Prop, z = (fun v R => v = .slice A7_3 l7_3.length c7_3 ∧ R = s0) := ⟨_, rfl⟩
        refine have_op (l := [_, _, _, _, _, _, _, _, _, _, _, _, _, _, _, _, _, _, _, _, _, _, _, _, _]) shadowboxlaw12_HmacZeros.tab12 4 0 (fun sp => sp 0 = s14_0) (fun sp on hA hon => ?_) (fun ops14_0 => ?_)
        · refine ⟨fun o ho vs Rs f' S' w hp hf hx hS hR hs => ?_⟩
          obtain rfl := Option.some.inj ho
          rw [hA, hs14_0]
          refine And.intro (fun a ha => (want_none rfl a ha).trans hon.symm) (And.intro (fun _ => ?_) (fun h => by rw [hon] at h; cases h))
          have hF := fr_next (rfl) ((hx 7 (by kernel_rfl)).trans (by kernel_rfl : (_ : Value) = .slice A7_3 l7_3.length c7_3))
          refine ls_fr hF ?_
          refine ls_val (v := .slice A7_3 l7_3.length c7_3) rfl rfl (by kernel_rfl) (fun w => by kernel_rfl) ?_
          exact ls_fin s0 (.slice A7_3 l7_3.length c7_3) (congrArg (fun z => upd z 47 _) hF.symm) ⟨rfl, rfl⟩ (sub_nil _)
        obtain ⟨s14_1, hs14_1⟩ : ∃ z : Value → Sto → Prop, z = (fun v R => v = .slice A2_2 l2_2.length c2_2 ∧ R = s0) := ⟨_, rfl⟩
        refine have_op (l := [_, _, _, _, _, _, _, _, _, _, _, _, _, _, _, _, _, _, _, _, _, _, _, _, _]) shadowboxlaw12_HmacZeros.tab12 4 1 (fun sp => sp 1 = s14_1) (fun sp on hA hon => ?_) (fun ops14_1 => ?_)
        · refine ⟨fun o ho vs Rs f' S' w hp hf hx hS hR hs => ?_⟩
          obtain rfl := Option.some.inj ho
          rw [hA, hs14_1]
          refine And.intro (fun a ha => (want_none rfl a ha).trans hon.symm) (And.intro (fun _ => ?_) (fun h => by rw [hon] at h; cases h))
          have hF := fr_next (rfl) ((hx 2 (by kernel_rfl)).trans (by kernel_rfl : (_ : Value) = .slice A2_2 l2_2.length c2_2))
          refine ls_fr hF ?_
          refine ls_val (v := .slice A2_2 l2_2.length c2_2) rfl rfl (by kernel_rfl) (fun w => by kernel_rfl) ?_
          exact ls_fin s0 (.slice A2_2 l2_2.length c2_2) (congrArg (fun z => upd z 48 _) hF.symm) ⟨rfl, rfl⟩ (sub_nil _)
        obtain ⟨t15, hc16, H⟩ := bind_some H
        obtain ⟨s14_2, hs14_2⟩ : ∃ z : Value → Sto → Prop, z = (fun v R => ∃ x17 : Unit, v = .agg ⟨en (Value.int .u8) t15.1⟩ ∧ R = stl []) := ⟨_, rfl⟩
        refine have_op (l := [_, _, _, _, _, _, _, _, _, _, _, _, _, _, _, _, _, _, _, _, _, _, _, _, _]) shadowboxlaw12_HmacZeros.tab12 4 2 (fun sp => sp 2 = s14_2 ∧ sp 0 = s14_0 ∧ sp 1 = s14_1) (fun sp on hA hon => ?_) (fun ops14_2 => ?_)
        · refine ⟨fun o ho vs Rs f' S' w hp hf hx hS hR hs => ?_⟩
          obtain rfl := Option.some.inj ho
          obtain ⟨hv0, hR0⟩ := (spe hA.2.1 hs14_0 (hp 0 (by kernel_rfl)))
          obtain ⟨hv1, hR1⟩ := (spe hA.2.2 hs14_1 (hp 1 (by kernel_rfl)))
          rw [hA.1, hs14_2]
          refine And.intro (fun a ha => (want_none rfl a ha).trans hon.symm) (And.intro (fun _ => ?_) (fun h => by rw [hon] at h; cases h))
          have hF := fr_next (fr_next (rfl) ((hf 0 47 (by kernel_rfl) rfl).trans hv0)) ((hf 1 48 (by kernel_rfl) rfl).trans hv1)
          refine ls_fr hF ?_
          refine ls_call (fid := 9) (vals := #[.slice A7_3 l7_3.length c7_3, .slice A2_2 l2_2.length c2_2]) (X := Unit) (fun x => .agg ⟨en (Value.int .u8) t15.1⟩) (fun x => stl []) 0 rfl rfl (by kernel_rfl) (fun w => by kernel_rfl) (fun w1 hs1 => hmac_Mac.calls k A7_3 c7_3 l7_3 A2_2 c2_2 l2_2 t15 (bw w1) (St.refl w1) (Rd.ro (Rd.step (hs.rd (k := 0) ((hS 0 (by kernel_rfl)).trans (by exact rfl))) hs1.below.bw)) (hs.cap (k := 0) ((hS 0 (by kernel_rfl)).trans (by exact rfl))) (Rd.ro (Rd.step (hs.old R2_2) hs1.below.bw)) C2_2 hc16) ?_
          intro x17
          exact ls_fin (stl []) (.agg ⟨en (Value.int .u8) t15.1⟩) (congrArg (fun z => upd z 49 _) hF.symm) ⟨x17, rfl, rfl⟩ (sub_join _)
        obtain ⟨s14_3, hs14_3⟩ : ∃ z : Value → Sto → Prop, z = (fun v R => v = .agg ⟨en (Value.int .u8) t5.1⟩ ∧ R = s0) := ⟨_, rfl⟩
        refine have_op (l := [_, _, _, _, _, _, _, _, _, _, _, _, _, _, _, _, _, _, _, _, _, _, _, _, _]) shadowboxlaw12_HmacZeros.tab12 4 3 (fun sp => sp 3 = s14_3) (fun sp on hA hon => ?_) (fun ops14_3 => ?_)
        · refine ⟨fun o ho vs Rs f' S' w hp hf hx hS hR hs => ?_⟩
          obtain rfl := Option.some.inj ho
          rw [hA, hs14_3]
          refine And.intro (fun a ha => (want_none rfl a ha).trans hon.symm) (And.intro (fun _ => ?_) (fun h => by rw [hon] at h; cases h))
          have hF := fr_next (rfl) ((hx 9 (by kernel_rfl)).trans (by kernel_rfl : (_ : Value) = .pointer (some ⟨g8, 0, none⟩)))
          refine ls_fr hF ?_
          refine ls_loadagg (a := ⟨g8, 0, none⟩) (sub := en (Value.int .u8) t5.1) rfl rfl (by kernel_rfl) rfl (by kernel_rfl) (by kernel_rfl) (by kernel_rfl) (len_en _ t5) (fun w1 hs1 => Rd.step (hs.vars (k := 1) ((hS 1 (by kernel_rfl)).trans (by exact rfl)) (Sub4.all _)) hs1.below.bw) ?_
          exact ls_fin s0 (.agg ⟨en (Value.int .u8) t5.1⟩) (congrArg (fun z => upd z 50 _) hF.symm) ⟨rfl, rfl⟩ (sub_nil _)
        obtain ⟨s14_4, hs14_4⟩ : ∃ z : Value → Sto → Prop, z = (fun v R => v = .bool (t15.1 == t5.1) ∧ R = s0) := ⟨_, rfl⟩
        refine have_op (l := [_, _, _, _, _, _, _, _, _, _, _, _, _, _, _, _, _, _, _, _, _, _, _, _, _]) shadowboxlaw12_HmacZeros.tab12 4 4 (fun sp => sp 4 = s14_4 ∧ sp 2 = s14_2 ∧ sp 3 = s14_3) (fun sp on hA hon => ?_) (fun ops14_4 => ?_)
        · refine ⟨fun o ho vs Rs f' S' w hp hf hx hS hR hs => ?_⟩
          obtain rfl := Option.some.inj ho
          obtain ⟨x17, hv2, hR2⟩ := (spe hA.2.1 hs14_2 (hp 2 (by kernel_rfl)))
          obtain ⟨hv3, hR3⟩ := (spe hA.2.2 hs14_3 (hp 3 (by kernel_rfl)))
          rw [hA.1, hs14_4]
          refine And.intro (fun a ha => (want_none rfl a ha).trans hon.symm) (And.intro (fun _ => ?_) (fun h => by rw [hon] at h; cases h))
          have hF := fr_next (fr_next (rfl) ((hf 2 49 (by kernel_rfl) rfl).trans hv2)) ((hf 3 50 (by kernel_rfl) rfl).trans hv3)
          refine ls_fr hF ?_
          refine ls_eql (xs := en (Value.int .u8) t15.1) (ys := en (Value.int .u8) t5.1) (r := (t15.1 == t5.1)) rfl rfl (by kernel_rfl) rfl (by kernel_rfl) (by kernel_rfl) (by kernel_rfl) (eq_ints (e := 5) (ln := 32) (by kernel_rfl) (by kernel_rfl) (by kernel_rfl) t15.2 t5.2 _) ?_
          exact ls_fin s0 (.bool (t15.1 == t5.1)) (congrArg (fun z => upd z 51 _) hF.symm) ⟨rfl, rfl⟩ (sub_nil _)
        obtain ⟨s14_5, hs14_5⟩ : ∃ z : Value → Sto → Prop, z = (fun v R => v = .bool (t15.1 == t5.1) ∧ R = s0) := ⟨_, rfl⟩
        refine have_op (l := [_, _, _, _, _, _, _, _, _, _, _, _, _, _, _, _, _, _, _, _, _, _, _, _, _]) shadowboxlaw12_HmacZeros.tab12 4 5 (fun sp => sp 5 = s14_5 ∧ sp 4 = s14_4) (fun sp on hA hon => ?_) (fun ops14_5 => ?_)
        · refine ⟨fun o ho vs Rs f' S' w hp hf hx hS hR hs => ?_⟩
          obtain rfl := Option.some.inj ho
          obtain ⟨hv4, hR4⟩ := (spe hA.2 hs14_4 (hp 4 (by kernel_rfl)))
          rw [hA.1, hs14_5]
          refine And.intro (fun a ha => (want_none rfl a ha).trans hon.symm) (And.intro (fun _ => ?_) (fun h => by rw [hon] at h; cases h))
          have hF := fr_next (rfl) ((hf 4 51 (by kernel_rfl) rfl).trans hv4)
          refine ls_fr hF ?_
          refine ls_val (v := .bool (t15.1 == t5.1)) rfl rfl (by kernel_rfl) (fun w => by kernel_rfl) ?_
          exact ls_fin s0 (.bool (t15.1 == t5.1)) (congrArg (fun z => upd z 52 _) hF.symm) ⟨rfl, rfl⟩ (sub_nil _)
        by_cases q18 : (t15.1 == t5.1) = true
        · replace H := ite_t q18 H
          obtain ⟨s14_6, hs14_6⟩ : ∃ z : Value → Sto → Prop, z = (fun v R => v = .slice x12.1 t10.length x12.2 ∧ R = s0) := ⟨_, rfl⟩
          refine have_op (l := [_, _, _, _, _, _, _, _, _, _, _, _, _, _, _, _, _, _, _, _, _, _, _, _, _]) shadowboxlaw12_HmacZeros.tab12 4 6 (fun sp => sp 6 = s14_6 ∧ sp 5 = s14_5) (fun sp on hA hon => ?_) (fun ops14_6 => ?_)
          · refine ⟨fun o ho vs Rs f' S' w hp hf hx hS hR hs => ?_⟩
            obtain rfl := Option.some.inj ho
            obtain ⟨hv5, hR5⟩ := (spe hA.2 hs14_5 (hp 5 (by kernel_rfl)))
            rw [hA.1, hs14_6]
            refine And.intro (fun a ha => (want_is (j := 5) (t := 52) (r := true) rfl rfl (by kernel_rfl) (((hf 5 52 (by kernel_rfl) rfl).trans hv5).trans (congrArg Value.bool (show (t15.1 == t5.1) = true from q18))) rfl a ha).trans hon.symm) (And.intro (fun _ => ?_) (fun h => by rw [hon] at h; cases h))
            have hF := fr_next (fr_next (rfl) ((hx 10 (by kernel_rfl)).trans (by kernel_rfl : (_ : Value) = .slice x12.1 t10.length x12.2))) (((hf 5 52 (by kernel_rfl) rfl).trans hv5).trans (congrArg Value.bool (show (t15.1 == t5.1) = true from q18)))
            refine ls_fr hF ?_
            refine ls_val (v := .slice x12.1 t10.length x12.2) rfl rfl (by kernel_rfl) (fun w => by kernel_rfl) ?_
            exact ls_fin s0 (.slice x12.1 t10.length x12.2) (congrArg (fun z => upd z 53 _) hF.symm) ⟨rfl, rfl⟩ (sub_nil _)
          obtain ⟨s14_7, hs14_7⟩ : ∃ z : Value → Sto → Prop, z = (fun v R => v = .slice (some ⟨g8, 0, none⟩) t5.1.length 32 ∧ R = s0) := ⟨_, rfl⟩
          refine have_op (l := [_, _, _, _, _, _, _, _, _, _, _, _, _, _, _, _, _, _, _, _, _, _, _, _, _]) shadowboxlaw12_HmacZeros.tab12 4 7 (fun sp => sp 7 = s14_7 ∧ sp 5 = s14_5) (fun sp on hA hon => ?_) (fun ops14_7 => ?_)
          · refine ⟨fun o ho vs Rs f' S' w hp hf hx hS hR hs => ?_⟩
            obtain rfl := Option.some.inj ho
            obtain ⟨hv5, hR5⟩ := (spe hA.2 hs14_5 (hp 5 (by kernel_rfl)))
            rw [hA.1, hs14_7]
            refine And.intro (fun a ha => (want_is (j := 5) (t := 52) (r := true) rfl rfl (by kernel_rfl) (((hf 5 52 (by kernel_rfl) rfl).trans hv5).trans (congrArg Value.bool (show (t15.1 == t5.1) = true from q18))) rfl a ha).trans hon.symm) (And.intro (fun _ => ?_) (fun h => by rw [hon] at h; cases h))
            have hF := fr_next (fr_next (rfl) ((hx 9 (by kernel_rfl)).trans (by kernel_rfl : (_ : Value) = .pointer (some ⟨g8, 0, none⟩)))) (((hf 5 52 (by kernel_rfl) rfl).trans hv5).trans (congrArg Value.bool (show (t15.1 == t5.1) = true from q18)))
            refine ls_fr hF ?_
            refine ls_val (v := .slice (some ⟨g8, 0, none⟩) t5.1.length 32) rfl rfl (by kernel_rfl) (fun w => by rw [show t5.1.length = 32 from t5.2]; kernel_rfl) ?_
            exact ls_fin s0 (.slice (some ⟨g8, 0, none⟩) t5.1.length 32) (congrArg (fun z => upd z 54 _) hF.symm) ⟨rfl, rfl⟩ (sub_nil _)
          obtain ⟨s14_8, hs14_8⟩ : ∃ z : Value → Sto → Prop, z = (fun v R => ∃ g19 : Nat, v = .slice (some ⟨g19, 0, none⟩) [(⟨#[120]⟩ : ByteArray)].length [(⟨#[120]⟩ : ByteArray)].length ∧ R = sput s0 0 (some (Ck.sl (Ec.str 9) (some ⟨g19, 0, none⟩) ([(⟨#[120]⟩ : ByteArray)].length) ([(⟨#[120]⟩ : ByteArray)])))) := ⟨_, rfl⟩
          refine have_op (l := [_, _, _, _, _, _, _, _, _, _, _, _, _, _, _, _, _, _, _, _, _, _, _, _, _]) shadowboxlaw12_HmacZeros.tab12 4 8 (fun sp => sp 8 = s14_8 ∧ sp 5 = s14_5) (fun sp on hA hon => ?_) (fun ops14_8 => ?_)
          · refine ⟨fun o ho vs Rs f' S' w hp hf hx hS hR hs => ?_⟩
            obtain rfl := Option.some.inj ho
            obtain ⟨hv5, hR5⟩ := (spe hA.2 hs14_5 (hp 5 (by kernel_rfl)))
            rw [hA.1, hs14_8]
            refine And.intro (fun a ha => (want_is (j := 5) (t := 52) (r := true) rfl rfl (by kernel_rfl) (((hf 5 52 (by kernel_rfl) rfl).trans hv5).trans (congrArg Value.bool (show (t15.1 == t5.1) = true from q18))) rfl a ha).trans hon.symm) (And.intro (fun _ => ?_) (fun h => by rw [hon] at h; cases h))
            have hF := fr_next (rfl) (((hf 5 52 (by kernel_rfl) rfl).trans hv5).trans (congrArg Value.bool (show (t15.1 == t5.1) = true from q18)))
            refine ls_fr hF ?_
            refine ls_lit (Ec.str 9) 0 rfl rfl (by kernel_rfl) ([(⟨#[120]⟩ : ByteArray)]) (by exact of_decide_eq_true (by kernel_rfl)) (fun w => by kernel_rfl) ?_
            intro g19
            exact ls_fin (sput s0 0 (some (Ck.sl (Ec.str 9) (some ⟨g19, 0, none⟩) ([(⟨#[120]⟩ : ByteArray)].length) ([(⟨#[120]⟩ : ByteArray)])))) (.slice (some ⟨g19, 0, none⟩) [(⟨#[120]⟩ : ByteArray)].length [(⟨#[120]⟩ : ByteArray)].length) (congrArg (fun z => upd z 55 _) hF.symm) ⟨g19, rfl, rfl⟩ (sub_put (by exact rfl) (sub_nil _))
          obtain ⟨t20, hc21, H⟩ := bind_some H
          obtain ⟨s14_9, hs14_9⟩ : ∃ z : Value → Sto → Prop, z = (fun v R => ∃ x22 : (Option Addr × Nat), v = .slice x22.1 t20.length x22.2 ∧ R = stl [Ck.ro (Ec.int 5 .u8) x22.1 x22.2 t20]) := ⟨_, rfl⟩
          refine have_op (l := [_, _, _, _, _, _, _, _, _, _, _, _, _, _, _, _, _, _, _, _, _, _, _, _, _]) shadowboxlaw12_HmacZeros.tab12 4 9 (fun sp => sp 9 = s14_9 ∧ sp 5 = s14_5 ∧ sp 7 = s14_7 ∧ sp 8 = s14_8) (fun sp on hA hon => ?_) (fun ops14_9 => ?_)
          · refine ⟨fun o ho vs Rs f' S' w hp hf hx hS hR hs => ?_⟩
            obtain rfl := Option.some.inj ho
            obtain ⟨hv5, hR5⟩ := (spe hA.2.1 hs14_5 (hp 5 (by kernel_rfl)))
            obtain ⟨hv7, hR7⟩ := (spe hA.2.2.1 hs14_7 (hp 7 (by kernel_rfl)))
            obtain ⟨g19, hv8, hR8⟩ := (spe hA.2.2.2 hs14_8 (hp 8 (by kernel_rfl)))
            have hT8_0 := (hR 8 0 (by kernel_rfl) (by decide)).trans (congrFun hR8 0)
            rw [hA.1, hs14_9]
            refine And.intro (fun a ha => (want_is (j := 5) (t := 52) (r := true) rfl rfl (by kernel_rfl) (((hf 5 52 (by kernel_rfl) rfl).trans hv5).trans (congrArg Value.bool (show (t15.1 == t5.1) = true from q18))) rfl a ha).trans hon.symm) (And.intro (fun _ => ?_) (fun h => by rw [hon] at h; cases h))
            have hF := fr_next (fr_next (fr_next (rfl) (((hf 5 52 (by kernel_rfl) rfl).trans hv5).trans (congrArg Value.bool (show (t15.1 == t5.1) = true from q18)))) ((hf 7 54 (by kernel_rfl) rfl).trans hv7)) ((hf 8 55 (by kernel_rfl) rfl).trans hv8)
            refine ls_fr hF ?_
            refine ls_call (fid := 13) (vals := #[.slice (some ⟨g8, 0, none⟩) t5.1.length 32, .slice (some ⟨g19, 0, none⟩) ([(⟨#[120]⟩ : ByteArray)]).length [(⟨#[120]⟩ : ByteArray)].length]) (X := (Option Addr × Nat)) (fun x => .slice x.1 t20.length x.2) (fun x => stl [Ck.ro (Ec.int 5 .u8) x.1 x.2 t20]) 0 rfl rfl (by kernel_rfl) (fun w => by kernel_rfl) (fun w1 hs1 => hmac_Chain.calls k (some ⟨g8, 0, none⟩) 32 t5.1 (some ⟨g19, 0, none⟩) ([(⟨#[120]⟩ : ByteArray)].length) ([(⟨#[120]⟩ : ByteArray)]) t20 (bw w1) (St.refl w1) (Rd.ro (Rd.step (Rd.ofen (t := 5) (hs.vars (k := 1) ((hS 1 (by kernel_rfl)).trans (by exact rfl)) (Sub4.all _))) hs1.below.bw)) (Nat.le_of_eq t5.2) (Rd.ro (Rd.step (hs.rd (k := 68) hT8_0) hs1.below.bw)) (hs.cap (k := 68) hT8_0) hc21) ?_
            intro x22
            exact ls_fin (stl [Ck.ro (Ec.int 5 .u8) x22.1 x22.2 t20]) (.slice x22.1 t20.length x22.2) (congrArg (fun z => upd z 56 _) hF.symm) ⟨x22, rfl, rfl⟩ (sub_join _)
          obtain ⟨t23, hc24, H⟩ := bind_some H
          obtain ⟨s14_10, hs14_10⟩ : ∃ z : Value → Sto → Prop, z = (fun v R => ∃ x25 : Unit, v = .bool t23 ∧ R = stl []) := ⟨_, rfl⟩
          refine have_op (l := [_, _, _, _, _, _, _, _, _, _, _, _, _, _, _, _, _, _, _, _, _, _, _, _, _]) shadowboxlaw12_HmacZeros.tab12 4 10 (fun sp => sp 10 = s14_10 ∧ sp 5 = s14_5 ∧ sp 6 = s14_6 ∧ sp 9 = s14_9) (fun sp on hA hon => ?_) (fun ops14_10 => ?_)
          · refine ⟨fun o ho vs Rs f' S' w hp hf hx hS hR hs => ?_⟩
            obtain rfl := Option.some.inj ho
            obtain ⟨hv5, hR5⟩ := (spe hA.2.1 hs14_5 (hp 5 (by kernel_rfl)))
            obtain ⟨hv6, hR6⟩ := (spe hA.2.2.1 hs14_6 (hp 6 (by kernel_rfl)))
            obtain ⟨x22, hv9, hR9⟩ := (spe hA.2.2.2 hs14_9 (hp 9 (by kernel_rfl)))
            have hT9_0 := (hR 9 0 (by kernel_rfl) (by decide)).trans (congrFun hR9 0)
            rw [hA.1, hs14_10]
            refine And.intro (fun a ha => (want_is (j := 5) (t := 52) (r := true) rfl rfl (by kernel_rfl) (((hf 5 52 (by kernel_rfl) rfl).trans hv5).trans (congrArg Value.bool (show (t15.1 == t5.1) = true from q18))) rfl a ha).trans hon.symm) (And.intro (fun _ => ?_) (fun h => by rw [hon] at h; cases h))
            have hF := fr_next (fr_next (fr_next (rfl) (((hf 5 52 (by kernel_rfl) rfl).trans hv5).trans (congrArg Value.bool (show (t15.1 == t5.1) = true from q18)))) ((hf 6 53 (by kernel_rfl) rfl).trans hv6)) ((hf 9 56 (by kernel_rfl) rfl).trans hv9)
            refine ls_fr hF ?_
            refine ls_call (fid := 15) (vals := #[.slice x12.1 t10.length x12.2, .slice x22.1 t20.length x22.2]) (X := Unit) (fun x => .bool t23) (fun x => stl []) 0 rfl rfl (by kernel_rfl) (fun w => by kernel_rfl) (fun w1 hs1 => hmac_Same.calls k x12.1 x12.2 t10 x22.1 x22.2 t20 t23 (bw w1) (St.refl w1) (Rd.ro (Rd.step (hs.rod (k := 3) ((hS 3 (by kernel_rfl)).trans (by exact rfl))) hs1.below.bw)) (hs.rocap (k := 3) ((hS 3 (by kernel_rfl)).trans (by exact rfl))) (Rd.ro (Rd.step (hs.rod (k := 76) hT9_0) hs1.below.bw)) (hs.rocap (k := 76) hT9_0) hc24) ?_
            intro x25
            exact ls_fin (stl []) (.bool t23) (congrArg (fun z => upd z 57 _) hF.symm) ⟨x25, rfl, rfl⟩ (sub_join _)
          obtain ⟨s14_11, hs14_11⟩ : ∃ z : Value → Sto → Prop, z = (fun v R => v = .bool t23 ∧ R = s0) := ⟨_, rfl⟩
          refine have_op (l := [_, _, _, _, _, _, _, _, _, _, _, _, _, _, _, _, _, _, _, _, _, _, _, _, _]) shadowboxlaw12_HmacZeros.tab12 4 11 (fun sp => sp 11 = s14_11 ∧ sp 5 = s14_5 ∧ sp 10 = s14_10) (fun sp on hA hon => ?_) (fun ops14_11 => ?_)
          · refine ⟨fun o ho vs Rs f' S' w hp hf hx hS hR hs => ?_⟩
            obtain rfl := Option.some.inj ho
            obtain ⟨hv5, hR5⟩ := (spe hA.2.1 hs14_5 (hp 5 (by kernel_rfl)))
            obtain ⟨x25, hv10, hR10⟩ := (spe hA.2.2 hs14_10 (hp 10 (by kernel_rfl)))
            rw [hA.1, hs14_11]
            refine And.intro (fun a ha => (want_none rfl a ha).trans hon.symm) (And.intro (fun _ => ?_) (fun h => by rw [hon] at h; cases h))
            have hF := fr_next (fr_next (rfl) (((hf 5 52 (by kernel_rfl) rfl).trans hv5).trans (congrArg Value.bool (show (t15.1 == t5.1) = true from q18)))) ((hf 10 57 (by kernel_rfl) rfl).trans hv10)
            refine ls_fr hF ?_
            refine ls_val (v := .bool t23) rfl rfl (by kernel_rfl) (fun w => by kernel_rfl) ?_
            exact ls_fin s0 (.bool t23) (congrArg (fun z => upd z 58 _) hF.symm) ⟨rfl, rfl⟩ (sub_nil _)
          obtain ⟨s14_12, hs14_12⟩ : ∃ z : Value → Sto → Prop, z = (fun v R => v = .bool t23 ∧ R = s0) := ⟨_, rfl⟩
          refine have_op (l := [_, _, _, _, _, _, _, _, _, _, _, _, _, _, _, _, _, _, _, _, _, _, _, _, _]) shadowboxlaw12_HmacZeros.tab12 4 12 (fun sp => sp 12 = s14_12 ∧ sp 11 = s14_11) (fun sp on hA hon => ?_) (fun ops14_12 => ?_)
          · refine ⟨fun o ho vs Rs f' S' w hp hf hx hS hR hs => ?_⟩
            obtain rfl := Option.some.inj ho
            obtain ⟨hv11, hR11⟩ := (spe hA.2 hs14_11 (hp 11 (by kernel_rfl)))
            rw [hA.1, hs14_12]
            refine And.intro (fun a ha => (want_none rfl a ha).trans hon.symm) (And.intro (fun _ => ?_) (fun h => by rw [hon] at h; cases h))
            have hF := fr_next (rfl) ((hf 11 58 (by kernel_rfl) rfl).trans hv11)
            refine ls_fr hF ?_
            refine ls_val (v := .bool t23) rfl rfl (by kernel_rfl) (fun w => by kernel_rfl) ?_
            exact ls_fin s0 (.bool t23) (congrArg (fun z => upd z 59 _) hF.symm) ⟨rfl, rfl⟩ (sub_nil _)
          by_cases q26 : t23 = true
          · replace H := ite_t q26 H
            obtain ⟨s14_13, hs14_13⟩ : ∃ z : Value → Sto → Prop, z = (fun v R => v = .slice x12.1 t10.length x12.2 ∧ R = s0) := ⟨_, rfl⟩
            refine have_op (l := [_, _, _, _, _, _, _, _, _, _, _, _, _, _, _, _, _, _, _, _, _, _, _, _, _]) shadowboxlaw12_HmacZeros.tab12 4 13 (fun sp => sp 13 = s14_13 ∧ sp 12 = s14_12) (fun sp on hA hon => ?_) (fun ops14_13 => ?_)
            · refine ⟨fun o ho vs Rs f' S' w hp hf hx hS hR hs => ?_⟩
              obtain rfl := Option.some.inj ho
              obtain ⟨hv12, hR12⟩ := (spe hA.2 hs14_12 (hp 12 (by kernel_rfl)))
              rw [hA.1, hs14_13]
              refine And.intro (fun a ha => (want_is (j := 12) (t := 59) (r := true) rfl rfl (by kernel_rfl) (((hf 12 59 (by kernel_rfl) rfl).trans hv12).trans (congrArg Value.bool (show t23 = true from q26))) rfl a ha).trans hon.symm) (And.intro (fun _ => ?_) (fun h => by rw [hon] at h; cases h))
              have hF := fr_next (fr_next (rfl) ((hx 10 (by kernel_rfl)).trans (by kernel_rfl : (_ : Value) = .slice x12.1 t10.length x12.2))) (((hf 12 59 (by kernel_rfl) rfl).trans hv12).trans (congrArg Value.bool (show t23 = true from q26)))
              refine ls_fr hF ?_
              refine ls_val (v := .slice x12.1 t10.length x12.2) rfl rfl (by kernel_rfl) (fun w => by kernel_rfl) ?_
              exact ls_fin s0 (.slice x12.1 t10.length x12.2) (congrArg (fun z => upd z 60 _) hF.symm) ⟨rfl, rfl⟩ (sub_nil _)
            obtain ⟨s14_14, hs14_14⟩ : ∃ z : Value → Sto → Prop, z = (fun v R => v = .int .i64 (t10.length : Int) ∧ R = s0) := ⟨_, rfl⟩
            refine have_op (l := [_, _, _, _, _, _, _, _, _, _, _, _, _, _, _, _, _, _, _, _, _, _, _, _, _]) shadowboxlaw12_HmacZeros.tab12 4 14 (fun sp => sp 14 = s14_14 ∧ sp 12 = s14_12 ∧ sp 13 = s14_13) (fun sp on hA hon => ?_) (fun ops14_14 => ?_)
            · refine ⟨fun o ho vs Rs f' S' w hp hf hx hS hR hs => ?_⟩
              obtain rfl := Option.some.inj ho
              obtain ⟨hv12, hR12⟩ := (spe hA.2.1 hs14_12 (hp 12 (by kernel_rfl)))
              obtain ⟨hv13, hR13⟩ := (spe hA.2.2 hs14_13 (hp 13 (by kernel_rfl)))
              rw [hA.1, hs14_14]
              refine And.intro (fun a ha => (want_is (j := 12) (t := 59) (r := true) rfl rfl (by kernel_rfl) (((hf 12 59 (by kernel_rfl) rfl).trans hv12).trans (congrArg Value.bool (show t23 = true from q26))) rfl a ha).trans hon.symm) (And.intro (fun _ => ?_) (fun h => by rw [hon] at h; cases h))
              have hF := fr_next (fr_next (rfl) (((hf 12 59 (by kernel_rfl) rfl).trans hv12).trans (congrArg Value.bool (show t23 = true from q26)))) ((hf 13 60 (by kernel_rfl) rfl).trans hv13)
              refine ls_fr hF ?_
              refine ls_val (v := .int .i64 (t10.length : Int)) rfl rfl (by kernel_rfl) (fun w => by kernel_rfl) ?_
              exact ls_fin s0 (.int .i64 (t10.length : Int)) (congrArg (fun z => upd z 61 _) hF.symm) ⟨rfl, rfl⟩ (sub_nil _)
            obtain ⟨s14_15, hs14_15⟩ : ∃ z : Value → Sto → Prop, z = (fun v R => v = .bool (decide ((t10.length : Int) = (32 : Int))) ∧ R = s0) := ⟨_, rfl⟩
            refine have_op (l := [_, _, _, _, _, _, _, _, _, _, _, _, _, _, _, _, _, _, _, _, _, _, _, _, _]) shadowboxlaw12_HmacZeros.tab12 4 15 (fun sp => sp 15 = s14_15 ∧ sp 12 = s14_12 ∧ sp 14 = s14_14) (fun sp on hA hon => ?_) (fun ops14_15 => ?_)
            · refine ⟨fun o ho vs Rs f' S' w hp hf hx hS hR hs => ?_⟩
              obtain rfl := Option.some.inj ho
              obtain ⟨hv12, hR12⟩ := (spe hA.2.1 hs14_12 (hp 12 (by kernel_rfl)))
              obtain ⟨hv14, hR14⟩ := (spe hA.2.2 hs14_14 (hp 14 (by kernel_rfl)))
              rw [hA.1, hs14_15]
              refine And.intro (fun a ha => (want_is (j := 12) (t := 59) (r := true) rfl rfl (by kernel_rfl) (((hf 12 59 (by kernel_rfl) rfl).trans hv12).trans (congrArg Value.bool (show t23 = true from q26))) rfl a ha).trans hon.symm) (And.intro (fun _ => ?_) (fun h => by rw [hon] at h; cases h))
              have hF := fr_next (fr_next (rfl) (((hf 12 59 (by kernel_rfl) rfl).trans hv12).trans (congrArg Value.bool (show t23 = true from q26)))) ((hf 14 61 (by kernel_rfl) rfl).trans hv14)
              refine ls_fr hF ?_
              refine ls_val (v := .bool (decide ((t10.length : Int) = (32 : Int)))) rfl rfl (by kernel_rfl) (fun w => by kernel_rfl) ?_
              exact ls_fin s0 (.bool (decide ((t10.length : Int) = (32 : Int)))) (congrArg (fun z => upd z 62 _) hF.symm) ⟨rfl, rfl⟩ (sub_nil _)
            obtain ⟨s14_16, hs14_16⟩ : ∃ z : Value → Sto → Prop, z = (fun v R => v = .bool (decide ((t10.length : Int) = (32 : Int))) ∧ R = s0) := ⟨_, rfl⟩
            refine have_op (l := [_, _, _, _, _, _, _, _, _, _, _, _, _, _, _, _, _, _, _, _, _, _, _, _, _]) shadowboxlaw12_HmacZeros.tab12 4 16 (fun sp => sp 16 = s14_16 ∧ sp 12 = s14_12 ∧ sp 15 = s14_15) (fun sp on hA hon => ?_) (fun ops14_16 => ?_)
            · refine ⟨fun o ho vs Rs f' S' w hp hf hx hS hR hs => ?_⟩
              obtain rfl := Option.some.inj ho
              obtain ⟨hv12, hR12⟩ := (spe hA.2.1 hs14_12 (hp 12 (by kernel_rfl)))
              obtain ⟨hv15, hR15⟩ := (spe hA.2.2 hs14_15 (hp 15 (by kernel_rfl)))
              rw [hA.1, hs14_16]
              refine And.intro (fun a ha => (want_none rfl a ha).trans hon.symm) (And.intro (fun _ => ?_) (fun h => by rw [hon] at h; cases h))
              have hF := fr_next (fr_next (rfl) (((hf 12 59 (by kernel_rfl) rfl).trans hv12).trans (congrArg Value.bool (show t23 = true from q26)))) ((hf 15 62 (by kernel_rfl) rfl).trans hv15)
              refine ls_fr hF ?_
              refine ls_val (v := .bool (decide ((t10.length : Int) = (32 : Int)))) rfl rfl (by kernel_rfl) (fun w => by kernel_rfl) ?_
              exact ls_fin s0 (.bool (decide ((t10.length : Int) = (32 : Int)))) (congrArg (fun z => upd z 63 _) hF.symm) ⟨rfl, rfl⟩ (sub_nil _)
            obtain ⟨s14_17, hs14_17⟩ : ∃ z : Value → Sto → Prop, z = (fun v R => v = .bool (decide ((t10.length : Int) = (32 : Int))) ∧ R = s0) := ⟨_, rfl⟩
            refine have_op (l := [_, _, _, _, _, _, _, _, _, _, _, _, _, _, _, _, _, _, _, _, _, _, _, _, _]) shadowboxlaw12_HmacZeros.tab12 4 17 (fun sp => sp 17 = s14_17 ∧ sp 16 = s14_16) (fun sp on hA hon => ?_) (fun ops14_17 => ?_)
            · refine ⟨fun o ho vs Rs f' S' w hp hf hx hS hR hs => ?_⟩
              obtain rfl := Option.some.inj ho
              obtain ⟨hv16, hR16⟩ := (spe hA.2 hs14_16 (hp 16 (by kernel_rfl)))
              rw [hA.1, hs14_17]
              refine And.intro (fun a ha => (want_none rfl a ha).trans hon.symm) (And.intro (fun _ => ?_) (fun h => by rw [hon] at h; cases h))
              have hF := fr_next (rfl) ((hf 16 63 (by kernel_rfl) rfl).trans hv16)
              refine ls_fr hF ?_
              refine ls_val (v := .bool (decide ((t10.length : Int) = (32 : Int)))) rfl rfl (by kernel_rfl) (fun w => by kernel_rfl) ?_
              exact ls_fin s0 (.bool (decide ((t10.length : Int) = (32 : Int)))) (congrArg (fun z => upd z 64 _) hF.symm) ⟨rfl, rfl⟩ (sub_nil _)
            by_cases q27 : (t10.length : Int) = (32 : Int)
            · replace H := ite_t q27 H
              obtain ⟨s14_18, hs14_18⟩ : ∃ z : Value → Sto → Prop, z = (fun v R => v = .slice A0_1 l0_1.length c0_1 ∧ R = s0) := ⟨_, rfl⟩
              refine have_op (l := [_, _, _, _, _, _, _, _, _, _, _, _, _, _, _, _, _, _, _, _, _, _, _, _, _]) shadowboxlaw12_HmacZeros.tab12 4 18 (fun sp => sp 18 = s14_18 ∧ sp 17 = s14_17) (fun sp on hA hon => ?_) (fun ops14_18 => ?_)
              · refine ⟨fun o ho vs Rs f' S' w hp hf hx hS hR hs => ?_⟩
                obtain rfl := Option.some.inj ho
                obtain ⟨hv17, hR17⟩ := (spe hA.2 hs14_17 (hp 17 (by kernel_rfl)))
                rw [hA.1, hs14_18]
                refine And.intro (fun a ha => (want_is (j := 17) (t := 64) (r := true) rfl rfl (by kernel_rfl) (((hf 17 64 (by kernel_rfl) rfl).trans hv17).trans (congrArg Value.bool (show (decide ((t10.length : Int) = (32 : Int))) = true from dec_t q27))) rfl a ha).trans hon.symm) (And.intro (fun _ => ?_) (fun h => by rw [hon] at h; cases h))
                have hF := fr_next (fr_next (rfl) ((hx 0 (by kernel_rfl)).trans (by kernel_rfl : (_ : Value) = .slice A0_1 l0_1.length c0_1))) (((hf 17 64 (by kernel_rfl) rfl).trans hv17).trans (congrArg Value.bool (show (decide ((t10.length : Int) = (32 : Int))) = true from dec_t q27)))
                refine ls_fr hF ?_
                refine ls_val (v := .slice A0_1 l0_1.length c0_1) rfl rfl (by kernel_rfl) (fun w => by kernel_rfl) ?_
                exact ls_fin s0 (.slice A0_1 l0_1.length c0_1) (congrArg (fun z => upd z 65 _) hF.symm) ⟨rfl, rfl⟩ (sub_nil _)
              obtain ⟨s14_19, hs14_19⟩ : ∃ z : Value → Sto → Prop, z = (fun v R => v = .slice A2_2 l2_2.length c2_2 ∧ R = s0) := ⟨_, rfl⟩
              refine have_op (l := [_, _, _, _, _, _, _, _, _, _, _, _, _, _, _, _, _, _, _, _, _, _, _, _, _]) shadowboxlaw12_HmacZeros.tab12 4 19 (fun sp => sp 19 = s14_19 ∧ sp 17 = s14_17) (fun sp on hA hon => ?_) (fun ops14_19 => ?_)
              · refine ⟨fun o ho vs Rs f' S' w hp hf hx hS hR hs => ?_⟩
                obtain rfl := Option.some.inj ho
                obtain ⟨hv17, hR17⟩ := (spe hA.2 hs14_17 (hp 17 (by kernel_rfl)))
                rw [hA.1, hs14_19]
                refine And.intro (fun a ha => (want_is (j := 17) (t := 64) (r := true) rfl rfl (by kernel_rfl) (((hf 17 64 (by kernel_rfl) rfl).trans hv17).trans (congrArg Value.bool (show (decide ((t10.length : Int) = (32 : Int))) = true from dec_t q27))) rfl a ha).trans hon.symm) (And.intro (fun _ => ?_) (fun h => by rw [hon] at h; cases h))
                have hF := fr_next (fr_next (rfl) ((hx 2 (by kernel_rfl)).trans (by kernel_rfl : (_ : Value) = .slice A2_2 l2_2.length c2_2))) (((hf 17 64 (by kernel_rfl) rfl).trans hv17).trans (congrArg Value.bool (show (decide ((t10.length : Int) = (32 : Int))) = true from dec_t q27)))
                refine ls_fr hF ?_
                refine ls_val (v := .slice A2_2 l2_2.length c2_2) rfl rfl (by kernel_rfl) (fun w => by kernel_rfl) ?_
                exact ls_fin s0 (.slice A2_2 l2_2.length c2_2) (congrArg (fun z => upd z 66 _) hF.symm) ⟨rfl, rfl⟩ (sub_nil _)
              refine cs_draw shadowboxlaw12_HmacZeros.tab12 20 4 (spl [s14_0, s14_1, s14_2, s14_3, s14_4, s14_5, s14_6, s14_7, s14_8, s14_9, s14_10, s14_11, s14_12, s14_13, s14_14, s14_15, s14_16, s14_17, s14_18, s14_19]) (onl [true, true, true, true, true, true, true, true, true, true, true, true, true, true, true, true, true, true, true, true]) (by kernel_rfl) (by kernel_rfl) (by kernel_rfl) (by kernel_rfl) (rs := [_, _, _, _, _]) rfl (by kernel_rfl) (by kernel_rfl) (all_snoc (all_snoc (all_snoc (all_snoc (all_snoc (all_snoc (all_snoc (all_snoc (all_snoc (all_snoc (all_snoc (all_snoc (all_snoc (all_snoc (all_snoc (all_snoc (all_snoc (all_snoc (all_snoc (all_snoc (all_nil) (ops14_0 _ _ rfl rfl)) (ops14_1 _ _ rfl rfl)) (ops14_2 _ _ ⟨rfl, rfl, rfl⟩ rfl)) (ops14_3 _ _ rfl rfl)) (ops14_4 _ _ ⟨rfl, rfl, rfl⟩ rfl)) (ops14_5 _ _ ⟨rfl, rfl⟩ rfl)) (ops14_6 _ _ ⟨rfl, rfl⟩ rfl)) (ops14_7 _ _ ⟨rfl, rfl⟩ rfl)) (ops14_8 _ _ ⟨rfl, rfl⟩ rfl)) (ops14_9 _ _ ⟨rfl, rfl, rfl, rfl⟩ rfl)) (ops14_10 _ _ ⟨rfl, rfl, rfl, rfl⟩ rfl)) (ops14_11 _ _ ⟨rfl, rfl, rfl⟩ rfl)) (ops14_12 _ _ ⟨rfl, rfl⟩ rfl)) (ops14_13 _ _ ⟨rfl, rfl⟩ rfl)) (ops14_14 _ _ ⟨rfl, rfl, rfl⟩ rfl)) (ops14_15 _ _ ⟨rfl, rfl, rfl⟩ rfl)) (ops14_16 _ _ ⟨rfl, rfl, rfl⟩ rfl)) (ops14_17 _ _ ⟨rfl, rfl⟩ rfl)) (ops14_18 _ _ ⟨rfl, rfl⟩ rfl)) (ops14_19 _ _ ⟨rfl, rfl⟩ rfl)) ?_
              intro vs Rs f' S' hp hf hx hS hR
              obtain ⟨x17, hv2, hR2⟩ := (spe rfl hs14_2 (hp 2 (by kernel_rfl)))
              obtain ⟨g19, hv8, hR8⟩ := (spe rfl hs14_8 (hp 8 (by kernel_rfl)))
              have hT8_0 := (hR 8 0 (by kernel_rfl) (by decide)).trans (congrFun hR8 0)
              obtain ⟨x22, hv9, hR9⟩ := (spe rfl hs14_9 (hp 9 (by kernel_rfl)))
              have hT9_0 := (hR 9 0 (by kernel_rfl) (by decide)).trans (congrFun hR9 0)
              obtain ⟨x25, hv10, hR10⟩ := (spe rfl hs14_10 (hp 10 (by kernel_rfl)))
              obtain ⟨hv17, hR17⟩ := (spe rfl hs14_17 (hp 17 (by kernel_rfl)))
              obtain ⟨hv18, hR18⟩ := (spe rfl hs14_18 (hp 18 (by kernel_rfl)))
              obtain ⟨hv19, hR19⟩ := (spe rfl hs14_19 (hp 19 (by kernel_rfl)))
              refine ls_fr (F := upd (upd (upd f' 64 (.bool (decide ((t10.length : Int) = (32 : Int))))) 65 (.slice A0_1 l0_1.length c0_1)) 66 (.slice A2_2 l2_2.length c2_2)) (fr_next (fr_next (fr_next (rfl) ((hf 17 64 (by kernel_rfl) rfl).trans hv17)) ((hf 18 65 (by kernel_rfl) rfl).trans hv18)) ((hf 19 66 (by kernel_rfl) rfl).trans hv19)) ?_
              refine ls_sub (s0) (sub_nil _) ?_
              refine ls_know (c := true) (dec_t q27) 64 (by kernel_rfl) ?_
              refine ls_on (j := 17) (t := 64) (b := true) rfl rfl (by kernel_rfl) (by kernel_rfl) ?_
              obtain ⟨t28, hc29, H⟩ := bind_some H
              refine ls_callb (fid := 11) (vals := #[.slice A0_1 l0_1.length c0_1, .slice A2_2 l2_2.length c2_2]) (X := Unit) (fun x => .string t28) (fun x => stl []) [] [] [] [] 164 rfl rfl (by kernel_rfl) (fun w => by kernel_rfl) trivial trivial (by decide) (fun w hs hb => hmac_Text.calls k A0_1 c0_1 l0_1 A2_2 c2_2 l2_2 t28 (lent b w [] []) hb (hs.ro R0_1 _ _) C0_1 (hs.ro R2_2 _ _) C2_2 hc29) ?_
              intro x30
              refine ls_on (j := 17) (t := 64) (b := true) rfl rfl (by kernel_rfl) (by kernel_rfl) ?_
              refine ls_val (v := .int .i64 (t28.size : Int)) rfl rfl (by kernel_rfl) (fun w => by kernel_rfl) ?_
              refine ls_on (j := 17) (t := 64) (b := true) rfl rfl (by kernel_rfl) (by kernel_rfl) ?_
              refine ls_val (v := .bool (decide ((t28.size : Int) = (64 : Int)))) rfl rfl (by kernel_rfl) (fun w => by kernel_rfl) ?_
              refine ls_val (v := .bool (decide ((t28.size : Int) = (64 : Int)))) rfl rfl (by kernel_rfl) (fun w => by kernel_rfl) ?_
              refine ls_val (v := .bool (decide ((t28.size : Int) = (64 : Int)))) rfl rfl (by kernel_rfl) (fun w => by kernel_rfl) ?_
              refine ls_end ?_
              refine qn_then ?_
              refine cs_ret' ?_
              obtain rfl := Option.some.inj H
              refine qr_res (rs := [_]) rfl (fun w' hs => ⟨[.bool (decide ((t28.size : Int) = (64 : Int)))], (res_tmp (by kernel_rfl) (.nil)), (), rfl, hs.pick (ts := []) (cs := []) trivial (by decide)⟩)
            · replace H := ite_f q27 H
              refine cs_draw shadowboxlaw12_HmacZeros.tab12 20 4 (spl [s14_0, s14_1, s14_2, s14_3, s14_4, s14_5, s14_6, s14_7, s14_8, s14_9, s14_10, s14_11, s14_12, s14_13, s14_14, s14_15, s14_16, s14_17, spu, spu]) (onl [true, true, true, true, true, true, true, true, true, true, true, true, true, true, true, true, true, true, false, false]) (by kernel_rfl) (by kernel_rfl) (by kernel_rfl) (by kernel_rfl) (rs := [_, _, _, _, _]) rfl (by kernel_rfl) (by kernel_rfl) (all_snoc (all_snoc (all_snoc (all_snoc (all_snoc (all_snoc (all_snoc (all_snoc (all_snoc (all_snoc (all_snoc (all_snoc (all_snoc (all_snoc (all_snoc (all_snoc (all_snoc (all_snoc (all_snoc (all_snoc (all_nil) (ops14_0 _ _ rfl rfl)) (ops14_1 _ _ rfl rfl)) (ops14_2 _ _ ⟨rfl, rfl, rfl⟩ rfl)) (ops14_3 _ _ rfl rfl)) (ops14_4 _ _ ⟨rfl, rfl, rfl⟩ rfl)) (ops14_5 _ _ ⟨rfl, rfl⟩ rfl)) (ops14_6 _ _ ⟨rfl, rfl⟩ rfl)) (ops14_7 _ _ ⟨rfl, rfl⟩ rfl)) (ops14_8 _ _ ⟨rfl, rfl⟩ rfl)) (ops14_9 _ _ ⟨rfl, rfl, rfl, rfl⟩ rfl)) (ops14_10 _ _ ⟨rfl, rfl, rfl, rfl⟩ rfl)) (ops14_11 _ _ ⟨rfl, rfl, rfl⟩ rfl)) (ops14_12 _ _ ⟨rfl, rfl⟩ rfl)) (ops14_13 _ _ ⟨rfl, rfl⟩ rfl)) (ops14_14 _ _ ⟨rfl, rfl, rfl⟩ rfl)) (ops14_15 _ _ ⟨rfl, rfl, rfl⟩ rfl)) (ops14_16 _ _ ⟨rfl, rfl, rfl⟩ rfl)) (ops14_17 _ _ ⟨rfl, rfl⟩ rfl)) (op_offi 18 17 64 true rfl rfl (by kernel_rfl) (by kernel_rfl) rfl (fun v R h => by rw [hs14_17] at h; obtain ⟨h, _⟩ := h; exact h.trans (congrArg Value.bool (show (decide ((t10.length : Int) = (32 : Int))) = false from dec_f q27))) rfl rfl)) (op_offi 19 17 64 true rfl rfl (by kernel_rfl) (by kernel_rfl) rfl (fun v R h => by rw [hs14_17] at h; obtain ⟨h, _⟩ := h; exact h.trans (congrArg Value.bool (show (decide ((t10.length : Int) = (32 : Int))) = false from dec_f q27))) rfl rfl)) ?_
              intro vs Rs f' S' hp hf hx hS hR
              obtain ⟨x17, hv2, hR2⟩ := (spe rfl hs14_2 (hp 2 (by kernel_rfl)))
              obtain ⟨g19, hv8, hR8⟩ := (spe rfl hs14_8 (hp 8 (by kernel_rfl)))
              have hT8_0 := (hR 8 0 (by kernel_rfl) (by decide)).trans (congrFun hR8 0)
              obtain ⟨x22, hv9, hR9⟩ := (spe rfl hs14_9 (hp 9 (by kernel_rfl)))
              have hT9_0 := (hR 9 0 (by kernel_rfl) (by decide)).trans (congrFun hR9 0)
              obtain ⟨x25, hv10, hR10⟩ := (spe rfl hs14_10 (hp 10 (by kernel_rfl)))
              obtain ⟨hv17, hR17⟩ := (spe rfl hs14_17 (hp 17 (by kernel_rfl)))
              obtain ⟨hv18, hR18⟩ := (spe rfl rfl (hp 18 (by kernel_rfl)) : spu _ _)
              obtain ⟨hv19, hR19⟩ := (spe rfl rfl (hp 19 (by kernel_rfl)) : spu _ _)
              refine ls_fr (F := upd f' 64 (.bool (decide ((t10.length : Int) = (32 : Int))))) (fr_next (rfl) ((hf 17 64 (by kernel_rfl) rfl).trans hv17)) ?_
              refine ls_sub (s0) (sub_nil _) ?_
              refine ls_know (c := false) (dec_f q27) 64 (by kernel_rfl) ?_
              refine ls_off (j := 17) (t := 64) (b := true) (c := false) rfl rfl (by kernel_rfl) (by kernel_rfl) rfl rfl (by kernel_rfl) ?_
              refine ls_off (j := 17) (t := 64) (b := true) (c := false) rfl rfl (by kernel_rfl) (by kernel_rfl) rfl rfl (by kernel_rfl) ?_
              refine ls_off (j := 17) (t := 64) (b := true) (c := false) rfl rfl (by kernel_rfl) (by kernel_rfl) rfl rfl (by kernel_rfl) ?_
              refine ls_val (v := .bool false) rfl rfl (by kernel_rfl) (fun w => by kernel_rfl) ?_
              refine ls_val (v := .bool false) rfl rfl (by kernel_rfl) (fun w => by kernel_rfl) ?_
              refine ls_end ?_
              refine qn_then ?_
              refine cs_ret' ?_
              obtain rfl := Option.some.inj H
              refine qr_res (rs := [_]) rfl (fun w' hs => ⟨[.bool false], (res_tmp (by kernel_rfl) (.nil)), (), rfl, hs.pick (ts := []) (cs := []) trivial (by decide)⟩)
          · replace H := ite_f q26 H
            obtain ⟨s14_16, hs14_16⟩ : ∃ z : Value → Sto → Prop, z = (fun v R => v = .bool false ∧ R = s0) := ⟨_, rfl⟩
            refine have_op (l := [_, _, _, _, _, _, _, _, _, _, _, _, _, _, _, _, _, _, _, _, _, _, _, _, _]) shadowboxlaw12_HmacZeros.tab12 4 16 (fun sp => sp 16 = s14_16 ∧ sp 12 = s14_12 ∧ sp 15 = spu) (fun sp on hA hon => ?_) (fun ops14_16 => ?_)
            · refine ⟨fun o ho vs Rs f' S' w hp hf hx hS hR hs => ?_⟩
              obtain rfl := Option.some.inj ho
              obtain ⟨hv12, hR12⟩ := (spe hA.2.1 hs14_12 (hp 12 (by kernel_rfl)))
              obtain ⟨hv15, hR15⟩ := (spe hA.2.2 rfl (hp 15 (by kernel_rfl)) : spu _ _)
              rw [hA.1, hs14_16]
              refine And.intro (fun a ha => (want_none rfl a ha).trans hon.symm) (And.intro (fun _ => ?_) (fun h => by rw [hon] at h; cases h))
              have hF := fr_next (fr_next (rfl) (((hf 12 59 (by kernel_rfl) rfl).trans hv12).trans (congrArg Value.bool (show t23 = false from Bool.eq_false_iff.mpr q26)))) ((hf 15 62 (by kernel_rfl) rfl).trans hv15)
              refine ls_fr hF ?_
              refine ls_val (v := .bool false) rfl rfl (by kernel_rfl) (fun w => by kernel_rfl) ?_
              exact ls_fin s0 (.bool false) (congrArg (fun z => upd z 63 _) hF.symm) ⟨rfl, rfl⟩ (sub_nil _)
            obtain ⟨s14_17, hs14_17⟩ : ∃ z : Value → Sto → Prop, z = (fun v R => v = .bool false ∧ R = s0) := ⟨_, rfl⟩
            refine have_op (l := [_, _, _, _, _, _, _, _, _, _, _, _, _, _, _, _, _, _, _, _, _, _, _, _, _]) shadowboxlaw12_HmacZeros.tab12 4 17 (fun sp => sp 17 = s14_17 ∧ sp 16 = s14_16) (fun sp on hA hon => ?_) (fun ops14_17 => ?_)
            · refine ⟨fun o ho vs Rs f' S' w hp hf hx hS hR hs => ?_⟩
              obtain rfl := Option.some.inj ho
              obtain ⟨hv16, hR16⟩ := (spe hA.2 hs14_16 (hp 16 (by kernel_rfl)))
              rw [hA.1, hs14_17]
              refine And.intro (fun a ha => (want_none rfl a ha).trans hon.symm) (And.intro (fun _ => ?_) (fun h => by rw [hon] at h; cases h))
              have hF := fr_next (rfl) ((hf 16 63 (by kernel_rfl) rfl).trans hv16)
              refine ls_fr hF ?_
              refine ls_val (v := .bool false) rfl rfl (by kernel_rfl) (fun w => by kernel_rfl) ?_
              exact ls_fin s0 (.bool false) (congrArg (fun z => upd z 64 _) hF.symm) ⟨rfl, rfl⟩ (sub_nil _)
            refine cs_draw shadowboxlaw12_HmacZeros.tab12 20 4 (spl [s14_0, s14_1, s14_2, s14_3, s14_4, s14_5, s14_6, s14_7, s14_8, s14_9, s14_10, s14_11, s14_12, spu, spu, spu, s14_16, s14_17, spu, spu]) (onl [true, true, true, true, true, true, true, true, true, true, true, true, true, false, false, false, true, true, false, false]) (by kernel_rfl) (by kernel_rfl) (by kernel_rfl) (by kernel_rfl) (rs := [_, _, _, _, _]) rfl (by kernel_rfl) (by kernel_rfl) (all_snoc (all_snoc (all_snoc (all_snoc (all_snoc (all_snoc (all_snoc (all_snoc (all_snoc (all_snoc (all_snoc (all_snoc (all_snoc (all_snoc (all_snoc (all_snoc (all_snoc (all_snoc (all_snoc (all_snoc (all_nil) (ops14_0 _ _ rfl rfl)) (ops14_1 _ _ rfl rfl)) (ops14_2 _ _ ⟨rfl, rfl, rfl⟩ rfl)) (ops14_3 _ _ rfl rfl)) (ops14_4 _ _ ⟨rfl, rfl, rfl⟩ rfl)) (ops14_5 _ _ ⟨rfl, rfl⟩ rfl)) (ops14_6 _ _ ⟨rfl, rfl⟩ rfl)) (ops14_7 _ _ ⟨rfl, rfl⟩ rfl)) (ops14_8 _ _ ⟨rfl, rfl⟩ rfl)) (ops14_9 _ _ ⟨rfl, rfl, rfl, rfl⟩ rfl)) (ops14_10 _ _ ⟨rfl, rfl, rfl, rfl⟩ rfl)) (ops14_11 _ _ ⟨rfl, rfl, rfl⟩ rfl)) (ops14_12 _ _ ⟨rfl, rfl⟩ rfl)) (op_offi 13 12 59 true rfl rfl (by kernel_rfl) (by kernel_rfl) rfl (fun v R h => by rw [hs14_12] at h; obtain ⟨h, _⟩ := h; exact h.trans (congrArg Value.bool (show t23 = false from Bool.eq_false_iff.mpr q26))) rfl rfl)) (op_offi 14 12 59 true rfl rfl (by kernel_rfl) (by kernel_rfl) rfl (fun v R h => by rw [hs14_12] at h; obtain ⟨h, _⟩ := h; exact h.trans (congrArg Value.bool (show t23 = false from Bool.eq_false_iff.mpr q26))) rfl rfl)) (op_offi 15 12 59 true rfl rfl (by kernel_rfl) (by kernel_rfl) rfl (fun v R h => by rw [hs14_12] at h; obtain ⟨h, _⟩ := h; exact h.trans (congrArg Value.bool (show t23 = false from Bool.eq_false_iff.mpr q26))) rfl rfl)) (ops14_16 _ _ ⟨rfl, rfl, rfl⟩ rfl)) (ops14_17 _ _ ⟨rfl, rfl⟩ rfl)) (op_offi 18 17 64 true rfl rfl (by kernel_rfl) (by kernel_rfl) rfl (fun v R h => by rw [hs14_17] at h; obtain ⟨h, _⟩ := h; exact h) rfl rfl)) (op_offi 19 17 64 true rfl rfl (by kernel_rfl) (by kernel_rfl) rfl (fun v R h => by rw [hs14_17] at h; obtain ⟨h, _⟩ := h; exact h) rfl rfl)) ?_
            intro vs Rs f' S' hp hf hx hS hR
            obtain ⟨x17, hv2, hR2⟩ := (spe rfl hs14_2 (hp 2 (by kernel_rfl)))
            obtain ⟨g19, hv8, hR8⟩ := (spe rfl hs14_8 (hp 8 (by kernel_rfl)))
            have hT8_0 := (hR 8 0 (by kernel_rfl) (by decide)).trans (congrFun hR8 0)
            obtain ⟨x22, hv9, hR9⟩ := (spe rfl hs14_9 (hp 9 (by kernel_rfl)))
            have hT9_0 := (hR 9 0 (by kernel_rfl) (by decide)).trans (congrFun hR9 0)
            obtain ⟨x25, hv10, hR10⟩ := (spe rfl hs14_10 (hp 10 (by kernel_rfl)))
            obtain ⟨hv17, hR17⟩ := (spe rfl hs14_17 (hp 17 (by kernel_rfl)))
            obtain ⟨hv18, hR18⟩ := (spe rfl rfl (hp 18 (by kernel_rfl)) : spu _ _)
            obtain ⟨hv19, hR19⟩ := (spe rfl rfl (hp 19 (by kernel_rfl)) : spu _ _)
            refine ls_fr (F := upd f' 64 (.bool false)) (fr_next (rfl) ((hf 17 64 (by kernel_rfl) rfl).trans hv17)) ?_
            refine ls_sub (s0) (sub_nil _) ?_
            refine ls_off (j := 17) (t := 64) (b := true) (c := false) rfl rfl (by kernel_rfl) (by kernel_rfl) rfl rfl (by kernel_rfl) ?_
            refine ls_off (j := 17) (t := 64) (b := true) (c := false) rfl rfl (by kernel_rfl) (by kernel_rfl) rfl rfl (by kernel_rfl) ?_
            refine ls_off (j := 17) (t := 64) (b := true) (c := false) rfl rfl (by kernel_rfl) (by kernel_rfl) rfl rfl (by kernel_rfl) ?_
            refine ls_val (v := .bool false) rfl rfl (by kernel_rfl) (fun w => by kernel_rfl) ?_
            refine ls_val (v := .bool false) rfl rfl (by kernel_rfl) (fun w => by kernel_rfl) ?_
            refine ls_end ?_
            refine qn_then ?_
            refine cs_ret' ?_
            obtain rfl := Option.some.inj H
            refine qr_res (rs := [_]) rfl (fun w' hs => ⟨[.bool false], (res_tmp (by kernel_rfl) (.nil)), (), rfl, hs.pick (ts := []) (cs := []) trivial (by decide)⟩)
        · replace H := ite_f q18 H
          obtain ⟨s14_11, hs14_11⟩ : ∃ z : Value → Sto → Prop, z = (fun v R => v = .bool false ∧ R = s0) := ⟨_, rfl⟩
          refine have_op (l := [_, _, _, _, _, _, _, _, _, _, _, _, _, _, _, _, _, _, _, _, _, _, _, _, _]) shadowboxlaw12_HmacZeros.tab12 4 11 (fun sp => sp 11 = s14_11 ∧ sp 5 = s14_5 ∧ sp 10 = spu) (fun sp on hA hon => ?_) (fun ops14_11 => ?_)
          · refine ⟨fun o ho vs Rs f' S' w hp hf hx hS hR hs => ?_⟩
            obtain rfl := Option.some.inj ho
            obtain ⟨hv5, hR5⟩ := (spe hA.2.1 hs14_5 (hp 5 (by kernel_rfl)))
            obtain ⟨hv10, hR10⟩ := (spe hA.2.2 rfl (hp 10 (by kernel_rfl)) : spu _ _)
            rw [hA.1, hs14_11]
            refine And.intro (fun a ha => (want_none rfl a ha).trans hon.symm) (And.intro (fun _ => ?_) (fun h => by rw [hon] at h; cases h))
            have hF := fr_next (fr_next (rfl) (((hf 5 52 (by kernel_rfl) rfl).trans hv5).trans (congrArg Value.bool (show (t15.1 == t5.1) = false from Bool.eq_false_iff.mpr q18)))) ((hf 10 57 (by kernel_rfl) rfl).trans hv10)
            refine ls_fr hF ?_
            refine ls_val (v := .bool false) rfl rfl (by kernel_rfl) (fun w => by kernel_rfl) ?_
            exact ls_fin s0 (.bool false) (congrArg (fun z => upd z 58 _) hF.symm) ⟨rfl, rfl⟩ (sub_nil _)
          obtain ⟨s14_12, hs14_12⟩ : ∃ z : Value → Sto → Prop, z = (fun v R => v = .bool false ∧ R = s0) := ⟨_, rfl⟩
          refine have_op (l := [_, _, _, _, _, _, _, _, _, _, _, _, _, _, _, _, _, _, _, _, _, _, _, _, _]) shadowboxlaw12_HmacZeros.tab12 4 12 (fun sp => sp 12 = s14_12 ∧ sp 11 = s14_11) (fun sp on hA hon => ?_) (fun ops14_12 => ?_)
          · refine ⟨fun o ho vs Rs f' S' w hp hf hx hS hR hs => ?_⟩
            obtain rfl := Option.some.inj ho
            obtain ⟨hv11, hR11⟩ := (spe hA.2 hs14_11 (hp 11 (by kernel_rfl)))
            rw [hA.1, hs14_12]
            refine And.intro (fun a ha => (want_none rfl a ha).trans hon.symm) (And.intro (fun _ => ?_) (fun h => by rw [hon] at h; cases h))
            have hF := fr_next (rfl) ((hf 11 58 (by kernel_rfl) rfl).trans hv11)
            refine ls_fr hF ?_
            refine ls_val (v := .bool false) rfl rfl (by kernel_rfl) (fun w => by kernel_rfl) ?_
            exact ls_fin s0 (.bool false) (congrArg (fun z => upd z 59 _) hF.symm) ⟨rfl, rfl⟩ (sub_nil _)
          obtain ⟨s14_16, hs14_16⟩ : ∃ z : Value → Sto → Prop, z = (fun v R => v = .bool false ∧ R = s0) := ⟨_, rfl⟩
          refine have_op (l := [_, _, _, _, _, _, _, _, _, _, _, _, _, _, _, _, _, _, _, _, _, _, _, _, _]) shadowboxlaw12_HmacZeros.tab12 4 16 (fun sp => sp 16 = s14_16 ∧ sp 12 = s14_12 ∧ sp 15 = spu) (fun sp on hA hon => ?_) (fun ops14_16 => ?_)
          · refine ⟨fun o ho vs Rs f' S' w hp hf hx hS hR hs => ?_⟩
            obtain rfl := Option.some.inj ho
            obtain ⟨hv12, hR12⟩ := (spe hA.2.1 hs14_12 (hp 12 (by kernel_rfl)))
            obtain ⟨hv15, hR15⟩ := (spe hA.2.2 rfl (hp 15 (by kernel_rfl)) : spu _ _)
            rw [hA.1, hs14_16]
            refine And.intro (fun a ha => (want_none rfl a ha).trans hon.symm) (And.intro (fun _ => ?_) (fun h => by rw [hon] at h; cases h))
            have hF := fr_next (fr_next (rfl) ((hf 12 59 (by kernel_rfl) rfl).trans hv12)) ((hf 15 62 (by kernel_rfl) rfl).trans hv15)
            refine ls_fr hF ?_
            refine ls_val (v := .bool false) rfl rfl (by kernel_rfl) (fun w => by kernel_rfl) ?_
            exact ls_fin s0 (.bool false) (congrArg (fun z => upd z 63 _) hF.symm) ⟨rfl, rfl⟩ (sub_nil _)
          obtain ⟨s14_17, hs14_17⟩ : ∃ z : Value → Sto → Prop, z = (fun v R => v = .bool false ∧ R = s0) := ⟨_, rfl⟩
          refine have_op (l := [_, _, _, _, _, _, _, _, _, _, _, _, _, _, _, _, _, _, _, _, _, _, _, _, _]) shadowboxlaw12_HmacZeros.tab12 4 17 (fun sp => sp 17 = s14_17 ∧ sp 16 = s14_16) (fun sp on hA hon => ?_) (fun ops14_17 => ?_)
          · refine ⟨fun o ho vs Rs f' S' w hp hf hx hS hR hs => ?_⟩
            obtain rfl := Option.some.inj ho
            obtain ⟨hv16, hR16⟩ := (spe hA.2 hs14_16 (hp 16 (by kernel_rfl)))
            rw [hA.1, hs14_17]
            refine And.intro (fun a ha => (want_none rfl a ha).trans hon.symm) (And.intro (fun _ => ?_) (fun h => by rw [hon] at h; cases h))
            have hF := fr_next (rfl) ((hf 16 63 (by kernel_rfl) rfl).trans hv16)
            refine ls_fr hF ?_
            refine ls_val (v := .bool false) rfl rfl (by kernel_rfl) (fun w => by kernel_rfl) ?_
            exact ls_fin s0 (.bool false) (congrArg (fun z => upd z 64 _) hF.symm) ⟨rfl, rfl⟩ (sub_nil _)
          refine cs_draw shadowboxlaw12_HmacZeros.tab12 20 4 (spl [s14_0, s14_1, s14_2, s14_3, s14_4, s14_5, spu, spu, spu, spu, spu, s14_11, s14_12, spu, spu, spu, s14_16, s14_17, spu, spu]) (onl [true, true, true, true, true, true, false, false, false, false, false, true, true, false, false, false, true, true, false, false]) (by kernel_rfl) (by kernel_rfl) (by kernel_rfl) (by kernel_rfl) (rs := [_, _, _, _, _]) rfl (by kernel_rfl) (by kernel_rfl) (all_snoc (all_snoc (all_snoc (all_snoc (all_snoc (all_snoc (all_snoc (all_snoc (all_snoc (all_snoc (all_snoc (all_snoc (all_snoc (all_snoc (all_snoc (all_snoc (all_snoc (all_snoc (all_snoc (all_snoc (all_nil) (ops14_0 _ _ rfl rfl)) (ops14_1 _ _ rfl rfl)) (ops14_2 _ _ ⟨rfl, rfl, rfl⟩ rfl)) (ops14_3 _ _ rfl rfl)) (ops14_4 _ _ ⟨rfl, rfl, rfl⟩ rfl)) (ops14_5 _ _ ⟨rfl, rfl⟩ rfl)) (op_offi 6 5 52 true rfl rfl (by kernel_rfl) (by kernel_rfl) rfl (fun v R h => by rw [hs14_5] at h; obtain ⟨h, _⟩ := h; exact h.trans (congrArg Value.bool (show (t15.1 == t5.1) = false from Bool.eq_false_iff.mpr q18))) rfl rfl)) (op_offi 7 5 52 true rfl rfl (by kernel_rfl) (by kernel_rfl) rfl (fun v R h => by rw [hs14_5] at h; obtain ⟨h, _⟩ := h; exact h.trans (congrArg Value.bool (show (t15.1 == t5.1) = false from Bool.eq_false_iff.mpr q18))) rfl rfl)) (op_offi 8 5 52 true rfl rfl (by kernel_rfl) (by kernel_rfl) rfl (fun v R h => by rw [hs14_5] at h; obtain ⟨h, _⟩ := h; exact h.trans (congrArg Value.bool (show (t15.1 == t5.1) = false from Bool.eq_false_iff.mpr q18))) rfl rfl)) (op_offi 9 5 52 true rfl rfl (by kernel_rfl) (by kernel_rfl) rfl (fun v R h => by rw [hs14_5] at h; obtain ⟨h, _⟩ := h; exact h.trans (congrArg Value.bool (show (t15.1 == t5.1) = false from Bool.eq_false_iff.mpr q18))) rfl rfl)) (op_offi 10 5 52 true rfl rfl (by kernel_rfl) (by kernel_rfl) rfl (fun v R h => by rw [hs14_5] at h; obtain ⟨h, _⟩ := h; exact h.trans (congrArg Value.bool (show (t15.1 == t5.1) = false from Bool.eq_false_iff.mpr q18))) rfl rfl)) (ops14_11 _ _ ⟨rfl, rfl, rfl⟩ rfl)) (ops14_12 _ _ ⟨rfl, rfl⟩ rfl)) (op_offi 13 12 59 true rfl rfl (by kernel_rfl) (by kernel_rfl) rfl (fun v R h => by rw [hs14_12] at h; obtain ⟨h, _⟩ := h; exact h) rfl rfl)) (op_offi 14 12 59 true rfl rfl (by kernel_rfl) (by kernel_rfl) rfl (fun v R h => by rw [hs14_12] at h; obtain ⟨h, _⟩ := h; exact h) rfl rfl)) (op_offi 15 12 59 true rfl rfl (by kernel_rfl) (by kernel_rfl) rfl (fun v R h => by rw [hs14_12] at h; obtain ⟨h, _⟩ := h; exact h) rfl rfl)) (ops14_16 _ _ ⟨rfl, rfl, rfl⟩ rfl)) (ops14_17 _ _ ⟨rfl, rfl⟩ rfl)) (op_offi 18 17 64 true rfl rfl (by kernel_rfl) (by kernel_rfl) rfl (fun v R h => by rw [hs14_17] at h; obtain ⟨h, _⟩ := h; exact h) rfl rfl)) (op_offi 19 17 64 true rfl rfl (by kernel_rfl) (by kernel_rfl) rfl (fun v R h => by rw [hs14_17] at h; obtain ⟨h, _⟩ := h; exact h) rfl rfl)) ?_
          intro vs Rs f' S' hp hf hx hS hR
          obtain ⟨x17, hv2, hR2⟩ := (spe rfl hs14_2 (hp 2 (by kernel_rfl)))
          obtain ⟨hv17, hR17⟩ := (spe rfl hs14_17 (hp 17 (by kernel_rfl)))
          obtain ⟨hv18, hR18⟩ := (spe rfl rfl (hp 18 (by kernel_rfl)) : spu _ _)
          obtain ⟨hv19, hR19⟩ := (spe rfl rfl (hp 19 (by kernel_rfl)) : spu _ _)
          refine ls_fr (F := upd f' 64 (.bool false)) (fr_next (rfl) ((hf 17 64 (by kernel_rfl) rfl).trans hv17)) ?_
          refine ls_sub (s0) (sub_nil _) ?_
          refine ls_off (j := 17) (t := 64) (b := true) (c := false) rfl rfl (by kernel_rfl) (by kernel_rfl) rfl rfl (by kernel_rfl) ?_
          refine ls_off (j := 17) (t := 64) (b := true) (c := false) rfl rfl (by kernel_rfl) (by kernel_rfl) rfl rfl (by kernel_rfl) ?_
          refine ls_off (j := 17) (t := 64) (b := true) (c := false) rfl rfl (by kernel_rfl) (by kernel_rfl) rfl rfl (by kernel_rfl) ?_
          refine ls_val (v := .bool false) rfl rfl (by kernel_rfl) (fun w => by kernel_rfl) ?_
          refine ls_val (v := .bool false) rfl rfl (by kernel_rfl) (fun w => by kernel_rfl) ?_
          refine ls_end ?_
          refine qn_then ?_
          refine cs_ret' ?_
          obtain rfl := Option.some.inj H
          refine qr_res (rs := [_]) rfl (fun w' hs => ⟨[.bool false], (res_tmp (by kernel_rfl) (.nil)), (), rfl, hs.pick (ts := []) (cs := []) trivial (by decide)⟩)

end Go.Proofs.Ytnkcadofhhcfaaa.G
