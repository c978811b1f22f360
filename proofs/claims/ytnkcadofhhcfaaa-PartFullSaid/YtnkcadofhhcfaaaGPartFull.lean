/- Printed by a program of this session (sz.py): plain functions, and walks that show that the code comes to them; no condition. -/
import Derived.Test.YtnkcadofhhcfaaaProg
import Derived.Test.YtnkcadofhhcfaaaTy
import Derived.Test.YtnkcadofhhcfaaaG0
import Derived.Test.YtnkcadofhhcfaaaG1
set_option linter.unusedVariables false
set_option linter.unusedSimpArgs false
namespace Go.Proofs.Ytnkcadofhhcfaaa.G
open Go Go.RowKit Go.Proofs.Ytnkcadofhhcfaaa.Sx

/-! ### shadowbox/shadowboxlaw17.PartFull: function 8 -/
def shadowboxlaw17_PartFull.jo8 (l5_2 : List Int) (t3 : (List Int)) (t6 : Int) (x10_5 : Int) (lo5 : Int → Int → Option (Bool)) (x11_8 : Int) : Option (Bool) := (if x11_8 > t6 then some false else (if 0 ≤ x10_5 then (if x10_5 < (t3.length : Int) then (if ((t3).getD (x10_5).toNat (0 : Int)) < (l5_2.length : Int) then (if 0 ≤ ((t3).getD (x10_5).toNat (0 : Int)) then lt (((l5_2).getD (((t3).getD (x10_5).toNat (0 : Int))).toNat (0 : Int))) fun y20 => (if (IntKind.wrap .i64 (x11_8 + y20)) ≤ t6 then some false else lo5 ((t3).getD (x10_5).toNat (0 : Int)) (IntKind.wrap .i64 (x10_5 + (1 : Int)))) else none) else lo5 ((t3).getD (x10_5).toNat (0 : Int)) (IntKind.wrap .i64 (x10_5 + (1 : Int)))) else none) else none))
def shadowboxlaw17_PartFull.lo9 (l5_2 : List Int) (t3 : (List Int)) (x10_5 : Int) (jo8 : Int → Option (Bool)) : Nat → Int → Int → Option (Bool)
  | 0, _, _ => none
  | k9 + 1, x11_9, x12_9 => (if 0 ≤ x10_5 then (if x10_5 < (t3.length : Int) then (if x12_9 < ((t3).getD (x10_5).toNat (0 : Int)) then (if 0 ≤ x12_9 then (if x12_9 < (l5_2.length : Int) then lt (IntKind.wrap .i64 (x11_9 + ((l5_2).getD (x12_9).toNat (0 : Int)))) fun y36 => (shadowboxlaw17_PartFull.lo9 l5_2 t3 x10_5 jo8 k9) y36 (IntKind.wrap .i64 (x12_9 + (1 : Int))) else none) else none) else jo8 x11_9) else none) else none)
def shadowboxlaw17_PartFull.jo7 (l5_2 : List Int) (t3 : (List Int)) (t6 : Int) (x9_5 : Int) (x10_5 : Int) (k5 : Nat) (lo5 : Int → Int → Option (Bool)) (x93_7 : Int) (x95_7 : Int) (x97_7 : Int) (x98_7 : Bool) : Option (Bool) := shadowboxlaw17_PartFull.lo9 l5_2 t3 x10_5 (shadowboxlaw17_PartFull.jo8 l5_2 t3 t6 x10_5 lo5) k5 (0 : Int) x9_5
def shadowboxlaw17_PartFull.jo6 (l5_2 : List Int) (t3 : (List Int)) (t6 : Int) (x9_5 : Int) (x10_5 : Int) (k5 : Nat) (lo5 : Int → Int → Option (Bool)) : Option (Bool) := (if 0 ≤ x10_5 then (if x10_5 < (t3.length : Int) then (if ((t3).getD (x10_5).toNat (0 : Int)) ≤ x9_5 then some false else (if ((t3).getD (x10_5).toNat (0 : Int)) > (l5_2.length : Int) then some false else (shadowboxlaw17_PartFull.jo7 l5_2 t3 t6 x9_5 x10_5 k5 lo5) x10_5 ((t3).getD (x10_5).toNat (0 : Int)) (l5_2.length : Int) (decide (((t3).getD (x10_5).toNat (0 : Int)) > (l5_2.length : Int))))) else none) else none)
def shadowboxlaw17_PartFull.lo5 (l5_2 : List Int) (t3 : (List Int)) (t6 : Int) : Nat → Int → Int → Option (Bool)
  | 0, _, _ => none
  | k5 + 1, x9_5, x10_5 => (if x10_5 < (t3.length : Int) then (shadowboxlaw17_PartFull.jo6 l5_2 t3 t6 x9_5 x10_5 k5 (shadowboxlaw17_PartFull.lo5 l5_2 t3 t6 k5)) else some true)
def shadowboxlaw17_PartFull.jo4 (k : Nat) (l5_2 : List Int) (t3 : (List Int)) (t6 : Int) : Option (Bool) := shadowboxlaw17_PartFull.lo5 l5_2 t3 t6 k (0 : Int) (0 : Int)
def shadowboxlaw17_PartFull.jo3 (k : Nat) (y1 : Int) (l5_2 : List Int) (t3 : (List Int)) (t6 : Int) : Option (Bool) := (if (t3.length : Int) = (0 : Int) then some false else lt (IntKind.wrap .i64 ((t3.length : Int) - (1 : Int))) fun y48 => (if 0 ≤ y48 then (if y48 < (t3.length : Int) then (if ((t3).getD (y48).toNat (0 : Int)) = (l5_2.length : Int) then (if t6 > y1 then some false else (shadowboxlaw17_PartFull.jo4 k l5_2 t3 t6)) else some false) else none) else none))
def shadowboxlaw17_PartFull.jo2 (k : Nat) (y1 : Int) (l5_2 : List Int) : Option (Bool) := (part_Cut.f k l5_2 y1).bind fun t3 => (part_Greatest.f k l5_2 t3).bind fun t6 => (if (l5_2.length : Int) = (0 : Int) then (if (t3.length : Int) = (0 : Int) then (if t6 = (0 : Int) then (part_Cut.f k ([(1 : Int)]) (1 : Int)).bind fun t60 => some (decide ((t60.length : Int) = (1 : Int))) else some false) else some false) else (shadowboxlaw17_PartFull.jo3 k y1 l5_2 t3 t6))
def shadowboxlaw17_PartFull.lo10 (l0_1 : List Int) (y1 : Int) (jo2 : (List Int) → Option (Bool)) : Nat → (List Int) → Int → Option (Bool)
  | 0, _, _ => none
  | k10 + 1, l5_10, x6_10 => (if x6_10 < (l0_1.length : Int) then (if 0 ≤ x6_10 then lt (bits .and .i64 ((l0_1).getD (x6_10).toNat (0 : Int)) (1048575 : Int)) fun y67 => (if IntKind.wrap .i64 (y1 + (1 : Int)) ≠ 0 then lt (Int.tmod y67 (IntKind.wrap .i64 (y1 + (1 : Int)))) fun y70 => (if (l5_10.length + ([y70]).length) * 8 ≤ 140737488355328 then (shadowboxlaw17_PartFull.lo10 l0_1 y1 jo2 k10) (l5_10 ++ [y70]) (IntKind.wrap .i64 (x6_10 + (1 : Int))) else none) else none) else none) else jo2 l5_10)
def shadowboxlaw17_PartFull.jo1 (k : Nat) (a1 : Int) (l0_1 : List Int) : Option (Bool) := lt (IntKind.wrap .i64 ((1 : Int) + (bits .and .i64 a1 (1048575 : Int)))) fun y1 => shadowboxlaw17_PartFull.lo10 l0_1 y1 (shadowboxlaw17_PartFull.jo2 k y1) k ([] : List Int) (0 : Int)
def shadowboxlaw17_PartFull.f (k : Nat) (l0 : List Int) (a1 : Int) : Option (Bool) :=
  (if (l0.length : Int) > (300 : Int) then (if (300 : Int) ≤ (l0.length : Int) then lt (l0.take ((300 : Int)).toNat) fun xl82 => (shadowboxlaw17_PartFull.jo1 k a1) xl82 else none) else (shadowboxlaw17_PartFull.jo1 k a1) l0)
set_option maxRecDepth 100000 in
set_option maxHeartbeats 4000000 in
theorem shadowboxlaw17_PartFull.calls (k : Nat) (A0 : Option Addr) (c0 : Nat) (l0 : List Int) (a1 : Int) (r : Bool) (b : Bs) (hs0 : St b (stl []) b.w) (R0 : Ro b A0 (em (Ec.int 3 .i64) l0)) (C0 : l0.length ≤ c0) (H : shadowboxlaw17_PartFull.f k l0 a1 = some r) :
    Calls Try.prog 8 #[.slice A0 l0.length c0, .int .i64 a1] b.w fun e w' => ∃ x : Unit, e = .returned (.bool r) ∧ St b (stl []) w' := by
  unfold shadowboxlaw17_PartFull.f at H
  refine enterb (n := 144) Try.func8 rfl (by kernel_rfl) (by kernel_rfl) hs0 ?_
  refine cs_sub (s0) (sub_nil _) ?_
  refine cs_seq ?_
  refine cs_region (l := [_]) ?_
  refine ls_val (v := .bool false) rfl rfl (by kernel_rfl) (fun w => by kernel_rfl) ?_
  refine ls_end ?_
  refine qn_then ?_
  refine cs_cut (fun f S => ∃ (fR : Fr) (A0_1 : Option Addr) (c0_1 : Nat) (l0_1 : List Int), f = upd (upd fR 0 (.slice A0_1 l0_1.length c0_1)) 1 (.int .i64 a1) ∧ S = s0 ∧ Ro b A0_1 (em (Ec.int 3 .i64) l0_1) ∧ l0_1.length ≤ c0_1 ∧ shadowboxlaw17_PartFull.jo1 k a1 l0_1 = some r) ?_ ?_
  · skip
    refine cs_seq ?_
    refine cs_region (l := [_, _, _]) ?_
    refine ls_val (v := .slice A0 l0.length c0) rfl rfl (by kernel_rfl) (fun w => by kernel_rfl) ?_
    refine ls_val (v := .int .i64 (l0.length : Int)) rfl rfl (by kernel_rfl) (fun w => by kernel_rfl) ?_
    refine ls_val (v := .bool (decide ((l0.length : Int) > (300 : Int)))) rfl rfl (by kernel_rfl) (fun w => by kernel_rfl) ?_
    refine ls_end ?_
    refine qn_then ?_
    by_cases q76 : (l0.length : Int) > (300 : Int)
    · replace H := ite_t q76 H
      refine cs_know (c := true) (dec_t q76) 15 (by kernel_rfl) ?_
      refine cs_true (by kernel_rfl) ?_
      refine cs_region (l := [_, _, _]) ?_
      refine ls_val (v := .slice A0 l0.length c0) rfl rfl (by kernel_rfl) (fun w => by kernel_rfl) ?_
      obtain ⟨q77, H⟩ := ite_need H
      obtain ⟨xl82, hy83, H⟩ := lt_some H
      have hz85 : 0 ≤ ((300 : Int)).toNat := by omega
      have hz86 : ((300 : Int)).toNat ≤ l0.length := by omega
      obtain ⟨xA78, xc79, he84, xC81, xR80⟩ := cut_at (A := A0) (c := c0) (l := l0) (Ec.int 3 .i64) 0 (((300 : Int)).toNat) hz85 hz86 C0 R0 (m := xl82) (by rw [← hy83] <;> simp) (z := 1) rfl
      refine ls_cutv (A := A0) (c := c0) (m := l0.length) (z := 1) (e := 3) (a := 0) (b := ((300 : Int)).toNat) rfl rfl (by kernel_rfl) rfl (by kernel_rfl) (by kernel_rfl) (by kernel_rfl) (.inl ⟨rfl, rfl⟩) (.inr ⟨.i64, by rw [Int.toNat_of_nonneg (by first | assumption | omega)]; kernel_rfl⟩) hz85 hz86 C0 he84 ?_
      refine ls_val (v := .slice xA78 xl82.length xc79) rfl rfl (by kernel_rfl) (fun w => by kernel_rfl) ?_
      refine ls_end ?_
      refine qn_meet (s0) ⟨_, xA78, xc79, xl82, fr_next (fr_next (rfl) (by kernel_rfl)) (by kernel_rfl), rfl, xR80, xC81, H⟩ (sub_nil _)
    · replace H := ite_f q76 H
      refine cs_know (c := false) (dec_f q76) 15 (by kernel_rfl) ?_
      refine cs_false (by kernel_rfl) ?_
      refine cs_skip' ?_
      refine qn_meet (s0) ⟨_, A0, c0, l0, fr_next (fr_next (rfl) (by kernel_rfl)) (by kernel_rfl), rfl, R0, C0, H⟩ (sub_nil _)
  · rintro f S ⟨fr1, A0_1, c0_1, l0_1, rfl, rfl, R0_1, C0_1, H⟩
    replace H : (lt (IntKind.wrap .i64 ((1 : Int) + (bits .and .i64 a1 (1048575 : Int)))) fun y1 => shadowboxlaw17_PartFull.lo10 l0_1 y1 (shadowboxlaw17_PartFull.jo2 k y1) k ([] : List Int) (0 : Int)) = some r := H
    refine cs_seq ?_
    refine cs_region (l := [_, _, _, _]) ?_
    refine ls_val (v := .int .i64 a1) rfl rfl (by kernel_rfl) (fun w => by kernel_rfl) ?_
    refine ls_val (v := .int .i64 (bits .and .i64 a1 (1048575 : Int))) rfl rfl (by kernel_rfl) (fun w => by kernel_rfl) ?_
    obtain ⟨y1, hy2, H⟩ := lt_some H
    refine ls_val (v := .int .i64 (IntKind.wrap .i64 ((1 : Int) + (bits .and .i64 a1 (1048575 : Int))))) rfl rfl (by kernel_rfl) (fun w => by kernel_rfl) ?_
    refine ls_ren 20 (v := .int .i64 (IntKind.wrap .i64 ((1 : Int) + (bits .and .i64 a1 (1048575 : Int))))) (v' := .int .i64 y1) (by kernel_rfl) (by rw [hy2]) ?_
    refine ls_val (v := .int .i64 y1) rfl rfl (by kernel_rfl) (fun w => by kernel_rfl) ?_
    refine ls_end ?_
    refine qn_then ?_
    refine cs_seq ?_
    refine cs_region (l := [_]) ?_
    refine ls_val (v := .slice none 0 0) rfl rfl (by kernel_rfl) (fun w => by kernel_rfl) ?_
    refine ls_end ?_
    refine qn_then ?_
    refine cs_nilrow 0 (Ec.int 3 .i64) ?_
    refine cs_cut (fun f S => ∃ (fR : Fr) (A5_2 : Option Addr) (c5_2 : Nat) (l5_2 : List Int), f = upd (upd fR 1 (.int .i64 y1)) 5 (.slice A5_2 l5_2.length c5_2) ∧ S = sput s0 0 (some (Ck.sl (Ec.int 3 .i64) A5_2 c5_2 l5_2)) ∧ shadowboxlaw17_PartFull.jo2 k y1 l5_2 = some r) ?_ ?_
    · skip
      refine cs_seq ?_
      refine cs_region (l := [_]) ?_
      refine ls_val (v := .int .i64 (0 : Int)) rfl rfl (by kernel_rfl) (fun w => by kernel_rfl) ?_
      refine ls_end ?_
      refine qn_then ?_
      refine cs_block ?_
      refine cs_sub (sput s0 0 (some (Ck.sl (Ec.int 3 .i64) none 0 ([] : List Int)))) (sub_put (by exact rfl) (sub_nil _)) ?_
      refine cs_loop (fun kk f S => ∃ (fR : Fr) (A5_10 : Option Addr) (c5_10 : Nat) (l5_10 : List Int) (x6_10 : Int), f = upd (upd (upd (upd fR 0 (.slice A0_1 l0_1.length c0_1)) 1 (.int .i64 y1)) 5 (.slice A5_10 l5_10.length c5_10)) 6 (.int .i64 x6_10) ∧ S = sput s0 0 (some (Ck.sl (Ec.int 3 .i64) A5_10 c5_10 l5_10)) ∧ shadowboxlaw17_PartFull.lo10 l0_1 y1 (shadowboxlaw17_PartFull.jo2 k y1) kk l5_10 x6_10 = some r) k ?_ ?_ ?_
      · exact ⟨_, none, 0, ([] : List Int), (0 : Int), fr_next (fr_next (fr_next (fr_next (rfl) (by kernel_rfl)) (by kernel_rfl)) (by kernel_rfl)) (by kernel_rfl), rfl, H⟩
      · rintro f S ⟨fr10, A5_10, c5_10, l5_10, x6_10, rfl, rfl, H⟩; cases H
      · rintro k10 f S ⟨fr10, A5_10, c5_10, l5_10, x6_10, rfl, rfl, H⟩
        replace H : ((if x6_10 < (l0_1.length : Int) then (if 0 ≤ x6_10 then lt (bits .and .i64 ((l0_1).getD (x6_10).toNat (0 : Int)) (1048575 : Int)) fun y67 => (if IntKind.wrap .i64 (y1 + (1 : Int)) ≠ 0 then lt (Int.tmod y67 (IntKind.wrap .i64 (y1 + (1 : Int)))) fun y70 => (if (l5_10.length + ([y70]).length) * 8 ≤ 140737488355328 then (shadowboxlaw17_PartFull.lo10 l0_1 y1 (shadowboxlaw17_PartFull.jo2 k y1) k10) (l5_10 ++ [y70]) (IntKind.wrap .i64 (x6_10 + (1 : Int))) else none) else none) else none) else (shadowboxlaw17_PartFull.jo2 k y1) l5_10)) = some r := H
        refine cs_seq ?_
        refine cs_seq ?_
        refine cs_region (l := [_, _, _, _]) ?_
        refine ls_val (v := .int .i64 x6_10) rfl rfl (by kernel_rfl) (fun w => by kernel_rfl) ?_
        refine ls_val (v := .slice A0_1 l0_1.length c0_1) rfl rfl (by kernel_rfl) (fun w => by kernel_rfl) ?_
        refine ls_val (v := .int .i64 (l0_1.length : Int)) rfl rfl (by kernel_rfl) (fun w => by kernel_rfl) ?_
        refine ls_val (v := .bool (decide (x6_10 < (l0_1.length : Int)))) rfl rfl (by kernel_rfl) (fun w => by kernel_rfl) ?_
        refine ls_end ?_
        refine qn_then ?_
        by_cases q63 : x6_10 < (l0_1.length : Int)
        · replace H := ite_t q63 H
          refine cs_know (c := true) (dec_t q63) 24 (by kernel_rfl) ?_
          refine cs_true (by kernel_rfl) ?_
          refine cs_skip' ?_
          refine qn_then ?_
          refine cs_seq ?_
          refine cs_block ?_
          refine cs_region (l := [_, _, _, _, _, _, _, _, _, _, _, _]) ?_
          refine ls_val (v := .slice A5_10 l5_10.length c5_10) rfl rfl (by kernel_rfl) (fun w => by kernel_rfl) ?_
          refine ls_val (v := .slice A0_1 l0_1.length c0_1) rfl rfl (by kernel_rfl) (fun w => by kernel_rfl) ?_
          refine ls_val (v := .int .i64 x6_10) rfl rfl (by kernel_rfl) (fun w => by kernel_rfl) ?_
          obtain ⟨q64, H⟩ := ite_need H
          obtain ⟨ad65, hA66⟩ := ido_at (T := (Ec.int 3 .i64)) (l := l0_1) (i := x6_10) R0_1 q64 q63
          refine ls_idxv (Ec.int 3 .i64) (A := A0_1) (c := c0_1) (l := l0_1) (k := .i64) (i := x6_10) (z := 1) (ad := ad65) rfl rfl (by kernel_rfl) hA66 rfl (by kernel_rfl) (by kernel_rfl) (by kernel_rfl) (by kernel_rfl) q64 q63 ?_
          refine ls_load (a0 := (ad65.add ((x6_10).toNat * 1))) (v := .int .i64 ((l0_1).getD (x6_10).toNat (0 : Int))) (de := (TypeDesc.int .i64)) rfl rfl (by kernel_rfl) rfl (by kernel_rfl) (by kernel_rfl) (by kernel_rfl) (fun w hs => (hs.old R0_1).at hA66 (em_sub (Ec.int 3 .i64) l0_1 (i := (x6_10).toNat) (by have h0 : (0 : Int) ≤ x6_10 := q64; have h1 : x6_10 < (l0_1.length : Int) := q63; omega))) ?_
          obtain ⟨y67, hy68, H⟩ := lt_some H
          refine ls_val (v := .int .i64 (bits .and .i64 ((l0_1).getD (x6_10).toNat (0 : Int)) (1048575 : Int))) rfl rfl (by kernel_rfl) (fun w => by kernel_rfl) ?_
          refine ls_ren 32 (v := .int .i64 (bits .and .i64 ((l0_1).getD (x6_10).toNat (0 : Int)) (1048575 : Int))) (v' := .int .i64 y67) (by kernel_rfl) (by rw [hy68]) ?_
          refine ls_val (v := .int .i64 y1) rfl rfl (by kernel_rfl) (fun w => by kernel_rfl) ?_
          refine ls_val (v := .int .i64 (IntKind.wrap .i64 (y1 + (1 : Int)))) rfl rfl (by kernel_rfl) (fun w => by kernel_rfl) ?_
          obtain ⟨q69, H⟩ := ite_need H
          obtain ⟨y70, hy71, H⟩ := lt_some H
          refine ls_rem (k := .i64) (x := y67) (y := (IntKind.wrap .i64 (y1 + (1 : Int)))) rfl rfl (by kernel_rfl) (fun w => by kernel_rfl) q69 ?_
          refine ls_ren 35 (v := .int .i64 (Int.tmod y67 (IntKind.wrap .i64 (y1 + (1 : Int))))) (v' := .int .i64 y70) (by kernel_rfl) (by rw [hy71]) ?_
          refine ls_lit (Ec.int 3 .i64) 1 rfl rfl (by kernel_rfl) ([y70]) (by exact of_decide_eq_true (by kernel_rfl)) (fun w => by kernel_rfl) ?_
          intro g72
          obtain ⟨q73, H⟩ := ite_need H
          refine ls_app (Ec.int 3 .i64) (A := A5_10) (c := c5_10) (B := (some ⟨g72, 0, none⟩)) (cb := [y70].length) (z := (Value.int .i64 0)) (l := l5_10) (m := [y70]) (bytes := 8) 0 rfl rfl (by kernel_rfl) rfl (by kernel_rfl) (by exact rfl) (by kernel_rfl) (fun w hs => (hs.rd (k := 1) (by exact rfl))) (by kernel_rfl) (by kernel_rfl) rfl (by decide) q73 ?_
          intro xA74 xc75
          refine ls_val (v := .slice xA74 (l5_10 ++ [y70]).length xc75) rfl rfl (by kernel_rfl) (fun w => by kernel_rfl) ?_
          refine ls_end ?_
          refine qn_block ?_
          refine qn_then ?_
          refine cs_region (l := [_, _, _]) ?_
          refine ls_val (v := .int .i64 x6_10) rfl rfl (by kernel_rfl) (fun w => by kernel_rfl) ?_
          refine ls_val (v := .int .i64 (IntKind.wrap .i64 (x6_10 + (1 : Int)))) rfl rfl (by kernel_rfl) (fun w => by kernel_rfl) ?_
          refine ls_val (v := .int .i64 (IntKind.wrap .i64 (x6_10 + (1 : Int)))) rfl rfl (by kernel_rfl) (fun w => by kernel_rfl) ?_
          refine ls_end ?_
          refine qn_again k10 (sput s0 0 (some (Ck.sl (Ec.int 3 .i64) xA74 xc75 (l5_10 ++ [y70])))) (Nat.le_refl _) ⟨_, xA74, xc75, (l5_10 ++ [y70]), (IntKind.wrap .i64 (x6_10 + (1 : Int))), fr_next (fr_next (fr_next (fr_next (rfl) (by kernel_rfl)) (by kernel_rfl)) (by kernel_rfl)) (by kernel_rfl), rfl, H⟩ (sub_put (by exact rfl) (sub_nil _))
        · replace H := ite_f q63 H
          refine cs_know (c := false) (dec_f q63) 24 (by kernel_rfl) ?_
          refine cs_false (by kernel_rfl) ?_
          refine cs_exit' ?_
          refine qx_then ?_
          refine qx_then ?_
          refine qx_same ?_
          refine qn_meet (sput s0 0 (some (Ck.sl (Ec.int 3 .i64) A5_10 c5_10 l5_10))) ⟨_, A5_10, c5_10, l5_10, fr_next (fr_next (rfl) (by kernel_rfl)) (by kernel_rfl), rfl, H⟩ (sub_put (by exact rfl) (sub_nil _))
    · rintro f S ⟨fr2, A5_2, c5_2, l5_2, rfl, rfl, H⟩
      replace H : ((part_Cut.f k l5_2 y1).bind fun t3 => (part_Greatest.f k l5_2 t3).bind fun t6 => (if (l5_2.length : Int) = (0 : Int) then (if (t3.length : Int) = (0 : Int) then (if t6 = (0 : Int) then (part_Cut.f k ([(1 : Int)]) (1 : Int)).bind fun t60 => some (decide ((t60.length : Int) = (1 : Int))) else some false) else some false) else (shadowboxlaw17_PartFull.jo3 k y1 l5_2 t3 t6))) = some r := H
      refine cs_seq ?_
      refine cs_region (l := [_, _, _, _]) ?_
      refine ls_val (v := .slice A5_2 l5_2.length c5_2) rfl rfl (by kernel_rfl) (fun w => by kernel_rfl) ?_
      refine ls_val (v := .int .i64 y1) rfl rfl (by kernel_rfl) (fun w => by kernel_rfl) ?_
      obtain ⟨t3, hc4, H⟩ := bind_some H
      refine ls_callb (fid := 16) (vals := #[.slice A5_2 l5_2.length c5_2, .int .i64 y1]) (X := (Option Addr × Nat)) (fun x => .slice x.1 t3.length x.2) (fun x => stl [Ck.sl (Ec.int 3 .i64) x.1 x.2 t3]) [] [0] [] [Ck.sl (Ec.int 3 .i64) A5_2 c5_2 l5_2] 1 rfl rfl (by kernel_rfl) (fun w => by kernel_rfl) trivial ⟨by exact rfl, trivial⟩ (by decide) (fun w hs hb => part_Cut.calls k A5_2 c5_2 l5_2 y1 t3 (lent b w [] [Ck.sl (Ec.int 3 .i64) A5_2 c5_2 l5_2]) hb (hs.ror (k := 0) (by exact rfl) (.head _)) (hs.cap (k := 0) (by exact rfl)) hc4) ?_
      intro x5
      refine ls_val (v := .slice x5.1 t3.length x5.2) rfl rfl (by kernel_rfl) (fun w => by kernel_rfl) ?_
      refine ls_end ?_
      refine qn_then ?_
      refine cs_seq ?_
      refine cs_region (l := [_, _, _, _]) ?_
      refine ls_val (v := .slice A5_2 l5_2.length c5_2) rfl rfl (by kernel_rfl) (fun w => by kernel_rfl) ?_
      refine ls_val (v := .slice x5.1 t3.length x5.2) rfl rfl (by kernel_rfl) (fun w => by kernel_rfl) ?_
      obtain ⟨t6, hc7, H⟩ := bind_some H
      refine ls_callb (fid := 19) (vals := #[.slice A5_2 l5_2.length c5_2, .slice x5.1 t3.length x5.2]) (X := Unit) (fun x => .int .i64 t6) (fun x => stl []) [] [0, 1] [] [Ck.sl (Ec.int 3 .i64) A5_2 c5_2 l5_2, Ck.sl (Ec.int 3 .i64) x5.1 x5.2 t3] 2 rfl rfl (by kernel_rfl) (fun w => by kernel_rfl) trivial ⟨by exact rfl, by exact rfl, trivial⟩ (by decide) (fun w hs hb => part_Greatest.calls k A5_2 c5_2 l5_2 x5.1 x5.2 t3 t6 (lent b w [] [Ck.sl (Ec.int 3 .i64) A5_2 c5_2 l5_2, Ck.sl (Ec.int 3 .i64) x5.1 x5.2 t3]) hb (hs.ror (k := 0) (by exact rfl) (.head _)) (hs.cap (k := 0) (by exact rfl)) (hs.ror (k := 1) (by exact rfl) (.tail _ (.head _))) (hs.cap (k := 1) (by exact rfl)) hc7) ?_
      intro x8
      refine ls_val (v := .int .i64 t6) rfl rfl (by kernel_rfl) (fun w => by kernel_rfl) ?_
      refine ls_end ?_
      refine qn_then ?_
      refine cs_cut (fun f S => ∃ (fR : Fr), f = upd (upd (upd (upd fR 1 (.int .i64 y1)) 5 (.slice A5_2 l5_2.length c5_2)) 7 (.slice x5.1 t3.length x5.2)) 8 (.int .i64 t6) ∧ S = sput (sput s0 0 (some (Ck.sl (Ec.int 3 .i64) A5_2 c5_2 l5_2))) 1 (some (Ck.sl (Ec.int 3 .i64) x5.1 x5.2 t3)) ∧ shadowboxlaw17_PartFull.jo3 k y1 l5_2 t3 t6 = some r) ?_ ?_
      · skip
        refine cs_seq ?_
        refine cs_region (l := [_, _, _]) ?_
        refine ls_val (v := .slice A5_2 l5_2.length c5_2) rfl rfl (by kernel_rfl) (fun w => by kernel_rfl) ?_
        refine ls_val (v := .int .i64 (l5_2.length : Int)) rfl rfl (by kernel_rfl) (fun w => by kernel_rfl) ?_
        refine ls_val (v := .bool (decide ((l5_2.length : Int) = (0 : Int)))) rfl rfl (by kernel_rfl) (fun w => by kernel_rfl) ?_
        refine ls_end ?_
        refine qn_then ?_
        by_cases q56 : (l5_2.length : Int) = (0 : Int)
        · replace H := ite_t q56 H
          refine cs_know (c := true) (dec_t q56) 46 (by kernel_rfl) ?_
          refine cs_true (by kernel_rfl) ?_
          refine cs_seq ?_
          refine cs_region (l := [_, _, _, _, _, _, _, _, _, _, _, _, _, _]) ?_
          refine ls_val (v := .slice x5.1 t3.length x5.2) rfl rfl (by kernel_rfl) (fun w => by kernel_rfl) ?_
          refine ls_val (v := .int .i64 (t3.length : Int)) rfl rfl (by kernel_rfl) (fun w => by kernel_rfl) ?_
          refine ls_val (v := .bool (decide ((t3.length : Int) = (0 : Int)))) rfl rfl (by kernel_rfl) (fun w => by kernel_rfl) ?_
          refine ls_val (v := .bool (decide ((t3.length : Int) = (0 : Int)))) rfl rfl (by kernel_rfl) (fun w => by kernel_rfl) ?_
          by_cases q57 : (t3.length : Int) = (0 : Int)
          · replace H := ite_t q57 H
            refine ls_know (c := true) (dec_t q57) 50 (by kernel_rfl) ?_
            refine ls_on (j := 3) (t := 50) (b := true) rfl rfl (by kernel_rfl) (by kernel_rfl) ?_
            refine ls_val (v := .int .i64 t6) rfl rfl (by kernel_rfl) (fun w => by kernel_rfl) ?_
            refine ls_on (j := 3) (t := 50) (b := true) rfl rfl (by kernel_rfl) (by kernel_rfl) ?_
            refine ls_val (v := .bool (decide (t6 = (0 : Int)))) rfl rfl (by kernel_rfl) (fun w => by kernel_rfl) ?_
            refine ls_val (v := .bool (decide (t6 = (0 : Int)))) rfl rfl (by kernel_rfl) (fun w => by kernel_rfl) ?_
            refine ls_val (v := .bool (decide (t6 = (0 : Int)))) rfl rfl (by kernel_rfl) (fun w => by kernel_rfl) ?_
            by_cases q58 : t6 = (0 : Int)
            · replace H := ite_t q58 H
              refine ls_know (c := true) (dec_t q58) 54 (by kernel_rfl) ?_
              refine ls_on (j := 7) (t := 54) (b := true) rfl rfl (by kernel_rfl) (by kernel_rfl) ?_
              refine ls_lit (Ec.int 3 .i64) 2 rfl rfl (by kernel_rfl) ([(1 : Int)]) (by exact of_decide_eq_true (by kernel_rfl)) (fun w => by kernel_rfl) ?_
              intro g59
              refine ls_on (j := 7) (t := 54) (b := true) rfl rfl (by kernel_rfl) (by kernel_rfl) ?_
              obtain ⟨t60, hc61, H⟩ := bind_some H
              refine ls_callb (fid := 16) (vals := #[.slice (some ⟨g59, 0, none⟩) ([(1 : Int)]).length [(1 : Int)].length, .int .i64 (1 : Int)]) (X := (Option Addr × Nat)) (fun x => .slice x.1 t60.length x.2) (fun x => stl [Ck.sl (Ec.int 3 .i64) x.1 x.2 t60]) [] [2] [] [Ck.sl (Ec.int 3 .i64) (some ⟨g59, 0, none⟩) ([(1 : Int)].length) ([(1 : Int)])] 3 rfl rfl (by kernel_rfl) (fun w => by kernel_rfl) trivial ⟨by exact rfl, trivial⟩ (by decide) (fun w hs hb => part_Cut.calls k (some ⟨g59, 0, none⟩) ([(1 : Int)].length) ([(1 : Int)]) (1 : Int) t60 (lent b w [] [Ck.sl (Ec.int 3 .i64) (some ⟨g59, 0, none⟩) ([(1 : Int)].length) ([(1 : Int)])]) hb (hs.ror (k := 2) (by exact rfl) (.head _)) (hs.cap (k := 2) (by exact rfl)) hc61) ?_
              intro x62
              refine ls_on (j := 7) (t := 54) (b := true) rfl rfl (by kernel_rfl) (by kernel_rfl) ?_
              refine ls_val (v := .int .i64 (t60.length : Int)) rfl rfl (by kernel_rfl) (fun w => by kernel_rfl) ?_
              refine ls_on (j := 7) (t := 54) (b := true) rfl rfl (by kernel_rfl) (by kernel_rfl) ?_
              refine ls_val (v := .bool (decide ((t60.length : Int) = (1 : Int)))) rfl rfl (by kernel_rfl) (fun w => by kernel_rfl) ?_
              refine ls_val (v := .bool (decide ((t60.length : Int) = (1 : Int)))) rfl rfl (by kernel_rfl) (fun w => by kernel_rfl) ?_
              refine ls_val (v := .bool (decide ((t60.length : Int) = (1 : Int)))) rfl rfl (by kernel_rfl) (fun w => by kernel_rfl) ?_
              refine ls_end ?_
              refine qn_then ?_
              refine cs_ret' ?_
              refine qr_then ?_
              obtain rfl := Option.some.inj H
              refine qr_res (rs := [_]) rfl (fun w' hs => ⟨[.bool (decide ((t60.length : Int) = (1 : Int)))], (res_tmp (by kernel_rfl) (.nil)), (), rfl, hs.pick (ts := []) (cs := []) trivial (by decide)⟩)
            · replace H := ite_f q58 H
              refine ls_know (c := false) (dec_f q58) 54 (by kernel_rfl) ?_
              refine ls_off (j := 7) (t := 54) (b := true) (c := false) rfl rfl (by kernel_rfl) (by kernel_rfl) rfl rfl (by kernel_rfl) ?_
              refine ls_off (j := 7) (t := 54) (b := true) (c := false) rfl rfl (by kernel_rfl) (by kernel_rfl) rfl rfl (by kernel_rfl) ?_
              refine ls_off (j := 7) (t := 54) (b := true) (c := false) rfl rfl (by kernel_rfl) (by kernel_rfl) rfl rfl (by kernel_rfl) ?_
              refine ls_off (j := 7) (t := 54) (b := true) (c := false) rfl rfl (by kernel_rfl) (by kernel_rfl) rfl rfl (by kernel_rfl) ?_
              refine ls_val (v := .bool false) rfl rfl (by kernel_rfl) (fun w => by kernel_rfl) ?_
              refine ls_val (v := .bool false) rfl rfl (by kernel_rfl) (fun w => by kernel_rfl) ?_
              refine ls_end ?_
              refine qn_then ?_
              refine cs_ret' ?_
              refine qr_then ?_
              obtain rfl := Option.some.inj H
              refine qr_res (rs := [_]) rfl (fun w' hs => ⟨[.bool false], (res_tmp (by kernel_rfl) (.nil)), (), rfl, hs.pick (ts := []) (cs := []) trivial (by decide)⟩)
          · replace H := ite_f q57 H
            refine ls_know (c := false) (dec_f q57) 50 (by kernel_rfl) ?_
            refine ls_off (j := 3) (t := 50) (b := true) (c := false) rfl rfl (by kernel_rfl) (by kernel_rfl) rfl rfl (by kernel_rfl) ?_
            refine ls_off (j := 3) (t := 50) (b := true) (c := false) rfl rfl (by kernel_rfl) (by kernel_rfl) rfl rfl (by kernel_rfl) ?_
            refine ls_val (v := .bool false) rfl rfl (by kernel_rfl) (fun w => by kernel_rfl) ?_
            refine ls_val (v := .bool false) rfl rfl (by kernel_rfl) (fun w => by kernel_rfl) ?_
            refine ls_off (j := 7) (t := 54) (b := true) (c := false) rfl rfl (by kernel_rfl) (by kernel_rfl) rfl rfl (by kernel_rfl) ?_
            refine ls_off (j := 7) (t := 54) (b := true) (c := false) rfl rfl (by kernel_rfl) (by kernel_rfl) rfl rfl (by kernel_rfl) ?_
            refine ls_off (j := 7) (t := 54) (b := true) (c := false) rfl rfl (by kernel_rfl) (by kernel_rfl) rfl rfl (by kernel_rfl) ?_
            refine ls_off (j := 7) (t := 54) (b := true) (c := false) rfl rfl (by kernel_rfl) (by kernel_rfl) rfl rfl (by kernel_rfl) ?_
            refine ls_val (v := .bool false) rfl rfl (by kernel_rfl) (fun w => by kernel_rfl) ?_
            refine ls_val (v := .bool false) rfl rfl (by kernel_rfl) (fun w => by kernel_rfl) ?_
            refine ls_end ?_
            refine qn_then ?_
            refine cs_ret' ?_
            refine qr_then ?_
            obtain rfl := Option.some.inj H
            refine qr_res (rs := [_]) rfl (fun w' hs => ⟨[.bool false], (res_tmp (by kernel_rfl) (.nil)), (), rfl, hs.pick (ts := []) (cs := []) trivial (by decide)⟩)
        · replace H := ite_f q56 H
          refine cs_know (c := false) (dec_f q56) 46 (by kernel_rfl) ?_
          refine cs_false (by kernel_rfl) ?_
          refine cs_skip' ?_
          refine qn_meet (sput (sput s0 0 (some (Ck.sl (Ec.int 3 .i64) A5_2 c5_2 l5_2))) 1 (some (Ck.sl (Ec.int 3 .i64) x5.1 x5.2 t3))) ⟨_, fr_next (fr_next (fr_next (fr_next (rfl) (by kernel_rfl)) (by kernel_rfl)) (by kernel_rfl)) (by kernel_rfl), rfl, H⟩ (sub_put (by exact rfl) (sub_put (by exact rfl) (sub_nil _)))
      · rintro f S ⟨fr3, rfl, rfl, H⟩
        replace H : ((if (t3.length : Int) = (0 : Int) then some false else lt (IntKind.wrap .i64 ((t3.length : Int) - (1 : Int))) fun y48 => (if 0 ≤ y48 then (if y48 < (t3.length : Int) then (if ((t3).getD (y48).toNat (0 : Int)) = (l5_2.length : Int) then (if t6 > y1 then some false else (shadowboxlaw17_PartFull.jo4 k l5_2 t3 t6)) else some false) else none) else none))) = some r := H
        refine cs_cut (fun f S => ∃ (fR : Fr), f = upd (upd (upd fR 5 (.slice A5_2 l5_2.length c5_2)) 7 (.slice x5.1 t3.length x5.2)) 8 (.int .i64 t6) ∧ S = sput (sput s0 0 (some (Ck.sl (Ec.int 3 .i64) A5_2 c5_2 l5_2))) 1 (some (Ck.sl (Ec.int 3 .i64) x5.1 x5.2 t3)) ∧ shadowboxlaw17_PartFull.jo4 k l5_2 t3 t6 = some r) ?_ ?_
        · skip
          refine cs_seq ?_
          refine cs_region (l := [_, _, _, _, _, _, _, _, _, _, _, _, _, _, _, _, _, _, _]) ?_
          refine ls_val (v := .slice x5.1 t3.length x5.2) rfl rfl (by kernel_rfl) (fun w => by kernel_rfl) ?_
          refine ls_val (v := .int .i64 (t3.length : Int)) rfl rfl (by kernel_rfl) (fun w => by kernel_rfl) ?_
          refine ls_val (v := .bool (decide ((t3.length : Int) = (0 : Int)))) rfl rfl (by kernel_rfl) (fun w => by kernel_rfl) ?_
          refine ls_val (v := .bool (decide ((t3.length : Int) = (0 : Int)))) rfl rfl (by kernel_rfl) (fun w => by kernel_rfl) ?_
          by_cases q47 : (t3.length : Int) = (0 : Int)
          · replace H := ite_t q47 H
            refine ls_know (c := true) (dec_t q47) 63 (by kernel_rfl) ?_
            refine ls_off (j := 3) (t := 63) (b := false) (c := true) rfl rfl (by kernel_rfl) (by kernel_rfl) rfl rfl (by kernel_rfl) ?_
            refine ls_off (j := 3) (t := 63) (b := false) (c := true) rfl rfl (by kernel_rfl) (by kernel_rfl) rfl rfl (by kernel_rfl) ?_
            refine ls_off (j := 3) (t := 63) (b := false) (c := true) rfl rfl (by kernel_rfl) (by kernel_rfl) rfl rfl (by kernel_rfl) ?_
            refine ls_off (j := 3) (t := 63) (b := false) (c := true) rfl rfl (by kernel_rfl) (by kernel_rfl) rfl rfl (by kernel_rfl) ?_
            refine ls_off (j := 3) (t := 63) (b := false) (c := true) rfl rfl (by kernel_rfl) (by kernel_rfl) rfl rfl (by kernel_rfl) ?_
            refine ls_off (j := 3) (t := 63) (b := false) (c := true) rfl rfl (by kernel_rfl) (by kernel_rfl) rfl rfl (by kernel_rfl) ?_
            refine ls_off (j := 3) (t := 63) (b := false) (c := true) rfl rfl (by kernel_rfl) (by kernel_rfl) rfl rfl (by kernel_rfl) ?_
            refine ls_off (j := 3) (t := 63) (b := false) (c := true) rfl rfl (by kernel_rfl) (by kernel_rfl) rfl rfl (by kernel_rfl) ?_
            refine ls_off (j := 3) (t := 63) (b := false) (c := true) rfl rfl (by kernel_rfl) (by kernel_rfl) rfl rfl (by kernel_rfl) ?_
            refine ls_val (v := .bool true) rfl rfl (by kernel_rfl) (fun w => by kernel_rfl) ?_
            refine ls_val (v := .bool true) rfl rfl (by kernel_rfl) (fun w => by kernel_rfl) ?_
            refine ls_off (j := 14) (t := 74) (b := false) (c := true) rfl rfl (by kernel_rfl) (by kernel_rfl) rfl rfl (by kernel_rfl) ?_
            refine ls_off (j := 14) (t := 74) (b := false) (c := true) rfl rfl (by kernel_rfl) (by kernel_rfl) rfl rfl (by kernel_rfl) ?_
            refine ls_off (j := 14) (t := 74) (b := false) (c := true) rfl rfl (by kernel_rfl) (by kernel_rfl) rfl rfl (by kernel_rfl) ?_
            refine ls_val (v := .bool true) rfl rfl (by kernel_rfl) (fun w => by kernel_rfl) ?_
            refine ls_end ?_
            refine qn_then ?_
            refine cs_true (by kernel_rfl) ?_
            refine cs_seq ?_
            refine cs_region (l := [_]) ?_
            refine ls_val (v := .bool false) rfl rfl (by kernel_rfl) (fun w => by kernel_rfl) ?_
            refine ls_end ?_
            refine qn_then ?_
            refine cs_ret' ?_
            refine qr_then ?_
            obtain rfl := Option.some.inj H
            refine qr_res (rs := [_]) rfl (fun w' hs => ⟨[.bool false], (res_tmp (by kernel_rfl) (.nil)), (), rfl, hs.pick (ts := []) (cs := []) trivial (by decide)⟩)
          · replace H := ite_f q47 H
            refine ls_know (c := false) (dec_f q47) 63 (by kernel_rfl) ?_
            refine ls_on (j := 3) (t := 63) (b := false) rfl rfl (by kernel_rfl) (by kernel_rfl) ?_
            refine ls_val (v := .slice x5.1 t3.length x5.2) rfl rfl (by kernel_rfl) (fun w => by kernel_rfl) ?_
            refine ls_on (j := 3) (t := 63) (b := false) rfl rfl (by kernel_rfl) (by kernel_rfl) ?_
            refine ls_val (v := .slice x5.1 t3.length x5.2) rfl rfl (by kernel_rfl) (fun w => by kernel_rfl) ?_
            refine ls_on (j := 3) (t := 63) (b := false) rfl rfl (by kernel_rfl) (by kernel_rfl) ?_
            refine ls_val (v := .int .i64 (t3.length : Int)) rfl rfl (by kernel_rfl) (fun w => by kernel_rfl) ?_
            refine ls_on (j := 3) (t := 63) (b := false) rfl rfl (by kernel_rfl) (by kernel_rfl) ?_
            obtain ⟨y48, hy49, H⟩ := lt_some H
            refine ls_val (v := .int .i64 (IntKind.wrap .i64 ((t3.length : Int) - (1 : Int)))) rfl rfl (by kernel_rfl) (fun w => by kernel_rfl) ?_
            refine ls_ren 67 (v := .int .i64 (IntKind.wrap .i64 ((t3.length : Int) - (1 : Int)))) (v' := .int .i64 y48) (by kernel_rfl) (by rw [hy49]) ?_
            refine ls_on (j := 3) (t := 63) (b := false) rfl rfl (by kernel_rfl) (by kernel_rfl) ?_
            obtain ⟨q50, H⟩ := ite_need H
            obtain ⟨q51, H⟩ := ite_need H
            refine ls_at (T := (Ec.int 3 .i64)) (tk := 1) (i := y48) (by exact rfl) q50 q51 ?_
            intro ad52 hA53
            refine ls_idxv (Ec.int 3 .i64) (A := x5.1) (c := x5.2) (l := t3) (k := .i64) (i := y48) (z := 1) (ad := ad52) rfl rfl (by kernel_rfl) hA53 rfl (by kernel_rfl) (by kernel_rfl) (by kernel_rfl) (by kernel_rfl) q50 q51 ?_
            refine ls_on (j := 3) (t := 63) (b := false) rfl rfl (by kernel_rfl) (by kernel_rfl) ?_
            refine ls_load (a0 := (ad52.add ((y48).toNat * 1))) (v := .int .i64 ((t3).getD (y48).toNat (0 : Int))) (de := (TypeDesc.int .i64)) rfl rfl (by kernel_rfl) rfl (by kernel_rfl) (by kernel_rfl) (by kernel_rfl) (fun w hs => (hs.rd (k := 1) (by exact rfl)).at hA53 (em_sub (Ec.int 3 .i64) t3 (i := (y48).toNat) (by have h0 : (0 : Int) ≤ y48 := q50; have h1 : y48 < (t3.length : Int) := q51; omega))) ?_
            refine ls_on (j := 3) (t := 63) (b := false) rfl rfl (by kernel_rfl) (by kernel_rfl) ?_
            refine ls_val (v := .slice A5_2 l5_2.length c5_2) rfl rfl (by kernel_rfl) (fun w => by kernel_rfl) ?_
            refine ls_on (j := 3) (t := 63) (b := false) rfl rfl (by kernel_rfl) (by kernel_rfl) ?_
            refine ls_val (v := .int .i64 (l5_2.length : Int)) rfl rfl (by kernel_rfl) (fun w => by kernel_rfl) ?_
            refine ls_on (j := 3) (t := 63) (b := false) rfl rfl (by kernel_rfl) (by kernel_rfl) ?_
            refine ls_val (v := .bool (!decide (((t3).getD (y48).toNat (0 : Int)) = (l5_2.length : Int)))) rfl rfl (by kernel_rfl) (fun w => by kernel_rfl) ?_
            refine ls_val (v := .bool (!decide (((t3).getD (y48).toNat (0 : Int)) = (l5_2.length : Int)))) rfl rfl (by kernel_rfl) (fun w => by kernel_rfl) ?_
            refine ls_val (v := .bool (!decide (((t3).getD (y48).toNat (0 : Int)) = (l5_2.length : Int)))) rfl rfl (by kernel_rfl) (fun w => by kernel_rfl) ?_
            by_cases q54 : ((t3).getD (y48).toNat (0 : Int)) = (l5_2.length : Int)
            · replace H := ite_t q54 H
              refine ls_know (c := false) (congrArg Bool.not (dec_t q54)) 74 (by kernel_rfl) ?_
              refine ls_on (j := 14) (t := 74) (b := false) rfl rfl (by kernel_rfl) (by kernel_rfl) ?_
              refine ls_val (v := .int .i64 t6) rfl rfl (by kernel_rfl) (fun w => by kernel_rfl) ?_
              refine ls_on (j := 14) (t := 74) (b := false) rfl rfl (by kernel_rfl) (by kernel_rfl) ?_
              refine ls_val (v := .int .i64 y1) rfl rfl (by kernel_rfl) (fun w => by kernel_rfl) ?_
              refine ls_on (j := 14) (t := 74) (b := false) rfl rfl (by kernel_rfl) (by kernel_rfl) ?_
              refine ls_val (v := .bool (decide (t6 > y1))) rfl rfl (by kernel_rfl) (fun w => by kernel_rfl) ?_
              refine ls_val (v := .bool (decide (t6 > y1))) rfl rfl (by kernel_rfl) (fun w => by kernel_rfl) ?_
              refine ls_end ?_
              refine qn_then ?_
              by_cases q55 : t6 > y1
              · replace H := ite_t q55 H
                refine cs_know (c := true) (dec_t q55) 78 (by kernel_rfl) ?_
                refine cs_true (by kernel_rfl) ?_
                refine cs_seq ?_
                refine cs_region (l := [_]) ?_
                refine ls_val (v := .bool false) rfl rfl (by kernel_rfl) (fun w => by kernel_rfl) ?_
                refine ls_end ?_
                refine qn_then ?_
                refine cs_ret' ?_
                refine qr_then ?_
                obtain rfl := Option.some.inj H
                refine qr_res (rs := [_]) rfl (fun w' hs => ⟨[.bool false], (res_tmp (by kernel_rfl) (.nil)), (), rfl, hs.pick (ts := []) (cs := []) trivial (by decide)⟩)
              · replace H := ite_f q55 H
                refine cs_know (c := false) (dec_f q55) 78 (by kernel_rfl) ?_
                refine cs_false (by kernel_rfl) ?_
                refine cs_skip' ?_
                refine qn_meet (sput (sput s0 0 (some (Ck.sl (Ec.int 3 .i64) A5_2 c5_2 l5_2))) 1 (some (Ck.sl (Ec.int 3 .i64) x5.1 x5.2 t3))) ⟨_, fr_next (fr_next (fr_next (rfl) (by kernel_rfl)) (by kernel_rfl)) (by kernel_rfl), rfl, H⟩ (sub_put (by exact rfl) (sub_put (by exact rfl) (sub_nil _)))
            · replace H := ite_f q54 H
              refine ls_know (c := true) (congrArg Bool.not (dec_f q54)) 74 (by kernel_rfl) ?_
              refine ls_off (j := 14) (t := 74) (b := false) (c := true) rfl rfl (by kernel_rfl) (by kernel_rfl) rfl rfl (by kernel_rfl) ?_
              refine ls_off (j := 14) (t := 74) (b := false) (c := true) rfl rfl (by kernel_rfl) (by kernel_rfl) rfl rfl (by kernel_rfl) ?_
              refine ls_off (j := 14) (t := 74) (b := false) (c := true) rfl rfl (by kernel_rfl) (by kernel_rfl) rfl rfl (by kernel_rfl) ?_
              refine ls_val (v := .bool true) rfl rfl (by kernel_rfl) (fun w => by kernel_rfl) ?_
              refine ls_end ?_
              refine qn_then ?_
              refine cs_true (by kernel_rfl) ?_
              refine cs_seq ?_
              refine cs_region (l := [_]) ?_
              refine ls_val (v := .bool false) rfl rfl (by kernel_rfl) (fun w => by kernel_rfl) ?_
              refine ls_end ?_
              refine qn_then ?_
              refine cs_ret' ?_
              refine qr_then ?_
              obtain rfl := Option.some.inj H
              refine qr_res (rs := [_]) rfl (fun w' hs => ⟨[.bool false], (res_tmp (by kernel_rfl) (.nil)), (), rfl, hs.pick (ts := []) (cs := []) trivial (by decide)⟩)
        · rintro f S ⟨fr4, rfl, rfl, H⟩
          replace H : (shadowboxlaw17_PartFull.lo5 l5_2 t3 t6 k (0 : Int) (0 : Int)) = some r := H
          refine cs_seq ?_
          refine cs_region (l := [_]) ?_
          refine ls_val (v := .int .i64 (0 : Int)) rfl rfl (by kernel_rfl) (fun w => by kernel_rfl) ?_
          refine ls_end ?_
          refine qn_then ?_
          refine cs_seq ?_
          refine cs_seq ?_
          refine cs_region (l := [_]) ?_
          refine ls_val (v := .int .i64 (0 : Int)) rfl rfl (by kernel_rfl) (fun w => by kernel_rfl) ?_
          refine ls_end ?_
          refine qn_then ?_
          refine cs_block ?_
          refine cs_sub (sput (sput s0 0 (some (Ck.sl (Ec.int 3 .i64) A5_2 c5_2 l5_2))) 1 (some (Ck.sl (Ec.int 3 .i64) x5.1 x5.2 t3))) (sub_put (by exact rfl) (sub_put (by exact rfl) (sub_nil _))) ?_
          refine cs_loop (fun kk f S => ∃ (fR : Fr) (x9_5 : Int) (x10_5 : Int), f = upd (upd (upd (upd (upd fR 5 (.slice A5_2 l5_2.length c5_2)) 7 (.slice x5.1 t3.length x5.2)) 8 (.int .i64 t6)) 9 (.int .i64 x9_5)) 10 (.int .i64 x10_5) ∧ S = sput (sput s0 0 (some (Ck.sl (Ec.int 3 .i64) A5_2 c5_2 l5_2))) 1 (some (Ck.sl (Ec.int 3 .i64) x5.1 x5.2 t3)) ∧ shadowboxlaw17_PartFull.lo5 l5_2 t3 t6 kk x9_5 x10_5 = some r) k ?_ ?_ ?_
          · exact ⟨_, (0 : Int), (0 : Int), fr_next (fr_next (fr_next (fr_next (fr_next (rfl) (by kernel_rfl)) (by kernel_rfl)) (by kernel_rfl)) (by kernel_rfl)) (by kernel_rfl), rfl, H⟩
          · rintro f S ⟨fr5, x9_5, x10_5, rfl, rfl, H⟩; cases H
          · rintro k5 f S ⟨fr5, x9_5, x10_5, rfl, rfl, H⟩
            replace H : ((if x10_5 < (t3.length : Int) then (shadowboxlaw17_PartFull.jo6 l5_2 t3 t6 x9_5 x10_5 k5 (shadowboxlaw17_PartFull.lo5 l5_2 t3 t6 k5)) else some true)) = some r := H
            refine cs_cut (fun f S => ∃ (fR : Fr), f = upd (upd (upd (upd (upd fR 5 (.slice A5_2 l5_2.length c5_2)) 7 (.slice x5.1 t3.length x5.2)) 8 (.int .i64 t6)) 9 (.int .i64 x9_5)) 10 (.int .i64 x10_5) ∧ S = sput (sput s0 0 (some (Ck.sl (Ec.int 3 .i64) A5_2 c5_2 l5_2))) 1 (some (Ck.sl (Ec.int 3 .i64) x5.1 x5.2 t3)) ∧ shadowboxlaw17_PartFull.jo6 l5_2 t3 t6 x9_5 x10_5 k5 (shadowboxlaw17_PartFull.lo5 l5_2 t3 t6 k5) = some r) ?_ ?_
            · skip
              refine cs_seq ?_
              refine cs_region (l := [_, _, _, _]) ?_
              refine ls_val (v := .int .i64 x10_5) rfl rfl (by kernel_rfl) (fun w => by kernel_rfl) ?_
              refine ls_val (v := .slice x5.1 t3.length x5.2) rfl rfl (by kernel_rfl) (fun w => by kernel_rfl) ?_
              refine ls_val (v := .int .i64 (t3.length : Int)) rfl rfl (by kernel_rfl) (fun w => by kernel_rfl) ?_
              refine ls_val (v := .bool (decide (x10_5 < (t3.length : Int)))) rfl rfl (by kernel_rfl) (fun w => by kernel_rfl) ?_
              refine ls_end ?_
              refine qn_then ?_
              by_cases q46 : x10_5 < (t3.length : Int)
              · replace H := ite_t q46 H
                refine cs_know (c := true) (dec_t q46) 82 (by kernel_rfl) ?_
                refine cs_true (by kernel_rfl) ?_
                refine cs_skip' ?_
                refine qn_meet (sput (sput s0 0 (some (Ck.sl (Ec.int 3 .i64) A5_2 c5_2 l5_2))) 1 (some (Ck.sl (Ec.int 3 .i64) x5.1 x5.2 t3))) ⟨_, fr_next (fr_next (fr_next (fr_next (fr_next (rfl) (by kernel_rfl)) (by kernel_rfl)) (by kernel_rfl)) (by kernel_rfl)) (by kernel_rfl), rfl, H⟩ (sub_put (by exact rfl) (sub_put (by exact rfl) (sub_nil _)))
              · replace H := ite_f q46 H
                refine cs_know (c := false) (dec_f q46) 82 (by kernel_rfl) ?_
                refine cs_false (by kernel_rfl) ?_
                refine cs_exit' ?_
                refine qx_then ?_
                refine qx_then ?_
                refine qx_same ?_
                refine qn_then ?_
                refine cs_seq ?_
                refine cs_region (l := [_]) ?_
                refine ls_val (v := .bool true) rfl rfl (by kernel_rfl) (fun w => by kernel_rfl) ?_
                refine ls_end ?_
                refine qn_then ?_
                refine cs_ret' ?_
                obtain rfl := Option.some.inj H
                refine qr_res (rs := [_]) rfl (fun w' hs => ⟨[.bool true], (res_tmp (by kernel_rfl) (.nil)), (), rfl, hs.pick (ts := []) (cs := []) trivial (by decide)⟩)
            · rintro f S ⟨fr6, rfl, rfl, H⟩
              replace H : ((if 0 ≤ x10_5 then (if x10_5 < (t3.length : Int) then (if ((t3).getD (x10_5).toNat (0 : Int)) ≤ x9_5 then some false else (if ((t3).getD (x10_5).toNat (0 : Int)) > (l5_2.length : Int) then some false else (shadowboxlaw17_PartFull.jo7 l5_2 t3 t6 x9_5 x10_5 k5 (shadowboxlaw17_PartFull.lo5 l5_2 t3 t6 k5)) x10_5 ((t3).getD (x10_5).toNat (0 : Int)) (l5_2.length : Int) (decide (((t3).getD (x10_5).toNat (0 : Int)) > (l5_2.length : Int))))) else none) else none)) = some r := H
              refine cs_seq ?_
              refine cs_block ?_
              refine cs_cut (fun f S => ∃ (fR : Fr) (x93_7 : Int) (x95_7 : Int) (x97_7 : Int) (x98_7 : Bool), f = upd (upd (upd (upd (upd (upd (upd (upd (upd fR 5 (.slice A5_2 l5_2.length c5_2)) 7 (.slice x5.1 t3.length x5.2)) 8 (.int .i64 t6)) 9 (.int .i64 x9_5)) 10 (.int .i64 x10_5)) 93 (.int .i64 x93_7)) 95 (.int .i64 x95_7)) 97 (.int .i64 x97_7)) 98 (.bool x98_7) ∧ S = sput (sput s0 0 (some (Ck.sl (Ec.int 3 .i64) A5_2 c5_2 l5_2))) 1 (some (Ck.sl (Ec.int 3 .i64) x5.1 x5.2 t3)) ∧ shadowboxlaw17_PartFull.jo7 l5_2 t3 t6 x9_5 x10_5 k5 (shadowboxlaw17_PartFull.lo5 l5_2 t3 t6 k5) x93_7 x95_7 x97_7 x98_7 = some r) ?_ ?_
              · skip
                refine cs_seq ?_
                refine cs_region (l := [_, _, _, _, _, _, _, _, _, _, _, _, _, _, _]) ?_
                refine ls_val (v := .slice x5.1 t3.length x5.2) rfl rfl (by kernel_rfl) (fun w => by kernel_rfl) ?_
                refine ls_val (v := .int .i64 x10_5) rfl rfl (by kernel_rfl) (fun w => by kernel_rfl) ?_
                obtain ⟨q38, H⟩ := ite_need H
                obtain ⟨q39, H⟩ := ite_need H
                refine ls_at (T := (Ec.int 3 .i64)) (tk := 1) (i := x10_5) (by exact rfl) q38 q39 ?_
                intro ad40 hA41
                refine ls_idxv (Ec.int 3 .i64) (A := x5.1) (c := x5.2) (l := t3) (k := .i64) (i := x10_5) (z := 1) (ad := ad40) rfl rfl (by kernel_rfl) hA41 rfl (by kernel_rfl) (by kernel_rfl) (by kernel_rfl) (by kernel_rfl) q38 q39 ?_
                refine ls_load (a0 := (ad40.add ((x10_5).toNat * 1))) (v := .int .i64 ((t3).getD (x10_5).toNat (0 : Int))) (de := (TypeDesc.int .i64)) rfl rfl (by kernel_rfl) rfl (by kernel_rfl) (by kernel_rfl) (by kernel_rfl) (fun w hs => (hs.rd (k := 1) (by exact rfl)).at hA41 (em_sub (Ec.int 3 .i64) t3 (i := (x10_5).toNat) (by have h0 : (0 : Int) ≤ x10_5 := q38; have h1 : x10_5 < (t3.length : Int) := q39; omega))) ?_
                refine ls_val (v := .int .i64 x9_5) rfl rfl (by kernel_rfl) (fun w => by kernel_rfl) ?_
                refine ls_val (v := .bool (decide (((t3).getD (x10_5).toNat (0 : Int)) ≤ x9_5))) rfl rfl (by kernel_rfl) (fun w => by kernel_rfl) ?_
                refine ls_val (v := .bool (decide (((t3).getD (x10_5).toNat (0 : Int)) ≤ x9_5))) rfl rfl (by kernel_rfl) (fun w => by kernel_rfl) ?_
                by_cases q42 : ((t3).getD (x10_5).toNat (0 : Int)) ≤ x9_5
                · replace H := ite_t q42 H
                  refine ls_know (c := true) (dec_t q42) 91 (by kernel_rfl) ?_
                  refine ls_off (j := 6) (t := 91) (b := false) (c := true) rfl rfl (by kernel_rfl) (by kernel_rfl) rfl rfl (by kernel_rfl) ?_
                  refine ls_off (j := 6) (t := 91) (b := false) (c := true) rfl rfl (by kernel_rfl) (by kernel_rfl) rfl rfl (by kernel_rfl) ?_
                  refine ls_off (j := 6) (t := 91) (b := false) (c := true) rfl rfl (by kernel_rfl) (by kernel_rfl) rfl rfl (by kernel_rfl) ?_
                  refine ls_off (j := 6) (t := 91) (b := false) (c := true) rfl rfl (by kernel_rfl) (by kernel_rfl) rfl rfl (by kernel_rfl) ?_
                  refine ls_off (j := 6) (t := 91) (b := false) (c := true) rfl rfl (by kernel_rfl) (by kernel_rfl) rfl rfl (by kernel_rfl) ?_
                  refine ls_off (j := 6) (t := 91) (b := false) (c := true) rfl rfl (by kernel_rfl) (by kernel_rfl) rfl rfl (by kernel_rfl) ?_
                  refine ls_off (j := 6) (t := 91) (b := false) (c := true) rfl rfl (by kernel_rfl) (by kernel_rfl) rfl rfl (by kernel_rfl) ?_
                  refine ls_val (v := .bool true) rfl rfl (by kernel_rfl) (fun w => by kernel_rfl) ?_
                  refine ls_end ?_
                  refine qn_then ?_
                  refine cs_true (by kernel_rfl) ?_
                  refine cs_seq ?_
                  refine cs_region (l := [_]) ?_
                  refine ls_val (v := .bool false) rfl rfl (by kernel_rfl) (fun w => by kernel_rfl) ?_
                  refine ls_end ?_
                  refine qn_then ?_
                  refine cs_ret' ?_
                  refine qr_then ?_
                  refine qr_block ?_
                  refine qr_then ?_
                  refine qr_then ?_
                  refine qr_block ?_
                  refine qr_then ?_
                  obtain rfl := Option.some.inj H
                  refine qr_res (rs := [_]) rfl (fun w' hs => ⟨[.bool false], (res_tmp (by kernel_rfl) (.nil)), (), rfl, hs.pick (ts := []) (cs := []) trivial (by decide)⟩)
                · replace H := ite_f q42 H
                  refine ls_know (c := false) (dec_f q42) 91 (by kernel_rfl) ?_
                  refine ls_on (j := 6) (t := 91) (b := false) rfl rfl (by kernel_rfl) (by kernel_rfl) ?_
                  refine ls_val (v := .slice x5.1 t3.length x5.2) rfl rfl (by kernel_rfl) (fun w => by kernel_rfl) ?_
                  refine ls_on (j := 6) (t := 91) (b := false) rfl rfl (by kernel_rfl) (by kernel_rfl) ?_
                  refine ls_val (v := .int .i64 x10_5) rfl rfl (by kernel_rfl) (fun w => by kernel_rfl) ?_
                  refine ls_on (j := 6) (t := 91) (b := false) rfl rfl (by kernel_rfl) (by kernel_rfl) ?_
                  refine ls_at (T := (Ec.int 3 .i64)) (tk := 1) (i := x10_5) (by exact rfl) q38 q39 ?_
                  intro ad43 hA44
                  refine ls_idxv (Ec.int 3 .i64) (A := x5.1) (c := x5.2) (l := t3) (k := .i64) (i := x10_5) (z := 1) (ad := ad43) rfl rfl (by kernel_rfl) hA44 rfl (by kernel_rfl) (by kernel_rfl) (by kernel_rfl) (by kernel_rfl) q38 q39 ?_
                  refine ls_on (j := 6) (t := 91) (b := false) rfl rfl (by kernel_rfl) (by kernel_rfl) ?_
                  refine ls_load (a0 := (ad43.add ((x10_5).toNat * 1))) (v := .int .i64 ((t3).getD (x10_5).toNat (0 : Int))) (de := (TypeDesc.int .i64)) rfl rfl (by kernel_rfl) rfl (by kernel_rfl) (by kernel_rfl) (by kernel_rfl) (fun w hs => (hs.rd (k := 1) (by exact rfl)).at hA44 (em_sub (Ec.int 3 .i64) t3 (i := (x10_5).toNat) (by have h0 : (0 : Int) ≤ x10_5 := q38; have h1 : x10_5 < (t3.length : Int) := q39; omega))) ?_
                  refine ls_on (j := 6) (t := 91) (b := false) rfl rfl (by kernel_rfl) (by kernel_rfl) ?_
                  refine ls_val (v := .slice A5_2 l5_2.length c5_2) rfl rfl (by kernel_rfl) (fun w => by kernel_rfl) ?_
                  refine ls_on (j := 6) (t := 91) (b := false) rfl rfl (by kernel_rfl) (by kernel_rfl) ?_
                  refine ls_val (v := .int .i64 (l5_2.length : Int)) rfl rfl (by kernel_rfl) (fun w => by kernel_rfl) ?_
                  refine ls_on (j := 6) (t := 91) (b := false) rfl rfl (by kernel_rfl) (by kernel_rfl) ?_
                  refine ls_val (v := .bool (decide (((t3).getD (x10_5).toNat (0 : Int)) > (l5_2.length : Int)))) rfl rfl (by kernel_rfl) (fun w => by kernel_rfl) ?_
                  refine ls_val (v := .bool (decide (((t3).getD (x10_5).toNat (0 : Int)) > (l5_2.length : Int)))) rfl rfl (by kernel_rfl) (fun w => by kernel_rfl) ?_
                  refine ls_end ?_
                  refine qn_then ?_
                  by_cases q45 : ((t3).getD (x10_5).toNat (0 : Int)) > (l5_2.length : Int)
                  · replace H := ite_t q45 H
                    refine cs_know (c := true) (dec_t q45) 99 (by kernel_rfl) ?_
                    refine cs_true (by kernel_rfl) ?_
                    refine cs_seq ?_
                    refine cs_region (l := [_]) ?_
                    refine ls_val (v := .bool false) rfl rfl (by kernel_rfl) (fun w => by kernel_rfl) ?_
                    refine ls_end ?_
                    refine qn_then ?_
                    refine cs_ret' ?_
                    refine qr_then ?_
                    refine qr_block ?_
                    refine qr_then ?_
                    refine qr_then ?_
                    refine qr_block ?_
                    refine qr_then ?_
                    obtain rfl := Option.some.inj H
                    refine qr_res (rs := [_]) rfl (fun w' hs => ⟨[.bool false], (res_tmp (by kernel_rfl) (.nil)), (), rfl, hs.pick (ts := []) (cs := []) trivial (by decide)⟩)
                  · replace H := ite_f q45 H
                    refine cs_know (c := false) (dec_f q45) 99 (by kernel_rfl) ?_
                    refine cs_false (by kernel_rfl) ?_
                    refine cs_skip' ?_
                    refine qn_meet (sput (sput s0 0 (some (Ck.sl (Ec.int 3 .i64) A5_2 c5_2 l5_2))) 1 (some (Ck.sl (Ec.int 3 .i64) x5.1 x5.2 t3))) ⟨_, x10_5, ((t3).getD (x10_5).toNat (0 : Int)), (l5_2.length : Int), (decide (((t3).getD (x10_5).toNat (0 : Int)) > (l5_2.length : Int))), fr_next (fr_next (fr_next (fr_next (fr_next (fr_next (fr_next (fr_next (fr_next (rfl) (by kernel_rfl)) (by kernel_rfl)) (by kernel_rfl)) (by kernel_rfl)) (by kernel_rfl)) (by kernel_rfl)) (by kernel_rfl)) (by kernel_rfl)) (by kernel_rfl), rfl, H⟩ (sub_put (by exact rfl) (sub_put (by exact rfl) (sub_nil _)))
              · rintro f S ⟨fr7, x93_7, x95_7, x97_7, x98_7, rfl, rfl, H⟩
                replace H : (shadowboxlaw17_PartFull.lo9 l5_2 t3 x10_5 (shadowboxlaw17_PartFull.jo8 l5_2 t3 t6 x10_5 (shadowboxlaw17_PartFull.lo5 l5_2 t3 t6 k5)) k5 (0 : Int) x9_5) = some r := H
                refine cs_seq ?_
                refine cs_region (l := [_]) ?_
                refine ls_val (v := .int .i64 (0 : Int)) rfl rfl (by kernel_rfl) (fun w => by kernel_rfl) ?_
                refine ls_end ?_
                refine qn_then ?_
                refine cs_cut (fun f S => ∃ (fR : Fr) (x11_8 : Int), f = upd (upd (upd (upd (upd (upd (upd (upd (upd fR 5 (.slice A5_2 l5_2.length c5_2)) 7 (.slice x5.1 t3.length x5.2)) 8 (.int .i64 t6)) 10 (.int .i64 x10_5)) 11 (.int .i64 x11_8)) 93 (.int .i64 x93_7)) 95 (.int .i64 x95_7)) 97 (.int .i64 x97_7)) 98 (.bool x98_7) ∧ S = sput (sput s0 0 (some (Ck.sl (Ec.int 3 .i64) A5_2 c5_2 l5_2))) 1 (some (Ck.sl (Ec.int 3 .i64) x5.1 x5.2 t3)) ∧ shadowboxlaw17_PartFull.jo8 l5_2 t3 t6 x10_5 (shadowboxlaw17_PartFull.lo5 l5_2 t3 t6 k5) x11_8 = some r) ?_ ?_
                · skip
                  refine cs_seq ?_
                  refine cs_region (l := [_, _]) ?_
                  refine ls_val (v := .int .i64 x9_5) rfl rfl (by kernel_rfl) (fun w => by kernel_rfl) ?_
                  refine ls_val (v := .int .i64 x9_5) rfl rfl (by kernel_rfl) (fun w => by kernel_rfl) ?_
                  refine ls_end ?_
                  refine qn_then ?_
                  refine cs_block ?_
                  refine cs_sub (sput (sput s0 0 (some (Ck.sl (Ec.int 3 .i64) A5_2 c5_2 l5_2))) 1 (some (Ck.sl (Ec.int 3 .i64) x5.1 x5.2 t3))) (sub_put (by exact rfl) (sub_put (by exact rfl) (sub_nil _))) ?_
                  refine cs_loop (fun kk f S => ∃ (fR : Fr) (x11_9 : Int) (x12_9 : Int), f = upd (upd (upd (upd (upd (upd (upd (upd (upd (upd fR 5 (.slice A5_2 l5_2.length c5_2)) 7 (.slice x5.1 t3.length x5.2)) 8 (.int .i64 t6)) 10 (.int .i64 x10_5)) 11 (.int .i64 x11_9)) 12 (.int .i64 x12_9)) 93 (.int .i64 x93_7)) 95 (.int .i64 x95_7)) 97 (.int .i64 x97_7)) 98 (.bool x98_7) ∧ S = sput (sput s0 0 (some (Ck.sl (Ec.int 3 .i64) A5_2 c5_2 l5_2))) 1 (some (Ck.sl (Ec.int 3 .i64) x5.1 x5.2 t3)) ∧ shadowboxlaw17_PartFull.lo9 l5_2 t3 x10_5 (shadowboxlaw17_PartFull.jo8 l5_2 t3 t6 x10_5 (shadowboxlaw17_PartFull.lo5 l5_2 t3 t6 k5)) kk x11_9 x12_9 = some r) k5 ?_ ?_ ?_
                  · exact ⟨_, (0 : Int), x9_5, fr_next (fr_next (fr_next (fr_next (fr_next (fr_next (fr_next (fr_next (fr_next (fr_next (rfl) (by kernel_rfl)) (by kernel_rfl)) (by kernel_rfl)) (by kernel_rfl)) (by kernel_rfl)) (by kernel_rfl)) (by kernel_rfl)) (by kernel_rfl)) (by kernel_rfl)) (by kernel_rfl), rfl, H⟩
                  · rintro f S ⟨fr9, x11_9, x12_9, rfl, rfl, H⟩; cases H
                  · rintro k9 f S ⟨fr9, x11_9, x12_9, rfl, rfl, H⟩
                    replace H : ((if 0 ≤ x10_5 then (if x10_5 < (t3.length : Int) then (if x12_9 < ((t3).getD (x10_5).toNat (0 : Int)) then (if 0 ≤ x12_9 then (if x12_9 < (l5_2.length : Int) then lt (IntKind.wrap .i64 (x11_9 + ((l5_2).getD (x12_9).toNat (0 : Int)))) fun y36 => (shadowboxlaw17_PartFull.lo9 l5_2 t3 x10_5 (shadowboxlaw17_PartFull.jo8 l5_2 t3 t6 x10_5 (shadowboxlaw17_PartFull.lo5 l5_2 t3 t6 k5)) k9) y36 (IntKind.wrap .i64 (x12_9 + (1 : Int))) else none) else none) else (shadowboxlaw17_PartFull.jo8 l5_2 t3 t6 x10_5 (shadowboxlaw17_PartFull.lo5 l5_2 t3 t6 k5)) x11_9) else none) else none)) = some r := H
                    refine cs_seq ?_
                    refine cs_seq ?_
                    refine cs_region (l := [_, _, _, _, _, _]) ?_
                    refine ls_val (v := .int .i64 x12_9) rfl rfl (by kernel_rfl) (fun w => by kernel_rfl) ?_
                    refine ls_val (v := .slice x5.1 t3.length x5.2) rfl rfl (by kernel_rfl) (fun w => by kernel_rfl) ?_
                    refine ls_val (v := .int .i64 x10_5) rfl rfl (by kernel_rfl) (fun w => by kernel_rfl) ?_
                    obtain ⟨q27, H⟩ := ite_need H
                    obtain ⟨q28, H⟩ := ite_need H
                    refine ls_at (T := (Ec.int 3 .i64)) (tk := 1) (i := x10_5) (by exact rfl) q27 q28 ?_
                    intro ad29 hA30
                    refine ls_idxv (Ec.int 3 .i64) (A := x5.1) (c := x5.2) (l := t3) (k := .i64) (i := x10_5) (z := 1) (ad := ad29) rfl rfl (by kernel_rfl) hA30 rfl (by kernel_rfl) (by kernel_rfl) (by kernel_rfl) (by kernel_rfl) q27 q28 ?_
                    refine ls_load (a0 := (ad29.add ((x10_5).toNat * 1))) (v := .int .i64 ((t3).getD (x10_5).toNat (0 : Int))) (de := (TypeDesc.int .i64)) rfl rfl (by kernel_rfl) rfl (by kernel_rfl) (by kernel_rfl) (by kernel_rfl) (fun w hs => (hs.rd (k := 1) (by exact rfl)).at hA30 (em_sub (Ec.int 3 .i64) t3 (i := (x10_5).toNat) (by have h0 : (0 : Int) ≤ x10_5 := q27; have h1 : x10_5 < (t3.length : Int) := q28; omega))) ?_
                    refine ls_val (v := .bool (decide (x12_9 < ((t3).getD (x10_5).toNat (0 : Int))))) rfl rfl (by kernel_rfl) (fun w => by kernel_rfl) ?_
                    refine ls_end ?_
                    refine qn_then ?_
                    by_cases q31 : x12_9 < ((t3).getD (x10_5).toNat (0 : Int))
                    · replace H := ite_t q31 H
                      refine cs_know (c := true) (dec_t q31) 106 (by kernel_rfl) ?_
                      refine cs_true (by kernel_rfl) ?_
                      refine cs_skip' ?_
                      refine qn_then ?_
                      refine cs_seq ?_
                      refine cs_block ?_
                      refine cs_region (l := [_, _, _, _, _, _, _]) ?_
                      refine ls_val (v := .int .i64 x11_9) rfl rfl (by kernel_rfl) (fun w => by kernel_rfl) ?_
                      refine ls_val (v := .slice A5_2 l5_2.length c5_2) rfl rfl (by kernel_rfl) (fun w => by kernel_rfl) ?_
                      refine ls_val (v := .int .i64 x12_9) rfl rfl (by kernel_rfl) (fun w => by kernel_rfl) ?_
                      obtain ⟨q32, H⟩ := ite_need H
                      obtain ⟨q33, H⟩ := ite_need H
                      refine ls_at (T := (Ec.int 3 .i64)) (tk := 0) (i := x12_9) (by exact rfl) q32 q33 ?_
                      intro ad34 hA35
                      refine ls_idxv (Ec.int 3 .i64) (A := A5_2) (c := c5_2) (l := l5_2) (k := .i64) (i := x12_9) (z := 1) (ad := ad34) rfl rfl (by kernel_rfl) hA35 rfl (by kernel_rfl) (by kernel_rfl) (by kernel_rfl) (by kernel_rfl) q32 q33 ?_
                      refine ls_load (a0 := (ad34.add ((x12_9).toNat * 1))) (v := .int .i64 ((l5_2).getD (x12_9).toNat (0 : Int))) (de := (TypeDesc.int .i64)) rfl rfl (by kernel_rfl) rfl (by kernel_rfl) (by kernel_rfl) (by kernel_rfl) (fun w hs => (hs.rd (k := 0) (by exact rfl)).at hA35 (em_sub (Ec.int 3 .i64) l5_2 (i := (x12_9).toNat) (by have h0 : (0 : Int) ≤ x12_9 := q32; have h1 : x12_9 < (l5_2.length : Int) := q33; omega))) ?_
                      obtain ⟨y36, hy37, H⟩ := lt_some H
                      refine ls_val (v := .int .i64 (IntKind.wrap .i64 (x11_9 + ((l5_2).getD (x12_9).toNat (0 : Int))))) rfl rfl (by kernel_rfl) (fun w => by kernel_rfl) ?_
                      refine ls_ren 114 (v := .int .i64 (IntKind.wrap .i64 (x11_9 + ((l5_2).getD (x12_9).toNat (0 : Int))))) (v' := .int .i64 y36) (by kernel_rfl) (by rw [hy37]) ?_
                      refine ls_val (v := .int .i64 y36) rfl rfl (by kernel_rfl) (fun w => by kernel_rfl) ?_
                      refine ls_end ?_
                      refine qn_block ?_
                      refine qn_then ?_
                      refine cs_region (l := [_, _, _]) ?_
                      refine ls_val (v := .int .i64 x12_9) rfl rfl (by kernel_rfl) (fun w => by kernel_rfl) ?_
                      refine ls_val (v := .int .i64 (IntKind.wrap .i64 (x12_9 + (1 : Int)))) rfl rfl (by kernel_rfl) (fun w => by kernel_rfl) ?_
                      refine ls_val (v := .int .i64 (IntKind.wrap .i64 (x12_9 + (1 : Int)))) rfl rfl (by kernel_rfl) (fun w => by kernel_rfl) ?_
                      refine ls_end ?_
                      refine qn_again k9 (sput (sput s0 0 (some (Ck.sl (Ec.int 3 .i64) A5_2 c5_2 l5_2))) 1 (some (Ck.sl (Ec.int 3 .i64) x5.1 x5.2 t3))) (Nat.le_refl _) ⟨_, y36, (IntKind.wrap .i64 (x12_9 + (1 : Int))), fr_next (fr_next (fr_next (fr_next (fr_next (fr_next (fr_next (fr_next (fr_next (fr_next (rfl) (by kernel_rfl)) (by kernel_rfl)) (by kernel_rfl)) (by kernel_rfl)) (by kernel_rfl)) (by kernel_rfl)) (by kernel_rfl)) (by kernel_rfl)) (by kernel_rfl)) (by kernel_rfl), rfl, H⟩ (sub_put (by exact rfl) (sub_put (by exact rfl) (sub_nil _)))
                    · replace H := ite_f q31 H
                      refine cs_know (c := false) (dec_f q31) 106 (by kernel_rfl) ?_
                      refine cs_false (by kernel_rfl) ?_
                      refine cs_exit' ?_
                      refine qx_then ?_
                      refine qx_then ?_
                      refine qx_same ?_
                      refine qn_meet (sput (sput s0 0 (some (Ck.sl (Ec.int 3 .i64) A5_2 c5_2 l5_2))) 1 (some (Ck.sl (Ec.int 3 .i64) x5.1 x5.2 t3))) ⟨_, x11_9, fr_next (fr_next (fr_next (fr_next (fr_next (fr_next (fr_next (fr_next (fr_next (rfl) (by kernel_rfl)) (by kernel_rfl)) (by kernel_rfl)) (by kernel_rfl)) (by kernel_rfl)) (by kernel_rfl)) (by kernel_rfl)) (by kernel_rfl)) (by kernel_rfl), rfl, H⟩ (sub_put (by exact rfl) (sub_put (by exact rfl) (sub_nil _)))
                · rintro f S ⟨fr8, x11_8, rfl, rfl, H⟩
                  replace H : ((if x11_8 > t6 then some false else (if 0 ≤ x10_5 then (if x10_5 < (t3.length : Int) then (if ((t3).getD (x10_5).toNat (0 : Int)) < (l5_2.length : Int) then (if 0 ≤ ((t3).getD (x10_5).toNat (0 : Int)) then lt (((l5_2).getD (((t3).getD (x10_5).toNat (0 : Int))).toNat (0 : Int))) fun y20 => (if (IntKind.wrap .i64 (x11_8 + y20)) ≤ t6 then some false else (shadowboxlaw17_PartFull.lo5 l5_2 t3 t6 k5) ((t3).getD (x10_5).toNat (0 : Int)) (IntKind.wrap .i64 (x10_5 + (1 : Int)))) else none) else (shadowboxlaw17_PartFull.lo5 l5_2 t3 t6 k5) ((t3).getD (x10_5).toNat (0 : Int)) (IntKind.wrap .i64 (x10_5 + (1 : Int)))) else none) else none))) = some r := H
                  refine cs_seq ?_
                  refine cs_seq ?_
                  refine cs_region (l := [_, _, _, _, _, _, _, _, _, _, _, _, _, _, _, _, _, _, _, _, _, _, _, _, _]) ?_
                  refine ls_val (v := .int .i64 x11_8) rfl rfl (by kernel_rfl) (fun w => by kernel_rfl) ?_
                  refine ls_val (v := .int .i64 t6) rfl rfl (by kernel_rfl) (fun w => by kernel_rfl) ?_
                  refine ls_val (v := .bool (decide (x11_8 > t6))) rfl rfl (by kernel_rfl) (fun w => by kernel_rfl) ?_
                  refine ls_val (v := .bool (decide (x11_8 > t6))) rfl rfl (by kernel_rfl) (fun w => by kernel_rfl) ?_
                  by_cases q9 : x11_8 > t6
                  · replace H := ite_t q9 H
                    refine ls_know (c := true) (dec_t q9) 118 (by kernel_rfl) ?_
                    refine ls_off (j := 3) (t := 118) (b := false) (c := true) rfl rfl (by kernel_rfl) (by kernel_rfl) rfl rfl (by kernel_rfl) ?_
                    refine ls_off (j := 3) (t := 118) (b := false) (c := true) rfl rfl (by kernel_rfl) (by kernel_rfl) rfl rfl (by kernel_rfl) ?_
                    refine ls_off (j := 3) (t := 118) (b := false) (c := true) rfl rfl (by kernel_rfl) (by kernel_rfl) rfl rfl (by kernel_rfl) ?_
                    refine ls_off (j := 3) (t := 118) (b := false) (c := true) rfl rfl (by kernel_rfl) (by kernel_rfl) rfl rfl (by kernel_rfl) ?_
                    refine ls_off (j := 3) (t := 118) (b := false) (c := true) rfl rfl (by kernel_rfl) (by kernel_rfl) rfl rfl (by kernel_rfl) ?_
                    refine ls_off (j := 3) (t := 118) (b := false) (c := true) rfl rfl (by kernel_rfl) (by kernel_rfl) rfl rfl (by kernel_rfl) ?_
                    refine ls_off (j := 3) (t := 118) (b := false) (c := true) rfl rfl (by kernel_rfl) (by kernel_rfl) rfl rfl (by kernel_rfl) ?_
                    refine ls_off (j := 3) (t := 118) (b := false) (c := true) rfl rfl (by kernel_rfl) (by kernel_rfl) rfl rfl (by kernel_rfl) ?_
                    refine ls_offu (j := 11) (t := 126) (b := true) rfl rfl (by kernel_rfl) (by kernel_rfl) rfl (by kernel_rfl) ?_
                    refine ls_offu (j := 11) (t := 126) (b := true) rfl rfl (by kernel_rfl) (by kernel_rfl) rfl (by kernel_rfl) ?_
                    refine ls_offu (j := 11) (t := 126) (b := true) rfl rfl (by kernel_rfl) (by kernel_rfl) rfl (by kernel_rfl) ?_
                    refine ls_offu (j := 11) (t := 126) (b := true) rfl rfl (by kernel_rfl) (by kernel_rfl) rfl (by kernel_rfl) ?_
                    refine ls_offu (j := 11) (t := 126) (b := true) rfl rfl (by kernel_rfl) (by kernel_rfl) rfl (by kernel_rfl) ?_
                    refine ls_offu (j := 11) (t := 126) (b := true) rfl rfl (by kernel_rfl) (by kernel_rfl) rfl (by kernel_rfl) ?_
                    refine ls_offu (j := 11) (t := 126) (b := true) rfl rfl (by kernel_rfl) (by kernel_rfl) rfl (by kernel_rfl) ?_
                    refine ls_offu (j := 11) (t := 126) (b := true) rfl rfl (by kernel_rfl) (by kernel_rfl) rfl (by kernel_rfl) ?_
                    refine ls_offu (j := 11) (t := 126) (b := true) rfl rfl (by kernel_rfl) (by kernel_rfl) rfl (by kernel_rfl) ?_
                    refine ls_offu (j := 11) (t := 126) (b := true) rfl rfl (by kernel_rfl) (by kernel_rfl) rfl (by kernel_rfl) ?_
                    refine ls_offu (j := 11) (t := 126) (b := true) rfl rfl (by kernel_rfl) (by kernel_rfl) rfl (by kernel_rfl) ?_
                    refine ls_off (j := 3) (t := 118) (b := false) (c := true) rfl rfl (by kernel_rfl) (by kernel_rfl) rfl rfl (by kernel_rfl) ?_
                    refine ls_val (v := .bool true) rfl rfl (by kernel_rfl) (fun w => by kernel_rfl) ?_
                    refine ls_end ?_
                    refine qn_then ?_
                    refine cs_true (by kernel_rfl) ?_
                    refine cs_seq ?_
                    refine cs_region (l := [_]) ?_
                    refine ls_val (v := .bool false) rfl rfl (by kernel_rfl) (fun w => by kernel_rfl) ?_
                    refine ls_end ?_
                    refine qn_then ?_
                    refine cs_ret' ?_
                    refine qr_then ?_
                    refine qr_block ?_
                    refine qr_then ?_
                    refine qr_then ?_
                    refine qr_block ?_
                    refine qr_then ?_
                    obtain rfl := Option.some.inj H
                    refine qr_res (rs := [_]) rfl (fun w' hs => ⟨[.bool false], (res_tmp (by kernel_rfl) (.nil)), (), rfl, hs.pick (ts := []) (cs := []) trivial (by decide)⟩)
                  · replace H := ite_f q9 H
                    refine ls_know (c := false) (dec_f q9) 118 (by kernel_rfl) ?_
                    refine ls_on (j := 3) (t := 118) (b := false) rfl rfl (by kernel_rfl) (by kernel_rfl) ?_
                    refine ls_val (v := .slice x5.1 t3.length x5.2) rfl rfl (by kernel_rfl) (fun w => by kernel_rfl) ?_
                    refine ls_on (j := 3) (t := 118) (b := false) rfl rfl (by kernel_rfl) (by kernel_rfl) ?_
                    refine ls_val (v := .int .i64 x10_5) rfl rfl (by kernel_rfl) (fun w => by kernel_rfl) ?_
                    refine ls_on (j := 3) (t := 118) (b := false) rfl rfl (by kernel_rfl) (by kernel_rfl) ?_
                    obtain ⟨q10, H⟩ := ite_need H
                    obtain ⟨q11, H⟩ := ite_need H
                    refine ls_at (T := (Ec.int 3 .i64)) (tk := 1) (i := x10_5) (by exact rfl) q10 q11 ?_
                    intro ad12 hA13
                    refine ls_idxv (Ec.int 3 .i64) (A := x5.1) (c := x5.2) (l := t3) (k := .i64) (i := x10_5) (z := 1) (ad := ad12) rfl rfl (by kernel_rfl) hA13 rfl (by kernel_rfl) (by kernel_rfl) (by kernel_rfl) (by kernel_rfl) q10 q11 ?_
                    refine ls_on (j := 3) (t := 118) (b := false) rfl rfl (by kernel_rfl) (by kernel_rfl) ?_
                    refine ls_load (a0 := (ad12.add ((x10_5).toNat * 1))) (v := .int .i64 ((t3).getD (x10_5).toNat (0 : Int))) (de := (TypeDesc.int .i64)) rfl rfl (by kernel_rfl) rfl (by kernel_rfl) (by kernel_rfl) (by kernel_rfl) (fun w hs => (hs.rd (k := 1) (by exact rfl)).at hA13 (em_sub (Ec.int 3 .i64) t3 (i := (x10_5).toNat) (by have h0 : (0 : Int) ≤ x10_5 := q10; have h1 : x10_5 < (t3.length : Int) := q11; omega))) ?_
                    refine ls_on (j := 3) (t := 118) (b := false) rfl rfl (by kernel_rfl) (by kernel_rfl) ?_
                    refine ls_val (v := .slice A5_2 l5_2.length c5_2) rfl rfl (by kernel_rfl) (fun w => by kernel_rfl) ?_
                    refine ls_on (j := 3) (t := 118) (b := false) rfl rfl (by kernel_rfl) (by kernel_rfl) ?_
                    refine ls_val (v := .int .i64 (l5_2.length : Int)) rfl rfl (by kernel_rfl) (fun w => by kernel_rfl) ?_
                    refine ls_on (j := 3) (t := 118) (b := false) rfl rfl (by kernel_rfl) (by kernel_rfl) ?_
                    refine ls_val (v := .bool (decide (((t3).getD (x10_5).toNat (0 : Int)) < (l5_2.length : Int)))) rfl rfl (by kernel_rfl) (fun w => by kernel_rfl) ?_
                    refine ls_on (j := 3) (t := 118) (b := false) rfl rfl (by kernel_rfl) (by kernel_rfl) ?_
                    refine ls_val (v := .bool (decide (((t3).getD (x10_5).toNat (0 : Int)) < (l5_2.length : Int)))) rfl rfl (by kernel_rfl) (fun w => by kernel_rfl) ?_
                    by_cases q14 : ((t3).getD (x10_5).toNat (0 : Int)) < (l5_2.length : Int)
                    · replace H := ite_t q14 H
                      refine ls_know (c := true) (dec_t q14) 126 (by kernel_rfl) ?_
                      refine ls_on (j := 11) (t := 126) (b := true) rfl rfl (by kernel_rfl) (by kernel_rfl) ?_
                      refine ls_val (v := .int .i64 x11_8) rfl rfl (by kernel_rfl) (fun w => by kernel_rfl) ?_
                      refine ls_on (j := 11) (t := 126) (b := true) rfl rfl (by kernel_rfl) (by kernel_rfl) ?_
                      refine ls_val (v := .slice A5_2 l5_2.length c5_2) rfl rfl (by kernel_rfl) (fun w => by kernel_rfl) ?_
                      refine ls_on (j := 11) (t := 126) (b := true) rfl rfl (by kernel_rfl) (by kernel_rfl) ?_
                      refine ls_val (v := .slice x5.1 t3.length x5.2) rfl rfl (by kernel_rfl) (fun w => by kernel_rfl) ?_
                      refine ls_on (j := 11) (t := 126) (b := true) rfl rfl (by kernel_rfl) (by kernel_rfl) ?_
                      refine ls_val (v := .int .i64 x10_5) rfl rfl (by kernel_rfl) (fun w => by kernel_rfl) ?_
                      refine ls_on (j := 11) (t := 126) (b := true) rfl rfl (by kernel_rfl) (by kernel_rfl) ?_
                      refine ls_at (T := (Ec.int 3 .i64)) (tk := 1) (i := x10_5) (by exact rfl) q10 q11 ?_
                      intro ad15 hA16
                      refine ls_idxv (Ec.int 3 .i64) (A := x5.1) (c := x5.2) (l := t3) (k := .i64) (i := x10_5) (z := 1) (ad := ad15) rfl rfl (by kernel_rfl) hA16 rfl (by kernel_rfl) (by kernel_rfl) (by kernel_rfl) (by kernel_rfl) q10 q11 ?_
                      refine ls_on (j := 11) (t := 126) (b := true) rfl rfl (by kernel_rfl) (by kernel_rfl) ?_
                      refine ls_load (a0 := (ad15.add ((x10_5).toNat * 1))) (v := .int .i64 ((t3).getD (x10_5).toNat (0 : Int))) (de := (TypeDesc.int .i64)) rfl rfl (by kernel_rfl) rfl (by kernel_rfl) (by kernel_rfl) (by kernel_rfl) (fun w hs => (hs.rd (k := 1) (by exact rfl)).at hA16 (em_sub (Ec.int 3 .i64) t3 (i := (x10_5).toNat) (by have h0 : (0 : Int) ≤ x10_5 := q10; have h1 : x10_5 < (t3.length : Int) := q11; omega))) ?_
                      refine ls_on (j := 11) (t := 126) (b := true) rfl rfl (by kernel_rfl) (by kernel_rfl) ?_
                      obtain ⟨q17, H⟩ := ite_need H
                      refine ls_at (T := (Ec.int 3 .i64)) (tk := 0) (i := ((t3).getD (x10_5).toNat (0 : Int))) (by exact rfl) q17 q14 ?_
                      intro ad18 hA19
                      refine ls_idxv (Ec.int 3 .i64) (A := A5_2) (c := c5_2) (l := l5_2) (k := .i64) (i := ((t3).getD (x10_5).toNat (0 : Int))) (z := 1) (ad := ad18) rfl rfl (by kernel_rfl) hA19 rfl (by kernel_rfl) (by kernel_rfl) (by kernel_rfl) (by kernel_rfl) q17 q14 ?_
                      refine ls_on (j := 11) (t := 126) (b := true) rfl rfl (by kernel_rfl) (by kernel_rfl) ?_
                      obtain ⟨y20, hy21, H⟩ := lt_some H
                      refine ls_load (a0 := (ad18.add ((((t3).getD (x10_5).toNat (0 : Int))).toNat * 1))) (v := .int .i64 ((l5_2).getD (((t3).getD (x10_5).toNat (0 : Int))).toNat (0 : Int))) (de := (TypeDesc.int .i64)) rfl rfl (by kernel_rfl) rfl (by kernel_rfl) (by kernel_rfl) (by kernel_rfl) (fun w hs => (hs.rd (k := 0) (by exact rfl)).at hA19 (em_sub (Ec.int 3 .i64) l5_2 (i := (((t3).getD (x10_5).toNat (0 : Int))).toNat) (by have h0 : (0 : Int) ≤ ((t3).getD (x10_5).toNat (0 : Int)) := q17; have h1 : ((t3).getD (x10_5).toNat (0 : Int)) < (l5_2.length : Int) := q14; omega))) ?_
                      refine ls_ren 134 (v := .int .i64 ((l5_2).getD (((t3).getD (x10_5).toNat (0 : Int))).toNat (0 : Int))) (v' := .int .i64 y20) (by kernel_rfl) (by rw [hy21]) ?_
                      refine ls_on (j := 11) (t := 126) (b := true) rfl rfl (by kernel_rfl) (by kernel_rfl) ?_
                      refine ls_val (v := .int .i64 (IntKind.wrap .i64 (x11_8 + y20))) rfl rfl (by kernel_rfl) (fun w => by kernel_rfl) ?_
                      refine ls_on (j := 11) (t := 126) (b := true) rfl rfl (by kernel_rfl) (by kernel_rfl) ?_
                      refine ls_val (v := .int .i64 t6) rfl rfl (by kernel_rfl) (fun w => by kernel_rfl) ?_
                      refine ls_on (j := 11) (t := 126) (b := true) rfl rfl (by kernel_rfl) (by kernel_rfl) ?_
                      refine ls_val (v := .bool (decide ((IntKind.wrap .i64 (x11_8 + y20)) ≤ t6))) rfl rfl (by kernel_rfl) (fun w => by kernel_rfl) ?_
                      refine ls_on (j := 3) (t := 118) (b := false) rfl rfl (by kernel_rfl) (by kernel_rfl) ?_
                      refine ls_val (v := .bool (decide ((IntKind.wrap .i64 (x11_8 + y20)) ≤ t6))) rfl rfl (by kernel_rfl) (fun w => by kernel_rfl) ?_
                      refine ls_val (v := .bool (decide ((IntKind.wrap .i64 (x11_8 + y20)) ≤ t6))) rfl rfl (by kernel_rfl) (fun w => by kernel_rfl) ?_
                      refine ls_end ?_
                      refine qn_then ?_
                      by_cases q22 : (IntKind.wrap .i64 (x11_8 + y20)) ≤ t6
                      · replace H := ite_t q22 H
                        refine cs_know (c := true) (dec_t q22) 139 (by kernel_rfl) ?_
                        refine cs_true (by kernel_rfl) ?_
                        refine cs_seq ?_
                        refine cs_region (l := [_]) ?_
                        refine ls_val (v := .bool false) rfl rfl (by kernel_rfl) (fun w => by kernel_rfl) ?_
                        refine ls_end ?_
                        refine qn_then ?_
                        refine cs_ret' ?_
                        refine qr_then ?_
                        refine qr_block ?_
                        refine qr_then ?_
                        refine qr_then ?_
                        refine qr_block ?_
                        refine qr_then ?_
                        obtain rfl := Option.some.inj H
                        refine qr_res (rs := [_]) rfl (fun w' hs => ⟨[.bool false], (res_tmp (by kernel_rfl) (.nil)), (), rfl, hs.pick (ts := []) (cs := []) trivial (by decide)⟩)
                      · replace H := ite_f q22 H
                        refine cs_know (c := false) (dec_f q22) 139 (by kernel_rfl) ?_
                        refine cs_false (by kernel_rfl) ?_
                        refine cs_skip' ?_
                        refine qn_then ?_
                        refine cs_region (l := [_, _, _, _, _]) ?_
                        refine ls_val (v := .slice x5.1 t3.length x5.2) rfl rfl (by kernel_rfl) (fun w => by kernel_rfl) ?_
                        refine ls_val (v := .int .i64 x10_5) rfl rfl (by kernel_rfl) (fun w => by kernel_rfl) ?_
                        refine ls_at (T := (Ec.int 3 .i64)) (tk := 1) (i := x10_5) (by exact rfl) q10 q11 ?_
                        intro ad23 hA24
                        refine ls_idxv (Ec.int 3 .i64) (A := x5.1) (c := x5.2) (l := t3) (k := .i64) (i := x10_5) (z := 1) (ad := ad23) rfl rfl (by kernel_rfl) hA24 rfl (by kernel_rfl) (by kernel_rfl) (by kernel_rfl) (by kernel_rfl) q10 q11 ?_
                        refine ls_load (a0 := (ad23.add ((x10_5).toNat * 1))) (v := .int .i64 ((t3).getD (x10_5).toNat (0 : Int))) (de := (TypeDesc.int .i64)) rfl rfl (by kernel_rfl) rfl (by kernel_rfl) (by kernel_rfl) (by kernel_rfl) (fun w hs => (hs.rd (k := 1) (by exact rfl)).at hA24 (em_sub (Ec.int 3 .i64) t3 (i := (x10_5).toNat) (by have h0 : (0 : Int) ≤ x10_5 := q10; have h1 : x10_5 < (t3.length : Int) := q11; omega))) ?_
                        refine ls_val (v := .int .i64 ((t3).getD (x10_5).toNat (0 : Int))) rfl rfl (by kernel_rfl) (fun w => by kernel_rfl) ?_
                        refine ls_end ?_
                        refine qn_block ?_
                        refine qn_then ?_
                        refine cs_region (l := [_, _, _]) ?_
                        refine ls_val (v := .int .i64 x10_5) rfl rfl (by kernel_rfl) (fun w => by kernel_rfl) ?_
                        refine ls_val (v := .int .i64 (IntKind.wrap .i64 (x10_5 + (1 : Int)))) rfl rfl (by kernel_rfl) (fun w => by kernel_rfl) ?_
                        refine ls_val (v := .int .i64 (IntKind.wrap .i64 (x10_5 + (1 : Int)))) rfl rfl (by kernel_rfl) (fun w => by kernel_rfl) ?_
                        refine ls_end ?_
                        refine qn_again k5 (sput (sput s0 0 (some (Ck.sl (Ec.int 3 .i64) A5_2 c5_2 l5_2))) 1 (some (Ck.sl (Ec.int 3 .i64) x5.1 x5.2 t3))) (Nat.le_refl _) ⟨_, ((t3).getD (x10_5).toNat (0 : Int)), (IntKind.wrap .i64 (x10_5 + (1 : Int))), fr_next (fr_next (fr_next (fr_next (fr_next (rfl) (by kernel_rfl)) (by kernel_rfl)) (by kernel_rfl)) (by kernel_rfl)) (by kernel_rfl), rfl, H⟩ (sub_put (by exact rfl) (sub_put (by exact rfl) (sub_nil _)))
                    · replace H := ite_f q14 H
                      refine ls_know (c := false) (dec_f q14) 126 (by kernel_rfl) ?_
                      refine ls_off (j := 11) (t := 126) (b := true) (c := false) rfl rfl (by kernel_rfl) (by kernel_rfl) rfl rfl (by kernel_rfl) ?_
                      refine ls_off (j := 11) (t := 126) (b := true) (c := false) rfl rfl (by kernel_rfl) (by kernel_rfl) rfl rfl (by kernel_rfl) ?_
                      refine ls_off (j := 11) (t := 126) (b := true) (c := false) rfl rfl (by kernel_rfl) (by kernel_rfl) rfl rfl (by kernel_rfl) ?_
                      refine ls_off (j := 11) (t := 126) (b := true) (c := false) rfl rfl (by kernel_rfl) (by kernel_rfl) rfl rfl (by kernel_rfl) ?_
                      refine ls_off (j := 11) (t := 126) (b := true) (c := false) rfl rfl (by kernel_rfl) (by kernel_rfl) rfl rfl (by kernel_rfl) ?_
                      refine ls_off (j := 11) (t := 126) (b := true) (c := false) rfl rfl (by kernel_rfl) (by kernel_rfl) rfl rfl (by kernel_rfl) ?_
                      refine ls_off (j := 11) (t := 126) (b := true) (c := false) rfl rfl (by kernel_rfl) (by kernel_rfl) rfl rfl (by kernel_rfl) ?_
                      refine ls_off (j := 11) (t := 126) (b := true) (c := false) rfl rfl (by kernel_rfl) (by kernel_rfl) rfl rfl (by kernel_rfl) ?_
                      refine ls_off (j := 11) (t := 126) (b := true) (c := false) rfl rfl (by kernel_rfl) (by kernel_rfl) rfl rfl (by kernel_rfl) ?_
                      refine ls_off (j := 11) (t := 126) (b := true) (c := false) rfl rfl (by kernel_rfl) (by kernel_rfl) rfl rfl (by kernel_rfl) ?_
                      refine ls_off (j := 11) (t := 126) (b := true) (c := false) rfl rfl (by kernel_rfl) (by kernel_rfl) rfl rfl (by kernel_rfl) ?_
                      refine ls_on (j := 3) (t := 118) (b := false) rfl rfl (by kernel_rfl) (by kernel_rfl) ?_
                      refine ls_val (v := .bool false) rfl rfl (by kernel_rfl) (fun w => by kernel_rfl) ?_
                      refine ls_val (v := .bool false) rfl rfl (by kernel_rfl) (fun w => by kernel_rfl) ?_
                      refine ls_end ?_
                      refine qn_then ?_
                      refine cs_false (by kernel_rfl) ?_
                      refine cs_skip' ?_
                      refine qn_then ?_
                      refine cs_region (l := [_, _, _, _, _]) ?_
                      refine ls_val (v := .slice x5.1 t3.length x5.2) rfl rfl (by kernel_rfl) (fun w => by kernel_rfl) ?_
                      refine ls_val (v := .int .i64 x10_5) rfl rfl (by kernel_rfl) (fun w => by kernel_rfl) ?_
                      refine ls_at (T := (Ec.int 3 .i64)) (tk := 1) (i := x10_5) (by exact rfl) q10 q11 ?_
                      intro ad25 hA26
                      refine ls_idxv (Ec.int 3 .i64) (A := x5.1) (c := x5.2) (l := t3) (k := .i64) (i := x10_5) (z := 1) (ad := ad25) rfl rfl (by kernel_rfl) hA26 rfl (by kernel_rfl) (by kernel_rfl) (by kernel_rfl) (by kernel_rfl) q10 q11 ?_
                      refine ls_load (a0 := (ad25.add ((x10_5).toNat * 1))) (v := .int .i64 ((t3).getD (x10_5).toNat (0 : Int))) (de := (TypeDesc.int .i64)) rfl rfl (by kernel_rfl) rfl (by kernel_rfl) (by kernel_rfl) (by kernel_rfl) (fun w hs => (hs.rd (k := 1) (by exact rfl)).at hA26 (em_sub (Ec.int 3 .i64) t3 (i := (x10_5).toNat) (by have h0 : (0 : Int) ≤ x10_5 := q10; have h1 : x10_5 < (t3.length : Int) := q11; omega))) ?_
                      refine ls_val (v := .int .i64 ((t3).getD (x10_5).toNat (0 : Int))) rfl rfl (by kernel_rfl) (fun w => by kernel_rfl) ?_
                      refine ls_end ?_
                      refine qn_block ?_
                      refine qn_then ?_
                      refine cs_region (l := [_, _, _]) ?_
                      refine ls_val (v := .int .i64 x10_5) rfl rfl (by kernel_rfl) (fun w => by kernel_rfl) ?_
                      refine ls_val (v := .int .i64 (IntKind.wrap .i64 (x10_5 + (1 : Int)))) rfl rfl (by kernel_rfl) (fun w => by kernel_rfl) ?_
                      refine ls_val (v := .int .i64 (IntKind.wrap .i64 (x10_5 + (1 : Int)))) rfl rfl (by kernel_rfl) (fun w => by kernel_rfl) ?_
                      refine ls_end ?_
                      refine qn_again k5 (sput (sput s0 0 (some (Ck.sl (Ec.int 3 .i64) A5_2 c5_2 l5_2))) 1 (some (Ck.sl (Ec.int 3 .i64) x5.1 x5.2 t3))) (Nat.le_refl _) ⟨_, ((t3).getD (x10_5).toNat (0 : Int)), (IntKind.wrap .i64 (x10_5 + (1 : Int))), fr_next (fr_next (fr_next (fr_next (fr_next (rfl) (by kernel_rfl)) (by kernel_rfl)) (by kernel_rfl)) (by kernel_rfl)) (by kernel_rfl), rfl, H⟩ (sub_put (by exact rfl) (sub_put (by exact rfl) (sub_nil _)))

end Go.Proofs.Ytnkcadofhhcfaaa.G
