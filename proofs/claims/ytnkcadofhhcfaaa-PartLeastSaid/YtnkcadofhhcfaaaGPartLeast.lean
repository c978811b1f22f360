/- Printed by a program of this session (sz.py): plain functions, and walks that show that the code comes to them; no condition. -/
import Derived.Test.YtnkcadofhhcfaaaProg
import Derived.Test.YtnkcadofhhcfaaaTy
import Derived.Test.YtnkcadofhhcfaaaG0
import Derived.Test.YtnkcadofhhcfaaaG1
set_option linter.unusedVariables false
set_option linter.unusedSimpArgs false
namespace Go.Proofs.Ytnkcadofhhcfaaa.G
open Go Go.RowKit Go.Proofs.Ytnkcadofhhcfaaa.Sx

/-! ### shadowbox/shadowboxlaw17.PartLeast: function 7 -/
def shadowboxlaw17_PartLeast.jo2 (k : Nat) (y1 : Int) (l5_2 : List Int) : Option (Bool) := (part_Cut.f k l5_2 y1).bind fun t3 => (if (l5_2.length : Int) = (0 : Int) then (if (t3.length : Int) = (0 : Int) then (part_Cut.f k ([(1 : Int)]) (1 : Int)).bind fun t9 => some (decide ((t9.length : Int) = (1 : Int))) else some false) else (shadowboxlaw17_least.f k l5_2 y1).bind fun t12 => (if (t3.length : Int) = t12.1 then (part_Greatest.f k l5_2 t3).bind fun t16 => some (decide (t16 = t12.2)) else some false))
def shadowboxlaw17_PartLeast.lo3 (l0_1 : List Int) (y1 : Int) (jo2 : (List Int) → Option (Bool)) : Nat → (List Int) → Int → Option (Bool)
  | 0, _, _ => none
  | k3 + 1, l5_3, x6_3 => (if x6_3 < (l0_1.length : Int) then (if 0 ≤ x6_3 then lt (bits .and .i64 ((l0_1).getD (x6_3).toNat (0 : Int)) (63 : Int)) fun y23 => (if IntKind.wrap .i64 (y1 + (1 : Int)) ≠ 0 then lt (Int.tmod y23 (IntKind.wrap .i64 (y1 + (1 : Int)))) fun y26 => (if (l5_3.length + ([y26]).length) * 8 ≤ 140737488355328 then (shadowboxlaw17_PartLeast.lo3 l0_1 y1 jo2 k3) (l5_3 ++ [y26]) (IntKind.wrap .i64 (x6_3 + (1 : Int))) else none) else none) else none) else jo2 l5_3)
def shadowboxlaw17_PartLeast.jo1 (k : Nat) (a1 : Int) (l0_1 : List Int) : Option (Bool) := lt (IntKind.wrap .i64 ((1 : Int) + (bits .and .i64 a1 (63 : Int)))) fun y1 => shadowboxlaw17_PartLeast.lo3 l0_1 y1 (shadowboxlaw17_PartLeast.jo2 k y1) k ([] : List Int) (0 : Int)
def shadowboxlaw17_PartLeast.f (k : Nat) (l0 : List Int) (a1 : Int) : Option (Bool) :=
  (if (l0.length : Int) > (9 : Int) then (if (9 : Int) ≤ (l0.length : Int) then lt (l0.take ((9 : Int)).toNat) fun xl38 => (shadowboxlaw17_PartLeast.jo1 k a1) xl38 else none) else (shadowboxlaw17_PartLeast.jo1 k a1) l0)
set_option maxRecDepth 100000 in
set_option maxHeartbeats 4000000 in
theorem shadowboxlaw17_PartLeast.calls (k : Nat) (A0 : Option Addr) (c0 : Nat) (l0 : List Int) (a1 : Int) (r : Bool) (b : Bs) (hs0 : St b (stl []) b.w) (R0 : Ro b A0 (em (Ec.int 3 .i64) l0)) (C0 : l0.length ≤ c0) (H : shadowboxlaw17_PartLeast.f k l0 a1 = some r) :
    Calls Try.prog 7 #[.slice A0 l0.length c0, .int .i64 a1] b.w fun e w' => ∃ x : Unit, e = .returned (.bool r) ∧ St b (stl []) w' := by
  unfold shadowboxlaw17_PartLeast.f at H
  refine enterb (n := 67) Try.func7 rfl (by kernel_rfl) (by kernel_rfl) hs0 ?_
  refine cs_sub (s0) (sub_nil _) ?_
  refine cs_seq ?_
  refine cs_region (l := [_]) ?_
  refine ls_val (v := .bool false) rfl rfl (by kernel_rfl) (fun w => by kernel_rfl) ?_
  refine ls_end ?_
  refine qn_then ?_
  refine cs_cut (fun f S => ∃ (fR : Fr) (A0_1 : Option Addr) (c0_1 : Nat) (l0_1 : List Int), f = upd (upd fR 0 (.slice A0_1 l0_1.length c0_1)) 1 (.int .i64 a1) ∧ S = s0 ∧ Ro b A0_1 (em (Ec.int 3 .i64) l0_1) ∧ l0_1.length ≤ c0_1 ∧ shadowboxlaw17_PartLeast.jo1 k a1 l0_1 = some r) ?_ ?_
  · skip
    refine cs_seq ?_
    refine cs_region (l := [_, _, _]) ?_
    refine ls_val (v := .slice A0 l0.length c0) rfl rfl (by kernel_rfl) (fun w => by kernel_rfl) ?_
    refine ls_val (v := .int .i64 (l0.length : Int)) rfl rfl (by kernel_rfl) (fun w => by kernel_rfl) ?_
    refine ls_val (v := .bool (decide ((l0.length : Int) > (9 : Int)))) rfl rfl (by kernel_rfl) (fun w => by kernel_rfl) ?_
    refine ls_end ?_
    refine qn_then ?_
    by_cases q32 : (l0.length : Int) > (9 : Int)
    · replace H := ite_t q32 H
      refine cs_know (c := true) (dec_t q32) 12 (by kernel_rfl) ?_
      refine cs_true (by kernel_rfl) ?_
      refine cs_region (l := [_, _, _]) ?_
      refine ls_val (v := .slice A0 l0.length c0) rfl rfl (by kernel_rfl) (fun w => by kernel_rfl) ?_
      obtain ⟨q33, H⟩ := ite_need H
      obtain ⟨xl38, hy39, H⟩ := lt_some H
      have hz41 : 0 ≤ ((9 : Int)).toNat := by omega
      have hz42 : ((9 : Int)).toNat ≤ l0.length := by omega
      obtain ⟨xA34, xc35, he40, xC37, xR36⟩ := cut_at (A := A0) (c := c0) (l := l0) (Ec.int 3 .i64) 0 (((9 : Int)).toNat) hz41 hz42 C0 R0 (m := xl38) (by rw [← hy39] <;> simp) (z := 1) rfl
      refine ls_cutv (A := A0) (c := c0) (m := l0.length) (z := 1) (e := 3) (a := 0) (b := ((9 : Int)).toNat) rfl rfl (by kernel_rfl) rfl (by kernel_rfl) (by kernel_rfl) (by kernel_rfl) (.inl ⟨rfl, rfl⟩) (.inr ⟨.i64, by rw [Int.toNat_of_nonneg (by first | assumption | omega)]; kernel_rfl⟩) hz41 hz42 C0 he40 ?_
      refine ls_val (v := .slice xA34 xl38.length xc35) rfl rfl (by kernel_rfl) (fun w => by kernel_rfl) ?_
      refine ls_end ?_
      refine qn_meet (s0) ⟨_, xA34, xc35, xl38, fr_next (fr_next (rfl) (by kernel_rfl)) (by kernel_rfl), rfl, xR36, xC37, H⟩ (sub_nil _)
    · replace H := ite_f q32 H
      refine cs_know (c := false) (dec_f q32) 12 (by kernel_rfl) ?_
      refine cs_false (by kernel_rfl) ?_
      refine cs_skip' ?_
      refine qn_meet (s0) ⟨_, A0, c0, l0, fr_next (fr_next (rfl) (by kernel_rfl)) (by kernel_rfl), rfl, R0, C0, H⟩ (sub_nil _)
  · rintro f S ⟨fr1, A0_1, c0_1, l0_1, rfl, rfl, R0_1, C0_1, H⟩
    replace H : (lt (IntKind.wrap .i64 ((1 : Int) + (bits .and .i64 a1 (63 : Int)))) fun y1 => shadowboxlaw17_PartLeast.lo3 l0_1 y1 (shadowboxlaw17_PartLeast.jo2 k y1) k ([] : List Int) (0 : Int)) = some r := H
    refine cs_seq ?_
    refine cs_region (l := [_, _, _, _]) ?_
    refine ls_val (v := .int .i64 a1) rfl rfl (by kernel_rfl) (fun w => by kernel_rfl) ?_
    refine ls_val (v := .int .i64 (bits .and .i64 a1 (63 : Int))) rfl rfl (by kernel_rfl) (fun w => by kernel_rfl) ?_
    obtain ⟨y1, hy2, H⟩ := lt_some H
    refine ls_val (v := .int .i64 (IntKind.wrap .i64 ((1 : Int) + (bits .and .i64 a1 (63 : Int))))) rfl rfl (by kernel_rfl) (fun w => by kernel_rfl) ?_
    refine ls_ren 17 (v := .int .i64 (IntKind.wrap .i64 ((1 : Int) + (bits .and .i64 a1 (63 : Int))))) (v' := .int .i64 y1) (by kernel_rfl) (by rw [hy2]) ?_
    refine ls_val (v := .int .i64 y1) rfl rfl (by kernel_rfl) (fun w => by kernel_rfl) ?_
    refine ls_end ?_
    refine qn_then ?_
    refine cs_seq ?_
    refine cs_region (l := [_]) ?_
    refine ls_val (v := .slice none 0 0) rfl rfl (by kernel_rfl) (fun w => by kernel_rfl) ?_
    refine ls_end ?_
    refine qn_then ?_
    refine cs_nilrow 0 (Ec.int 3 .i64) ?_
    refine cs_cut (fun f S => ∃ (fR : Fr) (A5_2 : Option Addr) (c5_2 : Nat) (l5_2 : List Int), f = upd (upd fR 1 (.int .i64 y1)) 5 (.slice A5_2 l5_2.length c5_2) ∧ S = sput s0 0 (some (Ck.sl (Ec.int 3 .i64) A5_2 c5_2 l5_2)) ∧ shadowboxlaw17_PartLeast.jo2 k y1 l5_2 = some r) ?_ ?_
    · skip
      refine cs_seq ?_
      refine cs_region (l := [_]) ?_
      refine ls_val (v := .int .i64 (0 : Int)) rfl rfl (by kernel_rfl) (fun w => by kernel_rfl) ?_
      refine ls_end ?_
      refine qn_then ?_
      refine cs_block ?_
      refine cs_sub (sput s0 0 (some (Ck.sl (Ec.int 3 .i64) none 0 ([] : List Int)))) (sub_put (by exact rfl) (sub_nil _)) ?_
      refine cs_loop (fun kk f S => ∃ (fR : Fr) (A5_3 : Option Addr) (c5_3 : Nat) (l5_3 : List Int) (x6_3 : Int), f = upd (upd (upd (upd fR 0 (.slice A0_1 l0_1.length c0_1)) 1 (.int .i64 y1)) 5 (.slice A5_3 l5_3.length c5_3)) 6 (.int .i64 x6_3) ∧ S = sput s0 0 (some (Ck.sl (Ec.int 3 .i64) A5_3 c5_3 l5_3)) ∧ shadowboxlaw17_PartLeast.lo3 l0_1 y1 (shadowboxlaw17_PartLeast.jo2 k y1) kk l5_3 x6_3 = some r) k ?_ ?_ ?_
      · exact ⟨_, none, 0, ([] : List Int), (0 : Int), fr_next (fr_next (fr_next (fr_next (rfl) (by kernel_rfl)) (by kernel_rfl)) (by kernel_rfl)) (by kernel_rfl), rfl, H⟩
      · rintro f S ⟨fr3, A5_3, c5_3, l5_3, x6_3, rfl, rfl, H⟩; cases H
      · rintro k3 f S ⟨fr3, A5_3, c5_3, l5_3, x6_3, rfl, rfl, H⟩
        replace H : ((if x6_3 < (l0_1.length : Int) then (if 0 ≤ x6_3 then lt (bits .and .i64 ((l0_1).getD (x6_3).toNat (0 : Int)) (63 : Int)) fun y23 => (if IntKind.wrap .i64 (y1 + (1 : Int)) ≠ 0 then lt (Int.tmod y23 (IntKind.wrap .i64 (y1 + (1 : Int)))) fun y26 => (if (l5_3.length + ([y26]).length) * 8 ≤ 140737488355328 then (shadowboxlaw17_PartLeast.lo3 l0_1 y1 (shadowboxlaw17_PartLeast.jo2 k y1) k3) (l5_3 ++ [y26]) (IntKind.wrap .i64 (x6_3 + (1 : Int))) else none) else none) else none) else (shadowboxlaw17_PartLeast.jo2 k y1) l5_3)) = some r := H
        refine cs_seq ?_
        refine cs_seq ?_
        refine cs_region (l := [_, _, _, _]) ?_
        refine ls_val (v := .int .i64 x6_3) rfl rfl (by kernel_rfl) (fun w => by kernel_rfl) ?_
        refine ls_val (v := .slice A0_1 l0_1.length c0_1) rfl rfl (by kernel_rfl) (fun w => by kernel_rfl) ?_
        refine ls_val (v := .int .i64 (l0_1.length : Int)) rfl rfl (by kernel_rfl) (fun w => by kernel_rfl) ?_
        refine ls_val (v := .bool (decide (x6_3 < (l0_1.length : Int)))) rfl rfl (by kernel_rfl) (fun w => by kernel_rfl) ?_
        refine ls_end ?_
        refine qn_then ?_
        by_cases q19 : x6_3 < (l0_1.length : Int)
        · replace H := ite_t q19 H
          refine cs_know (c := true) (dec_t q19) 21 (by kernel_rfl) ?_
          refine cs_true (by kernel_rfl) ?_
          refine cs_skip' ?_
          refine qn_then ?_
          refine cs_seq ?_
          refine cs_block ?_
          refine cs_region (l := [_, _, _, _, _, _, _, _, _, _, _, _]) ?_
          refine ls_val (v := .slice A5_3 l5_3.length c5_3) rfl rfl (by kernel_rfl) (fun w => by kernel_rfl) ?_
          refine ls_val (v := .slice A0_1 l0_1.length c0_1) rfl rfl (by kernel_rfl) (fun w => by kernel_rfl) ?_
          refine ls_val (v := .int .i64 x6_3) rfl rfl (by kernel_rfl) (fun w => by kernel_rfl) ?_
          obtain ⟨q20, H⟩ := ite_need H
          obtain ⟨ad21, hA22⟩ := ido_at (T := (Ec.int 3 .i64)) (l := l0_1) (i := x6_3) R0_1 q20 q19
          refine ls_idxv (Ec.int 3 .i64) (A := A0_1) (c := c0_1) (l := l0_1) (k := .i64) (i := x6_3) (z := 1) (ad := ad21) rfl rfl (by kernel_rfl) hA22 rfl (by kernel_rfl) (by kernel_rfl) (by kernel_rfl) (by kernel_rfl) q20 q19 ?_
          refine ls_load (a0 := (ad21.add ((x6_3).toNat * 1))) (v := .int .i64 ((l0_1).getD (x6_3).toNat (0 : Int))) (de := (TypeDesc.int .i64)) rfl rfl (by kernel_rfl) rfl (by kernel_rfl) (by kernel_rfl) (by kernel_rfl) (fun w hs => (hs.old R0_1).at hA22 (em_sub (Ec.int 3 .i64) l0_1 (i := (x6_3).toNat) (by have h0 : (0 : Int) ≤ x6_3 := q20; have h1 : x6_3 < (l0_1.length : Int) := q19; omega))) ?_
          obtain ⟨y23, hy24, H⟩ := lt_some H
          refine ls_val (v := .int .i64 (bits .and .i64 ((l0_1).getD (x6_3).toNat (0 : Int)) (63 : Int))) rfl rfl (by kernel_rfl) (fun w => by kernel_rfl) ?_
          refine ls_ren 29 (v := .int .i64 (bits .and .i64 ((l0_1).getD (x6_3).toNat (0 : Int)) (63 : Int))) (v' := .int .i64 y23) (by kernel_rfl) (by rw [hy24]) ?_
          refine ls_val (v := .int .i64 y1) rfl rfl (by kernel_rfl) (fun w => by kernel_rfl) ?_
          refine ls_val (v := .int .i64 (IntKind.wrap .i64 (y1 + (1 : Int)))) rfl rfl (by kernel_rfl) (fun w => by kernel_rfl) ?_
          obtain ⟨q25, H⟩ := ite_need H
          obtain ⟨y26, hy27, H⟩ := lt_some H
          refine ls_rem (k := .i64) (x := y23) (y := (IntKind.wrap .i64 (y1 + (1 : Int)))) rfl rfl (by kernel_rfl) (fun w => by kernel_rfl) q25 ?_
          refine ls_ren 32 (v := .int .i64 (Int.tmod y23 (IntKind.wrap .i64 (y1 + (1 : Int))))) (v' := .int .i64 y26) (by kernel_rfl) (by rw [hy27]) ?_
          refine ls_lit (Ec.int 3 .i64) 1 rfl rfl (by kernel_rfl) ([y26]) (by exact of_decide_eq_true (by kernel_rfl)) (fun w => by kernel_rfl) ?_
          intro g28
          obtain ⟨q29, H⟩ := ite_need H
          refine ls_app (Ec.int 3 .i64) (A := A5_3) (c := c5_3) (B := (some ⟨g28, 0, none⟩)) (cb := [y26].length) (z := (Value.int .i64 0)) (l := l5_3) (m := [y26]) (bytes := 8) 0 rfl rfl (by kernel_rfl) rfl (by kernel_rfl) (by exact rfl) (by kernel_rfl) (fun w hs => (hs.rd (k := 1) (by exact rfl))) (by kernel_rfl) (by kernel_rfl) rfl (by decide) q29 ?_
          intro xA30 xc31
          refine ls_val (v := .slice xA30 (l5_3 ++ [y26]).length xc31) rfl rfl (by kernel_rfl) (fun w => by kernel_rfl) ?_
          refine ls_end ?_
          refine qn_block ?_
          refine qn_then ?_
          refine cs_region (l := [_, _, _]) ?_
          refine ls_val (v := .int .i64 x6_3) rfl rfl (by kernel_rfl) (fun w => by kernel_rfl) ?_
          refine ls_val (v := .int .i64 (IntKind.wrap .i64 (x6_3 + (1 : Int)))) rfl rfl (by kernel_rfl) (fun w => by kernel_rfl) ?_
          refine ls_val (v := .int .i64 (IntKind.wrap .i64 (x6_3 + (1 : Int)))) rfl rfl (by kernel_rfl) (fun w => by kernel_rfl) ?_
          refine ls_end ?_
          refine qn_again k3 (sput s0 0 (some (Ck.sl (Ec.int 3 .i64) xA30 xc31 (l5_3 ++ [y26])))) (Nat.le_refl _) ⟨_, xA30, xc31, (l5_3 ++ [y26]), (IntKind.wrap .i64 (x6_3 + (1 : Int))), fr_next (fr_next (fr_next (fr_next (rfl) (by kernel_rfl)) (by kernel_rfl)) (by kernel_rfl)) (by kernel_rfl), rfl, H⟩ (sub_put (by exact rfl) (sub_nil _))
        · replace H := ite_f q19 H
          refine cs_know (c := false) (dec_f q19) 21 (by kernel_rfl) ?_
          refine cs_false (by kernel_rfl) ?_
          refine cs_exit' ?_
          refine qx_then ?_
          refine qx_then ?_
          refine qx_same ?_
          refine qn_meet (sput s0 0 (some (Ck.sl (Ec.int 3 .i64) A5_3 c5_3 l5_3))) ⟨_, A5_3, c5_3, l5_3, fr_next (fr_next (rfl) (by kernel_rfl)) (by kernel_rfl), rfl, H⟩ (sub_put (by exact rfl) (sub_nil _))
    · rintro f S ⟨fr2, A5_2, c5_2, l5_2, rfl, rfl, H⟩
      replace H : ((part_Cut.f k l5_2 y1).bind fun t3 => (if (l5_2.length : Int) = (0 : Int) then (if (t3.length : Int) = (0 : Int) then (part_Cut.f k ([(1 : Int)]) (1 : Int)).bind fun t9 => some (decide ((t9.length : Int) = (1 : Int))) else some false) else (shadowboxlaw17_least.f k l5_2 y1).bind fun t12 => (if (t3.length : Int) = t12.1 then (part_Greatest.f k l5_2 t3).bind fun t16 => some (decide (t16 = t12.2)) else some false))) = some r := H
      refine cs_seq ?_
      refine cs_region (l := [_, _, _, _]) ?_
      refine ls_val (v := .slice A5_2 l5_2.length c5_2) rfl rfl (by kernel_rfl) (fun w => by kernel_rfl) ?_
      refine ls_val (v := .int .i64 y1) rfl rfl (by kernel_rfl) (fun w => by kernel_rfl) ?_
      obtain ⟨t3, hc4, H⟩ := bind_some H
      refine ls_callb (fid := 16) (vals := #[.slice A5_2 l5_2.length c5_2, .int .i64 y1]) (X := (Option Addr × Nat)) (fun x => .slice x.1 t3.length x.2) (fun x => stl [Ck.sl (Ec.int 3 .i64) x.1 x.2 t3]) [] [0] [] [Ck.sl (Ec.int 3 .i64) A5_2 c5_2 l5_2] 1 rfl rfl (by kernel_rfl) (fun w => by kernel_rfl) trivial ⟨by exact rfl, trivial⟩ (by decide) (fun w hs hb => part_Cut.calls k A5_2 c5_2 l5_2 y1 t3 (lent b w [] [Ck.sl (Ec.int 3 .i64) A5_2 c5_2 l5_2]) hb (hs.ror (k := 0) (by exact rfl) (.head _)) (hs.cap (k := 0) (by exact rfl)) hc4) ?_
      intro x5
      refine ls_val (v := .slice x5.1 t3.length x5.2) rfl rfl (by kernel_rfl) (fun w => by kernel_rfl) ?_
      refine ls_end ?_
      refine qn_then ?_
      refine cs_seq ?_
      refine cs_seq ?_
      refine cs_region (l := [_, _, _]) ?_
      refine ls_val (v := .slice A5_2 l5_2.length c5_2) rfl rfl (by kernel_rfl) (fun w => by kernel_rfl) ?_
      refine ls_val (v := .int .i64 (l5_2.length : Int)) rfl rfl (by kernel_rfl) (fun w => by kernel_rfl) ?_
      refine ls_val (v := .bool (decide ((l5_2.length : Int) = (0 : Int)))) rfl rfl (by kernel_rfl) (fun w => by kernel_rfl) ?_
      refine ls_end ?_
      refine qn_then ?_
      by_cases q6 : (l5_2.length : Int) = (0 : Int)
      · replace H := ite_t q6 H
        refine cs_know (c := true) (dec_t q6) 40 (by kernel_rfl) ?_
        refine cs_true (by kernel_rfl) ?_
        refine cs_seq ?_
        refine cs_region (l := [_, _, _, _, _, _, _, _, _, _]) ?_
        refine ls_val (v := .slice x5.1 t3.length x5.2) rfl rfl (by kernel_rfl) (fun w => by kernel_rfl) ?_
        refine ls_val (v := .int .i64 (t3.length : Int)) rfl rfl (by kernel_rfl) (fun w => by kernel_rfl) ?_
        refine ls_val (v := .bool (decide ((t3.length : Int) = (0 : Int)))) rfl rfl (by kernel_rfl) (fun w => by kernel_rfl) ?_
        refine ls_val (v := .bool (decide ((t3.length : Int) = (0 : Int)))) rfl rfl (by kernel_rfl) (fun w => by kernel_rfl) ?_
        by_cases q7 : (t3.length : Int) = (0 : Int)
        · replace H := ite_t q7 H
          refine ls_know (c := true) (dec_t q7) 44 (by kernel_rfl) ?_
          refine ls_on (j := 3) (t := 44) (b := true) rfl rfl (by kernel_rfl) (by kernel_rfl) ?_
          refine ls_lit (Ec.int 3 .i64) 2 rfl rfl (by kernel_rfl) ([(1 : Int)]) (by exact of_decide_eq_true (by kernel_rfl)) (fun w => by kernel_rfl) ?_
          intro g8
          refine ls_on (j := 3) (t := 44) (b := true) rfl rfl (by kernel_rfl) (by kernel_rfl) ?_
          obtain ⟨t9, hc10, H⟩ := bind_some H
          refine ls_callb (fid := 16) (vals := #[.slice (some ⟨g8, 0, none⟩) ([(1 : Int)]).length [(1 : Int)].length, .int .i64 (1 : Int)]) (X := (Option Addr × Nat)) (fun x => .slice x.1 t9.length x.2) (fun x => stl [Ck.sl (Ec.int 3 .i64) x.1 x.2 t9]) [] [2] [] [Ck.sl (Ec.int 3 .i64) (some ⟨g8, 0, none⟩) ([(1 : Int)].length) ([(1 : Int)])] 3 rfl rfl (by kernel_rfl) (fun w => by kernel_rfl) trivial ⟨by exact rfl, trivial⟩ (by decide) (fun w hs hb => part_Cut.calls k (some ⟨g8, 0, none⟩) ([(1 : Int)].length) ([(1 : Int)]) (1 : Int) t9 (lent b w [] [Ck.sl (Ec.int 3 .i64) (some ⟨g8, 0, none⟩) ([(1 : Int)].length) ([(1 : Int)])]) hb (hs.ror (k := 2) (by exact rfl) (.head _)) (hs.cap (k := 2) (by exact rfl)) hc10) ?_
          intro x11
          refine ls_on (j := 3) (t := 44) (b := true) rfl rfl (by kernel_rfl) (by kernel_rfl) ?_
          refine ls_val (v := .int .i64 (t9.length : Int)) rfl rfl (by kernel_rfl) (fun w => by kernel_rfl) ?_
          refine ls_on (j := 3) (t := 44) (b := true) rfl rfl (by kernel_rfl) (by kernel_rfl) ?_
          refine ls_val (v := .bool (decide ((t9.length : Int) = (1 : Int)))) rfl rfl (by kernel_rfl) (fun w => by kernel_rfl) ?_
          refine ls_val (v := .bool (decide ((t9.length : Int) = (1 : Int)))) rfl rfl (by kernel_rfl) (fun w => by kernel_rfl) ?_
          refine ls_val (v := .bool (decide ((t9.length : Int) = (1 : Int)))) rfl rfl (by kernel_rfl) (fun w => by kernel_rfl) ?_
          refine ls_end ?_
          refine qn_then ?_
          refine cs_ret' ?_
          refine qr_then ?_
          obtain rfl := Option.some.inj H
          refine qr_res (rs := [_]) rfl (fun w' hs => ⟨[.bool (decide ((t9.length : Int) = (1 : Int)))], (res_tmp (by kernel_rfl) (.nil)), (), rfl, hs.pick (ts := []) (cs := []) trivial (by decide)⟩)
        · replace H := ite_f q7 H
          refine ls_know (c := false) (dec_f q7) 44 (by kernel_rfl) ?_
          refine ls_off (j := 3) (t := 44) (b := true) (c := false) rfl rfl (by kernel_rfl) (by kernel_rfl) rfl rfl (by kernel_rfl) ?_
          refine ls_off (j := 3) (t := 44) (b := true) (c := false) rfl rfl (by kernel_rfl) (by kernel_rfl) rfl rfl (by kernel_rfl) ?_
          refine ls_off (j := 3) (t := 44) (b := true) (c := false) rfl rfl (by kernel_rfl) (by kernel_rfl) rfl rfl (by kernel_rfl) ?_
          refine ls_off (j := 3) (t := 44) (b := true) (c := false) rfl rfl (by kernel_rfl) (by kernel_rfl) rfl rfl (by kernel_rfl) ?_
          refine ls_val (v := .bool false) rfl rfl (by kernel_rfl) (fun w => by kernel_rfl) ?_
          refine ls_val (v := .bool false) rfl rfl (by kernel_rfl) (fun w => by kernel_rfl) ?_
          refine ls_end ?_
          refine qn_then ?_
          refine cs_ret' ?_
          refine qr_then ?_
          obtain rfl := Option.some.inj H
          refine qr_res (rs := [_]) rfl (fun w' hs => ⟨[.bool false], (res_tmp (by kernel_rfl) (.nil)), (), rfl, hs.pick (ts := []) (cs := []) trivial (by decide)⟩)
      · replace H := ite_f q6 H
        refine cs_know (c := false) (dec_f q6) 40 (by kernel_rfl) ?_
        refine cs_false (by kernel_rfl) ?_
        refine cs_skip' ?_
        refine qn_then ?_
        refine cs_seq ?_
        refine cs_region (l := [_, _, _, _, _, _, _, _]) ?_
        refine ls_val (v := .slice A5_2 l5_2.length c5_2) rfl rfl (by kernel_rfl) (fun w => by kernel_rfl) ?_
        refine ls_val (v := .int .i64 y1) rfl rfl (by kernel_rfl) (fun w => by kernel_rfl) ?_
        obtain ⟨t12, hc13, H⟩ := bind_some H
        refine ls_callb (fid := 21) (vals := #[.slice A5_2 l5_2.length c5_2, .int .i64 y1]) (X := Unit) (fun x => .tuple #[.int .i64 t12.1, .int .i64 t12.2]) (fun x => stl []) [] [0] [] [Ck.sl (Ec.int 3 .i64) A5_2 c5_2 l5_2] 2 rfl rfl (by kernel_rfl) (fun w => by kernel_rfl) trivial ⟨by exact rfl, trivial⟩ (by decide) (fun w hs hb => shadowboxlaw17_least.calls k A5_2 c5_2 l5_2 y1 t12 (lent b w [] [Ck.sl (Ec.int 3 .i64) A5_2 c5_2 l5_2]) hb (hs.ror (k := 0) (by exact rfl) (.head _)) (hs.cap (k := 0) (by exact rfl)) hc13) ?_
        intro x14
        refine ls_val (v := .tuple #[.int .i64 t12.1, .int .i64 t12.2]) rfl rfl (by kernel_rfl) (fun w => by kernel_rfl) ?_
        refine ls_val (v := .int .i64 t12.1) rfl rfl (by kernel_rfl) (fun w => by kernel_rfl) ?_
        refine ls_val (v := .int .i64 t12.2) rfl rfl (by kernel_rfl) (fun w => by kernel_rfl) ?_
        refine ls_val (v := .int .i64 t12.1) rfl rfl (by kernel_rfl) (fun w => by kernel_rfl) ?_
        refine ls_val (v := .int .i64 t12.2) rfl rfl (by kernel_rfl) (fun w => by kernel_rfl) ?_
        refine ls_end ?_
        refine qn_then ?_
        refine cs_seq ?_
        refine cs_region (l := [_, _, _, _, _, _, _, _, _, _, _, _]) ?_
        refine ls_val (v := .slice x5.1 t3.length x5.2) rfl rfl (by kernel_rfl) (fun w => by kernel_rfl) ?_
        refine ls_val (v := .int .i64 (t3.length : Int)) rfl rfl (by kernel_rfl) (fun w => by kernel_rfl) ?_
        refine ls_val (v := .int .i64 t12.1) rfl rfl (by kernel_rfl) (fun w => by kernel_rfl) ?_
        refine ls_val (v := .bool (decide ((t3.length : Int) = t12.1))) rfl rfl (by kernel_rfl) (fun w => by kernel_rfl) ?_
        refine ls_val (v := .bool (decide ((t3.length : Int) = t12.1))) rfl rfl (by kernel_rfl) (fun w => by kernel_rfl) ?_
        by_cases q15 : (t3.length : Int) = t12.1
        · replace H := ite_t q15 H
          refine ls_know (c := true) (dec_t q15) 60 (by kernel_rfl) ?_
          refine ls_on (j := 4) (t := 60) (b := true) rfl rfl (by kernel_rfl) (by kernel_rfl) ?_
          refine ls_val (v := .slice A5_2 l5_2.length c5_2) rfl rfl (by kernel_rfl) (fun w => by kernel_rfl) ?_
          refine ls_on (j := 4) (t := 60) (b := true) rfl rfl (by kernel_rfl) (by kernel_rfl) ?_
          refine ls_val (v := .slice x5.1 t3.length x5.2) rfl rfl (by kernel_rfl) (fun w => by kernel_rfl) ?_
          refine ls_on (j := 4) (t := 60) (b := true) rfl rfl (by kernel_rfl) (by kernel_rfl) ?_
          obtain ⟨t16, hc17, H⟩ := bind_some H
          refine ls_callb (fid := 19) (vals := #[.slice A5_2 l5_2.length c5_2, .slice x5.1 t3.length x5.2]) (X := Unit) (fun x => .int .i64 t16) (fun x => stl []) [] [0, 1] [] [Ck.sl (Ec.int 3 .i64) A5_2 c5_2 l5_2, Ck.sl (Ec.int 3 .i64) x5.1 x5.2 t3] 2 rfl rfl (by kernel_rfl) (fun w => by kernel_rfl) trivial ⟨by exact rfl, by exact rfl, trivial⟩ (by decide) (fun w hs hb => part_Greatest.calls k A5_2 c5_2 l5_2 x5.1 x5.2 t3 t16 (lent b w [] [Ck.sl (Ec.int 3 .i64) A5_2 c5_2 l5_2, Ck.sl (Ec.int 3 .i64) x5.1 x5.2 t3]) hb (hs.ror (k := 0) (by exact rfl) (.head _)) (hs.cap (k := 0) (by exact rfl)) (hs.ror (k := 1) (by exact rfl) (.tail _ (.head _))) (hs.cap (k := 1) (by exact rfl)) hc17) ?_
          intro x18
          refine ls_on (j := 4) (t := 60) (b := true) rfl rfl (by kernel_rfl) (by kernel_rfl) ?_
          refine ls_val (v := .int .i64 t12.2) rfl rfl (by kernel_rfl) (fun w => by kernel_rfl) ?_
          refine ls_on (j := 4) (t := 60) (b := true) rfl rfl (by kernel_rfl) (by kernel_rfl) ?_
          refine ls_val (v := .bool (decide (t16 = t12.2))) rfl rfl (by kernel_rfl) (fun w => by kernel_rfl) ?_
          refine ls_val (v := .bool (decide (t16 = t12.2))) rfl rfl (by kernel_rfl) (fun w => by kernel_rfl) ?_
          refine ls_val (v := .bool (decide (t16 = t12.2))) rfl rfl (by kernel_rfl) (fun w => by kernel_rfl) ?_
          refine ls_end ?_
          refine qn_then ?_
          refine cs_ret' ?_
          obtain rfl := Option.some.inj H
          refine qr_res (rs := [_]) rfl (fun w' hs => ⟨[.bool (decide (t16 = t12.2))], (res_tmp (by kernel_rfl) (.nil)), (), rfl, hs.pick (ts := []) (cs := []) trivial (by decide)⟩)
        · replace H := ite_f q15 H
          refine ls_know (c := false) (dec_f q15) 60 (by kernel_rfl) ?_
          refine ls_off (j := 4) (t := 60) (b := true) (c := false) rfl rfl (by kernel_rfl) (by kernel_rfl) rfl rfl (by kernel_rfl) ?_
          refine ls_off (j := 4) (t := 60) (b := true) (c := false) rfl rfl (by kernel_rfl) (by kernel_rfl) rfl rfl (by kernel_rfl) ?_
          refine ls_off (j := 4) (t := 60) (b := true) (c := false) rfl rfl (by kernel_rfl) (by kernel_rfl) rfl rfl (by kernel_rfl) ?_
          refine ls_off (j := 4) (t := 60) (b := true) (c := false) rfl rfl (by kernel_rfl) (by kernel_rfl) rfl rfl (by kernel_rfl) ?_
          refine ls_off (j := 4) (t := 60) (b := true) (c := false) rfl rfl (by kernel_rfl) (by kernel_rfl) rfl rfl (by kernel_rfl) ?_
          refine ls_val (v := .bool false) rfl rfl (by kernel_rfl) (fun w => by kernel_rfl) ?_
          refine ls_val (v := .bool false) rfl rfl (by kernel_rfl) (fun w => by kernel_rfl) ?_
          refine ls_end ?_
          refine qn_then ?_
          refine cs_ret' ?_
          obtain rfl := Option.some.inj H
          refine qr_res (rs := [_]) rfl (fun w' hs => ⟨[.bool false], (res_tmp (by kernel_rfl) (.nil)), (), rfl, hs.pick (ts := []) (cs := []) trivial (by decide)⟩)

end Go.Proofs.Ytnkcadofhhcfaaa.G
