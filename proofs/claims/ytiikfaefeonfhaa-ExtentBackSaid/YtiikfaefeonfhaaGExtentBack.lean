/- Printed by a program of this session (sz.py): plain functions, and walks that show that the code comes to them; no condition. -/
import Derived.Test.YtiikfaefeonfhaaProg
import Derived.Test.YtiikfaefeonfhaaTy
import Derived.Test.YtiikfaefeonfhaaG0
import Derived.Test.YtiikfaefeonfhaaG1
import Derived.Test.YtiikfaefeonfhaaG2
set_option linter.unusedVariables false
set_option linter.unusedSimpArgs false
namespace Go.Proofs.Ytiikfaefeonfhaa.G
open Go Go.RowKit Go.Proofs.Ytiikfaefeonfhaa.Sx

/-! ### shadowbox/shadowboxlaw09.ExtentBack: function 3 -/
def shadowboxlaw09_ExtentBack.tab8 : List (List Nat) := [[], [], [0, 1], [0, 1, 2], [], [], [4, 5], [4, 5, 6], [0, 1, 2, 3, 4, 5, 6, 7]]
def shadowboxlaw09_ExtentBack.lo5 (l0_1 : List (Int × Int)) (t5 : (List (Int × Int))) : Nat → Int → Option (Bool)
  | 0, _ => none
  | k5 + 1, x7_5 => (if x7_5 < (l0_1.length : Int) then (if 0 ≤ x7_5 then (if x7_5 < (t5.length : Int) then (if ((((t5).getD (x7_5).toNat ((0 : Int), (0 : Int))).1 == ((l0_1).getD (x7_5).toNat ((0 : Int), (0 : Int))).1) && (((t5).getD (x7_5).toNat ((0 : Int), (0 : Int))).2 == ((l0_1).getD (x7_5).toNat ((0 : Int), (0 : Int))).2)) = true then (shadowboxlaw09_ExtentBack.lo5 l0_1 t5 k5) (IntKind.wrap .i64 (x7_5 + (1 : Int))) else some false) else none) else none) else some true)
def shadowboxlaw09_ExtentBack.jo4 (k : Nat) (l0_1 : List (Int × Int)) (t5 : (List (Int × Int))) : Option (Bool) := shadowboxlaw09_ExtentBack.lo5 l0_1 t5 k (0 : Int)
def shadowboxlaw09_ExtentBack.jo3 (k : Nat) (a1 : (Int × Int)) (l0_1 : List (Int × Int)) (t2 : (List (Int × Int))) : Option (Bool) := (extent_Remove.f k t2 a1).bind fun t5 => (if (t5.length : Int) = (l0_1.length : Int) then (shadowboxlaw09_ExtentBack.jo4 k l0_1 t5) else some false)
def shadowboxlaw09_ExtentBack.tab18 : List (List Nat) := [[], [], [0, 1], [0, 1, 2], [0, 1, 2, 3], [0, 1, 2, 3, 4], [0, 1, 2, 3, 4, 5], [0, 1, 2, 3, 4], [0, 1, 2, 3, 4, 5, 6, 7], [0, 1, 2, 3, 4], [0, 1, 2, 3, 4, 9], [0, 1, 2, 3, 4, 5, 6, 7, 8, 9, 10], [0, 1, 2, 3, 4], [0, 1, 2, 3, 4, 12], [0, 1, 2, 3, 4, 5, 6, 7, 8, 9, 10, 11, 12, 13], [0, 1, 2, 3, 4, 5, 6, 7, 8, 9, 10, 11, 12, 13, 14], [0, 1, 2, 3, 4, 5, 6, 7, 8, 9, 10, 11, 12, 13, 14, 15]]
def shadowboxlaw09_ExtentBack.jo2 (k : Nat) (a1 : (Int × Int)) (l0_1 : List (Int × Int)) : Option (Bool) := (extent_Add.f k l0_1 a1).bind fun t2 => (extent_Has.f k t2 a1).bind fun t21 => (if t21 = true then (extent_Total.f k t2).bind fun t25 => (extent_Total.f k l0_1).bind fun t28 => lt (IntKind.wrap .i64 ((IntKind.wrap .i64 (t28 + a1.2)) - a1.1)) fun y31 => (if t25 = y31 then (shadowboxlaw09_ExtentBack.jo3 k a1 l0_1 t2) else some false) else some false)
def shadowboxlaw09_ExtentBack.jo1 (k : Nat) (a1 : (Int × Int)) (l0_1 : List (Int × Int)) : Option (Bool) := (extent_Valid.f k l0_1).bind fun t34 => (if t34 = true then (extent_Meets.f k l0_1 a1).bind fun t38 => (if t38 = true then (extent_Has.f k ([((1 : Int), (4 : Int))]) ((1 : Int), (4 : Int))).bind fun t43 => some t43 else (if a1.1 < (0 : Int) then (extent_Has.f k ([((1 : Int), (4 : Int))]) ((1 : Int), (4 : Int))).bind fun t48 => some t48 else (if a1.1 ≥ a1.2 then (extent_Has.f k ([((1 : Int), (4 : Int))]) ((1 : Int), (4 : Int))).bind fun t53 => some t53 else (if a1.2 > (1099511627776 : Int) then (extent_Has.f k ([((1 : Int), (4 : Int))]) ((1 : Int), (4 : Int))).bind fun t58 => some t58 else (shadowboxlaw09_ExtentBack.jo2 k a1 l0_1))))) else (extent_Has.f k ([((1 : Int), (4 : Int))]) ((1 : Int), (4 : Int))).bind fun t62 => some t62)
def shadowboxlaw09_ExtentBack.f (k : Nat) (l0 : List (Int × Int)) (a1 : (Int × Int)) : Option (Bool) :=
  (if (l0.length : Int) > (500 : Int) then (if (500 : Int) ≤ (l0.length : Int) then lt (l0.take ((500 : Int)).toNat) fun xl71 => (shadowboxlaw09_ExtentBack.jo1 k a1) xl71 else none) else (shadowboxlaw09_ExtentBack.jo1 k a1) l0)
set_option maxRecDepth 100000 in
set_option maxHeartbeats 4000000 in
theorem shadowboxlaw09_ExtentBack.calls (k : Nat) (A0 : Option Addr) (c0 : Nat) (l0 : List (Int × Int)) (a1 : (Int × Int)) (r : Bool) (b : Bs) (hs0 : St b (stl []) b.w) (R0 : Ro b A0 (em T24 l0)) (C0 : l0.length ≤ c0) (H : shadowboxlaw09_ExtentBack.f k l0 a1 = some r) :
    Calls Try.prog 3 #[.slice A0 l0.length c0, .agg ⟨([Value.int .i64 a1.1] ++ [Value.int .i64 a1.2])⟩] b.w fun e w' => ∃ x : Unit, e = .returned (.bool r) ∧ St b (stl []) w' := by
  unfold shadowboxlaw09_ExtentBack.f at H
  refine enterb (n := 85) Try.func3 rfl (by kernel_rfl) (by kernel_rfl) hs0 ?_
  refine cs_sub (s0) (sub_nil _) ?_
  refine cs_seq ?_
  refine cs_region (l := [_, _]) ?_
  refine ls_new rfl rfl (by kernel_rfl) 0 (fun g => .pointer (some ⟨g, 0, none⟩)) (.cells ⟨([Value.int .i64 a1.1] ++ [Value.int .i64 a1.2])⟩ 24) (fun w => by kernel_rfl) ?_
  intro g1
  refine ls_val (v := .bool false) rfl rfl (by kernel_rfl) (fun w => by kernel_rfl) ?_
  refine ls_end ?_
  refine qn_then ?_
  refine cs_cut (fun f S => ∃ (fR : Fr) (A0_1 : Option Addr) (c0_1 : Nat) (l0_1 : List (Int × Int)), f = upd (upd fR 0 (.slice A0_1 l0_1.length c0_1)) 3 (.pointer (some ⟨g1, 0, none⟩)) ∧ S = sput s0 0 (some (Ck.var 24 g1 (([Value.int .i64 a1.1] ++ [Value.int .i64 a1.2])))) ∧ Ro b A0_1 (em T24 l0_1) ∧ l0_1.length ≤ c0_1 ∧ shadowboxlaw09_ExtentBack.jo1 k a1 l0_1 = some r) ?_ ?_
  · skip
    refine cs_seq ?_
    refine cs_region (l := [_, _, _]) ?_
    refine ls_val (v := .slice A0 l0.length c0) rfl rfl (by kernel_rfl) (fun w => by kernel_rfl) ?_
    refine ls_val (v := .int .i64 (l0.length : Int)) rfl rfl (by kernel_rfl) (fun w => by kernel_rfl) ?_
    refine ls_val (v := .bool (decide ((l0.length : Int) > (500 : Int)))) rfl rfl (by kernel_rfl) (fun w => by kernel_rfl) ?_
    refine ls_end ?_
    refine qn_then ?_
    by_cases q65 : (l0.length : Int) > (500 : Int)
    · replace H := ite_t q65 H
      refine cs_know (c := true) (dec_t q65) 10 (by kernel_rfl) ?_
      refine cs_true (by kernel_rfl) ?_
      refine cs_region (l := [_, _, _]) ?_
      refine ls_val (v := .slice A0 l0.length c0) rfl rfl (by kernel_rfl) (fun w => by kernel_rfl) ?_
      obtain ⟨q66, H⟩ := ite_need H
      obtain ⟨xl71, hy72, H⟩ := lt_some H
      have hz74 : 0 ≤ ((500 : Int)).toNat := by omega
      have hz75 : ((500 : Int)).toNat ≤ l0.length := by omega
      obtain ⟨xA67, xc68, he73, xC70, xR69⟩ := cut_at (A := A0) (c := c0) (l := l0) T24 0 (((500 : Int)).toNat) hz74 hz75 C0 R0 (m := xl71) (by rw [← hy72] <;> simp) (z := 2) rfl
      refine ls_cutv (A := A0) (c := c0) (m := l0.length) (z := 2) (e := 24) (a := 0) (b := ((500 : Int)).toNat) rfl rfl (by kernel_rfl) rfl (by kernel_rfl) (by kernel_rfl) (by kernel_rfl) (.inl ⟨rfl, rfl⟩) (.inr ⟨.i64, by rw [Int.toNat_of_nonneg (by first | assumption | omega)]; kernel_rfl⟩) hz74 hz75 C0 he73 ?_
      refine ls_val (v := .slice xA67 xl71.length xc68) rfl rfl (by kernel_rfl) (fun w => by kernel_rfl) ?_
      refine ls_end ?_
      refine qn_meet (sput s0 0 (some (Ck.var 24 g1 (([Value.int .i64 a1.1] ++ [Value.int .i64 a1.2]))))) ⟨_, xA67, xc68, xl71, fr_next (fr_next (rfl) (by kernel_rfl)) (by kernel_rfl), rfl, xR69, xC70, H⟩ (sub_put (by exact rfl) (sub_nil _))
    · replace H := ite_f q65 H
      refine cs_know (c := false) (dec_f q65) 10 (by kernel_rfl) ?_
      refine cs_false (by kernel_rfl) ?_
      refine cs_skip' ?_
      refine qn_meet (sput s0 0 (some (Ck.var 24 g1 (([Value.int .i64 a1.1] ++ [Value.int .i64 a1.2]))))) ⟨_, A0, c0, l0, fr_next (fr_next (rfl) (by kernel_rfl)) (by kernel_rfl), rfl, R0, C0, H⟩ (sub_put (by exact rfl) (sub_nil _))
  · rintro f S ⟨fr1, A0_1, c0_1, l0_1, rfl, rfl, R0_1, C0_1, H⟩
    replace H : ((extent_Valid.f k l0_1).bind fun t34 => (if t34 = true then (extent_Meets.f k l0_1 a1).bind fun t38 => (if t38 = true then (extent_Has.f k ([((1 : Int), (4 : Int))]) ((1 : Int), (4 : Int))).bind fun t43 => some t43 else (if a1.1 < (0 : Int) then (extent_Has.f k ([((1 : Int), (4 : Int))]) ((1 : Int), (4 : Int))).bind fun t48 => some t48 else (if a1.1 ≥ a1.2 then (extent_Has.f k ([((1 : Int), (4 : Int))]) ((1 : Int), (4 : Int))).bind fun t53 => some t53 else (if a1.2 > (1099511627776 : Int) then (extent_Has.f k ([((1 : Int), (4 : Int))]) ((1 : Int), (4 : Int))).bind fun t58 => some t58 else (shadowboxlaw09_ExtentBack.jo2 k a1 l0_1))))) else (extent_Has.f k ([((1 : Int), (4 : Int))]) ((1 : Int), (4 : Int))).bind fun t62 => some t62)) = some r := H
    refine cs_cut (fun f S => ∃ (fR : Fr), f = upd (upd fR 0 (.slice A0_1 l0_1.length c0_1)) 3 (.pointer (some ⟨g1, 0, none⟩)) ∧ S = sput s0 0 (some (Ck.var 24 g1 (([Value.int .i64 a1.1] ++ [Value.int .i64 a1.2])))) ∧ shadowboxlaw09_ExtentBack.jo2 k a1 l0_1 = some r) ?_ ?_
    · skip
      refine cs_seq ?_
      refine cs_region (l := [_, _, _, _, _, _, _, _, _, _, _, _, _, _, _, _, _, _, _, _, _, _, _, _, _]) ?_
      refine ls_val (v := .slice A0_1 l0_1.length c0_1) rfl rfl (by kernel_rfl) (fun w => by kernel_rfl) ?_
      obtain ⟨t34, hc35, H⟩ := bind_some H
      refine ls_callb (fid := 10) (vals := #[.slice A0_1 l0_1.length c0_1]) (X := Unit) (fun x => .bool t34) (fun x => stl []) [] [] [] [] 1 rfl rfl (by kernel_rfl) (fun w => by kernel_rfl) trivial trivial (by decide) (fun w hs hb => extent_Valid.calls k A0_1 c0_1 l0_1 t34 (lent b w [] []) hb (hs.ro R0_1 _ _) C0_1 hc35) ?_
      intro x36
      refine ls_val (v := .bool (!t34)) rfl rfl (by kernel_rfl) (fun w => by kernel_rfl) ?_
      refine ls_val (v := .bool (!t34)) rfl rfl (by kernel_rfl) (fun w => by kernel_rfl) ?_
      by_cases q37 : t34 = true
      · replace H := ite_t q37 H
        refine ls_know (c := false) (congrArg Bool.not (q37)) 16 (by kernel_rfl) ?_
        refine ls_on (j := 3) (t := 16) (b := false) rfl rfl (by kernel_rfl) (by kernel_rfl) ?_
        refine ls_val (v := .slice A0_1 l0_1.length c0_1) rfl rfl (by kernel_rfl) (fun w => by kernel_rfl) ?_
        refine ls_on (j := 3) (t := 16) (b := false) rfl rfl (by kernel_rfl) (by kernel_rfl) ?_
        refine ls_loadagg (a := ⟨g1, 0, none⟩) (sub := ([Value.int .i64 a1.1] ++ [Value.int .i64 a1.2])) rfl rfl (by kernel_rfl) rfl (by kernel_rfl) (by kernel_rfl) (by kernel_rfl) (len_app (len1 _) (len1 _)) (fun w hs => (hs.vars (k := 0) (by exact rfl) (Sub4.all _))) ?_
        refine ls_on (j := 3) (t := 16) (b := false) rfl rfl (by kernel_rfl) (by kernel_rfl) ?_
        obtain ⟨t38, hc39, H⟩ := bind_some H
        refine ls_callb (fid := 11) (vals := #[.slice A0_1 l0_1.length c0_1, .agg ⟨([Value.int .i64 a1.1] ++ [Value.int .i64 a1.2])⟩]) (X := Unit) (fun x => .bool t38) (fun x => stl []) [] [] [] [] 1 rfl rfl (by kernel_rfl) (fun w => by kernel_rfl) trivial trivial (by decide) (fun w hs hb => extent_Meets.calls k A0_1 c0_1 l0_1 a1 t38 (lent b w [] []) hb (hs.ro R0_1 _ _) C0_1 hc39) ?_
        intro x40
        refine ls_val (v := .bool t38) rfl rfl (by kernel_rfl) (fun w => by kernel_rfl) ?_
        refine ls_val (v := .bool t38) rfl rfl (by kernel_rfl) (fun w => by kernel_rfl) ?_
        by_cases q41 : t38 = true
        · replace H := ite_t q41 H
          refine ls_know (c := true) (q41) 21 (by kernel_rfl) ?_
          refine ls_off (j := 8) (t := 21) (b := false) (c := true) rfl rfl (by kernel_rfl) (by kernel_rfl) rfl rfl (by kernel_rfl) ?_
          refine ls_off (j := 8) (t := 21) (b := false) (c := true) rfl rfl (by kernel_rfl) (by kernel_rfl) rfl rfl (by kernel_rfl) ?_
          refine ls_off (j := 8) (t := 21) (b := false) (c := true) rfl rfl (by kernel_rfl) (by kernel_rfl) rfl rfl (by kernel_rfl) ?_
          refine ls_val (v := .bool true) rfl rfl (by kernel_rfl) (fun w => by kernel_rfl) ?_
          refine ls_val (v := .bool true) rfl rfl (by kernel_rfl) (fun w => by kernel_rfl) ?_
          refine ls_off (j := 13) (t := 26) (b := false) (c := true) rfl rfl (by kernel_rfl) (by kernel_rfl) rfl rfl (by kernel_rfl) ?_
          refine ls_off (j := 13) (t := 26) (b := false) (c := true) rfl rfl (by kernel_rfl) (by kernel_rfl) rfl rfl (by kernel_rfl) ?_
          refine ls_off (j := 13) (t := 26) (b := false) (c := true) rfl rfl (by kernel_rfl) (by kernel_rfl) rfl rfl (by kernel_rfl) ?_
          refine ls_off (j := 13) (t := 26) (b := false) (c := true) rfl rfl (by kernel_rfl) (by kernel_rfl) rfl rfl (by kernel_rfl) ?_
          refine ls_off (j := 13) (t := 26) (b := false) (c := true) rfl rfl (by kernel_rfl) (by kernel_rfl) rfl rfl (by kernel_rfl) ?_
          refine ls_val (v := .bool true) rfl rfl (by kernel_rfl) (fun w => by kernel_rfl) ?_
          refine ls_val (v := .bool true) rfl rfl (by kernel_rfl) (fun w => by kernel_rfl) ?_
          refine ls_off (j := 20) (t := 33) (b := false) (c := true) rfl rfl (by kernel_rfl) (by kernel_rfl) rfl rfl (by kernel_rfl) ?_
          refine ls_off (j := 20) (t := 33) (b := false) (c := true) rfl rfl (by kernel_rfl) (by kernel_rfl) rfl rfl (by kernel_rfl) ?_
          refine ls_off (j := 20) (t := 33) (b := false) (c := true) rfl rfl (by kernel_rfl) (by kernel_rfl) rfl rfl (by kernel_rfl) ?_
          refine ls_val (v := .bool true) rfl rfl (by kernel_rfl) (fun w => by kernel_rfl) ?_
          refine ls_end ?_
          refine qn_then ?_
          refine cs_true (by kernel_rfl) ?_
          refine cs_seq ?_
          refine cs_region (l := [_, _, _, _, _]) ?_
          refine ls_val (v := .agg ⟨([Value.int .i64 (1 : Int)] ++ [Value.int .i64 (4 : Int)])⟩) rfl rfl (by kernel_rfl) (fun w => by kernel_rfl) ?_
          refine ls_lit T24 1 rfl rfl (by kernel_rfl) ([((1 : Int), (4 : Int))]) (by exact of_decide_eq_true (by kernel_rfl)) (fun w => by kernel_rfl) ?_
          intro g42
          refine ls_val (v := .agg ⟨([Value.int .i64 (1 : Int)] ++ [Value.int .i64 (4 : Int)])⟩) rfl rfl (by kernel_rfl) (fun w => by kernel_rfl) ?_
          obtain ⟨t43, hc44, H⟩ := bind_some H
          refine ls_callb (fid := 12) (vals := #[.slice (some ⟨g42, 0, none⟩) ([((1 : Int), (4 : Int))]).length [((1 : Int), (4 : Int))].length, .agg ⟨([Value.int .i64 (1 : Int)] ++ [Value.int .i64 (4 : Int)])⟩]) (X := Unit) (fun x => .bool t43) (fun x => stl []) [] [1] [] [Ck.sl T24 (some ⟨g42, 0, none⟩) ([((1 : Int), (4 : Int))].length) ([((1 : Int), (4 : Int))])] 2 rfl rfl (by kernel_rfl) (fun w => by kernel_rfl) trivial ⟨by exact rfl, trivial⟩ (by decide) (fun w hs hb => extent_Has.calls k (some ⟨g42, 0, none⟩) ([((1 : Int), (4 : Int))].length) ([((1 : Int), (4 : Int))]) ((1 : Int), (4 : Int)) t43 (lent b w [] [Ck.sl T24 (some ⟨g42, 0, none⟩) ([((1 : Int), (4 : Int))].length) ([((1 : Int), (4 : Int))])]) hb (hs.ror (k := 1) (by exact rfl) (.head _)) (hs.cap (k := 1) (by exact rfl)) hc44) ?_
          intro x45
          refine ls_val (v := .bool t43) rfl rfl (by kernel_rfl) (fun w => by kernel_rfl) ?_
          refine ls_end ?_
          refine qn_then ?_
          refine cs_ret' ?_
          refine qr_then ?_
          obtain rfl := Option.some.inj H
          refine qr_res (rs := [_]) rfl (fun w' hs => ⟨[.bool t43], (res_tmp (by kernel_rfl) (.nil)), (), rfl, hs.pick (ts := []) (cs := []) trivial (by decide)⟩)
        · replace H := ite_f q41 H
          refine ls_know (c := false) (Bool.eq_false_iff.mpr q41) 21 (by kernel_rfl) ?_
          refine ls_on (j := 8) (t := 21) (b := false) rfl rfl (by kernel_rfl) (by kernel_rfl) ?_
          refine ls_val (v := .pointer (some ⟨g1, (0 + 0), none⟩)) rfl rfl (by kernel_rfl) (fun w => by kernel_rfl) ?_
          refine ls_on (j := 8) (t := 21) (b := false) rfl rfl (by kernel_rfl) (by kernel_rfl) ?_
          refine ls_load (a0 := ⟨g1, (0 + 0), none⟩) (v := .int .i64 a1.1) (de := (TypeDesc.int .i64)) rfl rfl (by kernel_rfl) rfl (by kernel_rfl) (by kernel_rfl) (by kernel_rfl) (fun w hs => (hs.var (k := 0) (by exact rfl) (Sub4.trans (Sub4.all _) (Sub4.head _ _)))) ?_
          refine ls_on (j := 8) (t := 21) (b := false) rfl rfl (by kernel_rfl) (by kernel_rfl) ?_
          refine ls_val (v := .bool (decide (a1.1 < (0 : Int)))) rfl rfl (by kernel_rfl) (fun w => by kernel_rfl) ?_
          refine ls_val (v := .bool (decide (a1.1 < (0 : Int)))) rfl rfl (by kernel_rfl) (fun w => by kernel_rfl) ?_
          refine ls_val (v := .bool (decide (a1.1 < (0 : Int)))) rfl rfl (by kernel_rfl) (fun w => by kernel_rfl) ?_
          by_cases q46 : a1.1 < (0 : Int)
          · replace H := ite_t q46 H
            refine ls_know (c := true) (dec_t q46) 26 (by kernel_rfl) ?_
            refine ls_off (j := 13) (t := 26) (b := false) (c := true) rfl rfl (by kernel_rfl) (by kernel_rfl) rfl rfl (by kernel_rfl) ?_
            refine ls_off (j := 13) (t := 26) (b := false) (c := true) rfl rfl (by kernel_rfl) (by kernel_rfl) rfl rfl (by kernel_rfl) ?_
            refine ls_off (j := 13) (t := 26) (b := false) (c := true) rfl rfl (by kernel_rfl) (by kernel_rfl) rfl rfl (by kernel_rfl) ?_
            refine ls_off (j := 13) (t := 26) (b := false) (c := true) rfl rfl (by kernel_rfl) (by kernel_rfl) rfl rfl (by kernel_rfl) ?_
            refine ls_off (j := 13) (t := 26) (b := false) (c := true) rfl rfl (by kernel_rfl) (by kernel_rfl) rfl rfl (by kernel_rfl) ?_
            refine ls_val (v := .bool true) rfl rfl (by kernel_rfl) (fun w => by kernel_rfl) ?_
            refine ls_val (v := .bool true) rfl rfl (by kernel_rfl) (fun w => by kernel_rfl) ?_
            refine ls_off (j := 20) (t := 33) (b := false) (c := true) rfl rfl (by kernel_rfl) (by kernel_rfl) rfl rfl (by kernel_rfl) ?_
            refine ls_off (j := 20) (t := 33) (b := false) (c := true) rfl rfl (by kernel_rfl) (by kernel_rfl) rfl rfl (by kernel_rfl) ?_
            refine ls_off (j := 20) (t := 33) (b := false) (c := true) rfl rfl (by kernel_rfl) (by kernel_rfl) rfl rfl (by kernel_rfl) ?_
            refine ls_val (v := .bool true) rfl rfl (by kernel_rfl) (fun w => by kernel_rfl) ?_
            refine ls_end ?_
            refine qn_then ?_
            refine cs_true (by kernel_rfl) ?_
            refine cs_seq ?_
            refine cs_region (l := [_, _, _, _, _]) ?_
            refine ls_val (v := .agg ⟨([Value.int .i64 (1 : Int)] ++ [Value.int .i64 (4 : Int)])⟩) rfl rfl (by kernel_rfl) (fun w => by kernel_rfl) ?_
            refine ls_lit T24 1 rfl rfl (by kernel_rfl) ([((1 : Int), (4 : Int))]) (by exact of_decide_eq_true (by kernel_rfl)) (fun w => by kernel_rfl) ?_
            intro g47
            refine ls_val (v := .agg ⟨([Value.int .i64 (1 : Int)] ++ [Value.int .i64 (4 : Int)])⟩) rfl rfl (by kernel_rfl) (fun w => by kernel_rfl) ?_
            obtain ⟨t48, hc49, H⟩ := bind_some H
            refine ls_callb (fid := 12) (vals := #[.slice (some ⟨g47, 0, none⟩) ([((1 : Int), (4 : Int))]).length [((1 : Int), (4 : Int))].length, .agg ⟨([Value.int .i64 (1 : Int)] ++ [Value.int .i64 (4 : Int)])⟩]) (X := Unit) (fun x => .bool t48) (fun x => stl []) [] [1] [] [Ck.sl T24 (some ⟨g47, 0, none⟩) ([((1 : Int), (4 : Int))].length) ([((1 : Int), (4 : Int))])] 2 rfl rfl (by kernel_rfl) (fun w => by kernel_rfl) trivial ⟨by exact rfl, trivial⟩ (by decide) (fun w hs hb => extent_Has.calls k (some ⟨g47, 0, none⟩) ([((1 : Int), (4 : Int))].length) ([((1 : Int), (4 : Int))]) ((1 : Int), (4 : Int)) t48 (lent b w [] [Ck.sl T24 (some ⟨g47, 0, none⟩) ([((1 : Int), (4 : Int))].length) ([((1 : Int), (4 : Int))])]) hb (hs.ror (k := 1) (by exact rfl) (.head _)) (hs.cap (k := 1) (by exact rfl)) hc49) ?_
            intro x50
            refine ls_val (v := .bool t48) rfl rfl (by kernel_rfl) (fun w => by kernel_rfl) ?_
            refine ls_end ?_
            refine qn_then ?_
            refine cs_ret' ?_
            refine qr_then ?_
            obtain rfl := Option.some.inj H
            refine qr_res (rs := [_]) rfl (fun w' hs => ⟨[.bool t48], (res_tmp (by kernel_rfl) (.nil)), (), rfl, hs.pick (ts := []) (cs := []) trivial (by decide)⟩)
          · replace H := ite_f q46 H
            refine ls_know (c := false) (dec_f q46) 26 (by kernel_rfl) ?_
            refine ls_on (j := 13) (t := 26) (b := false) rfl rfl (by kernel_rfl) (by kernel_rfl) ?_
            refine ls_val (v := .pointer (some ⟨g1, (0 + 0), none⟩)) rfl rfl (by kernel_rfl) (fun w => by kernel_rfl) ?_
            refine ls_on (j := 13) (t := 26) (b := false) rfl rfl (by kernel_rfl) (by kernel_rfl) ?_
            refine ls_load (a0 := ⟨g1, (0 + 0), none⟩) (v := .int .i64 a1.1) (de := (TypeDesc.int .i64)) rfl rfl (by kernel_rfl) rfl (by kernel_rfl) (by kernel_rfl) (by kernel_rfl) (fun w hs => (hs.var (k := 0) (by exact rfl) (Sub4.trans (Sub4.all _) (Sub4.head _ _)))) ?_
            refine ls_on (j := 13) (t := 26) (b := false) rfl rfl (by kernel_rfl) (by kernel_rfl) ?_
            refine ls_val (v := .pointer (some ⟨g1, (0 + 1), none⟩)) rfl rfl (by kernel_rfl) (fun w => by kernel_rfl) ?_
            refine ls_on (j := 13) (t := 26) (b := false) rfl rfl (by kernel_rfl) (by kernel_rfl) ?_
            refine ls_load (a0 := ⟨g1, (0 + 1), none⟩) (v := .int .i64 a1.2) (de := (TypeDesc.int .i64)) rfl rfl (by kernel_rfl) rfl (by kernel_rfl) (by kernel_rfl) (by kernel_rfl) (fun w hs => (hs.var (k := 0) (by exact rfl) (Sub4.trans (Sub4.all _) (Sub4.skip (n := 1) (len1 _) (Sub4.all _))))) ?_
            refine ls_on (j := 13) (t := 26) (b := false) rfl rfl (by kernel_rfl) (by kernel_rfl) ?_
            refine ls_val (v := .bool (decide (a1.1 ≥ a1.2))) rfl rfl (by kernel_rfl) (fun w => by kernel_rfl) ?_
            refine ls_val (v := .bool (decide (a1.1 ≥ a1.2))) rfl rfl (by kernel_rfl) (fun w => by kernel_rfl) ?_
            refine ls_val (v := .bool (decide (a1.1 ≥ a1.2))) rfl rfl (by kernel_rfl) (fun w => by kernel_rfl) ?_
            by_cases q51 : a1.1 ≥ a1.2
            · replace H := ite_t q51 H
              refine ls_know (c := true) (dec_t q51) 33 (by kernel_rfl) ?_
              refine ls_off (j := 20) (t := 33) (b := false) (c := true) rfl rfl (by kernel_rfl) (by kernel_rfl) rfl rfl (by kernel_rfl) ?_
              refine ls_off (j := 20) (t := 33) (b := false) (c := true) rfl rfl (by kernel_rfl) (by kernel_rfl) rfl rfl (by kernel_rfl) ?_
              refine ls_off (j := 20) (t := 33) (b := false) (c := true) rfl rfl (by kernel_rfl) (by kernel_rfl) rfl rfl (by kernel_rfl) ?_
              refine ls_val (v := .bool true) rfl rfl (by kernel_rfl) (fun w => by kernel_rfl) ?_
              refine ls_end ?_
              refine qn_then ?_
              refine cs_true (by kernel_rfl) ?_
              refine cs_seq ?_
              refine cs_region (l := [_, _, _, _, _]) ?_
              refine ls_val (v := .agg ⟨([Value.int .i64 (1 : Int)] ++ [Value.int .i64 (4 : Int)])⟩) rfl rfl (by kernel_rfl) (fun w => by kernel_rfl) ?_
              refine ls_lit T24 1 rfl rfl (by kernel_rfl) ([((1 : Int), (4 : Int))]) (by exact of_decide_eq_true (by kernel_rfl)) (fun w => by kernel_rfl) ?_
              intro g52
              refine ls_val (v := .agg ⟨([Value.int .i64 (1 : Int)] ++ [Value.int .i64 (4 : Int)])⟩) rfl rfl (by kernel_rfl) (fun w => by kernel_rfl) ?_
              obtain ⟨t53, hc54, H⟩ := bind_some H
              refine ls_callb (fid := 12) (vals := #[.slice (some ⟨g52, 0, none⟩) ([((1 : Int), (4 : Int))]).length [((1 : Int), (4 : Int))].length, .agg ⟨([Value.int .i64 (1 : Int)] ++ [Value.int .i64 (4 : Int)])⟩]) (X := Unit) (fun x => .bool t53) (fun x => stl []) [] [1] [] [Ck.sl T24 (some ⟨g52, 0, none⟩) ([((1 : Int), (4 : Int))].length) ([((1 : Int), (4 : Int))])] 2 rfl rfl (by kernel_rfl) (fun w => by kernel_rfl) trivial ⟨by exact rfl, trivial⟩ (by decide) (fun w hs hb => extent_Has.calls k (some ⟨g52, 0, none⟩) ([((1 : Int), (4 : Int))].length) ([((1 : Int), (4 : Int))]) ((1 : Int), (4 : Int)) t53 (lent b w [] [Ck.sl T24 (some ⟨g52, 0, none⟩) ([((1 : Int), (4 : Int))].length) ([((1 : Int), (4 : Int))])]) hb (hs.ror (k := 1) (by exact rfl) (.head _)) (hs.cap (k := 1) (by exact rfl)) hc54) ?_
              intro x55
              refine ls_val (v := .bool t53) rfl rfl (by kernel_rfl) (fun w => by kernel_rfl) ?_
              refine ls_end ?_
              refine qn_then ?_
              refine cs_ret' ?_
              refine qr_then ?_
              obtain rfl := Option.some.inj H
              refine qr_res (rs := [_]) rfl (fun w' hs => ⟨[.bool t53], (res_tmp (by kernel_rfl) (.nil)), (), rfl, hs.pick (ts := []) (cs := []) trivial (by decide)⟩)
            · replace H := ite_f q51 H
              refine ls_know (c := false) (dec_f q51) 33 (by kernel_rfl) ?_
              refine ls_on (j := 20) (t := 33) (b := false) rfl rfl (by kernel_rfl) (by kernel_rfl) ?_
              refine ls_val (v := .pointer (some ⟨g1, (0 + 1), none⟩)) rfl rfl (by kernel_rfl) (fun w => by kernel_rfl) ?_
              refine ls_on (j := 20) (t := 33) (b := false) rfl rfl (by kernel_rfl) (by kernel_rfl) ?_
              refine ls_load (a0 := ⟨g1, (0 + 1), none⟩) (v := .int .i64 a1.2) (de := (TypeDesc.int .i64)) rfl rfl (by kernel_rfl) rfl (by kernel_rfl) (by kernel_rfl) (by kernel_rfl) (fun w hs => (hs.var (k := 0) (by exact rfl) (Sub4.trans (Sub4.all _) (Sub4.skip (n := 1) (len1 _) (Sub4.all _))))) ?_
              refine ls_on (j := 20) (t := 33) (b := false) rfl rfl (by kernel_rfl) (by kernel_rfl) ?_
              refine ls_val (v := .bool (decide (a1.2 > (1099511627776 : Int)))) rfl rfl (by kernel_rfl) (fun w => by kernel_rfl) ?_
              refine ls_val (v := .bool (decide (a1.2 > (1099511627776 : Int)))) rfl rfl (by kernel_rfl) (fun w => by kernel_rfl) ?_
              refine ls_end ?_
              refine qn_then ?_
              by_cases q56 : a1.2 > (1099511627776 : Int)
              · replace H := ite_t q56 H
                refine cs_know (c := true) (dec_t q56) 37 (by kernel_rfl) ?_
                refine cs_true (by kernel_rfl) ?_
                refine cs_seq ?_
                refine cs_region (l := [_, _, _, _, _]) ?_
                refine ls_val (v := .agg ⟨([Value.int .i64 (1 : Int)] ++ [Value.int .i64 (4 : Int)])⟩) rfl rfl (by kernel_rfl) (fun w => by kernel_rfl) ?_
                refine ls_lit T24 1 rfl rfl (by kernel_rfl) ([((1 : Int), (4 : Int))]) (by exact of_decide_eq_true (by kernel_rfl)) (fun w => by kernel_rfl) ?_
                intro g57
                refine ls_val (v := .agg ⟨([Value.int .i64 (1 : Int)] ++ [Value.int .i64 (4 : Int)])⟩) rfl rfl (by kernel_rfl) (fun w => by kernel_rfl) ?_
                obtain ⟨t58, hc59, H⟩ := bind_some H
                refine ls_callb (fid := 12) (vals := #[.slice (some ⟨g57, 0, none⟩) ([((1 : Int), (4 : Int))]).length [((1 : Int), (4 : Int))].length, .agg ⟨([Value.int .i64 (1 : Int)] ++ [Value.int .i64 (4 : Int)])⟩]) (X := Unit) (fun x => .bool t58) (fun x => stl []) [] [1] [] [Ck.sl T24 (some ⟨g57, 0, none⟩) ([((1 : Int), (4 : Int))].length) ([((1 : Int), (4 : Int))])] 2 rfl rfl (by kernel_rfl) (fun w => by kernel_rfl) trivial ⟨by exact rfl, trivial⟩ (by decide) (fun w hs hb => extent_Has.calls k (some ⟨g57, 0, none⟩) ([((1 : Int), (4 : Int))].length) ([((1 : Int), (4 : Int))]) ((1 : Int), (4 : Int)) t58 (lent b w [] [Ck.sl T24 (some ⟨g57, 0, none⟩) ([((1 : Int), (4 : Int))].length) ([((1 : Int), (4 : Int))])]) hb (hs.ror (k := 1) (by exact rfl) (.head _)) (hs.cap (k := 1) (by exact rfl)) hc59) ?_
                intro x60
                refine ls_val (v := .bool t58) rfl rfl (by kernel_rfl) (fun w => by kernel_rfl) ?_
                refine ls_end ?_
                refine qn_then ?_
                refine cs_ret' ?_
                refine qr_then ?_
                obtain rfl := Option.some.inj H
                refine qr_res (rs := [_]) rfl (fun w' hs => ⟨[.bool t58], (res_tmp (by kernel_rfl) (.nil)), (), rfl, hs.pick (ts := []) (cs := []) trivial (by decide)⟩)
              · replace H := ite_f q56 H
                refine cs_know (c := false) (dec_f q56) 37 (by kernel_rfl) ?_
                refine cs_false (by kernel_rfl) ?_
                refine cs_skip' ?_
                refine qn_meet (sput s0 0 (some (Ck.var 24 g1 (([Value.int .i64 a1.1] ++ [Value.int .i64 a1.2]))))) ⟨_, fr_next (fr_next (rfl) (by kernel_rfl)) (by kernel_rfl), rfl, H⟩ (sub_put (by exact rfl) (sub_nil _))
      · replace H := ite_f q37 H
        refine ls_know (c := true) (congrArg Bool.not (Bool.eq_false_iff.mpr q37)) 16 (by kernel_rfl) ?_
        refine ls_off (j := 3) (t := 16) (b := false) (c := true) rfl rfl (by kernel_rfl) (by kernel_rfl) rfl rfl (by kernel_rfl) ?_
        refine ls_off (j := 3) (t := 16) (b := false) (c := true) rfl rfl (by kernel_rfl) (by kernel_rfl) rfl rfl (by kernel_rfl) ?_
        refine ls_off (j := 3) (t := 16) (b := false) (c := true) rfl rfl (by kernel_rfl) (by kernel_rfl) rfl rfl (by kernel_rfl) ?_
        refine ls_val (v := .bool true) rfl rfl (by kernel_rfl) (fun w => by kernel_rfl) ?_
        refine ls_val (v := .bool true) rfl rfl (by kernel_rfl) (fun w => by kernel_rfl) ?_
        refine ls_off (j := 8) (t := 21) (b := false) (c := true) rfl rfl (by kernel_rfl) (by kernel_rfl) rfl rfl (by kernel_rfl) ?_
        refine ls_off (j := 8) (t := 21) (b := false) (c := true) rfl rfl (by kernel_rfl) (by kernel_rfl) rfl rfl (by kernel_rfl) ?_
        refine ls_off (j := 8) (t := 21) (b := false) (c := true) rfl rfl (by kernel_rfl) (by kernel_rfl) rfl rfl (by kernel_rfl) ?_
        refine ls_val (v := .bool true) rfl rfl (by kernel_rfl) (fun w => by kernel_rfl) ?_
        refine ls_val (v := .bool true) rfl rfl (by kernel_rfl) (fun w => by kernel_rfl) ?_
        refine ls_off (j := 13) (t := 26) (b := false) (c := true) rfl rfl (by kernel_rfl) (by kernel_rfl) rfl rfl (by kernel_rfl) ?_
        refine ls_off (j := 13) (t := 26) (b := false) (c := true) rfl rfl (by kernel_rfl) (by kernel_rfl) rfl rfl (by kernel_rfl) ?_
        refine ls_off (j := 13) (t := 26) (b := false) (c := true) rfl rfl (by kernel_rfl) (by kernel_rfl) rfl rfl (by kernel_rfl) ?_
        refine ls_off (j := 13) (t := 26) (b := false) (c := true) rfl rfl (by kernel_rfl) (by kernel_rfl) rfl rfl (by kernel_rfl) ?_
        refine ls_off (j := 13) (t := 26) (b := false) (c := true) rfl rfl (by kernel_rfl) (by kernel_rfl) rfl rfl (by kernel_rfl) ?_
        refine ls_val (v := .bool true) rfl rfl (by kernel_rfl) (fun w => by kernel_rfl) ?_
        refine ls_val (v := .bool true) rfl rfl (by kernel_rfl) (fun w => by kernel_rfl) ?_
        refine ls_off (j := 20) (t := 33) (b := false) (c := true) rfl rfl (by kernel_rfl) (by kernel_rfl) rfl rfl (by kernel_rfl) ?_
        refine ls_off (j := 20) (t := 33) (b := false) (c := true) rfl rfl (by kernel_rfl) (by kernel_rfl) rfl rfl (by kernel_rfl) ?_
        refine ls_off (j := 20) (t := 33) (b := false) (c := true) rfl rfl (by kernel_rfl) (by kernel_rfl) rfl rfl (by kernel_rfl) ?_
        refine ls_val (v := .bool true) rfl rfl (by kernel_rfl) (fun w => by kernel_rfl) ?_
        refine ls_end ?_
        refine qn_then ?_
        refine cs_true (by kernel_rfl) ?_
        refine cs_seq ?_
        refine cs_region (l := [_, _, _, _, _]) ?_
        refine ls_val (v := .agg ⟨([Value.int .i64 (1 : Int)] ++ [Value.int .i64 (4 : Int)])⟩) rfl rfl (by kernel_rfl) (fun w => by kernel_rfl) ?_
        refine ls_lit T24 1 rfl rfl (by kernel_rfl) ([((1 : Int), (4 : Int))]) (by exact of_decide_eq_true (by kernel_rfl)) (fun w => by kernel_rfl) ?_
        intro g61
        refine ls_val (v := .agg ⟨([Value.int .i64 (1 : Int)] ++ [Value.int .i64 (4 : Int)])⟩) rfl rfl (by kernel_rfl) (fun w => by kernel_rfl) ?_
        obtain ⟨t62, hc63, H⟩ := bind_some H
        refine ls_callb (fid := 12) (vals := #[.slice (some ⟨g61, 0, none⟩) ([((1 : Int), (4 : Int))]).length [((1 : Int), (4 : Int))].length, .agg ⟨([Value.int .i64 (1 : Int)] ++ [Value.int .i64 (4 : Int)])⟩]) (X := Unit) (fun x => .bool t62) (fun x => stl []) [] [1] [] [Ck.sl T24 (some ⟨g61, 0, none⟩) ([((1 : Int), (4 : Int))].length) ([((1 : Int), (4 : Int))])] 2 rfl rfl (by kernel_rfl) (fun w => by kernel_rfl) trivial ⟨by exact rfl, trivial⟩ (by decide) (fun w hs hb => extent_Has.calls k (some ⟨g61, 0, none⟩) ([((1 : Int), (4 : Int))].length) ([((1 : Int), (4 : Int))]) ((1 : Int), (4 : Int)) t62 (lent b w [] [Ck.sl T24 (some ⟨g61, 0, none⟩) ([((1 : Int), (4 : Int))].length) ([((1 : Int), (4 : Int))])]) hb (hs.ror (k := 1) (by exact rfl) (.head _)) (hs.cap (k := 1) (by exact rfl)) hc63) ?_
        intro x64
        refine ls_val (v := .bool t62) rfl rfl (by kernel_rfl) (fun w => by kernel_rfl) ?_
        refine ls_end ?_
        refine qn_then ?_
        refine cs_ret' ?_
        refine qr_then ?_
        obtain rfl := Option.some.inj H
        refine qr_res (rs := [_]) rfl (fun w' hs => ⟨[.bool t62], (res_tmp (by kernel_rfl) (.nil)), (), rfl, hs.pick (ts := []) (cs := []) trivial (by decide)⟩)
    · rintro f S ⟨fr2, rfl, rfl, H⟩
      replace H : ((extent_Add.f k l0_1 a1).bind fun t2 => (extent_Has.f k t2 a1).bind fun t21 => (if t21 = true then (extent_Total.f k t2).bind fun t25 => (extent_Total.f k l0_1).bind fun t28 => lt (IntKind.wrap .i64 ((IntKind.wrap .i64 (t28 + a1.2)) - a1.1)) fun y31 => (if t25 = y31 then (shadowboxlaw09_ExtentBack.jo3 k a1 l0_1 t2) else some false) else some false)) = some r := H
      refine cs_seq ?_
      refine cs_region (l := [_, _, _, _]) ?_
      refine ls_val (v := .slice A0_1 l0_1.length c0_1) rfl rfl (by kernel_rfl) (fun w => by kernel_rfl) ?_
      refine ls_loadagg (a := ⟨g1, 0, none⟩) (sub := ([Value.int .i64 a1.1] ++ [Value.int .i64 a1.2])) rfl rfl (by kernel_rfl) rfl (by kernel_rfl) (by kernel_rfl) (by kernel_rfl) (len_app (len1 _) (len1 _)) (fun w hs => (hs.vars (k := 0) (by exact rfl) (Sub4.all _))) ?_
      obtain ⟨t2, hc3, H⟩ := bind_some H
      refine ls_callb (fid := 13) (vals := #[.slice A0_1 l0_1.length c0_1, .agg ⟨([Value.int .i64 a1.1] ++ [Value.int .i64 a1.2])⟩]) (X := (Option Addr × Nat)) (fun x => .slice x.1 t2.length x.2) (fun x => stl [Ck.sl T24 x.1 x.2 t2]) [] [] [] [] 1 rfl rfl (by kernel_rfl) (fun w => by kernel_rfl) trivial trivial (by decide) (fun w hs hb => extent_Add.calls k A0_1 c0_1 l0_1 a1 t2 (lent b w [] []) hb (hs.ro R0_1 _ _) C0_1 hc3) ?_
      intro x4
      refine ls_val (v := .slice x4.1 t2.length x4.2) rfl rfl (by kernel_rfl) (fun w => by kernel_rfl) ?_
      refine ls_end ?_
      refine qn_then ?_
      refine cs_cut (fun f S => ∃ (fR : Fr), f = upd (upd (upd fR 0 (.slice A0_1 l0_1.length c0_1)) 3 (.pointer (some ⟨g1, 0, none⟩))) 5 (.slice x4.1 t2.length x4.2) ∧ S = sput (sput s0 0 (some (Ck.var 24 g1 (([Value.int .i64 a1.1] ++ [Value.int .i64 a1.2]))))) 1 (some (Ck.sl T24 x4.1 x4.2 t2)) ∧ shadowboxlaw09_ExtentBack.jo3 k a1 l0_1 t2 = some r) ?_ ?_
      · skip
        refine cs_seq ?_
        obtain ⟨s20_0, hs20_0⟩ : ∃ z : Value → Sto → Prop, z = (fun v R => v = .slice x4.1 t2.length x4.2 ∧ R = s0) := ⟨_, rfl⟩
        refine have_op (l := [_, _, _, _, _, _, _, _, _, _, _, _, _, _, _, _, _]) shadowboxlaw09_ExtentBack.tab18 2 0 (fun sp => sp 0 = s20_0) (fun sp on hA hon => ?_) (fun ops20_0 => ?_)
        · refine ⟨fun o ho vs Rs f' S' w hp hf hx hS hR hs => ?_⟩
          obtain rfl := Option.some.inj ho
          rw [hA, hs20_0]
          refine And.intro (fun a ha => (want_none rfl a ha).trans hon.symm) (And.intro (fun _ => ?_) (fun h => by rw [hon] at h; cases h))
          have hF := fr_next (rfl) ((hx 5 (by kernel_rfl)).trans (by kernel_rfl : (_ : Value) = .slice x4.1 t2.length x4.2))
          refine ls_fr hF ?_
          refine ls_val (v := .slice x4.1 t2.length x4.2) rfl rfl (by kernel_rfl) (fun w => by kernel_rfl) ?_
          exact ls_fin s0 (.slice x4.1 t2.length x4.2) (congrArg (fun z => upd z 45 _) hF.symm) ⟨rfl, rfl⟩ (sub_nil _)
        obtain ⟨s20_1, hs20_1⟩ : ∃ z : Value → Sto → Prop, z = (fun v R => v = .agg ⟨([Value.int .i64 a1.1] ++ [Value.int .i64 a1.2])⟩ ∧ R = s0) := ⟨_, rfl⟩
        refine have_op (l := [_, _, _, _, _, _, _, _, _, _, _, _, _, _, _, _, _]) shadowboxlaw09_ExtentBack.tab18 2 1 (fun sp => sp 1 = s20_1) (fun sp on hA hon => ?_) (fun ops20_1 => ?_)
        · refine ⟨fun o ho vs Rs f' S' w hp hf hx hS hR hs => ?_⟩
          obtain rfl := Option.some.inj ho
          rw [hA, hs20_1]
          refine And.intro (fun a ha => (want_none rfl a ha).trans hon.symm) (And.intro (fun _ => ?_) (fun h => by rw [hon] at h; cases h))
          have hF := fr_next (rfl) ((hx 3 (by kernel_rfl)).trans (by kernel_rfl : (_ : Value) = .pointer (some ⟨g1, 0, none⟩)))
          refine ls_fr hF ?_
          refine ls_loadagg (a := ⟨g1, 0, none⟩) (sub := ([Value.int .i64 a1.1] ++ [Value.int .i64 a1.2])) rfl rfl (by kernel_rfl) rfl (by kernel_rfl) (by kernel_rfl) (by kernel_rfl) (len_app (len1 _) (len1 _)) (fun w1 hs1 => Rd.step (hs.vars (k := 0) ((hS 0 (by kernel_rfl)).trans (by exact rfl)) (Sub4.all _)) hs1.below.bw) ?_
          exact ls_fin s0 (.agg ⟨([Value.int .i64 a1.1] ++ [Value.int .i64 a1.2])⟩) (congrArg (fun z => upd z 46 _) hF.symm) ⟨rfl, rfl⟩ (sub_nil _)
        obtain ⟨t21, hc22, H⟩ := bind_some H
        obtain ⟨s20_2, hs20_2⟩ : ∃ z : Value → Sto → Prop, z = (fun v R => ∃ x23 : Unit, v = .bool t21 ∧ R = stl []) := ⟨_, rfl⟩
        refine have_op (l := [_, _, _, _, _, _, _, _, _, _, _, _, _, _, _, _, _]) shadowboxlaw09_ExtentBack.tab18 2 2 (fun sp => sp 2 = s20_2 ∧ sp 0 = s20_0 ∧ sp 1 = s20_1) (fun sp on hA hon => ?_) (fun ops20_2 => ?_)
        · refine ⟨fun o ho vs Rs f' S' w hp hf hx hS hR hs => ?_⟩
          obtain rfl := Option.some.inj ho
          obtain ⟨hv0, hR0⟩ := (spe hA.2.1 hs20_0 (hp 0 (by kernel_rfl)))
          obtain ⟨hv1, hR1⟩ := (spe hA.2.2 hs20_1 (hp 1 (by kernel_rfl)))
          rw [hA.1, hs20_2]
          refine And.intro (fun a ha => (want_none rfl a ha).trans hon.symm) (And.intro (fun _ => ?_) (fun h => by rw [hon] at h; cases h))
          have hF := fr_next (fr_next (rfl) ((hf 0 45 (by kernel_rfl) rfl).trans hv0)) ((hf 1 46 (by kernel_rfl) rfl).trans hv1)
          refine ls_fr hF ?_
          refine ls_call (fid := 12) (vals := #[.slice x4.1 t2.length x4.2, .agg ⟨([Value.int .i64 a1.1] ++ [Value.int .i64 a1.2])⟩]) (X := Unit) (fun x => .bool t21) (fun x => stl []) 0 rfl rfl (by kernel_rfl) (fun w => by kernel_rfl) (fun w1 hs1 => extent_Has.calls k x4.1 x4.2 t2 a1 t21 (bw w1) (St.refl w1) (Rd.ro (Rd.step (hs.rd (k := 1) ((hS 1 (by kernel_rfl)).trans (by exact rfl))) hs1.below.bw)) (hs.cap (k := 1) ((hS 1 (by kernel_rfl)).trans (by exact rfl))) hc22) ?_
          intro x23
          exact ls_fin (stl []) (.bool t21) (congrArg (fun z => upd z 47 _) hF.symm) ⟨x23, rfl, rfl⟩ (sub_join _)
        obtain ⟨s20_3, hs20_3⟩ : ∃ z : Value → Sto → Prop, z = (fun v R => v = .bool (!t21) ∧ R = s0) := ⟨_, rfl⟩
        refine have_op (l := [_, _, _, _, _, _, _, _, _, _, _, _, _, _, _, _, _]) shadowboxlaw09_ExtentBack.tab18 2 3 (fun sp => sp 3 = s20_3 ∧ sp 2 = s20_2) (fun sp on hA hon => ?_) (fun ops20_3 => ?_)
        · refine ⟨fun o ho vs Rs f' S' w hp hf hx hS hR hs => ?_⟩
          obtain rfl := Option.some.inj ho
          obtain ⟨x23, hv2, hR2⟩ := (spe hA.2 hs20_2 (hp 2 (by kernel_rfl)))
          rw [hA.1, hs20_3]
          refine And.intro (fun a ha => (want_none rfl a ha).trans hon.symm) (And.intro (fun _ => ?_) (fun h => by rw [hon] at h; cases h))
          have hF := fr_next (rfl) ((hf 2 47 (by kernel_rfl) rfl).trans hv2)
          refine ls_fr hF ?_
          refine ls_val (v := .bool (!t21)) rfl rfl (by kernel_rfl) (fun w => by kernel_rfl) ?_
          exact ls_fin s0 (.bool (!t21)) (congrArg (fun z => upd z 48 _) hF.symm) ⟨rfl, rfl⟩ (sub_nil _)
        obtain ⟨s20_4, hs20_4⟩ : ∃ z : Value → Sto → Prop, z = (fun v R => v = .bool (!t21) ∧ R = s0) := ⟨_, rfl⟩
        refine have_op (l := [_, _, _, _, _, _, _, _, _, _, _, _, _, _, _, _, _]) shadowboxlaw09_ExtentBack.tab18 2 4 (fun sp => sp 4 = s20_4 ∧ sp 3 = s20_3) (fun sp on hA hon => ?_) (fun ops20_4 => ?_)
        · refine ⟨fun o ho vs Rs f' S' w hp hf hx hS hR hs => ?_⟩
          obtain rfl := Option.some.inj ho
          obtain ⟨hv3, hR3⟩ := (spe hA.2 hs20_3 (hp 3 (by kernel_rfl)))
          rw [hA.1, hs20_4]
          refine And.intro (fun a ha => (want_none rfl a ha).trans hon.symm) (And.intro (fun _ => ?_) (fun h => by rw [hon] at h; cases h))
          have hF := fr_next (rfl) ((hf 3 48 (by kernel_rfl) rfl).trans hv3)
          refine ls_fr hF ?_
          refine ls_val (v := .bool (!t21)) rfl rfl (by kernel_rfl) (fun w => by kernel_rfl) ?_
          exact ls_fin s0 (.bool (!t21)) (congrArg (fun z => upd z 49 _) hF.symm) ⟨rfl, rfl⟩ (sub_nil _)
        by_cases q24 : t21 = true
        · replace H := ite_t q24 H
          obtain ⟨s20_5, hs20_5⟩ : ∃ z : Value → Sto → Prop, z = (fun v R => v = .slice x4.1 t2.length x4.2 ∧ R = s0) := ⟨_, rfl⟩
          refine have_op (l := [_, _, _, _, _, _, _, _, _, _, _, _, _, _, _, _, _]) shadowboxlaw09_ExtentBack.tab18 2 5 (fun sp => sp 5 = s20_5 ∧ sp 4 = s20_4) (fun sp on hA hon => ?_) (fun ops20_5 => ?_)
          · refine ⟨fun o ho vs Rs f' S' w hp hf hx hS hR hs => ?_⟩
            obtain rfl := Option.some.inj ho
            obtain ⟨hv4, hR4⟩ := (spe hA.2 hs20_4 (hp 4 (by kernel_rfl)))
            rw [hA.1, hs20_5]
            refine And.intro (fun a ha => (want_is (j := 4) (t := 49) (r := true) rfl rfl (by kernel_rfl) (((hf 4 49 (by kernel_rfl) rfl).trans hv4).trans (congrArg Value.bool (show (!t21) = false from congrArg Bool.not (q24)))) rfl a ha).trans hon.symm) (And.intro (fun _ => ?_) (fun h => by rw [hon] at h; cases h))
            have hF := fr_next (fr_next (rfl) ((hx 5 (by kernel_rfl)).trans (by kernel_rfl : (_ : Value) = .slice x4.1 t2.length x4.2))) (((hf 4 49 (by kernel_rfl) rfl).trans hv4).trans (congrArg Value.bool (show (!t21) = false from congrArg Bool.not (q24))))
            refine ls_fr hF ?_
            refine ls_val (v := .slice x4.1 t2.length x4.2) rfl rfl (by kernel_rfl) (fun w => by kernel_rfl) ?_
            exact ls_fin s0 (.slice x4.1 t2.length x4.2) (congrArg (fun z => upd z 50 _) hF.symm) ⟨rfl, rfl⟩ (sub_nil _)
          obtain ⟨t25, hc26, H⟩ := bind_some H
          obtain ⟨s20_6, hs20_6⟩ : ∃ z : Value → Sto → Prop, z = (fun v R => ∃ x27 : Unit, v = .int .i64 t25 ∧ R = stl []) := ⟨_, rfl⟩
          refine have_op (l := [_, _, _, _, _, _, _, _, _, _, _, _, _, _, _, _, _]) shadowboxlaw09_ExtentBack.tab18 2 6 (fun sp => sp 6 = s20_6 ∧ sp 4 = s20_4 ∧ sp 5 = s20_5) (fun sp on hA hon => ?_) (fun ops20_6 => ?_)
          · refine ⟨fun o ho vs Rs f' S' w hp hf hx hS hR hs => ?_⟩
            obtain rfl := Option.some.inj ho
            obtain ⟨hv4, hR4⟩ := (spe hA.2.1 hs20_4 (hp 4 (by kernel_rfl)))
            obtain ⟨hv5, hR5⟩ := (spe hA.2.2 hs20_5 (hp 5 (by kernel_rfl)))
            rw [hA.1, hs20_6]
            refine And.intro (fun a ha => (want_is (j := 4) (t := 49) (r := true) rfl rfl (by kernel_rfl) (((hf 4 49 (by kernel_rfl) rfl).trans hv4).trans (congrArg Value.bool (show (!t21) = false from congrArg Bool.not (q24)))) rfl a ha).trans hon.symm) (And.intro (fun _ => ?_) (fun h => by rw [hon] at h; cases h))
            have hF := fr_next (fr_next (rfl) (((hf 4 49 (by kernel_rfl) rfl).trans hv4).trans (congrArg Value.bool (show (!t21) = false from congrArg Bool.not (q24))))) ((hf 5 50 (by kernel_rfl) rfl).trans hv5)
            refine ls_fr hF ?_
            refine ls_call (fid := 14) (vals := #[.slice x4.1 t2.length x4.2]) (X := Unit) (fun x => .int .i64 t25) (fun x => stl []) 0 rfl rfl (by kernel_rfl) (fun w => by kernel_rfl) (fun w1 hs1 => extent_Total.calls k x4.1 x4.2 t2 t25 (bw w1) (St.refl w1) (Rd.ro (Rd.step (hs.rd (k := 1) ((hS 1 (by kernel_rfl)).trans (by exact rfl))) hs1.below.bw)) (hs.cap (k := 1) ((hS 1 (by kernel_rfl)).trans (by exact rfl))) hc26) ?_
            intro x27
            exact ls_fin (stl []) (.int .i64 t25) (congrArg (fun z => upd z 51 _) hF.symm) ⟨x27, rfl, rfl⟩ (sub_join _)
          obtain ⟨s20_7, hs20_7⟩ : ∃ z : Value → Sto → Prop, z = (fun v R => v = .slice A0_1 l0_1.length c0_1 ∧ R = s0) := ⟨_, rfl⟩
          refine have_op (l := [_, _, _, _, _, _, _, _, _, _, _, _, _, _, _, _, _]) shadowboxlaw09_ExtentBack.tab18 2 7 (fun sp => sp 7 = s20_7 ∧ sp 4 = s20_4) (fun sp on hA hon => ?_) (fun ops20_7 => ?_)
          · refine ⟨fun o ho vs Rs f' S' w hp hf hx hS hR hs => ?_⟩
            obtain rfl := Option.some.inj ho
            obtain ⟨hv4, hR4⟩ := (spe hA.2 hs20_4 (hp 4 (by kernel_rfl)))
            rw [hA.1, hs20_7]
            refine And.intro (fun a ha => (want_is (j := 4) (t := 49) (r := true) rfl rfl (by kernel_rfl) (((hf 4 49 (by kernel_rfl) rfl).trans hv4).trans (congrArg Value.bool (show (!t21) = false from congrArg Bool.not (q24)))) rfl a ha).trans hon.symm) (And.intro (fun _ => ?_) (fun h => by rw [hon] at h; cases h))
            have hF := fr_next (fr_next (rfl) ((hx 0 (by kernel_rfl)).trans (by kernel_rfl : (_ : Value) = .slice A0_1 l0_1.length c0_1))) (((hf 4 49 (by kernel_rfl) rfl).trans hv4).trans (congrArg Value.bool (show (!t21) = false from congrArg Bool.not (q24))))
            refine ls_fr hF ?_
            refine ls_val (v := .slice A0_1 l0_1.length c0_1) rfl rfl (by kernel_rfl) (fun w => by kernel_rfl) ?_
            exact ls_fin s0 (.slice A0_1 l0_1.length c0_1) (congrArg (fun z => upd z 52 _) hF.symm) ⟨rfl, rfl⟩ (sub_nil _)
          obtain ⟨t28, hc29, H⟩ := bind_some H
          obtain ⟨s20_8, hs20_8⟩ : ∃ z : Value → Sto → Prop, z = (fun v R => ∃ x30 : Unit, v = .int .i64 t28 ∧ R = stl []) := ⟨_, rfl⟩
          refine have_op (l := [_, _, _, _, _, _, _, _, _, _, _, _, _, _, _, _, _]) shadowboxlaw09_ExtentBack.tab18 2 8 (fun sp => sp 8 = s20_8 ∧ sp 4 = s20_4 ∧ sp 7 = s20_7) (fun sp on hA hon => ?_) (fun ops20_8 => ?_)
          · refine ⟨fun o ho vs Rs f' S' w hp hf hx hS hR hs => ?_⟩
            obtain rfl := Option.some.inj ho
            obtain ⟨hv4, hR4⟩ := (spe hA.2.1 hs20_4 (hp 4 (by kernel_rfl)))
            obtain ⟨hv7, hR7⟩ := (spe hA.2.2 hs20_7 (hp 7 (by kernel_rfl)))
            rw [hA.1, hs20_8]
            refine And.intro (fun a ha => (want_is (j := 4) (t := 49) (r := true) rfl rfl (by kernel_rfl) (((hf 4 49 (by kernel_rfl) rfl).trans hv4).trans (congrArg Value.bool (show (!t21) = false from congrArg Bool.not (q24)))) rfl a ha).trans hon.symm) (And.intro (fun _ => ?_) (fun h => by rw [hon] at h; cases h))
            have hF := fr_next (fr_next (rfl) (((hf 4 49 (by kernel_rfl) rfl).trans hv4).trans (congrArg Value.bool (show (!t21) = false from congrArg Bool.not (q24))))) ((hf 7 52 (by kernel_rfl) rfl).trans hv7)
            refine ls_fr hF ?_
            refine ls_call (fid := 14) (vals := #[.slice A0_1 l0_1.length c0_1]) (X := Unit) (fun x => .int .i64 t28) (fun x => stl []) 0 rfl rfl (by kernel_rfl) (fun w => by kernel_rfl) (fun w1 hs1 => extent_Total.calls k A0_1 c0_1 l0_1 t28 (bw w1) (St.refl w1) (Rd.ro (Rd.step (hs.old R0_1) hs1.below.bw)) C0_1 hc29) ?_
            intro x30
            exact ls_fin (stl []) (.int .i64 t28) (congrArg (fun z => upd z 53 _) hF.symm) ⟨x30, rfl, rfl⟩ (sub_join _)
          obtain ⟨s20_9, hs20_9⟩ : ∃ z : Value → Sto → Prop, z = (fun v R => v = .pointer (some ⟨g1, (0 + 1), none⟩) ∧ R = s0) := ⟨_, rfl⟩
          refine have_op (l := [_, _, _, _, _, _, _, _, _, _, _, _, _, _, _, _, _]) shadowboxlaw09_ExtentBack.tab18 2 9 (fun sp => sp 9 = s20_9 ∧ sp 4 = s20_4) (fun sp on hA hon => ?_) (fun ops20_9 => ?_)
          · refine ⟨fun o ho vs Rs f' S' w hp hf hx hS hR hs => ?_⟩
            obtain rfl := Option.some.inj ho
            obtain ⟨hv4, hR4⟩ := (spe hA.2 hs20_4 (hp 4 (by kernel_rfl)))
            rw [hA.1, hs20_9]
            refine And.intro (fun a ha => (want_is (j := 4) (t := 49) (r := true) rfl rfl (by kernel_rfl) (((hf 4 49 (by kernel_rfl) rfl).trans hv4).trans (congrArg Value.bool (show (!t21) = false from congrArg Bool.not (q24)))) rfl a ha).trans hon.symm) (And.intro (fun _ => ?_) (fun h => by rw [hon] at h; cases h))
            have hF := fr_next (fr_next (rfl) ((hx 3 (by kernel_rfl)).trans (by kernel_rfl : (_ : Value) = .pointer (some ⟨g1, 0, none⟩)))) (((hf 4 49 (by kernel_rfl) rfl).trans hv4).trans (congrArg Value.bool (show (!t21) = false from congrArg Bool.not (q24))))
            refine ls_fr hF ?_
            refine ls_val (v := .pointer (some ⟨g1, (0 + 1), none⟩)) rfl rfl (by kernel_rfl) (fun w => by kernel_rfl) ?_
            exact ls_fin s0 (.pointer (some ⟨g1, (0 + 1), none⟩)) (congrArg (fun z => upd z 54 _) hF.symm) ⟨rfl, rfl⟩ (sub_nil _)
          obtain ⟨s20_10, hs20_10⟩ : ∃ z : Value → Sto → Prop, z = (fun v R => v = .int .i64 a1.2 ∧ R = s0) := ⟨_, rfl⟩
          refine have_op (l := [_, _, _, _, _, _, _, _, _, _, _, _, _, _, _, _, _]) shadowboxlaw09_ExtentBack.tab18 2 10 (fun sp => sp 10 = s20_10 ∧ sp 4 = s20_4 ∧ sp 9 = s20_9) (fun sp on hA hon => ?_) (fun ops20_10 => ?_)
          · refine ⟨fun o ho vs Rs f' S' w hp hf hx hS hR hs => ?_⟩
            obtain rfl := Option.some.inj ho
            obtain ⟨hv4, hR4⟩ := (spe hA.2.1 hs20_4 (hp 4 (by kernel_rfl)))
            obtain ⟨hv9, hR9⟩ := (spe hA.2.2 hs20_9 (hp 9 (by kernel_rfl)))
            rw [hA.1, hs20_10]
            refine And.intro (fun a ha => (want_is (j := 4) (t := 49) (r := true) rfl rfl (by kernel_rfl) (((hf 4 49 (by kernel_rfl) rfl).trans hv4).trans (congrArg Value.bool (show (!t21) = false from congrArg Bool.not (q24)))) rfl a ha).trans hon.symm) (And.intro (fun _ => ?_) (fun h => by rw [hon] at h; cases h))
            have hF := fr_next (fr_next (rfl) (((hf 4 49 (by kernel_rfl) rfl).trans hv4).trans (congrArg Value.bool (show (!t21) = false from congrArg Bool.not (q24))))) ((hf 9 54 (by kernel_rfl) rfl).trans hv9)
            refine ls_fr hF ?_
            refine ls_load (a0 := ⟨g1, (0 + 1), none⟩) (v := .int .i64 a1.2) (de := (TypeDesc.int .i64)) rfl rfl (by kernel_rfl) rfl (by kernel_rfl) (by kernel_rfl) (by kernel_rfl) (fun w1 hs1 => cell_step hs1.below.bw (hs.var (k := 0) ((hS 0 (by kernel_rfl)).trans (by exact rfl)) (Sub4.trans (Sub4.all _) (Sub4.skip (n := 1) (len1 _) (Sub4.all _))))) ?_
            exact ls_fin s0 (.int .i64 a1.2) (congrArg (fun z => upd z 55 _) hF.symm) ⟨rfl, rfl⟩ (sub_nil _)
          obtain ⟨s20_11, hs20_11⟩ : ∃ z : Value → Sto → Prop, z = (fun v R => v = .int .i64 (IntKind.wrap .i64 (t28 + a1.2)) ∧ R = s0) := ⟨_, rfl⟩
          refine have_op (l := [_, _, _, _, _, _, _, _, _, _, _, _, _, _, _, _, _]) shadowboxlaw09_ExtentBack.tab18 2 11 (fun sp => sp 11 = s20_11 ∧ sp 4 = s20_4 ∧ sp 8 = s20_8 ∧ sp 10 = s20_10) (fun sp on hA hon => ?_) (fun ops20_11 => ?_)
          · refine ⟨fun o ho vs Rs f' S' w hp hf hx hS hR hs => ?_⟩
            obtain rfl := Option.some.inj ho
            obtain ⟨hv4, hR4⟩ := (spe hA.2.1 hs20_4 (hp 4 (by kernel_rfl)))
            obtain ⟨x30, hv8, hR8⟩ := (spe hA.2.2.1 hs20_8 (hp 8 (by kernel_rfl)))
            obtain ⟨hv10, hR10⟩ := (spe hA.2.2.2 hs20_10 (hp 10 (by kernel_rfl)))
            rw [hA.1, hs20_11]
            refine And.intro (fun a ha => (want_is (j := 4) (t := 49) (r := true) rfl rfl (by kernel_rfl) (((hf 4 49 (by kernel_rfl) rfl).trans hv4).trans (congrArg Value.bool (show (!t21) = false from congrArg Bool.not (q24)))) rfl a ha).trans hon.symm) (And.intro (fun _ => ?_) (fun h => by rw [hon] at h; cases h))
            have hF := fr_next (fr_next (fr_next (rfl) (((hf 4 49 (by kernel_rfl) rfl).trans hv4).trans (congrArg Value.bool (show (!t21) = false from congrArg Bool.not (q24))))) ((hf 8 53 (by kernel_rfl) rfl).trans hv8)) ((hf 10 55 (by kernel_rfl) rfl).trans hv10)
            refine ls_fr hF ?_
            refine ls_val (v := .int .i64 (IntKind.wrap .i64 (t28 + a1.2))) rfl rfl (by kernel_rfl) (fun w => by kernel_rfl) ?_
            exact ls_fin s0 (.int .i64 (IntKind.wrap .i64 (t28 + a1.2))) (congrArg (fun z => upd z 56 _) hF.symm) ⟨rfl, rfl⟩ (sub_nil _)
          obtain ⟨s20_12, hs20_12⟩ : ∃ z : Value → Sto → Prop, z = (fun v R => v = .pointer (some ⟨g1, (0 + 0), none⟩) ∧ R = s0) := ⟨_, rfl⟩
          refine have_op (l := [_, _, _, _, _, _, _, _, _, _, _, _, _, _, _, _, _]) shadowboxlaw09_ExtentBack.tab18 2 12 (fun sp => sp 12 = s20_12 ∧ sp 4 = s20_4) (fun sp on hA hon => ?_) (fun ops20_12 => ?_)
          · refine ⟨fun o ho vs Rs f' S' w hp hf hx hS hR hs => ?_⟩
            obtain rfl := Option.some.inj ho
            obtain ⟨hv4, hR4⟩ := (spe hA.2 hs20_4 (hp 4 (by kernel_rfl)))
            rw [hA.1, hs20_12]
            refine And.intro (fun a ha => (want_is (j := 4) (t := 49) (r := true) rfl rfl (by kernel_rfl) (((hf 4 49 (by kernel_rfl) rfl).trans hv4).trans (congrArg Value.bool (show (!t21) = false from congrArg Bool.not (q24)))) rfl a ha).trans hon.symm) (And.intro (fun _ => ?_) (fun h => by rw [hon] at h; cases h))
            have hF := fr_next (fr_next (rfl) ((hx 3 (by kernel_rfl)).trans (by kernel_rfl : (_ : Value) = .pointer (some ⟨g1, 0, none⟩)))) (((hf 4 49 (by kernel_rfl) rfl).trans hv4).trans (congrArg Value.bool (show (!t21) = false from congrArg Bool.not (q24))))
            refine ls_fr hF ?_
            refine ls_val (v := .pointer (some ⟨g1, (0 + 0), none⟩)) rfl rfl (by kernel_rfl) (fun w => by kernel_rfl) ?_
            exact ls_fin s0 (.pointer (some ⟨g1, (0 + 0), none⟩)) (congrArg (fun z => upd z 57 _) hF.symm) ⟨rfl, rfl⟩ (sub_nil _)
          obtain ⟨s20_13, hs20_13⟩ : ∃ z : Value → Sto → Prop, z = (fun v R => v = .int .i64 a1.1 ∧ R = s0) := ⟨_, rfl⟩
          refine have_op (l := [_, _, _, _, _, _, _, _, _, _, _, _, _, _, _, _, _]) shadowboxlaw09_ExtentBack.tab18 2 13 (fun sp => sp 13 = s20_13 ∧ sp 4 = s20_4 ∧ sp 12 = s20_12) (fun sp on hA hon => ?_) (fun ops20_13 => ?_)
          · refine ⟨fun o ho vs Rs f' S' w hp hf hx hS hR hs => ?_⟩
            obtain rfl := Option.some.inj ho
            obtain ⟨hv4, hR4⟩ := (spe hA.2.1 hs20_4 (hp 4 (by kernel_rfl)))
            obtain ⟨hv12, hR12⟩ := (spe hA.2.2 hs20_12 (hp 12 (by kernel_rfl)))
            rw [hA.1, hs20_13]
            refine And.intro (fun a ha => (want_is (j := 4) (t := 49) (r := true) rfl rfl (by kernel_rfl) (((hf 4 49 (by kernel_rfl) rfl).trans hv4).trans (congrArg Value.bool (show (!t21) = false from congrArg Bool.not (q24)))) rfl a ha).trans hon.symm) (And.intro (fun _ => ?_) (fun h => by rw [hon] at h; cases h))
            have hF := fr_next (fr_next (rfl) (((hf 4 49 (by kernel_rfl) rfl).trans hv4).trans (congrArg Value.bool (show (!t21) = false from congrArg Bool.not (q24))))) ((hf 12 57 (by kernel_rfl) rfl).trans hv12)
            refine ls_fr hF ?_
            refine ls_load (a0 := ⟨g1, (0 + 0), none⟩) (v := .int .i64 a1.1) (de := (TypeDesc.int .i64)) rfl rfl (by kernel_rfl) rfl (by kernel_rfl) (by kernel_rfl) (by kernel_rfl) (fun w1 hs1 => cell_step hs1.below.bw (hs.var (k := 0) ((hS 0 (by kernel_rfl)).trans (by exact rfl)) (Sub4.trans (Sub4.all _) (Sub4.head _ _)))) ?_
            exact ls_fin s0 (.int .i64 a1.1) (congrArg (fun z => upd z 58 _) hF.symm) ⟨rfl, rfl⟩ (sub_nil _)
          refine cs_draw shadowboxlaw09_ExtentBack.tab18 14 2 (spl [s20_0, s20_1, s20_2, s20_3, s20_4, s20_5, s20_6, s20_7, s20_8, s20_9, s20_10, s20_11, s20_12, s20_13]) (onl [true, true, true, true, true, true, true, true, true, true, true, true, true, true]) (by kernel_rfl) (by kernel_rfl) (by kernel_rfl) (by kernel_rfl) (rs := [_, _, _]) rfl (by kernel_rfl) (by kernel_rfl) (all_snoc (all_snoc (all_snoc (all_snoc (all_snoc (all_snoc (all_snoc (all_snoc (all_snoc (all_snoc (all_snoc (all_snoc (all_snoc (all_snoc (all_nil) (ops20_0 _ _ rfl rfl)) (ops20_1 _ _ rfl rfl)) (ops20_2 _ _ ⟨rfl, rfl, rfl⟩ rfl)) (ops20_3 _ _ ⟨rfl, rfl⟩ rfl)) (ops20_4 _ _ ⟨rfl, rfl⟩ rfl)) (ops20_5 _ _ ⟨rfl, rfl⟩ rfl)) (ops20_6 _ _ ⟨rfl, rfl, rfl⟩ rfl)) (ops20_7 _ _ ⟨rfl, rfl⟩ rfl)) (ops20_8 _ _ ⟨rfl, rfl, rfl⟩ rfl)) (ops20_9 _ _ ⟨rfl, rfl⟩ rfl)) (ops20_10 _ _ ⟨rfl, rfl, rfl⟩ rfl)) (ops20_11 _ _ ⟨rfl, rfl, rfl, rfl⟩ rfl)) (ops20_12 _ _ ⟨rfl, rfl⟩ rfl)) (ops20_13 _ _ ⟨rfl, rfl, rfl⟩ rfl)) ?_
          intro vs Rs f' S' hp hf hx hS hR
          obtain ⟨x23, hv2, hR2⟩ := (spe rfl hs20_2 (hp 2 (by kernel_rfl)))
          obtain ⟨hv4, hR4⟩ := (spe rfl hs20_4 (hp 4 (by kernel_rfl)))
          obtain ⟨x27, hv6, hR6⟩ := (spe rfl hs20_6 (hp 6 (by kernel_rfl)))
          obtain ⟨x30, hv8, hR8⟩ := (spe rfl hs20_8 (hp 8 (by kernel_rfl)))
          obtain ⟨hv11, hR11⟩ := (spe rfl hs20_11 (hp 11 (by kernel_rfl)))
          obtain ⟨hv13, hR13⟩ := (spe rfl hs20_13 (hp 13 (by kernel_rfl)))
          refine ls_fr (F := upd (upd (upd (upd (upd (upd (upd f' 0 (.slice A0_1 l0_1.length c0_1)) 3 (.pointer (some ⟨g1, 0, none⟩))) 5 (.slice x4.1 t2.length x4.2)) 49 (.bool (!t21))) 51 (.int .i64 t25)) 56 (.int .i64 (IntKind.wrap .i64 (t28 + a1.2)))) 58 (.int .i64 a1.1)) (fr_next (fr_next (fr_next (fr_next (fr_next (fr_next (fr_next (rfl) ((hx 0 (by kernel_rfl)).trans (by kernel_rfl : (_ : Value) = .slice A0_1 l0_1.length c0_1))) ((hx 3 (by kernel_rfl)).trans (by kernel_rfl : (_ : Value) = .pointer (some ⟨g1, 0, none⟩)))) ((hx 5 (by kernel_rfl)).trans (by kernel_rfl : (_ : Value) = .slice x4.1 t2.length x4.2))) ((hf 4 49 (by kernel_rfl) rfl).trans hv4)) ((hf 6 51 (by kernel_rfl) rfl).trans hv6)) ((hf 11 56 (by kernel_rfl) rfl).trans hv11)) ((hf 13 58 (by kernel_rfl) rfl).trans hv13)) ?_
          refine ls_sub (sput (sput s0 0 (some (Ck.var 24 g1 (([Value.int .i64 a1.1] ++ [Value.int .i64 a1.2]))))) 1 (some (Ck.sl T24 x4.1 x4.2 t2))) (sub_put ((hS 1 (by kernel_rfl)).trans (by exact rfl)) (sub_put ((hS 0 (by kernel_rfl)).trans (by exact rfl)) (sub_nil _))) ?_
          refine ls_know (c := false) (congrArg Bool.not (q24)) 49 (by kernel_rfl) ?_
          refine ls_on (j := 4) (t := 49) (b := false) rfl rfl (by kernel_rfl) (by kernel_rfl) ?_
          obtain ⟨y31, hy32, H⟩ := lt_some H
          refine ls_val (v := .int .i64 (IntKind.wrap .i64 ((IntKind.wrap .i64 (t28 + a1.2)) - a1.1))) rfl rfl (by kernel_rfl) (fun w => by kernel_rfl) ?_
          refine ls_ren 59 (v := .int .i64 (IntKind.wrap .i64 ((IntKind.wrap .i64 (t28 + a1.2)) - a1.1))) (v' := .int .i64 y31) (by kernel_rfl) (by rw [hy32]) ?_
          refine ls_on (j := 4) (t := 49) (b := false) rfl rfl (by kernel_rfl) (by kernel_rfl) ?_
          refine ls_val (v := .bool (!decide (t25 = y31))) rfl rfl (by kernel_rfl) (fun w => by kernel_rfl) ?_
          refine ls_val (v := .bool (!decide (t25 = y31))) rfl rfl (by kernel_rfl) (fun w => by kernel_rfl) ?_
          refine ls_end ?_
          refine qn_then ?_
          by_cases q33 : t25 = y31
          · replace H := ite_t q33 H
            refine cs_know (c := false) (congrArg Bool.not (dec_t q33)) 61 (by kernel_rfl) ?_
            refine cs_false (by kernel_rfl) ?_
            refine cs_skip' ?_
            refine qn_meet (sput (sput s0 0 (some (Ck.var 24 g1 (([Value.int .i64 a1.1] ++ [Value.int .i64 a1.2]))))) 1 (some (Ck.sl T24 x4.1 x4.2 t2))) ⟨_, fr_next (fr_next (fr_next (rfl) (by kernel_rfl)) (by kernel_rfl)) (by kernel_rfl), rfl, H⟩ (sub_put (by exact rfl) (sub_put (by exact rfl) (sub_nil _)))
          · replace H := ite_f q33 H
            refine cs_know (c := true) (congrArg Bool.not (dec_f q33)) 61 (by kernel_rfl) ?_
            refine cs_true (by kernel_rfl) ?_
            refine cs_seq ?_
            refine cs_region (l := [_]) ?_
            refine ls_val (v := .bool false) rfl rfl (by kernel_rfl) (fun w => by kernel_rfl) ?_
            refine ls_end ?_
            refine qn_then ?_
            refine cs_ret' ?_
            refine qr_then ?_
            obtain rfl := Option.some.inj H
            refine qr_res (rs := [_]) rfl (fun w' hs => ⟨[.bool false], (res_tmp (by kernel_rfl) (.nil)), (), rfl, hs.pick (ts := []) (cs := []) trivial (by decide)⟩)
        · replace H := ite_f q24 H
          refine cs_draw shadowboxlaw09_ExtentBack.tab18 14 2 (spl [s20_0, s20_1, s20_2, s20_3, s20_4, spu, spu, spu, spu, spu, spu, spu, spu, spu]) (onl [true, true, true, true, true, false, false, false, false, false, false, false, false, false]) (by kernel_rfl) (by kernel_rfl) (by kernel_rfl) (by kernel_rfl) (rs := [_, _, _]) rfl (by kernel_rfl) (by kernel_rfl) (all_snoc (all_snoc (all_snoc (all_snoc (all_snoc (all_snoc (all_snoc (all_snoc (all_snoc (all_snoc (all_snoc (all_snoc (all_snoc (all_snoc (all_nil) (ops20_0 _ _ rfl rfl)) (ops20_1 _ _ rfl rfl)) (ops20_2 _ _ ⟨rfl, rfl, rfl⟩ rfl)) (ops20_3 _ _ ⟨rfl, rfl⟩ rfl)) (ops20_4 _ _ ⟨rfl, rfl⟩ rfl)) (op_offi 5 4 49 false rfl rfl (by kernel_rfl) (by kernel_rfl) rfl (fun v R h => by rw [hs20_4] at h; obtain ⟨h, _⟩ := h; exact h.trans (congrArg Value.bool (show (!t21) = true from congrArg Bool.not (Bool.eq_false_iff.mpr q24)))) rfl rfl)) (op_offi 6 4 49 false rfl rfl (by kernel_rfl) (by kernel_rfl) rfl (fun v R h => by rw [hs20_4] at h; obtain ⟨h, _⟩ := h; exact h.trans (congrArg Value.bool (show (!t21) = true from congrArg Bool.not (Bool.eq_false_iff.mpr q24)))) rfl rfl)) (op_offi 7 4 49 false rfl rfl (by kernel_rfl) (by kernel_rfl) rfl (fun v R h => by rw [hs20_4] at h; obtain ⟨h, _⟩ := h; exact h.trans (congrArg Value.bool (show (!t21) = true from congrArg Bool.not (Bool.eq_false_iff.mpr q24)))) rfl rfl)) (op_offi 8 4 49 false rfl rfl (by kernel_rfl) (by kernel_rfl) rfl (fun v R h => by rw [hs20_4] at h; obtain ⟨h, _⟩ := h; exact h.trans (congrArg Value.bool (show (!t21) = true from congrArg Bool.not (Bool.eq_false_iff.mpr q24)))) rfl rfl)) (op_offi 9 4 49 false rfl rfl (by kernel_rfl) (by kernel_rfl) rfl (fun v R h => by rw [hs20_4] at h; obtain ⟨h, _⟩ := h; exact h.trans (congrArg Value.bool (show (!t21) = true from congrArg Bool.not (Bool.eq_false_iff.mpr q24)))) rfl rfl)) (op_offi 10 4 49 false rfl rfl (by kernel_rfl) (by kernel_rfl) rfl (fun v R h => by rw [hs20_4] at h; obtain ⟨h, _⟩ := h; exact h.trans (congrArg Value.bool (show (!t21) = true from congrArg Bool.not (Bool.eq_false_iff.mpr q24)))) rfl rfl)) (op_offi 11 4 49 false rfl rfl (by kernel_rfl) (by kernel_rfl) rfl (fun v R h => by rw [hs20_4] at h; obtain ⟨h, _⟩ := h; exact h.trans (congrArg Value.bool (show (!t21) = true from congrArg Bool.not (Bool.eq_false_iff.mpr q24)))) rfl rfl)) (op_offi 12 4 49 false rfl rfl (by kernel_rfl) (by kernel_rfl) rfl (fun v R h => by rw [hs20_4] at h; obtain ⟨h, _⟩ := h; exact h.trans (congrArg Value.bool (show (!t21) = true from congrArg Bool.not (Bool.eq_false_iff.mpr q24)))) rfl rfl)) (op_offi 13 4 49 false rfl rfl (by kernel_rfl) (by kernel_rfl) rfl (fun v R h => by rw [hs20_4] at h; obtain ⟨h, _⟩ := h; exact h.trans (congrArg Value.bool (show (!t21) = true from congrArg Bool.not (Bool.eq_false_iff.mpr q24)))) rfl rfl)) ?_
          intro vs Rs f' S' hp hf hx hS hR
          obtain ⟨x23, hv2, hR2⟩ := (spe rfl hs20_2 (hp 2 (by kernel_rfl)))
          obtain ⟨hv4, hR4⟩ := (spe rfl hs20_4 (hp 4 (by kernel_rfl)))
          obtain ⟨hv6, hR6⟩ := (spe rfl rfl (hp 6 (by kernel_rfl)) : spu _ _)
          obtain ⟨hv11, hR11⟩ := (spe rfl rfl (hp 11 (by kernel_rfl)) : spu _ _)
          obtain ⟨hv13, hR13⟩ := (spe rfl rfl (hp 13 (by kernel_rfl)) : spu _ _)
          refine ls_fr (F := upd (upd (upd (upd f' 0 (.slice A0_1 l0_1.length c0_1)) 3 (.pointer (some ⟨g1, 0, none⟩))) 5 (.slice x4.1 t2.length x4.2)) 49 (.bool (!t21))) (fr_next (fr_next (fr_next (fr_next (rfl) ((hx 0 (by kernel_rfl)).trans (by kernel_rfl : (_ : Value) = .slice A0_1 l0_1.length c0_1))) ((hx 3 (by kernel_rfl)).trans (by kernel_rfl : (_ : Value) = .pointer (some ⟨g1, 0, none⟩)))) ((hx 5 (by kernel_rfl)).trans (by kernel_rfl : (_ : Value) = .slice x4.1 t2.length x4.2))) ((hf 4 49 (by kernel_rfl) rfl).trans hv4)) ?_
          refine ls_sub (sput (sput s0 0 (some (Ck.var 24 g1 (([Value.int .i64 a1.1] ++ [Value.int .i64 a1.2]))))) 1 (some (Ck.sl T24 x4.1 x4.2 t2))) (sub_put ((hS 1 (by kernel_rfl)).trans (by exact rfl)) (sub_put ((hS 0 (by kernel_rfl)).trans (by exact rfl)) (sub_nil _))) ?_
          refine ls_know (c := true) (congrArg Bool.not (Bool.eq_false_iff.mpr q24)) 49 (by kernel_rfl) ?_
          refine ls_off (j := 4) (t := 49) (b := false) (c := true) rfl rfl (by kernel_rfl) (by kernel_rfl) rfl rfl (by kernel_rfl) ?_
          refine ls_off (j := 4) (t := 49) (b := false) (c := true) rfl rfl (by kernel_rfl) (by kernel_rfl) rfl rfl (by kernel_rfl) ?_
          refine ls_val (v := .bool true) rfl rfl (by kernel_rfl) (fun w => by kernel_rfl) ?_
          refine ls_end ?_
          refine qn_then ?_
          refine cs_true (by kernel_rfl) ?_
          refine cs_seq ?_
          refine cs_region (l := [_]) ?_
          refine ls_val (v := .bool false) rfl rfl (by kernel_rfl) (fun w => by kernel_rfl) ?_
          refine ls_end ?_
          refine qn_then ?_
          refine cs_ret' ?_
          refine qr_then ?_
          obtain rfl := Option.some.inj H
          refine qr_res (rs := [_]) rfl (fun w' hs => ⟨[.bool false], (res_tmp (by kernel_rfl) (.nil)), (), rfl, hs.pick (ts := []) (cs := []) trivial (by decide)⟩)
      · rintro f S ⟨fr3, rfl, rfl, H⟩
        replace H : ((extent_Remove.f k t2 a1).bind fun t5 => (if (t5.length : Int) = (l0_1.length : Int) then (shadowboxlaw09_ExtentBack.jo4 k l0_1 t5) else some false)) = some r := H
        refine cs_seq ?_
        refine cs_region (l := [_, _, _, _]) ?_
        refine ls_val (v := .slice x4.1 t2.length x4.2) rfl rfl (by kernel_rfl) (fun w => by kernel_rfl) ?_
        refine ls_loadagg (a := ⟨g1, 0, none⟩) (sub := ([Value.int .i64 a1.1] ++ [Value.int .i64 a1.2])) rfl rfl (by kernel_rfl) rfl (by kernel_rfl) (by kernel_rfl) (by kernel_rfl) (len_app (len1 _) (len1 _)) (fun w hs => (hs.vars (k := 0) (by exact rfl) (Sub4.all _))) ?_
        obtain ⟨t5, hc6, H⟩ := bind_some H
        refine ls_callb (fid := 15) (vals := #[.slice x4.1 t2.length x4.2, .agg ⟨([Value.int .i64 a1.1] ++ [Value.int .i64 a1.2])⟩]) (X := (Option Addr × Nat)) (fun x => .slice x.1 t5.length x.2) (fun x => stl [Ck.sl T24 x.1 x.2 t5]) [] [1] [] [Ck.sl T24 x4.1 x4.2 t2] 2 rfl rfl (by kernel_rfl) (fun w => by kernel_rfl) trivial ⟨by exact rfl, trivial⟩ (by decide) (fun w hs hb => extent_Remove.calls k x4.1 x4.2 t2 a1 t5 (lent b w [] [Ck.sl T24 x4.1 x4.2 t2]) hb (hs.ror (k := 1) (by exact rfl) (.head _)) (hs.cap (k := 1) (by exact rfl)) hc6) ?_
        intro x7
        refine ls_val (v := .slice x7.1 t5.length x7.2) rfl rfl (by kernel_rfl) (fun w => by kernel_rfl) ?_
        refine ls_end ?_
        refine qn_then ?_
        refine cs_cut (fun f S => ∃ (fR : Fr), f = upd (upd fR 0 (.slice A0_1 l0_1.length c0_1)) 6 (.slice x7.1 t5.length x7.2) ∧ S = sput s0 2 (some (Ck.sl T24 x7.1 x7.2 t5)) ∧ shadowboxlaw09_ExtentBack.jo4 k l0_1 t5 = some r) ?_ ?_
        · skip
          refine cs_seq ?_
          refine cs_region (l := [_, _, _, _, _]) ?_
          refine ls_val (v := .slice x7.1 t5.length x7.2) rfl rfl (by kernel_rfl) (fun w => by kernel_rfl) ?_
          refine ls_val (v := .int .i64 (t5.length : Int)) rfl rfl (by kernel_rfl) (fun w => by kernel_rfl) ?_
          refine ls_val (v := .slice A0_1 l0_1.length c0_1) rfl rfl (by kernel_rfl) (fun w => by kernel_rfl) ?_
          refine ls_val (v := .int .i64 (l0_1.length : Int)) rfl rfl (by kernel_rfl) (fun w => by kernel_rfl) ?_
          refine ls_val (v := .bool (!decide ((t5.length : Int) = (l0_1.length : Int)))) rfl rfl (by kernel_rfl) (fun w => by kernel_rfl) ?_
          refine ls_end ?_
          refine qn_then ?_
          by_cases q18 : (t5.length : Int) = (l0_1.length : Int)
          · replace H := ite_t q18 H
            refine cs_know (c := false) (congrArg Bool.not (dec_t q18)) 69 (by kernel_rfl) ?_
            refine cs_false (by kernel_rfl) ?_
            refine cs_skip' ?_
            refine qn_meet (sput s0 2 (some (Ck.sl T24 x7.1 x7.2 t5))) ⟨_, fr_next (fr_next (rfl) (by kernel_rfl)) (by kernel_rfl), rfl, H⟩ (sub_put (by exact rfl) (sub_nil _))
          · replace H := ite_f q18 H
            refine cs_know (c := true) (congrArg Bool.not (dec_f q18)) 69 (by kernel_rfl) ?_
            refine cs_true (by kernel_rfl) ?_
            refine cs_seq ?_
            refine cs_region (l := [_]) ?_
            refine ls_val (v := .bool false) rfl rfl (by kernel_rfl) (fun w => by kernel_rfl) ?_
            refine ls_end ?_
            refine qn_then ?_
            refine cs_ret' ?_
            refine qr_then ?_
            obtain rfl := Option.some.inj H
            refine qr_res (rs := [_]) rfl (fun w' hs => ⟨[.bool false], (res_tmp (by kernel_rfl) (.nil)), (), rfl, hs.pick (ts := []) (cs := []) trivial (by decide)⟩)
        · rintro f S ⟨fr4, rfl, rfl, H⟩
          replace H : (shadowboxlaw09_ExtentBack.lo5 l0_1 t5 k (0 : Int)) = some r := H
          refine cs_seq ?_
          refine cs_seq ?_
          refine cs_region (l := [_]) ?_
          refine ls_val (v := .int .i64 (0 : Int)) rfl rfl (by kernel_rfl) (fun w => by kernel_rfl) ?_
          refine ls_end ?_
          refine qn_then ?_
          refine cs_block ?_
          refine cs_sub (sput s0 2 (some (Ck.sl T24 x7.1 x7.2 t5))) (sub_put (by exact rfl) (sub_nil _)) ?_
          refine cs_loop (fun kk f S => ∃ (fR : Fr) (x7_5 : Int), f = upd (upd (upd fR 0 (.slice A0_1 l0_1.length c0_1)) 6 (.slice x7.1 t5.length x7.2)) 7 (.int .i64 x7_5) ∧ S = sput s0 2 (some (Ck.sl T24 x7.1 x7.2 t5)) ∧ shadowboxlaw09_ExtentBack.lo5 l0_1 t5 kk x7_5 = some r) k ?_ ?_ ?_
          · exact ⟨_, (0 : Int), fr_next (fr_next (fr_next (rfl) (by kernel_rfl)) (by kernel_rfl)) (by kernel_rfl), rfl, H⟩
          · rintro f S ⟨fr5, x7_5, rfl, rfl, H⟩; cases H
          · rintro k5 f S ⟨fr5, x7_5, rfl, rfl, H⟩
            replace H : ((if x7_5 < (l0_1.length : Int) then (if 0 ≤ x7_5 then (if x7_5 < (t5.length : Int) then (if ((((t5).getD (x7_5).toNat ((0 : Int), (0 : Int))).1 == ((l0_1).getD (x7_5).toNat ((0 : Int), (0 : Int))).1) && (((t5).getD (x7_5).toNat ((0 : Int), (0 : Int))).2 == ((l0_1).getD (x7_5).toNat ((0 : Int), (0 : Int))).2)) = true then (shadowboxlaw09_ExtentBack.lo5 l0_1 t5 k5) (IntKind.wrap .i64 (x7_5 + (1 : Int))) else some false) else none) else none) else some true)) = some r := H
            refine cs_seq ?_
            refine cs_seq ?_
            refine cs_region (l := [_, _, _, _]) ?_
            refine ls_val (v := .int .i64 x7_5) rfl rfl (by kernel_rfl) (fun w => by kernel_rfl) ?_
            refine ls_val (v := .slice A0_1 l0_1.length c0_1) rfl rfl (by kernel_rfl) (fun w => by kernel_rfl) ?_
            refine ls_val (v := .int .i64 (l0_1.length : Int)) rfl rfl (by kernel_rfl) (fun w => by kernel_rfl) ?_
            refine ls_val (v := .bool (decide (x7_5 < (l0_1.length : Int)))) rfl rfl (by kernel_rfl) (fun w => by kernel_rfl) ?_
            refine ls_end ?_
            refine qn_then ?_
            by_cases q8 : x7_5 < (l0_1.length : Int)
            · replace H := ite_t q8 H
              refine cs_know (c := true) (dec_t q8) 73 (by kernel_rfl) ?_
              refine cs_true (by kernel_rfl) ?_
              refine cs_skip' ?_
              refine qn_then ?_
              refine cs_seq ?_
              refine cs_block ?_
              refine cs_seq ?_
              obtain ⟨s10_0, hs10_0⟩ : ∃ z : Value → Sto → Prop, z = (fun v R => v = .slice x7.1 t5.length x7.2 ∧ R = s0) := ⟨_, rfl⟩
              refine have_op (l := [_, _, _, _, _, _, _, _, _]) shadowboxlaw09_ExtentBack.tab8 3 0 (fun sp => sp 0 = s10_0) (fun sp on hA hon => ?_) (fun ops10_0 => ?_)
              · refine ⟨fun o ho vs Rs f' S' w hp hf hx hS hR hs => ?_⟩
                obtain rfl := Option.some.inj ho
                rw [hA, hs10_0]
                refine And.intro (fun a ha => (want_none rfl a ha).trans hon.symm) (And.intro (fun _ => ?_) (fun h => by rw [hon] at h; cases h))
                have hF := fr_next (rfl) ((hx 6 (by kernel_rfl)).trans (by kernel_rfl : (_ : Value) = .slice x7.1 t5.length x7.2))
                refine ls_fr hF ?_
                refine ls_val (v := .slice x7.1 t5.length x7.2) rfl rfl (by kernel_rfl) (fun w => by kernel_rfl) ?_
                exact ls_fin s0 (.slice x7.1 t5.length x7.2) (congrArg (fun z => upd z 76 _) hF.symm) ⟨rfl, rfl⟩ (sub_nil _)
              obtain ⟨s10_1, hs10_1⟩ : ∃ z : Value → Sto → Prop, z = (fun v R => v = .int .i64 x7_5 ∧ R = s0) := ⟨_, rfl⟩
              refine have_op (l := [_, _, _, _, _, _, _, _, _]) shadowboxlaw09_ExtentBack.tab8 3 1 (fun sp => sp 1 = s10_1) (fun sp on hA hon => ?_) (fun ops10_1 => ?_)
              · refine ⟨fun o ho vs Rs f' S' w hp hf hx hS hR hs => ?_⟩
                obtain rfl := Option.some.inj ho
                rw [hA, hs10_1]
                refine And.intro (fun a ha => (want_none rfl a ha).trans hon.symm) (And.intro (fun _ => ?_) (fun h => by rw [hon] at h; cases h))
                have hF := fr_next (rfl) ((hx 7 (by kernel_rfl)).trans (by kernel_rfl : (_ : Value) = .int .i64 x7_5))
                refine ls_fr hF ?_
                refine ls_val (v := .int .i64 x7_5) rfl rfl (by kernel_rfl) (fun w => by kernel_rfl) ?_
                exact ls_fin s0 (.int .i64 x7_5) (congrArg (fun z => upd z 77 _) hF.symm) ⟨rfl, rfl⟩ (sub_nil _)
              obtain ⟨q11, H⟩ := ite_need H
              obtain ⟨q12, H⟩ := ite_need H
              refine cs_at (T := T24) (tk := 2) (i := x7_5) (by exact rfl) q11 q12 ?_
              intro ad13 hA14
              obtain ⟨s10_2, hs10_2⟩ : ∃ z : Value → Sto → Prop, z = (fun v R => v = .pointer (some (ad13.add ((x7_5).toNat * 2))) ∧ R = s0) := ⟨_, rfl⟩
              refine have_op (l := [_, _, _, _, _, _, _, _, _]) shadowboxlaw09_ExtentBack.tab8 3 2 (fun sp => sp 2 = s10_2 ∧ sp 0 = s10_0 ∧ sp 1 = s10_1) (fun sp on hA hon => ?_) (fun ops10_2 => ?_)
              · refine ⟨fun o ho vs Rs f' S' w hp hf hx hS hR hs => ?_⟩
                obtain rfl := Option.some.inj ho
                obtain ⟨hv0, hR0⟩ := (spe hA.2.1 hs10_0 (hp 0 (by kernel_rfl)))
                obtain ⟨hv1, hR1⟩ := (spe hA.2.2 hs10_1 (hp 1 (by kernel_rfl)))
                rw [hA.1, hs10_2]
                refine And.intro (fun a ha => (want_none rfl a ha).trans hon.symm) (And.intro (fun _ => ?_) (fun h => by rw [hon] at h; cases h))
                have hF := fr_next (fr_next (rfl) ((hf 0 76 (by kernel_rfl) rfl).trans hv0)) ((hf 1 77 (by kernel_rfl) rfl).trans hv1)
                refine ls_fr hF ?_
                refine ls_idxv T24 (A := x7.1) (c := x7.2) (l := t5) (k := .i64) (i := x7_5) (z := 2) (ad := ad13) rfl rfl (by kernel_rfl) hA14 rfl (by kernel_rfl) (by kernel_rfl) (by kernel_rfl) (by kernel_rfl) q11 q12 ?_
                exact ls_fin s0 (.pointer (some (ad13.add ((x7_5).toNat * 2)))) (congrArg (fun z => upd z 78 _) hF.symm) ⟨rfl, rfl⟩ (sub_nil _)
              obtain ⟨s10_3, hs10_3⟩ : ∃ z : Value → Sto → Prop, z = (fun v R => v = .agg ⟨([Value.int .i64 (((t5).getD (x7_5).toNat ((0 : Int), (0 : Int))).1)] ++ [Value.int .i64 (((t5).getD (x7_5).toNat ((0 : Int), (0 : Int))).2)])⟩ ∧ R = s0) := ⟨_, rfl⟩
              refine have_op (l := [_, _, _, _, _, _, _, _, _]) shadowboxlaw09_ExtentBack.tab8 3 3 (fun sp => sp 3 = s10_3 ∧ sp 2 = s10_2) (fun sp on hA hon => ?_) (fun ops10_3 => ?_)
              · refine ⟨fun o ho vs Rs f' S' w hp hf hx hS hR hs => ?_⟩
                obtain rfl := Option.some.inj ho
                obtain ⟨hv2, hR2⟩ := (spe hA.2 hs10_2 (hp 2 (by kernel_rfl)))
                rw [hA.1, hs10_3]
                refine And.intro (fun a ha => (want_none rfl a ha).trans hon.symm) (And.intro (fun _ => ?_) (fun h => by rw [hon] at h; cases h))
                have hF := fr_next (rfl) ((hf 2 78 (by kernel_rfl) rfl).trans hv2)
                refine ls_fr hF ?_
                refine ls_loadagg (a := (ad13.add ((x7_5).toNat * 2))) (sub := ([Value.int .i64 (((t5).getD (x7_5).toNat ((0 : Int), (0 : Int))).1)] ++ [Value.int .i64 (((t5).getD (x7_5).toNat ((0 : Int), (0 : Int))).2)])) rfl rfl (by kernel_rfl) rfl (by kernel_rfl) (by kernel_rfl) (by kernel_rfl) (len_app (len1 _) (len1 _)) (fun w1 hs1 => (Rd.step (hs.rd (k := 2) ((hS 2 (by kernel_rfl)).trans (by exact rfl))) hs1.below.bw).part hA14 (em_sub T24 t5 (i := (x7_5).toNat) (by have h0 : (0 : Int) ≤ x7_5 := q11; have h1 : x7_5 < (t5.length : Int) := q12; omega))) ?_
                exact ls_fin s0 (.agg ⟨([Value.int .i64 (((t5).getD (x7_5).toNat ((0 : Int), (0 : Int))).1)] ++ [Value.int .i64 (((t5).getD (x7_5).toNat ((0 : Int), (0 : Int))).2)])⟩) (congrArg (fun z => upd z 79 _) hF.symm) ⟨rfl, rfl⟩ (sub_nil _)
              obtain ⟨s10_4, hs10_4⟩ : ∃ z : Value → Sto → Prop, z = (fun v R => v = .slice A0_1 l0_1.length c0_1 ∧ R = s0) := ⟨_, rfl⟩
              refine have_op (l := [_, _, _, _, _, _, _, _, _]) shadowboxlaw09_ExtentBack.tab8 3 4 (fun sp => sp 4 = s10_4) (fun sp on hA hon => ?_) (fun ops10_4 => ?_)
              · refine ⟨fun o ho vs Rs f' S' w hp hf hx hS hR hs => ?_⟩
                obtain rfl := Option.some.inj ho
                rw [hA, hs10_4]
                refine And.intro (fun a ha => (want_none rfl a ha).trans hon.symm) (And.intro (fun _ => ?_) (fun h => by rw [hon] at h; cases h))
                have hF := fr_next (rfl) ((hx 0 (by kernel_rfl)).trans (by kernel_rfl : (_ : Value) = .slice A0_1 l0_1.length c0_1))
                refine ls_fr hF ?_
                refine ls_val (v := .slice A0_1 l0_1.length c0_1) rfl rfl (by kernel_rfl) (fun w => by kernel_rfl) ?_
                exact ls_fin s0 (.slice A0_1 l0_1.length c0_1) (congrArg (fun z => upd z 80 _) hF.symm) ⟨rfl, rfl⟩ (sub_nil _)
              obtain ⟨s10_5, hs10_5⟩ : ∃ z : Value → Sto → Prop, z = (fun v R => v = .int .i64 x7_5 ∧ R = s0) := ⟨_, rfl⟩
              refine have_op (l := [_, _, _, _, _, _, _, _, _]) shadowboxlaw09_ExtentBack.tab8 3 5 (fun sp => sp 5 = s10_5) (fun sp on hA hon => ?_) (fun ops10_5 => ?_)
              · refine ⟨fun o ho vs Rs f' S' w hp hf hx hS hR hs => ?_⟩
                obtain rfl := Option.some.inj ho
                rw [hA, hs10_5]
                refine And.intro (fun a ha => (want_none rfl a ha).trans hon.symm) (And.intro (fun _ => ?_) (fun h => by rw [hon] at h; cases h))
                have hF := fr_next (rfl) ((hx 7 (by kernel_rfl)).trans (by kernel_rfl : (_ : Value) = .int .i64 x7_5))
                refine ls_fr hF ?_
                refine ls_val (v := .int .i64 x7_5) rfl rfl (by kernel_rfl) (fun w => by kernel_rfl) ?_
                exact ls_fin s0 (.int .i64 x7_5) (congrArg (fun z => upd z 81 _) hF.symm) ⟨rfl, rfl⟩ (sub_nil _)
              obtain ⟨ad15, hA16⟩ := ido_at (T := T24) (l := l0_1) (i := x7_5) R0_1 q11 q8
              obtain ⟨s10_6, hs10_6⟩ : ∃ z : Value → Sto → Prop, z = (fun v R => v = .pointer (some (ad15.add ((x7_5).toNat * 2))) ∧ R = s0) := ⟨_, rfl⟩
              refine have_op (l := [_, _, _, _, _, _, _, _, _]) shadowboxlaw09_ExtentBack.tab8 3 6 (fun sp => sp 6 = s10_6 ∧ sp 4 = s10_4 ∧ sp 5 = s10_5) (fun sp on hA hon => ?_) (fun ops10_6 => ?_)
              · refine ⟨fun o ho vs Rs f' S' w hp hf hx hS hR hs => ?_⟩
                obtain rfl := Option.some.inj ho
                obtain ⟨hv4, hR4⟩ := (spe hA.2.1 hs10_4 (hp 4 (by kernel_rfl)))
                obtain ⟨hv5, hR5⟩ := (spe hA.2.2 hs10_5 (hp 5 (by kernel_rfl)))
                rw [hA.1, hs10_6]
                refine And.intro (fun a ha => (want_none rfl a ha).trans hon.symm) (And.intro (fun _ => ?_) (fun h => by rw [hon] at h; cases h))
                have hF := fr_next (fr_next (rfl) ((hf 4 80 (by kernel_rfl) rfl).trans hv4)) ((hf 5 81 (by kernel_rfl) rfl).trans hv5)
                refine ls_fr hF ?_
                refine ls_idxv T24 (A := A0_1) (c := c0_1) (l := l0_1) (k := .i64) (i := x7_5) (z := 2) (ad := ad15) rfl rfl (by kernel_rfl) hA16 rfl (by kernel_rfl) (by kernel_rfl) (by kernel_rfl) (by kernel_rfl) q11 q8 ?_
                exact ls_fin s0 (.pointer (some (ad15.add ((x7_5).toNat * 2)))) (congrArg (fun z => upd z 82 _) hF.symm) ⟨rfl, rfl⟩ (sub_nil _)
              obtain ⟨s10_7, hs10_7⟩ : ∃ z : Value → Sto → Prop, z = (fun v R => v = .agg ⟨([Value.int .i64 (((l0_1).getD (x7_5).toNat ((0 : Int), (0 : Int))).1)] ++ [Value.int .i64 (((l0_1).getD (x7_5).toNat ((0 : Int), (0 : Int))).2)])⟩ ∧ R = s0) := ⟨_, rfl⟩
              refine have_op (l := [_, _, _, _, _, _, _, _, _]) shadowboxlaw09_ExtentBack.tab8 3 7 (fun sp => sp 7 = s10_7 ∧ sp 6 = s10_6) (fun sp on hA hon => ?_) (fun ops10_7 => ?_)
              · refine ⟨fun o ho vs Rs f' S' w hp hf hx hS hR hs => ?_⟩
                obtain rfl := Option.some.inj ho
                obtain ⟨hv6, hR6⟩ := (spe hA.2 hs10_6 (hp 6 (by kernel_rfl)))
                rw [hA.1, hs10_7]
                refine And.intro (fun a ha => (want_none rfl a ha).trans hon.symm) (And.intro (fun _ => ?_) (fun h => by rw [hon] at h; cases h))
                have hF := fr_next (rfl) ((hf 6 82 (by kernel_rfl) rfl).trans hv6)
                refine ls_fr hF ?_
                refine ls_loadagg (a := (ad15.add ((x7_5).toNat * 2))) (sub := ([Value.int .i64 (((l0_1).getD (x7_5).toNat ((0 : Int), (0 : Int))).1)] ++ [Value.int .i64 (((l0_1).getD (x7_5).toNat ((0 : Int), (0 : Int))).2)])) rfl rfl (by kernel_rfl) rfl (by kernel_rfl) (by kernel_rfl) (by kernel_rfl) (len_app (len1 _) (len1 _)) (fun w1 hs1 => (Rd.step (hs.old R0_1) hs1.below.bw).part hA16 (em_sub T24 l0_1 (i := (x7_5).toNat) (by have h0 : (0 : Int) ≤ x7_5 := q11; have h1 : x7_5 < (l0_1.length : Int) := q8; omega))) ?_
                exact ls_fin s0 (.agg ⟨([Value.int .i64 (((l0_1).getD (x7_5).toNat ((0 : Int), (0 : Int))).1)] ++ [Value.int .i64 (((l0_1).getD (x7_5).toNat ((0 : Int), (0 : Int))).2)])⟩) (congrArg (fun z => upd z 83 _) hF.symm) ⟨rfl, rfl⟩ (sub_nil _)
              refine cs_draw shadowboxlaw09_ExtentBack.tab8 8 3 (spl [s10_0, s10_1, s10_2, s10_3, s10_4, s10_5, s10_6, s10_7]) (onl [true, true, true, true, true, true, true, true]) (by kernel_rfl) (by kernel_rfl) (by kernel_rfl) (by kernel_rfl) (rs := [_]) rfl (by kernel_rfl) (by kernel_rfl) (all_snoc (all_snoc (all_snoc (all_snoc (all_snoc (all_snoc (all_snoc (all_snoc (all_nil) (ops10_0 _ _ rfl rfl)) (ops10_1 _ _ rfl rfl)) (ops10_2 _ _ ⟨rfl, rfl, rfl⟩ rfl)) (ops10_3 _ _ ⟨rfl, rfl⟩ rfl)) (ops10_4 _ _ rfl rfl)) (ops10_5 _ _ rfl rfl)) (ops10_6 _ _ ⟨rfl, rfl, rfl⟩ rfl)) (ops10_7 _ _ ⟨rfl, rfl⟩ rfl)) ?_
              intro vs Rs f' S' hp hf hx hS hR
              obtain ⟨hv3, hR3⟩ := (spe rfl hs10_3 (hp 3 (by kernel_rfl)))
              obtain ⟨hv7, hR7⟩ := (spe rfl hs10_7 (hp 7 (by kernel_rfl)))
              refine ls_fr (F := upd (upd (upd (upd (upd f' 0 (.slice A0_1 l0_1.length c0_1)) 6 (.slice x7.1 t5.length x7.2)) 7 (.int .i64 x7_5)) 79 (.agg ⟨([Value.int .i64 (((t5).getD (x7_5).toNat ((0 : Int), (0 : Int))).1)] ++ [Value.int .i64 (((t5).getD (x7_5).toNat ((0 : Int), (0 : Int))).2)])⟩)) 83 (.agg ⟨([Value.int .i64 (((l0_1).getD (x7_5).toNat ((0 : Int), (0 : Int))).1)] ++ [Value.int .i64 (((l0_1).getD (x7_5).toNat ((0 : Int), (0 : Int))).2)])⟩)) (fr_next (fr_next (fr_next (fr_next (fr_next (rfl) ((hx 0 (by kernel_rfl)).trans (by kernel_rfl : (_ : Value) = .slice A0_1 l0_1.length c0_1))) ((hx 6 (by kernel_rfl)).trans (by kernel_rfl : (_ : Value) = .slice x7.1 t5.length x7.2))) ((hx 7 (by kernel_rfl)).trans (by kernel_rfl : (_ : Value) = .int .i64 x7_5))) ((hf 3 79 (by kernel_rfl) rfl).trans hv3)) ((hf 7 83 (by kernel_rfl) rfl).trans hv7)) ?_
              refine ls_sub (sput s0 2 (some (Ck.sl T24 x7.1 x7.2 t5))) (sub_put ((hS 2 (by kernel_rfl)).trans (by exact rfl)) (sub_nil _)) ?_
              refine ls_neq (xs := ([Value.int .i64 (((t5).getD (x7_5).toNat ((0 : Int), (0 : Int))).1)] ++ [Value.int .i64 (((t5).getD (x7_5).toNat ((0 : Int), (0 : Int))).2)])) (ys := ([Value.int .i64 (((l0_1).getD (x7_5).toNat ((0 : Int), (0 : Int))).1)] ++ [Value.int .i64 (((l0_1).getD (x7_5).toNat ((0 : Int), (0 : Int))).2)])) (r := ((((t5).getD (x7_5).toNat ((0 : Int), (0 : Int))).1 == ((l0_1).getD (x7_5).toNat ((0 : Int), (0 : Int))).1) && (((t5).getD (x7_5).toNat ((0 : Int), (0 : Int))).2 == ((l0_1).getD (x7_5).toNat ((0 : Int), (0 : Int))).2))) rfl rfl (by kernel_rfl) rfl (by kernel_rfl) (by kernel_rfl) (by kernel_rfl) (eq_st (by kernel_rfl) (by kernel_rfl) (eqf_cons (ft := 3) (fo := 0) (by kernel_rfl) (part_one (by kernel_rfl) (Sub4.trans (Sub4.all _) (Sub4.head _ _))) (part_one (by kernel_rfl) (Sub4.trans (Sub4.all _) (Sub4.head _ _))) (eq_int (by kernel_rfl) _ _ _) (eqf_last (ft := 3) (fo := 1) (by kernel_rfl) (part_one (by kernel_rfl) (Sub4.trans (Sub4.all _) (Sub4.skip (n := 1) (len1 _) (Sub4.all _)))) (part_one (by kernel_rfl) (Sub4.trans (Sub4.all _) (Sub4.skip (n := 1) (len1 _) (Sub4.all _)))) (eq_int (by kernel_rfl) _ _ _) (by kernel_rfl)))) ?_
              refine ls_end ?_
              refine qn_then ?_
              by_cases q17 : ((((t5).getD (x7_5).toNat ((0 : Int), (0 : Int))).1 == ((l0_1).getD (x7_5).toNat ((0 : Int), (0 : Int))).1) && (((t5).getD (x7_5).toNat ((0 : Int), (0 : Int))).2 == ((l0_1).getD (x7_5).toNat ((0 : Int), (0 : Int))).2)) = true
              · replace H := ite_t q17 H
                refine cs_know (c := false) (congrArg Bool.not (q17)) 84 (by kernel_rfl) ?_
                refine cs_false (by kernel_rfl) ?_
                refine cs_skip' ?_
                refine qn_block ?_
                refine qn_then ?_
                refine cs_region (l := [_, _, _]) ?_
                refine ls_val (v := .int .i64 x7_5) rfl rfl (by kernel_rfl) (fun w => by kernel_rfl) ?_
                refine ls_val (v := .int .i64 (IntKind.wrap .i64 (x7_5 + (1 : Int)))) rfl rfl (by kernel_rfl) (fun w => by kernel_rfl) ?_
                refine ls_val (v := .int .i64 (IntKind.wrap .i64 (x7_5 + (1 : Int)))) rfl rfl (by kernel_rfl) (fun w => by kernel_rfl) ?_
                refine ls_end ?_
                refine qn_again k5 (sput s0 2 (some (Ck.sl T24 x7.1 x7.2 t5))) (Nat.le_refl _) ⟨_, (IntKind.wrap .i64 (x7_5 + (1 : Int))), fr_next (fr_next (fr_next (rfl) (by kernel_rfl)) (by kernel_rfl)) (by kernel_rfl), rfl, H⟩ (sub_put (by exact rfl) (sub_nil _))
              · replace H := ite_f q17 H
                refine cs_know (c := true) (congrArg Bool.not (Bool.eq_false_iff.mpr q17)) 84 (by kernel_rfl) ?_
                refine cs_true (by kernel_rfl) ?_
                refine cs_seq ?_
                refine cs_region (l := [_]) ?_
                refine ls_val (v := .bool false) rfl rfl (by kernel_rfl) (fun w => by kernel_rfl) ?_
                refine ls_end ?_
                refine qn_then ?_
                refine cs_ret' ?_
                refine qr_block ?_
                refine qr_then ?_
                refine qr_then ?_
                refine qr_block ?_
                refine qr_then ?_
                obtain rfl := Option.some.inj H
                refine qr_res (rs := [_]) rfl (fun w' hs => ⟨[.bool false], (res_tmp (by kernel_rfl) (.nil)), (), rfl, hs.pick (ts := []) (cs := []) trivial (by decide)⟩)
            · replace H := ite_f q8 H
              refine cs_know (c := false) (dec_f q8) 73 (by kernel_rfl) ?_
              refine cs_false (by kernel_rfl) ?_
              refine cs_exit' ?_
              refine qx_then ?_
              refine qx_then ?_
              refine qx_same ?_
              refine qn_then ?_
              refine cs_seq ?_
              refine cs_region (l := [_]) ?_
              refine ls_val (v := .bool true) rfl rfl (by kernel_rfl) (fun w => by kernel_rfl) ?_
              refine ls_end ?_
              refine qn_then ?_
              refine cs_ret' ?_
              obtain rfl := Option.some.inj H
              refine qr_res (rs := [_]) rfl (fun w' hs => ⟨[.bool true], (res_tmp (by kernel_rfl) (.nil)), (), rfl, hs.pick (ts := []) (cs := []) trivial (by decide)⟩)

end Go.Proofs.Ytiikfaefeonfhaa.G
