/- Printed by a program of this session (sz.py): plain functions, and walks that show that the code comes to them; no condition. -/
import Derived.Test.YtiikfaefeonfhaaProg
import Derived.Test.YtiikfaefeonfhaaTy
import Derived.Test.YtiikfaefeonfhaaG0
import Derived.Test.YtiikfaefeonfhaaG1
import Derived.Test.YtiikfaefeonfhaaG2
set_option linter.unusedVariables false
set_option linter.unusedSimpArgs false
namespace Go.Proofs.Ytiikfaefeonfhaa.G
open Go Go.RowKit Go.Proofs.Ytiikfaefeonfhaa.Sx

/-! ### shadowbox/shadowboxlaw10.AllocMarks: function 8 -/
def shadowboxlaw10_AllocMarks.tab136 : List (List Nat) := [[], [], [0, 1], [0, 1, 2], [], [], [4, 5], [4, 5, 6], [0, 1, 2, 3, 4, 5, 6, 7]]
def shadowboxlaw10_AllocMarks.lo4 (t130 : (List (Int × Int))) (t133 : (List (Int × Int))) : Nat → Int → Option (Bool)
  | 0, _ => none
  | k4 + 1, x15_4 => (if x15_4 < (t130.length : Int) then (if 0 ≤ x15_4 then (if x15_4 < (t133.length : Int) then (if ((((t130).getD (x15_4).toNat ((0 : Int), (0 : Int))).1 == ((t133).getD (x15_4).toNat ((0 : Int), (0 : Int))).1) && (((t130).getD (x15_4).toNat ((0 : Int), (0 : Int))).2 == ((t133).getD (x15_4).toNat ((0 : Int), (0 : Int))).2)) = true then (shadowboxlaw10_AllocMarks.lo4 t130 t133 k4) (IntKind.wrap .i64 (x15_4 + (1 : Int))) else some false) else none) else none) else some true)
def shadowboxlaw10_AllocMarks.jo3 (k : Nat) (t130 : (List (Int × Int))) (t133 : (List (Int × Int))) : Option (Bool) := shadowboxlaw10_AllocMarks.lo4 t130 t133 k (0 : Int)
def shadowboxlaw10_AllocMarks.jo2 (k : Nat) (l1 : List Int) (t36 : ((Int × Int) × Bool × Int × (List (Int × Int)) × Unit × (List (Int × Int))) × (Bool × (List (Int × Int)))) (t78 : ((Int × Int) × Bool × Int × (List (Int × Int)) × Unit × (List (Int × Int))) × (Bool × (List (Int × Int)))) (m1_2 : (Bool × (List (Int × Int)))) (m4_2 : (Bool × (List (Int × Int)))) : Option (Bool) := (shadowboxlaw10_AllocMarks_1.f k (t78.1.1, t78.1.2.1, t78.1.2.2.1, t78.1.2.2.2.1, (), t78.1.2.2.2.2.2) (m1_2.1, m1_2.2) l1).bind fun t86 => (shadowboxlaw10_AllocMarks_1.f k (t36.1.1, t36.1.2.1, t36.1.2.2.1, t36.1.2.2.2.1, (), t36.1.2.2.2.2.2) (m4_2.1, m4_2.2) l1).bind fun t97 => (alloc_Alloc_Commit.f k (t86.1.1, t86.1.2.1, t86.1.2.2.1, t86.1.2.2.2.1, (), t86.1.2.2.2.2.2) (t86.2.1, t86.2.2)).bind fun t108 => (alloc_Alloc_Commit.f k (t97.1.1, t97.1.2.1, t97.1.2.2.1, t97.1.2.2.2.1, (), t97.1.2.2.2.2.2) (t97.2.1, t97.2.2)).bind fun t119 => (alloc_Alloc_Spans.f k (t108.1.1, t108.1.2.1, t108.1.2.2.1, t108.1.2.2.2.1, (), t108.1.2.2.2.2.2) (t108.2.1, t108.2.2)).bind fun t130 => (alloc_Alloc_Spans.f k (t119.1.1, t119.1.2.1, t119.1.2.2.1, t119.1.2.2.2.1, (), t119.1.2.2.2.2.2) (t119.2.1, t119.2.2)).bind fun t133 => (if (t130.length : Int) = (t133.length : Int) then (shadowboxlaw10_AllocMarks.jo3 k t130 t133) else some false)
def shadowboxlaw10_AllocMarks.jo1 (k : Nat) (l1 : List Int) (l2 : List Int) (y1 : Int) (t3 : (((Int × Int) × Bool × Int × (List (Int × Int)) × Unit × (List (Int × Int))) × (Bool × (List (Int × Int)))) × Int) (t14 : (((Int × Int) × Bool × Int × (List (Int × Int)) × Unit × (List (Int × Int))) × (Bool × (List (Int × Int)))) × Int) : Option (Bool) := (shadowboxlaw10_AllocMarks_1.f k (t3.1.1.1, t3.1.1.2.1, t3.1.1.2.2.1, t3.1.1.2.2.2.1, (), t3.1.1.2.2.2.2.2) (t3.1.2.1, t3.1.2.2) l1).bind fun t25 => (shadowboxlaw10_AllocMarks_1.f k (t14.1.1.1, t14.1.1.2.1, t14.1.1.2.2.1, t14.1.1.2.2.2.1, (), t14.1.1.2.2.2.2.2) (t14.1.2.1, t14.1.2.2) l1).bind fun t36 => (alloc_Alloc_Mark.f k (t25.1.1, t25.1.2.1, t25.1.2.2.1, t25.1.2.2.2.1, (), t25.1.2.2.2.2.2) (t25.2.1, t25.2.2)).bind fun t47 => (shadowboxlaw10_AllocMarks_1.f k (t25.1.1, t25.1.2.1, t25.1.2.2.1, t25.1.2.2.2.1, (), t25.1.2.2.2.2.2) (t47.2.1, t47.2.2) l2).bind fun t59 => (alloc_Alloc_Undo.f k (t59.1.1, t59.1.2.1, t59.1.2.2.1, t59.1.2.2.2.1, (), t59.1.2.2.2.2.2) (t59.2.1, t59.2.2) (t47.1.1, t47.1.2.1, t47.1.2.2)).bind fun t70 => (alloc_Alloc_Undo.f k (t70.1.1, t70.1.2.1, t70.1.2.2.1, t70.1.2.2.2.1, (), t70.1.2.2.2.2.2) (t70.2.1, t70.2.2) (false, ([] : List (Int × Int)), ([] : List (Int × Int)))).bind fun t78 => (alloc_Alloc_Free.f k (t78.1.1, t78.1.2.1, t78.1.2.2.1, t78.1.2.2.2.1, (), t78.1.2.2.2.2.2) (t78.2.1, t78.2.2)).bind fun t147 => (alloc_Alloc_Free.f k (t36.1.1, t36.1.2.1, t36.1.2.2.1, t36.1.2.2.2.1, (), t36.1.2.2.2.2.2) (t36.2.1, t36.2.2)).bind fun t150 => (if t147 = t150 then (alloc_Alloc_Waiting.f k (t78.1.1, t78.1.2.1, t78.1.2.2.1, t78.1.2.2.2.1, (), t78.1.2.2.2.2.2) (t78.2.1, t78.2.2)).bind fun t154 => (alloc_Alloc_Waiting.f k (t36.1.1, t36.1.2.1, t36.1.2.2.1, t36.1.2.2.2.1, (), t36.1.2.2.2.2.2) (t36.2.1, t36.2.2)).bind fun t157 => (if t154.1 = t157.1 then (alloc_Alloc_Used.f k (t78.1.1, t78.1.2.1, t78.1.2.2.1, t78.1.2.2.2.1, (), t78.1.2.2.2.2.2) (t154.2.1, t154.2.2)).bind fun t161 => (alloc_Alloc_Used.f k (t36.1.1, t36.1.2.1, t36.1.2.2.1, t36.1.2.2.2.1, (), t36.1.2.2.2.2.2) (t157.2.1, t157.2.2)).bind fun t164 => (if t161.1 = t164.1 then (alloc_Alloc_Free.f k (t78.1.1, t78.1.2.1, t78.1.2.2.1, t78.1.2.2.2.1, (), t78.1.2.2.2.2.2) (t161.2.1, t161.2.2)).bind fun t168 => (alloc_Alloc_Waiting.f k (t78.1.1, t78.1.2.1, t78.1.2.2.1, t78.1.2.2.2.1, (), t78.1.2.2.2.2.2) (t161.2.1, t161.2.2)).bind fun t171 => (alloc_Alloc_Used.f k (t78.1.1, t78.1.2.1, t78.1.2.2.1, t78.1.2.2.2.1, (), t78.1.2.2.2.2.2) (t171.2.1, t171.2.2)).bind fun t174 => lt (IntKind.wrap .i64 ((IntKind.wrap .i64 (t168 + t171.1)) + t174.1)) fun y177 => (if y177 = y1 then (shadowboxlaw10_AllocMarks.jo2 k l1 t36 t78) (t174.2.1, t174.2.2) (t164.2.1, t164.2.2) else some false) else some false) else some false) else some false)
def shadowboxlaw10_AllocMarks.f (k : Nat) (a0 : Int) (l1 : List Int) (l2 : List Int) : Option (Bool) :=
  lt (IntKind.wrap .i64 ((8 : Int) + (bits .and .i64 a0 (63 : Int)))) fun y1 => (alloc_New.f k (2 : Int) (IntKind.wrap .i64 ((2 : Int) + y1)) (0 : Int)).bind fun t3 => (alloc_New.f k (2 : Int) (IntKind.wrap .i64 ((2 : Int) + y1)) (0 : Int)).bind fun t14 => (if t3.2 = (0 : Int) then (if t14.2 = (0 : Int) then (shadowboxlaw10_AllocMarks.jo1 k l1 l2 y1 t3 t14) else some false) else some false)
set_option maxRecDepth 100000 in
set_option maxHeartbeats 4000000 in
theorem shadowboxlaw10_AllocMarks.calls (k : Nat) (a0 : Int) (A1 : Option Addr) (c1 : Nat) (l1 : List Int) (A2 : Option Addr) (c2 : Nat) (l2 : List Int) (r : Bool) (b : Bs) (hs0 : St b (stl []) b.w) (R1 : Ro b A1 (em (Ec.int 3 .i64) l1)) (C1 : l1.length ≤ c1) (R2 : Ro b A2 (em (Ec.int 3 .i64) l2)) (C2 : l2.length ≤ c2) (H : shadowboxlaw10_AllocMarks.f k a0 l1 l2 = some r) :
    Calls Try.prog 8 #[.int .i64 a0, .slice A1 l1.length c1, .slice A2 l2.length c2] b.w fun e w' => ∃ x : Unit, e = .returned (.bool r) ∧ St b (stl []) w' := by
  unfold shadowboxlaw10_AllocMarks.f at H
  refine enterb (n := 132) Try.func8 rfl (by kernel_rfl) (by kernel_rfl) hs0 ?_
  refine cs_sub (s0) (sub_nil _) ?_
  refine cs_seq ?_
  refine cs_region (l := [_]) ?_
  refine ls_val (v := .bool false) rfl rfl (by kernel_rfl) (fun w => by kernel_rfl) ?_
  refine ls_end ?_
  refine qn_then ?_
  refine cs_seq ?_
  refine cs_region (l := [_, _, _, _]) ?_
  refine ls_val (v := .int .i64 a0) rfl rfl (by kernel_rfl) (fun w => by kernel_rfl) ?_
  refine ls_val (v := .int .i64 (bits .and .i64 a0 (63 : Int))) rfl rfl (by kernel_rfl) (fun w => by kernel_rfl) ?_
  obtain ⟨y1, hy2, H⟩ := lt_some H
  refine ls_val (v := .int .i64 (IntKind.wrap .i64 ((8 : Int) + (bits .and .i64 a0 (63 : Int))))) rfl rfl (by kernel_rfl) (fun w => by kernel_rfl) ?_
  refine ls_ren 18 (v := .int .i64 (IntKind.wrap .i64 ((8 : Int) + (bits .and .i64 a0 (63 : Int))))) (v' := .int .i64 y1) (by kernel_rfl) (by rw [hy2]) ?_
  refine ls_val (v := .int .i64 y1) rfl rfl (by kernel_rfl) (fun w => by kernel_rfl) ?_
  refine ls_end ?_
  refine qn_then ?_
  refine cs_seq ?_
  refine cs_region (l := [_, _, _, _, _, _, _, _]) ?_
  refine ls_val (v := .int .i64 y1) rfl rfl (by kernel_rfl) (fun w => by kernel_rfl) ?_
  refine ls_val (v := .int .i64 (IntKind.wrap .i64 ((2 : Int) + y1))) rfl rfl (by kernel_rfl) (fun w => by kernel_rfl) ?_
  obtain ⟨t3, hc4, H⟩ := bind_some H
  refine ls_callf (fid := 27) (vals := #[.int .i64 (2 : Int), .int .i64 (IntKind.wrap .i64 ((2 : Int) + y1)), .int .i64 (0 : Int)]) (X := Nat × (Option Addr × Nat) × (Option Addr × Nat) × Nat × (Option Addr × Nat)) (fun x => .tuple #[.pointer (some ⟨x.1, 0, none⟩), .int .i64 t3.2]) (fun x => stl [Ck.var 66 x.1 ((([Value.int .i64 t3.1.1.1.1] ++ [Value.int .i64 t3.1.1.1.2]) ++ ([Value.bool t3.1.1.2.1] ++ ([Value.int .i64 t3.1.1.2.2.1] ++ ([Value.slice x.2.1.1 t3.1.1.2.2.2.1.length x.2.1.2] ++ ([Value.map (some x.2.2.2.1)] ++ [Value.slice x.2.2.1.1 t3.1.1.2.2.2.2.2.length x.2.2.1.2])))))), Ck.m1 x.2.2.2.1 t3.1.2.1 x.2.2.2.2.1 t3.1.2.2.length x.2.2.2.2.2, Ck.sl T24 x.2.2.2.2.1 x.2.2.2.2.2 t3.1.2.2]) (fun x B => (Ro B x.2.1.1 (em T24 t3.1.1.2.2.2.1) ∧ t3.1.1.2.2.2.1.length ≤ x.2.1.2) ∧ (Ro B x.2.2.1.1 (em T24 t3.1.1.2.2.2.2.2) ∧ t3.1.1.2.2.2.2.2.length ≤ x.2.2.1.2)) [] [] 0 rfl rfl (by kernel_rfl) (fun w => by kernel_rfl) trivial (by decide) (fun x b b' h hf => ⟨⟨h _ _ hf.1.1, hf.1.2⟩, ⟨h _ _ hf.2.1, hf.2.2⟩⟩) (fun w hs hb => alloc_New.calls k (2 : Int) (IntKind.wrap .i64 ((2 : Int) + y1)) (0 : Int) t3 (lent b w [] []) hb  hc4) ?_
  intro x5 bs10 hle11 hok12 hf13
  obtain ⟨⟨fR6, fC7⟩, ⟨fR8, fC9⟩⟩ := hf13
  refine ls_val (v := .tuple #[.pointer (some ⟨x5.1, 0, none⟩), .int .i64 t3.2]) rfl rfl (by kernel_rfl) (fun w => by kernel_rfl) ?_
  refine ls_val (v := .pointer (some ⟨x5.1, 0, none⟩)) rfl rfl (by kernel_rfl) (fun w => by kernel_rfl) ?_
  refine ls_val (v := .int .i64 t3.2) rfl rfl (by kernel_rfl) (fun w => by kernel_rfl) ?_
  refine ls_val (v := .pointer (some ⟨x5.1, 0, none⟩)) rfl rfl (by kernel_rfl) (fun w => by kernel_rfl) ?_
  refine ls_val (v := .int .i64 t3.2) rfl rfl (by kernel_rfl) (fun w => by kernel_rfl) ?_
  refine ls_end ?_
  refine qn_then ?_
  refine cs_seq ?_
  refine cs_region (l := [_, _, _, _, _, _, _, _]) ?_
  refine ls_val (v := .int .i64 y1) rfl rfl (by kernel_rfl) (fun w => by kernel_rfl) ?_
  refine ls_val (v := .int .i64 (IntKind.wrap .i64 ((2 : Int) + y1))) rfl rfl (by kernel_rfl) (fun w => by kernel_rfl) ?_
  obtain ⟨t14, hc15, H⟩ := bind_some H
  refine ls_callf (fid := 27) (vals := #[.int .i64 (2 : Int), .int .i64 (IntKind.wrap .i64 ((2 : Int) + y1)), .int .i64 (0 : Int)]) (X := Nat × (Option Addr × Nat) × (Option Addr × Nat) × Nat × (Option Addr × Nat)) (fun x => .tuple #[.pointer (some ⟨x.1, 0, none⟩), .int .i64 t14.2]) (fun x => stl [Ck.var 66 x.1 ((([Value.int .i64 t14.1.1.1.1] ++ [Value.int .i64 t14.1.1.1.2]) ++ ([Value.bool t14.1.1.2.1] ++ ([Value.int .i64 t14.1.1.2.2.1] ++ ([Value.slice x.2.1.1 t14.1.1.2.2.2.1.length x.2.1.2] ++ ([Value.map (some x.2.2.2.1)] ++ [Value.slice x.2.2.1.1 t14.1.1.2.2.2.2.2.length x.2.2.1.2])))))), Ck.m1 x.2.2.2.1 t14.1.2.1 x.2.2.2.2.1 t14.1.2.2.length x.2.2.2.2.2, Ck.sl T24 x.2.2.2.2.1 x.2.2.2.2.2 t14.1.2.2]) (fun x B => (Ro B x.2.1.1 (em T24 t14.1.1.2.2.2.1) ∧ t14.1.1.2.2.2.1.length ≤ x.2.1.2) ∧ (Ro B x.2.2.1.1 (em T24 t14.1.1.2.2.2.2.2) ∧ t14.1.1.2.2.2.2.2.length ≤ x.2.2.1.2)) [] [] 3 rfl rfl (by kernel_rfl) (fun w => by kernel_rfl) trivial (by decide) (fun x b b' h hf => ⟨⟨h _ _ hf.1.1, hf.1.2⟩, ⟨h _ _ hf.2.1, hf.2.2⟩⟩) (fun w hs hb => alloc_New.calls k (2 : Int) (IntKind.wrap .i64 ((2 : Int) + y1)) (0 : Int) t14 (lent bs10 w [] []) hb  hc15) ?_
  intro x16 bs21 hle22 hok23 hf24
  obtain ⟨⟨fR17, fC18⟩, ⟨fR19, fC20⟩⟩ := hf24
  refine ls_val (v := .tuple #[.pointer (some ⟨x16.1, 0, none⟩), .int .i64 t14.2]) rfl rfl (by kernel_rfl) (fun w => by kernel_rfl) ?_
  refine ls_val (v := .pointer (some ⟨x16.1, 0, none⟩)) rfl rfl (by kernel_rfl) (fun w => by kernel_rfl) ?_
  refine ls_val (v := .int .i64 t14.2) rfl rfl (by kernel_rfl) (fun w => by kernel_rfl) ?_
  refine ls_val (v := .pointer (some ⟨x16.1, 0, none⟩)) rfl rfl (by kernel_rfl) (fun w => by kernel_rfl) ?_
  refine ls_val (v := .int .i64 t14.2) rfl rfl (by kernel_rfl) (fun w => by kernel_rfl) ?_
  refine ls_end ?_
  refine qn_then ?_
  refine cs_cut (fun f S => ∃ (fR : Fr), f = upd (upd (upd (upd (upd fR 0 (.int .i64 y1)) 1 (.slice A1 l1.length c1)) 2 (.slice A2 l2.length c2)) 7 (.pointer (some ⟨x5.1, 0, none⟩))) 9 (.pointer (some ⟨x16.1, 0, none⟩)) ∧ S = sput (sput (sput (sput (sput (sput s0 0 (some (Ck.var 66 x5.1 ((([Value.int .i64 t3.1.1.1.1] ++ [Value.int .i64 t3.1.1.1.2]) ++ ([Value.bool t3.1.1.2.1] ++ ([Value.int .i64 t3.1.1.2.2.1] ++ ([Value.slice x5.2.1.1 t3.1.1.2.2.2.1.length x5.2.1.2] ++ ([Value.map (some x5.2.2.2.1)] ++ [Value.slice x5.2.2.1.1 t3.1.1.2.2.2.2.2.length x5.2.2.1.2]))))))))) 1 (some (Ck.m1 x5.2.2.2.1 t3.1.2.1 x5.2.2.2.2.1 t3.1.2.2.length x5.2.2.2.2.2))) 2 (some (Ck.sl T24 x5.2.2.2.2.1 x5.2.2.2.2.2 t3.1.2.2))) 3 (some (Ck.var 66 x16.1 ((([Value.int .i64 t14.1.1.1.1] ++ [Value.int .i64 t14.1.1.1.2]) ++ ([Value.bool t14.1.1.2.1] ++ ([Value.int .i64 t14.1.1.2.2.1] ++ ([Value.slice x16.2.1.1 t14.1.1.2.2.2.1.length x16.2.1.2] ++ ([Value.map (some x16.2.2.2.1)] ++ [Value.slice x16.2.2.1.1 t14.1.1.2.2.2.2.2.length x16.2.2.1.2]))))))))) 4 (some (Ck.m1 x16.2.2.2.1 t14.1.2.1 x16.2.2.2.2.1 t14.1.2.2.length x16.2.2.2.2.2))) 5 (some (Ck.sl T24 x16.2.2.2.2.1 x16.2.2.2.2.2 t14.1.2.2)) ∧ shadowboxlaw10_AllocMarks.jo1 k l1 l2 y1 t3 t14 = some r) ?_ ?_
  · skip
    refine cs_seq ?_
    refine cs_region (l := [_, _, _, _, _, _, _, _, _, _, _, _, _, _]) ?_
    refine ls_val (v := .int .i64 t3.2) rfl rfl (by kernel_rfl) (fun w => by kernel_rfl) ?_
    refine ls_val (v := .bool (!decide (t3.2 = (0 : Int)))) rfl rfl (by kernel_rfl) (fun w => by kernel_rfl) ?_
    refine ls_val (v := .bool (!decide (t3.2 = (0 : Int)))) rfl rfl (by kernel_rfl) (fun w => by kernel_rfl) ?_
    by_cases q180 : t3.2 = (0 : Int)
    · replace H := ite_t q180 H
      refine ls_know (c := false) (congrArg Bool.not (dec_t q180)) 33 (by kernel_rfl) ?_
      refine ls_on (j := 2) (t := 33) (b := false) rfl rfl (by kernel_rfl) (by kernel_rfl) ?_
      refine ls_val (v := .int .i64 t14.2) rfl rfl (by kernel_rfl) (fun w => by kernel_rfl) ?_
      refine ls_on (j := 2) (t := 33) (b := false) rfl rfl (by kernel_rfl) (by kernel_rfl) ?_
      refine ls_val (v := .bool (!decide (t14.2 = (0 : Int)))) rfl rfl (by kernel_rfl) (fun w => by kernel_rfl) ?_
      refine ls_val (v := .bool (!decide (t14.2 = (0 : Int)))) rfl rfl (by kernel_rfl) (fun w => by kernel_rfl) ?_
      refine ls_val (v := .bool (!decide (t14.2 = (0 : Int)))) rfl rfl (by kernel_rfl) (fun w => by kernel_rfl) ?_
      by_cases q181 : t14.2 = (0 : Int)
      · replace H := ite_t q181 H
        refine ls_know (c := false) (congrArg Bool.not (dec_t q181)) 37 (by kernel_rfl) ?_
        refine ls_on (j := 6) (t := 37) (b := false) rfl rfl (by kernel_rfl) (by kernel_rfl) ?_
        refine ls_val (v := .pointer (some ⟨x5.1, 0, none⟩)) rfl rfl (by kernel_rfl) (fun w => by kernel_rfl) ?_
        refine ls_on (j := 6) (t := 37) (b := false) rfl rfl (by kernel_rfl) (by kernel_rfl) ?_
        refine ls_val (v := .bool false) rfl rfl (by kernel_rfl) (fun w => by kernel_rfl) ?_
        refine ls_val (v := .bool false) rfl rfl (by kernel_rfl) (fun w => by kernel_rfl) ?_
        refine ls_val (v := .bool false) rfl rfl (by kernel_rfl) (fun w => by kernel_rfl) ?_
        refine ls_on (j := 10) (t := 41) (b := false) rfl rfl (by kernel_rfl) (by kernel_rfl) ?_
        refine ls_val (v := .pointer (some ⟨x16.1, 0, none⟩)) rfl rfl (by kernel_rfl) (fun w => by kernel_rfl) ?_
        refine ls_on (j := 10) (t := 41) (b := false) rfl rfl (by kernel_rfl) (by kernel_rfl) ?_
        refine ls_val (v := .bool false) rfl rfl (by kernel_rfl) (fun w => by kernel_rfl) ?_
        refine ls_val (v := .bool false) rfl rfl (by kernel_rfl) (fun w => by kernel_rfl) ?_
        refine ls_end ?_
        refine qn_then ?_
        refine cs_false (by kernel_rfl) ?_
        refine cs_skip' ?_
        refine qn_meet (sput (sput (sput (sput (sput (sput s0 0 (some (Ck.var 66 x5.1 ((([Value.int .i64 t3.1.1.1.1] ++ [Value.int .i64 t3.1.1.1.2]) ++ ([Value.bool t3.1.1.2.1] ++ ([Value.int .i64 t3.1.1.2.2.1] ++ ([Value.slice x5.2.1.1 t3.1.1.2.2.2.1.length x5.2.1.2] ++ ([Value.map (some x5.2.2.2.1)] ++ [Value.slice x5.2.2.1.1 t3.1.1.2.2.2.2.2.length x5.2.2.1.2]))))))))) 1 (some (Ck.m1 x5.2.2.2.1 t3.1.2.1 x5.2.2.2.2.1 t3.1.2.2.length x5.2.2.2.2.2))) 2 (some (Ck.sl T24 x5.2.2.2.2.1 x5.2.2.2.2.2 t3.1.2.2))) 3 (some (Ck.var 66 x16.1 ((([Value.int .i64 t14.1.1.1.1] ++ [Value.int .i64 t14.1.1.1.2]) ++ ([Value.bool t14.1.1.2.1] ++ ([Value.int .i64 t14.1.1.2.2.1] ++ ([Value.slice x16.2.1.1 t14.1.1.2.2.2.1.length x16.2.1.2] ++ ([Value.map (some x16.2.2.2.1)] ++ [Value.slice x16.2.2.1.1 t14.1.1.2.2.2.2.2.length x16.2.2.1.2]))))))))) 4 (some (Ck.m1 x16.2.2.2.1 t14.1.2.1 x16.2.2.2.2.1 t14.1.2.2.length x16.2.2.2.2.2))) 5 (some (Ck.sl T24 x16.2.2.2.2.1 x16.2.2.2.2.2 t14.1.2.2))) ⟨_, fr_next (fr_next (fr_next (fr_next (fr_next (rfl) (by kernel_rfl)) (by kernel_rfl)) (by kernel_rfl)) (by kernel_rfl)) (by kernel_rfl), rfl, H⟩ (sub_put (by exact rfl) (sub_put (by exact rfl) (sub_put (by exact rfl) (sub_put (by exact rfl) (sub_put (by exact rfl) (sub_put (by exact rfl) (sub_nil _)))))))
      · replace H := ite_f q181 H
        refine ls_know (c := true) (congrArg Bool.not (dec_f q181)) 37 (by kernel_rfl) ?_
        refine ls_off (j := 6) (t := 37) (b := false) (c := true) rfl rfl (by kernel_rfl) (by kernel_rfl) rfl rfl (by kernel_rfl) ?_
        refine ls_off (j := 6) (t := 37) (b := false) (c := true) rfl rfl (by kernel_rfl) (by kernel_rfl) rfl rfl (by kernel_rfl) ?_
        refine ls_val (v := .bool true) rfl rfl (by kernel_rfl) (fun w => by kernel_rfl) ?_
        refine ls_val (v := .bool true) rfl rfl (by kernel_rfl) (fun w => by kernel_rfl) ?_
        refine ls_off (j := 10) (t := 41) (b := false) (c := true) rfl rfl (by kernel_rfl) (by kernel_rfl) rfl rfl (by kernel_rfl) ?_
        refine ls_off (j := 10) (t := 41) (b := false) (c := true) rfl rfl (by kernel_rfl) (by kernel_rfl) rfl rfl (by kernel_rfl) ?_
        refine ls_val (v := .bool true) rfl rfl (by kernel_rfl) (fun w => by kernel_rfl) ?_
        refine ls_end ?_
        refine qn_then ?_
        refine cs_true (by kernel_rfl) ?_
        refine cs_seq ?_
        refine cs_region (l := [_]) ?_
        refine ls_val (v := .bool false) rfl rfl (by kernel_rfl) (fun w => by kernel_rfl) ?_
        refine ls_end ?_
        refine qn_then ?_
        refine cs_ret' ?_
        refine qr_then ?_
        obtain rfl := Option.some.inj H
        refine qr_res (rs := [_]) rfl (fun w' hs => ⟨[.bool false], (res_tmp (by kernel_rfl) (.nil)), (), rfl, St.later hs0.ok (hle11.trans hle22) (hs.pick (ts := []) (cs := []) trivial (by decide))⟩)
    · replace H := ite_f q180 H
      refine ls_know (c := true) (congrArg Bool.not (dec_f q180)) 33 (by kernel_rfl) ?_
      refine ls_off (j := 2) (t := 33) (b := false) (c := true) rfl rfl (by kernel_rfl) (by kernel_rfl) rfl rfl (by kernel_rfl) ?_
      refine ls_off (j := 2) (t := 33) (b := false) (c := true) rfl rfl (by kernel_rfl) (by kernel_rfl) rfl rfl (by kernel_rfl) ?_
      refine ls_val (v := .bool true) rfl rfl (by kernel_rfl) (fun w => by kernel_rfl) ?_
      refine ls_val (v := .bool true) rfl rfl (by kernel_rfl) (fun w => by kernel_rfl) ?_
      refine ls_off (j := 6) (t := 37) (b := false) (c := true) rfl rfl (by kernel_rfl) (by kernel_rfl) rfl rfl (by kernel_rfl) ?_
      refine ls_off (j := 6) (t := 37) (b := false) (c := true) rfl rfl (by kernel_rfl) (by kernel_rfl) rfl rfl (by kernel_rfl) ?_
      refine ls_val (v := .bool true) rfl rfl (by kernel_rfl) (fun w => by kernel_rfl) ?_
      refine ls_val (v := .bool true) rfl rfl (by kernel_rfl) (fun w => by kernel_rfl) ?_
      refine ls_off (j := 10) (t := 41) (b := false) (c := true) rfl rfl (by kernel_rfl) (by kernel_rfl) rfl rfl (by kernel_rfl) ?_
      refine ls_off (j := 10) (t := 41) (b := false) (c := true) rfl rfl (by kernel_rfl) (by kernel_rfl) rfl rfl (by kernel_rfl) ?_
      refine ls_val (v := .bool true) rfl rfl (by kernel_rfl) (fun w => by kernel_rfl) ?_
      refine ls_end ?_
      refine qn_then ?_
      refine cs_true (by kernel_rfl) ?_
      refine cs_seq ?_
      refine cs_region (l := [_]) ?_
      refine ls_val (v := .bool false) rfl rfl (by kernel_rfl) (fun w => by kernel_rfl) ?_
      refine ls_end ?_
      refine qn_then ?_
      refine cs_ret' ?_
      refine qr_then ?_
      obtain rfl := Option.some.inj H
      refine qr_res (rs := [_]) rfl (fun w' hs => ⟨[.bool false], (res_tmp (by kernel_rfl) (.nil)), (), rfl, St.later hs0.ok (hle11.trans hle22) (hs.pick (ts := []) (cs := []) trivial (by decide))⟩)
  · rintro f S ⟨fr1, rfl, rfl, H⟩
    replace H : ((shadowboxlaw10_AllocMarks_1.f k (t3.1.1.1, t3.1.1.2.1, t3.1.1.2.2.1, t3.1.1.2.2.2.1, (), t3.1.1.2.2.2.2.2) (t3.1.2.1, t3.1.2.2) l1).bind fun t25 => (shadowboxlaw10_AllocMarks_1.f k (t14.1.1.1, t14.1.1.2.1, t14.1.1.2.2.1, t14.1.1.2.2.2.1, (), t14.1.1.2.2.2.2.2) (t14.1.2.1, t14.1.2.2) l1).bind fun t36 => (alloc_Alloc_Mark.f k (t25.1.1, t25.1.2.1, t25.1.2.2.1, t25.1.2.2.2.1, (), t25.1.2.2.2.2.2) (t25.2.1, t25.2.2)).bind fun t47 => (shadowboxlaw10_AllocMarks_1.f k (t25.1.1, t25.1.2.1, t25.1.2.2.1, t25.1.2.2.2.1, (), t25.1.2.2.2.2.2) (t47.2.1, t47.2.2) l2).bind fun t59 => (alloc_Alloc_Undo.f k (t59.1.1, t59.1.2.1, t59.1.2.2.1, t59.1.2.2.2.1, (), t59.1.2.2.2.2.2) (t59.2.1, t59.2.2) (t47.1.1, t47.1.2.1, t47.1.2.2)).bind fun t70 => (alloc_Alloc_Undo.f k (t70.1.1, t70.1.2.1, t70.1.2.2.1, t70.1.2.2.2.1, (), t70.1.2.2.2.2.2) (t70.2.1, t70.2.2) (false, ([] : List (Int × Int)), ([] : List (Int × Int)))).bind fun t78 => (alloc_Alloc_Free.f k (t78.1.1, t78.1.2.1, t78.1.2.2.1, t78.1.2.2.2.1, (), t78.1.2.2.2.2.2) (t78.2.1, t78.2.2)).bind fun t147 => (alloc_Alloc_Free.f k (t36.1.1, t36.1.2.1, t36.1.2.2.1, t36.1.2.2.2.1, (), t36.1.2.2.2.2.2) (t36.2.1, t36.2.2)).bind fun t150 => (if t147 = t150 then (alloc_Alloc_Waiting.f k (t78.1.1, t78.1.2.1, t78.1.2.2.1, t78.1.2.2.2.1, (), t78.1.2.2.2.2.2) (t78.2.1, t78.2.2)).bind fun t154 => (alloc_Alloc_Waiting.f k (t36.1.1, t36.1.2.1, t36.1.2.2.1, t36.1.2.2.2.1, (), t36.1.2.2.2.2.2) (t36.2.1, t36.2.2)).bind fun t157 => (if t154.1 = t157.1 then (alloc_Alloc_Used.f k (t78.1.1, t78.1.2.1, t78.1.2.2.1, t78.1.2.2.2.1, (), t78.1.2.2.2.2.2) (t154.2.1, t154.2.2)).bind fun t161 => (alloc_Alloc_Used.f k (t36.1.1, t36.1.2.1, t36.1.2.2.1, t36.1.2.2.2.1, (), t36.1.2.2.2.2.2) (t157.2.1, t157.2.2)).bind fun t164 => (if t161.1 = t164.1 then (alloc_Alloc_Free.f k (t78.1.1, t78.1.2.1, t78.1.2.2.1, t78.1.2.2.2.1, (), t78.1.2.2.2.2.2) (t161.2.1, t161.2.2)).bind fun t168 => (alloc_Alloc_Waiting.f k (t78.1.1, t78.1.2.1, t78.1.2.2.1, t78.1.2.2.2.1, (), t78.1.2.2.2.2.2) (t161.2.1, t161.2.2)).bind fun t171 => (alloc_Alloc_Used.f k (t78.1.1, t78.1.2.1, t78.1.2.2.1, t78.1.2.2.2.1, (), t78.1.2.2.2.2.2) (t171.2.1, t171.2.2)).bind fun t174 => lt (IntKind.wrap .i64 ((IntKind.wrap .i64 (t168 + t171.1)) + t174.1)) fun y177 => (if y177 = y1 then (shadowboxlaw10_AllocMarks.jo2 k l1 t36 t78) (t174.2.1, t174.2.2) (t164.2.1, t164.2.2) else some false) else some false) else some false) else some false)) = some r := H
    refine cs_seq ?_
    refine cs_region (l := [_]) ?_
    refine ls_val (v := .func (.func 34) #[] #[]) rfl rfl (by kernel_rfl) (fun w => by kernel_rfl) ?_
    refine ls_end ?_
    refine qn_then ?_
    refine cs_seq ?_
    refine cs_region (l := [_, _, _, _]) ?_
    refine ls_val (v := .func (.func 34) #[] #[]) rfl rfl (by kernel_rfl) (fun w => by kernel_rfl) ?_
    refine ls_val (v := .pointer (some ⟨x5.1, 0, none⟩)) rfl rfl (by kernel_rfl) (fun w => by kernel_rfl) ?_
    refine ls_val (v := .slice A1 l1.length c1) rfl rfl (by kernel_rfl) (fun w => by kernel_rfl) ?_
    obtain ⟨t25, hc26, H⟩ := bind_some H
    refine ls_callf (fid := 34) (vals := #[.pointer (some ⟨x5.1, 0, none⟩), .slice A1 l1.length c1]) (X := (Option Addr × Nat) × (Option Addr × Nat) × (Option Addr × Nat)) (fun x => .tuple #[]) (fun x => stl [Ck.var 66 x5.1 ((([Value.int .i64 t25.1.1.1] ++ [Value.int .i64 t25.1.1.2]) ++ ([Value.bool t25.1.2.1] ++ ([Value.int .i64 t25.1.2.2.1] ++ ([Value.slice x.1.1 t25.1.2.2.2.1.length x.1.2] ++ ([Value.map (some x5.2.2.2.1)] ++ [Value.slice x.2.1.1 t25.1.2.2.2.2.2.length x.2.1.2])))))), Ck.m1 x5.2.2.2.1 t25.2.1 x.2.2.1 t25.2.2.length x.2.2.2, Ck.sl T24 x.2.2.1 x.2.2.2 t25.2.2]) (fun x B => (Ro B x.1.1 (em T24 t25.1.2.2.2.1) ∧ t25.1.2.2.2.1.length ≤ x.1.2) ∧ (Ro B x.2.1.1 (em T24 t25.1.2.2.2.2.2) ∧ t25.1.2.2.2.2.2.length ≤ x.2.1.2)) [0, 1, 2] [Ck.var 66 x5.1 ((([Value.int .i64 t3.1.1.1.1] ++ [Value.int .i64 t3.1.1.1.2]) ++ ([Value.bool t3.1.1.2.1] ++ ([Value.int .i64 t3.1.1.2.2.1] ++ ([Value.slice x5.2.1.1 t3.1.1.2.2.2.1.length x5.2.1.2] ++ ([Value.map (some x5.2.2.2.1)] ++ [Value.slice x5.2.2.1.1 t3.1.1.2.2.2.2.2.length x5.2.2.1.2])))))), Ck.m1 x5.2.2.2.1 t3.1.2.1 x5.2.2.2.2.1 t3.1.2.2.length x5.2.2.2.2.2, Ck.sl T24 x5.2.2.2.2.1 x5.2.2.2.2.2 t3.1.2.2] 6 rfl rfl (by kernel_rfl) (fun w => by kernel_rfl) ⟨by exact rfl, by exact rfl, by exact rfl, trivial⟩ (by decide) (fun x b b' h hf => ⟨⟨h _ _ hf.1.1, hf.1.2⟩, ⟨h _ _ hf.2.1, hf.2.2⟩⟩) (fun w hs hb => shadowboxlaw10_AllocMarks_1.calls k x5.1 x5.2.1.1 x5.2.1.2 x5.2.2.2.1 x5.2.2.1.1 x5.2.2.1.2 (t3.1.1.1, t3.1.1.2.1, t3.1.1.2.2.1, t3.1.1.2.2.2.1, (), t3.1.1.2.2.2.2.2) x5.2.2.2.2.1 x5.2.2.2.2.2 (t3.1.2.1, t3.1.2.2) A1 c1 l1 t25 (lent bs21 w [Ck.var 66 x5.1 ((([Value.int .i64 t3.1.1.1.1] ++ [Value.int .i64 t3.1.1.1.2]) ++ ([Value.bool t3.1.1.2.1] ++ ([Value.int .i64 t3.1.1.2.2.1] ++ ([Value.slice x5.2.1.1 t3.1.1.2.2.2.1.length x5.2.1.2] ++ ([Value.map (some x5.2.2.2.1)] ++ [Value.slice x5.2.2.1.1 t3.1.1.2.2.2.2.2.length x5.2.2.1.2])))))), Ck.m1 x5.2.2.2.1 t3.1.2.1 x5.2.2.2.2.1 t3.1.2.2.length x5.2.2.2.2.2, Ck.sl T24 x5.2.2.2.2.1 x5.2.2.2.2.2 t3.1.2.2] []) hb (hs.ro (Ro.mono hok23 hle22 fR6) _ _) fC7 (hs.ro (Ro.mono hok23 hle22 fR8) _ _) fC9 (hs.ro (Ro.mono hok23 hle22 (Ro.mono hok12 hle11 R1)) _ _) C1 hc26) ?_
    intro x27 bs32 hle33 hok34 hf35
    obtain ⟨⟨fR28, fC29⟩, ⟨fR30, fC31⟩⟩ := hf35
    refine ls_end ?_
    refine qn_then ?_
    refine cs_seq ?_
    refine cs_region (l := [_, _, _, _]) ?_
    refine ls_val (v := .func (.func 34) #[] #[]) rfl rfl (by kernel_rfl) (fun w => by kernel_rfl) ?_
    refine ls_val (v := .pointer (some ⟨x16.1, 0, none⟩)) rfl rfl (by kernel_rfl) (fun w => by kernel_rfl) ?_
    refine ls_val (v := .slice A1 l1.length c1) rfl rfl (by kernel_rfl) (fun w => by kernel_rfl) ?_
    obtain ⟨t36, hc37, H⟩ := bind_some H
    refine ls_callf (fid := 34) (vals := #[.pointer (some ⟨x16.1, 0, none⟩), .slice A1 l1.length c1]) (X := (Option Addr × Nat) × (Option Addr × Nat) × (Option Addr × Nat)) (fun x => .tuple #[]) (fun x => stl [Ck.var 66 x16.1 ((([Value.int .i64 t36.1.1.1] ++ [Value.int .i64 t36.1.1.2]) ++ ([Value.bool t36.1.2.1] ++ ([Value.int .i64 t36.1.2.2.1] ++ ([Value.slice x.1.1 t36.1.2.2.2.1.length x.1.2] ++ ([Value.map (some x16.2.2.2.1)] ++ [Value.slice x.2.1.1 t36.1.2.2.2.2.2.length x.2.1.2])))))), Ck.m1 x16.2.2.2.1 t36.2.1 x.2.2.1 t36.2.2.length x.2.2.2, Ck.sl T24 x.2.2.1 x.2.2.2 t36.2.2]) (fun x B => (Ro B x.1.1 (em T24 t36.1.2.2.2.1) ∧ t36.1.2.2.2.1.length ≤ x.1.2) ∧ (Ro B x.2.1.1 (em T24 t36.1.2.2.2.2.2) ∧ t36.1.2.2.2.2.2.length ≤ x.2.1.2)) [3, 4, 5] [Ck.var 66 x16.1 ((([Value.int .i64 t14.1.1.1.1] ++ [Value.int .i64 t14.1.1.1.2]) ++ ([Value.bool t14.1.1.2.1] ++ ([Value.int .i64 t14.1.1.2.2.1] ++ ([Value.slice x16.2.1.1 t14.1.1.2.2.2.1.length x16.2.1.2] ++ ([Value.map (some x16.2.2.2.1)] ++ [Value.slice x16.2.2.1.1 t14.1.1.2.2.2.2.2.length x16.2.2.1.2])))))), Ck.m1 x16.2.2.2.1 t14.1.2.1 x16.2.2.2.2.1 t14.1.2.2.length x16.2.2.2.2.2, Ck.sl T24 x16.2.2.2.2.1 x16.2.2.2.2.2 t14.1.2.2] 6 rfl rfl (by kernel_rfl) (fun w => by kernel_rfl) ⟨by exact rfl, by exact rfl, by exact rfl, trivial⟩ (by decide) (fun x b b' h hf => ⟨⟨h _ _ hf.1.1, hf.1.2⟩, ⟨h _ _ hf.2.1, hf.2.2⟩⟩) (fun w hs hb => shadowboxlaw10_AllocMarks_1.calls k x16.1 x16.2.1.1 x16.2.1.2 x16.2.2.2.1 x16.2.2.1.1 x16.2.2.1.2 (t14.1.1.1, t14.1.1.2.1, t14.1.1.2.2.1, t14.1.1.2.2.2.1, (), t14.1.1.2.2.2.2.2) x16.2.2.2.2.1 x16.2.2.2.2.2 (t14.1.2.1, t14.1.2.2) A1 c1 l1 t36 (lent bs32 w [Ck.var 66 x16.1 ((([Value.int .i64 t14.1.1.1.1] ++ [Value.int .i64 t14.1.1.1.2]) ++ ([Value.bool t14.1.1.2.1] ++ ([Value.int .i64 t14.1.1.2.2.1] ++ ([Value.slice x16.2.1.1 t14.1.1.2.2.2.1.length x16.2.1.2] ++ ([Value.map (some x16.2.2.2.1)] ++ [Value.slice x16.2.2.1.1 t14.1.1.2.2.2.2.2.length x16.2.2.1.2])))))), Ck.m1 x16.2.2.2.1 t14.1.2.1 x16.2.2.2.2.1 t14.1.2.2.length x16.2.2.2.2.2, Ck.sl T24 x16.2.2.2.2.1 x16.2.2.2.2.2 t14.1.2.2] []) hb (hs.ro (Ro.mono hok34 hle33 fR17) _ _) fC18 (hs.ro (Ro.mono hok34 hle33 fR19) _ _) fC20 (hs.ro (Ro.mono hok34 hle33 (Ro.mono hok23 hle22 (Ro.mono hok12 hle11 R1))) _ _) C1 hc37) ?_
    intro x38 bs43 hle44 hok45 hf46
    obtain ⟨⟨fR39, fC40⟩, ⟨fR41, fC42⟩⟩ := hf46
    refine ls_end ?_
    refine qn_then ?_
    refine cs_seq ?_
    refine cs_region (l := [_, _, _, _]) ?_
    refine ls_val (v := .pointer (some ⟨x5.1, 0, none⟩)) rfl rfl (by kernel_rfl) (fun w => by kernel_rfl) ?_
    obtain ⟨t47, hc48, H⟩ := bind_some H
    refine ls_callf (fid := 36) (vals := #[.pointer (some ⟨x5.1, 0, none⟩)]) (X := (Option Addr × Nat) × (Option Addr × Nat) × (Option Addr × Nat)) (fun x => .agg ⟨([Value.bool t47.1.1] ++ ([Value.slice x.1.1 t47.1.2.1.length x.1.2] ++ [Value.slice x.2.1.1 t47.1.2.2.length x.2.1.2]))⟩) (fun x => stl [Ck.var 66 x5.1 ((([Value.int .i64 t25.1.1.1] ++ [Value.int .i64 t25.1.1.2]) ++ ([Value.bool t25.1.2.1] ++ ([Value.int .i64 t25.1.2.2.1] ++ ([Value.slice x27.1.1 t25.1.2.2.2.1.length x27.1.2] ++ ([Value.map (some x5.2.2.2.1)] ++ [Value.slice x27.2.1.1 t25.1.2.2.2.2.2.length x27.2.1.2])))))), Ck.m1 x5.2.2.2.1 t47.2.1 x.2.2.1 t47.2.2.length x.2.2.2, Ck.sl T24 x.2.2.1 x.2.2.2 t47.2.2]) (fun x B => (Ro B x.1.1 (em T24 t47.1.2.1) ∧ t47.1.2.1.length ≤ x.1.2) ∧ (Ro B x.2.1.1 (em T24 t47.1.2.2) ∧ t47.1.2.2.length ≤ x.2.1.2)) [0, 1, 2] [Ck.var 66 x5.1 ((([Value.int .i64 t25.1.1.1] ++ [Value.int .i64 t25.1.1.2]) ++ ([Value.bool t25.1.2.1] ++ ([Value.int .i64 t25.1.2.2.1] ++ ([Value.slice x27.1.1 t25.1.2.2.2.1.length x27.1.2] ++ ([Value.map (some x5.2.2.2.1)] ++ [Value.slice x27.2.1.1 t25.1.2.2.2.2.2.length x27.2.1.2])))))), Ck.m1 x5.2.2.2.1 t25.2.1 x27.2.2.1 t25.2.2.length x27.2.2.2, Ck.sl T24 x27.2.2.1 x27.2.2.2 t25.2.2] 6 rfl rfl (by kernel_rfl) (fun w => by kernel_rfl) ⟨by exact rfl, by exact rfl, by exact rfl, trivial⟩ (by decide) (fun x b b' h hf => ⟨⟨h _ _ hf.1.1, hf.1.2⟩, ⟨h _ _ hf.2.1, hf.2.2⟩⟩) (fun w hs hb => alloc_Alloc_Mark.calls k x5.1 x27.1.1 x27.1.2 x5.2.2.2.1 x27.2.1.1 x27.2.1.2 (t25.1.1, t25.1.2.1, t25.1.2.2.1, t25.1.2.2.2.1, (), t25.1.2.2.2.2.2) x27.2.2.1 x27.2.2.2 (t25.2.1, t25.2.2) t47 (lent bs43 w [Ck.var 66 x5.1 ((([Value.int .i64 t25.1.1.1] ++ [Value.int .i64 t25.1.1.2]) ++ ([Value.bool t25.1.2.1] ++ ([Value.int .i64 t25.1.2.2.1] ++ ([Value.slice x27.1.1 t25.1.2.2.2.1.length x27.1.2] ++ ([Value.map (some x5.2.2.2.1)] ++ [Value.slice x27.2.1.1 t25.1.2.2.2.2.2.length x27.2.1.2])))))), Ck.m1 x5.2.2.2.1 t25.2.1 x27.2.2.1 t25.2.2.length x27.2.2.2, Ck.sl T24 x27.2.2.1 x27.2.2.2 t25.2.2] []) hb (hs.ro (Ro.mono hok45 hle44 fR28) _ _) fC29 (hs.ro (Ro.mono hok45 hle44 fR30) _ _) fC31 hc48) ?_
    intro x49 bs54 hle55 hok56 hf57
    obtain ⟨⟨fR50, fC51⟩, ⟨fR52, fC53⟩⟩ := hf57
    refine ls_new rfl rfl (by kernel_rfl) 6 (fun g => .pointer (some ⟨g, 0, none⟩)) (.cells ⟨([Value.bool false] ++ ([Value.slice none 0 0] ++ [Value.slice none 0 0]))⟩ 59) (fun w => by kernel_rfl) ?_
    intro g58
    refine ls_storec (g := g58) (off := 0) (v := .agg ⟨([Value.bool t47.1.1] ++ ([Value.slice x49.1.1 t47.1.2.1.length x49.1.2] ++ [Value.slice x49.2.1.1 t47.1.2.2.length x49.2.1.2]))⟩) (vs := ([Value.bool t47.1.1] ++ ([Value.slice x49.1.1 t47.1.2.1.length x49.1.2] ++ [Value.slice x49.2.1.1 t47.1.2.2.length x49.2.1.2]))) (cs := ([Value.bool false] ++ ([Value.slice none 0 0] ++ [Value.slice none 0 0]))) (ty := 59) 6 rfl rfl rfl (by kernel_rfl) (by kernel_rfl) (by kernel_rfl) (by exact rfl) (by kernel_rfl) (len_app (len1 _) (len_app (len1 _) (len1 _))) (one_app (one_cons rfl one_nil) (one_app (one_cons rfl one_nil) (one_cons rfl one_nil))) (hl_of (Sub4.all _) (len_eq (len_app (len1 _) (len_app (len1 _) (len1 _))) (len_app (len1 _) (len_app (len1 _) (len1 _))))) (cs' := ([Value.bool t47.1.1] ++ ([Value.slice x49.1.1 t47.1.2.1.length x49.1.2] ++ [Value.slice x49.2.1.1 t47.1.2.2.length x49.2.1.2]))) (splc_all (len_eq (len_app (len1 _) (len_app (len1 _) (len1 _))) (len_app (len1 _) (len_app (len1 _) (len1 _))))) ?_
    refine ls_end ?_
    refine qn_then ?_
    refine cs_seq ?_
    refine cs_region (l := [_, _, _, _]) ?_
    refine ls_val (v := .func (.func 34) #[] #[]) rfl rfl (by kernel_rfl) (fun w => by kernel_rfl) ?_
    refine ls_val (v := .pointer (some ⟨x5.1, 0, none⟩)) rfl rfl (by kernel_rfl) (fun w => by kernel_rfl) ?_
    refine ls_val (v := .slice A2 l2.length c2) rfl rfl (by kernel_rfl) (fun w => by kernel_rfl) ?_
    obtain ⟨t59, hc60, H⟩ := bind_some H
    refine ls_callf (fid := 34) (vals := #[.pointer (some ⟨x5.1, 0, none⟩), .slice A2 l2.length c2]) (X := (Option Addr × Nat) × (Option Addr × Nat) × (Option Addr × Nat)) (fun x => .tuple #[]) (fun x => stl [Ck.var 66 x5.1 ((([Value.int .i64 t59.1.1.1] ++ [Value.int .i64 t59.1.1.2]) ++ ([Value.bool t59.1.2.1] ++ ([Value.int .i64 t59.1.2.2.1] ++ ([Value.slice x.1.1 t59.1.2.2.2.1.length x.1.2] ++ ([Value.map (some x5.2.2.2.1)] ++ [Value.slice x.2.1.1 t59.1.2.2.2.2.2.length x.2.1.2])))))), Ck.m1 x5.2.2.2.1 t59.2.1 x.2.2.1 t59.2.2.length x.2.2.2, Ck.sl T24 x.2.2.1 x.2.2.2 t59.2.2]) (fun x B => (Ro B x.1.1 (em T24 t59.1.2.2.2.1) ∧ t59.1.2.2.2.1.length ≤ x.1.2) ∧ (Ro B x.2.1.1 (em T24 t59.1.2.2.2.2.2) ∧ t59.1.2.2.2.2.2.length ≤ x.2.1.2)) [0, 1, 2] [Ck.var 66 x5.1 ((([Value.int .i64 t25.1.1.1] ++ [Value.int .i64 t25.1.1.2]) ++ ([Value.bool t25.1.2.1] ++ ([Value.int .i64 t25.1.2.2.1] ++ ([Value.slice x27.1.1 t25.1.2.2.2.1.length x27.1.2] ++ ([Value.map (some x5.2.2.2.1)] ++ [Value.slice x27.2.1.1 t25.1.2.2.2.2.2.length x27.2.1.2])))))), Ck.m1 x5.2.2.2.1 t47.2.1 x49.2.2.1 t47.2.2.length x49.2.2.2, Ck.sl T24 x49.2.2.1 x49.2.2.2 t47.2.2] 7 rfl rfl (by kernel_rfl) (fun w => by kernel_rfl) ⟨by exact rfl, by exact rfl, by exact rfl, trivial⟩ (by decide) (fun x b b' h hf => ⟨⟨h _ _ hf.1.1, hf.1.2⟩, ⟨h _ _ hf.2.1, hf.2.2⟩⟩) (fun w hs hb => shadowboxlaw10_AllocMarks_1.calls k x5.1 x27.1.1 x27.1.2 x5.2.2.2.1 x27.2.1.1 x27.2.1.2 (t25.1.1, t25.1.2.1, t25.1.2.2.1, t25.1.2.2.2.1, (), t25.1.2.2.2.2.2) x49.2.2.1 x49.2.2.2 (t47.2.1, t47.2.2) A2 c2 l2 t59 (lent bs54 w [Ck.var 66 x5.1 ((([Value.int .i64 t25.1.1.1] ++ [Value.int .i64 t25.1.1.2]) ++ ([Value.bool t25.1.2.1] ++ ([Value.int .i64 t25.1.2.2.1] ++ ([Value.slice x27.1.1 t25.1.2.2.2.1.length x27.1.2] ++ ([Value.map (some x5.2.2.2.1)] ++ [Value.slice x27.2.1.1 t25.1.2.2.2.2.2.length x27.2.1.2])))))), Ck.m1 x5.2.2.2.1 t47.2.1 x49.2.2.1 t47.2.2.length x49.2.2.2, Ck.sl T24 x49.2.2.1 x49.2.2.2 t47.2.2] []) hb (hs.ro (Ro.mono hok56 hle55 (Ro.mono hok45 hle44 fR28)) _ _) fC29 (hs.ro (Ro.mono hok56 hle55 (Ro.mono hok45 hle44 fR30)) _ _) fC31 (hs.ro (Ro.mono hok56 hle55 (Ro.mono hok45 hle44 (Ro.mono hok34 hle33 (Ro.mono hok23 hle22 (Ro.mono hok12 hle11 R2))))) _ _) C2 hc60) ?_
    intro x61 bs66 hle67 hok68 hf69
    obtain ⟨⟨fR62, fC63⟩, ⟨fR64, fC65⟩⟩ := hf69
    refine ls_end ?_
    refine qn_then ?_
    refine cs_seq ?_
    refine cs_region (l := [_, _, _]) ?_
    refine ls_val (v := .pointer (some ⟨x5.1, 0, none⟩)) rfl rfl (by kernel_rfl) (fun w => by kernel_rfl) ?_
    refine ls_loadagg (a := ⟨g58, 0, none⟩) (sub := ([Value.bool t47.1.1] ++ ([Value.slice x49.1.1 t47.1.2.1.length x49.1.2] ++ [Value.slice x49.2.1.1 t47.1.2.2.length x49.2.1.2]))) rfl rfl (by kernel_rfl) rfl (by kernel_rfl) (by kernel_rfl) (by kernel_rfl) (len_app (len1 _) (len_app (len1 _) (len1 _))) (fun w hs => (hs.vars (k := 6) (by exact rfl) (Sub4.all _))) ?_
    obtain ⟨t70, hc71, H⟩ := bind_some H
    refine ls_callg (fid := 37) (vals := #[.pointer (some ⟨x5.1, 0, none⟩), .agg ⟨([Value.bool t47.1.1] ++ ([Value.slice x49.1.1 t47.1.2.1.length x49.1.2] ++ [Value.slice x49.2.1.1 t47.1.2.2.length x49.2.1.2]))⟩]) (X := (Option Addr × Nat) × (Option Addr × Nat) × (Option Addr × Nat)) (fun x => .tuple #[]) (fun x => stl [Ck.var 66 x5.1 ((([Value.int .i64 t70.1.1.1] ++ [Value.int .i64 t70.1.1.2]) ++ ([Value.bool t70.1.2.1] ++ ([Value.int .i64 t70.1.2.2.1] ++ ([Value.slice x.1.1 t70.1.2.2.2.1.length x.1.2] ++ ([Value.map (some x5.2.2.2.1)] ++ [Value.slice x.2.1.1 t70.1.2.2.2.2.2.length x.2.1.2])))))), Ck.m1 x5.2.2.2.1 t70.2.1 x.2.2.1 t70.2.2.length x.2.2.2, Ck.sl T24 x.2.2.1 x.2.2.2 t70.2.2]) (fun x B => (Ro B x.1.1 (em T24 t70.1.2.2.2.1) ∧ t70.1.2.2.2.1.length ≤ x.1.2) ∧ (Ro B x.2.1.1 (em T24 t70.1.2.2.2.2.2) ∧ t70.1.2.2.2.2.2.length ≤ x.2.1.2)) [0, 1, 2] [Ck.var 66 x5.1 ((([Value.int .i64 t59.1.1.1] ++ [Value.int .i64 t59.1.1.2]) ++ ([Value.bool t59.1.2.1] ++ ([Value.int .i64 t59.1.2.2.1] ++ ([Value.slice x61.1.1 t59.1.2.2.2.1.length x61.1.2] ++ ([Value.map (some x5.2.2.2.1)] ++ [Value.slice x61.2.1.1 t59.1.2.2.2.2.2.length x61.2.1.2])))))), Ck.m1 x5.2.2.2.1 t59.2.1 x61.2.2.1 t59.2.2.length x61.2.2.2, Ck.sl T24 x61.2.2.1 x61.2.2.2 t59.2.2] 7 rfl rfl (by kernel_rfl) (fun w => by kernel_rfl) ⟨by exact rfl, by exact rfl, by exact rfl, trivial⟩ (by decide) (fun x b b' h hf => ⟨⟨h _ _ hf.1.1, hf.1.2⟩, ⟨h _ _ hf.2.1, hf.2.2⟩⟩) (fun w hs hb => alloc_Alloc_Undo.calls k x5.1 x61.1.1 x61.1.2 x5.2.2.2.1 x61.2.1.1 x61.2.1.2 (t59.1.1, t59.1.2.1, t59.1.2.2.1, t59.1.2.2.2.1, (), t59.1.2.2.2.2.2) x61.2.2.1 x61.2.2.2 (t59.2.1, t59.2.2) x49.1.1 x49.1.2 x49.2.1.1 x49.2.1.2 (t47.1.1, t47.1.2.1, t47.1.2.2) t70 (lent bs66 w [Ck.var 66 x5.1 ((([Value.int .i64 t59.1.1.1] ++ [Value.int .i64 t59.1.1.2]) ++ ([Value.bool t59.1.2.1] ++ ([Value.int .i64 t59.1.2.2.1] ++ ([Value.slice x61.1.1 t59.1.2.2.2.1.length x61.1.2] ++ ([Value.map (some x5.2.2.2.1)] ++ [Value.slice x61.2.1.1 t59.1.2.2.2.2.2.length x61.2.1.2])))))), Ck.m1 x5.2.2.2.1 t59.2.1 x61.2.2.1 t59.2.2.length x61.2.2.2, Ck.sl T24 x61.2.2.1 x61.2.2.2 t59.2.2] []) hb (hs.ro fR62 _ _) fC63 (hs.ro fR64 _ _) fC65 (hs.ro (Ro.mono hok68 hle67 fR50) _ _) fC51 (hs.ro (Ro.mono hok68 hle67 fR52) _ _) fC53 hc71) ?_
    intro x72 hf77
    obtain ⟨⟨fR73, fC74⟩, ⟨fR75, fC76⟩⟩ := hf77
    refine ls_end ?_
    refine qn_then ?_
    refine cs_seq ?_
    refine cs_region (l := [_, _, _]) ?_
    refine ls_val (v := .pointer (some ⟨x5.1, 0, none⟩)) rfl rfl (by kernel_rfl) (fun w => by kernel_rfl) ?_
    refine ls_val (v := .agg ⟨([Value.bool false] ++ ([Value.slice none 0 0] ++ [Value.slice none 0 0]))⟩) rfl rfl (by kernel_rfl) (fun w => by kernel_rfl) ?_
    obtain ⟨t78, hc79, H⟩ := bind_some H
    refine ls_callg (fid := 37) (vals := #[.pointer (some ⟨x5.1, 0, none⟩), .agg ⟨([Value.bool false] ++ ([Value.slice none 0 0] ++ [Value.slice none 0 0]))⟩]) (X := (Option Addr × Nat) × (Option Addr × Nat) × (Option Addr × Nat)) (fun x => .tuple #[]) (fun x => stl [Ck.var 66 x5.1 ((([Value.int .i64 t78.1.1.1] ++ [Value.int .i64 t78.1.1.2]) ++ ([Value.bool t78.1.2.1] ++ ([Value.int .i64 t78.1.2.2.1] ++ ([Value.slice x.1.1 t78.1.2.2.2.1.length x.1.2] ++ ([Value.map (some x5.2.2.2.1)] ++ [Value.slice x.2.1.1 t78.1.2.2.2.2.2.length x.2.1.2])))))), Ck.m1 x5.2.2.2.1 t78.2.1 x.2.2.1 t78.2.2.length x.2.2.2, Ck.sl T24 x.2.2.1 x.2.2.2 t78.2.2]) (fun x B => (Ro B x.1.1 (em T24 t78.1.2.2.2.1) ∧ t78.1.2.2.2.1.length ≤ x.1.2) ∧ (Ro B x.2.1.1 (em T24 t78.1.2.2.2.2.2) ∧ t78.1.2.2.2.2.2.length ≤ x.2.1.2)) [0, 1, 2] [Ck.var 66 x5.1 ((([Value.int .i64 t70.1.1.1] ++ [Value.int .i64 t70.1.1.2]) ++ ([Value.bool t70.1.2.1] ++ ([Value.int .i64 t70.1.2.2.1] ++ ([Value.slice x72.1.1 t70.1.2.2.2.1.length x72.1.2] ++ ([Value.map (some x5.2.2.2.1)] ++ [Value.slice x72.2.1.1 t70.1.2.2.2.2.2.length x72.2.1.2])))))), Ck.m1 x5.2.2.2.1 t70.2.1 x72.2.2.1 t70.2.2.length x72.2.2.2, Ck.sl T24 x72.2.2.1 x72.2.2.2 t70.2.2] 7 rfl rfl (by kernel_rfl) (fun w => by kernel_rfl) ⟨by exact rfl, by exact rfl, by exact rfl, trivial⟩ (by decide) (fun x b b' h hf => ⟨⟨h _ _ hf.1.1, hf.1.2⟩, ⟨h _ _ hf.2.1, hf.2.2⟩⟩) (fun w hs hb => alloc_Alloc_Undo.calls k x5.1 x72.1.1 x72.1.2 x5.2.2.2.1 x72.2.1.1 x72.2.1.2 (t70.1.1, t70.1.2.1, t70.1.2.2.1, t70.1.2.2.2.1, (), t70.1.2.2.2.2.2) x72.2.2.1 x72.2.2.2 (t70.2.1, t70.2.2) none 0 none 0 (false, ([] : List (Int × Int)), ([] : List (Int × Int))) t78 (lent bs66 w [Ck.var 66 x5.1 ((([Value.int .i64 t70.1.1.1] ++ [Value.int .i64 t70.1.1.2]) ++ ([Value.bool t70.1.2.1] ++ ([Value.int .i64 t70.1.2.2.1] ++ ([Value.slice x72.1.1 t70.1.2.2.2.1.length x72.1.2] ++ ([Value.map (some x5.2.2.2.1)] ++ [Value.slice x72.2.1.1 t70.1.2.2.2.2.2.length x72.2.1.2])))))), Ck.m1 x5.2.2.2.1 t70.2.1 x72.2.2.1 t70.2.2.length x72.2.2.2, Ck.sl T24 x72.2.2.1 x72.2.2.2 t70.2.2] []) hb (hs.ro fR73 _ _) fC74 (hs.ro fR75 _ _) fC76 (Ro.nil _ _) (Nat.le_refl 0) (Ro.nil _ _) (Nat.le_refl 0) hc79) ?_
    intro x80 hf85
    obtain ⟨⟨fR81, fC82⟩, ⟨fR83, fC84⟩⟩ := hf85
    refine ls_end ?_
    refine qn_then ?_
    refine cs_cut (fun f S => ∃ (fR : Fr) (Am1_2_1 : Option Addr) (cm1_2_1 : Nat) (m1_2 : (Bool × (List (Int × Int)))) (Am4_2_1 : Option Addr) (cm4_2_1 : Nat) (m4_2 : (Bool × (List (Int × Int)))), f = upd (upd (upd (upd fR 1 (.slice A1 l1.length c1)) 7 (.pointer (some ⟨x5.1, 0, none⟩))) 9 (.pointer (some ⟨x16.1, 0, none⟩))) 11 (.func (.func 34) #[] #[]) ∧ S = sput (sput (sput (sput (sput (sput s0 0 (some (Ck.var 66 x5.1 ((([Value.int .i64 t78.1.1.1] ++ [Value.int .i64 t78.1.1.2]) ++ ([Value.bool t78.1.2.1] ++ ([Value.int .i64 t78.1.2.2.1] ++ ([Value.slice x80.1.1 t78.1.2.2.2.1.length x80.1.2] ++ ([Value.map (some x5.2.2.2.1)] ++ [Value.slice x80.2.1.1 t78.1.2.2.2.2.2.length x80.2.1.2]))))))))) 1 (some (Ck.m1 x5.2.2.2.1 m1_2.1 Am1_2_1 m1_2.2.length cm1_2_1))) 2 (some (Ck.sl T24 Am1_2_1 cm1_2_1 m1_2.2))) 3 (some (Ck.var 66 x16.1 ((([Value.int .i64 t36.1.1.1] ++ [Value.int .i64 t36.1.1.2]) ++ ([Value.bool t36.1.2.1] ++ ([Value.int .i64 t36.1.2.2.1] ++ ([Value.slice x38.1.1 t36.1.2.2.2.1.length x38.1.2] ++ ([Value.map (some x16.2.2.2.1)] ++ [Value.slice x38.2.1.1 t36.1.2.2.2.2.2.length x38.2.1.2]))))))))) 4 (some (Ck.m1 x16.2.2.2.1 m4_2.1 Am4_2_1 m4_2.2.length cm4_2_1))) 5 (some (Ck.sl T24 Am4_2_1 cm4_2_1 m4_2.2)) ∧ shadowboxlaw10_AllocMarks.jo2 k l1 t36 t78 m1_2 m4_2 = some r) ?_ ?_
    · skip
      refine cs_seq ?_
      refine cs_region (l := [_, _, _, _, _, _, _, _, _, _, _, _, _, _, _, _, _, _, _, _, _, _, _, _, _, _, _, _, _, _, _]) ?_
      refine ls_val (v := .pointer (some ⟨x5.1, 0, none⟩)) rfl rfl (by kernel_rfl) (fun w => by kernel_rfl) ?_
      obtain ⟨t147, hc148, H⟩ := bind_some H
      refine ls_callb (fid := 32) (vals := #[.pointer (some ⟨x5.1, 0, none⟩)]) (X := Unit) (fun x => .int .i64 t147) (fun x => stl [Ck.var 66 x5.1 ((([Value.int .i64 t78.1.1.1] ++ [Value.int .i64 t78.1.1.2]) ++ ([Value.bool t78.1.2.1] ++ ([Value.int .i64 t78.1.2.2.1] ++ ([Value.slice x80.1.1 t78.1.2.2.2.1.length x80.1.2] ++ ([Value.map (some x5.2.2.2.1)] ++ [Value.slice x80.2.1.1 t78.1.2.2.2.2.2.length x80.2.1.2])))))), Ck.m1 x5.2.2.2.1 t78.2.1 x80.2.2.1 t78.2.2.length x80.2.2.2, Ck.sl T24 x80.2.2.1 x80.2.2.2 t78.2.2]) [0, 1, 2] [] [Ck.var 66 x5.1 ((([Value.int .i64 t78.1.1.1] ++ [Value.int .i64 t78.1.1.2]) ++ ([Value.bool t78.1.2.1] ++ ([Value.int .i64 t78.1.2.2.1] ++ ([Value.slice x80.1.1 t78.1.2.2.2.1.length x80.1.2] ++ ([Value.map (some x5.2.2.2.1)] ++ [Value.slice x80.2.1.1 t78.1.2.2.2.2.2.length x80.2.1.2])))))), Ck.m1 x5.2.2.2.1 t78.2.1 x80.2.2.1 t78.2.2.length x80.2.2.2, Ck.sl T24 x80.2.2.1 x80.2.2.2 t78.2.2] [] 7 rfl rfl (by kernel_rfl) (fun w => by kernel_rfl) ⟨by exact rfl, by exact rfl, by exact rfl, trivial⟩ trivial (by decide) (fun w hs hb => alloc_Alloc_Free.calls k x5.1 x80.1.1 x80.1.2 x5.2.2.2.1 x80.2.1.1 x80.2.1.2 (t78.1.1, t78.1.2.1, t78.1.2.2.1, t78.1.2.2.2.1, (), t78.1.2.2.2.2.2) x80.2.2.1 x80.2.2.2 (t78.2.1, t78.2.2) t147 (lent bs66 w [Ck.var 66 x5.1 ((([Value.int .i64 t78.1.1.1] ++ [Value.int .i64 t78.1.1.2]) ++ ([Value.bool t78.1.2.1] ++ ([Value.int .i64 t78.1.2.2.1] ++ ([Value.slice x80.1.1 t78.1.2.2.2.1.length x80.1.2] ++ ([Value.map (some x5.2.2.2.1)] ++ [Value.slice x80.2.1.1 t78.1.2.2.2.2.2.length x80.2.1.2])))))), Ck.m1 x5.2.2.2.1 t78.2.1 x80.2.2.1 t78.2.2.length x80.2.2.2, Ck.sl T24 x80.2.2.1 x80.2.2.2 t78.2.2] []) hb (hs.ro fR81 _ _) fC82 (hs.ro fR83 _ _) fC84 hc148) ?_
      intro x149
      refine ls_val (v := .pointer (some ⟨x16.1, 0, none⟩)) rfl rfl (by kernel_rfl) (fun w => by kernel_rfl) ?_
      obtain ⟨t150, hc151, H⟩ := bind_some H
      refine ls_callb (fid := 32) (vals := #[.pointer (some ⟨x16.1, 0, none⟩)]) (X := Unit) (fun x => .int .i64 t150) (fun x => stl [Ck.var 66 x16.1 ((([Value.int .i64 t36.1.1.1] ++ [Value.int .i64 t36.1.1.2]) ++ ([Value.bool t36.1.2.1] ++ ([Value.int .i64 t36.1.2.2.1] ++ ([Value.slice x38.1.1 t36.1.2.2.2.1.length x38.1.2] ++ ([Value.map (some x16.2.2.2.1)] ++ [Value.slice x38.2.1.1 t36.1.2.2.2.2.2.length x38.2.1.2])))))), Ck.m1 x16.2.2.2.1 t36.2.1 x38.2.2.1 t36.2.2.length x38.2.2.2, Ck.sl T24 x38.2.2.1 x38.2.2.2 t36.2.2]) [3, 4, 5] [] [Ck.var 66 x16.1 ((([Value.int .i64 t36.1.1.1] ++ [Value.int .i64 t36.1.1.2]) ++ ([Value.bool t36.1.2.1] ++ ([Value.int .i64 t36.1.2.2.1] ++ ([Value.slice x38.1.1 t36.1.2.2.2.1.length x38.1.2] ++ ([Value.map (some x16.2.2.2.1)] ++ [Value.slice x38.2.1.1 t36.1.2.2.2.2.2.length x38.2.1.2])))))), Ck.m1 x16.2.2.2.1 t36.2.1 x38.2.2.1 t36.2.2.length x38.2.2.2, Ck.sl T24 x38.2.2.1 x38.2.2.2 t36.2.2] [] 7 rfl rfl (by kernel_rfl) (fun w => by kernel_rfl) ⟨by exact rfl, by exact rfl, by exact rfl, trivial⟩ trivial (by decide) (fun w hs hb => alloc_Alloc_Free.calls k x16.1 x38.1.1 x38.1.2 x16.2.2.2.1 x38.2.1.1 x38.2.1.2 (t36.1.1, t36.1.2.1, t36.1.2.2.1, t36.1.2.2.2.1, (), t36.1.2.2.2.2.2) x38.2.2.1 x38.2.2.2 (t36.2.1, t36.2.2) t150 (lent bs66 w [Ck.var 66 x16.1 ((([Value.int .i64 t36.1.1.1] ++ [Value.int .i64 t36.1.1.2]) ++ ([Value.bool t36.1.2.1] ++ ([Value.int .i64 t36.1.2.2.1] ++ ([Value.slice x38.1.1 t36.1.2.2.2.1.length x38.1.2] ++ ([Value.map (some x16.2.2.2.1)] ++ [Value.slice x38.2.1.1 t36.1.2.2.2.2.2.length x38.2.1.2])))))), Ck.m1 x16.2.2.2.1 t36.2.1 x38.2.2.1 t36.2.2.length x38.2.2.2, Ck.sl T24 x38.2.2.1 x38.2.2.2 t36.2.2] []) hb (hs.ro (Ro.mono hok68 hle67 (Ro.mono hok56 hle55 fR39)) _ _) fC40 (hs.ro (Ro.mono hok68 hle67 (Ro.mono hok56 hle55 fR41)) _ _) fC42 hc151) ?_
      intro x152
      refine ls_val (v := .bool (!decide (t147 = t150))) rfl rfl (by kernel_rfl) (fun w => by kernel_rfl) ?_
      refine ls_val (v := .bool (!decide (t147 = t150))) rfl rfl (by kernel_rfl) (fun w => by kernel_rfl) ?_
      by_cases q153 : t147 = t150
      · replace H := ite_t q153 H
        refine ls_know (c := false) (congrArg Bool.not (dec_t q153)) 70 (by kernel_rfl) ?_
        refine ls_on (j := 5) (t := 70) (b := false) rfl rfl (by kernel_rfl) (by kernel_rfl) ?_
        refine ls_val (v := .pointer (some ⟨x5.1, 0, none⟩)) rfl rfl (by kernel_rfl) (fun w => by kernel_rfl) ?_
        refine ls_on (j := 5) (t := 70) (b := false) rfl rfl (by kernel_rfl) (by kernel_rfl) ?_
        obtain ⟨t154, hc155, H⟩ := bind_some H
        refine ls_callb (fid := 33) (vals := #[.pointer (some ⟨x5.1, 0, none⟩)]) (X := (Option Addr × Nat)) (fun x => .int .i64 t154.1) (fun x => stl [Ck.var 66 x5.1 ((([Value.int .i64 t78.1.1.1] ++ [Value.int .i64 t78.1.1.2]) ++ ([Value.bool t78.1.2.1] ++ ([Value.int .i64 t78.1.2.2.1] ++ ([Value.slice x80.1.1 t78.1.2.2.2.1.length x80.1.2] ++ ([Value.map (some x5.2.2.2.1)] ++ [Value.slice x80.2.1.1 t78.1.2.2.2.2.2.length x80.2.1.2])))))), Ck.m1 x5.2.2.2.1 t154.2.1 x.1 t154.2.2.length x.2, Ck.sl T24 x.1 x.2 t154.2.2]) [0, 1, 2] [] [Ck.var 66 x5.1 ((([Value.int .i64 t78.1.1.1] ++ [Value.int .i64 t78.1.1.2]) ++ ([Value.bool t78.1.2.1] ++ ([Value.int .i64 t78.1.2.2.1] ++ ([Value.slice x80.1.1 t78.1.2.2.2.1.length x80.1.2] ++ ([Value.map (some x5.2.2.2.1)] ++ [Value.slice x80.2.1.1 t78.1.2.2.2.2.2.length x80.2.1.2])))))), Ck.m1 x5.2.2.2.1 t78.2.1 x80.2.2.1 t78.2.2.length x80.2.2.2, Ck.sl T24 x80.2.2.1 x80.2.2.2 t78.2.2] [] 7 rfl rfl (by kernel_rfl) (fun w => by kernel_rfl) ⟨by exact rfl, by exact rfl, by exact rfl, trivial⟩ trivial (by decide) (fun w hs hb => alloc_Alloc_Waiting.calls k x5.1 x80.1.1 x80.1.2 x5.2.2.2.1 x80.2.1.1 x80.2.1.2 (t78.1.1, t78.1.2.1, t78.1.2.2.1, t78.1.2.2.2.1, (), t78.1.2.2.2.2.2) x80.2.2.1 x80.2.2.2 (t78.2.1, t78.2.2) t154 (lent bs66 w [Ck.var 66 x5.1 ((([Value.int .i64 t78.1.1.1] ++ [Value.int .i64 t78.1.1.2]) ++ ([Value.bool t78.1.2.1] ++ ([Value.int .i64 t78.1.2.2.1] ++ ([Value.slice x80.1.1 t78.1.2.2.2.1.length x80.1.2] ++ ([Value.map (some x5.2.2.2.1)] ++ [Value.slice x80.2.1.1 t78.1.2.2.2.2.2.length x80.2.1.2])))))), Ck.m1 x5.2.2.2.1 t78.2.1 x80.2.2.1 t78.2.2.length x80.2.2.2, Ck.sl T24 x80.2.2.1 x80.2.2.2 t78.2.2] []) hb (hs.ro fR81 _ _) fC82 (hs.ro fR83 _ _) fC84 hc155) ?_
        intro x156
        refine ls_on (j := 5) (t := 70) (b := false) rfl rfl (by kernel_rfl) (by kernel_rfl) ?_
        refine ls_val (v := .pointer (some ⟨x16.1, 0, none⟩)) rfl rfl (by kernel_rfl) (fun w => by kernel_rfl) ?_
        refine ls_on (j := 5) (t := 70) (b := false) rfl rfl (by kernel_rfl) (by kernel_rfl) ?_
        obtain ⟨t157, hc158, H⟩ := bind_some H
        refine ls_callb (fid := 33) (vals := #[.pointer (some ⟨x16.1, 0, none⟩)]) (X := (Option Addr × Nat)) (fun x => .int .i64 t157.1) (fun x => stl [Ck.var 66 x16.1 ((([Value.int .i64 t36.1.1.1] ++ [Value.int .i64 t36.1.1.2]) ++ ([Value.bool t36.1.2.1] ++ ([Value.int .i64 t36.1.2.2.1] ++ ([Value.slice x38.1.1 t36.1.2.2.2.1.length x38.1.2] ++ ([Value.map (some x16.2.2.2.1)] ++ [Value.slice x38.2.1.1 t36.1.2.2.2.2.2.length x38.2.1.2])))))), Ck.m1 x16.2.2.2.1 t157.2.1 x.1 t157.2.2.length x.2, Ck.sl T24 x.1 x.2 t157.2.2]) [3, 4, 5] [] [Ck.var 66 x16.1 ((([Value.int .i64 t36.1.1.1] ++ [Value.int .i64 t36.1.1.2]) ++ ([Value.bool t36.1.2.1] ++ ([Value.int .i64 t36.1.2.2.1] ++ ([Value.slice x38.1.1 t36.1.2.2.2.1.length x38.1.2] ++ ([Value.map (some x16.2.2.2.1)] ++ [Value.slice x38.2.1.1 t36.1.2.2.2.2.2.length x38.2.1.2])))))), Ck.m1 x16.2.2.2.1 t36.2.1 x38.2.2.1 t36.2.2.length x38.2.2.2, Ck.sl T24 x38.2.2.1 x38.2.2.2 t36.2.2] [] 7 rfl rfl (by kernel_rfl) (fun w => by kernel_rfl) ⟨by exact rfl, by exact rfl, by exact rfl, trivial⟩ trivial (by decide) (fun w hs hb => alloc_Alloc_Waiting.calls k x16.1 x38.1.1 x38.1.2 x16.2.2.2.1 x38.2.1.1 x38.2.1.2 (t36.1.1, t36.1.2.1, t36.1.2.2.1, t36.1.2.2.2.1, (), t36.1.2.2.2.2.2) x38.2.2.1 x38.2.2.2 (t36.2.1, t36.2.2) t157 (lent bs66 w [Ck.var 66 x16.1 ((([Value.int .i64 t36.1.1.1] ++ [Value.int .i64 t36.1.1.2]) ++ ([Value.bool t36.1.2.1] ++ ([Value.int .i64 t36.1.2.2.1] ++ ([Value.slice x38.1.1 t36.1.2.2.2.1.length x38.1.2] ++ ([Value.map (some x16.2.2.2.1)] ++ [Value.slice x38.2.1.1 t36.1.2.2.2.2.2.length x38.2.1.2])))))), Ck.m1 x16.2.2.2.1 t36.2.1 x38.2.2.1 t36.2.2.length x38.2.2.2, Ck.sl T24 x38.2.2.1 x38.2.2.2 t36.2.2] []) hb (hs.ro (Ro.mono hok68 hle67 (Ro.mono hok56 hle55 fR39)) _ _) fC40 (hs.ro (Ro.mono hok68 hle67 (Ro.mono hok56 hle55 fR41)) _ _) fC42 hc158) ?_
        intro x159
        refine ls_on (j := 5) (t := 70) (b := false) rfl rfl (by kernel_rfl) (by kernel_rfl) ?_
        refine ls_val (v := .bool (!decide (t154.1 = t157.1))) rfl rfl (by kernel_rfl) (fun w => by kernel_rfl) ?_
        refine ls_val (v := .bool (!decide (t154.1 = t157.1))) rfl rfl (by kernel_rfl) (fun w => by kernel_rfl) ?_
        refine ls_val (v := .bool (!decide (t154.1 = t157.1))) rfl rfl (by kernel_rfl) (fun w => by kernel_rfl) ?_
        by_cases q160 : t154.1 = t157.1
        · replace H := ite_t q160 H
          refine ls_know (c := false) (congrArg Bool.not (dec_t q160)) 77 (by kernel_rfl) ?_
          refine ls_on (j := 12) (t := 77) (b := false) rfl rfl (by kernel_rfl) (by kernel_rfl) ?_
          refine ls_val (v := .pointer (some ⟨x5.1, 0, none⟩)) rfl rfl (by kernel_rfl) (fun w => by kernel_rfl) ?_
          refine ls_on (j := 12) (t := 77) (b := false) rfl rfl (by kernel_rfl) (by kernel_rfl) ?_
          obtain ⟨t161, hc162, H⟩ := bind_some H
          refine ls_callb (fid := 29) (vals := #[.pointer (some ⟨x5.1, 0, none⟩)]) (X := (Option Addr × Nat)) (fun x => .int .i64 t161.1) (fun x => stl [Ck.var 66 x5.1 ((([Value.int .i64 t78.1.1.1] ++ [Value.int .i64 t78.1.1.2]) ++ ([Value.bool t78.1.2.1] ++ ([Value.int .i64 t78.1.2.2.1] ++ ([Value.slice x80.1.1 t78.1.2.2.2.1.length x80.1.2] ++ ([Value.map (some x5.2.2.2.1)] ++ [Value.slice x80.2.1.1 t78.1.2.2.2.2.2.length x80.2.1.2])))))), Ck.m1 x5.2.2.2.1 t161.2.1 x.1 t161.2.2.length x.2, Ck.sl T24 x.1 x.2 t161.2.2]) [0, 1, 2] [] [Ck.var 66 x5.1 ((([Value.int .i64 t78.1.1.1] ++ [Value.int .i64 t78.1.1.2]) ++ ([Value.bool t78.1.2.1] ++ ([Value.int .i64 t78.1.2.2.1] ++ ([Value.slice x80.1.1 t78.1.2.2.2.1.length x80.1.2] ++ ([Value.map (some x5.2.2.2.1)] ++ [Value.slice x80.2.1.1 t78.1.2.2.2.2.2.length x80.2.1.2])))))), Ck.m1 x5.2.2.2.1 t154.2.1 x156.1 t154.2.2.length x156.2, Ck.sl T24 x156.1 x156.2 t154.2.2] [] 7 rfl rfl (by kernel_rfl) (fun w => by kernel_rfl) ⟨by exact rfl, by exact rfl, by exact rfl, trivial⟩ trivial (by decide) (fun w hs hb => alloc_Alloc_Used.calls k x5.1 x80.1.1 x80.1.2 x5.2.2.2.1 x80.2.1.1 x80.2.1.2 (t78.1.1, t78.1.2.1, t78.1.2.2.1, t78.1.2.2.2.1, (), t78.1.2.2.2.2.2) x156.1 x156.2 (t154.2.1, t154.2.2) t161 (lent bs66 w [Ck.var 66 x5.1 ((([Value.int .i64 t78.1.1.1] ++ [Value.int .i64 t78.1.1.2]) ++ ([Value.bool t78.1.2.1] ++ ([Value.int .i64 t78.1.2.2.1] ++ ([Value.slice x80.1.1 t78.1.2.2.2.1.length x80.1.2] ++ ([Value.map (some x5.2.2.2.1)] ++ [Value.slice x80.2.1.1 t78.1.2.2.2.2.2.length x80.2.1.2])))))), Ck.m1 x5.2.2.2.1 t154.2.1 x156.1 t154.2.2.length x156.2, Ck.sl T24 x156.1 x156.2 t154.2.2] []) hb (hs.ro fR81 _ _) fC82 (hs.ro fR83 _ _) fC84 hc162) ?_
          intro x163
          refine ls_on (j := 12) (t := 77) (b := false) rfl rfl (by kernel_rfl) (by kernel_rfl) ?_
          refine ls_val (v := .pointer (some ⟨x16.1, 0, none⟩)) rfl rfl (by kernel_rfl) (fun w => by kernel_rfl) ?_
          refine ls_on (j := 12) (t := 77) (b := false) rfl rfl (by kernel_rfl) (by kernel_rfl) ?_
          obtain ⟨t164, hc165, H⟩ := bind_some H
          refine ls_callb (fid := 29) (vals := #[.pointer (some ⟨x16.1, 0, none⟩)]) (X := (Option Addr × Nat)) (fun x => .int .i64 t164.1) (fun x => stl [Ck.var 66 x16.1 ((([Value.int .i64 t36.1.1.1] ++ [Value.int .i64 t36.1.1.2]) ++ ([Value.bool t36.1.2.1] ++ ([Value.int .i64 t36.1.2.2.1] ++ ([Value.slice x38.1.1 t36.1.2.2.2.1.length x38.1.2] ++ ([Value.map (some x16.2.2.2.1)] ++ [Value.slice x38.2.1.1 t36.1.2.2.2.2.2.length x38.2.1.2])))))), Ck.m1 x16.2.2.2.1 t164.2.1 x.1 t164.2.2.length x.2, Ck.sl T24 x.1 x.2 t164.2.2]) [3, 4, 5] [] [Ck.var 66 x16.1 ((([Value.int .i64 t36.1.1.1] ++ [Value.int .i64 t36.1.1.2]) ++ ([Value.bool t36.1.2.1] ++ ([Value.int .i64 t36.1.2.2.1] ++ ([Value.slice x38.1.1 t36.1.2.2.2.1.length x38.1.2] ++ ([Value.map (some x16.2.2.2.1)] ++ [Value.slice x38.2.1.1 t36.1.2.2.2.2.2.length x38.2.1.2])))))), Ck.m1 x16.2.2.2.1 t157.2.1 x159.1 t157.2.2.length x159.2, Ck.sl T24 x159.1 x159.2 t157.2.2] [] 7 rfl rfl (by kernel_rfl) (fun w => by kernel_rfl) ⟨by exact rfl, by exact rfl, by exact rfl, trivial⟩ trivial (by decide) (fun w hs hb => alloc_Alloc_Used.calls k x16.1 x38.1.1 x38.1.2 x16.2.2.2.1 x38.2.1.1 x38.2.1.2 (t36.1.1, t36.1.2.1, t36.1.2.2.1, t36.1.2.2.2.1, (), t36.1.2.2.2.2.2) x159.1 x159.2 (t157.2.1, t157.2.2) t164 (lent bs66 w [Ck.var 66 x16.1 ((([Value.int .i64 t36.1.1.1] ++ [Value.int .i64 t36.1.1.2]) ++ ([Value.bool t36.1.2.1] ++ ([Value.int .i64 t36.1.2.2.1] ++ ([Value.slice x38.1.1 t36.1.2.2.2.1.length x38.1.2] ++ ([Value.map (some x16.2.2.2.1)] ++ [Value.slice x38.2.1.1 t36.1.2.2.2.2.2.length x38.2.1.2])))))), Ck.m1 x16.2.2.2.1 t157.2.1 x159.1 t157.2.2.length x159.2, Ck.sl T24 x159.1 x159.2 t157.2.2] []) hb (hs.ro (Ro.mono hok68 hle67 (Ro.mono hok56 hle55 fR39)) _ _) fC40 (hs.ro (Ro.mono hok68 hle67 (Ro.mono hok56 hle55 fR41)) _ _) fC42 hc165) ?_
          intro x166
          refine ls_on (j := 12) (t := 77) (b := false) rfl rfl (by kernel_rfl) (by kernel_rfl) ?_
          refine ls_val (v := .bool (!decide (t161.1 = t164.1))) rfl rfl (by kernel_rfl) (fun w => by kernel_rfl) ?_
          refine ls_val (v := .bool (!decide (t161.1 = t164.1))) rfl rfl (by kernel_rfl) (fun w => by kernel_rfl) ?_
          refine ls_val (v := .bool (!decide (t161.1 = t164.1))) rfl rfl (by kernel_rfl) (fun w => by kernel_rfl) ?_
          by_cases q167 : t161.1 = t164.1
          · replace H := ite_t q167 H
            refine ls_know (c := false) (congrArg Bool.not (dec_t q167)) 84 (by kernel_rfl) ?_
            refine ls_on (j := 19) (t := 84) (b := false) rfl rfl (by kernel_rfl) (by kernel_rfl) ?_
            refine ls_val (v := .pointer (some ⟨x5.1, 0, none⟩)) rfl rfl (by kernel_rfl) (fun w => by kernel_rfl) ?_
            refine ls_on (j := 19) (t := 84) (b := false) rfl rfl (by kernel_rfl) (by kernel_rfl) ?_
            obtain ⟨t168, hc169, H⟩ := bind_some H
            refine ls_callb (fid := 32) (vals := #[.pointer (some ⟨x5.1, 0, none⟩)]) (X := Unit) (fun x => .int .i64 t168) (fun x => stl [Ck.var 66 x5.1 ((([Value.int .i64 t78.1.1.1] ++ [Value.int .i64 t78.1.1.2]) ++ ([Value.bool t78.1.2.1] ++ ([Value.int .i64 t78.1.2.2.1] ++ ([Value.slice x80.1.1 t78.1.2.2.2.1.length x80.1.2] ++ ([Value.map (some x5.2.2.2.1)] ++ [Value.slice x80.2.1.1 t78.1.2.2.2.2.2.length x80.2.1.2])))))), Ck.m1 x5.2.2.2.1 t161.2.1 x163.1 t161.2.2.length x163.2, Ck.sl T24 x163.1 x163.2 t161.2.2]) [0, 1, 2] [] [Ck.var 66 x5.1 ((([Value.int .i64 t78.1.1.1] ++ [Value.int .i64 t78.1.1.2]) ++ ([Value.bool t78.1.2.1] ++ ([Value.int .i64 t78.1.2.2.1] ++ ([Value.slice x80.1.1 t78.1.2.2.2.1.length x80.1.2] ++ ([Value.map (some x5.2.2.2.1)] ++ [Value.slice x80.2.1.1 t78.1.2.2.2.2.2.length x80.2.1.2])))))), Ck.m1 x5.2.2.2.1 t161.2.1 x163.1 t161.2.2.length x163.2, Ck.sl T24 x163.1 x163.2 t161.2.2] [] 7 rfl rfl (by kernel_rfl) (fun w => by kernel_rfl) ⟨by exact rfl, by exact rfl, by exact rfl, trivial⟩ trivial (by decide) (fun w hs hb => alloc_Alloc_Free.calls k x5.1 x80.1.1 x80.1.2 x5.2.2.2.1 x80.2.1.1 x80.2.1.2 (t78.1.1, t78.1.2.1, t78.1.2.2.1, t78.1.2.2.2.1, (), t78.1.2.2.2.2.2) x163.1 x163.2 (t161.2.1, t161.2.2) t168 (lent bs66 w [Ck.var 66 x5.1 ((([Value.int .i64 t78.1.1.1] ++ [Value.int .i64 t78.1.1.2]) ++ ([Value.bool t78.1.2.1] ++ ([Value.int .i64 t78.1.2.2.1] ++ ([Value.slice x80.1.1 t78.1.2.2.2.1.length x80.1.2] ++ ([Value.map (some x5.2.2.2.1)] ++ [Value.slice x80.2.1.1 t78.1.2.2.2.2.2.length x80.2.1.2])))))), Ck.m1 x5.2.2.2.1 t161.2.1 x163.1 t161.2.2.length x163.2, Ck.sl T24 x163.1 x163.2 t161.2.2] []) hb (hs.ro fR81 _ _) fC82 (hs.ro fR83 _ _) fC84 hc169) ?_
            intro x170
            refine ls_on (j := 19) (t := 84) (b := false) rfl rfl (by kernel_rfl) (by kernel_rfl) ?_
            refine ls_val (v := .pointer (some ⟨x5.1, 0, none⟩)) rfl rfl (by kernel_rfl) (fun w => by kernel_rfl) ?_
            refine ls_on (j := 19) (t := 84) (b := false) rfl rfl (by kernel_rfl) (by kernel_rfl) ?_
            obtain ⟨t171, hc172, H⟩ := bind_some H
            refine ls_callb (fid := 33) (vals := #[.pointer (some ⟨x5.1, 0, none⟩)]) (X := (Option Addr × Nat)) (fun x => .int .i64 t171.1) (fun x => stl [Ck.var 66 x5.1 ((([Value.int .i64 t78.1.1.1] ++ [Value.int .i64 t78.1.1.2]) ++ ([Value.bool t78.1.2.1] ++ ([Value.int .i64 t78.1.2.2.1] ++ ([Value.slice x80.1.1 t78.1.2.2.2.1.length x80.1.2] ++ ([Value.map (some x5.2.2.2.1)] ++ [Value.slice x80.2.1.1 t78.1.2.2.2.2.2.length x80.2.1.2])))))), Ck.m1 x5.2.2.2.1 t171.2.1 x.1 t171.2.2.length x.2, Ck.sl T24 x.1 x.2 t171.2.2]) [0, 1, 2] [] [Ck.var 66 x5.1 ((([Value.int .i64 t78.1.1.1] ++ [Value.int .i64 t78.1.1.2]) ++ ([Value.bool t78.1.2.1] ++ ([Value.int .i64 t78.1.2.2.1] ++ ([Value.slice x80.1.1 t78.1.2.2.2.1.length x80.1.2] ++ ([Value.map (some x5.2.2.2.1)] ++ [Value.slice x80.2.1.1 t78.1.2.2.2.2.2.length x80.2.1.2])))))), Ck.m1 x5.2.2.2.1 t161.2.1 x163.1 t161.2.2.length x163.2, Ck.sl T24 x163.1 x163.2 t161.2.2] [] 7 rfl rfl (by kernel_rfl) (fun w => by kernel_rfl) ⟨by exact rfl, by exact rfl, by exact rfl, trivial⟩ trivial (by decide) (fun w hs hb => alloc_Alloc_Waiting.calls k x5.1 x80.1.1 x80.1.2 x5.2.2.2.1 x80.2.1.1 x80.2.1.2 (t78.1.1, t78.1.2.1, t78.1.2.2.1, t78.1.2.2.2.1, (), t78.1.2.2.2.2.2) x163.1 x163.2 (t161.2.1, t161.2.2) t171 (lent bs66 w [Ck.var 66 x5.1 ((([Value.int .i64 t78.1.1.1] ++ [Value.int .i64 t78.1.1.2]) ++ ([Value.bool t78.1.2.1] ++ ([Value.int .i64 t78.1.2.2.1] ++ ([Value.slice x80.1.1 t78.1.2.2.2.1.length x80.1.2] ++ ([Value.map (some x5.2.2.2.1)] ++ [Value.slice x80.2.1.1 t78.1.2.2.2.2.2.length x80.2.1.2])))))), Ck.m1 x5.2.2.2.1 t161.2.1 x163.1 t161.2.2.length x163.2, Ck.sl T24 x163.1 x163.2 t161.2.2] []) hb (hs.ro fR81 _ _) fC82 (hs.ro fR83 _ _) fC84 hc172) ?_
            intro x173
            refine ls_on (j := 19) (t := 84) (b := false) rfl rfl (by kernel_rfl) (by kernel_rfl) ?_
            refine ls_val (v := .int .i64 (IntKind.wrap .i64 (t168 + t171.1))) rfl rfl (by kernel_rfl) (fun w => by kernel_rfl) ?_
            refine ls_on (j := 19) (t := 84) (b := false) rfl rfl (by kernel_rfl) (by kernel_rfl) ?_
            refine ls_val (v := .pointer (some ⟨x5.1, 0, none⟩)) rfl rfl (by kernel_rfl) (fun w => by kernel_rfl) ?_
            refine ls_on (j := 19) (t := 84) (b := false) rfl rfl (by kernel_rfl) (by kernel_rfl) ?_
            obtain ⟨t174, hc175, H⟩ := bind_some H
            refine ls_callb (fid := 29) (vals := #[.pointer (some ⟨x5.1, 0, none⟩)]) (X := (Option Addr × Nat)) (fun x => .int .i64 t174.1) (fun x => stl [Ck.var 66 x5.1 ((([Value.int .i64 t78.1.1.1] ++ [Value.int .i64 t78.1.1.2]) ++ ([Value.bool t78.1.2.1] ++ ([Value.int .i64 t78.1.2.2.1] ++ ([Value.slice x80.1.1 t78.1.2.2.2.1.length x80.1.2] ++ ([Value.map (some x5.2.2.2.1)] ++ [Value.slice x80.2.1.1 t78.1.2.2.2.2.2.length x80.2.1.2])))))), Ck.m1 x5.2.2.2.1 t174.2.1 x.1 t174.2.2.length x.2, Ck.sl T24 x.1 x.2 t174.2.2]) [0, 1, 2] [] [Ck.var 66 x5.1 ((([Value.int .i64 t78.1.1.1] ++ [Value.int .i64 t78.1.1.2]) ++ ([Value.bool t78.1.2.1] ++ ([Value.int .i64 t78.1.2.2.1] ++ ([Value.slice x80.1.1 t78.1.2.2.2.1.length x80.1.2] ++ ([Value.map (some x5.2.2.2.1)] ++ [Value.slice x80.2.1.1 t78.1.2.2.2.2.2.length x80.2.1.2])))))), Ck.m1 x5.2.2.2.1 t171.2.1 x173.1 t171.2.2.length x173.2, Ck.sl T24 x173.1 x173.2 t171.2.2] [] 7 rfl rfl (by kernel_rfl) (fun w => by kernel_rfl) ⟨by exact rfl, by exact rfl, by exact rfl, trivial⟩ trivial (by decide) (fun w hs hb => alloc_Alloc_Used.calls k x5.1 x80.1.1 x80.1.2 x5.2.2.2.1 x80.2.1.1 x80.2.1.2 (t78.1.1, t78.1.2.1, t78.1.2.2.1, t78.1.2.2.2.1, (), t78.1.2.2.2.2.2) x173.1 x173.2 (t171.2.1, t171.2.2) t174 (lent bs66 w [Ck.var 66 x5.1 ((([Value.int .i64 t78.1.1.1] ++ [Value.int .i64 t78.1.1.2]) ++ ([Value.bool t78.1.2.1] ++ ([Value.int .i64 t78.1.2.2.1] ++ ([Value.slice x80.1.1 t78.1.2.2.2.1.length x80.1.2] ++ ([Value.map (some x5.2.2.2.1)] ++ [Value.slice x80.2.1.1 t78.1.2.2.2.2.2.length x80.2.1.2])))))), Ck.m1 x5.2.2.2.1 t171.2.1 x173.1 t171.2.2.length x173.2, Ck.sl T24 x173.1 x173.2 t171.2.2] []) hb (hs.ro fR81 _ _) fC82 (hs.ro fR83 _ _) fC84 hc175) ?_
            intro x176
            refine ls_on (j := 19) (t := 84) (b := false) rfl rfl (by kernel_rfl) (by kernel_rfl) ?_
            obtain ⟨y177, hy178, H⟩ := lt_some H
            refine ls_val (v := .int .i64 (IntKind.wrap .i64 ((IntKind.wrap .i64 (t168 + t171.1)) + t174.1))) rfl rfl (by kernel_rfl) (fun w => by kernel_rfl) ?_
            refine ls_ren 92 (v := .int .i64 (IntKind.wrap .i64 ((IntKind.wrap .i64 (t168 + t171.1)) + t174.1))) (v' := .int .i64 y177) (by kernel_rfl) (by rw [hy178]) ?_
            refine ls_on (j := 19) (t := 84) (b := false) rfl rfl (by kernel_rfl) (by kernel_rfl) ?_
            refine ls_val (v := .int .i64 y1) rfl rfl (by kernel_rfl) (fun w => by kernel_rfl) ?_
            refine ls_on (j := 19) (t := 84) (b := false) rfl rfl (by kernel_rfl) (by kernel_rfl) ?_
            refine ls_val (v := .bool (!decide (y177 = y1))) rfl rfl (by kernel_rfl) (fun w => by kernel_rfl) ?_
            refine ls_val (v := .bool (!decide (y177 = y1))) rfl rfl (by kernel_rfl) (fun w => by kernel_rfl) ?_
            refine ls_end ?_
            refine qn_then ?_
            by_cases q179 : y177 = y1
            · replace H := ite_t q179 H
              refine cs_know (c := false) (congrArg Bool.not (dec_t q179)) 95 (by kernel_rfl) ?_
              refine cs_false (by kernel_rfl) ?_
              refine cs_skip' ?_
              refine qn_meet (sput (sput (sput (sput (sput (sput s0 0 (some (Ck.var 66 x5.1 ((([Value.int .i64 t78.1.1.1] ++ [Value.int .i64 t78.1.1.2]) ++ ([Value.bool t78.1.2.1] ++ ([Value.int .i64 t78.1.2.2.1] ++ ([Value.slice x80.1.1 t78.1.2.2.2.1.length x80.1.2] ++ ([Value.map (some x5.2.2.2.1)] ++ [Value.slice x80.2.1.1 t78.1.2.2.2.2.2.length x80.2.1.2]))))))))) 1 (some (Ck.m1 x5.2.2.2.1 t174.2.1 x176.1 t174.2.2.length x176.2))) 2 (some (Ck.sl T24 x176.1 x176.2 t174.2.2))) 3 (some (Ck.var 66 x16.1 ((([Value.int .i64 t36.1.1.1] ++ [Value.int .i64 t36.1.1.2]) ++ ([Value.bool t36.1.2.1] ++ ([Value.int .i64 t36.1.2.2.1] ++ ([Value.slice x38.1.1 t36.1.2.2.2.1.length x38.1.2] ++ ([Value.map (some x16.2.2.2.1)] ++ [Value.slice x38.2.1.1 t36.1.2.2.2.2.2.length x38.2.1.2]))))))))) 4 (some (Ck.m1 x16.2.2.2.1 t164.2.1 x166.1 t164.2.2.length x166.2))) 5 (some (Ck.sl T24 x166.1 x166.2 t164.2.2))) ⟨_, x176.1, x176.2, (t174.2.1, t174.2.2), x166.1, x166.2, (t164.2.1, t164.2.2), fr_next (fr_next (fr_next (fr_next (rfl) (by kernel_rfl)) (by kernel_rfl)) (by kernel_rfl)) (by kernel_rfl), rfl, H⟩ (sub_put (by exact rfl) (sub_put (by exact rfl) (sub_put (by exact rfl) (sub_put (by exact rfl) (sub_put (by exact rfl) (sub_put (by exact rfl) (sub_nil _)))))))
            · replace H := ite_f q179 H
              refine cs_know (c := true) (congrArg Bool.not (dec_f q179)) 95 (by kernel_rfl) ?_
              refine cs_true (by kernel_rfl) ?_
              refine cs_seq ?_
              refine cs_region (l := [_]) ?_
              refine ls_val (v := .bool false) rfl rfl (by kernel_rfl) (fun w => by kernel_rfl) ?_
              refine ls_end ?_
              refine qn_then ?_
              refine cs_ret' ?_
              refine qr_then ?_
              obtain rfl := Option.some.inj H
              refine qr_res (rs := [_]) rfl (fun w' hs => ⟨[.bool false], (res_tmp (by kernel_rfl) (.nil)), (), rfl, St.later hs0.ok (((((hle11.trans hle22).trans hle33).trans hle44).trans hle55).trans hle67) (hs.pick (ts := []) (cs := []) trivial (by decide))⟩)
          · replace H := ite_f q167 H
            refine ls_know (c := true) (congrArg Bool.not (dec_f q167)) 84 (by kernel_rfl) ?_
            refine ls_off (j := 19) (t := 84) (b := false) (c := true) rfl rfl (by kernel_rfl) (by kernel_rfl) rfl rfl (by kernel_rfl) ?_
            refine ls_off (j := 19) (t := 84) (b := false) (c := true) rfl rfl (by kernel_rfl) (by kernel_rfl) rfl rfl (by kernel_rfl) ?_
            refine ls_off (j := 19) (t := 84) (b := false) (c := true) rfl rfl (by kernel_rfl) (by kernel_rfl) rfl rfl (by kernel_rfl) ?_
            refine ls_off (j := 19) (t := 84) (b := false) (c := true) rfl rfl (by kernel_rfl) (by kernel_rfl) rfl rfl (by kernel_rfl) ?_
            refine ls_off (j := 19) (t := 84) (b := false) (c := true) rfl rfl (by kernel_rfl) (by kernel_rfl) rfl rfl (by kernel_rfl) ?_
            refine ls_off (j := 19) (t := 84) (b := false) (c := true) rfl rfl (by kernel_rfl) (by kernel_rfl) rfl rfl (by kernel_rfl) ?_
            refine ls_off (j := 19) (t := 84) (b := false) (c := true) rfl rfl (by kernel_rfl) (by kernel_rfl) rfl rfl (by kernel_rfl) ?_
            refine ls_off (j := 19) (t := 84) (b := false) (c := true) rfl rfl (by kernel_rfl) (by kernel_rfl) rfl rfl (by kernel_rfl) ?_
            refine ls_off (j := 19) (t := 84) (b := false) (c := true) rfl rfl (by kernel_rfl) (by kernel_rfl) rfl rfl (by kernel_rfl) ?_
            refine ls_off (j := 19) (t := 84) (b := false) (c := true) rfl rfl (by kernel_rfl) (by kernel_rfl) rfl rfl (by kernel_rfl) ?_
            refine ls_val (v := .bool true) rfl rfl (by kernel_rfl) (fun w => by kernel_rfl) ?_
            refine ls_end ?_
            refine qn_then ?_
            refine cs_true (by kernel_rfl) ?_
            refine cs_seq ?_
            refine cs_region (l := [_]) ?_
            refine ls_val (v := .bool false) rfl rfl (by kernel_rfl) (fun w => by kernel_rfl) ?_
            refine ls_end ?_
            refine qn_then ?_
            refine cs_ret' ?_
            refine qr_then ?_
            obtain rfl := Option.some.inj H
            refine qr_res (rs := [_]) rfl (fun w' hs => ⟨[.bool false], (res_tmp (by kernel_rfl) (.nil)), (), rfl, St.later hs0.ok (((((hle11.trans hle22).trans hle33).trans hle44).trans hle55).trans hle67) (hs.pick (ts := []) (cs := []) trivial (by decide))⟩)
        · replace H := ite_f q160 H
          refine ls_know (c := true) (congrArg Bool.not (dec_f q160)) 77 (by kernel_rfl) ?_
          refine ls_off (j := 12) (t := 77) (b := false) (c := true) rfl rfl (by kernel_rfl) (by kernel_rfl) rfl rfl (by kernel_rfl) ?_
          refine ls_off (j := 12) (t := 77) (b := false) (c := true) rfl rfl (by kernel_rfl) (by kernel_rfl) rfl rfl (by kernel_rfl) ?_
          refine ls_off (j := 12) (t := 77) (b := false) (c := true) rfl rfl (by kernel_rfl) (by kernel_rfl) rfl rfl (by kernel_rfl) ?_
          refine ls_off (j := 12) (t := 77) (b := false) (c := true) rfl rfl (by kernel_rfl) (by kernel_rfl) rfl rfl (by kernel_rfl) ?_
          refine ls_off (j := 12) (t := 77) (b := false) (c := true) rfl rfl (by kernel_rfl) (by kernel_rfl) rfl rfl (by kernel_rfl) ?_
          refine ls_val (v := .bool true) rfl rfl (by kernel_rfl) (fun w => by kernel_rfl) ?_
          refine ls_val (v := .bool true) rfl rfl (by kernel_rfl) (fun w => by kernel_rfl) ?_
          refine ls_off (j := 19) (t := 84) (b := false) (c := true) rfl rfl (by kernel_rfl) (by kernel_rfl) rfl rfl (by kernel_rfl) ?_
          refine ls_off (j := 19) (t := 84) (b := false) (c := true) rfl rfl (by kernel_rfl) (by kernel_rfl) rfl rfl (by kernel_rfl) ?_
          refine ls_off (j := 19) (t := 84) (b := false) (c := true) rfl rfl (by kernel_rfl) (by kernel_rfl) rfl rfl (by kernel_rfl) ?_
          refine ls_off (j := 19) (t := 84) (b := false) (c := true) rfl rfl (by kernel_rfl) (by kernel_rfl) rfl rfl (by kernel_rfl) ?_
          refine ls_off (j := 19) (t := 84) (b := false) (c := true) rfl rfl (by kernel_rfl) (by kernel_rfl) rfl rfl (by kernel_rfl) ?_
          refine ls_off (j := 19) (t := 84) (b := false) (c := true) rfl rfl (by kernel_rfl) (by kernel_rfl) rfl rfl (by kernel_rfl) ?_
          refine ls_off (j := 19) (t := 84) (b := false) (c := true) rfl rfl (by kernel_rfl) (by kernel_rfl) rfl rfl (by kernel_rfl) ?_
          refine ls_off (j := 19) (t := 84) (b := false) (c := true) rfl rfl (by kernel_rfl) (by kernel_rfl) rfl rfl (by kernel_rfl) ?_
          refine ls_off (j := 19) (t := 84) (b := false) (c := true) rfl rfl (by kernel_rfl) (by kernel_rfl) rfl rfl (by kernel_rfl) ?_
          refine ls_off (j := 19) (t := 84) (b := false) (c := true) rfl rfl (by kernel_rfl) (by kernel_rfl) rfl rfl (by kernel_rfl) ?_
          refine ls_val (v := .bool true) rfl rfl (by kernel_rfl) (fun w => by kernel_rfl) ?_
          refine ls_end ?_
          refine qn_then ?_
          refine cs_true (by kernel_rfl) ?_
          refine cs_seq ?_
          refine cs_region (l := [_]) ?_
          refine ls_val (v := .bool false) rfl rfl (by kernel_rfl) (fun w => by kernel_rfl) ?_
          refine ls_end ?_
          refine qn_then ?_
          refine cs_ret' ?_
          refine qr_then ?_
          obtain rfl := Option.some.inj H
          refine qr_res (rs := [_]) rfl (fun w' hs => ⟨[.bool false], (res_tmp (by kernel_rfl) (.nil)), (), rfl, St.later hs0.ok (((((hle11.trans hle22).trans hle33).trans hle44).trans hle55).trans hle67) (hs.pick (ts := []) (cs := []) trivial (by decide))⟩)
      · replace H := ite_f q153 H
        refine ls_know (c := true) (congrArg Bool.not (dec_f q153)) 70 (by kernel_rfl) ?_
        refine ls_off (j := 5) (t := 70) (b := false) (c := true) rfl rfl (by kernel_rfl) (by kernel_rfl) rfl rfl (by kernel_rfl) ?_
        refine ls_off (j := 5) (t := 70) (b := false) (c := true) rfl rfl (by kernel_rfl) (by kernel_rfl) rfl rfl (by kernel_rfl) ?_
        refine ls_off (j := 5) (t := 70) (b := false) (c := true) rfl rfl (by kernel_rfl) (by kernel_rfl) rfl rfl (by kernel_rfl) ?_
        refine ls_off (j := 5) (t := 70) (b := false) (c := true) rfl rfl (by kernel_rfl) (by kernel_rfl) rfl rfl (by kernel_rfl) ?_
        refine ls_off (j := 5) (t := 70) (b := false) (c := true) rfl rfl (by kernel_rfl) (by kernel_rfl) rfl rfl (by kernel_rfl) ?_
        refine ls_val (v := .bool true) rfl rfl (by kernel_rfl) (fun w => by kernel_rfl) ?_
        refine ls_val (v := .bool true) rfl rfl (by kernel_rfl) (fun w => by kernel_rfl) ?_
        refine ls_off (j := 12) (t := 77) (b := false) (c := true) rfl rfl (by kernel_rfl) (by kernel_rfl) rfl rfl (by kernel_rfl) ?_
        refine ls_off (j := 12) (t := 77) (b := false) (c := true) rfl rfl (by kernel_rfl) (by kernel_rfl) rfl rfl (by kernel_rfl) ?_
        refine ls_off (j := 12) (t := 77) (b := false) (c := true) rfl rfl (by kernel_rfl) (by kernel_rfl) rfl rfl (by kernel_rfl) ?_
        refine ls_off (j := 12) (t := 77) (b := false) (c := true) rfl rfl (by kernel_rfl) (by kernel_rfl) rfl rfl (by kernel_rfl) ?_
        refine ls_off (j := 12) (t := 77) (b := false) (c := true) rfl rfl (by kernel_rfl) (by kernel_rfl) rfl rfl (by kernel_rfl) ?_
        refine ls_val (v := .bool true) rfl rfl (by kernel_rfl) (fun w => by kernel_rfl) ?_
        refine ls_val (v := .bool true) rfl rfl (by kernel_rfl) (fun w => by kernel_rfl) ?_
        refine ls_off (j := 19) (t := 84) (b := false) (c := true) rfl rfl (by kernel_rfl) (by kernel_rfl) rfl rfl (by kernel_rfl) ?_
        refine ls_off (j := 19) (t := 84) (b := false) (c := true) rfl rfl (by kernel_rfl) (by kernel_rfl) rfl rfl (by kernel_rfl) ?_
        refine ls_off (j := 19) (t := 84) (b := false) (c := true) rfl rfl (by kernel_rfl) (by kernel_rfl) rfl rfl (by kernel_rfl) ?_
        refine ls_off (j := 19) (t := 84) (b := false) (c := true) rfl rfl (by kernel_rfl) (by kernel_rfl) rfl rfl (by kernel_rfl) ?_
        refine ls_off (j := 19) (t := 84) (b := false) (c := true) rfl rfl (by kernel_rfl) (by kernel_rfl) rfl rfl (by kernel_rfl) ?_
        refine ls_off (j := 19) (t := 84) (b := false) (c := true) rfl rfl (by kernel_rfl) (by kernel_rfl) rfl rfl (by kernel_rfl) ?_
        refine ls_off (j := 19) (t := 84) (b := false) (c := true) rfl rfl (by kernel_rfl) (by kernel_rfl) rfl rfl (by kernel_rfl) ?_
        refine ls_off (j := 19) (t := 84) (b := false) (c := true) rfl rfl (by kernel_rfl) (by kernel_rfl) rfl rfl (by kernel_rfl) ?_
        refine ls_off (j := 19) (t := 84) (b := false) (c := true) rfl rfl (by kernel_rfl) (by kernel_rfl) rfl rfl (by kernel_rfl) ?_
        refine ls_off (j := 19) (t := 84) (b := false) (c := true) rfl rfl (by kernel_rfl) (by kernel_rfl) rfl rfl (by kernel_rfl) ?_
        refine ls_val (v := .bool true) rfl rfl (by kernel_rfl) (fun w => by kernel_rfl) ?_
        refine ls_end ?_
        refine qn_then ?_
        refine cs_true (by kernel_rfl) ?_
        refine cs_seq ?_
        refine cs_region (l := [_]) ?_
        refine ls_val (v := .bool false) rfl rfl (by kernel_rfl) (fun w => by kernel_rfl) ?_
        refine ls_end ?_
        refine qn_then ?_
        refine cs_ret' ?_
        refine qr_then ?_
        obtain rfl := Option.some.inj H
        refine qr_res (rs := [_]) rfl (fun w' hs => ⟨[.bool false], (res_tmp (by kernel_rfl) (.nil)), (), rfl, St.later hs0.ok (((((hle11.trans hle22).trans hle33).trans hle44).trans hle55).trans hle67) (hs.pick (ts := []) (cs := []) trivial (by decide))⟩)
    · rintro f S ⟨fr2, Am1_2_1, cm1_2_1, m1_2, Am4_2_1, cm4_2_1, m4_2, rfl, rfl, H⟩
      replace H : ((shadowboxlaw10_AllocMarks_1.f k (t78.1.1, t78.1.2.1, t78.1.2.2.1, t78.1.2.2.2.1, (), t78.1.2.2.2.2.2) (m1_2.1, m1_2.2) l1).bind fun t86 => (shadowboxlaw10_AllocMarks_1.f k (t36.1.1, t36.1.2.1, t36.1.2.2.1, t36.1.2.2.2.1, (), t36.1.2.2.2.2.2) (m4_2.1, m4_2.2) l1).bind fun t97 => (alloc_Alloc_Commit.f k (t86.1.1, t86.1.2.1, t86.1.2.2.1, t86.1.2.2.2.1, (), t86.1.2.2.2.2.2) (t86.2.1, t86.2.2)).bind fun t108 => (alloc_Alloc_Commit.f k (t97.1.1, t97.1.2.1, t97.1.2.2.1, t97.1.2.2.2.1, (), t97.1.2.2.2.2.2) (t97.2.1, t97.2.2)).bind fun t119 => (alloc_Alloc_Spans.f k (t108.1.1, t108.1.2.1, t108.1.2.2.1, t108.1.2.2.2.1, (), t108.1.2.2.2.2.2) (t108.2.1, t108.2.2)).bind fun t130 => (alloc_Alloc_Spans.f k (t119.1.1, t119.1.2.1, t119.1.2.2.1, t119.1.2.2.2.1, (), t119.1.2.2.2.2.2) (t119.2.1, t119.2.2)).bind fun t133 => (if (t130.length : Int) = (t133.length : Int) then (shadowboxlaw10_AllocMarks.jo3 k t130 t133) else some false)) = some r := H
      refine cs_seq ?_
      refine cs_region (l := [_, _, _, _]) ?_
      refine ls_val (v := .func (.func 34) #[] #[]) rfl rfl (by kernel_rfl) (fun w => by kernel_rfl) ?_
      refine ls_val (v := .pointer (some ⟨x5.1, 0, none⟩)) rfl rfl (by kernel_rfl) (fun w => by kernel_rfl) ?_
      refine ls_val (v := .slice A1 l1.length c1) rfl rfl (by kernel_rfl) (fun w => by kernel_rfl) ?_
      obtain ⟨t86, hc87, H⟩ := bind_some H
      refine ls_callf (fid := 34) (vals := #[.pointer (some ⟨x5.1, 0, none⟩), .slice A1 l1.length c1]) (X := (Option Addr × Nat) × (Option Addr × Nat) × (Option Addr × Nat)) (fun x => .tuple #[]) (fun x => stl [Ck.var 66 x5.1 ((([Value.int .i64 t86.1.1.1] ++ [Value.int .i64 t86.1.1.2]) ++ ([Value.bool t86.1.2.1] ++ ([Value.int .i64 t86.1.2.2.1] ++ ([Value.slice x.1.1 t86.1.2.2.2.1.length x.1.2] ++ ([Value.map (some x5.2.2.2.1)] ++ [Value.slice x.2.1.1 t86.1.2.2.2.2.2.length x.2.1.2])))))), Ck.m1 x5.2.2.2.1 t86.2.1 x.2.2.1 t86.2.2.length x.2.2.2, Ck.sl T24 x.2.2.1 x.2.2.2 t86.2.2]) (fun x B => (Ro B x.1.1 (em T24 t86.1.2.2.2.1) ∧ t86.1.2.2.2.1.length ≤ x.1.2) ∧ (Ro B x.2.1.1 (em T24 t86.1.2.2.2.2.2) ∧ t86.1.2.2.2.2.2.length ≤ x.2.1.2)) [0, 1, 2] [Ck.var 66 x5.1 ((([Value.int .i64 t78.1.1.1] ++ [Value.int .i64 t78.1.1.2]) ++ ([Value.bool t78.1.2.1] ++ ([Value.int .i64 t78.1.2.2.1] ++ ([Value.slice x80.1.1 t78.1.2.2.2.1.length x80.1.2] ++ ([Value.map (some x5.2.2.2.1)] ++ [Value.slice x80.2.1.1 t78.1.2.2.2.2.2.length x80.2.1.2])))))), Ck.m1 x5.2.2.2.1 m1_2.1 Am1_2_1 m1_2.2.length cm1_2_1, Ck.sl T24 Am1_2_1 cm1_2_1 m1_2.2] 7 rfl rfl (by kernel_rfl) (fun w => by kernel_rfl) ⟨by exact rfl, by exact rfl, by exact rfl, trivial⟩ (by decide) (fun x b b' h hf => ⟨⟨h _ _ hf.1.1, hf.1.2⟩, ⟨h _ _ hf.2.1, hf.2.2⟩⟩) (fun w hs hb => shadowboxlaw10_AllocMarks_1.calls k x5.1 x80.1.1 x80.1.2 x5.2.2.2.1 x80.2.1.1 x80.2.1.2 (t78.1.1, t78.1.2.1, t78.1.2.2.1, t78.1.2.2.2.1, (), t78.1.2.2.2.2.2) Am1_2_1 cm1_2_1 (m1_2.1, m1_2.2) A1 c1 l1 t86 (lent bs66 w [Ck.var 66 x5.1 ((([Value.int .i64 t78.1.1.1] ++ [Value.int .i64 t78.1.1.2]) ++ ([Value.bool t78.1.2.1] ++ ([Value.int .i64 t78.1.2.2.1] ++ ([Value.slice x80.1.1 t78.1.2.2.2.1.length x80.1.2] ++ ([Value.map (some x5.2.2.2.1)] ++ [Value.slice x80.2.1.1 t78.1.2.2.2.2.2.length x80.2.1.2])))))), Ck.m1 x5.2.2.2.1 m1_2.1 Am1_2_1 m1_2.2.length cm1_2_1, Ck.sl T24 Am1_2_1 cm1_2_1 m1_2.2] []) hb (hs.ro fR81 _ _) fC82 (hs.ro fR83 _ _) fC84 (hs.ro (Ro.mono hok68 hle67 (Ro.mono hok56 hle55 (Ro.mono hok45 hle44 (Ro.mono hok34 hle33 (Ro.mono hok23 hle22 (Ro.mono hok12 hle11 R1)))))) _ _) C1 hc87) ?_
      intro x88 bs93 hle94 hok95 hf96
      obtain ⟨⟨fR89, fC90⟩, ⟨fR91, fC92⟩⟩ := hf96
      refine ls_end ?_
      refine qn_then ?_
      refine cs_seq ?_
      refine cs_region (l := [_, _, _, _]) ?_
      refine ls_val (v := .func (.func 34) #[] #[]) rfl rfl (by kernel_rfl) (fun w => by kernel_rfl) ?_
      refine ls_val (v := .pointer (some ⟨x16.1, 0, none⟩)) rfl rfl (by kernel_rfl) (fun w => by kernel_rfl) ?_
      refine ls_val (v := .slice A1 l1.length c1) rfl rfl (by kernel_rfl) (fun w => by kernel_rfl) ?_
      obtain ⟨t97, hc98, H⟩ := bind_some H
      refine ls_callf (fid := 34) (vals := #[.pointer (some ⟨x16.1, 0, none⟩), .slice A1 l1.length c1]) (X := (Option Addr × Nat) × (Option Addr × Nat) × (Option Addr × Nat)) (fun x => .tuple #[]) (fun x => stl [Ck.var 66 x16.1 ((([Value.int .i64 t97.1.1.1] ++ [Value.int .i64 t97.1.1.2]) ++ ([Value.bool t97.1.2.1] ++ ([Value.int .i64 t97.1.2.2.1] ++ ([Value.slice x.1.1 t97.1.2.2.2.1.length x.1.2] ++ ([Value.map (some x16.2.2.2.1)] ++ [Value.slice x.2.1.1 t97.1.2.2.2.2.2.length x.2.1.2])))))), Ck.m1 x16.2.2.2.1 t97.2.1 x.2.2.1 t97.2.2.length x.2.2.2, Ck.sl T24 x.2.2.1 x.2.2.2 t97.2.2]) (fun x B => (Ro B x.1.1 (em T24 t97.1.2.2.2.1) ∧ t97.1.2.2.2.1.length ≤ x.1.2) ∧ (Ro B x.2.1.1 (em T24 t97.1.2.2.2.2.2) ∧ t97.1.2.2.2.2.2.length ≤ x.2.1.2)) [3, 4, 5] [Ck.var 66 x16.1 ((([Value.int .i64 t36.1.1.1] ++ [Value.int .i64 t36.1.1.2]) ++ ([Value.bool t36.1.2.1] ++ ([Value.int .i64 t36.1.2.2.1] ++ ([Value.slice x38.1.1 t36.1.2.2.2.1.length x38.1.2] ++ ([Value.map (some x16.2.2.2.1)] ++ [Value.slice x38.2.1.1 t36.1.2.2.2.2.2.length x38.2.1.2])))))), Ck.m1 x16.2.2.2.1 m4_2.1 Am4_2_1 m4_2.2.length cm4_2_1, Ck.sl T24 Am4_2_1 cm4_2_1 m4_2.2] 7 rfl rfl (by kernel_rfl) (fun w => by kernel_rfl) ⟨by exact rfl, by exact rfl, by exact rfl, trivial⟩ (by decide) (fun x b b' h hf => ⟨⟨h _ _ hf.1.1, hf.1.2⟩, ⟨h _ _ hf.2.1, hf.2.2⟩⟩) (fun w hs hb => shadowboxlaw10_AllocMarks_1.calls k x16.1 x38.1.1 x38.1.2 x16.2.2.2.1 x38.2.1.1 x38.2.1.2 (t36.1.1, t36.1.2.1, t36.1.2.2.1, t36.1.2.2.2.1, (), t36.1.2.2.2.2.2) Am4_2_1 cm4_2_1 (m4_2.1, m4_2.2) A1 c1 l1 t97 (lent bs93 w [Ck.var 66 x16.1 ((([Value.int .i64 t36.1.1.1] ++ [Value.int .i64 t36.1.1.2]) ++ ([Value.bool t36.1.2.1] ++ ([Value.int .i64 t36.1.2.2.1] ++ ([Value.slice x38.1.1 t36.1.2.2.2.1.length x38.1.2] ++ ([Value.map (some x16.2.2.2.1)] ++ [Value.slice x38.2.1.1 t36.1.2.2.2.2.2.length x38.2.1.2])))))), Ck.m1 x16.2.2.2.1 m4_2.1 Am4_2_1 m4_2.2.length cm4_2_1, Ck.sl T24 Am4_2_1 cm4_2_1 m4_2.2] []) hb (hs.ro (Ro.mono hok95 hle94 (Ro.mono hok68 hle67 (Ro.mono hok56 hle55 fR39))) _ _) fC40 (hs.ro (Ro.mono hok95 hle94 (Ro.mono hok68 hle67 (Ro.mono hok56 hle55 fR41))) _ _) fC42 (hs.ro (Ro.mono hok95 hle94 (Ro.mono hok68 hle67 (Ro.mono hok56 hle55 (Ro.mono hok45 hle44 (Ro.mono hok34 hle33 (Ro.mono hok23 hle22 (Ro.mono hok12 hle11 R1))))))) _ _) C1 hc98) ?_
      intro x99 bs104 hle105 hok106 hf107
      obtain ⟨⟨fR100, fC101⟩, ⟨fR102, fC103⟩⟩ := hf107
      refine ls_end ?_
      refine qn_then ?_
      refine cs_seq ?_
      refine cs_region (l := [_, _]) ?_
      refine ls_val (v := .pointer (some ⟨x5.1, 0, none⟩)) rfl rfl (by kernel_rfl) (fun w => by kernel_rfl) ?_
      obtain ⟨t108, hc109, H⟩ := bind_some H
      refine ls_callf (fid := 31) (vals := #[.pointer (some ⟨x5.1, 0, none⟩)]) (X := (Option Addr × Nat) × (Option Addr × Nat) × (Option Addr × Nat)) (fun x => .tuple #[]) (fun x => stl [Ck.var 66 x5.1 ((([Value.int .i64 t108.1.1.1] ++ [Value.int .i64 t108.1.1.2]) ++ ([Value.bool t108.1.2.1] ++ ([Value.int .i64 t108.1.2.2.1] ++ ([Value.slice x.1.1 t108.1.2.2.2.1.length x.1.2] ++ ([Value.map (some x5.2.2.2.1)] ++ [Value.slice x.2.1.1 t108.1.2.2.2.2.2.length x.2.1.2])))))), Ck.m1 x5.2.2.2.1 t108.2.1 x.2.2.1 t108.2.2.length x.2.2.2, Ck.sl T24 x.2.2.1 x.2.2.2 t108.2.2]) (fun x B => (Ro B x.1.1 (em T24 t108.1.2.2.2.1) ∧ t108.1.2.2.2.1.length ≤ x.1.2) ∧ (Ro B x.2.1.1 (em T24 t108.1.2.2.2.2.2) ∧ t108.1.2.2.2.2.2.length ≤ x.2.1.2)) [0, 1, 2] [Ck.var 66 x5.1 ((([Value.int .i64 t86.1.1.1] ++ [Value.int .i64 t86.1.1.2]) ++ ([Value.bool t86.1.2.1] ++ ([Value.int .i64 t86.1.2.2.1] ++ ([Value.slice x88.1.1 t86.1.2.2.2.1.length x88.1.2] ++ ([Value.map (some x5.2.2.2.1)] ++ [Value.slice x88.2.1.1 t86.1.2.2.2.2.2.length x88.2.1.2])))))), Ck.m1 x5.2.2.2.1 t86.2.1 x88.2.2.1 t86.2.2.length x88.2.2.2, Ck.sl T24 x88.2.2.1 x88.2.2.2 t86.2.2] 7 rfl rfl (by kernel_rfl) (fun w => by kernel_rfl) ⟨by exact rfl, by exact rfl, by exact rfl, trivial⟩ (by decide) (fun x b b' h hf => ⟨⟨h _ _ hf.1.1, hf.1.2⟩, ⟨h _ _ hf.2.1, hf.2.2⟩⟩) (fun w hs hb => alloc_Alloc_Commit.calls k x5.1 x88.1.1 x88.1.2 x5.2.2.2.1 x88.2.1.1 x88.2.1.2 (t86.1.1, t86.1.2.1, t86.1.2.2.1, t86.1.2.2.2.1, (), t86.1.2.2.2.2.2) x88.2.2.1 x88.2.2.2 (t86.2.1, t86.2.2) t108 (lent bs104 w [Ck.var 66 x5.1 ((([Value.int .i64 t86.1.1.1] ++ [Value.int .i64 t86.1.1.2]) ++ ([Value.bool t86.1.2.1] ++ ([Value.int .i64 t86.1.2.2.1] ++ ([Value.slice x88.1.1 t86.1.2.2.2.1.length x88.1.2] ++ ([Value.map (some x5.2.2.2.1)] ++ [Value.slice x88.2.1.1 t86.1.2.2.2.2.2.length x88.2.1.2])))))), Ck.m1 x5.2.2.2.1 t86.2.1 x88.2.2.1 t86.2.2.length x88.2.2.2, Ck.sl T24 x88.2.2.1 x88.2.2.2 t86.2.2] []) hb (hs.ro (Ro.mono hok106 hle105 fR89) _ _) fC90 (hs.ro (Ro.mono hok106 hle105 fR91) _ _) fC92 hc109) ?_
      intro x110 bs115 hle116 hok117 hf118
      obtain ⟨⟨fR111, fC112⟩, ⟨fR113, fC114⟩⟩ := hf118
      refine ls_end ?_
      refine qn_then ?_
      refine cs_seq ?_
      refine cs_region (l := [_, _]) ?_
      refine ls_val (v := .pointer (some ⟨x16.1, 0, none⟩)) rfl rfl (by kernel_rfl) (fun w => by kernel_rfl) ?_
      obtain ⟨t119, hc120, H⟩ := bind_some H
      refine ls_callf (fid := 31) (vals := #[.pointer (some ⟨x16.1, 0, none⟩)]) (X := (Option Addr × Nat) × (Option Addr × Nat) × (Option Addr × Nat)) (fun x => .tuple #[]) (fun x => stl [Ck.var 66 x16.1 ((([Value.int .i64 t119.1.1.1] ++ [Value.int .i64 t119.1.1.2]) ++ ([Value.bool t119.1.2.1] ++ ([Value.int .i64 t119.1.2.2.1] ++ ([Value.slice x.1.1 t119.1.2.2.2.1.length x.1.2] ++ ([Value.map (some x16.2.2.2.1)] ++ [Value.slice x.2.1.1 t119.1.2.2.2.2.2.length x.2.1.2])))))), Ck.m1 x16.2.2.2.1 t119.2.1 x.2.2.1 t119.2.2.length x.2.2.2, Ck.sl T24 x.2.2.1 x.2.2.2 t119.2.2]) (fun x B => (Ro B x.1.1 (em T24 t119.1.2.2.2.1) ∧ t119.1.2.2.2.1.length ≤ x.1.2) ∧ (Ro B x.2.1.1 (em T24 t119.1.2.2.2.2.2) ∧ t119.1.2.2.2.2.2.length ≤ x.2.1.2)) [3, 4, 5] [Ck.var 66 x16.1 ((([Value.int .i64 t97.1.1.1] ++ [Value.int .i64 t97.1.1.2]) ++ ([Value.bool t97.1.2.1] ++ ([Value.int .i64 t97.1.2.2.1] ++ ([Value.slice x99.1.1 t97.1.2.2.2.1.length x99.1.2] ++ ([Value.map (some x16.2.2.2.1)] ++ [Value.slice x99.2.1.1 t97.1.2.2.2.2.2.length x99.2.1.2])))))), Ck.m1 x16.2.2.2.1 t97.2.1 x99.2.2.1 t97.2.2.length x99.2.2.2, Ck.sl T24 x99.2.2.1 x99.2.2.2 t97.2.2] 7 rfl rfl (by kernel_rfl) (fun w => by kernel_rfl) ⟨by exact rfl, by exact rfl, by exact rfl, trivial⟩ (by decide) (fun x b b' h hf => ⟨⟨h _ _ hf.1.1, hf.1.2⟩, ⟨h _ _ hf.2.1, hf.2.2⟩⟩) (fun w hs hb => alloc_Alloc_Commit.calls k x16.1 x99.1.1 x99.1.2 x16.2.2.2.1 x99.2.1.1 x99.2.1.2 (t97.1.1, t97.1.2.1, t97.1.2.2.1, t97.1.2.2.2.1, (), t97.1.2.2.2.2.2) x99.2.2.1 x99.2.2.2 (t97.2.1, t97.2.2) t119 (lent bs115 w [Ck.var 66 x16.1 ((([Value.int .i64 t97.1.1.1] ++ [Value.int .i64 t97.1.1.2]) ++ ([Value.bool t97.1.2.1] ++ ([Value.int .i64 t97.1.2.2.1] ++ ([Value.slice x99.1.1 t97.1.2.2.2.1.length x99.1.2] ++ ([Value.map (some x16.2.2.2.1)] ++ [Value.slice x99.2.1.1 t97.1.2.2.2.2.2.length x99.2.1.2])))))), Ck.m1 x16.2.2.2.1 t97.2.1 x99.2.2.1 t97.2.2.length x99.2.2.2, Ck.sl T24 x99.2.2.1 x99.2.2.2 t97.2.2] []) hb (hs.ro (Ro.mono hok117 hle116 fR100) _ _) fC101 (hs.ro (Ro.mono hok117 hle116 fR102) _ _) fC103 hc120) ?_
      intro x121 bs126 hle127 hok128 hf129
      obtain ⟨⟨fR122, fC123⟩, ⟨fR124, fC125⟩⟩ := hf129
      refine ls_end ?_
      refine qn_then ?_
      refine cs_seq ?_
      refine cs_region (l := [_, _, _, _, _, _]) ?_
      refine ls_val (v := .pointer (some ⟨x5.1, 0, none⟩)) rfl rfl (by kernel_rfl) (fun w => by kernel_rfl) ?_
      obtain ⟨t130, hc131, H⟩ := bind_some H
      refine ls_callb (fid := 38) (vals := #[.pointer (some ⟨x5.1, 0, none⟩)]) (X := (Option Addr × Nat)) (fun x => .slice x.1 t130.length x.2) (fun x => stl [Ck.var 66 x5.1 ((([Value.int .i64 t108.1.1.1] ++ [Value.int .i64 t108.1.1.2]) ++ ([Value.bool t108.1.2.1] ++ ([Value.int .i64 t108.1.2.2.1] ++ ([Value.slice x110.1.1 t108.1.2.2.2.1.length x110.1.2] ++ ([Value.map (some x5.2.2.2.1)] ++ [Value.slice x110.2.1.1 t108.1.2.2.2.2.2.length x110.2.1.2])))))), Ck.m1 x5.2.2.2.1 t108.2.1 x110.2.2.1 t108.2.2.length x110.2.2.2, Ck.sl T24 x110.2.2.1 x110.2.2.2 t108.2.2, Ck.sl T24 x.1 x.2 t130]) [0, 1, 2] [] [Ck.var 66 x5.1 ((([Value.int .i64 t108.1.1.1] ++ [Value.int .i64 t108.1.1.2]) ++ ([Value.bool t108.1.2.1] ++ ([Value.int .i64 t108.1.2.2.1] ++ ([Value.slice x110.1.1 t108.1.2.2.2.1.length x110.1.2] ++ ([Value.map (some x5.2.2.2.1)] ++ [Value.slice x110.2.1.1 t108.1.2.2.2.2.2.length x110.2.1.2])))))), Ck.m1 x5.2.2.2.1 t108.2.1 x110.2.2.1 t108.2.2.length x110.2.2.2, Ck.sl T24 x110.2.2.1 x110.2.2.2 t108.2.2] [] 7 rfl rfl (by kernel_rfl) (fun w => by kernel_rfl) ⟨by exact rfl, by exact rfl, by exact rfl, trivial⟩ trivial (by decide) (fun w hs hb => alloc_Alloc_Spans.calls k x5.1 x110.1.1 x110.1.2 x5.2.2.2.1 x110.2.1.1 x110.2.1.2 (t108.1.1, t108.1.2.1, t108.1.2.2.1, t108.1.2.2.2.1, (), t108.1.2.2.2.2.2) x110.2.2.1 x110.2.2.2 (t108.2.1, t108.2.2) t130 (lent bs126 w [Ck.var 66 x5.1 ((([Value.int .i64 t108.1.1.1] ++ [Value.int .i64 t108.1.1.2]) ++ ([Value.bool t108.1.2.1] ++ ([Value.int .i64 t108.1.2.2.1] ++ ([Value.slice x110.1.1 t108.1.2.2.2.1.length x110.1.2] ++ ([Value.map (some x5.2.2.2.1)] ++ [Value.slice x110.2.1.1 t108.1.2.2.2.2.2.length x110.2.1.2])))))), Ck.m1 x5.2.2.2.1 t108.2.1 x110.2.2.1 t108.2.2.length x110.2.2.2, Ck.sl T24 x110.2.2.1 x110.2.2.2 t108.2.2] []) hb (hs.ro (Ro.mono hok128 hle127 fR111) _ _) fC112 (hs.ro (Ro.mono hok128 hle127 fR113) _ _) fC114 hc131) ?_
      intro x132
      refine ls_val (v := .pointer (some ⟨x16.1, 0, none⟩)) rfl rfl (by kernel_rfl) (fun w => by kernel_rfl) ?_
      obtain ⟨t133, hc134, H⟩ := bind_some H
      refine ls_callb (fid := 38) (vals := #[.pointer (some ⟨x16.1, 0, none⟩)]) (X := (Option Addr × Nat)) (fun x => .slice x.1 t133.length x.2) (fun x => stl [Ck.var 66 x16.1 ((([Value.int .i64 t119.1.1.1] ++ [Value.int .i64 t119.1.1.2]) ++ ([Value.bool t119.1.2.1] ++ ([Value.int .i64 t119.1.2.2.1] ++ ([Value.slice x121.1.1 t119.1.2.2.2.1.length x121.1.2] ++ ([Value.map (some x16.2.2.2.1)] ++ [Value.slice x121.2.1.1 t119.1.2.2.2.2.2.length x121.2.1.2])))))), Ck.m1 x16.2.2.2.1 t119.2.1 x121.2.2.1 t119.2.2.length x121.2.2.2, Ck.sl T24 x121.2.2.1 x121.2.2.2 t119.2.2, Ck.sl T24 x.1 x.2 t133]) [3, 4, 5] [] [Ck.var 66 x16.1 ((([Value.int .i64 t119.1.1.1] ++ [Value.int .i64 t119.1.1.2]) ++ ([Value.bool t119.1.2.1] ++ ([Value.int .i64 t119.1.2.2.1] ++ ([Value.slice x121.1.1 t119.1.2.2.2.1.length x121.1.2] ++ ([Value.map (some x16.2.2.2.1)] ++ [Value.slice x121.2.1.1 t119.1.2.2.2.2.2.length x121.2.1.2])))))), Ck.m1 x16.2.2.2.1 t119.2.1 x121.2.2.1 t119.2.2.length x121.2.2.2, Ck.sl T24 x121.2.2.1 x121.2.2.2 t119.2.2] [] 8 rfl rfl (by kernel_rfl) (fun w => by kernel_rfl) ⟨by exact rfl, by exact rfl, by exact rfl, trivial⟩ trivial (by decide) (fun w hs hb => alloc_Alloc_Spans.calls k x16.1 x121.1.1 x121.1.2 x16.2.2.2.1 x121.2.1.1 x121.2.1.2 (t119.1.1, t119.1.2.1, t119.1.2.2.1, t119.1.2.2.2.1, (), t119.1.2.2.2.2.2) x121.2.2.1 x121.2.2.2 (t119.2.1, t119.2.2) t133 (lent bs126 w [Ck.var 66 x16.1 ((([Value.int .i64 t119.1.1.1] ++ [Value.int .i64 t119.1.1.2]) ++ ([Value.bool t119.1.2.1] ++ ([Value.int .i64 t119.1.2.2.1] ++ ([Value.slice x121.1.1 t119.1.2.2.2.1.length x121.1.2] ++ ([Value.map (some x16.2.2.2.1)] ++ [Value.slice x121.2.1.1 t119.1.2.2.2.2.2.length x121.2.1.2])))))), Ck.m1 x16.2.2.2.1 t119.2.1 x121.2.2.1 t119.2.2.length x121.2.2.2, Ck.sl T24 x121.2.2.1 x121.2.2.2 t119.2.2] []) hb (hs.ro fR122 _ _) fC123 (hs.ro fR124 _ _) fC125 hc134) ?_
      intro x135
      refine ls_val (v := .slice x132.1 t130.length x132.2) rfl rfl (by kernel_rfl) (fun w => by kernel_rfl) ?_
      refine ls_val (v := .slice x135.1 t133.length x135.2) rfl rfl (by kernel_rfl) (fun w => by kernel_rfl) ?_
      refine ls_end ?_
      refine qn_then ?_
      refine cs_cut (fun f S => ∃ (fR : Fr), f = upd (upd fR 13 (.slice x132.1 t130.length x132.2)) 14 (.slice x135.1 t133.length x135.2) ∧ S = sput (sput s0 7 (some (Ck.sl T24 x132.1 x132.2 t130))) 8 (some (Ck.sl T24 x135.1 x135.2 t133)) ∧ shadowboxlaw10_AllocMarks.jo3 k t130 t133 = some r) ?_ ?_
      · skip
        refine cs_seq ?_
        refine cs_region (l := [_, _, _, _, _]) ?_
        refine ls_val (v := .slice x132.1 t130.length x132.2) rfl rfl (by kernel_rfl) (fun w => by kernel_rfl) ?_
        refine ls_val (v := .int .i64 (t130.length : Int)) rfl rfl (by kernel_rfl) (fun w => by kernel_rfl) ?_
        refine ls_val (v := .slice x135.1 t133.length x135.2) rfl rfl (by kernel_rfl) (fun w => by kernel_rfl) ?_
        refine ls_val (v := .int .i64 (t133.length : Int)) rfl rfl (by kernel_rfl) (fun w => by kernel_rfl) ?_
        refine ls_val (v := .bool (!decide ((t130.length : Int) = (t133.length : Int)))) rfl rfl (by kernel_rfl) (fun w => by kernel_rfl) ?_
        refine ls_end ?_
        refine qn_then ?_
        by_cases q146 : (t130.length : Int) = (t133.length : Int)
        · replace H := ite_t q146 H
          refine cs_know (c := false) (congrArg Bool.not (dec_t q146)) 116 (by kernel_rfl) ?_
          refine cs_false (by kernel_rfl) ?_
          refine cs_skip' ?_
          refine qn_meet (sput (sput s0 7 (some (Ck.sl T24 x132.1 x132.2 t130))) 8 (some (Ck.sl T24 x135.1 x135.2 t133))) ⟨_, fr_next (fr_next (rfl) (by kernel_rfl)) (by kernel_rfl), rfl, H⟩ (sub_put (by exact rfl) (sub_put (by exact rfl) (sub_nil _)))
        · replace H := ite_f q146 H
          refine cs_know (c := true) (congrArg Bool.not (dec_f q146)) 116 (by kernel_rfl) ?_
          refine cs_true (by kernel_rfl) ?_
          refine cs_seq ?_
          refine cs_region (l := [_]) ?_
          refine ls_val (v := .bool false) rfl rfl (by kernel_rfl) (fun w => by kernel_rfl) ?_
          refine ls_end ?_
          refine qn_then ?_
          refine cs_ret' ?_
          refine qr_then ?_
          obtain rfl := Option.some.inj H
          refine qr_res (rs := [_]) rfl (fun w' hs => ⟨[.bool false], (res_tmp (by kernel_rfl) (.nil)), (), rfl, St.later hs0.ok (((((((((hle11.trans hle22).trans hle33).trans hle44).trans hle55).trans hle67).trans hle94).trans hle105).trans hle116).trans hle127) (hs.pick (ts := []) (cs := []) trivial (by decide))⟩)
      · rintro f S ⟨fr3, rfl, rfl, H⟩
        replace H : (shadowboxlaw10_AllocMarks.lo4 t130 t133 k (0 : Int)) = some r := H
        refine cs_seq ?_
        refine cs_seq ?_
        refine cs_region (l := [_]) ?_
        refine ls_val (v := .int .i64 (0 : Int)) rfl rfl (by kernel_rfl) (fun w => by kernel_rfl) ?_
        refine ls_end ?_
        refine qn_then ?_
        refine cs_block ?_
        refine cs_sub (sput (sput s0 7 (some (Ck.sl T24 x132.1 x132.2 t130))) 8 (some (Ck.sl T24 x135.1 x135.2 t133))) (sub_put (by exact rfl) (sub_put (by exact rfl) (sub_nil _))) ?_
        refine cs_loop (fun kk f S => ∃ (fR : Fr) (x15_4 : Int), f = upd (upd (upd fR 13 (.slice x132.1 t130.length x132.2)) 14 (.slice x135.1 t133.length x135.2)) 15 (.int .i64 x15_4) ∧ S = sput (sput s0 7 (some (Ck.sl T24 x132.1 x132.2 t130))) 8 (some (Ck.sl T24 x135.1 x135.2 t133)) ∧ shadowboxlaw10_AllocMarks.lo4 t130 t133 kk x15_4 = some r) k ?_ ?_ ?_
        · exact ⟨_, (0 : Int), fr_next (fr_next (fr_next (rfl) (by kernel_rfl)) (by kernel_rfl)) (by kernel_rfl), rfl, H⟩
        · rintro f S ⟨fr4, x15_4, rfl, rfl, H⟩; cases H
        · rintro k4 f S ⟨fr4, x15_4, rfl, rfl, H⟩
          replace H : ((if x15_4 < (t130.length : Int) then (if 0 ≤ x15_4 then (if x15_4 < (t133.length : Int) then (if ((((t130).getD (x15_4).toNat ((0 : Int), (0 : Int))).1 == ((t133).getD (x15_4).toNat ((0 : Int), (0 : Int))).1) && (((t130).getD (x15_4).toNat ((0 : Int), (0 : Int))).2 == ((t133).getD (x15_4).toNat ((0 : Int), (0 : Int))).2)) = true then (shadowboxlaw10_AllocMarks.lo4 t130 t133 k4) (IntKind.wrap .i64 (x15_4 + (1 : Int))) else some false) else none) else none) else some true)) = some r := H
          refine cs_seq ?_
          refine cs_seq ?_
          refine cs_region (l := [_, _, _, _]) ?_
          refine ls_val (v := .int .i64 x15_4) rfl rfl (by kernel_rfl) (fun w => by kernel_rfl) ?_
          refine ls_val (v := .slice x132.1 t130.length x132.2) rfl rfl (by kernel_rfl) (fun w => by kernel_rfl) ?_
          refine ls_val (v := .int .i64 (t130.length : Int)) rfl rfl (by kernel_rfl) (fun w => by kernel_rfl) ?_
          refine ls_val (v := .bool (decide (x15_4 < (t130.length : Int)))) rfl rfl (by kernel_rfl) (fun w => by kernel_rfl) ?_
          refine ls_end ?_
          refine qn_then ?_
          by_cases q136 : x15_4 < (t130.length : Int)
          · replace H := ite_t q136 H
            refine cs_know (c := true) (dec_t q136) 120 (by kernel_rfl) ?_
            refine cs_true (by kernel_rfl) ?_
            refine cs_skip' ?_
            refine qn_then ?_
            refine cs_seq ?_
            refine cs_block ?_
            refine cs_seq ?_
            obtain ⟨s138_0, hs138_0⟩ : ∃ z : Value → Sto → Prop, z = (fun v R => v = .slice x132.1 t130.length x132.2 ∧ R = s0) := ⟨_, rfl⟩
            refine have_op (l := [_, _, _, _, _, _, _, _, _]) shadowboxlaw10_AllocMarks.tab136 9 0 (fun sp => sp 0 = s138_0) (fun sp on hA hon => ?_) (fun ops138_0 => ?_)
            · refine ⟨fun o ho vs Rs f' S' w hp hf hx hS hR hs => ?_⟩
              obtain rfl := Option.some.inj ho
              rw [hA, hs138_0]
              refine And.intro (fun a ha => (want_none rfl a ha).trans hon.symm) (And.intro (fun _ => ?_) (fun h => by rw [hon] at h; cases h))
              have hF := fr_next (rfl) ((hx 13 (by kernel_rfl)).trans (by kernel_rfl : (_ : Value) = .slice x132.1 t130.length x132.2))
              refine ls_fr hF ?_
              refine ls_val (v := .slice x132.1 t130.length x132.2) rfl rfl (by kernel_rfl) (fun w => by kernel_rfl) ?_
              exact ls_fin s0 (.slice x132.1 t130.length x132.2) (congrArg (fun z => upd z 123 _) hF.symm) ⟨rfl, rfl⟩ (sub_nil _)
            obtain ⟨s138_1, hs138_1⟩ : ∃ z : Value → Sto → Prop, z = (fun v R => v = .int .i64 x15_4 ∧ R = s0) := ⟨_, rfl⟩
            refine have_op (l := [_, _, _, _, _, _, _, _, _]) shadowboxlaw10_AllocMarks.tab136 9 1 (fun sp => sp 1 = s138_1) (fun sp on hA hon => ?_) (fun ops138_1 => ?_)
            · refine ⟨fun o ho vs Rs f' S' w hp hf hx hS hR hs => ?_⟩
              obtain rfl := Option.some.inj ho
              rw [hA, hs138_1]
              refine And.intro (fun a ha => (want_none rfl a ha).trans hon.symm) (And.intro (fun _ => ?_) (fun h => by rw [hon] at h; cases h))
              have hF := fr_next (rfl) ((hx 15 (by kernel_rfl)).trans (by kernel_rfl : (_ : Value) = .int .i64 x15_4))
              refine ls_fr hF ?_
              refine ls_val (v := .int .i64 x15_4) rfl rfl (by kernel_rfl) (fun w => by kernel_rfl) ?_
              exact ls_fin s0 (.int .i64 x15_4) (congrArg (fun z => upd z 124 _) hF.symm) ⟨rfl, rfl⟩ (sub_nil _)
            obtain ⟨q139, H⟩ := ite_need H
            refine cs_at (T := T24) (tk := 7) (i := x15_4) (by exact rfl) q139 q136 ?_
            intro ad140 hA141
            obtain ⟨s138_2, hs138_2⟩ : ∃ z : Value → Sto → Prop, z = (fun v R => v = .pointer (some (ad140.add ((x15_4).toNat * 2))) ∧ R = s0) := ⟨_, rfl⟩
            refine have_op (l := [_, _, _, _, _, _, _, _, _]) shadowboxlaw10_AllocMarks.tab136 9 2 (fun sp => sp 2 = s138_2 ∧ sp 0 = s138_0 ∧ sp 1 = s138_1) (fun sp on hA hon => ?_) (fun ops138_2 => ?_)
            · refine ⟨fun o ho vs Rs f' S' w hp hf hx hS hR hs => ?_⟩
              obtain rfl := Option.some.inj ho
              obtain ⟨hv0, hR0⟩ := (spe hA.2.1 hs138_0 (hp 0 (by kernel_rfl)))
              obtain ⟨hv1, hR1⟩ := (spe hA.2.2 hs138_1 (hp 1 (by kernel_rfl)))
              rw [hA.1, hs138_2]
              refine And.intro (fun a ha => (want_none rfl a ha).trans hon.symm) (And.intro (fun _ => ?_) (fun h => by rw [hon] at h; cases h))
              have hF := fr_next (fr_next (rfl) ((hf 0 123 (by kernel_rfl) rfl).trans hv0)) ((hf 1 124 (by kernel_rfl) rfl).trans hv1)
              refine ls_fr hF ?_
              refine ls_idxv T24 (A := x132.1) (c := x132.2) (l := t130) (k := .i64) (i := x15_4) (z := 2) (ad := ad140) rfl rfl (by kernel_rfl) hA141 rfl (by kernel_rfl) (by kernel_rfl) (by kernel_rfl) (by kernel_rfl) q139 q136 ?_
              exact ls_fin s0 (.pointer (some (ad140.add ((x15_4).toNat * 2)))) (congrArg (fun z => upd z 125 _) hF.symm) ⟨rfl, rfl⟩ (sub_nil _)
            obtain ⟨s138_3, hs138_3⟩ : ∃ z : Value → Sto → Prop, z = (fun v R => v = .agg ⟨([Value.int .i64 (((t130).getD (x15_4).toNat ((0 : Int), (0 : Int))).1)] ++ [Value.int .i64 (((t130).getD (x15_4).toNat ((0 : Int), (0 : Int))).2)])⟩ ∧ R = s0) := ⟨_, rfl⟩
            refine have_op (l := [_, _, _, _, _, _, _, _, _]) shadowboxlaw10_AllocMarks.tab136 9 3 (fun sp => sp 3 = s138_3 ∧ sp 2 = s138_2) (fun sp on hA hon => ?_) (fun ops138_3 => ?_)
            · refine ⟨fun o ho vs Rs f' S' w hp hf hx hS hR hs => ?_⟩
              obtain rfl := Option.some.inj ho
              obtain ⟨hv2, hR2⟩ := (spe hA.2 hs138_2 (hp 2 (by kernel_rfl)))
              rw [hA.1, hs138_3]
              refine And.intro (fun a ha => (want_none rfl a ha).trans hon.symm) (And.intro (fun _ => ?_) (fun h => by rw [hon] at h; cases h))
              have hF := fr_next (rfl) ((hf 2 125 (by kernel_rfl) rfl).trans hv2)
              refine ls_fr hF ?_
              refine ls_loadagg (a := (ad140.add ((x15_4).toNat * 2))) (sub := ([Value.int .i64 (((t130).getD (x15_4).toNat ((0 : Int), (0 : Int))).1)] ++ [Value.int .i64 (((t130).getD (x15_4).toNat ((0 : Int), (0 : Int))).2)])) rfl rfl (by kernel_rfl) rfl (by kernel_rfl) (by kernel_rfl) (by kernel_rfl) (len_app (len1 _) (len1 _)) (fun w1 hs1 => (Rd.step (hs.rd (k := 7) ((hS 7 (by kernel_rfl)).trans (by exact rfl))) hs1.below.bw).part hA141 (em_sub T24 t130 (i := (x15_4).toNat) (by have h0 : (0 : Int) ≤ x15_4 := q139; have h1 : x15_4 < (t130.length : Int) := q136; omega))) ?_
              exact ls_fin s0 (.agg ⟨([Value.int .i64 (((t130).getD (x15_4).toNat ((0 : Int), (0 : Int))).1)] ++ [Value.int .i64 (((t130).getD (x15_4).toNat ((0 : Int), (0 : Int))).2)])⟩) (congrArg (fun z => upd z 126 _) hF.symm) ⟨rfl, rfl⟩ (sub_nil _)
            obtain ⟨s138_4, hs138_4⟩ : ∃ z : Value → Sto → Prop, z = (fun v R => v = .slice x135.1 t133.length x135.2 ∧ R = s0) := ⟨_, rfl⟩
            refine have_op (l := [_, _, _, _, _, _, _, _, _]) shadowboxlaw10_AllocMarks.tab136 9 4 (fun sp => sp 4 = s138_4) (fun sp on hA hon => ?_) (fun ops138_4 => ?_)
            · refine ⟨fun o ho vs Rs f' S' w hp hf hx hS hR hs => ?_⟩
              obtain rfl := Option.some.inj ho
              rw [hA, hs138_4]
              refine And.intro (fun a ha => (want_none rfl a ha).trans hon.symm) (And.intro (fun _ => ?_) (fun h => by rw [hon] at h; cases h))
              have hF := fr_next (rfl) ((hx 14 (by kernel_rfl)).trans (by kernel_rfl : (_ : Value) = .slice x135.1 t133.length x135.2))
              refine ls_fr hF ?_
              refine ls_val (v := .slice x135.1 t133.length x135.2) rfl rfl (by kernel_rfl) (fun w => by kernel_rfl) ?_
              exact ls_fin s0 (.slice x135.1 t133.length x135.2) (congrArg (fun z => upd z 127 _) hF.symm) ⟨rfl, rfl⟩ (sub_nil _)
            obtain ⟨s138_5, hs138_5⟩ : ∃ z : Value → Sto → Prop, z = (fun v R => v = .int .i64 x15_4 ∧ R = s0) := ⟨_, rfl⟩
            refine have_op (l := [_, _, _, _, _, _, _, _, _]) shadowboxlaw10_AllocMarks.tab136 9 5 (fun sp => sp 5 = s138_5) (fun sp on hA hon => ?_) (fun ops138_5 => ?_)
            · refine ⟨fun o ho vs Rs f' S' w hp hf hx hS hR hs => ?_⟩
              obtain rfl := Option.some.inj ho
              rw [hA, hs138_5]
              refine And.intro (fun a ha => (want_none rfl a ha).trans hon.symm) (And.intro (fun _ => ?_) (fun h => by rw [hon] at h; cases h))
              have hF := fr_next (rfl) ((hx 15 (by kernel_rfl)).trans (by kernel_rfl : (_ : Value) = .int .i64 x15_4))
              refine ls_fr hF ?_
              refine ls_val (v := .int .i64 x15_4) rfl rfl (by kernel_rfl) (fun w => by kernel_rfl) ?_
              exact ls_fin s0 (.int .i64 x15_4) (congrArg (fun z => upd z 128 _) hF.symm) ⟨rfl, rfl⟩ (sub_nil _)
            obtain ⟨q142, H⟩ := ite_need H
            refine cs_at (T := T24) (tk := 8) (i := x15_4) (by exact rfl) q139 q142 ?_
            intro ad143 hA144
            obtain ⟨s138_6, hs138_6⟩ : ∃ z : Value → Sto → Prop, z = (fun v R => v = .pointer (some (ad143.add ((x15_4).toNat * 2))) ∧ R = s0) := ⟨_, rfl⟩
            refine have_op (l := [_, _, _, _, _, _, _, _, _]) shadowboxlaw10_AllocMarks.tab136 9 6 (fun sp => sp 6 = s138_6 ∧ sp 4 = s138_4 ∧ sp 5 = s138_5) (fun sp on hA hon => ?_) (fun ops138_6 => ?_)
            · refine ⟨fun o ho vs Rs f' S' w hp hf hx hS hR hs => ?_⟩
              obtain rfl := Option.some.inj ho
              obtain ⟨hv4, hR4⟩ := (spe hA.2.1 hs138_4 (hp 4 (by kernel_rfl)))
              obtain ⟨hv5, hR5⟩ := (spe hA.2.2 hs138_5 (hp 5 (by kernel_rfl)))
              rw [hA.1, hs138_6]
              refine And.intro (fun a ha => (want_none rfl a ha).trans hon.symm) (And.intro (fun _ => ?_) (fun h => by rw [hon] at h; cases h))
              have hF := fr_next (fr_next (rfl) ((hf 4 127 (by kernel_rfl) rfl).trans hv4)) ((hf 5 128 (by kernel_rfl) rfl).trans hv5)
              refine ls_fr hF ?_
              refine ls_idxv T24 (A := x135.1) (c := x135.2) (l := t133) (k := .i64) (i := x15_4) (z := 2) (ad := ad143) rfl rfl (by kernel_rfl) hA144 rfl (by kernel_rfl) (by kernel_rfl) (by kernel_rfl) (by kernel_rfl) q139 q142 ?_
              exact ls_fin s0 (.pointer (some (ad143.add ((x15_4).toNat * 2)))) (congrArg (fun z => upd z 129 _) hF.symm) ⟨rfl, rfl⟩ (sub_nil _)
            obtain ⟨s138_7, hs138_7⟩ : ∃ z : Value → Sto → Prop, z = (fun v R => v = .agg ⟨([Value.int .i64 (((t133).getD (x15_4).toNat ((0 : Int), (0 : Int))).1)] ++ [Value.int .i64 (((t133).getD (x15_4).toNat ((0 : Int), (0 : Int))).2)])⟩ ∧ R = s0) := ⟨_, rfl⟩
            refine have_op (l := [_, _, _, _, _, _, _, _, _]) shadowboxlaw10_AllocMarks.tab136 9 7 (fun sp => sp 7 = s138_7 ∧ sp 6 = s138_6) (fun sp on hA hon => ?_) (fun ops138_7 => ?_)
            · refine ⟨fun o ho vs Rs f' S' w hp hf hx hS hR hs => ?_⟩
              obtain rfl := Option.some.inj ho
              obtain ⟨hv6, hR6⟩ := (spe hA.2 hs138_6 (hp 6 (by kernel_rfl)))
              rw [hA.1, hs138_7]
              refine And.intro (fun a ha => (want_none rfl a ha).trans hon.symm) (And.intro (fun _ => ?_) (fun h => by rw [hon] at h; cases h))
              have hF := fr_next (rfl) ((hf 6 129 (by kernel_rfl) rfl).trans hv6)
              refine ls_fr hF ?_
              refine ls_loadagg (a := (ad143.add ((x15_4).toNat * 2))) (sub := ([Value.int .i64 (((t133).getD (x15_4).toNat ((0 : Int), (0 : Int))).1)] ++ [Value.int .i64 (((t133).getD (x15_4).toNat ((0 : Int), (0 : Int))).2)])) rfl rfl (by kernel_rfl) rfl (by kernel_rfl) (by kernel_rfl) (by kernel_rfl) (len_app (len1 _) (len1 _)) (fun w1 hs1 => (Rd.step (hs.rd (k := 8) ((hS 8 (by kernel_rfl)).trans (by exact rfl))) hs1.below.bw).part hA144 (em_sub T24 t133 (i := (x15_4).toNat) (by have h0 : (0 : Int) ≤ x15_4 := q139; have h1 : x15_4 < (t133.length : Int) := q142; omega))) ?_
              exact ls_fin s0 (.agg ⟨([Value.int .i64 (((t133).getD (x15_4).toNat ((0 : Int), (0 : Int))).1)] ++ [Value.int .i64 (((t133).getD (x15_4).toNat ((0 : Int), (0 : Int))).2)])⟩) (congrArg (fun z => upd z 130 _) hF.symm) ⟨rfl, rfl⟩ (sub_nil _)
            refine cs_draw shadowboxlaw10_AllocMarks.tab136 8 9 (spl [s138_0, s138_1, s138_2, s138_3, s138_4, s138_5, s138_6, s138_7]) (onl [true, true, true, true, true, true, true, true]) (by kernel_rfl) (by kernel_rfl) (by kernel_rfl) (by kernel_rfl) (rs := [_]) rfl (by kernel_rfl) (by kernel_rfl) (all_snoc (all_snoc (all_snoc (all_snoc (all_snoc (all_snoc (all_snoc (all_snoc (all_nil) (ops138_0 _ _ rfl rfl)) (ops138_1 _ _ rfl rfl)) (ops138_2 _ _ ⟨rfl, rfl, rfl⟩ rfl)) (ops138_3 _ _ ⟨rfl, rfl⟩ rfl)) (ops138_4 _ _ rfl rfl)) (ops138_5 _ _ rfl rfl)) (ops138_6 _ _ ⟨rfl, rfl, rfl⟩ rfl)) (ops138_7 _ _ ⟨rfl, rfl⟩ rfl)) ?_
            intro vs Rs f' S' hp hf hx hS hR
            obtain ⟨hv3, hR3⟩ := (spe rfl hs138_3 (hp 3 (by kernel_rfl)))
            obtain ⟨hv7, hR7⟩ := (spe rfl hs138_7 (hp 7 (by kernel_rfl)))
            refine ls_fr (F := upd (upd (upd (upd (upd f' 13 (.slice x132.1 t130.length x132.2)) 14 (.slice x135.1 t133.length x135.2)) 15 (.int .i64 x15_4)) 126 (.agg ⟨([Value.int .i64 (((t130).getD (x15_4).toNat ((0 : Int), (0 : Int))).1)] ++ [Value.int .i64 (((t130).getD (x15_4).toNat ((0 : Int), (0 : Int))).2)])⟩)) 130 (.agg ⟨([Value.int .i64 (((t133).getD (x15_4).toNat ((0 : Int), (0 : Int))).1)] ++ [Value.int .i64 (((t133).getD (x15_4).toNat ((0 : Int), (0 : Int))).2)])⟩)) (fr_next (fr_next (fr_next (fr_next (fr_next (rfl) ((hx 13 (by kernel_rfl)).trans (by kernel_rfl : (_ : Value) = .slice x132.1 t130.length x132.2))) ((hx 14 (by kernel_rfl)).trans (by kernel_rfl : (_ : Value) = .slice x135.1 t133.length x135.2))) ((hx 15 (by kernel_rfl)).trans (by kernel_rfl : (_ : Value) = .int .i64 x15_4))) ((hf 3 126 (by kernel_rfl) rfl).trans hv3)) ((hf 7 130 (by kernel_rfl) rfl).trans hv7)) ?_
            refine ls_sub (sput (sput s0 7 (some (Ck.sl T24 x132.1 x132.2 t130))) 8 (some (Ck.sl T24 x135.1 x135.2 t133))) (sub_put ((hS 8 (by kernel_rfl)).trans (by exact rfl)) (sub_put ((hS 7 (by kernel_rfl)).trans (by exact rfl)) (sub_nil _))) ?_
            refine ls_neq (xs := ([Value.int .i64 (((t130).getD (x15_4).toNat ((0 : Int), (0 : Int))).1)] ++ [Value.int .i64 (((t130).getD (x15_4).toNat ((0 : Int), (0 : Int))).2)])) (ys := ([Value.int .i64 (((t133).getD (x15_4).toNat ((0 : Int), (0 : Int))).1)] ++ [Value.int .i64 (((t133).getD (x15_4).toNat ((0 : Int), (0 : Int))).2)])) (r := ((((t130).getD (x15_4).toNat ((0 : Int), (0 : Int))).1 == ((t133).getD (x15_4).toNat ((0 : Int), (0 : Int))).1) && (((t130).getD (x15_4).toNat ((0 : Int), (0 : Int))).2 == ((t133).getD (x15_4).toNat ((0 : Int), (0 : Int))).2))) rfl rfl (by kernel_rfl) rfl (by kernel_rfl) (by kernel_rfl) (by kernel_rfl) (eq_st (by kernel_rfl) (by kernel_rfl) (eqf_cons (ft := 3) (fo := 0) (by kernel_rfl) (part_one (by kernel_rfl) (Sub4.trans (Sub4.all _) (Sub4.head _ _))) (part_one (by kernel_rfl) (Sub4.trans (Sub4.all _) (Sub4.head _ _))) (eq_int (by kernel_rfl) _ _ _) (eqf_last (ft := 3) (fo := 1) (by kernel_rfl) (part_one (by kernel_rfl) (Sub4.trans (Sub4.all _) (Sub4.skip (n := 1) (len1 _) (Sub4.all _)))) (part_one (by kernel_rfl) (Sub4.trans (Sub4.all _) (Sub4.skip (n := 1) (len1 _) (Sub4.all _)))) (eq_int (by kernel_rfl) _ _ _) (by kernel_rfl)))) ?_
            refine ls_end ?_
            refine qn_then ?_
            by_cases q145 : ((((t130).getD (x15_4).toNat ((0 : Int), (0 : Int))).1 == ((t133).getD (x15_4).toNat ((0 : Int), (0 : Int))).1) && (((t130).getD (x15_4).toNat ((0 : Int), (0 : Int))).2 == ((t133).getD (x15_4).toNat ((0 : Int), (0 : Int))).2)) = true
            · replace H := ite_t q145 H
              refine cs_know (c := false) (congrArg Bool.not (q145)) 131 (by kernel_rfl) ?_
              refine cs_false (by kernel_rfl) ?_
              refine cs_skip' ?_
              refine qn_block ?_
              refine qn_then ?_
              refine cs_region (l := [_, _, _]) ?_
              refine ls_val (v := .int .i64 x15_4) rfl rfl (by kernel_rfl) (fun w => by kernel_rfl) ?_
              refine ls_val (v := .int .i64 (IntKind.wrap .i64 (x15_4 + (1 : Int)))) rfl rfl (by kernel_rfl) (fun w => by kernel_rfl) ?_
              refine ls_val (v := .int .i64 (IntKind.wrap .i64 (x15_4 + (1 : Int)))) rfl rfl (by kernel_rfl) (fun w => by kernel_rfl) ?_
              refine ls_end ?_
              refine qn_again k4 (sput (sput s0 7 (some (Ck.sl T24 x132.1 x132.2 t130))) 8 (some (Ck.sl T24 x135.1 x135.2 t133))) (Nat.le_refl _) ⟨_, (IntKind.wrap .i64 (x15_4 + (1 : Int))), fr_next (fr_next (fr_next (rfl) (by kernel_rfl)) (by kernel_rfl)) (by kernel_rfl), rfl, H⟩ (sub_put (by exact rfl) (sub_put (by exact rfl) (sub_nil _)))
            · replace H := ite_f q145 H
              refine cs_know (c := true) (congrArg Bool.not (Bool.eq_false_iff.mpr q145)) 131 (by kernel_rfl) ?_
              refine cs_true (by kernel_rfl) ?_
              refine cs_seq ?_
              refine cs_region (l := [_]) ?_
              refine ls_val (v := .bool false) rfl rfl (by kernel_rfl) (fun w => by kernel_rfl) ?_
              refine ls_end ?_
              refine qn_then ?_
              refine cs_ret' ?_
              refine qr_block ?_
              refine qr_then ?_
              refine qr_then ?_
              refine qr_block ?_
              refine qr_then ?_
              obtain rfl := Option.some.inj H
              refine qr_res (rs := [_]) rfl (fun w' hs => ⟨[.bool false], (res_tmp (by kernel_rfl) (.nil)), (), rfl, St.later hs0.ok (((((((((hle11.trans hle22).trans hle33).trans hle44).trans hle55).trans hle67).trans hle94).trans hle105).trans hle116).trans hle127) (hs.pick (ts := []) (cs := []) trivial (by decide))⟩)
          · replace H := ite_f q136 H
            refine cs_know (c := false) (dec_f q136) 120 (by kernel_rfl) ?_
            refine cs_false (by kernel_rfl) ?_
            refine cs_exit' ?_
            refine qx_then ?_
            refine qx_then ?_
            refine qx_same ?_
            refine qn_then ?_
            refine cs_seq ?_
            refine cs_region (l := [_]) ?_
            refine ls_val (v := .bool true) rfl rfl (by kernel_rfl) (fun w => by kernel_rfl) ?_
            refine ls_end ?_
            refine qn_then ?_
            refine cs_ret' ?_
            obtain rfl := Option.some.inj H
            refine qr_res (rs := [_]) rfl (fun w' hs => ⟨[.bool true], (res_tmp (by kernel_rfl) (.nil)), (), rfl, St.later hs0.ok (((((((((hle11.trans hle22).trans hle33).trans hle44).trans hle55).trans hle67).trans hle94).trans hle105).trans hle116).trans hle127) (hs.pick (ts := []) (cs := []) trivial (by decide))⟩)

end Go.Proofs.Ytiikfaefeonfhaa.G
