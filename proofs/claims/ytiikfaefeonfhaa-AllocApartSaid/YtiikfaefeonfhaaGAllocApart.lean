/- Printed by a program of this session (sz.py): plain functions, and walks that show that the code comes to them; no condition. -/
import Derived.Test.YtiikfaefeonfhaaProg
import Derived.Test.YtiikfaefeonfhaaTy
import Derived.Test.YtiikfaefeonfhaaG0
import Derived.Test.YtiikfaefeonfhaaG1
set_option linter.unusedVariables false
set_option linter.unusedSimpArgs false
namespace Go.Proofs.Ytiikfaefeonfhaa.G
open Go Go.RowKit Go.Proofs.Ytiikfaefeonfhaa.Sx

/-! ### shadowbox/shadowboxlaw10.AllocApart: function 7 -/
def shadowboxlaw10_AllocApart.lo3 (y1 : Int) (l7_2 : List Int) (m0_2 : ((Int × Int) × Bool × Int × (List (Int × Int)) × Unit × (List (Int × Int)))) (m1_2 : (Bool × (List (Int × Int)))) : Nat → Int → Int → Option (Bool)
  | 0, _, _ => none
  | k3 + 1, x17_3, x18_3 => (if x18_3 < (IntKind.wrap .i64 ((2 : Int) + y1)) then (if 0 ≤ x18_3 then (if x18_3 < (l7_2.length : Int) then (if ((l7_2).getD (x18_3).toNat (0 : Int)) = (1 : Int) then (shadowboxlaw10_AllocApart.lo3 y1 l7_2 m0_2 m1_2 k3) (IntKind.wrap .i64 (x17_3 + (1 : Int))) (IntKind.wrap .i64 (x18_3 + (1 : Int))) else (shadowboxlaw10_AllocApart.lo3 y1 l7_2 m0_2 m1_2 k3) x17_3 (IntKind.wrap .i64 (x18_3 + (1 : Int)))) else none) else none) else (alloc_Alloc_Used.f k3 (m0_2.1, m0_2.2.1, m0_2.2.2.1, m0_2.2.2.2.1, (), m0_2.2.2.2.2.2) (m1_2.1, m1_2.2)).bind fun t25 => some (decide (t25.1 = x17_3)))
def shadowboxlaw10_AllocApart.jo2 (k : Nat) (y1 : Int) (l7_2 : List Int) (m0_2 : ((Int × Int) × Bool × Int × (List (Int × Int)) × Unit × (List (Int × Int)))) (m1_2 : (Bool × (List (Int × Int)))) : Option (Bool) := shadowboxlaw10_AllocApart.lo3 y1 l7_2 m0_2 m1_2 k (0 : Int) (2 : Int)
def shadowboxlaw10_AllocApart.lo8 (y1 : Int) (x9_4 : Int) (l8_7 : List (Int × Int)) (t50 : ((Int × Int) × Bool × Int × (List (Int × Int)) × Unit × (List (Int × Int))) × (Bool × (List (Int × Int)))) (lo4 : (List Int) → (List (Int × Int)) → Int → (((Int × Int) × Bool × Int × (List (Int × Int)) × Unit × (List (Int × Int)))) → ((Bool × (List (Int × Int)))) → Option (Bool)) : Nat → (List Int) → Int → Option (Bool)
  | 0, _, _ => none
  | k8 + 1, l7_8, x16_8 => (if x16_8 < (IntKind.wrap .i64 ((2 : Int) + y1)) then (if 0 ≤ x16_8 then (if x16_8 < (l7_8.length : Int) then (if ((l7_8).getD (x16_8).toNat (0 : Int)) = (2 : Int) then lt ((l7_8).set (x16_8).toNat (0 : Int)) fun y69 => (shadowboxlaw10_AllocApart.lo8 y1 x9_4 l8_7 t50 lo4 k8) y69 (IntKind.wrap .i64 (x16_8 + (1 : Int))) else (shadowboxlaw10_AllocApart.lo8 y1 x9_4 l8_7 t50 lo4 k8) l7_8 (IntKind.wrap .i64 (x16_8 + (1 : Int)))) else none) else none) else (alloc_Alloc_Free.f k8 (t50.1.1, t50.1.2.1, t50.1.2.2.1, t50.1.2.2.2.1, (), t50.1.2.2.2.2.2) (t50.2.1, t50.2.2)).bind fun t71 => (alloc_Alloc_Waiting.f k8 (t50.1.1, t50.1.2.1, t50.1.2.2.1, t50.1.2.2.2.1, (), t50.1.2.2.2.2.2) (t50.2.1, t50.2.2)).bind fun t74 => (alloc_Alloc_Used.f k8 (t50.1.1, t50.1.2.1, t50.1.2.2.1, t50.1.2.2.2.1, (), t50.1.2.2.2.2.2) (t74.2.1, t74.2.2)).bind fun t77 => lt (IntKind.wrap .i64 ((IntKind.wrap .i64 (t71 + t74.1)) + t77.1)) fun y80 => (if y80 = y1 then lo4 l7_8 l8_7 (IntKind.wrap .i64 (x9_4 + (1 : Int))) (t50.1.1, t50.1.2.1, t50.1.2.2.1, t50.1.2.2.2.1, (), t50.1.2.2.2.2.2) (t77.2.1, t77.2.2) else some false))
def shadowboxlaw10_AllocApart.jo7 (l1 : List Int) (y1 : Int) (x9_4 : Int) (k4 : Nat) (t34 : Int × Int × ((Int × Int) × Bool × Int × (List (Int × Int)) × Unit × (List (Int × Int)))) (lo4 : (List Int) → (List (Int × Int)) → Int → (((Int × Int) × Bool × Int × (List (Int × Int)) × Unit × (List (Int × Int)))) → ((Bool × (List (Int × Int)))) → Option (Bool)) (l7_7 : List Int) (l8_7 : List (Int × Int)) (m1_7 : (Bool × (List (Int × Int)))) : Option (Bool) := lt (bits .and .i64 ((l1).getD (x9_4).toNat (0 : Int)) (48 : Int)) fun y47 => (if y47 = (48 : Int) then (alloc_Alloc_Commit.f k4 (t34.2.2.1, t34.2.2.2.1, t34.2.2.2.2.1, t34.2.2.2.2.2.1, (), t34.2.2.2.2.2.2.2) (m1_7.1, m1_7.2)).bind fun t50 => shadowboxlaw10_AllocApart.lo8 y1 x9_4 l8_7 t50 lo4 k4 l7_7 (2 : Int) else (alloc_Alloc_Free.f k4 (t34.2.2.1, t34.2.2.2.1, t34.2.2.2.2.1, t34.2.2.2.2.2.1, (), t34.2.2.2.2.2.2.2) (m1_7.1, m1_7.2)).bind fun t83 => (alloc_Alloc_Waiting.f k4 (t34.2.2.1, t34.2.2.2.1, t34.2.2.2.2.1, t34.2.2.2.2.2.1, (), t34.2.2.2.2.2.2.2) (m1_7.1, m1_7.2)).bind fun t86 => (alloc_Alloc_Used.f k4 (t34.2.2.1, t34.2.2.2.1, t34.2.2.2.2.1, t34.2.2.2.2.2.1, (), t34.2.2.2.2.2.2.2) (t86.2.1, t86.2.2)).bind fun t89 => lt (IntKind.wrap .i64 ((IntKind.wrap .i64 (t83 + t86.1)) + t89.1)) fun y92 => (if y92 = y1 then lo4 l7_7 l8_7 (IntKind.wrap .i64 (x9_4 + (1 : Int))) (t34.2.2.1, t34.2.2.2.1, t34.2.2.2.2.1, t34.2.2.2.2.2.1, (), t34.2.2.2.2.2.2.2) (t89.2.1, t89.2.2) else some false))
def shadowboxlaw10_AllocApart.lo11 (l8_6 : List (Int × Int)) (xl106 : List (Int × Int)) (m1_10 : (Bool × (List (Int × Int)))) (jo7 : (List Int) → (List (Int × Int)) → ((Bool × (List (Int × Int)))) → Option (Bool)) : Nat → (List Int) → Int → Option (Bool)
  | 0, _, _ => none
  | k11 + 1, l7_11, x15_11 => lt (((l8_6).getD ((0 : Int)).toNat ((0 : Int), (0 : Int))).2) fun y113 => (if x15_11 < y113 then (if 0 ≤ x15_11 then (if x15_11 < (l7_11.length : Int) then lt ((l7_11).set (x15_11).toNat (2 : Int)) fun y120 => (shadowboxlaw10_AllocApart.lo11 l8_6 xl106 m1_10 jo7 k11) y120 (IntKind.wrap .i64 (x15_11 + (1 : Int))) else none) else none) else jo7 l7_11 xl106 (m1_10.1, m1_10.2))
def shadowboxlaw10_AllocApart.jo10 (k4 : Nat) (l7_6 : List Int) (l8_6 : List (Int × Int)) (xl106 : List (Int × Int)) (jo7 : (List Int) → (List (Int × Int)) → ((Bool × (List (Int × Int)))) → Option (Bool)) (m1_10 : (Bool × (List (Int × Int)))) : Option (Bool) := lt (((l8_6).getD ((0 : Int)).toNat ((0 : Int), (0 : Int))).1) fun y111 => shadowboxlaw10_AllocApart.lo11 l8_6 xl106 m1_10 jo7 k4 l7_6 y111
def shadowboxlaw10_AllocApart.jo9 (m1_4 : (Bool × (List (Int × Int)))) (k4 : Nat) (t34 : Int × Int × ((Int × Int) × Bool × Int × (List (Int × Int)) × Unit × (List (Int × Int)))) (l7_6 : List Int) (l8_6 : List (Int × Int)) (jo7 : (List Int) → (List (Int × Int)) → ((Bool × (List (Int × Int)))) → Option (Bool)) (x107_9 : Bool) : Option (Bool) := (if x107_9 = true then (if (0 : Int) < (l8_6.length : Int) then (if (1 : Int) ≤ (l8_6.length : Int) then lt (l8_6.drop ((1 : Int)).toNat) fun xl106 => (alloc_Alloc_Later.f k4 (t34.2.2.1, t34.2.2.2.1, t34.2.2.2.2.1, t34.2.2.2.2.2.1, (), t34.2.2.2.2.2.2.2) (m1_4.1, m1_4.2) ((l8_6).getD ((0 : Int)).toNat ((0 : Int), (0 : Int)))).bind fun t122 => (if t122.1 = (0 : Int) then (shadowboxlaw10_AllocApart.jo10 k4 l7_6 l8_6 xl106 jo7) (t122.2.1, t122.2.2) else some false) else none) else none) else jo7 l7_6 l8_6 (m1_4.1, m1_4.2))
def shadowboxlaw10_AllocApart.jo6 (l1 : List Int) (y1 : Int) (x9_4 : Int) (m1_4 : (Bool × (List (Int × Int)))) (k4 : Nat) (t34 : Int × Int × ((Int × Int) × Bool × Int × (List (Int × Int)) × Unit × (List (Int × Int)))) (lo4 : (List Int) → (List (Int × Int)) → Int → (((Int × Int) × Bool × Int × (List (Int × Int)) × Unit × (List (Int × Int)))) → ((Bool × (List (Int × Int)))) → Option (Bool)) (l7_6 : List Int) (l8_6 : List (Int × Int)) : Option (Bool) := (if (l8_6.length : Int) > (0 : Int) then lt (bits .and .i64 ((l1).getD (x9_4).toNat (0 : Int)) (8 : Int)) fun y129 => (shadowboxlaw10_AllocApart.jo9 m1_4 k4 t34 l7_6 l8_6 (shadowboxlaw10_AllocApart.jo7 l1 y1 x9_4 k4 t34 lo4)) (!decide (y129 = (0 : Int))) else (shadowboxlaw10_AllocApart.jo9 m1_4 k4 t34 l7_6 l8_6 (shadowboxlaw10_AllocApart.jo7 l1 y1 x9_4 k4 t34 lo4)) false)
def shadowboxlaw10_AllocApart.lo12 (y1 : Int) (l8_4 : List (Int × Int)) (y32 : Int) (t34 : Int × Int × ((Int × Int) × Bool × Int × (List (Int × Int)) × Unit × (List (Int × Int)))) (jo6 : (List Int) → (List (Int × Int)) → Option (Bool)) : Nat → (List Int) → Int → Option (Bool)
  | 0, _, _ => none
  | k12 + 1, l7_12, x13_12 => lt (IntKind.wrap .i64 (t34.1 + (IntKind.wrap .i64 ((1 : Int) + y32)))) fun y132 => (if x13_12 < y132 then (if x13_12 < (2 : Int) then some false else (if x13_12 ≥ (IntKind.wrap .i64 ((2 : Int) + y1)) then some false else (if 0 ≤ x13_12 then (if x13_12 < (l7_12.length : Int) then (if ((l7_12).getD (x13_12).toNat (0 : Int)) = (0 : Int) then lt ((l7_12).set (x13_12).toNat (1 : Int)) fun y144 => (shadowboxlaw10_AllocApart.lo12 y1 l8_4 y32 t34 jo6 k12) y144 (IntKind.wrap .i64 (x13_12 + (1 : Int))) else some false) else none) else none))) else lt (IntKind.wrap .i64 (t34.1 + (IntKind.wrap .i64 ((1 : Int) + y32)))) fun y146 => (if (l8_4.length + ([(t34.1, y146)]).length) * 16 ≤ 140737488355328 then jo6 l7_12 (l8_4 ++ [(t34.1, y146)]) else none))
def shadowboxlaw10_AllocApart.jo5 (l1 : List Int) (y1 : Int) (l7_4 : List Int) (l8_4 : List (Int × Int)) (x9_4 : Int) (m0_4 : ((Int × Int) × Bool × Int × (List (Int × Int)) × Unit × (List (Int × Int)))) (m1_4 : (Bool × (List (Int × Int)))) (k4 : Nat) (lo4 : (List Int) → (List (Int × Int)) → Int → (((Int × Int) × Bool × Int × (List (Int × Int)) × Unit × (List (Int × Int)))) → ((Bool × (List (Int × Int)))) → Option (Bool)) : Option (Bool) := (if 0 ≤ x9_4 then (if x9_4 < (l1.length : Int) then lt (bits .and .i64 ((l1).getD (x9_4).toNat (0 : Int)) (7 : Int)) fun y32 => (alloc_Alloc_Take.f k4 (m0_4.1, m0_4.2.1, m0_4.2.2.1, m0_4.2.2.2.1, (), m0_4.2.2.2.2.2) (m1_4.1, m1_4.2) (IntKind.wrap .i64 ((1 : Int) + y32)) true).bind fun t34 => (if t34.2.1 = (0 : Int) then shadowboxlaw10_AllocApart.lo12 y1 l8_4 y32 t34 (shadowboxlaw10_AllocApart.jo6 l1 y1 x9_4 m1_4 k4 t34 lo4) k4 l7_4 t34.1 else (if t34.2.1 = (15 : Int) then (shadowboxlaw10_AllocApart.jo6 l1 y1 x9_4 m1_4 k4 t34 lo4) l7_4 l8_4 else some false)) else none) else none)
def shadowboxlaw10_AllocApart.lo4 (l1 : List Int) (y1 : Int) (jo2 : (List Int) → (((Int × Int) × Bool × Int × (List (Int × Int)) × Unit × (List (Int × Int)))) → ((Bool × (List (Int × Int)))) → Option (Bool)) : Nat → (List Int) → (List (Int × Int)) → Int → (((Int × Int) × Bool × Int × (List (Int × Int)) × Unit × (List (Int × Int)))) → ((Bool × (List (Int × Int)))) → Option (Bool)
  | 0, _, _, _, _, _ => none
  | k4 + 1, l7_4, l8_4, x9_4, m0_4, m1_4 => (if x9_4 < (l1.length : Int) then (if x9_4 < (60 : Int) then (shadowboxlaw10_AllocApart.jo5 l1 y1 l7_4 l8_4 x9_4 m0_4 m1_4 k4 (shadowboxlaw10_AllocApart.lo4 l1 y1 jo2 k4)) else jo2 l7_4 (m0_4.1, m0_4.2.1, m0_4.2.2.1, m0_4.2.2.2.1, (), m0_4.2.2.2.2.2) (m1_4.1, m1_4.2)) else jo2 l7_4 (m0_4.1, m0_4.2.1, m0_4.2.2.1, m0_4.2.2.2.1, (), m0_4.2.2.2.2.2) (m1_4.1, m1_4.2))
def shadowboxlaw10_AllocApart.jo1 (k : Nat) (l1 : List Int) (y1 : Int) (t3 : (((Int × Int) × Bool × Int × (List (Int × Int)) × Unit × (List (Int × Int))) × (Bool × (List (Int × Int)))) × Int) : Option (Bool) := (if 0 ≤ IntKind.wrap .i64 ((2 : Int) + y1) then (if IntKind.wrap .i64 ((2 : Int) + y1) ≤ IntKind.wrap .i64 ((2 : Int) + y1) then (if IntKind.wrap .i64 ((2 : Int) + y1) ≤ 140737488355328 then (if (8 : Int) * (IntKind.wrap .i64 ((2 : Int) + y1)) ≤ 281474976710656 then shadowboxlaw10_AllocApart.lo4 l1 y1 (shadowboxlaw10_AllocApart.jo2 k y1) k (List.replicate (IntKind.wrap .i64 ((2 : Int) + y1)).toNat (0 : Int)) ([] : List (Int × Int)) (0 : Int) (t3.1.1.1, t3.1.1.2.1, t3.1.1.2.2.1, t3.1.1.2.2.2.1, (), t3.1.1.2.2.2.2.2) (t3.1.2.1, t3.1.2.2) else none) else none) else none) else none)
def shadowboxlaw10_AllocApart.f (k : Nat) (a0 : Int) (l1 : List Int) : Option (Bool) :=
  lt (IntKind.wrap .i64 ((8 : Int) + (bits .and .i64 a0 (63 : Int)))) fun y1 => (alloc_New.f k (2 : Int) (IntKind.wrap .i64 ((2 : Int) + y1)) (0 : Int)).bind fun t3 => (if t3.2 = (0 : Int) then (shadowboxlaw10_AllocApart.jo1 k l1 y1 t3) else some false)
set_option maxRecDepth 100000 in
set_option maxHeartbeats 4000000 in
theorem shadowboxlaw10_AllocApart.calls (k : Nat) (a0 : Int) (A1 : Option Addr) (c1 : Nat) (l1 : List Int) (r : Bool) (b : Bs) (hs0 : St b (stl []) b.w) (R1 : Ro b A1 (em (Ec.int 3 .i64) l1)) (C1 : l1.length ≤ c1) (H : shadowboxlaw10_AllocApart.f k a0 l1 = some r) :
    Calls Try.prog 7 #[.int .i64 a0, .slice A1 l1.length c1] b.w fun e w' => ∃ x : Unit, e = .returned (.bool r) ∧ St b (stl []) w' := by
  unfold shadowboxlaw10_AllocApart.f at H
  refine enterb (n := 177) Try.func7 rfl (by kernel_rfl) (by kernel_rfl) hs0 ?_
  refine cs_sub (s0) (sub_nil _) ?_
  refine cs_seq ?_
  refine cs_region (l := [_]) ?_
  refine lv (.bool false) ?_
  refine ls_end ?_
  refine qn_then ?_
  refine cs_seq ?_
  refine cs_region (l := [_, _, _, _]) ?_
  refine lv (.int .i64 a0) ?_
  refine lv (.int .i64 (bits .and .i64 a0 (63 : Int))) ?_
  obtain ⟨y1, hy2, H⟩ := lt_some H
  refine lv (.int .i64 (IntKind.wrap .i64 ((8 : Int) + (bits .and .i64 a0 (63 : Int))))) ?_
  refine ls_ren 21 (v := .int .i64 (IntKind.wrap .i64 ((8 : Int) + (bits .and .i64 a0 (63 : Int))))) (v' := .int .i64 y1) (by kernel_rfl) (by rw [hy2]) ?_
  refine lv (.int .i64 y1) ?_
  refine ls_end ?_
  refine qn_then ?_
  refine cs_seq ?_
  refine cs_region (l := [_, _, _, _, _, _, _, _]) ?_
  refine lv (.int .i64 y1) ?_
  refine lv (.int .i64 (IntKind.wrap .i64 ((2 : Int) + y1))) ?_
  obtain ⟨t3, hc4, H⟩ := bind_some H
  refine ls_callf (fid := 27) (vals := #[.int .i64 (2 : Int), .int .i64 (IntKind.wrap .i64 ((2 : Int) + y1)), .int .i64 (0 : Int)]) (X := Nat × (Option Addr × Nat) × (Option Addr × Nat) × Nat × (Option Addr × Nat)) (fun x => .tuple #[.pointer (some ⟨x.1, 0, none⟩), .int .i64 t3.2]) (fun x => stl [Ck.var 66 x.1 ((([Value.int .i64 t3.1.1.1.1] ++ [Value.int .i64 t3.1.1.1.2]) ++ ([Value.bool t3.1.1.2.1] ++ ([Value.int .i64 t3.1.1.2.2.1] ++ ([Value.slice x.2.1.1 t3.1.1.2.2.2.1.length x.2.1.2] ++ ([Value.map (some x.2.2.2.1)] ++ [Value.slice x.2.2.1.1 t3.1.1.2.2.2.2.2.length x.2.2.1.2])))))), Ck.m1 x.2.2.2.1 t3.1.2.1 x.2.2.2.2.1 t3.1.2.2.length x.2.2.2.2.2, Ck.sl T24 x.2.2.2.2.1 x.2.2.2.2.2 t3.1.2.2]) (fun x B => (Ro B x.2.1.1 (em T24 t3.1.1.2.2.2.1) ∧ t3.1.1.2.2.2.1.length ≤ x.2.1.2) ∧ (Ro B x.2.2.1.1 (em T24 t3.1.1.2.2.2.2.2) ∧ t3.1.1.2.2.2.2.2.length ≤ x.2.2.1.2)) [] [] 0 rfl rfl (by kernel_rfl) (fun w => by kernel_rfl) trivial (by decide) (fun x b b' h hf => ⟨⟨h _ _ hf.1.1, hf.1.2⟩, ⟨h _ _ hf.2.1, hf.2.2⟩⟩) (fun w hs hb => alloc_New.calls k (2 : Int) (IntKind.wrap .i64 ((2 : Int) + y1)) (0 : Int) t3 (lent b w [] []) hb  hc4) ?_
  intro x5 bs10 hle11 hok12 hf13
  obtain ⟨⟨fR6, fC7⟩, ⟨fR8, fC9⟩⟩ := hf13
  refine lv (.tuple #[.pointer (some ⟨x5.1, 0, none⟩), .int .i64 t3.2]) ?_
  refine lv (.pointer (some ⟨x5.1, 0, none⟩)) ?_
  refine lv (.int .i64 t3.2) ?_
  refine lv (.pointer (some ⟨x5.1, 0, none⟩)) ?_
  refine lv (.int .i64 t3.2) ?_
  refine ls_end ?_
  refine qn_then ?_
  refine cs_cut (fun f S => ∃ (fR : Fr), f = upd (upd (upd fR 0 (.int .i64 y1)) 1 (.slice A1 l1.length c1)) 5 (.pointer (some ⟨x5.1, 0, none⟩)) ∧ S = sput (sput (sput s0 0 (some (Ck.var 66 x5.1 ((([Value.int .i64 t3.1.1.1.1] ++ [Value.int .i64 t3.1.1.1.2]) ++ ([Value.bool t3.1.1.2.1] ++ ([Value.int .i64 t3.1.1.2.2.1] ++ ([Value.slice x5.2.1.1 t3.1.1.2.2.2.1.length x5.2.1.2] ++ ([Value.map (some x5.2.2.2.1)] ++ [Value.slice x5.2.2.1.1 t3.1.1.2.2.2.2.2.length x5.2.2.1.2]))))))))) 1 (some (Ck.m1 x5.2.2.2.1 t3.1.2.1 x5.2.2.2.2.1 t3.1.2.2.length x5.2.2.2.2.2))) 2 (some (Ck.sl T24 x5.2.2.2.2.1 x5.2.2.2.2.2 t3.1.2.2)) ∧ shadowboxlaw10_AllocApart.jo1 k l1 y1 t3 = some r) ?_ ?_
  · skip
    refine cs_seq ?_
    refine cs_region (l := [_, _, _, _, _, _]) ?_
    refine lv (.int .i64 t3.2) ?_
    refine lv (.bool (!decide (t3.2 = (0 : Int)))) ?_
    refine lv (.bool (!decide (t3.2 = (0 : Int)))) ?_
    by_cases q155 : t3.2 = (0 : Int)
    · replace H := ite_t q155 H
      refine ls_know (c := false) (congrArg Bool.not (dec_t q155)) 30 (by kernel_rfl) ?_
      refine ls_on (j := 2) (t := 30) (b := false) rfl rfl (by kernel_rfl) (by kernel_rfl) ?_
      refine lv (.pointer (some ⟨x5.1, 0, none⟩)) ?_
      refine ls_on (j := 2) (t := 30) (b := false) rfl rfl (by kernel_rfl) (by kernel_rfl) ?_
      refine lv (.bool false) ?_
      refine lv (.bool false) ?_
      refine ls_end ?_
      refine qn_then ?_
      refine cs_false (by kernel_rfl) ?_
      refine cs_skip' ?_
      refine qn_meet (sput (sput (sput s0 0 (some (Ck.var 66 x5.1 ((([Value.int .i64 t3.1.1.1.1] ++ [Value.int .i64 t3.1.1.1.2]) ++ ([Value.bool t3.1.1.2.1] ++ ([Value.int .i64 t3.1.1.2.2.1] ++ ([Value.slice x5.2.1.1 t3.1.1.2.2.2.1.length x5.2.1.2] ++ ([Value.map (some x5.2.2.2.1)] ++ [Value.slice x5.2.2.1.1 t3.1.1.2.2.2.2.2.length x5.2.2.1.2]))))))))) 1 (some (Ck.m1 x5.2.2.2.1 t3.1.2.1 x5.2.2.2.2.1 t3.1.2.2.length x5.2.2.2.2.2))) 2 (some (Ck.sl T24 x5.2.2.2.2.1 x5.2.2.2.2.2 t3.1.2.2))) ⟨_, fr_next (fr_next (fr_next (rfl) (by kernel_rfl)) (by kernel_rfl)) (by kernel_rfl), rfl, H⟩ (sub_put (by exact rfl) (sub_put (by exact rfl) (sub_put (by exact rfl) (sub_nil _))))
    replace H := ite_f q155 H
    refine ls_know (c := true) (congrArg Bool.not (dec_f q155)) 30 (by kernel_rfl) ?_
    refine lofx 2 30 false true ?_
    refine lofx 2 30 false true ?_
    refine lv (.bool true) ?_
    refine ls_end ?_
    refine qn_then ?_
    refine cs_true (by kernel_rfl) ?_
    refine cs_seq ?_
    refine cs_region (l := [_]) ?_
    refine lv (.bool false) ?_
    refine ls_end ?_
    refine qn_then ?_
    refine cs_ret' ?_
    refine qr_then ?_
    obtain rfl := Option.some.inj H
    refine qr_res (rs := [_]) rfl (fun w' hs => ⟨[.bool false], (res_tmp (by kernel_rfl) (.nil)), (), rfl, St.later hs0.ok hle11 (hs.pick (ts := []) (cs := []) trivial (by decide))⟩)
  rintro f S ⟨fr1, rfl, rfl, H⟩
  replace H : ((if 0 ≤ IntKind.wrap .i64 ((2 : Int) + y1) then (if IntKind.wrap .i64 ((2 : Int) + y1) ≤ IntKind.wrap .i64 ((2 : Int) + y1) then (if IntKind.wrap .i64 ((2 : Int) + y1) ≤ 140737488355328 then (if (8 : Int) * (IntKind.wrap .i64 ((2 : Int) + y1)) ≤ 281474976710656 then shadowboxlaw10_AllocApart.lo4 l1 y1 (shadowboxlaw10_AllocApart.jo2 k y1) k (List.replicate (IntKind.wrap .i64 ((2 : Int) + y1)).toNat (0 : Int)) ([] : List (Int × Int)) (0 : Int) (t3.1.1.1, t3.1.1.2.1, t3.1.1.2.2.1, t3.1.1.2.2.2.1, (), t3.1.1.2.2.2.2.2) (t3.1.2.1, t3.1.2.2) else none) else none) else none) else none)) = some r := H
  refine cs_seq ?_
  refine cs_region (l := [_, _, _, _]) ?_
  refine lv (.int .i64 y1) ?_
  refine lv (.int .i64 (IntKind.wrap .i64 ((2 : Int) + y1))) ?_
  obtain ⟨q14, H⟩ := ite_need H
  obtain ⟨q15, H⟩ := ite_need H
  obtain ⟨q16, H⟩ := ite_need H
  obtain ⟨q17, H⟩ := ite_need H
  refine ls_make (Ec.int 3 .i64) (bytes := 8) (a := IntKind.wrap .i64 ((2 : Int) + y1)) (b := IntKind.wrap .i64 ((2 : Int) + y1)) (kx := .i64) (ky := .i64) (zc := [Value.int .i64 (0 : Int)]) 3 rfl rfl (by kernel_rfl) rfl (by kernel_rfl) (by kernel_rfl) (by kernel_rfl) (by kernel_rfl) rfl q14 q15 q16 q17 ?_
  intro g18
  refine lv (.slice (some ⟨g18, 0, none⟩) (List.replicate (IntKind.wrap .i64 ((2 : Int) + y1)).toNat (0 : Int)).length (IntKind.wrap .i64 ((2 : Int) + y1)).toNat) ?_
  refine ls_end ?_
  refine qn_then ?_
  refine cs_seq ?_
  refine cs_region (l := [_]) ?_
  refine lv (.slice none 0 0) ?_
  refine ls_end ?_
  refine qn_then ?_
  refine cs_cutb (fun bh2 f S => ∃ (fR : Fr) (A7_2 : Option Addr) (c7_2 : Nat) (l7_2 : List Int) (Am0_2_3 : Option Addr) (cm0_2_3 : Nat) (Am0_2_5 : Option Addr) (cm0_2_5 : Nat) (m0_2 : ((Int × Int) × Bool × Int × (List (Int × Int)) × Unit × (List (Int × Int)))) (Am1_2_1 : Option Addr) (cm1_2_1 : Nat) (m1_2 : (Bool × (List (Int × Int)))), f = upd (upd (upd fR 0 (.int .i64 y1)) 5 (.pointer (some ⟨x5.1, 0, none⟩))) 7 (.slice A7_2 l7_2.length c7_2) ∧ S = sput (sput (sput (sput s0 0 (some (Ck.var 66 x5.1 ((([Value.int .i64 m0_2.1.1] ++ [Value.int .i64 m0_2.1.2]) ++ ([Value.bool m0_2.2.1] ++ ([Value.int .i64 m0_2.2.2.1] ++ ([Value.slice Am0_2_3 m0_2.2.2.2.1.length cm0_2_3] ++ ([Value.map (some x5.2.2.2.1)] ++ [Value.slice Am0_2_5 m0_2.2.2.2.2.2.length cm0_2_5]))))))))) 1 (some (Ck.m1 x5.2.2.2.1 m1_2.1 Am1_2_1 m1_2.2.length cm1_2_1))) 2 (some (Ck.sl T24 Am1_2_1 cm1_2_1 m1_2.2))) 3 (some (Ck.sl (Ec.int 3 .i64) A7_2 c7_2 l7_2)) ∧ Ro bh2 Am0_2_3 (em T24 m0_2.2.2.2.1) ∧ m0_2.2.2.2.1.length ≤ cm0_2_3 ∧ Ro bh2 Am0_2_5 (em T24 m0_2.2.2.2.2.2) ∧ m0_2.2.2.2.2.2.length ≤ cm0_2_5 ∧ b.le bh2 ∧ shadowboxlaw10_AllocApart.jo2 k y1 l7_2 m0_2 m1_2 = some r) ?_ ?_
  · skip
    refine cs_seq ?_
    refine cs_region (l := [_]) ?_
    refine lv (.int .i64 (0 : Int)) ?_
    refine ls_end ?_
    refine qn_then ?_
    refine cs_block ?_
    refine cs_nilrow 4 T24 ?_
    refine cs_toso (T := T24) 4 (by exact rfl) ?_
    refine cs_sub (sput (sput (sput (sput (sput s0 0 (some (Ck.var 66 x5.1 ((([Value.int .i64 t3.1.1.1.1] ++ [Value.int .i64 t3.1.1.1.2]) ++ ([Value.bool t3.1.1.2.1] ++ ([Value.int .i64 t3.1.1.2.2.1] ++ ([Value.slice x5.2.1.1 t3.1.1.2.2.2.1.length x5.2.1.2] ++ ([Value.map (some x5.2.2.2.1)] ++ [Value.slice x5.2.2.1.1 t3.1.1.2.2.2.2.2.length x5.2.2.1.2]))))))))) 1 (some (Ck.m1 x5.2.2.2.1 t3.1.2.1 x5.2.2.2.2.1 t3.1.2.2.length x5.2.2.2.2.2))) 2 (some (Ck.sl T24 x5.2.2.2.2.1 x5.2.2.2.2.2 t3.1.2.2))) 3 (some (Ck.sl (Ec.int 3 .i64) (some ⟨g18, 0, none⟩) ((IntKind.wrap .i64 ((2 : Int) + y1)).toNat) (List.replicate (IntKind.wrap .i64 ((2 : Int) + y1)).toNat (0 : Int))))) 4 (some (Ck.so T24 none 0 ([] : List (Int × Int))))) (sub_put (by exact rfl) (sub_put (by exact rfl) (sub_put (by exact rfl) (sub_put (by exact rfl) (sub_put (by exact rfl) (sub_nil _)))))) ?_
    refine cs_loopb (fun kk bh4 f S => ∃ (fR : Fr) (A7_4 : Option Addr) (c7_4 : Nat) (l7_4 : List Int) (A8_4 : Option Addr) (c8_4 : Nat) (l8_4 : List (Int × Int)) (x9_4 : Int) (Am0_4_3 : Option Addr) (cm0_4_3 : Nat) (Am0_4_5 : Option Addr) (cm0_4_5 : Nat) (m0_4 : ((Int × Int) × Bool × Int × (List (Int × Int)) × Unit × (List (Int × Int)))) (Am1_4_1 : Option Addr) (cm1_4_1 : Nat) (m1_4 : (Bool × (List (Int × Int)))), f = upd (upd (upd (upd (upd (upd fR 0 (.int .i64 y1)) 1 (.slice A1 l1.length c1)) 5 (.pointer (some ⟨x5.1, 0, none⟩))) 7 (.slice A7_4 l7_4.length c7_4)) 8 (.slice A8_4 l8_4.length c8_4)) 9 (.int .i64 x9_4) ∧ S = sput (sput (sput (sput (sput s0 0 (some (Ck.var 66 x5.1 ((([Value.int .i64 m0_4.1.1] ++ [Value.int .i64 m0_4.1.2]) ++ ([Value.bool m0_4.2.1] ++ ([Value.int .i64 m0_4.2.2.1] ++ ([Value.slice Am0_4_3 m0_4.2.2.2.1.length cm0_4_3] ++ ([Value.map (some x5.2.2.2.1)] ++ [Value.slice Am0_4_5 m0_4.2.2.2.2.2.length cm0_4_5]))))))))) 1 (some (Ck.m1 x5.2.2.2.1 m1_4.1 Am1_4_1 m1_4.2.length cm1_4_1))) 2 (some (Ck.sl T24 Am1_4_1 cm1_4_1 m1_4.2))) 3 (some (Ck.sl (Ec.int 3 .i64) A7_4 c7_4 l7_4))) 4 (some (Ck.so T24 A8_4 c8_4 l8_4)) ∧ Ro bh4 Am0_4_3 (em T24 m0_4.2.2.2.1) ∧ m0_4.2.2.2.1.length ≤ cm0_4_3 ∧ Ro bh4 Am0_4_5 (em T24 m0_4.2.2.2.2.2) ∧ m0_4.2.2.2.2.2.length ≤ cm0_4_5 ∧ b.le bh4 ∧ Ro bh4 A1 (em (Ec.int 3 .i64) l1) ∧ shadowboxlaw10_AllocApart.lo4 l1 y1 (shadowboxlaw10_AllocApart.jo2 k y1) kk l7_4 l8_4 x9_4 m0_4 m1_4 = some r) k ?_ ?_ ?_
    · exact ⟨_, (some ⟨g18, 0, none⟩), (IntKind.wrap .i64 ((2 : Int) + y1)).toNat, (List.replicate (IntKind.wrap .i64 ((2 : Int) + y1)).toNat (0 : Int)), none, 0, ([] : List (Int × Int)), (0 : Int), x5.2.1.1, x5.2.1.2, x5.2.2.1.1, x5.2.2.1.2, (t3.1.1.1, t3.1.1.2.1, t3.1.1.2.2.1, t3.1.1.2.2.2.1, (), t3.1.1.2.2.2.2.2), x5.2.2.2.2.1, x5.2.2.2.2.2, (t3.1.2.1, t3.1.2.2), fr_next (fr_next (fr_next (fr_next (fr_next (fr_next (rfl) (by kernel_rfl)) (by kernel_rfl)) (by kernel_rfl)) (by kernel_rfl)) (by kernel_rfl)) (by kernel_rfl), rfl, fR6, fC7, fR8, fC9, hle11, (Ro.mono hok12 hle11 R1), H⟩
    · rintro bh4 f S ⟨fr4, A7_4, c7_4, l7_4, A8_4, c8_4, l8_4, x9_4, Am0_4_3, cm0_4_3, Am0_4_5, cm0_4_5, m0_4, Am1_4_1, cm1_4_1, m1_4, rfl, rfl, Rm0_4_3, Cm0_4_3, Rm0_4_5, Cm0_4_5, hleh4, Rb1_4, H⟩; cases H
    rintro k4 bh4 f S ⟨fr4, A7_4, c7_4, l7_4, A8_4, c8_4, l8_4, x9_4, Am0_4_3, cm0_4_3, Am0_4_5, cm0_4_5, m0_4, Am1_4_1, cm1_4_1, m1_4, rfl, rfl, Rm0_4_3, Cm0_4_3, Rm0_4_5, Cm0_4_5, hleh4, Rb1_4, H⟩
    replace H : ((if x9_4 < (l1.length : Int) then (if x9_4 < (60 : Int) then (shadowboxlaw10_AllocApart.jo5 l1 y1 l7_4 l8_4 x9_4 m0_4 m1_4 k4 (shadowboxlaw10_AllocApart.lo4 l1 y1 (shadowboxlaw10_AllocApart.jo2 k y1) k4)) else (shadowboxlaw10_AllocApart.jo2 k y1) l7_4 (m0_4.1, m0_4.2.1, m0_4.2.2.1, m0_4.2.2.2.1, (), m0_4.2.2.2.2.2) (m1_4.1, m1_4.2)) else (shadowboxlaw10_AllocApart.jo2 k y1) l7_4 (m0_4.1, m0_4.2.1, m0_4.2.2.1, m0_4.2.2.2.1, (), m0_4.2.2.2.2.2) (m1_4.1, m1_4.2))) = some r := H
    refine cs_cut (fun f S => ∃ (fR : Fr), f = upd (upd (upd (upd (upd (upd fR 0 (.int .i64 y1)) 1 (.slice A1 l1.length c1)) 5 (.pointer (some ⟨x5.1, 0, none⟩))) 7 (.slice A7_4 l7_4.length c7_4)) 8 (.slice A8_4 l8_4.length c8_4)) 9 (.int .i64 x9_4) ∧ S = sput (sput (sput (sput (sput s0 0 (some (Ck.var 66 x5.1 ((([Value.int .i64 m0_4.1.1] ++ [Value.int .i64 m0_4.1.2]) ++ ([Value.bool m0_4.2.1] ++ ([Value.int .i64 m0_4.2.2.1] ++ ([Value.slice Am0_4_3 m0_4.2.2.2.1.length cm0_4_3] ++ ([Value.map (some x5.2.2.2.1)] ++ [Value.slice Am0_4_5 m0_4.2.2.2.2.2.length cm0_4_5]))))))))) 1 (some (Ck.m1 x5.2.2.2.1 m1_4.1 Am1_4_1 m1_4.2.length cm1_4_1))) 2 (some (Ck.sl T24 Am1_4_1 cm1_4_1 m1_4.2))) 3 (some (Ck.sl (Ec.int 3 .i64) A7_4 c7_4 l7_4))) 4 (some (Ck.so T24 A8_4 c8_4 l8_4)) ∧ shadowboxlaw10_AllocApart.jo5 l1 y1 l7_4 l8_4 x9_4 m0_4 m1_4 k4 (shadowboxlaw10_AllocApart.lo4 l1 y1 (shadowboxlaw10_AllocApart.jo2 k y1) k4) = some r) ?_ ?_
    · skip
      refine cs_seq ?_
      refine cs_region (l := [_, _, _, _, _, _, _, _]) ?_
      refine lv (.int .i64 x9_4) ?_
      refine lv (.slice A1 l1.length c1) ?_
      refine lv (.int .i64 (l1.length : Int)) ?_
      refine lv (.bool (decide (x9_4 < (l1.length : Int)))) ?_
      refine lv (.bool (decide (x9_4 < (l1.length : Int)))) ?_
      by_cases q153 : x9_4 < (l1.length : Int)
      · replace H := ite_t q153 H
        refine ls_know (c := true) (dec_t q153) 41 (by kernel_rfl) ?_
        refine ls_on (j := 4) (t := 41) (b := true) rfl rfl (by kernel_rfl) (by kernel_rfl) ?_
        refine lv (.int .i64 x9_4) ?_
        refine ls_on (j := 4) (t := 41) (b := true) rfl rfl (by kernel_rfl) (by kernel_rfl) ?_
        refine lv (.bool (decide (x9_4 < (60 : Int)))) ?_
        refine lv (.bool (decide (x9_4 < (60 : Int)))) ?_
        refine ls_end ?_
        refine qn_then ?_
        by_cases q154 : x9_4 < (60 : Int)
        · replace H := ite_t q154 H
          refine cs_know (c := true) (dec_t q154) 44 (by kernel_rfl) ?_
          refine cs_true (by kernel_rfl) ?_
          refine cs_skip' ?_
          refine qn_meet (sput (sput (sput (sput (sput s0 0 (some (Ck.var 66 x5.1 ((([Value.int .i64 m0_4.1.1] ++ [Value.int .i64 m0_4.1.2]) ++ ([Value.bool m0_4.2.1] ++ ([Value.int .i64 m0_4.2.2.1] ++ ([Value.slice Am0_4_3 m0_4.2.2.2.1.length cm0_4_3] ++ ([Value.map (some x5.2.2.2.1)] ++ [Value.slice Am0_4_5 m0_4.2.2.2.2.2.length cm0_4_5]))))))))) 1 (some (Ck.m1 x5.2.2.2.1 m1_4.1 Am1_4_1 m1_4.2.length cm1_4_1))) 2 (some (Ck.sl T24 Am1_4_1 cm1_4_1 m1_4.2))) 3 (some (Ck.sl (Ec.int 3 .i64) A7_4 c7_4 l7_4))) 4 (some (Ck.so T24 A8_4 c8_4 l8_4))) ⟨_, fr_next (fr_next (fr_next (fr_next (fr_next (fr_next (rfl) (by kernel_rfl)) (by kernel_rfl)) (by kernel_rfl)) (by kernel_rfl)) (by kernel_rfl)) (by kernel_rfl), rfl, H⟩ (sub_put (by exact rfl) (sub_put (by exact rfl) (sub_put (by exact rfl) (sub_put (by exact rfl) (sub_put (by exact rfl) (sub_nil _))))))
        replace H := ite_f q154 H
        refine cs_know (c := false) (dec_f q154) 44 (by kernel_rfl) ?_
        refine cs_false (by kernel_rfl) ?_
        refine cs_exit' ?_
        refine qx_then ?_
        refine qx_then ?_
        refine qx_same ?_
        refine qn_meetb (sput (sput (sput (sput s0 0 (some (Ck.var 66 x5.1 ((([Value.int .i64 m0_4.1.1] ++ [Value.int .i64 m0_4.1.2]) ++ ([Value.bool m0_4.2.1] ++ ([Value.int .i64 m0_4.2.2.1] ++ ([Value.slice Am0_4_3 m0_4.2.2.2.1.length cm0_4_3] ++ ([Value.map (some x5.2.2.2.1)] ++ [Value.slice Am0_4_5 m0_4.2.2.2.2.2.length cm0_4_5]))))))))) 1 (some (Ck.m1 x5.2.2.2.1 m1_4.1 Am1_4_1 m1_4.2.length cm1_4_1))) 2 (some (Ck.sl T24 Am1_4_1 cm1_4_1 m1_4.2))) 3 (some (Ck.sl (Ec.int 3 .i64) A7_4 c7_4 l7_4))) ⟨_, A7_4, c7_4, l7_4, Am0_4_3, cm0_4_3, Am0_4_5, cm0_4_5, (m0_4.1, m0_4.2.1, m0_4.2.2.1, m0_4.2.2.2.1, (), m0_4.2.2.2.2.2), Am1_4_1, cm1_4_1, (m1_4.1, m1_4.2), fr_next (fr_next (fr_next (rfl) (by kernel_rfl)) (by kernel_rfl)) (by kernel_rfl), rfl, Rm0_4_3, Cm0_4_3, Rm0_4_5, Cm0_4_5, hleh4, H⟩ (sub_put (by exact rfl) (sub_put (by exact rfl) (sub_put (by exact rfl) (sub_put (by exact rfl) (sub_nil _)))))
      replace H := ite_f q153 H
      refine ls_know (c := false) (dec_f q153) 41 (by kernel_rfl) ?_
      refine lofx 4 41 true false ?_
      refine lofx 4 41 true false ?_
      refine lv (.bool false) ?_
      refine ls_end ?_
      refine qn_then ?_
      refine cs_false (by kernel_rfl) ?_
      refine cs_exit' ?_
      refine qx_then ?_
      refine qx_then ?_
      refine qx_same ?_
      refine qn_meetb (sput (sput (sput (sput s0 0 (some (Ck.var 66 x5.1 ((([Value.int .i64 m0_4.1.1] ++ [Value.int .i64 m0_4.1.2]) ++ ([Value.bool m0_4.2.1] ++ ([Value.int .i64 m0_4.2.2.1] ++ ([Value.slice Am0_4_3 m0_4.2.2.2.1.length cm0_4_3] ++ ([Value.map (some x5.2.2.2.1)] ++ [Value.slice Am0_4_5 m0_4.2.2.2.2.2.length cm0_4_5]))))))))) 1 (some (Ck.m1 x5.2.2.2.1 m1_4.1 Am1_4_1 m1_4.2.length cm1_4_1))) 2 (some (Ck.sl T24 Am1_4_1 cm1_4_1 m1_4.2))) 3 (some (Ck.sl (Ec.int 3 .i64) A7_4 c7_4 l7_4))) ⟨_, A7_4, c7_4, l7_4, Am0_4_3, cm0_4_3, Am0_4_5, cm0_4_5, (m0_4.1, m0_4.2.1, m0_4.2.2.1, m0_4.2.2.2.1, (), m0_4.2.2.2.2.2), Am1_4_1, cm1_4_1, (m1_4.1, m1_4.2), fr_next (fr_next (fr_next (rfl) (by kernel_rfl)) (by kernel_rfl)) (by kernel_rfl), rfl, Rm0_4_3, Cm0_4_3, Rm0_4_5, Cm0_4_5, hleh4, H⟩ (sub_put (by exact rfl) (sub_put (by exact rfl) (sub_put (by exact rfl) (sub_put (by exact rfl) (sub_nil _)))))
    rintro f S ⟨fr5, rfl, rfl, H⟩
    replace H : ((if 0 ≤ x9_4 then (if x9_4 < (l1.length : Int) then lt (bits .and .i64 ((l1).getD (x9_4).toNat (0 : Int)) (7 : Int)) fun y32 => (alloc_Alloc_Take.f k4 (m0_4.1, m0_4.2.1, m0_4.2.2.1, m0_4.2.2.2.1, (), m0_4.2.2.2.2.2) (m1_4.1, m1_4.2) (IntKind.wrap .i64 ((1 : Int) + y32)) true).bind fun t34 => (if t34.2.1 = (0 : Int) then shadowboxlaw10_AllocApart.lo12 y1 l8_4 y32 t34 (shadowboxlaw10_AllocApart.jo6 l1 y1 x9_4 m1_4 k4 t34 (shadowboxlaw10_AllocApart.lo4 l1 y1 (shadowboxlaw10_AllocApart.jo2 k y1) k4)) k4 l7_4 t34.1 else (if t34.2.1 = (15 : Int) then (shadowboxlaw10_AllocApart.jo6 l1 y1 x9_4 m1_4 k4 t34 (shadowboxlaw10_AllocApart.lo4 l1 y1 (shadowboxlaw10_AllocApart.jo2 k y1) k4)) l7_4 l8_4 else some false)) else none) else none)) = some r := H
    refine cs_seq ?_
    refine cs_block ?_
    refine cs_seq ?_
    refine cs_region (l := [_, _, _, _, _, _, _]) ?_
    refine lv (.slice A1 l1.length c1) ?_
    refine lv (.int .i64 x9_4) ?_
    obtain ⟨q28, H⟩ := ite_need H
    obtain ⟨q29, H⟩ := ite_need H
    obtain ⟨ad30, hA31⟩ := ido_at (T := (Ec.int 3 .i64)) (l := l1) (i := x9_4) Rb1_4 q28 q29
    refine ls_idxv (Ec.int 3 .i64) (A := A1) (c := c1) (l := l1) (k := .i64) (i := x9_4) (z := 1) (ad := ad30) rfl rfl (by kernel_rfl) hA31 rfl (by kernel_rfl) (by kernel_rfl) (by kernel_rfl) (by kernel_rfl) q28 q29 ?_
    refine ls_load (a0 := (ad30.add ((x9_4).toNat * 1))) (v := .int .i64 ((l1).getD (x9_4).toNat (0 : Int))) (de := (TypeDesc.int .i64)) rfl rfl (by kernel_rfl) rfl (by kernel_rfl) (by kernel_rfl) (by kernel_rfl) (fun w hs => (hs.old Rb1_4).at hA31 (em_sub (Ec.int 3 .i64) l1 (i := (x9_4).toNat) (by have h0 : (0 : Int) ≤ x9_4 := q28; have h1 : x9_4 < (l1.length : Int) := q29; omega))) ?_
    obtain ⟨y32, hy33, H⟩ := lt_some H
    refine lv (.int .i64 (bits .and .i64 ((l1).getD (x9_4).toNat (0 : Int)) (7 : Int))) ?_
    refine ls_ren 51 (v := .int .i64 (bits .and .i64 ((l1).getD (x9_4).toNat (0 : Int)) (7 : Int))) (v' := .int .i64 y32) (by kernel_rfl) (by rw [hy33]) ?_
    refine lv (.int .i64 (IntKind.wrap .i64 ((1 : Int) + y32))) ?_
    refine lv (.int .i64 (IntKind.wrap .i64 ((1 : Int) + y32))) ?_
    refine ls_end ?_
    refine qn_then ?_
    refine cs_seq ?_
    refine cs_region (l := [_, _, _, _, _, _, _, _]) ?_
    refine lv (.pointer (some ⟨x5.1, 0, none⟩)) ?_
    refine lv (.int .i64 (IntKind.wrap .i64 ((1 : Int) + y32))) ?_
    obtain ⟨t34, hc35, H⟩ := bind_some H
    refine ls_callf (fid := 28) (vals := #[.pointer (some ⟨x5.1, 0, none⟩), .int .i64 (IntKind.wrap .i64 ((1 : Int) + y32)), .bool true]) (X := (Option Addr × Nat) × (Option Addr × Nat)) (fun x => .tuple #[.int .i64 t34.1, .int .i64 t34.2.1]) (fun x => stl [Ck.var 66 x5.1 ((([Value.int .i64 t34.2.2.1.1] ++ [Value.int .i64 t34.2.2.1.2]) ++ ([Value.bool t34.2.2.2.1] ++ ([Value.int .i64 t34.2.2.2.2.1] ++ ([Value.slice x.1.1 t34.2.2.2.2.2.1.length x.1.2] ++ ([Value.map (some x5.2.2.2.1)] ++ [Value.slice x.2.1 t34.2.2.2.2.2.2.2.length x.2.2])))))), Ck.m1 x5.2.2.2.1 m1_4.1 Am1_4_1 m1_4.2.length cm1_4_1, Ck.sl T24 Am1_4_1 cm1_4_1 m1_4.2]) (fun x B => (Ro B x.1.1 (em T24 t34.2.2.2.2.2.1) ∧ t34.2.2.2.2.2.1.length ≤ x.1.2) ∧ (Ro B x.2.1 (em T24 t34.2.2.2.2.2.2.2) ∧ t34.2.2.2.2.2.2.2.length ≤ x.2.2)) [0, 1, 2] [Ck.var 66 x5.1 ((([Value.int .i64 m0_4.1.1] ++ [Value.int .i64 m0_4.1.2]) ++ ([Value.bool m0_4.2.1] ++ ([Value.int .i64 m0_4.2.2.1] ++ ([Value.slice Am0_4_3 m0_4.2.2.2.1.length cm0_4_3] ++ ([Value.map (some x5.2.2.2.1)] ++ [Value.slice Am0_4_5 m0_4.2.2.2.2.2.length cm0_4_5])))))), Ck.m1 x5.2.2.2.1 m1_4.1 Am1_4_1 m1_4.2.length cm1_4_1, Ck.sl T24 Am1_4_1 cm1_4_1 m1_4.2] 5 rfl rfl (by kernel_rfl) (fun w => by kernel_rfl) ⟨by exact rfl, by exact rfl, by exact rfl, trivial⟩ (by decide) (fun x b b' h hf => ⟨⟨h _ _ hf.1.1, hf.1.2⟩, ⟨h _ _ hf.2.1, hf.2.2⟩⟩) (fun w hs hb => alloc_Alloc_Take.calls k4 x5.1 Am0_4_3 cm0_4_3 x5.2.2.2.1 Am0_4_5 cm0_4_5 (m0_4.1, m0_4.2.1, m0_4.2.2.1, m0_4.2.2.2.1, (), m0_4.2.2.2.2.2) Am1_4_1 cm1_4_1 (m1_4.1, m1_4.2) (IntKind.wrap .i64 ((1 : Int) + y32)) true t34 (lent bh4 w [Ck.var 66 x5.1 ((([Value.int .i64 m0_4.1.1] ++ [Value.int .i64 m0_4.1.2]) ++ ([Value.bool m0_4.2.1] ++ ([Value.int .i64 m0_4.2.2.1] ++ ([Value.slice Am0_4_3 m0_4.2.2.2.1.length cm0_4_3] ++ ([Value.map (some x5.2.2.2.1)] ++ [Value.slice Am0_4_5 m0_4.2.2.2.2.2.length cm0_4_5])))))), Ck.m1 x5.2.2.2.1 m1_4.1 Am1_4_1 m1_4.2.length cm1_4_1, Ck.sl T24 Am1_4_1 cm1_4_1 m1_4.2] []) hb (hs.ro Rm0_4_3 _ _) Cm0_4_3 (hs.ro Rm0_4_5 _ _) Cm0_4_5 hc35) ?_
    intro x36 bs41 hle42 hok43 hf44
    obtain ⟨⟨fR37, fC38⟩, ⟨fR39, fC40⟩⟩ := hf44
    refine lv (.tuple #[.int .i64 t34.1, .int .i64 t34.2.1]) ?_
    refine lv (.int .i64 t34.1) ?_
    refine lv (.int .i64 t34.2.1) ?_
    refine lv (.int .i64 t34.1) ?_
    refine lv (.int .i64 t34.2.1) ?_
    refine ls_end ?_
    refine qn_then ?_
    refine cs_cut (fun f S => ∃ (fR : Fr) (A7_6 : Option Addr) (c7_6 : Nat) (l7_6 : List Int) (A8_6 : Option Addr) (c8_6 : Nat) (l8_6 : List (Int × Int)), f = upd (upd (upd (upd (upd (upd fR 0 (.int .i64 y1)) 1 (.slice A1 l1.length c1)) 5 (.pointer (some ⟨x5.1, 0, none⟩))) 7 (.slice A7_6 l7_6.length c7_6)) 8 (.slice A8_6 l8_6.length c8_6)) 9 (.int .i64 x9_4) ∧ S = sput (sput (sput (sput (sput s0 0 (some (Ck.var 66 x5.1 ((([Value.int .i64 t34.2.2.1.1] ++ [Value.int .i64 t34.2.2.1.2]) ++ ([Value.bool t34.2.2.2.1] ++ ([Value.int .i64 t34.2.2.2.2.1] ++ ([Value.slice x36.1.1 t34.2.2.2.2.2.1.length x36.1.2] ++ ([Value.map (some x5.2.2.2.1)] ++ [Value.slice x36.2.1 t34.2.2.2.2.2.2.2.length x36.2.2]))))))))) 1 (some (Ck.m1 x5.2.2.2.1 m1_4.1 Am1_4_1 m1_4.2.length cm1_4_1))) 2 (some (Ck.sl T24 Am1_4_1 cm1_4_1 m1_4.2))) 3 (some (Ck.sl (Ec.int 3 .i64) A7_6 c7_6 l7_6))) 4 (some (Ck.so T24 A8_6 c8_6 l8_6)) ∧ shadowboxlaw10_AllocApart.jo6 l1 y1 x9_4 m1_4 k4 t34 (shadowboxlaw10_AllocApart.lo4 l1 y1 (shadowboxlaw10_AllocApart.jo2 k y1) k4) l7_6 l8_6 = some r) ?_ ?_
    · skip
      refine cs_seq ?_
      refine cs_region (l := [_, _]) ?_
      refine lv (.int .i64 t34.2.1) ?_
      refine lv (.bool (decide (t34.2.1 = (0 : Int)))) ?_
      refine ls_end ?_
      refine qn_then ?_
      by_cases q131 : t34.2.1 = (0 : Int)
      · replace H := ite_t q131 H
        refine cs_know (c := true) (dec_t q131) 60 (by kernel_rfl) ?_
        refine cs_true (by kernel_rfl) ?_
        refine cs_seq ?_
        refine cs_seq ?_
        refine cs_region (l := [_, _]) ?_
        refine lv (.int .i64 t34.1) ?_
        refine lv (.int .i64 t34.1) ?_
        refine ls_end ?_
        refine qn_then ?_
        refine cs_block ?_
        refine cs_sub (sput (sput (sput (sput (sput s0 0 (some (Ck.var 66 x5.1 ((([Value.int .i64 t34.2.2.1.1] ++ [Value.int .i64 t34.2.2.1.2]) ++ ([Value.bool t34.2.2.2.1] ++ ([Value.int .i64 t34.2.2.2.2.1] ++ ([Value.slice x36.1.1 t34.2.2.2.2.2.1.length x36.1.2] ++ ([Value.map (some x5.2.2.2.1)] ++ [Value.slice x36.2.1 t34.2.2.2.2.2.2.2.length x36.2.2]))))))))) 1 (some (Ck.m1 x5.2.2.2.1 m1_4.1 Am1_4_1 m1_4.2.length cm1_4_1))) 2 (some (Ck.sl T24 Am1_4_1 cm1_4_1 m1_4.2))) 3 (some (Ck.sl (Ec.int 3 .i64) A7_4 c7_4 l7_4))) 4 (some (Ck.so T24 A8_4 c8_4 l8_4))) (sub_put (by exact rfl) (sub_put (by exact rfl) (sub_put (by exact rfl) (sub_put (by exact rfl) (sub_put (by exact rfl) (sub_nil _)))))) ?_
        refine cs_loop (fun kk f S => ∃ (fR : Fr) (A7_12 : Option Addr) (c7_12 : Nat) (l7_12 : List Int) (x13_12 : Int), f = upd (upd (upd (upd (upd (upd (upd (upd (upd fR 0 (.int .i64 y1)) 1 (.slice A1 l1.length c1)) 5 (.pointer (some ⟨x5.1, 0, none⟩))) 7 (.slice A7_12 l7_12.length c7_12)) 8 (.slice A8_4 l8_4.length c8_4)) 9 (.int .i64 x9_4)) 10 (.int .i64 (IntKind.wrap .i64 ((1 : Int) + y32)))) 11 (.int .i64 t34.1)) 13 (.int .i64 x13_12) ∧ S = sput (sput (sput (sput (sput s0 0 (some (Ck.var 66 x5.1 ((([Value.int .i64 t34.2.2.1.1] ++ [Value.int .i64 t34.2.2.1.2]) ++ ([Value.bool t34.2.2.2.1] ++ ([Value.int .i64 t34.2.2.2.2.1] ++ ([Value.slice x36.1.1 t34.2.2.2.2.2.1.length x36.1.2] ++ ([Value.map (some x5.2.2.2.1)] ++ [Value.slice x36.2.1 t34.2.2.2.2.2.2.2.length x36.2.2]))))))))) 1 (some (Ck.m1 x5.2.2.2.1 m1_4.1 Am1_4_1 m1_4.2.length cm1_4_1))) 2 (some (Ck.sl T24 Am1_4_1 cm1_4_1 m1_4.2))) 3 (some (Ck.sl (Ec.int 3 .i64) A7_12 c7_12 l7_12))) 4 (some (Ck.so T24 A8_4 c8_4 l8_4)) ∧ shadowboxlaw10_AllocApart.lo12 y1 l8_4 y32 t34 (shadowboxlaw10_AllocApart.jo6 l1 y1 x9_4 m1_4 k4 t34 (shadowboxlaw10_AllocApart.lo4 l1 y1 (shadowboxlaw10_AllocApart.jo2 k y1) k4)) kk l7_12 x13_12 = some r) k4 ?_ ?_ ?_
        · exact ⟨_, A7_4, c7_4, l7_4, t34.1, fr_next (fr_next (fr_next (fr_next (fr_next (fr_next (fr_next (fr_next (fr_next (rfl) (by kernel_rfl)) (by kernel_rfl)) (by kernel_rfl)) (by kernel_rfl)) (by kernel_rfl)) (by kernel_rfl)) (by kernel_rfl)) (by kernel_rfl)) (by kernel_rfl), rfl, H⟩
        · rintro f S ⟨fr12, A7_12, c7_12, l7_12, x13_12, rfl, rfl, H⟩; cases H
        rintro k12 f S ⟨fr12, A7_12, c7_12, l7_12, x13_12, rfl, rfl, H⟩
        replace H : (lt (IntKind.wrap .i64 (t34.1 + (IntKind.wrap .i64 ((1 : Int) + y32)))) fun y132 => (if x13_12 < y132 then (if x13_12 < (2 : Int) then some false else (if x13_12 ≥ (IntKind.wrap .i64 ((2 : Int) + y1)) then some false else (if 0 ≤ x13_12 then (if x13_12 < (l7_12.length : Int) then (if ((l7_12).getD (x13_12).toNat (0 : Int)) = (0 : Int) then lt ((l7_12).set (x13_12).toNat (1 : Int)) fun y144 => (shadowboxlaw10_AllocApart.lo12 y1 l8_4 y32 t34 (shadowboxlaw10_AllocApart.jo6 l1 y1 x9_4 m1_4 k4 t34 (shadowboxlaw10_AllocApart.lo4 l1 y1 (shadowboxlaw10_AllocApart.jo2 k y1) k4)) k12) y144 (IntKind.wrap .i64 (x13_12 + (1 : Int))) else some false) else none) else none))) else lt (IntKind.wrap .i64 (t34.1 + (IntKind.wrap .i64 ((1 : Int) + y32)))) fun y146 => (if (l8_4.length + ([(t34.1, y146)]).length) * 16 ≤ 140737488355328 then (shadowboxlaw10_AllocApart.jo6 l1 y1 x9_4 m1_4 k4 t34 (shadowboxlaw10_AllocApart.lo4 l1 y1 (shadowboxlaw10_AllocApart.jo2 k y1) k4)) l7_12 (l8_4 ++ [(t34.1, y146)]) else none))) = some r := H
        refine cs_seq ?_
        refine cs_seq ?_
        refine cs_region (l := [_, _, _, _, _]) ?_
        refine lv (.int .i64 x13_12) ?_
        refine lv (.int .i64 t34.1) ?_
        refine lv (.int .i64 (IntKind.wrap .i64 ((1 : Int) + y32))) ?_
        obtain ⟨y132, hy133, H⟩ := lt_some H
        refine lv (.int .i64 (IntKind.wrap .i64 (t34.1 + (IntKind.wrap .i64 ((1 : Int) + y32))))) ?_
        refine ls_ren 65 (v := .int .i64 (IntKind.wrap .i64 (t34.1 + (IntKind.wrap .i64 ((1 : Int) + y32))))) (v' := .int .i64 y132) (by kernel_rfl) (by rw [hy133]) ?_
        refine lv (.bool (decide (x13_12 < y132))) ?_
        refine ls_end ?_
        refine qn_then ?_
        by_cases q134 : x13_12 < y132
        · replace H := ite_t q134 H
          refine cs_know (c := true) (dec_t q134) 66 (by kernel_rfl) ?_
          refine cs_true (by kernel_rfl) ?_
          refine cs_skip' ?_
          refine qn_then ?_
          refine cs_seq ?_
          refine cs_block ?_
          refine cs_seq ?_
          refine cs_seq ?_
          refine cs_region (l := [_, _, _, _, _, _, _, _, _, _, _, _, _, _, _]) ?_
          refine lv (.int .i64 x13_12) ?_
          refine lv (.bool (decide (x13_12 < (2 : Int)))) ?_
          refine lv (.bool (decide (x13_12 < (2 : Int)))) ?_
          by_cases q135 : x13_12 < (2 : Int)
          · replace H := ite_t q135 H
            refine ls_know (c := true) (dec_t q135) 71 (by kernel_rfl) ?_
            refine lofx 2 71 false true ?_
            refine lofx 2 71 false true ?_
            refine lofx 2 71 false true ?_
            refine lofx 2 71 false true ?_
            refine lv (.bool true) ?_
            refine lv (.bool true) ?_
            refine lofx 8 77 false true ?_
            refine lofx 8 77 false true ?_
            refine lofx 8 77 false true ?_
            refine lofx 8 77 false true ?_
            refine lofx 8 77 false true ?_
            refine lv (.bool true) ?_
            refine ls_end ?_
            refine qn_then ?_
            refine cs_true (by kernel_rfl) ?_
            refine cs_seq ?_
            refine cs_region (l := [_]) ?_
            refine lv (.bool false) ?_
            refine ls_end ?_
            refine qn_then ?_
            refine cs_ret' ?_
            refine qr_then ?_
            refine qr_block ?_
            refine qr_then ?_
            refine qr_then ?_
            refine qr_block ?_
            refine qr_then ?_
            refine qr_then ?_
            refine qr_block ?_
            refine qr_then ?_
            refine qr_then ?_
            refine qr_block ?_
            refine qr_then ?_
            obtain rfl := Option.some.inj H
            refine qr_res (rs := [_]) rfl (fun w' hs => ⟨[.bool false], (res_tmp (by kernel_rfl) (.nil)), (), rfl, St.later hs0.ok (hleh4.trans hle42) (hs.pick (ts := []) (cs := []) trivial (by decide))⟩)
          replace H := ite_f q135 H
          refine ls_know (c := false) (dec_f q135) 71 (by kernel_rfl) ?_
          refine ls_on (j := 2) (t := 71) (b := false) rfl rfl (by kernel_rfl) (by kernel_rfl) ?_
          refine lv (.int .i64 x13_12) ?_
          refine ls_on (j := 2) (t := 71) (b := false) rfl rfl (by kernel_rfl) (by kernel_rfl) ?_
          refine lv (.int .i64 y1) ?_
          refine ls_on (j := 2) (t := 71) (b := false) rfl rfl (by kernel_rfl) (by kernel_rfl) ?_
          refine lv (.int .i64 (IntKind.wrap .i64 ((2 : Int) + y1))) ?_
          refine ls_on (j := 2) (t := 71) (b := false) rfl rfl (by kernel_rfl) (by kernel_rfl) ?_
          refine lv (.bool (decide (x13_12 ≥ (IntKind.wrap .i64 ((2 : Int) + y1))))) ?_
          refine lv (.bool (decide (x13_12 ≥ (IntKind.wrap .i64 ((2 : Int) + y1))))) ?_
          refine lv (.bool (decide (x13_12 ≥ (IntKind.wrap .i64 ((2 : Int) + y1))))) ?_
          by_cases q136 : x13_12 ≥ (IntKind.wrap .i64 ((2 : Int) + y1))
          · replace H := ite_t q136 H
            refine ls_know (c := true) (dec_t q136) 77 (by kernel_rfl) ?_
            refine lofx 8 77 false true ?_
            refine lofx 8 77 false true ?_
            refine lofx 8 77 false true ?_
            refine lofx 8 77 false true ?_
            refine lofx 8 77 false true ?_
            refine lv (.bool true) ?_
            refine ls_end ?_
            refine qn_then ?_
            refine cs_true (by kernel_rfl) ?_
            refine cs_seq ?_
            refine cs_region (l := [_]) ?_
            refine lv (.bool false) ?_
            refine ls_end ?_
            refine qn_then ?_
            refine cs_ret' ?_
            refine qr_then ?_
            refine qr_block ?_
            refine qr_then ?_
            refine qr_then ?_
            refine qr_block ?_
            refine qr_then ?_
            refine qr_then ?_
            refine qr_block ?_
            refine qr_then ?_
            refine qr_then ?_
            refine qr_block ?_
            refine qr_then ?_
            obtain rfl := Option.some.inj H
            refine qr_res (rs := [_]) rfl (fun w' hs => ⟨[.bool false], (res_tmp (by kernel_rfl) (.nil)), (), rfl, St.later hs0.ok (hleh4.trans hle42) (hs.pick (ts := []) (cs := []) trivial (by decide))⟩)
          replace H := ite_f q136 H
          refine ls_know (c := false) (dec_f q136) 77 (by kernel_rfl) ?_
          refine ls_on (j := 8) (t := 77) (b := false) rfl rfl (by kernel_rfl) (by kernel_rfl) ?_
          refine lv (.slice A7_12 l7_12.length c7_12) ?_
          refine ls_on (j := 8) (t := 77) (b := false) rfl rfl (by kernel_rfl) (by kernel_rfl) ?_
          refine lv (.int .i64 x13_12) ?_
          refine ls_on (j := 8) (t := 77) (b := false) rfl rfl (by kernel_rfl) (by kernel_rfl) ?_
          obtain ⟨q137, H⟩ := ite_need H
          obtain ⟨q138, H⟩ := ite_need H
          refine ls_at (T := (Ec.int 3 .i64)) (tk := 3) (i := x13_12) (by exact rfl) q137 q138 ?_
          intro ad139 hA140
          refine ls_idxv (Ec.int 3 .i64) (A := A7_12) (c := c7_12) (l := l7_12) (k := .i64) (i := x13_12) (z := 1) (ad := ad139) rfl rfl (by kernel_rfl) hA140 rfl (by kernel_rfl) (by kernel_rfl) (by kernel_rfl) (by kernel_rfl) q137 q138 ?_
          refine ls_on (j := 8) (t := 77) (b := false) rfl rfl (by kernel_rfl) (by kernel_rfl) ?_
          refine ls_load (a0 := (ad139.add ((x13_12).toNat * 1))) (v := .int .i64 ((l7_12).getD (x13_12).toNat (0 : Int))) (de := (TypeDesc.int .i64)) rfl rfl (by kernel_rfl) rfl (by kernel_rfl) (by kernel_rfl) (by kernel_rfl) (fun w hs => (hs.rd (k := 3) (by exact rfl)).at hA140 (em_sub (Ec.int 3 .i64) l7_12 (i := (x13_12).toNat) (by have h0 : (0 : Int) ≤ x13_12 := q137; have h1 : x13_12 < (l7_12.length : Int) := q138; omega))) ?_
          refine ls_on (j := 8) (t := 77) (b := false) rfl rfl (by kernel_rfl) (by kernel_rfl) ?_
          refine lv (.bool (!decide (((l7_12).getD (x13_12).toNat (0 : Int)) = (0 : Int)))) ?_
          refine lv (.bool (!decide (((l7_12).getD (x13_12).toNat (0 : Int)) = (0 : Int)))) ?_
          refine ls_end ?_
          refine qn_then ?_
          by_cases q141 : ((l7_12).getD (x13_12).toNat (0 : Int)) = (0 : Int)
          · replace H := ite_t q141 H
            refine cs_know (c := false) (congrArg Bool.not (dec_t q141)) 83 (by kernel_rfl) ?_
            refine cs_false (by kernel_rfl) ?_
            refine cs_skip' ?_
            refine qn_then ?_
            refine cs_region (l := [_, _, _, _]) ?_
            refine lv (.slice A7_12 l7_12.length c7_12) ?_
            refine lv (.int .i64 x13_12) ?_
            refine ls_at (T := (Ec.int 3 .i64)) (tk := 3) (i := x13_12) (by exact rfl) q137 q138 ?_
            intro ad142 hA143
            refine ls_idxv (Ec.int 3 .i64) (A := A7_12) (c := c7_12) (l := l7_12) (k := .i64) (i := x13_12) (z := 1) (ad := ad142) rfl rfl (by kernel_rfl) hA143 rfl (by kernel_rfl) (by kernel_rfl) (by kernel_rfl) (by kernel_rfl) q137 q138 ?_
            obtain ⟨y144, hy145, H⟩ := lt_some H
            refine ls_storem (Ec.int 3 .i64) (A := A7_12) (c := c7_12) (l := l7_12) (l' := y144) (ad := ad142) (off := ((x13_12).toNat * 1)) (v := .int .i64 (1 : Int)) (vs := [Value.int .i64 (1 : Int)]) 3 rfl rfl rfl hA143 (by kernel_rfl) (by kernel_rfl) (by kernel_rfl) (by exact rfl) (by kernel_rfl) (len1 _) (one_cons rfl one_nil) (hl_of (em_sub (Ec.int 3 .i64) l7_12 (i := (x13_12).toNat) (by have h0 : (0 : Int) ≤ x13_12 := q137; have h1 : x13_12 < (l7_12.length : Int) := q138; omega)) (len_eq (len1 _) (len1 _))) ((splc_em (Ec.int 3 .i64) l7_12 (1 : Int) (i := (x13_12).toNat) (by have h0 : (0 : Int) ≤ x13_12 := q137; have h1 : x13_12 < (l7_12.length : Int) := q138; omega)).trans (congrArg (em (Ec.int 3 .i64)) hy145)) (by rw [← hy145, List.length_set]) ?_
            refine ls_ren 7 (v := .slice A7_12 l7_12.length c7_12) (v' := .slice A7_12 y144.length c7_12) (by kernel_rfl) (by rw [← hy145, List.length_set]) ?_
            refine ls_ren 78 (v := .slice A7_12 l7_12.length c7_12) (v' := .slice A7_12 y144.length c7_12) (by kernel_rfl) (by rw [← hy145, List.length_set]) ?_
            refine ls_ren 84 (v := .slice A7_12 l7_12.length c7_12) (v' := .slice A7_12 y144.length c7_12) (by kernel_rfl) (by rw [← hy145, List.length_set]) ?_
            refine ls_end ?_
            refine qn_block ?_
            refine qn_then ?_
            refine cs_region (l := [_, _, _]) ?_
            refine lv (.int .i64 x13_12) ?_
            refine lv (.int .i64 (IntKind.wrap .i64 (x13_12 + (1 : Int)))) ?_
            refine lv (.int .i64 (IntKind.wrap .i64 (x13_12 + (1 : Int)))) ?_
            refine ls_end ?_
            refine qn_again k12 (sput (sput (sput (sput (sput s0 0 (some (Ck.var 66 x5.1 ((([Value.int .i64 t34.2.2.1.1] ++ [Value.int .i64 t34.2.2.1.2]) ++ ([Value.bool t34.2.2.2.1] ++ ([Value.int .i64 t34.2.2.2.2.1] ++ ([Value.slice x36.1.1 t34.2.2.2.2.2.1.length x36.1.2] ++ ([Value.map (some x5.2.2.2.1)] ++ [Value.slice x36.2.1 t34.2.2.2.2.2.2.2.length x36.2.2]))))))))) 1 (some (Ck.m1 x5.2.2.2.1 m1_4.1 Am1_4_1 m1_4.2.length cm1_4_1))) 2 (some (Ck.sl T24 Am1_4_1 cm1_4_1 m1_4.2))) 3 (some (Ck.sl (Ec.int 3 .i64) A7_12 c7_12 y144))) 4 (some (Ck.so T24 A8_4 c8_4 l8_4))) (Nat.le_refl _) ⟨_, A7_12, c7_12, y144, (IntKind.wrap .i64 (x13_12 + (1 : Int))), fr_next (fr_next (fr_next (fr_next (fr_next (fr_next (fr_next (fr_next (fr_next (rfl) (by kernel_rfl)) (by kernel_rfl)) (by kernel_rfl)) (by kernel_rfl)) (by kernel_rfl)) (by kernel_rfl)) (by kernel_rfl)) (by kernel_rfl)) (by kernel_rfl), rfl, H⟩ (sub_put (by exact rfl) (sub_put (by exact rfl) (sub_put (by exact rfl) (sub_put (by exact rfl) (sub_put (by exact rfl) (sub_nil _))))))
          replace H := ite_f q141 H
          refine cs_know (c := true) (congrArg Bool.not (dec_f q141)) 83 (by kernel_rfl) ?_
          refine cs_true (by kernel_rfl) ?_
          refine cs_seq ?_
          refine cs_region (l := [_]) ?_
          refine lv (.bool false) ?_
          refine ls_end ?_
          refine qn_then ?_
          refine cs_ret' ?_
          refine qr_then ?_
          refine qr_block ?_
          refine qr_then ?_
          refine qr_then ?_
          refine qr_block ?_
          refine qr_then ?_
          refine qr_then ?_
          refine qr_block ?_
          refine qr_then ?_
          refine qr_then ?_
          refine qr_block ?_
          refine qr_then ?_
          obtain rfl := Option.some.inj H
          refine qr_res (rs := [_]) rfl (fun w' hs => ⟨[.bool false], (res_tmp (by kernel_rfl) (.nil)), (), rfl, St.later hs0.ok (hleh4.trans hle42) (hs.pick (ts := []) (cs := []) trivial (by decide))⟩)
        replace H := ite_f q134 H
        refine cs_know (c := false) (dec_f q134) 66 (by kernel_rfl) ?_
        refine cs_false (by kernel_rfl) ?_
        refine cs_exit' ?_
        refine qx_then ?_
        refine qx_then ?_
        refine qx_same ?_
        refine qn_then ?_
        refine cs_region (l := [_, _, _, _, _, _, _, _, _]) ?_
        refine lv (.slice A8_4 l8_4.length c8_4) ?_
        refine lv (.int .i64 t34.1) ?_
        refine lv (.int .i64 t34.1) ?_
        refine lv (.int .i64 (IntKind.wrap .i64 ((1 : Int) + y32))) ?_
        obtain ⟨y146, hy147, H⟩ := lt_some H
        refine lv (.int .i64 (IntKind.wrap .i64 (t34.1 + (IntKind.wrap .i64 ((1 : Int) + y32))))) ?_
        refine ls_ren 91 (v := .int .i64 (IntKind.wrap .i64 (t34.1 + (IntKind.wrap .i64 ((1 : Int) + y32))))) (v' := .int .i64 y146) (by kernel_rfl) (by rw [hy147]) ?_
        refine lv (.agg ⟨([Value.int .i64 t34.1] ++ [Value.int .i64 y146])⟩) ?_
        refine ls_lit T24 5 rfl rfl (by kernel_rfl) ([(t34.1, y146)]) (by exact of_decide_eq_true (by kernel_rfl)) (fun w => by kernel_rfl) ?_
        intro g148
        obtain ⟨q149, H⟩ := ite_need H
        refine ls_appo T24 (A := A8_4) (c := c8_4) (B := (some ⟨g148, 0, none⟩)) (cb := [(t34.1, y146)].length) (z := (.agg ⟨([Value.int .i64 (0 : Int)] ++ [Value.int .i64 (0 : Int)])⟩)) (l := l8_4) (m := [(t34.1, y146)]) (bytes := 16) 4 rfl rfl (by kernel_rfl) rfl (by kernel_rfl) (by exact rfl) (by kernel_rfl) (fun w hs => (hs.rd (k := 5) (by exact rfl))) (by kernel_rfl) (by kernel_rfl) rfl (by decide) q149 (by exact Nat.succ_pos _) ?_
        intro xA150 xc151
        refine lv (.slice xA150 (l8_4 ++ [(t34.1, y146)]).length xc151) ?_
        refine ls_end ?_
        refine qn_meet (sput (sput (sput (sput (sput s0 0 (some (Ck.var 66 x5.1 ((([Value.int .i64 t34.2.2.1.1] ++ [Value.int .i64 t34.2.2.1.2]) ++ ([Value.bool t34.2.2.2.1] ++ ([Value.int .i64 t34.2.2.2.2.1] ++ ([Value.slice x36.1.1 t34.2.2.2.2.2.1.length x36.1.2] ++ ([Value.map (some x5.2.2.2.1)] ++ [Value.slice x36.2.1 t34.2.2.2.2.2.2.2.length x36.2.2]))))))))) 1 (some (Ck.m1 x5.2.2.2.1 m1_4.1 Am1_4_1 m1_4.2.length cm1_4_1))) 2 (some (Ck.sl T24 Am1_4_1 cm1_4_1 m1_4.2))) 3 (some (Ck.sl (Ec.int 3 .i64) A7_12 c7_12 l7_12))) 4 (some (Ck.so T24 xA150 xc151 (l8_4 ++ [(t34.1, y146)])))) ⟨_, A7_12, c7_12, l7_12, xA150, xc151, (l8_4 ++ [(t34.1, y146)]), fr_next (fr_next (fr_next (fr_next (fr_next (fr_next (rfl) (by kernel_rfl)) (by kernel_rfl)) (by kernel_rfl)) (by kernel_rfl)) (by kernel_rfl)) (by kernel_rfl), rfl, H⟩ (sub_put (by exact rfl) (sub_put (by exact rfl) (sub_put (by exact rfl) (sub_put (by exact rfl) (sub_put (by exact rfl) (sub_nil _))))))
      replace H := ite_f q131 H
      refine cs_know (c := false) (dec_f q131) 60 (by kernel_rfl) ?_
      refine cs_false (by kernel_rfl) ?_
      refine cs_seq ?_
      refine cs_region (l := [_, _]) ?_
      refine lv (.int .i64 t34.2.1) ?_
      refine lv (.bool (!decide (t34.2.1 = (15 : Int)))) ?_
      refine ls_end ?_
      refine qn_then ?_
      by_cases q152 : t34.2.1 = (15 : Int)
      · replace H := ite_t q152 H
        refine cs_know (c := false) (congrArg Bool.not (dec_t q152)) 96 (by kernel_rfl) ?_
        refine cs_false (by kernel_rfl) ?_
        refine cs_skip' ?_
        refine qn_meet (sput (sput (sput (sput (sput s0 0 (some (Ck.var 66 x5.1 ((([Value.int .i64 t34.2.2.1.1] ++ [Value.int .i64 t34.2.2.1.2]) ++ ([Value.bool t34.2.2.2.1] ++ ([Value.int .i64 t34.2.2.2.2.1] ++ ([Value.slice x36.1.1 t34.2.2.2.2.2.1.length x36.1.2] ++ ([Value.map (some x5.2.2.2.1)] ++ [Value.slice x36.2.1 t34.2.2.2.2.2.2.2.length x36.2.2]))))))))) 1 (some (Ck.m1 x5.2.2.2.1 m1_4.1 Am1_4_1 m1_4.2.length cm1_4_1))) 2 (some (Ck.sl T24 Am1_4_1 cm1_4_1 m1_4.2))) 3 (some (Ck.sl (Ec.int 3 .i64) A7_4 c7_4 l7_4))) 4 (some (Ck.so T24 A8_4 c8_4 l8_4))) ⟨_, A7_4, c7_4, l7_4, A8_4, c8_4, l8_4, fr_next (fr_next (fr_next (fr_next (fr_next (fr_next (rfl) (by kernel_rfl)) (by kernel_rfl)) (by kernel_rfl)) (by kernel_rfl)) (by kernel_rfl)) (by kernel_rfl), rfl, H⟩ (sub_put (by exact rfl) (sub_put (by exact rfl) (sub_put (by exact rfl) (sub_put (by exact rfl) (sub_put (by exact rfl) (sub_nil _))))))
      replace H := ite_f q152 H
      refine cs_know (c := true) (congrArg Bool.not (dec_f q152)) 96 (by kernel_rfl) ?_
      refine cs_true (by kernel_rfl) ?_
      refine cs_seq ?_
      refine cs_region (l := [_]) ?_
      refine lv (.bool false) ?_
      refine ls_end ?_
      refine qn_then ?_
      refine cs_ret' ?_
      refine qr_then ?_
      refine qr_block ?_
      refine qr_then ?_
      refine qr_then ?_
      refine qr_block ?_
      refine qr_then ?_
      obtain rfl := Option.some.inj H
      refine qr_res (rs := [_]) rfl (fun w' hs => ⟨[.bool false], (res_tmp (by kernel_rfl) (.nil)), (), rfl, St.later hs0.ok (hleh4.trans hle42) (hs.pick (ts := []) (cs := []) trivial (by decide))⟩)
    rintro f S ⟨fr6, A7_6, c7_6, l7_6, A8_6, c8_6, l8_6, rfl, rfl, H⟩
    replace H : ((if (l8_6.length : Int) > (0 : Int) then lt (bits .and .i64 ((l1).getD (x9_4).toNat (0 : Int)) (8 : Int)) fun y129 => (shadowboxlaw10_AllocApart.jo9 m1_4 k4 t34 l7_6 l8_6 (shadowboxlaw10_AllocApart.jo7 l1 y1 x9_4 k4 t34 (shadowboxlaw10_AllocApart.lo4 l1 y1 (shadowboxlaw10_AllocApart.jo2 k y1) k4))) (!decide (y129 = (0 : Int))) else (shadowboxlaw10_AllocApart.jo9 m1_4 k4 t34 l7_6 l8_6 (shadowboxlaw10_AllocApart.jo7 l1 y1 x9_4 k4 t34 (shadowboxlaw10_AllocApart.lo4 l1 y1 (shadowboxlaw10_AllocApart.jo2 k y1) k4))) false)) = some r := H
    refine cs_cut (fun f S => ∃ (fR : Fr) (A7_7 : Option Addr) (c7_7 : Nat) (l7_7 : List Int) (A8_7 : Option Addr) (c8_7 : Nat) (l8_7 : List (Int × Int)) (Am1_7_1 : Option Addr) (cm1_7_1 : Nat) (m1_7 : (Bool × (List (Int × Int)))), f = upd (upd (upd (upd (upd (upd fR 0 (.int .i64 y1)) 1 (.slice A1 l1.length c1)) 5 (.pointer (some ⟨x5.1, 0, none⟩))) 7 (.slice A7_7 l7_7.length c7_7)) 8 (.slice A8_7 l8_7.length c8_7)) 9 (.int .i64 x9_4) ∧ S = sput (sput (sput (sput (sput s0 0 (some (Ck.var 66 x5.1 ((([Value.int .i64 t34.2.2.1.1] ++ [Value.int .i64 t34.2.2.1.2]) ++ ([Value.bool t34.2.2.2.1] ++ ([Value.int .i64 t34.2.2.2.2.1] ++ ([Value.slice x36.1.1 t34.2.2.2.2.2.1.length x36.1.2] ++ ([Value.map (some x5.2.2.2.1)] ++ [Value.slice x36.2.1 t34.2.2.2.2.2.2.2.length x36.2.2]))))))))) 1 (some (Ck.m1 x5.2.2.2.1 m1_7.1 Am1_7_1 m1_7.2.length cm1_7_1))) 2 (some (Ck.sl T24 Am1_7_1 cm1_7_1 m1_7.2))) 3 (some (Ck.sl (Ec.int 3 .i64) A7_7 c7_7 l7_7))) 4 (some (Ck.so T24 A8_7 c8_7 l8_7)) ∧ shadowboxlaw10_AllocApart.jo7 l1 y1 x9_4 k4 t34 (shadowboxlaw10_AllocApart.lo4 l1 y1 (shadowboxlaw10_AllocApart.jo2 k y1) k4) l7_7 l8_7 m1_7 = some r) ?_ ?_
    · skip
      refine cs_cut (fun f S => ∃ (fR : Fr) (x107_9 : Bool), f = upd (upd (upd (upd (upd (upd (upd fR 0 (.int .i64 y1)) 1 (.slice A1 l1.length c1)) 5 (.pointer (some ⟨x5.1, 0, none⟩))) 7 (.slice A7_6 l7_6.length c7_6)) 8 (.slice A8_6 l8_6.length c8_6)) 9 (.int .i64 x9_4)) 107 (.bool x107_9) ∧ S = sput (sput (sput (sput (sput s0 0 (some (Ck.var 66 x5.1 ((([Value.int .i64 t34.2.2.1.1] ++ [Value.int .i64 t34.2.2.1.2]) ++ ([Value.bool t34.2.2.2.1] ++ ([Value.int .i64 t34.2.2.2.2.1] ++ ([Value.slice x36.1.1 t34.2.2.2.2.2.1.length x36.1.2] ++ ([Value.map (some x5.2.2.2.1)] ++ [Value.slice x36.2.1 t34.2.2.2.2.2.2.2.length x36.2.2]))))))))) 1 (some (Ck.m1 x5.2.2.2.1 m1_4.1 Am1_4_1 m1_4.2.length cm1_4_1))) 2 (some (Ck.sl T24 Am1_4_1 cm1_4_1 m1_4.2))) 3 (some (Ck.sl (Ec.int 3 .i64) A7_6 c7_6 l7_6))) 4 (some (Ck.so T24 A8_6 c8_6 l8_6)) ∧ shadowboxlaw10_AllocApart.jo9 m1_4 k4 t34 l7_6 l8_6 (shadowboxlaw10_AllocApart.jo7 l1 y1 x9_4 k4 t34 (shadowboxlaw10_AllocApart.lo4 l1 y1 (shadowboxlaw10_AllocApart.jo2 k y1) k4)) x107_9 = some r) ?_ ?_
      · skip
        refine cs_region (l := [_, _, _, _, _, _, _, _, _, _, _]) ?_
        refine lv (.slice A8_6 l8_6.length c8_6) ?_
        refine lv (.int .i64 (l8_6.length : Int)) ?_
        refine lv (.bool (decide ((l8_6.length : Int) > (0 : Int)))) ?_
        refine lv (.bool (decide ((l8_6.length : Int) > (0 : Int)))) ?_
        by_cases q126 : (l8_6.length : Int) > (0 : Int)
        · replace H := ite_t q126 H
          refine ls_know (c := true) (dec_t q126) 100 (by kernel_rfl) ?_
          refine ls_on (j := 3) (t := 100) (b := true) rfl rfl (by kernel_rfl) (by kernel_rfl) ?_
          refine lv (.slice A1 l1.length c1) ?_
          refine ls_on (j := 3) (t := 100) (b := true) rfl rfl (by kernel_rfl) (by kernel_rfl) ?_
          refine lv (.int .i64 x9_4) ?_
          refine ls_on (j := 3) (t := 100) (b := true) rfl rfl (by kernel_rfl) (by kernel_rfl) ?_
          obtain ⟨ad127, hA128⟩ := ido_at (T := (Ec.int 3 .i64)) (l := l1) (i := x9_4) (Ro.mono hok43 hle42 Rb1_4) q28 q29
          refine ls_idxv (Ec.int 3 .i64) (A := A1) (c := c1) (l := l1) (k := .i64) (i := x9_4) (z := 1) (ad := ad127) rfl rfl (by kernel_rfl) hA128 rfl (by kernel_rfl) (by kernel_rfl) (by kernel_rfl) (by kernel_rfl) q28 q29 ?_
          refine ls_on (j := 3) (t := 100) (b := true) rfl rfl (by kernel_rfl) (by kernel_rfl) ?_
          refine ls_load (a0 := (ad127.add ((x9_4).toNat * 1))) (v := .int .i64 ((l1).getD (x9_4).toNat (0 : Int))) (de := (TypeDesc.int .i64)) rfl rfl (by kernel_rfl) rfl (by kernel_rfl) (by kernel_rfl) (by kernel_rfl) (fun w hs => (hs.old (Ro.mono hok43 hle42 Rb1_4)).at hA128 (em_sub (Ec.int 3 .i64) l1 (i := (x9_4).toNat) (by have h0 : (0 : Int) ≤ x9_4 := q28; have h1 : x9_4 < (l1.length : Int) := q29; omega))) ?_
          refine ls_on (j := 3) (t := 100) (b := true) rfl rfl (by kernel_rfl) (by kernel_rfl) ?_
          obtain ⟨y129, hy130, H⟩ := lt_some H
          refine lv (.int .i64 (bits .and .i64 ((l1).getD (x9_4).toNat (0 : Int)) (8 : Int))) ?_
          refine ls_ren 105 (v := .int .i64 (bits .and .i64 ((l1).getD (x9_4).toNat (0 : Int)) (8 : Int))) (v' := .int .i64 y129) (by kernel_rfl) (by rw [hy130]) ?_
          refine ls_on (j := 3) (t := 100) (b := true) rfl rfl (by kernel_rfl) (by kernel_rfl) ?_
          refine lv (.bool (!decide (y129 = (0 : Int)))) ?_
          refine lv (.bool (!decide (y129 = (0 : Int)))) ?_
          refine ls_end ?_
          refine qn_meet (sput (sput (sput (sput (sput s0 0 (some (Ck.var 66 x5.1 ((([Value.int .i64 t34.2.2.1.1] ++ [Value.int .i64 t34.2.2.1.2]) ++ ([Value.bool t34.2.2.2.1] ++ ([Value.int .i64 t34.2.2.2.2.1] ++ ([Value.slice x36.1.1 t34.2.2.2.2.2.1.length x36.1.2] ++ ([Value.map (some x5.2.2.2.1)] ++ [Value.slice x36.2.1 t34.2.2.2.2.2.2.2.length x36.2.2]))))))))) 1 (some (Ck.m1 x5.2.2.2.1 m1_4.1 Am1_4_1 m1_4.2.length cm1_4_1))) 2 (some (Ck.sl T24 Am1_4_1 cm1_4_1 m1_4.2))) 3 (some (Ck.sl (Ec.int 3 .i64) A7_6 c7_6 l7_6))) 4 (some (Ck.so T24 A8_6 c8_6 l8_6))) ⟨_, (!decide (y129 = (0 : Int))), fr_next (fr_next (fr_next (fr_next (fr_next (fr_next (fr_next (rfl) (by kernel_rfl)) (by kernel_rfl)) (by kernel_rfl)) (by kernel_rfl)) (by kernel_rfl)) (by kernel_rfl)) (by kernel_rfl), rfl, H⟩ (sub_put (by exact rfl) (sub_put (by exact rfl) (sub_put (by exact rfl) (sub_put (by exact rfl) (sub_put (by exact rfl) (sub_nil _))))))
        replace H := ite_f q126 H
        refine ls_know (c := false) (dec_f q126) 100 (by kernel_rfl) ?_
        refine lofx 3 100 true false ?_
        refine lofx 3 100 true false ?_
        refine lofx 3 100 true false ?_
        refine lofx 3 100 true false ?_
        refine lofx 3 100 true false ?_
        refine lofx 3 100 true false ?_
        refine lv (.bool false) ?_
        refine ls_end ?_
        refine qn_meet (sput (sput (sput (sput (sput s0 0 (some (Ck.var 66 x5.1 ((([Value.int .i64 t34.2.2.1.1] ++ [Value.int .i64 t34.2.2.1.2]) ++ ([Value.bool t34.2.2.2.1] ++ ([Value.int .i64 t34.2.2.2.2.1] ++ ([Value.slice x36.1.1 t34.2.2.2.2.2.1.length x36.1.2] ++ ([Value.map (some x5.2.2.2.1)] ++ [Value.slice x36.2.1 t34.2.2.2.2.2.2.2.length x36.2.2]))))))))) 1 (some (Ck.m1 x5.2.2.2.1 m1_4.1 Am1_4_1 m1_4.2.length cm1_4_1))) 2 (some (Ck.sl T24 Am1_4_1 cm1_4_1 m1_4.2))) 3 (some (Ck.sl (Ec.int 3 .i64) A7_6 c7_6 l7_6))) 4 (some (Ck.so T24 A8_6 c8_6 l8_6))) ⟨_, false, fr_next (fr_next (fr_next (fr_next (fr_next (fr_next (fr_next (rfl) (by kernel_rfl)) (by kernel_rfl)) (by kernel_rfl)) (by kernel_rfl)) (by kernel_rfl)) (by kernel_rfl)) (by kernel_rfl), rfl, H⟩ (sub_put (by exact rfl) (sub_put (by exact rfl) (sub_put (by exact rfl) (sub_put (by exact rfl) (sub_put (by exact rfl) (sub_nil _))))))
      rintro f S ⟨fr9, x107_9, rfl, rfl, H⟩
      replace H : ((if x107_9 = true then (if (0 : Int) < (l8_6.length : Int) then (if (1 : Int) ≤ (l8_6.length : Int) then lt (l8_6.drop ((1 : Int)).toNat) fun xl106 => (alloc_Alloc_Later.f k4 (t34.2.2.1, t34.2.2.2.1, t34.2.2.2.2.1, t34.2.2.2.2.2.1, (), t34.2.2.2.2.2.2.2) (m1_4.1, m1_4.2) ((l8_6).getD ((0 : Int)).toNat ((0 : Int), (0 : Int)))).bind fun t122 => (if t122.1 = (0 : Int) then (shadowboxlaw10_AllocApart.jo10 k4 l7_6 l8_6 xl106 (shadowboxlaw10_AllocApart.jo7 l1 y1 x9_4 k4 t34 (shadowboxlaw10_AllocApart.lo4 l1 y1 (shadowboxlaw10_AllocApart.jo2 k y1) k4))) (t122.2.1, t122.2.2) else some false) else none) else none) else (shadowboxlaw10_AllocApart.jo7 l1 y1 x9_4 k4 t34 (shadowboxlaw10_AllocApart.lo4 l1 y1 (shadowboxlaw10_AllocApart.jo2 k y1) k4)) l7_6 l8_6 (m1_4.1, m1_4.2))) = some r := H
      by_cases q95 : x107_9 = true
      · replace H := ite_t q95 H
        refine cs_know (c := true) (q95) 107 (by kernel_rfl) ?_
        refine cs_true (by kernel_rfl) ?_
        refine cs_seq ?_
        refine cs_region (l := [_, _, _, _, _]) ?_
        refine lv (.slice A8_6 l8_6.length c8_6) ?_
        obtain ⟨q96, H⟩ := ite_need H
        refine ls_atso (T := T24) (tk := 4) (i := (0 : Int)) (by exact rfl) (by decide) q96 ?_
        intro ad97 hA98
        refine ls_idxv T24 (A := A8_6) (c := c8_6) (l := l8_6) (k := .i64) (i := (0 : Int)) (z := 2) (ad := ad97) rfl rfl (by kernel_rfl) hA98 rfl (by kernel_rfl) (by kernel_rfl) (by kernel_rfl) (by kernel_rfl) (by decide) q96 ?_
        refine ls_loadagg (a := (ad97.add (((0 : Int)).toNat * 2))) (sub := ([Value.int .i64 (((l8_6).getD ((0 : Int)).toNat ((0 : Int), (0 : Int))).1)] ++ [Value.int .i64 (((l8_6).getD ((0 : Int)).toNat ((0 : Int), (0 : Int))).2)])) rfl rfl (by kernel_rfl) rfl (by kernel_rfl) (by kernel_rfl) (by kernel_rfl) (len_app (len1 _) (len1 _)) (fun w hs => (hs.sord (k := 4) (by exact rfl)).part hA98 (em_sub T24 l8_6 (i := ((0 : Int)).toNat) (by have h0 : (0 : Int) ≤ (0 : Int) := (by decide); have h1 : (0 : Int) < (l8_6.length : Int) := q96; omega))) ?_
        refine ls_new rfl rfl (by kernel_rfl) 5 (fun g => .pointer (some ⟨g, 0, none⟩)) (.cells ⟨([Value.int .i64 (0 : Int)] ++ [Value.int .i64 (0 : Int)])⟩ 24) (fun w => by kernel_rfl) ?_
        intro g99
        refine ls_storec (g := g99) (off := 0) (v := .agg ⟨([Value.int .i64 (((l8_6).getD ((0 : Int)).toNat ((0 : Int), (0 : Int))).1)] ++ [Value.int .i64 (((l8_6).getD ((0 : Int)).toNat ((0 : Int), (0 : Int))).2)])⟩) (vs := ([Value.int .i64 (((l8_6).getD ((0 : Int)).toNat ((0 : Int), (0 : Int))).1)] ++ [Value.int .i64 (((l8_6).getD ((0 : Int)).toNat ((0 : Int), (0 : Int))).2)])) (cs := ([Value.int .i64 (0 : Int)] ++ [Value.int .i64 (0 : Int)])) (ty := 24) 5 rfl rfl rfl (by kernel_rfl) (by kernel_rfl) (by kernel_rfl) (by exact rfl) (by kernel_rfl) (len_app (len1 _) (len1 _)) (one_app (one_cons rfl one_nil) (one_cons rfl one_nil)) (hl_of (Sub4.all _) (len_eq (len_app (len1 _) (len1 _)) (len_app (len1 _) (len1 _)))) (cs' := ([Value.int .i64 (((l8_6).getD ((0 : Int)).toNat ((0 : Int), (0 : Int))).1)] ++ [Value.int .i64 (((l8_6).getD ((0 : Int)).toNat ((0 : Int), (0 : Int))).2)])) (splc_all (len_eq (len_app (len1 _) (len1 _)) (len_app (len1 _) (len1 _)))) ?_
        refine ls_end ?_
        refine qn_then ?_
        refine cs_seq ?_
        refine cs_region (l := [_, _, _]) ?_
        refine lv (.slice A8_6 l8_6.length c8_6) ?_
        obtain ⟨q101, H⟩ := ite_need H
        obtain ⟨xl106, hy107, H⟩ := lt_some H
        have hz109 : ((1 : Int)).toNat ≤ l8_6.length := by omega
        have hz110 : l8_6.length ≤ l8_6.length := by omega
        refine ls_capso (T := T24) (tk := 4) (by exact rfl) ?_
        intro hC100
        obtain ⟨xA102, xc103, he108, xC105, xR104⟩ := cutr_at (A := A8_6) (c := c8_6) (l := l8_6) T24 (((1 : Int)).toNat) l8_6.length hz109 hz110 hC100 (m := xl106) (by rw [← hy107] <;> simp) (z := 2) rfl
        refine ls_cutv (A := A8_6) (c := c8_6) (m := l8_6.length) (z := 2) (e := 24) (a := ((1 : Int)).toNat) (b := l8_6.length) rfl rfl (by kernel_rfl) rfl (by kernel_rfl) (by kernel_rfl) (by kernel_rfl) (.inr ⟨.i64, by rw [Int.toNat_of_nonneg (by first | assumption | omega)]; kernel_rfl⟩) (.inl ⟨rfl, rfl⟩) hz109 hz110 hC100 he108 ?_
        refine lv (.slice xA102 xl106.length xc103) ?_
        refine ls_end ?_
        refine qn_then ?_
        refine cs_cut (fun f S => ∃ (fR : Fr) (Am1_10_1 : Option Addr) (cm1_10_1 : Nat) (m1_10 : (Bool × (List (Int × Int)))), f = upd (upd (upd (upd (upd (upd (upd fR 0 (.int .i64 y1)) 1 (.slice A1 l1.length c1)) 5 (.pointer (some ⟨x5.1, 0, none⟩))) 7 (.slice A7_6 l7_6.length c7_6)) 8 (.slice xA102 xl106.length xc103)) 9 (.int .i64 x9_4)) 14 (.pointer (some ⟨g99, 0, none⟩)) ∧ S = sput (sput (sput (sput (sput (sput s0 0 (some (Ck.var 66 x5.1 ((([Value.int .i64 t34.2.2.1.1] ++ [Value.int .i64 t34.2.2.1.2]) ++ ([Value.bool t34.2.2.2.1] ++ ([Value.int .i64 t34.2.2.2.2.1] ++ ([Value.slice x36.1.1 t34.2.2.2.2.2.1.length x36.1.2] ++ ([Value.map (some x5.2.2.2.1)] ++ [Value.slice x36.2.1 t34.2.2.2.2.2.2.2.length x36.2.2]))))))))) 1 (some (Ck.m1 x5.2.2.2.1 m1_10.1 Am1_10_1 m1_10.2.length cm1_10_1))) 2 (some (Ck.sl T24 Am1_10_1 cm1_10_1 m1_10.2))) 3 (some (Ck.sl (Ec.int 3 .i64) A7_6 c7_6 l7_6))) 4 (some (Ck.so T24 A8_6 c8_6 l8_6))) 5 (some (Ck.var 24 g99 (([Value.int .i64 (((l8_6).getD ((0 : Int)).toNat ((0 : Int), (0 : Int))).1)] ++ [Value.int .i64 (((l8_6).getD ((0 : Int)).toNat ((0 : Int), (0 : Int))).2)])))) ∧ shadowboxlaw10_AllocApart.jo10 k4 l7_6 l8_6 xl106 (shadowboxlaw10_AllocApart.jo7 l1 y1 x9_4 k4 t34 (shadowboxlaw10_AllocApart.lo4 l1 y1 (shadowboxlaw10_AllocApart.jo2 k y1) k4)) m1_10 = some r) ?_ ?_
        · skip
          refine cs_seq ?_
          refine cs_region (l := [_, _, _, _]) ?_
          refine lv (.pointer (some ⟨x5.1, 0, none⟩)) ?_
          refine ls_loadagg (a := ⟨g99, 0, none⟩) (sub := ([Value.int .i64 (((l8_6).getD ((0 : Int)).toNat ((0 : Int), (0 : Int))).1)] ++ [Value.int .i64 (((l8_6).getD ((0 : Int)).toNat ((0 : Int), (0 : Int))).2)])) rfl rfl (by kernel_rfl) rfl (by kernel_rfl) (by kernel_rfl) (by kernel_rfl) (len_app (len1 _) (len1 _)) (fun w hs => (hs.vars (k := 5) (by exact rfl) (Sub4.all _))) ?_
          obtain ⟨t122, hc123, H⟩ := bind_some H
          refine ls_callb (fid := 30) (vals := #[.pointer (some ⟨x5.1, 0, none⟩), .agg ⟨([Value.int .i64 (((l8_6).getD ((0 : Int)).toNat ((0 : Int), (0 : Int))).1)] ++ [Value.int .i64 (((l8_6).getD ((0 : Int)).toNat ((0 : Int), (0 : Int))).2)])⟩]) (X := (Option Addr × Nat)) (fun x => .int .i64 t122.1) (fun x => stl [Ck.var 66 x5.1 ((([Value.int .i64 t34.2.2.1.1] ++ [Value.int .i64 t34.2.2.1.2]) ++ ([Value.bool t34.2.2.2.1] ++ ([Value.int .i64 t34.2.2.2.2.1] ++ ([Value.slice x36.1.1 t34.2.2.2.2.2.1.length x36.1.2] ++ ([Value.map (some x5.2.2.2.1)] ++ [Value.slice x36.2.1 t34.2.2.2.2.2.2.2.length x36.2.2])))))), Ck.m1 x5.2.2.2.1 t122.2.1 x.1 t122.2.2.length x.2, Ck.sl T24 x.1 x.2 t122.2.2]) [0, 1, 2] [] [Ck.var 66 x5.1 ((([Value.int .i64 t34.2.2.1.1] ++ [Value.int .i64 t34.2.2.1.2]) ++ ([Value.bool t34.2.2.2.1] ++ ([Value.int .i64 t34.2.2.2.2.1] ++ ([Value.slice x36.1.1 t34.2.2.2.2.2.1.length x36.1.2] ++ ([Value.map (some x5.2.2.2.1)] ++ [Value.slice x36.2.1 t34.2.2.2.2.2.2.2.length x36.2.2])))))), Ck.m1 x5.2.2.2.1 m1_4.1 Am1_4_1 m1_4.2.length cm1_4_1, Ck.sl T24 Am1_4_1 cm1_4_1 m1_4.2] [] 6 rfl rfl (by kernel_rfl) (fun w => by kernel_rfl) ⟨by exact rfl, by exact rfl, by exact rfl, trivial⟩ trivial (by decide) (fun w hs hb => alloc_Alloc_Later.calls k4 x5.1 x36.1.1 x36.1.2 x5.2.2.2.1 x36.2.1 x36.2.2 (t34.2.2.1, t34.2.2.2.1, t34.2.2.2.2.1, t34.2.2.2.2.2.1, (), t34.2.2.2.2.2.2.2) Am1_4_1 cm1_4_1 (m1_4.1, m1_4.2) ((l8_6).getD ((0 : Int)).toNat ((0 : Int), (0 : Int))) t122 (lent bs41 w [Ck.var 66 x5.1 ((([Value.int .i64 t34.2.2.1.1] ++ [Value.int .i64 t34.2.2.1.2]) ++ ([Value.bool t34.2.2.2.1] ++ ([Value.int .i64 t34.2.2.2.2.1] ++ ([Value.slice x36.1.1 t34.2.2.2.2.2.1.length x36.1.2] ++ ([Value.map (some x5.2.2.2.1)] ++ [Value.slice x36.2.1 t34.2.2.2.2.2.2.2.length x36.2.2])))))), Ck.m1 x5.2.2.2.1 m1_4.1 Am1_4_1 m1_4.2.length cm1_4_1, Ck.sl T24 Am1_4_1 cm1_4_1 m1_4.2] []) hb (hs.ro fR37 _ _) fC38 (hs.ro fR39 _ _) fC40 hc123) ?_
          intro x124
          refine lv (.bool (!decide (t122.1 = (0 : Int)))) ?_
          refine ls_end ?_
          refine qn_then ?_
          by_cases q125 : t122.1 = (0 : Int)
          · replace H := ite_t q125 H
            refine cs_know (c := false) (congrArg Bool.not (dec_t q125)) 116 (by kernel_rfl) ?_
            refine cs_false (by kernel_rfl) ?_
            refine cs_skip' ?_
            refine qn_meet (sput (sput (sput (sput (sput (sput s0 0 (some (Ck.var 66 x5.1 ((([Value.int .i64 t34.2.2.1.1] ++ [Value.int .i64 t34.2.2.1.2]) ++ ([Value.bool t34.2.2.2.1] ++ ([Value.int .i64 t34.2.2.2.2.1] ++ ([Value.slice x36.1.1 t34.2.2.2.2.2.1.length x36.1.2] ++ ([Value.map (some x5.2.2.2.1)] ++ [Value.slice x36.2.1 t34.2.2.2.2.2.2.2.length x36.2.2]))))))))) 1 (some (Ck.m1 x5.2.2.2.1 t122.2.1 x124.1 t122.2.2.length x124.2))) 2 (some (Ck.sl T24 x124.1 x124.2 t122.2.2))) 3 (some (Ck.sl (Ec.int 3 .i64) A7_6 c7_6 l7_6))) 4 (some (Ck.so T24 A8_6 c8_6 l8_6))) 5 (some (Ck.var 24 g99 (([Value.int .i64 (((l8_6).getD ((0 : Int)).toNat ((0 : Int), (0 : Int))).1)] ++ [Value.int .i64 (((l8_6).getD ((0 : Int)).toNat ((0 : Int), (0 : Int))).2)]))))) ⟨_, x124.1, x124.2, (t122.2.1, t122.2.2), fr_next (fr_next (fr_next (fr_next (fr_next (fr_next (fr_next (rfl) (by kernel_rfl)) (by kernel_rfl)) (by kernel_rfl)) (by kernel_rfl)) (by kernel_rfl)) (by kernel_rfl)) (by kernel_rfl), rfl, H⟩ (sub_put (by exact rfl) (sub_put (by exact rfl) (sub_put (by exact rfl) (sub_put (by exact rfl) (sub_put (by exact rfl) (sub_put (by exact rfl) (sub_nil _)))))))
          replace H := ite_f q125 H
          refine cs_know (c := true) (congrArg Bool.not (dec_f q125)) 116 (by kernel_rfl) ?_
          refine cs_true (by kernel_rfl) ?_
          refine cs_seq ?_
          refine cs_region (l := [_]) ?_
          refine lv (.bool false) ?_
          refine ls_end ?_
          refine qn_then ?_
          refine cs_ret' ?_
          refine qr_then ?_
          refine qr_then ?_
          refine qr_block ?_
          refine qr_then ?_
          refine qr_then ?_
          refine qr_block ?_
          refine qr_then ?_
          obtain rfl := Option.some.inj H
          refine qr_res (rs := [_]) rfl (fun w' hs => ⟨[.bool false], (res_tmp (by kernel_rfl) (.nil)), (), rfl, St.later hs0.ok (hleh4.trans hle42) (hs.pick (ts := []) (cs := []) trivial (by decide))⟩)
        rintro f S ⟨fr10, Am1_10_1, cm1_10_1, m1_10, rfl, rfl, H⟩
        replace H : (lt (((l8_6).getD ((0 : Int)).toNat ((0 : Int), (0 : Int))).1) fun y111 => shadowboxlaw10_AllocApart.lo11 l8_6 xl106 m1_10 (shadowboxlaw10_AllocApart.jo7 l1 y1 x9_4 k4 t34 (shadowboxlaw10_AllocApart.lo4 l1 y1 (shadowboxlaw10_AllocApart.jo2 k y1) k4)) k4 l7_6 y111) = some r := H
        refine cs_seq ?_
        refine cs_region (l := [_, _, _]) ?_
        refine lv (.pointer (some ⟨g99, (0 + 0), none⟩)) ?_
        obtain ⟨y111, hy112, H⟩ := lt_some H
        refine ls_load (a0 := ⟨g99, (0 + 0), none⟩) (v := .int .i64 (((l8_6).getD ((0 : Int)).toNat ((0 : Int), (0 : Int))).1)) (de := (TypeDesc.int .i64)) rfl rfl (by kernel_rfl) rfl (by kernel_rfl) (by kernel_rfl) (by kernel_rfl) (fun w hs => (hs.var (k := 5) (by exact rfl) (Sub4.trans (Sub4.all _) (Sub4.head _ _)))) ?_
        refine ls_ren 118 (v := .int .i64 (((l8_6).getD ((0 : Int)).toNat ((0 : Int), (0 : Int))).1)) (v' := .int .i64 y111) (by kernel_rfl) (by rw [hy112]) ?_
        refine lv (.int .i64 y111) ?_
        refine ls_end ?_
        refine qn_then ?_
        refine cs_block ?_
        refine cs_sub (sput (sput (sput (sput (sput (sput s0 0 (some (Ck.var 66 x5.1 ((([Value.int .i64 t34.2.2.1.1] ++ [Value.int .i64 t34.2.2.1.2]) ++ ([Value.bool t34.2.2.2.1] ++ ([Value.int .i64 t34.2.2.2.2.1] ++ ([Value.slice x36.1.1 t34.2.2.2.2.2.1.length x36.1.2] ++ ([Value.map (some x5.2.2.2.1)] ++ [Value.slice x36.2.1 t34.2.2.2.2.2.2.2.length x36.2.2]))))))))) 1 (some (Ck.m1 x5.2.2.2.1 m1_10.1 Am1_10_1 m1_10.2.length cm1_10_1))) 2 (some (Ck.sl T24 Am1_10_1 cm1_10_1 m1_10.2))) 3 (some (Ck.sl (Ec.int 3 .i64) A7_6 c7_6 l7_6))) 4 (some (Ck.so T24 A8_6 c8_6 l8_6))) 5 (some (Ck.var 24 g99 (([Value.int .i64 (((l8_6).getD ((0 : Int)).toNat ((0 : Int), (0 : Int))).1)] ++ [Value.int .i64 (((l8_6).getD ((0 : Int)).toNat ((0 : Int), (0 : Int))).2)]))))) (sub_put (by exact rfl) (sub_put (by exact rfl) (sub_put (by exact rfl) (sub_put (by exact rfl) (sub_put (by exact rfl) (sub_put (by exact rfl) (sub_nil _))))))) ?_
        refine cs_loop (fun kk f S => ∃ (fR : Fr) (A7_11 : Option Addr) (c7_11 : Nat) (l7_11 : List Int) (x15_11 : Int), f = upd (upd (upd (upd (upd (upd (upd (upd fR 0 (.int .i64 y1)) 1 (.slice A1 l1.length c1)) 5 (.pointer (some ⟨x5.1, 0, none⟩))) 7 (.slice A7_11 l7_11.length c7_11)) 8 (.slice xA102 xl106.length xc103)) 9 (.int .i64 x9_4)) 14 (.pointer (some ⟨g99, 0, none⟩))) 15 (.int .i64 x15_11) ∧ S = sput (sput (sput (sput (sput (sput s0 0 (some (Ck.var 66 x5.1 ((([Value.int .i64 t34.2.2.1.1] ++ [Value.int .i64 t34.2.2.1.2]) ++ ([Value.bool t34.2.2.2.1] ++ ([Value.int .i64 t34.2.2.2.2.1] ++ ([Value.slice x36.1.1 t34.2.2.2.2.2.1.length x36.1.2] ++ ([Value.map (some x5.2.2.2.1)] ++ [Value.slice x36.2.1 t34.2.2.2.2.2.2.2.length x36.2.2]))))))))) 1 (some (Ck.m1 x5.2.2.2.1 m1_10.1 Am1_10_1 m1_10.2.length cm1_10_1))) 2 (some (Ck.sl T24 Am1_10_1 cm1_10_1 m1_10.2))) 3 (some (Ck.sl (Ec.int 3 .i64) A7_11 c7_11 l7_11))) 4 (some (Ck.so T24 A8_6 c8_6 l8_6))) 5 (some (Ck.var 24 g99 (([Value.int .i64 (((l8_6).getD ((0 : Int)).toNat ((0 : Int), (0 : Int))).1)] ++ [Value.int .i64 (((l8_6).getD ((0 : Int)).toNat ((0 : Int), (0 : Int))).2)])))) ∧ shadowboxlaw10_AllocApart.lo11 l8_6 xl106 m1_10 (shadowboxlaw10_AllocApart.jo7 l1 y1 x9_4 k4 t34 (shadowboxlaw10_AllocApart.lo4 l1 y1 (shadowboxlaw10_AllocApart.jo2 k y1) k4)) kk l7_11 x15_11 = some r) k4 ?_ ?_ ?_
        · exact ⟨_, A7_6, c7_6, l7_6, y111, fr_next (fr_next (fr_next (fr_next (fr_next (fr_next (fr_next (fr_next (rfl) (by kernel_rfl)) (by kernel_rfl)) (by kernel_rfl)) (by kernel_rfl)) (by kernel_rfl)) (by kernel_rfl)) (by kernel_rfl)) (by kernel_rfl), rfl, H⟩
        · rintro f S ⟨fr11, A7_11, c7_11, l7_11, x15_11, rfl, rfl, H⟩; cases H
        rintro k11 f S ⟨fr11, A7_11, c7_11, l7_11, x15_11, rfl, rfl, H⟩
        replace H : (lt (((l8_6).getD ((0 : Int)).toNat ((0 : Int), (0 : Int))).2) fun y113 => (if x15_11 < y113 then (if 0 ≤ x15_11 then (if x15_11 < (l7_11.length : Int) then lt ((l7_11).set (x15_11).toNat (2 : Int)) fun y120 => (shadowboxlaw10_AllocApart.lo11 l8_6 xl106 m1_10 (shadowboxlaw10_AllocApart.jo7 l1 y1 x9_4 k4 t34 (shadowboxlaw10_AllocApart.lo4 l1 y1 (shadowboxlaw10_AllocApart.jo2 k y1) k4)) k11) y120 (IntKind.wrap .i64 (x15_11 + (1 : Int))) else none) else none) else (shadowboxlaw10_AllocApart.jo7 l1 y1 x9_4 k4 t34 (shadowboxlaw10_AllocApart.lo4 l1 y1 (shadowboxlaw10_AllocApart.jo2 k y1) k4)) l7_11 xl106 (m1_10.1, m1_10.2))) = some r := H
        refine cs_seq ?_
        refine cs_seq ?_
        refine cs_region (l := [_, _, _, _]) ?_
        refine lv (.int .i64 x15_11) ?_
        refine lv (.pointer (some ⟨g99, (0 + 1), none⟩)) ?_
        obtain ⟨y113, hy114, H⟩ := lt_some H
        refine ls_load (a0 := ⟨g99, (0 + 1), none⟩) (v := .int .i64 (((l8_6).getD ((0 : Int)).toNat ((0 : Int), (0 : Int))).2)) (de := (TypeDesc.int .i64)) rfl rfl (by kernel_rfl) rfl (by kernel_rfl) (by kernel_rfl) (by kernel_rfl) (fun w hs => (hs.var (k := 5) (by exact rfl) (Sub4.trans (Sub4.all _) (Sub4.skip (n := 1) (len1 _) (Sub4.all _))))) ?_
        refine ls_ren 121 (v := .int .i64 (((l8_6).getD ((0 : Int)).toNat ((0 : Int), (0 : Int))).2)) (v' := .int .i64 y113) (by kernel_rfl) (by rw [hy114]) ?_
        refine lv (.bool (decide (x15_11 < y113))) ?_
        refine ls_end ?_
        refine qn_then ?_
        by_cases q115 : x15_11 < y113
        · replace H := ite_t q115 H
          refine cs_know (c := true) (dec_t q115) 122 (by kernel_rfl) ?_
          refine cs_true (by kernel_rfl) ?_
          refine cs_skip' ?_
          refine qn_then ?_
          refine cs_seq ?_
          refine cs_block ?_
          refine cs_region (l := [_, _, _, _]) ?_
          refine lv (.slice A7_11 l7_11.length c7_11) ?_
          refine lv (.int .i64 x15_11) ?_
          obtain ⟨q116, H⟩ := ite_need H
          obtain ⟨q117, H⟩ := ite_need H
          refine ls_at (T := (Ec.int 3 .i64)) (tk := 3) (i := x15_11) (by exact rfl) q116 q117 ?_
          intro ad118 hA119
          refine ls_idxv (Ec.int 3 .i64) (A := A7_11) (c := c7_11) (l := l7_11) (k := .i64) (i := x15_11) (z := 1) (ad := ad118) rfl rfl (by kernel_rfl) hA119 rfl (by kernel_rfl) (by kernel_rfl) (by kernel_rfl) (by kernel_rfl) q116 q117 ?_
          obtain ⟨y120, hy121, H⟩ := lt_some H
          refine ls_storem (Ec.int 3 .i64) (A := A7_11) (c := c7_11) (l := l7_11) (l' := y120) (ad := ad118) (off := ((x15_11).toNat * 1)) (v := .int .i64 (2 : Int)) (vs := [Value.int .i64 (2 : Int)]) 3 rfl rfl rfl hA119 (by kernel_rfl) (by kernel_rfl) (by kernel_rfl) (by exact rfl) (by kernel_rfl) (len1 _) (one_cons rfl one_nil) (hl_of (em_sub (Ec.int 3 .i64) l7_11 (i := (x15_11).toNat) (by have h0 : (0 : Int) ≤ x15_11 := q116; have h1 : x15_11 < (l7_11.length : Int) := q117; omega)) (len_eq (len1 _) (len1 _))) ((splc_em (Ec.int 3 .i64) l7_11 (2 : Int) (i := (x15_11).toNat) (by have h0 : (0 : Int) ≤ x15_11 := q116; have h1 : x15_11 < (l7_11.length : Int) := q117; omega)).trans (congrArg (em (Ec.int 3 .i64)) hy121)) (by rw [← hy121, List.length_set]) ?_
          refine ls_ren 7 (v := .slice A7_11 l7_11.length c7_11) (v' := .slice A7_11 y120.length c7_11) (by kernel_rfl) (by rw [← hy121, List.length_set]) ?_
          refine ls_ren 125 (v := .slice A7_11 l7_11.length c7_11) (v' := .slice A7_11 y120.length c7_11) (by kernel_rfl) (by rw [← hy121, List.length_set]) ?_
          refine ls_end ?_
          refine qn_block ?_
          refine qn_then ?_
          refine cs_region (l := [_, _, _]) ?_
          refine lv (.int .i64 x15_11) ?_
          refine lv (.int .i64 (IntKind.wrap .i64 (x15_11 + (1 : Int)))) ?_
          refine lv (.int .i64 (IntKind.wrap .i64 (x15_11 + (1 : Int)))) ?_
          refine ls_end ?_
          refine qn_again k11 (sput (sput (sput (sput (sput (sput s0 0 (some (Ck.var 66 x5.1 ((([Value.int .i64 t34.2.2.1.1] ++ [Value.int .i64 t34.2.2.1.2]) ++ ([Value.bool t34.2.2.2.1] ++ ([Value.int .i64 t34.2.2.2.2.1] ++ ([Value.slice x36.1.1 t34.2.2.2.2.2.1.length x36.1.2] ++ ([Value.map (some x5.2.2.2.1)] ++ [Value.slice x36.2.1 t34.2.2.2.2.2.2.2.length x36.2.2]))))))))) 1 (some (Ck.m1 x5.2.2.2.1 m1_10.1 Am1_10_1 m1_10.2.length cm1_10_1))) 2 (some (Ck.sl T24 Am1_10_1 cm1_10_1 m1_10.2))) 3 (some (Ck.sl (Ec.int 3 .i64) A7_11 c7_11 y120))) 4 (some (Ck.so T24 A8_6 c8_6 l8_6))) 5 (some (Ck.var 24 g99 (([Value.int .i64 (((l8_6).getD ((0 : Int)).toNat ((0 : Int), (0 : Int))).1)] ++ [Value.int .i64 (((l8_6).getD ((0 : Int)).toNat ((0 : Int), (0 : Int))).2)]))))) (Nat.le_refl _) ⟨_, A7_11, c7_11, y120, (IntKind.wrap .i64 (x15_11 + (1 : Int))), fr_next (fr_next (fr_next (fr_next (fr_next (fr_next (fr_next (fr_next (rfl) (by kernel_rfl)) (by kernel_rfl)) (by kernel_rfl)) (by kernel_rfl)) (by kernel_rfl)) (by kernel_rfl)) (by kernel_rfl)) (by kernel_rfl), rfl, H⟩ (sub_put (by exact rfl) (sub_put (by exact rfl) (sub_put (by exact rfl) (sub_put (by exact rfl) (sub_put (by exact rfl) (sub_put (by exact rfl) (sub_nil _)))))))
        replace H := ite_f q115 H
        refine cs_know (c := false) (dec_f q115) 122 (by kernel_rfl) ?_
        refine cs_false (by kernel_rfl) ?_
        refine cs_exit' ?_
        refine qx_then ?_
        refine qx_then ?_
        refine qx_same ?_
        refine qn_cutso (T := T24) 4 (by exact rfl) (by have h1 := hz109; have h2 := hz110; omega) hy107 he108 ?_
        refine qn_meet (sput (sput (sput (sput (sput s0 0 (some (Ck.var 66 x5.1 ((([Value.int .i64 t34.2.2.1.1] ++ [Value.int .i64 t34.2.2.1.2]) ++ ([Value.bool t34.2.2.2.1] ++ ([Value.int .i64 t34.2.2.2.2.1] ++ ([Value.slice x36.1.1 t34.2.2.2.2.2.1.length x36.1.2] ++ ([Value.map (some x5.2.2.2.1)] ++ [Value.slice x36.2.1 t34.2.2.2.2.2.2.2.length x36.2.2]))))))))) 1 (some (Ck.m1 x5.2.2.2.1 m1_10.1 Am1_10_1 m1_10.2.length cm1_10_1))) 2 (some (Ck.sl T24 Am1_10_1 cm1_10_1 m1_10.2))) 3 (some (Ck.sl (Ec.int 3 .i64) A7_11 c7_11 l7_11))) 4 (some (Ck.so T24 xA102 xc103 xl106))) ⟨_, A7_11, c7_11, l7_11, xA102, xc103, xl106, Am1_10_1, cm1_10_1, (m1_10.1, m1_10.2), fr_next (fr_next (fr_next (fr_next (fr_next (fr_next (rfl) (by kernel_rfl)) (by kernel_rfl)) (by kernel_rfl)) (by kernel_rfl)) (by kernel_rfl)) (by kernel_rfl), rfl, H⟩ (sub_put (by exact rfl) (sub_put (by exact rfl) (sub_put (by exact rfl) (sub_put (by exact rfl) (sub_put (by exact rfl) (sub_nil _))))))
      replace H := ite_f q95 H
      refine cs_know (c := false) (Bool.eq_false_iff.mpr q95) 107 (by kernel_rfl) ?_
      refine cs_false (by kernel_rfl) ?_
      refine cs_skip' ?_
      refine qn_meet (sput (sput (sput (sput (sput s0 0 (some (Ck.var 66 x5.1 ((([Value.int .i64 t34.2.2.1.1] ++ [Value.int .i64 t34.2.2.1.2]) ++ ([Value.bool t34.2.2.2.1] ++ ([Value.int .i64 t34.2.2.2.2.1] ++ ([Value.slice x36.1.1 t34.2.2.2.2.2.1.length x36.1.2] ++ ([Value.map (some x5.2.2.2.1)] ++ [Value.slice x36.2.1 t34.2.2.2.2.2.2.2.length x36.2.2]))))))))) 1 (some (Ck.m1 x5.2.2.2.1 m1_4.1 Am1_4_1 m1_4.2.length cm1_4_1))) 2 (some (Ck.sl T24 Am1_4_1 cm1_4_1 m1_4.2))) 3 (some (Ck.sl (Ec.int 3 .i64) A7_6 c7_6 l7_6))) 4 (some (Ck.so T24 A8_6 c8_6 l8_6))) ⟨_, A7_6, c7_6, l7_6, A8_6, c8_6, l8_6, Am1_4_1, cm1_4_1, (m1_4.1, m1_4.2), fr_next (fr_next (fr_next (fr_next (fr_next (fr_next (rfl) (by kernel_rfl)) (by kernel_rfl)) (by kernel_rfl)) (by kernel_rfl)) (by kernel_rfl)) (by kernel_rfl), rfl, H⟩ (sub_put (by exact rfl) (sub_put (by exact rfl) (sub_put (by exact rfl) (sub_put (by exact rfl) (sub_put (by exact rfl) (sub_nil _))))))
    rintro f S ⟨fr7, A7_7, c7_7, l7_7, A8_7, c8_7, l8_7, Am1_7_1, cm1_7_1, m1_7, rfl, rfl, H⟩
    replace H : (lt (bits .and .i64 ((l1).getD (x9_4).toNat (0 : Int)) (48 : Int)) fun y47 => (if y47 = (48 : Int) then (alloc_Alloc_Commit.f k4 (t34.2.2.1, t34.2.2.2.1, t34.2.2.2.2.1, t34.2.2.2.2.2.1, (), t34.2.2.2.2.2.2.2) (m1_7.1, m1_7.2)).bind fun t50 => shadowboxlaw10_AllocApart.lo8 y1 x9_4 l8_7 t50 (shadowboxlaw10_AllocApart.lo4 l1 y1 (shadowboxlaw10_AllocApart.jo2 k y1) k4) k4 l7_7 (2 : Int) else (alloc_Alloc_Free.f k4 (t34.2.2.1, t34.2.2.2.1, t34.2.2.2.2.1, t34.2.2.2.2.2.1, (), t34.2.2.2.2.2.2.2) (m1_7.1, m1_7.2)).bind fun t83 => (alloc_Alloc_Waiting.f k4 (t34.2.2.1, t34.2.2.2.1, t34.2.2.2.2.1, t34.2.2.2.2.2.1, (), t34.2.2.2.2.2.2.2) (m1_7.1, m1_7.2)).bind fun t86 => (alloc_Alloc_Used.f k4 (t34.2.2.1, t34.2.2.2.1, t34.2.2.2.2.1, t34.2.2.2.2.2.1, (), t34.2.2.2.2.2.2.2) (t86.2.1, t86.2.2)).bind fun t89 => lt (IntKind.wrap .i64 ((IntKind.wrap .i64 (t83 + t86.1)) + t89.1)) fun y92 => (if y92 = y1 then (shadowboxlaw10_AllocApart.lo4 l1 y1 (shadowboxlaw10_AllocApart.jo2 k y1) k4) l7_7 l8_7 (IntKind.wrap .i64 (x9_4 + (1 : Int))) (t34.2.2.1, t34.2.2.2.1, t34.2.2.2.2.1, t34.2.2.2.2.2.1, (), t34.2.2.2.2.2.2.2) (t89.2.1, t89.2.2) else some false))) = some r := H
    refine cs_seq ?_
    refine cs_seq ?_
    refine cs_region (l := [_, _, _, _, _, _]) ?_
    refine lv (.slice A1 l1.length c1) ?_
    refine lv (.int .i64 x9_4) ?_
    obtain ⟨ad45, hA46⟩ := ido_at (T := (Ec.int 3 .i64)) (l := l1) (i := x9_4) (Ro.mono hok43 hle42 Rb1_4) q28 q29
    refine ls_idxv (Ec.int 3 .i64) (A := A1) (c := c1) (l := l1) (k := .i64) (i := x9_4) (z := 1) (ad := ad45) rfl rfl (by kernel_rfl) hA46 rfl (by kernel_rfl) (by kernel_rfl) (by kernel_rfl) (by kernel_rfl) q28 q29 ?_
    refine ls_load (a0 := (ad45.add ((x9_4).toNat * 1))) (v := .int .i64 ((l1).getD (x9_4).toNat (0 : Int))) (de := (TypeDesc.int .i64)) rfl rfl (by kernel_rfl) rfl (by kernel_rfl) (by kernel_rfl) (by kernel_rfl) (fun w hs => (hs.old (Ro.mono hok43 hle42 Rb1_4)).at hA46 (em_sub (Ec.int 3 .i64) l1 (i := (x9_4).toNat) (by have h0 : (0 : Int) ≤ x9_4 := q28; have h1 : x9_4 < (l1.length : Int) := q29; omega))) ?_
    obtain ⟨y47, hy48, H⟩ := lt_some H
    refine lv (.int .i64 (bits .and .i64 ((l1).getD (x9_4).toNat (0 : Int)) (48 : Int))) ?_
    refine ls_ren 132 (v := .int .i64 (bits .and .i64 ((l1).getD (x9_4).toNat (0 : Int)) (48 : Int))) (v' := .int .i64 y47) (by kernel_rfl) (by rw [hy48]) ?_
    refine lv (.bool (decide (y47 = (48 : Int)))) ?_
    refine ls_end ?_
    refine qn_then ?_
    by_cases q49 : y47 = (48 : Int)
    · replace H := ite_t q49 H
      refine cs_know (c := true) (dec_t q49) 133 (by kernel_rfl) ?_
      refine cs_true (by kernel_rfl) ?_
      refine cs_seq ?_
      refine cs_region (l := [_, _]) ?_
      refine lv (.pointer (some ⟨x5.1, 0, none⟩)) ?_
      obtain ⟨t50, hc51, H⟩ := bind_some H
      refine ls_callf (fid := 31) (vals := #[.pointer (some ⟨x5.1, 0, none⟩)]) (X := (Option Addr × Nat) × (Option Addr × Nat) × (Option Addr × Nat)) (fun x => .tuple #[]) (fun x => stl [Ck.var 66 x5.1 ((([Value.int .i64 t50.1.1.1] ++ [Value.int .i64 t50.1.1.2]) ++ ([Value.bool t50.1.2.1] ++ ([Value.int .i64 t50.1.2.2.1] ++ ([Value.slice x.1.1 t50.1.2.2.2.1.length x.1.2] ++ ([Value.map (some x5.2.2.2.1)] ++ [Value.slice x.2.1.1 t50.1.2.2.2.2.2.length x.2.1.2])))))), Ck.m1 x5.2.2.2.1 t50.2.1 x.2.2.1 t50.2.2.length x.2.2.2, Ck.sl T24 x.2.2.1 x.2.2.2 t50.2.2]) (fun x B => (Ro B x.1.1 (em T24 t50.1.2.2.2.1) ∧ t50.1.2.2.2.1.length ≤ x.1.2) ∧ (Ro B x.2.1.1 (em T24 t50.1.2.2.2.2.2) ∧ t50.1.2.2.2.2.2.length ≤ x.2.1.2)) [0, 1, 2] [Ck.var 66 x5.1 ((([Value.int .i64 t34.2.2.1.1] ++ [Value.int .i64 t34.2.2.1.2]) ++ ([Value.bool t34.2.2.2.1] ++ ([Value.int .i64 t34.2.2.2.2.1] ++ ([Value.slice x36.1.1 t34.2.2.2.2.2.1.length x36.1.2] ++ ([Value.map (some x5.2.2.2.1)] ++ [Value.slice x36.2.1 t34.2.2.2.2.2.2.2.length x36.2.2])))))), Ck.m1 x5.2.2.2.1 m1_7.1 Am1_7_1 m1_7.2.length cm1_7_1, Ck.sl T24 Am1_7_1 cm1_7_1 m1_7.2] 5 rfl rfl (by kernel_rfl) (fun w => by kernel_rfl) ⟨by exact rfl, by exact rfl, by exact rfl, trivial⟩ (by decide) (fun x b b' h hf => ⟨⟨h _ _ hf.1.1, hf.1.2⟩, ⟨h _ _ hf.2.1, hf.2.2⟩⟩) (fun w hs hb => alloc_Alloc_Commit.calls k4 x5.1 x36.1.1 x36.1.2 x5.2.2.2.1 x36.2.1 x36.2.2 (t34.2.2.1, t34.2.2.2.1, t34.2.2.2.2.1, t34.2.2.2.2.2.1, (), t34.2.2.2.2.2.2.2) Am1_7_1 cm1_7_1 (m1_7.1, m1_7.2) t50 (lent bs41 w [Ck.var 66 x5.1 ((([Value.int .i64 t34.2.2.1.1] ++ [Value.int .i64 t34.2.2.1.2]) ++ ([Value.bool t34.2.2.2.1] ++ ([Value.int .i64 t34.2.2.2.2.1] ++ ([Value.slice x36.1.1 t34.2.2.2.2.2.1.length x36.1.2] ++ ([Value.map (some x5.2.2.2.1)] ++ [Value.slice x36.2.1 t34.2.2.2.2.2.2.2.length x36.2.2])))))), Ck.m1 x5.2.2.2.1 m1_7.1 Am1_7_1 m1_7.2.length cm1_7_1, Ck.sl T24 Am1_7_1 cm1_7_1 m1_7.2] []) hb (hs.ro fR37 _ _) fC38 (hs.ro fR39 _ _) fC40 hc51) ?_
      intro x52 bs57 hle58 hok59 hf60
      obtain ⟨⟨fR53, fC54⟩, ⟨fR55, fC56⟩⟩ := hf60
      refine ls_end ?_
      refine qn_then ?_
      refine cs_seq ?_
      refine cs_region (l := [_]) ?_
      refine lv (.int .i64 (2 : Int)) ?_
      refine ls_end ?_
      refine qn_then ?_
      refine cs_block ?_
      refine cs_sub (sput (sput (sput (sput (sput s0 0 (some (Ck.var 66 x5.1 ((([Value.int .i64 t50.1.1.1] ++ [Value.int .i64 t50.1.1.2]) ++ ([Value.bool t50.1.2.1] ++ ([Value.int .i64 t50.1.2.2.1] ++ ([Value.slice x52.1.1 t50.1.2.2.2.1.length x52.1.2] ++ ([Value.map (some x5.2.2.2.1)] ++ [Value.slice x52.2.1.1 t50.1.2.2.2.2.2.length x52.2.1.2]))))))))) 1 (some (Ck.m1 x5.2.2.2.1 t50.2.1 x52.2.2.1 t50.2.2.length x52.2.2.2))) 2 (some (Ck.sl T24 x52.2.2.1 x52.2.2.2 t50.2.2))) 3 (some (Ck.sl (Ec.int 3 .i64) A7_7 c7_7 l7_7))) 4 (some (Ck.so T24 A8_7 c8_7 l8_7))) (sub_put (by exact rfl) (sub_put (by exact rfl) (sub_put (by exact rfl) (sub_put (by exact rfl) (sub_put (by exact rfl) (sub_nil _)))))) ?_
      refine cs_loop (fun kk f S => ∃ (fR : Fr) (A7_8 : Option Addr) (c7_8 : Nat) (l7_8 : List Int) (x16_8 : Int), f = upd (upd (upd (upd (upd (upd (upd fR 0 (.int .i64 y1)) 1 (.slice A1 l1.length c1)) 5 (.pointer (some ⟨x5.1, 0, none⟩))) 7 (.slice A7_8 l7_8.length c7_8)) 8 (.slice A8_7 l8_7.length c8_7)) 9 (.int .i64 x9_4)) 16 (.int .i64 x16_8) ∧ S = sput (sput (sput (sput (sput s0 0 (some (Ck.var 66 x5.1 ((([Value.int .i64 t50.1.1.1] ++ [Value.int .i64 t50.1.1.2]) ++ ([Value.bool t50.1.2.1] ++ ([Value.int .i64 t50.1.2.2.1] ++ ([Value.slice x52.1.1 t50.1.2.2.2.1.length x52.1.2] ++ ([Value.map (some x5.2.2.2.1)] ++ [Value.slice x52.2.1.1 t50.1.2.2.2.2.2.length x52.2.1.2]))))))))) 1 (some (Ck.m1 x5.2.2.2.1 t50.2.1 x52.2.2.1 t50.2.2.length x52.2.2.2))) 2 (some (Ck.sl T24 x52.2.2.1 x52.2.2.2 t50.2.2))) 3 (some (Ck.sl (Ec.int 3 .i64) A7_8 c7_8 l7_8))) 4 (some (Ck.so T24 A8_7 c8_7 l8_7)) ∧ shadowboxlaw10_AllocApart.lo8 y1 x9_4 l8_7 t50 (shadowboxlaw10_AllocApart.lo4 l1 y1 (shadowboxlaw10_AllocApart.jo2 k y1) k4) kk l7_8 x16_8 = some r) k4 ?_ ?_ ?_
      · exact ⟨_, A7_7, c7_7, l7_7, (2 : Int), fr_next (fr_next (fr_next (fr_next (fr_next (fr_next (fr_next (rfl) (by kernel_rfl)) (by kernel_rfl)) (by kernel_rfl)) (by kernel_rfl)) (by kernel_rfl)) (by kernel_rfl)) (by kernel_rfl), rfl, H⟩
      · rintro f S ⟨fr8, A7_8, c7_8, l7_8, x16_8, rfl, rfl, H⟩; cases H
      rintro k8 f S ⟨fr8, A7_8, c7_8, l7_8, x16_8, rfl, rfl, H⟩
      replace H : ((if x16_8 < (IntKind.wrap .i64 ((2 : Int) + y1)) then (if 0 ≤ x16_8 then (if x16_8 < (l7_8.length : Int) then (if ((l7_8).getD (x16_8).toNat (0 : Int)) = (2 : Int) then lt ((l7_8).set (x16_8).toNat (0 : Int)) fun y69 => (shadowboxlaw10_AllocApart.lo8 y1 x9_4 l8_7 t50 (shadowboxlaw10_AllocApart.lo4 l1 y1 (shadowboxlaw10_AllocApart.jo2 k y1) k4) k8) y69 (IntKind.wrap .i64 (x16_8 + (1 : Int))) else (shadowboxlaw10_AllocApart.lo8 y1 x9_4 l8_7 t50 (shadowboxlaw10_AllocApart.lo4 l1 y1 (shadowboxlaw10_AllocApart.jo2 k y1) k4) k8) l7_8 (IntKind.wrap .i64 (x16_8 + (1 : Int)))) else none) else none) else (alloc_Alloc_Free.f k8 (t50.1.1, t50.1.2.1, t50.1.2.2.1, t50.1.2.2.2.1, (), t50.1.2.2.2.2.2) (t50.2.1, t50.2.2)).bind fun t71 => (alloc_Alloc_Waiting.f k8 (t50.1.1, t50.1.2.1, t50.1.2.2.1, t50.1.2.2.2.1, (), t50.1.2.2.2.2.2) (t50.2.1, t50.2.2)).bind fun t74 => (alloc_Alloc_Used.f k8 (t50.1.1, t50.1.2.1, t50.1.2.2.1, t50.1.2.2.2.1, (), t50.1.2.2.2.2.2) (t74.2.1, t74.2.2)).bind fun t77 => lt (IntKind.wrap .i64 ((IntKind.wrap .i64 (t71 + t74.1)) + t77.1)) fun y80 => (if y80 = y1 then (shadowboxlaw10_AllocApart.lo4 l1 y1 (shadowboxlaw10_AllocApart.jo2 k y1) k4) l7_8 l8_7 (IntKind.wrap .i64 (x9_4 + (1 : Int))) (t50.1.1, t50.1.2.1, t50.1.2.2.1, t50.1.2.2.2.1, (), t50.1.2.2.2.2.2) (t77.2.1, t77.2.2) else some false))) = some r := H
      refine cs_seq ?_
      refine cs_seq ?_
      refine cs_region (l := [_, _, _, _]) ?_
      refine lv (.int .i64 x16_8) ?_
      refine lv (.int .i64 y1) ?_
      refine lv (.int .i64 (IntKind.wrap .i64 ((2 : Int) + y1))) ?_
      refine lv (.bool (decide (x16_8 < (IntKind.wrap .i64 ((2 : Int) + y1))))) ?_
      refine ls_end ?_
      refine qn_then ?_
      by_cases q61 : x16_8 < (IntKind.wrap .i64 ((2 : Int) + y1))
      · replace H := ite_t q61 H
        refine cs_know (c := true) (dec_t q61) 139 (by kernel_rfl) ?_
        refine cs_true (by kernel_rfl) ?_
        refine cs_skip' ?_
        refine qn_then ?_
        refine cs_seq ?_
        refine cs_block ?_
        refine cs_seq ?_
        refine cs_region (l := [_, _, _, _, _]) ?_
        refine lv (.slice A7_8 l7_8.length c7_8) ?_
        refine lv (.int .i64 x16_8) ?_
        obtain ⟨q62, H⟩ := ite_need H
        obtain ⟨q63, H⟩ := ite_need H
        refine ls_at (T := (Ec.int 3 .i64)) (tk := 3) (i := x16_8) (by exact rfl) q62 q63 ?_
        intro ad64 hA65
        refine ls_idxv (Ec.int 3 .i64) (A := A7_8) (c := c7_8) (l := l7_8) (k := .i64) (i := x16_8) (z := 1) (ad := ad64) rfl rfl (by kernel_rfl) hA65 rfl (by kernel_rfl) (by kernel_rfl) (by kernel_rfl) (by kernel_rfl) q62 q63 ?_
        refine ls_load (a0 := (ad64.add ((x16_8).toNat * 1))) (v := .int .i64 ((l7_8).getD (x16_8).toNat (0 : Int))) (de := (TypeDesc.int .i64)) rfl rfl (by kernel_rfl) rfl (by kernel_rfl) (by kernel_rfl) (by kernel_rfl) (fun w hs => (hs.rd (k := 3) (by exact rfl)).at hA65 (em_sub (Ec.int 3 .i64) l7_8 (i := (x16_8).toNat) (by have h0 : (0 : Int) ≤ x16_8 := q62; have h1 : x16_8 < (l7_8.length : Int) := q63; omega))) ?_
        refine lv (.bool (decide (((l7_8).getD (x16_8).toNat (0 : Int)) = (2 : Int)))) ?_
        refine ls_end ?_
        refine qn_then ?_
        by_cases q66 : ((l7_8).getD (x16_8).toNat (0 : Int)) = (2 : Int)
        · replace H := ite_t q66 H
          refine cs_know (c := true) (dec_t q66) 146 (by kernel_rfl) ?_
          refine cs_true (by kernel_rfl) ?_
          refine cs_region (l := [_, _, _, _]) ?_
          refine lv (.slice A7_8 l7_8.length c7_8) ?_
          refine lv (.int .i64 x16_8) ?_
          refine ls_at (T := (Ec.int 3 .i64)) (tk := 3) (i := x16_8) (by exact rfl) q62 q63 ?_
          intro ad67 hA68
          refine ls_idxv (Ec.int 3 .i64) (A := A7_8) (c := c7_8) (l := l7_8) (k := .i64) (i := x16_8) (z := 1) (ad := ad67) rfl rfl (by kernel_rfl) hA68 rfl (by kernel_rfl) (by kernel_rfl) (by kernel_rfl) (by kernel_rfl) q62 q63 ?_
          obtain ⟨y69, hy70, H⟩ := lt_some H
          refine ls_storem (Ec.int 3 .i64) (A := A7_8) (c := c7_8) (l := l7_8) (l' := y69) (ad := ad67) (off := ((x16_8).toNat * 1)) (v := .int .i64 (0 : Int)) (vs := [Value.int .i64 (0 : Int)]) 3 rfl rfl rfl hA68 (by kernel_rfl) (by kernel_rfl) (by kernel_rfl) (by exact rfl) (by kernel_rfl) (len1 _) (one_cons rfl one_nil) (hl_of (em_sub (Ec.int 3 .i64) l7_8 (i := (x16_8).toNat) (by have h0 : (0 : Int) ≤ x16_8 := q62; have h1 : x16_8 < (l7_8.length : Int) := q63; omega)) (len_eq (len1 _) (len1 _))) ((splc_em (Ec.int 3 .i64) l7_8 (0 : Int) (i := (x16_8).toNat) (by have h0 : (0 : Int) ≤ x16_8 := q62; have h1 : x16_8 < (l7_8.length : Int) := q63; omega)).trans (congrArg (em (Ec.int 3 .i64)) hy70)) (by rw [← hy70, List.length_set]) ?_
          refine ls_ren 7 (v := .slice A7_8 l7_8.length c7_8) (v' := .slice A7_8 y69.length c7_8) (by kernel_rfl) (by rw [← hy70, List.length_set]) ?_
          refine ls_ren 142 (v := .slice A7_8 l7_8.length c7_8) (v' := .slice A7_8 y69.length c7_8) (by kernel_rfl) (by rw [← hy70, List.length_set]) ?_
          refine ls_ren 147 (v := .slice A7_8 l7_8.length c7_8) (v' := .slice A7_8 y69.length c7_8) (by kernel_rfl) (by rw [← hy70, List.length_set]) ?_
          refine ls_end ?_
          refine qn_block ?_
          refine qn_then ?_
          refine cs_region (l := [_, _, _]) ?_
          refine lv (.int .i64 x16_8) ?_
          refine lv (.int .i64 (IntKind.wrap .i64 (x16_8 + (1 : Int)))) ?_
          refine lv (.int .i64 (IntKind.wrap .i64 (x16_8 + (1 : Int)))) ?_
          refine ls_end ?_
          refine qn_again k8 (sput (sput (sput (sput (sput s0 0 (some (Ck.var 66 x5.1 ((([Value.int .i64 t50.1.1.1] ++ [Value.int .i64 t50.1.1.2]) ++ ([Value.bool t50.1.2.1] ++ ([Value.int .i64 t50.1.2.2.1] ++ ([Value.slice x52.1.1 t50.1.2.2.2.1.length x52.1.2] ++ ([Value.map (some x5.2.2.2.1)] ++ [Value.slice x52.2.1.1 t50.1.2.2.2.2.2.length x52.2.1.2]))))))))) 1 (some (Ck.m1 x5.2.2.2.1 t50.2.1 x52.2.2.1 t50.2.2.length x52.2.2.2))) 2 (some (Ck.sl T24 x52.2.2.1 x52.2.2.2 t50.2.2))) 3 (some (Ck.sl (Ec.int 3 .i64) A7_8 c7_8 y69))) 4 (some (Ck.so T24 A8_7 c8_7 l8_7))) (Nat.le_refl _) ⟨_, A7_8, c7_8, y69, (IntKind.wrap .i64 (x16_8 + (1 : Int))), fr_next (fr_next (fr_next (fr_next (fr_next (fr_next (fr_next (rfl) (by kernel_rfl)) (by kernel_rfl)) (by kernel_rfl)) (by kernel_rfl)) (by kernel_rfl)) (by kernel_rfl)) (by kernel_rfl), rfl, H⟩ (sub_put (by exact rfl) (sub_put (by exact rfl) (sub_put (by exact rfl) (sub_put (by exact rfl) (sub_put (by exact rfl) (sub_nil _))))))
        replace H := ite_f q66 H
        refine cs_know (c := false) (dec_f q66) 146 (by kernel_rfl) ?_
        refine cs_false (by kernel_rfl) ?_
        refine cs_skip' ?_
        refine qn_block ?_
        refine qn_then ?_
        refine cs_region (l := [_, _, _]) ?_
        refine lv (.int .i64 x16_8) ?_
        refine lv (.int .i64 (IntKind.wrap .i64 (x16_8 + (1 : Int)))) ?_
        refine lv (.int .i64 (IntKind.wrap .i64 (x16_8 + (1 : Int)))) ?_
        refine ls_end ?_
        refine qn_again k8 (sput (sput (sput (sput (sput s0 0 (some (Ck.var 66 x5.1 ((([Value.int .i64 t50.1.1.1] ++ [Value.int .i64 t50.1.1.2]) ++ ([Value.bool t50.1.2.1] ++ ([Value.int .i64 t50.1.2.2.1] ++ ([Value.slice x52.1.1 t50.1.2.2.2.1.length x52.1.2] ++ ([Value.map (some x5.2.2.2.1)] ++ [Value.slice x52.2.1.1 t50.1.2.2.2.2.2.length x52.2.1.2]))))))))) 1 (some (Ck.m1 x5.2.2.2.1 t50.2.1 x52.2.2.1 t50.2.2.length x52.2.2.2))) 2 (some (Ck.sl T24 x52.2.2.1 x52.2.2.2 t50.2.2))) 3 (some (Ck.sl (Ec.int 3 .i64) A7_8 c7_8 l7_8))) 4 (some (Ck.so T24 A8_7 c8_7 l8_7))) (Nat.le_refl _) ⟨_, A7_8, c7_8, l7_8, (IntKind.wrap .i64 (x16_8 + (1 : Int))), fr_next (fr_next (fr_next (fr_next (fr_next (fr_next (fr_next (rfl) (by kernel_rfl)) (by kernel_rfl)) (by kernel_rfl)) (by kernel_rfl)) (by kernel_rfl)) (by kernel_rfl)) (by kernel_rfl), rfl, H⟩ (sub_put (by exact rfl) (sub_put (by exact rfl) (sub_put (by exact rfl) (sub_put (by exact rfl) (sub_put (by exact rfl) (sub_nil _))))))
      replace H := ite_f q61 H
      refine cs_know (c := false) (dec_f q61) 139 (by kernel_rfl) ?_
      refine cs_false (by kernel_rfl) ?_
      refine cs_exit' ?_
      refine qx_then ?_
      refine qx_then ?_
      refine qx_same ?_
      refine qn_then ?_
      refine cs_seq ?_
      refine cs_region (l := [_, _, _, _, _, _, _, _, _, _]) ?_
      refine lv (.pointer (some ⟨x5.1, 0, none⟩)) ?_
      obtain ⟨t71, hc72, H⟩ := bind_some H
      refine ls_callb (fid := 32) (vals := #[.pointer (some ⟨x5.1, 0, none⟩)]) (X := Unit) (fun x => .int .i64 t71) (fun x => stl [Ck.var 66 x5.1 ((([Value.int .i64 t50.1.1.1] ++ [Value.int .i64 t50.1.1.2]) ++ ([Value.bool t50.1.2.1] ++ ([Value.int .i64 t50.1.2.2.1] ++ ([Value.slice x52.1.1 t50.1.2.2.2.1.length x52.1.2] ++ ([Value.map (some x5.2.2.2.1)] ++ [Value.slice x52.2.1.1 t50.1.2.2.2.2.2.length x52.2.1.2])))))), Ck.m1 x5.2.2.2.1 t50.2.1 x52.2.2.1 t50.2.2.length x52.2.2.2, Ck.sl T24 x52.2.2.1 x52.2.2.2 t50.2.2]) [0, 1, 2] [] [Ck.var 66 x5.1 ((([Value.int .i64 t50.1.1.1] ++ [Value.int .i64 t50.1.1.2]) ++ ([Value.bool t50.1.2.1] ++ ([Value.int .i64 t50.1.2.2.1] ++ ([Value.slice x52.1.1 t50.1.2.2.2.1.length x52.1.2] ++ ([Value.map (some x5.2.2.2.1)] ++ [Value.slice x52.2.1.1 t50.1.2.2.2.2.2.length x52.2.1.2])))))), Ck.m1 x5.2.2.2.1 t50.2.1 x52.2.2.1 t50.2.2.length x52.2.2.2, Ck.sl T24 x52.2.2.1 x52.2.2.2 t50.2.2] [] 5 rfl rfl (by kernel_rfl) (fun w => by kernel_rfl) ⟨by exact rfl, by exact rfl, by exact rfl, trivial⟩ trivial (by decide) (fun w hs hb => alloc_Alloc_Free.calls k8 x5.1 x52.1.1 x52.1.2 x5.2.2.2.1 x52.2.1.1 x52.2.1.2 (t50.1.1, t50.1.2.1, t50.1.2.2.1, t50.1.2.2.2.1, (), t50.1.2.2.2.2.2) x52.2.2.1 x52.2.2.2 (t50.2.1, t50.2.2) t71 (lent bs57 w [Ck.var 66 x5.1 ((([Value.int .i64 t50.1.1.1] ++ [Value.int .i64 t50.1.1.2]) ++ ([Value.bool t50.1.2.1] ++ ([Value.int .i64 t50.1.2.2.1] ++ ([Value.slice x52.1.1 t50.1.2.2.2.1.length x52.1.2] ++ ([Value.map (some x5.2.2.2.1)] ++ [Value.slice x52.2.1.1 t50.1.2.2.2.2.2.length x52.2.1.2])))))), Ck.m1 x5.2.2.2.1 t50.2.1 x52.2.2.1 t50.2.2.length x52.2.2.2, Ck.sl T24 x52.2.2.1 x52.2.2.2 t50.2.2] []) hb (hs.ro fR53 _ _) fC54 (hs.ro fR55 _ _) fC56 hc72) ?_
      intro x73
      refine lv (.pointer (some ⟨x5.1, 0, none⟩)) ?_
      obtain ⟨t74, hc75, H⟩ := bind_some H
      refine ls_callb (fid := 33) (vals := #[.pointer (some ⟨x5.1, 0, none⟩)]) (X := (Option Addr × Nat)) (fun x => .int .i64 t74.1) (fun x => stl [Ck.var 66 x5.1 ((([Value.int .i64 t50.1.1.1] ++ [Value.int .i64 t50.1.1.2]) ++ ([Value.bool t50.1.2.1] ++ ([Value.int .i64 t50.1.2.2.1] ++ ([Value.slice x52.1.1 t50.1.2.2.2.1.length x52.1.2] ++ ([Value.map (some x5.2.2.2.1)] ++ [Value.slice x52.2.1.1 t50.1.2.2.2.2.2.length x52.2.1.2])))))), Ck.m1 x5.2.2.2.1 t74.2.1 x.1 t74.2.2.length x.2, Ck.sl T24 x.1 x.2 t74.2.2]) [0, 1, 2] [] [Ck.var 66 x5.1 ((([Value.int .i64 t50.1.1.1] ++ [Value.int .i64 t50.1.1.2]) ++ ([Value.bool t50.1.2.1] ++ ([Value.int .i64 t50.1.2.2.1] ++ ([Value.slice x52.1.1 t50.1.2.2.2.1.length x52.1.2] ++ ([Value.map (some x5.2.2.2.1)] ++ [Value.slice x52.2.1.1 t50.1.2.2.2.2.2.length x52.2.1.2])))))), Ck.m1 x5.2.2.2.1 t50.2.1 x52.2.2.1 t50.2.2.length x52.2.2.2, Ck.sl T24 x52.2.2.1 x52.2.2.2 t50.2.2] [] 5 rfl rfl (by kernel_rfl) (fun w => by kernel_rfl) ⟨by exact rfl, by exact rfl, by exact rfl, trivial⟩ trivial (by decide) (fun w hs hb => alloc_Alloc_Waiting.calls k8 x5.1 x52.1.1 x52.1.2 x5.2.2.2.1 x52.2.1.1 x52.2.1.2 (t50.1.1, t50.1.2.1, t50.1.2.2.1, t50.1.2.2.2.1, (), t50.1.2.2.2.2.2) x52.2.2.1 x52.2.2.2 (t50.2.1, t50.2.2) t74 (lent bs57 w [Ck.var 66 x5.1 ((([Value.int .i64 t50.1.1.1] ++ [Value.int .i64 t50.1.1.2]) ++ ([Value.bool t50.1.2.1] ++ ([Value.int .i64 t50.1.2.2.1] ++ ([Value.slice x52.1.1 t50.1.2.2.2.1.length x52.1.2] ++ ([Value.map (some x5.2.2.2.1)] ++ [Value.slice x52.2.1.1 t50.1.2.2.2.2.2.length x52.2.1.2])))))), Ck.m1 x5.2.2.2.1 t50.2.1 x52.2.2.1 t50.2.2.length x52.2.2.2, Ck.sl T24 x52.2.2.1 x52.2.2.2 t50.2.2] []) hb (hs.ro fR53 _ _) fC54 (hs.ro fR55 _ _) fC56 hc75) ?_
      intro x76
      refine lv (.int .i64 (IntKind.wrap .i64 (t71 + t74.1))) ?_
      refine lv (.pointer (some ⟨x5.1, 0, none⟩)) ?_
      obtain ⟨t77, hc78, H⟩ := bind_some H
      refine ls_callb (fid := 29) (vals := #[.pointer (some ⟨x5.1, 0, none⟩)]) (X := (Option Addr × Nat)) (fun x => .int .i64 t77.1) (fun x => stl [Ck.var 66 x5.1 ((([Value.int .i64 t50.1.1.1] ++ [Value.int .i64 t50.1.1.2]) ++ ([Value.bool t50.1.2.1] ++ ([Value.int .i64 t50.1.2.2.1] ++ ([Value.slice x52.1.1 t50.1.2.2.2.1.length x52.1.2] ++ ([Value.map (some x5.2.2.2.1)] ++ [Value.slice x52.2.1.1 t50.1.2.2.2.2.2.length x52.2.1.2])))))), Ck.m1 x5.2.2.2.1 t77.2.1 x.1 t77.2.2.length x.2, Ck.sl T24 x.1 x.2 t77.2.2]) [0, 1, 2] [] [Ck.var 66 x5.1 ((([Value.int .i64 t50.1.1.1] ++ [Value.int .i64 t50.1.1.2]) ++ ([Value.bool t50.1.2.1] ++ ([Value.int .i64 t50.1.2.2.1] ++ ([Value.slice x52.1.1 t50.1.2.2.2.1.length x52.1.2] ++ ([Value.map (some x5.2.2.2.1)] ++ [Value.slice x52.2.1.1 t50.1.2.2.2.2.2.length x52.2.1.2])))))), Ck.m1 x5.2.2.2.1 t74.2.1 x76.1 t74.2.2.length x76.2, Ck.sl T24 x76.1 x76.2 t74.2.2] [] 5 rfl rfl (by kernel_rfl) (fun w => by kernel_rfl) ⟨by exact rfl, by exact rfl, by exact rfl, trivial⟩ trivial (by decide) (fun w hs hb => alloc_Alloc_Used.calls k8 x5.1 x52.1.1 x52.1.2 x5.2.2.2.1 x52.2.1.1 x52.2.1.2 (t50.1.1, t50.1.2.1, t50.1.2.2.1, t50.1.2.2.2.1, (), t50.1.2.2.2.2.2) x76.1 x76.2 (t74.2.1, t74.2.2) t77 (lent bs57 w [Ck.var 66 x5.1 ((([Value.int .i64 t50.1.1.1] ++ [Value.int .i64 t50.1.1.2]) ++ ([Value.bool t50.1.2.1] ++ ([Value.int .i64 t50.1.2.2.1] ++ ([Value.slice x52.1.1 t50.1.2.2.2.1.length x52.1.2] ++ ([Value.map (some x5.2.2.2.1)] ++ [Value.slice x52.2.1.1 t50.1.2.2.2.2.2.length x52.2.1.2])))))), Ck.m1 x5.2.2.2.1 t74.2.1 x76.1 t74.2.2.length x76.2, Ck.sl T24 x76.1 x76.2 t74.2.2] []) hb (hs.ro fR53 _ _) fC54 (hs.ro fR55 _ _) fC56 hc78) ?_
      intro x79
      obtain ⟨y80, hy81, H⟩ := lt_some H
      refine lv (.int .i64 (IntKind.wrap .i64 ((IntKind.wrap .i64 (t71 + t74.1)) + t77.1))) ?_
      refine ls_ren 157 (v := .int .i64 (IntKind.wrap .i64 ((IntKind.wrap .i64 (t71 + t74.1)) + t77.1))) (v' := .int .i64 y80) (by kernel_rfl) (by rw [hy81]) ?_
      refine lv (.int .i64 y1) ?_
      refine lv (.bool (!decide (y80 = y1))) ?_
      refine ls_end ?_
      refine qn_then ?_
      by_cases q82 : y80 = y1
      · replace H := ite_t q82 H
        refine cs_know (c := false) (congrArg Bool.not (dec_t q82)) 159 (by kernel_rfl) ?_
        refine cs_false (by kernel_rfl) ?_
        refine cs_skip' ?_
        refine qn_block ?_
        refine qn_then ?_
        refine cs_region (l := [_, _, _]) ?_
        refine lv (.int .i64 x9_4) ?_
        refine lv (.int .i64 (IntKind.wrap .i64 (x9_4 + (1 : Int)))) ?_
        refine lv (.int .i64 (IntKind.wrap .i64 (x9_4 + (1 : Int)))) ?_
        refine ls_end ?_
        refine qn_againb k4 (sput (sput (sput (sput (sput s0 0 (some (Ck.var 66 x5.1 ((([Value.int .i64 t50.1.1.1] ++ [Value.int .i64 t50.1.1.2]) ++ ([Value.bool t50.1.2.1] ++ ([Value.int .i64 t50.1.2.2.1] ++ ([Value.slice x52.1.1 t50.1.2.2.2.1.length x52.1.2] ++ ([Value.map (some x5.2.2.2.1)] ++ [Value.slice x52.2.1.1 t50.1.2.2.2.2.2.length x52.2.1.2]))))))))) 1 (some (Ck.m1 x5.2.2.2.1 t77.2.1 x79.1 t77.2.2.length x79.2))) 2 (some (Ck.sl T24 x79.1 x79.2 t77.2.2))) 3 (some (Ck.sl (Ec.int 3 .i64) A7_8 c7_8 l7_8))) 4 (some (Ck.so T24 A8_7 c8_7 l8_7))) (Nat.le_refl _) ⟨_, A7_8, c7_8, l7_8, A8_7, c8_7, l8_7, (IntKind.wrap .i64 (x9_4 + (1 : Int))), x52.1.1, x52.1.2, x52.2.1.1, x52.2.1.2, (t50.1.1, t50.1.2.1, t50.1.2.2.1, t50.1.2.2.2.1, (), t50.1.2.2.2.2.2), x79.1, x79.2, (t77.2.1, t77.2.2), fr_next (fr_next (fr_next (fr_next (fr_next (fr_next (rfl) (by kernel_rfl)) (by kernel_rfl)) (by kernel_rfl)) (by kernel_rfl)) (by kernel_rfl)) (by kernel_rfl), rfl, fR53, fC54, fR55, fC56, ((hleh4.trans hle42).trans hle58), (Ro.mono hok59 hle58 (Ro.mono hok43 hle42 Rb1_4)), H⟩ (sub_put (by exact rfl) (sub_put (by exact rfl) (sub_put (by exact rfl) (sub_put (by exact rfl) (sub_put (by exact rfl) (sub_nil _))))))
      replace H := ite_f q82 H
      refine cs_know (c := true) (congrArg Bool.not (dec_f q82)) 159 (by kernel_rfl) ?_
      refine cs_true (by kernel_rfl) ?_
      refine cs_seq ?_
      refine cs_region (l := [_]) ?_
      refine lv (.bool false) ?_
      refine ls_end ?_
      refine qn_then ?_
      refine cs_ret' ?_
      refine qr_block ?_
      refine qr_then ?_
      refine qr_then ?_
      refine qr_block ?_
      refine qr_then ?_
      obtain rfl := Option.some.inj H
      refine qr_res (rs := [_]) rfl (fun w' hs => ⟨[.bool false], (res_tmp (by kernel_rfl) (.nil)), (), rfl, St.later hs0.ok ((hleh4.trans hle42).trans hle58) (hs.pick (ts := []) (cs := []) trivial (by decide))⟩)
    replace H := ite_f q49 H
    refine cs_know (c := false) (dec_f q49) 133 (by kernel_rfl) ?_
    refine cs_false (by kernel_rfl) ?_
    refine cs_skip' ?_
    refine qn_then ?_
    refine cs_seq ?_
    refine cs_region (l := [_, _, _, _, _, _, _, _, _, _]) ?_
    refine lv (.pointer (some ⟨x5.1, 0, none⟩)) ?_
    obtain ⟨t83, hc84, H⟩ := bind_some H
    refine ls_callb (fid := 32) (vals := #[.pointer (some ⟨x5.1, 0, none⟩)]) (X := Unit) (fun x => .int .i64 t83) (fun x => stl [Ck.var 66 x5.1 ((([Value.int .i64 t34.2.2.1.1] ++ [Value.int .i64 t34.2.2.1.2]) ++ ([Value.bool t34.2.2.2.1] ++ ([Value.int .i64 t34.2.2.2.2.1] ++ ([Value.slice x36.1.1 t34.2.2.2.2.2.1.length x36.1.2] ++ ([Value.map (some x5.2.2.2.1)] ++ [Value.slice x36.2.1 t34.2.2.2.2.2.2.2.length x36.2.2])))))), Ck.m1 x5.2.2.2.1 m1_7.1 Am1_7_1 m1_7.2.length cm1_7_1, Ck.sl T24 Am1_7_1 cm1_7_1 m1_7.2]) [0, 1, 2] [] [Ck.var 66 x5.1 ((([Value.int .i64 t34.2.2.1.1] ++ [Value.int .i64 t34.2.2.1.2]) ++ ([Value.bool t34.2.2.2.1] ++ ([Value.int .i64 t34.2.2.2.2.1] ++ ([Value.slice x36.1.1 t34.2.2.2.2.2.1.length x36.1.2] ++ ([Value.map (some x5.2.2.2.1)] ++ [Value.slice x36.2.1 t34.2.2.2.2.2.2.2.length x36.2.2])))))), Ck.m1 x5.2.2.2.1 m1_7.1 Am1_7_1 m1_7.2.length cm1_7_1, Ck.sl T24 Am1_7_1 cm1_7_1 m1_7.2] [] 5 rfl rfl (by kernel_rfl) (fun w => by kernel_rfl) ⟨by exact rfl, by exact rfl, by exact rfl, trivial⟩ trivial (by decide) (fun w hs hb => alloc_Alloc_Free.calls k4 x5.1 x36.1.1 x36.1.2 x5.2.2.2.1 x36.2.1 x36.2.2 (t34.2.2.1, t34.2.2.2.1, t34.2.2.2.2.1, t34.2.2.2.2.2.1, (), t34.2.2.2.2.2.2.2) Am1_7_1 cm1_7_1 (m1_7.1, m1_7.2) t83 (lent bs41 w [Ck.var 66 x5.1 ((([Value.int .i64 t34.2.2.1.1] ++ [Value.int .i64 t34.2.2.1.2]) ++ ([Value.bool t34.2.2.2.1] ++ ([Value.int .i64 t34.2.2.2.2.1] ++ ([Value.slice x36.1.1 t34.2.2.2.2.2.1.length x36.1.2] ++ ([Value.map (some x5.2.2.2.1)] ++ [Value.slice x36.2.1 t34.2.2.2.2.2.2.2.length x36.2.2])))))), Ck.m1 x5.2.2.2.1 m1_7.1 Am1_7_1 m1_7.2.length cm1_7_1, Ck.sl T24 Am1_7_1 cm1_7_1 m1_7.2] []) hb (hs.ro fR37 _ _) fC38 (hs.ro fR39 _ _) fC40 hc84) ?_
    intro x85
    refine lv (.pointer (some ⟨x5.1, 0, none⟩)) ?_
    obtain ⟨t86, hc87, H⟩ := bind_some H
    refine ls_callb (fid := 33) (vals := #[.pointer (some ⟨x5.1, 0, none⟩)]) (X := (Option Addr × Nat)) (fun x => .int .i64 t86.1) (fun x => stl [Ck.var 66 x5.1 ((([Value.int .i64 t34.2.2.1.1] ++ [Value.int .i64 t34.2.2.1.2]) ++ ([Value.bool t34.2.2.2.1] ++ ([Value.int .i64 t34.2.2.2.2.1] ++ ([Value.slice x36.1.1 t34.2.2.2.2.2.1.length x36.1.2] ++ ([Value.map (some x5.2.2.2.1)] ++ [Value.slice x36.2.1 t34.2.2.2.2.2.2.2.length x36.2.2])))))), Ck.m1 x5.2.2.2.1 t86.2.1 x.1 t86.2.2.length x.2, Ck.sl T24 x.1 x.2 t86.2.2]) [0, 1, 2] [] [Ck.var 66 x5.1 ((([Value.int .i64 t34.2.2.1.1] ++ [Value.int .i64 t34.2.2.1.2]) ++ ([Value.bool t34.2.2.2.1] ++ ([Value.int .i64 t34.2.2.2.2.1] ++ ([Value.slice x36.1.1 t34.2.2.2.2.2.1.length x36.1.2] ++ ([Value.map (some x5.2.2.2.1)] ++ [Value.slice x36.2.1 t34.2.2.2.2.2.2.2.length x36.2.2])))))), Ck.m1 x5.2.2.2.1 m1_7.1 Am1_7_1 m1_7.2.length cm1_7_1, Ck.sl T24 Am1_7_1 cm1_7_1 m1_7.2] [] 5 rfl rfl (by kernel_rfl) (fun w => by kernel_rfl) ⟨by exact rfl, by exact rfl, by exact rfl, trivial⟩ trivial (by decide) (fun w hs hb => alloc_Alloc_Waiting.calls k4 x5.1 x36.1.1 x36.1.2 x5.2.2.2.1 x36.2.1 x36.2.2 (t34.2.2.1, t34.2.2.2.1, t34.2.2.2.2.1, t34.2.2.2.2.2.1, (), t34.2.2.2.2.2.2.2) Am1_7_1 cm1_7_1 (m1_7.1, m1_7.2) t86 (lent bs41 w [Ck.var 66 x5.1 ((([Value.int .i64 t34.2.2.1.1] ++ [Value.int .i64 t34.2.2.1.2]) ++ ([Value.bool t34.2.2.2.1] ++ ([Value.int .i64 t34.2.2.2.2.1] ++ ([Value.slice x36.1.1 t34.2.2.2.2.2.1.length x36.1.2] ++ ([Value.map (some x5.2.2.2.1)] ++ [Value.slice x36.2.1 t34.2.2.2.2.2.2.2.length x36.2.2])))))), Ck.m1 x5.2.2.2.1 m1_7.1 Am1_7_1 m1_7.2.length cm1_7_1, Ck.sl T24 Am1_7_1 cm1_7_1 m1_7.2] []) hb (hs.ro fR37 _ _) fC38 (hs.ro fR39 _ _) fC40 hc87) ?_
    intro x88
    refine lv (.int .i64 (IntKind.wrap .i64 (t83 + t86.1))) ?_
    refine lv (.pointer (some ⟨x5.1, 0, none⟩)) ?_
    obtain ⟨t89, hc90, H⟩ := bind_some H
    refine ls_callb (fid := 29) (vals := #[.pointer (some ⟨x5.1, 0, none⟩)]) (X := (Option Addr × Nat)) (fun x => .int .i64 t89.1) (fun x => stl [Ck.var 66 x5.1 ((([Value.int .i64 t34.2.2.1.1] ++ [Value.int .i64 t34.2.2.1.2]) ++ ([Value.bool t34.2.2.2.1] ++ ([Value.int .i64 t34.2.2.2.2.1] ++ ([Value.slice x36.1.1 t34.2.2.2.2.2.1.length x36.1.2] ++ ([Value.map (some x5.2.2.2.1)] ++ [Value.slice x36.2.1 t34.2.2.2.2.2.2.2.length x36.2.2])))))), Ck.m1 x5.2.2.2.1 t89.2.1 x.1 t89.2.2.length x.2, Ck.sl T24 x.1 x.2 t89.2.2]) [0, 1, 2] [] [Ck.var 66 x5.1 ((([Value.int .i64 t34.2.2.1.1] ++ [Value.int .i64 t34.2.2.1.2]) ++ ([Value.bool t34.2.2.2.1] ++ ([Value.int .i64 t34.2.2.2.2.1] ++ ([Value.slice x36.1.1 t34.2.2.2.2.2.1.length x36.1.2] ++ ([Value.map (some x5.2.2.2.1)] ++ [Value.slice x36.2.1 t34.2.2.2.2.2.2.2.length x36.2.2])))))), Ck.m1 x5.2.2.2.1 t86.2.1 x88.1 t86.2.2.length x88.2, Ck.sl T24 x88.1 x88.2 t86.2.2] [] 5 rfl rfl (by kernel_rfl) (fun w => by kernel_rfl) ⟨by exact rfl, by exact rfl, by exact rfl, trivial⟩ trivial (by decide) (fun w hs hb => alloc_Alloc_Used.calls k4 x5.1 x36.1.1 x36.1.2 x5.2.2.2.1 x36.2.1 x36.2.2 (t34.2.2.1, t34.2.2.2.1, t34.2.2.2.2.1, t34.2.2.2.2.2.1, (), t34.2.2.2.2.2.2.2) x88.1 x88.2 (t86.2.1, t86.2.2) t89 (lent bs41 w [Ck.var 66 x5.1 ((([Value.int .i64 t34.2.2.1.1] ++ [Value.int .i64 t34.2.2.1.2]) ++ ([Value.bool t34.2.2.2.1] ++ ([Value.int .i64 t34.2.2.2.2.1] ++ ([Value.slice x36.1.1 t34.2.2.2.2.2.1.length x36.1.2] ++ ([Value.map (some x5.2.2.2.1)] ++ [Value.slice x36.2.1 t34.2.2.2.2.2.2.2.length x36.2.2])))))), Ck.m1 x5.2.2.2.1 t86.2.1 x88.1 t86.2.2.length x88.2, Ck.sl T24 x88.1 x88.2 t86.2.2] []) hb (hs.ro fR37 _ _) fC38 (hs.ro fR39 _ _) fC40 hc90) ?_
    intro x91
    obtain ⟨y92, hy93, H⟩ := lt_some H
    refine lv (.int .i64 (IntKind.wrap .i64 ((IntKind.wrap .i64 (t83 + t86.1)) + t89.1))) ?_
    refine ls_ren 157 (v := .int .i64 (IntKind.wrap .i64 ((IntKind.wrap .i64 (t83 + t86.1)) + t89.1))) (v' := .int .i64 y92) (by kernel_rfl) (by rw [hy93]) ?_
    refine lv (.int .i64 y1) ?_
    refine lv (.bool (!decide (y92 = y1))) ?_
    refine ls_end ?_
    refine qn_then ?_
    by_cases q94 : y92 = y1
    · replace H := ite_t q94 H
      refine cs_know (c := false) (congrArg Bool.not (dec_t q94)) 159 (by kernel_rfl) ?_
      refine cs_false (by kernel_rfl) ?_
      refine cs_skip' ?_
      refine qn_block ?_
      refine qn_then ?_
      refine cs_region (l := [_, _, _]) ?_
      refine lv (.int .i64 x9_4) ?_
      refine lv (.int .i64 (IntKind.wrap .i64 (x9_4 + (1 : Int)))) ?_
      refine lv (.int .i64 (IntKind.wrap .i64 (x9_4 + (1 : Int)))) ?_
      refine ls_end ?_
      refine qn_againb k4 (sput (sput (sput (sput (sput s0 0 (some (Ck.var 66 x5.1 ((([Value.int .i64 t34.2.2.1.1] ++ [Value.int .i64 t34.2.2.1.2]) ++ ([Value.bool t34.2.2.2.1] ++ ([Value.int .i64 t34.2.2.2.2.1] ++ ([Value.slice x36.1.1 t34.2.2.2.2.2.1.length x36.1.2] ++ ([Value.map (some x5.2.2.2.1)] ++ [Value.slice x36.2.1 t34.2.2.2.2.2.2.2.length x36.2.2]))))))))) 1 (some (Ck.m1 x5.2.2.2.1 t89.2.1 x91.1 t89.2.2.length x91.2))) 2 (some (Ck.sl T24 x91.1 x91.2 t89.2.2))) 3 (some (Ck.sl (Ec.int 3 .i64) A7_7 c7_7 l7_7))) 4 (some (Ck.so T24 A8_7 c8_7 l8_7))) (Nat.le_refl _) ⟨_, A7_7, c7_7, l7_7, A8_7, c8_7, l8_7, (IntKind.wrap .i64 (x9_4 + (1 : Int))), x36.1.1, x36.1.2, x36.2.1, x36.2.2, (t34.2.2.1, t34.2.2.2.1, t34.2.2.2.2.1, t34.2.2.2.2.2.1, (), t34.2.2.2.2.2.2.2), x91.1, x91.2, (t89.2.1, t89.2.2), fr_next (fr_next (fr_next (fr_next (fr_next (fr_next (rfl) (by kernel_rfl)) (by kernel_rfl)) (by kernel_rfl)) (by kernel_rfl)) (by kernel_rfl)) (by kernel_rfl), rfl, fR37, fC38, fR39, fC40, (hleh4.trans hle42), (Ro.mono hok43 hle42 Rb1_4), H⟩ (sub_put (by exact rfl) (sub_put (by exact rfl) (sub_put (by exact rfl) (sub_put (by exact rfl) (sub_put (by exact rfl) (sub_nil _))))))
    replace H := ite_f q94 H
    refine cs_know (c := true) (congrArg Bool.not (dec_f q94)) 159 (by kernel_rfl) ?_
    refine cs_true (by kernel_rfl) ?_
    refine cs_seq ?_
    refine cs_region (l := [_]) ?_
    refine lv (.bool false) ?_
    refine ls_end ?_
    refine qn_then ?_
    refine cs_ret' ?_
    refine qr_block ?_
    refine qr_then ?_
    refine qr_then ?_
    refine qr_block ?_
    refine qr_then ?_
    obtain rfl := Option.some.inj H
    refine qr_res (rs := [_]) rfl (fun w' hs => ⟨[.bool false], (res_tmp (by kernel_rfl) (.nil)), (), rfl, St.later hs0.ok (hleh4.trans hle42) (hs.pick (ts := []) (cs := []) trivial (by decide))⟩)
  rintro bh2 f S ⟨fr2, A7_2, c7_2, l7_2, Am0_2_3, cm0_2_3, Am0_2_5, cm0_2_5, m0_2, Am1_2_1, cm1_2_1, m1_2, rfl, rfl, Rm0_2_3, Cm0_2_3, Rm0_2_5, Cm0_2_5, hleh2, H⟩
  replace H : (shadowboxlaw10_AllocApart.lo3 y1 l7_2 m0_2 m1_2 k (0 : Int) (2 : Int)) = some r := H
  refine cs_seq ?_
  refine cs_region (l := [_]) ?_
  refine lv (.int .i64 (0 : Int)) ?_
  refine ls_end ?_
  refine qn_then ?_
  refine cs_seq ?_
  refine cs_seq ?_
  refine cs_region (l := [_]) ?_
  refine lv (.int .i64 (2 : Int)) ?_
  refine ls_end ?_
  refine qn_then ?_
  refine cs_block ?_
  refine cs_sub (sput (sput (sput (sput s0 0 (some (Ck.var 66 x5.1 ((([Value.int .i64 m0_2.1.1] ++ [Value.int .i64 m0_2.1.2]) ++ ([Value.bool m0_2.2.1] ++ ([Value.int .i64 m0_2.2.2.1] ++ ([Value.slice Am0_2_3 m0_2.2.2.2.1.length cm0_2_3] ++ ([Value.map (some x5.2.2.2.1)] ++ [Value.slice Am0_2_5 m0_2.2.2.2.2.2.length cm0_2_5]))))))))) 1 (some (Ck.m1 x5.2.2.2.1 m1_2.1 Am1_2_1 m1_2.2.length cm1_2_1))) 2 (some (Ck.sl T24 Am1_2_1 cm1_2_1 m1_2.2))) 3 (some (Ck.sl (Ec.int 3 .i64) A7_2 c7_2 l7_2))) (sub_put (by exact rfl) (sub_put (by exact rfl) (sub_put (by exact rfl) (sub_put (by exact rfl) (sub_nil _))))) ?_
  refine cs_loop (fun kk f S => ∃ (fR : Fr) (x17_3 : Int) (x18_3 : Int), f = upd (upd (upd (upd (upd fR 0 (.int .i64 y1)) 5 (.pointer (some ⟨x5.1, 0, none⟩))) 7 (.slice A7_2 l7_2.length c7_2)) 17 (.int .i64 x17_3)) 18 (.int .i64 x18_3) ∧ S = sput (sput (sput (sput s0 0 (some (Ck.var 66 x5.1 ((([Value.int .i64 m0_2.1.1] ++ [Value.int .i64 m0_2.1.2]) ++ ([Value.bool m0_2.2.1] ++ ([Value.int .i64 m0_2.2.2.1] ++ ([Value.slice Am0_2_3 m0_2.2.2.2.1.length cm0_2_3] ++ ([Value.map (some x5.2.2.2.1)] ++ [Value.slice Am0_2_5 m0_2.2.2.2.2.2.length cm0_2_5]))))))))) 1 (some (Ck.m1 x5.2.2.2.1 m1_2.1 Am1_2_1 m1_2.2.length cm1_2_1))) 2 (some (Ck.sl T24 Am1_2_1 cm1_2_1 m1_2.2))) 3 (some (Ck.sl (Ec.int 3 .i64) A7_2 c7_2 l7_2)) ∧ shadowboxlaw10_AllocApart.lo3 y1 l7_2 m0_2 m1_2 kk x17_3 x18_3 = some r) k ?_ ?_ ?_
  · exact ⟨_, (0 : Int), (2 : Int), fr_next (fr_next (fr_next (fr_next (fr_next (rfl) (by kernel_rfl)) (by kernel_rfl)) (by kernel_rfl)) (by kernel_rfl)) (by kernel_rfl), rfl, H⟩
  · rintro f S ⟨fr3, x17_3, x18_3, rfl, rfl, H⟩; cases H
  rintro k3 f S ⟨fr3, x17_3, x18_3, rfl, rfl, H⟩
  replace H : ((if x18_3 < (IntKind.wrap .i64 ((2 : Int) + y1)) then (if 0 ≤ x18_3 then (if x18_3 < (l7_2.length : Int) then (if ((l7_2).getD (x18_3).toNat (0 : Int)) = (1 : Int) then (shadowboxlaw10_AllocApart.lo3 y1 l7_2 m0_2 m1_2 k3) (IntKind.wrap .i64 (x17_3 + (1 : Int))) (IntKind.wrap .i64 (x18_3 + (1 : Int))) else (shadowboxlaw10_AllocApart.lo3 y1 l7_2 m0_2 m1_2 k3) x17_3 (IntKind.wrap .i64 (x18_3 + (1 : Int)))) else none) else none) else (alloc_Alloc_Used.f k3 (m0_2.1, m0_2.2.1, m0_2.2.2.1, m0_2.2.2.2.1, (), m0_2.2.2.2.2.2) (m1_2.1, m1_2.2)).bind fun t25 => some (decide (t25.1 = x17_3)))) = some r := H
  refine cs_seq ?_
  refine cs_seq ?_
  refine cs_region (l := [_, _, _, _]) ?_
  refine lv (.int .i64 x18_3) ?_
  refine lv (.int .i64 y1) ?_
  refine lv (.int .i64 (IntKind.wrap .i64 ((2 : Int) + y1))) ?_
  refine lv (.bool (decide (x18_3 < (IntKind.wrap .i64 ((2 : Int) + y1))))) ?_
  refine ls_end ?_
  refine qn_then ?_
  by_cases q19 : x18_3 < (IntKind.wrap .i64 ((2 : Int) + y1))
  · replace H := ite_t q19 H
    refine cs_know (c := true) (dec_t q19) 163 (by kernel_rfl) ?_
    refine cs_true (by kernel_rfl) ?_
    refine cs_skip' ?_
    refine qn_then ?_
    refine cs_seq ?_
    refine cs_block ?_
    refine cs_seq ?_
    refine cs_region (l := [_, _, _, _, _]) ?_
    refine lv (.slice A7_2 l7_2.length c7_2) ?_
    refine lv (.int .i64 x18_3) ?_
    obtain ⟨q20, H⟩ := ite_need H
    obtain ⟨q21, H⟩ := ite_need H
    refine ls_at (T := (Ec.int 3 .i64)) (tk := 3) (i := x18_3) (by exact rfl) q20 q21 ?_
    intro ad22 hA23
    refine ls_idxv (Ec.int 3 .i64) (A := A7_2) (c := c7_2) (l := l7_2) (k := .i64) (i := x18_3) (z := 1) (ad := ad22) rfl rfl (by kernel_rfl) hA23 rfl (by kernel_rfl) (by kernel_rfl) (by kernel_rfl) (by kernel_rfl) q20 q21 ?_
    refine ls_load (a0 := (ad22.add ((x18_3).toNat * 1))) (v := .int .i64 ((l7_2).getD (x18_3).toNat (0 : Int))) (de := (TypeDesc.int .i64)) rfl rfl (by kernel_rfl) rfl (by kernel_rfl) (by kernel_rfl) (by kernel_rfl) (fun w hs => (hs.rd (k := 3) (by exact rfl)).at hA23 (em_sub (Ec.int 3 .i64) l7_2 (i := (x18_3).toNat) (by have h0 : (0 : Int) ≤ x18_3 := q20; have h1 : x18_3 < (l7_2.length : Int) := q21; omega))) ?_
    refine lv (.bool (decide (((l7_2).getD (x18_3).toNat (0 : Int)) = (1 : Int)))) ?_
    refine ls_end ?_
    refine qn_then ?_
    by_cases q24 : ((l7_2).getD (x18_3).toNat (0 : Int)) = (1 : Int)
    · replace H := ite_t q24 H
      refine cs_know (c := true) (dec_t q24) 170 (by kernel_rfl) ?_
      refine cs_true (by kernel_rfl) ?_
      refine cs_region (l := [_, _, _]) ?_
      refine lv (.int .i64 x17_3) ?_
      refine lv (.int .i64 (IntKind.wrap .i64 (x17_3 + (1 : Int)))) ?_
      refine lv (.int .i64 (IntKind.wrap .i64 (x17_3 + (1 : Int)))) ?_
      refine ls_end ?_
      refine qn_block ?_
      refine qn_then ?_
      refine cs_region (l := [_, _, _]) ?_
      refine lv (.int .i64 x18_3) ?_
      refine lv (.int .i64 (IntKind.wrap .i64 (x18_3 + (1 : Int)))) ?_
      refine lv (.int .i64 (IntKind.wrap .i64 (x18_3 + (1 : Int)))) ?_
      refine ls_end ?_
      refine qn_again k3 (sput (sput (sput (sput s0 0 (some (Ck.var 66 x5.1 ((([Value.int .i64 m0_2.1.1] ++ [Value.int .i64 m0_2.1.2]) ++ ([Value.bool m0_2.2.1] ++ ([Value.int .i64 m0_2.2.2.1] ++ ([Value.slice Am0_2_3 m0_2.2.2.2.1.length cm0_2_3] ++ ([Value.map (some x5.2.2.2.1)] ++ [Value.slice Am0_2_5 m0_2.2.2.2.2.2.length cm0_2_5]))))))))) 1 (some (Ck.m1 x5.2.2.2.1 m1_2.1 Am1_2_1 m1_2.2.length cm1_2_1))) 2 (some (Ck.sl T24 Am1_2_1 cm1_2_1 m1_2.2))) 3 (some (Ck.sl (Ec.int 3 .i64) A7_2 c7_2 l7_2))) (Nat.le_refl _) ⟨_, (IntKind.wrap .i64 (x17_3 + (1 : Int))), (IntKind.wrap .i64 (x18_3 + (1 : Int))), fr_next (fr_next (fr_next (fr_next (fr_next (rfl) (by kernel_rfl)) (by kernel_rfl)) (by kernel_rfl)) (by kernel_rfl)) (by kernel_rfl), rfl, H⟩ (sub_put (by exact rfl) (sub_put (by exact rfl) (sub_put (by exact rfl) (sub_put (by exact rfl) (sub_nil _)))))
    replace H := ite_f q24 H
    refine cs_know (c := false) (dec_f q24) 170 (by kernel_rfl) ?_
    refine cs_false (by kernel_rfl) ?_
    refine cs_skip' ?_
    refine qn_block ?_
    refine qn_then ?_
    refine cs_region (l := [_, _, _]) ?_
    refine lv (.int .i64 x18_3) ?_
    refine lv (.int .i64 (IntKind.wrap .i64 (x18_3 + (1 : Int)))) ?_
    refine lv (.int .i64 (IntKind.wrap .i64 (x18_3 + (1 : Int)))) ?_
    refine ls_end ?_
    refine qn_again k3 (sput (sput (sput (sput s0 0 (some (Ck.var 66 x5.1 ((([Value.int .i64 m0_2.1.1] ++ [Value.int .i64 m0_2.1.2]) ++ ([Value.bool m0_2.2.1] ++ ([Value.int .i64 m0_2.2.2.1] ++ ([Value.slice Am0_2_3 m0_2.2.2.2.1.length cm0_2_3] ++ ([Value.map (some x5.2.2.2.1)] ++ [Value.slice Am0_2_5 m0_2.2.2.2.2.2.length cm0_2_5]))))))))) 1 (some (Ck.m1 x5.2.2.2.1 m1_2.1 Am1_2_1 m1_2.2.length cm1_2_1))) 2 (some (Ck.sl T24 Am1_2_1 cm1_2_1 m1_2.2))) 3 (some (Ck.sl (Ec.int 3 .i64) A7_2 c7_2 l7_2))) (Nat.le_refl _) ⟨_, x17_3, (IntKind.wrap .i64 (x18_3 + (1 : Int))), fr_next (fr_next (fr_next (fr_next (fr_next (rfl) (by kernel_rfl)) (by kernel_rfl)) (by kernel_rfl)) (by kernel_rfl)) (by kernel_rfl), rfl, H⟩ (sub_put (by exact rfl) (sub_put (by exact rfl) (sub_put (by exact rfl) (sub_put (by exact rfl) (sub_nil _)))))
  replace H := ite_f q19 H
  refine cs_know (c := false) (dec_f q19) 163 (by kernel_rfl) ?_
  refine cs_false (by kernel_rfl) ?_
  refine cs_exit' ?_
  refine qx_then ?_
  refine qx_then ?_
  refine qx_same ?_
  refine qn_then ?_
  refine cs_seq ?_
  refine cs_region (l := [_, _, _, _, _]) ?_
  refine lv (.pointer (some ⟨x5.1, 0, none⟩)) ?_
  obtain ⟨t25, hc26, H⟩ := bind_some H
  refine ls_callb (fid := 29) (vals := #[.pointer (some ⟨x5.1, 0, none⟩)]) (X := (Option Addr × Nat)) (fun x => .int .i64 t25.1) (fun x => stl [Ck.var 66 x5.1 ((([Value.int .i64 m0_2.1.1] ++ [Value.int .i64 m0_2.1.2]) ++ ([Value.bool m0_2.2.1] ++ ([Value.int .i64 m0_2.2.2.1] ++ ([Value.slice Am0_2_3 m0_2.2.2.2.1.length cm0_2_3] ++ ([Value.map (some x5.2.2.2.1)] ++ [Value.slice Am0_2_5 m0_2.2.2.2.2.2.length cm0_2_5])))))), Ck.m1 x5.2.2.2.1 t25.2.1 x.1 t25.2.2.length x.2, Ck.sl T24 x.1 x.2 t25.2.2]) [0, 1, 2] [] [Ck.var 66 x5.1 ((([Value.int .i64 m0_2.1.1] ++ [Value.int .i64 m0_2.1.2]) ++ ([Value.bool m0_2.2.1] ++ ([Value.int .i64 m0_2.2.2.1] ++ ([Value.slice Am0_2_3 m0_2.2.2.2.1.length cm0_2_3] ++ ([Value.map (some x5.2.2.2.1)] ++ [Value.slice Am0_2_5 m0_2.2.2.2.2.2.length cm0_2_5])))))), Ck.m1 x5.2.2.2.1 m1_2.1 Am1_2_1 m1_2.2.length cm1_2_1, Ck.sl T24 Am1_2_1 cm1_2_1 m1_2.2] [] 4 rfl rfl (by kernel_rfl) (fun w => by kernel_rfl) ⟨by exact rfl, by exact rfl, by exact rfl, trivial⟩ trivial (by decide) (fun w hs hb => alloc_Alloc_Used.calls k3 x5.1 Am0_2_3 cm0_2_3 x5.2.2.2.1 Am0_2_5 cm0_2_5 (m0_2.1, m0_2.2.1, m0_2.2.2.1, m0_2.2.2.2.1, (), m0_2.2.2.2.2.2) Am1_2_1 cm1_2_1 (m1_2.1, m1_2.2) t25 (lent bh2 w [Ck.var 66 x5.1 ((([Value.int .i64 m0_2.1.1] ++ [Value.int .i64 m0_2.1.2]) ++ ([Value.bool m0_2.2.1] ++ ([Value.int .i64 m0_2.2.2.1] ++ ([Value.slice Am0_2_3 m0_2.2.2.2.1.length cm0_2_3] ++ ([Value.map (some x5.2.2.2.1)] ++ [Value.slice Am0_2_5 m0_2.2.2.2.2.2.length cm0_2_5])))))), Ck.m1 x5.2.2.2.1 m1_2.1 Am1_2_1 m1_2.2.length cm1_2_1, Ck.sl T24 Am1_2_1 cm1_2_1 m1_2.2] []) hb (hs.ro Rm0_2_3 _ _) Cm0_2_3 (hs.ro Rm0_2_5 _ _) Cm0_2_5 hc26) ?_
  intro x27
  refine lv (.int .i64 x17_3) ?_
  refine lv (.bool (decide (t25.1 = x17_3))) ?_
  refine lv (.bool (decide (t25.1 = x17_3))) ?_
  refine ls_end ?_
  refine qn_then ?_
  refine cs_ret' ?_
  obtain rfl := Option.some.inj H
  refine qr_res (rs := [_]) rfl (fun w' hs => ⟨[.bool (decide (t25.1 = x17_3))], (res_tmp (by kernel_rfl) (.nil)), (), rfl, St.later hs0.ok hleh2 (hs.pick (ts := []) (cs := []) trivial (by decide))⟩)

end Go.Proofs.Ytiikfaefeonfhaa.G
