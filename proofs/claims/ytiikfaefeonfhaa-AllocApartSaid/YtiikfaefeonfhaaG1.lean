/- Printed by a program of this session (sz.py): plain functions, and walks that show that the code comes to them; no condition. -/
import Derived.Test.YtiikfaefeonfhaaProg
import Derived.Test.YtiikfaefeonfhaaTy
import Derived.Test.YtiikfaefeonfhaaG0
set_option linter.unusedVariables false
set_option linter.unusedSimpArgs false
namespace Go.Proofs.Ytiikfaefeonfhaa.G
open Go Go.RowKit Go.Proofs.Ytiikfaefeonfhaa.Sx

/-! ### (*shadowbox/alloc.Alloc).Waiting: function 33 -/
def alloc_Alloc_Waiting.f (k : Nat) (v0 : ((Int × Int) × Bool × Int × (List (Int × Int)) × Unit × (List (Int × Int)))) (w0_4 : (Bool × (List (Int × Int)))) : Option (Int × (Bool × (List (Int × Int)))) :=
  (alloc_Alloc_none.f k (v0.1, v0.2.1, v0.2.2.1, v0.2.2.2.1, (), v0.2.2.2.2.2) (w0_4.1, w0_4.2)).bind fun t1 => (if t1 = true then some ((0 : Int), (w0_4.1, w0_4.2)) else (alloc_Alloc_waiting.f k (v0.1, v0.2.1, v0.2.2.1, v0.2.2.2.1, (), v0.2.2.2.2.2) (w0_4.1, w0_4.2)).bind fun t5 => (extent_Total.f k t5.1).bind fun t8 => some (t8, (t5.2.1, t5.2.2)))
set_option maxRecDepth 100000 in
set_option maxHeartbeats 4000000 in
theorem alloc_Alloc_Waiting.calls (k : Nat) (pg0 : Nat) (A0_3 : Option Addr) (c0_3 : Nat) (r0_4 : Nat) (A0_5 : Option Addr) (c0_5 : Nat) (v0 : ((Int × Int) × Bool × Int × (List (Int × Int)) × Unit × (List (Int × Int)))) (A0_4 : Option Addr) (c0_4 : Nat) (w0_4 : (Bool × (List (Int × Int)))) (r : Int × (Bool × (List (Int × Int)))) (b : Bs) (hs0 : St b (stl [Ck.var 66 pg0 ((([Value.int .i64 v0.1.1] ++ [Value.int .i64 v0.1.2]) ++ ([Value.bool v0.2.1] ++ ([Value.int .i64 v0.2.2.1] ++ ([Value.slice A0_3 v0.2.2.2.1.length c0_3] ++ ([Value.map (some r0_4)] ++ [Value.slice A0_5 v0.2.2.2.2.2.length c0_5])))))), Ck.m1 r0_4 w0_4.1 A0_4 w0_4.2.length c0_4, Ck.sl T24 A0_4 c0_4 w0_4.2]) b.w) (R0_3 : Ro b A0_3 (em T24 v0.2.2.2.1)) (C0_3 : v0.2.2.2.1.length ≤ c0_3) (R0_5 : Ro b A0_5 (em T24 v0.2.2.2.2.2)) (C0_5 : v0.2.2.2.2.2.length ≤ c0_5) (H : alloc_Alloc_Waiting.f k v0 w0_4 = some r) :
    Calls Try.prog 33 #[.pointer (some ⟨pg0, 0, none⟩)] b.w fun e w' => ∃ x : (Option Addr × Nat), e = .returned (.int .i64 r.1) ∧ St b (stl [Ck.var 66 pg0 ((([Value.int .i64 v0.1.1] ++ [Value.int .i64 v0.1.2]) ++ ([Value.bool v0.2.1] ++ ([Value.int .i64 v0.2.2.1] ++ ([Value.slice A0_3 v0.2.2.2.1.length c0_3] ++ ([Value.map (some r0_4)] ++ [Value.slice A0_5 v0.2.2.2.2.2.length c0_5])))))), Ck.m1 r0_4 r.2.1 x.1 r.2.2.length x.2, Ck.sl T24 x.1 x.2 r.2.2]) w' := by
  unfold alloc_Alloc_Waiting.f at H
  refine enterb (n := 8) Try.func33 rfl (by kernel_rfl) (by kernel_rfl) hs0 ?_
  refine cs_sub (sput (sput (sput s0 0 (some (Ck.var 66 pg0 ((([Value.int .i64 v0.1.1] ++ [Value.int .i64 v0.1.2]) ++ ([Value.bool v0.2.1] ++ ([Value.int .i64 v0.2.2.1] ++ ([Value.slice A0_3 v0.2.2.2.1.length c0_3] ++ ([Value.map (some r0_4)] ++ [Value.slice A0_5 v0.2.2.2.2.2.length c0_5]))))))))) 1 (some (Ck.m1 r0_4 w0_4.1 A0_4 w0_4.2.length c0_4))) 2 (some (Ck.sl T24 A0_4 c0_4 w0_4.2))) (sub_put (by exact rfl) (sub_put (by exact rfl) (sub_put (by exact rfl) (sub_nil _)))) ?_
  refine cs_seq ?_
  refine cs_region (l := [_]) ?_
  refine lv (.int .i64 (0 : Int)) ?_
  refine ls_end ?_
  refine qn_then ?_
  refine cs_seq ?_
  refine cs_seq ?_
  refine cs_region (l := [_, _]) ?_
  refine lv (.pointer (some ⟨pg0, 0, none⟩)) ?_
  obtain ⟨t1, hc2, H⟩ := bind_some H
  refine ls_callb (fid := 48) (vals := #[.pointer (some ⟨pg0, 0, none⟩)]) (X := Unit) (fun x => .bool t1) (fun x => stl [Ck.var 66 pg0 ((([Value.int .i64 v0.1.1] ++ [Value.int .i64 v0.1.2]) ++ ([Value.bool v0.2.1] ++ ([Value.int .i64 v0.2.2.1] ++ ([Value.slice A0_3 v0.2.2.2.1.length c0_3] ++ ([Value.map (some r0_4)] ++ [Value.slice A0_5 v0.2.2.2.2.2.length c0_5])))))), Ck.m1 r0_4 w0_4.1 A0_4 w0_4.2.length c0_4, Ck.sl T24 A0_4 c0_4 w0_4.2]) [0, 1, 2] [] [Ck.var 66 pg0 ((([Value.int .i64 v0.1.1] ++ [Value.int .i64 v0.1.2]) ++ ([Value.bool v0.2.1] ++ ([Value.int .i64 v0.2.2.1] ++ ([Value.slice A0_3 v0.2.2.2.1.length c0_3] ++ ([Value.map (some r0_4)] ++ [Value.slice A0_5 v0.2.2.2.2.2.length c0_5])))))), Ck.m1 r0_4 w0_4.1 A0_4 w0_4.2.length c0_4, Ck.sl T24 A0_4 c0_4 w0_4.2] [] 3 rfl rfl (by kernel_rfl) (fun w => by kernel_rfl) ⟨by exact rfl, by exact rfl, by exact rfl, trivial⟩ trivial (by decide) (fun w hs hb => alloc_Alloc_none.calls k pg0 A0_3 c0_3 r0_4 A0_5 c0_5 (v0.1, v0.2.1, v0.2.2.1, v0.2.2.2.1, (), v0.2.2.2.2.2) A0_4 c0_4 (w0_4.1, w0_4.2) t1 (lent b w [Ck.var 66 pg0 ((([Value.int .i64 v0.1.1] ++ [Value.int .i64 v0.1.2]) ++ ([Value.bool v0.2.1] ++ ([Value.int .i64 v0.2.2.1] ++ ([Value.slice A0_3 v0.2.2.2.1.length c0_3] ++ ([Value.map (some r0_4)] ++ [Value.slice A0_5 v0.2.2.2.2.2.length c0_5])))))), Ck.m1 r0_4 w0_4.1 A0_4 w0_4.2.length c0_4, Ck.sl T24 A0_4 c0_4 w0_4.2] []) hb (hs.ro R0_3 _ _) C0_3 (hs.ro R0_5 _ _) C0_5 hc2) ?_
  intro x3
  refine ls_end ?_
  refine qn_then ?_
  by_cases q4 : t1 = true
  · replace H := ite_t q4 H
    refine cs_know (c := true) (q4) 4 (by kernel_rfl) ?_
    refine cs_true (by kernel_rfl) ?_
    refine cs_seq ?_
    refine cs_region (l := [_]) ?_
    refine lv (.int .i64 (0 : Int)) ?_
    refine ls_end ?_
    refine qn_then ?_
    refine cs_ret' ?_
    refine qr_then ?_
    obtain rfl := Option.some.inj H
    refine qr_res (rs := [_]) rfl (fun w' hs => ⟨[.int .i64 (0 : Int)], (res_tmp (by kernel_rfl) (.nil)), (A0_4, c0_4), rfl, hs.pick (ts := [0, 1, 2]) (cs := [Ck.var 66 pg0 ((([Value.int .i64 v0.1.1] ++ [Value.int .i64 v0.1.2]) ++ ([Value.bool v0.2.1] ++ ([Value.int .i64 v0.2.2.1] ++ ([Value.slice A0_3 v0.2.2.2.1.length c0_3] ++ ([Value.map (some r0_4)] ++ [Value.slice A0_5 v0.2.2.2.2.2.length c0_5])))))), Ck.m1 r0_4 w0_4.1 A0_4 w0_4.2.length c0_4, Ck.sl T24 A0_4 c0_4 w0_4.2]) ⟨by exact rfl, by exact rfl, by exact rfl, trivial⟩ (by decide)⟩)
  replace H := ite_f q4 H
  refine cs_know (c := false) (Bool.eq_false_iff.mpr q4) 4 (by kernel_rfl) ?_
  refine cs_false (by kernel_rfl) ?_
  refine cs_skip' ?_
  refine qn_then ?_
  refine cs_seq ?_
  refine cs_region (l := [_, _, _, _]) ?_
  refine lv (.pointer (some ⟨pg0, 0, none⟩)) ?_
  obtain ⟨t5, hc6, H⟩ := bind_some H
  refine ls_callb (fid := 50) (vals := #[.pointer (some ⟨pg0, 0, none⟩)]) (X := (Option Addr × Nat) × (Option Addr × Nat)) (fun x => .slice x.1.1 t5.1.length x.1.2) (fun x => stl [Ck.var 66 pg0 ((([Value.int .i64 v0.1.1] ++ [Value.int .i64 v0.1.2]) ++ ([Value.bool v0.2.1] ++ ([Value.int .i64 v0.2.2.1] ++ ([Value.slice A0_3 v0.2.2.2.1.length c0_3] ++ ([Value.map (some r0_4)] ++ [Value.slice A0_5 v0.2.2.2.2.2.length c0_5])))))), Ck.m1 r0_4 t5.2.1 x.2.1 t5.2.2.length x.2.2, Ck.sl T24 x.2.1 x.2.2 t5.2.2, Ck.ro T24 x.1.1 x.1.2 t5.1]) [0, 1, 2] [] [Ck.var 66 pg0 ((([Value.int .i64 v0.1.1] ++ [Value.int .i64 v0.1.2]) ++ ([Value.bool v0.2.1] ++ ([Value.int .i64 v0.2.2.1] ++ ([Value.slice A0_3 v0.2.2.2.1.length c0_3] ++ ([Value.map (some r0_4)] ++ [Value.slice A0_5 v0.2.2.2.2.2.length c0_5])))))), Ck.m1 r0_4 w0_4.1 A0_4 w0_4.2.length c0_4, Ck.sl T24 A0_4 c0_4 w0_4.2] [] 3 rfl rfl (by kernel_rfl) (fun w => by kernel_rfl) ⟨by exact rfl, by exact rfl, by exact rfl, trivial⟩ trivial (by decide) (fun w hs hb => alloc_Alloc_waiting.calls k pg0 A0_3 c0_3 r0_4 A0_5 c0_5 (v0.1, v0.2.1, v0.2.2.1, v0.2.2.2.1, (), v0.2.2.2.2.2) A0_4 c0_4 (w0_4.1, w0_4.2) t5 (lent b w [Ck.var 66 pg0 ((([Value.int .i64 v0.1.1] ++ [Value.int .i64 v0.1.2]) ++ ([Value.bool v0.2.1] ++ ([Value.int .i64 v0.2.2.1] ++ ([Value.slice A0_3 v0.2.2.2.1.length c0_3] ++ ([Value.map (some r0_4)] ++ [Value.slice A0_5 v0.2.2.2.2.2.length c0_5])))))), Ck.m1 r0_4 w0_4.1 A0_4 w0_4.2.length c0_4, Ck.sl T24 A0_4 c0_4 w0_4.2] []) hb (hs.ro R0_3 _ _) C0_3 (hs.ro R0_5 _ _) C0_5 hc6) ?_
  intro x7
  obtain ⟨t8, hc9, H⟩ := bind_some H
  refine ls_callb (fid := 14) (vals := #[.slice x7.1.1 t5.1.length x7.1.2]) (X := Unit) (fun x => .int .i64 t8) (fun x => stl []) [] [3] [] [Ck.ro T24 x7.1.1 x7.1.2 t5.1] 4 rfl rfl (by kernel_rfl) (fun w => by kernel_rfl) trivial ⟨by exact rfl, trivial⟩ (by decide) (fun w hs hb => extent_Total.calls k x7.1.1 x7.1.2 t5.1 t8 (lent b w [] [Ck.ro T24 x7.1.1 x7.1.2 t5.1]) hb (hs.roror (k := 3) (by exact rfl) (.head _)) (hs.rocap (k := 3) (by exact rfl)) hc9) ?_
  intro x10
  refine lv (.int .i64 t8) ?_
  refine ls_end ?_
  refine qn_then ?_
  refine cs_ret' ?_
  obtain rfl := Option.some.inj H
  refine qr_res (rs := [_]) rfl (fun w' hs => ⟨[.int .i64 t8], (res_tmp (by kernel_rfl) (.nil)), (x7.2.1, x7.2.2), rfl, hs.pick (ts := [0, 1, 2]) (cs := [Ck.var 66 pg0 ((([Value.int .i64 v0.1.1] ++ [Value.int .i64 v0.1.2]) ++ ([Value.bool v0.2.1] ++ ([Value.int .i64 v0.2.2.1] ++ ([Value.slice A0_3 v0.2.2.2.1.length c0_3] ++ ([Value.map (some r0_4)] ++ [Value.slice A0_5 v0.2.2.2.2.2.length c0_5])))))), Ck.m1 r0_4 t5.2.1 x7.2.1 t5.2.2.length x7.2.2, Ck.sl T24 x7.2.1 x7.2.2 t5.2.2]) ⟨by exact rfl, by exact rfl, by exact rfl, trivial⟩ (by decide)⟩)

/-! ### (*shadowbox/alloc.Alloc).Used: function 29 -/
def alloc_Alloc_Used.f (k : Nat) (v0 : ((Int × Int) × Bool × Int × (List (Int × Int)) × Unit × (List (Int × Int)))) (w0_4 : (Bool × (List (Int × Int)))) : Option (Int × (Bool × (List (Int × Int)))) :=
  (alloc_Alloc_none.f k (v0.1, v0.2.1, v0.2.2.1, v0.2.2.2.1, (), v0.2.2.2.2.2) (w0_4.1, w0_4.2)).bind fun t1 => (if t1 = true then some ((0 : Int), (w0_4.1, w0_4.2)) else (alloc_Alloc_Free.f k (v0.1, v0.2.1, v0.2.2.1, v0.2.2.2.1, (), v0.2.2.2.2.2) (w0_4.1, w0_4.2)).bind fun t5 => lt (IntKind.wrap .i64 ((IntKind.wrap .i64 (v0.1.2 - v0.1.1)) - t5)) fun y8 => (alloc_Alloc_Waiting.f k (v0.1, v0.2.1, v0.2.2.1, v0.2.2.2.1, (), v0.2.2.2.2.2) (w0_4.1, w0_4.2)).bind fun t10 => some (IntKind.wrap .i64 (y8 - t10.1), (t10.2.1, t10.2.2)))
set_option maxRecDepth 100000 in
set_option maxHeartbeats 4000000 in
theorem alloc_Alloc_Used.calls (k : Nat) (pg0 : Nat) (A0_3 : Option Addr) (c0_3 : Nat) (r0_4 : Nat) (A0_5 : Option Addr) (c0_5 : Nat) (v0 : ((Int × Int) × Bool × Int × (List (Int × Int)) × Unit × (List (Int × Int)))) (A0_4 : Option Addr) (c0_4 : Nat) (w0_4 : (Bool × (List (Int × Int)))) (r : Int × (Bool × (List (Int × Int)))) (b : Bs) (hs0 : St b (stl [Ck.var 66 pg0 ((([Value.int .i64 v0.1.1] ++ [Value.int .i64 v0.1.2]) ++ ([Value.bool v0.2.1] ++ ([Value.int .i64 v0.2.2.1] ++ ([Value.slice A0_3 v0.2.2.2.1.length c0_3] ++ ([Value.map (some r0_4)] ++ [Value.slice A0_5 v0.2.2.2.2.2.length c0_5])))))), Ck.m1 r0_4 w0_4.1 A0_4 w0_4.2.length c0_4, Ck.sl T24 A0_4 c0_4 w0_4.2]) b.w) (R0_3 : Ro b A0_3 (em T24 v0.2.2.2.1)) (C0_3 : v0.2.2.2.1.length ≤ c0_3) (R0_5 : Ro b A0_5 (em T24 v0.2.2.2.2.2)) (C0_5 : v0.2.2.2.2.2.length ≤ c0_5) (H : alloc_Alloc_Used.f k v0 w0_4 = some r) :
    Calls Try.prog 29 #[.pointer (some ⟨pg0, 0, none⟩)] b.w fun e w' => ∃ x : (Option Addr × Nat), e = .returned (.int .i64 r.1) ∧ St b (stl [Ck.var 66 pg0 ((([Value.int .i64 v0.1.1] ++ [Value.int .i64 v0.1.2]) ++ ([Value.bool v0.2.1] ++ ([Value.int .i64 v0.2.2.1] ++ ([Value.slice A0_3 v0.2.2.2.1.length c0_3] ++ ([Value.map (some r0_4)] ++ [Value.slice A0_5 v0.2.2.2.2.2.length c0_5])))))), Ck.m1 r0_4 r.2.1 x.1 r.2.2.length x.2, Ck.sl T24 x.1 x.2 r.2.2]) w' := by
  unfold alloc_Alloc_Used.f at H
  refine enterb (n := 22) Try.func29 rfl (by kernel_rfl) (by kernel_rfl) hs0 ?_
  refine cs_sub (sput (sput (sput s0 0 (some (Ck.var 66 pg0 ((([Value.int .i64 v0.1.1] ++ [Value.int .i64 v0.1.2]) ++ ([Value.bool v0.2.1] ++ ([Value.int .i64 v0.2.2.1] ++ ([Value.slice A0_3 v0.2.2.2.1.length c0_3] ++ ([Value.map (some r0_4)] ++ [Value.slice A0_5 v0.2.2.2.2.2.length c0_5]))))))))) 1 (some (Ck.m1 r0_4 w0_4.1 A0_4 w0_4.2.length c0_4))) 2 (some (Ck.sl T24 A0_4 c0_4 w0_4.2))) (sub_put (by exact rfl) (sub_put (by exact rfl) (sub_put (by exact rfl) (sub_nil _)))) ?_
  refine cs_seq ?_
  refine cs_region (l := [_]) ?_
  refine lv (.int .i64 (0 : Int)) ?_
  refine ls_end ?_
  refine qn_then ?_
  refine cs_seq ?_
  refine cs_seq ?_
  refine cs_region (l := [_, _]) ?_
  refine lv (.pointer (some ⟨pg0, 0, none⟩)) ?_
  obtain ⟨t1, hc2, H⟩ := bind_some H
  refine ls_callb (fid := 48) (vals := #[.pointer (some ⟨pg0, 0, none⟩)]) (X := Unit) (fun x => .bool t1) (fun x => stl [Ck.var 66 pg0 ((([Value.int .i64 v0.1.1] ++ [Value.int .i64 v0.1.2]) ++ ([Value.bool v0.2.1] ++ ([Value.int .i64 v0.2.2.1] ++ ([Value.slice A0_3 v0.2.2.2.1.length c0_3] ++ ([Value.map (some r0_4)] ++ [Value.slice A0_5 v0.2.2.2.2.2.length c0_5])))))), Ck.m1 r0_4 w0_4.1 A0_4 w0_4.2.length c0_4, Ck.sl T24 A0_4 c0_4 w0_4.2]) [0, 1, 2] [] [Ck.var 66 pg0 ((([Value.int .i64 v0.1.1] ++ [Value.int .i64 v0.1.2]) ++ ([Value.bool v0.2.1] ++ ([Value.int .i64 v0.2.2.1] ++ ([Value.slice A0_3 v0.2.2.2.1.length c0_3] ++ ([Value.map (some r0_4)] ++ [Value.slice A0_5 v0.2.2.2.2.2.length c0_5])))))), Ck.m1 r0_4 w0_4.1 A0_4 w0_4.2.length c0_4, Ck.sl T24 A0_4 c0_4 w0_4.2] [] 3 rfl rfl (by kernel_rfl) (fun w => by kernel_rfl) ⟨by exact rfl, by exact rfl, by exact rfl, trivial⟩ trivial (by decide) (fun w hs hb => alloc_Alloc_none.calls k pg0 A0_3 c0_3 r0_4 A0_5 c0_5 (v0.1, v0.2.1, v0.2.2.1, v0.2.2.2.1, (), v0.2.2.2.2.2) A0_4 c0_4 (w0_4.1, w0_4.2) t1 (lent b w [Ck.var 66 pg0 ((([Value.int .i64 v0.1.1] ++ [Value.int .i64 v0.1.2]) ++ ([Value.bool v0.2.1] ++ ([Value.int .i64 v0.2.2.1] ++ ([Value.slice A0_3 v0.2.2.2.1.length c0_3] ++ ([Value.map (some r0_4)] ++ [Value.slice A0_5 v0.2.2.2.2.2.length c0_5])))))), Ck.m1 r0_4 w0_4.1 A0_4 w0_4.2.length c0_4, Ck.sl T24 A0_4 c0_4 w0_4.2] []) hb (hs.ro R0_3 _ _) C0_3 (hs.ro R0_5 _ _) C0_5 hc2) ?_
  intro x3
  refine ls_end ?_
  refine qn_then ?_
  by_cases q4 : t1 = true
  · replace H := ite_t q4 H
    refine cs_know (c := true) (q4) 4 (by kernel_rfl) ?_
    refine cs_true (by kernel_rfl) ?_
    refine cs_seq ?_
    refine cs_region (l := [_]) ?_
    refine lv (.int .i64 (0 : Int)) ?_
    refine ls_end ?_
    refine qn_then ?_
    refine cs_ret' ?_
    refine qr_then ?_
    obtain rfl := Option.some.inj H
    refine qr_res (rs := [_]) rfl (fun w' hs => ⟨[.int .i64 (0 : Int)], (res_tmp (by kernel_rfl) (.nil)), (A0_4, c0_4), rfl, hs.pick (ts := [0, 1, 2]) (cs := [Ck.var 66 pg0 ((([Value.int .i64 v0.1.1] ++ [Value.int .i64 v0.1.2]) ++ ([Value.bool v0.2.1] ++ ([Value.int .i64 v0.2.2.1] ++ ([Value.slice A0_3 v0.2.2.2.1.length c0_3] ++ ([Value.map (some r0_4)] ++ [Value.slice A0_5 v0.2.2.2.2.2.length c0_5])))))), Ck.m1 r0_4 w0_4.1 A0_4 w0_4.2.length c0_4, Ck.sl T24 A0_4 c0_4 w0_4.2]) ⟨by exact rfl, by exact rfl, by exact rfl, trivial⟩ (by decide)⟩)
  replace H := ite_f q4 H
  refine cs_know (c := false) (Bool.eq_false_iff.mpr q4) 4 (by kernel_rfl) ?_
  refine cs_false (by kernel_rfl) ?_
  refine cs_skip' ?_
  refine qn_then ?_
  refine cs_seq ?_
  obtain ⟨t5, hc6, H⟩ := bind_some H
  obtain ⟨y8, hy9, H⟩ := lt_some H
  obtain ⟨t10, hc11, H⟩ := bind_some H
  refine cs_sub (sput (sput (sput s0 0 (some (Ck.var 66 pg0 ((([Value.int .i64 v0.1.1] ++ [Value.int .i64 v0.1.2]) ++ ([Value.bool v0.2.1] ++ ([Value.int .i64 v0.2.2.1] ++ ([Value.slice A0_3 v0.2.2.2.1.length c0_3] ++ ([Value.map (some r0_4)] ++ [Value.slice A0_5 v0.2.2.2.2.2.length c0_5]))))))))) 1 (some (Ck.m1 r0_4 w0_4.1 A0_4 w0_4.2.length c0_4))) 2 (some (Ck.sl T24 A0_4 c0_4 w0_4.2))) (sub_put (by exact rfl) (sub_put (by exact rfl) (sub_put (by exact rfl) (sub_nil _)))) ?_
  refine cs_chain (l := [_, _, _, _, _, _, _, _, _, _, _, _, _, _, _, _, _, _]) [[], [0], [0, 1], [0, 1, 2], [0, 1, 2, 3], [], [5], [5, 6], [5, 6, 7], [5, 6, 7, 8], [0, 1, 2, 3, 4, 5, 6, 7, 8, 9], [], [11], [0, 1, 2, 3, 4, 5, 6, 7, 8, 9, 10, 11, 12], [], [11, 12, 14], [0, 1, 2, 3, 4, 5, 6, 7, 8, 9, 10, 11, 12, 13, 14, 15], [0, 1, 2, 3, 4, 5, 6, 7, 8, 9, 10, 11, 12, 13, 14, 15, 16]] 16 (fun u => [0].contains u) (efl [false, false, false, false, false, false, false, false, false, false, false, false, true, false, false, true]) (pvl [.val (.pointer (some ⟨pg0, 0, none⟩)), .val (.pointer (some ⟨pg0, 0, none⟩)), .val (.pointer (some ⟨pg0, (0 + 0), none⟩)), .val (.pointer (some ⟨pg0, ((0 + 0) + 1), none⟩)), .val (.int .i64 v0.1.2), .val (.pointer (some ⟨pg0, 0, none⟩)), .val (.pointer (some ⟨pg0, 0, none⟩)), .val (.pointer (some ⟨pg0, (0 + 0), none⟩)), .val (.pointer (some ⟨pg0, ((0 + 0) + 0), none⟩)), .val (.int .i64 v0.1.1), .val (.int .i64 (IntKind.wrap .i64 (v0.1.2 - v0.1.1))), .val (.pointer (some ⟨pg0, 0, none⟩)), .val (.int .i64 t5), .val (.int .i64 y8), .val (.pointer (some ⟨pg0, 0, none⟩)), .val (.int .i64 t10.1)]) (Esl [fun (es : Nat → Value) (S' : Sto) => S' = sput (sput (sput s0 0 (some (Ck.var 66 pg0 ((([Value.int .i64 v0.1.1] ++ [Value.int .i64 v0.1.2]) ++ ([Value.bool v0.2.1] ++ ([Value.int .i64 v0.2.2.1] ++ ([Value.slice A0_3 v0.2.2.2.1.length c0_3] ++ ([Value.map (some r0_4)] ++ [Value.slice A0_5 v0.2.2.2.2.2.length c0_5]))))))))) 1 (some (Ck.m1 r0_4 w0_4.1 A0_4 w0_4.2.length c0_4))) 2 (some (Ck.sl T24 A0_4 c0_4 w0_4.2)), fun (es : Nat → Value) (S' : Sto) => ∃ (x7 : Unit), es 12 = .int .i64 t5 ∧ S' = sput (sput (sput s0 0 (some (Ck.var 66 pg0 ((([Value.int .i64 v0.1.1] ++ [Value.int .i64 v0.1.2]) ++ ([Value.bool v0.2.1] ++ ([Value.int .i64 v0.2.2.1] ++ ([Value.slice A0_3 v0.2.2.2.1.length c0_3] ++ ([Value.map (some r0_4)] ++ [Value.slice A0_5 v0.2.2.2.2.2.length c0_5]))))))))) 1 (some (Ck.m1 r0_4 w0_4.1 A0_4 w0_4.2.length c0_4))) 2 (some (Ck.sl T24 A0_4 c0_4 w0_4.2)), fun (es : Nat → Value) (S' : Sto) => ∃ (x7 : Unit) (x12 : (Option Addr × Nat)), es 12 = .int .i64 t5 ∧ es 15 = .int .i64 t10.1 ∧ S' = sput (sput (sput s0 0 (some (Ck.var 66 pg0 ((([Value.int .i64 v0.1.1] ++ [Value.int .i64 v0.1.2]) ++ ([Value.bool v0.2.1] ++ ([Value.int .i64 v0.2.2.1] ++ ([Value.slice A0_3 v0.2.2.2.1.length c0_3] ++ ([Value.map (some r0_4)] ++ [Value.slice A0_5 v0.2.2.2.2.2.length c0_5]))))))))) 1 (some (Ck.m1 r0_4 t10.2.1 x12.1 t10.2.2.length x12.2))) 2 (some (Ck.sl T24 x12.1 x12.2 t10.2.2))] [0, 0, 0, 0, 0, 0, 0, 0, 0, 0, 0, 0, 0, 0, 0, 1, 2]) (nxl [0, 0, 0, 0, 0, 0, 0, 0, 0, 0, 0, 0, 15, 0, 0, 16]) (onl [true, true, true, true, true, true, true, true, true, true, true, true, true, true, true, true]) 12 (by kernel_rfl) (by kernel_rfl) (by kernel_rfl) (by kernel_rfl) (by kernel_rfl) (rs := [_, _]) rfl (by kernel_rfl) (by kernel_rfl) (fun es => ?_) ?_ ?_
  · exact (rfl : sput (sput (sput s0 0 (some (Ck.var 66 pg0 ((([Value.int .i64 v0.1.1] ++ [Value.int .i64 v0.1.2]) ++ ([Value.bool v0.2.1] ++ ([Value.int .i64 v0.2.2.1] ++ ([Value.slice A0_3 v0.2.2.2.1.length c0_3] ++ ([Value.map (some r0_4)] ++ [Value.slice A0_5 v0.2.2.2.2.2.length c0_5]))))))))) 1 (some (Ck.m1 r0_4 w0_4.1 A0_4 w0_4.2.length c0_4))) 2 (some (Ck.sl T24 A0_4 c0_4 w0_4.2)) = sput (sput (sput s0 0 (some (Ck.var 66 pg0 ((([Value.int .i64 v0.1.1] ++ [Value.int .i64 v0.1.2]) ++ ([Value.bool v0.2.1] ++ ([Value.int .i64 v0.2.2.1] ++ ([Value.slice A0_3 v0.2.2.2.1.length c0_3] ++ ([Value.map (some r0_4)] ++ [Value.slice A0_5 v0.2.2.2.2.2.length c0_5]))))))))) 1 (some (Ck.m1 r0_4 w0_4.1 A0_4 w0_4.2.length c0_4))) 2 (some (Ck.sl T24 A0_4 c0_4 w0_4.2)))
  · refine all_snoc (all_snoc (all_snoc (all_snoc (all_snoc (all_snoc (all_snoc (all_snoc (all_snoc (all_snoc (all_snoc (all_snoc (all_snoc (all_snoc (all_snoc (all_snoc (all_nil) ?_) ?_) ?_) ?_) ?_) ?_) ?_) ?_) ?_) ?_) ?_) ?_) ?_) ?_) ?_) ?_
    · refine ⟨fun o ho es vs f' S' hve hvp hf hx hK hE => ?_⟩
      obtain rfl := Option.some.inj ho
      refine ⟨want_none rfl, fun _ _ => ?_, (fun _ h => by cases h), (fun h _ => by cases h), (fun h _ => by cases h)⟩
      have hF := fr_next (rfl) ((hx 0 (by kernel_rfl)).trans (by kernel_rfl : (_ : Value) = .pointer (some ⟨pg0, 0, none⟩)))
      refine ls_fr hF ?_
      refine lv (.pointer (some ⟨pg0, 0, none⟩)) ?_
      exact ls_finp (.pointer (some ⟨pg0, 0, none⟩)) (congrArg (fun z => upd z 5 _) hF.symm) rfl
    · refine ⟨fun o ho es vs f' S' hve hvp hf hx hK hE => ?_⟩
      obtain rfl := Option.some.inj ho
      refine ⟨want_none rfl, fun _ _ => ?_, (fun _ h => by cases h), (fun h _ => by cases h), (fun h _ => by cases h)⟩
      have hF := fr_next (rfl) ((hf 0 5 (by kernel_rfl) rfl).trans (show vs 0 = .pointer (some ⟨pg0, 0, none⟩) from hvp 0 (by kernel_rfl)))
      refine ls_fr hF ?_
      refine lv (.pointer (some ⟨pg0, 0, none⟩)) ?_
      exact ls_finp (.pointer (some ⟨pg0, 0, none⟩)) (congrArg (fun z => upd z 6 _) hF.symm) rfl
    · refine ⟨fun o ho es vs f' S' hve hvp hf hx hK hE => ?_⟩
      obtain rfl := Option.some.inj ho
      refine ⟨want_none rfl, fun _ _ => ?_, (fun _ h => by cases h), (fun h _ => by cases h), (fun h _ => by cases h)⟩
      have hF := fr_next (rfl) ((hf 1 6 (by kernel_rfl) rfl).trans (show vs 1 = .pointer (some ⟨pg0, 0, none⟩) from hvp 1 (by kernel_rfl)))
      refine ls_fr hF ?_
      refine lv (.pointer (some ⟨pg0, (0 + 0), none⟩)) ?_
      exact ls_finp (.pointer (some ⟨pg0, (0 + 0), none⟩)) (congrArg (fun z => upd z 7 _) hF.symm) rfl
    · refine ⟨fun o ho es vs f' S' hve hvp hf hx hK hE => ?_⟩
      obtain rfl := Option.some.inj ho
      refine ⟨want_none rfl, fun _ _ => ?_, (fun _ h => by cases h), (fun h _ => by cases h), (fun h _ => by cases h)⟩
      have hF := fr_next (rfl) ((hf 2 7 (by kernel_rfl) rfl).trans (show vs 2 = .pointer (some ⟨pg0, (0 + 0), none⟩) from hvp 2 (by kernel_rfl)))
      refine ls_fr hF ?_
      refine lv (.pointer (some ⟨pg0, ((0 + 0) + 1), none⟩)) ?_
      exact ls_finp (.pointer (some ⟨pg0, ((0 + 0) + 1), none⟩)) (congrArg (fun z => upd z 8 _) hF.symm) rfl
    · refine ⟨fun o ho es vs f' S' hve hvp hf hx hK hE => ?_⟩
      obtain rfl := Option.some.inj ho
      refine ⟨want_none rfl, fun _ _ => ?_, (fun _ h => by cases h), (fun h _ => by cases h), (fun h _ => by cases h)⟩
      have hF := fr_next (rfl) ((hf 3 8 (by kernel_rfl) rfl).trans (show vs 3 = .pointer (some ⟨pg0, ((0 + 0) + 1), none⟩) from hvp 3 (by kernel_rfl)))
      refine ls_fr hF ?_
      refine ls_load (a0 := ⟨pg0, ((0 + 0) + 1), none⟩) (v := .int .i64 v0.1.2) (de := (TypeDesc.int .i64)) rfl rfl (by kernel_rfl) rfl (by kernel_rfl) (by kernel_rfl) (by kernel_rfl) (fun w hs => (hs.var (k := 0) ((hK 0 (by rfl)).trans (by exact rfl)) (Sub4.trans (Sub4.trans (Sub4.all _) (Sub4.head _ _)) (Sub4.skip (n := 1) (len1 _) (Sub4.all _))))) ?_
      exact ls_finp (.int .i64 v0.1.2) (congrArg (fun z => upd z 9 _) hF.symm) rfl
    · refine ⟨fun o ho es vs f' S' hve hvp hf hx hK hE => ?_⟩
      obtain rfl := Option.some.inj ho
      refine ⟨want_none rfl, fun _ _ => ?_, (fun _ h => by cases h), (fun h _ => by cases h), (fun h _ => by cases h)⟩
      have hF := fr_next (rfl) ((hx 0 (by kernel_rfl)).trans (by kernel_rfl : (_ : Value) = .pointer (some ⟨pg0, 0, none⟩)))
      refine ls_fr hF ?_
      refine lv (.pointer (some ⟨pg0, 0, none⟩)) ?_
      exact ls_finp (.pointer (some ⟨pg0, 0, none⟩)) (congrArg (fun z => upd z 10 _) hF.symm) rfl
    · refine ⟨fun o ho es vs f' S' hve hvp hf hx hK hE => ?_⟩
      obtain rfl := Option.some.inj ho
      refine ⟨want_none rfl, fun _ _ => ?_, (fun _ h => by cases h), (fun h _ => by cases h), (fun h _ => by cases h)⟩
      have hF := fr_next (rfl) ((hf 5 10 (by kernel_rfl) rfl).trans (show vs 5 = .pointer (some ⟨pg0, 0, none⟩) from hvp 5 (by kernel_rfl)))
      refine ls_fr hF ?_
      refine lv (.pointer (some ⟨pg0, 0, none⟩)) ?_
      exact ls_finp (.pointer (some ⟨pg0, 0, none⟩)) (congrArg (fun z => upd z 11 _) hF.symm) rfl
    · refine ⟨fun o ho es vs f' S' hve hvp hf hx hK hE => ?_⟩
      obtain rfl := Option.some.inj ho
      refine ⟨want_none rfl, fun _ _ => ?_, (fun _ h => by cases h), (fun h _ => by cases h), (fun h _ => by cases h)⟩
      have hF := fr_next (rfl) ((hf 6 11 (by kernel_rfl) rfl).trans (show vs 6 = .pointer (some ⟨pg0, 0, none⟩) from hvp 6 (by kernel_rfl)))
      refine ls_fr hF ?_
      refine lv (.pointer (some ⟨pg0, (0 + 0), none⟩)) ?_
      exact ls_finp (.pointer (some ⟨pg0, (0 + 0), none⟩)) (congrArg (fun z => upd z 12 _) hF.symm) rfl
    · refine ⟨fun o ho es vs f' S' hve hvp hf hx hK hE => ?_⟩
      obtain rfl := Option.some.inj ho
      refine ⟨want_none rfl, fun _ _ => ?_, (fun _ h => by cases h), (fun h _ => by cases h), (fun h _ => by cases h)⟩
      have hF := fr_next (rfl) ((hf 7 12 (by kernel_rfl) rfl).trans (show vs 7 = .pointer (some ⟨pg0, (0 + 0), none⟩) from hvp 7 (by kernel_rfl)))
      refine ls_fr hF ?_
      refine lv (.pointer (some ⟨pg0, ((0 + 0) + 0), none⟩)) ?_
      exact ls_finp (.pointer (some ⟨pg0, ((0 + 0) + 0), none⟩)) (congrArg (fun z => upd z 13 _) hF.symm) rfl
    · refine ⟨fun o ho es vs f' S' hve hvp hf hx hK hE => ?_⟩
      obtain rfl := Option.some.inj ho
      refine ⟨want_none rfl, fun _ _ => ?_, (fun _ h => by cases h), (fun h _ => by cases h), (fun h _ => by cases h)⟩
      have hF := fr_next (rfl) ((hf 8 13 (by kernel_rfl) rfl).trans (show vs 8 = .pointer (some ⟨pg0, ((0 + 0) + 0), none⟩) from hvp 8 (by kernel_rfl)))
      refine ls_fr hF ?_
      refine ls_load (a0 := ⟨pg0, ((0 + 0) + 0), none⟩) (v := .int .i64 v0.1.1) (de := (TypeDesc.int .i64)) rfl rfl (by kernel_rfl) rfl (by kernel_rfl) (by kernel_rfl) (by kernel_rfl) (fun w hs => (hs.var (k := 0) ((hK 0 (by rfl)).trans (by exact rfl)) (Sub4.trans (Sub4.trans (Sub4.all _) (Sub4.head _ _)) (Sub4.head _ _)))) ?_
      exact ls_finp (.int .i64 v0.1.1) (congrArg (fun z => upd z 14 _) hF.symm) rfl
    · refine ⟨fun o ho es vs f' S' hve hvp hf hx hK hE => ?_⟩
      obtain rfl := Option.some.inj ho
      refine ⟨want_none rfl, fun _ _ => ?_, (fun _ h => by cases h), (fun h _ => by cases h), (fun h _ => by cases h)⟩
      have hF := fr_next (fr_next (rfl) ((hf 4 9 (by kernel_rfl) rfl).trans (show vs 4 = .int .i64 v0.1.2 from hvp 4 (by kernel_rfl)))) ((hf 9 14 (by kernel_rfl) rfl).trans (show vs 9 = .int .i64 v0.1.1 from hvp 9 (by kernel_rfl)))
      refine ls_fr hF ?_
      refine lv (.int .i64 (IntKind.wrap .i64 (v0.1.2 - v0.1.1))) ?_
      exact ls_finp (.int .i64 (IntKind.wrap .i64 (v0.1.2 - v0.1.1))) (congrArg (fun z => upd z 15 _) hF.symm) rfl
    · refine ⟨fun o ho es vs f' S' hve hvp hf hx hK hE => ?_⟩
      obtain rfl := Option.some.inj ho
      refine ⟨want_none rfl, fun _ _ => ?_, (fun _ h => by cases h), (fun h _ => by cases h), (fun h _ => by cases h)⟩
      have hF := fr_next (rfl) ((hx 0 (by kernel_rfl)).trans (by kernel_rfl : (_ : Value) = .pointer (some ⟨pg0, 0, none⟩)))
      refine ls_fr hF ?_
      refine lv (.pointer (some ⟨pg0, 0, none⟩)) ?_
      exact ls_finp (.pointer (some ⟨pg0, 0, none⟩)) (congrArg (fun z => upd z 16 _) hF.symm) rfl
    · refine ⟨fun o ho es vs f' S' hve hvp hf hx hK hE => ?_⟩
      obtain rfl := Option.some.inj ho
      obtain rfl := hE rfl
      refine ⟨want_none rfl, (fun h _ => by cases h), (fun h _ => by cases h), fun _ _ => ?_, (fun _ h => by cases h)⟩
      have hF := fr_next (rfl) ((hf 11 16 (by kernel_rfl) rfl).trans (show vs 11 = .pointer (some ⟨pg0, 0, none⟩) from hvp 11 (by kernel_rfl)))
      refine ls_fr hF ?_
      refine ls_callb (fid := 32) (vals := #[.pointer (some ⟨pg0, 0, none⟩)]) (X := Unit) (fun x => .int .i64 t5) (fun x => stl [Ck.var 66 pg0 ((([Value.int .i64 v0.1.1] ++ [Value.int .i64 v0.1.2]) ++ ([Value.bool v0.2.1] ++ ([Value.int .i64 v0.2.2.1] ++ ([Value.slice A0_3 v0.2.2.2.1.length c0_3] ++ ([Value.map (some r0_4)] ++ [Value.slice A0_5 v0.2.2.2.2.2.length c0_5])))))), Ck.m1 r0_4 w0_4.1 A0_4 w0_4.2.length c0_4, Ck.sl T24 A0_4 c0_4 w0_4.2]) [0, 1, 2] [] [Ck.var 66 pg0 ((([Value.int .i64 v0.1.1] ++ [Value.int .i64 v0.1.2]) ++ ([Value.bool v0.2.1] ++ ([Value.int .i64 v0.2.2.1] ++ ([Value.slice A0_3 v0.2.2.2.1.length c0_3] ++ ([Value.map (some r0_4)] ++ [Value.slice A0_5 v0.2.2.2.2.2.length c0_5])))))), Ck.m1 r0_4 w0_4.1 A0_4 w0_4.2.length c0_4, Ck.sl T24 A0_4 c0_4 w0_4.2] [] 3 rfl rfl (by kernel_rfl) (fun w => by kernel_rfl) ⟨by exact rfl, by exact rfl, by exact rfl, trivial⟩ trivial (by decide) (fun w hs hb => alloc_Alloc_Free.calls k pg0 A0_3 c0_3 r0_4 A0_5 c0_5 (v0.1, v0.2.1, v0.2.2.1, v0.2.2.2.1, (), v0.2.2.2.2.2) A0_4 c0_4 (w0_4.1, w0_4.2) t5 (lent b w [Ck.var 66 pg0 ((([Value.int .i64 v0.1.1] ++ [Value.int .i64 v0.1.2]) ++ ([Value.bool v0.2.1] ++ ([Value.int .i64 v0.2.2.1] ++ ([Value.slice A0_3 v0.2.2.2.1.length c0_3] ++ ([Value.map (some r0_4)] ++ [Value.slice A0_5 v0.2.2.2.2.2.length c0_5])))))), Ck.m1 r0_4 w0_4.1 A0_4 w0_4.2.length c0_4, Ck.sl T24 A0_4 c0_4 w0_4.2] []) hb (hs.ro R0_3 _ _) C0_3 (hs.ro R0_5 _ _) C0_5 hc6) ?_
      intro x7
      exact ls_fine (sput (sput (sput s0 0 (some (Ck.var 66 pg0 ((([Value.int .i64 v0.1.1] ++ [Value.int .i64 v0.1.2]) ++ ([Value.bool v0.2.1] ++ ([Value.int .i64 v0.2.2.1] ++ ([Value.slice A0_3 v0.2.2.2.1.length c0_3] ++ ([Value.map (some r0_4)] ++ [Value.slice A0_5 v0.2.2.2.2.2.length c0_5]))))))))) 1 (some (Ck.m1 r0_4 w0_4.1 A0_4 w0_4.2.length c0_4))) 2 (some (Ck.sl T24 A0_4 c0_4 w0_4.2))) (.int .i64 t5) (congrArg (fun z => upd z 17 _) hF.symm) (show (fun (es : Nat → Value) (S' : Sto) => ∃ (x7 : Unit), es 12 = .int .i64 t5 ∧ S' = sput (sput (sput s0 0 (some (Ck.var 66 pg0 ((([Value.int .i64 v0.1.1] ++ [Value.int .i64 v0.1.2]) ++ ([Value.bool v0.2.1] ++ ([Value.int .i64 v0.2.2.1] ++ ([Value.slice A0_3 v0.2.2.2.1.length c0_3] ++ ([Value.map (some r0_4)] ++ [Value.slice A0_5 v0.2.2.2.2.2.length c0_5]))))))))) 1 (some (Ck.m1 r0_4 w0_4.1 A0_4 w0_4.2.length c0_4))) 2 (some (Ck.sl T24 A0_4 c0_4 w0_4.2))) (upv es 12 (.int .i64 t5)) (sput (sput (sput s0 0 (some (Ck.var 66 pg0 ((([Value.int .i64 v0.1.1] ++ [Value.int .i64 v0.1.2]) ++ ([Value.bool v0.2.1] ++ ([Value.int .i64 v0.2.2.1] ++ ([Value.slice A0_3 v0.2.2.2.1.length c0_3] ++ ([Value.map (some r0_4)] ++ [Value.slice A0_5 v0.2.2.2.2.2.length c0_5]))))))))) 1 (some (Ck.m1 r0_4 w0_4.1 A0_4 w0_4.2.length c0_4))) 2 (some (Ck.sl T24 A0_4 c0_4 w0_4.2))) from ⟨x7, rfl, rfl⟩) rfl (keep_cons (by exact rfl) (keep_nil)) (sub_put (by exact rfl) (sub_put (by exact rfl) (sub_put (by exact rfl) (sub_nil _))))
    · refine ⟨fun o ho es vs f' S' hve hvp hf hx hK hE => ?_⟩
      obtain rfl := Option.some.inj ho
      refine ⟨want_none rfl, fun _ _ => ?_, (fun _ h => by cases h), (fun h _ => by cases h), (fun h _ => by cases h)⟩
      have hF := fr_next (fr_next (rfl) ((hf 10 15 (by kernel_rfl) rfl).trans (show vs 10 = .int .i64 (IntKind.wrap .i64 (v0.1.2 - v0.1.1)) from hvp 10 (by kernel_rfl)))) ((hf 12 17 (by kernel_rfl) rfl).trans (show vs 12 = .int .i64 t5 from hvp 12 (by kernel_rfl)))
      refine ls_fr hF ?_
      refine lv (.int .i64 (IntKind.wrap .i64 ((IntKind.wrap .i64 (v0.1.2 - v0.1.1)) - t5))) ?_
      refine ls_ren 18 (v := .int .i64 (IntKind.wrap .i64 ((IntKind.wrap .i64 (v0.1.2 - v0.1.1)) - t5))) (v' := .int .i64 y8) (by kernel_rfl) (by rw [hy9]) ?_
      exact ls_finp (.int .i64 y8) ((upd_upd _ _ _ _).trans (congrArg (fun z => upd z 18 _) hF.symm)) rfl
    · refine ⟨fun o ho es vs f' S' hve hvp hf hx hK hE => ?_⟩
      obtain rfl := Option.some.inj ho
      refine ⟨want_none rfl, fun _ _ => ?_, (fun _ h => by cases h), (fun h _ => by cases h), (fun h _ => by cases h)⟩
      have hF := fr_next (rfl) ((hx 0 (by kernel_rfl)).trans (by kernel_rfl : (_ : Value) = .pointer (some ⟨pg0, 0, none⟩)))
      refine ls_fr hF ?_
      refine lv (.pointer (some ⟨pg0, 0, none⟩)) ?_
      exact ls_finp (.pointer (some ⟨pg0, 0, none⟩)) (congrArg (fun z => upd z 19 _) hF.symm) rfl
    refine ⟨fun o ho es vs f' S' hve hvp hf hx hK hE => ?_⟩
    obtain rfl := Option.some.inj ho
    obtain ⟨x7, hv12, rfl⟩ := hE rfl
    refine ⟨want_none rfl, (fun h _ => by cases h), (fun h _ => by cases h), fun _ _ => ?_, (fun _ h => by cases h)⟩
    have hF := fr_next (rfl) ((hf 14 19 (by kernel_rfl) rfl).trans (show vs 14 = .pointer (some ⟨pg0, 0, none⟩) from hvp 14 (by kernel_rfl)))
    refine ls_fr hF ?_
    refine ls_callb (fid := 33) (vals := #[.pointer (some ⟨pg0, 0, none⟩)]) (X := (Option Addr × Nat)) (fun x => .int .i64 t10.1) (fun x => stl [Ck.var 66 pg0 ((([Value.int .i64 v0.1.1] ++ [Value.int .i64 v0.1.2]) ++ ([Value.bool v0.2.1] ++ ([Value.int .i64 v0.2.2.1] ++ ([Value.slice A0_3 v0.2.2.2.1.length c0_3] ++ ([Value.map (some r0_4)] ++ [Value.slice A0_5 v0.2.2.2.2.2.length c0_5])))))), Ck.m1 r0_4 t10.2.1 x.1 t10.2.2.length x.2, Ck.sl T24 x.1 x.2 t10.2.2]) [0, 1, 2] [] [Ck.var 66 pg0 ((([Value.int .i64 v0.1.1] ++ [Value.int .i64 v0.1.2]) ++ ([Value.bool v0.2.1] ++ ([Value.int .i64 v0.2.2.1] ++ ([Value.slice A0_3 v0.2.2.2.1.length c0_3] ++ ([Value.map (some r0_4)] ++ [Value.slice A0_5 v0.2.2.2.2.2.length c0_5])))))), Ck.m1 r0_4 w0_4.1 A0_4 w0_4.2.length c0_4, Ck.sl T24 A0_4 c0_4 w0_4.2] [] 3 rfl rfl (by kernel_rfl) (fun w => by kernel_rfl) ⟨by exact rfl, by exact rfl, by exact rfl, trivial⟩ trivial (by decide) (fun w hs hb => alloc_Alloc_Waiting.calls k pg0 A0_3 c0_3 r0_4 A0_5 c0_5 (v0.1, v0.2.1, v0.2.2.1, v0.2.2.2.1, (), v0.2.2.2.2.2) A0_4 c0_4 (w0_4.1, w0_4.2) t10 (lent b w [Ck.var 66 pg0 ((([Value.int .i64 v0.1.1] ++ [Value.int .i64 v0.1.2]) ++ ([Value.bool v0.2.1] ++ ([Value.int .i64 v0.2.2.1] ++ ([Value.slice A0_3 v0.2.2.2.1.length c0_3] ++ ([Value.map (some r0_4)] ++ [Value.slice A0_5 v0.2.2.2.2.2.length c0_5])))))), Ck.m1 r0_4 w0_4.1 A0_4 w0_4.2.length c0_4, Ck.sl T24 A0_4 c0_4 w0_4.2] []) hb (hs.ro R0_3 _ _) C0_3 (hs.ro R0_5 _ _) C0_5 hc11) ?_
    intro x12
    exact ls_fine (sput (sput (sput s0 0 (some (Ck.var 66 pg0 ((([Value.int .i64 v0.1.1] ++ [Value.int .i64 v0.1.2]) ++ ([Value.bool v0.2.1] ++ ([Value.int .i64 v0.2.2.1] ++ ([Value.slice A0_3 v0.2.2.2.1.length c0_3] ++ ([Value.map (some r0_4)] ++ [Value.slice A0_5 v0.2.2.2.2.2.length c0_5]))))))))) 1 (some (Ck.m1 r0_4 t10.2.1 x12.1 t10.2.2.length x12.2))) 2 (some (Ck.sl T24 x12.1 x12.2 t10.2.2))) (.int .i64 t10.1) (congrArg (fun z => upd z 20 _) hF.symm) (show (fun (es : Nat → Value) (S' : Sto) => ∃ (x7 : Unit) (x12 : (Option Addr × Nat)), es 12 = .int .i64 t5 ∧ es 15 = .int .i64 t10.1 ∧ S' = sput (sput (sput s0 0 (some (Ck.var 66 pg0 ((([Value.int .i64 v0.1.1] ++ [Value.int .i64 v0.1.2]) ++ ([Value.bool v0.2.1] ++ ([Value.int .i64 v0.2.2.1] ++ ([Value.slice A0_3 v0.2.2.2.1.length c0_3] ++ ([Value.map (some r0_4)] ++ [Value.slice A0_5 v0.2.2.2.2.2.length c0_5]))))))))) 1 (some (Ck.m1 r0_4 t10.2.1 x12.1 t10.2.2.length x12.2))) 2 (some (Ck.sl T24 x12.1 x12.2 t10.2.2))) (upv es 15 (.int .i64 t10.1)) (sput (sput (sput s0 0 (some (Ck.var 66 pg0 ((([Value.int .i64 v0.1.1] ++ [Value.int .i64 v0.1.2]) ++ ([Value.bool v0.2.1] ++ ([Value.int .i64 v0.2.2.1] ++ ([Value.slice A0_3 v0.2.2.2.1.length c0_3] ++ ([Value.map (some r0_4)] ++ [Value.slice A0_5 v0.2.2.2.2.2.length c0_5]))))))))) 1 (some (Ck.m1 r0_4 t10.2.1 x12.1 t10.2.2.length x12.2))) 2 (some (Ck.sl T24 x12.1 x12.2 t10.2.2))) from ⟨x7, x12, hv12, rfl, rfl⟩) rfl (keep_cons (by exact rfl) (keep_nil)) (sub_put (by exact rfl) (sub_put (by exact rfl) (sub_put (by exact rfl) (sub_nil _))))
  intro es vs f' S' hve hvp hf hx hK hE
  obtain ⟨x7, x12, hv12, hv15, rfl⟩ := hE
  refine ls_fr (F := upd (upd f' 18 (.int .i64 y8)) 20 (.int .i64 t10.1)) (fr_next (fr_next (rfl) ((hf 13 18 (by kernel_rfl) rfl).trans (show vs 13 = .int .i64 y8 from hvp 13 (by kernel_rfl)))) ((hf 15 20 (by kernel_rfl) rfl).trans (show vs 15 = .int .i64 t10.1 from hvp 15 (by kernel_rfl)))) ?_
  refine ls_sub (sput (sput (sput s0 0 (some (Ck.var 66 pg0 ((([Value.int .i64 v0.1.1] ++ [Value.int .i64 v0.1.2]) ++ ([Value.bool v0.2.1] ++ ([Value.int .i64 v0.2.2.1] ++ ([Value.slice A0_3 v0.2.2.2.1.length c0_3] ++ ([Value.map (some r0_4)] ++ [Value.slice A0_5 v0.2.2.2.2.2.length c0_5]))))))))) 1 (some (Ck.m1 r0_4 t10.2.1 x12.1 t10.2.2.length x12.2))) 2 (some (Ck.sl T24 x12.1 x12.2 t10.2.2))) (sub_put (by exact rfl) (sub_put (by exact rfl) (sub_put (by exact rfl) (sub_nil _)))) ?_
  refine lv (.int .i64 (IntKind.wrap .i64 (y8 - t10.1))) ?_
  refine lv (.int .i64 (IntKind.wrap .i64 (y8 - t10.1))) ?_
  refine ls_end ?_
  refine qn_then ?_
  refine cs_ret' ?_
  obtain rfl := Option.some.inj H
  refine qr_res (rs := [_]) rfl (fun w' hs => ⟨[.int .i64 (IntKind.wrap .i64 (y8 - t10.1))], (res_tmp (by kernel_rfl) (.nil)), (x12.1, x12.2), rfl, hs.pick (ts := [0, 1, 2]) (cs := [Ck.var 66 pg0 ((([Value.int .i64 v0.1.1] ++ [Value.int .i64 v0.1.2]) ++ ([Value.bool v0.2.1] ++ ([Value.int .i64 v0.2.2.1] ++ ([Value.slice A0_3 v0.2.2.2.1.length c0_3] ++ ([Value.map (some r0_4)] ++ [Value.slice A0_5 v0.2.2.2.2.2.length c0_5])))))), Ck.m1 r0_4 t10.2.1 x12.1 t10.2.2.length x12.2, Ck.sl T24 x12.1 x12.2 t10.2.2]) ⟨by exact rfl, by exact rfl, by exact rfl, trivial⟩ (by decide)⟩)

/-! ### shadowbox/extent.Meets: function 11 -/
def extent_Meets.tab12 : List (List Nat) := [[], [], [1], [0, 1, 2], [0, 1, 2, 3], [0, 1, 2, 3, 4], [0, 1, 2, 3, 4], [0, 1, 2, 3, 4, 5, 6], [0, 1, 2, 3, 4, 5, 6, 7], [0, 1, 2, 3, 4, 5, 6, 7, 8], [0, 1, 2, 3, 4], [0, 1, 2, 3, 4, 10], [0, 1, 2, 3, 4, 5, 6, 7, 8, 9, 10, 11], [0, 1, 2, 3, 4, 5, 6, 7, 8, 9, 10, 11, 12], [0, 1, 2, 3, 4, 5, 6, 7, 8, 9, 10, 11, 12, 13]]
def extent_Meets.f (k : Nat) (l0 : List (Int × Int)) (a1 : (Int × Int)) : Option (Bool) :=
  (extent_Valid.f k l0).bind fun t2 => (if t2 = true then (extent_Span_right.f k a1).bind fun t6 => (if t6 = true then (extent_first.f k l0 (IntKind.wrap .i64 (a1.1 + (1 : Int)))).bind fun t10 => (if t10 < (l0.length : Int) then (if 0 ≤ t10 then lt (((l0).getD (t10).toNat ((0 : Int), (0 : Int))).1) fun y19 => some (decide (y19 < a1.2)) else none) else some false) else some false) else some false)
set_option maxRecDepth 100000 in
set_option maxHeartbeats 4000000 in
theorem extent_Meets.calls (k : Nat) (A0 : Option Addr) (c0 : Nat) (l0 : List (Int × Int)) (a1 : (Int × Int)) (r : Bool) (b : Bs) (hs0 : St b (stl []) b.w) (R0 : Ro b A0 (em T24 l0)) (C0 : l0.length ≤ c0) (H : extent_Meets.f k l0 a1 = some r) :
    Calls Try.prog 11 #[.slice A0 l0.length c0, .agg ⟨([Value.int .i64 a1.1] ++ [Value.int .i64 a1.2])⟩] b.w fun e w' => ∃ x : Unit, e = .returned (.bool r) ∧ St b (stl []) w' := by
  unfold extent_Meets.f at H
  refine enterb (n := 33) Try.func11 rfl (by kernel_rfl) (by kernel_rfl) hs0 ?_
  refine cs_sub (s0) (sub_nil _) ?_
  refine cs_seq ?_
  refine cs_region (l := [_, _]) ?_
  refine ls_new rfl rfl (by kernel_rfl) 0 (fun g => .pointer (some ⟨g, 0, none⟩)) (.cells ⟨([Value.int .i64 a1.1] ++ [Value.int .i64 a1.2])⟩ 24) (fun w => by kernel_rfl) ?_
  intro g1
  refine lv (.bool false) ?_
  refine ls_end ?_
  refine qn_then ?_
  refine cs_seq ?_
  refine cs_seq ?_
  refine cs_region (l := [_, _, _, _, _, _, _, _]) ?_
  refine lv (.slice A0 l0.length c0) ?_
  obtain ⟨t2, hc3, H⟩ := bind_some H
  refine ls_callb (fid := 10) (vals := #[.slice A0 l0.length c0]) (X := Unit) (fun x => .bool t2) (fun x => stl []) [] [] [] [] 1 rfl rfl (by kernel_rfl) (fun w => by kernel_rfl) trivial trivial (by decide) (fun w hs hb => extent_Valid.calls k A0 c0 l0 t2 (lent b w [] []) hb (hs.ro R0 _ _) C0 hc3) ?_
  intro x4
  refine lv (.bool (!t2)) ?_
  refine lv (.bool (!t2)) ?_
  by_cases q5 : t2 = true
  · replace H := ite_t q5 H
    refine ls_know (c := false) (congrArg Bool.not (q5)) 9 (by kernel_rfl) ?_
    refine ls_on (j := 3) (t := 9) (b := false) rfl rfl (by kernel_rfl) (by kernel_rfl) ?_
    refine ls_loadagg (a := ⟨g1, 0, none⟩) (sub := ([Value.int .i64 a1.1] ++ [Value.int .i64 a1.2])) rfl rfl (by kernel_rfl) rfl (by kernel_rfl) (by kernel_rfl) (by kernel_rfl) (len_app (len1 _) (len1 _)) (fun w hs => (hs.vars (k := 0) (by exact rfl) (Sub4.all _))) ?_
    refine ls_on (j := 3) (t := 9) (b := false) rfl rfl (by kernel_rfl) (by kernel_rfl) ?_
    obtain ⟨t6, hc7, H⟩ := bind_some H
    refine ls_callb (fid := 41) (vals := #[.agg ⟨([Value.int .i64 a1.1] ++ [Value.int .i64 a1.2])⟩]) (X := Unit) (fun x => .bool t6) (fun x => stl []) [] [] [] [] 1 rfl rfl (by kernel_rfl) (fun w => by kernel_rfl) trivial trivial (by decide) (fun w hs hb => extent_Span_right.calls k a1 t6 (lent b w [] []) hb  hc7) ?_
    intro x8
    refine ls_on (j := 3) (t := 9) (b := false) rfl rfl (by kernel_rfl) (by kernel_rfl) ?_
    refine lv (.bool (!t6)) ?_
    refine lv (.bool (!t6)) ?_
    refine ls_end ?_
    refine qn_then ?_
    by_cases q9 : t6 = true
    · replace H := ite_t q9 H
      refine cs_know (c := false) (congrArg Bool.not (q9)) 13 (by kernel_rfl) ?_
      refine cs_false (by kernel_rfl) ?_
      refine cs_skip' ?_
      refine qn_then ?_
      refine cs_seq ?_
      refine cs_region (l := [_, _, _, _, _, _]) ?_
      refine lv (.slice A0 l0.length c0) ?_
      refine lv (.pointer (some ⟨g1, (0 + 0), none⟩)) ?_
      refine ls_load (a0 := ⟨g1, (0 + 0), none⟩) (v := .int .i64 a1.1) (de := (TypeDesc.int .i64)) rfl rfl (by kernel_rfl) rfl (by kernel_rfl) (by kernel_rfl) (by kernel_rfl) (fun w hs => (hs.var (k := 0) (by exact rfl) (Sub4.trans (Sub4.all _) (Sub4.head _ _)))) ?_
      refine lv (.int .i64 (IntKind.wrap .i64 (a1.1 + (1 : Int)))) ?_
      obtain ⟨t10, hc11, H⟩ := bind_some H
      refine ls_callb (fid := 42) (vals := #[.slice A0 l0.length c0, .int .i64 (IntKind.wrap .i64 (a1.1 + (1 : Int)))]) (X := Unit) (fun x => .int .i64 t10) (fun x => stl []) [] [] [] [] 1 rfl rfl (by kernel_rfl) (fun w => by kernel_rfl) trivial trivial (by decide) (fun w hs hb => extent_first.calls k A0 c0 l0 (IntKind.wrap .i64 (a1.1 + (1 : Int))) t10 (lent b w [] []) hb (hs.ro R0 _ _) C0 hc11) ?_
      intro x12
      refine lv (.int .i64 t10) ?_
      refine ls_end ?_
      refine qn_then ?_
      refine cs_seq ?_
      obtain ⟨s14_0, hs14_0⟩ := exv (.int .i64 t10)
      refine have_opa extent_Meets.tab12 1 0 (fun sp => sp 0 = s14_0) (fun sp on hA hon => ?_) (fun ops14_0 => ?_)
      · refine ⟨fun o ho vs Rs f' S' w hp hf hx hS hR hs => ?_⟩
        obtain rfl := Option.some.inj ho
        exact opv (.int .i64 t10) hA hs14_0 hon (fr_next (rfl) ((hx 5 (by kernel_rfl)).trans (by kernel_rfl : (_ : Value) = .int .i64 t10)))
      obtain ⟨s14_1, hs14_1⟩ := exv (.slice A0 l0.length c0)
      refine have_opa extent_Meets.tab12 1 1 (fun sp => sp 1 = s14_1) (fun sp on hA hon => ?_) (fun ops14_1 => ?_)
      · refine ⟨fun o ho vs Rs f' S' w hp hf hx hS hR hs => ?_⟩
        obtain rfl := Option.some.inj ho
        exact opv (.slice A0 l0.length c0) hA hs14_1 hon (fr_next (rfl) ((hx 0 (by kernel_rfl)).trans (by kernel_rfl : (_ : Value) = .slice A0 l0.length c0)))
      obtain ⟨s14_2, hs14_2⟩ := exv (.int .i64 (l0.length : Int))
      refine have_opa extent_Meets.tab12 1 2 (fun sp => sp 2 = s14_2 ∧ sp 1 = s14_1) (fun sp on hA hon => ?_) (fun ops14_2 => ?_)
      · refine ⟨fun o ho vs Rs f' S' w hp hf hx hS hR hs => ?_⟩
        obtain rfl := Option.some.inj ho
        obtain ⟨hv1, hR1⟩ := (spe hA.2 hs14_1 (hp 1 (by kernel_rfl)))
        exact opv (.int .i64 (l0.length : Int)) hA.1 hs14_2 hon (fr_next (rfl) ((hf 1 20 (by kernel_rfl) rfl).trans hv1))
      obtain ⟨s14_3, hs14_3⟩ := exv (.bool (decide (t10 < (l0.length : Int))))
      refine have_opa extent_Meets.tab12 1 3 (fun sp => sp 3 = s14_3 ∧ sp 0 = s14_0 ∧ sp 2 = s14_2) (fun sp on hA hon => ?_) (fun ops14_3 => ?_)
      · refine ⟨fun o ho vs Rs f' S' w hp hf hx hS hR hs => ?_⟩
        obtain rfl := Option.some.inj ho
        obtain ⟨hv0, hR0⟩ := (spe hA.2.1 hs14_0 (hp 0 (by kernel_rfl)))
        obtain ⟨hv2, hR2⟩ := (spe hA.2.2 hs14_2 (hp 2 (by kernel_rfl)))
        exact opv (.bool (decide (t10 < (l0.length : Int)))) hA.1 hs14_3 hon (fr_next (fr_next (rfl) ((hf 0 19 (by kernel_rfl) rfl).trans hv0)) ((hf 2 21 (by kernel_rfl) rfl).trans hv2))
      obtain ⟨s14_4, hs14_4⟩ := exv (.bool (decide (t10 < (l0.length : Int))))
      refine have_opa extent_Meets.tab12 1 4 (fun sp => sp 4 = s14_4 ∧ sp 3 = s14_3) (fun sp on hA hon => ?_) (fun ops14_4 => ?_)
      · refine ⟨fun o ho vs Rs f' S' w hp hf hx hS hR hs => ?_⟩
        obtain rfl := Option.some.inj ho
        obtain ⟨hv3, hR3⟩ := (spe hA.2 hs14_3 (hp 3 (by kernel_rfl)))
        exact opv (.bool (decide (t10 < (l0.length : Int)))) hA.1 hs14_4 hon (fr_next (rfl) ((hf 3 22 (by kernel_rfl) rfl).trans hv3))
      by_cases q15 : t10 < (l0.length : Int)
      · replace H := ite_t q15 H
        obtain ⟨s14_5, hs14_5⟩ := exv (.slice A0 l0.length c0)
        refine have_opa extent_Meets.tab12 1 5 (fun sp => sp 5 = s14_5 ∧ sp 4 = s14_4) (fun sp on hA hon => ?_) (fun ops14_5 => ?_)
        · refine ⟨fun o ho vs Rs f' S' w hp hf hx hS hR hs => ?_⟩
          obtain rfl := Option.some.inj ho
          obtain ⟨hv4, hR4⟩ := (spe hA.2 hs14_4 (hp 4 (by kernel_rfl)))
          rw [hA.1, hs14_5]
          refine And.intro (fun a ha => (want_is (j := 4) (t := 23) (r := true) rfl rfl (by kernel_rfl) (((hf 4 23 (by kernel_rfl) rfl).trans hv4).trans (congrArg Value.bool (show (decide (t10 < (l0.length : Int))) = true from dec_t q15))) rfl a ha).trans hon.symm) (And.intro (fun _ => ?_) (fun h => by rw [hon] at h; cases h))
          have hF := fr_next (fr_next (rfl) ((hx 0 (by kernel_rfl)).trans (by kernel_rfl : (_ : Value) = .slice A0 l0.length c0))) (((hf 4 23 (by kernel_rfl) rfl).trans hv4).trans (congrArg Value.bool (show (decide (t10 < (l0.length : Int))) = true from dec_t q15)))
          refine ls_fr hF ?_
          refine lv (.slice A0 l0.length c0) ?_
          exact ls_fin s0 _ (congrArg (fun z => upd z 24 _) hF.symm) ⟨rfl, rfl⟩ (sub_nil _)
        obtain ⟨s14_6, hs14_6⟩ := exv (.int .i64 t10)
        refine have_opa extent_Meets.tab12 1 6 (fun sp => sp 6 = s14_6 ∧ sp 4 = s14_4) (fun sp on hA hon => ?_) (fun ops14_6 => ?_)
        · refine ⟨fun o ho vs Rs f' S' w hp hf hx hS hR hs => ?_⟩
          obtain rfl := Option.some.inj ho
          obtain ⟨hv4, hR4⟩ := (spe hA.2 hs14_4 (hp 4 (by kernel_rfl)))
          rw [hA.1, hs14_6]
          refine And.intro (fun a ha => (want_is (j := 4) (t := 23) (r := true) rfl rfl (by kernel_rfl) (((hf 4 23 (by kernel_rfl) rfl).trans hv4).trans (congrArg Value.bool (show (decide (t10 < (l0.length : Int))) = true from dec_t q15))) rfl a ha).trans hon.symm) (And.intro (fun _ => ?_) (fun h => by rw [hon] at h; cases h))
          have hF := fr_next (fr_next (rfl) ((hx 5 (by kernel_rfl)).trans (by kernel_rfl : (_ : Value) = .int .i64 t10))) (((hf 4 23 (by kernel_rfl) rfl).trans hv4).trans (congrArg Value.bool (show (decide (t10 < (l0.length : Int))) = true from dec_t q15)))
          refine ls_fr hF ?_
          refine lv (.int .i64 t10) ?_
          exact ls_fin s0 _ (congrArg (fun z => upd z 25 _) hF.symm) ⟨rfl, rfl⟩ (sub_nil _)
        obtain ⟨q16, H⟩ := ite_need H
        obtain ⟨ad17, hA18⟩ := ido_at (T := T24) (l := l0) (i := t10) R0 q16 q15
        obtain ⟨s14_7, hs14_7⟩ := exv (.pointer (some (ad17.add ((t10).toNat * 2))))
        refine have_opa extent_Meets.tab12 1 7 (fun sp => sp 7 = s14_7 ∧ sp 4 = s14_4 ∧ sp 5 = s14_5 ∧ sp 6 = s14_6) (fun sp on hA hon => ?_) (fun ops14_7 => ?_)
        · refine ⟨fun o ho vs Rs f' S' w hp hf hx hS hR hs => ?_⟩
          obtain rfl := Option.some.inj ho
          obtain ⟨hv4, hR4⟩ := (spe hA.2.1 hs14_4 (hp 4 (by kernel_rfl)))
          obtain ⟨hv5, hR5⟩ := (spe hA.2.2.1 hs14_5 (hp 5 (by kernel_rfl)))
          obtain ⟨hv6, hR6⟩ := (spe hA.2.2.2 hs14_6 (hp 6 (by kernel_rfl)))
          rw [hA.1, hs14_7]
          refine And.intro (fun a ha => (want_is (j := 4) (t := 23) (r := true) rfl rfl (by kernel_rfl) (((hf 4 23 (by kernel_rfl) rfl).trans hv4).trans (congrArg Value.bool (show (decide (t10 < (l0.length : Int))) = true from dec_t q15))) rfl a ha).trans hon.symm) (And.intro (fun _ => ?_) (fun h => by rw [hon] at h; cases h))
          have hF := fr_next (fr_next (fr_next (rfl) (((hf 4 23 (by kernel_rfl) rfl).trans hv4).trans (congrArg Value.bool (show (decide (t10 < (l0.length : Int))) = true from dec_t q15)))) ((hf 5 24 (by kernel_rfl) rfl).trans hv5)) ((hf 6 25 (by kernel_rfl) rfl).trans hv6)
          refine ls_fr hF ?_
          refine ls_idxv T24 (A := A0) (c := c0) (l := l0) (k := .i64) (i := t10) (z := 2) (ad := ad17) rfl rfl (by kernel_rfl) hA18 rfl (by kernel_rfl) (by kernel_rfl) (by kernel_rfl) (by kernel_rfl) q16 q15 ?_
          exact ls_fin s0 _ (congrArg (fun z => upd z 26 _) hF.symm) ⟨rfl, rfl⟩ (sub_nil _)
        obtain ⟨s14_8, hs14_8⟩ := exv (.pointer (some (ad17.add (((t10).toNat * 2) + 0))))
        refine have_opa extent_Meets.tab12 1 8 (fun sp => sp 8 = s14_8 ∧ sp 4 = s14_4 ∧ sp 7 = s14_7) (fun sp on hA hon => ?_) (fun ops14_8 => ?_)
        · refine ⟨fun o ho vs Rs f' S' w hp hf hx hS hR hs => ?_⟩
          obtain rfl := Option.some.inj ho
          obtain ⟨hv4, hR4⟩ := (spe hA.2.1 hs14_4 (hp 4 (by kernel_rfl)))
          obtain ⟨hv7, hR7⟩ := (spe hA.2.2 hs14_7 (hp 7 (by kernel_rfl)))
          rw [hA.1, hs14_8]
          refine And.intro (fun a ha => (want_is (j := 4) (t := 23) (r := true) rfl rfl (by kernel_rfl) (((hf 4 23 (by kernel_rfl) rfl).trans hv4).trans (congrArg Value.bool (show (decide (t10 < (l0.length : Int))) = true from dec_t q15))) rfl a ha).trans hon.symm) (And.intro (fun _ => ?_) (fun h => by rw [hon] at h; cases h))
          have hF := fr_next (fr_next (rfl) (((hf 4 23 (by kernel_rfl) rfl).trans hv4).trans (congrArg Value.bool (show (decide (t10 < (l0.length : Int))) = true from dec_t q15)))) ((hf 7 26 (by kernel_rfl) rfl).trans hv7)
          refine ls_fr hF ?_
          refine ls_fieldm (ad := ad17) (off := ((t10).toNat * 2)) rfl rfl (by kernel_rfl) 0 (fun w => by kernel_rfl) ?_
          exact ls_fin s0 _ (congrArg (fun z => upd z 27 _) hF.symm) ⟨rfl, rfl⟩ (sub_nil _)
        obtain ⟨y19, hy20, H⟩ := lt_some H
        obtain ⟨s14_9, hs14_9⟩ := exv (.int .i64 y19)
        refine have_opa extent_Meets.tab12 1 9 (fun sp => sp 9 = s14_9 ∧ sp 4 = s14_4 ∧ sp 8 = s14_8) (fun sp on hA hon => ?_) (fun ops14_9 => ?_)
        · refine ⟨fun o ho vs Rs f' S' w hp hf hx hS hR hs => ?_⟩
          obtain rfl := Option.some.inj ho
          obtain ⟨hv4, hR4⟩ := (spe hA.2.1 hs14_4 (hp 4 (by kernel_rfl)))
          obtain ⟨hv8, hR8⟩ := (spe hA.2.2 hs14_8 (hp 8 (by kernel_rfl)))
          rw [hA.1, hs14_9]
          refine And.intro (fun a ha => (want_is (j := 4) (t := 23) (r := true) rfl rfl (by kernel_rfl) (((hf 4 23 (by kernel_rfl) rfl).trans hv4).trans (congrArg Value.bool (show (decide (t10 < (l0.length : Int))) = true from dec_t q15))) rfl a ha).trans hon.symm) (And.intro (fun _ => ?_) (fun h => by rw [hon] at h; cases h))
          have hF := fr_next (fr_next (rfl) (((hf 4 23 (by kernel_rfl) rfl).trans hv4).trans (congrArg Value.bool (show (decide (t10 < (l0.length : Int))) = true from dec_t q15)))) ((hf 8 27 (by kernel_rfl) rfl).trans hv8)
          refine ls_fr hF ?_
          refine ls_load (a0 := (ad17.add (((t10).toNat * 2) + 0))) (v := .int .i64 (((l0).getD (t10).toNat ((0 : Int), (0 : Int))).1)) (de := (TypeDesc.int .i64)) rfl rfl (by kernel_rfl) rfl (by kernel_rfl) (by kernel_rfl) (by kernel_rfl) (fun w1 hs1 => (Rd.step (hs.old R0) hs1.below.bw).at hA18 (Sub4.trans (em_sub T24 l0 (i := (t10).toNat) (by have h0 : (0 : Int) ≤ t10 := q16; have h1 : t10 < (l0.length : Int) := q15; omega)) (Sub4.head _ _))) ?_
          refine ls_ren 28 (v := .int .i64 (((l0).getD (t10).toNat ((0 : Int), (0 : Int))).1)) (v' := .int .i64 y19) (by kernel_rfl) (by rw [hy20]) ?_
          exact ls_fin s0 _ ((upd_upd _ _ _ _).trans (congrArg (fun z => upd z 28 _) hF.symm)) ⟨rfl, rfl⟩ (sub_nil _)
        obtain ⟨s14_10, hs14_10⟩ := exv (.pointer (some ⟨g1, (0 + 1), none⟩))
        refine have_opa extent_Meets.tab12 1 10 (fun sp => sp 10 = s14_10 ∧ sp 4 = s14_4) (fun sp on hA hon => ?_) (fun ops14_10 => ?_)
        · refine ⟨fun o ho vs Rs f' S' w hp hf hx hS hR hs => ?_⟩
          obtain rfl := Option.some.inj ho
          obtain ⟨hv4, hR4⟩ := (spe hA.2 hs14_4 (hp 4 (by kernel_rfl)))
          rw [hA.1, hs14_10]
          refine And.intro (fun a ha => (want_is (j := 4) (t := 23) (r := true) rfl rfl (by kernel_rfl) (((hf 4 23 (by kernel_rfl) rfl).trans hv4).trans (congrArg Value.bool (show (decide (t10 < (l0.length : Int))) = true from dec_t q15))) rfl a ha).trans hon.symm) (And.intro (fun _ => ?_) (fun h => by rw [hon] at h; cases h))
          have hF := fr_next (fr_next (rfl) ((hx 3 (by kernel_rfl)).trans (by kernel_rfl : (_ : Value) = .pointer (some ⟨g1, 0, none⟩)))) (((hf 4 23 (by kernel_rfl) rfl).trans hv4).trans (congrArg Value.bool (show (decide (t10 < (l0.length : Int))) = true from dec_t q15)))
          refine ls_fr hF ?_
          refine lv (.pointer (some ⟨g1, (0 + 1), none⟩)) ?_
          exact ls_fin s0 _ (congrArg (fun z => upd z 29 _) hF.symm) ⟨rfl, rfl⟩ (sub_nil _)
        obtain ⟨s14_11, hs14_11⟩ := exv (.int .i64 a1.2)
        refine have_opa extent_Meets.tab12 1 11 (fun sp => sp 11 = s14_11 ∧ sp 4 = s14_4 ∧ sp 10 = s14_10) (fun sp on hA hon => ?_) (fun ops14_11 => ?_)
        · refine ⟨fun o ho vs Rs f' S' w hp hf hx hS hR hs => ?_⟩
          obtain rfl := Option.some.inj ho
          obtain ⟨hv4, hR4⟩ := (spe hA.2.1 hs14_4 (hp 4 (by kernel_rfl)))
          obtain ⟨hv10, hR10⟩ := (spe hA.2.2 hs14_10 (hp 10 (by kernel_rfl)))
          rw [hA.1, hs14_11]
          refine And.intro (fun a ha => (want_is (j := 4) (t := 23) (r := true) rfl rfl (by kernel_rfl) (((hf 4 23 (by kernel_rfl) rfl).trans hv4).trans (congrArg Value.bool (show (decide (t10 < (l0.length : Int))) = true from dec_t q15))) rfl a ha).trans hon.symm) (And.intro (fun _ => ?_) (fun h => by rw [hon] at h; cases h))
          have hF := fr_next (fr_next (rfl) (((hf 4 23 (by kernel_rfl) rfl).trans hv4).trans (congrArg Value.bool (show (decide (t10 < (l0.length : Int))) = true from dec_t q15)))) ((hf 10 29 (by kernel_rfl) rfl).trans hv10)
          refine ls_fr hF ?_
          refine ls_load (a0 := ⟨g1, (0 + 1), none⟩) (v := .int .i64 a1.2) (de := (TypeDesc.int .i64)) rfl rfl (by kernel_rfl) rfl (by kernel_rfl) (by kernel_rfl) (by kernel_rfl) (fun w1 hs1 => cell_step hs1.below.bw (hs.var (k := 0) ((hS 0 (by kernel_rfl)).trans (by exact rfl)) (Sub4.trans (Sub4.all _) (Sub4.skip (n := 1) (len1 _) (Sub4.all _))))) ?_
          exact ls_fin s0 _ (congrArg (fun z => upd z 30 _) hF.symm) ⟨rfl, rfl⟩ (sub_nil _)
        refine cs_draw extent_Meets.tab12 12 1 (spl [s14_0, s14_1, s14_2, s14_3, s14_4, s14_5, s14_6, s14_7, s14_8, s14_9, s14_10, s14_11]) (onl [true, true, true, true, true, true, true, true, true, true, true, true]) (by kernel_rfl) (by kernel_rfl) (by kernel_rfl) (by kernel_rfl) (rs := [_, _, _]) rfl (by kernel_rfl) (by kernel_rfl) (all_snoc (all_snoc (all_snoc (all_snoc (all_snoc (all_snoc (all_snoc (all_snoc (all_snoc (all_snoc (all_snoc (all_snoc (all_nil) (ops14_0 _ _ rfl rfl)) (ops14_1 _ _ rfl rfl)) (ops14_2 _ _ ⟨rfl, rfl⟩ rfl)) (ops14_3 _ _ ⟨rfl, rfl, rfl⟩ rfl)) (ops14_4 _ _ ⟨rfl, rfl⟩ rfl)) (ops14_5 _ _ ⟨rfl, rfl⟩ rfl)) (ops14_6 _ _ ⟨rfl, rfl⟩ rfl)) (ops14_7 _ _ ⟨rfl, rfl, rfl, rfl⟩ rfl)) (ops14_8 _ _ ⟨rfl, rfl, rfl⟩ rfl)) (ops14_9 _ _ ⟨rfl, rfl, rfl⟩ rfl)) (ops14_10 _ _ ⟨rfl, rfl⟩ rfl)) (ops14_11 _ _ ⟨rfl, rfl, rfl⟩ rfl)) ?_
        intro vs Rs f' S' hp hf hx hS hR
        obtain ⟨hv4, hR4⟩ := (spe rfl hs14_4 (hp 4 (by kernel_rfl)))
        obtain ⟨hv9, hR9⟩ := (spe rfl hs14_9 (hp 9 (by kernel_rfl)))
        obtain ⟨hv11, hR11⟩ := (spe rfl hs14_11 (hp 11 (by kernel_rfl)))
        refine ls_fr (F := upd (upd (upd f' 23 (.bool (decide (t10 < (l0.length : Int))))) 28 (.int .i64 y19)) 30 (.int .i64 a1.2)) (fr_next (fr_next (fr_next (rfl) ((hf 4 23 (by kernel_rfl) rfl).trans hv4)) ((hf 9 28 (by kernel_rfl) rfl).trans hv9)) ((hf 11 30 (by kernel_rfl) rfl).trans hv11)) ?_
        refine ls_sub (s0) (sub_nil _) ?_
        refine ls_know (c := true) (dec_t q15) 23 (by kernel_rfl) ?_
        refine ls_on (j := 4) (t := 23) (b := true) rfl rfl (by kernel_rfl) (by kernel_rfl) ?_
        refine lv (.bool (decide (y19 < a1.2))) ?_
        refine lv (.bool (decide (y19 < a1.2))) ?_
        refine lv (.bool (decide (y19 < a1.2))) ?_
        refine ls_end ?_
        refine qn_then ?_
        refine cs_ret' ?_
        obtain rfl := Option.some.inj H
        refine qr_res (rs := [_]) rfl (fun w' hs => ⟨[.bool (decide (y19 < a1.2))], (res_tmp (by kernel_rfl) (.nil)), (), rfl, hs.pick (ts := []) (cs := []) trivial (by decide)⟩)
      replace H := ite_f q15 H
      refine cs_draw extent_Meets.tab12 12 1 (spl [s14_0, s14_1, s14_2, s14_3, s14_4, spu, spu, spu, spu, spu, spu, spu]) (onl [true, true, true, true, true, false, false, false, false, false, false, false]) (by kernel_rfl) (by kernel_rfl) (by kernel_rfl) (by kernel_rfl) (rs := [_, _, _]) rfl (by kernel_rfl) (by kernel_rfl) (all_snoc (all_snoc (all_snoc (all_snoc (all_snoc (all_snoc (all_snoc (all_snoc (all_snoc (all_snoc (all_snoc (all_snoc (all_nil) (ops14_0 _ _ rfl rfl)) (ops14_1 _ _ rfl rfl)) (ops14_2 _ _ ⟨rfl, rfl⟩ rfl)) (ops14_3 _ _ ⟨rfl, rfl, rfl⟩ rfl)) (ops14_4 _ _ ⟨rfl, rfl⟩ rfl)) (op_offi 5 4 23 true rfl rfl (by kernel_rfl) (by kernel_rfl) rfl (fun v R h => by rw [hs14_4] at h; obtain ⟨h, _⟩ := h; exact h.trans (congrArg Value.bool (show (decide (t10 < (l0.length : Int))) = false from dec_f q15))) rfl rfl)) (op_offi 6 4 23 true rfl rfl (by kernel_rfl) (by kernel_rfl) rfl (fun v R h => by rw [hs14_4] at h; obtain ⟨h, _⟩ := h; exact h.trans (congrArg Value.bool (show (decide (t10 < (l0.length : Int))) = false from dec_f q15))) rfl rfl)) (op_offi 7 4 23 true rfl rfl (by kernel_rfl) (by kernel_rfl) rfl (fun v R h => by rw [hs14_4] at h; obtain ⟨h, _⟩ := h; exact h.trans (congrArg Value.bool (show (decide (t10 < (l0.length : Int))) = false from dec_f q15))) rfl rfl)) (op_offi 8 4 23 true rfl rfl (by kernel_rfl) (by kernel_rfl) rfl (fun v R h => by rw [hs14_4] at h; obtain ⟨h, _⟩ := h; exact h.trans (congrArg Value.bool (show (decide (t10 < (l0.length : Int))) = false from dec_f q15))) rfl rfl)) (op_offi 9 4 23 true rfl rfl (by kernel_rfl) (by kernel_rfl) rfl (fun v R h => by rw [hs14_4] at h; obtain ⟨h, _⟩ := h; exact h.trans (congrArg Value.bool (show (decide (t10 < (l0.length : Int))) = false from dec_f q15))) rfl rfl)) (op_offi 10 4 23 true rfl rfl (by kernel_rfl) (by kernel_rfl) rfl (fun v R h => by rw [hs14_4] at h; obtain ⟨h, _⟩ := h; exact h.trans (congrArg Value.bool (show (decide (t10 < (l0.length : Int))) = false from dec_f q15))) rfl rfl)) (op_offi 11 4 23 true rfl rfl (by kernel_rfl) (by kernel_rfl) rfl (fun v R h => by rw [hs14_4] at h; obtain ⟨h, _⟩ := h; exact h.trans (congrArg Value.bool (show (decide (t10 < (l0.length : Int))) = false from dec_f q15))) rfl rfl)) ?_
      intro vs Rs f' S' hp hf hx hS hR
      obtain ⟨hv4, hR4⟩ := (spe rfl hs14_4 (hp 4 (by kernel_rfl)))
      obtain ⟨hv9, hR9⟩ := (spe rfl rfl (hp 9 (by kernel_rfl)) : spu _ _)
      obtain ⟨hv11, hR11⟩ := (spe rfl rfl (hp 11 (by kernel_rfl)) : spu _ _)
      refine ls_fr (F := upd f' 23 (.bool (decide (t10 < (l0.length : Int))))) (fr_next (rfl) ((hf 4 23 (by kernel_rfl) rfl).trans hv4)) ?_
      refine ls_sub (s0) (sub_nil _) ?_
      refine ls_know (c := false) (dec_f q15) 23 (by kernel_rfl) ?_
      refine lofx 4 23 true false ?_
      refine lv (.bool false) ?_
      refine lv (.bool false) ?_
      refine ls_end ?_
      refine qn_then ?_
      refine cs_ret' ?_
      obtain rfl := Option.some.inj H
      refine qr_res (rs := [_]) rfl (fun w' hs => ⟨[.bool false], (res_tmp (by kernel_rfl) (.nil)), (), rfl, hs.pick (ts := []) (cs := []) trivial (by decide)⟩)
    replace H := ite_f q9 H
    refine cs_know (c := true) (congrArg Bool.not (Bool.eq_false_iff.mpr q9)) 13 (by kernel_rfl) ?_
    refine cs_true (by kernel_rfl) ?_
    refine cs_seq ?_
    refine cs_region (l := [_]) ?_
    refine lv (.bool false) ?_
    refine ls_end ?_
    refine qn_then ?_
    refine cs_ret' ?_
    refine qr_then ?_
    obtain rfl := Option.some.inj H
    refine qr_res (rs := [_]) rfl (fun w' hs => ⟨[.bool false], (res_tmp (by kernel_rfl) (.nil)), (), rfl, hs.pick (ts := []) (cs := []) trivial (by decide)⟩)
  replace H := ite_f q5 H
  refine ls_know (c := true) (congrArg Bool.not (Bool.eq_false_iff.mpr q5)) 9 (by kernel_rfl) ?_
  refine lofx 3 9 false true ?_
  refine lofx 3 9 false true ?_
  refine lofx 3 9 false true ?_
  refine lv (.bool true) ?_
  refine ls_end ?_
  refine qn_then ?_
  refine cs_true (by kernel_rfl) ?_
  refine cs_seq ?_
  refine cs_region (l := [_]) ?_
  refine lv (.bool false) ?_
  refine ls_end ?_
  refine qn_then ?_
  refine cs_ret' ?_
  refine qr_then ?_
  obtain rfl := Option.some.inj H
  refine qr_res (rs := [_]) rfl (fun w' hs => ⟨[.bool false], (res_tmp (by kernel_rfl) (.nil)), (), rfl, hs.pick (ts := []) (cs := []) trivial (by decide)⟩)

/-! ### (*shadowbox/alloc.Alloc).check: function 51 -/
def alloc_Alloc_check.tab5 : List (List Nat) := [[], [0], [], [2], [2, 3], [2, 3, 4], [2, 3, 4, 5], [0, 1, 2, 3, 4, 5, 6], [0, 1, 2, 3, 4, 5, 6, 7], [0, 1, 2, 3, 4, 5, 6, 7, 8], [0, 1, 2, 3, 4, 5, 6, 7, 8, 9], [0, 1, 2, 3, 4, 5, 6, 7, 8], [0, 1, 2, 3, 4, 5, 6, 7, 8, 11], [0, 1, 2, 3, 4, 5, 6, 7, 8, 9, 10, 11, 12], [0, 1, 2, 3, 4, 5, 6, 7, 8, 9, 10, 11, 12, 13], [0, 1, 2, 3, 4, 5, 6, 7, 8, 9, 10, 11, 12, 13, 14], [0, 1, 2, 3, 4, 5, 6, 7, 8, 9, 10, 11, 12, 13, 14, 15], [0, 1, 2, 3, 4, 5, 6, 7, 8, 9, 10, 11, 12, 13, 14, 15, 16], [0, 1, 2, 3, 4, 5, 6, 7, 8, 9, 10, 11, 12, 13, 14, 15], [0, 1, 2, 3, 4, 5, 6, 7, 8, 9, 10, 11, 12, 13, 14, 15, 18], [0, 1, 2, 3, 4, 5, 6, 7, 8, 9, 10, 11, 12, 13, 14, 15, 18, 19], [0, 1, 2, 3, 4, 5, 6, 7, 8, 9, 10, 11, 12, 13, 14, 15, 18, 19, 20], [0, 1, 2, 3, 4, 5, 6, 7, 8, 9, 10, 11, 12, 13, 14, 15, 18, 19, 20, 21], [0, 1, 2, 3, 4, 5, 6, 7, 8, 9, 10, 11, 12, 13, 14, 15, 16, 17, 18, 19, 20, 21, 22], [0, 1, 2, 3, 4, 5, 6, 7, 8, 9, 10, 11, 12, 13, 14, 15, 16, 17, 18, 19, 20, 21, 22, 23], [0, 1, 2, 3, 4, 5, 6, 7, 8, 9, 10, 11, 12, 13, 14, 15, 16, 17, 18, 19, 20, 21, 22, 23, 24]]
def alloc_Alloc_check.f (k : Nat) (v0 : ((Int × Int) × Bool × Int × (List (Int × Int)) × Unit × (List (Int × Int)))) (w0_4 : (Bool × (List (Int × Int)))) (a1 : (Int × Int)) : Option (Int) :=
  (alloc_Alloc_none.f k (v0.1, v0.2.1, v0.2.2.1, v0.2.2.2.1, (), v0.2.2.2.2.2) (w0_4.1, w0_4.2)).bind fun t2 => (if t2 = true then some (1 : Int) else (if a1.1 < v0.1.1 then some (2 : Int) else (if a1.1 ≥ a1.2 then some (2 : Int) else (if a1.2 > v0.1.2 then some (2 : Int) else some (0 : Int)))))
set_option maxRecDepth 100000 in
set_option maxHeartbeats 4000000 in
theorem alloc_Alloc_check.calls (k : Nat) (pg0 : Nat) (A0_3 : Option Addr) (c0_3 : Nat) (r0_4 : Nat) (A0_5 : Option Addr) (c0_5 : Nat) (v0 : ((Int × Int) × Bool × Int × (List (Int × Int)) × Unit × (List (Int × Int)))) (A0_4 : Option Addr) (c0_4 : Nat) (w0_4 : (Bool × (List (Int × Int)))) (a1 : (Int × Int)) (r : Int) (b : Bs) (hs0 : St b (stl [Ck.var 66 pg0 ((([Value.int .i64 v0.1.1] ++ [Value.int .i64 v0.1.2]) ++ ([Value.bool v0.2.1] ++ ([Value.int .i64 v0.2.2.1] ++ ([Value.slice A0_3 v0.2.2.2.1.length c0_3] ++ ([Value.map (some r0_4)] ++ [Value.slice A0_5 v0.2.2.2.2.2.length c0_5])))))), Ck.m1 r0_4 w0_4.1 A0_4 w0_4.2.length c0_4, Ck.sl T24 A0_4 c0_4 w0_4.2]) b.w) (R0_3 : Ro b A0_3 (em T24 v0.2.2.2.1)) (C0_3 : v0.2.2.2.1.length ≤ c0_3) (R0_5 : Ro b A0_5 (em T24 v0.2.2.2.2.2)) (C0_5 : v0.2.2.2.2.2.length ≤ c0_5) (H : alloc_Alloc_check.f k v0 w0_4 a1 = some r) :
    Calls Try.prog 51 #[.pointer (some ⟨pg0, 0, none⟩), .agg ⟨([Value.int .i64 a1.1] ++ [Value.int .i64 a1.2])⟩] b.w fun e w' => ∃ x : Unit, e = .returned (.int .i64 r) ∧ St b (stl [Ck.var 66 pg0 ((([Value.int .i64 v0.1.1] ++ [Value.int .i64 v0.1.2]) ++ ([Value.bool v0.2.1] ++ ([Value.int .i64 v0.2.2.1] ++ ([Value.slice A0_3 v0.2.2.2.1.length c0_3] ++ ([Value.map (some r0_4)] ++ [Value.slice A0_5 v0.2.2.2.2.2.length c0_5])))))), Ck.m1 r0_4 w0_4.1 A0_4 w0_4.2.length c0_4, Ck.sl T24 A0_4 c0_4 w0_4.2]) w' := by
  unfold alloc_Alloc_check.f at H
  refine enterb (n := 34) Try.func51 rfl (by kernel_rfl) (by kernel_rfl) hs0 ?_
  refine cs_sub (sput (sput (sput s0 0 (some (Ck.var 66 pg0 ((([Value.int .i64 v0.1.1] ++ [Value.int .i64 v0.1.2]) ++ ([Value.bool v0.2.1] ++ ([Value.int .i64 v0.2.2.1] ++ ([Value.slice A0_3 v0.2.2.2.1.length c0_3] ++ ([Value.map (some r0_4)] ++ [Value.slice A0_5 v0.2.2.2.2.2.length c0_5]))))))))) 1 (some (Ck.m1 r0_4 w0_4.1 A0_4 w0_4.2.length c0_4))) 2 (some (Ck.sl T24 A0_4 c0_4 w0_4.2))) (sub_put (by exact rfl) (sub_put (by exact rfl) (sub_put (by exact rfl) (sub_nil _)))) ?_
  refine cs_seq ?_
  refine cs_region (l := [_, _]) ?_
  refine ls_new rfl rfl (by kernel_rfl) 3 (fun g => .pointer (some ⟨g, 0, none⟩)) (.cells ⟨([Value.int .i64 a1.1] ++ [Value.int .i64 a1.2])⟩ 24) (fun w => by kernel_rfl) ?_
  intro g1
  refine lv (.int .i64 (0 : Int)) ?_
  refine ls_end ?_
  refine qn_then ?_
  refine cs_seq ?_
  refine cs_block ?_
  refine cs_seq ?_
  refine cs_region (l := [_, _, _]) ?_
  refine lv (.pointer (some ⟨pg0, 0, none⟩)) ?_
  obtain ⟨t2, hc3, H⟩ := bind_some H
  refine ls_callb (fid := 48) (vals := #[.pointer (some ⟨pg0, 0, none⟩)]) (X := Unit) (fun x => .bool t2) (fun x => stl [Ck.var 66 pg0 ((([Value.int .i64 v0.1.1] ++ [Value.int .i64 v0.1.2]) ++ ([Value.bool v0.2.1] ++ ([Value.int .i64 v0.2.2.1] ++ ([Value.slice A0_3 v0.2.2.2.1.length c0_3] ++ ([Value.map (some r0_4)] ++ [Value.slice A0_5 v0.2.2.2.2.2.length c0_5])))))), Ck.m1 r0_4 w0_4.1 A0_4 w0_4.2.length c0_4, Ck.sl T24 A0_4 c0_4 w0_4.2]) [0, 1, 2] [] [Ck.var 66 pg0 ((([Value.int .i64 v0.1.1] ++ [Value.int .i64 v0.1.2]) ++ ([Value.bool v0.2.1] ++ ([Value.int .i64 v0.2.2.1] ++ ([Value.slice A0_3 v0.2.2.2.1.length c0_3] ++ ([Value.map (some r0_4)] ++ [Value.slice A0_5 v0.2.2.2.2.2.length c0_5])))))), Ck.m1 r0_4 w0_4.1 A0_4 w0_4.2.length c0_4, Ck.sl T24 A0_4 c0_4 w0_4.2] [] 4 rfl rfl (by kernel_rfl) (fun w => by kernel_rfl) ⟨by exact rfl, by exact rfl, by exact rfl, trivial⟩ trivial (by decide) (fun w hs hb => alloc_Alloc_none.calls k pg0 A0_3 c0_3 r0_4 A0_5 c0_5 (v0.1, v0.2.1, v0.2.2.1, v0.2.2.2.1, (), v0.2.2.2.2.2) A0_4 c0_4 (w0_4.1, w0_4.2) t2 (lent b w [Ck.var 66 pg0 ((([Value.int .i64 v0.1.1] ++ [Value.int .i64 v0.1.2]) ++ ([Value.bool v0.2.1] ++ ([Value.int .i64 v0.2.2.1] ++ ([Value.slice A0_3 v0.2.2.2.1.length c0_3] ++ ([Value.map (some r0_4)] ++ [Value.slice A0_5 v0.2.2.2.2.2.length c0_5])))))), Ck.m1 r0_4 w0_4.1 A0_4 w0_4.2.length c0_4, Ck.sl T24 A0_4 c0_4 w0_4.2] []) hb (hs.ro R0_3 _ _) C0_3 (hs.ro R0_5 _ _) C0_5 hc3) ?_
  intro x4
  refine lv (.bool t2) ?_
  refine ls_end ?_
  refine qn_then ?_
  by_cases q5 : t2 = true
  · replace H := ite_t q5 H
    refine cs_know (c := true) (q5) 5 (by kernel_rfl) ?_
    refine cs_true (by kernel_rfl) ?_
    refine cs_seq ?_
    refine cs_region (l := [_]) ?_
    refine lv (.int .i64 (1 : Int)) ?_
    refine ls_end ?_
    refine qn_then ?_
    refine cs_ret' ?_
    refine qr_block ?_
    refine qr_then ?_
    obtain rfl := Option.some.inj H
    refine qr_res (rs := [_]) rfl (fun w' hs => ⟨[.int .i64 (1 : Int)], (res_tmp (by kernel_rfl) (.nil)), (), rfl, hs.pick (ts := [0, 1, 2]) (cs := [Ck.var 66 pg0 ((([Value.int .i64 v0.1.1] ++ [Value.int .i64 v0.1.2]) ++ ([Value.bool v0.2.1] ++ ([Value.int .i64 v0.2.2.1] ++ ([Value.slice A0_3 v0.2.2.2.1.length c0_3] ++ ([Value.map (some r0_4)] ++ [Value.slice A0_5 v0.2.2.2.2.2.length c0_5])))))), Ck.m1 r0_4 w0_4.1 A0_4 w0_4.2.length c0_4, Ck.sl T24 A0_4 c0_4 w0_4.2]) ⟨by exact rfl, by exact rfl, by exact rfl, trivial⟩ (by decide)⟩)
  replace H := ite_f q5 H
  refine cs_know (c := false) (Bool.eq_false_iff.mpr q5) 5 (by kernel_rfl) ?_
  refine cs_false (by kernel_rfl) ?_
  refine cs_seq ?_
  obtain ⟨s7_0, hs7_0⟩ := exv (.pointer (some ⟨g1, (0 + 0), none⟩))
  refine have_opa alloc_Alloc_check.tab5 4 0 (fun sp => sp 0 = s7_0) (fun sp on hA hon => ?_) (fun ops7_0 => ?_)
  · refine ⟨fun o ho vs Rs f' S' w hp hf hx hS hR hs => ?_⟩
    obtain rfl := Option.some.inj ho
    exact opv (.pointer (some ⟨g1, (0 + 0), none⟩)) hA hs7_0 hon (fr_next (rfl) ((hx 3 (by kernel_rfl)).trans (by kernel_rfl : (_ : Value) = .pointer (some ⟨g1, 0, none⟩))))
  obtain ⟨s7_1, hs7_1⟩ := exv (.int .i64 a1.1)
  refine have_opa alloc_Alloc_check.tab5 4 1 (fun sp => sp 1 = s7_1 ∧ sp 0 = s7_0) (fun sp on hA hon => ?_) (fun ops7_1 => ?_)
  · refine ⟨fun o ho vs Rs f' S' w hp hf hx hS hR hs => ?_⟩
    obtain rfl := Option.some.inj ho
    obtain ⟨hv0, hR0⟩ := (spe hA.2 hs7_0 (hp 0 (by kernel_rfl)))
    rw [hA.1, hs7_1]
    refine wn hon ?_
    have hF := fr_next (rfl) ((hf 0 9 (by kernel_rfl) rfl).trans hv0)
    refine ls_fr hF ?_
    refine ls_load (a0 := ⟨g1, (0 + 0), none⟩) (v := .int .i64 a1.1) (de := (TypeDesc.int .i64)) rfl rfl (by kernel_rfl) rfl (by kernel_rfl) (by kernel_rfl) (by kernel_rfl) (fun w1 hs1 => cell_step hs1.below.bw (hs.var (k := 3) ((hS 3 (by kernel_rfl)).trans (by exact rfl)) (Sub4.trans (Sub4.all _) (Sub4.head _ _)))) ?_
    exact ls_fin s0 _ (congrArg (fun z => upd z 10 _) hF.symm) ⟨rfl, rfl⟩ (sub_nil _)
  obtain ⟨s7_2, hs7_2⟩ := exv (.pointer (some ⟨pg0, 0, none⟩))
  refine have_opa alloc_Alloc_check.tab5 4 2 (fun sp => sp 2 = s7_2) (fun sp on hA hon => ?_) (fun ops7_2 => ?_)
  · refine ⟨fun o ho vs Rs f' S' w hp hf hx hS hR hs => ?_⟩
    obtain rfl := Option.some.inj ho
    exact opv (.pointer (some ⟨pg0, 0, none⟩)) hA hs7_2 hon (fr_next (rfl) ((hx 0 (by kernel_rfl)).trans (by kernel_rfl : (_ : Value) = .pointer (some ⟨pg0, 0, none⟩))))
  obtain ⟨s7_3, hs7_3⟩ := exv (.pointer (some ⟨pg0, 0, none⟩))
  refine have_opa alloc_Alloc_check.tab5 4 3 (fun sp => sp 3 = s7_3 ∧ sp 2 = s7_2) (fun sp on hA hon => ?_) (fun ops7_3 => ?_)
  · refine ⟨fun o ho vs Rs f' S' w hp hf hx hS hR hs => ?_⟩
    obtain rfl := Option.some.inj ho
    obtain ⟨hv2, hR2⟩ := (spe hA.2 hs7_2 (hp 2 (by kernel_rfl)))
    exact opv (.pointer (some ⟨pg0, 0, none⟩)) hA.1 hs7_3 hon (fr_next (rfl) ((hf 2 11 (by kernel_rfl) rfl).trans hv2))
  obtain ⟨s7_4, hs7_4⟩ := exv (.pointer (some ⟨pg0, (0 + 0), none⟩))
  refine have_opa alloc_Alloc_check.tab5 4 4 (fun sp => sp 4 = s7_4 ∧ sp 3 = s7_3) (fun sp on hA hon => ?_) (fun ops7_4 => ?_)
  · refine ⟨fun o ho vs Rs f' S' w hp hf hx hS hR hs => ?_⟩
    obtain rfl := Option.some.inj ho
    obtain ⟨hv3, hR3⟩ := (spe hA.2 hs7_3 (hp 3 (by kernel_rfl)))
    exact opv (.pointer (some ⟨pg0, (0 + 0), none⟩)) hA.1 hs7_4 hon (fr_next (rfl) ((hf 3 12 (by kernel_rfl) rfl).trans hv3))
  obtain ⟨s7_5, hs7_5⟩ := exv (.pointer (some ⟨pg0, ((0 + 0) + 0), none⟩))
  refine have_opa alloc_Alloc_check.tab5 4 5 (fun sp => sp 5 = s7_5 ∧ sp 4 = s7_4) (fun sp on hA hon => ?_) (fun ops7_5 => ?_)
  · refine ⟨fun o ho vs Rs f' S' w hp hf hx hS hR hs => ?_⟩
    obtain rfl := Option.some.inj ho
    obtain ⟨hv4, hR4⟩ := (spe hA.2 hs7_4 (hp 4 (by kernel_rfl)))
    exact opv (.pointer (some ⟨pg0, ((0 + 0) + 0), none⟩)) hA.1 hs7_5 hon (fr_next (rfl) ((hf 4 13 (by kernel_rfl) rfl).trans hv4))
  obtain ⟨s7_6, hs7_6⟩ := exv (.int .i64 v0.1.1)
  refine have_opa alloc_Alloc_check.tab5 4 6 (fun sp => sp 6 = s7_6 ∧ sp 5 = s7_5) (fun sp on hA hon => ?_) (fun ops7_6 => ?_)
  · refine ⟨fun o ho vs Rs f' S' w hp hf hx hS hR hs => ?_⟩
    obtain rfl := Option.some.inj ho
    obtain ⟨hv5, hR5⟩ := (spe hA.2 hs7_5 (hp 5 (by kernel_rfl)))
    rw [hA.1, hs7_6]
    refine wn hon ?_
    have hF := fr_next (rfl) ((hf 5 14 (by kernel_rfl) rfl).trans hv5)
    refine ls_fr hF ?_
    refine ls_load (a0 := ⟨pg0, ((0 + 0) + 0), none⟩) (v := .int .i64 v0.1.1) (de := (TypeDesc.int .i64)) rfl rfl (by kernel_rfl) rfl (by kernel_rfl) (by kernel_rfl) (by kernel_rfl) (fun w1 hs1 => cell_step hs1.below.bw (hs.var (k := 0) ((hS 0 (by kernel_rfl)).trans (by exact rfl)) (Sub4.trans (Sub4.trans (Sub4.all _) (Sub4.head _ _)) (Sub4.head _ _)))) ?_
    exact ls_fin s0 _ (congrArg (fun z => upd z 15 _) hF.symm) ⟨rfl, rfl⟩ (sub_nil _)
  obtain ⟨s7_7, hs7_7⟩ := exv (.bool (decide (a1.1 < v0.1.1)))
  refine have_opa alloc_Alloc_check.tab5 4 7 (fun sp => sp 7 = s7_7 ∧ sp 1 = s7_1 ∧ sp 6 = s7_6) (fun sp on hA hon => ?_) (fun ops7_7 => ?_)
  · refine ⟨fun o ho vs Rs f' S' w hp hf hx hS hR hs => ?_⟩
    obtain rfl := Option.some.inj ho
    obtain ⟨hv1, hR1⟩ := (spe hA.2.1 hs7_1 (hp 1 (by kernel_rfl)))
    obtain ⟨hv6, hR6⟩ := (spe hA.2.2 hs7_6 (hp 6 (by kernel_rfl)))
    exact opv (.bool (decide (a1.1 < v0.1.1))) hA.1 hs7_7 hon (fr_next (fr_next (rfl) ((hf 1 10 (by kernel_rfl) rfl).trans hv1)) ((hf 6 15 (by kernel_rfl) rfl).trans hv6))
  obtain ⟨s7_8, hs7_8⟩ := exv (.bool (decide (a1.1 < v0.1.1)))
  refine have_opa alloc_Alloc_check.tab5 4 8 (fun sp => sp 8 = s7_8 ∧ sp 7 = s7_7) (fun sp on hA hon => ?_) (fun ops7_8 => ?_)
  · refine ⟨fun o ho vs Rs f' S' w hp hf hx hS hR hs => ?_⟩
    obtain rfl := Option.some.inj ho
    obtain ⟨hv7, hR7⟩ := (spe hA.2 hs7_7 (hp 7 (by kernel_rfl)))
    exact opv (.bool (decide (a1.1 < v0.1.1))) hA.1 hs7_8 hon (fr_next (rfl) ((hf 7 16 (by kernel_rfl) rfl).trans hv7))
  by_cases q8 : a1.1 < v0.1.1
  · replace H := ite_t q8 H
    obtain ⟨s7_14, hs7_14⟩ := exv (.bool true)
    refine have_opa alloc_Alloc_check.tab5 4 14 (fun sp => sp 14 = s7_14 ∧ sp 8 = s7_8 ∧ sp 13 = spu) (fun sp on hA hon => ?_) (fun ops7_14 => ?_)
    · refine ⟨fun o ho vs Rs f' S' w hp hf hx hS hR hs => ?_⟩
      obtain rfl := Option.some.inj ho
      obtain ⟨hv8, hR8⟩ := (spe hA.2.1 hs7_8 (hp 8 (by kernel_rfl)))
      obtain ⟨hv13, hR13⟩ := (spe hA.2.2 rfl (hp 13 (by kernel_rfl)) : spu _ _)
      exact opv (.bool true) hA.1 hs7_14 hon (fr_next (fr_next (rfl) (((hf 8 17 (by kernel_rfl) rfl).trans hv8).trans (congrArg Value.bool (show (decide (a1.1 < v0.1.1)) = true from dec_t q8)))) ((hf 13 22 (by kernel_rfl) rfl).trans hv13))
    obtain ⟨s7_15, hs7_15⟩ := exv (.bool true)
    refine have_opa alloc_Alloc_check.tab5 4 15 (fun sp => sp 15 = s7_15 ∧ sp 14 = s7_14) (fun sp on hA hon => ?_) (fun ops7_15 => ?_)
    · refine ⟨fun o ho vs Rs f' S' w hp hf hx hS hR hs => ?_⟩
      obtain rfl := Option.some.inj ho
      obtain ⟨hv14, hR14⟩ := (spe hA.2 hs7_14 (hp 14 (by kernel_rfl)))
      exact opv (.bool true) hA.1 hs7_15 hon (fr_next (rfl) ((hf 14 23 (by kernel_rfl) rfl).trans hv14))
    refine cs_draw alloc_Alloc_check.tab5 23 4 (spl [s7_0, s7_1, s7_2, s7_3, s7_4, s7_5, s7_6, s7_7, s7_8, spu, spu, spu, spu, spu, s7_14, s7_15, spu, spu, spu, spu, spu, spu, spu]) (onl [true, true, true, true, true, true, true, true, true, false, false, false, false, false, true, true, false, false, false, false, false, false, false]) (by kernel_rfl) (by kernel_rfl) (by kernel_rfl) (by kernel_rfl) (rs := [_, _, _]) rfl (by kernel_rfl) (by kernel_rfl) (all_snoc (all_snoc (all_snoc (all_snoc (all_snoc (all_snoc (all_snoc (all_snoc (all_snoc (all_snoc (all_snoc (all_snoc (all_snoc (all_snoc (all_snoc (all_snoc (all_snoc (all_snoc (all_snoc (all_snoc (all_snoc (all_snoc (all_snoc (all_nil) (ops7_0 _ _ rfl rfl)) (ops7_1 _ _ ⟨rfl, rfl⟩ rfl)) (ops7_2 _ _ rfl rfl)) (ops7_3 _ _ ⟨rfl, rfl⟩ rfl)) (ops7_4 _ _ ⟨rfl, rfl⟩ rfl)) (ops7_5 _ _ ⟨rfl, rfl⟩ rfl)) (ops7_6 _ _ ⟨rfl, rfl⟩ rfl)) (ops7_7 _ _ ⟨rfl, rfl, rfl⟩ rfl)) (ops7_8 _ _ ⟨rfl, rfl⟩ rfl)) (op_offi 9 8 17 false rfl rfl (by kernel_rfl) (by kernel_rfl) rfl (fun v R h => by rw [hs7_8] at h; obtain ⟨h, _⟩ := h; exact h.trans (congrArg Value.bool (show (decide (a1.1 < v0.1.1)) = true from dec_t q8))) rfl rfl)) (op_offi 10 8 17 false rfl rfl (by kernel_rfl) (by kernel_rfl) rfl (fun v R h => by rw [hs7_8] at h; obtain ⟨h, _⟩ := h; exact h.trans (congrArg Value.bool (show (decide (a1.1 < v0.1.1)) = true from dec_t q8))) rfl rfl)) (op_offi 11 8 17 false rfl rfl (by kernel_rfl) (by kernel_rfl) rfl (fun v R h => by rw [hs7_8] at h; obtain ⟨h, _⟩ := h; exact h.trans (congrArg Value.bool (show (decide (a1.1 < v0.1.1)) = true from dec_t q8))) rfl rfl)) (op_offi 12 8 17 false rfl rfl (by kernel_rfl) (by kernel_rfl) rfl (fun v R h => by rw [hs7_8] at h; obtain ⟨h, _⟩ := h; exact h.trans (congrArg Value.bool (show (decide (a1.1 < v0.1.1)) = true from dec_t q8))) rfl rfl)) (op_offi 13 8 17 false rfl rfl (by kernel_rfl) (by kernel_rfl) rfl (fun v R h => by rw [hs7_8] at h; obtain ⟨h, _⟩ := h; exact h.trans (congrArg Value.bool (show (decide (a1.1 < v0.1.1)) = true from dec_t q8))) rfl rfl)) (ops7_14 _ _ ⟨rfl, rfl, rfl⟩ rfl)) (ops7_15 _ _ ⟨rfl, rfl⟩ rfl)) (op_offi 16 15 24 false rfl rfl (by kernel_rfl) (by kernel_rfl) rfl (fun v R h => by rw [hs7_15] at h; obtain ⟨h, _⟩ := h; exact h) rfl rfl)) (op_offi 17 15 24 false rfl rfl (by kernel_rfl) (by kernel_rfl) rfl (fun v R h => by rw [hs7_15] at h; obtain ⟨h, _⟩ := h; exact h) rfl rfl)) (op_offi 18 15 24 false rfl rfl (by kernel_rfl) (by kernel_rfl) rfl (fun v R h => by rw [hs7_15] at h; obtain ⟨h, _⟩ := h; exact h) rfl rfl)) (op_offi 19 15 24 false rfl rfl (by kernel_rfl) (by kernel_rfl) rfl (fun v R h => by rw [hs7_15] at h; obtain ⟨h, _⟩ := h; exact h) rfl rfl)) (op_offi 20 15 24 false rfl rfl (by kernel_rfl) (by kernel_rfl) rfl (fun v R h => by rw [hs7_15] at h; obtain ⟨h, _⟩ := h; exact h) rfl rfl)) (op_offi 21 15 24 false rfl rfl (by kernel_rfl) (by kernel_rfl) rfl (fun v R h => by rw [hs7_15] at h; obtain ⟨h, _⟩ := h; exact h) rfl rfl)) (op_offi 22 15 24 false rfl rfl (by kernel_rfl) (by kernel_rfl) rfl (fun v R h => by rw [hs7_15] at h; obtain ⟨h, _⟩ := h; exact h) rfl rfl)) ?_
    intro vs Rs f' S' hp hf hx hS hR
    obtain ⟨hv15, hR15⟩ := (spe rfl hs7_15 (hp 15 (by kernel_rfl)))
    obtain ⟨hv17, hR17⟩ := (spe rfl rfl (hp 17 (by kernel_rfl)) : spu _ _)
    obtain ⟨hv22, hR22⟩ := (spe rfl rfl (hp 22 (by kernel_rfl)) : spu _ _)
    refine ls_fr (F := upd f' 24 (.bool true)) (fr_next (rfl) ((hf 15 24 (by kernel_rfl) rfl).trans hv15)) ?_
    refine ls_sub (sput (sput (sput s0 0 (some (Ck.var 66 pg0 ((([Value.int .i64 v0.1.1] ++ [Value.int .i64 v0.1.2]) ++ ([Value.bool v0.2.1] ++ ([Value.int .i64 v0.2.2.1] ++ ([Value.slice A0_3 v0.2.2.2.1.length c0_3] ++ ([Value.map (some r0_4)] ++ [Value.slice A0_5 v0.2.2.2.2.2.length c0_5]))))))))) 1 (some (Ck.m1 r0_4 w0_4.1 A0_4 w0_4.2.length c0_4))) 2 (some (Ck.sl T24 A0_4 c0_4 w0_4.2))) (sub_put ((hS 2 (by kernel_rfl)).trans (by exact rfl)) (sub_put ((hS 1 (by kernel_rfl)).trans (by exact rfl)) (sub_put ((hS 0 (by kernel_rfl)).trans (by exact rfl)) (sub_nil _)))) ?_
    refine lofx 15 24 false true ?_
    refine lv (.bool true) ?_
    refine lv (.bool true) ?_
    refine ls_end ?_
    refine qn_then ?_
    refine cs_true (by kernel_rfl) ?_
    refine cs_seq ?_
    refine cs_region (l := [_]) ?_
    refine lv (.int .i64 (2 : Int)) ?_
    refine ls_end ?_
    refine qn_then ?_
    refine cs_ret' ?_
    refine qr_block ?_
    refine qr_then ?_
    obtain rfl := Option.some.inj H
    refine qr_res (rs := [_]) rfl (fun w' hs => ⟨[.int .i64 (2 : Int)], (res_tmp (by kernel_rfl) (.nil)), (), rfl, hs.pick (ts := [0, 1, 2]) (cs := [Ck.var 66 pg0 ((([Value.int .i64 v0.1.1] ++ [Value.int .i64 v0.1.2]) ++ ([Value.bool v0.2.1] ++ ([Value.int .i64 v0.2.2.1] ++ ([Value.slice A0_3 v0.2.2.2.1.length c0_3] ++ ([Value.map (some r0_4)] ++ [Value.slice A0_5 v0.2.2.2.2.2.length c0_5])))))), Ck.m1 r0_4 w0_4.1 A0_4 w0_4.2.length c0_4, Ck.sl T24 A0_4 c0_4 w0_4.2]) ⟨by exact rfl, by exact rfl, by exact rfl, trivial⟩ (by decide)⟩)
  replace H := ite_f q8 H
  obtain ⟨s7_9, hs7_9⟩ := exv (.pointer (some ⟨g1, (0 + 0), none⟩))
  refine have_opa alloc_Alloc_check.tab5 4 9 (fun sp => sp 9 = s7_9 ∧ sp 8 = s7_8) (fun sp on hA hon => ?_) (fun ops7_9 => ?_)
  · refine ⟨fun o ho vs Rs f' S' w hp hf hx hS hR hs => ?_⟩
    obtain rfl := Option.some.inj ho
    obtain ⟨hv8, hR8⟩ := (spe hA.2 hs7_8 (hp 8 (by kernel_rfl)))
    rw [hA.1, hs7_9]
    refine And.intro (fun a ha => (want_is (j := 8) (t := 17) (r := true) rfl rfl (by kernel_rfl) (((hf 8 17 (by kernel_rfl) rfl).trans hv8).trans (congrArg Value.bool (show (decide (a1.1 < v0.1.1)) = false from dec_f q8))) rfl a ha).trans hon.symm) (And.intro (fun _ => ?_) (fun h => by rw [hon] at h; cases h))
    have hF := fr_next (fr_next (rfl) ((hx 3 (by kernel_rfl)).trans (by kernel_rfl : (_ : Value) = .pointer (some ⟨g1, 0, none⟩)))) (((hf 8 17 (by kernel_rfl) rfl).trans hv8).trans (congrArg Value.bool (show (decide (a1.1 < v0.1.1)) = false from dec_f q8)))
    refine ls_fr hF ?_
    refine lv (.pointer (some ⟨g1, (0 + 0), none⟩)) ?_
    exact ls_fin s0 _ (congrArg (fun z => upd z 18 _) hF.symm) ⟨rfl, rfl⟩ (sub_nil _)
  obtain ⟨s7_10, hs7_10⟩ := exv (.int .i64 a1.1)
  refine have_opa alloc_Alloc_check.tab5 4 10 (fun sp => sp 10 = s7_10 ∧ sp 8 = s7_8 ∧ sp 9 = s7_9) (fun sp on hA hon => ?_) (fun ops7_10 => ?_)
  · refine ⟨fun o ho vs Rs f' S' w hp hf hx hS hR hs => ?_⟩
    obtain rfl := Option.some.inj ho
    obtain ⟨hv8, hR8⟩ := (spe hA.2.1 hs7_8 (hp 8 (by kernel_rfl)))
    obtain ⟨hv9, hR9⟩ := (spe hA.2.2 hs7_9 (hp 9 (by kernel_rfl)))
    rw [hA.1, hs7_10]
    refine And.intro (fun a ha => (want_is (j := 8) (t := 17) (r := true) rfl rfl (by kernel_rfl) (((hf 8 17 (by kernel_rfl) rfl).trans hv8).trans (congrArg Value.bool (show (decide (a1.1 < v0.1.1)) = false from dec_f q8))) rfl a ha).trans hon.symm) (And.intro (fun _ => ?_) (fun h => by rw [hon] at h; cases h))
    have hF := fr_next (fr_next (rfl) (((hf 8 17 (by kernel_rfl) rfl).trans hv8).trans (congrArg Value.bool (show (decide (a1.1 < v0.1.1)) = false from dec_f q8)))) ((hf 9 18 (by kernel_rfl) rfl).trans hv9)
    refine ls_fr hF ?_
    refine ls_load (a0 := ⟨g1, (0 + 0), none⟩) (v := .int .i64 a1.1) (de := (TypeDesc.int .i64)) rfl rfl (by kernel_rfl) rfl (by kernel_rfl) (by kernel_rfl) (by kernel_rfl) (fun w1 hs1 => cell_step hs1.below.bw (hs.var (k := 3) ((hS 3 (by kernel_rfl)).trans (by exact rfl)) (Sub4.trans (Sub4.all _) (Sub4.head _ _)))) ?_
    exact ls_fin s0 _ (congrArg (fun z => upd z 19 _) hF.symm) ⟨rfl, rfl⟩ (sub_nil _)
  obtain ⟨s7_11, hs7_11⟩ := exv (.pointer (some ⟨g1, (0 + 1), none⟩))
  refine have_opa alloc_Alloc_check.tab5 4 11 (fun sp => sp 11 = s7_11 ∧ sp 8 = s7_8) (fun sp on hA hon => ?_) (fun ops7_11 => ?_)
  · refine ⟨fun o ho vs Rs f' S' w hp hf hx hS hR hs => ?_⟩
    obtain rfl := Option.some.inj ho
    obtain ⟨hv8, hR8⟩ := (spe hA.2 hs7_8 (hp 8 (by kernel_rfl)))
    rw [hA.1, hs7_11]
    refine And.intro (fun a ha => (want_is (j := 8) (t := 17) (r := true) rfl rfl (by kernel_rfl) (((hf 8 17 (by kernel_rfl) rfl).trans hv8).trans (congrArg Value.bool (show (decide (a1.1 < v0.1.1)) = false from dec_f q8))) rfl a ha).trans hon.symm) (And.intro (fun _ => ?_) (fun h => by rw [hon] at h; cases h))
    have hF := fr_next (fr_next (rfl) ((hx 3 (by kernel_rfl)).trans (by kernel_rfl : (_ : Value) = .pointer (some ⟨g1, 0, none⟩)))) (((hf 8 17 (by kernel_rfl) rfl).trans hv8).trans (congrArg Value.bool (show (decide (a1.1 < v0.1.1)) = false from dec_f q8)))
    refine ls_fr hF ?_
    refine lv (.pointer (some ⟨g1, (0 + 1), none⟩)) ?_
    exact ls_fin s0 _ (congrArg (fun z => upd z 20 _) hF.symm) ⟨rfl, rfl⟩ (sub_nil _)
  obtain ⟨s7_12, hs7_12⟩ := exv (.int .i64 a1.2)
  refine have_opa alloc_Alloc_check.tab5 4 12 (fun sp => sp 12 = s7_12 ∧ sp 8 = s7_8 ∧ sp 11 = s7_11) (fun sp on hA hon => ?_) (fun ops7_12 => ?_)
  · refine ⟨fun o ho vs Rs f' S' w hp hf hx hS hR hs => ?_⟩
    obtain rfl := Option.some.inj ho
    obtain ⟨hv8, hR8⟩ := (spe hA.2.1 hs7_8 (hp 8 (by kernel_rfl)))
    obtain ⟨hv11, hR11⟩ := (spe hA.2.2 hs7_11 (hp 11 (by kernel_rfl)))
    rw [hA.1, hs7_12]
    refine And.intro (fun a ha => (want_is (j := 8) (t := 17) (r := true) rfl rfl (by kernel_rfl) (((hf 8 17 (by kernel_rfl) rfl).trans hv8).trans (congrArg Value.bool (show (decide (a1.1 < v0.1.1)) = false from dec_f q8))) rfl a ha).trans hon.symm) (And.intro (fun _ => ?_) (fun h => by rw [hon] at h; cases h))
    have hF := fr_next (fr_next (rfl) (((hf 8 17 (by kernel_rfl) rfl).trans hv8).trans (congrArg Value.bool (show (decide (a1.1 < v0.1.1)) = false from dec_f q8)))) ((hf 11 20 (by kernel_rfl) rfl).trans hv11)
    refine ls_fr hF ?_
    refine ls_load (a0 := ⟨g1, (0 + 1), none⟩) (v := .int .i64 a1.2) (de := (TypeDesc.int .i64)) rfl rfl (by kernel_rfl) rfl (by kernel_rfl) (by kernel_rfl) (by kernel_rfl) (fun w1 hs1 => cell_step hs1.below.bw (hs.var (k := 3) ((hS 3 (by kernel_rfl)).trans (by exact rfl)) (Sub4.trans (Sub4.all _) (Sub4.skip (n := 1) (len1 _) (Sub4.all _))))) ?_
    exact ls_fin s0 _ (congrArg (fun z => upd z 21 _) hF.symm) ⟨rfl, rfl⟩ (sub_nil _)
  obtain ⟨s7_13, hs7_13⟩ := exv (.bool (decide (a1.1 ≥ a1.2)))
  refine have_opa alloc_Alloc_check.tab5 4 13 (fun sp => sp 13 = s7_13 ∧ sp 8 = s7_8 ∧ sp 10 = s7_10 ∧ sp 12 = s7_12) (fun sp on hA hon => ?_) (fun ops7_13 => ?_)
  · refine ⟨fun o ho vs Rs f' S' w hp hf hx hS hR hs => ?_⟩
    obtain rfl := Option.some.inj ho
    obtain ⟨hv8, hR8⟩ := (spe hA.2.1 hs7_8 (hp 8 (by kernel_rfl)))
    obtain ⟨hv10, hR10⟩ := (spe hA.2.2.1 hs7_10 (hp 10 (by kernel_rfl)))
    obtain ⟨hv12, hR12⟩ := (spe hA.2.2.2 hs7_12 (hp 12 (by kernel_rfl)))
    rw [hA.1, hs7_13]
    refine And.intro (fun a ha => (want_is (j := 8) (t := 17) (r := true) rfl rfl (by kernel_rfl) (((hf 8 17 (by kernel_rfl) rfl).trans hv8).trans (congrArg Value.bool (show (decide (a1.1 < v0.1.1)) = false from dec_f q8))) rfl a ha).trans hon.symm) (And.intro (fun _ => ?_) (fun h => by rw [hon] at h; cases h))
    have hF := fr_next (fr_next (fr_next (rfl) (((hf 8 17 (by kernel_rfl) rfl).trans hv8).trans (congrArg Value.bool (show (decide (a1.1 < v0.1.1)) = false from dec_f q8)))) ((hf 10 19 (by kernel_rfl) rfl).trans hv10)) ((hf 12 21 (by kernel_rfl) rfl).trans hv12)
    refine ls_fr hF ?_
    refine lv (.bool (decide (a1.1 ≥ a1.2))) ?_
    exact ls_fin s0 _ (congrArg (fun z => upd z 22 _) hF.symm) ⟨rfl, rfl⟩ (sub_nil _)
  obtain ⟨s7_14, hs7_14⟩ := exv (.bool (decide (a1.1 ≥ a1.2)))
  refine have_opa alloc_Alloc_check.tab5 4 14 (fun sp => sp 14 = s7_14 ∧ sp 8 = s7_8 ∧ sp 13 = s7_13) (fun sp on hA hon => ?_) (fun ops7_14 => ?_)
  · refine ⟨fun o ho vs Rs f' S' w hp hf hx hS hR hs => ?_⟩
    obtain rfl := Option.some.inj ho
    obtain ⟨hv8, hR8⟩ := (spe hA.2.1 hs7_8 (hp 8 (by kernel_rfl)))
    obtain ⟨hv13, hR13⟩ := (spe hA.2.2 hs7_13 (hp 13 (by kernel_rfl)))
    exact opv (.bool (decide (a1.1 ≥ a1.2))) hA.1 hs7_14 hon (fr_next (fr_next (rfl) (((hf 8 17 (by kernel_rfl) rfl).trans hv8).trans (congrArg Value.bool (show (decide (a1.1 < v0.1.1)) = false from dec_f q8)))) ((hf 13 22 (by kernel_rfl) rfl).trans hv13))
  obtain ⟨s7_15, hs7_15⟩ := exv (.bool (decide (a1.1 ≥ a1.2)))
  refine have_opa alloc_Alloc_check.tab5 4 15 (fun sp => sp 15 = s7_15 ∧ sp 14 = s7_14) (fun sp on hA hon => ?_) (fun ops7_15 => ?_)
  · refine ⟨fun o ho vs Rs f' S' w hp hf hx hS hR hs => ?_⟩
    obtain rfl := Option.some.inj ho
    obtain ⟨hv14, hR14⟩ := (spe hA.2 hs7_14 (hp 14 (by kernel_rfl)))
    exact opv (.bool (decide (a1.1 ≥ a1.2))) hA.1 hs7_15 hon (fr_next (rfl) ((hf 14 23 (by kernel_rfl) rfl).trans hv14))
  by_cases q9 : a1.1 ≥ a1.2
  · replace H := ite_t q9 H
    refine cs_draw alloc_Alloc_check.tab5 23 4 (spl [s7_0, s7_1, s7_2, s7_3, s7_4, s7_5, s7_6, s7_7, s7_8, s7_9, s7_10, s7_11, s7_12, s7_13, s7_14, s7_15, spu, spu, spu, spu, spu, spu, spu]) (onl [true, true, true, true, true, true, true, true, true, true, true, true, true, true, true, true, false, false, false, false, false, false, false]) (by kernel_rfl) (by kernel_rfl) (by kernel_rfl) (by kernel_rfl) (rs := [_, _, _]) rfl (by kernel_rfl) (by kernel_rfl) (all_snoc (all_snoc (all_snoc (all_snoc (all_snoc (all_snoc (all_snoc (all_snoc (all_snoc (all_snoc (all_snoc (all_snoc (all_snoc (all_snoc (all_snoc (all_snoc (all_snoc (all_snoc (all_snoc (all_snoc (all_snoc (all_snoc (all_snoc (all_nil) (ops7_0 _ _ rfl rfl)) (ops7_1 _ _ ⟨rfl, rfl⟩ rfl)) (ops7_2 _ _ rfl rfl)) (ops7_3 _ _ ⟨rfl, rfl⟩ rfl)) (ops7_4 _ _ ⟨rfl, rfl⟩ rfl)) (ops7_5 _ _ ⟨rfl, rfl⟩ rfl)) (ops7_6 _ _ ⟨rfl, rfl⟩ rfl)) (ops7_7 _ _ ⟨rfl, rfl, rfl⟩ rfl)) (ops7_8 _ _ ⟨rfl, rfl⟩ rfl)) (ops7_9 _ _ ⟨rfl, rfl⟩ rfl)) (ops7_10 _ _ ⟨rfl, rfl, rfl⟩ rfl)) (ops7_11 _ _ ⟨rfl, rfl⟩ rfl)) (ops7_12 _ _ ⟨rfl, rfl, rfl⟩ rfl)) (ops7_13 _ _ ⟨rfl, rfl, rfl, rfl⟩ rfl)) (ops7_14 _ _ ⟨rfl, rfl, rfl⟩ rfl)) (ops7_15 _ _ ⟨rfl, rfl⟩ rfl)) (op_offi 16 15 24 false rfl rfl (by kernel_rfl) (by kernel_rfl) rfl (fun v R h => by rw [hs7_15] at h; obtain ⟨h, _⟩ := h; exact h.trans (congrArg Value.bool (show (decide (a1.1 ≥ a1.2)) = true from dec_t q9))) rfl rfl)) (op_offi 17 15 24 false rfl rfl (by kernel_rfl) (by kernel_rfl) rfl (fun v R h => by rw [hs7_15] at h; obtain ⟨h, _⟩ := h; exact h.trans (congrArg Value.bool (show (decide (a1.1 ≥ a1.2)) = true from dec_t q9))) rfl rfl)) (op_offi 18 15 24 false rfl rfl (by kernel_rfl) (by kernel_rfl) rfl (fun v R h => by rw [hs7_15] at h; obtain ⟨h, _⟩ := h; exact h.trans (congrArg Value.bool (show (decide (a1.1 ≥ a1.2)) = true from dec_t q9))) rfl rfl)) (op_offi 19 15 24 false rfl rfl (by kernel_rfl) (by kernel_rfl) rfl (fun v R h => by rw [hs7_15] at h; obtain ⟨h, _⟩ := h; exact h.trans (congrArg Value.bool (show (decide (a1.1 ≥ a1.2)) = true from dec_t q9))) rfl rfl)) (op_offi 20 15 24 false rfl rfl (by kernel_rfl) (by kernel_rfl) rfl (fun v R h => by rw [hs7_15] at h; obtain ⟨h, _⟩ := h; exact h.trans (congrArg Value.bool (show (decide (a1.1 ≥ a1.2)) = true from dec_t q9))) rfl rfl)) (op_offi 21 15 24 false rfl rfl (by kernel_rfl) (by kernel_rfl) rfl (fun v R h => by rw [hs7_15] at h; obtain ⟨h, _⟩ := h; exact h.trans (congrArg Value.bool (show (decide (a1.1 ≥ a1.2)) = true from dec_t q9))) rfl rfl)) (op_offi 22 15 24 false rfl rfl (by kernel_rfl) (by kernel_rfl) rfl (fun v R h => by rw [hs7_15] at h; obtain ⟨h, _⟩ := h; exact h.trans (congrArg Value.bool (show (decide (a1.1 ≥ a1.2)) = true from dec_t q9))) rfl rfl)) ?_
    intro vs Rs f' S' hp hf hx hS hR
    obtain ⟨hv15, hR15⟩ := (spe rfl hs7_15 (hp 15 (by kernel_rfl)))
    obtain ⟨hv17, hR17⟩ := (spe rfl rfl (hp 17 (by kernel_rfl)) : spu _ _)
    obtain ⟨hv22, hR22⟩ := (spe rfl rfl (hp 22 (by kernel_rfl)) : spu _ _)
    refine ls_fr (F := upd f' 24 (.bool (decide (a1.1 ≥ a1.2)))) (fr_next (rfl) ((hf 15 24 (by kernel_rfl) rfl).trans hv15)) ?_
    refine ls_sub (sput (sput (sput s0 0 (some (Ck.var 66 pg0 ((([Value.int .i64 v0.1.1] ++ [Value.int .i64 v0.1.2]) ++ ([Value.bool v0.2.1] ++ ([Value.int .i64 v0.2.2.1] ++ ([Value.slice A0_3 v0.2.2.2.1.length c0_3] ++ ([Value.map (some r0_4)] ++ [Value.slice A0_5 v0.2.2.2.2.2.length c0_5]))))))))) 1 (some (Ck.m1 r0_4 w0_4.1 A0_4 w0_4.2.length c0_4))) 2 (some (Ck.sl T24 A0_4 c0_4 w0_4.2))) (sub_put ((hS 2 (by kernel_rfl)).trans (by exact rfl)) (sub_put ((hS 1 (by kernel_rfl)).trans (by exact rfl)) (sub_put ((hS 0 (by kernel_rfl)).trans (by exact rfl)) (sub_nil _)))) ?_
    refine ls_know (c := true) (dec_t q9) 24 (by kernel_rfl) ?_
    refine lofx 15 24 false true ?_
    refine lv (.bool true) ?_
    refine lv (.bool true) ?_
    refine ls_end ?_
    refine qn_then ?_
    refine cs_true (by kernel_rfl) ?_
    refine cs_seq ?_
    refine cs_region (l := [_]) ?_
    refine lv (.int .i64 (2 : Int)) ?_
    refine ls_end ?_
    refine qn_then ?_
    refine cs_ret' ?_
    refine qr_block ?_
    refine qr_then ?_
    obtain rfl := Option.some.inj H
    refine qr_res (rs := [_]) rfl (fun w' hs => ⟨[.int .i64 (2 : Int)], (res_tmp (by kernel_rfl) (.nil)), (), rfl, hs.pick (ts := [0, 1, 2]) (cs := [Ck.var 66 pg0 ((([Value.int .i64 v0.1.1] ++ [Value.int .i64 v0.1.2]) ++ ([Value.bool v0.2.1] ++ ([Value.int .i64 v0.2.2.1] ++ ([Value.slice A0_3 v0.2.2.2.1.length c0_3] ++ ([Value.map (some r0_4)] ++ [Value.slice A0_5 v0.2.2.2.2.2.length c0_5])))))), Ck.m1 r0_4 w0_4.1 A0_4 w0_4.2.length c0_4, Ck.sl T24 A0_4 c0_4 w0_4.2]) ⟨by exact rfl, by exact rfl, by exact rfl, trivial⟩ (by decide)⟩)
  replace H := ite_f q9 H
  obtain ⟨s7_16, hs7_16⟩ := exv (.pointer (some ⟨g1, (0 + 1), none⟩))
  refine have_opa alloc_Alloc_check.tab5 4 16 (fun sp => sp 16 = s7_16 ∧ sp 15 = s7_15) (fun sp on hA hon => ?_) (fun ops7_16 => ?_)
  · refine ⟨fun o ho vs Rs f' S' w hp hf hx hS hR hs => ?_⟩
    obtain rfl := Option.some.inj ho
    obtain ⟨hv15, hR15⟩ := (spe hA.2 hs7_15 (hp 15 (by kernel_rfl)))
    rw [hA.1, hs7_16]
    refine And.intro (fun a ha => (want_is (j := 15) (t := 24) (r := true) rfl rfl (by kernel_rfl) (((hf 15 24 (by kernel_rfl) rfl).trans hv15).trans (congrArg Value.bool (show (decide (a1.1 ≥ a1.2)) = false from dec_f q9))) rfl a ha).trans hon.symm) (And.intro (fun _ => ?_) (fun h => by rw [hon] at h; cases h))
    have hF := fr_next (fr_next (rfl) ((hx 3 (by kernel_rfl)).trans (by kernel_rfl : (_ : Value) = .pointer (some ⟨g1, 0, none⟩)))) (((hf 15 24 (by kernel_rfl) rfl).trans hv15).trans (congrArg Value.bool (show (decide (a1.1 ≥ a1.2)) = false from dec_f q9)))
    refine ls_fr hF ?_
    refine lv (.pointer (some ⟨g1, (0 + 1), none⟩)) ?_
    exact ls_fin s0 _ (congrArg (fun z => upd z 25 _) hF.symm) ⟨rfl, rfl⟩ (sub_nil _)
  obtain ⟨s7_17, hs7_17⟩ := exv (.int .i64 a1.2)
  refine have_opa alloc_Alloc_check.tab5 4 17 (fun sp => sp 17 = s7_17 ∧ sp 15 = s7_15 ∧ sp 16 = s7_16) (fun sp on hA hon => ?_) (fun ops7_17 => ?_)
  · refine ⟨fun o ho vs Rs f' S' w hp hf hx hS hR hs => ?_⟩
    obtain rfl := Option.some.inj ho
    obtain ⟨hv15, hR15⟩ := (spe hA.2.1 hs7_15 (hp 15 (by kernel_rfl)))
    obtain ⟨hv16, hR16⟩ := (spe hA.2.2 hs7_16 (hp 16 (by kernel_rfl)))
    rw [hA.1, hs7_17]
    refine And.intro (fun a ha => (want_is (j := 15) (t := 24) (r := true) rfl rfl (by kernel_rfl) (((hf 15 24 (by kernel_rfl) rfl).trans hv15).trans (congrArg Value.bool (show (decide (a1.1 ≥ a1.2)) = false from dec_f q9))) rfl a ha).trans hon.symm) (And.intro (fun _ => ?_) (fun h => by rw [hon] at h; cases h))
    have hF := fr_next (fr_next (rfl) (((hf 15 24 (by kernel_rfl) rfl).trans hv15).trans (congrArg Value.bool (show (decide (a1.1 ≥ a1.2)) = false from dec_f q9)))) ((hf 16 25 (by kernel_rfl) rfl).trans hv16)
    refine ls_fr hF ?_
    refine ls_load (a0 := ⟨g1, (0 + 1), none⟩) (v := .int .i64 a1.2) (de := (TypeDesc.int .i64)) rfl rfl (by kernel_rfl) rfl (by kernel_rfl) (by kernel_rfl) (by kernel_rfl) (fun w1 hs1 => cell_step hs1.below.bw (hs.var (k := 3) ((hS 3 (by kernel_rfl)).trans (by exact rfl)) (Sub4.trans (Sub4.all _) (Sub4.skip (n := 1) (len1 _) (Sub4.all _))))) ?_
    exact ls_fin s0 _ (congrArg (fun z => upd z 26 _) hF.symm) ⟨rfl, rfl⟩ (sub_nil _)
  obtain ⟨s7_18, hs7_18⟩ := exv (.pointer (some ⟨pg0, 0, none⟩))
  refine have_opa alloc_Alloc_check.tab5 4 18 (fun sp => sp 18 = s7_18 ∧ sp 15 = s7_15) (fun sp on hA hon => ?_) (fun ops7_18 => ?_)
  · refine ⟨fun o ho vs Rs f' S' w hp hf hx hS hR hs => ?_⟩
    obtain rfl := Option.some.inj ho
    obtain ⟨hv15, hR15⟩ := (spe hA.2 hs7_15 (hp 15 (by kernel_rfl)))
    rw [hA.1, hs7_18]
    refine And.intro (fun a ha => (want_is (j := 15) (t := 24) (r := true) rfl rfl (by kernel_rfl) (((hf 15 24 (by kernel_rfl) rfl).trans hv15).trans (congrArg Value.bool (show (decide (a1.1 ≥ a1.2)) = false from dec_f q9))) rfl a ha).trans hon.symm) (And.intro (fun _ => ?_) (fun h => by rw [hon] at h; cases h))
    have hF := fr_next (fr_next (rfl) ((hx 0 (by kernel_rfl)).trans (by kernel_rfl : (_ : Value) = .pointer (some ⟨pg0, 0, none⟩)))) (((hf 15 24 (by kernel_rfl) rfl).trans hv15).trans (congrArg Value.bool (show (decide (a1.1 ≥ a1.2)) = false from dec_f q9)))
    refine ls_fr hF ?_
    refine lv (.pointer (some ⟨pg0, 0, none⟩)) ?_
    exact ls_fin s0 _ (congrArg (fun z => upd z 27 _) hF.symm) ⟨rfl, rfl⟩ (sub_nil _)
  obtain ⟨s7_19, hs7_19⟩ := exv (.pointer (some ⟨pg0, 0, none⟩))
  refine have_opa alloc_Alloc_check.tab5 4 19 (fun sp => sp 19 = s7_19 ∧ sp 15 = s7_15 ∧ sp 18 = s7_18) (fun sp on hA hon => ?_) (fun ops7_19 => ?_)
  · refine ⟨fun o ho vs Rs f' S' w hp hf hx hS hR hs => ?_⟩
    obtain rfl := Option.some.inj ho
    obtain ⟨hv15, hR15⟩ := (spe hA.2.1 hs7_15 (hp 15 (by kernel_rfl)))
    obtain ⟨hv18, hR18⟩ := (spe hA.2.2 hs7_18 (hp 18 (by kernel_rfl)))
    rw [hA.1, hs7_19]
    refine And.intro (fun a ha => (want_is (j := 15) (t := 24) (r := true) rfl rfl (by kernel_rfl) (((hf 15 24 (by kernel_rfl) rfl).trans hv15).trans (congrArg Value.bool (show (decide (a1.1 ≥ a1.2)) = false from dec_f q9))) rfl a ha).trans hon.symm) (And.intro (fun _ => ?_) (fun h => by rw [hon] at h; cases h))
    have hF := fr_next (fr_next (rfl) (((hf 15 24 (by kernel_rfl) rfl).trans hv15).trans (congrArg Value.bool (show (decide (a1.1 ≥ a1.2)) = false from dec_f q9)))) ((hf 18 27 (by kernel_rfl) rfl).trans hv18)
    refine ls_fr hF ?_
    refine lv (.pointer (some ⟨pg0, 0, none⟩)) ?_
    exact ls_fin s0 _ (congrArg (fun z => upd z 28 _) hF.symm) ⟨rfl, rfl⟩ (sub_nil _)
  obtain ⟨s7_20, hs7_20⟩ := exv (.pointer (some ⟨pg0, (0 + 0), none⟩))
  refine have_opa alloc_Alloc_check.tab5 4 20 (fun sp => sp 20 = s7_20 ∧ sp 15 = s7_15 ∧ sp 19 = s7_19) (fun sp on hA hon => ?_) (fun ops7_20 => ?_)
  · refine ⟨fun o ho vs Rs f' S' w hp hf hx hS hR hs => ?_⟩
    obtain rfl := Option.some.inj ho
    obtain ⟨hv15, hR15⟩ := (spe hA.2.1 hs7_15 (hp 15 (by kernel_rfl)))
    obtain ⟨hv19, hR19⟩ := (spe hA.2.2 hs7_19 (hp 19 (by kernel_rfl)))
    rw [hA.1, hs7_20]
    refine And.intro (fun a ha => (want_is (j := 15) (t := 24) (r := true) rfl rfl (by kernel_rfl) (((hf 15 24 (by kernel_rfl) rfl).trans hv15).trans (congrArg Value.bool (show (decide (a1.1 ≥ a1.2)) = false from dec_f q9))) rfl a ha).trans hon.symm) (And.intro (fun _ => ?_) (fun h => by rw [hon] at h; cases h))
    have hF := fr_next (fr_next (rfl) (((hf 15 24 (by kernel_rfl) rfl).trans hv15).trans (congrArg Value.bool (show (decide (a1.1 ≥ a1.2)) = false from dec_f q9)))) ((hf 19 28 (by kernel_rfl) rfl).trans hv19)
    refine ls_fr hF ?_
    refine lv (.pointer (some ⟨pg0, (0 + 0), none⟩)) ?_
    exact ls_fin s0 _ (congrArg (fun z => upd z 29 _) hF.symm) ⟨rfl, rfl⟩ (sub_nil _)
  obtain ⟨s7_21, hs7_21⟩ := exv (.pointer (some ⟨pg0, ((0 + 0) + 1), none⟩))
  refine have_opa alloc_Alloc_check.tab5 4 21 (fun sp => sp 21 = s7_21 ∧ sp 15 = s7_15 ∧ sp 20 = s7_20) (fun sp on hA hon => ?_) (fun ops7_21 => ?_)
  · refine ⟨fun o ho vs Rs f' S' w hp hf hx hS hR hs => ?_⟩
    obtain rfl := Option.some.inj ho
    obtain ⟨hv15, hR15⟩ := (spe hA.2.1 hs7_15 (hp 15 (by kernel_rfl)))
    obtain ⟨hv20, hR20⟩ := (spe hA.2.2 hs7_20 (hp 20 (by kernel_rfl)))
    rw [hA.1, hs7_21]
    refine And.intro (fun a ha => (want_is (j := 15) (t := 24) (r := true) rfl rfl (by kernel_rfl) (((hf 15 24 (by kernel_rfl) rfl).trans hv15).trans (congrArg Value.bool (show (decide (a1.1 ≥ a1.2)) = false from dec_f q9))) rfl a ha).trans hon.symm) (And.intro (fun _ => ?_) (fun h => by rw [hon] at h; cases h))
    have hF := fr_next (fr_next (rfl) (((hf 15 24 (by kernel_rfl) rfl).trans hv15).trans (congrArg Value.bool (show (decide (a1.1 ≥ a1.2)) = false from dec_f q9)))) ((hf 20 29 (by kernel_rfl) rfl).trans hv20)
    refine ls_fr hF ?_
    refine lv (.pointer (some ⟨pg0, ((0 + 0) + 1), none⟩)) ?_
    exact ls_fin s0 _ (congrArg (fun z => upd z 30 _) hF.symm) ⟨rfl, rfl⟩ (sub_nil _)
  obtain ⟨s7_22, hs7_22⟩ := exv (.int .i64 v0.1.2)
  refine have_opa alloc_Alloc_check.tab5 4 22 (fun sp => sp 22 = s7_22 ∧ sp 15 = s7_15 ∧ sp 21 = s7_21) (fun sp on hA hon => ?_) (fun ops7_22 => ?_)
  · refine ⟨fun o ho vs Rs f' S' w hp hf hx hS hR hs => ?_⟩
    obtain rfl := Option.some.inj ho
    obtain ⟨hv15, hR15⟩ := (spe hA.2.1 hs7_15 (hp 15 (by kernel_rfl)))
    obtain ⟨hv21, hR21⟩ := (spe hA.2.2 hs7_21 (hp 21 (by kernel_rfl)))
    rw [hA.1, hs7_22]
    refine And.intro (fun a ha => (want_is (j := 15) (t := 24) (r := true) rfl rfl (by kernel_rfl) (((hf 15 24 (by kernel_rfl) rfl).trans hv15).trans (congrArg Value.bool (show (decide (a1.1 ≥ a1.2)) = false from dec_f q9))) rfl a ha).trans hon.symm) (And.intro (fun _ => ?_) (fun h => by rw [hon] at h; cases h))
    have hF := fr_next (fr_next (rfl) (((hf 15 24 (by kernel_rfl) rfl).trans hv15).trans (congrArg Value.bool (show (decide (a1.1 ≥ a1.2)) = false from dec_f q9)))) ((hf 21 30 (by kernel_rfl) rfl).trans hv21)
    refine ls_fr hF ?_
    refine ls_load (a0 := ⟨pg0, ((0 + 0) + 1), none⟩) (v := .int .i64 v0.1.2) (de := (TypeDesc.int .i64)) rfl rfl (by kernel_rfl) rfl (by kernel_rfl) (by kernel_rfl) (by kernel_rfl) (fun w1 hs1 => cell_step hs1.below.bw (hs.var (k := 0) ((hS 0 (by kernel_rfl)).trans (by exact rfl)) (Sub4.trans (Sub4.trans (Sub4.all _) (Sub4.head _ _)) (Sub4.skip (n := 1) (len1 _) (Sub4.all _))))) ?_
    exact ls_fin s0 _ (congrArg (fun z => upd z 31 _) hF.symm) ⟨rfl, rfl⟩ (sub_nil _)
  refine cs_draw alloc_Alloc_check.tab5 23 4 (spl [s7_0, s7_1, s7_2, s7_3, s7_4, s7_5, s7_6, s7_7, s7_8, s7_9, s7_10, s7_11, s7_12, s7_13, s7_14, s7_15, s7_16, s7_17, s7_18, s7_19, s7_20, s7_21, s7_22]) (onl [true, true, true, true, true, true, true, true, true, true, true, true, true, true, true, true, true, true, true, true, true, true, true]) (by kernel_rfl) (by kernel_rfl) (by kernel_rfl) (by kernel_rfl) (rs := [_, _, _]) rfl (by kernel_rfl) (by kernel_rfl) (all_snoc (all_snoc (all_snoc (all_snoc (all_snoc (all_snoc (all_snoc (all_snoc (all_snoc (all_snoc (all_snoc (all_snoc (all_snoc (all_snoc (all_snoc (all_snoc (all_snoc (all_snoc (all_snoc (all_snoc (all_snoc (all_snoc (all_snoc (all_nil) (ops7_0 _ _ rfl rfl)) (ops7_1 _ _ ⟨rfl, rfl⟩ rfl)) (ops7_2 _ _ rfl rfl)) (ops7_3 _ _ ⟨rfl, rfl⟩ rfl)) (ops7_4 _ _ ⟨rfl, rfl⟩ rfl)) (ops7_5 _ _ ⟨rfl, rfl⟩ rfl)) (ops7_6 _ _ ⟨rfl, rfl⟩ rfl)) (ops7_7 _ _ ⟨rfl, rfl, rfl⟩ rfl)) (ops7_8 _ _ ⟨rfl, rfl⟩ rfl)) (ops7_9 _ _ ⟨rfl, rfl⟩ rfl)) (ops7_10 _ _ ⟨rfl, rfl, rfl⟩ rfl)) (ops7_11 _ _ ⟨rfl, rfl⟩ rfl)) (ops7_12 _ _ ⟨rfl, rfl, rfl⟩ rfl)) (ops7_13 _ _ ⟨rfl, rfl, rfl, rfl⟩ rfl)) (ops7_14 _ _ ⟨rfl, rfl, rfl⟩ rfl)) (ops7_15 _ _ ⟨rfl, rfl⟩ rfl)) (ops7_16 _ _ ⟨rfl, rfl⟩ rfl)) (ops7_17 _ _ ⟨rfl, rfl, rfl⟩ rfl)) (ops7_18 _ _ ⟨rfl, rfl⟩ rfl)) (ops7_19 _ _ ⟨rfl, rfl, rfl⟩ rfl)) (ops7_20 _ _ ⟨rfl, rfl, rfl⟩ rfl)) (ops7_21 _ _ ⟨rfl, rfl, rfl⟩ rfl)) (ops7_22 _ _ ⟨rfl, rfl, rfl⟩ rfl)) ?_
  intro vs Rs f' S' hp hf hx hS hR
  obtain ⟨hv15, hR15⟩ := (spe rfl hs7_15 (hp 15 (by kernel_rfl)))
  obtain ⟨hv17, hR17⟩ := (spe rfl hs7_17 (hp 17 (by kernel_rfl)))
  obtain ⟨hv22, hR22⟩ := (spe rfl hs7_22 (hp 22 (by kernel_rfl)))
  refine ls_fr (F := upd (upd (upd f' 24 (.bool (decide (a1.1 ≥ a1.2)))) 26 (.int .i64 a1.2)) 31 (.int .i64 v0.1.2)) (fr_next (fr_next (fr_next (rfl) ((hf 15 24 (by kernel_rfl) rfl).trans hv15)) ((hf 17 26 (by kernel_rfl) rfl).trans hv17)) ((hf 22 31 (by kernel_rfl) rfl).trans hv22)) ?_
  refine ls_sub (sput (sput (sput s0 0 (some (Ck.var 66 pg0 ((([Value.int .i64 v0.1.1] ++ [Value.int .i64 v0.1.2]) ++ ([Value.bool v0.2.1] ++ ([Value.int .i64 v0.2.2.1] ++ ([Value.slice A0_3 v0.2.2.2.1.length c0_3] ++ ([Value.map (some r0_4)] ++ [Value.slice A0_5 v0.2.2.2.2.2.length c0_5]))))))))) 1 (some (Ck.m1 r0_4 w0_4.1 A0_4 w0_4.2.length c0_4))) 2 (some (Ck.sl T24 A0_4 c0_4 w0_4.2))) (sub_put ((hS 2 (by kernel_rfl)).trans (by exact rfl)) (sub_put ((hS 1 (by kernel_rfl)).trans (by exact rfl)) (sub_put ((hS 0 (by kernel_rfl)).trans (by exact rfl)) (sub_nil _)))) ?_
  refine ls_know (c := false) (dec_f q9) 24 (by kernel_rfl) ?_
  refine ls_on (j := 15) (t := 24) (b := false) rfl rfl (by kernel_rfl) (by kernel_rfl) ?_
  refine lv (.bool (decide (a1.2 > v0.1.2))) ?_
  refine lv (.bool (decide (a1.2 > v0.1.2))) ?_
  refine lv (.bool (decide (a1.2 > v0.1.2))) ?_
  refine ls_end ?_
  refine qn_then ?_
  by_cases q10 : a1.2 > v0.1.2
  · replace H := ite_t q10 H
    refine cs_know (c := true) (dec_t q10) 8 (by kernel_rfl) ?_
    refine cs_true (by kernel_rfl) ?_
    refine cs_seq ?_
    refine cs_region (l := [_]) ?_
    refine lv (.int .i64 (2 : Int)) ?_
    refine ls_end ?_
    refine qn_then ?_
    refine cs_ret' ?_
    refine qr_block ?_
    refine qr_then ?_
    obtain rfl := Option.some.inj H
    refine qr_res (rs := [_]) rfl (fun w' hs => ⟨[.int .i64 (2 : Int)], (res_tmp (by kernel_rfl) (.nil)), (), rfl, hs.pick (ts := [0, 1, 2]) (cs := [Ck.var 66 pg0 ((([Value.int .i64 v0.1.1] ++ [Value.int .i64 v0.1.2]) ++ ([Value.bool v0.2.1] ++ ([Value.int .i64 v0.2.2.1] ++ ([Value.slice A0_3 v0.2.2.2.1.length c0_3] ++ ([Value.map (some r0_4)] ++ [Value.slice A0_5 v0.2.2.2.2.2.length c0_5])))))), Ck.m1 r0_4 w0_4.1 A0_4 w0_4.2.length c0_4, Ck.sl T24 A0_4 c0_4 w0_4.2]) ⟨by exact rfl, by exact rfl, by exact rfl, trivial⟩ (by decide)⟩)
  replace H := ite_f q10 H
  refine cs_know (c := false) (dec_f q10) 8 (by kernel_rfl) ?_
  refine cs_false (by kernel_rfl) ?_
  refine cs_skip' ?_
  refine qn_block ?_
  refine qn_then ?_
  refine cs_seq ?_
  refine cs_region (l := [_]) ?_
  refine lv (.int .i64 (0 : Int)) ?_
  refine ls_end ?_
  refine qn_then ?_
  refine cs_ret' ?_
  obtain rfl := Option.some.inj H
  refine qr_res (rs := [_]) rfl (fun w' hs => ⟨[.int .i64 (0 : Int)], (res_tmp (by kernel_rfl) (.nil)), (), rfl, hs.pick (ts := [0, 1, 2]) (cs := [Ck.var 66 pg0 ((([Value.int .i64 v0.1.1] ++ [Value.int .i64 v0.1.2]) ++ ([Value.bool v0.2.1] ++ ([Value.int .i64 v0.2.2.1] ++ ([Value.slice A0_3 v0.2.2.2.1.length c0_3] ++ ([Value.map (some r0_4)] ++ [Value.slice A0_5 v0.2.2.2.2.2.length c0_5])))))), Ck.m1 r0_4 w0_4.1 A0_4 w0_4.2.length c0_4, Ck.sl T24 A0_4 c0_4 w0_4.2]) ⟨by exact rfl, by exact rfl, by exact rfl, trivial⟩ (by decide)⟩)

/-! ### (*shadowbox/alloc.Alloc).used: function 49 -/
def alloc_Alloc_used.f (k : Nat) (v0 : ((Int × Int) × Bool × Int × (List (Int × Int)) × Unit × (List (Int × Int)))) (w0_4 : (Bool × (List (Int × Int)))) (a1 : (Int × Int)) : Option (Int × (Bool × (List (Int × Int)))) :=
  (alloc_Alloc_check.f k (v0.1, v0.2.1, v0.2.2.1, v0.2.2.2.1, (), v0.2.2.2.2.2) (w0_4.1, w0_4.2) a1).bind fun t2 => (if t2 = (0 : Int) then (extent_Meets.f k v0.2.2.2.1 a1).bind fun t6 => (if t6 = true then some ((13 : Int), (w0_4.1, w0_4.2)) else (alloc_Alloc_waiting.f k (v0.1, v0.2.1, v0.2.2.1, v0.2.2.2.1, (), v0.2.2.2.2.2) (w0_4.1, w0_4.2)).bind fun t10 => (extent_Meets.f k t10.1 a1).bind fun t13 => (if t13 = true then some ((13 : Int), (t10.2.1, t10.2.2)) else some (t2, (t10.2.1, t10.2.2)))) else some (t2, (w0_4.1, w0_4.2)))
set_option maxRecDepth 100000 in
set_option maxHeartbeats 4000000 in
theorem alloc_Alloc_used.calls (k : Nat) (pg0 : Nat) (A0_3 : Option Addr) (c0_3 : Nat) (r0_4 : Nat) (A0_5 : Option Addr) (c0_5 : Nat) (v0 : ((Int × Int) × Bool × Int × (List (Int × Int)) × Unit × (List (Int × Int)))) (A0_4 : Option Addr) (c0_4 : Nat) (w0_4 : (Bool × (List (Int × Int)))) (a1 : (Int × Int)) (r : Int × (Bool × (List (Int × Int)))) (b : Bs) (hs0 : St b (stl [Ck.var 66 pg0 ((([Value.int .i64 v0.1.1] ++ [Value.int .i64 v0.1.2]) ++ ([Value.bool v0.2.1] ++ ([Value.int .i64 v0.2.2.1] ++ ([Value.slice A0_3 v0.2.2.2.1.length c0_3] ++ ([Value.map (some r0_4)] ++ [Value.slice A0_5 v0.2.2.2.2.2.length c0_5])))))), Ck.m1 r0_4 w0_4.1 A0_4 w0_4.2.length c0_4, Ck.sl T24 A0_4 c0_4 w0_4.2]) b.w) (R0_3 : Ro b A0_3 (em T24 v0.2.2.2.1)) (C0_3 : v0.2.2.2.1.length ≤ c0_3) (R0_5 : Ro b A0_5 (em T24 v0.2.2.2.2.2)) (C0_5 : v0.2.2.2.2.2.length ≤ c0_5) (H : alloc_Alloc_used.f k v0 w0_4 a1 = some r) :
    Calls Try.prog 49 #[.pointer (some ⟨pg0, 0, none⟩), .agg ⟨([Value.int .i64 a1.1] ++ [Value.int .i64 a1.2])⟩] b.w fun e w' => ∃ x : (Option Addr × Nat), e = .returned (.int .i64 r.1) ∧ St b (stl [Ck.var 66 pg0 ((([Value.int .i64 v0.1.1] ++ [Value.int .i64 v0.1.2]) ++ ([Value.bool v0.2.1] ++ ([Value.int .i64 v0.2.2.1] ++ ([Value.slice A0_3 v0.2.2.2.1.length c0_3] ++ ([Value.map (some r0_4)] ++ [Value.slice A0_5 v0.2.2.2.2.2.length c0_5])))))), Ck.m1 r0_4 r.2.1 x.1 r.2.2.length x.2, Ck.sl T24 x.1 x.2 r.2.2]) w' := by
  unfold alloc_Alloc_used.f at H
  refine enterb (n := 26) Try.func49 rfl (by kernel_rfl) (by kernel_rfl) hs0 ?_
  refine cs_sub (sput (sput (sput s0 0 (some (Ck.var 66 pg0 ((([Value.int .i64 v0.1.1] ++ [Value.int .i64 v0.1.2]) ++ ([Value.bool v0.2.1] ++ ([Value.int .i64 v0.2.2.1] ++ ([Value.slice A0_3 v0.2.2.2.1.length c0_3] ++ ([Value.map (some r0_4)] ++ [Value.slice A0_5 v0.2.2.2.2.2.length c0_5]))))))))) 1 (some (Ck.m1 r0_4 w0_4.1 A0_4 w0_4.2.length c0_4))) 2 (some (Ck.sl T24 A0_4 c0_4 w0_4.2))) (sub_put (by exact rfl) (sub_put (by exact rfl) (sub_put (by exact rfl) (sub_nil _)))) ?_
  refine cs_seq ?_
  refine cs_region (l := [_, _]) ?_
  refine ls_new rfl rfl (by kernel_rfl) 3 (fun g => .pointer (some ⟨g, 0, none⟩)) (.cells ⟨([Value.int .i64 a1.1] ++ [Value.int .i64 a1.2])⟩ 24) (fun w => by kernel_rfl) ?_
  intro g1
  refine lv (.int .i64 (0 : Int)) ?_
  refine ls_end ?_
  refine qn_then ?_
  refine cs_seq ?_
  refine cs_region (l := [_, _, _, _]) ?_
  refine lv (.pointer (some ⟨pg0, 0, none⟩)) ?_
  refine ls_loadagg (a := ⟨g1, 0, none⟩) (sub := ([Value.int .i64 a1.1] ++ [Value.int .i64 a1.2])) rfl rfl (by kernel_rfl) rfl (by kernel_rfl) (by kernel_rfl) (by kernel_rfl) (len_app (len1 _) (len1 _)) (fun w hs => (hs.vars (k := 3) (by exact rfl) (Sub4.all _))) ?_
  obtain ⟨t2, hc3, H⟩ := bind_some H
  refine ls_callb (fid := 51) (vals := #[.pointer (some ⟨pg0, 0, none⟩), .agg ⟨([Value.int .i64 a1.1] ++ [Value.int .i64 a1.2])⟩]) (X := Unit) (fun x => .int .i64 t2) (fun x => stl [Ck.var 66 pg0 ((([Value.int .i64 v0.1.1] ++ [Value.int .i64 v0.1.2]) ++ ([Value.bool v0.2.1] ++ ([Value.int .i64 v0.2.2.1] ++ ([Value.slice A0_3 v0.2.2.2.1.length c0_3] ++ ([Value.map (some r0_4)] ++ [Value.slice A0_5 v0.2.2.2.2.2.length c0_5])))))), Ck.m1 r0_4 w0_4.1 A0_4 w0_4.2.length c0_4, Ck.sl T24 A0_4 c0_4 w0_4.2]) [0, 1, 2] [] [Ck.var 66 pg0 ((([Value.int .i64 v0.1.1] ++ [Value.int .i64 v0.1.2]) ++ ([Value.bool v0.2.1] ++ ([Value.int .i64 v0.2.2.1] ++ ([Value.slice A0_3 v0.2.2.2.1.length c0_3] ++ ([Value.map (some r0_4)] ++ [Value.slice A0_5 v0.2.2.2.2.2.length c0_5])))))), Ck.m1 r0_4 w0_4.1 A0_4 w0_4.2.length c0_4, Ck.sl T24 A0_4 c0_4 w0_4.2] [] 4 rfl rfl (by kernel_rfl) (fun w => by kernel_rfl) ⟨by exact rfl, by exact rfl, by exact rfl, trivial⟩ trivial (by decide) (fun w hs hb => alloc_Alloc_check.calls k pg0 A0_3 c0_3 r0_4 A0_5 c0_5 (v0.1, v0.2.1, v0.2.2.1, v0.2.2.2.1, (), v0.2.2.2.2.2) A0_4 c0_4 (w0_4.1, w0_4.2) a1 t2 (lent b w [Ck.var 66 pg0 ((([Value.int .i64 v0.1.1] ++ [Value.int .i64 v0.1.2]) ++ ([Value.bool v0.2.1] ++ ([Value.int .i64 v0.2.2.1] ++ ([Value.slice A0_3 v0.2.2.2.1.length c0_3] ++ ([Value.map (some r0_4)] ++ [Value.slice A0_5 v0.2.2.2.2.2.length c0_5])))))), Ck.m1 r0_4 w0_4.1 A0_4 w0_4.2.length c0_4, Ck.sl T24 A0_4 c0_4 w0_4.2] []) hb (hs.ro R0_3 _ _) C0_3 (hs.ro R0_5 _ _) C0_5 hc3) ?_
  intro x4
  refine lv (.int .i64 t2) ?_
  refine ls_end ?_
  refine qn_then ?_
  refine cs_seq ?_
  refine cs_seq ?_
  by_cases q5 : t2 = (0 : Int)
  · replace H := ite_t q5 H
    obtain ⟨t6, hc7, H⟩ := bind_some H
    by_cases q9 : t6 = true
    · replace H := ite_t q9 H
      refine cs_sub (sput (sput (sput (sput s0 0 (some (Ck.var 66 pg0 ((([Value.int .i64 v0.1.1] ++ [Value.int .i64 v0.1.2]) ++ ([Value.bool v0.2.1] ++ ([Value.int .i64 v0.2.2.1] ++ ([Value.slice A0_3 v0.2.2.2.1.length c0_3] ++ ([Value.map (some r0_4)] ++ [Value.slice A0_5 v0.2.2.2.2.2.length c0_5]))))))))) 1 (some (Ck.m1 r0_4 w0_4.1 A0_4 w0_4.2.length c0_4))) 2 (some (Ck.sl T24 A0_4 c0_4 w0_4.2))) 3 (some (Ck.var 24 g1 (([Value.int .i64 a1.1] ++ [Value.int .i64 a1.2]))))) (sub_put (by exact rfl) (sub_put (by exact rfl) (sub_put (by exact rfl) (sub_put (by exact rfl) (sub_nil _))))) ?_
      refine cs_chain (l := [_, _, _, _, _, _, _, _, _, _, _, _, _, _, _, _]) [[], [0], [0, 1], [0, 1, 2], [0, 1, 2, 3], [0, 1, 2, 3, 4], [0, 1, 2, 3, 4, 5], [0, 1, 2], [0, 1, 2, 3, 4, 5, 6, 7], [0, 1, 2, 3, 4, 5, 6, 7, 8], [0, 1, 2, 3, 4, 5, 6, 7, 8, 9], [0, 1, 2, 3, 4, 5, 6, 7, 8, 9, 10], [0, 1, 2, 3, 4, 5, 6, 7, 8, 9], [0, 1, 2, 3, 4, 5, 6, 7, 8, 9, 10, 11, 12], [0, 1, 2, 3, 4, 5, 6, 7, 8, 9, 10, 11, 12, 13], [0, 1, 2, 3, 4, 5, 6, 7, 8, 9, 10, 11, 12, 13, 14]] 13 (fun u => [0, 1, 2, 3].contains u) (efl [false, false, false, false, false, false, false, false, true, false, false, false, false]) (pvl [.val (.int .i64 t2), .val (.bool true), .val (.bool true), .val (.pointer (some ⟨pg0, 0, none⟩)), .val (.pointer (some ⟨pg0, 0, none⟩)), .val (.pointer (some ⟨pg0, (0 + 4), none⟩)), .val (.slice A0_3 v0.2.2.2.1.length c0_3), .val (.agg ⟨([Value.int .i64 a1.1] ++ [Value.int .i64 a1.2])⟩), .val (.bool true), .val (.bool true), .val (undef), .val (undef), .val (undef)]) (Esl [fun (es : Nat → Value) (S' : Sto) => S' = sput (sput (sput (sput s0 0 (some (Ck.var 66 pg0 ((([Value.int .i64 v0.1.1] ++ [Value.int .i64 v0.1.2]) ++ ([Value.bool v0.2.1] ++ ([Value.int .i64 v0.2.2.1] ++ ([Value.slice A0_3 v0.2.2.2.1.length c0_3] ++ ([Value.map (some r0_4)] ++ [Value.slice A0_5 v0.2.2.2.2.2.length c0_5]))))))))) 1 (some (Ck.m1 r0_4 w0_4.1 A0_4 w0_4.2.length c0_4))) 2 (some (Ck.sl T24 A0_4 c0_4 w0_4.2))) 3 (some (Ck.var 24 g1 (([Value.int .i64 a1.1] ++ [Value.int .i64 a1.2])))), fun (es : Nat → Value) (S' : Sto) => ∃ (x8 : Unit), es 8 = .bool true ∧ S' = sput (sput (sput (sput s0 0 (some (Ck.var 66 pg0 ((([Value.int .i64 v0.1.1] ++ [Value.int .i64 v0.1.2]) ++ ([Value.bool v0.2.1] ++ ([Value.int .i64 v0.2.2.1] ++ ([Value.slice A0_3 v0.2.2.2.1.length c0_3] ++ ([Value.map (some r0_4)] ++ [Value.slice A0_5 v0.2.2.2.2.2.length c0_5]))))))))) 1 (some (Ck.m1 r0_4 w0_4.1 A0_4 w0_4.2.length c0_4))) 2 (some (Ck.sl T24 A0_4 c0_4 w0_4.2))) 3 (some (Ck.var 24 g1 (([Value.int .i64 a1.1] ++ [Value.int .i64 a1.2]))))] [0, 0, 0, 0, 0, 0, 0, 0, 0, 0, 0, 0, 0, 1]) (nxl [0, 0, 0, 0, 0, 0, 0, 0, 13, 0, 0, 0, 0]) (onl [true, true, true, true, true, true, true, true, true, true, false, false, false]) 8 (by kernel_rfl) (by kernel_rfl) (by kernel_rfl) (by kernel_rfl) (by kernel_rfl) (rs := [_, _, _]) rfl (by kernel_rfl) (by kernel_rfl) (fun es => ?_) ?_ ?_
      · exact (rfl : sput (sput (sput (sput s0 0 (some (Ck.var 66 pg0 ((([Value.int .i64 v0.1.1] ++ [Value.int .i64 v0.1.2]) ++ ([Value.bool v0.2.1] ++ ([Value.int .i64 v0.2.2.1] ++ ([Value.slice A0_3 v0.2.2.2.1.length c0_3] ++ ([Value.map (some r0_4)] ++ [Value.slice A0_5 v0.2.2.2.2.2.length c0_5]))))))))) 1 (some (Ck.m1 r0_4 w0_4.1 A0_4 w0_4.2.length c0_4))) 2 (some (Ck.sl T24 A0_4 c0_4 w0_4.2))) 3 (some (Ck.var 24 g1 (([Value.int .i64 a1.1] ++ [Value.int .i64 a1.2])))) = sput (sput (sput (sput s0 0 (some (Ck.var 66 pg0 ((([Value.int .i64 v0.1.1] ++ [Value.int .i64 v0.1.2]) ++ ([Value.bool v0.2.1] ++ ([Value.int .i64 v0.2.2.1] ++ ([Value.slice A0_3 v0.2.2.2.1.length c0_3] ++ ([Value.map (some r0_4)] ++ [Value.slice A0_5 v0.2.2.2.2.2.length c0_5]))))))))) 1 (some (Ck.m1 r0_4 w0_4.1 A0_4 w0_4.2.length c0_4))) 2 (some (Ck.sl T24 A0_4 c0_4 w0_4.2))) 3 (some (Ck.var 24 g1 (([Value.int .i64 a1.1] ++ [Value.int .i64 a1.2])))))
      · refine all_snoc (all_snoc (all_snoc (all_snoc (all_snoc (all_snoc (all_snoc (all_snoc (all_snoc (all_snoc (all_snoc (all_snoc (all_snoc (all_nil) ?_) ?_) ?_) ?_) ?_) ?_) ?_) ?_) ?_) ?_) ?_) ?_) ?_
        · refine ⟨fun o ho es vs f' S' hve hvp hf hx hK hE => ?_⟩
          obtain rfl := Option.some.inj ho
          refine ⟨want_none rfl, fun _ _ => ?_, (fun _ h => by cases h), (fun h _ => by cases h), (fun h _ => by cases h)⟩
          have hF := fr_next (rfl) ((hx 5 (by kernel_rfl)).trans (by kernel_rfl : (_ : Value) = .int .i64 t2))
          refine ls_fr hF ?_
          refine lv (.int .i64 t2) ?_
          exact ls_finp (.int .i64 t2) (congrArg (fun z => upd z 9 _) hF.symm) rfl
        · refine ⟨fun o ho es vs f' S' hve hvp hf hx hK hE => ?_⟩
          obtain rfl := Option.some.inj ho
          refine ⟨want_none rfl, fun _ _ => ?_, (fun _ h => by cases h), (fun h _ => by cases h), (fun h _ => by cases h)⟩
          have hF := fr_next (rfl) ((hf 0 9 (by kernel_rfl) rfl).trans (show vs 0 = .int .i64 t2 from hvp 0 (by kernel_rfl)))
          refine ls_fr hF ?_
          refine lv (.bool (decide (t2 = (0 : Int)))) ?_
          refine ls_ren 10 (v := .bool (decide (t2 = (0 : Int)))) (v' := .bool true) (by kernel_rfl) (congrArg Value.bool (show (decide (t2 = (0 : Int))) = true from dec_t q5)) ?_
          exact ls_finp (.bool true) ((upd_upd _ _ _ _).trans (congrArg (fun z => upd z 10 _) hF.symm)) rfl
        · refine ⟨fun o ho es vs f' S' hve hvp hf hx hK hE => ?_⟩
          obtain rfl := Option.some.inj ho
          refine ⟨want_none rfl, fun _ _ => ?_, (fun _ h => by cases h), (fun h _ => by cases h), (fun h _ => by cases h)⟩
          have hF := fr_next (rfl) ((hf 1 10 (by kernel_rfl) rfl).trans (show vs 1 = .bool true from hvp 1 (by kernel_rfl)))
          refine ls_fr hF ?_
          refine lv (.bool true) ?_
          exact ls_finp (.bool true) (congrArg (fun z => upd z 11 _) hF.symm) rfl
        · refine ⟨fun o ho es vs f' S' hve hvp hf hx hK hE => ?_⟩
          obtain rfl := Option.some.inj ho
          refine ⟨want_is (j := 2) (t := 11) rfl rfl (by kernel_rfl) ((hf 2 11 (by kernel_rfl) rfl).trans (show vs 2 = .bool true from hvp 2 (by kernel_rfl))) rfl, fun _ _ => ?_, (fun _ h => by cases h), (fun h _ => by cases h), (fun h _ => by cases h)⟩
          have hF := fr_next (fr_next (rfl) ((hx 0 (by kernel_rfl)).trans (by kernel_rfl : (_ : Value) = .pointer (some ⟨pg0, 0, none⟩)))) ((hf 2 11 (by kernel_rfl) rfl).trans (show vs 2 = .bool true from hvp 2 (by kernel_rfl)))
          refine ls_fr hF ?_
          refine lv (.pointer (some ⟨pg0, 0, none⟩)) ?_
          exact ls_finp (.pointer (some ⟨pg0, 0, none⟩)) (congrArg (fun z => upd z 12 _) hF.symm) rfl
        · refine ⟨fun o ho es vs f' S' hve hvp hf hx hK hE => ?_⟩
          obtain rfl := Option.some.inj ho
          refine ⟨want_is (j := 2) (t := 11) rfl rfl (by kernel_rfl) ((hf 2 11 (by kernel_rfl) rfl).trans (show vs 2 = .bool true from hvp 2 (by kernel_rfl))) rfl, fun _ _ => ?_, (fun _ h => by cases h), (fun h _ => by cases h), (fun h _ => by cases h)⟩
          have hF := fr_next (fr_next (rfl) ((hf 2 11 (by kernel_rfl) rfl).trans (show vs 2 = .bool true from hvp 2 (by kernel_rfl)))) ((hf 3 12 (by kernel_rfl) rfl).trans (show vs 3 = .pointer (some ⟨pg0, 0, none⟩) from hvp 3 (by kernel_rfl)))
          refine ls_fr hF ?_
          refine lv (.pointer (some ⟨pg0, 0, none⟩)) ?_
          exact ls_finp (.pointer (some ⟨pg0, 0, none⟩)) (congrArg (fun z => upd z 13 _) hF.symm) rfl
        · refine ⟨fun o ho es vs f' S' hve hvp hf hx hK hE => ?_⟩
          obtain rfl := Option.some.inj ho
          refine ⟨want_is (j := 2) (t := 11) rfl rfl (by kernel_rfl) ((hf 2 11 (by kernel_rfl) rfl).trans (show vs 2 = .bool true from hvp 2 (by kernel_rfl))) rfl, fun _ _ => ?_, (fun _ h => by cases h), (fun h _ => by cases h), (fun h _ => by cases h)⟩
          have hF := fr_next (fr_next (rfl) ((hf 2 11 (by kernel_rfl) rfl).trans (show vs 2 = .bool true from hvp 2 (by kernel_rfl)))) ((hf 4 13 (by kernel_rfl) rfl).trans (show vs 4 = .pointer (some ⟨pg0, 0, none⟩) from hvp 4 (by kernel_rfl)))
          refine ls_fr hF ?_
          refine lv (.pointer (some ⟨pg0, (0 + 4), none⟩)) ?_
          exact ls_finp (.pointer (some ⟨pg0, (0 + 4), none⟩)) (congrArg (fun z => upd z 14 _) hF.symm) rfl
        · refine ⟨fun o ho es vs f' S' hve hvp hf hx hK hE => ?_⟩
          obtain rfl := Option.some.inj ho
          refine ⟨want_is (j := 2) (t := 11) rfl rfl (by kernel_rfl) ((hf 2 11 (by kernel_rfl) rfl).trans (show vs 2 = .bool true from hvp 2 (by kernel_rfl))) rfl, fun _ _ => ?_, (fun _ h => by cases h), (fun h _ => by cases h), (fun h _ => by cases h)⟩
          have hF := fr_next (fr_next (rfl) ((hf 2 11 (by kernel_rfl) rfl).trans (show vs 2 = .bool true from hvp 2 (by kernel_rfl)))) ((hf 5 14 (by kernel_rfl) rfl).trans (show vs 5 = .pointer (some ⟨pg0, (0 + 4), none⟩) from hvp 5 (by kernel_rfl)))
          refine ls_fr hF ?_
          refine ls_load (a0 := ⟨pg0, (0 + 4), none⟩) (v := .slice A0_3 v0.2.2.2.1.length c0_3) (de := (TypeDesc.slice 24)) rfl rfl (by kernel_rfl) rfl (by kernel_rfl) (by kernel_rfl) (by kernel_rfl) (fun w hs => (hs.var (k := 0) ((hK 0 (by rfl)).trans (by exact rfl)) (Sub4.trans (Sub4.all _) (Sub4.skip (n := 2) (len_app (len1 _) (len1 _)) (Sub4.skip (n := 1) (len1 _) (Sub4.skip (n := 1) (len1 _) (Sub4.head _ _))))))) ?_
          exact ls_finp (.slice A0_3 v0.2.2.2.1.length c0_3) (congrArg (fun z => upd z 15 _) hF.symm) rfl
        · refine ⟨fun o ho es vs f' S' hve hvp hf hx hK hE => ?_⟩
          obtain rfl := Option.some.inj ho
          refine ⟨want_is (j := 2) (t := 11) rfl rfl (by kernel_rfl) ((hf 2 11 (by kernel_rfl) rfl).trans (show vs 2 = .bool true from hvp 2 (by kernel_rfl))) rfl, fun _ _ => ?_, (fun _ h => by cases h), (fun h _ => by cases h), (fun h _ => by cases h)⟩
          have hF := fr_next (fr_next (rfl) ((hx 3 (by kernel_rfl)).trans (by kernel_rfl : (_ : Value) = .pointer (some ⟨g1, 0, none⟩)))) ((hf 2 11 (by kernel_rfl) rfl).trans (show vs 2 = .bool true from hvp 2 (by kernel_rfl)))
          refine ls_fr hF ?_
          refine ls_loadagg (a := ⟨g1, 0, none⟩) (sub := ([Value.int .i64 a1.1] ++ [Value.int .i64 a1.2])) rfl rfl (by kernel_rfl) rfl (by kernel_rfl) (by kernel_rfl) (by kernel_rfl) (len_app (len1 _) (len1 _)) (fun w hs => (hs.vars (k := 3) ((hK 3 (by rfl)).trans (by exact rfl)) (Sub4.all _))) ?_
          exact ls_finp (.agg ⟨([Value.int .i64 a1.1] ++ [Value.int .i64 a1.2])⟩) (congrArg (fun z => upd z 16 _) hF.symm) rfl
        · refine ⟨fun o ho es vs f' S' hve hvp hf hx hK hE => ?_⟩
          obtain rfl := Option.some.inj ho
          obtain rfl := hE rfl
          refine ⟨want_is (j := 2) (t := 11) rfl rfl (by kernel_rfl) ((hf 2 11 (by kernel_rfl) rfl).trans (show vs 2 = .bool true from hvp 2 (by kernel_rfl))) rfl, (fun h _ => by cases h), (fun h _ => by cases h), fun _ _ => ?_, (fun _ h => by cases h)⟩
          have hF := fr_next (fr_next (fr_next (rfl) ((hf 2 11 (by kernel_rfl) rfl).trans (show vs 2 = .bool true from hvp 2 (by kernel_rfl)))) ((hf 6 15 (by kernel_rfl) rfl).trans (show vs 6 = .slice A0_3 v0.2.2.2.1.length c0_3 from hvp 6 (by kernel_rfl)))) ((hf 7 16 (by kernel_rfl) rfl).trans (show vs 7 = .agg ⟨([Value.int .i64 a1.1] ++ [Value.int .i64 a1.2])⟩ from hvp 7 (by kernel_rfl)))
          refine ls_fr hF ?_
          refine ls_callb (fid := 11) (vals := #[.slice A0_3 v0.2.2.2.1.length c0_3, .agg ⟨([Value.int .i64 a1.1] ++ [Value.int .i64 a1.2])⟩]) (X := Unit) (fun x => .bool t6) (fun x => stl []) [] [] [] [] 4 rfl rfl (by kernel_rfl) (fun w => by kernel_rfl) trivial trivial (by decide) (fun w hs hb => extent_Meets.calls k A0_3 c0_3 v0.2.2.2.1 a1 t6 (lent b w [] []) hb (hs.ro R0_3 _ _) C0_3 hc7) ?_
          intro x8
          refine ls_ren 17 (v := .bool t6) (v' := .bool true) (by kernel_rfl) (congrArg Value.bool (show t6 = true from q9)) ?_
          exact ls_fine (sput (sput (sput (sput s0 0 (some (Ck.var 66 pg0 ((([Value.int .i64 v0.1.1] ++ [Value.int .i64 v0.1.2]) ++ ([Value.bool v0.2.1] ++ ([Value.int .i64 v0.2.2.1] ++ ([Value.slice A0_3 v0.2.2.2.1.length c0_3] ++ ([Value.map (some r0_4)] ++ [Value.slice A0_5 v0.2.2.2.2.2.length c0_5]))))))))) 1 (some (Ck.m1 r0_4 w0_4.1 A0_4 w0_4.2.length c0_4))) 2 (some (Ck.sl T24 A0_4 c0_4 w0_4.2))) 3 (some (Ck.var 24 g1 (([Value.int .i64 a1.1] ++ [Value.int .i64 a1.2]))))) (.bool true) ((upd_upd _ _ _ _).trans (congrArg (fun z => upd z 17 _) hF.symm)) (show (fun (es : Nat → Value) (S' : Sto) => ∃ (x8 : Unit), es 8 = .bool true ∧ S' = sput (sput (sput (sput s0 0 (some (Ck.var 66 pg0 ((([Value.int .i64 v0.1.1] ++ [Value.int .i64 v0.1.2]) ++ ([Value.bool v0.2.1] ++ ([Value.int .i64 v0.2.2.1] ++ ([Value.slice A0_3 v0.2.2.2.1.length c0_3] ++ ([Value.map (some r0_4)] ++ [Value.slice A0_5 v0.2.2.2.2.2.length c0_5]))))))))) 1 (some (Ck.m1 r0_4 w0_4.1 A0_4 w0_4.2.length c0_4))) 2 (some (Ck.sl T24 A0_4 c0_4 w0_4.2))) 3 (some (Ck.var 24 g1 (([Value.int .i64 a1.1] ++ [Value.int .i64 a1.2]))))) (upv es 8 (.bool true)) (sput (sput (sput (sput s0 0 (some (Ck.var 66 pg0 ((([Value.int .i64 v0.1.1] ++ [Value.int .i64 v0.1.2]) ++ ([Value.bool v0.2.1] ++ ([Value.int .i64 v0.2.2.1] ++ ([Value.slice A0_3 v0.2.2.2.1.length c0_3] ++ ([Value.map (some r0_4)] ++ [Value.slice A0_5 v0.2.2.2.2.2.length c0_5]))))))))) 1 (some (Ck.m1 r0_4 w0_4.1 A0_4 w0_4.2.length c0_4))) 2 (some (Ck.sl T24 A0_4 c0_4 w0_4.2))) 3 (some (Ck.var 24 g1 (([Value.int .i64 a1.1] ++ [Value.int .i64 a1.2]))))) from ⟨x8, rfl, rfl⟩) rfl (keep_cons (by exact rfl) (keep_cons (by exact rfl) (keep_cons (by exact rfl) (keep_cons (by exact rfl) (keep_nil))))) (sub_put (by exact rfl) (sub_put (by exact rfl) (sub_put (by exact rfl) (sub_put (by exact rfl) (sub_nil _)))))
        · refine ⟨fun o ho es vs f' S' hve hvp hf hx hK hE => ?_⟩
          obtain rfl := Option.some.inj ho
          refine ⟨want_is (j := 2) (t := 11) rfl rfl (by kernel_rfl) ((hf 2 11 (by kernel_rfl) rfl).trans (show vs 2 = .bool true from hvp 2 (by kernel_rfl))) rfl, fun _ _ => ?_, (fun _ h => by cases h), (fun h _ => by cases h), (fun h _ => by cases h)⟩
          have hF := fr_next (fr_next (rfl) ((hf 2 11 (by kernel_rfl) rfl).trans (show vs 2 = .bool true from hvp 2 (by kernel_rfl)))) ((hf 8 17 (by kernel_rfl) rfl).trans (show vs 8 = .bool true from hvp 8 (by kernel_rfl)))
          refine ls_fr hF ?_
          refine lv (.bool true) ?_
          exact ls_finp (.bool true) (congrArg (fun z => upd z 18 _) hF.symm) rfl
        · refine ⟨fun o ho es vs f' S' hve hvp hf hx hK hE => ?_⟩
          obtain rfl := Option.some.inj ho
          exact ⟨want_is (j := 9) (t := 18) rfl rfl (by kernel_rfl) ((hf 9 18 (by kernel_rfl) rfl).trans (show vs 9 = .bool true from hvp 9 (by kernel_rfl))) rfl, (fun _ h => by cases h), fun _ _ => rfl, (fun h _ => by cases h), (fun h _ => by cases h)⟩
        · refine ⟨fun o ho es vs f' S' hve hvp hf hx hK hE => ?_⟩
          obtain rfl := Option.some.inj ho
          exact ⟨want_is (j := 9) (t := 18) rfl rfl (by kernel_rfl) ((hf 9 18 (by kernel_rfl) rfl).trans (show vs 9 = .bool true from hvp 9 (by kernel_rfl))) rfl, (fun _ h => by cases h), fun _ _ => rfl, (fun h _ => by cases h), (fun h _ => by cases h)⟩
        refine ⟨fun o ho es vs f' S' hve hvp hf hx hK hE => ?_⟩
        obtain rfl := Option.some.inj ho
        exact ⟨want_is (j := 9) (t := 18) rfl rfl (by kernel_rfl) ((hf 9 18 (by kernel_rfl) rfl).trans (show vs 9 = .bool true from hvp 9 (by kernel_rfl))) rfl, (fun _ h => by cases h), fun _ _ => rfl, (fun h _ => by cases h), (fun h _ => by cases h)⟩
      intro es vs f' S' hve hvp hf hx hK hE
      obtain ⟨x8, hv8, rfl⟩ := hE
      refine ls_fr (F := upd (upd (upd f' 5 (.int .i64 t2)) 11 (.bool true)) 18 (.bool true)) (fr_next (fr_next (fr_next (rfl) ((hx 5 (by kernel_rfl)).trans (by kernel_rfl : (_ : Value) = .int .i64 t2))) ((hf 2 11 (by kernel_rfl) rfl).trans (show vs 2 = .bool true from hvp 2 (by kernel_rfl)))) ((hf 9 18 (by kernel_rfl) rfl).trans (show vs 9 = .bool true from hvp 9 (by kernel_rfl)))) ?_
      refine ls_sub (sput (sput (sput s0 0 (some (Ck.var 66 pg0 ((([Value.int .i64 v0.1.1] ++ [Value.int .i64 v0.1.2]) ++ ([Value.bool v0.2.1] ++ ([Value.int .i64 v0.2.2.1] ++ ([Value.slice A0_3 v0.2.2.2.1.length c0_3] ++ ([Value.map (some r0_4)] ++ [Value.slice A0_5 v0.2.2.2.2.2.length c0_5]))))))))) 1 (some (Ck.m1 r0_4 w0_4.1 A0_4 w0_4.2.length c0_4))) 2 (some (Ck.sl T24 A0_4 c0_4 w0_4.2))) (sub_put (by exact rfl) (sub_put (by exact rfl) (sub_put (by exact rfl) (sub_nil _)))) ?_
      refine lofx 9 18 false true ?_
      refine ls_on (j := 2) (t := 11) (b := true) rfl rfl (by kernel_rfl) (by kernel_rfl) ?_
      refine lv (.bool true) ?_
      refine lv (.bool true) ?_
      refine ls_end ?_
      refine qn_then ?_
      refine cs_true (by kernel_rfl) ?_
      refine cs_region (l := [_]) ?_
      refine lv (.int .i64 (13 : Int)) ?_
      refine ls_end ?_
      refine qn_then ?_
      refine cs_seq ?_
      refine cs_region (l := [_, _]) ?_
      refine lv (.int .i64 (13 : Int)) ?_
      refine lv (.int .i64 (13 : Int)) ?_
      refine ls_end ?_
      refine qn_then ?_
      refine cs_ret' ?_
      obtain rfl := Option.some.inj H
      refine qr_res (rs := [_]) rfl (fun w' hs => ⟨[.int .i64 (13 : Int)], (res_tmp (by kernel_rfl) (.nil)), (A0_4, c0_4), rfl, hs.pick (ts := [0, 1, 2]) (cs := [Ck.var 66 pg0 ((([Value.int .i64 v0.1.1] ++ [Value.int .i64 v0.1.2]) ++ ([Value.bool v0.2.1] ++ ([Value.int .i64 v0.2.2.1] ++ ([Value.slice A0_3 v0.2.2.2.1.length c0_3] ++ ([Value.map (some r0_4)] ++ [Value.slice A0_5 v0.2.2.2.2.2.length c0_5])))))), Ck.m1 r0_4 w0_4.1 A0_4 w0_4.2.length c0_4, Ck.sl T24 A0_4 c0_4 w0_4.2]) ⟨by exact rfl, by exact rfl, by exact rfl, trivial⟩ (by decide)⟩)
    replace H := ite_f q9 H
    obtain ⟨t10, hc11, H⟩ := bind_some H
    refine cs_sub (sput (sput (sput (sput s0 0 (some (Ck.var 66 pg0 ((([Value.int .i64 v0.1.1] ++ [Value.int .i64 v0.1.2]) ++ ([Value.bool v0.2.1] ++ ([Value.int .i64 v0.2.2.1] ++ ([Value.slice A0_3 v0.2.2.2.1.length c0_3] ++ ([Value.map (some r0_4)] ++ [Value.slice A0_5 v0.2.2.2.2.2.length c0_5]))))))))) 1 (some (Ck.m1 r0_4 w0_4.1 A0_4 w0_4.2.length c0_4))) 2 (some (Ck.sl T24 A0_4 c0_4 w0_4.2))) 3 (some (Ck.var 24 g1 (([Value.int .i64 a1.1] ++ [Value.int .i64 a1.2]))))) (sub_put (by exact rfl) (sub_put (by exact rfl) (sub_put (by exact rfl) (sub_put (by exact rfl) (sub_nil _))))) ?_
    refine cs_chain (l := [_, _, _, _, _, _, _, _, _, _, _, _, _, _, _, _]) [[], [0], [0, 1], [0, 1, 2], [0, 1, 2, 3], [0, 1, 2, 3, 4], [0, 1, 2, 3, 4, 5], [0, 1, 2], [0, 1, 2, 3, 4, 5, 6, 7], [0, 1, 2, 3, 4, 5, 6, 7, 8], [0, 1, 2, 3, 4, 5, 6, 7, 8, 9], [0, 1, 2, 3, 4, 5, 6, 7, 8, 9, 10], [0, 1, 2, 3, 4, 5, 6, 7, 8, 9], [0, 1, 2, 3, 4, 5, 6, 7, 8, 9, 10, 11, 12], [0, 1, 2, 3, 4, 5, 6, 7, 8, 9, 10, 11, 12, 13], [0, 1, 2, 3, 4, 5, 6, 7, 8, 9, 10, 11, 12, 13, 14]] 13 (fun u => [0, 3].contains u) (efl [false, false, false, false, false, false, false, false, true, false, false, true, false]) (pvl [.val (.int .i64 t2), .val (.bool true), .val (.bool true), .val (.pointer (some ⟨pg0, 0, none⟩)), .val (.pointer (some ⟨pg0, 0, none⟩)), .val (.pointer (some ⟨pg0, (0 + 4), none⟩)), .val (.slice A0_3 v0.2.2.2.1.length c0_3), .val (.agg ⟨([Value.int .i64 a1.1] ++ [Value.int .i64 a1.2])⟩), .val (.bool false), .val (.bool false), .val (.pointer (some ⟨pg0, 0, none⟩)), .eff 11, .val (.agg ⟨([Value.int .i64 a1.1] ++ [Value.int .i64 a1.2])⟩)]) (Esl [fun (es : Nat → Value) (S' : Sto) => S' = sput (sput (sput (sput s0 0 (some (Ck.var 66 pg0 ((([Value.int .i64 v0.1.1] ++ [Value.int .i64 v0.1.2]) ++ ([Value.bool v0.2.1] ++ ([Value.int .i64 v0.2.2.1] ++ ([Value.slice A0_3 v0.2.2.2.1.length c0_3] ++ ([Value.map (some r0_4)] ++ [Value.slice A0_5 v0.2.2.2.2.2.length c0_5]))))))))) 1 (some (Ck.m1 r0_4 w0_4.1 A0_4 w0_4.2.length c0_4))) 2 (some (Ck.sl T24 A0_4 c0_4 w0_4.2))) 3 (some (Ck.var 24 g1 (([Value.int .i64 a1.1] ++ [Value.int .i64 a1.2])))), fun (es : Nat → Value) (S' : Sto) => ∃ (x8 : Unit), es 8 = .bool false ∧ S' = sput (sput (sput (sput s0 0 (some (Ck.var 66 pg0 ((([Value.int .i64 v0.1.1] ++ [Value.int .i64 v0.1.2]) ++ ([Value.bool v0.2.1] ++ ([Value.int .i64 v0.2.2.1] ++ ([Value.slice A0_3 v0.2.2.2.1.length c0_3] ++ ([Value.map (some r0_4)] ++ [Value.slice A0_5 v0.2.2.2.2.2.length c0_5]))))))))) 1 (some (Ck.m1 r0_4 w0_4.1 A0_4 w0_4.2.length c0_4))) 2 (some (Ck.sl T24 A0_4 c0_4 w0_4.2))) 3 (some (Ck.var 24 g1 (([Value.int .i64 a1.1] ++ [Value.int .i64 a1.2])))), fun (es : Nat → Value) (S' : Sto) => ∃ (x8 : Unit) (x12 : (Option Addr × Nat) × (Option Addr × Nat)), es 8 = .bool false ∧ es 11 = .slice x12.1.1 t10.1.length x12.1.2 ∧ S' = sput (sput (sput (sput (sput s0 0 (some (Ck.var 66 pg0 ((([Value.int .i64 v0.1.1] ++ [Value.int .i64 v0.1.2]) ++ ([Value.bool v0.2.1] ++ ([Value.int .i64 v0.2.2.1] ++ ([Value.slice A0_3 v0.2.2.2.1.length c0_3] ++ ([Value.map (some r0_4)] ++ [Value.slice A0_5 v0.2.2.2.2.2.length c0_5]))))))))) 1 (some (Ck.m1 r0_4 t10.2.1 x12.2.1 t10.2.2.length x12.2.2))) 2 (some (Ck.sl T24 x12.2.1 x12.2.2 t10.2.2))) 3 (some (Ck.var 24 g1 (([Value.int .i64 a1.1] ++ [Value.int .i64 a1.2]))))) 4 (some (Ck.ro T24 x12.1.1 x12.1.2 t10.1))] [0, 0, 0, 0, 0, 0, 0, 0, 0, 0, 0, 1, 0, 2]) (nxl [0, 0, 0, 0, 0, 0, 0, 0, 11, 0, 0, 13, 0]) (onl [true, true, true, true, true, true, true, true, true, true, true, true, true]) 8 (by kernel_rfl) (by kernel_rfl) (by kernel_rfl) (by kernel_rfl) (by kernel_rfl) (rs := [_, _, _]) rfl (by kernel_rfl) (by kernel_rfl) (fun es => ?_) ?_ ?_
    · exact (rfl : sput (sput (sput (sput s0 0 (some (Ck.var 66 pg0 ((([Value.int .i64 v0.1.1] ++ [Value.int .i64 v0.1.2]) ++ ([Value.bool v0.2.1] ++ ([Value.int .i64 v0.2.2.1] ++ ([Value.slice A0_3 v0.2.2.2.1.length c0_3] ++ ([Value.map (some r0_4)] ++ [Value.slice A0_5 v0.2.2.2.2.2.length c0_5]))))))))) 1 (some (Ck.m1 r0_4 w0_4.1 A0_4 w0_4.2.length c0_4))) 2 (some (Ck.sl T24 A0_4 c0_4 w0_4.2))) 3 (some (Ck.var 24 g1 (([Value.int .i64 a1.1] ++ [Value.int .i64 a1.2])))) = sput (sput (sput (sput s0 0 (some (Ck.var 66 pg0 ((([Value.int .i64 v0.1.1] ++ [Value.int .i64 v0.1.2]) ++ ([Value.bool v0.2.1] ++ ([Value.int .i64 v0.2.2.1] ++ ([Value.slice A0_3 v0.2.2.2.1.length c0_3] ++ ([Value.map (some r0_4)] ++ [Value.slice A0_5 v0.2.2.2.2.2.length c0_5]))))))))) 1 (some (Ck.m1 r0_4 w0_4.1 A0_4 w0_4.2.length c0_4))) 2 (some (Ck.sl T24 A0_4 c0_4 w0_4.2))) 3 (some (Ck.var 24 g1 (([Value.int .i64 a1.1] ++ [Value.int .i64 a1.2])))))
    · refine all_snoc (all_snoc (all_snoc (all_snoc (all_snoc (all_snoc (all_snoc (all_snoc (all_snoc (all_snoc (all_snoc (all_snoc (all_snoc (all_nil) ?_) ?_) ?_) ?_) ?_) ?_) ?_) ?_) ?_) ?_) ?_) ?_) ?_
      · refine ⟨fun o ho es vs f' S' hve hvp hf hx hK hE => ?_⟩
        obtain rfl := Option.some.inj ho
        refine ⟨want_none rfl, fun _ _ => ?_, (fun _ h => by cases h), (fun h _ => by cases h), (fun h _ => by cases h)⟩
        have hF := fr_next (rfl) ((hx 5 (by kernel_rfl)).trans (by kernel_rfl : (_ : Value) = .int .i64 t2))
        refine ls_fr hF ?_
        refine lv (.int .i64 t2) ?_
        exact ls_finp (.int .i64 t2) (congrArg (fun z => upd z 9 _) hF.symm) rfl
      · refine ⟨fun o ho es vs f' S' hve hvp hf hx hK hE => ?_⟩
        obtain rfl := Option.some.inj ho
        refine ⟨want_none rfl, fun _ _ => ?_, (fun _ h => by cases h), (fun h _ => by cases h), (fun h _ => by cases h)⟩
        have hF := fr_next (rfl) ((hf 0 9 (by kernel_rfl) rfl).trans (show vs 0 = .int .i64 t2 from hvp 0 (by kernel_rfl)))
        refine ls_fr hF ?_
        refine lv (.bool (decide (t2 = (0 : Int)))) ?_
        refine ls_ren 10 (v := .bool (decide (t2 = (0 : Int)))) (v' := .bool true) (by kernel_rfl) (congrArg Value.bool (show (decide (t2 = (0 : Int))) = true from dec_t q5)) ?_
        exact ls_finp (.bool true) ((upd_upd _ _ _ _).trans (congrArg (fun z => upd z 10 _) hF.symm)) rfl
      · refine ⟨fun o ho es vs f' S' hve hvp hf hx hK hE => ?_⟩
        obtain rfl := Option.some.inj ho
        refine ⟨want_none rfl, fun _ _ => ?_, (fun _ h => by cases h), (fun h _ => by cases h), (fun h _ => by cases h)⟩
        have hF := fr_next (rfl) ((hf 1 10 (by kernel_rfl) rfl).trans (show vs 1 = .bool true from hvp 1 (by kernel_rfl)))
        refine ls_fr hF ?_
        refine lv (.bool true) ?_
        exact ls_finp (.bool true) (congrArg (fun z => upd z 11 _) hF.symm) rfl
      · refine ⟨fun o ho es vs f' S' hve hvp hf hx hK hE => ?_⟩
        obtain rfl := Option.some.inj ho
        refine ⟨want_is (j := 2) (t := 11) rfl rfl (by kernel_rfl) ((hf 2 11 (by kernel_rfl) rfl).trans (show vs 2 = .bool true from hvp 2 (by kernel_rfl))) rfl, fun _ _ => ?_, (fun _ h => by cases h), (fun h _ => by cases h), (fun h _ => by cases h)⟩
        have hF := fr_next (fr_next (rfl) ((hx 0 (by kernel_rfl)).trans (by kernel_rfl : (_ : Value) = .pointer (some ⟨pg0, 0, none⟩)))) ((hf 2 11 (by kernel_rfl) rfl).trans (show vs 2 = .bool true from hvp 2 (by kernel_rfl)))
        refine ls_fr hF ?_
        refine lv (.pointer (some ⟨pg0, 0, none⟩)) ?_
        exact ls_finp (.pointer (some ⟨pg0, 0, none⟩)) (congrArg (fun z => upd z 12 _) hF.symm) rfl
      · refine ⟨fun o ho es vs f' S' hve hvp hf hx hK hE => ?_⟩
        obtain rfl := Option.some.inj ho
        refine ⟨want_is (j := 2) (t := 11) rfl rfl (by kernel_rfl) ((hf 2 11 (by kernel_rfl) rfl).trans (show vs 2 = .bool true from hvp 2 (by kernel_rfl))) rfl, fun _ _ => ?_, (fun _ h => by cases h), (fun h _ => by cases h), (fun h _ => by cases h)⟩
        have hF := fr_next (fr_next (rfl) ((hf 2 11 (by kernel_rfl) rfl).trans (show vs 2 = .bool true from hvp 2 (by kernel_rfl)))) ((hf 3 12 (by kernel_rfl) rfl).trans (show vs 3 = .pointer (some ⟨pg0, 0, none⟩) from hvp 3 (by kernel_rfl)))
        refine ls_fr hF ?_
        refine lv (.pointer (some ⟨pg0, 0, none⟩)) ?_
        exact ls_finp (.pointer (some ⟨pg0, 0, none⟩)) (congrArg (fun z => upd z 13 _) hF.symm) rfl
      · refine ⟨fun o ho es vs f' S' hve hvp hf hx hK hE => ?_⟩
        obtain rfl := Option.some.inj ho
        refine ⟨want_is (j := 2) (t := 11) rfl rfl (by kernel_rfl) ((hf 2 11 (by kernel_rfl) rfl).trans (show vs 2 = .bool true from hvp 2 (by kernel_rfl))) rfl, fun _ _ => ?_, (fun _ h => by cases h), (fun h _ => by cases h), (fun h _ => by cases h)⟩
        have hF := fr_next (fr_next (rfl) ((hf 2 11 (by kernel_rfl) rfl).trans (show vs 2 = .bool true from hvp 2 (by kernel_rfl)))) ((hf 4 13 (by kernel_rfl) rfl).trans (show vs 4 = .pointer (some ⟨pg0, 0, none⟩) from hvp 4 (by kernel_rfl)))
        refine ls_fr hF ?_
        refine lv (.pointer (some ⟨pg0, (0 + 4), none⟩)) ?_
        exact ls_finp (.pointer (some ⟨pg0, (0 + 4), none⟩)) (congrArg (fun z => upd z 14 _) hF.symm) rfl
      · refine ⟨fun o ho es vs f' S' hve hvp hf hx hK hE => ?_⟩
        obtain rfl := Option.some.inj ho
        refine ⟨want_is (j := 2) (t := 11) rfl rfl (by kernel_rfl) ((hf 2 11 (by kernel_rfl) rfl).trans (show vs 2 = .bool true from hvp 2 (by kernel_rfl))) rfl, fun _ _ => ?_, (fun _ h => by cases h), (fun h _ => by cases h), (fun h _ => by cases h)⟩
        have hF := fr_next (fr_next (rfl) ((hf 2 11 (by kernel_rfl) rfl).trans (show vs 2 = .bool true from hvp 2 (by kernel_rfl)))) ((hf 5 14 (by kernel_rfl) rfl).trans (show vs 5 = .pointer (some ⟨pg0, (0 + 4), none⟩) from hvp 5 (by kernel_rfl)))
        refine ls_fr hF ?_
        refine ls_load (a0 := ⟨pg0, (0 + 4), none⟩) (v := .slice A0_3 v0.2.2.2.1.length c0_3) (de := (TypeDesc.slice 24)) rfl rfl (by kernel_rfl) rfl (by kernel_rfl) (by kernel_rfl) (by kernel_rfl) (fun w hs => (hs.var (k := 0) ((hK 0 (by rfl)).trans (by exact rfl)) (Sub4.trans (Sub4.all _) (Sub4.skip (n := 2) (len_app (len1 _) (len1 _)) (Sub4.skip (n := 1) (len1 _) (Sub4.skip (n := 1) (len1 _) (Sub4.head _ _))))))) ?_
        exact ls_finp (.slice A0_3 v0.2.2.2.1.length c0_3) (congrArg (fun z => upd z 15 _) hF.symm) rfl
      · refine ⟨fun o ho es vs f' S' hve hvp hf hx hK hE => ?_⟩
        obtain rfl := Option.some.inj ho
        refine ⟨want_is (j := 2) (t := 11) rfl rfl (by kernel_rfl) ((hf 2 11 (by kernel_rfl) rfl).trans (show vs 2 = .bool true from hvp 2 (by kernel_rfl))) rfl, fun _ _ => ?_, (fun _ h => by cases h), (fun h _ => by cases h), (fun h _ => by cases h)⟩
        have hF := fr_next (fr_next (rfl) ((hx 3 (by kernel_rfl)).trans (by kernel_rfl : (_ : Value) = .pointer (some ⟨g1, 0, none⟩)))) ((hf 2 11 (by kernel_rfl) rfl).trans (show vs 2 = .bool true from hvp 2 (by kernel_rfl)))
        refine ls_fr hF ?_
        refine ls_loadagg (a := ⟨g1, 0, none⟩) (sub := ([Value.int .i64 a1.1] ++ [Value.int .i64 a1.2])) rfl rfl (by kernel_rfl) rfl (by kernel_rfl) (by kernel_rfl) (by kernel_rfl) (len_app (len1 _) (len1 _)) (fun w hs => (hs.vars (k := 3) ((hK 3 (by rfl)).trans (by exact rfl)) (Sub4.all _))) ?_
        exact ls_finp (.agg ⟨([Value.int .i64 a1.1] ++ [Value.int .i64 a1.2])⟩) (congrArg (fun z => upd z 16 _) hF.symm) rfl
      · refine ⟨fun o ho es vs f' S' hve hvp hf hx hK hE => ?_⟩
        obtain rfl := Option.some.inj ho
        obtain rfl := hE rfl
        refine ⟨want_is (j := 2) (t := 11) rfl rfl (by kernel_rfl) ((hf 2 11 (by kernel_rfl) rfl).trans (show vs 2 = .bool true from hvp 2 (by kernel_rfl))) rfl, (fun h _ => by cases h), (fun h _ => by cases h), fun _ _ => ?_, (fun _ h => by cases h)⟩
        have hF := fr_next (fr_next (fr_next (rfl) ((hf 2 11 (by kernel_rfl) rfl).trans (show vs 2 = .bool true from hvp 2 (by kernel_rfl)))) ((hf 6 15 (by kernel_rfl) rfl).trans (show vs 6 = .slice A0_3 v0.2.2.2.1.length c0_3 from hvp 6 (by kernel_rfl)))) ((hf 7 16 (by kernel_rfl) rfl).trans (show vs 7 = .agg ⟨([Value.int .i64 a1.1] ++ [Value.int .i64 a1.2])⟩ from hvp 7 (by kernel_rfl)))
        refine ls_fr hF ?_
        refine ls_callb (fid := 11) (vals := #[.slice A0_3 v0.2.2.2.1.length c0_3, .agg ⟨([Value.int .i64 a1.1] ++ [Value.int .i64 a1.2])⟩]) (X := Unit) (fun x => .bool t6) (fun x => stl []) [] [] [] [] 4 rfl rfl (by kernel_rfl) (fun w => by kernel_rfl) trivial trivial (by decide) (fun w hs hb => extent_Meets.calls k A0_3 c0_3 v0.2.2.2.1 a1 t6 (lent b w [] []) hb (hs.ro R0_3 _ _) C0_3 hc7) ?_
        intro x8
        refine ls_ren 17 (v := .bool t6) (v' := .bool false) (by kernel_rfl) (congrArg Value.bool (show t6 = false from Bool.eq_false_iff.mpr q9)) ?_
        exact ls_fine (sput (sput (sput (sput s0 0 (some (Ck.var 66 pg0 ((([Value.int .i64 v0.1.1] ++ [Value.int .i64 v0.1.2]) ++ ([Value.bool v0.2.1] ++ ([Value.int .i64 v0.2.2.1] ++ ([Value.slice A0_3 v0.2.2.2.1.length c0_3] ++ ([Value.map (some r0_4)] ++ [Value.slice A0_5 v0.2.2.2.2.2.length c0_5]))))))))) 1 (some (Ck.m1 r0_4 w0_4.1 A0_4 w0_4.2.length c0_4))) 2 (some (Ck.sl T24 A0_4 c0_4 w0_4.2))) 3 (some (Ck.var 24 g1 (([Value.int .i64 a1.1] ++ [Value.int .i64 a1.2]))))) (.bool false) ((upd_upd _ _ _ _).trans (congrArg (fun z => upd z 17 _) hF.symm)) (show (fun (es : Nat → Value) (S' : Sto) => ∃ (x8 : Unit), es 8 = .bool false ∧ S' = sput (sput (sput (sput s0 0 (some (Ck.var 66 pg0 ((([Value.int .i64 v0.1.1] ++ [Value.int .i64 v0.1.2]) ++ ([Value.bool v0.2.1] ++ ([Value.int .i64 v0.2.2.1] ++ ([Value.slice A0_3 v0.2.2.2.1.length c0_3] ++ ([Value.map (some r0_4)] ++ [Value.slice A0_5 v0.2.2.2.2.2.length c0_5]))))))))) 1 (some (Ck.m1 r0_4 w0_4.1 A0_4 w0_4.2.length c0_4))) 2 (some (Ck.sl T24 A0_4 c0_4 w0_4.2))) 3 (some (Ck.var 24 g1 (([Value.int .i64 a1.1] ++ [Value.int .i64 a1.2]))))) (upv es 8 (.bool false)) (sput (sput (sput (sput s0 0 (some (Ck.var 66 pg0 ((([Value.int .i64 v0.1.1] ++ [Value.int .i64 v0.1.2]) ++ ([Value.bool v0.2.1] ++ ([Value.int .i64 v0.2.2.1] ++ ([Value.slice A0_3 v0.2.2.2.1.length c0_3] ++ ([Value.map (some r0_4)] ++ [Value.slice A0_5 v0.2.2.2.2.2.length c0_5]))))))))) 1 (some (Ck.m1 r0_4 w0_4.1 A0_4 w0_4.2.length c0_4))) 2 (some (Ck.sl T24 A0_4 c0_4 w0_4.2))) 3 (some (Ck.var 24 g1 (([Value.int .i64 a1.1] ++ [Value.int .i64 a1.2]))))) from ⟨x8, rfl, rfl⟩) rfl (keep_cons (by exact rfl) (keep_cons (by exact rfl) (keep_nil))) (sub_put (by exact rfl) (sub_put (by exact rfl) (sub_put (by exact rfl) (sub_put (by exact rfl) (sub_nil _)))))
      · refine ⟨fun o ho es vs f' S' hve hvp hf hx hK hE => ?_⟩
        obtain rfl := Option.some.inj ho
        refine ⟨want_is (j := 2) (t := 11) rfl rfl (by kernel_rfl) ((hf 2 11 (by kernel_rfl) rfl).trans (show vs 2 = .bool true from hvp 2 (by kernel_rfl))) rfl, fun _ _ => ?_, (fun _ h => by cases h), (fun h _ => by cases h), (fun h _ => by cases h)⟩
        have hF := fr_next (fr_next (rfl) ((hf 2 11 (by kernel_rfl) rfl).trans (show vs 2 = .bool true from hvp 2 (by kernel_rfl)))) ((hf 8 17 (by kernel_rfl) rfl).trans (show vs 8 = .bool false from hvp 8 (by kernel_rfl)))
        refine ls_fr hF ?_
        refine lv (.bool false) ?_
        exact ls_finp (.bool false) (congrArg (fun z => upd z 18 _) hF.symm) rfl
      · refine ⟨fun o ho es vs f' S' hve hvp hf hx hK hE => ?_⟩
        obtain rfl := Option.some.inj ho
        refine ⟨want_is (j := 9) (t := 18) rfl rfl (by kernel_rfl) ((hf 9 18 (by kernel_rfl) rfl).trans (show vs 9 = .bool false from hvp 9 (by kernel_rfl))) rfl, fun _ _ => ?_, (fun _ h => by cases h), (fun h _ => by cases h), (fun h _ => by cases h)⟩
        have hF := fr_next (fr_next (rfl) ((hx 0 (by kernel_rfl)).trans (by kernel_rfl : (_ : Value) = .pointer (some ⟨pg0, 0, none⟩)))) ((hf 9 18 (by kernel_rfl) rfl).trans (show vs 9 = .bool false from hvp 9 (by kernel_rfl)))
        refine ls_fr hF ?_
        refine lv (.pointer (some ⟨pg0, 0, none⟩)) ?_
        exact ls_finp (.pointer (some ⟨pg0, 0, none⟩)) (congrArg (fun z => upd z 19 _) hF.symm) rfl
      · refine ⟨fun o ho es vs f' S' hve hvp hf hx hK hE => ?_⟩
        obtain rfl := Option.some.inj ho
        obtain ⟨x8, hv8, rfl⟩ := hE rfl
        refine ⟨want_is (j := 9) (t := 18) rfl rfl (by kernel_rfl) ((hf 9 18 (by kernel_rfl) rfl).trans (show vs 9 = .bool false from hvp 9 (by kernel_rfl))) rfl, (fun h _ => by cases h), (fun h _ => by cases h), fun _ _ => ?_, (fun _ h => by cases h)⟩
        have hF := fr_next (fr_next (rfl) ((hf 9 18 (by kernel_rfl) rfl).trans (show vs 9 = .bool false from hvp 9 (by kernel_rfl)))) ((hf 10 19 (by kernel_rfl) rfl).trans (show vs 10 = .pointer (some ⟨pg0, 0, none⟩) from hvp 10 (by kernel_rfl)))
        refine ls_fr hF ?_
        refine ls_callb (fid := 50) (vals := #[.pointer (some ⟨pg0, 0, none⟩)]) (X := (Option Addr × Nat) × (Option Addr × Nat)) (fun x => .slice x.1.1 t10.1.length x.1.2) (fun x => stl [Ck.var 66 pg0 ((([Value.int .i64 v0.1.1] ++ [Value.int .i64 v0.1.2]) ++ ([Value.bool v0.2.1] ++ ([Value.int .i64 v0.2.2.1] ++ ([Value.slice A0_3 v0.2.2.2.1.length c0_3] ++ ([Value.map (some r0_4)] ++ [Value.slice A0_5 v0.2.2.2.2.2.length c0_5])))))), Ck.m1 r0_4 t10.2.1 x.2.1 t10.2.2.length x.2.2, Ck.sl T24 x.2.1 x.2.2 t10.2.2, Ck.ro T24 x.1.1 x.1.2 t10.1]) [0, 1, 2] [] [Ck.var 66 pg0 ((([Value.int .i64 v0.1.1] ++ [Value.int .i64 v0.1.2]) ++ ([Value.bool v0.2.1] ++ ([Value.int .i64 v0.2.2.1] ++ ([Value.slice A0_3 v0.2.2.2.1.length c0_3] ++ ([Value.map (some r0_4)] ++ [Value.slice A0_5 v0.2.2.2.2.2.length c0_5])))))), Ck.m1 r0_4 w0_4.1 A0_4 w0_4.2.length c0_4, Ck.sl T24 A0_4 c0_4 w0_4.2] [] 4 rfl rfl (by kernel_rfl) (fun w => by kernel_rfl) ⟨by exact rfl, by exact rfl, by exact rfl, trivial⟩ trivial (by decide) (fun w hs hb => alloc_Alloc_waiting.calls k pg0 A0_3 c0_3 r0_4 A0_5 c0_5 (v0.1, v0.2.1, v0.2.2.1, v0.2.2.2.1, (), v0.2.2.2.2.2) A0_4 c0_4 (w0_4.1, w0_4.2) t10 (lent b w [Ck.var 66 pg0 ((([Value.int .i64 v0.1.1] ++ [Value.int .i64 v0.1.2]) ++ ([Value.bool v0.2.1] ++ ([Value.int .i64 v0.2.2.1] ++ ([Value.slice A0_3 v0.2.2.2.1.length c0_3] ++ ([Value.map (some r0_4)] ++ [Value.slice A0_5 v0.2.2.2.2.2.length c0_5])))))), Ck.m1 r0_4 w0_4.1 A0_4 w0_4.2.length c0_4, Ck.sl T24 A0_4 c0_4 w0_4.2] []) hb (hs.ro R0_3 _ _) C0_3 (hs.ro R0_5 _ _) C0_5 hc11) ?_
        intro x12
        exact ls_fine (sput (sput (sput (sput (sput s0 0 (some (Ck.var 66 pg0 ((([Value.int .i64 v0.1.1] ++ [Value.int .i64 v0.1.2]) ++ ([Value.bool v0.2.1] ++ ([Value.int .i64 v0.2.2.1] ++ ([Value.slice A0_3 v0.2.2.2.1.length c0_3] ++ ([Value.map (some r0_4)] ++ [Value.slice A0_5 v0.2.2.2.2.2.length c0_5]))))))))) 1 (some (Ck.m1 r0_4 t10.2.1 x12.2.1 t10.2.2.length x12.2.2))) 2 (some (Ck.sl T24 x12.2.1 x12.2.2 t10.2.2))) 3 (some (Ck.var 24 g1 (([Value.int .i64 a1.1] ++ [Value.int .i64 a1.2]))))) 4 (some (Ck.ro T24 x12.1.1 x12.1.2 t10.1))) (.slice x12.1.1 t10.1.length x12.1.2) (congrArg (fun z => upd z 20 _) hF.symm) (show (fun (es : Nat → Value) (S' : Sto) => ∃ (x8 : Unit) (x12 : (Option Addr × Nat) × (Option Addr × Nat)), es 8 = .bool false ∧ es 11 = .slice x12.1.1 t10.1.length x12.1.2 ∧ S' = sput (sput (sput (sput (sput s0 0 (some (Ck.var 66 pg0 ((([Value.int .i64 v0.1.1] ++ [Value.int .i64 v0.1.2]) ++ ([Value.bool v0.2.1] ++ ([Value.int .i64 v0.2.2.1] ++ ([Value.slice A0_3 v0.2.2.2.1.length c0_3] ++ ([Value.map (some r0_4)] ++ [Value.slice A0_5 v0.2.2.2.2.2.length c0_5]))))))))) 1 (some (Ck.m1 r0_4 t10.2.1 x12.2.1 t10.2.2.length x12.2.2))) 2 (some (Ck.sl T24 x12.2.1 x12.2.2 t10.2.2))) 3 (some (Ck.var 24 g1 (([Value.int .i64 a1.1] ++ [Value.int .i64 a1.2]))))) 4 (some (Ck.ro T24 x12.1.1 x12.1.2 t10.1))) (upv es 11 (.slice x12.1.1 t10.1.length x12.1.2)) (sput (sput (sput (sput (sput s0 0 (some (Ck.var 66 pg0 ((([Value.int .i64 v0.1.1] ++ [Value.int .i64 v0.1.2]) ++ ([Value.bool v0.2.1] ++ ([Value.int .i64 v0.2.2.1] ++ ([Value.slice A0_3 v0.2.2.2.1.length c0_3] ++ ([Value.map (some r0_4)] ++ [Value.slice A0_5 v0.2.2.2.2.2.length c0_5]))))))))) 1 (some (Ck.m1 r0_4 t10.2.1 x12.2.1 t10.2.2.length x12.2.2))) 2 (some (Ck.sl T24 x12.2.1 x12.2.2 t10.2.2))) 3 (some (Ck.var 24 g1 (([Value.int .i64 a1.1] ++ [Value.int .i64 a1.2]))))) 4 (some (Ck.ro T24 x12.1.1 x12.1.2 t10.1))) from ⟨x8, x12, hv8, rfl, rfl⟩) rfl (keep_cons (by exact rfl) (keep_cons (by exact rfl) (keep_nil))) (sub_put (by exact rfl) (sub_put (by exact rfl) (sub_put (by exact rfl) (sub_put (by exact rfl) (sub_put (by exact rfl) (sub_nil _))))))
      refine ⟨fun o ho es vs f' S' hve hvp hf hx hK hE => ?_⟩
      obtain rfl := Option.some.inj ho
      refine ⟨want_is (j := 9) (t := 18) rfl rfl (by kernel_rfl) ((hf 9 18 (by kernel_rfl) rfl).trans (show vs 9 = .bool false from hvp 9 (by kernel_rfl))) rfl, fun _ _ => ?_, (fun _ h => by cases h), (fun h _ => by cases h), (fun h _ => by cases h)⟩
      have hF := fr_next (fr_next (rfl) ((hx 3 (by kernel_rfl)).trans (by kernel_rfl : (_ : Value) = .pointer (some ⟨g1, 0, none⟩)))) ((hf 9 18 (by kernel_rfl) rfl).trans (show vs 9 = .bool false from hvp 9 (by kernel_rfl)))
      refine ls_fr hF ?_
      refine ls_loadagg (a := ⟨g1, 0, none⟩) (sub := ([Value.int .i64 a1.1] ++ [Value.int .i64 a1.2])) rfl rfl (by kernel_rfl) rfl (by kernel_rfl) (by kernel_rfl) (by kernel_rfl) (len_app (len1 _) (len1 _)) (fun w hs => (hs.vars (k := 3) ((hK 3 (by rfl)).trans (by exact rfl)) (Sub4.all _))) ?_
      exact ls_finp (.agg ⟨([Value.int .i64 a1.1] ++ [Value.int .i64 a1.2])⟩) (congrArg (fun z => upd z 21 _) hF.symm) rfl
    intro es vs f' S' hve hvp hf hx hK hE
    obtain ⟨x8, x12, hv8, hv11, rfl⟩ := hE
    refine ls_fr (F := upd (upd (upd (upd (upd f' 5 (.int .i64 t2)) 11 (.bool true)) 18 (.bool false)) 20 (.slice x12.1.1 t10.1.length x12.1.2)) 21 (.agg ⟨([Value.int .i64 a1.1] ++ [Value.int .i64 a1.2])⟩)) (fr_next (fr_next (fr_next (fr_next (fr_next (rfl) ((hx 5 (by kernel_rfl)).trans (by kernel_rfl : (_ : Value) = .int .i64 t2))) ((hf 2 11 (by kernel_rfl) rfl).trans (show vs 2 = .bool true from hvp 2 (by kernel_rfl)))) ((hf 9 18 (by kernel_rfl) rfl).trans (show vs 9 = .bool false from hvp 9 (by kernel_rfl)))) (((hf 11 20 (by kernel_rfl) rfl).trans (show vs 11 = es 11 from hvp 11 (by kernel_rfl))).trans hv11)) ((hf 12 21 (by kernel_rfl) rfl).trans (show vs 12 = .agg ⟨([Value.int .i64 a1.1] ++ [Value.int .i64 a1.2])⟩ from hvp 12 (by kernel_rfl)))) ?_
    refine ls_sub (sput (sput (sput (sput s0 0 (some (Ck.var 66 pg0 ((([Value.int .i64 v0.1.1] ++ [Value.int .i64 v0.1.2]) ++ ([Value.bool v0.2.1] ++ ([Value.int .i64 v0.2.2.1] ++ ([Value.slice A0_3 v0.2.2.2.1.length c0_3] ++ ([Value.map (some r0_4)] ++ [Value.slice A0_5 v0.2.2.2.2.2.length c0_5]))))))))) 1 (some (Ck.m1 r0_4 t10.2.1 x12.2.1 t10.2.2.length x12.2.2))) 2 (some (Ck.sl T24 x12.2.1 x12.2.2 t10.2.2))) 4 (some (Ck.ro T24 x12.1.1 x12.1.2 t10.1))) (sub_put (by exact rfl) (sub_put (by exact rfl) (sub_put (by exact rfl) (sub_put (by exact rfl) (sub_nil _))))) ?_
    refine ls_on (j := 9) (t := 18) (b := false) rfl rfl (by kernel_rfl) (by kernel_rfl) ?_
    obtain ⟨t13, hc14, H⟩ := bind_some H
    refine ls_callb (fid := 11) (vals := #[.slice x12.1.1 t10.1.length x12.1.2, .agg ⟨([Value.int .i64 a1.1] ++ [Value.int .i64 a1.2])⟩]) (X := Unit) (fun x => .bool t13) (fun x => stl []) [] [4] [] [Ck.ro T24 x12.1.1 x12.1.2 t10.1] 5 rfl rfl (by kernel_rfl) (fun w => by kernel_rfl) trivial ⟨by exact rfl, trivial⟩ (by decide) (fun w hs hb => extent_Meets.calls k x12.1.1 x12.1.2 t10.1 a1 t13 (lent b w [] [Ck.ro T24 x12.1.1 x12.1.2 t10.1]) hb (hs.roror (k := 4) (by exact rfl) (.head _)) (hs.rocap (k := 4) (by exact rfl)) hc14) ?_
    intro x15
    refine ls_on (j := 2) (t := 11) (b := true) rfl rfl (by kernel_rfl) (by kernel_rfl) ?_
    refine lv (.bool t13) ?_
    refine lv (.bool t13) ?_
    refine ls_end ?_
    refine qn_then ?_
    by_cases q16 : t13 = true
    · replace H := ite_t q16 H
      refine cs_know (c := true) (q16) 24 (by kernel_rfl) ?_
      refine cs_true (by kernel_rfl) ?_
      refine cs_region (l := [_]) ?_
      refine lv (.int .i64 (13 : Int)) ?_
      refine ls_end ?_
      refine qn_then ?_
      refine cs_seq ?_
      refine cs_region (l := [_, _]) ?_
      refine lv (.int .i64 (13 : Int)) ?_
      refine lv (.int .i64 (13 : Int)) ?_
      refine ls_end ?_
      refine qn_then ?_
      refine cs_ret' ?_
      obtain rfl := Option.some.inj H
      refine qr_res (rs := [_]) rfl (fun w' hs => ⟨[.int .i64 (13 : Int)], (res_tmp (by kernel_rfl) (.nil)), (x12.2.1, x12.2.2), rfl, hs.pick (ts := [0, 1, 2]) (cs := [Ck.var 66 pg0 ((([Value.int .i64 v0.1.1] ++ [Value.int .i64 v0.1.2]) ++ ([Value.bool v0.2.1] ++ ([Value.int .i64 v0.2.2.1] ++ ([Value.slice A0_3 v0.2.2.2.1.length c0_3] ++ ([Value.map (some r0_4)] ++ [Value.slice A0_5 v0.2.2.2.2.2.length c0_5])))))), Ck.m1 r0_4 t10.2.1 x12.2.1 t10.2.2.length x12.2.2, Ck.sl T24 x12.2.1 x12.2.2 t10.2.2]) ⟨by exact rfl, by exact rfl, by exact rfl, trivial⟩ (by decide)⟩)
    replace H := ite_f q16 H
    refine cs_know (c := false) (Bool.eq_false_iff.mpr q16) 24 (by kernel_rfl) ?_
    refine cs_false (by kernel_rfl) ?_
    refine cs_skip' ?_
    refine qn_then ?_
    refine cs_seq ?_
    refine cs_region (l := [_, _]) ?_
    refine lv (.int .i64 t2) ?_
    refine lv (.int .i64 t2) ?_
    refine ls_end ?_
    refine qn_then ?_
    refine cs_ret' ?_
    obtain rfl := Option.some.inj H
    refine qr_res (rs := [_]) rfl (fun w' hs => ⟨[.int .i64 t2], (res_tmp (by kernel_rfl) (.nil)), (x12.2.1, x12.2.2), rfl, hs.pick (ts := [0, 1, 2]) (cs := [Ck.var 66 pg0 ((([Value.int .i64 v0.1.1] ++ [Value.int .i64 v0.1.2]) ++ ([Value.bool v0.2.1] ++ ([Value.int .i64 v0.2.2.1] ++ ([Value.slice A0_3 v0.2.2.2.1.length c0_3] ++ ([Value.map (some r0_4)] ++ [Value.slice A0_5 v0.2.2.2.2.2.length c0_5])))))), Ck.m1 r0_4 t10.2.1 x12.2.1 t10.2.2.length x12.2.2, Ck.sl T24 x12.2.1 x12.2.2 t10.2.2]) ⟨by exact rfl, by exact rfl, by exact rfl, trivial⟩ (by decide)⟩)
  replace H := ite_f q5 H
  refine cs_sub (sput (sput (sput (sput s0 0 (some (Ck.var 66 pg0 ((([Value.int .i64 v0.1.1] ++ [Value.int .i64 v0.1.2]) ++ ([Value.bool v0.2.1] ++ ([Value.int .i64 v0.2.2.1] ++ ([Value.slice A0_3 v0.2.2.2.1.length c0_3] ++ ([Value.map (some r0_4)] ++ [Value.slice A0_5 v0.2.2.2.2.2.length c0_5]))))))))) 1 (some (Ck.m1 r0_4 w0_4.1 A0_4 w0_4.2.length c0_4))) 2 (some (Ck.sl T24 A0_4 c0_4 w0_4.2))) 3 (some (Ck.var 24 g1 (([Value.int .i64 a1.1] ++ [Value.int .i64 a1.2]))))) (sub_put (by exact rfl) (sub_put (by exact rfl) (sub_put (by exact rfl) (sub_put (by exact rfl) (sub_nil _))))) ?_
  refine cs_chain (l := [_, _, _, _, _, _, _, _, _, _, _, _, _, _, _, _]) [[], [0], [0, 1], [0, 1, 2], [0, 1, 2, 3], [0, 1, 2, 3, 4], [0, 1, 2, 3, 4, 5], [0, 1, 2], [0, 1, 2, 3, 4, 5, 6, 7], [0, 1, 2, 3, 4, 5, 6, 7, 8], [0, 1, 2, 3, 4, 5, 6, 7, 8, 9], [0, 1, 2, 3, 4, 5, 6, 7, 8, 9, 10], [0, 1, 2, 3, 4, 5, 6, 7, 8, 9], [0, 1, 2, 3, 4, 5, 6, 7, 8, 9, 10, 11, 12], [0, 1, 2, 3, 4, 5, 6, 7, 8, 9, 10, 11, 12, 13], [0, 1, 2, 3, 4, 5, 6, 7, 8, 9, 10, 11, 12, 13, 14]] 13 (fun u => [0, 1, 2, 3].contains u) (efl [false, false, false, false, false, false, false, false, false, false, false, false, false]) (pvl [.val (.int .i64 t2), .val (.bool false), .val (.bool false), .val (undef), .val (undef), .val (undef), .val (undef), .val (undef), .val (undef), .val (undef), .val (undef), .val (undef), .val (undef)]) (Esl [fun (es : Nat → Value) (S' : Sto) => S' = sput (sput (sput (sput s0 0 (some (Ck.var 66 pg0 ((([Value.int .i64 v0.1.1] ++ [Value.int .i64 v0.1.2]) ++ ([Value.bool v0.2.1] ++ ([Value.int .i64 v0.2.2.1] ++ ([Value.slice A0_3 v0.2.2.2.1.length c0_3] ++ ([Value.map (some r0_4)] ++ [Value.slice A0_5 v0.2.2.2.2.2.length c0_5]))))))))) 1 (some (Ck.m1 r0_4 w0_4.1 A0_4 w0_4.2.length c0_4))) 2 (some (Ck.sl T24 A0_4 c0_4 w0_4.2))) 3 (some (Ck.var 24 g1 (([Value.int .i64 a1.1] ++ [Value.int .i64 a1.2]))))] [0, 0, 0, 0, 0, 0, 0, 0, 0, 0, 0, 0, 0, 0]) (nxl [0, 0, 0, 0, 0, 0, 0, 0, 0, 0, 0, 0, 0]) (onl [true, true, true, false, false, false, false, false, false, false, false, false, false]) 13 (by kernel_rfl) (by kernel_rfl) (by kernel_rfl) (by kernel_rfl) (by kernel_rfl) (rs := [_, _, _]) rfl (by kernel_rfl) (by kernel_rfl) (fun es => ?_) ?_ ?_
  · exact (rfl : sput (sput (sput (sput s0 0 (some (Ck.var 66 pg0 ((([Value.int .i64 v0.1.1] ++ [Value.int .i64 v0.1.2]) ++ ([Value.bool v0.2.1] ++ ([Value.int .i64 v0.2.2.1] ++ ([Value.slice A0_3 v0.2.2.2.1.length c0_3] ++ ([Value.map (some r0_4)] ++ [Value.slice A0_5 v0.2.2.2.2.2.length c0_5]))))))))) 1 (some (Ck.m1 r0_4 w0_4.1 A0_4 w0_4.2.length c0_4))) 2 (some (Ck.sl T24 A0_4 c0_4 w0_4.2))) 3 (some (Ck.var 24 g1 (([Value.int .i64 a1.1] ++ [Value.int .i64 a1.2])))) = sput (sput (sput (sput s0 0 (some (Ck.var 66 pg0 ((([Value.int .i64 v0.1.1] ++ [Value.int .i64 v0.1.2]) ++ ([Value.bool v0.2.1] ++ ([Value.int .i64 v0.2.2.1] ++ ([Value.slice A0_3 v0.2.2.2.1.length c0_3] ++ ([Value.map (some r0_4)] ++ [Value.slice A0_5 v0.2.2.2.2.2.length c0_5]))))))))) 1 (some (Ck.m1 r0_4 w0_4.1 A0_4 w0_4.2.length c0_4))) 2 (some (Ck.sl T24 A0_4 c0_4 w0_4.2))) 3 (some (Ck.var 24 g1 (([Value.int .i64 a1.1] ++ [Value.int .i64 a1.2])))))
  · refine all_snoc (all_snoc (all_snoc (all_snoc (all_snoc (all_snoc (all_snoc (all_snoc (all_snoc (all_snoc (all_snoc (all_snoc (all_snoc (all_nil) ?_) ?_) ?_) ?_) ?_) ?_) ?_) ?_) ?_) ?_) ?_) ?_) ?_
    · refine ⟨fun o ho es vs f' S' hve hvp hf hx hK hE => ?_⟩
      obtain rfl := Option.some.inj ho
      refine ⟨want_none rfl, fun _ _ => ?_, (fun _ h => by cases h), (fun h _ => by cases h), (fun h _ => by cases h)⟩
      have hF := fr_next (rfl) ((hx 5 (by kernel_rfl)).trans (by kernel_rfl : (_ : Value) = .int .i64 t2))
      refine ls_fr hF ?_
      refine lv (.int .i64 t2) ?_
      exact ls_finp (.int .i64 t2) (congrArg (fun z => upd z 9 _) hF.symm) rfl
    · refine ⟨fun o ho es vs f' S' hve hvp hf hx hK hE => ?_⟩
      obtain rfl := Option.some.inj ho
      refine ⟨want_none rfl, fun _ _ => ?_, (fun _ h => by cases h), (fun h _ => by cases h), (fun h _ => by cases h)⟩
      have hF := fr_next (rfl) ((hf 0 9 (by kernel_rfl) rfl).trans (show vs 0 = .int .i64 t2 from hvp 0 (by kernel_rfl)))
      refine ls_fr hF ?_
      refine lv (.bool (decide (t2 = (0 : Int)))) ?_
      refine ls_ren 10 (v := .bool (decide (t2 = (0 : Int)))) (v' := .bool false) (by kernel_rfl) (congrArg Value.bool (show (decide (t2 = (0 : Int))) = false from dec_f q5)) ?_
      exact ls_finp (.bool false) ((upd_upd _ _ _ _).trans (congrArg (fun z => upd z 10 _) hF.symm)) rfl
    · refine ⟨fun o ho es vs f' S' hve hvp hf hx hK hE => ?_⟩
      obtain rfl := Option.some.inj ho
      refine ⟨want_none rfl, fun _ _ => ?_, (fun _ h => by cases h), (fun h _ => by cases h), (fun h _ => by cases h)⟩
      have hF := fr_next (rfl) ((hf 1 10 (by kernel_rfl) rfl).trans (show vs 1 = .bool false from hvp 1 (by kernel_rfl)))
      refine ls_fr hF ?_
      refine lv (.bool false) ?_
      exact ls_finp (.bool false) (congrArg (fun z => upd z 11 _) hF.symm) rfl
    · refine ⟨fun o ho es vs f' S' hve hvp hf hx hK hE => ?_⟩
      obtain rfl := Option.some.inj ho
      exact ⟨want_is (j := 2) (t := 11) rfl rfl (by kernel_rfl) ((hf 2 11 (by kernel_rfl) rfl).trans (show vs 2 = .bool false from hvp 2 (by kernel_rfl))) rfl, (fun _ h => by cases h), fun _ _ => rfl, (fun h _ => by cases h), (fun h _ => by cases h)⟩
    · refine ⟨fun o ho es vs f' S' hve hvp hf hx hK hE => ?_⟩
      obtain rfl := Option.some.inj ho
      exact ⟨want_is (j := 2) (t := 11) rfl rfl (by kernel_rfl) ((hf 2 11 (by kernel_rfl) rfl).trans (show vs 2 = .bool false from hvp 2 (by kernel_rfl))) rfl, (fun _ h => by cases h), fun _ _ => rfl, (fun h _ => by cases h), (fun h _ => by cases h)⟩
    · refine ⟨fun o ho es vs f' S' hve hvp hf hx hK hE => ?_⟩
      obtain rfl := Option.some.inj ho
      exact ⟨want_is (j := 2) (t := 11) rfl rfl (by kernel_rfl) ((hf 2 11 (by kernel_rfl) rfl).trans (show vs 2 = .bool false from hvp 2 (by kernel_rfl))) rfl, (fun _ h => by cases h), fun _ _ => rfl, (fun h _ => by cases h), (fun h _ => by cases h)⟩
    · refine ⟨fun o ho es vs f' S' hve hvp hf hx hK hE => ?_⟩
      obtain rfl := Option.some.inj ho
      exact ⟨want_is (j := 2) (t := 11) rfl rfl (by kernel_rfl) ((hf 2 11 (by kernel_rfl) rfl).trans (show vs 2 = .bool false from hvp 2 (by kernel_rfl))) rfl, (fun _ h => by cases h), fun _ _ => rfl, (fun h _ => by cases h), (fun h _ => by cases h)⟩
    · refine ⟨fun o ho es vs f' S' hve hvp hf hx hK hE => ?_⟩
      obtain rfl := Option.some.inj ho
      exact ⟨want_is (j := 2) (t := 11) rfl rfl (by kernel_rfl) ((hf 2 11 (by kernel_rfl) rfl).trans (show vs 2 = .bool false from hvp 2 (by kernel_rfl))) rfl, (fun _ h => by cases h), fun _ _ => rfl, (fun h _ => by cases h), (fun h _ => by cases h)⟩
    · refine ⟨fun o ho es vs f' S' hve hvp hf hx hK hE => ?_⟩
      obtain rfl := Option.some.inj ho
      exact ⟨want_is (j := 2) (t := 11) rfl rfl (by kernel_rfl) ((hf 2 11 (by kernel_rfl) rfl).trans (show vs 2 = .bool false from hvp 2 (by kernel_rfl))) rfl, (fun _ h => by cases h), fun _ _ => rfl, (fun h _ => by cases h), (fun h _ => by cases h)⟩
    · refine ⟨fun o ho es vs f' S' hve hvp hf hx hK hE => ?_⟩
      obtain rfl := Option.some.inj ho
      exact ⟨want_is (j := 2) (t := 11) rfl rfl (by kernel_rfl) ((hf 2 11 (by kernel_rfl) rfl).trans (show vs 2 = .bool false from hvp 2 (by kernel_rfl))) rfl, (fun _ h => by cases h), fun _ _ => rfl, (fun h _ => by cases h), (fun h _ => by cases h)⟩
    · refine ⟨fun o ho es vs f' S' hve hvp hf hx hK hE => ?_⟩
      obtain rfl := Option.some.inj ho
      exact ⟨want_not (j := 9) (t := 18) rfl rfl (by kernel_rfl) ((hf 9 18 (by kernel_rfl) rfl).trans (show vs 9 = undef from hvp 9 (by kernel_rfl))), (fun _ h => by cases h), fun _ _ => rfl, (fun h _ => by cases h), (fun h _ => by cases h)⟩
    · refine ⟨fun o ho es vs f' S' hve hvp hf hx hK hE => ?_⟩
      obtain rfl := Option.some.inj ho
      exact ⟨want_not (j := 9) (t := 18) rfl rfl (by kernel_rfl) ((hf 9 18 (by kernel_rfl) rfl).trans (show vs 9 = undef from hvp 9 (by kernel_rfl))), (fun _ h => by cases h), fun _ _ => rfl, (fun h _ => by cases h), (fun h _ => by cases h)⟩
    refine ⟨fun o ho es vs f' S' hve hvp hf hx hK hE => ?_⟩
    obtain rfl := Option.some.inj ho
    exact ⟨want_not (j := 9) (t := 18) rfl rfl (by kernel_rfl) ((hf 9 18 (by kernel_rfl) rfl).trans (show vs 9 = undef from hvp 9 (by kernel_rfl))), (fun _ h => by cases h), fun _ _ => rfl, (fun h _ => by cases h), (fun h _ => by cases h)⟩
  intro es vs f' S' hve hvp hf hx hK hE
  obtain rfl := hE
  refine ls_fr (F := upd (upd (upd f' 5 (.int .i64 t2)) 11 (.bool false)) 18 undef) (fr_next (fr_next (fr_next (rfl) ((hx 5 (by kernel_rfl)).trans (by kernel_rfl : (_ : Value) = .int .i64 t2))) ((hf 2 11 (by kernel_rfl) rfl).trans (show vs 2 = .bool false from hvp 2 (by kernel_rfl)))) ((hf 9 18 (by kernel_rfl) rfl).trans (show vs 9 = undef from hvp 9 (by kernel_rfl)))) ?_
  refine ls_sub (sput (sput (sput s0 0 (some (Ck.var 66 pg0 ((([Value.int .i64 v0.1.1] ++ [Value.int .i64 v0.1.2]) ++ ([Value.bool v0.2.1] ++ ([Value.int .i64 v0.2.2.1] ++ ([Value.slice A0_3 v0.2.2.2.1.length c0_3] ++ ([Value.map (some r0_4)] ++ [Value.slice A0_5 v0.2.2.2.2.2.length c0_5]))))))))) 1 (some (Ck.m1 r0_4 w0_4.1 A0_4 w0_4.2.length c0_4))) 2 (some (Ck.sl T24 A0_4 c0_4 w0_4.2))) (sub_put (by exact rfl) (sub_put (by exact rfl) (sub_put (by exact rfl) (sub_nil _)))) ?_
  refine ls_offu (j := 9) (t := 18) (b := false) rfl rfl (by kernel_rfl) (by kernel_rfl) rfl (by kernel_rfl) ?_
  refine lofx 2 11 true false ?_
  refine lv (.bool false) ?_
  refine ls_end ?_
  refine qn_then ?_
  refine cs_false (by kernel_rfl) ?_
  refine cs_skip' ?_
  refine qn_then ?_
  refine cs_seq ?_
  refine cs_region (l := [_, _]) ?_
  refine lv (.int .i64 t2) ?_
  refine lv (.int .i64 t2) ?_
  refine ls_end ?_
  refine qn_then ?_
  refine cs_ret' ?_
  obtain rfl := Option.some.inj H
  refine qr_res (rs := [_]) rfl (fun w' hs => ⟨[.int .i64 t2], (res_tmp (by kernel_rfl) (.nil)), (A0_4, c0_4), rfl, hs.pick (ts := [0, 1, 2]) (cs := [Ck.var 66 pg0 ((([Value.int .i64 v0.1.1] ++ [Value.int .i64 v0.1.2]) ++ ([Value.bool v0.2.1] ++ ([Value.int .i64 v0.2.2.1] ++ ([Value.slice A0_3 v0.2.2.2.1.length c0_3] ++ ([Value.map (some r0_4)] ++ [Value.slice A0_5 v0.2.2.2.2.2.length c0_5])))))), Ck.m1 r0_4 w0_4.1 A0_4 w0_4.2.length c0_4, Ck.sl T24 A0_4 c0_4 w0_4.2]) ⟨by exact rfl, by exact rfl, by exact rfl, trivial⟩ (by decide)⟩)

/-! ### (*shadowbox/alloc.Alloc).Later: function 30 -/
def alloc_Alloc_Later.f (k : Nat) (v0 : ((Int × Int) × Bool × Int × (List (Int × Int)) × Unit × (List (Int × Int)))) (w0_4 : (Bool × (List (Int × Int)))) (a1 : (Int × Int)) : Option (Int × (Bool × (List (Int × Int)))) :=
  (alloc_Alloc_used.f k (v0.1, v0.2.1, v0.2.2.1, v0.2.2.2.1, (), v0.2.2.2.2.2) (w0_4.1, w0_4.2) a1).bind fun t2 => (if t2.1 = (0 : Int) then (if (t2.2.2.length + ([a1]).length) * 16 ≤ 140737488355328 then some (t2.1, (true, (t2.2.2 ++ [a1]))) else none) else some (t2.1, (t2.2.1, t2.2.2)))
set_option maxRecDepth 100000 in
set_option maxHeartbeats 4000000 in
theorem alloc_Alloc_Later.calls (k : Nat) (pg0 : Nat) (A0_3 : Option Addr) (c0_3 : Nat) (r0_4 : Nat) (A0_5 : Option Addr) (c0_5 : Nat) (v0 : ((Int × Int) × Bool × Int × (List (Int × Int)) × Unit × (List (Int × Int)))) (A0_4 : Option Addr) (c0_4 : Nat) (w0_4 : (Bool × (List (Int × Int)))) (a1 : (Int × Int)) (r : Int × (Bool × (List (Int × Int)))) (b : Bs) (hs0 : St b (stl [Ck.var 66 pg0 ((([Value.int .i64 v0.1.1] ++ [Value.int .i64 v0.1.2]) ++ ([Value.bool v0.2.1] ++ ([Value.int .i64 v0.2.2.1] ++ ([Value.slice A0_3 v0.2.2.2.1.length c0_3] ++ ([Value.map (some r0_4)] ++ [Value.slice A0_5 v0.2.2.2.2.2.length c0_5])))))), Ck.m1 r0_4 w0_4.1 A0_4 w0_4.2.length c0_4, Ck.sl T24 A0_4 c0_4 w0_4.2]) b.w) (R0_3 : Ro b A0_3 (em T24 v0.2.2.2.1)) (C0_3 : v0.2.2.2.1.length ≤ c0_3) (R0_5 : Ro b A0_5 (em T24 v0.2.2.2.2.2)) (C0_5 : v0.2.2.2.2.2.length ≤ c0_5) (H : alloc_Alloc_Later.f k v0 w0_4 a1 = some r) :
    Calls Try.prog 30 #[.pointer (some ⟨pg0, 0, none⟩), .agg ⟨([Value.int .i64 a1.1] ++ [Value.int .i64 a1.2])⟩] b.w fun e w' => ∃ x : (Option Addr × Nat), e = .returned (.int .i64 r.1) ∧ St b (stl [Ck.var 66 pg0 ((([Value.int .i64 v0.1.1] ++ [Value.int .i64 v0.1.2]) ++ ([Value.bool v0.2.1] ++ ([Value.int .i64 v0.2.2.1] ++ ([Value.slice A0_3 v0.2.2.2.1.length c0_3] ++ ([Value.map (some r0_4)] ++ [Value.slice A0_5 v0.2.2.2.2.2.length c0_5])))))), Ck.m1 r0_4 r.2.1 x.1 r.2.2.length x.2, Ck.sl T24 x.1 x.2 r.2.2]) w' := by
  unfold alloc_Alloc_Later.f at H
  refine enterb (n := 24) Try.func30 rfl (by kernel_rfl) (by kernel_rfl) hs0 ?_
  refine cs_sub (sput (sput (sput s0 0 (some (Ck.var 66 pg0 ((([Value.int .i64 v0.1.1] ++ [Value.int .i64 v0.1.2]) ++ ([Value.bool v0.2.1] ++ ([Value.int .i64 v0.2.2.1] ++ ([Value.slice A0_3 v0.2.2.2.1.length c0_3] ++ ([Value.map (some r0_4)] ++ [Value.slice A0_5 v0.2.2.2.2.2.length c0_5]))))))))) 1 (some (Ck.m1 r0_4 w0_4.1 A0_4 w0_4.2.length c0_4))) 2 (some (Ck.sl T24 A0_4 c0_4 w0_4.2))) (sub_put (by exact rfl) (sub_put (by exact rfl) (sub_put (by exact rfl) (sub_nil _)))) ?_
  refine cs_seq ?_
  refine cs_region (l := [_, _]) ?_
  refine ls_new rfl rfl (by kernel_rfl) 3 (fun g => .pointer (some ⟨g, 0, none⟩)) (.cells ⟨([Value.int .i64 a1.1] ++ [Value.int .i64 a1.2])⟩ 24) (fun w => by kernel_rfl) ?_
  intro g1
  refine lv (.int .i64 (0 : Int)) ?_
  refine ls_end ?_
  refine qn_then ?_
  refine cs_seq ?_
  refine cs_region (l := [_, _, _, _]) ?_
  refine lv (.pointer (some ⟨pg0, 0, none⟩)) ?_
  refine ls_loadagg (a := ⟨g1, 0, none⟩) (sub := ([Value.int .i64 a1.1] ++ [Value.int .i64 a1.2])) rfl rfl (by kernel_rfl) rfl (by kernel_rfl) (by kernel_rfl) (by kernel_rfl) (len_app (len1 _) (len1 _)) (fun w hs => (hs.vars (k := 3) (by exact rfl) (Sub4.all _))) ?_
  obtain ⟨t2, hc3, H⟩ := bind_some H
  refine ls_callb (fid := 49) (vals := #[.pointer (some ⟨pg0, 0, none⟩), .agg ⟨([Value.int .i64 a1.1] ++ [Value.int .i64 a1.2])⟩]) (X := (Option Addr × Nat)) (fun x => .int .i64 t2.1) (fun x => stl [Ck.var 66 pg0 ((([Value.int .i64 v0.1.1] ++ [Value.int .i64 v0.1.2]) ++ ([Value.bool v0.2.1] ++ ([Value.int .i64 v0.2.2.1] ++ ([Value.slice A0_3 v0.2.2.2.1.length c0_3] ++ ([Value.map (some r0_4)] ++ [Value.slice A0_5 v0.2.2.2.2.2.length c0_5])))))), Ck.m1 r0_4 t2.2.1 x.1 t2.2.2.length x.2, Ck.sl T24 x.1 x.2 t2.2.2]) [0, 1, 2] [] [Ck.var 66 pg0 ((([Value.int .i64 v0.1.1] ++ [Value.int .i64 v0.1.2]) ++ ([Value.bool v0.2.1] ++ ([Value.int .i64 v0.2.2.1] ++ ([Value.slice A0_3 v0.2.2.2.1.length c0_3] ++ ([Value.map (some r0_4)] ++ [Value.slice A0_5 v0.2.2.2.2.2.length c0_5])))))), Ck.m1 r0_4 w0_4.1 A0_4 w0_4.2.length c0_4, Ck.sl T24 A0_4 c0_4 w0_4.2] [] 4 rfl rfl (by kernel_rfl) (fun w => by kernel_rfl) ⟨by exact rfl, by exact rfl, by exact rfl, trivial⟩ trivial (by decide) (fun w hs hb => alloc_Alloc_used.calls k pg0 A0_3 c0_3 r0_4 A0_5 c0_5 (v0.1, v0.2.1, v0.2.2.1, v0.2.2.2.1, (), v0.2.2.2.2.2) A0_4 c0_4 (w0_4.1, w0_4.2) a1 t2 (lent b w [Ck.var 66 pg0 ((([Value.int .i64 v0.1.1] ++ [Value.int .i64 v0.1.2]) ++ ([Value.bool v0.2.1] ++ ([Value.int .i64 v0.2.2.1] ++ ([Value.slice A0_3 v0.2.2.2.1.length c0_3] ++ ([Value.map (some r0_4)] ++ [Value.slice A0_5 v0.2.2.2.2.2.length c0_5])))))), Ck.m1 r0_4 w0_4.1 A0_4 w0_4.2.length c0_4, Ck.sl T24 A0_4 c0_4 w0_4.2] []) hb (hs.ro R0_3 _ _) C0_3 (hs.ro R0_5 _ _) C0_5 hc3) ?_
  intro x4
  refine lv (.int .i64 t2.1) ?_
  refine ls_end ?_
  refine qn_then ?_
  refine cs_seq ?_
  refine cs_seq ?_
  refine cs_region (l := [_, _]) ?_
  refine lv (.int .i64 t2.1) ?_
  refine lv (.bool (decide (t2.1 = (0 : Int)))) ?_
  refine ls_end ?_
  refine qn_then ?_
  by_cases q5 : t2.1 = (0 : Int)
  · replace H := ite_t q5 H
    refine cs_know (c := true) (dec_t q5) 10 (by kernel_rfl) ?_
    refine cs_true (by kernel_rfl) ?_
    obtain ⟨q7, H⟩ := ite_need H
    refine cs_sub (sput (sput (sput (sput s0 0 (some (Ck.var 66 pg0 ((([Value.int .i64 v0.1.1] ++ [Value.int .i64 v0.1.2]) ++ ([Value.bool v0.2.1] ++ ([Value.int .i64 v0.2.2.1] ++ ([Value.slice A0_3 v0.2.2.2.1.length c0_3] ++ ([Value.map (some r0_4)] ++ [Value.slice A0_5 v0.2.2.2.2.2.length c0_5]))))))))) 1 (some (Ck.m1 r0_4 t2.2.1 x4.1 t2.2.2.length x4.2))) 2 (some (Ck.sl T24 x4.1 x4.2 t2.2.2))) 3 (some (Ck.var 24 g1 (([Value.int .i64 a1.1] ++ [Value.int .i64 a1.2]))))) (sub_put (by exact rfl) (sub_put (by exact rfl) (sub_put (by exact rfl) (sub_put (by exact rfl) (sub_nil _))))) ?_
    refine cs_chain (l := [_, _, _, _, _, _, _, _, _, _, _, _, _]) [[], [0], [0, 1], [0, 1, 2], [], [4], [4, 5], [4, 5, 6], [4, 5, 6, 7], [], [9], [4, 5, 6, 7, 8, 9, 10], [0, 1, 2, 3, 4, 5, 6, 7, 8, 9, 10, 11]] 12 (fun u => [0, 1, 3].contains u) (efl [false, false, false, false, false, false, false, false, false, false, true, true]) (pvl [.val (.pointer (some ⟨pg0, 0, none⟩)), .val (.pointer (some ⟨pg0, 0, none⟩)), .val (.pointer (some ⟨pg0, (0 + 5), none⟩)), .val (.map (some r0_4)), .val (.pointer (some ⟨pg0, 0, none⟩)), .val (.pointer (some ⟨pg0, 0, none⟩)), .val (.pointer (some ⟨pg0, (0 + 5), none⟩)), .val (.map (some r0_4)), .val (.slice x4.1 t2.2.2.length x4.2), .val (.agg ⟨([Value.int .i64 a1.1] ++ [Value.int .i64 a1.2])⟩), .eff 10, .eff 11]) (Esl [fun (es : Nat → Value) (S' : Sto) => S' = sput (sput (sput (sput s0 0 (some (Ck.var 66 pg0 ((([Value.int .i64 v0.1.1] ++ [Value.int .i64 v0.1.2]) ++ ([Value.bool v0.2.1] ++ ([Value.int .i64 v0.2.2.1] ++ ([Value.slice A0_3 v0.2.2.2.1.length c0_3] ++ ([Value.map (some r0_4)] ++ [Value.slice A0_5 v0.2.2.2.2.2.length c0_5]))))))))) 1 (some (Ck.m1 r0_4 t2.2.1 x4.1 t2.2.2.length x4.2))) 2 (some (Ck.sl T24 x4.1 x4.2 t2.2.2))) 3 (some (Ck.var 24 g1 (([Value.int .i64 a1.1] ++ [Value.int .i64 a1.2])))), fun (es : Nat → Value) (S' : Sto) => ∃ (g6 : Nat), es 10 = .slice (some ⟨g6, 0, none⟩) [a1].length [a1].length ∧ S' = sput (sput (sput (sput (sput s0 0 (some (Ck.var 66 pg0 ((([Value.int .i64 v0.1.1] ++ [Value.int .i64 v0.1.2]) ++ ([Value.bool v0.2.1] ++ ([Value.int .i64 v0.2.2.1] ++ ([Value.slice A0_3 v0.2.2.2.1.length c0_3] ++ ([Value.map (some r0_4)] ++ [Value.slice A0_5 v0.2.2.2.2.2.length c0_5]))))))))) 1 (some (Ck.m1 r0_4 t2.2.1 x4.1 t2.2.2.length x4.2))) 2 (some (Ck.sl T24 x4.1 x4.2 t2.2.2))) 3 (some (Ck.var 24 g1 (([Value.int .i64 a1.1] ++ [Value.int .i64 a1.2]))))) 4 (some (Ck.sl T24 (some ⟨g6, 0, none⟩) ([a1].length) ([a1]))), fun (es : Nat → Value) (S' : Sto) => ∃ (g6 : Nat) (xA8 : Option Addr) (xc9 : Nat), es 10 = .slice (some ⟨g6, 0, none⟩) [a1].length [a1].length ∧ es 11 = .slice xA8 (t2.2.2 ++ [a1]).length xc9 ∧ S' = sput (sput (sput (sput (sput s0 0 (some (Ck.var 66 pg0 ((([Value.int .i64 v0.1.1] ++ [Value.int .i64 v0.1.2]) ++ ([Value.bool v0.2.1] ++ ([Value.int .i64 v0.2.2.1] ++ ([Value.slice A0_3 v0.2.2.2.1.length c0_3] ++ ([Value.map (some r0_4)] ++ [Value.slice A0_5 v0.2.2.2.2.2.length c0_5]))))))))) 1 (some (Ck.m1 r0_4 t2.2.1 x4.1 t2.2.2.length x4.2))) 2 (some (Ck.sl T24 xA8 xc9 (t2.2.2 ++ [a1])))) 3 (some (Ck.var 24 g1 (([Value.int .i64 a1.1] ++ [Value.int .i64 a1.2]))))) 4 (some (Ck.sl T24 (some ⟨g6, 0, none⟩) ([a1].length) ([a1])))] [0, 0, 0, 0, 0, 0, 0, 0, 0, 0, 0, 1, 2]) (nxl [0, 0, 0, 0, 0, 0, 0, 0, 0, 0, 11, 12]) (onl [true, true, true, true, true, true, true, true, true, true, true, true]) 10 (by kernel_rfl) (by kernel_rfl) (by kernel_rfl) (by kernel_rfl) (by kernel_rfl) (rs := [_]) rfl (by kernel_rfl) (by kernel_rfl) (fun es => ?_) ?_ ?_
    · exact (rfl : sput (sput (sput (sput s0 0 (some (Ck.var 66 pg0 ((([Value.int .i64 v0.1.1] ++ [Value.int .i64 v0.1.2]) ++ ([Value.bool v0.2.1] ++ ([Value.int .i64 v0.2.2.1] ++ ([Value.slice A0_3 v0.2.2.2.1.length c0_3] ++ ([Value.map (some r0_4)] ++ [Value.slice A0_5 v0.2.2.2.2.2.length c0_5]))))))))) 1 (some (Ck.m1 r0_4 t2.2.1 x4.1 t2.2.2.length x4.2))) 2 (some (Ck.sl T24 x4.1 x4.2 t2.2.2))) 3 (some (Ck.var 24 g1 (([Value.int .i64 a1.1] ++ [Value.int .i64 a1.2])))) = sput (sput (sput (sput s0 0 (some (Ck.var 66 pg0 ((([Value.int .i64 v0.1.1] ++ [Value.int .i64 v0.1.2]) ++ ([Value.bool v0.2.1] ++ ([Value.int .i64 v0.2.2.1] ++ ([Value.slice A0_3 v0.2.2.2.1.length c0_3] ++ ([Value.map (some r0_4)] ++ [Value.slice A0_5 v0.2.2.2.2.2.length c0_5]))))))))) 1 (some (Ck.m1 r0_4 t2.2.1 x4.1 t2.2.2.length x4.2))) 2 (some (Ck.sl T24 x4.1 x4.2 t2.2.2))) 3 (some (Ck.var 24 g1 (([Value.int .i64 a1.1] ++ [Value.int .i64 a1.2])))))
    · refine all_snoc (all_snoc (all_snoc (all_snoc (all_snoc (all_snoc (all_snoc (all_snoc (all_snoc (all_snoc (all_snoc (all_snoc (all_nil) ?_) ?_) ?_) ?_) ?_) ?_) ?_) ?_) ?_) ?_) ?_) ?_
      · refine ⟨fun o ho es vs f' S' hve hvp hf hx hK hE => ?_⟩
        obtain rfl := Option.some.inj ho
        refine ⟨want_none rfl, fun _ _ => ?_, (fun _ h => by cases h), (fun h _ => by cases h), (fun h _ => by cases h)⟩
        have hF := fr_next (rfl) ((hx 0 (by kernel_rfl)).trans (by kernel_rfl : (_ : Value) = .pointer (some ⟨pg0, 0, none⟩)))
        refine ls_fr hF ?_
        refine lv (.pointer (some ⟨pg0, 0, none⟩)) ?_
        exact ls_finp (.pointer (some ⟨pg0, 0, none⟩)) (congrArg (fun z => upd z 11 _) hF.symm) rfl
      · refine ⟨fun o ho es vs f' S' hve hvp hf hx hK hE => ?_⟩
        obtain rfl := Option.some.inj ho
        refine ⟨want_none rfl, fun _ _ => ?_, (fun _ h => by cases h), (fun h _ => by cases h), (fun h _ => by cases h)⟩
        have hF := fr_next (rfl) ((hf 0 11 (by kernel_rfl) rfl).trans (show vs 0 = .pointer (some ⟨pg0, 0, none⟩) from hvp 0 (by kernel_rfl)))
        refine ls_fr hF ?_
        refine lv (.pointer (some ⟨pg0, 0, none⟩)) ?_
        exact ls_finp (.pointer (some ⟨pg0, 0, none⟩)) (congrArg (fun z => upd z 12 _) hF.symm) rfl
      · refine ⟨fun o ho es vs f' S' hve hvp hf hx hK hE => ?_⟩
        obtain rfl := Option.some.inj ho
        refine ⟨want_none rfl, fun _ _ => ?_, (fun _ h => by cases h), (fun h _ => by cases h), (fun h _ => by cases h)⟩
        have hF := fr_next (rfl) ((hf 1 12 (by kernel_rfl) rfl).trans (show vs 1 = .pointer (some ⟨pg0, 0, none⟩) from hvp 1 (by kernel_rfl)))
        refine ls_fr hF ?_
        refine lv (.pointer (some ⟨pg0, (0 + 5), none⟩)) ?_
        exact ls_finp (.pointer (some ⟨pg0, (0 + 5), none⟩)) (congrArg (fun z => upd z 13 _) hF.symm) rfl
      · refine ⟨fun o ho es vs f' S' hve hvp hf hx hK hE => ?_⟩
        obtain rfl := Option.some.inj ho
        refine ⟨want_none rfl, fun _ _ => ?_, (fun _ h => by cases h), (fun h _ => by cases h), (fun h _ => by cases h)⟩
        have hF := fr_next (rfl) ((hf 2 13 (by kernel_rfl) rfl).trans (show vs 2 = .pointer (some ⟨pg0, (0 + 5), none⟩) from hvp 2 (by kernel_rfl)))
        refine ls_fr hF ?_
        refine ls_load (a0 := ⟨pg0, (0 + 5), none⟩) (v := .map (some r0_4)) (de := (TypeDesc.map 3 22)) rfl rfl (by kernel_rfl) rfl (by kernel_rfl) (by kernel_rfl) (by kernel_rfl) (fun w hs => (hs.var (k := 0) ((hK 0 (by rfl)).trans (by exact rfl)) (Sub4.trans (Sub4.all _) (Sub4.skip (n := 2) (len_app (len1 _) (len1 _)) (Sub4.skip (n := 1) (len1 _) (Sub4.skip (n := 1) (len1 _) (Sub4.skip (n := 1) (len1 _) (Sub4.head _ _)))))))) ?_
        exact ls_finp (.map (some r0_4)) (congrArg (fun z => upd z 14 _) hF.symm) rfl
      · refine ⟨fun o ho es vs f' S' hve hvp hf hx hK hE => ?_⟩
        obtain rfl := Option.some.inj ho
        refine ⟨want_none rfl, fun _ _ => ?_, (fun _ h => by cases h), (fun h _ => by cases h), (fun h _ => by cases h)⟩
        have hF := fr_next (rfl) ((hx 0 (by kernel_rfl)).trans (by kernel_rfl : (_ : Value) = .pointer (some ⟨pg0, 0, none⟩)))
        refine ls_fr hF ?_
        refine lv (.pointer (some ⟨pg0, 0, none⟩)) ?_
        exact ls_finp (.pointer (some ⟨pg0, 0, none⟩)) (congrArg (fun z => upd z 15 _) hF.symm) rfl
      · refine ⟨fun o ho es vs f' S' hve hvp hf hx hK hE => ?_⟩
        obtain rfl := Option.some.inj ho
        refine ⟨want_none rfl, fun _ _ => ?_, (fun _ h => by cases h), (fun h _ => by cases h), (fun h _ => by cases h)⟩
        have hF := fr_next (rfl) ((hf 4 15 (by kernel_rfl) rfl).trans (show vs 4 = .pointer (some ⟨pg0, 0, none⟩) from hvp 4 (by kernel_rfl)))
        refine ls_fr hF ?_
        refine lv (.pointer (some ⟨pg0, 0, none⟩)) ?_
        exact ls_finp (.pointer (some ⟨pg0, 0, none⟩)) (congrArg (fun z => upd z 16 _) hF.symm) rfl
      · refine ⟨fun o ho es vs f' S' hve hvp hf hx hK hE => ?_⟩
        obtain rfl := Option.some.inj ho
        refine ⟨want_none rfl, fun _ _ => ?_, (fun _ h => by cases h), (fun h _ => by cases h), (fun h _ => by cases h)⟩
        have hF := fr_next (rfl) ((hf 5 16 (by kernel_rfl) rfl).trans (show vs 5 = .pointer (some ⟨pg0, 0, none⟩) from hvp 5 (by kernel_rfl)))
        refine ls_fr hF ?_
        refine lv (.pointer (some ⟨pg0, (0 + 5), none⟩)) ?_
        exact ls_finp (.pointer (some ⟨pg0, (0 + 5), none⟩)) (congrArg (fun z => upd z 17 _) hF.symm) rfl
      · refine ⟨fun o ho es vs f' S' hve hvp hf hx hK hE => ?_⟩
        obtain rfl := Option.some.inj ho
        refine ⟨want_none rfl, fun _ _ => ?_, (fun _ h => by cases h), (fun h _ => by cases h), (fun h _ => by cases h)⟩
        have hF := fr_next (rfl) ((hf 6 17 (by kernel_rfl) rfl).trans (show vs 6 = .pointer (some ⟨pg0, (0 + 5), none⟩) from hvp 6 (by kernel_rfl)))
        refine ls_fr hF ?_
        refine ls_load (a0 := ⟨pg0, (0 + 5), none⟩) (v := .map (some r0_4)) (de := (TypeDesc.map 3 22)) rfl rfl (by kernel_rfl) rfl (by kernel_rfl) (by kernel_rfl) (by kernel_rfl) (fun w hs => (hs.var (k := 0) ((hK 0 (by rfl)).trans (by exact rfl)) (Sub4.trans (Sub4.all _) (Sub4.skip (n := 2) (len_app (len1 _) (len1 _)) (Sub4.skip (n := 1) (len1 _) (Sub4.skip (n := 1) (len1 _) (Sub4.skip (n := 1) (len1 _) (Sub4.head _ _)))))))) ?_
        exact ls_finp (.map (some r0_4)) (congrArg (fun z => upd z 18 _) hF.symm) rfl
      · refine ⟨fun o ho es vs f' S' hve hvp hf hx hK hE => ?_⟩
        obtain rfl := Option.some.inj ho
        refine ⟨want_none rfl, fun _ _ => ?_, (fun _ h => by cases h), (fun h _ => by cases h), (fun h _ => by cases h)⟩
        have hF := fr_next (rfl) ((hf 7 18 (by kernel_rfl) rfl).trans (show vs 7 = .map (some r0_4) from hvp 7 (by kernel_rfl)))
        refine ls_fr hF ?_
        refine ls_m1look (r := r0_4) (p := t2.2.1) (A := x4.1) (m := t2.2.2.length) (c := x4.2) (kt := 3) (et := 22) 1 rfl rfl (by kernel_rfl) rfl (by kernel_rfl) (by kernel_rfl) (by kernel_rfl) (by kernel_rfl) (fun w hs => hs.m1 (k := 1) ((hK 1 (by rfl)).trans (by exact rfl))) ?_
        exact ls_finp (.slice x4.1 t2.2.2.length x4.2) (congrArg (fun z => upd z 19 _) hF.symm) rfl
      · refine ⟨fun o ho es vs f' S' hve hvp hf hx hK hE => ?_⟩
        obtain rfl := Option.some.inj ho
        refine ⟨want_none rfl, fun _ _ => ?_, (fun _ h => by cases h), (fun h _ => by cases h), (fun h _ => by cases h)⟩
        have hF := fr_next (rfl) ((hx 3 (by kernel_rfl)).trans (by kernel_rfl : (_ : Value) = .pointer (some ⟨g1, 0, none⟩)))
        refine ls_fr hF ?_
        refine ls_loadagg (a := ⟨g1, 0, none⟩) (sub := ([Value.int .i64 a1.1] ++ [Value.int .i64 a1.2])) rfl rfl (by kernel_rfl) rfl (by kernel_rfl) (by kernel_rfl) (by kernel_rfl) (len_app (len1 _) (len1 _)) (fun w hs => (hs.vars (k := 3) ((hK 3 (by rfl)).trans (by exact rfl)) (Sub4.all _))) ?_
        exact ls_finp (.agg ⟨([Value.int .i64 a1.1] ++ [Value.int .i64 a1.2])⟩) (congrArg (fun z => upd z 20 _) hF.symm) rfl
      · refine ⟨fun o ho es vs f' S' hve hvp hf hx hK hE => ?_⟩
        obtain rfl := Option.some.inj ho
        obtain rfl := hE rfl
        refine ⟨want_none rfl, (fun h _ => by cases h), (fun h _ => by cases h), fun _ _ => ?_, (fun _ h => by cases h)⟩
        have hF := fr_next (rfl) ((hf 9 20 (by kernel_rfl) rfl).trans (show vs 9 = .agg ⟨([Value.int .i64 a1.1] ++ [Value.int .i64 a1.2])⟩ from hvp 9 (by kernel_rfl)))
        refine ls_fr hF ?_
        refine ls_lit T24 4 rfl rfl (by kernel_rfl) ([a1]) (by exact of_decide_eq_true (by kernel_rfl)) (fun w => by kernel_rfl) ?_
        intro g6
        exact ls_fine (sput (sput (sput (sput (sput s0 0 (some (Ck.var 66 pg0 ((([Value.int .i64 v0.1.1] ++ [Value.int .i64 v0.1.2]) ++ ([Value.bool v0.2.1] ++ ([Value.int .i64 v0.2.2.1] ++ ([Value.slice A0_3 v0.2.2.2.1.length c0_3] ++ ([Value.map (some r0_4)] ++ [Value.slice A0_5 v0.2.2.2.2.2.length c0_5]))))))))) 1 (some (Ck.m1 r0_4 t2.2.1 x4.1 t2.2.2.length x4.2))) 2 (some (Ck.sl T24 x4.1 x4.2 t2.2.2))) 3 (some (Ck.var 24 g1 (([Value.int .i64 a1.1] ++ [Value.int .i64 a1.2]))))) 4 (some (Ck.sl T24 (some ⟨g6, 0, none⟩) ([a1].length) ([a1])))) (.slice (some ⟨g6, 0, none⟩) [a1].length [a1].length) (congrArg (fun z => upd z 21 _) hF.symm) (show (fun (es : Nat → Value) (S' : Sto) => ∃ (g6 : Nat), es 10 = .slice (some ⟨g6, 0, none⟩) [a1].length [a1].length ∧ S' = sput (sput (sput (sput (sput s0 0 (some (Ck.var 66 pg0 ((([Value.int .i64 v0.1.1] ++ [Value.int .i64 v0.1.2]) ++ ([Value.bool v0.2.1] ++ ([Value.int .i64 v0.2.2.1] ++ ([Value.slice A0_3 v0.2.2.2.1.length c0_3] ++ ([Value.map (some r0_4)] ++ [Value.slice A0_5 v0.2.2.2.2.2.length c0_5]))))))))) 1 (some (Ck.m1 r0_4 t2.2.1 x4.1 t2.2.2.length x4.2))) 2 (some (Ck.sl T24 x4.1 x4.2 t2.2.2))) 3 (some (Ck.var 24 g1 (([Value.int .i64 a1.1] ++ [Value.int .i64 a1.2]))))) 4 (some (Ck.sl T24 (some ⟨g6, 0, none⟩) ([a1].length) ([a1])))) (upv es 10 (.slice (some ⟨g6, 0, none⟩) [a1].length [a1].length)) (sput (sput (sput (sput (sput s0 0 (some (Ck.var 66 pg0 ((([Value.int .i64 v0.1.1] ++ [Value.int .i64 v0.1.2]) ++ ([Value.bool v0.2.1] ++ ([Value.int .i64 v0.2.2.1] ++ ([Value.slice A0_3 v0.2.2.2.1.length c0_3] ++ ([Value.map (some r0_4)] ++ [Value.slice A0_5 v0.2.2.2.2.2.length c0_5]))))))))) 1 (some (Ck.m1 r0_4 t2.2.1 x4.1 t2.2.2.length x4.2))) 2 (some (Ck.sl T24 x4.1 x4.2 t2.2.2))) 3 (some (Ck.var 24 g1 (([Value.int .i64 a1.1] ++ [Value.int .i64 a1.2]))))) 4 (some (Ck.sl T24 (some ⟨g6, 0, none⟩) ([a1].length) ([a1])))) from ⟨g6, rfl, rfl⟩) rfl (keep_cons (by exact rfl) (keep_cons (by exact rfl) (keep_cons (by exact rfl) (keep_nil)))) (sub_put (by exact rfl) (sub_put (by exact rfl) (sub_put (by exact rfl) (sub_put (by exact rfl) (sub_put (by exact rfl) (sub_nil _))))))
      refine ⟨fun o ho es vs f' S' hve hvp hf hx hK hE => ?_⟩
      obtain rfl := Option.some.inj ho
      obtain ⟨g6, hv10, rfl⟩ := hE rfl
      refine ⟨want_none rfl, (fun h _ => by cases h), (fun h _ => by cases h), fun _ _ => ?_, (fun _ h => by cases h)⟩
      have hF := fr_next (fr_next (rfl) ((hf 8 19 (by kernel_rfl) rfl).trans (show vs 8 = .slice x4.1 t2.2.2.length x4.2 from hvp 8 (by kernel_rfl)))) (((hf 10 21 (by kernel_rfl) rfl).trans (show vs 10 = es 10 from hvp 10 (by kernel_rfl))).trans hv10)
      refine ls_fr hF ?_
      refine ls_app T24 (A := x4.1) (c := x4.2) (B := (some ⟨g6, 0, none⟩)) (cb := [a1].length) (z := (.agg ⟨([Value.int .i64 (0 : Int)] ++ [Value.int .i64 (0 : Int)])⟩)) (l := t2.2.2) (m := [a1]) (bytes := 16) 2 rfl rfl (by kernel_rfl) rfl (by kernel_rfl) (by exact rfl) (by kernel_rfl) (fun w hs => (hs.rd (k := 4) (by exact rfl))) (by kernel_rfl) (by kernel_rfl) rfl (by decide) q7 ?_
      intro xA8 xc9
      exact ls_fine (sput (sput (sput (sput (sput s0 0 (some (Ck.var 66 pg0 ((([Value.int .i64 v0.1.1] ++ [Value.int .i64 v0.1.2]) ++ ([Value.bool v0.2.1] ++ ([Value.int .i64 v0.2.2.1] ++ ([Value.slice A0_3 v0.2.2.2.1.length c0_3] ++ ([Value.map (some r0_4)] ++ [Value.slice A0_5 v0.2.2.2.2.2.length c0_5]))))))))) 1 (some (Ck.m1 r0_4 t2.2.1 x4.1 t2.2.2.length x4.2))) 2 (some (Ck.sl T24 xA8 xc9 (t2.2.2 ++ [a1])))) 3 (some (Ck.var 24 g1 (([Value.int .i64 a1.1] ++ [Value.int .i64 a1.2]))))) 4 (some (Ck.sl T24 (some ⟨g6, 0, none⟩) ([a1].length) ([a1])))) (.slice xA8 (t2.2.2 ++ [a1]).length xc9) (congrArg (fun z => upd z 22 _) hF.symm) (show (fun (es : Nat → Value) (S' : Sto) => ∃ (g6 : Nat) (xA8 : Option Addr) (xc9 : Nat), es 10 = .slice (some ⟨g6, 0, none⟩) [a1].length [a1].length ∧ es 11 = .slice xA8 (t2.2.2 ++ [a1]).length xc9 ∧ S' = sput (sput (sput (sput (sput s0 0 (some (Ck.var 66 pg0 ((([Value.int .i64 v0.1.1] ++ [Value.int .i64 v0.1.2]) ++ ([Value.bool v0.2.1] ++ ([Value.int .i64 v0.2.2.1] ++ ([Value.slice A0_3 v0.2.2.2.1.length c0_3] ++ ([Value.map (some r0_4)] ++ [Value.slice A0_5 v0.2.2.2.2.2.length c0_5]))))))))) 1 (some (Ck.m1 r0_4 t2.2.1 x4.1 t2.2.2.length x4.2))) 2 (some (Ck.sl T24 xA8 xc9 (t2.2.2 ++ [a1])))) 3 (some (Ck.var 24 g1 (([Value.int .i64 a1.1] ++ [Value.int .i64 a1.2]))))) 4 (some (Ck.sl T24 (some ⟨g6, 0, none⟩) ([a1].length) ([a1])))) (upv es 11 (.slice xA8 (t2.2.2 ++ [a1]).length xc9)) (sput (sput (sput (sput (sput s0 0 (some (Ck.var 66 pg0 ((([Value.int .i64 v0.1.1] ++ [Value.int .i64 v0.1.2]) ++ ([Value.bool v0.2.1] ++ ([Value.int .i64 v0.2.2.1] ++ ([Value.slice A0_3 v0.2.2.2.1.length c0_3] ++ ([Value.map (some r0_4)] ++ [Value.slice A0_5 v0.2.2.2.2.2.length c0_5]))))))))) 1 (some (Ck.m1 r0_4 t2.2.1 x4.1 t2.2.2.length x4.2))) 2 (some (Ck.sl T24 xA8 xc9 (t2.2.2 ++ [a1])))) 3 (some (Ck.var 24 g1 (([Value.int .i64 a1.1] ++ [Value.int .i64 a1.2]))))) 4 (some (Ck.sl T24 (some ⟨g6, 0, none⟩) ([a1].length) ([a1])))) from ⟨g6, xA8, xc9, hv10, rfl, rfl⟩) rfl (keep_cons (by exact rfl) (keep_cons (by exact rfl) (keep_cons (by exact rfl) (keep_nil)))) (sub_put (by exact rfl) (sub_put (by exact rfl) (sub_put (by exact rfl) (sub_put (by exact rfl) (sub_put (by exact rfl) (sub_nil _))))))
    intro es vs f' S' hve hvp hf hx hK hE
    obtain ⟨g6, xA8, xc9, hv10, hv11, rfl⟩ := hE
    refine ls_fr (F := upd (upd (upd f' 5 (.int .i64 t2.1)) 14 (.map (some r0_4))) 22 (.slice xA8 (t2.2.2 ++ [a1]).length xc9)) (fr_next (fr_next (fr_next (rfl) ((hx 5 (by kernel_rfl)).trans (by kernel_rfl : (_ : Value) = .int .i64 t2.1))) ((hf 3 14 (by kernel_rfl) rfl).trans (show vs 3 = .map (some r0_4) from hvp 3 (by kernel_rfl)))) (((hf 11 22 (by kernel_rfl) rfl).trans (show vs 11 = es 11 from hvp 11 (by kernel_rfl))).trans hv11)) ?_
    refine ls_sub (sput (sput (sput s0 0 (some (Ck.var 66 pg0 ((([Value.int .i64 v0.1.1] ++ [Value.int .i64 v0.1.2]) ++ ([Value.bool v0.2.1] ++ ([Value.int .i64 v0.2.2.1] ++ ([Value.slice A0_3 v0.2.2.2.1.length c0_3] ++ ([Value.map (some r0_4)] ++ [Value.slice A0_5 v0.2.2.2.2.2.length c0_5]))))))))) 1 (some (Ck.m1 r0_4 t2.2.1 x4.1 t2.2.2.length x4.2))) 2 (some (Ck.sl T24 xA8 xc9 (t2.2.2 ++ [a1])))) (sub_put (by exact rfl) (sub_put (by exact rfl) (sub_put (by exact rfl) (sub_nil _)))) ?_
    refine ls_m1put (r := r0_4) (p := t2.2.1) (A := x4.1) (m := t2.2.2.length) (c := x4.2) (A' := xA8) (m' := (t2.2.2 ++ [a1]).length) (c' := xc9) (kt := 3) (et := 22) 1 rfl rfl rfl (by kernel_rfl) (by kernel_rfl) (by kernel_rfl) (by kernel_rfl) (by exact rfl) ?_
    refine ls_end ?_
    refine qn_then ?_
    refine cs_seq ?_
    refine cs_region (l := [_, _]) ?_
    refine lv (.int .i64 t2.1) ?_
    refine lv (.int .i64 t2.1) ?_
    refine ls_end ?_
    refine qn_then ?_
    refine cs_ret' ?_
    obtain rfl := Option.some.inj H
    refine qr_res (rs := [_]) rfl (fun w' hs => ⟨[.int .i64 t2.1], (res_tmp (by kernel_rfl) (.nil)), (xA8, xc9), rfl, hs.pick (ts := [0, 1, 2]) (cs := [Ck.var 66 pg0 ((([Value.int .i64 v0.1.1] ++ [Value.int .i64 v0.1.2]) ++ ([Value.bool v0.2.1] ++ ([Value.int .i64 v0.2.2.1] ++ ([Value.slice A0_3 v0.2.2.2.1.length c0_3] ++ ([Value.map (some r0_4)] ++ [Value.slice A0_5 v0.2.2.2.2.2.length c0_5])))))), Ck.m1 r0_4 true xA8 ((t2.2.2 ++ [a1]).length) xc9, Ck.sl T24 xA8 xc9 (t2.2.2 ++ [a1])]) ⟨by exact rfl, by exact rfl, by exact rfl, trivial⟩ (by decide)⟩)
  replace H := ite_f q5 H
  refine cs_know (c := false) (dec_f q5) 10 (by kernel_rfl) ?_
  refine cs_false (by kernel_rfl) ?_
  refine cs_skip' ?_
  refine qn_then ?_
  refine cs_seq ?_
  refine cs_region (l := [_, _]) ?_
  refine lv (.int .i64 t2.1) ?_
  refine lv (.int .i64 t2.1) ?_
  refine ls_end ?_
  refine qn_then ?_
  refine cs_ret' ?_
  obtain rfl := Option.some.inj H
  refine qr_res (rs := [_]) rfl (fun w' hs => ⟨[.int .i64 t2.1], (res_tmp (by kernel_rfl) (.nil)), (x4.1, x4.2), rfl, hs.pick (ts := [0, 1, 2]) (cs := [Ck.var 66 pg0 ((([Value.int .i64 v0.1.1] ++ [Value.int .i64 v0.1.2]) ++ ([Value.bool v0.2.1] ++ ([Value.int .i64 v0.2.2.1] ++ ([Value.slice A0_3 v0.2.2.2.1.length c0_3] ++ ([Value.map (some r0_4)] ++ [Value.slice A0_5 v0.2.2.2.2.2.length c0_5])))))), Ck.m1 r0_4 t2.2.1 x4.1 t2.2.2.length x4.2, Ck.sl T24 x4.1 x4.2 t2.2.2]) ⟨by exact rfl, by exact rfl, by exact rfl, trivial⟩ (by decide)⟩)

/-! ### (*shadowbox/alloc.Alloc).Commit: function 31 -/
def alloc_Alloc_Commit.tab11 : List (List Nat) := [[], [], [1], [1, 2], [1, 2, 3], [], [1, 2, 3, 4, 5], [0, 1, 2, 3, 4, 5, 6], [0, 1, 2, 3, 4, 5, 6, 7], [0, 1, 2, 3, 4, 5, 6, 7, 8]]
def alloc_Alloc_Commit.lo2 (w0_4 : (Bool × (List (Int × Int)))) : Nat → Int → (((Int × Int) × Bool × Int × (List (Int × Int)) × Unit × (List (Int × Int)))) → Option (((Int × Int) × Bool × Int × (List (Int × Int)) × Unit × (List (Int × Int))) × (Bool × (List (Int × Int))))
  | 0, _, _ => none
  | k2 + 1, x20_2, m0_2 => (if x20_2 < (w0_4.2.length : Int) then (if 0 ≤ x20_2 then (extent_Add.f k2 m0_2.2.2.2.1 ((w0_4.2).getD (x20_2).toNat ((0 : Int), (0 : Int)))).bind fun t14 => (alloc_Alloc_Commit.lo2 w0_4 k2) (IntKind.wrap .i64 (x20_2 + (1 : Int))) (m0_2.1, m0_2.2.1, m0_2.2.2.1, t14, (), m0_2.2.2.2.2.2) else none) else some ((m0_2.1, m0_2.2.1, m0_2.2.2.1, m0_2.2.2.2.1, (), m0_2.2.2.2.1), (false, ([] : List (Int × Int)))))
def alloc_Alloc_Commit.jo1 (k : Nat) (v0 : ((Int × Int) × Bool × Int × (List (Int × Int)) × Unit × (List (Int × Int)))) (w0_4 : (Bool × (List (Int × Int)))) : Option (((Int × Int) × Bool × Int × (List (Int × Int)) × Unit × (List (Int × Int))) × (Bool × (List (Int × Int)))) := (if w0_4.1 = true then alloc_Alloc_Commit.lo2 w0_4 k (0 : Int) (v0.1, v0.2.1, v0.2.2.1, v0.2.2.2.1, (), v0.2.2.2.2.2) else some ((v0.1, v0.2.1, v0.2.2.1, v0.2.2.2.1, (), v0.2.2.2.1), (false, w0_4.2)))
def alloc_Alloc_Commit.f (k : Nat) (v0 : ((Int × Int) × Bool × Int × (List (Int × Int)) × Unit × (List (Int × Int)))) (w0_4 : (Bool × (List (Int × Int)))) : Option (((Int × Int) × Bool × Int × (List (Int × Int)) × Unit × (List (Int × Int))) × (Bool × (List (Int × Int)))) :=
  (alloc_Alloc_none.f k (v0.1, v0.2.1, v0.2.2.1, v0.2.2.2.1, (), v0.2.2.2.2.2) (w0_4.1, w0_4.2)).bind fun t22 => (if t22 = true then some ((v0.1, v0.2.1, v0.2.2.1, v0.2.2.2.1, (), v0.2.2.2.2.2), (w0_4.1, w0_4.2)) else (alloc_Alloc_Commit.jo1 k v0 w0_4))
set_option maxRecDepth 100000 in
set_option maxHeartbeats 4000000 in
theorem alloc_Alloc_Commit.calls (k : Nat) (pg0 : Nat) (A0_3 : Option Addr) (c0_3 : Nat) (r0_4 : Nat) (A0_5 : Option Addr) (c0_5 : Nat) (v0 : ((Int × Int) × Bool × Int × (List (Int × Int)) × Unit × (List (Int × Int)))) (A0_4 : Option Addr) (c0_4 : Nat) (w0_4 : (Bool × (List (Int × Int)))) (r : ((Int × Int) × Bool × Int × (List (Int × Int)) × Unit × (List (Int × Int))) × (Bool × (List (Int × Int)))) (b : Bs) (hs0 : St b (stl [Ck.var 66 pg0 ((([Value.int .i64 v0.1.1] ++ [Value.int .i64 v0.1.2]) ++ ([Value.bool v0.2.1] ++ ([Value.int .i64 v0.2.2.1] ++ ([Value.slice A0_3 v0.2.2.2.1.length c0_3] ++ ([Value.map (some r0_4)] ++ [Value.slice A0_5 v0.2.2.2.2.2.length c0_5])))))), Ck.m1 r0_4 w0_4.1 A0_4 w0_4.2.length c0_4, Ck.sl T24 A0_4 c0_4 w0_4.2]) b.w) (R0_3 : Ro b A0_3 (em T24 v0.2.2.2.1)) (C0_3 : v0.2.2.2.1.length ≤ c0_3) (R0_5 : Ro b A0_5 (em T24 v0.2.2.2.2.2)) (C0_5 : v0.2.2.2.2.2.length ≤ c0_5) (H : alloc_Alloc_Commit.f k v0 w0_4 = some r) :
    Calls Try.prog 31 #[.pointer (some ⟨pg0, 0, none⟩)] b.w fun e w' => ∃ b', b.le b' ∧ ∃ x : (Option Addr × Nat) × (Option Addr × Nat) × (Option Addr × Nat), e = .returned (.tuple #[]) ∧ ((Ro b' x.1.1 (em T24 r.1.2.2.2.1) ∧ r.1.2.2.2.1.length ≤ x.1.2) ∧ (Ro b' x.2.1.1 (em T24 r.1.2.2.2.2.2) ∧ r.1.2.2.2.2.2.length ≤ x.2.1.2)) ∧ St b' (stl [Ck.var 66 pg0 ((([Value.int .i64 r.1.1.1] ++ [Value.int .i64 r.1.1.2]) ++ ([Value.bool r.1.2.1] ++ ([Value.int .i64 r.1.2.2.1] ++ ([Value.slice x.1.1 r.1.2.2.2.1.length x.1.2] ++ ([Value.map (some r0_4)] ++ [Value.slice x.2.1.1 r.1.2.2.2.2.2.length x.2.1.2])))))), Ck.m1 r0_4 r.2.1 x.2.2.1 r.2.2.length x.2.2.2, Ck.sl T24 x.2.2.1 x.2.2.2 r.2.2]) w' := by
  unfold alloc_Alloc_Commit.f at H
  refine enterb (n := 46) Try.func31 rfl (by kernel_rfl) (by kernel_rfl) hs0 ?_
  refine cs_sub (sput (sput (sput s0 0 (some (Ck.var 66 pg0 ((([Value.int .i64 v0.1.1] ++ [Value.int .i64 v0.1.2]) ++ ([Value.bool v0.2.1] ++ ([Value.int .i64 v0.2.2.1] ++ ([Value.slice A0_3 v0.2.2.2.1.length c0_3] ++ ([Value.map (some r0_4)] ++ [Value.slice A0_5 v0.2.2.2.2.2.length c0_5]))))))))) 1 (some (Ck.m1 r0_4 w0_4.1 A0_4 w0_4.2.length c0_4))) 2 (some (Ck.sl T24 A0_4 c0_4 w0_4.2))) (sub_put (by exact rfl) (sub_put (by exact rfl) (sub_put (by exact rfl) (sub_nil _)))) ?_
  refine cs_cut (fun f S => ∃ (fR : Fr), f = upd fR 0 (.pointer (some ⟨pg0, 0, none⟩)) ∧ S = sput (sput (sput s0 0 (some (Ck.var 66 pg0 ((([Value.int .i64 v0.1.1] ++ [Value.int .i64 v0.1.2]) ++ ([Value.bool v0.2.1] ++ ([Value.int .i64 v0.2.2.1] ++ ([Value.slice A0_3 v0.2.2.2.1.length c0_3] ++ ([Value.map (some r0_4)] ++ [Value.slice A0_5 v0.2.2.2.2.2.length c0_5]))))))))) 1 (some (Ck.m1 r0_4 w0_4.1 A0_4 w0_4.2.length c0_4))) 2 (some (Ck.sl T24 A0_4 c0_4 w0_4.2)) ∧ alloc_Alloc_Commit.jo1 k v0 w0_4 = some r) ?_ ?_
  · skip
    refine cs_seq ?_
    refine cs_region (l := [_, _]) ?_
    refine lv (.pointer (some ⟨pg0, 0, none⟩)) ?_
    obtain ⟨t22, hc23, H⟩ := bind_some H
    refine ls_callb (fid := 48) (vals := #[.pointer (some ⟨pg0, 0, none⟩)]) (X := Unit) (fun x => .bool t22) (fun x => stl [Ck.var 66 pg0 ((([Value.int .i64 v0.1.1] ++ [Value.int .i64 v0.1.2]) ++ ([Value.bool v0.2.1] ++ ([Value.int .i64 v0.2.2.1] ++ ([Value.slice A0_3 v0.2.2.2.1.length c0_3] ++ ([Value.map (some r0_4)] ++ [Value.slice A0_5 v0.2.2.2.2.2.length c0_5])))))), Ck.m1 r0_4 w0_4.1 A0_4 w0_4.2.length c0_4, Ck.sl T24 A0_4 c0_4 w0_4.2]) [0, 1, 2] [] [Ck.var 66 pg0 ((([Value.int .i64 v0.1.1] ++ [Value.int .i64 v0.1.2]) ++ ([Value.bool v0.2.1] ++ ([Value.int .i64 v0.2.2.1] ++ ([Value.slice A0_3 v0.2.2.2.1.length c0_3] ++ ([Value.map (some r0_4)] ++ [Value.slice A0_5 v0.2.2.2.2.2.length c0_5])))))), Ck.m1 r0_4 w0_4.1 A0_4 w0_4.2.length c0_4, Ck.sl T24 A0_4 c0_4 w0_4.2] [] 3 rfl rfl (by kernel_rfl) (fun w => by kernel_rfl) ⟨by exact rfl, by exact rfl, by exact rfl, trivial⟩ trivial (by decide) (fun w hs hb => alloc_Alloc_none.calls k pg0 A0_3 c0_3 r0_4 A0_5 c0_5 (v0.1, v0.2.1, v0.2.2.1, v0.2.2.2.1, (), v0.2.2.2.2.2) A0_4 c0_4 (w0_4.1, w0_4.2) t22 (lent b w [Ck.var 66 pg0 ((([Value.int .i64 v0.1.1] ++ [Value.int .i64 v0.1.2]) ++ ([Value.bool v0.2.1] ++ ([Value.int .i64 v0.2.2.1] ++ ([Value.slice A0_3 v0.2.2.2.1.length c0_3] ++ ([Value.map (some r0_4)] ++ [Value.slice A0_5 v0.2.2.2.2.2.length c0_5])))))), Ck.m1 r0_4 w0_4.1 A0_4 w0_4.2.length c0_4, Ck.sl T24 A0_4 c0_4 w0_4.2] []) hb (hs.ro R0_3 _ _) C0_3 (hs.ro R0_5 _ _) C0_5 hc23) ?_
    intro x24
    refine ls_end ?_
    refine qn_then ?_
    by_cases q25 : t22 = true
    · replace H := ite_t q25 H
      refine cs_know (c := true) (q25) 7 (by kernel_rfl) ?_
      refine cs_true (by kernel_rfl) ?_
      refine cs_ret' ?_
      refine qr_then ?_
      obtain rfl := Option.some.inj H
      refine qr_res (rs := []) rfl (fun w' hs => ⟨[], (.nil), b, (Bs.le.refl b), ((A0_3, c0_3), (A0_5, c0_5), (A0_4, c0_4)), rfl, ⟨⟨R0_3, C0_3⟩, ⟨R0_5, C0_5⟩⟩, hs.pick (ts := [0, 1, 2]) (cs := [Ck.var 66 pg0 ((([Value.int .i64 v0.1.1] ++ [Value.int .i64 v0.1.2]) ++ ([Value.bool v0.2.1] ++ ([Value.int .i64 v0.2.2.1] ++ ([Value.slice A0_3 v0.2.2.2.1.length c0_3] ++ ([Value.map (some r0_4)] ++ [Value.slice A0_5 v0.2.2.2.2.2.length c0_5])))))), Ck.m1 r0_4 w0_4.1 A0_4 w0_4.2.length c0_4, Ck.sl T24 A0_4 c0_4 w0_4.2]) ⟨by exact rfl, by exact rfl, by exact rfl, trivial⟩ (by decide)⟩)
    replace H := ite_f q25 H
    refine cs_know (c := false) (Bool.eq_false_iff.mpr q25) 7 (by kernel_rfl) ?_
    refine cs_false (by kernel_rfl) ?_
    refine cs_skip' ?_
    refine qn_meet (sput (sput (sput s0 0 (some (Ck.var 66 pg0 ((([Value.int .i64 v0.1.1] ++ [Value.int .i64 v0.1.2]) ++ ([Value.bool v0.2.1] ++ ([Value.int .i64 v0.2.2.1] ++ ([Value.slice A0_3 v0.2.2.2.1.length c0_3] ++ ([Value.map (some r0_4)] ++ [Value.slice A0_5 v0.2.2.2.2.2.length c0_5]))))))))) 1 (some (Ck.m1 r0_4 w0_4.1 A0_4 w0_4.2.length c0_4))) 2 (some (Ck.sl T24 A0_4 c0_4 w0_4.2))) ⟨_, fr_next (rfl) (by kernel_rfl), rfl, H⟩ (sub_put (by exact rfl) (sub_put (by exact rfl) (sub_put (by exact rfl) (sub_nil _))))
  rintro f S ⟨fr1, rfl, rfl, H⟩
  replace H : ((if w0_4.1 = true then alloc_Alloc_Commit.lo2 w0_4 k (0 : Int) (v0.1, v0.2.1, v0.2.2.1, v0.2.2.2.1, (), v0.2.2.2.2.2) else some ((v0.1, v0.2.1, v0.2.2.1, v0.2.2.2.1, (), v0.2.2.2.1), (false, w0_4.2)))) = some r := H
  refine cs_seq ?_
  refine cs_seq ?_
  refine cs_region (l := [_, _, _, _, _]) ?_
  refine lv (.pointer (some ⟨pg0, 0, none⟩)) ?_
  refine lv (.pointer (some ⟨pg0, 0, none⟩)) ?_
  refine lv (.pointer (some ⟨pg0, (0 + 5), none⟩)) ?_
  refine ls_load (a0 := ⟨pg0, (0 + 5), none⟩) (v := .map (some r0_4)) (de := (TypeDesc.map 3 22)) rfl rfl (by kernel_rfl) rfl (by kernel_rfl) (by kernel_rfl) (by kernel_rfl) (fun w hs => (hs.var (k := 0) (by exact rfl) (Sub4.trans (Sub4.all _) (Sub4.skip (n := 2) (len_app (len1 _) (len1 _)) (Sub4.skip (n := 1) (len1 _) (Sub4.skip (n := 1) (len1 _) (Sub4.skip (n := 1) (len1 _) (Sub4.head _ _)))))))) ?_
  refine ls_m1open (r := r0_4) (p := w0_4.1) (A := A0_4) (m := w0_4.2.length) (c := c0_4) 1 (by exact rfl) ?_
  intro bo1 cl2 hb3 hp4
  refine ls_m1range (r := r0_4) (p := w0_4.1) (A := A0_4) (m := w0_4.2.length) (c := c0_4) (kt := 3) (et := 22) (born := bo1) (clock := cl2) 1 3 rfl rfl (by kernel_rfl) rfl (by kernel_rfl) (by kernel_rfl) (by exact rfl) ?_
  intro g5
  refine ls_end ?_
  refine qn_then ?_
  refine cs_block ?_
  refine cs_rounds 3 ?_
  refine rs_succ ?_
  refine cs_seq ?_
  refine cs_region (l := [_, _]) ?_
  by_cases q6 : w0_4.1 = true
  · replace H := ite_t q6 H
    refine ls_m1xp (r := r0_4) (p := w0_4.1) (A := A0_4) (m := w0_4.2.length) (c := c0_4) (born := bo1) (clock := cl2) (p' := true) 1 q6 (by exact rfl) ?_
    refine ls_m1next (r := r0_4) (A := A0_4) (m := w0_4.2.length) (c := c0_4) (born := bo1) (clock := cl2) (g := g5) 1 3 rfl rfl (by kernel_rfl) rfl rfl (by kernel_rfl) (by exact rfl) (by exact rfl) (hb3 q6) ?_
    refine lv (.bool true) ?_
    refine ls_end ?_
    refine qn_then ?_
    refine cs_seq ?_
    refine cs_true (by kernel_rfl) ?_
    refine cs_skip' ?_
    refine qn_then ?_
    refine cs_block ?_
    refine cs_seq ?_
    refine cs_region (l := [_, _, _, _, _]) ?_
    refine ls_m1entry (r := r0_4) (A := A0_4) (m := w0_4.2.length) (c := c0_4) (born := bo1) (clock := cl2) (g := g5) 1 3 rfl rfl (by kernel_rfl) rfl (by kernel_rfl) (by exact rfl) (by exact rfl) ?_
    refine lv (.int .i64 (1 : Int)) ?_
    refine lv (.slice A0_4 w0_4.2.length c0_4) ?_
    refine lv (.int .i64 (1 : Int)) ?_
    refine lv (.slice A0_4 w0_4.2.length c0_4) ?_
    refine ls_end ?_
    refine qn_then ?_
    refine cs_seq ?_
    refine cs_seq ?_
    refine cs_region (l := [_, _, _]) ?_
    refine lv (.slice A0_4 w0_4.2.length c0_4) ?_
    refine lv (.int .i64 (w0_4.2.length : Int)) ?_
    refine lv (.int .i64 (0 : Int)) ?_
    refine ls_end ?_
    refine qn_then ?_
    refine cs_block ?_
    refine cs_sub (sput (sput (sput (sput s0 0 (some (Ck.var 66 pg0 ((([Value.int .i64 v0.1.1] ++ [Value.int .i64 v0.1.2]) ++ ([Value.bool v0.2.1] ++ ([Value.int .i64 v0.2.2.1] ++ ([Value.slice A0_3 v0.2.2.2.1.length c0_3] ++ ([Value.map (some r0_4)] ++ [Value.slice A0_5 v0.2.2.2.2.2.length c0_5]))))))))) 1 (some (Ck.m1x r0_4 true A0_4 w0_4.2.length c0_4 bo1 cl2))) 2 (some (Ck.sl T24 A0_4 c0_4 w0_4.2))) 3 (some (Ck.obj g5 (.mapIter (some r0_4) cl2 #[bo1] cl2)))) (sub_put (by exact rfl) (sub_put (by exact rfl) (sub_put (by exact rfl) (sub_put (by exact rfl) (sub_nil _))))) ?_
    refine cs_loopb (fun kk bh2 f S => ∃ (fR : Fr) (x20_2 : Int) (Am0_2_3 : Option Addr) (cm0_2_3 : Nat) (Am0_2_5 : Option Addr) (cm0_2_5 : Nat) (m0_2 : ((Int × Int) × Bool × Int × (List (Int × Int)) × Unit × (List (Int × Int)))), f = upd (upd (upd (upd (upd (upd fR 0 (.pointer (some ⟨pg0, 0, none⟩))) 2 (.int .i64 (1 : Int))) 12 (.pointer (some ⟨g5, 0, none⟩))) 18 (.slice A0_4 w0_4.2.length c0_4)) 19 (.int .i64 (w0_4.2.length : Int))) 20 (.int .i64 x20_2) ∧ S = sput (sput (sput (sput s0 0 (some (Ck.var 66 pg0 ((([Value.int .i64 m0_2.1.1] ++ [Value.int .i64 m0_2.1.2]) ++ ([Value.bool m0_2.2.1] ++ ([Value.int .i64 m0_2.2.2.1] ++ ([Value.slice Am0_2_3 m0_2.2.2.2.1.length cm0_2_3] ++ ([Value.map (some r0_4)] ++ [Value.slice Am0_2_5 m0_2.2.2.2.2.2.length cm0_2_5]))))))))) 1 (some (Ck.m1x r0_4 true A0_4 w0_4.2.length c0_4 bo1 cl2))) 2 (some (Ck.sl T24 A0_4 c0_4 w0_4.2))) 3 (some (Ck.obj g5 (.mapIter (some r0_4) cl2 #[bo1] cl2))) ∧ Ro bh2 Am0_2_3 (em T24 m0_2.2.2.2.1) ∧ m0_2.2.2.2.1.length ≤ cm0_2_3 ∧ Ro bh2 Am0_2_5 (em T24 m0_2.2.2.2.2.2) ∧ m0_2.2.2.2.2.2.length ≤ cm0_2_5 ∧ b.le bh2 ∧ alloc_Alloc_Commit.lo2 w0_4 kk x20_2 m0_2 = some r) k ?_ ?_ ?_
    · exact ⟨_, (0 : Int), A0_3, c0_3, A0_5, c0_5, (v0.1, v0.2.1, v0.2.2.1, v0.2.2.2.1, (), v0.2.2.2.2.2), fr_next (fr_next (fr_next (fr_next (fr_next (fr_next (rfl) (by kernel_rfl)) (by kernel_rfl)) (by kernel_rfl)) (by kernel_rfl)) (by kernel_rfl)) (by kernel_rfl), rfl, R0_3, C0_3, R0_5, C0_5, (Bs.le.refl b), H⟩
    · rintro bh2 f S ⟨fr2, x20_2, Am0_2_3, cm0_2_3, Am0_2_5, cm0_2_5, m0_2, rfl, rfl, Rm0_2_3, Cm0_2_3, Rm0_2_5, Cm0_2_5, hleh2, H⟩; cases H
    rintro k2 bh2 f S ⟨fr2, x20_2, Am0_2_3, cm0_2_3, Am0_2_5, cm0_2_5, m0_2, rfl, rfl, Rm0_2_3, Cm0_2_3, Rm0_2_5, Cm0_2_5, hleh2, H⟩
    replace H : ((if x20_2 < (w0_4.2.length : Int) then (if 0 ≤ x20_2 then (extent_Add.f k2 m0_2.2.2.2.1 ((w0_4.2).getD (x20_2).toNat ((0 : Int), (0 : Int)))).bind fun t14 => (alloc_Alloc_Commit.lo2 w0_4 k2) (IntKind.wrap .i64 (x20_2 + (1 : Int))) (m0_2.1, m0_2.2.1, m0_2.2.2.1, t14, (), m0_2.2.2.2.2.2) else none) else some ((m0_2.1, m0_2.2.1, m0_2.2.2.1, m0_2.2.2.2.1, (), m0_2.2.2.2.1), (false, ([] : List (Int × Int)))))) = some r := H
    refine cs_seq ?_
    refine cs_region (l := [_]) ?_
    refine lv (.bool (decide (x20_2 < (w0_4.2.length : Int)))) ?_
    refine ls_end ?_
    refine qn_then ?_
    refine cs_seq ?_
    by_cases q7 : x20_2 < (w0_4.2.length : Int)
    · replace H := ite_t q7 H
      refine cs_know (c := true) (dec_t q7) 21 (by kernel_rfl) ?_
      refine cs_true (by kernel_rfl) ?_
      refine cs_skip' ?_
      refine qn_then ?_
      refine cs_seq ?_
      refine cs_block ?_
      refine cs_seq ?_
      refine cs_region (l := [_, _, _, _]) ?_
      obtain ⟨q8, H⟩ := ite_need H
      refine ls_at (T := T24) (tk := 2) (i := x20_2) (by exact rfl) q8 q7 ?_
      intro ad9 hA10
      refine ls_idxv T24 (A := A0_4) (c := c0_4) (l := w0_4.2) (k := .i64) (i := x20_2) (z := 2) (ad := ad9) rfl rfl (by kernel_rfl) hA10 rfl (by kernel_rfl) (by kernel_rfl) (by kernel_rfl) (by kernel_rfl) q8 q7 ?_
      refine ls_loadagg (a := (ad9.add ((x20_2).toNat * 2))) (sub := ([Value.int .i64 (((w0_4.2).getD (x20_2).toNat ((0 : Int), (0 : Int))).1)] ++ [Value.int .i64 (((w0_4.2).getD (x20_2).toNat ((0 : Int), (0 : Int))).2)])) rfl rfl (by kernel_rfl) rfl (by kernel_rfl) (by kernel_rfl) (by kernel_rfl) (len_app (len1 _) (len1 _)) (fun w hs => (hs.rd (k := 2) (by exact rfl)).part hA10 (em_sub T24 w0_4.2 (i := (x20_2).toNat) (by have h0 : (0 : Int) ≤ x20_2 := q8; have h1 : x20_2 < (w0_4.2.length : Int) := q7; omega))) ?_
      refine ls_new rfl rfl (by kernel_rfl) 4 (fun g => .pointer (some ⟨g, 0, none⟩)) (.cells ⟨([Value.int .i64 (0 : Int)] ++ [Value.int .i64 (0 : Int)])⟩ 24) (fun w => by kernel_rfl) ?_
      intro g11
      refine ls_storec (g := g11) (off := 0) (v := .agg ⟨([Value.int .i64 (((w0_4.2).getD (x20_2).toNat ((0 : Int), (0 : Int))).1)] ++ [Value.int .i64 (((w0_4.2).getD (x20_2).toNat ((0 : Int), (0 : Int))).2)])⟩) (vs := ([Value.int .i64 (((w0_4.2).getD (x20_2).toNat ((0 : Int), (0 : Int))).1)] ++ [Value.int .i64 (((w0_4.2).getD (x20_2).toNat ((0 : Int), (0 : Int))).2)])) (cs := ([Value.int .i64 (0 : Int)] ++ [Value.int .i64 (0 : Int)])) (ty := 24) 4 rfl rfl rfl (by kernel_rfl) (by kernel_rfl) (by kernel_rfl) (by exact rfl) (by kernel_rfl) (len_app (len1 _) (len1 _)) (one_app (one_cons rfl one_nil) (one_cons rfl one_nil)) (hl_of (Sub4.all _) (len_eq (len_app (len1 _) (len1 _)) (len_app (len1 _) (len1 _)))) (cs' := ([Value.int .i64 (((w0_4.2).getD (x20_2).toNat ((0 : Int), (0 : Int))).1)] ++ [Value.int .i64 (((w0_4.2).getD (x20_2).toNat ((0 : Int), (0 : Int))).2)])) (splc_all (len_eq (len_app (len1 _) (len1 _)) (len_app (len1 _) (len1 _)))) ?_
      refine ls_end ?_
      refine qn_then ?_
      obtain ⟨s13_0, hs13_0⟩ := exv (.pointer (some ⟨pg0, 0, none⟩))
      refine have_opa alloc_Alloc_Commit.tab11 5 0 (fun sp => sp 0 = s13_0) (fun sp on hA hon => ?_) (fun ops13_0 => ?_)
      · refine ⟨fun o ho vs Rs f' S' w hp hf hx hS hR hs => ?_⟩
        obtain rfl := Option.some.inj ho
        exact opv (.pointer (some ⟨pg0, 0, none⟩)) hA hs13_0 hon (fr_next (rfl) ((hx 0 (by kernel_rfl)).trans (by kernel_rfl : (_ : Value) = .pointer (some ⟨pg0, 0, none⟩))))
      obtain ⟨s13_1, hs13_1⟩ := exv (.pointer (some ⟨pg0, 0, none⟩))
      refine have_opa alloc_Alloc_Commit.tab11 5 1 (fun sp => sp 1 = s13_1) (fun sp on hA hon => ?_) (fun ops13_1 => ?_)
      · refine ⟨fun o ho vs Rs f' S' w hp hf hx hS hR hs => ?_⟩
        obtain rfl := Option.some.inj ho
        exact opv (.pointer (some ⟨pg0, 0, none⟩)) hA hs13_1 hon (fr_next (rfl) ((hx 0 (by kernel_rfl)).trans (by kernel_rfl : (_ : Value) = .pointer (some ⟨pg0, 0, none⟩))))
      obtain ⟨s13_2, hs13_2⟩ := exv (.pointer (some ⟨pg0, 0, none⟩))
      refine have_opa alloc_Alloc_Commit.tab11 5 2 (fun sp => sp 2 = s13_2 ∧ sp 1 = s13_1) (fun sp on hA hon => ?_) (fun ops13_2 => ?_)
      · refine ⟨fun o ho vs Rs f' S' w hp hf hx hS hR hs => ?_⟩
        obtain rfl := Option.some.inj ho
        obtain ⟨hv1, hR1⟩ := (spe hA.2 hs13_1 (hp 1 (by kernel_rfl)))
        exact opv (.pointer (some ⟨pg0, 0, none⟩)) hA.1 hs13_2 hon (fr_next (rfl) ((hf 1 25 (by kernel_rfl) rfl).trans hv1))
      obtain ⟨s13_3, hs13_3⟩ := exv (.pointer (some ⟨pg0, (0 + 4), none⟩))
      refine have_opa alloc_Alloc_Commit.tab11 5 3 (fun sp => sp 3 = s13_3 ∧ sp 2 = s13_2) (fun sp on hA hon => ?_) (fun ops13_3 => ?_)
      · refine ⟨fun o ho vs Rs f' S' w hp hf hx hS hR hs => ?_⟩
        obtain rfl := Option.some.inj ho
        obtain ⟨hv2, hR2⟩ := (spe hA.2 hs13_2 (hp 2 (by kernel_rfl)))
        exact opv (.pointer (some ⟨pg0, (0 + 4), none⟩)) hA.1 hs13_3 hon (fr_next (rfl) ((hf 2 26 (by kernel_rfl) rfl).trans hv2))
      obtain ⟨s13_4, hs13_4⟩ := exv (.slice Am0_2_3 m0_2.2.2.2.1.length cm0_2_3)
      refine have_opa alloc_Alloc_Commit.tab11 5 4 (fun sp => sp 4 = s13_4 ∧ sp 3 = s13_3) (fun sp on hA hon => ?_) (fun ops13_4 => ?_)
      · refine ⟨fun o ho vs Rs f' S' w hp hf hx hS hR hs => ?_⟩
        obtain rfl := Option.some.inj ho
        obtain ⟨hv3, hR3⟩ := (spe hA.2 hs13_3 (hp 3 (by kernel_rfl)))
        rw [hA.1, hs13_4]
        refine wn hon ?_
        have hF := fr_next (rfl) ((hf 3 27 (by kernel_rfl) rfl).trans hv3)
        refine ls_fr hF ?_
        refine ls_load (a0 := ⟨pg0, (0 + 4), none⟩) (v := .slice Am0_2_3 m0_2.2.2.2.1.length cm0_2_3) (de := (TypeDesc.slice 24)) rfl rfl (by kernel_rfl) rfl (by kernel_rfl) (by kernel_rfl) (by kernel_rfl) (fun w1 hs1 => cell_step hs1.below.bw (hs.var (k := 0) ((hS 0 (by kernel_rfl)).trans (by exact rfl)) (Sub4.trans (Sub4.all _) (Sub4.skip (n := 2) (len_app (len1 _) (len1 _)) (Sub4.skip (n := 1) (len1 _) (Sub4.skip (n := 1) (len1 _) (Sub4.head _ _))))))) ?_
        exact ls_fin s0 _ (congrArg (fun z => upd z 28 _) hF.symm) ⟨rfl, rfl⟩ (sub_nil _)
      obtain ⟨s13_5, hs13_5⟩ := exv (.agg ⟨([Value.int .i64 (((w0_4.2).getD (x20_2).toNat ((0 : Int), (0 : Int))).1)] ++ [Value.int .i64 (((w0_4.2).getD (x20_2).toNat ((0 : Int), (0 : Int))).2)])⟩)
      refine have_opa alloc_Alloc_Commit.tab11 5 5 (fun sp => sp 5 = s13_5) (fun sp on hA hon => ?_) (fun ops13_5 => ?_)
      · refine ⟨fun o ho vs Rs f' S' w hp hf hx hS hR hs => ?_⟩
        obtain rfl := Option.some.inj ho
        rw [hA, hs13_5]
        refine wn hon ?_
        have hF := fr_next (rfl) ((hx 5 (by kernel_rfl)).trans (by kernel_rfl : (_ : Value) = .pointer (some ⟨g11, 0, none⟩)))
        refine ls_fr hF ?_
        refine ls_loadagg (a := ⟨g11, 0, none⟩) (sub := ([Value.int .i64 (((w0_4.2).getD (x20_2).toNat ((0 : Int), (0 : Int))).1)] ++ [Value.int .i64 (((w0_4.2).getD (x20_2).toNat ((0 : Int), (0 : Int))).2)])) rfl rfl (by kernel_rfl) rfl (by kernel_rfl) (by kernel_rfl) (by kernel_rfl) (len_app (len1 _) (len1 _)) (fun w1 hs1 => Rd.step (hs.vars (k := 4) ((hS 4 (by kernel_rfl)).trans (by exact rfl)) (Sub4.all _)) hs1.below.bw) ?_
        exact ls_fin s0 _ (congrArg (fun z => upd z 29 _) hF.symm) ⟨rfl, rfl⟩ (sub_nil _)
      obtain ⟨t14, hc15, H⟩ := bind_some H
      obtain ⟨s13_6, hs13_6⟩ : ∃ z : Value → Sto → Prop, z = (fun v R => ∃ x16 : (Option Addr × Nat), v = .slice x16.1 t14.length x16.2 ∧ R = stl [Ck.sl T24 x16.1 x16.2 t14]) := ⟨_, rfl⟩
      refine have_opa alloc_Alloc_Commit.tab11 5 6 (fun sp => sp 6 = s13_6 ∧ sp 4 = s13_4 ∧ sp 5 = s13_5) (fun sp on hA hon => ?_) (fun ops13_6 => ?_)
      · refine ⟨fun o ho vs Rs f' S' w hp hf hx hS hR hs => ?_⟩
        obtain rfl := Option.some.inj ho
        obtain ⟨hv4, hR4⟩ := (spe hA.2.1 hs13_4 (hp 4 (by kernel_rfl)))
        obtain ⟨hv5, hR5⟩ := (spe hA.2.2 hs13_5 (hp 5 (by kernel_rfl)))
        rw [hA.1, hs13_6]
        refine wn hon ?_
        have hF := fr_next (fr_next (rfl) ((hf 4 28 (by kernel_rfl) rfl).trans hv4)) ((hf 5 29 (by kernel_rfl) rfl).trans hv5)
        refine ls_fr hF ?_
        refine ls_call (fid := 13) (vals := #[.slice Am0_2_3 m0_2.2.2.2.1.length cm0_2_3, .agg ⟨([Value.int .i64 (((w0_4.2).getD (x20_2).toNat ((0 : Int), (0 : Int))).1)] ++ [Value.int .i64 (((w0_4.2).getD (x20_2).toNat ((0 : Int), (0 : Int))).2)])⟩]) (X := (Option Addr × Nat)) (fun x => .slice x.1 t14.length x.2) (fun x => stl [Ck.sl T24 x.1 x.2 t14]) 0 rfl rfl (by kernel_rfl) (fun w => by kernel_rfl) (fun w1 hs1 => extent_Add.calls k2 Am0_2_3 cm0_2_3 m0_2.2.2.2.1 ((w0_4.2).getD (x20_2).toNat ((0 : Int), (0 : Int))) t14 (bw w1) (St.refl w1) (Rd.ro (Rd.step (hs.old Rm0_2_3) hs1.below.bw)) Cm0_2_3 hc15) ?_
        intro x16
        exact ls_fin (stl [Ck.sl T24 x16.1 x16.2 t14]) (.slice x16.1 t14.length x16.2) (congrArg (fun z => upd z 30 _) hF.symm) ⟨x16, rfl, rfl⟩ (sub_join _)
      refine cs_draw alloc_Alloc_Commit.tab11 7 5 (spl [s13_0, s13_1, s13_2, s13_3, s13_4, s13_5, s13_6]) (onl [true, true, true, true, true, true, true]) (by kernel_rfl) (by kernel_rfl) (by kernel_rfl) (by kernel_rfl) (rs := [_, _, _]) rfl (by kernel_rfl) (by kernel_rfl) (all_snoc (all_snoc (all_snoc (all_snoc (all_snoc (all_snoc (all_snoc (all_nil) (ops13_0 _ _ rfl rfl)) (ops13_1 _ _ rfl rfl)) (ops13_2 _ _ ⟨rfl, rfl⟩ rfl)) (ops13_3 _ _ ⟨rfl, rfl⟩ rfl)) (ops13_4 _ _ ⟨rfl, rfl⟩ rfl)) (ops13_5 _ _ rfl rfl)) (ops13_6 _ _ ⟨rfl, rfl, rfl⟩ rfl)) ?_
      intro vs Rs f' S' hp hf hx hS hR
      obtain ⟨hv0, hR0⟩ := (spe rfl hs13_0 (hp 0 (by kernel_rfl)))
      obtain ⟨x16, hv6, hR6⟩ := (spe rfl hs13_6 (hp 6 (by kernel_rfl)))
      have hT6_0 := (hR 6 0 (by kernel_rfl) (by decide)).trans (congrFun hR6 0)
      refine ls_fr (F := upd (upd (upd (upd (upd (upd (upd (upd f' 0 (.pointer (some ⟨pg0, 0, none⟩))) 2 (.int .i64 (1 : Int))) 12 (.pointer (some ⟨g5, 0, none⟩))) 18 (.slice A0_4 w0_4.2.length c0_4)) 19 (.int .i64 (w0_4.2.length : Int))) 20 (.int .i64 x20_2)) 24 (.pointer (some ⟨pg0, 0, none⟩))) 30 (.slice x16.1 t14.length x16.2)) (fr_next (fr_next (fr_next (fr_next (fr_next (fr_next (fr_next (fr_next (rfl) ((hx 0 (by kernel_rfl)).trans (by kernel_rfl : (_ : Value) = .pointer (some ⟨pg0, 0, none⟩)))) ((hx 2 (by kernel_rfl)).trans (by kernel_rfl : (_ : Value) = .int .i64 (1 : Int)))) ((hx 12 (by kernel_rfl)).trans (by kernel_rfl : (_ : Value) = .pointer (some ⟨g5, 0, none⟩)))) ((hx 18 (by kernel_rfl)).trans (by kernel_rfl : (_ : Value) = .slice A0_4 w0_4.2.length c0_4))) ((hx 19 (by kernel_rfl)).trans (by kernel_rfl : (_ : Value) = .int .i64 (w0_4.2.length : Int)))) ((hx 20 (by kernel_rfl)).trans (by kernel_rfl : (_ : Value) = .int .i64 x20_2))) ((hf 0 24 (by kernel_rfl) rfl).trans hv0)) ((hf 6 30 (by kernel_rfl) rfl).trans hv6)) ?_
      refine ls_sub (sput (sput (sput (sput (sput s0 0 (some (Ck.var 66 pg0 ((([Value.int .i64 m0_2.1.1] ++ [Value.int .i64 m0_2.1.2]) ++ ([Value.bool m0_2.2.1] ++ ([Value.int .i64 m0_2.2.2.1] ++ ([Value.slice Am0_2_3 m0_2.2.2.2.1.length cm0_2_3] ++ ([Value.map (some r0_4)] ++ [Value.slice Am0_2_5 m0_2.2.2.2.2.2.length cm0_2_5]))))))))) 1 (some (Ck.m1x r0_4 true A0_4 w0_4.2.length c0_4 bo1 cl2))) 2 (some (Ck.sl T24 A0_4 c0_4 w0_4.2))) 3 (some (Ck.obj g5 (.mapIter (some r0_4) cl2 #[bo1] cl2)))) 53 (some (Ck.sl T24 x16.1 x16.2 t14))) (sub_put (by exact hT6_0) (sub_put ((hS 3 (by kernel_rfl)).trans (by exact rfl)) (sub_put ((hS 2 (by kernel_rfl)).trans (by exact rfl)) (sub_put ((hS 1 (by kernel_rfl)).trans (by exact rfl)) (sub_put ((hS 0 (by kernel_rfl)).trans (by exact rfl)) (sub_nil _)))))) ?_
      refine lv (.pointer (some ⟨pg0, 0, none⟩)) ?_
      refine lv (.pointer (some ⟨pg0, (0 + 4), none⟩)) ?_
      refine ls_storec (g := pg0) (off := (0 + 4)) (v := .slice x16.1 t14.length x16.2) (vs := [Value.slice x16.1 t14.length x16.2]) (cs := (([Value.int .i64 m0_2.1.1] ++ [Value.int .i64 m0_2.1.2]) ++ ([Value.bool m0_2.2.1] ++ ([Value.int .i64 m0_2.2.2.1] ++ ([Value.slice Am0_2_3 m0_2.2.2.2.1.length cm0_2_3] ++ ([Value.map (some r0_4)] ++ [Value.slice Am0_2_5 m0_2.2.2.2.2.2.length cm0_2_5])))))) (ty := 66) 0 rfl rfl rfl (by kernel_rfl) (by kernel_rfl) (by kernel_rfl) (by exact rfl) (by kernel_rfl) (len1 _) (one_cons rfl one_nil) (hl_of (Sub4.trans (Sub4.all _) (Sub4.skip (n := 2) (len_app (len1 _) (len1 _)) (Sub4.skip (n := 1) (len1 _) (Sub4.skip (n := 1) (len1 _) (Sub4.head _ _))))) (len_eq (len1 _) (len1 _))) (cs' := (([Value.int .i64 m0_2.1.1] ++ [Value.int .i64 m0_2.1.2]) ++ ([Value.bool m0_2.2.1] ++ ([Value.int .i64 m0_2.2.2.1] ++ ([Value.slice x16.1 t14.length x16.2] ++ ([Value.map (some r0_4)] ++ [Value.slice Am0_2_5 m0_2.2.2.2.2.2.length cm0_2_5])))))) (splc_in (Sub4.all _) (splc_skip (n := 2) (len_app (len1 _) (len1 _)) (splc_skip (n := 1) (len1 _) (splc_skip (n := 1) (len1 _) (splc_head (len_eq (len1 _) (len1 _)))))) (splc_all (len_eq (len_app (len_app (len1 _) (len1 _)) (len_app (len1 _) (len_app (len1 _) (len_app (len1 _) (len_app (len1 _) (len1 _)))))) (len_app (len_app (len1 _) (len1 _)) (len_app (len1 _) (len_app (len1 _) (len_app (len1 _) (len_app (len1 _) (len1 _)))))))) (hl_of (Sub4.skip (n := 2) (len_app (len1 _) (len1 _)) (Sub4.skip (n := 1) (len1 _) (Sub4.skip (n := 1) (len1 _) (Sub4.head _ _)))) (len_eq (len1 _) (len1 _)))) ?_
      refine ls_end ?_
      refine qn_block ?_
      refine qn_then ?_
      refine cs_region (l := [_, _]) ?_
      refine lv (.int .i64 (IntKind.wrap .i64 (x20_2 + (1 : Int)))) ?_
      refine lv (.int .i64 (IntKind.wrap .i64 (x20_2 + (1 : Int)))) ?_
      refine ls_end ?_
      refine qn_freeze (T := T24) (A := x16.1) (c := x16.2) (l := t14) 53 (by exact rfl) ?_
      intro bs17 hle18 hok19 fR20 fC21
      refine qn_againb k2 (sput (sput (sput (sput s0 0 (some (Ck.var 66 pg0 ((([Value.int .i64 m0_2.1.1] ++ [Value.int .i64 m0_2.1.2]) ++ ([Value.bool m0_2.2.1] ++ ([Value.int .i64 m0_2.2.2.1] ++ ([Value.slice x16.1 t14.length x16.2] ++ ([Value.map (some r0_4)] ++ [Value.slice Am0_2_5 m0_2.2.2.2.2.2.length cm0_2_5]))))))))) 1 (some (Ck.m1x r0_4 true A0_4 w0_4.2.length c0_4 bo1 cl2))) 2 (some (Ck.sl T24 A0_4 c0_4 w0_4.2))) 3 (some (Ck.obj g5 (.mapIter (some r0_4) cl2 #[bo1] cl2)))) (Nat.le_refl _) ⟨_, (IntKind.wrap .i64 (x20_2 + (1 : Int))), x16.1, x16.2, Am0_2_5, cm0_2_5, (m0_2.1, m0_2.2.1, m0_2.2.2.1, t14, (), m0_2.2.2.2.2.2), fr_next (fr_next (fr_next (fr_next (fr_next (fr_next (rfl) (by kernel_rfl)) (by kernel_rfl)) (by kernel_rfl)) (by kernel_rfl)) (by kernel_rfl)) (by kernel_rfl), rfl, fR20, fC21, (Ro.mono hok19 hle18 Rm0_2_5), Cm0_2_5, (hleh2.trans hle18), H⟩ (sub_put (by exact rfl) (sub_put (by exact rfl) (sub_put (by exact rfl) (sub_put (by exact rfl) (sub_nil _)))))
    replace H := ite_f q7 H
    refine cs_know (c := false) (dec_f q7) 21 (by kernel_rfl) ?_
    refine cs_false (by kernel_rfl) ?_
    refine cs_exit' ?_
    refine qx_then ?_
    refine qx_then ?_
    refine qx_same ?_
    refine qn_then ?_
    refine cs_region (l := [_, _, _, _, _, _]) ?_
    refine lv (.pointer (some ⟨pg0, 0, none⟩)) ?_
    refine lv (.pointer (some ⟨pg0, 0, none⟩)) ?_
    refine lv (.pointer (some ⟨pg0, (0 + 5), none⟩)) ?_
    refine ls_load (a0 := ⟨pg0, (0 + 5), none⟩) (v := .map (some r0_4)) (de := (TypeDesc.map 3 22)) rfl rfl (by kernel_rfl) rfl (by kernel_rfl) (by kernel_rfl) (by kernel_rfl) (fun w hs => (hs.var (k := 0) (by exact rfl) (Sub4.trans (Sub4.all _) (Sub4.skip (n := 2) (len_app (len1 _) (len1 _)) (Sub4.skip (n := 1) (len1 _) (Sub4.skip (n := 1) (len1 _) (Sub4.skip (n := 1) (len1 _) (Sub4.head _ _)))))))) ?_
    refine lv (.int .i64 (1 : Int)) ?_
    refine ls_m1del (r := r0_4) (p := true) (A := A0_4) (m := w0_4.2.length) (c := c0_4) (et := 22) (kt := 3) (born := bo1) (clock := cl2) 1 rfl rfl rfl (by kernel_rfl) (by kernel_rfl) (by kernel_rfl) (by kernel_rfl) (by exact rfl) ?_
    refine ls_end ?_
    refine qn_block ?_
    refine qn_rounds ?_
    refine rs_succ ?_
    refine cs_seq ?_
    refine cs_region (l := [_, _]) ?_
    refine ls_m1over2 (r := r0_4) (p := false) (A := none) (m := 0) (c := 0) (born := bo1) (clock := cl2) (g := g5) 1 3 rfl rfl (by kernel_rfl) rfl (by kernel_rfl) (by exact rfl) (by exact rfl) (hb3 q6) ?_
    refine ls_m1shut (r := r0_4) (p := false) (A := none) (m := 0) (c := 0) (born := bo1) (clock := cl2) 1 (by exact rfl) (fun h => by cases h) (fun _ => ⟨rfl, rfl, rfl⟩) ?_
    refine lv (.bool false) ?_
    refine ls_end ?_
    refine qn_then ?_
    refine cs_seq ?_
    refine cs_false (by kernel_rfl) ?_
    refine cs_exit' ?_
    refine qx_then ?_
    refine qx_then ?_
    refine qx_same ?_
    refine qn_then ?_
    refine cs_region (l := [_, _, _, _, _, _, _, _]) ?_
    refine lv (.pointer (some ⟨pg0, 0, none⟩)) ?_
    refine lv (.pointer (some ⟨pg0, 0, none⟩)) ?_
    refine lv (.pointer (some ⟨pg0, 0, none⟩)) ?_
    refine lv (.pointer (some ⟨pg0, (0 + 4), none⟩)) ?_
    refine ls_load (a0 := ⟨pg0, (0 + 4), none⟩) (v := .slice Am0_2_3 m0_2.2.2.2.1.length cm0_2_3) (de := (TypeDesc.slice 24)) rfl rfl (by kernel_rfl) rfl (by kernel_rfl) (by kernel_rfl) (by kernel_rfl) (fun w hs => (hs.var (k := 0) (by exact rfl) (Sub4.trans (Sub4.all _) (Sub4.skip (n := 2) (len_app (len1 _) (len1 _)) (Sub4.skip (n := 1) (len1 _) (Sub4.skip (n := 1) (len1 _) (Sub4.head _ _))))))) ?_
    refine lv (.pointer (some ⟨pg0, 0, none⟩)) ?_
    refine lv (.pointer (some ⟨pg0, (0 + 6), none⟩)) ?_
    refine ls_storec (g := pg0) (off := (0 + 6)) (v := .slice Am0_2_3 m0_2.2.2.2.1.length cm0_2_3) (vs := [Value.slice Am0_2_3 m0_2.2.2.2.1.length cm0_2_3]) (cs := (([Value.int .i64 m0_2.1.1] ++ [Value.int .i64 m0_2.1.2]) ++ ([Value.bool m0_2.2.1] ++ ([Value.int .i64 m0_2.2.2.1] ++ ([Value.slice Am0_2_3 m0_2.2.2.2.1.length cm0_2_3] ++ ([Value.map (some r0_4)] ++ [Value.slice Am0_2_5 m0_2.2.2.2.2.2.length cm0_2_5])))))) (ty := 66) 0 rfl rfl rfl (by kernel_rfl) (by kernel_rfl) (by kernel_rfl) (by exact rfl) (by kernel_rfl) (len1 _) (one_cons rfl one_nil) (hl_of (Sub4.trans (Sub4.all _) (Sub4.skip (n := 2) (len_app (len1 _) (len1 _)) (Sub4.skip (n := 1) (len1 _) (Sub4.skip (n := 1) (len1 _) (Sub4.skip (n := 1) (len1 _) (Sub4.skip (n := 1) (len1 _) (Sub4.all _))))))) (len_eq (len1 _) (len1 _))) (cs' := (([Value.int .i64 m0_2.1.1] ++ [Value.int .i64 m0_2.1.2]) ++ ([Value.bool m0_2.2.1] ++ ([Value.int .i64 m0_2.2.2.1] ++ ([Value.slice Am0_2_3 m0_2.2.2.2.1.length cm0_2_3] ++ ([Value.map (some r0_4)] ++ [Value.slice Am0_2_3 m0_2.2.2.2.1.length cm0_2_3])))))) (splc_in (Sub4.all _) (splc_skip (n := 2) (len_app (len1 _) (len1 _)) (splc_skip (n := 1) (len1 _) (splc_skip (n := 1) (len1 _) (splc_skip (n := 1) (len1 _) (splc_skip (n := 1) (len1 _) (splc_all (len_eq (len1 _) (len1 _)))))))) (splc_all (len_eq (len_app (len_app (len1 _) (len1 _)) (len_app (len1 _) (len_app (len1 _) (len_app (len1 _) (len_app (len1 _) (len1 _)))))) (len_app (len_app (len1 _) (len1 _)) (len_app (len1 _) (len_app (len1 _) (len_app (len1 _) (len_app (len1 _) (len1 _)))))))) (hl_of (Sub4.skip (n := 2) (len_app (len1 _) (len1 _)) (Sub4.skip (n := 1) (len1 _) (Sub4.skip (n := 1) (len1 _) (Sub4.skip (n := 1) (len1 _) (Sub4.skip (n := 1) (len1 _) (Sub4.all _)))))) (len_eq (len1 _) (len1 _)))) ?_
    refine ls_end ?_
    refine qn_nilrow 4 T24 ?_
    obtain rfl := Option.some.inj H
    refine qn_res (rs := []) rfl (fun w' hs => ⟨[], (.nil), bh2, hleh2, ((Am0_2_3, cm0_2_3), (Am0_2_3, cm0_2_3), (none, 0)), rfl, ⟨⟨Rm0_2_3, Cm0_2_3⟩, ⟨Rm0_2_3, Cm0_2_3⟩⟩, hs.pick (ts := [0, 1, 4]) (cs := [Ck.var 66 pg0 ((([Value.int .i64 m0_2.1.1] ++ [Value.int .i64 m0_2.1.2]) ++ ([Value.bool m0_2.2.1] ++ ([Value.int .i64 m0_2.2.2.1] ++ ([Value.slice Am0_2_3 m0_2.2.2.2.1.length cm0_2_3] ++ ([Value.map (some r0_4)] ++ [Value.slice Am0_2_3 m0_2.2.2.2.1.length cm0_2_3])))))), Ck.m1 r0_4 false none (([] : List (Int × Int)).length) 0, Ck.sl T24 none 0 ([] : List (Int × Int))]) ⟨by exact rfl, by exact rfl, by exact rfl, trivial⟩ (by decide)⟩)
  replace H := ite_f q6 H
  refine ls_m1xp (r := r0_4) (p := w0_4.1) (A := A0_4) (m := w0_4.2.length) (c := c0_4) (born := bo1) (clock := cl2) (p' := false) 1 (Bool.eq_false_iff.mpr q6) (by exact rfl) ?_
  refine ls_m1over (r := r0_4) (A := A0_4) (m := w0_4.2.length) (c := c0_4) (born := bo1) (clock := cl2) (g := g5) 1 3 rfl rfl (by kernel_rfl) rfl (by kernel_rfl) (by exact rfl) (by exact rfl) ?_
  refine ls_m1shut (r := r0_4) (p := false) (A := A0_4) (m := w0_4.2.length) (c := c0_4) (born := bo1) (clock := cl2) 1 (by exact rfl) (fun h => by cases h) (fun _ => hp4 (Bool.eq_false_iff.mpr q6)) ?_
  refine lv (.bool false) ?_
  refine ls_end ?_
  refine qn_then ?_
  refine cs_seq ?_
  refine cs_false (by kernel_rfl) ?_
  refine cs_exit' ?_
  refine qx_then ?_
  refine qx_then ?_
  refine qx_same ?_
  refine qn_then ?_
  refine cs_region (l := [_, _, _, _, _, _, _, _]) ?_
  refine lv (.pointer (some ⟨pg0, 0, none⟩)) ?_
  refine lv (.pointer (some ⟨pg0, 0, none⟩)) ?_
  refine lv (.pointer (some ⟨pg0, 0, none⟩)) ?_
  refine lv (.pointer (some ⟨pg0, (0 + 4), none⟩)) ?_
  refine ls_load (a0 := ⟨pg0, (0 + 4), none⟩) (v := .slice A0_3 v0.2.2.2.1.length c0_3) (de := (TypeDesc.slice 24)) rfl rfl (by kernel_rfl) rfl (by kernel_rfl) (by kernel_rfl) (by kernel_rfl) (fun w hs => (hs.var (k := 0) (by exact rfl) (Sub4.trans (Sub4.all _) (Sub4.skip (n := 2) (len_app (len1 _) (len1 _)) (Sub4.skip (n := 1) (len1 _) (Sub4.skip (n := 1) (len1 _) (Sub4.head _ _))))))) ?_
  refine lv (.pointer (some ⟨pg0, 0, none⟩)) ?_
  refine lv (.pointer (some ⟨pg0, (0 + 6), none⟩)) ?_
  refine ls_storec (g := pg0) (off := (0 + 6)) (v := .slice A0_3 v0.2.2.2.1.length c0_3) (vs := [Value.slice A0_3 v0.2.2.2.1.length c0_3]) (cs := (([Value.int .i64 v0.1.1] ++ [Value.int .i64 v0.1.2]) ++ ([Value.bool v0.2.1] ++ ([Value.int .i64 v0.2.2.1] ++ ([Value.slice A0_3 v0.2.2.2.1.length c0_3] ++ ([Value.map (some r0_4)] ++ [Value.slice A0_5 v0.2.2.2.2.2.length c0_5])))))) (ty := 66) 0 rfl rfl rfl (by kernel_rfl) (by kernel_rfl) (by kernel_rfl) (by exact rfl) (by kernel_rfl) (len1 _) (one_cons rfl one_nil) (hl_of (Sub4.trans (Sub4.all _) (Sub4.skip (n := 2) (len_app (len1 _) (len1 _)) (Sub4.skip (n := 1) (len1 _) (Sub4.skip (n := 1) (len1 _) (Sub4.skip (n := 1) (len1 _) (Sub4.skip (n := 1) (len1 _) (Sub4.all _))))))) (len_eq (len1 _) (len1 _))) (cs' := (([Value.int .i64 v0.1.1] ++ [Value.int .i64 v0.1.2]) ++ ([Value.bool v0.2.1] ++ ([Value.int .i64 v0.2.2.1] ++ ([Value.slice A0_3 v0.2.2.2.1.length c0_3] ++ ([Value.map (some r0_4)] ++ [Value.slice A0_3 v0.2.2.2.1.length c0_3])))))) (splc_in (Sub4.all _) (splc_skip (n := 2) (len_app (len1 _) (len1 _)) (splc_skip (n := 1) (len1 _) (splc_skip (n := 1) (len1 _) (splc_skip (n := 1) (len1 _) (splc_skip (n := 1) (len1 _) (splc_all (len_eq (len1 _) (len1 _)))))))) (splc_all (len_eq (len_app (len_app (len1 _) (len1 _)) (len_app (len1 _) (len_app (len1 _) (len_app (len1 _) (len_app (len1 _) (len1 _)))))) (len_app (len_app (len1 _) (len1 _)) (len_app (len1 _) (len_app (len1 _) (len_app (len1 _) (len_app (len1 _) (len1 _)))))))) (hl_of (Sub4.skip (n := 2) (len_app (len1 _) (len1 _)) (Sub4.skip (n := 1) (len1 _) (Sub4.skip (n := 1) (len1 _) (Sub4.skip (n := 1) (len1 _) (Sub4.skip (n := 1) (len1 _) (Sub4.all _)))))) (len_eq (len1 _) (len1 _)))) ?_
  refine ls_end ?_
  obtain rfl := Option.some.inj H
  refine qn_res (rs := []) rfl (fun w' hs => ⟨[], (.nil), b, (Bs.le.refl b), ((A0_3, c0_3), (A0_3, c0_3), (A0_4, c0_4)), rfl, ⟨⟨R0_3, C0_3⟩, ⟨R0_3, C0_3⟩⟩, hs.pick (ts := [0, 1, 2]) (cs := [Ck.var 66 pg0 ((([Value.int .i64 v0.1.1] ++ [Value.int .i64 v0.1.2]) ++ ([Value.bool v0.2.1] ++ ([Value.int .i64 v0.2.2.1] ++ ([Value.slice A0_3 v0.2.2.2.1.length c0_3] ++ ([Value.map (some r0_4)] ++ [Value.slice A0_3 v0.2.2.2.1.length c0_3])))))), Ck.m1 r0_4 false A0_4 w0_4.2.length c0_4, Ck.sl T24 A0_4 c0_4 w0_4.2]) ⟨by exact rfl, by exact rfl, by exact rfl, trivial⟩ (by decide)⟩)

end Go.Proofs.Ytiikfaefeonfhaa.G
