/- Printed by a program of this session (sz.py): plain functions, and walks that show that the code comes to them; no condition. -/
import Derived.Test.YtiikfaefeonfhaaProg
import Derived.Test.YtiikfaefeonfhaaTy
import Derived.Test.YtiikfaefeonfhaaG0
set_option linter.unusedVariables false
set_option linter.unusedSimpArgs false
namespace Go.Proofs.Ytiikfaefeonfhaa.G
open Go Go.RowKit Go.Proofs.Ytiikfaefeonfhaa.Sx

/-! ### (*shadowbox/alloc.Alloc).Take: function 28 -/
def alloc_Alloc_Take.tab3 : List (List Nat) := [[], [0], [0, 1], [0, 1, 2], [0, 1, 2, 3], [0, 1, 2, 3, 4], [0, 1, 2, 3, 4, 5], [0, 1, 2, 3, 4, 5, 6], [0, 1, 2, 3, 4, 5, 6, 7], [0, 1, 2, 3, 4, 5, 6, 7, 8], [0, 1, 2, 3, 4, 5, 6, 7, 8, 9], [0, 1, 2, 3, 4, 5], [0, 1, 2, 3, 4, 5, 6, 7, 8, 9, 10, 11], [0, 1, 2, 3, 4, 5], [0, 1, 2, 3, 4, 5, 13], [0, 1, 2, 3, 4, 5, 13, 14], [0, 1, 2, 3, 4, 5, 13, 14, 15], [0, 1, 2, 3, 4, 5, 6, 7, 8, 9, 10, 11, 12, 13, 14, 15, 16], [0, 1, 2, 3, 4, 5, 6, 7, 8, 9, 10, 11, 12, 13, 14, 15, 16, 17], [0, 1, 2, 3, 4, 5, 6, 7, 8, 9, 10, 11, 12, 13, 14, 15, 16, 17, 18]]
def alloc_Alloc_Take.jo1 (k : Nat) (v0 : ((Int × Int) × Bool × Int × (List (Int × Int)) × Unit × (List (Int × Int)))) (a1 : Int) (a2 : Bool) : Option (Int × Int × ((Int × Int) × Bool × Int × (List (Int × Int)) × Unit × (List (Int × Int)))) := (extent_Find.f k v0.2.2.2.1 a1).bind fun t1 => (if t1 < (0 : Int) then some ((0 : Int), (15 : Int), (v0.1, v0.2.1, v0.2.2.1, v0.2.2.2.1, (), v0.2.2.2.2.2)) else (if a2 = true then (extent_Remove.f k v0.2.2.2.1 (t1, IntKind.wrap .i64 (t1 + a1))).bind fun t8 => some (t1, (0 : Int), (v0.1, v0.2.1, v0.2.2.1, t8, (), v0.2.2.2.2.2)) else (extent_Total.f k v0.2.2.2.1).bind fun t16 => (if (IntKind.wrap .i64 (t16 - a1)) < v0.2.2.1 then some ((0 : Int), (15 : Int), (v0.1, v0.2.1, v0.2.2.1, v0.2.2.2.1, (), v0.2.2.2.2.2)) else (extent_Remove.f k v0.2.2.2.1 (t1, IntKind.wrap .i64 (t1 + a1))).bind fun t20 => some (t1, (0 : Int), (v0.1, v0.2.1, v0.2.2.1, t20, (), v0.2.2.2.2.2)))))
def alloc_Alloc_Take.f (k : Nat) (v0 : ((Int × Int) × Bool × Int × (List (Int × Int)) × Unit × (List (Int × Int)))) (w0_4 : (Bool × (List (Int × Int)))) (a1 : Int) (a2 : Bool) : Option (Int × Int × ((Int × Int) × Bool × Int × (List (Int × Int)) × Unit × (List (Int × Int)))) :=
  (alloc_Alloc_none.f k (v0.1, v0.2.1, v0.2.2.1, v0.2.2.2.1, (), v0.2.2.2.2.2) (w0_4.1, w0_4.2)).bind fun t28 => (if t28 = true then some ((0 : Int), (1 : Int), (v0.1, v0.2.1, v0.2.2.1, v0.2.2.2.1, (), v0.2.2.2.2.2)) else (if a1 < (1 : Int) then some ((0 : Int), (2 : Int), (v0.1, v0.2.1, v0.2.2.1, v0.2.2.2.1, (), v0.2.2.2.2.2)) else (alloc_Alloc_Take.jo1 k v0 a1 a2)))
set_option maxRecDepth 100000 in
set_option maxHeartbeats 4000000 in
theorem alloc_Alloc_Take.calls (k : Nat) (pg0 : Nat) (A0_3 : Option Addr) (c0_3 : Nat) (r0_4 : Nat) (A0_5 : Option Addr) (c0_5 : Nat) (v0 : ((Int × Int) × Bool × Int × (List (Int × Int)) × Unit × (List (Int × Int)))) (A0_4 : Option Addr) (c0_4 : Nat) (w0_4 : (Bool × (List (Int × Int)))) (a1 : Int) (a2 : Bool) (r : Int × Int × ((Int × Int) × Bool × Int × (List (Int × Int)) × Unit × (List (Int × Int)))) (b : Bs) (hs0 : St b (stl [Ck.var 66 pg0 ((([Value.int .i64 v0.1.1] ++ [Value.int .i64 v0.1.2]) ++ ([Value.bool v0.2.1] ++ ([Value.int .i64 v0.2.2.1] ++ ([Value.slice A0_3 v0.2.2.2.1.length c0_3] ++ ([Value.map (some r0_4)] ++ [Value.slice A0_5 v0.2.2.2.2.2.length c0_5])))))), Ck.m1 r0_4 w0_4.1 A0_4 w0_4.2.length c0_4, Ck.sl T24 A0_4 c0_4 w0_4.2]) b.w) (R0_3 : Ro b A0_3 (em T24 v0.2.2.2.1)) (C0_3 : v0.2.2.2.1.length ≤ c0_3) (R0_5 : Ro b A0_5 (em T24 v0.2.2.2.2.2)) (C0_5 : v0.2.2.2.2.2.length ≤ c0_5) (H : alloc_Alloc_Take.f k v0 w0_4 a1 a2 = some r) :
    Calls Try.prog 28 #[.pointer (some ⟨pg0, 0, none⟩), .int .i64 a1, .bool a2] b.w fun e w' => ∃ b', b.le b' ∧ ∃ x : (Option Addr × Nat) × (Option Addr × Nat), e = .returned (.tuple #[.int .i64 r.1, .int .i64 r.2.1]) ∧ ((Ro b' x.1.1 (em T24 r.2.2.2.2.2.1) ∧ r.2.2.2.2.2.1.length ≤ x.1.2) ∧ (Ro b' x.2.1 (em T24 r.2.2.2.2.2.2.2) ∧ r.2.2.2.2.2.2.2.length ≤ x.2.2)) ∧ St b' (stl [Ck.var 66 pg0 ((([Value.int .i64 r.2.2.1.1] ++ [Value.int .i64 r.2.2.1.2]) ++ ([Value.bool r.2.2.2.1] ++ ([Value.int .i64 r.2.2.2.2.1] ++ ([Value.slice x.1.1 r.2.2.2.2.2.1.length x.1.2] ++ ([Value.map (some r0_4)] ++ [Value.slice x.2.1 r.2.2.2.2.2.2.2.length x.2.2])))))), Ck.m1 r0_4 w0_4.1 A0_4 w0_4.2.length c0_4, Ck.sl T24 A0_4 c0_4 w0_4.2]) w' := by
  unfold alloc_Alloc_Take.f at H
  refine enterb (n := 55) Try.func28 rfl (by kernel_rfl) (by kernel_rfl) hs0 ?_
  refine cs_sub (sput (sput (sput s0 0 (some (Ck.var 66 pg0 ((([Value.int .i64 v0.1.1] ++ [Value.int .i64 v0.1.2]) ++ ([Value.bool v0.2.1] ++ ([Value.int .i64 v0.2.2.1] ++ ([Value.slice A0_3 v0.2.2.2.1.length c0_3] ++ ([Value.map (some r0_4)] ++ [Value.slice A0_5 v0.2.2.2.2.2.length c0_5]))))))))) 1 (some (Ck.m1 r0_4 w0_4.1 A0_4 w0_4.2.length c0_4))) 2 (some (Ck.sl T24 A0_4 c0_4 w0_4.2))) (sub_put (by exact rfl) (sub_put (by exact rfl) (sub_put (by exact rfl) (sub_nil _)))) ?_
  refine cs_seq ?_
  refine cs_region (l := [_, _]) ?_
  refine ls_val (v := .int .i64 (0 : Int)) rfl rfl (by kernel_rfl) (fun w => by kernel_rfl) ?_
  refine ls_val (v := .int .i64 (0 : Int)) rfl rfl (by kernel_rfl) (fun w => by kernel_rfl) ?_
  refine ls_end ?_
  refine qn_then ?_
  refine cs_cut (fun f S => ∃ (fR : Fr), f = upd (upd (upd fR 0 (.pointer (some ⟨pg0, 0, none⟩))) 1 (.int .i64 a1)) 2 (.bool a2) ∧ S = sput (sput (sput s0 0 (some (Ck.var 66 pg0 ((([Value.int .i64 v0.1.1] ++ [Value.int .i64 v0.1.2]) ++ ([Value.bool v0.2.1] ++ ([Value.int .i64 v0.2.2.1] ++ ([Value.slice A0_3 v0.2.2.2.1.length c0_3] ++ ([Value.map (some r0_4)] ++ [Value.slice A0_5 v0.2.2.2.2.2.length c0_5]))))))))) 1 (some (Ck.m1 r0_4 w0_4.1 A0_4 w0_4.2.length c0_4))) 2 (some (Ck.sl T24 A0_4 c0_4 w0_4.2)) ∧ alloc_Alloc_Take.jo1 k v0 a1 a2 = some r) ?_ ?_
  · skip
    refine cs_block ?_
    refine cs_seq ?_
    refine cs_region (l := [_, _, _]) ?_
    refine ls_val (v := .pointer (some ⟨pg0, 0, none⟩)) rfl rfl (by kernel_rfl) (fun w => by kernel_rfl) ?_
    obtain ⟨t28, hc29, H⟩ := bind_some H
    refine ls_callb (fid := 48) (vals := #[.pointer (some ⟨pg0, 0, none⟩)]) (X := Unit) (fun x => .bool t28) (fun x => stl [Ck.var 66 pg0 ((([Value.int .i64 v0.1.1] ++ [Value.int .i64 v0.1.2]) ++ ([Value.bool v0.2.1] ++ ([Value.int .i64 v0.2.2.1] ++ ([Value.slice A0_3 v0.2.2.2.1.length c0_3] ++ ([Value.map (some r0_4)] ++ [Value.slice A0_5 v0.2.2.2.2.2.length c0_5])))))), Ck.m1 r0_4 w0_4.1 A0_4 w0_4.2.length c0_4, Ck.sl T24 A0_4 c0_4 w0_4.2]) [0, 1, 2] [] [Ck.var 66 pg0 ((([Value.int .i64 v0.1.1] ++ [Value.int .i64 v0.1.2]) ++ ([Value.bool v0.2.1] ++ ([Value.int .i64 v0.2.2.1] ++ ([Value.slice A0_3 v0.2.2.2.1.length c0_3] ++ ([Value.map (some r0_4)] ++ [Value.slice A0_5 v0.2.2.2.2.2.length c0_5])))))), Ck.m1 r0_4 w0_4.1 A0_4 w0_4.2.length c0_4, Ck.sl T24 A0_4 c0_4 w0_4.2] [] 3 rfl rfl (by kernel_rfl) (fun w => by kernel_rfl) ⟨by exact rfl, by exact rfl, by exact rfl, trivial⟩ trivial (by decide) (fun w hs hb => alloc_Alloc_none.calls k pg0 A0_3 c0_3 r0_4 A0_5 c0_5 (v0.1, v0.2.1, v0.2.2.1, v0.2.2.2.1, (), v0.2.2.2.2.2) A0_4 c0_4 (w0_4.1, w0_4.2) t28 (lent b w [Ck.var 66 pg0 ((([Value.int .i64 v0.1.1] ++ [Value.int .i64 v0.1.2]) ++ ([Value.bool v0.2.1] ++ ([Value.int .i64 v0.2.2.1] ++ ([Value.slice A0_3 v0.2.2.2.1.length c0_3] ++ ([Value.map (some r0_4)] ++ [Value.slice A0_5 v0.2.2.2.2.2.length c0_5])))))), Ck.m1 r0_4 w0_4.1 A0_4 w0_4.2.length c0_4, Ck.sl T24 A0_4 c0_4 w0_4.2] []) hb (hs.ro R0_3 _ _) C0_3 (hs.ro R0_5 _ _) C0_5 hc29) ?_
    intro x30
    refine ls_val (v := .bool t28) rfl rfl (by kernel_rfl) (fun w => by kernel_rfl) ?_
    refine ls_end ?_
    refine qn_then ?_
    by_cases q31 : t28 = true
    · replace H := ite_t q31 H
      refine cs_know (c := true) (q31) 9 (by kernel_rfl) ?_
      refine cs_true (by kernel_rfl) ?_
      refine cs_seq ?_
      refine cs_region (l := [_, _]) ?_
      refine ls_val (v := .int .i64 (0 : Int)) rfl rfl (by kernel_rfl) (fun w => by kernel_rfl) ?_
      refine ls_val (v := .int .i64 (1 : Int)) rfl rfl (by kernel_rfl) (fun w => by kernel_rfl) ?_
      refine ls_end ?_
      refine qn_then ?_
      refine cs_ret' ?_
      refine qr_block ?_
      refine qr_then ?_
      obtain rfl := Option.some.inj H
      refine qr_res (rs := [_, _]) rfl (fun w' hs => ⟨[.int .i64 (0 : Int), .int .i64 (1 : Int)], (res_tmp (by kernel_rfl) (res_tmp (by kernel_rfl) (.nil))), b, (Bs.le.refl b), ((A0_3, c0_3), (A0_5, c0_5)), rfl, ⟨⟨R0_3, C0_3⟩, ⟨R0_5, C0_5⟩⟩, hs.pick (ts := [0, 1, 2]) (cs := [Ck.var 66 pg0 ((([Value.int .i64 v0.1.1] ++ [Value.int .i64 v0.1.2]) ++ ([Value.bool v0.2.1] ++ ([Value.int .i64 v0.2.2.1] ++ ([Value.slice A0_3 v0.2.2.2.1.length c0_3] ++ ([Value.map (some r0_4)] ++ [Value.slice A0_5 v0.2.2.2.2.2.length c0_5])))))), Ck.m1 r0_4 w0_4.1 A0_4 w0_4.2.length c0_4, Ck.sl T24 A0_4 c0_4 w0_4.2]) ⟨by exact rfl, by exact rfl, by exact rfl, trivial⟩ (by decide)⟩)
    · replace H := ite_f q31 H
      refine cs_know (c := false) (Bool.eq_false_iff.mpr q31) 9 (by kernel_rfl) ?_
      refine cs_false (by kernel_rfl) ?_
      refine cs_seq ?_
      refine cs_region (l := [_, _, _]) ?_
      refine ls_val (v := .int .i64 a1) rfl rfl (by kernel_rfl) (fun w => by kernel_rfl) ?_
      refine ls_val (v := .bool (decide (a1 < (1 : Int)))) rfl rfl (by kernel_rfl) (fun w => by kernel_rfl) ?_
      refine ls_val (v := .bool (decide (a1 < (1 : Int)))) rfl rfl (by kernel_rfl) (fun w => by kernel_rfl) ?_
      refine ls_end ?_
      refine qn_then ?_
      by_cases q32 : a1 < (1 : Int)
      · replace H := ite_t q32 H
        refine cs_know (c := true) (dec_t q32) 12 (by kernel_rfl) ?_
        refine cs_true (by kernel_rfl) ?_
        refine cs_seq ?_
        refine cs_region (l := [_, _]) ?_
        refine ls_val (v := .int .i64 (0 : Int)) rfl rfl (by kernel_rfl) (fun w => by kernel_rfl) ?_
        refine ls_val (v := .int .i64 (2 : Int)) rfl rfl (by kernel_rfl) (fun w => by kernel_rfl) ?_
        refine ls_end ?_
        refine qn_then ?_
        refine cs_ret' ?_
        refine qr_block ?_
        refine qr_then ?_
        obtain rfl := Option.some.inj H
        refine qr_res (rs := [_, _]) rfl (fun w' hs => ⟨[.int .i64 (0 : Int), .int .i64 (2 : Int)], (res_tmp (by kernel_rfl) (res_tmp (by kernel_rfl) (.nil))), b, (Bs.le.refl b), ((A0_3, c0_3), (A0_5, c0_5)), rfl, ⟨⟨R0_3, C0_3⟩, ⟨R0_5, C0_5⟩⟩, hs.pick (ts := [0, 1, 2]) (cs := [Ck.var 66 pg0 ((([Value.int .i64 v0.1.1] ++ [Value.int .i64 v0.1.2]) ++ ([Value.bool v0.2.1] ++ ([Value.int .i64 v0.2.2.1] ++ ([Value.slice A0_3 v0.2.2.2.1.length c0_3] ++ ([Value.map (some r0_4)] ++ [Value.slice A0_5 v0.2.2.2.2.2.length c0_5])))))), Ck.m1 r0_4 w0_4.1 A0_4 w0_4.2.length c0_4, Ck.sl T24 A0_4 c0_4 w0_4.2]) ⟨by exact rfl, by exact rfl, by exact rfl, trivial⟩ (by decide)⟩)
      · replace H := ite_f q32 H
        refine cs_know (c := false) (dec_f q32) 12 (by kernel_rfl) ?_
        refine cs_false (by kernel_rfl) ?_
        refine cs_skip' ?_
        refine qn_block ?_
        refine qn_meet (sput (sput (sput s0 0 (some (Ck.var 66 pg0 ((([Value.int .i64 v0.1.1] ++ [Value.int .i64 v0.1.2]) ++ ([Value.bool v0.2.1] ++ ([Value.int .i64 v0.2.2.1] ++ ([Value.slice A0_3 v0.2.2.2.1.length c0_3] ++ ([Value.map (some r0_4)] ++ [Value.slice A0_5 v0.2.2.2.2.2.length c0_5]))))))))) 1 (some (Ck.m1 r0_4 w0_4.1 A0_4 w0_4.2.length c0_4))) 2 (some (Ck.sl T24 A0_4 c0_4 w0_4.2))) ⟨_, fr_next (fr_next (fr_next (rfl) (by kernel_rfl)) (by kernel_rfl)) (by kernel_rfl), rfl, H⟩ (sub_put (by exact rfl) (sub_put (by exact rfl) (sub_put (by exact rfl) (sub_nil _))))
  · rintro f S ⟨fr1, rfl, rfl, H⟩
    replace H : ((extent_Find.f k v0.2.2.2.1 a1).bind fun t1 => (if t1 < (0 : Int) then some ((0 : Int), (15 : Int), (v0.1, v0.2.1, v0.2.2.1, v0.2.2.2.1, (), v0.2.2.2.2.2)) else (if a2 = true then (extent_Remove.f k v0.2.2.2.1 (t1, IntKind.wrap .i64 (t1 + a1))).bind fun t8 => some (t1, (0 : Int), (v0.1, v0.2.1, v0.2.2.1, t8, (), v0.2.2.2.2.2)) else (extent_Total.f k v0.2.2.2.1).bind fun t16 => (if (IntKind.wrap .i64 (t16 - a1)) < v0.2.2.1 then some ((0 : Int), (15 : Int), (v0.1, v0.2.1, v0.2.2.1, v0.2.2.2.1, (), v0.2.2.2.2.2)) else (extent_Remove.f k v0.2.2.2.1 (t1, IntKind.wrap .i64 (t1 + a1))).bind fun t20 => some (t1, (0 : Int), (v0.1, v0.2.1, v0.2.2.1, t20, (), v0.2.2.2.2.2)))))) = some r := H
    refine cs_seq ?_
    refine cs_region (l := [_, _, _, _, _, _, _]) ?_
    refine ls_val (v := .pointer (some ⟨pg0, 0, none⟩)) rfl rfl (by kernel_rfl) (fun w => by kernel_rfl) ?_
    refine ls_val (v := .pointer (some ⟨pg0, 0, none⟩)) rfl rfl (by kernel_rfl) (fun w => by kernel_rfl) ?_
    refine ls_val (v := .pointer (some ⟨pg0, (0 + 4), none⟩)) rfl rfl (by kernel_rfl) (fun w => by kernel_rfl) ?_
    refine ls_load (a0 := ⟨pg0, (0 + 4), none⟩) (v := .slice A0_3 v0.2.2.2.1.length c0_3) (de := (TypeDesc.slice 24)) rfl rfl (by kernel_rfl) rfl (by kernel_rfl) (by kernel_rfl) (by kernel_rfl) (fun w hs => (hs.var (k := 0) (by exact rfl) (Sub4.trans (Sub4.all _) (Sub4.skip (n := 2) (len_app (len1 _) (len1 _)) (Sub4.skip (n := 1) (len1 _) (Sub4.skip (n := 1) (len1 _) (Sub4.head _ _))))))) ?_
    refine ls_val (v := .int .i64 a1) rfl rfl (by kernel_rfl) (fun w => by kernel_rfl) ?_
    obtain ⟨t1, hc2, H⟩ := bind_some H
    refine ls_callb (fid := 24) (vals := #[.slice A0_3 v0.2.2.2.1.length c0_3, .int .i64 a1]) (X := Unit) (fun x => .int .i64 t1) (fun x => stl []) [] [] [] [] 3 rfl rfl (by kernel_rfl) (fun w => by kernel_rfl) trivial trivial (by decide) (fun w hs hb => extent_Find.calls k A0_3 c0_3 v0.2.2.2.1 a1 t1 (lent b w [] []) hb (hs.ro R0_3 _ _) C0_3 hc2) ?_
    intro x3
    refine ls_val (v := .int .i64 t1) rfl rfl (by kernel_rfl) (fun w => by kernel_rfl) ?_
    refine ls_end ?_
    refine qn_then ?_
    refine cs_seq ?_
    refine cs_seq ?_
    obtain ⟨s5_0, hs5_0⟩ : ∃ z : Value → Sto → Prop, z = (fun v R => v = .int .i64 t1 ∧ R = s0) := ⟨_, rfl⟩
    refine have_op (l := [_, _, _, _, _, _, _, _, _, _, _, _, _, _, _, _, _, _, _, _]) alloc_Alloc_Take.tab3 3 0 (fun sp => sp 0 = s5_0) (fun sp on hA hon => ?_) (fun ops5_0 => ?_)
    · refine ⟨fun o ho vs Rs f' S' w hp hf hx hS hR hs => ?_⟩
      obtain rfl := Option.some.inj ho
      rw [hA, hs5_0]
      refine And.intro (fun a ha => (want_none rfl a ha).trans hon.symm) (And.intro (fun _ => ?_) (fun h => by rw [hon] at h; cases h))
      have hF := fr_next (rfl) ((hx 8 (by kernel_rfl)).trans (by kernel_rfl : (_ : Value) = .int .i64 t1))
      refine ls_fr hF ?_
      refine ls_val (v := .int .i64 t1) rfl rfl (by kernel_rfl) (fun w => by kernel_rfl) ?_
      exact ls_fin s0 (.int .i64 t1) (congrArg (fun z => upd z 21 _) hF.symm) ⟨rfl, rfl⟩ (sub_nil _)
    obtain ⟨s5_1, hs5_1⟩ : ∃ z : Value → Sto → Prop, z = (fun v R => v = .bool (decide (t1 < (0 : Int))) ∧ R = s0) := ⟨_, rfl⟩
    refine have_op (l := [_, _, _, _, _, _, _, _, _, _, _, _, _, _, _, _, _, _, _, _]) alloc_Alloc_Take.tab3 3 1 (fun sp => sp 1 = s5_1 ∧ sp 0 = s5_0) (fun sp on hA hon => ?_) (fun ops5_1 => ?_)
    · refine ⟨fun o ho vs Rs f' S' w hp hf hx hS hR hs => ?_⟩
      obtain rfl := Option.some.inj ho
      obtain ⟨hv0, hR0⟩ := (spe hA.2 hs5_0 (hp 0 (by kernel_rfl)))
      rw [hA.1, hs5_1]
      refine And.intro (fun a ha => (want_none rfl a ha).trans hon.symm) (And.intro (fun _ => ?_) (fun h => by rw [hon] at h; cases h))
      have hF := fr_next (rfl) ((hf 0 21 (by kernel_rfl) rfl).trans hv0)
      refine ls_fr hF ?_
      refine ls_val (v := .bool (decide (t1 < (0 : Int)))) rfl rfl (by kernel_rfl) (fun w => by kernel_rfl) ?_
      exact ls_fin s0 (.bool (decide (t1 < (0 : Int)))) (congrArg (fun z => upd z 22 _) hF.symm) ⟨rfl, rfl⟩ (sub_nil _)
    obtain ⟨s5_2, hs5_2⟩ : ∃ z : Value → Sto → Prop, z = (fun v R => v = .bool (decide (t1 < (0 : Int))) ∧ R = s0) := ⟨_, rfl⟩
    refine have_op (l := [_, _, _, _, _, _, _, _, _, _, _, _, _, _, _, _, _, _, _, _]) alloc_Alloc_Take.tab3 3 2 (fun sp => sp 2 = s5_2 ∧ sp 1 = s5_1) (fun sp on hA hon => ?_) (fun ops5_2 => ?_)
    · refine ⟨fun o ho vs Rs f' S' w hp hf hx hS hR hs => ?_⟩
      obtain rfl := Option.some.inj ho
      obtain ⟨hv1, hR1⟩ := (spe hA.2 hs5_1 (hp 1 (by kernel_rfl)))
      rw [hA.1, hs5_2]
      refine And.intro (fun a ha => (want_none rfl a ha).trans hon.symm) (And.intro (fun _ => ?_) (fun h => by rw [hon] at h; cases h))
      have hF := fr_next (rfl) ((hf 1 22 (by kernel_rfl) rfl).trans hv1)
      refine ls_fr hF ?_
      refine ls_val (v := .bool (decide (t1 < (0 : Int)))) rfl rfl (by kernel_rfl) (fun w => by kernel_rfl) ?_
      exact ls_fin s0 (.bool (decide (t1 < (0 : Int)))) (congrArg (fun z => upd z 23 _) hF.symm) ⟨rfl, rfl⟩ (sub_nil _)
    by_cases q6 : t1 < (0 : Int)
    · replace H := ite_t q6 H
      refine cs_draw alloc_Alloc_Take.tab3 17 3 (spl [s5_0, s5_1, s5_2, spu, spu, spu, spu, spu, spu, spu, spu, spu, spu, spu, spu, spu, spu]) (onl [true, true, true, false, false, false, false, false, false, false, false, false, false, false, false, false, false]) (by kernel_rfl) (by kernel_rfl) (by kernel_rfl) (by kernel_rfl) (rs := [_, _, _]) rfl (by kernel_rfl) (by kernel_rfl) (all_snoc (all_snoc (all_snoc (all_snoc (all_snoc (all_snoc (all_snoc (all_snoc (all_snoc (all_snoc (all_snoc (all_snoc (all_snoc (all_snoc (all_snoc (all_snoc (all_snoc (all_nil) (ops5_0 _ _ rfl rfl)) (ops5_1 _ _ ⟨rfl, rfl⟩ rfl)) (ops5_2 _ _ ⟨rfl, rfl⟩ rfl)) (op_offi 3 2 23 false rfl rfl (by kernel_rfl) (by kernel_rfl) rfl (fun v R h => by rw [hs5_2] at h; obtain ⟨h, _⟩ := h; exact h.trans (congrArg Value.bool (show (decide (t1 < (0 : Int))) = true from dec_t q6))) rfl rfl)) (op_offi 4 2 23 false rfl rfl (by kernel_rfl) (by kernel_rfl) rfl (fun v R h => by rw [hs5_2] at h; obtain ⟨h, _⟩ := h; exact h.trans (congrArg Value.bool (show (decide (t1 < (0 : Int))) = true from dec_t q6))) rfl rfl)) (op_offi 5 2 23 false rfl rfl (by kernel_rfl) (by kernel_rfl) rfl (fun v R h => by rw [hs5_2] at h; obtain ⟨h, _⟩ := h; exact h.trans (congrArg Value.bool (show (decide (t1 < (0 : Int))) = true from dec_t q6))) rfl rfl)) (op_offu 6 5 26 true rfl rfl (by kernel_rfl) (by kernel_rfl) rfl rfl rfl)) (op_offu 7 5 26 true rfl rfl (by kernel_rfl) (by kernel_rfl) rfl rfl rfl)) (op_offu 8 5 26 true rfl rfl (by kernel_rfl) (by kernel_rfl) rfl rfl rfl)) (op_offu 9 5 26 true rfl rfl (by kernel_rfl) (by kernel_rfl) rfl rfl rfl)) (op_offu 10 5 26 true rfl rfl (by kernel_rfl) (by kernel_rfl) rfl rfl rfl)) (op_offu 11 5 26 true rfl rfl (by kernel_rfl) (by kernel_rfl) rfl rfl rfl)) (op_offu 12 5 26 true rfl rfl (by kernel_rfl) (by kernel_rfl) rfl rfl rfl)) (op_offu 13 5 26 true rfl rfl (by kernel_rfl) (by kernel_rfl) rfl rfl rfl)) (op_offu 14 5 26 true rfl rfl (by kernel_rfl) (by kernel_rfl) rfl rfl rfl)) (op_offu 15 5 26 true rfl rfl (by kernel_rfl) (by kernel_rfl) rfl rfl rfl)) (op_offu 16 5 26 true rfl rfl (by kernel_rfl) (by kernel_rfl) rfl rfl rfl)) ?_
      intro vs Rs f' S' hp hf hx hS hR
      obtain ⟨hv2, hR2⟩ := (spe rfl hs5_2 (hp 2 (by kernel_rfl)))
      obtain ⟨hv5, hR5⟩ := (spe rfl rfl (hp 5 (by kernel_rfl)) : spu _ _)
      obtain ⟨hv12, hR12⟩ := (spe rfl rfl (hp 12 (by kernel_rfl)) : spu _ _)
      obtain ⟨hv16, hR16⟩ := (spe rfl rfl (hp 16 (by kernel_rfl)) : spu _ _)
      refine ls_fr (F := upd (upd (upd (upd (upd f' 0 (.pointer (some ⟨pg0, 0, none⟩))) 1 (.int .i64 a1)) 8 (.int .i64 t1)) 23 (.bool (decide (t1 < (0 : Int))))) 26 undef) (fr_next (fr_next (fr_next (fr_next (fr_next (rfl) ((hx 0 (by kernel_rfl)).trans (by kernel_rfl : (_ : Value) = .pointer (some ⟨pg0, 0, none⟩)))) ((hx 1 (by kernel_rfl)).trans (by kernel_rfl : (_ : Value) = .int .i64 a1))) ((hx 8 (by kernel_rfl)).trans (by kernel_rfl : (_ : Value) = .int .i64 t1))) ((hf 2 23 (by kernel_rfl) rfl).trans hv2)) ((hf 5 26 (by kernel_rfl) rfl).trans hv5)) ?_
      refine ls_sub (sput (sput (sput s0 0 (some (Ck.var 66 pg0 ((([Value.int .i64 v0.1.1] ++ [Value.int .i64 v0.1.2]) ++ ([Value.bool v0.2.1] ++ ([Value.int .i64 v0.2.2.1] ++ ([Value.slice A0_3 v0.2.2.2.1.length c0_3] ++ ([Value.map (some r0_4)] ++ [Value.slice A0_5 v0.2.2.2.2.2.length c0_5]))))))))) 1 (some (Ck.m1 r0_4 w0_4.1 A0_4 w0_4.2.length c0_4))) 2 (some (Ck.sl T24 A0_4 c0_4 w0_4.2))) (sub_put ((hS 2 (by kernel_rfl)).trans (by exact rfl)) (sub_put ((hS 1 (by kernel_rfl)).trans (by exact rfl)) (sub_put ((hS 0 (by kernel_rfl)).trans (by exact rfl)) (sub_nil _)))) ?_
      refine ls_offu (j := 5) (t := 26) (b := true) rfl rfl (by kernel_rfl) (by kernel_rfl) rfl (by kernel_rfl) ?_
      refine ls_know (c := true) (dec_t q6) 23 (by kernel_rfl) ?_
      refine ls_off (j := 2) (t := 23) (b := false) (c := true) rfl rfl (by kernel_rfl) (by kernel_rfl) rfl rfl (by kernel_rfl) ?_
      refine ls_val (v := .bool true) rfl rfl (by kernel_rfl) (fun w => by kernel_rfl) ?_
      refine ls_end ?_
      refine qn_then ?_
      refine cs_true (by kernel_rfl) ?_
      refine cs_seq ?_
      refine cs_region (l := [_, _]) ?_
      refine ls_val (v := .int .i64 (0 : Int)) rfl rfl (by kernel_rfl) (fun w => by kernel_rfl) ?_
      refine ls_val (v := .int .i64 (15 : Int)) rfl rfl (by kernel_rfl) (fun w => by kernel_rfl) ?_
      refine ls_end ?_
      refine qn_then ?_
      refine cs_ret' ?_
      refine qr_then ?_
      obtain rfl := Option.some.inj H
      refine qr_res (rs := [_, _]) rfl (fun w' hs => ⟨[.int .i64 (0 : Int), .int .i64 (15 : Int)], (res_tmp (by kernel_rfl) (res_tmp (by kernel_rfl) (.nil))), b, (Bs.le.refl b), ((A0_3, c0_3), (A0_5, c0_5)), rfl, ⟨⟨R0_3, C0_3⟩, ⟨R0_5, C0_5⟩⟩, hs.pick (ts := [0, 1, 2]) (cs := [Ck.var 66 pg0 ((([Value.int .i64 v0.1.1] ++ [Value.int .i64 v0.1.2]) ++ ([Value.bool v0.2.1] ++ ([Value.int .i64 v0.2.2.1] ++ ([Value.slice A0_3 v0.2.2.2.1.length c0_3] ++ ([Value.map (some r0_4)] ++ [Value.slice A0_5 v0.2.2.2.2.2.length c0_5])))))), Ck.m1 r0_4 w0_4.1 A0_4 w0_4.2.length c0_4, Ck.sl T24 A0_4 c0_4 w0_4.2]) ⟨by exact rfl, by exact rfl, by exact rfl, trivial⟩ (by decide)⟩)
    · replace H := ite_f q6 H
      obtain ⟨s5_3, hs5_3⟩ : ∃ z : Value → Sto → Prop, z = (fun v R => v = .bool a2 ∧ R = s0) := ⟨_, rfl⟩
      refine have_op (l := [_, _, _, _, _, _, _, _, _, _, _, _, _, _, _, _, _, _, _, _]) alloc_Alloc_Take.tab3 3 3 (fun sp => sp 3 = s5_3 ∧ sp 2 = s5_2) (fun sp on hA hon => ?_) (fun ops5_3 => ?_)
      · refine ⟨fun o ho vs Rs f' S' w hp hf hx hS hR hs => ?_⟩
        obtain rfl := Option.some.inj ho
        obtain ⟨hv2, hR2⟩ := (spe hA.2 hs5_2 (hp 2 (by kernel_rfl)))
        rw [hA.1, hs5_3]
        refine And.intro (fun a ha => (want_is (j := 2) (t := 23) (r := true) rfl rfl (by kernel_rfl) (((hf 2 23 (by kernel_rfl) rfl).trans hv2).trans (congrArg Value.bool (show (decide (t1 < (0 : Int))) = false from dec_f q6))) rfl a ha).trans hon.symm) (And.intro (fun _ => ?_) (fun h => by rw [hon] at h; cases h))
        have hF := fr_next (fr_next (rfl) ((hx 2 (by kernel_rfl)).trans (by kernel_rfl : (_ : Value) = .bool a2))) (((hf 2 23 (by kernel_rfl) rfl).trans hv2).trans (congrArg Value.bool (show (decide (t1 < (0 : Int))) = false from dec_f q6)))
        refine ls_fr hF ?_
        refine ls_val (v := .bool a2) rfl rfl (by kernel_rfl) (fun w => by kernel_rfl) ?_
        exact ls_fin s0 (.bool a2) (congrArg (fun z => upd z 24 _) hF.symm) ⟨rfl, rfl⟩ (sub_nil _)
      obtain ⟨s5_4, hs5_4⟩ : ∃ z : Value → Sto → Prop, z = (fun v R => v = .bool (!a2) ∧ R = s0) := ⟨_, rfl⟩
      refine have_op (l := [_, _, _, _, _, _, _, _, _, _, _, _, _, _, _, _, _, _, _, _]) alloc_Alloc_Take.tab3 3 4 (fun sp => sp 4 = s5_4 ∧ sp 2 = s5_2 ∧ sp 3 = s5_3) (fun sp on hA hon => ?_) (fun ops5_4 => ?_)
      · refine ⟨fun o ho vs Rs f' S' w hp hf hx hS hR hs => ?_⟩
        obtain rfl := Option.some.inj ho
        obtain ⟨hv2, hR2⟩ := (spe hA.2.1 hs5_2 (hp 2 (by kernel_rfl)))
        obtain ⟨hv3, hR3⟩ := (spe hA.2.2 hs5_3 (hp 3 (by kernel_rfl)))
        rw [hA.1, hs5_4]
        refine And.intro (fun a ha => (want_is (j := 2) (t := 23) (r := true) rfl rfl (by kernel_rfl) (((hf 2 23 (by kernel_rfl) rfl).trans hv2).trans (congrArg Value.bool (show (decide (t1 < (0 : Int))) = false from dec_f q6))) rfl a ha).trans hon.symm) (And.intro (fun _ => ?_) (fun h => by rw [hon] at h; cases h))
        have hF := fr_next (fr_next (rfl) (((hf 2 23 (by kernel_rfl) rfl).trans hv2).trans (congrArg Value.bool (show (decide (t1 < (0 : Int))) = false from dec_f q6)))) ((hf 3 24 (by kernel_rfl) rfl).trans hv3)
        refine ls_fr hF ?_
        refine ls_val (v := .bool (!a2)) rfl rfl (by kernel_rfl) (fun w => by kernel_rfl) ?_
        exact ls_fin s0 (.bool (!a2)) (congrArg (fun z => upd z 25 _) hF.symm) ⟨rfl, rfl⟩ (sub_nil _)
      obtain ⟨s5_5, hs5_5⟩ : ∃ z : Value → Sto → Prop, z = (fun v R => v = .bool (!a2) ∧ R = s0) := ⟨_, rfl⟩
      refine have_op (l := [_, _, _, _, _, _, _, _, _, _, _, _, _, _, _, _, _, _, _, _]) alloc_Alloc_Take.tab3 3 5 (fun sp => sp 5 = s5_5 ∧ sp 2 = s5_2 ∧ sp 4 = s5_4) (fun sp on hA hon => ?_) (fun ops5_5 => ?_)
      · refine ⟨fun o ho vs Rs f' S' w hp hf hx hS hR hs => ?_⟩
        obtain rfl := Option.some.inj ho
        obtain ⟨hv2, hR2⟩ := (spe hA.2.1 hs5_2 (hp 2 (by kernel_rfl)))
        obtain ⟨hv4, hR4⟩ := (spe hA.2.2 hs5_4 (hp 4 (by kernel_rfl)))
        rw [hA.1, hs5_5]
        refine And.intro (fun a ha => (want_is (j := 2) (t := 23) (r := true) rfl rfl (by kernel_rfl) (((hf 2 23 (by kernel_rfl) rfl).trans hv2).trans (congrArg Value.bool (show (decide (t1 < (0 : Int))) = false from dec_f q6))) rfl a ha).trans hon.symm) (And.intro (fun _ => ?_) (fun h => by rw [hon] at h; cases h))
        have hF := fr_next (fr_next (rfl) (((hf 2 23 (by kernel_rfl) rfl).trans hv2).trans (congrArg Value.bool (show (decide (t1 < (0 : Int))) = false from dec_f q6)))) ((hf 4 25 (by kernel_rfl) rfl).trans hv4)
        refine ls_fr hF ?_
        refine ls_val (v := .bool (!a2)) rfl rfl (by kernel_rfl) (fun w => by kernel_rfl) ?_
        exact ls_fin s0 (.bool (!a2)) (congrArg (fun z => upd z 26 _) hF.symm) ⟨rfl, rfl⟩ (sub_nil _)
      by_cases q7 : a2 = true
      · replace H := ite_t q7 H
        refine cs_draw alloc_Alloc_Take.tab3 17 3 (spl [s5_0, s5_1, s5_2, s5_3, s5_4, s5_5, spu, spu, spu, spu, spu, spu, spu, spu, spu, spu, spu]) (onl [true, true, true, true, true, true, false, false, false, false, false, false, false, false, false, false, false]) (by kernel_rfl) (by kernel_rfl) (by kernel_rfl) (by kernel_rfl) (rs := [_, _, _]) rfl (by kernel_rfl) (by kernel_rfl) (all_snoc (all_snoc (all_snoc (all_snoc (all_snoc (all_snoc (all_snoc (all_snoc (all_snoc (all_snoc (all_snoc (all_snoc (all_snoc (all_snoc (all_snoc (all_snoc (all_snoc (all_nil) (ops5_0 _ _ rfl rfl)) (ops5_1 _ _ ⟨rfl, rfl⟩ rfl)) (ops5_2 _ _ ⟨rfl, rfl⟩ rfl)) (ops5_3 _ _ ⟨rfl, rfl⟩ rfl)) (ops5_4 _ _ ⟨rfl, rfl, rfl⟩ rfl)) (ops5_5 _ _ ⟨rfl, rfl, rfl⟩ rfl)) (op_offi 6 5 26 true rfl rfl (by kernel_rfl) (by kernel_rfl) rfl (fun v R h => by rw [hs5_5] at h; obtain ⟨h, _⟩ := h; exact h.trans (congrArg Value.bool (show (!a2) = false from congrArg Bool.not (q7)))) rfl rfl)) (op_offi 7 5 26 true rfl rfl (by kernel_rfl) (by kernel_rfl) rfl (fun v R h => by rw [hs5_5] at h; obtain ⟨h, _⟩ := h; exact h.trans (congrArg Value.bool (show (!a2) = false from congrArg Bool.not (q7)))) rfl rfl)) (op_offi 8 5 26 true rfl rfl (by kernel_rfl) (by kernel_rfl) rfl (fun v R h => by rw [hs5_5] at h; obtain ⟨h, _⟩ := h; exact h.trans (congrArg Value.bool (show (!a2) = false from congrArg Bool.not (q7)))) rfl rfl)) (op_offi 9 5 26 true rfl rfl (by kernel_rfl) (by kernel_rfl) rfl (fun v R h => by rw [hs5_5] at h; obtain ⟨h, _⟩ := h; exact h.trans (congrArg Value.bool (show (!a2) = false from congrArg Bool.not (q7)))) rfl rfl)) (op_offi 10 5 26 true rfl rfl (by kernel_rfl) (by kernel_rfl) rfl (fun v R h => by rw [hs5_5] at h; obtain ⟨h, _⟩ := h; exact h.trans (congrArg Value.bool (show (!a2) = false from congrArg Bool.not (q7)))) rfl rfl)) (op_offi 11 5 26 true rfl rfl (by kernel_rfl) (by kernel_rfl) rfl (fun v R h => by rw [hs5_5] at h; obtain ⟨h, _⟩ := h; exact h.trans (congrArg Value.bool (show (!a2) = false from congrArg Bool.not (q7)))) rfl rfl)) (op_offi 12 5 26 true rfl rfl (by kernel_rfl) (by kernel_rfl) rfl (fun v R h => by rw [hs5_5] at h; obtain ⟨h, _⟩ := h; exact h.trans (congrArg Value.bool (show (!a2) = false from congrArg Bool.not (q7)))) rfl rfl)) (op_offi 13 5 26 true rfl rfl (by kernel_rfl) (by kernel_rfl) rfl (fun v R h => by rw [hs5_5] at h; obtain ⟨h, _⟩ := h; exact h.trans (congrArg Value.bool (show (!a2) = false from congrArg Bool.not (q7)))) rfl rfl)) (op_offi 14 5 26 true rfl rfl (by kernel_rfl) (by kernel_rfl) rfl (fun v R h => by rw [hs5_5] at h; obtain ⟨h, _⟩ := h; exact h.trans (congrArg Value.bool (show (!a2) = false from congrArg Bool.not (q7)))) rfl rfl)) (op_offi 15 5 26 true rfl rfl (by kernel_rfl) (by kernel_rfl) rfl (fun v R h => by rw [hs5_5] at h; obtain ⟨h, _⟩ := h; exact h.trans (congrArg Value.bool (show (!a2) = false from congrArg Bool.not (q7)))) rfl rfl)) (op_offi 16 5 26 true rfl rfl (by kernel_rfl) (by kernel_rfl) rfl (fun v R h => by rw [hs5_5] at h; obtain ⟨h, _⟩ := h; exact h.trans (congrArg Value.bool (show (!a2) = false from congrArg Bool.not (q7)))) rfl rfl)) ?_
        intro vs Rs f' S' hp hf hx hS hR
        obtain ⟨hv2, hR2⟩ := (spe rfl hs5_2 (hp 2 (by kernel_rfl)))
        obtain ⟨hv5, hR5⟩ := (spe rfl hs5_5 (hp 5 (by kernel_rfl)))
        obtain ⟨hv12, hR12⟩ := (spe rfl rfl (hp 12 (by kernel_rfl)) : spu _ _)
        obtain ⟨hv16, hR16⟩ := (spe rfl rfl (hp 16 (by kernel_rfl)) : spu _ _)
        refine ls_fr (F := upd (upd (upd (upd (upd f' 0 (.pointer (some ⟨pg0, 0, none⟩))) 1 (.int .i64 a1)) 8 (.int .i64 t1)) 23 (.bool (decide (t1 < (0 : Int))))) 26 (.bool (!a2))) (fr_next (fr_next (fr_next (fr_next (fr_next (rfl) ((hx 0 (by kernel_rfl)).trans (by kernel_rfl : (_ : Value) = .pointer (some ⟨pg0, 0, none⟩)))) ((hx 1 (by kernel_rfl)).trans (by kernel_rfl : (_ : Value) = .int .i64 a1))) ((hx 8 (by kernel_rfl)).trans (by kernel_rfl : (_ : Value) = .int .i64 t1))) ((hf 2 23 (by kernel_rfl) rfl).trans hv2)) ((hf 5 26 (by kernel_rfl) rfl).trans hv5)) ?_
        refine ls_sub (sput (sput (sput s0 0 (some (Ck.var 66 pg0 ((([Value.int .i64 v0.1.1] ++ [Value.int .i64 v0.1.2]) ++ ([Value.bool v0.2.1] ++ ([Value.int .i64 v0.2.2.1] ++ ([Value.slice A0_3 v0.2.2.2.1.length c0_3] ++ ([Value.map (some r0_4)] ++ [Value.slice A0_5 v0.2.2.2.2.2.length c0_5]))))))))) 1 (some (Ck.m1 r0_4 w0_4.1 A0_4 w0_4.2.length c0_4))) 2 (some (Ck.sl T24 A0_4 c0_4 w0_4.2))) (sub_put ((hS 2 (by kernel_rfl)).trans (by exact rfl)) (sub_put ((hS 1 (by kernel_rfl)).trans (by exact rfl)) (sub_put ((hS 0 (by kernel_rfl)).trans (by exact rfl)) (sub_nil _)))) ?_
        refine ls_know (c := false) (congrArg Bool.not (q7)) 26 (by kernel_rfl) ?_
        refine ls_off (j := 5) (t := 26) (b := true) (c := false) rfl rfl (by kernel_rfl) (by kernel_rfl) rfl rfl (by kernel_rfl) ?_
        refine ls_know (c := false) (dec_f q6) 23 (by kernel_rfl) ?_
        refine ls_on (j := 2) (t := 23) (b := false) rfl rfl (by kernel_rfl) (by kernel_rfl) ?_
        refine ls_val (v := .bool false) rfl rfl (by kernel_rfl) (fun w => by kernel_rfl) ?_
        refine ls_val (v := .bool false) rfl rfl (by kernel_rfl) (fun w => by kernel_rfl) ?_
        refine ls_end ?_
        refine qn_then ?_
        refine cs_false (by kernel_rfl) ?_
        refine cs_skip' ?_
        refine qn_then ?_
        refine cs_seq ?_
        refine cs_region (l := [_, _, _, _, _, _, _, _, _, _, _, _, _, _]) ?_
        refine ls_val (v := .pointer (some ⟨pg0, 0, none⟩)) rfl rfl (by kernel_rfl) (fun w => by kernel_rfl) ?_
        refine ls_val (v := .pointer (some ⟨pg0, 0, none⟩)) rfl rfl (by kernel_rfl) (fun w => by kernel_rfl) ?_
        refine ls_val (v := .pointer (some ⟨pg0, 0, none⟩)) rfl rfl (by kernel_rfl) (fun w => by kernel_rfl) ?_
        refine ls_val (v := .pointer (some ⟨pg0, (0 + 4), none⟩)) rfl rfl (by kernel_rfl) (fun w => by kernel_rfl) ?_
        refine ls_load (a0 := ⟨pg0, (0 + 4), none⟩) (v := .slice A0_3 v0.2.2.2.1.length c0_3) (de := (TypeDesc.slice 24)) rfl rfl (by kernel_rfl) rfl (by kernel_rfl) (by kernel_rfl) (by kernel_rfl) (fun w hs => (hs.var (k := 0) (by exact rfl) (Sub4.trans (Sub4.all _) (Sub4.skip (n := 2) (len_app (len1 _) (len1 _)) (Sub4.skip (n := 1) (len1 _) (Sub4.skip (n := 1) (len1 _) (Sub4.head _ _))))))) ?_
        refine ls_val (v := .int .i64 t1) rfl rfl (by kernel_rfl) (fun w => by kernel_rfl) ?_
        refine ls_val (v := .int .i64 t1) rfl rfl (by kernel_rfl) (fun w => by kernel_rfl) ?_
        refine ls_val (v := .int .i64 a1) rfl rfl (by kernel_rfl) (fun w => by kernel_rfl) ?_
        refine ls_val (v := .int .i64 (IntKind.wrap .i64 (t1 + a1))) rfl rfl (by kernel_rfl) (fun w => by kernel_rfl) ?_
        refine ls_val (v := .agg ⟨([Value.int .i64 t1] ++ [Value.int .i64 (IntKind.wrap .i64 (t1 + a1))])⟩) rfl rfl (by kernel_rfl) (fun w => by kernel_rfl) ?_
        obtain ⟨t8, hc9, H⟩ := bind_some H
        refine ls_callb (fid := 15) (vals := #[.slice A0_3 v0.2.2.2.1.length c0_3, .agg ⟨([Value.int .i64 t1] ++ [Value.int .i64 (IntKind.wrap .i64 (t1 + a1))])⟩]) (X := (Option Addr × Nat)) (fun x => .slice x.1 t8.length x.2) (fun x => stl [Ck.sl T24 x.1 x.2 t8]) [] [] [] [] 139 rfl rfl (by kernel_rfl) (fun w => by kernel_rfl) trivial trivial (by decide) (fun w hs hb => extent_Remove.calls k A0_3 c0_3 v0.2.2.2.1 (t1, IntKind.wrap .i64 (t1 + a1)) t8 (lent b w [] []) hb (hs.ro R0_3 _ _) C0_3 hc9) ?_
        intro x10
        refine ls_val (v := .pointer (some ⟨pg0, 0, none⟩)) rfl rfl (by kernel_rfl) (fun w => by kernel_rfl) ?_
        refine ls_val (v := .pointer (some ⟨pg0, (0 + 4), none⟩)) rfl rfl (by kernel_rfl) (fun w => by kernel_rfl) ?_
        refine ls_storec (g := pg0) (off := (0 + 4)) (v := .slice x10.1 t8.length x10.2) (vs := [Value.slice x10.1 t8.length x10.2]) (cs := (([Value.int .i64 v0.1.1] ++ [Value.int .i64 v0.1.2]) ++ ([Value.bool v0.2.1] ++ ([Value.int .i64 v0.2.2.1] ++ ([Value.slice A0_3 v0.2.2.2.1.length c0_3] ++ ([Value.map (some r0_4)] ++ [Value.slice A0_5 v0.2.2.2.2.2.length c0_5])))))) (ty := 66) 0 rfl rfl rfl (by kernel_rfl) (by kernel_rfl) (by kernel_rfl) (by exact rfl) (by kernel_rfl) (len1 _) (one_cons rfl one_nil) (hl_of (Sub4.trans (Sub4.all _) (Sub4.skip (n := 2) (len_app (len1 _) (len1 _)) (Sub4.skip (n := 1) (len1 _) (Sub4.skip (n := 1) (len1 _) (Sub4.head _ _))))) (len_eq (len1 _) (len1 _))) (cs' := (([Value.int .i64 v0.1.1] ++ [Value.int .i64 v0.1.2]) ++ ([Value.bool v0.2.1] ++ ([Value.int .i64 v0.2.2.1] ++ ([Value.slice x10.1 t8.length x10.2] ++ ([Value.map (some r0_4)] ++ [Value.slice A0_5 v0.2.2.2.2.2.length c0_5])))))) (splc_in (Sub4.all _) (splc_skip (n := 2) (len_app (len1 _) (len1 _)) (splc_skip (n := 1) (len1 _) (splc_skip (n := 1) (len1 _) (splc_head (len_eq (len1 _) (len1 _)))))) (splc_all (len_eq (len_app (len_app (len1 _) (len1 _)) (len_app (len1 _) (len_app (len1 _) (len_app (len1 _) (len_app (len1 _) (len1 _)))))) (len_app (len_app (len1 _) (len1 _)) (len_app (len1 _) (len_app (len1 _) (len_app (len1 _) (len_app (len1 _) (len1 _)))))))) (hl_of (Sub4.skip (n := 2) (len_app (len1 _) (len1 _)) (Sub4.skip (n := 1) (len1 _) (Sub4.skip (n := 1) (len1 _) (Sub4.head _ _)))) (len_eq (len1 _) (len1 _)))) ?_
        refine ls_end ?_
        refine qn_then ?_
        refine cs_seq ?_
        refine cs_region (l := [_, _, _]) ?_
        refine ls_val (v := .int .i64 t1) rfl rfl (by kernel_rfl) (fun w => by kernel_rfl) ?_
        refine ls_val (v := .int .i64 t1) rfl rfl (by kernel_rfl) (fun w => by kernel_rfl) ?_
        refine ls_val (v := .int .i64 (0 : Int)) rfl rfl (by kernel_rfl) (fun w => by kernel_rfl) ?_
        refine ls_end ?_
        refine qn_then ?_
        refine cs_ret' ?_
        refine qr_freeze (T := T24) (A := x10.1) (c := x10.2) (l := t8) 139 (by exact rfl) ?_
        intro bs11 hle12 hok13 fR14 fC15
        obtain rfl := Option.some.inj H
        refine qr_res (rs := [_, _]) rfl (fun w' hs => ⟨[.int .i64 t1, .int .i64 (0 : Int)], (res_tmp (by kernel_rfl) (res_tmp (by kernel_rfl) (.nil))), bs11, hle12, ((x10.1, x10.2), (A0_5, c0_5)), rfl, ⟨⟨fR14, fC15⟩, ⟨(Ro.mono hok13 hle12 R0_5), C0_5⟩⟩, hs.pick (ts := [0, 1, 2]) (cs := [Ck.var 66 pg0 ((([Value.int .i64 v0.1.1] ++ [Value.int .i64 v0.1.2]) ++ ([Value.bool v0.2.1] ++ ([Value.int .i64 v0.2.2.1] ++ ([Value.slice x10.1 t8.length x10.2] ++ ([Value.map (some r0_4)] ++ [Value.slice A0_5 v0.2.2.2.2.2.length c0_5])))))), Ck.m1 r0_4 w0_4.1 A0_4 w0_4.2.length c0_4, Ck.sl T24 A0_4 c0_4 w0_4.2]) ⟨by exact rfl, by exact rfl, by exact rfl, trivial⟩ (by decide)⟩)
      · replace H := ite_f q7 H
        obtain ⟨s5_6, hs5_6⟩ : ∃ z : Value → Sto → Prop, z = (fun v R => v = .pointer (some ⟨pg0, 0, none⟩) ∧ R = s0) := ⟨_, rfl⟩
        refine have_op (l := [_, _, _, _, _, _, _, _, _, _, _, _, _, _, _, _, _, _, _, _]) alloc_Alloc_Take.tab3 3 6 (fun sp => sp 6 = s5_6 ∧ sp 5 = s5_5) (fun sp on hA hon => ?_) (fun ops5_6 => ?_)
        · refine ⟨fun o ho vs Rs f' S' w hp hf hx hS hR hs => ?_⟩
          obtain rfl := Option.some.inj ho
          obtain ⟨hv5, hR5⟩ := (spe hA.2 hs5_5 (hp 5 (by kernel_rfl)))
          rw [hA.1, hs5_6]
          refine And.intro (fun a ha => (want_is (j := 5) (t := 26) (r := true) rfl rfl (by kernel_rfl) (((hf 5 26 (by kernel_rfl) rfl).trans hv5).trans (congrArg Value.bool (show (!a2) = true from congrArg Bool.not (Bool.eq_false_iff.mpr q7)))) rfl a ha).trans hon.symm) (And.intro (fun _ => ?_) (fun h => by rw [hon] at h; cases h))
          have hF := fr_next (fr_next (rfl) ((hx 0 (by kernel_rfl)).trans (by kernel_rfl : (_ : Value) = .pointer (some ⟨pg0, 0, none⟩)))) (((hf 5 26 (by kernel_rfl) rfl).trans hv5).trans (congrArg Value.bool (show (!a2) = true from congrArg Bool.not (Bool.eq_false_iff.mpr q7))))
          refine ls_fr hF ?_
          refine ls_val (v := .pointer (some ⟨pg0, 0, none⟩)) rfl rfl (by kernel_rfl) (fun w => by kernel_rfl) ?_
          exact ls_fin s0 (.pointer (some ⟨pg0, 0, none⟩)) (congrArg (fun z => upd z 27 _) hF.symm) ⟨rfl, rfl⟩ (sub_nil _)
        obtain ⟨s5_7, hs5_7⟩ : ∃ z : Value → Sto → Prop, z = (fun v R => v = .pointer (some ⟨pg0, 0, none⟩) ∧ R = s0) := ⟨_, rfl⟩
        refine have_op (l := [_, _, _, _, _, _, _, _, _, _, _, _, _, _, _, _, _, _, _, _]) alloc_Alloc_Take.tab3 3 7 (fun sp => sp 7 = s5_7 ∧ sp 5 = s5_5 ∧ sp 6 = s5_6) (fun sp on hA hon => ?_) (fun ops5_7 => ?_)
        · refine ⟨fun o ho vs Rs f' S' w hp hf hx hS hR hs => ?_⟩
          obtain rfl := Option.some.inj ho
          obtain ⟨hv5, hR5⟩ := (spe hA.2.1 hs5_5 (hp 5 (by kernel_rfl)))
          obtain ⟨hv6, hR6⟩ := (spe hA.2.2 hs5_6 (hp 6 (by kernel_rfl)))
          rw [hA.1, hs5_7]
          refine And.intro (fun a ha => (want_is (j := 5) (t := 26) (r := true) rfl rfl (by kernel_rfl) (((hf 5 26 (by kernel_rfl) rfl).trans hv5).trans (congrArg Value.bool (show (!a2) = true from congrArg Bool.not (Bool.eq_false_iff.mpr q7)))) rfl a ha).trans hon.symm) (And.intro (fun _ => ?_) (fun h => by rw [hon] at h; cases h))
          have hF := fr_next (fr_next (rfl) (((hf 5 26 (by kernel_rfl) rfl).trans hv5).trans (congrArg Value.bool (show (!a2) = true from congrArg Bool.not (Bool.eq_false_iff.mpr q7))))) ((hf 6 27 (by kernel_rfl) rfl).trans hv6)
          refine ls_fr hF ?_
          refine ls_val (v := .pointer (some ⟨pg0, 0, none⟩)) rfl rfl (by kernel_rfl) (fun w => by kernel_rfl) ?_
          exact ls_fin s0 (.pointer (some ⟨pg0, 0, none⟩)) (congrArg (fun z => upd z 28 _) hF.symm) ⟨rfl, rfl⟩ (sub_nil _)
        obtain ⟨s5_8, hs5_8⟩ : ∃ z : Value → Sto → Prop, z = (fun v R => v = .pointer (some ⟨pg0, (0 + 4), none⟩) ∧ R = s0) := ⟨_, rfl⟩
        refine have_op (l := [_, _, _, _, _, _, _, _, _, _, _, _, _, _, _, _, _, _, _, _]) alloc_Alloc_Take.tab3 3 8 (fun sp => sp 8 = s5_8 ∧ sp 5 = s5_5 ∧ sp 7 = s5_7) (fun sp on hA hon => ?_) (fun ops5_8 => ?_)
        · refine ⟨fun o ho vs Rs f' S' w hp hf hx hS hR hs => ?_⟩
          obtain rfl := Option.some.inj ho
          obtain ⟨hv5, hR5⟩ := (spe hA.2.1 hs5_5 (hp 5 (by kernel_rfl)))
          obtain ⟨hv7, hR7⟩ := (spe hA.2.2 hs5_7 (hp 7 (by kernel_rfl)))
          rw [hA.1, hs5_8]
          refine And.intro (fun a ha => (want_is (j := 5) (t := 26) (r := true) rfl rfl (by kernel_rfl) (((hf 5 26 (by kernel_rfl) rfl).trans hv5).trans (congrArg Value.bool (show (!a2) = true from congrArg Bool.not (Bool.eq_false_iff.mpr q7)))) rfl a ha).trans hon.symm) (And.intro (fun _ => ?_) (fun h => by rw [hon] at h; cases h))
          have hF := fr_next (fr_next (rfl) (((hf 5 26 (by kernel_rfl) rfl).trans hv5).trans (congrArg Value.bool (show (!a2) = true from congrArg Bool.not (Bool.eq_false_iff.mpr q7))))) ((hf 7 28 (by kernel_rfl) rfl).trans hv7)
          refine ls_fr hF ?_
          refine ls_val (v := .pointer (some ⟨pg0, (0 + 4), none⟩)) rfl rfl (by kernel_rfl) (fun w => by kernel_rfl) ?_
          exact ls_fin s0 (.pointer (some ⟨pg0, (0 + 4), none⟩)) (congrArg (fun z => upd z 29 _) hF.symm) ⟨rfl, rfl⟩ (sub_nil _)
        obtain ⟨s5_9, hs5_9⟩ : ∃ z : Value → Sto → Prop, z = (fun v R => v = .slice A0_3 v0.2.2.2.1.length c0_3 ∧ R = s0) := ⟨_, rfl⟩
        refine have_op (l := [_, _, _, _, _, _, _, _, _, _, _, _, _, _, _, _, _, _, _, _]) alloc_Alloc_Take.tab3 3 9 (fun sp => sp 9 = s5_9 ∧ sp 5 = s5_5 ∧ sp 8 = s5_8) (fun sp on hA hon => ?_) (fun ops5_9 => ?_)
        · refine ⟨fun o ho vs Rs f' S' w hp hf hx hS hR hs => ?_⟩
          obtain rfl := Option.some.inj ho
          obtain ⟨hv5, hR5⟩ := (spe hA.2.1 hs5_5 (hp 5 (by kernel_rfl)))
          obtain ⟨hv8, hR8⟩ := (spe hA.2.2 hs5_8 (hp 8 (by kernel_rfl)))
          rw [hA.1, hs5_9]
          refine And.intro (fun a ha => (want_is (j := 5) (t := 26) (r := true) rfl rfl (by kernel_rfl) (((hf 5 26 (by kernel_rfl) rfl).trans hv5).trans (congrArg Value.bool (show (!a2) = true from congrArg Bool.not (Bool.eq_false_iff.mpr q7)))) rfl a ha).trans hon.symm) (And.intro (fun _ => ?_) (fun h => by rw [hon] at h; cases h))
          have hF := fr_next (fr_next (rfl) (((hf 5 26 (by kernel_rfl) rfl).trans hv5).trans (congrArg Value.bool (show (!a2) = true from congrArg Bool.not (Bool.eq_false_iff.mpr q7))))) ((hf 8 29 (by kernel_rfl) rfl).trans hv8)
          refine ls_fr hF ?_
          refine ls_load (a0 := ⟨pg0, (0 + 4), none⟩) (v := .slice A0_3 v0.2.2.2.1.length c0_3) (de := (TypeDesc.slice 24)) rfl rfl (by kernel_rfl) rfl (by kernel_rfl) (by kernel_rfl) (by kernel_rfl) (fun w1 hs1 => cell_step hs1.below.bw (hs.var (k := 0) ((hS 0 (by kernel_rfl)).trans (by exact rfl)) (Sub4.trans (Sub4.all _) (Sub4.skip (n := 2) (len_app (len1 _) (len1 _)) (Sub4.skip (n := 1) (len1 _) (Sub4.skip (n := 1) (len1 _) (Sub4.head _ _))))))) ?_
          exact ls_fin s0 (.slice A0_3 v0.2.2.2.1.length c0_3) (congrArg (fun z => upd z 30 _) hF.symm) ⟨rfl, rfl⟩ (sub_nil _)
        obtain ⟨t16, hc17, H⟩ := bind_some H
        obtain ⟨s5_10, hs5_10⟩ : ∃ z : Value → Sto → Prop, z = (fun v R => ∃ x18 : Unit, v = .int .i64 t16 ∧ R = stl []) := ⟨_, rfl⟩
        refine have_op (l := [_, _, _, _, _, _, _, _, _, _, _, _, _, _, _, _, _, _, _, _]) alloc_Alloc_Take.tab3 3 10 (fun sp => sp 10 = s5_10 ∧ sp 5 = s5_5 ∧ sp 9 = s5_9) (fun sp on hA hon => ?_) (fun ops5_10 => ?_)
        · refine ⟨fun o ho vs Rs f' S' w hp hf hx hS hR hs => ?_⟩
          obtain rfl := Option.some.inj ho
          obtain ⟨hv5, hR5⟩ := (spe hA.2.1 hs5_5 (hp 5 (by kernel_rfl)))
          obtain ⟨hv9, hR9⟩ := (spe hA.2.2 hs5_9 (hp 9 (by kernel_rfl)))
          rw [hA.1, hs5_10]
          refine And.intro (fun a ha => (want_is (j := 5) (t := 26) (r := true) rfl rfl (by kernel_rfl) (((hf 5 26 (by kernel_rfl) rfl).trans hv5).trans (congrArg Value.bool (show (!a2) = true from congrArg Bool.not (Bool.eq_false_iff.mpr q7)))) rfl a ha).trans hon.symm) (And.intro (fun _ => ?_) (fun h => by rw [hon] at h; cases h))
          have hF := fr_next (fr_next (rfl) (((hf 5 26 (by kernel_rfl) rfl).trans hv5).trans (congrArg Value.bool (show (!a2) = true from congrArg Bool.not (Bool.eq_false_iff.mpr q7))))) ((hf 9 30 (by kernel_rfl) rfl).trans hv9)
          refine ls_fr hF ?_
          refine ls_call (fid := 14) (vals := #[.slice A0_3 v0.2.2.2.1.length c0_3]) (X := Unit) (fun x => .int .i64 t16) (fun x => stl []) 0 rfl rfl (by kernel_rfl) (fun w => by kernel_rfl) (fun w1 hs1 => extent_Total.calls k A0_3 c0_3 v0.2.2.2.1 t16 (bw w1) (St.refl w1) (Rd.ro (Rd.step (hs.old R0_3) hs1.below.bw)) C0_3 hc17) ?_
          intro x18
          exact ls_fin (stl []) (.int .i64 t16) (congrArg (fun z => upd z 31 _) hF.symm) ⟨x18, rfl, rfl⟩ (sub_join _)
        obtain ⟨s5_11, hs5_11⟩ : ∃ z : Value → Sto → Prop, z = (fun v R => v = .int .i64 a1 ∧ R = s0) := ⟨_, rfl⟩
        refine have_op (l := [_, _, _, _, _, _, _, _, _, _, _, _, _, _, _, _, _, _, _, _]) alloc_Alloc_Take.tab3 3 11 (fun sp => sp 11 = s5_11 ∧ sp 5 = s5_5) (fun sp on hA hon => ?_) (fun ops5_11 => ?_)
        · refine ⟨fun o ho vs Rs f' S' w hp hf hx hS hR hs => ?_⟩
          obtain rfl := Option.some.inj ho
          obtain ⟨hv5, hR5⟩ := (spe hA.2 hs5_5 (hp 5 (by kernel_rfl)))
          rw [hA.1, hs5_11]
          refine And.intro (fun a ha => (want_is (j := 5) (t := 26) (r := true) rfl rfl (by kernel_rfl) (((hf 5 26 (by kernel_rfl) rfl).trans hv5).trans (congrArg Value.bool (show (!a2) = true from congrArg Bool.not (Bool.eq_false_iff.mpr q7)))) rfl a ha).trans hon.symm) (And.intro (fun _ => ?_) (fun h => by rw [hon] at h; cases h))
          have hF := fr_next (fr_next (rfl) ((hx 1 (by kernel_rfl)).trans (by kernel_rfl : (_ : Value) = .int .i64 a1))) (((hf 5 26 (by kernel_rfl) rfl).trans hv5).trans (congrArg Value.bool (show (!a2) = true from congrArg Bool.not (Bool.eq_false_iff.mpr q7))))
          refine ls_fr hF ?_
          refine ls_val (v := .int .i64 a1) rfl rfl (by kernel_rfl) (fun w => by kernel_rfl) ?_
          exact ls_fin s0 (.int .i64 a1) (congrArg (fun z => upd z 32 _) hF.symm) ⟨rfl, rfl⟩ (sub_nil _)
        obtain ⟨s5_12, hs5_12⟩ : ∃ z : Value → Sto → Prop, z = (fun v R => v = .int .i64 (IntKind.wrap .i64 (t16 - a1)) ∧ R = s0) := ⟨_, rfl⟩
        refine have_op (l := [_, _, _, _, _, _, _, _, _, _, _, _, _, _, _, _, _, _, _, _]) alloc_Alloc_Take.tab3 3 12 (fun sp => sp 12 = s5_12 ∧ sp 5 = s5_5 ∧ sp 10 = s5_10 ∧ sp 11 = s5_11) (fun sp on hA hon => ?_) (fun ops5_12 => ?_)
        · refine ⟨fun o ho vs Rs f' S' w hp hf hx hS hR hs => ?_⟩
          obtain rfl := Option.some.inj ho
          obtain ⟨hv5, hR5⟩ := (spe hA.2.1 hs5_5 (hp 5 (by kernel_rfl)))
          obtain ⟨x18, hv10, hR10⟩ := (spe hA.2.2.1 hs5_10 (hp 10 (by kernel_rfl)))
          obtain ⟨hv11, hR11⟩ := (spe hA.2.2.2 hs5_11 (hp 11 (by kernel_rfl)))
          rw [hA.1, hs5_12]
          refine And.intro (fun a ha => (want_is (j := 5) (t := 26) (r := true) rfl rfl (by kernel_rfl) (((hf 5 26 (by kernel_rfl) rfl).trans hv5).trans (congrArg Value.bool (show (!a2) = true from congrArg Bool.not (Bool.eq_false_iff.mpr q7)))) rfl a ha).trans hon.symm) (And.intro (fun _ => ?_) (fun h => by rw [hon] at h; cases h))
          have hF := fr_next (fr_next (fr_next (rfl) (((hf 5 26 (by kernel_rfl) rfl).trans hv5).trans (congrArg Value.bool (show (!a2) = true from congrArg Bool.not (Bool.eq_false_iff.mpr q7))))) ((hf 10 31 (by kernel_rfl) rfl).trans hv10)) ((hf 11 32 (by kernel_rfl) rfl).trans hv11)
          refine ls_fr hF ?_
          refine ls_val (v := .int .i64 (IntKind.wrap .i64 (t16 - a1))) rfl rfl (by kernel_rfl) (fun w => by kernel_rfl) ?_
          exact ls_fin s0 (.int .i64 (IntKind.wrap .i64 (t16 - a1))) (congrArg (fun z => upd z 33 _) hF.symm) ⟨rfl, rfl⟩ (sub_nil _)
        obtain ⟨s5_13, hs5_13⟩ : ∃ z : Value → Sto → Prop, z = (fun v R => v = .pointer (some ⟨pg0, 0, none⟩) ∧ R = s0) := ⟨_, rfl⟩
        refine have_op (l := [_, _, _, _, _, _, _, _, _, _, _, _, _, _, _, _, _, _, _, _]) alloc_Alloc_Take.tab3 3 13 (fun sp => sp 13 = s5_13 ∧ sp 5 = s5_5) (fun sp on hA hon => ?_) (fun ops5_13 => ?_)
        · refine ⟨fun o ho vs Rs f' S' w hp hf hx hS hR hs => ?_⟩
          obtain rfl := Option.some.inj ho
          obtain ⟨hv5, hR5⟩ := (spe hA.2 hs5_5 (hp 5 (by kernel_rfl)))
          rw [hA.1, hs5_13]
          refine And.intro (fun a ha => (want_is (j := 5) (t := 26) (r := true) rfl rfl (by kernel_rfl) (((hf 5 26 (by kernel_rfl) rfl).trans hv5).trans (congrArg Value.bool (show (!a2) = true from congrArg Bool.not (Bool.eq_false_iff.mpr q7)))) rfl a ha).trans hon.symm) (And.intro (fun _ => ?_) (fun h => by rw [hon] at h; cases h))
          have hF := fr_next (fr_next (rfl) ((hx 0 (by kernel_rfl)).trans (by kernel_rfl : (_ : Value) = .pointer (some ⟨pg0, 0, none⟩)))) (((hf 5 26 (by kernel_rfl) rfl).trans hv5).trans (congrArg Value.bool (show (!a2) = true from congrArg Bool.not (Bool.eq_false_iff.mpr q7))))
          refine ls_fr hF ?_
          refine ls_val (v := .pointer (some ⟨pg0, 0, none⟩)) rfl rfl (by kernel_rfl) (fun w => by kernel_rfl) ?_
          exact ls_fin s0 (.pointer (some ⟨pg0, 0, none⟩)) (congrArg (fun z => upd z 34 _) hF.symm) ⟨rfl, rfl⟩ (sub_nil _)
        obtain ⟨s5_14, hs5_14⟩ : ∃ z : Value → Sto → Prop, z = (fun v R => v = .pointer (some ⟨pg0, 0, none⟩) ∧ R = s0) := ⟨_, rfl⟩
        refine have_op (l := [_, _, _, _, _, _, _, _, _, _, _, _, _, _, _, _, _, _, _, _]) alloc_Alloc_Take.tab3 3 14 (fun sp => sp 14 = s5_14 ∧ sp 5 = s5_5 ∧ sp 13 = s5_13) (fun sp on hA hon => ?_) (fun ops5_14 => ?_)
        · refine ⟨fun o ho vs Rs f' S' w hp hf hx hS hR hs => ?_⟩
          obtain rfl := Option.some.inj ho
          obtain ⟨hv5, hR5⟩ := (spe hA.2.1 hs5_5 (hp 5 (by kernel_rfl)))
          obtain ⟨hv13, hR13⟩ := (spe hA.2.2 hs5_13 (hp 13 (by kernel_rfl)))
          rw [hA.1, hs5_14]
          refine And.intro (fun a ha => (want_is (j := 5) (t := 26) (r := true) rfl rfl (by kernel_rfl) (((hf 5 26 (by kernel_rfl) rfl).trans hv5).trans (congrArg Value.bool (show (!a2) = true from congrArg Bool.not (Bool.eq_false_iff.mpr q7)))) rfl a ha).trans hon.symm) (And.intro (fun _ => ?_) (fun h => by rw [hon] at h; cases h))
          have hF := fr_next (fr_next (rfl) (((hf 5 26 (by kernel_rfl) rfl).trans hv5).trans (congrArg Value.bool (show (!a2) = true from congrArg Bool.not (Bool.eq_false_iff.mpr q7))))) ((hf 13 34 (by kernel_rfl) rfl).trans hv13)
          refine ls_fr hF ?_
          refine ls_val (v := .pointer (some ⟨pg0, 0, none⟩)) rfl rfl (by kernel_rfl) (fun w => by kernel_rfl) ?_
          exact ls_fin s0 (.pointer (some ⟨pg0, 0, none⟩)) (congrArg (fun z => upd z 35 _) hF.symm) ⟨rfl, rfl⟩ (sub_nil _)
        obtain ⟨s5_15, hs5_15⟩ : ∃ z : Value → Sto → Prop, z = (fun v R => v = .pointer (some ⟨pg0, (0 + 3), none⟩) ∧ R = s0) := ⟨_, rfl⟩
        refine have_op (l := [_, _, _, _, _, _, _, _, _, _, _, _, _, _, _, _, _, _, _, _]) alloc_Alloc_Take.tab3 3 15 (fun sp => sp 15 = s5_15 ∧ sp 5 = s5_5 ∧ sp 14 = s5_14) (fun sp on hA hon => ?_) (fun ops5_15 => ?_)
        · refine ⟨fun o ho vs Rs f' S' w hp hf hx hS hR hs => ?_⟩
          obtain rfl := Option.some.inj ho
          obtain ⟨hv5, hR5⟩ := (spe hA.2.1 hs5_5 (hp 5 (by kernel_rfl)))
          obtain ⟨hv14, hR14⟩ := (spe hA.2.2 hs5_14 (hp 14 (by kernel_rfl)))
          rw [hA.1, hs5_15]
          refine And.intro (fun a ha => (want_is (j := 5) (t := 26) (r := true) rfl rfl (by kernel_rfl) (((hf 5 26 (by kernel_rfl) rfl).trans hv5).trans (congrArg Value.bool (show (!a2) = true from congrArg Bool.not (Bool.eq_false_iff.mpr q7)))) rfl a ha).trans hon.symm) (And.intro (fun _ => ?_) (fun h => by rw [hon] at h; cases h))
          have hF := fr_next (fr_next (rfl) (((hf 5 26 (by kernel_rfl) rfl).trans hv5).trans (congrArg Value.bool (show (!a2) = true from congrArg Bool.not (Bool.eq_false_iff.mpr q7))))) ((hf 14 35 (by kernel_rfl) rfl).trans hv14)
          refine ls_fr hF ?_
          refine ls_val (v := .pointer (some ⟨pg0, (0 + 3), none⟩)) rfl rfl (by kernel_rfl) (fun w => by kernel_rfl) ?_
          exact ls_fin s0 (.pointer (some ⟨pg0, (0 + 3), none⟩)) (congrArg (fun z => upd z 36 _) hF.symm) ⟨rfl, rfl⟩ (sub_nil _)
        obtain ⟨s5_16, hs5_16⟩ : ∃ z : Value → Sto → Prop, z = (fun v R => v = .int .i64 v0.2.2.1 ∧ R = s0) := ⟨_, rfl⟩
        refine have_op (l := [_, _, _, _, _, _, _, _, _, _, _, _, _, _, _, _, _, _, _, _]) alloc_Alloc_Take.tab3 3 16 (fun sp => sp 16 = s5_16 ∧ sp 5 = s5_5 ∧ sp 15 = s5_15) (fun sp on hA hon => ?_) (fun ops5_16 => ?_)
        · refine ⟨fun o ho vs Rs f' S' w hp hf hx hS hR hs => ?_⟩
          obtain rfl := Option.some.inj ho
          obtain ⟨hv5, hR5⟩ := (spe hA.2.1 hs5_5 (hp 5 (by kernel_rfl)))
          obtain ⟨hv15, hR15⟩ := (spe hA.2.2 hs5_15 (hp 15 (by kernel_rfl)))
          rw [hA.1, hs5_16]
          refine And.intro (fun a ha => (want_is (j := 5) (t := 26) (r := true) rfl rfl (by kernel_rfl) (((hf 5 26 (by kernel_rfl) rfl).trans hv5).trans (congrArg Value.bool (show (!a2) = true from congrArg Bool.not (Bool.eq_false_iff.mpr q7)))) rfl a ha).trans hon.symm) (And.intro (fun _ => ?_) (fun h => by rw [hon] at h; cases h))
          have hF := fr_next (fr_next (rfl) (((hf 5 26 (by kernel_rfl) rfl).trans hv5).trans (congrArg Value.bool (show (!a2) = true from congrArg Bool.not (Bool.eq_false_iff.mpr q7))))) ((hf 15 36 (by kernel_rfl) rfl).trans hv15)
          refine ls_fr hF ?_
          refine ls_load (a0 := ⟨pg0, (0 + 3), none⟩) (v := .int .i64 v0.2.2.1) (de := (TypeDesc.int .i64)) rfl rfl (by kernel_rfl) rfl (by kernel_rfl) (by kernel_rfl) (by kernel_rfl) (fun w1 hs1 => cell_step hs1.below.bw (hs.var (k := 0) ((hS 0 (by kernel_rfl)).trans (by exact rfl)) (Sub4.trans (Sub4.all _) (Sub4.skip (n := 2) (len_app (len1 _) (len1 _)) (Sub4.skip (n := 1) (len1 _) (Sub4.head _ _)))))) ?_
          exact ls_fin s0 (.int .i64 v0.2.2.1) (congrArg (fun z => upd z 37 _) hF.symm) ⟨rfl, rfl⟩ (sub_nil _)
        refine cs_draw alloc_Alloc_Take.tab3 17 3 (spl [s5_0, s5_1, s5_2, s5_3, s5_4, s5_5, s5_6, s5_7, s5_8, s5_9, s5_10, s5_11, s5_12, s5_13, s5_14, s5_15, s5_16]) (onl [true, true, true, true, true, true, true, true, true, true, true, true, true, true, true, true, true]) (by kernel_rfl) (by kernel_rfl) (by kernel_rfl) (by kernel_rfl) (rs := [_, _, _]) rfl (by kernel_rfl) (by kernel_rfl) (all_snoc (all_snoc (all_snoc (all_snoc (all_snoc (all_snoc (all_snoc (all_snoc (all_snoc (all_snoc (all_snoc (all_snoc (all_snoc (all_snoc (all_snoc (all_snoc (all_snoc (all_nil) (ops5_0 _ _ rfl rfl)) (ops5_1 _ _ ⟨rfl, rfl⟩ rfl)) (ops5_2 _ _ ⟨rfl, rfl⟩ rfl)) (ops5_3 _ _ ⟨rfl, rfl⟩ rfl)) (ops5_4 _ _ ⟨rfl, rfl, rfl⟩ rfl)) (ops5_5 _ _ ⟨rfl, rfl, rfl⟩ rfl)) (ops5_6 _ _ ⟨rfl, rfl⟩ rfl)) (ops5_7 _ _ ⟨rfl, rfl, rfl⟩ rfl)) (ops5_8 _ _ ⟨rfl, rfl, rfl⟩ rfl)) (ops5_9 _ _ ⟨rfl, rfl, rfl⟩ rfl)) (ops5_10 _ _ ⟨rfl, rfl, rfl⟩ rfl)) (ops5_11 _ _ ⟨rfl, rfl⟩ rfl)) (ops5_12 _ _ ⟨rfl, rfl, rfl, rfl⟩ rfl)) (ops5_13 _ _ ⟨rfl, rfl⟩ rfl)) (ops5_14 _ _ ⟨rfl, rfl, rfl⟩ rfl)) (ops5_15 _ _ ⟨rfl, rfl, rfl⟩ rfl)) (ops5_16 _ _ ⟨rfl, rfl, rfl⟩ rfl)) ?_
        intro vs Rs f' S' hp hf hx hS hR
        obtain ⟨hv2, hR2⟩ := (spe rfl hs5_2 (hp 2 (by kernel_rfl)))
        obtain ⟨hv5, hR5⟩ := (spe rfl hs5_5 (hp 5 (by kernel_rfl)))
        obtain ⟨x18, hv10, hR10⟩ := (spe rfl hs5_10 (hp 10 (by kernel_rfl)))
        obtain ⟨hv12, hR12⟩ := (spe rfl hs5_12 (hp 12 (by kernel_rfl)))
        obtain ⟨hv16, hR16⟩ := (spe rfl hs5_16 (hp 16 (by kernel_rfl)))
        refine ls_fr (F := upd (upd (upd (upd (upd (upd (upd f' 0 (.pointer (some ⟨pg0, 0, none⟩))) 1 (.int .i64 a1)) 8 (.int .i64 t1)) 23 (.bool (decide (t1 < (0 : Int))))) 26 (.bool (!a2))) 33 (.int .i64 (IntKind.wrap .i64 (t16 - a1)))) 37 (.int .i64 v0.2.2.1)) (fr_next (fr_next (fr_next (fr_next (fr_next (fr_next (fr_next (rfl) ((hx 0 (by kernel_rfl)).trans (by kernel_rfl : (_ : Value) = .pointer (some ⟨pg0, 0, none⟩)))) ((hx 1 (by kernel_rfl)).trans (by kernel_rfl : (_ : Value) = .int .i64 a1))) ((hx 8 (by kernel_rfl)).trans (by kernel_rfl : (_ : Value) = .int .i64 t1))) ((hf 2 23 (by kernel_rfl) rfl).trans hv2)) ((hf 5 26 (by kernel_rfl) rfl).trans hv5)) ((hf 12 33 (by kernel_rfl) rfl).trans hv12)) ((hf 16 37 (by kernel_rfl) rfl).trans hv16)) ?_
        refine ls_sub (sput (sput (sput s0 0 (some (Ck.var 66 pg0 ((([Value.int .i64 v0.1.1] ++ [Value.int .i64 v0.1.2]) ++ ([Value.bool v0.2.1] ++ ([Value.int .i64 v0.2.2.1] ++ ([Value.slice A0_3 v0.2.2.2.1.length c0_3] ++ ([Value.map (some r0_4)] ++ [Value.slice A0_5 v0.2.2.2.2.2.length c0_5]))))))))) 1 (some (Ck.m1 r0_4 w0_4.1 A0_4 w0_4.2.length c0_4))) 2 (some (Ck.sl T24 A0_4 c0_4 w0_4.2))) (sub_put ((hS 2 (by kernel_rfl)).trans (by exact rfl)) (sub_put ((hS 1 (by kernel_rfl)).trans (by exact rfl)) (sub_put ((hS 0 (by kernel_rfl)).trans (by exact rfl)) (sub_nil _)))) ?_
        refine ls_know (c := true) (congrArg Bool.not (Bool.eq_false_iff.mpr q7)) 26 (by kernel_rfl) ?_
        refine ls_on (j := 5) (t := 26) (b := true) rfl rfl (by kernel_rfl) (by kernel_rfl) ?_
        refine ls_val (v := .bool (decide ((IntKind.wrap .i64 (t16 - a1)) < v0.2.2.1))) rfl rfl (by kernel_rfl) (fun w => by kernel_rfl) ?_
        refine ls_know (c := false) (dec_f q6) 23 (by kernel_rfl) ?_
        refine ls_on (j := 2) (t := 23) (b := false) rfl rfl (by kernel_rfl) (by kernel_rfl) ?_
        refine ls_val (v := .bool (decide ((IntKind.wrap .i64 (t16 - a1)) < v0.2.2.1))) rfl rfl (by kernel_rfl) (fun w => by kernel_rfl) ?_
        refine ls_val (v := .bool (decide ((IntKind.wrap .i64 (t16 - a1)) < v0.2.2.1))) rfl rfl (by kernel_rfl) (fun w => by kernel_rfl) ?_
        refine ls_end ?_
        refine qn_then ?_
        by_cases q19 : (IntKind.wrap .i64 (t16 - a1)) < v0.2.2.1
        · replace H := ite_t q19 H
          refine cs_know (c := true) (dec_t q19) 40 (by kernel_rfl) ?_
          refine cs_true (by kernel_rfl) ?_
          refine cs_seq ?_
          refine cs_region (l := [_, _]) ?_
          refine ls_val (v := .int .i64 (0 : Int)) rfl rfl (by kernel_rfl) (fun w => by kernel_rfl) ?_
          refine ls_val (v := .int .i64 (15 : Int)) rfl rfl (by kernel_rfl) (fun w => by kernel_rfl) ?_
          refine ls_end ?_
          refine qn_then ?_
          refine cs_ret' ?_
          refine qr_then ?_
          obtain rfl := Option.some.inj H
          refine qr_res (rs := [_, _]) rfl (fun w' hs => ⟨[.int .i64 (0 : Int), .int .i64 (15 : Int)], (res_tmp (by kernel_rfl) (res_tmp (by kernel_rfl) (.nil))), b, (Bs.le.refl b), ((A0_3, c0_3), (A0_5, c0_5)), rfl, ⟨⟨R0_3, C0_3⟩, ⟨R0_5, C0_5⟩⟩, hs.pick (ts := [0, 1, 2]) (cs := [Ck.var 66 pg0 ((([Value.int .i64 v0.1.1] ++ [Value.int .i64 v0.1.2]) ++ ([Value.bool v0.2.1] ++ ([Value.int .i64 v0.2.2.1] ++ ([Value.slice A0_3 v0.2.2.2.1.length c0_3] ++ ([Value.map (some r0_4)] ++ [Value.slice A0_5 v0.2.2.2.2.2.length c0_5])))))), Ck.m1 r0_4 w0_4.1 A0_4 w0_4.2.length c0_4, Ck.sl T24 A0_4 c0_4 w0_4.2]) ⟨by exact rfl, by exact rfl, by exact rfl, trivial⟩ (by decide)⟩)
        · replace H := ite_f q19 H
          refine cs_know (c := false) (dec_f q19) 40 (by kernel_rfl) ?_
          refine cs_false (by kernel_rfl) ?_
          refine cs_skip' ?_
          refine qn_then ?_
          refine cs_seq ?_
          refine cs_region (l := [_, _, _, _, _, _, _, _, _, _, _, _, _, _]) ?_
          refine ls_val (v := .pointer (some ⟨pg0, 0, none⟩)) rfl rfl (by kernel_rfl) (fun w => by kernel_rfl) ?_
          refine ls_val (v := .pointer (some ⟨pg0, 0, none⟩)) rfl rfl (by kernel_rfl) (fun w => by kernel_rfl) ?_
          refine ls_val (v := .pointer (some ⟨pg0, 0, none⟩)) rfl rfl (by kernel_rfl) (fun w => by kernel_rfl) ?_
          refine ls_val (v := .pointer (some ⟨pg0, (0 + 4), none⟩)) rfl rfl (by kernel_rfl) (fun w => by kernel_rfl) ?_
          refine ls_load (a0 := ⟨pg0, (0 + 4), none⟩) (v := .slice A0_3 v0.2.2.2.1.length c0_3) (de := (TypeDesc.slice 24)) rfl rfl (by kernel_rfl) rfl (by kernel_rfl) (by kernel_rfl) (by kernel_rfl) (fun w hs => (hs.var (k := 0) (by exact rfl) (Sub4.trans (Sub4.all _) (Sub4.skip (n := 2) (len_app (len1 _) (len1 _)) (Sub4.skip (n := 1) (len1 _) (Sub4.skip (n := 1) (len1 _) (Sub4.head _ _))))))) ?_
          refine ls_val (v := .int .i64 t1) rfl rfl (by kernel_rfl) (fun w => by kernel_rfl) ?_
          refine ls_val (v := .int .i64 t1) rfl rfl (by kernel_rfl) (fun w => by kernel_rfl) ?_
          refine ls_val (v := .int .i64 a1) rfl rfl (by kernel_rfl) (fun w => by kernel_rfl) ?_
          refine ls_val (v := .int .i64 (IntKind.wrap .i64 (t1 + a1))) rfl rfl (by kernel_rfl) (fun w => by kernel_rfl) ?_
          refine ls_val (v := .agg ⟨([Value.int .i64 t1] ++ [Value.int .i64 (IntKind.wrap .i64 (t1 + a1))])⟩) rfl rfl (by kernel_rfl) (fun w => by kernel_rfl) ?_
          obtain ⟨t20, hc21, H⟩ := bind_some H
          refine ls_callb (fid := 15) (vals := #[.slice A0_3 v0.2.2.2.1.length c0_3, .agg ⟨([Value.int .i64 t1] ++ [Value.int .i64 (IntKind.wrap .i64 (t1 + a1))])⟩]) (X := (Option Addr × Nat)) (fun x => .slice x.1 t20.length x.2) (fun x => stl [Ck.sl T24 x.1 x.2 t20]) [] [] [] [] 139 rfl rfl (by kernel_rfl) (fun w => by kernel_rfl) trivial trivial (by decide) (fun w hs hb => extent_Remove.calls k A0_3 c0_3 v0.2.2.2.1 (t1, IntKind.wrap .i64 (t1 + a1)) t20 (lent b w [] []) hb (hs.ro R0_3 _ _) C0_3 hc21) ?_
          intro x22
          refine ls_val (v := .pointer (some ⟨pg0, 0, none⟩)) rfl rfl (by kernel_rfl) (fun w => by kernel_rfl) ?_
          refine ls_val (v := .pointer (some ⟨pg0, (0 + 4), none⟩)) rfl rfl (by kernel_rfl) (fun w => by kernel_rfl) ?_
          refine ls_storec (g := pg0) (off := (0 + 4)) (v := .slice x22.1 t20.length x22.2) (vs := [Value.slice x22.1 t20.length x22.2]) (cs := (([Value.int .i64 v0.1.1] ++ [Value.int .i64 v0.1.2]) ++ ([Value.bool v0.2.1] ++ ([Value.int .i64 v0.2.2.1] ++ ([Value.slice A0_3 v0.2.2.2.1.length c0_3] ++ ([Value.map (some r0_4)] ++ [Value.slice A0_5 v0.2.2.2.2.2.length c0_5])))))) (ty := 66) 0 rfl rfl rfl (by kernel_rfl) (by kernel_rfl) (by kernel_rfl) (by exact rfl) (by kernel_rfl) (len1 _) (one_cons rfl one_nil) (hl_of (Sub4.trans (Sub4.all _) (Sub4.skip (n := 2) (len_app (len1 _) (len1 _)) (Sub4.skip (n := 1) (len1 _) (Sub4.skip (n := 1) (len1 _) (Sub4.head _ _))))) (len_eq (len1 _) (len1 _))) (cs' := (([Value.int .i64 v0.1.1] ++ [Value.int .i64 v0.1.2]) ++ ([Value.bool v0.2.1] ++ ([Value.int .i64 v0.2.2.1] ++ ([Value.slice x22.1 t20.length x22.2] ++ ([Value.map (some r0_4)] ++ [Value.slice A0_5 v0.2.2.2.2.2.length c0_5])))))) (splc_in (Sub4.all _) (splc_skip (n := 2) (len_app (len1 _) (len1 _)) (splc_skip (n := 1) (len1 _) (splc_skip (n := 1) (len1 _) (splc_head (len_eq (len1 _) (len1 _)))))) (splc_all (len_eq (len_app (len_app (len1 _) (len1 _)) (len_app (len1 _) (len_app (len1 _) (len_app (len1 _) (len_app (len1 _) (len1 _)))))) (len_app (len_app (len1 _) (len1 _)) (len_app (len1 _) (len_app (len1 _) (len_app (len1 _) (len_app (len1 _) (len1 _)))))))) (hl_of (Sub4.skip (n := 2) (len_app (len1 _) (len1 _)) (Sub4.skip (n := 1) (len1 _) (Sub4.skip (n := 1) (len1 _) (Sub4.head _ _)))) (len_eq (len1 _) (len1 _)))) ?_
          refine ls_end ?_
          refine qn_then ?_
          refine cs_seq ?_
          refine cs_region (l := [_, _, _]) ?_
          refine ls_val (v := .int .i64 t1) rfl rfl (by kernel_rfl) (fun w => by kernel_rfl) ?_
          refine ls_val (v := .int .i64 t1) rfl rfl (by kernel_rfl) (fun w => by kernel_rfl) ?_
          refine ls_val (v := .int .i64 (0 : Int)) rfl rfl (by kernel_rfl) (fun w => by kernel_rfl) ?_
          refine ls_end ?_
          refine qn_then ?_
          refine cs_ret' ?_
          refine qr_freeze (T := T24) (A := x22.1) (c := x22.2) (l := t20) 139 (by exact rfl) ?_
          intro bs23 hle24 hok25 fR26 fC27
          obtain rfl := Option.some.inj H
          refine qr_res (rs := [_, _]) rfl (fun w' hs => ⟨[.int .i64 t1, .int .i64 (0 : Int)], (res_tmp (by kernel_rfl) (res_tmp (by kernel_rfl) (.nil))), bs23, hle24, ((x22.1, x22.2), (A0_5, c0_5)), rfl, ⟨⟨fR26, fC27⟩, ⟨(Ro.mono hok25 hle24 R0_5), C0_5⟩⟩, hs.pick (ts := [0, 1, 2]) (cs := [Ck.var 66 pg0 ((([Value.int .i64 v0.1.1] ++ [Value.int .i64 v0.1.2]) ++ ([Value.bool v0.2.1] ++ ([Value.int .i64 v0.2.2.1] ++ ([Value.slice x22.1 t20.length x22.2] ++ ([Value.map (some r0_4)] ++ [Value.slice A0_5 v0.2.2.2.2.2.length c0_5])))))), Ck.m1 r0_4 w0_4.1 A0_4 w0_4.2.length c0_4, Ck.sl T24 A0_4 c0_4 w0_4.2]) ⟨by exact rfl, by exact rfl, by exact rfl, trivial⟩ (by decide)⟩)

/-! ### (*shadowbox/alloc.Alloc).Free: function 32 -/
def alloc_Alloc_Free.f (k : Nat) (v0 : ((Int × Int) × Bool × Int × (List (Int × Int)) × Unit × (List (Int × Int)))) (w0_4 : (Bool × (List (Int × Int)))) : Option (Int) :=
  (alloc_Alloc_none.f k (v0.1, v0.2.1, v0.2.2.1, v0.2.2.2.1, (), v0.2.2.2.2.2) (w0_4.1, w0_4.2)).bind fun t1 => (if t1 = true then some (0 : Int) else (extent_Total.f k v0.2.2.2.1).bind fun t5 => some t5)
set_option maxRecDepth 100000 in
set_option maxHeartbeats 4000000 in
theorem alloc_Alloc_Free.calls (k : Nat) (pg0 : Nat) (A0_3 : Option Addr) (c0_3 : Nat) (r0_4 : Nat) (A0_5 : Option Addr) (c0_5 : Nat) (v0 : ((Int × Int) × Bool × Int × (List (Int × Int)) × Unit × (List (Int × Int)))) (A0_4 : Option Addr) (c0_4 : Nat) (w0_4 : (Bool × (List (Int × Int)))) (r : Int) (b : Bs) (hs0 : St b (stl [Ck.var 66 pg0 ((([Value.int .i64 v0.1.1] ++ [Value.int .i64 v0.1.2]) ++ ([Value.bool v0.2.1] ++ ([Value.int .i64 v0.2.2.1] ++ ([Value.slice A0_3 v0.2.2.2.1.length c0_3] ++ ([Value.map (some r0_4)] ++ [Value.slice A0_5 v0.2.2.2.2.2.length c0_5])))))), Ck.m1 r0_4 w0_4.1 A0_4 w0_4.2.length c0_4, Ck.sl T24 A0_4 c0_4 w0_4.2]) b.w) (R0_3 : Ro b A0_3 (em T24 v0.2.2.2.1)) (C0_3 : v0.2.2.2.1.length ≤ c0_3) (R0_5 : Ro b A0_5 (em T24 v0.2.2.2.2.2)) (C0_5 : v0.2.2.2.2.2.length ≤ c0_5) (H : alloc_Alloc_Free.f k v0 w0_4 = some r) :
    Calls Try.prog 32 #[.pointer (some ⟨pg0, 0, none⟩)] b.w fun e w' => ∃ x : Unit, e = .returned (.int .i64 r) ∧ St b (stl [Ck.var 66 pg0 ((([Value.int .i64 v0.1.1] ++ [Value.int .i64 v0.1.2]) ++ ([Value.bool v0.2.1] ++ ([Value.int .i64 v0.2.2.1] ++ ([Value.slice A0_3 v0.2.2.2.1.length c0_3] ++ ([Value.map (some r0_4)] ++ [Value.slice A0_5 v0.2.2.2.2.2.length c0_5])))))), Ck.m1 r0_4 w0_4.1 A0_4 w0_4.2.length c0_4, Ck.sl T24 A0_4 c0_4 w0_4.2]) w' := by
  unfold alloc_Alloc_Free.f at H
  refine enterb (n := 10) Try.func32 rfl (by kernel_rfl) (by kernel_rfl) hs0 ?_
  refine cs_sub (sput (sput (sput s0 0 (some (Ck.var 66 pg0 ((([Value.int .i64 v0.1.1] ++ [Value.int .i64 v0.1.2]) ++ ([Value.bool v0.2.1] ++ ([Value.int .i64 v0.2.2.1] ++ ([Value.slice A0_3 v0.2.2.2.1.length c0_3] ++ ([Value.map (some r0_4)] ++ [Value.slice A0_5 v0.2.2.2.2.2.length c0_5]))))))))) 1 (some (Ck.m1 r0_4 w0_4.1 A0_4 w0_4.2.length c0_4))) 2 (some (Ck.sl T24 A0_4 c0_4 w0_4.2))) (sub_put (by exact rfl) (sub_put (by exact rfl) (sub_put (by exact rfl) (sub_nil _)))) ?_
  refine cs_seq ?_
  refine cs_region (l := [_]) ?_
  refine ls_val (v := .int .i64 (0 : Int)) rfl rfl (by kernel_rfl) (fun w => by kernel_rfl) ?_
  refine ls_end ?_
  refine qn_then ?_
  refine cs_seq ?_
  refine cs_seq ?_
  refine cs_region (l := [_, _]) ?_
  refine ls_val (v := .pointer (some ⟨pg0, 0, none⟩)) rfl rfl (by kernel_rfl) (fun w => by kernel_rfl) ?_
  obtain ⟨t1, hc2, H⟩ := bind_some H
  refine ls_callb (fid := 48) (vals := #[.pointer (some ⟨pg0, 0, none⟩)]) (X := Unit) (fun x => .bool t1) (fun x => stl [Ck.var 66 pg0 ((([Value.int .i64 v0.1.1] ++ [Value.int .i64 v0.1.2]) ++ ([Value.bool v0.2.1] ++ ([Value.int .i64 v0.2.2.1] ++ ([Value.slice A0_3 v0.2.2.2.1.length c0_3] ++ ([Value.map (some r0_4)] ++ [Value.slice A0_5 v0.2.2.2.2.2.length c0_5])))))), Ck.m1 r0_4 w0_4.1 A0_4 w0_4.2.length c0_4, Ck.sl T24 A0_4 c0_4 w0_4.2]) [0, 1, 2] [] [Ck.var 66 pg0 ((([Value.int .i64 v0.1.1] ++ [Value.int .i64 v0.1.2]) ++ ([Value.bool v0.2.1] ++ ([Value.int .i64 v0.2.2.1] ++ ([Value.slice A0_3 v0.2.2.2.1.length c0_3] ++ ([Value.map (some r0_4)] ++ [Value.slice A0_5 v0.2.2.2.2.2.length c0_5])))))), Ck.m1 r0_4 w0_4.1 A0_4 w0_4.2.length c0_4, Ck.sl T24 A0_4 c0_4 w0_4.2] [] 3 rfl rfl (by kernel_rfl) (fun w => by kernel_rfl) ⟨by exact rfl, by exact rfl, by exact rfl, trivial⟩ trivial (by decide) (fun w hs hb => alloc_Alloc_none.calls k pg0 A0_3 c0_3 r0_4 A0_5 c0_5 (v0.1, v0.2.1, v0.2.2.1, v0.2.2.2.1, (), v0.2.2.2.2.2) A0_4 c0_4 (w0_4.1, w0_4.2) t1 (lent b w [Ck.var 66 pg0 ((([Value.int .i64 v0.1.1] ++ [Value.int .i64 v0.1.2]) ++ ([Value.bool v0.2.1] ++ ([Value.int .i64 v0.2.2.1] ++ ([Value.slice A0_3 v0.2.2.2.1.length c0_3] ++ ([Value.map (some r0_4)] ++ [Value.slice A0_5 v0.2.2.2.2.2.length c0_5])))))), Ck.m1 r0_4 w0_4.1 A0_4 w0_4.2.length c0_4, Ck.sl T24 A0_4 c0_4 w0_4.2] []) hb (hs.ro R0_3 _ _) C0_3 (hs.ro R0_5 _ _) C0_5 hc2) ?_
  intro x3
  refine ls_end ?_
  refine qn_then ?_
  by_cases q4 : t1 = true
  · replace H := ite_t q4 H
    refine cs_know (c := true) (q4) 4 (by kernel_rfl) ?_
    refine cs_true (by kernel_rfl) ?_
    refine cs_seq ?_
    refine cs_region (l := [_]) ?_
    refine ls_val (v := .int .i64 (0 : Int)) rfl rfl (by kernel_rfl) (fun w => by kernel_rfl) ?_
    refine ls_end ?_
    refine qn_then ?_
    refine cs_ret' ?_
    refine qr_then ?_
    obtain rfl := Option.some.inj H
    refine qr_res (rs := [_]) rfl (fun w' hs => ⟨[.int .i64 (0 : Int)], (res_tmp (by kernel_rfl) (.nil)), (), rfl, hs.pick (ts := [0, 1, 2]) (cs := [Ck.var 66 pg0 ((([Value.int .i64 v0.1.1] ++ [Value.int .i64 v0.1.2]) ++ ([Value.bool v0.2.1] ++ ([Value.int .i64 v0.2.2.1] ++ ([Value.slice A0_3 v0.2.2.2.1.length c0_3] ++ ([Value.map (some r0_4)] ++ [Value.slice A0_5 v0.2.2.2.2.2.length c0_5])))))), Ck.m1 r0_4 w0_4.1 A0_4 w0_4.2.length c0_4, Ck.sl T24 A0_4 c0_4 w0_4.2]) ⟨by exact rfl, by exact rfl, by exact rfl, trivial⟩ (by decide)⟩)
  · replace H := ite_f q4 H
    refine cs_know (c := false) (Bool.eq_false_iff.mpr q4) 4 (by kernel_rfl) ?_
    refine cs_false (by kernel_rfl) ?_
    refine cs_skip' ?_
    refine qn_then ?_
    refine cs_seq ?_
    refine cs_region (l := [_, _, _, _, _, _]) ?_
    refine ls_val (v := .pointer (some ⟨pg0, 0, none⟩)) rfl rfl (by kernel_rfl) (fun w => by kernel_rfl) ?_
    refine ls_val (v := .pointer (some ⟨pg0, 0, none⟩)) rfl rfl (by kernel_rfl) (fun w => by kernel_rfl) ?_
    refine ls_val (v := .pointer (some ⟨pg0, (0 + 4), none⟩)) rfl rfl (by kernel_rfl) (fun w => by kernel_rfl) ?_
    refine ls_load (a0 := ⟨pg0, (0 + 4), none⟩) (v := .slice A0_3 v0.2.2.2.1.length c0_3) (de := (TypeDesc.slice 24)) rfl rfl (by kernel_rfl) rfl (by kernel_rfl) (by kernel_rfl) (by kernel_rfl) (fun w hs => (hs.var (k := 0) (by exact rfl) (Sub4.trans (Sub4.all _) (Sub4.skip (n := 2) (len_app (len1 _) (len1 _)) (Sub4.skip (n := 1) (len1 _) (Sub4.skip (n := 1) (len1 _) (Sub4.head _ _))))))) ?_
    obtain ⟨t5, hc6, H⟩ := bind_some H
    refine ls_callb (fid := 14) (vals := #[.slice A0_3 v0.2.2.2.1.length c0_3]) (X := Unit) (fun x => .int .i64 t5) (fun x => stl []) [] [] [] [] 3 rfl rfl (by kernel_rfl) (fun w => by kernel_rfl) trivial trivial (by decide) (fun w hs hb => extent_Total.calls k A0_3 c0_3 v0.2.2.2.1 t5 (lent b w [] []) hb (hs.ro R0_3 _ _) C0_3 hc6) ?_
    intro x7
    refine ls_val (v := .int .i64 t5) rfl rfl (by kernel_rfl) (fun w => by kernel_rfl) ?_
    refine ls_end ?_
    refine qn_then ?_
    refine cs_ret' ?_
    obtain rfl := Option.some.inj H
    refine qr_res (rs := [_]) rfl (fun w' hs => ⟨[.int .i64 t5], (res_tmp (by kernel_rfl) (.nil)), (), rfl, hs.pick (ts := [0, 1, 2]) (cs := [Ck.var 66 pg0 ((([Value.int .i64 v0.1.1] ++ [Value.int .i64 v0.1.2]) ++ ([Value.bool v0.2.1] ++ ([Value.int .i64 v0.2.2.1] ++ ([Value.slice A0_3 v0.2.2.2.1.length c0_3] ++ ([Value.map (some r0_4)] ++ [Value.slice A0_5 v0.2.2.2.2.2.length c0_5])))))), Ck.m1 r0_4 w0_4.1 A0_4 w0_4.2.length c0_4, Ck.sl T24 A0_4 c0_4 w0_4.2]) ⟨by exact rfl, by exact rfl, by exact rfl, trivial⟩ (by decide)⟩)

/-! ### (*shadowbox/alloc.Alloc).waiting: function 50 -/
def alloc_Alloc_waiting.lo1 (w0_4 : (Bool × (List (Int × Int)))) : Nat → (List (Int × Int)) → Int → Option ((List (Int × Int)) × (Bool × (List (Int × Int))))
  | 0, _, _ => none
  | k1 + 1, l3_1, x19_1 => (if x19_1 < (w0_4.2.length : Int) then (if 0 ≤ x19_1 then (extent_Add.f k1 l3_1 ((w0_4.2).getD (x19_1).toNat ((0 : Int), (0 : Int)))).bind fun t12 => (alloc_Alloc_waiting.lo1 w0_4 k1) t12 (IntKind.wrap .i64 (x19_1 + (1 : Int))) else none) else some (l3_1, (true, w0_4.2)))
def alloc_Alloc_waiting.f (k : Nat) (v0 : ((Int × Int) × Bool × Int × (List (Int × Int)) × Unit × (List (Int × Int)))) (w0_4 : (Bool × (List (Int × Int)))) : Option ((List (Int × Int)) × (Bool × (List (Int × Int)))) :=
  (if w0_4.1 = true then alloc_Alloc_waiting.lo1 w0_4 k ([] : List (Int × Int)) (0 : Int) else some (([] : List (Int × Int)), (false, w0_4.2)))
set_option maxRecDepth 100000 in
set_option maxHeartbeats 4000000 in
theorem alloc_Alloc_waiting.calls (k : Nat) (pg0 : Nat) (A0_3 : Option Addr) (c0_3 : Nat) (r0_4 : Nat) (A0_5 : Option Addr) (c0_5 : Nat) (v0 : ((Int × Int) × Bool × Int × (List (Int × Int)) × Unit × (List (Int × Int)))) (A0_4 : Option Addr) (c0_4 : Nat) (w0_4 : (Bool × (List (Int × Int)))) (r : (List (Int × Int)) × (Bool × (List (Int × Int)))) (b : Bs) (hs0 : St b (stl [Ck.var 66 pg0 ((([Value.int .i64 v0.1.1] ++ [Value.int .i64 v0.1.2]) ++ ([Value.bool v0.2.1] ++ ([Value.int .i64 v0.2.2.1] ++ ([Value.slice A0_3 v0.2.2.2.1.length c0_3] ++ ([Value.map (some r0_4)] ++ [Value.slice A0_5 v0.2.2.2.2.2.length c0_5])))))), Ck.m1 r0_4 w0_4.1 A0_4 w0_4.2.length c0_4, Ck.sl T24 A0_4 c0_4 w0_4.2]) b.w) (R0_3 : Ro b A0_3 (em T24 v0.2.2.2.1)) (C0_3 : v0.2.2.2.1.length ≤ c0_3) (R0_5 : Ro b A0_5 (em T24 v0.2.2.2.2.2)) (C0_5 : v0.2.2.2.2.2.length ≤ c0_5) (H : alloc_Alloc_waiting.f k v0 w0_4 = some r) :
    Calls Try.prog 50 #[.pointer (some ⟨pg0, 0, none⟩)] b.w fun e w' => ∃ x : (Option Addr × Nat) × (Option Addr × Nat), e = .returned (.slice x.1.1 r.1.length x.1.2) ∧ St b (stl [Ck.var 66 pg0 ((([Value.int .i64 v0.1.1] ++ [Value.int .i64 v0.1.2]) ++ ([Value.bool v0.2.1] ++ ([Value.int .i64 v0.2.2.1] ++ ([Value.slice A0_3 v0.2.2.2.1.length c0_3] ++ ([Value.map (some r0_4)] ++ [Value.slice A0_5 v0.2.2.2.2.2.length c0_5])))))), Ck.m1 r0_4 r.2.1 x.2.1 r.2.2.length x.2.2, Ck.sl T24 x.2.1 x.2.2 r.2.2, Ck.ro T24 x.1.1 x.1.2 r.1]) w' := by
  unfold alloc_Alloc_waiting.f at H
  refine enterb (n := 28) Try.func50 rfl (by kernel_rfl) (by kernel_rfl) hs0 ?_
  refine cs_sub (sput (sput (sput s0 0 (some (Ck.var 66 pg0 ((([Value.int .i64 v0.1.1] ++ [Value.int .i64 v0.1.2]) ++ ([Value.bool v0.2.1] ++ ([Value.int .i64 v0.2.2.1] ++ ([Value.slice A0_3 v0.2.2.2.1.length c0_3] ++ ([Value.map (some r0_4)] ++ [Value.slice A0_5 v0.2.2.2.2.2.length c0_5]))))))))) 1 (some (Ck.m1 r0_4 w0_4.1 A0_4 w0_4.2.length c0_4))) 2 (some (Ck.sl T24 A0_4 c0_4 w0_4.2))) (sub_put (by exact rfl) (sub_put (by exact rfl) (sub_put (by exact rfl) (sub_nil _)))) ?_
  refine cs_seq ?_
  refine cs_region (l := [_]) ?_
  refine ls_val (v := .slice none 0 0) rfl rfl (by kernel_rfl) (fun w => by kernel_rfl) ?_
  refine ls_end ?_
  refine qn_then ?_
  refine cs_seq ?_
  refine cs_region (l := [_]) ?_
  refine ls_val (v := .slice none 0 0) rfl rfl (by kernel_rfl) (fun w => by kernel_rfl) ?_
  refine ls_end ?_
  refine qn_then ?_
  refine cs_seq ?_
  refine cs_seq ?_
  refine cs_region (l := [_, _, _, _, _]) ?_
  refine ls_val (v := .pointer (some ⟨pg0, 0, none⟩)) rfl rfl (by kernel_rfl) (fun w => by kernel_rfl) ?_
  refine ls_val (v := .pointer (some ⟨pg0, 0, none⟩)) rfl rfl (by kernel_rfl) (fun w => by kernel_rfl) ?_
  refine ls_val (v := .pointer (some ⟨pg0, (0 + 5), none⟩)) rfl rfl (by kernel_rfl) (fun w => by kernel_rfl) ?_
  refine ls_load (a0 := ⟨pg0, (0 + 5), none⟩) (v := .map (some r0_4)) (de := (TypeDesc.map 3 22)) rfl rfl (by kernel_rfl) rfl (by kernel_rfl) (by kernel_rfl) (by kernel_rfl) (fun w hs => (hs.var (k := 0) (by exact rfl) (Sub4.trans (Sub4.all _) (Sub4.skip (n := 2) (len_app (len1 _) (len1 _)) (Sub4.skip (n := 1) (len1 _) (Sub4.skip (n := 1) (len1 _) (Sub4.skip (n := 1) (len1 _) (Sub4.head _ _)))))))) ?_
  refine ls_m1open (r := r0_4) (p := w0_4.1) (A := A0_4) (m := w0_4.2.length) (c := c0_4) 1 (by exact rfl) ?_
  intro bo1 cl2 hb3 hp4
  refine ls_m1range (r := r0_4) (p := w0_4.1) (A := A0_4) (m := w0_4.2.length) (c := c0_4) (kt := 3) (et := 22) (born := bo1) (clock := cl2) 1 3 rfl rfl (by kernel_rfl) rfl (by kernel_rfl) (by kernel_rfl) (by exact rfl) ?_
  intro g5
  refine ls_end ?_
  refine qn_then ?_
  refine cs_block ?_
  refine cs_rounds 3 ?_
  refine rs_succ ?_
  refine cs_seq ?_
  refine cs_region (l := [_, _]) ?_
  by_cases q6 : w0_4.1 = true
  · replace H := ite_t q6 H
    refine ls_m1xp (r := r0_4) (p := w0_4.1) (A := A0_4) (m := w0_4.2.length) (c := c0_4) (born := bo1) (clock := cl2) (p' := true) 1 q6 (by exact rfl) ?_
    refine ls_m1next (r := r0_4) (A := A0_4) (m := w0_4.2.length) (c := c0_4) (born := bo1) (clock := cl2) (g := g5) 1 3 rfl rfl (by kernel_rfl) rfl rfl (by kernel_rfl) (by exact rfl) (by exact rfl) (hb3 q6) ?_
    refine ls_val (v := .bool true) rfl rfl (by kernel_rfl) (fun w => by kernel_rfl) ?_
    refine ls_end ?_
    refine qn_then ?_
    refine cs_seq ?_
    refine cs_true (by kernel_rfl) ?_
    refine cs_skip' ?_
    refine qn_then ?_
    refine cs_block ?_
    refine cs_seq ?_
    refine cs_region (l := [_, _, _]) ?_
    refine ls_m1entry (r := r0_4) (A := A0_4) (m := w0_4.2.length) (c := c0_4) (born := bo1) (clock := cl2) (g := g5) 1 3 rfl rfl (by kernel_rfl) rfl (by kernel_rfl) (by exact rfl) (by exact rfl) ?_
    refine ls_val (v := .slice A0_4 w0_4.2.length c0_4) rfl rfl (by kernel_rfl) (fun w => by kernel_rfl) ?_
    refine ls_val (v := .slice A0_4 w0_4.2.length c0_4) rfl rfl (by kernel_rfl) (fun w => by kernel_rfl) ?_
    refine ls_end ?_
    refine qn_then ?_
    refine cs_seq ?_
    refine cs_region (l := [_, _, _]) ?_
    refine ls_val (v := .slice A0_4 w0_4.2.length c0_4) rfl rfl (by kernel_rfl) (fun w => by kernel_rfl) ?_
    refine ls_val (v := .int .i64 (w0_4.2.length : Int)) rfl rfl (by kernel_rfl) (fun w => by kernel_rfl) ?_
    refine ls_val (v := .int .i64 (0 : Int)) rfl rfl (by kernel_rfl) (fun w => by kernel_rfl) ?_
    refine ls_end ?_
    refine qn_then ?_
    refine cs_block ?_
    refine cs_nilro 4 T24 ?_
    refine cs_sub (sput (sput (sput (sput (sput s0 0 (some (Ck.var 66 pg0 ((([Value.int .i64 v0.1.1] ++ [Value.int .i64 v0.1.2]) ++ ([Value.bool v0.2.1] ++ ([Value.int .i64 v0.2.2.1] ++ ([Value.slice A0_3 v0.2.2.2.1.length c0_3] ++ ([Value.map (some r0_4)] ++ [Value.slice A0_5 v0.2.2.2.2.2.length c0_5]))))))))) 1 (some (Ck.m1x r0_4 true A0_4 w0_4.2.length c0_4 bo1 cl2))) 2 (some (Ck.sl T24 A0_4 c0_4 w0_4.2))) 3 (some (Ck.obj g5 (.mapIter (some r0_4) cl2 #[bo1] cl2)))) 4 (some (Ck.ro T24 none 0 ([] : List (Int × Int))))) (sub_put (by exact rfl) (sub_put (by exact rfl) (sub_put (by exact rfl) (sub_put (by exact rfl) (sub_put (by exact rfl) (sub_nil _)))))) ?_
    refine cs_loop (fun kk f S => ∃ (fR : Fr) (A3_1 : Option Addr) (c3_1 : Nat) (l3_1 : List (Int × Int)) (x19_1 : Int), f = upd (upd (upd (upd (upd fR 3 (.slice A3_1 l3_1.length c3_1)) 12 (.pointer (some ⟨g5, 0, none⟩))) 17 (.slice A0_4 w0_4.2.length c0_4)) 18 (.int .i64 (w0_4.2.length : Int))) 19 (.int .i64 x19_1) ∧ S = sput (sput (sput (sput (sput s0 0 (some (Ck.var 66 pg0 ((([Value.int .i64 v0.1.1] ++ [Value.int .i64 v0.1.2]) ++ ([Value.bool v0.2.1] ++ ([Value.int .i64 v0.2.2.1] ++ ([Value.slice A0_3 v0.2.2.2.1.length c0_3] ++ ([Value.map (some r0_4)] ++ [Value.slice A0_5 v0.2.2.2.2.2.length c0_5]))))))))) 1 (some (Ck.m1x r0_4 true A0_4 w0_4.2.length c0_4 bo1 cl2))) 2 (some (Ck.sl T24 A0_4 c0_4 w0_4.2))) 3 (some (Ck.obj g5 (.mapIter (some r0_4) cl2 #[bo1] cl2)))) 4 (some (Ck.ro T24 A3_1 c3_1 l3_1)) ∧ alloc_Alloc_waiting.lo1 w0_4 kk l3_1 x19_1 = some r) k ?_ ?_ ?_
    · exact ⟨_, none, 0, ([] : List (Int × Int)), (0 : Int), fr_next (fr_next (fr_next (fr_next (fr_next (rfl) (by kernel_rfl)) (by kernel_rfl)) (by kernel_rfl)) (by kernel_rfl)) (by kernel_rfl), rfl, H⟩
    · rintro f S ⟨fr1, A3_1, c3_1, l3_1, x19_1, rfl, rfl, H⟩; cases H
    · rintro k1 f S ⟨fr1, A3_1, c3_1, l3_1, x19_1, rfl, rfl, H⟩
      replace H : ((if x19_1 < (w0_4.2.length : Int) then (if 0 ≤ x19_1 then (extent_Add.f k1 l3_1 ((w0_4.2).getD (x19_1).toNat ((0 : Int), (0 : Int)))).bind fun t12 => (alloc_Alloc_waiting.lo1 w0_4 k1) t12 (IntKind.wrap .i64 (x19_1 + (1 : Int))) else none) else some (l3_1, (true, w0_4.2)))) = some r := H
      refine cs_seq ?_
      refine cs_region (l := [_]) ?_
      refine ls_val (v := .bool (decide (x19_1 < (w0_4.2.length : Int)))) rfl rfl (by kernel_rfl) (fun w => by kernel_rfl) ?_
      refine ls_end ?_
      refine qn_then ?_
      refine cs_seq ?_
      by_cases q7 : x19_1 < (w0_4.2.length : Int)
      · replace H := ite_t q7 H
        refine cs_know (c := true) (dec_t q7) 20 (by kernel_rfl) ?_
        refine cs_true (by kernel_rfl) ?_
        refine cs_skip' ?_
        refine qn_then ?_
        refine cs_seq ?_
        refine cs_block ?_
        refine cs_seq ?_
        refine cs_region (l := [_, _, _, _]) ?_
        obtain ⟨q8, H⟩ := ite_need H
        refine ls_at (T := T24) (tk := 2) (i := x19_1) (by exact rfl) q8 q7 ?_
        intro ad9 hA10
        refine ls_idxv T24 (A := A0_4) (c := c0_4) (l := w0_4.2) (k := .i64) (i := x19_1) (z := 2) (ad := ad9) rfl rfl (by kernel_rfl) hA10 rfl (by kernel_rfl) (by kernel_rfl) (by kernel_rfl) (by kernel_rfl) q8 q7 ?_
        refine ls_loadagg (a := (ad9.add ((x19_1).toNat * 2))) (sub := ([Value.int .i64 (((w0_4.2).getD (x19_1).toNat ((0 : Int), (0 : Int))).1)] ++ [Value.int .i64 (((w0_4.2).getD (x19_1).toNat ((0 : Int), (0 : Int))).2)])) rfl rfl (by kernel_rfl) rfl (by kernel_rfl) (by kernel_rfl) (by kernel_rfl) (len_app (len1 _) (len1 _)) (fun w hs => (hs.rd (k := 2) (by exact rfl)).part hA10 (em_sub T24 w0_4.2 (i := (x19_1).toNat) (by have h0 : (0 : Int) ≤ x19_1 := q8; have h1 : x19_1 < (w0_4.2.length : Int) := q7; omega))) ?_
        refine ls_new rfl rfl (by kernel_rfl) 5 (fun g => .pointer (some ⟨g, 0, none⟩)) (.cells ⟨([Value.int .i64 (0 : Int)] ++ [Value.int .i64 (0 : Int)])⟩ 24) (fun w => by kernel_rfl) ?_
        intro g11
        refine ls_storec (g := g11) (off := 0) (v := .agg ⟨([Value.int .i64 (((w0_4.2).getD (x19_1).toNat ((0 : Int), (0 : Int))).1)] ++ [Value.int .i64 (((w0_4.2).getD (x19_1).toNat ((0 : Int), (0 : Int))).2)])⟩) (vs := ([Value.int .i64 (((w0_4.2).getD (x19_1).toNat ((0 : Int), (0 : Int))).1)] ++ [Value.int .i64 (((w0_4.2).getD (x19_1).toNat ((0 : Int), (0 : Int))).2)])) (cs := ([Value.int .i64 (0 : Int)] ++ [Value.int .i64 (0 : Int)])) (ty := 24) 5 rfl rfl rfl (by kernel_rfl) (by kernel_rfl) (by kernel_rfl) (by exact rfl) (by kernel_rfl) (len_app (len1 _) (len1 _)) (one_app (one_cons rfl one_nil) (one_cons rfl one_nil)) (hl_of (Sub4.all _) (len_eq (len_app (len1 _) (len1 _)) (len_app (len1 _) (len1 _)))) (cs' := ([Value.int .i64 (((w0_4.2).getD (x19_1).toNat ((0 : Int), (0 : Int))).1)] ++ [Value.int .i64 (((w0_4.2).getD (x19_1).toNat ((0 : Int), (0 : Int))).2)])) (splc_all (len_eq (len_app (len1 _) (len1 _)) (len_app (len1 _) (len1 _)))) ?_
        refine ls_end ?_
        refine qn_then ?_
        refine cs_region (l := [_, _, _, _]) ?_
        refine ls_val (v := .slice A3_1 l3_1.length c3_1) rfl rfl (by kernel_rfl) (fun w => by kernel_rfl) ?_
        refine ls_loadagg (a := ⟨g11, 0, none⟩) (sub := ([Value.int .i64 (((w0_4.2).getD (x19_1).toNat ((0 : Int), (0 : Int))).1)] ++ [Value.int .i64 (((w0_4.2).getD (x19_1).toNat ((0 : Int), (0 : Int))).2)])) rfl rfl (by kernel_rfl) rfl (by kernel_rfl) (by kernel_rfl) (by kernel_rfl) (len_app (len1 _) (len1 _)) (fun w hs => (hs.vars (k := 5) (by exact rfl) (Sub4.all _))) ?_
        obtain ⟨t12, hc13, H⟩ := bind_some H
        refine ls_callb (fid := 13) (vals := #[.slice A3_1 l3_1.length c3_1, .agg ⟨([Value.int .i64 (((w0_4.2).getD (x19_1).toNat ((0 : Int), (0 : Int))).1)] ++ [Value.int .i64 (((w0_4.2).getD (x19_1).toNat ((0 : Int), (0 : Int))).2)])⟩]) (X := (Option Addr × Nat)) (fun x => .slice x.1 t12.length x.2) (fun x => stl [Ck.sl T24 x.1 x.2 t12]) [] [4] [] [Ck.ro T24 A3_1 c3_1 l3_1] 6 rfl rfl (by kernel_rfl) (fun w => by kernel_rfl) trivial ⟨by exact rfl, trivial⟩ (by decide) (fun w hs hb => extent_Add.calls k1 A3_1 c3_1 l3_1 ((w0_4.2).getD (x19_1).toNat ((0 : Int), (0 : Int))) t12 (lent b w [] [Ck.ro T24 A3_1 c3_1 l3_1]) hb (hs.roror (k := 4) (by exact rfl) (.head _)) (hs.rocap (k := 4) (by exact rfl)) hc13) ?_
        intro x14
        refine ls_val (v := .slice x14.1 t12.length x14.2) rfl rfl (by kernel_rfl) (fun w => by kernel_rfl) ?_
        refine ls_end ?_
        refine qn_block ?_
        refine qn_then ?_
        refine cs_region (l := [_, _]) ?_
        refine ls_val (v := .int .i64 (IntKind.wrap .i64 (x19_1 + (1 : Int)))) rfl rfl (by kernel_rfl) (fun w => by kernel_rfl) ?_
        refine ls_val (v := .int .i64 (IntKind.wrap .i64 (x19_1 + (1 : Int)))) rfl rfl (by kernel_rfl) (fun w => by kernel_rfl) ?_
        refine ls_end ?_
        refine qn_toro (T := T24) (A := x14.1) (c := x14.2) (l := t12) 6 4 (by exact rfl) ?_
        refine qn_again k1 (sput (sput (sput (sput (sput s0 0 (some (Ck.var 66 pg0 ((([Value.int .i64 v0.1.1] ++ [Value.int .i64 v0.1.2]) ++ ([Value.bool v0.2.1] ++ ([Value.int .i64 v0.2.2.1] ++ ([Value.slice A0_3 v0.2.2.2.1.length c0_3] ++ ([Value.map (some r0_4)] ++ [Value.slice A0_5 v0.2.2.2.2.2.length c0_5]))))))))) 1 (some (Ck.m1x r0_4 true A0_4 w0_4.2.length c0_4 bo1 cl2))) 2 (some (Ck.sl T24 A0_4 c0_4 w0_4.2))) 3 (some (Ck.obj g5 (.mapIter (some r0_4) cl2 #[bo1] cl2)))) 4 (some (Ck.ro T24 x14.1 x14.2 t12))) (Nat.le_refl _) ⟨_, x14.1, x14.2, t12, (IntKind.wrap .i64 (x19_1 + (1 : Int))), fr_next (fr_next (fr_next (fr_next (fr_next (rfl) (by kernel_rfl)) (by kernel_rfl)) (by kernel_rfl)) (by kernel_rfl)) (by kernel_rfl), rfl, H⟩ (sub_put (by exact rfl) (sub_put (by exact rfl) (sub_put (by exact rfl) (sub_put (by exact rfl) (sub_put (by exact rfl) (sub_nil _))))))
      · replace H := ite_f q7 H
        refine cs_know (c := false) (dec_f q7) 20 (by kernel_rfl) ?_
        refine cs_false (by kernel_rfl) ?_
        refine cs_exit' ?_
        refine qx_then ?_
        refine qx_then ?_
        refine qx_same ?_
        refine qn_block ?_
        refine qn_rounds ?_
        refine rs_succ ?_
        refine cs_seq ?_
        refine cs_region (l := [_, _]) ?_
        refine ls_m1over2 (r := r0_4) (p := true) (A := A0_4) (m := w0_4.2.length) (c := c0_4) (born := bo1) (clock := cl2) (g := g5) 1 3 rfl rfl (by kernel_rfl) rfl (by kernel_rfl) (by exact rfl) (by exact rfl) (hb3 q6) ?_
        refine ls_m1shut (r := r0_4) (p := true) (A := A0_4) (m := w0_4.2.length) (c := c0_4) (born := bo1) (clock := cl2) 1 (by exact rfl) (fun _ => (hb3 q6)) (fun h => by cases h) ?_
        refine ls_val (v := .bool false) rfl rfl (by kernel_rfl) (fun w => by kernel_rfl) ?_
        refine ls_end ?_
        refine qn_then ?_
        refine cs_seq ?_
        refine cs_false (by kernel_rfl) ?_
        refine cs_exit' ?_
        refine qx_then ?_
        refine qx_then ?_
        refine qx_same ?_
        refine qn_then ?_
        refine cs_seq ?_
        refine cs_region (l := [_, _]) ?_
        refine ls_val (v := .slice A3_1 l3_1.length c3_1) rfl rfl (by kernel_rfl) (fun w => by kernel_rfl) ?_
        refine ls_val (v := .slice A3_1 l3_1.length c3_1) rfl rfl (by kernel_rfl) (fun w => by kernel_rfl) ?_
        refine ls_end ?_
        refine qn_then ?_
        refine cs_ret' ?_
        obtain rfl := Option.some.inj H
        refine qr_res (rs := [_]) rfl (fun w' hs => ⟨[.slice A3_1 l3_1.length c3_1], (res_tmp (by kernel_rfl) (.nil)), ((A3_1, c3_1), (A0_4, c0_4)), rfl, hs.pick (ts := [0, 1, 2, 4]) (cs := [Ck.var 66 pg0 ((([Value.int .i64 v0.1.1] ++ [Value.int .i64 v0.1.2]) ++ ([Value.bool v0.2.1] ++ ([Value.int .i64 v0.2.2.1] ++ ([Value.slice A0_3 v0.2.2.2.1.length c0_3] ++ ([Value.map (some r0_4)] ++ [Value.slice A0_5 v0.2.2.2.2.2.length c0_5])))))), Ck.m1 r0_4 true A0_4 w0_4.2.length c0_4, Ck.sl T24 A0_4 c0_4 w0_4.2, Ck.ro T24 A3_1 c3_1 l3_1]) ⟨by exact rfl, by exact rfl, by exact rfl, by exact rfl, trivial⟩ (by decide)⟩)
  · replace H := ite_f q6 H
    refine ls_m1xp (r := r0_4) (p := w0_4.1) (A := A0_4) (m := w0_4.2.length) (c := c0_4) (born := bo1) (clock := cl2) (p' := false) 1 (Bool.eq_false_iff.mpr q6) (by exact rfl) ?_
    refine ls_m1over (r := r0_4) (A := A0_4) (m := w0_4.2.length) (c := c0_4) (born := bo1) (clock := cl2) (g := g5) 1 3 rfl rfl (by kernel_rfl) rfl (by kernel_rfl) (by exact rfl) (by exact rfl) ?_
    refine ls_m1shut (r := r0_4) (p := false) (A := A0_4) (m := w0_4.2.length) (c := c0_4) (born := bo1) (clock := cl2) 1 (by exact rfl) (fun h => by cases h) (fun _ => hp4 (Bool.eq_false_iff.mpr q6)) ?_
    refine ls_val (v := .bool false) rfl rfl (by kernel_rfl) (fun w => by kernel_rfl) ?_
    refine ls_end ?_
    refine qn_then ?_
    refine cs_seq ?_
    refine cs_false (by kernel_rfl) ?_
    refine cs_exit' ?_
    refine qx_then ?_
    refine qx_then ?_
    refine qx_same ?_
    refine qn_then ?_
    refine cs_seq ?_
    refine cs_region (l := [_, _]) ?_
    refine ls_val (v := .slice none 0 0) rfl rfl (by kernel_rfl) (fun w => by kernel_rfl) ?_
    refine ls_val (v := .slice none 0 0) rfl rfl (by kernel_rfl) (fun w => by kernel_rfl) ?_
    refine ls_end ?_
    refine qn_then ?_
    refine cs_ret' ?_
    refine qr_nilro 4 T24 ?_
    obtain rfl := Option.some.inj H
    refine qr_res (rs := [_]) rfl (fun w' hs => ⟨[.slice none 0 0], (res_tmp (by kernel_rfl) (.nil)), ((none, 0), (A0_4, c0_4)), rfl, hs.pick (ts := [0, 1, 2, 4]) (cs := [Ck.var 66 pg0 ((([Value.int .i64 v0.1.1] ++ [Value.int .i64 v0.1.2]) ++ ([Value.bool v0.2.1] ++ ([Value.int .i64 v0.2.2.1] ++ ([Value.slice A0_3 v0.2.2.2.1.length c0_3] ++ ([Value.map (some r0_4)] ++ [Value.slice A0_5 v0.2.2.2.2.2.length c0_5])))))), Ck.m1 r0_4 false A0_4 w0_4.2.length c0_4, Ck.sl T24 A0_4 c0_4 w0_4.2, Ck.ro T24 none 0 ([] : List (Int × Int))]) ⟨by exact rfl, by exact rfl, by exact rfl, by exact rfl, trivial⟩ (by decide)⟩)

/-! ### (*shadowbox/alloc.Alloc).Waiting: function 33 -/
def alloc_Alloc_Waiting.f (k : Nat) (v0 : ((Int × Int) × Bool × Int × (List (Int × Int)) × Unit × (List (Int × Int)))) (w0_4 : (Bool × (List (Int × Int)))) : Option (Int × (Bool × (List (Int × Int)))) :=
  (alloc_Alloc_none.f k (v0.1, v0.2.1, v0.2.2.1, v0.2.2.2.1, (), v0.2.2.2.2.2) (w0_4.1, w0_4.2)).bind fun t1 => (if t1 = true then some ((0 : Int), (w0_4.1, w0_4.2)) else (alloc_Alloc_waiting.f k (v0.1, v0.2.1, v0.2.2.1, v0.2.2.2.1, (), v0.2.2.2.2.2) (w0_4.1, w0_4.2)).bind fun t5 => (extent_Total.f k t5.1).bind fun t8 => some (t8, (t5.2.1, t5.2.2)))
set_option maxRecDepth 100000 in
set_option maxHeartbeats 4000000 in
theorem alloc_Alloc_Waiting.calls (k : Nat) (pg0 : Nat) (A0_3 : Option Addr) (c0_3 : Nat) (r0_4 : Nat) (A0_5 : Option Addr) (c0_5 : Nat) (v0 : ((Int × Int) × Bool × Int × (List (Int × Int)) × Unit × (List (Int × Int)))) (A0_4 : Option Addr) (c0_4 : Nat) (w0_4 : (Bool × (List (Int × Int)))) (r : Int × (Bool × (List (Int × Int)))) (b : Bs) (hs0 : St b (stl [Ck.var 66 pg0 ((([Value.int .i64 v0.1.1] ++ [Value.int .i64 v0.1.2]) ++ ([Value.bool v0.2.1] ++ ([Value.int .i64 v0.2.2.1] ++ ([Value.slice A0_3 v0.2.2.2.1.length c0_3] ++ ([Value.map (some r0_4)] ++ [Value.slice A0_5 v0.2.2.2.2.2.length c0_5])))))), Ck.m1 r0_4 w0_4.1 A0_4 w0_4.2.length c0_4, Ck.sl T24 A0_4 c0_4 w0_4.2]) b.w) (R0_3 : Ro b A0_3 (em T24 v0.2.2.2.1)) (C0_3 : v0.2.2.2.1.length ≤ c0_3) (R0_5 : Ro b A0_5 (em T24 v0.2.2.2.2.2)) (C0_5 : v0.2.2.2.2.2.length ≤ c0_5) (H : alloc_Alloc_Waiting.f k v0 w0_4 = some r) :
    Calls Try.prog 33 #[.pointer (some ⟨pg0, 0, none⟩)] b.w fun e w' => ∃ x : (Option Addr × Nat), e = .returned (.int .i64 r.1) ∧ St b (stl [Ck.var 66 pg0 ((([Value.int .i64 v0.1.1] ++ [Value.int .i64 v0.1.2]) ++ ([Value.bool v0.2.1] ++ ([Value.int .i64 v0.2.2.1] ++ ([Value.slice A0_3 v0.2.2.2.1.length c0_3] ++ ([Value.map (some r0_4)] ++ [Value.slice A0_5 v0.2.2.2.2.2.length c0_5])))))), Ck.m1 r0_4 r.2.1 x.1 r.2.2.length x.2, Ck.sl T24 x.1 x.2 r.2.2]) w' := by
  unfold alloc_Alloc_Waiting.f at H
  refine enterb (n := 8) Try.func33 rfl (by kernel_rfl) (by kernel_rfl) hs0 ?_
  refine cs_sub (sput (sput (sput s0 0 (some (Ck.var 66 pg0 ((([Value.int .i64 v0.1.1] ++ [Value.int .i64 v0.1.2]) ++ ([Value.bool v0.2.1] ++ ([Value.int .i64 v0.2.2.1] ++ ([Value.slice A0_3 v0.2.2.2.1.length c0_3] ++ ([Value.map (some r0_4)] ++ [Value.slice A0_5 v0.2.2.2.2.2.length c0_5]))))))))) 1 (some (Ck.m1 r0_4 w0_4.1 A0_4 w0_4.2.length c0_4))) 2 (some (Ck.sl T24 A0_4 c0_4 w0_4.2))) (sub_put (by exact rfl) (sub_put (by exact rfl) (sub_put (by exact rfl) (sub_nil _)))) ?_
  refine cs_seq ?_
  refine cs_region (l := [_]) ?_
  refine ls_val (v := .int .i64 (0 : Int)) rfl rfl (by kernel_rfl) (fun w => by kernel_rfl) ?_
  refine ls_end ?_
  refine qn_then ?_
  refine cs_seq ?_
  refine cs_seq ?_
  refine cs_region (l := [_, _]) ?_
  refine ls_val (v := .pointer (some ⟨pg0, 0, none⟩)) rfl rfl (by kernel_rfl) (fun w => by kernel_rfl) ?_
  obtain ⟨t1, hc2, H⟩ := bind_some H
  refine ls_callb (fid := 48) (vals := #[.pointer (some ⟨pg0, 0, none⟩)]) (X := Unit) (fun x => .bool t1) (fun x => stl [Ck.var 66 pg0 ((([Value.int .i64 v0.1.1] ++ [Value.int .i64 v0.1.2]) ++ ([Value.bool v0.2.1] ++ ([Value.int .i64 v0.2.2.1] ++ ([Value.slice A0_3 v0.2.2.2.1.length c0_3] ++ ([Value.map (some r0_4)] ++ [Value.slice A0_5 v0.2.2.2.2.2.length c0_5])))))), Ck.m1 r0_4 w0_4.1 A0_4 w0_4.2.length c0_4, Ck.sl T24 A0_4 c0_4 w0_4.2]) [0, 1, 2] [] [Ck.var 66 pg0 ((([Value.int .i64 v0.1.1] ++ [Value.int .i64 v0.1.2]) ++ ([Value.bool v0.2.1] ++ ([Value.int .i64 v0.2.2.1] ++ ([Value.slice A0_3 v0.2.2.2.1.length c0_3] ++ ([Value.map (some r0_4)] ++ [Value.slice A0_5 v0.2.2.2.2.2.length c0_5])))))), Ck.m1 r0_4 w0_4.1 A0_4 w0_4.2.length c0_4, Ck.sl T24 A0_4 c0_4 w0_4.2] [] 3 rfl rfl (by kernel_rfl) (fun w => by kernel_rfl) ⟨by exact rfl, by exact rfl, by exact rfl, trivial⟩ trivial (by decide) (fun w hs hb => alloc_Alloc_none.calls k pg0 A0_3 c0_3 r0_4 A0_5 c0_5 (v0.1, v0.2.1, v0.2.2.1, v0.2.2.2.1, (), v0.2.2.2.2.2) A0_4 c0_4 (w0_4.1, w0_4.2) t1 (lent b w [Ck.var 66 pg0 ((([Value.int .i64 v0.1.1] ++ [Value.int .i64 v0.1.2]) ++ ([Value.bool v0.2.1] ++ ([Value.int .i64 v0.2.2.1] ++ ([Value.slice A0_3 v0.2.2.2.1.length c0_3] ++ ([Value.map (some r0_4)] ++ [Value.slice A0_5 v0.2.2.2.2.2.length c0_5])))))), Ck.m1 r0_4 w0_4.1 A0_4 w0_4.2.length c0_4, Ck.sl T24 A0_4 c0_4 w0_4.2] []) hb (hs.ro R0_3 _ _) C0_3 (hs.ro R0_5 _ _) C0_5 hc2) ?_
  intro x3
  refine ls_end ?_
  refine qn_then ?_
  by_cases q4 : t1 = true
  · replace H := ite_t q4 H
    refine cs_know (c := true) (q4) 4 (by kernel_rfl) ?_
    refine cs_true (by kernel_rfl) ?_
    refine cs_seq ?_
    refine cs_region (l := [_]) ?_
    refine ls_val (v := .int .i64 (0 : Int)) rfl rfl (by kernel_rfl) (fun w => by kernel_rfl) ?_
    refine ls_end ?_
    refine qn_then ?_
    refine cs_ret' ?_
    refine qr_then ?_
    obtain rfl := Option.some.inj H
    refine qr_res (rs := [_]) rfl (fun w' hs => ⟨[.int .i64 (0 : Int)], (res_tmp (by kernel_rfl) (.nil)), (A0_4, c0_4), rfl, hs.pick (ts := [0, 1, 2]) (cs := [Ck.var 66 pg0 ((([Value.int .i64 v0.1.1] ++ [Value.int .i64 v0.1.2]) ++ ([Value.bool v0.2.1] ++ ([Value.int .i64 v0.2.2.1] ++ ([Value.slice A0_3 v0.2.2.2.1.length c0_3] ++ ([Value.map (some r0_4)] ++ [Value.slice A0_5 v0.2.2.2.2.2.length c0_5])))))), Ck.m1 r0_4 w0_4.1 A0_4 w0_4.2.length c0_4, Ck.sl T24 A0_4 c0_4 w0_4.2]) ⟨by exact rfl, by exact rfl, by exact rfl, trivial⟩ (by decide)⟩)
  · replace H := ite_f q4 H
    refine cs_know (c := false) (Bool.eq_false_iff.mpr q4) 4 (by kernel_rfl) ?_
    refine cs_false (by kernel_rfl) ?_
    refine cs_skip' ?_
    refine qn_then ?_
    refine cs_seq ?_
    refine cs_region (l := [_, _, _, _]) ?_
    refine ls_val (v := .pointer (some ⟨pg0, 0, none⟩)) rfl rfl (by kernel_rfl) (fun w => by kernel_rfl) ?_
    obtain ⟨t5, hc6, H⟩ := bind_some H
    refine ls_callb (fid := 50) (vals := #[.pointer (some ⟨pg0, 0, none⟩)]) (X := (Option Addr × Nat) × (Option Addr × Nat)) (fun x => .slice x.1.1 t5.1.length x.1.2) (fun x => stl [Ck.var 66 pg0 ((([Value.int .i64 v0.1.1] ++ [Value.int .i64 v0.1.2]) ++ ([Value.bool v0.2.1] ++ ([Value.int .i64 v0.2.2.1] ++ ([Value.slice A0_3 v0.2.2.2.1.length c0_3] ++ ([Value.map (some r0_4)] ++ [Value.slice A0_5 v0.2.2.2.2.2.length c0_5])))))), Ck.m1 r0_4 t5.2.1 x.2.1 t5.2.2.length x.2.2, Ck.sl T24 x.2.1 x.2.2 t5.2.2, Ck.ro T24 x.1.1 x.1.2 t5.1]) [0, 1, 2] [] [Ck.var 66 pg0 ((([Value.int .i64 v0.1.1] ++ [Value.int .i64 v0.1.2]) ++ ([Value.bool v0.2.1] ++ ([Value.int .i64 v0.2.2.1] ++ ([Value.slice A0_3 v0.2.2.2.1.length c0_3] ++ ([Value.map (some r0_4)] ++ [Value.slice A0_5 v0.2.2.2.2.2.length c0_5])))))), Ck.m1 r0_4 w0_4.1 A0_4 w0_4.2.length c0_4, Ck.sl T24 A0_4 c0_4 w0_4.2] [] 3 rfl rfl (by kernel_rfl) (fun w => by kernel_rfl) ⟨by exact rfl, by exact rfl, by exact rfl, trivial⟩ trivial (by decide) (fun w hs hb => alloc_Alloc_waiting.calls k pg0 A0_3 c0_3 r0_4 A0_5 c0_5 (v0.1, v0.2.1, v0.2.2.1, v0.2.2.2.1, (), v0.2.2.2.2.2) A0_4 c0_4 (w0_4.1, w0_4.2) t5 (lent b w [Ck.var 66 pg0 ((([Value.int .i64 v0.1.1] ++ [Value.int .i64 v0.1.2]) ++ ([Value.bool v0.2.1] ++ ([Value.int .i64 v0.2.2.1] ++ ([Value.slice A0_3 v0.2.2.2.1.length c0_3] ++ ([Value.map (some r0_4)] ++ [Value.slice A0_5 v0.2.2.2.2.2.length c0_5])))))), Ck.m1 r0_4 w0_4.1 A0_4 w0_4.2.length c0_4, Ck.sl T24 A0_4 c0_4 w0_4.2] []) hb (hs.ro R0_3 _ _) C0_3 (hs.ro R0_5 _ _) C0_5 hc6) ?_
    intro x7
    obtain ⟨t8, hc9, H⟩ := bind_some H
    refine ls_callb (fid := 14) (vals := #[.slice x7.1.1 t5.1.length x7.1.2]) (X := Unit) (fun x => .int .i64 t8) (fun x => stl []) [] [3] [] [Ck.ro T24 x7.1.1 x7.1.2 t5.1] 4 rfl rfl (by kernel_rfl) (fun w => by kernel_rfl) trivial ⟨by exact rfl, trivial⟩ (by decide) (fun w hs hb => extent_Total.calls k x7.1.1 x7.1.2 t5.1 t8 (lent b w [] [Ck.ro T24 x7.1.1 x7.1.2 t5.1]) hb (hs.roror (k := 3) (by exact rfl) (.head _)) (hs.rocap (k := 3) (by exact rfl)) hc9) ?_
    intro x10
    refine ls_val (v := .int .i64 t8) rfl rfl (by kernel_rfl) (fun w => by kernel_rfl) ?_
    refine ls_end ?_
    refine qn_then ?_
    refine cs_ret' ?_
    obtain rfl := Option.some.inj H
    refine qr_res (rs := [_]) rfl (fun w' hs => ⟨[.int .i64 t8], (res_tmp (by kernel_rfl) (.nil)), (x7.2.1, x7.2.2), rfl, hs.pick (ts := [0, 1, 2]) (cs := [Ck.var 66 pg0 ((([Value.int .i64 v0.1.1] ++ [Value.int .i64 v0.1.2]) ++ ([Value.bool v0.2.1] ++ ([Value.int .i64 v0.2.2.1] ++ ([Value.slice A0_3 v0.2.2.2.1.length c0_3] ++ ([Value.map (some r0_4)] ++ [Value.slice A0_5 v0.2.2.2.2.2.length c0_5])))))), Ck.m1 r0_4 t5.2.1 x7.2.1 t5.2.2.length x7.2.2, Ck.sl T24 x7.2.1 x7.2.2 t5.2.2]) ⟨by exact rfl, by exact rfl, by exact rfl, trivial⟩ (by decide)⟩)

/-! ### (*shadowbox/alloc.Alloc).Used: function 29 -/
def alloc_Alloc_Used.f (k : Nat) (v0 : ((Int × Int) × Bool × Int × (List (Int × Int)) × Unit × (List (Int × Int)))) (w0_4 : (Bool × (List (Int × Int)))) : Option (Int × (Bool × (List (Int × Int)))) :=
  (alloc_Alloc_none.f k (v0.1, v0.2.1, v0.2.2.1, v0.2.2.2.1, (), v0.2.2.2.2.2) (w0_4.1, w0_4.2)).bind fun t1 => (if t1 = true then some ((0 : Int), (w0_4.1, w0_4.2)) else (alloc_Alloc_Free.f k (v0.1, v0.2.1, v0.2.2.1, v0.2.2.2.1, (), v0.2.2.2.2.2) (w0_4.1, w0_4.2)).bind fun t5 => lt (IntKind.wrap .i64 ((IntKind.wrap .i64 (v0.1.2 - v0.1.1)) - t5)) fun y8 => (alloc_Alloc_Waiting.f k (v0.1, v0.2.1, v0.2.2.1, v0.2.2.2.1, (), v0.2.2.2.2.2) (w0_4.1, w0_4.2)).bind fun t10 => some (IntKind.wrap .i64 (y8 - t10.1), (t10.2.1, t10.2.2)))
set_option maxRecDepth 100000 in
set_option maxHeartbeats 4000000 in
theorem alloc_Alloc_Used.calls (k : Nat) (pg0 : Nat) (A0_3 : Option Addr) (c0_3 : Nat) (r0_4 : Nat) (A0_5 : Option Addr) (c0_5 : Nat) (v0 : ((Int × Int) × Bool × Int × (List (Int × Int)) × Unit × (List (Int × Int)))) (A0_4 : Option Addr) (c0_4 : Nat) (w0_4 : (Bool × (List (Int × Int)))) (r : Int × (Bool × (List (Int × Int)))) (b : Bs) (hs0 : St b (stl [Ck.var 66 pg0 ((([Value.int .i64 v0.1.1] ++ [Value.int .i64 v0.1.2]) ++ ([Value.bool v0.2.1] ++ ([Value.int .i64 v0.2.2.1] ++ ([Value.slice A0_3 v0.2.2.2.1.length c0_3] ++ ([Value.map (some r0_4)] ++ [Value.slice A0_5 v0.2.2.2.2.2.length c0_5])))))), Ck.m1 r0_4 w0_4.1 A0_4 w0_4.2.length c0_4, Ck.sl T24 A0_4 c0_4 w0_4.2]) b.w) (R0_3 : Ro b A0_3 (em T24 v0.2.2.2.1)) (C0_3 : v0.2.2.2.1.length ≤ c0_3) (R0_5 : Ro b A0_5 (em T24 v0.2.2.2.2.2)) (C0_5 : v0.2.2.2.2.2.length ≤ c0_5) (H : alloc_Alloc_Used.f k v0 w0_4 = some r) :
    Calls Try.prog 29 #[.pointer (some ⟨pg0, 0, none⟩)] b.w fun e w' => ∃ x : (Option Addr × Nat), e = .returned (.int .i64 r.1) ∧ St b (stl [Ck.var 66 pg0 ((([Value.int .i64 v0.1.1] ++ [Value.int .i64 v0.1.2]) ++ ([Value.bool v0.2.1] ++ ([Value.int .i64 v0.2.2.1] ++ ([Value.slice A0_3 v0.2.2.2.1.length c0_3] ++ ([Value.map (some r0_4)] ++ [Value.slice A0_5 v0.2.2.2.2.2.length c0_5])))))), Ck.m1 r0_4 r.2.1 x.1 r.2.2.length x.2, Ck.sl T24 x.1 x.2 r.2.2]) w' := by
  unfold alloc_Alloc_Used.f at H
  refine enterb (n := 22) Try.func29 rfl (by kernel_rfl) (by kernel_rfl) hs0 ?_
  refine cs_sub (sput (sput (sput s0 0 (some (Ck.var 66 pg0 ((([Value.int .i64 v0.1.1] ++ [Value.int .i64 v0.1.2]) ++ ([Value.bool v0.2.1] ++ ([Value.int .i64 v0.2.2.1] ++ ([Value.slice A0_3 v0.2.2.2.1.length c0_3] ++ ([Value.map (some r0_4)] ++ [Value.slice A0_5 v0.2.2.2.2.2.length c0_5]))))))))) 1 (some (Ck.m1 r0_4 w0_4.1 A0_4 w0_4.2.length c0_4))) 2 (some (Ck.sl T24 A0_4 c0_4 w0_4.2))) (sub_put (by exact rfl) (sub_put (by exact rfl) (sub_put (by exact rfl) (sub_nil _)))) ?_
  refine cs_seq ?_
  refine cs_region (l := [_]) ?_
  refine ls_val (v := .int .i64 (0 : Int)) rfl rfl (by kernel_rfl) (fun w => by kernel_rfl) ?_
  refine ls_end ?_
  refine qn_then ?_
  refine cs_seq ?_
  refine cs_seq ?_
  refine cs_region (l := [_, _]) ?_
  refine ls_val (v := .pointer (some ⟨pg0, 0, none⟩)) rfl rfl (by kernel_rfl) (fun w => by kernel_rfl) ?_
  obtain ⟨t1, hc2, H⟩ := bind_some H
  refine ls_callb (fid := 48) (vals := #[.pointer (some ⟨pg0, 0, none⟩)]) (X := Unit) (fun x => .bool t1) (fun x => stl [Ck.var 66 pg0 ((([Value.int .i64 v0.1.1] ++ [Value.int .i64 v0.1.2]) ++ ([Value.bool v0.2.1] ++ ([Value.int .i64 v0.2.2.1] ++ ([Value.slice A0_3 v0.2.2.2.1.length c0_3] ++ ([Value.map (some r0_4)] ++ [Value.slice A0_5 v0.2.2.2.2.2.length c0_5])))))), Ck.m1 r0_4 w0_4.1 A0_4 w0_4.2.length c0_4, Ck.sl T24 A0_4 c0_4 w0_4.2]) [0, 1, 2] [] [Ck.var 66 pg0 ((([Value.int .i64 v0.1.1] ++ [Value.int .i64 v0.1.2]) ++ ([Value.bool v0.2.1] ++ ([Value.int .i64 v0.2.2.1] ++ ([Value.slice A0_3 v0.2.2.2.1.length c0_3] ++ ([Value.map (some r0_4)] ++ [Value.slice A0_5 v0.2.2.2.2.2.length c0_5])))))), Ck.m1 r0_4 w0_4.1 A0_4 w0_4.2.length c0_4, Ck.sl T24 A0_4 c0_4 w0_4.2] [] 3 rfl rfl (by kernel_rfl) (fun w => by kernel_rfl) ⟨by exact rfl, by exact rfl, by exact rfl, trivial⟩ trivial (by decide) (fun w hs hb => alloc_Alloc_none.calls k pg0 A0_3 c0_3 r0_4 A0_5 c0_5 (v0.1, v0.2.1, v0.2.2.1, v0.2.2.2.1, (), v0.2.2.2.2.2) A0_4 c0_4 (w0_4.1, w0_4.2) t1 (lent b w [Ck.var 66 pg0 ((([Value.int .i64 v0.1.1] ++ [Value.int .i64 v0.1.2]) ++ ([Value.bool v0.2.1] ++ ([Value.int .i64 v0.2.2.1] ++ ([Value.slice A0_3 v0.2.2.2.1.length c0_3] ++ ([Value.map (some r0_4)] ++ [Value.slice A0_5 v0.2.2.2.2.2.length c0_5])))))), Ck.m1 r0_4 w0_4.1 A0_4 w0_4.2.length c0_4, Ck.sl T24 A0_4 c0_4 w0_4.2] []) hb (hs.ro R0_3 _ _) C0_3 (hs.ro R0_5 _ _) C0_5 hc2) ?_
  intro x3
  refine ls_end ?_
  refine qn_then ?_
  by_cases q4 : t1 = true
  · replace H := ite_t q4 H
    refine cs_know (c := true) (q4) 4 (by kernel_rfl) ?_
    refine cs_true (by kernel_rfl) ?_
    refine cs_seq ?_
    refine cs_region (l := [_]) ?_
    refine ls_val (v := .int .i64 (0 : Int)) rfl rfl (by kernel_rfl) (fun w => by kernel_rfl) ?_
    refine ls_end ?_
    refine qn_then ?_
    refine cs_ret' ?_
    refine qr_then ?_
    obtain rfl := Option.some.inj H
    refine qr_res (rs := [_]) rfl (fun w' hs => ⟨[.int .i64 (0 : Int)], (res_tmp (by kernel_rfl) (.nil)), (A0_4, c0_4), rfl, hs.pick (ts := [0, 1, 2]) (cs := [Ck.var 66 pg0 ((([Value.int .i64 v0.1.1] ++ [Value.int .i64 v0.1.2]) ++ ([Value.bool v0.2.1] ++ ([Value.int .i64 v0.2.2.1] ++ ([Value.slice A0_3 v0.2.2.2.1.length c0_3] ++ ([Value.map (some r0_4)] ++ [Value.slice A0_5 v0.2.2.2.2.2.length c0_5])))))), Ck.m1 r0_4 w0_4.1 A0_4 w0_4.2.length c0_4, Ck.sl T24 A0_4 c0_4 w0_4.2]) ⟨by exact rfl, by exact rfl, by exact rfl, trivial⟩ (by decide)⟩)
  · replace H := ite_f q4 H
    refine cs_know (c := false) (Bool.eq_false_iff.mpr q4) 4 (by kernel_rfl) ?_
    refine cs_false (by kernel_rfl) ?_
    refine cs_skip' ?_
    refine qn_then ?_
    refine cs_seq ?_
    obtain ⟨t5, hc6, H⟩ := bind_some H
    obtain ⟨y8, hy9, H⟩ := lt_some H
    obtain ⟨t10, hc11, H⟩ := bind_some H
    refine cs_sub (sput (sput (sput s0 0 (some (Ck.var 66 pg0 ((([Value.int .i64 v0.1.1] ++ [Value.int .i64 v0.1.2]) ++ ([Value.bool v0.2.1] ++ ([Value.int .i64 v0.2.2.1] ++ ([Value.slice A0_3 v0.2.2.2.1.length c0_3] ++ ([Value.map (some r0_4)] ++ [Value.slice A0_5 v0.2.2.2.2.2.length c0_5]))))))))) 1 (some (Ck.m1 r0_4 w0_4.1 A0_4 w0_4.2.length c0_4))) 2 (some (Ck.sl T24 A0_4 c0_4 w0_4.2))) (sub_put (by exact rfl) (sub_put (by exact rfl) (sub_put (by exact rfl) (sub_nil _)))) ?_
    refine cs_chain (l := [_, _, _, _, _, _, _, _, _, _, _, _, _, _, _, _, _, _]) [[], [0], [0, 1], [0, 1, 2], [0, 1, 2, 3], [], [5], [5, 6], [5, 6, 7], [5, 6, 7, 8], [0, 1, 2, 3, 4, 5, 6, 7, 8, 9], [], [11], [0, 1, 2, 3, 4, 5, 6, 7, 8, 9, 10, 11, 12], [], [11, 12, 14], [0, 1, 2, 3, 4, 5, 6, 7, 8, 9, 10, 11, 12, 13, 14, 15], [0, 1, 2, 3, 4, 5, 6, 7, 8, 9, 10, 11, 12, 13, 14, 15, 16]] 16 (fun u => [0].contains u) (efl [false, false, false, false, false, false, false, false, false, false, false, false, true, false, false, true]) (pvl [.val (.pointer (some ⟨pg0, 0, none⟩)), .val (.pointer (some ⟨pg0, 0, none⟩)), .val (.pointer (some ⟨pg0, (0 + 0), none⟩)), .val (.pointer (some ⟨pg0, ((0 + 0) + 1), none⟩)), .val (.int .i64 v0.1.2), .val (.pointer (some ⟨pg0, 0, none⟩)), .val (.pointer (some ⟨pg0, 0, none⟩)), .val (.pointer (some ⟨pg0, (0 + 0), none⟩)), .val (.pointer (some ⟨pg0, ((0 + 0) + 0), none⟩)), .val (.int .i64 v0.1.1), .val (.int .i64 (IntKind.wrap .i64 (v0.1.2 - v0.1.1))), .val (.pointer (some ⟨pg0, 0, none⟩)), .val (.int .i64 t5), .val (.int .i64 y8), .val (.pointer (some ⟨pg0, 0, none⟩)), .val (.int .i64 t10.1)]) (Esl [fun (es : Nat → Value) (S' : Sto) => S' = sput (sput (sput s0 0 (some (Ck.var 66 pg0 ((([Value.int .i64 v0.1.1] ++ [Value.int .i64 v0.1.2]) ++ ([Value.bool v0.2.1] ++ ([Value.int .i64 v0.2.2.1] ++ ([Value.slice A0_3 v0.2.2.2.1.length c0_3] ++ ([Value.map (some r0_4)] ++ [Value.slice A0_5 v0.2.2.2.2.2.length c0_5]))))))))) 1 (some (Ck.m1 r0_4 w0_4.1 A0_4 w0_4.2.length c0_4))) 2 (some (Ck.sl T24 A0_4 c0_4 w0_4.2)), fun (es : Nat → Value) (S' : Sto) => ∃ (x7 : Unit), es 12 = .int .i64 t5 ∧ S' = sput (sput (sput s0 0 (some (Ck.var 66 pg0 ((([Value.int .i64 v0.1.1] ++ [Value.int .i64 v0.1.2]) ++ ([Value.bool v0.2.1] ++ ([Value.int .i64 v0.2.2.1] ++ ([Value.slice A0_3 v0.2.2.2.1.length c0_3] ++ ([Value.map (some r0_4)] ++ [Value.slice A0_5 v0.2.2.2.2.2.length c0_5]))))))))) 1 (some (Ck.m1 r0_4 w0_4.1 A0_4 w0_4.2.length c0_4))) 2 (some (Ck.sl T24 A0_4 c0_4 w0_4.2)), fun (es : Nat → Value) (S' : Sto) => ∃ (x7 : Unit) (x12 : (Option Addr × Nat)), es 12 = .int .i64 t5 ∧ es 15 = .int .i64 t10.1 ∧ S' = sput (sput (sput s0 0 (some (Ck.var 66 pg0 ((([Value.int .i64 v0.1.1] ++ [Value.int .i64 v0.1.2]) ++ ([Value.bool v0.2.1] ++ ([Value.int .i64 v0.2.2.1] ++ ([Value.slice A0_3 v0.2.2.2.1.length c0_3] ++ ([Value.map (some r0_4)] ++ [Value.slice A0_5 v0.2.2.2.2.2.length c0_5]))))))))) 1 (some (Ck.m1 r0_4 t10.2.1 x12.1 t10.2.2.length x12.2))) 2 (some (Ck.sl T24 x12.1 x12.2 t10.2.2))] [0, 0, 0, 0, 0, 0, 0, 0, 0, 0, 0, 0, 0, 0, 0, 1, 2]) (nxl [0, 0, 0, 0, 0, 0, 0, 0, 0, 0, 0, 0, 15, 0, 0, 16]) (onl [true, true, true, true, true, true, true, true, true, true, true, true, true, true, true, true]) 12 (by kernel_rfl) (by kernel_rfl) (by kernel_rfl) (by kernel_rfl) (by kernel_rfl) (rs := [_, _]) rfl (by kernel_rfl) (by kernel_rfl) (fun es => ?_) ?_ ?_
    · exact (rfl : sput (sput (sput s0 0 (some (Ck.var 66 pg0 ((([Value.int .i64 v0.1.1] ++ [Value.int .i64 v0.1.2]) ++ ([Value.bool v0.2.1] ++ ([Value.int .i64 v0.2.2.1] ++ ([Value.slice A0_3 v0.2.2.2.1.length c0_3] ++ ([Value.map (some r0_4)] ++ [Value.slice A0_5 v0.2.2.2.2.2.length c0_5]))))))))) 1 (some (Ck.m1 r0_4 w0_4.1 A0_4 w0_4.2.length c0_4))) 2 (some (Ck.sl T24 A0_4 c0_4 w0_4.2)) = sput (sput (sput s0 0 (some (Ck.var 66 pg0 ((([Value.int .i64 v0.1.1] ++ [Value.int .i64 v0.1.2]) ++ ([Value.bool v0.2.1] ++ ([Value.int .i64 v0.2.2.1] ++ ([Value.slice A0_3 v0.2.2.2.1.length c0_3] ++ ([Value.map (some r0_4)] ++ [Value.slice A0_5 v0.2.2.2.2.2.length c0_5]))))))))) 1 (some (Ck.m1 r0_4 w0_4.1 A0_4 w0_4.2.length c0_4))) 2 (some (Ck.sl T24 A0_4 c0_4 w0_4.2)))
    · refine all_snoc (all_snoc (all_snoc (all_snoc (all_snoc (all_snoc (all_snoc (all_snoc (all_snoc (all_snoc (all_snoc (all_snoc (all_snoc (all_snoc (all_snoc (all_snoc (all_nil) ?_) ?_) ?_) ?_) ?_) ?_) ?_) ?_) ?_) ?_) ?_) ?_) ?_) ?_) ?_) ?_
      · refine ⟨fun o ho es vs f' S' hve hvp hf hx hK hE => ?_⟩
        obtain rfl := Option.some.inj ho
        refine ⟨want_none rfl, fun _ _ => ?_, (fun _ h => by cases h), (fun h _ => by cases h), (fun h _ => by cases h)⟩
        have hF := fr_next (rfl) ((hx 0 (by kernel_rfl)).trans (by kernel_rfl : (_ : Value) = .pointer (some ⟨pg0, 0, none⟩)))
        refine ls_fr hF ?_
        refine ls_val (v := .pointer (some ⟨pg0, 0, none⟩)) rfl rfl (by kernel_rfl) (fun w => by kernel_rfl) ?_
        exact ls_finp (.pointer (some ⟨pg0, 0, none⟩)) (congrArg (fun z => upd z 5 _) hF.symm) rfl
      · refine ⟨fun o ho es vs f' S' hve hvp hf hx hK hE => ?_⟩
        obtain rfl := Option.some.inj ho
        refine ⟨want_none rfl, fun _ _ => ?_, (fun _ h => by cases h), (fun h _ => by cases h), (fun h _ => by cases h)⟩
        have hF := fr_next (rfl) ((hf 0 5 (by kernel_rfl) rfl).trans (show vs 0 = .pointer (some ⟨pg0, 0, none⟩) from hvp 0 (by kernel_rfl)))
        refine ls_fr hF ?_
        refine ls_val (v := .pointer (some ⟨pg0, 0, none⟩)) rfl rfl (by kernel_rfl) (fun w => by kernel_rfl) ?_
        exact ls_finp (.pointer (some ⟨pg0, 0, none⟩)) (congrArg (fun z => upd z 6 _) hF.symm) rfl
      · refine ⟨fun o ho es vs f' S' hve hvp hf hx hK hE => ?_⟩
        obtain rfl := Option.some.inj ho
        refine ⟨want_none rfl, fun _ _ => ?_, (fun _ h => by cases h), (fun h _ => by cases h), (fun h _ => by cases h)⟩
        have hF := fr_next (rfl) ((hf 1 6 (by kernel_rfl) rfl).trans (show vs 1 = .pointer (some ⟨pg0, 0, none⟩) from hvp 1 (by kernel_rfl)))
        refine ls_fr hF ?_
        refine ls_val (v := .pointer (some ⟨pg0, (0 + 0), none⟩)) rfl rfl (by kernel_rfl) (fun w => by kernel_rfl) ?_
        exact ls_finp (.pointer (some ⟨pg0, (0 + 0), none⟩)) (congrArg (fun z => upd z 7 _) hF.symm) rfl
      · refine ⟨fun o ho es vs f' S' hve hvp hf hx hK hE => ?_⟩
        obtain rfl := Option.some.inj ho
        refine ⟨want_none rfl, fun _ _ => ?_, (fun _ h => by cases h), (fun h _ => by cases h), (fun h _ => by cases h)⟩
        have hF := fr_next (rfl) ((hf 2 7 (by kernel_rfl) rfl).trans (show vs 2 = .pointer (some ⟨pg0, (0 + 0), none⟩) from hvp 2 (by kernel_rfl)))
        refine ls_fr hF ?_
        refine ls_val (v := .pointer (some ⟨pg0, ((0 + 0) + 1), none⟩)) rfl rfl (by kernel_rfl) (fun w => by kernel_rfl) ?_
        exact ls_finp (.pointer (some ⟨pg0, ((0 + 0) + 1), none⟩)) (congrArg (fun z => upd z 8 _) hF.symm) rfl
      · refine ⟨fun o ho es vs f' S' hve hvp hf hx hK hE => ?_⟩
        obtain rfl := Option.some.inj ho
        refine ⟨want_none rfl, fun _ _ => ?_, (fun _ h => by cases h), (fun h _ => by cases h), (fun h _ => by cases h)⟩
        have hF := fr_next (rfl) ((hf 3 8 (by kernel_rfl) rfl).trans (show vs 3 = .pointer (some ⟨pg0, ((0 + 0) + 1), none⟩) from hvp 3 (by kernel_rfl)))
        refine ls_fr hF ?_
        refine ls_load (a0 := ⟨pg0, ((0 + 0) + 1), none⟩) (v := .int .i64 v0.1.2) (de := (TypeDesc.int .i64)) rfl rfl (by kernel_rfl) rfl (by kernel_rfl) (by kernel_rfl) (by kernel_rfl) (fun w hs => (hs.var (k := 0) ((hK 0 (by rfl)).trans (by exact rfl)) (Sub4.trans (Sub4.trans (Sub4.all _) (Sub4.head _ _)) (Sub4.skip (n := 1) (len1 _) (Sub4.all _))))) ?_
        exact ls_finp (.int .i64 v0.1.2) (congrArg (fun z => upd z 9 _) hF.symm) rfl
      · refine ⟨fun o ho es vs f' S' hve hvp hf hx hK hE => ?_⟩
        obtain rfl := Option.some.inj ho
        refine ⟨want_none rfl, fun _ _ => ?_, (fun _ h => by cases h), (fun h _ => by cases h), (fun h _ => by cases h)⟩
        have hF := fr_next (rfl) ((hx 0 (by kernel_rfl)).trans (by kernel_rfl : (_ : Value) = .pointer (some ⟨pg0, 0, none⟩)))
        refine ls_fr hF ?_
        refine ls_val (v := .pointer (some ⟨pg0, 0, none⟩)) rfl rfl (by kernel_rfl) (fun w => by kernel_rfl) ?_
        exact ls_finp (.pointer (some ⟨pg0, 0, none⟩)) (congrArg (fun z => upd z 10 _) hF.symm) rfl
      · refine ⟨fun o ho es vs f' S' hve hvp hf hx hK hE => ?_⟩
        obtain rfl := Option.some.inj ho
        refine ⟨want_none rfl, fun _ _ => ?_, (fun _ h => by cases h), (fun h _ => by cases h), (fun h _ => by cases h)⟩
        have hF := fr_next (rfl) ((hf 5 10 (by kernel_rfl) rfl).trans (show vs 5 = .pointer (some ⟨pg0, 0, none⟩) from hvp 5 (by kernel_rfl)))
        refine ls_fr hF ?_
        refine ls_val (v := .pointer (some ⟨pg0, 0, none⟩)) rfl rfl (by kernel_rfl) (fun w => by kernel_rfl) ?_
        exact ls_finp (.pointer (some ⟨pg0, 0, none⟩)) (congrArg (fun z => upd z 11 _) hF.symm) rfl
      · refine ⟨fun o ho es vs f' S' hve hvp hf hx hK hE => ?_⟩
        obtain rfl := Option.some.inj ho
        refine ⟨want_none rfl, fun _ _ => ?_, (fun _ h => by cases h), (fun h _ => by cases h), (fun h _ => by cases h)⟩
        have hF := fr_next (rfl) ((hf 6 11 (by kernel_rfl) rfl).trans (show vs 6 = .pointer (some ⟨pg0, 0, none⟩) from hvp 6 (by kernel_rfl)))
        refine ls_fr hF ?_
        refine ls_val (v := .pointer (some ⟨pg0, (0 + 0), none⟩)) rfl rfl (by kernel_rfl) (fun w => by kernel_rfl) ?_
        exact ls_finp (.pointer (some ⟨pg0, (0 + 0), none⟩)) (congrArg (fun z => upd z 12 _) hF.symm) rfl
      · refine ⟨fun o ho es vs f' S' hve hvp hf hx hK hE => ?_⟩
        obtain rfl := Option.some.inj ho
        refine ⟨want_none rfl, fun _ _ => ?_, (fun _ h => by cases h), (fun h _ => by cases h), (fun h _ => by cases h)⟩
        have hF := fr_next (rfl) ((hf 7 12 (by kernel_rfl) rfl).trans (show vs 7 = .pointer (some ⟨pg0, (0 + 0), none⟩) from hvp 7 (by kernel_rfl)))
        refine ls_fr hF ?_
        refine ls_val (v := .pointer (some ⟨pg0, ((0 + 0) + 0), none⟩)) rfl rfl (by kernel_rfl) (fun w => by kernel_rfl) ?_
        exact ls_finp (.pointer (some ⟨pg0, ((0 + 0) + 0), none⟩)) (congrArg (fun z => upd z 13 _) hF.symm) rfl
      · refine ⟨fun o ho es vs f' S' hve hvp hf hx hK hE => ?_⟩
        obtain rfl := Option.some.inj ho
        refine ⟨want_none rfl, fun _ _ => ?_, (fun _ h => by cases h), (fun h _ => by cases h), (fun h _ => by cases h)⟩
        have hF := fr_next (rfl) ((hf 8 13 (by kernel_rfl) rfl).trans (show vs 8 = .pointer (some ⟨pg0, ((0 + 0) + 0), none⟩) from hvp 8 (by kernel_rfl)))
        refine ls_fr hF ?_
        refine ls_load (a0 := ⟨pg0, ((0 + 0) + 0), none⟩) (v := .int .i64 v0.1.1) (de := (TypeDesc.int .i64)) rfl rfl (by kernel_rfl) rfl (by kernel_rfl) (by kernel_rfl) (by kernel_rfl) (fun w hs => (hs.var (k := 0) ((hK 0 (by rfl)).trans (by exact rfl)) (Sub4.trans (Sub4.trans (Sub4.all _) (Sub4.head _ _)) (Sub4.head _ _)))) ?_
        exact ls_finp (.int .i64 v0.1.1) (congrArg (fun z => upd z 14 _) hF.symm) rfl
      · refine ⟨fun o ho es vs f' S' hve hvp hf hx hK hE => ?_⟩
        obtain rfl := Option.some.inj ho
        refine ⟨want_none rfl, fun _ _ => ?_, (fun _ h => by cases h), (fun h _ => by cases h), (fun h _ => by cases h)⟩
        have hF := fr_next (fr_next (rfl) ((hf 4 9 (by kernel_rfl) rfl).trans (show vs 4 = .int .i64 v0.1.2 from hvp 4 (by kernel_rfl)))) ((hf 9 14 (by kernel_rfl) rfl).trans (show vs 9 = .int .i64 v0.1.1 from hvp 9 (by kernel_rfl)))
        refine ls_fr hF ?_
        refine ls_val (v := .int .i64 (IntKind.wrap .i64 (v0.1.2 - v0.1.1))) rfl rfl (by kernel_rfl) (fun w => by kernel_rfl) ?_
        exact ls_finp (.int .i64 (IntKind.wrap .i64 (v0.1.2 - v0.1.1))) (congrArg (fun z => upd z 15 _) hF.symm) rfl
      · refine ⟨fun o ho es vs f' S' hve hvp hf hx hK hE => ?_⟩
        obtain rfl := Option.some.inj ho
        refine ⟨want_none rfl, fun _ _ => ?_, (fun _ h => by cases h), (fun h _ => by cases h), (fun h _ => by cases h)⟩
        have hF := fr_next (rfl) ((hx 0 (by kernel_rfl)).trans (by kernel_rfl : (_ : Value) = .pointer (some ⟨pg0, 0, none⟩)))
        refine ls_fr hF ?_
        refine ls_val (v := .pointer (some ⟨pg0, 0, none⟩)) rfl rfl (by kernel_rfl) (fun w => by kernel_rfl) ?_
        exact ls_finp (.pointer (some ⟨pg0, 0, none⟩)) (congrArg (fun z => upd z 16 _) hF.symm) rfl
      · refine ⟨fun o ho es vs f' S' hve hvp hf hx hK hE => ?_⟩
        obtain rfl := Option.some.inj ho
        obtain rfl := hE rfl
        refine ⟨want_none rfl, (fun h _ => by cases h), (fun h _ => by cases h), fun _ _ => ?_, (fun _ h => by cases h)⟩
        have hF := fr_next (rfl) ((hf 11 16 (by kernel_rfl) rfl).trans (show vs 11 = .pointer (some ⟨pg0, 0, none⟩) from hvp 11 (by kernel_rfl)))
        refine ls_fr hF ?_
        refine ls_callb (fid := 32) (vals := #[.pointer (some ⟨pg0, 0, none⟩)]) (X := Unit) (fun x => .int .i64 t5) (fun x => stl [Ck.var 66 pg0 ((([Value.int .i64 v0.1.1] ++ [Value.int .i64 v0.1.2]) ++ ([Value.bool v0.2.1] ++ ([Value.int .i64 v0.2.2.1] ++ ([Value.slice A0_3 v0.2.2.2.1.length c0_3] ++ ([Value.map (some r0_4)] ++ [Value.slice A0_5 v0.2.2.2.2.2.length c0_5])))))), Ck.m1 r0_4 w0_4.1 A0_4 w0_4.2.length c0_4, Ck.sl T24 A0_4 c0_4 w0_4.2]) [0, 1, 2] [] [Ck.var 66 pg0 ((([Value.int .i64 v0.1.1] ++ [Value.int .i64 v0.1.2]) ++ ([Value.bool v0.2.1] ++ ([Value.int .i64 v0.2.2.1] ++ ([Value.slice A0_3 v0.2.2.2.1.length c0_3] ++ ([Value.map (some r0_4)] ++ [Value.slice A0_5 v0.2.2.2.2.2.length c0_5])))))), Ck.m1 r0_4 w0_4.1 A0_4 w0_4.2.length c0_4, Ck.sl T24 A0_4 c0_4 w0_4.2] [] 3 rfl rfl (by kernel_rfl) (fun w => by kernel_rfl) ⟨by exact rfl, by exact rfl, by exact rfl, trivial⟩ trivial (by decide) (fun w hs hb => alloc_Alloc_Free.calls k pg0 A0_3 c0_3 r0_4 A0_5 c0_5 (v0.1, v0.2.1, v0.2.2.1, v0.2.2.2.1, (), v0.2.2.2.2.2) A0_4 c0_4 (w0_4.1, w0_4.2) t5 (lent b w [Ck.var 66 pg0 ((([Value.int .i64 v0.1.1] ++ [Value.int .i64 v0.1.2]) ++ ([Value.bool v0.2.1] ++ ([Value.int .i64 v0.2.2.1] ++ ([Value.slice A0_3 v0.2.2.2.1.length c0_3] ++ ([Value.map (some r0_4)] ++ [Value.slice A0_5 v0.2.2.2.2.2.length c0_5])))))), Ck.m1 r0_4 w0_4.1 A0_4 w0_4.2.length c0_4, Ck.sl T24 A0_4 c0_4 w0_4.2] []) hb (hs.ro R0_3 _ _) C0_3 (hs.ro R0_5 _ _) C0_5 hc6) ?_
        intro x7
        exact ls_fine (sput (sput (sput s0 0 (some (Ck.var 66 pg0 ((([Value.int .i64 v0.1.1] ++ [Value.int .i64 v0.1.2]) ++ ([Value.bool v0.2.1] ++ ([Value.int .i64 v0.2.2.1] ++ ([Value.slice A0_3 v0.2.2.2.1.length c0_3] ++ ([Value.map (some r0_4)] ++ [Value.slice A0_5 v0.2.2.2.2.2.length c0_5]))))))))) 1 (some (Ck.m1 r0_4 w0_4.1 A0_4 w0_4.2.length c0_4))) 2 (some (Ck.sl T24 A0_4 c0_4 w0_4.2))) (.int .i64 t5) (congrArg (fun z => upd z 17 _) hF.symm) (show (fun (es : Nat → Value) (S' : Sto) => ∃ (x7 : Unit), es 12 = .int .i64 t5 ∧ S' = sput (sput (sput s0 0 (some (Ck.var 66 pg0 ((([Value.int .i64 v0.1.1] ++ [Value.int .i64 v0.1.2]) ++ ([Value.bool v0.2.1] ++ ([Value.int .i64 v0.2.2.1] ++ ([Value.slice A0_3 v0.2.2.2.1.length c0_3] ++ ([Value.map (some r0_4)] ++ [Value.slice A0_5 v0.2.2.2.2.2.length c0_5]))))))))) 1 (some (Ck.m1 r0_4 w0_4.1 A0_4 w0_4.2.length c0_4))) 2 (some (Ck.sl T24 A0_4 c0_4 w0_4.2))) (upv es 12 (.int .i64 t5)) (sput (sput (sput s0 0 (some (Ck.var 66 pg0 ((([Value.int .i64 v0.1.1] ++ [Value.int .i64 v0.1.2]) ++ ([Value.bool v0.2.1] ++ ([Value.int .i64 v0.2.2.1] ++ ([Value.slice A0_3 v0.2.2.2.1.length c0_3] ++ ([Value.map (some r0_4)] ++ [Value.slice A0_5 v0.2.2.2.2.2.length c0_5]))))))))) 1 (some (Ck.m1 r0_4 w0_4.1 A0_4 w0_4.2.length c0_4))) 2 (some (Ck.sl T24 A0_4 c0_4 w0_4.2))) from ⟨x7, rfl, rfl⟩) rfl (keep_cons (by exact rfl) (keep_nil)) (sub_put (by exact rfl) (sub_put (by exact rfl) (sub_put (by exact rfl) (sub_nil _))))
      · refine ⟨fun o ho es vs f' S' hve hvp hf hx hK hE => ?_⟩
        obtain rfl := Option.some.inj ho
        refine ⟨want_none rfl, fun _ _ => ?_, (fun _ h => by cases h), (fun h _ => by cases h), (fun h _ => by cases h)⟩
        have hF := fr_next (fr_next (rfl) ((hf 10 15 (by kernel_rfl) rfl).trans (show vs 10 = .int .i64 (IntKind.wrap .i64 (v0.1.2 - v0.1.1)) from hvp 10 (by kernel_rfl)))) ((hf 12 17 (by kernel_rfl) rfl).trans (show vs 12 = .int .i64 t5 from hvp 12 (by kernel_rfl)))
        refine ls_fr hF ?_
        refine ls_val (v := .int .i64 (IntKind.wrap .i64 ((IntKind.wrap .i64 (v0.1.2 - v0.1.1)) - t5))) rfl rfl (by kernel_rfl) (fun w => by kernel_rfl) ?_
        refine ls_ren 18 (v := .int .i64 (IntKind.wrap .i64 ((IntKind.wrap .i64 (v0.1.2 - v0.1.1)) - t5))) (v' := .int .i64 y8) (by kernel_rfl) (by rw [hy9]) ?_
        exact ls_finp (.int .i64 y8) ((upd_upd _ _ _ _).trans (congrArg (fun z => upd z 18 _) hF.symm)) rfl
      · refine ⟨fun o ho es vs f' S' hve hvp hf hx hK hE => ?_⟩
        obtain rfl := Option.some.inj ho
        refine ⟨want_none rfl, fun _ _ => ?_, (fun _ h => by cases h), (fun h _ => by cases h), (fun h _ => by cases h)⟩
        have hF := fr_next (rfl) ((hx 0 (by kernel_rfl)).trans (by kernel_rfl : (_ : Value) = .pointer (some ⟨pg0, 0, none⟩)))
        refine ls_fr hF ?_
        refine ls_val (v := .pointer (some ⟨pg0, 0, none⟩)) rfl rfl (by kernel_rfl) (fun w => by kernel_rfl) ?_
        exact ls_finp (.pointer (some ⟨pg0, 0, none⟩)) (congrArg (fun z => upd z 19 _) hF.symm) rfl
      · refine ⟨fun o ho es vs f' S' hve hvp hf hx hK hE => ?_⟩
        obtain rfl := Option.some.inj ho
        obtain ⟨x7, hv12, rfl⟩ := hE rfl
        refine ⟨want_none rfl, (fun h _ => by cases h), (fun h _ => by cases h), fun _ _ => ?_, (fun _ h => by cases h)⟩
        have hF := fr_next (rfl) ((hf 14 19 (by kernel_rfl) rfl).trans (show vs 14 = .pointer (some ⟨pg0, 0, none⟩) from hvp 14 (by kernel_rfl)))
        refine ls_fr hF ?_
        refine ls_callb (fid := 33) (vals := #[.pointer (some ⟨pg0, 0, none⟩)]) (X := (Option Addr × Nat)) (fun x => .int .i64 t10.1) (fun x => stl [Ck.var 66 pg0 ((([Value.int .i64 v0.1.1] ++ [Value.int .i64 v0.1.2]) ++ ([Value.bool v0.2.1] ++ ([Value.int .i64 v0.2.2.1] ++ ([Value.slice A0_3 v0.2.2.2.1.length c0_3] ++ ([Value.map (some r0_4)] ++ [Value.slice A0_5 v0.2.2.2.2.2.length c0_5])))))), Ck.m1 r0_4 t10.2.1 x.1 t10.2.2.length x.2, Ck.sl T24 x.1 x.2 t10.2.2]) [0, 1, 2] [] [Ck.var 66 pg0 ((([Value.int .i64 v0.1.1] ++ [Value.int .i64 v0.1.2]) ++ ([Value.bool v0.2.1] ++ ([Value.int .i64 v0.2.2.1] ++ ([Value.slice A0_3 v0.2.2.2.1.length c0_3] ++ ([Value.map (some r0_4)] ++ [Value.slice A0_5 v0.2.2.2.2.2.length c0_5])))))), Ck.m1 r0_4 w0_4.1 A0_4 w0_4.2.length c0_4, Ck.sl T24 A0_4 c0_4 w0_4.2] [] 3 rfl rfl (by kernel_rfl) (fun w => by kernel_rfl) ⟨by exact rfl, by exact rfl, by exact rfl, trivial⟩ trivial (by decide) (fun w hs hb => alloc_Alloc_Waiting.calls k pg0 A0_3 c0_3 r0_4 A0_5 c0_5 (v0.1, v0.2.1, v0.2.2.1, v0.2.2.2.1, (), v0.2.2.2.2.2) A0_4 c0_4 (w0_4.1, w0_4.2) t10 (lent b w [Ck.var 66 pg0 ((([Value.int .i64 v0.1.1] ++ [Value.int .i64 v0.1.2]) ++ ([Value.bool v0.2.1] ++ ([Value.int .i64 v0.2.2.1] ++ ([Value.slice A0_3 v0.2.2.2.1.length c0_3] ++ ([Value.map (some r0_4)] ++ [Value.slice A0_5 v0.2.2.2.2.2.length c0_5])))))), Ck.m1 r0_4 w0_4.1 A0_4 w0_4.2.length c0_4, Ck.sl T24 A0_4 c0_4 w0_4.2] []) hb (hs.ro R0_3 _ _) C0_3 (hs.ro R0_5 _ _) C0_5 hc11) ?_
        intro x12
        exact ls_fine (sput (sput (sput s0 0 (some (Ck.var 66 pg0 ((([Value.int .i64 v0.1.1] ++ [Value.int .i64 v0.1.2]) ++ ([Value.bool v0.2.1] ++ ([Value.int .i64 v0.2.2.1] ++ ([Value.slice A0_3 v0.2.2.2.1.length c0_3] ++ ([Value.map (some r0_4)] ++ [Value.slice A0_5 v0.2.2.2.2.2.length c0_5]))))))))) 1 (some (Ck.m1 r0_4 t10.2.1 x12.1 t10.2.2.length x12.2))) 2 (some (Ck.sl T24 x12.1 x12.2 t10.2.2))) (.int .i64 t10.1) (congrArg (fun z => upd z 20 _) hF.symm) (show (fun (es : Nat → Value) (S' : Sto) => ∃ (x7 : Unit) (x12 : (Option Addr × Nat)), es 12 = .int .i64 t5 ∧ es 15 = .int .i64 t10.1 ∧ S' = sput (sput (sput s0 0 (some (Ck.var 66 pg0 ((([Value.int .i64 v0.1.1] ++ [Value.int .i64 v0.1.2]) ++ ([Value.bool v0.2.1] ++ ([Value.int .i64 v0.2.2.1] ++ ([Value.slice A0_3 v0.2.2.2.1.length c0_3] ++ ([Value.map (some r0_4)] ++ [Value.slice A0_5 v0.2.2.2.2.2.length c0_5]))))))))) 1 (some (Ck.m1 r0_4 t10.2.1 x12.1 t10.2.2.length x12.2))) 2 (some (Ck.sl T24 x12.1 x12.2 t10.2.2))) (upv es 15 (.int .i64 t10.1)) (sput (sput (sput s0 0 (some (Ck.var 66 pg0 ((([Value.int .i64 v0.1.1] ++ [Value.int .i64 v0.1.2]) ++ ([Value.bool v0.2.1] ++ ([Value.int .i64 v0.2.2.1] ++ ([Value.slice A0_3 v0.2.2.2.1.length c0_3] ++ ([Value.map (some r0_4)] ++ [Value.slice A0_5 v0.2.2.2.2.2.length c0_5]))))))))) 1 (some (Ck.m1 r0_4 t10.2.1 x12.1 t10.2.2.length x12.2))) 2 (some (Ck.sl T24 x12.1 x12.2 t10.2.2))) from ⟨x7, x12, hv12, rfl, rfl⟩) rfl (keep_cons (by exact rfl) (keep_nil)) (sub_put (by exact rfl) (sub_put (by exact rfl) (sub_put (by exact rfl) (sub_nil _))))
    · intro es vs f' S' hve hvp hf hx hK hE
      obtain ⟨x7, x12, hv12, hv15, rfl⟩ := hE
      refine ls_fr (F := upd (upd f' 18 (.int .i64 y8)) 20 (.int .i64 t10.1)) (fr_next (fr_next (rfl) ((hf 13 18 (by kernel_rfl) rfl).trans (show vs 13 = .int .i64 y8 from hvp 13 (by kernel_rfl)))) ((hf 15 20 (by kernel_rfl) rfl).trans (show vs 15 = .int .i64 t10.1 from hvp 15 (by kernel_rfl)))) ?_
      refine ls_sub (sput (sput (sput s0 0 (some (Ck.var 66 pg0 ((([Value.int .i64 v0.1.1] ++ [Value.int .i64 v0.1.2]) ++ ([Value.bool v0.2.1] ++ ([Value.int .i64 v0.2.2.1] ++ ([Value.slice A0_3 v0.2.2.2.1.length c0_3] ++ ([Value.map (some r0_4)] ++ [Value.slice A0_5 v0.2.2.2.2.2.length c0_5]))))))))) 1 (some (Ck.m1 r0_4 t10.2.1 x12.1 t10.2.2.length x12.2))) 2 (some (Ck.sl T24 x12.1 x12.2 t10.2.2))) (sub_put (by exact rfl) (sub_put (by exact rfl) (sub_put (by exact rfl) (sub_nil _)))) ?_
      refine ls_val (v := .int .i64 (IntKind.wrap .i64 (y8 - t10.1))) rfl rfl (by kernel_rfl) (fun w => by kernel_rfl) ?_
      refine ls_val (v := .int .i64 (IntKind.wrap .i64 (y8 - t10.1))) rfl rfl (by kernel_rfl) (fun w => by kernel_rfl) ?_
      refine ls_end ?_
      refine qn_then ?_
      refine cs_ret' ?_
      obtain rfl := Option.some.inj H
      refine qr_res (rs := [_]) rfl (fun w' hs => ⟨[.int .i64 (IntKind.wrap .i64 (y8 - t10.1))], (res_tmp (by kernel_rfl) (.nil)), (x12.1, x12.2), rfl, hs.pick (ts := [0, 1, 2]) (cs := [Ck.var 66 pg0 ((([Value.int .i64 v0.1.1] ++ [Value.int .i64 v0.1.2]) ++ ([Value.bool v0.2.1] ++ ([Value.int .i64 v0.2.2.1] ++ ([Value.slice A0_3 v0.2.2.2.1.length c0_3] ++ ([Value.map (some r0_4)] ++ [Value.slice A0_5 v0.2.2.2.2.2.length c0_5])))))), Ck.m1 r0_4 t10.2.1 x12.1 t10.2.2.length x12.2, Ck.sl T24 x12.1 x12.2 t10.2.2]) ⟨by exact rfl, by exact rfl, by exact rfl, trivial⟩ (by decide)⟩)

/-! ### (*shadowbox/alloc.Alloc).Commit: function 31 -/
def alloc_Alloc_Commit.tab11 : List (List Nat) := [[], [], [1], [1, 2], [1, 2, 3], [], [1, 2, 3, 4, 5], [0, 1, 2, 3, 4, 5, 6], [0, 1, 2, 3, 4, 5, 6, 7], [0, 1, 2, 3, 4, 5, 6, 7, 8]]
def alloc_Alloc_Commit.lo2 (w0_4 : (Bool × (List (Int × Int)))) : Nat → Int → (((Int × Int) × Bool × Int × (List (Int × Int)) × Unit × (List (Int × Int)))) → Option (((Int × Int) × Bool × Int × (List (Int × Int)) × Unit × (List (Int × Int))) × (Bool × (List (Int × Int))))
  | 0, _, _ => none
  | k2 + 1, x20_2, m0_2 => (if x20_2 < (w0_4.2.length : Int) then (if 0 ≤ x20_2 then (extent_Add.f k2 m0_2.2.2.2.1 ((w0_4.2).getD (x20_2).toNat ((0 : Int), (0 : Int)))).bind fun t14 => (alloc_Alloc_Commit.lo2 w0_4 k2) (IntKind.wrap .i64 (x20_2 + (1 : Int))) (m0_2.1, m0_2.2.1, m0_2.2.2.1, t14, (), m0_2.2.2.2.2.2) else none) else some ((m0_2.1, m0_2.2.1, m0_2.2.2.1, m0_2.2.2.2.1, (), m0_2.2.2.2.1), (false, ([] : List (Int × Int)))))
def alloc_Alloc_Commit.jo1 (k : Nat) (v0 : ((Int × Int) × Bool × Int × (List (Int × Int)) × Unit × (List (Int × Int)))) (w0_4 : (Bool × (List (Int × Int)))) : Option (((Int × Int) × Bool × Int × (List (Int × Int)) × Unit × (List (Int × Int))) × (Bool × (List (Int × Int)))) := (if w0_4.1 = true then alloc_Alloc_Commit.lo2 w0_4 k (0 : Int) (v0.1, v0.2.1, v0.2.2.1, v0.2.2.2.1, (), v0.2.2.2.2.2) else some ((v0.1, v0.2.1, v0.2.2.1, v0.2.2.2.1, (), v0.2.2.2.1), (false, w0_4.2)))
def alloc_Alloc_Commit.f (k : Nat) (v0 : ((Int × Int) × Bool × Int × (List (Int × Int)) × Unit × (List (Int × Int)))) (w0_4 : (Bool × (List (Int × Int)))) : Option (((Int × Int) × Bool × Int × (List (Int × Int)) × Unit × (List (Int × Int))) × (Bool × (List (Int × Int)))) :=
  (alloc_Alloc_none.f k (v0.1, v0.2.1, v0.2.2.1, v0.2.2.2.1, (), v0.2.2.2.2.2) (w0_4.1, w0_4.2)).bind fun t22 => (if t22 = true then some ((v0.1, v0.2.1, v0.2.2.1, v0.2.2.2.1, (), v0.2.2.2.2.2), (w0_4.1, w0_4.2)) else (alloc_Alloc_Commit.jo1 k v0 w0_4))
set_option maxRecDepth 100000 in
set_option maxHeartbeats 4000000 in
theorem alloc_Alloc_Commit.calls (k : Nat) (pg0 : Nat) (A0_3 : Option Addr) (c0_3 : Nat) (r0_4 : Nat) (A0_5 : Option Addr) (c0_5 : Nat) (v0 : ((Int × Int) × Bool × Int × (List (Int × Int)) × Unit × (List (Int × Int)))) (A0_4 : Option Addr) (c0_4 : Nat) (w0_4 : (Bool × (List (Int × Int)))) (r : ((Int × Int) × Bool × Int × (List (Int × Int)) × Unit × (List (Int × Int))) × (Bool × (List (Int × Int)))) (b : Bs) (hs0 : St b (stl [Ck.var 66 pg0 ((([Value.int .i64 v0.1.1] ++ [Value.int .i64 v0.1.2]) ++ ([Value.bool v0.2.1] ++ ([Value.int .i64 v0.2.2.1] ++ ([Value.slice A0_3 v0.2.2.2.1.length c0_3] ++ ([Value.map (some r0_4)] ++ [Value.slice A0_5 v0.2.2.2.2.2.length c0_5])))))), Ck.m1 r0_4 w0_4.1 A0_4 w0_4.2.length c0_4, Ck.sl T24 A0_4 c0_4 w0_4.2]) b.w) (R0_3 : Ro b A0_3 (em T24 v0.2.2.2.1)) (C0_3 : v0.2.2.2.1.length ≤ c0_3) (R0_5 : Ro b A0_5 (em T24 v0.2.2.2.2.2)) (C0_5 : v0.2.2.2.2.2.length ≤ c0_5) (H : alloc_Alloc_Commit.f k v0 w0_4 = some r) :
    Calls Try.prog 31 #[.pointer (some ⟨pg0, 0, none⟩)] b.w fun e w' => ∃ b', b.le b' ∧ ∃ x : (Option Addr × Nat) × (Option Addr × Nat) × (Option Addr × Nat), e = .returned (.tuple #[]) ∧ ((Ro b' x.1.1 (em T24 r.1.2.2.2.1) ∧ r.1.2.2.2.1.length ≤ x.1.2) ∧ (Ro b' x.2.1.1 (em T24 r.1.2.2.2.2.2) ∧ r.1.2.2.2.2.2.length ≤ x.2.1.2)) ∧ St b' (stl [Ck.var 66 pg0 ((([Value.int .i64 r.1.1.1] ++ [Value.int .i64 r.1.1.2]) ++ ([Value.bool r.1.2.1] ++ ([Value.int .i64 r.1.2.2.1] ++ ([Value.slice x.1.1 r.1.2.2.2.1.length x.1.2] ++ ([Value.map (some r0_4)] ++ [Value.slice x.2.1.1 r.1.2.2.2.2.2.length x.2.1.2])))))), Ck.m1 r0_4 r.2.1 x.2.2.1 r.2.2.length x.2.2.2, Ck.sl T24 x.2.2.1 x.2.2.2 r.2.2]) w' := by
  unfold alloc_Alloc_Commit.f at H
  refine enterb (n := 46) Try.func31 rfl (by kernel_rfl) (by kernel_rfl) hs0 ?_
  refine cs_sub (sput (sput (sput s0 0 (some (Ck.var 66 pg0 ((([Value.int .i64 v0.1.1] ++ [Value.int .i64 v0.1.2]) ++ ([Value.bool v0.2.1] ++ ([Value.int .i64 v0.2.2.1] ++ ([Value.slice A0_3 v0.2.2.2.1.length c0_3] ++ ([Value.map (some r0_4)] ++ [Value.slice A0_5 v0.2.2.2.2.2.length c0_5]))))))))) 1 (some (Ck.m1 r0_4 w0_4.1 A0_4 w0_4.2.length c0_4))) 2 (some (Ck.sl T24 A0_4 c0_4 w0_4.2))) (sub_put (by exact rfl) (sub_put (by exact rfl) (sub_put (by exact rfl) (sub_nil _)))) ?_
  refine cs_cut (fun f S => ∃ (fR : Fr), f = upd fR 0 (.pointer (some ⟨pg0, 0, none⟩)) ∧ S = sput (sput (sput s0 0 (some (Ck.var 66 pg0 ((([Value.int .i64 v0.1.1] ++ [Value.int .i64 v0.1.2]) ++ ([Value.bool v0.2.1] ++ ([Value.int .i64 v0.2.2.1] ++ ([Value.slice A0_3 v0.2.2.2.1.length c0_3] ++ ([Value.map (some r0_4)] ++ [Value.slice A0_5 v0.2.2.2.2.2.length c0_5]))))))))) 1 (some (Ck.m1 r0_4 w0_4.1 A0_4 w0_4.2.length c0_4))) 2 (some (Ck.sl T24 A0_4 c0_4 w0_4.2)) ∧ alloc_Alloc_Commit.jo1 k v0 w0_4 = some r) ?_ ?_
  · skip
    refine cs_seq ?_
    refine cs_region (l := [_, _]) ?_
    refine ls_val (v := .pointer (some ⟨pg0, 0, none⟩)) rfl rfl (by kernel_rfl) (fun w => by kernel_rfl) ?_
    obtain ⟨t22, hc23, H⟩ := bind_some H
    refine ls_callb (fid := 48) (vals := #[.pointer (some ⟨pg0, 0, none⟩)]) (X := Unit) (fun x => .bool t22) (fun x => stl [Ck.var 66 pg0 ((([Value.int .i64 v0.1.1] ++ [Value.int .i64 v0.1.2]) ++ ([Value.bool v0.2.1] ++ ([Value.int .i64 v0.2.2.1] ++ ([Value.slice A0_3 v0.2.2.2.1.length c0_3] ++ ([Value.map (some r0_4)] ++ [Value.slice A0_5 v0.2.2.2.2.2.length c0_5])))))), Ck.m1 r0_4 w0_4.1 A0_4 w0_4.2.length c0_4, Ck.sl T24 A0_4 c0_4 w0_4.2]) [0, 1, 2] [] [Ck.var 66 pg0 ((([Value.int .i64 v0.1.1] ++ [Value.int .i64 v0.1.2]) ++ ([Value.bool v0.2.1] ++ ([Value.int .i64 v0.2.2.1] ++ ([Value.slice A0_3 v0.2.2.2.1.length c0_3] ++ ([Value.map (some r0_4)] ++ [Value.slice A0_5 v0.2.2.2.2.2.length c0_5])))))), Ck.m1 r0_4 w0_4.1 A0_4 w0_4.2.length c0_4, Ck.sl T24 A0_4 c0_4 w0_4.2] [] 3 rfl rfl (by kernel_rfl) (fun w => by kernel_rfl) ⟨by exact rfl, by exact rfl, by exact rfl, trivial⟩ trivial (by decide) (fun w hs hb => alloc_Alloc_none.calls k pg0 A0_3 c0_3 r0_4 A0_5 c0_5 (v0.1, v0.2.1, v0.2.2.1, v0.2.2.2.1, (), v0.2.2.2.2.2) A0_4 c0_4 (w0_4.1, w0_4.2) t22 (lent b w [Ck.var 66 pg0 ((([Value.int .i64 v0.1.1] ++ [Value.int .i64 v0.1.2]) ++ ([Value.bool v0.2.1] ++ ([Value.int .i64 v0.2.2.1] ++ ([Value.slice A0_3 v0.2.2.2.1.length c0_3] ++ ([Value.map (some r0_4)] ++ [Value.slice A0_5 v0.2.2.2.2.2.length c0_5])))))), Ck.m1 r0_4 w0_4.1 A0_4 w0_4.2.length c0_4, Ck.sl T24 A0_4 c0_4 w0_4.2] []) hb (hs.ro R0_3 _ _) C0_3 (hs.ro R0_5 _ _) C0_5 hc23) ?_
    intro x24
    refine ls_end ?_
    refine qn_then ?_
    by_cases q25 : t22 = true
    · replace H := ite_t q25 H
      refine cs_know (c := true) (q25) 7 (by kernel_rfl) ?_
      refine cs_true (by kernel_rfl) ?_
      refine cs_ret' ?_
      refine qr_then ?_
      obtain rfl := Option.some.inj H
      refine qr_res (rs := []) rfl (fun w' hs => ⟨[], (.nil), b, (Bs.le.refl b), ((A0_3, c0_3), (A0_5, c0_5), (A0_4, c0_4)), rfl, ⟨⟨R0_3, C0_3⟩, ⟨R0_5, C0_5⟩⟩, hs.pick (ts := [0, 1, 2]) (cs := [Ck.var 66 pg0 ((([Value.int .i64 v0.1.1] ++ [Value.int .i64 v0.1.2]) ++ ([Value.bool v0.2.1] ++ ([Value.int .i64 v0.2.2.1] ++ ([Value.slice A0_3 v0.2.2.2.1.length c0_3] ++ ([Value.map (some r0_4)] ++ [Value.slice A0_5 v0.2.2.2.2.2.length c0_5])))))), Ck.m1 r0_4 w0_4.1 A0_4 w0_4.2.length c0_4, Ck.sl T24 A0_4 c0_4 w0_4.2]) ⟨by exact rfl, by exact rfl, by exact rfl, trivial⟩ (by decide)⟩)
    · replace H := ite_f q25 H
      refine cs_know (c := false) (Bool.eq_false_iff.mpr q25) 7 (by kernel_rfl) ?_
      refine cs_false (by kernel_rfl) ?_
      refine cs_skip' ?_
      refine qn_meet (sput (sput (sput s0 0 (some (Ck.var 66 pg0 ((([Value.int .i64 v0.1.1] ++ [Value.int .i64 v0.1.2]) ++ ([Value.bool v0.2.1] ++ ([Value.int .i64 v0.2.2.1] ++ ([Value.slice A0_3 v0.2.2.2.1.length c0_3] ++ ([Value.map (some r0_4)] ++ [Value.slice A0_5 v0.2.2.2.2.2.length c0_5]))))))))) 1 (some (Ck.m1 r0_4 w0_4.1 A0_4 w0_4.2.length c0_4))) 2 (some (Ck.sl T24 A0_4 c0_4 w0_4.2))) ⟨_, fr_next (rfl) (by kernel_rfl), rfl, H⟩ (sub_put (by exact rfl) (sub_put (by exact rfl) (sub_put (by exact rfl) (sub_nil _))))
  · rintro f S ⟨fr1, rfl, rfl, H⟩
    replace H : ((if w0_4.1 = true then alloc_Alloc_Commit.lo2 w0_4 k (0 : Int) (v0.1, v0.2.1, v0.2.2.1, v0.2.2.2.1, (), v0.2.2.2.2.2) else some ((v0.1, v0.2.1, v0.2.2.1, v0.2.2.2.1, (), v0.2.2.2.1), (false, w0_4.2)))) = some r := H
    refine cs_seq ?_
    refine cs_seq ?_
    refine cs_region (l := [_, _, _, _, _]) ?_
    refine ls_val (v := .pointer (some ⟨pg0, 0, none⟩)) rfl rfl (by kernel_rfl) (fun w => by kernel_rfl) ?_
    refine ls_val (v := .pointer (some ⟨pg0, 0, none⟩)) rfl rfl (by kernel_rfl) (fun w => by kernel_rfl) ?_
    refine ls_val (v := .pointer (some ⟨pg0, (0 + 5), none⟩)) rfl rfl (by kernel_rfl) (fun w => by kernel_rfl) ?_
    refine ls_load (a0 := ⟨pg0, (0 + 5), none⟩) (v := .map (some r0_4)) (de := (TypeDesc.map 3 22)) rfl rfl (by kernel_rfl) rfl (by kernel_rfl) (by kernel_rfl) (by kernel_rfl) (fun w hs => (hs.var (k := 0) (by exact rfl) (Sub4.trans (Sub4.all _) (Sub4.skip (n := 2) (len_app (len1 _) (len1 _)) (Sub4.skip (n := 1) (len1 _) (Sub4.skip (n := 1) (len1 _) (Sub4.skip (n := 1) (len1 _) (Sub4.head _ _)))))))) ?_
    refine ls_m1open (r := r0_4) (p := w0_4.1) (A := A0_4) (m := w0_4.2.length) (c := c0_4) 1 (by exact rfl) ?_
    intro bo1 cl2 hb3 hp4
    refine ls_m1range (r := r0_4) (p := w0_4.1) (A := A0_4) (m := w0_4.2.length) (c := c0_4) (kt := 3) (et := 22) (born := bo1) (clock := cl2) 1 3 rfl rfl (by kernel_rfl) rfl (by kernel_rfl) (by kernel_rfl) (by exact rfl) ?_
    intro g5
    refine ls_end ?_
    refine qn_then ?_
    refine cs_block ?_
    refine cs_rounds 3 ?_
    refine rs_succ ?_
    refine cs_seq ?_
    refine cs_region (l := [_, _]) ?_
    by_cases q6 : w0_4.1 = true
    · replace H := ite_t q6 H
      refine ls_m1xp (r := r0_4) (p := w0_4.1) (A := A0_4) (m := w0_4.2.length) (c := c0_4) (born := bo1) (clock := cl2) (p' := true) 1 q6 (by exact rfl) ?_
      refine ls_m1next (r := r0_4) (A := A0_4) (m := w0_4.2.length) (c := c0_4) (born := bo1) (clock := cl2) (g := g5) 1 3 rfl rfl (by kernel_rfl) rfl rfl (by kernel_rfl) (by exact rfl) (by exact rfl) (hb3 q6) ?_
      refine ls_val (v := .bool true) rfl rfl (by kernel_rfl) (fun w => by kernel_rfl) ?_
      refine ls_end ?_
      refine qn_then ?_
      refine cs_seq ?_
      refine cs_true (by kernel_rfl) ?_
      refine cs_skip' ?_
      refine qn_then ?_
      refine cs_block ?_
      refine cs_seq ?_
      refine cs_region (l := [_, _, _, _, _]) ?_
      refine ls_m1entry (r := r0_4) (A := A0_4) (m := w0_4.2.length) (c := c0_4) (born := bo1) (clock := cl2) (g := g5) 1 3 rfl rfl (by kernel_rfl) rfl (by kernel_rfl) (by exact rfl) (by exact rfl) ?_
      refine ls_val (v := .int .i64 (1 : Int)) rfl rfl (by kernel_rfl) (fun w => by kernel_rfl) ?_
      refine ls_val (v := .slice A0_4 w0_4.2.length c0_4) rfl rfl (by kernel_rfl) (fun w => by kernel_rfl) ?_
      refine ls_val (v := .int .i64 (1 : Int)) rfl rfl (by kernel_rfl) (fun w => by kernel_rfl) ?_
      refine ls_val (v := .slice A0_4 w0_4.2.length c0_4) rfl rfl (by kernel_rfl) (fun w => by kernel_rfl) ?_
      refine ls_end ?_
      refine qn_then ?_
      refine cs_seq ?_
      refine cs_seq ?_
      refine cs_region (l := [_, _, _]) ?_
      refine ls_val (v := .slice A0_4 w0_4.2.length c0_4) rfl rfl (by kernel_rfl) (fun w => by kernel_rfl) ?_
      refine ls_val (v := .int .i64 (w0_4.2.length : Int)) rfl rfl (by kernel_rfl) (fun w => by kernel_rfl) ?_
      refine ls_val (v := .int .i64 (0 : Int)) rfl rfl (by kernel_rfl) (fun w => by kernel_rfl) ?_
      refine ls_end ?_
      refine qn_then ?_
      refine cs_block ?_
      refine cs_sub (sput (sput (sput (sput s0 0 (some (Ck.var 66 pg0 ((([Value.int .i64 v0.1.1] ++ [Value.int .i64 v0.1.2]) ++ ([Value.bool v0.2.1] ++ ([Value.int .i64 v0.2.2.1] ++ ([Value.slice A0_3 v0.2.2.2.1.length c0_3] ++ ([Value.map (some r0_4)] ++ [Value.slice A0_5 v0.2.2.2.2.2.length c0_5]))))))))) 1 (some (Ck.m1x r0_4 true A0_4 w0_4.2.length c0_4 bo1 cl2))) 2 (some (Ck.sl T24 A0_4 c0_4 w0_4.2))) 3 (some (Ck.obj g5 (.mapIter (some r0_4) cl2 #[bo1] cl2)))) (sub_put (by exact rfl) (sub_put (by exact rfl) (sub_put (by exact rfl) (sub_put (by exact rfl) (sub_nil _))))) ?_
      refine cs_loopb (fun kk bh2 f S => ∃ (fR : Fr) (x20_2 : Int) (Am0_2_3 : Option Addr) (cm0_2_3 : Nat) (Am0_2_5 : Option Addr) (cm0_2_5 : Nat) (m0_2 : ((Int × Int) × Bool × Int × (List (Int × Int)) × Unit × (List (Int × Int)))), f = upd (upd (upd (upd (upd (upd fR 0 (.pointer (some ⟨pg0, 0, none⟩))) 2 (.int .i64 (1 : Int))) 12 (.pointer (some ⟨g5, 0, none⟩))) 18 (.slice A0_4 w0_4.2.length c0_4)) 19 (.int .i64 (w0_4.2.length : Int))) 20 (.int .i64 x20_2) ∧ S = sput (sput (sput (sput s0 0 (some (Ck.var 66 pg0 ((([Value.int .i64 m0_2.1.1] ++ [Value.int .i64 m0_2.1.2]) ++ ([Value.bool m0_2.2.1] ++ ([Value.int .i64 m0_2.2.2.1] ++ ([Value.slice Am0_2_3 m0_2.2.2.2.1.length cm0_2_3] ++ ([Value.map (some r0_4)] ++ [Value.slice Am0_2_5 m0_2.2.2.2.2.2.length cm0_2_5]))))))))) 1 (some (Ck.m1x r0_4 true A0_4 w0_4.2.length c0_4 bo1 cl2))) 2 (some (Ck.sl T24 A0_4 c0_4 w0_4.2))) 3 (some (Ck.obj g5 (.mapIter (some r0_4) cl2 #[bo1] cl2))) ∧ Ro bh2 Am0_2_3 (em T24 m0_2.2.2.2.1) ∧ m0_2.2.2.2.1.length ≤ cm0_2_3 ∧ Ro bh2 Am0_2_5 (em T24 m0_2.2.2.2.2.2) ∧ m0_2.2.2.2.2.2.length ≤ cm0_2_5 ∧ b.le bh2 ∧ alloc_Alloc_Commit.lo2 w0_4 kk x20_2 m0_2 = some r) k ?_ ?_ ?_
      · exact ⟨_, (0 : Int), A0_3, c0_3, A0_5, c0_5, (v0.1, v0.2.1, v0.2.2.1, v0.2.2.2.1, (), v0.2.2.2.2.2), fr_next (fr_next (fr_next (fr_next (fr_next (fr_next (rfl) (by kernel_rfl)) (by kernel_rfl)) (by kernel_rfl)) (by kernel_rfl)) (by kernel_rfl)) (by kernel_rfl), rfl, R0_3, C0_3, R0_5, C0_5, (Bs.le.refl b), H⟩
      · rintro bh2 f S ⟨fr2, x20_2, Am0_2_3, cm0_2_3, Am0_2_5, cm0_2_5, m0_2, rfl, rfl, Rm0_2_3, Cm0_2_3, Rm0_2_5, Cm0_2_5, hleh2, H⟩; cases H
      · rintro k2 bh2 f S ⟨fr2, x20_2, Am0_2_3, cm0_2_3, Am0_2_5, cm0_2_5, m0_2, rfl, rfl, Rm0_2_3, Cm0_2_3, Rm0_2_5, Cm0_2_5, hleh2, H⟩
        replace H : ((if x20_2 < (w0_4.2.length : Int) then (if 0 ≤ x20_2 then (extent_Add.f k2 m0_2.2.2.2.1 ((w0_4.2).getD (x20_2).toNat ((0 : Int), (0 : Int)))).bind fun t14 => (alloc_Alloc_Commit.lo2 w0_4 k2) (IntKind.wrap .i64 (x20_2 + (1 : Int))) (m0_2.1, m0_2.2.1, m0_2.2.2.1, t14, (), m0_2.2.2.2.2.2) else none) else some ((m0_2.1, m0_2.2.1, m0_2.2.2.1, m0_2.2.2.2.1, (), m0_2.2.2.2.1), (false, ([] : List (Int × Int)))))) = some r := H
        refine cs_seq ?_
        refine cs_region (l := [_]) ?_
        refine ls_val (v := .bool (decide (x20_2 < (w0_4.2.length : Int)))) rfl rfl (by kernel_rfl) (fun w => by kernel_rfl) ?_
        refine ls_end ?_
        refine qn_then ?_
        refine cs_seq ?_
        by_cases q7 : x20_2 < (w0_4.2.length : Int)
        · replace H := ite_t q7 H
          refine cs_know (c := true) (dec_t q7) 21 (by kernel_rfl) ?_
          refine cs_true (by kernel_rfl) ?_
          refine cs_skip' ?_
          refine qn_then ?_
          refine cs_seq ?_
          refine cs_block ?_
          refine cs_seq ?_
          refine cs_region (l := [_, _, _, _]) ?_
          obtain ⟨q8, H⟩ := ite_need H
          refine ls_at (T := T24) (tk := 2) (i := x20_2) (by exact rfl) q8 q7 ?_
          intro ad9 hA10
          refine ls_idxv T24 (A := A0_4) (c := c0_4) (l := w0_4.2) (k := .i64) (i := x20_2) (z := 2) (ad := ad9) rfl rfl (by kernel_rfl) hA10 rfl (by kernel_rfl) (by kernel_rfl) (by kernel_rfl) (by kernel_rfl) q8 q7 ?_
          refine ls_loadagg (a := (ad9.add ((x20_2).toNat * 2))) (sub := ([Value.int .i64 (((w0_4.2).getD (x20_2).toNat ((0 : Int), (0 : Int))).1)] ++ [Value.int .i64 (((w0_4.2).getD (x20_2).toNat ((0 : Int), (0 : Int))).2)])) rfl rfl (by kernel_rfl) rfl (by kernel_rfl) (by kernel_rfl) (by kernel_rfl) (len_app (len1 _) (len1 _)) (fun w hs => (hs.rd (k := 2) (by exact rfl)).part hA10 (em_sub T24 w0_4.2 (i := (x20_2).toNat) (by have h0 : (0 : Int) ≤ x20_2 := q8; have h1 : x20_2 < (w0_4.2.length : Int) := q7; omega))) ?_
          refine ls_new rfl rfl (by kernel_rfl) 4 (fun g => .pointer (some ⟨g, 0, none⟩)) (.cells ⟨([Value.int .i64 (0 : Int)] ++ [Value.int .i64 (0 : Int)])⟩ 24) (fun w => by kernel_rfl) ?_
          intro g11
          refine ls_storec (g := g11) (off := 0) (v := .agg ⟨([Value.int .i64 (((w0_4.2).getD (x20_2).toNat ((0 : Int), (0 : Int))).1)] ++ [Value.int .i64 (((w0_4.2).getD (x20_2).toNat ((0 : Int), (0 : Int))).2)])⟩) (vs := ([Value.int .i64 (((w0_4.2).getD (x20_2).toNat ((0 : Int), (0 : Int))).1)] ++ [Value.int .i64 (((w0_4.2).getD (x20_2).toNat ((0 : Int), (0 : Int))).2)])) (cs := ([Value.int .i64 (0 : Int)] ++ [Value.int .i64 (0 : Int)])) (ty := 24) 4 rfl rfl rfl (by kernel_rfl) (by kernel_rfl) (by kernel_rfl) (by exact rfl) (by kernel_rfl) (len_app (len1 _) (len1 _)) (one_app (one_cons rfl one_nil) (one_cons rfl one_nil)) (hl_of (Sub4.all _) (len_eq (len_app (len1 _) (len1 _)) (len_app (len1 _) (len1 _)))) (cs' := ([Value.int .i64 (((w0_4.2).getD (x20_2).toNat ((0 : Int), (0 : Int))).1)] ++ [Value.int .i64 (((w0_4.2).getD (x20_2).toNat ((0 : Int), (0 : Int))).2)])) (splc_all (len_eq (len_app (len1 _) (len1 _)) (len_app (len1 _) (len1 _)))) ?_
          refine ls_end ?_
          refine qn_then ?_
          obtain ⟨s13_0, hs13_0⟩ : ∃ z : Value → Sto → Prop, z = (fun v R => v = .pointer (some ⟨pg0, 0, none⟩) ∧ R = s0) := ⟨_, rfl⟩
          refine have_op (l := [_, _, _, _, _, _, _, _, _, _]) alloc_Alloc_Commit.tab11 5 0 (fun sp => sp 0 = s13_0) (fun sp on hA hon => ?_) (fun ops13_0 => ?_)
          · refine ⟨fun o ho vs Rs f' S' w hp hf hx hS hR hs => ?_⟩
            obtain rfl := Option.some.inj ho
            rw [hA, hs13_0]
            refine And.intro (fun a ha => (want_none rfl a ha).trans hon.symm) (And.intro (fun _ => ?_) (fun h => by rw [hon] at h; cases h))
            have hF := fr_next (rfl) ((hx 0 (by kernel_rfl)).trans (by kernel_rfl : (_ : Value) = .pointer (some ⟨pg0, 0, none⟩)))
            refine ls_fr hF ?_
            refine ls_val (v := .pointer (some ⟨pg0, 0, none⟩)) rfl rfl (by kernel_rfl) (fun w => by kernel_rfl) ?_
            exact ls_fin s0 (.pointer (some ⟨pg0, 0, none⟩)) (congrArg (fun z => upd z 24 _) hF.symm) ⟨rfl, rfl⟩ (sub_nil _)
          obtain ⟨s13_1, hs13_1⟩ : ∃ z : Value → Sto → Prop, z = (fun v R => v = .pointer (some ⟨pg0, 0, none⟩) ∧ R = s0) := ⟨_, rfl⟩
          refine have_op (l := [_, _, _, _, _, _, _, _, _, _]) alloc_Alloc_Commit.tab11 5 1 (fun sp => sp 1 = s13_1) (fun sp on hA hon => ?_) (fun ops13_1 => ?_)
          · refine ⟨fun o ho vs Rs f' S' w hp hf hx hS hR hs => ?_⟩
            obtain rfl := Option.some.inj ho
            rw [hA, hs13_1]
            refine And.intro (fun a ha => (want_none rfl a ha).trans hon.symm) (And.intro (fun _ => ?_) (fun h => by rw [hon] at h; cases h))
            have hF := fr_next (rfl) ((hx 0 (by kernel_rfl)).trans (by kernel_rfl : (_ : Value) = .pointer (some ⟨pg0, 0, none⟩)))
            refine ls_fr hF ?_
            refine ls_val (v := .pointer (some ⟨pg0, 0, none⟩)) rfl rfl (by kernel_rfl) (fun w => by kernel_rfl) ?_
            exact ls_fin s0 (.pointer (some ⟨pg0, 0, none⟩)) (congrArg (fun z => upd z 25 _) hF.symm) ⟨rfl, rfl⟩ (sub_nil _)
          obtain ⟨s13_2, hs13_2⟩ : ∃ z : Value → Sto → Prop, z = (fun v R => v = .pointer (some ⟨pg0, 0, none⟩) ∧ R = s0) := ⟨_, rfl⟩
          refine have_op (l := [_, _, _, _, _, _, _, _, _, _]) alloc_Alloc_Commit.tab11 5 2 (fun sp => sp 2 = s13_2 ∧ sp 1 = s13_1) (fun sp on hA hon => ?_) (fun ops13_2 => ?_)
          · refine ⟨fun o ho vs Rs f' S' w hp hf hx hS hR hs => ?_⟩
            obtain rfl := Option.some.inj ho
            obtain ⟨hv1, hR1⟩ := (spe hA.2 hs13_1 (hp 1 (by kernel_rfl)))
            rw [hA.1, hs13_2]
            refine And.intro (fun a ha => (want_none rfl a ha).trans hon.symm) (And.intro (fun _ => ?_) (fun h => by rw [hon] at h; cases h))
            have hF := fr_next (rfl) ((hf 1 25 (by kernel_rfl) rfl).trans hv1)
            refine ls_fr hF ?_
            refine ls_val (v := .pointer (some ⟨pg0, 0, none⟩)) rfl rfl (by kernel_rfl) (fun w => by kernel_rfl) ?_
            exact ls_fin s0 (.pointer (some ⟨pg0, 0, none⟩)) (congrArg (fun z => upd z 26 _) hF.symm) ⟨rfl, rfl⟩ (sub_nil _)
          obtain ⟨s13_3, hs13_3⟩ : ∃ z : Value → Sto → Prop, z = (fun v R => v = .pointer (some ⟨pg0, (0 + 4), none⟩) ∧ R = s0) := ⟨_, rfl⟩
          refine have_op (l := [_, _, _, _, _, _, _, _, _, _]) alloc_Alloc_Commit.tab11 5 3 (fun sp => sp 3 = s13_3 ∧ sp 2 = s13_2) (fun sp on hA hon => ?_) (fun ops13_3 => ?_)
          · refine ⟨fun o ho vs Rs f' S' w hp hf hx hS hR hs => ?_⟩
            obtain rfl := Option.some.inj ho
            obtain ⟨hv2, hR2⟩ := (spe hA.2 hs13_2 (hp 2 (by kernel_rfl)))
            rw [hA.1, hs13_3]
            refine And.intro (fun a ha => (want_none rfl a ha).trans hon.symm) (And.intro (fun _ => ?_) (fun h => by rw [hon] at h; cases h))
            have hF := fr_next (rfl) ((hf 2 26 (by kernel_rfl) rfl).trans hv2)
            refine ls_fr hF ?_
            refine ls_val (v := .pointer (some ⟨pg0, (0 + 4), none⟩)) rfl rfl (by kernel_rfl) (fun w => by kernel_rfl) ?_
            exact ls_fin s0 (.pointer (some ⟨pg0, (0 + 4), none⟩)) (congrArg (fun z => upd z 27 _) hF.symm) ⟨rfl, rfl⟩ (sub_nil _)
          obtain ⟨s13_4, hs13_4⟩ : ∃ z : Value → Sto → Prop, z = (fun v R => v = .slice Am0_2_3 m0_2.2.2.2.1.length cm0_2_3 ∧ R = s0) := ⟨_, rfl⟩
          refine have_op (l := [_, _, _, _, _, _, _, _, _, _]) alloc_Alloc_Commit.tab11 5 4 (fun sp => sp 4 = s13_4 ∧ sp 3 = s13_3) (fun sp on hA hon => ?_) (fun ops13_4 => ?_)
          · refine ⟨fun o ho vs Rs f' S' w hp hf hx hS hR hs => ?_⟩
            obtain rfl := Option.some.inj ho
            obtain ⟨hv3, hR3⟩ := (spe hA.2 hs13_3 (hp 3 (by kernel_rfl)))
            rw [hA.1, hs13_4]
            refine And.intro (fun a ha => (want_none rfl a ha).trans hon.symm) (And.intro (fun _ => ?_) (fun h => by rw [hon] at h; cases h))
            have hF := fr_next (rfl) ((hf 3 27 (by kernel_rfl) rfl).trans hv3)
            refine ls_fr hF ?_
            refine ls_load (a0 := ⟨pg0, (0 + 4), none⟩) (v := .slice Am0_2_3 m0_2.2.2.2.1.length cm0_2_3) (de := (TypeDesc.slice 24)) rfl rfl (by kernel_rfl) rfl (by kernel_rfl) (by kernel_rfl) (by kernel_rfl) (fun w1 hs1 => cell_step hs1.below.bw (hs.var (k := 0) ((hS 0 (by kernel_rfl)).trans (by exact rfl)) (Sub4.trans (Sub4.all _) (Sub4.skip (n := 2) (len_app (len1 _) (len1 _)) (Sub4.skip (n := 1) (len1 _) (Sub4.skip (n := 1) (len1 _) (Sub4.head _ _))))))) ?_
            exact ls_fin s0 (.slice Am0_2_3 m0_2.2.2.2.1.length cm0_2_3) (congrArg (fun z => upd z 28 _) hF.symm) ⟨rfl, rfl⟩ (sub_nil _)
          obtain ⟨s13_5, hs13_5⟩ : ∃ z : Value → Sto → Prop, z = (fun v R => v = .agg ⟨([Value.int .i64 (((w0_4.2).getD (x20_2).toNat ((0 : Int), (0 : Int))).1)] ++ [Value.int .i64 (((w0_4.2).getD (x20_2).toNat ((0 : Int), (0 : Int))).2)])⟩ ∧ R = s0) := ⟨_, rfl⟩
          refine have_op (l := [_, _, _, _, _, _, _, _, _, _]) alloc_Alloc_Commit.tab11 5 5 (fun sp => sp 5 = s13_5) (fun sp on hA hon => ?_) (fun ops13_5 => ?_)
          · refine ⟨fun o ho vs Rs f' S' w hp hf hx hS hR hs => ?_⟩
            obtain rfl := Option.some.inj ho
            rw [hA, hs13_5]
            refine And.intro (fun a ha => (want_none rfl a ha).trans hon.symm) (And.intro (fun _ => ?_) (fun h => by rw [hon] at h; cases h))
            have hF := fr_next (rfl) ((hx 5 (by kernel_rfl)).trans (by kernel_rfl : (_ : Value) = .pointer (some ⟨g11, 0, none⟩)))
            refine ls_fr hF ?_
            refine ls_loadagg (a := ⟨g11, 0, none⟩) (sub := ([Value.int .i64 (((w0_4.2).getD (x20_2).toNat ((0 : Int), (0 : Int))).1)] ++ [Value.int .i64 (((w0_4.2).getD (x20_2).toNat ((0 : Int), (0 : Int))).2)])) rfl rfl (by kernel_rfl) rfl (by kernel_rfl) (by kernel_rfl) (by kernel_rfl) (len_app (len1 _) (len1 _)) (fun w1 hs1 => Rd.step (hs.vars (k := 4) ((hS 4 (by kernel_rfl)).trans (by exact rfl)) (Sub4.all _)) hs1.below.bw) ?_
            exact ls_fin s0 (.agg ⟨([Value.int .i64 (((w0_4.2).getD (x20_2).toNat ((0 : Int), (0 : Int))).1)] ++ [Value.int .i64 (((w0_4.2).getD (x20_2).toNat ((0 : Int), (0 : Int))).2)])⟩) (congrArg (fun z => upd z 29 _) hF.symm) ⟨rfl, rfl⟩ (sub_nil _)
          obtain ⟨t14, hc15, H⟩ := bind_some H
          obtain ⟨s13_6, hs13_6⟩ : ∃ z : Value → Sto → Prop, z = (fun v R => ∃ x16 : (Option Addr × Nat), v = .slice x16.1 t14.length x16.2 ∧ R = stl [Ck.sl T24 x16.1 x16.2 t14]) := ⟨_, rfl⟩
          refine have_op (l := [_, _, _, _, _, _, _, _, _, _]) alloc_Alloc_Commit.tab11 5 6 (fun sp => sp 6 = s13_6 ∧ sp 4 = s13_4 ∧ sp 5 = s13_5) (fun sp on hA hon => ?_) (fun ops13_6 => ?_)
          · refine ⟨fun o ho vs Rs f' S' w hp hf hx hS hR hs => ?_⟩
            obtain rfl := Option.some.inj ho
            obtain ⟨hv4, hR4⟩ := (spe hA.2.1 hs13_4 (hp 4 (by kernel_rfl)))
            obtain ⟨hv5, hR5⟩ := (spe hA.2.2 hs13_5 (hp 5 (by kernel_rfl)))
            rw [hA.1, hs13_6]
            refine And.intro (fun a ha => (want_none rfl a ha).trans hon.symm) (And.intro (fun _ => ?_) (fun h => by rw [hon] at h; cases h))
            have hF := fr_next (fr_next (rfl) ((hf 4 28 (by kernel_rfl) rfl).trans hv4)) ((hf 5 29 (by kernel_rfl) rfl).trans hv5)
            refine ls_fr hF ?_
            refine ls_call (fid := 13) (vals := #[.slice Am0_2_3 m0_2.2.2.2.1.length cm0_2_3, .agg ⟨([Value.int .i64 (((w0_4.2).getD (x20_2).toNat ((0 : Int), (0 : Int))).1)] ++ [Value.int .i64 (((w0_4.2).getD (x20_2).toNat ((0 : Int), (0 : Int))).2)])⟩]) (X := (Option Addr × Nat)) (fun x => .slice x.1 t14.length x.2) (fun x => stl [Ck.sl T24 x.1 x.2 t14]) 0 rfl rfl (by kernel_rfl) (fun w => by kernel_rfl) (fun w1 hs1 => extent_Add.calls k2 Am0_2_3 cm0_2_3 m0_2.2.2.2.1 ((w0_4.2).getD (x20_2).toNat ((0 : Int), (0 : Int))) t14 (bw w1) (St.refl w1) (Rd.ro (Rd.step (hs.old Rm0_2_3) hs1.below.bw)) Cm0_2_3 hc15) ?_
            intro x16
            exact ls_fin (stl [Ck.sl T24 x16.1 x16.2 t14]) (.slice x16.1 t14.length x16.2) (congrArg (fun z => upd z 30 _) hF.symm) ⟨x16, rfl, rfl⟩ (sub_join _)
          refine cs_draw alloc_Alloc_Commit.tab11 7 5 (spl [s13_0, s13_1, s13_2, s13_3, s13_4, s13_5, s13_6]) (onl [true, true, true, true, true, true, true]) (by kernel_rfl) (by kernel_rfl) (by kernel_rfl) (by kernel_rfl) (rs := [_, _, _]) rfl (by kernel_rfl) (by kernel_rfl) (all_snoc (all_snoc (all_snoc (all_snoc (all_snoc (all_snoc (all_snoc (all_nil) (ops13_0 _ _ rfl rfl)) (ops13_1 _ _ rfl rfl)) (ops13_2 _ _ ⟨rfl, rfl⟩ rfl)) (ops13_3 _ _ ⟨rfl, rfl⟩ rfl)) (ops13_4 _ _ ⟨rfl, rfl⟩ rfl)) (ops13_5 _ _ rfl rfl)) (ops13_6 _ _ ⟨rfl, rfl, rfl⟩ rfl)) ?_
          intro vs Rs f' S' hp hf hx hS hR
          obtain ⟨hv0, hR0⟩ := (spe rfl hs13_0 (hp 0 (by kernel_rfl)))
          obtain ⟨x16, hv6, hR6⟩ := (spe rfl hs13_6 (hp 6 (by kernel_rfl)))
          have hT6_0 := (hR 6 0 (by kernel_rfl) (by decide)).trans (congrFun hR6 0)
          refine ls_fr (F := upd (upd (upd (upd (upd (upd (upd (upd f' 0 (.pointer (some ⟨pg0, 0, none⟩))) 2 (.int .i64 (1 : Int))) 12 (.pointer (some ⟨g5, 0, none⟩))) 18 (.slice A0_4 w0_4.2.length c0_4)) 19 (.int .i64 (w0_4.2.length : Int))) 20 (.int .i64 x20_2)) 24 (.pointer (some ⟨pg0, 0, none⟩))) 30 (.slice x16.1 t14.length x16.2)) (fr_next (fr_next (fr_next (fr_next (fr_next (fr_next (fr_next (fr_next (rfl) ((hx 0 (by kernel_rfl)).trans (by kernel_rfl : (_ : Value) = .pointer (some ⟨pg0, 0, none⟩)))) ((hx 2 (by kernel_rfl)).trans (by kernel_rfl : (_ : Value) = .int .i64 (1 : Int)))) ((hx 12 (by kernel_rfl)).trans (by kernel_rfl : (_ : Value) = .pointer (some ⟨g5, 0, none⟩)))) ((hx 18 (by kernel_rfl)).trans (by kernel_rfl : (_ : Value) = .slice A0_4 w0_4.2.length c0_4))) ((hx 19 (by kernel_rfl)).trans (by kernel_rfl : (_ : Value) = .int .i64 (w0_4.2.length : Int)))) ((hx 20 (by kernel_rfl)).trans (by kernel_rfl : (_ : Value) = .int .i64 x20_2))) ((hf 0 24 (by kernel_rfl) rfl).trans hv0)) ((hf 6 30 (by kernel_rfl) rfl).trans hv6)) ?_
          refine ls_sub (sput (sput (sput (sput (sput s0 0 (some (Ck.var 66 pg0 ((([Value.int .i64 m0_2.1.1] ++ [Value.int .i64 m0_2.1.2]) ++ ([Value.bool m0_2.2.1] ++ ([Value.int .i64 m0_2.2.2.1] ++ ([Value.slice Am0_2_3 m0_2.2.2.2.1.length cm0_2_3] ++ ([Value.map (some r0_4)] ++ [Value.slice Am0_2_5 m0_2.2.2.2.2.2.length cm0_2_5]))))))))) 1 (some (Ck.m1x r0_4 true A0_4 w0_4.2.length c0_4 bo1 cl2))) 2 (some (Ck.sl T24 A0_4 c0_4 w0_4.2))) 3 (some (Ck.obj g5 (.mapIter (some r0_4) cl2 #[bo1] cl2)))) 53 (some (Ck.sl T24 x16.1 x16.2 t14))) (sub_put (by exact hT6_0) (sub_put ((hS 3 (by kernel_rfl)).trans (by exact rfl)) (sub_put ((hS 2 (by kernel_rfl)).trans (by exact rfl)) (sub_put ((hS 1 (by kernel_rfl)).trans (by exact rfl)) (sub_put ((hS 0 (by kernel_rfl)).trans (by exact rfl)) (sub_nil _)))))) ?_
          refine ls_val (v := .pointer (some ⟨pg0, 0, none⟩)) rfl rfl (by kernel_rfl) (fun w => by kernel_rfl) ?_
          refine ls_val (v := .pointer (some ⟨pg0, (0 + 4), none⟩)) rfl rfl (by kernel_rfl) (fun w => by kernel_rfl) ?_
          refine ls_storec (g := pg0) (off := (0 + 4)) (v := .slice x16.1 t14.length x16.2) (vs := [Value.slice x16.1 t14.length x16.2]) (cs := (([Value.int .i64 m0_2.1.1] ++ [Value.int .i64 m0_2.1.2]) ++ ([Value.bool m0_2.2.1] ++ ([Value.int .i64 m0_2.2.2.1] ++ ([Value.slice Am0_2_3 m0_2.2.2.2.1.length cm0_2_3] ++ ([Value.map (some r0_4)] ++ [Value.slice Am0_2_5 m0_2.2.2.2.2.2.length cm0_2_5])))))) (ty := 66) 0 rfl rfl rfl (by kernel_rfl) (by kernel_rfl) (by kernel_rfl) (by exact rfl) (by kernel_rfl) (len1 _) (one_cons rfl one_nil) (hl_of (Sub4.trans (Sub4.all _) (Sub4.skip (n := 2) (len_app (len1 _) (len1 _)) (Sub4.skip (n := 1) (len1 _) (Sub4.skip (n := 1) (len1 _) (Sub4.head _ _))))) (len_eq (len1 _) (len1 _))) (cs' := (([Value.int .i64 m0_2.1.1] ++ [Value.int .i64 m0_2.1.2]) ++ ([Value.bool m0_2.2.1] ++ ([Value.int .i64 m0_2.2.2.1] ++ ([Value.slice x16.1 t14.length x16.2] ++ ([Value.map (some r0_4)] ++ [Value.slice Am0_2_5 m0_2.2.2.2.2.2.length cm0_2_5])))))) (splc_in (Sub4.all _) (splc_skip (n := 2) (len_app (len1 _) (len1 _)) (splc_skip (n := 1) (len1 _) (splc_skip (n := 1) (len1 _) (splc_head (len_eq (len1 _) (len1 _)))))) (splc_all (len_eq (len_app (len_app (len1 _) (len1 _)) (len_app (len1 _) (len_app (len1 _) (len_app (len1 _) (len_app (len1 _) (len1 _)))))) (len_app (len_app (len1 _) (len1 _)) (len_app (len1 _) (len_app (len1 _) (len_app (len1 _) (len_app (len1 _) (len1 _)))))))) (hl_of (Sub4.skip (n := 2) (len_app (len1 _) (len1 _)) (Sub4.skip (n := 1) (len1 _) (Sub4.skip (n := 1) (len1 _) (Sub4.head _ _)))) (len_eq (len1 _) (len1 _)))) ?_
          refine ls_end ?_
          refine qn_block ?_
          refine qn_then ?_
          refine cs_region (l := [_, _]) ?_
          refine ls_val (v := .int .i64 (IntKind.wrap .i64 (x20_2 + (1 : Int)))) rfl rfl (by kernel_rfl) (fun w => by kernel_rfl) ?_
          refine ls_val (v := .int .i64 (IntKind.wrap .i64 (x20_2 + (1 : Int)))) rfl rfl (by kernel_rfl) (fun w => by kernel_rfl) ?_
          refine ls_end ?_
          refine qn_freeze (T := T24) (A := x16.1) (c := x16.2) (l := t14) 53 (by exact rfl) ?_
          intro bs17 hle18 hok19 fR20 fC21
          refine qn_againb k2 (sput (sput (sput (sput s0 0 (some (Ck.var 66 pg0 ((([Value.int .i64 m0_2.1.1] ++ [Value.int .i64 m0_2.1.2]) ++ ([Value.bool m0_2.2.1] ++ ([Value.int .i64 m0_2.2.2.1] ++ ([Value.slice x16.1 t14.length x16.2] ++ ([Value.map (some r0_4)] ++ [Value.slice Am0_2_5 m0_2.2.2.2.2.2.length cm0_2_5]))))))))) 1 (some (Ck.m1x r0_4 true A0_4 w0_4.2.length c0_4 bo1 cl2))) 2 (some (Ck.sl T24 A0_4 c0_4 w0_4.2))) 3 (some (Ck.obj g5 (.mapIter (some r0_4) cl2 #[bo1] cl2)))) (Nat.le_refl _) ⟨_, (IntKind.wrap .i64 (x20_2 + (1 : Int))), x16.1, x16.2, Am0_2_5, cm0_2_5, (m0_2.1, m0_2.2.1, m0_2.2.2.1, t14, (), m0_2.2.2.2.2.2), fr_next (fr_next (fr_next (fr_next (fr_next (fr_next (rfl) (by kernel_rfl)) (by kernel_rfl)) (by kernel_rfl)) (by kernel_rfl)) (by kernel_rfl)) (by kernel_rfl), rfl, fR20, fC21, (Ro.mono hok19 hle18 Rm0_2_5), Cm0_2_5, (hleh2.trans hle18), H⟩ (sub_put (by exact rfl) (sub_put (by exact rfl) (sub_put (by exact rfl) (sub_put (by exact rfl) (sub_nil _)))))
        · replace H := ite_f q7 H
          refine cs_know (c := false) (dec_f q7) 21 (by kernel_rfl) ?_
          refine cs_false (by kernel_rfl) ?_
          refine cs_exit' ?_
          refine qx_then ?_
          refine qx_then ?_
          refine qx_same ?_
          refine qn_then ?_
          refine cs_region (l := [_, _, _, _, _, _]) ?_
          refine ls_val (v := .pointer (some ⟨pg0, 0, none⟩)) rfl rfl (by kernel_rfl) (fun w => by kernel_rfl) ?_
          refine ls_val (v := .pointer (some ⟨pg0, 0, none⟩)) rfl rfl (by kernel_rfl) (fun w => by kernel_rfl) ?_
          refine ls_val (v := .pointer (some ⟨pg0, (0 + 5), none⟩)) rfl rfl (by kernel_rfl) (fun w => by kernel_rfl) ?_
          refine ls_load (a0 := ⟨pg0, (0 + 5), none⟩) (v := .map (some r0_4)) (de := (TypeDesc.map 3 22)) rfl rfl (by kernel_rfl) rfl (by kernel_rfl) (by kernel_rfl) (by kernel_rfl) (fun w hs => (hs.var (k := 0) (by exact rfl) (Sub4.trans (Sub4.all _) (Sub4.skip (n := 2) (len_app (len1 _) (len1 _)) (Sub4.skip (n := 1) (len1 _) (Sub4.skip (n := 1) (len1 _) (Sub4.skip (n := 1) (len1 _) (Sub4.head _ _)))))))) ?_
          refine ls_val (v := .int .i64 (1 : Int)) rfl rfl (by kernel_rfl) (fun w => by kernel_rfl) ?_
          refine ls_m1del (r := r0_4) (p := true) (A := A0_4) (m := w0_4.2.length) (c := c0_4) (et := 22) (kt := 3) (born := bo1) (clock := cl2) 1 rfl rfl rfl (by kernel_rfl) (by kernel_rfl) (by kernel_rfl) (by kernel_rfl) (by exact rfl) ?_
          refine ls_end ?_
          refine qn_block ?_
          refine qn_rounds ?_
          refine rs_succ ?_
          refine cs_seq ?_
          refine cs_region (l := [_, _]) ?_
          refine ls_m1over2 (r := r0_4) (p := false) (A := none) (m := 0) (c := 0) (born := bo1) (clock := cl2) (g := g5) 1 3 rfl rfl (by kernel_rfl) rfl (by kernel_rfl) (by exact rfl) (by exact rfl) (hb3 q6) ?_
          refine ls_m1shut (r := r0_4) (p := false) (A := none) (m := 0) (c := 0) (born := bo1) (clock := cl2) 1 (by exact rfl) (fun h => by cases h) (fun _ => ⟨rfl, rfl, rfl⟩) ?_
          refine ls_val (v := .bool false) rfl rfl (by kernel_rfl) (fun w => by kernel_rfl) ?_
          refine ls_end ?_
          refine qn_then ?_
          refine cs_seq ?_
          refine cs_false (by kernel_rfl) ?_
          refine cs_exit' ?_
          refine qx_then ?_
          refine qx_then ?_
          refine qx_same ?_
          refine qn_then ?_
          refine cs_region (l := [_, _, _, _, _, _, _, _]) ?_
          refine ls_val (v := .pointer (some ⟨pg0, 0, none⟩)) rfl rfl (by kernel_rfl) (fun w => by kernel_rfl) ?_
          refine ls_val (v := .pointer (some ⟨pg0, 0, none⟩)) rfl rfl (by kernel_rfl) (fun w => by kernel_rfl) ?_
          refine ls_val (v := .pointer (some ⟨pg0, 0, none⟩)) rfl rfl (by kernel_rfl) (fun w => by kernel_rfl) ?_
          refine ls_val (v := .pointer (some ⟨pg0, (0 + 4), none⟩)) rfl rfl (by kernel_rfl) (fun w => by kernel_rfl) ?_
          refine ls_load (a0 := ⟨pg0, (0 + 4), none⟩) (v := .slice Am0_2_3 m0_2.2.2.2.1.length cm0_2_3) (de := (TypeDesc.slice 24)) rfl rfl (by kernel_rfl) rfl (by kernel_rfl) (by kernel_rfl) (by kernel_rfl) (fun w hs => (hs.var (k := 0) (by exact rfl) (Sub4.trans (Sub4.all _) (Sub4.skip (n := 2) (len_app (len1 _) (len1 _)) (Sub4.skip (n := 1) (len1 _) (Sub4.skip (n := 1) (len1 _) (Sub4.head _ _))))))) ?_
          refine ls_val (v := .pointer (some ⟨pg0, 0, none⟩)) rfl rfl (by kernel_rfl) (fun w => by kernel_rfl) ?_
          refine ls_val (v := .pointer (some ⟨pg0, (0 + 6), none⟩)) rfl rfl (by kernel_rfl) (fun w => by kernel_rfl) ?_
          refine ls_storec (g := pg0) (off := (0 + 6)) (v := .slice Am0_2_3 m0_2.2.2.2.1.length cm0_2_3) (vs := [Value.slice Am0_2_3 m0_2.2.2.2.1.length cm0_2_3]) (cs := (([Value.int .i64 m0_2.1.1] ++ [Value.int .i64 m0_2.1.2]) ++ ([Value.bool m0_2.2.1] ++ ([Value.int .i64 m0_2.2.2.1] ++ ([Value.slice Am0_2_3 m0_2.2.2.2.1.length cm0_2_3] ++ ([Value.map (some r0_4)] ++ [Value.slice Am0_2_5 m0_2.2.2.2.2.2.length cm0_2_5])))))) (ty := 66) 0 rfl rfl rfl (by kernel_rfl) (by kernel_rfl) (by kernel_rfl) (by exact rfl) (by kernel_rfl) (len1 _) (one_cons rfl one_nil) (hl_of (Sub4.trans (Sub4.all _) (Sub4.skip (n := 2) (len_app (len1 _) (len1 _)) (Sub4.skip (n := 1) (len1 _) (Sub4.skip (n := 1) (len1 _) (Sub4.skip (n := 1) (len1 _) (Sub4.skip (n := 1) (len1 _) (Sub4.all _))))))) (len_eq (len1 _) (len1 _))) (cs' := (([Value.int .i64 m0_2.1.1] ++ [Value.int .i64 m0_2.1.2]) ++ ([Value.bool m0_2.2.1] ++ ([Value.int .i64 m0_2.2.2.1] ++ ([Value.slice Am0_2_3 m0_2.2.2.2.1.length cm0_2_3] ++ ([Value.map (some r0_4)] ++ [Value.slice Am0_2_3 m0_2.2.2.2.1.length cm0_2_3])))))) (splc_in (Sub4.all _) (splc_skip (n := 2) (len_app (len1 _) (len1 _)) (splc_skip (n := 1) (len1 _) (splc_skip (n := 1) (len1 _) (splc_skip (n := 1) (len1 _) (splc_skip (n := 1) (len1 _) (splc_all (len_eq (len1 _) (len1 _)))))))) (splc_all (len_eq (len_app (len_app (len1 _) (len1 _)) (len_app (len1 _) (len_app (len1 _) (len_app (len1 _) (len_app (len1 _) (len1 _)))))) (len_app (len_app (len1 _) (len1 _)) (len_app (len1 _) (len_app (len1 _) (len_app (len1 _) (len_app (len1 _) (len1 _)))))))) (hl_of (Sub4.skip (n := 2) (len_app (len1 _) (len1 _)) (Sub4.skip (n := 1) (len1 _) (Sub4.skip (n := 1) (len1 _) (Sub4.skip (n := 1) (len1 _) (Sub4.skip (n := 1) (len1 _) (Sub4.all _)))))) (len_eq (len1 _) (len1 _)))) ?_
          refine ls_end ?_
          refine qn_nilrow 4 T24 ?_
          obtain rfl := Option.some.inj H
          refine qn_res (rs := []) rfl (fun w' hs => ⟨[], (.nil), bh2, hleh2, ((Am0_2_3, cm0_2_3), (Am0_2_3, cm0_2_3), (none, 0)), rfl, ⟨⟨Rm0_2_3, Cm0_2_3⟩, ⟨Rm0_2_3, Cm0_2_3⟩⟩, hs.pick (ts := [0, 1, 4]) (cs := [Ck.var 66 pg0 ((([Value.int .i64 m0_2.1.1] ++ [Value.int .i64 m0_2.1.2]) ++ ([Value.bool m0_2.2.1] ++ ([Value.int .i64 m0_2.2.2.1] ++ ([Value.slice Am0_2_3 m0_2.2.2.2.1.length cm0_2_3] ++ ([Value.map (some r0_4)] ++ [Value.slice Am0_2_3 m0_2.2.2.2.1.length cm0_2_3])))))), Ck.m1 r0_4 false none (([] : List (Int × Int)).length) 0, Ck.sl T24 none 0 ([] : List (Int × Int))]) ⟨by exact rfl, by exact rfl, by exact rfl, trivial⟩ (by decide)⟩)
    · replace H := ite_f q6 H
      refine ls_m1xp (r := r0_4) (p := w0_4.1) (A := A0_4) (m := w0_4.2.length) (c := c0_4) (born := bo1) (clock := cl2) (p' := false) 1 (Bool.eq_false_iff.mpr q6) (by exact rfl) ?_
      refine ls_m1over (r := r0_4) (A := A0_4) (m := w0_4.2.length) (c := c0_4) (born := bo1) (clock := cl2) (g := g5) 1 3 rfl rfl (by kernel_rfl) rfl (by kernel_rfl) (by exact rfl) (by exact rfl) ?_
      refine ls_m1shut (r := r0_4) (p := false) (A := A0_4) (m := w0_4.2.length) (c := c0_4) (born := bo1) (clock := cl2) 1 (by exact rfl) (fun h => by cases h) (fun _ => hp4 (Bool.eq_false_iff.mpr q6)) ?_
      refine ls_val (v := .bool false) rfl rfl (by kernel_rfl) (fun w => by kernel_rfl) ?_
      refine ls_end ?_
      refine qn_then ?_
      refine cs_seq ?_
      refine cs_false (by kernel_rfl) ?_
      refine cs_exit' ?_
      refine qx_then ?_
      refine qx_then ?_
      refine qx_same ?_
      refine qn_then ?_
      refine cs_region (l := [_, _, _, _, _, _, _, _]) ?_
      refine ls_val (v := .pointer (some ⟨pg0, 0, none⟩)) rfl rfl (by kernel_rfl) (fun w => by kernel_rfl) ?_
      refine ls_val (v := .pointer (some ⟨pg0, 0, none⟩)) rfl rfl (by kernel_rfl) (fun w => by kernel_rfl) ?_
      refine ls_val (v := .pointer (some ⟨pg0, 0, none⟩)) rfl rfl (by kernel_rfl) (fun w => by kernel_rfl) ?_
      refine ls_val (v := .pointer (some ⟨pg0, (0 + 4), none⟩)) rfl rfl (by kernel_rfl) (fun w => by kernel_rfl) ?_
      refine ls_load (a0 := ⟨pg0, (0 + 4), none⟩) (v := .slice A0_3 v0.2.2.2.1.length c0_3) (de := (TypeDesc.slice 24)) rfl rfl (by kernel_rfl) rfl (by kernel_rfl) (by kernel_rfl) (by kernel_rfl) (fun w hs => (hs.var (k := 0) (by exact rfl) (Sub4.trans (Sub4.all _) (Sub4.skip (n := 2) (len_app (len1 _) (len1 _)) (Sub4.skip (n := 1) (len1 _) (Sub4.skip (n := 1) (len1 _) (Sub4.head _ _))))))) ?_
      refine ls_val (v := .pointer (some ⟨pg0, 0, none⟩)) rfl rfl (by kernel_rfl) (fun w => by kernel_rfl) ?_
      refine ls_val (v := .pointer (some ⟨pg0, (0 + 6), none⟩)) rfl rfl (by kernel_rfl) (fun w => by kernel_rfl) ?_
      refine ls_storec (g := pg0) (off := (0 + 6)) (v := .slice A0_3 v0.2.2.2.1.length c0_3) (vs := [Value.slice A0_3 v0.2.2.2.1.length c0_3]) (cs := (([Value.int .i64 v0.1.1] ++ [Value.int .i64 v0.1.2]) ++ ([Value.bool v0.2.1] ++ ([Value.int .i64 v0.2.2.1] ++ ([Value.slice A0_3 v0.2.2.2.1.length c0_3] ++ ([Value.map (some r0_4)] ++ [Value.slice A0_5 v0.2.2.2.2.2.length c0_5])))))) (ty := 66) 0 rfl rfl rfl (by kernel_rfl) (by kernel_rfl) (by kernel_rfl) (by exact rfl) (by kernel_rfl) (len1 _) (one_cons rfl one_nil) (hl_of (Sub4.trans (Sub4.all _) (Sub4.skip (n := 2) (len_app (len1 _) (len1 _)) (Sub4.skip (n := 1) (len1 _) (Sub4.skip (n := 1) (len1 _) (Sub4.skip (n := 1) (len1 _) (Sub4.skip (n := 1) (len1 _) (Sub4.all _))))))) (len_eq (len1 _) (len1 _))) (cs' := (([Value.int .i64 v0.1.1] ++ [Value.int .i64 v0.1.2]) ++ ([Value.bool v0.2.1] ++ ([Value.int .i64 v0.2.2.1] ++ ([Value.slice A0_3 v0.2.2.2.1.length c0_3] ++ ([Value.map (some r0_4)] ++ [Value.slice A0_3 v0.2.2.2.1.length c0_3])))))) (splc_in (Sub4.all _) (splc_skip (n := 2) (len_app (len1 _) (len1 _)) (splc_skip (n := 1) (len1 _) (splc_skip (n := 1) (len1 _) (splc_skip (n := 1) (len1 _) (splc_skip (n := 1) (len1 _) (splc_all (len_eq (len1 _) (len1 _)))))))) (splc_all (len_eq (len_app (len_app (len1 _) (len1 _)) (len_app (len1 _) (len_app (len1 _) (len_app (len1 _) (len_app (len1 _) (len1 _)))))) (len_app (len_app (len1 _) (len1 _)) (len_app (len1 _) (len_app (len1 _) (len_app (len1 _) (len_app (len1 _) (len1 _)))))))) (hl_of (Sub4.skip (n := 2) (len_app (len1 _) (len1 _)) (Sub4.skip (n := 1) (len1 _) (Sub4.skip (n := 1) (len1 _) (Sub4.skip (n := 1) (len1 _) (Sub4.skip (n := 1) (len1 _) (Sub4.all _)))))) (len_eq (len1 _) (len1 _)))) ?_
      refine ls_end ?_
      obtain rfl := Option.some.inj H
      refine qn_res (rs := []) rfl (fun w' hs => ⟨[], (.nil), b, (Bs.le.refl b), ((A0_3, c0_3), (A0_3, c0_3), (A0_4, c0_4)), rfl, ⟨⟨R0_3, C0_3⟩, ⟨R0_3, C0_3⟩⟩, hs.pick (ts := [0, 1, 2]) (cs := [Ck.var 66 pg0 ((([Value.int .i64 v0.1.1] ++ [Value.int .i64 v0.1.2]) ++ ([Value.bool v0.2.1] ++ ([Value.int .i64 v0.2.2.1] ++ ([Value.slice A0_3 v0.2.2.2.1.length c0_3] ++ ([Value.map (some r0_4)] ++ [Value.slice A0_3 v0.2.2.2.1.length c0_3])))))), Ck.m1 r0_4 false A0_4 w0_4.2.length c0_4, Ck.sl T24 A0_4 c0_4 w0_4.2]) ⟨by exact rfl, by exact rfl, by exact rfl, trivial⟩ (by decide)⟩)

/-! ### shadowbox/extent.Meets: function 11 -/
def extent_Meets.tab12 : List (List Nat) := [[], [], [1], [0, 1, 2], [0, 1, 2, 3], [0, 1, 2, 3, 4], [0, 1, 2, 3, 4], [0, 1, 2, 3, 4, 5, 6], [0, 1, 2, 3, 4, 5, 6, 7], [0, 1, 2, 3, 4, 5, 6, 7, 8], [0, 1, 2, 3, 4], [0, 1, 2, 3, 4, 10], [0, 1, 2, 3, 4, 5, 6, 7, 8, 9, 10, 11], [0, 1, 2, 3, 4, 5, 6, 7, 8, 9, 10, 11, 12], [0, 1, 2, 3, 4, 5, 6, 7, 8, 9, 10, 11, 12, 13]]
def extent_Meets.f (k : Nat) (l0 : List (Int × Int)) (a1 : (Int × Int)) : Option (Bool) :=
  (extent_Valid.f k l0).bind fun t2 => (if t2 = true then (extent_Span_right.f k a1).bind fun t6 => (if t6 = true then (extent_first.f k l0 (IntKind.wrap .i64 (a1.1 + (1 : Int)))).bind fun t10 => (if t10 < (l0.length : Int) then (if 0 ≤ t10 then lt (((l0).getD (t10).toNat ((0 : Int), (0 : Int))).1) fun y19 => some (decide (y19 < a1.2)) else none) else some false) else some false) else some false)
set_option maxRecDepth 100000 in
set_option maxHeartbeats 4000000 in
theorem extent_Meets.calls (k : Nat) (A0 : Option Addr) (c0 : Nat) (l0 : List (Int × Int)) (a1 : (Int × Int)) (r : Bool) (b : Bs) (hs0 : St b (stl []) b.w) (R0 : Ro b A0 (em T24 l0)) (C0 : l0.length ≤ c0) (H : extent_Meets.f k l0 a1 = some r) :
    Calls Try.prog 11 #[.slice A0 l0.length c0, .agg ⟨([Value.int .i64 a1.1] ++ [Value.int .i64 a1.2])⟩] b.w fun e w' => ∃ x : Unit, e = .returned (.bool r) ∧ St b (stl []) w' := by
  unfold extent_Meets.f at H
  refine enterb (n := 33) Try.func11 rfl (by kernel_rfl) (by kernel_rfl) hs0 ?_
  refine cs_sub (s0) (sub_nil _) ?_
  refine cs_seq ?_
  refine cs_region (l := [_, _]) ?_
  refine ls_new rfl rfl (by kernel_rfl) 0 (fun g => .pointer (some ⟨g, 0, none⟩)) (.cells ⟨([Value.int .i64 a1.1] ++ [Value.int .i64 a1.2])⟩ 24) (fun w => by kernel_rfl) ?_
  intro g1
  refine ls_val (v := .bool false) rfl rfl (by kernel_rfl) (fun w => by kernel_rfl) ?_
  refine ls_end ?_
  refine qn_then ?_
  refine cs_seq ?_
  refine cs_seq ?_
  refine cs_region (l := [_, _, _, _, _, _, _, _]) ?_
  refine ls_val (v := .slice A0 l0.length c0) rfl rfl (by kernel_rfl) (fun w => by kernel_rfl) ?_
  obtain ⟨t2, hc3, H⟩ := bind_some H
  refine ls_callb (fid := 10) (vals := #[.slice A0 l0.length c0]) (X := Unit) (fun x => .bool t2) (fun x => stl []) [] [] [] [] 1 rfl rfl (by kernel_rfl) (fun w => by kernel_rfl) trivial trivial (by decide) (fun w hs hb => extent_Valid.calls k A0 c0 l0 t2 (lent b w [] []) hb (hs.ro R0 _ _) C0 hc3) ?_
  intro x4
  refine ls_val (v := .bool (!t2)) rfl rfl (by kernel_rfl) (fun w => by kernel_rfl) ?_
  refine ls_val (v := .bool (!t2)) rfl rfl (by kernel_rfl) (fun w => by kernel_rfl) ?_
  by_cases q5 : t2 = true
  · replace H := ite_t q5 H
    refine ls_know (c := false) (congrArg Bool.not (q5)) 9 (by kernel_rfl) ?_
    refine ls_on (j := 3) (t := 9) (b := false) rfl rfl (by kernel_rfl) (by kernel_rfl) ?_
    refine ls_loadagg (a := ⟨g1, 0, none⟩) (sub := ([Value.int .i64 a1.1] ++ [Value.int .i64 a1.2])) rfl rfl (by kernel_rfl) rfl (by kernel_rfl) (by kernel_rfl) (by kernel_rfl) (len_app (len1 _) (len1 _)) (fun w hs => (hs.vars (k := 0) (by exact rfl) (Sub4.all _))) ?_
    refine ls_on (j := 3) (t := 9) (b := false) rfl rfl (by kernel_rfl) (by kernel_rfl) ?_
    obtain ⟨t6, hc7, H⟩ := bind_some H
    refine ls_callb (fid := 41) (vals := #[.agg ⟨([Value.int .i64 a1.1] ++ [Value.int .i64 a1.2])⟩]) (X := Unit) (fun x => .bool t6) (fun x => stl []) [] [] [] [] 1 rfl rfl (by kernel_rfl) (fun w => by kernel_rfl) trivial trivial (by decide) (fun w hs hb => extent_Span_right.calls k a1 t6 (lent b w [] []) hb  hc7) ?_
    intro x8
    refine ls_on (j := 3) (t := 9) (b := false) rfl rfl (by kernel_rfl) (by kernel_rfl) ?_
    refine ls_val (v := .bool (!t6)) rfl rfl (by kernel_rfl) (fun w => by kernel_rfl) ?_
    refine ls_val (v := .bool (!t6)) rfl rfl (by kernel_rfl) (fun w => by kernel_rfl) ?_
    refine ls_end ?_
    refine qn_then ?_
    by_cases q9 : t6 = true
    · replace H := ite_t q9 H
      refine cs_know (c := false) (congrArg Bool.not (q9)) 13 (by kernel_rfl) ?_
      refine cs_false (by kernel_rfl) ?_
      refine cs_skip' ?_
      refine qn_then ?_
      refine cs_seq ?_
      refine cs_region (l := [_, _, _, _, _, _]) ?_
      refine ls_val (v := .slice A0 l0.length c0) rfl rfl (by kernel_rfl) (fun w => by kernel_rfl) ?_
      refine ls_val (v := .pointer (some ⟨g1, (0 + 0), none⟩)) rfl rfl (by kernel_rfl) (fun w => by kernel_rfl) ?_
      refine ls_load (a0 := ⟨g1, (0 + 0), none⟩) (v := .int .i64 a1.1) (de := (TypeDesc.int .i64)) rfl rfl (by kernel_rfl) rfl (by kernel_rfl) (by kernel_rfl) (by kernel_rfl) (fun w hs => (hs.var (k := 0) (by exact rfl) (Sub4.trans (Sub4.all _) (Sub4.head _ _)))) ?_
      refine ls_val (v := .int .i64 (IntKind.wrap .i64 (a1.1 + (1 : Int)))) rfl rfl (by kernel_rfl) (fun w => by kernel_rfl) ?_
      obtain ⟨t10, hc11, H⟩ := bind_some H
      refine ls_callb (fid := 42) (vals := #[.slice A0 l0.length c0, .int .i64 (IntKind.wrap .i64 (a1.1 + (1 : Int)))]) (X := Unit) (fun x => .int .i64 t10) (fun x => stl []) [] [] [] [] 1 rfl rfl (by kernel_rfl) (fun w => by kernel_rfl) trivial trivial (by decide) (fun w hs hb => extent_first.calls k A0 c0 l0 (IntKind.wrap .i64 (a1.1 + (1 : Int))) t10 (lent b w [] []) hb (hs.ro R0 _ _) C0 hc11) ?_
      intro x12
      refine ls_val (v := .int .i64 t10) rfl rfl (by kernel_rfl) (fun w => by kernel_rfl) ?_
      refine ls_end ?_
      refine qn_then ?_
      refine cs_seq ?_
      obtain ⟨s14_0, hs14_0⟩ : ∃ z : Value → Sto → Prop, z = (fun v R => v = .int .i64 t10 ∧ R = s0) := ⟨_, rfl⟩
      refine have_op (l := [_, _, _, _, _, _, _, _, _, _, _, _, _, _, _]) extent_Meets.tab12 1 0 (fun sp => sp 0 = s14_0) (fun sp on hA hon => ?_) (fun ops14_0 => ?_)
      · refine ⟨fun o ho vs Rs f' S' w hp hf hx hS hR hs => ?_⟩
        obtain rfl := Option.some.inj ho
        rw [hA, hs14_0]
        refine And.intro (fun a ha => (want_none rfl a ha).trans hon.symm) (And.intro (fun _ => ?_) (fun h => by rw [hon] at h; cases h))
        have hF := fr_next (rfl) ((hx 5 (by kernel_rfl)).trans (by kernel_rfl : (_ : Value) = .int .i64 t10))
        refine ls_fr hF ?_
        refine ls_val (v := .int .i64 t10) rfl rfl (by kernel_rfl) (fun w => by kernel_rfl) ?_
        exact ls_fin s0 (.int .i64 t10) (congrArg (fun z => upd z 19 _) hF.symm) ⟨rfl, rfl⟩ (sub_nil _)
      obtain ⟨s14_1, hs14_1⟩ : ∃ z : Value → Sto → Prop, z = (fun v R => v = .slice A0 l0.length c0 ∧ R = s0) := ⟨_, rfl⟩
      refine have_op (l := [_, _, _, _, _, _, _, _, _, _, _, _, _, _, _]) extent_Meets.tab12 1 1 (fun sp => sp 1 = s14_1) (fun sp on hA hon => ?_) (fun ops14_1 => ?_)
      · refine ⟨fun o ho vs Rs f' S' w hp hf hx hS hR hs => ?_⟩
        obtain rfl := Option.some.inj ho
        rw [hA, hs14_1]
        refine And.intro (fun a ha => (want_none rfl a ha).trans hon.symm) (And.intro (fun _ => ?_) (fun h => by rw [hon] at h; cases h))
        have hF := fr_next (rfl) ((hx 0 (by kernel_rfl)).trans (by kernel_rfl : (_ : Value) = .slice A0 l0.length c0))
        refine ls_fr hF ?_
        refine ls_val (v := .slice A0 l0.length c0) rfl rfl (by kernel_rfl) (fun w => by kernel_rfl) ?_
        exact ls_fin s0 (.slice A0 l0.length c0) (congrArg (fun z => upd z 20 _) hF.symm) ⟨rfl, rfl⟩ (sub_nil _)
      obtain ⟨s14_2, hs14_2⟩ : ∃ z : Value → Sto → Prop, z = (fun v R => v = .int .i64 (l0.length : Int) ∧ R = s0) := ⟨_, rfl⟩
      refine have_op (l := [_, _, _, _, _, _, _, _, _, _, _, _, _, _, _]) extent_Meets.tab12 1 2 (fun sp => sp 2 = s14_2 ∧ sp 1 = s14_1) (fun sp on hA hon => ?_) (fun ops14_2 => ?_)
      · refine ⟨fun o ho vs Rs f' S' w hp hf hx hS hR hs => ?_⟩
        obtain rfl := Option.some.inj ho
        obtain ⟨hv1, hR1⟩ := (spe hA.2 hs14_1 (hp 1 (by kernel_rfl)))
        rw [hA.1, hs14_2]
        refine And.intro (fun a ha => (want_none rfl a ha).trans hon.symm) (And.intro (fun _ => ?_) (fun h => by rw [hon] at h; cases h))
        have hF := fr_next (rfl) ((hf 1 20 (by kernel_rfl) rfl).trans hv1)
        refine ls_fr hF ?_
        refine ls_val (v := .int .i64 (l0.length : Int)) rfl rfl (by kernel_rfl) (fun w => by kernel_rfl) ?_
        exact ls_fin s0 (.int .i64 (l0.length : Int)) (congrArg (fun z => upd z 21 _) hF.symm) ⟨rfl, rfl⟩ (sub_nil _)
      obtain ⟨s14_3, hs14_3⟩ : ∃ z : Value → Sto → Prop, z = (fun v R => v = .bool (decide (t10 < (l0.length : Int))) ∧ R = s0) := ⟨_, rfl⟩
      refine have_op (l := [_, _, _, _, _, _, _, _, _, _, _, _, _, _, _]) extent_Meets.tab12 1 3 (fun sp => sp 3 = s14_3 ∧ sp 0 = s14_0 ∧ sp 2 = s14_2) (fun sp on hA hon => ?_) (fun ops14_3 => ?_)
      · refine ⟨fun o ho vs Rs f' S' w hp hf hx hS hR hs => ?_⟩
        obtain rfl := Option.some.inj ho
        obtain ⟨hv0, hR0⟩ := (spe hA.2.1 hs14_0 (hp 0 (by kernel_rfl)))
        obtain ⟨hv2, hR2⟩ := (spe hA.2.2 hs14_2 (hp 2 (by kernel_rfl)))
        rw [hA.1, hs14_3]
        refine And.intro (fun a ha => (want_none rfl a ha).trans hon.symm) (And.intro (fun _ => ?_) (fun h => by rw [hon] at h; cases h))
        have hF := fr_next (fr_next (rfl) ((hf 0 19 (by kernel_rfl) rfl).trans hv0)) ((hf 2 21 (by kernel_rfl) rfl).trans hv2)
        refine ls_fr hF ?_
        refine ls_val (v := .bool (decide (t10 < (l0.length : Int)))) rfl rfl (by kernel_rfl) (fun w => by kernel_rfl) ?_
        exact ls_fin s0 (.bool (decide (t10 < (l0.length : Int)))) (congrArg (fun z => upd z 22 _) hF.symm) ⟨rfl, rfl⟩ (sub_nil _)
      obtain ⟨s14_4, hs14_4⟩ : ∃ z : Value → Sto → Prop, z = (fun v R => v = .bool (decide (t10 < (l0.length : Int))) ∧ R = s0) := ⟨_, rfl⟩
      refine have_op (l := [_, _, _, _, _, _, _, _, _, _, _, _, _, _, _]) extent_Meets.tab12 1 4 (fun sp => sp 4 = s14_4 ∧ sp 3 = s14_3) (fun sp on hA hon => ?_) (fun ops14_4 => ?_)
      · refine ⟨fun o ho vs Rs f' S' w hp hf hx hS hR hs => ?_⟩
        obtain rfl := Option.some.inj ho
        obtain ⟨hv3, hR3⟩ := (spe hA.2 hs14_3 (hp 3 (by kernel_rfl)))
        rw [hA.1, hs14_4]
        refine And.intro (fun a ha => (want_none rfl a ha).trans hon.symm) (And.intro (fun _ => ?_) (fun h => by rw [hon] at h; cases h))
        have hF := fr_next (rfl) ((hf 3 22 (by kernel_rfl) rfl).trans hv3)
        refine ls_fr hF ?_
        refine ls_val (v := .bool (decide (t10 < (l0.length : Int)))) rfl rfl (by kernel_rfl) (fun w => by kernel_rfl) ?_
        exact ls_fin s0 (.bool (decide (t10 < (l0.length : Int)))) (congrArg (fun z => upd z 23 _) hF.symm) ⟨rfl, rfl⟩ (sub_nil _)
      by_cases q15 : t10 < (l0.length : Int)
      · replace H := ite_t q15 H
        obtain ⟨s14_5, hs14_5⟩ : ∃ z : Value → Sto → Prop, z = (fun v R => v = .slice A0 l0.length c0 ∧ R = s0) := ⟨_, rfl⟩
        refine have_op (l := [_, _, _, _, _, _, _, _, _, _, _, _, _, _, _]) extent_Meets.tab12 1 5 (fun sp => sp 5 = s14_5 ∧ sp 4 = s14_4) (fun sp on hA hon => ?_) (fun ops14_5 => ?_)
        · refine ⟨fun o ho vs Rs f' S' w hp hf hx hS hR hs => ?_⟩
          obtain rfl := Option.some.inj ho
          obtain ⟨hv4, hR4⟩ := (spe hA.2 hs14_4 (hp 4 (by kernel_rfl)))
          rw [hA.1, hs14_5]
          refine And.intro (fun a ha => (want_is (j := 4) (t := 23) (r := true) rfl rfl (by kernel_rfl) (((hf 4 23 (by kernel_rfl) rfl).trans hv4).trans (congrArg Value.bool (show (decide (t10 < (l0.length : Int))) = true from dec_t q15))) rfl a ha).trans hon.symm) (And.intro (fun _ => ?_) (fun h => by rw [hon] at h; cases h))
          have hF := fr_next (fr_next (rfl) ((hx 0 (by kernel_rfl)).trans (by kernel_rfl : (_ : Value) = .slice A0 l0.length c0))) (((hf 4 23 (by kernel_rfl) rfl).trans hv4).trans (congrArg Value.bool (show (decide (t10 < (l0.length : Int))) = true from dec_t q15)))
          refine ls_fr hF ?_
          refine ls_val (v := .slice A0 l0.length c0) rfl rfl (by kernel_rfl) (fun w => by kernel_rfl) ?_
          exact ls_fin s0 (.slice A0 l0.length c0) (congrArg (fun z => upd z 24 _) hF.symm) ⟨rfl, rfl⟩ (sub_nil _)
        obtain ⟨s14_6, hs14_6⟩ : ∃ z : Value → Sto → Prop, z = (fun v R => v = .int .i64 t10 ∧ R = s0) := ⟨_, rfl⟩
        refine have_op (l := [_, _, _, _, _, _, _, _, _, _, _, _, _, _, _]) extent_Meets.tab12 1 6 (fun sp => sp 6 = s14_6 ∧ sp 4 = s14_4) (fun sp on hA hon => ?_) (fun ops14_6 => ?_)
        · refine ⟨fun o ho vs Rs f' S' w hp hf hx hS hR hs => ?_⟩
          obtain rfl := Option.some.inj ho
          obtain ⟨hv4, hR4⟩ := (spe hA.2 hs14_4 (hp 4 (by kernel_rfl)))
          rw [hA.1, hs14_6]
          refine And.intro (fun a ha => (want_is (j := 4) (t := 23) (r := true) rfl rfl (by kernel_rfl) (((hf 4 23 (by kernel_rfl) rfl).trans hv4).trans (congrArg Value.bool (show (decide (t10 < (l0.length : Int))) = true from dec_t q15))) rfl a ha).trans hon.symm) (And.intro (fun _ => ?_) (fun h => by rw [hon] at h; cases h))
          have hF := fr_next (fr_next (rfl) ((hx 5 (by kernel_rfl)).trans (by kernel_rfl : (_ : Value) = .int .i64 t10))) (((hf 4 23 (by kernel_rfl) rfl).trans hv4).trans (congrArg Value.bool (show (decide (t10 < (l0.length : Int))) = true from dec_t q15)))
          refine ls_fr hF ?_
          refine ls_val (v := .int .i64 t10) rfl rfl (by kernel_rfl) (fun w => by kernel_rfl) ?_
          exact ls_fin s0 (.int .i64 t10) (congrArg (fun z => upd z 25 _) hF.symm) ⟨rfl, rfl⟩ (sub_nil _)
        obtain ⟨q16, H⟩ := ite_need H
        obtain ⟨ad17, hA18⟩ := ido_at (T := T24) (l := l0) (i := t10) R0 q16 q15
        obtain ⟨s14_7, hs14_7⟩ : ∃ z : Value → Sto → Prop, z = (fun v R => v = .pointer (some (ad17.add ((t10).toNat * 2))) ∧ R = s0) := ⟨_, rfl⟩
        refine have_op (l := [_, _, _, _, _, _, _, _, _, _, _, _, _, _, _]) extent_Meets.tab12 1 7 (fun sp => sp 7 = s14_7 ∧ sp 4 = s14_4 ∧ sp 5 = s14_5 ∧ sp 6 = s14_6) (fun sp on hA hon => ?_) (fun ops14_7 => ?_)
        · refine ⟨fun o ho vs Rs f' S' w hp hf hx hS hR hs => ?_⟩
          obtain rfl := Option.some.inj ho
          obtain ⟨hv4, hR4⟩ := (spe hA.2.1 hs14_4 (hp 4 (by kernel_rfl)))
          obtain ⟨hv5, hR5⟩ := (spe hA.2.2.1 hs14_5 (hp 5 (by kernel_rfl)))
          obtain ⟨hv6, hR6⟩ := (spe hA.2.2.2 hs14_6 (hp 6 (by kernel_rfl)))
          rw [hA.1, hs14_7]
          refine And.intro (fun a ha => (want_is (j := 4) (t := 23) (r := true) rfl rfl (by kernel_rfl) (((hf 4 23 (by kernel_rfl) rfl).trans hv4).trans (congrArg Value.bool (show (decide (t10 < (l0.length : Int))) = true from dec_t q15))) rfl a ha).trans hon.symm) (And.intro (fun _ => ?_) (fun h => by rw [hon] at h; cases h))
          have hF := fr_next (fr_next (fr_next (rfl) (((hf 4 23 (by kernel_rfl) rfl).trans hv4).trans (congrArg Value.bool (show (decide (t10 < (l0.length : Int))) = true from dec_t q15)))) ((hf 5 24 (by kernel_rfl) rfl).trans hv5)) ((hf 6 25 (by kernel_rfl) rfl).trans hv6)
          refine ls_fr hF ?_
          refine ls_idxv T24 (A := A0) (c := c0) (l := l0) (k := .i64) (i := t10) (z := 2) (ad := ad17) rfl rfl (by kernel_rfl) hA18 rfl (by kernel_rfl) (by kernel_rfl) (by kernel_rfl) (by kernel_rfl) q16 q15 ?_
          exact ls_fin s0 (.pointer (some (ad17.add ((t10).toNat * 2)))) (congrArg (fun z => upd z 26 _) hF.symm) ⟨rfl, rfl⟩ (sub_nil _)
        obtain ⟨s14_8, hs14_8⟩ : ∃ z : Value → Sto → Prop, z = (fun v R => v = .pointer (some (ad17.add (((t10).toNat * 2) + 0))) ∧ R = s0) := ⟨_, rfl⟩
        refine have_op (l := [_, _, _, _, _, _, _, _, _, _, _, _, _, _, _]) extent_Meets.tab12 1 8 (fun sp => sp 8 = s14_8 ∧ sp 4 = s14_4 ∧ sp 7 = s14_7) (fun sp on hA hon => ?_) (fun ops14_8 => ?_)
        · refine ⟨fun o ho vs Rs f' S' w hp hf hx hS hR hs => ?_⟩
          obtain rfl := Option.some.inj ho
          obtain ⟨hv4, hR4⟩ := (spe hA.2.1 hs14_4 (hp 4 (by kernel_rfl)))
          obtain ⟨hv7, hR7⟩ := (spe hA.2.2 hs14_7 (hp 7 (by kernel_rfl)))
          rw [hA.1, hs14_8]
          refine And.intro (fun a ha => (want_is (j := 4) (t := 23) (r := true) rfl rfl (by kernel_rfl) (((hf 4 23 (by kernel_rfl) rfl).trans hv4).trans (congrArg Value.bool (show (decide (t10 < (l0.length : Int))) = true from dec_t q15))) rfl a ha).trans hon.symm) (And.intro (fun _ => ?_) (fun h => by rw [hon] at h; cases h))
          have hF := fr_next (fr_next (rfl) (((hf 4 23 (by kernel_rfl) rfl).trans hv4).trans (congrArg Value.bool (show (decide (t10 < (l0.length : Int))) = true from dec_t q15)))) ((hf 7 26 (by kernel_rfl) rfl).trans hv7)
          refine ls_fr hF ?_
          refine ls_fieldm (ad := ad17) (off := ((t10).toNat * 2)) rfl rfl (by kernel_rfl) 0 (fun w => by kernel_rfl) ?_
          exact ls_fin s0 (.pointer (some (ad17.add (((t10).toNat * 2) + 0)))) (congrArg (fun z => upd z 27 _) hF.symm) ⟨rfl, rfl⟩ (sub_nil _)
        obtain ⟨y19, hy20, H⟩ := lt_some H
        obtain ⟨s14_9, hs14_9⟩ : ∃ z : Value → Sto → Prop, z = (fun v R => v = .int .i64 y19 ∧ R = s0) := ⟨_, rfl⟩
        refine have_op (l := [_, _, _, _, _, _, _, _, _, _, _, _, _, _, _]) extent_Meets.tab12 1 9 (fun sp => sp 9 = s14_9 ∧ sp 4 = s14_4 ∧ sp 8 = s14_8) (fun sp on hA hon => ?_) (fun ops14_9 => ?_)
        · refine ⟨fun o ho vs Rs f' S' w hp hf hx hS hR hs => ?_⟩
          obtain rfl := Option.some.inj ho
          obtain ⟨hv4, hR4⟩ := (spe hA.2.1 hs14_4 (hp 4 (by kernel_rfl)))
          obtain ⟨hv8, hR8⟩ := (spe hA.2.2 hs14_8 (hp 8 (by kernel_rfl)))
          rw [hA.1, hs14_9]
          refine And.intro (fun a ha => (want_is (j := 4) (t := 23) (r := true) rfl rfl (by kernel_rfl) (((hf 4 23 (by kernel_rfl) rfl).trans hv4).trans (congrArg Value.bool (show (decide (t10 < (l0.length : Int))) = true from dec_t q15))) rfl a ha).trans hon.symm) (And.intro (fun _ => ?_) (fun h => by rw [hon] at h; cases h))
          have hF := fr_next (fr_next (rfl) (((hf 4 23 (by kernel_rfl) rfl).trans hv4).trans (congrArg Value.bool (show (decide (t10 < (l0.length : Int))) = true from dec_t q15)))) ((hf 8 27 (by kernel_rfl) rfl).trans hv8)
          refine ls_fr hF ?_
          refine ls_load (a0 := (ad17.add (((t10).toNat * 2) + 0))) (v := .int .i64 (((l0).getD (t10).toNat ((0 : Int), (0 : Int))).1)) (de := (TypeDesc.int .i64)) rfl rfl (by kernel_rfl) rfl (by kernel_rfl) (by kernel_rfl) (by kernel_rfl) (fun w1 hs1 => (Rd.step (hs.old R0) hs1.below.bw).at hA18 (Sub4.trans (em_sub T24 l0 (i := (t10).toNat) (by have h0 : (0 : Int) ≤ t10 := q16; have h1 : t10 < (l0.length : Int) := q15; omega)) (Sub4.head _ _))) ?_
          refine ls_ren 28 (v := .int .i64 (((l0).getD (t10).toNat ((0 : Int), (0 : Int))).1)) (v' := .int .i64 y19) (by kernel_rfl) (by rw [hy20]) ?_
          exact ls_fin s0 (.int .i64 y19) ((upd_upd _ _ _ _).trans (congrArg (fun z => upd z 28 _) hF.symm)) ⟨rfl, rfl⟩ (sub_nil _)
        obtain ⟨s14_10, hs14_10⟩ : ∃ z : Value → Sto → Prop, z = (fun v R => v = .pointer (some ⟨g1, (0 + 1), none⟩) ∧ R = s0) := ⟨_, rfl⟩
        refine have_op (l := [_, _, _, _, _, _, _, _, _, _, _, _, _, _, _]) extent_Meets.tab12 1 10 (fun sp => sp 10 = s14_10 ∧ sp 4 = s14_4) (fun sp on hA hon => ?_) (fun ops14_10 => ?_)
        · refine ⟨fun o ho vs Rs f' S' w hp hf hx hS hR hs => ?_⟩
          obtain rfl := Option.some.inj ho
          obtain ⟨hv4, hR4⟩ := (spe hA.2 hs14_4 (hp 4 (by kernel_rfl)))
          rw [hA.1, hs14_10]
          refine And.intro (fun a ha => (want_is (j := 4) (t := 23) (r := true) rfl rfl (by kernel_rfl) (((hf 4 23 (by kernel_rfl) rfl).trans hv4).trans (congrArg Value.bool (show (decide (t10 < (l0.length : Int))) = true from dec_t q15))) rfl a ha).trans hon.symm) (And.intro (fun _ => ?_) (fun h => by rw [hon] at h; cases h))
          have hF := fr_next (fr_next (rfl) ((hx 3 (by kernel_rfl)).trans (by kernel_rfl : (_ : Value) = .pointer (some ⟨g1, 0, none⟩)))) (((hf 4 23 (by kernel_rfl) rfl).trans hv4).trans (congrArg Value.bool (show (decide (t10 < (l0.length : Int))) = true from dec_t q15)))
          refine ls_fr hF ?_
          refine ls_val (v := .pointer (some ⟨g1, (0 + 1), none⟩)) rfl rfl (by kernel_rfl) (fun w => by kernel_rfl) ?_
          exact ls_fin s0 (.pointer (some ⟨g1, (0 + 1), none⟩)) (congrArg (fun z => upd z 29 _) hF.symm) ⟨rfl, rfl⟩ (sub_nil _)
        obtain ⟨s14_11, hs14_11⟩ : ∃ z : Value → Sto → Prop, z = (fun v R => v = .int .i64 a1.2 ∧ R = s0) := ⟨_, rfl⟩
        refine have_op (l := [_, _, _, _, _, _, _, _, _, _, _, _, _, _, _]) extent_Meets.tab12 1 11 (fun sp => sp 11 = s14_11 ∧ sp 4 = s14_4 ∧ sp 10 = s14_10) (fun sp on hA hon => ?_) (fun ops14_11 => ?_)
        · refine ⟨fun o ho vs Rs f' S' w hp hf hx hS hR hs => ?_⟩
          obtain rfl := Option.some.inj ho
          obtain ⟨hv4, hR4⟩ := (spe hA.2.1 hs14_4 (hp 4 (by kernel_rfl)))
          obtain ⟨hv10, hR10⟩ := (spe hA.2.2 hs14_10 (hp 10 (by kernel_rfl)))
          rw [hA.1, hs14_11]
          refine And.intro (fun a ha => (want_is (j := 4) (t := 23) (r := true) rfl rfl (by kernel_rfl) (((hf 4 23 (by kernel_rfl) rfl).trans hv4).trans (congrArg Value.bool (show (decide (t10 < (l0.length : Int))) = true from dec_t q15))) rfl a ha).trans hon.symm) (And.intro (fun _ => ?_) (fun h => by rw [hon] at h; cases h))
          have hF := fr_next (fr_next (rfl) (((hf 4 23 (by kernel_rfl) rfl).trans hv4).trans (congrArg Value.bool (show (decide (t10 < (l0.length : Int))) = true from dec_t q15)))) ((hf 10 29 (by kernel_rfl) rfl).trans hv10)
          refine ls_fr hF ?_
          refine ls_load (a0 := ⟨g1, (0 + 1), none⟩) (v := .int .i64 a1.2) (de := (TypeDesc.int .i64)) rfl rfl (by kernel_rfl) rfl (by kernel_rfl) (by kernel_rfl) (by kernel_rfl) (fun w1 hs1 => cell_step hs1.below.bw (hs.var (k := 0) ((hS 0 (by kernel_rfl)).trans (by exact rfl)) (Sub4.trans (Sub4.all _) (Sub4.skip (n := 1) (len1 _) (Sub4.all _))))) ?_
          exact ls_fin s0 (.int .i64 a1.2) (congrArg (fun z => upd z 30 _) hF.symm) ⟨rfl, rfl⟩ (sub_nil _)
        refine cs_draw extent_Meets.tab12 12 1 (spl [s14_0, s14_1, s14_2, s14_3, s14_4, s14_5, s14_6, s14_7, s14_8, s14_9, s14_10, s14_11]) (onl [true, true, true, true, true, true, true, true, true, true, true, true]) (by kernel_rfl) (by kernel_rfl) (by kernel_rfl) (by kernel_rfl) (rs := [_, _, _]) rfl (by kernel_rfl) (by kernel_rfl) (all_snoc (all_snoc (all_snoc (all_snoc (all_snoc (all_snoc (all_snoc (all_snoc (all_snoc (all_snoc (all_snoc (all_snoc (all_nil) (ops14_0 _ _ rfl rfl)) (ops14_1 _ _ rfl rfl)) (ops14_2 _ _ ⟨rfl, rfl⟩ rfl)) (ops14_3 _ _ ⟨rfl, rfl, rfl⟩ rfl)) (ops14_4 _ _ ⟨rfl, rfl⟩ rfl)) (ops14_5 _ _ ⟨rfl, rfl⟩ rfl)) (ops14_6 _ _ ⟨rfl, rfl⟩ rfl)) (ops14_7 _ _ ⟨rfl, rfl, rfl, rfl⟩ rfl)) (ops14_8 _ _ ⟨rfl, rfl, rfl⟩ rfl)) (ops14_9 _ _ ⟨rfl, rfl, rfl⟩ rfl)) (ops14_10 _ _ ⟨rfl, rfl⟩ rfl)) (ops14_11 _ _ ⟨rfl, rfl, rfl⟩ rfl)) ?_
        intro vs Rs f' S' hp hf hx hS hR
        obtain ⟨hv4, hR4⟩ := (spe rfl hs14_4 (hp 4 (by kernel_rfl)))
        obtain ⟨hv9, hR9⟩ := (spe rfl hs14_9 (hp 9 (by kernel_rfl)))
        obtain ⟨hv11, hR11⟩ := (spe rfl hs14_11 (hp 11 (by kernel_rfl)))
        refine ls_fr (F := upd (upd (upd f' 23 (.bool (decide (t10 < (l0.length : Int))))) 28 (.int .i64 y19)) 30 (.int .i64 a1.2)) (fr_next (fr_next (fr_next (rfl) ((hf 4 23 (by kernel_rfl) rfl).trans hv4)) ((hf 9 28 (by kernel_rfl) rfl).trans hv9)) ((hf 11 30 (by kernel_rfl) rfl).trans hv11)) ?_
        refine ls_sub (s0) (sub_nil _) ?_
        refine ls_know (c := true) (dec_t q15) 23 (by kernel_rfl) ?_
        refine ls_on (j := 4) (t := 23) (b := true) rfl rfl (by kernel_rfl) (by kernel_rfl) ?_
        refine ls_val (v := .bool (decide (y19 < a1.2))) rfl rfl (by kernel_rfl) (fun w => by kernel_rfl) ?_
        refine ls_val (v := .bool (decide (y19 < a1.2))) rfl rfl (by kernel_rfl) (fun w => by kernel_rfl) ?_
        refine ls_val (v := .bool (decide (y19 < a1.2))) rfl rfl (by kernel_rfl) (fun w => by kernel_rfl) ?_
        refine ls_end ?_
        refine qn_then ?_
        refine cs_ret' ?_
        obtain rfl := Option.some.inj H
        refine qr_res (rs := [_]) rfl (fun w' hs => ⟨[.bool (decide (y19 < a1.2))], (res_tmp (by kernel_rfl) (.nil)), (), rfl, hs.pick (ts := []) (cs := []) trivial (by decide)⟩)
      · replace H := ite_f q15 H
        refine cs_draw extent_Meets.tab12 12 1 (spl [s14_0, s14_1, s14_2, s14_3, s14_4, spu, spu, spu, spu, spu, spu, spu]) (onl [true, true, true, true, true, false, false, false, false, false, false, false]) (by kernel_rfl) (by kernel_rfl) (by kernel_rfl) (by kernel_rfl) (rs := [_, _, _]) rfl (by kernel_rfl) (by kernel_rfl) (all_snoc (all_snoc (all_snoc (all_snoc (all_snoc (all_snoc (all_snoc (all_snoc (all_snoc (all_snoc (all_snoc (all_snoc (all_nil) (ops14_0 _ _ rfl rfl)) (ops14_1 _ _ rfl rfl)) (ops14_2 _ _ ⟨rfl, rfl⟩ rfl)) (ops14_3 _ _ ⟨rfl, rfl, rfl⟩ rfl)) (ops14_4 _ _ ⟨rfl, rfl⟩ rfl)) (op_offi 5 4 23 true rfl rfl (by kernel_rfl) (by kernel_rfl) rfl (fun v R h => by rw [hs14_4] at h; obtain ⟨h, _⟩ := h; exact h.trans (congrArg Value.bool (show (decide (t10 < (l0.length : Int))) = false from dec_f q15))) rfl rfl)) (op_offi 6 4 23 true rfl rfl (by kernel_rfl) (by kernel_rfl) rfl (fun v R h => by rw [hs14_4] at h; obtain ⟨h, _⟩ := h; exact h.trans (congrArg Value.bool (show (decide (t10 < (l0.length : Int))) = false from dec_f q15))) rfl rfl)) (op_offi 7 4 23 true rfl rfl (by kernel_rfl) (by kernel_rfl) rfl (fun v R h => by rw [hs14_4] at h; obtain ⟨h, _⟩ := h; exact h.trans (congrArg Value.bool (show (decide (t10 < (l0.length : Int))) = false from dec_f q15))) rfl rfl)) (op_offi 8 4 23 true rfl rfl (by kernel_rfl) (by kernel_rfl) rfl (fun v R h => by rw [hs14_4] at h; obtain ⟨h, _⟩ := h; exact h.trans (congrArg Value.bool (show (decide (t10 < (l0.length : Int))) = false from dec_f q15))) rfl rfl)) (op_offi 9 4 23 true rfl rfl (by kernel_rfl) (by kernel_rfl) rfl (fun v R h => by rw [hs14_4] at h; obtain ⟨h, _⟩ := h; exact h.trans (congrArg Value.bool (show (decide (t10 < (l0.length : Int))) = false from dec_f q15))) rfl rfl)) (op_offi 10 4 23 true rfl rfl (by kernel_rfl) (by kernel_rfl) rfl (fun v R h => by rw [hs14_4] at h; obtain ⟨h, _⟩ := h; exact h.trans (congrArg Value.bool (show (decide (t10 < (l0.length : Int))) = false from dec_f q15))) rfl rfl)) (op_offi 11 4 23 true rfl rfl (by kernel_rfl) (by kernel_rfl) rfl (fun v R h => by rw [hs14_4] at h; obtain ⟨h, _⟩ := h; exact h.trans (congrArg Value.bool (show (decide (t10 < (l0.length : Int))) = false from dec_f q15))) rfl rfl)) ?_
        intro vs Rs f' S' hp hf hx hS hR
        obtain ⟨hv4, hR4⟩ := (spe rfl hs14_4 (hp 4 (by kernel_rfl)))
        obtain ⟨hv9, hR9⟩ := (spe rfl rfl (hp 9 (by kernel_rfl)) : spu _ _)
        obtain ⟨hv11, hR11⟩ := (spe rfl rfl (hp 11 (by kernel_rfl)) : spu _ _)
        refine ls_fr (F := upd f' 23 (.bool (decide (t10 < (l0.length : Int))))) (fr_next (rfl) ((hf 4 23 (by kernel_rfl) rfl).trans hv4)) ?_
        refine ls_sub (s0) (sub_nil _) ?_
        refine ls_know (c := false) (dec_f q15) 23 (by kernel_rfl) ?_
        refine ls_off (j := 4) (t := 23) (b := true) (c := false) rfl rfl (by kernel_rfl) (by kernel_rfl) rfl rfl (by kernel_rfl) ?_
        refine ls_val (v := .bool false) rfl rfl (by kernel_rfl) (fun w => by kernel_rfl) ?_
        refine ls_val (v := .bool false) rfl rfl (by kernel_rfl) (fun w => by kernel_rfl) ?_
        refine ls_end ?_
        refine qn_then ?_
        refine cs_ret' ?_
        obtain rfl := Option.some.inj H
        refine qr_res (rs := [_]) rfl (fun w' hs => ⟨[.bool false], (res_tmp (by kernel_rfl) (.nil)), (), rfl, hs.pick (ts := []) (cs := []) trivial (by decide)⟩)
    · replace H := ite_f q9 H
      refine cs_know (c := true) (congrArg Bool.not (Bool.eq_false_iff.mpr q9)) 13 (by kernel_rfl) ?_
      refine cs_true (by kernel_rfl) ?_
      refine cs_seq ?_
      refine cs_region (l := [_]) ?_
      refine ls_val (v := .bool false) rfl rfl (by kernel_rfl) (fun w => by kernel_rfl) ?_
      refine ls_end ?_
      refine qn_then ?_
      refine cs_ret' ?_
      refine qr_then ?_
      obtain rfl := Option.some.inj H
      refine qr_res (rs := [_]) rfl (fun w' hs => ⟨[.bool false], (res_tmp (by kernel_rfl) (.nil)), (), rfl, hs.pick (ts := []) (cs := []) trivial (by decide)⟩)
  · replace H := ite_f q5 H
    refine ls_know (c := true) (congrArg Bool.not (Bool.eq_false_iff.mpr q5)) 9 (by kernel_rfl) ?_
    refine ls_off (j := 3) (t := 9) (b := false) (c := true) rfl rfl (by kernel_rfl) (by kernel_rfl) rfl rfl (by kernel_rfl) ?_
    refine ls_off (j := 3) (t := 9) (b := false) (c := true) rfl rfl (by kernel_rfl) (by kernel_rfl) rfl rfl (by kernel_rfl) ?_
    refine ls_off (j := 3) (t := 9) (b := false) (c := true) rfl rfl (by kernel_rfl) (by kernel_rfl) rfl rfl (by kernel_rfl) ?_
    refine ls_val (v := .bool true) rfl rfl (by kernel_rfl) (fun w => by kernel_rfl) ?_
    refine ls_end ?_
    refine qn_then ?_
    refine cs_true (by kernel_rfl) ?_
    refine cs_seq ?_
    refine cs_region (l := [_]) ?_
    refine ls_val (v := .bool false) rfl rfl (by kernel_rfl) (fun w => by kernel_rfl) ?_
    refine ls_end ?_
    refine qn_then ?_
    refine cs_ret' ?_
    refine qr_then ?_
    obtain rfl := Option.some.inj H
    refine qr_res (rs := [_]) rfl (fun w' hs => ⟨[.bool false], (res_tmp (by kernel_rfl) (.nil)), (), rfl, hs.pick (ts := []) (cs := []) trivial (by decide)⟩)

/-! ### (*shadowbox/alloc.Alloc).check: function 51 -/
def alloc_Alloc_check.tab5 : List (List Nat) := [[], [0], [], [2], [2, 3], [2, 3, 4], [2, 3, 4, 5], [0, 1, 2, 3, 4, 5, 6], [0, 1, 2, 3, 4, 5, 6, 7], [0, 1, 2, 3, 4, 5, 6, 7, 8], [0, 1, 2, 3, 4, 5, 6, 7, 8, 9], [0, 1, 2, 3, 4, 5, 6, 7, 8], [0, 1, 2, 3, 4, 5, 6, 7, 8, 11], [0, 1, 2, 3, 4, 5, 6, 7, 8, 9, 10, 11, 12], [0, 1, 2, 3, 4, 5, 6, 7, 8, 9, 10, 11, 12, 13], [0, 1, 2, 3, 4, 5, 6, 7, 8, 9, 10, 11, 12, 13, 14], [0, 1, 2, 3, 4, 5, 6, 7, 8, 9, 10, 11, 12, 13, 14, 15], [0, 1, 2, 3, 4, 5, 6, 7, 8, 9, 10, 11, 12, 13, 14, 15, 16], [0, 1, 2, 3, 4, 5, 6, 7, 8, 9, 10, 11, 12, 13, 14, 15], [0, 1, 2, 3, 4, 5, 6, 7, 8, 9, 10, 11, 12, 13, 14, 15, 18], [0, 1, 2, 3, 4, 5, 6, 7, 8, 9, 10, 11, 12, 13, 14, 15, 18, 19], [0, 1, 2, 3, 4, 5, 6, 7, 8, 9, 10, 11, 12, 13, 14, 15, 18, 19, 20], [0, 1, 2, 3, 4, 5, 6, 7, 8, 9, 10, 11, 12, 13, 14, 15, 18, 19, 20, 21], [0, 1, 2, 3, 4, 5, 6, 7, 8, 9, 10, 11, 12, 13, 14, 15, 16, 17, 18, 19, 20, 21, 22], [0, 1, 2, 3, 4, 5, 6, 7, 8, 9, 10, 11, 12, 13, 14, 15, 16, 17, 18, 19, 20, 21, 22, 23], [0, 1, 2, 3, 4, 5, 6, 7, 8, 9, 10, 11, 12, 13, 14, 15, 16, 17, 18, 19, 20, 21, 22, 23, 24]]
def alloc_Alloc_check.f (k : Nat) (v0 : ((Int × Int) × Bool × Int × (List (Int × Int)) × Unit × (List (Int × Int)))) (w0_4 : (Bool × (List (Int × Int)))) (a1 : (Int × Int)) : Option (Int) :=
  (alloc_Alloc_none.f k (v0.1, v0.2.1, v0.2.2.1, v0.2.2.2.1, (), v0.2.2.2.2.2) (w0_4.1, w0_4.2)).bind fun t2 => (if t2 = true then some (1 : Int) else (if a1.1 < v0.1.1 then some (2 : Int) else (if a1.1 ≥ a1.2 then some (2 : Int) else (if a1.2 > v0.1.2 then some (2 : Int) else some (0 : Int)))))
set_option maxRecDepth 100000 in
set_option maxHeartbeats 4000000 in
theorem alloc_Alloc_check.calls (k : Nat) (pg0 : Nat) (A0_3 : Option Addr) (c0_3 : Nat) (r0_4 : Nat) (A0_5 : Option Addr) (c0_5 : Nat) (v0 : ((Int × Int) × Bool × Int × (List (Int × Int)) × Unit × (List (Int × Int)))) (A0_4 : Option Addr) (c0_4 : Nat) (w0_4 : (Bool × (List (Int × Int)))) (a1 : (Int × Int)) (r : Int) (b : Bs) (hs0 : St b (stl [Ck.var 66 pg0 ((([Value.int .i64 v0.1.1] ++ [Value.int .i64 v0.1.2]) ++ ([Value.bool v0.2.1] ++ ([Value.int .i64 v0.2.2.1] ++ ([Value.slice A0_3 v0.2.2.2.1.length c0_3] ++ ([Value.map (some r0_4)] ++ [Value.slice A0_5 v0.2.2.2.2.2.length c0_5])))))), Ck.m1 r0_4 w0_4.1 A0_4 w0_4.2.length c0_4, Ck.sl T24 A0_4 c0_4 w0_4.2]) b.w) (R0_3 : Ro b A0_3 (em T24 v0.2.2.2.1)) (C0_3 : v0.2.2.2.1.length ≤ c0_3) (R0_5 : Ro b A0_5 (em T24 v0.2.2.2.2.2)) (C0_5 : v0.2.2.2.2.2.length ≤ c0_5) (H : alloc_Alloc_check.f k v0 w0_4 a1 = some r) :
    Calls Try.prog 51 #[.pointer (some ⟨pg0, 0, none⟩), .agg ⟨([Value.int .i64 a1.1] ++ [Value.int .i64 a1.2])⟩] b.w fun e w' => ∃ x : Unit, e = .returned (.int .i64 r) ∧ St b (stl [Ck.var 66 pg0 ((([Value.int .i64 v0.1.1] ++ [Value.int .i64 v0.1.2]) ++ ([Value.bool v0.2.1] ++ ([Value.int .i64 v0.2.2.1] ++ ([Value.slice A0_3 v0.2.2.2.1.length c0_3] ++ ([Value.map (some r0_4)] ++ [Value.slice A0_5 v0.2.2.2.2.2.length c0_5])))))), Ck.m1 r0_4 w0_4.1 A0_4 w0_4.2.length c0_4, Ck.sl T24 A0_4 c0_4 w0_4.2]) w' := by
  unfold alloc_Alloc_check.f at H
  refine enterb (n := 34) Try.func51 rfl (by kernel_rfl) (by kernel_rfl) hs0 ?_
  refine cs_sub (sput (sput (sput s0 0 (some (Ck.var 66 pg0 ((([Value.int .i64 v0.1.1] ++ [Value.int .i64 v0.1.2]) ++ ([Value.bool v0.2.1] ++ ([Value.int .i64 v0.2.2.1] ++ ([Value.slice A0_3 v0.2.2.2.1.length c0_3] ++ ([Value.map (some r0_4)] ++ [Value.slice A0_5 v0.2.2.2.2.2.length c0_5]))))))))) 1 (some (Ck.m1 r0_4 w0_4.1 A0_4 w0_4.2.length c0_4))) 2 (some (Ck.sl T24 A0_4 c0_4 w0_4.2))) (sub_put (by exact rfl) (sub_put (by exact rfl) (sub_put (by exact rfl) (sub_nil _)))) ?_
  refine cs_seq ?_
  refine cs_region (l := [_, _]) ?_
  refine ls_new rfl rfl (by kernel_rfl) 3 (fun g => .pointer (some ⟨g, 0, none⟩)) (.cells ⟨([Value.int .i64 a1.1] ++ [Value.int .i64 a1.2])⟩ 24) (fun w => by kernel_rfl) ?_
  intro g1
  refine ls_val (v := .int .i64 (0 : Int)) rfl rfl (by kernel_rfl) (fun w => by kernel_rfl) ?_
  refine ls_end ?_
  refine qn_then ?_
  refine cs_seq ?_
  refine cs_block ?_
  refine cs_seq ?_
  refine cs_region (l := [_, _, _]) ?_
  refine ls_val (v := .pointer (some ⟨pg0, 0, none⟩)) rfl rfl (by kernel_rfl) (fun w => by kernel_rfl) ?_
  obtain ⟨t2, hc3, H⟩ := bind_some H
  refine ls_callb (fid := 48) (vals := #[.pointer (some ⟨pg0, 0, none⟩)]) (X := Unit) (fun x => .bool t2) (fun x => stl [Ck.var 66 pg0 ((([Value.int .i64 v0.1.1] ++ [Value.int .i64 v0.1.2]) ++ ([Value.bool v0.2.1] ++ ([Value.int .i64 v0.2.2.1] ++ ([Value.slice A0_3 v0.2.2.2.1.length c0_3] ++ ([Value.map (some r0_4)] ++ [Value.slice A0_5 v0.2.2.2.2.2.length c0_5])))))), Ck.m1 r0_4 w0_4.1 A0_4 w0_4.2.length c0_4, Ck.sl T24 A0_4 c0_4 w0_4.2]) [0, 1, 2] [] [Ck.var 66 pg0 ((([Value.int .i64 v0.1.1] ++ [Value.int .i64 v0.1.2]) ++ ([Value.bool v0.2.1] ++ ([Value.int .i64 v0.2.2.1] ++ ([Value.slice A0_3 v0.2.2.2.1.length c0_3] ++ ([Value.map (some r0_4)] ++ [Value.slice A0_5 v0.2.2.2.2.2.length c0_5])))))), Ck.m1 r0_4 w0_4.1 A0_4 w0_4.2.length c0_4, Ck.sl T24 A0_4 c0_4 w0_4.2] [] 4 rfl rfl (by kernel_rfl) (fun w => by kernel_rfl) ⟨by exact rfl, by exact rfl, by exact rfl, trivial⟩ trivial (by decide) (fun w hs hb => alloc_Alloc_none.calls k pg0 A0_3 c0_3 r0_4 A0_5 c0_5 (v0.1, v0.2.1, v0.2.2.1, v0.2.2.2.1, (), v0.2.2.2.2.2) A0_4 c0_4 (w0_4.1, w0_4.2) t2 (lent b w [Ck.var 66 pg0 ((([Value.int .i64 v0.1.1] ++ [Value.int .i64 v0.1.2]) ++ ([Value.bool v0.2.1] ++ ([Value.int .i64 v0.2.2.1] ++ ([Value.slice A0_3 v0.2.2.2.1.length c0_3] ++ ([Value.map (some r0_4)] ++ [Value.slice A0_5 v0.2.2.2.2.2.length c0_5])))))), Ck.m1 r0_4 w0_4.1 A0_4 w0_4.2.length c0_4, Ck.sl T24 A0_4 c0_4 w0_4.2] []) hb (hs.ro R0_3 _ _) C0_3 (hs.ro R0_5 _ _) C0_5 hc3) ?_
  intro x4
  refine ls_val (v := .bool t2) rfl rfl (by kernel_rfl) (fun w => by kernel_rfl) ?_
  refine ls_end ?_
  refine qn_then ?_
  by_cases q5 : t2 = true
  · replace H := ite_t q5 H
    refine cs_know (c := true) (q5) 5 (by kernel_rfl) ?_
    refine cs_true (by kernel_rfl) ?_
    refine cs_seq ?_
    refine cs_region (l := [_]) ?_
    refine ls_val (v := .int .i64 (1 : Int)) rfl rfl (by kernel_rfl) (fun w => by kernel_rfl) ?_
    refine ls_end ?_
    refine qn_then ?_
    refine cs_ret' ?_
    refine qr_block ?_
    refine qr_then ?_
    obtain rfl := Option.some.inj H
    refine qr_res (rs := [_]) rfl (fun w' hs => ⟨[.int .i64 (1 : Int)], (res_tmp (by kernel_rfl) (.nil)), (), rfl, hs.pick (ts := [0, 1, 2]) (cs := [Ck.var 66 pg0 ((([Value.int .i64 v0.1.1] ++ [Value.int .i64 v0.1.2]) ++ ([Value.bool v0.2.1] ++ ([Value.int .i64 v0.2.2.1] ++ ([Value.slice A0_3 v0.2.2.2.1.length c0_3] ++ ([Value.map (some r0_4)] ++ [Value.slice A0_5 v0.2.2.2.2.2.length c0_5])))))), Ck.m1 r0_4 w0_4.1 A0_4 w0_4.2.length c0_4, Ck.sl T24 A0_4 c0_4 w0_4.2]) ⟨by exact rfl, by exact rfl, by exact rfl, trivial⟩ (by decide)⟩)
  · replace H := ite_f q5 H
    refine cs_know (c := false) (Bool.eq_false_iff.mpr q5) 5 (by kernel_rfl) ?_
    refine cs_false (by kernel_rfl) ?_
    refine cs_seq ?_
    obtain ⟨s7_0, hs7_0⟩ : ∃ z : Value → Sto → Prop, z = (fun v R => v = .pointer (some ⟨g1, (0 + 0), none⟩) ∧ R = s0) := ⟨_, rfl⟩
    refine have_op (l := [_, _, _, _, _, _, _, _, _, _, _, _, _, _, _, _, _, _, _, _, _, _, _, _, _, _]) alloc_Alloc_check.tab5 4 0 (fun sp => sp 0 = s7_0) (fun sp on hA hon => ?_) (fun ops7_0 => ?_)
    · refine ⟨fun o ho vs Rs f' S' w hp hf hx hS hR hs => ?_⟩
      obtain rfl := Option.some.inj ho
      rw [hA, hs7_0]
      refine And.intro (fun a ha => (want_none rfl a ha).trans hon.symm) (And.intro (fun _ => ?_) (fun h => by rw [hon] at h; cases h))
      have hF := fr_next (rfl) ((hx 3 (by kernel_rfl)).trans (by kernel_rfl : (_ : Value) = .pointer (some ⟨g1, 0, none⟩)))
      refine ls_fr hF ?_
      refine ls_val (v := .pointer (some ⟨g1, (0 + 0), none⟩)) rfl rfl (by kernel_rfl) (fun w => by kernel_rfl) ?_
      exact ls_fin s0 (.pointer (some ⟨g1, (0 + 0), none⟩)) (congrArg (fun z => upd z 9 _) hF.symm) ⟨rfl, rfl⟩ (sub_nil _)
    obtain ⟨s7_1, hs7_1⟩ : ∃ z : Value → Sto → Prop, z = (fun v R => v = .int .i64 a1.1 ∧ R = s0) := ⟨_, rfl⟩
    refine have_op (l := [_, _, _, _, _, _, _, _, _, _, _, _, _, _, _, _, _, _, _, _, _, _, _, _, _, _]) alloc_Alloc_check.tab5 4 1 (fun sp => sp 1 = s7_1 ∧ sp 0 = s7_0) (fun sp on hA hon => ?_) (fun ops7_1 => ?_)
    · refine ⟨fun o ho vs Rs f' S' w hp hf hx hS hR hs => ?_⟩
      obtain rfl := Option.some.inj ho
      obtain ⟨hv0, hR0⟩ := (spe hA.2 hs7_0 (hp 0 (by kernel_rfl)))
      rw [hA.1, hs7_1]
      refine And.intro (fun a ha => (want_none rfl a ha).trans hon.symm) (And.intro (fun _ => ?_) (fun h => by rw [hon] at h; cases h))
      have hF := fr_next (rfl) ((hf 0 9 (by kernel_rfl) rfl).trans hv0)
      refine ls_fr hF ?_
      refine ls_load (a0 := ⟨g1, (0 + 0), none⟩) (v := .int .i64 a1.1) (de := (TypeDesc.int .i64)) rfl rfl (by kernel_rfl) rfl (by kernel_rfl) (by kernel_rfl) (by kernel_rfl) (fun w1 hs1 => cell_step hs1.below.bw (hs.var (k := 3) ((hS 3 (by kernel_rfl)).trans (by exact rfl)) (Sub4.trans (Sub4.all _) (Sub4.head _ _)))) ?_
      exact ls_fin s0 (.int .i64 a1.1) (congrArg (fun z => upd z 10 _) hF.symm) ⟨rfl, rfl⟩ (sub_nil _)
    obtain ⟨s7_2, hs7_2⟩ : ∃ z : Value → Sto → Prop, z = (fun v R => v = .pointer (some ⟨pg0, 0, none⟩) ∧ R = s0) := ⟨_, rfl⟩
    refine have_op (l := [_, _, _, _, _, _, _, _, _, _, _, _, _, _, _, _, _, _, _, _, _, _, _, _, _, _]) alloc_Alloc_check.tab5 4 2 (fun sp => sp 2 = s7_2) (fun sp on hA hon => ?_) (fun ops7_2 => ?_)
    · refine ⟨fun o ho vs Rs f' S' w hp hf hx hS hR hs => ?_⟩
      obtain rfl := Option.some.inj ho
      rw [hA, hs7_2]
      refine And.intro (fun a ha => (want_none rfl a ha).trans hon.symm) (And.intro (fun _ => ?_) (fun h => by rw [hon] at h; cases h))
      have hF := fr_next (rfl) ((hx 0 (by kernel_rfl)).trans (by kernel_rfl : (_ : Value) = .pointer (some ⟨pg0, 0, none⟩)))
      refine ls_fr hF ?_
      refine ls_val (v := .pointer (some ⟨pg0, 0, none⟩)) rfl rfl (by kernel_rfl) (fun w => by kernel_rfl) ?_
      exact ls_fin s0 (.pointer (some ⟨pg0, 0, none⟩)) (congrArg (fun z => upd z 11 _) hF.symm) ⟨rfl, rfl⟩ (sub_nil _)
    obtain ⟨s7_3, hs7_3⟩ : ∃ z : Value → Sto → Prop, z = (fun v R => v = .pointer (some ⟨pg0, 0, none⟩) ∧ R = s0) := ⟨_, rfl⟩
    refine have_op (l := [_, _, _, _, _, _, _, _, _, _, _, _, _, _, _, _, _, _, _, _, _, _, _, _, _, _]) alloc_Alloc_check.tab5 4 3 (fun sp => sp 3 = s7_3 ∧ sp 2 = s7_2) (fun sp on hA hon => ?_) (fun ops7_3 => ?_)
    · refine ⟨fun o ho vs Rs f' S' w hp hf hx hS hR hs => ?_⟩
      obtain rfl := Option.some.inj ho
      obtain ⟨hv2, hR2⟩ := (spe hA.2 hs7_2 (hp 2 (by kernel_rfl)))
      rw [hA.1, hs7_3]
      refine And.intro (fun a ha => (want_none rfl a ha).trans hon.symm) (And.intro (fun _ => ?_) (fun h => by rw [hon] at h; cases h))
      have hF := fr_next (rfl) ((hf 2 11 (by kernel_rfl) rfl).trans hv2)
      refine ls_fr hF ?_
      refine ls_val (v := .pointer (some ⟨pg0, 0, none⟩)) rfl rfl (by kernel_rfl) (fun w => by kernel_rfl) ?_
      exact ls_fin s0 (.pointer (some ⟨pg0, 0, none⟩)) (congrArg (fun z => upd z 12 _) hF.symm) ⟨rfl, rfl⟩ (sub_nil _)
    obtain ⟨s7_4, hs7_4⟩ : ∃ z : Value → Sto → Prop, z = (fun v R => v = .pointer (some ⟨pg0, (0 + 0), none⟩) ∧ R = s0) := ⟨_, rfl⟩
    refine have_op (l := [_, _, _, _, _, _, _, _, _, _, _, _, _, _, _, _, _, _, _, _, _, _, _, _, _, _]) alloc_Alloc_check.tab5 4 4 (fun sp => sp 4 = s7_4 ∧ sp 3 = s7_3) (fun sp on hA hon => ?_) (fun ops7_4 => ?_)
    · refine ⟨fun o ho vs Rs f' S' w hp hf hx hS hR hs => ?_⟩
      obtain rfl := Option.some.inj ho
      obtain ⟨hv3, hR3⟩ := (spe hA.2 hs7_3 (hp 3 (by kernel_rfl)))
      rw [hA.1, hs7_4]
      refine And.intro (fun a ha => (want_none rfl a ha).trans hon.symm) (And.intro (fun _ => ?_) (fun h => by rw [hon] at h; cases h))
      have hF := fr_next (rfl) ((hf 3 12 (by kernel_rfl) rfl).trans hv3)
      refine ls_fr hF ?_
      refine ls_val (v := .pointer (some ⟨pg0, (0 + 0), none⟩)) rfl rfl (by kernel_rfl) (fun w => by kernel_rfl) ?_
      exact ls_fin s0 (.pointer (some ⟨pg0, (0 + 0), none⟩)) (congrArg (fun z => upd z 13 _) hF.symm) ⟨rfl, rfl⟩ (sub_nil _)
    obtain ⟨s7_5, hs7_5⟩ : ∃ z : Value → Sto → Prop, z = (fun v R => v = .pointer (some ⟨pg0, ((0 + 0) + 0), none⟩) ∧ R = s0) := ⟨_, rfl⟩
    refine have_op (l := [_, _, _, _, _, _, _, _, _, _, _, _, _, _, _, _, _, _, _, _, _, _, _, _, _, _]) alloc_Alloc_check.tab5 4 5 (fun sp => sp 5 = s7_5 ∧ sp 4 = s7_4) (fun sp on hA hon => ?_) (fun ops7_5 => ?_)
    · refine ⟨fun o ho vs Rs f' S' w hp hf hx hS hR hs => ?_⟩
      obtain rfl := Option.some.inj ho
      obtain ⟨hv4, hR4⟩ := (spe hA.2 hs7_4 (hp 4 (by kernel_rfl)))
      rw [hA.1, hs7_5]
      refine And.intro (fun a ha => (want_none rfl a ha).trans hon.symm) (And.intro (fun _ => ?_) (fun h => by rw [hon] at h; cases h))
      have hF := fr_next (rfl) ((hf 4 13 (by kernel_rfl) rfl).trans hv4)
      refine ls_fr hF ?_
      refine ls_val (v := .pointer (some ⟨pg0, ((0 + 0) + 0), none⟩)) rfl rfl (by kernel_rfl) (fun w => by kernel_rfl) ?_
      exact ls_fin s0 (.pointer (some ⟨pg0, ((0 + 0) + 0), none⟩)) (congrArg (fun z => upd z 14 _) hF.symm) ⟨rfl, rfl⟩ (sub_nil _)
    obtain ⟨s7_6, hs7_6⟩ : ∃ z : Value → Sto → Prop, z = (fun v R => v = .int .i64 v0.1.1 ∧ R = s0) := ⟨_, rfl⟩
    refine have_op (l := [_, _, _, _, _, _, _, _, _, _, _, _, _, _, _, _, _, _, _, _, _, _, _, _, _, _]) alloc_Alloc_check.tab5 4 6 (fun sp => sp 6 = s7_6 ∧ sp 5 = s7_5) (fun sp on hA hon => ?_) (fun ops7_6 => ?_)
    · refine ⟨fun o ho vs Rs f' S' w hp hf hx hS hR hs => ?_⟩
      obtain rfl := Option.some.inj ho
      obtain ⟨hv5, hR5⟩ := (spe hA.2 hs7_5 (hp 5 (by kernel_rfl)))
      rw [hA.1, hs7_6]
      refine And.intro (fun a ha => (want_none rfl a ha).trans hon.symm) (And.intro (fun _ => ?_) (fun h => by rw [hon] at h; cases h))
      have hF := fr_next (rfl) ((hf 5 14 (by kernel_rfl) rfl).trans hv5)
      refine ls_fr hF ?_
      refine ls_load (a0 := ⟨pg0, ((0 + 0) + 0), none⟩) (v := .int .i64 v0.1.1) (de := (TypeDesc.int .i64)) rfl rfl (by kernel_rfl) rfl (by kernel_rfl) (by kernel_rfl) (by kernel_rfl) (fun w1 hs1 => cell_step hs1.below.bw (hs.var (k := 0) ((hS 0 (by kernel_rfl)).trans (by exact rfl)) (Sub4.trans (Sub4.trans (Sub4.all _) (Sub4.head _ _)) (Sub4.head _ _)))) ?_
      exact ls_fin s0 (.int .i64 v0.1.1) (congrArg (fun z => upd z 15 _) hF.symm) ⟨rfl, rfl⟩ (sub_nil _)
    obtain ⟨s7_7, hs7_7⟩ : ∃ z : Value → Sto → Prop, z = (fun v R => v = .bool (decide (a1.1 < v0.1.1)) ∧ R = s0) := ⟨_, rfl⟩
    refine have_op (l := [_, _, _, _, _, _, _, _, _, _, _, _, _, _, _, _, _, _, _, _, _, _, _, _, _, _]) alloc_Alloc_check.tab5 4 7 (fun sp => sp 7 = s7_7 ∧ sp 1 = s7_1 ∧ sp 6 = s7_6) (fun sp on hA hon => ?_) (fun ops7_7 => ?_)
    · refine ⟨fun o ho vs Rs f' S' w hp hf hx hS hR hs => ?_⟩
      obtain rfl := Option.some.inj ho
      obtain ⟨hv1, hR1⟩ := (spe hA.2.1 hs7_1 (hp 1 (by kernel_rfl)))
      obtain ⟨hv6, hR6⟩ := (spe hA.2.2 hs7_6 (hp 6 (by kernel_rfl)))
      rw [hA.1, hs7_7]
      refine And.intro (fun a ha => (want_none rfl a ha).trans hon.symm) (And.intro (fun _ => ?_) (fun h => by rw [hon] at h; cases h))
      have hF := fr_next (fr_next (rfl) ((hf 1 10 (by kernel_rfl) rfl).trans hv1)) ((hf 6 15 (by kernel_rfl) rfl).trans hv6)
      refine ls_fr hF ?_
      refine ls_val (v := .bool (decide (a1.1 < v0.1.1))) rfl rfl (by kernel_rfl) (fun w => by kernel_rfl) ?_
      exact ls_fin s0 (.bool (decide (a1.1 < v0.1.1))) (congrArg (fun z => upd z 16 _) hF.symm) ⟨rfl, rfl⟩ (sub_nil _)
    obtain ⟨s7_8, hs7_8⟩ : ∃ z : Value → Sto → Prop, z = (fun v R => v = .bool (decide (a1.1 < v0.1.1)) ∧ R = s0) := ⟨_, rfl⟩
    refine have_op (l := [_, _, _, _, _, _, _, _, _, _, _, _, _, _, _, _, _, _, _, _, _, _, _, _, _, _]) alloc_Alloc_check.tab5 4 8 (fun sp => sp 8 = s7_8 ∧ sp 7 = s7_7) (fun sp on hA hon => ?_) (fun ops7_8 => ?_)
    · refine ⟨fun o ho vs Rs f' S' w hp hf hx hS hR hs => ?_⟩
      obtain rfl := Option.some.inj ho
      obtain ⟨hv7, hR7⟩ := (spe hA.2 hs7_7 (hp 7 (by kernel_rfl)))
      rw [hA.1, hs7_8]
      refine And.intro (fun a ha => (want_none rfl a ha).trans hon.symm) (And.intro (fun _ => ?_) (fun h => by rw [hon] at h; cases h))
      have hF := fr_next (rfl) ((hf 7 16 (by kernel_rfl) rfl).trans hv7)
      refine ls_fr hF ?_
      refine ls_val (v := .bool (decide (a1.1 < v0.1.1))) rfl rfl (by kernel_rfl) (fun w => by kernel_rfl) ?_
      exact ls_fin s0 (.bool (decide (a1.1 < v0.1.1))) (congrArg (fun z => upd z 17 _) hF.symm) ⟨rfl, rfl⟩ (sub_nil _)
    by_cases q8 : a1.1 < v0.1.1
    · replace H := ite_t q8 H
      obtain ⟨s7_14, hs7_14⟩ : ∃ z : Value → Sto → Prop, z = (fun v R => v = .bool true ∧ R = s0) := ⟨_, rfl⟩
      refine have_op (l := [_, _, _, _, _, _, _, _, _, _, _, _, _, _, _, _, _, _, _, _, _, _, _, _, _, _]) alloc_Alloc_check.tab5 4 14 (fun sp => sp 14 = s7_14 ∧ sp 8 = s7_8 ∧ sp 13 = spu) (fun sp on hA hon => ?_) (fun ops7_14 => ?_)
      · refine ⟨fun o ho vs Rs f' S' w hp hf hx hS hR hs => ?_⟩
        obtain rfl := Option.some.inj ho
        obtain ⟨hv8, hR8⟩ := (spe hA.2.1 hs7_8 (hp 8 (by kernel_rfl)))
        obtain ⟨hv13, hR13⟩ := (spe hA.2.2 rfl (hp 13 (by kernel_rfl)) : spu _ _)
        rw [hA.1, hs7_14]
        refine And.intro (fun a ha => (want_none rfl a ha).trans hon.symm) (And.intro (fun _ => ?_) (fun h => by rw [hon] at h; cases h))
        have hF := fr_next (fr_next (rfl) (((hf 8 17 (by kernel_rfl) rfl).trans hv8).trans (congrArg Value.bool (show (decide (a1.1 < v0.1.1)) = true from dec_t q8)))) ((hf 13 22 (by kernel_rfl) rfl).trans hv13)
        refine ls_fr hF ?_
        refine ls_val (v := .bool true) rfl rfl (by kernel_rfl) (fun w => by kernel_rfl) ?_
        exact ls_fin s0 (.bool true) (congrArg (fun z => upd z 23 _) hF.symm) ⟨rfl, rfl⟩ (sub_nil _)
      obtain ⟨s7_15, hs7_15⟩ : ∃ z : Value → Sto → Prop, z = (fun v R => v = .bool true ∧ R = s0) := ⟨_, rfl⟩
      refine have_op (l := [_, _, _, _, _, _, _, _, _, _, _, _, _, _, _, _, _, _, _, _, _, _, _, _, _, _]) alloc_Alloc_check.tab5 4 15 (fun sp => sp 15 = s7_15 ∧ sp 14 = s7_14) (fun sp on hA hon => ?_) (fun ops7_15 => ?_)
      · refine ⟨fun o ho vs Rs f' S' w hp hf hx hS hR hs => ?_⟩
        obtain rfl := Option.some.inj ho
        obtain ⟨hv14, hR14⟩ := (spe hA.2 hs7_14 (hp 14 (by kernel_rfl)))
        rw [hA.1, hs7_15]
        refine And.intro (fun a ha => (want_none rfl a ha).trans hon.symm) (And.intro (fun _ => ?_) (fun h => by rw [hon] at h; cases h))
        have hF := fr_next (rfl) ((hf 14 23 (by kernel_rfl) rfl).trans hv14)
        refine ls_fr hF ?_
        refine ls_val (v := .bool true) rfl rfl (by kernel_rfl) (fun w => by kernel_rfl) ?_
        exact ls_fin s0 (.bool true) (congrArg (fun z => upd z 24 _) hF.symm) ⟨rfl, rfl⟩ (sub_nil _)
      refine cs_draw alloc_Alloc_check.tab5 23 4 (spl [s7_0, s7_1, s7_2, s7_3, s7_4, s7_5, s7_6, s7_7, s7_8, spu, spu, spu, spu, spu, s7_14, s7_15, spu, spu, spu, spu, spu, spu, spu]) (onl [true, true, true, true, true, true, true, true, true, false, false, false, false, false, true, true, false, false, false, false, false, false, false]) (by kernel_rfl) (by kernel_rfl) (by kernel_rfl) (by kernel_rfl) (rs := [_, _, _]) rfl (by kernel_rfl) (by kernel_rfl) (all_snoc (all_snoc (all_snoc (all_snoc (all_snoc (all_snoc (all_snoc (all_snoc (all_snoc (all_snoc (all_snoc (all_snoc (all_snoc (all_snoc (all_snoc (all_snoc (all_snoc (all_snoc (all_snoc (all_snoc (all_snoc (all_snoc (all_snoc (all_nil) (ops7_0 _ _ rfl rfl)) (ops7_1 _ _ ⟨rfl, rfl⟩ rfl)) (ops7_2 _ _ rfl rfl)) (ops7_3 _ _ ⟨rfl, rfl⟩ rfl)) (ops7_4 _ _ ⟨rfl, rfl⟩ rfl)) (ops7_5 _ _ ⟨rfl, rfl⟩ rfl)) (ops7_6 _ _ ⟨rfl, rfl⟩ rfl)) (ops7_7 _ _ ⟨rfl, rfl, rfl⟩ rfl)) (ops7_8 _ _ ⟨rfl, rfl⟩ rfl)) (op_offi 9 8 17 false rfl rfl (by kernel_rfl) (by kernel_rfl) rfl (fun v R h => by rw [hs7_8] at h; obtain ⟨h, _⟩ := h; exact h.trans (congrArg Value.bool (show (decide (a1.1 < v0.1.1)) = true from dec_t q8))) rfl rfl)) (op_offi 10 8 17 false rfl rfl (by kernel_rfl) (by kernel_rfl) rfl (fun v R h => by rw [hs7_8] at h; obtain ⟨h, _⟩ := h; exact h.trans (congrArg Value.bool (show (decide (a1.1 < v0.1.1)) = true from dec_t q8))) rfl rfl)) (op_offi 11 8 17 false rfl rfl (by kernel_rfl) (by kernel_rfl) rfl (fun v R h => by rw [hs7_8] at h; obtain ⟨h, _⟩ := h; exact h.trans (congrArg Value.bool (show (decide (a1.1 < v0.1.1)) = true from dec_t q8))) rfl rfl)) (op_offi 12 8 17 false rfl rfl (by kernel_rfl) (by kernel_rfl) rfl (fun v R h => by rw [hs7_8] at h; obtain ⟨h, _⟩ := h; exact h.trans (congrArg Value.bool (show (decide (a1.1 < v0.1.1)) = true from dec_t q8))) rfl rfl)) (op_offi 13 8 17 false rfl rfl (by kernel_rfl) (by kernel_rfl) rfl (fun v R h => by rw [hs7_8] at h; obtain ⟨h, _⟩ := h; exact h.trans (congrArg Value.bool (show (decide (a1.1 < v0.1.1)) = true from dec_t q8))) rfl rfl)) (ops7_14 _ _ ⟨rfl, rfl, rfl⟩ rfl)) (ops7_15 _ _ ⟨rfl, rfl⟩ rfl)) (op_offi 16 15 24 false rfl rfl (by kernel_rfl) (by kernel_rfl) rfl (fun v R h => by rw [hs7_15] at h; obtain ⟨h, _⟩ := h; exact h) rfl rfl)) (op_offi 17 15 24 false rfl rfl (by kernel_rfl) (by kernel_rfl) rfl (fun v R h => by rw [hs7_15] at h; obtain ⟨h, _⟩ := h; exact h) rfl rfl)) (op_offi 18 15 24 false rfl rfl (by kernel_rfl) (by kernel_rfl) rfl (fun v R h => by rw [hs7_15] at h; obtain ⟨h, _⟩ := h; exact h) rfl rfl)) (op_offi 19 15 24 false rfl rfl (by kernel_rfl) (by kernel_rfl) rfl (fun v R h => by rw [hs7_15] at h; obtain ⟨h, _⟩ := h; exact h) rfl rfl)) (op_offi 20 15 24 false rfl rfl (by kernel_rfl) (by kernel_rfl) rfl (fun v R h => by rw [hs7_15] at h; obtain ⟨h, _⟩ := h; exact h) rfl rfl)) (op_offi 21 15 24 false rfl rfl (by kernel_rfl) (by kernel_rfl) rfl (fun v R h => by rw [hs7_15] at h; obtain ⟨h, _⟩ := h; exact h) rfl rfl)) (op_offi 22 15 24 false rfl rfl (by kernel_rfl) (by kernel_rfl) rfl (fun v R h => by rw [hs7_15] at h; obtain ⟨h, _⟩ := h; exact h) rfl rfl)) ?_
      intro vs Rs f' S' hp hf hx hS hR
      obtain ⟨hv15, hR15⟩ := (spe rfl hs7_15 (hp 15 (by kernel_rfl)))
      obtain ⟨hv17, hR17⟩ := (spe rfl rfl (hp 17 (by kernel_rfl)) : spu _ _)
      obtain ⟨hv22, hR22⟩ := (spe rfl rfl (hp 22 (by kernel_rfl)) : spu _ _)
      refine ls_fr (F := upd f' 24 (.bool true)) (fr_next (rfl) ((hf 15 24 (by kernel_rfl) rfl).trans hv15)) ?_
      refine ls_sub (sput (sput (sput s0 0 (some (Ck.var 66 pg0 ((([Value.int .i64 v0.1.1] ++ [Value.int .i64 v0.1.2]) ++ ([Value.bool v0.2.1] ++ ([Value.int .i64 v0.2.2.1] ++ ([Value.slice A0_3 v0.2.2.2.1.length c0_3] ++ ([Value.map (some r0_4)] ++ [Value.slice A0_5 v0.2.2.2.2.2.length c0_5]))))))))) 1 (some (Ck.m1 r0_4 w0_4.1 A0_4 w0_4.2.length c0_4))) 2 (some (Ck.sl T24 A0_4 c0_4 w0_4.2))) (sub_put ((hS 2 (by kernel_rfl)).trans (by exact rfl)) (sub_put ((hS 1 (by kernel_rfl)).trans (by exact rfl)) (sub_put ((hS 0 (by kernel_rfl)).trans (by exact rfl)) (sub_nil _)))) ?_
      refine ls_off (j := 15) (t := 24) (b := false) (c := true) rfl rfl (by kernel_rfl) (by kernel_rfl) rfl rfl (by kernel_rfl) ?_
      refine ls_val (v := .bool true) rfl rfl (by kernel_rfl) (fun w => by kernel_rfl) ?_
      refine ls_val (v := .bool true) rfl rfl (by kernel_rfl) (fun w => by kernel_rfl) ?_
      refine ls_end ?_
      refine qn_then ?_
      refine cs_true (by kernel_rfl) ?_
      refine cs_seq ?_
      refine cs_region (l := [_]) ?_
      refine ls_val (v := .int .i64 (2 : Int)) rfl rfl (by kernel_rfl) (fun w => by kernel_rfl) ?_
      refine ls_end ?_
      refine qn_then ?_
      refine cs_ret' ?_
      refine qr_block ?_
      refine qr_then ?_
      obtain rfl := Option.some.inj H
      refine qr_res (rs := [_]) rfl (fun w' hs => ⟨[.int .i64 (2 : Int)], (res_tmp (by kernel_rfl) (.nil)), (), rfl, hs.pick (ts := [0, 1, 2]) (cs := [Ck.var 66 pg0 ((([Value.int .i64 v0.1.1] ++ [Value.int .i64 v0.1.2]) ++ ([Value.bool v0.2.1] ++ ([Value.int .i64 v0.2.2.1] ++ ([Value.slice A0_3 v0.2.2.2.1.length c0_3] ++ ([Value.map (some r0_4)] ++ [Value.slice A0_5 v0.2.2.2.2.2.length c0_5])))))), Ck.m1 r0_4 w0_4.1 A0_4 w0_4.2.length c0_4, Ck.sl T24 A0_4 c0_4 w0_4.2]) ⟨by exact rfl, by exact rfl, by exact rfl, trivial⟩ (by decide)⟩)
    · replace H := ite_f q8 H
      obtain ⟨s7_9, hs7_9⟩ : ∃ z : Value → Sto → Prop, z = (fun v R => v = .pointer (some ⟨g1, (0 + 0), none⟩) ∧ R = s0) := ⟨_, rfl⟩
      refine have_op (l := [_, _, _, _, _, _, _, _, _, _, _, _, _, _, _, _, _, _, _, _, _, _, _, _, _, _]) alloc_Alloc_check.tab5 4 9 (fun sp => sp 9 = s7_9 ∧ sp 8 = s7_8) (fun sp on hA hon => ?_) (fun ops7_9 => ?_)
      · refine ⟨fun o ho vs Rs f' S' w hp hf hx hS hR hs => ?_⟩
        obtain rfl := Option.some.inj ho
        obtain ⟨hv8, hR8⟩ := (spe hA.2 hs7_8 (hp 8 (by kernel_rfl)))
        rw [hA.1, hs7_9]
        refine And.intro (fun a ha => (want_is (j := 8) (t := 17) (r := true) rfl rfl (by kernel_rfl) (((hf 8 17 (by kernel_rfl) rfl).trans hv8).trans (congrArg Value.bool (show (decide (a1.1 < v0.1.1)) = false from dec_f q8))) rfl a ha).trans hon.symm) (And.intro (fun _ => ?_) (fun h => by rw [hon] at h; cases h))
        have hF := fr_next (fr_next (rfl) ((hx 3 (by kernel_rfl)).trans (by kernel_rfl : (_ : Value) = .pointer (some ⟨g1, 0, none⟩)))) (((hf 8 17 (by kernel_rfl) rfl).trans hv8).trans (congrArg Value.bool (show (decide (a1.1 < v0.1.1)) = false from dec_f q8)))
        refine ls_fr hF ?_
        refine ls_val (v := .pointer (some ⟨g1, (0 + 0), none⟩)) rfl rfl (by kernel_rfl) (fun w => by kernel_rfl) ?_
        exact ls_fin s0 (.pointer (some ⟨g1, (0 + 0), none⟩)) (congrArg (fun z => upd z 18 _) hF.symm) ⟨rfl, rfl⟩ (sub_nil _)
      obtain ⟨s7_10, hs7_10⟩ : ∃ z : Value → Sto → Prop, z = (fun v R => v = .int .i64 a1.1 ∧ R = s0) := ⟨_, rfl⟩
      refine have_op (l := [_, _, _, _, _, _, _, _, _, _, _, _, _, _, _, _, _, _, _, _, _, _, _, _, _, _]) alloc_Alloc_check.tab5 4 10 (fun sp => sp 10 = s7_10 ∧ sp 8 = s7_8 ∧ sp 9 = s7_9) (fun sp on hA hon => ?_) (fun ops7_10 => ?_)
      · refine ⟨fun o ho vs Rs f' S' w hp hf hx hS hR hs => ?_⟩
        obtain rfl := Option.some.inj ho
        obtain ⟨hv8, hR8⟩ := (spe hA.2.1 hs7_8 (hp 8 (by kernel_rfl)))
        obtain ⟨hv9, hR9⟩ := (spe hA.2.2 hs7_9 (hp 9 (by kernel_rfl)))
        rw [hA.1, hs7_10]
        refine And.intro (fun a ha => (want_is (j := 8) (t := 17) (r := true) rfl rfl (by kernel_rfl) (((hf 8 17 (by kernel_rfl) rfl).trans hv8).trans (congrArg Value.bool (show (decide (a1.1 < v0.1.1)) = false from dec_f q8))) rfl a ha).trans hon.symm) (And.intro (fun _ => ?_) (fun h => by rw [hon] at h; cases h))
        have hF := fr_next (fr_next (rfl) (((hf 8 17 (by kernel_rfl) rfl).trans hv8).trans (congrArg Value.bool (show (decide (a1.1 < v0.1.1)) = false from dec_f q8)))) ((hf 9 18 (by kernel_rfl) rfl).trans hv9)
        refine ls_fr hF ?_
        refine ls_load (a0 := ⟨g1, (0 + 0), none⟩) (v := .int .i64 a1.1) (de := (TypeDesc.int .i64)) rfl rfl (by kernel_rfl) rfl (by kernel_rfl) (by kernel_rfl) (by kernel_rfl) (fun w1 hs1 => cell_step hs1.below.bw (hs.var (k := 3) ((hS 3 (by kernel_rfl)).trans (by exact rfl)) (Sub4.trans (Sub4.all _) (Sub4.head _ _)))) ?_
        exact ls_fin s0 (.int .i64 a1.1) (congrArg (fun z => upd z 19 _) hF.symm) ⟨rfl, rfl⟩ (sub_nil _)
      obtain ⟨s7_11, hs7_11⟩ : ∃ z : Value → Sto → Prop, z = (fun v R => v = .pointer (some ⟨g1, (0 + 1), none⟩) ∧ R = s0) := ⟨_, rfl⟩
      refine have_op (l := [_, _, _, _, _, _, _, _, _, _, _, _, _, _, _, _, _, _, _, _, _, _, _, _, _, _]) alloc_Alloc_check.tab5 4 11 (fun sp => sp 11 = s7_11 ∧ sp 8 = s7_8) (fun sp on hA hon => ?_) (fun ops7_11 => ?_)
      · refine ⟨fun o ho vs Rs f' S' w hp hf hx hS hR hs => ?_⟩
        obtain rfl := Option.some.inj ho
        obtain ⟨hv8, hR8⟩ := (spe hA.2 hs7_8 (hp 8 (by kernel_rfl)))
        rw [hA.1, hs7_11]
        refine And.intro (fun a ha => (want_is (j := 8) (t := 17) (r := true) rfl rfl (by kernel_rfl) (((hf 8 17 (by kernel_rfl) rfl).trans hv8).trans (congrArg Value.bool (show (decide (a1.1 < v0.1.1)) = false from dec_f q8))) rfl a ha).trans hon.symm) (And.intro (fun _ => ?_) (fun h => by rw [hon] at h; cases h))
        have hF := fr_next (fr_next (rfl) ((hx 3 (by kernel_rfl)).trans (by kernel_rfl : (_ : Value) = .pointer (some ⟨g1, 0, none⟩)))) (((hf 8 17 (by kernel_rfl) rfl).trans hv8).trans (congrArg Value.bool (show (decide (a1.1 < v0.1.1)) = false from dec_f q8)))
        refine ls_fr hF ?_
        refine ls_val (v := .pointer (some ⟨g1, (0 + 1), none⟩)) rfl rfl (by kernel_rfl) (fun w => by kernel_rfl) ?_
        exact ls_fin s0 (.pointer (some ⟨g1, (0 + 1), none⟩)) (congrArg (fun z => upd z 20 _) hF.symm) ⟨rfl, rfl⟩ (sub_nil _)
      obtain ⟨s7_12, hs7_12⟩ : ∃ z : Value → Sto → Prop, z = (fun v R => v = .int .i64 a1.2 ∧ R = s0) := ⟨_, rfl⟩
      refine have_op (l := [_, _, _, _, _, _, _, _, _, _, _, _, _, _, _, _, _, _, _, _, _, _, _, _, _, _]) alloc_Alloc_check.tab5 4 12 (fun sp => sp 12 = s7_12 ∧ sp 8 = s7_8 ∧ sp 11 = s7_11) (fun sp on hA hon => ?_) (fun ops7_12 => ?_)
      · refine ⟨fun o ho vs Rs f' S' w hp hf hx hS hR hs => ?_⟩
        obtain rfl := Option.some.inj ho
        obtain ⟨hv8, hR8⟩ := (spe hA.2.1 hs7_8 (hp 8 (by kernel_rfl)))
        obtain ⟨hv11, hR11⟩ := (spe hA.2.2 hs7_11 (hp 11 (by kernel_rfl)))
        rw [hA.1, hs7_12]
        refine And.intro (fun a ha => (want_is (j := 8) (t := 17) (r := true) rfl rfl (by kernel_rfl) (((hf 8 17 (by kernel_rfl) rfl).trans hv8).trans (congrArg Value.bool (show (decide (a1.1 < v0.1.1)) = false from dec_f q8))) rfl a ha).trans hon.symm) (And.intro (fun _ => ?_) (fun h => by rw [hon] at h; cases h))
        have hF := fr_next (fr_next (rfl) (((hf 8 17 (by kernel_rfl) rfl).trans hv8).trans (congrArg Value.bool (show (decide (a1.1 < v0.1.1)) = false from dec_f q8)))) ((hf 11 20 (by kernel_rfl) rfl).trans hv11)
        refine ls_fr hF ?_
        refine ls_load (a0 := ⟨g1, (0 + 1), none⟩) (v := .int .i64 a1.2) (de := (TypeDesc.int .i64)) rfl rfl (by kernel_rfl) rfl (by kernel_rfl) (by kernel_rfl) (by kernel_rfl) (fun w1 hs1 => cell_step hs1.below.bw (hs.var (k := 3) ((hS 3 (by kernel_rfl)).trans (by exact rfl)) (Sub4.trans (Sub4.all _) (Sub4.skip (n := 1) (len1 _) (Sub4.all _))))) ?_
        exact ls_fin s0 (.int .i64 a1.2) (congrArg (fun z => upd z 21 _) hF.symm) ⟨rfl, rfl⟩ (sub_nil _)
      obtain ⟨s7_13, hs7_13⟩ : ∃ z : Value → Sto → Prop, z = (fun v R => v = .bool (decide (a1.1 ≥ a1.2)) ∧ R = s0) := ⟨_, rfl⟩
      refine have_op (l := [_, _, _, _, _, _, _, _, _, _, _, _, _, _, _, _, _, _, _, _, _, _, _, _, _, _]) alloc_Alloc_check.tab5 4 13 (fun sp => sp 13 = s7_13 ∧ sp 8 = s7_8 ∧ sp 10 = s7_10 ∧ sp 12 = s7_12) (fun sp on hA hon => ?_) (fun ops7_13 => ?_)
      · refine ⟨fun o ho vs Rs f' S' w hp hf hx hS hR hs => ?_⟩
        obtain rfl := Option.some.inj ho
        obtain ⟨hv8, hR8⟩ := (spe hA.2.1 hs7_8 (hp 8 (by kernel_rfl)))
        obtain ⟨hv10, hR10⟩ := (spe hA.2.2.1 hs7_10 (hp 10 (by kernel_rfl)))
        obtain ⟨hv12, hR12⟩ := (spe hA.2.2.2 hs7_12 (hp 12 (by kernel_rfl)))
        rw [hA.1, hs7_13]
        refine And.intro (fun a ha => (want_is (j := 8) (t := 17) (r := true) rfl rfl (by kernel_rfl) (((hf 8 17 (by kernel_rfl) rfl).trans hv8).trans (congrArg Value.bool (show (decide (a1.1 < v0.1.1)) = false from dec_f q8))) rfl a ha).trans hon.symm) (And.intro (fun _ => ?_) (fun h => by rw [hon] at h; cases h))
        have hF := fr_next (fr_next (fr_next (rfl) (((hf 8 17 (by kernel_rfl) rfl).trans hv8).trans (congrArg Value.bool (show (decide (a1.1 < v0.1.1)) = false from dec_f q8)))) ((hf 10 19 (by kernel_rfl) rfl).trans hv10)) ((hf 12 21 (by kernel_rfl) rfl).trans hv12)
        refine ls_fr hF ?_
        refine ls_val (v := .bool (decide (a1.1 ≥ a1.2))) rfl rfl (by kernel_rfl) (fun w => by kernel_rfl) ?_
        exact ls_fin s0 (.bool (decide (a1.1 ≥ a1.2))) (congrArg (fun z => upd z 22 _) hF.symm) ⟨rfl, rfl⟩ (sub_nil _)
      obtain ⟨s7_14, hs7_14⟩ : ∃ z : Value → Sto → Prop, z = (fun v R => v = .bool (decide (a1.1 ≥ a1.2)) ∧ R = s0) := ⟨_, rfl⟩
      refine have_op (l := [_, _, _, _, _, _, _, _, _, _, _, _, _, _, _, _, _, _, _, _, _, _, _, _, _, _]) alloc_Alloc_check.tab5 4 14 (fun sp => sp 14 = s7_14 ∧ sp 8 = s7_8 ∧ sp 13 = s7_13) (fun sp on hA hon => ?_) (fun ops7_14 => ?_)
      · refine ⟨fun o ho vs Rs f' S' w hp hf hx hS hR hs => ?_⟩
        obtain rfl := Option.some.inj ho
        obtain ⟨hv8, hR8⟩ := (spe hA.2.1 hs7_8 (hp 8 (by kernel_rfl)))
        obtain ⟨hv13, hR13⟩ := (spe hA.2.2 hs7_13 (hp 13 (by kernel_rfl)))
        rw [hA.1, hs7_14]
        refine And.intro (fun a ha => (want_none rfl a ha).trans hon.symm) (And.intro (fun _ => ?_) (fun h => by rw [hon] at h; cases h))
        have hF := fr_next (fr_next (rfl) (((hf 8 17 (by kernel_rfl) rfl).trans hv8).trans (congrArg Value.bool (show (decide (a1.1 < v0.1.1)) = false from dec_f q8)))) ((hf 13 22 (by kernel_rfl) rfl).trans hv13)
        refine ls_fr hF ?_
        refine ls_val (v := .bool (decide (a1.1 ≥ a1.2))) rfl rfl (by kernel_rfl) (fun w => by kernel_rfl) ?_
        exact ls_fin s0 (.bool (decide (a1.1 ≥ a1.2))) (congrArg (fun z => upd z 23 _) hF.symm) ⟨rfl, rfl⟩ (sub_nil _)
      obtain ⟨s7_15, hs7_15⟩ : ∃ z : Value → Sto → Prop, z = (fun v R => v = .bool (decide (a1.1 ≥ a1.2)) ∧ R = s0) := ⟨_, rfl⟩
      refine have_op (l := [_, _, _, _, _, _, _, _, _, _, _, _, _, _, _, _, _, _, _, _, _, _, _, _, _, _]) alloc_Alloc_check.tab5 4 15 (fun sp => sp 15 = s7_15 ∧ sp 14 = s7_14) (fun sp on hA hon => ?_) (fun ops7_15 => ?_)
      · refine ⟨fun o ho vs Rs f' S' w hp hf hx hS hR hs => ?_⟩
        obtain rfl := Option.some.inj ho
        obtain ⟨hv14, hR14⟩ := (spe hA.2 hs7_14 (hp 14 (by kernel_rfl)))
        rw [hA.1, hs7_15]
        refine And.intro (fun a ha => (want_none rfl a ha).trans hon.symm) (And.intro (fun _ => ?_) (fun h => by rw [hon] at h; cases h))
        have hF := fr_next (rfl) ((hf 14 23 (by kernel_rfl) rfl).trans hv14)
        refine ls_fr hF ?_
        refine ls_val (v := .bool (decide (a1.1 ≥ a1.2))) rfl rfl (by kernel_rfl) (fun w => by kernel_rfl) ?_
        exact ls_fin s0 (.bool (decide (a1.1 ≥ a1.2))) (congrArg (fun z => upd z 24 _) hF.symm) ⟨rfl, rfl⟩ (sub_nil _)
      by_cases q9 : a1.1 ≥ a1.2
      · replace H := ite_t q9 H
        refine cs_draw alloc_Alloc_check.tab5 23 4 (spl [s7_0, s7_1, s7_2, s7_3, s7_4, s7_5, s7_6, s7_7, s7_8, s7_9, s7_10, s7_11, s7_12, s7_13, s7_14, s7_15, spu, spu, spu, spu, spu, spu, spu]) (onl [true, true, true, true, true, true, true, true, true, true, true, true, true, true, true, true, false, false, false, false, false, false, false]) (by kernel_rfl) (by kernel_rfl) (by kernel_rfl) (by kernel_rfl) (rs := [_, _, _]) rfl (by kernel_rfl) (by kernel_rfl) (all_snoc (all_snoc (all_snoc (all_snoc (all_snoc (all_snoc (all_snoc (all_snoc (all_snoc (all_snoc (all_snoc (all_snoc (all_snoc (all_snoc (all_snoc (all_snoc (all_snoc (all_snoc (all_snoc (all_snoc (all_snoc (all_snoc (all_snoc (all_nil) (ops7_0 _ _ rfl rfl)) (ops7_1 _ _ ⟨rfl, rfl⟩ rfl)) (ops7_2 _ _ rfl rfl)) (ops7_3 _ _ ⟨rfl, rfl⟩ rfl)) (ops7_4 _ _ ⟨rfl, rfl⟩ rfl)) (ops7_5 _ _ ⟨rfl, rfl⟩ rfl)) (ops7_6 _ _ ⟨rfl, rfl⟩ rfl)) (ops7_7 _ _ ⟨rfl, rfl, rfl⟩ rfl)) (ops7_8 _ _ ⟨rfl, rfl⟩ rfl)) (ops7_9 _ _ ⟨rfl, rfl⟩ rfl)) (ops7_10 _ _ ⟨rfl, rfl, rfl⟩ rfl)) (ops7_11 _ _ ⟨rfl, rfl⟩ rfl)) (ops7_12 _ _ ⟨rfl, rfl, rfl⟩ rfl)) (ops7_13 _ _ ⟨rfl, rfl, rfl, rfl⟩ rfl)) (ops7_14 _ _ ⟨rfl, rfl, rfl⟩ rfl)) (ops7_15 _ _ ⟨rfl, rfl⟩ rfl)) (op_offi 16 15 24 false rfl rfl (by kernel_rfl) (by kernel_rfl) rfl (fun v R h => by rw [hs7_15] at h; obtain ⟨h, _⟩ := h; exact h.trans (congrArg Value.bool (show (decide (a1.1 ≥ a1.2)) = true from dec_t q9))) rfl rfl)) (op_offi 17 15 24 false rfl rfl (by kernel_rfl) (by kernel_rfl) rfl (fun v R h => by rw [hs7_15] at h; obtain ⟨h, _⟩ := h; exact h.trans (congrArg Value.bool (show (decide (a1.1 ≥ a1.2)) = true from dec_t q9))) rfl rfl)) (op_offi 18 15 24 false rfl rfl (by kernel_rfl) (by kernel_rfl) rfl (fun v R h => by rw [hs7_15] at h; obtain ⟨h, _⟩ := h; exact h.trans (congrArg Value.bool (show (decide (a1.1 ≥ a1.2)) = true from dec_t q9))) rfl rfl)) (op_offi 19 15 24 false rfl rfl (by kernel_rfl) (by kernel_rfl) rfl (fun v R h => by rw [hs7_15] at h; obtain ⟨h, _⟩ := h; exact h.trans (congrArg Value.bool (show (decide (a1.1 ≥ a1.2)) = true from dec_t q9))) rfl rfl)) (op_offi 20 15 24 false rfl rfl (by kernel_rfl) (by kernel_rfl) rfl (fun v R h => by rw [hs7_15] at h; obtain ⟨h, _⟩ := h; exact h.trans (congrArg Value.bool (show (decide (a1.1 ≥ a1.2)) = true from dec_t q9))) rfl rfl)) (op_offi 21 15 24 false rfl rfl (by kernel_rfl) (by kernel_rfl) rfl (fun v R h => by rw [hs7_15] at h; obtain ⟨h, _⟩ := h; exact h.trans (congrArg Value.bool (show (decide (a1.1 ≥ a1.2)) = true from dec_t q9))) rfl rfl)) (op_offi 22 15 24 false rfl rfl (by kernel_rfl) (by kernel_rfl) rfl (fun v R h => by rw [hs7_15] at h; obtain ⟨h, _⟩ := h; exact h.trans (congrArg Value.bool (show (decide (a1.1 ≥ a1.2)) = true from dec_t q9))) rfl rfl)) ?_
        intro vs Rs f' S' hp hf hx hS hR
        obtain ⟨hv15, hR15⟩ := (spe rfl hs7_15 (hp 15 (by kernel_rfl)))
        obtain ⟨hv17, hR17⟩ := (spe rfl rfl (hp 17 (by kernel_rfl)) : spu _ _)
        obtain ⟨hv22, hR22⟩ := (spe rfl rfl (hp 22 (by kernel_rfl)) : spu _ _)
        refine ls_fr (F := upd f' 24 (.bool (decide (a1.1 ≥ a1.2)))) (fr_next (rfl) ((hf 15 24 (by kernel_rfl) rfl).trans hv15)) ?_
        refine ls_sub (sput (sput (sput s0 0 (some (Ck.var 66 pg0 ((([Value.int .i64 v0.1.1] ++ [Value.int .i64 v0.1.2]) ++ ([Value.bool v0.2.1] ++ ([Value.int .i64 v0.2.2.1] ++ ([Value.slice A0_3 v0.2.2.2.1.length c0_3] ++ ([Value.map (some r0_4)] ++ [Value.slice A0_5 v0.2.2.2.2.2.length c0_5]))))))))) 1 (some (Ck.m1 r0_4 w0_4.1 A0_4 w0_4.2.length c0_4))) 2 (some (Ck.sl T24 A0_4 c0_4 w0_4.2))) (sub_put ((hS 2 (by kernel_rfl)).trans (by exact rfl)) (sub_put ((hS 1 (by kernel_rfl)).trans (by exact rfl)) (sub_put ((hS 0 (by kernel_rfl)).trans (by exact rfl)) (sub_nil _)))) ?_
        refine ls_know (c := true) (dec_t q9) 24 (by kernel_rfl) ?_
        refine ls_off (j := 15) (t := 24) (b := false) (c := true) rfl rfl (by kernel_rfl) (by kernel_rfl) rfl rfl (by kernel_rfl) ?_
        refine ls_val (v := .bool true) rfl rfl (by kernel_rfl) (fun w => by kernel_rfl) ?_
        refine ls_val (v := .bool true) rfl rfl (by kernel_rfl) (fun w => by kernel_rfl) ?_
        refine ls_end ?_
        refine qn_then ?_
        refine cs_true (by kernel_rfl) ?_
        refine cs_seq ?_
        refine cs_region (l := [_]) ?_
        refine ls_val (v := .int .i64 (2 : Int)) rfl rfl (by kernel_rfl) (fun w => by kernel_rfl) ?_
        refine ls_end ?_
        refine qn_then ?_
        refine cs_ret' ?_
        refine qr_block ?_
        refine qr_then ?_
        obtain rfl := Option.some.inj H
        refine qr_res (rs := [_]) rfl (fun w' hs => ⟨[.int .i64 (2 : Int)], (res_tmp (by kernel_rfl) (.nil)), (), rfl, hs.pick (ts := [0, 1, 2]) (cs := [Ck.var 66 pg0 ((([Value.int .i64 v0.1.1] ++ [Value.int .i64 v0.1.2]) ++ ([Value.bool v0.2.1] ++ ([Value.int .i64 v0.2.2.1] ++ ([Value.slice A0_3 v0.2.2.2.1.length c0_3] ++ ([Value.map (some r0_4)] ++ [Value.slice A0_5 v0.2.2.2.2.2.length c0_5])))))), Ck.m1 r0_4 w0_4.1 A0_4 w0_4.2.length c0_4, Ck.sl T24 A0_4 c0_4 w0_4.2]) ⟨by exact rfl, by exact rfl, by exact rfl, trivial⟩ (by decide)⟩)
      · replace H := ite_f q9 H
        obtain ⟨s7_16, hs7_16⟩ : ∃ z : Value → Sto → Prop, z = (fun v R => v = .pointer (some ⟨g1, (0 + 1), none⟩) ∧ R = s0) := ⟨_, rfl⟩
        refine have_op (l := [_, _, _, _, _, _, _, _, _, _, _, _, _, _, _, _, _, _, _, _, _, _, _, _, _, _]) alloc_Alloc_check.tab5 4 16 (fun sp => sp 16 = s7_16 ∧ sp 15 = s7_15) (fun sp on hA hon => ?_) (fun ops7_16 => ?_)
        · refine ⟨fun o ho vs Rs f' S' w hp hf hx hS hR hs => ?_⟩
          obtain rfl := Option.some.inj ho
          obtain ⟨hv15, hR15⟩ := (spe hA.2 hs7_15 (hp 15 (by kernel_rfl)))
          rw [hA.1, hs7_16]
          refine And.intro (fun a ha => (want_is (j := 15) (t := 24) (r := true) rfl rfl (by kernel_rfl) (((hf 15 24 (by kernel_rfl) rfl).trans hv15).trans (congrArg Value.bool (show (decide (a1.1 ≥ a1.2)) = false from dec_f q9))) rfl a ha).trans hon.symm) (And.intro (fun _ => ?_) (fun h => by rw [hon] at h; cases h))
          have hF := fr_next (fr_next (rfl) ((hx 3 (by kernel_rfl)).trans (by kernel_rfl : (_ : Value) = .pointer (some ⟨g1, 0, none⟩)))) (((hf 15 24 (by kernel_rfl) rfl).trans hv15).trans (congrArg Value.bool (show (decide (a1.1 ≥ a1.2)) = false from dec_f q9)))
          refine ls_fr hF ?_
          refine ls_val (v := .pointer (some ⟨g1, (0 + 1), none⟩)) rfl rfl (by kernel_rfl) (fun w => by kernel_rfl) ?_
          exact ls_fin s0 (.pointer (some ⟨g1, (0 + 1), none⟩)) (congrArg (fun z => upd z 25 _) hF.symm) ⟨rfl, rfl⟩ (sub_nil _)
        obtain ⟨s7_17, hs7_17⟩ : ∃ z : Value → Sto → Prop, z = (fun v R => v = .int .i64 a1.2 ∧ R = s0) := ⟨_, rfl⟩
        refine have_op (l := [_, _, _, _, _, _, _, _, _, _, _, _, _, _, _, _, _, _, _, _, _, _, _, _, _, _]) alloc_Alloc_check.tab5 4 17 (fun sp => sp 17 = s7_17 ∧ sp 15 = s7_15 ∧ sp 16 = s7_16) (fun sp on hA hon => ?_) (fun ops7_17 => ?_)
        · refine ⟨fun o ho vs Rs f' S' w hp hf hx hS hR hs => ?_⟩
          obtain rfl := Option.some.inj ho
          obtain ⟨hv15, hR15⟩ := (spe hA.2.1 hs7_15 (hp 15 (by kernel_rfl)))
          obtain ⟨hv16, hR16⟩ := (spe hA.2.2 hs7_16 (hp 16 (by kernel_rfl)))
          rw [hA.1, hs7_17]
          refine And.intro (fun a ha => (want_is (j := 15) (t := 24) (r := true) rfl rfl (by kernel_rfl) (((hf 15 24 (by kernel_rfl) rfl).trans hv15).trans (congrArg Value.bool (show (decide (a1.1 ≥ a1.2)) = false from dec_f q9))) rfl a ha).trans hon.symm) (And.intro (fun _ => ?_) (fun h => by rw [hon] at h; cases h))
          have hF := fr_next (fr_next (rfl) (((hf 15 24 (by kernel_rfl) rfl).trans hv15).trans (congrArg Value.bool (show (decide (a1.1 ≥ a1.2)) = false from dec_f q9)))) ((hf 16 25 (by kernel_rfl) rfl).trans hv16)
          refine ls_fr hF ?_
          refine ls_load (a0 := ⟨g1, (0 + 1), none⟩) (v := .int .i64 a1.2) (de := (TypeDesc.int .i64)) rfl rfl (by kernel_rfl) rfl (by kernel_rfl) (by kernel_rfl) (by kernel_rfl) (fun w1 hs1 => cell_step hs1.below.bw (hs.var (k := 3) ((hS 3 (by kernel_rfl)).trans (by exact rfl)) (Sub4.trans (Sub4.all _) (Sub4.skip (n := 1) (len1 _) (Sub4.all _))))) ?_
          exact ls_fin s0 (.int .i64 a1.2) (congrArg (fun z => upd z 26 _) hF.symm) ⟨rfl, rfl⟩ (sub_nil _)
        obtain ⟨s7_18, hs7_18⟩ : ∃ z : Value → Sto → Prop, z = (fun v R => v = .pointer (some ⟨pg0, 0, none⟩) ∧ R = s0) := ⟨_, rfl⟩
        refine have_op (l := [_, _, _, _, _, _, _, _, _, _, _, _, _, _, _, _, _, _, _, _, _, _, _, _, _, _]) alloc_Alloc_check.tab5 4 18 (fun sp => sp 18 = s7_18 ∧ sp 15 = s7_15) (fun sp on hA hon => ?_) (fun ops7_18 => ?_)
        · refine ⟨fun o ho vs Rs f' S' w hp hf hx hS hR hs => ?_⟩
          obtain rfl := Option.some.inj ho
          obtain ⟨hv15, hR15⟩ := (spe hA.2 hs7_15 (hp 15 (by kernel_rfl)))
          rw [hA.1, hs7_18]
          refine And.intro (fun a ha => (want_is (j := 15) (t := 24) (r := true) rfl rfl (by kernel_rfl) (((hf 15 24 (by kernel_rfl) rfl).trans hv15).trans (congrArg Value.bool (show (decide (a1.1 ≥ a1.2)) = false from dec_f q9))) rfl a ha).trans hon.symm) (And.intro (fun _ => ?_) (fun h => by rw [hon] at h; cases h))
          have hF := fr_next (fr_next (rfl) ((hx 0 (by kernel_rfl)).trans (by kernel_rfl : (_ : Value) = .pointer (some ⟨pg0, 0, none⟩)))) (((hf 15 24 (by kernel_rfl) rfl).trans hv15).trans (congrArg Value.bool (show (decide (a1.1 ≥ a1.2)) = false from dec_f q9)))
          refine ls_fr hF ?_
          refine ls_val (v := .pointer (some ⟨pg0, 0, none⟩)) rfl rfl (by kernel_rfl) (fun w => by kernel_rfl) ?_
          exact ls_fin s0 (.pointer (some ⟨pg0, 0, none⟩)) (congrArg (fun z => upd z 27 _) hF.symm) ⟨rfl, rfl⟩ (sub_nil _)
        obtain ⟨s7_19, hs7_19⟩ : ∃ z : Value → Sto → Prop, z = (fun v R => v = .pointer (some ⟨pg0, 0, none⟩) ∧ R = s0) := ⟨_, rfl⟩
        refine have_op (l := [_, _, _, _, _, _, _, _, _, _, _, _, _, _, _, _, _, _, _, _, _, _, _, _, _, _]) alloc_Alloc_check.tab5 4 19 (fun sp => sp 19 = s7_19 ∧ sp 15 = s7_15 ∧ sp 18 = s7_18) (fun sp on hA hon => ?_) (fun ops7_19 => ?_)
        · refine ⟨fun o ho vs Rs f' S' w hp hf hx hS hR hs => ?_⟩
          obtain rfl := Option.some.inj ho
          obtain ⟨hv15, hR15⟩ := (spe hA.2.1 hs7_15 (hp 15 (by kernel_rfl)))
          obtain ⟨hv18, hR18⟩ := (spe hA.2.2 hs7_18 (hp 18 (by kernel_rfl)))
          rw [hA.1, hs7_19]
          refine And.intro (fun a ha => (want_is (j := 15) (t := 24) (r := true) rfl rfl (by kernel_rfl) (((hf 15 24 (by kernel_rfl) rfl).trans hv15).trans (congrArg Value.bool (show (decide (a1.1 ≥ a1.2)) = false from dec_f q9))) rfl a ha).trans hon.symm) (And.intro (fun _ => ?_) (fun h => by rw [hon] at h; cases h))
          have hF := fr_next (fr_next (rfl) (((hf 15 24 (by kernel_rfl) rfl).trans hv15).trans (congrArg Value.bool (show (decide (a1.1 ≥ a1.2)) = false from dec_f q9)))) ((hf 18 27 (by kernel_rfl) rfl).trans hv18)
          refine ls_fr hF ?_
          refine ls_val (v := .pointer (some ⟨pg0, 0, none⟩)) rfl rfl (by kernel_rfl) (fun w => by kernel_rfl) ?_
          exact ls_fin s0 (.pointer (some ⟨pg0, 0, none⟩)) (congrArg (fun z => upd z 28 _) hF.symm) ⟨rfl, rfl⟩ (sub_nil _)
        obtain ⟨s7_20, hs7_20⟩ : ∃ z : Value → Sto → Prop, z = (fun v R => v = .pointer (some ⟨pg0, (0 + 0), none⟩) ∧ R = s0) := ⟨_, rfl⟩
        refine have_op (l := [_, _, _, _, _, _, _, _, _, _, _, _, _, _, _, _, _, _, _, _, _, _, _, _, _, _]) alloc_Alloc_check.tab5 4 20 (fun sp => sp 20 = s7_20 ∧ sp 15 = s7_15 ∧ sp 19 = s7_19) (fun sp on hA hon => ?_) (fun ops7_20 => ?_)
        · refine ⟨fun o ho vs Rs f' S' w hp hf hx hS hR hs => ?_⟩
          obtain rfl := Option.some.inj ho
          obtain ⟨hv15, hR15⟩ := (spe hA.2.1 hs7_15 (hp 15 (by kernel_rfl)))
          obtain ⟨hv19, hR19⟩ := (spe hA.2.2 hs7_19 (hp 19 (by kernel_rfl)))
          rw [hA.1, hs7_20]
          refine And.intro (fun a ha => (want_is (j := 15) (t := 24) (r := true) rfl rfl (by kernel_rfl) (((hf 15 24 (by kernel_rfl) rfl).trans hv15).trans (congrArg Value.bool (show (decide (a1.1 ≥ a1.2)) = false from dec_f q9))) rfl a ha).trans hon.symm) (And.intro (fun _ => ?_) (fun h => by rw [hon] at h; cases h))
          have hF := fr_next (fr_next (rfl) (((hf 15 24 (by kernel_rfl) rfl).trans hv15).trans (congrArg Value.bool (show (decide (a1.1 ≥ a1.2)) = false from dec_f q9)))) ((hf 19 28 (by kernel_rfl) rfl).trans hv19)
          refine ls_fr hF ?_
          refine ls_val (v := .pointer (some ⟨pg0, (0 + 0), none⟩)) rfl rfl (by kernel_rfl) (fun w => by kernel_rfl) ?_
          exact ls_fin s0 (.pointer (some ⟨pg0, (0 + 0), none⟩)) (congrArg (fun z => upd z 29 _) hF.symm) ⟨rfl, rfl⟩ (sub_nil _)
        obtain ⟨s7_21, hs7_21⟩ : ∃ z : Value → Sto → Prop, z = (fun v R => v = .pointer (some ⟨pg0, ((0 + 0) + 1), none⟩) ∧ R = s0) := ⟨_, rfl⟩
        refine have_op (l := [_, _, _, _, _, _, _, _, _, _, _, _, _, _, _, _, _, _, _, _, _, _, _, _, _, _]) alloc_Alloc_check.tab5 4 21 (fun sp => sp 21 = s7_21 ∧ sp 15 = s7_15 ∧ sp 20 = s7_20) (fun sp on hA hon => ?_) (fun ops7_21 => ?_)
        · refine ⟨fun o ho vs Rs f' S' w hp hf hx hS hR hs => ?_⟩
          obtain rfl := Option.some.inj ho
          obtain ⟨hv15, hR15⟩ := (spe hA.2.1 hs7_15 (hp 15 (by kernel_rfl)))
          obtain ⟨hv20, hR20⟩ := (spe hA.2.2 hs7_20 (hp 20 (by kernel_rfl)))
          rw [hA.1, hs7_21]
          refine And.intro (fun a ha => (want_is (j := 15) (t := 24) (r := true) rfl rfl (by kernel_rfl) (((hf 15 24 (by kernel_rfl) rfl).trans hv15).trans (congrArg Value.bool (show (decide (a1.1 ≥ a1.2)) = false from dec_f q9))) rfl a ha).trans hon.symm) (And.intro (fun _ => ?_) (fun h => by rw [hon] at h; cases h))
          have hF := fr_next (fr_next (rfl) (((hf 15 24 (by kernel_rfl) rfl).trans hv15).trans (congrArg Value.bool (show (decide (a1.1 ≥ a1.2)) = false from dec_f q9)))) ((hf 20 29 (by kernel_rfl) rfl).trans hv20)
          refine ls_fr hF ?_
          refine ls_val (v := .pointer (some ⟨pg0, ((0 + 0) + 1), none⟩)) rfl rfl (by kernel_rfl) (fun w => by kernel_rfl) ?_
          exact ls_fin s0 (.pointer (some ⟨pg0, ((0 + 0) + 1), none⟩)) (congrArg (fun z => upd z 30 _) hF.symm) ⟨rfl, rfl⟩ (sub_nil _)
        obtain ⟨s7_22, hs7_22⟩ : ∃ z : Value → Sto → Prop, z = (fun v R => v = .int .i64 v0.1.2 ∧ R = s0) := ⟨_, rfl⟩
        refine have_op (l := [_, _, _, _, _, _, _, _, _, _, _, _, _, _, _, _, _, _, _, _, _, _, _, _, _, _]) alloc_Alloc_check.tab5 4 22 (fun sp => sp 22 = s7_22 ∧ sp 15 = s7_15 ∧ sp 21 = s7_21) (fun sp on hA hon => ?_) (fun ops7_22 => ?_)
        · refine ⟨fun o ho vs Rs f' S' w hp hf hx hS hR hs => ?_⟩
          obtain rfl := Option.some.inj ho
          obtain ⟨hv15, hR15⟩ := (spe hA.2.1 hs7_15 (hp 15 (by kernel_rfl)))
          obtain ⟨hv21, hR21⟩ := (spe hA.2.2 hs7_21 (hp 21 (by kernel_rfl)))
          rw [hA.1, hs7_22]
          refine And.intro (fun a ha => (want_is (j := 15) (t := 24) (r := true) rfl rfl (by kernel_rfl) (((hf 15 24 (by kernel_rfl) rfl).trans hv15).trans (congrArg Value.bool (show (decide (a1.1 ≥ a1.2)) = false from dec_f q9))) rfl a ha).trans hon.symm) (And.intro (fun _ => ?_) (fun h => by rw [hon] at h; cases h))
          have hF := fr_next (fr_next (rfl) (((hf 15 24 (by kernel_rfl) rfl).trans hv15).trans (congrArg Value.bool (show (decide (a1.1 ≥ a1.2)) = false from dec_f q9)))) ((hf 21 30 (by kernel_rfl) rfl).trans hv21)
          refine ls_fr hF ?_
          refine ls_load (a0 := ⟨pg0, ((0 + 0) + 1), none⟩) (v := .int .i64 v0.1.2) (de := (TypeDesc.int .i64)) rfl rfl (by kernel_rfl) rfl (by kernel_rfl) (by kernel_rfl) (by kernel_rfl) (fun w1 hs1 => cell_step hs1.below.bw (hs.var (k := 0) ((hS 0 (by kernel_rfl)).trans (by exact rfl)) (Sub4.trans (Sub4.trans (Sub4.all _) (Sub4.head _ _)) (Sub4.skip (n := 1) (len1 _) (Sub4.all _))))) ?_
          exact ls_fin s0 (.int .i64 v0.1.2) (congrArg (fun z => upd z 31 _) hF.symm) ⟨rfl, rfl⟩ (sub_nil _)
        refine cs_draw alloc_Alloc_check.tab5 23 4 (spl [s7_0, s7_1, s7_2, s7_3, s7_4, s7_5, s7_6, s7_7, s7_8, s7_9, s7_10, s7_11, s7_12, s7_13, s7_14, s7_15, s7_16, s7_17, s7_18, s7_19, s7_20, s7_21, s7_22]) (onl [true, true, true, true, true, true, true, true, true, true, true, true, true, true, true, true, true, true, true, true, true, true, true]) (by kernel_rfl) (by kernel_rfl) (by kernel_rfl) (by kernel_rfl) (rs := [_, _, _]) rfl (by kernel_rfl) (by kernel_rfl) (all_snoc (all_snoc (all_snoc (all_snoc (all_snoc (all_snoc (all_snoc (all_snoc (all_snoc (all_snoc (all_snoc (all_snoc (all_snoc (all_snoc (all_snoc (all_snoc (all_snoc (all_snoc (all_snoc (all_snoc (all_snoc (all_snoc (all_snoc (all_nil) (ops7_0 _ _ rfl rfl)) (ops7_1 _ _ ⟨rfl, rfl⟩ rfl)) (ops7_2 _ _ rfl rfl)) (ops7_3 _ _ ⟨rfl, rfl⟩ rfl)) (ops7_4 _ _ ⟨rfl, rfl⟩ rfl)) (ops7_5 _ _ ⟨rfl, rfl⟩ rfl)) (ops7_6 _ _ ⟨rfl, rfl⟩ rfl)) (ops7_7 _ _ ⟨rfl, rfl, rfl⟩ rfl)) (ops7_8 _ _ ⟨rfl, rfl⟩ rfl)) (ops7_9 _ _ ⟨rfl, rfl⟩ rfl)) (ops7_10 _ _ ⟨rfl, rfl, rfl⟩ rfl)) (ops7_11 _ _ ⟨rfl, rfl⟩ rfl)) (ops7_12 _ _ ⟨rfl, rfl, rfl⟩ rfl)) (ops7_13 _ _ ⟨rfl, rfl, rfl, rfl⟩ rfl)) (ops7_14 _ _ ⟨rfl, rfl, rfl⟩ rfl)) (ops7_15 _ _ ⟨rfl, rfl⟩ rfl)) (ops7_16 _ _ ⟨rfl, rfl⟩ rfl)) (ops7_17 _ _ ⟨rfl, rfl, rfl⟩ rfl)) (ops7_18 _ _ ⟨rfl, rfl⟩ rfl)) (ops7_19 _ _ ⟨rfl, rfl, rfl⟩ rfl)) (ops7_20 _ _ ⟨rfl, rfl, rfl⟩ rfl)) (ops7_21 _ _ ⟨rfl, rfl, rfl⟩ rfl)) (ops7_22 _ _ ⟨rfl, rfl, rfl⟩ rfl)) ?_
        intro vs Rs f' S' hp hf hx hS hR
        obtain ⟨hv15, hR15⟩ := (spe rfl hs7_15 (hp 15 (by kernel_rfl)))
        obtain ⟨hv17, hR17⟩ := (spe rfl hs7_17 (hp 17 (by kernel_rfl)))
        obtain ⟨hv22, hR22⟩ := (spe rfl hs7_22 (hp 22 (by kernel_rfl)))
        refine ls_fr (F := upd (upd (upd f' 24 (.bool (decide (a1.1 ≥ a1.2)))) 26 (.int .i64 a1.2)) 31 (.int .i64 v0.1.2)) (fr_next (fr_next (fr_next (rfl) ((hf 15 24 (by kernel_rfl) rfl).trans hv15)) ((hf 17 26 (by kernel_rfl) rfl).trans hv17)) ((hf 22 31 (by kernel_rfl) rfl).trans hv22)) ?_
        refine ls_sub (sput (sput (sput s0 0 (some (Ck.var 66 pg0 ((([Value.int .i64 v0.1.1] ++ [Value.int .i64 v0.1.2]) ++ ([Value.bool v0.2.1] ++ ([Value.int .i64 v0.2.2.1] ++ ([Value.slice A0_3 v0.2.2.2.1.length c0_3] ++ ([Value.map (some r0_4)] ++ [Value.slice A0_5 v0.2.2.2.2.2.length c0_5]))))))))) 1 (some (Ck.m1 r0_4 w0_4.1 A0_4 w0_4.2.length c0_4))) 2 (some (Ck.sl T24 A0_4 c0_4 w0_4.2))) (sub_put ((hS 2 (by kernel_rfl)).trans (by exact rfl)) (sub_put ((hS 1 (by kernel_rfl)).trans (by exact rfl)) (sub_put ((hS 0 (by kernel_rfl)).trans (by exact rfl)) (sub_nil _)))) ?_
        refine ls_know (c := false) (dec_f q9) 24 (by kernel_rfl) ?_
        refine ls_on (j := 15) (t := 24) (b := false) rfl rfl (by kernel_rfl) (by kernel_rfl) ?_
        refine ls_val (v := .bool (decide (a1.2 > v0.1.2))) rfl rfl (by kernel_rfl) (fun w => by kernel_rfl) ?_
        refine ls_val (v := .bool (decide (a1.2 > v0.1.2))) rfl rfl (by kernel_rfl) (fun w => by kernel_rfl) ?_
        refine ls_val (v := .bool (decide (a1.2 > v0.1.2))) rfl rfl (by kernel_rfl) (fun w => by kernel_rfl) ?_
        refine ls_end ?_
        refine qn_then ?_
        by_cases q10 : a1.2 > v0.1.2
        · replace H := ite_t q10 H
          refine cs_know (c := true) (dec_t q10) 8 (by kernel_rfl) ?_
          refine cs_true (by kernel_rfl) ?_
          refine cs_seq ?_
          refine cs_region (l := [_]) ?_
          refine ls_val (v := .int .i64 (2 : Int)) rfl rfl (by kernel_rfl) (fun w => by kernel_rfl) ?_
          refine ls_end ?_
          refine qn_then ?_
          refine cs_ret' ?_
          refine qr_block ?_
          refine qr_then ?_
          obtain rfl := Option.some.inj H
          refine qr_res (rs := [_]) rfl (fun w' hs => ⟨[.int .i64 (2 : Int)], (res_tmp (by kernel_rfl) (.nil)), (), rfl, hs.pick (ts := [0, 1, 2]) (cs := [Ck.var 66 pg0 ((([Value.int .i64 v0.1.1] ++ [Value.int .i64 v0.1.2]) ++ ([Value.bool v0.2.1] ++ ([Value.int .i64 v0.2.2.1] ++ ([Value.slice A0_3 v0.2.2.2.1.length c0_3] ++ ([Value.map (some r0_4)] ++ [Value.slice A0_5 v0.2.2.2.2.2.length c0_5])))))), Ck.m1 r0_4 w0_4.1 A0_4 w0_4.2.length c0_4, Ck.sl T24 A0_4 c0_4 w0_4.2]) ⟨by exact rfl, by exact rfl, by exact rfl, trivial⟩ (by decide)⟩)
        · replace H := ite_f q10 H
          refine cs_know (c := false) (dec_f q10) 8 (by kernel_rfl) ?_
          refine cs_false (by kernel_rfl) ?_
          refine cs_skip' ?_
          refine qn_block ?_
          refine qn_then ?_
          refine cs_seq ?_
          refine cs_region (l := [_]) ?_
          refine ls_val (v := .int .i64 (0 : Int)) rfl rfl (by kernel_rfl) (fun w => by kernel_rfl) ?_
          refine ls_end ?_
          refine qn_then ?_
          refine cs_ret' ?_
          obtain rfl := Option.some.inj H
          refine qr_res (rs := [_]) rfl (fun w' hs => ⟨[.int .i64 (0 : Int)], (res_tmp (by kernel_rfl) (.nil)), (), rfl, hs.pick (ts := [0, 1, 2]) (cs := [Ck.var 66 pg0 ((([Value.int .i64 v0.1.1] ++ [Value.int .i64 v0.1.2]) ++ ([Value.bool v0.2.1] ++ ([Value.int .i64 v0.2.2.1] ++ ([Value.slice A0_3 v0.2.2.2.1.length c0_3] ++ ([Value.map (some r0_4)] ++ [Value.slice A0_5 v0.2.2.2.2.2.length c0_5])))))), Ck.m1 r0_4 w0_4.1 A0_4 w0_4.2.length c0_4, Ck.sl T24 A0_4 c0_4 w0_4.2]) ⟨by exact rfl, by exact rfl, by exact rfl, trivial⟩ (by decide)⟩)

end Go.Proofs.Ytiikfaefeonfhaa.G
