/- Printed by a program of this session (sz.py): plain functions, and walks that show that the code comes to them; no condition. -/
import Derived.Test.YtiikfaefeonfhaaProg
import Derived.Test.YtiikfaefeonfhaaTy
import Derived.Test.YtiikfaefeonfhaaG0
import Derived.Test.YtiikfaefeonfhaaG1
set_option linter.unusedVariables false
set_option linter.unusedSimpArgs false
namespace Go.Proofs.Ytiikfaefeonfhaa.G
open Go Go.RowKit Go.Proofs.Ytiikfaefeonfhaa.Sx

/-! ### (*shadowbox/alloc.Alloc).used: function 49 -/
def alloc_Alloc_used.f (k : Nat) (v0 : ((Int × Int) × Bool × Int × (List (Int × Int)) × Unit × (List (Int × Int)))) (w0_4 : (Bool × (List (Int × Int)))) (a1 : (Int × Int)) : Option (Int × (Bool × (List (Int × Int)))) :=
  (alloc_Alloc_check.f k (v0.1, v0.2.1, v0.2.2.1, v0.2.2.2.1, (), v0.2.2.2.2.2) (w0_4.1, w0_4.2) a1).bind fun t2 => (if t2 = (0 : Int) then (extent_Meets.f k v0.2.2.2.1 a1).bind fun t6 => (if t6 = true then some ((13 : Int), (w0_4.1, w0_4.2)) else (alloc_Alloc_waiting.f k (v0.1, v0.2.1, v0.2.2.1, v0.2.2.2.1, (), v0.2.2.2.2.2) (w0_4.1, w0_4.2)).bind fun t10 => (extent_Meets.f k t10.1 a1).bind fun t13 => (if t13 = true then some ((13 : Int), (t10.2.1, t10.2.2)) else some (t2, (t10.2.1, t10.2.2)))) else some (t2, (w0_4.1, w0_4.2)))
set_option maxRecDepth 100000 in
set_option maxHeartbeats 4000000 in
theorem alloc_Alloc_used.calls (k : Nat) (pg0 : Nat) (A0_3 : Option Addr) (c0_3 : Nat) (r0_4 : Nat) (A0_5 : Option Addr) (c0_5 : Nat) (v0 : ((Int × Int) × Bool × Int × (List (Int × Int)) × Unit × (List (Int × Int)))) (A0_4 : Option Addr) (c0_4 : Nat) (w0_4 : (Bool × (List (Int × Int)))) (a1 : (Int × Int)) (r : Int × (Bool × (List (Int × Int)))) (b : Bs) (hs0 : St b (stl [Ck.var 66 pg0 ((([Value.int .i64 v0.1.1] ++ [Value.int .i64 v0.1.2]) ++ ([Value.bool v0.2.1] ++ ([Value.int .i64 v0.2.2.1] ++ ([Value.slice A0_3 v0.2.2.2.1.length c0_3] ++ ([Value.map (some r0_4)] ++ [Value.slice A0_5 v0.2.2.2.2.2.length c0_5])))))), Ck.m1 r0_4 w0_4.1 A0_4 w0_4.2.length c0_4, Ck.sl T24 A0_4 c0_4 w0_4.2]) b.w) (R0_3 : Ro b A0_3 (em T24 v0.2.2.2.1)) (C0_3 : v0.2.2.2.1.length ≤ c0_3) (R0_5 : Ro b A0_5 (em T24 v0.2.2.2.2.2)) (C0_5 : v0.2.2.2.2.2.length ≤ c0_5) (H : alloc_Alloc_used.f k v0 w0_4 a1 = some r) :
    Calls Try.prog 49 #[.pointer (some ⟨pg0, 0, none⟩), .agg ⟨([Value.int .i64 a1.1] ++ [Value.int .i64 a1.2])⟩] b.w fun e w' => ∃ x : (Option Addr × Nat), e = .returned (.int .i64 r.1) ∧ St b (stl [Ck.var 66 pg0 ((([Value.int .i64 v0.1.1] ++ [Value.int .i64 v0.1.2]) ++ ([Value.bool v0.2.1] ++ ([Value.int .i64 v0.2.2.1] ++ ([Value.slice A0_3 v0.2.2.2.1.length c0_3] ++ ([Value.map (some r0_4)] ++ [Value.slice A0_5 v0.2.2.2.2.2.length c0_5])))))), Ck.m1 r0_4 r.2.1 x.1 r.2.2.length x.2, Ck.sl T24 x.1 x.2 r.2.2]) w' := by
  unfold alloc_Alloc_used.f at H
  refine enterb (n := 26) Try.func49 rfl (by kernel_rfl) (by kernel_rfl) hs0 ?_
  refine cs_sub (sput (sput (sput s0 0 (some (Ck.var 66 pg0 ((([Value.int .i64 v0.1.1] ++ [Value.int .i64 v0.1.2]) ++ ([Value.bool v0.2.1] ++ ([Value.int .i64 v0.2.2.1] ++ ([Value.slice A0_3 v0.2.2.2.1.length c0_3] ++ ([Value.map (some r0_4)] ++ [Value.slice A0_5 v0.2.2.2.2.2.length c0_5]))))))))) 1 (some (Ck.m1 r0_4 w0_4.1 A0_4 w0_4.2.length c0_4))) 2 (some (Ck.sl T24 A0_4 c0_4 w0_4.2))) (sub_put (by exact rfl) (sub_put (by exact rfl) (sub_put (by exact rfl) (sub_nil _)))) ?_
  refine cs_seq ?_
  refine cs_region (l := [_, _]) ?_
  refine ls_new rfl rfl (by kernel_rfl) 3 (fun g => .pointer (some ⟨g, 0, none⟩)) (.cells ⟨([Value.int .i64 a1.1] ++ [Value.int .i64 a1.2])⟩ 24) (fun w => by kernel_rfl) ?_
  intro g1
  refine ls_val (v := .int .i64 (0 : Int)) rfl rfl (by kernel_rfl) (fun w => by kernel_rfl) ?_
  refine ls_end ?_
  refine qn_then ?_
  refine cs_seq ?_
  refine cs_region (l := [_, _, _, _]) ?_
  refine ls_val (v := .pointer (some ⟨pg0, 0, none⟩)) rfl rfl (by kernel_rfl) (fun w => by kernel_rfl) ?_
  refine ls_loadagg (a := ⟨g1, 0, none⟩) (sub := ([Value.int .i64 a1.1] ++ [Value.int .i64 a1.2])) rfl rfl (by kernel_rfl) rfl (by kernel_rfl) (by kernel_rfl) (by kernel_rfl) (len_app (len1 _) (len1 _)) (fun w hs => (hs.vars (k := 3) (by exact rfl) (Sub4.all _))) ?_
  obtain ⟨t2, hc3, H⟩ := bind_some H
  refine ls_callb (fid := 51) (vals := #[.pointer (some ⟨pg0, 0, none⟩), .agg ⟨([Value.int .i64 a1.1] ++ [Value.int .i64 a1.2])⟩]) (X := Unit) (fun x => .int .i64 t2) (fun x => stl [Ck.var 66 pg0 ((([Value.int .i64 v0.1.1] ++ [Value.int .i64 v0.1.2]) ++ ([Value.bool v0.2.1] ++ ([Value.int .i64 v0.2.2.1] ++ ([Value.slice A0_3 v0.2.2.2.1.length c0_3] ++ ([Value.map (some r0_4)] ++ [Value.slice A0_5 v0.2.2.2.2.2.length c0_5])))))), Ck.m1 r0_4 w0_4.1 A0_4 w0_4.2.length c0_4, Ck.sl T24 A0_4 c0_4 w0_4.2]) [0, 1, 2] [] [Ck.var 66 pg0 ((([Value.int .i64 v0.1.1] ++ [Value.int .i64 v0.1.2]) ++ ([Value.bool v0.2.1] ++ ([Value.int .i64 v0.2.2.1] ++ ([Value.slice A0_3 v0.2.2.2.1.length c0_3] ++ ([Value.map (some r0_4)] ++ [Value.slice A0_5 v0.2.2.2.2.2.length c0_5])))))), Ck.m1 r0_4 w0_4.1 A0_4 w0_4.2.length c0_4, Ck.sl T24 A0_4 c0_4 w0_4.2] [] 4 rfl rfl (by kernel_rfl) (fun w => by kernel_rfl) ⟨by exact rfl, by exact rfl, by exact rfl, trivial⟩ trivial (by decide) (fun w hs hb => alloc_Alloc_check.calls k pg0 A0_3 c0_3 r0_4 A0_5 c0_5 (v0.1, v0.2.1, v0.2.2.1, v0.2.2.2.1, (), v0.2.2.2.2.2) A0_4 c0_4 (w0_4.1, w0_4.2) a1 t2 (lent b w [Ck.var 66 pg0 ((([Value.int .i64 v0.1.1] ++ [Value.int .i64 v0.1.2]) ++ ([Value.bool v0.2.1] ++ ([Value.int .i64 v0.2.2.1] ++ ([Value.slice A0_3 v0.2.2.2.1.length c0_3] ++ ([Value.map (some r0_4)] ++ [Value.slice A0_5 v0.2.2.2.2.2.length c0_5])))))), Ck.m1 r0_4 w0_4.1 A0_4 w0_4.2.length c0_4, Ck.sl T24 A0_4 c0_4 w0_4.2] []) hb (hs.ro R0_3 _ _) C0_3 (hs.ro R0_5 _ _) C0_5 hc3) ?_
  intro x4
  refine ls_val (v := .int .i64 t2) rfl rfl (by kernel_rfl) (fun w => by kernel_rfl) ?_
  refine ls_end ?_
  refine qn_then ?_
  refine cs_seq ?_
  refine cs_seq ?_
  by_cases q5 : t2 = (0 : Int)
  · replace H := ite_t q5 H
    obtain ⟨t6, hc7, H⟩ := bind_some H
    by_cases q9 : t6 = true
    · replace H := ite_t q9 H
      refine cs_sub (sput (sput (sput (sput s0 0 (some (Ck.var 66 pg0 ((([Value.int .i64 v0.1.1] ++ [Value.int .i64 v0.1.2]) ++ ([Value.bool v0.2.1] ++ ([Value.int .i64 v0.2.2.1] ++ ([Value.slice A0_3 v0.2.2.2.1.length c0_3] ++ ([Value.map (some r0_4)] ++ [Value.slice A0_5 v0.2.2.2.2.2.length c0_5]))))))))) 1 (some (Ck.m1 r0_4 w0_4.1 A0_4 w0_4.2.length c0_4))) 2 (some (Ck.sl T24 A0_4 c0_4 w0_4.2))) 3 (some (Ck.var 24 g1 (([Value.int .i64 a1.1] ++ [Value.int .i64 a1.2]))))) (sub_put (by exact rfl) (sub_put (by exact rfl) (sub_put (by exact rfl) (sub_put (by exact rfl) (sub_nil _))))) ?_
      refine cs_chain (l := [_, _, _, _, _, _, _, _, _, _, _, _, _, _, _, _]) [[], [0], [0, 1], [0, 1, 2], [0, 1, 2, 3], [0, 1, 2, 3, 4], [0, 1, 2, 3, 4, 5], [0, 1, 2], [0, 1, 2, 3, 4, 5, 6, 7], [0, 1, 2, 3, 4, 5, 6, 7, 8], [0, 1, 2, 3, 4, 5, 6, 7, 8, 9], [0, 1, 2, 3, 4, 5, 6, 7, 8, 9, 10], [0, 1, 2, 3, 4, 5, 6, 7, 8, 9], [0, 1, 2, 3, 4, 5, 6, 7, 8, 9, 10, 11, 12], [0, 1, 2, 3, 4, 5, 6, 7, 8, 9, 10, 11, 12, 13], [0, 1, 2, 3, 4, 5, 6, 7, 8, 9, 10, 11, 12, 13, 14]] 13 (fun u => [0, 1, 2, 3].contains u) (efl [false, false, false, false, false, false, false, false, true, false, false, false, false]) (pvl [.val (.int .i64 t2), .val (.bool true), .val (.bool true), .val (.pointer (some ⟨pg0, 0, none⟩)), .val (.pointer (some ⟨pg0, 0, none⟩)), .val (.pointer (some ⟨pg0, (0 + 4), none⟩)), .val (.slice A0_3 v0.2.2.2.1.length c0_3), .val (.agg ⟨([Value.int .i64 a1.1] ++ [Value.int .i64 a1.2])⟩), .val (.bool true), .val (.bool true), .val (undef), .val (undef), .val (undef)]) (Esl [fun (es : Nat → Value) (S' : Sto) => S' = sput (sput (sput (sput s0 0 (some (Ck.var 66 pg0 ((([Value.int .i64 v0.1.1] ++ [Value.int .i64 v0.1.2]) ++ ([Value.bool v0.2.1] ++ ([Value.int .i64 v0.2.2.1] ++ ([Value.slice A0_3 v0.2.2.2.1.length c0_3] ++ ([Value.map (some r0_4)] ++ [Value.slice A0_5 v0.2.2.2.2.2.length c0_5]))))))))) 1 (some (Ck.m1 r0_4 w0_4.1 A0_4 w0_4.2.length c0_4))) 2 (some (Ck.sl T24 A0_4 c0_4 w0_4.2))) 3 (some (Ck.var 24 g1 (([Value.int .i64 a1.1] ++ [Value.int .i64 a1.2])))), fun (es : Nat → Value) (S' : Sto) => ∃ (x8 : Unit), es 8 = .bool true ∧ S' = sput (sput (sput (sput s0 0 (some (Ck.var 66 pg0 ((([Value.int .i64 v0.1.1] ++ [Value.int .i64 v0.1.2]) ++ ([Value.bool v0.2.1] ++ ([Value.int .i64 v0.2.2.1] ++ ([Value.slice A0_3 v0.2.2.2.1.length c0_3] ++ ([Value.map (some r0_4)] ++ [Value.slice A0_5 v0.2.2.2.2.2.length c0_5]))))))))) 1 (some (Ck.m1 r0_4 w0_4.1 A0_4 w0_4.2.length c0_4))) 2 (some (Ck.sl T24 A0_4 c0_4 w0_4.2))) 3 (some (Ck.var 24 g1 (([Value.int .i64 a1.1] ++ [Value.int .i64 a1.2]))))] [0, 0, 0, 0, 0, 0, 0, 0, 0, 0, 0, 0, 0, 1]) (nxl [0, 0, 0, 0, 0, 0, 0, 0, 13, 0, 0, 0, 0]) (onl [true, true, true, true, true, true, true, true, true, true, false, false, false]) 8 (by kernel_rfl) (by kernel_rfl) (by kernel_rfl) (by kernel_rfl) (by kernel_rfl) (rs := [_, _, _]) rfl (by kernel_rfl) (by kernel_rfl) (fun es => ?_) ?_ ?_
      · exact (rfl : sput (sput (sput (sput s0 0 (some (Ck.var 66 pg0 ((([Value.int .i64 v0.1.1] ++ [Value.int .i64 v0.1.2]) ++ ([Value.bool v0.2.1] ++ ([Value.int .i64 v0.2.2.1] ++ ([Value.slice A0_3 v0.2.2.2.1.length c0_3] ++ ([Value.map (some r0_4)] ++ [Value.slice A0_5 v0.2.2.2.2.2.length c0_5]))))))))) 1 (some (Ck.m1 r0_4 w0_4.1 A0_4 w0_4.2.length c0_4))) 2 (some (Ck.sl T24 A0_4 c0_4 w0_4.2))) 3 (some (Ck.var 24 g1 (([Value.int .i64 a1.1] ++ [Value.int .i64 a1.2])))) = sput (sput (sput (sput s0 0 (some (Ck.var 66 pg0 ((([Value.int .i64 v0.1.1] ++ [Value.int .i64 v0.1.2]) ++ ([Value.bool v0.2.1] ++ ([Value.int .i64 v0.2.2.1] ++ ([Value.slice A0_3 v0.2.2.2.1.length c0_3] ++ ([Value.map (some r0_4)] ++ [Value.slice A0_5 v0.2.2.2.2.2.length c0_5]))))))))) 1 (some (Ck.m1 r0_4 w0_4.1 A0_4 w0_4.2.length c0_4))) 2 (some (Ck.sl T24 A0_4 c0_4 w0_4.2))) 3 (some (Ck.var 24 g1 (([Value.int .i64 a1.1] ++ [Value.int .i64 a1.2])))))
      · refine all_snoc (all_snoc (all_snoc (all_snoc (all_snoc (all_snoc (all_snoc (all_snoc (all_snoc (all_snoc (all_snoc (all_snoc (all_snoc (all_nil) ?_) ?_) ?_) ?_) ?_) ?_) ?_) ?_) ?_) ?_) ?_) ?_) ?_
        · refine ⟨fun o ho es vs f' S' hve hvp hf hx hK hE => ?_⟩
          obtain rfl := Option.some.inj ho
          refine ⟨want_none rfl, fun _ _ => ?_, (fun _ h => by cases h), (fun h _ => by cases h), (fun h _ => by cases h)⟩
          have hF := fr_next (rfl) ((hx 5 (by kernel_rfl)).trans (by kernel_rfl : (_ : Value) = .int .i64 t2))
          refine ls_fr hF ?_
          refine ls_val (v := .int .i64 t2) rfl rfl (by kernel_rfl) (fun w => by kernel_rfl) ?_
          exact ls_finp (.int .i64 t2) (congrArg (fun z => upd z 9 _) hF.symm) rfl
        · refine ⟨fun o ho es vs f' S' hve hvp hf hx hK hE => ?_⟩
          obtain rfl := Option.some.inj ho
          refine ⟨want_none rfl, fun _ _ => ?_, (fun _ h => by cases h), (fun h _ => by cases h), (fun h _ => by cases h)⟩
          have hF := fr_next (rfl) ((hf 0 9 (by kernel_rfl) rfl).trans (show vs 0 = .int .i64 t2 from hvp 0 (by kernel_rfl)))
          refine ls_fr hF ?_
          refine ls_val (v := .bool (decide (t2 = (0 : Int)))) rfl rfl (by kernel_rfl) (fun w => by kernel_rfl) ?_
          refine ls_ren 10 (v := .bool (decide (t2 = (0 : Int)))) (v' := .bool true) (by kernel_rfl) (congrArg Value.bool (show (decide (t2 = (0 : Int))) = true from dec_t q5)) ?_
          exact ls_finp (.bool true) ((upd_upd _ _ _ _).trans (congrArg (fun z => upd z 10 _) hF.symm)) rfl
        · refine ⟨fun o ho es vs f' S' hve hvp hf hx hK hE => ?_⟩
          obtain rfl := Option.some.inj ho
          refine ⟨want_none rfl, fun _ _ => ?_, (fun _ h => by cases h), (fun h _ => by cases h), (fun h _ => by cases h)⟩
          have hF := fr_next (rfl) ((hf 1 10 (by kernel_rfl) rfl).trans (show vs 1 = .bool true from hvp 1 (by kernel_rfl)))
          refine ls_fr hF ?_
          refine ls_val (v := .bool true) rfl rfl (by kernel_rfl) (fun w => by kernel_rfl) ?_
          exact ls_finp (.bool true) (congrArg (fun z => upd z 11 _) hF.symm) rfl
        · refine ⟨fun o ho es vs f' S' hve hvp hf hx hK hE => ?_⟩
          obtain rfl := Option.some.inj ho
          refine ⟨want_is (j := 2) (t := 11) rfl rfl (by kernel_rfl) ((hf 2 11 (by kernel_rfl) rfl).trans (show vs 2 = .bool true from hvp 2 (by kernel_rfl))) rfl, fun _ _ => ?_, (fun _ h => by cases h), (fun h _ => by cases h), (fun h _ => by cases h)⟩
          have hF := fr_next (fr_next (rfl) ((hx 0 (by kernel_rfl)).trans (by kernel_rfl : (_ : Value) = .pointer (some ⟨pg0, 0, none⟩)))) ((hf 2 11 (by kernel_rfl) rfl).trans (show vs 2 = .bool true from hvp 2 (by kernel_rfl)))
          refine ls_fr hF ?_
          refine ls_val (v := .pointer (some ⟨pg0, 0, none⟩)) rfl rfl (by kernel_rfl) (fun w => by kernel_rfl) ?_
          exact ls_finp (.pointer (some ⟨pg0, 0, none⟩)) (congrArg (fun z => upd z 12 _) hF.symm) rfl
        · refine ⟨fun o ho es vs f' S' hve hvp hf hx hK hE => ?_⟩
          obtain rfl := Option.some.inj ho
          refine ⟨want_is (j := 2) (t := 11) rfl rfl (by kernel_rfl) ((hf 2 11 (by kernel_rfl) rfl).trans (show vs 2 = .bool true from hvp 2 (by kernel_rfl))) rfl, fun _ _ => ?_, (fun _ h => by cases h), (fun h _ => by cases h), (fun h _ => by cases h)⟩
          have hF := fr_next (fr_next (rfl) ((hf 2 11 (by kernel_rfl) rfl).trans (show vs 2 = .bool true from hvp 2 (by kernel_rfl)))) ((hf 3 12 (by kernel_rfl) rfl).trans (show vs 3 = .pointer (some ⟨pg0, 0, none⟩) from hvp 3 (by kernel_rfl)))
          refine ls_fr hF ?_
          refine ls_val (v := .pointer (some ⟨pg0, 0, none⟩)) rfl rfl (by kernel_rfl) (fun w => by kernel_rfl) ?_
          exact ls_finp (.pointer (some ⟨pg0, 0, none⟩)) (congrArg (fun z => upd z 13 _) hF.symm) rfl
        · refine ⟨fun o ho es vs f' S' hve hvp hf hx hK hE => ?_⟩
          obtain rfl := Option.some.inj ho
          refine ⟨want_is (j := 2) (t := 11) rfl rfl (by kernel_rfl) ((hf 2 11 (by kernel_rfl) rfl).trans (show vs 2 = .bool true from hvp 2 (by kernel_rfl))) rfl, fun _ _ => ?_, (fun _ h => by cases h), (fun h _ => by cases h), (fun h _ => by cases h)⟩
          have hF := fr_next (fr_next (rfl) ((hf 2 11 (by kernel_rfl) rfl).trans (show vs 2 = .bool true from hvp 2 (by kernel_rfl)))) ((hf 4 13 (by kernel_rfl) rfl).trans (show vs 4 = .pointer (some ⟨pg0, 0, none⟩) from hvp 4 (by kernel_rfl)))
          refine ls_fr hF ?_
          refine ls_val (v := .pointer (some ⟨pg0, (0 + 4), none⟩)) rfl rfl (by kernel_rfl) (fun w => by kernel_rfl) ?_
          exact ls_finp (.pointer (some ⟨pg0, (0 + 4), none⟩)) (congrArg (fun z => upd z 14 _) hF.symm) rfl
        · refine ⟨fun o ho es vs f' S' hve hvp hf hx hK hE => ?_⟩
          obtain rfl := Option.some.inj ho
          refine ⟨want_is (j := 2) (t := 11) rfl rfl (by kernel_rfl) ((hf 2 11 (by kernel_rfl) rfl).trans (show vs 2 = .bool true from hvp 2 (by kernel_rfl))) rfl, fun _ _ => ?_, (fun _ h => by cases h), (fun h _ => by cases h), (fun h _ => by cases h)⟩
          have hF := fr_next (fr_next (rfl) ((hf 2 11 (by kernel_rfl) rfl).trans (show vs 2 = .bool true from hvp 2 (by kernel_rfl)))) ((hf 5 14 (by kernel_rfl) rfl).trans (show vs 5 = .pointer (some ⟨pg0, (0 + 4), none⟩) from hvp 5 (by kernel_rfl)))
          refine ls_fr hF ?_
          refine ls_load (a0 := ⟨pg0, (0 + 4), none⟩) (v := .slice A0_3 v0.2.2.2.1.length c0_3) (de := (TypeDesc.slice 24)) rfl rfl (by kernel_rfl) rfl (by kernel_rfl) (by kernel_rfl) (by kernel_rfl) (fun w hs => (hs.var (k := 0) ((hK 0 (by rfl)).trans (by exact rfl)) (Sub4.trans (Sub4.all _) (Sub4.skip (n := 2) (len_app (len1 _) (len1 _)) (Sub4.skip (n := 1) (len1 _) (Sub4.skip (n := 1) (len1 _) (Sub4.head _ _))))))) ?_
          exact ls_finp (.slice A0_3 v0.2.2.2.1.length c0_3) (congrArg (fun z => upd z 15 _) hF.symm) rfl
        · refine ⟨fun o ho es vs f' S' hve hvp hf hx hK hE => ?_⟩
          obtain rfl := Option.some.inj ho
          refine ⟨want_is (j := 2) (t := 11) rfl rfl (by kernel_rfl) ((hf 2 11 (by kernel_rfl) rfl).trans (show vs 2 = .bool true from hvp 2 (by kernel_rfl))) rfl, fun _ _ => ?_, (fun _ h => by cases h), (fun h _ => by cases h), (fun h _ => by cases h)⟩
          have hF := fr_next (fr_next (rfl) ((hx 3 (by kernel_rfl)).trans (by kernel_rfl : (_ : Value) = .pointer (some ⟨g1, 0, none⟩)))) ((hf 2 11 (by kernel_rfl) rfl).trans (show vs 2 = .bool true from hvp 2 (by kernel_rfl)))
          refine ls_fr hF ?_
          refine ls_loadagg (a := ⟨g1, 0, none⟩) (sub := ([Value.int .i64 a1.1] ++ [Value.int .i64 a1.2])) rfl rfl (by kernel_rfl) rfl (by kernel_rfl) (by kernel_rfl) (by kernel_rfl) (len_app (len1 _) (len1 _)) (fun w hs => (hs.vars (k := 3) ((hK 3 (by rfl)).trans (by exact rfl)) (Sub4.all _))) ?_
          exact ls_finp (.agg ⟨([Value.int .i64 a1.1] ++ [Value.int .i64 a1.2])⟩) (congrArg (fun z => upd z 16 _) hF.symm) rfl
        · refine ⟨fun o ho es vs f' S' hve hvp hf hx hK hE => ?_⟩
          obtain rfl := Option.some.inj ho
          obtain rfl := hE rfl
          refine ⟨want_is (j := 2) (t := 11) rfl rfl (by kernel_rfl) ((hf 2 11 (by kernel_rfl) rfl).trans (show vs 2 = .bool true from hvp 2 (by kernel_rfl))) rfl, (fun h _ => by cases h), (fun h _ => by cases h), fun _ _ => ?_, (fun _ h => by cases h)⟩
          have hF := fr_next (fr_next (fr_next (rfl) ((hf 2 11 (by kernel_rfl) rfl).trans (show vs 2 = .bool true from hvp 2 (by kernel_rfl)))) ((hf 6 15 (by kernel_rfl) rfl).trans (show vs 6 = .slice A0_3 v0.2.2.2.1.length c0_3 from hvp 6 (by kernel_rfl)))) ((hf 7 16 (by kernel_rfl) rfl).trans (show vs 7 = .agg ⟨([Value.int .i64 a1.1] ++ [Value.int .i64 a1.2])⟩ from hvp 7 (by kernel_rfl)))
          refine ls_fr hF ?_
          refine ls_callb (fid := 11) (vals := #[.slice A0_3 v0.2.2.2.1.length c0_3, .agg ⟨([Value.int .i64 a1.1] ++ [Value.int .i64 a1.2])⟩]) (X := Unit) (fun x => .bool t6) (fun x => stl []) [] [] [] [] 4 rfl rfl (by kernel_rfl) (fun w => by kernel_rfl) trivial trivial (by decide) (fun w hs hb => extent_Meets.calls k A0_3 c0_3 v0.2.2.2.1 a1 t6 (lent b w [] []) hb (hs.ro R0_3 _ _) C0_3 hc7) ?_
          intro x8
          refine ls_ren 17 (v := .bool t6) (v' := .bool true) (by kernel_rfl) (congrArg Value.bool (show t6 = true from q9)) ?_
          exact ls_fine (sput (sput (sput (sput s0 0 (some (Ck.var 66 pg0 ((([Value.int .i64 v0.1.1] ++ [Value.int .i64 v0.1.2]) ++ ([Value.bool v0.2.1] ++ ([Value.int .i64 v0.2.2.1] ++ ([Value.slice A0_3 v0.2.2.2.1.length c0_3] ++ ([Value.map (some r0_4)] ++ [Value.slice A0_5 v0.2.2.2.2.2.length c0_5]))))))))) 1 (some (Ck.m1 r0_4 w0_4.1 A0_4 w0_4.2.length c0_4))) 2 (some (Ck.sl T24 A0_4 c0_4 w0_4.2))) 3 (some (Ck.var 24 g1 (([Value.int .i64 a1.1] ++ [Value.int .i64 a1.2]))))) (.bool true) ((upd_upd _ _ _ _).trans (congrArg (fun z => upd z 17 _) hF.symm)) (show (fun (es : Nat → Value) (S' : Sto) => ∃ (x8 : Unit), es 8 = .bool true ∧ S' = sput (sput (sput (sput s0 0 (some (Ck.var 66 pg0 ((([Value.int .i64 v0.1.1] ++ [Value.int .i64 v0.1.2]) ++ ([Value.bool v0.2.1] ++ ([Value.int .i64 v0.2.2.1] ++ ([Value.slice A0_3 v0.2.2.2.1.length c0_3] ++ ([Value.map (some r0_4)] ++ [Value.slice A0_5 v0.2.2.2.2.2.length c0_5]))))))))) 1 (some (Ck.m1 r0_4 w0_4.1 A0_4 w0_4.2.length c0_4))) 2 (some (Ck.sl T24 A0_4 c0_4 w0_4.2))) 3 (some (Ck.var 24 g1 (([Value.int .i64 a1.1] ++ [Value.int .i64 a1.2]))))) (upv es 8 (.bool true)) (sput (sput (sput (sput s0 0 (some (Ck.var 66 pg0 ((([Value.int .i64 v0.1.1] ++ [Value.int .i64 v0.1.2]) ++ ([Value.bool v0.2.1] ++ ([Value.int .i64 v0.2.2.1] ++ ([Value.slice A0_3 v0.2.2.2.1.length c0_3] ++ ([Value.map (some r0_4)] ++ [Value.slice A0_5 v0.2.2.2.2.2.length c0_5]))))))))) 1 (some (Ck.m1 r0_4 w0_4.1 A0_4 w0_4.2.length c0_4))) 2 (some (Ck.sl T24 A0_4 c0_4 w0_4.2))) 3 (some (Ck.var 24 g1 (([Value.int .i64 a1.1] ++ [Value.int .i64 a1.2]))))) from ⟨x8, rfl, rfl⟩) rfl (keep_cons (by exact rfl) (keep_cons (by exact rfl) (keep_cons (by exact rfl) (keep_cons (by exact rfl) (keep_nil))))) (sub_put (by exact rfl) (sub_put (by exact rfl) (sub_put (by exact rfl) (sub_put (by exact rfl) (sub_nil _)))))
        · refine ⟨fun o ho es vs f' S' hve hvp hf hx hK hE => ?_⟩
          obtain rfl := Option.some.inj ho
          refine ⟨want_is (j := 2) (t := 11) rfl rfl (by kernel_rfl) ((hf 2 11 (by kernel_rfl) rfl).trans (show vs 2 = .bool true from hvp 2 (by kernel_rfl))) rfl, fun _ _ => ?_, (fun _ h => by cases h), (fun h _ => by cases h), (fun h _ => by cases h)⟩
          have hF := fr_next (fr_next (rfl) ((hf 2 11 (by kernel_rfl) rfl).trans (show vs 2 = .bool true from hvp 2 (by kernel_rfl)))) ((hf 8 17 (by kernel_rfl) rfl).trans (show vs 8 = .bool true from hvp 8 (by kernel_rfl)))
          refine ls_fr hF ?_
          refine ls_val (v := .bool true) rfl rfl (by kernel_rfl) (fun w => by kernel_rfl) ?_
          exact ls_finp (.bool true) (congrArg (fun z => upd z 18 _) hF.symm) rfl
        · refine ⟨fun o ho es vs f' S' hve hvp hf hx hK hE => ?_⟩
          obtain rfl := Option.some.inj ho
          exact ⟨want_is (j := 9) (t := 18) rfl rfl (by kernel_rfl) ((hf 9 18 (by kernel_rfl) rfl).trans (show vs 9 = .bool true from hvp 9 (by kernel_rfl))) rfl, (fun _ h => by cases h), fun _ _ => rfl, (fun h _ => by cases h), (fun h _ => by cases h)⟩
        · refine ⟨fun o ho es vs f' S' hve hvp hf hx hK hE => ?_⟩
          obtain rfl := Option.some.inj ho
          exact ⟨want_is (j := 9) (t := 18) rfl rfl (by kernel_rfl) ((hf 9 18 (by kernel_rfl) rfl).trans (show vs 9 = .bool true from hvp 9 (by kernel_rfl))) rfl, (fun _ h => by cases h), fun _ _ => rfl, (fun h _ => by cases h), (fun h _ => by cases h)⟩
        · refine ⟨fun o ho es vs f' S' hve hvp hf hx hK hE => ?_⟩
          obtain rfl := Option.some.inj ho
          exact ⟨want_is (j := 9) (t := 18) rfl rfl (by kernel_rfl) ((hf 9 18 (by kernel_rfl) rfl).trans (show vs 9 = .bool true from hvp 9 (by kernel_rfl))) rfl, (fun _ h => by cases h), fun _ _ => rfl, (fun h _ => by cases h), (fun h _ => by cases h)⟩
      · intro es vs f' S' hve hvp hf hx hK hE
        obtain ⟨x8, hv8, rfl⟩ := hE
        refine ls_fr (F := upd (upd (upd f' 5 (.int .i64 t2)) 11 (.bool true)) 18 (.bool true)) (fr_next (fr_next (fr_next (rfl) ((hx 5 (by kernel_rfl)).trans (by kernel_rfl : (_ : Value) = .int .i64 t2))) ((hf 2 11 (by kernel_rfl) rfl).trans (show vs 2 = .bool true from hvp 2 (by kernel_rfl)))) ((hf 9 18 (by kernel_rfl) rfl).trans (show vs 9 = .bool true from hvp 9 (by kernel_rfl)))) ?_
        refine ls_sub (sput (sput (sput s0 0 (some (Ck.var 66 pg0 ((([Value.int .i64 v0.1.1] ++ [Value.int .i64 v0.1.2]) ++ ([Value.bool v0.2.1] ++ ([Value.int .i64 v0.2.2.1] ++ ([Value.slice A0_3 v0.2.2.2.1.length c0_3] ++ ([Value.map (some r0_4)] ++ [Value.slice A0_5 v0.2.2.2.2.2.length c0_5]))))))))) 1 (some (Ck.m1 r0_4 w0_4.1 A0_4 w0_4.2.length c0_4))) 2 (some (Ck.sl T24 A0_4 c0_4 w0_4.2))) (sub_put (by exact rfl) (sub_put (by exact rfl) (sub_put (by exact rfl) (sub_nil _)))) ?_
        refine ls_off (j := 9) (t := 18) (b := false) (c := true) rfl rfl (by kernel_rfl) (by kernel_rfl) rfl rfl (by kernel_rfl) ?_
        refine ls_on (j := 2) (t := 11) (b := true) rfl rfl (by kernel_rfl) (by kernel_rfl) ?_
        refine ls_val (v := .bool true) rfl rfl (by kernel_rfl) (fun w => by kernel_rfl) ?_
        refine ls_val (v := .bool true) rfl rfl (by kernel_rfl) (fun w => by kernel_rfl) ?_
        refine ls_end ?_
        refine qn_then ?_
        refine cs_true (by kernel_rfl) ?_
        refine cs_region (l := [_]) ?_
        refine ls_val (v := .int .i64 (13 : Int)) rfl rfl (by kernel_rfl) (fun w => by kernel_rfl) ?_
        refine ls_end ?_
        refine qn_then ?_
        refine cs_seq ?_
        refine cs_region (l := [_, _]) ?_
        refine ls_val (v := .int .i64 (13 : Int)) rfl rfl (by kernel_rfl) (fun w => by kernel_rfl) ?_
        refine ls_val (v := .int .i64 (13 : Int)) rfl rfl (by kernel_rfl) (fun w => by kernel_rfl) ?_
        refine ls_end ?_
        refine qn_then ?_
        refine cs_ret' ?_
        obtain rfl := Option.some.inj H
        refine qr_res (rs := [_]) rfl (fun w' hs => ⟨[.int .i64 (13 : Int)], (res_tmp (by kernel_rfl) (.nil)), (A0_4, c0_4), rfl, hs.pick (ts := [0, 1, 2]) (cs := [Ck.var 66 pg0 ((([Value.int .i64 v0.1.1] ++ [Value.int .i64 v0.1.2]) ++ ([Value.bool v0.2.1] ++ ([Value.int .i64 v0.2.2.1] ++ ([Value.slice A0_3 v0.2.2.2.1.length c0_3] ++ ([Value.map (some r0_4)] ++ [Value.slice A0_5 v0.2.2.2.2.2.length c0_5])))))), Ck.m1 r0_4 w0_4.1 A0_4 w0_4.2.length c0_4, Ck.sl T24 A0_4 c0_4 w0_4.2]) ⟨by exact rfl, by exact rfl, by exact rfl, trivial⟩ (by decide)⟩)
    · replace H := ite_f q9 H
      obtain ⟨t10, hc11, H⟩ := bind_some H
      refine cs_sub (sput (sput (sput (sput s0 0 (some (Ck.var 66 pg0 ((([Value.int .i64 v0.1.1] ++ [Value.int .i64 v0.1.2]) ++ ([Value.bool v0.2.1] ++ ([Value.int .i64 v0.2.2.1] ++ ([Value.slice A0_3 v0.2.2.2.1.length c0_3] ++ ([Value.map (some r0_4)] ++ [Value.slice A0_5 v0.2.2.2.2.2.length c0_5]))))))))) 1 (some (Ck.m1 r0_4 w0_4.1 A0_4 w0_4.2.length c0_4))) 2 (some (Ck.sl T24 A0_4 c0_4 w0_4.2))) 3 (some (Ck.var 24 g1 (([Value.int .i64 a1.1] ++ [Value.int .i64 a1.2]))))) (sub_put (by exact rfl) (sub_put (by exact rfl) (sub_put (by exact rfl) (sub_put (by exact rfl) (sub_nil _))))) ?_
      refine cs_chain (l := [_, _, _, _, _, _, _, _, _, _, _, _, _, _, _, _]) [[], [0], [0, 1], [0, 1, 2], [0, 1, 2, 3], [0, 1, 2, 3, 4], [0, 1, 2, 3, 4, 5], [0, 1, 2], [0, 1, 2, 3, 4, 5, 6, 7], [0, 1, 2, 3, 4, 5, 6, 7, 8], [0, 1, 2, 3, 4, 5, 6, 7, 8, 9], [0, 1, 2, 3, 4, 5, 6, 7, 8, 9, 10], [0, 1, 2, 3, 4, 5, 6, 7, 8, 9], [0, 1, 2, 3, 4, 5, 6, 7, 8, 9, 10, 11, 12], [0, 1, 2, 3, 4, 5, 6, 7, 8, 9, 10, 11, 12, 13], [0, 1, 2, 3, 4, 5, 6, 7, 8, 9, 10, 11, 12, 13, 14]] 13 (fun u => [0, 3].contains u) (efl [false, false, false, false, false, false, false, false, true, false, false, true, false]) (pvl [.val (.int .i64 t2), .val (.bool true), .val (.bool true), .val (.pointer (some ⟨pg0, 0, none⟩)), .val (.pointer (some ⟨pg0, 0, none⟩)), .val (.pointer (some ⟨pg0, (0 + 4), none⟩)), .val (.slice A0_3 v0.2.2.2.1.length c0_3), .val (.agg ⟨([Value.int .i64 a1.1] ++ [Value.int .i64 a1.2])⟩), .val (.bool false), .val (.bool false), .val (.pointer (some ⟨pg0, 0, none⟩)), .eff 11, .val (.agg ⟨([Value.int .i64 a1.1] ++ [Value.int .i64 a1.2])⟩)]) (Esl [fun (es : Nat → Value) (S' : Sto) => S' = sput (sput (sput (sput s0 0 (some (Ck.var 66 pg0 ((([Value.int .i64 v0.1.1] ++ [Value.int .i64 v0.1.2]) ++ ([Value.bool v0.2.1] ++ ([Value.int .i64 v0.2.2.1] ++ ([Value.slice A0_3 v0.2.2.2.1.length c0_3] ++ ([Value.map (some r0_4)] ++ [Value.slice A0_5 v0.2.2.2.2.2.length c0_5]))))))))) 1 (some (Ck.m1 r0_4 w0_4.1 A0_4 w0_4.2.length c0_4))) 2 (some (Ck.sl T24 A0_4 c0_4 w0_4.2))) 3 (some (Ck.var 24 g1 (([Value.int .i64 a1.1] ++ [Value.int .i64 a1.2])))), fun (es : Nat → Value) (S' : Sto) => ∃ (x8 : Unit), es 8 = .bool false ∧ S' = sput (sput (sput (sput s0 0 (some (Ck.var 66 pg0 ((([Value.int .i64 v0.1.1] ++ [Value.int .i64 v0.1.2]) ++ ([Value.bool v0.2.1] ++ ([Value.int .i64 v0.2.2.1] ++ ([Value.slice A0_3 v0.2.2.2.1.length c0_3] ++ ([Value.map (some r0_4)] ++ [Value.slice A0_5 v0.2.2.2.2.2.length c0_5]))))))))) 1 (some (Ck.m1 r0_4 w0_4.1 A0_4 w0_4.2.length c0_4))) 2 (some (Ck.sl T24 A0_4 c0_4 w0_4.2))) 3 (some (Ck.var 24 g1 (([Value.int .i64 a1.1] ++ [Value.int .i64 a1.2])))), fun (es : Nat → Value) (S' : Sto) => ∃ (x8 : Unit) (x12 : (Option Addr × Nat) × (Option Addr × Nat)), es 8 = .bool false ∧ es 11 = .slice x12.1.1 t10.1.length x12.1.2 ∧ S' = sput (sput (sput (sput (sput s0 0 (some (Ck.var 66 pg0 ((([Value.int .i64 v0.1.1] ++ [Value.int .i64 v0.1.2]) ++ ([Value.bool v0.2.1] ++ ([Value.int .i64 v0.2.2.1] ++ ([Value.slice A0_3 v0.2.2.2.1.length c0_3] ++ ([Value.map (some r0_4)] ++ [Value.slice A0_5 v0.2.2.2.2.2.length c0_5]))))))))) 1 (some (Ck.m1 r0_4 t10.2.1 x12.2.1 t10.2.2.length x12.2.2))) 2 (some (Ck.sl T24 x12.2.1 x12.2.2 t10.2.2))) 3 (some (Ck.var 24 g1 (([Value.int .i64 a1.1] ++ [Value.int .i64 a1.2]))))) 4 (some (Ck.ro T24 x12.1.1 x12.1.2 t10.1))] [0, 0, 0, 0, 0, 0, 0, 0, 0, 0, 0, 1, 0, 2]) (nxl [0, 0, 0, 0, 0, 0, 0, 0, 11, 0, 0, 13, 0]) (onl [true, true, true, true, true, true, true, true, true, true, true, true, true]) 8 (by kernel_rfl) (by kernel_rfl) (by kernel_rfl) (by kernel_rfl) (by kernel_rfl) (rs := [_, _, _]) rfl (by kernel_rfl) (by kernel_rfl) (fun es => ?_) ?_ ?_
      · exact (rfl : sput (sput (sput (sput s0 0 (some (Ck.var 66 pg0 ((([Value.int .i64 v0.1.1] ++ [Value.int .i64 v0.1.2]) ++ ([Value.bool v0.2.1] ++ ([Value.int .i64 v0.2.2.1] ++ ([Value.slice A0_3 v0.2.2.2.1.length c0_3] ++ ([Value.map (some r0_4)] ++ [Value.slice A0_5 v0.2.2.2.2.2.length c0_5]))))))))) 1 (some (Ck.m1 r0_4 w0_4.1 A0_4 w0_4.2.length c0_4))) 2 (some (Ck.sl T24 A0_4 c0_4 w0_4.2))) 3 (some (Ck.var 24 g1 (([Value.int .i64 a1.1] ++ [Value.int .i64 a1.2])))) = sput (sput (sput (sput s0 0 (some (Ck.var 66 pg0 ((([Value.int .i64 v0.1.1] ++ [Value.int .i64 v0.1.2]) ++ ([Value.bool v0.2.1] ++ ([Value.int .i64 v0.2.2.1] ++ ([Value.slice A0_3 v0.2.2.2.1.length c0_3] ++ ([Value.map (some r0_4)] ++ [Value.slice A0_5 v0.2.2.2.2.2.length c0_5]))))))))) 1 (some (Ck.m1 r0_4 w0_4.1 A0_4 w0_4.2.length c0_4))) 2 (some (Ck.sl T24 A0_4 c0_4 w0_4.2))) 3 (some (Ck.var 24 g1 (([Value.int .i64 a1.1] ++ [Value.int .i64 a1.2])))))
      · refine all_snoc (all_snoc (all_snoc (all_snoc (all_snoc (all_snoc (all_snoc (all_snoc (all_snoc (all_snoc (all_snoc (all_snoc (all_snoc (all_nil) ?_) ?_) ?_) ?_) ?_) ?_) ?_) ?_) ?_) ?_) ?_) ?_) ?_
        · refine ⟨fun o ho es vs f' S' hve hvp hf hx hK hE => ?_⟩
          obtain rfl := Option.some.inj ho
          refine ⟨want_none rfl, fun _ _ => ?_, (fun _ h => by cases h), (fun h _ => by cases h), (fun h _ => by cases h)⟩
          have hF := fr_next (rfl) ((hx 5 (by kernel_rfl)).trans (by kernel_rfl : (_ : Value) = .int .i64 t2))
          refine ls_fr hF ?_
          refine ls_val (v := .int .i64 t2) rfl rfl (by kernel_rfl) (fun w => by kernel_rfl) ?_
          exact ls_finp (.int .i64 t2) (congrArg (fun z => upd z 9 _) hF.symm) rfl
        · refine ⟨fun o ho es vs f' S' hve hvp hf hx hK hE => ?_⟩
          obtain rfl := Option.some.inj ho
          refine ⟨want_none rfl, fun _ _ => ?_, (fun _ h => by cases h), (fun h _ => by cases h), (fun h _ => by cases h)⟩
          have hF := fr_next (rfl) ((hf 0 9 (by kernel_rfl) rfl).trans (show vs 0 = .int .i64 t2 from hvp 0 (by kernel_rfl)))
          refine ls_fr hF ?_
          refine ls_val (v := .bool (decide (t2 = (0 : Int)))) rfl rfl (by kernel_rfl) (fun w => by kernel_rfl) ?_
          refine ls_ren 10 (v := .bool (decide (t2 = (0 : Int)))) (v' := .bool true) (by kernel_rfl) (congrArg Value.bool (show (decide (t2 = (0 : Int))) = true from dec_t q5)) ?_
          exact ls_finp (.bool true) ((upd_upd _ _ _ _).trans (congrArg (fun z => upd z 10 _) hF.symm)) rfl
        · refine ⟨fun o ho es vs f' S' hve hvp hf hx hK hE => ?_⟩
          obtain rfl := Option.some.inj ho
          refine ⟨want_none rfl, fun _ _ => ?_, (fun _ h => by cases h), (fun h _ => by cases h), (fun h _ => by cases h)⟩
          have hF := fr_next (rfl) ((hf 1 10 (by kernel_rfl) rfl).trans (show vs 1 = .bool true from hvp 1 (by kernel_rfl)))
          refine ls_fr hF ?_
          refine ls_val (v := .bool true) rfl rfl (by kernel_rfl) (fun w => by kernel_rfl) ?_
          exact ls_finp (.bool true) (congrArg (fun z => upd z 11 _) hF.symm) rfl
        · refine ⟨fun o ho es vs f' S' hve hvp hf hx hK hE => ?_⟩
          obtain rfl := Option.some.inj ho
          refine ⟨want_is (j := 2) (t := 11) rfl rfl (by kernel_rfl) ((hf 2 11 (by kernel_rfl) rfl).trans (show vs 2 = .bool true from hvp 2 (by kernel_rfl))) rfl, fun _ _ => ?_, (fun _ h => by cases h), (fun h _ => by cases h), (fun h _ => by cases h)⟩
          have hF := fr_next (fr_next (rfl) ((hx 0 (by kernel_rfl)).trans (by kernel_rfl : (_ : Value) = .pointer (some ⟨pg0, 0, none⟩)))) ((hf 2 11 (by kernel_rfl) rfl).trans (show vs 2 = .bool true from hvp 2 (by kernel_rfl)))
          refine ls_fr hF ?_
          refine ls_val (v := .pointer (some ⟨pg0, 0, none⟩)) rfl rfl (by kernel_rfl) (fun w => by kernel_rfl) ?_
          exact ls_finp (.pointer (some ⟨pg0, 0, none⟩)) (congrArg (fun z => upd z 12 _) hF.symm) rfl
        · refine ⟨fun o ho es vs f' S' hve hvp hf hx hK hE => ?_⟩
          obtain rfl := Option.some.inj ho
          refine ⟨want_is (j := 2) (t := 11) rfl rfl (by kernel_rfl) ((hf 2 11 (by kernel_rfl) rfl).trans (show vs 2 = .bool true from hvp 2 (by kernel_rfl))) rfl, fun _ _ => ?_, (fun _ h => by cases h), (fun h _ => by cases h), (fun h _ => by cases h)⟩
          have hF := fr_next (fr_next (rfl) ((hf 2 11 (by kernel_rfl) rfl).trans (show vs 2 = .bool true from hvp 2 (by kernel_rfl)))) ((hf 3 12 (by kernel_rfl) rfl).trans (show vs 3 = .pointer (some ⟨pg0, 0, none⟩) from hvp 3 (by kernel_rfl)))
          refine ls_fr hF ?_
          refine ls_val (v := .pointer (some ⟨pg0, 0, none⟩)) rfl rfl (by kernel_rfl) (fun w => by kernel_rfl) ?_
          exact ls_finp (.pointer (some ⟨pg0, 0, none⟩)) (congrArg (fun z => upd z 13 _) hF.symm) rfl
        · refine ⟨fun o ho es vs f' S' hve hvp hf hx hK hE => ?_⟩
          obtain rfl := Option.some.inj ho
          refine ⟨want_is (j := 2) (t := 11) rfl rfl (by kernel_rfl) ((hf 2 11 (by kernel_rfl) rfl).trans (show vs 2 = .bool true from hvp 2 (by kernel_rfl))) rfl, fun _ _ => ?_, (fun _ h => by cases h), (fun h _ => by cases h), (fun h _ => by cases h)⟩
          have hF := fr_next (fr_next (rfl) ((hf 2 11 (by kernel_rfl) rfl).trans (show vs 2 = .bool true from hvp 2 (by kernel_rfl)))) ((hf 4 13 (by kernel_rfl) rfl).trans (show vs 4 = .pointer (some ⟨pg0, 0, none⟩) from hvp 4 (by kernel_rfl)))
          refine ls_fr hF ?_
          refine ls_val (v := .pointer (some ⟨pg0, (0 + 4), none⟩)) rfl rfl (by kernel_rfl) (fun w => by kernel_rfl) ?_
          exact ls_finp (.pointer (some ⟨pg0, (0 + 4), none⟩)) (congrArg (fun z => upd z 14 _) hF.symm) rfl
        · refine ⟨fun o ho es vs f' S' hve hvp hf hx hK hE => ?_⟩
          obtain rfl := Option.some.inj ho
          refine ⟨want_is (j := 2) (t := 11) rfl rfl (by kernel_rfl) ((hf 2 11 (by kernel_rfl) rfl).trans (show vs 2 = .bool true from hvp 2 (by kernel_rfl))) rfl, fun _ _ => ?_, (fun _ h => by cases h), (fun h _ => by cases h), (fun h _ => by cases h)⟩
          have hF := fr_next (fr_next (rfl) ((hf 2 11 (by kernel_rfl) rfl).trans (show vs 2 = .bool true from hvp 2 (by kernel_rfl)))) ((hf 5 14 (by kernel_rfl) rfl).trans (show vs 5 = .pointer (some ⟨pg0, (0 + 4), none⟩) from hvp 5 (by kernel_rfl)))
          refine ls_fr hF ?_
          refine ls_load (a0 := ⟨pg0, (0 + 4), none⟩) (v := .slice A0_3 v0.2.2.2.1.length c0_3) (de := (TypeDesc.slice 24)) rfl rfl (by kernel_rfl) rfl (by kernel_rfl) (by kernel_rfl) (by kernel_rfl) (fun w hs => (hs.var (k := 0) ((hK 0 (by rfl)).trans (by exact rfl)) (Sub4.trans (Sub4.all _) (Sub4.skip (n := 2) (len_app (len1 _) (len1 _)) (Sub4.skip (n := 1) (len1 _) (Sub4.skip (n := 1) (len1 _) (Sub4.head _ _))))))) ?_
          exact ls_finp (.slice A0_3 v0.2.2.2.1.length c0_3) (congrArg (fun z => upd z 15 _) hF.symm) rfl
        · refine ⟨fun o ho es vs f' S' hve hvp hf hx hK hE => ?_⟩
          obtain rfl := Option.some.inj ho
          refine ⟨want_is (j := 2) (t := 11) rfl rfl (by kernel_rfl) ((hf 2 11 (by kernel_rfl) rfl).trans (show vs 2 = .bool true from hvp 2 (by kernel_rfl))) rfl, fun _ _ => ?_, (fun _ h => by cases h), (fun h _ => by cases h), (fun h _ => by cases h)⟩
          have hF := fr_next (fr_next (rfl) ((hx 3 (by kernel_rfl)).trans (by kernel_rfl : (_ : Value) = .pointer (some ⟨g1, 0, none⟩)))) ((hf 2 11 (by kernel_rfl) rfl).trans (show vs 2 = .bool true from hvp 2 (by kernel_rfl)))
          refine ls_fr hF ?_
          refine ls_loadagg (a := ⟨g1, 0, none⟩) (sub := ([Value.int .i64 a1.1] ++ [Value.int .i64 a1.2])) rfl rfl (by kernel_rfl) rfl (by kernel_rfl) (by kernel_rfl) (by kernel_rfl) (len_app (len1 _) (len1 _)) (fun w hs => (hs.vars (k := 3) ((hK 3 (by rfl)).trans (by exact rfl)) (Sub4.all _))) ?_
          exact ls_finp (.agg ⟨([Value.int .i64 a1.1] ++ [Value.int .i64 a1.2])⟩) (congrArg (fun z => upd z 16 _) hF.symm) rfl
        · refine ⟨fun o ho es vs f' S' hve hvp hf hx hK hE => ?_⟩
          obtain rfl := Option.some.inj ho
          obtain rfl := hE rfl
          refine ⟨want_is (j := 2) (t := 11) rfl rfl (by kernel_rfl) ((hf 2 11 (by kernel_rfl) rfl).trans (show vs 2 = .bool true from hvp 2 (by kernel_rfl))) rfl, (fun h _ => by cases h), (fun h _ => by cases h), fun _ _ => ?_, (fun _ h => by cases h)⟩
          have hF := fr_next (fr_next (fr_next (rfl) ((hf 2 11 (by kernel_rfl) rfl).trans (show vs 2 = .bool true from hvp 2 (by kernel_rfl)))) ((hf 6 15 (by kernel_rfl) rfl).trans (show vs 6 = .slice A0_3 v0.2.2.2.1.length c0_3 from hvp 6 (by kernel_rfl)))) ((hf 7 16 (by kernel_rfl) rfl).trans (show vs 7 = .agg ⟨([Value.int .i64 a1.1] ++ [Value.int .i64 a1.2])⟩ from hvp 7 (by kernel_rfl)))
          refine ls_fr hF ?_
          refine ls_callb (fid := 11) (vals := #[.slice A0_3 v0.2.2.2.1.length c0_3, .agg ⟨([Value.int .i64 a1.1] ++ [Value.int .i64 a1.2])⟩]) (X := Unit) (fun x => .bool t6) (fun x => stl []) [] [] [] [] 4 rfl rfl (by kernel_rfl) (fun w => by kernel_rfl) trivial trivial (by decide) (fun w hs hb => extent_Meets.calls k A0_3 c0_3 v0.2.2.2.1 a1 t6 (lent b w [] []) hb (hs.ro R0_3 _ _) C0_3 hc7) ?_
          intro x8
          refine ls_ren 17 (v := .bool t6) (v' := .bool false) (by kernel_rfl) (congrArg Value.bool (show t6 = false from Bool.eq_false_iff.mpr q9)) ?_
          exact ls_fine (sput (sput (sput (sput s0 0 (some (Ck.var 66 pg0 ((([Value.int .i64 v0.1.1] ++ [Value.int .i64 v0.1.2]) ++ ([Value.bool v0.2.1] ++ ([Value.int .i64 v0.2.2.1] ++ ([Value.slice A0_3 v0.2.2.2.1.length c0_3] ++ ([Value.map (some r0_4)] ++ [Value.slice A0_5 v0.2.2.2.2.2.length c0_5]))))))))) 1 (some (Ck.m1 r0_4 w0_4.1 A0_4 w0_4.2.length c0_4))) 2 (some (Ck.sl T24 A0_4 c0_4 w0_4.2))) 3 (some (Ck.var 24 g1 (([Value.int .i64 a1.1] ++ [Value.int .i64 a1.2]))))) (.bool false) ((upd_upd _ _ _ _).trans (congrArg (fun z => upd z 17 _) hF.symm)) (show (fun (es : Nat → Value) (S' : Sto) => ∃ (x8 : Unit), es 8 = .bool false ∧ S' = sput (sput (sput (sput s0 0 (some (Ck.var 66 pg0 ((([Value.int .i64 v0.1.1] ++ [Value.int .i64 v0.1.2]) ++ ([Value.bool v0.2.1] ++ ([Value.int .i64 v0.2.2.1] ++ ([Value.slice A0_3 v0.2.2.2.1.length c0_3] ++ ([Value.map (some r0_4)] ++ [Value.slice A0_5 v0.2.2.2.2.2.length c0_5]))))))))) 1 (some (Ck.m1 r0_4 w0_4.1 A0_4 w0_4.2.length c0_4))) 2 (some (Ck.sl T24 A0_4 c0_4 w0_4.2))) 3 (some (Ck.var 24 g1 (([Value.int .i64 a1.1] ++ [Value.int .i64 a1.2]))))) (upv es 8 (.bool false)) (sput (sput (sput (sput s0 0 (some (Ck.var 66 pg0 ((([Value.int .i64 v0.1.1] ++ [Value.int .i64 v0.1.2]) ++ ([Value.bool v0.2.1] ++ ([Value.int .i64 v0.2.2.1] ++ ([Value.slice A0_3 v0.2.2.2.1.length c0_3] ++ ([Value.map (some r0_4)] ++ [Value.slice A0_5 v0.2.2.2.2.2.length c0_5]))))))))) 1 (some (Ck.m1 r0_4 w0_4.1 A0_4 w0_4.2.length c0_4))) 2 (some (Ck.sl T24 A0_4 c0_4 w0_4.2))) 3 (some (Ck.var 24 g1 (([Value.int .i64 a1.1] ++ [Value.int .i64 a1.2]))))) from ⟨x8, rfl, rfl⟩) rfl (keep_cons (by exact rfl) (keep_cons (by exact rfl) (keep_nil))) (sub_put (by exact rfl) (sub_put (by exact rfl) (sub_put (by exact rfl) (sub_put (by exact rfl) (sub_nil _)))))
        · refine ⟨fun o ho es vs f' S' hve hvp hf hx hK hE => ?_⟩
          obtain rfl := Option.some.inj ho
          refine ⟨want_is (j := 2) (t := 11) rfl rfl (by kernel_rfl) ((hf 2 11 (by kernel_rfl) rfl).trans (show vs 2 = .bool true from hvp 2 (by kernel_rfl))) rfl, fun _ _ => ?_, (fun _ h => by cases h), (fun h _ => by cases h), (fun h _ => by cases h)⟩
          have hF := fr_next (fr_next (rfl) ((hf 2 11 (by kernel_rfl) rfl).trans (show vs 2 = .bool true from hvp 2 (by kernel_rfl)))) ((hf 8 17 (by kernel_rfl) rfl).trans (show vs 8 = .bool false from hvp 8 (by kernel_rfl)))
          refine ls_fr hF ?_
          refine ls_val (v := .bool false) rfl rfl (by kernel_rfl) (fun w => by kernel_rfl) ?_
          exact ls_finp (.bool false) (congrArg (fun z => upd z 18 _) hF.symm) rfl
        · refine ⟨fun o ho es vs f' S' hve hvp hf hx hK hE => ?_⟩
          obtain rfl := Option.some.inj ho
          refine ⟨want_is (j := 9) (t := 18) rfl rfl (by kernel_rfl) ((hf 9 18 (by kernel_rfl) rfl).trans (show vs 9 = .bool false from hvp 9 (by kernel_rfl))) rfl, fun _ _ => ?_, (fun _ h => by cases h), (fun h _ => by cases h), (fun h _ => by cases h)⟩
          have hF := fr_next (fr_next (rfl) ((hx 0 (by kernel_rfl)).trans (by kernel_rfl : (_ : Value) = .pointer (some ⟨pg0, 0, none⟩)))) ((hf 9 18 (by kernel_rfl) rfl).trans (show vs 9 = .bool false from hvp 9 (by kernel_rfl)))
          refine ls_fr hF ?_
          refine ls_val (v := .pointer (some ⟨pg0, 0, none⟩)) rfl rfl (by kernel_rfl) (fun w => by kernel_rfl) ?_
          exact ls_finp (.pointer (some ⟨pg0, 0, none⟩)) (congrArg (fun z => upd z 19 _) hF.symm) rfl
        · refine ⟨fun o ho es vs f' S' hve hvp hf hx hK hE => ?_⟩
          obtain rfl := Option.some.inj ho
          obtain ⟨x8, hv8, rfl⟩ := hE rfl
          refine ⟨want_is (j := 9) (t := 18) rfl rfl (by kernel_rfl) ((hf 9 18 (by kernel_rfl) rfl).trans (show vs 9 = .bool false from hvp 9 (by kernel_rfl))) rfl, (fun h _ => by cases h), (fun h _ => by cases h), fun _ _ => ?_, (fun _ h => by cases h)⟩
          have hF := fr_next (fr_next (rfl) ((hf 9 18 (by kernel_rfl) rfl).trans (show vs 9 = .bool false from hvp 9 (by kernel_rfl)))) ((hf 10 19 (by kernel_rfl) rfl).trans (show vs 10 = .pointer (some ⟨pg0, 0, none⟩) from hvp 10 (by kernel_rfl)))
          refine ls_fr hF ?_
          refine ls_callb (fid := 50) (vals := #[.pointer (some ⟨pg0, 0, none⟩)]) (X := (Option Addr × Nat) × (Option Addr × Nat)) (fun x => .slice x.1.1 t10.1.length x.1.2) (fun x => stl [Ck.var 66 pg0 ((([Value.int .i64 v0.1.1] ++ [Value.int .i64 v0.1.2]) ++ ([Value.bool v0.2.1] ++ ([Value.int .i64 v0.2.2.1] ++ ([Value.slice A0_3 v0.2.2.2.1.length c0_3] ++ ([Value.map (some r0_4)] ++ [Value.slice A0_5 v0.2.2.2.2.2.length c0_5])))))), Ck.m1 r0_4 t10.2.1 x.2.1 t10.2.2.length x.2.2, Ck.sl T24 x.2.1 x.2.2 t10.2.2, Ck.ro T24 x.1.1 x.1.2 t10.1]) [0, 1, 2] [] [Ck.var 66 pg0 ((([Value.int .i64 v0.1.1] ++ [Value.int .i64 v0.1.2]) ++ ([Value.bool v0.2.1] ++ ([Value.int .i64 v0.2.2.1] ++ ([Value.slice A0_3 v0.2.2.2.1.length c0_3] ++ ([Value.map (some r0_4)] ++ [Value.slice A0_5 v0.2.2.2.2.2.length c0_5])))))), Ck.m1 r0_4 w0_4.1 A0_4 w0_4.2.length c0_4, Ck.sl T24 A0_4 c0_4 w0_4.2] [] 4 rfl rfl (by kernel_rfl) (fun w => by kernel_rfl) ⟨by exact rfl, by exact rfl, by exact rfl, trivial⟩ trivial (by decide) (fun w hs hb => alloc_Alloc_waiting.calls k pg0 A0_3 c0_3 r0_4 A0_5 c0_5 (v0.1, v0.2.1, v0.2.2.1, v0.2.2.2.1, (), v0.2.2.2.2.2) A0_4 c0_4 (w0_4.1, w0_4.2) t10 (lent b w [Ck.var 66 pg0 ((([Value.int .i64 v0.1.1] ++ [Value.int .i64 v0.1.2]) ++ ([Value.bool v0.2.1] ++ ([Value.int .i64 v0.2.2.1] ++ ([Value.slice A0_3 v0.2.2.2.1.length c0_3] ++ ([Value.map (some r0_4)] ++ [Value.slice A0_5 v0.2.2.2.2.2.length c0_5])))))), Ck.m1 r0_4 w0_4.1 A0_4 w0_4.2.length c0_4, Ck.sl T24 A0_4 c0_4 w0_4.2] []) hb (hs.ro R0_3 _ _) C0_3 (hs.ro R0_5 _ _) C0_5 hc11) ?_
          intro x12
          exact ls_fine (sput (sput (sput (sput (sput s0 0 (some (Ck.var 66 pg0 ((([Value.int .i64 v0.1.1] ++ [Value.int .i64 v0.1.2]) ++ ([Value.bool v0.2.1] ++ ([Value.int .i64 v0.2.2.1] ++ ([Value.slice A0_3 v0.2.2.2.1.length c0_3] ++ ([Value.map (some r0_4)] ++ [Value.slice A0_5 v0.2.2.2.2.2.length c0_5]))))))))) 1 (some (Ck.m1 r0_4 t10.2.1 x12.2.1 t10.2.2.length x12.2.2))) 2 (some (Ck.sl T24 x12.2.1 x12.2.2 t10.2.2))) 3 (some (Ck.var 24 g1 (([Value.int .i64 a1.1] ++ [Value.int .i64 a1.2]))))) 4 (some (Ck.ro T24 x12.1.1 x12.1.2 t10.1))) (.slice x12.1.1 t10.1.length x12.1.2) (congrArg (fun z => upd z 20 _) hF.symm) (show (fun (es : Nat → Value) (S' : Sto) => ∃ (x8 : Unit) (x12 : (Option Addr × Nat) × (Option Addr × Nat)), es 8 = .bool false ∧ es 11 = .slice x12.1.1 t10.1.length x12.1.2 ∧ S' = sput (sput (sput (sput (sput s0 0 (some (Ck.var 66 pg0 ((([Value.int .i64 v0.1.1] ++ [Value.int .i64 v0.1.2]) ++ ([Value.bool v0.2.1] ++ ([Value.int .i64 v0.2.2.1] ++ ([Value.slice A0_3 v0.2.2.2.1.length c0_3] ++ ([Value.map (some r0_4)] ++ [Value.slice A0_5 v0.2.2.2.2.2.length c0_5]))))))))) 1 (some (Ck.m1 r0_4 t10.2.1 x12.2.1 t10.2.2.length x12.2.2))) 2 (some (Ck.sl T24 x12.2.1 x12.2.2 t10.2.2))) 3 (some (Ck.var 24 g1 (([Value.int .i64 a1.1] ++ [Value.int .i64 a1.2]))))) 4 (some (Ck.ro T24 x12.1.1 x12.1.2 t10.1))) (upv es 11 (.slice x12.1.1 t10.1.length x12.1.2)) (sput (sput (sput (sput (sput s0 0 (some (Ck.var 66 pg0 ((([Value.int .i64 v0.1.1] ++ [Value.int .i64 v0.1.2]) ++ ([Value.bool v0.2.1] ++ ([Value.int .i64 v0.2.2.1] ++ ([Value.slice A0_3 v0.2.2.2.1.length c0_3] ++ ([Value.map (some r0_4)] ++ [Value.slice A0_5 v0.2.2.2.2.2.length c0_5]))))))))) 1 (some (Ck.m1 r0_4 t10.2.1 x12.2.1 t10.2.2.length x12.2.2))) 2 (some (Ck.sl T24 x12.2.1 x12.2.2 t10.2.2))) 3 (some (Ck.var 24 g1 (([Value.int .i64 a1.1] ++ [Value.int .i64 a1.2]))))) 4 (some (Ck.ro T24 x12.1.1 x12.1.2 t10.1))) from ⟨x8, x12, hv8, rfl, rfl⟩) rfl (keep_cons (by exact rfl) (keep_cons (by exact rfl) (keep_nil))) (sub_put (by exact rfl) (sub_put (by exact rfl) (sub_put (by exact rfl) (sub_put (by exact rfl) (sub_put (by exact rfl) (sub_nil _))))))
        · refine ⟨fun o ho es vs f' S' hve hvp hf hx hK hE => ?_⟩
          obtain rfl := Option.some.inj ho
          refine ⟨want_is (j := 9) (t := 18) rfl rfl (by kernel_rfl) ((hf 9 18 (by kernel_rfl) rfl).trans (show vs 9 = .bool false from hvp 9 (by kernel_rfl))) rfl, fun _ _ => ?_, (fun _ h => by cases h), (fun h _ => by cases h), (fun h _ => by cases h)⟩
          have hF := fr_next (fr_next (rfl) ((hx 3 (by kernel_rfl)).trans (by kernel_rfl : (_ : Value) = .pointer (some ⟨g1, 0, none⟩)))) ((hf 9 18 (by kernel_rfl) rfl).trans (show vs 9 = .bool false from hvp 9 (by kernel_rfl)))
          refine ls_fr hF ?_
          refine ls_loadagg (a := ⟨g1, 0, none⟩) (sub := ([Value.int .i64 a1.1] ++ [Value.int .i64 a1.2])) rfl rfl (by kernel_rfl) rfl (by kernel_rfl) (by kernel_rfl) (by kernel_rfl) (len_app (len1 _) (len1 _)) (fun w hs => (hs.vars (k := 3) ((hK 3 (by rfl)).trans (by exact rfl)) (Sub4.all _))) ?_
          exact ls_finp (.agg ⟨([Value.int .i64 a1.1] ++ [Value.int .i64 a1.2])⟩) (congrArg (fun z => upd z 21 _) hF.symm) rfl
      · intro es vs f' S' hve hvp hf hx hK hE
        obtain ⟨x8, x12, hv8, hv11, rfl⟩ := hE
        refine ls_fr (F := upd (upd (upd (upd (upd f' 5 (.int .i64 t2)) 11 (.bool true)) 18 (.bool false)) 20 (.slice x12.1.1 t10.1.length x12.1.2)) 21 (.agg ⟨([Value.int .i64 a1.1] ++ [Value.int .i64 a1.2])⟩)) (fr_next (fr_next (fr_next (fr_next (fr_next (rfl) ((hx 5 (by kernel_rfl)).trans (by kernel_rfl : (_ : Value) = .int .i64 t2))) ((hf 2 11 (by kernel_rfl) rfl).trans (show vs 2 = .bool true from hvp 2 (by kernel_rfl)))) ((hf 9 18 (by kernel_rfl) rfl).trans (show vs 9 = .bool false from hvp 9 (by kernel_rfl)))) (((hf 11 20 (by kernel_rfl) rfl).trans (show vs 11 = es 11 from hvp 11 (by kernel_rfl))).trans hv11)) ((hf 12 21 (by kernel_rfl) rfl).trans (show vs 12 = .agg ⟨([Value.int .i64 a1.1] ++ [Value.int .i64 a1.2])⟩ from hvp 12 (by kernel_rfl)))) ?_
        refine ls_sub (sput (sput (sput (sput s0 0 (some (Ck.var 66 pg0 ((([Value.int .i64 v0.1.1] ++ [Value.int .i64 v0.1.2]) ++ ([Value.bool v0.2.1] ++ ([Value.int .i64 v0.2.2.1] ++ ([Value.slice A0_3 v0.2.2.2.1.length c0_3] ++ ([Value.map (some r0_4)] ++ [Value.slice A0_5 v0.2.2.2.2.2.length c0_5]))))))))) 1 (some (Ck.m1 r0_4 t10.2.1 x12.2.1 t10.2.2.length x12.2.2))) 2 (some (Ck.sl T24 x12.2.1 x12.2.2 t10.2.2))) 4 (some (Ck.ro T24 x12.1.1 x12.1.2 t10.1))) (sub_put (by exact rfl) (sub_put (by exact rfl) (sub_put (by exact rfl) (sub_put (by exact rfl) (sub_nil _))))) ?_
        refine ls_on (j := 9) (t := 18) (b := false) rfl rfl (by kernel_rfl) (by kernel_rfl) ?_
        obtain ⟨t13, hc14, H⟩ := bind_some H
        refine ls_callb (fid := 11) (vals := #[.slice x12.1.1 t10.1.length x12.1.2, .agg ⟨([Value.int .i64 a1.1] ++ [Value.int .i64 a1.2])⟩]) (X := Unit) (fun x => .bool t13) (fun x => stl []) [] [4] [] [Ck.ro T24 x12.1.1 x12.1.2 t10.1] 5 rfl rfl (by kernel_rfl) (fun w => by kernel_rfl) trivial ⟨by exact rfl, trivial⟩ (by decide) (fun w hs hb => extent_Meets.calls k x12.1.1 x12.1.2 t10.1 a1 t13 (lent b w [] [Ck.ro T24 x12.1.1 x12.1.2 t10.1]) hb (hs.roror (k := 4) (by exact rfl) (.head _)) (hs.rocap (k := 4) (by exact rfl)) hc14) ?_
        intro x15
        refine ls_on (j := 2) (t := 11) (b := true) rfl rfl (by kernel_rfl) (by kernel_rfl) ?_
        refine ls_val (v := .bool t13) rfl rfl (by kernel_rfl) (fun w => by kernel_rfl) ?_
        refine ls_val (v := .bool t13) rfl rfl (by kernel_rfl) (fun w => by kernel_rfl) ?_
        refine ls_end ?_
        refine qn_then ?_
        by_cases q16 : t13 = true
        · replace H := ite_t q16 H
          refine cs_know (c := true) (q16) 24 (by kernel_rfl) ?_
          refine cs_true (by kernel_rfl) ?_
          refine cs_region (l := [_]) ?_
          refine ls_val (v := .int .i64 (13 : Int)) rfl rfl (by kernel_rfl) (fun w => by kernel_rfl) ?_
          refine ls_end ?_
          refine qn_then ?_
          refine cs_seq ?_
          refine cs_region (l := [_, _]) ?_
          refine ls_val (v := .int .i64 (13 : Int)) rfl rfl (by kernel_rfl) (fun w => by kernel_rfl) ?_
          refine ls_val (v := .int .i64 (13 : Int)) rfl rfl (by kernel_rfl) (fun w => by kernel_rfl) ?_
          refine ls_end ?_
          refine qn_then ?_
          refine cs_ret' ?_
          obtain rfl := Option.some.inj H
          refine qr_res (rs := [_]) rfl (fun w' hs => ⟨[.int .i64 (13 : Int)], (res_tmp (by kernel_rfl) (.nil)), (x12.2.1, x12.2.2), rfl, hs.pick (ts := [0, 1, 2]) (cs := [Ck.var 66 pg0 ((([Value.int .i64 v0.1.1] ++ [Value.int .i64 v0.1.2]) ++ ([Value.bool v0.2.1] ++ ([Value.int .i64 v0.2.2.1] ++ ([Value.slice A0_3 v0.2.2.2.1.length c0_3] ++ ([Value.map (some r0_4)] ++ [Value.slice A0_5 v0.2.2.2.2.2.length c0_5])))))), Ck.m1 r0_4 t10.2.1 x12.2.1 t10.2.2.length x12.2.2, Ck.sl T24 x12.2.1 x12.2.2 t10.2.2]) ⟨by exact rfl, by exact rfl, by exact rfl, trivial⟩ (by decide)⟩)
        · replace H := ite_f q16 H
          refine cs_know (c := false) (Bool.eq_false_iff.mpr q16) 24 (by kernel_rfl) ?_
          refine cs_false (by kernel_rfl) ?_
          refine cs_skip' ?_
          refine qn_then ?_
          refine cs_seq ?_
          refine cs_region (l := [_, _]) ?_
          refine ls_val (v := .int .i64 t2) rfl rfl (by kernel_rfl) (fun w => by kernel_rfl) ?_
          refine ls_val (v := .int .i64 t2) rfl rfl (by kernel_rfl) (fun w => by kernel_rfl) ?_
          refine ls_end ?_
          refine qn_then ?_
          refine cs_ret' ?_
          obtain rfl := Option.some.inj H
          refine qr_res (rs := [_]) rfl (fun w' hs => ⟨[.int .i64 t2], (res_tmp (by kernel_rfl) (.nil)), (x12.2.1, x12.2.2), rfl, hs.pick (ts := [0, 1, 2]) (cs := [Ck.var 66 pg0 ((([Value.int .i64 v0.1.1] ++ [Value.int .i64 v0.1.2]) ++ ([Value.bool v0.2.1] ++ ([Value.int .i64 v0.2.2.1] ++ ([Value.slice A0_3 v0.2.2.2.1.length c0_3] ++ ([Value.map (some r0_4)] ++ [Value.slice A0_5 v0.2.2.2.2.2.length c0_5])))))), Ck.m1 r0_4 t10.2.1 x12.2.1 t10.2.2.length x12.2.2, Ck.sl T24 x12.2.1 x12.2.2 t10.2.2]) ⟨by exact rfl, by exact rfl, by exact rfl, trivial⟩ (by decide)⟩)
  · replace H := ite_f q5 H
    refine cs_sub (sput (sput (sput (sput s0 0 (some (Ck.var 66 pg0 ((([Value.int .i64 v0.1.1] ++ [Value.int .i64 v0.1.2]) ++ ([Value.bool v0.2.1] ++ ([Value.int .i64 v0.2.2.1] ++ ([Value.slice A0_3 v0.2.2.2.1.length c0_3] ++ ([Value.map (some r0_4)] ++ [Value.slice A0_5 v0.2.2.2.2.2.length c0_5]))))))))) 1 (some (Ck.m1 r0_4 w0_4.1 A0_4 w0_4.2.length c0_4))) 2 (some (Ck.sl T24 A0_4 c0_4 w0_4.2))) 3 (some (Ck.var 24 g1 (([Value.int .i64 a1.1] ++ [Value.int .i64 a1.2]))))) (sub_put (by exact rfl) (sub_put (by exact rfl) (sub_put (by exact rfl) (sub_put (by exact rfl) (sub_nil _))))) ?_
    refine cs_chain (l := [_, _, _, _, _, _, _, _, _, _, _, _, _, _, _, _]) [[], [0], [0, 1], [0, 1, 2], [0, 1, 2, 3], [0, 1, 2, 3, 4], [0, 1, 2, 3, 4, 5], [0, 1, 2], [0, 1, 2, 3, 4, 5, 6, 7], [0, 1, 2, 3, 4, 5, 6, 7, 8], [0, 1, 2, 3, 4, 5, 6, 7, 8, 9], [0, 1, 2, 3, 4, 5, 6, 7, 8, 9, 10], [0, 1, 2, 3, 4, 5, 6, 7, 8, 9], [0, 1, 2, 3, 4, 5, 6, 7, 8, 9, 10, 11, 12], [0, 1, 2, 3, 4, 5, 6, 7, 8, 9, 10, 11, 12, 13], [0, 1, 2, 3, 4, 5, 6, 7, 8, 9, 10, 11, 12, 13, 14]] 13 (fun u => [0, 1, 2, 3].contains u) (efl [false, false, false, false, false, false, false, false, false, false, false, false, false]) (pvl [.val (.int .i64 t2), .val (.bool false), .val (.bool false), .val (undef), .val (undef), .val (undef), .val (undef), .val (undef), .val (undef), .val (undef), .val (undef), .val (undef), .val (undef)]) (Esl [fun (es : Nat → Value) (S' : Sto) => S' = sput (sput (sput (sput s0 0 (some (Ck.var 66 pg0 ((([Value.int .i64 v0.1.1] ++ [Value.int .i64 v0.1.2]) ++ ([Value.bool v0.2.1] ++ ([Value.int .i64 v0.2.2.1] ++ ([Value.slice A0_3 v0.2.2.2.1.length c0_3] ++ ([Value.map (some r0_4)] ++ [Value.slice A0_5 v0.2.2.2.2.2.length c0_5]))))))))) 1 (some (Ck.m1 r0_4 w0_4.1 A0_4 w0_4.2.length c0_4))) 2 (some (Ck.sl T24 A0_4 c0_4 w0_4.2))) 3 (some (Ck.var 24 g1 (([Value.int .i64 a1.1] ++ [Value.int .i64 a1.2]))))] [0, 0, 0, 0, 0, 0, 0, 0, 0, 0, 0, 0, 0, 0]) (nxl [0, 0, 0, 0, 0, 0, 0, 0, 0, 0, 0, 0, 0]) (onl [true, true, true, false, false, false, false, false, false, false, false, false, false]) 13 (by kernel_rfl) (by kernel_rfl) (by kernel_rfl) (by kernel_rfl) (by kernel_rfl) (rs := [_, _, _]) rfl (by kernel_rfl) (by kernel_rfl) (fun es => ?_) ?_ ?_
    · exact (rfl : sput (sput (sput (sput s0 0 (some (Ck.var 66 pg0 ((([Value.int .i64 v0.1.1] ++ [Value.int .i64 v0.1.2]) ++ ([Value.bool v0.2.1] ++ ([Value.int .i64 v0.2.2.1] ++ ([Value.slice A0_3 v0.2.2.2.1.length c0_3] ++ ([Value.map (some r0_4)] ++ [Value.slice A0_5 v0.2.2.2.2.2.length c0_5]))))))))) 1 (some (Ck.m1 r0_4 w0_4.1 A0_4 w0_4.2.length c0_4))) 2 (some (Ck.sl T24 A0_4 c0_4 w0_4.2))) 3 (some (Ck.var 24 g1 (([Value.int .i64 a1.1] ++ [Value.int .i64 a1.2])))) = sput (sput (sput (sput s0 0 (some (Ck.var 66 pg0 ((([Value.int .i64 v0.1.1] ++ [Value.int .i64 v0.1.2]) ++ ([Value.bool v0.2.1] ++ ([Value.int .i64 v0.2.2.1] ++ ([Value.slice A0_3 v0.2.2.2.1.length c0_3] ++ ([Value.map (some r0_4)] ++ [Value.slice A0_5 v0.2.2.2.2.2.length c0_5]))))))))) 1 (some (Ck.m1 r0_4 w0_4.1 A0_4 w0_4.2.length c0_4))) 2 (some (Ck.sl T24 A0_4 c0_4 w0_4.2))) 3 (some (Ck.var 24 g1 (([Value.int .i64 a1.1] ++ [Value.int .i64 a1.2])))))
    · refine all_snoc (all_snoc (all_snoc (all_snoc (all_snoc (all_snoc (all_snoc (all_snoc (all_snoc (all_snoc (all_snoc (all_snoc (all_snoc (all_nil) ?_) ?_) ?_) ?_) ?_) ?_) ?_) ?_) ?_) ?_) ?_) ?_) ?_
      · refine ⟨fun o ho es vs f' S' hve hvp hf hx hK hE => ?_⟩
        obtain rfl := Option.some.inj ho
        refine ⟨want_none rfl, fun _ _ => ?_, (fun _ h => by cases h), (fun h _ => by cases h), (fun h _ => by cases h)⟩
        have hF := fr_next (rfl) ((hx 5 (by kernel_rfl)).trans (by kernel_rfl : (_ : Value) = .int .i64 t2))
        refine ls_fr hF ?_
        refine ls_val (v := .int .i64 t2) rfl rfl (by kernel_rfl) (fun w => by kernel_rfl) ?_
        exact ls_finp (.int .i64 t2) (congrArg (fun z => upd z 9 _) hF.symm) rfl
      · refine ⟨fun o ho es vs f' S' hve hvp hf hx hK hE => ?_⟩
        obtain rfl := Option.some.inj ho
        refine ⟨want_none rfl, fun _ _ => ?_, (fun _ h => by cases h), (fun h _ => by cases h), (fun h _ => by cases h)⟩
        have hF := fr_next (rfl) ((hf 0 9 (by kernel_rfl) rfl).trans (show vs 0 = .int .i64 t2 from hvp 0 (by kernel_rfl)))
        refine ls_fr hF ?_
        refine ls_val (v := .bool (decide (t2 = (0 : Int)))) rfl rfl (by kernel_rfl) (fun w => by kernel_rfl) ?_
        refine ls_ren 10 (v := .bool (decide (t2 = (0 : Int)))) (v' := .bool false) (by kernel_rfl) (congrArg Value.bool (show (decide (t2 = (0 : Int))) = false from dec_f q5)) ?_
        exact ls_finp (.bool false) ((upd_upd _ _ _ _).trans (congrArg (fun z => upd z 10 _) hF.symm)) rfl
      · refine ⟨fun o ho es vs f' S' hve hvp hf hx hK hE => ?_⟩
        obtain rfl := Option.some.inj ho
        refine ⟨want_none rfl, fun _ _ => ?_, (fun _ h => by cases h), (fun h _ => by cases h), (fun h _ => by cases h)⟩
        have hF := fr_next (rfl) ((hf 1 10 (by kernel_rfl) rfl).trans (show vs 1 = .bool false from hvp 1 (by kernel_rfl)))
        refine ls_fr hF ?_
        refine ls_val (v := .bool false) rfl rfl (by kernel_rfl) (fun w => by kernel_rfl) ?_
        exact ls_finp (.bool false) (congrArg (fun z => upd z 11 _) hF.symm) rfl
      · refine ⟨fun o ho es vs f' S' hve hvp hf hx hK hE => ?_⟩
        obtain rfl := Option.some.inj ho
        exact ⟨want_is (j := 2) (t := 11) rfl rfl (by kernel_rfl) ((hf 2 11 (by kernel_rfl) rfl).trans (show vs 2 = .bool false from hvp 2 (by kernel_rfl))) rfl, (fun _ h => by cases h), fun _ _ => rfl, (fun h _ => by cases h), (fun h _ => by cases h)⟩
      · refine ⟨fun o ho es vs f' S' hve hvp hf hx hK hE => ?_⟩
        obtain rfl := Option.some.inj ho
        exact ⟨want_is (j := 2) (t := 11) rfl rfl (by kernel_rfl) ((hf 2 11 (by kernel_rfl) rfl).trans (show vs 2 = .bool false from hvp 2 (by kernel_rfl))) rfl, (fun _ h => by cases h), fun _ _ => rfl, (fun h _ => by cases h), (fun h _ => by cases h)⟩
      · refine ⟨fun o ho es vs f' S' hve hvp hf hx hK hE => ?_⟩
        obtain rfl := Option.some.inj ho
        exact ⟨want_is (j := 2) (t := 11) rfl rfl (by kernel_rfl) ((hf 2 11 (by kernel_rfl) rfl).trans (show vs 2 = .bool false from hvp 2 (by kernel_rfl))) rfl, (fun _ h => by cases h), fun _ _ => rfl, (fun h _ => by cases h), (fun h _ => by cases h)⟩
      · refine ⟨fun o ho es vs f' S' hve hvp hf hx hK hE => ?_⟩
        obtain rfl := Option.some.inj ho
        exact ⟨want_is (j := 2) (t := 11) rfl rfl (by kernel_rfl) ((hf 2 11 (by kernel_rfl) rfl).trans (show vs 2 = .bool false from hvp 2 (by kernel_rfl))) rfl, (fun _ h => by cases h), fun _ _ => rfl, (fun h _ => by cases h), (fun h _ => by cases h)⟩
      · refine ⟨fun o ho es vs f' S' hve hvp hf hx hK hE => ?_⟩
        obtain rfl := Option.some.inj ho
        exact ⟨want_is (j := 2) (t := 11) rfl rfl (by kernel_rfl) ((hf 2 11 (by kernel_rfl) rfl).trans (show vs 2 = .bool false from hvp 2 (by kernel_rfl))) rfl, (fun _ h => by cases h), fun _ _ => rfl, (fun h _ => by cases h), (fun h _ => by cases h)⟩
      · refine ⟨fun o ho es vs f' S' hve hvp hf hx hK hE => ?_⟩
        obtain rfl := Option.some.inj ho
        exact ⟨want_is (j := 2) (t := 11) rfl rfl (by kernel_rfl) ((hf 2 11 (by kernel_rfl) rfl).trans (show vs 2 = .bool false from hvp 2 (by kernel_rfl))) rfl, (fun _ h => by cases h), fun _ _ => rfl, (fun h _ => by cases h), (fun h _ => by cases h)⟩
      · refine ⟨fun o ho es vs f' S' hve hvp hf hx hK hE => ?_⟩
        obtain rfl := Option.some.inj ho
        exact ⟨want_is (j := 2) (t := 11) rfl rfl (by kernel_rfl) ((hf 2 11 (by kernel_rfl) rfl).trans (show vs 2 = .bool false from hvp 2 (by kernel_rfl))) rfl, (fun _ h => by cases h), fun _ _ => rfl, (fun h _ => by cases h), (fun h _ => by cases h)⟩
      · refine ⟨fun o ho es vs f' S' hve hvp hf hx hK hE => ?_⟩
        obtain rfl := Option.some.inj ho
        exact ⟨want_not (j := 9) (t := 18) rfl rfl (by kernel_rfl) ((hf 9 18 (by kernel_rfl) rfl).trans (show vs 9 = undef from hvp 9 (by kernel_rfl))), (fun _ h => by cases h), fun _ _ => rfl, (fun h _ => by cases h), (fun h _ => by cases h)⟩
      · refine ⟨fun o ho es vs f' S' hve hvp hf hx hK hE => ?_⟩
        obtain rfl := Option.some.inj ho
        exact ⟨want_not (j := 9) (t := 18) rfl rfl (by kernel_rfl) ((hf 9 18 (by kernel_rfl) rfl).trans (show vs 9 = undef from hvp 9 (by kernel_rfl))), (fun _ h => by cases h), fun _ _ => rfl, (fun h _ => by cases h), (fun h _ => by cases h)⟩
      · refine ⟨fun o ho es vs f' S' hve hvp hf hx hK hE => ?_⟩
        obtain rfl := Option.some.inj ho
        exact ⟨want_not (j := 9) (t := 18) rfl rfl (by kernel_rfl) ((hf 9 18 (by kernel_rfl) rfl).trans (show vs 9 = undef from hvp 9 (by kernel_rfl))), (fun _ h => by cases h), fun _ _ => rfl, (fun h _ => by cases h), (fun h _ => by cases h)⟩
    · intro es vs f' S' hve hvp hf hx hK hE
      obtain rfl := hE
      refine ls_fr (F := upd (upd (upd f' 5 (.int .i64 t2)) 11 (.bool false)) 18 undef) (fr_next (fr_next (fr_next (rfl) ((hx 5 (by kernel_rfl)).trans (by kernel_rfl : (_ : Value) = .int .i64 t2))) ((hf 2 11 (by kernel_rfl) rfl).trans (show vs 2 = .bool false from hvp 2 (by kernel_rfl)))) ((hf 9 18 (by kernel_rfl) rfl).trans (show vs 9 = undef from hvp 9 (by kernel_rfl)))) ?_
      refine ls_sub (sput (sput (sput s0 0 (some (Ck.var 66 pg0 ((([Value.int .i64 v0.1.1] ++ [Value.int .i64 v0.1.2]) ++ ([Value.bool v0.2.1] ++ ([Value.int .i64 v0.2.2.1] ++ ([Value.slice A0_3 v0.2.2.2.1.length c0_3] ++ ([Value.map (some r0_4)] ++ [Value.slice A0_5 v0.2.2.2.2.2.length c0_5]))))))))) 1 (some (Ck.m1 r0_4 w0_4.1 A0_4 w0_4.2.length c0_4))) 2 (some (Ck.sl T24 A0_4 c0_4 w0_4.2))) (sub_put (by exact rfl) (sub_put (by exact rfl) (sub_put (by exact rfl) (sub_nil _)))) ?_
      refine ls_offu (j := 9) (t := 18) (b := false) rfl rfl (by kernel_rfl) (by kernel_rfl) rfl (by kernel_rfl) ?_
      refine ls_off (j := 2) (t := 11) (b := true) (c := false) rfl rfl (by kernel_rfl) (by kernel_rfl) rfl rfl (by kernel_rfl) ?_
      refine ls_val (v := .bool false) rfl rfl (by kernel_rfl) (fun w => by kernel_rfl) ?_
      refine ls_end ?_
      refine qn_then ?_
      refine cs_false (by kernel_rfl) ?_
      refine cs_skip' ?_
      refine qn_then ?_
      refine cs_seq ?_
      refine cs_region (l := [_, _]) ?_
      refine ls_val (v := .int .i64 t2) rfl rfl (by kernel_rfl) (fun w => by kernel_rfl) ?_
      refine ls_val (v := .int .i64 t2) rfl rfl (by kernel_rfl) (fun w => by kernel_rfl) ?_
      refine ls_end ?_
      refine qn_then ?_
      refine cs_ret' ?_
      obtain rfl := Option.some.inj H
      refine qr_res (rs := [_]) rfl (fun w' hs => ⟨[.int .i64 t2], (res_tmp (by kernel_rfl) (.nil)), (A0_4, c0_4), rfl, hs.pick (ts := [0, 1, 2]) (cs := [Ck.var 66 pg0 ((([Value.int .i64 v0.1.1] ++ [Value.int .i64 v0.1.2]) ++ ([Value.bool v0.2.1] ++ ([Value.int .i64 v0.2.2.1] ++ ([Value.slice A0_3 v0.2.2.2.1.length c0_3] ++ ([Value.map (some r0_4)] ++ [Value.slice A0_5 v0.2.2.2.2.2.length c0_5])))))), Ck.m1 r0_4 w0_4.1 A0_4 w0_4.2.length c0_4, Ck.sl T24 A0_4 c0_4 w0_4.2]) ⟨by exact rfl, by exact rfl, by exact rfl, trivial⟩ (by decide)⟩)

/-! ### (*shadowbox/alloc.Alloc).Later: function 30 -/
def alloc_Alloc_Later.f (k : Nat) (v0 : ((Int × Int) × Bool × Int × (List (Int × Int)) × Unit × (List (Int × Int)))) (w0_4 : (Bool × (List (Int × Int)))) (a1 : (Int × Int)) : Option (Int × (Bool × (List (Int × Int)))) :=
  (alloc_Alloc_used.f k (v0.1, v0.2.1, v0.2.2.1, v0.2.2.2.1, (), v0.2.2.2.2.2) (w0_4.1, w0_4.2) a1).bind fun t2 => (if t2.1 = (0 : Int) then (if (t2.2.2.length + ([a1]).length) * 16 ≤ 140737488355328 then some (t2.1, (true, (t2.2.2 ++ [a1]))) else none) else some (t2.1, (t2.2.1, t2.2.2)))
set_option maxRecDepth 100000 in
set_option maxHeartbeats 4000000 in
theorem alloc_Alloc_Later.calls (k : Nat) (pg0 : Nat) (A0_3 : Option Addr) (c0_3 : Nat) (r0_4 : Nat) (A0_5 : Option Addr) (c0_5 : Nat) (v0 : ((Int × Int) × Bool × Int × (List (Int × Int)) × Unit × (List (Int × Int)))) (A0_4 : Option Addr) (c0_4 : Nat) (w0_4 : (Bool × (List (Int × Int)))) (a1 : (Int × Int)) (r : Int × (Bool × (List (Int × Int)))) (b : Bs) (hs0 : St b (stl [Ck.var 66 pg0 ((([Value.int .i64 v0.1.1] ++ [Value.int .i64 v0.1.2]) ++ ([Value.bool v0.2.1] ++ ([Value.int .i64 v0.2.2.1] ++ ([Value.slice A0_3 v0.2.2.2.1.length c0_3] ++ ([Value.map (some r0_4)] ++ [Value.slice A0_5 v0.2.2.2.2.2.length c0_5])))))), Ck.m1 r0_4 w0_4.1 A0_4 w0_4.2.length c0_4, Ck.sl T24 A0_4 c0_4 w0_4.2]) b.w) (R0_3 : Ro b A0_3 (em T24 v0.2.2.2.1)) (C0_3 : v0.2.2.2.1.length ≤ c0_3) (R0_5 : Ro b A0_5 (em T24 v0.2.2.2.2.2)) (C0_5 : v0.2.2.2.2.2.length ≤ c0_5) (H : alloc_Alloc_Later.f k v0 w0_4 a1 = some r) :
    Calls Try.prog 30 #[.pointer (some ⟨pg0, 0, none⟩), .agg ⟨([Value.int .i64 a1.1] ++ [Value.int .i64 a1.2])⟩] b.w fun e w' => ∃ x : (Option Addr × Nat), e = .returned (.int .i64 r.1) ∧ St b (stl [Ck.var 66 pg0 ((([Value.int .i64 v0.1.1] ++ [Value.int .i64 v0.1.2]) ++ ([Value.bool v0.2.1] ++ ([Value.int .i64 v0.2.2.1] ++ ([Value.slice A0_3 v0.2.2.2.1.length c0_3] ++ ([Value.map (some r0_4)] ++ [Value.slice A0_5 v0.2.2.2.2.2.length c0_5])))))), Ck.m1 r0_4 r.2.1 x.1 r.2.2.length x.2, Ck.sl T24 x.1 x.2 r.2.2]) w' := by
  unfold alloc_Alloc_Later.f at H
  refine enterb (n := 24) Try.func30 rfl (by kernel_rfl) (by kernel_rfl) hs0 ?_
  refine cs_sub (sput (sput (sput s0 0 (some (Ck.var 66 pg0 ((([Value.int .i64 v0.1.1] ++ [Value.int .i64 v0.1.2]) ++ ([Value.bool v0.2.1] ++ ([Value.int .i64 v0.2.2.1] ++ ([Value.slice A0_3 v0.2.2.2.1.length c0_3] ++ ([Value.map (some r0_4)] ++ [Value.slice A0_5 v0.2.2.2.2.2.length c0_5]))))))))) 1 (some (Ck.m1 r0_4 w0_4.1 A0_4 w0_4.2.length c0_4))) 2 (some (Ck.sl T24 A0_4 c0_4 w0_4.2))) (sub_put (by exact rfl) (sub_put (by exact rfl) (sub_put (by exact rfl) (sub_nil _)))) ?_
  refine cs_seq ?_
  refine cs_region (l := [_, _]) ?_
  refine ls_new rfl rfl (by kernel_rfl) 3 (fun g => .pointer (some ⟨g, 0, none⟩)) (.cells ⟨([Value.int .i64 a1.1] ++ [Value.int .i64 a1.2])⟩ 24) (fun w => by kernel_rfl) ?_
  intro g1
  refine ls_val (v := .int .i64 (0 : Int)) rfl rfl (by kernel_rfl) (fun w => by kernel_rfl) ?_
  refine ls_end ?_
  refine qn_then ?_
  refine cs_seq ?_
  refine cs_region (l := [_, _, _, _]) ?_
  refine ls_val (v := .pointer (some ⟨pg0, 0, none⟩)) rfl rfl (by kernel_rfl) (fun w => by kernel_rfl) ?_
  refine ls_loadagg (a := ⟨g1, 0, none⟩) (sub := ([Value.int .i64 a1.1] ++ [Value.int .i64 a1.2])) rfl rfl (by kernel_rfl) rfl (by kernel_rfl) (by kernel_rfl) (by kernel_rfl) (len_app (len1 _) (len1 _)) (fun w hs => (hs.vars (k := 3) (by exact rfl) (Sub4.all _))) ?_
  obtain ⟨t2, hc3, H⟩ := bind_some H
  refine ls_callb (fid := 49) (vals := #[.pointer (some ⟨pg0, 0, none⟩), .agg ⟨([Value.int .i64 a1.1] ++ [Value.int .i64 a1.2])⟩]) (X := (Option Addr × Nat)) (fun x => .int .i64 t2.1) (fun x => stl [Ck.var 66 pg0 ((([Value.int .i64 v0.1.1] ++ [Value.int .i64 v0.1.2]) ++ ([Value.bool v0.2.1] ++ ([Value.int .i64 v0.2.2.1] ++ ([Value.slice A0_3 v0.2.2.2.1.length c0_3] ++ ([Value.map (some r0_4)] ++ [Value.slice A0_5 v0.2.2.2.2.2.length c0_5])))))), Ck.m1 r0_4 t2.2.1 x.1 t2.2.2.length x.2, Ck.sl T24 x.1 x.2 t2.2.2]) [0, 1, 2] [] [Ck.var 66 pg0 ((([Value.int .i64 v0.1.1] ++ [Value.int .i64 v0.1.2]) ++ ([Value.bool v0.2.1] ++ ([Value.int .i64 v0.2.2.1] ++ ([Value.slice A0_3 v0.2.2.2.1.length c0_3] ++ ([Value.map (some r0_4)] ++ [Value.slice A0_5 v0.2.2.2.2.2.length c0_5])))))), Ck.m1 r0_4 w0_4.1 A0_4 w0_4.2.length c0_4, Ck.sl T24 A0_4 c0_4 w0_4.2] [] 4 rfl rfl (by kernel_rfl) (fun w => by kernel_rfl) ⟨by exact rfl, by exact rfl, by exact rfl, trivial⟩ trivial (by decide) (fun w hs hb => alloc_Alloc_used.calls k pg0 A0_3 c0_3 r0_4 A0_5 c0_5 (v0.1, v0.2.1, v0.2.2.1, v0.2.2.2.1, (), v0.2.2.2.2.2) A0_4 c0_4 (w0_4.1, w0_4.2) a1 t2 (lent b w [Ck.var 66 pg0 ((([Value.int .i64 v0.1.1] ++ [Value.int .i64 v0.1.2]) ++ ([Value.bool v0.2.1] ++ ([Value.int .i64 v0.2.2.1] ++ ([Value.slice A0_3 v0.2.2.2.1.length c0_3] ++ ([Value.map (some r0_4)] ++ [Value.slice A0_5 v0.2.2.2.2.2.length c0_5])))))), Ck.m1 r0_4 w0_4.1 A0_4 w0_4.2.length c0_4, Ck.sl T24 A0_4 c0_4 w0_4.2] []) hb (hs.ro R0_3 _ _) C0_3 (hs.ro R0_5 _ _) C0_5 hc3) ?_
  intro x4
  refine ls_val (v := .int .i64 t2.1) rfl rfl (by kernel_rfl) (fun w => by kernel_rfl) ?_
  refine ls_end ?_
  refine qn_then ?_
  refine cs_seq ?_
  refine cs_seq ?_
  refine cs_region (l := [_, _]) ?_
  refine ls_val (v := .int .i64 t2.1) rfl rfl (by kernel_rfl) (fun w => by kernel_rfl) ?_
  refine ls_val (v := .bool (decide (t2.1 = (0 : Int)))) rfl rfl (by kernel_rfl) (fun w => by kernel_rfl) ?_
  refine ls_end ?_
  refine qn_then ?_
  by_cases q5 : t2.1 = (0 : Int)
  · replace H := ite_t q5 H
    refine cs_know (c := true) (dec_t q5) 10 (by kernel_rfl) ?_
    refine cs_true (by kernel_rfl) ?_
    obtain ⟨q7, H⟩ := ite_need H
    refine cs_sub (sput (sput (sput (sput s0 0 (some (Ck.var 66 pg0 ((([Value.int .i64 v0.1.1] ++ [Value.int .i64 v0.1.2]) ++ ([Value.bool v0.2.1] ++ ([Value.int .i64 v0.2.2.1] ++ ([Value.slice A0_3 v0.2.2.2.1.length c0_3] ++ ([Value.map (some r0_4)] ++ [Value.slice A0_5 v0.2.2.2.2.2.length c0_5]))))))))) 1 (some (Ck.m1 r0_4 t2.2.1 x4.1 t2.2.2.length x4.2))) 2 (some (Ck.sl T24 x4.1 x4.2 t2.2.2))) 3 (some (Ck.var 24 g1 (([Value.int .i64 a1.1] ++ [Value.int .i64 a1.2]))))) (sub_put (by exact rfl) (sub_put (by exact rfl) (sub_put (by exact rfl) (sub_put (by exact rfl) (sub_nil _))))) ?_
    refine cs_chain (l := [_, _, _, _, _, _, _, _, _, _, _, _, _]) [[], [0], [0, 1], [0, 1, 2], [], [4], [4, 5], [4, 5, 6], [4, 5, 6, 7], [], [9], [4, 5, 6, 7, 8, 9, 10], [0, 1, 2, 3, 4, 5, 6, 7, 8, 9, 10, 11]] 12 (fun u => [0, 1, 3].contains u) (efl [false, false, false, false, false, false, false, false, false, false, true, true]) (pvl [.val (.pointer (some ⟨pg0, 0, none⟩)), .val (.pointer (some ⟨pg0, 0, none⟩)), .val (.pointer (some ⟨pg0, (0 + 5), none⟩)), .val (.map (some r0_4)), .val (.pointer (some ⟨pg0, 0, none⟩)), .val (.pointer (some ⟨pg0, 0, none⟩)), .val (.pointer (some ⟨pg0, (0 + 5), none⟩)), .val (.map (some r0_4)), .val (.slice x4.1 t2.2.2.length x4.2), .val (.agg ⟨([Value.int .i64 a1.1] ++ [Value.int .i64 a1.2])⟩), .eff 10, .eff 11]) (Esl [fun (es : Nat → Value) (S' : Sto) => S' = sput (sput (sput (sput s0 0 (some (Ck.var 66 pg0 ((([Value.int .i64 v0.1.1] ++ [Value.int .i64 v0.1.2]) ++ ([Value.bool v0.2.1] ++ ([Value.int .i64 v0.2.2.1] ++ ([Value.slice A0_3 v0.2.2.2.1.length c0_3] ++ ([Value.map (some r0_4)] ++ [Value.slice A0_5 v0.2.2.2.2.2.length c0_5]))))))))) 1 (some (Ck.m1 r0_4 t2.2.1 x4.1 t2.2.2.length x4.2))) 2 (some (Ck.sl T24 x4.1 x4.2 t2.2.2))) 3 (some (Ck.var 24 g1 (([Value.int .i64 a1.1] ++ [Value.int .i64 a1.2])))), fun (es : Nat → Value) (S' : Sto) => ∃ (g6 : Nat), es 10 = .slice (some ⟨g6, 0, none⟩) [a1].length [a1].length ∧ S' = sput (sput (sput (sput (sput s0 0 (some (Ck.var 66 pg0 ((([Value.int .i64 v0.1.1] ++ [Value.int .i64 v0.1.2]) ++ ([Value.bool v0.2.1] ++ ([Value.int .i64 v0.2.2.1] ++ ([Value.slice A0_3 v0.2.2.2.1.length c0_3] ++ ([Value.map (some r0_4)] ++ [Value.slice A0_5 v0.2.2.2.2.2.length c0_5]))))))))) 1 (some (Ck.m1 r0_4 t2.2.1 x4.1 t2.2.2.length x4.2))) 2 (some (Ck.sl T24 x4.1 x4.2 t2.2.2))) 3 (some (Ck.var 24 g1 (([Value.int .i64 a1.1] ++ [Value.int .i64 a1.2]))))) 4 (some (Ck.sl T24 (some ⟨g6, 0, none⟩) ([a1].length) ([a1]))), fun (es : Nat → Value) (S' : Sto) => ∃ (g6 : Nat) (xA8 : Option Addr) (xc9 : Nat), es 10 = .slice (some ⟨g6, 0, none⟩) [a1].length [a1].length ∧ es 11 = .slice xA8 (t2.2.2 ++ [a1]).length xc9 ∧ S' = sput (sput (sput (sput (sput s0 0 (some (Ck.var 66 pg0 ((([Value.int .i64 v0.1.1] ++ [Value.int .i64 v0.1.2]) ++ ([Value.bool v0.2.1] ++ ([Value.int .i64 v0.2.2.1] ++ ([Value.slice A0_3 v0.2.2.2.1.length c0_3] ++ ([Value.map (some r0_4)] ++ [Value.slice A0_5 v0.2.2.2.2.2.length c0_5]))))))))) 1 (some (Ck.m1 r0_4 t2.2.1 x4.1 t2.2.2.length x4.2))) 2 (some (Ck.sl T24 xA8 xc9 (t2.2.2 ++ [a1])))) 3 (some (Ck.var 24 g1 (([Value.int .i64 a1.1] ++ [Value.int .i64 a1.2]))))) 4 (some (Ck.sl T24 (some ⟨g6, 0, none⟩) ([a1].length) ([a1])))] [0, 0, 0, 0, 0, 0, 0, 0, 0, 0, 0, 1, 2]) (nxl [0, 0, 0, 0, 0, 0, 0, 0, 0, 0, 11, 12]) (onl [true, true, true, true, true, true, true, true, true, true, true, true]) 10 (by kernel_rfl) (by kernel_rfl) (by kernel_rfl) (by kernel_rfl) (by kernel_rfl) (rs := [_]) rfl (by kernel_rfl) (by kernel_rfl) (fun es => ?_) ?_ ?_
    · exact (rfl : sput (sput (sput (sput s0 0 (some (Ck.var 66 pg0 ((([Value.int .i64 v0.1.1] ++ [Value.int .i64 v0.1.2]) ++ ([Value.bool v0.2.1] ++ ([Value.int .i64 v0.2.2.1] ++ ([Value.slice A0_3 v0.2.2.2.1.length c0_3] ++ ([Value.map (some r0_4)] ++ [Value.slice A0_5 v0.2.2.2.2.2.length c0_5]))))))))) 1 (some (Ck.m1 r0_4 t2.2.1 x4.1 t2.2.2.length x4.2))) 2 (some (Ck.sl T24 x4.1 x4.2 t2.2.2))) 3 (some (Ck.var 24 g1 (([Value.int .i64 a1.1] ++ [Value.int .i64 a1.2])))) = sput (sput (sput (sput s0 0 (some (Ck.var 66 pg0 ((([Value.int .i64 v0.1.1] ++ [Value.int .i64 v0.1.2]) ++ ([Value.bool v0.2.1] ++ ([Value.int .i64 v0.2.2.1] ++ ([Value.slice A0_3 v0.2.2.2.1.length c0_3] ++ ([Value.map (some r0_4)] ++ [Value.slice A0_5 v0.2.2.2.2.2.length c0_5]))))))))) 1 (some (Ck.m1 r0_4 t2.2.1 x4.1 t2.2.2.length x4.2))) 2 (some (Ck.sl T24 x4.1 x4.2 t2.2.2))) 3 (some (Ck.var 24 g1 (([Value.int .i64 a1.1] ++ [Value.int .i64 a1.2])))))
    · refine all_snoc (all_snoc (all_snoc (all_snoc (all_snoc (all_snoc (all_snoc (all_snoc (all_snoc (all_snoc (all_snoc (all_snoc (all_nil) ?_) ?_) ?_) ?_) ?_) ?_) ?_) ?_) ?_) ?_) ?_) ?_
      · refine ⟨fun o ho es vs f' S' hve hvp hf hx hK hE => ?_⟩
        obtain rfl := Option.some.inj ho
        refine ⟨want_none rfl, fun _ _ => ?_, (fun _ h => by cases h), (fun h _ => by cases h), (fun h _ => by cases h)⟩
        have hF := fr_next (rfl) ((hx 0 (by kernel_rfl)).trans (by kernel_rfl : (_ : Value) = .pointer (some ⟨pg0, 0, none⟩)))
        refine ls_fr hF ?_
        refine ls_val (v := .pointer (some ⟨pg0, 0, none⟩)) rfl rfl (by kernel_rfl) (fun w => by kernel_rfl) ?_
        exact ls_finp (.pointer (some ⟨pg0, 0, none⟩)) (congrArg (fun z => upd z 11 _) hF.symm) rfl
      · refine ⟨fun o ho es vs f' S' hve hvp hf hx hK hE => ?_⟩
        obtain rfl := Option.some.inj ho
        refine ⟨want_none rfl, fun _ _ => ?_, (fun _ h => by cases h), (fun h _ => by cases h), (fun h _ => by cases h)⟩
        have hF := fr_next (rfl) ((hf 0 11 (by kernel_rfl) rfl).trans (show vs 0 = .pointer (some ⟨pg0, 0, none⟩) from hvp 0 (by kernel_rfl)))
        refine ls_fr hF ?_
        refine ls_val (v := .pointer (some ⟨pg0, 0, none⟩)) rfl rfl (by kernel_rfl) (fun w => by kernel_rfl) ?_
        exact ls_finp (.pointer (some ⟨pg0, 0, none⟩)) (congrArg (fun z => upd z 12 _) hF.symm) rfl
      · refine ⟨fun o ho es vs f' S' hve hvp hf hx hK hE => ?_⟩
        obtain rfl := Option.some.inj ho
        refine ⟨want_none rfl, fun _ _ => ?_, (fun _ h => by cases h), (fun h _ => by cases h), (fun h _ => by cases h)⟩
        have hF := fr_next (rfl) ((hf 1 12 (by kernel_rfl) rfl).trans (show vs 1 = .pointer (some ⟨pg0, 0, none⟩) from hvp 1 (by kernel_rfl)))
        refine ls_fr hF ?_
        refine ls_val (v := .pointer (some ⟨pg0, (0 + 5), none⟩)) rfl rfl (by kernel_rfl) (fun w => by kernel_rfl) ?_
        exact ls_finp (.pointer (some ⟨pg0, (0 + 5), none⟩)) (congrArg (fun z => upd z 13 _) hF.symm) rfl
      · refine ⟨fun o ho es vs f' S' hve hvp hf hx hK hE => ?_⟩
        obtain rfl := Option.some.inj ho
        refine ⟨want_none rfl, fun _ _ => ?_, (fun _ h => by cases h), (fun h _ => by cases h), (fun h _ => by cases h)⟩
        have hF := fr_next (rfl) ((hf 2 13 (by kernel_rfl) rfl).trans (show vs 2 = .pointer (some ⟨pg0, (0 + 5), none⟩) from hvp 2 (by kernel_rfl)))
        refine ls_fr hF ?_
        refine ls_load (a0 := ⟨pg0, (0 + 5), none⟩) (v := .map (some r0_4)) (de := (TypeDesc.map 3 22)) rfl rfl (by kernel_rfl) rfl (by kernel_rfl) (by kernel_rfl) (by kernel_rfl) (fun w hs => (hs.var (k := 0) ((hK 0 (by rfl)).trans (by exact rfl)) (Sub4.trans (Sub4.all _) (Sub4.skip (n := 2) (len_app (len1 _) (len1 _)) (Sub4.skip (n := 1) (len1 _) (Sub4.skip (n := 1) (len1 _) (Sub4.skip (n := 1) (len1 _) (Sub4.head _ _)))))))) ?_
        exact ls_finp (.map (some r0_4)) (congrArg (fun z => upd z 14 _) hF.symm) rfl
      · refine ⟨fun o ho es vs f' S' hve hvp hf hx hK hE => ?_⟩
        obtain rfl := Option.some.inj ho
        refine ⟨want_none rfl, fun _ _ => ?_, (fun _ h => by cases h), (fun h _ => by cases h), (fun h _ => by cases h)⟩
        have hF := fr_next (rfl) ((hx 0 (by kernel_rfl)).trans (by kernel_rfl : (_ : Value) = .pointer (some ⟨pg0, 0, none⟩)))
        refine ls_fr hF ?_
        refine ls_val (v := .pointer (some ⟨pg0, 0, none⟩)) rfl rfl (by kernel_rfl) (fun w => by kernel_rfl) ?_
        exact ls_finp (.pointer (some ⟨pg0, 0, none⟩)) (congrArg (fun z => upd z 15 _) hF.symm) rfl
      · refine ⟨fun o ho es vs f' S' hve hvp hf hx hK hE => ?_⟩
        obtain rfl := Option.some.inj ho
        refine ⟨want_none rfl, fun _ _ => ?_, (fun _ h => by cases h), (fun h _ => by cases h), (fun h _ => by cases h)⟩
        have hF := fr_next (rfl) ((hf 4 15 (by kernel_rfl) rfl).trans (show vs 4 = .pointer (some ⟨pg0, 0, none⟩) from hvp 4 (by kernel_rfl)))
        refine ls_fr hF ?_
        refine ls_val (v := .pointer (some ⟨pg0, 0, none⟩)) rfl rfl (by kernel_rfl) (fun w => by kernel_rfl) ?_
        exact ls_finp (.pointer (some ⟨pg0, 0, none⟩)) (congrArg (fun z => upd z 16 _) hF.symm) rfl
      · refine ⟨fun o ho es vs f' S' hve hvp hf hx hK hE => ?_⟩
        obtain rfl := Option.some.inj ho
        refine ⟨want_none rfl, fun _ _ => ?_, (fun _ h => by cases h), (fun h _ => by cases h), (fun h _ => by cases h)⟩
        have hF := fr_next (rfl) ((hf 5 16 (by kernel_rfl) rfl).trans (show vs 5 = .pointer (some ⟨pg0, 0, none⟩) from hvp 5 (by kernel_rfl)))
        refine ls_fr hF ?_
        refine ls_val (v := .pointer (some ⟨pg0, (0 + 5), none⟩)) rfl rfl (by kernel_rfl) (fun w => by kernel_rfl) ?_
        exact ls_finp (.pointer (some ⟨pg0, (0 + 5), none⟩)) (congrArg (fun z => upd z 17 _) hF.symm) rfl
      · refine ⟨fun o ho es vs f' S' hve hvp hf hx hK hE => ?_⟩
        obtain rfl := Option.some.inj ho
        refine ⟨want_none rfl, fun _ _ => ?_, (fun _ h => by cases h), (fun h _ => by cases h), (fun h _ => by cases h)⟩
        have hF := fr_next (rfl) ((hf 6 17 (by kernel_rfl) rfl).trans (show vs 6 = .pointer (some ⟨pg0, (0 + 5), none⟩) from hvp 6 (by kernel_rfl)))
        refine ls_fr hF ?_
        refine ls_load (a0 := ⟨pg0, (0 + 5), none⟩) (v := .map (some r0_4)) (de := (TypeDesc.map 3 22)) rfl rfl (by kernel_rfl) rfl (by kernel_rfl) (by kernel_rfl) (by kernel_rfl) (fun w hs => (hs.var (k := 0) ((hK 0 (by rfl)).trans (by exact rfl)) (Sub4.trans (Sub4.all _) (Sub4.skip (n := 2) (len_app (len1 _) (len1 _)) (Sub4.skip (n := 1) (len1 _) (Sub4.skip (n := 1) (len1 _) (Sub4.skip (n := 1) (len1 _) (Sub4.head _ _)))))))) ?_
        exact ls_finp (.map (some r0_4)) (congrArg (fun z => upd z 18 _) hF.symm) rfl
      · refine ⟨fun o ho es vs f' S' hve hvp hf hx hK hE => ?_⟩
        obtain rfl := Option.some.inj ho
        refine ⟨want_none rfl, fun _ _ => ?_, (fun _ h => by cases h), (fun h _ => by cases h), (fun h _ => by cases h)⟩
        have hF := fr_next (rfl) ((hf 7 18 (by kernel_rfl) rfl).trans (show vs 7 = .map (some r0_4) from hvp 7 (by kernel_rfl)))
        refine ls_fr hF ?_
        refine ls_m1look (r := r0_4) (p := t2.2.1) (A := x4.1) (m := t2.2.2.length) (c := x4.2) (kt := 3) (et := 22) 1 rfl rfl (by kernel_rfl) rfl (by kernel_rfl) (by kernel_rfl) (by kernel_rfl) (by kernel_rfl) (fun w hs => hs.m1 (k := 1) ((hK 1 (by rfl)).trans (by exact rfl))) ?_
        exact ls_finp (.slice x4.1 t2.2.2.length x4.2) (congrArg (fun z => upd z 19 _) hF.symm) rfl
      · refine ⟨fun o ho es vs f' S' hve hvp hf hx hK hE => ?_⟩
        obtain rfl := Option.some.inj ho
        refine ⟨want_none rfl, fun _ _ => ?_, (fun _ h => by cases h), (fun h _ => by cases h), (fun h _ => by cases h)⟩
        have hF := fr_next (rfl) ((hx 3 (by kernel_rfl)).trans (by kernel_rfl : (_ : Value) = .pointer (some ⟨g1, 0, none⟩)))
        refine ls_fr hF ?_
        refine ls_loadagg (a := ⟨g1, 0, none⟩) (sub := ([Value.int .i64 a1.1] ++ [Value.int .i64 a1.2])) rfl rfl (by kernel_rfl) rfl (by kernel_rfl) (by kernel_rfl) (by kernel_rfl) (len_app (len1 _) (len1 _)) (fun w hs => (hs.vars (k := 3) ((hK 3 (by rfl)).trans (by exact rfl)) (Sub4.all _))) ?_
        exact ls_finp (.agg ⟨([Value.int .i64 a1.1] ++ [Value.int .i64 a1.2])⟩) (congrArg (fun z => upd z 20 _) hF.symm) rfl
      · refine ⟨fun o ho es vs f' S' hve hvp hf hx hK hE => ?_⟩
        obtain rfl := Option.some.inj ho
        obtain rfl := hE rfl
        refine ⟨want_none rfl, (fun h _ => by cases h), (fun h _ => by cases h), fun _ _ => ?_, (fun _ h => by cases h)⟩
        have hF := fr_next (rfl) ((hf 9 20 (by kernel_rfl) rfl).trans (show vs 9 = .agg ⟨([Value.int .i64 a1.1] ++ [Value.int .i64 a1.2])⟩ from hvp 9 (by kernel_rfl)))
        refine ls_fr hF ?_
        refine ls_lit T24 4 rfl rfl (by kernel_rfl) ([a1]) (by exact of_decide_eq_true (by kernel_rfl)) (fun w => by kernel_rfl) ?_
        intro g6
        exact ls_fine (sput (sput (sput (sput (sput s0 0 (some (Ck.var 66 pg0 ((([Value.int .i64 v0.1.1] ++ [Value.int .i64 v0.1.2]) ++ ([Value.bool v0.2.1] ++ ([Value.int .i64 v0.2.2.1] ++ ([Value.slice A0_3 v0.2.2.2.1.length c0_3] ++ ([Value.map (some r0_4)] ++ [Value.slice A0_5 v0.2.2.2.2.2.length c0_5]))))))))) 1 (some (Ck.m1 r0_4 t2.2.1 x4.1 t2.2.2.length x4.2))) 2 (some (Ck.sl T24 x4.1 x4.2 t2.2.2))) 3 (some (Ck.var 24 g1 (([Value.int .i64 a1.1] ++ [Value.int .i64 a1.2]))))) 4 (some (Ck.sl T24 (some ⟨g6, 0, none⟩) ([a1].length) ([a1])))) (.slice (some ⟨g6, 0, none⟩) [a1].length [a1].length) (congrArg (fun z => upd z 21 _) hF.symm) (show (fun (es : Nat → Value) (S' : Sto) => ∃ (g6 : Nat), es 10 = .slice (some ⟨g6, 0, none⟩) [a1].length [a1].length ∧ S' = sput (sput (sput (sput (sput s0 0 (some (Ck.var 66 pg0 ((([Value.int .i64 v0.1.1] ++ [Value.int .i64 v0.1.2]) ++ ([Value.bool v0.2.1] ++ ([Value.int .i64 v0.2.2.1] ++ ([Value.slice A0_3 v0.2.2.2.1.length c0_3] ++ ([Value.map (some r0_4)] ++ [Value.slice A0_5 v0.2.2.2.2.2.length c0_5]))))))))) 1 (some (Ck.m1 r0_4 t2.2.1 x4.1 t2.2.2.length x4.2))) 2 (some (Ck.sl T24 x4.1 x4.2 t2.2.2))) 3 (some (Ck.var 24 g1 (([Value.int .i64 a1.1] ++ [Value.int .i64 a1.2]))))) 4 (some (Ck.sl T24 (some ⟨g6, 0, none⟩) ([a1].length) ([a1])))) (upv es 10 (.slice (some ⟨g6, 0, none⟩) [a1].length [a1].length)) (sput (sput (sput (sput (sput s0 0 (some (Ck.var 66 pg0 ((([Value.int .i64 v0.1.1] ++ [Value.int .i64 v0.1.2]) ++ ([Value.bool v0.2.1] ++ ([Value.int .i64 v0.2.2.1] ++ ([Value.slice A0_3 v0.2.2.2.1.length c0_3] ++ ([Value.map (some r0_4)] ++ [Value.slice A0_5 v0.2.2.2.2.2.length c0_5]))))))))) 1 (some (Ck.m1 r0_4 t2.2.1 x4.1 t2.2.2.length x4.2))) 2 (some (Ck.sl T24 x4.1 x4.2 t2.2.2))) 3 (some (Ck.var 24 g1 (([Value.int .i64 a1.1] ++ [Value.int .i64 a1.2]))))) 4 (some (Ck.sl T24 (some ⟨g6, 0, none⟩) ([a1].length) ([a1])))) from ⟨g6, rfl, rfl⟩) rfl (keep_cons (by exact rfl) (keep_cons (by exact rfl) (keep_cons (by exact rfl) (keep_nil)))) (sub_put (by exact rfl) (sub_put (by exact rfl) (sub_put (by exact rfl) (sub_put (by exact rfl) (sub_put (by exact rfl) (sub_nil _))))))
      · refine ⟨fun o ho es vs f' S' hve hvp hf hx hK hE => ?_⟩
        obtain rfl := Option.some.inj ho
        obtain ⟨g6, hv10, rfl⟩ := hE rfl
        refine ⟨want_none rfl, (fun h _ => by cases h), (fun h _ => by cases h), fun _ _ => ?_, (fun _ h => by cases h)⟩
        have hF := fr_next (fr_next (rfl) ((hf 8 19 (by kernel_rfl) rfl).trans (show vs 8 = .slice x4.1 t2.2.2.length x4.2 from hvp 8 (by kernel_rfl)))) (((hf 10 21 (by kernel_rfl) rfl).trans (show vs 10 = es 10 from hvp 10 (by kernel_rfl))).trans hv10)
        refine ls_fr hF ?_
        refine ls_app T24 (A := x4.1) (c := x4.2) (B := (some ⟨g6, 0, none⟩)) (cb := [a1].length) (z := (.agg ⟨([Value.int .i64 (0 : Int)] ++ [Value.int .i64 (0 : Int)])⟩)) (l := t2.2.2) (m := [a1]) (bytes := 16) 2 rfl rfl (by kernel_rfl) rfl (by kernel_rfl) (by exact rfl) (by kernel_rfl) (fun w hs => (hs.rd (k := 4) (by exact rfl))) (by kernel_rfl) (by kernel_rfl) rfl (by decide) q7 ?_
        intro xA8 xc9
        exact ls_fine (sput (sput (sput (sput (sput s0 0 (some (Ck.var 66 pg0 ((([Value.int .i64 v0.1.1] ++ [Value.int .i64 v0.1.2]) ++ ([Value.bool v0.2.1] ++ ([Value.int .i64 v0.2.2.1] ++ ([Value.slice A0_3 v0.2.2.2.1.length c0_3] ++ ([Value.map (some r0_4)] ++ [Value.slice A0_5 v0.2.2.2.2.2.length c0_5]))))))))) 1 (some (Ck.m1 r0_4 t2.2.1 x4.1 t2.2.2.length x4.2))) 2 (some (Ck.sl T24 xA8 xc9 (t2.2.2 ++ [a1])))) 3 (some (Ck.var 24 g1 (([Value.int .i64 a1.1] ++ [Value.int .i64 a1.2]))))) 4 (some (Ck.sl T24 (some ⟨g6, 0, none⟩) ([a1].length) ([a1])))) (.slice xA8 (t2.2.2 ++ [a1]).length xc9) (congrArg (fun z => upd z 22 _) hF.symm) (show (fun (es : Nat → Value) (S' : Sto) => ∃ (g6 : Nat) (xA8 : Option Addr) (xc9 : Nat), es 10 = .slice (some ⟨g6, 0, none⟩) [a1].length [a1].length ∧ es 11 = .slice xA8 (t2.2.2 ++ [a1]).length xc9 ∧ S' = sput (sput (sput (sput (sput s0 0 (some (Ck.var 66 pg0 ((([Value.int .i64 v0.1.1] ++ [Value.int .i64 v0.1.2]) ++ ([Value.bool v0.2.1] ++ ([Value.int .i64 v0.2.2.1] ++ ([Value.slice A0_3 v0.2.2.2.1.length c0_3] ++ ([Value.map (some r0_4)] ++ [Value.slice A0_5 v0.2.2.2.2.2.length c0_5]))))))))) 1 (some (Ck.m1 r0_4 t2.2.1 x4.1 t2.2.2.length x4.2))) 2 (some (Ck.sl T24 xA8 xc9 (t2.2.2 ++ [a1])))) 3 (some (Ck.var 24 g1 (([Value.int .i64 a1.1] ++ [Value.int .i64 a1.2]))))) 4 (some (Ck.sl T24 (some ⟨g6, 0, none⟩) ([a1].length) ([a1])))) (upv es 11 (.slice xA8 (t2.2.2 ++ [a1]).length xc9)) (sput (sput (sput (sput (sput s0 0 (some (Ck.var 66 pg0 ((([Value.int .i64 v0.1.1] ++ [Value.int .i64 v0.1.2]) ++ ([Value.bool v0.2.1] ++ ([Value.int .i64 v0.2.2.1] ++ ([Value.slice A0_3 v0.2.2.2.1.length c0_3] ++ ([Value.map (some r0_4)] ++ [Value.slice A0_5 v0.2.2.2.2.2.length c0_5]))))))))) 1 (some (Ck.m1 r0_4 t2.2.1 x4.1 t2.2.2.length x4.2))) 2 (some (Ck.sl T24 xA8 xc9 (t2.2.2 ++ [a1])))) 3 (some (Ck.var 24 g1 (([Value.int .i64 a1.1] ++ [Value.int .i64 a1.2]))))) 4 (some (Ck.sl T24 (some ⟨g6, 0, none⟩) ([a1].length) ([a1])))) from ⟨g6, xA8, xc9, hv10, rfl, rfl⟩) rfl (keep_cons (by exact rfl) (keep_cons (by exact rfl) (keep_cons (by exact rfl) (keep_nil)))) (sub_put (by exact rfl) (sub_put (by exact rfl) (sub_put (by exact rfl) (sub_put (by exact rfl) (sub_put (by exact rfl) (sub_nil _))))))
    · intro es vs f' S' hve hvp hf hx hK hE
      obtain ⟨g6, xA8, xc9, hv10, hv11, rfl⟩ := hE
      refine ls_fr (F := upd (upd (upd f' 5 (.int .i64 t2.1)) 14 (.map (some r0_4))) 22 (.slice xA8 (t2.2.2 ++ [a1]).length xc9)) (fr_next (fr_next (fr_next (rfl) ((hx 5 (by kernel_rfl)).trans (by kernel_rfl : (_ : Value) = .int .i64 t2.1))) ((hf 3 14 (by kernel_rfl) rfl).trans (show vs 3 = .map (some r0_4) from hvp 3 (by kernel_rfl)))) (((hf 11 22 (by kernel_rfl) rfl).trans (show vs 11 = es 11 from hvp 11 (by kernel_rfl))).trans hv11)) ?_
      refine ls_sub (sput (sput (sput s0 0 (some (Ck.var 66 pg0 ((([Value.int .i64 v0.1.1] ++ [Value.int .i64 v0.1.2]) ++ ([Value.bool v0.2.1] ++ ([Value.int .i64 v0.2.2.1] ++ ([Value.slice A0_3 v0.2.2.2.1.length c0_3] ++ ([Value.map (some r0_4)] ++ [Value.slice A0_5 v0.2.2.2.2.2.length c0_5]))))))))) 1 (some (Ck.m1 r0_4 t2.2.1 x4.1 t2.2.2.length x4.2))) 2 (some (Ck.sl T24 xA8 xc9 (t2.2.2 ++ [a1])))) (sub_put (by exact rfl) (sub_put (by exact rfl) (sub_put (by exact rfl) (sub_nil _)))) ?_
      refine ls_m1put (r := r0_4) (p := t2.2.1) (A := x4.1) (m := t2.2.2.length) (c := x4.2) (A' := xA8) (m' := (t2.2.2 ++ [a1]).length) (c' := xc9) (kt := 3) (et := 22) 1 rfl rfl rfl (by kernel_rfl) (by kernel_rfl) (by kernel_rfl) (by kernel_rfl) (by exact rfl) ?_
      refine ls_end ?_
      refine qn_then ?_
      refine cs_seq ?_
      refine cs_region (l := [_, _]) ?_
      refine ls_val (v := .int .i64 t2.1) rfl rfl (by kernel_rfl) (fun w => by kernel_rfl) ?_
      refine ls_val (v := .int .i64 t2.1) rfl rfl (by kernel_rfl) (fun w => by kernel_rfl) ?_
      refine ls_end ?_
      refine qn_then ?_
      refine cs_ret' ?_
      obtain rfl := Option.some.inj H
      refine qr_res (rs := [_]) rfl (fun w' hs => ⟨[.int .i64 t2.1], (res_tmp (by kernel_rfl) (.nil)), (xA8, xc9), rfl, hs.pick (ts := [0, 1, 2]) (cs := [Ck.var 66 pg0 ((([Value.int .i64 v0.1.1] ++ [Value.int .i64 v0.1.2]) ++ ([Value.bool v0.2.1] ++ ([Value.int .i64 v0.2.2.1] ++ ([Value.slice A0_3 v0.2.2.2.1.length c0_3] ++ ([Value.map (some r0_4)] ++ [Value.slice A0_5 v0.2.2.2.2.2.length c0_5])))))), Ck.m1 r0_4 true xA8 ((t2.2.2 ++ [a1]).length) xc9, Ck.sl T24 xA8 xc9 (t2.2.2 ++ [a1])]) ⟨by exact rfl, by exact rfl, by exact rfl, trivial⟩ (by decide)⟩)
  · replace H := ite_f q5 H
    refine cs_know (c := false) (dec_f q5) 10 (by kernel_rfl) ?_
    refine cs_false (by kernel_rfl) ?_
    refine cs_skip' ?_
    refine qn_then ?_
    refine cs_seq ?_
    refine cs_region (l := [_, _]) ?_
    refine ls_val (v := .int .i64 t2.1) rfl rfl (by kernel_rfl) (fun w => by kernel_rfl) ?_
    refine ls_val (v := .int .i64 t2.1) rfl rfl (by kernel_rfl) (fun w => by kernel_rfl) ?_
    refine ls_end ?_
    refine qn_then ?_
    refine cs_ret' ?_
    obtain rfl := Option.some.inj H
    refine qr_res (rs := [_]) rfl (fun w' hs => ⟨[.int .i64 t2.1], (res_tmp (by kernel_rfl) (.nil)), (x4.1, x4.2), rfl, hs.pick (ts := [0, 1, 2]) (cs := [Ck.var 66 pg0 ((([Value.int .i64 v0.1.1] ++ [Value.int .i64 v0.1.2]) ++ ([Value.bool v0.2.1] ++ ([Value.int .i64 v0.2.2.1] ++ ([Value.slice A0_3 v0.2.2.2.1.length c0_3] ++ ([Value.map (some r0_4)] ++ [Value.slice A0_5 v0.2.2.2.2.2.length c0_5])))))), Ck.m1 r0_4 t2.2.1 x4.1 t2.2.2.length x4.2, Ck.sl T24 x4.1 x4.2 t2.2.2]) ⟨by exact rfl, by exact rfl, by exact rfl, trivial⟩ (by decide)⟩)

/-! ### (*shadowbox/alloc.Alloc).Give: function 35 -/
def alloc_Alloc_Give.tab5 : List (List Nat) := [[], [], [1], [1, 2], [1, 2, 3], [], [1, 2, 3, 4, 5], [0, 1, 2, 3, 4, 5, 6], [0, 1, 2, 3, 4, 5, 6, 7], [0, 1, 2, 3, 4, 5, 6, 7, 8]]
def alloc_Alloc_Give.f (k : Nat) (v0 : ((Int × Int) × Bool × Int × (List (Int × Int)) × Unit × (List (Int × Int)))) (w0_4 : (Bool × (List (Int × Int)))) (a1 : (Int × Int)) : Option (Int × ((Int × Int) × Bool × Int × (List (Int × Int)) × Unit × (List (Int × Int))) × (Bool × (List (Int × Int)))) :=
  (alloc_Alloc_used.f k (v0.1, v0.2.1, v0.2.2.1, v0.2.2.2.1, (), v0.2.2.2.2.2) (w0_4.1, w0_4.2) a1).bind fun t2 => (if t2.1 = (0 : Int) then (extent_Add.f k v0.2.2.2.1 a1).bind fun t8 => some (t2.1, (v0.1, v0.2.1, v0.2.2.1, t8, (), v0.2.2.2.2.2), (t2.2.1, t2.2.2)) else some (t2.1, (v0.1, v0.2.1, v0.2.2.1, v0.2.2.2.1, (), v0.2.2.2.2.2), (t2.2.1, t2.2.2)))
set_option maxRecDepth 100000 in
set_option maxHeartbeats 4000000 in
theorem alloc_Alloc_Give.calls (k : Nat) (pg0 : Nat) (A0_3 : Option Addr) (c0_3 : Nat) (r0_4 : Nat) (A0_5 : Option Addr) (c0_5 : Nat) (v0 : ((Int × Int) × Bool × Int × (List (Int × Int)) × Unit × (List (Int × Int)))) (A0_4 : Option Addr) (c0_4 : Nat) (w0_4 : (Bool × (List (Int × Int)))) (a1 : (Int × Int)) (r : Int × ((Int × Int) × Bool × Int × (List (Int × Int)) × Unit × (List (Int × Int))) × (Bool × (List (Int × Int)))) (b : Bs) (hs0 : St b (stl [Ck.var 66 pg0 ((([Value.int .i64 v0.1.1] ++ [Value.int .i64 v0.1.2]) ++ ([Value.bool v0.2.1] ++ ([Value.int .i64 v0.2.2.1] ++ ([Value.slice A0_3 v0.2.2.2.1.length c0_3] ++ ([Value.map (some r0_4)] ++ [Value.slice A0_5 v0.2.2.2.2.2.length c0_5])))))), Ck.m1 r0_4 w0_4.1 A0_4 w0_4.2.length c0_4, Ck.sl T24 A0_4 c0_4 w0_4.2]) b.w) (R0_3 : Ro b A0_3 (em T24 v0.2.2.2.1)) (C0_3 : v0.2.2.2.1.length ≤ c0_3) (R0_5 : Ro b A0_5 (em T24 v0.2.2.2.2.2)) (C0_5 : v0.2.2.2.2.2.length ≤ c0_5) (H : alloc_Alloc_Give.f k v0 w0_4 a1 = some r) :
    Calls Try.prog 35 #[.pointer (some ⟨pg0, 0, none⟩), .agg ⟨([Value.int .i64 a1.1] ++ [Value.int .i64 a1.2])⟩] b.w fun e w' => ∃ b', b.le b' ∧ ∃ x : (Option Addr × Nat) × (Option Addr × Nat) × (Option Addr × Nat), e = .returned (.int .i64 r.1) ∧ ((Ro b' x.1.1 (em T24 r.2.1.2.2.2.1) ∧ r.2.1.2.2.2.1.length ≤ x.1.2) ∧ (Ro b' x.2.1.1 (em T24 r.2.1.2.2.2.2.2) ∧ r.2.1.2.2.2.2.2.length ≤ x.2.1.2)) ∧ St b' (stl [Ck.var 66 pg0 ((([Value.int .i64 r.2.1.1.1] ++ [Value.int .i64 r.2.1.1.2]) ++ ([Value.bool r.2.1.2.1] ++ ([Value.int .i64 r.2.1.2.2.1] ++ ([Value.slice x.1.1 r.2.1.2.2.2.1.length x.1.2] ++ ([Value.map (some r0_4)] ++ [Value.slice x.2.1.1 r.2.1.2.2.2.2.2.length x.2.1.2])))))), Ck.m1 r0_4 r.2.2.1 x.2.2.1 r.2.2.2.length x.2.2.2, Ck.sl T24 x.2.2.1 x.2.2.2 r.2.2.2]) w' := by
  unfold alloc_Alloc_Give.f at H
  refine enterb (n := 21) Try.func35 rfl (by kernel_rfl) (by kernel_rfl) hs0 ?_
  refine cs_sub (sput (sput (sput s0 0 (some (Ck.var 66 pg0 ((([Value.int .i64 v0.1.1] ++ [Value.int .i64 v0.1.2]) ++ ([Value.bool v0.2.1] ++ ([Value.int .i64 v0.2.2.1] ++ ([Value.slice A0_3 v0.2.2.2.1.length c0_3] ++ ([Value.map (some r0_4)] ++ [Value.slice A0_5 v0.2.2.2.2.2.length c0_5]))))))))) 1 (some (Ck.m1 r0_4 w0_4.1 A0_4 w0_4.2.length c0_4))) 2 (some (Ck.sl T24 A0_4 c0_4 w0_4.2))) (sub_put (by exact rfl) (sub_put (by exact rfl) (sub_put (by exact rfl) (sub_nil _)))) ?_
  refine cs_seq ?_
  refine cs_region (l := [_, _]) ?_
  refine ls_new rfl rfl (by kernel_rfl) 3 (fun g => .pointer (some ⟨g, 0, none⟩)) (.cells ⟨([Value.int .i64 a1.1] ++ [Value.int .i64 a1.2])⟩ 24) (fun w => by kernel_rfl) ?_
  intro g1
  refine ls_val (v := .int .i64 (0 : Int)) rfl rfl (by kernel_rfl) (fun w => by kernel_rfl) ?_
  refine ls_end ?_
  refine qn_then ?_
  refine cs_seq ?_
  refine cs_region (l := [_, _, _, _]) ?_
  refine ls_val (v := .pointer (some ⟨pg0, 0, none⟩)) rfl rfl (by kernel_rfl) (fun w => by kernel_rfl) ?_
  refine ls_loadagg (a := ⟨g1, 0, none⟩) (sub := ([Value.int .i64 a1.1] ++ [Value.int .i64 a1.2])) rfl rfl (by kernel_rfl) rfl (by kernel_rfl) (by kernel_rfl) (by kernel_rfl) (len_app (len1 _) (len1 _)) (fun w hs => (hs.vars (k := 3) (by exact rfl) (Sub4.all _))) ?_
  obtain ⟨t2, hc3, H⟩ := bind_some H
  refine ls_callb (fid := 49) (vals := #[.pointer (some ⟨pg0, 0, none⟩), .agg ⟨([Value.int .i64 a1.1] ++ [Value.int .i64 a1.2])⟩]) (X := (Option Addr × Nat)) (fun x => .int .i64 t2.1) (fun x => stl [Ck.var 66 pg0 ((([Value.int .i64 v0.1.1] ++ [Value.int .i64 v0.1.2]) ++ ([Value.bool v0.2.1] ++ ([Value.int .i64 v0.2.2.1] ++ ([Value.slice A0_3 v0.2.2.2.1.length c0_3] ++ ([Value.map (some r0_4)] ++ [Value.slice A0_5 v0.2.2.2.2.2.length c0_5])))))), Ck.m1 r0_4 t2.2.1 x.1 t2.2.2.length x.2, Ck.sl T24 x.1 x.2 t2.2.2]) [0, 1, 2] [] [Ck.var 66 pg0 ((([Value.int .i64 v0.1.1] ++ [Value.int .i64 v0.1.2]) ++ ([Value.bool v0.2.1] ++ ([Value.int .i64 v0.2.2.1] ++ ([Value.slice A0_3 v0.2.2.2.1.length c0_3] ++ ([Value.map (some r0_4)] ++ [Value.slice A0_5 v0.2.2.2.2.2.length c0_5])))))), Ck.m1 r0_4 w0_4.1 A0_4 w0_4.2.length c0_4, Ck.sl T24 A0_4 c0_4 w0_4.2] [] 4 rfl rfl (by kernel_rfl) (fun w => by kernel_rfl) ⟨by exact rfl, by exact rfl, by exact rfl, trivial⟩ trivial (by decide) (fun w hs hb => alloc_Alloc_used.calls k pg0 A0_3 c0_3 r0_4 A0_5 c0_5 (v0.1, v0.2.1, v0.2.2.1, v0.2.2.2.1, (), v0.2.2.2.2.2) A0_4 c0_4 (w0_4.1, w0_4.2) a1 t2 (lent b w [Ck.var 66 pg0 ((([Value.int .i64 v0.1.1] ++ [Value.int .i64 v0.1.2]) ++ ([Value.bool v0.2.1] ++ ([Value.int .i64 v0.2.2.1] ++ ([Value.slice A0_3 v0.2.2.2.1.length c0_3] ++ ([Value.map (some r0_4)] ++ [Value.slice A0_5 v0.2.2.2.2.2.length c0_5])))))), Ck.m1 r0_4 w0_4.1 A0_4 w0_4.2.length c0_4, Ck.sl T24 A0_4 c0_4 w0_4.2] []) hb (hs.ro R0_3 _ _) C0_3 (hs.ro R0_5 _ _) C0_5 hc3) ?_
  intro x4
  refine ls_val (v := .int .i64 t2.1) rfl rfl (by kernel_rfl) (fun w => by kernel_rfl) ?_
  refine ls_end ?_
  refine qn_then ?_
  refine cs_seq ?_
  refine cs_seq ?_
  refine cs_region (l := [_, _]) ?_
  refine ls_val (v := .int .i64 t2.1) rfl rfl (by kernel_rfl) (fun w => by kernel_rfl) ?_
  refine ls_val (v := .bool (decide (t2.1 = (0 : Int)))) rfl rfl (by kernel_rfl) (fun w => by kernel_rfl) ?_
  refine ls_end ?_
  refine qn_then ?_
  by_cases q5 : t2.1 = (0 : Int)
  · replace H := ite_t q5 H
    refine cs_know (c := true) (dec_t q5) 10 (by kernel_rfl) ?_
    refine cs_true (by kernel_rfl) ?_
    obtain ⟨s7_0, hs7_0⟩ : ∃ z : Value → Sto → Prop, z = (fun v R => v = .pointer (some ⟨pg0, 0, none⟩) ∧ R = s0) := ⟨_, rfl⟩
    refine have_op (l := [_, _, _, _, _, _, _, _, _, _]) alloc_Alloc_Give.tab5 4 0 (fun sp => sp 0 = s7_0) (fun sp on hA hon => ?_) (fun ops7_0 => ?_)
    · refine ⟨fun o ho vs Rs f' S' w hp hf hx hS hR hs => ?_⟩
      obtain rfl := Option.some.inj ho
      rw [hA, hs7_0]
      refine And.intro (fun a ha => (want_none rfl a ha).trans hon.symm) (And.intro (fun _ => ?_) (fun h => by rw [hon] at h; cases h))
      have hF := fr_next (rfl) ((hx 0 (by kernel_rfl)).trans (by kernel_rfl : (_ : Value) = .pointer (some ⟨pg0, 0, none⟩)))
      refine ls_fr hF ?_
      refine ls_val (v := .pointer (some ⟨pg0, 0, none⟩)) rfl rfl (by kernel_rfl) (fun w => by kernel_rfl) ?_
      exact ls_fin s0 (.pointer (some ⟨pg0, 0, none⟩)) (congrArg (fun z => upd z 11 _) hF.symm) ⟨rfl, rfl⟩ (sub_nil _)
    obtain ⟨s7_1, hs7_1⟩ : ∃ z : Value → Sto → Prop, z = (fun v R => v = .pointer (some ⟨pg0, 0, none⟩) ∧ R = s0) := ⟨_, rfl⟩
    refine have_op (l := [_, _, _, _, _, _, _, _, _, _]) alloc_Alloc_Give.tab5 4 1 (fun sp => sp 1 = s7_1) (fun sp on hA hon => ?_) (fun ops7_1 => ?_)
    · refine ⟨fun o ho vs Rs f' S' w hp hf hx hS hR hs => ?_⟩
      obtain rfl := Option.some.inj ho
      rw [hA, hs7_1]
      refine And.intro (fun a ha => (want_none rfl a ha).trans hon.symm) (And.intro (fun _ => ?_) (fun h => by rw [hon] at h; cases h))
      have hF := fr_next (rfl) ((hx 0 (by kernel_rfl)).trans (by kernel_rfl : (_ : Value) = .pointer (some ⟨pg0, 0, none⟩)))
      refine ls_fr hF ?_
      refine ls_val (v := .pointer (some ⟨pg0, 0, none⟩)) rfl rfl (by kernel_rfl) (fun w => by kernel_rfl) ?_
      exact ls_fin s0 (.pointer (some ⟨pg0, 0, none⟩)) (congrArg (fun z => upd z 12 _) hF.symm) ⟨rfl, rfl⟩ (sub_nil _)
    obtain ⟨s7_2, hs7_2⟩ : ∃ z : Value → Sto → Prop, z = (fun v R => v = .pointer (some ⟨pg0, 0, none⟩) ∧ R = s0) := ⟨_, rfl⟩
    refine have_op (l := [_, _, _, _, _, _, _, _, _, _]) alloc_Alloc_Give.tab5 4 2 (fun sp => sp 2 = s7_2 ∧ sp 1 = s7_1) (fun sp on hA hon => ?_) (fun ops7_2 => ?_)
    · refine ⟨fun o ho vs Rs f' S' w hp hf hx hS hR hs => ?_⟩
      obtain rfl := Option.some.inj ho
      obtain ⟨hv1, hR1⟩ := (spe hA.2 hs7_1 (hp 1 (by kernel_rfl)))
      rw [hA.1, hs7_2]
      refine And.intro (fun a ha => (want_none rfl a ha).trans hon.symm) (And.intro (fun _ => ?_) (fun h => by rw [hon] at h; cases h))
      have hF := fr_next (rfl) ((hf 1 12 (by kernel_rfl) rfl).trans hv1)
      refine ls_fr hF ?_
      refine ls_val (v := .pointer (some ⟨pg0, 0, none⟩)) rfl rfl (by kernel_rfl) (fun w => by kernel_rfl) ?_
      exact ls_fin s0 (.pointer (some ⟨pg0, 0, none⟩)) (congrArg (fun z => upd z 13 _) hF.symm) ⟨rfl, rfl⟩ (sub_nil _)
    obtain ⟨s7_3, hs7_3⟩ : ∃ z : Value → Sto → Prop, z = (fun v R => v = .pointer (some ⟨pg0, (0 + 4), none⟩) ∧ R = s0) := ⟨_, rfl⟩
    refine have_op (l := [_, _, _, _, _, _, _, _, _, _]) alloc_Alloc_Give.tab5 4 3 (fun sp => sp 3 = s7_3 ∧ sp 2 = s7_2) (fun sp on hA hon => ?_) (fun ops7_3 => ?_)
    · refine ⟨fun o ho vs Rs f' S' w hp hf hx hS hR hs => ?_⟩
      obtain rfl := Option.some.inj ho
      obtain ⟨hv2, hR2⟩ := (spe hA.2 hs7_2 (hp 2 (by kernel_rfl)))
      rw [hA.1, hs7_3]
      refine And.intro (fun a ha => (want_none rfl a ha).trans hon.symm) (And.intro (fun _ => ?_) (fun h => by rw [hon] at h; cases h))
      have hF := fr_next (rfl) ((hf 2 13 (by kernel_rfl) rfl).trans hv2)
      refine ls_fr hF ?_
      refine ls_val (v := .pointer (some ⟨pg0, (0 + 4), none⟩)) rfl rfl (by kernel_rfl) (fun w => by kernel_rfl) ?_
      exact ls_fin s0 (.pointer (some ⟨pg0, (0 + 4), none⟩)) (congrArg (fun z => upd z 14 _) hF.symm) ⟨rfl, rfl⟩ (sub_nil _)
    obtain ⟨s7_4, hs7_4⟩ : ∃ z : Value → Sto → Prop, z = (fun v R => v = .slice A0_3 v0.2.2.2.1.length c0_3 ∧ R = s0) := ⟨_, rfl⟩
    refine have_op (l := [_, _, _, _, _, _, _, _, _, _]) alloc_Alloc_Give.tab5 4 4 (fun sp => sp 4 = s7_4 ∧ sp 3 = s7_3) (fun sp on hA hon => ?_) (fun ops7_4 => ?_)
    · refine ⟨fun o ho vs Rs f' S' w hp hf hx hS hR hs => ?_⟩
      obtain rfl := Option.some.inj ho
      obtain ⟨hv3, hR3⟩ := (spe hA.2 hs7_3 (hp 3 (by kernel_rfl)))
      rw [hA.1, hs7_4]
      refine And.intro (fun a ha => (want_none rfl a ha).trans hon.symm) (And.intro (fun _ => ?_) (fun h => by rw [hon] at h; cases h))
      have hF := fr_next (rfl) ((hf 3 14 (by kernel_rfl) rfl).trans hv3)
      refine ls_fr hF ?_
      refine ls_load (a0 := ⟨pg0, (0 + 4), none⟩) (v := .slice A0_3 v0.2.2.2.1.length c0_3) (de := (TypeDesc.slice 24)) rfl rfl (by kernel_rfl) rfl (by kernel_rfl) (by kernel_rfl) (by kernel_rfl) (fun w1 hs1 => cell_step hs1.below.bw (hs.var (k := 0) ((hS 0 (by kernel_rfl)).trans (by exact rfl)) (Sub4.trans (Sub4.all _) (Sub4.skip (n := 2) (len_app (len1 _) (len1 _)) (Sub4.skip (n := 1) (len1 _) (Sub4.skip (n := 1) (len1 _) (Sub4.head _ _))))))) ?_
      exact ls_fin s0 (.slice A0_3 v0.2.2.2.1.length c0_3) (congrArg (fun z => upd z 15 _) hF.symm) ⟨rfl, rfl⟩ (sub_nil _)
    obtain ⟨s7_5, hs7_5⟩ : ∃ z : Value → Sto → Prop, z = (fun v R => v = .agg ⟨([Value.int .i64 a1.1] ++ [Value.int .i64 a1.2])⟩ ∧ R = s0) := ⟨_, rfl⟩
    refine have_op (l := [_, _, _, _, _, _, _, _, _, _]) alloc_Alloc_Give.tab5 4 5 (fun sp => sp 5 = s7_5) (fun sp on hA hon => ?_) (fun ops7_5 => ?_)
    · refine ⟨fun o ho vs Rs f' S' w hp hf hx hS hR hs => ?_⟩
      obtain rfl := Option.some.inj ho
      rw [hA, hs7_5]
      refine And.intro (fun a ha => (want_none rfl a ha).trans hon.symm) (And.intro (fun _ => ?_) (fun h => by rw [hon] at h; cases h))
      have hF := fr_next (rfl) ((hx 3 (by kernel_rfl)).trans (by kernel_rfl : (_ : Value) = .pointer (some ⟨g1, 0, none⟩)))
      refine ls_fr hF ?_
      refine ls_loadagg (a := ⟨g1, 0, none⟩) (sub := ([Value.int .i64 a1.1] ++ [Value.int .i64 a1.2])) rfl rfl (by kernel_rfl) rfl (by kernel_rfl) (by kernel_rfl) (by kernel_rfl) (len_app (len1 _) (len1 _)) (fun w1 hs1 => Rd.step (hs.vars (k := 3) ((hS 3 (by kernel_rfl)).trans (by exact rfl)) (Sub4.all _)) hs1.below.bw) ?_
      exact ls_fin s0 (.agg ⟨([Value.int .i64 a1.1] ++ [Value.int .i64 a1.2])⟩) (congrArg (fun z => upd z 16 _) hF.symm) ⟨rfl, rfl⟩ (sub_nil _)
    obtain ⟨t8, hc9, H⟩ := bind_some H
    obtain ⟨s7_6, hs7_6⟩ : ∃ z : Value → Sto → Prop, z = (fun v R => ∃ x10 : (Option Addr × Nat), v = .slice x10.1 t8.length x10.2 ∧ R = stl [Ck.sl T24 x10.1 x10.2 t8]) := ⟨_, rfl⟩
    refine have_op (l := [_, _, _, _, _, _, _, _, _, _]) alloc_Alloc_Give.tab5 4 6 (fun sp => sp 6 = s7_6 ∧ sp 4 = s7_4 ∧ sp 5 = s7_5) (fun sp on hA hon => ?_) (fun ops7_6 => ?_)
    · refine ⟨fun o ho vs Rs f' S' w hp hf hx hS hR hs => ?_⟩
      obtain rfl := Option.some.inj ho
      obtain ⟨hv4, hR4⟩ := (spe hA.2.1 hs7_4 (hp 4 (by kernel_rfl)))
      obtain ⟨hv5, hR5⟩ := (spe hA.2.2 hs7_5 (hp 5 (by kernel_rfl)))
      rw [hA.1, hs7_6]
      refine And.intro (fun a ha => (want_none rfl a ha).trans hon.symm) (And.intro (fun _ => ?_) (fun h => by rw [hon] at h; cases h))
      have hF := fr_next (fr_next (rfl) ((hf 4 15 (by kernel_rfl) rfl).trans hv4)) ((hf 5 16 (by kernel_rfl) rfl).trans hv5)
      refine ls_fr hF ?_
      refine ls_call (fid := 13) (vals := #[.slice A0_3 v0.2.2.2.1.length c0_3, .agg ⟨([Value.int .i64 a1.1] ++ [Value.int .i64 a1.2])⟩]) (X := (Option Addr × Nat)) (fun x => .slice x.1 t8.length x.2) (fun x => stl [Ck.sl T24 x.1 x.2 t8]) 0 rfl rfl (by kernel_rfl) (fun w => by kernel_rfl) (fun w1 hs1 => extent_Add.calls k A0_3 c0_3 v0.2.2.2.1 a1 t8 (bw w1) (St.refl w1) (Rd.ro (Rd.step (hs.old R0_3) hs1.below.bw)) C0_3 hc9) ?_
      intro x10
      exact ls_fin (stl [Ck.sl T24 x10.1 x10.2 t8]) (.slice x10.1 t8.length x10.2) (congrArg (fun z => upd z 17 _) hF.symm) ⟨x10, rfl, rfl⟩ (sub_join _)
    refine cs_draw alloc_Alloc_Give.tab5 7 4 (spl [s7_0, s7_1, s7_2, s7_3, s7_4, s7_5, s7_6]) (onl [true, true, true, true, true, true, true]) (by kernel_rfl) (by kernel_rfl) (by kernel_rfl) (by kernel_rfl) (rs := [_, _, _]) rfl (by kernel_rfl) (by kernel_rfl) (all_snoc (all_snoc (all_snoc (all_snoc (all_snoc (all_snoc (all_snoc (all_nil) (ops7_0 _ _ rfl rfl)) (ops7_1 _ _ rfl rfl)) (ops7_2 _ _ ⟨rfl, rfl⟩ rfl)) (ops7_3 _ _ ⟨rfl, rfl⟩ rfl)) (ops7_4 _ _ ⟨rfl, rfl⟩ rfl)) (ops7_5 _ _ rfl rfl)) (ops7_6 _ _ ⟨rfl, rfl, rfl⟩ rfl)) ?_
    intro vs Rs f' S' hp hf hx hS hR
    obtain ⟨hv0, hR0⟩ := (spe rfl hs7_0 (hp 0 (by kernel_rfl)))
    obtain ⟨x10, hv6, hR6⟩ := (spe rfl hs7_6 (hp 6 (by kernel_rfl)))
    have hT6_0 := (hR 6 0 (by kernel_rfl) (by decide)).trans (congrFun hR6 0)
    refine ls_fr (F := upd (upd (upd f' 5 (.int .i64 t2.1)) 11 (.pointer (some ⟨pg0, 0, none⟩))) 17 (.slice x10.1 t8.length x10.2)) (fr_next (fr_next (fr_next (rfl) ((hx 5 (by kernel_rfl)).trans (by kernel_rfl : (_ : Value) = .int .i64 t2.1))) ((hf 0 11 (by kernel_rfl) rfl).trans hv0)) ((hf 6 17 (by kernel_rfl) rfl).trans hv6)) ?_
    refine ls_sub (sput (sput (sput (sput s0 0 (some (Ck.var 66 pg0 ((([Value.int .i64 v0.1.1] ++ [Value.int .i64 v0.1.2]) ++ ([Value.bool v0.2.1] ++ ([Value.int .i64 v0.2.2.1] ++ ([Value.slice A0_3 v0.2.2.2.1.length c0_3] ++ ([Value.map (some r0_4)] ++ [Value.slice A0_5 v0.2.2.2.2.2.length c0_5]))))))))) 1 (some (Ck.m1 r0_4 t2.2.1 x4.1 t2.2.2.length x4.2))) 2 (some (Ck.sl T24 x4.1 x4.2 t2.2.2))) 52 (some (Ck.sl T24 x10.1 x10.2 t8))) (sub_put (by exact hT6_0) (sub_put ((hS 2 (by kernel_rfl)).trans (by exact rfl)) (sub_put ((hS 1 (by kernel_rfl)).trans (by exact rfl)) (sub_put ((hS 0 (by kernel_rfl)).trans (by exact rfl)) (sub_nil _))))) ?_
    refine ls_val (v := .pointer (some ⟨pg0, 0, none⟩)) rfl rfl (by kernel_rfl) (fun w => by kernel_rfl) ?_
    refine ls_val (v := .pointer (some ⟨pg0, (0 + 4), none⟩)) rfl rfl (by kernel_rfl) (fun w => by kernel_rfl) ?_
    refine ls_storec (g := pg0) (off := (0 + 4)) (v := .slice x10.1 t8.length x10.2) (vs := [Value.slice x10.1 t8.length x10.2]) (cs := (([Value.int .i64 v0.1.1] ++ [Value.int .i64 v0.1.2]) ++ ([Value.bool v0.2.1] ++ ([Value.int .i64 v0.2.2.1] ++ ([Value.slice A0_3 v0.2.2.2.1.length c0_3] ++ ([Value.map (some r0_4)] ++ [Value.slice A0_5 v0.2.2.2.2.2.length c0_5])))))) (ty := 66) 0 rfl rfl rfl (by kernel_rfl) (by kernel_rfl) (by kernel_rfl) (by exact rfl) (by kernel_rfl) (len1 _) (one_cons rfl one_nil) (hl_of (Sub4.trans (Sub4.all _) (Sub4.skip (n := 2) (len_app (len1 _) (len1 _)) (Sub4.skip (n := 1) (len1 _) (Sub4.skip (n := 1) (len1 _) (Sub4.head _ _))))) (len_eq (len1 _) (len1 _))) (cs' := (([Value.int .i64 v0.1.1] ++ [Value.int .i64 v0.1.2]) ++ ([Value.bool v0.2.1] ++ ([Value.int .i64 v0.2.2.1] ++ ([Value.slice x10.1 t8.length x10.2] ++ ([Value.map (some r0_4)] ++ [Value.slice A0_5 v0.2.2.2.2.2.length c0_5])))))) (splc_in (Sub4.all _) (splc_skip (n := 2) (len_app (len1 _) (len1 _)) (splc_skip (n := 1) (len1 _) (splc_skip (n := 1) (len1 _) (splc_head (len_eq (len1 _) (len1 _)))))) (splc_all (len_eq (len_app (len_app (len1 _) (len1 _)) (len_app (len1 _) (len_app (len1 _) (len_app (len1 _) (len_app (len1 _) (len1 _)))))) (len_app (len_app (len1 _) (len1 _)) (len_app (len1 _) (len_app (len1 _) (len_app (len1 _) (len_app (len1 _) (len1 _)))))))) (hl_of (Sub4.skip (n := 2) (len_app (len1 _) (len1 _)) (Sub4.skip (n := 1) (len1 _) (Sub4.skip (n := 1) (len1 _) (Sub4.head _ _)))) (len_eq (len1 _) (len1 _)))) ?_
    refine ls_end ?_
    refine qn_then ?_
    refine cs_seq ?_
    refine cs_region (l := [_, _]) ?_
    refine ls_val (v := .int .i64 t2.1) rfl rfl (by kernel_rfl) (fun w => by kernel_rfl) ?_
    refine ls_val (v := .int .i64 t2.1) rfl rfl (by kernel_rfl) (fun w => by kernel_rfl) ?_
    refine ls_end ?_
    refine qn_then ?_
    refine cs_ret' ?_
    refine qr_freeze (T := T24) (A := x10.1) (c := x10.2) (l := t8) 52 (by exact rfl) ?_
    intro bs11 hle12 hok13 fR14 fC15
    obtain rfl := Option.some.inj H
    refine qr_res (rs := [_]) rfl (fun w' hs => ⟨[.int .i64 t2.1], (res_tmp (by kernel_rfl) (.nil)), bs11, hle12, ((x10.1, x10.2), (A0_5, c0_5), (x4.1, x4.2)), rfl, ⟨⟨fR14, fC15⟩, ⟨(Ro.mono hok13 hle12 R0_5), C0_5⟩⟩, hs.pick (ts := [0, 1, 2]) (cs := [Ck.var 66 pg0 ((([Value.int .i64 v0.1.1] ++ [Value.int .i64 v0.1.2]) ++ ([Value.bool v0.2.1] ++ ([Value.int .i64 v0.2.2.1] ++ ([Value.slice x10.1 t8.length x10.2] ++ ([Value.map (some r0_4)] ++ [Value.slice A0_5 v0.2.2.2.2.2.length c0_5])))))), Ck.m1 r0_4 t2.2.1 x4.1 t2.2.2.length x4.2, Ck.sl T24 x4.1 x4.2 t2.2.2]) ⟨by exact rfl, by exact rfl, by exact rfl, trivial⟩ (by decide)⟩)
  · replace H := ite_f q5 H
    refine cs_know (c := false) (dec_f q5) 10 (by kernel_rfl) ?_
    refine cs_false (by kernel_rfl) ?_
    refine cs_skip' ?_
    refine qn_then ?_
    refine cs_seq ?_
    refine cs_region (l := [_, _]) ?_
    refine ls_val (v := .int .i64 t2.1) rfl rfl (by kernel_rfl) (fun w => by kernel_rfl) ?_
    refine ls_val (v := .int .i64 t2.1) rfl rfl (by kernel_rfl) (fun w => by kernel_rfl) ?_
    refine ls_end ?_
    refine qn_then ?_
    refine cs_ret' ?_
    obtain rfl := Option.some.inj H
    refine qr_res (rs := [_]) rfl (fun w' hs => ⟨[.int .i64 t2.1], (res_tmp (by kernel_rfl) (.nil)), b, (Bs.le.refl b), ((A0_3, c0_3), (A0_5, c0_5), (x4.1, x4.2)), rfl, ⟨⟨R0_3, C0_3⟩, ⟨R0_5, C0_5⟩⟩, hs.pick (ts := [0, 1, 2]) (cs := [Ck.var 66 pg0 ((([Value.int .i64 v0.1.1] ++ [Value.int .i64 v0.1.2]) ++ ([Value.bool v0.2.1] ++ ([Value.int .i64 v0.2.2.1] ++ ([Value.slice A0_3 v0.2.2.2.1.length c0_3] ++ ([Value.map (some r0_4)] ++ [Value.slice A0_5 v0.2.2.2.2.2.length c0_5])))))), Ck.m1 r0_4 t2.2.1 x4.1 t2.2.2.length x4.2, Ck.sl T24 x4.1 x4.2 t2.2.2]) ⟨by exact rfl, by exact rfl, by exact rfl, trivial⟩ (by decide)⟩)

/-! ### shadowbox/shadowboxlaw10.AllocMarks$1: function 34 -/
def shadowboxlaw10_AllocMarks_1.jo2 (l1 : List Int) (x4_1 : Int) (m0_1 : ((Int × Int) × Bool × Int × (List (Int × Int)) × Unit × (List (Int × Int)))) (m1_1 : (Bool × (List (Int × Int)))) (k1 : Nat) (lo1 : Int → (((Int × Int) × Bool × Int × (List (Int × Int)) × Unit × (List (Int × Int)))) → ((Bool × (List (Int × Int)))) → Option (((Int × Int) × Bool × Int × (List (Int × Int)) × Unit × (List (Int × Int))) × (Bool × (List (Int × Int))))) : Option (((Int × Int) × Bool × Int × (List (Int × Int)) × Unit × (List (Int × Int))) × (Bool × (List (Int × Int)))) := (if 0 ≤ x4_1 then (if x4_1 < (l1.length : Int) then lt (bits .and .i64 ((l1).getD (x4_1).toNat (0 : Int)) (7 : Int)) fun y5 => (alloc_Alloc_Take.f k1 (m0_1.1, m0_1.2.1, m0_1.2.2.1, m0_1.2.2.2.1, (), m0_1.2.2.2.2.2) (m1_1.1, m1_1.2) (IntKind.wrap .i64 ((1 : Int) + y5)) true).bind fun t7 => lt (IntKind.wrap .i64 (t7.1 + (IntKind.wrap .i64 ((1 : Int) + y5)))) fun y18 => (if t7.2.1 = (0 : Int) then lt (bits .and .i64 ((l1).getD (x4_1).toNat (0 : Int)) (8 : Int)) fun y24 => (if y24 = (0 : Int) then lt (bits .and .i64 ((l1).getD (x4_1).toNat (0 : Int)) (16 : Int)) fun y29 => (if y29 = (0 : Int) then lo1 (IntKind.wrap .i64 (x4_1 + (1 : Int))) (t7.2.2.1, t7.2.2.2.1, t7.2.2.2.2.1, t7.2.2.2.2.2.1, (), t7.2.2.2.2.2.2.2) (m1_1.1, m1_1.2) else (alloc_Alloc_Give.f k1 (t7.2.2.1, t7.2.2.2.1, t7.2.2.2.2.1, t7.2.2.2.2.2.1, (), t7.2.2.2.2.2.2.2) (m1_1.1, m1_1.2) (t7.1, y18)).bind fun t32 => lo1 (IntKind.wrap .i64 (x4_1 + (1 : Int))) (t32.2.1.1, t32.2.1.2.1, t32.2.1.2.2.1, t32.2.1.2.2.2.1, (), t32.2.1.2.2.2.2.2) (t32.2.2.1, t32.2.2.2)) else (alloc_Alloc_Later.f k1 (t7.2.2.1, t7.2.2.2.1, t7.2.2.2.2.1, t7.2.2.2.2.2.1, (), t7.2.2.2.2.2.2.2) (m1_1.1, m1_1.2) (t7.1, y18)).bind fun t43 => lo1 (IntKind.wrap .i64 (x4_1 + (1 : Int))) (t7.2.2.1, t7.2.2.2.1, t7.2.2.2.2.1, t7.2.2.2.2.2.1, (), t7.2.2.2.2.2.2.2) (t43.2.1, t43.2.2)) else lo1 (IntKind.wrap .i64 (x4_1 + (1 : Int))) (t7.2.2.1, t7.2.2.2.1, t7.2.2.2.2.1, t7.2.2.2.2.2.1, (), t7.2.2.2.2.2.2.2) (m1_1.1, m1_1.2)) else none) else none)
def shadowboxlaw10_AllocMarks_1.lo1 (l1 : List Int) : Nat → Int → (((Int × Int) × Bool × Int × (List (Int × Int)) × Unit × (List (Int × Int)))) → ((Bool × (List (Int × Int)))) → Option (((Int × Int) × Bool × Int × (List (Int × Int)) × Unit × (List (Int × Int))) × (Bool × (List (Int × Int))))
  | 0, _, _, _ => none
  | k1 + 1, x4_1, m0_1, m1_1 => (if x4_1 < (l1.length : Int) then (if x4_1 < (40 : Int) then (shadowboxlaw10_AllocMarks_1.jo2 l1 x4_1 m0_1 m1_1 k1 (shadowboxlaw10_AllocMarks_1.lo1 l1 k1)) else some ((m0_1.1, m0_1.2.1, m0_1.2.2.1, m0_1.2.2.2.1, (), m0_1.2.2.2.2.2), (m1_1.1, m1_1.2))) else some ((m0_1.1, m0_1.2.1, m0_1.2.2.1, m0_1.2.2.2.1, (), m0_1.2.2.2.2.2), (m1_1.1, m1_1.2)))
def shadowboxlaw10_AllocMarks_1.f (k : Nat) (v0 : ((Int × Int) × Bool × Int × (List (Int × Int)) × Unit × (List (Int × Int)))) (w0_4 : (Bool × (List (Int × Int)))) (l1 : List Int) : Option (((Int × Int) × Bool × Int × (List (Int × Int)) × Unit × (List (Int × Int))) × (Bool × (List (Int × Int)))) :=
  shadowboxlaw10_AllocMarks_1.lo1 l1 k (0 : Int) (v0.1, v0.2.1, v0.2.2.1, v0.2.2.2.1, (), v0.2.2.2.2.2) (w0_4.1, w0_4.2)
set_option maxRecDepth 100000 in
set_option maxHeartbeats 4000000 in
theorem shadowboxlaw10_AllocMarks_1.calls (k : Nat) (pg0 : Nat) (A0_3 : Option Addr) (c0_3 : Nat) (r0_4 : Nat) (A0_5 : Option Addr) (c0_5 : Nat) (v0 : ((Int × Int) × Bool × Int × (List (Int × Int)) × Unit × (List (Int × Int)))) (A0_4 : Option Addr) (c0_4 : Nat) (w0_4 : (Bool × (List (Int × Int)))) (A1 : Option Addr) (c1 : Nat) (l1 : List Int) (r : ((Int × Int) × Bool × Int × (List (Int × Int)) × Unit × (List (Int × Int))) × (Bool × (List (Int × Int)))) (b : Bs) (hs0 : St b (stl [Ck.var 66 pg0 ((([Value.int .i64 v0.1.1] ++ [Value.int .i64 v0.1.2]) ++ ([Value.bool v0.2.1] ++ ([Value.int .i64 v0.2.2.1] ++ ([Value.slice A0_3 v0.2.2.2.1.length c0_3] ++ ([Value.map (some r0_4)] ++ [Value.slice A0_5 v0.2.2.2.2.2.length c0_5])))))), Ck.m1 r0_4 w0_4.1 A0_4 w0_4.2.length c0_4, Ck.sl T24 A0_4 c0_4 w0_4.2]) b.w) (R0_3 : Ro b A0_3 (em T24 v0.2.2.2.1)) (C0_3 : v0.2.2.2.1.length ≤ c0_3) (R0_5 : Ro b A0_5 (em T24 v0.2.2.2.2.2)) (C0_5 : v0.2.2.2.2.2.length ≤ c0_5) (R1 : Ro b A1 (em (Ec.int 3 .i64) l1)) (C1 : l1.length ≤ c1) (H : shadowboxlaw10_AllocMarks_1.f k v0 w0_4 l1 = some r) :
    Calls Try.prog 34 #[.pointer (some ⟨pg0, 0, none⟩), .slice A1 l1.length c1] b.w fun e w' => ∃ b', b.le b' ∧ ∃ x : (Option Addr × Nat) × (Option Addr × Nat) × (Option Addr × Nat), e = .returned (.tuple #[]) ∧ ((Ro b' x.1.1 (em T24 r.1.2.2.2.1) ∧ r.1.2.2.2.1.length ≤ x.1.2) ∧ (Ro b' x.2.1.1 (em T24 r.1.2.2.2.2.2) ∧ r.1.2.2.2.2.2.length ≤ x.2.1.2)) ∧ St b' (stl [Ck.var 66 pg0 ((([Value.int .i64 r.1.1.1] ++ [Value.int .i64 r.1.1.2]) ++ ([Value.bool r.1.2.1] ++ ([Value.int .i64 r.1.2.2.1] ++ ([Value.slice x.1.1 r.1.2.2.2.1.length x.1.2] ++ ([Value.map (some r0_4)] ++ [Value.slice x.2.1.1 r.1.2.2.2.2.2.length x.2.1.2])))))), Ck.m1 r0_4 r.2.1 x.2.2.1 r.2.2.length x.2.2.2, Ck.sl T24 x.2.2.1 x.2.2.2 r.2.2]) w' := by
  unfold shadowboxlaw10_AllocMarks_1.f at H
  refine enterb (n := 62) Try.func34 rfl (by kernel_rfl) (by kernel_rfl) hs0 ?_
  refine cs_sub (sput (sput (sput s0 0 (some (Ck.var 66 pg0 ((([Value.int .i64 v0.1.1] ++ [Value.int .i64 v0.1.2]) ++ ([Value.bool v0.2.1] ++ ([Value.int .i64 v0.2.2.1] ++ ([Value.slice A0_3 v0.2.2.2.1.length c0_3] ++ ([Value.map (some r0_4)] ++ [Value.slice A0_5 v0.2.2.2.2.2.length c0_5]))))))))) 1 (some (Ck.m1 r0_4 w0_4.1 A0_4 w0_4.2.length c0_4))) 2 (some (Ck.sl T24 A0_4 c0_4 w0_4.2))) (sub_put (by exact rfl) (sub_put (by exact rfl) (sub_put (by exact rfl) (sub_nil _)))) ?_
  refine cs_seq ?_
  refine cs_region (l := [_]) ?_
  refine ls_val (v := .int .i64 (0 : Int)) rfl rfl (by kernel_rfl) (fun w => by kernel_rfl) ?_
  refine ls_end ?_
  refine qn_then ?_
  refine cs_block ?_
  refine cs_sub (sput (sput (sput s0 0 (some (Ck.var 66 pg0 ((([Value.int .i64 v0.1.1] ++ [Value.int .i64 v0.1.2]) ++ ([Value.bool v0.2.1] ++ ([Value.int .i64 v0.2.2.1] ++ ([Value.slice A0_3 v0.2.2.2.1.length c0_3] ++ ([Value.map (some r0_4)] ++ [Value.slice A0_5 v0.2.2.2.2.2.length c0_5]))))))))) 1 (some (Ck.m1 r0_4 w0_4.1 A0_4 w0_4.2.length c0_4))) 2 (some (Ck.sl T24 A0_4 c0_4 w0_4.2))) (sub_put (by exact rfl) (sub_put (by exact rfl) (sub_put (by exact rfl) (sub_nil _)))) ?_
  refine cs_loopb (fun kk bh1 f S => ∃ (fR : Fr) (x4_1 : Int) (Am0_1_3 : Option Addr) (cm0_1_3 : Nat) (Am0_1_5 : Option Addr) (cm0_1_5 : Nat) (m0_1 : ((Int × Int) × Bool × Int × (List (Int × Int)) × Unit × (List (Int × Int)))) (Am1_1_1 : Option Addr) (cm1_1_1 : Nat) (m1_1 : (Bool × (List (Int × Int)))), f = upd (upd (upd fR 0 (.pointer (some ⟨pg0, 0, none⟩))) 1 (.slice A1 l1.length c1)) 4 (.int .i64 x4_1) ∧ S = sput (sput (sput s0 0 (some (Ck.var 66 pg0 ((([Value.int .i64 m0_1.1.1] ++ [Value.int .i64 m0_1.1.2]) ++ ([Value.bool m0_1.2.1] ++ ([Value.int .i64 m0_1.2.2.1] ++ ([Value.slice Am0_1_3 m0_1.2.2.2.1.length cm0_1_3] ++ ([Value.map (some r0_4)] ++ [Value.slice Am0_1_5 m0_1.2.2.2.2.2.length cm0_1_5]))))))))) 1 (some (Ck.m1 r0_4 m1_1.1 Am1_1_1 m1_1.2.length cm1_1_1))) 2 (some (Ck.sl T24 Am1_1_1 cm1_1_1 m1_1.2)) ∧ Ro bh1 Am0_1_3 (em T24 m0_1.2.2.2.1) ∧ m0_1.2.2.2.1.length ≤ cm0_1_3 ∧ Ro bh1 Am0_1_5 (em T24 m0_1.2.2.2.2.2) ∧ m0_1.2.2.2.2.2.length ≤ cm0_1_5 ∧ b.le bh1 ∧ Ro bh1 A1 (em (Ec.int 3 .i64) l1) ∧ shadowboxlaw10_AllocMarks_1.lo1 l1 kk x4_1 m0_1 m1_1 = some r) k ?_ ?_ ?_
  · exact ⟨_, (0 : Int), A0_3, c0_3, A0_5, c0_5, (v0.1, v0.2.1, v0.2.2.1, v0.2.2.2.1, (), v0.2.2.2.2.2), A0_4, c0_4, (w0_4.1, w0_4.2), fr_next (fr_next (fr_next (rfl) (by kernel_rfl)) (by kernel_rfl)) (by kernel_rfl), rfl, R0_3, C0_3, R0_5, C0_5, (Bs.le.refl b), R1, H⟩
  · rintro bh1 f S ⟨fr1, x4_1, Am0_1_3, cm0_1_3, Am0_1_5, cm0_1_5, m0_1, Am1_1_1, cm1_1_1, m1_1, rfl, rfl, Rm0_1_3, Cm0_1_3, Rm0_1_5, Cm0_1_5, hleh1, Rb1_1, H⟩; cases H
  · rintro k1 bh1 f S ⟨fr1, x4_1, Am0_1_3, cm0_1_3, Am0_1_5, cm0_1_5, m0_1, Am1_1_1, cm1_1_1, m1_1, rfl, rfl, Rm0_1_3, Cm0_1_3, Rm0_1_5, Cm0_1_5, hleh1, Rb1_1, H⟩
    replace H : ((if x4_1 < (l1.length : Int) then (if x4_1 < (40 : Int) then (shadowboxlaw10_AllocMarks_1.jo2 l1 x4_1 m0_1 m1_1 k1 (shadowboxlaw10_AllocMarks_1.lo1 l1 k1)) else some ((m0_1.1, m0_1.2.1, m0_1.2.2.1, m0_1.2.2.2.1, (), m0_1.2.2.2.2.2), (m1_1.1, m1_1.2))) else some ((m0_1.1, m0_1.2.1, m0_1.2.2.1, m0_1.2.2.2.1, (), m0_1.2.2.2.2.2), (m1_1.1, m1_1.2)))) = some r := H
    refine cs_cut (fun f S => ∃ (fR : Fr), f = upd (upd (upd fR 0 (.pointer (some ⟨pg0, 0, none⟩))) 1 (.slice A1 l1.length c1)) 4 (.int .i64 x4_1) ∧ S = sput (sput (sput s0 0 (some (Ck.var 66 pg0 ((([Value.int .i64 m0_1.1.1] ++ [Value.int .i64 m0_1.1.2]) ++ ([Value.bool m0_1.2.1] ++ ([Value.int .i64 m0_1.2.2.1] ++ ([Value.slice Am0_1_3 m0_1.2.2.2.1.length cm0_1_3] ++ ([Value.map (some r0_4)] ++ [Value.slice Am0_1_5 m0_1.2.2.2.2.2.length cm0_1_5]))))))))) 1 (some (Ck.m1 r0_4 m1_1.1 Am1_1_1 m1_1.2.length cm1_1_1))) 2 (some (Ck.sl T24 Am1_1_1 cm1_1_1 m1_1.2)) ∧ shadowboxlaw10_AllocMarks_1.jo2 l1 x4_1 m0_1 m1_1 k1 (shadowboxlaw10_AllocMarks_1.lo1 l1 k1) = some r) ?_ ?_
    · skip
      refine cs_seq ?_
      refine cs_region (l := [_, _, _, _, _, _, _, _]) ?_
      refine ls_val (v := .int .i64 x4_1) rfl rfl (by kernel_rfl) (fun w => by kernel_rfl) ?_
      refine ls_val (v := .slice A1 l1.length c1) rfl rfl (by kernel_rfl) (fun w => by kernel_rfl) ?_
      refine ls_val (v := .int .i64 (l1.length : Int)) rfl rfl (by kernel_rfl) (fun w => by kernel_rfl) ?_
      refine ls_val (v := .bool (decide (x4_1 < (l1.length : Int)))) rfl rfl (by kernel_rfl) (fun w => by kernel_rfl) ?_
      refine ls_val (v := .bool (decide (x4_1 < (l1.length : Int)))) rfl rfl (by kernel_rfl) (fun w => by kernel_rfl) ?_
      by_cases q46 : x4_1 < (l1.length : Int)
      · replace H := ite_t q46 H
        refine ls_know (c := true) (dec_t q46) 13 (by kernel_rfl) ?_
        refine ls_on (j := 4) (t := 13) (b := true) rfl rfl (by kernel_rfl) (by kernel_rfl) ?_
        refine ls_val (v := .int .i64 x4_1) rfl rfl (by kernel_rfl) (fun w => by kernel_rfl) ?_
        refine ls_on (j := 4) (t := 13) (b := true) rfl rfl (by kernel_rfl) (by kernel_rfl) ?_
        refine ls_val (v := .bool (decide (x4_1 < (40 : Int)))) rfl rfl (by kernel_rfl) (fun w => by kernel_rfl) ?_
        refine ls_val (v := .bool (decide (x4_1 < (40 : Int)))) rfl rfl (by kernel_rfl) (fun w => by kernel_rfl) ?_
        refine ls_end ?_
        refine qn_then ?_
        by_cases q47 : x4_1 < (40 : Int)
        · replace H := ite_t q47 H
          refine cs_know (c := true) (dec_t q47) 16 (by kernel_rfl) ?_
          refine cs_true (by kernel_rfl) ?_
          refine cs_skip' ?_
          refine qn_meet (sput (sput (sput s0 0 (some (Ck.var 66 pg0 ((([Value.int .i64 m0_1.1.1] ++ [Value.int .i64 m0_1.1.2]) ++ ([Value.bool m0_1.2.1] ++ ([Value.int .i64 m0_1.2.2.1] ++ ([Value.slice Am0_1_3 m0_1.2.2.2.1.length cm0_1_3] ++ ([Value.map (some r0_4)] ++ [Value.slice Am0_1_5 m0_1.2.2.2.2.2.length cm0_1_5]))))))))) 1 (some (Ck.m1 r0_4 m1_1.1 Am1_1_1 m1_1.2.length cm1_1_1))) 2 (some (Ck.sl T24 Am1_1_1 cm1_1_1 m1_1.2))) ⟨_, fr_next (fr_next (fr_next (rfl) (by kernel_rfl)) (by kernel_rfl)) (by kernel_rfl), rfl, H⟩ (sub_put (by exact rfl) (sub_put (by exact rfl) (sub_put (by exact rfl) (sub_nil _))))
        · replace H := ite_f q47 H
          refine cs_know (c := false) (dec_f q47) 16 (by kernel_rfl) ?_
          refine cs_false (by kernel_rfl) ?_
          refine cs_exit' ?_
          refine qx_then ?_
          refine qx_then ?_
          refine qx_same ?_
          obtain rfl := Option.some.inj H
          refine qn_res (rs := []) rfl (fun w' hs => ⟨[], (.nil), bh1, hleh1, ((Am0_1_3, cm0_1_3), (Am0_1_5, cm0_1_5), (Am1_1_1, cm1_1_1)), rfl, ⟨⟨Rm0_1_3, Cm0_1_3⟩, ⟨Rm0_1_5, Cm0_1_5⟩⟩, hs.pick (ts := [0, 1, 2]) (cs := [Ck.var 66 pg0 ((([Value.int .i64 m0_1.1.1] ++ [Value.int .i64 m0_1.1.2]) ++ ([Value.bool m0_1.2.1] ++ ([Value.int .i64 m0_1.2.2.1] ++ ([Value.slice Am0_1_3 m0_1.2.2.2.1.length cm0_1_3] ++ ([Value.map (some r0_4)] ++ [Value.slice Am0_1_5 m0_1.2.2.2.2.2.length cm0_1_5])))))), Ck.m1 r0_4 m1_1.1 Am1_1_1 m1_1.2.length cm1_1_1, Ck.sl T24 Am1_1_1 cm1_1_1 m1_1.2]) ⟨by exact rfl, by exact rfl, by exact rfl, trivial⟩ (by decide)⟩)
      · replace H := ite_f q46 H
        refine ls_know (c := false) (dec_f q46) 13 (by kernel_rfl) ?_
        refine ls_off (j := 4) (t := 13) (b := true) (c := false) rfl rfl (by kernel_rfl) (by kernel_rfl) rfl rfl (by kernel_rfl) ?_
        refine ls_off (j := 4) (t := 13) (b := true) (c := false) rfl rfl (by kernel_rfl) (by kernel_rfl) rfl rfl (by kernel_rfl) ?_
        refine ls_val (v := .bool false) rfl rfl (by kernel_rfl) (fun w => by kernel_rfl) ?_
        refine ls_end ?_
        refine qn_then ?_
        refine cs_false (by kernel_rfl) ?_
        refine cs_exit' ?_
        refine qx_then ?_
        refine qx_then ?_
        refine qx_same ?_
        obtain rfl := Option.some.inj H
        refine qn_res (rs := []) rfl (fun w' hs => ⟨[], (.nil), bh1, hleh1, ((Am0_1_3, cm0_1_3), (Am0_1_5, cm0_1_5), (Am1_1_1, cm1_1_1)), rfl, ⟨⟨Rm0_1_3, Cm0_1_3⟩, ⟨Rm0_1_5, Cm0_1_5⟩⟩, hs.pick (ts := [0, 1, 2]) (cs := [Ck.var 66 pg0 ((([Value.int .i64 m0_1.1.1] ++ [Value.int .i64 m0_1.1.2]) ++ ([Value.bool m0_1.2.1] ++ ([Value.int .i64 m0_1.2.2.1] ++ ([Value.slice Am0_1_3 m0_1.2.2.2.1.length cm0_1_3] ++ ([Value.map (some r0_4)] ++ [Value.slice Am0_1_5 m0_1.2.2.2.2.2.length cm0_1_5])))))), Ck.m1 r0_4 m1_1.1 Am1_1_1 m1_1.2.length cm1_1_1, Ck.sl T24 Am1_1_1 cm1_1_1 m1_1.2]) ⟨by exact rfl, by exact rfl, by exact rfl, trivial⟩ (by decide)⟩)
    · rintro f S ⟨fr2, rfl, rfl, H⟩
      replace H : ((if 0 ≤ x4_1 then (if x4_1 < (l1.length : Int) then lt (bits .and .i64 ((l1).getD (x4_1).toNat (0 : Int)) (7 : Int)) fun y5 => (alloc_Alloc_Take.f k1 (m0_1.1, m0_1.2.1, m0_1.2.2.1, m0_1.2.2.2.1, (), m0_1.2.2.2.2.2) (m1_1.1, m1_1.2) (IntKind.wrap .i64 ((1 : Int) + y5)) true).bind fun t7 => lt (IntKind.wrap .i64 (t7.1 + (IntKind.wrap .i64 ((1 : Int) + y5)))) fun y18 => (if t7.2.1 = (0 : Int) then lt (bits .and .i64 ((l1).getD (x4_1).toNat (0 : Int)) (8 : Int)) fun y24 => (if y24 = (0 : Int) then lt (bits .and .i64 ((l1).getD (x4_1).toNat (0 : Int)) (16 : Int)) fun y29 => (if y29 = (0 : Int) then (shadowboxlaw10_AllocMarks_1.lo1 l1 k1) (IntKind.wrap .i64 (x4_1 + (1 : Int))) (t7.2.2.1, t7.2.2.2.1, t7.2.2.2.2.1, t7.2.2.2.2.2.1, (), t7.2.2.2.2.2.2.2) (m1_1.1, m1_1.2) else (alloc_Alloc_Give.f k1 (t7.2.2.1, t7.2.2.2.1, t7.2.2.2.2.1, t7.2.2.2.2.2.1, (), t7.2.2.2.2.2.2.2) (m1_1.1, m1_1.2) (t7.1, y18)).bind fun t32 => (shadowboxlaw10_AllocMarks_1.lo1 l1 k1) (IntKind.wrap .i64 (x4_1 + (1 : Int))) (t32.2.1.1, t32.2.1.2.1, t32.2.1.2.2.1, t32.2.1.2.2.2.1, (), t32.2.1.2.2.2.2.2) (t32.2.2.1, t32.2.2.2)) else (alloc_Alloc_Later.f k1 (t7.2.2.1, t7.2.2.2.1, t7.2.2.2.2.1, t7.2.2.2.2.2.1, (), t7.2.2.2.2.2.2.2) (m1_1.1, m1_1.2) (t7.1, y18)).bind fun t43 => (shadowboxlaw10_AllocMarks_1.lo1 l1 k1) (IntKind.wrap .i64 (x4_1 + (1 : Int))) (t7.2.2.1, t7.2.2.2.1, t7.2.2.2.2.1, t7.2.2.2.2.2.1, (), t7.2.2.2.2.2.2.2) (t43.2.1, t43.2.2)) else (shadowboxlaw10_AllocMarks_1.lo1 l1 k1) (IntKind.wrap .i64 (x4_1 + (1 : Int))) (t7.2.2.1, t7.2.2.2.1, t7.2.2.2.2.1, t7.2.2.2.2.2.1, (), t7.2.2.2.2.2.2.2) (m1_1.1, m1_1.2)) else none) else none)) = some r := H
      refine cs_seq ?_
      refine cs_block ?_
      refine cs_seq ?_
      refine cs_region (l := [_, _, _, _, _, _, _]) ?_
      refine ls_val (v := .slice A1 l1.length c1) rfl rfl (by kernel_rfl) (fun w => by kernel_rfl) ?_
      refine ls_val (v := .int .i64 x4_1) rfl rfl (by kernel_rfl) (fun w => by kernel_rfl) ?_
      obtain ⟨q1, H⟩ := ite_need H
      obtain ⟨q2, H⟩ := ite_need H
      obtain ⟨ad3, hA4⟩ := ido_at (T := (Ec.int 3 .i64)) (l := l1) (i := x4_1) Rb1_1 q1 q2
      refine ls_idxv (Ec.int 3 .i64) (A := A1) (c := c1) (l := l1) (k := .i64) (i := x4_1) (z := 1) (ad := ad3) rfl rfl (by kernel_rfl) hA4 rfl (by kernel_rfl) (by kernel_rfl) (by kernel_rfl) (by kernel_rfl) q1 q2 ?_
      refine ls_load (a0 := (ad3.add ((x4_1).toNat * 1))) (v := .int .i64 ((l1).getD (x4_1).toNat (0 : Int))) (de := (TypeDesc.int .i64)) rfl rfl (by kernel_rfl) rfl (by kernel_rfl) (by kernel_rfl) (by kernel_rfl) (fun w hs => (hs.old Rb1_1).at hA4 (em_sub (Ec.int 3 .i64) l1 (i := (x4_1).toNat) (by have h0 : (0 : Int) ≤ x4_1 := q1; have h1 : x4_1 < (l1.length : Int) := q2; omega))) ?_
      obtain ⟨y5, hy6, H⟩ := lt_some H
      refine ls_val (v := .int .i64 (bits .and .i64 ((l1).getD (x4_1).toNat (0 : Int)) (7 : Int))) rfl rfl (by kernel_rfl) (fun w => by kernel_rfl) ?_
      refine ls_ren 23 (v := .int .i64 (bits .and .i64 ((l1).getD (x4_1).toNat (0 : Int)) (7 : Int))) (v' := .int .i64 y5) (by kernel_rfl) (by rw [hy6]) ?_
      refine ls_val (v := .int .i64 (IntKind.wrap .i64 ((1 : Int) + y5))) rfl rfl (by kernel_rfl) (fun w => by kernel_rfl) ?_
      refine ls_val (v := .int .i64 (IntKind.wrap .i64 ((1 : Int) + y5))) rfl rfl (by kernel_rfl) (fun w => by kernel_rfl) ?_
      refine ls_end ?_
      refine qn_then ?_
      refine cs_seq ?_
      refine cs_region (l := [_, _, _, _, _, _, _, _]) ?_
      refine ls_val (v := .pointer (some ⟨pg0, 0, none⟩)) rfl rfl (by kernel_rfl) (fun w => by kernel_rfl) ?_
      refine ls_val (v := .int .i64 (IntKind.wrap .i64 ((1 : Int) + y5))) rfl rfl (by kernel_rfl) (fun w => by kernel_rfl) ?_
      obtain ⟨t7, hc8, H⟩ := bind_some H
      refine ls_callf (fid := 28) (vals := #[.pointer (some ⟨pg0, 0, none⟩), .int .i64 (IntKind.wrap .i64 ((1 : Int) + y5)), .bool true]) (X := (Option Addr × Nat) × (Option Addr × Nat)) (fun x => .tuple #[.int .i64 t7.1, .int .i64 t7.2.1]) (fun x => stl [Ck.var 66 pg0 ((([Value.int .i64 t7.2.2.1.1] ++ [Value.int .i64 t7.2.2.1.2]) ++ ([Value.bool t7.2.2.2.1] ++ ([Value.int .i64 t7.2.2.2.2.1] ++ ([Value.slice x.1.1 t7.2.2.2.2.2.1.length x.1.2] ++ ([Value.map (some r0_4)] ++ [Value.slice x.2.1 t7.2.2.2.2.2.2.2.length x.2.2])))))), Ck.m1 r0_4 m1_1.1 Am1_1_1 m1_1.2.length cm1_1_1, Ck.sl T24 Am1_1_1 cm1_1_1 m1_1.2]) (fun x B => (Ro B x.1.1 (em T24 t7.2.2.2.2.2.1) ∧ t7.2.2.2.2.2.1.length ≤ x.1.2) ∧ (Ro B x.2.1 (em T24 t7.2.2.2.2.2.2.2) ∧ t7.2.2.2.2.2.2.2.length ≤ x.2.2)) [0, 1, 2] [Ck.var 66 pg0 ((([Value.int .i64 m0_1.1.1] ++ [Value.int .i64 m0_1.1.2]) ++ ([Value.bool m0_1.2.1] ++ ([Value.int .i64 m0_1.2.2.1] ++ ([Value.slice Am0_1_3 m0_1.2.2.2.1.length cm0_1_3] ++ ([Value.map (some r0_4)] ++ [Value.slice Am0_1_5 m0_1.2.2.2.2.2.length cm0_1_5])))))), Ck.m1 r0_4 m1_1.1 Am1_1_1 m1_1.2.length cm1_1_1, Ck.sl T24 Am1_1_1 cm1_1_1 m1_1.2] 3 rfl rfl (by kernel_rfl) (fun w => by kernel_rfl) ⟨by exact rfl, by exact rfl, by exact rfl, trivial⟩ (by decide) (fun x b b' h hf => ⟨⟨h _ _ hf.1.1, hf.1.2⟩, ⟨h _ _ hf.2.1, hf.2.2⟩⟩) (fun w hs hb => alloc_Alloc_Take.calls k1 pg0 Am0_1_3 cm0_1_3 r0_4 Am0_1_5 cm0_1_5 (m0_1.1, m0_1.2.1, m0_1.2.2.1, m0_1.2.2.2.1, (), m0_1.2.2.2.2.2) Am1_1_1 cm1_1_1 (m1_1.1, m1_1.2) (IntKind.wrap .i64 ((1 : Int) + y5)) true t7 (lent bh1 w [Ck.var 66 pg0 ((([Value.int .i64 m0_1.1.1] ++ [Value.int .i64 m0_1.1.2]) ++ ([Value.bool m0_1.2.1] ++ ([Value.int .i64 m0_1.2.2.1] ++ ([Value.slice Am0_1_3 m0_1.2.2.2.1.length cm0_1_3] ++ ([Value.map (some r0_4)] ++ [Value.slice Am0_1_5 m0_1.2.2.2.2.2.length cm0_1_5])))))), Ck.m1 r0_4 m1_1.1 Am1_1_1 m1_1.2.length cm1_1_1, Ck.sl T24 Am1_1_1 cm1_1_1 m1_1.2] []) hb (hs.ro Rm0_1_3 _ _) Cm0_1_3 (hs.ro Rm0_1_5 _ _) Cm0_1_5 hc8) ?_
      intro x9 bs14 hle15 hok16 hf17
      obtain ⟨⟨fR10, fC11⟩, ⟨fR12, fC13⟩⟩ := hf17
      refine ls_val (v := .tuple #[.int .i64 t7.1, .int .i64 t7.2.1]) rfl rfl (by kernel_rfl) (fun w => by kernel_rfl) ?_
      refine ls_val (v := .int .i64 t7.1) rfl rfl (by kernel_rfl) (fun w => by kernel_rfl) ?_
      refine ls_val (v := .int .i64 t7.2.1) rfl rfl (by kernel_rfl) (fun w => by kernel_rfl) ?_
      refine ls_val (v := .int .i64 t7.1) rfl rfl (by kernel_rfl) (fun w => by kernel_rfl) ?_
      refine ls_val (v := .int .i64 t7.2.1) rfl rfl (by kernel_rfl) (fun w => by kernel_rfl) ?_
      refine ls_end ?_
      refine qn_then ?_
      refine cs_seq ?_
      refine cs_region (l := [_, _, _, _, _, _, _]) ?_
      refine ls_val (v := .int .i64 t7.1) rfl rfl (by kernel_rfl) (fun w => by kernel_rfl) ?_
      refine ls_val (v := .int .i64 t7.1) rfl rfl (by kernel_rfl) (fun w => by kernel_rfl) ?_
      refine ls_val (v := .int .i64 (IntKind.wrap .i64 ((1 : Int) + y5))) rfl rfl (by kernel_rfl) (fun w => by kernel_rfl) ?_
      obtain ⟨y18, hy19, H⟩ := lt_some H
      refine ls_val (v := .int .i64 (IntKind.wrap .i64 (t7.1 + (IntKind.wrap .i64 ((1 : Int) + y5))))) rfl rfl (by kernel_rfl) (fun w => by kernel_rfl) ?_
      refine ls_ren 34 (v := .int .i64 (IntKind.wrap .i64 (t7.1 + (IntKind.wrap .i64 ((1 : Int) + y5))))) (v' := .int .i64 y18) (by kernel_rfl) (by rw [hy19]) ?_
      refine ls_val (v := .agg ⟨([Value.int .i64 t7.1] ++ [Value.int .i64 y18])⟩) rfl rfl (by kernel_rfl) (fun w => by kernel_rfl) ?_
      refine ls_new rfl rfl (by kernel_rfl) 3 (fun g => .pointer (some ⟨g, 0, none⟩)) (.cells ⟨([Value.int .i64 (0 : Int)] ++ [Value.int .i64 (0 : Int)])⟩ 24) (fun w => by kernel_rfl) ?_
      intro g20
      refine ls_storec (g := g20) (off := 0) (v := .agg ⟨([Value.int .i64 t7.1] ++ [Value.int .i64 y18])⟩) (vs := ([Value.int .i64 t7.1] ++ [Value.int .i64 y18])) (cs := ([Value.int .i64 (0 : Int)] ++ [Value.int .i64 (0 : Int)])) (ty := 24) 3 rfl rfl rfl (by kernel_rfl) (by kernel_rfl) (by kernel_rfl) (by exact rfl) (by kernel_rfl) (len_app (len1 _) (len1 _)) (one_app (one_cons rfl one_nil) (one_cons rfl one_nil)) (hl_of (Sub4.all _) (len_eq (len_app (len1 _) (len1 _)) (len_app (len1 _) (len1 _)))) (cs' := ([Value.int .i64 t7.1] ++ [Value.int .i64 y18])) (splc_all (len_eq (len_app (len1 _) (len1 _)) (len_app (len1 _) (len1 _)))) ?_
      refine ls_end ?_
      refine qn_then ?_
      refine cs_seq ?_
      refine cs_region (l := [_, _, _, _, _, _, _, _, _, _]) ?_
      refine ls_val (v := .int .i64 t7.2.1) rfl rfl (by kernel_rfl) (fun w => by kernel_rfl) ?_
      refine ls_val (v := .bool (decide (t7.2.1 = (0 : Int)))) rfl rfl (by kernel_rfl) (fun w => by kernel_rfl) ?_
      refine ls_val (v := .bool (decide (t7.2.1 = (0 : Int)))) rfl rfl (by kernel_rfl) (fun w => by kernel_rfl) ?_
      by_cases q21 : t7.2.1 = (0 : Int)
      · replace H := ite_t q21 H
        refine ls_know (c := true) (dec_t q21) 38 (by kernel_rfl) ?_
        refine ls_on (j := 2) (t := 38) (b := true) rfl rfl (by kernel_rfl) (by kernel_rfl) ?_
        refine ls_val (v := .slice A1 l1.length c1) rfl rfl (by kernel_rfl) (fun w => by kernel_rfl) ?_
        refine ls_on (j := 2) (t := 38) (b := true) rfl rfl (by kernel_rfl) (by kernel_rfl) ?_
        refine ls_val (v := .int .i64 x4_1) rfl rfl (by kernel_rfl) (fun w => by kernel_rfl) ?_
        refine ls_on (j := 2) (t := 38) (b := true) rfl rfl (by kernel_rfl) (by kernel_rfl) ?_
        obtain ⟨ad22, hA23⟩ := ido_at (T := (Ec.int 3 .i64)) (l := l1) (i := x4_1) (Ro.mono hok16 hle15 Rb1_1) q1 q2
        refine ls_idxv (Ec.int 3 .i64) (A := A1) (c := c1) (l := l1) (k := .i64) (i := x4_1) (z := 1) (ad := ad22) rfl rfl (by kernel_rfl) hA23 rfl (by kernel_rfl) (by kernel_rfl) (by kernel_rfl) (by kernel_rfl) q1 q2 ?_
        refine ls_on (j := 2) (t := 38) (b := true) rfl rfl (by kernel_rfl) (by kernel_rfl) ?_
        refine ls_load (a0 := (ad22.add ((x4_1).toNat * 1))) (v := .int .i64 ((l1).getD (x4_1).toNat (0 : Int))) (de := (TypeDesc.int .i64)) rfl rfl (by kernel_rfl) rfl (by kernel_rfl) (by kernel_rfl) (by kernel_rfl) (fun w hs => (hs.old (Ro.mono hok16 hle15 Rb1_1)).at hA23 (em_sub (Ec.int 3 .i64) l1 (i := (x4_1).toNat) (by have h0 : (0 : Int) ≤ x4_1 := q1; have h1 : x4_1 < (l1.length : Int) := q2; omega))) ?_
        refine ls_on (j := 2) (t := 38) (b := true) rfl rfl (by kernel_rfl) (by kernel_rfl) ?_
        obtain ⟨y24, hy25, H⟩ := lt_some H
        refine ls_val (v := .int .i64 (bits .and .i64 ((l1).getD (x4_1).toNat (0 : Int)) (8 : Int))) rfl rfl (by kernel_rfl) (fun w => by kernel_rfl) ?_
        refine ls_ren 43 (v := .int .i64 (bits .and .i64 ((l1).getD (x4_1).toNat (0 : Int)) (8 : Int))) (v' := .int .i64 y24) (by kernel_rfl) (by rw [hy25]) ?_
        refine ls_on (j := 2) (t := 38) (b := true) rfl rfl (by kernel_rfl) (by kernel_rfl) ?_
        refine ls_val (v := .bool (!decide (y24 = (0 : Int)))) rfl rfl (by kernel_rfl) (fun w => by kernel_rfl) ?_
        refine ls_val (v := .bool (!decide (y24 = (0 : Int)))) rfl rfl (by kernel_rfl) (fun w => by kernel_rfl) ?_
        refine ls_end ?_
        refine qn_then ?_
        by_cases q26 : y24 = (0 : Int)
        · replace H := ite_t q26 H
          refine cs_know (c := false) (congrArg Bool.not (dec_t q26)) 45 (by kernel_rfl) ?_
          refine cs_false (by kernel_rfl) ?_
          refine cs_seq ?_
          refine cs_region (l := [_, _, _, _, _, _, _, _, _, _]) ?_
          refine ls_val (v := .int .i64 t7.2.1) rfl rfl (by kernel_rfl) (fun w => by kernel_rfl) ?_
          refine ls_val (v := .bool (decide (t7.2.1 = (0 : Int)))) rfl rfl (by kernel_rfl) (fun w => by kernel_rfl) ?_
          refine ls_val (v := .bool (decide (t7.2.1 = (0 : Int)))) rfl rfl (by kernel_rfl) (fun w => by kernel_rfl) ?_
          refine ls_know (c := true) (dec_t q21) 51 (by kernel_rfl) ?_
          refine ls_on (j := 2) (t := 51) (b := true) rfl rfl (by kernel_rfl) (by kernel_rfl) ?_
          refine ls_val (v := .slice A1 l1.length c1) rfl rfl (by kernel_rfl) (fun w => by kernel_rfl) ?_
          refine ls_on (j := 2) (t := 51) (b := true) rfl rfl (by kernel_rfl) (by kernel_rfl) ?_
          refine ls_val (v := .int .i64 x4_1) rfl rfl (by kernel_rfl) (fun w => by kernel_rfl) ?_
          refine ls_on (j := 2) (t := 51) (b := true) rfl rfl (by kernel_rfl) (by kernel_rfl) ?_
          obtain ⟨ad27, hA28⟩ := ido_at (T := (Ec.int 3 .i64)) (l := l1) (i := x4_1) (Ro.mono hok16 hle15 Rb1_1) q1 q2
          refine ls_idxv (Ec.int 3 .i64) (A := A1) (c := c1) (l := l1) (k := .i64) (i := x4_1) (z := 1) (ad := ad27) rfl rfl (by kernel_rfl) hA28 rfl (by kernel_rfl) (by kernel_rfl) (by kernel_rfl) (by kernel_rfl) q1 q2 ?_
          refine ls_on (j := 2) (t := 51) (b := true) rfl rfl (by kernel_rfl) (by kernel_rfl) ?_
          refine ls_load (a0 := (ad27.add ((x4_1).toNat * 1))) (v := .int .i64 ((l1).getD (x4_1).toNat (0 : Int))) (de := (TypeDesc.int .i64)) rfl rfl (by kernel_rfl) rfl (by kernel_rfl) (by kernel_rfl) (by kernel_rfl) (fun w hs => (hs.old (Ro.mono hok16 hle15 Rb1_1)).at hA28 (em_sub (Ec.int 3 .i64) l1 (i := (x4_1).toNat) (by have h0 : (0 : Int) ≤ x4_1 := q1; have h1 : x4_1 < (l1.length : Int) := q2; omega))) ?_
          refine ls_on (j := 2) (t := 51) (b := true) rfl rfl (by kernel_rfl) (by kernel_rfl) ?_
          obtain ⟨y29, hy30, H⟩ := lt_some H
          refine ls_val (v := .int .i64 (bits .and .i64 ((l1).getD (x4_1).toNat (0 : Int)) (16 : Int))) rfl rfl (by kernel_rfl) (fun w => by kernel_rfl) ?_
          refine ls_ren 56 (v := .int .i64 (bits .and .i64 ((l1).getD (x4_1).toNat (0 : Int)) (16 : Int))) (v' := .int .i64 y29) (by kernel_rfl) (by rw [hy30]) ?_
          refine ls_on (j := 2) (t := 51) (b := true) rfl rfl (by kernel_rfl) (by kernel_rfl) ?_
          refine ls_val (v := .bool (!decide (y29 = (0 : Int)))) rfl rfl (by kernel_rfl) (fun w => by kernel_rfl) ?_
          refine ls_val (v := .bool (!decide (y29 = (0 : Int)))) rfl rfl (by kernel_rfl) (fun w => by kernel_rfl) ?_
          refine ls_end ?_
          refine qn_then ?_
          by_cases q31 : y29 = (0 : Int)
          · replace H := ite_t q31 H
            refine cs_know (c := false) (congrArg Bool.not (dec_t q31)) 58 (by kernel_rfl) ?_
            refine cs_false (by kernel_rfl) ?_
            refine cs_skip' ?_
            refine qn_block ?_
            refine qn_then ?_
            refine cs_region (l := [_, _, _]) ?_
            refine ls_val (v := .int .i64 x4_1) rfl rfl (by kernel_rfl) (fun w => by kernel_rfl) ?_
            refine ls_val (v := .int .i64 (IntKind.wrap .i64 (x4_1 + (1 : Int)))) rfl rfl (by kernel_rfl) (fun w => by kernel_rfl) ?_
            refine ls_val (v := .int .i64 (IntKind.wrap .i64 (x4_1 + (1 : Int)))) rfl rfl (by kernel_rfl) (fun w => by kernel_rfl) ?_
            refine ls_end ?_
            refine qn_againb k1 (sput (sput (sput s0 0 (some (Ck.var 66 pg0 ((([Value.int .i64 t7.2.2.1.1] ++ [Value.int .i64 t7.2.2.1.2]) ++ ([Value.bool t7.2.2.2.1] ++ ([Value.int .i64 t7.2.2.2.2.1] ++ ([Value.slice x9.1.1 t7.2.2.2.2.2.1.length x9.1.2] ++ ([Value.map (some r0_4)] ++ [Value.slice x9.2.1 t7.2.2.2.2.2.2.2.length x9.2.2]))))))))) 1 (some (Ck.m1 r0_4 m1_1.1 Am1_1_1 m1_1.2.length cm1_1_1))) 2 (some (Ck.sl T24 Am1_1_1 cm1_1_1 m1_1.2))) (Nat.le_refl _) ⟨_, (IntKind.wrap .i64 (x4_1 + (1 : Int))), x9.1.1, x9.1.2, x9.2.1, x9.2.2, (t7.2.2.1, t7.2.2.2.1, t7.2.2.2.2.1, t7.2.2.2.2.2.1, (), t7.2.2.2.2.2.2.2), Am1_1_1, cm1_1_1, (m1_1.1, m1_1.2), fr_next (fr_next (fr_next (rfl) (by kernel_rfl)) (by kernel_rfl)) (by kernel_rfl), rfl, fR10, fC11, fR12, fC13, (hleh1.trans hle15), (Ro.mono hok16 hle15 Rb1_1), H⟩ (sub_put (by exact rfl) (sub_put (by exact rfl) (sub_put (by exact rfl) (sub_nil _))))
          · replace H := ite_f q31 H
            refine cs_know (c := true) (congrArg Bool.not (dec_f q31)) 58 (by kernel_rfl) ?_
            refine cs_true (by kernel_rfl) ?_
            refine cs_region (l := [_, _, _]) ?_
            refine ls_val (v := .pointer (some ⟨pg0, 0, none⟩)) rfl rfl (by kernel_rfl) (fun w => by kernel_rfl) ?_
            refine ls_loadagg (a := ⟨g20, 0, none⟩) (sub := ([Value.int .i64 t7.1] ++ [Value.int .i64 y18])) rfl rfl (by kernel_rfl) rfl (by kernel_rfl) (by kernel_rfl) (by kernel_rfl) (len_app (len1 _) (len1 _)) (fun w hs => (hs.vars (k := 3) (by exact rfl) (Sub4.all _))) ?_
            obtain ⟨t32, hc33, H⟩ := bind_some H
            refine ls_callf (fid := 35) (vals := #[.pointer (some ⟨pg0, 0, none⟩), .agg ⟨([Value.int .i64 t7.1] ++ [Value.int .i64 y18])⟩]) (X := (Option Addr × Nat) × (Option Addr × Nat) × (Option Addr × Nat)) (fun x => .int .i64 t32.1) (fun x => stl [Ck.var 66 pg0 ((([Value.int .i64 t32.2.1.1.1] ++ [Value.int .i64 t32.2.1.1.2]) ++ ([Value.bool t32.2.1.2.1] ++ ([Value.int .i64 t32.2.1.2.2.1] ++ ([Value.slice x.1.1 t32.2.1.2.2.2.1.length x.1.2] ++ ([Value.map (some r0_4)] ++ [Value.slice x.2.1.1 t32.2.1.2.2.2.2.2.length x.2.1.2])))))), Ck.m1 r0_4 t32.2.2.1 x.2.2.1 t32.2.2.2.length x.2.2.2, Ck.sl T24 x.2.2.1 x.2.2.2 t32.2.2.2]) (fun x B => (Ro B x.1.1 (em T24 t32.2.1.2.2.2.1) ∧ t32.2.1.2.2.2.1.length ≤ x.1.2) ∧ (Ro B x.2.1.1 (em T24 t32.2.1.2.2.2.2.2) ∧ t32.2.1.2.2.2.2.2.length ≤ x.2.1.2)) [0, 1, 2] [Ck.var 66 pg0 ((([Value.int .i64 t7.2.2.1.1] ++ [Value.int .i64 t7.2.2.1.2]) ++ ([Value.bool t7.2.2.2.1] ++ ([Value.int .i64 t7.2.2.2.2.1] ++ ([Value.slice x9.1.1 t7.2.2.2.2.2.1.length x9.1.2] ++ ([Value.map (some r0_4)] ++ [Value.slice x9.2.1 t7.2.2.2.2.2.2.2.length x9.2.2])))))), Ck.m1 r0_4 m1_1.1 Am1_1_1 m1_1.2.length cm1_1_1, Ck.sl T24 Am1_1_1 cm1_1_1 m1_1.2] 4 rfl rfl (by kernel_rfl) (fun w => by kernel_rfl) ⟨by exact rfl, by exact rfl, by exact rfl, trivial⟩ (by decide) (fun x b b' h hf => ⟨⟨h _ _ hf.1.1, hf.1.2⟩, ⟨h _ _ hf.2.1, hf.2.2⟩⟩) (fun w hs hb => alloc_Alloc_Give.calls k1 pg0 x9.1.1 x9.1.2 r0_4 x9.2.1 x9.2.2 (t7.2.2.1, t7.2.2.2.1, t7.2.2.2.2.1, t7.2.2.2.2.2.1, (), t7.2.2.2.2.2.2.2) Am1_1_1 cm1_1_1 (m1_1.1, m1_1.2) (t7.1, y18) t32 (lent bs14 w [Ck.var 66 pg0 ((([Value.int .i64 t7.2.2.1.1] ++ [Value.int .i64 t7.2.2.1.2]) ++ ([Value.bool t7.2.2.2.1] ++ ([Value.int .i64 t7.2.2.2.2.1] ++ ([Value.slice x9.1.1 t7.2.2.2.2.2.1.length x9.1.2] ++ ([Value.map (some r0_4)] ++ [Value.slice x9.2.1 t7.2.2.2.2.2.2.2.length x9.2.2])))))), Ck.m1 r0_4 m1_1.1 Am1_1_1 m1_1.2.length cm1_1_1, Ck.sl T24 Am1_1_1 cm1_1_1 m1_1.2] []) hb (hs.ro fR10 _ _) fC11 (hs.ro fR12 _ _) fC13 hc33) ?_
            intro x34 bs39 hle40 hok41 hf42
            obtain ⟨⟨fR35, fC36⟩, ⟨fR37, fC38⟩⟩ := hf42
            refine ls_end ?_
            refine qn_block ?_
            refine qn_then ?_
            refine cs_region (l := [_, _, _]) ?_
            refine ls_val (v := .int .i64 x4_1) rfl rfl (by kernel_rfl) (fun w => by kernel_rfl) ?_
            refine ls_val (v := .int .i64 (IntKind.wrap .i64 (x4_1 + (1 : Int)))) rfl rfl (by kernel_rfl) (fun w => by kernel_rfl) ?_
            refine ls_val (v := .int .i64 (IntKind.wrap .i64 (x4_1 + (1 : Int)))) rfl rfl (by kernel_rfl) (fun w => by kernel_rfl) ?_
            refine ls_end ?_
            refine qn_againb k1 (sput (sput (sput s0 0 (some (Ck.var 66 pg0 ((([Value.int .i64 t32.2.1.1.1] ++ [Value.int .i64 t32.2.1.1.2]) ++ ([Value.bool t32.2.1.2.1] ++ ([Value.int .i64 t32.2.1.2.2.1] ++ ([Value.slice x34.1.1 t32.2.1.2.2.2.1.length x34.1.2] ++ ([Value.map (some r0_4)] ++ [Value.slice x34.2.1.1 t32.2.1.2.2.2.2.2.length x34.2.1.2]))))))))) 1 (some (Ck.m1 r0_4 t32.2.2.1 x34.2.2.1 t32.2.2.2.length x34.2.2.2))) 2 (some (Ck.sl T24 x34.2.2.1 x34.2.2.2 t32.2.2.2))) (Nat.le_refl _) ⟨_, (IntKind.wrap .i64 (x4_1 + (1 : Int))), x34.1.1, x34.1.2, x34.2.1.1, x34.2.1.2, (t32.2.1.1, t32.2.1.2.1, t32.2.1.2.2.1, t32.2.1.2.2.2.1, (), t32.2.1.2.2.2.2.2), x34.2.2.1, x34.2.2.2, (t32.2.2.1, t32.2.2.2), fr_next (fr_next (fr_next (rfl) (by kernel_rfl)) (by kernel_rfl)) (by kernel_rfl), rfl, fR35, fC36, fR37, fC38, ((hleh1.trans hle15).trans hle40), (Ro.mono hok41 hle40 (Ro.mono hok16 hle15 Rb1_1)), H⟩ (sub_put (by exact rfl) (sub_put (by exact rfl) (sub_put (by exact rfl) (sub_nil _))))
        · replace H := ite_f q26 H
          refine cs_know (c := true) (congrArg Bool.not (dec_f q26)) 45 (by kernel_rfl) ?_
          refine cs_true (by kernel_rfl) ?_
          refine cs_region (l := [_, _, _]) ?_
          refine ls_val (v := .pointer (some ⟨pg0, 0, none⟩)) rfl rfl (by kernel_rfl) (fun w => by kernel_rfl) ?_
          refine ls_loadagg (a := ⟨g20, 0, none⟩) (sub := ([Value.int .i64 t7.1] ++ [Value.int .i64 y18])) rfl rfl (by kernel_rfl) rfl (by kernel_rfl) (by kernel_rfl) (by kernel_rfl) (len_app (len1 _) (len1 _)) (fun w hs => (hs.vars (k := 3) (by exact rfl) (Sub4.all _))) ?_
          obtain ⟨t43, hc44, H⟩ := bind_some H
          refine ls_callb (fid := 30) (vals := #[.pointer (some ⟨pg0, 0, none⟩), .agg ⟨([Value.int .i64 t7.1] ++ [Value.int .i64 y18])⟩]) (X := (Option Addr × Nat)) (fun x => .int .i64 t43.1) (fun x => stl [Ck.var 66 pg0 ((([Value.int .i64 t7.2.2.1.1] ++ [Value.int .i64 t7.2.2.1.2]) ++ ([Value.bool t7.2.2.2.1] ++ ([Value.int .i64 t7.2.2.2.2.1] ++ ([Value.slice x9.1.1 t7.2.2.2.2.2.1.length x9.1.2] ++ ([Value.map (some r0_4)] ++ [Value.slice x9.2.1 t7.2.2.2.2.2.2.2.length x9.2.2])))))), Ck.m1 r0_4 t43.2.1 x.1 t43.2.2.length x.2, Ck.sl T24 x.1 x.2 t43.2.2]) [0, 1, 2] [] [Ck.var 66 pg0 ((([Value.int .i64 t7.2.2.1.1] ++ [Value.int .i64 t7.2.2.1.2]) ++ ([Value.bool t7.2.2.2.1] ++ ([Value.int .i64 t7.2.2.2.2.1] ++ ([Value.slice x9.1.1 t7.2.2.2.2.2.1.length x9.1.2] ++ ([Value.map (some r0_4)] ++ [Value.slice x9.2.1 t7.2.2.2.2.2.2.2.length x9.2.2])))))), Ck.m1 r0_4 m1_1.1 Am1_1_1 m1_1.2.length cm1_1_1, Ck.sl T24 Am1_1_1 cm1_1_1 m1_1.2] [] 4 rfl rfl (by kernel_rfl) (fun w => by kernel_rfl) ⟨by exact rfl, by exact rfl, by exact rfl, trivial⟩ trivial (by decide) (fun w hs hb => alloc_Alloc_Later.calls k1 pg0 x9.1.1 x9.1.2 r0_4 x9.2.1 x9.2.2 (t7.2.2.1, t7.2.2.2.1, t7.2.2.2.2.1, t7.2.2.2.2.2.1, (), t7.2.2.2.2.2.2.2) Am1_1_1 cm1_1_1 (m1_1.1, m1_1.2) (t7.1, y18) t43 (lent bs14 w [Ck.var 66 pg0 ((([Value.int .i64 t7.2.2.1.1] ++ [Value.int .i64 t7.2.2.1.2]) ++ ([Value.bool t7.2.2.2.1] ++ ([Value.int .i64 t7.2.2.2.2.1] ++ ([Value.slice x9.1.1 t7.2.2.2.2.2.1.length x9.1.2] ++ ([Value.map (some r0_4)] ++ [Value.slice x9.2.1 t7.2.2.2.2.2.2.2.length x9.2.2])))))), Ck.m1 r0_4 m1_1.1 Am1_1_1 m1_1.2.length cm1_1_1, Ck.sl T24 Am1_1_1 cm1_1_1 m1_1.2] []) hb (hs.ro fR10 _ _) fC11 (hs.ro fR12 _ _) fC13 hc44) ?_
          intro x45
          refine ls_end ?_
          refine qn_block ?_
          refine qn_then ?_
          refine cs_region (l := [_, _, _]) ?_
          refine ls_val (v := .int .i64 x4_1) rfl rfl (by kernel_rfl) (fun w => by kernel_rfl) ?_
          refine ls_val (v := .int .i64 (IntKind.wrap .i64 (x4_1 + (1 : Int)))) rfl rfl (by kernel_rfl) (fun w => by kernel_rfl) ?_
          refine ls_val (v := .int .i64 (IntKind.wrap .i64 (x4_1 + (1 : Int)))) rfl rfl (by kernel_rfl) (fun w => by kernel_rfl) ?_
          refine ls_end ?_
          refine qn_againb k1 (sput (sput (sput s0 0 (some (Ck.var 66 pg0 ((([Value.int .i64 t7.2.2.1.1] ++ [Value.int .i64 t7.2.2.1.2]) ++ ([Value.bool t7.2.2.2.1] ++ ([Value.int .i64 t7.2.2.2.2.1] ++ ([Value.slice x9.1.1 t7.2.2.2.2.2.1.length x9.1.2] ++ ([Value.map (some r0_4)] ++ [Value.slice x9.2.1 t7.2.2.2.2.2.2.2.length x9.2.2]))))))))) 1 (some (Ck.m1 r0_4 t43.2.1 x45.1 t43.2.2.length x45.2))) 2 (some (Ck.sl T24 x45.1 x45.2 t43.2.2))) (Nat.le_refl _) ⟨_, (IntKind.wrap .i64 (x4_1 + (1 : Int))), x9.1.1, x9.1.2, x9.2.1, x9.2.2, (t7.2.2.1, t7.2.2.2.1, t7.2.2.2.2.1, t7.2.2.2.2.2.1, (), t7.2.2.2.2.2.2.2), x45.1, x45.2, (t43.2.1, t43.2.2), fr_next (fr_next (fr_next (rfl) (by kernel_rfl)) (by kernel_rfl)) (by kernel_rfl), rfl, fR10, fC11, fR12, fC13, (hleh1.trans hle15), (Ro.mono hok16 hle15 Rb1_1), H⟩ (sub_put (by exact rfl) (sub_put (by exact rfl) (sub_put (by exact rfl) (sub_nil _))))
      · replace H := ite_f q21 H
        refine ls_know (c := false) (dec_f q21) 38 (by kernel_rfl) ?_
        refine ls_off (j := 2) (t := 38) (b := true) (c := false) rfl rfl (by kernel_rfl) (by kernel_rfl) rfl rfl (by kernel_rfl) ?_
        refine ls_off (j := 2) (t := 38) (b := true) (c := false) rfl rfl (by kernel_rfl) (by kernel_rfl) rfl rfl (by kernel_rfl) ?_
        refine ls_off (j := 2) (t := 38) (b := true) (c := false) rfl rfl (by kernel_rfl) (by kernel_rfl) rfl rfl (by kernel_rfl) ?_
        refine ls_off (j := 2) (t := 38) (b := true) (c := false) rfl rfl (by kernel_rfl) (by kernel_rfl) rfl rfl (by kernel_rfl) ?_
        refine ls_off (j := 2) (t := 38) (b := true) (c := false) rfl rfl (by kernel_rfl) (by kernel_rfl) rfl rfl (by kernel_rfl) ?_
        refine ls_off (j := 2) (t := 38) (b := true) (c := false) rfl rfl (by kernel_rfl) (by kernel_rfl) rfl rfl (by kernel_rfl) ?_
        refine ls_val (v := .bool false) rfl rfl (by kernel_rfl) (fun w => by kernel_rfl) ?_
        refine ls_end ?_
        refine qn_then ?_
        refine cs_false (by kernel_rfl) ?_
        refine cs_seq ?_
        refine cs_region (l := [_, _, _, _, _, _, _, _, _, _]) ?_
        refine ls_val (v := .int .i64 t7.2.1) rfl rfl (by kernel_rfl) (fun w => by kernel_rfl) ?_
        refine ls_val (v := .bool (decide (t7.2.1 = (0 : Int)))) rfl rfl (by kernel_rfl) (fun w => by kernel_rfl) ?_
        refine ls_val (v := .bool (decide (t7.2.1 = (0 : Int)))) rfl rfl (by kernel_rfl) (fun w => by kernel_rfl) ?_
        refine ls_know (c := false) (dec_f q21) 51 (by kernel_rfl) ?_
        refine ls_off (j := 2) (t := 51) (b := true) (c := false) rfl rfl (by kernel_rfl) (by kernel_rfl) rfl rfl (by kernel_rfl) ?_
        refine ls_off (j := 2) (t := 51) (b := true) (c := false) rfl rfl (by kernel_rfl) (by kernel_rfl) rfl rfl (by kernel_rfl) ?_
        refine ls_off (j := 2) (t := 51) (b := true) (c := false) rfl rfl (by kernel_rfl) (by kernel_rfl) rfl rfl (by kernel_rfl) ?_
        refine ls_off (j := 2) (t := 51) (b := true) (c := false) rfl rfl (by kernel_rfl) (by kernel_rfl) rfl rfl (by kernel_rfl) ?_
        refine ls_off (j := 2) (t := 51) (b := true) (c := false) rfl rfl (by kernel_rfl) (by kernel_rfl) rfl rfl (by kernel_rfl) ?_
        refine ls_off (j := 2) (t := 51) (b := true) (c := false) rfl rfl (by kernel_rfl) (by kernel_rfl) rfl rfl (by kernel_rfl) ?_
        refine ls_val (v := .bool false) rfl rfl (by kernel_rfl) (fun w => by kernel_rfl) ?_
        refine ls_end ?_
        refine qn_then ?_
        refine cs_false (by kernel_rfl) ?_
        refine cs_skip' ?_
        refine qn_block ?_
        refine qn_then ?_
        refine cs_region (l := [_, _, _]) ?_
        refine ls_val (v := .int .i64 x4_1) rfl rfl (by kernel_rfl) (fun w => by kernel_rfl) ?_
        refine ls_val (v := .int .i64 (IntKind.wrap .i64 (x4_1 + (1 : Int)))) rfl rfl (by kernel_rfl) (fun w => by kernel_rfl) ?_
        refine ls_val (v := .int .i64 (IntKind.wrap .i64 (x4_1 + (1 : Int)))) rfl rfl (by kernel_rfl) (fun w => by kernel_rfl) ?_
        refine ls_end ?_
        refine qn_againb k1 (sput (sput (sput s0 0 (some (Ck.var 66 pg0 ((([Value.int .i64 t7.2.2.1.1] ++ [Value.int .i64 t7.2.2.1.2]) ++ ([Value.bool t7.2.2.2.1] ++ ([Value.int .i64 t7.2.2.2.2.1] ++ ([Value.slice x9.1.1 t7.2.2.2.2.2.1.length x9.1.2] ++ ([Value.map (some r0_4)] ++ [Value.slice x9.2.1 t7.2.2.2.2.2.2.2.length x9.2.2]))))))))) 1 (some (Ck.m1 r0_4 m1_1.1 Am1_1_1 m1_1.2.length cm1_1_1))) 2 (some (Ck.sl T24 Am1_1_1 cm1_1_1 m1_1.2))) (Nat.le_refl _) ⟨_, (IntKind.wrap .i64 (x4_1 + (1 : Int))), x9.1.1, x9.1.2, x9.2.1, x9.2.2, (t7.2.2.1, t7.2.2.2.1, t7.2.2.2.2.1, t7.2.2.2.2.2.1, (), t7.2.2.2.2.2.2.2), Am1_1_1, cm1_1_1, (m1_1.1, m1_1.2), fr_next (fr_next (fr_next (rfl) (by kernel_rfl)) (by kernel_rfl)) (by kernel_rfl), rfl, fR10, fC11, fR12, fC13, (hleh1.trans hle15), (Ro.mono hok16 hle15 Rb1_1), H⟩ (sub_put (by exact rfl) (sub_put (by exact rfl) (sub_put (by exact rfl) (sub_nil _))))

/-! ### (*shadowbox/alloc.Alloc).Mark: function 36 -/
def alloc_Alloc_Mark.f (k : Nat) (v0 : ((Int × Int) × Bool × Int × (List (Int × Int)) × Unit × (List (Int × Int)))) (w0_4 : (Bool × (List (Int × Int)))) : Option ((Bool × (List (Int × Int)) × (List (Int × Int))) × (Bool × (List (Int × Int)))) :=
  (alloc_Alloc_none.f k (v0.1, v0.2.1, v0.2.2.1, v0.2.2.2.1, (), v0.2.2.2.2.2) (w0_4.1, w0_4.2)).bind fun t2 => (if t2 = true then some ((false, ([] : List (Int × Int)), ([] : List (Int × Int))), (w0_4.1, w0_4.2)) else (alloc_Alloc_waiting.f k (v0.1, v0.2.1, v0.2.2.1, v0.2.2.2.1, (), v0.2.2.2.2.2) (w0_4.1, w0_4.2)).bind fun t6 => some ((true, v0.2.2.2.1, t6.1), (t6.2.1, t6.2.2)))
set_option maxRecDepth 100000 in
set_option maxHeartbeats 4000000 in
theorem alloc_Alloc_Mark.calls (k : Nat) (pg0 : Nat) (A0_3 : Option Addr) (c0_3 : Nat) (r0_4 : Nat) (A0_5 : Option Addr) (c0_5 : Nat) (v0 : ((Int × Int) × Bool × Int × (List (Int × Int)) × Unit × (List (Int × Int)))) (A0_4 : Option Addr) (c0_4 : Nat) (w0_4 : (Bool × (List (Int × Int)))) (r : (Bool × (List (Int × Int)) × (List (Int × Int))) × (Bool × (List (Int × Int)))) (b : Bs) (hs0 : St b (stl [Ck.var 66 pg0 ((([Value.int .i64 v0.1.1] ++ [Value.int .i64 v0.1.2]) ++ ([Value.bool v0.2.1] ++ ([Value.int .i64 v0.2.2.1] ++ ([Value.slice A0_3 v0.2.2.2.1.length c0_3] ++ ([Value.map (some r0_4)] ++ [Value.slice A0_5 v0.2.2.2.2.2.length c0_5])))))), Ck.m1 r0_4 w0_4.1 A0_4 w0_4.2.length c0_4, Ck.sl T24 A0_4 c0_4 w0_4.2]) b.w) (R0_3 : Ro b A0_3 (em T24 v0.2.2.2.1)) (C0_3 : v0.2.2.2.1.length ≤ c0_3) (R0_5 : Ro b A0_5 (em T24 v0.2.2.2.2.2)) (C0_5 : v0.2.2.2.2.2.length ≤ c0_5) (H : alloc_Alloc_Mark.f k v0 w0_4 = some r) :
    Calls Try.prog 36 #[.pointer (some ⟨pg0, 0, none⟩)] b.w fun e w' => ∃ b', b.le b' ∧ ∃ x : (Option Addr × Nat) × (Option Addr × Nat) × (Option Addr × Nat), e = .returned (.agg ⟨([Value.bool r.1.1] ++ ([Value.slice x.1.1 r.1.2.1.length x.1.2] ++ [Value.slice x.2.1.1 r.1.2.2.length x.2.1.2]))⟩) ∧ ((Ro b' x.1.1 (em T24 r.1.2.1) ∧ r.1.2.1.length ≤ x.1.2) ∧ (Ro b' x.2.1.1 (em T24 r.1.2.2) ∧ r.1.2.2.length ≤ x.2.1.2)) ∧ St b' (stl [Ck.var 66 pg0 ((([Value.int .i64 v0.1.1] ++ [Value.int .i64 v0.1.2]) ++ ([Value.bool v0.2.1] ++ ([Value.int .i64 v0.2.2.1] ++ ([Value.slice A0_3 v0.2.2.2.1.length c0_3] ++ ([Value.map (some r0_4)] ++ [Value.slice A0_5 v0.2.2.2.2.2.length c0_5])))))), Ck.m1 r0_4 r.2.1 x.2.2.1 r.2.2.length x.2.2.2, Ck.sl T24 x.2.2.1 x.2.2.2 r.2.2]) w' := by
  unfold alloc_Alloc_Mark.f at H
  refine enterb (n := 13) Try.func36 rfl (by kernel_rfl) (by kernel_rfl) hs0 ?_
  refine cs_sub (sput (sput (sput s0 0 (some (Ck.var 66 pg0 ((([Value.int .i64 v0.1.1] ++ [Value.int .i64 v0.1.2]) ++ ([Value.bool v0.2.1] ++ ([Value.int .i64 v0.2.2.1] ++ ([Value.slice A0_3 v0.2.2.2.1.length c0_3] ++ ([Value.map (some r0_4)] ++ [Value.slice A0_5 v0.2.2.2.2.2.length c0_5]))))))))) 1 (some (Ck.m1 r0_4 w0_4.1 A0_4 w0_4.2.length c0_4))) 2 (some (Ck.sl T24 A0_4 c0_4 w0_4.2))) (sub_put (by exact rfl) (sub_put (by exact rfl) (sub_put (by exact rfl) (sub_nil _)))) ?_
  refine cs_seq ?_
  refine cs_region (l := [_]) ?_
  refine ls_new rfl rfl (by kernel_rfl) 3 (fun g => .pointer (some ⟨g, 0, none⟩)) (.cells ⟨([Value.bool false] ++ ([Value.slice none 0 0] ++ [Value.slice none 0 0]))⟩ 59) (fun w => by kernel_rfl) ?_
  intro g1
  refine ls_end ?_
  refine qn_then ?_
  refine cs_seq ?_
  refine cs_seq ?_
  refine cs_region (l := [_, _]) ?_
  refine ls_val (v := .pointer (some ⟨pg0, 0, none⟩)) rfl rfl (by kernel_rfl) (fun w => by kernel_rfl) ?_
  obtain ⟨t2, hc3, H⟩ := bind_some H
  refine ls_callb (fid := 48) (vals := #[.pointer (some ⟨pg0, 0, none⟩)]) (X := Unit) (fun x => .bool t2) (fun x => stl [Ck.var 66 pg0 ((([Value.int .i64 v0.1.1] ++ [Value.int .i64 v0.1.2]) ++ ([Value.bool v0.2.1] ++ ([Value.int .i64 v0.2.2.1] ++ ([Value.slice A0_3 v0.2.2.2.1.length c0_3] ++ ([Value.map (some r0_4)] ++ [Value.slice A0_5 v0.2.2.2.2.2.length c0_5])))))), Ck.m1 r0_4 w0_4.1 A0_4 w0_4.2.length c0_4, Ck.sl T24 A0_4 c0_4 w0_4.2]) [0, 1, 2] [] [Ck.var 66 pg0 ((([Value.int .i64 v0.1.1] ++ [Value.int .i64 v0.1.2]) ++ ([Value.bool v0.2.1] ++ ([Value.int .i64 v0.2.2.1] ++ ([Value.slice A0_3 v0.2.2.2.1.length c0_3] ++ ([Value.map (some r0_4)] ++ [Value.slice A0_5 v0.2.2.2.2.2.length c0_5])))))), Ck.m1 r0_4 w0_4.1 A0_4 w0_4.2.length c0_4, Ck.sl T24 A0_4 c0_4 w0_4.2] [] 4 rfl rfl (by kernel_rfl) (fun w => by kernel_rfl) ⟨by exact rfl, by exact rfl, by exact rfl, trivial⟩ trivial (by decide) (fun w hs hb => alloc_Alloc_none.calls k pg0 A0_3 c0_3 r0_4 A0_5 c0_5 (v0.1, v0.2.1, v0.2.2.1, v0.2.2.2.1, (), v0.2.2.2.2.2) A0_4 c0_4 (w0_4.1, w0_4.2) t2 (lent b w [Ck.var 66 pg0 ((([Value.int .i64 v0.1.1] ++ [Value.int .i64 v0.1.2]) ++ ([Value.bool v0.2.1] ++ ([Value.int .i64 v0.2.2.1] ++ ([Value.slice A0_3 v0.2.2.2.1.length c0_3] ++ ([Value.map (some r0_4)] ++ [Value.slice A0_5 v0.2.2.2.2.2.length c0_5])))))), Ck.m1 r0_4 w0_4.1 A0_4 w0_4.2.length c0_4, Ck.sl T24 A0_4 c0_4 w0_4.2] []) hb (hs.ro R0_3 _ _) C0_3 (hs.ro R0_5 _ _) C0_5 hc3) ?_
  intro x4
  refine ls_end ?_
  refine qn_then ?_
  by_cases q5 : t2 = true
  · replace H := ite_t q5 H
    refine cs_know (c := true) (q5) 4 (by kernel_rfl) ?_
    refine cs_true (by kernel_rfl) ?_
    refine cs_seq ?_
    refine cs_region (l := [_, _]) ?_
    refine ls_val (v := .agg ⟨([Value.bool false] ++ ([Value.slice none 0 0] ++ [Value.slice none 0 0]))⟩) rfl rfl (by kernel_rfl) (fun w => by kernel_rfl) ?_
    refine ls_storec (g := g1) (off := 0) (v := .agg ⟨([Value.bool false] ++ ([Value.slice none 0 0] ++ [Value.slice none 0 0]))⟩) (vs := ([Value.bool false] ++ ([Value.slice none 0 0] ++ [Value.slice none 0 0]))) (cs := ([Value.bool false] ++ ([Value.slice none 0 0] ++ [Value.slice none 0 0]))) (ty := 59) 3 rfl rfl rfl (by kernel_rfl) (by kernel_rfl) (by kernel_rfl) (by exact rfl) (by kernel_rfl) (len_app (len1 _) (len_app (len1 _) (len1 _))) (one_app (one_cons rfl one_nil) (one_app (one_cons rfl one_nil) (one_cons rfl one_nil))) (hl_of (Sub4.all _) (len_eq (len_app (len1 _) (len_app (len1 _) (len1 _))) (len_app (len1 _) (len_app (len1 _) (len1 _))))) (cs' := ([Value.bool false] ++ ([Value.slice none 0 0] ++ [Value.slice none 0 0]))) (splc_all (len_eq (len_app (len1 _) (len_app (len1 _) (len1 _))) (len_app (len1 _) (len_app (len1 _) (len1 _))))) ?_
    refine ls_end ?_
    refine qn_then ?_
    refine cs_ret' ?_
    refine qr_then ?_
    obtain rfl := Option.some.inj H
    refine qr_res (rs := [_]) rfl (fun w' hs => ⟨[.agg ⟨([Value.bool false] ++ ([Value.slice none 0 0] ++ [Value.slice none 0 0]))⟩], (.cell (by kernel_rfl) (run_cellres (by kernel_rfl) (by kernel_rfl) (len_app (len1 _) (len_app (len1 _) (len1 _))) (hs.holds 3 _ (by exact rfl))) (.nil)), b, (Bs.le.refl b), ((none, 0), (none, 0), (A0_4, c0_4)), rfl, ⟨⟨(Ro.nil _ _), (Nat.zero_le _)⟩, ⟨(Ro.nil _ _), (Nat.zero_le _)⟩⟩, hs.pick (ts := [0, 1, 2]) (cs := [Ck.var 66 pg0 ((([Value.int .i64 v0.1.1] ++ [Value.int .i64 v0.1.2]) ++ ([Value.bool v0.2.1] ++ ([Value.int .i64 v0.2.2.1] ++ ([Value.slice A0_3 v0.2.2.2.1.length c0_3] ++ ([Value.map (some r0_4)] ++ [Value.slice A0_5 v0.2.2.2.2.2.length c0_5])))))), Ck.m1 r0_4 w0_4.1 A0_4 w0_4.2.length c0_4, Ck.sl T24 A0_4 c0_4 w0_4.2]) ⟨by exact rfl, by exact rfl, by exact rfl, trivial⟩ (by decide)⟩)
  · replace H := ite_f q5 H
    refine cs_know (c := false) (Bool.eq_false_iff.mpr q5) 4 (by kernel_rfl) ?_
    refine cs_false (by kernel_rfl) ?_
    refine cs_skip' ?_
    refine qn_then ?_
    refine cs_seq ?_
    obtain ⟨t6, hc7, H⟩ := bind_some H
    refine cs_sub (sput (sput (sput (sput s0 0 (some (Ck.var 66 pg0 ((([Value.int .i64 v0.1.1] ++ [Value.int .i64 v0.1.2]) ++ ([Value.bool v0.2.1] ++ ([Value.int .i64 v0.2.2.1] ++ ([Value.slice A0_3 v0.2.2.2.1.length c0_3] ++ ([Value.map (some r0_4)] ++ [Value.slice A0_5 v0.2.2.2.2.2.length c0_5]))))))))) 1 (some (Ck.m1 r0_4 w0_4.1 A0_4 w0_4.2.length c0_4))) 2 (some (Ck.sl T24 A0_4 c0_4 w0_4.2))) 3 (some (Ck.var 59 g1 (([Value.bool false] ++ ([Value.slice none 0 0] ++ [Value.slice none 0 0])))))) (sub_put (by exact rfl) (sub_put (by exact rfl) (sub_put (by exact rfl) (sub_put (by exact rfl) (sub_nil _))))) ?_
    refine cs_chain (l := [_, _, _, _, _, _, _, _]) [[], [0], [0, 1], [0, 1, 2], [], [4], [0, 1, 2, 3, 4, 5], [0, 1, 2, 3, 4, 5, 6]] 6 (fun u => [0, 3].contains u) (efl [false, false, false, false, false, true]) (pvl [.val (.pointer (some ⟨pg0, 0, none⟩)), .val (.pointer (some ⟨pg0, 0, none⟩)), .val (.pointer (some ⟨pg0, (0 + 4), none⟩)), .val (.slice A0_3 v0.2.2.2.1.length c0_3), .val (.pointer (some ⟨pg0, 0, none⟩)), .eff 5]) (Esl [fun (es : Nat → Value) (S' : Sto) => S' = sput (sput (sput (sput s0 0 (some (Ck.var 66 pg0 ((([Value.int .i64 v0.1.1] ++ [Value.int .i64 v0.1.2]) ++ ([Value.bool v0.2.1] ++ ([Value.int .i64 v0.2.2.1] ++ ([Value.slice A0_3 v0.2.2.2.1.length c0_3] ++ ([Value.map (some r0_4)] ++ [Value.slice A0_5 v0.2.2.2.2.2.length c0_5]))))))))) 1 (some (Ck.m1 r0_4 w0_4.1 A0_4 w0_4.2.length c0_4))) 2 (some (Ck.sl T24 A0_4 c0_4 w0_4.2))) 3 (some (Ck.var 59 g1 (([Value.bool false] ++ ([Value.slice none 0 0] ++ [Value.slice none 0 0]))))), fun (es : Nat → Value) (S' : Sto) => ∃ (x8 : (Option Addr × Nat) × (Option Addr × Nat)), es 5 = .slice x8.1.1 t6.1.length x8.1.2 ∧ S' = sput (sput (sput (sput (sput s0 0 (some (Ck.var 66 pg0 ((([Value.int .i64 v0.1.1] ++ [Value.int .i64 v0.1.2]) ++ ([Value.bool v0.2.1] ++ ([Value.int .i64 v0.2.2.1] ++ ([Value.slice A0_3 v0.2.2.2.1.length c0_3] ++ ([Value.map (some r0_4)] ++ [Value.slice A0_5 v0.2.2.2.2.2.length c0_5]))))))))) 1 (some (Ck.m1 r0_4 t6.2.1 x8.2.1 t6.2.2.length x8.2.2))) 2 (some (Ck.sl T24 x8.2.1 x8.2.2 t6.2.2))) 3 (some (Ck.var 59 g1 (([Value.bool false] ++ ([Value.slice none 0 0] ++ [Value.slice none 0 0])))))) 4 (some (Ck.ro T24 x8.1.1 x8.1.2 t6.1))] [0, 0, 0, 0, 0, 0, 1]) (nxl [0, 0, 0, 0, 0, 6]) (onl [true, true, true, true, true, true]) 5 (by kernel_rfl) (by kernel_rfl) (by kernel_rfl) (by kernel_rfl) (by kernel_rfl) (rs := [_, _]) rfl (by kernel_rfl) (by kernel_rfl) (fun es => ?_) ?_ ?_
    · exact (rfl : sput (sput (sput (sput s0 0 (some (Ck.var 66 pg0 ((([Value.int .i64 v0.1.1] ++ [Value.int .i64 v0.1.2]) ++ ([Value.bool v0.2.1] ++ ([Value.int .i64 v0.2.2.1] ++ ([Value.slice A0_3 v0.2.2.2.1.length c0_3] ++ ([Value.map (some r0_4)] ++ [Value.slice A0_5 v0.2.2.2.2.2.length c0_5]))))))))) 1 (some (Ck.m1 r0_4 w0_4.1 A0_4 w0_4.2.length c0_4))) 2 (some (Ck.sl T24 A0_4 c0_4 w0_4.2))) 3 (some (Ck.var 59 g1 (([Value.bool false] ++ ([Value.slice none 0 0] ++ [Value.slice none 0 0]))))) = sput (sput (sput (sput s0 0 (some (Ck.var 66 pg0 ((([Value.int .i64 v0.1.1] ++ [Value.int .i64 v0.1.2]) ++ ([Value.bool v0.2.1] ++ ([Value.int .i64 v0.2.2.1] ++ ([Value.slice A0_3 v0.2.2.2.1.length c0_3] ++ ([Value.map (some r0_4)] ++ [Value.slice A0_5 v0.2.2.2.2.2.length c0_5]))))))))) 1 (some (Ck.m1 r0_4 w0_4.1 A0_4 w0_4.2.length c0_4))) 2 (some (Ck.sl T24 A0_4 c0_4 w0_4.2))) 3 (some (Ck.var 59 g1 (([Value.bool false] ++ ([Value.slice none 0 0] ++ [Value.slice none 0 0]))))))
    · refine all_snoc (all_snoc (all_snoc (all_snoc (all_snoc (all_snoc (all_nil) ?_) ?_) ?_) ?_) ?_) ?_
      · refine ⟨fun o ho es vs f' S' hve hvp hf hx hK hE => ?_⟩
        obtain rfl := Option.some.inj ho
        refine ⟨want_none rfl, fun _ _ => ?_, (fun _ h => by cases h), (fun h _ => by cases h), (fun h _ => by cases h)⟩
        have hF := fr_next (rfl) ((hx 0 (by kernel_rfl)).trans (by kernel_rfl : (_ : Value) = .pointer (some ⟨pg0, 0, none⟩)))
        refine ls_fr hF ?_
        refine ls_val (v := .pointer (some ⟨pg0, 0, none⟩)) rfl rfl (by kernel_rfl) (fun w => by kernel_rfl) ?_
        exact ls_finp (.pointer (some ⟨pg0, 0, none⟩)) (congrArg (fun z => upd z 6 _) hF.symm) rfl
      · refine ⟨fun o ho es vs f' S' hve hvp hf hx hK hE => ?_⟩
        obtain rfl := Option.some.inj ho
        refine ⟨want_none rfl, fun _ _ => ?_, (fun _ h => by cases h), (fun h _ => by cases h), (fun h _ => by cases h)⟩
        have hF := fr_next (rfl) ((hf 0 6 (by kernel_rfl) rfl).trans (show vs 0 = .pointer (some ⟨pg0, 0, none⟩) from hvp 0 (by kernel_rfl)))
        refine ls_fr hF ?_
        refine ls_val (v := .pointer (some ⟨pg0, 0, none⟩)) rfl rfl (by kernel_rfl) (fun w => by kernel_rfl) ?_
        exact ls_finp (.pointer (some ⟨pg0, 0, none⟩)) (congrArg (fun z => upd z 7 _) hF.symm) rfl
      · refine ⟨fun o ho es vs f' S' hve hvp hf hx hK hE => ?_⟩
        obtain rfl := Option.some.inj ho
        refine ⟨want_none rfl, fun _ _ => ?_, (fun _ h => by cases h), (fun h _ => by cases h), (fun h _ => by cases h)⟩
        have hF := fr_next (rfl) ((hf 1 7 (by kernel_rfl) rfl).trans (show vs 1 = .pointer (some ⟨pg0, 0, none⟩) from hvp 1 (by kernel_rfl)))
        refine ls_fr hF ?_
        refine ls_val (v := .pointer (some ⟨pg0, (0 + 4), none⟩)) rfl rfl (by kernel_rfl) (fun w => by kernel_rfl) ?_
        exact ls_finp (.pointer (some ⟨pg0, (0 + 4), none⟩)) (congrArg (fun z => upd z 8 _) hF.symm) rfl
      · refine ⟨fun o ho es vs f' S' hve hvp hf hx hK hE => ?_⟩
        obtain rfl := Option.some.inj ho
        refine ⟨want_none rfl, fun _ _ => ?_, (fun _ h => by cases h), (fun h _ => by cases h), (fun h _ => by cases h)⟩
        have hF := fr_next (rfl) ((hf 2 8 (by kernel_rfl) rfl).trans (show vs 2 = .pointer (some ⟨pg0, (0 + 4), none⟩) from hvp 2 (by kernel_rfl)))
        refine ls_fr hF ?_
        refine ls_load (a0 := ⟨pg0, (0 + 4), none⟩) (v := .slice A0_3 v0.2.2.2.1.length c0_3) (de := (TypeDesc.slice 24)) rfl rfl (by kernel_rfl) rfl (by kernel_rfl) (by kernel_rfl) (by kernel_rfl) (fun w hs => (hs.var (k := 0) ((hK 0 (by rfl)).trans (by exact rfl)) (Sub4.trans (Sub4.all _) (Sub4.skip (n := 2) (len_app (len1 _) (len1 _)) (Sub4.skip (n := 1) (len1 _) (Sub4.skip (n := 1) (len1 _) (Sub4.head _ _))))))) ?_
        exact ls_finp (.slice A0_3 v0.2.2.2.1.length c0_3) (congrArg (fun z => upd z 9 _) hF.symm) rfl
      · refine ⟨fun o ho es vs f' S' hve hvp hf hx hK hE => ?_⟩
        obtain rfl := Option.some.inj ho
        refine ⟨want_none rfl, fun _ _ => ?_, (fun _ h => by cases h), (fun h _ => by cases h), (fun h _ => by cases h)⟩
        have hF := fr_next (rfl) ((hx 0 (by kernel_rfl)).trans (by kernel_rfl : (_ : Value) = .pointer (some ⟨pg0, 0, none⟩)))
        refine ls_fr hF ?_
        refine ls_val (v := .pointer (some ⟨pg0, 0, none⟩)) rfl rfl (by kernel_rfl) (fun w => by kernel_rfl) ?_
        exact ls_finp (.pointer (some ⟨pg0, 0, none⟩)) (congrArg (fun z => upd z 10 _) hF.symm) rfl
      · refine ⟨fun o ho es vs f' S' hve hvp hf hx hK hE => ?_⟩
        obtain rfl := Option.some.inj ho
        obtain rfl := hE rfl
        refine ⟨want_none rfl, (fun h _ => by cases h), (fun h _ => by cases h), fun _ _ => ?_, (fun _ h => by cases h)⟩
        have hF := fr_next (rfl) ((hf 4 10 (by kernel_rfl) rfl).trans (show vs 4 = .pointer (some ⟨pg0, 0, none⟩) from hvp 4 (by kernel_rfl)))
        refine ls_fr hF ?_
        refine ls_callb (fid := 50) (vals := #[.pointer (some ⟨pg0, 0, none⟩)]) (X := (Option Addr × Nat) × (Option Addr × Nat)) (fun x => .slice x.1.1 t6.1.length x.1.2) (fun x => stl [Ck.var 66 pg0 ((([Value.int .i64 v0.1.1] ++ [Value.int .i64 v0.1.2]) ++ ([Value.bool v0.2.1] ++ ([Value.int .i64 v0.2.2.1] ++ ([Value.slice A0_3 v0.2.2.2.1.length c0_3] ++ ([Value.map (some r0_4)] ++ [Value.slice A0_5 v0.2.2.2.2.2.length c0_5])))))), Ck.m1 r0_4 t6.2.1 x.2.1 t6.2.2.length x.2.2, Ck.sl T24 x.2.1 x.2.2 t6.2.2, Ck.ro T24 x.1.1 x.1.2 t6.1]) [0, 1, 2] [] [Ck.var 66 pg0 ((([Value.int .i64 v0.1.1] ++ [Value.int .i64 v0.1.2]) ++ ([Value.bool v0.2.1] ++ ([Value.int .i64 v0.2.2.1] ++ ([Value.slice A0_3 v0.2.2.2.1.length c0_3] ++ ([Value.map (some r0_4)] ++ [Value.slice A0_5 v0.2.2.2.2.2.length c0_5])))))), Ck.m1 r0_4 w0_4.1 A0_4 w0_4.2.length c0_4, Ck.sl T24 A0_4 c0_4 w0_4.2] [] 4 rfl rfl (by kernel_rfl) (fun w => by kernel_rfl) ⟨by exact rfl, by exact rfl, by exact rfl, trivial⟩ trivial (by decide) (fun w hs hb => alloc_Alloc_waiting.calls k pg0 A0_3 c0_3 r0_4 A0_5 c0_5 (v0.1, v0.2.1, v0.2.2.1, v0.2.2.2.1, (), v0.2.2.2.2.2) A0_4 c0_4 (w0_4.1, w0_4.2) t6 (lent b w [Ck.var 66 pg0 ((([Value.int .i64 v0.1.1] ++ [Value.int .i64 v0.1.2]) ++ ([Value.bool v0.2.1] ++ ([Value.int .i64 v0.2.2.1] ++ ([Value.slice A0_3 v0.2.2.2.1.length c0_3] ++ ([Value.map (some r0_4)] ++ [Value.slice A0_5 v0.2.2.2.2.2.length c0_5])))))), Ck.m1 r0_4 w0_4.1 A0_4 w0_4.2.length c0_4, Ck.sl T24 A0_4 c0_4 w0_4.2] []) hb (hs.ro R0_3 _ _) C0_3 (hs.ro R0_5 _ _) C0_5 hc7) ?_
        intro x8
        exact ls_fine (sput (sput (sput (sput (sput s0 0 (some (Ck.var 66 pg0 ((([Value.int .i64 v0.1.1] ++ [Value.int .i64 v0.1.2]) ++ ([Value.bool v0.2.1] ++ ([Value.int .i64 v0.2.2.1] ++ ([Value.slice A0_3 v0.2.2.2.1.length c0_3] ++ ([Value.map (some r0_4)] ++ [Value.slice A0_5 v0.2.2.2.2.2.length c0_5]))))))))) 1 (some (Ck.m1 r0_4 t6.2.1 x8.2.1 t6.2.2.length x8.2.2))) 2 (some (Ck.sl T24 x8.2.1 x8.2.2 t6.2.2))) 3 (some (Ck.var 59 g1 (([Value.bool false] ++ ([Value.slice none 0 0] ++ [Value.slice none 0 0])))))) 4 (some (Ck.ro T24 x8.1.1 x8.1.2 t6.1))) (.slice x8.1.1 t6.1.length x8.1.2) (congrArg (fun z => upd z 11 _) hF.symm) (show (fun (es : Nat → Value) (S' : Sto) => ∃ (x8 : (Option Addr × Nat) × (Option Addr × Nat)), es 5 = .slice x8.1.1 t6.1.length x8.1.2 ∧ S' = sput (sput (sput (sput (sput s0 0 (some (Ck.var 66 pg0 ((([Value.int .i64 v0.1.1] ++ [Value.int .i64 v0.1.2]) ++ ([Value.bool v0.2.1] ++ ([Value.int .i64 v0.2.2.1] ++ ([Value.slice A0_3 v0.2.2.2.1.length c0_3] ++ ([Value.map (some r0_4)] ++ [Value.slice A0_5 v0.2.2.2.2.2.length c0_5]))))))))) 1 (some (Ck.m1 r0_4 t6.2.1 x8.2.1 t6.2.2.length x8.2.2))) 2 (some (Ck.sl T24 x8.2.1 x8.2.2 t6.2.2))) 3 (some (Ck.var 59 g1 (([Value.bool false] ++ ([Value.slice none 0 0] ++ [Value.slice none 0 0])))))) 4 (some (Ck.ro T24 x8.1.1 x8.1.2 t6.1))) (upv es 5 (.slice x8.1.1 t6.1.length x8.1.2)) (sput (sput (sput (sput (sput s0 0 (some (Ck.var 66 pg0 ((([Value.int .i64 v0.1.1] ++ [Value.int .i64 v0.1.2]) ++ ([Value.bool v0.2.1] ++ ([Value.int .i64 v0.2.2.1] ++ ([Value.slice A0_3 v0.2.2.2.1.length c0_3] ++ ([Value.map (some r0_4)] ++ [Value.slice A0_5 v0.2.2.2.2.2.length c0_5]))))))))) 1 (some (Ck.m1 r0_4 t6.2.1 x8.2.1 t6.2.2.length x8.2.2))) 2 (some (Ck.sl T24 x8.2.1 x8.2.2 t6.2.2))) 3 (some (Ck.var 59 g1 (([Value.bool false] ++ ([Value.slice none 0 0] ++ [Value.slice none 0 0])))))) 4 (some (Ck.ro T24 x8.1.1 x8.1.2 t6.1))) from ⟨x8, rfl, rfl⟩) rfl (keep_cons (by exact rfl) (keep_cons (by exact rfl) (keep_nil))) (sub_put (by exact rfl) (sub_put (by exact rfl) (sub_put (by exact rfl) (sub_put (by exact rfl) (sub_put (by exact rfl) (sub_nil _))))))
    · intro es vs f' S' hve hvp hf hx hK hE
      obtain ⟨x8, hv5, rfl⟩ := hE
      refine ls_fr (F := upd (upd (upd f' 2 (.pointer (some ⟨g1, 0, none⟩))) 9 (.slice A0_3 v0.2.2.2.1.length c0_3)) 11 (.slice x8.1.1 t6.1.length x8.1.2)) (fr_next (fr_next (fr_next (rfl) ((hx 2 (by kernel_rfl)).trans (by kernel_rfl : (_ : Value) = .pointer (some ⟨g1, 0, none⟩)))) ((hf 3 9 (by kernel_rfl) rfl).trans (show vs 3 = .slice A0_3 v0.2.2.2.1.length c0_3 from hvp 3 (by kernel_rfl)))) (((hf 5 11 (by kernel_rfl) rfl).trans (show vs 5 = es 5 from hvp 5 (by kernel_rfl))).trans hv5)) ?_
      refine ls_sub (sput (sput (sput (sput (sput s0 0 (some (Ck.var 66 pg0 ((([Value.int .i64 v0.1.1] ++ [Value.int .i64 v0.1.2]) ++ ([Value.bool v0.2.1] ++ ([Value.int .i64 v0.2.2.1] ++ ([Value.slice A0_3 v0.2.2.2.1.length c0_3] ++ ([Value.map (some r0_4)] ++ [Value.slice A0_5 v0.2.2.2.2.2.length c0_5]))))))))) 1 (some (Ck.m1 r0_4 t6.2.1 x8.2.1 t6.2.2.length x8.2.2))) 2 (some (Ck.sl T24 x8.2.1 x8.2.2 t6.2.2))) 3 (some (Ck.var 59 g1 (([Value.bool false] ++ ([Value.slice none 0 0] ++ [Value.slice none 0 0])))))) 4 (some (Ck.ro T24 x8.1.1 x8.1.2 t6.1))) (sub_put (by exact rfl) (sub_put (by exact rfl) (sub_put (by exact rfl) (sub_put (by exact rfl) (sub_put (by exact rfl) (sub_nil _)))))) ?_
      refine ls_val (v := .agg ⟨([Value.bool true] ++ ([Value.slice A0_3 v0.2.2.2.1.length c0_3] ++ [Value.slice x8.1.1 t6.1.length x8.1.2]))⟩) rfl rfl (by kernel_rfl) (fun w => by kernel_rfl) ?_
      refine ls_storec (g := g1) (off := 0) (v := .agg ⟨([Value.bool true] ++ ([Value.slice A0_3 v0.2.2.2.1.length c0_3] ++ [Value.slice x8.1.1 t6.1.length x8.1.2]))⟩) (vs := ([Value.bool true] ++ ([Value.slice A0_3 v0.2.2.2.1.length c0_3] ++ [Value.slice x8.1.1 t6.1.length x8.1.2]))) (cs := ([Value.bool false] ++ ([Value.slice none 0 0] ++ [Value.slice none 0 0]))) (ty := 59) 3 rfl rfl rfl (by kernel_rfl) (by kernel_rfl) (by kernel_rfl) (by exact rfl) (by kernel_rfl) (len_app (len1 _) (len_app (len1 _) (len1 _))) (one_app (one_cons rfl one_nil) (one_app (one_cons rfl one_nil) (one_cons rfl one_nil))) (hl_of (Sub4.all _) (len_eq (len_app (len1 _) (len_app (len1 _) (len1 _))) (len_app (len1 _) (len_app (len1 _) (len1 _))))) (cs' := ([Value.bool true] ++ ([Value.slice A0_3 v0.2.2.2.1.length c0_3] ++ [Value.slice x8.1.1 t6.1.length x8.1.2]))) (splc_all (len_eq (len_app (len1 _) (len_app (len1 _) (len1 _))) (len_app (len1 _) (len_app (len1 _) (len1 _))))) ?_
      refine ls_end ?_
      refine qn_then ?_
      refine cs_ret' ?_
      refine qr_freezero (T := T24) (A := x8.1.1) (c := x8.1.2) (l := t6.1) 4 (by exact rfl) ?_
      intro bs9 hle10 hok11 fR12 fC13
      obtain rfl := Option.some.inj H
      refine qr_res (rs := [_]) rfl (fun w' hs => ⟨[.agg ⟨([Value.bool true] ++ ([Value.slice A0_3 v0.2.2.2.1.length c0_3] ++ [Value.slice x8.1.1 t6.1.length x8.1.2]))⟩], (.cell (by kernel_rfl) (run_cellres (by kernel_rfl) (by kernel_rfl) (len_app (len1 _) (len_app (len1 _) (len1 _))) (hs.holds 3 _ (by exact rfl))) (.nil)), bs9, hle10, ((A0_3, c0_3), (x8.1.1, x8.1.2), (x8.2.1, x8.2.2)), rfl, ⟨⟨(Ro.mono hok11 hle10 R0_3), C0_3⟩, ⟨fR12, fC13⟩⟩, hs.pick (ts := [0, 1, 2]) (cs := [Ck.var 66 pg0 ((([Value.int .i64 v0.1.1] ++ [Value.int .i64 v0.1.2]) ++ ([Value.bool v0.2.1] ++ ([Value.int .i64 v0.2.2.1] ++ ([Value.slice A0_3 v0.2.2.2.1.length c0_3] ++ ([Value.map (some r0_4)] ++ [Value.slice A0_5 v0.2.2.2.2.2.length c0_5])))))), Ck.m1 r0_4 t6.2.1 x8.2.1 t6.2.2.length x8.2.2, Ck.sl T24 x8.2.1 x8.2.2 t6.2.2]) ⟨by exact rfl, by exact rfl, by exact rfl, trivial⟩ (by decide)⟩)

/-! ### (*shadowbox/alloc.Alloc).Undo: function 37 -/
def alloc_Alloc_Undo.tab7 : List (List Nat) := [[], [0], [0, 1], [0, 1, 2], [], [4], [4, 5], [0, 1, 2, 3, 4, 5, 6]]
def alloc_Alloc_Undo.f (k : Nat) (v0 : ((Int × Int) × Bool × Int × (List (Int × Int)) × Unit × (List (Int × Int)))) (w0_4 : (Bool × (List (Int × Int)))) (a1 : (Bool × (List (Int × Int)) × (List (Int × Int)))) : Option (((Int × Int) × Bool × Int × (List (Int × Int)) × Unit × (List (Int × Int))) × (Bool × (List (Int × Int)))) :=
  (alloc_Alloc_none.f k (v0.1, v0.2.1, v0.2.2.1, v0.2.2.2.1, (), v0.2.2.2.2.2) (w0_4.1, w0_4.2)).bind fun t2 => (if t2 = true then some ((v0.1, v0.2.1, v0.2.2.1, v0.2.2.2.1, (), v0.2.2.2.2.2), (w0_4.1, w0_4.2)) else (if a1.1 = true then (if (a1.2.2.length : Int) > (0 : Int) then (slices_Clone_43.f k a1.2.2).bind fun t10 => some ((v0.1, v0.2.1, v0.2.2.1, a1.2.1, (), v0.2.2.2.2.2), (true, t10)) else some ((v0.1, v0.2.1, v0.2.2.1, a1.2.1, (), v0.2.2.2.2.2), (false, ([] : List (Int × Int))))) else some ((v0.1, v0.2.1, v0.2.2.1, v0.2.2.2.1, (), v0.2.2.2.2.2), (w0_4.1, w0_4.2))))
set_option maxRecDepth 100000 in
set_option maxHeartbeats 4000000 in
theorem alloc_Alloc_Undo.calls (k : Nat) (pg0 : Nat) (A0_3 : Option Addr) (c0_3 : Nat) (r0_4 : Nat) (A0_5 : Option Addr) (c0_5 : Nat) (v0 : ((Int × Int) × Bool × Int × (List (Int × Int)) × Unit × (List (Int × Int)))) (A0_4 : Option Addr) (c0_4 : Nat) (w0_4 : (Bool × (List (Int × Int)))) (A1_1 : Option Addr) (c1_1 : Nat) (A1_2 : Option Addr) (c1_2 : Nat) (a1 : (Bool × (List (Int × Int)) × (List (Int × Int)))) (r : ((Int × Int) × Bool × Int × (List (Int × Int)) × Unit × (List (Int × Int))) × (Bool × (List (Int × Int)))) (b : Bs) (hs0 : St b (stl [Ck.var 66 pg0 ((([Value.int .i64 v0.1.1] ++ [Value.int .i64 v0.1.2]) ++ ([Value.bool v0.2.1] ++ ([Value.int .i64 v0.2.2.1] ++ ([Value.slice A0_3 v0.2.2.2.1.length c0_3] ++ ([Value.map (some r0_4)] ++ [Value.slice A0_5 v0.2.2.2.2.2.length c0_5])))))), Ck.m1 r0_4 w0_4.1 A0_4 w0_4.2.length c0_4, Ck.sl T24 A0_4 c0_4 w0_4.2]) b.w) (R0_3 : Ro b A0_3 (em T24 v0.2.2.2.1)) (C0_3 : v0.2.2.2.1.length ≤ c0_3) (R0_5 : Ro b A0_5 (em T24 v0.2.2.2.2.2)) (C0_5 : v0.2.2.2.2.2.length ≤ c0_5) (R1_1 : Ro b A1_1 (em T24 a1.2.1)) (C1_1 : a1.2.1.length ≤ c1_1) (R1_2 : Ro b A1_2 (em T24 a1.2.2)) (C1_2 : a1.2.2.length ≤ c1_2) (H : alloc_Alloc_Undo.f k v0 w0_4 a1 = some r) :
    Calls Try.prog 37 #[.pointer (some ⟨pg0, 0, none⟩), .agg ⟨([Value.bool a1.1] ++ ([Value.slice A1_1 a1.2.1.length c1_1] ++ [Value.slice A1_2 a1.2.2.length c1_2]))⟩] b.w fun e w' => ∃ x : (Option Addr × Nat) × (Option Addr × Nat) × (Option Addr × Nat), e = .returned (.tuple #[]) ∧ ((Ro b x.1.1 (em T24 r.1.2.2.2.1) ∧ r.1.2.2.2.1.length ≤ x.1.2) ∧ (Ro b x.2.1.1 (em T24 r.1.2.2.2.2.2) ∧ r.1.2.2.2.2.2.length ≤ x.2.1.2)) ∧ St b (stl [Ck.var 66 pg0 ((([Value.int .i64 r.1.1.1] ++ [Value.int .i64 r.1.1.2]) ++ ([Value.bool r.1.2.1] ++ ([Value.int .i64 r.1.2.2.1] ++ ([Value.slice x.1.1 r.1.2.2.2.1.length x.1.2] ++ ([Value.map (some r0_4)] ++ [Value.slice x.2.1.1 r.1.2.2.2.2.2.length x.2.1.2])))))), Ck.m1 r0_4 r.2.1 x.2.2.1 r.2.2.length x.2.2.2, Ck.sl T24 x.2.2.1 x.2.2.2 r.2.2]) w' := by
  unfold alloc_Alloc_Undo.f at H
  refine enterb (n := 31) Try.func37 rfl (by kernel_rfl) (by kernel_rfl) hs0 ?_
  refine cs_sub (sput (sput (sput s0 0 (some (Ck.var 66 pg0 ((([Value.int .i64 v0.1.1] ++ [Value.int .i64 v0.1.2]) ++ ([Value.bool v0.2.1] ++ ([Value.int .i64 v0.2.2.1] ++ ([Value.slice A0_3 v0.2.2.2.1.length c0_3] ++ ([Value.map (some r0_4)] ++ [Value.slice A0_5 v0.2.2.2.2.2.length c0_5]))))))))) 1 (some (Ck.m1 r0_4 w0_4.1 A0_4 w0_4.2.length c0_4))) 2 (some (Ck.sl T24 A0_4 c0_4 w0_4.2))) (sub_put (by exact rfl) (sub_put (by exact rfl) (sub_put (by exact rfl) (sub_nil _)))) ?_
  refine cs_seq ?_
  refine cs_region (l := [_]) ?_
  refine ls_new rfl rfl (by kernel_rfl) 3 (fun g => .pointer (some ⟨g, 0, none⟩)) (.cells ⟨([Value.bool a1.1] ++ ([Value.slice A1_1 a1.2.1.length c1_1] ++ [Value.slice A1_2 a1.2.2.length c1_2]))⟩ 59) (fun w => by kernel_rfl) ?_
  intro g1
  refine ls_end ?_
  refine qn_then ?_
  refine cs_seq ?_
  refine cs_seq ?_
  refine cs_region (l := [_, _, _, _, _, _, _]) ?_
  refine ls_val (v := .pointer (some ⟨pg0, 0, none⟩)) rfl rfl (by kernel_rfl) (fun w => by kernel_rfl) ?_
  obtain ⟨t2, hc3, H⟩ := bind_some H
  refine ls_callb (fid := 48) (vals := #[.pointer (some ⟨pg0, 0, none⟩)]) (X := Unit) (fun x => .bool t2) (fun x => stl [Ck.var 66 pg0 ((([Value.int .i64 v0.1.1] ++ [Value.int .i64 v0.1.2]) ++ ([Value.bool v0.2.1] ++ ([Value.int .i64 v0.2.2.1] ++ ([Value.slice A0_3 v0.2.2.2.1.length c0_3] ++ ([Value.map (some r0_4)] ++ [Value.slice A0_5 v0.2.2.2.2.2.length c0_5])))))), Ck.m1 r0_4 w0_4.1 A0_4 w0_4.2.length c0_4, Ck.sl T24 A0_4 c0_4 w0_4.2]) [0, 1, 2] [] [Ck.var 66 pg0 ((([Value.int .i64 v0.1.1] ++ [Value.int .i64 v0.1.2]) ++ ([Value.bool v0.2.1] ++ ([Value.int .i64 v0.2.2.1] ++ ([Value.slice A0_3 v0.2.2.2.1.length c0_3] ++ ([Value.map (some r0_4)] ++ [Value.slice A0_5 v0.2.2.2.2.2.length c0_5])))))), Ck.m1 r0_4 w0_4.1 A0_4 w0_4.2.length c0_4, Ck.sl T24 A0_4 c0_4 w0_4.2] [] 4 rfl rfl (by kernel_rfl) (fun w => by kernel_rfl) ⟨by exact rfl, by exact rfl, by exact rfl, trivial⟩ trivial (by decide) (fun w hs hb => alloc_Alloc_none.calls k pg0 A0_3 c0_3 r0_4 A0_5 c0_5 (v0.1, v0.2.1, v0.2.2.1, v0.2.2.2.1, (), v0.2.2.2.2.2) A0_4 c0_4 (w0_4.1, w0_4.2) t2 (lent b w [Ck.var 66 pg0 ((([Value.int .i64 v0.1.1] ++ [Value.int .i64 v0.1.2]) ++ ([Value.bool v0.2.1] ++ ([Value.int .i64 v0.2.2.1] ++ ([Value.slice A0_3 v0.2.2.2.1.length c0_3] ++ ([Value.map (some r0_4)] ++ [Value.slice A0_5 v0.2.2.2.2.2.length c0_5])))))), Ck.m1 r0_4 w0_4.1 A0_4 w0_4.2.length c0_4, Ck.sl T24 A0_4 c0_4 w0_4.2] []) hb (hs.ro R0_3 _ _) C0_3 (hs.ro R0_5 _ _) C0_5 hc3) ?_
  intro x4
  refine ls_val (v := .bool t2) rfl rfl (by kernel_rfl) (fun w => by kernel_rfl) ?_
  by_cases q5 : t2 = true
  · replace H := ite_t q5 H
    refine ls_know (c := true) (q5) 6 (by kernel_rfl) ?_
    refine ls_off (j := 2) (t := 6) (b := false) (c := true) rfl rfl (by kernel_rfl) (by kernel_rfl) rfl rfl (by kernel_rfl) ?_
    refine ls_off (j := 2) (t := 6) (b := false) (c := true) rfl rfl (by kernel_rfl) (by kernel_rfl) rfl rfl (by kernel_rfl) ?_
    refine ls_off (j := 2) (t := 6) (b := false) (c := true) rfl rfl (by kernel_rfl) (by kernel_rfl) rfl rfl (by kernel_rfl) ?_
    refine ls_val (v := .bool true) rfl rfl (by kernel_rfl) (fun w => by kernel_rfl) ?_
    refine ls_end ?_
    refine qn_then ?_
    refine cs_true (by kernel_rfl) ?_
    refine cs_ret' ?_
    refine qr_then ?_
    obtain rfl := Option.some.inj H
    refine qr_res (rs := []) rfl (fun w' hs => ⟨[], (.nil), ((A0_3, c0_3), (A0_5, c0_5), (A0_4, c0_4)), rfl, ⟨⟨R0_3, C0_3⟩, ⟨R0_5, C0_5⟩⟩, hs.pick (ts := [0, 1, 2]) (cs := [Ck.var 66 pg0 ((([Value.int .i64 v0.1.1] ++ [Value.int .i64 v0.1.2]) ++ ([Value.bool v0.2.1] ++ ([Value.int .i64 v0.2.2.1] ++ ([Value.slice A0_3 v0.2.2.2.1.length c0_3] ++ ([Value.map (some r0_4)] ++ [Value.slice A0_5 v0.2.2.2.2.2.length c0_5])))))), Ck.m1 r0_4 w0_4.1 A0_4 w0_4.2.length c0_4, Ck.sl T24 A0_4 c0_4 w0_4.2]) ⟨by exact rfl, by exact rfl, by exact rfl, trivial⟩ (by decide)⟩)
  · replace H := ite_f q5 H
    refine ls_know (c := false) (Bool.eq_false_iff.mpr q5) 6 (by kernel_rfl) ?_
    refine ls_on (j := 2) (t := 6) (b := false) rfl rfl (by kernel_rfl) (by kernel_rfl) ?_
    refine ls_val (v := .pointer (some ⟨g1, (0 + 0), none⟩)) rfl rfl (by kernel_rfl) (fun w => by kernel_rfl) ?_
    refine ls_on (j := 2) (t := 6) (b := false) rfl rfl (by kernel_rfl) (by kernel_rfl) ?_
    refine ls_load (a0 := ⟨g1, (0 + 0), none⟩) (v := .bool a1.1) (de := TypeDesc.bool) rfl rfl (by kernel_rfl) rfl (by kernel_rfl) (by kernel_rfl) (by kernel_rfl) (fun w hs => (hs.var (k := 3) (by exact rfl) (Sub4.trans (Sub4.all _) (Sub4.head _ _)))) ?_
    refine ls_on (j := 2) (t := 6) (b := false) rfl rfl (by kernel_rfl) (by kernel_rfl) ?_
    refine ls_val (v := .bool (!a1.1)) rfl rfl (by kernel_rfl) (fun w => by kernel_rfl) ?_
    refine ls_val (v := .bool (!a1.1)) rfl rfl (by kernel_rfl) (fun w => by kernel_rfl) ?_
    refine ls_end ?_
    refine qn_then ?_
    by_cases q6 : a1.1 = true
    · replace H := ite_t q6 H
      refine cs_know (c := false) (congrArg Bool.not (q6)) 10 (by kernel_rfl) ?_
      refine cs_false (by kernel_rfl) ?_
      refine cs_skip' ?_
      refine qn_then ?_
      refine cs_seq ?_
      refine cs_region (l := [_, _, _, _, _]) ?_
      refine ls_val (v := .pointer (some ⟨pg0, 0, none⟩)) rfl rfl (by kernel_rfl) (fun w => by kernel_rfl) ?_
      refine ls_val (v := .pointer (some ⟨pg0, 0, none⟩)) rfl rfl (by kernel_rfl) (fun w => by kernel_rfl) ?_
      refine ls_val (v := .pointer (some ⟨pg0, (0 + 5), none⟩)) rfl rfl (by kernel_rfl) (fun w => by kernel_rfl) ?_
      refine ls_load (a0 := ⟨pg0, (0 + 5), none⟩) (v := .map (some r0_4)) (de := (TypeDesc.map 3 22)) rfl rfl (by kernel_rfl) rfl (by kernel_rfl) (by kernel_rfl) (by kernel_rfl) (fun w hs => (hs.var (k := 0) (by exact rfl) (Sub4.trans (Sub4.all _) (Sub4.skip (n := 2) (len_app (len1 _) (len1 _)) (Sub4.skip (n := 1) (len1 _) (Sub4.skip (n := 1) (len1 _) (Sub4.skip (n := 1) (len1 _) (Sub4.head _ _)))))))) ?_
      refine ls_m1clear (r := r0_4) (p := w0_4.1) (A := A0_4) (m := w0_4.2.length) (c := c0_4) (et := 22) (kt := 3) 1 rfl rfl rfl (by kernel_rfl) (by kernel_rfl) (by exact rfl) ?_
      refine ls_end ?_
      refine qn_then ?_
      refine cs_seq ?_
      refine cs_seq ?_
      refine cs_region (l := [_, _, _, _]) ?_
      refine ls_val (v := .pointer (some ⟨g1, (0 + 2), none⟩)) rfl rfl (by kernel_rfl) (fun w => by kernel_rfl) ?_
      refine ls_load (a0 := ⟨g1, (0 + 2), none⟩) (v := .slice A1_2 a1.2.2.length c1_2) (de := (TypeDesc.slice 24)) rfl rfl (by kernel_rfl) rfl (by kernel_rfl) (by kernel_rfl) (by kernel_rfl) (fun w hs => (hs.var (k := 3) (by exact rfl) (Sub4.trans (Sub4.all _) (Sub4.skip (n := 1) (len1 _) (Sub4.skip (n := 1) (len1 _) (Sub4.all _)))))) ?_
      refine ls_val (v := .int .i64 (a1.2.2.length : Int)) rfl rfl (by kernel_rfl) (fun w => by kernel_rfl) ?_
      refine ls_val (v := .bool (decide ((a1.2.2.length : Int) > (0 : Int)))) rfl rfl (by kernel_rfl) (fun w => by kernel_rfl) ?_
      refine ls_end ?_
      refine qn_then ?_
      by_cases q7 : (a1.2.2.length : Int) > (0 : Int)
      · replace H := ite_t q7 H
        refine cs_know (c := true) (dec_t q7) 18 (by kernel_rfl) ?_
        refine cs_true (by kernel_rfl) ?_
        obtain ⟨s9_0, hs9_0⟩ : ∃ z : Value → Sto → Prop, z = (fun v R => v = .pointer (some ⟨pg0, 0, none⟩) ∧ R = s0) := ⟨_, rfl⟩
        refine have_op (l := [_, _, _, _, _, _, _, _]) alloc_Alloc_Undo.tab7 4 0 (fun sp => sp 0 = s9_0) (fun sp on hA hon => ?_) (fun ops9_0 => ?_)
        · refine ⟨fun o ho vs Rs f' S' w hp hf hx hS hR hs => ?_⟩
          obtain rfl := Option.some.inj ho
          rw [hA, hs9_0]
          refine And.intro (fun a ha => (want_none rfl a ha).trans hon.symm) (And.intro (fun _ => ?_) (fun h => by rw [hon] at h; cases h))
          have hF := fr_next (rfl) ((hx 0 (by kernel_rfl)).trans (by kernel_rfl : (_ : Value) = .pointer (some ⟨pg0, 0, none⟩)))
          refine ls_fr hF ?_
          refine ls_val (v := .pointer (some ⟨pg0, 0, none⟩)) rfl rfl (by kernel_rfl) (fun w => by kernel_rfl) ?_
          exact ls_fin s0 (.pointer (some ⟨pg0, 0, none⟩)) (congrArg (fun z => upd z 19 _) hF.symm) ⟨rfl, rfl⟩ (sub_nil _)
        obtain ⟨s9_1, hs9_1⟩ : ∃ z : Value → Sto → Prop, z = (fun v R => v = .pointer (some ⟨pg0, 0, none⟩) ∧ R = s0) := ⟨_, rfl⟩
        refine have_op (l := [_, _, _, _, _, _, _, _]) alloc_Alloc_Undo.tab7 4 1 (fun sp => sp 1 = s9_1 ∧ sp 0 = s9_0) (fun sp on hA hon => ?_) (fun ops9_1 => ?_)
        · refine ⟨fun o ho vs Rs f' S' w hp hf hx hS hR hs => ?_⟩
          obtain rfl := Option.some.inj ho
          obtain ⟨hv0, hR0⟩ := (spe hA.2 hs9_0 (hp 0 (by kernel_rfl)))
          rw [hA.1, hs9_1]
          refine And.intro (fun a ha => (want_none rfl a ha).trans hon.symm) (And.intro (fun _ => ?_) (fun h => by rw [hon] at h; cases h))
          have hF := fr_next (rfl) ((hf 0 19 (by kernel_rfl) rfl).trans hv0)
          refine ls_fr hF ?_
          refine ls_val (v := .pointer (some ⟨pg0, 0, none⟩)) rfl rfl (by kernel_rfl) (fun w => by kernel_rfl) ?_
          exact ls_fin s0 (.pointer (some ⟨pg0, 0, none⟩)) (congrArg (fun z => upd z 20 _) hF.symm) ⟨rfl, rfl⟩ (sub_nil _)
        obtain ⟨s9_2, hs9_2⟩ : ∃ z : Value → Sto → Prop, z = (fun v R => v = .pointer (some ⟨pg0, (0 + 5), none⟩) ∧ R = s0) := ⟨_, rfl⟩
        refine have_op (l := [_, _, _, _, _, _, _, _]) alloc_Alloc_Undo.tab7 4 2 (fun sp => sp 2 = s9_2 ∧ sp 1 = s9_1) (fun sp on hA hon => ?_) (fun ops9_2 => ?_)
        · refine ⟨fun o ho vs Rs f' S' w hp hf hx hS hR hs => ?_⟩
          obtain rfl := Option.some.inj ho
          obtain ⟨hv1, hR1⟩ := (spe hA.2 hs9_1 (hp 1 (by kernel_rfl)))
          rw [hA.1, hs9_2]
          refine And.intro (fun a ha => (want_none rfl a ha).trans hon.symm) (And.intro (fun _ => ?_) (fun h => by rw [hon] at h; cases h))
          have hF := fr_next (rfl) ((hf 1 20 (by kernel_rfl) rfl).trans hv1)
          refine ls_fr hF ?_
          refine ls_val (v := .pointer (some ⟨pg0, (0 + 5), none⟩)) rfl rfl (by kernel_rfl) (fun w => by kernel_rfl) ?_
          exact ls_fin s0 (.pointer (some ⟨pg0, (0 + 5), none⟩)) (congrArg (fun z => upd z 21 _) hF.symm) ⟨rfl, rfl⟩ (sub_nil _)
        obtain ⟨s9_3, hs9_3⟩ : ∃ z : Value → Sto → Prop, z = (fun v R => v = .map (some r0_4) ∧ R = s0) := ⟨_, rfl⟩
        refine have_op (l := [_, _, _, _, _, _, _, _]) alloc_Alloc_Undo.tab7 4 3 (fun sp => sp 3 = s9_3 ∧ sp 2 = s9_2) (fun sp on hA hon => ?_) (fun ops9_3 => ?_)
        · refine ⟨fun o ho vs Rs f' S' w hp hf hx hS hR hs => ?_⟩
          obtain rfl := Option.some.inj ho
          obtain ⟨hv2, hR2⟩ := (spe hA.2 hs9_2 (hp 2 (by kernel_rfl)))
          rw [hA.1, hs9_3]
          refine And.intro (fun a ha => (want_none rfl a ha).trans hon.symm) (And.intro (fun _ => ?_) (fun h => by rw [hon] at h; cases h))
          have hF := fr_next (rfl) ((hf 2 21 (by kernel_rfl) rfl).trans hv2)
          refine ls_fr hF ?_
          refine ls_load (a0 := ⟨pg0, (0 + 5), none⟩) (v := .map (some r0_4)) (de := (TypeDesc.map 3 22)) rfl rfl (by kernel_rfl) rfl (by kernel_rfl) (by kernel_rfl) (by kernel_rfl) (fun w1 hs1 => cell_step hs1.below.bw (hs.var (k := 0) ((hS 0 (by kernel_rfl)).trans (by exact rfl)) (Sub4.trans (Sub4.all _) (Sub4.skip (n := 2) (len_app (len1 _) (len1 _)) (Sub4.skip (n := 1) (len1 _) (Sub4.skip (n := 1) (len1 _) (Sub4.skip (n := 1) (len1 _) (Sub4.head _ _)))))))) ?_
          exact ls_fin s0 (.map (some r0_4)) (congrArg (fun z => upd z 22 _) hF.symm) ⟨rfl, rfl⟩ (sub_nil _)
        obtain ⟨s9_4, hs9_4⟩ : ∃ z : Value → Sto → Prop, z = (fun v R => v = .pointer (some ⟨g1, (0 + 2), none⟩) ∧ R = s0) := ⟨_, rfl⟩
        refine have_op (l := [_, _, _, _, _, _, _, _]) alloc_Alloc_Undo.tab7 4 4 (fun sp => sp 4 = s9_4) (fun sp on hA hon => ?_) (fun ops9_4 => ?_)
        · refine ⟨fun o ho vs Rs f' S' w hp hf hx hS hR hs => ?_⟩
          obtain rfl := Option.some.inj ho
          rw [hA, hs9_4]
          refine And.intro (fun a ha => (want_none rfl a ha).trans hon.symm) (And.intro (fun _ => ?_) (fun h => by rw [hon] at h; cases h))
          have hF := fr_next (rfl) ((hx 3 (by kernel_rfl)).trans (by kernel_rfl : (_ : Value) = .pointer (some ⟨g1, 0, none⟩)))
          refine ls_fr hF ?_
          refine ls_val (v := .pointer (some ⟨g1, (0 + 2), none⟩)) rfl rfl (by kernel_rfl) (fun w => by kernel_rfl) ?_
          exact ls_fin s0 (.pointer (some ⟨g1, (0 + 2), none⟩)) (congrArg (fun z => upd z 23 _) hF.symm) ⟨rfl, rfl⟩ (sub_nil _)
        obtain ⟨s9_5, hs9_5⟩ : ∃ z : Value → Sto → Prop, z = (fun v R => v = .slice A1_2 a1.2.2.length c1_2 ∧ R = s0) := ⟨_, rfl⟩
        refine have_op (l := [_, _, _, _, _, _, _, _]) alloc_Alloc_Undo.tab7 4 5 (fun sp => sp 5 = s9_5 ∧ sp 4 = s9_4) (fun sp on hA hon => ?_) (fun ops9_5 => ?_)
        · refine ⟨fun o ho vs Rs f' S' w hp hf hx hS hR hs => ?_⟩
          obtain rfl := Option.some.inj ho
          obtain ⟨hv4, hR4⟩ := (spe hA.2 hs9_4 (hp 4 (by kernel_rfl)))
          rw [hA.1, hs9_5]
          refine And.intro (fun a ha => (want_none rfl a ha).trans hon.symm) (And.intro (fun _ => ?_) (fun h => by rw [hon] at h; cases h))
          have hF := fr_next (rfl) ((hf 4 23 (by kernel_rfl) rfl).trans hv4)
          refine ls_fr hF ?_
          refine ls_load (a0 := ⟨g1, (0 + 2), none⟩) (v := .slice A1_2 a1.2.2.length c1_2) (de := (TypeDesc.slice 24)) rfl rfl (by kernel_rfl) rfl (by kernel_rfl) (by kernel_rfl) (by kernel_rfl) (fun w1 hs1 => cell_step hs1.below.bw (hs.var (k := 3) ((hS 3 (by kernel_rfl)).trans (by exact rfl)) (Sub4.trans (Sub4.all _) (Sub4.skip (n := 1) (len1 _) (Sub4.skip (n := 1) (len1 _) (Sub4.all _)))))) ?_
          exact ls_fin s0 (.slice A1_2 a1.2.2.length c1_2) (congrArg (fun z => upd z 24 _) hF.symm) ⟨rfl, rfl⟩ (sub_nil _)
        obtain ⟨t10, hc11, H⟩ := bind_some H
        obtain ⟨s9_6, hs9_6⟩ : ∃ z : Value → Sto → Prop, z = (fun v R => ∃ x12 : (Option Addr × Nat), v = .slice x12.1 t10.length x12.2 ∧ R = stl [Ck.sl T24 x12.1 x12.2 t10]) := ⟨_, rfl⟩
        refine have_op (l := [_, _, _, _, _, _, _, _]) alloc_Alloc_Undo.tab7 4 6 (fun sp => sp 6 = s9_6 ∧ sp 5 = s9_5) (fun sp on hA hon => ?_) (fun ops9_6 => ?_)
        · refine ⟨fun o ho vs Rs f' S' w hp hf hx hS hR hs => ?_⟩
          obtain rfl := Option.some.inj ho
          obtain ⟨hv5, hR5⟩ := (spe hA.2 hs9_5 (hp 5 (by kernel_rfl)))
          rw [hA.1, hs9_6]
          refine And.intro (fun a ha => (want_none rfl a ha).trans hon.symm) (And.intro (fun _ => ?_) (fun h => by rw [hon] at h; cases h))
          have hF := fr_next (rfl) ((hf 5 24 (by kernel_rfl) rfl).trans hv5)
          refine ls_fr hF ?_
          refine ls_call (fid := 43) (vals := #[.slice A1_2 a1.2.2.length c1_2]) (X := (Option Addr × Nat)) (fun x => .slice x.1 t10.length x.2) (fun x => stl [Ck.sl T24 x.1 x.2 t10]) 0 rfl rfl (by kernel_rfl) (fun w => by kernel_rfl) (fun w1 hs1 => slices_Clone_43.calls k A1_2 c1_2 a1.2.2 t10 (bw w1) (St.refl w1) (Rd.ro (Rd.step (hs.old R1_2) hs1.below.bw)) C1_2 hc11) ?_
          intro x12
          exact ls_fin (stl [Ck.sl T24 x12.1 x12.2 t10]) (.slice x12.1 t10.length x12.2) (congrArg (fun z => upd z 25 _) hF.symm) ⟨x12, rfl, rfl⟩ (sub_join _)
        refine cs_draw alloc_Alloc_Undo.tab7 7 4 (spl [s9_0, s9_1, s9_2, s9_3, s9_4, s9_5, s9_6]) (onl [true, true, true, true, true, true, true]) (by kernel_rfl) (by kernel_rfl) (by kernel_rfl) (by kernel_rfl) (rs := [_]) rfl (by kernel_rfl) (by kernel_rfl) (all_snoc (all_snoc (all_snoc (all_snoc (all_snoc (all_snoc (all_snoc (all_nil) (ops9_0 _ _ rfl rfl)) (ops9_1 _ _ ⟨rfl, rfl⟩ rfl)) (ops9_2 _ _ ⟨rfl, rfl⟩ rfl)) (ops9_3 _ _ ⟨rfl, rfl⟩ rfl)) (ops9_4 _ _ rfl rfl)) (ops9_5 _ _ ⟨rfl, rfl⟩ rfl)) (ops9_6 _ _ ⟨rfl, rfl⟩ rfl)) ?_
        intro vs Rs f' S' hp hf hx hS hR
        obtain ⟨hv3, hR3⟩ := (spe rfl hs9_3 (hp 3 (by kernel_rfl)))
        obtain ⟨x12, hv6, hR6⟩ := (spe rfl hs9_6 (hp 6 (by kernel_rfl)))
        have hT6_0 := (hR 6 0 (by kernel_rfl) (by decide)).trans (congrFun hR6 0)
        refine ls_fr (F := upd (upd (upd (upd f' 0 (.pointer (some ⟨pg0, 0, none⟩))) 3 (.pointer (some ⟨g1, 0, none⟩))) 22 (.map (some r0_4))) 25 (.slice x12.1 t10.length x12.2)) (fr_next (fr_next (fr_next (fr_next (rfl) ((hx 0 (by kernel_rfl)).trans (by kernel_rfl : (_ : Value) = .pointer (some ⟨pg0, 0, none⟩)))) ((hx 3 (by kernel_rfl)).trans (by kernel_rfl : (_ : Value) = .pointer (some ⟨g1, 0, none⟩)))) ((hf 3 22 (by kernel_rfl) rfl).trans hv3)) ((hf 6 25 (by kernel_rfl) rfl).trans hv6)) ?_
        refine ls_sub (sput (sput (sput (sput s0 0 (some (Ck.var 66 pg0 ((([Value.int .i64 v0.1.1] ++ [Value.int .i64 v0.1.2]) ++ ([Value.bool v0.2.1] ++ ([Value.int .i64 v0.2.2.1] ++ ([Value.slice A0_3 v0.2.2.2.1.length c0_3] ++ ([Value.map (some r0_4)] ++ [Value.slice A0_5 v0.2.2.2.2.2.length c0_5]))))))))) 1 (some (Ck.m1 r0_4 false none 0 0))) 3 (some (Ck.var 59 g1 (([Value.bool a1.1] ++ ([Value.slice A1_1 a1.2.1.length c1_1] ++ [Value.slice A1_2 a1.2.2.length c1_2])))))) 52 (some (Ck.sl T24 x12.1 x12.2 t10))) (sub_put (by exact hT6_0) (sub_put ((hS 3 (by kernel_rfl)).trans (by exact rfl)) (sub_put ((hS 1 (by kernel_rfl)).trans (by exact rfl)) (sub_put ((hS 0 (by kernel_rfl)).trans (by exact rfl)) (sub_nil _))))) ?_
        refine ls_m1put (r := r0_4) (p := false) (A := none) (m := 0) (c := 0) (A' := x12.1) (m' := t10.length) (c' := x12.2) (kt := 3) (et := 22) 1 rfl rfl rfl (by kernel_rfl) (by kernel_rfl) (by kernel_rfl) (by kernel_rfl) (by exact rfl) ?_
        refine ls_end ?_
        refine qn_then ?_
        refine cs_region (l := [_, _, _, _, _, _]) ?_
        refine ls_val (v := .pointer (some ⟨pg0, 0, none⟩)) rfl rfl (by kernel_rfl) (fun w => by kernel_rfl) ?_
        refine ls_val (v := .pointer (some ⟨g1, (0 + 1), none⟩)) rfl rfl (by kernel_rfl) (fun w => by kernel_rfl) ?_
        refine ls_load (a0 := ⟨g1, (0 + 1), none⟩) (v := .slice A1_1 a1.2.1.length c1_1) (de := (TypeDesc.slice 24)) rfl rfl (by kernel_rfl) rfl (by kernel_rfl) (by kernel_rfl) (by kernel_rfl) (fun w hs => (hs.var (k := 3) (by exact rfl) (Sub4.trans (Sub4.all _) (Sub4.skip (n := 1) (len1 _) (Sub4.head _ _))))) ?_
        refine ls_val (v := .pointer (some ⟨pg0, 0, none⟩)) rfl rfl (by kernel_rfl) (fun w => by kernel_rfl) ?_
        refine ls_val (v := .pointer (some ⟨pg0, (0 + 4), none⟩)) rfl rfl (by kernel_rfl) (fun w => by kernel_rfl) ?_
        refine ls_storec (g := pg0) (off := (0 + 4)) (v := .slice A1_1 a1.2.1.length c1_1) (vs := [Value.slice A1_1 a1.2.1.length c1_1]) (cs := (([Value.int .i64 v0.1.1] ++ [Value.int .i64 v0.1.2]) ++ ([Value.bool v0.2.1] ++ ([Value.int .i64 v0.2.2.1] ++ ([Value.slice A0_3 v0.2.2.2.1.length c0_3] ++ ([Value.map (some r0_4)] ++ [Value.slice A0_5 v0.2.2.2.2.2.length c0_5])))))) (ty := 66) 0 rfl rfl rfl (by kernel_rfl) (by kernel_rfl) (by kernel_rfl) (by exact rfl) (by kernel_rfl) (len1 _) (one_cons rfl one_nil) (hl_of (Sub4.trans (Sub4.all _) (Sub4.skip (n := 2) (len_app (len1 _) (len1 _)) (Sub4.skip (n := 1) (len1 _) (Sub4.skip (n := 1) (len1 _) (Sub4.head _ _))))) (len_eq (len1 _) (len1 _))) (cs' := (([Value.int .i64 v0.1.1] ++ [Value.int .i64 v0.1.2]) ++ ([Value.bool v0.2.1] ++ ([Value.int .i64 v0.2.2.1] ++ ([Value.slice A1_1 a1.2.1.length c1_1] ++ ([Value.map (some r0_4)] ++ [Value.slice A0_5 v0.2.2.2.2.2.length c0_5])))))) (splc_in (Sub4.all _) (splc_skip (n := 2) (len_app (len1 _) (len1 _)) (splc_skip (n := 1) (len1 _) (splc_skip (n := 1) (len1 _) (splc_head (len_eq (len1 _) (len1 _)))))) (splc_all (len_eq (len_app (len_app (len1 _) (len1 _)) (len_app (len1 _) (len_app (len1 _) (len_app (len1 _) (len_app (len1 _) (len1 _)))))) (len_app (len_app (len1 _) (len1 _)) (len_app (len1 _) (len_app (len1 _) (len_app (len1 _) (len_app (len1 _) (len1 _)))))))) (hl_of (Sub4.skip (n := 2) (len_app (len1 _) (len1 _)) (Sub4.skip (n := 1) (len1 _) (Sub4.skip (n := 1) (len1 _) (Sub4.head _ _)))) (len_eq (len1 _) (len1 _)))) ?_
        refine ls_end ?_
        obtain rfl := Option.some.inj H
        refine qn_res (rs := []) rfl (fun w' hs => ⟨[], (.nil), ((A1_1, c1_1), (A0_5, c0_5), (x12.1, x12.2)), rfl, ⟨⟨R1_1, C1_1⟩, ⟨R0_5, C0_5⟩⟩, hs.pick (ts := [0, 1, 52]) (cs := [Ck.var 66 pg0 ((([Value.int .i64 v0.1.1] ++ [Value.int .i64 v0.1.2]) ++ ([Value.bool v0.2.1] ++ ([Value.int .i64 v0.2.2.1] ++ ([Value.slice A1_1 a1.2.1.length c1_1] ++ ([Value.map (some r0_4)] ++ [Value.slice A0_5 v0.2.2.2.2.2.length c0_5])))))), Ck.m1 r0_4 true x12.1 t10.length x12.2, Ck.sl T24 x12.1 x12.2 t10]) ⟨by exact rfl, by exact rfl, by exact rfl, trivial⟩ (by decide)⟩)
      · replace H := ite_f q7 H
        refine cs_know (c := false) (dec_f q7) 18 (by kernel_rfl) ?_
        refine cs_false (by kernel_rfl) ?_
        refine cs_skip' ?_
        refine qn_then ?_
        refine cs_region (l := [_, _, _, _, _, _]) ?_
        refine ls_val (v := .pointer (some ⟨pg0, 0, none⟩)) rfl rfl (by kernel_rfl) (fun w => by kernel_rfl) ?_
        refine ls_val (v := .pointer (some ⟨g1, (0 + 1), none⟩)) rfl rfl (by kernel_rfl) (fun w => by kernel_rfl) ?_
        refine ls_load (a0 := ⟨g1, (0 + 1), none⟩) (v := .slice A1_1 a1.2.1.length c1_1) (de := (TypeDesc.slice 24)) rfl rfl (by kernel_rfl) rfl (by kernel_rfl) (by kernel_rfl) (by kernel_rfl) (fun w hs => (hs.var (k := 3) (by exact rfl) (Sub4.trans (Sub4.all _) (Sub4.skip (n := 1) (len1 _) (Sub4.head _ _))))) ?_
        refine ls_val (v := .pointer (some ⟨pg0, 0, none⟩)) rfl rfl (by kernel_rfl) (fun w => by kernel_rfl) ?_
        refine ls_val (v := .pointer (some ⟨pg0, (0 + 4), none⟩)) rfl rfl (by kernel_rfl) (fun w => by kernel_rfl) ?_
        refine ls_storec (g := pg0) (off := (0 + 4)) (v := .slice A1_1 a1.2.1.length c1_1) (vs := [Value.slice A1_1 a1.2.1.length c1_1]) (cs := (([Value.int .i64 v0.1.1] ++ [Value.int .i64 v0.1.2]) ++ ([Value.bool v0.2.1] ++ ([Value.int .i64 v0.2.2.1] ++ ([Value.slice A0_3 v0.2.2.2.1.length c0_3] ++ ([Value.map (some r0_4)] ++ [Value.slice A0_5 v0.2.2.2.2.2.length c0_5])))))) (ty := 66) 0 rfl rfl rfl (by kernel_rfl) (by kernel_rfl) (by kernel_rfl) (by exact rfl) (by kernel_rfl) (len1 _) (one_cons rfl one_nil) (hl_of (Sub4.trans (Sub4.all _) (Sub4.skip (n := 2) (len_app (len1 _) (len1 _)) (Sub4.skip (n := 1) (len1 _) (Sub4.skip (n := 1) (len1 _) (Sub4.head _ _))))) (len_eq (len1 _) (len1 _))) (cs' := (([Value.int .i64 v0.1.1] ++ [Value.int .i64 v0.1.2]) ++ ([Value.bool v0.2.1] ++ ([Value.int .i64 v0.2.2.1] ++ ([Value.slice A1_1 a1.2.1.length c1_1] ++ ([Value.map (some r0_4)] ++ [Value.slice A0_5 v0.2.2.2.2.2.length c0_5])))))) (splc_in (Sub4.all _) (splc_skip (n := 2) (len_app (len1 _) (len1 _)) (splc_skip (n := 1) (len1 _) (splc_skip (n := 1) (len1 _) (splc_head (len_eq (len1 _) (len1 _)))))) (splc_all (len_eq (len_app (len_app (len1 _) (len1 _)) (len_app (len1 _) (len_app (len1 _) (len_app (len1 _) (len_app (len1 _) (len1 _)))))) (len_app (len_app (len1 _) (len1 _)) (len_app (len1 _) (len_app (len1 _) (len_app (len1 _) (len_app (len1 _) (len1 _)))))))) (hl_of (Sub4.skip (n := 2) (len_app (len1 _) (len1 _)) (Sub4.skip (n := 1) (len1 _) (Sub4.skip (n := 1) (len1 _) (Sub4.head _ _)))) (len_eq (len1 _) (len1 _)))) ?_
        refine ls_end ?_
        refine qn_nilrow 4 T24 ?_
        obtain rfl := Option.some.inj H
        refine qn_res (rs := []) rfl (fun w' hs => ⟨[], (.nil), ((A1_1, c1_1), (A0_5, c0_5), (none, 0)), rfl, ⟨⟨R1_1, C1_1⟩, ⟨R0_5, C0_5⟩⟩, hs.pick (ts := [0, 1, 4]) (cs := [Ck.var 66 pg0 ((([Value.int .i64 v0.1.1] ++ [Value.int .i64 v0.1.2]) ++ ([Value.bool v0.2.1] ++ ([Value.int .i64 v0.2.2.1] ++ ([Value.slice A1_1 a1.2.1.length c1_1] ++ ([Value.map (some r0_4)] ++ [Value.slice A0_5 v0.2.2.2.2.2.length c0_5])))))), Ck.m1 r0_4 false none (([] : List (Int × Int)).length) 0, Ck.sl T24 none 0 ([] : List (Int × Int))]) ⟨by exact rfl, by exact rfl, by exact rfl, trivial⟩ (by decide)⟩)
    · replace H := ite_f q6 H
      refine cs_know (c := true) (congrArg Bool.not (Bool.eq_false_iff.mpr q6)) 10 (by kernel_rfl) ?_
      refine cs_true (by kernel_rfl) ?_
      refine cs_ret' ?_
      refine qr_then ?_
      obtain rfl := Option.some.inj H
      refine qr_res (rs := []) rfl (fun w' hs => ⟨[], (.nil), ((A0_3, c0_3), (A0_5, c0_5), (A0_4, c0_4)), rfl, ⟨⟨R0_3, C0_3⟩, ⟨R0_5, C0_5⟩⟩, hs.pick (ts := [0, 1, 2]) (cs := [Ck.var 66 pg0 ((([Value.int .i64 v0.1.1] ++ [Value.int .i64 v0.1.2]) ++ ([Value.bool v0.2.1] ++ ([Value.int .i64 v0.2.2.1] ++ ([Value.slice A0_3 v0.2.2.2.1.length c0_3] ++ ([Value.map (some r0_4)] ++ [Value.slice A0_5 v0.2.2.2.2.2.length c0_5])))))), Ck.m1 r0_4 w0_4.1 A0_4 w0_4.2.length c0_4, Ck.sl T24 A0_4 c0_4 w0_4.2]) ⟨by exact rfl, by exact rfl, by exact rfl, trivial⟩ (by decide)⟩)

/-! ### (*shadowbox/alloc.Alloc).Spans: function 38 -/
def alloc_Alloc_Spans.f (k : Nat) (v0 : ((Int × Int) × Bool × Int × (List (Int × Int)) × Unit × (List (Int × Int)))) (w0_4 : (Bool × (List (Int × Int)))) : Option ((List (Int × Int))) :=
  (alloc_Alloc_none.f k (v0.1, v0.2.1, v0.2.2.1, v0.2.2.2.1, (), v0.2.2.2.2.2) (w0_4.1, w0_4.2)).bind fun t1 => (if t1 = true then some ([] : List (Int × Int)) else (slices_Clone_43.f k v0.2.2.2.1).bind fun t5 => some t5)
set_option maxRecDepth 100000 in
set_option maxHeartbeats 4000000 in
theorem alloc_Alloc_Spans.calls (k : Nat) (pg0 : Nat) (A0_3 : Option Addr) (c0_3 : Nat) (r0_4 : Nat) (A0_5 : Option Addr) (c0_5 : Nat) (v0 : ((Int × Int) × Bool × Int × (List (Int × Int)) × Unit × (List (Int × Int)))) (A0_4 : Option Addr) (c0_4 : Nat) (w0_4 : (Bool × (List (Int × Int)))) (r : (List (Int × Int))) (b : Bs) (hs0 : St b (stl [Ck.var 66 pg0 ((([Value.int .i64 v0.1.1] ++ [Value.int .i64 v0.1.2]) ++ ([Value.bool v0.2.1] ++ ([Value.int .i64 v0.2.2.1] ++ ([Value.slice A0_3 v0.2.2.2.1.length c0_3] ++ ([Value.map (some r0_4)] ++ [Value.slice A0_5 v0.2.2.2.2.2.length c0_5])))))), Ck.m1 r0_4 w0_4.1 A0_4 w0_4.2.length c0_4, Ck.sl T24 A0_4 c0_4 w0_4.2]) b.w) (R0_3 : Ro b A0_3 (em T24 v0.2.2.2.1)) (C0_3 : v0.2.2.2.1.length ≤ c0_3) (R0_5 : Ro b A0_5 (em T24 v0.2.2.2.2.2)) (C0_5 : v0.2.2.2.2.2.length ≤ c0_5) (H : alloc_Alloc_Spans.f k v0 w0_4 = some r) :
    Calls Try.prog 38 #[.pointer (some ⟨pg0, 0, none⟩)] b.w fun e w' => ∃ x : (Option Addr × Nat), e = .returned (.slice x.1 r.length x.2) ∧ St b (stl [Ck.var 66 pg0 ((([Value.int .i64 v0.1.1] ++ [Value.int .i64 v0.1.2]) ++ ([Value.bool v0.2.1] ++ ([Value.int .i64 v0.2.2.1] ++ ([Value.slice A0_3 v0.2.2.2.1.length c0_3] ++ ([Value.map (some r0_4)] ++ [Value.slice A0_5 v0.2.2.2.2.2.length c0_5])))))), Ck.m1 r0_4 w0_4.1 A0_4 w0_4.2.length c0_4, Ck.sl T24 A0_4 c0_4 w0_4.2, Ck.sl T24 x.1 x.2 r]) w' := by
  unfold alloc_Alloc_Spans.f at H
  refine enterb (n := 10) Try.func38 rfl (by kernel_rfl) (by kernel_rfl) hs0 ?_
  refine cs_sub (sput (sput (sput s0 0 (some (Ck.var 66 pg0 ((([Value.int .i64 v0.1.1] ++ [Value.int .i64 v0.1.2]) ++ ([Value.bool v0.2.1] ++ ([Value.int .i64 v0.2.2.1] ++ ([Value.slice A0_3 v0.2.2.2.1.length c0_3] ++ ([Value.map (some r0_4)] ++ [Value.slice A0_5 v0.2.2.2.2.2.length c0_5]))))))))) 1 (some (Ck.m1 r0_4 w0_4.1 A0_4 w0_4.2.length c0_4))) 2 (some (Ck.sl T24 A0_4 c0_4 w0_4.2))) (sub_put (by exact rfl) (sub_put (by exact rfl) (sub_put (by exact rfl) (sub_nil _)))) ?_
  refine cs_seq ?_
  refine cs_region (l := [_]) ?_
  refine ls_val (v := .slice none 0 0) rfl rfl (by kernel_rfl) (fun w => by kernel_rfl) ?_
  refine ls_end ?_
  refine qn_then ?_
  refine cs_seq ?_
  refine cs_seq ?_
  refine cs_region (l := [_, _]) ?_
  refine ls_val (v := .pointer (some ⟨pg0, 0, none⟩)) rfl rfl (by kernel_rfl) (fun w => by kernel_rfl) ?_
  obtain ⟨t1, hc2, H⟩ := bind_some H
  refine ls_callb (fid := 48) (vals := #[.pointer (some ⟨pg0, 0, none⟩)]) (X := Unit) (fun x => .bool t1) (fun x => stl [Ck.var 66 pg0 ((([Value.int .i64 v0.1.1] ++ [Value.int .i64 v0.1.2]) ++ ([Value.bool v0.2.1] ++ ([Value.int .i64 v0.2.2.1] ++ ([Value.slice A0_3 v0.2.2.2.1.length c0_3] ++ ([Value.map (some r0_4)] ++ [Value.slice A0_5 v0.2.2.2.2.2.length c0_5])))))), Ck.m1 r0_4 w0_4.1 A0_4 w0_4.2.length c0_4, Ck.sl T24 A0_4 c0_4 w0_4.2]) [0, 1, 2] [] [Ck.var 66 pg0 ((([Value.int .i64 v0.1.1] ++ [Value.int .i64 v0.1.2]) ++ ([Value.bool v0.2.1] ++ ([Value.int .i64 v0.2.2.1] ++ ([Value.slice A0_3 v0.2.2.2.1.length c0_3] ++ ([Value.map (some r0_4)] ++ [Value.slice A0_5 v0.2.2.2.2.2.length c0_5])))))), Ck.m1 r0_4 w0_4.1 A0_4 w0_4.2.length c0_4, Ck.sl T24 A0_4 c0_4 w0_4.2] [] 3 rfl rfl (by kernel_rfl) (fun w => by kernel_rfl) ⟨by exact rfl, by exact rfl, by exact rfl, trivial⟩ trivial (by decide) (fun w hs hb => alloc_Alloc_none.calls k pg0 A0_3 c0_3 r0_4 A0_5 c0_5 (v0.1, v0.2.1, v0.2.2.1, v0.2.2.2.1, (), v0.2.2.2.2.2) A0_4 c0_4 (w0_4.1, w0_4.2) t1 (lent b w [Ck.var 66 pg0 ((([Value.int .i64 v0.1.1] ++ [Value.int .i64 v0.1.2]) ++ ([Value.bool v0.2.1] ++ ([Value.int .i64 v0.2.2.1] ++ ([Value.slice A0_3 v0.2.2.2.1.length c0_3] ++ ([Value.map (some r0_4)] ++ [Value.slice A0_5 v0.2.2.2.2.2.length c0_5])))))), Ck.m1 r0_4 w0_4.1 A0_4 w0_4.2.length c0_4, Ck.sl T24 A0_4 c0_4 w0_4.2] []) hb (hs.ro R0_3 _ _) C0_3 (hs.ro R0_5 _ _) C0_5 hc2) ?_
  intro x3
  refine ls_end ?_
  refine qn_then ?_
  by_cases q4 : t1 = true
  · replace H := ite_t q4 H
    refine cs_know (c := true) (q4) 4 (by kernel_rfl) ?_
    refine cs_true (by kernel_rfl) ?_
    refine cs_seq ?_
    refine cs_region (l := [_]) ?_
    refine ls_val (v := .slice none 0 0) rfl rfl (by kernel_rfl) (fun w => by kernel_rfl) ?_
    refine ls_end ?_
    refine qn_then ?_
    refine cs_ret' ?_
    refine qr_then ?_
    refine qr_nilrow 3 T24 ?_
    obtain rfl := Option.some.inj H
    refine qr_res (rs := [_]) rfl (fun w' hs => ⟨[.slice none 0 0], (res_tmp (by kernel_rfl) (.nil)), (none, 0), rfl, hs.pick (ts := [0, 1, 2, 3]) (cs := [Ck.var 66 pg0 ((([Value.int .i64 v0.1.1] ++ [Value.int .i64 v0.1.2]) ++ ([Value.bool v0.2.1] ++ ([Value.int .i64 v0.2.2.1] ++ ([Value.slice A0_3 v0.2.2.2.1.length c0_3] ++ ([Value.map (some r0_4)] ++ [Value.slice A0_5 v0.2.2.2.2.2.length c0_5])))))), Ck.m1 r0_4 w0_4.1 A0_4 w0_4.2.length c0_4, Ck.sl T24 A0_4 c0_4 w0_4.2, Ck.sl T24 none 0 ([] : List (Int × Int))]) ⟨by exact rfl, by exact rfl, by exact rfl, by exact rfl, trivial⟩ (by decide)⟩)
  · replace H := ite_f q4 H
    refine cs_know (c := false) (Bool.eq_false_iff.mpr q4) 4 (by kernel_rfl) ?_
    refine cs_false (by kernel_rfl) ?_
    refine cs_skip' ?_
    refine qn_then ?_
    refine cs_seq ?_
    refine cs_region (l := [_, _, _, _, _, _]) ?_
    refine ls_val (v := .pointer (some ⟨pg0, 0, none⟩)) rfl rfl (by kernel_rfl) (fun w => by kernel_rfl) ?_
    refine ls_val (v := .pointer (some ⟨pg0, 0, none⟩)) rfl rfl (by kernel_rfl) (fun w => by kernel_rfl) ?_
    refine ls_val (v := .pointer (some ⟨pg0, (0 + 4), none⟩)) rfl rfl (by kernel_rfl) (fun w => by kernel_rfl) ?_
    refine ls_load (a0 := ⟨pg0, (0 + 4), none⟩) (v := .slice A0_3 v0.2.2.2.1.length c0_3) (de := (TypeDesc.slice 24)) rfl rfl (by kernel_rfl) rfl (by kernel_rfl) (by kernel_rfl) (by kernel_rfl) (fun w hs => (hs.var (k := 0) (by exact rfl) (Sub4.trans (Sub4.all _) (Sub4.skip (n := 2) (len_app (len1 _) (len1 _)) (Sub4.skip (n := 1) (len1 _) (Sub4.skip (n := 1) (len1 _) (Sub4.head _ _))))))) ?_
    obtain ⟨t5, hc6, H⟩ := bind_some H
    refine ls_callb (fid := 43) (vals := #[.slice A0_3 v0.2.2.2.1.length c0_3]) (X := (Option Addr × Nat)) (fun x => .slice x.1 t5.length x.2) (fun x => stl [Ck.sl T24 x.1 x.2 t5]) [] [] [] [] 3 rfl rfl (by kernel_rfl) (fun w => by kernel_rfl) trivial trivial (by decide) (fun w hs hb => slices_Clone_43.calls k A0_3 c0_3 v0.2.2.2.1 t5 (lent b w [] []) hb (hs.ro R0_3 _ _) C0_3 hc6) ?_
    intro x7
    refine ls_val (v := .slice x7.1 t5.length x7.2) rfl rfl (by kernel_rfl) (fun w => by kernel_rfl) ?_
    refine ls_end ?_
    refine qn_then ?_
    refine cs_ret' ?_
    obtain rfl := Option.some.inj H
    refine qr_res (rs := [_]) rfl (fun w' hs => ⟨[.slice x7.1 t5.length x7.2], (res_tmp (by kernel_rfl) (.nil)), (x7.1, x7.2), rfl, hs.pick (ts := [0, 1, 2, 3]) (cs := [Ck.var 66 pg0 ((([Value.int .i64 v0.1.1] ++ [Value.int .i64 v0.1.2]) ++ ([Value.bool v0.2.1] ++ ([Value.int .i64 v0.2.2.1] ++ ([Value.slice A0_3 v0.2.2.2.1.length c0_3] ++ ([Value.map (some r0_4)] ++ [Value.slice A0_5 v0.2.2.2.2.2.length c0_5])))))), Ck.m1 r0_4 w0_4.1 A0_4 w0_4.2.length c0_4, Ck.sl T24 A0_4 c0_4 w0_4.2, Ck.sl T24 x7.1 x7.2 t5]) ⟨by exact rfl, by exact rfl, by exact rfl, by exact rfl, trivial⟩ (by decide)⟩)

end Go.Proofs.Ytiikfaefeonfhaa.G
