/- Printed by a program of this session (sz.py): plain functions, and walks that show that the code comes to them; no condition. -/
import Derived.Test.YtiikfaefeonfhaaProg
import Derived.Test.YtiikfaefeonfhaaTy
import Derived.Test.YtiikfaefeonfhaaG0
set_option linter.unusedVariables false
set_option linter.unusedSimpArgs false
namespace Go.Proofs.Ytiikfaefeonfhaa.G
open Go Go.RowKit Go.Proofs.Ytiikfaefeonfhaa.Sx

/-! ### (*shadowbox/alloc.Alloc).none, specialized: function 48 -/
def alloc_Alloc_none_snil0.f (k : Nat) : Option (Bool) :=
  some true
set_option maxRecDepth 100000 in
set_option maxHeartbeats 4000000 in
theorem alloc_Alloc_none_snil0.calls (k : Nat)  (r : Bool) (b : Bs) (hs0 : St b (stl []) b.w) (H : alloc_Alloc_none_snil0.f k = some r) :
    Calls Try.prog 48 #[.pointer none] b.w fun e w' => ∃ x : Unit, e = .returned (.bool r) ∧ St b (stl []) w' := by
  unfold alloc_Alloc_none_snil0.f at H
  refine enterb (n := 12) Try.func48 rfl (by kernel_rfl) (by kernel_rfl) hs0 ?_
  refine cs_sub (s0) (sub_nil _) ?_
  refine cs_seq ?_
  refine cs_region (l := [_]) ?_
  refine ls_val (v := .bool false) rfl rfl (by kernel_rfl) (fun w => by kernel_rfl) ?_
  refine ls_end ?_
  refine qn_then ?_
  refine cs_seq ?_
  refine cs_region (l := [_, _, _, _, _, _, _, _, _, _]) ?_
  refine ls_val (v := .pointer none) rfl rfl (by kernel_rfl) (fun w => by kernel_rfl) ?_
  refine ls_val (v := .bool true) rfl rfl (by kernel_rfl) (fun w => by kernel_rfl) ?_
  refine ls_val (v := .bool true) rfl rfl (by kernel_rfl) (fun w => by kernel_rfl) ?_
  refine ls_off (j := 2) (t := 5) (b := false) (c := true) rfl rfl (by kernel_rfl) (by kernel_rfl) rfl rfl (by kernel_rfl) ?_
  refine ls_off (j := 2) (t := 5) (b := false) (c := true) rfl rfl (by kernel_rfl) (by kernel_rfl) rfl rfl (by kernel_rfl) ?_
  refine ls_off (j := 2) (t := 5) (b := false) (c := true) rfl rfl (by kernel_rfl) (by kernel_rfl) rfl rfl (by kernel_rfl) ?_
  refine ls_off (j := 2) (t := 5) (b := false) (c := true) rfl rfl (by kernel_rfl) (by kernel_rfl) rfl rfl (by kernel_rfl) ?_
  refine ls_off (j := 2) (t := 5) (b := false) (c := true) rfl rfl (by kernel_rfl) (by kernel_rfl) rfl rfl (by kernel_rfl) ?_
  refine ls_val (v := .bool true) rfl rfl (by kernel_rfl) (fun w => by kernel_rfl) ?_
  refine ls_val (v := .bool true) rfl rfl (by kernel_rfl) (fun w => by kernel_rfl) ?_
  refine ls_end ?_
  refine qn_then ?_
  refine cs_ret' ?_
  obtain rfl := Option.some.inj H
  refine qr_res (rs := [_]) rfl (fun w' hs => ⟨[.bool true], (res_tmp (by kernel_rfl) (.nil)), (), rfl, hs.pick (ts := []) (cs := []) trivial (by decide)⟩)

/-! ### (*shadowbox/alloc.Alloc).Take, specialized: function 28 -/
def alloc_Alloc_Take_snil0.f (k : Nat) (a1 : Int) (a2 : Bool) : Option (Int × Int) :=
  some ((0 : Int), (1 : Int))
set_option maxRecDepth 100000 in
set_option maxHeartbeats 4000000 in
theorem alloc_Alloc_Take_snil0.calls (k : Nat) (a1 : Int) (a2 : Bool) (r : Int × Int) (b : Bs) (hs0 : St b (stl []) b.w) (H : alloc_Alloc_Take_snil0.f k a1 a2 = some r) :
    Calls Try.prog 28 #[.pointer none, .int .i64 a1, .bool a2] b.w fun e w' => ∃ x : Unit, e = .returned (.tuple #[.int .i64 r.1, .int .i64 r.2]) ∧ St b (stl []) w' := by
  unfold alloc_Alloc_Take_snil0.f at H
  refine enterb (n := 55) Try.func28 rfl (by kernel_rfl) (by kernel_rfl) hs0 ?_
  refine cs_sub (s0) (sub_nil _) ?_
  refine cs_seq ?_
  refine cs_region (l := [_, _]) ?_
  refine ls_val (v := .int .i64 (0 : Int)) rfl rfl (by kernel_rfl) (fun w => by kernel_rfl) ?_
  refine ls_val (v := .int .i64 (0 : Int)) rfl rfl (by kernel_rfl) (fun w => by kernel_rfl) ?_
  refine ls_end ?_
  refine qn_then ?_
  refine cs_seq ?_
  refine cs_block ?_
  refine cs_seq ?_
  refine cs_region (l := [_, _, _]) ?_
  refine ls_val (v := .pointer none) rfl rfl (by kernel_rfl) (fun w => by kernel_rfl) ?_
  have hc2 : alloc_Alloc_none_snil0.f k = some true := rfl
  refine ls_callb (fid := 48) (vals := #[.pointer none]) (X := Unit) (fun x => .bool true) (fun x => stl []) [] [] [] [] 0 rfl rfl (by kernel_rfl) (fun w => by kernel_rfl) trivial trivial (by decide) (fun w hs hb => alloc_Alloc_none_snil0.calls k  true (lent b w [] []) hb  hc2) ?_
  intro x3
  refine ls_val (v := .bool true) rfl rfl (by kernel_rfl) (fun w => by kernel_rfl) ?_
  refine ls_end ?_
  refine qn_then ?_
  refine cs_true (by kernel_rfl) ?_
  refine cs_seq ?_
  refine cs_region (l := [_, _]) ?_
  refine ls_val (v := .int .i64 (0 : Int)) rfl rfl (by kernel_rfl) (fun w => by kernel_rfl) ?_
  refine ls_val (v := .int .i64 (1 : Int)) rfl rfl (by kernel_rfl) (fun w => by kernel_rfl) ?_
  refine ls_end ?_
  refine qn_then ?_
  refine cs_ret' ?_
  refine qr_block ?_
  refine qr_then ?_
  obtain rfl := Option.some.inj H
  refine qr_res (rs := [_, _]) rfl (fun w' hs => ⟨[.int .i64 (0 : Int), .int .i64 (1 : Int)], (res_tmp (by kernel_rfl) (res_tmp (by kernel_rfl) (.nil))), (), rfl, hs.pick (ts := []) (cs := []) trivial (by decide)⟩)

/-! ### (*shadowbox/alloc.Alloc).Commit, specialized: function 31 -/
def alloc_Alloc_Commit_snil0.f (k : Nat) : Option (Unit) :=
  some ()
set_option maxRecDepth 100000 in
set_option maxHeartbeats 4000000 in
theorem alloc_Alloc_Commit_snil0.calls (k : Nat)  (r : Unit) (b : Bs) (hs0 : St b (stl []) b.w) (H : alloc_Alloc_Commit_snil0.f k = some r) :
    Calls Try.prog 31 #[.pointer none] b.w fun e w' => ∃ x : Unit, e = .returned (.tuple #[]) ∧ St b (stl []) w' := by
  unfold alloc_Alloc_Commit_snil0.f at H
  refine enterb (n := 46) Try.func31 rfl (by kernel_rfl) (by kernel_rfl) hs0 ?_
  refine cs_sub (s0) (sub_nil _) ?_
  refine cs_seq ?_
  refine cs_seq ?_
  refine cs_region (l := [_, _]) ?_
  refine ls_val (v := .pointer none) rfl rfl (by kernel_rfl) (fun w => by kernel_rfl) ?_
  have hc2 : alloc_Alloc_none_snil0.f k = some true := rfl
  refine ls_callb (fid := 48) (vals := #[.pointer none]) (X := Unit) (fun x => .bool true) (fun x => stl []) [] [] [] [] 0 rfl rfl (by kernel_rfl) (fun w => by kernel_rfl) trivial trivial (by decide) (fun w hs hb => alloc_Alloc_none_snil0.calls k  true (lent b w [] []) hb  hc2) ?_
  intro x3
  refine ls_end ?_
  refine qn_then ?_
  refine cs_true (by kernel_rfl) ?_
  refine cs_ret' ?_
  refine qr_then ?_
  obtain rfl := Option.some.inj H
  refine qr_res (rs := []) rfl (fun w' hs => ⟨[], (.nil), (), rfl, hs.pick (ts := []) (cs := []) trivial (by decide)⟩)

/-! ### (*shadowbox/alloc.Alloc).Abort, specialized: function 39 -/
def alloc_Alloc_Abort_snil0.f (k : Nat) : Option (Unit) :=
  some ()
set_option maxRecDepth 100000 in
set_option maxHeartbeats 4000000 in
theorem alloc_Alloc_Abort_snil0.calls (k : Nat)  (r : Unit) (b : Bs) (hs0 : St b (stl []) b.w) (H : alloc_Alloc_Abort_snil0.f k = some r) :
    Calls Try.prog 39 #[.pointer none] b.w fun e w' => ∃ x : Unit, e = .returned (.tuple #[]) ∧ St b (stl []) w' := by
  unfold alloc_Alloc_Abort_snil0.f at H
  refine enterb (n := 16) Try.func39 rfl (by kernel_rfl) (by kernel_rfl) hs0 ?_
  refine cs_sub (s0) (sub_nil _) ?_
  refine cs_seq ?_
  refine cs_region (l := [_, _, _]) ?_
  refine ls_val (v := .pointer none) rfl rfl (by kernel_rfl) (fun w => by kernel_rfl) ?_
  have hc2 : alloc_Alloc_none_snil0.f k = some true := rfl
  refine ls_callb (fid := 48) (vals := #[.pointer none]) (X := Unit) (fun x => .bool true) (fun x => stl []) [] [] [] [] 0 rfl rfl (by kernel_rfl) (fun w => by kernel_rfl) trivial trivial (by decide) (fun w hs hb => alloc_Alloc_none_snil0.calls k  true (lent b w [] []) hb  hc2) ?_
  intro x3
  refine ls_val (v := .bool false) rfl rfl (by kernel_rfl) (fun w => by kernel_rfl) ?_
  refine ls_end ?_
  refine qn_then ?_
  refine cs_false (by kernel_rfl) ?_
  refine cs_skip' ?_
  obtain rfl := Option.some.inj H
  refine qn_res (rs := []) rfl (fun w' hs => ⟨[], (.nil), (), rfl, hs.pick (ts := []) (cs := []) trivial (by decide)⟩)

/-! ### (*shadowbox/alloc.Alloc).check, specialized: function 51 -/
def alloc_Alloc_check_snil0.f (k : Nat) (a1 : (Int × Int)) : Option (Int) :=
  some (1 : Int)
set_option maxRecDepth 100000 in
set_option maxHeartbeats 4000000 in
theorem alloc_Alloc_check_snil0.calls (k : Nat) (a1 : (Int × Int)) (r : Int) (b : Bs) (hs0 : St b (stl []) b.w) (H : alloc_Alloc_check_snil0.f k a1 = some r) :
    Calls Try.prog 51 #[.pointer none, .agg ⟨([Value.int .i64 a1.1] ++ [Value.int .i64 a1.2])⟩] b.w fun e w' => ∃ x : Unit, e = .returned (.int .i64 r) ∧ St b (stl []) w' := by
  unfold alloc_Alloc_check_snil0.f at H
  refine enterb (n := 34) Try.func51 rfl (by kernel_rfl) (by kernel_rfl) hs0 ?_
  refine cs_sub (s0) (sub_nil _) ?_
  refine cs_seq ?_
  refine cs_region (l := [_, _]) ?_
  refine ls_new rfl rfl (by kernel_rfl) 0 (fun g => .pointer (some ⟨g, 0, none⟩)) (.cells ⟨([Value.int .i64 a1.1] ++ [Value.int .i64 a1.2])⟩ 24) (fun w => by kernel_rfl) ?_
  intro g1
  refine ls_val (v := .int .i64 (0 : Int)) rfl rfl (by kernel_rfl) (fun w => by kernel_rfl) ?_
  refine ls_end ?_
  refine qn_then ?_
  refine cs_seq ?_
  refine cs_block ?_
  refine cs_seq ?_
  refine cs_region (l := [_, _, _]) ?_
  refine ls_val (v := .pointer none) rfl rfl (by kernel_rfl) (fun w => by kernel_rfl) ?_
  have hc3 : alloc_Alloc_none_snil0.f k = some true := rfl
  refine ls_callb (fid := 48) (vals := #[.pointer none]) (X := Unit) (fun x => .bool true) (fun x => stl []) [] [] [] [] 1 rfl rfl (by kernel_rfl) (fun w => by kernel_rfl) trivial trivial (by decide) (fun w hs hb => alloc_Alloc_none_snil0.calls k  true (lent b w [] []) hb  hc3) ?_
  intro x4
  refine ls_val (v := .bool true) rfl rfl (by kernel_rfl) (fun w => by kernel_rfl) ?_
  refine ls_end ?_
  refine qn_then ?_
  refine cs_true (by kernel_rfl) ?_
  refine cs_seq ?_
  refine cs_region (l := [_]) ?_
  refine ls_val (v := .int .i64 (1 : Int)) rfl rfl (by kernel_rfl) (fun w => by kernel_rfl) ?_
  refine ls_end ?_
  refine qn_then ?_
  refine cs_ret' ?_
  refine qr_block ?_
  refine qr_then ?_
  obtain rfl := Option.some.inj H
  refine qr_res (rs := [_]) rfl (fun w' hs => ⟨[.int .i64 (1 : Int)], (res_tmp (by kernel_rfl) (.nil)), (), rfl, hs.pick (ts := []) (cs := []) trivial (by decide)⟩)

/-! ### (*shadowbox/alloc.Alloc).Use, specialized: function 40 -/
def alloc_Alloc_Use_snil0.tab4 : List (List Nat) := [[], [0], [0, 1], [0, 1, 2], [0, 1, 2, 3], [0, 1, 2, 3, 4], [0, 1, 2, 3, 4, 5], [0, 1, 2], [0, 1, 2, 3, 4, 5, 6, 7], [0, 1, 2, 3, 4, 5, 6, 7, 8], [0, 1, 2, 3, 4, 5, 6, 7, 8, 9]]
def alloc_Alloc_Use_snil0.f (k : Nat) (a1 : (Int × Int)) : Option (Int) :=
  some (1 : Int)
set_option maxRecDepth 100000 in
set_option maxHeartbeats 4000000 in
theorem alloc_Alloc_Use_snil0.calls (k : Nat) (a1 : (Int × Int)) (r : Int) (b : Bs) (hs0 : St b (stl []) b.w) (H : alloc_Alloc_Use_snil0.f k a1 = some r) :
    Calls Try.prog 40 #[.pointer none, .agg ⟨([Value.int .i64 a1.1] ++ [Value.int .i64 a1.2])⟩] b.w fun e w' => ∃ x : Unit, e = .returned (.int .i64 r) ∧ St b (stl []) w' := by
  unfold alloc_Alloc_Use_snil0.f at H
  refine enterb (n := 41) Try.func40 rfl (by kernel_rfl) (by kernel_rfl) hs0 ?_
  refine cs_sub (s0) (sub_nil _) ?_
  refine cs_seq ?_
  refine cs_region (l := [_, _]) ?_
  refine ls_new rfl rfl (by kernel_rfl) 0 (fun g => .pointer (some ⟨g, 0, none⟩)) (.cells ⟨([Value.int .i64 a1.1] ++ [Value.int .i64 a1.2])⟩ 24) (fun w => by kernel_rfl) ?_
  intro g1
  refine ls_val (v := .int .i64 (0 : Int)) rfl rfl (by kernel_rfl) (fun w => by kernel_rfl) ?_
  refine ls_end ?_
  refine qn_then ?_
  refine cs_seq ?_
  refine cs_region (l := [_, _, _, _]) ?_
  refine ls_val (v := .pointer none) rfl rfl (by kernel_rfl) (fun w => by kernel_rfl) ?_
  refine ls_loadagg (a := ⟨g1, 0, none⟩) (sub := ([Value.int .i64 a1.1] ++ [Value.int .i64 a1.2])) rfl rfl (by kernel_rfl) rfl (by kernel_rfl) (by kernel_rfl) (by kernel_rfl) (len_app (len1 _) (len1 _)) (fun w hs => (hs.vars (k := 0) (by exact rfl) (Sub4.all _))) ?_
  have hc3 : alloc_Alloc_check_snil0.f k a1 = some (1 : Int) := rfl
  refine ls_callb (fid := 51) (vals := #[.pointer none, .agg ⟨([Value.int .i64 a1.1] ++ [Value.int .i64 a1.2])⟩]) (X := Unit) (fun x => .int .i64 (1 : Int)) (fun x => stl []) [] [] [] [] 1 rfl rfl (by kernel_rfl) (fun w => by kernel_rfl) trivial trivial (by decide) (fun w hs hb => alloc_Alloc_check_snil0.calls k a1 (1 : Int) (lent b w [] []) hb  hc3) ?_
  intro x4
  refine ls_val (v := .int .i64 (1 : Int)) rfl rfl (by kernel_rfl) (fun w => by kernel_rfl) ?_
  refine ls_end ?_
  refine qn_then ?_
  refine cs_seq ?_
  refine cs_seq ?_
  obtain ⟨s6_0, hs6_0⟩ : ∃ z : Value → Sto → Prop, z = (fun v R => v = .int .i64 (1 : Int) ∧ R = s0) := ⟨_, rfl⟩
  refine have_op (l := [_, _, _, _, _, _, _, _, _, _, _]) alloc_Alloc_Use_snil0.tab4 1 0 (fun sp => sp 0 = s6_0) (fun sp on hA hon => ?_) (fun ops6_0 => ?_)
  · refine ⟨fun o ho vs Rs f' S' w hp hf hx hS hR hs => ?_⟩
    obtain rfl := Option.some.inj ho
    rw [hA, hs6_0]
    refine And.intro (fun a ha => (want_none rfl a ha).trans hon.symm) (And.intro (fun _ => ?_) (fun h => by rw [hon] at h; cases h))
    have hF := fr_next (rfl) ((hx 5 (by kernel_rfl)).trans (by kernel_rfl : (_ : Value) = .int .i64 (1 : Int)))
    refine ls_fr hF ?_
    refine ls_val (v := .int .i64 (1 : Int)) rfl rfl (by kernel_rfl) (fun w => by kernel_rfl) ?_
    exact ls_fin s0 (.int .i64 (1 : Int)) (congrArg (fun z => upd z 9 _) hF.symm) ⟨rfl, rfl⟩ (sub_nil _)
  obtain ⟨s6_1, hs6_1⟩ : ∃ z : Value → Sto → Prop, z = (fun v R => v = .bool false ∧ R = s0) := ⟨_, rfl⟩
  refine have_op (l := [_, _, _, _, _, _, _, _, _, _, _]) alloc_Alloc_Use_snil0.tab4 1 1 (fun sp => sp 1 = s6_1 ∧ sp 0 = s6_0) (fun sp on hA hon => ?_) (fun ops6_1 => ?_)
  · refine ⟨fun o ho vs Rs f' S' w hp hf hx hS hR hs => ?_⟩
    obtain rfl := Option.some.inj ho
    obtain ⟨hv0, hR0⟩ := (spe hA.2 hs6_0 (hp 0 (by kernel_rfl)))
    rw [hA.1, hs6_1]
    refine And.intro (fun a ha => (want_none rfl a ha).trans hon.symm) (And.intro (fun _ => ?_) (fun h => by rw [hon] at h; cases h))
    have hF := fr_next (rfl) ((hf 0 9 (by kernel_rfl) rfl).trans hv0)
    refine ls_fr hF ?_
    refine ls_val (v := .bool false) rfl rfl (by kernel_rfl) (fun w => by kernel_rfl) ?_
    exact ls_fin s0 (.bool false) (congrArg (fun z => upd z 10 _) hF.symm) ⟨rfl, rfl⟩ (sub_nil _)
  obtain ⟨s6_2, hs6_2⟩ : ∃ z : Value → Sto → Prop, z = (fun v R => v = .bool false ∧ R = s0) := ⟨_, rfl⟩
  refine have_op (l := [_, _, _, _, _, _, _, _, _, _, _]) alloc_Alloc_Use_snil0.tab4 1 2 (fun sp => sp 2 = s6_2 ∧ sp 1 = s6_1) (fun sp on hA hon => ?_) (fun ops6_2 => ?_)
  · refine ⟨fun o ho vs Rs f' S' w hp hf hx hS hR hs => ?_⟩
    obtain rfl := Option.some.inj ho
    obtain ⟨hv1, hR1⟩ := (spe hA.2 hs6_1 (hp 1 (by kernel_rfl)))
    rw [hA.1, hs6_2]
    refine And.intro (fun a ha => (want_none rfl a ha).trans hon.symm) (And.intro (fun _ => ?_) (fun h => by rw [hon] at h; cases h))
    have hF := fr_next (rfl) ((hf 1 10 (by kernel_rfl) rfl).trans hv1)
    refine ls_fr hF ?_
    refine ls_val (v := .bool false) rfl rfl (by kernel_rfl) (fun w => by kernel_rfl) ?_
    exact ls_fin s0 (.bool false) (congrArg (fun z => upd z 11 _) hF.symm) ⟨rfl, rfl⟩ (sub_nil _)
  refine cs_draw alloc_Alloc_Use_snil0.tab4 8 1 (spl [s6_0, s6_1, s6_2, spu, spu, spu, spu, spu]) (onl [true, true, true, false, false, false, false, false]) (by kernel_rfl) (by kernel_rfl) (by kernel_rfl) (by kernel_rfl) (rs := [_, _, _]) rfl (by kernel_rfl) (by kernel_rfl) (all_snoc (all_snoc (all_snoc (all_snoc (all_snoc (all_snoc (all_snoc (all_snoc (all_nil) (ops6_0 _ _ rfl rfl)) (ops6_1 _ _ ⟨rfl, rfl⟩ rfl)) (ops6_2 _ _ ⟨rfl, rfl⟩ rfl)) (op_offi 3 2 11 true rfl rfl (by kernel_rfl) (by kernel_rfl) rfl (fun v R h => by rw [hs6_2] at h; obtain ⟨h, _⟩ := h; exact h) rfl rfl)) (op_offi 4 2 11 true rfl rfl (by kernel_rfl) (by kernel_rfl) rfl (fun v R h => by rw [hs6_2] at h; obtain ⟨h, _⟩ := h; exact h) rfl rfl)) (op_offi 5 2 11 true rfl rfl (by kernel_rfl) (by kernel_rfl) rfl (fun v R h => by rw [hs6_2] at h; obtain ⟨h, _⟩ := h; exact h) rfl rfl)) (op_offi 6 2 11 true rfl rfl (by kernel_rfl) (by kernel_rfl) rfl (fun v R h => by rw [hs6_2] at h; obtain ⟨h, _⟩ := h; exact h) rfl rfl)) (op_offi 7 2 11 true rfl rfl (by kernel_rfl) (by kernel_rfl) rfl (fun v R h => by rw [hs6_2] at h; obtain ⟨h, _⟩ := h; exact h) rfl rfl)) ?_
  intro vs Rs f' S' hp hf hx hS hR
  obtain ⟨hv2, hR2⟩ := (spe rfl hs6_2 (hp 2 (by kernel_rfl)))
  obtain ⟨hv6, hR6⟩ := (spe rfl rfl (hp 6 (by kernel_rfl)) : spu _ _)
  obtain ⟨hv7, hR7⟩ := (spe rfl rfl (hp 7 (by kernel_rfl)) : spu _ _)
  refine ls_fr (F := upd (upd (upd (upd f' 0 (.pointer none)) 3 (.pointer (some ⟨g1, 0, none⟩))) 5 (.int .i64 (1 : Int))) 11 (.bool false)) (fr_next (fr_next (fr_next (fr_next (rfl) ((hx 0 (by kernel_rfl)).trans (by kernel_rfl : (_ : Value) = .pointer none))) ((hx 3 (by kernel_rfl)).trans (by kernel_rfl : (_ : Value) = .pointer (some ⟨g1, 0, none⟩)))) ((hx 5 (by kernel_rfl)).trans (by kernel_rfl : (_ : Value) = .int .i64 (1 : Int)))) ((hf 2 11 (by kernel_rfl) rfl).trans hv2)) ?_
  refine ls_sub (sput s0 0 (some (Ck.var 24 g1 (([Value.int .i64 a1.1] ++ [Value.int .i64 a1.2]))))) (sub_put ((hS 0 (by kernel_rfl)).trans (by exact rfl)) (sub_nil _)) ?_
  refine ls_off (j := 2) (t := 11) (b := true) (c := false) rfl rfl (by kernel_rfl) (by kernel_rfl) rfl rfl (by kernel_rfl) ?_
  refine ls_off (j := 2) (t := 11) (b := true) (c := false) rfl rfl (by kernel_rfl) (by kernel_rfl) rfl rfl (by kernel_rfl) ?_
  refine ls_val (v := .bool false) rfl rfl (by kernel_rfl) (fun w => by kernel_rfl) ?_
  refine ls_end ?_
  refine qn_then ?_
  refine cs_false (by kernel_rfl) ?_
  refine cs_skip' ?_
  refine qn_then ?_
  refine cs_seq ?_
  refine cs_seq ?_
  refine cs_region (l := [_, _]) ?_
  refine ls_val (v := .int .i64 (1 : Int)) rfl rfl (by kernel_rfl) (fun w => by kernel_rfl) ?_
  refine ls_val (v := .bool false) rfl rfl (by kernel_rfl) (fun w => by kernel_rfl) ?_
  refine ls_end ?_
  refine qn_then ?_
  refine cs_false (by kernel_rfl) ?_
  refine cs_skip' ?_
  refine qn_then ?_
  refine cs_seq ?_
  refine cs_region (l := [_, _]) ?_
  refine ls_val (v := .int .i64 (1 : Int)) rfl rfl (by kernel_rfl) (fun w => by kernel_rfl) ?_
  refine ls_val (v := .int .i64 (1 : Int)) rfl rfl (by kernel_rfl) (fun w => by kernel_rfl) ?_
  refine ls_end ?_
  refine qn_then ?_
  refine cs_ret' ?_
  obtain rfl := Option.some.inj H
  refine qr_res (rs := [_]) rfl (fun w' hs => ⟨[.int .i64 (1 : Int)], (res_tmp (by kernel_rfl) (.nil)), (), rfl, hs.pick (ts := []) (cs := []) trivial (by decide)⟩)

/-! ### (*shadowbox/alloc.Alloc).used, specialized: function 49 -/
def alloc_Alloc_used_snil0.tab4 : List (List Nat) := [[], [0], [0, 1], [0, 1, 2], [0, 1, 2, 3], [0, 1, 2, 3, 4], [0, 1, 2, 3, 4, 5], [0, 1, 2], [0, 1, 2, 3, 4, 5, 6, 7], [0, 1, 2, 3, 4, 5, 6, 7, 8], [0, 1, 2, 3, 4, 5, 6, 7, 8, 9], [0, 1, 2, 3, 4, 5, 6, 7, 8, 9, 10], [0, 1, 2, 3, 4, 5, 6, 7, 8, 9], [0, 1, 2, 3, 4, 5, 6, 7, 8, 9, 10, 11, 12], [0, 1, 2, 3, 4, 5, 6, 7, 8, 9, 10, 11, 12, 13], [0, 1, 2, 3, 4, 5, 6, 7, 8, 9, 10, 11, 12, 13, 14]]
def alloc_Alloc_used_snil0.f (k : Nat) (a1 : (Int × Int)) : Option (Int) :=
  some (1 : Int)
set_option maxRecDepth 100000 in
set_option maxHeartbeats 4000000 in
theorem alloc_Alloc_used_snil0.calls (k : Nat) (a1 : (Int × Int)) (r : Int) (b : Bs) (hs0 : St b (stl []) b.w) (H : alloc_Alloc_used_snil0.f k a1 = some r) :
    Calls Try.prog 49 #[.pointer none, .agg ⟨([Value.int .i64 a1.1] ++ [Value.int .i64 a1.2])⟩] b.w fun e w' => ∃ x : Unit, e = .returned (.int .i64 r) ∧ St b (stl []) w' := by
  unfold alloc_Alloc_used_snil0.f at H
  refine enterb (n := 26) Try.func49 rfl (by kernel_rfl) (by kernel_rfl) hs0 ?_
  refine cs_sub (s0) (sub_nil _) ?_
  refine cs_seq ?_
  refine cs_region (l := [_, _]) ?_
  refine ls_new rfl rfl (by kernel_rfl) 0 (fun g => .pointer (some ⟨g, 0, none⟩)) (.cells ⟨([Value.int .i64 a1.1] ++ [Value.int .i64 a1.2])⟩ 24) (fun w => by kernel_rfl) ?_
  intro g1
  refine ls_val (v := .int .i64 (0 : Int)) rfl rfl (by kernel_rfl) (fun w => by kernel_rfl) ?_
  refine ls_end ?_
  refine qn_then ?_
  refine cs_seq ?_
  refine cs_region (l := [_, _, _, _]) ?_
  refine ls_val (v := .pointer none) rfl rfl (by kernel_rfl) (fun w => by kernel_rfl) ?_
  refine ls_loadagg (a := ⟨g1, 0, none⟩) (sub := ([Value.int .i64 a1.1] ++ [Value.int .i64 a1.2])) rfl rfl (by kernel_rfl) rfl (by kernel_rfl) (by kernel_rfl) (by kernel_rfl) (len_app (len1 _) (len1 _)) (fun w hs => (hs.vars (k := 0) (by exact rfl) (Sub4.all _))) ?_
  have hc3 : alloc_Alloc_check_snil0.f k a1 = some (1 : Int) := rfl
  refine ls_callb (fid := 51) (vals := #[.pointer none, .agg ⟨([Value.int .i64 a1.1] ++ [Value.int .i64 a1.2])⟩]) (X := Unit) (fun x => .int .i64 (1 : Int)) (fun x => stl []) [] [] [] [] 1 rfl rfl (by kernel_rfl) (fun w => by kernel_rfl) trivial trivial (by decide) (fun w hs hb => alloc_Alloc_check_snil0.calls k a1 (1 : Int) (lent b w [] []) hb  hc3) ?_
  intro x4
  refine ls_val (v := .int .i64 (1 : Int)) rfl rfl (by kernel_rfl) (fun w => by kernel_rfl) ?_
  refine ls_end ?_
  refine qn_then ?_
  refine cs_seq ?_
  refine cs_seq ?_
  obtain ⟨s6_0, hs6_0⟩ : ∃ z : Value → Sto → Prop, z = (fun v R => v = .int .i64 (1 : Int) ∧ R = s0) := ⟨_, rfl⟩
  refine have_op (l := [_, _, _, _, _, _, _, _, _, _, _, _, _, _, _, _]) alloc_Alloc_used_snil0.tab4 1 0 (fun sp => sp 0 = s6_0) (fun sp on hA hon => ?_) (fun ops6_0 => ?_)
  · refine ⟨fun o ho vs Rs f' S' w hp hf hx hS hR hs => ?_⟩
    obtain rfl := Option.some.inj ho
    rw [hA, hs6_0]
    refine And.intro (fun a ha => (want_none rfl a ha).trans hon.symm) (And.intro (fun _ => ?_) (fun h => by rw [hon] at h; cases h))
    have hF := fr_next (rfl) ((hx 5 (by kernel_rfl)).trans (by kernel_rfl : (_ : Value) = .int .i64 (1 : Int)))
    refine ls_fr hF ?_
    refine ls_val (v := .int .i64 (1 : Int)) rfl rfl (by kernel_rfl) (fun w => by kernel_rfl) ?_
    exact ls_fin s0 (.int .i64 (1 : Int)) (congrArg (fun z => upd z 9 _) hF.symm) ⟨rfl, rfl⟩ (sub_nil _)
  obtain ⟨s6_1, hs6_1⟩ : ∃ z : Value → Sto → Prop, z = (fun v R => v = .bool false ∧ R = s0) := ⟨_, rfl⟩
  refine have_op (l := [_, _, _, _, _, _, _, _, _, _, _, _, _, _, _, _]) alloc_Alloc_used_snil0.tab4 1 1 (fun sp => sp 1 = s6_1 ∧ sp 0 = s6_0) (fun sp on hA hon => ?_) (fun ops6_1 => ?_)
  · refine ⟨fun o ho vs Rs f' S' w hp hf hx hS hR hs => ?_⟩
    obtain rfl := Option.some.inj ho
    obtain ⟨hv0, hR0⟩ := (spe hA.2 hs6_0 (hp 0 (by kernel_rfl)))
    rw [hA.1, hs6_1]
    refine And.intro (fun a ha => (want_none rfl a ha).trans hon.symm) (And.intro (fun _ => ?_) (fun h => by rw [hon] at h; cases h))
    have hF := fr_next (rfl) ((hf 0 9 (by kernel_rfl) rfl).trans hv0)
    refine ls_fr hF ?_
    refine ls_val (v := .bool false) rfl rfl (by kernel_rfl) (fun w => by kernel_rfl) ?_
    exact ls_fin s0 (.bool false) (congrArg (fun z => upd z 10 _) hF.symm) ⟨rfl, rfl⟩ (sub_nil _)
  obtain ⟨s6_2, hs6_2⟩ : ∃ z : Value → Sto → Prop, z = (fun v R => v = .bool false ∧ R = s0) := ⟨_, rfl⟩
  refine have_op (l := [_, _, _, _, _, _, _, _, _, _, _, _, _, _, _, _]) alloc_Alloc_used_snil0.tab4 1 2 (fun sp => sp 2 = s6_2 ∧ sp 1 = s6_1) (fun sp on hA hon => ?_) (fun ops6_2 => ?_)
  · refine ⟨fun o ho vs Rs f' S' w hp hf hx hS hR hs => ?_⟩
    obtain rfl := Option.some.inj ho
    obtain ⟨hv1, hR1⟩ := (spe hA.2 hs6_1 (hp 1 (by kernel_rfl)))
    rw [hA.1, hs6_2]
    refine And.intro (fun a ha => (want_none rfl a ha).trans hon.symm) (And.intro (fun _ => ?_) (fun h => by rw [hon] at h; cases h))
    have hF := fr_next (rfl) ((hf 1 10 (by kernel_rfl) rfl).trans hv1)
    refine ls_fr hF ?_
    refine ls_val (v := .bool false) rfl rfl (by kernel_rfl) (fun w => by kernel_rfl) ?_
    exact ls_fin s0 (.bool false) (congrArg (fun z => upd z 11 _) hF.symm) ⟨rfl, rfl⟩ (sub_nil _)
  refine cs_draw alloc_Alloc_used_snil0.tab4 13 1 (spl [s6_0, s6_1, s6_2, spu, spu, spu, spu, spu, spu, spu, spu, spu, spu]) (onl [true, true, true, false, false, false, false, false, false, false, false, false, false]) (by kernel_rfl) (by kernel_rfl) (by kernel_rfl) (by kernel_rfl) (rs := [_, _, _]) rfl (by kernel_rfl) (by kernel_rfl) (all_snoc (all_snoc (all_snoc (all_snoc (all_snoc (all_snoc (all_snoc (all_snoc (all_snoc (all_snoc (all_snoc (all_snoc (all_snoc (all_nil) (ops6_0 _ _ rfl rfl)) (ops6_1 _ _ ⟨rfl, rfl⟩ rfl)) (ops6_2 _ _ ⟨rfl, rfl⟩ rfl)) (op_offi 3 2 11 true rfl rfl (by kernel_rfl) (by kernel_rfl) rfl (fun v R h => by rw [hs6_2] at h; obtain ⟨h, _⟩ := h; exact h) rfl rfl)) (op_offi 4 2 11 true rfl rfl (by kernel_rfl) (by kernel_rfl) rfl (fun v R h => by rw [hs6_2] at h; obtain ⟨h, _⟩ := h; exact h) rfl rfl)) (op_offi 5 2 11 true rfl rfl (by kernel_rfl) (by kernel_rfl) rfl (fun v R h => by rw [hs6_2] at h; obtain ⟨h, _⟩ := h; exact h) rfl rfl)) (op_offi 6 2 11 true rfl rfl (by kernel_rfl) (by kernel_rfl) rfl (fun v R h => by rw [hs6_2] at h; obtain ⟨h, _⟩ := h; exact h) rfl rfl)) (op_offi 7 2 11 true rfl rfl (by kernel_rfl) (by kernel_rfl) rfl (fun v R h => by rw [hs6_2] at h; obtain ⟨h, _⟩ := h; exact h) rfl rfl)) (op_offi 8 2 11 true rfl rfl (by kernel_rfl) (by kernel_rfl) rfl (fun v R h => by rw [hs6_2] at h; obtain ⟨h, _⟩ := h; exact h) rfl rfl)) (op_offi 9 2 11 true rfl rfl (by kernel_rfl) (by kernel_rfl) rfl (fun v R h => by rw [hs6_2] at h; obtain ⟨h, _⟩ := h; exact h) rfl rfl)) (op_offu 10 9 18 false rfl rfl (by kernel_rfl) (by kernel_rfl) rfl rfl rfl)) (op_offu 11 9 18 false rfl rfl (by kernel_rfl) (by kernel_rfl) rfl rfl rfl)) (op_offu 12 9 18 false rfl rfl (by kernel_rfl) (by kernel_rfl) rfl rfl rfl)) ?_
  intro vs Rs f' S' hp hf hx hS hR
  obtain ⟨hv2, hR2⟩ := (spe rfl hs6_2 (hp 2 (by kernel_rfl)))
  obtain ⟨hv9, hR9⟩ := (spe rfl rfl (hp 9 (by kernel_rfl)) : spu _ _)
  obtain ⟨hv11, hR11⟩ := (spe rfl rfl (hp 11 (by kernel_rfl)) : spu _ _)
  obtain ⟨hv12, hR12⟩ := (spe rfl rfl (hp 12 (by kernel_rfl)) : spu _ _)
  refine ls_fr (F := upd (upd (upd f' 5 (.int .i64 (1 : Int))) 11 (.bool false)) 18 undef) (fr_next (fr_next (fr_next (rfl) ((hx 5 (by kernel_rfl)).trans (by kernel_rfl : (_ : Value) = .int .i64 (1 : Int)))) ((hf 2 11 (by kernel_rfl) rfl).trans hv2)) ((hf 9 18 (by kernel_rfl) rfl).trans hv9)) ?_
  refine ls_sub (s0) (sub_nil _) ?_
  refine ls_offu (j := 9) (t := 18) (b := false) rfl rfl (by kernel_rfl) (by kernel_rfl) rfl (by kernel_rfl) ?_
  refine ls_off (j := 2) (t := 11) (b := true) (c := false) rfl rfl (by kernel_rfl) (by kernel_rfl) rfl rfl (by kernel_rfl) ?_
  refine ls_val (v := .bool false) rfl rfl (by kernel_rfl) (fun w => by kernel_rfl) ?_
  refine ls_end ?_
  refine qn_then ?_
  refine cs_false (by kernel_rfl) ?_
  refine cs_skip' ?_
  refine qn_then ?_
  refine cs_seq ?_
  refine cs_region (l := [_, _]) ?_
  refine ls_val (v := .int .i64 (1 : Int)) rfl rfl (by kernel_rfl) (fun w => by kernel_rfl) ?_
  refine ls_val (v := .int .i64 (1 : Int)) rfl rfl (by kernel_rfl) (fun w => by kernel_rfl) ?_
  refine ls_end ?_
  refine qn_then ?_
  refine cs_ret' ?_
  obtain rfl := Option.some.inj H
  refine qr_res (rs := [_]) rfl (fun w' hs => ⟨[.int .i64 (1 : Int)], (res_tmp (by kernel_rfl) (.nil)), (), rfl, hs.pick (ts := []) (cs := []) trivial (by decide)⟩)

/-! ### (*shadowbox/alloc.Alloc).Give, specialized: function 35 -/
def alloc_Alloc_Give_snil0.f (k : Nat) (a1 : (Int × Int)) : Option (Int) :=
  some (1 : Int)
set_option maxRecDepth 100000 in
set_option maxHeartbeats 4000000 in
theorem alloc_Alloc_Give_snil0.calls (k : Nat) (a1 : (Int × Int)) (r : Int) (b : Bs) (hs0 : St b (stl []) b.w) (H : alloc_Alloc_Give_snil0.f k a1 = some r) :
    Calls Try.prog 35 #[.pointer none, .agg ⟨([Value.int .i64 a1.1] ++ [Value.int .i64 a1.2])⟩] b.w fun e w' => ∃ x : Unit, e = .returned (.int .i64 r) ∧ St b (stl []) w' := by
  unfold alloc_Alloc_Give_snil0.f at H
  refine enterb (n := 21) Try.func35 rfl (by kernel_rfl) (by kernel_rfl) hs0 ?_
  refine cs_sub (s0) (sub_nil _) ?_
  refine cs_seq ?_
  refine cs_region (l := [_, _]) ?_
  refine ls_new rfl rfl (by kernel_rfl) 0 (fun g => .pointer (some ⟨g, 0, none⟩)) (.cells ⟨([Value.int .i64 a1.1] ++ [Value.int .i64 a1.2])⟩ 24) (fun w => by kernel_rfl) ?_
  intro g1
  refine ls_val (v := .int .i64 (0 : Int)) rfl rfl (by kernel_rfl) (fun w => by kernel_rfl) ?_
  refine ls_end ?_
  refine qn_then ?_
  refine cs_seq ?_
  refine cs_region (l := [_, _, _, _]) ?_
  refine ls_val (v := .pointer none) rfl rfl (by kernel_rfl) (fun w => by kernel_rfl) ?_
  refine ls_loadagg (a := ⟨g1, 0, none⟩) (sub := ([Value.int .i64 a1.1] ++ [Value.int .i64 a1.2])) rfl rfl (by kernel_rfl) rfl (by kernel_rfl) (by kernel_rfl) (by kernel_rfl) (len_app (len1 _) (len1 _)) (fun w hs => (hs.vars (k := 0) (by exact rfl) (Sub4.all _))) ?_
  have hc3 : alloc_Alloc_used_snil0.f k a1 = some (1 : Int) := rfl
  refine ls_callb (fid := 49) (vals := #[.pointer none, .agg ⟨([Value.int .i64 a1.1] ++ [Value.int .i64 a1.2])⟩]) (X := Unit) (fun x => .int .i64 (1 : Int)) (fun x => stl []) [] [] [] [] 1 rfl rfl (by kernel_rfl) (fun w => by kernel_rfl) trivial trivial (by decide) (fun w hs hb => alloc_Alloc_used_snil0.calls k a1 (1 : Int) (lent b w [] []) hb  hc3) ?_
  intro x4
  refine ls_val (v := .int .i64 (1 : Int)) rfl rfl (by kernel_rfl) (fun w => by kernel_rfl) ?_
  refine ls_end ?_
  refine qn_then ?_
  refine cs_seq ?_
  refine cs_seq ?_
  refine cs_region (l := [_, _]) ?_
  refine ls_val (v := .int .i64 (1 : Int)) rfl rfl (by kernel_rfl) (fun w => by kernel_rfl) ?_
  refine ls_val (v := .bool false) rfl rfl (by kernel_rfl) (fun w => by kernel_rfl) ?_
  refine ls_end ?_
  refine qn_then ?_
  refine cs_false (by kernel_rfl) ?_
  refine cs_skip' ?_
  refine qn_then ?_
  refine cs_seq ?_
  refine cs_region (l := [_, _]) ?_
  refine ls_val (v := .int .i64 (1 : Int)) rfl rfl (by kernel_rfl) (fun w => by kernel_rfl) ?_
  refine ls_val (v := .int .i64 (1 : Int)) rfl rfl (by kernel_rfl) (fun w => by kernel_rfl) ?_
  refine ls_end ?_
  refine qn_then ?_
  refine cs_ret' ?_
  obtain rfl := Option.some.inj H
  refine qr_res (rs := [_]) rfl (fun w' hs => ⟨[.int .i64 (1 : Int)], (res_tmp (by kernel_rfl) (.nil)), (), rfl, hs.pick (ts := []) (cs := []) trivial (by decide)⟩)

/-! ### (*shadowbox/alloc.Alloc).Later, specialized: function 30 -/
def alloc_Alloc_Later_snil0.f (k : Nat) (a1 : (Int × Int)) : Option (Int) :=
  some (1 : Int)
set_option maxRecDepth 100000 in
set_option maxHeartbeats 4000000 in
theorem alloc_Alloc_Later_snil0.calls (k : Nat) (a1 : (Int × Int)) (r : Int) (b : Bs) (hs0 : St b (stl []) b.w) (H : alloc_Alloc_Later_snil0.f k a1 = some r) :
    Calls Try.prog 30 #[.pointer none, .agg ⟨([Value.int .i64 a1.1] ++ [Value.int .i64 a1.2])⟩] b.w fun e w' => ∃ x : Unit, e = .returned (.int .i64 r) ∧ St b (stl []) w' := by
  unfold alloc_Alloc_Later_snil0.f at H
  refine enterb (n := 24) Try.func30 rfl (by kernel_rfl) (by kernel_rfl) hs0 ?_
  refine cs_sub (s0) (sub_nil _) ?_
  refine cs_seq ?_
  refine cs_region (l := [_, _]) ?_
  refine ls_new rfl rfl (by kernel_rfl) 0 (fun g => .pointer (some ⟨g, 0, none⟩)) (.cells ⟨([Value.int .i64 a1.1] ++ [Value.int .i64 a1.2])⟩ 24) (fun w => by kernel_rfl) ?_
  intro g1
  refine ls_val (v := .int .i64 (0 : Int)) rfl rfl (by kernel_rfl) (fun w => by kernel_rfl) ?_
  refine ls_end ?_
  refine qn_then ?_
  refine cs_seq ?_
  refine cs_region (l := [_, _, _, _]) ?_
  refine ls_val (v := .pointer none) rfl rfl (by kernel_rfl) (fun w => by kernel_rfl) ?_
  refine ls_loadagg (a := ⟨g1, 0, none⟩) (sub := ([Value.int .i64 a1.1] ++ [Value.int .i64 a1.2])) rfl rfl (by kernel_rfl) rfl (by kernel_rfl) (by kernel_rfl) (by kernel_rfl) (len_app (len1 _) (len1 _)) (fun w hs => (hs.vars (k := 0) (by exact rfl) (Sub4.all _))) ?_
  have hc3 : alloc_Alloc_used_snil0.f k a1 = some (1 : Int) := rfl
  refine ls_callb (fid := 49) (vals := #[.pointer none, .agg ⟨([Value.int .i64 a1.1] ++ [Value.int .i64 a1.2])⟩]) (X := Unit) (fun x => .int .i64 (1 : Int)) (fun x => stl []) [] [] [] [] 1 rfl rfl (by kernel_rfl) (fun w => by kernel_rfl) trivial trivial (by decide) (fun w hs hb => alloc_Alloc_used_snil0.calls k a1 (1 : Int) (lent b w [] []) hb  hc3) ?_
  intro x4
  refine ls_val (v := .int .i64 (1 : Int)) rfl rfl (by kernel_rfl) (fun w => by kernel_rfl) ?_
  refine ls_end ?_
  refine qn_then ?_
  refine cs_seq ?_
  refine cs_seq ?_
  refine cs_region (l := [_, _]) ?_
  refine ls_val (v := .int .i64 (1 : Int)) rfl rfl (by kernel_rfl) (fun w => by kernel_rfl) ?_
  refine ls_val (v := .bool false) rfl rfl (by kernel_rfl) (fun w => by kernel_rfl) ?_
  refine ls_end ?_
  refine qn_then ?_
  refine cs_false (by kernel_rfl) ?_
  refine cs_skip' ?_
  refine qn_then ?_
  refine cs_seq ?_
  refine cs_region (l := [_, _]) ?_
  refine ls_val (v := .int .i64 (1 : Int)) rfl rfl (by kernel_rfl) (fun w => by kernel_rfl) ?_
  refine ls_val (v := .int .i64 (1 : Int)) rfl rfl (by kernel_rfl) (fun w => by kernel_rfl) ?_
  refine ls_end ?_
  refine qn_then ?_
  refine cs_ret' ?_
  obtain rfl := Option.some.inj H
  refine qr_res (rs := [_]) rfl (fun w' hs => ⟨[.int .i64 (1 : Int)], (res_tmp (by kernel_rfl) (.nil)), (), rfl, hs.pick (ts := []) (cs := []) trivial (by decide)⟩)

/-! ### (*shadowbox/alloc.Alloc).Free, specialized: function 32 -/
def alloc_Alloc_Free_snil0.f (k : Nat) : Option (Int) :=
  some (0 : Int)
set_option maxRecDepth 100000 in
set_option maxHeartbeats 4000000 in
theorem alloc_Alloc_Free_snil0.calls (k : Nat)  (r : Int) (b : Bs) (hs0 : St b (stl []) b.w) (H : alloc_Alloc_Free_snil0.f k = some r) :
    Calls Try.prog 32 #[.pointer none] b.w fun e w' => ∃ x : Unit, e = .returned (.int .i64 r) ∧ St b (stl []) w' := by
  unfold alloc_Alloc_Free_snil0.f at H
  refine enterb (n := 10) Try.func32 rfl (by kernel_rfl) (by kernel_rfl) hs0 ?_
  refine cs_sub (s0) (sub_nil _) ?_
  refine cs_seq ?_
  refine cs_region (l := [_]) ?_
  refine ls_val (v := .int .i64 (0 : Int)) rfl rfl (by kernel_rfl) (fun w => by kernel_rfl) ?_
  refine ls_end ?_
  refine qn_then ?_
  refine cs_seq ?_
  refine cs_seq ?_
  refine cs_region (l := [_, _]) ?_
  refine ls_val (v := .pointer none) rfl rfl (by kernel_rfl) (fun w => by kernel_rfl) ?_
  have hc2 : alloc_Alloc_none_snil0.f k = some true := rfl
  refine ls_callb (fid := 48) (vals := #[.pointer none]) (X := Unit) (fun x => .bool true) (fun x => stl []) [] [] [] [] 0 rfl rfl (by kernel_rfl) (fun w => by kernel_rfl) trivial trivial (by decide) (fun w hs hb => alloc_Alloc_none_snil0.calls k  true (lent b w [] []) hb  hc2) ?_
  intro x3
  refine ls_end ?_
  refine qn_then ?_
  refine cs_true (by kernel_rfl) ?_
  refine cs_seq ?_
  refine cs_region (l := [_]) ?_
  refine ls_val (v := .int .i64 (0 : Int)) rfl rfl (by kernel_rfl) (fun w => by kernel_rfl) ?_
  refine ls_end ?_
  refine qn_then ?_
  refine cs_ret' ?_
  refine qr_then ?_
  obtain rfl := Option.some.inj H
  refine qr_res (rs := [_]) rfl (fun w' hs => ⟨[.int .i64 (0 : Int)], (res_tmp (by kernel_rfl) (.nil)), (), rfl, hs.pick (ts := []) (cs := []) trivial (by decide)⟩)

/-! ### (*shadowbox/alloc.Alloc).Waiting, specialized: function 33 -/
def alloc_Alloc_Waiting_snil0.f (k : Nat) : Option (Int) :=
  some (0 : Int)
set_option maxRecDepth 100000 in
set_option maxHeartbeats 4000000 in
theorem alloc_Alloc_Waiting_snil0.calls (k : Nat)  (r : Int) (b : Bs) (hs0 : St b (stl []) b.w) (H : alloc_Alloc_Waiting_snil0.f k = some r) :
    Calls Try.prog 33 #[.pointer none] b.w fun e w' => ∃ x : Unit, e = .returned (.int .i64 r) ∧ St b (stl []) w' := by
  unfold alloc_Alloc_Waiting_snil0.f at H
  refine enterb (n := 8) Try.func33 rfl (by kernel_rfl) (by kernel_rfl) hs0 ?_
  refine cs_sub (s0) (sub_nil _) ?_
  refine cs_seq ?_
  refine cs_region (l := [_]) ?_
  refine ls_val (v := .int .i64 (0 : Int)) rfl rfl (by kernel_rfl) (fun w => by kernel_rfl) ?_
  refine ls_end ?_
  refine qn_then ?_
  refine cs_seq ?_
  refine cs_seq ?_
  refine cs_region (l := [_, _]) ?_
  refine ls_val (v := .pointer none) rfl rfl (by kernel_rfl) (fun w => by kernel_rfl) ?_
  have hc2 : alloc_Alloc_none_snil0.f k = some true := rfl
  refine ls_callb (fid := 48) (vals := #[.pointer none]) (X := Unit) (fun x => .bool true) (fun x => stl []) [] [] [] [] 0 rfl rfl (by kernel_rfl) (fun w => by kernel_rfl) trivial trivial (by decide) (fun w hs hb => alloc_Alloc_none_snil0.calls k  true (lent b w [] []) hb  hc2) ?_
  intro x3
  refine ls_end ?_
  refine qn_then ?_
  refine cs_true (by kernel_rfl) ?_
  refine cs_seq ?_
  refine cs_region (l := [_]) ?_
  refine ls_val (v := .int .i64 (0 : Int)) rfl rfl (by kernel_rfl) (fun w => by kernel_rfl) ?_
  refine ls_end ?_
  refine qn_then ?_
  refine cs_ret' ?_
  refine qr_then ?_
  obtain rfl := Option.some.inj H
  refine qr_res (rs := [_]) rfl (fun w' hs => ⟨[.int .i64 (0 : Int)], (res_tmp (by kernel_rfl) (.nil)), (), rfl, hs.pick (ts := []) (cs := []) trivial (by decide)⟩)

/-! ### (*shadowbox/alloc.Alloc).Used, specialized: function 29 -/
def alloc_Alloc_Used_snil0.f (k : Nat) : Option (Int) :=
  some (0 : Int)
set_option maxRecDepth 100000 in
set_option maxHeartbeats 4000000 in
theorem alloc_Alloc_Used_snil0.calls (k : Nat)  (r : Int) (b : Bs) (hs0 : St b (stl []) b.w) (H : alloc_Alloc_Used_snil0.f k = some r) :
    Calls Try.prog 29 #[.pointer none] b.w fun e w' => ∃ x : Unit, e = .returned (.int .i64 r) ∧ St b (stl []) w' := by
  unfold alloc_Alloc_Used_snil0.f at H
  refine enterb (n := 22) Try.func29 rfl (by kernel_rfl) (by kernel_rfl) hs0 ?_
  refine cs_sub (s0) (sub_nil _) ?_
  refine cs_seq ?_
  refine cs_region (l := [_]) ?_
  refine ls_val (v := .int .i64 (0 : Int)) rfl rfl (by kernel_rfl) (fun w => by kernel_rfl) ?_
  refine ls_end ?_
  refine qn_then ?_
  refine cs_seq ?_
  refine cs_seq ?_
  refine cs_region (l := [_, _]) ?_
  refine ls_val (v := .pointer none) rfl rfl (by kernel_rfl) (fun w => by kernel_rfl) ?_
  have hc2 : alloc_Alloc_none_snil0.f k = some true := rfl
  refine ls_callb (fid := 48) (vals := #[.pointer none]) (X := Unit) (fun x => .bool true) (fun x => stl []) [] [] [] [] 0 rfl rfl (by kernel_rfl) (fun w => by kernel_rfl) trivial trivial (by decide) (fun w hs hb => alloc_Alloc_none_snil0.calls k  true (lent b w [] []) hb  hc2) ?_
  intro x3
  refine ls_end ?_
  refine qn_then ?_
  refine cs_true (by kernel_rfl) ?_
  refine cs_seq ?_
  refine cs_region (l := [_]) ?_
  refine ls_val (v := .int .i64 (0 : Int)) rfl rfl (by kernel_rfl) (fun w => by kernel_rfl) ?_
  refine ls_end ?_
  refine qn_then ?_
  refine cs_ret' ?_
  refine qr_then ?_
  obtain rfl := Option.some.inj H
  refine qr_res (rs := [_]) rfl (fun w' hs => ⟨[.int .i64 (0 : Int)], (res_tmp (by kernel_rfl) (.nil)), (), rfl, hs.pick (ts := []) (cs := []) trivial (by decide)⟩)

/-! ### (*shadowbox/alloc.Alloc).Spans, specialized: function 38 -/
def alloc_Alloc_Spans_snil0.f (k : Nat) : Option ((List (Int × Int))) :=
  some ([] : List (Int × Int))
set_option maxRecDepth 100000 in
set_option maxHeartbeats 4000000 in
theorem alloc_Alloc_Spans_snil0.calls (k : Nat)  (r : (List (Int × Int))) (b : Bs) (hs0 : St b (stl []) b.w) (H : alloc_Alloc_Spans_snil0.f k = some r) :
    Calls Try.prog 38 #[.pointer none] b.w fun e w' => ∃ x : (Option Addr × Nat), e = .returned (.slice x.1 r.length x.2) ∧ St b (stl [Ck.sl T24 x.1 x.2 r]) w' := by
  unfold alloc_Alloc_Spans_snil0.f at H
  refine enterb (n := 10) Try.func38 rfl (by kernel_rfl) (by kernel_rfl) hs0 ?_
  refine cs_sub (s0) (sub_nil _) ?_
  refine cs_seq ?_
  refine cs_region (l := [_]) ?_
  refine ls_val (v := .slice none 0 0) rfl rfl (by kernel_rfl) (fun w => by kernel_rfl) ?_
  refine ls_end ?_
  refine qn_then ?_
  refine cs_seq ?_
  refine cs_seq ?_
  refine cs_region (l := [_, _]) ?_
  refine ls_val (v := .pointer none) rfl rfl (by kernel_rfl) (fun w => by kernel_rfl) ?_
  have hc2 : alloc_Alloc_none_snil0.f k = some true := rfl
  refine ls_callb (fid := 48) (vals := #[.pointer none]) (X := Unit) (fun x => .bool true) (fun x => stl []) [] [] [] [] 0 rfl rfl (by kernel_rfl) (fun w => by kernel_rfl) trivial trivial (by decide) (fun w hs hb => alloc_Alloc_none_snil0.calls k  true (lent b w [] []) hb  hc2) ?_
  intro x3
  refine ls_end ?_
  refine qn_then ?_
  refine cs_true (by kernel_rfl) ?_
  refine cs_seq ?_
  refine cs_region (l := [_]) ?_
  refine ls_val (v := .slice none 0 0) rfl rfl (by kernel_rfl) (fun w => by kernel_rfl) ?_
  refine ls_end ?_
  refine qn_then ?_
  refine cs_ret' ?_
  refine qr_then ?_
  refine qr_nilrow 0 T24 ?_
  obtain rfl := Option.some.inj H
  refine qr_res (rs := [_]) rfl (fun w' hs => ⟨[.slice none 0 0], (res_tmp (by kernel_rfl) (.nil)), (none, 0), rfl, hs.pick (ts := [0]) (cs := [Ck.sl T24 none 0 ([] : List (Int × Int))]) ⟨by exact rfl, trivial⟩ (by decide)⟩)

/-! ### (*shadowbox/alloc.Alloc).none, specialized: function 48 -/
def alloc_Alloc_none_szero0.f (k : Nat) : Option (Bool) :=
  some true
set_option maxRecDepth 100000 in
set_option maxHeartbeats 4000000 in
theorem alloc_Alloc_none_szero0.calls (k : Nat) (pg0 : Nat) (r : Bool) (b : Bs) (hs0 : St b (stl [Ck.var 66 pg0 ((([Value.int .i64 (0 : Int)] ++ [Value.int .i64 (0 : Int)]) ++ ([Value.bool false] ++ ([Value.int .i64 (0 : Int)] ++ ([Value.slice none 0 0] ++ ([Value.map none] ++ [Value.slice none 0 0]))))))]) b.w) (H : alloc_Alloc_none_szero0.f k = some r) :
    Calls Try.prog 48 #[.pointer (some ⟨pg0, 0, none⟩)] b.w fun e w' => ∃ x : Unit, e = .returned (.bool r) ∧ St b (stl [Ck.var 66 pg0 ((([Value.int .i64 (0 : Int)] ++ [Value.int .i64 (0 : Int)]) ++ ([Value.bool false] ++ ([Value.int .i64 (0 : Int)] ++ ([Value.slice none 0 0] ++ ([Value.map none] ++ [Value.slice none 0 0]))))))]) w' := by
  unfold alloc_Alloc_none_szero0.f at H
  refine enterb (n := 12) Try.func48 rfl (by kernel_rfl) (by kernel_rfl) hs0 ?_
  refine cs_sub (sput s0 0 (some (Ck.var 66 pg0 ((([Value.int .i64 (0 : Int)] ++ [Value.int .i64 (0 : Int)]) ++ ([Value.bool false] ++ ([Value.int .i64 (0 : Int)] ++ ([Value.slice none 0 0] ++ ([Value.map none] ++ [Value.slice none 0 0]))))))))) (sub_put (by exact rfl) (sub_nil _)) ?_
  refine cs_seq ?_
  refine cs_region (l := [_]) ?_
  refine ls_val (v := .bool false) rfl rfl (by kernel_rfl) (fun w => by kernel_rfl) ?_
  refine ls_end ?_
  refine qn_then ?_
  refine cs_seq ?_
  refine cs_region (l := [_, _, _, _, _, _, _, _, _, _]) ?_
  refine ls_val (v := .pointer (some ⟨pg0, 0, none⟩)) rfl rfl (by kernel_rfl) (fun w => by kernel_rfl) ?_
  refine ls_val (v := .bool false) rfl rfl (by kernel_rfl) (fun w => by kernel_rfl) ?_
  refine ls_val (v := .bool false) rfl rfl (by kernel_rfl) (fun w => by kernel_rfl) ?_
  refine ls_on (j := 2) (t := 5) (b := false) rfl rfl (by kernel_rfl) (by kernel_rfl) ?_
  refine ls_val (v := .pointer (some ⟨pg0, 0, none⟩)) rfl rfl (by kernel_rfl) (fun w => by kernel_rfl) ?_
  refine ls_on (j := 2) (t := 5) (b := false) rfl rfl (by kernel_rfl) (by kernel_rfl) ?_
  refine ls_val (v := .pointer (some ⟨pg0, 0, none⟩)) rfl rfl (by kernel_rfl) (fun w => by kernel_rfl) ?_
  refine ls_on (j := 2) (t := 5) (b := false) rfl rfl (by kernel_rfl) (by kernel_rfl) ?_
  refine ls_val (v := .pointer (some ⟨pg0, (0 + 2), none⟩)) rfl rfl (by kernel_rfl) (fun w => by kernel_rfl) ?_
  refine ls_on (j := 2) (t := 5) (b := false) rfl rfl (by kernel_rfl) (by kernel_rfl) ?_
  refine ls_load (a0 := ⟨pg0, (0 + 2), none⟩) (v := .bool false) (de := TypeDesc.bool) rfl rfl (by kernel_rfl) rfl (by kernel_rfl) (by kernel_rfl) (by kernel_rfl) (fun w hs => (hs.var (k := 0) (by exact rfl) (Sub4.trans (Sub4.all _) (Sub4.skip (n := 2) (len_app (len1 _) (len1 _)) (Sub4.head _ _))))) ?_
  refine ls_on (j := 2) (t := 5) (b := false) rfl rfl (by kernel_rfl) (by kernel_rfl) ?_
  refine ls_val (v := .bool true) rfl rfl (by kernel_rfl) (fun w => by kernel_rfl) ?_
  refine ls_val (v := .bool true) rfl rfl (by kernel_rfl) (fun w => by kernel_rfl) ?_
  refine ls_val (v := .bool true) rfl rfl (by kernel_rfl) (fun w => by kernel_rfl) ?_
  refine ls_end ?_
  refine qn_then ?_
  refine cs_ret' ?_
  obtain rfl := Option.some.inj H
  refine qr_res (rs := [_]) rfl (fun w' hs => ⟨[.bool true], (res_tmp (by kernel_rfl) (.nil)), (), rfl, hs.pick (ts := [0]) (cs := [Ck.var 66 pg0 ((([Value.int .i64 (0 : Int)] ++ [Value.int .i64 (0 : Int)]) ++ ([Value.bool false] ++ ([Value.int .i64 (0 : Int)] ++ ([Value.slice none 0 0] ++ ([Value.map none] ++ [Value.slice none 0 0]))))))]) ⟨by exact rfl, trivial⟩ (by decide)⟩)

/-! ### (*shadowbox/alloc.Alloc).Take, specialized: function 28 -/
def alloc_Alloc_Take_szero0.f (k : Nat) (a1 : Int) (a2 : Bool) : Option (Int × Int) :=
  some ((0 : Int), (1 : Int))
set_option maxRecDepth 100000 in
set_option maxHeartbeats 4000000 in
theorem alloc_Alloc_Take_szero0.calls (k : Nat) (pg0 : Nat) (a1 : Int) (a2 : Bool) (r : Int × Int) (b : Bs) (hs0 : St b (stl [Ck.var 66 pg0 ((([Value.int .i64 (0 : Int)] ++ [Value.int .i64 (0 : Int)]) ++ ([Value.bool false] ++ ([Value.int .i64 (0 : Int)] ++ ([Value.slice none 0 0] ++ ([Value.map none] ++ [Value.slice none 0 0]))))))]) b.w) (H : alloc_Alloc_Take_szero0.f k a1 a2 = some r) :
    Calls Try.prog 28 #[.pointer (some ⟨pg0, 0, none⟩), .int .i64 a1, .bool a2] b.w fun e w' => ∃ x : Unit, e = .returned (.tuple #[.int .i64 r.1, .int .i64 r.2]) ∧ St b (stl [Ck.var 66 pg0 ((([Value.int .i64 (0 : Int)] ++ [Value.int .i64 (0 : Int)]) ++ ([Value.bool false] ++ ([Value.int .i64 (0 : Int)] ++ ([Value.slice none 0 0] ++ ([Value.map none] ++ [Value.slice none 0 0]))))))]) w' := by
  unfold alloc_Alloc_Take_szero0.f at H
  refine enterb (n := 55) Try.func28 rfl (by kernel_rfl) (by kernel_rfl) hs0 ?_
  refine cs_sub (sput s0 0 (some (Ck.var 66 pg0 ((([Value.int .i64 (0 : Int)] ++ [Value.int .i64 (0 : Int)]) ++ ([Value.bool false] ++ ([Value.int .i64 (0 : Int)] ++ ([Value.slice none 0 0] ++ ([Value.map none] ++ [Value.slice none 0 0]))))))))) (sub_put (by exact rfl) (sub_nil _)) ?_
  refine cs_seq ?_
  refine cs_region (l := [_, _]) ?_
  refine ls_val (v := .int .i64 (0 : Int)) rfl rfl (by kernel_rfl) (fun w => by kernel_rfl) ?_
  refine ls_val (v := .int .i64 (0 : Int)) rfl rfl (by kernel_rfl) (fun w => by kernel_rfl) ?_
  refine ls_end ?_
  refine qn_then ?_
  refine cs_seq ?_
  refine cs_block ?_
  refine cs_seq ?_
  refine cs_region (l := [_, _, _]) ?_
  refine ls_val (v := .pointer (some ⟨pg0, 0, none⟩)) rfl rfl (by kernel_rfl) (fun w => by kernel_rfl) ?_
  have hc2 : alloc_Alloc_none_szero0.f k = some true := rfl
  refine ls_callb (fid := 48) (vals := #[.pointer (some ⟨pg0, 0, none⟩)]) (X := Unit) (fun x => .bool true) (fun x => stl [Ck.var 66 pg0 ((([Value.int .i64 (0 : Int)] ++ [Value.int .i64 (0 : Int)]) ++ ([Value.bool false] ++ ([Value.int .i64 (0 : Int)] ++ ([Value.slice none 0 0] ++ ([Value.map none] ++ [Value.slice none 0 0]))))))]) [0] [] [Ck.var 66 pg0 ((([Value.int .i64 (0 : Int)] ++ [Value.int .i64 (0 : Int)]) ++ ([Value.bool false] ++ ([Value.int .i64 (0 : Int)] ++ ([Value.slice none 0 0] ++ ([Value.map none] ++ [Value.slice none 0 0]))))))] [] 1 rfl rfl (by kernel_rfl) (fun w => by kernel_rfl) ⟨by exact rfl, trivial⟩ trivial (by decide) (fun w hs hb => alloc_Alloc_none_szero0.calls k pg0 true (lent b w [Ck.var 66 pg0 ((([Value.int .i64 (0 : Int)] ++ [Value.int .i64 (0 : Int)]) ++ ([Value.bool false] ++ ([Value.int .i64 (0 : Int)] ++ ([Value.slice none 0 0] ++ ([Value.map none] ++ [Value.slice none 0 0]))))))] []) hb  hc2) ?_
  intro x3
  refine ls_val (v := .bool true) rfl rfl (by kernel_rfl) (fun w => by kernel_rfl) ?_
  refine ls_end ?_
  refine qn_then ?_
  refine cs_true (by kernel_rfl) ?_
  refine cs_seq ?_
  refine cs_region (l := [_, _]) ?_
  refine ls_val (v := .int .i64 (0 : Int)) rfl rfl (by kernel_rfl) (fun w => by kernel_rfl) ?_
  refine ls_val (v := .int .i64 (1 : Int)) rfl rfl (by kernel_rfl) (fun w => by kernel_rfl) ?_
  refine ls_end ?_
  refine qn_then ?_
  refine cs_ret' ?_
  refine qr_block ?_
  refine qr_then ?_
  obtain rfl := Option.some.inj H
  refine qr_res (rs := [_, _]) rfl (fun w' hs => ⟨[.int .i64 (0 : Int), .int .i64 (1 : Int)], (res_tmp (by kernel_rfl) (res_tmp (by kernel_rfl) (.nil))), (), rfl, hs.pick (ts := [0]) (cs := [Ck.var 66 pg0 ((([Value.int .i64 (0 : Int)] ++ [Value.int .i64 (0 : Int)]) ++ ([Value.bool false] ++ ([Value.int .i64 (0 : Int)] ++ ([Value.slice none 0 0] ++ ([Value.map none] ++ [Value.slice none 0 0]))))))]) ⟨by exact rfl, trivial⟩ (by decide)⟩)

/-! ### (*shadowbox/alloc.Alloc).Commit, specialized: function 31 -/
def alloc_Alloc_Commit_szero0.f (k : Nat) : Option (Unit) :=
  some ()
set_option maxRecDepth 100000 in
set_option maxHeartbeats 4000000 in
theorem alloc_Alloc_Commit_szero0.calls (k : Nat) (pg0 : Nat) (r : Unit) (b : Bs) (hs0 : St b (stl [Ck.var 66 pg0 ((([Value.int .i64 (0 : Int)] ++ [Value.int .i64 (0 : Int)]) ++ ([Value.bool false] ++ ([Value.int .i64 (0 : Int)] ++ ([Value.slice none 0 0] ++ ([Value.map none] ++ [Value.slice none 0 0]))))))]) b.w) (H : alloc_Alloc_Commit_szero0.f k = some r) :
    Calls Try.prog 31 #[.pointer (some ⟨pg0, 0, none⟩)] b.w fun e w' => ∃ x : Unit, e = .returned (.tuple #[]) ∧ St b (stl [Ck.var 66 pg0 ((([Value.int .i64 (0 : Int)] ++ [Value.int .i64 (0 : Int)]) ++ ([Value.bool false] ++ ([Value.int .i64 (0 : Int)] ++ ([Value.slice none 0 0] ++ ([Value.map none] ++ [Value.slice none 0 0]))))))]) w' := by
  unfold alloc_Alloc_Commit_szero0.f at H
  refine enterb (n := 46) Try.func31 rfl (by kernel_rfl) (by kernel_rfl) hs0 ?_
  refine cs_sub (sput s0 0 (some (Ck.var 66 pg0 ((([Value.int .i64 (0 : Int)] ++ [Value.int .i64 (0 : Int)]) ++ ([Value.bool false] ++ ([Value.int .i64 (0 : Int)] ++ ([Value.slice none 0 0] ++ ([Value.map none] ++ [Value.slice none 0 0]))))))))) (sub_put (by exact rfl) (sub_nil _)) ?_
  refine cs_seq ?_
  refine cs_seq ?_
  refine cs_region (l := [_, _]) ?_
  refine ls_val (v := .pointer (some ⟨pg0, 0, none⟩)) rfl rfl (by kernel_rfl) (fun w => by kernel_rfl) ?_
  have hc2 : alloc_Alloc_none_szero0.f k = some true := rfl
  refine ls_callb (fid := 48) (vals := #[.pointer (some ⟨pg0, 0, none⟩)]) (X := Unit) (fun x => .bool true) (fun x => stl [Ck.var 66 pg0 ((([Value.int .i64 (0 : Int)] ++ [Value.int .i64 (0 : Int)]) ++ ([Value.bool false] ++ ([Value.int .i64 (0 : Int)] ++ ([Value.slice none 0 0] ++ ([Value.map none] ++ [Value.slice none 0 0]))))))]) [0] [] [Ck.var 66 pg0 ((([Value.int .i64 (0 : Int)] ++ [Value.int .i64 (0 : Int)]) ++ ([Value.bool false] ++ ([Value.int .i64 (0 : Int)] ++ ([Value.slice none 0 0] ++ ([Value.map none] ++ [Value.slice none 0 0]))))))] [] 1 rfl rfl (by kernel_rfl) (fun w => by kernel_rfl) ⟨by exact rfl, trivial⟩ trivial (by decide) (fun w hs hb => alloc_Alloc_none_szero0.calls k pg0 true (lent b w [Ck.var 66 pg0 ((([Value.int .i64 (0 : Int)] ++ [Value.int .i64 (0 : Int)]) ++ ([Value.bool false] ++ ([Value.int .i64 (0 : Int)] ++ ([Value.slice none 0 0] ++ ([Value.map none] ++ [Value.slice none 0 0]))))))] []) hb  hc2) ?_
  intro x3
  refine ls_end ?_
  refine qn_then ?_
  refine cs_true (by kernel_rfl) ?_
  refine cs_ret' ?_
  refine qr_then ?_
  obtain rfl := Option.some.inj H
  refine qr_res (rs := []) rfl (fun w' hs => ⟨[], (.nil), (), rfl, hs.pick (ts := [0]) (cs := [Ck.var 66 pg0 ((([Value.int .i64 (0 : Int)] ++ [Value.int .i64 (0 : Int)]) ++ ([Value.bool false] ++ ([Value.int .i64 (0 : Int)] ++ ([Value.slice none 0 0] ++ ([Value.map none] ++ [Value.slice none 0 0]))))))]) ⟨by exact rfl, trivial⟩ (by decide)⟩)

/-! ### (*shadowbox/alloc.Alloc).Abort, specialized: function 39 -/
def alloc_Alloc_Abort_szero0.f (k : Nat) : Option (Unit) :=
  some ()
set_option maxRecDepth 100000 in
set_option maxHeartbeats 4000000 in
theorem alloc_Alloc_Abort_szero0.calls (k : Nat) (pg0 : Nat) (r : Unit) (b : Bs) (hs0 : St b (stl [Ck.var 66 pg0 ((([Value.int .i64 (0 : Int)] ++ [Value.int .i64 (0 : Int)]) ++ ([Value.bool false] ++ ([Value.int .i64 (0 : Int)] ++ ([Value.slice none 0 0] ++ ([Value.map none] ++ [Value.slice none 0 0]))))))]) b.w) (H : alloc_Alloc_Abort_szero0.f k = some r) :
    Calls Try.prog 39 #[.pointer (some ⟨pg0, 0, none⟩)] b.w fun e w' => ∃ x : Unit, e = .returned (.tuple #[]) ∧ St b (stl [Ck.var 66 pg0 ((([Value.int .i64 (0 : Int)] ++ [Value.int .i64 (0 : Int)]) ++ ([Value.bool false] ++ ([Value.int .i64 (0 : Int)] ++ ([Value.slice none 0 0] ++ ([Value.map none] ++ [Value.slice none 0 0]))))))]) w' := by
  unfold alloc_Alloc_Abort_szero0.f at H
  refine enterb (n := 16) Try.func39 rfl (by kernel_rfl) (by kernel_rfl) hs0 ?_
  refine cs_sub (sput s0 0 (some (Ck.var 66 pg0 ((([Value.int .i64 (0 : Int)] ++ [Value.int .i64 (0 : Int)]) ++ ([Value.bool false] ++ ([Value.int .i64 (0 : Int)] ++ ([Value.slice none 0 0] ++ ([Value.map none] ++ [Value.slice none 0 0]))))))))) (sub_put (by exact rfl) (sub_nil _)) ?_
  refine cs_seq ?_
  refine cs_region (l := [_, _, _]) ?_
  refine ls_val (v := .pointer (some ⟨pg0, 0, none⟩)) rfl rfl (by kernel_rfl) (fun w => by kernel_rfl) ?_
  have hc2 : alloc_Alloc_none_szero0.f k = some true := rfl
  refine ls_callb (fid := 48) (vals := #[.pointer (some ⟨pg0, 0, none⟩)]) (X := Unit) (fun x => .bool true) (fun x => stl [Ck.var 66 pg0 ((([Value.int .i64 (0 : Int)] ++ [Value.int .i64 (0 : Int)]) ++ ([Value.bool false] ++ ([Value.int .i64 (0 : Int)] ++ ([Value.slice none 0 0] ++ ([Value.map none] ++ [Value.slice none 0 0]))))))]) [0] [] [Ck.var 66 pg0 ((([Value.int .i64 (0 : Int)] ++ [Value.int .i64 (0 : Int)]) ++ ([Value.bool false] ++ ([Value.int .i64 (0 : Int)] ++ ([Value.slice none 0 0] ++ ([Value.map none] ++ [Value.slice none 0 0]))))))] [] 1 rfl rfl (by kernel_rfl) (fun w => by kernel_rfl) ⟨by exact rfl, trivial⟩ trivial (by decide) (fun w hs hb => alloc_Alloc_none_szero0.calls k pg0 true (lent b w [Ck.var 66 pg0 ((([Value.int .i64 (0 : Int)] ++ [Value.int .i64 (0 : Int)]) ++ ([Value.bool false] ++ ([Value.int .i64 (0 : Int)] ++ ([Value.slice none 0 0] ++ ([Value.map none] ++ [Value.slice none 0 0]))))))] []) hb  hc2) ?_
  intro x3
  refine ls_val (v := .bool false) rfl rfl (by kernel_rfl) (fun w => by kernel_rfl) ?_
  refine ls_end ?_
  refine qn_then ?_
  refine cs_false (by kernel_rfl) ?_
  refine cs_skip' ?_
  obtain rfl := Option.some.inj H
  refine qn_res (rs := []) rfl (fun w' hs => ⟨[], (.nil), (), rfl, hs.pick (ts := [0]) (cs := [Ck.var 66 pg0 ((([Value.int .i64 (0 : Int)] ++ [Value.int .i64 (0 : Int)]) ++ ([Value.bool false] ++ ([Value.int .i64 (0 : Int)] ++ ([Value.slice none 0 0] ++ ([Value.map none] ++ [Value.slice none 0 0]))))))]) ⟨by exact rfl, trivial⟩ (by decide)⟩)

/-! ### (*shadowbox/alloc.Alloc).check, specialized: function 51 -/
def alloc_Alloc_check_szero0.f (k : Nat) (a1 : (Int × Int)) : Option (Int) :=
  some (1 : Int)
set_option maxRecDepth 100000 in
set_option maxHeartbeats 4000000 in
theorem alloc_Alloc_check_szero0.calls (k : Nat) (pg0 : Nat) (a1 : (Int × Int)) (r : Int) (b : Bs) (hs0 : St b (stl [Ck.var 66 pg0 ((([Value.int .i64 (0 : Int)] ++ [Value.int .i64 (0 : Int)]) ++ ([Value.bool false] ++ ([Value.int .i64 (0 : Int)] ++ ([Value.slice none 0 0] ++ ([Value.map none] ++ [Value.slice none 0 0]))))))]) b.w) (H : alloc_Alloc_check_szero0.f k a1 = some r) :
    Calls Try.prog 51 #[.pointer (some ⟨pg0, 0, none⟩), .agg ⟨([Value.int .i64 a1.1] ++ [Value.int .i64 a1.2])⟩] b.w fun e w' => ∃ x : Unit, e = .returned (.int .i64 r) ∧ St b (stl [Ck.var 66 pg0 ((([Value.int .i64 (0 : Int)] ++ [Value.int .i64 (0 : Int)]) ++ ([Value.bool false] ++ ([Value.int .i64 (0 : Int)] ++ ([Value.slice none 0 0] ++ ([Value.map none] ++ [Value.slice none 0 0]))))))]) w' := by
  unfold alloc_Alloc_check_szero0.f at H
  refine enterb (n := 34) Try.func51 rfl (by kernel_rfl) (by kernel_rfl) hs0 ?_
  refine cs_sub (sput s0 0 (some (Ck.var 66 pg0 ((([Value.int .i64 (0 : Int)] ++ [Value.int .i64 (0 : Int)]) ++ ([Value.bool false] ++ ([Value.int .i64 (0 : Int)] ++ ([Value.slice none 0 0] ++ ([Value.map none] ++ [Value.slice none 0 0]))))))))) (sub_put (by exact rfl) (sub_nil _)) ?_
  refine cs_seq ?_
  refine cs_region (l := [_, _]) ?_
  refine ls_new rfl rfl (by kernel_rfl) 1 (fun g => .pointer (some ⟨g, 0, none⟩)) (.cells ⟨([Value.int .i64 a1.1] ++ [Value.int .i64 a1.2])⟩ 24) (fun w => by kernel_rfl) ?_
  intro g1
  refine ls_val (v := .int .i64 (0 : Int)) rfl rfl (by kernel_rfl) (fun w => by kernel_rfl) ?_
  refine ls_end ?_
  refine qn_then ?_
  refine cs_seq ?_
  refine cs_block ?_
  refine cs_seq ?_
  refine cs_region (l := [_, _, _]) ?_
  refine ls_val (v := .pointer (some ⟨pg0, 0, none⟩)) rfl rfl (by kernel_rfl) (fun w => by kernel_rfl) ?_
  have hc3 : alloc_Alloc_none_szero0.f k = some true := rfl
  refine ls_callb (fid := 48) (vals := #[.pointer (some ⟨pg0, 0, none⟩)]) (X := Unit) (fun x => .bool true) (fun x => stl [Ck.var 66 pg0 ((([Value.int .i64 (0 : Int)] ++ [Value.int .i64 (0 : Int)]) ++ ([Value.bool false] ++ ([Value.int .i64 (0 : Int)] ++ ([Value.slice none 0 0] ++ ([Value.map none] ++ [Value.slice none 0 0]))))))]) [0] [] [Ck.var 66 pg0 ((([Value.int .i64 (0 : Int)] ++ [Value.int .i64 (0 : Int)]) ++ ([Value.bool false] ++ ([Value.int .i64 (0 : Int)] ++ ([Value.slice none 0 0] ++ ([Value.map none] ++ [Value.slice none 0 0]))))))] [] 2 rfl rfl (by kernel_rfl) (fun w => by kernel_rfl) ⟨by exact rfl, trivial⟩ trivial (by decide) (fun w hs hb => alloc_Alloc_none_szero0.calls k pg0 true (lent b w [Ck.var 66 pg0 ((([Value.int .i64 (0 : Int)] ++ [Value.int .i64 (0 : Int)]) ++ ([Value.bool false] ++ ([Value.int .i64 (0 : Int)] ++ ([Value.slice none 0 0] ++ ([Value.map none] ++ [Value.slice none 0 0]))))))] []) hb  hc3) ?_
  intro x4
  refine ls_val (v := .bool true) rfl rfl (by kernel_rfl) (fun w => by kernel_rfl) ?_
  refine ls_end ?_
  refine qn_then ?_
  refine cs_true (by kernel_rfl) ?_
  refine cs_seq ?_
  refine cs_region (l := [_]) ?_
  refine ls_val (v := .int .i64 (1 : Int)) rfl rfl (by kernel_rfl) (fun w => by kernel_rfl) ?_
  refine ls_end ?_
  refine qn_then ?_
  refine cs_ret' ?_
  refine qr_block ?_
  refine qr_then ?_
  obtain rfl := Option.some.inj H
  refine qr_res (rs := [_]) rfl (fun w' hs => ⟨[.int .i64 (1 : Int)], (res_tmp (by kernel_rfl) (.nil)), (), rfl, hs.pick (ts := [0]) (cs := [Ck.var 66 pg0 ((([Value.int .i64 (0 : Int)] ++ [Value.int .i64 (0 : Int)]) ++ ([Value.bool false] ++ ([Value.int .i64 (0 : Int)] ++ ([Value.slice none 0 0] ++ ([Value.map none] ++ [Value.slice none 0 0]))))))]) ⟨by exact rfl, trivial⟩ (by decide)⟩)

/-! ### (*shadowbox/alloc.Alloc).Use, specialized: function 40 -/
def alloc_Alloc_Use_szero0.tab4 : List (List Nat) := [[], [0], [0, 1], [0, 1, 2], [0, 1, 2, 3], [0, 1, 2, 3, 4], [0, 1, 2, 3, 4, 5], [0, 1, 2], [0, 1, 2, 3, 4, 5, 6, 7], [0, 1, 2, 3, 4, 5, 6, 7, 8], [0, 1, 2, 3, 4, 5, 6, 7, 8, 9]]
def alloc_Alloc_Use_szero0.f (k : Nat) (a1 : (Int × Int)) : Option (Int) :=
  some (1 : Int)
set_option maxRecDepth 100000 in
set_option maxHeartbeats 4000000 in
theorem alloc_Alloc_Use_szero0.calls (k : Nat) (pg0 : Nat) (a1 : (Int × Int)) (r : Int) (b : Bs) (hs0 : St b (stl [Ck.var 66 pg0 ((([Value.int .i64 (0 : Int)] ++ [Value.int .i64 (0 : Int)]) ++ ([Value.bool false] ++ ([Value.int .i64 (0 : Int)] ++ ([Value.slice none 0 0] ++ ([Value.map none] ++ [Value.slice none 0 0]))))))]) b.w) (H : alloc_Alloc_Use_szero0.f k a1 = some r) :
    Calls Try.prog 40 #[.pointer (some ⟨pg0, 0, none⟩), .agg ⟨([Value.int .i64 a1.1] ++ [Value.int .i64 a1.2])⟩] b.w fun e w' => ∃ x : Unit, e = .returned (.int .i64 r) ∧ St b (stl [Ck.var 66 pg0 ((([Value.int .i64 (0 : Int)] ++ [Value.int .i64 (0 : Int)]) ++ ([Value.bool false] ++ ([Value.int .i64 (0 : Int)] ++ ([Value.slice none 0 0] ++ ([Value.map none] ++ [Value.slice none 0 0]))))))]) w' := by
  unfold alloc_Alloc_Use_szero0.f at H
  refine enterb (n := 41) Try.func40 rfl (by kernel_rfl) (by kernel_rfl) hs0 ?_
  refine cs_sub (sput s0 0 (some (Ck.var 66 pg0 ((([Value.int .i64 (0 : Int)] ++ [Value.int .i64 (0 : Int)]) ++ ([Value.bool false] ++ ([Value.int .i64 (0 : Int)] ++ ([Value.slice none 0 0] ++ ([Value.map none] ++ [Value.slice none 0 0]))))))))) (sub_put (by exact rfl) (sub_nil _)) ?_
  refine cs_seq ?_
  refine cs_region (l := [_, _]) ?_
  refine ls_new rfl rfl (by kernel_rfl) 1 (fun g => .pointer (some ⟨g, 0, none⟩)) (.cells ⟨([Value.int .i64 a1.1] ++ [Value.int .i64 a1.2])⟩ 24) (fun w => by kernel_rfl) ?_
  intro g1
  refine ls_val (v := .int .i64 (0 : Int)) rfl rfl (by kernel_rfl) (fun w => by kernel_rfl) ?_
  refine ls_end ?_
  refine qn_then ?_
  refine cs_seq ?_
  refine cs_region (l := [_, _, _, _]) ?_
  refine ls_val (v := .pointer (some ⟨pg0, 0, none⟩)) rfl rfl (by kernel_rfl) (fun w => by kernel_rfl) ?_
  refine ls_loadagg (a := ⟨g1, 0, none⟩) (sub := ([Value.int .i64 a1.1] ++ [Value.int .i64 a1.2])) rfl rfl (by kernel_rfl) rfl (by kernel_rfl) (by kernel_rfl) (by kernel_rfl) (len_app (len1 _) (len1 _)) (fun w hs => (hs.vars (k := 1) (by exact rfl) (Sub4.all _))) ?_
  have hc3 : alloc_Alloc_check_szero0.f k a1 = some (1 : Int) := rfl
  refine ls_callb (fid := 51) (vals := #[.pointer (some ⟨pg0, 0, none⟩), .agg ⟨([Value.int .i64 a1.1] ++ [Value.int .i64 a1.2])⟩]) (X := Unit) (fun x => .int .i64 (1 : Int)) (fun x => stl [Ck.var 66 pg0 ((([Value.int .i64 (0 : Int)] ++ [Value.int .i64 (0 : Int)]) ++ ([Value.bool false] ++ ([Value.int .i64 (0 : Int)] ++ ([Value.slice none 0 0] ++ ([Value.map none] ++ [Value.slice none 0 0]))))))]) [0] [] [Ck.var 66 pg0 ((([Value.int .i64 (0 : Int)] ++ [Value.int .i64 (0 : Int)]) ++ ([Value.bool false] ++ ([Value.int .i64 (0 : Int)] ++ ([Value.slice none 0 0] ++ ([Value.map none] ++ [Value.slice none 0 0]))))))] [] 2 rfl rfl (by kernel_rfl) (fun w => by kernel_rfl) ⟨by exact rfl, trivial⟩ trivial (by decide) (fun w hs hb => alloc_Alloc_check_szero0.calls k pg0 a1 (1 : Int) (lent b w [Ck.var 66 pg0 ((([Value.int .i64 (0 : Int)] ++ [Value.int .i64 (0 : Int)]) ++ ([Value.bool false] ++ ([Value.int .i64 (0 : Int)] ++ ([Value.slice none 0 0] ++ ([Value.map none] ++ [Value.slice none 0 0]))))))] []) hb  hc3) ?_
  intro x4
  refine ls_val (v := .int .i64 (1 : Int)) rfl rfl (by kernel_rfl) (fun w => by kernel_rfl) ?_
  refine ls_end ?_
  refine qn_then ?_
  refine cs_seq ?_
  refine cs_seq ?_
  obtain ⟨s6_0, hs6_0⟩ : ∃ z : Value → Sto → Prop, z = (fun v R => v = .int .i64 (1 : Int) ∧ R = s0) := ⟨_, rfl⟩
  refine have_op (l := [_, _, _, _, _, _, _, _, _, _, _]) alloc_Alloc_Use_szero0.tab4 2 0 (fun sp => sp 0 = s6_0) (fun sp on hA hon => ?_) (fun ops6_0 => ?_)
  · refine ⟨fun o ho vs Rs f' S' w hp hf hx hS hR hs => ?_⟩
    obtain rfl := Option.some.inj ho
    rw [hA, hs6_0]
    refine And.intro (fun a ha => (want_none rfl a ha).trans hon.symm) (And.intro (fun _ => ?_) (fun h => by rw [hon] at h; cases h))
    have hF := fr_next (rfl) ((hx 5 (by kernel_rfl)).trans (by kernel_rfl : (_ : Value) = .int .i64 (1 : Int)))
    refine ls_fr hF ?_
    refine ls_val (v := .int .i64 (1 : Int)) rfl rfl (by kernel_rfl) (fun w => by kernel_rfl) ?_
    exact ls_fin s0 (.int .i64 (1 : Int)) (congrArg (fun z => upd z 9 _) hF.symm) ⟨rfl, rfl⟩ (sub_nil _)
  obtain ⟨s6_1, hs6_1⟩ : ∃ z : Value → Sto → Prop, z = (fun v R => v = .bool false ∧ R = s0) := ⟨_, rfl⟩
  refine have_op (l := [_, _, _, _, _, _, _, _, _, _, _]) alloc_Alloc_Use_szero0.tab4 2 1 (fun sp => sp 1 = s6_1 ∧ sp 0 = s6_0) (fun sp on hA hon => ?_) (fun ops6_1 => ?_)
  · refine ⟨fun o ho vs Rs f' S' w hp hf hx hS hR hs => ?_⟩
    obtain rfl := Option.some.inj ho
    obtain ⟨hv0, hR0⟩ := (spe hA.2 hs6_0 (hp 0 (by kernel_rfl)))
    rw [hA.1, hs6_1]
    refine And.intro (fun a ha => (want_none rfl a ha).trans hon.symm) (And.intro (fun _ => ?_) (fun h => by rw [hon] at h; cases h))
    have hF := fr_next (rfl) ((hf 0 9 (by kernel_rfl) rfl).trans hv0)
    refine ls_fr hF ?_
    refine ls_val (v := .bool false) rfl rfl (by kernel_rfl) (fun w => by kernel_rfl) ?_
    exact ls_fin s0 (.bool false) (congrArg (fun z => upd z 10 _) hF.symm) ⟨rfl, rfl⟩ (sub_nil _)
  obtain ⟨s6_2, hs6_2⟩ : ∃ z : Value → Sto → Prop, z = (fun v R => v = .bool false ∧ R = s0) := ⟨_, rfl⟩
  refine have_op (l := [_, _, _, _, _, _, _, _, _, _, _]) alloc_Alloc_Use_szero0.tab4 2 2 (fun sp => sp 2 = s6_2 ∧ sp 1 = s6_1) (fun sp on hA hon => ?_) (fun ops6_2 => ?_)
  · refine ⟨fun o ho vs Rs f' S' w hp hf hx hS hR hs => ?_⟩
    obtain rfl := Option.some.inj ho
    obtain ⟨hv1, hR1⟩ := (spe hA.2 hs6_1 (hp 1 (by kernel_rfl)))
    rw [hA.1, hs6_2]
    refine And.intro (fun a ha => (want_none rfl a ha).trans hon.symm) (And.intro (fun _ => ?_) (fun h => by rw [hon] at h; cases h))
    have hF := fr_next (rfl) ((hf 1 10 (by kernel_rfl) rfl).trans hv1)
    refine ls_fr hF ?_
    refine ls_val (v := .bool false) rfl rfl (by kernel_rfl) (fun w => by kernel_rfl) ?_
    exact ls_fin s0 (.bool false) (congrArg (fun z => upd z 11 _) hF.symm) ⟨rfl, rfl⟩ (sub_nil _)
  refine cs_draw alloc_Alloc_Use_szero0.tab4 8 2 (spl [s6_0, s6_1, s6_2, spu, spu, spu, spu, spu]) (onl [true, true, true, false, false, false, false, false]) (by kernel_rfl) (by kernel_rfl) (by kernel_rfl) (by kernel_rfl) (rs := [_, _, _]) rfl (by kernel_rfl) (by kernel_rfl) (all_snoc (all_snoc (all_snoc (all_snoc (all_snoc (all_snoc (all_snoc (all_snoc (all_nil) (ops6_0 _ _ rfl rfl)) (ops6_1 _ _ ⟨rfl, rfl⟩ rfl)) (ops6_2 _ _ ⟨rfl, rfl⟩ rfl)) (op_offi 3 2 11 true rfl rfl (by kernel_rfl) (by kernel_rfl) rfl (fun v R h => by rw [hs6_2] at h; obtain ⟨h, _⟩ := h; exact h) rfl rfl)) (op_offi 4 2 11 true rfl rfl (by kernel_rfl) (by kernel_rfl) rfl (fun v R h => by rw [hs6_2] at h; obtain ⟨h, _⟩ := h; exact h) rfl rfl)) (op_offi 5 2 11 true rfl rfl (by kernel_rfl) (by kernel_rfl) rfl (fun v R h => by rw [hs6_2] at h; obtain ⟨h, _⟩ := h; exact h) rfl rfl)) (op_offi 6 2 11 true rfl rfl (by kernel_rfl) (by kernel_rfl) rfl (fun v R h => by rw [hs6_2] at h; obtain ⟨h, _⟩ := h; exact h) rfl rfl)) (op_offi 7 2 11 true rfl rfl (by kernel_rfl) (by kernel_rfl) rfl (fun v R h => by rw [hs6_2] at h; obtain ⟨h, _⟩ := h; exact h) rfl rfl)) ?_
  intro vs Rs f' S' hp hf hx hS hR
  obtain ⟨hv2, hR2⟩ := (spe rfl hs6_2 (hp 2 (by kernel_rfl)))
  obtain ⟨hv6, hR6⟩ := (spe rfl rfl (hp 6 (by kernel_rfl)) : spu _ _)
  obtain ⟨hv7, hR7⟩ := (spe rfl rfl (hp 7 (by kernel_rfl)) : spu _ _)
  refine ls_fr (F := upd (upd (upd (upd f' 0 (.pointer (some ⟨pg0, 0, none⟩))) 3 (.pointer (some ⟨g1, 0, none⟩))) 5 (.int .i64 (1 : Int))) 11 (.bool false)) (fr_next (fr_next (fr_next (fr_next (rfl) ((hx 0 (by kernel_rfl)).trans (by kernel_rfl : (_ : Value) = .pointer (some ⟨pg0, 0, none⟩)))) ((hx 3 (by kernel_rfl)).trans (by kernel_rfl : (_ : Value) = .pointer (some ⟨g1, 0, none⟩)))) ((hx 5 (by kernel_rfl)).trans (by kernel_rfl : (_ : Value) = .int .i64 (1 : Int)))) ((hf 2 11 (by kernel_rfl) rfl).trans hv2)) ?_
  refine ls_sub (sput (sput s0 0 (some (Ck.var 66 pg0 ((([Value.int .i64 (0 : Int)] ++ [Value.int .i64 (0 : Int)]) ++ ([Value.bool false] ++ ([Value.int .i64 (0 : Int)] ++ ([Value.slice none 0 0] ++ ([Value.map none] ++ [Value.slice none 0 0]))))))))) 1 (some (Ck.var 24 g1 (([Value.int .i64 a1.1] ++ [Value.int .i64 a1.2]))))) (sub_put ((hS 1 (by kernel_rfl)).trans (by exact rfl)) (sub_put ((hS 0 (by kernel_rfl)).trans (by exact rfl)) (sub_nil _))) ?_
  refine ls_off (j := 2) (t := 11) (b := true) (c := false) rfl rfl (by kernel_rfl) (by kernel_rfl) rfl rfl (by kernel_rfl) ?_
  refine ls_off (j := 2) (t := 11) (b := true) (c := false) rfl rfl (by kernel_rfl) (by kernel_rfl) rfl rfl (by kernel_rfl) ?_
  refine ls_val (v := .bool false) rfl rfl (by kernel_rfl) (fun w => by kernel_rfl) ?_
  refine ls_end ?_
  refine qn_then ?_
  refine cs_false (by kernel_rfl) ?_
  refine cs_skip' ?_
  refine qn_then ?_
  refine cs_seq ?_
  refine cs_seq ?_
  refine cs_region (l := [_, _]) ?_
  refine ls_val (v := .int .i64 (1 : Int)) rfl rfl (by kernel_rfl) (fun w => by kernel_rfl) ?_
  refine ls_val (v := .bool false) rfl rfl (by kernel_rfl) (fun w => by kernel_rfl) ?_
  refine ls_end ?_
  refine qn_then ?_
  refine cs_false (by kernel_rfl) ?_
  refine cs_skip' ?_
  refine qn_then ?_
  refine cs_seq ?_
  refine cs_region (l := [_, _]) ?_
  refine ls_val (v := .int .i64 (1 : Int)) rfl rfl (by kernel_rfl) (fun w => by kernel_rfl) ?_
  refine ls_val (v := .int .i64 (1 : Int)) rfl rfl (by kernel_rfl) (fun w => by kernel_rfl) ?_
  refine ls_end ?_
  refine qn_then ?_
  refine cs_ret' ?_
  obtain rfl := Option.some.inj H
  refine qr_res (rs := [_]) rfl (fun w' hs => ⟨[.int .i64 (1 : Int)], (res_tmp (by kernel_rfl) (.nil)), (), rfl, hs.pick (ts := [0]) (cs := [Ck.var 66 pg0 ((([Value.int .i64 (0 : Int)] ++ [Value.int .i64 (0 : Int)]) ++ ([Value.bool false] ++ ([Value.int .i64 (0 : Int)] ++ ([Value.slice none 0 0] ++ ([Value.map none] ++ [Value.slice none 0 0]))))))]) ⟨by exact rfl, trivial⟩ (by decide)⟩)

/-! ### (*shadowbox/alloc.Alloc).used, specialized: function 49 -/
def alloc_Alloc_used_szero0.tab4 : List (List Nat) := [[], [0], [0, 1], [0, 1, 2], [0, 1, 2, 3], [0, 1, 2, 3, 4], [0, 1, 2, 3, 4, 5], [0, 1, 2], [0, 1, 2, 3, 4, 5, 6, 7], [0, 1, 2, 3, 4, 5, 6, 7, 8], [0, 1, 2, 3, 4, 5, 6, 7, 8, 9], [0, 1, 2, 3, 4, 5, 6, 7, 8, 9, 10], [0, 1, 2, 3, 4, 5, 6, 7, 8, 9], [0, 1, 2, 3, 4, 5, 6, 7, 8, 9, 10, 11, 12], [0, 1, 2, 3, 4, 5, 6, 7, 8, 9, 10, 11, 12, 13], [0, 1, 2, 3, 4, 5, 6, 7, 8, 9, 10, 11, 12, 13, 14]]
def alloc_Alloc_used_szero0.f (k : Nat) (a1 : (Int × Int)) : Option (Int) :=
  some (1 : Int)
set_option maxRecDepth 100000 in
set_option maxHeartbeats 4000000 in
theorem alloc_Alloc_used_szero0.calls (k : Nat) (pg0 : Nat) (a1 : (Int × Int)) (r : Int) (b : Bs) (hs0 : St b (stl [Ck.var 66 pg0 ((([Value.int .i64 (0 : Int)] ++ [Value.int .i64 (0 : Int)]) ++ ([Value.bool false] ++ ([Value.int .i64 (0 : Int)] ++ ([Value.slice none 0 0] ++ ([Value.map none] ++ [Value.slice none 0 0]))))))]) b.w) (H : alloc_Alloc_used_szero0.f k a1 = some r) :
    Calls Try.prog 49 #[.pointer (some ⟨pg0, 0, none⟩), .agg ⟨([Value.int .i64 a1.1] ++ [Value.int .i64 a1.2])⟩] b.w fun e w' => ∃ x : Unit, e = .returned (.int .i64 r) ∧ St b (stl [Ck.var 66 pg0 ((([Value.int .i64 (0 : Int)] ++ [Value.int .i64 (0 : Int)]) ++ ([Value.bool false] ++ ([Value.int .i64 (0 : Int)] ++ ([Value.slice none 0 0] ++ ([Value.map none] ++ [Value.slice none 0 0]))))))]) w' := by
  unfold alloc_Alloc_used_szero0.f at H
  refine enterb (n := 26) Try.func49 rfl (by kernel_rfl) (by kernel_rfl) hs0 ?_
  refine cs_sub (sput s0 0 (some (Ck.var 66 pg0 ((([Value.int .i64 (0 : Int)] ++ [Value.int .i64 (0 : Int)]) ++ ([Value.bool false] ++ ([Value.int .i64 (0 : Int)] ++ ([Value.slice none 0 0] ++ ([Value.map none] ++ [Value.slice none 0 0]))))))))) (sub_put (by exact rfl) (sub_nil _)) ?_
  refine cs_seq ?_
  refine cs_region (l := [_, _]) ?_
  refine ls_new rfl rfl (by kernel_rfl) 1 (fun g => .pointer (some ⟨g, 0, none⟩)) (.cells ⟨([Value.int .i64 a1.1] ++ [Value.int .i64 a1.2])⟩ 24) (fun w => by kernel_rfl) ?_
  intro g1
  refine ls_val (v := .int .i64 (0 : Int)) rfl rfl (by kernel_rfl) (fun w => by kernel_rfl) ?_
  refine ls_end ?_
  refine qn_then ?_
  refine cs_seq ?_
  refine cs_region (l := [_, _, _, _]) ?_
  refine ls_val (v := .pointer (some ⟨pg0, 0, none⟩)) rfl rfl (by kernel_rfl) (fun w => by kernel_rfl) ?_
  refine ls_loadagg (a := ⟨g1, 0, none⟩) (sub := ([Value.int .i64 a1.1] ++ [Value.int .i64 a1.2])) rfl rfl (by kernel_rfl) rfl (by kernel_rfl) (by kernel_rfl) (by kernel_rfl) (len_app (len1 _) (len1 _)) (fun w hs => (hs.vars (k := 1) (by exact rfl) (Sub4.all _))) ?_
  have hc3 : alloc_Alloc_check_szero0.f k a1 = some (1 : Int) := rfl
  refine ls_callb (fid := 51) (vals := #[.pointer (some ⟨pg0, 0, none⟩), .agg ⟨([Value.int .i64 a1.1] ++ [Value.int .i64 a1.2])⟩]) (X := Unit) (fun x => .int .i64 (1 : Int)) (fun x => stl [Ck.var 66 pg0 ((([Value.int .i64 (0 : Int)] ++ [Value.int .i64 (0 : Int)]) ++ ([Value.bool false] ++ ([Value.int .i64 (0 : Int)] ++ ([Value.slice none 0 0] ++ ([Value.map none] ++ [Value.slice none 0 0]))))))]) [0] [] [Ck.var 66 pg0 ((([Value.int .i64 (0 : Int)] ++ [Value.int .i64 (0 : Int)]) ++ ([Value.bool false] ++ ([Value.int .i64 (0 : Int)] ++ ([Value.slice none 0 0] ++ ([Value.map none] ++ [Value.slice none 0 0]))))))] [] 2 rfl rfl (by kernel_rfl) (fun w => by kernel_rfl) ⟨by exact rfl, trivial⟩ trivial (by decide) (fun w hs hb => alloc_Alloc_check_szero0.calls k pg0 a1 (1 : Int) (lent b w [Ck.var 66 pg0 ((([Value.int .i64 (0 : Int)] ++ [Value.int .i64 (0 : Int)]) ++ ([Value.bool false] ++ ([Value.int .i64 (0 : Int)] ++ ([Value.slice none 0 0] ++ ([Value.map none] ++ [Value.slice none 0 0]))))))] []) hb  hc3) ?_
  intro x4
  refine ls_val (v := .int .i64 (1 : Int)) rfl rfl (by kernel_rfl) (fun w => by kernel_rfl) ?_
  refine ls_end ?_
  refine qn_then ?_
  refine cs_seq ?_
  refine cs_seq ?_
  obtain ⟨s6_0, hs6_0⟩ : ∃ z : Value → Sto → Prop, z = (fun v R => v = .int .i64 (1 : Int) ∧ R = s0) := ⟨_, rfl⟩
  refine have_op (l := [_, _, _, _, _, _, _, _, _, _, _, _, _, _, _, _]) alloc_Alloc_used_szero0.tab4 2 0 (fun sp => sp 0 = s6_0) (fun sp on hA hon => ?_) (fun ops6_0 => ?_)
  · refine ⟨fun o ho vs Rs f' S' w hp hf hx hS hR hs => ?_⟩
    obtain rfl := Option.some.inj ho
    rw [hA, hs6_0]
    refine And.intro (fun a ha => (want_none rfl a ha).trans hon.symm) (And.intro (fun _ => ?_) (fun h => by rw [hon] at h; cases h))
    have hF := fr_next (rfl) ((hx 5 (by kernel_rfl)).trans (by kernel_rfl : (_ : Value) = .int .i64 (1 : Int)))
    refine ls_fr hF ?_
    refine ls_val (v := .int .i64 (1 : Int)) rfl rfl (by kernel_rfl) (fun w => by kernel_rfl) ?_
    exact ls_fin s0 (.int .i64 (1 : Int)) (congrArg (fun z => upd z 9 _) hF.symm) ⟨rfl, rfl⟩ (sub_nil _)
  obtain ⟨s6_1, hs6_1⟩ : ∃ z : Value → Sto → Prop, z = (fun v R => v = .bool false ∧ R = s0) := ⟨_, rfl⟩
  refine have_op (l := [_, _, _, _, _, _, _, _, _, _, _, _, _, _, _, _]) alloc_Alloc_used_szero0.tab4 2 1 (fun sp => sp 1 = s6_1 ∧ sp 0 = s6_0) (fun sp on hA hon => ?_) (fun ops6_1 => ?_)
  · refine ⟨fun o ho vs Rs f' S' w hp hf hx hS hR hs => ?_⟩
    obtain rfl := Option.some.inj ho
    obtain ⟨hv0, hR0⟩ := (spe hA.2 hs6_0 (hp 0 (by kernel_rfl)))
    rw [hA.1, hs6_1]
    refine And.intro (fun a ha => (want_none rfl a ha).trans hon.symm) (And.intro (fun _ => ?_) (fun h => by rw [hon] at h; cases h))
    have hF := fr_next (rfl) ((hf 0 9 (by kernel_rfl) rfl).trans hv0)
    refine ls_fr hF ?_
    refine ls_val (v := .bool false) rfl rfl (by kernel_rfl) (fun w => by kernel_rfl) ?_
    exact ls_fin s0 (.bool false) (congrArg (fun z => upd z 10 _) hF.symm) ⟨rfl, rfl⟩ (sub_nil _)
  obtain ⟨s6_2, hs6_2⟩ : ∃ z : Value → Sto → Prop, z = (fun v R => v = .bool false ∧ R = s0) := ⟨_, rfl⟩
  refine have_op (l := [_, _, _, _, _, _, _, _, _, _, _, _, _, _, _, _]) alloc_Alloc_used_szero0.tab4 2 2 (fun sp => sp 2 = s6_2 ∧ sp 1 = s6_1) (fun sp on hA hon => ?_) (fun ops6_2 => ?_)
  · refine ⟨fun o ho vs Rs f' S' w hp hf hx hS hR hs => ?_⟩
    obtain rfl := Option.some.inj ho
    obtain ⟨hv1, hR1⟩ := (spe hA.2 hs6_1 (hp 1 (by kernel_rfl)))
    rw [hA.1, hs6_2]
    refine And.intro (fun a ha => (want_none rfl a ha).trans hon.symm) (And.intro (fun _ => ?_) (fun h => by rw [hon] at h; cases h))
    have hF := fr_next (rfl) ((hf 1 10 (by kernel_rfl) rfl).trans hv1)
    refine ls_fr hF ?_
    refine ls_val (v := .bool false) rfl rfl (by kernel_rfl) (fun w => by kernel_rfl) ?_
    exact ls_fin s0 (.bool false) (congrArg (fun z => upd z 11 _) hF.symm) ⟨rfl, rfl⟩ (sub_nil _)
  refine cs_draw alloc_Alloc_used_szero0.tab4 13 2 (spl [s6_0, s6_1, s6_2, spu, spu, spu, spu, spu, spu, spu, spu, spu, spu]) (onl [true, true, true, false, false, false, false, false, false, false, false, false, false]) (by kernel_rfl) (by kernel_rfl) (by kernel_rfl) (by kernel_rfl) (rs := [_, _, _]) rfl (by kernel_rfl) (by kernel_rfl) (all_snoc (all_snoc (all_snoc (all_snoc (all_snoc (all_snoc (all_snoc (all_snoc (all_snoc (all_snoc (all_snoc (all_snoc (all_snoc (all_nil) (ops6_0 _ _ rfl rfl)) (ops6_1 _ _ ⟨rfl, rfl⟩ rfl)) (ops6_2 _ _ ⟨rfl, rfl⟩ rfl)) (op_offi 3 2 11 true rfl rfl (by kernel_rfl) (by kernel_rfl) rfl (fun v R h => by rw [hs6_2] at h; obtain ⟨h, _⟩ := h; exact h) rfl rfl)) (op_offi 4 2 11 true rfl rfl (by kernel_rfl) (by kernel_rfl) rfl (fun v R h => by rw [hs6_2] at h; obtain ⟨h, _⟩ := h; exact h) rfl rfl)) (op_offi 5 2 11 true rfl rfl (by kernel_rfl) (by kernel_rfl) rfl (fun v R h => by rw [hs6_2] at h; obtain ⟨h, _⟩ := h; exact h) rfl rfl)) (op_offi 6 2 11 true rfl rfl (by kernel_rfl) (by kernel_rfl) rfl (fun v R h => by rw [hs6_2] at h; obtain ⟨h, _⟩ := h; exact h) rfl rfl)) (op_offi 7 2 11 true rfl rfl (by kernel_rfl) (by kernel_rfl) rfl (fun v R h => by rw [hs6_2] at h; obtain ⟨h, _⟩ := h; exact h) rfl rfl)) (op_offi 8 2 11 true rfl rfl (by kernel_rfl) (by kernel_rfl) rfl (fun v R h => by rw [hs6_2] at h; obtain ⟨h, _⟩ := h; exact h) rfl rfl)) (op_offi 9 2 11 true rfl rfl (by kernel_rfl) (by kernel_rfl) rfl (fun v R h => by rw [hs6_2] at h; obtain ⟨h, _⟩ := h; exact h) rfl rfl)) (op_offu 10 9 18 false rfl rfl (by kernel_rfl) (by kernel_rfl) rfl rfl rfl)) (op_offu 11 9 18 false rfl rfl (by kernel_rfl) (by kernel_rfl) rfl rfl rfl)) (op_offu 12 9 18 false rfl rfl (by kernel_rfl) (by kernel_rfl) rfl rfl rfl)) ?_
  intro vs Rs f' S' hp hf hx hS hR
  obtain ⟨hv2, hR2⟩ := (spe rfl hs6_2 (hp 2 (by kernel_rfl)))
  obtain ⟨hv9, hR9⟩ := (spe rfl rfl (hp 9 (by kernel_rfl)) : spu _ _)
  obtain ⟨hv11, hR11⟩ := (spe rfl rfl (hp 11 (by kernel_rfl)) : spu _ _)
  obtain ⟨hv12, hR12⟩ := (spe rfl rfl (hp 12 (by kernel_rfl)) : spu _ _)
  refine ls_fr (F := upd (upd (upd f' 5 (.int .i64 (1 : Int))) 11 (.bool false)) 18 undef) (fr_next (fr_next (fr_next (rfl) ((hx 5 (by kernel_rfl)).trans (by kernel_rfl : (_ : Value) = .int .i64 (1 : Int)))) ((hf 2 11 (by kernel_rfl) rfl).trans hv2)) ((hf 9 18 (by kernel_rfl) rfl).trans hv9)) ?_
  refine ls_sub (sput s0 0 (some (Ck.var 66 pg0 ((([Value.int .i64 (0 : Int)] ++ [Value.int .i64 (0 : Int)]) ++ ([Value.bool false] ++ ([Value.int .i64 (0 : Int)] ++ ([Value.slice none 0 0] ++ ([Value.map none] ++ [Value.slice none 0 0]))))))))) (sub_put ((hS 0 (by kernel_rfl)).trans (by exact rfl)) (sub_nil _)) ?_
  refine ls_offu (j := 9) (t := 18) (b := false) rfl rfl (by kernel_rfl) (by kernel_rfl) rfl (by kernel_rfl) ?_
  refine ls_off (j := 2) (t := 11) (b := true) (c := false) rfl rfl (by kernel_rfl) (by kernel_rfl) rfl rfl (by kernel_rfl) ?_
  refine ls_val (v := .bool false) rfl rfl (by kernel_rfl) (fun w => by kernel_rfl) ?_
  refine ls_end ?_
  refine qn_then ?_
  refine cs_false (by kernel_rfl) ?_
  refine cs_skip' ?_
  refine qn_then ?_
  refine cs_seq ?_
  refine cs_region (l := [_, _]) ?_
  refine ls_val (v := .int .i64 (1 : Int)) rfl rfl (by kernel_rfl) (fun w => by kernel_rfl) ?_
  refine ls_val (v := .int .i64 (1 : Int)) rfl rfl (by kernel_rfl) (fun w => by kernel_rfl) ?_
  refine ls_end ?_
  refine qn_then ?_
  refine cs_ret' ?_
  obtain rfl := Option.some.inj H
  refine qr_res (rs := [_]) rfl (fun w' hs => ⟨[.int .i64 (1 : Int)], (res_tmp (by kernel_rfl) (.nil)), (), rfl, hs.pick (ts := [0]) (cs := [Ck.var 66 pg0 ((([Value.int .i64 (0 : Int)] ++ [Value.int .i64 (0 : Int)]) ++ ([Value.bool false] ++ ([Value.int .i64 (0 : Int)] ++ ([Value.slice none 0 0] ++ ([Value.map none] ++ [Value.slice none 0 0]))))))]) ⟨by exact rfl, trivial⟩ (by decide)⟩)

/-! ### (*shadowbox/alloc.Alloc).Give, specialized: function 35 -/
def alloc_Alloc_Give_szero0.f (k : Nat) (a1 : (Int × Int)) : Option (Int) :=
  some (1 : Int)
set_option maxRecDepth 100000 in
set_option maxHeartbeats 4000000 in
theorem alloc_Alloc_Give_szero0.calls (k : Nat) (pg0 : Nat) (a1 : (Int × Int)) (r : Int) (b : Bs) (hs0 : St b (stl [Ck.var 66 pg0 ((([Value.int .i64 (0 : Int)] ++ [Value.int .i64 (0 : Int)]) ++ ([Value.bool false] ++ ([Value.int .i64 (0 : Int)] ++ ([Value.slice none 0 0] ++ ([Value.map none] ++ [Value.slice none 0 0]))))))]) b.w) (H : alloc_Alloc_Give_szero0.f k a1 = some r) :
    Calls Try.prog 35 #[.pointer (some ⟨pg0, 0, none⟩), .agg ⟨([Value.int .i64 a1.1] ++ [Value.int .i64 a1.2])⟩] b.w fun e w' => ∃ x : Unit, e = .returned (.int .i64 r) ∧ St b (stl [Ck.var 66 pg0 ((([Value.int .i64 (0 : Int)] ++ [Value.int .i64 (0 : Int)]) ++ ([Value.bool false] ++ ([Value.int .i64 (0 : Int)] ++ ([Value.slice none 0 0] ++ ([Value.map none] ++ [Value.slice none 0 0]))))))]) w' := by
  unfold alloc_Alloc_Give_szero0.f at H
  refine enterb (n := 21) Try.func35 rfl (by kernel_rfl) (by kernel_rfl) hs0 ?_
  refine cs_sub (sput s0 0 (some (Ck.var 66 pg0 ((([Value.int .i64 (0 : Int)] ++ [Value.int .i64 (0 : Int)]) ++ ([Value.bool false] ++ ([Value.int .i64 (0 : Int)] ++ ([Value.slice none 0 0] ++ ([Value.map none] ++ [Value.slice none 0 0]))))))))) (sub_put (by exact rfl) (sub_nil _)) ?_
  refine cs_seq ?_
  refine cs_region (l := [_, _]) ?_
  refine ls_new rfl rfl (by kernel_rfl) 1 (fun g => .pointer (some ⟨g, 0, none⟩)) (.cells ⟨([Value.int .i64 a1.1] ++ [Value.int .i64 a1.2])⟩ 24) (fun w => by kernel_rfl) ?_
  intro g1
  refine ls_val (v := .int .i64 (0 : Int)) rfl rfl (by kernel_rfl) (fun w => by kernel_rfl) ?_
  refine ls_end ?_
  refine qn_then ?_
  refine cs_seq ?_
  refine cs_region (l := [_, _, _, _]) ?_
  refine ls_val (v := .pointer (some ⟨pg0, 0, none⟩)) rfl rfl (by kernel_rfl) (fun w => by kernel_rfl) ?_
  refine ls_loadagg (a := ⟨g1, 0, none⟩) (sub := ([Value.int .i64 a1.1] ++ [Value.int .i64 a1.2])) rfl rfl (by kernel_rfl) rfl (by kernel_rfl) (by kernel_rfl) (by kernel_rfl) (len_app (len1 _) (len1 _)) (fun w hs => (hs.vars (k := 1) (by exact rfl) (Sub4.all _))) ?_
  have hc3 : alloc_Alloc_used_szero0.f k a1 = some (1 : Int) := rfl
  refine ls_callb (fid := 49) (vals := #[.pointer (some ⟨pg0, 0, none⟩), .agg ⟨([Value.int .i64 a1.1] ++ [Value.int .i64 a1.2])⟩]) (X := Unit) (fun x => .int .i64 (1 : Int)) (fun x => stl [Ck.var 66 pg0 ((([Value.int .i64 (0 : Int)] ++ [Value.int .i64 (0 : Int)]) ++ ([Value.bool false] ++ ([Value.int .i64 (0 : Int)] ++ ([Value.slice none 0 0] ++ ([Value.map none] ++ [Value.slice none 0 0]))))))]) [0] [] [Ck.var 66 pg0 ((([Value.int .i64 (0 : Int)] ++ [Value.int .i64 (0 : Int)]) ++ ([Value.bool false] ++ ([Value.int .i64 (0 : Int)] ++ ([Value.slice none 0 0] ++ ([Value.map none] ++ [Value.slice none 0 0]))))))] [] 2 rfl rfl (by kernel_rfl) (fun w => by kernel_rfl) ⟨by exact rfl, trivial⟩ trivial (by decide) (fun w hs hb => alloc_Alloc_used_szero0.calls k pg0 a1 (1 : Int) (lent b w [Ck.var 66 pg0 ((([Value.int .i64 (0 : Int)] ++ [Value.int .i64 (0 : Int)]) ++ ([Value.bool false] ++ ([Value.int .i64 (0 : Int)] ++ ([Value.slice none 0 0] ++ ([Value.map none] ++ [Value.slice none 0 0]))))))] []) hb  hc3) ?_
  intro x4
  refine ls_val (v := .int .i64 (1 : Int)) rfl rfl (by kernel_rfl) (fun w => by kernel_rfl) ?_
  refine ls_end ?_
  refine qn_then ?_
  refine cs_seq ?_
  refine cs_seq ?_
  refine cs_region (l := [_, _]) ?_
  refine ls_val (v := .int .i64 (1 : Int)) rfl rfl (by kernel_rfl) (fun w => by kernel_rfl) ?_
  refine ls_val (v := .bool false) rfl rfl (by kernel_rfl) (fun w => by kernel_rfl) ?_
  refine ls_end ?_
  refine qn_then ?_
  refine cs_false (by kernel_rfl) ?_
  refine cs_skip' ?_
  refine qn_then ?_
  refine cs_seq ?_
  refine cs_region (l := [_, _]) ?_
  refine ls_val (v := .int .i64 (1 : Int)) rfl rfl (by kernel_rfl) (fun w => by kernel_rfl) ?_
  refine ls_val (v := .int .i64 (1 : Int)) rfl rfl (by kernel_rfl) (fun w => by kernel_rfl) ?_
  refine ls_end ?_
  refine qn_then ?_
  refine cs_ret' ?_
  obtain rfl := Option.some.inj H
  refine qr_res (rs := [_]) rfl (fun w' hs => ⟨[.int .i64 (1 : Int)], (res_tmp (by kernel_rfl) (.nil)), (), rfl, hs.pick (ts := [0]) (cs := [Ck.var 66 pg0 ((([Value.int .i64 (0 : Int)] ++ [Value.int .i64 (0 : Int)]) ++ ([Value.bool false] ++ ([Value.int .i64 (0 : Int)] ++ ([Value.slice none 0 0] ++ ([Value.map none] ++ [Value.slice none 0 0]))))))]) ⟨by exact rfl, trivial⟩ (by decide)⟩)

/-! ### (*shadowbox/alloc.Alloc).Later, specialized: function 30 -/
def alloc_Alloc_Later_szero0.f (k : Nat) (a1 : (Int × Int)) : Option (Int) :=
  some (1 : Int)
set_option maxRecDepth 100000 in
set_option maxHeartbeats 4000000 in
theorem alloc_Alloc_Later_szero0.calls (k : Nat) (pg0 : Nat) (a1 : (Int × Int)) (r : Int) (b : Bs) (hs0 : St b (stl [Ck.var 66 pg0 ((([Value.int .i64 (0 : Int)] ++ [Value.int .i64 (0 : Int)]) ++ ([Value.bool false] ++ ([Value.int .i64 (0 : Int)] ++ ([Value.slice none 0 0] ++ ([Value.map none] ++ [Value.slice none 0 0]))))))]) b.w) (H : alloc_Alloc_Later_szero0.f k a1 = some r) :
    Calls Try.prog 30 #[.pointer (some ⟨pg0, 0, none⟩), .agg ⟨([Value.int .i64 a1.1] ++ [Value.int .i64 a1.2])⟩] b.w fun e w' => ∃ x : Unit, e = .returned (.int .i64 r) ∧ St b (stl [Ck.var 66 pg0 ((([Value.int .i64 (0 : Int)] ++ [Value.int .i64 (0 : Int)]) ++ ([Value.bool false] ++ ([Value.int .i64 (0 : Int)] ++ ([Value.slice none 0 0] ++ ([Value.map none] ++ [Value.slice none 0 0]))))))]) w' := by
  unfold alloc_Alloc_Later_szero0.f at H
  refine enterb (n := 24) Try.func30 rfl (by kernel_rfl) (by kernel_rfl) hs0 ?_
  refine cs_sub (sput s0 0 (some (Ck.var 66 pg0 ((([Value.int .i64 (0 : Int)] ++ [Value.int .i64 (0 : Int)]) ++ ([Value.bool false] ++ ([Value.int .i64 (0 : Int)] ++ ([Value.slice none 0 0] ++ ([Value.map none] ++ [Value.slice none 0 0]))))))))) (sub_put (by exact rfl) (sub_nil _)) ?_
  refine cs_seq ?_
  refine cs_region (l := [_, _]) ?_
  refine ls_new rfl rfl (by kernel_rfl) 1 (fun g => .pointer (some ⟨g, 0, none⟩)) (.cells ⟨([Value.int .i64 a1.1] ++ [Value.int .i64 a1.2])⟩ 24) (fun w => by kernel_rfl) ?_
  intro g1
  refine ls_val (v := .int .i64 (0 : Int)) rfl rfl (by kernel_rfl) (fun w => by kernel_rfl) ?_
  refine ls_end ?_
  refine qn_then ?_
  refine cs_seq ?_
  refine cs_region (l := [_, _, _, _]) ?_
  refine ls_val (v := .pointer (some ⟨pg0, 0, none⟩)) rfl rfl (by kernel_rfl) (fun w => by kernel_rfl) ?_
  refine ls_loadagg (a := ⟨g1, 0, none⟩) (sub := ([Value.int .i64 a1.1] ++ [Value.int .i64 a1.2])) rfl rfl (by kernel_rfl) rfl (by kernel_rfl) (by kernel_rfl) (by kernel_rfl) (len_app (len1 _) (len1 _)) (fun w hs => (hs.vars (k := 1) (by exact rfl) (Sub4.all _))) ?_
  have hc3 : alloc_Alloc_used_szero0.f k a1 = some (1 : Int) := rfl
  refine ls_callb (fid := 49) (vals := #[.pointer (some ⟨pg0, 0, none⟩), .agg ⟨([Value.int .i64 a1.1] ++ [Value.int .i64 a1.2])⟩]) (X := Unit) (fun x => .int .i64 (1 : Int)) (fun x => stl [Ck.var 66 pg0 ((([Value.int .i64 (0 : Int)] ++ [Value.int .i64 (0 : Int)]) ++ ([Value.bool false] ++ ([Value.int .i64 (0 : Int)] ++ ([Value.slice none 0 0] ++ ([Value.map none] ++ [Value.slice none 0 0]))))))]) [0] [] [Ck.var 66 pg0 ((([Value.int .i64 (0 : Int)] ++ [Value.int .i64 (0 : Int)]) ++ ([Value.bool false] ++ ([Value.int .i64 (0 : Int)] ++ ([Value.slice none 0 0] ++ ([Value.map none] ++ [Value.slice none 0 0]))))))] [] 2 rfl rfl (by kernel_rfl) (fun w => by kernel_rfl) ⟨by exact rfl, trivial⟩ trivial (by decide) (fun w hs hb => alloc_Alloc_used_szero0.calls k pg0 a1 (1 : Int) (lent b w [Ck.var 66 pg0 ((([Value.int .i64 (0 : Int)] ++ [Value.int .i64 (0 : Int)]) ++ ([Value.bool false] ++ ([Value.int .i64 (0 : Int)] ++ ([Value.slice none 0 0] ++ ([Value.map none] ++ [Value.slice none 0 0]))))))] []) hb  hc3) ?_
  intro x4
  refine ls_val (v := .int .i64 (1 : Int)) rfl rfl (by kernel_rfl) (fun w => by kernel_rfl) ?_
  refine ls_end ?_
  refine qn_then ?_
  refine cs_seq ?_
  refine cs_seq ?_
  refine cs_region (l := [_, _]) ?_
  refine ls_val (v := .int .i64 (1 : Int)) rfl rfl (by kernel_rfl) (fun w => by kernel_rfl) ?_
  refine ls_val (v := .bool false) rfl rfl (by kernel_rfl) (fun w => by kernel_rfl) ?_
  refine ls_end ?_
  refine qn_then ?_
  refine cs_false (by kernel_rfl) ?_
  refine cs_skip' ?_
  refine qn_then ?_
  refine cs_seq ?_
  refine cs_region (l := [_, _]) ?_
  refine ls_val (v := .int .i64 (1 : Int)) rfl rfl (by kernel_rfl) (fun w => by kernel_rfl) ?_
  refine ls_val (v := .int .i64 (1 : Int)) rfl rfl (by kernel_rfl) (fun w => by kernel_rfl) ?_
  refine ls_end ?_
  refine qn_then ?_
  refine cs_ret' ?_
  obtain rfl := Option.some.inj H
  refine qr_res (rs := [_]) rfl (fun w' hs => ⟨[.int .i64 (1 : Int)], (res_tmp (by kernel_rfl) (.nil)), (), rfl, hs.pick (ts := [0]) (cs := [Ck.var 66 pg0 ((([Value.int .i64 (0 : Int)] ++ [Value.int .i64 (0 : Int)]) ++ ([Value.bool false] ++ ([Value.int .i64 (0 : Int)] ++ ([Value.slice none 0 0] ++ ([Value.map none] ++ [Value.slice none 0 0]))))))]) ⟨by exact rfl, trivial⟩ (by decide)⟩)

/-! ### (*shadowbox/alloc.Alloc).Free, specialized: function 32 -/
def alloc_Alloc_Free_szero0.f (k : Nat) : Option (Int) :=
  some (0 : Int)
set_option maxRecDepth 100000 in
set_option maxHeartbeats 4000000 in
theorem alloc_Alloc_Free_szero0.calls (k : Nat) (pg0 : Nat) (r : Int) (b : Bs) (hs0 : St b (stl [Ck.var 66 pg0 ((([Value.int .i64 (0 : Int)] ++ [Value.int .i64 (0 : Int)]) ++ ([Value.bool false] ++ ([Value.int .i64 (0 : Int)] ++ ([Value.slice none 0 0] ++ ([Value.map none] ++ [Value.slice none 0 0]))))))]) b.w) (H : alloc_Alloc_Free_szero0.f k = some r) :
    Calls Try.prog 32 #[.pointer (some ⟨pg0, 0, none⟩)] b.w fun e w' => ∃ x : Unit, e = .returned (.int .i64 r) ∧ St b (stl [Ck.var 66 pg0 ((([Value.int .i64 (0 : Int)] ++ [Value.int .i64 (0 : Int)]) ++ ([Value.bool false] ++ ([Value.int .i64 (0 : Int)] ++ ([Value.slice none 0 0] ++ ([Value.map none] ++ [Value.slice none 0 0]))))))]) w' := by
  unfold alloc_Alloc_Free_szero0.f at H
  refine enterb (n := 10) Try.func32 rfl (by kernel_rfl) (by kernel_rfl) hs0 ?_
  refine cs_sub (sput s0 0 (some (Ck.var 66 pg0 ((([Value.int .i64 (0 : Int)] ++ [Value.int .i64 (0 : Int)]) ++ ([Value.bool false] ++ ([Value.int .i64 (0 : Int)] ++ ([Value.slice none 0 0] ++ ([Value.map none] ++ [Value.slice none 0 0]))))))))) (sub_put (by exact rfl) (sub_nil _)) ?_
  refine cs_seq ?_
  refine cs_region (l := [_]) ?_
  refine ls_val (v := .int .i64 (0 : Int)) rfl rfl (by kernel_rfl) (fun w => by kernel_rfl) ?_
  refine ls_end ?_
  refine qn_then ?_
  refine cs_seq ?_
  refine cs_seq ?_
  refine cs_region (l := [_, _]) ?_
  refine ls_val (v := .pointer (some ⟨pg0, 0, none⟩)) rfl rfl (by kernel_rfl) (fun w => by kernel_rfl) ?_
  have hc2 : alloc_Alloc_none_szero0.f k = some true := rfl
  refine ls_callb (fid := 48) (vals := #[.pointer (some ⟨pg0, 0, none⟩)]) (X := Unit) (fun x => .bool true) (fun x => stl [Ck.var 66 pg0 ((([Value.int .i64 (0 : Int)] ++ [Value.int .i64 (0 : Int)]) ++ ([Value.bool false] ++ ([Value.int .i64 (0 : Int)] ++ ([Value.slice none 0 0] ++ ([Value.map none] ++ [Value.slice none 0 0]))))))]) [0] [] [Ck.var 66 pg0 ((([Value.int .i64 (0 : Int)] ++ [Value.int .i64 (0 : Int)]) ++ ([Value.bool false] ++ ([Value.int .i64 (0 : Int)] ++ ([Value.slice none 0 0] ++ ([Value.map none] ++ [Value.slice none 0 0]))))))] [] 1 rfl rfl (by kernel_rfl) (fun w => by kernel_rfl) ⟨by exact rfl, trivial⟩ trivial (by decide) (fun w hs hb => alloc_Alloc_none_szero0.calls k pg0 true (lent b w [Ck.var 66 pg0 ((([Value.int .i64 (0 : Int)] ++ [Value.int .i64 (0 : Int)]) ++ ([Value.bool false] ++ ([Value.int .i64 (0 : Int)] ++ ([Value.slice none 0 0] ++ ([Value.map none] ++ [Value.slice none 0 0]))))))] []) hb  hc2) ?_
  intro x3
  refine ls_end ?_
  refine qn_then ?_
  refine cs_true (by kernel_rfl) ?_
  refine cs_seq ?_
  refine cs_region (l := [_]) ?_
  refine ls_val (v := .int .i64 (0 : Int)) rfl rfl (by kernel_rfl) (fun w => by kernel_rfl) ?_
  refine ls_end ?_
  refine qn_then ?_
  refine cs_ret' ?_
  refine qr_then ?_
  obtain rfl := Option.some.inj H
  refine qr_res (rs := [_]) rfl (fun w' hs => ⟨[.int .i64 (0 : Int)], (res_tmp (by kernel_rfl) (.nil)), (), rfl, hs.pick (ts := [0]) (cs := [Ck.var 66 pg0 ((([Value.int .i64 (0 : Int)] ++ [Value.int .i64 (0 : Int)]) ++ ([Value.bool false] ++ ([Value.int .i64 (0 : Int)] ++ ([Value.slice none 0 0] ++ ([Value.map none] ++ [Value.slice none 0 0]))))))]) ⟨by exact rfl, trivial⟩ (by decide)⟩)

/-! ### (*shadowbox/alloc.Alloc).Waiting, specialized: function 33 -/
def alloc_Alloc_Waiting_szero0.f (k : Nat) : Option (Int) :=
  some (0 : Int)
set_option maxRecDepth 100000 in
set_option maxHeartbeats 4000000 in
theorem alloc_Alloc_Waiting_szero0.calls (k : Nat) (pg0 : Nat) (r : Int) (b : Bs) (hs0 : St b (stl [Ck.var 66 pg0 ((([Value.int .i64 (0 : Int)] ++ [Value.int .i64 (0 : Int)]) ++ ([Value.bool false] ++ ([Value.int .i64 (0 : Int)] ++ ([Value.slice none 0 0] ++ ([Value.map none] ++ [Value.slice none 0 0]))))))]) b.w) (H : alloc_Alloc_Waiting_szero0.f k = some r) :
    Calls Try.prog 33 #[.pointer (some ⟨pg0, 0, none⟩)] b.w fun e w' => ∃ x : Unit, e = .returned (.int .i64 r) ∧ St b (stl [Ck.var 66 pg0 ((([Value.int .i64 (0 : Int)] ++ [Value.int .i64 (0 : Int)]) ++ ([Value.bool false] ++ ([Value.int .i64 (0 : Int)] ++ ([Value.slice none 0 0] ++ ([Value.map none] ++ [Value.slice none 0 0]))))))]) w' := by
  unfold alloc_Alloc_Waiting_szero0.f at H
  refine enterb (n := 8) Try.func33 rfl (by kernel_rfl) (by kernel_rfl) hs0 ?_
  refine cs_sub (sput s0 0 (some (Ck.var 66 pg0 ((([Value.int .i64 (0 : Int)] ++ [Value.int .i64 (0 : Int)]) ++ ([Value.bool false] ++ ([Value.int .i64 (0 : Int)] ++ ([Value.slice none 0 0] ++ ([Value.map none] ++ [Value.slice none 0 0]))))))))) (sub_put (by exact rfl) (sub_nil _)) ?_
  refine cs_seq ?_
  refine cs_region (l := [_]) ?_
  refine ls_val (v := .int .i64 (0 : Int)) rfl rfl (by kernel_rfl) (fun w => by kernel_rfl) ?_
  refine ls_end ?_
  refine qn_then ?_
  refine cs_seq ?_
  refine cs_seq ?_
  refine cs_region (l := [_, _]) ?_
  refine ls_val (v := .pointer (some ⟨pg0, 0, none⟩)) rfl rfl (by kernel_rfl) (fun w => by kernel_rfl) ?_
  have hc2 : alloc_Alloc_none_szero0.f k = some true := rfl
  refine ls_callb (fid := 48) (vals := #[.pointer (some ⟨pg0, 0, none⟩)]) (X := Unit) (fun x => .bool true) (fun x => stl [Ck.var 66 pg0 ((([Value.int .i64 (0 : Int)] ++ [Value.int .i64 (0 : Int)]) ++ ([Value.bool false] ++ ([Value.int .i64 (0 : Int)] ++ ([Value.slice none 0 0] ++ ([Value.map none] ++ [Value.slice none 0 0]))))))]) [0] [] [Ck.var 66 pg0 ((([Value.int .i64 (0 : Int)] ++ [Value.int .i64 (0 : Int)]) ++ ([Value.bool false] ++ ([Value.int .i64 (0 : Int)] ++ ([Value.slice none 0 0] ++ ([Value.map none] ++ [Value.slice none 0 0]))))))] [] 1 rfl rfl (by kernel_rfl) (fun w => by kernel_rfl) ⟨by exact rfl, trivial⟩ trivial (by decide) (fun w hs hb => alloc_Alloc_none_szero0.calls k pg0 true (lent b w [Ck.var 66 pg0 ((([Value.int .i64 (0 : Int)] ++ [Value.int .i64 (0 : Int)]) ++ ([Value.bool false] ++ ([Value.int .i64 (0 : Int)] ++ ([Value.slice none 0 0] ++ ([Value.map none] ++ [Value.slice none 0 0]))))))] []) hb  hc2) ?_
  intro x3
  refine ls_end ?_
  refine qn_then ?_
  refine cs_true (by kernel_rfl) ?_
  refine cs_seq ?_
  refine cs_region (l := [_]) ?_
  refine ls_val (v := .int .i64 (0 : Int)) rfl rfl (by kernel_rfl) (fun w => by kernel_rfl) ?_
  refine ls_end ?_
  refine qn_then ?_
  refine cs_ret' ?_
  refine qr_then ?_
  obtain rfl := Option.some.inj H
  refine qr_res (rs := [_]) rfl (fun w' hs => ⟨[.int .i64 (0 : Int)], (res_tmp (by kernel_rfl) (.nil)), (), rfl, hs.pick (ts := [0]) (cs := [Ck.var 66 pg0 ((([Value.int .i64 (0 : Int)] ++ [Value.int .i64 (0 : Int)]) ++ ([Value.bool false] ++ ([Value.int .i64 (0 : Int)] ++ ([Value.slice none 0 0] ++ ([Value.map none] ++ [Value.slice none 0 0]))))))]) ⟨by exact rfl, trivial⟩ (by decide)⟩)

/-! ### (*shadowbox/alloc.Alloc).Used, specialized: function 29 -/
def alloc_Alloc_Used_szero0.f (k : Nat) : Option (Int) :=
  some (0 : Int)
set_option maxRecDepth 100000 in
set_option maxHeartbeats 4000000 in
theorem alloc_Alloc_Used_szero0.calls (k : Nat) (pg0 : Nat) (r : Int) (b : Bs) (hs0 : St b (stl [Ck.var 66 pg0 ((([Value.int .i64 (0 : Int)] ++ [Value.int .i64 (0 : Int)]) ++ ([Value.bool false] ++ ([Value.int .i64 (0 : Int)] ++ ([Value.slice none 0 0] ++ ([Value.map none] ++ [Value.slice none 0 0]))))))]) b.w) (H : alloc_Alloc_Used_szero0.f k = some r) :
    Calls Try.prog 29 #[.pointer (some ⟨pg0, 0, none⟩)] b.w fun e w' => ∃ x : Unit, e = .returned (.int .i64 r) ∧ St b (stl [Ck.var 66 pg0 ((([Value.int .i64 (0 : Int)] ++ [Value.int .i64 (0 : Int)]) ++ ([Value.bool false] ++ ([Value.int .i64 (0 : Int)] ++ ([Value.slice none 0 0] ++ ([Value.map none] ++ [Value.slice none 0 0]))))))]) w' := by
  unfold alloc_Alloc_Used_szero0.f at H
  refine enterb (n := 22) Try.func29 rfl (by kernel_rfl) (by kernel_rfl) hs0 ?_
  refine cs_sub (sput s0 0 (some (Ck.var 66 pg0 ((([Value.int .i64 (0 : Int)] ++ [Value.int .i64 (0 : Int)]) ++ ([Value.bool false] ++ ([Value.int .i64 (0 : Int)] ++ ([Value.slice none 0 0] ++ ([Value.map none] ++ [Value.slice none 0 0]))))))))) (sub_put (by exact rfl) (sub_nil _)) ?_
  refine cs_seq ?_
  refine cs_region (l := [_]) ?_
  refine ls_val (v := .int .i64 (0 : Int)) rfl rfl (by kernel_rfl) (fun w => by kernel_rfl) ?_
  refine ls_end ?_
  refine qn_then ?_
  refine cs_seq ?_
  refine cs_seq ?_
  refine cs_region (l := [_, _]) ?_
  refine ls_val (v := .pointer (some ⟨pg0, 0, none⟩)) rfl rfl (by kernel_rfl) (fun w => by kernel_rfl) ?_
  have hc2 : alloc_Alloc_none_szero0.f k = some true := rfl
  refine ls_callb (fid := 48) (vals := #[.pointer (some ⟨pg0, 0, none⟩)]) (X := Unit) (fun x => .bool true) (fun x => stl [Ck.var 66 pg0 ((([Value.int .i64 (0 : Int)] ++ [Value.int .i64 (0 : Int)]) ++ ([Value.bool false] ++ ([Value.int .i64 (0 : Int)] ++ ([Value.slice none 0 0] ++ ([Value.map none] ++ [Value.slice none 0 0]))))))]) [0] [] [Ck.var 66 pg0 ((([Value.int .i64 (0 : Int)] ++ [Value.int .i64 (0 : Int)]) ++ ([Value.bool false] ++ ([Value.int .i64 (0 : Int)] ++ ([Value.slice none 0 0] ++ ([Value.map none] ++ [Value.slice none 0 0]))))))] [] 1 rfl rfl (by kernel_rfl) (fun w => by kernel_rfl) ⟨by exact rfl, trivial⟩ trivial (by decide) (fun w hs hb => alloc_Alloc_none_szero0.calls k pg0 true (lent b w [Ck.var 66 pg0 ((([Value.int .i64 (0 : Int)] ++ [Value.int .i64 (0 : Int)]) ++ ([Value.bool false] ++ ([Value.int .i64 (0 : Int)] ++ ([Value.slice none 0 0] ++ ([Value.map none] ++ [Value.slice none 0 0]))))))] []) hb  hc2) ?_
  intro x3
  refine ls_end ?_
  refine qn_then ?_
  refine cs_true (by kernel_rfl) ?_
  refine cs_seq ?_
  refine cs_region (l := [_]) ?_
  refine ls_val (v := .int .i64 (0 : Int)) rfl rfl (by kernel_rfl) (fun w => by kernel_rfl) ?_
  refine ls_end ?_
  refine qn_then ?_
  refine cs_ret' ?_
  refine qr_then ?_
  obtain rfl := Option.some.inj H
  refine qr_res (rs := [_]) rfl (fun w' hs => ⟨[.int .i64 (0 : Int)], (res_tmp (by kernel_rfl) (.nil)), (), rfl, hs.pick (ts := [0]) (cs := [Ck.var 66 pg0 ((([Value.int .i64 (0 : Int)] ++ [Value.int .i64 (0 : Int)]) ++ ([Value.bool false] ++ ([Value.int .i64 (0 : Int)] ++ ([Value.slice none 0 0] ++ ([Value.map none] ++ [Value.slice none 0 0]))))))]) ⟨by exact rfl, trivial⟩ (by decide)⟩)

/-! ### (*shadowbox/alloc.Alloc).Spans, specialized: function 38 -/
def alloc_Alloc_Spans_szero0.f (k : Nat) : Option ((List (Int × Int))) :=
  some ([] : List (Int × Int))
set_option maxRecDepth 100000 in
set_option maxHeartbeats 4000000 in
theorem alloc_Alloc_Spans_szero0.calls (k : Nat) (pg0 : Nat) (r : (List (Int × Int))) (b : Bs) (hs0 : St b (stl [Ck.var 66 pg0 ((([Value.int .i64 (0 : Int)] ++ [Value.int .i64 (0 : Int)]) ++ ([Value.bool false] ++ ([Value.int .i64 (0 : Int)] ++ ([Value.slice none 0 0] ++ ([Value.map none] ++ [Value.slice none 0 0]))))))]) b.w) (H : alloc_Alloc_Spans_szero0.f k = some r) :
    Calls Try.prog 38 #[.pointer (some ⟨pg0, 0, none⟩)] b.w fun e w' => ∃ x : (Option Addr × Nat), e = .returned (.slice x.1 r.length x.2) ∧ St b (stl [Ck.var 66 pg0 ((([Value.int .i64 (0 : Int)] ++ [Value.int .i64 (0 : Int)]) ++ ([Value.bool false] ++ ([Value.int .i64 (0 : Int)] ++ ([Value.slice none 0 0] ++ ([Value.map none] ++ [Value.slice none 0 0])))))), Ck.sl T24 x.1 x.2 r]) w' := by
  unfold alloc_Alloc_Spans_szero0.f at H
  refine enterb (n := 10) Try.func38 rfl (by kernel_rfl) (by kernel_rfl) hs0 ?_
  refine cs_sub (sput s0 0 (some (Ck.var 66 pg0 ((([Value.int .i64 (0 : Int)] ++ [Value.int .i64 (0 : Int)]) ++ ([Value.bool false] ++ ([Value.int .i64 (0 : Int)] ++ ([Value.slice none 0 0] ++ ([Value.map none] ++ [Value.slice none 0 0]))))))))) (sub_put (by exact rfl) (sub_nil _)) ?_
  refine cs_seq ?_
  refine cs_region (l := [_]) ?_
  refine ls_val (v := .slice none 0 0) rfl rfl (by kernel_rfl) (fun w => by kernel_rfl) ?_
  refine ls_end ?_
  refine qn_then ?_
  refine cs_seq ?_
  refine cs_seq ?_
  refine cs_region (l := [_, _]) ?_
  refine ls_val (v := .pointer (some ⟨pg0, 0, none⟩)) rfl rfl (by kernel_rfl) (fun w => by kernel_rfl) ?_
  have hc2 : alloc_Alloc_none_szero0.f k = some true := rfl
  refine ls_callb (fid := 48) (vals := #[.pointer (some ⟨pg0, 0, none⟩)]) (X := Unit) (fun x => .bool true) (fun x => stl [Ck.var 66 pg0 ((([Value.int .i64 (0 : Int)] ++ [Value.int .i64 (0 : Int)]) ++ ([Value.bool false] ++ ([Value.int .i64 (0 : Int)] ++ ([Value.slice none 0 0] ++ ([Value.map none] ++ [Value.slice none 0 0]))))))]) [0] [] [Ck.var 66 pg0 ((([Value.int .i64 (0 : Int)] ++ [Value.int .i64 (0 : Int)]) ++ ([Value.bool false] ++ ([Value.int .i64 (0 : Int)] ++ ([Value.slice none 0 0] ++ ([Value.map none] ++ [Value.slice none 0 0]))))))] [] 1 rfl rfl (by kernel_rfl) (fun w => by kernel_rfl) ⟨by exact rfl, trivial⟩ trivial (by decide) (fun w hs hb => alloc_Alloc_none_szero0.calls k pg0 true (lent b w [Ck.var 66 pg0 ((([Value.int .i64 (0 : Int)] ++ [Value.int .i64 (0 : Int)]) ++ ([Value.bool false] ++ ([Value.int .i64 (0 : Int)] ++ ([Value.slice none 0 0] ++ ([Value.map none] ++ [Value.slice none 0 0]))))))] []) hb  hc2) ?_
  intro x3
  refine ls_end ?_
  refine qn_then ?_
  refine cs_true (by kernel_rfl) ?_
  refine cs_seq ?_
  refine cs_region (l := [_]) ?_
  refine ls_val (v := .slice none 0 0) rfl rfl (by kernel_rfl) (fun w => by kernel_rfl) ?_
  refine ls_end ?_
  refine qn_then ?_
  refine cs_ret' ?_
  refine qr_then ?_
  refine qr_nilrow 1 T24 ?_
  obtain rfl := Option.some.inj H
  refine qr_res (rs := [_]) rfl (fun w' hs => ⟨[.slice none 0 0], (res_tmp (by kernel_rfl) (.nil)), (none, 0), rfl, hs.pick (ts := [0, 1]) (cs := [Ck.var 66 pg0 ((([Value.int .i64 (0 : Int)] ++ [Value.int .i64 (0 : Int)]) ++ ([Value.bool false] ++ ([Value.int .i64 (0 : Int)] ++ ([Value.slice none 0 0] ++ ([Value.map none] ++ [Value.slice none 0 0])))))), Ck.sl T24 none 0 ([] : List (Int × Int))]) ⟨by exact rfl, by exact rfl, trivial⟩ (by decide)⟩)

/-! ### shadowbox/shadowboxlaw10.AllocNobody: function 9 -/
def shadowboxlaw10_AllocNobody.f (k : Nat) (a0 : Int) (a1 : (Int × Int)) : Option (Bool) :=
  (alloc_Alloc_Take_snil0.f k a0 true).bind fun t6 => (alloc_Alloc_Commit_snil0.f k).bind fun t9 => (alloc_Alloc_Abort_snil0.f k).bind fun t12 => (if t6.1 = (0 : Int) then (if t6.2 = (1 : Int) then (alloc_Alloc_Spans_snil0.f k).bind fun t35 => (if (t35.length : Int) = (0 : Int) then (alloc_Alloc_Take_szero0.f k a0 true).bind fun t41 => (alloc_Alloc_Commit_szero0.f k).bind fun t44 => (alloc_Alloc_Abort_szero0.f k).bind fun t47 => (if t41.1 = (0 : Int) then (if t41.2 = (1 : Int) then (alloc_Alloc_Spans_szero0.f k).bind fun t70 => (if (t70.length : Int) = (0 : Int) then (alloc_New.f k (0 : Int) (5 : Int) (0 : Int)).bind fun t74 => (if t74.2 = (0 : Int) then (alloc_Alloc_Free.f k (t74.1.1.1, t74.1.1.2.1, t74.1.1.2.2.1, t74.1.1.2.2.2.1, (), t74.1.1.2.2.2.2.2) (t74.1.2.1, t74.1.2.2)).bind fun t86 => some (decide (t86 = (5 : Int))) else some false) else some false) else some false) else some false) else some false) else some false) else some false)
set_option maxRecDepth 100000 in
set_option maxHeartbeats 4000000 in
theorem shadowboxlaw10_AllocNobody.calls (k : Nat) (a0 : Int) (a1 : (Int × Int)) (r : Bool) (b : Bs) (hs0 : St b (stl []) b.w) (H : shadowboxlaw10_AllocNobody.f k a0 a1 = some r) :
    Calls Try.prog 9 #[.int .i64 a0, .agg ⟨([Value.int .i64 a1.1] ++ [Value.int .i64 a1.2])⟩] b.w fun e w' => ∃ x : Unit, e = .returned (.bool r) ∧ St b (stl []) w' := by
  unfold shadowboxlaw10_AllocNobody.f at H
  refine enterb (n := 86) Try.func9 rfl (by kernel_rfl) (by kernel_rfl) hs0 ?_
  refine cs_sub (s0) (sub_nil _) ?_
  refine cs_seq ?_
  refine cs_region (l := [_, _]) ?_
  refine ls_new rfl rfl (by kernel_rfl) 0 (fun g => .pointer (some ⟨g, 0, none⟩)) (.cells ⟨([Value.int .i64 a1.1] ++ [Value.int .i64 a1.2])⟩ 24) (fun w => by kernel_rfl) ?_
  intro g1
  refine ls_val (v := .bool false) rfl rfl (by kernel_rfl) (fun w => by kernel_rfl) ?_
  refine ls_end ?_
  refine qn_then ?_
  refine cs_seq ?_
  refine cs_seq ?_
  refine cs_region (l := [_, _, _, _, _]) ?_
  refine ls_build (ps := []) (pl := #[(0, 2), (2, 1), (3, 1), (4, 1), (5, 1), (6, 1)]) (zv := .agg ⟨(([Value.int .i64 (0 : Int)] ++ [Value.int .i64 (0 : Int)]) ++ ([Value.bool false] ++ ([Value.int .i64 (0 : Int)] ++ ([Value.slice none 0 0] ++ ([Value.map none] ++ [Value.slice none 0 0])))))⟩) (zc := (([Value.int .i64 (0 : Int)] ++ [Value.int .i64 (0 : Int)]) ++ ([Value.bool false] ++ ([Value.int .i64 (0 : Int)] ++ ([Value.slice none 0 0] ++ ([Value.map none] ++ [Value.slice none 0 0])))))) (r := (([Value.int .i64 (0 : Int)] ++ [Value.int .i64 (0 : Int)]) ++ ([Value.bool false] ++ ([Value.int .i64 (0 : Int)] ++ ([Value.slice none 0 0] ++ ([Value.map none] ++ [Value.slice none 0 0])))))) rfl rfl (by kernel_rfl) rfl (by kernel_rfl) (by kernel_rfl) (fun w => by kernel_rfl) (fun w => by kernel_rfl) rfl fill_nil ?_
  refine ls_new rfl rfl (by kernel_rfl) 1 (fun g => .pointer (some ⟨g, 0, none⟩)) (.cells ⟨(([Value.int .i64 (0 : Int)] ++ [Value.int .i64 (0 : Int)]) ++ ([Value.bool false] ++ ([Value.int .i64 (0 : Int)] ++ ([Value.slice none 0 0] ++ ([Value.map none] ++ [Value.slice none 0 0])))))⟩ 66) (fun w => by kernel_rfl) ?_
  intro g2
  refine ls_lit (Ec.ptr 46) 2 rfl rfl (by kernel_rfl) ([none, (some g2)]) (by exact of_decide_eq_true (by kernel_rfl)) (fun w => by kernel_rfl) ?_
  intro g3
  refine ls_val (v := .int .i64 (2 : Int)) rfl rfl (by kernel_rfl) (fun w => by kernel_rfl) ?_
  refine ls_val (v := .int .i64 (0 : Int)) rfl rfl (by kernel_rfl) (fun w => by kernel_rfl) ?_
  refine ls_end ?_
  refine qn_then ?_
  refine cs_block ?_
  refine cs_rounds 3 ?_
  refine rs_succ ?_
  refine cs_seq ?_
  refine cs_region (l := [_]) ?_
  refine ls_val (v := .bool true) rfl rfl (by kernel_rfl) (fun w => by kernel_rfl) ?_
  refine ls_end ?_
  refine qn_then ?_
  refine cs_seq ?_
  refine cs_true (by kernel_rfl) ?_
  refine cs_skip' ?_
  refine qn_then ?_
  refine cs_seq ?_
  refine cs_block ?_
  refine cs_seq ?_
  refine cs_region (l := [_, _, _]) ?_
  refine ls_at (T := (Ec.ptr 46)) (tk := 2) (i := (0 : Int)) (by exact rfl) (by decide) (show (0 : Int) < (([none, (some g2)]).length : Int) from of_decide_eq_true (by kernel_rfl)) ?_
  intro ad4 hA5
  refine ls_idxv (Ec.ptr 46) (A := (some ⟨g3, 0, none⟩)) (c := [none, (some g2)].length) (l := [none, (some g2)]) (k := .i64) (i := (0 : Int)) (z := 1) (ad := ad4) rfl rfl (by kernel_rfl) hA5 rfl (by kernel_rfl) (by kernel_rfl) (by kernel_rfl) (by kernel_rfl) (by decide) (show (0 : Int) < (([none, (some g2)]).length : Int) from of_decide_eq_true (by kernel_rfl)) ?_
  refine ls_load (a0 := (ad4.add (((0 : Int)).toNat * 1))) (v := .pointer none) (de := (TypeDesc.pointer 66)) rfl rfl (by kernel_rfl) rfl (by kernel_rfl) (by kernel_rfl) (by kernel_rfl) (fun w hs => (hs.rd (k := 2) (by exact rfl)).at hA5 (em_sub (Ec.ptr 46) ([none, (some g2)]) (i := ((0 : Int)).toNat) (by have h0 : (0 : Int) ≤ (0 : Int) := (by decide); have h1 : (0 : Int) < (([none, (some g2)]).length : Int) := (show (0 : Int) < (([none, (some g2)]).length : Int) from of_decide_eq_true (by kernel_rfl)); omega))) ?_
  refine ls_val (v := .pointer none) rfl rfl (by kernel_rfl) (fun w => by kernel_rfl) ?_
  refine ls_end ?_
  refine qn_then ?_
  refine cs_seq ?_
  refine cs_region (l := [_, _, _, _, _, _, _, _]) ?_
  refine ls_val (v := .pointer none) rfl rfl (by kernel_rfl) (fun w => by kernel_rfl) ?_
  refine ls_val (v := .int .i64 a0) rfl rfl (by kernel_rfl) (fun w => by kernel_rfl) ?_
  obtain ⟨t6, hc7, H⟩ := bind_some H
  refine ls_callb (fid := 28) (vals := #[.pointer none, .int .i64 a0, .bool true]) (X := Unit) (fun x => .tuple #[.int .i64 t6.1, .int .i64 t6.2]) (fun x => stl []) [] [] [] [] 3 rfl rfl (by kernel_rfl) (fun w => by kernel_rfl) trivial trivial (by decide) (fun w hs hb => alloc_Alloc_Take_snil0.calls k a0 true t6 (lent b w [] []) hb  hc7) ?_
  intro x8
  refine ls_val (v := .tuple #[.int .i64 t6.1, .int .i64 t6.2]) rfl rfl (by kernel_rfl) (fun w => by kernel_rfl) ?_
  refine ls_val (v := .int .i64 t6.1) rfl rfl (by kernel_rfl) (fun w => by kernel_rfl) ?_
  refine ls_val (v := .int .i64 t6.2) rfl rfl (by kernel_rfl) (fun w => by kernel_rfl) ?_
  refine ls_val (v := .int .i64 t6.1) rfl rfl (by kernel_rfl) (fun w => by kernel_rfl) ?_
  refine ls_val (v := .int .i64 t6.2) rfl rfl (by kernel_rfl) (fun w => by kernel_rfl) ?_
  refine ls_end ?_
  refine qn_then ?_
  refine cs_seq ?_
  refine cs_region (l := [_, _]) ?_
  refine ls_val (v := .pointer none) rfl rfl (by kernel_rfl) (fun w => by kernel_rfl) ?_
  obtain ⟨t9, hc10, H⟩ := bind_some H
  refine ls_callb (fid := 31) (vals := #[.pointer none]) (X := Unit) (fun x => .tuple #[]) (fun x => stl []) [] [] [] [] 3 rfl rfl (by kernel_rfl) (fun w => by kernel_rfl) trivial trivial (by decide) (fun w hs hb => alloc_Alloc_Commit_snil0.calls k  t9 (lent b w [] []) hb  hc10) ?_
  intro x11
  refine ls_end ?_
  refine qn_then ?_
  refine cs_seq ?_
  refine cs_region (l := [_, _]) ?_
  refine ls_val (v := .pointer none) rfl rfl (by kernel_rfl) (fun w => by kernel_rfl) ?_
  obtain ⟨t12, hc13, H⟩ := bind_some H
  refine ls_callb (fid := 39) (vals := #[.pointer none]) (X := Unit) (fun x => .tuple #[]) (fun x => stl []) [] [] [] [] 3 rfl rfl (by kernel_rfl) (fun w => by kernel_rfl) trivial trivial (by decide) (fun w hs hb => alloc_Alloc_Abort_snil0.calls k  t12 (lent b w [] []) hb  hc13) ?_
  intro x14
  refine ls_end ?_
  refine qn_then ?_
  refine cs_seq ?_
  refine cs_region (l := [_, _, _, _, _, _, _, _, _, _, _, _, _, _, _, _, _, _, _, _, _, _, _, _, _, _, _, _, _, _, _, _, _, _, _, _, _, _, _, _, _, _, _, _, _]) ?_
  refine ls_val (v := .int .i64 t6.1) rfl rfl (by kernel_rfl) (fun w => by kernel_rfl) ?_
  refine ls_val (v := .bool (!decide (t6.1 = (0 : Int)))) rfl rfl (by kernel_rfl) (fun w => by kernel_rfl) ?_
  refine ls_val (v := .bool (!decide (t6.1 = (0 : Int)))) rfl rfl (by kernel_rfl) (fun w => by kernel_rfl) ?_
  by_cases q15 : t6.1 = (0 : Int)
  · replace H := ite_t q15 H
    refine ls_know (c := false) (congrArg Bool.not (dec_t q15)) 31 (by kernel_rfl) ?_
    refine ls_on (j := 2) (t := 31) (b := false) rfl rfl (by kernel_rfl) (by kernel_rfl) ?_
    refine ls_val (v := .int .i64 t6.2) rfl rfl (by kernel_rfl) (fun w => by kernel_rfl) ?_
    refine ls_on (j := 2) (t := 31) (b := false) rfl rfl (by kernel_rfl) (by kernel_rfl) ?_
    refine ls_val (v := .bool (!decide (t6.2 = (1 : Int)))) rfl rfl (by kernel_rfl) (fun w => by kernel_rfl) ?_
    refine ls_val (v := .bool (!decide (t6.2 = (1 : Int)))) rfl rfl (by kernel_rfl) (fun w => by kernel_rfl) ?_
    refine ls_val (v := .bool (!decide (t6.2 = (1 : Int)))) rfl rfl (by kernel_rfl) (fun w => by kernel_rfl) ?_
    by_cases q16 : t6.2 = (1 : Int)
    · replace H := ite_t q16 H
      refine ls_know (c := false) (congrArg Bool.not (dec_t q16)) 35 (by kernel_rfl) ?_
      refine ls_on (j := 6) (t := 35) (b := false) rfl rfl (by kernel_rfl) (by kernel_rfl) ?_
      refine ls_val (v := .pointer none) rfl rfl (by kernel_rfl) (fun w => by kernel_rfl) ?_
      refine ls_on (j := 6) (t := 35) (b := false) rfl rfl (by kernel_rfl) (by kernel_rfl) ?_
      refine ls_loadagg (a := ⟨g1, 0, none⟩) (sub := ([Value.int .i64 a1.1] ++ [Value.int .i64 a1.2])) rfl rfl (by kernel_rfl) rfl (by kernel_rfl) (by kernel_rfl) (by kernel_rfl) (len_app (len1 _) (len1 _)) (fun w hs => (hs.vars (k := 0) (by exact rfl) (Sub4.all _))) ?_
      refine ls_on (j := 6) (t := 35) (b := false) rfl rfl (by kernel_rfl) (by kernel_rfl) ?_
      have hc18 : alloc_Alloc_Use_snil0.f k a1 = some (1 : Int) := rfl
      refine ls_callb (fid := 40) (vals := #[.pointer none, .agg ⟨([Value.int .i64 a1.1] ++ [Value.int .i64 a1.2])⟩]) (X := Unit) (fun x => .int .i64 (1 : Int)) (fun x => stl []) [] [] [] [] 3 rfl rfl (by kernel_rfl) (fun w => by kernel_rfl) trivial trivial (by decide) (fun w hs hb => alloc_Alloc_Use_snil0.calls k a1 (1 : Int) (lent b w [] []) hb  hc18) ?_
      intro x19
      refine ls_on (j := 6) (t := 35) (b := false) rfl rfl (by kernel_rfl) (by kernel_rfl) ?_
      refine ls_val (v := .bool false) rfl rfl (by kernel_rfl) (fun w => by kernel_rfl) ?_
      refine ls_val (v := .bool false) rfl rfl (by kernel_rfl) (fun w => by kernel_rfl) ?_
      refine ls_val (v := .bool false) rfl rfl (by kernel_rfl) (fun w => by kernel_rfl) ?_
      refine ls_on (j := 12) (t := 41) (b := false) rfl rfl (by kernel_rfl) (by kernel_rfl) ?_
      refine ls_val (v := .pointer none) rfl rfl (by kernel_rfl) (fun w => by kernel_rfl) ?_
      refine ls_on (j := 12) (t := 41) (b := false) rfl rfl (by kernel_rfl) (by kernel_rfl) ?_
      refine ls_loadagg (a := ⟨g1, 0, none⟩) (sub := ([Value.int .i64 a1.1] ++ [Value.int .i64 a1.2])) rfl rfl (by kernel_rfl) rfl (by kernel_rfl) (by kernel_rfl) (by kernel_rfl) (len_app (len1 _) (len1 _)) (fun w hs => (hs.vars (k := 0) (by exact rfl) (Sub4.all _))) ?_
      refine ls_on (j := 12) (t := 41) (b := false) rfl rfl (by kernel_rfl) (by kernel_rfl) ?_
      have hc21 : alloc_Alloc_Give_snil0.f k a1 = some (1 : Int) := rfl
      refine ls_callb (fid := 35) (vals := #[.pointer none, .agg ⟨([Value.int .i64 a1.1] ++ [Value.int .i64 a1.2])⟩]) (X := Unit) (fun x => .int .i64 (1 : Int)) (fun x => stl []) [] [] [] [] 3 rfl rfl (by kernel_rfl) (fun w => by kernel_rfl) trivial trivial (by decide) (fun w hs hb => alloc_Alloc_Give_snil0.calls k a1 (1 : Int) (lent b w [] []) hb  hc21) ?_
      intro x22
      refine ls_on (j := 12) (t := 41) (b := false) rfl rfl (by kernel_rfl) (by kernel_rfl) ?_
      refine ls_val (v := .bool false) rfl rfl (by kernel_rfl) (fun w => by kernel_rfl) ?_
      refine ls_val (v := .bool false) rfl rfl (by kernel_rfl) (fun w => by kernel_rfl) ?_
      refine ls_val (v := .bool false) rfl rfl (by kernel_rfl) (fun w => by kernel_rfl) ?_
      refine ls_on (j := 18) (t := 47) (b := false) rfl rfl (by kernel_rfl) (by kernel_rfl) ?_
      refine ls_val (v := .pointer none) rfl rfl (by kernel_rfl) (fun w => by kernel_rfl) ?_
      refine ls_on (j := 18) (t := 47) (b := false) rfl rfl (by kernel_rfl) (by kernel_rfl) ?_
      refine ls_loadagg (a := ⟨g1, 0, none⟩) (sub := ([Value.int .i64 a1.1] ++ [Value.int .i64 a1.2])) rfl rfl (by kernel_rfl) rfl (by kernel_rfl) (by kernel_rfl) (by kernel_rfl) (len_app (len1 _) (len1 _)) (fun w hs => (hs.vars (k := 0) (by exact rfl) (Sub4.all _))) ?_
      refine ls_on (j := 18) (t := 47) (b := false) rfl rfl (by kernel_rfl) (by kernel_rfl) ?_
      have hc24 : alloc_Alloc_Later_snil0.f k a1 = some (1 : Int) := rfl
      refine ls_callb (fid := 30) (vals := #[.pointer none, .agg ⟨([Value.int .i64 a1.1] ++ [Value.int .i64 a1.2])⟩]) (X := Unit) (fun x => .int .i64 (1 : Int)) (fun x => stl []) [] [] [] [] 3 rfl rfl (by kernel_rfl) (fun w => by kernel_rfl) trivial trivial (by decide) (fun w hs hb => alloc_Alloc_Later_snil0.calls k a1 (1 : Int) (lent b w [] []) hb  hc24) ?_
      intro x25
      refine ls_on (j := 18) (t := 47) (b := false) rfl rfl (by kernel_rfl) (by kernel_rfl) ?_
      refine ls_val (v := .bool false) rfl rfl (by kernel_rfl) (fun w => by kernel_rfl) ?_
      refine ls_val (v := .bool false) rfl rfl (by kernel_rfl) (fun w => by kernel_rfl) ?_
      refine ls_val (v := .bool false) rfl rfl (by kernel_rfl) (fun w => by kernel_rfl) ?_
      refine ls_on (j := 24) (t := 53) (b := false) rfl rfl (by kernel_rfl) (by kernel_rfl) ?_
      refine ls_val (v := .pointer none) rfl rfl (by kernel_rfl) (fun w => by kernel_rfl) ?_
      refine ls_on (j := 24) (t := 53) (b := false) rfl rfl (by kernel_rfl) (by kernel_rfl) ?_
      have hc27 : alloc_Alloc_Free_snil0.f k = some (0 : Int) := rfl
      refine ls_callb (fid := 32) (vals := #[.pointer none]) (X := Unit) (fun x => .int .i64 (0 : Int)) (fun x => stl []) [] [] [] [] 3 rfl rfl (by kernel_rfl) (fun w => by kernel_rfl) trivial trivial (by decide) (fun w hs hb => alloc_Alloc_Free_snil0.calls k  (0 : Int) (lent b w [] []) hb  hc27) ?_
      intro x28
      refine ls_on (j := 24) (t := 53) (b := false) rfl rfl (by kernel_rfl) (by kernel_rfl) ?_
      refine ls_val (v := .bool false) rfl rfl (by kernel_rfl) (fun w => by kernel_rfl) ?_
      refine ls_val (v := .bool false) rfl rfl (by kernel_rfl) (fun w => by kernel_rfl) ?_
      refine ls_val (v := .bool false) rfl rfl (by kernel_rfl) (fun w => by kernel_rfl) ?_
      refine ls_on (j := 29) (t := 58) (b := false) rfl rfl (by kernel_rfl) (by kernel_rfl) ?_
      refine ls_val (v := .pointer none) rfl rfl (by kernel_rfl) (fun w => by kernel_rfl) ?_
      refine ls_on (j := 29) (t := 58) (b := false) rfl rfl (by kernel_rfl) (by kernel_rfl) ?_
      have hc30 : alloc_Alloc_Waiting_snil0.f k = some (0 : Int) := rfl
      refine ls_callb (fid := 33) (vals := #[.pointer none]) (X := Unit) (fun x => .int .i64 (0 : Int)) (fun x => stl []) [] [] [] [] 3 rfl rfl (by kernel_rfl) (fun w => by kernel_rfl) trivial trivial (by decide) (fun w hs hb => alloc_Alloc_Waiting_snil0.calls k  (0 : Int) (lent b w [] []) hb  hc30) ?_
      intro x31
      refine ls_on (j := 29) (t := 58) (b := false) rfl rfl (by kernel_rfl) (by kernel_rfl) ?_
      refine ls_val (v := .bool false) rfl rfl (by kernel_rfl) (fun w => by kernel_rfl) ?_
      refine ls_val (v := .bool false) rfl rfl (by kernel_rfl) (fun w => by kernel_rfl) ?_
      refine ls_val (v := .bool false) rfl rfl (by kernel_rfl) (fun w => by kernel_rfl) ?_
      refine ls_on (j := 34) (t := 63) (b := false) rfl rfl (by kernel_rfl) (by kernel_rfl) ?_
      refine ls_val (v := .pointer none) rfl rfl (by kernel_rfl) (fun w => by kernel_rfl) ?_
      refine ls_on (j := 34) (t := 63) (b := false) rfl rfl (by kernel_rfl) (by kernel_rfl) ?_
      have hc33 : alloc_Alloc_Used_snil0.f k = some (0 : Int) := rfl
      refine ls_callb (fid := 29) (vals := #[.pointer none]) (X := Unit) (fun x => .int .i64 (0 : Int)) (fun x => stl []) [] [] [] [] 3 rfl rfl (by kernel_rfl) (fun w => by kernel_rfl) trivial trivial (by decide) (fun w hs hb => alloc_Alloc_Used_snil0.calls k  (0 : Int) (lent b w [] []) hb  hc33) ?_
      intro x34
      refine ls_on (j := 34) (t := 63) (b := false) rfl rfl (by kernel_rfl) (by kernel_rfl) ?_
      refine ls_val (v := .bool false) rfl rfl (by kernel_rfl) (fun w => by kernel_rfl) ?_
      refine ls_val (v := .bool false) rfl rfl (by kernel_rfl) (fun w => by kernel_rfl) ?_
      refine ls_val (v := .bool false) rfl rfl (by kernel_rfl) (fun w => by kernel_rfl) ?_
      refine ls_on (j := 39) (t := 68) (b := false) rfl rfl (by kernel_rfl) (by kernel_rfl) ?_
      refine ls_val (v := .pointer none) rfl rfl (by kernel_rfl) (fun w => by kernel_rfl) ?_
      refine ls_on (j := 39) (t := 68) (b := false) rfl rfl (by kernel_rfl) (by kernel_rfl) ?_
      obtain ⟨t35, hc36, H⟩ := bind_some H
      refine ls_callb (fid := 38) (vals := #[.pointer none]) (X := (Option Addr × Nat)) (fun x => .slice x.1 t35.length x.2) (fun x => stl [Ck.sl T24 x.1 x.2 t35]) [] [] [] [] 3 rfl rfl (by kernel_rfl) (fun w => by kernel_rfl) trivial trivial (by decide) (fun w hs hb => alloc_Alloc_Spans_snil0.calls k  t35 (lent b w [] []) hb  hc36) ?_
      intro x37
      refine ls_on (j := 39) (t := 68) (b := false) rfl rfl (by kernel_rfl) (by kernel_rfl) ?_
      refine ls_val (v := .int .i64 (t35.length : Int)) rfl rfl (by kernel_rfl) (fun w => by kernel_rfl) ?_
      refine ls_on (j := 39) (t := 68) (b := false) rfl rfl (by kernel_rfl) (by kernel_rfl) ?_
      refine ls_val (v := .bool (!decide ((t35.length : Int) = (0 : Int)))) rfl rfl (by kernel_rfl) (fun w => by kernel_rfl) ?_
      refine ls_val (v := .bool (!decide ((t35.length : Int) = (0 : Int)))) rfl rfl (by kernel_rfl) (fun w => by kernel_rfl) ?_
      refine ls_end ?_
      refine qn_then ?_
      by_cases q38 : (t35.length : Int) = (0 : Int)
      · replace H := ite_t q38 H
        refine cs_know (c := false) (congrArg Bool.not (dec_t q38)) 73 (by kernel_rfl) ?_
        refine cs_false (by kernel_rfl) ?_
        refine cs_skip' ?_
        refine qn_block ?_
        refine qn_then ?_
        refine cs_region (l := [_, _]) ?_
        refine ls_val (v := .int .i64 (1 : Int)) rfl rfl (by kernel_rfl) (fun w => by kernel_rfl) ?_
        refine ls_val (v := .int .i64 (1 : Int)) rfl rfl (by kernel_rfl) (fun w => by kernel_rfl) ?_
        refine ls_end ?_
        refine qn_rounds ?_
        refine rs_succ ?_
        refine cs_seq ?_
        refine cs_region (l := [_]) ?_
        refine ls_val (v := .bool true) rfl rfl (by kernel_rfl) (fun w => by kernel_rfl) ?_
        refine ls_end ?_
        refine qn_then ?_
        refine cs_seq ?_
        refine cs_true (by kernel_rfl) ?_
        refine cs_skip' ?_
        refine qn_then ?_
        refine cs_seq ?_
        refine cs_block ?_
        refine cs_seq ?_
        refine cs_region (l := [_, _, _]) ?_
        refine ls_at (T := (Ec.ptr 46)) (tk := 2) (i := (1 : Int)) (by exact rfl) (by decide) (show (1 : Int) < (([none, (some g2)]).length : Int) from of_decide_eq_true (by kernel_rfl)) ?_
        intro ad39 hA40
        refine ls_idxv (Ec.ptr 46) (A := (some ⟨g3, 0, none⟩)) (c := [none, (some g2)].length) (l := [none, (some g2)]) (k := .i64) (i := (1 : Int)) (z := 1) (ad := ad39) rfl rfl (by kernel_rfl) hA40 rfl (by kernel_rfl) (by kernel_rfl) (by kernel_rfl) (by kernel_rfl) (by decide) (show (1 : Int) < (([none, (some g2)]).length : Int) from of_decide_eq_true (by kernel_rfl)) ?_
        refine ls_load (a0 := (ad39.add (((1 : Int)).toNat * 1))) (v := .pointer (some ⟨g2, 0, none⟩)) (de := (TypeDesc.pointer 66)) rfl rfl (by kernel_rfl) rfl (by kernel_rfl) (by kernel_rfl) (by kernel_rfl) (fun w hs => (hs.rd (k := 2) (by exact rfl)).at hA40 (em_sub (Ec.ptr 46) ([none, (some g2)]) (i := ((1 : Int)).toNat) (by have h0 : (0 : Int) ≤ (1 : Int) := (by decide); have h1 : (1 : Int) < (([none, (some g2)]).length : Int) := (show (1 : Int) < (([none, (some g2)]).length : Int) from of_decide_eq_true (by kernel_rfl)); omega))) ?_
        refine ls_val (v := .pointer (some ⟨g2, 0, none⟩)) rfl rfl (by kernel_rfl) (fun w => by kernel_rfl) ?_
        refine ls_end ?_
        refine qn_then ?_
        refine cs_seq ?_
        refine cs_region (l := [_, _, _, _, _, _, _, _]) ?_
        refine ls_val (v := .pointer (some ⟨g2, 0, none⟩)) rfl rfl (by kernel_rfl) (fun w => by kernel_rfl) ?_
        refine ls_val (v := .int .i64 a0) rfl rfl (by kernel_rfl) (fun w => by kernel_rfl) ?_
        obtain ⟨t41, hc42, H⟩ := bind_some H
        refine ls_callb (fid := 28) (vals := #[.pointer (some ⟨g2, 0, none⟩), .int .i64 a0, .bool true]) (X := Unit) (fun x => .tuple #[.int .i64 t41.1, .int .i64 t41.2]) (fun x => stl [Ck.var 66 g2 ((([Value.int .i64 (0 : Int)] ++ [Value.int .i64 (0 : Int)]) ++ ([Value.bool false] ++ ([Value.int .i64 (0 : Int)] ++ ([Value.slice none 0 0] ++ ([Value.map none] ++ [Value.slice none 0 0]))))))]) [1] [] [Ck.var 66 g2 ((([Value.int .i64 (0 : Int)] ++ [Value.int .i64 (0 : Int)]) ++ ([Value.bool false] ++ ([Value.int .i64 (0 : Int)] ++ ([Value.slice none 0 0] ++ ([Value.map none] ++ [Value.slice none 0 0]))))))] [] 4 rfl rfl (by kernel_rfl) (fun w => by kernel_rfl) ⟨by exact rfl, trivial⟩ trivial (by decide) (fun w hs hb => alloc_Alloc_Take_szero0.calls k g2 a0 true t41 (lent b w [Ck.var 66 g2 ((([Value.int .i64 (0 : Int)] ++ [Value.int .i64 (0 : Int)]) ++ ([Value.bool false] ++ ([Value.int .i64 (0 : Int)] ++ ([Value.slice none 0 0] ++ ([Value.map none] ++ [Value.slice none 0 0]))))))] []) hb  hc42) ?_
        intro x43
        refine ls_val (v := .tuple #[.int .i64 t41.1, .int .i64 t41.2]) rfl rfl (by kernel_rfl) (fun w => by kernel_rfl) ?_
        refine ls_val (v := .int .i64 t41.1) rfl rfl (by kernel_rfl) (fun w => by kernel_rfl) ?_
        refine ls_val (v := .int .i64 t41.2) rfl rfl (by kernel_rfl) (fun w => by kernel_rfl) ?_
        refine ls_val (v := .int .i64 t41.1) rfl rfl (by kernel_rfl) (fun w => by kernel_rfl) ?_
        refine ls_val (v := .int .i64 t41.2) rfl rfl (by kernel_rfl) (fun w => by kernel_rfl) ?_
        refine ls_end ?_
        refine qn_then ?_
        refine cs_seq ?_
        refine cs_region (l := [_, _]) ?_
        refine ls_val (v := .pointer (some ⟨g2, 0, none⟩)) rfl rfl (by kernel_rfl) (fun w => by kernel_rfl) ?_
        obtain ⟨t44, hc45, H⟩ := bind_some H
        refine ls_callb (fid := 31) (vals := #[.pointer (some ⟨g2, 0, none⟩)]) (X := Unit) (fun x => .tuple #[]) (fun x => stl [Ck.var 66 g2 ((([Value.int .i64 (0 : Int)] ++ [Value.int .i64 (0 : Int)]) ++ ([Value.bool false] ++ ([Value.int .i64 (0 : Int)] ++ ([Value.slice none 0 0] ++ ([Value.map none] ++ [Value.slice none 0 0]))))))]) [1] [] [Ck.var 66 g2 ((([Value.int .i64 (0 : Int)] ++ [Value.int .i64 (0 : Int)]) ++ ([Value.bool false] ++ ([Value.int .i64 (0 : Int)] ++ ([Value.slice none 0 0] ++ ([Value.map none] ++ [Value.slice none 0 0]))))))] [] 4 rfl rfl (by kernel_rfl) (fun w => by kernel_rfl) ⟨by exact rfl, trivial⟩ trivial (by decide) (fun w hs hb => alloc_Alloc_Commit_szero0.calls k g2 t44 (lent b w [Ck.var 66 g2 ((([Value.int .i64 (0 : Int)] ++ [Value.int .i64 (0 : Int)]) ++ ([Value.bool false] ++ ([Value.int .i64 (0 : Int)] ++ ([Value.slice none 0 0] ++ ([Value.map none] ++ [Value.slice none 0 0]))))))] []) hb  hc45) ?_
        intro x46
        refine ls_end ?_
        refine qn_then ?_
        refine cs_seq ?_
        refine cs_region (l := [_, _]) ?_
        refine ls_val (v := .pointer (some ⟨g2, 0, none⟩)) rfl rfl (by kernel_rfl) (fun w => by kernel_rfl) ?_
        obtain ⟨t47, hc48, H⟩ := bind_some H
        refine ls_callb (fid := 39) (vals := #[.pointer (some ⟨g2, 0, none⟩)]) (X := Unit) (fun x => .tuple #[]) (fun x => stl [Ck.var 66 g2 ((([Value.int .i64 (0 : Int)] ++ [Value.int .i64 (0 : Int)]) ++ ([Value.bool false] ++ ([Value.int .i64 (0 : Int)] ++ ([Value.slice none 0 0] ++ ([Value.map none] ++ [Value.slice none 0 0]))))))]) [1] [] [Ck.var 66 g2 ((([Value.int .i64 (0 : Int)] ++ [Value.int .i64 (0 : Int)]) ++ ([Value.bool false] ++ ([Value.int .i64 (0 : Int)] ++ ([Value.slice none 0 0] ++ ([Value.map none] ++ [Value.slice none 0 0]))))))] [] 4 rfl rfl (by kernel_rfl) (fun w => by kernel_rfl) ⟨by exact rfl, trivial⟩ trivial (by decide) (fun w hs hb => alloc_Alloc_Abort_szero0.calls k g2 t47 (lent b w [Ck.var 66 g2 ((([Value.int .i64 (0 : Int)] ++ [Value.int .i64 (0 : Int)]) ++ ([Value.bool false] ++ ([Value.int .i64 (0 : Int)] ++ ([Value.slice none 0 0] ++ ([Value.map none] ++ [Value.slice none 0 0]))))))] []) hb  hc48) ?_
        intro x49
        refine ls_end ?_
        refine qn_then ?_
        refine cs_seq ?_
        refine cs_region (l := [_, _, _, _, _, _, _, _, _, _, _, _, _, _, _, _, _, _, _, _, _, _, _, _, _, _, _, _, _, _, _, _, _, _, _, _, _, _, _, _, _, _, _, _, _]) ?_
        refine ls_val (v := .int .i64 t41.1) rfl rfl (by kernel_rfl) (fun w => by kernel_rfl) ?_
        refine ls_val (v := .bool (!decide (t41.1 = (0 : Int)))) rfl rfl (by kernel_rfl) (fun w => by kernel_rfl) ?_
        refine ls_val (v := .bool (!decide (t41.1 = (0 : Int)))) rfl rfl (by kernel_rfl) (fun w => by kernel_rfl) ?_
        by_cases q50 : t41.1 = (0 : Int)
        · replace H := ite_t q50 H
          refine ls_know (c := false) (congrArg Bool.not (dec_t q50)) 31 (by kernel_rfl) ?_
          refine ls_on (j := 2) (t := 31) (b := false) rfl rfl (by kernel_rfl) (by kernel_rfl) ?_
          refine ls_val (v := .int .i64 t41.2) rfl rfl (by kernel_rfl) (fun w => by kernel_rfl) ?_
          refine ls_on (j := 2) (t := 31) (b := false) rfl rfl (by kernel_rfl) (by kernel_rfl) ?_
          refine ls_val (v := .bool (!decide (t41.2 = (1 : Int)))) rfl rfl (by kernel_rfl) (fun w => by kernel_rfl) ?_
          refine ls_val (v := .bool (!decide (t41.2 = (1 : Int)))) rfl rfl (by kernel_rfl) (fun w => by kernel_rfl) ?_
          refine ls_val (v := .bool (!decide (t41.2 = (1 : Int)))) rfl rfl (by kernel_rfl) (fun w => by kernel_rfl) ?_
          by_cases q51 : t41.2 = (1 : Int)
          · replace H := ite_t q51 H
            refine ls_know (c := false) (congrArg Bool.not (dec_t q51)) 35 (by kernel_rfl) ?_
            refine ls_on (j := 6) (t := 35) (b := false) rfl rfl (by kernel_rfl) (by kernel_rfl) ?_
            refine ls_val (v := .pointer (some ⟨g2, 0, none⟩)) rfl rfl (by kernel_rfl) (fun w => by kernel_rfl) ?_
            refine ls_on (j := 6) (t := 35) (b := false) rfl rfl (by kernel_rfl) (by kernel_rfl) ?_
            refine ls_loadagg (a := ⟨g1, 0, none⟩) (sub := ([Value.int .i64 a1.1] ++ [Value.int .i64 a1.2])) rfl rfl (by kernel_rfl) rfl (by kernel_rfl) (by kernel_rfl) (by kernel_rfl) (len_app (len1 _) (len1 _)) (fun w hs => (hs.vars (k := 0) (by exact rfl) (Sub4.all _))) ?_
            refine ls_on (j := 6) (t := 35) (b := false) rfl rfl (by kernel_rfl) (by kernel_rfl) ?_
            have hc53 : alloc_Alloc_Use_szero0.f k a1 = some (1 : Int) := rfl
            refine ls_callb (fid := 40) (vals := #[.pointer (some ⟨g2, 0, none⟩), .agg ⟨([Value.int .i64 a1.1] ++ [Value.int .i64 a1.2])⟩]) (X := Unit) (fun x => .int .i64 (1 : Int)) (fun x => stl [Ck.var 66 g2 ((([Value.int .i64 (0 : Int)] ++ [Value.int .i64 (0 : Int)]) ++ ([Value.bool false] ++ ([Value.int .i64 (0 : Int)] ++ ([Value.slice none 0 0] ++ ([Value.map none] ++ [Value.slice none 0 0]))))))]) [1] [] [Ck.var 66 g2 ((([Value.int .i64 (0 : Int)] ++ [Value.int .i64 (0 : Int)]) ++ ([Value.bool false] ++ ([Value.int .i64 (0 : Int)] ++ ([Value.slice none 0 0] ++ ([Value.map none] ++ [Value.slice none 0 0]))))))] [] 4 rfl rfl (by kernel_rfl) (fun w => by kernel_rfl) ⟨by exact rfl, trivial⟩ trivial (by decide) (fun w hs hb => alloc_Alloc_Use_szero0.calls k g2 a1 (1 : Int) (lent b w [Ck.var 66 g2 ((([Value.int .i64 (0 : Int)] ++ [Value.int .i64 (0 : Int)]) ++ ([Value.bool false] ++ ([Value.int .i64 (0 : Int)] ++ ([Value.slice none 0 0] ++ ([Value.map none] ++ [Value.slice none 0 0]))))))] []) hb  hc53) ?_
            intro x54
            refine ls_on (j := 6) (t := 35) (b := false) rfl rfl (by kernel_rfl) (by kernel_rfl) ?_
            refine ls_val (v := .bool false) rfl rfl (by kernel_rfl) (fun w => by kernel_rfl) ?_
            refine ls_val (v := .bool false) rfl rfl (by kernel_rfl) (fun w => by kernel_rfl) ?_
            refine ls_val (v := .bool false) rfl rfl (by kernel_rfl) (fun w => by kernel_rfl) ?_
            refine ls_on (j := 12) (t := 41) (b := false) rfl rfl (by kernel_rfl) (by kernel_rfl) ?_
            refine ls_val (v := .pointer (some ⟨g2, 0, none⟩)) rfl rfl (by kernel_rfl) (fun w => by kernel_rfl) ?_
            refine ls_on (j := 12) (t := 41) (b := false) rfl rfl (by kernel_rfl) (by kernel_rfl) ?_
            refine ls_loadagg (a := ⟨g1, 0, none⟩) (sub := ([Value.int .i64 a1.1] ++ [Value.int .i64 a1.2])) rfl rfl (by kernel_rfl) rfl (by kernel_rfl) (by kernel_rfl) (by kernel_rfl) (len_app (len1 _) (len1 _)) (fun w hs => (hs.vars (k := 0) (by exact rfl) (Sub4.all _))) ?_
            refine ls_on (j := 12) (t := 41) (b := false) rfl rfl (by kernel_rfl) (by kernel_rfl) ?_
            have hc56 : alloc_Alloc_Give_szero0.f k a1 = some (1 : Int) := rfl
            refine ls_callb (fid := 35) (vals := #[.pointer (some ⟨g2, 0, none⟩), .agg ⟨([Value.int .i64 a1.1] ++ [Value.int .i64 a1.2])⟩]) (X := Unit) (fun x => .int .i64 (1 : Int)) (fun x => stl [Ck.var 66 g2 ((([Value.int .i64 (0 : Int)] ++ [Value.int .i64 (0 : Int)]) ++ ([Value.bool false] ++ ([Value.int .i64 (0 : Int)] ++ ([Value.slice none 0 0] ++ ([Value.map none] ++ [Value.slice none 0 0]))))))]) [1] [] [Ck.var 66 g2 ((([Value.int .i64 (0 : Int)] ++ [Value.int .i64 (0 : Int)]) ++ ([Value.bool false] ++ ([Value.int .i64 (0 : Int)] ++ ([Value.slice none 0 0] ++ ([Value.map none] ++ [Value.slice none 0 0]))))))] [] 4 rfl rfl (by kernel_rfl) (fun w => by kernel_rfl) ⟨by exact rfl, trivial⟩ trivial (by decide) (fun w hs hb => alloc_Alloc_Give_szero0.calls k g2 a1 (1 : Int) (lent b w [Ck.var 66 g2 ((([Value.int .i64 (0 : Int)] ++ [Value.int .i64 (0 : Int)]) ++ ([Value.bool false] ++ ([Value.int .i64 (0 : Int)] ++ ([Value.slice none 0 0] ++ ([Value.map none] ++ [Value.slice none 0 0]))))))] []) hb  hc56) ?_
            intro x57
            refine ls_on (j := 12) (t := 41) (b := false) rfl rfl (by kernel_rfl) (by kernel_rfl) ?_
            refine ls_val (v := .bool false) rfl rfl (by kernel_rfl) (fun w => by kernel_rfl) ?_
            refine ls_val (v := .bool false) rfl rfl (by kernel_rfl) (fun w => by kernel_rfl) ?_
            refine ls_val (v := .bool false) rfl rfl (by kernel_rfl) (fun w => by kernel_rfl) ?_
            refine ls_on (j := 18) (t := 47) (b := false) rfl rfl (by kernel_rfl) (by kernel_rfl) ?_
            refine ls_val (v := .pointer (some ⟨g2, 0, none⟩)) rfl rfl (by kernel_rfl) (fun w => by kernel_rfl) ?_
            refine ls_on (j := 18) (t := 47) (b := false) rfl rfl (by kernel_rfl) (by kernel_rfl) ?_
            refine ls_loadagg (a := ⟨g1, 0, none⟩) (sub := ([Value.int .i64 a1.1] ++ [Value.int .i64 a1.2])) rfl rfl (by kernel_rfl) rfl (by kernel_rfl) (by kernel_rfl) (by kernel_rfl) (len_app (len1 _) (len1 _)) (fun w hs => (hs.vars (k := 0) (by exact rfl) (Sub4.all _))) ?_
            refine ls_on (j := 18) (t := 47) (b := false) rfl rfl (by kernel_rfl) (by kernel_rfl) ?_
            have hc59 : alloc_Alloc_Later_szero0.f k a1 = some (1 : Int) := rfl
            refine ls_callb (fid := 30) (vals := #[.pointer (some ⟨g2, 0, none⟩), .agg ⟨([Value.int .i64 a1.1] ++ [Value.int .i64 a1.2])⟩]) (X := Unit) (fun x => .int .i64 (1 : Int)) (fun x => stl [Ck.var 66 g2 ((([Value.int .i64 (0 : Int)] ++ [Value.int .i64 (0 : Int)]) ++ ([Value.bool false] ++ ([Value.int .i64 (0 : Int)] ++ ([Value.slice none 0 0] ++ ([Value.map none] ++ [Value.slice none 0 0]))))))]) [1] [] [Ck.var 66 g2 ((([Value.int .i64 (0 : Int)] ++ [Value.int .i64 (0 : Int)]) ++ ([Value.bool false] ++ ([Value.int .i64 (0 : Int)] ++ ([Value.slice none 0 0] ++ ([Value.map none] ++ [Value.slice none 0 0]))))))] [] 4 rfl rfl (by kernel_rfl) (fun w => by kernel_rfl) ⟨by exact rfl, trivial⟩ trivial (by decide) (fun w hs hb => alloc_Alloc_Later_szero0.calls k g2 a1 (1 : Int) (lent b w [Ck.var 66 g2 ((([Value.int .i64 (0 : Int)] ++ [Value.int .i64 (0 : Int)]) ++ ([Value.bool false] ++ ([Value.int .i64 (0 : Int)] ++ ([Value.slice none 0 0] ++ ([Value.map none] ++ [Value.slice none 0 0]))))))] []) hb  hc59) ?_
            intro x60
            refine ls_on (j := 18) (t := 47) (b := false) rfl rfl (by kernel_rfl) (by kernel_rfl) ?_
            refine ls_val (v := .bool false) rfl rfl (by kernel_rfl) (fun w => by kernel_rfl) ?_
            refine ls_val (v := .bool false) rfl rfl (by kernel_rfl) (fun w => by kernel_rfl) ?_
            refine ls_val (v := .bool false) rfl rfl (by kernel_rfl) (fun w => by kernel_rfl) ?_
            refine ls_on (j := 24) (t := 53) (b := false) rfl rfl (by kernel_rfl) (by kernel_rfl) ?_
            refine ls_val (v := .pointer (some ⟨g2, 0, none⟩)) rfl rfl (by kernel_rfl) (fun w => by kernel_rfl) ?_
            refine ls_on (j := 24) (t := 53) (b := false) rfl rfl (by kernel_rfl) (by kernel_rfl) ?_
            have hc62 : alloc_Alloc_Free_szero0.f k = some (0 : Int) := rfl
            refine ls_callb (fid := 32) (vals := #[.pointer (some ⟨g2, 0, none⟩)]) (X := Unit) (fun x => .int .i64 (0 : Int)) (fun x => stl [Ck.var 66 g2 ((([Value.int .i64 (0 : Int)] ++ [Value.int .i64 (0 : Int)]) ++ ([Value.bool false] ++ ([Value.int .i64 (0 : Int)] ++ ([Value.slice none 0 0] ++ ([Value.map none] ++ [Value.slice none 0 0]))))))]) [1] [] [Ck.var 66 g2 ((([Value.int .i64 (0 : Int)] ++ [Value.int .i64 (0 : Int)]) ++ ([Value.bool false] ++ ([Value.int .i64 (0 : Int)] ++ ([Value.slice none 0 0] ++ ([Value.map none] ++ [Value.slice none 0 0]))))))] [] 4 rfl rfl (by kernel_rfl) (fun w => by kernel_rfl) ⟨by exact rfl, trivial⟩ trivial (by decide) (fun w hs hb => alloc_Alloc_Free_szero0.calls k g2 (0 : Int) (lent b w [Ck.var 66 g2 ((([Value.int .i64 (0 : Int)] ++ [Value.int .i64 (0 : Int)]) ++ ([Value.bool false] ++ ([Value.int .i64 (0 : Int)] ++ ([Value.slice none 0 0] ++ ([Value.map none] ++ [Value.slice none 0 0]))))))] []) hb  hc62) ?_
            intro x63
            refine ls_on (j := 24) (t := 53) (b := false) rfl rfl (by kernel_rfl) (by kernel_rfl) ?_
            refine ls_val (v := .bool false) rfl rfl (by kernel_rfl) (fun w => by kernel_rfl) ?_
            refine ls_val (v := .bool false) rfl rfl (by kernel_rfl) (fun w => by kernel_rfl) ?_
            refine ls_val (v := .bool false) rfl rfl (by kernel_rfl) (fun w => by kernel_rfl) ?_
            refine ls_on (j := 29) (t := 58) (b := false) rfl rfl (by kernel_rfl) (by kernel_rfl) ?_
            refine ls_val (v := .pointer (some ⟨g2, 0, none⟩)) rfl rfl (by kernel_rfl) (fun w => by kernel_rfl) ?_
            refine ls_on (j := 29) (t := 58) (b := false) rfl rfl (by kernel_rfl) (by kernel_rfl) ?_
            have hc65 : alloc_Alloc_Waiting_szero0.f k = some (0 : Int) := rfl
            refine ls_callb (fid := 33) (vals := #[.pointer (some ⟨g2, 0, none⟩)]) (X := Unit) (fun x => .int .i64 (0 : Int)) (fun x => stl [Ck.var 66 g2 ((([Value.int .i64 (0 : Int)] ++ [Value.int .i64 (0 : Int)]) ++ ([Value.bool false] ++ ([Value.int .i64 (0 : Int)] ++ ([Value.slice none 0 0] ++ ([Value.map none] ++ [Value.slice none 0 0]))))))]) [1] [] [Ck.var 66 g2 ((([Value.int .i64 (0 : Int)] ++ [Value.int .i64 (0 : Int)]) ++ ([Value.bool false] ++ ([Value.int .i64 (0 : Int)] ++ ([Value.slice none 0 0] ++ ([Value.map none] ++ [Value.slice none 0 0]))))))] [] 4 rfl rfl (by kernel_rfl) (fun w => by kernel_rfl) ⟨by exact rfl, trivial⟩ trivial (by decide) (fun w hs hb => alloc_Alloc_Waiting_szero0.calls k g2 (0 : Int) (lent b w [Ck.var 66 g2 ((([Value.int .i64 (0 : Int)] ++ [Value.int .i64 (0 : Int)]) ++ ([Value.bool false] ++ ([Value.int .i64 (0 : Int)] ++ ([Value.slice none 0 0] ++ ([Value.map none] ++ [Value.slice none 0 0]))))))] []) hb  hc65) ?_
            intro x66
            refine ls_on (j := 29) (t := 58) (b := false) rfl rfl (by kernel_rfl) (by kernel_rfl) ?_
            refine ls_val (v := .bool false) rfl rfl (by kernel_rfl) (fun w => by kernel_rfl) ?_
            refine ls_val (v := .bool false) rfl rfl (by kernel_rfl) (fun w => by kernel_rfl) ?_
            refine ls_val (v := .bool false) rfl rfl (by kernel_rfl) (fun w => by kernel_rfl) ?_
            refine ls_on (j := 34) (t := 63) (b := false) rfl rfl (by kernel_rfl) (by kernel_rfl) ?_
            refine ls_val (v := .pointer (some ⟨g2, 0, none⟩)) rfl rfl (by kernel_rfl) (fun w => by kernel_rfl) ?_
            refine ls_on (j := 34) (t := 63) (b := false) rfl rfl (by kernel_rfl) (by kernel_rfl) ?_
            have hc68 : alloc_Alloc_Used_szero0.f k = some (0 : Int) := rfl
            refine ls_callb (fid := 29) (vals := #[.pointer (some ⟨g2, 0, none⟩)]) (X := Unit) (fun x => .int .i64 (0 : Int)) (fun x => stl [Ck.var 66 g2 ((([Value.int .i64 (0 : Int)] ++ [Value.int .i64 (0 : Int)]) ++ ([Value.bool false] ++ ([Value.int .i64 (0 : Int)] ++ ([Value.slice none 0 0] ++ ([Value.map none] ++ [Value.slice none 0 0]))))))]) [1] [] [Ck.var 66 g2 ((([Value.int .i64 (0 : Int)] ++ [Value.int .i64 (0 : Int)]) ++ ([Value.bool false] ++ ([Value.int .i64 (0 : Int)] ++ ([Value.slice none 0 0] ++ ([Value.map none] ++ [Value.slice none 0 0]))))))] [] 4 rfl rfl (by kernel_rfl) (fun w => by kernel_rfl) ⟨by exact rfl, trivial⟩ trivial (by decide) (fun w hs hb => alloc_Alloc_Used_szero0.calls k g2 (0 : Int) (lent b w [Ck.var 66 g2 ((([Value.int .i64 (0 : Int)] ++ [Value.int .i64 (0 : Int)]) ++ ([Value.bool false] ++ ([Value.int .i64 (0 : Int)] ++ ([Value.slice none 0 0] ++ ([Value.map none] ++ [Value.slice none 0 0]))))))] []) hb  hc68) ?_
            intro x69
            refine ls_on (j := 34) (t := 63) (b := false) rfl rfl (by kernel_rfl) (by kernel_rfl) ?_
            refine ls_val (v := .bool false) rfl rfl (by kernel_rfl) (fun w => by kernel_rfl) ?_
            refine ls_val (v := .bool false) rfl rfl (by kernel_rfl) (fun w => by kernel_rfl) ?_
            refine ls_val (v := .bool false) rfl rfl (by kernel_rfl) (fun w => by kernel_rfl) ?_
            refine ls_on (j := 39) (t := 68) (b := false) rfl rfl (by kernel_rfl) (by kernel_rfl) ?_
            refine ls_val (v := .pointer (some ⟨g2, 0, none⟩)) rfl rfl (by kernel_rfl) (fun w => by kernel_rfl) ?_
            refine ls_on (j := 39) (t := 68) (b := false) rfl rfl (by kernel_rfl) (by kernel_rfl) ?_
            obtain ⟨t70, hc71, H⟩ := bind_some H
            refine ls_callb (fid := 38) (vals := #[.pointer (some ⟨g2, 0, none⟩)]) (X := (Option Addr × Nat)) (fun x => .slice x.1 t70.length x.2) (fun x => stl [Ck.var 66 g2 ((([Value.int .i64 (0 : Int)] ++ [Value.int .i64 (0 : Int)]) ++ ([Value.bool false] ++ ([Value.int .i64 (0 : Int)] ++ ([Value.slice none 0 0] ++ ([Value.map none] ++ [Value.slice none 0 0])))))), Ck.sl T24 x.1 x.2 t70]) [1] [] [Ck.var 66 g2 ((([Value.int .i64 (0 : Int)] ++ [Value.int .i64 (0 : Int)]) ++ ([Value.bool false] ++ ([Value.int .i64 (0 : Int)] ++ ([Value.slice none 0 0] ++ ([Value.map none] ++ [Value.slice none 0 0]))))))] [] 4 rfl rfl (by kernel_rfl) (fun w => by kernel_rfl) ⟨by exact rfl, trivial⟩ trivial (by decide) (fun w hs hb => alloc_Alloc_Spans_szero0.calls k g2 t70 (lent b w [Ck.var 66 g2 ((([Value.int .i64 (0 : Int)] ++ [Value.int .i64 (0 : Int)]) ++ ([Value.bool false] ++ ([Value.int .i64 (0 : Int)] ++ ([Value.slice none 0 0] ++ ([Value.map none] ++ [Value.slice none 0 0]))))))] []) hb  hc71) ?_
            intro x72
            refine ls_on (j := 39) (t := 68) (b := false) rfl rfl (by kernel_rfl) (by kernel_rfl) ?_
            refine ls_val (v := .int .i64 (t70.length : Int)) rfl rfl (by kernel_rfl) (fun w => by kernel_rfl) ?_
            refine ls_on (j := 39) (t := 68) (b := false) rfl rfl (by kernel_rfl) (by kernel_rfl) ?_
            refine ls_val (v := .bool (!decide ((t70.length : Int) = (0 : Int)))) rfl rfl (by kernel_rfl) (fun w => by kernel_rfl) ?_
            refine ls_val (v := .bool (!decide ((t70.length : Int) = (0 : Int)))) rfl rfl (by kernel_rfl) (fun w => by kernel_rfl) ?_
            refine ls_end ?_
            refine qn_then ?_
            by_cases q73 : (t70.length : Int) = (0 : Int)
            · replace H := ite_t q73 H
              refine cs_know (c := false) (congrArg Bool.not (dec_t q73)) 73 (by kernel_rfl) ?_
              refine cs_false (by kernel_rfl) ?_
              refine cs_skip' ?_
              refine qn_block ?_
              refine qn_then ?_
              refine cs_region (l := [_, _]) ?_
              refine ls_val (v := .int .i64 (2 : Int)) rfl rfl (by kernel_rfl) (fun w => by kernel_rfl) ?_
              refine ls_val (v := .int .i64 (2 : Int)) rfl rfl (by kernel_rfl) (fun w => by kernel_rfl) ?_
              refine ls_end ?_
              refine qn_rounds ?_
              refine rs_succ ?_
              refine cs_seq ?_
              refine cs_region (l := [_]) ?_
              refine ls_val (v := .bool false) rfl rfl (by kernel_rfl) (fun w => by kernel_rfl) ?_
              refine ls_end ?_
              refine qn_then ?_
              refine cs_seq ?_
              refine cs_false (by kernel_rfl) ?_
              refine cs_exit' ?_
              refine qx_then ?_
              refine qx_then ?_
              refine qx_same ?_
              refine qn_then ?_
              refine cs_seq ?_
              refine cs_region (l := [_, _, _, _, _, _]) ?_
              obtain ⟨t74, hc75, H⟩ := bind_some H
              refine ls_callf (fid := 27) (vals := #[.int .i64 (0 : Int), .int .i64 (5 : Int), .int .i64 (0 : Int)]) (X := Nat × (Option Addr × Nat) × (Option Addr × Nat) × Nat × (Option Addr × Nat)) (fun x => .tuple #[.pointer (some ⟨x.1, 0, none⟩), .int .i64 t74.2]) (fun x => stl [Ck.var 66 x.1 ((([Value.int .i64 t74.1.1.1.1] ++ [Value.int .i64 t74.1.1.1.2]) ++ ([Value.bool t74.1.1.2.1] ++ ([Value.int .i64 t74.1.1.2.2.1] ++ ([Value.slice x.2.1.1 t74.1.1.2.2.2.1.length x.2.1.2] ++ ([Value.map (some x.2.2.2.1)] ++ [Value.slice x.2.2.1.1 t74.1.1.2.2.2.2.2.length x.2.2.1.2])))))), Ck.m1 x.2.2.2.1 t74.1.2.1 x.2.2.2.2.1 t74.1.2.2.length x.2.2.2.2.2, Ck.sl T24 x.2.2.2.2.1 x.2.2.2.2.2 t74.1.2.2]) (fun x B => (Ro B x.2.1.1 (em T24 t74.1.1.2.2.2.1) ∧ t74.1.1.2.2.2.1.length ≤ x.2.1.2) ∧ (Ro B x.2.2.1.1 (em T24 t74.1.1.2.2.2.2.2) ∧ t74.1.1.2.2.2.2.2.length ≤ x.2.2.1.2)) [] [] 5 rfl rfl (by kernel_rfl) (fun w => by kernel_rfl) trivial (by decide) (fun x b b' h hf => ⟨⟨h _ _ hf.1.1, hf.1.2⟩, ⟨h _ _ hf.2.1, hf.2.2⟩⟩) (fun w hs hb => alloc_New.calls k (0 : Int) (5 : Int) (0 : Int) t74 (lent b w [] []) hb  hc75) ?_
              intro x76 bs81 hle82 hok83 hf84
              obtain ⟨⟨fR77, fC78⟩, ⟨fR79, fC80⟩⟩ := hf84
              refine ls_val (v := .tuple #[.pointer (some ⟨x76.1, 0, none⟩), .int .i64 t74.2]) rfl rfl (by kernel_rfl) (fun w => by kernel_rfl) ?_
              refine ls_val (v := .pointer (some ⟨x76.1, 0, none⟩)) rfl rfl (by kernel_rfl) (fun w => by kernel_rfl) ?_
              refine ls_val (v := .int .i64 t74.2) rfl rfl (by kernel_rfl) (fun w => by kernel_rfl) ?_
              refine ls_val (v := .pointer (some ⟨x76.1, 0, none⟩)) rfl rfl (by kernel_rfl) (fun w => by kernel_rfl) ?_
              refine ls_val (v := .int .i64 t74.2) rfl rfl (by kernel_rfl) (fun w => by kernel_rfl) ?_
              refine ls_end ?_
              refine qn_then ?_
              refine cs_seq ?_
              refine cs_region (l := [_, _, _, _, _, _, _, _]) ?_
              refine ls_val (v := .int .i64 t74.2) rfl rfl (by kernel_rfl) (fun w => by kernel_rfl) ?_
              refine ls_val (v := .bool (decide (t74.2 = (0 : Int)))) rfl rfl (by kernel_rfl) (fun w => by kernel_rfl) ?_
              refine ls_val (v := .bool (decide (t74.2 = (0 : Int)))) rfl rfl (by kernel_rfl) (fun w => by kernel_rfl) ?_
              by_cases q85 : t74.2 = (0 : Int)
              · replace H := ite_t q85 H
                refine ls_know (c := true) (dec_t q85) 81 (by kernel_rfl) ?_
                refine ls_on (j := 2) (t := 81) (b := true) rfl rfl (by kernel_rfl) (by kernel_rfl) ?_
                refine ls_val (v := .pointer (some ⟨x76.1, 0, none⟩)) rfl rfl (by kernel_rfl) (fun w => by kernel_rfl) ?_
                refine ls_on (j := 2) (t := 81) (b := true) rfl rfl (by kernel_rfl) (by kernel_rfl) ?_
                obtain ⟨t86, hc87, H⟩ := bind_some H
                refine ls_callb (fid := 32) (vals := #[.pointer (some ⟨x76.1, 0, none⟩)]) (X := Unit) (fun x => .int .i64 t86) (fun x => stl [Ck.var 66 x76.1 ((([Value.int .i64 t74.1.1.1.1] ++ [Value.int .i64 t74.1.1.1.2]) ++ ([Value.bool t74.1.1.2.1] ++ ([Value.int .i64 t74.1.1.2.2.1] ++ ([Value.slice x76.2.1.1 t74.1.1.2.2.2.1.length x76.2.1.2] ++ ([Value.map (some x76.2.2.2.1)] ++ [Value.slice x76.2.2.1.1 t74.1.1.2.2.2.2.2.length x76.2.2.1.2])))))), Ck.m1 x76.2.2.2.1 t74.1.2.1 x76.2.2.2.2.1 t74.1.2.2.length x76.2.2.2.2.2, Ck.sl T24 x76.2.2.2.2.1 x76.2.2.2.2.2 t74.1.2.2]) [5, 6, 7] [] [Ck.var 66 x76.1 ((([Value.int .i64 t74.1.1.1.1] ++ [Value.int .i64 t74.1.1.1.2]) ++ ([Value.bool t74.1.1.2.1] ++ ([Value.int .i64 t74.1.1.2.2.1] ++ ([Value.slice x76.2.1.1 t74.1.1.2.2.2.1.length x76.2.1.2] ++ ([Value.map (some x76.2.2.2.1)] ++ [Value.slice x76.2.2.1.1 t74.1.1.2.2.2.2.2.length x76.2.2.1.2])))))), Ck.m1 x76.2.2.2.1 t74.1.2.1 x76.2.2.2.2.1 t74.1.2.2.length x76.2.2.2.2.2, Ck.sl T24 x76.2.2.2.2.1 x76.2.2.2.2.2 t74.1.2.2] [] 8 rfl rfl (by kernel_rfl) (fun w => by kernel_rfl) ⟨by exact rfl, by exact rfl, by exact rfl, trivial⟩ trivial (by decide) (fun w hs hb => alloc_Alloc_Free.calls k x76.1 x76.2.1.1 x76.2.1.2 x76.2.2.2.1 x76.2.2.1.1 x76.2.2.1.2 (t74.1.1.1, t74.1.1.2.1, t74.1.1.2.2.1, t74.1.1.2.2.2.1, (), t74.1.1.2.2.2.2.2) x76.2.2.2.2.1 x76.2.2.2.2.2 (t74.1.2.1, t74.1.2.2) t86 (lent bs81 w [Ck.var 66 x76.1 ((([Value.int .i64 t74.1.1.1.1] ++ [Value.int .i64 t74.1.1.1.2]) ++ ([Value.bool t74.1.1.2.1] ++ ([Value.int .i64 t74.1.1.2.2.1] ++ ([Value.slice x76.2.1.1 t74.1.1.2.2.2.1.length x76.2.1.2] ++ ([Value.map (some x76.2.2.2.1)] ++ [Value.slice x76.2.2.1.1 t74.1.1.2.2.2.2.2.length x76.2.2.1.2])))))), Ck.m1 x76.2.2.2.1 t74.1.2.1 x76.2.2.2.2.1 t74.1.2.2.length x76.2.2.2.2.2, Ck.sl T24 x76.2.2.2.2.1 x76.2.2.2.2.2 t74.1.2.2] []) hb (hs.ro fR77 _ _) fC78 (hs.ro fR79 _ _) fC80 hc87) ?_
                intro x88
                refine ls_on (j := 2) (t := 81) (b := true) rfl rfl (by kernel_rfl) (by kernel_rfl) ?_
                refine ls_val (v := .bool (decide (t86 = (5 : Int)))) rfl rfl (by kernel_rfl) (fun w => by kernel_rfl) ?_
                refine ls_val (v := .bool (decide (t86 = (5 : Int)))) rfl rfl (by kernel_rfl) (fun w => by kernel_rfl) ?_
                refine ls_val (v := .bool (decide (t86 = (5 : Int)))) rfl rfl (by kernel_rfl) (fun w => by kernel_rfl) ?_
                refine ls_end ?_
                refine qn_then ?_
                refine cs_ret' ?_
                obtain rfl := Option.some.inj H
                refine qr_res (rs := [_]) rfl (fun w' hs => ⟨[.bool (decide (t86 = (5 : Int)))], (res_tmp (by kernel_rfl) (.nil)), (), rfl, St.later hs0.ok hle82 (hs.pick (ts := []) (cs := []) trivial (by decide))⟩)
              · replace H := ite_f q85 H
                refine ls_know (c := false) (dec_f q85) 81 (by kernel_rfl) ?_
                refine ls_off (j := 2) (t := 81) (b := true) (c := false) rfl rfl (by kernel_rfl) (by kernel_rfl) rfl rfl (by kernel_rfl) ?_
                refine ls_off (j := 2) (t := 81) (b := true) (c := false) rfl rfl (by kernel_rfl) (by kernel_rfl) rfl rfl (by kernel_rfl) ?_
                refine ls_off (j := 2) (t := 81) (b := true) (c := false) rfl rfl (by kernel_rfl) (by kernel_rfl) rfl rfl (by kernel_rfl) ?_
                refine ls_val (v := .bool false) rfl rfl (by kernel_rfl) (fun w => by kernel_rfl) ?_
                refine ls_val (v := .bool false) rfl rfl (by kernel_rfl) (fun w => by kernel_rfl) ?_
                refine ls_end ?_
                refine qn_then ?_
                refine cs_ret' ?_
                obtain rfl := Option.some.inj H
                refine qr_res (rs := [_]) rfl (fun w' hs => ⟨[.bool false], (res_tmp (by kernel_rfl) (.nil)), (), rfl, St.later hs0.ok hle82 (hs.pick (ts := []) (cs := []) trivial (by decide))⟩)
            · replace H := ite_f q73 H
              refine cs_know (c := true) (congrArg Bool.not (dec_f q73)) 73 (by kernel_rfl) ?_
              refine cs_true (by kernel_rfl) ?_
              refine cs_seq ?_
              refine cs_region (l := [_]) ?_
              refine ls_val (v := .bool false) rfl rfl (by kernel_rfl) (fun w => by kernel_rfl) ?_
              refine ls_end ?_
              refine qn_then ?_
              refine cs_ret' ?_
              refine qr_block ?_
              refine qr_then ?_
              refine qr_then ?_
              refine qr_block ?_
              refine qr_then ?_
              obtain rfl := Option.some.inj H
              refine qr_res (rs := [_]) rfl (fun w' hs => ⟨[.bool false], (res_tmp (by kernel_rfl) (.nil)), (), rfl, hs.pick (ts := []) (cs := []) trivial (by decide)⟩)
          · replace H := ite_f q51 H
            refine ls_know (c := true) (congrArg Bool.not (dec_f q51)) 35 (by kernel_rfl) ?_
            refine ls_off (j := 6) (t := 35) (b := false) (c := true) rfl rfl (by kernel_rfl) (by kernel_rfl) rfl rfl (by kernel_rfl) ?_
            refine ls_off (j := 6) (t := 35) (b := false) (c := true) rfl rfl (by kernel_rfl) (by kernel_rfl) rfl rfl (by kernel_rfl) ?_
            refine ls_off (j := 6) (t := 35) (b := false) (c := true) rfl rfl (by kernel_rfl) (by kernel_rfl) rfl rfl (by kernel_rfl) ?_
            refine ls_off (j := 6) (t := 35) (b := false) (c := true) rfl rfl (by kernel_rfl) (by kernel_rfl) rfl rfl (by kernel_rfl) ?_
            refine ls_val (v := .bool true) rfl rfl (by kernel_rfl) (fun w => by kernel_rfl) ?_
            refine ls_val (v := .bool true) rfl rfl (by kernel_rfl) (fun w => by kernel_rfl) ?_
            refine ls_off (j := 12) (t := 41) (b := false) (c := true) rfl rfl (by kernel_rfl) (by kernel_rfl) rfl rfl (by kernel_rfl) ?_
            refine ls_off (j := 12) (t := 41) (b := false) (c := true) rfl rfl (by kernel_rfl) (by kernel_rfl) rfl rfl (by kernel_rfl) ?_
            refine ls_off (j := 12) (t := 41) (b := false) (c := true) rfl rfl (by kernel_rfl) (by kernel_rfl) rfl rfl (by kernel_rfl) ?_
            refine ls_off (j := 12) (t := 41) (b := false) (c := true) rfl rfl (by kernel_rfl) (by kernel_rfl) rfl rfl (by kernel_rfl) ?_
            refine ls_val (v := .bool true) rfl rfl (by kernel_rfl) (fun w => by kernel_rfl) ?_
            refine ls_val (v := .bool true) rfl rfl (by kernel_rfl) (fun w => by kernel_rfl) ?_
            refine ls_off (j := 18) (t := 47) (b := false) (c := true) rfl rfl (by kernel_rfl) (by kernel_rfl) rfl rfl (by kernel_rfl) ?_
            refine ls_off (j := 18) (t := 47) (b := false) (c := true) rfl rfl (by kernel_rfl) (by kernel_rfl) rfl rfl (by kernel_rfl) ?_
            refine ls_off (j := 18) (t := 47) (b := false) (c := true) rfl rfl (by kernel_rfl) (by kernel_rfl) rfl rfl (by kernel_rfl) ?_
            refine ls_off (j := 18) (t := 47) (b := false) (c := true) rfl rfl (by kernel_rfl) (by kernel_rfl) rfl rfl (by kernel_rfl) ?_
            refine ls_val (v := .bool true) rfl rfl (by kernel_rfl) (fun w => by kernel_rfl) ?_
            refine ls_val (v := .bool true) rfl rfl (by kernel_rfl) (fun w => by kernel_rfl) ?_
            refine ls_off (j := 24) (t := 53) (b := false) (c := true) rfl rfl (by kernel_rfl) (by kernel_rfl) rfl rfl (by kernel_rfl) ?_
            refine ls_off (j := 24) (t := 53) (b := false) (c := true) rfl rfl (by kernel_rfl) (by kernel_rfl) rfl rfl (by kernel_rfl) ?_
            refine ls_off (j := 24) (t := 53) (b := false) (c := true) rfl rfl (by kernel_rfl) (by kernel_rfl) rfl rfl (by kernel_rfl) ?_
            refine ls_val (v := .bool true) rfl rfl (by kernel_rfl) (fun w => by kernel_rfl) ?_
            refine ls_val (v := .bool true) rfl rfl (by kernel_rfl) (fun w => by kernel_rfl) ?_
            refine ls_off (j := 29) (t := 58) (b := false) (c := true) rfl rfl (by kernel_rfl) (by kernel_rfl) rfl rfl (by kernel_rfl) ?_
            refine ls_off (j := 29) (t := 58) (b := false) (c := true) rfl rfl (by kernel_rfl) (by kernel_rfl) rfl rfl (by kernel_rfl) ?_
            refine ls_off (j := 29) (t := 58) (b := false) (c := true) rfl rfl (by kernel_rfl) (by kernel_rfl) rfl rfl (by kernel_rfl) ?_
            refine ls_val (v := .bool true) rfl rfl (by kernel_rfl) (fun w => by kernel_rfl) ?_
            refine ls_val (v := .bool true) rfl rfl (by kernel_rfl) (fun w => by kernel_rfl) ?_
            refine ls_off (j := 34) (t := 63) (b := false) (c := true) rfl rfl (by kernel_rfl) (by kernel_rfl) rfl rfl (by kernel_rfl) ?_
            refine ls_off (j := 34) (t := 63) (b := false) (c := true) rfl rfl (by kernel_rfl) (by kernel_rfl) rfl rfl (by kernel_rfl) ?_
            refine ls_off (j := 34) (t := 63) (b := false) (c := true) rfl rfl (by kernel_rfl) (by kernel_rfl) rfl rfl (by kernel_rfl) ?_
            refine ls_val (v := .bool true) rfl rfl (by kernel_rfl) (fun w => by kernel_rfl) ?_
            refine ls_val (v := .bool true) rfl rfl (by kernel_rfl) (fun w => by kernel_rfl) ?_
            refine ls_off (j := 39) (t := 68) (b := false) (c := true) rfl rfl (by kernel_rfl) (by kernel_rfl) rfl rfl (by kernel_rfl) ?_
            refine ls_off (j := 39) (t := 68) (b := false) (c := true) rfl rfl (by kernel_rfl) (by kernel_rfl) rfl rfl (by kernel_rfl) ?_
            refine ls_off (j := 39) (t := 68) (b := false) (c := true) rfl rfl (by kernel_rfl) (by kernel_rfl) rfl rfl (by kernel_rfl) ?_
            refine ls_off (j := 39) (t := 68) (b := false) (c := true) rfl rfl (by kernel_rfl) (by kernel_rfl) rfl rfl (by kernel_rfl) ?_
            refine ls_val (v := .bool true) rfl rfl (by kernel_rfl) (fun w => by kernel_rfl) ?_
            refine ls_end ?_
            refine qn_then ?_
            refine cs_true (by kernel_rfl) ?_
            refine cs_seq ?_
            refine cs_region (l := [_]) ?_
            refine ls_val (v := .bool false) rfl rfl (by kernel_rfl) (fun w => by kernel_rfl) ?_
            refine ls_end ?_
            refine qn_then ?_
            refine cs_ret' ?_
            refine qr_block ?_
            refine qr_then ?_
            refine qr_then ?_
            refine qr_block ?_
            refine qr_then ?_
            obtain rfl := Option.some.inj H
            refine qr_res (rs := [_]) rfl (fun w' hs => ⟨[.bool false], (res_tmp (by kernel_rfl) (.nil)), (), rfl, hs.pick (ts := []) (cs := []) trivial (by decide)⟩)
        · replace H := ite_f q50 H
          refine ls_know (c := true) (congrArg Bool.not (dec_f q50)) 31 (by kernel_rfl) ?_
          refine ls_off (j := 2) (t := 31) (b := false) (c := true) rfl rfl (by kernel_rfl) (by kernel_rfl) rfl rfl (by kernel_rfl) ?_
          refine ls_off (j := 2) (t := 31) (b := false) (c := true) rfl rfl (by kernel_rfl) (by kernel_rfl) rfl rfl (by kernel_rfl) ?_
          refine ls_val (v := .bool true) rfl rfl (by kernel_rfl) (fun w => by kernel_rfl) ?_
          refine ls_val (v := .bool true) rfl rfl (by kernel_rfl) (fun w => by kernel_rfl) ?_
          refine ls_off (j := 6) (t := 35) (b := false) (c := true) rfl rfl (by kernel_rfl) (by kernel_rfl) rfl rfl (by kernel_rfl) ?_
          refine ls_off (j := 6) (t := 35) (b := false) (c := true) rfl rfl (by kernel_rfl) (by kernel_rfl) rfl rfl (by kernel_rfl) ?_
          refine ls_off (j := 6) (t := 35) (b := false) (c := true) rfl rfl (by kernel_rfl) (by kernel_rfl) rfl rfl (by kernel_rfl) ?_
          refine ls_off (j := 6) (t := 35) (b := false) (c := true) rfl rfl (by kernel_rfl) (by kernel_rfl) rfl rfl (by kernel_rfl) ?_
          refine ls_val (v := .bool true) rfl rfl (by kernel_rfl) (fun w => by kernel_rfl) ?_
          refine ls_val (v := .bool true) rfl rfl (by kernel_rfl) (fun w => by kernel_rfl) ?_
          refine ls_off (j := 12) (t := 41) (b := false) (c := true) rfl rfl (by kernel_rfl) (by kernel_rfl) rfl rfl (by kernel_rfl) ?_
          refine ls_off (j := 12) (t := 41) (b := false) (c := true) rfl rfl (by kernel_rfl) (by kernel_rfl) rfl rfl (by kernel_rfl) ?_
          refine ls_off (j := 12) (t := 41) (b := false) (c := true) rfl rfl (by kernel_rfl) (by kernel_rfl) rfl rfl (by kernel_rfl) ?_
          refine ls_off (j := 12) (t := 41) (b := false) (c := true) rfl rfl (by kernel_rfl) (by kernel_rfl) rfl rfl (by kernel_rfl) ?_
          refine ls_val (v := .bool true) rfl rfl (by kernel_rfl) (fun w => by kernel_rfl) ?_
          refine ls_val (v := .bool true) rfl rfl (by kernel_rfl) (fun w => by kernel_rfl) ?_
          refine ls_off (j := 18) (t := 47) (b := false) (c := true) rfl rfl (by kernel_rfl) (by kernel_rfl) rfl rfl (by kernel_rfl) ?_
          refine ls_off (j := 18) (t := 47) (b := false) (c := true) rfl rfl (by kernel_rfl) (by kernel_rfl) rfl rfl (by kernel_rfl) ?_
          refine ls_off (j := 18) (t := 47) (b := false) (c := true) rfl rfl (by kernel_rfl) (by kernel_rfl) rfl rfl (by kernel_rfl) ?_
          refine ls_off (j := 18) (t := 47) (b := false) (c := true) rfl rfl (by kernel_rfl) (by kernel_rfl) rfl rfl (by kernel_rfl) ?_
          refine ls_val (v := .bool true) rfl rfl (by kernel_rfl) (fun w => by kernel_rfl) ?_
          refine ls_val (v := .bool true) rfl rfl (by kernel_rfl) (fun w => by kernel_rfl) ?_
          refine ls_off (j := 24) (t := 53) (b := false) (c := true) rfl rfl (by kernel_rfl) (by kernel_rfl) rfl rfl (by kernel_rfl) ?_
          refine ls_off (j := 24) (t := 53) (b := false) (c := true) rfl rfl (by kernel_rfl) (by kernel_rfl) rfl rfl (by kernel_rfl) ?_
          refine ls_off (j := 24) (t := 53) (b := false) (c := true) rfl rfl (by kernel_rfl) (by kernel_rfl) rfl rfl (by kernel_rfl) ?_
          refine ls_val (v := .bool true) rfl rfl (by kernel_rfl) (fun w => by kernel_rfl) ?_
          refine ls_val (v := .bool true) rfl rfl (by kernel_rfl) (fun w => by kernel_rfl) ?_
          refine ls_off (j := 29) (t := 58) (b := false) (c := true) rfl rfl (by kernel_rfl) (by kernel_rfl) rfl rfl (by kernel_rfl) ?_
          refine ls_off (j := 29) (t := 58) (b := false) (c := true) rfl rfl (by kernel_rfl) (by kernel_rfl) rfl rfl (by kernel_rfl) ?_
          refine ls_off (j := 29) (t := 58) (b := false) (c := true) rfl rfl (by kernel_rfl) (by kernel_rfl) rfl rfl (by kernel_rfl) ?_
          refine ls_val (v := .bool true) rfl rfl (by kernel_rfl) (fun w => by kernel_rfl) ?_
          refine ls_val (v := .bool true) rfl rfl (by kernel_rfl) (fun w => by kernel_rfl) ?_
          refine ls_off (j := 34) (t := 63) (b := false) (c := true) rfl rfl (by kernel_rfl) (by kernel_rfl) rfl rfl (by kernel_rfl) ?_
          refine ls_off (j := 34) (t := 63) (b := false) (c := true) rfl rfl (by kernel_rfl) (by kernel_rfl) rfl rfl (by kernel_rfl) ?_
          refine ls_off (j := 34) (t := 63) (b := false) (c := true) rfl rfl (by kernel_rfl) (by kernel_rfl) rfl rfl (by kernel_rfl) ?_
          refine ls_val (v := .bool true) rfl rfl (by kernel_rfl) (fun w => by kernel_rfl) ?_
          refine ls_val (v := .bool true) rfl rfl (by kernel_rfl) (fun w => by kernel_rfl) ?_
          refine ls_off (j := 39) (t := 68) (b := false) (c := true) rfl rfl (by kernel_rfl) (by kernel_rfl) rfl rfl (by kernel_rfl) ?_
          refine ls_off (j := 39) (t := 68) (b := false) (c := true) rfl rfl (by kernel_rfl) (by kernel_rfl) rfl rfl (by kernel_rfl) ?_
          refine ls_off (j := 39) (t := 68) (b := false) (c := true) rfl rfl (by kernel_rfl) (by kernel_rfl) rfl rfl (by kernel_rfl) ?_
          refine ls_off (j := 39) (t := 68) (b := false) (c := true) rfl rfl (by kernel_rfl) (by kernel_rfl) rfl rfl (by kernel_rfl) ?_
          refine ls_val (v := .bool true) rfl rfl (by kernel_rfl) (fun w => by kernel_rfl) ?_
          refine ls_end ?_
          refine qn_then ?_
          refine cs_true (by kernel_rfl) ?_
          refine cs_seq ?_
          refine cs_region (l := [_]) ?_
          refine ls_val (v := .bool false) rfl rfl (by kernel_rfl) (fun w => by kernel_rfl) ?_
          refine ls_end ?_
          refine qn_then ?_
          refine cs_ret' ?_
          refine qr_block ?_
          refine qr_then ?_
          refine qr_then ?_
          refine qr_block ?_
          refine qr_then ?_
          obtain rfl := Option.some.inj H
          refine qr_res (rs := [_]) rfl (fun w' hs => ⟨[.bool false], (res_tmp (by kernel_rfl) (.nil)), (), rfl, hs.pick (ts := []) (cs := []) trivial (by decide)⟩)
      · replace H := ite_f q38 H
        refine cs_know (c := true) (congrArg Bool.not (dec_f q38)) 73 (by kernel_rfl) ?_
        refine cs_true (by kernel_rfl) ?_
        refine cs_seq ?_
        refine cs_region (l := [_]) ?_
        refine ls_val (v := .bool false) rfl rfl (by kernel_rfl) (fun w => by kernel_rfl) ?_
        refine ls_end ?_
        refine qn_then ?_
        refine cs_ret' ?_
        refine qr_block ?_
        refine qr_then ?_
        refine qr_then ?_
        refine qr_block ?_
        refine qr_then ?_
        obtain rfl := Option.some.inj H
        refine qr_res (rs := [_]) rfl (fun w' hs => ⟨[.bool false], (res_tmp (by kernel_rfl) (.nil)), (), rfl, hs.pick (ts := []) (cs := []) trivial (by decide)⟩)
    · replace H := ite_f q16 H
      refine ls_know (c := true) (congrArg Bool.not (dec_f q16)) 35 (by kernel_rfl) ?_
      refine ls_off (j := 6) (t := 35) (b := false) (c := true) rfl rfl (by kernel_rfl) (by kernel_rfl) rfl rfl (by kernel_rfl) ?_
      refine ls_off (j := 6) (t := 35) (b := false) (c := true) rfl rfl (by kernel_rfl) (by kernel_rfl) rfl rfl (by kernel_rfl) ?_
      refine ls_off (j := 6) (t := 35) (b := false) (c := true) rfl rfl (by kernel_rfl) (by kernel_rfl) rfl rfl (by kernel_rfl) ?_
      refine ls_off (j := 6) (t := 35) (b := false) (c := true) rfl rfl (by kernel_rfl) (by kernel_rfl) rfl rfl (by kernel_rfl) ?_
      refine ls_val (v := .bool true) rfl rfl (by kernel_rfl) (fun w => by kernel_rfl) ?_
      refine ls_val (v := .bool true) rfl rfl (by kernel_rfl) (fun w => by kernel_rfl) ?_
      refine ls_off (j := 12) (t := 41) (b := false) (c := true) rfl rfl (by kernel_rfl) (by kernel_rfl) rfl rfl (by kernel_rfl) ?_
      refine ls_off (j := 12) (t := 41) (b := false) (c := true) rfl rfl (by kernel_rfl) (by kernel_rfl) rfl rfl (by kernel_rfl) ?_
      refine ls_off (j := 12) (t := 41) (b := false) (c := true) rfl rfl (by kernel_rfl) (by kernel_rfl) rfl rfl (by kernel_rfl) ?_
      refine ls_off (j := 12) (t := 41) (b := false) (c := true) rfl rfl (by kernel_rfl) (by kernel_rfl) rfl rfl (by kernel_rfl) ?_
      refine ls_val (v := .bool true) rfl rfl (by kernel_rfl) (fun w => by kernel_rfl) ?_
      refine ls_val (v := .bool true) rfl rfl (by kernel_rfl) (fun w => by kernel_rfl) ?_
      refine ls_off (j := 18) (t := 47) (b := false) (c := true) rfl rfl (by kernel_rfl) (by kernel_rfl) rfl rfl (by kernel_rfl) ?_
      refine ls_off (j := 18) (t := 47) (b := false) (c := true) rfl rfl (by kernel_rfl) (by kernel_rfl) rfl rfl (by kernel_rfl) ?_
      refine ls_off (j := 18) (t := 47) (b := false) (c := true) rfl rfl (by kernel_rfl) (by kernel_rfl) rfl rfl (by kernel_rfl) ?_
      refine ls_off (j := 18) (t := 47) (b := false) (c := true) rfl rfl (by kernel_rfl) (by kernel_rfl) rfl rfl (by kernel_rfl) ?_
      refine ls_val (v := .bool true) rfl rfl (by kernel_rfl) (fun w => by kernel_rfl) ?_
      refine ls_val (v := .bool true) rfl rfl (by kernel_rfl) (fun w => by kernel_rfl) ?_
      refine ls_off (j := 24) (t := 53) (b := false) (c := true) rfl rfl (by kernel_rfl) (by kernel_rfl) rfl rfl (by kernel_rfl) ?_
      refine ls_off (j := 24) (t := 53) (b := false) (c := true) rfl rfl (by kernel_rfl) (by kernel_rfl) rfl rfl (by kernel_rfl) ?_
      refine ls_off (j := 24) (t := 53) (b := false) (c := true) rfl rfl (by kernel_rfl) (by kernel_rfl) rfl rfl (by kernel_rfl) ?_
      refine ls_val (v := .bool true) rfl rfl (by kernel_rfl) (fun w => by kernel_rfl) ?_
      refine ls_val (v := .bool true) rfl rfl (by kernel_rfl) (fun w => by kernel_rfl) ?_
      refine ls_off (j := 29) (t := 58) (b := false) (c := true) rfl rfl (by kernel_rfl) (by kernel_rfl) rfl rfl (by kernel_rfl) ?_
      refine ls_off (j := 29) (t := 58) (b := false) (c := true) rfl rfl (by kernel_rfl) (by kernel_rfl) rfl rfl (by kernel_rfl) ?_
      refine ls_off (j := 29) (t := 58) (b := false) (c := true) rfl rfl (by kernel_rfl) (by kernel_rfl) rfl rfl (by kernel_rfl) ?_
      refine ls_val (v := .bool true) rfl rfl (by kernel_rfl) (fun w => by kernel_rfl) ?_
      refine ls_val (v := .bool true) rfl rfl (by kernel_rfl) (fun w => by kernel_rfl) ?_
      refine ls_off (j := 34) (t := 63) (b := false) (c := true) rfl rfl (by kernel_rfl) (by kernel_rfl) rfl rfl (by kernel_rfl) ?_
      refine ls_off (j := 34) (t := 63) (b := false) (c := true) rfl rfl (by kernel_rfl) (by kernel_rfl) rfl rfl (by kernel_rfl) ?_
      refine ls_off (j := 34) (t := 63) (b := false) (c := true) rfl rfl (by kernel_rfl) (by kernel_rfl) rfl rfl (by kernel_rfl) ?_
      refine ls_val (v := .bool true) rfl rfl (by kernel_rfl) (fun w => by kernel_rfl) ?_
      refine ls_val (v := .bool true) rfl rfl (by kernel_rfl) (fun w => by kernel_rfl) ?_
      refine ls_off (j := 39) (t := 68) (b := false) (c := true) rfl rfl (by kernel_rfl) (by kernel_rfl) rfl rfl (by kernel_rfl) ?_
      refine ls_off (j := 39) (t := 68) (b := false) (c := true) rfl rfl (by kernel_rfl) (by kernel_rfl) rfl rfl (by kernel_rfl) ?_
      refine ls_off (j := 39) (t := 68) (b := false) (c := true) rfl rfl (by kernel_rfl) (by kernel_rfl) rfl rfl (by kernel_rfl) ?_
      refine ls_off (j := 39) (t := 68) (b := false) (c := true) rfl rfl (by kernel_rfl) (by kernel_rfl) rfl rfl (by kernel_rfl) ?_
      refine ls_val (v := .bool true) rfl rfl (by kernel_rfl) (fun w => by kernel_rfl) ?_
      refine ls_end ?_
      refine qn_then ?_
      refine cs_true (by kernel_rfl) ?_
      refine cs_seq ?_
      refine cs_region (l := [_]) ?_
      refine ls_val (v := .bool false) rfl rfl (by kernel_rfl) (fun w => by kernel_rfl) ?_
      refine ls_end ?_
      refine qn_then ?_
      refine cs_ret' ?_
      refine qr_block ?_
      refine qr_then ?_
      refine qr_then ?_
      refine qr_block ?_
      refine qr_then ?_
      obtain rfl := Option.some.inj H
      refine qr_res (rs := [_]) rfl (fun w' hs => ⟨[.bool false], (res_tmp (by kernel_rfl) (.nil)), (), rfl, hs.pick (ts := []) (cs := []) trivial (by decide)⟩)
  · replace H := ite_f q15 H
    refine ls_know (c := true) (congrArg Bool.not (dec_f q15)) 31 (by kernel_rfl) ?_
    refine ls_off (j := 2) (t := 31) (b := false) (c := true) rfl rfl (by kernel_rfl) (by kernel_rfl) rfl rfl (by kernel_rfl) ?_
    refine ls_off (j := 2) (t := 31) (b := false) (c := true) rfl rfl (by kernel_rfl) (by kernel_rfl) rfl rfl (by kernel_rfl) ?_
    refine ls_val (v := .bool true) rfl rfl (by kernel_rfl) (fun w => by kernel_rfl) ?_
    refine ls_val (v := .bool true) rfl rfl (by kernel_rfl) (fun w => by kernel_rfl) ?_
    refine ls_off (j := 6) (t := 35) (b := false) (c := true) rfl rfl (by kernel_rfl) (by kernel_rfl) rfl rfl (by kernel_rfl) ?_
    refine ls_off (j := 6) (t := 35) (b := false) (c := true) rfl rfl (by kernel_rfl) (by kernel_rfl) rfl rfl (by kernel_rfl) ?_
    refine ls_off (j := 6) (t := 35) (b := false) (c := true) rfl rfl (by kernel_rfl) (by kernel_rfl) rfl rfl (by kernel_rfl) ?_
    refine ls_off (j := 6) (t := 35) (b := false) (c := true) rfl rfl (by kernel_rfl) (by kernel_rfl) rfl rfl (by kernel_rfl) ?_
    refine ls_val (v := .bool true) rfl rfl (by kernel_rfl) (fun w => by kernel_rfl) ?_
    refine ls_val (v := .bool true) rfl rfl (by kernel_rfl) (fun w => by kernel_rfl) ?_
    refine ls_off (j := 12) (t := 41) (b := false) (c := true) rfl rfl (by kernel_rfl) (by kernel_rfl) rfl rfl (by kernel_rfl) ?_
    refine ls_off (j := 12) (t := 41) (b := false) (c := true) rfl rfl (by kernel_rfl) (by kernel_rfl) rfl rfl (by kernel_rfl) ?_
    refine ls_off (j := 12) (t := 41) (b := false) (c := true) rfl rfl (by kernel_rfl) (by kernel_rfl) rfl rfl (by kernel_rfl) ?_
    refine ls_off (j := 12) (t := 41) (b := false) (c := true) rfl rfl (by kernel_rfl) (by kernel_rfl) rfl rfl (by kernel_rfl) ?_
    refine ls_val (v := .bool true) rfl rfl (by kernel_rfl) (fun w => by kernel_rfl) ?_
    refine ls_val (v := .bool true) rfl rfl (by kernel_rfl) (fun w => by kernel_rfl) ?_
    refine ls_off (j := 18) (t := 47) (b := false) (c := true) rfl rfl (by kernel_rfl) (by kernel_rfl) rfl rfl (by kernel_rfl) ?_
    refine ls_off (j := 18) (t := 47) (b := false) (c := true) rfl rfl (by kernel_rfl) (by kernel_rfl) rfl rfl (by kernel_rfl) ?_
    refine ls_off (j := 18) (t := 47) (b := false) (c := true) rfl rfl (by kernel_rfl) (by kernel_rfl) rfl rfl (by kernel_rfl) ?_
    refine ls_off (j := 18) (t := 47) (b := false) (c := true) rfl rfl (by kernel_rfl) (by kernel_rfl) rfl rfl (by kernel_rfl) ?_
    refine ls_val (v := .bool true) rfl rfl (by kernel_rfl) (fun w => by kernel_rfl) ?_
    refine ls_val (v := .bool true) rfl rfl (by kernel_rfl) (fun w => by kernel_rfl) ?_
    refine ls_off (j := 24) (t := 53) (b := false) (c := true) rfl rfl (by kernel_rfl) (by kernel_rfl) rfl rfl (by kernel_rfl) ?_
    refine ls_off (j := 24) (t := 53) (b := false) (c := true) rfl rfl (by kernel_rfl) (by kernel_rfl) rfl rfl (by kernel_rfl) ?_
    refine ls_off (j := 24) (t := 53) (b := false) (c := true) rfl rfl (by kernel_rfl) (by kernel_rfl) rfl rfl (by kernel_rfl) ?_
    refine ls_val (v := .bool true) rfl rfl (by kernel_rfl) (fun w => by kernel_rfl) ?_
    refine ls_val (v := .bool true) rfl rfl (by kernel_rfl) (fun w => by kernel_rfl) ?_
    refine ls_off (j := 29) (t := 58) (b := false) (c := true) rfl rfl (by kernel_rfl) (by kernel_rfl) rfl rfl (by kernel_rfl) ?_
    refine ls_off (j := 29) (t := 58) (b := false) (c := true) rfl rfl (by kernel_rfl) (by kernel_rfl) rfl rfl (by kernel_rfl) ?_
    refine ls_off (j := 29) (t := 58) (b := false) (c := true) rfl rfl (by kernel_rfl) (by kernel_rfl) rfl rfl (by kernel_rfl) ?_
    refine ls_val (v := .bool true) rfl rfl (by kernel_rfl) (fun w => by kernel_rfl) ?_
    refine ls_val (v := .bool true) rfl rfl (by kernel_rfl) (fun w => by kernel_rfl) ?_
    refine ls_off (j := 34) (t := 63) (b := false) (c := true) rfl rfl (by kernel_rfl) (by kernel_rfl) rfl rfl (by kernel_rfl) ?_
    refine ls_off (j := 34) (t := 63) (b := false) (c := true) rfl rfl (by kernel_rfl) (by kernel_rfl) rfl rfl (by kernel_rfl) ?_
    refine ls_off (j := 34) (t := 63) (b := false) (c := true) rfl rfl (by kernel_rfl) (by kernel_rfl) rfl rfl (by kernel_rfl) ?_
    refine ls_val (v := .bool true) rfl rfl (by kernel_rfl) (fun w => by kernel_rfl) ?_
    refine ls_val (v := .bool true) rfl rfl (by kernel_rfl) (fun w => by kernel_rfl) ?_
    refine ls_off (j := 39) (t := 68) (b := false) (c := true) rfl rfl (by kernel_rfl) (by kernel_rfl) rfl rfl (by kernel_rfl) ?_
    refine ls_off (j := 39) (t := 68) (b := false) (c := true) rfl rfl (by kernel_rfl) (by kernel_rfl) rfl rfl (by kernel_rfl) ?_
    refine ls_off (j := 39) (t := 68) (b := false) (c := true) rfl rfl (by kernel_rfl) (by kernel_rfl) rfl rfl (by kernel_rfl) ?_
    refine ls_off (j := 39) (t := 68) (b := false) (c := true) rfl rfl (by kernel_rfl) (by kernel_rfl) rfl rfl (by kernel_rfl) ?_
    refine ls_val (v := .bool true) rfl rfl (by kernel_rfl) (fun w => by kernel_rfl) ?_
    refine ls_end ?_
    refine qn_then ?_
    refine cs_true (by kernel_rfl) ?_
    refine cs_seq ?_
    refine cs_region (l := [_]) ?_
    refine ls_val (v := .bool false) rfl rfl (by kernel_rfl) (fun w => by kernel_rfl) ?_
    refine ls_end ?_
    refine qn_then ?_
    refine cs_ret' ?_
    refine qr_block ?_
    refine qr_then ?_
    refine qr_then ?_
    refine qr_block ?_
    refine qr_then ?_
    obtain rfl := Option.some.inj H
    refine qr_res (rs := [_]) rfl (fun w' hs => ⟨[.bool false], (res_tmp (by kernel_rfl) (.nil)), (), rfl, hs.pick (ts := []) (cs := []) trivial (by decide)⟩)

end Go.Proofs.Ytiikfaefeonfhaa.G
