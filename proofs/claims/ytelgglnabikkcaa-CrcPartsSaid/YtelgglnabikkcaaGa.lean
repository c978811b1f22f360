/- Printed by a program of this session (sx.py): plain functions, and walks that show that the code comes to them; no condition. -/
import Derived.Test.YtelgglnabikkcaaProg
import Derived.Test.YtelgglnabikkcaaSx
set_option linter.unusedVariables false
namespace Go.Proofs.Ytelgglnabikkcaa.G
open Go Go.RowKit Go.Proofs.Ytelgglnabikkcaa.Sx

/-! ### shadowbox/crc.halves: function 22 -/
def crc_halves.cst0 : Vc Int 16 := ⟨[(0 : Int), (274646895 : Int), (549293790 : Int), (820201905 : Int), (1098587580 : Int), (1361435347 : Int), (1640403810 : Int), (1905808397 : Int), (2197175160 : Int), (2460548119 : Int), (2722870694 : Int), (2987750089 : Int), (3280807620 : Int), (3553878443 : Int), (3811616794 : Int), (4084100981 : Int)], rfl⟩
def crc_halves.f (k : Nat) : Option ((Vc Int 16)) :=
  some crc_halves.cst0
set_option maxRecDepth 100000 in
set_option maxHeartbeats 4000000 in
theorem crc_halves.calls (k : Nat)  (r : (Vc Int 16)) (w : World) (H : crc_halves.f k = some r) :
    Calls Try.prog 22 #[] w fun e w' => ∃ x : Unit, e = .returned (.agg ⟨en (Value.int .u32) r.1⟩) ∧ St (bw w) (stl []) w' := by
  unfold crc_halves.f at H
  refine enter (n := 2) Try.func22 rfl (by kernel_rfl) (by kernel_rfl) ?_
  refine cs_seq ?_
  refine cs_region (l := [_]) ?_
  refine ls_new rfl rfl (by kernel_rfl) 0 (fun g => .pointer (some ⟨g, 0, none⟩)) (.cells ⟨en (Value.int .u32) (vrep 16 0).1⟩ 48) (fun w => by kernel_rfl) ?_
  intro g1
  refine ls_end ?_
  refine qn_then ?_
  refine cs_seq ?_
  refine cs_region (l := [_, _]) ?_
  refine ls_val (v := .agg ⟨en (Value.int .u32) crc_halves.cst0.1⟩) rfl rfl (by kernel_rfl) (fun w => by kernel_rfl) ?_
  refine ls_storec (g := g1) (off := 0) (v := .agg ⟨en (Value.int .u32) crc_halves.cst0.1⟩) (vs := en (Value.int .u32) crc_halves.cst0.1) (cs := en (Value.int .u32) (vrep 16 0).1) (ty := 48) 0 rfl rfl rfl (by kernel_rfl) (by kernel_rfl) (by kernel_rfl) (by exact rfl) (by kernel_rfl) (len_en _ crc_halves.cst0) (one_en (fun _ => rfl) _) (hl_of (Sub4.all _) (len_eq (len_en _ crc_halves.cst0) (len_en _ (vrep 16 0)))) (cs' := en (Value.int .u32) crc_halves.cst0.1) (splc_all (len_eq (len_en _ crc_halves.cst0) (len_en _ (vrep 16 0)))) ?_
  refine ls_end ?_
  refine qn_then ?_
  refine cs_ret' ?_
  obtain rfl := Option.some.inj H
  refine qr_res (rs := [_]) rfl (fun w' hs => ⟨[.agg ⟨en (Value.int .u32) crc_halves.cst0.1⟩], (.cell (by kernel_rfl) (run_cellres (by kernel_rfl) (by kernel_rfl) (len_en _ crc_halves.cst0) (hs.holds 0 _ (by exact rfl))) (.nil)), (), rfl, hs.pick (ts := []) (cs := []) trivial (by decide)⟩)

/-! ### shadowbox/crc.Go$1: function 23 -/
def crc_Go_1.f (k : Nat) (v0 : Int) (v1 : (Vc Int 16)) : Option (Int) :=
  (if 0 ≤ bits .and .u32 v0 (15 : Int) then (if bits .and .u32 v0 (15 : Int) < (16 : Int) then lt ((v1.1.getD (bits .and .u32 v0 (15 : Int)).toNat 0)) fun y3 => some (bits .xor .u32 (Int.fdiv v0 16) y3) else none) else none)
set_option maxRecDepth 100000 in
set_option maxHeartbeats 4000000 in
theorem crc_Go_1.calls (k : Nat) (pg0 : Nat) (v0 : Int) (pg1 : Nat) (v1 : (Vc Int 16)) (r : Int) (b : Bs) (hs0 : St b (stl [Ck.var 23 pg0 ([Value.int .u32 v0]), Ck.var 48 pg1 (en (Value.int .u32) v1.1)]) b.w) (H : crc_Go_1.f k v0 v1 = some r) :
    Calls Try.prog 23 #[.pointer (some ⟨pg0, 0, none⟩), .pointer (some ⟨pg1, 0, none⟩)] b.w fun e w' => ∃ x : Unit, e = .returned (.tuple #[]) ∧ St b (stl [Ck.var 23 pg0 ([Value.int .u32 r]), Ck.var 48 pg1 (en (Value.int .u32) v1.1)]) w' := by
  unfold crc_Go_1.f at H
  refine enterb (n := 9) Try.func23 rfl (by kernel_rfl) (by kernel_rfl) hs0 ?_
  refine cs_sub (sput (sput s0 0 (some (Ck.var 23 pg0 ([Value.int .u32 v0])))) 1 (some (Ck.var 48 pg1 (en (Value.int .u32) v1.1)))) (sub_put (by exact rfl) (sub_put (by exact rfl) (sub_nil _))) ?_
  obtain ⟨q1, H⟩ := ite_need H
  obtain ⟨q2, H⟩ := ite_need H
  obtain ⟨y3, hy4, H⟩ := lt_some H
  refine cs_draw (l := [_, _, _, _, _, _, _, _]) [[], [0], [], [2], [2, 3], [2, 3, 4], [0, 1, 2, 3, 4, 5], [0, 1, 2, 3, 4, 5, 6]] 6 2 (spl [fun v R => v = .int .u32 v0 ∧ R = s0, fun v R => v = .int .u32 (Int.fdiv v0 16) ∧ R = s0, fun v R => v = .int .u32 v0 ∧ R = s0, fun v R => v = .int .u32 (bits .and .u32 v0 (15 : Int)) ∧ R = s0, fun v R => v = .pointer (some ⟨pg1, (0 + (bits .and .u32 v0 (15 : Int)).toNat), none⟩) ∧ R = s0, fun v R => v = .int .u32 y3 ∧ R = s0]) (onl [true, true, true, true, true, true]) (by kernel_rfl) (by kernel_rfl) (by kernel_rfl) (by kernel_rfl) (rs := [_, _]) rfl (by kernel_rfl) (by kernel_rfl) ?_ ?_
  · refine all_snoc (all_snoc (all_snoc (all_snoc (all_snoc (all_snoc (all_nil) ?_) ?_) ?_) ?_) ?_) ?_
    · refine ⟨fun o ho vs Rs f' S' w hp hf hx hS hR hs => ?_⟩
      obtain rfl := Option.some.inj ho
      refine And.intro (want_none rfl) (And.intro (fun _ => ?_) (fun h => by cases h))
      have hF := fr_next (rfl) ((hx 0 (by kernel_rfl)).trans (by kernel_rfl : (_ : Value) = .pointer (some ⟨pg0, 0, none⟩)))
      refine ls_fr hF ?_
      refine ls_load (a0 := ⟨pg0, 0, none⟩) (v := .int .u32 v0) (de := (TypeDesc.int .u32)) rfl rfl (by kernel_rfl) rfl (by kernel_rfl) (by kernel_rfl) (by kernel_rfl) (fun w1 hs1 => cell_step hs1.below.bw (hs.var (k := 0) ((hS 0 (by kernel_rfl)).trans (by exact rfl)) (Sub4.all _))) ?_
      exact ls_fin s0 (.int .u32 v0) (congrArg (fun z => upd z 2 _) hF.symm) ⟨rfl, rfl⟩ (sub_nil _)
    · refine ⟨fun o ho vs Rs f' S' w hp hf hx hS hR hs => ?_⟩
      obtain rfl := Option.some.inj ho
      obtain ⟨hv0, hR0⟩ := hp 0 (by kernel_rfl)
      refine And.intro (want_none rfl) (And.intro (fun _ => ?_) (fun h => by cases h))
      have hF := fr_next (rfl) ((hf 0 2 (by kernel_rfl) rfl).trans hv0)
      refine ls_fr hF ?_
      refine ls_val (v := .int .u32 (Int.fdiv v0 16)) rfl rfl (by kernel_rfl) (fun w => by kernel_rfl) ?_
      exact ls_fin s0 (.int .u32 (Int.fdiv v0 16)) (congrArg (fun z => upd z 3 _) hF.symm) ⟨rfl, rfl⟩ (sub_nil _)
    · refine ⟨fun o ho vs Rs f' S' w hp hf hx hS hR hs => ?_⟩
      obtain rfl := Option.some.inj ho
      refine And.intro (want_none rfl) (And.intro (fun _ => ?_) (fun h => by cases h))
      have hF := fr_next (rfl) ((hx 0 (by kernel_rfl)).trans (by kernel_rfl : (_ : Value) = .pointer (some ⟨pg0, 0, none⟩)))
      refine ls_fr hF ?_
      refine ls_load (a0 := ⟨pg0, 0, none⟩) (v := .int .u32 v0) (de := (TypeDesc.int .u32)) rfl rfl (by kernel_rfl) rfl (by kernel_rfl) (by kernel_rfl) (by kernel_rfl) (fun w1 hs1 => cell_step hs1.below.bw (hs.var (k := 0) ((hS 0 (by kernel_rfl)).trans (by exact rfl)) (Sub4.all _))) ?_
      exact ls_fin s0 (.int .u32 v0) (congrArg (fun z => upd z 4 _) hF.symm) ⟨rfl, rfl⟩ (sub_nil _)
    · refine ⟨fun o ho vs Rs f' S' w hp hf hx hS hR hs => ?_⟩
      obtain rfl := Option.some.inj ho
      obtain ⟨hv2, hR2⟩ := hp 2 (by kernel_rfl)
      refine And.intro (want_none rfl) (And.intro (fun _ => ?_) (fun h => by cases h))
      have hF := fr_next (rfl) ((hf 2 4 (by kernel_rfl) rfl).trans hv2)
      refine ls_fr hF ?_
      refine ls_val (v := .int .u32 (bits .and .u32 v0 (15 : Int))) rfl rfl (by kernel_rfl) (fun w => by kernel_rfl) ?_
      exact ls_fin s0 (.int .u32 (bits .and .u32 v0 (15 : Int))) (congrArg (fun z => upd z 5 _) hF.symm) ⟨rfl, rfl⟩ (sub_nil _)
    · refine ⟨fun o ho vs Rs f' S' w hp hf hx hS hR hs => ?_⟩
      obtain rfl := Option.some.inj ho
      obtain ⟨hv3, hR3⟩ := hp 3 (by kernel_rfl)
      refine And.intro (want_none rfl) (And.intro (fun _ => ?_) (fun h => by cases h))
      have hF := fr_next (fr_next (rfl) ((hx 1 (by kernel_rfl)).trans (by kernel_rfl : (_ : Value) = .pointer (some ⟨pg1, 0, none⟩)))) ((hf 3 5 (by kernel_rfl) rfl).trans hv3)
      refine ls_fr hF ?_
      refine ls_idxa1 (g := pg1) (off := 0) (i := bits .and .u32 v0 (15 : Int)) (kk := .u32) (ln := 16) (e := 23) rfl rfl (by kernel_rfl) rfl (by kernel_rfl) (by kernel_rfl) (by kernel_rfl) (by kernel_rfl) q1 q2 ?_
      exact ls_fin s0 (.pointer (some ⟨pg1, (0 + (bits .and .u32 v0 (15 : Int)).toNat), none⟩)) (congrArg (fun z => upd z 6 _) hF.symm) ⟨rfl, rfl⟩ (sub_nil _)
    · refine ⟨fun o ho vs Rs f' S' w hp hf hx hS hR hs => ?_⟩
      obtain rfl := Option.some.inj ho
      obtain ⟨hv4, hR4⟩ := hp 4 (by kernel_rfl)
      refine And.intro (want_none rfl) (And.intro (fun _ => ?_) (fun h => by cases h))
      have hF := fr_next (rfl) ((hf 4 6 (by kernel_rfl) rfl).trans hv4)
      refine ls_fr hF ?_
      refine ls_load (a0 := ⟨pg1, (0 + (bits .and .u32 v0 (15 : Int)).toNat), none⟩) (v := .int .u32 (v1.1.getD (bits .and .u32 v0 (15 : Int)).toNat 0)) (de := (TypeDesc.int .u32)) rfl rfl (by kernel_rfl) rfl (by kernel_rfl) (by kernel_rfl) (by kernel_rfl) (fun w1 hs1 => cell_step hs1.below.bw (hs.var (k := 1) ((hS 1 (by kernel_rfl)).trans (by exact rfl)) (Sub4.trans (Sub4.all _) (Sub4.one (Value.int .u32) v1.1 0 (by have := v1.2; omega))))) ?_
      refine ls_ren 7 (v := .int .u32 (v1.1.getD (bits .and .u32 v0 (15 : Int)).toNat 0)) (v' := .int .u32 y3) (by kernel_rfl) (by rw [hy4]) ?_
      exact ls_fin s0 (.int .u32 y3) ((upd_upd _ _ _ _).trans (congrArg (fun z => upd z 7 _) hF.symm)) ⟨rfl, rfl⟩ (sub_nil _)
  · intro vs Rs f' S' hp hf hx hS hR
    obtain ⟨hv1, hR1⟩ := hp 1 (by kernel_rfl)
    obtain ⟨hv5, hR5⟩ := hp 5 (by kernel_rfl)
    refine ls_fr (F := upd (upd (upd f' 0 (.pointer (some ⟨pg0, 0, none⟩))) 3 (.int .u32 (Int.fdiv v0 16))) 7 (.int .u32 y3)) (fr_next (fr_next (fr_next (rfl) ((hx 0 (by kernel_rfl)).trans (by kernel_rfl : (_ : Value) = .pointer (some ⟨pg0, 0, none⟩)))) ((hf 1 3 (by kernel_rfl) rfl).trans hv1)) ((hf 5 7 (by kernel_rfl) rfl).trans hv5)) ?_
    refine ls_sub (sput (sput s0 0 (some (Ck.var 23 pg0 ([Value.int .u32 v0])))) 1 (some (Ck.var 48 pg1 (en (Value.int .u32) v1.1)))) (sub_put ((hS 1 (by kernel_rfl)).trans (by exact rfl)) (sub_put ((hS 0 (by kernel_rfl)).trans (by exact rfl)) (sub_nil _))) ?_
    refine ls_val (v := .int .u32 (bits .xor .u32 (Int.fdiv v0 16) y3)) rfl rfl (by kernel_rfl) (fun w => by kernel_rfl) ?_
    refine ls_storec (g := pg0) (off := 0) (v := .int .u32 (bits .xor .u32 (Int.fdiv v0 16) y3)) (vs := [Value.int .u32 (bits .xor .u32 (Int.fdiv v0 16) y3)]) (cs := [Value.int .u32 v0]) (ty := 23) 0 rfl rfl rfl (by kernel_rfl) (by kernel_rfl) (by kernel_rfl) (by exact rfl) (by kernel_rfl) (rfl : _ = 1) (one_cons rfl one_nil) (hl_of (Sub4.all _) (len_eq (rfl : _ = 1) (rfl : _ = 1))) (cs' := [Value.int .u32 (bits .xor .u32 (Int.fdiv v0 16) y3)]) (splc_all (len_eq (rfl : _ = 1) (rfl : _ = 1))) ?_
    refine ls_end ?_
    obtain rfl := Option.some.inj H
    refine qn_res (rs := []) rfl (fun w' hs => ⟨[], (.nil), (), rfl, hs.pick (ts := [0, 1]) (cs := [Ck.var 23 pg0 ([Value.int .u32 (bits .xor .u32 (Int.fdiv v0 16) y3)]), Ck.var 48 pg1 (en (Value.int .u32) v1.1)]) ⟨by exact rfl, by exact rfl, trivial⟩ (by decide)⟩)

/-! ### shadowbox/crc.Go: function 9 -/
def crc_Go.l1 (l1 : List Int) (t1 : (Vc Int 16)) : Nat → Int → Int → Option (Int)
  | 0, _, _ => none
  | k1 + 1, x16_1, m1_1 => (if x16_1 < (l1.length : Int) then (if 0 ≤ x16_1 then lt (IntKind.wrap .u32 ((l1).getD (x16_1).toNat 0)) fun y13 => (crc_Go_1.f k1 (bits .xor .u32 m1_1 y13) t1).bind fun t15 => (crc_Go_1.f k1 t15 t1).bind fun t18 => (crc_Go.l1 l1 t1 k1) (IntKind.wrap .i64 (x16_1 + (1 : Int))) t18 else none) else lt (bits .xor .u32 (if IntKind.signed .u32 then -1 else IntKind.max .u32) m1_1) fun y21 => some y21)
def crc_Go.f (k : Nat) (a0 : Int) (l1 : List Int) : Option (Int) :=
  (crc_halves.f k).bind fun t1 => lt (bits .xor .u32 (if IntKind.signed .u32 then -1 else IntKind.max .u32) a0) fun y5 => crc_Go.l1 l1 t1 k (0 : Int) y5
set_option maxRecDepth 100000 in
set_option maxHeartbeats 4000000 in
theorem crc_Go.calls (k : Nat) (a0 : Int) (A1 : Option Addr) (c1 : Nat) (l1 : List Int) (r : Int) (w : World) (R1 : Ro (bw w) A1 (en (Value.int .u8) l1)) (C1 : l1.length ≤ c1) (H : crc_Go.f k a0 l1 = some r) :
    Calls Try.prog 9 #[.int .u32 a0, .slice A1 l1.length c1] w fun e w' => ∃ x : Unit, e = .returned (.int .u32 r) ∧ St (bw w) (stl []) w' := by
  unfold crc_Go.f at H
  refine enter (n := 31) Try.func9 rfl (by kernel_rfl) (by kernel_rfl) ?_
  refine cs_seq ?_
  refine cs_region (l := [_]) ?_
  refine ls_val (v := .int .u32 (0 : Int)) rfl rfl (by kernel_rfl) (fun w => by kernel_rfl) ?_
  refine ls_end ?_
  refine qn_then ?_
  refine cs_seq ?_
  refine cs_region (l := [_, _, _]) ?_
  obtain ⟨t1, hc2, H⟩ := bind_some H
  refine ls_call (fid := 22) (vals := #[]) (X := Unit) (fun x => .agg ⟨en (Value.int .u32) t1.1⟩) (fun x => stl []) 0 rfl rfl (by kernel_rfl) (fun w => by kernel_rfl) (fun w hs => crc_halves.calls k  t1 w  hc2) ?_
  intro x3
  refine ls_new rfl rfl (by kernel_rfl) 0 (fun g => .pointer (some ⟨g, 0, none⟩)) (.cells ⟨en (Value.int .u32) (vrep 16 0).1⟩ 48) (fun w => by kernel_rfl) ?_
  intro g4
  refine ls_storec (g := g4) (off := 0) (v := .agg ⟨en (Value.int .u32) t1.1⟩) (vs := en (Value.int .u32) t1.1) (cs := en (Value.int .u32) (vrep 16 0).1) (ty := 48) 0 rfl rfl rfl (by kernel_rfl) (by kernel_rfl) (by kernel_rfl) (by exact rfl) (by kernel_rfl) (len_en _ t1) (one_en (fun _ => rfl) _) (hl_of (Sub4.all _) (len_eq (len_en _ t1) (len_en _ (vrep 16 0)))) (cs' := en (Value.int .u32) t1.1) (splc_all (len_eq (len_en _ t1) (len_en _ (vrep 16 0)))) ?_
  refine ls_end ?_
  refine qn_then ?_
  refine cs_seq ?_
  refine cs_region (l := [_, _, _, _]) ?_
  refine ls_val (v := .int .u32 a0) rfl rfl (by kernel_rfl) (fun w => by kernel_rfl) ?_
  obtain ⟨y5, hy6, H⟩ := lt_some H
  refine ls_val (v := .int .u32 (bits .xor .u32 (if IntKind.signed .u32 then -1 else IntKind.max .u32) a0)) rfl rfl (by kernel_rfl) (fun w => by kernel_rfl) ?_
  refine ls_ren 12 (v := .int .u32 (bits .xor .u32 (if IntKind.signed .u32 then -1 else IntKind.max .u32) a0)) (v' := .int .u32 y5) (by kernel_rfl) (by rw [hy6]) ?_
  refine ls_new rfl rfl (by kernel_rfl) 1 (fun g => .pointer (some ⟨g, 0, none⟩)) (.cells ⟨[Value.int .u32 (0 : Int)]⟩ 23) (fun w => by kernel_rfl) ?_
  intro g7
  refine ls_storec (g := g7) (off := 0) (v := .int .u32 y5) (vs := [Value.int .u32 y5]) (cs := [Value.int .u32 (0 : Int)]) (ty := 23) 1 rfl rfl rfl (by kernel_rfl) (by kernel_rfl) (by kernel_rfl) (by exact rfl) (by kernel_rfl) (rfl : _ = 1) (one_cons rfl one_nil) (hl_of (Sub4.all _) (len_eq (rfl : _ = 1) (rfl : _ = 1))) (cs' := [Value.int .u32 y5]) (splc_all (len_eq (rfl : _ = 1) (rfl : _ = 1))) ?_
  refine ls_end ?_
  refine qn_then ?_
  refine cs_seq ?_
  refine cs_region (l := [_, _]) ?_
  refine ls_val (v := .func (.func 23) #[] #[.pointer (some ⟨g7, 0, none⟩), .pointer (some ⟨g4, 0, none⟩)]) rfl rfl (by kernel_rfl) (fun w => by kernel_rfl) ?_
  refine ls_val (v := .func (.func 23) #[] #[.pointer (some ⟨g7, 0, none⟩), .pointer (some ⟨g4, 0, none⟩)]) rfl rfl (by kernel_rfl) (fun w => by kernel_rfl) ?_
  refine ls_end ?_
  refine qn_then ?_
  refine cs_seq ?_
  refine cs_seq ?_
  refine cs_region (l := [_, _, _]) ?_
  refine ls_val (v := .slice A1 l1.length c1) rfl rfl (by kernel_rfl) (fun w => by kernel_rfl) ?_
  refine ls_val (v := .int .i64 (l1.length : Int)) rfl rfl (by kernel_rfl) (fun w => by kernel_rfl) ?_
  refine ls_val (v := .int .i64 (0 : Int)) rfl rfl (by kernel_rfl) (fun w => by kernel_rfl) ?_
  refine ls_end ?_
  refine qn_then ?_
  refine cs_block ?_
  refine cs_sub (sput (sput s0 0 (some (Ck.var 48 g4 (en (Value.int .u32) t1.1)))) 1 (some (Ck.var 23 g7 ([Value.int .u32 y5])))) (sub_put (by exact rfl) (sub_put (by exact rfl) (sub_nil _))) ?_
  refine cs_loop (fun kk f S => ∃ (fR : Fr) (x16_1 : Int) (m1_1 : Int), f = upd (upd (upd (upd (upd fR 6 (.pointer (some ⟨g7, 0, none⟩))) 7 (.func (.func 23) #[] #[.pointer (some ⟨g7, 0, none⟩), .pointer (some ⟨g4, 0, none⟩)])) 14 (.slice A1 l1.length c1)) 15 (.int .i64 (l1.length : Int))) 16 (.int .i64 x16_1) ∧ S = sput (sput s0 0 (some (Ck.var 48 g4 (en (Value.int .u32) t1.1)))) 1 (some (Ck.var 23 g7 ([Value.int .u32 m1_1]))) ∧ crc_Go.l1 l1 t1 kk x16_1 m1_1 = some r) k ?_ ?_ ?_
  · exact ⟨_, (0 : Int), y5, fr_next (fr_next (fr_next (fr_next (fr_next (rfl) (by kernel_rfl)) (by kernel_rfl)) (by kernel_rfl)) (by kernel_rfl)) (by kernel_rfl), rfl, H⟩
  · rintro f S ⟨fr1, x16_1, m1_1, rfl, rfl, H⟩; cases H
  · rintro k1 f S ⟨fr1, x16_1, m1_1, rfl, rfl, H⟩
    replace H : (if x16_1 < (l1.length : Int) then (if 0 ≤ x16_1 then lt (IntKind.wrap .u32 ((l1).getD (x16_1).toNat 0)) fun y13 => (crc_Go_1.f k1 (bits .xor .u32 m1_1 y13) t1).bind fun t15 => (crc_Go_1.f k1 t15 t1).bind fun t18 => (crc_Go.l1 l1 t1 k1) (IntKind.wrap .i64 (x16_1 + (1 : Int))) t18 else none) else lt (bits .xor .u32 (if IntKind.signed .u32 then -1 else IntKind.max .u32) m1_1) fun y21 => some y21) = some r := H
    refine cs_seq ?_
    refine cs_region (l := [_]) ?_
    refine ls_val (v := .bool (decide (x16_1 < (l1.length : Int)))) rfl rfl (by kernel_rfl) (fun w => by kernel_rfl) ?_
    refine ls_end ?_
    refine qn_then ?_
    refine cs_seq ?_
    by_cases q8 : x16_1 < (l1.length : Int)
    · replace H := ite_t q8 H
      refine cs_know (c := true) (dec_t q8) 17 (by kernel_rfl) ?_
      refine cs_true (by kernel_rfl) ?_
      refine cs_skip' ?_
      refine qn_then ?_
      refine cs_seq ?_
      refine cs_block ?_
      refine cs_seq ?_
      refine cs_region (l := [_, _, _]) ?_
      obtain ⟨q9, H⟩ := ite_need H
      obtain ⟨ad10, hA11, hc12⟩ := ido_at (E := (Value.int .u8)) (i := x16_1) R1 q9 q8 0
      refine ls_idxv (A := A1) (c := c1) (l := l1) (k := .i64) (i := x16_1) (e := 5) (ad := ad10) rfl rfl (by kernel_rfl) hA11 rfl (by kernel_rfl) (by kernel_rfl) (by kernel_rfl) (by kernel_rfl) q9 q8 ?_
      refine ls_load (a0 := (ad10.add (x16_1).toNat)) (v := .int .u8 ((l1).getD (x16_1).toNat 0)) (de := (TypeDesc.int .u8)) rfl rfl (by kernel_rfl) rfl (by kernel_rfl) (by kernel_rfl) (by kernel_rfl) (fun w hs => hs.cell hc12) ?_
      refine ls_val (v := .int .u8 ((l1).getD (x16_1).toNat 0)) rfl rfl (by kernel_rfl) (fun w => by kernel_rfl) ?_
      refine ls_end ?_
      refine qn_then ?_
      refine cs_seq ?_
      refine cs_region (l := [_, _, _, _, _]) ?_
      refine ls_load (a0 := ⟨g7, 0, none⟩) (v := .int .u32 m1_1) (de := (TypeDesc.int .u32)) rfl rfl (by kernel_rfl) rfl (by kernel_rfl) (by kernel_rfl) (by kernel_rfl) (fun w hs => (hs.var (k := 1) (by exact rfl) (Sub4.all _))) ?_
      refine ls_val (v := .int .u8 ((l1).getD (x16_1).toNat 0)) rfl rfl (by kernel_rfl) (fun w => by kernel_rfl) ?_
      obtain ⟨y13, hy14, H⟩ := lt_some H
      refine ls_val (v := .int .u32 (IntKind.wrap .u32 ((l1).getD (x16_1).toNat 0))) rfl rfl (by kernel_rfl) (fun w => by kernel_rfl) ?_
      refine ls_ren 22 (v := .int .u32 (IntKind.wrap .u32 ((l1).getD (x16_1).toNat 0))) (v' := .int .u32 y13) (by kernel_rfl) (by rw [hy14]) ?_
      refine ls_val (v := .int .u32 (bits .xor .u32 m1_1 y13)) rfl rfl (by kernel_rfl) (fun w => by kernel_rfl) ?_
      refine ls_storec (g := g7) (off := 0) (v := .int .u32 (bits .xor .u32 m1_1 y13)) (vs := [Value.int .u32 (bits .xor .u32 m1_1 y13)]) (cs := [Value.int .u32 m1_1]) (ty := 23) 1 rfl rfl rfl (by kernel_rfl) (by kernel_rfl) (by kernel_rfl) (by exact rfl) (by kernel_rfl) (rfl : _ = 1) (one_cons rfl one_nil) (hl_of (Sub4.all _) (len_eq (rfl : _ = 1) (rfl : _ = 1))) (cs' := [Value.int .u32 (bits .xor .u32 m1_1 y13)]) (splc_all (len_eq (rfl : _ = 1) (rfl : _ = 1))) ?_
      refine ls_end ?_
      refine qn_then ?_
      refine cs_seq ?_
      refine cs_region (l := [_, _]) ?_
      refine ls_val (v := .func (.func 23) #[] #[.pointer (some ⟨g7, 0, none⟩), .pointer (some ⟨g4, 0, none⟩)]) rfl rfl (by kernel_rfl) (fun w => by kernel_rfl) ?_
      obtain ⟨t15, hc16, H⟩ := bind_some H
      refine ls_callb (fid := 23) (vals := #[.pointer (some ⟨g7, 0, none⟩), .pointer (some ⟨g4, 0, none⟩)]) (X := Unit) (fun x => .tuple #[]) (fun x => stl [Ck.var 23 g7 ([Value.int .u32 t15]), Ck.var 48 g4 (en (Value.int .u32) t1.1)]) [1, 0] [Ck.var 23 g7 ([Value.int .u32 (bits .xor .u32 m1_1 y13)]), Ck.var 48 g4 (en (Value.int .u32) t1.1)] 2 rfl rfl (by kernel_rfl) (fun w => by kernel_rfl) ⟨by exact rfl, by exact rfl, trivial⟩ (by decide) (fun w hs hb => crc_Go_1.calls k1 g7 (bits .xor .u32 m1_1 y13) g4 t1 t15 ⟨w, kys [Ck.var 23 g7 ([Value.int .u32 (bits .xor .u32 m1_1 y13)]), Ck.var 48 g4 (en (Value.int .u32) t1.1)]⟩ hb  hc16) ?_
      intro x17
      refine ls_end ?_
      refine qn_then ?_
      refine cs_region (l := [_, _]) ?_
      refine ls_val (v := .func (.func 23) #[] #[.pointer (some ⟨g7, 0, none⟩), .pointer (some ⟨g4, 0, none⟩)]) rfl rfl (by kernel_rfl) (fun w => by kernel_rfl) ?_
      obtain ⟨t18, hc19, H⟩ := bind_some H
      refine ls_callb (fid := 23) (vals := #[.pointer (some ⟨g7, 0, none⟩), .pointer (some ⟨g4, 0, none⟩)]) (X := Unit) (fun x => .tuple #[]) (fun x => stl [Ck.var 23 g7 ([Value.int .u32 t18]), Ck.var 48 g4 (en (Value.int .u32) t1.1)]) [1, 0] [Ck.var 23 g7 ([Value.int .u32 t15]), Ck.var 48 g4 (en (Value.int .u32) t1.1)] 2 rfl rfl (by kernel_rfl) (fun w => by kernel_rfl) ⟨by exact rfl, by exact rfl, trivial⟩ (by decide) (fun w hs hb => crc_Go_1.calls k1 g7 t15 g4 t1 t18 ⟨w, kys [Ck.var 23 g7 ([Value.int .u32 t15]), Ck.var 48 g4 (en (Value.int .u32) t1.1)]⟩ hb  hc19) ?_
      intro x20
      refine ls_end ?_
      refine qn_block ?_
      refine qn_then ?_
      refine cs_region (l := [_, _]) ?_
      refine ls_val (v := .int .i64 (IntKind.wrap .i64 (x16_1 + (1 : Int)))) rfl rfl (by kernel_rfl) (fun w => by kernel_rfl) ?_
      refine ls_val (v := .int .i64 (IntKind.wrap .i64 (x16_1 + (1 : Int)))) rfl rfl (by kernel_rfl) (fun w => by kernel_rfl) ?_
      refine ls_end ?_
      refine qn_again k1 (sput (sput s0 0 (some (Ck.var 48 g4 (en (Value.int .u32) t1.1)))) 1 (some (Ck.var 23 g7 ([Value.int .u32 t18])))) (Nat.le_refl _) ⟨_, (IntKind.wrap .i64 (x16_1 + (1 : Int))), t18, fr_next (fr_next (fr_next (fr_next (fr_next (rfl) (by kernel_rfl)) (by kernel_rfl)) (by kernel_rfl)) (by kernel_rfl)) (by kernel_rfl), rfl, H⟩ (sub_put (by exact rfl) (sub_put (by exact rfl) (sub_nil _)))
    · replace H := ite_f q8 H
      refine cs_know (c := false) (dec_f q8) 17 (by kernel_rfl) ?_
      refine cs_false (by kernel_rfl) ?_
      refine cs_exit' ?_
      refine qx_then ?_
      refine qx_then ?_
      refine qx_same ?_
      refine qn_then ?_
      refine cs_seq ?_
      refine cs_region (l := [_, _, _]) ?_
      refine ls_load (a0 := ⟨g7, 0, none⟩) (v := .int .u32 m1_1) (de := (TypeDesc.int .u32)) rfl rfl (by kernel_rfl) rfl (by kernel_rfl) (by kernel_rfl) (by kernel_rfl) (fun w hs => (hs.var (k := 1) (by exact rfl) (Sub4.all _))) ?_
      obtain ⟨y21, hy22, H⟩ := lt_some H
      refine ls_val (v := .int .u32 (bits .xor .u32 (if IntKind.signed .u32 then -1 else IntKind.max .u32) m1_1)) rfl rfl (by kernel_rfl) (fun w => by kernel_rfl) ?_
      refine ls_ren 30 (v := .int .u32 (bits .xor .u32 (if IntKind.signed .u32 then -1 else IntKind.max .u32) m1_1)) (v' := .int .u32 y21) (by kernel_rfl) (by rw [hy22]) ?_
      refine ls_val (v := .int .u32 y21) rfl rfl (by kernel_rfl) (fun w => by kernel_rfl) ?_
      refine ls_end ?_
      refine qn_then ?_
      refine cs_ret' ?_
      obtain rfl := Option.some.inj H
      refine qr_res (rs := [_]) rfl (fun w' hs => ⟨[.int .u32 y21], (res_tmp (by kernel_rfl) (.nil)), (), rfl, hs.pick (ts := []) (cs := []) trivial (by decide)⟩)

/-! ### shadowbox/crc.Sum: function 8 -/
def crc_Sum.f (k : Nat) (l0 : List Int) : Option (Int) :=
  (crc_Go.f k (0 : Int) l0).bind fun t1 => some t1
set_option maxRecDepth 100000 in
set_option maxHeartbeats 4000000 in
theorem crc_Sum.calls (k : Nat) (A0 : Option Addr) (c0 : Nat) (l0 : List Int) (r : Int) (w : World) (R0 : Ro (bw w) A0 (en (Value.int .u8) l0)) (C0 : l0.length ≤ c0) (H : crc_Sum.f k l0 = some r) :
    Calls Try.prog 8 #[.slice A0 l0.length c0] w fun e w' => ∃ x : Unit, e = .returned (.int .u32 r) ∧ St (bw w) (stl []) w' := by
  unfold crc_Sum.f at H
  refine enter (n := 5) Try.func8 rfl (by kernel_rfl) (by kernel_rfl) ?_
  refine cs_seq ?_
  refine cs_region (l := [_]) ?_
  refine ls_val (v := .int .u32 (0 : Int)) rfl rfl (by kernel_rfl) (fun w => by kernel_rfl) ?_
  refine ls_end ?_
  refine qn_then ?_
  refine cs_seq ?_
  refine cs_region (l := [_, _, _]) ?_
  refine ls_val (v := .slice A0 l0.length c0) rfl rfl (by kernel_rfl) (fun w => by kernel_rfl) ?_
  obtain ⟨t1, hc2, H⟩ := bind_some H
  refine ls_call (fid := 9) (vals := #[.int .u32 (0 : Int), .slice A0 l0.length c0]) (X := Unit) (fun x => .int .u32 t1) (fun x => stl []) 0 rfl rfl (by kernel_rfl) (fun w => by kernel_rfl) (fun w hs => crc_Go.calls k (0 : Int) A0 c0 l0 t1 w (hs.ro R0 no_ks) C0 hc2) ?_
  intro x3
  refine ls_val (v := .int .u32 t1) rfl rfl (by kernel_rfl) (fun w => by kernel_rfl) ?_
  refine ls_end ?_
  refine qn_then ?_
  refine cs_ret' ?_
  obtain rfl := Option.some.inj H
  refine qr_res (rs := [_]) rfl (fun w' hs => ⟨[.int .u32 t1], (res_tmp (by kernel_rfl) (.nil)), (), rfl, hs.pick (ts := []) (cs := []) trivial (by decide)⟩)

/-! ### shadowbox/crc.byteShift: function 24 -/
def crc_byteShift.l1 (t3 : (Vc Int 16)) : Nat → Int → ((Vc Int 32)) → Option ((Vc Int 32))
  | 0, _, _ => none
  | k1 + 1, x6_1, m1_1 => (if x6_1 < (32 : Int) then (if 0 ≤ x6_1 then lt (bits .and .u32 (shlv .u32 (1 : Int) x6_1) (15 : Int)) fun y9 => (if 0 ≤ y9 then (if y9 < (16 : Int) then lt (bits .xor .u32 (Int.fdiv (shlv .u32 (1 : Int) x6_1) 16) (t3.1.getD (y9).toNat 0)) fun y13 => (if 0 ≤ bits .and .u32 y13 (15 : Int) then (if bits .and .u32 y13 (15 : Int) < (16 : Int) then lt ((t3.1.getD (bits .and .u32 y13 (15 : Int)).toNat 0)) fun y17 => lt (vset m1_1 (x6_1).toNat (bits .xor .u32 (Int.fdiv y13 16) y17)) fun y19 => (crc_byteShift.l1 t3 k1) (IntKind.wrap .i64 (x6_1 + (1 : Int))) y19 else none) else none) else none) else none) else none) else some m1_1)
def crc_byteShift.f (k : Nat) : Option ((Vc Int 32)) :=
  (crc_halves.f k).bind fun t3 => crc_byteShift.l1 t3 k (0 : Int) (vrep 32 0)
set_option maxRecDepth 100000 in
set_option maxHeartbeats 4000000 in
theorem crc_byteShift.calls (k : Nat)  (r : (Vc Int 32)) (w : World) (H : crc_byteShift.f k = some r) :
    Calls Try.prog 24 #[] w fun e w' => ∃ x : Unit, e = .returned (.agg ⟨en (Value.int .u32) r.1⟩) ∧ St (bw w) (stl []) w' := by
  unfold crc_byteShift.f at H
  refine enter (n := 29) Try.func24 rfl (by kernel_rfl) (by kernel_rfl) ?_
  refine cs_seq ?_
  refine cs_region (l := [_]) ?_
  refine ls_new rfl rfl (by kernel_rfl) 0 (fun g => .pointer (some ⟨g, 0, none⟩)) (.cells ⟨en (Value.int .u32) (vrep 32 0).1⟩ 51) (fun w => by kernel_rfl) ?_
  intro g1
  refine ls_end ?_
  refine qn_then ?_
  refine cs_seq ?_
  refine cs_region (l := [_]) ?_
  refine ls_new rfl rfl (by kernel_rfl) 1 (fun g => .pointer (some ⟨g, 0, none⟩)) (.cells ⟨en (Value.int .u32) (vrep 32 0).1⟩ 51) (fun w => by kernel_rfl) ?_
  intro g2
  refine ls_end ?_
  refine qn_then ?_
  refine cs_seq ?_
  refine cs_region (l := [_, _, _]) ?_
  obtain ⟨t3, hc4, H⟩ := bind_some H
  refine ls_call (fid := 22) (vals := #[]) (X := Unit) (fun x => .agg ⟨en (Value.int .u32) t3.1⟩) (fun x => stl []) 2 rfl rfl (by kernel_rfl) (fun w => by kernel_rfl) (fun w hs => crc_halves.calls k  t3 w  hc4) ?_
  intro x5
  refine ls_new rfl rfl (by kernel_rfl) 2 (fun g => .pointer (some ⟨g, 0, none⟩)) (.cells ⟨en (Value.int .u32) (vrep 16 0).1⟩ 48) (fun w => by kernel_rfl) ?_
  intro g6
  refine ls_storec (g := g6) (off := 0) (v := .agg ⟨en (Value.int .u32) t3.1⟩) (vs := en (Value.int .u32) t3.1) (cs := en (Value.int .u32) (vrep 16 0).1) (ty := 48) 2 rfl rfl rfl (by kernel_rfl) (by kernel_rfl) (by kernel_rfl) (by exact rfl) (by kernel_rfl) (len_en _ t3) (one_en (fun _ => rfl) _) (hl_of (Sub4.all _) (len_eq (len_en _ t3) (len_en _ (vrep 16 0)))) (cs' := en (Value.int .u32) t3.1) (splc_all (len_eq (len_en _ t3) (len_en _ (vrep 16 0)))) ?_
  refine ls_end ?_
  refine qn_then ?_
  refine cs_seq ?_
  refine cs_seq ?_
  refine cs_region (l := [_]) ?_
  refine ls_val (v := .int .i64 (0 : Int)) rfl rfl (by kernel_rfl) (fun w => by kernel_rfl) ?_
  refine ls_end ?_
  refine qn_then ?_
  refine cs_block ?_
  refine cs_sub (sput (sput (sput s0 0 (some (Ck.var 51 g1 (en (Value.int .u32) (vrep 32 0).1)))) 1 (some (Ck.var 51 g2 (en (Value.int .u32) (vrep 32 0).1)))) 2 (some (Ck.var 48 g6 (en (Value.int .u32) t3.1)))) (sub_put (by exact rfl) (sub_put (by exact rfl) (sub_put (by exact rfl) (sub_nil _)))) ?_
  refine cs_loop (fun kk f S => ∃ (fR : Fr) (x6_1 : Int) (m1_1 : (Vc Int 32)), f = upd (upd (upd (upd fR 0 (.pointer (some ⟨g1, 0, none⟩))) 1 (.pointer (some ⟨g2, 0, none⟩))) 2 (.pointer (some ⟨g6, 0, none⟩))) 6 (.int .i64 x6_1) ∧ S = sput (sput (sput s0 0 (some (Ck.var 51 g1 (en (Value.int .u32) (vrep 32 0).1)))) 1 (some (Ck.var 51 g2 (en (Value.int .u32) m1_1.1)))) 2 (some (Ck.var 48 g6 (en (Value.int .u32) t3.1))) ∧ crc_byteShift.l1 t3 kk x6_1 m1_1 = some r) k ?_ ?_ ?_
  · exact ⟨_, (0 : Int), (vrep 32 0), fr_next (fr_next (fr_next (fr_next (rfl) (by kernel_rfl)) (by kernel_rfl)) (by kernel_rfl)) (by kernel_rfl), rfl, H⟩
  · rintro f S ⟨fr1, x6_1, m1_1, rfl, rfl, H⟩; cases H
  · rintro k1 f S ⟨fr1, x6_1, m1_1, rfl, rfl, H⟩
    replace H : (if x6_1 < (32 : Int) then (if 0 ≤ x6_1 then lt (bits .and .u32 (shlv .u32 (1 : Int) x6_1) (15 : Int)) fun y9 => (if 0 ≤ y9 then (if y9 < (16 : Int) then lt (bits .xor .u32 (Int.fdiv (shlv .u32 (1 : Int) x6_1) 16) (t3.1.getD (y9).toNat 0)) fun y13 => (if 0 ≤ bits .and .u32 y13 (15 : Int) then (if bits .and .u32 y13 (15 : Int) < (16 : Int) then lt ((t3.1.getD (bits .and .u32 y13 (15 : Int)).toNat 0)) fun y17 => lt (vset m1_1 (x6_1).toNat (bits .xor .u32 (Int.fdiv y13 16) y17)) fun y19 => (crc_byteShift.l1 t3 k1) (IntKind.wrap .i64 (x6_1 + (1 : Int))) y19 else none) else none) else none) else none) else none) else some m1_1) = some r := H
    refine cs_seq ?_
    refine cs_region (l := [_]) ?_
    refine ls_val (v := .bool (decide (x6_1 < (32 : Int)))) rfl rfl (by kernel_rfl) (fun w => by kernel_rfl) ?_
    refine ls_end ?_
    refine qn_then ?_
    refine cs_seq ?_
    by_cases q7 : x6_1 < (32 : Int)
    · replace H := ite_t q7 H
      refine cs_know (c := true) (dec_t q7) 7 (by kernel_rfl) ?_
      refine cs_true (by kernel_rfl) ?_
      refine cs_skip' ?_
      refine qn_then ?_
      refine cs_seq ?_
      refine cs_block ?_
      refine cs_seq ?_
      refine cs_region (l := [_, _]) ?_
      refine ls_val (v := .int .i64 x6_1) rfl rfl (by kernel_rfl) (fun w => by kernel_rfl) ?_
      refine ls_val (v := .int .i64 x6_1) rfl rfl (by kernel_rfl) (fun w => by kernel_rfl) ?_
      refine ls_end ?_
      refine qn_then ?_
      refine cs_seq ?_
      refine cs_region (l := [_, _, _]) ?_
      refine ls_val (v := .int .i64 x6_1) rfl rfl (by kernel_rfl) (fun w => by kernel_rfl) ?_
      obtain ⟨q8, H⟩ := ite_need H
      refine ls_shiftl (k := .u32) (yk := .i64) (x := (1 : Int)) (y := x6_1) rfl rfl (by kernel_rfl) (fun w => by kernel_rfl) q8 ?_
      refine ls_val (v := .int .u32 (shlv .u32 (1 : Int) x6_1)) rfl rfl (by kernel_rfl) (fun w => by kernel_rfl) ?_
      refine ls_end ?_
      refine qn_then ?_
      refine cs_seq ?_
      refine cs_region (l := [_, _, _, _, _, _, _, _]) ?_
      refine ls_val (v := .int .u32 (shlv .u32 (1 : Int) x6_1)) rfl rfl (by kernel_rfl) (fun w => by kernel_rfl) ?_
      refine ls_val (v := .int .u32 (Int.fdiv (shlv .u32 (1 : Int) x6_1) 16)) rfl rfl (by kernel_rfl) (fun w => by kernel_rfl) ?_
      refine ls_val (v := .int .u32 (shlv .u32 (1 : Int) x6_1)) rfl rfl (by kernel_rfl) (fun w => by kernel_rfl) ?_
      obtain ⟨y9, hy10, H⟩ := lt_some H
      refine ls_val (v := .int .u32 (bits .and .u32 (shlv .u32 (1 : Int) x6_1) (15 : Int))) rfl rfl (by kernel_rfl) (fun w => by kernel_rfl) ?_
      refine ls_ren 14 (v := .int .u32 (bits .and .u32 (shlv .u32 (1 : Int) x6_1) (15 : Int))) (v' := .int .u32 y9) (by kernel_rfl) (by rw [hy10]) ?_
      obtain ⟨q11, H⟩ := ite_need H
      obtain ⟨q12, H⟩ := ite_need H
      refine ls_idxa1 (g := g6) (off := 0) (i := y9) (kk := .u32) (ln := 16) (e := 23) rfl rfl (by kernel_rfl) rfl (by kernel_rfl) (by kernel_rfl) (by kernel_rfl) (by kernel_rfl) q11 q12 ?_
      refine ls_load (a0 := ⟨g6, (0 + (y9).toNat), none⟩) (v := .int .u32 (t3.1.getD (y9).toNat 0)) (de := (TypeDesc.int .u32)) rfl rfl (by kernel_rfl) rfl (by kernel_rfl) (by kernel_rfl) (by kernel_rfl) (fun w hs => (hs.var (k := 2) (by exact rfl) (Sub4.trans (Sub4.all _) (Sub4.one (Value.int .u32) t3.1 0 (by have := t3.2; omega))))) ?_
      obtain ⟨y13, hy14, H⟩ := lt_some H
      refine ls_val (v := .int .u32 (bits .xor .u32 (Int.fdiv (shlv .u32 (1 : Int) x6_1) 16) (t3.1.getD (y9).toNat 0))) rfl rfl (by kernel_rfl) (fun w => by kernel_rfl) ?_
      refine ls_ren 17 (v := .int .u32 (bits .xor .u32 (Int.fdiv (shlv .u32 (1 : Int) x6_1) 16) (t3.1.getD (y9).toNat 0))) (v' := .int .u32 y13) (by kernel_rfl) (by rw [hy14]) ?_
      refine ls_val (v := .int .u32 y13) rfl rfl (by kernel_rfl) (fun w => by kernel_rfl) ?_
      refine ls_end ?_
      refine qn_then ?_
      refine cs_region (l := [_, _, _, _, _, _, _, _, _, _]) ?_
      refine ls_val (v := .int .i64 x6_1) rfl rfl (by kernel_rfl) (fun w => by kernel_rfl) ?_
      refine ls_val (v := .int .u32 y13) rfl rfl (by kernel_rfl) (fun w => by kernel_rfl) ?_
      refine ls_val (v := .int .u32 (Int.fdiv y13 16)) rfl rfl (by kernel_rfl) (fun w => by kernel_rfl) ?_
      refine ls_val (v := .int .u32 y13) rfl rfl (by kernel_rfl) (fun w => by kernel_rfl) ?_
      refine ls_val (v := .int .u32 (bits .and .u32 y13 (15 : Int))) rfl rfl (by kernel_rfl) (fun w => by kernel_rfl) ?_
      obtain ⟨q15, H⟩ := ite_need H
      obtain ⟨q16, H⟩ := ite_need H
      refine ls_idxa1 (g := g6) (off := 0) (i := bits .and .u32 y13 (15 : Int)) (kk := .u32) (ln := 16) (e := 23) rfl rfl (by kernel_rfl) rfl (by kernel_rfl) (by kernel_rfl) (by kernel_rfl) (by kernel_rfl) q15 q16 ?_
      obtain ⟨y17, hy18, H⟩ := lt_some H
      refine ls_load (a0 := ⟨g6, (0 + (bits .and .u32 y13 (15 : Int)).toNat), none⟩) (v := .int .u32 (t3.1.getD (bits .and .u32 y13 (15 : Int)).toNat 0)) (de := (TypeDesc.int .u32)) rfl rfl (by kernel_rfl) rfl (by kernel_rfl) (by kernel_rfl) (by kernel_rfl) (fun w hs => (hs.var (k := 2) (by exact rfl) (Sub4.trans (Sub4.all _) (Sub4.one (Value.int .u32) t3.1 0 (by have := t3.2; omega))))) ?_
      refine ls_ren 24 (v := .int .u32 (t3.1.getD (bits .and .u32 y13 (15 : Int)).toNat 0)) (v' := .int .u32 y17) (by kernel_rfl) (by rw [hy18]) ?_
      refine ls_val (v := .int .u32 (bits .xor .u32 (Int.fdiv y13 16) y17)) rfl rfl (by kernel_rfl) (fun w => by kernel_rfl) ?_
      refine ls_idxa1 (g := g2) (off := 0) (i := x6_1) (kk := .i64) (ln := 32) (e := 23) rfl rfl (by kernel_rfl) rfl (by kernel_rfl) (by kernel_rfl) (by kernel_rfl) (by kernel_rfl) q8 q7 ?_
      obtain ⟨y19, hy20, H⟩ := lt_some H
      refine ls_storec (g := g2) (off := (0 + (x6_1).toNat)) (v := .int .u32 (bits .xor .u32 (Int.fdiv y13 16) y17)) (vs := [Value.int .u32 (bits .xor .u32 (Int.fdiv y13 16) y17)]) (cs := en (Value.int .u32) m1_1.1) (ty := 51) 1 rfl rfl rfl (by kernel_rfl) (by kernel_rfl) (by kernel_rfl) (by exact rfl) (by kernel_rfl) (rfl : _ = 1) (one_cons rfl one_nil) (hl_of (Sub4.trans (Sub4.all _) (Sub4.one (Value.int .u32) m1_1.1 0 (by have := m1_1.2; omega))) (len_eq (rfl : _ = 1) (rfl : _ = 1))) (cs' := en (Value.int .u32) y19.1) (splc_in (Sub4.all _) ((splc_one (Value.int .u32) m1_1.1 (bits .xor .u32 (Int.fdiv y13 16) y17) (by have := m1_1.2; omega)).trans (congrArg (fun z : (Vc Int 32) => en (Value.int .u32) z.1) hy20)) (splc_all (len_eq (len_en _ y19) (len_en _ m1_1))) (hl_of (Sub4.one (Value.int .u32) m1_1.1 0 (by have := m1_1.2; omega)) (len_eq (rfl : _ = 1) (rfl : _ = 1)))) ?_
      refine ls_end ?_
      refine qn_block ?_
      refine qn_then ?_
      refine cs_region (l := [_, _]) ?_
      refine ls_val (v := .int .i64 (IntKind.wrap .i64 (x6_1 + (1 : Int)))) rfl rfl (by kernel_rfl) (fun w => by kernel_rfl) ?_
      refine ls_val (v := .int .i64 (IntKind.wrap .i64 (x6_1 + (1 : Int)))) rfl rfl (by kernel_rfl) (fun w => by kernel_rfl) ?_
      refine ls_end ?_
      refine qn_again k1 (sput (sput (sput s0 0 (some (Ck.var 51 g1 (en (Value.int .u32) (vrep 32 0).1)))) 1 (some (Ck.var 51 g2 (en (Value.int .u32) y19.1)))) 2 (some (Ck.var 48 g6 (en (Value.int .u32) t3.1)))) (Nat.le_refl _) ⟨_, (IntKind.wrap .i64 (x6_1 + (1 : Int))), y19, fr_next (fr_next (fr_next (fr_next (rfl) (by kernel_rfl)) (by kernel_rfl)) (by kernel_rfl)) (by kernel_rfl), rfl, H⟩ (sub_put (by exact rfl) (sub_put (by exact rfl) (sub_put (by exact rfl) (sub_nil _))))
    · replace H := ite_f q7 H
      refine cs_know (c := false) (dec_f q7) 7 (by kernel_rfl) ?_
      refine cs_false (by kernel_rfl) ?_
      refine cs_exit' ?_
      refine qx_then ?_
      refine qx_then ?_
      refine qx_same ?_
      refine qn_then ?_
      refine cs_seq ?_
      refine cs_region (l := [_, _]) ?_
      refine ls_loadagg (a := ⟨g2, 0, none⟩) (sub := en (Value.int .u32) m1_1.1) rfl rfl (by kernel_rfl) rfl (by kernel_rfl) (by kernel_rfl) (by kernel_rfl) (len_en _ m1_1) (fun w hs => (hs.vars (k := 1) (by exact rfl) (Sub4.all _))) ?_
      refine ls_storec (g := g1) (off := 0) (v := .agg ⟨en (Value.int .u32) m1_1.1⟩) (vs := en (Value.int .u32) m1_1.1) (cs := en (Value.int .u32) (vrep 32 0).1) (ty := 51) 0 rfl rfl rfl (by kernel_rfl) (by kernel_rfl) (by kernel_rfl) (by exact rfl) (by kernel_rfl) (len_en _ m1_1) (one_en (fun _ => rfl) _) (hl_of (Sub4.all _) (len_eq (len_en _ m1_1) (len_en _ (vrep 32 0)))) (cs' := en (Value.int .u32) m1_1.1) (splc_all (len_eq (len_en _ m1_1) (len_en _ (vrep 32 0)))) ?_
      refine ls_end ?_
      refine qn_then ?_
      refine cs_ret' ?_
      obtain rfl := Option.some.inj H
      refine qr_res (rs := [_]) rfl (fun w' hs => ⟨[.agg ⟨en (Value.int .u32) m1_1.1⟩], (.cell (by kernel_rfl) (run_cellres (by kernel_rfl) (by kernel_rfl) (len_en _ m1_1) (hs.holds 0 _ (by exact rfl))) (.nil)), (), rfl, hs.pick (ts := []) (cs := []) trivial (by decide)⟩)

/-! ### (shadowbox/crc.shift).of: function 25 -/
def crc_shift_of.l1 (a0 : (Vc Int 32)) (a1 : Int) : Nat → Int → Int → Option (Int)
  | 0, _, _ => none
  | k1 + 1, x5_1, x7_1 => (if x7_1 < (32 : Int) then (if 0 ≤ x7_1 then lt (bits .and .u32 (shrv .u32 a1 x7_1) (1 : Int)) fun y4 => (if y4 = (1 : Int) then lt (bits .xor .u32 x5_1 (a0.1.getD (x7_1).toNat 0)) fun y7 => (crc_shift_of.l1 a0 a1 k1) y7 (IntKind.wrap .i64 (x7_1 + (1 : Int))) else (crc_shift_of.l1 a0 a1 k1) x5_1 (IntKind.wrap .i64 (x7_1 + (1 : Int)))) else none) else some x5_1)
def crc_shift_of.f (k : Nat) (a0 : (Vc Int 32)) (a1 : Int) : Option (Int) :=
  crc_shift_of.l1 a0 a1 k (0 : Int) (0 : Int)
set_option maxRecDepth 100000 in
set_option maxHeartbeats 4000000 in
theorem crc_shift_of.calls (k : Nat) (a0 : (Vc Int 32)) (a1 : Int) (r : Int) (w : World) (H : crc_shift_of.f k a0 a1 = some r) :
    Calls Try.prog 25 #[.agg ⟨en (Value.int .u32) a0.1⟩, .int .u32 a1] w fun e w' => ∃ x : Unit, e = .returned (.int .u32 r) ∧ St (bw w) (stl []) w' := by
  unfold crc_shift_of.f at H
  refine enter (n := 22) Try.func25 rfl (by kernel_rfl) (by kernel_rfl) ?_
  refine cs_seq ?_
  refine cs_region (l := [_, _]) ?_
  refine ls_new rfl rfl (by kernel_rfl) 0 (fun g => .pointer (some ⟨g, 0, none⟩)) (.cells ⟨en (Value.int .u32) a0.1⟩ 51) (fun w => by kernel_rfl) ?_
  intro g1
  refine ls_val (v := .int .u32 (0 : Int)) rfl rfl (by kernel_rfl) (fun w => by kernel_rfl) ?_
  refine ls_end ?_
  refine qn_then ?_
  refine cs_seq ?_
  refine cs_region (l := [_]) ?_
  refine ls_val (v := .int .u32 (0 : Int)) rfl rfl (by kernel_rfl) (fun w => by kernel_rfl) ?_
  refine ls_end ?_
  refine qn_then ?_
  refine cs_seq ?_
  refine cs_seq ?_
  refine cs_region (l := [_]) ?_
  refine ls_val (v := .int .i64 (0 : Int)) rfl rfl (by kernel_rfl) (fun w => by kernel_rfl) ?_
  refine ls_end ?_
  refine qn_then ?_
  refine cs_block ?_
  refine cs_sub (sput s0 0 (some (Ck.var 51 g1 (en (Value.int .u32) a0.1)))) (sub_put (by exact rfl) (sub_nil _)) ?_
  refine cs_loop (fun kk f S => ∃ (fR : Fr) (x5_1 : Int) (x7_1 : Int), f = upd (upd (upd (upd fR 1 (.int .u32 a1)) 2 (.pointer (some ⟨g1, 0, none⟩))) 5 (.int .u32 x5_1)) 7 (.int .i64 x7_1) ∧ S = sput s0 0 (some (Ck.var 51 g1 (en (Value.int .u32) a0.1))) ∧ crc_shift_of.l1 a0 a1 kk x5_1 x7_1 = some r) k ?_ ?_ ?_
  · exact ⟨_, (0 : Int), (0 : Int), fr_next (fr_next (fr_next (fr_next (rfl) (by kernel_rfl)) (by kernel_rfl)) (by kernel_rfl)) (by kernel_rfl), rfl, H⟩
  · rintro f S ⟨fr1, x5_1, x7_1, rfl, rfl, H⟩; cases H
  · rintro k1 f S ⟨fr1, x5_1, x7_1, rfl, rfl, H⟩
    replace H : (if x7_1 < (32 : Int) then (if 0 ≤ x7_1 then lt (bits .and .u32 (shrv .u32 a1 x7_1) (1 : Int)) fun y4 => (if y4 = (1 : Int) then lt (bits .xor .u32 x5_1 (a0.1.getD (x7_1).toNat 0)) fun y7 => (crc_shift_of.l1 a0 a1 k1) y7 (IntKind.wrap .i64 (x7_1 + (1 : Int))) else (crc_shift_of.l1 a0 a1 k1) x5_1 (IntKind.wrap .i64 (x7_1 + (1 : Int)))) else none) else some x5_1) = some r := H
    refine cs_seq ?_
    refine cs_region (l := [_]) ?_
    refine ls_val (v := .bool (decide (x7_1 < (32 : Int)))) rfl rfl (by kernel_rfl) (fun w => by kernel_rfl) ?_
    refine ls_end ?_
    refine qn_then ?_
    refine cs_seq ?_
    by_cases q2 : x7_1 < (32 : Int)
    · replace H := ite_t q2 H
      refine cs_know (c := true) (dec_t q2) 8 (by kernel_rfl) ?_
      refine cs_true (by kernel_rfl) ?_
      refine cs_skip' ?_
      refine qn_then ?_
      refine cs_seq ?_
      refine cs_block ?_
      refine cs_seq ?_
      refine cs_region (l := [_, _]) ?_
      refine ls_val (v := .int .i64 x7_1) rfl rfl (by kernel_rfl) (fun w => by kernel_rfl) ?_
      refine ls_val (v := .int .i64 x7_1) rfl rfl (by kernel_rfl) (fun w => by kernel_rfl) ?_
      refine ls_end ?_
      refine qn_then ?_
      refine cs_seq ?_
      refine cs_region (l := [_, _, _, _, _]) ?_
      refine ls_val (v := .int .u32 a1) rfl rfl (by kernel_rfl) (fun w => by kernel_rfl) ?_
      refine ls_val (v := .int .i64 x7_1) rfl rfl (by kernel_rfl) (fun w => by kernel_rfl) ?_
      obtain ⟨q3, H⟩ := ite_need H
      refine ls_shiftr (k := .u32) (yk := .i64) (x := a1) (y := x7_1) rfl rfl (by kernel_rfl) (fun w => by kernel_rfl) q3 ?_
      obtain ⟨y4, hy5, H⟩ := lt_some H
      refine ls_val (v := .int .u32 (bits .and .u32 (shrv .u32 a1 x7_1) (1 : Int))) rfl rfl (by kernel_rfl) (fun w => by kernel_rfl) ?_
      refine ls_ren 13 (v := .int .u32 (bits .and .u32 (shrv .u32 a1 x7_1) (1 : Int))) (v' := .int .u32 y4) (by kernel_rfl) (by rw [hy5]) ?_
      refine ls_val (v := .bool (decide (y4 = (1 : Int)))) rfl rfl (by kernel_rfl) (fun w => by kernel_rfl) ?_
      refine ls_end ?_
      refine qn_then ?_
      by_cases q6 : y4 = (1 : Int)
      · replace H := ite_t q6 H
        refine cs_know (c := true) (dec_t q6) 14 (by kernel_rfl) ?_
        refine cs_true (by kernel_rfl) ?_
        refine cs_region (l := [_, _, _, _, _, _]) ?_
        refine ls_val (v := .int .u32 x5_1) rfl rfl (by kernel_rfl) (fun w => by kernel_rfl) ?_
        refine ls_val (v := .int .i64 x7_1) rfl rfl (by kernel_rfl) (fun w => by kernel_rfl) ?_
        refine ls_idxa1 (g := g1) (off := 0) (i := x7_1) (kk := .i64) (ln := 32) (e := 23) rfl rfl (by kernel_rfl) rfl (by kernel_rfl) (by kernel_rfl) (by kernel_rfl) (by kernel_rfl) q3 q2 ?_
        refine ls_load (a0 := ⟨g1, (0 + (x7_1).toNat), none⟩) (v := .int .u32 (a0.1.getD (x7_1).toNat 0)) (de := (TypeDesc.int .u32)) rfl rfl (by kernel_rfl) rfl (by kernel_rfl) (by kernel_rfl) (by kernel_rfl) (fun w hs => (hs.var (k := 0) (by exact rfl) (Sub4.trans (Sub4.all _) (Sub4.one (Value.int .u32) a0.1 0 (by have := a0.2; omega))))) ?_
        obtain ⟨y7, hy8, H⟩ := lt_some H
        refine ls_val (v := .int .u32 (bits .xor .u32 x5_1 (a0.1.getD (x7_1).toNat 0))) rfl rfl (by kernel_rfl) (fun w => by kernel_rfl) ?_
        refine ls_ren 19 (v := .int .u32 (bits .xor .u32 x5_1 (a0.1.getD (x7_1).toNat 0))) (v' := .int .u32 y7) (by kernel_rfl) (by rw [hy8]) ?_
        refine ls_val (v := .int .u32 y7) rfl rfl (by kernel_rfl) (fun w => by kernel_rfl) ?_
        refine ls_end ?_
        refine qn_block ?_
        refine qn_then ?_
        refine cs_region (l := [_, _]) ?_
        refine ls_val (v := .int .i64 (IntKind.wrap .i64 (x7_1 + (1 : Int)))) rfl rfl (by kernel_rfl) (fun w => by kernel_rfl) ?_
        refine ls_val (v := .int .i64 (IntKind.wrap .i64 (x7_1 + (1 : Int)))) rfl rfl (by kernel_rfl) (fun w => by kernel_rfl) ?_
        refine ls_end ?_
        refine qn_again k1 (sput s0 0 (some (Ck.var 51 g1 (en (Value.int .u32) a0.1)))) (Nat.le_refl _) ⟨_, y7, (IntKind.wrap .i64 (x7_1 + (1 : Int))), fr_next (fr_next (fr_next (fr_next (rfl) (by kernel_rfl)) (by kernel_rfl)) (by kernel_rfl)) (by kernel_rfl), rfl, H⟩ (sub_put (by exact rfl) (sub_nil _))
      · replace H := ite_f q6 H
        refine cs_know (c := false) (dec_f q6) 14 (by kernel_rfl) ?_
        refine cs_false (by kernel_rfl) ?_
        refine cs_skip' ?_
        refine qn_block ?_
        refine qn_then ?_
        refine cs_region (l := [_, _]) ?_
        refine ls_val (v := .int .i64 (IntKind.wrap .i64 (x7_1 + (1 : Int)))) rfl rfl (by kernel_rfl) (fun w => by kernel_rfl) ?_
        refine ls_val (v := .int .i64 (IntKind.wrap .i64 (x7_1 + (1 : Int)))) rfl rfl (by kernel_rfl) (fun w => by kernel_rfl) ?_
        refine ls_end ?_
        refine qn_again k1 (sput s0 0 (some (Ck.var 51 g1 (en (Value.int .u32) a0.1)))) (Nat.le_refl _) ⟨_, x5_1, (IntKind.wrap .i64 (x7_1 + (1 : Int))), fr_next (fr_next (fr_next (fr_next (rfl) (by kernel_rfl)) (by kernel_rfl)) (by kernel_rfl)) (by kernel_rfl), rfl, H⟩ (sub_put (by exact rfl) (sub_nil _))
    · replace H := ite_f q2 H
      refine cs_know (c := false) (dec_f q2) 8 (by kernel_rfl) ?_
      refine cs_false (by kernel_rfl) ?_
      refine cs_exit' ?_
      refine qx_then ?_
      refine qx_then ?_
      refine qx_same ?_
      refine qn_then ?_
      refine cs_seq ?_
      refine cs_region (l := [_, _]) ?_
      refine ls_val (v := .int .u32 x5_1) rfl rfl (by kernel_rfl) (fun w => by kernel_rfl) ?_
      refine ls_val (v := .int .u32 x5_1) rfl rfl (by kernel_rfl) (fun w => by kernel_rfl) ?_
      refine ls_end ?_
      refine qn_then ?_
      refine cs_ret' ?_
      obtain rfl := Option.some.inj H
      refine qr_res (rs := [_]) rfl (fun w' hs => ⟨[.int .u32 x5_1], (res_tmp (by kernel_rfl) (.nil)), (), rfl, hs.pick (ts := []) (cs := []) trivial (by decide)⟩)

/-! ### (shadowbox/crc.shift).twice: function 26 -/
def crc_shift_twice.l1 (a0 : (Vc Int 32)) : Nat → Int → ((Vc Int 32)) → Option ((Vc Int 32))
  | 0, _, _ => none
  | k1 + 1, x7_1, m2_1 => (if x7_1 < (32 : Int) then (if 0 ≤ x7_1 then (crc_shift_of.f k1 a0 (a0.1.getD (x7_1).toNat 0)).bind fun t6 => lt (vset m2_1 (x7_1).toNat t6) fun y9 => (crc_shift_twice.l1 a0 k1) (IntKind.wrap .i64 (x7_1 + (1 : Int))) y9 else none) else some m2_1)
def crc_shift_twice.f (k : Nat) (a0 : (Vc Int 32)) : Option ((Vc Int 32)) :=
  crc_shift_twice.l1 a0 k (0 : Int) (vrep 32 0)
set_option maxRecDepth 100000 in
set_option maxHeartbeats 4000000 in
theorem crc_shift_twice.calls (k : Nat) (a0 : (Vc Int 32)) (r : (Vc Int 32)) (w : World) (H : crc_shift_twice.f k a0 = some r) :
    Calls Try.prog 26 #[.agg ⟨en (Value.int .u32) a0.1⟩] w fun e w' => ∃ x : Unit, e = .returned (.agg ⟨en (Value.int .u32) r.1⟩) ∧ St (bw w) (stl []) w' := by
  unfold crc_shift_twice.f at H
  refine enter (n := 18) Try.func26 rfl (by kernel_rfl) (by kernel_rfl) ?_
  refine cs_seq ?_
  refine cs_region (l := [_, _]) ?_
  refine ls_new rfl rfl (by kernel_rfl) 0 (fun g => .pointer (some ⟨g, 0, none⟩)) (.cells ⟨en (Value.int .u32) a0.1⟩ 51) (fun w => by kernel_rfl) ?_
  intro g1
  refine ls_new rfl rfl (by kernel_rfl) 1 (fun g => .pointer (some ⟨g, 0, none⟩)) (.cells ⟨en (Value.int .u32) (vrep 32 0).1⟩ 51) (fun w => by kernel_rfl) ?_
  intro g2
  refine ls_end ?_
  refine qn_then ?_
  refine cs_seq ?_
  refine cs_region (l := [_]) ?_
  refine ls_new rfl rfl (by kernel_rfl) 2 (fun g => .pointer (some ⟨g, 0, none⟩)) (.cells ⟨en (Value.int .u32) (vrep 32 0).1⟩ 51) (fun w => by kernel_rfl) ?_
  intro g3
  refine ls_end ?_
  refine qn_then ?_
  refine cs_seq ?_
  refine cs_seq ?_
  refine cs_region (l := [_, _]) ?_
  refine ls_loadagg (a := ⟨g1, 0, none⟩) (sub := en (Value.int .u32) a0.1) rfl rfl (by kernel_rfl) rfl (by kernel_rfl) (by kernel_rfl) (by kernel_rfl) (len_en _ a0) (fun w hs => (hs.vars (k := 0) (by exact rfl) (Sub4.all _))) ?_
  refine ls_val (v := .int .i64 (0 : Int)) rfl rfl (by kernel_rfl) (fun w => by kernel_rfl) ?_
  refine ls_end ?_
  refine qn_then ?_
  refine cs_block ?_
  refine cs_sub (sput (sput (sput s0 0 (some (Ck.var 51 g1 (en (Value.int .u32) a0.1)))) 1 (some (Ck.var 51 g2 (en (Value.int .u32) (vrep 32 0).1)))) 2 (some (Ck.var 51 g3 (en (Value.int .u32) (vrep 32 0).1)))) (sub_put (by exact rfl) (sub_put (by exact rfl) (sub_put (by exact rfl) (sub_nil _)))) ?_
  refine cs_loop (fun kk f S => ∃ (fR : Fr) (x7_1 : Int) (m2_1 : (Vc Int 32)), f = upd (upd (upd (upd (upd fR 1 (.pointer (some ⟨g1, 0, none⟩))) 2 (.pointer (some ⟨g2, 0, none⟩))) 3 (.pointer (some ⟨g3, 0, none⟩))) 6 (.agg ⟨en (Value.int .u32) a0.1⟩)) 7 (.int .i64 x7_1) ∧ S = sput (sput (sput s0 0 (some (Ck.var 51 g1 (en (Value.int .u32) a0.1)))) 1 (some (Ck.var 51 g2 (en (Value.int .u32) (vrep 32 0).1)))) 2 (some (Ck.var 51 g3 (en (Value.int .u32) m2_1.1))) ∧ crc_shift_twice.l1 a0 kk x7_1 m2_1 = some r) k ?_ ?_ ?_
  · exact ⟨_, (0 : Int), (vrep 32 0), fr_next (fr_next (fr_next (fr_next (fr_next (rfl) (by kernel_rfl)) (by kernel_rfl)) (by kernel_rfl)) (by kernel_rfl)) (by kernel_rfl), rfl, H⟩
  · rintro f S ⟨fr1, x7_1, m2_1, rfl, rfl, H⟩; cases H
  · rintro k1 f S ⟨fr1, x7_1, m2_1, rfl, rfl, H⟩
    replace H : (if x7_1 < (32 : Int) then (if 0 ≤ x7_1 then (crc_shift_of.f k1 a0 (a0.1.getD (x7_1).toNat 0)).bind fun t6 => lt (vset m2_1 (x7_1).toNat t6) fun y9 => (crc_shift_twice.l1 a0 k1) (IntKind.wrap .i64 (x7_1 + (1 : Int))) y9 else none) else some m2_1) = some r := H
    refine cs_seq ?_
    refine cs_region (l := [_]) ?_
    refine ls_val (v := .bool (decide (x7_1 < (32 : Int)))) rfl rfl (by kernel_rfl) (fun w => by kernel_rfl) ?_
    refine ls_end ?_
    refine qn_then ?_
    refine cs_seq ?_
    by_cases q4 : x7_1 < (32 : Int)
    · replace H := ite_t q4 H
      refine cs_know (c := true) (dec_t q4) 8 (by kernel_rfl) ?_
      refine cs_true (by kernel_rfl) ?_
      refine cs_skip' ?_
      refine qn_then ?_
      refine cs_seq ?_
      refine cs_block ?_
      refine cs_seq ?_
      refine cs_region (l := [_, _, _, _]) ?_
      refine ls_val (v := .int .i64 x7_1) rfl rfl (by kernel_rfl) (fun w => by kernel_rfl) ?_
      obtain ⟨q5, H⟩ := ite_need H
      refine ls_index (l := a0.1) (E := (Value.int .u32)) (i := x7_1) (kk := .i64) (ln := 32) (e := 23) rfl rfl (by kernel_rfl) a0.2 rfl (by kernel_rfl) (by kernel_rfl) (by kernel_rfl) (by kernel_rfl) (by kernel_rfl) q5 q4 0 ?_
      refine ls_val (v := .int .i64 x7_1) rfl rfl (by kernel_rfl) (fun w => by kernel_rfl) ?_
      refine ls_val (v := .int .u32 (a0.1.getD (x7_1).toNat 0)) rfl rfl (by kernel_rfl) (fun w => by kernel_rfl) ?_
      refine ls_end ?_
      refine qn_then ?_
      refine cs_region (l := [_, _, _, _, _, _]) ?_
      refine ls_val (v := .int .i64 x7_1) rfl rfl (by kernel_rfl) (fun w => by kernel_rfl) ?_
      refine ls_loadagg (a := ⟨g1, 0, none⟩) (sub := en (Value.int .u32) a0.1) rfl rfl (by kernel_rfl) rfl (by kernel_rfl) (by kernel_rfl) (by kernel_rfl) (len_en _ a0) (fun w hs => (hs.vars (k := 0) (by exact rfl) (Sub4.all _))) ?_
      refine ls_val (v := .int .u32 (a0.1.getD (x7_1).toNat 0)) rfl rfl (by kernel_rfl) (fun w => by kernel_rfl) ?_
      obtain ⟨t6, hc7, H⟩ := bind_some H
      refine ls_call (fid := 25) (vals := #[.agg ⟨en (Value.int .u32) a0.1⟩, .int .u32 (a0.1.getD (x7_1).toNat 0)]) (X := Unit) (fun x => .int .u32 t6) (fun x => stl []) 3 rfl rfl (by kernel_rfl) (fun w => by kernel_rfl) (fun w hs => crc_shift_of.calls k1 a0 (a0.1.getD (x7_1).toNat 0) t6 w  hc7) ?_
      intro x8
      refine ls_idxa1 (g := g3) (off := 0) (i := x7_1) (kk := .i64) (ln := 32) (e := 23) rfl rfl (by kernel_rfl) rfl (by kernel_rfl) (by kernel_rfl) (by kernel_rfl) (by kernel_rfl) q5 q4 ?_
      obtain ⟨y9, hy10, H⟩ := lt_some H
      refine ls_storec (g := g3) (off := (0 + (x7_1).toNat)) (v := .int .u32 t6) (vs := [Value.int .u32 t6]) (cs := en (Value.int .u32) m2_1.1) (ty := 51) 2 rfl rfl rfl (by kernel_rfl) (by kernel_rfl) (by kernel_rfl) (by exact rfl) (by kernel_rfl) (rfl : _ = 1) (one_cons rfl one_nil) (hl_of (Sub4.trans (Sub4.all _) (Sub4.one (Value.int .u32) m2_1.1 0 (by have := m2_1.2; omega))) (len_eq (rfl : _ = 1) (rfl : _ = 1))) (cs' := en (Value.int .u32) y9.1) (splc_in (Sub4.all _) ((splc_one (Value.int .u32) m2_1.1 t6 (by have := m2_1.2; omega)).trans (congrArg (fun z : (Vc Int 32) => en (Value.int .u32) z.1) hy10)) (splc_all (len_eq (len_en _ y9) (len_en _ m2_1))) (hl_of (Sub4.one (Value.int .u32) m2_1.1 0 (by have := m2_1.2; omega)) (len_eq (rfl : _ = 1) (rfl : _ = 1)))) ?_
      refine ls_end ?_
      refine qn_block ?_
      refine qn_then ?_
      refine cs_region (l := [_, _]) ?_
      refine ls_val (v := .int .i64 (IntKind.wrap .i64 (x7_1 + (1 : Int)))) rfl rfl (by kernel_rfl) (fun w => by kernel_rfl) ?_
      refine ls_val (v := .int .i64 (IntKind.wrap .i64 (x7_1 + (1 : Int)))) rfl rfl (by kernel_rfl) (fun w => by kernel_rfl) ?_
      refine ls_end ?_
      refine qn_again k1 (sput (sput (sput s0 0 (some (Ck.var 51 g1 (en (Value.int .u32) a0.1)))) 1 (some (Ck.var 51 g2 (en (Value.int .u32) (vrep 32 0).1)))) 2 (some (Ck.var 51 g3 (en (Value.int .u32) y9.1)))) (Nat.le_refl _) ⟨_, (IntKind.wrap .i64 (x7_1 + (1 : Int))), y9, fr_next (fr_next (fr_next (fr_next (fr_next (rfl) (by kernel_rfl)) (by kernel_rfl)) (by kernel_rfl)) (by kernel_rfl)) (by kernel_rfl), rfl, H⟩ (sub_put (by exact rfl) (sub_put (by exact rfl) (sub_put (by exact rfl) (sub_nil _))))
    · replace H := ite_f q4 H
      refine cs_know (c := false) (dec_f q4) 8 (by kernel_rfl) ?_
      refine cs_false (by kernel_rfl) ?_
      refine cs_exit' ?_
      refine qx_then ?_
      refine qx_then ?_
      refine qx_same ?_
      refine qn_then ?_
      refine cs_seq ?_
      refine cs_region (l := [_, _]) ?_
      refine ls_loadagg (a := ⟨g3, 0, none⟩) (sub := en (Value.int .u32) m2_1.1) rfl rfl (by kernel_rfl) rfl (by kernel_rfl) (by kernel_rfl) (by kernel_rfl) (len_en _ m2_1) (fun w hs => (hs.vars (k := 2) (by exact rfl) (Sub4.all _))) ?_
      refine ls_storec (g := g2) (off := 0) (v := .agg ⟨en (Value.int .u32) m2_1.1⟩) (vs := en (Value.int .u32) m2_1.1) (cs := en (Value.int .u32) (vrep 32 0).1) (ty := 51) 1 rfl rfl rfl (by kernel_rfl) (by kernel_rfl) (by kernel_rfl) (by exact rfl) (by kernel_rfl) (len_en _ m2_1) (one_en (fun _ => rfl) _) (hl_of (Sub4.all _) (len_eq (len_en _ m2_1) (len_en _ (vrep 32 0)))) (cs' := en (Value.int .u32) m2_1.1) (splc_all (len_eq (len_en _ m2_1) (len_en _ (vrep 32 0)))) ?_
      refine ls_end ?_
      refine qn_then ?_
      refine cs_ret' ?_
      obtain rfl := Option.some.inj H
      refine qr_res (rs := [_]) rfl (fun w' hs => ⟨[.agg ⟨en (Value.int .u32) m2_1.1⟩], (.cell (by kernel_rfl) (run_cellres (by kernel_rfl) (by kernel_rfl) (len_en _ m2_1) (hs.holds 1 _ (by exact rfl))) (.nil)), (), rfl, hs.pick (ts := []) (cs := []) trivial (by decide)⟩)

/-! ### shadowbox/crc.Join: function 10 -/
def crc_Join.l1 (a1 : Int) (a2 : Int) : Nat → Int → Int → ((Vc Int 32)) → Option (Int)
  | 0, _, _, _ => none
  | k1 + 1, x0_1, x13_1, m0_1 => (if x13_1 < (63 : Int) then (if 0 ≤ x13_1 then (if (shrv .i64 a2 x13_1) = (0 : Int) then some (bits .xor .u32 x0_1 a1) else lt (bits .and .i64 (shrv .i64 a2 x13_1) (1 : Int)) fun y9 => (if y9 = (1 : Int) then (crc_shift_of.f k1 m0_1 x0_1).bind fun t12 => (crc_shift_twice.f k1 m0_1).bind fun t15 => (crc_Join.l1 a1 a2 k1) t12 (IntKind.wrap .i64 (x13_1 + (1 : Int))) t15 else (crc_shift_twice.f k1 m0_1).bind fun t18 => (crc_Join.l1 a1 a2 k1) x0_1 (IntKind.wrap .i64 (x13_1 + (1 : Int))) t18)) else none) else some (bits .xor .u32 x0_1 a1))
def crc_Join.f (k : Nat) (a0 : Int) (a1 : Int) (a2 : Int) : Option (Int) :=
  (if a2 < (1 : Int) then some a0 else (crc_byteShift.f k).bind fun t2 => crc_Join.l1 a1 a2 k a0 (0 : Int) t2)
set_option maxRecDepth 100000 in
set_option maxHeartbeats 4000000 in
theorem crc_Join.calls (k : Nat) (a0 : Int) (a1 : Int) (a2 : Int) (r : Int) (w : World) (H : crc_Join.f k a0 a1 a2 = some r) :
    Calls Try.prog 10 #[.int .u32 a0, .int .u32 a1, .int .i64 a2] w fun e w' => ∃ x : Unit, e = .returned (.int .u32 r) ∧ St (bw w) (stl []) w' := by
  unfold crc_Join.f at H
  refine enter (n := 34) Try.func10 rfl (by kernel_rfl) (by kernel_rfl) ?_
  refine cs_seq ?_
  refine cs_region (l := [_]) ?_
  refine ls_val (v := .int .u32 (0 : Int)) rfl rfl (by kernel_rfl) (fun w => by kernel_rfl) ?_
  refine ls_end ?_
  refine qn_then ?_
  refine cs_seq ?_
  refine cs_seq ?_
  refine cs_region (l := [_, _]) ?_
  refine ls_val (v := .int .i64 a2) rfl rfl (by kernel_rfl) (fun w => by kernel_rfl) ?_
  refine ls_val (v := .bool (decide (a2 < (1 : Int)))) rfl rfl (by kernel_rfl) (fun w => by kernel_rfl) ?_
  refine ls_end ?_
  refine qn_then ?_
  by_cases q1 : a2 < (1 : Int)
  · replace H := ite_t q1 H
    refine cs_know (c := true) (dec_t q1) 10 (by kernel_rfl) ?_
    refine cs_true (by kernel_rfl) ?_
    refine cs_seq ?_
    refine cs_region (l := [_, _]) ?_
    refine ls_val (v := .int .u32 a0) rfl rfl (by kernel_rfl) (fun w => by kernel_rfl) ?_
    refine ls_val (v := .int .u32 a0) rfl rfl (by kernel_rfl) (fun w => by kernel_rfl) ?_
    refine ls_end ?_
    refine qn_then ?_
    refine cs_ret' ?_
    refine qr_then ?_
    obtain rfl := Option.some.inj H
    refine qr_res (rs := [_]) rfl (fun w' hs => ⟨[.int .u32 a0], (res_tmp (by kernel_rfl) (.nil)), (), rfl, hs.pick (ts := []) (cs := []) trivial (by decide)⟩)
  · replace H := ite_f q1 H
    refine cs_know (c := false) (dec_f q1) 10 (by kernel_rfl) ?_
    refine cs_false (by kernel_rfl) ?_
    refine cs_skip' ?_
    refine qn_then ?_
    refine cs_seq ?_
    refine cs_region (l := [_, _, _]) ?_
    obtain ⟨t2, hc3, H⟩ := bind_some H
    refine ls_call (fid := 24) (vals := #[]) (X := Unit) (fun x => .agg ⟨en (Value.int .u32) t2.1⟩) (fun x => stl []) 0 rfl rfl (by kernel_rfl) (fun w => by kernel_rfl) (fun w hs => crc_byteShift.calls k  t2 w  hc3) ?_
    intro x4
    refine ls_new rfl rfl (by kernel_rfl) 0 (fun g => .pointer (some ⟨g, 0, none⟩)) (.cells ⟨en (Value.int .u32) (vrep 32 0).1⟩ 51) (fun w => by kernel_rfl) ?_
    intro g5
    refine ls_storec (g := g5) (off := 0) (v := .agg ⟨en (Value.int .u32) t2.1⟩) (vs := en (Value.int .u32) t2.1) (cs := en (Value.int .u32) (vrep 32 0).1) (ty := 51) 0 rfl rfl rfl (by kernel_rfl) (by kernel_rfl) (by kernel_rfl) (by exact rfl) (by kernel_rfl) (len_en _ t2) (one_en (fun _ => rfl) _) (hl_of (Sub4.all _) (len_eq (len_en _ t2) (len_en _ (vrep 32 0)))) (cs' := en (Value.int .u32) t2.1) (splc_all (len_eq (len_en _ t2) (len_en _ (vrep 32 0)))) ?_
    refine ls_end ?_
    refine qn_then ?_
    refine cs_seq ?_
    refine cs_seq ?_
    refine cs_region (l := [_]) ?_
    refine ls_val (v := .int .i64 (0 : Int)) rfl rfl (by kernel_rfl) (fun w => by kernel_rfl) ?_
    refine ls_end ?_
    refine qn_then ?_
    refine cs_block ?_
    refine cs_sub (sput s0 0 (some (Ck.var 51 g5 (en (Value.int .u32) t2.1)))) (sub_put (by exact rfl) (sub_nil _)) ?_
    refine cs_loop (fun kk f S => ∃ (fR : Fr) (x0_1 : Int) (x13_1 : Int) (m0_1 : (Vc Int 32)), f = upd (upd (upd (upd (upd fR 0 (.int .u32 x0_1)) 1 (.int .u32 a1)) 2 (.int .i64 a2)) 7 (.pointer (some ⟨g5, 0, none⟩))) 13 (.int .i64 x13_1) ∧ S = sput s0 0 (some (Ck.var 51 g5 (en (Value.int .u32) m0_1.1))) ∧ crc_Join.l1 a1 a2 kk x0_1 x13_1 m0_1 = some r) k ?_ ?_ ?_
    · exact ⟨_, a0, (0 : Int), t2, fr_next (fr_next (fr_next (fr_next (fr_next (rfl) (by kernel_rfl)) (by kernel_rfl)) (by kernel_rfl)) (by kernel_rfl)) (by kernel_rfl), rfl, H⟩
    · rintro f S ⟨fr1, x0_1, x13_1, m0_1, rfl, rfl, H⟩; cases H
    · rintro k1 f S ⟨fr1, x0_1, x13_1, m0_1, rfl, rfl, H⟩
      replace H : (if x13_1 < (63 : Int) then (if 0 ≤ x13_1 then (if (shrv .i64 a2 x13_1) = (0 : Int) then some (bits .xor .u32 x0_1 a1) else lt (bits .and .i64 (shrv .i64 a2 x13_1) (1 : Int)) fun y9 => (if y9 = (1 : Int) then (crc_shift_of.f k1 m0_1 x0_1).bind fun t12 => (crc_shift_twice.f k1 m0_1).bind fun t15 => (crc_Join.l1 a1 a2 k1) t12 (IntKind.wrap .i64 (x13_1 + (1 : Int))) t15 else (crc_shift_twice.f k1 m0_1).bind fun t18 => (crc_Join.l1 a1 a2 k1) x0_1 (IntKind.wrap .i64 (x13_1 + (1 : Int))) t18)) else none) else some (bits .xor .u32 x0_1 a1)) = some r := H
      refine cs_seq ?_
      refine cs_region (l := [_]) ?_
      refine ls_val (v := .bool (decide (x13_1 < (63 : Int)))) rfl rfl (by kernel_rfl) (fun w => by kernel_rfl) ?_
      refine ls_end ?_
      refine qn_then ?_
      refine cs_seq ?_
      by_cases q6 : x13_1 < (63 : Int)
      · replace H := ite_t q6 H
        refine cs_know (c := true) (dec_t q6) 14 (by kernel_rfl) ?_
        refine cs_true (by kernel_rfl) ?_
        refine cs_skip' ?_
        refine qn_then ?_
        refine cs_seq ?_
        refine cs_block ?_
        refine cs_seq ?_
        refine cs_region (l := [_, _]) ?_
        refine ls_val (v := .int .i64 x13_1) rfl rfl (by kernel_rfl) (fun w => by kernel_rfl) ?_
        refine ls_val (v := .int .i64 x13_1) rfl rfl (by kernel_rfl) (fun w => by kernel_rfl) ?_
        refine ls_end ?_
        refine qn_then ?_
        refine cs_seq ?_
        refine cs_seq ?_
        refine cs_region (l := [_, _, _, _]) ?_
        refine ls_val (v := .int .i64 a2) rfl rfl (by kernel_rfl) (fun w => by kernel_rfl) ?_
        refine ls_val (v := .int .i64 x13_1) rfl rfl (by kernel_rfl) (fun w => by kernel_rfl) ?_
        obtain ⟨q7, H⟩ := ite_need H
        refine ls_shiftr (k := .i64) (yk := .i64) (x := a2) (y := x13_1) rfl rfl (by kernel_rfl) (fun w => by kernel_rfl) q7 ?_
        refine ls_val (v := .bool (decide ((shrv .i64 a2 x13_1) = (0 : Int)))) rfl rfl (by kernel_rfl) (fun w => by kernel_rfl) ?_
        refine ls_end ?_
        refine qn_then ?_
        by_cases q8 : (shrv .i64 a2 x13_1) = (0 : Int)
        · replace H := ite_t q8 H
          refine cs_know (c := true) (dec_t q8) 19 (by kernel_rfl) ?_
          refine cs_true (by kernel_rfl) ?_
          refine cs_exit' ?_
          refine qx_then ?_
          refine qx_other (by decide) ?_
          refine qx_then ?_
          refine qx_then ?_
          refine qx_same ?_
          refine qn_then ?_
          refine cs_seq ?_
          refine cs_region (l := [_, _, _, _]) ?_
          refine ls_val (v := .int .u32 x0_1) rfl rfl (by kernel_rfl) (fun w => by kernel_rfl) ?_
          refine ls_val (v := .int .u32 a1) rfl rfl (by kernel_rfl) (fun w => by kernel_rfl) ?_
          refine ls_val (v := .int .u32 (bits .xor .u32 x0_1 a1)) rfl rfl (by kernel_rfl) (fun w => by kernel_rfl) ?_
          refine ls_val (v := .int .u32 (bits .xor .u32 x0_1 a1)) rfl rfl (by kernel_rfl) (fun w => by kernel_rfl) ?_
          refine ls_end ?_
          refine qn_then ?_
          refine cs_ret' ?_
          obtain rfl := Option.some.inj H
          refine qr_res (rs := [_]) rfl (fun w' hs => ⟨[.int .u32 (bits .xor .u32 x0_1 a1)], (res_tmp (by kernel_rfl) (.nil)), (), rfl, hs.pick (ts := []) (cs := []) trivial (by decide)⟩)
        · replace H := ite_f q8 H
          refine cs_know (c := false) (dec_f q8) 19 (by kernel_rfl) ?_
          refine cs_false (by kernel_rfl) ?_
          refine cs_skip' ?_
          refine qn_then ?_
          refine cs_seq ?_
          refine cs_seq ?_
          refine cs_region (l := [_, _, _, _, _]) ?_
          refine ls_val (v := .int .i64 a2) rfl rfl (by kernel_rfl) (fun w => by kernel_rfl) ?_
          refine ls_val (v := .int .i64 x13_1) rfl rfl (by kernel_rfl) (fun w => by kernel_rfl) ?_
          refine ls_shiftr (k := .i64) (yk := .i64) (x := a2) (y := x13_1) rfl rfl (by kernel_rfl) (fun w => by kernel_rfl) q7 ?_
          obtain ⟨y9, hy10, H⟩ := lt_some H
          refine ls_val (v := .int .i64 (bits .and .i64 (shrv .i64 a2 x13_1) (1 : Int))) rfl rfl (by kernel_rfl) (fun w => by kernel_rfl) ?_
          refine ls_ren 23 (v := .int .i64 (bits .and .i64 (shrv .i64 a2 x13_1) (1 : Int))) (v' := .int .i64 y9) (by kernel_rfl) (by rw [hy10]) ?_
          refine ls_val (v := .bool (decide (y9 = (1 : Int)))) rfl rfl (by kernel_rfl) (fun w => by kernel_rfl) ?_
          refine ls_end ?_
          refine qn_then ?_
          by_cases q11 : y9 = (1 : Int)
          · replace H := ite_t q11 H
            refine cs_know (c := true) (dec_t q11) 24 (by kernel_rfl) ?_
            refine cs_true (by kernel_rfl) ?_
            refine cs_region (l := [_, _, _, _]) ?_
            refine ls_loadagg (a := ⟨g5, 0, none⟩) (sub := en (Value.int .u32) m0_1.1) rfl rfl (by kernel_rfl) rfl (by kernel_rfl) (by kernel_rfl) (by kernel_rfl) (len_en _ m0_1) (fun w hs => (hs.vars (k := 0) (by exact rfl) (Sub4.all _))) ?_
            refine ls_val (v := .int .u32 x0_1) rfl rfl (by kernel_rfl) (fun w => by kernel_rfl) ?_
            obtain ⟨t12, hc13, H⟩ := bind_some H
            refine ls_call (fid := 25) (vals := #[.agg ⟨en (Value.int .u32) m0_1.1⟩, .int .u32 x0_1]) (X := Unit) (fun x => .int .u32 t12) (fun x => stl []) 1 rfl rfl (by kernel_rfl) (fun w => by kernel_rfl) (fun w hs => crc_shift_of.calls k1 m0_1 x0_1 t12 w  hc13) ?_
            intro x14
            refine ls_val (v := .int .u32 t12) rfl rfl (by kernel_rfl) (fun w => by kernel_rfl) ?_
            refine ls_end ?_
            refine qn_then ?_
            refine cs_region (l := [_, _, _]) ?_
            refine ls_loadagg (a := ⟨g5, 0, none⟩) (sub := en (Value.int .u32) m0_1.1) rfl rfl (by kernel_rfl) rfl (by kernel_rfl) (by kernel_rfl) (by kernel_rfl) (len_en _ m0_1) (fun w hs => (hs.vars (k := 0) (by exact rfl) (Sub4.all _))) ?_
            obtain ⟨t15, hc16, H⟩ := bind_some H
            refine ls_call (fid := 26) (vals := #[.agg ⟨en (Value.int .u32) m0_1.1⟩]) (X := Unit) (fun x => .agg ⟨en (Value.int .u32) t15.1⟩) (fun x => stl []) 1 rfl rfl (by kernel_rfl) (fun w => by kernel_rfl) (fun w hs => crc_shift_twice.calls k1 m0_1 t15 w  hc16) ?_
            intro x17
            refine ls_storec (g := g5) (off := 0) (v := .agg ⟨en (Value.int .u32) t15.1⟩) (vs := en (Value.int .u32) t15.1) (cs := en (Value.int .u32) m0_1.1) (ty := 51) 0 rfl rfl rfl (by kernel_rfl) (by kernel_rfl) (by kernel_rfl) (by exact rfl) (by kernel_rfl) (len_en _ t15) (one_en (fun _ => rfl) _) (hl_of (Sub4.all _) (len_eq (len_en _ t15) (len_en _ m0_1))) (cs' := en (Value.int .u32) t15.1) (splc_all (len_eq (len_en _ t15) (len_en _ m0_1))) ?_
            refine ls_end ?_
            refine qn_block ?_
            refine qn_then ?_
            refine cs_region (l := [_, _]) ?_
            refine ls_val (v := .int .i64 (IntKind.wrap .i64 (x13_1 + (1 : Int)))) rfl rfl (by kernel_rfl) (fun w => by kernel_rfl) ?_
            refine ls_val (v := .int .i64 (IntKind.wrap .i64 (x13_1 + (1 : Int)))) rfl rfl (by kernel_rfl) (fun w => by kernel_rfl) ?_
            refine ls_end ?_
            refine qn_again k1 (sput s0 0 (some (Ck.var 51 g5 (en (Value.int .u32) t15.1)))) (Nat.le_refl _) ⟨_, t12, (IntKind.wrap .i64 (x13_1 + (1 : Int))), t15, fr_next (fr_next (fr_next (fr_next (fr_next (rfl) (by kernel_rfl)) (by kernel_rfl)) (by kernel_rfl)) (by kernel_rfl)) (by kernel_rfl), rfl, H⟩ (sub_put (by exact rfl) (sub_nil _))
          · replace H := ite_f q11 H
            refine cs_know (c := false) (dec_f q11) 24 (by kernel_rfl) ?_
            refine cs_false (by kernel_rfl) ?_
            refine cs_skip' ?_
            refine qn_then ?_
            refine cs_region (l := [_, _, _]) ?_
            refine ls_loadagg (a := ⟨g5, 0, none⟩) (sub := en (Value.int .u32) m0_1.1) rfl rfl (by kernel_rfl) rfl (by kernel_rfl) (by kernel_rfl) (by kernel_rfl) (len_en _ m0_1) (fun w hs => (hs.vars (k := 0) (by exact rfl) (Sub4.all _))) ?_
            obtain ⟨t18, hc19, H⟩ := bind_some H
            refine ls_call (fid := 26) (vals := #[.agg ⟨en (Value.int .u32) m0_1.1⟩]) (X := Unit) (fun x => .agg ⟨en (Value.int .u32) t18.1⟩) (fun x => stl []) 1 rfl rfl (by kernel_rfl) (fun w => by kernel_rfl) (fun w hs => crc_shift_twice.calls k1 m0_1 t18 w  hc19) ?_
            intro x20
            refine ls_storec (g := g5) (off := 0) (v := .agg ⟨en (Value.int .u32) t18.1⟩) (vs := en (Value.int .u32) t18.1) (cs := en (Value.int .u32) m0_1.1) (ty := 51) 0 rfl rfl rfl (by kernel_rfl) (by kernel_rfl) (by kernel_rfl) (by exact rfl) (by kernel_rfl) (len_en _ t18) (one_en (fun _ => rfl) _) (hl_of (Sub4.all _) (len_eq (len_en _ t18) (len_en _ m0_1))) (cs' := en (Value.int .u32) t18.1) (splc_all (len_eq (len_en _ t18) (len_en _ m0_1))) ?_
            refine ls_end ?_
            refine qn_block ?_
            refine qn_then ?_
            refine cs_region (l := [_, _]) ?_
            refine ls_val (v := .int .i64 (IntKind.wrap .i64 (x13_1 + (1 : Int)))) rfl rfl (by kernel_rfl) (fun w => by kernel_rfl) ?_
            refine ls_val (v := .int .i64 (IntKind.wrap .i64 (x13_1 + (1 : Int)))) rfl rfl (by kernel_rfl) (fun w => by kernel_rfl) ?_
            refine ls_end ?_
            refine qn_again k1 (sput s0 0 (some (Ck.var 51 g5 (en (Value.int .u32) t18.1)))) (Nat.le_refl _) ⟨_, x0_1, (IntKind.wrap .i64 (x13_1 + (1 : Int))), t18, fr_next (fr_next (fr_next (fr_next (fr_next (rfl) (by kernel_rfl)) (by kernel_rfl)) (by kernel_rfl)) (by kernel_rfl)) (by kernel_rfl), rfl, H⟩ (sub_put (by exact rfl) (sub_nil _))
      · replace H := ite_f q6 H
        refine cs_know (c := false) (dec_f q6) 14 (by kernel_rfl) ?_
        refine cs_false (by kernel_rfl) ?_
        refine cs_exit' ?_
        refine qx_then ?_
        refine qx_then ?_
        refine qx_same ?_
        refine qn_then ?_
        refine cs_seq ?_
        refine cs_region (l := [_, _, _, _]) ?_
        refine ls_val (v := .int .u32 x0_1) rfl rfl (by kernel_rfl) (fun w => by kernel_rfl) ?_
        refine ls_val (v := .int .u32 a1) rfl rfl (by kernel_rfl) (fun w => by kernel_rfl) ?_
        refine ls_val (v := .int .u32 (bits .xor .u32 x0_1 a1)) rfl rfl (by kernel_rfl) (fun w => by kernel_rfl) ?_
        refine ls_val (v := .int .u32 (bits .xor .u32 x0_1 a1)) rfl rfl (by kernel_rfl) (fun w => by kernel_rfl) ?_
        refine ls_end ?_
        refine qn_then ?_
        refine cs_ret' ?_
        obtain rfl := Option.some.inj H
        refine qr_res (rs := [_]) rfl (fun w' hs => ⟨[.int .u32 (bits .xor .u32 x0_1 a1)], (res_tmp (by kernel_rfl) (.nil)), (), rfl, hs.pick (ts := []) (cs := []) trivial (by decide)⟩)

end Go.Proofs.Ytelgglnabikkcaa.G
