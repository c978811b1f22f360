/- Printed by a program of this session (sz.py): plain functions, and walks that show that the code comes to them; no condition. -/
import Derived.Test.YtelgglnabikkcaaProg
import Derived.Test.YtelgglnabikkcaaTy
set_option linter.unusedVariables false
namespace Go.Proofs.Ytelgglnabikkcaa.G
open Go Go.RowKit Go.Proofs.Ytelgglnabikkcaa.Sx

/-! ### shadowbox/crc.halves: function 22 -/
def crc_halves.cst0 : Vc Int 16 := ⟨[(0 : Int), (274646895 : Int), (549293790 : Int), (820201905 : Int), (1098587580 : Int), (1361435347 : Int), (1640403810 : Int), (1905808397 : Int), (2197175160 : Int), (2460548119 : Int), (2722870694 : Int), (2987750089 : Int), (3280807620 : Int), (3553878443 : Int), (3811616794 : Int), (4084100981 : Int)], rfl⟩
def crc_halves.f (k : Nat) : Option ((Vc Int 16)) :=
  some crc_halves.cst0
set_option maxRecDepth 100000 in
set_option maxHeartbeats 4000000 in
theorem crc_halves.calls (k : Nat)  (r : (Vc Int 16)) (b : Bs) (hs0 : St b (stl []) b.w) (H : crc_halves.f k = some r) :
    Calls Try.prog 22 #[] b.w fun e w' => ∃ x : Unit, e = .returned (.agg ⟨en (Value.int .u32) r.1⟩) ∧ St b (stl []) w' := by
  unfold crc_halves.f at H
  refine enterb (n := 2) Try.func22 rfl (by kernel_rfl) (by kernel_rfl) hs0 ?_
  refine cs_sub (s0) (sub_nil _) ?_
  refine cs_seq ?_
  refine cs_region (l := [_]) ?_
  refine ls_new rfl rfl (by kernel_rfl) 0 (fun g => .pointer (some ⟨g, 0, none⟩)) (.cells ⟨en (Value.int .u32) (vrep 16 (0 : Int)).1⟩ 48) (fun w => by kernel_rfl) ?_
  intro g1
  refine ls_end ?_
  refine qn_then ?_
  refine cs_seq ?_
  refine cs_region (l := [_, _]) ?_
  refine ls_val (v := .agg ⟨en (Value.int .u32) crc_halves.cst0.1⟩) rfl rfl (by kernel_rfl) (fun w => by kernel_rfl) ?_
  refine ls_storec (g := g1) (off := 0) (v := .agg ⟨en (Value.int .u32) crc_halves.cst0.1⟩) (vs := en (Value.int .u32) crc_halves.cst0.1) (cs := en (Value.int .u32) (vrep 16 (0 : Int)).1) (ty := 48) 0 rfl rfl rfl (by kernel_rfl) (by kernel_rfl) (by kernel_rfl) (by exact rfl) (by kernel_rfl) (len_en _ crc_halves.cst0) (one_en (fun _ => rfl) _) (hl_of (Sub4.all _) (len_eq (len_en _ crc_halves.cst0) (len_en _ (vrep 16 (0 : Int))))) (cs' := en (Value.int .u32) crc_halves.cst0.1) (splc_all (len_eq (len_en _ crc_halves.cst0) (len_en _ (vrep 16 (0 : Int))))) ?_
  refine ls_end ?_
  refine qn_then ?_
  refine cs_ret' ?_
  obtain rfl := Option.some.inj H
  refine qr_res (rs := [_]) rfl (fun w' hs => ⟨[.agg ⟨en (Value.int .u32) crc_halves.cst0.1⟩], (.cell (by kernel_rfl) (run_cellres (by kernel_rfl) (by kernel_rfl) (len_en _ crc_halves.cst0) (hs.holds 0 _ (by exact rfl))) (.nil)), (), rfl, hs.pick (ts := []) (cs := []) trivial (by decide)⟩)

/-! ### shadowbox/crc.Go$1: function 23 -/
def crc_Go_1.tab0 : List (List Nat) := [[], [0], [], [2], [2, 3], [2, 3, 4], [0, 1, 2, 3, 4, 5], [0, 1, 2, 3, 4, 5, 6]]
def crc_Go_1.f (k : Nat) (v0 : Int) (v1 : (Vc Int 16)) : Option (Int) :=
  (if 0 ≤ bits .and .u32 v0 (15 : Int) then (if bits .and .u32 v0 (15 : Int) < (16 : Int) then lt ((v1.1.getD (bits .and .u32 v0 (15 : Int)).toNat (0 : Int))) fun y5 => some (bits .xor .u32 (Int.fdiv v0 16) y5) else none) else none)
set_option maxRecDepth 100000 in
set_option maxHeartbeats 4000000 in
theorem crc_Go_1.calls (k : Nat) (pg0 : Nat) (v0 : Int) (pg1 : Nat) (v1 : (Vc Int 16)) (r : Int) (b : Bs) (hs0 : St b (stl [Ck.var 23 pg0 ([Value.int .u32 v0]), Ck.var 48 pg1 (en (Value.int .u32) v1.1)]) b.w) (H : crc_Go_1.f k v0 v1 = some r) :
    Calls Try.prog 23 #[.pointer (some ⟨pg0, 0, none⟩), .pointer (some ⟨pg1, 0, none⟩)] b.w fun e w' => ∃ x : Unit, e = .returned (.tuple #[]) ∧ St b (stl [Ck.var 23 pg0 ([Value.int .u32 r]), Ck.var 48 pg1 (en (Value.int .u32) v1.1)]) w' := by
  unfold crc_Go_1.f at H
  refine enterb (n := 9) Try.func23 rfl (by kernel_rfl) (by kernel_rfl) hs0 ?_
  refine cs_sub (sput (sput s0 0 (some (Ck.var 23 pg0 ([Value.int .u32 v0])))) 1 (some (Ck.var 48 pg1 (en (Value.int .u32) v1.1)))) (sub_put (by exact rfl) (sub_put (by exact rfl) (sub_nil _))) ?_
  obtain ⟨s2_0, hs2_0⟩ : ∃ z : Value → Sto → Prop, z = (fun v R => v = .int .u32 v0 ∧ R = s0) := ⟨_, rfl⟩
  refine have_op (l := [_, _, _, _, _, _, _, _]) crc_Go_1.tab0 2 0 (fun sp => sp 0 = s2_0) (fun sp on hA hon => ?_) (fun ops2_0 => ?_)
  · refine ⟨fun o ho vs Rs f' S' w hp hf hx hS hR hs => ?_⟩
    obtain rfl := Option.some.inj ho
    rw [hA, hs2_0]
    refine And.intro (fun a ha => (want_none rfl a ha).trans hon.symm) (And.intro (fun _ => ?_) (fun h => by rw [hon] at h; cases h))
    have hF := fr_next (rfl) ((hx 0 (by kernel_rfl)).trans (by kernel_rfl : (_ : Value) = .pointer (some ⟨pg0, 0, none⟩)))
    refine ls_fr hF ?_
    refine ls_load (a0 := ⟨pg0, 0, none⟩) (v := .int .u32 v0) (de := (TypeDesc.int .u32)) rfl rfl (by kernel_rfl) rfl (by kernel_rfl) (by kernel_rfl) (by kernel_rfl) (fun w1 hs1 => cell_step hs1.below.bw (hs.var (k := 0) ((hS 0 (by kernel_rfl)).trans (by exact rfl)) (Sub4.all _))) ?_
    exact ls_fin s0 (.int .u32 v0) (congrArg (fun z => upd z 2 _) hF.symm) ⟨rfl, rfl⟩ (sub_nil _)
  obtain ⟨s2_1, hs2_1⟩ : ∃ z : Value → Sto → Prop, z = (fun v R => v = .int .u32 (Int.fdiv v0 16) ∧ R = s0) := ⟨_, rfl⟩
  refine have_op (l := [_, _, _, _, _, _, _, _]) crc_Go_1.tab0 2 1 (fun sp => sp 1 = s2_1 ∧ sp 0 = s2_0) (fun sp on hA hon => ?_) (fun ops2_1 => ?_)
  · refine ⟨fun o ho vs Rs f' S' w hp hf hx hS hR hs => ?_⟩
    obtain rfl := Option.some.inj ho
    obtain ⟨hv0, hR0⟩ := (spe hA.2 hs2_0 (hp 0 (by kernel_rfl)))
    rw [hA.1, hs2_1]
    refine And.intro (fun a ha => (want_none rfl a ha).trans hon.symm) (And.intro (fun _ => ?_) (fun h => by rw [hon] at h; cases h))
    have hF := fr_next (rfl) ((hf 0 2 (by kernel_rfl) rfl).trans hv0)
    refine ls_fr hF ?_
    refine ls_val (v := .int .u32 (Int.fdiv v0 16)) rfl rfl (by kernel_rfl) (fun w => by kernel_rfl) ?_
    exact ls_fin s0 (.int .u32 (Int.fdiv v0 16)) (congrArg (fun z => upd z 3 _) hF.symm) ⟨rfl, rfl⟩ (sub_nil _)
  obtain ⟨s2_2, hs2_2⟩ : ∃ z : Value → Sto → Prop, z = (fun v R => v = .int .u32 v0 ∧ R = s0) := ⟨_, rfl⟩
  refine have_op (l := [_, _, _, _, _, _, _, _]) crc_Go_1.tab0 2 2 (fun sp => sp 2 = s2_2) (fun sp on hA hon => ?_) (fun ops2_2 => ?_)
  · refine ⟨fun o ho vs Rs f' S' w hp hf hx hS hR hs => ?_⟩
    obtain rfl := Option.some.inj ho
    rw [hA, hs2_2]
    refine And.intro (fun a ha => (want_none rfl a ha).trans hon.symm) (And.intro (fun _ => ?_) (fun h => by rw [hon] at h; cases h))
    have hF := fr_next (rfl) ((hx 0 (by kernel_rfl)).trans (by kernel_rfl : (_ : Value) = .pointer (some ⟨pg0, 0, none⟩)))
    refine ls_fr hF ?_
    refine ls_load (a0 := ⟨pg0, 0, none⟩) (v := .int .u32 v0) (de := (TypeDesc.int .u32)) rfl rfl (by kernel_rfl) rfl (by kernel_rfl) (by kernel_rfl) (by kernel_rfl) (fun w1 hs1 => cell_step hs1.below.bw (hs.var (k := 0) ((hS 0 (by kernel_rfl)).trans (by exact rfl)) (Sub4.all _))) ?_
    exact ls_fin s0 (.int .u32 v0) (congrArg (fun z => upd z 4 _) hF.symm) ⟨rfl, rfl⟩ (sub_nil _)
  obtain ⟨s2_3, hs2_3⟩ : ∃ z : Value → Sto → Prop, z = (fun v R => v = .int .u32 (bits .and .u32 v0 (15 : Int)) ∧ R = s0) := ⟨_, rfl⟩
  refine have_op (l := [_, _, _, _, _, _, _, _]) crc_Go_1.tab0 2 3 (fun sp => sp 3 = s2_3 ∧ sp 2 = s2_2) (fun sp on hA hon => ?_) (fun ops2_3 => ?_)
  · refine ⟨fun o ho vs Rs f' S' w hp hf hx hS hR hs => ?_⟩
    obtain rfl := Option.some.inj ho
    obtain ⟨hv2, hR2⟩ := (spe hA.2 hs2_2 (hp 2 (by kernel_rfl)))
    rw [hA.1, hs2_3]
    refine And.intro (fun a ha => (want_none rfl a ha).trans hon.symm) (And.intro (fun _ => ?_) (fun h => by rw [hon] at h; cases h))
    have hF := fr_next (rfl) ((hf 2 4 (by kernel_rfl) rfl).trans hv2)
    refine ls_fr hF ?_
    refine ls_val (v := .int .u32 (bits .and .u32 v0 (15 : Int))) rfl rfl (by kernel_rfl) (fun w => by kernel_rfl) ?_
    exact ls_fin s0 (.int .u32 (bits .and .u32 v0 (15 : Int))) (congrArg (fun z => upd z 5 _) hF.symm) ⟨rfl, rfl⟩ (sub_nil _)
  obtain ⟨q3, H⟩ := ite_need H
  obtain ⟨q4, H⟩ := ite_need H
  obtain ⟨s2_4, hs2_4⟩ : ∃ z : Value → Sto → Prop, z = (fun v R => v = .pointer (some ⟨pg1, (0 + (bits .and .u32 v0 (15 : Int)).toNat), none⟩) ∧ R = s0) := ⟨_, rfl⟩
  refine have_op (l := [_, _, _, _, _, _, _, _]) crc_Go_1.tab0 2 4 (fun sp => sp 4 = s2_4 ∧ sp 3 = s2_3) (fun sp on hA hon => ?_) (fun ops2_4 => ?_)
  · refine ⟨fun o ho vs Rs f' S' w hp hf hx hS hR hs => ?_⟩
    obtain rfl := Option.some.inj ho
    obtain ⟨hv3, hR3⟩ := (spe hA.2 hs2_3 (hp 3 (by kernel_rfl)))
    rw [hA.1, hs2_4]
    refine And.intro (fun a ha => (want_none rfl a ha).trans hon.symm) (And.intro (fun _ => ?_) (fun h => by rw [hon] at h; cases h))
    have hF := fr_next (fr_next (rfl) ((hx 1 (by kernel_rfl)).trans (by kernel_rfl : (_ : Value) = .pointer (some ⟨pg1, 0, none⟩)))) ((hf 3 5 (by kernel_rfl) rfl).trans hv3)
    refine ls_fr hF ?_
    refine ls_idxa1 (g := pg1) (off := 0) (i := bits .and .u32 v0 (15 : Int)) (kk := .u32) (ln := 16) (e := 23) rfl rfl (by kernel_rfl) rfl (by kernel_rfl) (by kernel_rfl) (by kernel_rfl) (by kernel_rfl) q3 q4 ?_
    exact ls_fin s0 (.pointer (some ⟨pg1, (0 + (bits .and .u32 v0 (15 : Int)).toNat), none⟩)) (congrArg (fun z => upd z 6 _) hF.symm) ⟨rfl, rfl⟩ (sub_nil _)
  obtain ⟨y5, hy6, H⟩ := lt_some H
  obtain ⟨s2_5, hs2_5⟩ : ∃ z : Value → Sto → Prop, z = (fun v R => v = .int .u32 y5 ∧ R = s0) := ⟨_, rfl⟩
  refine have_op (l := [_, _, _, _, _, _, _, _]) crc_Go_1.tab0 2 5 (fun sp => sp 5 = s2_5 ∧ sp 4 = s2_4) (fun sp on hA hon => ?_) (fun ops2_5 => ?_)
  · refine ⟨fun o ho vs Rs f' S' w hp hf hx hS hR hs => ?_⟩
    obtain rfl := Option.some.inj ho
    obtain ⟨hv4, hR4⟩ := (spe hA.2 hs2_4 (hp 4 (by kernel_rfl)))
    rw [hA.1, hs2_5]
    refine And.intro (fun a ha => (want_none rfl a ha).trans hon.symm) (And.intro (fun _ => ?_) (fun h => by rw [hon] at h; cases h))
    have hF := fr_next (rfl) ((hf 4 6 (by kernel_rfl) rfl).trans hv4)
    refine ls_fr hF ?_
    refine ls_load (a0 := ⟨pg1, (0 + (bits .and .u32 v0 (15 : Int)).toNat), none⟩) (v := .int .u32 (v1.1.getD (bits .and .u32 v0 (15 : Int)).toNat (0 : Int))) (de := (TypeDesc.int .u32)) rfl rfl (by kernel_rfl) rfl (by kernel_rfl) (by kernel_rfl) (by kernel_rfl) (fun w1 hs1 => cell_step hs1.below.bw (hs.var (k := 1) ((hS 1 (by kernel_rfl)).trans (by exact rfl)) (Sub4.trans (Sub4.all _) (Sub4.one (Value.int .u32) v1.1 0 (by have := v1.2; omega))))) ?_
    refine ls_ren 7 (v := .int .u32 (v1.1.getD (bits .and .u32 v0 (15 : Int)).toNat (0 : Int))) (v' := .int .u32 y5) (by kernel_rfl) (by rw [hy6]) ?_
    exact ls_fin s0 (.int .u32 y5) ((upd_upd _ _ _ _).trans (congrArg (fun z => upd z 7 _) hF.symm)) ⟨rfl, rfl⟩ (sub_nil _)
  refine cs_draw crc_Go_1.tab0 6 2 (spl [s2_0, s2_1, s2_2, s2_3, s2_4, s2_5]) (onl [true, true, true, true, true, true]) (by kernel_rfl) (by kernel_rfl) (by kernel_rfl) (by kernel_rfl) (rs := [_, _]) rfl (by kernel_rfl) (by kernel_rfl) (all_snoc (all_snoc (all_snoc (all_snoc (all_snoc (all_snoc (all_nil) (ops2_0 _ _ rfl rfl)) (ops2_1 _ _ ⟨rfl, rfl⟩ rfl)) (ops2_2 _ _ rfl rfl)) (ops2_3 _ _ ⟨rfl, rfl⟩ rfl)) (ops2_4 _ _ ⟨rfl, rfl⟩ rfl)) (ops2_5 _ _ ⟨rfl, rfl⟩ rfl)) ?_
  intro vs Rs f' S' hp hf hx hS hR
  obtain ⟨hv1, hR1⟩ := (spe rfl hs2_1 (hp 1 (by kernel_rfl)))
  obtain ⟨hv5, hR5⟩ := (spe rfl hs2_5 (hp 5 (by kernel_rfl)))
  refine ls_fr (F := upd (upd (upd f' 0 (.pointer (some ⟨pg0, 0, none⟩))) 3 (.int .u32 (Int.fdiv v0 16))) 7 (.int .u32 y5)) (fr_next (fr_next (fr_next (rfl) ((hx 0 (by kernel_rfl)).trans (by kernel_rfl : (_ : Value) = .pointer (some ⟨pg0, 0, none⟩)))) ((hf 1 3 (by kernel_rfl) rfl).trans hv1)) ((hf 5 7 (by kernel_rfl) rfl).trans hv5)) ?_
  refine ls_sub (sput (sput s0 0 (some (Ck.var 23 pg0 ([Value.int .u32 v0])))) 1 (some (Ck.var 48 pg1 (en (Value.int .u32) v1.1)))) (sub_put ((hS 1 (by kernel_rfl)).trans (by exact rfl)) (sub_put ((hS 0 (by kernel_rfl)).trans (by exact rfl)) (sub_nil _))) ?_
  refine ls_val (v := .int .u32 (bits .xor .u32 (Int.fdiv v0 16) y5)) rfl rfl (by kernel_rfl) (fun w => by kernel_rfl) ?_
  refine ls_storec (g := pg0) (off := 0) (v := .int .u32 (bits .xor .u32 (Int.fdiv v0 16) y5)) (vs := [Value.int .u32 (bits .xor .u32 (Int.fdiv v0 16) y5)]) (cs := [Value.int .u32 v0]) (ty := 23) 0 rfl rfl rfl (by kernel_rfl) (by kernel_rfl) (by kernel_rfl) (by exact rfl) (by kernel_rfl) (len1 _) (one_cons rfl one_nil) (hl_of (Sub4.all _) (len_eq (len1 _) (len1 _))) (cs' := [Value.int .u32 (bits .xor .u32 (Int.fdiv v0 16) y5)]) (splc_all (len_eq (len1 _) (len1 _))) ?_
  refine ls_end ?_
  obtain rfl := Option.some.inj H
  refine qn_res (rs := []) rfl (fun w' hs => ⟨[], (.nil), (), rfl, hs.pick (ts := [0, 1]) (cs := [Ck.var 23 pg0 ([Value.int .u32 (bits .xor .u32 (Int.fdiv v0 16) y5)]), Ck.var 48 pg1 (en (Value.int .u32) v1.1)]) ⟨by exact rfl, by exact rfl, trivial⟩ (by decide)⟩)

/-! ### shadowbox/crc.Go: function 9 -/
def crc_Go.lo1 (l1 : List Int) (t1 : (Vc Int 16)) : Nat → Int → Int → Option (Int)
  | 0, _, _ => none
  | k1 + 1, x16_1, m1_1 => (if x16_1 < (l1.length : Int) then (if 0 ≤ x16_1 then lt (IntKind.wrap .u32 ((l1).getD (x16_1).toNat (0 : Int))) fun y12 => (crc_Go_1.f k1 (bits .xor .u32 m1_1 y12) t1).bind fun t14 => (crc_Go_1.f k1 t14 t1).bind fun t17 => (crc_Go.lo1 l1 t1 k1) (IntKind.wrap .i64 (x16_1 + (1 : Int))) t17 else none) else lt (bits .xor .u32 (if IntKind.signed .u32 then -1 else IntKind.max .u32) m1_1) fun y20 => some y20)
def crc_Go.f (k : Nat) (a0 : Int) (l1 : List Int) : Option (Int) :=
  (crc_halves.f k).bind fun t1 => lt (bits .xor .u32 (if IntKind.signed .u32 then -1 else IntKind.max .u32) a0) fun y5 => crc_Go.lo1 l1 t1 k (0 : Int) y5
set_option maxRecDepth 100000 in
set_option maxHeartbeats 4000000 in
theorem crc_Go.calls (k : Nat) (a0 : Int) (A1 : Option Addr) (c1 : Nat) (l1 : List Int) (r : Int) (b : Bs) (hs0 : St b (stl []) b.w) (R1 : Ro b A1 (em (Ec.int 5 .u8) l1)) (C1 : l1.length ≤ c1) (H : crc_Go.f k a0 l1 = some r) :
    Calls Try.prog 9 #[.int .u32 a0, .slice A1 l1.length c1] b.w fun e w' => ∃ x : Unit, e = .returned (.int .u32 r) ∧ St b (stl []) w' := by
  unfold crc_Go.f at H
  refine enterb (n := 31) Try.func9 rfl (by kernel_rfl) (by kernel_rfl) hs0 ?_
  refine cs_sub (s0) (sub_nil _) ?_
  refine cs_seq ?_
  refine cs_region (l := [_]) ?_
  refine ls_val (v := .int .u32 (0 : Int)) rfl rfl (by kernel_rfl) (fun w => by kernel_rfl) ?_
  refine ls_end ?_
  refine qn_then ?_
  refine cs_seq ?_
  refine cs_region (l := [_, _, _]) ?_
  obtain ⟨t1, hc2, H⟩ := bind_some H
  refine ls_callb (fid := 22) (vals := #[]) (X := Unit) (fun x => .agg ⟨en (Value.int .u32) t1.1⟩) (fun x => stl []) [] [] [] [] 0 rfl rfl (by kernel_rfl) (fun w => by kernel_rfl) trivial trivial (by decide) (fun w hs hb => crc_halves.calls k  t1 (lent b w [] []) hb  hc2) ?_
  intro x3
  refine ls_new rfl rfl (by kernel_rfl) 0 (fun g => .pointer (some ⟨g, 0, none⟩)) (.cells ⟨en (Value.int .u32) (vrep 16 (0 : Int)).1⟩ 48) (fun w => by kernel_rfl) ?_
  intro g4
  refine ls_storec (g := g4) (off := 0) (v := .agg ⟨en (Value.int .u32) t1.1⟩) (vs := en (Value.int .u32) t1.1) (cs := en (Value.int .u32) (vrep 16 (0 : Int)).1) (ty := 48) 0 rfl rfl rfl (by kernel_rfl) (by kernel_rfl) (by kernel_rfl) (by exact rfl) (by kernel_rfl) (len_en _ t1) (one_en (fun _ => rfl) _) (hl_of (Sub4.all _) (len_eq (len_en _ t1) (len_en _ (vrep 16 (0 : Int))))) (cs' := en (Value.int .u32) t1.1) (splc_all (len_eq (len_en _ t1) (len_en _ (vrep 16 (0 : Int))))) ?_
  refine ls_end ?_
  refine qn_then ?_
  refine cs_seq ?_
  refine cs_region (l := [_, _, _, _]) ?_
  refine ls_val (v := .int .u32 a0) rfl rfl (by kernel_rfl) (fun w => by kernel_rfl) ?_
  obtain ⟨y5, hy6, H⟩ := lt_some H
  refine ls_val (v := .int .u32 (bits .xor .u32 (if IntKind.signed .u32 then -1 else IntKind.max .u32) a0)) rfl rfl (by kernel_rfl) (fun w => by kernel_rfl) ?_
  refine ls_ren 12 (v := .int .u32 (bits .xor .u32 (if IntKind.signed .u32 then -1 else IntKind.max .u32) a0)) (v' := .int .u32 y5) (by kernel_rfl) (by rw [hy6]) ?_
  refine ls_new rfl rfl (by kernel_rfl) 1 (fun g => .pointer (some ⟨g, 0, none⟩)) (.cells ⟨[Value.int .u32 (0 : Int)]⟩ 23) (fun w => by kernel_rfl) ?_
  intro g7
  refine ls_storec (g := g7) (off := 0) (v := .int .u32 y5) (vs := [Value.int .u32 y5]) (cs := [Value.int .u32 (0 : Int)]) (ty := 23) 1 rfl rfl rfl (by kernel_rfl) (by kernel_rfl) (by kernel_rfl) (by exact rfl) (by kernel_rfl) (len1 _) (one_cons rfl one_nil) (hl_of (Sub4.all _) (len_eq (len1 _) (len1 _))) (cs' := [Value.int .u32 y5]) (splc_all (len_eq (len1 _) (len1 _))) ?_
  refine ls_end ?_
  refine qn_then ?_
  refine cs_seq ?_
  refine cs_region (l := [_, _]) ?_
  refine ls_val (v := .func (.func 23) #[] #[.pointer (some ⟨g7, 0, none⟩), .pointer (some ⟨g4, 0, none⟩)]) rfl rfl (by kernel_rfl) (fun w => by kernel_rfl) ?_
  refine ls_val (v := .func (.func 23) #[] #[.pointer (some ⟨g7, 0, none⟩), .pointer (some ⟨g4, 0, none⟩)]) rfl rfl (by kernel_rfl) (fun w => by kernel_rfl) ?_
  refine ls_end ?_
  refine qn_then ?_
  refine cs_seq ?_
  refine cs_seq ?_
  refine cs_region (l := [_, _, _]) ?_
  refine ls_val (v := .slice A1 l1.length c1) rfl rfl (by kernel_rfl) (fun w => by kernel_rfl) ?_
  refine ls_val (v := .int .i64 (l1.length : Int)) rfl rfl (by kernel_rfl) (fun w => by kernel_rfl) ?_
  refine ls_val (v := .int .i64 (0 : Int)) rfl rfl (by kernel_rfl) (fun w => by kernel_rfl) ?_
  refine ls_end ?_
  refine qn_then ?_
  refine cs_block ?_
  refine cs_sub (sput (sput s0 0 (some (Ck.var 48 g4 (en (Value.int .u32) t1.1)))) 1 (some (Ck.var 23 g7 ([Value.int .u32 y5])))) (sub_put (by exact rfl) (sub_put (by exact rfl) (sub_nil _))) ?_
  refine cs_loop (fun kk f S => ∃ (fR : Fr) (x16_1 : Int) (m1_1 : Int), f = upd (upd (upd (upd (upd fR 6 (.pointer (some ⟨g7, 0, none⟩))) 7 (.func (.func 23) #[] #[.pointer (some ⟨g7, 0, none⟩), .pointer (some ⟨g4, 0, none⟩)])) 14 (.slice A1 l1.length c1)) 15 (.int .i64 (l1.length : Int))) 16 (.int .i64 x16_1) ∧ S = sput (sput s0 0 (some (Ck.var 48 g4 (en (Value.int .u32) t1.1)))) 1 (some (Ck.var 23 g7 ([Value.int .u32 m1_1]))) ∧ crc_Go.lo1 l1 t1 kk x16_1 m1_1 = some r) k ?_ ?_ ?_
  · exact ⟨_, (0 : Int), y5, fr_next (fr_next (fr_next (fr_next (fr_next (rfl) (by kernel_rfl)) (by kernel_rfl)) (by kernel_rfl)) (by kernel_rfl)) (by kernel_rfl), rfl, H⟩
  · rintro f S ⟨fr1, x16_1, m1_1, rfl, rfl, H⟩; cases H
  · rintro k1 f S ⟨fr1, x16_1, m1_1, rfl, rfl, H⟩
    replace H : ((if x16_1 < (l1.length : Int) then (if 0 ≤ x16_1 then lt (IntKind.wrap .u32 ((l1).getD (x16_1).toNat (0 : Int))) fun y12 => (crc_Go_1.f k1 (bits .xor .u32 m1_1 y12) t1).bind fun t14 => (crc_Go_1.f k1 t14 t1).bind fun t17 => (crc_Go.lo1 l1 t1 k1) (IntKind.wrap .i64 (x16_1 + (1 : Int))) t17 else none) else lt (bits .xor .u32 (if IntKind.signed .u32 then -1 else IntKind.max .u32) m1_1) fun y20 => some y20)) = some r := H
    refine cs_seq ?_
    refine cs_region (l := [_]) ?_
    refine ls_val (v := .bool (decide (x16_1 < (l1.length : Int)))) rfl rfl (by kernel_rfl) (fun w => by kernel_rfl) ?_
    refine ls_end ?_
    refine qn_then ?_
    refine cs_seq ?_
    by_cases q8 : x16_1 < (l1.length : Int)
    · replace H := ite_t q8 H
      refine cs_know (c := true) (dec_t q8) 17 (by kernel_rfl) ?_
      refine cs_true (by kernel_rfl) ?_
      refine cs_skip' ?_
      refine qn_then ?_
      refine cs_seq ?_
      refine cs_block ?_
      refine cs_seq ?_
      refine cs_region (l := [_, _, _]) ?_
      obtain ⟨q9, H⟩ := ite_need H
      obtain ⟨ad10, hA11⟩ := ido_at (T := (Ec.int 5 .u8)) (l := l1) (i := x16_1) R1 q9 q8
      refine ls_idxv (Ec.int 5 .u8) (A := A1) (c := c1) (l := l1) (k := .i64) (i := x16_1) (z := 1) (ad := ad10) rfl rfl (by kernel_rfl) hA11 rfl (by kernel_rfl) (by kernel_rfl) (by kernel_rfl) (by kernel_rfl) q9 q8 ?_
      refine ls_load (a0 := (ad10.add ((x16_1).toNat * 1))) (v := .int .u8 ((l1).getD (x16_1).toNat (0 : Int))) (de := (TypeDesc.int .u8)) rfl rfl (by kernel_rfl) rfl (by kernel_rfl) (by kernel_rfl) (by kernel_rfl) (fun w hs => (hs.old R1).at hA11 (em_sub (Ec.int 5 .u8) l1 (i := (x16_1).toNat) (by have h0 : (0 : Int) ≤ x16_1 := q9; have h1 : x16_1 < (l1.length : Int) := q8; omega))) ?_
      refine ls_val (v := .int .u8 ((l1).getD (x16_1).toNat (0 : Int))) rfl rfl (by kernel_rfl) (fun w => by kernel_rfl) ?_
      refine ls_end ?_
      refine qn_then ?_
      refine cs_seq ?_
      refine cs_region (l := [_, _, _, _, _]) ?_
      refine ls_load (a0 := ⟨g7, 0, none⟩) (v := .int .u32 m1_1) (de := (TypeDesc.int .u32)) rfl rfl (by kernel_rfl) rfl (by kernel_rfl) (by kernel_rfl) (by kernel_rfl) (fun w hs => (hs.var (k := 1) (by exact rfl) (Sub4.all _))) ?_
      refine ls_val (v := .int .u8 ((l1).getD (x16_1).toNat (0 : Int))) rfl rfl (by kernel_rfl) (fun w => by kernel_rfl) ?_
      obtain ⟨y12, hy13, H⟩ := lt_some H
      refine ls_val (v := .int .u32 (IntKind.wrap .u32 ((l1).getD (x16_1).toNat (0 : Int)))) rfl rfl (by kernel_rfl) (fun w => by kernel_rfl) ?_
      refine ls_ren 22 (v := .int .u32 (IntKind.wrap .u32 ((l1).getD (x16_1).toNat (0 : Int)))) (v' := .int .u32 y12) (by kernel_rfl) (by rw [hy13]) ?_
      refine ls_val (v := .int .u32 (bits .xor .u32 m1_1 y12)) rfl rfl (by kernel_rfl) (fun w => by kernel_rfl) ?_
      refine ls_storec (g := g7) (off := 0) (v := .int .u32 (bits .xor .u32 m1_1 y12)) (vs := [Value.int .u32 (bits .xor .u32 m1_1 y12)]) (cs := [Value.int .u32 m1_1]) (ty := 23) 1 rfl rfl rfl (by kernel_rfl) (by kernel_rfl) (by kernel_rfl) (by exact rfl) (by kernel_rfl) (len1 _) (one_cons rfl one_nil) (hl_of (Sub4.all _) (len_eq (len1 _) (len1 _))) (cs' := [Value.int .u32 (bits .xor .u32 m1_1 y12)]) (splc_all (len_eq (len1 _) (len1 _))) ?_
      refine ls_end ?_
      refine qn_then ?_
      refine cs_seq ?_
      refine cs_region (l := [_, _]) ?_
      refine ls_val (v := .func (.func 23) #[] #[.pointer (some ⟨g7, 0, none⟩), .pointer (some ⟨g4, 0, none⟩)]) rfl rfl (by kernel_rfl) (fun w => by kernel_rfl) ?_
      obtain ⟨t14, hc15, H⟩ := bind_some H
      refine ls_callb (fid := 23) (vals := #[.pointer (some ⟨g7, 0, none⟩), .pointer (some ⟨g4, 0, none⟩)]) (X := Unit) (fun x => .tuple #[]) (fun x => stl [Ck.var 23 g7 ([Value.int .u32 t14]), Ck.var 48 g4 (en (Value.int .u32) t1.1)]) [1, 0] [] [Ck.var 23 g7 ([Value.int .u32 (bits .xor .u32 m1_1 y12)]), Ck.var 48 g4 (en (Value.int .u32) t1.1)] [] 2 rfl rfl (by kernel_rfl) (fun w => by kernel_rfl) ⟨by exact rfl, by exact rfl, trivial⟩ trivial (by decide) (fun w hs hb => crc_Go_1.calls k1 g7 (bits .xor .u32 m1_1 y12) g4 t1 t14 (lent b w [Ck.var 23 g7 ([Value.int .u32 (bits .xor .u32 m1_1 y12)]), Ck.var 48 g4 (en (Value.int .u32) t1.1)] []) hb  hc15) ?_
      intro x16
      refine ls_end ?_
      refine qn_then ?_
      refine cs_region (l := [_, _]) ?_
      refine ls_val (v := .func (.func 23) #[] #[.pointer (some ⟨g7, 0, none⟩), .pointer (some ⟨g4, 0, none⟩)]) rfl rfl (by kernel_rfl) (fun w => by kernel_rfl) ?_
      obtain ⟨t17, hc18, H⟩ := bind_some H
      refine ls_callb (fid := 23) (vals := #[.pointer (some ⟨g7, 0, none⟩), .pointer (some ⟨g4, 0, none⟩)]) (X := Unit) (fun x => .tuple #[]) (fun x => stl [Ck.var 23 g7 ([Value.int .u32 t17]), Ck.var 48 g4 (en (Value.int .u32) t1.1)]) [1, 0] [] [Ck.var 23 g7 ([Value.int .u32 t14]), Ck.var 48 g4 (en (Value.int .u32) t1.1)] [] 2 rfl rfl (by kernel_rfl) (fun w => by kernel_rfl) ⟨by exact rfl, by exact rfl, trivial⟩ trivial (by decide) (fun w hs hb => crc_Go_1.calls k1 g7 t14 g4 t1 t17 (lent b w [Ck.var 23 g7 ([Value.int .u32 t14]), Ck.var 48 g4 (en (Value.int .u32) t1.1)] []) hb  hc18) ?_
      intro x19
      refine ls_end ?_
      refine qn_block ?_
      refine qn_then ?_
      refine cs_region (l := [_, _]) ?_
      refine ls_val (v := .int .i64 (IntKind.wrap .i64 (x16_1 + (1 : Int)))) rfl rfl (by kernel_rfl) (fun w => by kernel_rfl) ?_
      refine ls_val (v := .int .i64 (IntKind.wrap .i64 (x16_1 + (1 : Int)))) rfl rfl (by kernel_rfl) (fun w => by kernel_rfl) ?_
      refine ls_end ?_
      refine qn_again k1 (sput (sput s0 0 (some (Ck.var 48 g4 (en (Value.int .u32) t1.1)))) 1 (some (Ck.var 23 g7 ([Value.int .u32 t17])))) (Nat.le_refl _) ⟨_, (IntKind.wrap .i64 (x16_1 + (1 : Int))), t17, fr_next (fr_next (fr_next (fr_next (fr_next (rfl) (by kernel_rfl)) (by kernel_rfl)) (by kernel_rfl)) (by kernel_rfl)) (by kernel_rfl), rfl, H⟩ (sub_put (by exact rfl) (sub_put (by exact rfl) (sub_nil _)))
    · replace H := ite_f q8 H
      refine cs_know (c := false) (dec_f q8) 17 (by kernel_rfl) ?_
      refine cs_false (by kernel_rfl) ?_
      refine cs_exit' ?_
      refine qx_then ?_
      refine qx_then ?_
      refine qx_same ?_
      refine qn_then ?_
      refine cs_seq ?_
      refine cs_region (l := [_, _, _]) ?_
      refine ls_load (a0 := ⟨g7, 0, none⟩) (v := .int .u32 m1_1) (de := (TypeDesc.int .u32)) rfl rfl (by kernel_rfl) rfl (by kernel_rfl) (by kernel_rfl) (by kernel_rfl) (fun w hs => (hs.var (k := 1) (by exact rfl) (Sub4.all _))) ?_
      obtain ⟨y20, hy21, H⟩ := lt_some H
      refine ls_val (v := .int .u32 (bits .xor .u32 (if IntKind.signed .u32 then -1 else IntKind.max .u32) m1_1)) rfl rfl (by kernel_rfl) (fun w => by kernel_rfl) ?_
      refine ls_ren 30 (v := .int .u32 (bits .xor .u32 (if IntKind.signed .u32 then -1 else IntKind.max .u32) m1_1)) (v' := .int .u32 y20) (by kernel_rfl) (by rw [hy21]) ?_
      refine ls_val (v := .int .u32 y20) rfl rfl (by kernel_rfl) (fun w => by kernel_rfl) ?_
      refine ls_end ?_
      refine qn_then ?_
      refine cs_ret' ?_
      obtain rfl := Option.some.inj H
      refine qr_res (rs := [_]) rfl (fun w' hs => ⟨[.int .u32 y20], (res_tmp (by kernel_rfl) (.nil)), (), rfl, hs.pick (ts := []) (cs := []) trivial (by decide)⟩)

/-! ### shadowbox/crc.Sum: function 8 -/
def crc_Sum.f (k : Nat) (l0 : List Int) : Option (Int) :=
  (crc_Go.f k (0 : Int) l0).bind fun t1 => some t1
set_option maxRecDepth 100000 in
set_option maxHeartbeats 4000000 in
theorem crc_Sum.calls (k : Nat) (A0 : Option Addr) (c0 : Nat) (l0 : List Int) (r : Int) (b : Bs) (hs0 : St b (stl []) b.w) (R0 : Ro b A0 (em (Ec.int 5 .u8) l0)) (C0 : l0.length ≤ c0) (H : crc_Sum.f k l0 = some r) :
    Calls Try.prog 8 #[.slice A0 l0.length c0] b.w fun e w' => ∃ x : Unit, e = .returned (.int .u32 r) ∧ St b (stl []) w' := by
  unfold crc_Sum.f at H
  refine enterb (n := 5) Try.func8 rfl (by kernel_rfl) (by kernel_rfl) hs0 ?_
  refine cs_sub (s0) (sub_nil _) ?_
  refine cs_seq ?_
  refine cs_region (l := [_]) ?_
  refine ls_val (v := .int .u32 (0 : Int)) rfl rfl (by kernel_rfl) (fun w => by kernel_rfl) ?_
  refine ls_end ?_
  refine qn_then ?_
  refine cs_seq ?_
  refine cs_region (l := [_, _, _]) ?_
  refine ls_val (v := .slice A0 l0.length c0) rfl rfl (by kernel_rfl) (fun w => by kernel_rfl) ?_
  obtain ⟨t1, hc2, H⟩ := bind_some H
  refine ls_callb (fid := 9) (vals := #[.int .u32 (0 : Int), .slice A0 l0.length c0]) (X := Unit) (fun x => .int .u32 t1) (fun x => stl []) [] [] [] [] 0 rfl rfl (by kernel_rfl) (fun w => by kernel_rfl) trivial trivial (by decide) (fun w hs hb => crc_Go.calls k (0 : Int) A0 c0 l0 t1 (lent b w [] []) hb (hs.ro R0 _ _) C0 hc2) ?_
  intro x3
  refine ls_val (v := .int .u32 t1) rfl rfl (by kernel_rfl) (fun w => by kernel_rfl) ?_
  refine ls_end ?_
  refine qn_then ?_
  refine cs_ret' ?_
  obtain rfl := Option.some.inj H
  refine qr_res (rs := [_]) rfl (fun w' hs => ⟨[.int .u32 t1], (res_tmp (by kernel_rfl) (.nil)), (), rfl, hs.pick (ts := []) (cs := []) trivial (by decide)⟩)

/-! ### shadowbox/crc.byteShift: function 24 -/
def crc_byteShift.lo1 (t3 : (Vc Int 16)) : Nat → Int → ((Vc Int 32)) → Option ((Vc Int 32))
  | 0, _, _ => none
  | k1 + 1, x6_1, m1_1 => (if x6_1 < (32 : Int) then (if 0 ≤ x6_1 then lt (bits .and .u32 (shlv .u32 (1 : Int) x6_1) (15 : Int)) fun y9 => (if 0 ≤ y9 then (if y9 < (16 : Int) then lt (bits .xor .u32 (Int.fdiv (shlv .u32 (1 : Int) x6_1) 16) (t3.1.getD (y9).toNat (0 : Int))) fun y13 => (if 0 ≤ bits .and .u32 y13 (15 : Int) then (if bits .and .u32 y13 (15 : Int) < (16 : Int) then lt ((t3.1.getD (bits .and .u32 y13 (15 : Int)).toNat (0 : Int))) fun y17 => lt (vset m1_1 (x6_1).toNat (bits .xor .u32 (Int.fdiv y13 16) y17)) fun y19 => (crc_byteShift.lo1 t3 k1) (IntKind.wrap .i64 (x6_1 + (1 : Int))) y19 else none) else none) else none) else none) else none) else some m1_1)
def crc_byteShift.f (k : Nat) : Option ((Vc Int 32)) :=
  (crc_halves.f k).bind fun t3 => crc_byteShift.lo1 t3 k (0 : Int) (vrep 32 (0 : Int))
set_option maxRecDepth 100000 in
set_option maxHeartbeats 4000000 in
theorem crc_byteShift.calls (k : Nat)  (r : (Vc Int 32)) (b : Bs) (hs0 : St b (stl []) b.w) (H : crc_byteShift.f k = some r) :
    Calls Try.prog 24 #[] b.w fun e w' => ∃ x : Unit, e = .returned (.agg ⟨en (Value.int .u32) r.1⟩) ∧ St b (stl []) w' := by
  unfold crc_byteShift.f at H
  refine enterb (n := 29) Try.func24 rfl (by kernel_rfl) (by kernel_rfl) hs0 ?_
  refine cs_sub (s0) (sub_nil _) ?_
  refine cs_seq ?_
  refine cs_region (l := [_]) ?_
  refine ls_new rfl rfl (by kernel_rfl) 0 (fun g => .pointer (some ⟨g, 0, none⟩)) (.cells ⟨en (Value.int .u32) (vrep 32 (0 : Int)).1⟩ 51) (fun w => by kernel_rfl) ?_
  intro g1
  refine ls_end ?_
  refine qn_then ?_
  refine cs_seq ?_
  refine cs_region (l := [_]) ?_
  refine ls_new rfl rfl (by kernel_rfl) 1 (fun g => .pointer (some ⟨g, 0, none⟩)) (.cells ⟨en (Value.int .u32) (vrep 32 (0 : Int)).1⟩ 51) (fun w => by kernel_rfl) ?_
  intro g2
  refine ls_end ?_
  refine qn_then ?_
  refine cs_seq ?_
  refine cs_region (l := [_, _, _]) ?_
  obtain ⟨t3, hc4, H⟩ := bind_some H
  refine ls_callb (fid := 22) (vals := #[]) (X := Unit) (fun x => .agg ⟨en (Value.int .u32) t3.1⟩) (fun x => stl []) [] [] [] [] 2 rfl rfl (by kernel_rfl) (fun w => by kernel_rfl) trivial trivial (by decide) (fun w hs hb => crc_halves.calls k  t3 (lent b w [] []) hb  hc4) ?_
  intro x5
  refine ls_new rfl rfl (by kernel_rfl) 2 (fun g => .pointer (some ⟨g, 0, none⟩)) (.cells ⟨en (Value.int .u32) (vrep 16 (0 : Int)).1⟩ 48) (fun w => by kernel_rfl) ?_
  intro g6
  refine ls_storec (g := g6) (off := 0) (v := .agg ⟨en (Value.int .u32) t3.1⟩) (vs := en (Value.int .u32) t3.1) (cs := en (Value.int .u32) (vrep 16 (0 : Int)).1) (ty := 48) 2 rfl rfl rfl (by kernel_rfl) (by kernel_rfl) (by kernel_rfl) (by exact rfl) (by kernel_rfl) (len_en _ t3) (one_en (fun _ => rfl) _) (hl_of (Sub4.all _) (len_eq (len_en _ t3) (len_en _ (vrep 16 (0 : Int))))) (cs' := en (Value.int .u32) t3.1) (splc_all (len_eq (len_en _ t3) (len_en _ (vrep 16 (0 : Int))))) ?_
  refine ls_end ?_
  refine qn_then ?_
  refine cs_seq ?_
  refine cs_seq ?_
  refine cs_region (l := [_]) ?_
  refine ls_val (v := .int .i64 (0 : Int)) rfl rfl (by kernel_rfl) (fun w => by kernel_rfl) ?_
  refine ls_end ?_
  refine qn_then ?_
  refine cs_block ?_
  refine cs_sub (sput (sput (sput s0 0 (some (Ck.var 51 g1 (en (Value.int .u32) (vrep 32 (0 : Int)).1)))) 1 (some (Ck.var 51 g2 (en (Value.int .u32) (vrep 32 (0 : Int)).1)))) 2 (some (Ck.var 48 g6 (en (Value.int .u32) t3.1)))) (sub_put (by exact rfl) (sub_put (by exact rfl) (sub_put (by exact rfl) (sub_nil _)))) ?_
  refine cs_loop (fun kk f S => ∃ (fR : Fr) (x6_1 : Int) (m1_1 : (Vc Int 32)), f = upd (upd (upd (upd fR 0 (.pointer (some ⟨g1, 0, none⟩))) 1 (.pointer (some ⟨g2, 0, none⟩))) 2 (.pointer (some ⟨g6, 0, none⟩))) 6 (.int .i64 x6_1) ∧ S = sput (sput (sput s0 0 (some (Ck.var 51 g1 (en (Value.int .u32) (vrep 32 (0 : Int)).1)))) 1 (some (Ck.var 51 g2 (en (Value.int .u32) m1_1.1)))) 2 (some (Ck.var 48 g6 (en (Value.int .u32) t3.1))) ∧ crc_byteShift.lo1 t3 kk x6_1 m1_1 = some r) k ?_ ?_ ?_
  · exact ⟨_, (0 : Int), (vrep 32 (0 : Int)), fr_next (fr_next (fr_next (fr_next (rfl) (by kernel_rfl)) (by kernel_rfl)) (by kernel_rfl)) (by kernel_rfl), rfl, H⟩
  · rintro f S ⟨fr1, x6_1, m1_1, rfl, rfl, H⟩; cases H
  · rintro k1 f S ⟨fr1, x6_1, m1_1, rfl, rfl, H⟩
    replace H : ((if x6_1 < (32 : Int) then (if 0 ≤ x6_1 then lt (bits .and .u32 (shlv .u32 (1 : Int) x6_1) (15 : Int)) fun y9 => (if 0 ≤ y9 then (if y9 < (16 : Int) then lt (bits .xor .u32 (Int.fdiv (shlv .u32 (1 : Int) x6_1) 16) (t3.1.getD (y9).toNat (0 : Int))) fun y13 => (if 0 ≤ bits .and .u32 y13 (15 : Int) then (if bits .and .u32 y13 (15 : Int) < (16 : Int) then lt ((t3.1.getD (bits .and .u32 y13 (15 : Int)).toNat (0 : Int))) fun y17 => lt (vset m1_1 (x6_1).toNat (bits .xor .u32 (Int.fdiv y13 16) y17)) fun y19 => (crc_byteShift.lo1 t3 k1) (IntKind.wrap .i64 (x6_1 + (1 : Int))) y19 else none) else none) else none) else none) else none) else some m1_1)) = some r := H
    refine cs_seq ?_
    refine cs_region (l := [_]) ?_
    refine ls_val (v := .bool (decide (x6_1 < (32 : Int)))) rfl rfl (by kernel_rfl) (fun w => by kernel_rfl) ?_
    refine ls_end ?_
    refine qn_then ?_
    refine cs_seq ?_
    by_cases q7 : x6_1 < (32 : Int)
    · replace H := ite_t q7 H
      refine cs_know (c := true) (dec_t q7) 7 (by kernel_rfl) ?_
      refine cs_true (by kernel_rfl) ?_
      refine cs_skip' ?_
      refine qn_then ?_
      refine cs_seq ?_
      refine cs_block ?_
      refine cs_seq ?_
      refine cs_region (l := [_, _]) ?_
      refine ls_val (v := .int .i64 x6_1) rfl rfl (by kernel_rfl) (fun w => by kernel_rfl) ?_
      refine ls_val (v := .int .i64 x6_1) rfl rfl (by kernel_rfl) (fun w => by kernel_rfl) ?_
      refine ls_end ?_
      refine qn_then ?_
      refine cs_seq ?_
      refine cs_region (l := [_, _, _]) ?_
      refine ls_val (v := .int .i64 x6_1) rfl rfl (by kernel_rfl) (fun w => by kernel_rfl) ?_
      obtain ⟨q8, H⟩ := ite_need H
      refine ls_shiftl (k := .u32) (yk := .i64) (x := (1 : Int)) (y := x6_1) rfl rfl (by kernel_rfl) (fun w => by kernel_rfl) q8 ?_
      refine ls_val (v := .int .u32 (shlv .u32 (1 : Int) x6_1)) rfl rfl (by kernel_rfl) (fun w => by kernel_rfl) ?_
      refine ls_end ?_
      refine qn_then ?_
      refine cs_seq ?_
      refine cs_region (l := [_, _, _, _, _, _, _, _]) ?_
      refine ls_val (v := .int .u32 (shlv .u32 (1 : Int) x6_1)) rfl rfl (by kernel_rfl) (fun w => by kernel_rfl) ?_
      refine ls_val (v := .int .u32 (Int.fdiv (shlv .u32 (1 : Int) x6_1) 16)) rfl rfl (by kernel_rfl) (fun w => by kernel_rfl) ?_
      refine ls_val (v := .int .u32 (shlv .u32 (1 : Int) x6_1)) rfl rfl (by kernel_rfl) (fun w => by kernel_rfl) ?_
      obtain ⟨y9, hy10, H⟩ := lt_some H
      refine ls_val (v := .int .u32 (bits .and .u32 (shlv .u32 (1 : Int) x6_1) (15 : Int))) rfl rfl (by kernel_rfl) (fun w => by kernel_rfl) ?_
      refine ls_ren 14 (v := .int .u32 (bits .and .u32 (shlv .u32 (1 : Int) x6_1) (15 : Int))) (v' := .int .u32 y9) (by kernel_rfl) (by rw [hy10]) ?_
      obtain ⟨q11, H⟩ := ite_need H
      obtain ⟨q12, H⟩ := ite_need H
      refine ls_idxa1 (g := g6) (off := 0) (i := y9) (kk := .u32) (ln := 16) (e := 23) rfl rfl (by kernel_rfl) rfl (by kernel_rfl) (by kernel_rfl) (by kernel_rfl) (by kernel_rfl) q11 q12 ?_
      refine ls_load (a0 := ⟨g6, (0 + (y9).toNat), none⟩) (v := .int .u32 (t3.1.getD (y9).toNat (0 : Int))) (de := (TypeDesc.int .u32)) rfl rfl (by kernel_rfl) rfl (by kernel_rfl) (by kernel_rfl) (by kernel_rfl) (fun w hs => (hs.var (k := 2) (by exact rfl) (Sub4.trans (Sub4.all _) (Sub4.one (Value.int .u32) t3.1 0 (by have := t3.2; omega))))) ?_
      obtain ⟨y13, hy14, H⟩ := lt_some H
      refine ls_val (v := .int .u32 (bits .xor .u32 (Int.fdiv (shlv .u32 (1 : Int) x6_1) 16) (t3.1.getD (y9).toNat (0 : Int)))) rfl rfl (by kernel_rfl) (fun w => by kernel_rfl) ?_
      refine ls_ren 17 (v := .int .u32 (bits .xor .u32 (Int.fdiv (shlv .u32 (1 : Int) x6_1) 16) (t3.1.getD (y9).toNat (0 : Int)))) (v' := .int .u32 y13) (by kernel_rfl) (by rw [hy14]) ?_
      refine ls_val (v := .int .u32 y13) rfl rfl (by kernel_rfl) (fun w => by kernel_rfl) ?_
      refine ls_end ?_
      refine qn_then ?_
      refine cs_region (l := [_, _, _, _, _, _, _, _, _, _]) ?_
      refine ls_val (v := .int .i64 x6_1) rfl rfl (by kernel_rfl) (fun w => by kernel_rfl) ?_
      refine ls_val (v := .int .u32 y13) rfl rfl (by kernel_rfl) (fun w => by kernel_rfl) ?_
      refine ls_val (v := .int .u32 (Int.fdiv y13 16)) rfl rfl (by kernel_rfl) (fun w => by kernel_rfl) ?_
      refine ls_val (v := .int .u32 y13) rfl rfl (by kernel_rfl) (fun w => by kernel_rfl) ?_
      refine ls_val (v := .int .u32 (bits .and .u32 y13 (15 : Int))) rfl rfl (by kernel_rfl) (fun w => by kernel_rfl) ?_
      obtain ⟨q15, H⟩ := ite_need H
      obtain ⟨q16, H⟩ := ite_need H
      refine ls_idxa1 (g := g6) (off := 0) (i := bits .and .u32 y13 (15 : Int)) (kk := .u32) (ln := 16) (e := 23) rfl rfl (by kernel_rfl) rfl (by kernel_rfl) (by kernel_rfl) (by kernel_rfl) (by kernel_rfl) q15 q16 ?_
      obtain ⟨y17, hy18, H⟩ := lt_some H
      refine ls_load (a0 := ⟨g6, (0 + (bits .and .u32 y13 (15 : Int)).toNat), none⟩) (v := .int .u32 (t3.1.getD (bits .and .u32 y13 (15 : Int)).toNat (0 : Int))) (de := (TypeDesc.int .u32)) rfl rfl (by kernel_rfl) rfl (by kernel_rfl) (by kernel_rfl) (by kernel_rfl) (fun w hs => (hs.var (k := 2) (by exact rfl) (Sub4.trans (Sub4.all _) (Sub4.one (Value.int .u32) t3.1 0 (by have := t3.2; omega))))) ?_
      refine ls_ren 24 (v := .int .u32 (t3.1.getD (bits .and .u32 y13 (15 : Int)).toNat (0 : Int))) (v' := .int .u32 y17) (by kernel_rfl) (by rw [hy18]) ?_
      refine ls_val (v := .int .u32 (bits .xor .u32 (Int.fdiv y13 16) y17)) rfl rfl (by kernel_rfl) (fun w => by kernel_rfl) ?_
      refine ls_idxa1 (g := g2) (off := 0) (i := x6_1) (kk := .i64) (ln := 32) (e := 23) rfl rfl (by kernel_rfl) rfl (by kernel_rfl) (by kernel_rfl) (by kernel_rfl) (by kernel_rfl) q8 q7 ?_
      obtain ⟨y19, hy20, H⟩ := lt_some H
      refine ls_storec (g := g2) (off := (0 + (x6_1).toNat)) (v := .int .u32 (bits .xor .u32 (Int.fdiv y13 16) y17)) (vs := [Value.int .u32 (bits .xor .u32 (Int.fdiv y13 16) y17)]) (cs := en (Value.int .u32) m1_1.1) (ty := 51) 1 rfl rfl rfl (by kernel_rfl) (by kernel_rfl) (by kernel_rfl) (by exact rfl) (by kernel_rfl) (len1 _) (one_cons rfl one_nil) (hl_of (Sub4.trans (Sub4.all _) (Sub4.one (Value.int .u32) m1_1.1 0 (by have := m1_1.2; omega))) (len_eq (len1 _) (len1 _))) (cs' := en (Value.int .u32) y19.1) (splc_in (Sub4.all _) ((splc_one (Value.int .u32) m1_1.1 (bits .xor .u32 (Int.fdiv y13 16) y17) (by have := m1_1.2; omega)).trans (congrArg (fun z : (Vc Int 32) => en (Value.int .u32) z.1) hy20)) (splc_all (len_eq (len_en _ y19) (len_en _ m1_1))) (hl_of (Sub4.one (Value.int .u32) m1_1.1 0 (by have := m1_1.2; omega)) (len_eq (len1 _) (len1 _)))) ?_
      refine ls_end ?_
      refine qn_block ?_
      refine qn_then ?_
      refine cs_region (l := [_, _]) ?_
      refine ls_val (v := .int .i64 (IntKind.wrap .i64 (x6_1 + (1 : Int)))) rfl rfl (by kernel_rfl) (fun w => by kernel_rfl) ?_
      refine ls_val (v := .int .i64 (IntKind.wrap .i64 (x6_1 + (1 : Int)))) rfl rfl (by kernel_rfl) (fun w => by kernel_rfl) ?_
      refine ls_end ?_
      refine qn_again k1 (sput (sput (sput s0 0 (some (Ck.var 51 g1 (en (Value.int .u32) (vrep 32 (0 : Int)).1)))) 1 (some (Ck.var 51 g2 (en (Value.int .u32) y19.1)))) 2 (some (Ck.var 48 g6 (en (Value.int .u32) t3.1)))) (Nat.le_refl _) ⟨_, (IntKind.wrap .i64 (x6_1 + (1 : Int))), y19, fr_next (fr_next (fr_next (fr_next (rfl) (by kernel_rfl)) (by kernel_rfl)) (by kernel_rfl)) (by kernel_rfl), rfl, H⟩ (sub_put (by exact rfl) (sub_put (by exact rfl) (sub_put (by exact rfl) (sub_nil _))))
    · replace H := ite_f q7 H
      refine cs_know (c := false) (dec_f q7) 7 (by kernel_rfl) ?_
      refine cs_false (by kernel_rfl) ?_
      refine cs_exit' ?_
      refine qx_then ?_
      refine qx_then ?_
      refine qx_same ?_
      refine qn_then ?_
      refine cs_seq ?_
      refine cs_region (l := [_, _]) ?_
      refine ls_loadagg (a := ⟨g2, 0, none⟩) (sub := en (Value.int .u32) m1_1.1) rfl rfl (by kernel_rfl) rfl (by kernel_rfl) (by kernel_rfl) (by kernel_rfl) (len_en _ m1_1) (fun w hs => (hs.vars (k := 1) (by exact rfl) (Sub4.all _))) ?_
      refine ls_storec (g := g1) (off := 0) (v := .agg ⟨en (Value.int .u32) m1_1.1⟩) (vs := en (Value.int .u32) m1_1.1) (cs := en (Value.int .u32) (vrep 32 (0 : Int)).1) (ty := 51) 0 rfl rfl rfl (by kernel_rfl) (by kernel_rfl) (by kernel_rfl) (by exact rfl) (by kernel_rfl) (len_en _ m1_1) (one_en (fun _ => rfl) _) (hl_of (Sub4.all _) (len_eq (len_en _ m1_1) (len_en _ (vrep 32 (0 : Int))))) (cs' := en (Value.int .u32) m1_1.1) (splc_all (len_eq (len_en _ m1_1) (len_en _ (vrep 32 (0 : Int))))) ?_
      refine ls_end ?_
      refine qn_then ?_
      refine cs_ret' ?_
      obtain rfl := Option.some.inj H
      refine qr_res (rs := [_]) rfl (fun w' hs => ⟨[.agg ⟨en (Value.int .u32) m1_1.1⟩], (.cell (by kernel_rfl) (run_cellres (by kernel_rfl) (by kernel_rfl) (len_en _ m1_1) (hs.holds 0 _ (by exact rfl))) (.nil)), (), rfl, hs.pick (ts := []) (cs := []) trivial (by decide)⟩)

/-! ### (shadowbox/crc.shift).of: function 25 -/
def crc_shift_of.lo1 (a0 : (Vc Int 32)) (a1 : Int) : Nat → Int → Int → Option (Int)
  | 0, _, _ => none
  | k1 + 1, x5_1, x7_1 => (if x7_1 < (32 : Int) then (if 0 ≤ x7_1 then lt (bits .and .u32 (shrv .u32 a1 x7_1) (1 : Int)) fun y4 => (if y4 = (1 : Int) then lt (bits .xor .u32 x5_1 (a0.1.getD (x7_1).toNat (0 : Int))) fun y7 => (crc_shift_of.lo1 a0 a1 k1) y7 (IntKind.wrap .i64 (x7_1 + (1 : Int))) else (crc_shift_of.lo1 a0 a1 k1) x5_1 (IntKind.wrap .i64 (x7_1 + (1 : Int)))) else none) else some x5_1)
def crc_shift_of.f (k : Nat) (a0 : (Vc Int 32)) (a1 : Int) : Option (Int) :=
  crc_shift_of.lo1 a0 a1 k (0 : Int) (0 : Int)
set_option maxRecDepth 100000 in
set_option maxHeartbeats 4000000 in
theorem crc_shift_of.calls (k : Nat) (a0 : (Vc Int 32)) (a1 : Int) (r : Int) (b : Bs) (hs0 : St b (stl []) b.w) (H : crc_shift_of.f k a0 a1 = some r) :
    Calls Try.prog 25 #[.agg ⟨en (Value.int .u32) a0.1⟩, .int .u32 a1] b.w fun e w' => ∃ x : Unit, e = .returned (.int .u32 r) ∧ St b (stl []) w' := by
  unfold crc_shift_of.f at H
  refine enterb (n := 22) Try.func25 rfl (by kernel_rfl) (by kernel_rfl) hs0 ?_
  refine cs_sub (s0) (sub_nil _) ?_
  refine cs_seq ?_
  refine cs_region (l := [_, _]) ?_
  refine ls_new rfl rfl (by kernel_rfl) 0 (fun g => .pointer (some ⟨g, 0, none⟩)) (.cells ⟨en (Value.int .u32) a0.1⟩ 51) (fun w => by kernel_rfl) ?_
  intro g1
  refine ls_val (v := .int .u32 (0 : Int)) rfl rfl (by kernel_rfl) (fun w => by kernel_rfl) ?_
  refine ls_end ?_
  refine qn_then ?_
  refine cs_seq ?_
  refine cs_region (l := [_]) ?_
  refine ls_val (v := .int .u32 (0 : Int)) rfl rfl (by kernel_rfl) (fun w => by kernel_rfl) ?_
  refine ls_end ?_
  refine qn_then ?_
  refine cs_seq ?_
  refine cs_seq ?_
  refine cs_region (l := [_]) ?_
  refine ls_val (v := .int .i64 (0 : Int)) rfl rfl (by kernel_rfl) (fun w => by kernel_rfl) ?_
  refine ls_end ?_
  refine qn_then ?_
  refine cs_block ?_
  refine cs_sub (sput s0 0 (some (Ck.var 51 g1 (en (Value.int .u32) a0.1)))) (sub_put (by exact rfl) (sub_nil _)) ?_
  refine cs_loop (fun kk f S => ∃ (fR : Fr) (x5_1 : Int) (x7_1 : Int), f = upd (upd (upd (upd fR 1 (.int .u32 a1)) 2 (.pointer (some ⟨g1, 0, none⟩))) 5 (.int .u32 x5_1)) 7 (.int .i64 x7_1) ∧ S = sput s0 0 (some (Ck.var 51 g1 (en (Value.int .u32) a0.1))) ∧ crc_shift_of.lo1 a0 a1 kk x5_1 x7_1 = some r) k ?_ ?_ ?_
  · exact ⟨_, (0 : Int), (0 : Int), fr_next (fr_next (fr_next (fr_next (rfl) (by kernel_rfl)) (by kernel_rfl)) (by kernel_rfl)) (by kernel_rfl), rfl, H⟩
  · rintro f S ⟨fr1, x5_1, x7_1, rfl, rfl, H⟩; cases H
  · rintro k1 f S ⟨fr1, x5_1, x7_1, rfl, rfl, H⟩
    replace H : ((if x7_1 < (32 : Int) then (if 0 ≤ x7_1 then lt (bits .and .u32 (shrv .u32 a1 x7_1) (1 : Int)) fun y4 => (if y4 = (1 : Int) then lt (bits .xor .u32 x5_1 (a0.1.getD (x7_1).toNat (0 : Int))) fun y7 => (crc_shift_of.lo1 a0 a1 k1) y7 (IntKind.wrap .i64 (x7_1 + (1 : Int))) else (crc_shift_of.lo1 a0 a1 k1) x5_1 (IntKind.wrap .i64 (x7_1 + (1 : Int)))) else none) else some x5_1)) = some r := H
    refine cs_seq ?_
    refine cs_region (l := [_]) ?_
    refine ls_val (v := .bool (decide (x7_1 < (32 : Int)))) rfl rfl (by kernel_rfl) (fun w => by kernel_rfl) ?_
    refine ls_end ?_
    refine qn_then ?_
    refine cs_seq ?_
    by_cases q2 : x7_1 < (32 : Int)
    · replace H := ite_t q2 H
      refine cs_know (c := true) (dec_t q2) 8 (by kernel_rfl) ?_
      refine cs_true (by kernel_rfl) ?_
      refine cs_skip' ?_
      refine qn_then ?_
      refine cs_seq ?_
      refine cs_block ?_
      refine cs_seq ?_
      refine cs_region (l := [_, _]) ?_
      refine ls_val (v := .int .i64 x7_1) rfl rfl (by kernel_rfl) (fun w => by kernel_rfl) ?_
      refine ls_val (v := .int .i64 x7_1) rfl rfl (by kernel_rfl) (fun w => by kernel_rfl) ?_
      refine ls_end ?_
      refine qn_then ?_
      refine cs_seq ?_
      refine cs_region (l := [_, _, _, _, _]) ?_
      refine ls_val (v := .int .u32 a1) rfl rfl (by kernel_rfl) (fun w => by kernel_rfl) ?_
      refine ls_val (v := .int .i64 x7_1) rfl rfl (by kernel_rfl) (fun w => by kernel_rfl) ?_
      obtain ⟨q3, H⟩ := ite_need H
      refine ls_shiftr (k := .u32) (yk := .i64) (x := a1) (y := x7_1) rfl rfl (by kernel_rfl) (fun w => by kernel_rfl) q3 ?_
      obtain ⟨y4, hy5, H⟩ := lt_some H
      refine ls_val (v := .int .u32 (bits .and .u32 (shrv .u32 a1 x7_1) (1 : Int))) rfl rfl (by kernel_rfl) (fun w => by kernel_rfl) ?_
      refine ls_ren 13 (v := .int .u32 (bits .and .u32 (shrv .u32 a1 x7_1) (1 : Int))) (v' := .int .u32 y4) (by kernel_rfl) (by rw [hy5]) ?_
      refine ls_val (v := .bool (decide (y4 = (1 : Int)))) rfl rfl (by kernel_rfl) (fun w => by kernel_rfl) ?_
      refine ls_end ?_
      refine qn_then ?_
      by_cases q6 : y4 = (1 : Int)
      · replace H := ite_t q6 H
        refine cs_know (c := true) (dec_t q6) 14 (by kernel_rfl) ?_
        refine cs_true (by kernel_rfl) ?_
        refine cs_region (l := [_, _, _, _, _, _]) ?_
        refine ls_val (v := .int .u32 x5_1) rfl rfl (by kernel_rfl) (fun w => by kernel_rfl) ?_
        refine ls_val (v := .int .i64 x7_1) rfl rfl (by kernel_rfl) (fun w => by kernel_rfl) ?_
        refine ls_idxa1 (g := g1) (off := 0) (i := x7_1) (kk := .i64) (ln := 32) (e := 23) rfl rfl (by kernel_rfl) rfl (by kernel_rfl) (by kernel_rfl) (by kernel_rfl) (by kernel_rfl) q3 q2 ?_
        refine ls_load (a0 := ⟨g1, (0 + (x7_1).toNat), none⟩) (v := .int .u32 (a0.1.getD (x7_1).toNat (0 : Int))) (de := (TypeDesc.int .u32)) rfl rfl (by kernel_rfl) rfl (by kernel_rfl) (by kernel_rfl) (by kernel_rfl) (fun w hs => (hs.var (k := 0) (by exact rfl) (Sub4.trans (Sub4.all _) (Sub4.one (Value.int .u32) a0.1 0 (by have := a0.2; omega))))) ?_
        obtain ⟨y7, hy8, H⟩ := lt_some H
        refine ls_val (v := .int .u32 (bits .xor .u32 x5_1 (a0.1.getD (x7_1).toNat (0 : Int)))) rfl rfl (by kernel_rfl) (fun w => by kernel_rfl) ?_
        refine ls_ren 19 (v := .int .u32 (bits .xor .u32 x5_1 (a0.1.getD (x7_1).toNat (0 : Int)))) (v' := .int .u32 y7) (by kernel_rfl) (by rw [hy8]) ?_
        refine ls_val (v := .int .u32 y7) rfl rfl (by kernel_rfl) (fun w => by kernel_rfl) ?_
        refine ls_end ?_
        refine qn_block ?_
        refine qn_then ?_
        refine cs_region (l := [_, _]) ?_
        refine ls_val (v := .int .i64 (IntKind.wrap .i64 (x7_1 + (1 : Int)))) rfl rfl (by kernel_rfl) (fun w => by kernel_rfl) ?_
        refine ls_val (v := .int .i64 (IntKind.wrap .i64 (x7_1 + (1 : Int)))) rfl rfl (by kernel_rfl) (fun w => by kernel_rfl) ?_
        refine ls_end ?_
        refine qn_again k1 (sput s0 0 (some (Ck.var 51 g1 (en (Value.int .u32) a0.1)))) (Nat.le_refl _) ⟨_, y7, (IntKind.wrap .i64 (x7_1 + (1 : Int))), fr_next (fr_next (fr_next (fr_next (rfl) (by kernel_rfl)) (by kernel_rfl)) (by kernel_rfl)) (by kernel_rfl), rfl, H⟩ (sub_put (by exact rfl) (sub_nil _))
      · replace H := ite_f q6 H
        refine cs_know (c := false) (dec_f q6) 14 (by kernel_rfl) ?_
        refine cs_false (by kernel_rfl) ?_
        refine cs_skip' ?_
        refine qn_block ?_
        refine qn_then ?_
        refine cs_region (l := [_, _]) ?_
        refine ls_val (v := .int .i64 (IntKind.wrap .i64 (x7_1 + (1 : Int)))) rfl rfl (by kernel_rfl) (fun w => by kernel_rfl) ?_
        refine ls_val (v := .int .i64 (IntKind.wrap .i64 (x7_1 + (1 : Int)))) rfl rfl (by kernel_rfl) (fun w => by kernel_rfl) ?_
        refine ls_end ?_
        refine qn_again k1 (sput s0 0 (some (Ck.var 51 g1 (en (Value.int .u32) a0.1)))) (Nat.le_refl _) ⟨_, x5_1, (IntKind.wrap .i64 (x7_1 + (1 : Int))), fr_next (fr_next (fr_next (fr_next (rfl) (by kernel_rfl)) (by kernel_rfl)) (by kernel_rfl)) (by kernel_rfl), rfl, H⟩ (sub_put (by exact rfl) (sub_nil _))
    · replace H := ite_f q2 H
      refine cs_know (c := false) (dec_f q2) 8 (by kernel_rfl) ?_
      refine cs_false (by kernel_rfl) ?_
      refine cs_exit' ?_
      refine qx_then ?_
      refine qx_then ?_
      refine qx_same ?_
      refine qn_then ?_
      refine cs_seq ?_
      refine cs_region (l := [_, _]) ?_
      refine ls_val (v := .int .u32 x5_1) rfl rfl (by kernel_rfl) (fun w => by kernel_rfl) ?_
      refine ls_val (v := .int .u32 x5_1) rfl rfl (by kernel_rfl) (fun w => by kernel_rfl) ?_
      refine ls_end ?_
      refine qn_then ?_
      refine cs_ret' ?_
      obtain rfl := Option.some.inj H
      refine qr_res (rs := [_]) rfl (fun w' hs => ⟨[.int .u32 x5_1], (res_tmp (by kernel_rfl) (.nil)), (), rfl, hs.pick (ts := []) (cs := []) trivial (by decide)⟩)

/-! ### (shadowbox/crc.shift).twice: function 26 -/
def crc_shift_twice.lo1 (a0 : (Vc Int 32)) : Nat → Int → ((Vc Int 32)) → Option ((Vc Int 32))
  | 0, _, _ => none
  | k1 + 1, x7_1, m2_1 => (if x7_1 < (32 : Int) then (if 0 ≤ x7_1 then (crc_shift_of.f k1 a0 (a0.1.getD (x7_1).toNat (0 : Int))).bind fun t6 => lt (vset m2_1 (x7_1).toNat t6) fun y9 => (crc_shift_twice.lo1 a0 k1) (IntKind.wrap .i64 (x7_1 + (1 : Int))) y9 else none) else some m2_1)
def crc_shift_twice.f (k : Nat) (a0 : (Vc Int 32)) : Option ((Vc Int 32)) :=
  crc_shift_twice.lo1 a0 k (0 : Int) (vrep 32 (0 : Int))
set_option maxRecDepth 100000 in
set_option maxHeartbeats 4000000 in
theorem crc_shift_twice.calls (k : Nat) (a0 : (Vc Int 32)) (r : (Vc Int 32)) (b : Bs) (hs0 : St b (stl []) b.w) (H : crc_shift_twice.f k a0 = some r) :
    Calls Try.prog 26 #[.agg ⟨en (Value.int .u32) a0.1⟩] b.w fun e w' => ∃ x : Unit, e = .returned (.agg ⟨en (Value.int .u32) r.1⟩) ∧ St b (stl []) w' := by
  unfold crc_shift_twice.f at H
  refine enterb (n := 18) Try.func26 rfl (by kernel_rfl) (by kernel_rfl) hs0 ?_
  refine cs_sub (s0) (sub_nil _) ?_
  refine cs_seq ?_
  refine cs_region (l := [_, _]) ?_
  refine ls_new rfl rfl (by kernel_rfl) 0 (fun g => .pointer (some ⟨g, 0, none⟩)) (.cells ⟨en (Value.int .u32) a0.1⟩ 51) (fun w => by kernel_rfl) ?_
  intro g1
  refine ls_new rfl rfl (by kernel_rfl) 1 (fun g => .pointer (some ⟨g, 0, none⟩)) (.cells ⟨en (Value.int .u32) (vrep 32 (0 : Int)).1⟩ 51) (fun w => by kernel_rfl) ?_
  intro g2
  refine ls_end ?_
  refine qn_then ?_
  refine cs_seq ?_
  refine cs_region (l := [_]) ?_
  refine ls_new rfl rfl (by kernel_rfl) 2 (fun g => .pointer (some ⟨g, 0, none⟩)) (.cells ⟨en (Value.int .u32) (vrep 32 (0 : Int)).1⟩ 51) (fun w => by kernel_rfl) ?_
  intro g3
  refine ls_end ?_
  refine qn_then ?_
  refine cs_seq ?_
  refine cs_seq ?_
  refine cs_region (l := [_, _]) ?_
  refine ls_loadagg (a := ⟨g1, 0, none⟩) (sub := en (Value.int .u32) a0.1) rfl rfl (by kernel_rfl) rfl (by kernel_rfl) (by kernel_rfl) (by kernel_rfl) (len_en _ a0) (fun w hs => (hs.vars (k := 0) (by exact rfl) (Sub4.all _))) ?_
  refine ls_val (v := .int .i64 (0 : Int)) rfl rfl (by kernel_rfl) (fun w => by kernel_rfl) ?_
  refine ls_end ?_
  refine qn_then ?_
  refine cs_block ?_
  refine cs_sub (sput (sput (sput s0 0 (some (Ck.var 51 g1 (en (Value.int .u32) a0.1)))) 1 (some (Ck.var 51 g2 (en (Value.int .u32) (vrep 32 (0 : Int)).1)))) 2 (some (Ck.var 51 g3 (en (Value.int .u32) (vrep 32 (0 : Int)).1)))) (sub_put (by exact rfl) (sub_put (by exact rfl) (sub_put (by exact rfl) (sub_nil _)))) ?_
  refine cs_loop (fun kk f S => ∃ (fR : Fr) (x7_1 : Int) (m2_1 : (Vc Int 32)), f = upd (upd (upd (upd (upd fR 1 (.pointer (some ⟨g1, 0, none⟩))) 2 (.pointer (some ⟨g2, 0, none⟩))) 3 (.pointer (some ⟨g3, 0, none⟩))) 6 (.agg ⟨en (Value.int .u32) a0.1⟩)) 7 (.int .i64 x7_1) ∧ S = sput (sput (sput s0 0 (some (Ck.var 51 g1 (en (Value.int .u32) a0.1)))) 1 (some (Ck.var 51 g2 (en (Value.int .u32) (vrep 32 (0 : Int)).1)))) 2 (some (Ck.var 51 g3 (en (Value.int .u32) m2_1.1))) ∧ crc_shift_twice.lo1 a0 kk x7_1 m2_1 = some r) k ?_ ?_ ?_
  · exact ⟨_, (0 : Int), (vrep 32 (0 : Int)), fr_next (fr_next (fr_next (fr_next (fr_next (rfl) (by kernel_rfl)) (by kernel_rfl)) (by kernel_rfl)) (by kernel_rfl)) (by kernel_rfl), rfl, H⟩
  · rintro f S ⟨fr1, x7_1, m2_1, rfl, rfl, H⟩; cases H
  · rintro k1 f S ⟨fr1, x7_1, m2_1, rfl, rfl, H⟩
    replace H : ((if x7_1 < (32 : Int) then (if 0 ≤ x7_1 then (crc_shift_of.f k1 a0 (a0.1.getD (x7_1).toNat (0 : Int))).bind fun t6 => lt (vset m2_1 (x7_1).toNat t6) fun y9 => (crc_shift_twice.lo1 a0 k1) (IntKind.wrap .i64 (x7_1 + (1 : Int))) y9 else none) else some m2_1)) = some r := H
    refine cs_seq ?_
    refine cs_region (l := [_]) ?_
    refine ls_val (v := .bool (decide (x7_1 < (32 : Int)))) rfl rfl (by kernel_rfl) (fun w => by kernel_rfl) ?_
    refine ls_end ?_
    refine qn_then ?_
    refine cs_seq ?_
    by_cases q4 : x7_1 < (32 : Int)
    · replace H := ite_t q4 H
      refine cs_know (c := true) (dec_t q4) 8 (by kernel_rfl) ?_
      refine cs_true (by kernel_rfl) ?_
      refine cs_skip' ?_
      refine qn_then ?_
      refine cs_seq ?_
      refine cs_block ?_
      refine cs_seq ?_
      refine cs_region (l := [_, _, _, _]) ?_
      refine ls_val (v := .int .i64 x7_1) rfl rfl (by kernel_rfl) (fun w => by kernel_rfl) ?_
      obtain ⟨q5, H⟩ := ite_need H
      refine ls_index (l := a0.1) (E := (Value.int .u32)) (i := x7_1) (kk := .i64) (ln := 32) (e := 23) rfl rfl (by kernel_rfl) a0.2 rfl (by kernel_rfl) (by kernel_rfl) (by kernel_rfl) (by kernel_rfl) (by kernel_rfl) q5 q4 0 ?_
      refine ls_val (v := .int .i64 x7_1) rfl rfl (by kernel_rfl) (fun w => by kernel_rfl) ?_
      refine ls_val (v := .int .u32 (a0.1.getD (x7_1).toNat (0 : Int))) rfl rfl (by kernel_rfl) (fun w => by kernel_rfl) ?_
      refine ls_end ?_
      refine qn_then ?_
      refine cs_region (l := [_, _, _, _, _, _]) ?_
      refine ls_val (v := .int .i64 x7_1) rfl rfl (by kernel_rfl) (fun w => by kernel_rfl) ?_
      refine ls_loadagg (a := ⟨g1, 0, none⟩) (sub := en (Value.int .u32) a0.1) rfl rfl (by kernel_rfl) rfl (by kernel_rfl) (by kernel_rfl) (by kernel_rfl) (len_en _ a0) (fun w hs => (hs.vars (k := 0) (by exact rfl) (Sub4.all _))) ?_
      refine ls_val (v := .int .u32 (a0.1.getD (x7_1).toNat (0 : Int))) rfl rfl (by kernel_rfl) (fun w => by kernel_rfl) ?_
      obtain ⟨t6, hc7, H⟩ := bind_some H
      refine ls_callb (fid := 25) (vals := #[.agg ⟨en (Value.int .u32) a0.1⟩, .int .u32 (a0.1.getD (x7_1).toNat (0 : Int))]) (X := Unit) (fun x => .int .u32 t6) (fun x => stl []) [] [] [] [] 3 rfl rfl (by kernel_rfl) (fun w => by kernel_rfl) trivial trivial (by decide) (fun w hs hb => crc_shift_of.calls k1 a0 (a0.1.getD (x7_1).toNat (0 : Int)) t6 (lent b w [] []) hb  hc7) ?_
      intro x8
      refine ls_idxa1 (g := g3) (off := 0) (i := x7_1) (kk := .i64) (ln := 32) (e := 23) rfl rfl (by kernel_rfl) rfl (by kernel_rfl) (by kernel_rfl) (by kernel_rfl) (by kernel_rfl) q5 q4 ?_
      obtain ⟨y9, hy10, H⟩ := lt_some H
      refine ls_storec (g := g3) (off := (0 + (x7_1).toNat)) (v := .int .u32 t6) (vs := [Value.int .u32 t6]) (cs := en (Value.int .u32) m2_1.1) (ty := 51) 2 rfl rfl rfl (by kernel_rfl) (by kernel_rfl) (by kernel_rfl) (by exact rfl) (by kernel_rfl) (len1 _) (one_cons rfl one_nil) (hl_of (Sub4.trans (Sub4.all _) (Sub4.one (Value.int .u32) m2_1.1 0 (by have := m2_1.2; omega))) (len_eq (len1 _) (len1 _))) (cs' := en (Value.int .u32) y9.1) (splc_in (Sub4.all _) ((splc_one (Value.int .u32) m2_1.1 t6 (by have := m2_1.2; omega)).trans (congrArg (fun z : (Vc Int 32) => en (Value.int .u32) z.1) hy10)) (splc_all (len_eq (len_en _ y9) (len_en _ m2_1))) (hl_of (Sub4.one (Value.int .u32) m2_1.1 0 (by have := m2_1.2; omega)) (len_eq (len1 _) (len1 _)))) ?_
      refine ls_end ?_
      refine qn_block ?_
      refine qn_then ?_
      refine cs_region (l := [_, _]) ?_
      refine ls_val (v := .int .i64 (IntKind.wrap .i64 (x7_1 + (1 : Int)))) rfl rfl (by kernel_rfl) (fun w => by kernel_rfl) ?_
      refine ls_val (v := .int .i64 (IntKind.wrap .i64 (x7_1 + (1 : Int)))) rfl rfl (by kernel_rfl) (fun w => by kernel_rfl) ?_
      refine ls_end ?_
      refine qn_again k1 (sput (sput (sput s0 0 (some (Ck.var 51 g1 (en (Value.int .u32) a0.1)))) 1 (some (Ck.var 51 g2 (en (Value.int .u32) (vrep 32 (0 : Int)).1)))) 2 (some (Ck.var 51 g3 (en (Value.int .u32) y9.1)))) (Nat.le_refl _) ⟨_, (IntKind.wrap .i64 (x7_1 + (1 : Int))), y9, fr_next (fr_next (fr_next (fr_next (fr_next (rfl) (by kernel_rfl)) (by kernel_rfl)) (by kernel_rfl)) (by kernel_rfl)) (by kernel_rfl), rfl, H⟩ (sub_put (by exact rfl) (sub_put (by exact rfl) (sub_put (by exact rfl) (sub_nil _))))
    · replace H := ite_f q4 H
      refine cs_know (c := false) (dec_f q4) 8 (by kernel_rfl) ?_
      refine cs_false (by kernel_rfl) ?_
      refine cs_exit' ?_
      refine qx_then ?_
      refine qx_then ?_
      refine qx_same ?_
      refine qn_then ?_
      refine cs_seq ?_
      refine cs_region (l := [_, _]) ?_
      refine ls_loadagg (a := ⟨g3, 0, none⟩) (sub := en (Value.int .u32) m2_1.1) rfl rfl (by kernel_rfl) rfl (by kernel_rfl) (by kernel_rfl) (by kernel_rfl) (len_en _ m2_1) (fun w hs => (hs.vars (k := 2) (by exact rfl) (Sub4.all _))) ?_
      refine ls_storec (g := g2) (off := 0) (v := .agg ⟨en (Value.int .u32) m2_1.1⟩) (vs := en (Value.int .u32) m2_1.1) (cs := en (Value.int .u32) (vrep 32 (0 : Int)).1) (ty := 51) 1 rfl rfl rfl (by kernel_rfl) (by kernel_rfl) (by kernel_rfl) (by exact rfl) (by kernel_rfl) (len_en _ m2_1) (one_en (fun _ => rfl) _) (hl_of (Sub4.all _) (len_eq (len_en _ m2_1) (len_en _ (vrep 32 (0 : Int))))) (cs' := en (Value.int .u32) m2_1.1) (splc_all (len_eq (len_en _ m2_1) (len_en _ (vrep 32 (0 : Int))))) ?_
      refine ls_end ?_
      refine qn_then ?_
      refine cs_ret' ?_
      obtain rfl := Option.some.inj H
      refine qr_res (rs := [_]) rfl (fun w' hs => ⟨[.agg ⟨en (Value.int .u32) m2_1.1⟩], (.cell (by kernel_rfl) (run_cellres (by kernel_rfl) (by kernel_rfl) (len_en _ m2_1) (hs.holds 1 _ (by exact rfl))) (.nil)), (), rfl, hs.pick (ts := []) (cs := []) trivial (by decide)⟩)

/-! ### shadowbox/crc.Join: function 10 -/
def crc_Join.lo2 (a1 : Int) (a2 : Int) : Nat → Int → Int → ((Vc Int 32)) → Option (Int)
  | 0, _, _, _ => none
  | k2 + 1, x0_2, x13_2, m0_2 => (if x13_2 < (63 : Int) then (if 0 ≤ x13_2 then (if (shrv .i64 a2 x13_2) = (0 : Int) then some (bits .xor .u32 x0_2 a1) else lt (bits .and .i64 (shrv .i64 a2 x13_2) (1 : Int)) fun y8 => (if y8 = (1 : Int) then (crc_shift_of.f k2 m0_2 x0_2).bind fun t11 => (crc_shift_twice.f k2 m0_2).bind fun t14 => (crc_Join.lo2 a1 a2 k2) t11 (IntKind.wrap .i64 (x13_2 + (1 : Int))) t14 else (crc_shift_twice.f k2 m0_2).bind fun t17 => (crc_Join.lo2 a1 a2 k2) x0_2 (IntKind.wrap .i64 (x13_2 + (1 : Int))) t17)) else none) else some (bits .xor .u32 x0_2 a1))
def crc_Join.jo1 (k : Nat) (a0 : Int) (a1 : Int) (a2 : Int) : Option (Int) := (crc_byteShift.f k).bind fun t1 => crc_Join.lo2 a1 a2 k a0 (0 : Int) t1
def crc_Join.f (k : Nat) (a0 : Int) (a1 : Int) (a2 : Int) : Option (Int) :=
  (if a2 < (1 : Int) then some a0 else (crc_Join.jo1 k a0 a1 a2))
set_option maxRecDepth 100000 in
set_option maxHeartbeats 4000000 in
theorem crc_Join.calls (k : Nat) (a0 : Int) (a1 : Int) (a2 : Int) (r : Int) (b : Bs) (hs0 : St b (stl []) b.w) (H : crc_Join.f k a0 a1 a2 = some r) :
    Calls Try.prog 10 #[.int .u32 a0, .int .u32 a1, .int .i64 a2] b.w fun e w' => ∃ x : Unit, e = .returned (.int .u32 r) ∧ St b (stl []) w' := by
  unfold crc_Join.f at H
  refine enterb (n := 34) Try.func10 rfl (by kernel_rfl) (by kernel_rfl) hs0 ?_
  refine cs_sub (s0) (sub_nil _) ?_
  refine cs_seq ?_
  refine cs_region (l := [_]) ?_
  refine ls_val (v := .int .u32 (0 : Int)) rfl rfl (by kernel_rfl) (fun w => by kernel_rfl) ?_
  refine ls_end ?_
  refine qn_then ?_
  refine cs_cut (fun f S => ∃ (fR : Fr), f = upd (upd (upd fR 0 (.int .u32 a0)) 1 (.int .u32 a1)) 2 (.int .i64 a2) ∧ S = s0 ∧ crc_Join.jo1 k a0 a1 a2 = some r) ?_ ?_
  · skip
    refine cs_seq ?_
    refine cs_region (l := [_, _]) ?_
    refine ls_val (v := .int .i64 a2) rfl rfl (by kernel_rfl) (fun w => by kernel_rfl) ?_
    refine ls_val (v := .bool (decide (a2 < (1 : Int)))) rfl rfl (by kernel_rfl) (fun w => by kernel_rfl) ?_
    refine ls_end ?_
    refine qn_then ?_
    by_cases q20 : a2 < (1 : Int)
    · replace H := ite_t q20 H
      refine cs_know (c := true) (dec_t q20) 10 (by kernel_rfl) ?_
      refine cs_true (by kernel_rfl) ?_
      refine cs_seq ?_
      refine cs_region (l := [_, _]) ?_
      refine ls_val (v := .int .u32 a0) rfl rfl (by kernel_rfl) (fun w => by kernel_rfl) ?_
      refine ls_val (v := .int .u32 a0) rfl rfl (by kernel_rfl) (fun w => by kernel_rfl) ?_
      refine ls_end ?_
      refine qn_then ?_
      refine cs_ret' ?_
      refine qr_then ?_
      obtain rfl := Option.some.inj H
      refine qr_res (rs := [_]) rfl (fun w' hs => ⟨[.int .u32 a0], (res_tmp (by kernel_rfl) (.nil)), (), rfl, hs.pick (ts := []) (cs := []) trivial (by decide)⟩)
    · replace H := ite_f q20 H
      refine cs_know (c := false) (dec_f q20) 10 (by kernel_rfl) ?_
      refine cs_false (by kernel_rfl) ?_
      refine cs_skip' ?_
      refine qn_meet (s0) ⟨_, fr_next (fr_next (fr_next (rfl) (by kernel_rfl)) (by kernel_rfl)) (by kernel_rfl), rfl, H⟩ (sub_nil _)
  · rintro f S ⟨fr1, rfl, rfl, H⟩
    replace H : ((crc_byteShift.f k).bind fun t1 => crc_Join.lo2 a1 a2 k a0 (0 : Int) t1) = some r := H
    refine cs_seq ?_
    refine cs_region (l := [_, _, _]) ?_
    obtain ⟨t1, hc2, H⟩ := bind_some H
    refine ls_callb (fid := 24) (vals := #[]) (X := Unit) (fun x => .agg ⟨en (Value.int .u32) t1.1⟩) (fun x => stl []) [] [] [] [] 0 rfl rfl (by kernel_rfl) (fun w => by kernel_rfl) trivial trivial (by decide) (fun w hs hb => crc_byteShift.calls k  t1 (lent b w [] []) hb  hc2) ?_
    intro x3
    refine ls_new rfl rfl (by kernel_rfl) 0 (fun g => .pointer (some ⟨g, 0, none⟩)) (.cells ⟨en (Value.int .u32) (vrep 32 (0 : Int)).1⟩ 51) (fun w => by kernel_rfl) ?_
    intro g4
    refine ls_storec (g := g4) (off := 0) (v := .agg ⟨en (Value.int .u32) t1.1⟩) (vs := en (Value.int .u32) t1.1) (cs := en (Value.int .u32) (vrep 32 (0 : Int)).1) (ty := 51) 0 rfl rfl rfl (by kernel_rfl) (by kernel_rfl) (by kernel_rfl) (by exact rfl) (by kernel_rfl) (len_en _ t1) (one_en (fun _ => rfl) _) (hl_of (Sub4.all _) (len_eq (len_en _ t1) (len_en _ (vrep 32 (0 : Int))))) (cs' := en (Value.int .u32) t1.1) (splc_all (len_eq (len_en _ t1) (len_en _ (vrep 32 (0 : Int))))) ?_
    refine ls_end ?_
    refine qn_then ?_
    refine cs_seq ?_
    refine cs_seq ?_
    refine cs_region (l := [_]) ?_
    refine ls_val (v := .int .i64 (0 : Int)) rfl rfl (by kernel_rfl) (fun w => by kernel_rfl) ?_
    refine ls_end ?_
    refine qn_then ?_
    refine cs_block ?_
    refine cs_sub (sput s0 0 (some (Ck.var 51 g4 (en (Value.int .u32) t1.1)))) (sub_put (by exact rfl) (sub_nil _)) ?_
    refine cs_loop (fun kk f S => ∃ (fR : Fr) (x0_2 : Int) (x13_2 : Int) (m0_2 : (Vc Int 32)), f = upd (upd (upd (upd (upd fR 0 (.int .u32 x0_2)) 1 (.int .u32 a1)) 2 (.int .i64 a2)) 7 (.pointer (some ⟨g4, 0, none⟩))) 13 (.int .i64 x13_2) ∧ S = sput s0 0 (some (Ck.var 51 g4 (en (Value.int .u32) m0_2.1))) ∧ crc_Join.lo2 a1 a2 kk x0_2 x13_2 m0_2 = some r) k ?_ ?_ ?_
    · exact ⟨_, a0, (0 : Int), t1, fr_next (fr_next (fr_next (fr_next (fr_next (rfl) (by kernel_rfl)) (by kernel_rfl)) (by kernel_rfl)) (by kernel_rfl)) (by kernel_rfl), rfl, H⟩
    · rintro f S ⟨fr2, x0_2, x13_2, m0_2, rfl, rfl, H⟩; cases H
    · rintro k2 f S ⟨fr2, x0_2, x13_2, m0_2, rfl, rfl, H⟩
      replace H : ((if x13_2 < (63 : Int) then (if 0 ≤ x13_2 then (if (shrv .i64 a2 x13_2) = (0 : Int) then some (bits .xor .u32 x0_2 a1) else lt (bits .and .i64 (shrv .i64 a2 x13_2) (1 : Int)) fun y8 => (if y8 = (1 : Int) then (crc_shift_of.f k2 m0_2 x0_2).bind fun t11 => (crc_shift_twice.f k2 m0_2).bind fun t14 => (crc_Join.lo2 a1 a2 k2) t11 (IntKind.wrap .i64 (x13_2 + (1 : Int))) t14 else (crc_shift_twice.f k2 m0_2).bind fun t17 => (crc_Join.lo2 a1 a2 k2) x0_2 (IntKind.wrap .i64 (x13_2 + (1 : Int))) t17)) else none) else some (bits .xor .u32 x0_2 a1))) = some r := H
      refine cs_seq ?_
      refine cs_region (l := [_]) ?_
      refine ls_val (v := .bool (decide (x13_2 < (63 : Int)))) rfl rfl (by kernel_rfl) (fun w => by kernel_rfl) ?_
      refine ls_end ?_
      refine qn_then ?_
      refine cs_seq ?_
      by_cases q5 : x13_2 < (63 : Int)
      · replace H := ite_t q5 H
        refine cs_know (c := true) (dec_t q5) 14 (by kernel_rfl) ?_
        refine cs_true (by kernel_rfl) ?_
        refine cs_skip' ?_
        refine qn_then ?_
        refine cs_seq ?_
        refine cs_block ?_
        refine cs_seq ?_
        refine cs_region (l := [_, _]) ?_
        refine ls_val (v := .int .i64 x13_2) rfl rfl (by kernel_rfl) (fun w => by kernel_rfl) ?_
        refine ls_val (v := .int .i64 x13_2) rfl rfl (by kernel_rfl) (fun w => by kernel_rfl) ?_
        refine ls_end ?_
        refine qn_then ?_
        refine cs_seq ?_
        refine cs_seq ?_
        refine cs_region (l := [_, _, _, _]) ?_
        refine ls_val (v := .int .i64 a2) rfl rfl (by kernel_rfl) (fun w => by kernel_rfl) ?_
        refine ls_val (v := .int .i64 x13_2) rfl rfl (by kernel_rfl) (fun w => by kernel_rfl) ?_
        obtain ⟨q6, H⟩ := ite_need H
        refine ls_shiftr (k := .i64) (yk := .i64) (x := a2) (y := x13_2) rfl rfl (by kernel_rfl) (fun w => by kernel_rfl) q6 ?_
        refine ls_val (v := .bool (decide ((shrv .i64 a2 x13_2) = (0 : Int)))) rfl rfl (by kernel_rfl) (fun w => by kernel_rfl) ?_
        refine ls_end ?_
        refine qn_then ?_
        by_cases q7 : (shrv .i64 a2 x13_2) = (0 : Int)
        · replace H := ite_t q7 H
          refine cs_know (c := true) (dec_t q7) 19 (by kernel_rfl) ?_
          refine cs_true (by kernel_rfl) ?_
          refine cs_exit' ?_
          refine qx_then ?_
          refine qx_other (by decide) ?_
          refine qx_then ?_
          refine qx_then ?_
          refine qx_same ?_
          refine qn_then ?_
          refine cs_seq ?_
          refine cs_region (l := [_, _, _, _]) ?_
          refine ls_val (v := .int .u32 x0_2) rfl rfl (by kernel_rfl) (fun w => by kernel_rfl) ?_
          refine ls_val (v := .int .u32 a1) rfl rfl (by kernel_rfl) (fun w => by kernel_rfl) ?_
          refine ls_val (v := .int .u32 (bits .xor .u32 x0_2 a1)) rfl rfl (by kernel_rfl) (fun w => by kernel_rfl) ?_
          refine ls_val (v := .int .u32 (bits .xor .u32 x0_2 a1)) rfl rfl (by kernel_rfl) (fun w => by kernel_rfl) ?_
          refine ls_end ?_
          refine qn_then ?_
          refine cs_ret' ?_
          obtain rfl := Option.some.inj H
          refine qr_res (rs := [_]) rfl (fun w' hs => ⟨[.int .u32 (bits .xor .u32 x0_2 a1)], (res_tmp (by kernel_rfl) (.nil)), (), rfl, hs.pick (ts := []) (cs := []) trivial (by decide)⟩)
        · replace H := ite_f q7 H
          refine cs_know (c := false) (dec_f q7) 19 (by kernel_rfl) ?_
          refine cs_false (by kernel_rfl) ?_
          refine cs_skip' ?_
          refine qn_then ?_
          refine cs_seq ?_
          refine cs_seq ?_
          refine cs_region (l := [_, _, _, _, _]) ?_
          refine ls_val (v := .int .i64 a2) rfl rfl (by kernel_rfl) (fun w => by kernel_rfl) ?_
          refine ls_val (v := .int .i64 x13_2) rfl rfl (by kernel_rfl) (fun w => by kernel_rfl) ?_
          refine ls_shiftr (k := .i64) (yk := .i64) (x := a2) (y := x13_2) rfl rfl (by kernel_rfl) (fun w => by kernel_rfl) q6 ?_
          obtain ⟨y8, hy9, H⟩ := lt_some H
          refine ls_val (v := .int .i64 (bits .and .i64 (shrv .i64 a2 x13_2) (1 : Int))) rfl rfl (by kernel_rfl) (fun w => by kernel_rfl) ?_
          refine ls_ren 23 (v := .int .i64 (bits .and .i64 (shrv .i64 a2 x13_2) (1 : Int))) (v' := .int .i64 y8) (by kernel_rfl) (by rw [hy9]) ?_
          refine ls_val (v := .bool (decide (y8 = (1 : Int)))) rfl rfl (by kernel_rfl) (fun w => by kernel_rfl) ?_
          refine ls_end ?_
          refine qn_then ?_
          by_cases q10 : y8 = (1 : Int)
          · replace H := ite_t q10 H
            refine cs_know (c := true) (dec_t q10) 24 (by kernel_rfl) ?_
            refine cs_true (by kernel_rfl) ?_
            refine cs_region (l := [_, _, _, _]) ?_
            refine ls_loadagg (a := ⟨g4, 0, none⟩) (sub := en (Value.int .u32) m0_2.1) rfl rfl (by kernel_rfl) rfl (by kernel_rfl) (by kernel_rfl) (by kernel_rfl) (len_en _ m0_2) (fun w hs => (hs.vars (k := 0) (by exact rfl) (Sub4.all _))) ?_
            refine ls_val (v := .int .u32 x0_2) rfl rfl (by kernel_rfl) (fun w => by kernel_rfl) ?_
            obtain ⟨t11, hc12, H⟩ := bind_some H
            refine ls_callb (fid := 25) (vals := #[.agg ⟨en (Value.int .u32) m0_2.1⟩, .int .u32 x0_2]) (X := Unit) (fun x => .int .u32 t11) (fun x => stl []) [] [] [] [] 1 rfl rfl (by kernel_rfl) (fun w => by kernel_rfl) trivial trivial (by decide) (fun w hs hb => crc_shift_of.calls k2 m0_2 x0_2 t11 (lent b w [] []) hb  hc12) ?_
            intro x13
            refine ls_val (v := .int .u32 t11) rfl rfl (by kernel_rfl) (fun w => by kernel_rfl) ?_
            refine ls_end ?_
            refine qn_then ?_
            refine cs_region (l := [_, _, _]) ?_
            refine ls_loadagg (a := ⟨g4, 0, none⟩) (sub := en (Value.int .u32) m0_2.1) rfl rfl (by kernel_rfl) rfl (by kernel_rfl) (by kernel_rfl) (by kernel_rfl) (len_en _ m0_2) (fun w hs => (hs.vars (k := 0) (by exact rfl) (Sub4.all _))) ?_
            obtain ⟨t14, hc15, H⟩ := bind_some H
            refine ls_callb (fid := 26) (vals := #[.agg ⟨en (Value.int .u32) m0_2.1⟩]) (X := Unit) (fun x => .agg ⟨en (Value.int .u32) t14.1⟩) (fun x => stl []) [] [] [] [] 1 rfl rfl (by kernel_rfl) (fun w => by kernel_rfl) trivial trivial (by decide) (fun w hs hb => crc_shift_twice.calls k2 m0_2 t14 (lent b w [] []) hb  hc15) ?_
            intro x16
            refine ls_storec (g := g4) (off := 0) (v := .agg ⟨en (Value.int .u32) t14.1⟩) (vs := en (Value.int .u32) t14.1) (cs := en (Value.int .u32) m0_2.1) (ty := 51) 0 rfl rfl rfl (by kernel_rfl) (by kernel_rfl) (by kernel_rfl) (by exact rfl) (by kernel_rfl) (len_en _ t14) (one_en (fun _ => rfl) _) (hl_of (Sub4.all _) (len_eq (len_en _ t14) (len_en _ m0_2))) (cs' := en (Value.int .u32) t14.1) (splc_all (len_eq (len_en _ t14) (len_en _ m0_2))) ?_
            refine ls_end ?_
            refine qn_block ?_
            refine qn_then ?_
            refine cs_region (l := [_, _]) ?_
            refine ls_val (v := .int .i64 (IntKind.wrap .i64 (x13_2 + (1 : Int)))) rfl rfl (by kernel_rfl) (fun w => by kernel_rfl) ?_
            refine ls_val (v := .int .i64 (IntKind.wrap .i64 (x13_2 + (1 : Int)))) rfl rfl (by kernel_rfl) (fun w => by kernel_rfl) ?_
            refine ls_end ?_
            refine qn_again k2 (sput s0 0 (some (Ck.var 51 g4 (en (Value.int .u32) t14.1)))) (Nat.le_refl _) ⟨_, t11, (IntKind.wrap .i64 (x13_2 + (1 : Int))), t14, fr_next (fr_next (fr_next (fr_next (fr_next (rfl) (by kernel_rfl)) (by kernel_rfl)) (by kernel_rfl)) (by kernel_rfl)) (by kernel_rfl), rfl, H⟩ (sub_put (by exact rfl) (sub_nil _))
          · replace H := ite_f q10 H
            refine cs_know (c := false) (dec_f q10) 24 (by kernel_rfl) ?_
            refine cs_false (by kernel_rfl) ?_
            refine cs_skip' ?_
            refine qn_then ?_
            refine cs_region (l := [_, _, _]) ?_
            refine ls_loadagg (a := ⟨g4, 0, none⟩) (sub := en (Value.int .u32) m0_2.1) rfl rfl (by kernel_rfl) rfl (by kernel_rfl) (by kernel_rfl) (by kernel_rfl) (len_en _ m0_2) (fun w hs => (hs.vars (k := 0) (by exact rfl) (Sub4.all _))) ?_
            obtain ⟨t17, hc18, H⟩ := bind_some H
            refine ls_callb (fid := 26) (vals := #[.agg ⟨en (Value.int .u32) m0_2.1⟩]) (X := Unit) (fun x => .agg ⟨en (Value.int .u32) t17.1⟩) (fun x => stl []) [] [] [] [] 1 rfl rfl (by kernel_rfl) (fun w => by kernel_rfl) trivial trivial (by decide) (fun w hs hb => crc_shift_twice.calls k2 m0_2 t17 (lent b w [] []) hb  hc18) ?_
            intro x19
            refine ls_storec (g := g4) (off := 0) (v := .agg ⟨en (Value.int .u32) t17.1⟩) (vs := en (Value.int .u32) t17.1) (cs := en (Value.int .u32) m0_2.1) (ty := 51) 0 rfl rfl rfl (by kernel_rfl) (by kernel_rfl) (by kernel_rfl) (by exact rfl) (by kernel_rfl) (len_en _ t17) (one_en (fun _ => rfl) _) (hl_of (Sub4.all _) (len_eq (len_en _ t17) (len_en _ m0_2))) (cs' := en (Value.int .u32) t17.1) (splc_all (len_eq (len_en _ t17) (len_en _ m0_2))) ?_
            refine ls_end ?_
            refine qn_block ?_
            refine qn_then ?_
            refine cs_region (l := [_, _]) ?_
            refine ls_val (v := .int .i64 (IntKind.wrap .i64 (x13_2 + (1 : Int)))) rfl rfl (by kernel_rfl) (fun w => by kernel_rfl) ?_
            refine ls_val (v := .int .i64 (IntKind.wrap .i64 (x13_2 + (1 : Int)))) rfl rfl (by kernel_rfl) (fun w => by kernel_rfl) ?_
            refine ls_end ?_
            refine qn_again k2 (sput s0 0 (some (Ck.var 51 g4 (en (Value.int .u32) t17.1)))) (Nat.le_refl _) ⟨_, x0_2, (IntKind.wrap .i64 (x13_2 + (1 : Int))), t17, fr_next (fr_next (fr_next (fr_next (fr_next (rfl) (by kernel_rfl)) (by kernel_rfl)) (by kernel_rfl)) (by kernel_rfl)) (by kernel_rfl), rfl, H⟩ (sub_put (by exact rfl) (sub_nil _))
      · replace H := ite_f q5 H
        refine cs_know (c := false) (dec_f q5) 14 (by kernel_rfl) ?_
        refine cs_false (by kernel_rfl) ?_
        refine cs_exit' ?_
        refine qx_then ?_
        refine qx_then ?_
        refine qx_same ?_
        refine qn_then ?_
        refine cs_seq ?_
        refine cs_region (l := [_, _, _, _]) ?_
        refine ls_val (v := .int .u32 x0_2) rfl rfl (by kernel_rfl) (fun w => by kernel_rfl) ?_
        refine ls_val (v := .int .u32 a1) rfl rfl (by kernel_rfl) (fun w => by kernel_rfl) ?_
        refine ls_val (v := .int .u32 (bits .xor .u32 x0_2 a1)) rfl rfl (by kernel_rfl) (fun w => by kernel_rfl) ?_
        refine ls_val (v := .int .u32 (bits .xor .u32 x0_2 a1)) rfl rfl (by kernel_rfl) (fun w => by kernel_rfl) ?_
        refine ls_end ?_
        refine qn_then ?_
        refine cs_ret' ?_
        obtain rfl := Option.some.inj H
        refine qr_res (rs := [_]) rfl (fun w' hs => ⟨[.int .u32 (bits .xor .u32 x0_2 a1)], (res_tmp (by kernel_rfl) (.nil)), (), rfl, hs.pick (ts := []) (cs := []) trivial (by decide)⟩)

/-! ### shadowbox/shadowboxref03.primes: function 27 -/
def shadowboxref03_primes.lo3 (l3_1 : List Int) (x4_1 : Int) (lo1 : (List Int) → Int → Option ((List Int))) : Nat → Bool → Int → Option ((List Int))
  | 0, _, _ => none
  | k3 + 1, x5_3, x6_3 => (if x6_3 < (l3_1.length : Int) then (if 0 ≤ x6_3 then (if ((l3_1).getD (x6_3).toNat (0 : Int)) ≠ 0 then lt (Int.tmod x4_1 ((l3_1).getD (x6_3).toNat (0 : Int))) fun y6 => (if y6 = (0 : Int) then (shadowboxref03_primes.lo3 l3_1 x4_1 lo1 k3) false (IntKind.wrap .i64 (x6_3 + (1 : Int))) else (shadowboxref03_primes.lo3 l3_1 x4_1 lo1 k3) x5_3 (IntKind.wrap .i64 (x6_3 + (1 : Int)))) else none) else none) else (if x5_3 = true then (if (l3_1.length + ([x4_1]).length) * 8 ≤ 140737488355328 then lo1 (l3_1 ++ [x4_1]) (IntKind.wrap .u64 (x4_1 + (1 : Int))) else none) else lo1 l3_1 (IntKind.wrap .u64 (x4_1 + (1 : Int)))))
def shadowboxref03_primes.jo2 (l3_1 : List Int) (x4_1 : Int) (k1 : Nat) (lo1 : (List Int) → Int → Option ((List Int))) : Option ((List Int)) := shadowboxref03_primes.lo3 l3_1 x4_1 lo1 k1 true (0 : Int)
def shadowboxref03_primes.lo1 (a0 : Int) : Nat → (List Int) → Int → Option ((List Int))
  | 0, _, _ => none
  | k1 + 1, l3_1, x4_1 => (if (l3_1.length : Int) < a0 then (shadowboxref03_primes.jo2 l3_1 x4_1 k1 (shadowboxref03_primes.lo1 a0 k1)) else some l3_1)
def shadowboxref03_primes.f (k : Nat) (a0 : Int) : Option ((List Int)) :=
  shadowboxref03_primes.lo1 a0 k ([] : List Int) (2 : Int)
set_option maxRecDepth 100000 in
set_option maxHeartbeats 4000000 in
theorem shadowboxref03_primes.calls (k : Nat) (a0 : Int) (r : (List Int)) (b : Bs) (hs0 : St b (stl []) b.w) (H : shadowboxref03_primes.f k a0 = some r) :
    Calls Try.prog 27 #[.int .i64 a0] b.w fun e w' => ∃ x : (Option Addr × Nat), e = .returned (.slice x.1 r.length x.2) ∧ St b (stl [Ck.sl (Ec.int 31 .u64) x.1 x.2 r]) w' := by
  unfold shadowboxref03_primes.f at H
  refine enterb (n := 32) Try.func27 rfl (by kernel_rfl) (by kernel_rfl) hs0 ?_
  refine cs_sub (s0) (sub_nil _) ?_
  refine cs_seq ?_
  refine cs_region (l := [_]) ?_
  refine ls_val (v := .slice none 0 0) rfl rfl (by kernel_rfl) (fun w => by kernel_rfl) ?_
  refine ls_end ?_
  refine qn_then ?_
  refine cs_seq ?_
  refine cs_region (l := [_]) ?_
  refine ls_val (v := .slice none 0 0) rfl rfl (by kernel_rfl) (fun w => by kernel_rfl) ?_
  refine ls_end ?_
  refine qn_then ?_
  refine cs_seq ?_
  refine cs_seq ?_
  refine cs_region (l := [_]) ?_
  refine ls_val (v := .int .u64 (2 : Int)) rfl rfl (by kernel_rfl) (fun w => by kernel_rfl) ?_
  refine ls_end ?_
  refine qn_then ?_
  refine cs_block ?_
  refine cs_nilrow 0 (Ec.int 31 .u64) ?_
  refine cs_sub (sput s0 0 (some (Ck.sl (Ec.int 31 .u64) none 0 ([] : List Int)))) (sub_put (by exact rfl) (sub_nil _)) ?_
  refine cs_loop (fun kk f S => ∃ (fR : Fr) (A3_1 : Option Addr) (c3_1 : Nat) (l3_1 : List Int) (x4_1 : Int), f = upd (upd (upd fR 0 (.int .i64 a0)) 3 (.slice A3_1 l3_1.length c3_1)) 4 (.int .u64 x4_1) ∧ S = sput s0 0 (some (Ck.sl (Ec.int 31 .u64) A3_1 c3_1 l3_1)) ∧ shadowboxref03_primes.lo1 a0 kk l3_1 x4_1 = some r) k ?_ ?_ ?_
  · exact ⟨_, none, 0, ([] : List Int), (2 : Int), fr_next (fr_next (fr_next (rfl) (by kernel_rfl)) (by kernel_rfl)) (by kernel_rfl), rfl, H⟩
  · rintro f S ⟨fr1, A3_1, c3_1, l3_1, x4_1, rfl, rfl, H⟩; cases H
  · rintro k1 f S ⟨fr1, A3_1, c3_1, l3_1, x4_1, rfl, rfl, H⟩
    replace H : ((if (l3_1.length : Int) < a0 then (shadowboxref03_primes.jo2 l3_1 x4_1 k1 (shadowboxref03_primes.lo1 a0 k1)) else some l3_1)) = some r := H
    refine cs_cut (fun f S => ∃ (fR : Fr), f = upd (upd (upd fR 0 (.int .i64 a0)) 3 (.slice A3_1 l3_1.length c3_1)) 4 (.int .u64 x4_1) ∧ S = sput s0 0 (some (Ck.sl (Ec.int 31 .u64) A3_1 c3_1 l3_1)) ∧ shadowboxref03_primes.jo2 l3_1 x4_1 k1 (shadowboxref03_primes.lo1 a0 k1) = some r) ?_ ?_
    · skip
      refine cs_seq ?_
      refine cs_region (l := [_, _, _, _]) ?_
      refine ls_val (v := .slice A3_1 l3_1.length c3_1) rfl rfl (by kernel_rfl) (fun w => by kernel_rfl) ?_
      refine ls_val (v := .int .i64 (l3_1.length : Int)) rfl rfl (by kernel_rfl) (fun w => by kernel_rfl) ?_
      refine ls_val (v := .int .i64 a0) rfl rfl (by kernel_rfl) (fun w => by kernel_rfl) ?_
      refine ls_val (v := .bool (decide ((l3_1.length : Int) < a0))) rfl rfl (by kernel_rfl) (fun w => by kernel_rfl) ?_
      refine ls_end ?_
      refine qn_then ?_
      by_cases q14 : (l3_1.length : Int) < a0
      · replace H := ite_t q14 H
        refine cs_know (c := true) (dec_t q14) 10 (by kernel_rfl) ?_
        refine cs_true (by kernel_rfl) ?_
        refine cs_skip' ?_
        refine qn_meet (sput s0 0 (some (Ck.sl (Ec.int 31 .u64) A3_1 c3_1 l3_1))) ⟨_, fr_next (fr_next (fr_next (rfl) (by kernel_rfl)) (by kernel_rfl)) (by kernel_rfl), rfl, H⟩ (sub_put (by exact rfl) (sub_nil _))
      · replace H := ite_f q14 H
        refine cs_know (c := false) (dec_f q14) 10 (by kernel_rfl) ?_
        refine cs_false (by kernel_rfl) ?_
        refine cs_exit' ?_
        refine qx_then ?_
        refine qx_then ?_
        refine qx_same ?_
        refine qn_then ?_
        refine cs_seq ?_
        refine cs_region (l := [_, _]) ?_
        refine ls_val (v := .slice A3_1 l3_1.length c3_1) rfl rfl (by kernel_rfl) (fun w => by kernel_rfl) ?_
        refine ls_val (v := .slice A3_1 l3_1.length c3_1) rfl rfl (by kernel_rfl) (fun w => by kernel_rfl) ?_
        refine ls_end ?_
        refine qn_then ?_
        refine cs_ret' ?_
        obtain rfl := Option.some.inj H
        refine qr_res (rs := [_]) rfl (fun w' hs => ⟨[.slice A3_1 l3_1.length c3_1], (res_tmp (by kernel_rfl) (.nil)), (A3_1, c3_1), rfl, hs.pick (ts := [0]) (cs := [Ck.sl (Ec.int 31 .u64) A3_1 c3_1 l3_1]) ⟨by exact rfl, trivial⟩ (by decide)⟩)
    · rintro f S ⟨fr2, rfl, rfl, H⟩
      replace H : (shadowboxref03_primes.lo3 l3_1 x4_1 (shadowboxref03_primes.lo1 a0 k1) k1 true (0 : Int)) = some r := H
      refine cs_seq ?_
      refine cs_block ?_
      refine cs_seq ?_
      refine cs_region (l := [_]) ?_
      refine ls_val (v := .bool true) rfl rfl (by kernel_rfl) (fun w => by kernel_rfl) ?_
      refine ls_end ?_
      refine qn_then ?_
      refine cs_seq ?_
      refine cs_seq ?_
      refine cs_region (l := [_]) ?_
      refine ls_val (v := .int .i64 (0 : Int)) rfl rfl (by kernel_rfl) (fun w => by kernel_rfl) ?_
      refine ls_end ?_
      refine qn_then ?_
      refine cs_block ?_
      refine cs_sub (sput s0 0 (some (Ck.sl (Ec.int 31 .u64) A3_1 c3_1 l3_1))) (sub_put (by exact rfl) (sub_nil _)) ?_
      refine cs_loop (fun kk f S => ∃ (fR : Fr) (x5_3 : Bool) (x6_3 : Int), f = upd (upd (upd (upd (upd fR 0 (.int .i64 a0)) 3 (.slice A3_1 l3_1.length c3_1)) 4 (.int .u64 x4_1)) 5 (.bool x5_3)) 6 (.int .i64 x6_3) ∧ S = sput s0 0 (some (Ck.sl (Ec.int 31 .u64) A3_1 c3_1 l3_1)) ∧ shadowboxref03_primes.lo3 l3_1 x4_1 (shadowboxref03_primes.lo1 a0 k1) kk x5_3 x6_3 = some r) k1 ?_ ?_ ?_
      · exact ⟨_, true, (0 : Int), fr_next (fr_next (fr_next (fr_next (fr_next (rfl) (by kernel_rfl)) (by kernel_rfl)) (by kernel_rfl)) (by kernel_rfl)) (by kernel_rfl), rfl, H⟩
      · rintro f S ⟨fr3, x5_3, x6_3, rfl, rfl, H⟩; cases H
      · rintro k3 f S ⟨fr3, x5_3, x6_3, rfl, rfl, H⟩
        replace H : ((if x6_3 < (l3_1.length : Int) then (if 0 ≤ x6_3 then (if ((l3_1).getD (x6_3).toNat (0 : Int)) ≠ 0 then lt (Int.tmod x4_1 ((l3_1).getD (x6_3).toNat (0 : Int))) fun y6 => (if y6 = (0 : Int) then (shadowboxref03_primes.lo3 l3_1 x4_1 (shadowboxref03_primes.lo1 a0 k1) k3) false (IntKind.wrap .i64 (x6_3 + (1 : Int))) else (shadowboxref03_primes.lo3 l3_1 x4_1 (shadowboxref03_primes.lo1 a0 k1) k3) x5_3 (IntKind.wrap .i64 (x6_3 + (1 : Int)))) else none) else none) else (if x5_3 = true then (if (l3_1.length + ([x4_1]).length) * 8 ≤ 140737488355328 then (shadowboxref03_primes.lo1 a0 k1) (l3_1 ++ [x4_1]) (IntKind.wrap .u64 (x4_1 + (1 : Int))) else none) else (shadowboxref03_primes.lo1 a0 k1) l3_1 (IntKind.wrap .u64 (x4_1 + (1 : Int)))))) = some r := H
        refine cs_seq ?_
        refine cs_seq ?_
        refine cs_region (l := [_, _, _, _]) ?_
        refine ls_val (v := .int .i64 x6_3) rfl rfl (by kernel_rfl) (fun w => by kernel_rfl) ?_
        refine ls_val (v := .slice A3_1 l3_1.length c3_1) rfl rfl (by kernel_rfl) (fun w => by kernel_rfl) ?_
        refine ls_val (v := .int .i64 (l3_1.length : Int)) rfl rfl (by kernel_rfl) (fun w => by kernel_rfl) ?_
        refine ls_val (v := .bool (decide (x6_3 < (l3_1.length : Int)))) rfl rfl (by kernel_rfl) (fun w => by kernel_rfl) ?_
        refine ls_end ?_
        refine qn_then ?_
        by_cases q1 : x6_3 < (l3_1.length : Int)
        · replace H := ite_t q1 H
          refine cs_know (c := true) (dec_t q1) 16 (by kernel_rfl) ?_
          refine cs_true (by kernel_rfl) ?_
          refine cs_skip' ?_
          refine qn_then ?_
          refine cs_seq ?_
          refine cs_block ?_
          refine cs_seq ?_
          refine cs_region (l := [_, _, _, _, _, _, _]) ?_
          refine ls_val (v := .int .u64 x4_1) rfl rfl (by kernel_rfl) (fun w => by kernel_rfl) ?_
          refine ls_val (v := .slice A3_1 l3_1.length c3_1) rfl rfl (by kernel_rfl) (fun w => by kernel_rfl) ?_
          refine ls_val (v := .int .i64 x6_3) rfl rfl (by kernel_rfl) (fun w => by kernel_rfl) ?_
          obtain ⟨q2, H⟩ := ite_need H
          refine ls_at (T := (Ec.int 31 .u64)) (tk := 0) (i := x6_3) (by exact rfl) q2 q1 ?_
          intro ad3 hA4
          refine ls_idxv (Ec.int 31 .u64) (A := A3_1) (c := c3_1) (l := l3_1) (k := .i64) (i := x6_3) (z := 1) (ad := ad3) rfl rfl (by kernel_rfl) hA4 rfl (by kernel_rfl) (by kernel_rfl) (by kernel_rfl) (by kernel_rfl) q2 q1 ?_
          refine ls_load (a0 := (ad3.add ((x6_3).toNat * 1))) (v := .int .u64 ((l3_1).getD (x6_3).toNat (0 : Int))) (de := (TypeDesc.int .u64)) rfl rfl (by kernel_rfl) rfl (by kernel_rfl) (by kernel_rfl) (by kernel_rfl) (fun w hs => (hs.rd (k := 0) (by exact rfl)).at hA4 (em_sub (Ec.int 31 .u64) l3_1 (i := (x6_3).toNat) (by have h0 : (0 : Int) ≤ x6_3 := q2; have h1 : x6_3 < (l3_1.length : Int) := q1; omega))) ?_
          obtain ⟨q5, H⟩ := ite_need H
          obtain ⟨y6, hy7, H⟩ := lt_some H
          refine ls_rem (k := .u64) (x := x4_1) (y := ((l3_1).getD (x6_3).toNat (0 : Int))) rfl rfl (by kernel_rfl) (fun w => by kernel_rfl) q5 ?_
          refine ls_ren 24 (v := .int .u64 (Int.tmod x4_1 ((l3_1).getD (x6_3).toNat (0 : Int)))) (v' := .int .u64 y6) (by kernel_rfl) (by rw [hy7]) ?_
          refine ls_val (v := .bool (decide (y6 = (0 : Int)))) rfl rfl (by kernel_rfl) (fun w => by kernel_rfl) ?_
          refine ls_end ?_
          refine qn_then ?_
          by_cases q8 : y6 = (0 : Int)
          · replace H := ite_t q8 H
            refine cs_know (c := true) (dec_t q8) 25 (by kernel_rfl) ?_
            refine cs_true (by kernel_rfl) ?_
            refine cs_region (l := [_]) ?_
            refine ls_val (v := .bool false) rfl rfl (by kernel_rfl) (fun w => by kernel_rfl) ?_
            refine ls_end ?_
            refine qn_block ?_
            refine qn_then ?_
            refine cs_region (l := [_, _, _]) ?_
            refine ls_val (v := .int .i64 x6_3) rfl rfl (by kernel_rfl) (fun w => by kernel_rfl) ?_
            refine ls_val (v := .int .i64 (IntKind.wrap .i64 (x6_3 + (1 : Int)))) rfl rfl (by kernel_rfl) (fun w => by kernel_rfl) ?_
            refine ls_val (v := .int .i64 (IntKind.wrap .i64 (x6_3 + (1 : Int)))) rfl rfl (by kernel_rfl) (fun w => by kernel_rfl) ?_
            refine ls_end ?_
            refine qn_again k3 (sput s0 0 (some (Ck.sl (Ec.int 31 .u64) A3_1 c3_1 l3_1))) (Nat.le_refl _) ⟨_, false, (IntKind.wrap .i64 (x6_3 + (1 : Int))), fr_next (fr_next (fr_next (fr_next (fr_next (rfl) (by kernel_rfl)) (by kernel_rfl)) (by kernel_rfl)) (by kernel_rfl)) (by kernel_rfl), rfl, H⟩ (sub_put (by exact rfl) (sub_nil _))
          · replace H := ite_f q8 H
            refine cs_know (c := false) (dec_f q8) 25 (by kernel_rfl) ?_
            refine cs_false (by kernel_rfl) ?_
            refine cs_skip' ?_
            refine qn_block ?_
            refine qn_then ?_
            refine cs_region (l := [_, _, _]) ?_
            refine ls_val (v := .int .i64 x6_3) rfl rfl (by kernel_rfl) (fun w => by kernel_rfl) ?_
            refine ls_val (v := .int .i64 (IntKind.wrap .i64 (x6_3 + (1 : Int)))) rfl rfl (by kernel_rfl) (fun w => by kernel_rfl) ?_
            refine ls_val (v := .int .i64 (IntKind.wrap .i64 (x6_3 + (1 : Int)))) rfl rfl (by kernel_rfl) (fun w => by kernel_rfl) ?_
            refine ls_end ?_
            refine qn_again k3 (sput s0 0 (some (Ck.sl (Ec.int 31 .u64) A3_1 c3_1 l3_1))) (Nat.le_refl _) ⟨_, x5_3, (IntKind.wrap .i64 (x6_3 + (1 : Int))), fr_next (fr_next (fr_next (fr_next (fr_next (rfl) (by kernel_rfl)) (by kernel_rfl)) (by kernel_rfl)) (by kernel_rfl)) (by kernel_rfl), rfl, H⟩ (sub_put (by exact rfl) (sub_nil _))
        · replace H := ite_f q1 H
          refine cs_know (c := false) (dec_f q1) 16 (by kernel_rfl) ?_
          refine cs_false (by kernel_rfl) ?_
          refine cs_exit' ?_
          refine qx_then ?_
          refine qx_then ?_
          refine qx_same ?_
          refine qn_then ?_
          refine cs_seq ?_
          refine cs_region (l := [_]) ?_
          refine ls_val (v := .bool x5_3) rfl rfl (by kernel_rfl) (fun w => by kernel_rfl) ?_
          refine ls_end ?_
          refine qn_then ?_
          by_cases q9 : x5_3 = true
          · replace H := ite_t q9 H
            refine cs_know (c := true) (q9) 26 (by kernel_rfl) ?_
            refine cs_true (by kernel_rfl) ?_
            refine cs_region (l := [_, _, _, _, _]) ?_
            refine ls_val (v := .slice A3_1 l3_1.length c3_1) rfl rfl (by kernel_rfl) (fun w => by kernel_rfl) ?_
            refine ls_val (v := .int .u64 x4_1) rfl rfl (by kernel_rfl) (fun w => by kernel_rfl) ?_
            refine ls_lit (Ec.int 31 .u64) 1 rfl rfl (by kernel_rfl) ([x4_1]) (by exact of_decide_eq_true (by kernel_rfl)) (fun w => by kernel_rfl) ?_
            intro g10
            obtain ⟨q11, H⟩ := ite_need H
            refine ls_app (Ec.int 31 .u64) (A := A3_1) (c := c3_1) (B := (some ⟨g10, 0, none⟩)) (cb := [x4_1].length) (z := (Value.int .u64 0)) (l := l3_1) (m := [x4_1]) (bytes := 8) 0 rfl rfl (by kernel_rfl) rfl (by kernel_rfl) (by exact rfl) (by kernel_rfl) (fun w hs => (hs.rd (k := 1) (by exact rfl))) (by kernel_rfl) (by kernel_rfl) rfl (by decide) q11 ?_
            intro xA12 xc13
            refine ls_val (v := .slice xA12 (l3_1 ++ [x4_1]).length xc13) rfl rfl (by kernel_rfl) (fun w => by kernel_rfl) ?_
            refine ls_end ?_
            refine qn_block ?_
            refine qn_then ?_
            refine cs_region (l := [_, _, _]) ?_
            refine ls_val (v := .int .u64 x4_1) rfl rfl (by kernel_rfl) (fun w => by kernel_rfl) ?_
            refine ls_val (v := .int .u64 (IntKind.wrap .u64 (x4_1 + (1 : Int)))) rfl rfl (by kernel_rfl) (fun w => by kernel_rfl) ?_
            refine ls_val (v := .int .u64 (IntKind.wrap .u64 (x4_1 + (1 : Int)))) rfl rfl (by kernel_rfl) (fun w => by kernel_rfl) ?_
            refine ls_end ?_
            refine qn_again k1 (sput s0 0 (some (Ck.sl (Ec.int 31 .u64) xA12 xc13 (l3_1 ++ [x4_1])))) (Nat.le_refl _) ⟨_, xA12, xc13, (l3_1 ++ [x4_1]), (IntKind.wrap .u64 (x4_1 + (1 : Int))), fr_next (fr_next (fr_next (rfl) (by kernel_rfl)) (by kernel_rfl)) (by kernel_rfl), rfl, H⟩ (sub_put (by exact rfl) (sub_nil _))
          · replace H := ite_f q9 H
            refine cs_know (c := false) (Bool.eq_false_iff.mpr q9) 26 (by kernel_rfl) ?_
            refine cs_false (by kernel_rfl) ?_
            refine cs_skip' ?_
            refine qn_block ?_
            refine qn_then ?_
            refine cs_region (l := [_, _, _]) ?_
            refine ls_val (v := .int .u64 x4_1) rfl rfl (by kernel_rfl) (fun w => by kernel_rfl) ?_
            refine ls_val (v := .int .u64 (IntKind.wrap .u64 (x4_1 + (1 : Int)))) rfl rfl (by kernel_rfl) (fun w => by kernel_rfl) ?_
            refine ls_val (v := .int .u64 (IntKind.wrap .u64 (x4_1 + (1 : Int)))) rfl rfl (by kernel_rfl) (fun w => by kernel_rfl) ?_
            refine ls_end ?_
            refine qn_again k1 (sput s0 0 (some (Ck.sl (Ec.int 31 .u64) A3_1 c3_1 l3_1))) (Nat.le_refl _) ⟨_, A3_1, c3_1, l3_1, (IntKind.wrap .u64 (x4_1 + (1 : Int))), fr_next (fr_next (fr_next (rfl) (by kernel_rfl)) (by kernel_rfl)) (by kernel_rfl), rfl, H⟩ (sub_put (by exact rfl) (sub_nil _))

/-! ### shadowbox/shadowboxref03.power: function 33 -/
def shadowboxref03_power.tab39 : List (List Nat) := [[], [], [0, 1], [0, 1, 2], [], [], [4, 5], [4, 5, 6], [0, 1, 2, 3, 4, 5, 6, 7]]
def shadowboxref03_power.tab49 : List (List Nat) := [[], [], [0, 1], [0, 1, 2], [], [], [4, 5], [4, 5, 6], [0, 1, 2, 3, 4, 5, 6, 7], [0, 1, 2, 3, 4, 5, 6, 7, 8]]
def shadowboxref03_power.lo2 (l9_1 : List Int) (l11_1 : List Int) : Nat → Int → Option (Bool)
  | 0, _ => none
  | k2 + 1, x17_2 => (if x17_2 ≥ (0 : Int) then (if 0 ≤ x17_2 then (if x17_2 < (l9_1.length : Int) then (if x17_2 < (l11_1.length : Int) then (if ((l9_1).getD (x17_2).toNat (0 : Int)) = ((l11_1).getD (x17_2).toNat (0 : Int)) then (shadowboxref03_power.lo2 l9_1 l11_1 k2) (IntKind.wrap .i64 (x17_2 - (1 : Int))) else some (decide (((l9_1).getD (x17_2).toNat (0 : Int)) < ((l11_1).getD (x17_2).toNat (0 : Int))))) else none) else none) else none) else some true)
def shadowboxref03_power.jo1 (k : Nat) (l9_1 : List Int) (l11_1 : List Int) : Option (Bool) := shadowboxref03_power.lo2 l9_1 l11_1 k (3 : Int)
def shadowboxref03_power.jo4 (a0 : Int) (y1 : Int) (y26 : List Int) (l12_3 : List Int) (x13_3 : Int) (x14_3 : Int) (lo3 : (List Int) → Int → Int → Option (Bool)) : Option (Bool) := (if x14_3 < (3 : Int) then (if 0 ≤ x14_3 then (if x14_3 < (y26.length : Int) then lt (IntKind.wrap .u64 (((y26).getD (x14_3).toNat (0 : Int)) * (Int.tmod a0 (4294967296 : Int)))) fun y63 => lt (IntKind.wrap .u64 (x13_3 + (Int.tmod y63 (4294967296 : Int)))) fun y65 => lt (IntKind.wrap .u64 (Int.tdiv y63 (4294967296 : Int))) fun y67 => (if x14_3 > (0 : Int) then (if 0 ≤ IntKind.wrap .i64 (x14_3 - (1 : Int)) then (if IntKind.wrap .i64 (x14_3 - (1 : Int)) < (y26.length : Int) then lt (((y26).getD (IntKind.wrap .i64 (x14_3 - (1 : Int))).toNat (0 : Int))) fun y74 => lt (IntKind.wrap .u64 (y65 + (IntKind.wrap .u64 (y74 * y1)))) fun y76 => (if x14_3 < (l12_3.length : Int) then lt ((l12_3).set (x14_3).toNat (Int.tmod y76 (4294967296 : Int))) fun y81 => lt (IntKind.wrap .u64 (Int.tdiv y76 (4294967296 : Int))) fun y83 => lo3 y81 (IntKind.wrap .u64 (y67 + y83)) (IntKind.wrap .i64 (x14_3 + (1 : Int))) else none) else none) else none) else (if x14_3 < (l12_3.length : Int) then lt ((l12_3).set (x14_3).toNat (Int.tmod y65 (4294967296 : Int))) fun y88 => lt (IntKind.wrap .u64 (Int.tdiv y65 (4294967296 : Int))) fun y90 => lo3 y88 (IntKind.wrap .u64 (y67 + y90)) (IntKind.wrap .i64 (x14_3 + (1 : Int))) else none)) else none) else none) else (if x14_3 > (0 : Int) then (if 0 ≤ IntKind.wrap .i64 (x14_3 - (1 : Int)) then (if IntKind.wrap .i64 (x14_3 - (1 : Int)) < (y26.length : Int) then lt (((y26).getD (IntKind.wrap .i64 (x14_3 - (1 : Int))).toNat (0 : Int))) fun y97 => lt (IntKind.wrap .u64 (x13_3 + (IntKind.wrap .u64 (y97 * y1)))) fun y99 => (if 0 ≤ x14_3 then (if x14_3 < (l12_3.length : Int) then lt ((l12_3).set (x14_3).toNat (Int.tmod y99 (4294967296 : Int))) fun y105 => lt (IntKind.wrap .u64 (Int.tdiv y99 (4294967296 : Int))) fun y107 => lo3 y105 (IntKind.wrap .u64 ((0 : Int) + y107)) (IntKind.wrap .i64 (x14_3 + (1 : Int))) else none) else none) else none) else none) else (if 0 ≤ x14_3 then (if x14_3 < (l12_3.length : Int) then lt ((l12_3).set (x14_3).toNat (Int.tmod x13_3 (4294967296 : Int))) fun y113 => lt (IntKind.wrap .u64 (Int.tdiv x13_3 (4294967296 : Int))) fun y115 => lo3 y113 (IntKind.wrap .u64 ((0 : Int) + y115)) (IntKind.wrap .i64 (x14_3 + (1 : Int))) else none) else none)))
def shadowboxref03_power.lo3 (a0 : Int) (a2 : Int) (y1 : Int) (y26 : List Int) (jo1 : (List Int) → (List Int) → Option (Bool)) : Nat → (List Int) → Int → Int → Option (Bool)
  | 0, _, _, _ => none
  | k3 + 1, l12_3, x13_3, x14_3 => (if x14_3 < (4 : Int) then (shadowboxref03_power.jo4 a0 y1 y26 l12_3 x13_3 x14_3 (shadowboxref03_power.lo3 a0 a2 y1 y26 jo1 k3)) else jo1 l12_3 ([(0 : Int), (0 : Int), (0 : Int), a2]))
def shadowboxref03_power.f (k : Nat) (a0 : Int) (a1 : Bool) (a2 : Int) : Option (Bool) :=
  lt (IntKind.wrap .u64 (Int.tdiv a0 (4294967296 : Int))) fun y1 => lt (IntKind.wrap .u64 ((Int.tmod a0 (4294967296 : Int)) * (Int.tmod a0 (4294967296 : Int)))) fun y3 => lt (IntKind.wrap .u64 ((Int.tmod a0 (4294967296 : Int)) * (Int.tmod a0 (4294967296 : Int)))) fun y6 => lt (IntKind.wrap .u64 (Int.tdiv y6 (4294967296 : Int))) fun y8 => lt (IntKind.wrap .u64 ((IntKind.wrap .u64 ((2 : Int) * y1)) * (Int.tmod a0 (4294967296 : Int)))) fun y10 => lt (Int.tmod (IntKind.wrap .u64 (y8 + y10)) (4294967296 : Int)) fun y12 => (if (1 : Int) < (([Int.tmod y3 (4294967296 : Int), (0 : Int), (0 : Int), (0 : Int)]).length : Int) then lt (([Int.tmod y3 (4294967296 : Int), (0 : Int), (0 : Int), (0 : Int)]).set ((1 : Int)).toNat y12) fun y17 => lt (IntKind.wrap .u64 (Int.tdiv (IntKind.wrap .u64 (y8 + y10)) (4294967296 : Int))) fun y19 => lt (IntKind.wrap .u64 (y19 + (IntKind.wrap .u64 (y1 * y1)))) fun y21 => (if (2 : Int) < (y17.length : Int) then lt ((y17).set ((2 : Int)).toNat y21) fun y26 => (if a1 = true then shadowboxref03_power.lo3 a0 a2 y1 y26 (shadowboxref03_power.jo1 k) k ([(0 : Int), (0 : Int), (0 : Int), (0 : Int)]) (0 : Int) (0 : Int) else (shadowboxref03_power.jo1 k) y26 ([(0 : Int), (0 : Int), a2, (0 : Int)])) else none) else none)
set_option maxRecDepth 100000 in
set_option maxHeartbeats 4000000 in
theorem shadowboxref03_power.calls (k : Nat) (a0 : Int) (a1 : Bool) (a2 : Int) (r : Bool) (b : Bs) (hs0 : St b (stl []) b.w) (H : shadowboxref03_power.f k a0 a1 a2 = some r) :
    Calls Try.prog 33 #[.int .u64 a0, .bool a1, .int .u64 a2] b.w fun e w' => ∃ x : Unit, e = .returned (.bool r) ∧ St b (stl []) w' := by
  unfold shadowboxref03_power.f at H
  refine enterb (n := 116) Try.func33 rfl (by kernel_rfl) (by kernel_rfl) hs0 ?_
  refine cs_sub (s0) (sub_nil _) ?_
  refine cs_seq ?_
  refine cs_region (l := [_]) ?_
  refine ls_val (v := .bool false) rfl rfl (by kernel_rfl) (fun w => by kernel_rfl) ?_
  refine ls_end ?_
  refine qn_then ?_
  refine cs_seq ?_
  refine cs_region (l := [_, _, _]) ?_
  refine ls_val (v := .int .u64 a0) rfl rfl (by kernel_rfl) (fun w => by kernel_rfl) ?_
  obtain ⟨y1, hy2, H⟩ := lt_some H
  refine ls_val (v := .int .u64 (IntKind.wrap .u64 (Int.tdiv a0 (4294967296 : Int)))) rfl rfl (by kernel_rfl) (fun w => by kernel_rfl) ?_
  refine ls_ren 19 (v := .int .u64 (IntKind.wrap .u64 (Int.tdiv a0 (4294967296 : Int)))) (v' := .int .u64 y1) (by kernel_rfl) (by rw [hy2]) ?_
  refine ls_val (v := .int .u64 y1) rfl rfl (by kernel_rfl) (fun w => by kernel_rfl) ?_
  refine ls_end ?_
  refine qn_then ?_
  refine cs_seq ?_
  refine cs_region (l := [_, _, _]) ?_
  refine ls_val (v := .int .u64 a0) rfl rfl (by kernel_rfl) (fun w => by kernel_rfl) ?_
  refine ls_val (v := .int .u64 (Int.tmod a0 (4294967296 : Int))) rfl rfl (by kernel_rfl) (fun w => by kernel_rfl) ?_
  refine ls_val (v := .int .u64 (Int.tmod a0 (4294967296 : Int))) rfl rfl (by kernel_rfl) (fun w => by kernel_rfl) ?_
  refine ls_end ?_
  refine qn_then ?_
  refine cs_seq ?_
  refine cs_region (l := [_, _, _, _, _, _]) ?_
  refine ls_val (v := .int .u64 (Int.tmod a0 (4294967296 : Int))) rfl rfl (by kernel_rfl) (fun w => by kernel_rfl) ?_
  refine ls_val (v := .int .u64 (Int.tmod a0 (4294967296 : Int))) rfl rfl (by kernel_rfl) (fun w => by kernel_rfl) ?_
  obtain ⟨y3, hy4, H⟩ := lt_some H
  refine ls_val (v := .int .u64 (IntKind.wrap .u64 ((Int.tmod a0 (4294967296 : Int)) * (Int.tmod a0 (4294967296 : Int))))) rfl rfl (by kernel_rfl) (fun w => by kernel_rfl) ?_
  refine ls_ren 24 (v := .int .u64 (IntKind.wrap .u64 ((Int.tmod a0 (4294967296 : Int)) * (Int.tmod a0 (4294967296 : Int))))) (v' := .int .u64 y3) (by kernel_rfl) (by rw [hy4]) ?_
  refine ls_val (v := .int .u64 (Int.tmod y3 (4294967296 : Int))) rfl rfl (by kernel_rfl) (fun w => by kernel_rfl) ?_
  refine ls_lit (Ec.int 31 .u64) 0 rfl rfl (by kernel_rfl) ([Int.tmod y3 (4294967296 : Int), (0 : Int), (0 : Int), (0 : Int)]) (by exact of_decide_eq_true (by kernel_rfl)) (fun w => by kernel_rfl) ?_
  intro g5
  refine ls_val (v := .slice (some ⟨g5, 0, none⟩) [Int.tmod y3 (4294967296 : Int), (0 : Int), (0 : Int), (0 : Int)].length [Int.tmod y3 (4294967296 : Int), (0 : Int), (0 : Int), (0 : Int)].length) rfl rfl (by kernel_rfl) (fun w => by kernel_rfl) ?_
  refine ls_end ?_
  refine qn_then ?_
  refine cs_seq ?_
  refine cs_region (l := [_, _, _, _, _, _, _, _, _, _]) ?_
  refine ls_val (v := .int .u64 (Int.tmod a0 (4294967296 : Int))) rfl rfl (by kernel_rfl) (fun w => by kernel_rfl) ?_
  refine ls_val (v := .int .u64 (Int.tmod a0 (4294967296 : Int))) rfl rfl (by kernel_rfl) (fun w => by kernel_rfl) ?_
  obtain ⟨y6, hy7, H⟩ := lt_some H
  refine ls_val (v := .int .u64 (IntKind.wrap .u64 ((Int.tmod a0 (4294967296 : Int)) * (Int.tmod a0 (4294967296 : Int))))) rfl rfl (by kernel_rfl) (fun w => by kernel_rfl) ?_
  refine ls_ren 29 (v := .int .u64 (IntKind.wrap .u64 ((Int.tmod a0 (4294967296 : Int)) * (Int.tmod a0 (4294967296 : Int))))) (v' := .int .u64 y6) (by kernel_rfl) (by rw [hy7]) ?_
  obtain ⟨y8, hy9, H⟩ := lt_some H
  refine ls_val (v := .int .u64 (IntKind.wrap .u64 (Int.tdiv y6 (4294967296 : Int)))) rfl rfl (by kernel_rfl) (fun w => by kernel_rfl) ?_
  refine ls_ren 30 (v := .int .u64 (IntKind.wrap .u64 (Int.tdiv y6 (4294967296 : Int)))) (v' := .int .u64 y8) (by kernel_rfl) (by rw [hy9]) ?_
  refine ls_val (v := .int .u64 y1) rfl rfl (by kernel_rfl) (fun w => by kernel_rfl) ?_
  refine ls_val (v := .int .u64 (IntKind.wrap .u64 ((2 : Int) * y1))) rfl rfl (by kernel_rfl) (fun w => by kernel_rfl) ?_
  refine ls_val (v := .int .u64 (Int.tmod a0 (4294967296 : Int))) rfl rfl (by kernel_rfl) (fun w => by kernel_rfl) ?_
  obtain ⟨y10, hy11, H⟩ := lt_some H
  refine ls_val (v := .int .u64 (IntKind.wrap .u64 ((IntKind.wrap .u64 ((2 : Int) * y1)) * (Int.tmod a0 (4294967296 : Int))))) rfl rfl (by kernel_rfl) (fun w => by kernel_rfl) ?_
  refine ls_ren 34 (v := .int .u64 (IntKind.wrap .u64 ((IntKind.wrap .u64 ((2 : Int) * y1)) * (Int.tmod a0 (4294967296 : Int))))) (v' := .int .u64 y10) (by kernel_rfl) (by rw [hy11]) ?_
  refine ls_val (v := .int .u64 (IntKind.wrap .u64 (y8 + y10))) rfl rfl (by kernel_rfl) (fun w => by kernel_rfl) ?_
  refine ls_val (v := .int .u64 (IntKind.wrap .u64 (y8 + y10))) rfl rfl (by kernel_rfl) (fun w => by kernel_rfl) ?_
  refine ls_end ?_
  refine qn_then ?_
  refine cs_seq ?_
  refine cs_region (l := [_, _, _, _, _]) ?_
  refine ls_val (v := .slice (some ⟨g5, 0, none⟩) [Int.tmod y3 (4294967296 : Int), (0 : Int), (0 : Int), (0 : Int)].length [Int.tmod y3 (4294967296 : Int), (0 : Int), (0 : Int), (0 : Int)].length) rfl rfl (by kernel_rfl) (fun w => by kernel_rfl) ?_
  refine ls_val (v := .int .u64 (IntKind.wrap .u64 (y8 + y10))) rfl rfl (by kernel_rfl) (fun w => by kernel_rfl) ?_
  obtain ⟨y12, hy13, H⟩ := lt_some H
  refine ls_val (v := .int .u64 (Int.tmod (IntKind.wrap .u64 (y8 + y10)) (4294967296 : Int))) rfl rfl (by kernel_rfl) (fun w => by kernel_rfl) ?_
  refine ls_ren 38 (v := .int .u64 (Int.tmod (IntKind.wrap .u64 (y8 + y10)) (4294967296 : Int))) (v' := .int .u64 y12) (by kernel_rfl) (by rw [hy13]) ?_
  obtain ⟨q14, H⟩ := ite_need H
  refine ls_at (T := (Ec.int 31 .u64)) (tk := 0) (i := (1 : Int)) (by exact rfl) (by decide) q14 ?_
  intro ad15 hA16
  refine ls_idxv (Ec.int 31 .u64) (A := (some ⟨g5, 0, none⟩)) (c := [Int.tmod y3 (4294967296 : Int), (0 : Int), (0 : Int), (0 : Int)].length) (l := [Int.tmod y3 (4294967296 : Int), (0 : Int), (0 : Int), (0 : Int)]) (k := .i64) (i := (1 : Int)) (z := 1) (ad := ad15) rfl rfl (by kernel_rfl) hA16 rfl (by kernel_rfl) (by kernel_rfl) (by kernel_rfl) (by kernel_rfl) (by decide) q14 ?_
  obtain ⟨y17, hy18, H⟩ := lt_some H
  refine ls_storem (Ec.int 31 .u64) (A := (some ⟨g5, 0, none⟩)) (c := [Int.tmod y3 (4294967296 : Int), (0 : Int), (0 : Int), (0 : Int)].length) (l := ([Int.tmod y3 (4294967296 : Int), (0 : Int), (0 : Int), (0 : Int)])) (l' := y17) (ad := ad15) (off := (((1 : Int)).toNat * 1)) (v := .int .u64 y12) (vs := [Value.int .u64 y12]) 0 rfl rfl rfl hA16 (by kernel_rfl) (by kernel_rfl) (by kernel_rfl) (by exact rfl) (by kernel_rfl) (len1 _) (one_cons rfl one_nil) (hl_of (em_sub (Ec.int 31 .u64) ([Int.tmod y3 (4294967296 : Int), (0 : Int), (0 : Int), (0 : Int)]) (i := ((1 : Int)).toNat) (by have h0 : (0 : Int) ≤ (1 : Int) := (by decide); have h1 : (1 : Int) < (([Int.tmod y3 (4294967296 : Int), (0 : Int), (0 : Int), (0 : Int)]).length : Int) := q14; omega)) (len_eq (len1 _) (len1 _))) ((splc_em (Ec.int 31 .u64) ([Int.tmod y3 (4294967296 : Int), (0 : Int), (0 : Int), (0 : Int)]) y12 (i := ((1 : Int)).toNat) (by have h0 : (0 : Int) ≤ (1 : Int) := (by decide); have h1 : (1 : Int) < (([Int.tmod y3 (4294967296 : Int), (0 : Int), (0 : Int), (0 : Int)]).length : Int) := q14; omega)).trans (congrArg (em (Ec.int 31 .u64)) hy18)) (by rw [← hy18, List.length_set]) ?_
  refine ls_ren 9 (v := .slice (some ⟨g5, 0, none⟩) [Int.tmod y3 (4294967296 : Int), (0 : Int), (0 : Int), (0 : Int)].length [Int.tmod y3 (4294967296 : Int), (0 : Int), (0 : Int), (0 : Int)].length) (v' := .slice (some ⟨g5, 0, none⟩) y17.length [Int.tmod y3 (4294967296 : Int), (0 : Int), (0 : Int), (0 : Int)].length) (by kernel_rfl) (by rw [← hy18, List.length_set]) ?_
  refine ls_ren 26 (v := .slice (some ⟨g5, 0, none⟩) [Int.tmod y3 (4294967296 : Int), (0 : Int), (0 : Int), (0 : Int)].length [Int.tmod y3 (4294967296 : Int), (0 : Int), (0 : Int), (0 : Int)].length) (v' := .slice (some ⟨g5, 0, none⟩) y17.length [Int.tmod y3 (4294967296 : Int), (0 : Int), (0 : Int), (0 : Int)].length) (by kernel_rfl) (by rw [← hy18, List.length_set]) ?_
  refine ls_ren 36 (v := .slice (some ⟨g5, 0, none⟩) [Int.tmod y3 (4294967296 : Int), (0 : Int), (0 : Int), (0 : Int)].length [Int.tmod y3 (4294967296 : Int), (0 : Int), (0 : Int), (0 : Int)].length) (v' := .slice (some ⟨g5, 0, none⟩) y17.length [Int.tmod y3 (4294967296 : Int), (0 : Int), (0 : Int), (0 : Int)].length) (by kernel_rfl) (by rw [← hy18, List.length_set]) ?_
  refine ls_end ?_
  refine qn_then ?_
  refine cs_seq ?_
  refine cs_region (l := [_, _, _, _, _, _, _, _, _]) ?_
  refine ls_val (v := .slice (some ⟨g5, 0, none⟩) y17.length [Int.tmod y3 (4294967296 : Int), (0 : Int), (0 : Int), (0 : Int)].length) rfl rfl (by kernel_rfl) (fun w => by kernel_rfl) ?_
  refine ls_val (v := .int .u64 (IntKind.wrap .u64 (y8 + y10))) rfl rfl (by kernel_rfl) (fun w => by kernel_rfl) ?_
  obtain ⟨y19, hy20, H⟩ := lt_some H
  refine ls_val (v := .int .u64 (IntKind.wrap .u64 (Int.tdiv (IntKind.wrap .u64 (y8 + y10)) (4294967296 : Int)))) rfl rfl (by kernel_rfl) (fun w => by kernel_rfl) ?_
  refine ls_ren 42 (v := .int .u64 (IntKind.wrap .u64 (Int.tdiv (IntKind.wrap .u64 (y8 + y10)) (4294967296 : Int)))) (v' := .int .u64 y19) (by kernel_rfl) (by rw [hy20]) ?_
  refine ls_val (v := .int .u64 y1) rfl rfl (by kernel_rfl) (fun w => by kernel_rfl) ?_
  refine ls_val (v := .int .u64 y1) rfl rfl (by kernel_rfl) (fun w => by kernel_rfl) ?_
  refine ls_val (v := .int .u64 (IntKind.wrap .u64 (y1 * y1))) rfl rfl (by kernel_rfl) (fun w => by kernel_rfl) ?_
  obtain ⟨y21, hy22, H⟩ := lt_some H
  refine ls_val (v := .int .u64 (IntKind.wrap .u64 (y19 + (IntKind.wrap .u64 (y1 * y1))))) rfl rfl (by kernel_rfl) (fun w => by kernel_rfl) ?_
  refine ls_ren 46 (v := .int .u64 (IntKind.wrap .u64 (y19 + (IntKind.wrap .u64 (y1 * y1))))) (v' := .int .u64 y21) (by kernel_rfl) (by rw [hy22]) ?_
  obtain ⟨q23, H⟩ := ite_need H
  refine ls_at (T := (Ec.int 31 .u64)) (tk := 0) (i := (2 : Int)) (by exact rfl) (by decide) q23 ?_
  intro ad24 hA25
  refine ls_idxv (Ec.int 31 .u64) (A := (some ⟨g5, 0, none⟩)) (c := [Int.tmod y3 (4294967296 : Int), (0 : Int), (0 : Int), (0 : Int)].length) (l := y17) (k := .i64) (i := (2 : Int)) (z := 1) (ad := ad24) rfl rfl (by kernel_rfl) hA25 rfl (by kernel_rfl) (by kernel_rfl) (by kernel_rfl) (by kernel_rfl) (by decide) q23 ?_
  obtain ⟨y26, hy27, H⟩ := lt_some H
  refine ls_storem (Ec.int 31 .u64) (A := (some ⟨g5, 0, none⟩)) (c := [Int.tmod y3 (4294967296 : Int), (0 : Int), (0 : Int), (0 : Int)].length) (l := y17) (l' := y26) (ad := ad24) (off := (((2 : Int)).toNat * 1)) (v := .int .u64 y21) (vs := [Value.int .u64 y21]) 0 rfl rfl rfl hA25 (by kernel_rfl) (by kernel_rfl) (by kernel_rfl) (by exact rfl) (by kernel_rfl) (len1 _) (one_cons rfl one_nil) (hl_of (em_sub (Ec.int 31 .u64) y17 (i := ((2 : Int)).toNat) (by have h0 : (0 : Int) ≤ (2 : Int) := (by decide); have h1 : (2 : Int) < (y17.length : Int) := q23; omega)) (len_eq (len1 _) (len1 _))) ((splc_em (Ec.int 31 .u64) y17 y21 (i := ((2 : Int)).toNat) (by have h0 : (0 : Int) ≤ (2 : Int) := (by decide); have h1 : (2 : Int) < (y17.length : Int) := q23; omega)).trans (congrArg (em (Ec.int 31 .u64)) hy27)) (by rw [← hy27, List.length_set]) ?_
  refine ls_ren 9 (v := .slice (some ⟨g5, 0, none⟩) y17.length [Int.tmod y3 (4294967296 : Int), (0 : Int), (0 : Int), (0 : Int)].length) (v' := .slice (some ⟨g5, 0, none⟩) y26.length [Int.tmod y3 (4294967296 : Int), (0 : Int), (0 : Int), (0 : Int)].length) (by kernel_rfl) (by rw [← hy27, List.length_set]) ?_
  refine ls_ren 26 (v := .slice (some ⟨g5, 0, none⟩) y17.length [Int.tmod y3 (4294967296 : Int), (0 : Int), (0 : Int), (0 : Int)].length) (v' := .slice (some ⟨g5, 0, none⟩) y26.length [Int.tmod y3 (4294967296 : Int), (0 : Int), (0 : Int), (0 : Int)].length) (by kernel_rfl) (by rw [← hy27, List.length_set]) ?_
  refine ls_ren 36 (v := .slice (some ⟨g5, 0, none⟩) y17.length [Int.tmod y3 (4294967296 : Int), (0 : Int), (0 : Int), (0 : Int)].length) (v' := .slice (some ⟨g5, 0, none⟩) y26.length [Int.tmod y3 (4294967296 : Int), (0 : Int), (0 : Int), (0 : Int)].length) (by kernel_rfl) (by rw [← hy27, List.length_set]) ?_
  refine ls_ren 40 (v := .slice (some ⟨g5, 0, none⟩) y17.length [Int.tmod y3 (4294967296 : Int), (0 : Int), (0 : Int), (0 : Int)].length) (v' := .slice (some ⟨g5, 0, none⟩) y26.length [Int.tmod y3 (4294967296 : Int), (0 : Int), (0 : Int), (0 : Int)].length) (by kernel_rfl) (by rw [← hy27, List.length_set]) ?_
  refine ls_end ?_
  refine qn_then ?_
  refine cs_seq ?_
  refine cs_region (l := [_, _, _]) ?_
  refine ls_val (v := .int .u64 a2) rfl rfl (by kernel_rfl) (fun w => by kernel_rfl) ?_
  refine ls_lit (Ec.int 31 .u64) 1 rfl rfl (by kernel_rfl) ([(0 : Int), (0 : Int), a2, (0 : Int)]) (by exact of_decide_eq_true (by kernel_rfl)) (fun w => by kernel_rfl) ?_
  intro g28
  refine ls_val (v := .slice (some ⟨g28, 0, none⟩) [(0 : Int), (0 : Int), a2, (0 : Int)].length [(0 : Int), (0 : Int), a2, (0 : Int)].length) rfl rfl (by kernel_rfl) (fun w => by kernel_rfl) ?_
  refine ls_end ?_
  refine qn_then ?_
  refine cs_freeze (T := (Ec.int 31 .u64)) (A := (some ⟨g5, 0, none⟩)) (c := ([Int.tmod y3 (4294967296 : Int), (0 : Int), (0 : Int), (0 : Int)].length)) (l := y26) 0 (by exact rfl) ?_
  intro bs29 hle30 hok31 fR32 fC33
  refine cs_freeze (T := (Ec.int 31 .u64)) (A := (some ⟨g28, 0, none⟩)) (c := ([(0 : Int), (0 : Int), a2, (0 : Int)].length)) (l := ([(0 : Int), (0 : Int), a2, (0 : Int)])) 1 (by exact rfl) ?_
  intro bs34 hle35 hok36 fR37 fC38
  refine cs_cutb (fun bh1 f S => ∃ (fR : Fr) (A9_1 : Option Addr) (c9_1 : Nat) (l9_1 : List Int) (A11_1 : Option Addr) (c11_1 : Nat) (l11_1 : List Int), f = upd (upd fR 9 (.slice A9_1 l9_1.length c9_1)) 11 (.slice A11_1 l11_1.length c11_1) ∧ S = s0 ∧ Ro bh1 A9_1 (em (Ec.int 31 .u64) l9_1) ∧ l9_1.length ≤ c9_1 ∧ Ro bh1 A11_1 (em (Ec.int 31 .u64) l11_1) ∧ l11_1.length ≤ c11_1 ∧ b.le bh1 ∧ shadowboxref03_power.jo1 k l9_1 l11_1 = some r) ?_ ?_
  · skip
    refine cs_seq ?_
    refine cs_region (l := [_]) ?_
    refine ls_val (v := .bool a1) rfl rfl (by kernel_rfl) (fun w => by kernel_rfl) ?_
    refine ls_end ?_
    refine qn_then ?_
    by_cases q56 : a1 = true
    · replace H := ite_t q56 H
      refine cs_know (c := true) (q56) 50 (by kernel_rfl) ?_
      refine cs_true (by kernel_rfl) ?_
      refine cs_seq ?_
      refine cs_region (l := [_, _]) ?_
      refine ls_lit (Ec.int 31 .u64) 2 rfl rfl (by kernel_rfl) ([(0 : Int), (0 : Int), (0 : Int), (0 : Int)]) (by exact of_decide_eq_true (by kernel_rfl)) (fun w => by kernel_rfl) ?_
      intro g57
      refine ls_val (v := .slice (some ⟨g57, 0, none⟩) [(0 : Int), (0 : Int), (0 : Int), (0 : Int)].length [(0 : Int), (0 : Int), (0 : Int), (0 : Int)].length) rfl rfl (by kernel_rfl) (fun w => by kernel_rfl) ?_
      refine ls_end ?_
      refine qn_then ?_
      refine cs_seq ?_
      refine cs_region (l := [_]) ?_
      refine ls_val (v := .int .u64 (0 : Int)) rfl rfl (by kernel_rfl) (fun w => by kernel_rfl) ?_
      refine ls_end ?_
      refine qn_then ?_
      refine cs_seq ?_
      refine cs_seq ?_
      refine cs_region (l := [_]) ?_
      refine ls_val (v := .int .i64 (0 : Int)) rfl rfl (by kernel_rfl) (fun w => by kernel_rfl) ?_
      refine ls_end ?_
      refine qn_then ?_
      refine cs_block ?_
      refine cs_sub (sput s0 2 (some (Ck.sl (Ec.int 31 .u64) (some ⟨g57, 0, none⟩) ([(0 : Int), (0 : Int), (0 : Int), (0 : Int)].length) ([(0 : Int), (0 : Int), (0 : Int), (0 : Int)])))) (sub_put (by exact rfl) (sub_nil _)) ?_
      refine cs_loop (fun kk f S => ∃ (fR : Fr) (A12_3 : Option Addr) (c12_3 : Nat) (l12_3 : List Int) (x13_3 : Int) (x14_3 : Int), f = upd (upd (upd (upd (upd (upd (upd fR 2 (.int .u64 a2)) 7 (.int .u64 y1)) 8 (.int .u64 (Int.tmod a0 (4294967296 : Int)))) 9 (.slice (some ⟨g5, 0, none⟩) y26.length [Int.tmod y3 (4294967296 : Int), (0 : Int), (0 : Int), (0 : Int)].length)) 12 (.slice A12_3 l12_3.length c12_3)) 13 (.int .u64 x13_3)) 14 (.int .i64 x14_3) ∧ S = sput s0 2 (some (Ck.sl (Ec.int 31 .u64) A12_3 c12_3 l12_3)) ∧ shadowboxref03_power.lo3 a0 a2 y1 y26 (shadowboxref03_power.jo1 k) kk l12_3 x13_3 x14_3 = some r) k ?_ ?_ ?_
      · exact ⟨_, (some ⟨g57, 0, none⟩), [(0 : Int), (0 : Int), (0 : Int), (0 : Int)].length, ([(0 : Int), (0 : Int), (0 : Int), (0 : Int)]), (0 : Int), (0 : Int), fr_next (fr_next (fr_next (fr_next (fr_next (fr_next (fr_next (rfl) (by kernel_rfl)) (by kernel_rfl)) (by kernel_rfl)) (by kernel_rfl)) (by kernel_rfl)) (by kernel_rfl)) (by kernel_rfl), rfl, H⟩
      · rintro f S ⟨fr3, A12_3, c12_3, l12_3, x13_3, x14_3, rfl, rfl, H⟩; cases H
      · rintro k3 f S ⟨fr3, A12_3, c12_3, l12_3, x13_3, x14_3, rfl, rfl, H⟩
        replace H : ((if x14_3 < (4 : Int) then (shadowboxref03_power.jo4 a0 y1 y26 l12_3 x13_3 x14_3 (shadowboxref03_power.lo3 a0 a2 y1 y26 (shadowboxref03_power.jo1 k) k3)) else (shadowboxref03_power.jo1 k) l12_3 ([(0 : Int), (0 : Int), (0 : Int), a2]))) = some r := H
        refine cs_cut (fun f S => ∃ (fR : Fr), f = upd (upd (upd (upd (upd (upd (upd fR 2 (.int .u64 a2)) 7 (.int .u64 y1)) 8 (.int .u64 (Int.tmod a0 (4294967296 : Int)))) 9 (.slice (some ⟨g5, 0, none⟩) y26.length [Int.tmod y3 (4294967296 : Int), (0 : Int), (0 : Int), (0 : Int)].length)) 12 (.slice A12_3 l12_3.length c12_3)) 13 (.int .u64 x13_3)) 14 (.int .i64 x14_3) ∧ S = sput s0 2 (some (Ck.sl (Ec.int 31 .u64) A12_3 c12_3 l12_3)) ∧ shadowboxref03_power.jo4 a0 y1 y26 l12_3 x13_3 x14_3 (shadowboxref03_power.lo3 a0 a2 y1 y26 (shadowboxref03_power.jo1 k) k3) = some r) ?_ ?_
        · skip
          refine cs_seq ?_
          refine cs_region (l := [_, _]) ?_
          refine ls_val (v := .int .i64 x14_3) rfl rfl (by kernel_rfl) (fun w => by kernel_rfl) ?_
          refine ls_val (v := .bool (decide (x14_3 < (4 : Int)))) rfl rfl (by kernel_rfl) (fun w => by kernel_rfl) ?_
          refine ls_end ?_
          refine qn_then ?_
          by_cases q117 : x14_3 < (4 : Int)
          · replace H := ite_t q117 H
            refine cs_know (c := true) (dec_t q117) 53 (by kernel_rfl) ?_
            refine cs_true (by kernel_rfl) ?_
            refine cs_skip' ?_
            refine qn_meet (sput s0 2 (some (Ck.sl (Ec.int 31 .u64) A12_3 c12_3 l12_3))) ⟨_, fr_next (fr_next (fr_next (fr_next (fr_next (fr_next (fr_next (rfl) (by kernel_rfl)) (by kernel_rfl)) (by kernel_rfl)) (by kernel_rfl)) (by kernel_rfl)) (by kernel_rfl)) (by kernel_rfl), rfl, H⟩ (sub_put (by exact rfl) (sub_nil _))
          · replace H := ite_f q117 H
            refine cs_know (c := false) (dec_f q117) 53 (by kernel_rfl) ?_
            refine cs_false (by kernel_rfl) ?_
            refine cs_exit' ?_
            refine qx_then ?_
            refine qx_then ?_
            refine qx_same ?_
            refine qn_then ?_
            refine cs_seq ?_
            refine cs_region (l := [_, _]) ?_
            refine ls_val (v := .slice A12_3 l12_3.length c12_3) rfl rfl (by kernel_rfl) (fun w => by kernel_rfl) ?_
            refine ls_val (v := .slice A12_3 l12_3.length c12_3) rfl rfl (by kernel_rfl) (fun w => by kernel_rfl) ?_
            refine ls_end ?_
            refine qn_then ?_
            refine cs_region (l := [_, _, _]) ?_
            refine ls_val (v := .int .u64 a2) rfl rfl (by kernel_rfl) (fun w => by kernel_rfl) ?_
            refine ls_lit (Ec.int 31 .u64) 3 rfl rfl (by kernel_rfl) ([(0 : Int), (0 : Int), (0 : Int), a2]) (by exact of_decide_eq_true (by kernel_rfl)) (fun w => by kernel_rfl) ?_
            intro g118
            refine ls_val (v := .slice (some ⟨g118, 0, none⟩) [(0 : Int), (0 : Int), (0 : Int), a2].length [(0 : Int), (0 : Int), (0 : Int), a2].length) rfl rfl (by kernel_rfl) (fun w => by kernel_rfl) ?_
            refine ls_end ?_
            refine qn_freeze (T := (Ec.int 31 .u64)) (A := A12_3) (c := c12_3) (l := l12_3) 2 (by exact rfl) ?_
            intro bs119 hle120 hok121 fR122 fC123
            refine qn_freeze (T := (Ec.int 31 .u64)) (A := (some ⟨g118, 0, none⟩)) (c := ([(0 : Int), (0 : Int), (0 : Int), a2].length)) (l := ([(0 : Int), (0 : Int), (0 : Int), a2])) 3 (by exact rfl) ?_
            intro bs124 hle125 hok126 fR127 fC128
            refine qn_meetb (s0) ⟨_, A12_3, c12_3, l12_3, (some ⟨g118, 0, none⟩), [(0 : Int), (0 : Int), (0 : Int), a2].length, ([(0 : Int), (0 : Int), (0 : Int), a2]), fr_next (fr_next (rfl) (by kernel_rfl)) (by kernel_rfl), rfl, (Ro.mono hok126 hle125 fR122), fC123, fR127, fC128, (((hle30.trans hle35).trans hle120).trans hle125), H⟩ (sub_nil _)
        · rintro f S ⟨fr4, rfl, rfl, H⟩
          replace H : ((if x14_3 < (3 : Int) then (if 0 ≤ x14_3 then (if x14_3 < (y26.length : Int) then lt (IntKind.wrap .u64 (((y26).getD (x14_3).toNat (0 : Int)) * (Int.tmod a0 (4294967296 : Int)))) fun y63 => lt (IntKind.wrap .u64 (x13_3 + (Int.tmod y63 (4294967296 : Int)))) fun y65 => lt (IntKind.wrap .u64 (Int.tdiv y63 (4294967296 : Int))) fun y67 => (if x14_3 > (0 : Int) then (if 0 ≤ IntKind.wrap .i64 (x14_3 - (1 : Int)) then (if IntKind.wrap .i64 (x14_3 - (1 : Int)) < (y26.length : Int) then lt (((y26).getD (IntKind.wrap .i64 (x14_3 - (1 : Int))).toNat (0 : Int))) fun y74 => lt (IntKind.wrap .u64 (y65 + (IntKind.wrap .u64 (y74 * y1)))) fun y76 => (if x14_3 < (l12_3.length : Int) then lt ((l12_3).set (x14_3).toNat (Int.tmod y76 (4294967296 : Int))) fun y81 => lt (IntKind.wrap .u64 (Int.tdiv y76 (4294967296 : Int))) fun y83 => (shadowboxref03_power.lo3 a0 a2 y1 y26 (shadowboxref03_power.jo1 k) k3) y81 (IntKind.wrap .u64 (y67 + y83)) (IntKind.wrap .i64 (x14_3 + (1 : Int))) else none) else none) else none) else (if x14_3 < (l12_3.length : Int) then lt ((l12_3).set (x14_3).toNat (Int.tmod y65 (4294967296 : Int))) fun y88 => lt (IntKind.wrap .u64 (Int.tdiv y65 (4294967296 : Int))) fun y90 => (shadowboxref03_power.lo3 a0 a2 y1 y26 (shadowboxref03_power.jo1 k) k3) y88 (IntKind.wrap .u64 (y67 + y90)) (IntKind.wrap .i64 (x14_3 + (1 : Int))) else none)) else none) else none) else (if x14_3 > (0 : Int) then (if 0 ≤ IntKind.wrap .i64 (x14_3 - (1 : Int)) then (if IntKind.wrap .i64 (x14_3 - (1 : Int)) < (y26.length : Int) then lt (((y26).getD (IntKind.wrap .i64 (x14_3 - (1 : Int))).toNat (0 : Int))) fun y97 => lt (IntKind.wrap .u64 (x13_3 + (IntKind.wrap .u64 (y97 * y1)))) fun y99 => (if 0 ≤ x14_3 then (if x14_3 < (l12_3.length : Int) then lt ((l12_3).set (x14_3).toNat (Int.tmod y99 (4294967296 : Int))) fun y105 => lt (IntKind.wrap .u64 (Int.tdiv y99 (4294967296 : Int))) fun y107 => (shadowboxref03_power.lo3 a0 a2 y1 y26 (shadowboxref03_power.jo1 k) k3) y105 (IntKind.wrap .u64 ((0 : Int) + y107)) (IntKind.wrap .i64 (x14_3 + (1 : Int))) else none) else none) else none) else none) else (if 0 ≤ x14_3 then (if x14_3 < (l12_3.length : Int) then lt ((l12_3).set (x14_3).toNat (Int.tmod x13_3 (4294967296 : Int))) fun y113 => lt (IntKind.wrap .u64 (Int.tdiv x13_3 (4294967296 : Int))) fun y115 => (shadowboxref03_power.lo3 a0 a2 y1 y26 (shadowboxref03_power.jo1 k) k3) y113 (IntKind.wrap .u64 ((0 : Int) + y115)) (IntKind.wrap .i64 (x14_3 + (1 : Int))) else none) else none)))) = some r := H
          refine cs_seq ?_
          refine cs_block ?_
          refine cs_seq ?_
          refine cs_region (l := [_, _]) ?_
          refine ls_val (v := .int .u64 x13_3) rfl rfl (by kernel_rfl) (fun w => by kernel_rfl) ?_
          refine ls_val (v := .int .u64 x13_3) rfl rfl (by kernel_rfl) (fun w => by kernel_rfl) ?_
          refine ls_end ?_
          refine qn_then ?_
          refine cs_seq ?_
          refine cs_region (l := [_]) ?_
          refine ls_val (v := .int .u64 (0 : Int)) rfl rfl (by kernel_rfl) (fun w => by kernel_rfl) ?_
          refine ls_end ?_
          refine qn_then ?_
          refine cs_seq ?_
          refine cs_seq ?_
          refine cs_region (l := [_, _]) ?_
          refine ls_val (v := .int .i64 x14_3) rfl rfl (by kernel_rfl) (fun w => by kernel_rfl) ?_
          refine ls_val (v := .bool (decide (x14_3 < (3 : Int)))) rfl rfl (by kernel_rfl) (fun w => by kernel_rfl) ?_
          refine ls_end ?_
          refine qn_then ?_
          by_cases q58 : x14_3 < (3 : Int)
          · replace H := ite_t q58 H
            refine cs_know (c := true) (dec_t q58) 58 (by kernel_rfl) ?_
            refine cs_true (by kernel_rfl) ?_
            refine cs_seq ?_
            refine cs_region (l := [_, _, _, _, _, _, _]) ?_
            refine ls_val (v := .slice (some ⟨g5, 0, none⟩) y26.length [Int.tmod y3 (4294967296 : Int), (0 : Int), (0 : Int), (0 : Int)].length) rfl rfl (by kernel_rfl) (fun w => by kernel_rfl) ?_
            refine ls_val (v := .int .i64 x14_3) rfl rfl (by kernel_rfl) (fun w => by kernel_rfl) ?_
            obtain ⟨q59, H⟩ := ite_need H
            obtain ⟨q60, H⟩ := ite_need H
            obtain ⟨ad61, hA62⟩ := ido_at (T := (Ec.int 31 .u64)) (l := y26) (i := x14_3) (Ro.mono hok36 hle35 fR32) q59 q60
            refine ls_idxv (Ec.int 31 .u64) (A := (some ⟨g5, 0, none⟩)) (c := [Int.tmod y3 (4294967296 : Int), (0 : Int), (0 : Int), (0 : Int)].length) (l := y26) (k := .i64) (i := x14_3) (z := 1) (ad := ad61) rfl rfl (by kernel_rfl) hA62 rfl (by kernel_rfl) (by kernel_rfl) (by kernel_rfl) (by kernel_rfl) q59 q60 ?_
            refine ls_load (a0 := (ad61.add ((x14_3).toNat * 1))) (v := .int .u64 ((y26).getD (x14_3).toNat (0 : Int))) (de := (TypeDesc.int .u64)) rfl rfl (by kernel_rfl) rfl (by kernel_rfl) (by kernel_rfl) (by kernel_rfl) (fun w hs => (hs.old (Ro.mono hok36 hle35 fR32)).at hA62 (em_sub (Ec.int 31 .u64) y26 (i := (x14_3).toNat) (by have h0 : (0 : Int) ≤ x14_3 := q59; have h1 : x14_3 < (y26.length : Int) := q60; omega))) ?_
            refine ls_val (v := .int .u64 (Int.tmod a0 (4294967296 : Int))) rfl rfl (by kernel_rfl) (fun w => by kernel_rfl) ?_
            obtain ⟨y63, hy64, H⟩ := lt_some H
            refine ls_val (v := .int .u64 (IntKind.wrap .u64 (((y26).getD (x14_3).toNat (0 : Int)) * (Int.tmod a0 (4294967296 : Int))))) rfl rfl (by kernel_rfl) (fun w => by kernel_rfl) ?_
            refine ls_ren 64 (v := .int .u64 (IntKind.wrap .u64 (((y26).getD (x14_3).toNat (0 : Int)) * (Int.tmod a0 (4294967296 : Int))))) (v' := .int .u64 y63) (by kernel_rfl) (by rw [hy64]) ?_
            refine ls_val (v := .int .u64 y63) rfl rfl (by kernel_rfl) (fun w => by kernel_rfl) ?_
            refine ls_end ?_
            refine qn_then ?_
            refine cs_seq ?_
            refine cs_region (l := [_, _, _, _, _]) ?_
            refine ls_val (v := .int .u64 x13_3) rfl rfl (by kernel_rfl) (fun w => by kernel_rfl) ?_
            refine ls_val (v := .int .u64 y63) rfl rfl (by kernel_rfl) (fun w => by kernel_rfl) ?_
            refine ls_val (v := .int .u64 (Int.tmod y63 (4294967296 : Int))) rfl rfl (by kernel_rfl) (fun w => by kernel_rfl) ?_
            obtain ⟨y65, hy66, H⟩ := lt_some H
            refine ls_val (v := .int .u64 (IntKind.wrap .u64 (x13_3 + (Int.tmod y63 (4294967296 : Int))))) rfl rfl (by kernel_rfl) (fun w => by kernel_rfl) ?_
            refine ls_ren 68 (v := .int .u64 (IntKind.wrap .u64 (x13_3 + (Int.tmod y63 (4294967296 : Int))))) (v' := .int .u64 y65) (by kernel_rfl) (by rw [hy66]) ?_
            refine ls_val (v := .int .u64 y65) rfl rfl (by kernel_rfl) (fun w => by kernel_rfl) ?_
            refine ls_end ?_
            refine qn_then ?_
            refine cs_region (l := [_, _, _]) ?_
            refine ls_val (v := .int .u64 y63) rfl rfl (by kernel_rfl) (fun w => by kernel_rfl) ?_
            obtain ⟨y67, hy68, H⟩ := lt_some H
            refine ls_val (v := .int .u64 (IntKind.wrap .u64 (Int.tdiv y63 (4294967296 : Int)))) rfl rfl (by kernel_rfl) (fun w => by kernel_rfl) ?_
            refine ls_ren 70 (v := .int .u64 (IntKind.wrap .u64 (Int.tdiv y63 (4294967296 : Int)))) (v' := .int .u64 y67) (by kernel_rfl) (by rw [hy68]) ?_
            refine ls_val (v := .int .u64 y67) rfl rfl (by kernel_rfl) (fun w => by kernel_rfl) ?_
            refine ls_end ?_
            refine qn_then ?_
            refine cs_seq ?_
            refine cs_seq ?_
            refine cs_region (l := [_, _]) ?_
            refine ls_val (v := .int .i64 x14_3) rfl rfl (by kernel_rfl) (fun w => by kernel_rfl) ?_
            refine ls_val (v := .bool (decide (x14_3 > (0 : Int)))) rfl rfl (by kernel_rfl) (fun w => by kernel_rfl) ?_
            refine ls_end ?_
            refine qn_then ?_
            by_cases q69 : x14_3 > (0 : Int)
            · replace H := ite_t q69 H
              refine cs_know (c := true) (dec_t q69) 72 (by kernel_rfl) ?_
              refine cs_true (by kernel_rfl) ?_
              refine cs_region (l := [_, _, _, _, _, _, _, _, _, _]) ?_
              refine ls_val (v := .int .u64 y65) rfl rfl (by kernel_rfl) (fun w => by kernel_rfl) ?_
              refine ls_val (v := .slice (some ⟨g5, 0, none⟩) y26.length [Int.tmod y3 (4294967296 : Int), (0 : Int), (0 : Int), (0 : Int)].length) rfl rfl (by kernel_rfl) (fun w => by kernel_rfl) ?_
              refine ls_val (v := .int .i64 x14_3) rfl rfl (by kernel_rfl) (fun w => by kernel_rfl) ?_
              refine ls_val (v := .int .i64 (IntKind.wrap .i64 (x14_3 - (1 : Int)))) rfl rfl (by kernel_rfl) (fun w => by kernel_rfl) ?_
              obtain ⟨q70, H⟩ := ite_need H
              obtain ⟨q71, H⟩ := ite_need H
              obtain ⟨ad72, hA73⟩ := ido_at (T := (Ec.int 31 .u64)) (l := y26) (i := IntKind.wrap .i64 (x14_3 - (1 : Int))) (Ro.mono hok36 hle35 fR32) q70 q71
              refine ls_idxv (Ec.int 31 .u64) (A := (some ⟨g5, 0, none⟩)) (c := [Int.tmod y3 (4294967296 : Int), (0 : Int), (0 : Int), (0 : Int)].length) (l := y26) (k := .i64) (i := IntKind.wrap .i64 (x14_3 - (1 : Int))) (z := 1) (ad := ad72) rfl rfl (by kernel_rfl) hA73 rfl (by kernel_rfl) (by kernel_rfl) (by kernel_rfl) (by kernel_rfl) q70 q71 ?_
              obtain ⟨y74, hy75, H⟩ := lt_some H
              refine ls_load (a0 := (ad72.add ((IntKind.wrap .i64 (x14_3 - (1 : Int))).toNat * 1))) (v := .int .u64 ((y26).getD (IntKind.wrap .i64 (x14_3 - (1 : Int))).toNat (0 : Int))) (de := (TypeDesc.int .u64)) rfl rfl (by kernel_rfl) rfl (by kernel_rfl) (by kernel_rfl) (by kernel_rfl) (fun w hs => (hs.old (Ro.mono hok36 hle35 fR32)).at hA73 (em_sub (Ec.int 31 .u64) y26 (i := (IntKind.wrap .i64 (x14_3 - (1 : Int))).toNat) (by have h0 : (0 : Int) ≤ IntKind.wrap .i64 (x14_3 - (1 : Int)) := q70; have h1 : IntKind.wrap .i64 (x14_3 - (1 : Int)) < (y26.length : Int) := q71; omega))) ?_
              refine ls_ren 78 (v := .int .u64 ((y26).getD (IntKind.wrap .i64 (x14_3 - (1 : Int))).toNat (0 : Int))) (v' := .int .u64 y74) (by kernel_rfl) (by rw [hy75]) ?_
              refine ls_val (v := .int .u64 y1) rfl rfl (by kernel_rfl) (fun w => by kernel_rfl) ?_
              refine ls_val (v := .int .u64 (IntKind.wrap .u64 (y74 * y1))) rfl rfl (by kernel_rfl) (fun w => by kernel_rfl) ?_
              obtain ⟨y76, hy77, H⟩ := lt_some H
              refine ls_val (v := .int .u64 (IntKind.wrap .u64 (y65 + (IntKind.wrap .u64 (y74 * y1))))) rfl rfl (by kernel_rfl) (fun w => by kernel_rfl) ?_
              refine ls_ren 81 (v := .int .u64 (IntKind.wrap .u64 (y65 + (IntKind.wrap .u64 (y74 * y1))))) (v' := .int .u64 y76) (by kernel_rfl) (by rw [hy77]) ?_
              refine ls_val (v := .int .u64 y76) rfl rfl (by kernel_rfl) (fun w => by kernel_rfl) ?_
              refine ls_end ?_
              refine qn_then ?_
              refine cs_seq ?_
              refine cs_region (l := [_, _, _, _, _, _]) ?_
              refine ls_val (v := .slice A12_3 l12_3.length c12_3) rfl rfl (by kernel_rfl) (fun w => by kernel_rfl) ?_
              refine ls_val (v := .int .i64 x14_3) rfl rfl (by kernel_rfl) (fun w => by kernel_rfl) ?_
              refine ls_val (v := .int .u64 y76) rfl rfl (by kernel_rfl) (fun w => by kernel_rfl) ?_
              refine ls_val (v := .int .u64 (Int.tmod y76 (4294967296 : Int))) rfl rfl (by kernel_rfl) (fun w => by kernel_rfl) ?_
              obtain ⟨q78, H⟩ := ite_need H
              refine ls_at (T := (Ec.int 31 .u64)) (tk := 2) (i := x14_3) (by exact rfl) q59 q78 ?_
              intro ad79 hA80
              refine ls_idxv (Ec.int 31 .u64) (A := A12_3) (c := c12_3) (l := l12_3) (k := .i64) (i := x14_3) (z := 1) (ad := ad79) rfl rfl (by kernel_rfl) hA80 rfl (by kernel_rfl) (by kernel_rfl) (by kernel_rfl) (by kernel_rfl) q59 q78 ?_
              obtain ⟨y81, hy82, H⟩ := lt_some H
              refine ls_storem (Ec.int 31 .u64) (A := A12_3) (c := c12_3) (l := l12_3) (l' := y81) (ad := ad79) (off := ((x14_3).toNat * 1)) (v := .int .u64 (Int.tmod y76 (4294967296 : Int))) (vs := [Value.int .u64 (Int.tmod y76 (4294967296 : Int))]) 2 rfl rfl rfl hA80 (by kernel_rfl) (by kernel_rfl) (by kernel_rfl) (by exact rfl) (by kernel_rfl) (len1 _) (one_cons rfl one_nil) (hl_of (em_sub (Ec.int 31 .u64) l12_3 (i := (x14_3).toNat) (by have h0 : (0 : Int) ≤ x14_3 := q59; have h1 : x14_3 < (l12_3.length : Int) := q78; omega)) (len_eq (len1 _) (len1 _))) ((splc_em (Ec.int 31 .u64) l12_3 (Int.tmod y76 (4294967296 : Int)) (i := (x14_3).toNat) (by have h0 : (0 : Int) ≤ x14_3 := q59; have h1 : x14_3 < (l12_3.length : Int) := q78; omega)).trans (congrArg (em (Ec.int 31 .u64)) hy82)) (by rw [← hy82, List.length_set]) ?_
              refine ls_ren 12 (v := .slice A12_3 l12_3.length c12_3) (v' := .slice A12_3 y81.length c12_3) (by kernel_rfl) (by rw [← hy82, List.length_set]) ?_
              refine ls_ren 82 (v := .slice A12_3 l12_3.length c12_3) (v' := .slice A12_3 y81.length c12_3) (by kernel_rfl) (by rw [← hy82, List.length_set]) ?_
              refine ls_end ?_
              refine qn_then ?_
              refine cs_region (l := [_, _, _, _, _]) ?_
              refine ls_val (v := .int .u64 y67) rfl rfl (by kernel_rfl) (fun w => by kernel_rfl) ?_
              refine ls_val (v := .int .u64 y76) rfl rfl (by kernel_rfl) (fun w => by kernel_rfl) ?_
              obtain ⟨y83, hy84, H⟩ := lt_some H
              refine ls_val (v := .int .u64 (IntKind.wrap .u64 (Int.tdiv y76 (4294967296 : Int)))) rfl rfl (by kernel_rfl) (fun w => by kernel_rfl) ?_
              refine ls_ren 89 (v := .int .u64 (IntKind.wrap .u64 (Int.tdiv y76 (4294967296 : Int)))) (v' := .int .u64 y83) (by kernel_rfl) (by rw [hy84]) ?_
              refine ls_val (v := .int .u64 (IntKind.wrap .u64 (y67 + y83))) rfl rfl (by kernel_rfl) (fun w => by kernel_rfl) ?_
              refine ls_val (v := .int .u64 (IntKind.wrap .u64 (y67 + y83))) rfl rfl (by kernel_rfl) (fun w => by kernel_rfl) ?_
              refine ls_end ?_
              refine qn_block ?_
              refine qn_then ?_
              refine cs_region (l := [_, _, _]) ?_
              refine ls_val (v := .int .i64 x14_3) rfl rfl (by kernel_rfl) (fun w => by kernel_rfl) ?_
              refine ls_val (v := .int .i64 (IntKind.wrap .i64 (x14_3 + (1 : Int)))) rfl rfl (by kernel_rfl) (fun w => by kernel_rfl) ?_
              refine ls_val (v := .int .i64 (IntKind.wrap .i64 (x14_3 + (1 : Int)))) rfl rfl (by kernel_rfl) (fun w => by kernel_rfl) ?_
              refine ls_end ?_
              refine qn_again k3 (sput s0 2 (some (Ck.sl (Ec.int 31 .u64) A12_3 c12_3 y81))) (Nat.le_refl _) ⟨_, A12_3, c12_3, y81, (IntKind.wrap .u64 (y67 + y83)), (IntKind.wrap .i64 (x14_3 + (1 : Int))), fr_next (fr_next (fr_next (fr_next (fr_next (fr_next (fr_next (rfl) (by kernel_rfl)) (by kernel_rfl)) (by kernel_rfl)) (by kernel_rfl)) (by kernel_rfl)) (by kernel_rfl)) (by kernel_rfl), rfl, H⟩ (sub_put (by exact rfl) (sub_nil _))
            · replace H := ite_f q69 H
              refine cs_know (c := false) (dec_f q69) 72 (by kernel_rfl) ?_
              refine cs_false (by kernel_rfl) ?_
              refine cs_skip' ?_
              refine qn_then ?_
              refine cs_seq ?_
              refine cs_region (l := [_, _, _, _, _, _]) ?_
              refine ls_val (v := .slice A12_3 l12_3.length c12_3) rfl rfl (by kernel_rfl) (fun w => by kernel_rfl) ?_
              refine ls_val (v := .int .i64 x14_3) rfl rfl (by kernel_rfl) (fun w => by kernel_rfl) ?_
              refine ls_val (v := .int .u64 y65) rfl rfl (by kernel_rfl) (fun w => by kernel_rfl) ?_
              refine ls_val (v := .int .u64 (Int.tmod y65 (4294967296 : Int))) rfl rfl (by kernel_rfl) (fun w => by kernel_rfl) ?_
              obtain ⟨q85, H⟩ := ite_need H
              refine ls_at (T := (Ec.int 31 .u64)) (tk := 2) (i := x14_3) (by exact rfl) q59 q85 ?_
              intro ad86 hA87
              refine ls_idxv (Ec.int 31 .u64) (A := A12_3) (c := c12_3) (l := l12_3) (k := .i64) (i := x14_3) (z := 1) (ad := ad86) rfl rfl (by kernel_rfl) hA87 rfl (by kernel_rfl) (by kernel_rfl) (by kernel_rfl) (by kernel_rfl) q59 q85 ?_
              obtain ⟨y88, hy89, H⟩ := lt_some H
              refine ls_storem (Ec.int 31 .u64) (A := A12_3) (c := c12_3) (l := l12_3) (l' := y88) (ad := ad86) (off := ((x14_3).toNat * 1)) (v := .int .u64 (Int.tmod y65 (4294967296 : Int))) (vs := [Value.int .u64 (Int.tmod y65 (4294967296 : Int))]) 2 rfl rfl rfl hA87 (by kernel_rfl) (by kernel_rfl) (by kernel_rfl) (by exact rfl) (by kernel_rfl) (len1 _) (one_cons rfl one_nil) (hl_of (em_sub (Ec.int 31 .u64) l12_3 (i := (x14_3).toNat) (by have h0 : (0 : Int) ≤ x14_3 := q59; have h1 : x14_3 < (l12_3.length : Int) := q85; omega)) (len_eq (len1 _) (len1 _))) ((splc_em (Ec.int 31 .u64) l12_3 (Int.tmod y65 (4294967296 : Int)) (i := (x14_3).toNat) (by have h0 : (0 : Int) ≤ x14_3 := q59; have h1 : x14_3 < (l12_3.length : Int) := q85; omega)).trans (congrArg (em (Ec.int 31 .u64)) hy89)) (by rw [← hy89, List.length_set]) ?_
              refine ls_ren 12 (v := .slice A12_3 l12_3.length c12_3) (v' := .slice A12_3 y88.length c12_3) (by kernel_rfl) (by rw [← hy89, List.length_set]) ?_
              refine ls_ren 82 (v := .slice A12_3 l12_3.length c12_3) (v' := .slice A12_3 y88.length c12_3) (by kernel_rfl) (by rw [← hy89, List.length_set]) ?_
              refine ls_end ?_
              refine qn_then ?_
              refine cs_region (l := [_, _, _, _, _]) ?_
              refine ls_val (v := .int .u64 y67) rfl rfl (by kernel_rfl) (fun w => by kernel_rfl) ?_
              refine ls_val (v := .int .u64 y65) rfl rfl (by kernel_rfl) (fun w => by kernel_rfl) ?_
              obtain ⟨y90, hy91, H⟩ := lt_some H
              refine ls_val (v := .int .u64 (IntKind.wrap .u64 (Int.tdiv y65 (4294967296 : Int)))) rfl rfl (by kernel_rfl) (fun w => by kernel_rfl) ?_
              refine ls_ren 89 (v := .int .u64 (IntKind.wrap .u64 (Int.tdiv y65 (4294967296 : Int)))) (v' := .int .u64 y90) (by kernel_rfl) (by rw [hy91]) ?_
              refine ls_val (v := .int .u64 (IntKind.wrap .u64 (y67 + y90))) rfl rfl (by kernel_rfl) (fun w => by kernel_rfl) ?_
              refine ls_val (v := .int .u64 (IntKind.wrap .u64 (y67 + y90))) rfl rfl (by kernel_rfl) (fun w => by kernel_rfl) ?_
              refine ls_end ?_
              refine qn_block ?_
              refine qn_then ?_
              refine cs_region (l := [_, _, _]) ?_
              refine ls_val (v := .int .i64 x14_3) rfl rfl (by kernel_rfl) (fun w => by kernel_rfl) ?_
              refine ls_val (v := .int .i64 (IntKind.wrap .i64 (x14_3 + (1 : Int)))) rfl rfl (by kernel_rfl) (fun w => by kernel_rfl) ?_
              refine ls_val (v := .int .i64 (IntKind.wrap .i64 (x14_3 + (1 : Int)))) rfl rfl (by kernel_rfl) (fun w => by kernel_rfl) ?_
              refine ls_end ?_
              refine qn_again k3 (sput s0 2 (some (Ck.sl (Ec.int 31 .u64) A12_3 c12_3 y88))) (Nat.le_refl _) ⟨_, A12_3, c12_3, y88, (IntKind.wrap .u64 (y67 + y90)), (IntKind.wrap .i64 (x14_3 + (1 : Int))), fr_next (fr_next (fr_next (fr_next (fr_next (fr_next (fr_next (rfl) (by kernel_rfl)) (by kernel_rfl)) (by kernel_rfl)) (by kernel_rfl)) (by kernel_rfl)) (by kernel_rfl)) (by kernel_rfl), rfl, H⟩ (sub_put (by exact rfl) (sub_nil _))
          · replace H := ite_f q58 H
            refine cs_know (c := false) (dec_f q58) 58 (by kernel_rfl) ?_
            refine cs_false (by kernel_rfl) ?_
            refine cs_skip' ?_
            refine qn_then ?_
            refine cs_seq ?_
            refine cs_seq ?_
            refine cs_region (l := [_, _]) ?_
            refine ls_val (v := .int .i64 x14_3) rfl rfl (by kernel_rfl) (fun w => by kernel_rfl) ?_
            refine ls_val (v := .bool (decide (x14_3 > (0 : Int)))) rfl rfl (by kernel_rfl) (fun w => by kernel_rfl) ?_
            refine ls_end ?_
            refine qn_then ?_
            by_cases q92 : x14_3 > (0 : Int)
            · replace H := ite_t q92 H
              refine cs_know (c := true) (dec_t q92) 72 (by kernel_rfl) ?_
              refine cs_true (by kernel_rfl) ?_
              refine cs_region (l := [_, _, _, _, _, _, _, _, _, _]) ?_
              refine ls_val (v := .int .u64 x13_3) rfl rfl (by kernel_rfl) (fun w => by kernel_rfl) ?_
              refine ls_val (v := .slice (some ⟨g5, 0, none⟩) y26.length [Int.tmod y3 (4294967296 : Int), (0 : Int), (0 : Int), (0 : Int)].length) rfl rfl (by kernel_rfl) (fun w => by kernel_rfl) ?_
              refine ls_val (v := .int .i64 x14_3) rfl rfl (by kernel_rfl) (fun w => by kernel_rfl) ?_
              refine ls_val (v := .int .i64 (IntKind.wrap .i64 (x14_3 - (1 : Int)))) rfl rfl (by kernel_rfl) (fun w => by kernel_rfl) ?_
              obtain ⟨q93, H⟩ := ite_need H
              obtain ⟨q94, H⟩ := ite_need H
              obtain ⟨ad95, hA96⟩ := ido_at (T := (Ec.int 31 .u64)) (l := y26) (i := IntKind.wrap .i64 (x14_3 - (1 : Int))) (Ro.mono hok36 hle35 fR32) q93 q94
              refine ls_idxv (Ec.int 31 .u64) (A := (some ⟨g5, 0, none⟩)) (c := [Int.tmod y3 (4294967296 : Int), (0 : Int), (0 : Int), (0 : Int)].length) (l := y26) (k := .i64) (i := IntKind.wrap .i64 (x14_3 - (1 : Int))) (z := 1) (ad := ad95) rfl rfl (by kernel_rfl) hA96 rfl (by kernel_rfl) (by kernel_rfl) (by kernel_rfl) (by kernel_rfl) q93 q94 ?_
              obtain ⟨y97, hy98, H⟩ := lt_some H
              refine ls_load (a0 := (ad95.add ((IntKind.wrap .i64 (x14_3 - (1 : Int))).toNat * 1))) (v := .int .u64 ((y26).getD (IntKind.wrap .i64 (x14_3 - (1 : Int))).toNat (0 : Int))) (de := (TypeDesc.int .u64)) rfl rfl (by kernel_rfl) rfl (by kernel_rfl) (by kernel_rfl) (by kernel_rfl) (fun w hs => (hs.old (Ro.mono hok36 hle35 fR32)).at hA96 (em_sub (Ec.int 31 .u64) y26 (i := (IntKind.wrap .i64 (x14_3 - (1 : Int))).toNat) (by have h0 : (0 : Int) ≤ IntKind.wrap .i64 (x14_3 - (1 : Int)) := q93; have h1 : IntKind.wrap .i64 (x14_3 - (1 : Int)) < (y26.length : Int) := q94; omega))) ?_
              refine ls_ren 78 (v := .int .u64 ((y26).getD (IntKind.wrap .i64 (x14_3 - (1 : Int))).toNat (0 : Int))) (v' := .int .u64 y97) (by kernel_rfl) (by rw [hy98]) ?_
              refine ls_val (v := .int .u64 y1) rfl rfl (by kernel_rfl) (fun w => by kernel_rfl) ?_
              refine ls_val (v := .int .u64 (IntKind.wrap .u64 (y97 * y1))) rfl rfl (by kernel_rfl) (fun w => by kernel_rfl) ?_
              obtain ⟨y99, hy100, H⟩ := lt_some H
              refine ls_val (v := .int .u64 (IntKind.wrap .u64 (x13_3 + (IntKind.wrap .u64 (y97 * y1))))) rfl rfl (by kernel_rfl) (fun w => by kernel_rfl) ?_
              refine ls_ren 81 (v := .int .u64 (IntKind.wrap .u64 (x13_3 + (IntKind.wrap .u64 (y97 * y1))))) (v' := .int .u64 y99) (by kernel_rfl) (by rw [hy100]) ?_
              refine ls_val (v := .int .u64 y99) rfl rfl (by kernel_rfl) (fun w => by kernel_rfl) ?_
              refine ls_end ?_
              refine qn_then ?_
              refine cs_seq ?_
              refine cs_region (l := [_, _, _, _, _, _]) ?_
              refine ls_val (v := .slice A12_3 l12_3.length c12_3) rfl rfl (by kernel_rfl) (fun w => by kernel_rfl) ?_
              refine ls_val (v := .int .i64 x14_3) rfl rfl (by kernel_rfl) (fun w => by kernel_rfl) ?_
              refine ls_val (v := .int .u64 y99) rfl rfl (by kernel_rfl) (fun w => by kernel_rfl) ?_
              refine ls_val (v := .int .u64 (Int.tmod y99 (4294967296 : Int))) rfl rfl (by kernel_rfl) (fun w => by kernel_rfl) ?_
              obtain ⟨q101, H⟩ := ite_need H
              obtain ⟨q102, H⟩ := ite_need H
              refine ls_at (T := (Ec.int 31 .u64)) (tk := 2) (i := x14_3) (by exact rfl) q101 q102 ?_
              intro ad103 hA104
              refine ls_idxv (Ec.int 31 .u64) (A := A12_3) (c := c12_3) (l := l12_3) (k := .i64) (i := x14_3) (z := 1) (ad := ad103) rfl rfl (by kernel_rfl) hA104 rfl (by kernel_rfl) (by kernel_rfl) (by kernel_rfl) (by kernel_rfl) q101 q102 ?_
              obtain ⟨y105, hy106, H⟩ := lt_some H
              refine ls_storem (Ec.int 31 .u64) (A := A12_3) (c := c12_3) (l := l12_3) (l' := y105) (ad := ad103) (off := ((x14_3).toNat * 1)) (v := .int .u64 (Int.tmod y99 (4294967296 : Int))) (vs := [Value.int .u64 (Int.tmod y99 (4294967296 : Int))]) 2 rfl rfl rfl hA104 (by kernel_rfl) (by kernel_rfl) (by kernel_rfl) (by exact rfl) (by kernel_rfl) (len1 _) (one_cons rfl one_nil) (hl_of (em_sub (Ec.int 31 .u64) l12_3 (i := (x14_3).toNat) (by have h0 : (0 : Int) ≤ x14_3 := q101; have h1 : x14_3 < (l12_3.length : Int) := q102; omega)) (len_eq (len1 _) (len1 _))) ((splc_em (Ec.int 31 .u64) l12_3 (Int.tmod y99 (4294967296 : Int)) (i := (x14_3).toNat) (by have h0 : (0 : Int) ≤ x14_3 := q101; have h1 : x14_3 < (l12_3.length : Int) := q102; omega)).trans (congrArg (em (Ec.int 31 .u64)) hy106)) (by rw [← hy106, List.length_set]) ?_
              refine ls_ren 12 (v := .slice A12_3 l12_3.length c12_3) (v' := .slice A12_3 y105.length c12_3) (by kernel_rfl) (by rw [← hy106, List.length_set]) ?_
              refine ls_ren 82 (v := .slice A12_3 l12_3.length c12_3) (v' := .slice A12_3 y105.length c12_3) (by kernel_rfl) (by rw [← hy106, List.length_set]) ?_
              refine ls_end ?_
              refine qn_then ?_
              refine cs_region (l := [_, _, _, _, _]) ?_
              refine ls_val (v := .int .u64 (0 : Int)) rfl rfl (by kernel_rfl) (fun w => by kernel_rfl) ?_
              refine ls_val (v := .int .u64 y99) rfl rfl (by kernel_rfl) (fun w => by kernel_rfl) ?_
              obtain ⟨y107, hy108, H⟩ := lt_some H
              refine ls_val (v := .int .u64 (IntKind.wrap .u64 (Int.tdiv y99 (4294967296 : Int)))) rfl rfl (by kernel_rfl) (fun w => by kernel_rfl) ?_
              refine ls_ren 89 (v := .int .u64 (IntKind.wrap .u64 (Int.tdiv y99 (4294967296 : Int)))) (v' := .int .u64 y107) (by kernel_rfl) (by rw [hy108]) ?_
              refine ls_val (v := .int .u64 (IntKind.wrap .u64 ((0 : Int) + y107))) rfl rfl (by kernel_rfl) (fun w => by kernel_rfl) ?_
              refine ls_val (v := .int .u64 (IntKind.wrap .u64 ((0 : Int) + y107))) rfl rfl (by kernel_rfl) (fun w => by kernel_rfl) ?_
              refine ls_end ?_
              refine qn_block ?_
              refine qn_then ?_
              refine cs_region (l := [_, _, _]) ?_
              refine ls_val (v := .int .i64 x14_3) rfl rfl (by kernel_rfl) (fun w => by kernel_rfl) ?_
              refine ls_val (v := .int .i64 (IntKind.wrap .i64 (x14_3 + (1 : Int)))) rfl rfl (by kernel_rfl) (fun w => by kernel_rfl) ?_
              refine ls_val (v := .int .i64 (IntKind.wrap .i64 (x14_3 + (1 : Int)))) rfl rfl (by kernel_rfl) (fun w => by kernel_rfl) ?_
              refine ls_end ?_
              refine qn_again k3 (sput s0 2 (some (Ck.sl (Ec.int 31 .u64) A12_3 c12_3 y105))) (Nat.le_refl _) ⟨_, A12_3, c12_3, y105, (IntKind.wrap .u64 ((0 : Int) + y107)), (IntKind.wrap .i64 (x14_3 + (1 : Int))), fr_next (fr_next (fr_next (fr_next (fr_next (fr_next (fr_next (rfl) (by kernel_rfl)) (by kernel_rfl)) (by kernel_rfl)) (by kernel_rfl)) (by kernel_rfl)) (by kernel_rfl)) (by kernel_rfl), rfl, H⟩ (sub_put (by exact rfl) (sub_nil _))
            · replace H := ite_f q92 H
              refine cs_know (c := false) (dec_f q92) 72 (by kernel_rfl) ?_
              refine cs_false (by kernel_rfl) ?_
              refine cs_skip' ?_
              refine qn_then ?_
              refine cs_seq ?_
              refine cs_region (l := [_, _, _, _, _, _]) ?_
              refine ls_val (v := .slice A12_3 l12_3.length c12_3) rfl rfl (by kernel_rfl) (fun w => by kernel_rfl) ?_
              refine ls_val (v := .int .i64 x14_3) rfl rfl (by kernel_rfl) (fun w => by kernel_rfl) ?_
              refine ls_val (v := .int .u64 x13_3) rfl rfl (by kernel_rfl) (fun w => by kernel_rfl) ?_
              refine ls_val (v := .int .u64 (Int.tmod x13_3 (4294967296 : Int))) rfl rfl (by kernel_rfl) (fun w => by kernel_rfl) ?_
              obtain ⟨q109, H⟩ := ite_need H
              obtain ⟨q110, H⟩ := ite_need H
              refine ls_at (T := (Ec.int 31 .u64)) (tk := 2) (i := x14_3) (by exact rfl) q109 q110 ?_
              intro ad111 hA112
              refine ls_idxv (Ec.int 31 .u64) (A := A12_3) (c := c12_3) (l := l12_3) (k := .i64) (i := x14_3) (z := 1) (ad := ad111) rfl rfl (by kernel_rfl) hA112 rfl (by kernel_rfl) (by kernel_rfl) (by kernel_rfl) (by kernel_rfl) q109 q110 ?_
              obtain ⟨y113, hy114, H⟩ := lt_some H
              refine ls_storem (Ec.int 31 .u64) (A := A12_3) (c := c12_3) (l := l12_3) (l' := y113) (ad := ad111) (off := ((x14_3).toNat * 1)) (v := .int .u64 (Int.tmod x13_3 (4294967296 : Int))) (vs := [Value.int .u64 (Int.tmod x13_3 (4294967296 : Int))]) 2 rfl rfl rfl hA112 (by kernel_rfl) (by kernel_rfl) (by kernel_rfl) (by exact rfl) (by kernel_rfl) (len1 _) (one_cons rfl one_nil) (hl_of (em_sub (Ec.int 31 .u64) l12_3 (i := (x14_3).toNat) (by have h0 : (0 : Int) ≤ x14_3 := q109; have h1 : x14_3 < (l12_3.length : Int) := q110; omega)) (len_eq (len1 _) (len1 _))) ((splc_em (Ec.int 31 .u64) l12_3 (Int.tmod x13_3 (4294967296 : Int)) (i := (x14_3).toNat) (by have h0 : (0 : Int) ≤ x14_3 := q109; have h1 : x14_3 < (l12_3.length : Int) := q110; omega)).trans (congrArg (em (Ec.int 31 .u64)) hy114)) (by rw [← hy114, List.length_set]) ?_
              refine ls_ren 12 (v := .slice A12_3 l12_3.length c12_3) (v' := .slice A12_3 y113.length c12_3) (by kernel_rfl) (by rw [← hy114, List.length_set]) ?_
              refine ls_ren 82 (v := .slice A12_3 l12_3.length c12_3) (v' := .slice A12_3 y113.length c12_3) (by kernel_rfl) (by rw [← hy114, List.length_set]) ?_
              refine ls_end ?_
              refine qn_then ?_
              refine cs_region (l := [_, _, _, _, _]) ?_
              refine ls_val (v := .int .u64 (0 : Int)) rfl rfl (by kernel_rfl) (fun w => by kernel_rfl) ?_
              refine ls_val (v := .int .u64 x13_3) rfl rfl (by kernel_rfl) (fun w => by kernel_rfl) ?_
              obtain ⟨y115, hy116, H⟩ := lt_some H
              refine ls_val (v := .int .u64 (IntKind.wrap .u64 (Int.tdiv x13_3 (4294967296 : Int)))) rfl rfl (by kernel_rfl) (fun w => by kernel_rfl) ?_
              refine ls_ren 89 (v := .int .u64 (IntKind.wrap .u64 (Int.tdiv x13_3 (4294967296 : Int)))) (v' := .int .u64 y115) (by kernel_rfl) (by rw [hy116]) ?_
              refine ls_val (v := .int .u64 (IntKind.wrap .u64 ((0 : Int) + y115))) rfl rfl (by kernel_rfl) (fun w => by kernel_rfl) ?_
              refine ls_val (v := .int .u64 (IntKind.wrap .u64 ((0 : Int) + y115))) rfl rfl (by kernel_rfl) (fun w => by kernel_rfl) ?_
              refine ls_end ?_
              refine qn_block ?_
              refine qn_then ?_
              refine cs_region (l := [_, _, _]) ?_
              refine ls_val (v := .int .i64 x14_3) rfl rfl (by kernel_rfl) (fun w => by kernel_rfl) ?_
              refine ls_val (v := .int .i64 (IntKind.wrap .i64 (x14_3 + (1 : Int)))) rfl rfl (by kernel_rfl) (fun w => by kernel_rfl) ?_
              refine ls_val (v := .int .i64 (IntKind.wrap .i64 (x14_3 + (1 : Int)))) rfl rfl (by kernel_rfl) (fun w => by kernel_rfl) ?_
              refine ls_end ?_
              refine qn_again k3 (sput s0 2 (some (Ck.sl (Ec.int 31 .u64) A12_3 c12_3 y113))) (Nat.le_refl _) ⟨_, A12_3, c12_3, y113, (IntKind.wrap .u64 ((0 : Int) + y115)), (IntKind.wrap .i64 (x14_3 + (1 : Int))), fr_next (fr_next (fr_next (fr_next (fr_next (fr_next (fr_next (rfl) (by kernel_rfl)) (by kernel_rfl)) (by kernel_rfl)) (by kernel_rfl)) (by kernel_rfl)) (by kernel_rfl)) (by kernel_rfl), rfl, H⟩ (sub_put (by exact rfl) (sub_nil _))
    · replace H := ite_f q56 H
      refine cs_know (c := false) (Bool.eq_false_iff.mpr q56) 50 (by kernel_rfl) ?_
      refine cs_false (by kernel_rfl) ?_
      refine cs_skip' ?_
      refine qn_meetb (s0) ⟨_, (some ⟨g5, 0, none⟩), [Int.tmod y3 (4294967296 : Int), (0 : Int), (0 : Int), (0 : Int)].length, y26, (some ⟨g28, 0, none⟩), [(0 : Int), (0 : Int), a2, (0 : Int)].length, ([(0 : Int), (0 : Int), a2, (0 : Int)]), fr_next (fr_next (rfl) (by kernel_rfl)) (by kernel_rfl), rfl, (Ro.mono hok36 hle35 fR32), fC33, fR37, fC38, (hle30.trans hle35), H⟩ (sub_nil _)
  · rintro bh1 f S ⟨fr1, A9_1, c9_1, l9_1, A11_1, c11_1, l11_1, rfl, rfl, R9_1, C9_1, R11_1, C11_1, hleh1, H⟩
    replace H : (shadowboxref03_power.lo2 l9_1 l11_1 k (3 : Int)) = some r := H
    refine cs_seq ?_
    refine cs_seq ?_
    refine cs_region (l := [_]) ?_
    refine ls_val (v := .int .i64 (3 : Int)) rfl rfl (by kernel_rfl) (fun w => by kernel_rfl) ?_
    refine ls_end ?_
    refine qn_then ?_
    refine cs_block ?_
    refine cs_sub (s0) (sub_nil _) ?_
    refine cs_loop (fun kk f S => ∃ (fR : Fr) (x17_2 : Int), f = upd (upd (upd fR 9 (.slice A9_1 l9_1.length c9_1)) 11 (.slice A11_1 l11_1.length c11_1)) 17 (.int .i64 x17_2) ∧ S = s0 ∧ shadowboxref03_power.lo2 l9_1 l11_1 kk x17_2 = some r) k ?_ ?_ ?_
    · exact ⟨_, (3 : Int), fr_next (fr_next (fr_next (rfl) (by kernel_rfl)) (by kernel_rfl)) (by kernel_rfl), rfl, H⟩
    · rintro f S ⟨fr2, x17_2, rfl, rfl, H⟩; cases H
    · rintro k2 f S ⟨fr2, x17_2, rfl, rfl, H⟩
      replace H : ((if x17_2 ≥ (0 : Int) then (if 0 ≤ x17_2 then (if x17_2 < (l9_1.length : Int) then (if x17_2 < (l11_1.length : Int) then (if ((l9_1).getD (x17_2).toNat (0 : Int)) = ((l11_1).getD (x17_2).toNat (0 : Int)) then (shadowboxref03_power.lo2 l9_1 l11_1 k2) (IntKind.wrap .i64 (x17_2 - (1 : Int))) else some (decide (((l9_1).getD (x17_2).toNat (0 : Int)) < ((l11_1).getD (x17_2).toNat (0 : Int))))) else none) else none) else none) else some true)) = some r := H
      refine cs_seq ?_
      refine cs_seq ?_
      refine cs_region (l := [_, _]) ?_
      refine ls_val (v := .int .i64 x17_2) rfl rfl (by kernel_rfl) (fun w => by kernel_rfl) ?_
      refine ls_val (v := .bool (decide (x17_2 ≥ (0 : Int)))) rfl rfl (by kernel_rfl) (fun w => by kernel_rfl) ?_
      refine ls_end ?_
      refine qn_then ?_
      by_cases q39 : x17_2 ≥ (0 : Int)
      · replace H := ite_t q39 H
        refine cs_know (c := true) (dec_t q39) 95 (by kernel_rfl) ?_
        refine cs_true (by kernel_rfl) ?_
        refine cs_skip' ?_
        refine qn_then ?_
        refine cs_seq ?_
        refine cs_block ?_
        refine cs_seq ?_
        obtain ⟨s41_0, hs41_0⟩ : ∃ z : Value → Sto → Prop, z = (fun v R => v = .slice A9_1 l9_1.length c9_1 ∧ R = s0) := ⟨_, rfl⟩
        refine have_op (l := [_, _, _, _, _, _, _, _, _]) shadowboxref03_power.tab39 2 0 (fun sp => sp 0 = s41_0) (fun sp on hA hon => ?_) (fun ops41_0 => ?_)
        · refine ⟨fun o ho vs Rs f' S' w hp hf hx hS hR hs => ?_⟩
          obtain rfl := Option.some.inj ho
          rw [hA, hs41_0]
          refine And.intro (fun a ha => (want_none rfl a ha).trans hon.symm) (And.intro (fun _ => ?_) (fun h => by rw [hon] at h; cases h))
          have hF := fr_next (rfl) ((hx 9 (by kernel_rfl)).trans (by kernel_rfl : (_ : Value) = .slice A9_1 l9_1.length c9_1))
          refine ls_fr hF ?_
          refine ls_val (v := .slice A9_1 l9_1.length c9_1) rfl rfl (by kernel_rfl) (fun w => by kernel_rfl) ?_
          exact ls_fin s0 (.slice A9_1 l9_1.length c9_1) (congrArg (fun z => upd z 98 _) hF.symm) ⟨rfl, rfl⟩ (sub_nil _)
        obtain ⟨s41_1, hs41_1⟩ : ∃ z : Value → Sto → Prop, z = (fun v R => v = .int .i64 x17_2 ∧ R = s0) := ⟨_, rfl⟩
        refine have_op (l := [_, _, _, _, _, _, _, _, _]) shadowboxref03_power.tab39 2 1 (fun sp => sp 1 = s41_1) (fun sp on hA hon => ?_) (fun ops41_1 => ?_)
        · refine ⟨fun o ho vs Rs f' S' w hp hf hx hS hR hs => ?_⟩
          obtain rfl := Option.some.inj ho
          rw [hA, hs41_1]
          refine And.intro (fun a ha => (want_none rfl a ha).trans hon.symm) (And.intro (fun _ => ?_) (fun h => by rw [hon] at h; cases h))
          have hF := fr_next (rfl) ((hx 17 (by kernel_rfl)).trans (by kernel_rfl : (_ : Value) = .int .i64 x17_2))
          refine ls_fr hF ?_
          refine ls_val (v := .int .i64 x17_2) rfl rfl (by kernel_rfl) (fun w => by kernel_rfl) ?_
          exact ls_fin s0 (.int .i64 x17_2) (congrArg (fun z => upd z 99 _) hF.symm) ⟨rfl, rfl⟩ (sub_nil _)
        obtain ⟨q42, H⟩ := ite_need H
        obtain ⟨q43, H⟩ := ite_need H
        obtain ⟨ad44, hA45⟩ := ido_at (T := (Ec.int 31 .u64)) (l := l9_1) (i := x17_2) R9_1 q42 q43
        obtain ⟨s41_2, hs41_2⟩ : ∃ z : Value → Sto → Prop, z = (fun v R => v = .pointer (some (ad44.add ((x17_2).toNat * 1))) ∧ R = s0) := ⟨_, rfl⟩
        refine have_op (l := [_, _, _, _, _, _, _, _, _]) shadowboxref03_power.tab39 2 2 (fun sp => sp 2 = s41_2 ∧ sp 0 = s41_0 ∧ sp 1 = s41_1) (fun sp on hA hon => ?_) (fun ops41_2 => ?_)
        · refine ⟨fun o ho vs Rs f' S' w hp hf hx hS hR hs => ?_⟩
          obtain rfl := Option.some.inj ho
          obtain ⟨hv0, hR0⟩ := (spe hA.2.1 hs41_0 (hp 0 (by kernel_rfl)))
          obtain ⟨hv1, hR1⟩ := (spe hA.2.2 hs41_1 (hp 1 (by kernel_rfl)))
          rw [hA.1, hs41_2]
          refine And.intro (fun a ha => (want_none rfl a ha).trans hon.symm) (And.intro (fun _ => ?_) (fun h => by rw [hon] at h; cases h))
          have hF := fr_next (fr_next (rfl) ((hf 0 98 (by kernel_rfl) rfl).trans hv0)) ((hf 1 99 (by kernel_rfl) rfl).trans hv1)
          refine ls_fr hF ?_
          refine ls_idxv (Ec.int 31 .u64) (A := A9_1) (c := c9_1) (l := l9_1) (k := .i64) (i := x17_2) (z := 1) (ad := ad44) rfl rfl (by kernel_rfl) hA45 rfl (by kernel_rfl) (by kernel_rfl) (by kernel_rfl) (by kernel_rfl) q42 q43 ?_
          exact ls_fin s0 (.pointer (some (ad44.add ((x17_2).toNat * 1)))) (congrArg (fun z => upd z 100 _) hF.symm) ⟨rfl, rfl⟩ (sub_nil _)
        obtain ⟨s41_3, hs41_3⟩ : ∃ z : Value → Sto → Prop, z = (fun v R => v = .int .u64 ((l9_1).getD (x17_2).toNat (0 : Int)) ∧ R = s0) := ⟨_, rfl⟩
        refine have_op (l := [_, _, _, _, _, _, _, _, _]) shadowboxref03_power.tab39 2 3 (fun sp => sp 3 = s41_3 ∧ sp 2 = s41_2) (fun sp on hA hon => ?_) (fun ops41_3 => ?_)
        · refine ⟨fun o ho vs Rs f' S' w hp hf hx hS hR hs => ?_⟩
          obtain rfl := Option.some.inj ho
          obtain ⟨hv2, hR2⟩ := (spe hA.2 hs41_2 (hp 2 (by kernel_rfl)))
          rw [hA.1, hs41_3]
          refine And.intro (fun a ha => (want_none rfl a ha).trans hon.symm) (And.intro (fun _ => ?_) (fun h => by rw [hon] at h; cases h))
          have hF := fr_next (rfl) ((hf 2 100 (by kernel_rfl) rfl).trans hv2)
          refine ls_fr hF ?_
          refine ls_load (a0 := (ad44.add ((x17_2).toNat * 1))) (v := .int .u64 ((l9_1).getD (x17_2).toNat (0 : Int))) (de := (TypeDesc.int .u64)) rfl rfl (by kernel_rfl) rfl (by kernel_rfl) (by kernel_rfl) (by kernel_rfl) (fun w1 hs1 => (Rd.step (hs.old R9_1) hs1.below.bw).at hA45 (em_sub (Ec.int 31 .u64) l9_1 (i := (x17_2).toNat) (by have h0 : (0 : Int) ≤ x17_2 := q42; have h1 : x17_2 < (l9_1.length : Int) := q43; omega))) ?_
          exact ls_fin s0 (.int .u64 ((l9_1).getD (x17_2).toNat (0 : Int))) (congrArg (fun z => upd z 101 _) hF.symm) ⟨rfl, rfl⟩ (sub_nil _)
        obtain ⟨s41_4, hs41_4⟩ : ∃ z : Value → Sto → Prop, z = (fun v R => v = .slice A11_1 l11_1.length c11_1 ∧ R = s0) := ⟨_, rfl⟩
        refine have_op (l := [_, _, _, _, _, _, _, _, _]) shadowboxref03_power.tab39 2 4 (fun sp => sp 4 = s41_4) (fun sp on hA hon => ?_) (fun ops41_4 => ?_)
        · refine ⟨fun o ho vs Rs f' S' w hp hf hx hS hR hs => ?_⟩
          obtain rfl := Option.some.inj ho
          rw [hA, hs41_4]
          refine And.intro (fun a ha => (want_none rfl a ha).trans hon.symm) (And.intro (fun _ => ?_) (fun h => by rw [hon] at h; cases h))
          have hF := fr_next (rfl) ((hx 11 (by kernel_rfl)).trans (by kernel_rfl : (_ : Value) = .slice A11_1 l11_1.length c11_1))
          refine ls_fr hF ?_
          refine ls_val (v := .slice A11_1 l11_1.length c11_1) rfl rfl (by kernel_rfl) (fun w => by kernel_rfl) ?_
          exact ls_fin s0 (.slice A11_1 l11_1.length c11_1) (congrArg (fun z => upd z 102 _) hF.symm) ⟨rfl, rfl⟩ (sub_nil _)
        obtain ⟨s41_5, hs41_5⟩ : ∃ z : Value → Sto → Prop, z = (fun v R => v = .int .i64 x17_2 ∧ R = s0) := ⟨_, rfl⟩
        refine have_op (l := [_, _, _, _, _, _, _, _, _]) shadowboxref03_power.tab39 2 5 (fun sp => sp 5 = s41_5) (fun sp on hA hon => ?_) (fun ops41_5 => ?_)
        · refine ⟨fun o ho vs Rs f' S' w hp hf hx hS hR hs => ?_⟩
          obtain rfl := Option.some.inj ho
          rw [hA, hs41_5]
          refine And.intro (fun a ha => (want_none rfl a ha).trans hon.symm) (And.intro (fun _ => ?_) (fun h => by rw [hon] at h; cases h))
          have hF := fr_next (rfl) ((hx 17 (by kernel_rfl)).trans (by kernel_rfl : (_ : Value) = .int .i64 x17_2))
          refine ls_fr hF ?_
          refine ls_val (v := .int .i64 x17_2) rfl rfl (by kernel_rfl) (fun w => by kernel_rfl) ?_
          exact ls_fin s0 (.int .i64 x17_2) (congrArg (fun z => upd z 103 _) hF.symm) ⟨rfl, rfl⟩ (sub_nil _)
        obtain ⟨q46, H⟩ := ite_need H
        obtain ⟨ad47, hA48⟩ := ido_at (T := (Ec.int 31 .u64)) (l := l11_1) (i := x17_2) R11_1 q42 q46
        obtain ⟨s41_6, hs41_6⟩ : ∃ z : Value → Sto → Prop, z = (fun v R => v = .pointer (some (ad47.add ((x17_2).toNat * 1))) ∧ R = s0) := ⟨_, rfl⟩
        refine have_op (l := [_, _, _, _, _, _, _, _, _]) shadowboxref03_power.tab39 2 6 (fun sp => sp 6 = s41_6 ∧ sp 4 = s41_4 ∧ sp 5 = s41_5) (fun sp on hA hon => ?_) (fun ops41_6 => ?_)
        · refine ⟨fun o ho vs Rs f' S' w hp hf hx hS hR hs => ?_⟩
          obtain rfl := Option.some.inj ho
          obtain ⟨hv4, hR4⟩ := (spe hA.2.1 hs41_4 (hp 4 (by kernel_rfl)))
          obtain ⟨hv5, hR5⟩ := (spe hA.2.2 hs41_5 (hp 5 (by kernel_rfl)))
          rw [hA.1, hs41_6]
          refine And.intro (fun a ha => (want_none rfl a ha).trans hon.symm) (And.intro (fun _ => ?_) (fun h => by rw [hon] at h; cases h))
          have hF := fr_next (fr_next (rfl) ((hf 4 102 (by kernel_rfl) rfl).trans hv4)) ((hf 5 103 (by kernel_rfl) rfl).trans hv5)
          refine ls_fr hF ?_
          refine ls_idxv (Ec.int 31 .u64) (A := A11_1) (c := c11_1) (l := l11_1) (k := .i64) (i := x17_2) (z := 1) (ad := ad47) rfl rfl (by kernel_rfl) hA48 rfl (by kernel_rfl) (by kernel_rfl) (by kernel_rfl) (by kernel_rfl) q42 q46 ?_
          exact ls_fin s0 (.pointer (some (ad47.add ((x17_2).toNat * 1)))) (congrArg (fun z => upd z 104 _) hF.symm) ⟨rfl, rfl⟩ (sub_nil _)
        obtain ⟨s41_7, hs41_7⟩ : ∃ z : Value → Sto → Prop, z = (fun v R => v = .int .u64 ((l11_1).getD (x17_2).toNat (0 : Int)) ∧ R = s0) := ⟨_, rfl⟩
        refine have_op (l := [_, _, _, _, _, _, _, _, _]) shadowboxref03_power.tab39 2 7 (fun sp => sp 7 = s41_7 ∧ sp 6 = s41_6) (fun sp on hA hon => ?_) (fun ops41_7 => ?_)
        · refine ⟨fun o ho vs Rs f' S' w hp hf hx hS hR hs => ?_⟩
          obtain rfl := Option.some.inj ho
          obtain ⟨hv6, hR6⟩ := (spe hA.2 hs41_6 (hp 6 (by kernel_rfl)))
          rw [hA.1, hs41_7]
          refine And.intro (fun a ha => (want_none rfl a ha).trans hon.symm) (And.intro (fun _ => ?_) (fun h => by rw [hon] at h; cases h))
          have hF := fr_next (rfl) ((hf 6 104 (by kernel_rfl) rfl).trans hv6)
          refine ls_fr hF ?_
          refine ls_load (a0 := (ad47.add ((x17_2).toNat * 1))) (v := .int .u64 ((l11_1).getD (x17_2).toNat (0 : Int))) (de := (TypeDesc.int .u64)) rfl rfl (by kernel_rfl) rfl (by kernel_rfl) (by kernel_rfl) (by kernel_rfl) (fun w1 hs1 => (Rd.step (hs.old R11_1) hs1.below.bw).at hA48 (em_sub (Ec.int 31 .u64) l11_1 (i := (x17_2).toNat) (by have h0 : (0 : Int) ≤ x17_2 := q42; have h1 : x17_2 < (l11_1.length : Int) := q46; omega))) ?_
          exact ls_fin s0 (.int .u64 ((l11_1).getD (x17_2).toNat (0 : Int))) (congrArg (fun z => upd z 105 _) hF.symm) ⟨rfl, rfl⟩ (sub_nil _)
        refine cs_draw shadowboxref03_power.tab39 8 2 (spl [s41_0, s41_1, s41_2, s41_3, s41_4, s41_5, s41_6, s41_7]) (onl [true, true, true, true, true, true, true, true]) (by kernel_rfl) (by kernel_rfl) (by kernel_rfl) (by kernel_rfl) (rs := [_]) rfl (by kernel_rfl) (by kernel_rfl) (all_snoc (all_snoc (all_snoc (all_snoc (all_snoc (all_snoc (all_snoc (all_snoc (all_nil) (ops41_0 _ _ rfl rfl)) (ops41_1 _ _ rfl rfl)) (ops41_2 _ _ ⟨rfl, rfl, rfl⟩ rfl)) (ops41_3 _ _ ⟨rfl, rfl⟩ rfl)) (ops41_4 _ _ rfl rfl)) (ops41_5 _ _ rfl rfl)) (ops41_6 _ _ ⟨rfl, rfl, rfl⟩ rfl)) (ops41_7 _ _ ⟨rfl, rfl⟩ rfl)) ?_
        intro vs Rs f' S' hp hf hx hS hR
        obtain ⟨hv3, hR3⟩ := (spe rfl hs41_3 (hp 3 (by kernel_rfl)))
        obtain ⟨hv7, hR7⟩ := (spe rfl hs41_7 (hp 7 (by kernel_rfl)))
        refine ls_fr (F := upd (upd (upd (upd (upd f' 9 (.slice A9_1 l9_1.length c9_1)) 11 (.slice A11_1 l11_1.length c11_1)) 17 (.int .i64 x17_2)) 101 (.int .u64 ((l9_1).getD (x17_2).toNat (0 : Int)))) 105 (.int .u64 ((l11_1).getD (x17_2).toNat (0 : Int)))) (fr_next (fr_next (fr_next (fr_next (fr_next (rfl) ((hx 9 (by kernel_rfl)).trans (by kernel_rfl : (_ : Value) = .slice A9_1 l9_1.length c9_1))) ((hx 11 (by kernel_rfl)).trans (by kernel_rfl : (_ : Value) = .slice A11_1 l11_1.length c11_1))) ((hx 17 (by kernel_rfl)).trans (by kernel_rfl : (_ : Value) = .int .i64 x17_2))) ((hf 3 101 (by kernel_rfl) rfl).trans hv3)) ((hf 7 105 (by kernel_rfl) rfl).trans hv7)) ?_
        refine ls_sub (s0) (sub_nil _) ?_
        refine ls_val (v := .bool (!decide (((l9_1).getD (x17_2).toNat (0 : Int)) = ((l11_1).getD (x17_2).toNat (0 : Int))))) rfl rfl (by kernel_rfl) (fun w => by kernel_rfl) ?_
        refine ls_end ?_
        refine qn_then ?_
        by_cases q49 : ((l9_1).getD (x17_2).toNat (0 : Int)) = ((l11_1).getD (x17_2).toNat (0 : Int))
        · replace H := ite_t q49 H
          refine cs_know (c := false) (congrArg Bool.not (dec_t q49)) 106 (by kernel_rfl) ?_
          refine cs_false (by kernel_rfl) ?_
          refine cs_skip' ?_
          refine qn_block ?_
          refine qn_then ?_
          refine cs_region (l := [_, _, _]) ?_
          refine ls_val (v := .int .i64 x17_2) rfl rfl (by kernel_rfl) (fun w => by kernel_rfl) ?_
          refine ls_val (v := .int .i64 (IntKind.wrap .i64 (x17_2 - (1 : Int)))) rfl rfl (by kernel_rfl) (fun w => by kernel_rfl) ?_
          refine ls_val (v := .int .i64 (IntKind.wrap .i64 (x17_2 - (1 : Int)))) rfl rfl (by kernel_rfl) (fun w => by kernel_rfl) ?_
          refine ls_end ?_
          refine qn_again k2 (s0) (Nat.le_refl _) ⟨_, (IntKind.wrap .i64 (x17_2 - (1 : Int))), fr_next (fr_next (fr_next (rfl) (by kernel_rfl)) (by kernel_rfl)) (by kernel_rfl), rfl, H⟩ (sub_nil _)
        · replace H := ite_f q49 H
          refine cs_know (c := true) (congrArg Bool.not (dec_f q49)) 106 (by kernel_rfl) ?_
          refine cs_true (by kernel_rfl) ?_
          refine cs_seq ?_
          obtain ⟨s51_0, hs51_0⟩ : ∃ z : Value → Sto → Prop, z = (fun v R => v = .slice A9_1 l9_1.length c9_1 ∧ R = s0) := ⟨_, rfl⟩
          refine have_op (l := [_, _, _, _, _, _, _, _, _, _]) shadowboxref03_power.tab49 66 0 (fun sp => sp 0 = s51_0) (fun sp on hA hon => ?_) (fun ops51_0 => ?_)
          · refine ⟨fun o ho vs Rs f' S' w hp hf hx hS hR hs => ?_⟩
            obtain rfl := Option.some.inj ho
            rw [hA, hs51_0]
            refine And.intro (fun a ha => (want_none rfl a ha).trans hon.symm) (And.intro (fun _ => ?_) (fun h => by rw [hon] at h; cases h))
            have hF := fr_next (rfl) ((hx 9 (by kernel_rfl)).trans (by kernel_rfl : (_ : Value) = .slice A9_1 l9_1.length c9_1))
            refine ls_fr hF ?_
            refine ls_val (v := .slice A9_1 l9_1.length c9_1) rfl rfl (by kernel_rfl) (fun w => by kernel_rfl) ?_
            exact ls_fin s0 (.slice A9_1 l9_1.length c9_1) (congrArg (fun z => upd z 107 _) hF.symm) ⟨rfl, rfl⟩ (sub_nil _)
          obtain ⟨s51_1, hs51_1⟩ : ∃ z : Value → Sto → Prop, z = (fun v R => v = .int .i64 x17_2 ∧ R = s0) := ⟨_, rfl⟩
          refine have_op (l := [_, _, _, _, _, _, _, _, _, _]) shadowboxref03_power.tab49 66 1 (fun sp => sp 1 = s51_1) (fun sp on hA hon => ?_) (fun ops51_1 => ?_)
          · refine ⟨fun o ho vs Rs f' S' w hp hf hx hS hR hs => ?_⟩
            obtain rfl := Option.some.inj ho
            rw [hA, hs51_1]
            refine And.intro (fun a ha => (want_none rfl a ha).trans hon.symm) (And.intro (fun _ => ?_) (fun h => by rw [hon] at h; cases h))
            have hF := fr_next (rfl) ((hx 17 (by kernel_rfl)).trans (by kernel_rfl : (_ : Value) = .int .i64 x17_2))
            refine ls_fr hF ?_
            refine ls_val (v := .int .i64 x17_2) rfl rfl (by kernel_rfl) (fun w => by kernel_rfl) ?_
            exact ls_fin s0 (.int .i64 x17_2) (congrArg (fun z => upd z 108 _) hF.symm) ⟨rfl, rfl⟩ (sub_nil _)
          obtain ⟨ad52, hA53⟩ := ido_at (T := (Ec.int 31 .u64)) (l := l9_1) (i := x17_2) R9_1 q42 q43
          obtain ⟨s51_2, hs51_2⟩ : ∃ z : Value → Sto → Prop, z = (fun v R => v = .pointer (some (ad52.add ((x17_2).toNat * 1))) ∧ R = s0) := ⟨_, rfl⟩
          refine have_op (l := [_, _, _, _, _, _, _, _, _, _]) shadowboxref03_power.tab49 66 2 (fun sp => sp 2 = s51_2 ∧ sp 0 = s51_0 ∧ sp 1 = s51_1) (fun sp on hA hon => ?_) (fun ops51_2 => ?_)
          · refine ⟨fun o ho vs Rs f' S' w hp hf hx hS hR hs => ?_⟩
            obtain rfl := Option.some.inj ho
            obtain ⟨hv0, hR0⟩ := (spe hA.2.1 hs51_0 (hp 0 (by kernel_rfl)))
            obtain ⟨hv1, hR1⟩ := (spe hA.2.2 hs51_1 (hp 1 (by kernel_rfl)))
            rw [hA.1, hs51_2]
            refine And.intro (fun a ha => (want_none rfl a ha).trans hon.symm) (And.intro (fun _ => ?_) (fun h => by rw [hon] at h; cases h))
            have hF := fr_next (fr_next (rfl) ((hf 0 107 (by kernel_rfl) rfl).trans hv0)) ((hf 1 108 (by kernel_rfl) rfl).trans hv1)
            refine ls_fr hF ?_
            refine ls_idxv (Ec.int 31 .u64) (A := A9_1) (c := c9_1) (l := l9_1) (k := .i64) (i := x17_2) (z := 1) (ad := ad52) rfl rfl (by kernel_rfl) hA53 rfl (by kernel_rfl) (by kernel_rfl) (by kernel_rfl) (by kernel_rfl) q42 q43 ?_
            exact ls_fin s0 (.pointer (some (ad52.add ((x17_2).toNat * 1)))) (congrArg (fun z => upd z 109 _) hF.symm) ⟨rfl, rfl⟩ (sub_nil _)
          obtain ⟨s51_3, hs51_3⟩ : ∃ z : Value → Sto → Prop, z = (fun v R => v = .int .u64 ((l9_1).getD (x17_2).toNat (0 : Int)) ∧ R = s0) := ⟨_, rfl⟩
          refine have_op (l := [_, _, _, _, _, _, _, _, _, _]) shadowboxref03_power.tab49 66 3 (fun sp => sp 3 = s51_3 ∧ sp 2 = s51_2) (fun sp on hA hon => ?_) (fun ops51_3 => ?_)
          · refine ⟨fun o ho vs Rs f' S' w hp hf hx hS hR hs => ?_⟩
            obtain rfl := Option.some.inj ho
            obtain ⟨hv2, hR2⟩ := (spe hA.2 hs51_2 (hp 2 (by kernel_rfl)))
            rw [hA.1, hs51_3]
            refine And.intro (fun a ha => (want_none rfl a ha).trans hon.symm) (And.intro (fun _ => ?_) (fun h => by rw [hon] at h; cases h))
            have hF := fr_next (rfl) ((hf 2 109 (by kernel_rfl) rfl).trans hv2)
            refine ls_fr hF ?_
            refine ls_load (a0 := (ad52.add ((x17_2).toNat * 1))) (v := .int .u64 ((l9_1).getD (x17_2).toNat (0 : Int))) (de := (TypeDesc.int .u64)) rfl rfl (by kernel_rfl) rfl (by kernel_rfl) (by kernel_rfl) (by kernel_rfl) (fun w1 hs1 => (Rd.step (hs.old R9_1) hs1.below.bw).at hA53 (em_sub (Ec.int 31 .u64) l9_1 (i := (x17_2).toNat) (by have h0 : (0 : Int) ≤ x17_2 := q42; have h1 : x17_2 < (l9_1.length : Int) := q43; omega))) ?_
            exact ls_fin s0 (.int .u64 ((l9_1).getD (x17_2).toNat (0 : Int))) (congrArg (fun z => upd z 110 _) hF.symm) ⟨rfl, rfl⟩ (sub_nil _)
          obtain ⟨s51_4, hs51_4⟩ : ∃ z : Value → Sto → Prop, z = (fun v R => v = .slice A11_1 l11_1.length c11_1 ∧ R = s0) := ⟨_, rfl⟩
          refine have_op (l := [_, _, _, _, _, _, _, _, _, _]) shadowboxref03_power.tab49 66 4 (fun sp => sp 4 = s51_4) (fun sp on hA hon => ?_) (fun ops51_4 => ?_)
          · refine ⟨fun o ho vs Rs f' S' w hp hf hx hS hR hs => ?_⟩
            obtain rfl := Option.some.inj ho
            rw [hA, hs51_4]
            refine And.intro (fun a ha => (want_none rfl a ha).trans hon.symm) (And.intro (fun _ => ?_) (fun h => by rw [hon] at h; cases h))
            have hF := fr_next (rfl) ((hx 11 (by kernel_rfl)).trans (by kernel_rfl : (_ : Value) = .slice A11_1 l11_1.length c11_1))
            refine ls_fr hF ?_
            refine ls_val (v := .slice A11_1 l11_1.length c11_1) rfl rfl (by kernel_rfl) (fun w => by kernel_rfl) ?_
            exact ls_fin s0 (.slice A11_1 l11_1.length c11_1) (congrArg (fun z => upd z 111 _) hF.symm) ⟨rfl, rfl⟩ (sub_nil _)
          obtain ⟨s51_5, hs51_5⟩ : ∃ z : Value → Sto → Prop, z = (fun v R => v = .int .i64 x17_2 ∧ R = s0) := ⟨_, rfl⟩
          refine have_op (l := [_, _, _, _, _, _, _, _, _, _]) shadowboxref03_power.tab49 66 5 (fun sp => sp 5 = s51_5) (fun sp on hA hon => ?_) (fun ops51_5 => ?_)
          · refine ⟨fun o ho vs Rs f' S' w hp hf hx hS hR hs => ?_⟩
            obtain rfl := Option.some.inj ho
            rw [hA, hs51_5]
            refine And.intro (fun a ha => (want_none rfl a ha).trans hon.symm) (And.intro (fun _ => ?_) (fun h => by rw [hon] at h; cases h))
            have hF := fr_next (rfl) ((hx 17 (by kernel_rfl)).trans (by kernel_rfl : (_ : Value) = .int .i64 x17_2))
            refine ls_fr hF ?_
            refine ls_val (v := .int .i64 x17_2) rfl rfl (by kernel_rfl) (fun w => by kernel_rfl) ?_
            exact ls_fin s0 (.int .i64 x17_2) (congrArg (fun z => upd z 112 _) hF.symm) ⟨rfl, rfl⟩ (sub_nil _)
          obtain ⟨ad54, hA55⟩ := ido_at (T := (Ec.int 31 .u64)) (l := l11_1) (i := x17_2) R11_1 q42 q46
          obtain ⟨s51_6, hs51_6⟩ : ∃ z : Value → Sto → Prop, z = (fun v R => v = .pointer (some (ad54.add ((x17_2).toNat * 1))) ∧ R = s0) := ⟨_, rfl⟩
          refine have_op (l := [_, _, _, _, _, _, _, _, _, _]) shadowboxref03_power.tab49 66 6 (fun sp => sp 6 = s51_6 ∧ sp 4 = s51_4 ∧ sp 5 = s51_5) (fun sp on hA hon => ?_) (fun ops51_6 => ?_)
          · refine ⟨fun o ho vs Rs f' S' w hp hf hx hS hR hs => ?_⟩
            obtain rfl := Option.some.inj ho
            obtain ⟨hv4, hR4⟩ := (spe hA.2.1 hs51_4 (hp 4 (by kernel_rfl)))
            obtain ⟨hv5, hR5⟩ := (spe hA.2.2 hs51_5 (hp 5 (by kernel_rfl)))
            rw [hA.1, hs51_6]
            refine And.intro (fun a ha => (want_none rfl a ha).trans hon.symm) (And.intro (fun _ => ?_) (fun h => by rw [hon] at h; cases h))
            have hF := fr_next (fr_next (rfl) ((hf 4 111 (by kernel_rfl) rfl).trans hv4)) ((hf 5 112 (by kernel_rfl) rfl).trans hv5)
            refine ls_fr hF ?_
            refine ls_idxv (Ec.int 31 .u64) (A := A11_1) (c := c11_1) (l := l11_1) (k := .i64) (i := x17_2) (z := 1) (ad := ad54) rfl rfl (by kernel_rfl) hA55 rfl (by kernel_rfl) (by kernel_rfl) (by kernel_rfl) (by kernel_rfl) q42 q46 ?_
            exact ls_fin s0 (.pointer (some (ad54.add ((x17_2).toNat * 1)))) (congrArg (fun z => upd z 113 _) hF.symm) ⟨rfl, rfl⟩ (sub_nil _)
          obtain ⟨s51_7, hs51_7⟩ : ∃ z : Value → Sto → Prop, z = (fun v R => v = .int .u64 ((l11_1).getD (x17_2).toNat (0 : Int)) ∧ R = s0) := ⟨_, rfl⟩
          refine have_op (l := [_, _, _, _, _, _, _, _, _, _]) shadowboxref03_power.tab49 66 7 (fun sp => sp 7 = s51_7 ∧ sp 6 = s51_6) (fun sp on hA hon => ?_) (fun ops51_7 => ?_)
          · refine ⟨fun o ho vs Rs f' S' w hp hf hx hS hR hs => ?_⟩
            obtain rfl := Option.some.inj ho
            obtain ⟨hv6, hR6⟩ := (spe hA.2 hs51_6 (hp 6 (by kernel_rfl)))
            rw [hA.1, hs51_7]
            refine And.intro (fun a ha => (want_none rfl a ha).trans hon.symm) (And.intro (fun _ => ?_) (fun h => by rw [hon] at h; cases h))
            have hF := fr_next (rfl) ((hf 6 113 (by kernel_rfl) rfl).trans hv6)
            refine ls_fr hF ?_
            refine ls_load (a0 := (ad54.add ((x17_2).toNat * 1))) (v := .int .u64 ((l11_1).getD (x17_2).toNat (0 : Int))) (de := (TypeDesc.int .u64)) rfl rfl (by kernel_rfl) rfl (by kernel_rfl) (by kernel_rfl) (by kernel_rfl) (fun w1 hs1 => (Rd.step (hs.old R11_1) hs1.below.bw).at hA55 (em_sub (Ec.int 31 .u64) l11_1 (i := (x17_2).toNat) (by have h0 : (0 : Int) ≤ x17_2 := q42; have h1 : x17_2 < (l11_1.length : Int) := q46; omega))) ?_
            exact ls_fin s0 (.int .u64 ((l11_1).getD (x17_2).toNat (0 : Int))) (congrArg (fun z => upd z 114 _) hF.symm) ⟨rfl, rfl⟩ (sub_nil _)
          refine cs_draw shadowboxref03_power.tab49 8 66 (spl [s51_0, s51_1, s51_2, s51_3, s51_4, s51_5, s51_6, s51_7]) (onl [true, true, true, true, true, true, true, true]) (by kernel_rfl) (by kernel_rfl) (by kernel_rfl) (by kernel_rfl) (rs := [_, _]) rfl (by kernel_rfl) (by kernel_rfl) (all_snoc (all_snoc (all_snoc (all_snoc (all_snoc (all_snoc (all_snoc (all_snoc (all_nil) (ops51_0 _ _ rfl rfl)) (ops51_1 _ _ rfl rfl)) (ops51_2 _ _ ⟨rfl, rfl, rfl⟩ rfl)) (ops51_3 _ _ ⟨rfl, rfl⟩ rfl)) (ops51_4 _ _ rfl rfl)) (ops51_5 _ _ rfl rfl)) (ops51_6 _ _ ⟨rfl, rfl, rfl⟩ rfl)) (ops51_7 _ _ ⟨rfl, rfl⟩ rfl)) ?_
          intro vs Rs f' S' hp hf hx hS hR
          obtain ⟨hv3, hR3⟩ := (spe rfl hs51_3 (hp 3 (by kernel_rfl)))
          obtain ⟨hv7, hR7⟩ := (spe rfl hs51_7 (hp 7 (by kernel_rfl)))
          refine ls_fr (F := upd (upd f' 110 (.int .u64 ((l9_1).getD (x17_2).toNat (0 : Int)))) 114 (.int .u64 ((l11_1).getD (x17_2).toNat (0 : Int)))) (fr_next (fr_next (rfl) ((hf 3 110 (by kernel_rfl) rfl).trans hv3)) ((hf 7 114 (by kernel_rfl) rfl).trans hv7)) ?_
          refine ls_sub (s0) (sub_nil _) ?_
          refine ls_val (v := .bool (decide (((l9_1).getD (x17_2).toNat (0 : Int)) < ((l11_1).getD (x17_2).toNat (0 : Int))))) rfl rfl (by kernel_rfl) (fun w => by kernel_rfl) ?_
          refine ls_val (v := .bool (decide (((l9_1).getD (x17_2).toNat (0 : Int)) < ((l11_1).getD (x17_2).toNat (0 : Int))))) rfl rfl (by kernel_rfl) (fun w => by kernel_rfl) ?_
          refine ls_end ?_
          refine qn_then ?_
          refine cs_ret' ?_
          refine qr_block ?_
          refine qr_then ?_
          refine qr_then ?_
          refine qr_block ?_
          refine qr_then ?_
          obtain rfl := Option.some.inj H
          refine qr_res (rs := [_]) rfl (fun w' hs => ⟨[.bool (decide (((l9_1).getD (x17_2).toNat (0 : Int)) < ((l11_1).getD (x17_2).toNat (0 : Int))))], (res_tmp (by kernel_rfl) (.nil)), (), rfl, St.later hs0.ok hleh1 (hs.pick (ts := []) (cs := []) trivial (by decide))⟩)
      · replace H := ite_f q39 H
        refine cs_know (c := false) (dec_f q39) 95 (by kernel_rfl) ?_
        refine cs_false (by kernel_rfl) ?_
        refine cs_exit' ?_
        refine qx_then ?_
        refine qx_then ?_
        refine qx_same ?_
        refine qn_then ?_
        refine cs_seq ?_
        refine cs_region (l := [_]) ?_
        refine ls_val (v := .bool true) rfl rfl (by kernel_rfl) (fun w => by kernel_rfl) ?_
        refine ls_end ?_
        refine qn_then ?_
        refine cs_ret' ?_
        obtain rfl := Option.some.inj H
        refine qr_res (rs := [_]) rfl (fun w' hs => ⟨[.bool true], (res_tmp (by kernel_rfl) (.nil)), (), rfl, St.later hs0.ok hleh1 (hs.pick (ts := []) (cs := []) trivial (by decide))⟩)

/-! ### shadowbox/shadowboxref03.root: function 28 -/
def shadowboxref03_root.lo1 (a0 : Int) (a1 : Bool) : Nat → Int → Int → Option (Int)
  | 0, _, _ => none
  | k1 + 1, x5_1, x6_1 => (if (IntKind.wrap .u64 (x6_1 - x5_1)) > (1 : Int) then lt (IntKind.wrap .u64 (Int.tdiv (IntKind.wrap .u64 (x6_1 - x5_1)) (2 : Int))) fun y2 => (shadowboxref03_power.f k1 (IntKind.wrap .u64 (x5_1 + y2)) a1 a0).bind fun t4 => (if t4 = true then (shadowboxref03_root.lo1 a0 a1 k1) (IntKind.wrap .u64 (x5_1 + y2)) x6_1 else (shadowboxref03_root.lo1 a0 a1 k1) x5_1 (IntKind.wrap .u64 (x5_1 + y2))) else lt (IntKind.wrap .u32 (Int.tmod x5_1 (4294967296 : Int))) fun y8 => some y8)
def shadowboxref03_root.f (k : Nat) (a0 : Int) (a1 : Bool) : Option (Int) :=
  shadowboxref03_root.lo1 a0 a1 k (0 : Int) (68719476736 : Int)
set_option maxRecDepth 100000 in
set_option maxHeartbeats 4000000 in
theorem shadowboxref03_root.calls (k : Nat) (a0 : Int) (a1 : Bool) (r : Int) (b : Bs) (hs0 : St b (stl []) b.w) (H : shadowboxref03_root.f k a0 a1 = some r) :
    Calls Try.prog 28 #[.int .u64 a0, .bool a1] b.w fun e w' => ∃ x : Unit, e = .returned (.int .u32 r) ∧ St b (stl []) w' := by
  unfold shadowboxref03_root.f at H
  refine enterb (n := 27) Try.func28 rfl (by kernel_rfl) (by kernel_rfl) hs0 ?_
  refine cs_sub (s0) (sub_nil _) ?_
  refine cs_seq ?_
  refine cs_region (l := [_]) ?_
  refine ls_val (v := .int .u32 (0 : Int)) rfl rfl (by kernel_rfl) (fun w => by kernel_rfl) ?_
  refine ls_end ?_
  refine qn_then ?_
  refine cs_seq ?_
  refine cs_region (l := [_]) ?_
  refine ls_val (v := .int .u64 (0 : Int)) rfl rfl (by kernel_rfl) (fun w => by kernel_rfl) ?_
  refine ls_end ?_
  refine qn_then ?_
  refine cs_seq ?_
  refine cs_region (l := [_]) ?_
  refine ls_val (v := .int .u64 (68719476736 : Int)) rfl rfl (by kernel_rfl) (fun w => by kernel_rfl) ?_
  refine ls_end ?_
  refine qn_then ?_
  refine cs_seq ?_
  refine cs_block ?_
  refine cs_sub (s0) (sub_nil _) ?_
  refine cs_loop (fun kk f S => ∃ (fR : Fr) (x5_1 : Int) (x6_1 : Int), f = upd (upd (upd (upd fR 0 (.int .u64 a0)) 1 (.bool a1)) 5 (.int .u64 x5_1)) 6 (.int .u64 x6_1) ∧ S = s0 ∧ shadowboxref03_root.lo1 a0 a1 kk x5_1 x6_1 = some r) k ?_ ?_ ?_
  · exact ⟨_, (0 : Int), (68719476736 : Int), fr_next (fr_next (fr_next (fr_next (rfl) (by kernel_rfl)) (by kernel_rfl)) (by kernel_rfl)) (by kernel_rfl), rfl, H⟩
  · rintro f S ⟨fr1, x5_1, x6_1, rfl, rfl, H⟩; cases H
  · rintro k1 f S ⟨fr1, x5_1, x6_1, rfl, rfl, H⟩
    replace H : ((if (IntKind.wrap .u64 (x6_1 - x5_1)) > (1 : Int) then lt (IntKind.wrap .u64 (Int.tdiv (IntKind.wrap .u64 (x6_1 - x5_1)) (2 : Int))) fun y2 => (shadowboxref03_power.f k1 (IntKind.wrap .u64 (x5_1 + y2)) a1 a0).bind fun t4 => (if t4 = true then (shadowboxref03_root.lo1 a0 a1 k1) (IntKind.wrap .u64 (x5_1 + y2)) x6_1 else (shadowboxref03_root.lo1 a0 a1 k1) x5_1 (IntKind.wrap .u64 (x5_1 + y2))) else lt (IntKind.wrap .u32 (Int.tmod x5_1 (4294967296 : Int))) fun y8 => some y8)) = some r := H
    refine cs_seq ?_
    refine cs_seq ?_
    refine cs_region (l := [_, _, _, _]) ?_
    refine ls_val (v := .int .u64 x6_1) rfl rfl (by kernel_rfl) (fun w => by kernel_rfl) ?_
    refine ls_val (v := .int .u64 x5_1) rfl rfl (by kernel_rfl) (fun w => by kernel_rfl) ?_
    refine ls_val (v := .int .u64 (IntKind.wrap .u64 (x6_1 - x5_1))) rfl rfl (by kernel_rfl) (fun w => by kernel_rfl) ?_
    refine ls_val (v := .bool (decide ((IntKind.wrap .u64 (x6_1 - x5_1)) > (1 : Int)))) rfl rfl (by kernel_rfl) (fun w => by kernel_rfl) ?_
    refine ls_end ?_
    refine qn_then ?_
    by_cases q1 : (IntKind.wrap .u64 (x6_1 - x5_1)) > (1 : Int)
    · replace H := ite_t q1 H
      refine cs_know (c := true) (dec_t q1) 11 (by kernel_rfl) ?_
      refine cs_true (by kernel_rfl) ?_
      refine cs_skip' ?_
      refine qn_then ?_
      refine cs_block ?_
      refine cs_seq ?_
      refine cs_region (l := [_, _, _, _, _, _, _]) ?_
      refine ls_val (v := .int .u64 x5_1) rfl rfl (by kernel_rfl) (fun w => by kernel_rfl) ?_
      refine ls_val (v := .int .u64 x6_1) rfl rfl (by kernel_rfl) (fun w => by kernel_rfl) ?_
      refine ls_val (v := .int .u64 x5_1) rfl rfl (by kernel_rfl) (fun w => by kernel_rfl) ?_
      refine ls_val (v := .int .u64 (IntKind.wrap .u64 (x6_1 - x5_1))) rfl rfl (by kernel_rfl) (fun w => by kernel_rfl) ?_
      obtain ⟨y2, hy3, H⟩ := lt_some H
      refine ls_val (v := .int .u64 (IntKind.wrap .u64 (Int.tdiv (IntKind.wrap .u64 (x6_1 - x5_1)) (2 : Int)))) rfl rfl (by kernel_rfl) (fun w => by kernel_rfl) ?_
      refine ls_ren 16 (v := .int .u64 (IntKind.wrap .u64 (Int.tdiv (IntKind.wrap .u64 (x6_1 - x5_1)) (2 : Int)))) (v' := .int .u64 y2) (by kernel_rfl) (by rw [hy3]) ?_
      refine ls_val (v := .int .u64 (IntKind.wrap .u64 (x5_1 + y2))) rfl rfl (by kernel_rfl) (fun w => by kernel_rfl) ?_
      refine ls_val (v := .int .u64 (IntKind.wrap .u64 (x5_1 + y2))) rfl rfl (by kernel_rfl) (fun w => by kernel_rfl) ?_
      refine ls_end ?_
      refine qn_then ?_
      refine cs_seq ?_
      refine cs_region (l := [_, _, _, _]) ?_
      refine ls_val (v := .int .u64 (IntKind.wrap .u64 (x5_1 + y2))) rfl rfl (by kernel_rfl) (fun w => by kernel_rfl) ?_
      refine ls_val (v := .bool a1) rfl rfl (by kernel_rfl) (fun w => by kernel_rfl) ?_
      refine ls_val (v := .int .u64 a0) rfl rfl (by kernel_rfl) (fun w => by kernel_rfl) ?_
      obtain ⟨t4, hc5, H⟩ := bind_some H
      refine ls_callb (fid := 33) (vals := #[.int .u64 (IntKind.wrap .u64 (x5_1 + y2)), .bool a1, .int .u64 a0]) (X := Unit) (fun x => .bool t4) (fun x => stl []) [] [] [] [] 0 rfl rfl (by kernel_rfl) (fun w => by kernel_rfl) trivial trivial (by decide) (fun w hs hb => shadowboxref03_power.calls k1 (IntKind.wrap .u64 (x5_1 + y2)) a1 a0 t4 (lent b w [] []) hb  hc5) ?_
      intro x6
      refine ls_end ?_
      refine qn_then ?_
      by_cases q7 : t4 = true
      · replace H := ite_t q7 H
        refine cs_know (c := true) (q7) 21 (by kernel_rfl) ?_
        refine cs_true (by kernel_rfl) ?_
        refine cs_region (l := [_, _]) ?_
        refine ls_val (v := .int .u64 (IntKind.wrap .u64 (x5_1 + y2))) rfl rfl (by kernel_rfl) (fun w => by kernel_rfl) ?_
        refine ls_val (v := .int .u64 (IntKind.wrap .u64 (x5_1 + y2))) rfl rfl (by kernel_rfl) (fun w => by kernel_rfl) ?_
        refine ls_end ?_
        refine qn_block ?_
        refine qn_again k1 (s0) (Nat.le_refl _) ⟨_, (IntKind.wrap .u64 (x5_1 + y2)), x6_1, fr_next (fr_next (fr_next (fr_next (rfl) (by kernel_rfl)) (by kernel_rfl)) (by kernel_rfl)) (by kernel_rfl), rfl, H⟩ (sub_nil _)
      · replace H := ite_f q7 H
        refine cs_know (c := false) (Bool.eq_false_iff.mpr q7) 21 (by kernel_rfl) ?_
        refine cs_false (by kernel_rfl) ?_
        refine cs_region (l := [_, _]) ?_
        refine ls_val (v := .int .u64 (IntKind.wrap .u64 (x5_1 + y2))) rfl rfl (by kernel_rfl) (fun w => by kernel_rfl) ?_
        refine ls_val (v := .int .u64 (IntKind.wrap .u64 (x5_1 + y2))) rfl rfl (by kernel_rfl) (fun w => by kernel_rfl) ?_
        refine ls_end ?_
        refine qn_block ?_
        refine qn_again k1 (s0) (Nat.le_refl _) ⟨_, x5_1, (IntKind.wrap .u64 (x5_1 + y2)), fr_next (fr_next (fr_next (fr_next (rfl) (by kernel_rfl)) (by kernel_rfl)) (by kernel_rfl)) (by kernel_rfl), rfl, H⟩ (sub_nil _)
    · replace H := ite_f q1 H
      refine cs_know (c := false) (dec_f q1) 11 (by kernel_rfl) ?_
      refine cs_false (by kernel_rfl) ?_
      refine cs_exit' ?_
      refine qx_then ?_
      refine qx_then ?_
      refine qx_same ?_
      refine qn_then ?_
      refine cs_seq ?_
      refine cs_region (l := [_, _, _, _]) ?_
      refine ls_val (v := .int .u64 x5_1) rfl rfl (by kernel_rfl) (fun w => by kernel_rfl) ?_
      refine ls_val (v := .int .u64 (Int.tmod x5_1 (4294967296 : Int))) rfl rfl (by kernel_rfl) (fun w => by kernel_rfl) ?_
      obtain ⟨y8, hy9, H⟩ := lt_some H
      refine ls_val (v := .int .u32 (IntKind.wrap .u32 (Int.tmod x5_1 (4294967296 : Int)))) rfl rfl (by kernel_rfl) (fun w => by kernel_rfl) ?_
      refine ls_ren 26 (v := .int .u32 (IntKind.wrap .u32 (Int.tmod x5_1 (4294967296 : Int)))) (v' := .int .u32 y8) (by kernel_rfl) (by rw [hy9]) ?_
      refine ls_val (v := .int .u32 y8) rfl rfl (by kernel_rfl) (fun w => by kernel_rfl) ?_
      refine ls_end ?_
      refine qn_then ?_
      refine cs_ret' ?_
      obtain rfl := Option.some.inj H
      refine qr_res (rs := [_]) rfl (fun w' hs => ⟨[.int .u32 y8], (res_tmp (by kernel_rfl) (.nil)), (), rfl, hs.pick (ts := []) (cs := []) trivial (by decide)⟩)

/-! ### shadowbox/shadowboxref03.Keys: function 11 -/
def shadowboxref03_Keys.cst0 : Vc Int 64 := ⟨[(0 : Int), (0 : Int), (0 : Int), (0 : Int), (0 : Int), (0 : Int), (0 : Int), (0 : Int), (0 : Int), (0 : Int), (0 : Int), (0 : Int), (0 : Int), (0 : Int), (0 : Int), (0 : Int), (0 : Int), (0 : Int), (0 : Int), (0 : Int), (0 : Int), (0 : Int), (0 : Int), (0 : Int), (0 : Int), (0 : Int), (0 : Int), (0 : Int), (0 : Int), (0 : Int), (0 : Int), (0 : Int), (0 : Int), (0 : Int), (0 : Int), (0 : Int), (0 : Int), (0 : Int), (0 : Int), (0 : Int), (0 : Int), (0 : Int), (0 : Int), (0 : Int), (0 : Int), (0 : Int), (0 : Int), (0 : Int), (0 : Int), (0 : Int), (0 : Int), (0 : Int), (0 : Int), (0 : Int), (0 : Int), (0 : Int), (0 : Int), (0 : Int), (0 : Int), (0 : Int), (0 : Int), (0 : Int), (0 : Int), (0 : Int)], rfl⟩
def shadowboxref03_Keys.lo1 (t3 : (List Int)) : Nat → Int → ((Vc Int 64)) → Option ((Vc Int 64))
  | 0, _, _ => none
  | k1 + 1, x3_1, m1_1 => (if x3_1 < (64 : Int) then (if 0 ≤ x3_1 then (if x3_1 < (t3.length : Int) then (shadowboxref03_root.f k1 ((t3).getD (x3_1).toNat (0 : Int)) true).bind fun t11 => lt (vset m1_1 (x3_1).toNat t11) fun y14 => (shadowboxref03_Keys.lo1 t3 k1) (IntKind.wrap .i64 (x3_1 + (1 : Int))) y14 else none) else none) else some m1_1)
def shadowboxref03_Keys.f (k : Nat) : Option ((Vc Int 64)) :=
  (shadowboxref03_primes.f k (64 : Int)).bind fun t3 => shadowboxref03_Keys.lo1 t3 k (0 : Int) shadowboxref03_Keys.cst0
set_option maxRecDepth 100000 in
set_option maxHeartbeats 4000000 in
theorem shadowboxref03_Keys.calls (k : Nat)  (r : (Vc Int 64)) (b : Bs) (hs0 : St b (stl []) b.w) (H : shadowboxref03_Keys.f k = some r) :
    Calls Try.prog 11 #[] b.w fun e w' => ∃ x : Unit, e = .returned (.agg ⟨en (Value.int .u32) r.1⟩) ∧ St b (stl []) w' := by
  unfold shadowboxref03_Keys.f at H
  refine enterb (n := 18) Try.func11 rfl (by kernel_rfl) (by kernel_rfl) hs0 ?_
  refine cs_sub (s0) (sub_nil _) ?_
  refine cs_seq ?_
  refine cs_region (l := [_]) ?_
  refine ls_new rfl rfl (by kernel_rfl) 0 (fun g => .pointer (some ⟨g, 0, none⟩)) (.cells ⟨en (Value.int .u32) (vrep 64 (0 : Int)).1⟩ 35) (fun w => by kernel_rfl) ?_
  intro g1
  refine ls_end ?_
  refine qn_then ?_
  refine cs_seq ?_
  refine cs_region (l := [_, _, _]) ?_
  refine ls_val (v := .agg ⟨en (Value.int .u32) shadowboxref03_Keys.cst0.1⟩) rfl rfl (by kernel_rfl) (fun w => by kernel_rfl) ?_
  refine ls_new rfl rfl (by kernel_rfl) 1 (fun g => .pointer (some ⟨g, 0, none⟩)) (.cells ⟨en (Value.int .u32) (vrep 64 (0 : Int)).1⟩ 35) (fun w => by kernel_rfl) ?_
  intro g2
  refine ls_storec (g := g2) (off := 0) (v := .agg ⟨en (Value.int .u32) shadowboxref03_Keys.cst0.1⟩) (vs := en (Value.int .u32) shadowboxref03_Keys.cst0.1) (cs := en (Value.int .u32) (vrep 64 (0 : Int)).1) (ty := 35) 1 rfl rfl rfl (by kernel_rfl) (by kernel_rfl) (by kernel_rfl) (by exact rfl) (by kernel_rfl) (len_en _ shadowboxref03_Keys.cst0) (one_en (fun _ => rfl) _) (hl_of (Sub4.all _) (len_eq (len_en _ shadowboxref03_Keys.cst0) (len_en _ (vrep 64 (0 : Int))))) (cs' := en (Value.int .u32) shadowboxref03_Keys.cst0.1) (splc_all (len_eq (len_en _ shadowboxref03_Keys.cst0) (len_en _ (vrep 64 (0 : Int))))) ?_
  refine ls_end ?_
  refine qn_then ?_
  refine cs_seq ?_
  refine cs_region (l := [_, _]) ?_
  obtain ⟨t3, hc4, H⟩ := bind_some H
  refine ls_callb (fid := 27) (vals := #[.int .i64 (64 : Int)]) (X := (Option Addr × Nat)) (fun x => .slice x.1 t3.length x.2) (fun x => stl [Ck.sl (Ec.int 31 .u64) x.1 x.2 t3]) [] [] [] [] 2 rfl rfl (by kernel_rfl) (fun w => by kernel_rfl) trivial trivial (by decide) (fun w hs hb => shadowboxref03_primes.calls k (64 : Int) t3 (lent b w [] []) hb  hc4) ?_
  intro x5
  refine ls_val (v := .slice x5.1 t3.length x5.2) rfl rfl (by kernel_rfl) (fun w => by kernel_rfl) ?_
  refine ls_end ?_
  refine qn_then ?_
  refine cs_seq ?_
  refine cs_seq ?_
  refine cs_region (l := [_]) ?_
  refine ls_val (v := .int .i64 (0 : Int)) rfl rfl (by kernel_rfl) (fun w => by kernel_rfl) ?_
  refine ls_end ?_
  refine qn_then ?_
  refine cs_block ?_
  refine cs_sub (sput (sput (sput s0 0 (some (Ck.var 35 g1 (en (Value.int .u32) (vrep 64 (0 : Int)).1)))) 1 (some (Ck.var 35 g2 (en (Value.int .u32) shadowboxref03_Keys.cst0.1)))) 2 (some (Ck.sl (Ec.int 31 .u64) x5.1 x5.2 t3))) (sub_put (by exact rfl) (sub_put (by exact rfl) (sub_put (by exact rfl) (sub_nil _)))) ?_
  refine cs_loop (fun kk f S => ∃ (fR : Fr) (x3_1 : Int) (m1_1 : (Vc Int 64)), f = upd (upd (upd (upd fR 0 (.pointer (some ⟨g1, 0, none⟩))) 1 (.pointer (some ⟨g2, 0, none⟩))) 2 (.slice x5.1 t3.length x5.2)) 3 (.int .i64 x3_1) ∧ S = sput (sput (sput s0 0 (some (Ck.var 35 g1 (en (Value.int .u32) (vrep 64 (0 : Int)).1)))) 1 (some (Ck.var 35 g2 (en (Value.int .u32) m1_1.1)))) 2 (some (Ck.sl (Ec.int 31 .u64) x5.1 x5.2 t3)) ∧ shadowboxref03_Keys.lo1 t3 kk x3_1 m1_1 = some r) k ?_ ?_ ?_
  · exact ⟨_, (0 : Int), shadowboxref03_Keys.cst0, fr_next (fr_next (fr_next (fr_next (rfl) (by kernel_rfl)) (by kernel_rfl)) (by kernel_rfl)) (by kernel_rfl), rfl, H⟩
  · rintro f S ⟨fr1, x3_1, m1_1, rfl, rfl, H⟩; cases H
  · rintro k1 f S ⟨fr1, x3_1, m1_1, rfl, rfl, H⟩
    replace H : ((if x3_1 < (64 : Int) then (if 0 ≤ x3_1 then (if x3_1 < (t3.length : Int) then (shadowboxref03_root.f k1 ((t3).getD (x3_1).toNat (0 : Int)) true).bind fun t11 => lt (vset m1_1 (x3_1).toNat t11) fun y14 => (shadowboxref03_Keys.lo1 t3 k1) (IntKind.wrap .i64 (x3_1 + (1 : Int))) y14 else none) else none) else some m1_1)) = some r := H
    refine cs_seq ?_
    refine cs_seq ?_
    refine cs_region (l := [_, _]) ?_
    refine ls_val (v := .int .i64 x3_1) rfl rfl (by kernel_rfl) (fun w => by kernel_rfl) ?_
    refine ls_val (v := .bool (decide (x3_1 < (64 : Int)))) rfl rfl (by kernel_rfl) (fun w => by kernel_rfl) ?_
    refine ls_end ?_
    refine qn_then ?_
    by_cases q6 : x3_1 < (64 : Int)
    · replace H := ite_t q6 H
      refine cs_know (c := true) (dec_t q6) 7 (by kernel_rfl) ?_
      refine cs_true (by kernel_rfl) ?_
      refine cs_skip' ?_
      refine qn_then ?_
      refine cs_seq ?_
      refine cs_block ?_
      refine cs_region (l := [_, _, _, _, _, _, _, _]) ?_
      refine ls_val (v := .int .i64 x3_1) rfl rfl (by kernel_rfl) (fun w => by kernel_rfl) ?_
      refine ls_val (v := .slice x5.1 t3.length x5.2) rfl rfl (by kernel_rfl) (fun w => by kernel_rfl) ?_
      refine ls_val (v := .int .i64 x3_1) rfl rfl (by kernel_rfl) (fun w => by kernel_rfl) ?_
      obtain ⟨q7, H⟩ := ite_need H
      obtain ⟨q8, H⟩ := ite_need H
      refine ls_at (T := (Ec.int 31 .u64)) (tk := 2) (i := x3_1) (by exact rfl) q7 q8 ?_
      intro ad9 hA10
      refine ls_idxv (Ec.int 31 .u64) (A := x5.1) (c := x5.2) (l := t3) (k := .i64) (i := x3_1) (z := 1) (ad := ad9) rfl rfl (by kernel_rfl) hA10 rfl (by kernel_rfl) (by kernel_rfl) (by kernel_rfl) (by kernel_rfl) q7 q8 ?_
      refine ls_load (a0 := (ad9.add ((x3_1).toNat * 1))) (v := .int .u64 ((t3).getD (x3_1).toNat (0 : Int))) (de := (TypeDesc.int .u64)) rfl rfl (by kernel_rfl) rfl (by kernel_rfl) (by kernel_rfl) (by kernel_rfl) (fun w hs => (hs.rd (k := 2) (by exact rfl)).at hA10 (em_sub (Ec.int 31 .u64) t3 (i := (x3_1).toNat) (by have h0 : (0 : Int) ≤ x3_1 := q7; have h1 : x3_1 < (t3.length : Int) := q8; omega))) ?_
      obtain ⟨t11, hc12, H⟩ := bind_some H
      refine ls_callb (fid := 28) (vals := #[.int .u64 ((t3).getD (x3_1).toNat (0 : Int)), .bool true]) (X := Unit) (fun x => .int .u32 t11) (fun x => stl []) [] [] [] [] 3 rfl rfl (by kernel_rfl) (fun w => by kernel_rfl) trivial trivial (by decide) (fun w hs hb => shadowboxref03_root.calls k1 ((t3).getD (x3_1).toNat (0 : Int)) true t11 (lent b w [] []) hb  hc12) ?_
      intro x13
      refine ls_idxa1 (g := g2) (off := 0) (i := x3_1) (kk := .i64) (ln := 64) (e := 23) rfl rfl (by kernel_rfl) rfl (by kernel_rfl) (by kernel_rfl) (by kernel_rfl) (by kernel_rfl) q7 q6 ?_
      obtain ⟨y14, hy15, H⟩ := lt_some H
      refine ls_storec (g := g2) (off := (0 + (x3_1).toNat)) (v := .int .u32 t11) (vs := [Value.int .u32 t11]) (cs := en (Value.int .u32) m1_1.1) (ty := 35) 1 rfl rfl rfl (by kernel_rfl) (by kernel_rfl) (by kernel_rfl) (by exact rfl) (by kernel_rfl) (len1 _) (one_cons rfl one_nil) (hl_of (Sub4.trans (Sub4.all _) (Sub4.one (Value.int .u32) m1_1.1 0 (by have := m1_1.2; omega))) (len_eq (len1 _) (len1 _))) (cs' := en (Value.int .u32) y14.1) (splc_in (Sub4.all _) ((splc_one (Value.int .u32) m1_1.1 t11 (by have := m1_1.2; omega)).trans (congrArg (fun z : (Vc Int 64) => en (Value.int .u32) z.1) hy15)) (splc_all (len_eq (len_en _ y14) (len_en _ m1_1))) (hl_of (Sub4.one (Value.int .u32) m1_1.1 0 (by have := m1_1.2; omega)) (len_eq (len1 _) (len1 _)))) ?_
      refine ls_end ?_
      refine qn_block ?_
      refine qn_then ?_
      refine cs_region (l := [_, _, _]) ?_
      refine ls_val (v := .int .i64 x3_1) rfl rfl (by kernel_rfl) (fun w => by kernel_rfl) ?_
      refine ls_val (v := .int .i64 (IntKind.wrap .i64 (x3_1 + (1 : Int)))) rfl rfl (by kernel_rfl) (fun w => by kernel_rfl) ?_
      refine ls_val (v := .int .i64 (IntKind.wrap .i64 (x3_1 + (1 : Int)))) rfl rfl (by kernel_rfl) (fun w => by kernel_rfl) ?_
      refine ls_end ?_
      refine qn_again k1 (sput (sput (sput s0 0 (some (Ck.var 35 g1 (en (Value.int .u32) (vrep 64 (0 : Int)).1)))) 1 (some (Ck.var 35 g2 (en (Value.int .u32) y14.1)))) 2 (some (Ck.sl (Ec.int 31 .u64) x5.1 x5.2 t3))) (Nat.le_refl _) ⟨_, (IntKind.wrap .i64 (x3_1 + (1 : Int))), y14, fr_next (fr_next (fr_next (fr_next (rfl) (by kernel_rfl)) (by kernel_rfl)) (by kernel_rfl)) (by kernel_rfl), rfl, H⟩ (sub_put (by exact rfl) (sub_put (by exact rfl) (sub_put (by exact rfl) (sub_nil _))))
    · replace H := ite_f q6 H
      refine cs_know (c := false) (dec_f q6) 7 (by kernel_rfl) ?_
      refine cs_false (by kernel_rfl) ?_
      refine cs_exit' ?_
      refine qx_then ?_
      refine qx_then ?_
      refine qx_same ?_
      refine qn_then ?_
      refine cs_seq ?_
      refine cs_region (l := [_, _]) ?_
      refine ls_loadagg (a := ⟨g2, 0, none⟩) (sub := en (Value.int .u32) m1_1.1) rfl rfl (by kernel_rfl) rfl (by kernel_rfl) (by kernel_rfl) (by kernel_rfl) (len_en _ m1_1) (fun w hs => (hs.vars (k := 1) (by exact rfl) (Sub4.all _))) ?_
      refine ls_storec (g := g1) (off := 0) (v := .agg ⟨en (Value.int .u32) m1_1.1⟩) (vs := en (Value.int .u32) m1_1.1) (cs := en (Value.int .u32) (vrep 64 (0 : Int)).1) (ty := 35) 0 rfl rfl rfl (by kernel_rfl) (by kernel_rfl) (by kernel_rfl) (by exact rfl) (by kernel_rfl) (len_en _ m1_1) (one_en (fun _ => rfl) _) (hl_of (Sub4.all _) (len_eq (len_en _ m1_1) (len_en _ (vrep 64 (0 : Int))))) (cs' := en (Value.int .u32) m1_1.1) (splc_all (len_eq (len_en _ m1_1) (len_en _ (vrep 64 (0 : Int))))) ?_
      refine ls_end ?_
      refine qn_then ?_
      refine cs_ret' ?_
      obtain rfl := Option.some.inj H
      refine qr_res (rs := [_]) rfl (fun w' hs => ⟨[.agg ⟨en (Value.int .u32) m1_1.1⟩], (.cell (by kernel_rfl) (run_cellres (by kernel_rfl) (by kernel_rfl) (len_en _ m1_1) (hs.holds 0 _ (by exact rfl))) (.nil)), (), rfl, hs.pick (ts := []) (cs := []) trivial (by decide)⟩)

/-! ### math/bits.RotateLeft32: function 34 -/
def bits_RotateLeft32.f (k : Nat) (a0 : Int) (a1 : Int) : Option (Int) :=
  lt (bits .and .u64 (IntKind.wrap .u64 a1) (31 : Int)) fun y1 => (if 0 ≤ y1 then (if 0 ≤ IntKind.wrap .u64 ((32 : Int) - y1) then lt (shrv .u32 a0 (IntKind.wrap .u64 ((32 : Int) - y1))) fun y5 => some (bits .or .u32 (shlv .u32 a0 y1) y5) else none) else none)
set_option maxRecDepth 100000 in
set_option maxHeartbeats 4000000 in
theorem bits_RotateLeft32.calls (k : Nat) (a0 : Int) (a1 : Int) (r : Int) (b : Bs) (hs0 : St b (stl []) b.w) (H : bits_RotateLeft32.f k a0 a1 = some r) :
    Calls Try.prog 34 #[.int .u32 a0, .int .i64 a1] b.w fun e w' => ∃ x : Unit, e = .returned (.int .u32 r) ∧ St b (stl []) w' := by
  unfold bits_RotateLeft32.f at H
  refine enterb (n := 17) Try.func34 rfl (by kernel_rfl) (by kernel_rfl) hs0 ?_
  refine cs_sub (s0) (sub_nil _) ?_
  refine cs_seq ?_
  refine cs_region (l := [_]) ?_
  refine ls_val (v := .int .u32 (0 : Int)) rfl rfl (by kernel_rfl) (fun w => by kernel_rfl) ?_
  refine ls_end ?_
  refine qn_then ?_
  refine cs_seq ?_
  refine cs_region (l := [_, _, _, _]) ?_
  refine ls_val (v := .int .i64 a1) rfl rfl (by kernel_rfl) (fun w => by kernel_rfl) ?_
  refine ls_val (v := .int .u64 (IntKind.wrap .u64 a1)) rfl rfl (by kernel_rfl) (fun w => by kernel_rfl) ?_
  obtain ⟨y1, hy2, H⟩ := lt_some H
  refine ls_val (v := .int .u64 (bits .and .u64 (IntKind.wrap .u64 a1) (31 : Int))) rfl rfl (by kernel_rfl) (fun w => by kernel_rfl) ?_
  refine ls_ren 8 (v := .int .u64 (bits .and .u64 (IntKind.wrap .u64 a1) (31 : Int))) (v' := .int .u64 y1) (by kernel_rfl) (by rw [hy2]) ?_
  refine ls_val (v := .int .u64 y1) rfl rfl (by kernel_rfl) (fun w => by kernel_rfl) ?_
  refine ls_end ?_
  refine qn_then ?_
  refine cs_seq ?_
  refine cs_region (l := [_, _, _, _, _, _, _, _, _]) ?_
  refine ls_val (v := .int .u32 a0) rfl rfl (by kernel_rfl) (fun w => by kernel_rfl) ?_
  refine ls_val (v := .int .u64 y1) rfl rfl (by kernel_rfl) (fun w => by kernel_rfl) ?_
  obtain ⟨q3, H⟩ := ite_need H
  refine ls_shiftl (k := .u32) (yk := .u64) (x := a0) (y := y1) rfl rfl (by kernel_rfl) (fun w => by kernel_rfl) q3 ?_
  refine ls_val (v := .int .u32 a0) rfl rfl (by kernel_rfl) (fun w => by kernel_rfl) ?_
  refine ls_val (v := .int .u64 y1) rfl rfl (by kernel_rfl) (fun w => by kernel_rfl) ?_
  refine ls_val (v := .int .u64 (IntKind.wrap .u64 ((32 : Int) - y1))) rfl rfl (by kernel_rfl) (fun w => by kernel_rfl) ?_
  obtain ⟨q4, H⟩ := ite_need H
  obtain ⟨y5, hy6, H⟩ := lt_some H
  refine ls_shiftr (k := .u32) (yk := .u64) (x := a0) (y := (IntKind.wrap .u64 ((32 : Int) - y1))) rfl rfl (by kernel_rfl) (fun w => by kernel_rfl) q4 ?_
  refine ls_ren 15 (v := .int .u32 (shrv .u32 a0 (IntKind.wrap .u64 ((32 : Int) - y1)))) (v' := .int .u32 y5) (by kernel_rfl) (by rw [hy6]) ?_
  refine ls_val (v := .int .u32 (bits .or .u32 (shlv .u32 a0 y1) y5)) rfl rfl (by kernel_rfl) (fun w => by kernel_rfl) ?_
  refine ls_val (v := .int .u32 (bits .or .u32 (shlv .u32 a0 y1) y5)) rfl rfl (by kernel_rfl) (fun w => by kernel_rfl) ?_
  refine ls_end ?_
  refine qn_then ?_
  refine cs_ret' ?_
  obtain rfl := Option.some.inj H
  refine qr_res (rs := [_]) rfl (fun w' hs => ⟨[.int .u32 (bits .or .u32 (shlv .u32 a0 y1) y5)], (res_tmp (by kernel_rfl) (.nil)), (), rfl, hs.pick (ts := []) (cs := []) trivial (by decide)⟩)

/-! ### shadowbox/sha.down: function 31 -/
def sha_down.f (k : Nat) (a0 : Int) (a1 : Int) : Option (Int) :=
  (bits_RotateLeft32.f k a0 (IntKind.wrap .i64 (0 - a1))).bind fun t1 => some t1
set_option maxRecDepth 100000 in
set_option maxHeartbeats 4000000 in
theorem sha_down.calls (k : Nat) (a0 : Int) (a1 : Int) (r : Int) (b : Bs) (hs0 : St b (stl []) b.w) (H : sha_down.f k a0 a1 = some r) :
    Calls Try.prog 31 #[.int .u32 a0, .int .i64 a1] b.w fun e w' => ∃ x : Unit, e = .returned (.int .u32 r) ∧ St b (stl []) w' := by
  unfold sha_down.f at H
  refine enterb (n := 9) Try.func31 rfl (by kernel_rfl) (by kernel_rfl) hs0 ?_
  refine cs_sub (s0) (sub_nil _) ?_
  refine cs_seq ?_
  refine cs_region (l := [_]) ?_
  refine ls_val (v := .int .u32 (0 : Int)) rfl rfl (by kernel_rfl) (fun w => by kernel_rfl) ?_
  refine ls_end ?_
  refine qn_then ?_
  refine cs_seq ?_
  refine cs_region (l := [_, _, _, _, _]) ?_
  refine ls_val (v := .int .u32 a0) rfl rfl (by kernel_rfl) (fun w => by kernel_rfl) ?_
  refine ls_val (v := .int .i64 a1) rfl rfl (by kernel_rfl) (fun w => by kernel_rfl) ?_
  refine ls_val (v := .int .i64 (IntKind.wrap .i64 (0 - a1))) rfl rfl (by kernel_rfl) (fun w => by kernel_rfl) ?_
  obtain ⟨t1, hc2, H⟩ := bind_some H
  refine ls_callb (fid := 34) (vals := #[.int .u32 a0, .int .i64 (IntKind.wrap .i64 (0 - a1))]) (X := Unit) (fun x => .int .u32 t1) (fun x => stl []) [] [] [] [] 0 rfl rfl (by kernel_rfl) (fun w => by kernel_rfl) trivial trivial (by decide) (fun w hs hb => bits_RotateLeft32.calls k a0 (IntKind.wrap .i64 (0 - a1)) t1 (lent b w [] []) hb  hc2) ?_
  intro x3
  refine ls_val (v := .int .u32 t1) rfl rfl (by kernel_rfl) (fun w => by kernel_rfl) ?_
  refine ls_end ?_
  refine qn_then ?_
  refine cs_ret' ?_
  obtain rfl := Option.some.inj H
  refine qr_res (rs := [_]) rfl (fun w' hs => ⟨[.int .u32 t1], (res_tmp (by kernel_rfl) (.nil)), (), rfl, hs.pick (ts := []) (cs := []) trivial (by decide)⟩)

/-! ### shadowbox/sha.spread: function 29 -/
def sha_spread.tab3 : List (List Nat) := [[], [0], [0, 1], [0, 1, 2], [], [4], [4, 5], [4, 5, 6], [0, 1, 2, 3], [0, 1, 2, 3, 4, 5, 6, 7, 8]]
def sha_spread.tab13 : List (List Nat) := [[], [], [1], [], [1, 2, 3], [1, 2, 3, 4], [], [6], [1, 2, 3, 4, 5, 6, 7], [], [9], [9, 10], [9, 10, 11], [1, 2, 3, 4, 5, 6, 7, 8, 9, 10, 11, 12], [], [1, 2, 3, 4, 14], [], [1, 2, 3, 4, 14, 15, 16], [1, 2, 3, 4, 14, 15, 16, 17], [], [19], [1, 2, 3, 4, 14, 15, 16, 17, 18, 19, 20], [1, 2, 3, 4, 5, 6, 7, 8, 9, 10, 11, 12, 13, 14, 15, 16, 17, 18, 19, 20, 21], [], [23], [23, 24], [23, 24, 25], [1, 2, 3, 4, 5, 6, 7, 8, 9, 10, 11, 12, 13, 14, 15, 16, 17, 18, 19, 20, 21, 22, 23, 24, 25, 26], [0, 1, 2, 3, 4, 5, 6, 7, 8, 9, 10, 11, 12, 13, 14, 15, 16, 17, 18, 19, 20, 21, 22, 23, 24, 25, 26, 27], [0, 1, 2, 3, 4, 5, 6, 7, 8, 9, 10, 11, 12, 13, 14, 15, 16, 17, 18, 19, 20, 21, 22, 23, 24, 25, 26, 27, 28]]
def sha_spread.jo3 (x6_2 : Int) (m2_2 : (Vc Int 64)) (k2 : Nat) (lo2 : Int → ((Vc Int 64)) → Option ((Vc Int 64))) : Option ((Vc Int 64)) := (if 0 ≤ IntKind.wrap .i64 (x6_2 - (2 : Int)) then (if IntKind.wrap .i64 (x6_2 - (2 : Int)) < (64 : Int) then lt ((m2_2.1.getD (IntKind.wrap .i64 (x6_2 - (2 : Int))).toNat (0 : Int))) fun y8 => (if 0 ≤ IntKind.wrap .i64 (x6_2 - (15 : Int)) then (if IntKind.wrap .i64 (x6_2 - (15 : Int)) < (64 : Int) then lt ((m2_2.1.getD (IntKind.wrap .i64 (x6_2 - (15 : Int))).toNat (0 : Int))) fun y12 => (sha_down.f k2 y8 (17 : Int)).bind fun t16 => (sha_down.f k2 y8 (19 : Int)).bind fun t19 => lt (bits .xor .u32 (bits .xor .u32 t16 t19) (Int.fdiv y8 1024)) fun y22 => (if 0 ≤ IntKind.wrap .i64 (x6_2 - (7 : Int)) then (if IntKind.wrap .i64 (x6_2 - (7 : Int)) < (64 : Int) then lt ((m2_2.1.getD (IntKind.wrap .i64 (x6_2 - (7 : Int))).toNat (0 : Int))) fun y26 => (sha_down.f k2 y12 (7 : Int)).bind fun t28 => (sha_down.f k2 y12 (18 : Int)).bind fun t31 => lt (bits .xor .u32 (bits .xor .u32 t28 t31) (Int.fdiv y12 8)) fun y34 => lt (IntKind.wrap .u32 ((IntKind.wrap .u32 (y22 + y26)) + y34)) fun y36 => (if 0 ≤ IntKind.wrap .i64 (x6_2 - (16 : Int)) then (if IntKind.wrap .i64 (x6_2 - (16 : Int)) < (64 : Int) then lt ((m2_2.1.getD (IntKind.wrap .i64 (x6_2 - (16 : Int))).toNat (0 : Int))) fun y40 => (if 0 ≤ x6_2 then (if x6_2 < (64 : Int) then lt (vset m2_2 (x6_2).toNat (IntKind.wrap .u32 (y36 + y40))) fun y44 => lo2 (IntKind.wrap .i64 (x6_2 + (1 : Int))) y44 else none) else none) else none) else none) else none) else none) else none) else none) else none) else none)
def sha_spread.lo2 : Nat → Int → ((Vc Int 64)) → Option ((Vc Int 64))
  | 0, _, _ => none
  | k2 + 1, x6_2, m2_2 => (if x6_2 < (64 : Int) then (sha_spread.jo3 x6_2 m2_2 k2 (sha_spread.lo2 k2)) else some m2_2)
def sha_spread.jo1 (k : Nat) (m2_1 : (Vc Int 64)) : Option ((Vc Int 64)) := sha_spread.lo2 k (16 : Int) m2_1
def sha_spread.lo4 (a0 : (Vc Int 64)) (jo1 : ((Vc Int 64)) → Option ((Vc Int 64))) : Nat → Int → ((Vc Int 64)) → Option ((Vc Int 64))
  | 0, _, _ => none
  | k4 + 1, x10_4, m2_4 => (if x10_4 < (64 : Int) then (if 0 ≤ x10_4 then lt (IntKind.wrap .i64 (Int.tdiv x10_4 (4 : Int))) fun y49 => lt (IntKind.wrap .i64 (Int.tdiv x10_4 (4 : Int))) fun y51 => (if 0 ≤ y51 then (if y51 < (64 : Int) then lt (IntKind.wrap .u32 ((m2_4.1.getD (y51).toNat (0 : Int)) * 256)) fun y55 => lt (IntKind.wrap .u32 (a0.1.getD (x10_4).toNat (0 : Int))) fun y57 => (if 0 ≤ y49 then (if y49 < (64 : Int) then lt (vset m2_4 (y49).toNat (bits .or .u32 y55 y57)) fun y61 => (sha_spread.lo4 a0 jo1 k4) (IntKind.wrap .i64 (x10_4 + (1 : Int))) y61 else none) else none) else none) else none) else none) else jo1 m2_4)
def sha_spread.f (k : Nat) (a0 : (Vc Int 64)) : Option ((Vc Int 64)) :=
  sha_spread.lo4 a0 (sha_spread.jo1 k) k (0 : Int) (vrep 64 (0 : Int))
set_option maxRecDepth 100000 in
set_option maxHeartbeats 4000000 in
theorem sha_spread.calls (k : Nat) (a0 : (Vc Int 64)) (r : (Vc Int 64)) (b : Bs) (hs0 : St b (stl []) b.w) (H : sha_spread.f k a0 = some r) :
    Calls Try.prog 29 #[.agg ⟨en (Value.int .u8) a0.1⟩] b.w fun e w' => ∃ x : Unit, e = .returned (.agg ⟨en (Value.int .u32) r.1⟩) ∧ St b (stl []) w' := by
  unfold sha_spread.f at H
  refine enterb (n := 68) Try.func29 rfl (by kernel_rfl) (by kernel_rfl) hs0 ?_
  refine cs_sub (s0) (sub_nil _) ?_
  refine cs_seq ?_
  refine cs_region (l := [_, _]) ?_
  refine ls_new rfl rfl (by kernel_rfl) 0 (fun g => .pointer (some ⟨g, 0, none⟩)) (.cells ⟨en (Value.int .u8) a0.1⟩ 34) (fun w => by kernel_rfl) ?_
  intro g1
  refine ls_new rfl rfl (by kernel_rfl) 1 (fun g => .pointer (some ⟨g, 0, none⟩)) (.cells ⟨en (Value.int .u32) (vrep 64 (0 : Int)).1⟩ 35) (fun w => by kernel_rfl) ?_
  intro g2
  refine ls_end ?_
  refine qn_then ?_
  refine cs_seq ?_
  refine cs_region (l := [_]) ?_
  refine ls_new rfl rfl (by kernel_rfl) 2 (fun g => .pointer (some ⟨g, 0, none⟩)) (.cells ⟨en (Value.int .u32) (vrep 64 (0 : Int)).1⟩ 35) (fun w => by kernel_rfl) ?_
  intro g3
  refine ls_end ?_
  refine qn_then ?_
  refine cs_cut (fun f S => ∃ (fR : Fr) (m2_1 : (Vc Int 64)), f = upd (upd fR 2 (.pointer (some ⟨g2, 0, none⟩))) 3 (.pointer (some ⟨g3, 0, none⟩)) ∧ S = sput (sput s0 1 (some (Ck.var 35 g2 (en (Value.int .u32) (vrep 64 (0 : Int)).1)))) 2 (some (Ck.var 35 g3 (en (Value.int .u32) m2_1.1))) ∧ sha_spread.jo1 k m2_1 = some r) ?_ ?_
  · skip
    refine cs_seq ?_
    refine cs_region (l := [_, _]) ?_
    refine ls_loadagg (a := ⟨g1, 0, none⟩) (sub := en (Value.int .u8) a0.1) rfl rfl (by kernel_rfl) rfl (by kernel_rfl) (by kernel_rfl) (by kernel_rfl) (len_en _ a0) (fun w hs => (hs.vars (k := 0) (by exact rfl) (Sub4.all _))) ?_
    refine ls_val (v := .int .i64 (0 : Int)) rfl rfl (by kernel_rfl) (fun w => by kernel_rfl) ?_
    refine ls_end ?_
    refine qn_then ?_
    refine cs_block ?_
    refine cs_sub (sput (sput s0 1 (some (Ck.var 35 g2 (en (Value.int .u32) (vrep 64 (0 : Int)).1)))) 2 (some (Ck.var 35 g3 (en (Value.int .u32) (vrep 64 (0 : Int)).1)))) (sub_put (by exact rfl) (sub_put (by exact rfl) (sub_nil _))) ?_
    refine cs_loop (fun kk f S => ∃ (fR : Fr) (x10_4 : Int) (m2_4 : (Vc Int 64)), f = upd (upd (upd (upd fR 2 (.pointer (some ⟨g2, 0, none⟩))) 3 (.pointer (some ⟨g3, 0, none⟩))) 9 (.agg ⟨en (Value.int .u8) a0.1⟩)) 10 (.int .i64 x10_4) ∧ S = sput (sput s0 1 (some (Ck.var 35 g2 (en (Value.int .u32) (vrep 64 (0 : Int)).1)))) 2 (some (Ck.var 35 g3 (en (Value.int .u32) m2_4.1))) ∧ sha_spread.lo4 a0 (sha_spread.jo1 k) kk x10_4 m2_4 = some r) k ?_ ?_ ?_
    · exact ⟨_, (0 : Int), (vrep 64 (0 : Int)), fr_next (fr_next (fr_next (fr_next (rfl) (by kernel_rfl)) (by kernel_rfl)) (by kernel_rfl)) (by kernel_rfl), rfl, H⟩
    · rintro f S ⟨fr4, x10_4, m2_4, rfl, rfl, H⟩; cases H
    · rintro k4 f S ⟨fr4, x10_4, m2_4, rfl, rfl, H⟩
      replace H : ((if x10_4 < (64 : Int) then (if 0 ≤ x10_4 then lt (IntKind.wrap .i64 (Int.tdiv x10_4 (4 : Int))) fun y49 => lt (IntKind.wrap .i64 (Int.tdiv x10_4 (4 : Int))) fun y51 => (if 0 ≤ y51 then (if y51 < (64 : Int) then lt (IntKind.wrap .u32 ((m2_4.1.getD (y51).toNat (0 : Int)) * 256)) fun y55 => lt (IntKind.wrap .u32 (a0.1.getD (x10_4).toNat (0 : Int))) fun y57 => (if 0 ≤ y49 then (if y49 < (64 : Int) then lt (vset m2_4 (y49).toNat (bits .or .u32 y55 y57)) fun y61 => (sha_spread.lo4 a0 (sha_spread.jo1 k) k4) (IntKind.wrap .i64 (x10_4 + (1 : Int))) y61 else none) else none) else none) else none) else none) else (sha_spread.jo1 k) m2_4)) = some r := H
      refine cs_seq ?_
      refine cs_region (l := [_]) ?_
      refine ls_val (v := .bool (decide (x10_4 < (64 : Int)))) rfl rfl (by kernel_rfl) (fun w => by kernel_rfl) ?_
      refine ls_end ?_
      refine qn_then ?_
      refine cs_seq ?_
      by_cases q47 : x10_4 < (64 : Int)
      · replace H := ite_t q47 H
        refine cs_know (c := true) (dec_t q47) 11 (by kernel_rfl) ?_
        refine cs_true (by kernel_rfl) ?_
        refine cs_skip' ?_
        refine qn_then ?_
        refine cs_seq ?_
        refine cs_block ?_
        refine cs_seq ?_
        refine cs_region (l := [_, _, _, _]) ?_
        refine ls_val (v := .int .i64 x10_4) rfl rfl (by kernel_rfl) (fun w => by kernel_rfl) ?_
        obtain ⟨q48, H⟩ := ite_need H
        refine ls_index (l := a0.1) (E := (Value.int .u8)) (i := x10_4) (kk := .i64) (ln := 64) (e := 5) rfl rfl (by kernel_rfl) a0.2 rfl (by kernel_rfl) (by kernel_rfl) (by kernel_rfl) (by kernel_rfl) (by kernel_rfl) q48 q47 0 ?_
        refine ls_val (v := .int .i64 x10_4) rfl rfl (by kernel_rfl) (fun w => by kernel_rfl) ?_
        refine ls_val (v := .int .u8 (a0.1.getD (x10_4).toNat (0 : Int))) rfl rfl (by kernel_rfl) (fun w => by kernel_rfl) ?_
        refine ls_end ?_
        refine qn_then ?_
        refine cs_region (l := [_, _, _, _, _, _, _, _, _, _, _, _]) ?_
        refine ls_val (v := .int .i64 x10_4) rfl rfl (by kernel_rfl) (fun w => by kernel_rfl) ?_
        obtain ⟨y49, hy50, H⟩ := lt_some H
        refine ls_val (v := .int .i64 (IntKind.wrap .i64 (Int.tdiv x10_4 (4 : Int)))) rfl rfl (by kernel_rfl) (fun w => by kernel_rfl) ?_
        refine ls_ren 15 (v := .int .i64 (IntKind.wrap .i64 (Int.tdiv x10_4 (4 : Int)))) (v' := .int .i64 y49) (by kernel_rfl) (by rw [hy50]) ?_
        refine ls_val (v := .int .i64 x10_4) rfl rfl (by kernel_rfl) (fun w => by kernel_rfl) ?_
        obtain ⟨y51, hy52, H⟩ := lt_some H
        refine ls_val (v := .int .i64 (IntKind.wrap .i64 (Int.tdiv x10_4 (4 : Int)))) rfl rfl (by kernel_rfl) (fun w => by kernel_rfl) ?_
        refine ls_ren 17 (v := .int .i64 (IntKind.wrap .i64 (Int.tdiv x10_4 (4 : Int)))) (v' := .int .i64 y51) (by kernel_rfl) (by rw [hy52]) ?_
        obtain ⟨q53, H⟩ := ite_need H
        obtain ⟨q54, H⟩ := ite_need H
        refine ls_idxa1 (g := g3) (off := 0) (i := y51) (kk := .i64) (ln := 64) (e := 23) rfl rfl (by kernel_rfl) rfl (by kernel_rfl) (by kernel_rfl) (by kernel_rfl) (by kernel_rfl) q53 q54 ?_
        refine ls_load (a0 := ⟨g3, (0 + (y51).toNat), none⟩) (v := .int .u32 (m2_4.1.getD (y51).toNat (0 : Int))) (de := (TypeDesc.int .u32)) rfl rfl (by kernel_rfl) rfl (by kernel_rfl) (by kernel_rfl) (by kernel_rfl) (fun w hs => (hs.var (k := 2) (by exact rfl) (Sub4.trans (Sub4.all _) (Sub4.one (Value.int .u32) m2_4.1 0 (by have := m2_4.2; omega))))) ?_
        obtain ⟨y55, hy56, H⟩ := lt_some H
        refine ls_val (v := .int .u32 (IntKind.wrap .u32 ((m2_4.1.getD (y51).toNat (0 : Int)) * 256))) rfl rfl (by kernel_rfl) (fun w => by kernel_rfl) ?_
        refine ls_ren 20 (v := .int .u32 (IntKind.wrap .u32 ((m2_4.1.getD (y51).toNat (0 : Int)) * 256))) (v' := .int .u32 y55) (by kernel_rfl) (by rw [hy56]) ?_
        refine ls_val (v := .int .u8 (a0.1.getD (x10_4).toNat (0 : Int))) rfl rfl (by kernel_rfl) (fun w => by kernel_rfl) ?_
        obtain ⟨y57, hy58, H⟩ := lt_some H
        refine ls_val (v := .int .u32 (IntKind.wrap .u32 (a0.1.getD (x10_4).toNat (0 : Int)))) rfl rfl (by kernel_rfl) (fun w => by kernel_rfl) ?_
        refine ls_ren 22 (v := .int .u32 (IntKind.wrap .u32 (a0.1.getD (x10_4).toNat (0 : Int)))) (v' := .int .u32 y57) (by kernel_rfl) (by rw [hy58]) ?_
        refine ls_val (v := .int .u32 (bits .or .u32 y55 y57)) rfl rfl (by kernel_rfl) (fun w => by kernel_rfl) ?_
        obtain ⟨q59, H⟩ := ite_need H
        obtain ⟨q60, H⟩ := ite_need H
        refine ls_idxa1 (g := g3) (off := 0) (i := y49) (kk := .i64) (ln := 64) (e := 23) rfl rfl (by kernel_rfl) rfl (by kernel_rfl) (by kernel_rfl) (by kernel_rfl) (by kernel_rfl) q59 q60 ?_
        obtain ⟨y61, hy62, H⟩ := lt_some H
        refine ls_storec (g := g3) (off := (0 + (y49).toNat)) (v := .int .u32 (bits .or .u32 y55 y57)) (vs := [Value.int .u32 (bits .or .u32 y55 y57)]) (cs := en (Value.int .u32) m2_4.1) (ty := 35) 2 rfl rfl rfl (by kernel_rfl) (by kernel_rfl) (by kernel_rfl) (by exact rfl) (by kernel_rfl) (len1 _) (one_cons rfl one_nil) (hl_of (Sub4.trans (Sub4.all _) (Sub4.one (Value.int .u32) m2_4.1 0 (by have := m2_4.2; omega))) (len_eq (len1 _) (len1 _))) (cs' := en (Value.int .u32) y61.1) (splc_in (Sub4.all _) ((splc_one (Value.int .u32) m2_4.1 (bits .or .u32 y55 y57) (by have := m2_4.2; omega)).trans (congrArg (fun z : (Vc Int 64) => en (Value.int .u32) z.1) hy62)) (splc_all (len_eq (len_en _ y61) (len_en _ m2_4))) (hl_of (Sub4.one (Value.int .u32) m2_4.1 0 (by have := m2_4.2; omega)) (len_eq (len1 _) (len1 _)))) ?_
        refine ls_end ?_
        refine qn_block ?_
        refine qn_then ?_
        refine cs_region (l := [_, _]) ?_
        refine ls_val (v := .int .i64 (IntKind.wrap .i64 (x10_4 + (1 : Int)))) rfl rfl (by kernel_rfl) (fun w => by kernel_rfl) ?_
        refine ls_val (v := .int .i64 (IntKind.wrap .i64 (x10_4 + (1 : Int)))) rfl rfl (by kernel_rfl) (fun w => by kernel_rfl) ?_
        refine ls_end ?_
        refine qn_again k4 (sput (sput s0 1 (some (Ck.var 35 g2 (en (Value.int .u32) (vrep 64 (0 : Int)).1)))) 2 (some (Ck.var 35 g3 (en (Value.int .u32) y61.1)))) (Nat.le_refl _) ⟨_, (IntKind.wrap .i64 (x10_4 + (1 : Int))), y61, fr_next (fr_next (fr_next (fr_next (rfl) (by kernel_rfl)) (by kernel_rfl)) (by kernel_rfl)) (by kernel_rfl), rfl, H⟩ (sub_put (by exact rfl) (sub_put (by exact rfl) (sub_nil _)))
      · replace H := ite_f q47 H
        refine cs_know (c := false) (dec_f q47) 11 (by kernel_rfl) ?_
        refine cs_false (by kernel_rfl) ?_
        refine cs_exit' ?_
        refine qx_then ?_
        refine qx_then ?_
        refine qx_same ?_
        refine qn_meet (sput (sput s0 1 (some (Ck.var 35 g2 (en (Value.int .u32) (vrep 64 (0 : Int)).1)))) 2 (some (Ck.var 35 g3 (en (Value.int .u32) m2_4.1)))) ⟨_, m2_4, fr_next (fr_next (rfl) (by kernel_rfl)) (by kernel_rfl), rfl, H⟩ (sub_put (by exact rfl) (sub_put (by exact rfl) (sub_nil _)))
  · rintro f S ⟨fr1, m2_1, rfl, rfl, H⟩
    replace H : (sha_spread.lo2 k (16 : Int) m2_1) = some r := H
    refine cs_seq ?_
    refine cs_seq ?_
    refine cs_region (l := [_]) ?_
    refine ls_val (v := .int .i64 (16 : Int)) rfl rfl (by kernel_rfl) (fun w => by kernel_rfl) ?_
    refine ls_end ?_
    refine qn_then ?_
    refine cs_block ?_
    refine cs_sub (sput (sput s0 1 (some (Ck.var 35 g2 (en (Value.int .u32) (vrep 64 (0 : Int)).1)))) 2 (some (Ck.var 35 g3 (en (Value.int .u32) m2_1.1)))) (sub_put (by exact rfl) (sub_put (by exact rfl) (sub_nil _))) ?_
    refine cs_loop (fun kk f S => ∃ (fR : Fr) (x6_2 : Int) (m2_2 : (Vc Int 64)), f = upd (upd (upd fR 2 (.pointer (some ⟨g2, 0, none⟩))) 3 (.pointer (some ⟨g3, 0, none⟩))) 6 (.int .i64 x6_2) ∧ S = sput (sput s0 1 (some (Ck.var 35 g2 (en (Value.int .u32) (vrep 64 (0 : Int)).1)))) 2 (some (Ck.var 35 g3 (en (Value.int .u32) m2_2.1))) ∧ sha_spread.lo2 kk x6_2 m2_2 = some r) k ?_ ?_ ?_
    · exact ⟨_, (16 : Int), m2_1, fr_next (fr_next (fr_next (rfl) (by kernel_rfl)) (by kernel_rfl)) (by kernel_rfl), rfl, H⟩
    · rintro f S ⟨fr2, x6_2, m2_2, rfl, rfl, H⟩; cases H
    · rintro k2 f S ⟨fr2, x6_2, m2_2, rfl, rfl, H⟩
      replace H : ((if x6_2 < (64 : Int) then (sha_spread.jo3 x6_2 m2_2 k2 (sha_spread.lo2 k2)) else some m2_2)) = some r := H
      refine cs_cut (fun f S => ∃ (fR : Fr), f = upd (upd (upd fR 2 (.pointer (some ⟨g2, 0, none⟩))) 3 (.pointer (some ⟨g3, 0, none⟩))) 6 (.int .i64 x6_2) ∧ S = sput (sput s0 1 (some (Ck.var 35 g2 (en (Value.int .u32) (vrep 64 (0 : Int)).1)))) 2 (some (Ck.var 35 g3 (en (Value.int .u32) m2_2.1))) ∧ sha_spread.jo3 x6_2 m2_2 k2 (sha_spread.lo2 k2) = some r) ?_ ?_
      · skip
        refine cs_seq ?_
        refine cs_region (l := [_, _]) ?_
        refine ls_val (v := .int .i64 x6_2) rfl rfl (by kernel_rfl) (fun w => by kernel_rfl) ?_
        refine ls_val (v := .bool (decide (x6_2 < (64 : Int)))) rfl rfl (by kernel_rfl) (fun w => by kernel_rfl) ?_
        refine ls_end ?_
        refine qn_then ?_
        by_cases q46 : x6_2 < (64 : Int)
        · replace H := ite_t q46 H
          refine cs_know (c := true) (dec_t q46) 27 (by kernel_rfl) ?_
          refine cs_true (by kernel_rfl) ?_
          refine cs_skip' ?_
          refine qn_meet (sput (sput s0 1 (some (Ck.var 35 g2 (en (Value.int .u32) (vrep 64 (0 : Int)).1)))) 2 (some (Ck.var 35 g3 (en (Value.int .u32) m2_2.1)))) ⟨_, fr_next (fr_next (fr_next (rfl) (by kernel_rfl)) (by kernel_rfl)) (by kernel_rfl), rfl, H⟩ (sub_put (by exact rfl) (sub_put (by exact rfl) (sub_nil _)))
        · replace H := ite_f q46 H
          refine cs_know (c := false) (dec_f q46) 27 (by kernel_rfl) ?_
          refine cs_false (by kernel_rfl) ?_
          refine cs_exit' ?_
          refine qx_then ?_
          refine qx_then ?_
          refine qx_same ?_
          refine qn_then ?_
          refine cs_seq ?_
          refine cs_region (l := [_, _]) ?_
          refine ls_loadagg (a := ⟨g3, 0, none⟩) (sub := en (Value.int .u32) m2_2.1) rfl rfl (by kernel_rfl) rfl (by kernel_rfl) (by kernel_rfl) (by kernel_rfl) (len_en _ m2_2) (fun w hs => (hs.vars (k := 2) (by exact rfl) (Sub4.all _))) ?_
          refine ls_storec (g := g2) (off := 0) (v := .agg ⟨en (Value.int .u32) m2_2.1⟩) (vs := en (Value.int .u32) m2_2.1) (cs := en (Value.int .u32) (vrep 64 (0 : Int)).1) (ty := 35) 1 rfl rfl rfl (by kernel_rfl) (by kernel_rfl) (by kernel_rfl) (by exact rfl) (by kernel_rfl) (len_en _ m2_2) (one_en (fun _ => rfl) _) (hl_of (Sub4.all _) (len_eq (len_en _ m2_2) (len_en _ (vrep 64 (0 : Int))))) (cs' := en (Value.int .u32) m2_2.1) (splc_all (len_eq (len_en _ m2_2) (len_en _ (vrep 64 (0 : Int))))) ?_
          refine ls_end ?_
          refine qn_then ?_
          refine cs_ret' ?_
          obtain rfl := Option.some.inj H
          refine qr_res (rs := [_]) rfl (fun w' hs => ⟨[.agg ⟨en (Value.int .u32) m2_2.1⟩], (.cell (by kernel_rfl) (run_cellres (by kernel_rfl) (by kernel_rfl) (len_en _ m2_2) (hs.holds 1 _ (by exact rfl))) (.nil)), (), rfl, hs.pick (ts := []) (cs := []) trivial (by decide)⟩)
      · rintro f S ⟨fr3, rfl, rfl, H⟩
        replace H : ((if 0 ≤ IntKind.wrap .i64 (x6_2 - (2 : Int)) then (if IntKind.wrap .i64 (x6_2 - (2 : Int)) < (64 : Int) then lt ((m2_2.1.getD (IntKind.wrap .i64 (x6_2 - (2 : Int))).toNat (0 : Int))) fun y8 => (if 0 ≤ IntKind.wrap .i64 (x6_2 - (15 : Int)) then (if IntKind.wrap .i64 (x6_2 - (15 : Int)) < (64 : Int) then lt ((m2_2.1.getD (IntKind.wrap .i64 (x6_2 - (15 : Int))).toNat (0 : Int))) fun y12 => (sha_down.f k2 y8 (17 : Int)).bind fun t16 => (sha_down.f k2 y8 (19 : Int)).bind fun t19 => lt (bits .xor .u32 (bits .xor .u32 t16 t19) (Int.fdiv y8 1024)) fun y22 => (if 0 ≤ IntKind.wrap .i64 (x6_2 - (7 : Int)) then (if IntKind.wrap .i64 (x6_2 - (7 : Int)) < (64 : Int) then lt ((m2_2.1.getD (IntKind.wrap .i64 (x6_2 - (7 : Int))).toNat (0 : Int))) fun y26 => (sha_down.f k2 y12 (7 : Int)).bind fun t28 => (sha_down.f k2 y12 (18 : Int)).bind fun t31 => lt (bits .xor .u32 (bits .xor .u32 t28 t31) (Int.fdiv y12 8)) fun y34 => lt (IntKind.wrap .u32 ((IntKind.wrap .u32 (y22 + y26)) + y34)) fun y36 => (if 0 ≤ IntKind.wrap .i64 (x6_2 - (16 : Int)) then (if IntKind.wrap .i64 (x6_2 - (16 : Int)) < (64 : Int) then lt ((m2_2.1.getD (IntKind.wrap .i64 (x6_2 - (16 : Int))).toNat (0 : Int))) fun y40 => (if 0 ≤ x6_2 then (if x6_2 < (64 : Int) then lt (vset m2_2 (x6_2).toNat (IntKind.wrap .u32 (y36 + y40))) fun y44 => (sha_spread.lo2 k2) (IntKind.wrap .i64 (x6_2 + (1 : Int))) y44 else none) else none) else none) else none) else none) else none) else none) else none) else none) else none)) = some r := H
        refine cs_seq ?_
        refine cs_block ?_
        refine cs_seq ?_
        obtain ⟨s5_0, hs5_0⟩ : ∃ z : Value → Sto → Prop, z = (fun v R => v = .int .i64 x6_2 ∧ R = s0) := ⟨_, rfl⟩
        refine have_op (l := [_, _, _, _, _, _, _, _, _, _]) sha_spread.tab3 3 0 (fun sp => sp 0 = s5_0) (fun sp on hA hon => ?_) (fun ops5_0 => ?_)
        · refine ⟨fun o ho vs Rs f' S' w hp hf hx hS hR hs => ?_⟩
          obtain rfl := Option.some.inj ho
          rw [hA, hs5_0]
          refine And.intro (fun a ha => (want_none rfl a ha).trans hon.symm) (And.intro (fun _ => ?_) (fun h => by rw [hon] at h; cases h))
          have hF := fr_next (rfl) ((hx 6 (by kernel_rfl)).trans (by kernel_rfl : (_ : Value) = .int .i64 x6_2))
          refine ls_fr hF ?_
          refine ls_val (v := .int .i64 x6_2) rfl rfl (by kernel_rfl) (fun w => by kernel_rfl) ?_
          exact ls_fin s0 (.int .i64 x6_2) (congrArg (fun z => upd z 30 _) hF.symm) ⟨rfl, rfl⟩ (sub_nil _)
        obtain ⟨s5_1, hs5_1⟩ : ∃ z : Value → Sto → Prop, z = (fun v R => v = .int .i64 (IntKind.wrap .i64 (x6_2 - (2 : Int))) ∧ R = s0) := ⟨_, rfl⟩
        refine have_op (l := [_, _, _, _, _, _, _, _, _, _]) sha_spread.tab3 3 1 (fun sp => sp 1 = s5_1 ∧ sp 0 = s5_0) (fun sp on hA hon => ?_) (fun ops5_1 => ?_)
        · refine ⟨fun o ho vs Rs f' S' w hp hf hx hS hR hs => ?_⟩
          obtain rfl := Option.some.inj ho
          obtain ⟨hv0, hR0⟩ := (spe hA.2 hs5_0 (hp 0 (by kernel_rfl)))
          rw [hA.1, hs5_1]
          refine And.intro (fun a ha => (want_none rfl a ha).trans hon.symm) (And.intro (fun _ => ?_) (fun h => by rw [hon] at h; cases h))
          have hF := fr_next (rfl) ((hf 0 30 (by kernel_rfl) rfl).trans hv0)
          refine ls_fr hF ?_
          refine ls_val (v := .int .i64 (IntKind.wrap .i64 (x6_2 - (2 : Int)))) rfl rfl (by kernel_rfl) (fun w => by kernel_rfl) ?_
          exact ls_fin s0 (.int .i64 (IntKind.wrap .i64 (x6_2 - (2 : Int)))) (congrArg (fun z => upd z 31 _) hF.symm) ⟨rfl, rfl⟩ (sub_nil _)
        obtain ⟨q6, H⟩ := ite_need H
        obtain ⟨q7, H⟩ := ite_need H
        obtain ⟨s5_2, hs5_2⟩ : ∃ z : Value → Sto → Prop, z = (fun v R => v = .pointer (some ⟨g3, (0 + (IntKind.wrap .i64 (x6_2 - (2 : Int))).toNat), none⟩) ∧ R = s0) := ⟨_, rfl⟩
        refine have_op (l := [_, _, _, _, _, _, _, _, _, _]) sha_spread.tab3 3 2 (fun sp => sp 2 = s5_2 ∧ sp 1 = s5_1) (fun sp on hA hon => ?_) (fun ops5_2 => ?_)
        · refine ⟨fun o ho vs Rs f' S' w hp hf hx hS hR hs => ?_⟩
          obtain rfl := Option.some.inj ho
          obtain ⟨hv1, hR1⟩ := (spe hA.2 hs5_1 (hp 1 (by kernel_rfl)))
          rw [hA.1, hs5_2]
          refine And.intro (fun a ha => (want_none rfl a ha).trans hon.symm) (And.intro (fun _ => ?_) (fun h => by rw [hon] at h; cases h))
          have hF := fr_next (fr_next (rfl) ((hx 3 (by kernel_rfl)).trans (by kernel_rfl : (_ : Value) = .pointer (some ⟨g3, 0, none⟩)))) ((hf 1 31 (by kernel_rfl) rfl).trans hv1)
          refine ls_fr hF ?_
          refine ls_idxa1 (g := g3) (off := 0) (i := IntKind.wrap .i64 (x6_2 - (2 : Int))) (kk := .i64) (ln := 64) (e := 23) rfl rfl (by kernel_rfl) rfl (by kernel_rfl) (by kernel_rfl) (by kernel_rfl) (by kernel_rfl) q6 q7 ?_
          exact ls_fin s0 (.pointer (some ⟨g3, (0 + (IntKind.wrap .i64 (x6_2 - (2 : Int))).toNat), none⟩)) (congrArg (fun z => upd z 32 _) hF.symm) ⟨rfl, rfl⟩ (sub_nil _)
        obtain ⟨y8, hy9, H⟩ := lt_some H
        obtain ⟨s5_3, hs5_3⟩ : ∃ z : Value → Sto → Prop, z = (fun v R => v = .int .u32 y8 ∧ R = s0) := ⟨_, rfl⟩
        refine have_op (l := [_, _, _, _, _, _, _, _, _, _]) sha_spread.tab3 3 3 (fun sp => sp 3 = s5_3 ∧ sp 2 = s5_2) (fun sp on hA hon => ?_) (fun ops5_3 => ?_)
        · refine ⟨fun o ho vs Rs f' S' w hp hf hx hS hR hs => ?_⟩
          obtain rfl := Option.some.inj ho
          obtain ⟨hv2, hR2⟩ := (spe hA.2 hs5_2 (hp 2 (by kernel_rfl)))
          rw [hA.1, hs5_3]
          refine And.intro (fun a ha => (want_none rfl a ha).trans hon.symm) (And.intro (fun _ => ?_) (fun h => by rw [hon] at h; cases h))
          have hF := fr_next (rfl) ((hf 2 32 (by kernel_rfl) rfl).trans hv2)
          refine ls_fr hF ?_
          refine ls_load (a0 := ⟨g3, (0 + (IntKind.wrap .i64 (x6_2 - (2 : Int))).toNat), none⟩) (v := .int .u32 (m2_2.1.getD (IntKind.wrap .i64 (x6_2 - (2 : Int))).toNat (0 : Int))) (de := (TypeDesc.int .u32)) rfl rfl (by kernel_rfl) rfl (by kernel_rfl) (by kernel_rfl) (by kernel_rfl) (fun w1 hs1 => cell_step hs1.below.bw (hs.var (k := 2) ((hS 2 (by kernel_rfl)).trans (by exact rfl)) (Sub4.trans (Sub4.all _) (Sub4.one (Value.int .u32) m2_2.1 0 (by have := m2_2.2; omega))))) ?_
          refine ls_ren 33 (v := .int .u32 (m2_2.1.getD (IntKind.wrap .i64 (x6_2 - (2 : Int))).toNat (0 : Int))) (v' := .int .u32 y8) (by kernel_rfl) (by rw [hy9]) ?_
          exact ls_fin s0 (.int .u32 y8) ((upd_upd _ _ _ _).trans (congrArg (fun z => upd z 33 _) hF.symm)) ⟨rfl, rfl⟩ (sub_nil _)
        obtain ⟨s5_4, hs5_4⟩ : ∃ z : Value → Sto → Prop, z = (fun v R => v = .int .i64 x6_2 ∧ R = s0) := ⟨_, rfl⟩
        refine have_op (l := [_, _, _, _, _, _, _, _, _, _]) sha_spread.tab3 3 4 (fun sp => sp 4 = s5_4) (fun sp on hA hon => ?_) (fun ops5_4 => ?_)
        · refine ⟨fun o ho vs Rs f' S' w hp hf hx hS hR hs => ?_⟩
          obtain rfl := Option.some.inj ho
          rw [hA, hs5_4]
          refine And.intro (fun a ha => (want_none rfl a ha).trans hon.symm) (And.intro (fun _ => ?_) (fun h => by rw [hon] at h; cases h))
          have hF := fr_next (rfl) ((hx 6 (by kernel_rfl)).trans (by kernel_rfl : (_ : Value) = .int .i64 x6_2))
          refine ls_fr hF ?_
          refine ls_val (v := .int .i64 x6_2) rfl rfl (by kernel_rfl) (fun w => by kernel_rfl) ?_
          exact ls_fin s0 (.int .i64 x6_2) (congrArg (fun z => upd z 34 _) hF.symm) ⟨rfl, rfl⟩ (sub_nil _)
        obtain ⟨s5_5, hs5_5⟩ : ∃ z : Value → Sto → Prop, z = (fun v R => v = .int .i64 (IntKind.wrap .i64 (x6_2 - (15 : Int))) ∧ R = s0) := ⟨_, rfl⟩
        refine have_op (l := [_, _, _, _, _, _, _, _, _, _]) sha_spread.tab3 3 5 (fun sp => sp 5 = s5_5 ∧ sp 4 = s5_4) (fun sp on hA hon => ?_) (fun ops5_5 => ?_)
        · refine ⟨fun o ho vs Rs f' S' w hp hf hx hS hR hs => ?_⟩
          obtain rfl := Option.some.inj ho
          obtain ⟨hv4, hR4⟩ := (spe hA.2 hs5_4 (hp 4 (by kernel_rfl)))
          rw [hA.1, hs5_5]
          refine And.intro (fun a ha => (want_none rfl a ha).trans hon.symm) (And.intro (fun _ => ?_) (fun h => by rw [hon] at h; cases h))
          have hF := fr_next (rfl) ((hf 4 34 (by kernel_rfl) rfl).trans hv4)
          refine ls_fr hF ?_
          refine ls_val (v := .int .i64 (IntKind.wrap .i64 (x6_2 - (15 : Int)))) rfl rfl (by kernel_rfl) (fun w => by kernel_rfl) ?_
          exact ls_fin s0 (.int .i64 (IntKind.wrap .i64 (x6_2 - (15 : Int)))) (congrArg (fun z => upd z 35 _) hF.symm) ⟨rfl, rfl⟩ (sub_nil _)
        obtain ⟨q10, H⟩ := ite_need H
        obtain ⟨q11, H⟩ := ite_need H
        obtain ⟨s5_6, hs5_6⟩ : ∃ z : Value → Sto → Prop, z = (fun v R => v = .pointer (some ⟨g3, (0 + (IntKind.wrap .i64 (x6_2 - (15 : Int))).toNat), none⟩) ∧ R = s0) := ⟨_, rfl⟩
        refine have_op (l := [_, _, _, _, _, _, _, _, _, _]) sha_spread.tab3 3 6 (fun sp => sp 6 = s5_6 ∧ sp 5 = s5_5) (fun sp on hA hon => ?_) (fun ops5_6 => ?_)
        · refine ⟨fun o ho vs Rs f' S' w hp hf hx hS hR hs => ?_⟩
          obtain rfl := Option.some.inj ho
          obtain ⟨hv5, hR5⟩ := (spe hA.2 hs5_5 (hp 5 (by kernel_rfl)))
          rw [hA.1, hs5_6]
          refine And.intro (fun a ha => (want_none rfl a ha).trans hon.symm) (And.intro (fun _ => ?_) (fun h => by rw [hon] at h; cases h))
          have hF := fr_next (fr_next (rfl) ((hx 3 (by kernel_rfl)).trans (by kernel_rfl : (_ : Value) = .pointer (some ⟨g3, 0, none⟩)))) ((hf 5 35 (by kernel_rfl) rfl).trans hv5)
          refine ls_fr hF ?_
          refine ls_idxa1 (g := g3) (off := 0) (i := IntKind.wrap .i64 (x6_2 - (15 : Int))) (kk := .i64) (ln := 64) (e := 23) rfl rfl (by kernel_rfl) rfl (by kernel_rfl) (by kernel_rfl) (by kernel_rfl) (by kernel_rfl) q10 q11 ?_
          exact ls_fin s0 (.pointer (some ⟨g3, (0 + (IntKind.wrap .i64 (x6_2 - (15 : Int))).toNat), none⟩)) (congrArg (fun z => upd z 36 _) hF.symm) ⟨rfl, rfl⟩ (sub_nil _)
        obtain ⟨y12, hy13, H⟩ := lt_some H
        obtain ⟨s5_7, hs5_7⟩ : ∃ z : Value → Sto → Prop, z = (fun v R => v = .int .u32 y12 ∧ R = s0) := ⟨_, rfl⟩
        refine have_op (l := [_, _, _, _, _, _, _, _, _, _]) sha_spread.tab3 3 7 (fun sp => sp 7 = s5_7 ∧ sp 6 = s5_6) (fun sp on hA hon => ?_) (fun ops5_7 => ?_)
        · refine ⟨fun o ho vs Rs f' S' w hp hf hx hS hR hs => ?_⟩
          obtain rfl := Option.some.inj ho
          obtain ⟨hv6, hR6⟩ := (spe hA.2 hs5_6 (hp 6 (by kernel_rfl)))
          rw [hA.1, hs5_7]
          refine And.intro (fun a ha => (want_none rfl a ha).trans hon.symm) (And.intro (fun _ => ?_) (fun h => by rw [hon] at h; cases h))
          have hF := fr_next (rfl) ((hf 6 36 (by kernel_rfl) rfl).trans hv6)
          refine ls_fr hF ?_
          refine ls_load (a0 := ⟨g3, (0 + (IntKind.wrap .i64 (x6_2 - (15 : Int))).toNat), none⟩) (v := .int .u32 (m2_2.1.getD (IntKind.wrap .i64 (x6_2 - (15 : Int))).toNat (0 : Int))) (de := (TypeDesc.int .u32)) rfl rfl (by kernel_rfl) rfl (by kernel_rfl) (by kernel_rfl) (by kernel_rfl) (fun w1 hs1 => cell_step hs1.below.bw (hs.var (k := 2) ((hS 2 (by kernel_rfl)).trans (by exact rfl)) (Sub4.trans (Sub4.all _) (Sub4.one (Value.int .u32) m2_2.1 0 (by have := m2_2.2; omega))))) ?_
          refine ls_ren 37 (v := .int .u32 (m2_2.1.getD (IntKind.wrap .i64 (x6_2 - (15 : Int))).toNat (0 : Int))) (v' := .int .u32 y12) (by kernel_rfl) (by rw [hy13]) ?_
          exact ls_fin s0 (.int .u32 y12) ((upd_upd _ _ _ _).trans (congrArg (fun z => upd z 37 _) hF.symm)) ⟨rfl, rfl⟩ (sub_nil _)
        obtain ⟨s5_8, hs5_8⟩ : ∃ z : Value → Sto → Prop, z = (fun v R => v = .int .u32 y8 ∧ R = s0) := ⟨_, rfl⟩
        refine have_op (l := [_, _, _, _, _, _, _, _, _, _]) sha_spread.tab3 3 8 (fun sp => sp 8 = s5_8 ∧ sp 3 = s5_3) (fun sp on hA hon => ?_) (fun ops5_8 => ?_)
        · refine ⟨fun o ho vs Rs f' S' w hp hf hx hS hR hs => ?_⟩
          obtain rfl := Option.some.inj ho
          obtain ⟨hv3, hR3⟩ := (spe hA.2 hs5_3 (hp 3 (by kernel_rfl)))
          rw [hA.1, hs5_8]
          refine And.intro (fun a ha => (want_none rfl a ha).trans hon.symm) (And.intro (fun _ => ?_) (fun h => by rw [hon] at h; cases h))
          have hF := fr_next (rfl) ((hf 3 33 (by kernel_rfl) rfl).trans hv3)
          refine ls_fr hF ?_
          refine ls_val (v := .int .u32 y8) rfl rfl (by kernel_rfl) (fun w => by kernel_rfl) ?_
          exact ls_fin s0 (.int .u32 y8) (congrArg (fun z => upd z 7 _) hF.symm) ⟨rfl, rfl⟩ (sub_nil _)
        refine cs_draw sha_spread.tab3 9 3 (spl [s5_0, s5_1, s5_2, s5_3, s5_4, s5_5, s5_6, s5_7, s5_8]) (onl [true, true, true, true, true, true, true, true, true]) (by kernel_rfl) (by kernel_rfl) (by kernel_rfl) (by kernel_rfl) (rs := [_]) rfl (by kernel_rfl) (by kernel_rfl) (all_snoc (all_snoc (all_snoc (all_snoc (all_snoc (all_snoc (all_snoc (all_snoc (all_snoc (all_nil) (ops5_0 _ _ rfl rfl)) (ops5_1 _ _ ⟨rfl, rfl⟩ rfl)) (ops5_2 _ _ ⟨rfl, rfl⟩ rfl)) (ops5_3 _ _ ⟨rfl, rfl⟩ rfl)) (ops5_4 _ _ rfl rfl)) (ops5_5 _ _ ⟨rfl, rfl⟩ rfl)) (ops5_6 _ _ ⟨rfl, rfl⟩ rfl)) (ops5_7 _ _ ⟨rfl, rfl⟩ rfl)) (ops5_8 _ _ ⟨rfl, rfl⟩ rfl)) ?_
        intro vs Rs f' S' hp hf hx hS hR
        obtain ⟨hv7, hR7⟩ := (spe rfl hs5_7 (hp 7 (by kernel_rfl)))
        obtain ⟨hv8, hR8⟩ := (spe rfl hs5_8 (hp 8 (by kernel_rfl)))
        refine ls_fr (F := upd (upd (upd (upd (upd f' 2 (.pointer (some ⟨g2, 0, none⟩))) 3 (.pointer (some ⟨g3, 0, none⟩))) 6 (.int .i64 x6_2)) 7 (.int .u32 y8)) 37 (.int .u32 y12)) (fr_next (fr_next (fr_next (fr_next (fr_next (rfl) ((hx 2 (by kernel_rfl)).trans (by kernel_rfl : (_ : Value) = .pointer (some ⟨g2, 0, none⟩)))) ((hx 3 (by kernel_rfl)).trans (by kernel_rfl : (_ : Value) = .pointer (some ⟨g3, 0, none⟩)))) ((hx 6 (by kernel_rfl)).trans (by kernel_rfl : (_ : Value) = .int .i64 x6_2))) ((hf 8 7 (by kernel_rfl) rfl).trans hv8)) ((hf 7 37 (by kernel_rfl) rfl).trans hv7)) ?_
        refine ls_sub (sput (sput s0 1 (some (Ck.var 35 g2 (en (Value.int .u32) (vrep 64 (0 : Int)).1)))) 2 (some (Ck.var 35 g3 (en (Value.int .u32) m2_2.1)))) (sub_put ((hS 2 (by kernel_rfl)).trans (by exact rfl)) (sub_put ((hS 1 (by kernel_rfl)).trans (by exact rfl)) (sub_nil _))) ?_
        refine ls_val (v := .int .u32 y12) rfl rfl (by kernel_rfl) (fun w => by kernel_rfl) ?_
        refine ls_end ?_
        refine qn_then ?_
        obtain ⟨s15_0, hs15_0⟩ : ∃ z : Value → Sto → Prop, z = (fun v R => v = .int .i64 x6_2 ∧ R = s0) := ⟨_, rfl⟩
        refine have_op (l := [_, _, _, _, _, _, _, _, _, _, _, _, _, _, _, _, _, _, _, _, _, _, _, _, _, _, _, _, _, _]) sha_spread.tab13 75 0 (fun sp => sp 0 = s15_0) (fun sp on hA hon => ?_) (fun ops15_0 => ?_)
        · refine ⟨fun o ho vs Rs f' S' w hp hf hx hS hR hs => ?_⟩
          obtain rfl := Option.some.inj ho
          rw [hA, hs15_0]
          refine And.intro (fun a ha => (want_none rfl a ha).trans hon.symm) (And.intro (fun _ => ?_) (fun h => by rw [hon] at h; cases h))
          have hF := fr_next (rfl) ((hx 6 (by kernel_rfl)).trans (by kernel_rfl : (_ : Value) = .int .i64 x6_2))
          refine ls_fr hF ?_
          refine ls_val (v := .int .i64 x6_2) rfl rfl (by kernel_rfl) (fun w => by kernel_rfl) ?_
          exact ls_fin s0 (.int .i64 x6_2) (congrArg (fun z => upd z 38 _) hF.symm) ⟨rfl, rfl⟩ (sub_nil _)
        obtain ⟨s15_1, hs15_1⟩ : ∃ z : Value → Sto → Prop, z = (fun v R => v = .int .u32 y8 ∧ R = s0) := ⟨_, rfl⟩
        refine have_op (l := [_, _, _, _, _, _, _, _, _, _, _, _, _, _, _, _, _, _, _, _, _, _, _, _, _, _, _, _, _, _]) sha_spread.tab13 75 1 (fun sp => sp 1 = s15_1) (fun sp on hA hon => ?_) (fun ops15_1 => ?_)
        · refine ⟨fun o ho vs Rs f' S' w hp hf hx hS hR hs => ?_⟩
          obtain rfl := Option.some.inj ho
          rw [hA, hs15_1]
          refine And.intro (fun a ha => (want_none rfl a ha).trans hon.symm) (And.intro (fun _ => ?_) (fun h => by rw [hon] at h; cases h))
          have hF := fr_next (rfl) ((hx 7 (by kernel_rfl)).trans (by kernel_rfl : (_ : Value) = .int .u32 y8))
          refine ls_fr hF ?_
          refine ls_val (v := .int .u32 y8) rfl rfl (by kernel_rfl) (fun w => by kernel_rfl) ?_
          exact ls_fin s0 (.int .u32 y8) (congrArg (fun z => upd z 39 _) hF.symm) ⟨rfl, rfl⟩ (sub_nil _)
        obtain ⟨t16, hc17, H⟩ := bind_some H
        obtain ⟨s15_2, hs15_2⟩ : ∃ z : Value → Sto → Prop, z = (fun v R => ∃ x18 : Unit, v = .int .u32 t16 ∧ R = stl []) := ⟨_, rfl⟩
        refine have_op (l := [_, _, _, _, _, _, _, _, _, _, _, _, _, _, _, _, _, _, _, _, _, _, _, _, _, _, _, _, _, _]) sha_spread.tab13 75 2 (fun sp => sp 2 = s15_2 ∧ sp 1 = s15_1) (fun sp on hA hon => ?_) (fun ops15_2 => ?_)
        · refine ⟨fun o ho vs Rs f' S' w hp hf hx hS hR hs => ?_⟩
          obtain rfl := Option.some.inj ho
          obtain ⟨hv1, hR1⟩ := (spe hA.2 hs15_1 (hp 1 (by kernel_rfl)))
          rw [hA.1, hs15_2]
          refine And.intro (fun a ha => (want_none rfl a ha).trans hon.symm) (And.intro (fun _ => ?_) (fun h => by rw [hon] at h; cases h))
          have hF := fr_next (rfl) ((hf 1 39 (by kernel_rfl) rfl).trans hv1)
          refine ls_fr hF ?_
          refine ls_call (fid := 31) (vals := #[.int .u32 y8, .int .i64 (17 : Int)]) (X := Unit) (fun x => .int .u32 t16) (fun x => stl []) 0 rfl rfl (by kernel_rfl) (fun w => by kernel_rfl) (fun w1 hs1 => sha_down.calls k2 y8 (17 : Int) t16 (bw w1) (St.refl w1)  hc17) ?_
          intro x18
          exact ls_fin (stl []) (.int .u32 t16) (congrArg (fun z => upd z 40 _) hF.symm) ⟨x18, rfl, rfl⟩ (sub_join _)
        obtain ⟨s15_3, hs15_3⟩ : ∃ z : Value → Sto → Prop, z = (fun v R => v = .int .u32 y8 ∧ R = s0) := ⟨_, rfl⟩
        refine have_op (l := [_, _, _, _, _, _, _, _, _, _, _, _, _, _, _, _, _, _, _, _, _, _, _, _, _, _, _, _, _, _]) sha_spread.tab13 75 3 (fun sp => sp 3 = s15_3) (fun sp on hA hon => ?_) (fun ops15_3 => ?_)
        · refine ⟨fun o ho vs Rs f' S' w hp hf hx hS hR hs => ?_⟩
          obtain rfl := Option.some.inj ho
          rw [hA, hs15_3]
          refine And.intro (fun a ha => (want_none rfl a ha).trans hon.symm) (And.intro (fun _ => ?_) (fun h => by rw [hon] at h; cases h))
          have hF := fr_next (rfl) ((hx 7 (by kernel_rfl)).trans (by kernel_rfl : (_ : Value) = .int .u32 y8))
          refine ls_fr hF ?_
          refine ls_val (v := .int .u32 y8) rfl rfl (by kernel_rfl) (fun w => by kernel_rfl) ?_
          exact ls_fin s0 (.int .u32 y8) (congrArg (fun z => upd z 41 _) hF.symm) ⟨rfl, rfl⟩ (sub_nil _)
        obtain ⟨t19, hc20, H⟩ := bind_some H
        obtain ⟨s15_4, hs15_4⟩ : ∃ z : Value → Sto → Prop, z = (fun v R => ∃ x21 : Unit, v = .int .u32 t19 ∧ R = stl []) := ⟨_, rfl⟩
        refine have_op (l := [_, _, _, _, _, _, _, _, _, _, _, _, _, _, _, _, _, _, _, _, _, _, _, _, _, _, _, _, _, _]) sha_spread.tab13 75 4 (fun sp => sp 4 = s15_4 ∧ sp 3 = s15_3) (fun sp on hA hon => ?_) (fun ops15_4 => ?_)
        · refine ⟨fun o ho vs Rs f' S' w hp hf hx hS hR hs => ?_⟩
          obtain rfl := Option.some.inj ho
          obtain ⟨hv3, hR3⟩ := (spe hA.2 hs15_3 (hp 3 (by kernel_rfl)))
          rw [hA.1, hs15_4]
          refine And.intro (fun a ha => (want_none rfl a ha).trans hon.symm) (And.intro (fun _ => ?_) (fun h => by rw [hon] at h; cases h))
          have hF := fr_next (rfl) ((hf 3 41 (by kernel_rfl) rfl).trans hv3)
          refine ls_fr hF ?_
          refine ls_call (fid := 31) (vals := #[.int .u32 y8, .int .i64 (19 : Int)]) (X := Unit) (fun x => .int .u32 t19) (fun x => stl []) 0 rfl rfl (by kernel_rfl) (fun w => by kernel_rfl) (fun w1 hs1 => sha_down.calls k2 y8 (19 : Int) t19 (bw w1) (St.refl w1)  hc20) ?_
          intro x21
          exact ls_fin (stl []) (.int .u32 t19) (congrArg (fun z => upd z 42 _) hF.symm) ⟨x21, rfl, rfl⟩ (sub_join _)
        obtain ⟨s15_5, hs15_5⟩ : ∃ z : Value → Sto → Prop, z = (fun v R => v = .int .u32 (bits .xor .u32 t16 t19) ∧ R = s0) := ⟨_, rfl⟩
        refine have_op (l := [_, _, _, _, _, _, _, _, _, _, _, _, _, _, _, _, _, _, _, _, _, _, _, _, _, _, _, _, _, _]) sha_spread.tab13 75 5 (fun sp => sp 5 = s15_5 ∧ sp 2 = s15_2 ∧ sp 4 = s15_4) (fun sp on hA hon => ?_) (fun ops15_5 => ?_)
        · refine ⟨fun o ho vs Rs f' S' w hp hf hx hS hR hs => ?_⟩
          obtain rfl := Option.some.inj ho
          obtain ⟨x18, hv2, hR2⟩ := (spe hA.2.1 hs15_2 (hp 2 (by kernel_rfl)))
          obtain ⟨x21, hv4, hR4⟩ := (spe hA.2.2 hs15_4 (hp 4 (by kernel_rfl)))
          rw [hA.1, hs15_5]
          refine And.intro (fun a ha => (want_none rfl a ha).trans hon.symm) (And.intro (fun _ => ?_) (fun h => by rw [hon] at h; cases h))
          have hF := fr_next (fr_next (rfl) ((hf 2 40 (by kernel_rfl) rfl).trans hv2)) ((hf 4 42 (by kernel_rfl) rfl).trans hv4)
          refine ls_fr hF ?_
          refine ls_val (v := .int .u32 (bits .xor .u32 t16 t19)) rfl rfl (by kernel_rfl) (fun w => by kernel_rfl) ?_
          exact ls_fin s0 (.int .u32 (bits .xor .u32 t16 t19)) (congrArg (fun z => upd z 43 _) hF.symm) ⟨rfl, rfl⟩ (sub_nil _)
        obtain ⟨s15_6, hs15_6⟩ : ∃ z : Value → Sto → Prop, z = (fun v R => v = .int .u32 y8 ∧ R = s0) := ⟨_, rfl⟩
        refine have_op (l := [_, _, _, _, _, _, _, _, _, _, _, _, _, _, _, _, _, _, _, _, _, _, _, _, _, _, _, _, _, _]) sha_spread.tab13 75 6 (fun sp => sp 6 = s15_6) (fun sp on hA hon => ?_) (fun ops15_6 => ?_)
        · refine ⟨fun o ho vs Rs f' S' w hp hf hx hS hR hs => ?_⟩
          obtain rfl := Option.some.inj ho
          rw [hA, hs15_6]
          refine And.intro (fun a ha => (want_none rfl a ha).trans hon.symm) (And.intro (fun _ => ?_) (fun h => by rw [hon] at h; cases h))
          have hF := fr_next (rfl) ((hx 7 (by kernel_rfl)).trans (by kernel_rfl : (_ : Value) = .int .u32 y8))
          refine ls_fr hF ?_
          refine ls_val (v := .int .u32 y8) rfl rfl (by kernel_rfl) (fun w => by kernel_rfl) ?_
          exact ls_fin s0 (.int .u32 y8) (congrArg (fun z => upd z 44 _) hF.symm) ⟨rfl, rfl⟩ (sub_nil _)
        obtain ⟨s15_7, hs15_7⟩ : ∃ z : Value → Sto → Prop, z = (fun v R => v = .int .u32 (Int.fdiv y8 1024) ∧ R = s0) := ⟨_, rfl⟩
        refine have_op (l := [_, _, _, _, _, _, _, _, _, _, _, _, _, _, _, _, _, _, _, _, _, _, _, _, _, _, _, _, _, _]) sha_spread.tab13 75 7 (fun sp => sp 7 = s15_7 ∧ sp 6 = s15_6) (fun sp on hA hon => ?_) (fun ops15_7 => ?_)
        · refine ⟨fun o ho vs Rs f' S' w hp hf hx hS hR hs => ?_⟩
          obtain rfl := Option.some.inj ho
          obtain ⟨hv6, hR6⟩ := (spe hA.2 hs15_6 (hp 6 (by kernel_rfl)))
          rw [hA.1, hs15_7]
          refine And.intro (fun a ha => (want_none rfl a ha).trans hon.symm) (And.intro (fun _ => ?_) (fun h => by rw [hon] at h; cases h))
          have hF := fr_next (rfl) ((hf 6 44 (by kernel_rfl) rfl).trans hv6)
          refine ls_fr hF ?_
          refine ls_val (v := .int .u32 (Int.fdiv y8 1024)) rfl rfl (by kernel_rfl) (fun w => by kernel_rfl) ?_
          exact ls_fin s0 (.int .u32 (Int.fdiv y8 1024)) (congrArg (fun z => upd z 45 _) hF.symm) ⟨rfl, rfl⟩ (sub_nil _)
        obtain ⟨y22, hy23, H⟩ := lt_some H
        obtain ⟨s15_8, hs15_8⟩ : ∃ z : Value → Sto → Prop, z = (fun v R => v = .int .u32 y22 ∧ R = s0) := ⟨_, rfl⟩
        refine have_op (l := [_, _, _, _, _, _, _, _, _, _, _, _, _, _, _, _, _, _, _, _, _, _, _, _, _, _, _, _, _, _]) sha_spread.tab13 75 8 (fun sp => sp 8 = s15_8 ∧ sp 5 = s15_5 ∧ sp 7 = s15_7) (fun sp on hA hon => ?_) (fun ops15_8 => ?_)
        · refine ⟨fun o ho vs Rs f' S' w hp hf hx hS hR hs => ?_⟩
          obtain rfl := Option.some.inj ho
          obtain ⟨hv5, hR5⟩ := (spe hA.2.1 hs15_5 (hp 5 (by kernel_rfl)))
          obtain ⟨hv7, hR7⟩ := (spe hA.2.2 hs15_7 (hp 7 (by kernel_rfl)))
          rw [hA.1, hs15_8]
          refine And.intro (fun a ha => (want_none rfl a ha).trans hon.symm) (And.intro (fun _ => ?_) (fun h => by rw [hon] at h; cases h))
          have hF := fr_next (fr_next (rfl) ((hf 5 43 (by kernel_rfl) rfl).trans hv5)) ((hf 7 45 (by kernel_rfl) rfl).trans hv7)
          refine ls_fr hF ?_
          refine ls_val (v := .int .u32 (bits .xor .u32 (bits .xor .u32 t16 t19) (Int.fdiv y8 1024))) rfl rfl (by kernel_rfl) (fun w => by kernel_rfl) ?_
          refine ls_ren 46 (v := .int .u32 (bits .xor .u32 (bits .xor .u32 t16 t19) (Int.fdiv y8 1024))) (v' := .int .u32 y22) (by kernel_rfl) (by rw [hy23]) ?_
          exact ls_fin s0 (.int .u32 y22) ((upd_upd _ _ _ _).trans (congrArg (fun z => upd z 46 _) hF.symm)) ⟨rfl, rfl⟩ (sub_nil _)
        obtain ⟨s15_9, hs15_9⟩ : ∃ z : Value → Sto → Prop, z = (fun v R => v = .int .i64 x6_2 ∧ R = s0) := ⟨_, rfl⟩
        refine have_op (l := [_, _, _, _, _, _, _, _, _, _, _, _, _, _, _, _, _, _, _, _, _, _, _, _, _, _, _, _, _, _]) sha_spread.tab13 75 9 (fun sp => sp 9 = s15_9) (fun sp on hA hon => ?_) (fun ops15_9 => ?_)
        · refine ⟨fun o ho vs Rs f' S' w hp hf hx hS hR hs => ?_⟩
          obtain rfl := Option.some.inj ho
          rw [hA, hs15_9]
          refine And.intro (fun a ha => (want_none rfl a ha).trans hon.symm) (And.intro (fun _ => ?_) (fun h => by rw [hon] at h; cases h))
          have hF := fr_next (rfl) ((hx 6 (by kernel_rfl)).trans (by kernel_rfl : (_ : Value) = .int .i64 x6_2))
          refine ls_fr hF ?_
          refine ls_val (v := .int .i64 x6_2) rfl rfl (by kernel_rfl) (fun w => by kernel_rfl) ?_
          exact ls_fin s0 (.int .i64 x6_2) (congrArg (fun z => upd z 47 _) hF.symm) ⟨rfl, rfl⟩ (sub_nil _)
        obtain ⟨s15_10, hs15_10⟩ : ∃ z : Value → Sto → Prop, z = (fun v R => v = .int .i64 (IntKind.wrap .i64 (x6_2 - (7 : Int))) ∧ R = s0) := ⟨_, rfl⟩
        refine have_op (l := [_, _, _, _, _, _, _, _, _, _, _, _, _, _, _, _, _, _, _, _, _, _, _, _, _, _, _, _, _, _]) sha_spread.tab13 75 10 (fun sp => sp 10 = s15_10 ∧ sp 9 = s15_9) (fun sp on hA hon => ?_) (fun ops15_10 => ?_)
        · refine ⟨fun o ho vs Rs f' S' w hp hf hx hS hR hs => ?_⟩
          obtain rfl := Option.some.inj ho
          obtain ⟨hv9, hR9⟩ := (spe hA.2 hs15_9 (hp 9 (by kernel_rfl)))
          rw [hA.1, hs15_10]
          refine And.intro (fun a ha => (want_none rfl a ha).trans hon.symm) (And.intro (fun _ => ?_) (fun h => by rw [hon] at h; cases h))
          have hF := fr_next (rfl) ((hf 9 47 (by kernel_rfl) rfl).trans hv9)
          refine ls_fr hF ?_
          refine ls_val (v := .int .i64 (IntKind.wrap .i64 (x6_2 - (7 : Int)))) rfl rfl (by kernel_rfl) (fun w => by kernel_rfl) ?_
          exact ls_fin s0 (.int .i64 (IntKind.wrap .i64 (x6_2 - (7 : Int)))) (congrArg (fun z => upd z 48 _) hF.symm) ⟨rfl, rfl⟩ (sub_nil _)
        obtain ⟨q24, H⟩ := ite_need H
        obtain ⟨q25, H⟩ := ite_need H
        obtain ⟨s15_11, hs15_11⟩ : ∃ z : Value → Sto → Prop, z = (fun v R => v = .pointer (some ⟨g3, (0 + (IntKind.wrap .i64 (x6_2 - (7 : Int))).toNat), none⟩) ∧ R = s0) := ⟨_, rfl⟩
        refine have_op (l := [_, _, _, _, _, _, _, _, _, _, _, _, _, _, _, _, _, _, _, _, _, _, _, _, _, _, _, _, _, _]) sha_spread.tab13 75 11 (fun sp => sp 11 = s15_11 ∧ sp 10 = s15_10) (fun sp on hA hon => ?_) (fun ops15_11 => ?_)
        · refine ⟨fun o ho vs Rs f' S' w hp hf hx hS hR hs => ?_⟩
          obtain rfl := Option.some.inj ho
          obtain ⟨hv10, hR10⟩ := (spe hA.2 hs15_10 (hp 10 (by kernel_rfl)))
          rw [hA.1, hs15_11]
          refine And.intro (fun a ha => (want_none rfl a ha).trans hon.symm) (And.intro (fun _ => ?_) (fun h => by rw [hon] at h; cases h))
          have hF := fr_next (fr_next (rfl) ((hx 3 (by kernel_rfl)).trans (by kernel_rfl : (_ : Value) = .pointer (some ⟨g3, 0, none⟩)))) ((hf 10 48 (by kernel_rfl) rfl).trans hv10)
          refine ls_fr hF ?_
          refine ls_idxa1 (g := g3) (off := 0) (i := IntKind.wrap .i64 (x6_2 - (7 : Int))) (kk := .i64) (ln := 64) (e := 23) rfl rfl (by kernel_rfl) rfl (by kernel_rfl) (by kernel_rfl) (by kernel_rfl) (by kernel_rfl) q24 q25 ?_
          exact ls_fin s0 (.pointer (some ⟨g3, (0 + (IntKind.wrap .i64 (x6_2 - (7 : Int))).toNat), none⟩)) (congrArg (fun z => upd z 49 _) hF.symm) ⟨rfl, rfl⟩ (sub_nil _)
        obtain ⟨y26, hy27, H⟩ := lt_some H
        obtain ⟨s15_12, hs15_12⟩ : ∃ z : Value → Sto → Prop, z = (fun v R => v = .int .u32 y26 ∧ R = s0) := ⟨_, rfl⟩
        refine have_op (l := [_, _, _, _, _, _, _, _, _, _, _, _, _, _, _, _, _, _, _, _, _, _, _, _, _, _, _, _, _, _]) sha_spread.tab13 75 12 (fun sp => sp 12 = s15_12 ∧ sp 11 = s15_11) (fun sp on hA hon => ?_) (fun ops15_12 => ?_)
        · refine ⟨fun o ho vs Rs f' S' w hp hf hx hS hR hs => ?_⟩
          obtain rfl := Option.some.inj ho
          obtain ⟨hv11, hR11⟩ := (spe hA.2 hs15_11 (hp 11 (by kernel_rfl)))
          rw [hA.1, hs15_12]
          refine And.intro (fun a ha => (want_none rfl a ha).trans hon.symm) (And.intro (fun _ => ?_) (fun h => by rw [hon] at h; cases h))
          have hF := fr_next (rfl) ((hf 11 49 (by kernel_rfl) rfl).trans hv11)
          refine ls_fr hF ?_
          refine ls_load (a0 := ⟨g3, (0 + (IntKind.wrap .i64 (x6_2 - (7 : Int))).toNat), none⟩) (v := .int .u32 (m2_2.1.getD (IntKind.wrap .i64 (x6_2 - (7 : Int))).toNat (0 : Int))) (de := (TypeDesc.int .u32)) rfl rfl (by kernel_rfl) rfl (by kernel_rfl) (by kernel_rfl) (by kernel_rfl) (fun w1 hs1 => cell_step hs1.below.bw (hs.var (k := 2) ((hS 2 (by kernel_rfl)).trans (by exact rfl)) (Sub4.trans (Sub4.all _) (Sub4.one (Value.int .u32) m2_2.1 0 (by have := m2_2.2; omega))))) ?_
          refine ls_ren 50 (v := .int .u32 (m2_2.1.getD (IntKind.wrap .i64 (x6_2 - (7 : Int))).toNat (0 : Int))) (v' := .int .u32 y26) (by kernel_rfl) (by rw [hy27]) ?_
          exact ls_fin s0 (.int .u32 y26) ((upd_upd _ _ _ _).trans (congrArg (fun z => upd z 50 _) hF.symm)) ⟨rfl, rfl⟩ (sub_nil _)
        obtain ⟨s15_13, hs15_13⟩ : ∃ z : Value → Sto → Prop, z = (fun v R => v = .int .u32 (IntKind.wrap .u32 (y22 + y26)) ∧ R = s0) := ⟨_, rfl⟩
        refine have_op (l := [_, _, _, _, _, _, _, _, _, _, _, _, _, _, _, _, _, _, _, _, _, _, _, _, _, _, _, _, _, _]) sha_spread.tab13 75 13 (fun sp => sp 13 = s15_13 ∧ sp 8 = s15_8 ∧ sp 12 = s15_12) (fun sp on hA hon => ?_) (fun ops15_13 => ?_)
        · refine ⟨fun o ho vs Rs f' S' w hp hf hx hS hR hs => ?_⟩
          obtain rfl := Option.some.inj ho
          obtain ⟨hv8, hR8⟩ := (spe hA.2.1 hs15_8 (hp 8 (by kernel_rfl)))
          obtain ⟨hv12, hR12⟩ := (spe hA.2.2 hs15_12 (hp 12 (by kernel_rfl)))
          rw [hA.1, hs15_13]
          refine And.intro (fun a ha => (want_none rfl a ha).trans hon.symm) (And.intro (fun _ => ?_) (fun h => by rw [hon] at h; cases h))
          have hF := fr_next (fr_next (rfl) ((hf 8 46 (by kernel_rfl) rfl).trans hv8)) ((hf 12 50 (by kernel_rfl) rfl).trans hv12)
          refine ls_fr hF ?_
          refine ls_val (v := .int .u32 (IntKind.wrap .u32 (y22 + y26))) rfl rfl (by kernel_rfl) (fun w => by kernel_rfl) ?_
          exact ls_fin s0 (.int .u32 (IntKind.wrap .u32 (y22 + y26))) (congrArg (fun z => upd z 51 _) hF.symm) ⟨rfl, rfl⟩ (sub_nil _)
        obtain ⟨s15_14, hs15_14⟩ : ∃ z : Value → Sto → Prop, z = (fun v R => v = .int .u32 y12 ∧ R = s0) := ⟨_, rfl⟩
        refine have_op (l := [_, _, _, _, _, _, _, _, _, _, _, _, _, _, _, _, _, _, _, _, _, _, _, _, _, _, _, _, _, _]) sha_spread.tab13 75 14 (fun sp => sp 14 = s15_14) (fun sp on hA hon => ?_) (fun ops15_14 => ?_)
        · refine ⟨fun o ho vs Rs f' S' w hp hf hx hS hR hs => ?_⟩
          obtain rfl := Option.some.inj ho
          rw [hA, hs15_14]
          refine And.intro (fun a ha => (want_none rfl a ha).trans hon.symm) (And.intro (fun _ => ?_) (fun h => by rw [hon] at h; cases h))
          have hF := fr_next (rfl) ((hx 8 (by kernel_rfl)).trans (by kernel_rfl : (_ : Value) = .int .u32 y12))
          refine ls_fr hF ?_
          refine ls_val (v := .int .u32 y12) rfl rfl (by kernel_rfl) (fun w => by kernel_rfl) ?_
          exact ls_fin s0 (.int .u32 y12) (congrArg (fun z => upd z 52 _) hF.symm) ⟨rfl, rfl⟩ (sub_nil _)
        obtain ⟨t28, hc29, H⟩ := bind_some H
        obtain ⟨s15_15, hs15_15⟩ : ∃ z : Value → Sto → Prop, z = (fun v R => ∃ x30 : Unit, v = .int .u32 t28 ∧ R = stl []) := ⟨_, rfl⟩
        refine have_op (l := [_, _, _, _, _, _, _, _, _, _, _, _, _, _, _, _, _, _, _, _, _, _, _, _, _, _, _, _, _, _]) sha_spread.tab13 75 15 (fun sp => sp 15 = s15_15 ∧ sp 14 = s15_14) (fun sp on hA hon => ?_) (fun ops15_15 => ?_)
        · refine ⟨fun o ho vs Rs f' S' w hp hf hx hS hR hs => ?_⟩
          obtain rfl := Option.some.inj ho
          obtain ⟨hv14, hR14⟩ := (spe hA.2 hs15_14 (hp 14 (by kernel_rfl)))
          rw [hA.1, hs15_15]
          refine And.intro (fun a ha => (want_none rfl a ha).trans hon.symm) (And.intro (fun _ => ?_) (fun h => by rw [hon] at h; cases h))
          have hF := fr_next (rfl) ((hf 14 52 (by kernel_rfl) rfl).trans hv14)
          refine ls_fr hF ?_
          refine ls_call (fid := 31) (vals := #[.int .u32 y12, .int .i64 (7 : Int)]) (X := Unit) (fun x => .int .u32 t28) (fun x => stl []) 0 rfl rfl (by kernel_rfl) (fun w => by kernel_rfl) (fun w1 hs1 => sha_down.calls k2 y12 (7 : Int) t28 (bw w1) (St.refl w1)  hc29) ?_
          intro x30
          exact ls_fin (stl []) (.int .u32 t28) (congrArg (fun z => upd z 53 _) hF.symm) ⟨x30, rfl, rfl⟩ (sub_join _)
        obtain ⟨s15_16, hs15_16⟩ : ∃ z : Value → Sto → Prop, z = (fun v R => v = .int .u32 y12 ∧ R = s0) := ⟨_, rfl⟩
        refine have_op (l := [_, _, _, _, _, _, _, _, _, _, _, _, _, _, _, _, _, _, _, _, _, _, _, _, _, _, _, _, _, _]) sha_spread.tab13 75 16 (fun sp => sp 16 = s15_16) (fun sp on hA hon => ?_) (fun ops15_16 => ?_)
        · refine ⟨fun o ho vs Rs f' S' w hp hf hx hS hR hs => ?_⟩
          obtain rfl := Option.some.inj ho
          rw [hA, hs15_16]
          refine And.intro (fun a ha => (want_none rfl a ha).trans hon.symm) (And.intro (fun _ => ?_) (fun h => by rw [hon] at h; cases h))
          have hF := fr_next (rfl) ((hx 8 (by kernel_rfl)).trans (by kernel_rfl : (_ : Value) = .int .u32 y12))
          refine ls_fr hF ?_
          refine ls_val (v := .int .u32 y12) rfl rfl (by kernel_rfl) (fun w => by kernel_rfl) ?_
          exact ls_fin s0 (.int .u32 y12) (congrArg (fun z => upd z 54 _) hF.symm) ⟨rfl, rfl⟩ (sub_nil _)
        obtain ⟨t31, hc32, H⟩ := bind_some H
        obtain ⟨s15_17, hs15_17⟩ : ∃ z : Value → Sto → Prop, z = (fun v R => ∃ x33 : Unit, v = .int .u32 t31 ∧ R = stl []) := ⟨_, rfl⟩
        refine have_op (l := [_, _, _, _, _, _, _, _, _, _, _, _, _, _, _, _, _, _, _, _, _, _, _, _, _, _, _, _, _, _]) sha_spread.tab13 75 17 (fun sp => sp 17 = s15_17 ∧ sp 16 = s15_16) (fun sp on hA hon => ?_) (fun ops15_17 => ?_)
        · refine ⟨fun o ho vs Rs f' S' w hp hf hx hS hR hs => ?_⟩
          obtain rfl := Option.some.inj ho
          obtain ⟨hv16, hR16⟩ := (spe hA.2 hs15_16 (hp 16 (by kernel_rfl)))
          rw [hA.1, hs15_17]
          refine And.intro (fun a ha => (want_none rfl a ha).trans hon.symm) (And.intro (fun _ => ?_) (fun h => by rw [hon] at h; cases h))
          have hF := fr_next (rfl) ((hf 16 54 (by kernel_rfl) rfl).trans hv16)
          refine ls_fr hF ?_
          refine ls_call (fid := 31) (vals := #[.int .u32 y12, .int .i64 (18 : Int)]) (X := Unit) (fun x => .int .u32 t31) (fun x => stl []) 0 rfl rfl (by kernel_rfl) (fun w => by kernel_rfl) (fun w1 hs1 => sha_down.calls k2 y12 (18 : Int) t31 (bw w1) (St.refl w1)  hc32) ?_
          intro x33
          exact ls_fin (stl []) (.int .u32 t31) (congrArg (fun z => upd z 55 _) hF.symm) ⟨x33, rfl, rfl⟩ (sub_join _)
        obtain ⟨s15_18, hs15_18⟩ : ∃ z : Value → Sto → Prop, z = (fun v R => v = .int .u32 (bits .xor .u32 t28 t31) ∧ R = s0) := ⟨_, rfl⟩
        refine have_op (l := [_, _, _, _, _, _, _, _, _, _, _, _, _, _, _, _, _, _, _, _, _, _, _, _, _, _, _, _, _, _]) sha_spread.tab13 75 18 (fun sp => sp 18 = s15_18 ∧ sp 15 = s15_15 ∧ sp 17 = s15_17) (fun sp on hA hon => ?_) (fun ops15_18 => ?_)
        · refine ⟨fun o ho vs Rs f' S' w hp hf hx hS hR hs => ?_⟩
          obtain rfl := Option.some.inj ho
          obtain ⟨x30, hv15, hR15⟩ := (spe hA.2.1 hs15_15 (hp 15 (by kernel_rfl)))
          obtain ⟨x33, hv17, hR17⟩ := (spe hA.2.2 hs15_17 (hp 17 (by kernel_rfl)))
          rw [hA.1, hs15_18]
          refine And.intro (fun a ha => (want_none rfl a ha).trans hon.symm) (And.intro (fun _ => ?_) (fun h => by rw [hon] at h; cases h))
          have hF := fr_next (fr_next (rfl) ((hf 15 53 (by kernel_rfl) rfl).trans hv15)) ((hf 17 55 (by kernel_rfl) rfl).trans hv17)
          refine ls_fr hF ?_
          refine ls_val (v := .int .u32 (bits .xor .u32 t28 t31)) rfl rfl (by kernel_rfl) (fun w => by kernel_rfl) ?_
          exact ls_fin s0 (.int .u32 (bits .xor .u32 t28 t31)) (congrArg (fun z => upd z 56 _) hF.symm) ⟨rfl, rfl⟩ (sub_nil _)
        obtain ⟨s15_19, hs15_19⟩ : ∃ z : Value → Sto → Prop, z = (fun v R => v = .int .u32 y12 ∧ R = s0) := ⟨_, rfl⟩
        refine have_op (l := [_, _, _, _, _, _, _, _, _, _, _, _, _, _, _, _, _, _, _, _, _, _, _, _, _, _, _, _, _, _]) sha_spread.tab13 75 19 (fun sp => sp 19 = s15_19) (fun sp on hA hon => ?_) (fun ops15_19 => ?_)
        · refine ⟨fun o ho vs Rs f' S' w hp hf hx hS hR hs => ?_⟩
          obtain rfl := Option.some.inj ho
          rw [hA, hs15_19]
          refine And.intro (fun a ha => (want_none rfl a ha).trans hon.symm) (And.intro (fun _ => ?_) (fun h => by rw [hon] at h; cases h))
          have hF := fr_next (rfl) ((hx 8 (by kernel_rfl)).trans (by kernel_rfl : (_ : Value) = .int .u32 y12))
          refine ls_fr hF ?_
          refine ls_val (v := .int .u32 y12) rfl rfl (by kernel_rfl) (fun w => by kernel_rfl) ?_
          exact ls_fin s0 (.int .u32 y12) (congrArg (fun z => upd z 57 _) hF.symm) ⟨rfl, rfl⟩ (sub_nil _)
        obtain ⟨s15_20, hs15_20⟩ : ∃ z : Value → Sto → Prop, z = (fun v R => v = .int .u32 (Int.fdiv y12 8) ∧ R = s0) := ⟨_, rfl⟩
        refine have_op (l := [_, _, _, _, _, _, _, _, _, _, _, _, _, _, _, _, _, _, _, _, _, _, _, _, _, _, _, _, _, _]) sha_spread.tab13 75 20 (fun sp => sp 20 = s15_20 ∧ sp 19 = s15_19) (fun sp on hA hon => ?_) (fun ops15_20 => ?_)
        · refine ⟨fun o ho vs Rs f' S' w hp hf hx hS hR hs => ?_⟩
          obtain rfl := Option.some.inj ho
          obtain ⟨hv19, hR19⟩ := (spe hA.2 hs15_19 (hp 19 (by kernel_rfl)))
          rw [hA.1, hs15_20]
          refine And.intro (fun a ha => (want_none rfl a ha).trans hon.symm) (And.intro (fun _ => ?_) (fun h => by rw [hon] at h; cases h))
          have hF := fr_next (rfl) ((hf 19 57 (by kernel_rfl) rfl).trans hv19)
          refine ls_fr hF ?_
          refine ls_val (v := .int .u32 (Int.fdiv y12 8)) rfl rfl (by kernel_rfl) (fun w => by kernel_rfl) ?_
          exact ls_fin s0 (.int .u32 (Int.fdiv y12 8)) (congrArg (fun z => upd z 58 _) hF.symm) ⟨rfl, rfl⟩ (sub_nil _)
        obtain ⟨y34, hy35, H⟩ := lt_some H
        obtain ⟨s15_21, hs15_21⟩ : ∃ z : Value → Sto → Prop, z = (fun v R => v = .int .u32 y34 ∧ R = s0) := ⟨_, rfl⟩
        refine have_op (l := [_, _, _, _, _, _, _, _, _, _, _, _, _, _, _, _, _, _, _, _, _, _, _, _, _, _, _, _, _, _]) sha_spread.tab13 75 21 (fun sp => sp 21 = s15_21 ∧ sp 18 = s15_18 ∧ sp 20 = s15_20) (fun sp on hA hon => ?_) (fun ops15_21 => ?_)
        · refine ⟨fun o ho vs Rs f' S' w hp hf hx hS hR hs => ?_⟩
          obtain rfl := Option.some.inj ho
          obtain ⟨hv18, hR18⟩ := (spe hA.2.1 hs15_18 (hp 18 (by kernel_rfl)))
          obtain ⟨hv20, hR20⟩ := (spe hA.2.2 hs15_20 (hp 20 (by kernel_rfl)))
          rw [hA.1, hs15_21]
          refine And.intro (fun a ha => (want_none rfl a ha).trans hon.symm) (And.intro (fun _ => ?_) (fun h => by rw [hon] at h; cases h))
          have hF := fr_next (fr_next (rfl) ((hf 18 56 (by kernel_rfl) rfl).trans hv18)) ((hf 20 58 (by kernel_rfl) rfl).trans hv20)
          refine ls_fr hF ?_
          refine ls_val (v := .int .u32 (bits .xor .u32 (bits .xor .u32 t28 t31) (Int.fdiv y12 8))) rfl rfl (by kernel_rfl) (fun w => by kernel_rfl) ?_
          refine ls_ren 59 (v := .int .u32 (bits .xor .u32 (bits .xor .u32 t28 t31) (Int.fdiv y12 8))) (v' := .int .u32 y34) (by kernel_rfl) (by rw [hy35]) ?_
          exact ls_fin s0 (.int .u32 y34) ((upd_upd _ _ _ _).trans (congrArg (fun z => upd z 59 _) hF.symm)) ⟨rfl, rfl⟩ (sub_nil _)
        obtain ⟨y36, hy37, H⟩ := lt_some H
        obtain ⟨s15_22, hs15_22⟩ : ∃ z : Value → Sto → Prop, z = (fun v R => v = .int .u32 y36 ∧ R = s0) := ⟨_, rfl⟩
        refine have_op (l := [_, _, _, _, _, _, _, _, _, _, _, _, _, _, _, _, _, _, _, _, _, _, _, _, _, _, _, _, _, _]) sha_spread.tab13 75 22 (fun sp => sp 22 = s15_22 ∧ sp 13 = s15_13 ∧ sp 21 = s15_21) (fun sp on hA hon => ?_) (fun ops15_22 => ?_)
        · refine ⟨fun o ho vs Rs f' S' w hp hf hx hS hR hs => ?_⟩
          obtain rfl := Option.some.inj ho
          obtain ⟨hv13, hR13⟩ := (spe hA.2.1 hs15_13 (hp 13 (by kernel_rfl)))
          obtain ⟨hv21, hR21⟩ := (spe hA.2.2 hs15_21 (hp 21 (by kernel_rfl)))
          rw [hA.1, hs15_22]
          refine And.intro (fun a ha => (want_none rfl a ha).trans hon.symm) (And.intro (fun _ => ?_) (fun h => by rw [hon] at h; cases h))
          have hF := fr_next (fr_next (rfl) ((hf 13 51 (by kernel_rfl) rfl).trans hv13)) ((hf 21 59 (by kernel_rfl) rfl).trans hv21)
          refine ls_fr hF ?_
          refine ls_val (v := .int .u32 (IntKind.wrap .u32 ((IntKind.wrap .u32 (y22 + y26)) + y34))) rfl rfl (by kernel_rfl) (fun w => by kernel_rfl) ?_
          refine ls_ren 60 (v := .int .u32 (IntKind.wrap .u32 ((IntKind.wrap .u32 (y22 + y26)) + y34))) (v' := .int .u32 y36) (by kernel_rfl) (by rw [hy37]) ?_
          exact ls_fin s0 (.int .u32 y36) ((upd_upd _ _ _ _).trans (congrArg (fun z => upd z 60 _) hF.symm)) ⟨rfl, rfl⟩ (sub_nil _)
        obtain ⟨s15_23, hs15_23⟩ : ∃ z : Value → Sto → Prop, z = (fun v R => v = .int .i64 x6_2 ∧ R = s0) := ⟨_, rfl⟩
        refine have_op (l := [_, _, _, _, _, _, _, _, _, _, _, _, _, _, _, _, _, _, _, _, _, _, _, _, _, _, _, _, _, _]) sha_spread.tab13 75 23 (fun sp => sp 23 = s15_23) (fun sp on hA hon => ?_) (fun ops15_23 => ?_)
        · refine ⟨fun o ho vs Rs f' S' w hp hf hx hS hR hs => ?_⟩
          obtain rfl := Option.some.inj ho
          rw [hA, hs15_23]
          refine And.intro (fun a ha => (want_none rfl a ha).trans hon.symm) (And.intro (fun _ => ?_) (fun h => by rw [hon] at h; cases h))
          have hF := fr_next (rfl) ((hx 6 (by kernel_rfl)).trans (by kernel_rfl : (_ : Value) = .int .i64 x6_2))
          refine ls_fr hF ?_
          refine ls_val (v := .int .i64 x6_2) rfl rfl (by kernel_rfl) (fun w => by kernel_rfl) ?_
          exact ls_fin s0 (.int .i64 x6_2) (congrArg (fun z => upd z 61 _) hF.symm) ⟨rfl, rfl⟩ (sub_nil _)
        obtain ⟨s15_24, hs15_24⟩ : ∃ z : Value → Sto → Prop, z = (fun v R => v = .int .i64 (IntKind.wrap .i64 (x6_2 - (16 : Int))) ∧ R = s0) := ⟨_, rfl⟩
        refine have_op (l := [_, _, _, _, _, _, _, _, _, _, _, _, _, _, _, _, _, _, _, _, _, _, _, _, _, _, _, _, _, _]) sha_spread.tab13 75 24 (fun sp => sp 24 = s15_24 ∧ sp 23 = s15_23) (fun sp on hA hon => ?_) (fun ops15_24 => ?_)
        · refine ⟨fun o ho vs Rs f' S' w hp hf hx hS hR hs => ?_⟩
          obtain rfl := Option.some.inj ho
          obtain ⟨hv23, hR23⟩ := (spe hA.2 hs15_23 (hp 23 (by kernel_rfl)))
          rw [hA.1, hs15_24]
          refine And.intro (fun a ha => (want_none rfl a ha).trans hon.symm) (And.intro (fun _ => ?_) (fun h => by rw [hon] at h; cases h))
          have hF := fr_next (rfl) ((hf 23 61 (by kernel_rfl) rfl).trans hv23)
          refine ls_fr hF ?_
          refine ls_val (v := .int .i64 (IntKind.wrap .i64 (x6_2 - (16 : Int)))) rfl rfl (by kernel_rfl) (fun w => by kernel_rfl) ?_
          exact ls_fin s0 (.int .i64 (IntKind.wrap .i64 (x6_2 - (16 : Int)))) (congrArg (fun z => upd z 62 _) hF.symm) ⟨rfl, rfl⟩ (sub_nil _)
        obtain ⟨q38, H⟩ := ite_need H
        obtain ⟨q39, H⟩ := ite_need H
        obtain ⟨s15_25, hs15_25⟩ : ∃ z : Value → Sto → Prop, z = (fun v R => v = .pointer (some ⟨g3, (0 + (IntKind.wrap .i64 (x6_2 - (16 : Int))).toNat), none⟩) ∧ R = s0) := ⟨_, rfl⟩
        refine have_op (l := [_, _, _, _, _, _, _, _, _, _, _, _, _, _, _, _, _, _, _, _, _, _, _, _, _, _, _, _, _, _]) sha_spread.tab13 75 25 (fun sp => sp 25 = s15_25 ∧ sp 24 = s15_24) (fun sp on hA hon => ?_) (fun ops15_25 => ?_)
        · refine ⟨fun o ho vs Rs f' S' w hp hf hx hS hR hs => ?_⟩
          obtain rfl := Option.some.inj ho
          obtain ⟨hv24, hR24⟩ := (spe hA.2 hs15_24 (hp 24 (by kernel_rfl)))
          rw [hA.1, hs15_25]
          refine And.intro (fun a ha => (want_none rfl a ha).trans hon.symm) (And.intro (fun _ => ?_) (fun h => by rw [hon] at h; cases h))
          have hF := fr_next (fr_next (rfl) ((hx 3 (by kernel_rfl)).trans (by kernel_rfl : (_ : Value) = .pointer (some ⟨g3, 0, none⟩)))) ((hf 24 62 (by kernel_rfl) rfl).trans hv24)
          refine ls_fr hF ?_
          refine ls_idxa1 (g := g3) (off := 0) (i := IntKind.wrap .i64 (x6_2 - (16 : Int))) (kk := .i64) (ln := 64) (e := 23) rfl rfl (by kernel_rfl) rfl (by kernel_rfl) (by kernel_rfl) (by kernel_rfl) (by kernel_rfl) q38 q39 ?_
          exact ls_fin s0 (.pointer (some ⟨g3, (0 + (IntKind.wrap .i64 (x6_2 - (16 : Int))).toNat), none⟩)) (congrArg (fun z => upd z 63 _) hF.symm) ⟨rfl, rfl⟩ (sub_nil _)
        obtain ⟨y40, hy41, H⟩ := lt_some H
        obtain ⟨s15_26, hs15_26⟩ : ∃ z : Value → Sto → Prop, z = (fun v R => v = .int .u32 y40 ∧ R = s0) := ⟨_, rfl⟩
        refine have_op (l := [_, _, _, _, _, _, _, _, _, _, _, _, _, _, _, _, _, _, _, _, _, _, _, _, _, _, _, _, _, _]) sha_spread.tab13 75 26 (fun sp => sp 26 = s15_26 ∧ sp 25 = s15_25) (fun sp on hA hon => ?_) (fun ops15_26 => ?_)
        · refine ⟨fun o ho vs Rs f' S' w hp hf hx hS hR hs => ?_⟩
          obtain rfl := Option.some.inj ho
          obtain ⟨hv25, hR25⟩ := (spe hA.2 hs15_25 (hp 25 (by kernel_rfl)))
          rw [hA.1, hs15_26]
          refine And.intro (fun a ha => (want_none rfl a ha).trans hon.symm) (And.intro (fun _ => ?_) (fun h => by rw [hon] at h; cases h))
          have hF := fr_next (rfl) ((hf 25 63 (by kernel_rfl) rfl).trans hv25)
          refine ls_fr hF ?_
          refine ls_load (a0 := ⟨g3, (0 + (IntKind.wrap .i64 (x6_2 - (16 : Int))).toNat), none⟩) (v := .int .u32 (m2_2.1.getD (IntKind.wrap .i64 (x6_2 - (16 : Int))).toNat (0 : Int))) (de := (TypeDesc.int .u32)) rfl rfl (by kernel_rfl) rfl (by kernel_rfl) (by kernel_rfl) (by kernel_rfl) (fun w1 hs1 => cell_step hs1.below.bw (hs.var (k := 2) ((hS 2 (by kernel_rfl)).trans (by exact rfl)) (Sub4.trans (Sub4.all _) (Sub4.one (Value.int .u32) m2_2.1 0 (by have := m2_2.2; omega))))) ?_
          refine ls_ren 64 (v := .int .u32 (m2_2.1.getD (IntKind.wrap .i64 (x6_2 - (16 : Int))).toNat (0 : Int))) (v' := .int .u32 y40) (by kernel_rfl) (by rw [hy41]) ?_
          exact ls_fin s0 (.int .u32 y40) ((upd_upd _ _ _ _).trans (congrArg (fun z => upd z 64 _) hF.symm)) ⟨rfl, rfl⟩ (sub_nil _)
        obtain ⟨s15_27, hs15_27⟩ : ∃ z : Value → Sto → Prop, z = (fun v R => v = .int .u32 (IntKind.wrap .u32 (y36 + y40)) ∧ R = s0) := ⟨_, rfl⟩
        refine have_op (l := [_, _, _, _, _, _, _, _, _, _, _, _, _, _, _, _, _, _, _, _, _, _, _, _, _, _, _, _, _, _]) sha_spread.tab13 75 27 (fun sp => sp 27 = s15_27 ∧ sp 22 = s15_22 ∧ sp 26 = s15_26) (fun sp on hA hon => ?_) (fun ops15_27 => ?_)
        · refine ⟨fun o ho vs Rs f' S' w hp hf hx hS hR hs => ?_⟩
          obtain rfl := Option.some.inj ho
          obtain ⟨hv22, hR22⟩ := (spe hA.2.1 hs15_22 (hp 22 (by kernel_rfl)))
          obtain ⟨hv26, hR26⟩ := (spe hA.2.2 hs15_26 (hp 26 (by kernel_rfl)))
          rw [hA.1, hs15_27]
          refine And.intro (fun a ha => (want_none rfl a ha).trans hon.symm) (And.intro (fun _ => ?_) (fun h => by rw [hon] at h; cases h))
          have hF := fr_next (fr_next (rfl) ((hf 22 60 (by kernel_rfl) rfl).trans hv22)) ((hf 26 64 (by kernel_rfl) rfl).trans hv26)
          refine ls_fr hF ?_
          refine ls_val (v := .int .u32 (IntKind.wrap .u32 (y36 + y40))) rfl rfl (by kernel_rfl) (fun w => by kernel_rfl) ?_
          exact ls_fin s0 (.int .u32 (IntKind.wrap .u32 (y36 + y40))) (congrArg (fun z => upd z 65 _) hF.symm) ⟨rfl, rfl⟩ (sub_nil _)
        refine cs_draw sha_spread.tab13 28 75 (spl [s15_0, s15_1, s15_2, s15_3, s15_4, s15_5, s15_6, s15_7, s15_8, s15_9, s15_10, s15_11, s15_12, s15_13, s15_14, s15_15, s15_16, s15_17, s15_18, s15_19, s15_20, s15_21, s15_22, s15_23, s15_24, s15_25, s15_26, s15_27]) (onl [true, true, true, true, true, true, true, true, true, true, true, true, true, true, true, true, true, true, true, true, true, true, true, true, true, true, true, true]) (by kernel_rfl) (by kernel_rfl) (by kernel_rfl) (by kernel_rfl) (rs := [_, _]) rfl (by kernel_rfl) (by kernel_rfl) (all_snoc (all_snoc (all_snoc (all_snoc (all_snoc (all_snoc (all_snoc (all_snoc (all_snoc (all_snoc (all_snoc (all_snoc (all_snoc (all_snoc (all_snoc (all_snoc (all_snoc (all_snoc (all_snoc (all_snoc (all_snoc (all_snoc (all_snoc (all_snoc (all_snoc (all_snoc (all_snoc (all_snoc (all_nil) (ops15_0 _ _ rfl rfl)) (ops15_1 _ _ rfl rfl)) (ops15_2 _ _ ⟨rfl, rfl⟩ rfl)) (ops15_3 _ _ rfl rfl)) (ops15_4 _ _ ⟨rfl, rfl⟩ rfl)) (ops15_5 _ _ ⟨rfl, rfl, rfl⟩ rfl)) (ops15_6 _ _ rfl rfl)) (ops15_7 _ _ ⟨rfl, rfl⟩ rfl)) (ops15_8 _ _ ⟨rfl, rfl, rfl⟩ rfl)) (ops15_9 _ _ rfl rfl)) (ops15_10 _ _ ⟨rfl, rfl⟩ rfl)) (ops15_11 _ _ ⟨rfl, rfl⟩ rfl)) (ops15_12 _ _ ⟨rfl, rfl⟩ rfl)) (ops15_13 _ _ ⟨rfl, rfl, rfl⟩ rfl)) (ops15_14 _ _ rfl rfl)) (ops15_15 _ _ ⟨rfl, rfl⟩ rfl)) (ops15_16 _ _ rfl rfl)) (ops15_17 _ _ ⟨rfl, rfl⟩ rfl)) (ops15_18 _ _ ⟨rfl, rfl, rfl⟩ rfl)) (ops15_19 _ _ rfl rfl)) (ops15_20 _ _ ⟨rfl, rfl⟩ rfl)) (ops15_21 _ _ ⟨rfl, rfl, rfl⟩ rfl)) (ops15_22 _ _ ⟨rfl, rfl, rfl⟩ rfl)) (ops15_23 _ _ rfl rfl)) (ops15_24 _ _ ⟨rfl, rfl⟩ rfl)) (ops15_25 _ _ ⟨rfl, rfl⟩ rfl)) (ops15_26 _ _ ⟨rfl, rfl⟩ rfl)) (ops15_27 _ _ ⟨rfl, rfl, rfl⟩ rfl)) ?_
        intro vs Rs f' S' hp hf hx hS hR
        obtain ⟨hv0, hR0⟩ := (spe rfl hs15_0 (hp 0 (by kernel_rfl)))
        obtain ⟨x18, hv2, hR2⟩ := (spe rfl hs15_2 (hp 2 (by kernel_rfl)))
        obtain ⟨x21, hv4, hR4⟩ := (spe rfl hs15_4 (hp 4 (by kernel_rfl)))
        obtain ⟨x30, hv15, hR15⟩ := (spe rfl hs15_15 (hp 15 (by kernel_rfl)))
        obtain ⟨x33, hv17, hR17⟩ := (spe rfl hs15_17 (hp 17 (by kernel_rfl)))
        obtain ⟨hv27, hR27⟩ := (spe rfl hs15_27 (hp 27 (by kernel_rfl)))
        refine ls_fr (F := upd (upd (upd (upd (upd f' 2 (.pointer (some ⟨g2, 0, none⟩))) 3 (.pointer (some ⟨g3, 0, none⟩))) 6 (.int .i64 x6_2)) 38 (.int .i64 x6_2)) 65 (.int .u32 (IntKind.wrap .u32 (y36 + y40)))) (fr_next (fr_next (fr_next (fr_next (fr_next (rfl) ((hx 2 (by kernel_rfl)).trans (by kernel_rfl : (_ : Value) = .pointer (some ⟨g2, 0, none⟩)))) ((hx 3 (by kernel_rfl)).trans (by kernel_rfl : (_ : Value) = .pointer (some ⟨g3, 0, none⟩)))) ((hx 6 (by kernel_rfl)).trans (by kernel_rfl : (_ : Value) = .int .i64 x6_2))) ((hf 0 38 (by kernel_rfl) rfl).trans hv0)) ((hf 27 65 (by kernel_rfl) rfl).trans hv27)) ?_
        refine ls_sub (sput (sput s0 1 (some (Ck.var 35 g2 (en (Value.int .u32) (vrep 64 (0 : Int)).1)))) 2 (some (Ck.var 35 g3 (en (Value.int .u32) m2_2.1)))) (sub_put ((hS 2 (by kernel_rfl)).trans (by exact rfl)) (sub_put ((hS 1 (by kernel_rfl)).trans (by exact rfl)) (sub_nil _))) ?_
        obtain ⟨q42, H⟩ := ite_need H
        obtain ⟨q43, H⟩ := ite_need H
        refine ls_idxa1 (g := g3) (off := 0) (i := x6_2) (kk := .i64) (ln := 64) (e := 23) rfl rfl (by kernel_rfl) rfl (by kernel_rfl) (by kernel_rfl) (by kernel_rfl) (by kernel_rfl) q42 q43 ?_
        obtain ⟨y44, hy45, H⟩ := lt_some H
        refine ls_storec (g := g3) (off := (0 + (x6_2).toNat)) (v := .int .u32 (IntKind.wrap .u32 (y36 + y40))) (vs := [Value.int .u32 (IntKind.wrap .u32 (y36 + y40))]) (cs := en (Value.int .u32) m2_2.1) (ty := 35) 2 rfl rfl rfl (by kernel_rfl) (by kernel_rfl) (by kernel_rfl) (by exact rfl) (by kernel_rfl) (len1 _) (one_cons rfl one_nil) (hl_of (Sub4.trans (Sub4.all _) (Sub4.one (Value.int .u32) m2_2.1 0 (by have := m2_2.2; omega))) (len_eq (len1 _) (len1 _))) (cs' := en (Value.int .u32) y44.1) (splc_in (Sub4.all _) ((splc_one (Value.int .u32) m2_2.1 (IntKind.wrap .u32 (y36 + y40)) (by have := m2_2.2; omega)).trans (congrArg (fun z : (Vc Int 64) => en (Value.int .u32) z.1) hy45)) (splc_all (len_eq (len_en _ y44) (len_en _ m2_2))) (hl_of (Sub4.one (Value.int .u32) m2_2.1 0 (by have := m2_2.2; omega)) (len_eq (len1 _) (len1 _)))) ?_
        refine ls_end ?_
        refine qn_block ?_
        refine qn_then ?_
        refine cs_region (l := [_, _, _]) ?_
        refine ls_val (v := .int .i64 x6_2) rfl rfl (by kernel_rfl) (fun w => by kernel_rfl) ?_
        refine ls_val (v := .int .i64 (IntKind.wrap .i64 (x6_2 + (1 : Int)))) rfl rfl (by kernel_rfl) (fun w => by kernel_rfl) ?_
        refine ls_val (v := .int .i64 (IntKind.wrap .i64 (x6_2 + (1 : Int)))) rfl rfl (by kernel_rfl) (fun w => by kernel_rfl) ?_
        refine ls_end ?_
        refine qn_again k2 (sput (sput s0 1 (some (Ck.var 35 g2 (en (Value.int .u32) (vrep 64 (0 : Int)).1)))) 2 (some (Ck.var 35 g3 (en (Value.int .u32) y44.1)))) (Nat.le_refl _) ⟨_, (IntKind.wrap .i64 (x6_2 + (1 : Int))), y44, fr_next (fr_next (fr_next (rfl) (by kernel_rfl)) (by kernel_rfl)) (by kernel_rfl), rfl, H⟩ (sub_put (by exact rfl) (sub_put (by exact rfl) (sub_nil _)))

/-! ### shadowbox/sha.keys: function 30 -/
def sha_keys.cst0 : Vc Int 64 := ⟨[(1116352408 : Int), (1899447441 : Int), (3049323471 : Int), (3921009573 : Int), (961987163 : Int), (1508970993 : Int), (2453635748 : Int), (2870763221 : Int), (3624381080 : Int), (310598401 : Int), (607225278 : Int), (1426881987 : Int), (1925078388 : Int), (2162078206 : Int), (2614888103 : Int), (3248222580 : Int), (3835390401 : Int), (4022224774 : Int), (264347078 : Int), (604807628 : Int), (770255983 : Int), (1249150122 : Int), (1555081692 : Int), (1996064986 : Int), (2554220882 : Int), (2821834349 : Int), (2952996808 : Int), (3210313671 : Int), (3336571891 : Int), (3584528711 : Int), (113926993 : Int), (338241895 : Int), (666307205 : Int), (773529912 : Int), (1294757372 : Int), (1396182291 : Int), (1695183700 : Int), (1986661051 : Int), (2177026350 : Int), (2456956037 : Int), (2730485921 : Int), (2820302411 : Int), (3259730800 : Int), (3345764771 : Int), (3516065817 : Int), (3600352804 : Int), (4094571909 : Int), (275423344 : Int), (430227734 : Int), (506948616 : Int), (659060556 : Int), (883997877 : Int), (958139571 : Int), (1322822218 : Int), (1537002063 : Int), (1747873779 : Int), (1955562222 : Int), (2024104815 : Int), (2227730452 : Int), (2361852424 : Int), (2428436474 : Int), (2756734187 : Int), (3204031479 : Int), (3329325298 : Int)], rfl⟩
def sha_keys.f (k : Nat) : Option ((Vc Int 64)) :=
  some sha_keys.cst0
set_option maxRecDepth 100000 in
set_option maxHeartbeats 4000000 in
theorem sha_keys.calls (k : Nat)  (r : (Vc Int 64)) (b : Bs) (hs0 : St b (stl []) b.w) (H : sha_keys.f k = some r) :
    Calls Try.prog 30 #[] b.w fun e w' => ∃ x : Unit, e = .returned (.agg ⟨en (Value.int .u32) r.1⟩) ∧ St b (stl []) w' := by
  unfold sha_keys.f at H
  refine enterb (n := 2) Try.func30 rfl (by kernel_rfl) (by kernel_rfl) hs0 ?_
  refine cs_sub (s0) (sub_nil _) ?_
  refine cs_seq ?_
  refine cs_region (l := [_]) ?_
  refine ls_new rfl rfl (by kernel_rfl) 0 (fun g => .pointer (some ⟨g, 0, none⟩)) (.cells ⟨en (Value.int .u32) (vrep 64 (0 : Int)).1⟩ 35) (fun w => by kernel_rfl) ?_
  intro g1
  refine ls_end ?_
  refine qn_then ?_
  refine cs_seq ?_
  refine cs_region (l := [_, _]) ?_
  refine ls_val (v := .agg ⟨en (Value.int .u32) sha_keys.cst0.1⟩) rfl rfl (by kernel_rfl) (fun w => by kernel_rfl) ?_
  refine ls_storec (g := g1) (off := 0) (v := .agg ⟨en (Value.int .u32) sha_keys.cst0.1⟩) (vs := en (Value.int .u32) sha_keys.cst0.1) (cs := en (Value.int .u32) (vrep 64 (0 : Int)).1) (ty := 35) 0 rfl rfl rfl (by kernel_rfl) (by kernel_rfl) (by kernel_rfl) (by exact rfl) (by kernel_rfl) (len_en _ sha_keys.cst0) (one_en (fun _ => rfl) _) (hl_of (Sub4.all _) (len_eq (len_en _ sha_keys.cst0) (len_en _ (vrep 64 (0 : Int))))) (cs' := en (Value.int .u32) sha_keys.cst0.1) (splc_all (len_eq (len_en _ sha_keys.cst0) (len_en _ (vrep 64 (0 : Int))))) ?_
  refine ls_end ?_
  refine qn_then ?_
  refine cs_ret' ?_
  obtain rfl := Option.some.inj H
  refine qr_res (rs := [_]) rfl (fun w' hs => ⟨[.agg ⟨en (Value.int .u32) sha_keys.cst0.1⟩], (.cell (by kernel_rfl) (run_cellres (by kernel_rfl) (by kernel_rfl) (len_en _ sha_keys.cst0) (hs.holds 0 _ (by exact rfl))) (.nil)), (), rfl, hs.pick (ts := []) (cs := []) trivial (by decide)⟩)

end Go.Proofs.Ytelgglnabikkcaa.G
