/- Printed by a program of this session (sz.py): plain functions, and walks that show that the code comes to them; no condition. -/
import Derived.Test.YtbidihabicgedaaProg
import Derived.Test.YtbidihabicgedaaTy
import Derived.Test.YtbidihabicgedaaG0
set_option linter.unusedVariables false
set_option linter.unusedSimpArgs false
namespace Go.Proofs.Ytbidihabicgedaa.G
open Go Go.RowKit Go.Proofs.Ytbidihabicgedaa.Sx

/-! ### (shadowbox/sha.State).Block: function 42 -/
def sha_State_Block.tab11 : List (List Nat) := [[], [0], [0, 1], [], [3], [3, 4], [], [6], [6, 7], [], [9], [9, 10], [], [12], [12, 13], [], [15], [15, 16], [], [18], [18, 19], [], [21], [21, 22], [0, 1, 2], [0, 1, 2, 3, 4, 5, 24], [0, 1, 2, 3, 4, 5, 6, 7, 8, 24, 25], [0, 1, 2, 3, 4, 5, 6, 7, 8, 9, 10, 11, 24, 25, 26], [0, 1, 2, 3, 4, 5, 6, 7, 8, 9, 10, 11, 12, 13, 14, 24, 25, 26, 27], [0, 1, 2, 3, 4, 5, 6, 7, 8, 9, 10, 11, 12, 13, 14, 15, 16, 17, 24, 25, 26, 27, 28], [0, 1, 2, 3, 4, 5, 6, 7, 8, 9, 10, 11, 12, 13, 14, 15, 16, 17, 18, 19, 20, 24, 25, 26, 27, 28, 29], [0, 1, 2, 3, 4, 5, 6, 7, 8, 9, 10, 11, 12, 13, 14, 15, 16, 17, 18, 19, 20, 21, 22, 23, 24, 25, 26, 27, 28, 29, 30]]
def sha_State_Block.lo2 (x7_1 : Int) (x8_1 : Int) (x9_1 : Int) (x10_1 : Int) (x11_1 : Int) (x12_1 : Int) (x13_1 : Int) (x14_1 : Int) : Nat → Int → (((Vc Int 8) × Int)) → Option (((Vc Int 8) × Int))
  | 0, _, _ => none
  | k2 + 1, x123_2, m0_2 => (if x123_2 < (8 : Int) then (if 0 ≤ x123_2 then lt (((⟨[x7_1, x8_1, x9_1, x10_1, x11_1, x12_1, x13_1, x14_1], rfl⟩ : (Vc Int 8)).1.getD (x123_2).toNat (0 : Int))) fun y40 => lt (IntKind.wrap .u32 ((m0_2.1.1.getD (x123_2).toNat (0 : Int)) + y40)) fun y42 => lt (vset m0_2.1 (x123_2).toNat y42) fun y44 => (sha_State_Block.lo2 x7_1 x8_1 x9_1 x10_1 x11_1 x12_1 x13_1 x14_1 k2) (IntKind.wrap .i64 (x123_2 + (1 : Int))) (y44, m0_2.2) else none) else some (m0_2.1, IntKind.wrap .u64 (m0_2.2 + (64 : Int))))
def sha_State_Block.jo1 (k : Nat) (a0 : ((Vc Int 8) × Int)) (x7_1 : Int) (x8_1 : Int) (x9_1 : Int) (x10_1 : Int) (x11_1 : Int) (x12_1 : Int) (x13_1 : Int) (x14_1 : Int) : Option (((Vc Int 8) × Int)) := sha_State_Block.lo2 x7_1 x8_1 x9_1 x10_1 x11_1 x12_1 x13_1 x14_1 k (0 : Int) a0
def sha_State_Block.tab53 : List (List Nat) := [[], [], [1], [], [1, 2, 3], [1, 2, 3, 4], [], [1, 2, 3, 4, 6], [1, 2, 3, 4, 5, 6, 7], [0, 1, 2, 3, 4, 5, 6, 7, 8], [], [0, 1, 2, 3, 4, 5, 6, 7, 8, 9, 10], [], [12], [12, 13], [0, 1, 2, 3, 4, 5, 6, 7, 8, 9, 10, 11, 12, 13, 14], [], [16], [16, 17], [0, 1, 2, 3, 4, 5, 6, 7, 8, 9, 10, 11, 12, 13, 14, 15, 16, 17, 18], [0, 1, 2, 3, 4, 5, 6, 7, 8, 9, 10, 11, 12, 13, 14, 15, 16, 17, 18, 19]]
def sha_State_Block.jo4 (t4 : (Vc Int 64)) (t7 : (Vc Int 64)) (x7_3 : Int) (x8_3 : Int) (x9_3 : Int) (x10_3 : Int) (x11_3 : Int) (x12_3 : Int) (x13_3 : Int) (x14_3 : Int) (x49_3 : Int) (k3 : Nat) (lo3 : Int → Int → Int → Int → Int → Int → Int → Int → Int → Option (((Vc Int 8) × Int))) : Option (((Vc Int 8) × Int)) := lt (bits .xor .u32 (if IntKind.signed .u32 then -1 else IntKind.max .u32) x11_3) fun y46 => lt (bits .xor .u32 (bits .and .u32 x11_3 x12_3) (bits .and .u32 y46 x13_3)) fun y48 => lt (bits .xor .u32 (bits .and .u32 x7_3 x8_3) (bits .and .u32 x7_3 x9_3)) fun y50 => lt (bits .xor .u32 y50 (bits .and .u32 x8_3 x9_3)) fun y52 => (sha_down.f k3 x11_3 (6 : Int)).bind fun t56 => (sha_down.f k3 x11_3 (11 : Int)).bind fun t59 => (sha_down.f k3 x11_3 (25 : Int)).bind fun t62 => lt (bits .xor .u32 (bits .xor .u32 t56 t59) t62) fun y65 => lt (IntKind.wrap .u32 ((IntKind.wrap .u32 (x14_3 + y65)) + y48)) fun y67 => (if 0 ≤ x49_3 then (if x49_3 < (64 : Int) then lt (IntKind.wrap .u32 (y67 + (t7.1.getD (x49_3).toNat (0 : Int)))) fun y71 => lt (IntKind.wrap .u32 (y71 + (t4.1.getD (x49_3).toNat (0 : Int)))) fun y73 => (sha_down.f k3 x7_3 (2 : Int)).bind fun t75 => (sha_down.f k3 x7_3 (13 : Int)).bind fun t78 => (sha_down.f k3 x7_3 (22 : Int)).bind fun t81 => lt (bits .xor .u32 (bits .xor .u32 t75 t78) t81) fun y84 => lt (IntKind.wrap .u32 (y73 + (IntKind.wrap .u32 (y84 + y52)))) fun y86 => lo3 y86 x7_3 x8_3 x9_3 (IntKind.wrap .u32 (x10_3 + y73)) x11_3 x12_3 x13_3 (IntKind.wrap .i64 (x49_3 + (1 : Int))) else none) else none)
def sha_State_Block.lo3 (t4 : (Vc Int 64)) (t7 : (Vc Int 64)) (jo1 : Int → Int → Int → Int → Int → Int → Int → Int → Option (((Vc Int 8) × Int))) : Nat → Int → Int → Int → Int → Int → Int → Int → Int → Int → Option (((Vc Int 8) × Int))
  | 0, _, _, _, _, _, _, _, _, _ => none
  | k3 + 1, x7_3, x8_3, x9_3, x10_3, x11_3, x12_3, x13_3, x14_3, x49_3 => (if x49_3 < (64 : Int) then (sha_State_Block.jo4 t4 t7 x7_3 x8_3 x9_3 x10_3 x11_3 x12_3 x13_3 x14_3 x49_3 k3 (sha_State_Block.lo3 t4 t7 jo1 k3)) else jo1 x7_3 x8_3 x9_3 x10_3 x11_3 x12_3 x13_3 x14_3)
def sha_State_Block.f (k : Nat) (a0 : ((Vc Int 8) × Int)) (a1 : (Vc Int 64)) : Option (((Vc Int 8) × Int)) :=
  (sha_spread.f k a1).bind fun t4 => (sha_keys.f k).bind fun t7 => (if (0 : Int) < (8 : Int) then lt ((a0.1.1.getD ((0 : Int)).toNat (0 : Int))) fun y15 => (if (1 : Int) < (8 : Int) then lt ((a0.1.1.getD ((1 : Int)).toNat (0 : Int))) fun y18 => (if (2 : Int) < (8 : Int) then lt ((a0.1.1.getD ((2 : Int)).toNat (0 : Int))) fun y21 => (if (3 : Int) < (8 : Int) then lt ((a0.1.1.getD ((3 : Int)).toNat (0 : Int))) fun y24 => (if (4 : Int) < (8 : Int) then lt ((a0.1.1.getD ((4 : Int)).toNat (0 : Int))) fun y27 => (if (5 : Int) < (8 : Int) then lt ((a0.1.1.getD ((5 : Int)).toNat (0 : Int))) fun y30 => (if (6 : Int) < (8 : Int) then lt ((a0.1.1.getD ((6 : Int)).toNat (0 : Int))) fun y33 => (if (7 : Int) < (8 : Int) then lt ((a0.1.1.getD ((7 : Int)).toNat (0 : Int))) fun y36 => sha_State_Block.lo3 t4 t7 (sha_State_Block.jo1 k a0) k y15 y18 y21 y24 y27 y30 y33 y36 (0 : Int) else none) else none) else none) else none) else none) else none) else none) else none)
set_option maxRecDepth 100000 in
set_option maxHeartbeats 4000000 in
theorem sha_State_Block.calls (k : Nat) (a0 : ((Vc Int 8) × Int)) (a1 : (Vc Int 64)) (r : ((Vc Int 8) × Int)) (b : Bs) (hs0 : St b (stl []) b.w) (H : sha_State_Block.f k a0 a1 = some r) :
    Calls Try.prog 42 #[.agg ⟨(en (Value.int .u32) a0.1.1 ++ [Value.int .u64 a0.2])⟩, .agg ⟨en (Value.int .u8) a1.1⟩] b.w fun e w' => ∃ x : Unit, e = .returned (.agg ⟨(en (Value.int .u32) r.1.1 ++ [Value.int .u64 r.2])⟩) ∧ St b (stl []) w' := by
  unfold sha_State_Block.f at H
  refine enterb (n := 141) Try.func42 rfl (by kernel_rfl) (by kernel_rfl) hs0 ?_
  refine cs_sub (s0) (sub_nil _) ?_
  refine cs_seq ?_
  refine cs_region (l := [_, _, _]) ?_
  refine ls_new rfl rfl (by kernel_rfl) 0 (fun g => .pointer (some ⟨g, 0, none⟩)) (.cells ⟨(en (Value.int .u32) a0.1.1 ++ [Value.int .u64 a0.2])⟩ 79) (fun w => by kernel_rfl) ?_
  intro g1
  refine ls_new rfl rfl (by kernel_rfl) 1 (fun g => .pointer (some ⟨g, 0, none⟩)) (.cells ⟨en (Value.int .u8) a1.1⟩ 82) (fun w => by kernel_rfl) ?_
  intro g2
  refine ls_new rfl rfl (by kernel_rfl) 2 (fun g => .pointer (some ⟨g, 0, none⟩)) (.cells ⟨(en (Value.int .u32) (vrep 8 (0 : Int)).1 ++ [Value.int .u64 (0 : Int)])⟩ 79) (fun w => by kernel_rfl) ?_
  intro g3
  refine ls_end ?_
  refine qn_then ?_
  refine cs_seq ?_
  refine cs_region (l := [_, _, _, _, _, _, _]) ?_
  refine ls_loadagg (a := ⟨g2, 0, none⟩) (sub := en (Value.int .u8) a1.1) rfl rfl (by kernel_rfl) rfl (by kernel_rfl) (by kernel_rfl) (by kernel_rfl) (len_en _ a1) (fun w hs => (hs.vars (k := 1) (by exact rfl) (Sub4.all _))) ?_
  obtain ⟨t4, hc5, H⟩ := bind_some H
  refine ls_callb (fid := 60) (vals := #[.agg ⟨en (Value.int .u8) a1.1⟩]) (X := Unit) (fun x => .agg ⟨en (Value.int .u32) t4.1⟩) (fun x => stl []) [] [] [] [] 3 rfl rfl (by kernel_rfl) (fun w => by kernel_rfl) trivial trivial (by decide) (fun w hs hb => sha_spread.calls k a1 t4 (lent b w [] []) hb  hc5) ?_
  intro x6
  obtain ⟨t7, hc8, H⟩ := bind_some H
  refine ls_callb (fid := 61) (vals := #[]) (X := Unit) (fun x => .agg ⟨en (Value.int .u32) t7.1⟩) (fun x => stl []) [] [] [] [] 3 rfl rfl (by kernel_rfl) (fun w => by kernel_rfl) trivial trivial (by decide) (fun w hs hb => sha_keys.calls k  t7 (lent b w [] []) hb  hc8) ?_
  intro x9
  refine ls_new rfl rfl (by kernel_rfl) 3 (fun g => .pointer (some ⟨g, 0, none⟩)) (.cells ⟨en (Value.int .u32) (vrep 64 (0 : Int)).1⟩ 69) (fun w => by kernel_rfl) ?_
  intro g10
  refine ls_new rfl rfl (by kernel_rfl) 4 (fun g => .pointer (some ⟨g, 0, none⟩)) (.cells ⟨en (Value.int .u32) (vrep 64 (0 : Int)).1⟩ 69) (fun w => by kernel_rfl) ?_
  intro g11
  refine ls_storec (g := g10) (off := 0) (v := .agg ⟨en (Value.int .u32) t4.1⟩) (vs := en (Value.int .u32) t4.1) (cs := en (Value.int .u32) (vrep 64 (0 : Int)).1) (ty := 69) 3 rfl rfl rfl (by kernel_rfl) (by kernel_rfl) (by kernel_rfl) (by exact rfl) (by kernel_rfl) (len_en _ t4) (one_en (fun _ => rfl) _) (hl_of (Sub4.all _) (len_eq (len_en _ t4) (len_en _ (vrep 64 (0 : Int))))) (cs' := en (Value.int .u32) t4.1) (splc_all (len_eq (len_en _ t4) (len_en _ (vrep 64 (0 : Int))))) ?_
  refine ls_storec (g := g11) (off := 0) (v := .agg ⟨en (Value.int .u32) t7.1⟩) (vs := en (Value.int .u32) t7.1) (cs := en (Value.int .u32) (vrep 64 (0 : Int)).1) (ty := 69) 4 rfl rfl rfl (by kernel_rfl) (by kernel_rfl) (by kernel_rfl) (by exact rfl) (by kernel_rfl) (len_en _ t7) (one_en (fun _ => rfl) _) (hl_of (Sub4.all _) (len_eq (len_en _ t7) (len_en _ (vrep 64 (0 : Int))))) (cs' := en (Value.int .u32) t7.1) (splc_all (len_eq (len_en _ t7) (len_en _ (vrep 64 (0 : Int))))) ?_
  refine ls_end ?_
  refine qn_then ?_
  refine cs_seq ?_
  obtain ⟨s13_0, hs13_0⟩ := exv (.pointer (some ⟨g1, (0 + 0), none⟩))
  refine have_opa sha_State_Block.tab11 5 0 (fun sp => sp 0 = s13_0) (fun sp on hA hon => ?_) (fun ops13_0 => ?_)
  · refine ⟨fun o ho vs Rs f' S' w hp hf hx hS hR hs => ?_⟩
    obtain rfl := Option.some.inj ho
    exact opv (.pointer (some ⟨g1, (0 + 0), none⟩)) hA hs13_0 hon (fr_next (rfl) ((hx 2 (by kernel_rfl)).trans (by kernel_rfl : (_ : Value) = .pointer (some ⟨g1, 0, none⟩))))
  obtain ⟨q14, H⟩ := ite_need H
  obtain ⟨s13_1, hs13_1⟩ := exv (.pointer (some ⟨g1, ((0 + 0) + ((0 : Int)).toNat), none⟩))
  refine have_opa sha_State_Block.tab11 5 1 (fun sp => sp 1 = s13_1 ∧ sp 0 = s13_0) (fun sp on hA hon => ?_) (fun ops13_1 => ?_)
  · refine ⟨fun o ho vs Rs f' S' w hp hf hx hS hR hs => ?_⟩
    obtain rfl := Option.some.inj ho
    obtain ⟨hv0, hR0⟩ := (spe hA.2 hs13_0 (hp 0 (by kernel_rfl)))
    rw [hA.1, hs13_1]
    refine wn hon ?_
    have hF := fr_next (rfl) ((hf 0 25 (by kernel_rfl) rfl).trans hv0)
    refine ls_fr hF ?_
    refine ls_idxa1 (g := g1) (off := (0 + 0)) (i := (0 : Int)) (kk := .i64) (ln := 8) (e := 23) rfl rfl (by kernel_rfl) rfl (by kernel_rfl) (by kernel_rfl) (by kernel_rfl) (by kernel_rfl) (by decide) q14 ?_
    exact ls_fin s0 _ (congrArg (fun z => upd z 26 _) hF.symm) ⟨rfl, rfl⟩ (sub_nil _)
  obtain ⟨y15, hy16, H⟩ := lt_some H
  obtain ⟨s13_2, hs13_2⟩ := exv (.int .u32 y15)
  refine have_opa sha_State_Block.tab11 5 2 (fun sp => sp 2 = s13_2 ∧ sp 1 = s13_1) (fun sp on hA hon => ?_) (fun ops13_2 => ?_)
  · refine ⟨fun o ho vs Rs f' S' w hp hf hx hS hR hs => ?_⟩
    obtain rfl := Option.some.inj ho
    obtain ⟨hv1, hR1⟩ := (spe hA.2 hs13_1 (hp 1 (by kernel_rfl)))
    rw [hA.1, hs13_2]
    refine wn hon ?_
    have hF := fr_next (rfl) ((hf 1 26 (by kernel_rfl) rfl).trans hv1)
    refine ls_fr hF ?_
    refine ls_load (a0 := ⟨g1, ((0 + 0) + ((0 : Int)).toNat), none⟩) (v := .int .u32 (a0.1.1.getD ((0 : Int)).toNat (0 : Int))) (de := (TypeDesc.int .u32)) rfl rfl (by kernel_rfl) rfl (by kernel_rfl) (by kernel_rfl) (by kernel_rfl) (fun w1 hs1 => cell_step hs1.below.bw (hs.var (k := 0) ((hS 0 (by kernel_rfl)).trans (by exact rfl)) (Sub4.trans (Sub4.trans (Sub4.all _) (Sub4.head _ _)) (Sub4.one (i := ((0 : Int)).toNat) (Value.int .u32) a0.1.1 0 (by have := a0.1.2; omega))))) ?_
    refine ls_ren 27 (v := .int .u32 (a0.1.1.getD ((0 : Int)).toNat (0 : Int))) (v' := .int .u32 y15) (by kernel_rfl) (by rw [hy16]) ?_
    exact ls_fin s0 _ ((upd_upd _ _ _ _).trans (congrArg (fun z => upd z 27 _) hF.symm)) ⟨rfl, rfl⟩ (sub_nil _)
  obtain ⟨s13_3, hs13_3⟩ := exv (.pointer (some ⟨g1, (0 + 0), none⟩))
  refine have_opa sha_State_Block.tab11 5 3 (fun sp => sp 3 = s13_3) (fun sp on hA hon => ?_) (fun ops13_3 => ?_)
  · refine ⟨fun o ho vs Rs f' S' w hp hf hx hS hR hs => ?_⟩
    obtain rfl := Option.some.inj ho
    exact opv (.pointer (some ⟨g1, (0 + 0), none⟩)) hA hs13_3 hon (fr_next (rfl) ((hx 2 (by kernel_rfl)).trans (by kernel_rfl : (_ : Value) = .pointer (some ⟨g1, 0, none⟩))))
  obtain ⟨q17, H⟩ := ite_need H
  obtain ⟨s13_4, hs13_4⟩ := exv (.pointer (some ⟨g1, ((0 + 0) + ((1 : Int)).toNat), none⟩))
  refine have_opa sha_State_Block.tab11 5 4 (fun sp => sp 4 = s13_4 ∧ sp 3 = s13_3) (fun sp on hA hon => ?_) (fun ops13_4 => ?_)
  · refine ⟨fun o ho vs Rs f' S' w hp hf hx hS hR hs => ?_⟩
    obtain rfl := Option.some.inj ho
    obtain ⟨hv3, hR3⟩ := (spe hA.2 hs13_3 (hp 3 (by kernel_rfl)))
    rw [hA.1, hs13_4]
    refine wn hon ?_
    have hF := fr_next (rfl) ((hf 3 28 (by kernel_rfl) rfl).trans hv3)
    refine ls_fr hF ?_
    refine ls_idxa1 (g := g1) (off := (0 + 0)) (i := (1 : Int)) (kk := .i64) (ln := 8) (e := 23) rfl rfl (by kernel_rfl) rfl (by kernel_rfl) (by kernel_rfl) (by kernel_rfl) (by kernel_rfl) (by decide) q17 ?_
    exact ls_fin s0 _ (congrArg (fun z => upd z 29 _) hF.symm) ⟨rfl, rfl⟩ (sub_nil _)
  obtain ⟨y18, hy19, H⟩ := lt_some H
  obtain ⟨s13_5, hs13_5⟩ := exv (.int .u32 y18)
  refine have_opa sha_State_Block.tab11 5 5 (fun sp => sp 5 = s13_5 ∧ sp 4 = s13_4) (fun sp on hA hon => ?_) (fun ops13_5 => ?_)
  · refine ⟨fun o ho vs Rs f' S' w hp hf hx hS hR hs => ?_⟩
    obtain rfl := Option.some.inj ho
    obtain ⟨hv4, hR4⟩ := (spe hA.2 hs13_4 (hp 4 (by kernel_rfl)))
    rw [hA.1, hs13_5]
    refine wn hon ?_
    have hF := fr_next (rfl) ((hf 4 29 (by kernel_rfl) rfl).trans hv4)
    refine ls_fr hF ?_
    refine ls_load (a0 := ⟨g1, ((0 + 0) + ((1 : Int)).toNat), none⟩) (v := .int .u32 (a0.1.1.getD ((1 : Int)).toNat (0 : Int))) (de := (TypeDesc.int .u32)) rfl rfl (by kernel_rfl) rfl (by kernel_rfl) (by kernel_rfl) (by kernel_rfl) (fun w1 hs1 => cell_step hs1.below.bw (hs.var (k := 0) ((hS 0 (by kernel_rfl)).trans (by exact rfl)) (Sub4.trans (Sub4.trans (Sub4.all _) (Sub4.head _ _)) (Sub4.one (i := ((1 : Int)).toNat) (Value.int .u32) a0.1.1 0 (by have := a0.1.2; omega))))) ?_
    refine ls_ren 30 (v := .int .u32 (a0.1.1.getD ((1 : Int)).toNat (0 : Int))) (v' := .int .u32 y18) (by kernel_rfl) (by rw [hy19]) ?_
    exact ls_fin s0 _ ((upd_upd _ _ _ _).trans (congrArg (fun z => upd z 30 _) hF.symm)) ⟨rfl, rfl⟩ (sub_nil _)
  obtain ⟨s13_6, hs13_6⟩ := exv (.pointer (some ⟨g1, (0 + 0), none⟩))
  refine have_opa sha_State_Block.tab11 5 6 (fun sp => sp 6 = s13_6) (fun sp on hA hon => ?_) (fun ops13_6 => ?_)
  · refine ⟨fun o ho vs Rs f' S' w hp hf hx hS hR hs => ?_⟩
    obtain rfl := Option.some.inj ho
    exact opv (.pointer (some ⟨g1, (0 + 0), none⟩)) hA hs13_6 hon (fr_next (rfl) ((hx 2 (by kernel_rfl)).trans (by kernel_rfl : (_ : Value) = .pointer (some ⟨g1, 0, none⟩))))
  obtain ⟨q20, H⟩ := ite_need H
  obtain ⟨s13_7, hs13_7⟩ := exv (.pointer (some ⟨g1, ((0 + 0) + ((2 : Int)).toNat), none⟩))
  refine have_opa sha_State_Block.tab11 5 7 (fun sp => sp 7 = s13_7 ∧ sp 6 = s13_6) (fun sp on hA hon => ?_) (fun ops13_7 => ?_)
  · refine ⟨fun o ho vs Rs f' S' w hp hf hx hS hR hs => ?_⟩
    obtain rfl := Option.some.inj ho
    obtain ⟨hv6, hR6⟩ := (spe hA.2 hs13_6 (hp 6 (by kernel_rfl)))
    rw [hA.1, hs13_7]
    refine wn hon ?_
    have hF := fr_next (rfl) ((hf 6 31 (by kernel_rfl) rfl).trans hv6)
    refine ls_fr hF ?_
    refine ls_idxa1 (g := g1) (off := (0 + 0)) (i := (2 : Int)) (kk := .i64) (ln := 8) (e := 23) rfl rfl (by kernel_rfl) rfl (by kernel_rfl) (by kernel_rfl) (by kernel_rfl) (by kernel_rfl) (by decide) q20 ?_
    exact ls_fin s0 _ (congrArg (fun z => upd z 32 _) hF.symm) ⟨rfl, rfl⟩ (sub_nil _)
  obtain ⟨y21, hy22, H⟩ := lt_some H
  obtain ⟨s13_8, hs13_8⟩ := exv (.int .u32 y21)
  refine have_opa sha_State_Block.tab11 5 8 (fun sp => sp 8 = s13_8 ∧ sp 7 = s13_7) (fun sp on hA hon => ?_) (fun ops13_8 => ?_)
  · refine ⟨fun o ho vs Rs f' S' w hp hf hx hS hR hs => ?_⟩
    obtain rfl := Option.some.inj ho
    obtain ⟨hv7, hR7⟩ := (spe hA.2 hs13_7 (hp 7 (by kernel_rfl)))
    rw [hA.1, hs13_8]
    refine wn hon ?_
    have hF := fr_next (rfl) ((hf 7 32 (by kernel_rfl) rfl).trans hv7)
    refine ls_fr hF ?_
    refine ls_load (a0 := ⟨g1, ((0 + 0) + ((2 : Int)).toNat), none⟩) (v := .int .u32 (a0.1.1.getD ((2 : Int)).toNat (0 : Int))) (de := (TypeDesc.int .u32)) rfl rfl (by kernel_rfl) rfl (by kernel_rfl) (by kernel_rfl) (by kernel_rfl) (fun w1 hs1 => cell_step hs1.below.bw (hs.var (k := 0) ((hS 0 (by kernel_rfl)).trans (by exact rfl)) (Sub4.trans (Sub4.trans (Sub4.all _) (Sub4.head _ _)) (Sub4.one (i := ((2 : Int)).toNat) (Value.int .u32) a0.1.1 0 (by have := a0.1.2; omega))))) ?_
    refine ls_ren 33 (v := .int .u32 (a0.1.1.getD ((2 : Int)).toNat (0 : Int))) (v' := .int .u32 y21) (by kernel_rfl) (by rw [hy22]) ?_
    exact ls_fin s0 _ ((upd_upd _ _ _ _).trans (congrArg (fun z => upd z 33 _) hF.symm)) ⟨rfl, rfl⟩ (sub_nil _)
  obtain ⟨s13_9, hs13_9⟩ := exv (.pointer (some ⟨g1, (0 + 0), none⟩))
  refine have_opa sha_State_Block.tab11 5 9 (fun sp => sp 9 = s13_9) (fun sp on hA hon => ?_) (fun ops13_9 => ?_)
  · refine ⟨fun o ho vs Rs f' S' w hp hf hx hS hR hs => ?_⟩
    obtain rfl := Option.some.inj ho
    exact opv (.pointer (some ⟨g1, (0 + 0), none⟩)) hA hs13_9 hon (fr_next (rfl) ((hx 2 (by kernel_rfl)).trans (by kernel_rfl : (_ : Value) = .pointer (some ⟨g1, 0, none⟩))))
  obtain ⟨q23, H⟩ := ite_need H
  obtain ⟨s13_10, hs13_10⟩ := exv (.pointer (some ⟨g1, ((0 + 0) + ((3 : Int)).toNat), none⟩))
  refine have_opa sha_State_Block.tab11 5 10 (fun sp => sp 10 = s13_10 ∧ sp 9 = s13_9) (fun sp on hA hon => ?_) (fun ops13_10 => ?_)
  · refine ⟨fun o ho vs Rs f' S' w hp hf hx hS hR hs => ?_⟩
    obtain rfl := Option.some.inj ho
    obtain ⟨hv9, hR9⟩ := (spe hA.2 hs13_9 (hp 9 (by kernel_rfl)))
    rw [hA.1, hs13_10]
    refine wn hon ?_
    have hF := fr_next (rfl) ((hf 9 34 (by kernel_rfl) rfl).trans hv9)
    refine ls_fr hF ?_
    refine ls_idxa1 (g := g1) (off := (0 + 0)) (i := (3 : Int)) (kk := .i64) (ln := 8) (e := 23) rfl rfl (by kernel_rfl) rfl (by kernel_rfl) (by kernel_rfl) (by kernel_rfl) (by kernel_rfl) (by decide) q23 ?_
    exact ls_fin s0 _ (congrArg (fun z => upd z 35 _) hF.symm) ⟨rfl, rfl⟩ (sub_nil _)
  obtain ⟨y24, hy25, H⟩ := lt_some H
  obtain ⟨s13_11, hs13_11⟩ := exv (.int .u32 y24)
  refine have_opa sha_State_Block.tab11 5 11 (fun sp => sp 11 = s13_11 ∧ sp 10 = s13_10) (fun sp on hA hon => ?_) (fun ops13_11 => ?_)
  · refine ⟨fun o ho vs Rs f' S' w hp hf hx hS hR hs => ?_⟩
    obtain rfl := Option.some.inj ho
    obtain ⟨hv10, hR10⟩ := (spe hA.2 hs13_10 (hp 10 (by kernel_rfl)))
    rw [hA.1, hs13_11]
    refine wn hon ?_
    have hF := fr_next (rfl) ((hf 10 35 (by kernel_rfl) rfl).trans hv10)
    refine ls_fr hF ?_
    refine ls_load (a0 := ⟨g1, ((0 + 0) + ((3 : Int)).toNat), none⟩) (v := .int .u32 (a0.1.1.getD ((3 : Int)).toNat (0 : Int))) (de := (TypeDesc.int .u32)) rfl rfl (by kernel_rfl) rfl (by kernel_rfl) (by kernel_rfl) (by kernel_rfl) (fun w1 hs1 => cell_step hs1.below.bw (hs.var (k := 0) ((hS 0 (by kernel_rfl)).trans (by exact rfl)) (Sub4.trans (Sub4.trans (Sub4.all _) (Sub4.head _ _)) (Sub4.one (i := ((3 : Int)).toNat) (Value.int .u32) a0.1.1 0 (by have := a0.1.2; omega))))) ?_
    refine ls_ren 36 (v := .int .u32 (a0.1.1.getD ((3 : Int)).toNat (0 : Int))) (v' := .int .u32 y24) (by kernel_rfl) (by rw [hy25]) ?_
    exact ls_fin s0 _ ((upd_upd _ _ _ _).trans (congrArg (fun z => upd z 36 _) hF.symm)) ⟨rfl, rfl⟩ (sub_nil _)
  obtain ⟨s13_12, hs13_12⟩ := exv (.pointer (some ⟨g1, (0 + 0), none⟩))
  refine have_opa sha_State_Block.tab11 5 12 (fun sp => sp 12 = s13_12) (fun sp on hA hon => ?_) (fun ops13_12 => ?_)
  · refine ⟨fun o ho vs Rs f' S' w hp hf hx hS hR hs => ?_⟩
    obtain rfl := Option.some.inj ho
    exact opv (.pointer (some ⟨g1, (0 + 0), none⟩)) hA hs13_12 hon (fr_next (rfl) ((hx 2 (by kernel_rfl)).trans (by kernel_rfl : (_ : Value) = .pointer (some ⟨g1, 0, none⟩))))
  obtain ⟨q26, H⟩ := ite_need H
  obtain ⟨s13_13, hs13_13⟩ := exv (.pointer (some ⟨g1, ((0 + 0) + ((4 : Int)).toNat), none⟩))
  refine have_opa sha_State_Block.tab11 5 13 (fun sp => sp 13 = s13_13 ∧ sp 12 = s13_12) (fun sp on hA hon => ?_) (fun ops13_13 => ?_)
  · refine ⟨fun o ho vs Rs f' S' w hp hf hx hS hR hs => ?_⟩
    obtain rfl := Option.some.inj ho
    obtain ⟨hv12, hR12⟩ := (spe hA.2 hs13_12 (hp 12 (by kernel_rfl)))
    rw [hA.1, hs13_13]
    refine wn hon ?_
    have hF := fr_next (rfl) ((hf 12 37 (by kernel_rfl) rfl).trans hv12)
    refine ls_fr hF ?_
    refine ls_idxa1 (g := g1) (off := (0 + 0)) (i := (4 : Int)) (kk := .i64) (ln := 8) (e := 23) rfl rfl (by kernel_rfl) rfl (by kernel_rfl) (by kernel_rfl) (by kernel_rfl) (by kernel_rfl) (by decide) q26 ?_
    exact ls_fin s0 _ (congrArg (fun z => upd z 38 _) hF.symm) ⟨rfl, rfl⟩ (sub_nil _)
  obtain ⟨y27, hy28, H⟩ := lt_some H
  obtain ⟨s13_14, hs13_14⟩ := exv (.int .u32 y27)
  refine have_opa sha_State_Block.tab11 5 14 (fun sp => sp 14 = s13_14 ∧ sp 13 = s13_13) (fun sp on hA hon => ?_) (fun ops13_14 => ?_)
  · refine ⟨fun o ho vs Rs f' S' w hp hf hx hS hR hs => ?_⟩
    obtain rfl := Option.some.inj ho
    obtain ⟨hv13, hR13⟩ := (spe hA.2 hs13_13 (hp 13 (by kernel_rfl)))
    rw [hA.1, hs13_14]
    refine wn hon ?_
    have hF := fr_next (rfl) ((hf 13 38 (by kernel_rfl) rfl).trans hv13)
    refine ls_fr hF ?_
    refine ls_load (a0 := ⟨g1, ((0 + 0) + ((4 : Int)).toNat), none⟩) (v := .int .u32 (a0.1.1.getD ((4 : Int)).toNat (0 : Int))) (de := (TypeDesc.int .u32)) rfl rfl (by kernel_rfl) rfl (by kernel_rfl) (by kernel_rfl) (by kernel_rfl) (fun w1 hs1 => cell_step hs1.below.bw (hs.var (k := 0) ((hS 0 (by kernel_rfl)).trans (by exact rfl)) (Sub4.trans (Sub4.trans (Sub4.all _) (Sub4.head _ _)) (Sub4.one (i := ((4 : Int)).toNat) (Value.int .u32) a0.1.1 0 (by have := a0.1.2; omega))))) ?_
    refine ls_ren 39 (v := .int .u32 (a0.1.1.getD ((4 : Int)).toNat (0 : Int))) (v' := .int .u32 y27) (by kernel_rfl) (by rw [hy28]) ?_
    exact ls_fin s0 _ ((upd_upd _ _ _ _).trans (congrArg (fun z => upd z 39 _) hF.symm)) ⟨rfl, rfl⟩ (sub_nil _)
  obtain ⟨s13_15, hs13_15⟩ := exv (.pointer (some ⟨g1, (0 + 0), none⟩))
  refine have_opa sha_State_Block.tab11 5 15 (fun sp => sp 15 = s13_15) (fun sp on hA hon => ?_) (fun ops13_15 => ?_)
  · refine ⟨fun o ho vs Rs f' S' w hp hf hx hS hR hs => ?_⟩
    obtain rfl := Option.some.inj ho
    exact opv (.pointer (some ⟨g1, (0 + 0), none⟩)) hA hs13_15 hon (fr_next (rfl) ((hx 2 (by kernel_rfl)).trans (by kernel_rfl : (_ : Value) = .pointer (some ⟨g1, 0, none⟩))))
  obtain ⟨q29, H⟩ := ite_need H
  obtain ⟨s13_16, hs13_16⟩ := exv (.pointer (some ⟨g1, ((0 + 0) + ((5 : Int)).toNat), none⟩))
  refine have_opa sha_State_Block.tab11 5 16 (fun sp => sp 16 = s13_16 ∧ sp 15 = s13_15) (fun sp on hA hon => ?_) (fun ops13_16 => ?_)
  · refine ⟨fun o ho vs Rs f' S' w hp hf hx hS hR hs => ?_⟩
    obtain rfl := Option.some.inj ho
    obtain ⟨hv15, hR15⟩ := (spe hA.2 hs13_15 (hp 15 (by kernel_rfl)))
    rw [hA.1, hs13_16]
    refine wn hon ?_
    have hF := fr_next (rfl) ((hf 15 40 (by kernel_rfl) rfl).trans hv15)
    refine ls_fr hF ?_
    refine ls_idxa1 (g := g1) (off := (0 + 0)) (i := (5 : Int)) (kk := .i64) (ln := 8) (e := 23) rfl rfl (by kernel_rfl) rfl (by kernel_rfl) (by kernel_rfl) (by kernel_rfl) (by kernel_rfl) (by decide) q29 ?_
    exact ls_fin s0 _ (congrArg (fun z => upd z 41 _) hF.symm) ⟨rfl, rfl⟩ (sub_nil _)
  obtain ⟨y30, hy31, H⟩ := lt_some H
  obtain ⟨s13_17, hs13_17⟩ := exv (.int .u32 y30)
  refine have_opa sha_State_Block.tab11 5 17 (fun sp => sp 17 = s13_17 ∧ sp 16 = s13_16) (fun sp on hA hon => ?_) (fun ops13_17 => ?_)
  · refine ⟨fun o ho vs Rs f' S' w hp hf hx hS hR hs => ?_⟩
    obtain rfl := Option.some.inj ho
    obtain ⟨hv16, hR16⟩ := (spe hA.2 hs13_16 (hp 16 (by kernel_rfl)))
    rw [hA.1, hs13_17]
    refine wn hon ?_
    have hF := fr_next (rfl) ((hf 16 41 (by kernel_rfl) rfl).trans hv16)
    refine ls_fr hF ?_
    refine ls_load (a0 := ⟨g1, ((0 + 0) + ((5 : Int)).toNat), none⟩) (v := .int .u32 (a0.1.1.getD ((5 : Int)).toNat (0 : Int))) (de := (TypeDesc.int .u32)) rfl rfl (by kernel_rfl) rfl (by kernel_rfl) (by kernel_rfl) (by kernel_rfl) (fun w1 hs1 => cell_step hs1.below.bw (hs.var (k := 0) ((hS 0 (by kernel_rfl)).trans (by exact rfl)) (Sub4.trans (Sub4.trans (Sub4.all _) (Sub4.head _ _)) (Sub4.one (i := ((5 : Int)).toNat) (Value.int .u32) a0.1.1 0 (by have := a0.1.2; omega))))) ?_
    refine ls_ren 42 (v := .int .u32 (a0.1.1.getD ((5 : Int)).toNat (0 : Int))) (v' := .int .u32 y30) (by kernel_rfl) (by rw [hy31]) ?_
    exact ls_fin s0 _ ((upd_upd _ _ _ _).trans (congrArg (fun z => upd z 42 _) hF.symm)) ⟨rfl, rfl⟩ (sub_nil _)
  obtain ⟨s13_18, hs13_18⟩ := exv (.pointer (some ⟨g1, (0 + 0), none⟩))
  refine have_opa sha_State_Block.tab11 5 18 (fun sp => sp 18 = s13_18) (fun sp on hA hon => ?_) (fun ops13_18 => ?_)
  · refine ⟨fun o ho vs Rs f' S' w hp hf hx hS hR hs => ?_⟩
    obtain rfl := Option.some.inj ho
    exact opv (.pointer (some ⟨g1, (0 + 0), none⟩)) hA hs13_18 hon (fr_next (rfl) ((hx 2 (by kernel_rfl)).trans (by kernel_rfl : (_ : Value) = .pointer (some ⟨g1, 0, none⟩))))
  obtain ⟨q32, H⟩ := ite_need H
  obtain ⟨s13_19, hs13_19⟩ := exv (.pointer (some ⟨g1, ((0 + 0) + ((6 : Int)).toNat), none⟩))
  refine have_opa sha_State_Block.tab11 5 19 (fun sp => sp 19 = s13_19 ∧ sp 18 = s13_18) (fun sp on hA hon => ?_) (fun ops13_19 => ?_)
  · refine ⟨fun o ho vs Rs f' S' w hp hf hx hS hR hs => ?_⟩
    obtain rfl := Option.some.inj ho
    obtain ⟨hv18, hR18⟩ := (spe hA.2 hs13_18 (hp 18 (by kernel_rfl)))
    rw [hA.1, hs13_19]
    refine wn hon ?_
    have hF := fr_next (rfl) ((hf 18 43 (by kernel_rfl) rfl).trans hv18)
    refine ls_fr hF ?_
    refine ls_idxa1 (g := g1) (off := (0 + 0)) (i := (6 : Int)) (kk := .i64) (ln := 8) (e := 23) rfl rfl (by kernel_rfl) rfl (by kernel_rfl) (by kernel_rfl) (by kernel_rfl) (by kernel_rfl) (by decide) q32 ?_
    exact ls_fin s0 _ (congrArg (fun z => upd z 44 _) hF.symm) ⟨rfl, rfl⟩ (sub_nil _)
  obtain ⟨y33, hy34, H⟩ := lt_some H
  obtain ⟨s13_20, hs13_20⟩ := exv (.int .u32 y33)
  refine have_opa sha_State_Block.tab11 5 20 (fun sp => sp 20 = s13_20 ∧ sp 19 = s13_19) (fun sp on hA hon => ?_) (fun ops13_20 => ?_)
  · refine ⟨fun o ho vs Rs f' S' w hp hf hx hS hR hs => ?_⟩
    obtain rfl := Option.some.inj ho
    obtain ⟨hv19, hR19⟩ := (spe hA.2 hs13_19 (hp 19 (by kernel_rfl)))
    rw [hA.1, hs13_20]
    refine wn hon ?_
    have hF := fr_next (rfl) ((hf 19 44 (by kernel_rfl) rfl).trans hv19)
    refine ls_fr hF ?_
    refine ls_load (a0 := ⟨g1, ((0 + 0) + ((6 : Int)).toNat), none⟩) (v := .int .u32 (a0.1.1.getD ((6 : Int)).toNat (0 : Int))) (de := (TypeDesc.int .u32)) rfl rfl (by kernel_rfl) rfl (by kernel_rfl) (by kernel_rfl) (by kernel_rfl) (fun w1 hs1 => cell_step hs1.below.bw (hs.var (k := 0) ((hS 0 (by kernel_rfl)).trans (by exact rfl)) (Sub4.trans (Sub4.trans (Sub4.all _) (Sub4.head _ _)) (Sub4.one (i := ((6 : Int)).toNat) (Value.int .u32) a0.1.1 0 (by have := a0.1.2; omega))))) ?_
    refine ls_ren 45 (v := .int .u32 (a0.1.1.getD ((6 : Int)).toNat (0 : Int))) (v' := .int .u32 y33) (by kernel_rfl) (by rw [hy34]) ?_
    exact ls_fin s0 _ ((upd_upd _ _ _ _).trans (congrArg (fun z => upd z 45 _) hF.symm)) ⟨rfl, rfl⟩ (sub_nil _)
  obtain ⟨s13_21, hs13_21⟩ := exv (.pointer (some ⟨g1, (0 + 0), none⟩))
  refine have_opa sha_State_Block.tab11 5 21 (fun sp => sp 21 = s13_21) (fun sp on hA hon => ?_) (fun ops13_21 => ?_)
  · refine ⟨fun o ho vs Rs f' S' w hp hf hx hS hR hs => ?_⟩
    obtain rfl := Option.some.inj ho
    exact opv (.pointer (some ⟨g1, (0 + 0), none⟩)) hA hs13_21 hon (fr_next (rfl) ((hx 2 (by kernel_rfl)).trans (by kernel_rfl : (_ : Value) = .pointer (some ⟨g1, 0, none⟩))))
  obtain ⟨q35, H⟩ := ite_need H
  obtain ⟨s13_22, hs13_22⟩ := exv (.pointer (some ⟨g1, ((0 + 0) + ((7 : Int)).toNat), none⟩))
  refine have_opa sha_State_Block.tab11 5 22 (fun sp => sp 22 = s13_22 ∧ sp 21 = s13_21) (fun sp on hA hon => ?_) (fun ops13_22 => ?_)
  · refine ⟨fun o ho vs Rs f' S' w hp hf hx hS hR hs => ?_⟩
    obtain rfl := Option.some.inj ho
    obtain ⟨hv21, hR21⟩ := (spe hA.2 hs13_21 (hp 21 (by kernel_rfl)))
    rw [hA.1, hs13_22]
    refine wn hon ?_
    have hF := fr_next (rfl) ((hf 21 46 (by kernel_rfl) rfl).trans hv21)
    refine ls_fr hF ?_
    refine ls_idxa1 (g := g1) (off := (0 + 0)) (i := (7 : Int)) (kk := .i64) (ln := 8) (e := 23) rfl rfl (by kernel_rfl) rfl (by kernel_rfl) (by kernel_rfl) (by kernel_rfl) (by kernel_rfl) (by decide) q35 ?_
    exact ls_fin s0 _ (congrArg (fun z => upd z 47 _) hF.symm) ⟨rfl, rfl⟩ (sub_nil _)
  obtain ⟨y36, hy37, H⟩ := lt_some H
  obtain ⟨s13_23, hs13_23⟩ := exv (.int .u32 y36)
  refine have_opa sha_State_Block.tab11 5 23 (fun sp => sp 23 = s13_23 ∧ sp 22 = s13_22) (fun sp on hA hon => ?_) (fun ops13_23 => ?_)
  · refine ⟨fun o ho vs Rs f' S' w hp hf hx hS hR hs => ?_⟩
    obtain rfl := Option.some.inj ho
    obtain ⟨hv22, hR22⟩ := (spe hA.2 hs13_22 (hp 22 (by kernel_rfl)))
    rw [hA.1, hs13_23]
    refine wn hon ?_
    have hF := fr_next (rfl) ((hf 22 47 (by kernel_rfl) rfl).trans hv22)
    refine ls_fr hF ?_
    refine ls_load (a0 := ⟨g1, ((0 + 0) + ((7 : Int)).toNat), none⟩) (v := .int .u32 (a0.1.1.getD ((7 : Int)).toNat (0 : Int))) (de := (TypeDesc.int .u32)) rfl rfl (by kernel_rfl) rfl (by kernel_rfl) (by kernel_rfl) (by kernel_rfl) (fun w1 hs1 => cell_step hs1.below.bw (hs.var (k := 0) ((hS 0 (by kernel_rfl)).trans (by exact rfl)) (Sub4.trans (Sub4.trans (Sub4.all _) (Sub4.head _ _)) (Sub4.one (i := ((7 : Int)).toNat) (Value.int .u32) a0.1.1 0 (by have := a0.1.2; omega))))) ?_
    refine ls_ren 48 (v := .int .u32 (a0.1.1.getD ((7 : Int)).toNat (0 : Int))) (v' := .int .u32 y36) (by kernel_rfl) (by rw [hy37]) ?_
    exact ls_fin s0 _ ((upd_upd _ _ _ _).trans (congrArg (fun z => upd z 48 _) hF.symm)) ⟨rfl, rfl⟩ (sub_nil _)
  obtain ⟨s13_24, hs13_24⟩ := exv (.int .u32 y15)
  refine have_opa sha_State_Block.tab11 5 24 (fun sp => sp 24 = s13_24 ∧ sp 2 = s13_2) (fun sp on hA hon => ?_) (fun ops13_24 => ?_)
  · refine ⟨fun o ho vs Rs f' S' w hp hf hx hS hR hs => ?_⟩
    obtain rfl := Option.some.inj ho
    obtain ⟨hv2, hR2⟩ := (spe hA.2 hs13_2 (hp 2 (by kernel_rfl)))
    exact opv (.int .u32 y15) hA.1 hs13_24 hon (fr_next (rfl) ((hf 2 27 (by kernel_rfl) rfl).trans hv2))
  obtain ⟨s13_25, hs13_25⟩ := exv (.int .u32 y18)
  refine have_opa sha_State_Block.tab11 5 25 (fun sp => sp 25 = s13_25 ∧ sp 5 = s13_5) (fun sp on hA hon => ?_) (fun ops13_25 => ?_)
  · refine ⟨fun o ho vs Rs f' S' w hp hf hx hS hR hs => ?_⟩
    obtain rfl := Option.some.inj ho
    obtain ⟨hv5, hR5⟩ := (spe hA.2 hs13_5 (hp 5 (by kernel_rfl)))
    exact opv (.int .u32 y18) hA.1 hs13_25 hon (fr_next (rfl) ((hf 5 30 (by kernel_rfl) rfl).trans hv5))
  obtain ⟨s13_26, hs13_26⟩ := exv (.int .u32 y21)
  refine have_opa sha_State_Block.tab11 5 26 (fun sp => sp 26 = s13_26 ∧ sp 8 = s13_8) (fun sp on hA hon => ?_) (fun ops13_26 => ?_)
  · refine ⟨fun o ho vs Rs f' S' w hp hf hx hS hR hs => ?_⟩
    obtain rfl := Option.some.inj ho
    obtain ⟨hv8, hR8⟩ := (spe hA.2 hs13_8 (hp 8 (by kernel_rfl)))
    exact opv (.int .u32 y21) hA.1 hs13_26 hon (fr_next (rfl) ((hf 8 33 (by kernel_rfl) rfl).trans hv8))
  obtain ⟨s13_27, hs13_27⟩ := exv (.int .u32 y24)
  refine have_opa sha_State_Block.tab11 5 27 (fun sp => sp 27 = s13_27 ∧ sp 11 = s13_11) (fun sp on hA hon => ?_) (fun ops13_27 => ?_)
  · refine ⟨fun o ho vs Rs f' S' w hp hf hx hS hR hs => ?_⟩
    obtain rfl := Option.some.inj ho
    obtain ⟨hv11, hR11⟩ := (spe hA.2 hs13_11 (hp 11 (by kernel_rfl)))
    exact opv (.int .u32 y24) hA.1 hs13_27 hon (fr_next (rfl) ((hf 11 36 (by kernel_rfl) rfl).trans hv11))
  obtain ⟨s13_28, hs13_28⟩ := exv (.int .u32 y27)
  refine have_opa sha_State_Block.tab11 5 28 (fun sp => sp 28 = s13_28 ∧ sp 14 = s13_14) (fun sp on hA hon => ?_) (fun ops13_28 => ?_)
  · refine ⟨fun o ho vs Rs f' S' w hp hf hx hS hR hs => ?_⟩
    obtain rfl := Option.some.inj ho
    obtain ⟨hv14, hR14⟩ := (spe hA.2 hs13_14 (hp 14 (by kernel_rfl)))
    exact opv (.int .u32 y27) hA.1 hs13_28 hon (fr_next (rfl) ((hf 14 39 (by kernel_rfl) rfl).trans hv14))
  obtain ⟨s13_29, hs13_29⟩ := exv (.int .u32 y30)
  refine have_opa sha_State_Block.tab11 5 29 (fun sp => sp 29 = s13_29 ∧ sp 17 = s13_17) (fun sp on hA hon => ?_) (fun ops13_29 => ?_)
  · refine ⟨fun o ho vs Rs f' S' w hp hf hx hS hR hs => ?_⟩
    obtain rfl := Option.some.inj ho
    obtain ⟨hv17, hR17⟩ := (spe hA.2 hs13_17 (hp 17 (by kernel_rfl)))
    exact opv (.int .u32 y30) hA.1 hs13_29 hon (fr_next (rfl) ((hf 17 42 (by kernel_rfl) rfl).trans hv17))
  obtain ⟨s13_30, hs13_30⟩ := exv (.int .u32 y33)
  refine have_opa sha_State_Block.tab11 5 30 (fun sp => sp 30 = s13_30 ∧ sp 20 = s13_20) (fun sp on hA hon => ?_) (fun ops13_30 => ?_)
  · refine ⟨fun o ho vs Rs f' S' w hp hf hx hS hR hs => ?_⟩
    obtain rfl := Option.some.inj ho
    obtain ⟨hv20, hR20⟩ := (spe hA.2 hs13_20 (hp 20 (by kernel_rfl)))
    exact opv (.int .u32 y33) hA.1 hs13_30 hon (fr_next (rfl) ((hf 20 45 (by kernel_rfl) rfl).trans hv20))
  refine cs_draw sha_State_Block.tab11 31 5 (spl [s13_0, s13_1, s13_2, s13_3, s13_4, s13_5, s13_6, s13_7, s13_8, s13_9, s13_10, s13_11, s13_12, s13_13, s13_14, s13_15, s13_16, s13_17, s13_18, s13_19, s13_20, s13_21, s13_22, s13_23, s13_24, s13_25, s13_26, s13_27, s13_28, s13_29, s13_30]) (onl [true, true, true, true, true, true, true, true, true, true, true, true, true, true, true, true, true, true, true, true, true, true, true, true, true, true, true, true, true, true, true]) (by kernel_rfl) (by kernel_rfl) (by kernel_rfl) (by kernel_rfl) (rs := [_]) rfl (by kernel_rfl) (by kernel_rfl) (all_snoc (all_snoc (all_snoc (all_snoc (all_snoc (all_snoc (all_snoc (all_snoc (all_snoc (all_snoc (all_snoc (all_snoc (all_snoc (all_snoc (all_snoc (all_snoc (all_snoc (all_snoc (all_snoc (all_snoc (all_snoc (all_snoc (all_snoc (all_snoc (all_snoc (all_snoc (all_snoc (all_snoc (all_snoc (all_snoc (all_snoc (all_nil) (ops13_0 _ _ rfl rfl)) (ops13_1 _ _ ⟨rfl, rfl⟩ rfl)) (ops13_2 _ _ ⟨rfl, rfl⟩ rfl)) (ops13_3 _ _ rfl rfl)) (ops13_4 _ _ ⟨rfl, rfl⟩ rfl)) (ops13_5 _ _ ⟨rfl, rfl⟩ rfl)) (ops13_6 _ _ rfl rfl)) (ops13_7 _ _ ⟨rfl, rfl⟩ rfl)) (ops13_8 _ _ ⟨rfl, rfl⟩ rfl)) (ops13_9 _ _ rfl rfl)) (ops13_10 _ _ ⟨rfl, rfl⟩ rfl)) (ops13_11 _ _ ⟨rfl, rfl⟩ rfl)) (ops13_12 _ _ rfl rfl)) (ops13_13 _ _ ⟨rfl, rfl⟩ rfl)) (ops13_14 _ _ ⟨rfl, rfl⟩ rfl)) (ops13_15 _ _ rfl rfl)) (ops13_16 _ _ ⟨rfl, rfl⟩ rfl)) (ops13_17 _ _ ⟨rfl, rfl⟩ rfl)) (ops13_18 _ _ rfl rfl)) (ops13_19 _ _ ⟨rfl, rfl⟩ rfl)) (ops13_20 _ _ ⟨rfl, rfl⟩ rfl)) (ops13_21 _ _ rfl rfl)) (ops13_22 _ _ ⟨rfl, rfl⟩ rfl)) (ops13_23 _ _ ⟨rfl, rfl⟩ rfl)) (ops13_24 _ _ ⟨rfl, rfl⟩ rfl)) (ops13_25 _ _ ⟨rfl, rfl⟩ rfl)) (ops13_26 _ _ ⟨rfl, rfl⟩ rfl)) (ops13_27 _ _ ⟨rfl, rfl⟩ rfl)) (ops13_28 _ _ ⟨rfl, rfl⟩ rfl)) (ops13_29 _ _ ⟨rfl, rfl⟩ rfl)) (ops13_30 _ _ ⟨rfl, rfl⟩ rfl)) ?_
  intro vs Rs f' S' hp hf hx hS hR
  obtain ⟨hv23, hR23⟩ := (spe rfl hs13_23 (hp 23 (by kernel_rfl)))
  obtain ⟨hv24, hR24⟩ := (spe rfl hs13_24 (hp 24 (by kernel_rfl)))
  obtain ⟨hv25, hR25⟩ := (spe rfl hs13_25 (hp 25 (by kernel_rfl)))
  obtain ⟨hv26, hR26⟩ := (spe rfl hs13_26 (hp 26 (by kernel_rfl)))
  obtain ⟨hv27, hR27⟩ := (spe rfl hs13_27 (hp 27 (by kernel_rfl)))
  obtain ⟨hv28, hR28⟩ := (spe rfl hs13_28 (hp 28 (by kernel_rfl)))
  obtain ⟨hv29, hR29⟩ := (spe rfl hs13_29 (hp 29 (by kernel_rfl)))
  obtain ⟨hv30, hR30⟩ := (spe rfl hs13_30 (hp 30 (by kernel_rfl)))
  refine ls_fr (F := upd (upd (upd (upd (upd (upd (upd (upd (upd (upd (upd (upd f' 2 (.pointer (some ⟨g1, 0, none⟩))) 4 (.pointer (some ⟨g3, 0, none⟩))) 5 (.pointer (some ⟨g10, 0, none⟩))) 6 (.pointer (some ⟨g11, 0, none⟩))) 7 (.int .u32 y15)) 8 (.int .u32 y18)) 9 (.int .u32 y21)) 10 (.int .u32 y24)) 11 (.int .u32 y27)) 12 (.int .u32 y30)) 13 (.int .u32 y33)) 48 (.int .u32 y36)) (fr_next (fr_next (fr_next (fr_next (fr_next (fr_next (fr_next (fr_next (fr_next (fr_next (fr_next (fr_next (rfl) ((hx 2 (by kernel_rfl)).trans (by kernel_rfl : (_ : Value) = .pointer (some ⟨g1, 0, none⟩)))) ((hx 4 (by kernel_rfl)).trans (by kernel_rfl : (_ : Value) = .pointer (some ⟨g3, 0, none⟩)))) ((hx 5 (by kernel_rfl)).trans (by kernel_rfl : (_ : Value) = .pointer (some ⟨g10, 0, none⟩)))) ((hx 6 (by kernel_rfl)).trans (by kernel_rfl : (_ : Value) = .pointer (some ⟨g11, 0, none⟩)))) ((hf 24 7 (by kernel_rfl) rfl).trans hv24)) ((hf 25 8 (by kernel_rfl) rfl).trans hv25)) ((hf 26 9 (by kernel_rfl) rfl).trans hv26)) ((hf 27 10 (by kernel_rfl) rfl).trans hv27)) ((hf 28 11 (by kernel_rfl) rfl).trans hv28)) ((hf 29 12 (by kernel_rfl) rfl).trans hv29)) ((hf 30 13 (by kernel_rfl) rfl).trans hv30)) ((hf 23 48 (by kernel_rfl) rfl).trans hv23)) ?_
  refine ls_sub (sput (sput (sput (sput s0 0 (some (Ck.var 79 g1 ((en (Value.int .u32) a0.1.1 ++ [Value.int .u64 a0.2]))))) 2 (some (Ck.var 79 g3 ((en (Value.int .u32) (vrep 8 (0 : Int)).1 ++ [Value.int .u64 (0 : Int)]))))) 3 (some (Ck.var 69 g10 (en (Value.int .u32) t4.1)))) 4 (some (Ck.var 69 g11 (en (Value.int .u32) t7.1)))) (sub_put ((hS 4 (by kernel_rfl)).trans (by exact rfl)) (sub_put ((hS 3 (by kernel_rfl)).trans (by exact rfl)) (sub_put ((hS 2 (by kernel_rfl)).trans (by exact rfl)) (sub_put ((hS 0 (by kernel_rfl)).trans (by exact rfl)) (sub_nil _))))) ?_
  refine lv (.int .u32 y36) ?_
  refine ls_end ?_
  refine qn_then ?_
  refine cs_cut (fun f S => ∃ (fR : Fr) (x7_1 : Int) (x8_1 : Int) (x9_1 : Int) (x10_1 : Int) (x11_1 : Int) (x12_1 : Int) (x13_1 : Int) (x14_1 : Int), f = upd (upd (upd (upd (upd (upd (upd (upd (upd (upd fR 2 (.pointer (some ⟨g1, 0, none⟩))) 4 (.pointer (some ⟨g3, 0, none⟩))) 7 (.int .u32 x7_1)) 8 (.int .u32 x8_1)) 9 (.int .u32 x9_1)) 10 (.int .u32 x10_1)) 11 (.int .u32 x11_1)) 12 (.int .u32 x12_1)) 13 (.int .u32 x13_1)) 14 (.int .u32 x14_1) ∧ S = sput (sput s0 0 (some (Ck.var 79 g1 ((en (Value.int .u32) a0.1.1 ++ [Value.int .u64 a0.2]))))) 2 (some (Ck.var 79 g3 ((en (Value.int .u32) (vrep 8 (0 : Int)).1 ++ [Value.int .u64 (0 : Int)])))) ∧ sha_State_Block.jo1 k a0 x7_1 x8_1 x9_1 x10_1 x11_1 x12_1 x13_1 x14_1 = some r) ?_ ?_
  · skip
    refine cs_seq ?_
    refine cs_region (l := [_]) ?_
    refine lv (.int .i64 (0 : Int)) ?_
    refine ls_end ?_
    refine qn_then ?_
    refine cs_block ?_
    refine cs_sub (sput (sput (sput (sput s0 0 (some (Ck.var 79 g1 ((en (Value.int .u32) a0.1.1 ++ [Value.int .u64 a0.2]))))) 2 (some (Ck.var 79 g3 ((en (Value.int .u32) (vrep 8 (0 : Int)).1 ++ [Value.int .u64 (0 : Int)]))))) 3 (some (Ck.var 69 g10 (en (Value.int .u32) t4.1)))) 4 (some (Ck.var 69 g11 (en (Value.int .u32) t7.1)))) (sub_put (by exact rfl) (sub_put (by exact rfl) (sub_put (by exact rfl) (sub_put (by exact rfl) (sub_nil _))))) ?_
    refine cs_loop (fun kk f S => ∃ (fR : Fr) (x7_3 : Int) (x8_3 : Int) (x9_3 : Int) (x10_3 : Int) (x11_3 : Int) (x12_3 : Int) (x13_3 : Int) (x14_3 : Int) (x49_3 : Int), f = upd (upd (upd (upd (upd (upd (upd (upd (upd (upd (upd (upd (upd fR 2 (.pointer (some ⟨g1, 0, none⟩))) 4 (.pointer (some ⟨g3, 0, none⟩))) 5 (.pointer (some ⟨g10, 0, none⟩))) 6 (.pointer (some ⟨g11, 0, none⟩))) 7 (.int .u32 x7_3)) 8 (.int .u32 x8_3)) 9 (.int .u32 x9_3)) 10 (.int .u32 x10_3)) 11 (.int .u32 x11_3)) 12 (.int .u32 x12_3)) 13 (.int .u32 x13_3)) 14 (.int .u32 x14_3)) 49 (.int .i64 x49_3) ∧ S = sput (sput (sput (sput s0 0 (some (Ck.var 79 g1 ((en (Value.int .u32) a0.1.1 ++ [Value.int .u64 a0.2]))))) 2 (some (Ck.var 79 g3 ((en (Value.int .u32) (vrep 8 (0 : Int)).1 ++ [Value.int .u64 (0 : Int)]))))) 3 (some (Ck.var 69 g10 (en (Value.int .u32) t4.1)))) 4 (some (Ck.var 69 g11 (en (Value.int .u32) t7.1))) ∧ sha_State_Block.lo3 t4 t7 (sha_State_Block.jo1 k a0) kk x7_3 x8_3 x9_3 x10_3 x11_3 x12_3 x13_3 x14_3 x49_3 = some r) k ?_ ?_ ?_
    · exact ⟨_, y15, y18, y21, y24, y27, y30, y33, y36, (0 : Int), fr_next (fr_next (fr_next (fr_next (fr_next (fr_next (fr_next (fr_next (fr_next (fr_next (fr_next (fr_next (fr_next (rfl) (by kernel_rfl)) (by kernel_rfl)) (by kernel_rfl)) (by kernel_rfl)) (by kernel_rfl)) (by kernel_rfl)) (by kernel_rfl)) (by kernel_rfl)) (by kernel_rfl)) (by kernel_rfl)) (by kernel_rfl)) (by kernel_rfl)) (by kernel_rfl), rfl, H⟩
    · rintro f S ⟨fr3, x7_3, x8_3, x9_3, x10_3, x11_3, x12_3, x13_3, x14_3, x49_3, rfl, rfl, H⟩; cases H
    rintro k3 f S ⟨fr3, x7_3, x8_3, x9_3, x10_3, x11_3, x12_3, x13_3, x14_3, x49_3, rfl, rfl, H⟩
    replace H : ((if x49_3 < (64 : Int) then (sha_State_Block.jo4 t4 t7 x7_3 x8_3 x9_3 x10_3 x11_3 x12_3 x13_3 x14_3 x49_3 k3 (sha_State_Block.lo3 t4 t7 (sha_State_Block.jo1 k a0) k3)) else (sha_State_Block.jo1 k a0) x7_3 x8_3 x9_3 x10_3 x11_3 x12_3 x13_3 x14_3)) = some r := H
    refine cs_seq ?_
    refine cs_region (l := [_]) ?_
    refine lv (.bool (decide (x49_3 < (64 : Int)))) ?_
    refine ls_end ?_
    refine qn_then ?_
    refine cs_cut (fun f S => ∃ (fR : Fr), f = upd (upd (upd (upd (upd (upd (upd (upd (upd (upd (upd (upd (upd fR 2 (.pointer (some ⟨g1, 0, none⟩))) 4 (.pointer (some ⟨g3, 0, none⟩))) 5 (.pointer (some ⟨g10, 0, none⟩))) 6 (.pointer (some ⟨g11, 0, none⟩))) 7 (.int .u32 x7_3)) 8 (.int .u32 x8_3)) 9 (.int .u32 x9_3)) 10 (.int .u32 x10_3)) 11 (.int .u32 x11_3)) 12 (.int .u32 x12_3)) 13 (.int .u32 x13_3)) 14 (.int .u32 x14_3)) 49 (.int .i64 x49_3) ∧ S = sput (sput (sput (sput s0 0 (some (Ck.var 79 g1 ((en (Value.int .u32) a0.1.1 ++ [Value.int .u64 a0.2]))))) 2 (some (Ck.var 79 g3 ((en (Value.int .u32) (vrep 8 (0 : Int)).1 ++ [Value.int .u64 (0 : Int)]))))) 3 (some (Ck.var 69 g10 (en (Value.int .u32) t4.1)))) 4 (some (Ck.var 69 g11 (en (Value.int .u32) t7.1))) ∧ sha_State_Block.jo4 t4 t7 x7_3 x8_3 x9_3 x10_3 x11_3 x12_3 x13_3 x14_3 x49_3 k3 (sha_State_Block.lo3 t4 t7 (sha_State_Block.jo1 k a0) k3) = some r) ?_ ?_
    · skip
      by_cases q88 : x49_3 < (64 : Int)
      · replace H := ite_t q88 H
        refine cs_know (c := true) (dec_t q88) 50 (by kernel_rfl) ?_
        refine cs_true (by kernel_rfl) ?_
        refine cs_skip' ?_
        refine qn_meet (sput (sput (sput (sput s0 0 (some (Ck.var 79 g1 ((en (Value.int .u32) a0.1.1 ++ [Value.int .u64 a0.2]))))) 2 (some (Ck.var 79 g3 ((en (Value.int .u32) (vrep 8 (0 : Int)).1 ++ [Value.int .u64 (0 : Int)]))))) 3 (some (Ck.var 69 g10 (en (Value.int .u32) t4.1)))) 4 (some (Ck.var 69 g11 (en (Value.int .u32) t7.1)))) ⟨_, fr_next (fr_next (fr_next (fr_next (fr_next (fr_next (fr_next (fr_next (fr_next (fr_next (fr_next (fr_next (fr_next (rfl) (by kernel_rfl)) (by kernel_rfl)) (by kernel_rfl)) (by kernel_rfl)) (by kernel_rfl)) (by kernel_rfl)) (by kernel_rfl)) (by kernel_rfl)) (by kernel_rfl)) (by kernel_rfl)) (by kernel_rfl)) (by kernel_rfl)) (by kernel_rfl), rfl, H⟩ (sub_put (by exact rfl) (sub_put (by exact rfl) (sub_put (by exact rfl) (sub_put (by exact rfl) (sub_nil _)))))
      replace H := ite_f q88 H
      refine cs_know (c := false) (dec_f q88) 50 (by kernel_rfl) ?_
      refine cs_false (by kernel_rfl) ?_
      refine cs_exit' ?_
      refine qx_then ?_
      refine qx_then ?_
      refine qx_same ?_
      refine qn_meet (sput (sput s0 0 (some (Ck.var 79 g1 ((en (Value.int .u32) a0.1.1 ++ [Value.int .u64 a0.2]))))) 2 (some (Ck.var 79 g3 ((en (Value.int .u32) (vrep 8 (0 : Int)).1 ++ [Value.int .u64 (0 : Int)]))))) ⟨_, x7_3, x8_3, x9_3, x10_3, x11_3, x12_3, x13_3, x14_3, fr_next (fr_next (fr_next (fr_next (fr_next (fr_next (fr_next (fr_next (fr_next (fr_next (rfl) (by kernel_rfl)) (by kernel_rfl)) (by kernel_rfl)) (by kernel_rfl)) (by kernel_rfl)) (by kernel_rfl)) (by kernel_rfl)) (by kernel_rfl)) (by kernel_rfl)) (by kernel_rfl), rfl, H⟩ (sub_put (by exact rfl) (sub_put (by exact rfl) (sub_nil _)))
    rintro f S ⟨fr4, rfl, rfl, H⟩
    replace H : (lt (bits .xor .u32 (if IntKind.signed .u32 then -1 else IntKind.max .u32) x11_3) fun y46 => lt (bits .xor .u32 (bits .and .u32 x11_3 x12_3) (bits .and .u32 y46 x13_3)) fun y48 => lt (bits .xor .u32 (bits .and .u32 x7_3 x8_3) (bits .and .u32 x7_3 x9_3)) fun y50 => lt (bits .xor .u32 y50 (bits .and .u32 x8_3 x9_3)) fun y52 => (sha_down.f k3 x11_3 (6 : Int)).bind fun t56 => (sha_down.f k3 x11_3 (11 : Int)).bind fun t59 => (sha_down.f k3 x11_3 (25 : Int)).bind fun t62 => lt (bits .xor .u32 (bits .xor .u32 t56 t59) t62) fun y65 => lt (IntKind.wrap .u32 ((IntKind.wrap .u32 (x14_3 + y65)) + y48)) fun y67 => (if 0 ≤ x49_3 then (if x49_3 < (64 : Int) then lt (IntKind.wrap .u32 (y67 + (t7.1.getD (x49_3).toNat (0 : Int)))) fun y71 => lt (IntKind.wrap .u32 (y71 + (t4.1.getD (x49_3).toNat (0 : Int)))) fun y73 => (sha_down.f k3 x7_3 (2 : Int)).bind fun t75 => (sha_down.f k3 x7_3 (13 : Int)).bind fun t78 => (sha_down.f k3 x7_3 (22 : Int)).bind fun t81 => lt (bits .xor .u32 (bits .xor .u32 t75 t78) t81) fun y84 => lt (IntKind.wrap .u32 (y73 + (IntKind.wrap .u32 (y84 + y52)))) fun y86 => (sha_State_Block.lo3 t4 t7 (sha_State_Block.jo1 k a0) k3) y86 x7_3 x8_3 x9_3 (IntKind.wrap .u32 (x10_3 + y73)) x11_3 x12_3 x13_3 (IntKind.wrap .i64 (x49_3 + (1 : Int))) else none) else none)) = some r := H
    refine cs_seq ?_
    refine cs_block ?_
    refine cs_seq ?_
    refine cs_region (l := [_, _]) ?_
    refine lv (.int .i64 x49_3) ?_
    refine lv (.int .i64 x49_3) ?_
    refine ls_end ?_
    refine qn_then ?_
    refine cs_seq ?_
    refine cs_region (l := [_, _, _, _, _, _, _, _, _]) ?_
    refine lv (.int .u32 x11_3) ?_
    refine lv (.int .u32 x12_3) ?_
    refine lv (.int .u32 (bits .and .u32 x11_3 x12_3)) ?_
    refine lv (.int .u32 x11_3) ?_
    obtain ⟨y46, hy47, H⟩ := lt_some H
    refine lv (.int .u32 (bits .xor .u32 (if IntKind.signed .u32 then -1 else IntKind.max .u32) x11_3)) ?_
    refine ls_ren 56 (v := .int .u32 (bits .xor .u32 (if IntKind.signed .u32 then -1 else IntKind.max .u32) x11_3)) (v' := .int .u32 y46) (by kernel_rfl) (by rw [hy47]) ?_
    refine lv (.int .u32 x13_3) ?_
    refine lv (.int .u32 (bits .and .u32 y46 x13_3)) ?_
    obtain ⟨y48, hy49, H⟩ := lt_some H
    refine lv (.int .u32 (bits .xor .u32 (bits .and .u32 x11_3 x12_3) (bits .and .u32 y46 x13_3))) ?_
    refine ls_ren 59 (v := .int .u32 (bits .xor .u32 (bits .and .u32 x11_3 x12_3) (bits .and .u32 y46 x13_3))) (v' := .int .u32 y48) (by kernel_rfl) (by rw [hy49]) ?_
    refine lv (.int .u32 y48) ?_
    refine ls_end ?_
    refine qn_then ?_
    refine cs_seq ?_
    refine cs_region (l := [_, _, _, _, _, _, _, _, _, _, _, _]) ?_
    refine lv (.int .u32 x7_3) ?_
    refine lv (.int .u32 x8_3) ?_
    refine lv (.int .u32 (bits .and .u32 x7_3 x8_3)) ?_
    refine lv (.int .u32 x7_3) ?_
    refine lv (.int .u32 x9_3) ?_
    refine lv (.int .u32 (bits .and .u32 x7_3 x9_3)) ?_
    obtain ⟨y50, hy51, H⟩ := lt_some H
    refine lv (.int .u32 (bits .xor .u32 (bits .and .u32 x7_3 x8_3) (bits .and .u32 x7_3 x9_3))) ?_
    refine ls_ren 66 (v := .int .u32 (bits .xor .u32 (bits .and .u32 x7_3 x8_3) (bits .and .u32 x7_3 x9_3))) (v' := .int .u32 y50) (by kernel_rfl) (by rw [hy51]) ?_
    refine lv (.int .u32 x8_3) ?_
    refine lv (.int .u32 x9_3) ?_
    refine lv (.int .u32 (bits .and .u32 x8_3 x9_3)) ?_
    obtain ⟨y52, hy53, H⟩ := lt_some H
    refine lv (.int .u32 (bits .xor .u32 y50 (bits .and .u32 x8_3 x9_3))) ?_
    refine ls_ren 70 (v := .int .u32 (bits .xor .u32 y50 (bits .and .u32 x8_3 x9_3))) (v' := .int .u32 y52) (by kernel_rfl) (by rw [hy53]) ?_
    refine lv (.int .u32 y52) ?_
    refine ls_end ?_
    refine qn_then ?_
    refine cs_seq ?_
    obtain ⟨s55_0, hs55_0⟩ := exv (.int .u32 x14_3)
    refine have_opa sha_State_Block.tab53 253 0 (fun sp => sp 0 = s55_0) (fun sp on hA hon => ?_) (fun ops55_0 => ?_)
    · refine ⟨fun o ho vs Rs f' S' w hp hf hx hS hR hs => ?_⟩
      obtain rfl := Option.some.inj ho
      exact opv (.int .u32 x14_3) hA hs55_0 hon (fr_next (rfl) ((hx 14 (by kernel_rfl)).trans (by kernel_rfl : (_ : Value) = .int .u32 x14_3)))
    obtain ⟨s55_1, hs55_1⟩ := exv (.int .u32 x11_3)
    refine have_opa sha_State_Block.tab53 253 1 (fun sp => sp 1 = s55_1) (fun sp on hA hon => ?_) (fun ops55_1 => ?_)
    · refine ⟨fun o ho vs Rs f' S' w hp hf hx hS hR hs => ?_⟩
      obtain rfl := Option.some.inj ho
      exact opv (.int .u32 x11_3) hA hs55_1 hon (fr_next (rfl) ((hx 11 (by kernel_rfl)).trans (by kernel_rfl : (_ : Value) = .int .u32 x11_3)))
    obtain ⟨t56, hc57, H⟩ := bind_some H
    obtain ⟨s55_2, hs55_2⟩ : ∃ z : Value → Sto → Prop, z = (fun v R => ∃ x58 : Unit, v = .int .u32 t56 ∧ R = stl []) := ⟨_, rfl⟩
    refine have_opa sha_State_Block.tab53 253 2 (fun sp => sp 2 = s55_2 ∧ sp 1 = s55_1) (fun sp on hA hon => ?_) (fun ops55_2 => ?_)
    · refine ⟨fun o ho vs Rs f' S' w hp hf hx hS hR hs => ?_⟩
      obtain rfl := Option.some.inj ho
      obtain ⟨hv1, hR1⟩ := (spe hA.2 hs55_1 (hp 1 (by kernel_rfl)))
      rw [hA.1, hs55_2]
      refine wn hon ?_
      have hF := fr_next (rfl) ((hf 1 72 (by kernel_rfl) rfl).trans hv1)
      refine ls_fr hF ?_
      refine ls_call (fid := 62) (vals := #[.int .u32 x11_3, .int .i64 (6 : Int)]) (X := Unit) (fun x => .int .u32 t56) (fun x => stl []) 0 rfl rfl (by kernel_rfl) (fun w => by kernel_rfl) (fun w1 hs1 => sha_down.calls k3 x11_3 (6 : Int) t56 (bw w1) (St.refl w1)  hc57) ?_
      intro x58
      exact ls_fin (stl []) (.int .u32 t56) (congrArg (fun z => upd z 73 _) hF.symm) ⟨x58, rfl, rfl⟩ (sub_join _)
    obtain ⟨s55_3, hs55_3⟩ := exv (.int .u32 x11_3)
    refine have_opa sha_State_Block.tab53 253 3 (fun sp => sp 3 = s55_3) (fun sp on hA hon => ?_) (fun ops55_3 => ?_)
    · refine ⟨fun o ho vs Rs f' S' w hp hf hx hS hR hs => ?_⟩
      obtain rfl := Option.some.inj ho
      exact opv (.int .u32 x11_3) hA hs55_3 hon (fr_next (rfl) ((hx 11 (by kernel_rfl)).trans (by kernel_rfl : (_ : Value) = .int .u32 x11_3)))
    obtain ⟨t59, hc60, H⟩ := bind_some H
    obtain ⟨s55_4, hs55_4⟩ : ∃ z : Value → Sto → Prop, z = (fun v R => ∃ x61 : Unit, v = .int .u32 t59 ∧ R = stl []) := ⟨_, rfl⟩
    refine have_opa sha_State_Block.tab53 253 4 (fun sp => sp 4 = s55_4 ∧ sp 3 = s55_3) (fun sp on hA hon => ?_) (fun ops55_4 => ?_)
    · refine ⟨fun o ho vs Rs f' S' w hp hf hx hS hR hs => ?_⟩
      obtain rfl := Option.some.inj ho
      obtain ⟨hv3, hR3⟩ := (spe hA.2 hs55_3 (hp 3 (by kernel_rfl)))
      rw [hA.1, hs55_4]
      refine wn hon ?_
      have hF := fr_next (rfl) ((hf 3 74 (by kernel_rfl) rfl).trans hv3)
      refine ls_fr hF ?_
      refine ls_call (fid := 62) (vals := #[.int .u32 x11_3, .int .i64 (11 : Int)]) (X := Unit) (fun x => .int .u32 t59) (fun x => stl []) 0 rfl rfl (by kernel_rfl) (fun w => by kernel_rfl) (fun w1 hs1 => sha_down.calls k3 x11_3 (11 : Int) t59 (bw w1) (St.refl w1)  hc60) ?_
      intro x61
      exact ls_fin (stl []) (.int .u32 t59) (congrArg (fun z => upd z 75 _) hF.symm) ⟨x61, rfl, rfl⟩ (sub_join _)
    obtain ⟨s55_5, hs55_5⟩ := exv (.int .u32 (bits .xor .u32 t56 t59))
    refine have_opa sha_State_Block.tab53 253 5 (fun sp => sp 5 = s55_5 ∧ sp 2 = s55_2 ∧ sp 4 = s55_4) (fun sp on hA hon => ?_) (fun ops55_5 => ?_)
    · refine ⟨fun o ho vs Rs f' S' w hp hf hx hS hR hs => ?_⟩
      obtain rfl := Option.some.inj ho
      obtain ⟨x58, hv2, hR2⟩ := (spe hA.2.1 hs55_2 (hp 2 (by kernel_rfl)))
      obtain ⟨x61, hv4, hR4⟩ := (spe hA.2.2 hs55_4 (hp 4 (by kernel_rfl)))
      exact opv (.int .u32 (bits .xor .u32 t56 t59)) hA.1 hs55_5 hon (fr_next (fr_next (rfl) ((hf 2 73 (by kernel_rfl) rfl).trans hv2)) ((hf 4 75 (by kernel_rfl) rfl).trans hv4))
    obtain ⟨s55_6, hs55_6⟩ := exv (.int .u32 x11_3)
    refine have_opa sha_State_Block.tab53 253 6 (fun sp => sp 6 = s55_6) (fun sp on hA hon => ?_) (fun ops55_6 => ?_)
    · refine ⟨fun o ho vs Rs f' S' w hp hf hx hS hR hs => ?_⟩
      obtain rfl := Option.some.inj ho
      exact opv (.int .u32 x11_3) hA hs55_6 hon (fr_next (rfl) ((hx 11 (by kernel_rfl)).trans (by kernel_rfl : (_ : Value) = .int .u32 x11_3)))
    obtain ⟨t62, hc63, H⟩ := bind_some H
    obtain ⟨s55_7, hs55_7⟩ : ∃ z : Value → Sto → Prop, z = (fun v R => ∃ x64 : Unit, v = .int .u32 t62 ∧ R = stl []) := ⟨_, rfl⟩
    refine have_opa sha_State_Block.tab53 253 7 (fun sp => sp 7 = s55_7 ∧ sp 6 = s55_6) (fun sp on hA hon => ?_) (fun ops55_7 => ?_)
    · refine ⟨fun o ho vs Rs f' S' w hp hf hx hS hR hs => ?_⟩
      obtain rfl := Option.some.inj ho
      obtain ⟨hv6, hR6⟩ := (spe hA.2 hs55_6 (hp 6 (by kernel_rfl)))
      rw [hA.1, hs55_7]
      refine wn hon ?_
      have hF := fr_next (rfl) ((hf 6 77 (by kernel_rfl) rfl).trans hv6)
      refine ls_fr hF ?_
      refine ls_call (fid := 62) (vals := #[.int .u32 x11_3, .int .i64 (25 : Int)]) (X := Unit) (fun x => .int .u32 t62) (fun x => stl []) 0 rfl rfl (by kernel_rfl) (fun w => by kernel_rfl) (fun w1 hs1 => sha_down.calls k3 x11_3 (25 : Int) t62 (bw w1) (St.refl w1)  hc63) ?_
      intro x64
      exact ls_fin (stl []) (.int .u32 t62) (congrArg (fun z => upd z 78 _) hF.symm) ⟨x64, rfl, rfl⟩ (sub_join _)
    obtain ⟨y65, hy66, H⟩ := lt_some H
    obtain ⟨s55_8, hs55_8⟩ := exv (.int .u32 y65)
    refine have_opa sha_State_Block.tab53 253 8 (fun sp => sp 8 = s55_8 ∧ sp 5 = s55_5 ∧ sp 7 = s55_7) (fun sp on hA hon => ?_) (fun ops55_8 => ?_)
    · refine ⟨fun o ho vs Rs f' S' w hp hf hx hS hR hs => ?_⟩
      obtain rfl := Option.some.inj ho
      obtain ⟨hv5, hR5⟩ := (spe hA.2.1 hs55_5 (hp 5 (by kernel_rfl)))
      obtain ⟨x64, hv7, hR7⟩ := (spe hA.2.2 hs55_7 (hp 7 (by kernel_rfl)))
      rw [hA.1, hs55_8]
      refine wn hon ?_
      have hF := fr_next (fr_next (rfl) ((hf 5 76 (by kernel_rfl) rfl).trans hv5)) ((hf 7 78 (by kernel_rfl) rfl).trans hv7)
      refine ls_fr hF ?_
      refine lv (.int .u32 (bits .xor .u32 (bits .xor .u32 t56 t59) t62)) ?_
      refine ls_ren 79 (v := .int .u32 (bits .xor .u32 (bits .xor .u32 t56 t59) t62)) (v' := .int .u32 y65) (by kernel_rfl) (by rw [hy66]) ?_
      exact ls_fin s0 _ ((upd_upd _ _ _ _).trans (congrArg (fun z => upd z 79 _) hF.symm)) ⟨rfl, rfl⟩ (sub_nil _)
    obtain ⟨s55_9, hs55_9⟩ := exv (.int .u32 (IntKind.wrap .u32 (x14_3 + y65)))
    refine have_opa sha_State_Block.tab53 253 9 (fun sp => sp 9 = s55_9 ∧ sp 0 = s55_0 ∧ sp 8 = s55_8) (fun sp on hA hon => ?_) (fun ops55_9 => ?_)
    · refine ⟨fun o ho vs Rs f' S' w hp hf hx hS hR hs => ?_⟩
      obtain rfl := Option.some.inj ho
      obtain ⟨hv0, hR0⟩ := (spe hA.2.1 hs55_0 (hp 0 (by kernel_rfl)))
      obtain ⟨hv8, hR8⟩ := (spe hA.2.2 hs55_8 (hp 8 (by kernel_rfl)))
      exact opv (.int .u32 (IntKind.wrap .u32 (x14_3 + y65))) hA.1 hs55_9 hon (fr_next (fr_next (rfl) ((hf 0 71 (by kernel_rfl) rfl).trans hv0)) ((hf 8 79 (by kernel_rfl) rfl).trans hv8))
    obtain ⟨s55_10, hs55_10⟩ := exv (.int .u32 y48)
    refine have_opa sha_State_Block.tab53 253 10 (fun sp => sp 10 = s55_10) (fun sp on hA hon => ?_) (fun ops55_10 => ?_)
    · refine ⟨fun o ho vs Rs f' S' w hp hf hx hS hR hs => ?_⟩
      obtain rfl := Option.some.inj ho
      exact opv (.int .u32 y48) hA hs55_10 hon (fr_next (rfl) ((hx 16 (by kernel_rfl)).trans (by kernel_rfl : (_ : Value) = .int .u32 y48)))
    obtain ⟨y67, hy68, H⟩ := lt_some H
    obtain ⟨s55_11, hs55_11⟩ := exv (.int .u32 y67)
    refine have_opa sha_State_Block.tab53 253 11 (fun sp => sp 11 = s55_11 ∧ sp 9 = s55_9 ∧ sp 10 = s55_10) (fun sp on hA hon => ?_) (fun ops55_11 => ?_)
    · refine ⟨fun o ho vs Rs f' S' w hp hf hx hS hR hs => ?_⟩
      obtain rfl := Option.some.inj ho
      obtain ⟨hv9, hR9⟩ := (spe hA.2.1 hs55_9 (hp 9 (by kernel_rfl)))
      obtain ⟨hv10, hR10⟩ := (spe hA.2.2 hs55_10 (hp 10 (by kernel_rfl)))
      rw [hA.1, hs55_11]
      refine wn hon ?_
      have hF := fr_next (fr_next (rfl) ((hf 9 80 (by kernel_rfl) rfl).trans hv9)) ((hf 10 81 (by kernel_rfl) rfl).trans hv10)
      refine ls_fr hF ?_
      refine lv (.int .u32 (IntKind.wrap .u32 ((IntKind.wrap .u32 (x14_3 + y65)) + y48))) ?_
      refine ls_ren 82 (v := .int .u32 (IntKind.wrap .u32 ((IntKind.wrap .u32 (x14_3 + y65)) + y48))) (v' := .int .u32 y67) (by kernel_rfl) (by rw [hy68]) ?_
      exact ls_fin s0 _ ((upd_upd _ _ _ _).trans (congrArg (fun z => upd z 82 _) hF.symm)) ⟨rfl, rfl⟩ (sub_nil _)
    obtain ⟨s55_12, hs55_12⟩ := exv (.int .i64 x49_3)
    refine have_opa sha_State_Block.tab53 253 12 (fun sp => sp 12 = s55_12) (fun sp on hA hon => ?_) (fun ops55_12 => ?_)
    · refine ⟨fun o ho vs Rs f' S' w hp hf hx hS hR hs => ?_⟩
      obtain rfl := Option.some.inj ho
      exact opv (.int .i64 x49_3) hA hs55_12 hon (fr_next (rfl) ((hx 15 (by kernel_rfl)).trans (by kernel_rfl : (_ : Value) = .int .i64 x49_3)))
    obtain ⟨q69, H⟩ := ite_need H
    obtain ⟨q70, H⟩ := ite_need H
    obtain ⟨s55_13, hs55_13⟩ := exv (.pointer (some ⟨g11, (0 + (x49_3).toNat), none⟩))
    refine have_opa sha_State_Block.tab53 253 13 (fun sp => sp 13 = s55_13 ∧ sp 12 = s55_12) (fun sp on hA hon => ?_) (fun ops55_13 => ?_)
    · refine ⟨fun o ho vs Rs f' S' w hp hf hx hS hR hs => ?_⟩
      obtain rfl := Option.some.inj ho
      obtain ⟨hv12, hR12⟩ := (spe hA.2 hs55_12 (hp 12 (by kernel_rfl)))
      rw [hA.1, hs55_13]
      refine wn hon ?_
      have hF := fr_next (fr_next (rfl) ((hx 6 (by kernel_rfl)).trans (by kernel_rfl : (_ : Value) = .pointer (some ⟨g11, 0, none⟩)))) ((hf 12 83 (by kernel_rfl) rfl).trans hv12)
      refine ls_fr hF ?_
      refine ls_idxa1 (g := g11) (off := 0) (i := x49_3) (kk := .i64) (ln := 64) (e := 23) rfl rfl (by kernel_rfl) rfl (by kernel_rfl) (by kernel_rfl) (by kernel_rfl) (by kernel_rfl) q69 q70 ?_
      exact ls_fin s0 _ (congrArg (fun z => upd z 84 _) hF.symm) ⟨rfl, rfl⟩ (sub_nil _)
    obtain ⟨s55_14, hs55_14⟩ := exv (.int .u32 (t7.1.getD (x49_3).toNat (0 : Int)))
    refine have_opa sha_State_Block.tab53 253 14 (fun sp => sp 14 = s55_14 ∧ sp 13 = s55_13) (fun sp on hA hon => ?_) (fun ops55_14 => ?_)
    · refine ⟨fun o ho vs Rs f' S' w hp hf hx hS hR hs => ?_⟩
      obtain rfl := Option.some.inj ho
      obtain ⟨hv13, hR13⟩ := (spe hA.2 hs55_13 (hp 13 (by kernel_rfl)))
      rw [hA.1, hs55_14]
      refine wn hon ?_
      have hF := fr_next (rfl) ((hf 13 84 (by kernel_rfl) rfl).trans hv13)
      refine ls_fr hF ?_
      refine ls_load (a0 := ⟨g11, (0 + (x49_3).toNat), none⟩) (v := .int .u32 (t7.1.getD (x49_3).toNat (0 : Int))) (de := (TypeDesc.int .u32)) rfl rfl (by kernel_rfl) rfl (by kernel_rfl) (by kernel_rfl) (by kernel_rfl) (fun w1 hs1 => cell_step hs1.below.bw (hs.var (k := 4) ((hS 4 (by kernel_rfl)).trans (by exact rfl)) (Sub4.trans (Sub4.all _) (Sub4.one (i := (x49_3).toNat) (Value.int .u32) t7.1 0 (by have := t7.2; omega))))) ?_
      exact ls_fin s0 _ (congrArg (fun z => upd z 85 _) hF.symm) ⟨rfl, rfl⟩ (sub_nil _)
    obtain ⟨y71, hy72, H⟩ := lt_some H
    obtain ⟨s55_15, hs55_15⟩ := exv (.int .u32 y71)
    refine have_opa sha_State_Block.tab53 253 15 (fun sp => sp 15 = s55_15 ∧ sp 11 = s55_11 ∧ sp 14 = s55_14) (fun sp on hA hon => ?_) (fun ops55_15 => ?_)
    · refine ⟨fun o ho vs Rs f' S' w hp hf hx hS hR hs => ?_⟩
      obtain rfl := Option.some.inj ho
      obtain ⟨hv11, hR11⟩ := (spe hA.2.1 hs55_11 (hp 11 (by kernel_rfl)))
      obtain ⟨hv14, hR14⟩ := (spe hA.2.2 hs55_14 (hp 14 (by kernel_rfl)))
      rw [hA.1, hs55_15]
      refine wn hon ?_
      have hF := fr_next (fr_next (rfl) ((hf 11 82 (by kernel_rfl) rfl).trans hv11)) ((hf 14 85 (by kernel_rfl) rfl).trans hv14)
      refine ls_fr hF ?_
      refine lv (.int .u32 (IntKind.wrap .u32 (y67 + (t7.1.getD (x49_3).toNat (0 : Int))))) ?_
      refine ls_ren 86 (v := .int .u32 (IntKind.wrap .u32 (y67 + (t7.1.getD (x49_3).toNat (0 : Int))))) (v' := .int .u32 y71) (by kernel_rfl) (by rw [hy72]) ?_
      exact ls_fin s0 _ ((upd_upd _ _ _ _).trans (congrArg (fun z => upd z 86 _) hF.symm)) ⟨rfl, rfl⟩ (sub_nil _)
    obtain ⟨s55_16, hs55_16⟩ := exv (.int .i64 x49_3)
    refine have_opa sha_State_Block.tab53 253 16 (fun sp => sp 16 = s55_16) (fun sp on hA hon => ?_) (fun ops55_16 => ?_)
    · refine ⟨fun o ho vs Rs f' S' w hp hf hx hS hR hs => ?_⟩
      obtain rfl := Option.some.inj ho
      exact opv (.int .i64 x49_3) hA hs55_16 hon (fr_next (rfl) ((hx 15 (by kernel_rfl)).trans (by kernel_rfl : (_ : Value) = .int .i64 x49_3)))
    obtain ⟨s55_17, hs55_17⟩ := exv (.pointer (some ⟨g10, (0 + (x49_3).toNat), none⟩))
    refine have_opa sha_State_Block.tab53 253 17 (fun sp => sp 17 = s55_17 ∧ sp 16 = s55_16) (fun sp on hA hon => ?_) (fun ops55_17 => ?_)
    · refine ⟨fun o ho vs Rs f' S' w hp hf hx hS hR hs => ?_⟩
      obtain rfl := Option.some.inj ho
      obtain ⟨hv16, hR16⟩ := (spe hA.2 hs55_16 (hp 16 (by kernel_rfl)))
      rw [hA.1, hs55_17]
      refine wn hon ?_
      have hF := fr_next (fr_next (rfl) ((hx 5 (by kernel_rfl)).trans (by kernel_rfl : (_ : Value) = .pointer (some ⟨g10, 0, none⟩)))) ((hf 16 87 (by kernel_rfl) rfl).trans hv16)
      refine ls_fr hF ?_
      refine ls_idxa1 (g := g10) (off := 0) (i := x49_3) (kk := .i64) (ln := 64) (e := 23) rfl rfl (by kernel_rfl) rfl (by kernel_rfl) (by kernel_rfl) (by kernel_rfl) (by kernel_rfl) q69 q70 ?_
      exact ls_fin s0 _ (congrArg (fun z => upd z 88 _) hF.symm) ⟨rfl, rfl⟩ (sub_nil _)
    obtain ⟨s55_18, hs55_18⟩ := exv (.int .u32 (t4.1.getD (x49_3).toNat (0 : Int)))
    refine have_opa sha_State_Block.tab53 253 18 (fun sp => sp 18 = s55_18 ∧ sp 17 = s55_17) (fun sp on hA hon => ?_) (fun ops55_18 => ?_)
    · refine ⟨fun o ho vs Rs f' S' w hp hf hx hS hR hs => ?_⟩
      obtain rfl := Option.some.inj ho
      obtain ⟨hv17, hR17⟩ := (spe hA.2 hs55_17 (hp 17 (by kernel_rfl)))
      rw [hA.1, hs55_18]
      refine wn hon ?_
      have hF := fr_next (rfl) ((hf 17 88 (by kernel_rfl) rfl).trans hv17)
      refine ls_fr hF ?_
      refine ls_load (a0 := ⟨g10, (0 + (x49_3).toNat), none⟩) (v := .int .u32 (t4.1.getD (x49_3).toNat (0 : Int))) (de := (TypeDesc.int .u32)) rfl rfl (by kernel_rfl) rfl (by kernel_rfl) (by kernel_rfl) (by kernel_rfl) (fun w1 hs1 => cell_step hs1.below.bw (hs.var (k := 3) ((hS 3 (by kernel_rfl)).trans (by exact rfl)) (Sub4.trans (Sub4.all _) (Sub4.one (i := (x49_3).toNat) (Value.int .u32) t4.1 0 (by have := t4.2; omega))))) ?_
      exact ls_fin s0 _ (congrArg (fun z => upd z 89 _) hF.symm) ⟨rfl, rfl⟩ (sub_nil _)
    refine cs_draw sha_State_Block.tab53 19 253 (spl [s55_0, s55_1, s55_2, s55_3, s55_4, s55_5, s55_6, s55_7, s55_8, s55_9, s55_10, s55_11, s55_12, s55_13, s55_14, s55_15, s55_16, s55_17, s55_18]) (onl [true, true, true, true, true, true, true, true, true, true, true, true, true, true, true, true, true, true, true]) (by kernel_rfl) (by kernel_rfl) (by kernel_rfl) (by kernel_rfl) (rs := [_, _]) rfl (by kernel_rfl) (by kernel_rfl) (all_snoc (all_snoc (all_snoc (all_snoc (all_snoc (all_snoc (all_snoc (all_snoc (all_snoc (all_snoc (all_snoc (all_snoc (all_snoc (all_snoc (all_snoc (all_snoc (all_snoc (all_snoc (all_snoc (all_nil) (ops55_0 _ _ rfl rfl)) (ops55_1 _ _ rfl rfl)) (ops55_2 _ _ ⟨rfl, rfl⟩ rfl)) (ops55_3 _ _ rfl rfl)) (ops55_4 _ _ ⟨rfl, rfl⟩ rfl)) (ops55_5 _ _ ⟨rfl, rfl, rfl⟩ rfl)) (ops55_6 _ _ rfl rfl)) (ops55_7 _ _ ⟨rfl, rfl⟩ rfl)) (ops55_8 _ _ ⟨rfl, rfl, rfl⟩ rfl)) (ops55_9 _ _ ⟨rfl, rfl, rfl⟩ rfl)) (ops55_10 _ _ rfl rfl)) (ops55_11 _ _ ⟨rfl, rfl, rfl⟩ rfl)) (ops55_12 _ _ rfl rfl)) (ops55_13 _ _ ⟨rfl, rfl⟩ rfl)) (ops55_14 _ _ ⟨rfl, rfl⟩ rfl)) (ops55_15 _ _ ⟨rfl, rfl, rfl⟩ rfl)) (ops55_16 _ _ rfl rfl)) (ops55_17 _ _ ⟨rfl, rfl⟩ rfl)) (ops55_18 _ _ ⟨rfl, rfl⟩ rfl)) ?_
    intro vs Rs f' S' hp hf hx hS hR
    obtain ⟨x58, hv2, hR2⟩ := (spe rfl hs55_2 (hp 2 (by kernel_rfl)))
    obtain ⟨x61, hv4, hR4⟩ := (spe rfl hs55_4 (hp 4 (by kernel_rfl)))
    obtain ⟨x64, hv7, hR7⟩ := (spe rfl hs55_7 (hp 7 (by kernel_rfl)))
    obtain ⟨hv15, hR15⟩ := (spe rfl hs55_15 (hp 15 (by kernel_rfl)))
    obtain ⟨hv18, hR18⟩ := (spe rfl hs55_18 (hp 18 (by kernel_rfl)))
    refine ls_fr (F := upd (upd (upd (upd (upd (upd (upd (upd (upd (upd (upd (upd (upd (upd (upd f' 2 (.pointer (some ⟨g1, 0, none⟩))) 4 (.pointer (some ⟨g3, 0, none⟩))) 5 (.pointer (some ⟨g10, 0, none⟩))) 6 (.pointer (some ⟨g11, 0, none⟩))) 7 (.int .u32 x7_3)) 8 (.int .u32 x8_3)) 9 (.int .u32 x9_3)) 10 (.int .u32 x10_3)) 11 (.int .u32 x11_3)) 12 (.int .u32 x12_3)) 13 (.int .u32 x13_3)) 17 (.int .u32 y52)) 49 (.int .i64 x49_3)) 86 (.int .u32 y71)) 89 (.int .u32 (t4.1.getD (x49_3).toNat (0 : Int)))) (fr_next (fr_next (fr_next (fr_next (fr_next (fr_next (fr_next (fr_next (fr_next (fr_next (fr_next (fr_next (fr_next (fr_next (fr_next (rfl) ((hx 2 (by kernel_rfl)).trans (by kernel_rfl : (_ : Value) = .pointer (some ⟨g1, 0, none⟩)))) ((hx 4 (by kernel_rfl)).trans (by kernel_rfl : (_ : Value) = .pointer (some ⟨g3, 0, none⟩)))) ((hx 5 (by kernel_rfl)).trans (by kernel_rfl : (_ : Value) = .pointer (some ⟨g10, 0, none⟩)))) ((hx 6 (by kernel_rfl)).trans (by kernel_rfl : (_ : Value) = .pointer (some ⟨g11, 0, none⟩)))) ((hx 7 (by kernel_rfl)).trans (by kernel_rfl : (_ : Value) = .int .u32 x7_3))) ((hx 8 (by kernel_rfl)).trans (by kernel_rfl : (_ : Value) = .int .u32 x8_3))) ((hx 9 (by kernel_rfl)).trans (by kernel_rfl : (_ : Value) = .int .u32 x9_3))) ((hx 10 (by kernel_rfl)).trans (by kernel_rfl : (_ : Value) = .int .u32 x10_3))) ((hx 11 (by kernel_rfl)).trans (by kernel_rfl : (_ : Value) = .int .u32 x11_3))) ((hx 12 (by kernel_rfl)).trans (by kernel_rfl : (_ : Value) = .int .u32 x12_3))) ((hx 13 (by kernel_rfl)).trans (by kernel_rfl : (_ : Value) = .int .u32 x13_3))) ((hx 17 (by kernel_rfl)).trans (by kernel_rfl : (_ : Value) = .int .u32 y52))) ((hx 49 (by kernel_rfl)).trans (by kernel_rfl : (_ : Value) = .int .i64 x49_3))) ((hf 15 86 (by kernel_rfl) rfl).trans hv15)) ((hf 18 89 (by kernel_rfl) rfl).trans hv18)) ?_
    refine ls_sub (sput (sput (sput (sput s0 0 (some (Ck.var 79 g1 ((en (Value.int .u32) a0.1.1 ++ [Value.int .u64 a0.2]))))) 2 (some (Ck.var 79 g3 ((en (Value.int .u32) (vrep 8 (0 : Int)).1 ++ [Value.int .u64 (0 : Int)]))))) 3 (some (Ck.var 69 g10 (en (Value.int .u32) t4.1)))) 4 (some (Ck.var 69 g11 (en (Value.int .u32) t7.1)))) (sub_put ((hS 4 (by kernel_rfl)).trans (by exact rfl)) (sub_put ((hS 3 (by kernel_rfl)).trans (by exact rfl)) (sub_put ((hS 2 (by kernel_rfl)).trans (by exact rfl)) (sub_put ((hS 0 (by kernel_rfl)).trans (by exact rfl)) (sub_nil _))))) ?_
    obtain ⟨y73, hy74, H⟩ := lt_some H
    refine lv (.int .u32 (IntKind.wrap .u32 (y71 + (t4.1.getD (x49_3).toNat (0 : Int))))) ?_
    refine ls_ren 90 (v := .int .u32 (IntKind.wrap .u32 (y71 + (t4.1.getD (x49_3).toNat (0 : Int))))) (v' := .int .u32 y73) (by kernel_rfl) (by rw [hy74]) ?_
    refine lv (.int .u32 y73) ?_
    refine ls_end ?_
    refine qn_then ?_
    refine cs_seq ?_
    refine cs_region (l := [_, _, _, _, _, _, _, _, _, _, _]) ?_
    refine lv (.int .u32 x7_3) ?_
    obtain ⟨t75, hc76, H⟩ := bind_some H
    refine ls_callb (fid := 62) (vals := #[.int .u32 x7_3, .int .i64 (2 : Int)]) (X := Unit) (fun x => .int .u32 t75) (fun x => stl []) [] [] [] [] 405 rfl rfl (by kernel_rfl) (fun w => by kernel_rfl) trivial trivial (by decide) (fun w hs hb => sha_down.calls k3 x7_3 (2 : Int) t75 (lent b w [] []) hb  hc76) ?_
    intro x77
    refine lv (.int .u32 x7_3) ?_
    obtain ⟨t78, hc79, H⟩ := bind_some H
    refine ls_callb (fid := 62) (vals := #[.int .u32 x7_3, .int .i64 (13 : Int)]) (X := Unit) (fun x => .int .u32 t78) (fun x => stl []) [] [] [] [] 405 rfl rfl (by kernel_rfl) (fun w => by kernel_rfl) trivial trivial (by decide) (fun w hs hb => sha_down.calls k3 x7_3 (13 : Int) t78 (lent b w [] []) hb  hc79) ?_
    intro x80
    refine lv (.int .u32 (bits .xor .u32 t75 t78)) ?_
    refine lv (.int .u32 x7_3) ?_
    obtain ⟨t81, hc82, H⟩ := bind_some H
    refine ls_callb (fid := 62) (vals := #[.int .u32 x7_3, .int .i64 (22 : Int)]) (X := Unit) (fun x => .int .u32 t81) (fun x => stl []) [] [] [] [] 405 rfl rfl (by kernel_rfl) (fun w => by kernel_rfl) trivial trivial (by decide) (fun w hs hb => sha_down.calls k3 x7_3 (22 : Int) t81 (lent b w [] []) hb  hc82) ?_
    intro x83
    obtain ⟨y84, hy85, H⟩ := lt_some H
    refine lv (.int .u32 (bits .xor .u32 (bits .xor .u32 t75 t78) t81)) ?_
    refine ls_ren 98 (v := .int .u32 (bits .xor .u32 (bits .xor .u32 t75 t78) t81)) (v' := .int .u32 y84) (by kernel_rfl) (by rw [hy85]) ?_
    refine lv (.int .u32 y52) ?_
    refine lv (.int .u32 (IntKind.wrap .u32 (y84 + y52))) ?_
    refine lv (.int .u32 (IntKind.wrap .u32 (y84 + y52))) ?_
    refine ls_end ?_
    refine qn_then ?_
    refine cs_seq ?_
    refine cs_region (l := [_, _, _, _, _, _, _, _, _, _]) ?_
    refine lv (.int .u32 x13_3) ?_
    refine lv (.int .u32 x12_3) ?_
    refine lv (.int .u32 x11_3) ?_
    refine lv (.int .u32 x10_3) ?_
    refine lv (.int .u32 y73) ?_
    refine lv (.int .u32 (IntKind.wrap .u32 (x10_3 + y73))) ?_
    refine lv (.int .u32 x13_3) ?_
    refine lv (.int .u32 x12_3) ?_
    refine lv (.int .u32 x11_3) ?_
    refine lv (.int .u32 (IntKind.wrap .u32 (x10_3 + y73))) ?_
    refine ls_end ?_
    refine qn_then ?_
    refine cs_region (l := [_, _, _, _, _, _, _, _, _, _]) ?_
    refine lv (.int .u32 x9_3) ?_
    refine lv (.int .u32 x8_3) ?_
    refine lv (.int .u32 x7_3) ?_
    refine lv (.int .u32 y73) ?_
    refine lv (.int .u32 (IntKind.wrap .u32 (y84 + y52))) ?_
    obtain ⟨y86, hy87, H⟩ := lt_some H
    refine lv (.int .u32 (IntKind.wrap .u32 (y73 + (IntKind.wrap .u32 (y84 + y52))))) ?_
    refine ls_ren 112 (v := .int .u32 (IntKind.wrap .u32 (y73 + (IntKind.wrap .u32 (y84 + y52))))) (v' := .int .u32 y86) (by kernel_rfl) (by rw [hy87]) ?_
    refine lv (.int .u32 x9_3) ?_
    refine lv (.int .u32 x8_3) ?_
    refine lv (.int .u32 x7_3) ?_
    refine lv (.int .u32 y86) ?_
    refine ls_end ?_
    refine qn_block ?_
    refine qn_then ?_
    refine cs_region (l := [_, _]) ?_
    refine lv (.int .i64 (IntKind.wrap .i64 (x49_3 + (1 : Int)))) ?_
    refine lv (.int .i64 (IntKind.wrap .i64 (x49_3 + (1 : Int)))) ?_
    refine ls_end ?_
    refine qn_again k3 (sput (sput (sput (sput s0 0 (some (Ck.var 79 g1 ((en (Value.int .u32) a0.1.1 ++ [Value.int .u64 a0.2]))))) 2 (some (Ck.var 79 g3 ((en (Value.int .u32) (vrep 8 (0 : Int)).1 ++ [Value.int .u64 (0 : Int)]))))) 3 (some (Ck.var 69 g10 (en (Value.int .u32) t4.1)))) 4 (some (Ck.var 69 g11 (en (Value.int .u32) t7.1)))) (Nat.le_refl _) ⟨_, y86, x7_3, x8_3, x9_3, (IntKind.wrap .u32 (x10_3 + y73)), x11_3, x12_3, x13_3, (IntKind.wrap .i64 (x49_3 + (1 : Int))), fr_next (fr_next (fr_next (fr_next (fr_next (fr_next (fr_next (fr_next (fr_next (fr_next (fr_next (fr_next (fr_next (rfl) (by kernel_rfl)) (by kernel_rfl)) (by kernel_rfl)) (by kernel_rfl)) (by kernel_rfl)) (by kernel_rfl)) (by kernel_rfl)) (by kernel_rfl)) (by kernel_rfl)) (by kernel_rfl)) (by kernel_rfl)) (by kernel_rfl)) (by kernel_rfl), rfl, H⟩ (sub_put (by exact rfl) (sub_put (by exact rfl) (sub_put (by exact rfl) (sub_put (by exact rfl) (sub_nil _)))))
  rintro f S ⟨fr1, x7_1, x8_1, x9_1, x10_1, x11_1, x12_1, x13_1, x14_1, rfl, rfl, H⟩
  replace H : (sha_State_Block.lo2 x7_1 x8_1 x9_1 x10_1 x11_1 x12_1 x13_1 x14_1 k (0 : Int) a0) = some r := H
  refine cs_seq ?_
  refine cs_seq ?_
  refine cs_region (l := [_, _, _, _, _, _, _, _, _, _]) ?_
  refine lv (.int .u32 x7_1) ?_
  refine lv (.int .u32 x8_1) ?_
  refine lv (.int .u32 x9_1) ?_
  refine lv (.int .u32 x10_1) ?_
  refine lv (.int .u32 x11_1) ?_
  refine lv (.int .u32 x12_1) ?_
  refine lv (.int .u32 x13_1) ?_
  refine lv (.int .u32 x14_1) ?_
  refine lv (.agg ⟨en (Value.int .u32) (⟨[x7_1, x8_1, x9_1, x10_1, x11_1, x12_1, x13_1, x14_1], rfl⟩ : (Vc Int 8)).1⟩) ?_
  refine lv (.int .i64 (0 : Int)) ?_
  refine ls_end ?_
  refine qn_then ?_
  refine cs_block ?_
  refine cs_sub (sput (sput s0 0 (some (Ck.var 79 g1 ((en (Value.int .u32) a0.1.1 ++ [Value.int .u64 a0.2]))))) 2 (some (Ck.var 79 g3 ((en (Value.int .u32) (vrep 8 (0 : Int)).1 ++ [Value.int .u64 (0 : Int)]))))) (sub_put (by exact rfl) (sub_put (by exact rfl) (sub_nil _))) ?_
  refine cs_loop (fun kk f S => ∃ (fR : Fr) (x123_2 : Int) (m0_2 : ((Vc Int 8) × Int)), f = upd (upd (upd (upd fR 2 (.pointer (some ⟨g1, 0, none⟩))) 4 (.pointer (some ⟨g3, 0, none⟩))) 122 (.agg ⟨en (Value.int .u32) (⟨[x7_1, x8_1, x9_1, x10_1, x11_1, x12_1, x13_1, x14_1], rfl⟩ : (Vc Int 8)).1⟩)) 123 (.int .i64 x123_2) ∧ S = sput (sput s0 0 (some (Ck.var 79 g1 ((en (Value.int .u32) m0_2.1.1 ++ [Value.int .u64 m0_2.2]))))) 2 (some (Ck.var 79 g3 ((en (Value.int .u32) (vrep 8 (0 : Int)).1 ++ [Value.int .u64 (0 : Int)])))) ∧ sha_State_Block.lo2 x7_1 x8_1 x9_1 x10_1 x11_1 x12_1 x13_1 x14_1 kk x123_2 m0_2 = some r) k ?_ ?_ ?_
  · exact ⟨_, (0 : Int), a0, fr_next (fr_next (fr_next (fr_next (rfl) (by kernel_rfl)) (by kernel_rfl)) (by kernel_rfl)) (by kernel_rfl), rfl, H⟩
  · rintro f S ⟨fr2, x123_2, m0_2, rfl, rfl, H⟩; cases H
  rintro k2 f S ⟨fr2, x123_2, m0_2, rfl, rfl, H⟩
  replace H : ((if x123_2 < (8 : Int) then (if 0 ≤ x123_2 then lt (((⟨[x7_1, x8_1, x9_1, x10_1, x11_1, x12_1, x13_1, x14_1], rfl⟩ : (Vc Int 8)).1.getD (x123_2).toNat (0 : Int))) fun y40 => lt (IntKind.wrap .u32 ((m0_2.1.1.getD (x123_2).toNat (0 : Int)) + y40)) fun y42 => lt (vset m0_2.1 (x123_2).toNat y42) fun y44 => (sha_State_Block.lo2 x7_1 x8_1 x9_1 x10_1 x11_1 x12_1 x13_1 x14_1 k2) (IntKind.wrap .i64 (x123_2 + (1 : Int))) (y44, m0_2.2) else none) else some (m0_2.1, IntKind.wrap .u64 (m0_2.2 + (64 : Int))))) = some r := H
  refine cs_seq ?_
  refine cs_region (l := [_]) ?_
  refine lv (.bool (decide (x123_2 < (8 : Int)))) ?_
  refine ls_end ?_
  refine qn_then ?_
  refine cs_seq ?_
  by_cases q38 : x123_2 < (8 : Int)
  · replace H := ite_t q38 H
    refine cs_know (c := true) (dec_t q38) 124 (by kernel_rfl) ?_
    refine cs_true (by kernel_rfl) ?_
    refine cs_skip' ?_
    refine qn_then ?_
    refine cs_seq ?_
    refine cs_block ?_
    refine cs_seq ?_
    refine cs_region (l := [_, _, _, _]) ?_
    refine lv (.int .i64 x123_2) ?_
    obtain ⟨q39, H⟩ := ite_need H
    obtain ⟨y40, hy41, H⟩ := lt_some H
    refine ls_index (l := (⟨[x7_1, x8_1, x9_1, x10_1, x11_1, x12_1, x13_1, x14_1], rfl⟩ : (Vc Int 8)).1) (E := (Value.int .u32)) (i := x123_2) (kk := .i64) (ln := 8) (e := 23) rfl rfl (by kernel_rfl) (⟨[x7_1, x8_1, x9_1, x10_1, x11_1, x12_1, x13_1, x14_1], rfl⟩ : (Vc Int 8)).2 rfl (by kernel_rfl) (by kernel_rfl) (by kernel_rfl) (by kernel_rfl) (by kernel_rfl) q39 q38 0 ?_
    refine ls_ren 126 (v := .int .u32 ((⟨[x7_1, x8_1, x9_1, x10_1, x11_1, x12_1, x13_1, x14_1], rfl⟩ : (Vc Int 8)).1.getD (x123_2).toNat (0 : Int))) (v' := .int .u32 y40) (by kernel_rfl) (by rw [hy41]) ?_
    refine lv (.int .i64 x123_2) ?_
    refine lv (.int .u32 y40) ?_
    refine ls_end ?_
    refine qn_then ?_
    refine cs_region (l := [_, _, _, _, _, _, _, _, _]) ?_
    refine lv (.int .i64 x123_2) ?_
    refine lv (.pointer (some ⟨g1, (0 + 0), none⟩)) ?_
    refine ls_idxa1 (g := g1) (off := (0 + 0)) (i := x123_2) (kk := .i64) (ln := 8) (e := 23) rfl rfl (by kernel_rfl) rfl (by kernel_rfl) (by kernel_rfl) (by kernel_rfl) (by kernel_rfl) q39 q38 ?_
    refine ls_load (a0 := ⟨g1, ((0 + 0) + (x123_2).toNat), none⟩) (v := .int .u32 (m0_2.1.1.getD (x123_2).toNat (0 : Int))) (de := (TypeDesc.int .u32)) rfl rfl (by kernel_rfl) rfl (by kernel_rfl) (by kernel_rfl) (by kernel_rfl) (fun w hs => (hs.var (k := 0) (by exact rfl) (Sub4.trans (Sub4.trans (Sub4.all _) (Sub4.head _ _)) (Sub4.one (i := (x123_2).toNat) (Value.int .u32) m0_2.1.1 0 (by have := m0_2.1.2; omega))))) ?_
    refine lv (.int .u32 y40) ?_
    obtain ⟨y42, hy43, H⟩ := lt_some H
    refine lv (.int .u32 (IntKind.wrap .u32 ((m0_2.1.1.getD (x123_2).toNat (0 : Int)) + y40))) ?_
    refine ls_ren 132 (v := .int .u32 (IntKind.wrap .u32 ((m0_2.1.1.getD (x123_2).toNat (0 : Int)) + y40))) (v' := .int .u32 y42) (by kernel_rfl) (by rw [hy43]) ?_
    refine lv (.pointer (some ⟨g1, (0 + 0), none⟩)) ?_
    refine ls_idxa1 (g := g1) (off := (0 + 0)) (i := x123_2) (kk := .i64) (ln := 8) (e := 23) rfl rfl (by kernel_rfl) rfl (by kernel_rfl) (by kernel_rfl) (by kernel_rfl) (by kernel_rfl) q39 q38 ?_
    obtain ⟨y44, hy45, H⟩ := lt_some H
    refine ls_storec (g := g1) (off := ((0 + 0) + (x123_2).toNat)) (v := .int .u32 y42) (vs := [Value.int .u32 y42]) (cs := (en (Value.int .u32) m0_2.1.1 ++ [Value.int .u64 m0_2.2])) (ty := 79) 0 rfl rfl rfl (by kernel_rfl) (by kernel_rfl) (by kernel_rfl) (by exact rfl) (by kernel_rfl) (len1 _) (one_cons rfl one_nil) (hl_of (Sub4.trans (Sub4.trans (Sub4.all _) (Sub4.head _ _)) (Sub4.one (i := (x123_2).toNat) (Value.int .u32) m0_2.1.1 0 (by have := m0_2.1.2; omega))) (len_eq (len1 _) (len1 _))) (cs' := (en (Value.int .u32) y44.1 ++ [Value.int .u64 m0_2.2])) (splc_in (Sub4.trans (Sub4.all _) (Sub4.head _ _)) ((splc_one (Value.int .u32) m0_2.1.1 y42 (by have := m0_2.1.2; omega)).trans (congrArg (fun z : (Vc Int 8) => en (Value.int .u32) z.1) hy45)) (splc_in (Sub4.all _) (splc_head (len_eq (len_en _ y44) (len_en _ m0_2.1))) (splc_all (len_eq (len_app (len_en _ y44) (len1 _)) (len_app (len_en _ m0_2.1) (len1 _)))) (hl_of (Sub4.head _ _) (len_eq (len_en _ y44) (len_en _ m0_2.1)))) (hl_of (Sub4.one (i := (x123_2).toNat) (Value.int .u32) m0_2.1.1 0 (by have := m0_2.1.2; omega)) (len_eq (len1 _) (len1 _)))) ?_
    refine ls_end ?_
    refine qn_block ?_
    refine qn_then ?_
    refine cs_region (l := [_, _]) ?_
    refine lv (.int .i64 (IntKind.wrap .i64 (x123_2 + (1 : Int)))) ?_
    refine lv (.int .i64 (IntKind.wrap .i64 (x123_2 + (1 : Int)))) ?_
    refine ls_end ?_
    refine qn_again k2 (sput (sput s0 0 (some (Ck.var 79 g1 ((en (Value.int .u32) y44.1 ++ [Value.int .u64 m0_2.2]))))) 2 (some (Ck.var 79 g3 ((en (Value.int .u32) (vrep 8 (0 : Int)).1 ++ [Value.int .u64 (0 : Int)]))))) (Nat.le_refl _) ⟨_, (IntKind.wrap .i64 (x123_2 + (1 : Int))), (y44, m0_2.2), fr_next (fr_next (fr_next (fr_next (rfl) (by kernel_rfl)) (by kernel_rfl)) (by kernel_rfl)) (by kernel_rfl), rfl, H⟩ (sub_put (by exact rfl) (sub_put (by exact rfl) (sub_nil _)))
  replace H := ite_f q38 H
  refine cs_know (c := false) (dec_f q38) 124 (by kernel_rfl) ?_
  refine cs_false (by kernel_rfl) ?_
  refine cs_exit' ?_
  refine qx_then ?_
  refine qx_then ?_
  refine qx_same ?_
  refine qn_then ?_
  refine cs_seq ?_
  refine cs_region (l := [_, _, _, _, _]) ?_
  refine lv (.pointer (some ⟨g1, (0 + 8), none⟩)) ?_
  refine ls_load (a0 := ⟨g1, (0 + 8), none⟩) (v := .int .u64 m0_2.2) (de := (TypeDesc.int .u64)) rfl rfl (by kernel_rfl) rfl (by kernel_rfl) (by kernel_rfl) (by kernel_rfl) (fun w hs => (hs.var (k := 0) (by exact rfl) (Sub4.trans (Sub4.all _) (Sub4.skip (n := 8) (len_en _ m0_2.1) (Sub4.all _))))) ?_
  refine lv (.int .u64 (IntKind.wrap .u64 (m0_2.2 + (64 : Int)))) ?_
  refine lv (.pointer (some ⟨g1, (0 + 8), none⟩)) ?_
  refine ls_storec (g := g1) (off := (0 + 8)) (v := .int .u64 (IntKind.wrap .u64 (m0_2.2 + (64 : Int)))) (vs := [Value.int .u64 (IntKind.wrap .u64 (m0_2.2 + (64 : Int)))]) (cs := (en (Value.int .u32) m0_2.1.1 ++ [Value.int .u64 m0_2.2])) (ty := 79) 0 rfl rfl rfl (by kernel_rfl) (by kernel_rfl) (by kernel_rfl) (by exact rfl) (by kernel_rfl) (len1 _) (one_cons rfl one_nil) (hl_of (Sub4.trans (Sub4.all _) (Sub4.skip (n := 8) (len_en _ m0_2.1) (Sub4.all _))) (len_eq (len1 _) (len1 _))) (cs' := (en (Value.int .u32) m0_2.1.1 ++ [Value.int .u64 (IntKind.wrap .u64 (m0_2.2 + (64 : Int)))])) (splc_in (Sub4.all _) (splc_skip (n := 8) (len_en _ m0_2.1) (splc_all (len_eq (len1 _) (len1 _)))) (splc_all (len_eq (len_app (len_en _ m0_2.1) (len1 _)) (len_app (len_en _ m0_2.1) (len1 _)))) (hl_of (Sub4.skip (n := 8) (len_en _ m0_2.1) (Sub4.all _)) (len_eq (len1 _) (len1 _)))) ?_
  refine ls_end ?_
  refine qn_then ?_
  refine cs_seq ?_
  refine cs_region (l := [_, _]) ?_
  refine ls_loadagg (a := ⟨g1, 0, none⟩) (sub := (en (Value.int .u32) m0_2.1.1 ++ [Value.int .u64 (IntKind.wrap .u64 (m0_2.2 + (64 : Int)))])) rfl rfl (by kernel_rfl) rfl (by kernel_rfl) (by kernel_rfl) (by kernel_rfl) (len_app (len_en _ m0_2.1) (len1 _)) (fun w hs => (hs.vars (k := 0) (by exact rfl) (Sub4.all _))) ?_
  refine ls_storec (g := g3) (off := 0) (v := .agg ⟨(en (Value.int .u32) m0_2.1.1 ++ [Value.int .u64 (IntKind.wrap .u64 (m0_2.2 + (64 : Int)))])⟩) (vs := (en (Value.int .u32) m0_2.1.1 ++ [Value.int .u64 (IntKind.wrap .u64 (m0_2.2 + (64 : Int)))])) (cs := (en (Value.int .u32) (vrep 8 (0 : Int)).1 ++ [Value.int .u64 (0 : Int)])) (ty := 79) 2 rfl rfl rfl (by kernel_rfl) (by kernel_rfl) (by kernel_rfl) (by exact rfl) (by kernel_rfl) (len_app (len_en _ m0_2.1) (len1 _)) (one_app (one_en (fun _ => rfl) _) (one_cons rfl one_nil)) (hl_of (Sub4.all _) (len_eq (len_app (len_en _ m0_2.1) (len1 _)) (len_app (len_en _ (vrep 8 (0 : Int))) (len1 _)))) (cs' := (en (Value.int .u32) m0_2.1.1 ++ [Value.int .u64 (IntKind.wrap .u64 (m0_2.2 + (64 : Int)))])) (splc_all (len_eq (len_app (len_en _ m0_2.1) (len1 _)) (len_app (len_en _ (vrep 8 (0 : Int))) (len1 _)))) ?_
  refine ls_end ?_
  refine qn_then ?_
  refine cs_ret' ?_
  obtain rfl := Option.some.inj H
  refine qr_res (rs := [_]) rfl (fun w' hs => ⟨[.agg ⟨(en (Value.int .u32) m0_2.1.1 ++ [Value.int .u64 (IntKind.wrap .u64 (m0_2.2 + (64 : Int)))])⟩], (.cell (by kernel_rfl) (run_cellres (by kernel_rfl) (by kernel_rfl) (len_app (len_en _ m0_2.1) (len1 _)) (hs.holds 2 _ (by exact rfl))) (.nil)), (), rfl, hs.pick (ts := []) (cs := []) trivial (by decide)⟩)

/-! ### (shadowbox/sha.State).End: function 43 -/
def sha_State_End.lo3 (t25 : ((Vc Int 8) × Int)) : Nat → Int → ((Vc Int 32)) → Option ((Vc Int 32))
  | 0, _, _ => none
  | k3 + 1, x48_3, m3_3 => (if x48_3 < (32 : Int) then lt (IntKind.wrap .i64 (Int.tdiv x48_3 (4 : Int))) fun y30 => (if 0 ≤ y30 then (if y30 < (8 : Int) then lt (IntKind.wrap .i64 ((3 : Int) - (Int.tmod x48_3 (4 : Int)))) fun y34 => (if 0 ≤ IntKind.wrap .i64 ((8 : Int) * y34) then lt (shrv .u32 (t25.1.1.getD (y30).toNat (0 : Int)) (IntKind.wrap .i64 ((8 : Int) * y34))) fun y37 => (if 0 ≤ x48_3 then lt (vset m3_3 (x48_3).toNat (IntKind.wrap .u8 y37)) fun y40 => (sha_State_End.lo3 t25 k3) (IntKind.wrap .i64 (x48_3 + (1 : Int))) y40 else none) else none) else none) else none) else some m3_3)
def sha_State_End.jo2 (k : Nat) (m0_1 : ((Vc Int 8) × Int)) (m2_2 : (Vc Int 64)) : Option ((Vc Int 32)) := (sha_State_Block.f k m0_1 m2_2).bind fun t25 => sha_State_End.lo3 t25 k (0 : Int) (vrep 32 (0 : Int))
def sha_State_End.lo4 (y16 : Int) (jo2 : ((Vc Int 64)) → Option ((Vc Int 32))) : Nat → Int → ((Vc Int 64)) → Option ((Vc Int 32))
  | 0, _, _ => none
  | k4 + 1, x33_4, m2_4 => (if x33_4 < (8 : Int) then (if 0 ≤ IntKind.wrap .i64 ((8 : Int) * x33_4) then lt (shrv .u64 (IntKind.wrap .u64 ((8 : Int) * y16)) (IntKind.wrap .i64 ((8 : Int) * x33_4))) fun y44 => (if 0 ≤ IntKind.wrap .i64 ((63 : Int) - x33_4) then (if IntKind.wrap .i64 ((63 : Int) - x33_4) < (64 : Int) then lt (vset m2_4 (IntKind.wrap .i64 ((63 : Int) - x33_4)).toNat (IntKind.wrap .u8 y44)) fun y48 => (sha_State_End.lo4 y16 jo2 k4) (IntKind.wrap .i64 (x33_4 + (1 : Int))) y48 else none) else none) else none) else jo2 m2_4)
def sha_State_End.jo1 (k : Nat) (y16 : Int) (m0_1 : ((Vc Int 8) × Int)) (m2_1 : (Vc Int 64)) : Option ((Vc Int 32)) := sha_State_End.lo4 y16 (sha_State_End.jo2 k m0_1) k (0 : Int) m2_1
def sha_State_End.cst0 : Vc Int 64 := ⟨[(0 : Int), (0 : Int), (0 : Int), (0 : Int), (0 : Int), (0 : Int), (0 : Int), (0 : Int), (0 : Int), (0 : Int), (0 : Int), (0 : Int), (0 : Int), (0 : Int), (0 : Int), (0 : Int), (0 : Int), (0 : Int), (0 : Int), (0 : Int), (0 : Int), (0 : Int), (0 : Int), (0 : Int), (0 : Int), (0 : Int), (0 : Int), (0 : Int), (0 : Int), (0 : Int), (0 : Int), (0 : Int), (0 : Int), (0 : Int), (0 : Int), (0 : Int), (0 : Int), (0 : Int), (0 : Int), (0 : Int), (0 : Int), (0 : Int), (0 : Int), (0 : Int), (0 : Int), (0 : Int), (0 : Int), (0 : Int), (0 : Int), (0 : Int), (0 : Int), (0 : Int), (0 : Int), (0 : Int), (0 : Int), (0 : Int), (0 : Int), (0 : Int), (0 : Int), (0 : Int), (0 : Int), (0 : Int), (0 : Int), (0 : Int)], rfl⟩
def sha_State_End.f (k : Nat) (a0 : ((Vc Int 8) × Int)) (l1 : List Int) : Option ((Vc Int 32)) :=
  lt ((if (63 : Int) < (l1.length : Int) then (63 : Int) else (l1.length : Int))) fun y3 => (if 0 ≤ y3 then (if y3 ≤ (l1.length : Int) then lt (l1.take (y3).toNat) fun xl11 => lt (IntKind.wrap .u64 (a0.2 + (IntKind.wrap .u64 (xl11.length : Int)))) fun y16 => lt (vcopy (vrep 64 (0 : Int)) xl11) fun y19 => (if 0 ≤ ((min xl11.length 64 : Nat) : Int) then (if ((min xl11.length 64 : Nat) : Int) < (64 : Int) then lt (vset y19 (((min xl11.length 64 : Nat) : Int)).toNat (128 : Int)) fun y23 => (if (xl11.length : Int) ≥ (56 : Int) then (sha_State_Block.f k a0 y23).bind fun t51 => (sha_State_End.jo1 k y16) t51 sha_State_End.cst0 else (sha_State_End.jo1 k y16) a0 y23) else none) else none) else none) else none)
set_option maxRecDepth 100000 in
set_option maxHeartbeats 4000000 in
theorem sha_State_End.calls (k : Nat) (a0 : ((Vc Int 8) × Int)) (A1 : Option Addr) (c1 : Nat) (l1 : List Int) (r : (Vc Int 32)) (b : Bs) (hs0 : St b (stl []) b.w) (R1 : Ro b A1 (em (Ec.int 5 .u8) l1)) (C1 : l1.length ≤ c1) (H : sha_State_End.f k a0 l1 = some r) :
    Calls Try.prog 43 #[.agg ⟨(en (Value.int .u32) a0.1.1 ++ [Value.int .u64 a0.2])⟩, .slice A1 l1.length c1] b.w fun e w' => ∃ x : Unit, e = .returned (.agg ⟨en (Value.int .u8) r.1⟩) ∧ St b (stl []) w' := by
  unfold sha_State_End.f at H
  refine enterb (n := 66) Try.func43 rfl (by kernel_rfl) (by kernel_rfl) hs0 ?_
  refine cs_sub (s0) (sub_nil _) ?_
  refine cs_seq ?_
  refine cs_region (l := [_, _]) ?_
  refine ls_new rfl rfl (by kernel_rfl) 0 (fun g => .pointer (some ⟨g, 0, none⟩)) (.cells ⟨(en (Value.int .u32) a0.1.1 ++ [Value.int .u64 a0.2])⟩ 79) (fun w => by kernel_rfl) ?_
  intro g1
  refine ls_new rfl rfl (by kernel_rfl) 1 (fun g => .pointer (some ⟨g, 0, none⟩)) (.cells ⟨en (Value.int .u8) (vrep 32 (0 : Int)).1⟩ 28) (fun w => by kernel_rfl) ?_
  intro g2
  refine ls_end ?_
  refine qn_then ?_
  refine cs_seq ?_
  refine cs_region (l := [_, _, _, _, _, _]) ?_
  refine lv (.slice A1 l1.length c1) ?_
  refine lv (.slice A1 l1.length c1) ?_
  refine lv (.int .i64 (l1.length : Int)) ?_
  obtain ⟨y3, hy4, H⟩ := lt_some H
  refine lv (.int .i64 (if (63 : Int) < (l1.length : Int) then (63 : Int) else (l1.length : Int))) ?_
  refine ls_ren 13 (v := .int .i64 (if (63 : Int) < (l1.length : Int) then (63 : Int) else (l1.length : Int))) (v' := .int .i64 y3) (by kernel_rfl) (by rw [hy4]) ?_
  obtain ⟨q5, H⟩ := ite_need H
  obtain ⟨q6, H⟩ := ite_need H
  obtain ⟨xl11, hy12, H⟩ := lt_some H
  have hz14 : 0 ≤ (y3).toNat := by omega
  have hz15 : (y3).toNat ≤ l1.length := by omega
  obtain ⟨xA7, xc8, he13, xC10, xR9⟩ := cut_at (A := A1) (c := c1) (l := l1) (Ec.int 5 .u8) 0 ((y3).toNat) hz14 hz15 C1 R1 (m := xl11) (by rw [← hy12] <;> simp) (z := 1) rfl
  refine ls_cutv (A := A1) (c := c1) (m := l1.length) (z := 1) (e := 5) (a := 0) (b := (y3).toNat) rfl rfl (by kernel_rfl) rfl (by kernel_rfl) (by kernel_rfl) (by kernel_rfl) (.inl ⟨rfl, rfl⟩) (.inr ⟨.i64, by rw [Int.toNat_of_nonneg (by first | assumption | omega)]; kernel_rfl⟩) hz14 hz15 C1 he13 ?_
  refine lv (.slice xA7 xl11.length xc8) ?_
  refine ls_end ?_
  refine qn_then ?_
  refine cs_seq ?_
  refine cs_region (l := [_, _, _, _, _, _, _, _]) ?_
  refine lv (.pointer (some ⟨g1, (0 + 8), none⟩)) ?_
  refine ls_load (a0 := ⟨g1, (0 + 8), none⟩) (v := .int .u64 a0.2) (de := (TypeDesc.int .u64)) rfl rfl (by kernel_rfl) rfl (by kernel_rfl) (by kernel_rfl) (by kernel_rfl) (fun w hs => (hs.var (k := 0) (by exact rfl) (Sub4.trans (Sub4.all _) (Sub4.skip (n := 8) (len_en _ a0.1) (Sub4.all _))))) ?_
  refine lv (.slice xA7 xl11.length xc8) ?_
  refine lv (.int .i64 (xl11.length : Int)) ?_
  refine lv (.int .u64 (IntKind.wrap .u64 (xl11.length : Int))) ?_
  obtain ⟨y16, hy17, H⟩ := lt_some H
  refine lv (.int .u64 (IntKind.wrap .u64 (a0.2 + (IntKind.wrap .u64 (xl11.length : Int))))) ?_
  refine ls_ren 20 (v := .int .u64 (IntKind.wrap .u64 (a0.2 + (IntKind.wrap .u64 (xl11.length : Int))))) (v' := .int .u64 y16) (by kernel_rfl) (by rw [hy17]) ?_
  refine lv (.int .u64 (IntKind.wrap .u64 ((8 : Int) * y16))) ?_
  refine lv (.int .u64 (IntKind.wrap .u64 ((8 : Int) * y16))) ?_
  refine ls_end ?_
  refine qn_then ?_
  refine cs_seq ?_
  refine cs_region (l := [_]) ?_
  refine ls_new rfl rfl (by kernel_rfl) 2 (fun g => .pointer (some ⟨g, 0, none⟩)) (.cells ⟨en (Value.int .u8) (vrep 64 (0 : Int)).1⟩ 82) (fun w => by kernel_rfl) ?_
  intro g18
  refine ls_end ?_
  refine qn_then ?_
  refine cs_seq ?_
  refine cs_region (l := [_, _, _, _, _]) ?_
  refine ls_val (v := .slice (some ⟨g18, 0, none⟩) (vrep 64 (0 : Int)).1.length 64) rfl rfl (by kernel_rfl) (fun w => by rw [show (vrep 64 (0 : Int)).1.length = 64 from (vrep 64 (0 : Int)).2]; kernel_rfl) ?_
  refine lv (.slice xA7 xl11.length xc8) ?_
  obtain ⟨y19, hy20, H⟩ := lt_some H
  refine ls_copyv (Value.int .u8) (g := g18) (off := 0) (N := 64) (cx := 64) (B := xA7) (cb := xc8) (l := xl11) (v := (vrep 64 (0 : Int))) (cs := en (Value.int .u8) (vrep 64 (0 : Int)).1) (ty := 82) (e := 5) 2 rfl rfl (by rw [show (vrep 64 (0 : Int)).1.length = 64 from (vrep 64 (0 : Int)).2]; kernel_rfl) (by kernel_rfl) (by exact rfl) (by kernel_rfl) (by kernel_rfl) (fun w hs => Rd.toen (t := 5) (hs.old xR9)) (fun _ => rfl) (Sub4.all _) (cs' := en (Value.int .u8) (vcopy (vrep 64 (0 : Int)) xl11).1) (splc_all (len_eq (len_en _ (vcopy (vrep 64 (0 : Int)) xl11)) (len_en _ (vrep 64 (0 : Int))))) rfl (by kernel_rfl) ?_
  rw [hy20]
  obtain ⟨q21, H⟩ := ite_need H
  obtain ⟨q22, H⟩ := ite_need H
  refine ls_idxa1 (g := g18) (off := 0) (i := ((min xl11.length 64 : Nat) : Int)) (kk := .i64) (ln := 64) (e := 5) rfl rfl (by kernel_rfl) rfl (by kernel_rfl) (by kernel_rfl) (by kernel_rfl) (by kernel_rfl) q21 q22 ?_
  obtain ⟨y23, hy24, H⟩ := lt_some H
  refine ls_storec (g := g18) (off := (0 + (((min xl11.length 64 : Nat) : Int)).toNat)) (v := .int .u8 (128 : Int)) (vs := [Value.int .u8 (128 : Int)]) (cs := en (Value.int .u8) y19.1) (ty := 82) 2 rfl rfl rfl (by kernel_rfl) (by kernel_rfl) (by kernel_rfl) (by exact rfl) (by kernel_rfl) (len1 _) (one_cons rfl one_nil) (hl_of (Sub4.trans (Sub4.all _) (Sub4.one (i := (((min xl11.length 64 : Nat) : Int)).toNat) (Value.int .u8) y19.1 0 (by have := y19.2; omega))) (len_eq (len1 _) (len1 _))) (cs' := en (Value.int .u8) y23.1) (splc_in (Sub4.all _) ((splc_one (Value.int .u8) y19.1 (128 : Int) (by have := y19.2; omega)).trans (congrArg (fun z : (Vc Int 64) => en (Value.int .u8) z.1) hy24)) (splc_all (len_eq (len_en _ y23) (len_en _ y19))) (hl_of (Sub4.one (i := (((min xl11.length 64 : Nat) : Int)).toNat) (Value.int .u8) y19.1 0 (by have := y19.2; omega)) (len_eq (len1 _) (len1 _)))) ?_
  refine ls_end ?_
  refine qn_then ?_
  refine cs_cut (fun f S => ∃ (fR : Fr) (m0_1 : ((Vc Int 8) × Int)) (m2_1 : (Vc Int 64)), f = upd (upd (upd (upd fR 2 (.pointer (some ⟨g1, 0, none⟩))) 4 (.pointer (some ⟨g2, 0, none⟩))) 5 (.int .u64 (IntKind.wrap .u64 ((8 : Int) * y16)))) 6 (.pointer (some ⟨g18, 0, none⟩)) ∧ S = sput (sput (sput s0 0 (some (Ck.var 79 g1 ((en (Value.int .u32) m0_1.1.1 ++ [Value.int .u64 m0_1.2]))))) 1 (some (Ck.var 28 g2 (en (Value.int .u8) (vrep 32 (0 : Int)).1)))) 2 (some (Ck.var 82 g18 (en (Value.int .u8) m2_1.1))) ∧ sha_State_End.jo1 k y16 m0_1 m2_1 = some r) ?_ ?_
  · skip
    refine cs_seq ?_
    refine cs_region (l := [_, _, _]) ?_
    refine lv (.slice xA7 xl11.length xc8) ?_
    refine lv (.int .i64 (xl11.length : Int)) ?_
    refine lv (.bool (decide ((xl11.length : Int) ≥ (56 : Int)))) ?_
    refine ls_end ?_
    refine qn_then ?_
    by_cases q50 : (xl11.length : Int) ≥ (56 : Int)
    · replace H := ite_t q50 H
      refine cs_know (c := true) (dec_t q50) 28 (by kernel_rfl) ?_
      refine cs_true (by kernel_rfl) ?_
      refine cs_seq ?_
      refine cs_region (l := [_, _, _, _]) ?_
      refine ls_loadagg (a := ⟨g1, 0, none⟩) (sub := (en (Value.int .u32) a0.1.1 ++ [Value.int .u64 a0.2])) rfl rfl (by kernel_rfl) rfl (by kernel_rfl) (by kernel_rfl) (by kernel_rfl) (len_app (len_en _ a0.1) (len1 _)) (fun w hs => (hs.vars (k := 0) (by exact rfl) (Sub4.all _))) ?_
      refine ls_loadagg (a := ⟨g18, 0, none⟩) (sub := en (Value.int .u8) y23.1) rfl rfl (by kernel_rfl) rfl (by kernel_rfl) (by kernel_rfl) (by kernel_rfl) (len_en _ y23) (fun w hs => (hs.vars (k := 2) (by exact rfl) (Sub4.all _))) ?_
      obtain ⟨t51, hc52, H⟩ := bind_some H
      refine ls_callb (fid := 42) (vals := #[.agg ⟨(en (Value.int .u32) a0.1.1 ++ [Value.int .u64 a0.2])⟩, .agg ⟨en (Value.int .u8) y23.1⟩]) (X := Unit) (fun x => .agg ⟨(en (Value.int .u32) t51.1.1 ++ [Value.int .u64 t51.2])⟩) (fun x => stl []) [] [] [] [] 3 rfl rfl (by kernel_rfl) (fun w => by kernel_rfl) trivial trivial (by decide) (fun w hs hb => sha_State_Block.calls k a0 y23 t51 (lent b w [] []) hb  hc52) ?_
      intro x53
      refine ls_storec (g := g1) (off := 0) (v := .agg ⟨(en (Value.int .u32) t51.1.1 ++ [Value.int .u64 t51.2])⟩) (vs := (en (Value.int .u32) t51.1.1 ++ [Value.int .u64 t51.2])) (cs := (en (Value.int .u32) a0.1.1 ++ [Value.int .u64 a0.2])) (ty := 79) 0 rfl rfl rfl (by kernel_rfl) (by kernel_rfl) (by kernel_rfl) (by exact rfl) (by kernel_rfl) (len_app (len_en _ t51.1) (len1 _)) (one_app (one_en (fun _ => rfl) _) (one_cons rfl one_nil)) (hl_of (Sub4.all _) (len_eq (len_app (len_en _ t51.1) (len1 _)) (len_app (len_en _ a0.1) (len1 _)))) (cs' := (en (Value.int .u32) t51.1.1 ++ [Value.int .u64 t51.2])) (splc_all (len_eq (len_app (len_en _ t51.1) (len1 _)) (len_app (len_en _ a0.1) (len1 _)))) ?_
      refine ls_end ?_
      refine qn_then ?_
      refine cs_region (l := [_, _]) ?_
      refine lv (.agg ⟨en (Value.int .u8) sha_State_End.cst0.1⟩) ?_
      refine ls_storec (g := g18) (off := 0) (v := .agg ⟨en (Value.int .u8) sha_State_End.cst0.1⟩) (vs := en (Value.int .u8) sha_State_End.cst0.1) (cs := en (Value.int .u8) y23.1) (ty := 82) 2 rfl rfl rfl (by kernel_rfl) (by kernel_rfl) (by kernel_rfl) (by exact rfl) (by kernel_rfl) (len_en _ sha_State_End.cst0) (one_en (fun _ => rfl) _) (hl_of (Sub4.all _) (len_eq (len_en _ sha_State_End.cst0) (len_en _ y23))) (cs' := en (Value.int .u8) sha_State_End.cst0.1) (splc_all (len_eq (len_en _ sha_State_End.cst0) (len_en _ y23))) ?_
      refine ls_end ?_
      refine qn_meet (sput (sput (sput s0 0 (some (Ck.var 79 g1 ((en (Value.int .u32) t51.1.1 ++ [Value.int .u64 t51.2]))))) 1 (some (Ck.var 28 g2 (en (Value.int .u8) (vrep 32 (0 : Int)).1)))) 2 (some (Ck.var 82 g18 (en (Value.int .u8) sha_State_End.cst0.1)))) ⟨_, t51, sha_State_End.cst0, fr_next (fr_next (fr_next (fr_next (rfl) (by kernel_rfl)) (by kernel_rfl)) (by kernel_rfl)) (by kernel_rfl), rfl, H⟩ (sub_put (by exact rfl) (sub_put (by exact rfl) (sub_put (by exact rfl) (sub_nil _))))
    replace H := ite_f q50 H
    refine cs_know (c := false) (dec_f q50) 28 (by kernel_rfl) ?_
    refine cs_false (by kernel_rfl) ?_
    refine cs_skip' ?_
    refine qn_meet (sput (sput (sput s0 0 (some (Ck.var 79 g1 ((en (Value.int .u32) a0.1.1 ++ [Value.int .u64 a0.2]))))) 1 (some (Ck.var 28 g2 (en (Value.int .u8) (vrep 32 (0 : Int)).1)))) 2 (some (Ck.var 82 g18 (en (Value.int .u8) y23.1)))) ⟨_, a0, y23, fr_next (fr_next (fr_next (fr_next (rfl) (by kernel_rfl)) (by kernel_rfl)) (by kernel_rfl)) (by kernel_rfl), rfl, H⟩ (sub_put (by exact rfl) (sub_put (by exact rfl) (sub_put (by exact rfl) (sub_nil _))))
  rintro f S ⟨fr1, m0_1, m2_1, rfl, rfl, H⟩
  replace H : (sha_State_End.lo4 y16 (sha_State_End.jo2 k m0_1) k (0 : Int) m2_1) = some r := H
  refine cs_cut (fun f S => ∃ (fR : Fr) (m2_2 : (Vc Int 64)), f = upd (upd (upd fR 2 (.pointer (some ⟨g1, 0, none⟩))) 4 (.pointer (some ⟨g2, 0, none⟩))) 6 (.pointer (some ⟨g18, 0, none⟩)) ∧ S = sput (sput (sput s0 0 (some (Ck.var 79 g1 ((en (Value.int .u32) m0_1.1.1 ++ [Value.int .u64 m0_1.2]))))) 1 (some (Ck.var 28 g2 (en (Value.int .u8) (vrep 32 (0 : Int)).1)))) 2 (some (Ck.var 82 g18 (en (Value.int .u8) m2_2.1))) ∧ sha_State_End.jo2 k m0_1 m2_2 = some r) ?_ ?_
  · skip
    refine cs_seq ?_
    refine cs_region (l := [_]) ?_
    refine lv (.int .i64 (0 : Int)) ?_
    refine ls_end ?_
    refine qn_then ?_
    refine cs_block ?_
    refine cs_sub (sput (sput (sput s0 0 (some (Ck.var 79 g1 ((en (Value.int .u32) m0_1.1.1 ++ [Value.int .u64 m0_1.2]))))) 1 (some (Ck.var 28 g2 (en (Value.int .u8) (vrep 32 (0 : Int)).1)))) 2 (some (Ck.var 82 g18 (en (Value.int .u8) m2_1.1)))) (sub_put (by exact rfl) (sub_put (by exact rfl) (sub_put (by exact rfl) (sub_nil _)))) ?_
    refine cs_loop (fun kk f S => ∃ (fR : Fr) (x33_4 : Int) (m2_4 : (Vc Int 64)), f = upd (upd (upd (upd (upd fR 2 (.pointer (some ⟨g1, 0, none⟩))) 4 (.pointer (some ⟨g2, 0, none⟩))) 5 (.int .u64 (IntKind.wrap .u64 ((8 : Int) * y16)))) 6 (.pointer (some ⟨g18, 0, none⟩))) 33 (.int .i64 x33_4) ∧ S = sput (sput (sput s0 0 (some (Ck.var 79 g1 ((en (Value.int .u32) m0_1.1.1 ++ [Value.int .u64 m0_1.2]))))) 1 (some (Ck.var 28 g2 (en (Value.int .u8) (vrep 32 (0 : Int)).1)))) 2 (some (Ck.var 82 g18 (en (Value.int .u8) m2_4.1))) ∧ sha_State_End.lo4 y16 (sha_State_End.jo2 k m0_1) kk x33_4 m2_4 = some r) k ?_ ?_ ?_
    · exact ⟨_, (0 : Int), m2_1, fr_next (fr_next (fr_next (fr_next (fr_next (rfl) (by kernel_rfl)) (by kernel_rfl)) (by kernel_rfl)) (by kernel_rfl)) (by kernel_rfl), rfl, H⟩
    · rintro f S ⟨fr4, x33_4, m2_4, rfl, rfl, H⟩; cases H
    rintro k4 f S ⟨fr4, x33_4, m2_4, rfl, rfl, H⟩
    replace H : ((if x33_4 < (8 : Int) then (if 0 ≤ IntKind.wrap .i64 ((8 : Int) * x33_4) then lt (shrv .u64 (IntKind.wrap .u64 ((8 : Int) * y16)) (IntKind.wrap .i64 ((8 : Int) * x33_4))) fun y44 => (if 0 ≤ IntKind.wrap .i64 ((63 : Int) - x33_4) then (if IntKind.wrap .i64 ((63 : Int) - x33_4) < (64 : Int) then lt (vset m2_4 (IntKind.wrap .i64 ((63 : Int) - x33_4)).toNat (IntKind.wrap .u8 y44)) fun y48 => (sha_State_End.lo4 y16 (sha_State_End.jo2 k m0_1) k4) (IntKind.wrap .i64 (x33_4 + (1 : Int))) y48 else none) else none) else none) else (sha_State_End.jo2 k m0_1) m2_4)) = some r := H
    refine cs_seq ?_
    refine cs_region (l := [_]) ?_
    refine lv (.bool (decide (x33_4 < (8 : Int)))) ?_
    refine ls_end ?_
    refine qn_then ?_
    refine cs_seq ?_
    by_cases q42 : x33_4 < (8 : Int)
    · replace H := ite_t q42 H
      refine cs_know (c := true) (dec_t q42) 34 (by kernel_rfl) ?_
      refine cs_true (by kernel_rfl) ?_
      refine cs_skip' ?_
      refine qn_then ?_
      refine cs_seq ?_
      refine cs_block ?_
      refine cs_seq ?_
      refine cs_region (l := [_, _]) ?_
      refine lv (.int .i64 x33_4) ?_
      refine lv (.int .i64 x33_4) ?_
      refine ls_end ?_
      refine qn_then ?_
      refine cs_region (l := [_, _, _, _, _, _, _, _, _]) ?_
      refine lv (.int .i64 x33_4) ?_
      refine lv (.int .i64 (IntKind.wrap .i64 ((63 : Int) - x33_4))) ?_
      refine lv (.int .u64 (IntKind.wrap .u64 ((8 : Int) * y16))) ?_
      refine lv (.int .i64 x33_4) ?_
      refine lv (.int .i64 (IntKind.wrap .i64 ((8 : Int) * x33_4))) ?_
      obtain ⟨q43, H⟩ := ite_need H
      obtain ⟨y44, hy45, H⟩ := lt_some H
      refine ls_shiftr (k := .u64) (yk := .i64) (x := (IntKind.wrap .u64 ((8 : Int) * y16))) (y := (IntKind.wrap .i64 ((8 : Int) * x33_4))) rfl rfl (by kernel_rfl) (fun w => by kernel_rfl) q43 ?_
      refine ls_ren 41 (v := .int .u64 (shrv .u64 (IntKind.wrap .u64 ((8 : Int) * y16)) (IntKind.wrap .i64 ((8 : Int) * x33_4)))) (v' := .int .u64 y44) (by kernel_rfl) (by rw [hy45]) ?_
      refine lv (.int .u8 (IntKind.wrap .u8 y44)) ?_
      obtain ⟨q46, H⟩ := ite_need H
      obtain ⟨q47, H⟩ := ite_need H
      refine ls_idxa1 (g := g18) (off := 0) (i := IntKind.wrap .i64 ((63 : Int) - x33_4)) (kk := .i64) (ln := 64) (e := 5) rfl rfl (by kernel_rfl) rfl (by kernel_rfl) (by kernel_rfl) (by kernel_rfl) (by kernel_rfl) q46 q47 ?_
      obtain ⟨y48, hy49, H⟩ := lt_some H
      refine ls_storec (g := g18) (off := (0 + (IntKind.wrap .i64 ((63 : Int) - x33_4)).toNat)) (v := .int .u8 (IntKind.wrap .u8 y44)) (vs := [Value.int .u8 (IntKind.wrap .u8 y44)]) (cs := en (Value.int .u8) m2_4.1) (ty := 82) 2 rfl rfl rfl (by kernel_rfl) (by kernel_rfl) (by kernel_rfl) (by exact rfl) (by kernel_rfl) (len1 _) (one_cons rfl one_nil) (hl_of (Sub4.trans (Sub4.all _) (Sub4.one (i := (IntKind.wrap .i64 ((63 : Int) - x33_4)).toNat) (Value.int .u8) m2_4.1 0 (by have := m2_4.2; omega))) (len_eq (len1 _) (len1 _))) (cs' := en (Value.int .u8) y48.1) (splc_in (Sub4.all _) ((splc_one (Value.int .u8) m2_4.1 (IntKind.wrap .u8 y44) (by have := m2_4.2; omega)).trans (congrArg (fun z : (Vc Int 64) => en (Value.int .u8) z.1) hy49)) (splc_all (len_eq (len_en _ y48) (len_en _ m2_4))) (hl_of (Sub4.one (i := (IntKind.wrap .i64 ((63 : Int) - x33_4)).toNat) (Value.int .u8) m2_4.1 0 (by have := m2_4.2; omega)) (len_eq (len1 _) (len1 _)))) ?_
      refine ls_end ?_
      refine qn_block ?_
      refine qn_then ?_
      refine cs_region (l := [_, _]) ?_
      refine lv (.int .i64 (IntKind.wrap .i64 (x33_4 + (1 : Int)))) ?_
      refine lv (.int .i64 (IntKind.wrap .i64 (x33_4 + (1 : Int)))) ?_
      refine ls_end ?_
      refine qn_again k4 (sput (sput (sput s0 0 (some (Ck.var 79 g1 ((en (Value.int .u32) m0_1.1.1 ++ [Value.int .u64 m0_1.2]))))) 1 (some (Ck.var 28 g2 (en (Value.int .u8) (vrep 32 (0 : Int)).1)))) 2 (some (Ck.var 82 g18 (en (Value.int .u8) y48.1)))) (Nat.le_refl _) ⟨_, (IntKind.wrap .i64 (x33_4 + (1 : Int))), y48, fr_next (fr_next (fr_next (fr_next (fr_next (rfl) (by kernel_rfl)) (by kernel_rfl)) (by kernel_rfl)) (by kernel_rfl)) (by kernel_rfl), rfl, H⟩ (sub_put (by exact rfl) (sub_put (by exact rfl) (sub_put (by exact rfl) (sub_nil _))))
    replace H := ite_f q42 H
    refine cs_know (c := false) (dec_f q42) 34 (by kernel_rfl) ?_
    refine cs_false (by kernel_rfl) ?_
    refine cs_exit' ?_
    refine qx_then ?_
    refine qx_then ?_
    refine qx_same ?_
    refine qn_meet (sput (sput (sput s0 0 (some (Ck.var 79 g1 ((en (Value.int .u32) m0_1.1.1 ++ [Value.int .u64 m0_1.2]))))) 1 (some (Ck.var 28 g2 (en (Value.int .u8) (vrep 32 (0 : Int)).1)))) 2 (some (Ck.var 82 g18 (en (Value.int .u8) m2_4.1)))) ⟨_, m2_4, fr_next (fr_next (fr_next (rfl) (by kernel_rfl)) (by kernel_rfl)) (by kernel_rfl), rfl, H⟩ (sub_put (by exact rfl) (sub_put (by exact rfl) (sub_put (by exact rfl) (sub_nil _))))
  rintro f S ⟨fr2, m2_2, rfl, rfl, H⟩
  replace H : ((sha_State_Block.f k m0_1 m2_2).bind fun t25 => sha_State_End.lo3 t25 k (0 : Int) (vrep 32 (0 : Int))) = some r := H
  refine cs_seq ?_
  refine cs_region (l := [_, _, _, _]) ?_
  refine ls_loadagg (a := ⟨g1, 0, none⟩) (sub := (en (Value.int .u32) m0_1.1.1 ++ [Value.int .u64 m0_1.2])) rfl rfl (by kernel_rfl) rfl (by kernel_rfl) (by kernel_rfl) (by kernel_rfl) (len_app (len_en _ m0_1.1) (len1 _)) (fun w hs => (hs.vars (k := 0) (by exact rfl) (Sub4.all _))) ?_
  refine ls_loadagg (a := ⟨g18, 0, none⟩) (sub := en (Value.int .u8) m2_2.1) rfl rfl (by kernel_rfl) rfl (by kernel_rfl) (by kernel_rfl) (by kernel_rfl) (len_en _ m2_2) (fun w hs => (hs.vars (k := 2) (by exact rfl) (Sub4.all _))) ?_
  obtain ⟨t25, hc26, H⟩ := bind_some H
  refine ls_callb (fid := 42) (vals := #[.agg ⟨(en (Value.int .u32) m0_1.1.1 ++ [Value.int .u64 m0_1.2])⟩, .agg ⟨en (Value.int .u8) m2_2.1⟩]) (X := Unit) (fun x => .agg ⟨(en (Value.int .u32) t25.1.1 ++ [Value.int .u64 t25.2])⟩) (fun x => stl []) [] [] [] [] 3 rfl rfl (by kernel_rfl) (fun w => by kernel_rfl) trivial trivial (by decide) (fun w hs hb => sha_State_Block.calls k m0_1 m2_2 t25 (lent b w [] []) hb  hc26) ?_
  intro x27
  refine ls_storec (g := g1) (off := 0) (v := .agg ⟨(en (Value.int .u32) t25.1.1 ++ [Value.int .u64 t25.2])⟩) (vs := (en (Value.int .u32) t25.1.1 ++ [Value.int .u64 t25.2])) (cs := (en (Value.int .u32) m0_1.1.1 ++ [Value.int .u64 m0_1.2])) (ty := 79) 0 rfl rfl rfl (by kernel_rfl) (by kernel_rfl) (by kernel_rfl) (by exact rfl) (by kernel_rfl) (len_app (len_en _ t25.1) (len1 _)) (one_app (one_en (fun _ => rfl) _) (one_cons rfl one_nil)) (hl_of (Sub4.all _) (len_eq (len_app (len_en _ t25.1) (len1 _)) (len_app (len_en _ m0_1.1) (len1 _)))) (cs' := (en (Value.int .u32) t25.1.1 ++ [Value.int .u64 t25.2])) (splc_all (len_eq (len_app (len_en _ t25.1) (len1 _)) (len_app (len_en _ m0_1.1) (len1 _)))) ?_
  refine ls_end ?_
  refine qn_then ?_
  refine cs_seq ?_
  refine cs_region (l := [_]) ?_
  refine ls_new rfl rfl (by kernel_rfl) 3 (fun g => .pointer (some ⟨g, 0, none⟩)) (.cells ⟨en (Value.int .u8) (vrep 32 (0 : Int)).1⟩ 28) (fun w => by kernel_rfl) ?_
  intro g28
  refine ls_end ?_
  refine qn_then ?_
  refine cs_seq ?_
  refine cs_seq ?_
  refine cs_region (l := [_]) ?_
  refine lv (.int .i64 (0 : Int)) ?_
  refine ls_end ?_
  refine qn_then ?_
  refine cs_block ?_
  refine cs_sub (sput (sput (sput s0 0 (some (Ck.var 79 g1 ((en (Value.int .u32) t25.1.1 ++ [Value.int .u64 t25.2]))))) 1 (some (Ck.var 28 g2 (en (Value.int .u8) (vrep 32 (0 : Int)).1)))) 3 (some (Ck.var 28 g28 (en (Value.int .u8) (vrep 32 (0 : Int)).1)))) (sub_put (by exact rfl) (sub_put (by exact rfl) (sub_put (by exact rfl) (sub_nil _)))) ?_
  refine cs_loop (fun kk f S => ∃ (fR : Fr) (x48_3 : Int) (m3_3 : (Vc Int 32)), f = upd (upd (upd (upd fR 2 (.pointer (some ⟨g1, 0, none⟩))) 4 (.pointer (some ⟨g2, 0, none⟩))) 8 (.pointer (some ⟨g28, 0, none⟩))) 48 (.int .i64 x48_3) ∧ S = sput (sput (sput s0 0 (some (Ck.var 79 g1 ((en (Value.int .u32) t25.1.1 ++ [Value.int .u64 t25.2]))))) 1 (some (Ck.var 28 g2 (en (Value.int .u8) (vrep 32 (0 : Int)).1)))) 3 (some (Ck.var 28 g28 (en (Value.int .u8) m3_3.1))) ∧ sha_State_End.lo3 t25 kk x48_3 m3_3 = some r) k ?_ ?_ ?_
  · exact ⟨_, (0 : Int), (vrep 32 (0 : Int)), fr_next (fr_next (fr_next (fr_next (rfl) (by kernel_rfl)) (by kernel_rfl)) (by kernel_rfl)) (by kernel_rfl), rfl, H⟩
  · rintro f S ⟨fr3, x48_3, m3_3, rfl, rfl, H⟩; cases H
  rintro k3 f S ⟨fr3, x48_3, m3_3, rfl, rfl, H⟩
  replace H : ((if x48_3 < (32 : Int) then lt (IntKind.wrap .i64 (Int.tdiv x48_3 (4 : Int))) fun y30 => (if 0 ≤ y30 then (if y30 < (8 : Int) then lt (IntKind.wrap .i64 ((3 : Int) - (Int.tmod x48_3 (4 : Int)))) fun y34 => (if 0 ≤ IntKind.wrap .i64 ((8 : Int) * y34) then lt (shrv .u32 (t25.1.1.getD (y30).toNat (0 : Int)) (IntKind.wrap .i64 ((8 : Int) * y34))) fun y37 => (if 0 ≤ x48_3 then lt (vset m3_3 (x48_3).toNat (IntKind.wrap .u8 y37)) fun y40 => (sha_State_End.lo3 t25 k3) (IntKind.wrap .i64 (x48_3 + (1 : Int))) y40 else none) else none) else none) else none) else some m3_3)) = some r := H
  refine cs_seq ?_
  refine cs_region (l := [_]) ?_
  refine lv (.bool (decide (x48_3 < (32 : Int)))) ?_
  refine ls_end ?_
  refine qn_then ?_
  refine cs_seq ?_
  by_cases q29 : x48_3 < (32 : Int)
  · replace H := ite_t q29 H
    refine cs_know (c := true) (dec_t q29) 49 (by kernel_rfl) ?_
    refine cs_true (by kernel_rfl) ?_
    refine cs_skip' ?_
    refine qn_then ?_
    refine cs_seq ?_
    refine cs_block ?_
    refine cs_seq ?_
    refine cs_region (l := [_, _]) ?_
    refine lv (.int .i64 x48_3) ?_
    refine lv (.int .i64 x48_3) ?_
    refine ls_end ?_
    refine qn_then ?_
    refine cs_region (l := [_, _, _, _, _, _, _, _, _, _, _, _, _, _]) ?_
    refine lv (.int .i64 x48_3) ?_
    refine lv (.int .i64 x48_3) ?_
    obtain ⟨y30, hy31, H⟩ := lt_some H
    refine lv (.int .i64 (IntKind.wrap .i64 (Int.tdiv x48_3 (4 : Int)))) ?_
    refine ls_ren 53 (v := .int .i64 (IntKind.wrap .i64 (Int.tdiv x48_3 (4 : Int)))) (v' := .int .i64 y30) (by kernel_rfl) (by rw [hy31]) ?_
    refine lv (.pointer (some ⟨g1, (0 + 0), none⟩)) ?_
    obtain ⟨q32, H⟩ := ite_need H
    obtain ⟨q33, H⟩ := ite_need H
    refine ls_idxa1 (g := g1) (off := (0 + 0)) (i := y30) (kk := .i64) (ln := 8) (e := 23) rfl rfl (by kernel_rfl) rfl (by kernel_rfl) (by kernel_rfl) (by kernel_rfl) (by kernel_rfl) q32 q33 ?_
    refine ls_load (a0 := ⟨g1, ((0 + 0) + (y30).toNat), none⟩) (v := .int .u32 (t25.1.1.getD (y30).toNat (0 : Int))) (de := (TypeDesc.int .u32)) rfl rfl (by kernel_rfl) rfl (by kernel_rfl) (by kernel_rfl) (by kernel_rfl) (fun w hs => (hs.var (k := 0) (by exact rfl) (Sub4.trans (Sub4.trans (Sub4.all _) (Sub4.head _ _)) (Sub4.one (i := (y30).toNat) (Value.int .u32) t25.1.1 0 (by have := t25.1.2; omega))))) ?_
    refine lv (.int .i64 x48_3) ?_
    refine lv (.int .i64 (Int.tmod x48_3 (4 : Int))) ?_
    obtain ⟨y34, hy35, H⟩ := lt_some H
    refine lv (.int .i64 (IntKind.wrap .i64 ((3 : Int) - (Int.tmod x48_3 (4 : Int))))) ?_
    refine ls_ren 59 (v := .int .i64 (IntKind.wrap .i64 ((3 : Int) - (Int.tmod x48_3 (4 : Int))))) (v' := .int .i64 y34) (by kernel_rfl) (by rw [hy35]) ?_
    refine lv (.int .i64 (IntKind.wrap .i64 ((8 : Int) * y34))) ?_
    obtain ⟨q36, H⟩ := ite_need H
    obtain ⟨y37, hy38, H⟩ := lt_some H
    refine ls_shiftr (k := .u32) (yk := .i64) (x := (t25.1.1.getD (y30).toNat (0 : Int))) (y := (IntKind.wrap .i64 ((8 : Int) * y34))) rfl rfl (by kernel_rfl) (fun w => by kernel_rfl) q36 ?_
    refine ls_ren 61 (v := .int .u32 (shrv .u32 (t25.1.1.getD (y30).toNat (0 : Int)) (IntKind.wrap .i64 ((8 : Int) * y34)))) (v' := .int .u32 y37) (by kernel_rfl) (by rw [hy38]) ?_
    refine lv (.int .u8 (IntKind.wrap .u8 y37)) ?_
    obtain ⟨q39, H⟩ := ite_need H
    refine ls_idxa1 (g := g28) (off := 0) (i := x48_3) (kk := .i64) (ln := 32) (e := 5) rfl rfl (by kernel_rfl) rfl (by kernel_rfl) (by kernel_rfl) (by kernel_rfl) (by kernel_rfl) q39 q29 ?_
    obtain ⟨y40, hy41, H⟩ := lt_some H
    refine ls_storec (g := g28) (off := (0 + (x48_3).toNat)) (v := .int .u8 (IntKind.wrap .u8 y37)) (vs := [Value.int .u8 (IntKind.wrap .u8 y37)]) (cs := en (Value.int .u8) m3_3.1) (ty := 28) 3 rfl rfl rfl (by kernel_rfl) (by kernel_rfl) (by kernel_rfl) (by exact rfl) (by kernel_rfl) (len1 _) (one_cons rfl one_nil) (hl_of (Sub4.trans (Sub4.all _) (Sub4.one (i := (x48_3).toNat) (Value.int .u8) m3_3.1 0 (by have := m3_3.2; omega))) (len_eq (len1 _) (len1 _))) (cs' := en (Value.int .u8) y40.1) (splc_in (Sub4.all _) ((splc_one (Value.int .u8) m3_3.1 (IntKind.wrap .u8 y37) (by have := m3_3.2; omega)).trans (congrArg (fun z : (Vc Int 32) => en (Value.int .u8) z.1) hy41)) (splc_all (len_eq (len_en _ y40) (len_en _ m3_3))) (hl_of (Sub4.one (i := (x48_3).toNat) (Value.int .u8) m3_3.1 0 (by have := m3_3.2; omega)) (len_eq (len1 _) (len1 _)))) ?_
    refine ls_end ?_
    refine qn_block ?_
    refine qn_then ?_
    refine cs_region (l := [_, _]) ?_
    refine lv (.int .i64 (IntKind.wrap .i64 (x48_3 + (1 : Int)))) ?_
    refine lv (.int .i64 (IntKind.wrap .i64 (x48_3 + (1 : Int)))) ?_
    refine ls_end ?_
    refine qn_again k3 (sput (sput (sput s0 0 (some (Ck.var 79 g1 ((en (Value.int .u32) t25.1.1 ++ [Value.int .u64 t25.2]))))) 1 (some (Ck.var 28 g2 (en (Value.int .u8) (vrep 32 (0 : Int)).1)))) 3 (some (Ck.var 28 g28 (en (Value.int .u8) y40.1)))) (Nat.le_refl _) ⟨_, (IntKind.wrap .i64 (x48_3 + (1 : Int))), y40, fr_next (fr_next (fr_next (fr_next (rfl) (by kernel_rfl)) (by kernel_rfl)) (by kernel_rfl)) (by kernel_rfl), rfl, H⟩ (sub_put (by exact rfl) (sub_put (by exact rfl) (sub_put (by exact rfl) (sub_nil _))))
  replace H := ite_f q29 H
  refine cs_know (c := false) (dec_f q29) 49 (by kernel_rfl) ?_
  refine cs_false (by kernel_rfl) ?_
  refine cs_exit' ?_
  refine qx_then ?_
  refine qx_then ?_
  refine qx_same ?_
  refine qn_then ?_
  refine cs_seq ?_
  refine cs_region (l := [_, _]) ?_
  refine ls_loadagg (a := ⟨g28, 0, none⟩) (sub := en (Value.int .u8) m3_3.1) rfl rfl (by kernel_rfl) rfl (by kernel_rfl) (by kernel_rfl) (by kernel_rfl) (len_en _ m3_3) (fun w hs => (hs.vars (k := 3) (by exact rfl) (Sub4.all _))) ?_
  refine ls_storec (g := g2) (off := 0) (v := .agg ⟨en (Value.int .u8) m3_3.1⟩) (vs := en (Value.int .u8) m3_3.1) (cs := en (Value.int .u8) (vrep 32 (0 : Int)).1) (ty := 28) 1 rfl rfl rfl (by kernel_rfl) (by kernel_rfl) (by kernel_rfl) (by exact rfl) (by kernel_rfl) (len_en _ m3_3) (one_en (fun _ => rfl) _) (hl_of (Sub4.all _) (len_eq (len_en _ m3_3) (len_en _ (vrep 32 (0 : Int))))) (cs' := en (Value.int .u8) m3_3.1) (splc_all (len_eq (len_en _ m3_3) (len_en _ (vrep 32 (0 : Int))))) ?_
  refine ls_end ?_
  refine qn_then ?_
  refine cs_ret' ?_
  obtain rfl := Option.some.inj H
  refine qr_res (rs := [_]) rfl (fun w' hs => ⟨[.agg ⟨en (Value.int .u8) m3_3.1⟩], (.cell (by kernel_rfl) (run_cellres (by kernel_rfl) (by kernel_rfl) (len_en _ m3_3) (hs.holds 1 _ (by exact rfl))) (.nil)), (), rfl, hs.pick (ts := []) (cs := []) trivial (by decide)⟩)

/-! ### shadowbox/sha.Sum: function 31 -/
def sha_Sum.tab6 : List (List Nat) := [[], [], [1], [1, 2], [0, 1, 2, 3], [0, 1, 2, 3, 4]]
def sha_Sum.lo1 : Nat → (List Int) → (((Vc Int 8) × Int)) → Option ((Vc Int 32))
  | 0, _, _ => none
  | k1 + 1, l0_1, m1_1 => (if (l0_1.length : Int) ≥ (64 : Int) then (if 64 ≤ l0_1.length then (sha_State_Block.f k1 m1_1 (vpad 64 0 l0_1)).bind fun t12 => (if (64 : Int) ≤ (l0_1.length : Int) then lt (l0_1.drop ((64 : Int)).toNat) fun xl20 => (sha_Sum.lo1 k1) xl20 t12 else none) else none) else (sha_State_End.f k1 m1_1 l0_1).bind fun t25 => some t25)
def sha_Sum.f (k : Nat) (l0 : List Int) : Option ((Vc Int 32)) :=
  (sha_Begin.f k).bind fun t2 => sha_Sum.lo1 k l0 t2
set_option maxRecDepth 100000 in
set_option maxHeartbeats 4000000 in
theorem sha_Sum.calls (k : Nat) (A0 : Option Addr) (c0 : Nat) (l0 : List Int) (r : (Vc Int 32)) (b : Bs) (hs0 : St b (stl []) b.w) (R0 : Ro b A0 (em (Ec.int 5 .u8) l0)) (C0 : l0.length ≤ c0) (H : sha_Sum.f k l0 = some r) :
    Calls Try.prog 31 #[.slice A0 l0.length c0] b.w fun e w' => ∃ x : Unit, e = .returned (.agg ⟨en (Value.int .u8) r.1⟩) ∧ St b (stl []) w' := by
  unfold sha_Sum.f at H
  refine enterb (n := 18) Try.func31 rfl (by kernel_rfl) (by kernel_rfl) hs0 ?_
  refine cs_sub (s0) (sub_nil _) ?_
  refine cs_seq ?_
  refine cs_region (l := [_]) ?_
  refine ls_new rfl rfl (by kernel_rfl) 0 (fun g => .pointer (some ⟨g, 0, none⟩)) (.cells ⟨en (Value.int .u8) (vrep 32 (0 : Int)).1⟩ 28) (fun w => by kernel_rfl) ?_
  intro g1
  refine ls_end ?_
  refine qn_then ?_
  refine cs_seq ?_
  refine cs_region (l := [_, _, _]) ?_
  obtain ⟨t2, hc3, H⟩ := bind_some H
  refine ls_callb (fid := 41) (vals := #[]) (X := Unit) (fun x => .agg ⟨(en (Value.int .u32) t2.1.1 ++ [Value.int .u64 t2.2])⟩) (fun x => stl []) [] [] [] [] 1 rfl rfl (by kernel_rfl) (fun w => by kernel_rfl) trivial trivial (by decide) (fun w hs hb => sha_Begin.calls k  t2 (lent b w [] []) hb  hc3) ?_
  intro x4
  refine ls_new rfl rfl (by kernel_rfl) 1 (fun g => .pointer (some ⟨g, 0, none⟩)) (.cells ⟨(en (Value.int .u32) (vrep 8 (0 : Int)).1 ++ [Value.int .u64 (0 : Int)])⟩ 79) (fun w => by kernel_rfl) ?_
  intro g5
  refine ls_storec (g := g5) (off := 0) (v := .agg ⟨(en (Value.int .u32) t2.1.1 ++ [Value.int .u64 t2.2])⟩) (vs := (en (Value.int .u32) t2.1.1 ++ [Value.int .u64 t2.2])) (cs := (en (Value.int .u32) (vrep 8 (0 : Int)).1 ++ [Value.int .u64 (0 : Int)])) (ty := 79) 1 rfl rfl rfl (by kernel_rfl) (by kernel_rfl) (by kernel_rfl) (by exact rfl) (by kernel_rfl) (len_app (len_en _ t2.1) (len1 _)) (one_app (one_en (fun _ => rfl) _) (one_cons rfl one_nil)) (hl_of (Sub4.all _) (len_eq (len_app (len_en _ t2.1) (len1 _)) (len_app (len_en _ (vrep 8 (0 : Int))) (len1 _)))) (cs' := (en (Value.int .u32) t2.1.1 ++ [Value.int .u64 t2.2])) (splc_all (len_eq (len_app (len_en _ t2.1) (len1 _)) (len_app (len_en _ (vrep 8 (0 : Int))) (len1 _)))) ?_
  refine ls_end ?_
  refine qn_then ?_
  refine cs_seq ?_
  refine cs_block ?_
  refine cs_sub (sput (sput s0 0 (some (Ck.var 28 g1 (en (Value.int .u8) (vrep 32 (0 : Int)).1)))) 1 (some (Ck.var 79 g5 ((en (Value.int .u32) t2.1.1 ++ [Value.int .u64 t2.2]))))) (sub_put (by exact rfl) (sub_put (by exact rfl) (sub_nil _))) ?_
  refine cs_loop (fun kk f S => ∃ (fR : Fr) (A0_1 : Option Addr) (c0_1 : Nat) (l0_1 : List Int) (m1_1 : ((Vc Int 8) × Int)), f = upd (upd (upd fR 0 (.slice A0_1 l0_1.length c0_1)) 2 (.pointer (some ⟨g1, 0, none⟩))) 3 (.pointer (some ⟨g5, 0, none⟩)) ∧ S = sput (sput s0 0 (some (Ck.var 28 g1 (en (Value.int .u8) (vrep 32 (0 : Int)).1)))) 1 (some (Ck.var 79 g5 ((en (Value.int .u32) m1_1.1.1 ++ [Value.int .u64 m1_1.2])))) ∧ Ro b A0_1 (em (Ec.int 5 .u8) l0_1) ∧ l0_1.length ≤ c0_1 ∧ sha_Sum.lo1 kk l0_1 m1_1 = some r) k ?_ ?_ ?_
  · exact ⟨_, A0, c0, l0, t2, fr_next (fr_next (fr_next (rfl) (by kernel_rfl)) (by kernel_rfl)) (by kernel_rfl), rfl, R0, C0, H⟩
  · rintro f S ⟨fr1, A0_1, c0_1, l0_1, m1_1, rfl, rfl, R0_1, C0_1, H⟩; cases H
  rintro k1 f S ⟨fr1, A0_1, c0_1, l0_1, m1_1, rfl, rfl, R0_1, C0_1, H⟩
  replace H : ((if (l0_1.length : Int) ≥ (64 : Int) then (if 64 ≤ l0_1.length then (sha_State_Block.f k1 m1_1 (vpad 64 0 l0_1)).bind fun t12 => (if (64 : Int) ≤ (l0_1.length : Int) then lt (l0_1.drop ((64 : Int)).toNat) fun xl20 => (sha_Sum.lo1 k1) xl20 t12 else none) else none) else (sha_State_End.f k1 m1_1 l0_1).bind fun t25 => some t25)) = some r := H
  refine cs_seq ?_
  refine cs_seq ?_
  refine cs_region (l := [_, _, _]) ?_
  refine lv (.slice A0_1 l0_1.length c0_1) ?_
  refine lv (.int .i64 (l0_1.length : Int)) ?_
  refine lv (.bool (decide ((l0_1.length : Int) ≥ (64 : Int)))) ?_
  refine ls_end ?_
  refine qn_then ?_
  by_cases q6 : (l0_1.length : Int) ≥ (64 : Int)
  · replace H := ite_t q6 H
    refine cs_know (c := true) (dec_t q6) 7 (by kernel_rfl) ?_
    refine cs_true (by kernel_rfl) ?_
    refine cs_skip' ?_
    refine qn_then ?_
    refine cs_seq ?_
    refine cs_block ?_
    obtain ⟨s8_0, hs8_0⟩ := exv (.agg ⟨(en (Value.int .u32) m1_1.1.1 ++ [Value.int .u64 m1_1.2])⟩)
    refine have_opa sha_Sum.tab6 2 0 (fun sp => sp 0 = s8_0) (fun sp on hA hon => ?_) (fun ops8_0 => ?_)
    · refine ⟨fun o ho vs Rs f' S' w hp hf hx hS hR hs => ?_⟩
      obtain rfl := Option.some.inj ho
      rw [hA, hs8_0]
      refine wn hon ?_
      have hF := fr_next (rfl) ((hx 3 (by kernel_rfl)).trans (by kernel_rfl : (_ : Value) = .pointer (some ⟨g5, 0, none⟩)))
      refine ls_fr hF ?_
      refine ls_loadagg (a := ⟨g5, 0, none⟩) (sub := (en (Value.int .u32) m1_1.1.1 ++ [Value.int .u64 m1_1.2])) rfl rfl (by kernel_rfl) rfl (by kernel_rfl) (by kernel_rfl) (by kernel_rfl) (len_app (len_en _ m1_1.1) (len1 _)) (fun w1 hs1 => Rd.step (hs.vars (k := 1) ((hS 1 (by kernel_rfl)).trans (by exact rfl)) (Sub4.all _)) hs1.below.bw) ?_
      exact ls_fin s0 _ (congrArg (fun z => upd z 10 _) hF.symm) ⟨rfl, rfl⟩ (sub_nil _)
    obtain ⟨s8_1, hs8_1⟩ := exv (.slice A0_1 l0_1.length c0_1)
    refine have_opa sha_Sum.tab6 2 1 (fun sp => sp 1 = s8_1) (fun sp on hA hon => ?_) (fun ops8_1 => ?_)
    · refine ⟨fun o ho vs Rs f' S' w hp hf hx hS hR hs => ?_⟩
      obtain rfl := Option.some.inj ho
      exact opv (.slice A0_1 l0_1.length c0_1) hA hs8_1 hon (fr_next (rfl) ((hx 0 (by kernel_rfl)).trans (by kernel_rfl : (_ : Value) = .slice A0_1 l0_1.length c0_1)))
    obtain ⟨q9, H⟩ := ite_need H
    obtain ⟨ad10, hA11⟩ := ido_at (T := (Ec.int 5 .u8)) (l := l0_1) (i := (0 : Int)) R0_1 (by decide) (by have := q9; omega)
    obtain ⟨s8_2, hs8_2⟩ := exv (.pointer (some ad10))
    refine have_opa sha_Sum.tab6 2 2 (fun sp => sp 2 = s8_2 ∧ sp 1 = s8_1) (fun sp on hA hon => ?_) (fun ops8_2 => ?_)
    · refine ⟨fun o ho vs Rs f' S' w hp hf hx hS hR hs => ?_⟩
      obtain rfl := Option.some.inj ho
      obtain ⟨hv1, hR1⟩ := (spe hA.2 hs8_1 (hp 1 (by kernel_rfl)))
      rw [hA.1, hs8_2]
      refine wn hon ?_
      have hF := fr_next (rfl) ((hf 1 11 (by kernel_rfl) rfl).trans hv1)
      refine ls_fr hF ?_
      refine ls_toarr (e := 5) (A := A0_1) (m := l0_1.length) (c := c0_1) rfl rfl (by kernel_rfl) rfl (by kernel_rfl) (by kernel_rfl) q9 hA11 ?_
      exact ls_fin s0 _ (congrArg (fun z => upd z 12 _) hF.symm) ⟨rfl, rfl⟩ (sub_nil _)
    obtain ⟨s8_3, hs8_3⟩ := exv (.agg ⟨en (Value.int .u8) (vpad 64 0 l0_1).1⟩)
    refine have_opa sha_Sum.tab6 2 3 (fun sp => sp 3 = s8_3 ∧ sp 2 = s8_2) (fun sp on hA hon => ?_) (fun ops8_3 => ?_)
    · refine ⟨fun o ho vs Rs f' S' w hp hf hx hS hR hs => ?_⟩
      obtain rfl := Option.some.inj ho
      obtain ⟨hv2, hR2⟩ := (spe hA.2 hs8_2 (hp 2 (by kernel_rfl)))
      rw [hA.1, hs8_3]
      refine wn hon ?_
      have hF := fr_next (rfl) ((hf 2 12 (by kernel_rfl) rfl).trans hv2)
      refine ls_fr hF ?_
      refine ls_loadagg (a := (ad10.add 0)) (sub := en (Value.int .u8) (vpad 64 0 l0_1).1) rfl rfl (by kernel_rfl) rfl (by kernel_rfl) (by kernel_rfl) (by kernel_rfl) (len_en _ (vpad 64 0 l0_1)) (fun w1 hs1 => ((Rd.step (hs.old R0_1) hs1.below.bw).vpad q9 0).part hA11 (Sub4.all _)) ?_
      exact ls_fin s0 _ (congrArg (fun z => upd z 13 _) hF.symm) ⟨rfl, rfl⟩ (sub_nil _)
    refine cs_draw sha_Sum.tab6 4 2 (spl [s8_0, s8_1, s8_2, s8_3]) (onl [true, true, true, true]) (by kernel_rfl) (by kernel_rfl) (by kernel_rfl) (by kernel_rfl) (rs := [_, _]) rfl (by kernel_rfl) (by kernel_rfl) (all_snoc (all_snoc (all_snoc (all_snoc (all_nil) (ops8_0 _ _ rfl rfl)) (ops8_1 _ _ rfl rfl)) (ops8_2 _ _ ⟨rfl, rfl⟩ rfl)) (ops8_3 _ _ ⟨rfl, rfl⟩ rfl)) ?_
    intro vs Rs f' S' hp hf hx hS hR
    obtain ⟨hv0, hR0⟩ := (spe rfl hs8_0 (hp 0 (by kernel_rfl)))
    obtain ⟨hv3, hR3⟩ := (spe rfl hs8_3 (hp 3 (by kernel_rfl)))
    refine ls_fr (F := upd (upd (upd (upd (upd f' 0 (.slice A0_1 l0_1.length c0_1)) 2 (.pointer (some ⟨g1, 0, none⟩))) 3 (.pointer (some ⟨g5, 0, none⟩))) 10 (.agg ⟨(en (Value.int .u32) m1_1.1.1 ++ [Value.int .u64 m1_1.2])⟩)) 13 (.agg ⟨en (Value.int .u8) (vpad 64 0 l0_1).1⟩)) (fr_next (fr_next (fr_next (fr_next (fr_next (rfl) ((hx 0 (by kernel_rfl)).trans (by kernel_rfl : (_ : Value) = .slice A0_1 l0_1.length c0_1))) ((hx 2 (by kernel_rfl)).trans (by kernel_rfl : (_ : Value) = .pointer (some ⟨g1, 0, none⟩)))) ((hx 3 (by kernel_rfl)).trans (by kernel_rfl : (_ : Value) = .pointer (some ⟨g5, 0, none⟩)))) ((hf 0 10 (by kernel_rfl) rfl).trans hv0)) ((hf 3 13 (by kernel_rfl) rfl).trans hv3)) ?_
    refine ls_sub (sput (sput s0 0 (some (Ck.var 28 g1 (en (Value.int .u8) (vrep 32 (0 : Int)).1)))) 1 (some (Ck.var 79 g5 ((en (Value.int .u32) m1_1.1.1 ++ [Value.int .u64 m1_1.2]))))) (sub_put ((hS 1 (by kernel_rfl)).trans (by exact rfl)) (sub_put ((hS 0 (by kernel_rfl)).trans (by exact rfl)) (sub_nil _))) ?_
    obtain ⟨t12, hc13, H⟩ := bind_some H
    refine ls_callb (fid := 42) (vals := #[.agg ⟨(en (Value.int .u32) m1_1.1.1 ++ [Value.int .u64 m1_1.2])⟩, .agg ⟨en (Value.int .u8) (vpad 64 0 l0_1).1⟩]) (X := Unit) (fun x => .agg ⟨(en (Value.int .u32) t12.1.1 ++ [Value.int .u64 t12.2])⟩) (fun x => stl []) [] [] [] [] 34 rfl rfl (by kernel_rfl) (fun w => by kernel_rfl) trivial trivial (by decide) (fun w hs hb => sha_State_Block.calls k1 m1_1 (vpad 64 0 l0_1) t12 (lent b w [] []) hb  hc13) ?_
    intro x14
    refine ls_storec (g := g5) (off := 0) (v := .agg ⟨(en (Value.int .u32) t12.1.1 ++ [Value.int .u64 t12.2])⟩) (vs := (en (Value.int .u32) t12.1.1 ++ [Value.int .u64 t12.2])) (cs := (en (Value.int .u32) m1_1.1.1 ++ [Value.int .u64 m1_1.2])) (ty := 79) 1 rfl rfl rfl (by kernel_rfl) (by kernel_rfl) (by kernel_rfl) (by exact rfl) (by kernel_rfl) (len_app (len_en _ t12.1) (len1 _)) (one_app (one_en (fun _ => rfl) _) (one_cons rfl one_nil)) (hl_of (Sub4.all _) (len_eq (len_app (len_en _ t12.1) (len1 _)) (len_app (len_en _ m1_1.1) (len1 _)))) (cs' := (en (Value.int .u32) t12.1.1 ++ [Value.int .u64 t12.2])) (splc_all (len_eq (len_app (len_en _ t12.1) (len1 _)) (len_app (len_en _ m1_1.1) (len1 _)))) ?_
    refine ls_end ?_
    refine qn_block ?_
    refine qn_then ?_
    refine cs_region (l := [_, _, _]) ?_
    refine lv (.slice A0_1 l0_1.length c0_1) ?_
    obtain ⟨q15, H⟩ := ite_need H
    obtain ⟨xl20, hy21, H⟩ := lt_some H
    have hz23 : ((64 : Int)).toNat ≤ l0_1.length := by omega
    have hz24 : l0_1.length ≤ l0_1.length := by omega
    obtain ⟨xA16, xc17, he22, xC19, xR18⟩ := cut_at (A := A0_1) (c := c0_1) (l := l0_1) (Ec.int 5 .u8) (((64 : Int)).toNat) l0_1.length hz23 hz24 C0_1 R0_1 (m := xl20) (by rw [← hy21] <;> simp) (z := 1) rfl
    refine ls_cutv (A := A0_1) (c := c0_1) (m := l0_1.length) (z := 1) (e := 5) (a := ((64 : Int)).toNat) (b := l0_1.length) rfl rfl (by kernel_rfl) rfl (by kernel_rfl) (by kernel_rfl) (by kernel_rfl) (.inr ⟨.i64, by rw [Int.toNat_of_nonneg (by first | assumption | omega)]; kernel_rfl⟩) (.inl ⟨rfl, rfl⟩) hz23 hz24 C0_1 he22 ?_
    refine lv (.slice xA16 xl20.length xc17) ?_
    refine ls_end ?_
    refine qn_again k1 (sput (sput s0 0 (some (Ck.var 28 g1 (en (Value.int .u8) (vrep 32 (0 : Int)).1)))) 1 (some (Ck.var 79 g5 ((en (Value.int .u32) t12.1.1 ++ [Value.int .u64 t12.2]))))) (Nat.le_refl _) ⟨_, xA16, xc17, xl20, t12, fr_next (fr_next (fr_next (rfl) (by kernel_rfl)) (by kernel_rfl)) (by kernel_rfl), rfl, xR18, xC19, H⟩ (sub_put (by exact rfl) (sub_put (by exact rfl) (sub_nil _)))
  replace H := ite_f q6 H
  refine cs_know (c := false) (dec_f q6) 7 (by kernel_rfl) ?_
  refine cs_false (by kernel_rfl) ?_
  refine cs_exit' ?_
  refine qx_then ?_
  refine qx_then ?_
  refine qx_same ?_
  refine qn_then ?_
  refine cs_seq ?_
  refine cs_region (l := [_, _, _, _]) ?_
  refine ls_loadagg (a := ⟨g5, 0, none⟩) (sub := (en (Value.int .u32) m1_1.1.1 ++ [Value.int .u64 m1_1.2])) rfl rfl (by kernel_rfl) rfl (by kernel_rfl) (by kernel_rfl) (by kernel_rfl) (len_app (len_en _ m1_1.1) (len1 _)) (fun w hs => (hs.vars (k := 1) (by exact rfl) (Sub4.all _))) ?_
  refine lv (.slice A0_1 l0_1.length c0_1) ?_
  obtain ⟨t25, hc26, H⟩ := bind_some H
  refine ls_callb (fid := 43) (vals := #[.agg ⟨(en (Value.int .u32) m1_1.1.1 ++ [Value.int .u64 m1_1.2])⟩, .slice A0_1 l0_1.length c0_1]) (X := Unit) (fun x => .agg ⟨en (Value.int .u8) t25.1⟩) (fun x => stl []) [] [] [] [] 2 rfl rfl (by kernel_rfl) (fun w => by kernel_rfl) trivial trivial (by decide) (fun w hs hb => sha_State_End.calls k1 m1_1 A0_1 c0_1 l0_1 t25 (lent b w [] []) hb (hs.ro R0_1 _ _) C0_1 hc26) ?_
  intro x27
  refine ls_storec (g := g1) (off := 0) (v := .agg ⟨en (Value.int .u8) t25.1⟩) (vs := en (Value.int .u8) t25.1) (cs := en (Value.int .u8) (vrep 32 (0 : Int)).1) (ty := 28) 0 rfl rfl rfl (by kernel_rfl) (by kernel_rfl) (by kernel_rfl) (by exact rfl) (by kernel_rfl) (len_en _ t25) (one_en (fun _ => rfl) _) (hl_of (Sub4.all _) (len_eq (len_en _ t25) (len_en _ (vrep 32 (0 : Int))))) (cs' := en (Value.int .u8) t25.1) (splc_all (len_eq (len_en _ t25) (len_en _ (vrep 32 (0 : Int))))) ?_
  refine ls_end ?_
  refine qn_then ?_
  refine cs_ret' ?_
  obtain rfl := Option.some.inj H
  refine qr_res (rs := [_]) rfl (fun w' hs => ⟨[.agg ⟨en (Value.int .u8) t25.1⟩], (.cell (by kernel_rfl) (run_cellres (by kernel_rfl) (by kernel_rfl) (len_en _ t25) (hs.holds 0 _ (by exact rfl))) (.nil)), (), rfl, hs.pick (ts := []) (cs := []) trivial (by decide)⟩)

/-! ### shadowbox/pointer.Of: function 20 -/
def pointer_Of.f (k : Nat) (a0 : Int) (a1 : Int) (l2 : List Int) : Option ((Int × Int × Int × Int × (Vc Int 32))) :=
  (crc_Sum.f k l2).bind fun t2 => (sha_Sum.f k l2).bind fun t5 => some (a0, a1, (l2.length : Int), t2, t5)
set_option maxRecDepth 100000 in
set_option maxHeartbeats 4000000 in
theorem pointer_Of.calls (k : Nat) (a0 : Int) (a1 : Int) (A2 : Option Addr) (c2 : Nat) (l2 : List Int) (r : (Int × Int × Int × Int × (Vc Int 32))) (b : Bs) (hs0 : St b (stl []) b.w) (R2 : Ro b A2 (em (Ec.int 5 .u8) l2)) (C2 : l2.length ≤ c2) (H : pointer_Of.f k a0 a1 l2 = some r) :
    Calls Try.prog 20 #[.int .i64 a0, .int .i64 a1, .slice A2 l2.length c2] b.w fun e w' => ∃ x : Unit, e = .returned (.agg ⟨([Value.int .i64 r.1] ++ ([Value.int .i64 r.2.1] ++ ([Value.int .i64 r.2.2.1] ++ ([Value.int .u32 r.2.2.2.1] ++ en (Value.int .u8) r.2.2.2.2.1))))⟩) ∧ St b (stl []) w' := by
  unfold pointer_Of.f at H
  refine enterb (n := 16) Try.func20 rfl (by kernel_rfl) (by kernel_rfl) hs0 ?_
  refine cs_sub (s0) (sub_nil _) ?_
  refine cs_seq ?_
  refine cs_region (l := [_]) ?_
  refine ls_new rfl rfl (by kernel_rfl) 0 (fun g => .pointer (some ⟨g, 0, none⟩)) (.cells ⟨([Value.int .i64 (0 : Int)] ++ ([Value.int .i64 (0 : Int)] ++ ([Value.int .i64 (0 : Int)] ++ ([Value.int .u32 (0 : Int)] ++ en (Value.int .u8) (vrep 32 (0 : Int)).1))))⟩ 30) (fun w => by kernel_rfl) ?_
  intro g1
  refine ls_end ?_
  refine qn_then ?_
  refine cs_seq ?_
  refine cs_region (l := [_, _, _, _, _, _, _, _, _, _]) ?_
  refine lv (.int .i64 a0) ?_
  refine lv (.int .i64 a1) ?_
  refine lv (.slice A2 l2.length c2) ?_
  refine lv (.int .i64 (l2.length : Int)) ?_
  refine lv (.slice A2 l2.length c2) ?_
  obtain ⟨t2, hc3, H⟩ := bind_some H
  refine ls_callb (fid := 30) (vals := #[.slice A2 l2.length c2]) (X := Unit) (fun x => .int .u32 t2) (fun x => stl []) [] [] [] [] 1 rfl rfl (by kernel_rfl) (fun w => by kernel_rfl) trivial trivial (by decide) (fun w hs hb => crc_Sum.calls k A2 c2 l2 t2 (lent b w [] []) hb (hs.ro R2 _ _) C2 hc3) ?_
  intro x4
  refine lv (.slice A2 l2.length c2) ?_
  obtain ⟨t5, hc6, H⟩ := bind_some H
  refine ls_callb (fid := 31) (vals := #[.slice A2 l2.length c2]) (X := Unit) (fun x => .agg ⟨en (Value.int .u8) t5.1⟩) (fun x => stl []) [] [] [] [] 1 rfl rfl (by kernel_rfl) (fun w => by kernel_rfl) trivial trivial (by decide) (fun w hs hb => sha_Sum.calls k A2 c2 l2 t5 (lent b w [] []) hb (hs.ro R2 _ _) C2 hc6) ?_
  intro x7
  refine ls_build (ps := [(0, .int .i64 a0), (1, .int .i64 a1), (2, .int .i64 (l2.length : Int)), (3, .int .u32 t2), (4, .agg ⟨en (Value.int .u8) t5.1⟩)]) (pl := #[(0, 1), (1, 1), (2, 1), (3, 1), (4, 32)]) (zv := .agg ⟨([Value.int .i64 (0 : Int)] ++ ([Value.int .i64 (0 : Int)] ++ ([Value.int .i64 (0 : Int)] ++ ([Value.int .u32 (0 : Int)] ++ en (Value.int .u8) (vrep 32 (0 : Int)).1))))⟩) (zc := ([Value.int .i64 (0 : Int)] ++ ([Value.int .i64 (0 : Int)] ++ ([Value.int .i64 (0 : Int)] ++ ([Value.int .u32 (0 : Int)] ++ en (Value.int .u8) (vrep 32 (0 : Int)).1))))) (r := ([Value.int .i64 a0] ++ ([Value.int .i64 a1] ++ ([Value.int .i64 (l2.length : Int)] ++ ([Value.int .u32 t2] ++ en (Value.int .u8) t5.1))))) rfl rfl (by kernel_rfl) rfl (by kernel_rfl) (by kernel_rfl) (fun w => by kernel_rfl) (fun w => by kernel_rfl) rfl (fill_cons (vs := [Value.int .i64 a0]) (cs' := ([Value.int .i64 a0] ++ ([Value.int .i64 (0 : Int)] ++ ([Value.int .i64 (0 : Int)] ++ ([Value.int .u32 (0 : Int)] ++ en (Value.int .u8) (vrep 32 (0 : Int)).1))))) (off := 0) (size := 1) rfl (by kernel_rfl) (len1 _) (le_of_len (len_app (len1 _) (len_app (len1 _) (len_app (len1 _) (len_app (len1 _) (len_en _ (vrep 32 (0 : Int))))))) (by decide)) (splc_in (Sub4.all _) (splc_head (len_eq (len1 _) (len1 _))) (splc_all (len_eq (len_app (len1 _) (len_app (len1 _) (len_app (len1 _) (len_app (len1 _) (len_en _ (vrep 32 (0 : Int))))))) (len_app (len1 _) (len_app (len1 _) (len_app (len1 _) (len_app (len1 _) (len_en _ (vrep 32 (0 : Int))))))))) (hl_of (Sub4.head _ _) (len_eq (len1 _) (len1 _)))) (fill_cons (vs := [Value.int .i64 a1]) (cs' := ([Value.int .i64 a0] ++ ([Value.int .i64 a1] ++ ([Value.int .i64 (0 : Int)] ++ ([Value.int .u32 (0 : Int)] ++ en (Value.int .u8) (vrep 32 (0 : Int)).1))))) (off := 1) (size := 1) rfl (by kernel_rfl) (len1 _) (le_of_len (len_app (len1 _) (len_app (len1 _) (len_app (len1 _) (len_app (len1 _) (len_en _ (vrep 32 (0 : Int))))))) (by decide)) (splc_in (Sub4.all _) (splc_skip (n := 1) (len1 _) (splc_head (len_eq (len1 _) (len1 _)))) (splc_all (len_eq (len_app (len1 _) (len_app (len1 _) (len_app (len1 _) (len_app (len1 _) (len_en _ (vrep 32 (0 : Int))))))) (len_app (len1 _) (len_app (len1 _) (len_app (len1 _) (len_app (len1 _) (len_en _ (vrep 32 (0 : Int))))))))) (hl_of (Sub4.skip (n := 1) (len1 _) (Sub4.head _ _)) (len_eq (len1 _) (len1 _)))) (fill_cons (vs := [Value.int .i64 (l2.length : Int)]) (cs' := ([Value.int .i64 a0] ++ ([Value.int .i64 a1] ++ ([Value.int .i64 (l2.length : Int)] ++ ([Value.int .u32 (0 : Int)] ++ en (Value.int .u8) (vrep 32 (0 : Int)).1))))) (off := 2) (size := 1) rfl (by kernel_rfl) (len1 _) (le_of_len (len_app (len1 _) (len_app (len1 _) (len_app (len1 _) (len_app (len1 _) (len_en _ (vrep 32 (0 : Int))))))) (by decide)) (splc_in (Sub4.all _) (splc_skip (n := 1) (len1 _) (splc_skip (n := 1) (len1 _) (splc_head (len_eq (len1 _) (len1 _))))) (splc_all (len_eq (len_app (len1 _) (len_app (len1 _) (len_app (len1 _) (len_app (len1 _) (len_en _ (vrep 32 (0 : Int))))))) (len_app (len1 _) (len_app (len1 _) (len_app (len1 _) (len_app (len1 _) (len_en _ (vrep 32 (0 : Int))))))))) (hl_of (Sub4.skip (n := 1) (len1 _) (Sub4.skip (n := 1) (len1 _) (Sub4.head _ _))) (len_eq (len1 _) (len1 _)))) (fill_cons (vs := [Value.int .u32 t2]) (cs' := ([Value.int .i64 a0] ++ ([Value.int .i64 a1] ++ ([Value.int .i64 (l2.length : Int)] ++ ([Value.int .u32 t2] ++ en (Value.int .u8) (vrep 32 (0 : Int)).1))))) (off := 3) (size := 1) rfl (by kernel_rfl) (len1 _) (le_of_len (len_app (len1 _) (len_app (len1 _) (len_app (len1 _) (len_app (len1 _) (len_en _ (vrep 32 (0 : Int))))))) (by decide)) (splc_in (Sub4.all _) (splc_skip (n := 1) (len1 _) (splc_skip (n := 1) (len1 _) (splc_skip (n := 1) (len1 _) (splc_head (len_eq (len1 _) (len1 _)))))) (splc_all (len_eq (len_app (len1 _) (len_app (len1 _) (len_app (len1 _) (len_app (len1 _) (len_en _ (vrep 32 (0 : Int))))))) (len_app (len1 _) (len_app (len1 _) (len_app (len1 _) (len_app (len1 _) (len_en _ (vrep 32 (0 : Int))))))))) (hl_of (Sub4.skip (n := 1) (len1 _) (Sub4.skip (n := 1) (len1 _) (Sub4.skip (n := 1) (len1 _) (Sub4.head _ _)))) (len_eq (len1 _) (len1 _)))) (fill_cons (vs := en (Value.int .u8) t5.1) (cs' := ([Value.int .i64 a0] ++ ([Value.int .i64 a1] ++ ([Value.int .i64 (l2.length : Int)] ++ ([Value.int .u32 t2] ++ en (Value.int .u8) t5.1))))) (off := 4) (size := 32) rfl (by kernel_rfl) (len_en _ t5) (le_of_len (len_app (len1 _) (len_app (len1 _) (len_app (len1 _) (len_app (len1 _) (len_en _ (vrep 32 (0 : Int))))))) (by decide)) (splc_in (Sub4.all _) (splc_skip (n := 1) (len1 _) (splc_skip (n := 1) (len1 _) (splc_skip (n := 1) (len1 _) (splc_skip (n := 1) (len1 _) (splc_all (len_eq (len_en _ t5) (len_en _ (vrep 32 (0 : Int))))))))) (splc_all (len_eq (len_app (len1 _) (len_app (len1 _) (len_app (len1 _) (len_app (len1 _) (len_en _ t5))))) (len_app (len1 _) (len_app (len1 _) (len_app (len1 _) (len_app (len1 _) (len_en _ (vrep 32 (0 : Int))))))))) (hl_of (Sub4.skip (n := 1) (len1 _) (Sub4.skip (n := 1) (len1 _) (Sub4.skip (n := 1) (len1 _) (Sub4.skip (n := 1) (len1 _) (Sub4.all _))))) (len_eq (len_en _ t5) (len_en _ (vrep 32 (0 : Int)))))) fill_nil))))) ?_
  refine ls_storec (g := g1) (off := 0) (v := .agg ⟨([Value.int .i64 a0] ++ ([Value.int .i64 a1] ++ ([Value.int .i64 (l2.length : Int)] ++ ([Value.int .u32 t2] ++ en (Value.int .u8) t5.1))))⟩) (vs := ([Value.int .i64 a0] ++ ([Value.int .i64 a1] ++ ([Value.int .i64 (l2.length : Int)] ++ ([Value.int .u32 t2] ++ en (Value.int .u8) t5.1))))) (cs := ([Value.int .i64 (0 : Int)] ++ ([Value.int .i64 (0 : Int)] ++ ([Value.int .i64 (0 : Int)] ++ ([Value.int .u32 (0 : Int)] ++ en (Value.int .u8) (vrep 32 (0 : Int)).1))))) (ty := 30) 0 rfl rfl rfl (by kernel_rfl) (by kernel_rfl) (by kernel_rfl) (by exact rfl) (by kernel_rfl) (len_app (len1 _) (len_app (len1 _) (len_app (len1 _) (len_app (len1 _) (len_en _ t5))))) (one_app (one_cons rfl one_nil) (one_app (one_cons rfl one_nil) (one_app (one_cons rfl one_nil) (one_app (one_cons rfl one_nil) (one_en (fun _ => rfl) _))))) (hl_of (Sub4.all _) (len_eq (len_app (len1 _) (len_app (len1 _) (len_app (len1 _) (len_app (len1 _) (len_en _ t5))))) (len_app (len1 _) (len_app (len1 _) (len_app (len1 _) (len_app (len1 _) (len_en _ (vrep 32 (0 : Int))))))))) (cs' := ([Value.int .i64 a0] ++ ([Value.int .i64 a1] ++ ([Value.int .i64 (l2.length : Int)] ++ ([Value.int .u32 t2] ++ en (Value.int .u8) t5.1))))) (splc_all (len_eq (len_app (len1 _) (len_app (len1 _) (len_app (len1 _) (len_app (len1 _) (len_en _ t5))))) (len_app (len1 _) (len_app (len1 _) (len_app (len1 _) (len_app (len1 _) (len_en _ (vrep 32 (0 : Int))))))))) ?_
  refine ls_end ?_
  refine qn_then ?_
  refine cs_ret' ?_
  obtain rfl := Option.some.inj H
  refine qr_res (rs := [_]) rfl (fun w' hs => ⟨[.agg ⟨([Value.int .i64 a0] ++ ([Value.int .i64 a1] ++ ([Value.int .i64 (l2.length : Int)] ++ ([Value.int .u32 t2] ++ en (Value.int .u8) t5.1))))⟩], (.cell (by kernel_rfl) (run_cellres (by kernel_rfl) (by kernel_rfl) (len_app (len1 _) (len_app (len1 _) (len_app (len1 _) (len_app (len1 _) (len_en _ t5))))) (hs.holds 0 _ (by exact rfl))) (.nil)), (), rfl, hs.pick (ts := []) (cs := []) trivial (by decide)⟩)

/-! ### shadowbox/block.Write: function 7 -/
def block_Write.jo4 (a1 : Int) (l3 : List Int) (x34_3 : Int) (m0_3 : (Unit × Unit × Bool × Int × Bool)) (m1_3 : (List (Int × (Vc Int 512)) × List (Vc Int 512))) (k3 : Nat) (lo3 : Int → ((Unit × Unit × Bool × Int × Bool)) → ((List (Int × (Vc Int 512)) × List (Vc Int 512))) → Option ((Int × Int × Int × Int × (Vc Int 32)) × Int × (Unit × Unit × Bool × Int × Bool) × (List (Int × (Vc Int 512)) × List (Vc Int 512)))) : Option ((Int × Int × Int × Int × (Vc Int 32)) × Int × (Unit × Unit × Bool × Int × Bool) × (List (Int × (Vc Int 512)) × List (Vc Int 512))) := lt (IntKind.wrap .i64 ((IntKind.wrap .i64 (x34_3 + (1 : Int))) * (512 : Int))) fun y6 => lt ((if (l3.length : Int) < y6 then (l3.length : Int) else y6)) fun y8 => (if 0 ≤ y8 then (if y8 ≤ (l3.length : Int) then (if 0 ≤ IntKind.wrap .i64 (x34_3 * (512 : Int)) then (if IntKind.wrap .i64 (x34_3 * (512 : Int)) ≤ y8 then lt ((l3.take (y8).toNat).drop (IntKind.wrap .i64 (x34_3 * (512 : Int))).toNat) fun xl18 => (disk_Disk_Write.f k3 ((), (), m0_3.2.2.1, m0_3.2.2.2.1, m0_3.2.2.2.2) m1_3 (IntKind.wrap .i64 (a1 + x34_3)) xl18).bind fun t23 => (if t23.1 = (0 : Int) then lo3 (IntKind.wrap .i64 (x34_3 + (1 : Int))) ((), (), t23.2.1.2.2.1, t23.2.1.2.2.2.1, t23.2.1.2.2.2.2) t23.2.2 else some (((0 : Int), (0 : Int), (0 : Int), (0 : Int), (vrep 32 (0 : Int))), t23.1, ((), (), t23.2.1.2.2.1, t23.2.1.2.2.2.1, t23.2.1.2.2.2.2), t23.2.2)) else none) else none) else none) else none)
def block_Write.lo3 (a1 : Int) (a2 : Int) (l3 : List Int) (t3 : Int) : Nat → Int → ((Unit × Unit × Bool × Int × Bool)) → ((List (Int × (Vc Int 512)) × List (Vc Int 512))) → Option ((Int × Int × Int × Int × (Vc Int 32)) × Int × (Unit × Unit × Bool × Int × Bool) × (List (Int × (Vc Int 512)) × List (Vc Int 512)))
  | 0, _, _, _ => none
  | k3 + 1, x34_3, m0_3, m1_3 => (if x34_3 < t3 then (block_Write.jo4 a1 l3 x34_3 m0_3 m1_3 k3 (block_Write.lo3 a1 a2 l3 t3 k3)) else (pointer_Of.f k3 a1 a2 l3).bind fun t28 => some (t28, (0 : Int), ((), (), m0_3.2.2.1, m0_3.2.2.2.1, m0_3.2.2.2.2), m1_3))
def block_Write.jo2 (k : Nat) (v0 : (Unit × Unit × Bool × Int × Bool)) (w0_1 : (List (Int × (Vc Int 512)) × List (Vc Int 512))) (a1 : Int) (a2 : Int) (l3 : List Int) : Option ((Int × Int × Int × Int × (Vc Int 32)) × Int × (Unit × Unit × Bool × Int × Bool) × (List (Int × (Vc Int 512)) × List (Vc Int 512))) := (pointer_Sectors.f k (a1, a2, (l3.length : Int), (0 : Int), (vrep 32 (0 : Int)))).bind fun t3 => block_Write.lo3 a1 a2 l3 t3 k (0 : Int) ((), (), v0.2.2.1, v0.2.2.2.1, v0.2.2.2.2) w0_1
def block_Write.jo1 (k : Nat) (v0 : (Unit × Unit × Bool × Int × Bool)) (w0_1 : (List (Int × (Vc Int 512)) × List (Vc Int 512))) (a1 : Int) (a2 : Int) (l3 : List Int) : Option ((Int × Int × Int × Int × (Vc Int 32)) × Int × (Unit × Unit × Bool × Int × Bool) × (List (Int × (Vc Int 512)) × List (Vc Int 512))) := (block_check.f k ((), (), v0.2.2.1, v0.2.2.2.1, v0.2.2.2.2) w0_1 (a1, a2, (l3.length : Int), (0 : Int), (vrep 32 (0 : Int)))).bind fun t31 => (if t31 = (0 : Int) then (block_Write.jo2 k v0 w0_1 a1 a2 l3) else some (((0 : Int), (0 : Int), (0 : Int), (0 : Int), (vrep 32 (0 : Int))), t31, ((), (), v0.2.2.1, v0.2.2.2.1, v0.2.2.2.2), w0_1))
def block_Write.f (k : Nat) (v0 : (Unit × Unit × Bool × Int × Bool)) (w0_1 : (List (Int × (Vc Int 512)) × List (Vc Int 512))) (a1 : Int) (a2 : Int) (l3 : List Int) : Option ((Int × Int × Int × Int × (Vc Int 32)) × Int × (Unit × Unit × Bool × Int × Bool) × (List (Int × (Vc Int 512)) × List (Vc Int 512))) :=
  (disk_Disk_Len.f k ((), (), v0.2.2.1, v0.2.2.2.1, v0.2.2.2.2) w0_1).bind fun t35 => (if t35 = (0 : Int) then some (((0 : Int), (0 : Int), (0 : Int), (0 : Int), (vrep 32 (0 : Int))), (1 : Int), ((), (), v0.2.2.1, v0.2.2.2.1, v0.2.2.2.2), w0_1) else (block_Write.jo1 k v0 w0_1 a1 a2 l3))
set_option maxRecDepth 100000 in
set_option maxHeartbeats 4000000 in
theorem block_Write.calls (k : Nat) (pg0 : Nat) (gl0_0 : Nat) (n0_0 : Nat) (c0_0 : Nat) (r0_1 : Nat) (v0 : (Unit × Unit × Bool × Int × Bool)) (w0_1 : (List (Int × (Vc Int 512)) × List (Vc Int 512))) (a1 : Int) (a2 : Int) (A3 : Option Addr) (c3 : Nat) (l3 : List Int) (r : (Int × Int × Int × Int × (Vc Int 32)) × Int × (Unit × Unit × Bool × Int × Bool) × (List (Int × (Vc Int 512)) × List (Vc Int 512))) (b : Bs) (hs0 : St b (stl [Ck.var 42 pg0 (([Value.slice (some ⟨gl0_0, 0, none⟩) n0_0 c0_0] ++ ([Value.map (some r0_1)] ++ ([Value.bool v0.2.2.1] ++ ([Value.int .i64 v0.2.2.2.1] ++ [Value.bool v0.2.2.2.2]))))), Ck.mr T56 r0_1 gl0_0 c0_0 n0_0 w0_1]) b.w) (R3 : Ro b A3 (em (Ec.int 5 .u8) l3)) (C3 : l3.length ≤ c3) (H : block_Write.f k v0 w0_1 a1 a2 l3 = some r) :
    Calls Try.prog 7 #[.pointer (some ⟨pg0, 0, none⟩), .int .i64 a1, .int .i64 a2, .slice A3 l3.length c3] b.w fun e w' => ∃ x : Unit, e = .returned (.tuple #[.agg ⟨([Value.int .i64 r.1.1] ++ ([Value.int .i64 r.1.2.1] ++ ([Value.int .i64 r.1.2.2.1] ++ ([Value.int .u32 r.1.2.2.2.1] ++ en (Value.int .u8) r.1.2.2.2.2.1))))⟩, .int .i64 r.2.1]) ∧ St b (stl [Ck.var 42 pg0 (([Value.slice (some ⟨gl0_0, 0, none⟩) n0_0 c0_0] ++ ([Value.map (some r0_1)] ++ ([Value.bool r.2.2.1.2.2.1] ++ ([Value.int .i64 r.2.2.1.2.2.2.1] ++ [Value.bool r.2.2.1.2.2.2.2]))))), Ck.mr T56 r0_1 gl0_0 c0_0 n0_0 r.2.2.2]) w' := by
  unfold block_Write.f at H
  refine enterb (n := 64) Try.func7 rfl (by kernel_rfl) (by kernel_rfl) hs0 ?_
  refine cs_sub (sput (sput s0 0 (some (Ck.var 42 pg0 (([Value.slice (some ⟨gl0_0, 0, none⟩) n0_0 c0_0] ++ ([Value.map (some r0_1)] ++ ([Value.bool v0.2.2.1] ++ ([Value.int .i64 v0.2.2.2.1] ++ [Value.bool v0.2.2.2.2])))))))) 1 (some (Ck.mr T56 r0_1 gl0_0 c0_0 n0_0 w0_1))) (sub_put (by exact rfl) (sub_put (by exact rfl) (sub_nil _))) ?_
  refine cs_seq ?_
  refine cs_region (l := [_, _]) ?_
  refine ls_new rfl rfl (by kernel_rfl) 2 (fun g => .pointer (some ⟨g, 0, none⟩)) (.cells ⟨([Value.int .i64 (0 : Int)] ++ ([Value.int .i64 (0 : Int)] ++ ([Value.int .i64 (0 : Int)] ++ ([Value.int .u32 (0 : Int)] ++ en (Value.int .u8) (vrep 32 (0 : Int)).1))))⟩ 30) (fun w => by kernel_rfl) ?_
  intro g1
  refine lv (.int .i64 (0 : Int)) ?_
  refine ls_end ?_
  refine qn_then ?_
  refine cs_cut (fun f S => ∃ (fR : Fr), f = upd (upd (upd (upd (upd fR 0 (.pointer (some ⟨pg0, 0, none⟩))) 1 (.int .i64 a1)) 2 (.int .i64 a2)) 3 (.slice A3 l3.length c3)) 8 (.pointer (some ⟨g1, 0, none⟩)) ∧ S = sput (sput (sput s0 0 (some (Ck.var 42 pg0 (([Value.slice (some ⟨gl0_0, 0, none⟩) n0_0 c0_0] ++ ([Value.map (some r0_1)] ++ ([Value.bool v0.2.2.1] ++ ([Value.int .i64 v0.2.2.2.1] ++ [Value.bool v0.2.2.2.2])))))))) 1 (some (Ck.mr T56 r0_1 gl0_0 c0_0 n0_0 w0_1))) 2 (some (Ck.var 30 g1 (([Value.int .i64 (0 : Int)] ++ ([Value.int .i64 (0 : Int)] ++ ([Value.int .i64 (0 : Int)] ++ ([Value.int .u32 (0 : Int)] ++ en (Value.int .u8) (vrep 32 (0 : Int)).1))))))) ∧ block_Write.jo1 k v0 w0_1 a1 a2 l3 = some r) ?_ ?_
  · skip
    refine cs_seq ?_
    refine cs_region (l := [_, _, _]) ?_
    refine lv (.pointer (some ⟨pg0, 0, none⟩)) ?_
    obtain ⟨t35, hc36, H⟩ := bind_some H
    refine ls_callb (fid := 16) (vals := #[.pointer (some ⟨pg0, 0, none⟩)]) (X := Unit) (fun x => .int .i64 t35) (fun x => stl [Ck.var 42 pg0 (([Value.slice (some ⟨gl0_0, 0, none⟩) n0_0 c0_0] ++ ([Value.map (some r0_1)] ++ ([Value.bool v0.2.2.1] ++ ([Value.int .i64 v0.2.2.2.1] ++ [Value.bool v0.2.2.2.2]))))), Ck.mr T56 r0_1 gl0_0 c0_0 n0_0 w0_1]) [0, 1] [] [Ck.var 42 pg0 (([Value.slice (some ⟨gl0_0, 0, none⟩) n0_0 c0_0] ++ ([Value.map (some r0_1)] ++ ([Value.bool v0.2.2.1] ++ ([Value.int .i64 v0.2.2.2.1] ++ [Value.bool v0.2.2.2.2]))))), Ck.mr T56 r0_1 gl0_0 c0_0 n0_0 w0_1] [] 3 rfl rfl (by kernel_rfl) (fun w => by kernel_rfl) ⟨by exact rfl, by exact rfl, trivial⟩ trivial (by decide) (fun w hs hb => disk_Disk_Len.calls k pg0 gl0_0 n0_0 c0_0 r0_1 ((), (), v0.2.2.1, v0.2.2.2.1, v0.2.2.2.2) w0_1 t35 (lent b w [Ck.var 42 pg0 (([Value.slice (some ⟨gl0_0, 0, none⟩) n0_0 c0_0] ++ ([Value.map (some r0_1)] ++ ([Value.bool v0.2.2.1] ++ ([Value.int .i64 v0.2.2.2.1] ++ [Value.bool v0.2.2.2.2]))))), Ck.mr T56 r0_1 gl0_0 c0_0 n0_0 w0_1] []) hb  hc36) ?_
    intro x37
    refine lv (.bool (decide (t35 = (0 : Int)))) ?_
    refine ls_end ?_
    refine qn_then ?_
    by_cases q38 : t35 = (0 : Int)
    · replace H := ite_t q38 H
      refine cs_know (c := true) (dec_t q38) 18 (by kernel_rfl) ?_
      refine cs_true (by kernel_rfl) ?_
      refine cs_seq ?_
      refine cs_region (l := [_, _, _]) ?_
      refine ls_build (ps := []) (pl := #[(0, 1), (1, 1), (2, 1), (3, 1), (4, 32)]) (zv := .agg ⟨([Value.int .i64 (0 : Int)] ++ ([Value.int .i64 (0 : Int)] ++ ([Value.int .i64 (0 : Int)] ++ ([Value.int .u32 (0 : Int)] ++ en (Value.int .u8) (vrep 32 (0 : Int)).1))))⟩) (zc := ([Value.int .i64 (0 : Int)] ++ ([Value.int .i64 (0 : Int)] ++ ([Value.int .i64 (0 : Int)] ++ ([Value.int .u32 (0 : Int)] ++ en (Value.int .u8) (vrep 32 (0 : Int)).1))))) (r := ([Value.int .i64 (0 : Int)] ++ ([Value.int .i64 (0 : Int)] ++ ([Value.int .i64 (0 : Int)] ++ ([Value.int .u32 (0 : Int)] ++ en (Value.int .u8) (vrep 32 (0 : Int)).1))))) rfl rfl (by kernel_rfl) rfl (by kernel_rfl) (by kernel_rfl) (fun w => by kernel_rfl) (fun w => by kernel_rfl) rfl fill_nil ?_
      refine ls_storec (g := g1) (off := 0) (v := .agg ⟨([Value.int .i64 (0 : Int)] ++ ([Value.int .i64 (0 : Int)] ++ ([Value.int .i64 (0 : Int)] ++ ([Value.int .u32 (0 : Int)] ++ en (Value.int .u8) (vrep 32 (0 : Int)).1))))⟩) (vs := ([Value.int .i64 (0 : Int)] ++ ([Value.int .i64 (0 : Int)] ++ ([Value.int .i64 (0 : Int)] ++ ([Value.int .u32 (0 : Int)] ++ en (Value.int .u8) (vrep 32 (0 : Int)).1))))) (cs := ([Value.int .i64 (0 : Int)] ++ ([Value.int .i64 (0 : Int)] ++ ([Value.int .i64 (0 : Int)] ++ ([Value.int .u32 (0 : Int)] ++ en (Value.int .u8) (vrep 32 (0 : Int)).1))))) (ty := 30) 2 rfl rfl rfl (by kernel_rfl) (by kernel_rfl) (by kernel_rfl) (by exact rfl) (by kernel_rfl) (len_app (len1 _) (len_app (len1 _) (len_app (len1 _) (len_app (len1 _) (len_en _ (vrep 32 (0 : Int))))))) (one_app (one_cons rfl one_nil) (one_app (one_cons rfl one_nil) (one_app (one_cons rfl one_nil) (one_app (one_cons rfl one_nil) (one_en (fun _ => rfl) _))))) (hl_of (Sub4.all _) (len_eq (len_app (len1 _) (len_app (len1 _) (len_app (len1 _) (len_app (len1 _) (len_en _ (vrep 32 (0 : Int))))))) (len_app (len1 _) (len_app (len1 _) (len_app (len1 _) (len_app (len1 _) (len_en _ (vrep 32 (0 : Int))))))))) (cs' := ([Value.int .i64 (0 : Int)] ++ ([Value.int .i64 (0 : Int)] ++ ([Value.int .i64 (0 : Int)] ++ ([Value.int .u32 (0 : Int)] ++ en (Value.int .u8) (vrep 32 (0 : Int)).1))))) (splc_all (len_eq (len_app (len1 _) (len_app (len1 _) (len_app (len1 _) (len_app (len1 _) (len_en _ (vrep 32 (0 : Int))))))) (len_app (len1 _) (len_app (len1 _) (len_app (len1 _) (len_app (len1 _) (len_en _ (vrep 32 (0 : Int))))))))) ?_
      refine lv (.int .i64 (1 : Int)) ?_
      refine ls_end ?_
      refine qn_then ?_
      refine cs_ret' ?_
      refine qr_then ?_
      obtain rfl := Option.some.inj H
      refine qr_res (rs := [_, _]) rfl (fun w' hs => ⟨[.agg ⟨([Value.int .i64 (0 : Int)] ++ ([Value.int .i64 (0 : Int)] ++ ([Value.int .i64 (0 : Int)] ++ ([Value.int .u32 (0 : Int)] ++ en (Value.int .u8) (vrep 32 (0 : Int)).1))))⟩, .int .i64 (1 : Int)], (.cell (by kernel_rfl) (run_cellres (by kernel_rfl) (by kernel_rfl) (len_app (len1 _) (len_app (len1 _) (len_app (len1 _) (len_app (len1 _) (len_en _ (vrep 32 (0 : Int))))))) (hs.holds 2 _ (by exact rfl))) (res_tmp (by kernel_rfl) (.nil))), (), rfl, hs.pick (ts := [0, 1]) (cs := [Ck.var 42 pg0 (([Value.slice (some ⟨gl0_0, 0, none⟩) n0_0 c0_0] ++ ([Value.map (some r0_1)] ++ ([Value.bool v0.2.2.1] ++ ([Value.int .i64 v0.2.2.2.1] ++ [Value.bool v0.2.2.2.2]))))), Ck.mr T56 r0_1 gl0_0 c0_0 n0_0 w0_1]) ⟨by exact rfl, by exact rfl, trivial⟩ (by decide)⟩)
    replace H := ite_f q38 H
    refine cs_know (c := false) (dec_f q38) 18 (by kernel_rfl) ?_
    refine cs_false (by kernel_rfl) ?_
    refine cs_skip' ?_
    refine qn_meet (sput (sput (sput s0 0 (some (Ck.var 42 pg0 (([Value.slice (some ⟨gl0_0, 0, none⟩) n0_0 c0_0] ++ ([Value.map (some r0_1)] ++ ([Value.bool v0.2.2.1] ++ ([Value.int .i64 v0.2.2.2.1] ++ [Value.bool v0.2.2.2.2])))))))) 1 (some (Ck.mr T56 r0_1 gl0_0 c0_0 n0_0 w0_1))) 2 (some (Ck.var 30 g1 (([Value.int .i64 (0 : Int)] ++ ([Value.int .i64 (0 : Int)] ++ ([Value.int .i64 (0 : Int)] ++ ([Value.int .u32 (0 : Int)] ++ en (Value.int .u8) (vrep 32 (0 : Int)).1)))))))) ⟨_, fr_next (fr_next (fr_next (fr_next (fr_next (rfl) (by kernel_rfl)) (by kernel_rfl)) (by kernel_rfl)) (by kernel_rfl)) (by kernel_rfl), rfl, H⟩ (sub_put (by exact rfl) (sub_put (by exact rfl) (sub_put (by exact rfl) (sub_nil _))))
  rintro f S ⟨fr1, rfl, rfl, H⟩
  replace H : ((block_check.f k ((), (), v0.2.2.1, v0.2.2.2.1, v0.2.2.2.2) w0_1 (a1, a2, (l3.length : Int), (0 : Int), (vrep 32 (0 : Int)))).bind fun t31 => (if t31 = (0 : Int) then (block_Write.jo2 k v0 w0_1 a1 a2 l3) else some (((0 : Int), (0 : Int), (0 : Int), (0 : Int), (vrep 32 (0 : Int))), t31, ((), (), v0.2.2.1, v0.2.2.2.1, v0.2.2.2.2), w0_1))) = some r := H
  refine cs_seq ?_
  refine cs_region (l := [_, _, _, _, _, _, _]) ?_
  refine lv (.int .i64 a1) ?_
  refine lv (.int .i64 a2) ?_
  refine lv (.slice A3 l3.length c3) ?_
  refine lv (.int .i64 (l3.length : Int)) ?_
  refine ls_build (ps := [(0, .int .i64 a1), (1, .int .i64 a2), (2, .int .i64 (l3.length : Int))]) (pl := #[(0, 1), (1, 1), (2, 1), (3, 1), (4, 32)]) (zv := .agg ⟨([Value.int .i64 (0 : Int)] ++ ([Value.int .i64 (0 : Int)] ++ ([Value.int .i64 (0 : Int)] ++ ([Value.int .u32 (0 : Int)] ++ en (Value.int .u8) (vrep 32 (0 : Int)).1))))⟩) (zc := ([Value.int .i64 (0 : Int)] ++ ([Value.int .i64 (0 : Int)] ++ ([Value.int .i64 (0 : Int)] ++ ([Value.int .u32 (0 : Int)] ++ en (Value.int .u8) (vrep 32 (0 : Int)).1))))) (r := ([Value.int .i64 a1] ++ ([Value.int .i64 a2] ++ ([Value.int .i64 (l3.length : Int)] ++ ([Value.int .u32 (0 : Int)] ++ en (Value.int .u8) (vrep 32 (0 : Int)).1))))) rfl rfl (by kernel_rfl) rfl (by kernel_rfl) (by kernel_rfl) (fun w => by kernel_rfl) (fun w => by kernel_rfl) rfl (fill_cons (vs := [Value.int .i64 a1]) (cs' := ([Value.int .i64 a1] ++ ([Value.int .i64 (0 : Int)] ++ ([Value.int .i64 (0 : Int)] ++ ([Value.int .u32 (0 : Int)] ++ en (Value.int .u8) (vrep 32 (0 : Int)).1))))) (off := 0) (size := 1) rfl (by kernel_rfl) (len1 _) (le_of_len (len_app (len1 _) (len_app (len1 _) (len_app (len1 _) (len_app (len1 _) (len_en _ (vrep 32 (0 : Int))))))) (by decide)) (splc_in (Sub4.all _) (splc_head (len_eq (len1 _) (len1 _))) (splc_all (len_eq (len_app (len1 _) (len_app (len1 _) (len_app (len1 _) (len_app (len1 _) (len_en _ (vrep 32 (0 : Int))))))) (len_app (len1 _) (len_app (len1 _) (len_app (len1 _) (len_app (len1 _) (len_en _ (vrep 32 (0 : Int))))))))) (hl_of (Sub4.head _ _) (len_eq (len1 _) (len1 _)))) (fill_cons (vs := [Value.int .i64 a2]) (cs' := ([Value.int .i64 a1] ++ ([Value.int .i64 a2] ++ ([Value.int .i64 (0 : Int)] ++ ([Value.int .u32 (0 : Int)] ++ en (Value.int .u8) (vrep 32 (0 : Int)).1))))) (off := 1) (size := 1) rfl (by kernel_rfl) (len1 _) (le_of_len (len_app (len1 _) (len_app (len1 _) (len_app (len1 _) (len_app (len1 _) (len_en _ (vrep 32 (0 : Int))))))) (by decide)) (splc_in (Sub4.all _) (splc_skip (n := 1) (len1 _) (splc_head (len_eq (len1 _) (len1 _)))) (splc_all (len_eq (len_app (len1 _) (len_app (len1 _) (len_app (len1 _) (len_app (len1 _) (len_en _ (vrep 32 (0 : Int))))))) (len_app (len1 _) (len_app (len1 _) (len_app (len1 _) (len_app (len1 _) (len_en _ (vrep 32 (0 : Int))))))))) (hl_of (Sub4.skip (n := 1) (len1 _) (Sub4.head _ _)) (len_eq (len1 _) (len1 _)))) (fill_cons (vs := [Value.int .i64 (l3.length : Int)]) (cs' := ([Value.int .i64 a1] ++ ([Value.int .i64 a2] ++ ([Value.int .i64 (l3.length : Int)] ++ ([Value.int .u32 (0 : Int)] ++ en (Value.int .u8) (vrep 32 (0 : Int)).1))))) (off := 2) (size := 1) rfl (by kernel_rfl) (len1 _) (le_of_len (len_app (len1 _) (len_app (len1 _) (len_app (len1 _) (len_app (len1 _) (len_en _ (vrep 32 (0 : Int))))))) (by decide)) (splc_in (Sub4.all _) (splc_skip (n := 1) (len1 _) (splc_skip (n := 1) (len1 _) (splc_head (len_eq (len1 _) (len1 _))))) (splc_all (len_eq (len_app (len1 _) (len_app (len1 _) (len_app (len1 _) (len_app (len1 _) (len_en _ (vrep 32 (0 : Int))))))) (len_app (len1 _) (len_app (len1 _) (len_app (len1 _) (len_app (len1 _) (len_en _ (vrep 32 (0 : Int))))))))) (hl_of (Sub4.skip (n := 1) (len1 _) (Sub4.skip (n := 1) (len1 _) (Sub4.head _ _))) (len_eq (len1 _) (len1 _)))) fill_nil))) ?_
  refine ls_new rfl rfl (by kernel_rfl) 3 (fun g => .pointer (some ⟨g, 0, none⟩)) (.cells ⟨([Value.int .i64 (0 : Int)] ++ ([Value.int .i64 (0 : Int)] ++ ([Value.int .i64 (0 : Int)] ++ ([Value.int .u32 (0 : Int)] ++ en (Value.int .u8) (vrep 32 (0 : Int)).1))))⟩ 30) (fun w => by kernel_rfl) ?_
  intro g2
  refine ls_storec (g := g2) (off := 0) (v := .agg ⟨([Value.int .i64 a1] ++ ([Value.int .i64 a2] ++ ([Value.int .i64 (l3.length : Int)] ++ ([Value.int .u32 (0 : Int)] ++ en (Value.int .u8) (vrep 32 (0 : Int)).1))))⟩) (vs := ([Value.int .i64 a1] ++ ([Value.int .i64 a2] ++ ([Value.int .i64 (l3.length : Int)] ++ ([Value.int .u32 (0 : Int)] ++ en (Value.int .u8) (vrep 32 (0 : Int)).1))))) (cs := ([Value.int .i64 (0 : Int)] ++ ([Value.int .i64 (0 : Int)] ++ ([Value.int .i64 (0 : Int)] ++ ([Value.int .u32 (0 : Int)] ++ en (Value.int .u8) (vrep 32 (0 : Int)).1))))) (ty := 30) 3 rfl rfl rfl (by kernel_rfl) (by kernel_rfl) (by kernel_rfl) (by exact rfl) (by kernel_rfl) (len_app (len1 _) (len_app (len1 _) (len_app (len1 _) (len_app (len1 _) (len_en _ (vrep 32 (0 : Int))))))) (one_app (one_cons rfl one_nil) (one_app (one_cons rfl one_nil) (one_app (one_cons rfl one_nil) (one_app (one_cons rfl one_nil) (one_en (fun _ => rfl) _))))) (hl_of (Sub4.all _) (len_eq (len_app (len1 _) (len_app (len1 _) (len_app (len1 _) (len_app (len1 _) (len_en _ (vrep 32 (0 : Int))))))) (len_app (len1 _) (len_app (len1 _) (len_app (len1 _) (len_app (len1 _) (len_en _ (vrep 32 (0 : Int))))))))) (cs' := ([Value.int .i64 a1] ++ ([Value.int .i64 a2] ++ ([Value.int .i64 (l3.length : Int)] ++ ([Value.int .u32 (0 : Int)] ++ en (Value.int .u8) (vrep 32 (0 : Int)).1))))) (splc_all (len_eq (len_app (len1 _) (len_app (len1 _) (len_app (len1 _) (len_app (len1 _) (len_en _ (vrep 32 (0 : Int))))))) (len_app (len1 _) (len_app (len1 _) (len_app (len1 _) (len_app (len1 _) (len_en _ (vrep 32 (0 : Int))))))))) ?_
  refine ls_end ?_
  refine qn_then ?_
  refine cs_cut (fun f S => ∃ (fR : Fr), f = upd (upd (upd (upd (upd (upd fR 0 (.pointer (some ⟨pg0, 0, none⟩))) 1 (.int .i64 a1)) 2 (.int .i64 a2)) 3 (.slice A3 l3.length c3)) 8 (.pointer (some ⟨g1, 0, none⟩))) 10 (.pointer (some ⟨g2, 0, none⟩)) ∧ S = sput (sput (sput (sput s0 0 (some (Ck.var 42 pg0 (([Value.slice (some ⟨gl0_0, 0, none⟩) n0_0 c0_0] ++ ([Value.map (some r0_1)] ++ ([Value.bool v0.2.2.1] ++ ([Value.int .i64 v0.2.2.2.1] ++ [Value.bool v0.2.2.2.2])))))))) 1 (some (Ck.mr T56 r0_1 gl0_0 c0_0 n0_0 w0_1))) 2 (some (Ck.var 30 g1 (([Value.int .i64 (0 : Int)] ++ ([Value.int .i64 (0 : Int)] ++ ([Value.int .i64 (0 : Int)] ++ ([Value.int .u32 (0 : Int)] ++ en (Value.int .u8) (vrep 32 (0 : Int)).1)))))))) 3 (some (Ck.var 30 g2 (([Value.int .i64 a1] ++ ([Value.int .i64 a2] ++ ([Value.int .i64 (l3.length : Int)] ++ ([Value.int .u32 (0 : Int)] ++ en (Value.int .u8) (vrep 32 (0 : Int)).1))))))) ∧ block_Write.jo2 k v0 w0_1 a1 a2 l3 = some r) ?_ ?_
  · skip
    refine cs_seq ?_
    refine cs_region (l := [_, _, _, _]) ?_
    refine lv (.pointer (some ⟨pg0, 0, none⟩)) ?_
    refine ls_loadagg (a := ⟨g2, 0, none⟩) (sub := ([Value.int .i64 a1] ++ ([Value.int .i64 a2] ++ ([Value.int .i64 (l3.length : Int)] ++ ([Value.int .u32 (0 : Int)] ++ en (Value.int .u8) (vrep 32 (0 : Int)).1))))) rfl rfl (by kernel_rfl) rfl (by kernel_rfl) (by kernel_rfl) (by kernel_rfl) (len_app (len1 _) (len_app (len1 _) (len_app (len1 _) (len_app (len1 _) (len_en _ (vrep 32 (0 : Int))))))) (fun w hs => (hs.vars (k := 3) (by exact rfl) (Sub4.all _))) ?_
    obtain ⟨t31, hc32, H⟩ := bind_some H
    refine ls_callb (fid := 17) (vals := #[.pointer (some ⟨pg0, 0, none⟩), .agg ⟨([Value.int .i64 a1] ++ ([Value.int .i64 a2] ++ ([Value.int .i64 (l3.length : Int)] ++ ([Value.int .u32 (0 : Int)] ++ en (Value.int .u8) (vrep 32 (0 : Int)).1))))⟩]) (X := Unit) (fun x => .int .i64 t31) (fun x => stl [Ck.var 42 pg0 (([Value.slice (some ⟨gl0_0, 0, none⟩) n0_0 c0_0] ++ ([Value.map (some r0_1)] ++ ([Value.bool v0.2.2.1] ++ ([Value.int .i64 v0.2.2.2.1] ++ [Value.bool v0.2.2.2.2]))))), Ck.mr T56 r0_1 gl0_0 c0_0 n0_0 w0_1]) [0, 1] [] [Ck.var 42 pg0 (([Value.slice (some ⟨gl0_0, 0, none⟩) n0_0 c0_0] ++ ([Value.map (some r0_1)] ++ ([Value.bool v0.2.2.1] ++ ([Value.int .i64 v0.2.2.2.1] ++ [Value.bool v0.2.2.2.2]))))), Ck.mr T56 r0_1 gl0_0 c0_0 n0_0 w0_1] [] 4 rfl rfl (by kernel_rfl) (fun w => by kernel_rfl) ⟨by exact rfl, by exact rfl, trivial⟩ trivial (by decide) (fun w hs hb => block_check.calls k pg0 gl0_0 n0_0 c0_0 r0_1 ((), (), v0.2.2.1, v0.2.2.2.1, v0.2.2.2.2) w0_1 (a1, a2, (l3.length : Int), (0 : Int), (vrep 32 (0 : Int))) t31 (lent b w [Ck.var 42 pg0 (([Value.slice (some ⟨gl0_0, 0, none⟩) n0_0 c0_0] ++ ([Value.map (some r0_1)] ++ ([Value.bool v0.2.2.1] ++ ([Value.int .i64 v0.2.2.2.1] ++ [Value.bool v0.2.2.2.2]))))), Ck.mr T56 r0_1 gl0_0 c0_0 n0_0 w0_1] []) hb  hc32) ?_
    intro x33
    refine lv (.int .i64 t31) ?_
    refine ls_end ?_
    refine qn_then ?_
    refine cs_seq ?_
    refine cs_region (l := [_, _]) ?_
    refine lv (.int .i64 t31) ?_
    refine lv (.bool (!decide (t31 = (0 : Int)))) ?_
    refine ls_end ?_
    refine qn_then ?_
    by_cases q34 : t31 = (0 : Int)
    · replace H := ite_t q34 H
      refine cs_know (c := false) (congrArg Bool.not (dec_t q34)) 29 (by kernel_rfl) ?_
      refine cs_false (by kernel_rfl) ?_
      refine cs_skip' ?_
      refine qn_meet (sput (sput (sput (sput s0 0 (some (Ck.var 42 pg0 (([Value.slice (some ⟨gl0_0, 0, none⟩) n0_0 c0_0] ++ ([Value.map (some r0_1)] ++ ([Value.bool v0.2.2.1] ++ ([Value.int .i64 v0.2.2.2.1] ++ [Value.bool v0.2.2.2.2])))))))) 1 (some (Ck.mr T56 r0_1 gl0_0 c0_0 n0_0 w0_1))) 2 (some (Ck.var 30 g1 (([Value.int .i64 (0 : Int)] ++ ([Value.int .i64 (0 : Int)] ++ ([Value.int .i64 (0 : Int)] ++ ([Value.int .u32 (0 : Int)] ++ en (Value.int .u8) (vrep 32 (0 : Int)).1)))))))) 3 (some (Ck.var 30 g2 (([Value.int .i64 a1] ++ ([Value.int .i64 a2] ++ ([Value.int .i64 (l3.length : Int)] ++ ([Value.int .u32 (0 : Int)] ++ en (Value.int .u8) (vrep 32 (0 : Int)).1)))))))) ⟨_, fr_next (fr_next (fr_next (fr_next (fr_next (fr_next (rfl) (by kernel_rfl)) (by kernel_rfl)) (by kernel_rfl)) (by kernel_rfl)) (by kernel_rfl)) (by kernel_rfl), rfl, H⟩ (sub_put (by exact rfl) (sub_put (by exact rfl) (sub_put (by exact rfl) (sub_put (by exact rfl) (sub_nil _)))))
    replace H := ite_f q34 H
    refine cs_know (c := true) (congrArg Bool.not (dec_f q34)) 29 (by kernel_rfl) ?_
    refine cs_true (by kernel_rfl) ?_
    refine cs_seq ?_
    refine cs_region (l := [_, _, _, _]) ?_
    refine ls_build (ps := []) (pl := #[(0, 1), (1, 1), (2, 1), (3, 1), (4, 32)]) (zv := .agg ⟨([Value.int .i64 (0 : Int)] ++ ([Value.int .i64 (0 : Int)] ++ ([Value.int .i64 (0 : Int)] ++ ([Value.int .u32 (0 : Int)] ++ en (Value.int .u8) (vrep 32 (0 : Int)).1))))⟩) (zc := ([Value.int .i64 (0 : Int)] ++ ([Value.int .i64 (0 : Int)] ++ ([Value.int .i64 (0 : Int)] ++ ([Value.int .u32 (0 : Int)] ++ en (Value.int .u8) (vrep 32 (0 : Int)).1))))) (r := ([Value.int .i64 (0 : Int)] ++ ([Value.int .i64 (0 : Int)] ++ ([Value.int .i64 (0 : Int)] ++ ([Value.int .u32 (0 : Int)] ++ en (Value.int .u8) (vrep 32 (0 : Int)).1))))) rfl rfl (by kernel_rfl) rfl (by kernel_rfl) (by kernel_rfl) (fun w => by kernel_rfl) (fun w => by kernel_rfl) rfl fill_nil ?_
    refine lv (.int .i64 t31) ?_
    refine ls_storec (g := g1) (off := 0) (v := .agg ⟨([Value.int .i64 (0 : Int)] ++ ([Value.int .i64 (0 : Int)] ++ ([Value.int .i64 (0 : Int)] ++ ([Value.int .u32 (0 : Int)] ++ en (Value.int .u8) (vrep 32 (0 : Int)).1))))⟩) (vs := ([Value.int .i64 (0 : Int)] ++ ([Value.int .i64 (0 : Int)] ++ ([Value.int .i64 (0 : Int)] ++ ([Value.int .u32 (0 : Int)] ++ en (Value.int .u8) (vrep 32 (0 : Int)).1))))) (cs := ([Value.int .i64 (0 : Int)] ++ ([Value.int .i64 (0 : Int)] ++ ([Value.int .i64 (0 : Int)] ++ ([Value.int .u32 (0 : Int)] ++ en (Value.int .u8) (vrep 32 (0 : Int)).1))))) (ty := 30) 2 rfl rfl rfl (by kernel_rfl) (by kernel_rfl) (by kernel_rfl) (by exact rfl) (by kernel_rfl) (len_app (len1 _) (len_app (len1 _) (len_app (len1 _) (len_app (len1 _) (len_en _ (vrep 32 (0 : Int))))))) (one_app (one_cons rfl one_nil) (one_app (one_cons rfl one_nil) (one_app (one_cons rfl one_nil) (one_app (one_cons rfl one_nil) (one_en (fun _ => rfl) _))))) (hl_of (Sub4.all _) (len_eq (len_app (len1 _) (len_app (len1 _) (len_app (len1 _) (len_app (len1 _) (len_en _ (vrep 32 (0 : Int))))))) (len_app (len1 _) (len_app (len1 _) (len_app (len1 _) (len_app (len1 _) (len_en _ (vrep 32 (0 : Int))))))))) (cs' := ([Value.int .i64 (0 : Int)] ++ ([Value.int .i64 (0 : Int)] ++ ([Value.int .i64 (0 : Int)] ++ ([Value.int .u32 (0 : Int)] ++ en (Value.int .u8) (vrep 32 (0 : Int)).1))))) (splc_all (len_eq (len_app (len1 _) (len_app (len1 _) (len_app (len1 _) (len_app (len1 _) (len_en _ (vrep 32 (0 : Int))))))) (len_app (len1 _) (len_app (len1 _) (len_app (len1 _) (len_app (len1 _) (len_en _ (vrep 32 (0 : Int))))))))) ?_
    refine lv (.int .i64 t31) ?_
    refine ls_end ?_
    refine qn_then ?_
    refine cs_ret' ?_
    refine qr_then ?_
    obtain rfl := Option.some.inj H
    refine qr_res (rs := [_, _]) rfl (fun w' hs => ⟨[.agg ⟨([Value.int .i64 (0 : Int)] ++ ([Value.int .i64 (0 : Int)] ++ ([Value.int .i64 (0 : Int)] ++ ([Value.int .u32 (0 : Int)] ++ en (Value.int .u8) (vrep 32 (0 : Int)).1))))⟩, .int .i64 t31], (.cell (by kernel_rfl) (run_cellres (by kernel_rfl) (by kernel_rfl) (len_app (len1 _) (len_app (len1 _) (len_app (len1 _) (len_app (len1 _) (len_en _ (vrep 32 (0 : Int))))))) (hs.holds 2 _ (by exact rfl))) (res_tmp (by kernel_rfl) (.nil))), (), rfl, hs.pick (ts := [0, 1]) (cs := [Ck.var 42 pg0 (([Value.slice (some ⟨gl0_0, 0, none⟩) n0_0 c0_0] ++ ([Value.map (some r0_1)] ++ ([Value.bool v0.2.2.1] ++ ([Value.int .i64 v0.2.2.2.1] ++ [Value.bool v0.2.2.2.2]))))), Ck.mr T56 r0_1 gl0_0 c0_0 n0_0 w0_1]) ⟨by exact rfl, by exact rfl, trivial⟩ (by decide)⟩)
  rintro f S ⟨fr2, rfl, rfl, H⟩
  replace H : ((pointer_Sectors.f k (a1, a2, (l3.length : Int), (0 : Int), (vrep 32 (0 : Int)))).bind fun t3 => block_Write.lo3 a1 a2 l3 t3 k (0 : Int) ((), (), v0.2.2.1, v0.2.2.2.1, v0.2.2.2.2) w0_1) = some r := H
  refine cs_seq ?_
  refine cs_seq ?_
  refine cs_region (l := [_, _, _]) ?_
  refine ls_loadagg (a := ⟨g2, 0, none⟩) (sub := ([Value.int .i64 a1] ++ ([Value.int .i64 a2] ++ ([Value.int .i64 (l3.length : Int)] ++ ([Value.int .u32 (0 : Int)] ++ en (Value.int .u8) (vrep 32 (0 : Int)).1))))) rfl rfl (by kernel_rfl) rfl (by kernel_rfl) (by kernel_rfl) (by kernel_rfl) (len_app (len1 _) (len_app (len1 _) (len_app (len1 _) (len_app (len1 _) (len_en _ (vrep 32 (0 : Int))))))) (fun w hs => (hs.vars (k := 3) (by exact rfl) (Sub4.all _))) ?_
  obtain ⟨t3, hc4, H⟩ := bind_some H
  refine ls_callb (fid := 18) (vals := #[.agg ⟨([Value.int .i64 a1] ++ ([Value.int .i64 a2] ++ ([Value.int .i64 (l3.length : Int)] ++ ([Value.int .u32 (0 : Int)] ++ en (Value.int .u8) (vrep 32 (0 : Int)).1))))⟩]) (X := Unit) (fun x => .int .i64 t3) (fun x => stl []) [] [] [] [] 4 rfl rfl (by kernel_rfl) (fun w => by kernel_rfl) trivial trivial (by decide) (fun w hs hb => pointer_Sectors.calls k (a1, a2, (l3.length : Int), (0 : Int), (vrep 32 (0 : Int))) t3 (lent b w [] []) hb  hc4) ?_
  intro x5
  refine lv (.int .i64 (0 : Int)) ?_
  refine ls_end ?_
  refine qn_then ?_
  refine cs_block ?_
  refine cs_sub (sput (sput (sput s0 0 (some (Ck.var 42 pg0 (([Value.slice (some ⟨gl0_0, 0, none⟩) n0_0 c0_0] ++ ([Value.map (some r0_1)] ++ ([Value.bool v0.2.2.1] ++ ([Value.int .i64 v0.2.2.2.1] ++ [Value.bool v0.2.2.2.2])))))))) 1 (some (Ck.mr T56 r0_1 gl0_0 c0_0 n0_0 w0_1))) 2 (some (Ck.var 30 g1 (([Value.int .i64 (0 : Int)] ++ ([Value.int .i64 (0 : Int)] ++ ([Value.int .i64 (0 : Int)] ++ ([Value.int .u32 (0 : Int)] ++ en (Value.int .u8) (vrep 32 (0 : Int)).1)))))))) (sub_put (by exact rfl) (sub_put (by exact rfl) (sub_put (by exact rfl) (sub_nil _)))) ?_
  refine cs_loop (fun kk f S => ∃ (fR : Fr) (x34_3 : Int) (m0_3 : (Unit × Unit × Bool × Int × Bool)) (m1_3 : (List (Int × (Vc Int 512)) × List (Vc Int 512))), f = upd (upd (upd (upd (upd (upd (upd fR 0 (.pointer (some ⟨pg0, 0, none⟩))) 1 (.int .i64 a1)) 2 (.int .i64 a2)) 3 (.slice A3 l3.length c3)) 8 (.pointer (some ⟨g1, 0, none⟩))) 33 (.int .i64 t3)) 34 (.int .i64 x34_3) ∧ S = sput (sput (sput s0 0 (some (Ck.var 42 pg0 (([Value.slice (some ⟨gl0_0, 0, none⟩) n0_0 c0_0] ++ ([Value.map (some r0_1)] ++ ([Value.bool m0_3.2.2.1] ++ ([Value.int .i64 m0_3.2.2.2.1] ++ [Value.bool m0_3.2.2.2.2])))))))) 1 (some (Ck.mr T56 r0_1 gl0_0 c0_0 n0_0 m1_3))) 2 (some (Ck.var 30 g1 (([Value.int .i64 (0 : Int)] ++ ([Value.int .i64 (0 : Int)] ++ ([Value.int .i64 (0 : Int)] ++ ([Value.int .u32 (0 : Int)] ++ en (Value.int .u8) (vrep 32 (0 : Int)).1))))))) ∧ block_Write.lo3 a1 a2 l3 t3 kk x34_3 m0_3 m1_3 = some r) k ?_ ?_ ?_
  · exact ⟨_, (0 : Int), ((), (), v0.2.2.1, v0.2.2.2.1, v0.2.2.2.2), w0_1, fr_next (fr_next (fr_next (fr_next (fr_next (fr_next (fr_next (rfl) (by kernel_rfl)) (by kernel_rfl)) (by kernel_rfl)) (by kernel_rfl)) (by kernel_rfl)) (by kernel_rfl)) (by kernel_rfl), rfl, H⟩
  · rintro f S ⟨fr3, x34_3, m0_3, m1_3, rfl, rfl, H⟩; cases H
  rintro k3 f S ⟨fr3, x34_3, m0_3, m1_3, rfl, rfl, H⟩
  replace H : ((if x34_3 < t3 then (block_Write.jo4 a1 l3 x34_3 m0_3 m1_3 k3 (block_Write.lo3 a1 a2 l3 t3 k3)) else (pointer_Of.f k3 a1 a2 l3).bind fun t28 => some (t28, (0 : Int), ((), (), m0_3.2.2.1, m0_3.2.2.2.1, m0_3.2.2.2.2), m1_3))) = some r := H
  refine cs_seq ?_
  refine cs_region (l := [_]) ?_
  refine lv (.bool (decide (x34_3 < t3))) ?_
  refine ls_end ?_
  refine qn_then ?_
  refine cs_cut (fun f S => ∃ (fR : Fr), f = upd (upd (upd (upd (upd (upd (upd fR 0 (.pointer (some ⟨pg0, 0, none⟩))) 1 (.int .i64 a1)) 2 (.int .i64 a2)) 3 (.slice A3 l3.length c3)) 8 (.pointer (some ⟨g1, 0, none⟩))) 33 (.int .i64 t3)) 34 (.int .i64 x34_3) ∧ S = sput (sput (sput s0 0 (some (Ck.var 42 pg0 (([Value.slice (some ⟨gl0_0, 0, none⟩) n0_0 c0_0] ++ ([Value.map (some r0_1)] ++ ([Value.bool m0_3.2.2.1] ++ ([Value.int .i64 m0_3.2.2.2.1] ++ [Value.bool m0_3.2.2.2.2])))))))) 1 (some (Ck.mr T56 r0_1 gl0_0 c0_0 n0_0 m1_3))) 2 (some (Ck.var 30 g1 (([Value.int .i64 (0 : Int)] ++ ([Value.int .i64 (0 : Int)] ++ ([Value.int .i64 (0 : Int)] ++ ([Value.int .u32 (0 : Int)] ++ en (Value.int .u8) (vrep 32 (0 : Int)).1))))))) ∧ block_Write.jo4 a1 l3 x34_3 m0_3 m1_3 k3 (block_Write.lo3 a1 a2 l3 t3 k3) = some r) ?_ ?_
  · skip
    by_cases q27 : x34_3 < t3
    · replace H := ite_t q27 H
      refine cs_know (c := true) (dec_t q27) 35 (by kernel_rfl) ?_
      refine cs_true (by kernel_rfl) ?_
      refine cs_skip' ?_
      refine qn_meet (sput (sput (sput s0 0 (some (Ck.var 42 pg0 (([Value.slice (some ⟨gl0_0, 0, none⟩) n0_0 c0_0] ++ ([Value.map (some r0_1)] ++ ([Value.bool m0_3.2.2.1] ++ ([Value.int .i64 m0_3.2.2.2.1] ++ [Value.bool m0_3.2.2.2.2])))))))) 1 (some (Ck.mr T56 r0_1 gl0_0 c0_0 n0_0 m1_3))) 2 (some (Ck.var 30 g1 (([Value.int .i64 (0 : Int)] ++ ([Value.int .i64 (0 : Int)] ++ ([Value.int .i64 (0 : Int)] ++ ([Value.int .u32 (0 : Int)] ++ en (Value.int .u8) (vrep 32 (0 : Int)).1)))))))) ⟨_, fr_next (fr_next (fr_next (fr_next (fr_next (fr_next (fr_next (rfl) (by kernel_rfl)) (by kernel_rfl)) (by kernel_rfl)) (by kernel_rfl)) (by kernel_rfl)) (by kernel_rfl)) (by kernel_rfl), rfl, H⟩ (sub_put (by exact rfl) (sub_put (by exact rfl) (sub_put (by exact rfl) (sub_nil _))))
    replace H := ite_f q27 H
    refine cs_know (c := false) (dec_f q27) 35 (by kernel_rfl) ?_
    refine cs_false (by kernel_rfl) ?_
    refine cs_exit' ?_
    refine qx_then ?_
    refine qx_then ?_
    refine qx_same ?_
    refine qn_then ?_
    refine cs_seq ?_
    refine cs_region (l := [_, _, _, _, _, _]) ?_
    refine lv (.int .i64 a1) ?_
    refine lv (.int .i64 a2) ?_
    refine lv (.slice A3 l3.length c3) ?_
    obtain ⟨t28, hc29, H⟩ := bind_some H
    refine ls_callb (fid := 20) (vals := #[.int .i64 a1, .int .i64 a2, .slice A3 l3.length c3]) (X := Unit) (fun x => .agg ⟨([Value.int .i64 t28.1] ++ ([Value.int .i64 t28.2.1] ++ ([Value.int .i64 t28.2.2.1] ++ ([Value.int .u32 t28.2.2.2.1] ++ en (Value.int .u8) t28.2.2.2.2.1))))⟩) (fun x => stl []) [] [] [] [] 4 rfl rfl (by kernel_rfl) (fun w => by kernel_rfl) trivial trivial (by decide) (fun w hs hb => pointer_Of.calls k3 a1 a2 A3 c3 l3 t28 (lent b w [] []) hb (hs.ro R3 _ _) C3 hc29) ?_
    intro x30
    refine ls_storec (g := g1) (off := 0) (v := .agg ⟨([Value.int .i64 t28.1] ++ ([Value.int .i64 t28.2.1] ++ ([Value.int .i64 t28.2.2.1] ++ ([Value.int .u32 t28.2.2.2.1] ++ en (Value.int .u8) t28.2.2.2.2.1))))⟩) (vs := ([Value.int .i64 t28.1] ++ ([Value.int .i64 t28.2.1] ++ ([Value.int .i64 t28.2.2.1] ++ ([Value.int .u32 t28.2.2.2.1] ++ en (Value.int .u8) t28.2.2.2.2.1))))) (cs := ([Value.int .i64 (0 : Int)] ++ ([Value.int .i64 (0 : Int)] ++ ([Value.int .i64 (0 : Int)] ++ ([Value.int .u32 (0 : Int)] ++ en (Value.int .u8) (vrep 32 (0 : Int)).1))))) (ty := 30) 2 rfl rfl rfl (by kernel_rfl) (by kernel_rfl) (by kernel_rfl) (by exact rfl) (by kernel_rfl) (len_app (len1 _) (len_app (len1 _) (len_app (len1 _) (len_app (len1 _) (len_en _ t28.2.2.2.2))))) (one_app (one_cons rfl one_nil) (one_app (one_cons rfl one_nil) (one_app (one_cons rfl one_nil) (one_app (one_cons rfl one_nil) (one_en (fun _ => rfl) _))))) (hl_of (Sub4.all _) (len_eq (len_app (len1 _) (len_app (len1 _) (len_app (len1 _) (len_app (len1 _) (len_en _ t28.2.2.2.2))))) (len_app (len1 _) (len_app (len1 _) (len_app (len1 _) (len_app (len1 _) (len_en _ (vrep 32 (0 : Int))))))))) (cs' := ([Value.int .i64 t28.1] ++ ([Value.int .i64 t28.2.1] ++ ([Value.int .i64 t28.2.2.1] ++ ([Value.int .u32 t28.2.2.2.1] ++ en (Value.int .u8) t28.2.2.2.2.1))))) (splc_all (len_eq (len_app (len1 _) (len_app (len1 _) (len_app (len1 _) (len_app (len1 _) (len_en _ t28.2.2.2.2))))) (len_app (len1 _) (len_app (len1 _) (len_app (len1 _) (len_app (len1 _) (len_en _ (vrep 32 (0 : Int))))))))) ?_
    refine lv (.int .i64 (0 : Int)) ?_
    refine ls_end ?_
    refine qn_then ?_
    refine cs_ret' ?_
    obtain rfl := Option.some.inj H
    refine qr_res (rs := [_, _]) rfl (fun w' hs => ⟨[.agg ⟨([Value.int .i64 t28.1] ++ ([Value.int .i64 t28.2.1] ++ ([Value.int .i64 t28.2.2.1] ++ ([Value.int .u32 t28.2.2.2.1] ++ en (Value.int .u8) t28.2.2.2.2.1))))⟩, .int .i64 (0 : Int)], (.cell (by kernel_rfl) (run_cellres (by kernel_rfl) (by kernel_rfl) (len_app (len1 _) (len_app (len1 _) (len_app (len1 _) (len_app (len1 _) (len_en _ t28.2.2.2.2))))) (hs.holds 2 _ (by exact rfl))) (res_tmp (by kernel_rfl) (.nil))), (), rfl, hs.pick (ts := [0, 1]) (cs := [Ck.var 42 pg0 (([Value.slice (some ⟨gl0_0, 0, none⟩) n0_0 c0_0] ++ ([Value.map (some r0_1)] ++ ([Value.bool m0_3.2.2.1] ++ ([Value.int .i64 m0_3.2.2.2.1] ++ [Value.bool m0_3.2.2.2.2]))))), Ck.mr T56 r0_1 gl0_0 c0_0 n0_0 m1_3]) ⟨by exact rfl, by exact rfl, trivial⟩ (by decide)⟩)
  rintro f S ⟨fr4, rfl, rfl, H⟩
  replace H : (lt (IntKind.wrap .i64 ((IntKind.wrap .i64 (x34_3 + (1 : Int))) * (512 : Int))) fun y6 => lt ((if (l3.length : Int) < y6 then (l3.length : Int) else y6)) fun y8 => (if 0 ≤ y8 then (if y8 ≤ (l3.length : Int) then (if 0 ≤ IntKind.wrap .i64 (x34_3 * (512 : Int)) then (if IntKind.wrap .i64 (x34_3 * (512 : Int)) ≤ y8 then lt ((l3.take (y8).toNat).drop (IntKind.wrap .i64 (x34_3 * (512 : Int))).toNat) fun xl18 => (disk_Disk_Write.f k3 ((), (), m0_3.2.2.1, m0_3.2.2.2.1, m0_3.2.2.2.2) m1_3 (IntKind.wrap .i64 (a1 + x34_3)) xl18).bind fun t23 => (if t23.1 = (0 : Int) then (block_Write.lo3 a1 a2 l3 t3 k3) (IntKind.wrap .i64 (x34_3 + (1 : Int))) ((), (), t23.2.1.2.2.1, t23.2.1.2.2.2.1, t23.2.1.2.2.2.2) t23.2.2 else some (((0 : Int), (0 : Int), (0 : Int), (0 : Int), (vrep 32 (0 : Int))), t23.1, ((), (), t23.2.1.2.2.1, t23.2.1.2.2.2.1, t23.2.1.2.2.2.2), t23.2.2)) else none) else none) else none) else none)) = some r := H
  refine cs_seq ?_
  refine cs_block ?_
  refine cs_seq ?_
  refine cs_region (l := [_, _]) ?_
  refine lv (.int .i64 x34_3) ?_
  refine lv (.int .i64 x34_3) ?_
  refine ls_end ?_
  refine qn_then ?_
  refine cs_seq ?_
  refine cs_region (l := [_, _, _, _, _, _, _, _, _, _]) ?_
  refine lv (.int .i64 x34_3) ?_
  refine lv (.int .i64 (IntKind.wrap .i64 (x34_3 * (512 : Int)))) ?_
  refine lv (.int .i64 x34_3) ?_
  refine lv (.int .i64 (IntKind.wrap .i64 (x34_3 + (1 : Int)))) ?_
  obtain ⟨y6, hy7, H⟩ := lt_some H
  refine lv (.int .i64 (IntKind.wrap .i64 ((IntKind.wrap .i64 (x34_3 + (1 : Int))) * (512 : Int)))) ?_
  refine ls_ren 41 (v := .int .i64 (IntKind.wrap .i64 ((IntKind.wrap .i64 (x34_3 + (1 : Int))) * (512 : Int)))) (v' := .int .i64 y6) (by kernel_rfl) (by rw [hy7]) ?_
  refine lv (.slice A3 l3.length c3) ?_
  refine lv (.int .i64 (l3.length : Int)) ?_
  obtain ⟨y8, hy9, H⟩ := lt_some H
  refine lv (.int .i64 (if (l3.length : Int) < y6 then (l3.length : Int) else y6)) ?_
  refine ls_ren 44 (v := .int .i64 (if (l3.length : Int) < y6 then (l3.length : Int) else y6)) (v' := .int .i64 y8) (by kernel_rfl) (by rw [hy9]) ?_
  refine lv (.int .i64 (IntKind.wrap .i64 (x34_3 * (512 : Int)))) ?_
  refine lv (.int .i64 y8) ?_
  refine ls_end ?_
  refine qn_then ?_
  refine cs_seq ?_
  refine cs_region (l := [_, _, _, _, _, _, _, _, _, _, _]) ?_
  refine lv (.pointer (some ⟨pg0, 0, none⟩)) ?_
  refine lv (.int .i64 a1) ?_
  refine lv (.int .i64 x34_3) ?_
  refine lv (.int .i64 (IntKind.wrap .i64 (a1 + x34_3))) ?_
  refine lv (.slice A3 l3.length c3) ?_
  refine lv (.int .i64 (IntKind.wrap .i64 (x34_3 * (512 : Int)))) ?_
  refine lv (.int .i64 y8) ?_
  refine lv (.int .i64 y8) ?_
  obtain ⟨q10, H⟩ := ite_need H
  obtain ⟨q11, H⟩ := ite_need H
  obtain ⟨q12, H⟩ := ite_need H
  obtain ⟨q13, H⟩ := ite_need H
  obtain ⟨xl18, hy19, H⟩ := lt_some H
  have hz21 : (IntKind.wrap .i64 (x34_3 * (512 : Int))).toNat ≤ (y8).toNat := by omega
  have hz22 : (y8).toNat ≤ l3.length := by omega
  obtain ⟨xA14, xc15, he20, xC17, xR16⟩ := cut3_at (A := A3) (l := l3) (Ec.int 5 .u8) ((IntKind.wrap .i64 (x34_3 * (512 : Int))).toNat) ((y8).toNat) hz21 hz22 R3 (m := xl18) (by rw [← hy19] <;> simp) (z := 1) rfl
  refine ls_cutv3 (A := A3) (c := c3) (m := l3.length) (z := 1) (e := 5) (a := (IntKind.wrap .i64 (x34_3 * (512 : Int))).toNat) (b := (y8).toNat) (kh := .i64) rfl rfl (by kernel_rfl) rfl (by kernel_rfl) (by kernel_rfl) (by kernel_rfl) (.inr ⟨.i64, by rw [Int.toNat_of_nonneg (by first | assumption | omega)]; kernel_rfl⟩) (by rw [Int.toNat_of_nonneg (by first | assumption | omega)]; kernel_rfl) (by rw [Int.toNat_of_nonneg (by first | assumption | omega)]; kernel_rfl) hz21 hz22 C3 he20 ?_
  obtain ⟨t23, hc24, H⟩ := bind_some H
  refine ls_callb (fid := 19) (vals := #[.pointer (some ⟨pg0, 0, none⟩), .int .i64 (IntKind.wrap .i64 (a1 + x34_3)), .slice xA14 xl18.length xc15]) (X := Unit) (fun x => .int .i64 t23.1) (fun x => stl [Ck.var 42 pg0 (([Value.slice (some ⟨gl0_0, 0, none⟩) n0_0 c0_0] ++ ([Value.map (some r0_1)] ++ ([Value.bool t23.2.1.2.2.1] ++ ([Value.int .i64 t23.2.1.2.2.2.1] ++ [Value.bool t23.2.1.2.2.2.2]))))), Ck.mr T56 r0_1 gl0_0 c0_0 n0_0 t23.2.2]) [0, 1] [] [Ck.var 42 pg0 (([Value.slice (some ⟨gl0_0, 0, none⟩) n0_0 c0_0] ++ ([Value.map (some r0_1)] ++ ([Value.bool m0_3.2.2.1] ++ ([Value.int .i64 m0_3.2.2.2.1] ++ [Value.bool m0_3.2.2.2.2]))))), Ck.mr T56 r0_1 gl0_0 c0_0 n0_0 m1_3] [] 4 rfl rfl (by kernel_rfl) (fun w => by kernel_rfl) ⟨by exact rfl, by exact rfl, trivial⟩ trivial (by decide) (fun w hs hb => disk_Disk_Write.calls k3 pg0 gl0_0 n0_0 c0_0 r0_1 ((), (), m0_3.2.2.1, m0_3.2.2.2.1, m0_3.2.2.2.2) m1_3 (IntKind.wrap .i64 (a1 + x34_3)) xA14 xc15 xl18 t23 (lent b w [Ck.var 42 pg0 (([Value.slice (some ⟨gl0_0, 0, none⟩) n0_0 c0_0] ++ ([Value.map (some r0_1)] ++ ([Value.bool m0_3.2.2.1] ++ ([Value.int .i64 m0_3.2.2.2.1] ++ [Value.bool m0_3.2.2.2.2]))))), Ck.mr T56 r0_1 gl0_0 c0_0 n0_0 m1_3] []) hb (hs.ro xR16 _ _) xC17 hc24) ?_
  intro x25
  refine lv (.int .i64 t23.1) ?_
  refine ls_end ?_
  refine qn_then ?_
  refine cs_seq ?_
  refine cs_region (l := [_, _]) ?_
  refine lv (.int .i64 t23.1) ?_
  refine lv (.bool (!decide (t23.1 = (0 : Int)))) ?_
  refine ls_end ?_
  refine qn_then ?_
  by_cases q26 : t23.1 = (0 : Int)
  · replace H := ite_t q26 H
    refine cs_know (c := false) (congrArg Bool.not (dec_t q26)) 56 (by kernel_rfl) ?_
    refine cs_false (by kernel_rfl) ?_
    refine cs_skip' ?_
    refine qn_block ?_
    refine qn_then ?_
    refine cs_region (l := [_, _]) ?_
    refine lv (.int .i64 (IntKind.wrap .i64 (x34_3 + (1 : Int)))) ?_
    refine lv (.int .i64 (IntKind.wrap .i64 (x34_3 + (1 : Int)))) ?_
    refine ls_end ?_
    refine qn_again k3 (sput (sput (sput s0 0 (some (Ck.var 42 pg0 (([Value.slice (some ⟨gl0_0, 0, none⟩) n0_0 c0_0] ++ ([Value.map (some r0_1)] ++ ([Value.bool t23.2.1.2.2.1] ++ ([Value.int .i64 t23.2.1.2.2.2.1] ++ [Value.bool t23.2.1.2.2.2.2])))))))) 1 (some (Ck.mr T56 r0_1 gl0_0 c0_0 n0_0 t23.2.2))) 2 (some (Ck.var 30 g1 (([Value.int .i64 (0 : Int)] ++ ([Value.int .i64 (0 : Int)] ++ ([Value.int .i64 (0 : Int)] ++ ([Value.int .u32 (0 : Int)] ++ en (Value.int .u8) (vrep 32 (0 : Int)).1)))))))) (Nat.le_refl _) ⟨_, (IntKind.wrap .i64 (x34_3 + (1 : Int))), ((), (), t23.2.1.2.2.1, t23.2.1.2.2.2.1, t23.2.1.2.2.2.2), t23.2.2, fr_next (fr_next (fr_next (fr_next (fr_next (fr_next (fr_next (rfl) (by kernel_rfl)) (by kernel_rfl)) (by kernel_rfl)) (by kernel_rfl)) (by kernel_rfl)) (by kernel_rfl)) (by kernel_rfl), rfl, H⟩ (sub_put (by exact rfl) (sub_put (by exact rfl) (sub_put (by exact rfl) (sub_nil _))))
  replace H := ite_f q26 H
  refine cs_know (c := true) (congrArg Bool.not (dec_f q26)) 56 (by kernel_rfl) ?_
  refine cs_true (by kernel_rfl) ?_
  refine cs_seq ?_
  refine cs_region (l := [_, _, _, _]) ?_
  refine ls_build (ps := []) (pl := #[(0, 1), (1, 1), (2, 1), (3, 1), (4, 32)]) (zv := .agg ⟨([Value.int .i64 (0 : Int)] ++ ([Value.int .i64 (0 : Int)] ++ ([Value.int .i64 (0 : Int)] ++ ([Value.int .u32 (0 : Int)] ++ en (Value.int .u8) (vrep 32 (0 : Int)).1))))⟩) (zc := ([Value.int .i64 (0 : Int)] ++ ([Value.int .i64 (0 : Int)] ++ ([Value.int .i64 (0 : Int)] ++ ([Value.int .u32 (0 : Int)] ++ en (Value.int .u8) (vrep 32 (0 : Int)).1))))) (r := ([Value.int .i64 (0 : Int)] ++ ([Value.int .i64 (0 : Int)] ++ ([Value.int .i64 (0 : Int)] ++ ([Value.int .u32 (0 : Int)] ++ en (Value.int .u8) (vrep 32 (0 : Int)).1))))) rfl rfl (by kernel_rfl) rfl (by kernel_rfl) (by kernel_rfl) (fun w => by kernel_rfl) (fun w => by kernel_rfl) rfl fill_nil ?_
  refine lv (.int .i64 t23.1) ?_
  refine ls_storec (g := g1) (off := 0) (v := .agg ⟨([Value.int .i64 (0 : Int)] ++ ([Value.int .i64 (0 : Int)] ++ ([Value.int .i64 (0 : Int)] ++ ([Value.int .u32 (0 : Int)] ++ en (Value.int .u8) (vrep 32 (0 : Int)).1))))⟩) (vs := ([Value.int .i64 (0 : Int)] ++ ([Value.int .i64 (0 : Int)] ++ ([Value.int .i64 (0 : Int)] ++ ([Value.int .u32 (0 : Int)] ++ en (Value.int .u8) (vrep 32 (0 : Int)).1))))) (cs := ([Value.int .i64 (0 : Int)] ++ ([Value.int .i64 (0 : Int)] ++ ([Value.int .i64 (0 : Int)] ++ ([Value.int .u32 (0 : Int)] ++ en (Value.int .u8) (vrep 32 (0 : Int)).1))))) (ty := 30) 2 rfl rfl rfl (by kernel_rfl) (by kernel_rfl) (by kernel_rfl) (by exact rfl) (by kernel_rfl) (len_app (len1 _) (len_app (len1 _) (len_app (len1 _) (len_app (len1 _) (len_en _ (vrep 32 (0 : Int))))))) (one_app (one_cons rfl one_nil) (one_app (one_cons rfl one_nil) (one_app (one_cons rfl one_nil) (one_app (one_cons rfl one_nil) (one_en (fun _ => rfl) _))))) (hl_of (Sub4.all _) (len_eq (len_app (len1 _) (len_app (len1 _) (len_app (len1 _) (len_app (len1 _) (len_en _ (vrep 32 (0 : Int))))))) (len_app (len1 _) (len_app (len1 _) (len_app (len1 _) (len_app (len1 _) (len_en _ (vrep 32 (0 : Int))))))))) (cs' := ([Value.int .i64 (0 : Int)] ++ ([Value.int .i64 (0 : Int)] ++ ([Value.int .i64 (0 : Int)] ++ ([Value.int .u32 (0 : Int)] ++ en (Value.int .u8) (vrep 32 (0 : Int)).1))))) (splc_all (len_eq (len_app (len1 _) (len_app (len1 _) (len_app (len1 _) (len_app (len1 _) (len_en _ (vrep 32 (0 : Int))))))) (len_app (len1 _) (len_app (len1 _) (len_app (len1 _) (len_app (len1 _) (len_en _ (vrep 32 (0 : Int))))))))) ?_
  refine lv (.int .i64 t23.1) ?_
  refine ls_end ?_
  refine qn_then ?_
  refine cs_ret' ?_
  refine qr_block ?_
  refine qr_then ?_
  refine qr_then ?_
  refine qr_block ?_
  refine qr_then ?_
  obtain rfl := Option.some.inj H
  refine qr_res (rs := [_, _]) rfl (fun w' hs => ⟨[.agg ⟨([Value.int .i64 (0 : Int)] ++ ([Value.int .i64 (0 : Int)] ++ ([Value.int .i64 (0 : Int)] ++ ([Value.int .u32 (0 : Int)] ++ en (Value.int .u8) (vrep 32 (0 : Int)).1))))⟩, .int .i64 t23.1], (.cell (by kernel_rfl) (run_cellres (by kernel_rfl) (by kernel_rfl) (len_app (len1 _) (len_app (len1 _) (len_app (len1 _) (len_app (len1 _) (len_en _ (vrep 32 (0 : Int))))))) (hs.holds 2 _ (by exact rfl))) (res_tmp (by kernel_rfl) (.nil))), (), rfl, hs.pick (ts := [0, 1]) (cs := [Ck.var 42 pg0 (([Value.slice (some ⟨gl0_0, 0, none⟩) n0_0 c0_0] ++ ([Value.map (some r0_1)] ++ ([Value.bool t23.2.1.2.2.1] ++ ([Value.int .i64 t23.2.1.2.2.2.1] ++ [Value.bool t23.2.1.2.2.2.2]))))), Ck.mr T56 r0_1 gl0_0 c0_0 n0_0 t23.2.2]) ⟨by exact rfl, by exact rfl, trivial⟩ (by decide)⟩)

/-! ### (*shadowbox/disk.Disk).Flush: function 8 -/
def disk_Disk_Flush.tab8 : List (List Nat) := [[], [0], [0, 1], [0, 1, 2], [], [], [0, 1, 2, 3, 4, 5], [0, 1, 2, 3, 4, 5, 6]]
def disk_Disk_Flush.lo3 (m0_2 : (Unit × Unit × Bool × Int × Bool)) : Nat → ((List (Int × (Vc Int 512)) × List (Vc Int 512))) → Option (Int × (Unit × Unit × Bool × Int × Bool) × (List (Int × (Vc Int 512)) × List (Vc Int 512))) := fun kk mm => mrlo (fun mE7 => some ((0 : Int), ((), (), m0_2.2.2.1, m0_2.2.2.2.1, m0_2.2.2.2.2), mE7)) kk mm
def disk_Disk_Flush.jo2 (k : Nat) (w0_1 : (List (Int × (Vc Int 512)) × List (Vc Int 512))) (m0_2 : (Unit × Unit × Bool × Int × Bool)) : Option (Int × (Unit × Unit × Bool × Int × Bool) × (List (Int × (Vc Int 512)) × List (Vc Int 512))) := disk_Disk_Flush.lo3 m0_2 k w0_1
def disk_Disk_Flush.jo1 (k : Nat) (v0 : (Unit × Unit × Bool × Int × Bool)) (w0_1 : (List (Int × (Vc Int 512)) × List (Vc Int 512))) : Option (Int × (Unit × Unit × Bool × Int × Bool) × (List (Int × (Vc Int 512)) × List (Vc Int 512))) := (disk_Disk_spend.f k ((), (), v0.2.2.1, v0.2.2.2.1, v0.2.2.2.2) w0_1).bind fun t13 => (if t13.1 = (0 : Int) then (disk_Disk_Flush.jo2 k w0_1) ((), (), t13.2.2.2.1, t13.2.2.2.2.1, t13.2.2.2.2.2) else some (t13.1, ((), (), t13.2.2.2.1, t13.2.2.2.2.1, t13.2.2.2.2.2), w0_1))
def disk_Disk_Flush.f (k : Nat) (v0 : (Unit × Unit × Bool × Int × Bool)) (w0_1 : (List (Int × (Vc Int 512)) × List (Vc Int 512))) : Option (Int × (Unit × Unit × Bool × Int × Bool) × (List (Int × (Vc Int 512)) × List (Vc Int 512))) :=
  (disk_Disk_Flush.jo1 k v0 w0_1)
set_option maxRecDepth 100000 in
set_option maxHeartbeats 4000000 in
theorem disk_Disk_Flush.calls (k : Nat) (pg0 : Nat) (gl0_0 : Nat) (n0_0 : Nat) (c0_0 : Nat) (r0_1 : Nat) (v0 : (Unit × Unit × Bool × Int × Bool)) (w0_1 : (List (Int × (Vc Int 512)) × List (Vc Int 512))) (r : Int × (Unit × Unit × Bool × Int × Bool) × (List (Int × (Vc Int 512)) × List (Vc Int 512))) (b : Bs) (hs0 : St b (stl [Ck.var 42 pg0 (([Value.slice (some ⟨gl0_0, 0, none⟩) n0_0 c0_0] ++ ([Value.map (some r0_1)] ++ ([Value.bool v0.2.2.1] ++ ([Value.int .i64 v0.2.2.2.1] ++ [Value.bool v0.2.2.2.2]))))), Ck.mr T56 r0_1 gl0_0 c0_0 n0_0 w0_1]) b.w) (H : disk_Disk_Flush.f k v0 w0_1 = some r) :
    Calls Try.prog 8 #[.pointer (some ⟨pg0, 0, none⟩)] b.w fun e w' => ∃ x : Unit, e = .returned (.int .i64 r.1) ∧ St b (stl [Ck.var 42 pg0 (([Value.slice (some ⟨gl0_0, 0, none⟩) n0_0 c0_0] ++ ([Value.map (some r0_1)] ++ ([Value.bool r.2.1.2.2.1] ++ ([Value.int .i64 r.2.1.2.2.2.1] ++ [Value.bool r.2.1.2.2.2.2]))))), Ck.mr T56 r0_1 gl0_0 c0_0 n0_0 r.2.2]) w' := by
  unfold disk_Disk_Flush.f at H
  refine enterb (n := 35) Try.func8 rfl (by kernel_rfl) (by kernel_rfl) hs0 ?_
  refine cs_sub (sput (sput s0 0 (some (Ck.var 42 pg0 (([Value.slice (some ⟨gl0_0, 0, none⟩) n0_0 c0_0] ++ ([Value.map (some r0_1)] ++ ([Value.bool v0.2.2.1] ++ ([Value.int .i64 v0.2.2.2.1] ++ [Value.bool v0.2.2.2.2])))))))) 1 (some (Ck.mr T56 r0_1 gl0_0 c0_0 n0_0 w0_1))) (sub_put (by exact rfl) (sub_put (by exact rfl) (sub_nil _))) ?_
  refine cs_seq ?_
  refine cs_region (l := [_]) ?_
  refine lv (.int .i64 (0 : Int)) ?_
  refine ls_end ?_
  refine qn_then ?_
  refine cs_cut (fun f S => ∃ (fR : Fr), f = upd fR 0 (.pointer (some ⟨pg0, 0, none⟩)) ∧ S = sput (sput s0 0 (some (Ck.var 42 pg0 (([Value.slice (some ⟨gl0_0, 0, none⟩) n0_0 c0_0] ++ ([Value.map (some r0_1)] ++ ([Value.bool v0.2.2.1] ++ ([Value.int .i64 v0.2.2.2.1] ++ [Value.bool v0.2.2.2.2])))))))) 1 (some (Ck.mr T56 r0_1 gl0_0 c0_0 n0_0 w0_1)) ∧ disk_Disk_Flush.jo1 k v0 w0_1 = some r) ?_ ?_
  · skip
    refine cs_seq ?_
    refine cs_region (l := [_, _]) ?_
    refine lv (.pointer (some ⟨pg0, 0, none⟩)) ?_
    have hc18 : disk_Disk_none.f k ((), (), v0.2.2.1, v0.2.2.2.1, v0.2.2.2.2) w0_1 = some false := rfl
    refine ls_callb (fid := 21) (vals := #[.pointer (some ⟨pg0, 0, none⟩)]) (X := Unit) (fun x => .bool false) (fun x => stl [Ck.var 42 pg0 (([Value.slice (some ⟨gl0_0, 0, none⟩) n0_0 c0_0] ++ ([Value.map (some r0_1)] ++ ([Value.bool v0.2.2.1] ++ ([Value.int .i64 v0.2.2.2.1] ++ [Value.bool v0.2.2.2.2]))))), Ck.mr T56 r0_1 gl0_0 c0_0 n0_0 w0_1]) [0, 1] [] [Ck.var 42 pg0 (([Value.slice (some ⟨gl0_0, 0, none⟩) n0_0 c0_0] ++ ([Value.map (some r0_1)] ++ ([Value.bool v0.2.2.1] ++ ([Value.int .i64 v0.2.2.2.1] ++ [Value.bool v0.2.2.2.2]))))), Ck.mr T56 r0_1 gl0_0 c0_0 n0_0 w0_1] [] 2 rfl rfl (by kernel_rfl) (fun w => by kernel_rfl) ⟨by exact rfl, by exact rfl, trivial⟩ trivial (by decide) (fun w hs hb => disk_Disk_none.calls k pg0 gl0_0 n0_0 c0_0 r0_1 ((), (), v0.2.2.1, v0.2.2.2.1, v0.2.2.2.2) w0_1 false (lent b w [Ck.var 42 pg0 (([Value.slice (some ⟨gl0_0, 0, none⟩) n0_0 c0_0] ++ ([Value.map (some r0_1)] ++ ([Value.bool v0.2.2.1] ++ ([Value.int .i64 v0.2.2.2.1] ++ [Value.bool v0.2.2.2.2]))))), Ck.mr T56 r0_1 gl0_0 c0_0 n0_0 w0_1] []) hb  hc18) ?_
    intro x19
    refine ls_end ?_
    refine qn_then ?_
    refine cs_false (by kernel_rfl) ?_
    refine cs_skip' ?_
    refine qn_meet (sput (sput s0 0 (some (Ck.var 42 pg0 (([Value.slice (some ⟨gl0_0, 0, none⟩) n0_0 c0_0] ++ ([Value.map (some r0_1)] ++ ([Value.bool v0.2.2.1] ++ ([Value.int .i64 v0.2.2.2.1] ++ [Value.bool v0.2.2.2.2])))))))) 1 (some (Ck.mr T56 r0_1 gl0_0 c0_0 n0_0 w0_1))) ⟨_, fr_next (rfl) (by kernel_rfl), rfl, H⟩ (sub_put (by exact rfl) (sub_put (by exact rfl) (sub_nil _)))
  rintro f S ⟨fr1, rfl, rfl, H⟩
  replace H : ((disk_Disk_spend.f k ((), (), v0.2.2.1, v0.2.2.2.1, v0.2.2.2.2) w0_1).bind fun t13 => (if t13.1 = (0 : Int) then (disk_Disk_Flush.jo2 k w0_1) ((), (), t13.2.2.2.1, t13.2.2.2.2.1, t13.2.2.2.2.2) else some (t13.1, ((), (), t13.2.2.2.1, t13.2.2.2.2.1, t13.2.2.2.2.2), w0_1))) = some r := H
  refine cs_cut (fun f S => ∃ (fR : Fr) (m0_2 : (Unit × Unit × Bool × Int × Bool)), f = upd fR 0 (.pointer (some ⟨pg0, 0, none⟩)) ∧ S = sput (sput s0 0 (some (Ck.var 42 pg0 (([Value.slice (some ⟨gl0_0, 0, none⟩) n0_0 c0_0] ++ ([Value.map (some r0_1)] ++ ([Value.bool m0_2.2.2.1] ++ ([Value.int .i64 m0_2.2.2.2.1] ++ [Value.bool m0_2.2.2.2.2])))))))) 1 (some (Ck.mr T56 r0_1 gl0_0 c0_0 n0_0 w0_1)) ∧ disk_Disk_Flush.jo2 k w0_1 m0_2 = some r) ?_ ?_
  · skip
    refine cs_seq ?_
    refine cs_region (l := [_, _, _]) ?_
    refine lv (.pointer (some ⟨pg0, 0, none⟩)) ?_
    obtain ⟨t13, hc14, H⟩ := bind_some H
    refine ls_callb (fid := 22) (vals := #[.pointer (some ⟨pg0, 0, none⟩)]) (X := Unit) (fun x => .int .i64 t13.1) (fun x => stl [Ck.var 42 pg0 (([Value.slice (some ⟨gl0_0, 0, none⟩) n0_0 c0_0] ++ ([Value.map (some r0_1)] ++ ([Value.bool t13.2.2.2.1] ++ ([Value.int .i64 t13.2.2.2.2.1] ++ [Value.bool t13.2.2.2.2.2]))))), Ck.mr T56 r0_1 gl0_0 c0_0 n0_0 w0_1]) [0, 1] [] [Ck.var 42 pg0 (([Value.slice (some ⟨gl0_0, 0, none⟩) n0_0 c0_0] ++ ([Value.map (some r0_1)] ++ ([Value.bool v0.2.2.1] ++ ([Value.int .i64 v0.2.2.2.1] ++ [Value.bool v0.2.2.2.2]))))), Ck.mr T56 r0_1 gl0_0 c0_0 n0_0 w0_1] [] 2 rfl rfl (by kernel_rfl) (fun w => by kernel_rfl) ⟨by exact rfl, by exact rfl, trivial⟩ trivial (by decide) (fun w hs hb => disk_Disk_spend.calls k pg0 gl0_0 n0_0 c0_0 r0_1 ((), (), v0.2.2.1, v0.2.2.2.1, v0.2.2.2.2) w0_1 t13 (lent b w [Ck.var 42 pg0 (([Value.slice (some ⟨gl0_0, 0, none⟩) n0_0 c0_0] ++ ([Value.map (some r0_1)] ++ ([Value.bool v0.2.2.1] ++ ([Value.int .i64 v0.2.2.2.1] ++ [Value.bool v0.2.2.2.2]))))), Ck.mr T56 r0_1 gl0_0 c0_0 n0_0 w0_1] []) hb  hc14) ?_
    intro x15
    refine lv (.int .i64 t13.1) ?_
    refine ls_end ?_
    refine qn_then ?_
    refine cs_seq ?_
    refine cs_region (l := [_, _]) ?_
    refine lv (.int .i64 t13.1) ?_
    refine lv (.bool (!decide (t13.1 = (0 : Int)))) ?_
    refine ls_end ?_
    refine qn_then ?_
    by_cases q16 : t13.1 = (0 : Int)
    · replace H := ite_t q16 H
      refine cs_know (c := false) (congrArg Bool.not (dec_t q16)) 11 (by kernel_rfl) ?_
      refine cs_false (by kernel_rfl) ?_
      refine cs_skip' ?_
      refine qn_meet (sput (sput s0 0 (some (Ck.var 42 pg0 (([Value.slice (some ⟨gl0_0, 0, none⟩) n0_0 c0_0] ++ ([Value.map (some r0_1)] ++ ([Value.bool t13.2.2.2.1] ++ ([Value.int .i64 t13.2.2.2.2.1] ++ [Value.bool t13.2.2.2.2.2])))))))) 1 (some (Ck.mr T56 r0_1 gl0_0 c0_0 n0_0 w0_1))) ⟨_, ((), (), t13.2.2.2.1, t13.2.2.2.2.1, t13.2.2.2.2.2), fr_next (rfl) (by kernel_rfl), rfl, H⟩ (sub_put (by exact rfl) (sub_put (by exact rfl) (sub_nil _)))
    replace H := ite_f q16 H
    refine cs_know (c := true) (congrArg Bool.not (dec_f q16)) 11 (by kernel_rfl) ?_
    refine cs_true (by kernel_rfl) ?_
    refine cs_seq ?_
    refine cs_region (l := [_, _]) ?_
    refine lv (.int .i64 t13.1) ?_
    refine lv (.int .i64 t13.1) ?_
    refine ls_end ?_
    refine qn_then ?_
    refine cs_ret' ?_
    refine qr_then ?_
    obtain rfl := Option.some.inj H
    refine qr_res (rs := [_]) rfl (fun w' hs => ⟨[.int .i64 t13.1], (res_tmp (by kernel_rfl) (.nil)), (), rfl, hs.pick (ts := [0, 1]) (cs := [Ck.var 42 pg0 (([Value.slice (some ⟨gl0_0, 0, none⟩) n0_0 c0_0] ++ ([Value.map (some r0_1)] ++ ([Value.bool t13.2.2.2.1] ++ ([Value.int .i64 t13.2.2.2.2.1] ++ [Value.bool t13.2.2.2.2.2]))))), Ck.mr T56 r0_1 gl0_0 c0_0 n0_0 w0_1]) ⟨by exact rfl, by exact rfl, trivial⟩ (by decide)⟩)
  rintro f S ⟨fr2, m0_2, rfl, rfl, H⟩
  replace H : (disk_Disk_Flush.lo3 m0_2 k w0_1) = some r := H
  refine cs_seq ?_
  refine cs_seq ?_
  refine cs_region (l := [_, _, _, _, _]) ?_
  refine lv (.pointer (some ⟨pg0, 0, none⟩)) ?_
  refine lv (.pointer (some ⟨pg0, 0, none⟩)) ?_
  refine lv (.pointer (some ⟨pg0, (0 + 1), none⟩)) ?_
  refine ls_load (a0 := ⟨pg0, (0 + 1), none⟩) (v := .map (some r0_1)) (de := (TypeDesc.map 3 56)) rfl rfl (by kernel_rfl) rfl (by kernel_rfl) (by kernel_rfl) (by kernel_rfl) (fun w hs => (hs.var (k := 0) (by exact rfl) (Sub4.trans (Sub4.all _) (Sub4.skip (n := 1) (len1 _) (Sub4.head _ _))))) ?_
  refine ls_mrrange (T := T56) (r := r0_1) (m := w0_1) (kt := 3) (et := 56) 1 rfl rfl (by kernel_rfl) rfl (by kernel_rfl) (by kernel_rfl) (by exact rfl) ?_
  intro g1
  refine ls_end ?_
  refine qn_then ?_
  refine cs_block ?_
  refine cs_sub (sput (sput s0 0 (some (Ck.var 42 pg0 (([Value.slice (some ⟨gl0_0, 0, none⟩) n0_0 c0_0] ++ ([Value.map (some r0_1)] ++ ([Value.bool m0_2.2.2.1] ++ ([Value.int .i64 m0_2.2.2.2.1] ++ [Value.bool m0_2.2.2.2.2])))))))) 1 (some (Ck.mri T56 r0_1 gl0_0 c0_0 n0_0 g1 none w0_1))) (sub_put (by exact rfl) (sub_put (by exact rfl) (sub_nil _))) ?_
  refine cs_loop (fun kk f S => ∃ (fR : Fr) (m1_3 : (List (Int × (Vc Int 512)) × List (Vc Int 512))), f = upd (upd fR 0 (.pointer (some ⟨pg0, 0, none⟩))) 17 (.pointer (some ⟨g1, 0, none⟩)) ∧ S = sput (sput s0 0 (some (Ck.var 42 pg0 (([Value.slice (some ⟨gl0_0, 0, none⟩) n0_0 c0_0] ++ ([Value.map (some r0_1)] ++ ([Value.bool m0_2.2.2.1] ++ ([Value.int .i64 m0_2.2.2.2.1] ++ [Value.bool m0_2.2.2.2.2])))))))) 1 (some (Ck.mri T56 r0_1 gl0_0 c0_0 n0_0 g1 none m1_3)) ∧ disk_Disk_Flush.lo3 m0_2 kk m1_3 = some r) k ?_ ?_ ?_
  · exact ⟨_, w0_1, fr_next (fr_next (rfl) (by kernel_rfl)) (by kernel_rfl), rfl, H⟩
  · rintro f S ⟨fr3, m1_3, rfl, rfl, H⟩; exact (mrlo_zero H).elim
  rintro k3 f S ⟨fr3, m1_3, rfl, rfl, H⟩
  replace H : (mrlo (fun mE7 => some ((0 : Int), ((), (), m0_2.2.2.1, m0_2.2.2.2.1, m0_2.2.2.2.2), mE7)) (k3 + 1) m1_3) = some r := H
  refine cs_seq ?_
  refine cs_region (l := [_, _]) ?_
  refine ls_mrnext (T := T56) (gi := g1) (m := m1_3) 1 rfl rfl (by kernel_rfl) rfl (by kernel_rfl) (by exact rfl) ?_ ?_
  · intro hnil2
    replace H := mrlo_end H hnil2
    generalize (([] : List (Int × (Vc Int 512))), m1_3.2) = mE7 at H ⊢
    replace H : (some ((0 : Int), ((), (), m0_2.2.2.1, m0_2.2.2.2.1, m0_2.2.2.2.2), mE7)) = some r := H
    refine lv (.bool false) ?_
    refine ls_end ?_
    refine qn_then ?_
    refine cs_seq ?_
    refine cs_false (by kernel_rfl) ?_
    refine cs_exit' ?_
    refine qx_then ?_
    refine qx_then ?_
    refine qx_same ?_
    refine qn_then ?_
    refine cs_seq ?_
    refine cs_region (l := [_]) ?_
    refine lv (.int .i64 (0 : Int)) ?_
    refine ls_end ?_
    refine qn_then ?_
    refine cs_ret' ?_
    obtain rfl := Option.some.inj H
    refine qr_res (rs := [_]) rfl (fun w' hs => ⟨[.int .i64 (0 : Int)], (res_tmp (by kernel_rfl) (.nil)), (), rfl, hs.pick (ts := [0, 1]) (cs := [Ck.var 42 pg0 (([Value.slice (some ⟨gl0_0, 0, none⟩) n0_0 c0_0] ++ ([Value.map (some r0_1)] ++ ([Value.bool m0_2.2.2.1] ++ ([Value.int .i64 m0_2.2.2.2.1] ++ [Value.bool m0_2.2.2.2.2]))))), Ck.mr T56 r0_1 gl0_0 c0_0 n0_0 mE7]) ⟨by exact rfl, by exact rfl, trivial⟩ (by decide)⟩)
  intro p3 hp4 hnd5
  have hin6 := mrlo_in H
  refine lv (.bool true) ?_
  refine ls_end ?_
  refine qn_then ?_
  refine cs_seq ?_
  refine cs_true (by kernel_rfl) ?_
  refine cs_skip' ?_
  refine qn_then ?_
  refine cs_block ?_
  refine cs_seq ?_
  refine cs_region (l := [_, _, _, _, _, _]) ?_
  refine ls_mrentry (T := T56) (gi := g1) (m := m1_3) (p := p3) 1 rfl rfl (by kernel_rfl) rfl (by kernel_rfl) (by exact rfl) ?_
  refine lv (.int .i64 p3.1) ?_
  refine lv (.agg ⟨en (Value.int .u8) p3.2.1⟩) ?_
  refine ls_new rfl rfl (by kernel_rfl) 2 (fun g => .pointer (some ⟨g, 0, none⟩)) (.cells ⟨en (Value.int .u8) (vrep 512 (0 : Int)).1⟩ 56) (fun w => by kernel_rfl) ?_
  intro g8
  refine lv (.int .i64 p3.1) ?_
  refine ls_storec (g := g8) (off := 0) (v := .agg ⟨en (Value.int .u8) p3.2.1⟩) (vs := en (Value.int .u8) p3.2.1) (cs := en (Value.int .u8) (vrep 512 (0 : Int)).1) (ty := 56) 2 rfl rfl rfl (by kernel_rfl) (by kernel_rfl) (by kernel_rfl) (by exact rfl) (by kernel_rfl) (len_en _ p3.2) (one_en (fun _ => rfl) _) (hl_of (Sub4.all _) (len_eq (len_en _ p3.2) (len_en _ (vrep 512 (0 : Int))))) (cs' := en (Value.int .u8) p3.2.1) (splc_all (len_eq (len_en _ p3.2) (len_en _ (vrep 512 (0 : Int))))) ?_
  refine ls_end ?_
  refine qn_then ?_
  refine cs_seq ?_
  obtain ⟨s10_0, hs10_0⟩ := exv (.pointer (some ⟨pg0, 0, none⟩))
  refine have_opa disk_Disk_Flush.tab8 3 0 (fun sp => sp 0 = s10_0) (fun sp on hA hon => ?_) (fun ops10_0 => ?_)
  · refine ⟨fun o ho vs Rs f' S' w hp hf hx hS hR hs => ?_⟩
    obtain rfl := Option.some.inj ho
    exact opv (.pointer (some ⟨pg0, 0, none⟩)) hA hs10_0 hon (fr_next (rfl) ((hx 0 (by kernel_rfl)).trans (by kernel_rfl : (_ : Value) = .pointer (some ⟨pg0, 0, none⟩))))
  obtain ⟨s10_1, hs10_1⟩ := exv (.pointer (some ⟨pg0, 0, none⟩))
  refine have_opa disk_Disk_Flush.tab8 3 1 (fun sp => sp 1 = s10_1 ∧ sp 0 = s10_0) (fun sp on hA hon => ?_) (fun ops10_1 => ?_)
  · refine ⟨fun o ho vs Rs f' S' w hp hf hx hS hR hs => ?_⟩
    obtain rfl := Option.some.inj ho
    obtain ⟨hv0, hR0⟩ := (spe hA.2 hs10_0 (hp 0 (by kernel_rfl)))
    exact opv (.pointer (some ⟨pg0, 0, none⟩)) hA.1 hs10_1 hon (fr_next (rfl) ((hf 0 23 (by kernel_rfl) rfl).trans hv0))
  obtain ⟨s10_2, hs10_2⟩ := exv (.pointer (some ⟨pg0, (0 + 0), none⟩))
  refine have_opa disk_Disk_Flush.tab8 3 2 (fun sp => sp 2 = s10_2 ∧ sp 1 = s10_1) (fun sp on hA hon => ?_) (fun ops10_2 => ?_)
  · refine ⟨fun o ho vs Rs f' S' w hp hf hx hS hR hs => ?_⟩
    obtain rfl := Option.some.inj ho
    obtain ⟨hv1, hR1⟩ := (spe hA.2 hs10_1 (hp 1 (by kernel_rfl)))
    exact opv (.pointer (some ⟨pg0, (0 + 0), none⟩)) hA.1 hs10_2 hon (fr_next (rfl) ((hf 1 24 (by kernel_rfl) rfl).trans hv1))
  obtain ⟨s10_3, hs10_3⟩ := exv (.slice (some ⟨gl0_0, 0, none⟩) n0_0 c0_0)
  refine have_opa disk_Disk_Flush.tab8 3 3 (fun sp => sp 3 = s10_3 ∧ sp 2 = s10_2) (fun sp on hA hon => ?_) (fun ops10_3 => ?_)
  · refine ⟨fun o ho vs Rs f' S' w hp hf hx hS hR hs => ?_⟩
    obtain rfl := Option.some.inj ho
    obtain ⟨hv2, hR2⟩ := (spe hA.2 hs10_2 (hp 2 (by kernel_rfl)))
    rw [hA.1, hs10_3]
    refine wn hon ?_
    have hF := fr_next (rfl) ((hf 2 25 (by kernel_rfl) rfl).trans hv2)
    refine ls_fr hF ?_
    refine ls_load (a0 := ⟨pg0, (0 + 0), none⟩) (v := .slice (some ⟨gl0_0, 0, none⟩) n0_0 c0_0) (de := (TypeDesc.slice 56)) rfl rfl (by kernel_rfl) rfl (by kernel_rfl) (by kernel_rfl) (by kernel_rfl) (fun w1 hs1 => cell_step hs1.below.bw (hs.var (k := 0) ((hS 0 (by kernel_rfl)).trans (by exact rfl)) (Sub4.trans (Sub4.all _) (Sub4.head _ _)))) ?_
    exact ls_fin s0 _ (congrArg (fun z => upd z 26 _) hF.symm) ⟨rfl, rfl⟩ (sub_nil _)
  obtain ⟨s10_4, hs10_4⟩ := exv (.int .i64 p3.1)
  refine have_opa disk_Disk_Flush.tab8 3 4 (fun sp => sp 4 = s10_4) (fun sp on hA hon => ?_) (fun ops10_4 => ?_)
  · refine ⟨fun o ho vs Rs f' S' w hp hf hx hS hR hs => ?_⟩
    obtain rfl := Option.some.inj ho
    exact opv (.int .i64 p3.1) hA hs10_4 hon (fr_next (rfl) ((hx 4 (by kernel_rfl)).trans (by kernel_rfl : (_ : Value) = .int .i64 p3.1)))
  obtain ⟨s10_5, hs10_5⟩ := exv (.agg ⟨en (Value.int .u8) p3.2.1⟩)
  refine have_opa disk_Disk_Flush.tab8 3 5 (fun sp => sp 5 = s10_5) (fun sp on hA hon => ?_) (fun ops10_5 => ?_)
  · refine ⟨fun o ho vs Rs f' S' w hp hf hx hS hR hs => ?_⟩
    obtain rfl := Option.some.inj ho
    rw [hA, hs10_5]
    refine wn hon ?_
    have hF := fr_next (rfl) ((hx 5 (by kernel_rfl)).trans (by kernel_rfl : (_ : Value) = .pointer (some ⟨g8, 0, none⟩)))
    refine ls_fr hF ?_
    refine ls_loadagg (a := ⟨g8, 0, none⟩) (sub := en (Value.int .u8) p3.2.1) rfl rfl (by kernel_rfl) rfl (by kernel_rfl) (by kernel_rfl) (by kernel_rfl) (len_en _ p3.2) (fun w1 hs1 => Rd.step (hs.vars (k := 2) ((hS 2 (by kernel_rfl)).trans (by exact rfl)) (Sub4.all _)) hs1.below.bw) ?_
    exact ls_fin s0 _ (congrArg (fun z => upd z 28 _) hF.symm) ⟨rfl, rfl⟩ (sub_nil _)
  refine cs_draw disk_Disk_Flush.tab8 6 3 (spl [s10_0, s10_1, s10_2, s10_3, s10_4, s10_5]) (onl [true, true, true, true, true, true]) (by kernel_rfl) (by kernel_rfl) (by kernel_rfl) (by kernel_rfl) (rs := [_, _]) rfl (by kernel_rfl) (by kernel_rfl) (all_snoc (all_snoc (all_snoc (all_snoc (all_snoc (all_snoc (all_nil) (ops10_0 _ _ rfl rfl)) (ops10_1 _ _ ⟨rfl, rfl⟩ rfl)) (ops10_2 _ _ ⟨rfl, rfl⟩ rfl)) (ops10_3 _ _ ⟨rfl, rfl⟩ rfl)) (ops10_4 _ _ rfl rfl)) (ops10_5 _ _ rfl rfl)) ?_
  intro vs Rs f' S' hp hf hx hS hR
  obtain ⟨hv3, hR3⟩ := (spe rfl hs10_3 (hp 3 (by kernel_rfl)))
  obtain ⟨hv4, hR4⟩ := (spe rfl hs10_4 (hp 4 (by kernel_rfl)))
  obtain ⟨hv5, hR5⟩ := (spe rfl hs10_5 (hp 5 (by kernel_rfl)))
  refine ls_fr (F := upd (upd (upd (upd (upd (upd f' 0 (.pointer (some ⟨pg0, 0, none⟩))) 4 (.int .i64 p3.1)) 17 (.pointer (some ⟨g1, 0, none⟩))) 26 (.slice (some ⟨gl0_0, 0, none⟩) n0_0 c0_0)) 27 (.int .i64 p3.1)) 28 (.agg ⟨en (Value.int .u8) p3.2.1⟩)) (fr_next (fr_next (fr_next (fr_next (fr_next (fr_next (rfl) ((hx 0 (by kernel_rfl)).trans (by kernel_rfl : (_ : Value) = .pointer (some ⟨pg0, 0, none⟩)))) ((hx 4 (by kernel_rfl)).trans (by kernel_rfl : (_ : Value) = .int .i64 p3.1))) ((hx 17 (by kernel_rfl)).trans (by kernel_rfl : (_ : Value) = .pointer (some ⟨g1, 0, none⟩)))) ((hf 3 26 (by kernel_rfl) rfl).trans hv3)) ((hf 4 27 (by kernel_rfl) rfl).trans hv4)) ((hf 5 28 (by kernel_rfl) rfl).trans hv5)) ?_
  refine ls_sub (sput (sput s0 0 (some (Ck.var 42 pg0 (([Value.slice (some ⟨gl0_0, 0, none⟩) n0_0 c0_0] ++ ([Value.map (some r0_1)] ++ ([Value.bool m0_2.2.2.1] ++ ([Value.int .i64 m0_2.2.2.2.1] ++ [Value.bool m0_2.2.2.2.2])))))))) 1 (some (Ck.mri T56 r0_1 gl0_0 c0_0 n0_0 g1 (some p3) m1_3))) (sub_put ((hS 1 (by kernel_rfl)).trans (by exact rfl)) (sub_put ((hS 0 (by kernel_rfl)).trans (by exact rfl)) (sub_nil _))) ?_
  refine ls_mrin 1 (by exact rfl) (fun hn12 => ?_)
  refine ls_ren 26 (v := .slice (some ⟨gl0_0, 0, none⟩) n0_0 c0_0) (v' := .slice (some ⟨gl0_0, 0, none⟩) m1_3.2.length c0_0) (by kernel_rfl) (by rw [hn12]) ?_
  refine ls_idxv T56 (A := (some ⟨gl0_0, 0, none⟩)) (c := c0_0) (l := m1_3.2) (k := .i64) (i := p3.1) (z := 512) (ad := (⟨gl0_0, 0, none⟩ : Addr)) rfl rfl (by kernel_rfl) rfl rfl (by kernel_rfl) (by kernel_rfl) (by kernel_rfl) (by kernel_rfl) (hin6 p3 hp4).1 (hin6 p3 hp4).2 ?_
  refine ls_mristore (T := T56) (m := m1_3) (off := ((p3.1).toNat * 512)) (v := .agg ⟨en (Value.int .u8) p3.2.1⟩) (vs := en (Value.int .u8) p3.2.1) (l' := (m1_3.2.set (p3.1).toNat p3.2)) 1 rfl rfl rfl (by kernel_rfl) (by kernel_rfl) (by kernel_rfl) (by exact rfl) (by kernel_rfl) (len_en _ p3.2) (one_en (fun _ => rfl) _) (hl_of (em_sub T56 m1_3.2 (i := (p3.1).toNat) (by have h0 : (0 : Int) ≤ p3.1 := (hin6 p3 hp4).1; have h1 : p3.1 < (m1_3.2.length : Int) := (hin6 p3 hp4).2; omega)) (len_eq (len_en _ p3.2) (len_en _ ((m1_3.2).getD (p3.1).toNat (vrep 512 (0 : Int)))))) (splc_em T56 m1_3.2 p3.2 (i := (p3.1).toNat) (by have h0 : (0 : Int) ≤ p3.1 := (hin6 p3 hp4).1; have h1 : p3.1 < (m1_3.2.length : Int) := (hin6 p3 hp4).2; omega)) (by rw [List.length_set]) ?_
  refine ls_end ?_
  refine qn_then ?_
  refine cs_region (l := [_, _, _, _, _, _]) ?_
  refine lv (.pointer (some ⟨pg0, 0, none⟩)) ?_
  refine lv (.pointer (some ⟨pg0, 0, none⟩)) ?_
  refine lv (.pointer (some ⟨pg0, (0 + 1), none⟩)) ?_
  refine ls_load (a0 := ⟨pg0, (0 + 1), none⟩) (v := .map (some r0_1)) (de := (TypeDesc.map 3 56)) rfl rfl (by kernel_rfl) rfl (by kernel_rfl) (by kernel_rfl) (by kernel_rfl) (fun w hs => (hs.var (k := 0) (by exact rfl) (Sub4.trans (Sub4.all _) (Sub4.skip (n := 1) (len1 _) (Sub4.head _ _))))) ?_
  refine lv (.int .i64 p3.1) ?_
  refine ls_mridel (T := T56) (m := (m1_3.1, (m1_3.2.set (p3.1).toNat p3.2))) (p := p3) (kt := 3) (et := 56) 1 rfl rfl rfl (by kernel_rfl) (by kernel_rfl) (by kernel_rfl) (by kernel_rfl) (by exact rfl) ?_
  replace H := mrlo_step H hp4 hnd5
  refine ls_end ?_
  refine qn_block ?_
  refine qn_again k3 (sput (sput s0 0 (some (Ck.var 42 pg0 (([Value.slice (some ⟨gl0_0, 0, none⟩) n0_0 c0_0] ++ ([Value.map (some r0_1)] ++ ([Value.bool m0_2.2.2.1] ++ ([Value.int .i64 m0_2.2.2.2.1] ++ [Value.bool m0_2.2.2.2.2])))))))) 1 (some (Ck.mri T56 r0_1 gl0_0 c0_0 n0_0 g1 none (mdel p3.1 m1_3.1, (m1_3.2.set (p3.1).toNat p3.2))))) (Nat.le_refl _) ⟨_, (mdel p3.1 m1_3.1, (m1_3.2.set (p3.1).toNat p3.2)), fr_next (fr_next (rfl) (by kernel_rfl)) (by kernel_rfl), rfl, H⟩ (sub_put (by exact rfl) (sub_put (by exact rfl) (sub_nil _)))

/-! ### (*shadowbox/disk.Disk).Read: function 15 -/
def disk_Disk_Read.f (k : Nat) (v0 : (Unit × Unit × Bool × Int × Bool)) (w0_1 : (List (Int × (Vc Int 512)) × List (Vc Int 512))) (a1 : Int) : Option ((List Int) × Int) :=
  (disk_Disk_check.f k ((), (), v0.2.2.1, v0.2.2.2.1, v0.2.2.2.2) w0_1 a1).bind fun t1 => (if t1 = (0 : Int) then (if (mget a1 w0_1.1).isSome = true then some (((mget a1 w0_1.1).getD (vrep 512 (0 : Int))).1, (0 : Int)) else (if 0 ≤ a1 then (if a1 < (w0_1.2.length : Int) then some (((w0_1.2).getD (a1).toNat (vrep 512 (0 : Int))).1, (0 : Int)) else none) else none)) else some (([] : List Int), t1))
set_option maxRecDepth 100000 in
set_option maxHeartbeats 4000000 in
theorem disk_Disk_Read.calls (k : Nat) (pg0 : Nat) (gl0_0 : Nat) (n0_0 : Nat) (c0_0 : Nat) (r0_1 : Nat) (v0 : (Unit × Unit × Bool × Int × Bool)) (w0_1 : (List (Int × (Vc Int 512)) × List (Vc Int 512))) (a1 : Int) (r : (List Int) × Int) (b : Bs) (hs0 : St b (stl [Ck.var 42 pg0 (([Value.slice (some ⟨gl0_0, 0, none⟩) n0_0 c0_0] ++ ([Value.map (some r0_1)] ++ ([Value.bool v0.2.2.1] ++ ([Value.int .i64 v0.2.2.2.1] ++ [Value.bool v0.2.2.2.2]))))), Ck.mr T56 r0_1 gl0_0 c0_0 n0_0 w0_1]) b.w) (H : disk_Disk_Read.f k v0 w0_1 a1 = some r) :
    Calls Try.prog 15 #[.pointer (some ⟨pg0, 0, none⟩), .int .i64 a1] b.w fun e w' => ∃ x : (Option Addr × Nat), e = .returned (.tuple #[.slice x.1 r.1.length x.2, .int .i64 r.2]) ∧ St b (stl [Ck.var 42 pg0 (([Value.slice (some ⟨gl0_0, 0, none⟩) n0_0 c0_0] ++ ([Value.map (some r0_1)] ++ ([Value.bool v0.2.2.1] ++ ([Value.int .i64 v0.2.2.2.1] ++ [Value.bool v0.2.2.2.2]))))), Ck.mr T56 r0_1 gl0_0 c0_0 n0_0 w0_1, Ck.ro (Ec.int 5 .u8) x.1 x.2 r.1]) w' := by
  unfold disk_Disk_Read.f at H
  refine enterb (n := 34) Try.func15 rfl (by kernel_rfl) (by kernel_rfl) hs0 ?_
  refine cs_sub (sput (sput s0 0 (some (Ck.var 42 pg0 (([Value.slice (some ⟨gl0_0, 0, none⟩) n0_0 c0_0] ++ ([Value.map (some r0_1)] ++ ([Value.bool v0.2.2.1] ++ ([Value.int .i64 v0.2.2.2.1] ++ [Value.bool v0.2.2.2.2])))))))) 1 (some (Ck.mr T56 r0_1 gl0_0 c0_0 n0_0 w0_1))) (sub_put (by exact rfl) (sub_put (by exact rfl) (sub_nil _))) ?_
  refine cs_seq ?_
  refine cs_region (l := [_, _]) ?_
  refine lv (.slice none 0 0) ?_
  refine lv (.int .i64 (0 : Int)) ?_
  refine ls_end ?_
  refine qn_then ?_
  refine cs_seq ?_
  refine cs_seq ?_
  refine cs_region (l := [_, _, _, _]) ?_
  refine lv (.pointer (some ⟨pg0, 0, none⟩)) ?_
  refine lv (.int .i64 a1) ?_
  obtain ⟨t1, hc2, H⟩ := bind_some H
  refine ls_callb (fid := 28) (vals := #[.pointer (some ⟨pg0, 0, none⟩), .int .i64 a1]) (X := Unit) (fun x => .int .i64 t1) (fun x => stl [Ck.var 42 pg0 (([Value.slice (some ⟨gl0_0, 0, none⟩) n0_0 c0_0] ++ ([Value.map (some r0_1)] ++ ([Value.bool v0.2.2.1] ++ ([Value.int .i64 v0.2.2.2.1] ++ [Value.bool v0.2.2.2.2]))))), Ck.mr T56 r0_1 gl0_0 c0_0 n0_0 w0_1]) [0, 1] [] [Ck.var 42 pg0 (([Value.slice (some ⟨gl0_0, 0, none⟩) n0_0 c0_0] ++ ([Value.map (some r0_1)] ++ ([Value.bool v0.2.2.1] ++ ([Value.int .i64 v0.2.2.2.1] ++ [Value.bool v0.2.2.2.2]))))), Ck.mr T56 r0_1 gl0_0 c0_0 n0_0 w0_1] [] 2 rfl rfl (by kernel_rfl) (fun w => by kernel_rfl) ⟨by exact rfl, by exact rfl, trivial⟩ trivial (by decide) (fun w hs hb => disk_Disk_check.calls k pg0 gl0_0 n0_0 c0_0 r0_1 ((), (), v0.2.2.1, v0.2.2.2.1, v0.2.2.2.2) w0_1 a1 t1 (lent b w [Ck.var 42 pg0 (([Value.slice (some ⟨gl0_0, 0, none⟩) n0_0 c0_0] ++ ([Value.map (some r0_1)] ++ ([Value.bool v0.2.2.1] ++ ([Value.int .i64 v0.2.2.2.1] ++ [Value.bool v0.2.2.2.2]))))), Ck.mr T56 r0_1 gl0_0 c0_0 n0_0 w0_1] []) hb  hc2) ?_
  intro x3
  refine lv (.int .i64 t1) ?_
  refine ls_end ?_
  refine qn_then ?_
  refine cs_seq ?_
  refine cs_region (l := [_, _]) ?_
  refine lv (.int .i64 t1) ?_
  refine lv (.bool (!decide (t1 = (0 : Int)))) ?_
  refine ls_end ?_
  refine qn_then ?_
  by_cases q4 : t1 = (0 : Int)
  · replace H := ite_t q4 H
    refine cs_know (c := false) (congrArg Bool.not (dec_t q4)) 13 (by kernel_rfl) ?_
    refine cs_false (by kernel_rfl) ?_
    refine cs_skip' ?_
    refine qn_then ?_
    refine cs_seq ?_
    refine cs_region (l := [_, _, _, _, _, _, _, _, _, _, _, _]) ?_
    refine lv (.pointer (some ⟨pg0, 0, none⟩)) ?_
    refine lv (.pointer (some ⟨pg0, 0, none⟩)) ?_
    refine lv (.pointer (some ⟨pg0, (0 + 1), none⟩)) ?_
    refine ls_load (a0 := ⟨pg0, (0 + 1), none⟩) (v := .map (some r0_1)) (de := (TypeDesc.map 3 56)) rfl rfl (by kernel_rfl) rfl (by kernel_rfl) (by kernel_rfl) (by kernel_rfl) (fun w hs => (hs.var (k := 0) (by exact rfl) (Sub4.trans (Sub4.all _) (Sub4.skip (n := 1) (len1 _) (Sub4.head _ _))))) ?_
    refine lv (.int .i64 a1) ?_
    refine ls_mrlook (T := T56) (r := r0_1) (m := w0_1) (kt := 3) (et := 56) (i := a1) 1 rfl rfl (by kernel_rfl) rfl (by kernel_rfl) (by kernel_rfl) (by kernel_rfl) (by kernel_rfl) (by kernel_rfl) (by exact rfl) ?_
    refine lv (.tuple #[.agg ⟨en (Value.int .u8) ((mget a1 w0_1.1).getD (vrep 512 (0 : Int))).1⟩, .bool ((mget a1 w0_1.1).isSome)]) ?_
    refine lv (.agg ⟨en (Value.int .u8) ((mget a1 w0_1.1).getD (vrep 512 (0 : Int))).1⟩) ?_
    refine lv (.bool ((mget a1 w0_1.1).isSome)) ?_
    refine ls_new rfl rfl (by kernel_rfl) 2 (fun g => .pointer (some ⟨g, 0, none⟩)) (.cells ⟨en (Value.int .u8) (vrep 512 (0 : Int)).1⟩ 56) (fun w => by kernel_rfl) ?_
    intro g5
    refine ls_storec (g := g5) (off := 0) (v := .agg ⟨en (Value.int .u8) ((mget a1 w0_1.1).getD (vrep 512 (0 : Int))).1⟩) (vs := en (Value.int .u8) ((mget a1 w0_1.1).getD (vrep 512 (0 : Int))).1) (cs := en (Value.int .u8) (vrep 512 (0 : Int)).1) (ty := 56) 2 rfl rfl rfl (by kernel_rfl) (by kernel_rfl) (by kernel_rfl) (by exact rfl) (by kernel_rfl) (len_en _ ((mget a1 w0_1.1).getD (vrep 512 (0 : Int)))) (one_en (fun _ => rfl) _) (hl_of (Sub4.all _) (len_eq (len_en _ ((mget a1 w0_1.1).getD (vrep 512 (0 : Int)))) (len_en _ (vrep 512 (0 : Int))))) (cs' := en (Value.int .u8) ((mget a1 w0_1.1).getD (vrep 512 (0 : Int))).1) (splc_all (len_eq (len_en _ ((mget a1 w0_1.1).getD (vrep 512 (0 : Int)))) (len_en _ (vrep 512 (0 : Int))))) ?_
    refine lv (.bool ((mget a1 w0_1.1).isSome)) ?_
    refine ls_end ?_
    refine qn_then ?_
    refine cs_seq ?_
    refine cs_seq ?_
    refine cs_region (l := [_, _]) ?_
    refine lv (.bool ((mget a1 w0_1.1).isSome)) ?_
    refine lv (.bool (!((mget a1 w0_1.1).isSome))) ?_
    refine ls_end ?_
    refine qn_then ?_
    by_cases q6 : (mget a1 w0_1.1).isSome = true
    · replace H := ite_t q6 H
      refine cs_know (c := false) (congrArg Bool.not (q6)) 25 (by kernel_rfl) ?_
      refine cs_false (by kernel_rfl) ?_
      refine cs_skip' ?_
      refine qn_then ?_
      refine cs_seq ?_
      refine cs_region (l := [_, _, _]) ?_
      refine ls_val (v := .slice (some ⟨g5, 0, none⟩) ((mget a1 w0_1.1).getD (vrep 512 (0 : Int))).1.length 512) rfl rfl (by kernel_rfl) (fun w => by rw [show ((mget a1 w0_1.1).getD (vrep 512 (0 : Int))).1.length = 512 from ((mget a1 w0_1.1).getD (vrep 512 (0 : Int))).2]; kernel_rfl) ?_
      refine lv (.slice (some ⟨g5, 0, none⟩) ((mget a1 w0_1.1).getD (vrep 512 (0 : Int))).1.length 512) ?_
      refine lv (.int .i64 (0 : Int)) ?_
      refine ls_end ?_
      refine qn_then ?_
      refine cs_ret' ?_
      refine qr_torov (Ec.int 5 .u8) (((mget a1 w0_1.1).getD (vrep 512 (0 : Int))).1) 512 2 3 (by exact rfl) (by rw [em_int]; exact (Sub4.all _)) (Nat.le_of_eq ((mget a1 w0_1.1).getD (vrep 512 (0 : Int))).2) ?_
      obtain rfl := Option.some.inj H
      refine qr_res (rs := [_, _]) rfl (fun w' hs => ⟨[.slice (some ⟨g5, 0, none⟩) ((mget a1 w0_1.1).getD (vrep 512 (0 : Int))).1.length 512, .int .i64 (0 : Int)], (res_tmp (by kernel_rfl) (res_tmp (by kernel_rfl) (.nil))), ((some ⟨g5, 0, none⟩), 512), rfl, hs.pick (ts := [0, 1, 3]) (cs := [Ck.var 42 pg0 (([Value.slice (some ⟨gl0_0, 0, none⟩) n0_0 c0_0] ++ ([Value.map (some r0_1)] ++ ([Value.bool v0.2.2.1] ++ ([Value.int .i64 v0.2.2.2.1] ++ [Value.bool v0.2.2.2.2]))))), Ck.mr T56 r0_1 gl0_0 c0_0 n0_0 w0_1, Ck.ro (Ec.int 5 .u8) (some ⟨g5, 0, none⟩) 512 (((mget a1 w0_1.1).getD (vrep 512 (0 : Int))).1)]) ⟨by exact rfl, by exact rfl, by exact rfl, trivial⟩ (by decide)⟩)
    replace H := ite_f q6 H
    refine cs_know (c := true) (congrArg Bool.not (Bool.eq_false_iff.mpr q6)) 25 (by kernel_rfl) ?_
    refine cs_true (by kernel_rfl) ?_
    refine cs_region (l := [_, _, _, _, _, _, _, _]) ?_
    refine lv (.pointer (some ⟨pg0, 0, none⟩)) ?_
    refine lv (.pointer (some ⟨pg0, 0, none⟩)) ?_
    refine lv (.pointer (some ⟨pg0, (0 + 0), none⟩)) ?_
    refine ls_mrn 1 (by exact rfl) (fun hn7 => ?_)
    refine ls_load (a0 := ⟨pg0, (0 + 0), none⟩) (v := .slice (some ⟨gl0_0, 0, none⟩) n0_0 c0_0) (de := (TypeDesc.slice 56)) rfl rfl (by kernel_rfl) rfl (by kernel_rfl) (by kernel_rfl) (by kernel_rfl) (fun w hs => (hs.var (k := 0) (by exact rfl) (Sub4.trans (Sub4.all _) (Sub4.head _ _)))) ?_
    refine ls_ren 29 (v := .slice (some ⟨gl0_0, 0, none⟩) n0_0 c0_0) (v' := .slice (some ⟨gl0_0, 0, none⟩) w0_1.2.length c0_0) (by kernel_rfl) (by rw [hn7]) ?_
    refine lv (.int .i64 a1) ?_
    obtain ⟨q8, H⟩ := ite_need H
    obtain ⟨q9, H⟩ := ite_need H
    refine ls_idxv T56 (A := (some ⟨gl0_0, 0, none⟩)) (c := c0_0) (l := w0_1.2) (k := .i64) (i := a1) (z := 512) (ad := (⟨gl0_0, 0, none⟩ : Addr)) rfl rfl (by kernel_rfl) rfl rfl (by kernel_rfl) (by kernel_rfl) (by kernel_rfl) (by kernel_rfl) q8 q9 ?_
    refine ls_loadagg (a := ((⟨gl0_0, 0, none⟩ : Addr).add ((a1).toNat * 512))) (sub := en (Value.int .u8) ((w0_1.2).getD (a1).toNat (vrep 512 (0 : Int))).1) rfl rfl (by kernel_rfl) rfl (by kernel_rfl) (by kernel_rfl) (by kernel_rfl) (len_en _ ((w0_1.2).getD (a1).toNat (vrep 512 (0 : Int)))) (fun w hs => (hs.mrrd (k := 1) (by exact rfl)).part rfl (em_sub T56 w0_1.2 (i := (a1).toNat) (by have h0 : (0 : Int) ≤ a1 := q8; have h1 : a1 < (w0_1.2.length : Int) := q9; omega))) ?_
    refine ls_storec (g := g5) (off := 0) (v := .agg ⟨en (Value.int .u8) ((w0_1.2).getD (a1).toNat (vrep 512 (0 : Int))).1⟩) (vs := en (Value.int .u8) ((w0_1.2).getD (a1).toNat (vrep 512 (0 : Int))).1) (cs := en (Value.int .u8) ((mget a1 w0_1.1).getD (vrep 512 (0 : Int))).1) (ty := 56) 2 rfl rfl rfl (by kernel_rfl) (by kernel_rfl) (by kernel_rfl) (by exact rfl) (by kernel_rfl) (len_en _ ((w0_1.2).getD (a1).toNat (vrep 512 (0 : Int)))) (one_en (fun _ => rfl) _) (hl_of (Sub4.all _) (len_eq (len_en _ ((w0_1.2).getD (a1).toNat (vrep 512 (0 : Int)))) (len_en _ ((mget a1 w0_1.1).getD (vrep 512 (0 : Int)))))) (cs' := en (Value.int .u8) ((w0_1.2).getD (a1).toNat (vrep 512 (0 : Int))).1) (splc_all (len_eq (len_en _ ((w0_1.2).getD (a1).toNat (vrep 512 (0 : Int)))) (len_en _ ((mget a1 w0_1.1).getD (vrep 512 (0 : Int)))))) ?_
    refine ls_end ?_
    refine qn_then ?_
    refine cs_seq ?_
    refine cs_region (l := [_, _, _]) ?_
    refine ls_val (v := .slice (some ⟨g5, 0, none⟩) ((w0_1.2).getD (a1).toNat (vrep 512 (0 : Int))).1.length 512) rfl rfl (by kernel_rfl) (fun w => by rw [show ((w0_1.2).getD (a1).toNat (vrep 512 (0 : Int))).1.length = 512 from ((w0_1.2).getD (a1).toNat (vrep 512 (0 : Int))).2]; kernel_rfl) ?_
    refine lv (.slice (some ⟨g5, 0, none⟩) ((w0_1.2).getD (a1).toNat (vrep 512 (0 : Int))).1.length 512) ?_
    refine lv (.int .i64 (0 : Int)) ?_
    refine ls_end ?_
    refine qn_then ?_
    refine cs_ret' ?_
    refine qr_torov (Ec.int 5 .u8) (((w0_1.2).getD (a1).toNat (vrep 512 (0 : Int))).1) 512 2 3 (by exact rfl) (by rw [em_int]; exact (Sub4.all _)) (Nat.le_of_eq ((w0_1.2).getD (a1).toNat (vrep 512 (0 : Int))).2) ?_
    obtain rfl := Option.some.inj H
    refine qr_res (rs := [_, _]) rfl (fun w' hs => ⟨[.slice (some ⟨g5, 0, none⟩) ((w0_1.2).getD (a1).toNat (vrep 512 (0 : Int))).1.length 512, .int .i64 (0 : Int)], (res_tmp (by kernel_rfl) (res_tmp (by kernel_rfl) (.nil))), ((some ⟨g5, 0, none⟩), 512), rfl, hs.pick (ts := [0, 1, 3]) (cs := [Ck.var 42 pg0 (([Value.slice (some ⟨gl0_0, 0, none⟩) n0_0 c0_0] ++ ([Value.map (some r0_1)] ++ ([Value.bool v0.2.2.1] ++ ([Value.int .i64 v0.2.2.2.1] ++ [Value.bool v0.2.2.2.2]))))), Ck.mr T56 r0_1 gl0_0 c0_0 n0_0 w0_1, Ck.ro (Ec.int 5 .u8) (some ⟨g5, 0, none⟩) 512 (((w0_1.2).getD (a1).toNat (vrep 512 (0 : Int))).1)]) ⟨by exact rfl, by exact rfl, by exact rfl, trivial⟩ (by decide)⟩)
  replace H := ite_f q4 H
  refine cs_know (c := true) (congrArg Bool.not (dec_f q4)) 13 (by kernel_rfl) ?_
  refine cs_true (by kernel_rfl) ?_
  refine cs_seq ?_
  refine cs_region (l := [_, _, _]) ?_
  refine lv (.int .i64 t1) ?_
  refine lv (.slice none 0 0) ?_
  refine lv (.int .i64 t1) ?_
  refine ls_end ?_
  refine qn_then ?_
  refine cs_ret' ?_
  refine qr_then ?_
  refine qr_nilro 2 (Ec.int 5 .u8) ?_
  obtain rfl := Option.some.inj H
  refine qr_res (rs := [_, _]) rfl (fun w' hs => ⟨[.slice none 0 0, .int .i64 t1], (res_tmp (by kernel_rfl) (res_tmp (by kernel_rfl) (.nil))), (none, 0), rfl, hs.pick (ts := [0, 1, 2]) (cs := [Ck.var 42 pg0 (([Value.slice (some ⟨gl0_0, 0, none⟩) n0_0 c0_0] ++ ([Value.map (some r0_1)] ++ ([Value.bool v0.2.2.1] ++ ([Value.int .i64 v0.2.2.2.1] ++ [Value.bool v0.2.2.2.2]))))), Ck.mr T56 r0_1 gl0_0 c0_0 n0_0 w0_1, Ck.ro (Ec.int 5 .u8) none 0 ([] : List Int)]) ⟨by exact rfl, by exact rfl, by exact rfl, trivial⟩ (by decide)⟩)

/-! ### shadowbox/pointer.Check: function 23 -/
def pointer_Check.tab5 : List (List Nat) := [[], [0], [], [2], [0, 1, 2, 3], [0, 1, 2, 3, 4], [0, 1, 2, 3, 4, 5], [0, 1, 2, 3, 4, 5], [0, 1, 2, 3, 4, 5, 7], [0, 1, 2, 3, 4, 5], [0, 1, 2, 3, 4, 5, 9], [0, 1, 2, 3, 4, 5], [0, 1, 2, 3, 4, 5, 7, 8, 9, 10, 11], [0, 1, 2, 3, 4, 5, 6, 7, 8, 9, 10, 11, 12], [0, 1, 2, 3, 4, 5, 6, 7, 8, 9, 10, 11, 12, 13], [0, 1, 2, 3, 4, 5, 6, 7, 8, 9, 10, 11, 12, 13, 14]]
def pointer_Check.f (k : Nat) (a0 : (Int × Int × Int × Int × (Vc Int 32))) (l1 : List Int) : Option (Int) :=
  (pointer_Right.f k a0).bind fun t2 => (if t2 = true then (if (l1.length : Int) = a0.2.2.1 then (pointer_Of.f k a0.1 a0.2.1 l1).bind fun t9 => (if ((a0.1 == t9.1) && ((a0.2.1 == t9.2.1) && ((a0.2.2.1 == t9.2.2.1) && ((a0.2.2.2.1 == t9.2.2.2.1) && (a0.2.2.2.2.1 == t9.2.2.2.2.1))))) = true then some (0 : Int) else some (12 : Int)) else some (12 : Int)) else some (2 : Int))
set_option maxRecDepth 100000 in
set_option maxHeartbeats 4000000 in
theorem pointer_Check.calls (k : Nat) (a0 : (Int × Int × Int × Int × (Vc Int 32))) (A1 : Option Addr) (c1 : Nat) (l1 : List Int) (r : Int) (b : Bs) (hs0 : St b (stl []) b.w) (R1 : Ro b A1 (em (Ec.int 5 .u8) l1)) (C1 : l1.length ≤ c1) (H : pointer_Check.f k a0 l1 = some r) :
    Calls Try.prog 23 #[.agg ⟨([Value.int .i64 a0.1] ++ ([Value.int .i64 a0.2.1] ++ ([Value.int .i64 a0.2.2.1] ++ ([Value.int .u32 a0.2.2.2.1] ++ en (Value.int .u8) a0.2.2.2.2.1))))⟩, .slice A1 l1.length c1] b.w fun e w' => ∃ x : Unit, e = .returned (.int .i64 r) ∧ St b (stl []) w' := by
  unfold pointer_Check.f at H
  refine enterb (n := 25) Try.func23 rfl (by kernel_rfl) (by kernel_rfl) hs0 ?_
  refine cs_sub (s0) (sub_nil _) ?_
  refine cs_seq ?_
  refine cs_region (l := [_, _]) ?_
  refine ls_new rfl rfl (by kernel_rfl) 0 (fun g => .pointer (some ⟨g, 0, none⟩)) (.cells ⟨([Value.int .i64 a0.1] ++ ([Value.int .i64 a0.2.1] ++ ([Value.int .i64 a0.2.2.1] ++ ([Value.int .u32 a0.2.2.2.1] ++ en (Value.int .u8) a0.2.2.2.2.1))))⟩ 30) (fun w => by kernel_rfl) ?_
  intro g1
  refine lv (.int .i64 (0 : Int)) ?_
  refine ls_end ?_
  refine qn_then ?_
  refine cs_seq ?_
  refine cs_block ?_
  refine cs_seq ?_
  refine cs_region (l := [_, _, _, _]) ?_
  refine ls_loadagg (a := ⟨g1, 0, none⟩) (sub := ([Value.int .i64 a0.1] ++ ([Value.int .i64 a0.2.1] ++ ([Value.int .i64 a0.2.2.1] ++ ([Value.int .u32 a0.2.2.2.1] ++ en (Value.int .u8) a0.2.2.2.2.1))))) rfl rfl (by kernel_rfl) rfl (by kernel_rfl) (by kernel_rfl) (by kernel_rfl) (len_app (len1 _) (len_app (len1 _) (len_app (len1 _) (len_app (len1 _) (len_en _ a0.2.2.2.2))))) (fun w hs => (hs.vars (k := 0) (by exact rfl) (Sub4.all _))) ?_
  obtain ⟨t2, hc3, H⟩ := bind_some H
  refine ls_callb (fid := 29) (vals := #[.agg ⟨([Value.int .i64 a0.1] ++ ([Value.int .i64 a0.2.1] ++ ([Value.int .i64 a0.2.2.1] ++ ([Value.int .u32 a0.2.2.2.1] ++ en (Value.int .u8) a0.2.2.2.2.1))))⟩]) (X := Unit) (fun x => .bool t2) (fun x => stl []) [] [] [] [] 1 rfl rfl (by kernel_rfl) (fun w => by kernel_rfl) trivial trivial (by decide) (fun w hs hb => pointer_Right.calls k a0 t2 (lent b w [] []) hb  hc3) ?_
  intro x4
  refine lv (.bool (!t2)) ?_
  refine lv (.bool (!t2)) ?_
  refine ls_end ?_
  refine qn_then ?_
  by_cases q5 : t2 = true
  · replace H := ite_t q5 H
    refine cs_know (c := false) (congrArg Bool.not (q5)) 5 (by kernel_rfl) ?_
    refine cs_false (by kernel_rfl) ?_
    refine cs_seq ?_
    obtain ⟨s7_0, hs7_0⟩ := exv (.slice A1 l1.length c1)
    refine have_opa pointer_Check.tab5 1 0 (fun sp => sp 0 = s7_0) (fun sp on hA hon => ?_) (fun ops7_0 => ?_)
    · refine ⟨fun o ho vs Rs f' S' w hp hf hx hS hR hs => ?_⟩
      obtain rfl := Option.some.inj ho
      exact opv (.slice A1 l1.length c1) hA hs7_0 hon (fr_next (rfl) ((hx 1 (by kernel_rfl)).trans (by kernel_rfl : (_ : Value) = .slice A1 l1.length c1)))
    obtain ⟨s7_1, hs7_1⟩ := exv (.int .i64 (l1.length : Int))
    refine have_opa pointer_Check.tab5 1 1 (fun sp => sp 1 = s7_1 ∧ sp 0 = s7_0) (fun sp on hA hon => ?_) (fun ops7_1 => ?_)
    · refine ⟨fun o ho vs Rs f' S' w hp hf hx hS hR hs => ?_⟩
      obtain rfl := Option.some.inj ho
      obtain ⟨hv0, hR0⟩ := (spe hA.2 hs7_0 (hp 0 (by kernel_rfl)))
      exact opv (.int .i64 (l1.length : Int)) hA.1 hs7_1 hon (fr_next (rfl) ((hf 0 10 (by kernel_rfl) rfl).trans hv0))
    obtain ⟨s7_2, hs7_2⟩ := exv (.pointer (some ⟨g1, (0 + 2), none⟩))
    refine have_opa pointer_Check.tab5 1 2 (fun sp => sp 2 = s7_2) (fun sp on hA hon => ?_) (fun ops7_2 => ?_)
    · refine ⟨fun o ho vs Rs f' S' w hp hf hx hS hR hs => ?_⟩
      obtain rfl := Option.some.inj ho
      exact opv (.pointer (some ⟨g1, (0 + 2), none⟩)) hA hs7_2 hon (fr_next (rfl) ((hx 2 (by kernel_rfl)).trans (by kernel_rfl : (_ : Value) = .pointer (some ⟨g1, 0, none⟩))))
    obtain ⟨s7_3, hs7_3⟩ := exv (.int .i64 a0.2.2.1)
    refine have_opa pointer_Check.tab5 1 3 (fun sp => sp 3 = s7_3 ∧ sp 2 = s7_2) (fun sp on hA hon => ?_) (fun ops7_3 => ?_)
    · refine ⟨fun o ho vs Rs f' S' w hp hf hx hS hR hs => ?_⟩
      obtain rfl := Option.some.inj ho
      obtain ⟨hv2, hR2⟩ := (spe hA.2 hs7_2 (hp 2 (by kernel_rfl)))
      rw [hA.1, hs7_3]
      refine wn hon ?_
      have hF := fr_next (rfl) ((hf 2 12 (by kernel_rfl) rfl).trans hv2)
      refine ls_fr hF ?_
      refine ls_load (a0 := ⟨g1, (0 + 2), none⟩) (v := .int .i64 a0.2.2.1) (de := (TypeDesc.int .i64)) rfl rfl (by kernel_rfl) rfl (by kernel_rfl) (by kernel_rfl) (by kernel_rfl) (fun w1 hs1 => cell_step hs1.below.bw (hs.var (k := 0) ((hS 0 (by kernel_rfl)).trans (by exact rfl)) (Sub4.trans (Sub4.all _) (Sub4.skip (n := 1) (len1 _) (Sub4.skip (n := 1) (len1 _) (Sub4.head _ _)))))) ?_
      exact ls_fin s0 _ (congrArg (fun z => upd z 13 _) hF.symm) ⟨rfl, rfl⟩ (sub_nil _)
    obtain ⟨s7_4, hs7_4⟩ := exv (.bool (!decide ((l1.length : Int) = a0.2.2.1)))
    refine have_opa pointer_Check.tab5 1 4 (fun sp => sp 4 = s7_4 ∧ sp 1 = s7_1 ∧ sp 3 = s7_3) (fun sp on hA hon => ?_) (fun ops7_4 => ?_)
    · refine ⟨fun o ho vs Rs f' S' w hp hf hx hS hR hs => ?_⟩
      obtain rfl := Option.some.inj ho
      obtain ⟨hv1, hR1⟩ := (spe hA.2.1 hs7_1 (hp 1 (by kernel_rfl)))
      obtain ⟨hv3, hR3⟩ := (spe hA.2.2 hs7_3 (hp 3 (by kernel_rfl)))
      exact opv (.bool (!decide ((l1.length : Int) = a0.2.2.1))) hA.1 hs7_4 hon (fr_next (fr_next (rfl) ((hf 1 11 (by kernel_rfl) rfl).trans hv1)) ((hf 3 13 (by kernel_rfl) rfl).trans hv3))
    obtain ⟨s7_5, hs7_5⟩ := exv (.bool (!decide ((l1.length : Int) = a0.2.2.1)))
    refine have_opa pointer_Check.tab5 1 5 (fun sp => sp 5 = s7_5 ∧ sp 4 = s7_4) (fun sp on hA hon => ?_) (fun ops7_5 => ?_)
    · refine ⟨fun o ho vs Rs f' S' w hp hf hx hS hR hs => ?_⟩
      obtain rfl := Option.some.inj ho
      obtain ⟨hv4, hR4⟩ := (spe hA.2 hs7_4 (hp 4 (by kernel_rfl)))
      exact opv (.bool (!decide ((l1.length : Int) = a0.2.2.1))) hA.1 hs7_5 hon (fr_next (rfl) ((hf 4 14 (by kernel_rfl) rfl).trans hv4))
    by_cases q8 : (l1.length : Int) = a0.2.2.1
    · replace H := ite_t q8 H
      obtain ⟨s7_6, hs7_6⟩ := exv (.agg ⟨([Value.int .i64 a0.1] ++ ([Value.int .i64 a0.2.1] ++ ([Value.int .i64 a0.2.2.1] ++ ([Value.int .u32 a0.2.2.2.1] ++ en (Value.int .u8) a0.2.2.2.2.1))))⟩)
      refine have_opa pointer_Check.tab5 1 6 (fun sp => sp 6 = s7_6 ∧ sp 5 = s7_5) (fun sp on hA hon => ?_) (fun ops7_6 => ?_)
      · refine ⟨fun o ho vs Rs f' S' w hp hf hx hS hR hs => ?_⟩
        obtain rfl := Option.some.inj ho
        obtain ⟨hv5, hR5⟩ := (spe hA.2 hs7_5 (hp 5 (by kernel_rfl)))
        rw [hA.1, hs7_6]
        refine And.intro (fun a ha => (want_is (j := 5) (t := 15) (r := true) rfl rfl (by kernel_rfl) (((hf 5 15 (by kernel_rfl) rfl).trans hv5).trans (congrArg Value.bool (show (!decide ((l1.length : Int) = a0.2.2.1)) = false from congrArg Bool.not (dec_t q8)))) rfl a ha).trans hon.symm) (And.intro (fun _ => ?_) (fun h => by rw [hon] at h; cases h))
        have hF := fr_next (fr_next (rfl) ((hx 2 (by kernel_rfl)).trans (by kernel_rfl : (_ : Value) = .pointer (some ⟨g1, 0, none⟩)))) (((hf 5 15 (by kernel_rfl) rfl).trans hv5).trans (congrArg Value.bool (show (!decide ((l1.length : Int) = a0.2.2.1)) = false from congrArg Bool.not (dec_t q8))))
        refine ls_fr hF ?_
        refine ls_loadagg (a := ⟨g1, 0, none⟩) (sub := ([Value.int .i64 a0.1] ++ ([Value.int .i64 a0.2.1] ++ ([Value.int .i64 a0.2.2.1] ++ ([Value.int .u32 a0.2.2.2.1] ++ en (Value.int .u8) a0.2.2.2.2.1))))) rfl rfl (by kernel_rfl) rfl (by kernel_rfl) (by kernel_rfl) (by kernel_rfl) (len_app (len1 _) (len_app (len1 _) (len_app (len1 _) (len_app (len1 _) (len_en _ a0.2.2.2.2))))) (fun w1 hs1 => Rd.step (hs.vars (k := 0) ((hS 0 (by kernel_rfl)).trans (by exact rfl)) (Sub4.all _)) hs1.below.bw) ?_
        exact ls_fin s0 _ (congrArg (fun z => upd z 16 _) hF.symm) ⟨rfl, rfl⟩ (sub_nil _)
      obtain ⟨s7_7, hs7_7⟩ := exv (.pointer (some ⟨g1, (0 + 0), none⟩))
      refine have_opa pointer_Check.tab5 1 7 (fun sp => sp 7 = s7_7 ∧ sp 5 = s7_5) (fun sp on hA hon => ?_) (fun ops7_7 => ?_)
      · refine ⟨fun o ho vs Rs f' S' w hp hf hx hS hR hs => ?_⟩
        obtain rfl := Option.some.inj ho
        obtain ⟨hv5, hR5⟩ := (spe hA.2 hs7_5 (hp 5 (by kernel_rfl)))
        rw [hA.1, hs7_7]
        refine And.intro (fun a ha => (want_is (j := 5) (t := 15) (r := true) rfl rfl (by kernel_rfl) (((hf 5 15 (by kernel_rfl) rfl).trans hv5).trans (congrArg Value.bool (show (!decide ((l1.length : Int) = a0.2.2.1)) = false from congrArg Bool.not (dec_t q8)))) rfl a ha).trans hon.symm) (And.intro (fun _ => ?_) (fun h => by rw [hon] at h; cases h))
        have hF := fr_next (fr_next (rfl) ((hx 2 (by kernel_rfl)).trans (by kernel_rfl : (_ : Value) = .pointer (some ⟨g1, 0, none⟩)))) (((hf 5 15 (by kernel_rfl) rfl).trans hv5).trans (congrArg Value.bool (show (!decide ((l1.length : Int) = a0.2.2.1)) = false from congrArg Bool.not (dec_t q8))))
        refine ls_fr hF ?_
        refine lv (.pointer (some ⟨g1, (0 + 0), none⟩)) ?_
        exact ls_fin s0 _ (congrArg (fun z => upd z 17 _) hF.symm) ⟨rfl, rfl⟩ (sub_nil _)
      obtain ⟨s7_8, hs7_8⟩ := exv (.int .i64 a0.1)
      refine have_opa pointer_Check.tab5 1 8 (fun sp => sp 8 = s7_8 ∧ sp 5 = s7_5 ∧ sp 7 = s7_7) (fun sp on hA hon => ?_) (fun ops7_8 => ?_)
      · refine ⟨fun o ho vs Rs f' S' w hp hf hx hS hR hs => ?_⟩
        obtain rfl := Option.some.inj ho
        obtain ⟨hv5, hR5⟩ := (spe hA.2.1 hs7_5 (hp 5 (by kernel_rfl)))
        obtain ⟨hv7, hR7⟩ := (spe hA.2.2 hs7_7 (hp 7 (by kernel_rfl)))
        rw [hA.1, hs7_8]
        refine And.intro (fun a ha => (want_is (j := 5) (t := 15) (r := true) rfl rfl (by kernel_rfl) (((hf 5 15 (by kernel_rfl) rfl).trans hv5).trans (congrArg Value.bool (show (!decide ((l1.length : Int) = a0.2.2.1)) = false from congrArg Bool.not (dec_t q8)))) rfl a ha).trans hon.symm) (And.intro (fun _ => ?_) (fun h => by rw [hon] at h; cases h))
        have hF := fr_next (fr_next (rfl) (((hf 5 15 (by kernel_rfl) rfl).trans hv5).trans (congrArg Value.bool (show (!decide ((l1.length : Int) = a0.2.2.1)) = false from congrArg Bool.not (dec_t q8))))) ((hf 7 17 (by kernel_rfl) rfl).trans hv7)
        refine ls_fr hF ?_
        refine ls_load (a0 := ⟨g1, (0 + 0), none⟩) (v := .int .i64 a0.1) (de := (TypeDesc.int .i64)) rfl rfl (by kernel_rfl) rfl (by kernel_rfl) (by kernel_rfl) (by kernel_rfl) (fun w1 hs1 => cell_step hs1.below.bw (hs.var (k := 0) ((hS 0 (by kernel_rfl)).trans (by exact rfl)) (Sub4.trans (Sub4.all _) (Sub4.head _ _)))) ?_
        exact ls_fin s0 _ (congrArg (fun z => upd z 18 _) hF.symm) ⟨rfl, rfl⟩ (sub_nil _)
      obtain ⟨s7_9, hs7_9⟩ := exv (.pointer (some ⟨g1, (0 + 1), none⟩))
      refine have_opa pointer_Check.tab5 1 9 (fun sp => sp 9 = s7_9 ∧ sp 5 = s7_5) (fun sp on hA hon => ?_) (fun ops7_9 => ?_)
      · refine ⟨fun o ho vs Rs f' S' w hp hf hx hS hR hs => ?_⟩
        obtain rfl := Option.some.inj ho
        obtain ⟨hv5, hR5⟩ := (spe hA.2 hs7_5 (hp 5 (by kernel_rfl)))
        rw [hA.1, hs7_9]
        refine And.intro (fun a ha => (want_is (j := 5) (t := 15) (r := true) rfl rfl (by kernel_rfl) (((hf 5 15 (by kernel_rfl) rfl).trans hv5).trans (congrArg Value.bool (show (!decide ((l1.length : Int) = a0.2.2.1)) = false from congrArg Bool.not (dec_t q8)))) rfl a ha).trans hon.symm) (And.intro (fun _ => ?_) (fun h => by rw [hon] at h; cases h))
        have hF := fr_next (fr_next (rfl) ((hx 2 (by kernel_rfl)).trans (by kernel_rfl : (_ : Value) = .pointer (some ⟨g1, 0, none⟩)))) (((hf 5 15 (by kernel_rfl) rfl).trans hv5).trans (congrArg Value.bool (show (!decide ((l1.length : Int) = a0.2.2.1)) = false from congrArg Bool.not (dec_t q8))))
        refine ls_fr hF ?_
        refine lv (.pointer (some ⟨g1, (0 + 1), none⟩)) ?_
        exact ls_fin s0 _ (congrArg (fun z => upd z 19 _) hF.symm) ⟨rfl, rfl⟩ (sub_nil _)
      obtain ⟨s7_10, hs7_10⟩ := exv (.int .i64 a0.2.1)
      refine have_opa pointer_Check.tab5 1 10 (fun sp => sp 10 = s7_10 ∧ sp 5 = s7_5 ∧ sp 9 = s7_9) (fun sp on hA hon => ?_) (fun ops7_10 => ?_)
      · refine ⟨fun o ho vs Rs f' S' w hp hf hx hS hR hs => ?_⟩
        obtain rfl := Option.some.inj ho
        obtain ⟨hv5, hR5⟩ := (spe hA.2.1 hs7_5 (hp 5 (by kernel_rfl)))
        obtain ⟨hv9, hR9⟩ := (spe hA.2.2 hs7_9 (hp 9 (by kernel_rfl)))
        rw [hA.1, hs7_10]
        refine And.intro (fun a ha => (want_is (j := 5) (t := 15) (r := true) rfl rfl (by kernel_rfl) (((hf 5 15 (by kernel_rfl) rfl).trans hv5).trans (congrArg Value.bool (show (!decide ((l1.length : Int) = a0.2.2.1)) = false from congrArg Bool.not (dec_t q8)))) rfl a ha).trans hon.symm) (And.intro (fun _ => ?_) (fun h => by rw [hon] at h; cases h))
        have hF := fr_next (fr_next (rfl) (((hf 5 15 (by kernel_rfl) rfl).trans hv5).trans (congrArg Value.bool (show (!decide ((l1.length : Int) = a0.2.2.1)) = false from congrArg Bool.not (dec_t q8))))) ((hf 9 19 (by kernel_rfl) rfl).trans hv9)
        refine ls_fr hF ?_
        refine ls_load (a0 := ⟨g1, (0 + 1), none⟩) (v := .int .i64 a0.2.1) (de := (TypeDesc.int .i64)) rfl rfl (by kernel_rfl) rfl (by kernel_rfl) (by kernel_rfl) (by kernel_rfl) (fun w1 hs1 => cell_step hs1.below.bw (hs.var (k := 0) ((hS 0 (by kernel_rfl)).trans (by exact rfl)) (Sub4.trans (Sub4.all _) (Sub4.skip (n := 1) (len1 _) (Sub4.head _ _))))) ?_
        exact ls_fin s0 _ (congrArg (fun z => upd z 20 _) hF.symm) ⟨rfl, rfl⟩ (sub_nil _)
      obtain ⟨s7_11, hs7_11⟩ := exv (.slice A1 l1.length c1)
      refine have_opa pointer_Check.tab5 1 11 (fun sp => sp 11 = s7_11 ∧ sp 5 = s7_5) (fun sp on hA hon => ?_) (fun ops7_11 => ?_)
      · refine ⟨fun o ho vs Rs f' S' w hp hf hx hS hR hs => ?_⟩
        obtain rfl := Option.some.inj ho
        obtain ⟨hv5, hR5⟩ := (spe hA.2 hs7_5 (hp 5 (by kernel_rfl)))
        rw [hA.1, hs7_11]
        refine And.intro (fun a ha => (want_is (j := 5) (t := 15) (r := true) rfl rfl (by kernel_rfl) (((hf 5 15 (by kernel_rfl) rfl).trans hv5).trans (congrArg Value.bool (show (!decide ((l1.length : Int) = a0.2.2.1)) = false from congrArg Bool.not (dec_t q8)))) rfl a ha).trans hon.symm) (And.intro (fun _ => ?_) (fun h => by rw [hon] at h; cases h))
        have hF := fr_next (fr_next (rfl) ((hx 1 (by kernel_rfl)).trans (by kernel_rfl : (_ : Value) = .slice A1 l1.length c1))) (((hf 5 15 (by kernel_rfl) rfl).trans hv5).trans (congrArg Value.bool (show (!decide ((l1.length : Int) = a0.2.2.1)) = false from congrArg Bool.not (dec_t q8))))
        refine ls_fr hF ?_
        refine lv (.slice A1 l1.length c1) ?_
        exact ls_fin s0 _ (congrArg (fun z => upd z 21 _) hF.symm) ⟨rfl, rfl⟩ (sub_nil _)
      obtain ⟨t9, hc10, H⟩ := bind_some H
      obtain ⟨s7_12, hs7_12⟩ : ∃ z : Value → Sto → Prop, z = (fun v R => ∃ x11 : Unit, v = .agg ⟨([Value.int .i64 t9.1] ++ ([Value.int .i64 t9.2.1] ++ ([Value.int .i64 t9.2.2.1] ++ ([Value.int .u32 t9.2.2.2.1] ++ en (Value.int .u8) t9.2.2.2.2.1))))⟩ ∧ R = stl []) := ⟨_, rfl⟩
      refine have_opa pointer_Check.tab5 1 12 (fun sp => sp 12 = s7_12 ∧ sp 5 = s7_5 ∧ sp 8 = s7_8 ∧ sp 10 = s7_10 ∧ sp 11 = s7_11) (fun sp on hA hon => ?_) (fun ops7_12 => ?_)
      · refine ⟨fun o ho vs Rs f' S' w hp hf hx hS hR hs => ?_⟩
        obtain rfl := Option.some.inj ho
        obtain ⟨hv5, hR5⟩ := (spe hA.2.1 hs7_5 (hp 5 (by kernel_rfl)))
        obtain ⟨hv8, hR8⟩ := (spe hA.2.2.1 hs7_8 (hp 8 (by kernel_rfl)))
        obtain ⟨hv10, hR10⟩ := (spe hA.2.2.2.1 hs7_10 (hp 10 (by kernel_rfl)))
        obtain ⟨hv11, hR11⟩ := (spe hA.2.2.2.2 hs7_11 (hp 11 (by kernel_rfl)))
        rw [hA.1, hs7_12]
        refine And.intro (fun a ha => (want_is (j := 5) (t := 15) (r := true) rfl rfl (by kernel_rfl) (((hf 5 15 (by kernel_rfl) rfl).trans hv5).trans (congrArg Value.bool (show (!decide ((l1.length : Int) = a0.2.2.1)) = false from congrArg Bool.not (dec_t q8)))) rfl a ha).trans hon.symm) (And.intro (fun _ => ?_) (fun h => by rw [hon] at h; cases h))
        have hF := fr_next (fr_next (fr_next (fr_next (rfl) (((hf 5 15 (by kernel_rfl) rfl).trans hv5).trans (congrArg Value.bool (show (!decide ((l1.length : Int) = a0.2.2.1)) = false from congrArg Bool.not (dec_t q8))))) ((hf 8 18 (by kernel_rfl) rfl).trans hv8)) ((hf 10 20 (by kernel_rfl) rfl).trans hv10)) ((hf 11 21 (by kernel_rfl) rfl).trans hv11)
        refine ls_fr hF ?_
        refine ls_call (fid := 20) (vals := #[.int .i64 a0.1, .int .i64 a0.2.1, .slice A1 l1.length c1]) (X := Unit) (fun x => .agg ⟨([Value.int .i64 t9.1] ++ ([Value.int .i64 t9.2.1] ++ ([Value.int .i64 t9.2.2.1] ++ ([Value.int .u32 t9.2.2.2.1] ++ en (Value.int .u8) t9.2.2.2.2.1))))⟩) (fun x => stl []) 0 rfl rfl (by kernel_rfl) (fun w => by kernel_rfl) (fun w1 hs1 => pointer_Of.calls k a0.1 a0.2.1 A1 c1 l1 t9 (bw w1) (St.refl w1) (Rd.ro (Rd.step (hs.old R1) hs1.below.bw)) C1 hc10) ?_
        intro x11
        exact ls_fin (stl []) (.agg ⟨([Value.int .i64 t9.1] ++ ([Value.int .i64 t9.2.1] ++ ([Value.int .i64 t9.2.2.1] ++ ([Value.int .u32 t9.2.2.2.1] ++ en (Value.int .u8) t9.2.2.2.2.1))))⟩) (congrArg (fun z => upd z 22 _) hF.symm) ⟨x11, rfl, rfl⟩ (sub_join _)
      refine cs_draw pointer_Check.tab5 13 1 (spl [s7_0, s7_1, s7_2, s7_3, s7_4, s7_5, s7_6, s7_7, s7_8, s7_9, s7_10, s7_11, s7_12]) (onl [true, true, true, true, true, true, true, true, true, true, true, true, true]) (by kernel_rfl) (by kernel_rfl) (by kernel_rfl) (by kernel_rfl) (rs := [_, _, _]) rfl (by kernel_rfl) (by kernel_rfl) (all_snoc (all_snoc (all_snoc (all_snoc (all_snoc (all_snoc (all_snoc (all_snoc (all_snoc (all_snoc (all_snoc (all_snoc (all_snoc (all_nil) (ops7_0 _ _ rfl rfl)) (ops7_1 _ _ ⟨rfl, rfl⟩ rfl)) (ops7_2 _ _ rfl rfl)) (ops7_3 _ _ ⟨rfl, rfl⟩ rfl)) (ops7_4 _ _ ⟨rfl, rfl, rfl⟩ rfl)) (ops7_5 _ _ ⟨rfl, rfl⟩ rfl)) (ops7_6 _ _ ⟨rfl, rfl⟩ rfl)) (ops7_7 _ _ ⟨rfl, rfl⟩ rfl)) (ops7_8 _ _ ⟨rfl, rfl, rfl⟩ rfl)) (ops7_9 _ _ ⟨rfl, rfl⟩ rfl)) (ops7_10 _ _ ⟨rfl, rfl, rfl⟩ rfl)) (ops7_11 _ _ ⟨rfl, rfl⟩ rfl)) (ops7_12 _ _ ⟨rfl, rfl, rfl, rfl, rfl⟩ rfl)) ?_
      intro vs Rs f' S' hp hf hx hS hR
      obtain ⟨hv5, hR5⟩ := (spe rfl hs7_5 (hp 5 (by kernel_rfl)))
      obtain ⟨hv6, hR6⟩ := (spe rfl hs7_6 (hp 6 (by kernel_rfl)))
      obtain ⟨x11, hv12, hR12⟩ := (spe rfl hs7_12 (hp 12 (by kernel_rfl)))
      refine ls_fr (F := upd (upd (upd f' 15 (.bool (!decide ((l1.length : Int) = a0.2.2.1)))) 16 (.agg ⟨([Value.int .i64 a0.1] ++ ([Value.int .i64 a0.2.1] ++ ([Value.int .i64 a0.2.2.1] ++ ([Value.int .u32 a0.2.2.2.1] ++ en (Value.int .u8) a0.2.2.2.2.1))))⟩)) 22 (.agg ⟨([Value.int .i64 t9.1] ++ ([Value.int .i64 t9.2.1] ++ ([Value.int .i64 t9.2.2.1] ++ ([Value.int .u32 t9.2.2.2.1] ++ en (Value.int .u8) t9.2.2.2.2.1))))⟩)) (fr_next (fr_next (fr_next (rfl) ((hf 5 15 (by kernel_rfl) rfl).trans hv5)) ((hf 6 16 (by kernel_rfl) rfl).trans hv6)) ((hf 12 22 (by kernel_rfl) rfl).trans hv12)) ?_
      refine ls_sub (s0) (sub_nil _) ?_
      refine ls_know (c := false) (congrArg Bool.not (dec_t q8)) 15 (by kernel_rfl) ?_
      refine ls_on (j := 5) (t := 15) (b := false) rfl rfl (by kernel_rfl) (by kernel_rfl) ?_
      refine ls_neq (xs := ([Value.int .i64 a0.1] ++ ([Value.int .i64 a0.2.1] ++ ([Value.int .i64 a0.2.2.1] ++ ([Value.int .u32 a0.2.2.2.1] ++ en (Value.int .u8) a0.2.2.2.2.1))))) (ys := ([Value.int .i64 t9.1] ++ ([Value.int .i64 t9.2.1] ++ ([Value.int .i64 t9.2.2.1] ++ ([Value.int .u32 t9.2.2.2.1] ++ en (Value.int .u8) t9.2.2.2.2.1))))) (r := ((a0.1 == t9.1) && ((a0.2.1 == t9.2.1) && ((a0.2.2.1 == t9.2.2.1) && ((a0.2.2.2.1 == t9.2.2.2.1) && (a0.2.2.2.2.1 == t9.2.2.2.2.1)))))) rfl rfl (by kernel_rfl) rfl (by kernel_rfl) (by kernel_rfl) (by kernel_rfl) (eq_st (by kernel_rfl) (by kernel_rfl) (eqf_cons (ft := 3) (fo := 0) (by kernel_rfl) (part_one (by kernel_rfl) (Sub4.trans (Sub4.all _) (Sub4.head _ _))) (part_one (by kernel_rfl) (Sub4.trans (Sub4.all _) (Sub4.head _ _))) (eq_int (by kernel_rfl) _ _ _) (eqf_cons (ft := 3) (fo := 1) (by kernel_rfl) (part_one (by kernel_rfl) (Sub4.trans (Sub4.all _) (Sub4.skip (n := 1) (len1 _) (Sub4.head _ _)))) (part_one (by kernel_rfl) (Sub4.trans (Sub4.all _) (Sub4.skip (n := 1) (len1 _) (Sub4.head _ _)))) (eq_int (by kernel_rfl) _ _ _) (eqf_cons (ft := 3) (fo := 2) (by kernel_rfl) (part_one (by kernel_rfl) (Sub4.trans (Sub4.all _) (Sub4.skip (n := 1) (len1 _) (Sub4.skip (n := 1) (len1 _) (Sub4.head _ _))))) (part_one (by kernel_rfl) (Sub4.trans (Sub4.all _) (Sub4.skip (n := 1) (len1 _) (Sub4.skip (n := 1) (len1 _) (Sub4.head _ _))))) (eq_int (by kernel_rfl) _ _ _) (eqf_cons (ft := 23) (fo := 3) (by kernel_rfl) (part_one (by kernel_rfl) (Sub4.trans (Sub4.all _) (Sub4.skip (n := 1) (len1 _) (Sub4.skip (n := 1) (len1 _) (Sub4.skip (n := 1) (len1 _) (Sub4.head _ _)))))) (part_one (by kernel_rfl) (Sub4.trans (Sub4.all _) (Sub4.skip (n := 1) (len1 _) (Sub4.skip (n := 1) (len1 _) (Sub4.skip (n := 1) (len1 _) (Sub4.head _ _)))))) (eq_int (by kernel_rfl) _ _ _) (eqf_last (ft := 28) (fo := 4) (by kernel_rfl) (part_agg (by kernel_rfl) (by kernel_rfl) (len_en _ a0.2.2.2.2) (Sub4.trans (Sub4.all _) (Sub4.skip (n := 1) (len1 _) (Sub4.skip (n := 1) (len1 _) (Sub4.skip (n := 1) (len1 _) (Sub4.skip (n := 1) (len1 _) (Sub4.all _))))))) (part_agg (by kernel_rfl) (by kernel_rfl) (len_en _ t9.2.2.2.2) (Sub4.trans (Sub4.all _) (Sub4.skip (n := 1) (len1 _) (Sub4.skip (n := 1) (len1 _) (Sub4.skip (n := 1) (len1 _) (Sub4.skip (n := 1) (len1 _) (Sub4.all _))))))) (eq_ints (e := 5) (ln := 32) (by kernel_rfl) (by kernel_rfl) (by kernel_rfl) a0.2.2.2.2.2 t9.2.2.2.2.2 _) (by kernel_rfl))))))) ?_
      refine lv (.bool (!((a0.1 == t9.1) && ((a0.2.1 == t9.2.1) && ((a0.2.2.1 == t9.2.2.1) && ((a0.2.2.2.1 == t9.2.2.2.1) && (a0.2.2.2.2.1 == t9.2.2.2.2.1))))))) ?_
      refine lv (.bool (!((a0.1 == t9.1) && ((a0.2.1 == t9.2.1) && ((a0.2.2.1 == t9.2.2.1) && ((a0.2.2.2.1 == t9.2.2.2.1) && (a0.2.2.2.2.1 == t9.2.2.2.2.1))))))) ?_
      refine ls_end ?_
      refine qn_then ?_
      by_cases q12 : ((a0.1 == t9.1) && ((a0.2.1 == t9.2.1) && ((a0.2.2.1 == t9.2.2.1) && ((a0.2.2.2.1 == t9.2.2.2.1) && (a0.2.2.2.2.1 == t9.2.2.2.2.1))))) = true
      · replace H := ite_t q12 H
        refine cs_know (c := false) (congrArg Bool.not (q12)) 9 (by kernel_rfl) ?_
        refine cs_false (by kernel_rfl) ?_
        refine cs_skip' ?_
        refine qn_block ?_
        refine qn_then ?_
        refine cs_seq ?_
        refine cs_region (l := [_]) ?_
        refine lv (.int .i64 (0 : Int)) ?_
        refine ls_end ?_
        refine qn_then ?_
        refine cs_ret' ?_
        obtain rfl := Option.some.inj H
        refine qr_res (rs := [_]) rfl (fun w' hs => ⟨[.int .i64 (0 : Int)], (res_tmp (by kernel_rfl) (.nil)), (), rfl, hs.pick (ts := []) (cs := []) trivial (by decide)⟩)
      replace H := ite_f q12 H
      refine cs_know (c := true) (congrArg Bool.not (Bool.eq_false_iff.mpr q12)) 9 (by kernel_rfl) ?_
      refine cs_true (by kernel_rfl) ?_
      refine cs_seq ?_
      refine cs_region (l := [_]) ?_
      refine lv (.int .i64 (12 : Int)) ?_
      refine ls_end ?_
      refine qn_then ?_
      refine cs_ret' ?_
      refine qr_block ?_
      refine qr_then ?_
      obtain rfl := Option.some.inj H
      refine qr_res (rs := [_]) rfl (fun w' hs => ⟨[.int .i64 (12 : Int)], (res_tmp (by kernel_rfl) (.nil)), (), rfl, hs.pick (ts := []) (cs := []) trivial (by decide)⟩)
    replace H := ite_f q8 H
    refine cs_draw pointer_Check.tab5 13 1 (spl [s7_0, s7_1, s7_2, s7_3, s7_4, s7_5, spu, spu, spu, spu, spu, spu, spu]) (onl [true, true, true, true, true, true, false, false, false, false, false, false, false]) (by kernel_rfl) (by kernel_rfl) (by kernel_rfl) (by kernel_rfl) (rs := [_, _, _]) rfl (by kernel_rfl) (by kernel_rfl) (all_snoc (all_snoc (all_snoc (all_snoc (all_snoc (all_snoc (all_snoc (all_snoc (all_snoc (all_snoc (all_snoc (all_snoc (all_snoc (all_nil) (ops7_0 _ _ rfl rfl)) (ops7_1 _ _ ⟨rfl, rfl⟩ rfl)) (ops7_2 _ _ rfl rfl)) (ops7_3 _ _ ⟨rfl, rfl⟩ rfl)) (ops7_4 _ _ ⟨rfl, rfl, rfl⟩ rfl)) (ops7_5 _ _ ⟨rfl, rfl⟩ rfl)) (op_offi 6 5 15 false rfl rfl (by kernel_rfl) (by kernel_rfl) rfl (fun v R h => by rw [hs7_5] at h; obtain ⟨h, _⟩ := h; exact h.trans (congrArg Value.bool (show (!decide ((l1.length : Int) = a0.2.2.1)) = true from congrArg Bool.not (dec_f q8)))) rfl rfl)) (op_offi 7 5 15 false rfl rfl (by kernel_rfl) (by kernel_rfl) rfl (fun v R h => by rw [hs7_5] at h; obtain ⟨h, _⟩ := h; exact h.trans (congrArg Value.bool (show (!decide ((l1.length : Int) = a0.2.2.1)) = true from congrArg Bool.not (dec_f q8)))) rfl rfl)) (op_offi 8 5 15 false rfl rfl (by kernel_rfl) (by kernel_rfl) rfl (fun v R h => by rw [hs7_5] at h; obtain ⟨h, _⟩ := h; exact h.trans (congrArg Value.bool (show (!decide ((l1.length : Int) = a0.2.2.1)) = true from congrArg Bool.not (dec_f q8)))) rfl rfl)) (op_offi 9 5 15 false rfl rfl (by kernel_rfl) (by kernel_rfl) rfl (fun v R h => by rw [hs7_5] at h; obtain ⟨h, _⟩ := h; exact h.trans (congrArg Value.bool (show (!decide ((l1.length : Int) = a0.2.2.1)) = true from congrArg Bool.not (dec_f q8)))) rfl rfl)) (op_offi 10 5 15 false rfl rfl (by kernel_rfl) (by kernel_rfl) rfl (fun v R h => by rw [hs7_5] at h; obtain ⟨h, _⟩ := h; exact h.trans (congrArg Value.bool (show (!decide ((l1.length : Int) = a0.2.2.1)) = true from congrArg Bool.not (dec_f q8)))) rfl rfl)) (op_offi 11 5 15 false rfl rfl (by kernel_rfl) (by kernel_rfl) rfl (fun v R h => by rw [hs7_5] at h; obtain ⟨h, _⟩ := h; exact h.trans (congrArg Value.bool (show (!decide ((l1.length : Int) = a0.2.2.1)) = true from congrArg Bool.not (dec_f q8)))) rfl rfl)) (op_offi 12 5 15 false rfl rfl (by kernel_rfl) (by kernel_rfl) rfl (fun v R h => by rw [hs7_5] at h; obtain ⟨h, _⟩ := h; exact h.trans (congrArg Value.bool (show (!decide ((l1.length : Int) = a0.2.2.1)) = true from congrArg Bool.not (dec_f q8)))) rfl rfl)) ?_
    intro vs Rs f' S' hp hf hx hS hR
    obtain ⟨hv5, hR5⟩ := (spe rfl hs7_5 (hp 5 (by kernel_rfl)))
    obtain ⟨hv6, hR6⟩ := (spe rfl rfl (hp 6 (by kernel_rfl)) : spu _ _)
    obtain ⟨hv12, hR12⟩ := (spe rfl rfl (hp 12 (by kernel_rfl)) : spu _ _)
    refine ls_fr (F := upd f' 15 (.bool (!decide ((l1.length : Int) = a0.2.2.1)))) (fr_next (rfl) ((hf 5 15 (by kernel_rfl) rfl).trans hv5)) ?_
    refine ls_sub (s0) (sub_nil _) ?_
    refine ls_know (c := true) (congrArg Bool.not (dec_f q8)) 15 (by kernel_rfl) ?_
    refine lofx 5 15 false true ?_
    refine lv (.bool true) ?_
    refine lv (.bool true) ?_
    refine ls_end ?_
    refine qn_then ?_
    refine cs_true (by kernel_rfl) ?_
    refine cs_seq ?_
    refine cs_region (l := [_]) ?_
    refine lv (.int .i64 (12 : Int)) ?_
    refine ls_end ?_
    refine qn_then ?_
    refine cs_ret' ?_
    refine qr_block ?_
    refine qr_then ?_
    obtain rfl := Option.some.inj H
    refine qr_res (rs := [_]) rfl (fun w' hs => ⟨[.int .i64 (12 : Int)], (res_tmp (by kernel_rfl) (.nil)), (), rfl, hs.pick (ts := []) (cs := []) trivial (by decide)⟩)
  replace H := ite_f q5 H
  refine cs_know (c := true) (congrArg Bool.not (Bool.eq_false_iff.mpr q5)) 5 (by kernel_rfl) ?_
  refine cs_true (by kernel_rfl) ?_
  refine cs_seq ?_
  refine cs_region (l := [_]) ?_
  refine lv (.int .i64 (2 : Int)) ?_
  refine ls_end ?_
  refine qn_then ?_
  refine cs_ret' ?_
  refine qr_block ?_
  refine qr_then ?_
  obtain rfl := Option.some.inj H
  refine qr_res (rs := [_]) rfl (fun w' hs => ⟨[.int .i64 (2 : Int)], (res_tmp (by kernel_rfl) (.nil)), (), rfl, hs.pick (ts := []) (cs := []) trivial (by decide)⟩)

/-! ### shadowbox/block.Read: function 9 -/
def block_Read.jo3 (v0 : (Unit × Unit × Bool × Int × Bool)) (w0_1 : (List (Int × (Vc Int 512)) × List (Vc Int 512))) (a1 : (Int × Int × Int × Int × (Vc Int 32))) (l7_2 : List Int) (x22_2 : Int) (k2 : Nat) (lo2 : (List Int) → Int → Option ((List Int) × Int)) : Option ((List Int) × Int) := (disk_Disk_Read.f k2 ((), (), v0.2.2.1, v0.2.2.2.1, v0.2.2.2.2) w0_1 (IntKind.wrap .i64 (a1.1 + x22_2))).bind fun t10 => (if t10.2 = (0 : Int) then (if 0 ≤ IntKind.wrap .i64 (x22_2 * (512 : Int)) then (if IntKind.wrap .i64 (x22_2 * (512 : Int)) ≤ (l7_2.length : Int) then lt (l7_2.drop (IntKind.wrap .i64 (x22_2 * (512 : Int))).toNat) fun xl21 => lt (lcopy l7_2 ((IntKind.wrap .i64 (x22_2 * (512 : Int))).toNat) t10.1) fun y26 => lo2 y26 (IntKind.wrap .i64 (x22_2 + (1 : Int))) else none) else none) else some (([] : List Int), t10.2))
def block_Read.lo2 (v0 : (Unit × Unit × Bool × Int × Bool)) (w0_1 : (List (Int × (Vc Int 512)) × List (Vc Int 512))) (a1 : (Int × Int × Int × Int × (Vc Int 32))) (t7 : Int) : Nat → (List Int) → Int → Option ((List Int) × Int)
  | 0, _, _ => none
  | k2 + 1, l7_2, x22_2 => (if x22_2 < t7 then (block_Read.jo3 v0 w0_1 a1 l7_2 x22_2 k2 (block_Read.lo2 v0 w0_1 a1 t7 k2)) else (pointer_Check.f k2 a1 l7_2).bind fun t29 => (if t29 = (0 : Int) then some (l7_2, (0 : Int)) else some (([] : List Int), (12 : Int))))
def block_Read.jo1 (k : Nat) (v0 : (Unit × Unit × Bool × Int × Bool)) (w0_1 : (List (Int × (Vc Int 512)) × List (Vc Int 512))) (a1 : (Int × Int × Int × Int × (Vc Int 32))) : Option ((List Int) × Int) := (if 0 ≤ a1.2.2.1 then (if a1.2.2.1 ≤ a1.2.2.1 then (if a1.2.2.1 ≤ 140737488355328 then (if (1 : Int) * a1.2.2.1 ≤ 281474976710656 then (pointer_Sectors.f k a1).bind fun t7 => block_Read.lo2 v0 w0_1 a1 t7 k (List.replicate (a1.2.2.1).toNat (0 : Int)) (0 : Int) else none) else none) else none) else none)
def block_Read.f (k : Nat) (v0 : (Unit × Unit × Bool × Int × Bool)) (w0_1 : (List (Int × (Vc Int 512)) × List (Vc Int 512))) (a1 : (Int × Int × Int × Int × (Vc Int 32))) : Option ((List Int) × Int) :=
  (block_check.f k ((), (), v0.2.2.1, v0.2.2.2.1, v0.2.2.2.2) w0_1 a1).bind fun t33 => (if t33 = (0 : Int) then (block_Read.jo1 k v0 w0_1 a1) else some (([] : List Int), t33))
set_option maxRecDepth 100000 in
set_option maxHeartbeats 4000000 in
theorem block_Read.calls (k : Nat) (pg0 : Nat) (gl0_0 : Nat) (n0_0 : Nat) (c0_0 : Nat) (r0_1 : Nat) (v0 : (Unit × Unit × Bool × Int × Bool)) (w0_1 : (List (Int × (Vc Int 512)) × List (Vc Int 512))) (a1 : (Int × Int × Int × Int × (Vc Int 32))) (r : (List Int) × Int) (b : Bs) (hs0 : St b (stl [Ck.var 42 pg0 (([Value.slice (some ⟨gl0_0, 0, none⟩) n0_0 c0_0] ++ ([Value.map (some r0_1)] ++ ([Value.bool v0.2.2.1] ++ ([Value.int .i64 v0.2.2.2.1] ++ [Value.bool v0.2.2.2.2]))))), Ck.mr T56 r0_1 gl0_0 c0_0 n0_0 w0_1]) b.w) (H : block_Read.f k v0 w0_1 a1 = some r) :
    Calls Try.prog 9 #[.pointer (some ⟨pg0, 0, none⟩), .agg ⟨([Value.int .i64 a1.1] ++ ([Value.int .i64 a1.2.1] ++ ([Value.int .i64 a1.2.2.1] ++ ([Value.int .u32 a1.2.2.2.1] ++ en (Value.int .u8) a1.2.2.2.2.1))))⟩] b.w fun e w' => ∃ x : (Option Addr × Nat), e = .returned (.tuple #[.slice x.1 r.1.length x.2, .int .i64 r.2]) ∧ St b (stl [Ck.var 42 pg0 (([Value.slice (some ⟨gl0_0, 0, none⟩) n0_0 c0_0] ++ ([Value.map (some r0_1)] ++ ([Value.bool v0.2.2.1] ++ ([Value.int .i64 v0.2.2.2.1] ++ [Value.bool v0.2.2.2.2]))))), Ck.mr T56 r0_1 gl0_0 c0_0 n0_0 w0_1, Ck.sl (Ec.int 5 .u8) x.1 x.2 r.1]) w' := by
  unfold block_Read.f at H
  refine enterb (n := 49) Try.func9 rfl (by kernel_rfl) (by kernel_rfl) hs0 ?_
  refine cs_sub (sput (sput s0 0 (some (Ck.var 42 pg0 (([Value.slice (some ⟨gl0_0, 0, none⟩) n0_0 c0_0] ++ ([Value.map (some r0_1)] ++ ([Value.bool v0.2.2.1] ++ ([Value.int .i64 v0.2.2.2.1] ++ [Value.bool v0.2.2.2.2])))))))) 1 (some (Ck.mr T56 r0_1 gl0_0 c0_0 n0_0 w0_1))) (sub_put (by exact rfl) (sub_put (by exact rfl) (sub_nil _))) ?_
  refine cs_seq ?_
  refine cs_region (l := [_, _, _]) ?_
  refine ls_new rfl rfl (by kernel_rfl) 2 (fun g => .pointer (some ⟨g, 0, none⟩)) (.cells ⟨([Value.int .i64 a1.1] ++ ([Value.int .i64 a1.2.1] ++ ([Value.int .i64 a1.2.2.1] ++ ([Value.int .u32 a1.2.2.2.1] ++ en (Value.int .u8) a1.2.2.2.2.1))))⟩ 30) (fun w => by kernel_rfl) ?_
  intro g1
  refine lv (.slice none 0 0) ?_
  refine lv (.int .i64 (0 : Int)) ?_
  refine ls_end ?_
  refine qn_then ?_
  refine cs_cut (fun f S => ∃ (fR : Fr), f = upd (upd fR 0 (.pointer (some ⟨pg0, 0, none⟩))) 3 (.pointer (some ⟨g1, 0, none⟩)) ∧ S = sput (sput (sput s0 0 (some (Ck.var 42 pg0 (([Value.slice (some ⟨gl0_0, 0, none⟩) n0_0 c0_0] ++ ([Value.map (some r0_1)] ++ ([Value.bool v0.2.2.1] ++ ([Value.int .i64 v0.2.2.2.1] ++ [Value.bool v0.2.2.2.2])))))))) 1 (some (Ck.mr T56 r0_1 gl0_0 c0_0 n0_0 w0_1))) 2 (some (Ck.var 30 g1 (([Value.int .i64 a1.1] ++ ([Value.int .i64 a1.2.1] ++ ([Value.int .i64 a1.2.2.1] ++ ([Value.int .u32 a1.2.2.2.1] ++ en (Value.int .u8) a1.2.2.2.2.1))))))) ∧ block_Read.jo1 k v0 w0_1 a1 = some r) ?_ ?_
  · skip
    refine cs_seq ?_
    refine cs_region (l := [_, _, _, _]) ?_
    refine lv (.pointer (some ⟨pg0, 0, none⟩)) ?_
    refine ls_loadagg (a := ⟨g1, 0, none⟩) (sub := ([Value.int .i64 a1.1] ++ ([Value.int .i64 a1.2.1] ++ ([Value.int .i64 a1.2.2.1] ++ ([Value.int .u32 a1.2.2.2.1] ++ en (Value.int .u8) a1.2.2.2.2.1))))) rfl rfl (by kernel_rfl) rfl (by kernel_rfl) (by kernel_rfl) (by kernel_rfl) (len_app (len1 _) (len_app (len1 _) (len_app (len1 _) (len_app (len1 _) (len_en _ a1.2.2.2.2))))) (fun w hs => (hs.vars (k := 2) (by exact rfl) (Sub4.all _))) ?_
    obtain ⟨t33, hc34, H⟩ := bind_some H
    refine ls_callb (fid := 17) (vals := #[.pointer (some ⟨pg0, 0, none⟩), .agg ⟨([Value.int .i64 a1.1] ++ ([Value.int .i64 a1.2.1] ++ ([Value.int .i64 a1.2.2.1] ++ ([Value.int .u32 a1.2.2.2.1] ++ en (Value.int .u8) a1.2.2.2.2.1))))⟩]) (X := Unit) (fun x => .int .i64 t33) (fun x => stl [Ck.var 42 pg0 (([Value.slice (some ⟨gl0_0, 0, none⟩) n0_0 c0_0] ++ ([Value.map (some r0_1)] ++ ([Value.bool v0.2.2.1] ++ ([Value.int .i64 v0.2.2.2.1] ++ [Value.bool v0.2.2.2.2]))))), Ck.mr T56 r0_1 gl0_0 c0_0 n0_0 w0_1]) [0, 1] [] [Ck.var 42 pg0 (([Value.slice (some ⟨gl0_0, 0, none⟩) n0_0 c0_0] ++ ([Value.map (some r0_1)] ++ ([Value.bool v0.2.2.1] ++ ([Value.int .i64 v0.2.2.2.1] ++ [Value.bool v0.2.2.2.2]))))), Ck.mr T56 r0_1 gl0_0 c0_0 n0_0 w0_1] [] 3 rfl rfl (by kernel_rfl) (fun w => by kernel_rfl) ⟨by exact rfl, by exact rfl, trivial⟩ trivial (by decide) (fun w hs hb => block_check.calls k pg0 gl0_0 n0_0 c0_0 r0_1 ((), (), v0.2.2.1, v0.2.2.2.1, v0.2.2.2.2) w0_1 a1 t33 (lent b w [Ck.var 42 pg0 (([Value.slice (some ⟨gl0_0, 0, none⟩) n0_0 c0_0] ++ ([Value.map (some r0_1)] ++ ([Value.bool v0.2.2.1] ++ ([Value.int .i64 v0.2.2.2.1] ++ [Value.bool v0.2.2.2.2]))))), Ck.mr T56 r0_1 gl0_0 c0_0 n0_0 w0_1] []) hb  hc34) ?_
    intro x35
    refine lv (.int .i64 t33) ?_
    refine ls_end ?_
    refine qn_then ?_
    refine cs_seq ?_
    refine cs_region (l := [_, _]) ?_
    refine lv (.int .i64 t33) ?_
    refine lv (.bool (!decide (t33 = (0 : Int)))) ?_
    refine ls_end ?_
    refine qn_then ?_
    by_cases q36 : t33 = (0 : Int)
    · replace H := ite_t q36 H
      refine cs_know (c := false) (congrArg Bool.not (dec_t q36)) 15 (by kernel_rfl) ?_
      refine cs_false (by kernel_rfl) ?_
      refine cs_skip' ?_
      refine qn_meet (sput (sput (sput s0 0 (some (Ck.var 42 pg0 (([Value.slice (some ⟨gl0_0, 0, none⟩) n0_0 c0_0] ++ ([Value.map (some r0_1)] ++ ([Value.bool v0.2.2.1] ++ ([Value.int .i64 v0.2.2.2.1] ++ [Value.bool v0.2.2.2.2])))))))) 1 (some (Ck.mr T56 r0_1 gl0_0 c0_0 n0_0 w0_1))) 2 (some (Ck.var 30 g1 (([Value.int .i64 a1.1] ++ ([Value.int .i64 a1.2.1] ++ ([Value.int .i64 a1.2.2.1] ++ ([Value.int .u32 a1.2.2.2.1] ++ en (Value.int .u8) a1.2.2.2.2.1)))))))) ⟨_, fr_next (fr_next (rfl) (by kernel_rfl)) (by kernel_rfl), rfl, H⟩ (sub_put (by exact rfl) (sub_put (by exact rfl) (sub_put (by exact rfl) (sub_nil _))))
    replace H := ite_f q36 H
    refine cs_know (c := true) (congrArg Bool.not (dec_f q36)) 15 (by kernel_rfl) ?_
    refine cs_true (by kernel_rfl) ?_
    refine cs_seq ?_
    refine cs_region (l := [_, _, _]) ?_
    refine lv (.int .i64 t33) ?_
    refine lv (.slice none 0 0) ?_
    refine lv (.int .i64 t33) ?_
    refine ls_end ?_
    refine qn_then ?_
    refine cs_ret' ?_
    refine qr_then ?_
    refine qr_nilrow 3 (Ec.int 5 .u8) ?_
    obtain rfl := Option.some.inj H
    refine qr_res (rs := [_, _]) rfl (fun w' hs => ⟨[.slice none 0 0, .int .i64 t33], (res_tmp (by kernel_rfl) (res_tmp (by kernel_rfl) (.nil))), (none, 0), rfl, hs.pick (ts := [0, 1, 3]) (cs := [Ck.var 42 pg0 (([Value.slice (some ⟨gl0_0, 0, none⟩) n0_0 c0_0] ++ ([Value.map (some r0_1)] ++ ([Value.bool v0.2.2.1] ++ ([Value.int .i64 v0.2.2.2.1] ++ [Value.bool v0.2.2.2.2]))))), Ck.mr T56 r0_1 gl0_0 c0_0 n0_0 w0_1, Ck.sl (Ec.int 5 .u8) none 0 ([] : List Int)]) ⟨by exact rfl, by exact rfl, by exact rfl, trivial⟩ (by decide)⟩)
  rintro f S ⟨fr1, rfl, rfl, H⟩
  replace H : ((if 0 ≤ a1.2.2.1 then (if a1.2.2.1 ≤ a1.2.2.1 then (if a1.2.2.1 ≤ 140737488355328 then (if (1 : Int) * a1.2.2.1 ≤ 281474976710656 then (pointer_Sectors.f k a1).bind fun t7 => block_Read.lo2 v0 w0_1 a1 t7 k (List.replicate (a1.2.2.1).toNat (0 : Int)) (0 : Int) else none) else none) else none) else none)) = some r := H
  refine cs_seq ?_
  refine cs_region (l := [_, _, _, _]) ?_
  refine lv (.pointer (some ⟨g1, (0 + 2), none⟩)) ?_
  refine ls_load (a0 := ⟨g1, (0 + 2), none⟩) (v := .int .i64 a1.2.2.1) (de := (TypeDesc.int .i64)) rfl rfl (by kernel_rfl) rfl (by kernel_rfl) (by kernel_rfl) (by kernel_rfl) (fun w hs => (hs.var (k := 2) (by exact rfl) (Sub4.trans (Sub4.all _) (Sub4.skip (n := 1) (len1 _) (Sub4.skip (n := 1) (len1 _) (Sub4.head _ _)))))) ?_
  obtain ⟨q2, H⟩ := ite_need H
  obtain ⟨q3, H⟩ := ite_need H
  obtain ⟨q4, H⟩ := ite_need H
  obtain ⟨q5, H⟩ := ite_need H
  refine ls_make (Ec.int 5 .u8) (bytes := 1) (a := a1.2.2.1) (b := a1.2.2.1) (kx := .i64) (ky := .i64) (zc := [Value.int .u8 (0 : Int)]) 3 rfl rfl (by kernel_rfl) rfl (by kernel_rfl) (by kernel_rfl) (by kernel_rfl) (by kernel_rfl) rfl q2 q3 q4 q5 ?_
  intro g6
  refine lv (.slice (some ⟨g6, 0, none⟩) (List.replicate (a1.2.2.1).toNat (0 : Int)).length (a1.2.2.1).toNat) ?_
  refine ls_end ?_
  refine qn_then ?_
  refine cs_seq ?_
  refine cs_seq ?_
  refine cs_region (l := [_, _, _]) ?_
  refine ls_loadagg (a := ⟨g1, 0, none⟩) (sub := ([Value.int .i64 a1.1] ++ ([Value.int .i64 a1.2.1] ++ ([Value.int .i64 a1.2.2.1] ++ ([Value.int .u32 a1.2.2.2.1] ++ en (Value.int .u8) a1.2.2.2.2.1))))) rfl rfl (by kernel_rfl) rfl (by kernel_rfl) (by kernel_rfl) (by kernel_rfl) (len_app (len1 _) (len_app (len1 _) (len_app (len1 _) (len_app (len1 _) (len_en _ a1.2.2.2.2))))) (fun w hs => (hs.vars (k := 2) (by exact rfl) (Sub4.all _))) ?_
  obtain ⟨t7, hc8, H⟩ := bind_some H
  refine ls_callb (fid := 18) (vals := #[.agg ⟨([Value.int .i64 a1.1] ++ ([Value.int .i64 a1.2.1] ++ ([Value.int .i64 a1.2.2.1] ++ ([Value.int .u32 a1.2.2.2.1] ++ en (Value.int .u8) a1.2.2.2.2.1))))⟩]) (X := Unit) (fun x => .int .i64 t7) (fun x => stl []) [] [] [] [] 4 rfl rfl (by kernel_rfl) (fun w => by kernel_rfl) trivial trivial (by decide) (fun w hs hb => pointer_Sectors.calls k a1 t7 (lent b w [] []) hb  hc8) ?_
  intro x9
  refine lv (.int .i64 (0 : Int)) ?_
  refine ls_end ?_
  refine qn_then ?_
  refine cs_block ?_
  refine cs_sub (sput (sput (sput (sput s0 0 (some (Ck.var 42 pg0 (([Value.slice (some ⟨gl0_0, 0, none⟩) n0_0 c0_0] ++ ([Value.map (some r0_1)] ++ ([Value.bool v0.2.2.1] ++ ([Value.int .i64 v0.2.2.2.1] ++ [Value.bool v0.2.2.2.2])))))))) 1 (some (Ck.mr T56 r0_1 gl0_0 c0_0 n0_0 w0_1))) 2 (some (Ck.var 30 g1 (([Value.int .i64 a1.1] ++ ([Value.int .i64 a1.2.1] ++ ([Value.int .i64 a1.2.2.1] ++ ([Value.int .u32 a1.2.2.2.1] ++ en (Value.int .u8) a1.2.2.2.2.1)))))))) 3 (some (Ck.sl (Ec.int 5 .u8) (some ⟨g6, 0, none⟩) ((a1.2.2.1).toNat) (List.replicate (a1.2.2.1).toNat (0 : Int))))) (sub_put (by exact rfl) (sub_put (by exact rfl) (sub_put (by exact rfl) (sub_put (by exact rfl) (sub_nil _))))) ?_
  refine cs_loop (fun kk f S => ∃ (fR : Fr) (A7_2 : Option Addr) (c7_2 : Nat) (l7_2 : List Int) (x22_2 : Int), f = upd (upd (upd (upd (upd fR 0 (.pointer (some ⟨pg0, 0, none⟩))) 3 (.pointer (some ⟨g1, 0, none⟩))) 7 (.slice A7_2 l7_2.length c7_2)) 21 (.int .i64 t7)) 22 (.int .i64 x22_2) ∧ S = sput (sput (sput (sput s0 0 (some (Ck.var 42 pg0 (([Value.slice (some ⟨gl0_0, 0, none⟩) n0_0 c0_0] ++ ([Value.map (some r0_1)] ++ ([Value.bool v0.2.2.1] ++ ([Value.int .i64 v0.2.2.2.1] ++ [Value.bool v0.2.2.2.2])))))))) 1 (some (Ck.mr T56 r0_1 gl0_0 c0_0 n0_0 w0_1))) 2 (some (Ck.var 30 g1 (([Value.int .i64 a1.1] ++ ([Value.int .i64 a1.2.1] ++ ([Value.int .i64 a1.2.2.1] ++ ([Value.int .u32 a1.2.2.2.1] ++ en (Value.int .u8) a1.2.2.2.2.1)))))))) 3 (some (Ck.sl (Ec.int 5 .u8) A7_2 c7_2 l7_2)) ∧ block_Read.lo2 v0 w0_1 a1 t7 kk l7_2 x22_2 = some r) k ?_ ?_ ?_
  · exact ⟨_, (some ⟨g6, 0, none⟩), (a1.2.2.1).toNat, (List.replicate (a1.2.2.1).toNat (0 : Int)), (0 : Int), fr_next (fr_next (fr_next (fr_next (fr_next (rfl) (by kernel_rfl)) (by kernel_rfl)) (by kernel_rfl)) (by kernel_rfl)) (by kernel_rfl), rfl, H⟩
  · rintro f S ⟨fr2, A7_2, c7_2, l7_2, x22_2, rfl, rfl, H⟩; cases H
  rintro k2 f S ⟨fr2, A7_2, c7_2, l7_2, x22_2, rfl, rfl, H⟩
  replace H : ((if x22_2 < t7 then (block_Read.jo3 v0 w0_1 a1 l7_2 x22_2 k2 (block_Read.lo2 v0 w0_1 a1 t7 k2)) else (pointer_Check.f k2 a1 l7_2).bind fun t29 => (if t29 = (0 : Int) then some (l7_2, (0 : Int)) else some (([] : List Int), (12 : Int))))) = some r := H
  refine cs_seq ?_
  refine cs_region (l := [_]) ?_
  refine lv (.bool (decide (x22_2 < t7))) ?_
  refine ls_end ?_
  refine qn_then ?_
  refine cs_cut (fun f S => ∃ (fR : Fr), f = upd (upd (upd (upd (upd fR 0 (.pointer (some ⟨pg0, 0, none⟩))) 3 (.pointer (some ⟨g1, 0, none⟩))) 7 (.slice A7_2 l7_2.length c7_2)) 21 (.int .i64 t7)) 22 (.int .i64 x22_2) ∧ S = sput (sput (sput (sput s0 0 (some (Ck.var 42 pg0 (([Value.slice (some ⟨gl0_0, 0, none⟩) n0_0 c0_0] ++ ([Value.map (some r0_1)] ++ ([Value.bool v0.2.2.1] ++ ([Value.int .i64 v0.2.2.2.1] ++ [Value.bool v0.2.2.2.2])))))))) 1 (some (Ck.mr T56 r0_1 gl0_0 c0_0 n0_0 w0_1))) 2 (some (Ck.var 30 g1 (([Value.int .i64 a1.1] ++ ([Value.int .i64 a1.2.1] ++ ([Value.int .i64 a1.2.2.1] ++ ([Value.int .u32 a1.2.2.2.1] ++ en (Value.int .u8) a1.2.2.2.2.1)))))))) 3 (some (Ck.sl (Ec.int 5 .u8) A7_2 c7_2 l7_2)) ∧ block_Read.jo3 v0 w0_1 a1 l7_2 x22_2 k2 (block_Read.lo2 v0 w0_1 a1 t7 k2) = some r) ?_ ?_
  · skip
    by_cases q28 : x22_2 < t7
    · replace H := ite_t q28 H
      refine cs_know (c := true) (dec_t q28) 23 (by kernel_rfl) ?_
      refine cs_true (by kernel_rfl) ?_
      refine cs_skip' ?_
      refine qn_meet (sput (sput (sput (sput s0 0 (some (Ck.var 42 pg0 (([Value.slice (some ⟨gl0_0, 0, none⟩) n0_0 c0_0] ++ ([Value.map (some r0_1)] ++ ([Value.bool v0.2.2.1] ++ ([Value.int .i64 v0.2.2.2.1] ++ [Value.bool v0.2.2.2.2])))))))) 1 (some (Ck.mr T56 r0_1 gl0_0 c0_0 n0_0 w0_1))) 2 (some (Ck.var 30 g1 (([Value.int .i64 a1.1] ++ ([Value.int .i64 a1.2.1] ++ ([Value.int .i64 a1.2.2.1] ++ ([Value.int .u32 a1.2.2.2.1] ++ en (Value.int .u8) a1.2.2.2.2.1)))))))) 3 (some (Ck.sl (Ec.int 5 .u8) A7_2 c7_2 l7_2))) ⟨_, fr_next (fr_next (fr_next (fr_next (fr_next (rfl) (by kernel_rfl)) (by kernel_rfl)) (by kernel_rfl)) (by kernel_rfl)) (by kernel_rfl), rfl, H⟩ (sub_put (by exact rfl) (sub_put (by exact rfl) (sub_put (by exact rfl) (sub_put (by exact rfl) (sub_nil _)))))
    replace H := ite_f q28 H
    refine cs_know (c := false) (dec_f q28) 23 (by kernel_rfl) ?_
    refine cs_false (by kernel_rfl) ?_
    refine cs_exit' ?_
    refine qx_then ?_
    refine qx_then ?_
    refine qx_same ?_
    refine qn_then ?_
    refine cs_seq ?_
    refine cs_seq ?_
    refine cs_region (l := [_, _, _, _]) ?_
    refine ls_loadagg (a := ⟨g1, 0, none⟩) (sub := ([Value.int .i64 a1.1] ++ ([Value.int .i64 a1.2.1] ++ ([Value.int .i64 a1.2.2.1] ++ ([Value.int .u32 a1.2.2.2.1] ++ en (Value.int .u8) a1.2.2.2.2.1))))) rfl rfl (by kernel_rfl) rfl (by kernel_rfl) (by kernel_rfl) (by kernel_rfl) (len_app (len1 _) (len_app (len1 _) (len_app (len1 _) (len_app (len1 _) (len_en _ a1.2.2.2.2))))) (fun w hs => (hs.vars (k := 2) (by exact rfl) (Sub4.all _))) ?_
    refine lv (.slice A7_2 l7_2.length c7_2) ?_
    obtain ⟨t29, hc30, H⟩ := bind_some H
    refine ls_callb (fid := 23) (vals := #[.agg ⟨([Value.int .i64 a1.1] ++ ([Value.int .i64 a1.2.1] ++ ([Value.int .i64 a1.2.2.1] ++ ([Value.int .u32 a1.2.2.2.1] ++ en (Value.int .u8) a1.2.2.2.2.1))))⟩, .slice A7_2 l7_2.length c7_2]) (X := Unit) (fun x => .int .i64 t29) (fun x => stl []) [] [3] [] [Ck.sl (Ec.int 5 .u8) A7_2 c7_2 l7_2] 4 rfl rfl (by kernel_rfl) (fun w => by kernel_rfl) trivial ⟨by exact rfl, trivial⟩ (by decide) (fun w hs hb => pointer_Check.calls k2 a1 A7_2 c7_2 l7_2 t29 (lent b w [] [Ck.sl (Ec.int 5 .u8) A7_2 c7_2 l7_2]) hb (hs.ror (k := 3) (by exact rfl) (.head _)) (hs.cap (k := 3) (by exact rfl)) hc30) ?_
    intro x31
    refine lv (.bool (!decide (t29 = (0 : Int)))) ?_
    refine ls_end ?_
    refine qn_then ?_
    by_cases q32 : t29 = (0 : Int)
    · replace H := ite_t q32 H
      refine cs_know (c := false) (congrArg Bool.not (dec_t q32)) 47 (by kernel_rfl) ?_
      refine cs_false (by kernel_rfl) ?_
      refine cs_skip' ?_
      refine qn_then ?_
      refine cs_seq ?_
      refine cs_region (l := [_, _, _]) ?_
      refine lv (.slice A7_2 l7_2.length c7_2) ?_
      refine lv (.slice A7_2 l7_2.length c7_2) ?_
      refine lv (.int .i64 (0 : Int)) ?_
      refine ls_end ?_
      refine qn_then ?_
      refine cs_ret' ?_
      obtain rfl := Option.some.inj H
      refine qr_res (rs := [_, _]) rfl (fun w' hs => ⟨[.slice A7_2 l7_2.length c7_2, .int .i64 (0 : Int)], (res_tmp (by kernel_rfl) (res_tmp (by kernel_rfl) (.nil))), (A7_2, c7_2), rfl, hs.pick (ts := [0, 1, 3]) (cs := [Ck.var 42 pg0 (([Value.slice (some ⟨gl0_0, 0, none⟩) n0_0 c0_0] ++ ([Value.map (some r0_1)] ++ ([Value.bool v0.2.2.1] ++ ([Value.int .i64 v0.2.2.2.1] ++ [Value.bool v0.2.2.2.2]))))), Ck.mr T56 r0_1 gl0_0 c0_0 n0_0 w0_1, Ck.sl (Ec.int 5 .u8) A7_2 c7_2 l7_2]) ⟨by exact rfl, by exact rfl, by exact rfl, trivial⟩ (by decide)⟩)
    replace H := ite_f q32 H
    refine cs_know (c := true) (congrArg Bool.not (dec_f q32)) 47 (by kernel_rfl) ?_
    refine cs_true (by kernel_rfl) ?_
    refine cs_seq ?_
    refine cs_region (l := [_, _]) ?_
    refine lv (.slice none 0 0) ?_
    refine lv (.int .i64 (12 : Int)) ?_
    refine ls_end ?_
    refine qn_then ?_
    refine cs_ret' ?_
    refine qr_then ?_
    refine qr_nilrow 4 (Ec.int 5 .u8) ?_
    obtain rfl := Option.some.inj H
    refine qr_res (rs := [_, _]) rfl (fun w' hs => ⟨[.slice none 0 0, .int .i64 (12 : Int)], (res_tmp (by kernel_rfl) (res_tmp (by kernel_rfl) (.nil))), (none, 0), rfl, hs.pick (ts := [0, 1, 4]) (cs := [Ck.var 42 pg0 (([Value.slice (some ⟨gl0_0, 0, none⟩) n0_0 c0_0] ++ ([Value.map (some r0_1)] ++ ([Value.bool v0.2.2.1] ++ ([Value.int .i64 v0.2.2.2.1] ++ [Value.bool v0.2.2.2.2]))))), Ck.mr T56 r0_1 gl0_0 c0_0 n0_0 w0_1, Ck.sl (Ec.int 5 .u8) none 0 ([] : List Int)]) ⟨by exact rfl, by exact rfl, by exact rfl, trivial⟩ (by decide)⟩)
  rintro f S ⟨fr3, rfl, rfl, H⟩
  replace H : ((disk_Disk_Read.f k2 ((), (), v0.2.2.1, v0.2.2.2.1, v0.2.2.2.2) w0_1 (IntKind.wrap .i64 (a1.1 + x22_2))).bind fun t10 => (if t10.2 = (0 : Int) then (if 0 ≤ IntKind.wrap .i64 (x22_2 * (512 : Int)) then (if IntKind.wrap .i64 (x22_2 * (512 : Int)) ≤ (l7_2.length : Int) then lt (l7_2.drop (IntKind.wrap .i64 (x22_2 * (512 : Int))).toNat) fun xl21 => lt (lcopy l7_2 ((IntKind.wrap .i64 (x22_2 * (512 : Int))).toNat) t10.1) fun y26 => (block_Read.lo2 v0 w0_1 a1 t7 k2) y26 (IntKind.wrap .i64 (x22_2 + (1 : Int))) else none) else none) else some (([] : List Int), t10.2))) = some r := H
  refine cs_seq ?_
  refine cs_block ?_
  refine cs_seq ?_
  refine cs_region (l := [_, _]) ?_
  refine lv (.int .i64 x22_2) ?_
  refine lv (.int .i64 x22_2) ?_
  refine ls_end ?_
  refine qn_then ?_
  refine cs_seq ?_
  refine cs_region (l := [_, _, _, _, _, _, _, _, _, _, _]) ?_
  refine lv (.pointer (some ⟨pg0, 0, none⟩)) ?_
  refine lv (.pointer (some ⟨g1, (0 + 0), none⟩)) ?_
  refine ls_load (a0 := ⟨g1, (0 + 0), none⟩) (v := .int .i64 a1.1) (de := (TypeDesc.int .i64)) rfl rfl (by kernel_rfl) rfl (by kernel_rfl) (by kernel_rfl) (by kernel_rfl) (fun w hs => (hs.var (k := 2) (by exact rfl) (Sub4.trans (Sub4.all _) (Sub4.head _ _)))) ?_
  refine lv (.int .i64 x22_2) ?_
  refine lv (.int .i64 (IntKind.wrap .i64 (a1.1 + x22_2))) ?_
  obtain ⟨t10, hc11, H⟩ := bind_some H
  refine ls_callb (fid := 15) (vals := #[.pointer (some ⟨pg0, 0, none⟩), .int .i64 (IntKind.wrap .i64 (a1.1 + x22_2))]) (X := (Option Addr × Nat)) (fun x => .tuple #[.slice x.1 t10.1.length x.2, .int .i64 t10.2]) (fun x => stl [Ck.var 42 pg0 (([Value.slice (some ⟨gl0_0, 0, none⟩) n0_0 c0_0] ++ ([Value.map (some r0_1)] ++ ([Value.bool v0.2.2.1] ++ ([Value.int .i64 v0.2.2.2.1] ++ [Value.bool v0.2.2.2.2]))))), Ck.mr T56 r0_1 gl0_0 c0_0 n0_0 w0_1, Ck.ro (Ec.int 5 .u8) x.1 x.2 t10.1]) [0, 1] [] [Ck.var 42 pg0 (([Value.slice (some ⟨gl0_0, 0, none⟩) n0_0 c0_0] ++ ([Value.map (some r0_1)] ++ ([Value.bool v0.2.2.1] ++ ([Value.int .i64 v0.2.2.2.1] ++ [Value.bool v0.2.2.2.2]))))), Ck.mr T56 r0_1 gl0_0 c0_0 n0_0 w0_1] [] 4 rfl rfl (by kernel_rfl) (fun w => by kernel_rfl) ⟨by exact rfl, by exact rfl, trivial⟩ trivial (by decide) (fun w hs hb => disk_Disk_Read.calls k2 pg0 gl0_0 n0_0 c0_0 r0_1 ((), (), v0.2.2.1, v0.2.2.2.1, v0.2.2.2.2) w0_1 (IntKind.wrap .i64 (a1.1 + x22_2)) t10 (lent b w [Ck.var 42 pg0 (([Value.slice (some ⟨gl0_0, 0, none⟩) n0_0 c0_0] ++ ([Value.map (some r0_1)] ++ ([Value.bool v0.2.2.1] ++ ([Value.int .i64 v0.2.2.2.1] ++ [Value.bool v0.2.2.2.2]))))), Ck.mr T56 r0_1 gl0_0 c0_0 n0_0 w0_1] []) hb  hc11) ?_
  intro x12
  refine lv (.tuple #[.slice x12.1 t10.1.length x12.2, .int .i64 t10.2]) ?_
  refine lv (.slice x12.1 t10.1.length x12.2) ?_
  refine lv (.int .i64 t10.2) ?_
  refine lv (.slice x12.1 t10.1.length x12.2) ?_
  refine lv (.int .i64 t10.2) ?_
  refine ls_end ?_
  refine qn_then ?_
  refine cs_seq ?_
  refine cs_seq ?_
  refine cs_region (l := [_, _]) ?_
  refine lv (.int .i64 t10.2) ?_
  refine lv (.bool (!decide (t10.2 = (0 : Int)))) ?_
  refine ls_end ?_
  refine qn_then ?_
  by_cases q13 : t10.2 = (0 : Int)
  · replace H := ite_t q13 H
    refine cs_know (c := false) (congrArg Bool.not (dec_t q13)) 35 (by kernel_rfl) ?_
    refine cs_false (by kernel_rfl) ?_
    refine cs_skip' ?_
    refine qn_then ?_
    refine cs_region (l := [_, _, _, _, _, _]) ?_
    refine lv (.slice A7_2 l7_2.length c7_2) ?_
    refine lv (.int .i64 x22_2) ?_
    refine lv (.int .i64 (IntKind.wrap .i64 (x22_2 * (512 : Int)))) ?_
    obtain ⟨q15, H⟩ := ite_need H
    obtain ⟨q16, H⟩ := ite_need H
    obtain ⟨xl21, hy22, H⟩ := lt_some H
    have hz24 : (IntKind.wrap .i64 (x22_2 * (512 : Int))).toNat ≤ l7_2.length := by omega
    have hz25 : l7_2.length ≤ l7_2.length := by omega
    refine ls_cap (T := (Ec.int 5 .u8)) (tk := 3) (by exact rfl) ?_
    intro hC14
    obtain ⟨xA17, xc18, he23, xC20, xR19⟩ := cutr_at (A := A7_2) (c := c7_2) (l := l7_2) (Ec.int 5 .u8) ((IntKind.wrap .i64 (x22_2 * (512 : Int))).toNat) l7_2.length hz24 hz25 hC14 (m := xl21) (by rw [← hy22] <;> simp) (z := 1) rfl
    refine ls_cutv (A := A7_2) (c := c7_2) (m := l7_2.length) (z := 1) (e := 5) (a := (IntKind.wrap .i64 (x22_2 * (512 : Int))).toNat) (b := l7_2.length) rfl rfl (by kernel_rfl) rfl (by kernel_rfl) (by kernel_rfl) (by kernel_rfl) (.inr ⟨.i64, by rw [Int.toNat_of_nonneg (by first | assumption | omega)]; kernel_rfl⟩) (.inl ⟨rfl, rfl⟩) hz24 hz25 hC14 he23 ?_
    refine lv (.slice x12.1 t10.1.length x12.2) ?_
    obtain ⟨y26, hy27, H⟩ := lt_some H
    refine ls_copyc (T := (Ec.int 5 .u8)) (A := A7_2) (c := c7_2) (l := l7_2) (m := t10.1) (B := x12.1) (cb := x12.2) (a := ((IntKind.wrap .i64 (x22_2 * (512 : Int))).toNat)) (e := 5) 3 rfl rfl (by kernel_rfl) rfl (by kernel_rfl) (by kernel_rfl) he23 hz24 rfl (by exact rfl) (by kernel_rfl) (by kernel_rfl) (fun w hs => (hs.rod (k := 4) (by exact rfl))) hy27 ?_
    refine ls_ren 7 (v := .slice A7_2 l7_2.length c7_2) (v' := .slice A7_2 y26.length c7_2) (by kernel_rfl) (by rw [← hy27, lcopy_length hz24]) ?_
    refine ls_ren 37 (v := .slice A7_2 l7_2.length c7_2) (v' := .slice A7_2 y26.length c7_2) (by kernel_rfl) (by rw [← hy27, lcopy_length hz24]) ?_
    refine ls_end ?_
    refine qn_block ?_
    refine qn_then ?_
    refine cs_region (l := [_, _]) ?_
    refine lv (.int .i64 (IntKind.wrap .i64 (x22_2 + (1 : Int)))) ?_
    refine lv (.int .i64 (IntKind.wrap .i64 (x22_2 + (1 : Int)))) ?_
    refine ls_end ?_
    refine qn_again k2 (sput (sput (sput (sput s0 0 (some (Ck.var 42 pg0 (([Value.slice (some ⟨gl0_0, 0, none⟩) n0_0 c0_0] ++ ([Value.map (some r0_1)] ++ ([Value.bool v0.2.2.1] ++ ([Value.int .i64 v0.2.2.2.1] ++ [Value.bool v0.2.2.2.2])))))))) 1 (some (Ck.mr T56 r0_1 gl0_0 c0_0 n0_0 w0_1))) 2 (some (Ck.var 30 g1 (([Value.int .i64 a1.1] ++ ([Value.int .i64 a1.2.1] ++ ([Value.int .i64 a1.2.2.1] ++ ([Value.int .u32 a1.2.2.2.1] ++ en (Value.int .u8) a1.2.2.2.2.1)))))))) 3 (some (Ck.sl (Ec.int 5 .u8) A7_2 c7_2 y26))) (Nat.le_refl _) ⟨_, A7_2, c7_2, y26, (IntKind.wrap .i64 (x22_2 + (1 : Int))), fr_next (fr_next (fr_next (fr_next (fr_next (rfl) (by kernel_rfl)) (by kernel_rfl)) (by kernel_rfl)) (by kernel_rfl)) (by kernel_rfl), rfl, H⟩ (sub_put (by exact rfl) (sub_put (by exact rfl) (sub_put (by exact rfl) (sub_put (by exact rfl) (sub_nil _)))))
  replace H := ite_f q13 H
  refine cs_know (c := true) (congrArg Bool.not (dec_f q13)) 35 (by kernel_rfl) ?_
  refine cs_true (by kernel_rfl) ?_
  refine cs_seq ?_
  refine cs_region (l := [_, _, _]) ?_
  refine lv (.int .i64 t10.2) ?_
  refine lv (.slice none 0 0) ?_
  refine lv (.int .i64 t10.2) ?_
  refine ls_end ?_
  refine qn_then ?_
  refine cs_ret' ?_
  refine qr_then ?_
  refine qr_block ?_
  refine qr_then ?_
  refine qr_then ?_
  refine qr_block ?_
  refine qr_then ?_
  refine qr_nilrow 5 (Ec.int 5 .u8) ?_
  obtain rfl := Option.some.inj H
  refine qr_res (rs := [_, _]) rfl (fun w' hs => ⟨[.slice none 0 0, .int .i64 t10.2], (res_tmp (by kernel_rfl) (res_tmp (by kernel_rfl) (.nil))), (none, 0), rfl, hs.pick (ts := [0, 1, 5]) (cs := [Ck.var 42 pg0 (([Value.slice (some ⟨gl0_0, 0, none⟩) n0_0 c0_0] ++ ([Value.map (some r0_1)] ++ ([Value.bool v0.2.2.1] ++ ([Value.int .i64 v0.2.2.2.1] ++ [Value.bool v0.2.2.2.2]))))), Ck.mr T56 r0_1 gl0_0 c0_0 n0_0 w0_1, Ck.sl (Ec.int 5 .u8) none 0 ([] : List Int)]) ⟨by exact rfl, by exact rfl, by exact rfl, trivial⟩ (by decide)⟩)

/-! ### slices.Clone[[]shadowbox/disk.sector,shadowbox/disk.sector]: function 24 -/
def slices_Clone_24.f (k : Nat) (l0 : List (Vc Int 512)) : Option ((List (Vc Int 512))) :=
  (if (([] : List (Vc Int 512)).length + l0.length) * 512 ≤ 140737488355328 then some (([] : List (Vc Int 512)) ++ l0) else none)
set_option maxRecDepth 100000 in
set_option maxHeartbeats 4000000 in
theorem slices_Clone_24.calls (k : Nat) (A0 : Option Addr) (c0 : Nat) (l0 : List (Vc Int 512)) (r : (List (Vc Int 512))) (b : Bs) (hs0 : St b (stl []) b.w) (R0 : Ro b A0 (em T56 l0)) (C0 : l0.length ≤ c0) (H : slices_Clone_24.f k l0 = some r) :
    Calls Try.prog 24 #[.slice A0 l0.length c0] b.w fun e w' => ∃ x : (Option Addr × Nat), e = .returned (.slice x.1 r.length x.2) ∧ St b (stl [Ck.sl T56 x.1 x.2 r]) w' := by
  unfold slices_Clone_24.f at H
  refine enterb (n := 8) Try.func24 rfl (by kernel_rfl) (by kernel_rfl) hs0 ?_
  refine cs_sub (s0) (sub_nil _) ?_
  refine cs_seq ?_
  refine cs_region (l := [_]) ?_
  refine lv (.slice none 0 0) ?_
  refine ls_end ?_
  refine qn_then ?_
  refine cs_seq ?_
  refine cs_seq ?_
  refine cs_region (l := [_, _]) ?_
  refine lv (.slice A0 l0.length c0) ?_
  refine ls_val (v := .bool (Option.isNone A0)) rfl rfl (by kernel_rfl) (fun w => by cases A0 <;> kernel_rfl) ?_
  refine ls_end ?_
  refine qn_then ?_
  by_cases q1 : A0 = none
  · have hl2 : l0 = [] := Ro.nil_of (T := T56) R0 q1
    replace H : (some ([] : List (Vc Int 512))) = some r := by first | (rw [hl2] at H; simpa using H) | simpa [hl2] using H
    refine cs_know (c := true) (isNone_t q1) 4 (by kernel_rfl) ?_
    refine cs_true (by kernel_rfl) ?_
    refine cs_seq ?_
    refine cs_region (l := [_]) ?_
    refine lv (.slice none 0 0) ?_
    refine ls_end ?_
    refine qn_then ?_
    refine cs_ret' ?_
    refine qr_then ?_
    refine qr_nilrow 0 T56 ?_
    obtain rfl := Option.some.inj H
    refine qr_res (rs := [_]) rfl (fun w' hs => ⟨[.slice none 0 0], (res_tmp (by kernel_rfl) (.nil)), (none, 0), rfl, hs.pick (ts := [0]) (cs := [Ck.sl T56 none 0 ([] : List (Vc Int 512))]) ⟨by exact rfl, trivial⟩ (by decide)⟩)
  skip
  refine cs_know (c := false) (isNone_f q1) 4 (by kernel_rfl) ?_
  refine cs_false (by kernel_rfl) ?_
  refine cs_skip' ?_
  refine qn_then ?_
  refine cs_seq ?_
  refine cs_region (l := [_, _, _, _]) ?_
  refine ls_lit T56 0 rfl rfl (by kernel_rfl) ([] : List (Vc Int 512)) (by exact of_decide_eq_true (by kernel_rfl)) (fun w => by kernel_rfl) ?_
  intro g3
  refine lv (.slice A0 l0.length c0) ?_
  obtain ⟨q4, H⟩ := ite_need H
  refine ls_app T56 (A := (some ⟨g3, 0, none⟩)) (c := ([] : List (Vc Int 512)).length) (B := A0) (cb := c0) (z := (.agg ⟨en (Value.int .u8) (vrep 512 (0 : Int)).1⟩)) (l := ([] : List (Vc Int 512))) (m := l0) (bytes := 512) 0 rfl rfl (by kernel_rfl) rfl (by kernel_rfl) (by exact rfl) (by kernel_rfl) (fun w hs => (hs.old R0)) (by kernel_rfl) (by kernel_rfl) rfl (by decide) q4 ?_
  intro xA5 xc6
  refine lv (.slice xA5 (([] : List (Vc Int 512)) ++ l0).length xc6) ?_
  refine ls_end ?_
  refine qn_then ?_
  refine cs_ret' ?_
  obtain rfl := Option.some.inj H
  refine qr_res (rs := [_]) rfl (fun w' hs => ⟨[.slice xA5 (([] : List (Vc Int 512)) ++ l0).length xc6], (res_tmp (by kernel_rfl) (.nil)), (xA5, xc6), rfl, hs.pick (ts := [0]) (cs := [Ck.sl T56 xA5 xc6 (([] : List (Vc Int 512)) ++ l0)]) ⟨by exact rfl, trivial⟩ (by decide)⟩)

end Go.Proofs.Ytbidihabicgedaa.G
