/- Printed by a program of this session (sz.py): plain functions, and walks that show that the code comes to them; no condition. -/
import Derived.Test.YthhhkphbhlafbaaProg
import Derived.Test.YthhhkphbhlafbaaTy
import Derived.Test.YthhhkphbhlafbaaG0
set_option linter.unusedVariables false
set_option linter.unusedSimpArgs false
namespace Go.Proofs.Ythhhkphbhlafbaa.G
open Go Go.RowKit Go.Proofs.Ythhhkphbhlafbaa.Sx

/-! ### shadowbox/shadowboxlaw16.LeafFinds: function 3 -/
def shadowboxlaw16_LeafFinds.tab3 : List (List Nat) := [[], [0], [0, 1], [0, 1, 2], [0, 1, 2], [0, 1, 2, 3, 4], [0, 1, 2, 3, 4, 5], [0, 1, 2, 3, 4, 5, 6], [0, 1, 2], [0, 1, 2, 8], [0, 1, 2, 3, 4, 5, 6, 7, 8, 9], [0, 1, 2, 3, 4, 5, 6, 7, 8, 9, 10], [0, 1, 2, 3, 4, 5, 6, 7, 8, 9, 10, 11], [0, 1, 2, 3, 4, 5, 6, 7, 8, 9, 10, 11, 12], [0, 1, 2, 3, 4, 5, 6, 7, 8, 9, 10, 11, 12, 13], [0, 1, 2, 3, 4, 5, 6, 7, 8, 9, 10, 11, 12], [0, 1, 2, 3, 4, 5, 6, 7, 8, 9, 10, 11, 12, 15], [0, 1, 2, 3, 4, 5, 6, 7, 8, 9, 10, 11, 12, 13, 14, 15, 16], [0, 1, 2, 3, 4, 5, 6, 7, 8, 9, 10, 11, 12, 13, 14, 15, 16, 17], [0, 1, 2, 3, 4, 5, 6, 7, 8, 9, 10, 11, 12, 13, 14, 15, 16, 17, 18], [0, 1, 2, 3, 4, 5, 6, 7, 8, 9, 10, 11, 12, 13, 14, 15, 16, 17, 18], [0, 1, 2, 3, 4, 5, 6, 7, 8, 9, 10, 11, 12, 13, 14, 15, 16, 17, 18, 20], [0, 1, 2, 3, 4, 5, 6, 7, 8, 9, 10, 11, 12, 13, 14, 15, 16, 17, 18, 19, 20, 21], [0, 1, 2, 3, 4, 5, 6, 7, 8, 9, 10, 11, 12, 13, 14, 15, 16, 17, 18, 19, 20, 21, 22], [0, 1, 2, 3, 4, 5, 6, 7, 8, 9, 10, 11, 12, 13, 14, 15, 16, 17, 18, 19, 20, 21, 22, 23], [0, 1, 2, 3, 4, 5, 6, 7, 8, 9, 10, 11, 12, 13, 14, 15, 16, 17, 18], [0, 1, 2, 3, 4, 5, 6, 7, 8, 9, 10, 11, 12, 13, 14, 15, 16, 17, 18, 25], [0, 1, 2, 3, 4, 5, 6, 7, 8, 9, 10, 11, 12, 13, 14, 15, 16, 17, 18, 19, 20, 21, 22, 23, 24, 25, 26], [0, 1, 2, 3, 4, 5, 6, 7, 8, 9, 10, 11, 12, 13, 14, 15, 16, 17, 18, 19, 20, 21, 22, 23, 24, 25, 26, 27], [0, 1, 2, 3, 4, 5, 6, 7, 8, 9, 10, 11, 12, 13, 14, 15, 16, 17, 18, 19, 20, 21, 22, 23, 24, 25, 26, 27, 28], [0, 1, 2, 3, 4, 5, 6, 7, 8, 9, 10, 11, 12, 13, 14, 15, 16, 17, 18, 19, 20, 21, 22, 23, 24, 25, 26, 27, 28, 29]]
def shadowboxlaw16_LeafFinds.jo3 (l1 : List Int) (l0_1 : List (List Int)) (t1 : Int) : Option (Bool) := (if t1 < (0 : Int) then (if (IntKind.wrap .i64 (t1 + (1 : Int))) ≥ (l0_1.length : Int) then some true else (if 0 ≤ IntKind.wrap .i64 (t1 + (1 : Int)) then (if IntKind.wrap .i64 (t1 + (1 : Int)) < (l0_1.length : Int) then lt (strOfNums ((l0_1).getD (IntKind.wrap .i64 (t1 + (1 : Int))).toNat ([] : List Int))) fun y16 => some (!(Op.bytesLess y16.toList (strOfNums l1).toList || (y16.toList == (strOfNums l1).toList))) else none) else none)) else (if 0 ≤ t1 then (if t1 < (l0_1.length : Int) then lt (strOfNums ((l0_1).getD (t1).toNat ([] : List Int))) fun y26 => (if (Op.bytesLess y26.toList (strOfNums l1).toList || (y26.toList == (strOfNums l1).toList)) = true then (if (IntKind.wrap .i64 (t1 + (1 : Int))) ≥ (l0_1.length : Int) then some true else (if 0 ≤ IntKind.wrap .i64 (t1 + (1 : Int)) then (if IntKind.wrap .i64 (t1 + (1 : Int)) < (l0_1.length : Int) then lt (strOfNums ((l0_1).getD (IntKind.wrap .i64 (t1 + (1 : Int))).toNat ([] : List Int))) fun y38 => some (!(Op.bytesLess y38.toList (strOfNums l1).toList || (y38.toList == (strOfNums l1).toList))) else none) else none)) else some false) else none) else none))
def shadowboxlaw16_LeafFinds.jo2 (k : Nat) (l1 : List Int) (l0_1 : List (List Int)) : Option (Bool) := (leaf_Find.f k ((0 : Int), l0_1, ([] : List (List Int)), ([] : List (Int × Int × Int × Int × (Vc Int 32)))) l1).bind fun t1 => (if t1 < (-1 : Int) then some false else (if t1 ≥ (l0_1.length : Int) then some false else (shadowboxlaw16_LeafFinds.jo3 l1 l0_1 t1)))
def shadowboxlaw16_LeafFinds.tab42 : List (List Nat) := [[], [], [1], [0, 1, 2], [0, 1, 2, 3], [0, 1, 2, 3, 4], [], [], [6, 7], [6, 7, 8], [6, 7, 8, 9], [0, 1, 2, 3, 4, 5, 6, 7, 8, 9, 10]]
def shadowboxlaw16_LeafFinds.lo4 (l0_1 : List (List Int)) (jo2 : Option (Bool)) : Nat → Int → Option (Bool)
  | 0, _ => none
  | k4 + 1, x5_4 => (if x5_4 < (l0_1.length : Int) then (if 0 ≤ IntKind.wrap .i64 (x5_4 - (1 : Int)) then (if IntKind.wrap .i64 (x5_4 - (1 : Int)) < (l0_1.length : Int) then lt (strOfNums ((l0_1).getD (IntKind.wrap .i64 (x5_4 - (1 : Int))).toNat ([] : List Int))) fun y53 => (if 0 ≤ x5_4 then lt (strOfNums ((l0_1).getD (x5_4).toNat ([] : List Int))) fun y62 => (if (Op.bytesLess y53.toList y62.toList) = true then (shadowboxlaw16_LeafFinds.lo4 l0_1 jo2 k4) (IntKind.wrap .i64 (x5_4 + (1 : Int))) else (leaf_Find.f k4 ((0 : Int), [[(98 : Int)]], ([] : List (List Int)), ([] : List (Int × Int × Int × Int × (Vc Int 32)))) ([(97 : Int)])).bind fun t68 => some (decide (t68 = (-1 : Int)))) else none) else none) else none) else jo2)
def shadowboxlaw16_LeafFinds.jo1 (k : Nat) (l1 : List Int) (l0_1 : List (List Int)) : Option (Bool) := shadowboxlaw16_LeafFinds.lo4 l0_1 (shadowboxlaw16_LeafFinds.jo2 k l1 l0_1) k (1 : Int)
def shadowboxlaw16_LeafFinds.f (k : Nat) (l0 : List (List Int)) (l1 : List Int) : Option (Bool) :=
  (if (l0.length : Int) > (300 : Int) then (if (300 : Int) ≤ (l0.length : Int) then lt (l0.take ((300 : Int)).toNat) fun xl77 => (shadowboxlaw16_LeafFinds.jo1 k l1) xl77 else none) else (shadowboxlaw16_LeafFinds.jo1 k l1) l0)
set_option maxRecDepth 100000 in
set_option maxHeartbeats 4000000 in
theorem shadowboxlaw16_LeafFinds.calls (k : Nat) (A0 : Option Addr) (c0 : Nat) (l0 : List (List Int)) (A1 : Option Addr) (c1 : Nat) (l1 : List Int) (r : Bool) (b : Bs) (hs0 : St b (stl []) b.w) (R0 : RoS 23 (Ec.int 5 .u8) b A0 l0) (C0 : l0.length ≤ c0) (R1 : Ro b A1 (em (Ec.int 5 .u8) l1)) (C1 : l1.length ≤ c1) (H : shadowboxlaw16_LeafFinds.f k l0 l1 = some r) :
    Calls Try.prog 3 #[.slice A0 l0.length c0, .slice A1 l1.length c1] b.w fun e w' => ∃ x : Unit, e = .returned (.bool r) ∧ St b (stl []) w' := by
  unfold shadowboxlaw16_LeafFinds.f at H
  refine enterb (n := 80) Try.func3 rfl (by kernel_rfl) (by kernel_rfl) hs0 ?_
  refine cs_sub (s0) (sub_nil _) ?_
  refine cs_seq ?_
  refine cs_region (l := [_]) ?_
  refine lv (.bool false) ?_
  refine ls_end ?_
  refine qn_then ?_
  refine cs_cut (fun f S => ∃ (fR : Fr) (A0_1 : Option Addr) (c0_1 : Nat) (l0_1 : List (List Int)), f = upd (upd fR 0 (.slice A0_1 l0_1.length c0_1)) 1 (.slice A1 l1.length c1) ∧ S = s0 ∧ RoS 23 (Ec.int 5 .u8) b A0_1 l0_1 ∧ l0_1.length ≤ c0_1 ∧ shadowboxlaw16_LeafFinds.jo1 k l1 l0_1 = some r) ?_ ?_
  · skip
    refine cs_seq ?_
    refine cs_region (l := [_, _, _]) ?_
    refine lv (.slice A0 l0.length c0) ?_
    refine lv (.int .i64 (l0.length : Int)) ?_
    refine lv (.bool (decide ((l0.length : Int) > (300 : Int)))) ?_
    refine ls_end ?_
    refine qn_then ?_
    by_cases q71 : (l0.length : Int) > (300 : Int)
    · replace H := ite_t q71 H
      refine cs_know (c := true) (dec_t q71) 9 (by kernel_rfl) ?_
      refine cs_true (by kernel_rfl) ?_
      refine cs_region (l := [_, _, _]) ?_
      refine lv (.slice A0 l0.length c0) ?_
      obtain ⟨q72, H⟩ := ite_need H
      obtain ⟨xl77, hy78, H⟩ := lt_some H
      have hz80 : 0 ≤ ((300 : Int)).toNat := by omega
      have hz81 : ((300 : Int)).toNat ≤ l0.length := by omega
      obtain ⟨xA73, xc74, he79, xC76, xR75⟩ := cutS_at (A := A0) (c := c0) (l := l0) 23 (Ec.int 5 .u8) ((300 : Int)).toNat hz81 C0 R0 (m := xl77) hy78.symm
      refine ls_cutv (A := A0) (c := c0) (m := l0.length) (z := 1) (e := 23) (a := 0) (b := ((300 : Int)).toNat) rfl rfl (by kernel_rfl) rfl (by kernel_rfl) (by kernel_rfl) (by kernel_rfl) (.inl ⟨rfl, rfl⟩) (.inr ⟨.i64, by rw [Int.toNat_of_nonneg (by first | assumption | omega)]; kernel_rfl⟩) hz80 hz81 C0 he79 ?_
      refine lv (.slice xA73 xl77.length xc74) ?_
      refine ls_end ?_
      refine qn_meet (s0) ⟨_, xA73, xc74, xl77, fr_next (fr_next (rfl) (by kernel_rfl)) (by kernel_rfl), rfl, xR75, xC76, H⟩ (sub_nil _)
    replace H := ite_f q71 H
    refine cs_know (c := false) (dec_f q71) 9 (by kernel_rfl) ?_
    refine cs_false (by kernel_rfl) ?_
    refine cs_skip' ?_
    refine qn_meet (s0) ⟨_, A0, c0, l0, fr_next (fr_next (rfl) (by kernel_rfl)) (by kernel_rfl), rfl, R0, C0, H⟩ (sub_nil _)
  rintro f S ⟨fr1, A0_1, c0_1, l0_1, rfl, rfl, R0_1, C0_1, H⟩
  replace H : (shadowboxlaw16_LeafFinds.lo4 l0_1 (shadowboxlaw16_LeafFinds.jo2 k l1 l0_1) k (1 : Int)) = some r := H
  refine cs_cut (fun f S => ∃ (fR : Fr), f = upd (upd fR 0 (.slice A0_1 l0_1.length c0_1)) 1 (.slice A1 l1.length c1) ∧ S = s0 ∧ shadowboxlaw16_LeafFinds.jo2 k l1 l0_1 = some r) ?_ ?_
  · skip
    refine cs_seq ?_
    refine cs_region (l := [_]) ?_
    refine lv (.int .i64 (1 : Int)) ?_
    refine ls_end ?_
    refine qn_then ?_
    refine cs_block ?_
    refine cs_sub (s0) (sub_nil _) ?_
    refine cs_loop (fun kk f S => ∃ (fR : Fr) (x5_4 : Int), f = upd (upd (upd fR 0 (.slice A0_1 l0_1.length c0_1)) 1 (.slice A1 l1.length c1)) 5 (.int .i64 x5_4) ∧ S = s0 ∧ shadowboxlaw16_LeafFinds.lo4 l0_1 (shadowboxlaw16_LeafFinds.jo2 k l1 l0_1) kk x5_4 = some r) k ?_ ?_ ?_
    · exact ⟨_, (1 : Int), fr_next (fr_next (fr_next (rfl) (by kernel_rfl)) (by kernel_rfl)) (by kernel_rfl), rfl, H⟩
    · rintro f S ⟨fr4, x5_4, rfl, rfl, H⟩; cases H
    rintro k4 f S ⟨fr4, x5_4, rfl, rfl, H⟩
    replace H : ((if x5_4 < (l0_1.length : Int) then (if 0 ≤ IntKind.wrap .i64 (x5_4 - (1 : Int)) then (if IntKind.wrap .i64 (x5_4 - (1 : Int)) < (l0_1.length : Int) then lt (strOfNums ((l0_1).getD (IntKind.wrap .i64 (x5_4 - (1 : Int))).toNat ([] : List Int))) fun y53 => (if 0 ≤ x5_4 then lt (strOfNums ((l0_1).getD (x5_4).toNat ([] : List Int))) fun y62 => (if (Op.bytesLess y53.toList y62.toList) = true then (shadowboxlaw16_LeafFinds.lo4 l0_1 (shadowboxlaw16_LeafFinds.jo2 k l1 l0_1) k4) (IntKind.wrap .i64 (x5_4 + (1 : Int))) else (leaf_Find.f k4 ((0 : Int), [[(98 : Int)]], ([] : List (List Int)), ([] : List (Int × Int × Int × Int × (Vc Int 32)))) ([(97 : Int)])).bind fun t68 => some (decide (t68 = (-1 : Int)))) else none) else none) else none) else (shadowboxlaw16_LeafFinds.jo2 k l1 l0_1))) = some r := H
    refine cs_seq ?_
    refine cs_seq ?_
    refine cs_region (l := [_, _, _, _]) ?_
    refine lv (.int .i64 x5_4) ?_
    refine lv (.slice A0_1 l0_1.length c0_1) ?_
    refine lv (.int .i64 (l0_1.length : Int)) ?_
    refine lv (.bool (decide (x5_4 < (l0_1.length : Int)))) ?_
    refine ls_end ?_
    refine qn_then ?_
    by_cases q42 : x5_4 < (l0_1.length : Int)
    · replace H := ite_t q42 H
      refine cs_know (c := true) (dec_t q42) 15 (by kernel_rfl) ?_
      refine cs_true (by kernel_rfl) ?_
      refine cs_skip' ?_
      refine qn_then ?_
      refine cs_seq ?_
      refine cs_block ?_
      refine cs_seq ?_
      obtain ⟨s44_0, hs44_0⟩ := exv (.slice A0_1 l0_1.length c0_1)
      refine have_opa shadowboxlaw16_LeafFinds.tab42 0 0 (fun sp => sp 0 = s44_0) (fun sp on hA hon => ?_) (fun ops44_0 => ?_)
      · refine ⟨fun o ho vs Rs f' S' w hp hf hx hS hR hs => ?_⟩
        obtain rfl := Option.some.inj ho
        exact opv (.slice A0_1 l0_1.length c0_1) hA hs44_0 hon (fr_next (rfl) ((hx 0 (by kernel_rfl)).trans (by kernel_rfl : (_ : Value) = .slice A0_1 l0_1.length c0_1)))
      obtain ⟨s44_1, hs44_1⟩ := exv (.int .i64 x5_4)
      refine have_opa shadowboxlaw16_LeafFinds.tab42 0 1 (fun sp => sp 1 = s44_1) (fun sp on hA hon => ?_) (fun ops44_1 => ?_)
      · refine ⟨fun o ho vs Rs f' S' w hp hf hx hS hR hs => ?_⟩
        obtain rfl := Option.some.inj ho
        exact opv (.int .i64 x5_4) hA hs44_1 hon (fr_next (rfl) ((hx 5 (by kernel_rfl)).trans (by kernel_rfl : (_ : Value) = .int .i64 x5_4)))
      obtain ⟨s44_2, hs44_2⟩ := exv (.int .i64 (IntKind.wrap .i64 (x5_4 - (1 : Int))))
      refine have_opa shadowboxlaw16_LeafFinds.tab42 0 2 (fun sp => sp 2 = s44_2 ∧ sp 1 = s44_1) (fun sp on hA hon => ?_) (fun ops44_2 => ?_)
      · refine ⟨fun o ho vs Rs f' S' w hp hf hx hS hR hs => ?_⟩
        obtain rfl := Option.some.inj ho
        obtain ⟨hv1, hR1⟩ := (spe hA.2 hs44_1 (hp 1 (by kernel_rfl)))
        exact opv (.int .i64 (IntKind.wrap .i64 (x5_4 - (1 : Int)))) hA.1 hs44_2 hon (fr_next (rfl) ((hf 1 19 (by kernel_rfl) rfl).trans hv1))
      obtain ⟨q45, H⟩ := ite_need H
      obtain ⟨q46, H⟩ := ite_need H
      obtain ⟨ad47, hA48⟩ := idoS_at (l := l0_1) (i := IntKind.wrap .i64 (x5_4 - (1 : Int))) R0_1 q45 q46
      obtain ⟨s44_3, hs44_3⟩ := exv (.pointer (some (ad47.add ((IntKind.wrap .i64 (x5_4 - (1 : Int))).toNat * 1))))
      refine have_opa shadowboxlaw16_LeafFinds.tab42 0 3 (fun sp => sp 3 = s44_3 ∧ sp 0 = s44_0 ∧ sp 2 = s44_2) (fun sp on hA hon => ?_) (fun ops44_3 => ?_)
      · refine ⟨fun o ho vs Rs f' S' w hp hf hx hS hR hs => ?_⟩
        obtain rfl := Option.some.inj ho
        obtain ⟨hv0, hR0⟩ := (spe hA.2.1 hs44_0 (hp 0 (by kernel_rfl)))
        obtain ⟨hv2, hR2⟩ := (spe hA.2.2 hs44_2 (hp 2 (by kernel_rfl)))
        rw [hA.1, hs44_3]
        refine wn hon ?_
        have hF := fr_next (fr_next (rfl) ((hf 0 18 (by kernel_rfl) rfl).trans hv0)) ((hf 2 20 (by kernel_rfl) rfl).trans hv2)
        refine ls_fr hF ?_
        refine ls_idxv (Ec.sld 23 Int) (A := A0_1) (c := c0_1) (l := l0_1) (k := .i64) (i := IntKind.wrap .i64 (x5_4 - (1 : Int))) (z := 1) (ad := ad47) rfl rfl (by kernel_rfl) hA48 rfl (by kernel_rfl) (by kernel_rfl) (by kernel_rfl) (by kernel_rfl) q45 q46 ?_
        exact ls_fin s0 _ (congrArg (fun z => upd z 21 _) hF.symm) ⟨rfl, rfl⟩ (sub_nil _)
      obtain ⟨xq49, hq50, xR51, xC52⟩ := RoS.el (l := l0_1) R0_1 hA48 (i := IntKind.wrap .i64 (x5_4 - (1 : Int))) q45 q46
      obtain ⟨s44_4, hs44_4⟩ := exv (.slice xq49.1 ((l0_1).getD (IntKind.wrap .i64 (x5_4 - (1 : Int))).toNat ([] : List Int)).length xq49.2)
      refine have_opa shadowboxlaw16_LeafFinds.tab42 0 4 (fun sp => sp 4 = s44_4 ∧ sp 3 = s44_3) (fun sp on hA hon => ?_) (fun ops44_4 => ?_)
      · refine ⟨fun o ho vs Rs f' S' w hp hf hx hS hR hs => ?_⟩
        obtain rfl := Option.some.inj ho
        obtain ⟨hv3, hR3⟩ := (spe hA.2 hs44_3 (hp 3 (by kernel_rfl)))
        rw [hA.1, hs44_4]
        refine wn hon ?_
        have hF := fr_next (rfl) ((hf 3 21 (by kernel_rfl) rfl).trans hv3)
        refine ls_fr hF ?_
        refine ls_load (a0 := (ad47.add ((IntKind.wrap .i64 (x5_4 - (1 : Int))).toNat * 1))) (v := .slice xq49.1 ((l0_1).getD (IntKind.wrap .i64 (x5_4 - (1 : Int))).toNat ([] : List Int)).length xq49.2) (de := (TypeDesc.slice 5)) rfl rfl (by kernel_rfl) rfl (by kernel_rfl) (by kernel_rfl) (by kernel_rfl) (fun w1 hs1 => (Rd.step (hs.old hq50) hs1.below.bw).cell0) ?_
        exact ls_fin s0 _ (congrArg (fun z => upd z 22 _) hF.symm) ⟨rfl, rfl⟩ (sub_nil _)
      obtain ⟨y53, hy54, H⟩ := lt_some H
      obtain ⟨s44_5, hs44_5⟩ := exv (.string y53)
      refine have_opa shadowboxlaw16_LeafFinds.tab42 0 5 (fun sp => sp 5 = s44_5 ∧ sp 4 = s44_4) (fun sp on hA hon => ?_) (fun ops44_5 => ?_)
      · refine ⟨fun o ho vs Rs f' S' w hp hf hx hS hR hs => ?_⟩
        obtain rfl := Option.some.inj ho
        obtain ⟨hv4, hR4⟩ := (spe hA.2 hs44_4 (hp 4 (by kernel_rfl)))
        rw [hA.1, hs44_5]
        refine wn hon ?_
        have hF := fr_next (rfl) ((hf 4 22 (by kernel_rfl) rfl).trans hv4)
        refine ls_fr hF ?_
        refine ls_str (A := xq49.1) (c := xq49.2) (e := 5) (l := ((l0_1).getD (IntKind.wrap .i64 (x5_4 - (1 : Int))).toNat ([] : List Int))) rfl rfl (by kernel_rfl) rfl (by kernel_rfl) (by kernel_rfl) (by kernel_rfl) (by kernel_rfl) (fun w1 hs1 => (Rd.step (hs.old xR51) hs1.below.bw)) ?_
        refine ls_ren 23 (v := .string (strOfNums ((l0_1).getD (IntKind.wrap .i64 (x5_4 - (1 : Int))).toNat ([] : List Int)))) (v' := .string y53) (by kernel_rfl) (by rw [hy54]) ?_
        exact ls_fin s0 _ ((upd_upd _ _ _ _).trans (congrArg (fun z => upd z 23 _) hF.symm)) ⟨rfl, rfl⟩ (sub_nil _)
      obtain ⟨s44_6, hs44_6⟩ := exv (.slice A0_1 l0_1.length c0_1)
      refine have_opa shadowboxlaw16_LeafFinds.tab42 0 6 (fun sp => sp 6 = s44_6) (fun sp on hA hon => ?_) (fun ops44_6 => ?_)
      · refine ⟨fun o ho vs Rs f' S' w hp hf hx hS hR hs => ?_⟩
        obtain rfl := Option.some.inj ho
        exact opv (.slice A0_1 l0_1.length c0_1) hA hs44_6 hon (fr_next (rfl) ((hx 0 (by kernel_rfl)).trans (by kernel_rfl : (_ : Value) = .slice A0_1 l0_1.length c0_1)))
      obtain ⟨s44_7, hs44_7⟩ := exv (.int .i64 x5_4)
      refine have_opa shadowboxlaw16_LeafFinds.tab42 0 7 (fun sp => sp 7 = s44_7) (fun sp on hA hon => ?_) (fun ops44_7 => ?_)
      · refine ⟨fun o ho vs Rs f' S' w hp hf hx hS hR hs => ?_⟩
        obtain rfl := Option.some.inj ho
        exact opv (.int .i64 x5_4) hA hs44_7 hon (fr_next (rfl) ((hx 5 (by kernel_rfl)).trans (by kernel_rfl : (_ : Value) = .int .i64 x5_4)))
      obtain ⟨q55, H⟩ := ite_need H
      obtain ⟨ad56, hA57⟩ := idoS_at (l := l0_1) (i := x5_4) R0_1 q55 q42
      obtain ⟨s44_8, hs44_8⟩ := exv (.pointer (some (ad56.add ((x5_4).toNat * 1))))
      refine have_opa shadowboxlaw16_LeafFinds.tab42 0 8 (fun sp => sp 8 = s44_8 ∧ sp 6 = s44_6 ∧ sp 7 = s44_7) (fun sp on hA hon => ?_) (fun ops44_8 => ?_)
      · refine ⟨fun o ho vs Rs f' S' w hp hf hx hS hR hs => ?_⟩
        obtain rfl := Option.some.inj ho
        obtain ⟨hv6, hR6⟩ := (spe hA.2.1 hs44_6 (hp 6 (by kernel_rfl)))
        obtain ⟨hv7, hR7⟩ := (spe hA.2.2 hs44_7 (hp 7 (by kernel_rfl)))
        rw [hA.1, hs44_8]
        refine wn hon ?_
        have hF := fr_next (fr_next (rfl) ((hf 6 24 (by kernel_rfl) rfl).trans hv6)) ((hf 7 25 (by kernel_rfl) rfl).trans hv7)
        refine ls_fr hF ?_
        refine ls_idxv (Ec.sld 23 Int) (A := A0_1) (c := c0_1) (l := l0_1) (k := .i64) (i := x5_4) (z := 1) (ad := ad56) rfl rfl (by kernel_rfl) hA57 rfl (by kernel_rfl) (by kernel_rfl) (by kernel_rfl) (by kernel_rfl) q55 q42 ?_
        exact ls_fin s0 _ (congrArg (fun z => upd z 26 _) hF.symm) ⟨rfl, rfl⟩ (sub_nil _)
      obtain ⟨xq58, hq59, xR60, xC61⟩ := RoS.el (l := l0_1) R0_1 hA57 (i := x5_4) q55 q42
      obtain ⟨s44_9, hs44_9⟩ := exv (.slice xq58.1 ((l0_1).getD (x5_4).toNat ([] : List Int)).length xq58.2)
      refine have_opa shadowboxlaw16_LeafFinds.tab42 0 9 (fun sp => sp 9 = s44_9 ∧ sp 8 = s44_8) (fun sp on hA hon => ?_) (fun ops44_9 => ?_)
      · refine ⟨fun o ho vs Rs f' S' w hp hf hx hS hR hs => ?_⟩
        obtain rfl := Option.some.inj ho
        obtain ⟨hv8, hR8⟩ := (spe hA.2 hs44_8 (hp 8 (by kernel_rfl)))
        rw [hA.1, hs44_9]
        refine wn hon ?_
        have hF := fr_next (rfl) ((hf 8 26 (by kernel_rfl) rfl).trans hv8)
        refine ls_fr hF ?_
        refine ls_load (a0 := (ad56.add ((x5_4).toNat * 1))) (v := .slice xq58.1 ((l0_1).getD (x5_4).toNat ([] : List Int)).length xq58.2) (de := (TypeDesc.slice 5)) rfl rfl (by kernel_rfl) rfl (by kernel_rfl) (by kernel_rfl) (by kernel_rfl) (fun w1 hs1 => (Rd.step (hs.old hq59) hs1.below.bw).cell0) ?_
        exact ls_fin s0 _ (congrArg (fun z => upd z 27 _) hF.symm) ⟨rfl, rfl⟩ (sub_nil _)
      obtain ⟨y62, hy63, H⟩ := lt_some H
      obtain ⟨s44_10, hs44_10⟩ := exv (.string y62)
      refine have_opa shadowboxlaw16_LeafFinds.tab42 0 10 (fun sp => sp 10 = s44_10 ∧ sp 9 = s44_9) (fun sp on hA hon => ?_) (fun ops44_10 => ?_)
      · refine ⟨fun o ho vs Rs f' S' w hp hf hx hS hR hs => ?_⟩
        obtain rfl := Option.some.inj ho
        obtain ⟨hv9, hR9⟩ := (spe hA.2 hs44_9 (hp 9 (by kernel_rfl)))
        rw [hA.1, hs44_10]
        refine wn hon ?_
        have hF := fr_next (rfl) ((hf 9 27 (by kernel_rfl) rfl).trans hv9)
        refine ls_fr hF ?_
        refine ls_str (A := xq58.1) (c := xq58.2) (e := 5) (l := ((l0_1).getD (x5_4).toNat ([] : List Int))) rfl rfl (by kernel_rfl) rfl (by kernel_rfl) (by kernel_rfl) (by kernel_rfl) (by kernel_rfl) (fun w1 hs1 => (Rd.step (hs.old xR60) hs1.below.bw)) ?_
        refine ls_ren 28 (v := .string (strOfNums ((l0_1).getD (x5_4).toNat ([] : List Int)))) (v' := .string y62) (by kernel_rfl) (by rw [hy63]) ?_
        exact ls_fin s0 _ ((upd_upd _ _ _ _).trans (congrArg (fun z => upd z 28 _) hF.symm)) ⟨rfl, rfl⟩ (sub_nil _)
      refine cs_draw shadowboxlaw16_LeafFinds.tab42 11 0 (spl [s44_0, s44_1, s44_2, s44_3, s44_4, s44_5, s44_6, s44_7, s44_8, s44_9, s44_10]) (onl [true, true, true, true, true, true, true, true, true, true, true]) (by kernel_rfl) (by kernel_rfl) (by kernel_rfl) (by kernel_rfl) (rs := [_]) rfl (by kernel_rfl) (by kernel_rfl) (all_snoc (all_snoc (all_snoc (all_snoc (all_snoc (all_snoc (all_snoc (all_snoc (all_snoc (all_snoc (all_snoc (all_nil) (ops44_0 _ _ rfl rfl)) (ops44_1 _ _ rfl rfl)) (ops44_2 _ _ ⟨rfl, rfl⟩ rfl)) (ops44_3 _ _ ⟨rfl, rfl, rfl⟩ rfl)) (ops44_4 _ _ ⟨rfl, rfl⟩ rfl)) (ops44_5 _ _ ⟨rfl, rfl⟩ rfl)) (ops44_6 _ _ rfl rfl)) (ops44_7 _ _ rfl rfl)) (ops44_8 _ _ ⟨rfl, rfl, rfl⟩ rfl)) (ops44_9 _ _ ⟨rfl, rfl⟩ rfl)) (ops44_10 _ _ ⟨rfl, rfl⟩ rfl)) ?_
      intro vs Rs f' S' hp hf hx hS hR
      obtain ⟨hv5, hR5⟩ := (spe rfl hs44_5 (hp 5 (by kernel_rfl)))
      obtain ⟨hv10, hR10⟩ := (spe rfl hs44_10 (hp 10 (by kernel_rfl)))
      refine ls_fr (F := upd (upd (upd (upd (upd f' 0 (.slice A0_1 l0_1.length c0_1)) 1 (.slice A1 l1.length c1)) 5 (.int .i64 x5_4)) 23 (.string y53)) 28 (.string y62)) (fr_next (fr_next (fr_next (fr_next (fr_next (rfl) ((hx 0 (by kernel_rfl)).trans (by kernel_rfl : (_ : Value) = .slice A0_1 l0_1.length c0_1))) ((hx 1 (by kernel_rfl)).trans (by kernel_rfl : (_ : Value) = .slice A1 l1.length c1))) ((hx 5 (by kernel_rfl)).trans (by kernel_rfl : (_ : Value) = .int .i64 x5_4))) ((hf 5 23 (by kernel_rfl) rfl).trans hv5)) ((hf 10 28 (by kernel_rfl) rfl).trans hv10)) ?_
      refine ls_sub (s0) (sub_nil _) ?_
      refine lv (.bool (!(Op.bytesLess y53.toList y62.toList))) ?_
      refine ls_end ?_
      refine qn_then ?_
      by_cases q64 : (Op.bytesLess y53.toList y62.toList) = true
      · replace H := ite_t q64 H
        refine cs_know (c := false) (congrArg Bool.not (q64)) 29 (by kernel_rfl) ?_
        refine cs_false (by kernel_rfl) ?_
        refine cs_skip' ?_
        refine qn_block ?_
        refine qn_then ?_
        refine cs_region (l := [_, _, _]) ?_
        refine lv (.int .i64 x5_4) ?_
        refine lv (.int .i64 (IntKind.wrap .i64 (x5_4 + (1 : Int)))) ?_
        refine lv (.int .i64 (IntKind.wrap .i64 (x5_4 + (1 : Int)))) ?_
        refine ls_end ?_
        refine qn_again k4 (s0) (Nat.le_refl _) ⟨_, (IntKind.wrap .i64 (x5_4 + (1 : Int))), fr_next (fr_next (fr_next (rfl) (by kernel_rfl)) (by kernel_rfl)) (by kernel_rfl), rfl, H⟩ (sub_nil _)
      replace H := ite_f q64 H
      refine cs_know (c := true) (congrArg Bool.not (Bool.eq_false_iff.mpr q64)) 29 (by kernel_rfl) ?_
      refine cs_true (by kernel_rfl) ?_
      refine cs_seq ?_
      refine cs_region (l := [_, _, _, _, _, _, _, _, _]) ?_
      refine ls_lit (Ec.int 5 .u8) 88 rfl rfl (by kernel_rfl) ([(98 : Int)]) (by exact of_decide_eq_true (by kernel_rfl)) (fun w => by kernel_rfl) ?_
      intro g65
      refine ls_conv (g := g65) (l := ([(98 : Int)])) (e := 5) 88 rfl rfl (by kernel_rfl) rfl (by kernel_rfl) (by kernel_rfl) (by kernel_rfl) (by exact rfl) ?_
      refine ls_lit (Ec.sls 23 Int) 89 rfl rfl (by kernel_rfl) [((((some ⟨g65, 0, none⟩) : Option Addr), [(98 : Int)].length), [(98 : Int)])] (by exact of_decide_eq_true (by kernel_rfl)) (fun w => by kernel_rfl) ?_
      intro g66
      refine lv (.agg ⟨([Value.int .i64 (0 : Int)] ++ ([Value.slice (some ⟨g66, 0, none⟩) [[(98 : Int)]].length [[(98 : Int)]].length] ++ ([Value.slice none 0 0] ++ [Value.slice none 0 0])))⟩) ?_
      refine ls_lit (Ec.int 5 .u8) 90 rfl rfl (by kernel_rfl) ([(97 : Int)]) (by exact of_decide_eq_true (by kernel_rfl)) (fun w => by kernel_rfl) ?_
      intro g67
      refine ls_conv (g := g67) (l := ([(97 : Int)])) (e := 5) 90 rfl rfl (by kernel_rfl) rfl (by kernel_rfl) (by kernel_rfl) (by kernel_rfl) (by exact rfl) ?_
      obtain ⟨t68, hc69, H⟩ := bind_some H
      refine ls_callb (fid := 9) (vals := #[.agg ⟨([Value.int .i64 (0 : Int)] ++ ([Value.slice (some ⟨g66, 0, none⟩) [[(98 : Int)]].length [[(98 : Int)]].length] ++ ([Value.slice none 0 0] ++ [Value.slice none 0 0])))⟩, .slice (some ⟨g67, 0, none⟩) ([(97 : Int)]).length [(97 : Int)].length]) (X := Unit) (fun x => .int .i64 t68) (fun x => stl []) [] [89, 90, 88] [] [Ck.sl (Ec.sls 23 Int) (some ⟨g66, 0, none⟩) ([((((some ⟨g65, 0, none⟩) : Option Addr), [(98 : Int)].length), [(98 : Int)])].length) ([((((some ⟨g65, 0, none⟩) : Option Addr), [(98 : Int)].length), [(98 : Int)])]), Ck.rs g67 (em (Ec.int 5 .u8) ([(97 : Int)])), Ck.rs g65 (em (Ec.int 5 .u8) ([(98 : Int)]))] 91 rfl rfl (by kernel_rfl) (fun w => by kernel_rfl) trivial ⟨by exact rfl, by exact rfl, by exact rfl, trivial⟩ (by decide) (fun w hs hb => leaf_Find.calls k4 (some ⟨g66, 0, none⟩) ([[(98 : Int)]].length) none 0 none 0 ((0 : Int), [[(98 : Int)]], ([] : List (List Int)), ([] : List (Int × Int × Int × Int × (Vc Int 32)))) (some ⟨g67, 0, none⟩) ([(97 : Int)].length) ([(97 : Int)]) t68 (lent b w [] [Ck.sl (Ec.sls 23 Int) (some ⟨g66, 0, none⟩) ([((((some ⟨g65, 0, none⟩) : Option Addr), [(98 : Int)].length), [(98 : Int)])].length) ([((((some ⟨g65, 0, none⟩) : Option Addr), [(98 : Int)].length), [(98 : Int)])]), Ck.rs g67 (em (Ec.int 5 .u8) ([(97 : Int)])), Ck.rs g65 (em (Ec.int 5 .u8) ([(98 : Int)]))]) hb (RoS.lit1 (hs.ror (k := 89) (by exact rfl) (.head _)) (Rd.ror (hs.rs (k := 88) (by exact rfl)) (.tail _ (.tail _ (.head _))) Ck.rs_key) (Nat.le_refl _)) (Nat.le_refl _) (RoS.nil _ _ _ _) (Nat.le_refl 0) (Ro.nil _ _) (Nat.le_refl 0) (Rd.ror (hs.rs (k := 90) (by exact rfl)) (.tail _ (.head _)) Ck.rs_key) (Nat.le_refl _) hc69) ?_
      intro x70
      refine lv (.bool (decide (t68 = (-1 : Int)))) ?_
      refine lv (.bool (decide (t68 = (-1 : Int)))) ?_
      refine ls_end ?_
      refine qn_then ?_
      refine cs_ret' ?_
      refine qr_block ?_
      refine qr_then ?_
      refine qr_then ?_
      refine qr_block ?_
      refine qr_then ?_
      obtain rfl := Option.some.inj H
      refine qr_res (rs := [_]) rfl (fun w' hs => ⟨[.bool (decide (t68 = (-1 : Int)))], (res_tmp (by kernel_rfl) (.nil)), (), rfl, hs.pick (ts := []) (cs := []) trivial (by decide)⟩)
    replace H := ite_f q42 H
    refine cs_know (c := false) (dec_f q42) 15 (by kernel_rfl) ?_
    refine cs_false (by kernel_rfl) ?_
    refine cs_exit' ?_
    refine qx_then ?_
    refine qx_then ?_
    refine qx_same ?_
    refine qn_meet (s0) ⟨_, fr_next (fr_next (rfl) (by kernel_rfl)) (by kernel_rfl), rfl, H⟩ (sub_nil _)
  rintro f S ⟨fr2, rfl, rfl, H⟩
  replace H : ((leaf_Find.f k ((0 : Int), l0_1, ([] : List (List Int)), ([] : List (Int × Int × Int × Int × (Vc Int 32)))) l1).bind fun t1 => (if t1 < (-1 : Int) then some false else (if t1 ≥ (l0_1.length : Int) then some false else (shadowboxlaw16_LeafFinds.jo3 l1 l0_1 t1)))) = some r := H
  refine cs_seq ?_
  refine cs_region (l := [_, _, _, _, _]) ?_
  refine lv (.slice A0_1 l0_1.length c0_1) ?_
  refine lv (.agg ⟨([Value.int .i64 (0 : Int)] ++ ([Value.slice A0_1 l0_1.length c0_1] ++ ([Value.slice none 0 0] ++ [Value.slice none 0 0])))⟩) ?_
  refine lv (.slice A1 l1.length c1) ?_
  obtain ⟨t1, hc2, H⟩ := bind_some H
  refine ls_callb (fid := 9) (vals := #[.agg ⟨([Value.int .i64 (0 : Int)] ++ ([Value.slice A0_1 l0_1.length c0_1] ++ ([Value.slice none 0 0] ++ [Value.slice none 0 0])))⟩, .slice A1 l1.length c1]) (X := Unit) (fun x => .int .i64 t1) (fun x => stl []) [] [] [] [] 0 rfl rfl (by kernel_rfl) (fun w => by kernel_rfl) trivial trivial (by decide) (fun w hs hb => leaf_Find.calls k A0_1 c0_1 none 0 none 0 ((0 : Int), l0_1, ([] : List (List Int)), ([] : List (Int × Int × Int × Int × (Vc Int 32)))) A1 c1 l1 t1 (lent b w [] []) hb (hs.roS R0_1 _ _) C0_1 (RoS.nil _ _ _ _) (Nat.le_refl 0) (Ro.nil _ _) (Nat.le_refl 0) (hs.ro R1 _ _) C1 hc2) ?_
  intro x3
  refine lv (.int .i64 t1) ?_
  refine ls_end ?_
  refine qn_then ?_
  refine cs_cut (fun f S => ∃ (fR : Fr), f = upd (upd (upd fR 0 (.slice A0_1 l0_1.length c0_1)) 1 (.slice A1 l1.length c1)) 6 (.int .i64 t1) ∧ S = s0 ∧ shadowboxlaw16_LeafFinds.jo3 l1 l0_1 t1 = some r) ?_ ?_
  · skip
    refine cs_seq ?_
    refine cs_region (l := [_, _, _, _, _, _, _, _]) ?_
    refine lv (.int .i64 t1) ?_
    refine lv (.bool (decide (t1 < (-1 : Int)))) ?_
    refine lv (.bool (decide (t1 < (-1 : Int)))) ?_
    by_cases q40 : t1 < (-1 : Int)
    · replace H := ite_t q40 H
      refine ls_know (c := true) (dec_t q40) 44 (by kernel_rfl) ?_
      refine lofx 2 44 false true ?_
      refine lofx 2 44 false true ?_
      refine lofx 2 44 false true ?_
      refine lofx 2 44 false true ?_
      refine lv (.bool true) ?_
      refine ls_end ?_
      refine qn_then ?_
      refine cs_true (by kernel_rfl) ?_
      refine cs_seq ?_
      refine cs_region (l := [_]) ?_
      refine lv (.bool false) ?_
      refine ls_end ?_
      refine qn_then ?_
      refine cs_ret' ?_
      refine qr_then ?_
      obtain rfl := Option.some.inj H
      refine qr_res (rs := [_]) rfl (fun w' hs => ⟨[.bool false], (res_tmp (by kernel_rfl) (.nil)), (), rfl, hs.pick (ts := []) (cs := []) trivial (by decide)⟩)
    replace H := ite_f q40 H
    refine ls_know (c := false) (dec_f q40) 44 (by kernel_rfl) ?_
    refine ls_on (j := 2) (t := 44) (b := false) rfl rfl (by kernel_rfl) (by kernel_rfl) ?_
    refine lv (.int .i64 t1) ?_
    refine ls_on (j := 2) (t := 44) (b := false) rfl rfl (by kernel_rfl) (by kernel_rfl) ?_
    refine lv (.slice A0_1 l0_1.length c0_1) ?_
    refine ls_on (j := 2) (t := 44) (b := false) rfl rfl (by kernel_rfl) (by kernel_rfl) ?_
    refine lv (.int .i64 (l0_1.length : Int)) ?_
    refine ls_on (j := 2) (t := 44) (b := false) rfl rfl (by kernel_rfl) (by kernel_rfl) ?_
    refine lv (.bool (decide (t1 ≥ (l0_1.length : Int)))) ?_
    refine lv (.bool (decide (t1 ≥ (l0_1.length : Int)))) ?_
    refine ls_end ?_
    refine qn_then ?_
    by_cases q41 : t1 ≥ (l0_1.length : Int)
    · replace H := ite_t q41 H
      refine cs_know (c := true) (dec_t q41) 49 (by kernel_rfl) ?_
      refine cs_true (by kernel_rfl) ?_
      refine cs_seq ?_
      refine cs_region (l := [_]) ?_
      refine lv (.bool false) ?_
      refine ls_end ?_
      refine qn_then ?_
      refine cs_ret' ?_
      refine qr_then ?_
      obtain rfl := Option.some.inj H
      refine qr_res (rs := [_]) rfl (fun w' hs => ⟨[.bool false], (res_tmp (by kernel_rfl) (.nil)), (), rfl, hs.pick (ts := []) (cs := []) trivial (by decide)⟩)
    replace H := ite_f q41 H
    refine cs_know (c := false) (dec_f q41) 49 (by kernel_rfl) ?_
    refine cs_false (by kernel_rfl) ?_
    refine cs_skip' ?_
    refine qn_meet (s0) ⟨_, fr_next (fr_next (fr_next (rfl) (by kernel_rfl)) (by kernel_rfl)) (by kernel_rfl), rfl, H⟩ (sub_nil _)
  rintro f S ⟨fr3, rfl, rfl, H⟩
  replace H : ((if t1 < (0 : Int) then (if (IntKind.wrap .i64 (t1 + (1 : Int))) ≥ (l0_1.length : Int) then some true else (if 0 ≤ IntKind.wrap .i64 (t1 + (1 : Int)) then (if IntKind.wrap .i64 (t1 + (1 : Int)) < (l0_1.length : Int) then lt (strOfNums ((l0_1).getD (IntKind.wrap .i64 (t1 + (1 : Int))).toNat ([] : List Int))) fun y16 => some (!(Op.bytesLess y16.toList (strOfNums l1).toList || (y16.toList == (strOfNums l1).toList))) else none) else none)) else (if 0 ≤ t1 then (if t1 < (l0_1.length : Int) then lt (strOfNums ((l0_1).getD (t1).toNat ([] : List Int))) fun y26 => (if (Op.bytesLess y26.toList (strOfNums l1).toList || (y26.toList == (strOfNums l1).toList)) = true then (if (IntKind.wrap .i64 (t1 + (1 : Int))) ≥ (l0_1.length : Int) then some true else (if 0 ≤ IntKind.wrap .i64 (t1 + (1 : Int)) then (if IntKind.wrap .i64 (t1 + (1 : Int)) < (l0_1.length : Int) then lt (strOfNums ((l0_1).getD (IntKind.wrap .i64 (t1 + (1 : Int))).toNat ([] : List Int))) fun y38 => some (!(Op.bytesLess y38.toList (strOfNums l1).toList || (y38.toList == (strOfNums l1).toList))) else none) else none)) else some false) else none) else none))) = some r := H
  refine cs_seq ?_
  obtain ⟨s5_0, hs5_0⟩ := exv (.int .i64 t1)
  refine have_opa shadowboxlaw16_LeafFinds.tab3 0 0 (fun sp => sp 0 = s5_0) (fun sp on hA hon => ?_) (fun ops5_0 => ?_)
  · refine ⟨fun o ho vs Rs f' S' w hp hf hx hS hR hs => ?_⟩
    obtain rfl := Option.some.inj ho
    exact opv (.int .i64 t1) hA hs5_0 hon (fr_next (rfl) ((hx 6 (by kernel_rfl)).trans (by kernel_rfl : (_ : Value) = .int .i64 t1)))
  obtain ⟨s5_1, hs5_1⟩ := exv (.bool (decide (t1 < (0 : Int))))
  refine have_opa shadowboxlaw16_LeafFinds.tab3 0 1 (fun sp => sp 1 = s5_1 ∧ sp 0 = s5_0) (fun sp on hA hon => ?_) (fun ops5_1 => ?_)
  · refine ⟨fun o ho vs Rs f' S' w hp hf hx hS hR hs => ?_⟩
    obtain rfl := Option.some.inj ho
    obtain ⟨hv0, hR0⟩ := (spe hA.2 hs5_0 (hp 0 (by kernel_rfl)))
    exact opv (.bool (decide (t1 < (0 : Int)))) hA.1 hs5_1 hon (fr_next (rfl) ((hf 0 50 (by kernel_rfl) rfl).trans hv0))
  obtain ⟨s5_2, hs5_2⟩ := exv (.bool (decide (t1 < (0 : Int))))
  refine have_opa shadowboxlaw16_LeafFinds.tab3 0 2 (fun sp => sp 2 = s5_2 ∧ sp 1 = s5_1) (fun sp on hA hon => ?_) (fun ops5_2 => ?_)
  · refine ⟨fun o ho vs Rs f' S' w hp hf hx hS hR hs => ?_⟩
    obtain rfl := Option.some.inj ho
    obtain ⟨hv1, hR1⟩ := (spe hA.2 hs5_1 (hp 1 (by kernel_rfl)))
    exact opv (.bool (decide (t1 < (0 : Int)))) hA.1 hs5_2 hon (fr_next (rfl) ((hf 1 51 (by kernel_rfl) rfl).trans hv1))
  by_cases q6 : t1 < (0 : Int)
  · replace H := ite_t q6 H
    obtain ⟨s5_11, hs5_11⟩ := exv (.bool true)
    refine have_opa shadowboxlaw16_LeafFinds.tab3 0 11 (fun sp => sp 11 = s5_11 ∧ sp 2 = s5_2 ∧ sp 10 = spu) (fun sp on hA hon => ?_) (fun ops5_11 => ?_)
    · refine ⟨fun o ho vs Rs f' S' w hp hf hx hS hR hs => ?_⟩
      obtain rfl := Option.some.inj ho
      obtain ⟨hv2, hR2⟩ := (spe hA.2.1 hs5_2 (hp 2 (by kernel_rfl)))
      obtain ⟨hv10, hR10⟩ := (spe hA.2.2 rfl (hp 10 (by kernel_rfl)) : spu _ _)
      exact opv (.bool true) hA.1 hs5_11 hon (fr_next (fr_next (rfl) (((hf 2 52 (by kernel_rfl) rfl).trans hv2).trans (congrArg Value.bool (show (decide (t1 < (0 : Int))) = true from dec_t q6)))) ((hf 10 60 (by kernel_rfl) rfl).trans hv10))
    obtain ⟨s5_12, hs5_12⟩ := exv (.bool true)
    refine have_opa shadowboxlaw16_LeafFinds.tab3 0 12 (fun sp => sp 12 = s5_12 ∧ sp 11 = s5_11) (fun sp on hA hon => ?_) (fun ops5_12 => ?_)
    · refine ⟨fun o ho vs Rs f' S' w hp hf hx hS hR hs => ?_⟩
      obtain rfl := Option.some.inj ho
      obtain ⟨hv11, hR11⟩ := (spe hA.2 hs5_11 (hp 11 (by kernel_rfl)))
      exact opv (.bool true) hA.1 hs5_12 hon (fr_next (rfl) ((hf 11 61 (by kernel_rfl) rfl).trans hv11))
    obtain ⟨s5_13, hs5_13⟩ := exv (.int .i64 t1)
    refine have_opa shadowboxlaw16_LeafFinds.tab3 0 13 (fun sp => sp 13 = s5_13 ∧ sp 12 = s5_12) (fun sp on hA hon => ?_) (fun ops5_13 => ?_)
    · refine ⟨fun o ho vs Rs f' S' w hp hf hx hS hR hs => ?_⟩
      obtain rfl := Option.some.inj ho
      obtain ⟨hv12, hR12⟩ := (spe hA.2 hs5_12 (hp 12 (by kernel_rfl)))
      rw [hA.1, hs5_13]
      refine And.intro (fun a ha => (want_is (j := 12) (t := 62) (r := true) rfl rfl (by kernel_rfl) ((hf 12 62 (by kernel_rfl) rfl).trans hv12) rfl a ha).trans hon.symm) (And.intro (fun _ => ?_) (fun h => by rw [hon] at h; cases h))
      have hF := fr_next (fr_next (rfl) ((hx 6 (by kernel_rfl)).trans (by kernel_rfl : (_ : Value) = .int .i64 t1))) ((hf 12 62 (by kernel_rfl) rfl).trans hv12)
      refine ls_fr hF ?_
      refine lv (.int .i64 t1) ?_
      exact ls_fin s0 _ (congrArg (fun z => upd z 63 _) hF.symm) ⟨rfl, rfl⟩ (sub_nil _)
    obtain ⟨s5_14, hs5_14⟩ := exv (.int .i64 (IntKind.wrap .i64 (t1 + (1 : Int))))
    refine have_opa shadowboxlaw16_LeafFinds.tab3 0 14 (fun sp => sp 14 = s5_14 ∧ sp 12 = s5_12 ∧ sp 13 = s5_13) (fun sp on hA hon => ?_) (fun ops5_14 => ?_)
    · refine ⟨fun o ho vs Rs f' S' w hp hf hx hS hR hs => ?_⟩
      obtain rfl := Option.some.inj ho
      obtain ⟨hv12, hR12⟩ := (spe hA.2.1 hs5_12 (hp 12 (by kernel_rfl)))
      obtain ⟨hv13, hR13⟩ := (spe hA.2.2 hs5_13 (hp 13 (by kernel_rfl)))
      rw [hA.1, hs5_14]
      refine And.intro (fun a ha => (want_is (j := 12) (t := 62) (r := true) rfl rfl (by kernel_rfl) ((hf 12 62 (by kernel_rfl) rfl).trans hv12) rfl a ha).trans hon.symm) (And.intro (fun _ => ?_) (fun h => by rw [hon] at h; cases h))
      have hF := fr_next (fr_next (rfl) ((hf 12 62 (by kernel_rfl) rfl).trans hv12)) ((hf 13 63 (by kernel_rfl) rfl).trans hv13)
      refine ls_fr hF ?_
      refine lv (.int .i64 (IntKind.wrap .i64 (t1 + (1 : Int)))) ?_
      exact ls_fin s0 _ (congrArg (fun z => upd z 64 _) hF.symm) ⟨rfl, rfl⟩ (sub_nil _)
    obtain ⟨s5_15, hs5_15⟩ := exv (.slice A0_1 l0_1.length c0_1)
    refine have_opa shadowboxlaw16_LeafFinds.tab3 0 15 (fun sp => sp 15 = s5_15 ∧ sp 12 = s5_12) (fun sp on hA hon => ?_) (fun ops5_15 => ?_)
    · refine ⟨fun o ho vs Rs f' S' w hp hf hx hS hR hs => ?_⟩
      obtain rfl := Option.some.inj ho
      obtain ⟨hv12, hR12⟩ := (spe hA.2 hs5_12 (hp 12 (by kernel_rfl)))
      rw [hA.1, hs5_15]
      refine And.intro (fun a ha => (want_is (j := 12) (t := 62) (r := true) rfl rfl (by kernel_rfl) ((hf 12 62 (by kernel_rfl) rfl).trans hv12) rfl a ha).trans hon.symm) (And.intro (fun _ => ?_) (fun h => by rw [hon] at h; cases h))
      have hF := fr_next (fr_next (rfl) ((hx 0 (by kernel_rfl)).trans (by kernel_rfl : (_ : Value) = .slice A0_1 l0_1.length c0_1))) ((hf 12 62 (by kernel_rfl) rfl).trans hv12)
      refine ls_fr hF ?_
      refine lv (.slice A0_1 l0_1.length c0_1) ?_
      exact ls_fin s0 _ (congrArg (fun z => upd z 65 _) hF.symm) ⟨rfl, rfl⟩ (sub_nil _)
    obtain ⟨s5_16, hs5_16⟩ := exv (.int .i64 (l0_1.length : Int))
    refine have_opa shadowboxlaw16_LeafFinds.tab3 0 16 (fun sp => sp 16 = s5_16 ∧ sp 12 = s5_12 ∧ sp 15 = s5_15) (fun sp on hA hon => ?_) (fun ops5_16 => ?_)
    · refine ⟨fun o ho vs Rs f' S' w hp hf hx hS hR hs => ?_⟩
      obtain rfl := Option.some.inj ho
      obtain ⟨hv12, hR12⟩ := (spe hA.2.1 hs5_12 (hp 12 (by kernel_rfl)))
      obtain ⟨hv15, hR15⟩ := (spe hA.2.2 hs5_15 (hp 15 (by kernel_rfl)))
      rw [hA.1, hs5_16]
      refine And.intro (fun a ha => (want_is (j := 12) (t := 62) (r := true) rfl rfl (by kernel_rfl) ((hf 12 62 (by kernel_rfl) rfl).trans hv12) rfl a ha).trans hon.symm) (And.intro (fun _ => ?_) (fun h => by rw [hon] at h; cases h))
      have hF := fr_next (fr_next (rfl) ((hf 12 62 (by kernel_rfl) rfl).trans hv12)) ((hf 15 65 (by kernel_rfl) rfl).trans hv15)
      refine ls_fr hF ?_
      refine lv (.int .i64 (l0_1.length : Int)) ?_
      exact ls_fin s0 _ (congrArg (fun z => upd z 66 _) hF.symm) ⟨rfl, rfl⟩ (sub_nil _)
    obtain ⟨s5_17, hs5_17⟩ := exv (.bool (decide ((IntKind.wrap .i64 (t1 + (1 : Int))) ≥ (l0_1.length : Int))))
    refine have_opa shadowboxlaw16_LeafFinds.tab3 0 17 (fun sp => sp 17 = s5_17 ∧ sp 12 = s5_12 ∧ sp 14 = s5_14 ∧ sp 16 = s5_16) (fun sp on hA hon => ?_) (fun ops5_17 => ?_)
    · refine ⟨fun o ho vs Rs f' S' w hp hf hx hS hR hs => ?_⟩
      obtain rfl := Option.some.inj ho
      obtain ⟨hv12, hR12⟩ := (spe hA.2.1 hs5_12 (hp 12 (by kernel_rfl)))
      obtain ⟨hv14, hR14⟩ := (spe hA.2.2.1 hs5_14 (hp 14 (by kernel_rfl)))
      obtain ⟨hv16, hR16⟩ := (spe hA.2.2.2 hs5_16 (hp 16 (by kernel_rfl)))
      rw [hA.1, hs5_17]
      refine And.intro (fun a ha => (want_is (j := 12) (t := 62) (r := true) rfl rfl (by kernel_rfl) ((hf 12 62 (by kernel_rfl) rfl).trans hv12) rfl a ha).trans hon.symm) (And.intro (fun _ => ?_) (fun h => by rw [hon] at h; cases h))
      have hF := fr_next (fr_next (fr_next (rfl) ((hf 12 62 (by kernel_rfl) rfl).trans hv12)) ((hf 14 64 (by kernel_rfl) rfl).trans hv14)) ((hf 16 66 (by kernel_rfl) rfl).trans hv16)
      refine ls_fr hF ?_
      refine lv (.bool (decide ((IntKind.wrap .i64 (t1 + (1 : Int))) ≥ (l0_1.length : Int)))) ?_
      exact ls_fin s0 _ (congrArg (fun z => upd z 67 _) hF.symm) ⟨rfl, rfl⟩ (sub_nil _)
    obtain ⟨s5_18, hs5_18⟩ := exv (.bool (decide ((IntKind.wrap .i64 (t1 + (1 : Int))) ≥ (l0_1.length : Int))))
    refine have_opa shadowboxlaw16_LeafFinds.tab3 0 18 (fun sp => sp 18 = s5_18 ∧ sp 12 = s5_12 ∧ sp 17 = s5_17) (fun sp on hA hon => ?_) (fun ops5_18 => ?_)
    · refine ⟨fun o ho vs Rs f' S' w hp hf hx hS hR hs => ?_⟩
      obtain rfl := Option.some.inj ho
      obtain ⟨hv12, hR12⟩ := (spe hA.2.1 hs5_12 (hp 12 (by kernel_rfl)))
      obtain ⟨hv17, hR17⟩ := (spe hA.2.2 hs5_17 (hp 17 (by kernel_rfl)))
      rw [hA.1, hs5_18]
      refine And.intro (fun a ha => (want_is (j := 12) (t := 62) (r := true) rfl rfl (by kernel_rfl) ((hf 12 62 (by kernel_rfl) rfl).trans hv12) rfl a ha).trans hon.symm) (And.intro (fun _ => ?_) (fun h => by rw [hon] at h; cases h))
      have hF := fr_next (fr_next (rfl) ((hf 12 62 (by kernel_rfl) rfl).trans hv12)) ((hf 17 67 (by kernel_rfl) rfl).trans hv17)
      refine ls_fr hF ?_
      refine lv (.bool (decide ((IntKind.wrap .i64 (t1 + (1 : Int))) ≥ (l0_1.length : Int)))) ?_
      exact ls_fin s0 _ (congrArg (fun z => upd z 68 _) hF.symm) ⟨rfl, rfl⟩ (sub_nil _)
    by_cases q7 : (IntKind.wrap .i64 (t1 + (1 : Int))) ≥ (l0_1.length : Int)
    · replace H := ite_t q7 H
      refine cs_draw shadowboxlaw16_LeafFinds.tab3 27 0 (spl [s5_0, s5_1, s5_2, spu, spu, spu, spu, spu, spu, spu, spu, s5_11, s5_12, s5_13, s5_14, s5_15, s5_16, s5_17, s5_18, spu, spu, spu, spu, spu, spu, spu, spu]) (onl [true, true, true, false, false, false, false, false, false, false, false, true, true, true, true, true, true, true, true, false, false, false, false, false, false, false, false]) (by kernel_rfl) (by kernel_rfl) (by kernel_rfl) (by kernel_rfl) (rs := [_, _, _, _]) rfl (by kernel_rfl) (by kernel_rfl) (all_snoc (all_snoc (all_snoc (all_snoc (all_snoc (all_snoc (all_snoc (all_snoc (all_snoc (all_snoc (all_snoc (all_snoc (all_snoc (all_snoc (all_snoc (all_snoc (all_snoc (all_snoc (all_snoc (all_snoc (all_snoc (all_snoc (all_snoc (all_snoc (all_snoc (all_snoc (all_snoc (all_nil) (ops5_0 _ _ rfl rfl)) (ops5_1 _ _ ⟨rfl, rfl⟩ rfl)) (ops5_2 _ _ ⟨rfl, rfl⟩ rfl)) (op_offi 3 2 52 false rfl rfl (by kernel_rfl) (by kernel_rfl) rfl (fun v R h => by rw [hs5_2] at h; obtain ⟨h, _⟩ := h; exact h.trans (congrArg Value.bool (show (decide (t1 < (0 : Int))) = true from dec_t q6))) rfl rfl)) (op_offi 4 2 52 false rfl rfl (by kernel_rfl) (by kernel_rfl) rfl (fun v R h => by rw [hs5_2] at h; obtain ⟨h, _⟩ := h; exact h.trans (congrArg Value.bool (show (decide (t1 < (0 : Int))) = true from dec_t q6))) rfl rfl)) (op_offi 5 2 52 false rfl rfl (by kernel_rfl) (by kernel_rfl) rfl (fun v R h => by rw [hs5_2] at h; obtain ⟨h, _⟩ := h; exact h.trans (congrArg Value.bool (show (decide (t1 < (0 : Int))) = true from dec_t q6))) rfl rfl)) (op_offi 6 2 52 false rfl rfl (by kernel_rfl) (by kernel_rfl) rfl (fun v R h => by rw [hs5_2] at h; obtain ⟨h, _⟩ := h; exact h.trans (congrArg Value.bool (show (decide (t1 < (0 : Int))) = true from dec_t q6))) rfl rfl)) (op_offi 7 2 52 false rfl rfl (by kernel_rfl) (by kernel_rfl) rfl (fun v R h => by rw [hs5_2] at h; obtain ⟨h, _⟩ := h; exact h.trans (congrArg Value.bool (show (decide (t1 < (0 : Int))) = true from dec_t q6))) rfl rfl)) (op_offi 8 2 52 false rfl rfl (by kernel_rfl) (by kernel_rfl) rfl (fun v R h => by rw [hs5_2] at h; obtain ⟨h, _⟩ := h; exact h.trans (congrArg Value.bool (show (decide (t1 < (0 : Int))) = true from dec_t q6))) rfl rfl)) (op_offi 9 2 52 false rfl rfl (by kernel_rfl) (by kernel_rfl) rfl (fun v R h => by rw [hs5_2] at h; obtain ⟨h, _⟩ := h; exact h.trans (congrArg Value.bool (show (decide (t1 < (0 : Int))) = true from dec_t q6))) rfl rfl)) (op_offi 10 2 52 false rfl rfl (by kernel_rfl) (by kernel_rfl) rfl (fun v R h => by rw [hs5_2] at h; obtain ⟨h, _⟩ := h; exact h.trans (congrArg Value.bool (show (decide (t1 < (0 : Int))) = true from dec_t q6))) rfl rfl)) (ops5_11 _ _ ⟨rfl, rfl, rfl⟩ rfl)) (ops5_12 _ _ ⟨rfl, rfl⟩ rfl)) (ops5_13 _ _ ⟨rfl, rfl⟩ rfl)) (ops5_14 _ _ ⟨rfl, rfl, rfl⟩ rfl)) (ops5_15 _ _ ⟨rfl, rfl⟩ rfl)) (ops5_16 _ _ ⟨rfl, rfl, rfl⟩ rfl)) (ops5_17 _ _ ⟨rfl, rfl, rfl, rfl⟩ rfl)) (ops5_18 _ _ ⟨rfl, rfl, rfl⟩ rfl)) (op_offi 19 18 68 false rfl rfl (by kernel_rfl) (by kernel_rfl) rfl (fun v R h => by rw [hs5_18] at h; obtain ⟨h, _⟩ := h; exact h.trans (congrArg Value.bool (show (decide ((IntKind.wrap .i64 (t1 + (1 : Int))) ≥ (l0_1.length : Int))) = true from dec_t q7))) rfl rfl)) (op_offi 20 18 68 false rfl rfl (by kernel_rfl) (by kernel_rfl) rfl (fun v R h => by rw [hs5_18] at h; obtain ⟨h, _⟩ := h; exact h.trans (congrArg Value.bool (show (decide ((IntKind.wrap .i64 (t1 + (1 : Int))) ≥ (l0_1.length : Int))) = true from dec_t q7))) rfl rfl)) (op_offi 21 18 68 false rfl rfl (by kernel_rfl) (by kernel_rfl) rfl (fun v R h => by rw [hs5_18] at h; obtain ⟨h, _⟩ := h; exact h.trans (congrArg Value.bool (show (decide ((IntKind.wrap .i64 (t1 + (1 : Int))) ≥ (l0_1.length : Int))) = true from dec_t q7))) rfl rfl)) (op_offi 22 18 68 false rfl rfl (by kernel_rfl) (by kernel_rfl) rfl (fun v R h => by rw [hs5_18] at h; obtain ⟨h, _⟩ := h; exact h.trans (congrArg Value.bool (show (decide ((IntKind.wrap .i64 (t1 + (1 : Int))) ≥ (l0_1.length : Int))) = true from dec_t q7))) rfl rfl)) (op_offi 23 18 68 false rfl rfl (by kernel_rfl) (by kernel_rfl) rfl (fun v R h => by rw [hs5_18] at h; obtain ⟨h, _⟩ := h; exact h.trans (congrArg Value.bool (show (decide ((IntKind.wrap .i64 (t1 + (1 : Int))) ≥ (l0_1.length : Int))) = true from dec_t q7))) rfl rfl)) (op_offi 24 18 68 false rfl rfl (by kernel_rfl) (by kernel_rfl) rfl (fun v R h => by rw [hs5_18] at h; obtain ⟨h, _⟩ := h; exact h.trans (congrArg Value.bool (show (decide ((IntKind.wrap .i64 (t1 + (1 : Int))) ≥ (l0_1.length : Int))) = true from dec_t q7))) rfl rfl)) (op_offi 25 18 68 false rfl rfl (by kernel_rfl) (by kernel_rfl) rfl (fun v R h => by rw [hs5_18] at h; obtain ⟨h, _⟩ := h; exact h.trans (congrArg Value.bool (show (decide ((IntKind.wrap .i64 (t1 + (1 : Int))) ≥ (l0_1.length : Int))) = true from dec_t q7))) rfl rfl)) (op_offi 26 18 68 false rfl rfl (by kernel_rfl) (by kernel_rfl) rfl (fun v R h => by rw [hs5_18] at h; obtain ⟨h, _⟩ := h; exact h.trans (congrArg Value.bool (show (decide ((IntKind.wrap .i64 (t1 + (1 : Int))) ≥ (l0_1.length : Int))) = true from dec_t q7))) rfl rfl)) ?_
      intro vs Rs f' S' hp hf hx hS hR
      obtain ⟨hv12, hR12⟩ := (spe rfl hs5_12 (hp 12 (by kernel_rfl)))
      obtain ⟨hv18, hR18⟩ := (spe rfl hs5_18 (hp 18 (by kernel_rfl)))
      obtain ⟨hv24, hR24⟩ := (spe rfl rfl (hp 24 (by kernel_rfl)) : spu _ _)
      obtain ⟨hv26, hR26⟩ := (spe rfl rfl (hp 26 (by kernel_rfl)) : spu _ _)
      refine ls_fr (F := upd (upd f' 62 (.bool true)) 68 (.bool (decide ((IntKind.wrap .i64 (t1 + (1 : Int))) ≥ (l0_1.length : Int))))) (fr_next (fr_next (rfl) ((hf 12 62 (by kernel_rfl) rfl).trans hv12)) ((hf 18 68 (by kernel_rfl) rfl).trans hv18)) ?_
      refine ls_sub (s0) (sub_nil _) ?_
      refine ls_know (c := true) (dec_t q7) 68 (by kernel_rfl) ?_
      refine lofx 18 68 false true ?_
      refine ls_on (j := 12) (t := 62) (b := true) rfl rfl (by kernel_rfl) (by kernel_rfl) ?_
      refine lv (.bool true) ?_
      refine lv (.bool true) ?_
      refine lv (.bool true) ?_
      refine ls_end ?_
      refine qn_then ?_
      refine cs_ret' ?_
      obtain rfl := Option.some.inj H
      refine qr_res (rs := [_]) rfl (fun w' hs => ⟨[.bool true], (res_tmp (by kernel_rfl) (.nil)), (), rfl, hs.pick (ts := []) (cs := []) trivial (by decide)⟩)
    replace H := ite_f q7 H
    obtain ⟨s5_19, hs5_19⟩ := exv (.slice A0_1 l0_1.length c0_1)
    refine have_opa shadowboxlaw16_LeafFinds.tab3 0 19 (fun sp => sp 19 = s5_19 ∧ sp 18 = s5_18) (fun sp on hA hon => ?_) (fun ops5_19 => ?_)
    · refine ⟨fun o ho vs Rs f' S' w hp hf hx hS hR hs => ?_⟩
      obtain rfl := Option.some.inj ho
      obtain ⟨hv18, hR18⟩ := (spe hA.2 hs5_18 (hp 18 (by kernel_rfl)))
      rw [hA.1, hs5_19]
      refine And.intro (fun a ha => (want_is (j := 18) (t := 68) (r := true) rfl rfl (by kernel_rfl) (((hf 18 68 (by kernel_rfl) rfl).trans hv18).trans (congrArg Value.bool (show (decide ((IntKind.wrap .i64 (t1 + (1 : Int))) ≥ (l0_1.length : Int))) = false from dec_f q7))) rfl a ha).trans hon.symm) (And.intro (fun _ => ?_) (fun h => by rw [hon] at h; cases h))
      have hF := fr_next (fr_next (rfl) ((hx 0 (by kernel_rfl)).trans (by kernel_rfl : (_ : Value) = .slice A0_1 l0_1.length c0_1))) (((hf 18 68 (by kernel_rfl) rfl).trans hv18).trans (congrArg Value.bool (show (decide ((IntKind.wrap .i64 (t1 + (1 : Int))) ≥ (l0_1.length : Int))) = false from dec_f q7)))
      refine ls_fr hF ?_
      refine lv (.slice A0_1 l0_1.length c0_1) ?_
      exact ls_fin s0 _ (congrArg (fun z => upd z 69 _) hF.symm) ⟨rfl, rfl⟩ (sub_nil _)
    obtain ⟨s5_20, hs5_20⟩ := exv (.int .i64 t1)
    refine have_opa shadowboxlaw16_LeafFinds.tab3 0 20 (fun sp => sp 20 = s5_20 ∧ sp 18 = s5_18) (fun sp on hA hon => ?_) (fun ops5_20 => ?_)
    · refine ⟨fun o ho vs Rs f' S' w hp hf hx hS hR hs => ?_⟩
      obtain rfl := Option.some.inj ho
      obtain ⟨hv18, hR18⟩ := (spe hA.2 hs5_18 (hp 18 (by kernel_rfl)))
      rw [hA.1, hs5_20]
      refine And.intro (fun a ha => (want_is (j := 18) (t := 68) (r := true) rfl rfl (by kernel_rfl) (((hf 18 68 (by kernel_rfl) rfl).trans hv18).trans (congrArg Value.bool (show (decide ((IntKind.wrap .i64 (t1 + (1 : Int))) ≥ (l0_1.length : Int))) = false from dec_f q7))) rfl a ha).trans hon.symm) (And.intro (fun _ => ?_) (fun h => by rw [hon] at h; cases h))
      have hF := fr_next (fr_next (rfl) ((hx 6 (by kernel_rfl)).trans (by kernel_rfl : (_ : Value) = .int .i64 t1))) (((hf 18 68 (by kernel_rfl) rfl).trans hv18).trans (congrArg Value.bool (show (decide ((IntKind.wrap .i64 (t1 + (1 : Int))) ≥ (l0_1.length : Int))) = false from dec_f q7)))
      refine ls_fr hF ?_
      refine lv (.int .i64 t1) ?_
      exact ls_fin s0 _ (congrArg (fun z => upd z 70 _) hF.symm) ⟨rfl, rfl⟩ (sub_nil _)
    obtain ⟨s5_21, hs5_21⟩ := exv (.int .i64 (IntKind.wrap .i64 (t1 + (1 : Int))))
    refine have_opa shadowboxlaw16_LeafFinds.tab3 0 21 (fun sp => sp 21 = s5_21 ∧ sp 18 = s5_18 ∧ sp 20 = s5_20) (fun sp on hA hon => ?_) (fun ops5_21 => ?_)
    · refine ⟨fun o ho vs Rs f' S' w hp hf hx hS hR hs => ?_⟩
      obtain rfl := Option.some.inj ho
      obtain ⟨hv18, hR18⟩ := (spe hA.2.1 hs5_18 (hp 18 (by kernel_rfl)))
      obtain ⟨hv20, hR20⟩ := (spe hA.2.2 hs5_20 (hp 20 (by kernel_rfl)))
      rw [hA.1, hs5_21]
      refine And.intro (fun a ha => (want_is (j := 18) (t := 68) (r := true) rfl rfl (by kernel_rfl) (((hf 18 68 (by kernel_rfl) rfl).trans hv18).trans (congrArg Value.bool (show (decide ((IntKind.wrap .i64 (t1 + (1 : Int))) ≥ (l0_1.length : Int))) = false from dec_f q7))) rfl a ha).trans hon.symm) (And.intro (fun _ => ?_) (fun h => by rw [hon] at h; cases h))
      have hF := fr_next (fr_next (rfl) (((hf 18 68 (by kernel_rfl) rfl).trans hv18).trans (congrArg Value.bool (show (decide ((IntKind.wrap .i64 (t1 + (1 : Int))) ≥ (l0_1.length : Int))) = false from dec_f q7)))) ((hf 20 70 (by kernel_rfl) rfl).trans hv20)
      refine ls_fr hF ?_
      refine lv (.int .i64 (IntKind.wrap .i64 (t1 + (1 : Int)))) ?_
      exact ls_fin s0 _ (congrArg (fun z => upd z 71 _) hF.symm) ⟨rfl, rfl⟩ (sub_nil _)
    obtain ⟨q8, H⟩ := ite_need H
    obtain ⟨q9, H⟩ := ite_need H
    obtain ⟨ad10, hA11⟩ := idoS_at (l := l0_1) (i := IntKind.wrap .i64 (t1 + (1 : Int))) R0_1 q8 q9
    obtain ⟨s5_22, hs5_22⟩ := exv (.pointer (some (ad10.add ((IntKind.wrap .i64 (t1 + (1 : Int))).toNat * 1))))
    refine have_opa shadowboxlaw16_LeafFinds.tab3 0 22 (fun sp => sp 22 = s5_22 ∧ sp 18 = s5_18 ∧ sp 19 = s5_19 ∧ sp 21 = s5_21) (fun sp on hA hon => ?_) (fun ops5_22 => ?_)
    · refine ⟨fun o ho vs Rs f' S' w hp hf hx hS hR hs => ?_⟩
      obtain rfl := Option.some.inj ho
      obtain ⟨hv18, hR18⟩ := (spe hA.2.1 hs5_18 (hp 18 (by kernel_rfl)))
      obtain ⟨hv19, hR19⟩ := (spe hA.2.2.1 hs5_19 (hp 19 (by kernel_rfl)))
      obtain ⟨hv21, hR21⟩ := (spe hA.2.2.2 hs5_21 (hp 21 (by kernel_rfl)))
      rw [hA.1, hs5_22]
      refine And.intro (fun a ha => (want_is (j := 18) (t := 68) (r := true) rfl rfl (by kernel_rfl) (((hf 18 68 (by kernel_rfl) rfl).trans hv18).trans (congrArg Value.bool (show (decide ((IntKind.wrap .i64 (t1 + (1 : Int))) ≥ (l0_1.length : Int))) = false from dec_f q7))) rfl a ha).trans hon.symm) (And.intro (fun _ => ?_) (fun h => by rw [hon] at h; cases h))
      have hF := fr_next (fr_next (fr_next (rfl) (((hf 18 68 (by kernel_rfl) rfl).trans hv18).trans (congrArg Value.bool (show (decide ((IntKind.wrap .i64 (t1 + (1 : Int))) ≥ (l0_1.length : Int))) = false from dec_f q7)))) ((hf 19 69 (by kernel_rfl) rfl).trans hv19)) ((hf 21 71 (by kernel_rfl) rfl).trans hv21)
      refine ls_fr hF ?_
      refine ls_idxv (Ec.sld 23 Int) (A := A0_1) (c := c0_1) (l := l0_1) (k := .i64) (i := IntKind.wrap .i64 (t1 + (1 : Int))) (z := 1) (ad := ad10) rfl rfl (by kernel_rfl) hA11 rfl (by kernel_rfl) (by kernel_rfl) (by kernel_rfl) (by kernel_rfl) q8 q9 ?_
      exact ls_fin s0 _ (congrArg (fun z => upd z 72 _) hF.symm) ⟨rfl, rfl⟩ (sub_nil _)
    obtain ⟨xq12, hq13, xR14, xC15⟩ := RoS.el (l := l0_1) R0_1 hA11 (i := IntKind.wrap .i64 (t1 + (1 : Int))) q8 q9
    obtain ⟨s5_23, hs5_23⟩ := exv (.slice xq12.1 ((l0_1).getD (IntKind.wrap .i64 (t1 + (1 : Int))).toNat ([] : List Int)).length xq12.2)
    refine have_opa shadowboxlaw16_LeafFinds.tab3 0 23 (fun sp => sp 23 = s5_23 ∧ sp 18 = s5_18 ∧ sp 22 = s5_22) (fun sp on hA hon => ?_) (fun ops5_23 => ?_)
    · refine ⟨fun o ho vs Rs f' S' w hp hf hx hS hR hs => ?_⟩
      obtain rfl := Option.some.inj ho
      obtain ⟨hv18, hR18⟩ := (spe hA.2.1 hs5_18 (hp 18 (by kernel_rfl)))
      obtain ⟨hv22, hR22⟩ := (spe hA.2.2 hs5_22 (hp 22 (by kernel_rfl)))
      rw [hA.1, hs5_23]
      refine And.intro (fun a ha => (want_is (j := 18) (t := 68) (r := true) rfl rfl (by kernel_rfl) (((hf 18 68 (by kernel_rfl) rfl).trans hv18).trans (congrArg Value.bool (show (decide ((IntKind.wrap .i64 (t1 + (1 : Int))) ≥ (l0_1.length : Int))) = false from dec_f q7))) rfl a ha).trans hon.symm) (And.intro (fun _ => ?_) (fun h => by rw [hon] at h; cases h))
      have hF := fr_next (fr_next (rfl) (((hf 18 68 (by kernel_rfl) rfl).trans hv18).trans (congrArg Value.bool (show (decide ((IntKind.wrap .i64 (t1 + (1 : Int))) ≥ (l0_1.length : Int))) = false from dec_f q7)))) ((hf 22 72 (by kernel_rfl) rfl).trans hv22)
      refine ls_fr hF ?_
      refine ls_load (a0 := (ad10.add ((IntKind.wrap .i64 (t1 + (1 : Int))).toNat * 1))) (v := .slice xq12.1 ((l0_1).getD (IntKind.wrap .i64 (t1 + (1 : Int))).toNat ([] : List Int)).length xq12.2) (de := (TypeDesc.slice 5)) rfl rfl (by kernel_rfl) rfl (by kernel_rfl) (by kernel_rfl) (by kernel_rfl) (fun w1 hs1 => (Rd.step (hs.old hq13) hs1.below.bw).cell0) ?_
      exact ls_fin s0 _ (congrArg (fun z => upd z 73 _) hF.symm) ⟨rfl, rfl⟩ (sub_nil _)
    obtain ⟨y16, hy17, H⟩ := lt_some H
    obtain ⟨s5_24, hs5_24⟩ := exv (.string y16)
    refine have_opa shadowboxlaw16_LeafFinds.tab3 0 24 (fun sp => sp 24 = s5_24 ∧ sp 18 = s5_18 ∧ sp 23 = s5_23) (fun sp on hA hon => ?_) (fun ops5_24 => ?_)
    · refine ⟨fun o ho vs Rs f' S' w hp hf hx hS hR hs => ?_⟩
      obtain rfl := Option.some.inj ho
      obtain ⟨hv18, hR18⟩ := (spe hA.2.1 hs5_18 (hp 18 (by kernel_rfl)))
      obtain ⟨hv23, hR23⟩ := (spe hA.2.2 hs5_23 (hp 23 (by kernel_rfl)))
      rw [hA.1, hs5_24]
      refine And.intro (fun a ha => (want_is (j := 18) (t := 68) (r := true) rfl rfl (by kernel_rfl) (((hf 18 68 (by kernel_rfl) rfl).trans hv18).trans (congrArg Value.bool (show (decide ((IntKind.wrap .i64 (t1 + (1 : Int))) ≥ (l0_1.length : Int))) = false from dec_f q7))) rfl a ha).trans hon.symm) (And.intro (fun _ => ?_) (fun h => by rw [hon] at h; cases h))
      have hF := fr_next (fr_next (rfl) (((hf 18 68 (by kernel_rfl) rfl).trans hv18).trans (congrArg Value.bool (show (decide ((IntKind.wrap .i64 (t1 + (1 : Int))) ≥ (l0_1.length : Int))) = false from dec_f q7)))) ((hf 23 73 (by kernel_rfl) rfl).trans hv23)
      refine ls_fr hF ?_
      refine ls_str (A := xq12.1) (c := xq12.2) (e := 5) (l := ((l0_1).getD (IntKind.wrap .i64 (t1 + (1 : Int))).toNat ([] : List Int))) rfl rfl (by kernel_rfl) rfl (by kernel_rfl) (by kernel_rfl) (by kernel_rfl) (by kernel_rfl) (fun w1 hs1 => (Rd.step (hs.old xR14) hs1.below.bw)) ?_
      refine ls_ren 74 (v := .string (strOfNums ((l0_1).getD (IntKind.wrap .i64 (t1 + (1 : Int))).toNat ([] : List Int)))) (v' := .string y16) (by kernel_rfl) (by rw [hy17]) ?_
      exact ls_fin s0 _ ((upd_upd _ _ _ _).trans (congrArg (fun z => upd z 74 _) hF.symm)) ⟨rfl, rfl⟩ (sub_nil _)
    obtain ⟨s5_25, hs5_25⟩ := exv (.slice A1 l1.length c1)
    refine have_opa shadowboxlaw16_LeafFinds.tab3 0 25 (fun sp => sp 25 = s5_25 ∧ sp 18 = s5_18) (fun sp on hA hon => ?_) (fun ops5_25 => ?_)
    · refine ⟨fun o ho vs Rs f' S' w hp hf hx hS hR hs => ?_⟩
      obtain rfl := Option.some.inj ho
      obtain ⟨hv18, hR18⟩ := (spe hA.2 hs5_18 (hp 18 (by kernel_rfl)))
      rw [hA.1, hs5_25]
      refine And.intro (fun a ha => (want_is (j := 18) (t := 68) (r := true) rfl rfl (by kernel_rfl) (((hf 18 68 (by kernel_rfl) rfl).trans hv18).trans (congrArg Value.bool (show (decide ((IntKind.wrap .i64 (t1 + (1 : Int))) ≥ (l0_1.length : Int))) = false from dec_f q7))) rfl a ha).trans hon.symm) (And.intro (fun _ => ?_) (fun h => by rw [hon] at h; cases h))
      have hF := fr_next (fr_next (rfl) ((hx 1 (by kernel_rfl)).trans (by kernel_rfl : (_ : Value) = .slice A1 l1.length c1))) (((hf 18 68 (by kernel_rfl) rfl).trans hv18).trans (congrArg Value.bool (show (decide ((IntKind.wrap .i64 (t1 + (1 : Int))) ≥ (l0_1.length : Int))) = false from dec_f q7)))
      refine ls_fr hF ?_
      refine lv (.slice A1 l1.length c1) ?_
      exact ls_fin s0 _ (congrArg (fun z => upd z 75 _) hF.symm) ⟨rfl, rfl⟩ (sub_nil _)
    obtain ⟨s5_26, hs5_26⟩ := exv (.string (strOfNums l1))
    refine have_opa shadowboxlaw16_LeafFinds.tab3 0 26 (fun sp => sp 26 = s5_26 ∧ sp 18 = s5_18 ∧ sp 25 = s5_25) (fun sp on hA hon => ?_) (fun ops5_26 => ?_)
    · refine ⟨fun o ho vs Rs f' S' w hp hf hx hS hR hs => ?_⟩
      obtain rfl := Option.some.inj ho
      obtain ⟨hv18, hR18⟩ := (spe hA.2.1 hs5_18 (hp 18 (by kernel_rfl)))
      obtain ⟨hv25, hR25⟩ := (spe hA.2.2 hs5_25 (hp 25 (by kernel_rfl)))
      rw [hA.1, hs5_26]
      refine And.intro (fun a ha => (want_is (j := 18) (t := 68) (r := true) rfl rfl (by kernel_rfl) (((hf 18 68 (by kernel_rfl) rfl).trans hv18).trans (congrArg Value.bool (show (decide ((IntKind.wrap .i64 (t1 + (1 : Int))) ≥ (l0_1.length : Int))) = false from dec_f q7))) rfl a ha).trans hon.symm) (And.intro (fun _ => ?_) (fun h => by rw [hon] at h; cases h))
      have hF := fr_next (fr_next (rfl) (((hf 18 68 (by kernel_rfl) rfl).trans hv18).trans (congrArg Value.bool (show (decide ((IntKind.wrap .i64 (t1 + (1 : Int))) ≥ (l0_1.length : Int))) = false from dec_f q7)))) ((hf 25 75 (by kernel_rfl) rfl).trans hv25)
      refine ls_fr hF ?_
      refine ls_str (A := A1) (c := c1) (e := 5) (l := l1) rfl rfl (by kernel_rfl) rfl (by kernel_rfl) (by kernel_rfl) (by kernel_rfl) (by kernel_rfl) (fun w1 hs1 => (Rd.step (hs.old R1) hs1.below.bw)) ?_
      exact ls_fin s0 _ (congrArg (fun z => upd z 76 _) hF.symm) ⟨rfl, rfl⟩ (sub_nil _)
    refine cs_draw shadowboxlaw16_LeafFinds.tab3 27 0 (spl [s5_0, s5_1, s5_2, spu, spu, spu, spu, spu, spu, spu, spu, s5_11, s5_12, s5_13, s5_14, s5_15, s5_16, s5_17, s5_18, s5_19, s5_20, s5_21, s5_22, s5_23, s5_24, s5_25, s5_26]) (onl [true, true, true, false, false, false, false, false, false, false, false, true, true, true, true, true, true, true, true, true, true, true, true, true, true, true, true]) (by kernel_rfl) (by kernel_rfl) (by kernel_rfl) (by kernel_rfl) (rs := [_, _, _, _]) rfl (by kernel_rfl) (by kernel_rfl) (all_snoc (all_snoc (all_snoc (all_snoc (all_snoc (all_snoc (all_snoc (all_snoc (all_snoc (all_snoc (all_snoc (all_snoc (all_snoc (all_snoc (all_snoc (all_snoc (all_snoc (all_snoc (all_snoc (all_snoc (all_snoc (all_snoc (all_snoc (all_snoc (all_snoc (all_snoc (all_snoc (all_nil) (ops5_0 _ _ rfl rfl)) (ops5_1 _ _ ⟨rfl, rfl⟩ rfl)) (ops5_2 _ _ ⟨rfl, rfl⟩ rfl)) (op_offi 3 2 52 false rfl rfl (by kernel_rfl) (by kernel_rfl) rfl (fun v R h => by rw [hs5_2] at h; obtain ⟨h, _⟩ := h; exact h.trans (congrArg Value.bool (show (decide (t1 < (0 : Int))) = true from dec_t q6))) rfl rfl)) (op_offi 4 2 52 false rfl rfl (by kernel_rfl) (by kernel_rfl) rfl (fun v R h => by rw [hs5_2] at h; obtain ⟨h, _⟩ := h; exact h.trans (congrArg Value.bool (show (decide (t1 < (0 : Int))) = true from dec_t q6))) rfl rfl)) (op_offi 5 2 52 false rfl rfl (by kernel_rfl) (by kernel_rfl) rfl (fun v R h => by rw [hs5_2] at h; obtain ⟨h, _⟩ := h; exact h.trans (congrArg Value.bool (show (decide (t1 < (0 : Int))) = true from dec_t q6))) rfl rfl)) (op_offi 6 2 52 false rfl rfl (by kernel_rfl) (by kernel_rfl) rfl (fun v R h => by rw [hs5_2] at h; obtain ⟨h, _⟩ := h; exact h.trans (congrArg Value.bool (show (decide (t1 < (0 : Int))) = true from dec_t q6))) rfl rfl)) (op_offi 7 2 52 false rfl rfl (by kernel_rfl) (by kernel_rfl) rfl (fun v R h => by rw [hs5_2] at h; obtain ⟨h, _⟩ := h; exact h.trans (congrArg Value.bool (show (decide (t1 < (0 : Int))) = true from dec_t q6))) rfl rfl)) (op_offi 8 2 52 false rfl rfl (by kernel_rfl) (by kernel_rfl) rfl (fun v R h => by rw [hs5_2] at h; obtain ⟨h, _⟩ := h; exact h.trans (congrArg Value.bool (show (decide (t1 < (0 : Int))) = true from dec_t q6))) rfl rfl)) (op_offi 9 2 52 false rfl rfl (by kernel_rfl) (by kernel_rfl) rfl (fun v R h => by rw [hs5_2] at h; obtain ⟨h, _⟩ := h; exact h.trans (congrArg Value.bool (show (decide (t1 < (0 : Int))) = true from dec_t q6))) rfl rfl)) (op_offi 10 2 52 false rfl rfl (by kernel_rfl) (by kernel_rfl) rfl (fun v R h => by rw [hs5_2] at h; obtain ⟨h, _⟩ := h; exact h.trans (congrArg Value.bool (show (decide (t1 < (0 : Int))) = true from dec_t q6))) rfl rfl)) (ops5_11 _ _ ⟨rfl, rfl, rfl⟩ rfl)) (ops5_12 _ _ ⟨rfl, rfl⟩ rfl)) (ops5_13 _ _ ⟨rfl, rfl⟩ rfl)) (ops5_14 _ _ ⟨rfl, rfl, rfl⟩ rfl)) (ops5_15 _ _ ⟨rfl, rfl⟩ rfl)) (ops5_16 _ _ ⟨rfl, rfl, rfl⟩ rfl)) (ops5_17 _ _ ⟨rfl, rfl, rfl, rfl⟩ rfl)) (ops5_18 _ _ ⟨rfl, rfl, rfl⟩ rfl)) (ops5_19 _ _ ⟨rfl, rfl⟩ rfl)) (ops5_20 _ _ ⟨rfl, rfl⟩ rfl)) (ops5_21 _ _ ⟨rfl, rfl, rfl⟩ rfl)) (ops5_22 _ _ ⟨rfl, rfl, rfl, rfl⟩ rfl)) (ops5_23 _ _ ⟨rfl, rfl, rfl⟩ rfl)) (ops5_24 _ _ ⟨rfl, rfl, rfl⟩ rfl)) (ops5_25 _ _ ⟨rfl, rfl⟩ rfl)) (ops5_26 _ _ ⟨rfl, rfl, rfl⟩ rfl)) ?_
    intro vs Rs f' S' hp hf hx hS hR
    obtain ⟨hv12, hR12⟩ := (spe rfl hs5_12 (hp 12 (by kernel_rfl)))
    obtain ⟨hv18, hR18⟩ := (spe rfl hs5_18 (hp 18 (by kernel_rfl)))
    obtain ⟨hv24, hR24⟩ := (spe rfl hs5_24 (hp 24 (by kernel_rfl)))
    obtain ⟨hv26, hR26⟩ := (spe rfl hs5_26 (hp 26 (by kernel_rfl)))
    refine ls_fr (F := upd (upd (upd (upd f' 62 (.bool true)) 68 (.bool (decide ((IntKind.wrap .i64 (t1 + (1 : Int))) ≥ (l0_1.length : Int))))) 74 (.string y16)) 76 (.string (strOfNums l1))) (fr_next (fr_next (fr_next (fr_next (rfl) ((hf 12 62 (by kernel_rfl) rfl).trans hv12)) ((hf 18 68 (by kernel_rfl) rfl).trans hv18)) ((hf 24 74 (by kernel_rfl) rfl).trans hv24)) ((hf 26 76 (by kernel_rfl) rfl).trans hv26)) ?_
    refine ls_sub (s0) (sub_nil _) ?_
    refine ls_know (c := false) (dec_f q7) 68 (by kernel_rfl) ?_
    refine ls_on (j := 18) (t := 68) (b := false) rfl rfl (by kernel_rfl) (by kernel_rfl) ?_
    refine lv (.bool (!(Op.bytesLess y16.toList (strOfNums l1).toList || (y16.toList == (strOfNums l1).toList)))) ?_
    refine ls_on (j := 12) (t := 62) (b := true) rfl rfl (by kernel_rfl) (by kernel_rfl) ?_
    refine lv (.bool (!(Op.bytesLess y16.toList (strOfNums l1).toList || (y16.toList == (strOfNums l1).toList)))) ?_
    refine lv (.bool (!(Op.bytesLess y16.toList (strOfNums l1).toList || (y16.toList == (strOfNums l1).toList)))) ?_
    refine lv (.bool (!(Op.bytesLess y16.toList (strOfNums l1).toList || (y16.toList == (strOfNums l1).toList)))) ?_
    refine ls_end ?_
    refine qn_then ?_
    refine cs_ret' ?_
    obtain rfl := Option.some.inj H
    refine qr_res (rs := [_]) rfl (fun w' hs => ⟨[.bool (!(Op.bytesLess y16.toList (strOfNums l1).toList || (y16.toList == (strOfNums l1).toList)))], (res_tmp (by kernel_rfl) (.nil)), (), rfl, hs.pick (ts := []) (cs := []) trivial (by decide)⟩)
  replace H := ite_f q6 H
  obtain ⟨s5_3, hs5_3⟩ := exv (.slice A0_1 l0_1.length c0_1)
  refine have_opa shadowboxlaw16_LeafFinds.tab3 0 3 (fun sp => sp 3 = s5_3 ∧ sp 2 = s5_2) (fun sp on hA hon => ?_) (fun ops5_3 => ?_)
  · refine ⟨fun o ho vs Rs f' S' w hp hf hx hS hR hs => ?_⟩
    obtain rfl := Option.some.inj ho
    obtain ⟨hv2, hR2⟩ := (spe hA.2 hs5_2 (hp 2 (by kernel_rfl)))
    rw [hA.1, hs5_3]
    refine And.intro (fun a ha => (want_is (j := 2) (t := 52) (r := true) rfl rfl (by kernel_rfl) (((hf 2 52 (by kernel_rfl) rfl).trans hv2).trans (congrArg Value.bool (show (decide (t1 < (0 : Int))) = false from dec_f q6))) rfl a ha).trans hon.symm) (And.intro (fun _ => ?_) (fun h => by rw [hon] at h; cases h))
    have hF := fr_next (fr_next (rfl) ((hx 0 (by kernel_rfl)).trans (by kernel_rfl : (_ : Value) = .slice A0_1 l0_1.length c0_1))) (((hf 2 52 (by kernel_rfl) rfl).trans hv2).trans (congrArg Value.bool (show (decide (t1 < (0 : Int))) = false from dec_f q6)))
    refine ls_fr hF ?_
    refine lv (.slice A0_1 l0_1.length c0_1) ?_
    exact ls_fin s0 _ (congrArg (fun z => upd z 53 _) hF.symm) ⟨rfl, rfl⟩ (sub_nil _)
  obtain ⟨s5_4, hs5_4⟩ := exv (.int .i64 t1)
  refine have_opa shadowboxlaw16_LeafFinds.tab3 0 4 (fun sp => sp 4 = s5_4 ∧ sp 2 = s5_2) (fun sp on hA hon => ?_) (fun ops5_4 => ?_)
  · refine ⟨fun o ho vs Rs f' S' w hp hf hx hS hR hs => ?_⟩
    obtain rfl := Option.some.inj ho
    obtain ⟨hv2, hR2⟩ := (spe hA.2 hs5_2 (hp 2 (by kernel_rfl)))
    rw [hA.1, hs5_4]
    refine And.intro (fun a ha => (want_is (j := 2) (t := 52) (r := true) rfl rfl (by kernel_rfl) (((hf 2 52 (by kernel_rfl) rfl).trans hv2).trans (congrArg Value.bool (show (decide (t1 < (0 : Int))) = false from dec_f q6))) rfl a ha).trans hon.symm) (And.intro (fun _ => ?_) (fun h => by rw [hon] at h; cases h))
    have hF := fr_next (fr_next (rfl) ((hx 6 (by kernel_rfl)).trans (by kernel_rfl : (_ : Value) = .int .i64 t1))) (((hf 2 52 (by kernel_rfl) rfl).trans hv2).trans (congrArg Value.bool (show (decide (t1 < (0 : Int))) = false from dec_f q6)))
    refine ls_fr hF ?_
    refine lv (.int .i64 t1) ?_
    exact ls_fin s0 _ (congrArg (fun z => upd z 54 _) hF.symm) ⟨rfl, rfl⟩ (sub_nil _)
  obtain ⟨q18, H⟩ := ite_need H
  obtain ⟨q19, H⟩ := ite_need H
  obtain ⟨ad20, hA21⟩ := idoS_at (l := l0_1) (i := t1) R0_1 q18 q19
  obtain ⟨s5_5, hs5_5⟩ := exv (.pointer (some (ad20.add ((t1).toNat * 1))))
  refine have_opa shadowboxlaw16_LeafFinds.tab3 0 5 (fun sp => sp 5 = s5_5 ∧ sp 2 = s5_2 ∧ sp 3 = s5_3 ∧ sp 4 = s5_4) (fun sp on hA hon => ?_) (fun ops5_5 => ?_)
  · refine ⟨fun o ho vs Rs f' S' w hp hf hx hS hR hs => ?_⟩
    obtain rfl := Option.some.inj ho
    obtain ⟨hv2, hR2⟩ := (spe hA.2.1 hs5_2 (hp 2 (by kernel_rfl)))
    obtain ⟨hv3, hR3⟩ := (spe hA.2.2.1 hs5_3 (hp 3 (by kernel_rfl)))
    obtain ⟨hv4, hR4⟩ := (spe hA.2.2.2 hs5_4 (hp 4 (by kernel_rfl)))
    rw [hA.1, hs5_5]
    refine And.intro (fun a ha => (want_is (j := 2) (t := 52) (r := true) rfl rfl (by kernel_rfl) (((hf 2 52 (by kernel_rfl) rfl).trans hv2).trans (congrArg Value.bool (show (decide (t1 < (0 : Int))) = false from dec_f q6))) rfl a ha).trans hon.symm) (And.intro (fun _ => ?_) (fun h => by rw [hon] at h; cases h))
    have hF := fr_next (fr_next (fr_next (rfl) (((hf 2 52 (by kernel_rfl) rfl).trans hv2).trans (congrArg Value.bool (show (decide (t1 < (0 : Int))) = false from dec_f q6)))) ((hf 3 53 (by kernel_rfl) rfl).trans hv3)) ((hf 4 54 (by kernel_rfl) rfl).trans hv4)
    refine ls_fr hF ?_
    refine ls_idxv (Ec.sld 23 Int) (A := A0_1) (c := c0_1) (l := l0_1) (k := .i64) (i := t1) (z := 1) (ad := ad20) rfl rfl (by kernel_rfl) hA21 rfl (by kernel_rfl) (by kernel_rfl) (by kernel_rfl) (by kernel_rfl) q18 q19 ?_
    exact ls_fin s0 _ (congrArg (fun z => upd z 55 _) hF.symm) ⟨rfl, rfl⟩ (sub_nil _)
  obtain ⟨xq22, hq23, xR24, xC25⟩ := RoS.el (l := l0_1) R0_1 hA21 (i := t1) q18 q19
  obtain ⟨s5_6, hs5_6⟩ := exv (.slice xq22.1 ((l0_1).getD (t1).toNat ([] : List Int)).length xq22.2)
  refine have_opa shadowboxlaw16_LeafFinds.tab3 0 6 (fun sp => sp 6 = s5_6 ∧ sp 2 = s5_2 ∧ sp 5 = s5_5) (fun sp on hA hon => ?_) (fun ops5_6 => ?_)
  · refine ⟨fun o ho vs Rs f' S' w hp hf hx hS hR hs => ?_⟩
    obtain rfl := Option.some.inj ho
    obtain ⟨hv2, hR2⟩ := (spe hA.2.1 hs5_2 (hp 2 (by kernel_rfl)))
    obtain ⟨hv5, hR5⟩ := (spe hA.2.2 hs5_5 (hp 5 (by kernel_rfl)))
    rw [hA.1, hs5_6]
    refine And.intro (fun a ha => (want_is (j := 2) (t := 52) (r := true) rfl rfl (by kernel_rfl) (((hf 2 52 (by kernel_rfl) rfl).trans hv2).trans (congrArg Value.bool (show (decide (t1 < (0 : Int))) = false from dec_f q6))) rfl a ha).trans hon.symm) (And.intro (fun _ => ?_) (fun h => by rw [hon] at h; cases h))
    have hF := fr_next (fr_next (rfl) (((hf 2 52 (by kernel_rfl) rfl).trans hv2).trans (congrArg Value.bool (show (decide (t1 < (0 : Int))) = false from dec_f q6)))) ((hf 5 55 (by kernel_rfl) rfl).trans hv5)
    refine ls_fr hF ?_
    refine ls_load (a0 := (ad20.add ((t1).toNat * 1))) (v := .slice xq22.1 ((l0_1).getD (t1).toNat ([] : List Int)).length xq22.2) (de := (TypeDesc.slice 5)) rfl rfl (by kernel_rfl) rfl (by kernel_rfl) (by kernel_rfl) (by kernel_rfl) (fun w1 hs1 => (Rd.step (hs.old hq23) hs1.below.bw).cell0) ?_
    exact ls_fin s0 _ (congrArg (fun z => upd z 56 _) hF.symm) ⟨rfl, rfl⟩ (sub_nil _)
  obtain ⟨y26, hy27, H⟩ := lt_some H
  obtain ⟨s5_7, hs5_7⟩ := exv (.string y26)
  refine have_opa shadowboxlaw16_LeafFinds.tab3 0 7 (fun sp => sp 7 = s5_7 ∧ sp 2 = s5_2 ∧ sp 6 = s5_6) (fun sp on hA hon => ?_) (fun ops5_7 => ?_)
  · refine ⟨fun o ho vs Rs f' S' w hp hf hx hS hR hs => ?_⟩
    obtain rfl := Option.some.inj ho
    obtain ⟨hv2, hR2⟩ := (spe hA.2.1 hs5_2 (hp 2 (by kernel_rfl)))
    obtain ⟨hv6, hR6⟩ := (spe hA.2.2 hs5_6 (hp 6 (by kernel_rfl)))
    rw [hA.1, hs5_7]
    refine And.intro (fun a ha => (want_is (j := 2) (t := 52) (r := true) rfl rfl (by kernel_rfl) (((hf 2 52 (by kernel_rfl) rfl).trans hv2).trans (congrArg Value.bool (show (decide (t1 < (0 : Int))) = false from dec_f q6))) rfl a ha).trans hon.symm) (And.intro (fun _ => ?_) (fun h => by rw [hon] at h; cases h))
    have hF := fr_next (fr_next (rfl) (((hf 2 52 (by kernel_rfl) rfl).trans hv2).trans (congrArg Value.bool (show (decide (t1 < (0 : Int))) = false from dec_f q6)))) ((hf 6 56 (by kernel_rfl) rfl).trans hv6)
    refine ls_fr hF ?_
    refine ls_str (A := xq22.1) (c := xq22.2) (e := 5) (l := ((l0_1).getD (t1).toNat ([] : List Int))) rfl rfl (by kernel_rfl) rfl (by kernel_rfl) (by kernel_rfl) (by kernel_rfl) (by kernel_rfl) (fun w1 hs1 => (Rd.step (hs.old xR24) hs1.below.bw)) ?_
    refine ls_ren 57 (v := .string (strOfNums ((l0_1).getD (t1).toNat ([] : List Int)))) (v' := .string y26) (by kernel_rfl) (by rw [hy27]) ?_
    exact ls_fin s0 _ ((upd_upd _ _ _ _).trans (congrArg (fun z => upd z 57 _) hF.symm)) ⟨rfl, rfl⟩ (sub_nil _)
  obtain ⟨s5_8, hs5_8⟩ := exv (.slice A1 l1.length c1)
  refine have_opa shadowboxlaw16_LeafFinds.tab3 0 8 (fun sp => sp 8 = s5_8 ∧ sp 2 = s5_2) (fun sp on hA hon => ?_) (fun ops5_8 => ?_)
  · refine ⟨fun o ho vs Rs f' S' w hp hf hx hS hR hs => ?_⟩
    obtain rfl := Option.some.inj ho
    obtain ⟨hv2, hR2⟩ := (spe hA.2 hs5_2 (hp 2 (by kernel_rfl)))
    rw [hA.1, hs5_8]
    refine And.intro (fun a ha => (want_is (j := 2) (t := 52) (r := true) rfl rfl (by kernel_rfl) (((hf 2 52 (by kernel_rfl) rfl).trans hv2).trans (congrArg Value.bool (show (decide (t1 < (0 : Int))) = false from dec_f q6))) rfl a ha).trans hon.symm) (And.intro (fun _ => ?_) (fun h => by rw [hon] at h; cases h))
    have hF := fr_next (fr_next (rfl) ((hx 1 (by kernel_rfl)).trans (by kernel_rfl : (_ : Value) = .slice A1 l1.length c1))) (((hf 2 52 (by kernel_rfl) rfl).trans hv2).trans (congrArg Value.bool (show (decide (t1 < (0 : Int))) = false from dec_f q6)))
    refine ls_fr hF ?_
    refine lv (.slice A1 l1.length c1) ?_
    exact ls_fin s0 _ (congrArg (fun z => upd z 58 _) hF.symm) ⟨rfl, rfl⟩ (sub_nil _)
  obtain ⟨s5_9, hs5_9⟩ := exv (.string (strOfNums l1))
  refine have_opa shadowboxlaw16_LeafFinds.tab3 0 9 (fun sp => sp 9 = s5_9 ∧ sp 2 = s5_2 ∧ sp 8 = s5_8) (fun sp on hA hon => ?_) (fun ops5_9 => ?_)
  · refine ⟨fun o ho vs Rs f' S' w hp hf hx hS hR hs => ?_⟩
    obtain rfl := Option.some.inj ho
    obtain ⟨hv2, hR2⟩ := (spe hA.2.1 hs5_2 (hp 2 (by kernel_rfl)))
    obtain ⟨hv8, hR8⟩ := (spe hA.2.2 hs5_8 (hp 8 (by kernel_rfl)))
    rw [hA.1, hs5_9]
    refine And.intro (fun a ha => (want_is (j := 2) (t := 52) (r := true) rfl rfl (by kernel_rfl) (((hf 2 52 (by kernel_rfl) rfl).trans hv2).trans (congrArg Value.bool (show (decide (t1 < (0 : Int))) = false from dec_f q6))) rfl a ha).trans hon.symm) (And.intro (fun _ => ?_) (fun h => by rw [hon] at h; cases h))
    have hF := fr_next (fr_next (rfl) (((hf 2 52 (by kernel_rfl) rfl).trans hv2).trans (congrArg Value.bool (show (decide (t1 < (0 : Int))) = false from dec_f q6)))) ((hf 8 58 (by kernel_rfl) rfl).trans hv8)
    refine ls_fr hF ?_
    refine ls_str (A := A1) (c := c1) (e := 5) (l := l1) rfl rfl (by kernel_rfl) rfl (by kernel_rfl) (by kernel_rfl) (by kernel_rfl) (by kernel_rfl) (fun w1 hs1 => (Rd.step (hs.old R1) hs1.below.bw)) ?_
    exact ls_fin s0 _ (congrArg (fun z => upd z 59 _) hF.symm) ⟨rfl, rfl⟩ (sub_nil _)
  obtain ⟨s5_10, hs5_10⟩ := exv (.bool (Op.bytesLess y26.toList (strOfNums l1).toList || (y26.toList == (strOfNums l1).toList)))
  refine have_opa shadowboxlaw16_LeafFinds.tab3 0 10 (fun sp => sp 10 = s5_10 ∧ sp 2 = s5_2 ∧ sp 7 = s5_7 ∧ sp 9 = s5_9) (fun sp on hA hon => ?_) (fun ops5_10 => ?_)
  · refine ⟨fun o ho vs Rs f' S' w hp hf hx hS hR hs => ?_⟩
    obtain rfl := Option.some.inj ho
    obtain ⟨hv2, hR2⟩ := (spe hA.2.1 hs5_2 (hp 2 (by kernel_rfl)))
    obtain ⟨hv7, hR7⟩ := (spe hA.2.2.1 hs5_7 (hp 7 (by kernel_rfl)))
    obtain ⟨hv9, hR9⟩ := (spe hA.2.2.2 hs5_9 (hp 9 (by kernel_rfl)))
    rw [hA.1, hs5_10]
    refine And.intro (fun a ha => (want_is (j := 2) (t := 52) (r := true) rfl rfl (by kernel_rfl) (((hf 2 52 (by kernel_rfl) rfl).trans hv2).trans (congrArg Value.bool (show (decide (t1 < (0 : Int))) = false from dec_f q6))) rfl a ha).trans hon.symm) (And.intro (fun _ => ?_) (fun h => by rw [hon] at h; cases h))
    have hF := fr_next (fr_next (fr_next (rfl) (((hf 2 52 (by kernel_rfl) rfl).trans hv2).trans (congrArg Value.bool (show (decide (t1 < (0 : Int))) = false from dec_f q6)))) ((hf 7 57 (by kernel_rfl) rfl).trans hv7)) ((hf 9 59 (by kernel_rfl) rfl).trans hv9)
    refine ls_fr hF ?_
    refine lv (.bool (Op.bytesLess y26.toList (strOfNums l1).toList || (y26.toList == (strOfNums l1).toList))) ?_
    exact ls_fin s0 _ (congrArg (fun z => upd z 60 _) hF.symm) ⟨rfl, rfl⟩ (sub_nil _)
  obtain ⟨s5_11, hs5_11⟩ := exv (.bool (Op.bytesLess y26.toList (strOfNums l1).toList || (y26.toList == (strOfNums l1).toList)))
  refine have_opa shadowboxlaw16_LeafFinds.tab3 0 11 (fun sp => sp 11 = s5_11 ∧ sp 2 = s5_2 ∧ sp 10 = s5_10) (fun sp on hA hon => ?_) (fun ops5_11 => ?_)
  · refine ⟨fun o ho vs Rs f' S' w hp hf hx hS hR hs => ?_⟩
    obtain rfl := Option.some.inj ho
    obtain ⟨hv2, hR2⟩ := (spe hA.2.1 hs5_2 (hp 2 (by kernel_rfl)))
    obtain ⟨hv10, hR10⟩ := (spe hA.2.2 hs5_10 (hp 10 (by kernel_rfl)))
    exact opv (.bool (Op.bytesLess y26.toList (strOfNums l1).toList || (y26.toList == (strOfNums l1).toList))) hA.1 hs5_11 hon (fr_next (fr_next (rfl) (((hf 2 52 (by kernel_rfl) rfl).trans hv2).trans (congrArg Value.bool (show (decide (t1 < (0 : Int))) = false from dec_f q6)))) ((hf 10 60 (by kernel_rfl) rfl).trans hv10))
  obtain ⟨s5_12, hs5_12⟩ := exv (.bool (Op.bytesLess y26.toList (strOfNums l1).toList || (y26.toList == (strOfNums l1).toList)))
  refine have_opa shadowboxlaw16_LeafFinds.tab3 0 12 (fun sp => sp 12 = s5_12 ∧ sp 11 = s5_11) (fun sp on hA hon => ?_) (fun ops5_12 => ?_)
  · refine ⟨fun o ho vs Rs f' S' w hp hf hx hS hR hs => ?_⟩
    obtain rfl := Option.some.inj ho
    obtain ⟨hv11, hR11⟩ := (spe hA.2 hs5_11 (hp 11 (by kernel_rfl)))
    exact opv (.bool (Op.bytesLess y26.toList (strOfNums l1).toList || (y26.toList == (strOfNums l1).toList))) hA.1 hs5_12 hon (fr_next (rfl) ((hf 11 61 (by kernel_rfl) rfl).trans hv11))
  by_cases q28 : (Op.bytesLess y26.toList (strOfNums l1).toList || (y26.toList == (strOfNums l1).toList)) = true
  · replace H := ite_t q28 H
    obtain ⟨s5_13, hs5_13⟩ := exv (.int .i64 t1)
    refine have_opa shadowboxlaw16_LeafFinds.tab3 0 13 (fun sp => sp 13 = s5_13 ∧ sp 12 = s5_12) (fun sp on hA hon => ?_) (fun ops5_13 => ?_)
    · refine ⟨fun o ho vs Rs f' S' w hp hf hx hS hR hs => ?_⟩
      obtain rfl := Option.some.inj ho
      obtain ⟨hv12, hR12⟩ := (spe hA.2 hs5_12 (hp 12 (by kernel_rfl)))
      rw [hA.1, hs5_13]
      refine And.intro (fun a ha => (want_is (j := 12) (t := 62) (r := true) rfl rfl (by kernel_rfl) (((hf 12 62 (by kernel_rfl) rfl).trans hv12).trans (congrArg Value.bool (show (Op.bytesLess y26.toList (strOfNums l1).toList || (y26.toList == (strOfNums l1).toList)) = true from q28))) rfl a ha).trans hon.symm) (And.intro (fun _ => ?_) (fun h => by rw [hon] at h; cases h))
      have hF := fr_next (fr_next (rfl) ((hx 6 (by kernel_rfl)).trans (by kernel_rfl : (_ : Value) = .int .i64 t1))) (((hf 12 62 (by kernel_rfl) rfl).trans hv12).trans (congrArg Value.bool (show (Op.bytesLess y26.toList (strOfNums l1).toList || (y26.toList == (strOfNums l1).toList)) = true from q28)))
      refine ls_fr hF ?_
      refine lv (.int .i64 t1) ?_
      exact ls_fin s0 _ (congrArg (fun z => upd z 63 _) hF.symm) ⟨rfl, rfl⟩ (sub_nil _)
    obtain ⟨s5_14, hs5_14⟩ := exv (.int .i64 (IntKind.wrap .i64 (t1 + (1 : Int))))
    refine have_opa shadowboxlaw16_LeafFinds.tab3 0 14 (fun sp => sp 14 = s5_14 ∧ sp 12 = s5_12 ∧ sp 13 = s5_13) (fun sp on hA hon => ?_) (fun ops5_14 => ?_)
    · refine ⟨fun o ho vs Rs f' S' w hp hf hx hS hR hs => ?_⟩
      obtain rfl := Option.some.inj ho
      obtain ⟨hv12, hR12⟩ := (spe hA.2.1 hs5_12 (hp 12 (by kernel_rfl)))
      obtain ⟨hv13, hR13⟩ := (spe hA.2.2 hs5_13 (hp 13 (by kernel_rfl)))
      rw [hA.1, hs5_14]
      refine And.intro (fun a ha => (want_is (j := 12) (t := 62) (r := true) rfl rfl (by kernel_rfl) (((hf 12 62 (by kernel_rfl) rfl).trans hv12).trans (congrArg Value.bool (show (Op.bytesLess y26.toList (strOfNums l1).toList || (y26.toList == (strOfNums l1).toList)) = true from q28))) rfl a ha).trans hon.symm) (And.intro (fun _ => ?_) (fun h => by rw [hon] at h; cases h))
      have hF := fr_next (fr_next (rfl) (((hf 12 62 (by kernel_rfl) rfl).trans hv12).trans (congrArg Value.bool (show (Op.bytesLess y26.toList (strOfNums l1).toList || (y26.toList == (strOfNums l1).toList)) = true from q28)))) ((hf 13 63 (by kernel_rfl) rfl).trans hv13)
      refine ls_fr hF ?_
      refine lv (.int .i64 (IntKind.wrap .i64 (t1 + (1 : Int)))) ?_
      exact ls_fin s0 _ (congrArg (fun z => upd z 64 _) hF.symm) ⟨rfl, rfl⟩ (sub_nil _)
    obtain ⟨s5_15, hs5_15⟩ := exv (.slice A0_1 l0_1.length c0_1)
    refine have_opa shadowboxlaw16_LeafFinds.tab3 0 15 (fun sp => sp 15 = s5_15 ∧ sp 12 = s5_12) (fun sp on hA hon => ?_) (fun ops5_15 => ?_)
    · refine ⟨fun o ho vs Rs f' S' w hp hf hx hS hR hs => ?_⟩
      obtain rfl := Option.some.inj ho
      obtain ⟨hv12, hR12⟩ := (spe hA.2 hs5_12 (hp 12 (by kernel_rfl)))
      rw [hA.1, hs5_15]
      refine And.intro (fun a ha => (want_is (j := 12) (t := 62) (r := true) rfl rfl (by kernel_rfl) (((hf 12 62 (by kernel_rfl) rfl).trans hv12).trans (congrArg Value.bool (show (Op.bytesLess y26.toList (strOfNums l1).toList || (y26.toList == (strOfNums l1).toList)) = true from q28))) rfl a ha).trans hon.symm) (And.intro (fun _ => ?_) (fun h => by rw [hon] at h; cases h))
      have hF := fr_next (fr_next (rfl) ((hx 0 (by kernel_rfl)).trans (by kernel_rfl : (_ : Value) = .slice A0_1 l0_1.length c0_1))) (((hf 12 62 (by kernel_rfl) rfl).trans hv12).trans (congrArg Value.bool (show (Op.bytesLess y26.toList (strOfNums l1).toList || (y26.toList == (strOfNums l1).toList)) = true from q28)))
      refine ls_fr hF ?_
      refine lv (.slice A0_1 l0_1.length c0_1) ?_
      exact ls_fin s0 _ (congrArg (fun z => upd z 65 _) hF.symm) ⟨rfl, rfl⟩ (sub_nil _)
    obtain ⟨s5_16, hs5_16⟩ := exv (.int .i64 (l0_1.length : Int))
    refine have_opa shadowboxlaw16_LeafFinds.tab3 0 16 (fun sp => sp 16 = s5_16 ∧ sp 12 = s5_12 ∧ sp 15 = s5_15) (fun sp on hA hon => ?_) (fun ops5_16 => ?_)
    · refine ⟨fun o ho vs Rs f' S' w hp hf hx hS hR hs => ?_⟩
      obtain rfl := Option.some.inj ho
      obtain ⟨hv12, hR12⟩ := (spe hA.2.1 hs5_12 (hp 12 (by kernel_rfl)))
      obtain ⟨hv15, hR15⟩ := (spe hA.2.2 hs5_15 (hp 15 (by kernel_rfl)))
      rw [hA.1, hs5_16]
      refine And.intro (fun a ha => (want_is (j := 12) (t := 62) (r := true) rfl rfl (by kernel_rfl) (((hf 12 62 (by kernel_rfl) rfl).trans hv12).trans (congrArg Value.bool (show (Op.bytesLess y26.toList (strOfNums l1).toList || (y26.toList == (strOfNums l1).toList)) = true from q28))) rfl a ha).trans hon.symm) (And.intro (fun _ => ?_) (fun h => by rw [hon] at h; cases h))
      have hF := fr_next (fr_next (rfl) (((hf 12 62 (by kernel_rfl) rfl).trans hv12).trans (congrArg Value.bool (show (Op.bytesLess y26.toList (strOfNums l1).toList || (y26.toList == (strOfNums l1).toList)) = true from q28)))) ((hf 15 65 (by kernel_rfl) rfl).trans hv15)
      refine ls_fr hF ?_
      refine lv (.int .i64 (l0_1.length : Int)) ?_
      exact ls_fin s0 _ (congrArg (fun z => upd z 66 _) hF.symm) ⟨rfl, rfl⟩ (sub_nil _)
    obtain ⟨s5_17, hs5_17⟩ := exv (.bool (decide ((IntKind.wrap .i64 (t1 + (1 : Int))) ≥ (l0_1.length : Int))))
    refine have_opa shadowboxlaw16_LeafFinds.tab3 0 17 (fun sp => sp 17 = s5_17 ∧ sp 12 = s5_12 ∧ sp 14 = s5_14 ∧ sp 16 = s5_16) (fun sp on hA hon => ?_) (fun ops5_17 => ?_)
    · refine ⟨fun o ho vs Rs f' S' w hp hf hx hS hR hs => ?_⟩
      obtain rfl := Option.some.inj ho
      obtain ⟨hv12, hR12⟩ := (spe hA.2.1 hs5_12 (hp 12 (by kernel_rfl)))
      obtain ⟨hv14, hR14⟩ := (spe hA.2.2.1 hs5_14 (hp 14 (by kernel_rfl)))
      obtain ⟨hv16, hR16⟩ := (spe hA.2.2.2 hs5_16 (hp 16 (by kernel_rfl)))
      rw [hA.1, hs5_17]
      refine And.intro (fun a ha => (want_is (j := 12) (t := 62) (r := true) rfl rfl (by kernel_rfl) (((hf 12 62 (by kernel_rfl) rfl).trans hv12).trans (congrArg Value.bool (show (Op.bytesLess y26.toList (strOfNums l1).toList || (y26.toList == (strOfNums l1).toList)) = true from q28))) rfl a ha).trans hon.symm) (And.intro (fun _ => ?_) (fun h => by rw [hon] at h; cases h))
      have hF := fr_next (fr_next (fr_next (rfl) (((hf 12 62 (by kernel_rfl) rfl).trans hv12).trans (congrArg Value.bool (show (Op.bytesLess y26.toList (strOfNums l1).toList || (y26.toList == (strOfNums l1).toList)) = true from q28)))) ((hf 14 64 (by kernel_rfl) rfl).trans hv14)) ((hf 16 66 (by kernel_rfl) rfl).trans hv16)
      refine ls_fr hF ?_
      refine lv (.bool (decide ((IntKind.wrap .i64 (t1 + (1 : Int))) ≥ (l0_1.length : Int)))) ?_
      exact ls_fin s0 _ (congrArg (fun z => upd z 67 _) hF.symm) ⟨rfl, rfl⟩ (sub_nil _)
    obtain ⟨s5_18, hs5_18⟩ := exv (.bool (decide ((IntKind.wrap .i64 (t1 + (1 : Int))) ≥ (l0_1.length : Int))))
    refine have_opa shadowboxlaw16_LeafFinds.tab3 0 18 (fun sp => sp 18 = s5_18 ∧ sp 12 = s5_12 ∧ sp 17 = s5_17) (fun sp on hA hon => ?_) (fun ops5_18 => ?_)
    · refine ⟨fun o ho vs Rs f' S' w hp hf hx hS hR hs => ?_⟩
      obtain rfl := Option.some.inj ho
      obtain ⟨hv12, hR12⟩ := (spe hA.2.1 hs5_12 (hp 12 (by kernel_rfl)))
      obtain ⟨hv17, hR17⟩ := (spe hA.2.2 hs5_17 (hp 17 (by kernel_rfl)))
      rw [hA.1, hs5_18]
      refine And.intro (fun a ha => (want_is (j := 12) (t := 62) (r := true) rfl rfl (by kernel_rfl) (((hf 12 62 (by kernel_rfl) rfl).trans hv12).trans (congrArg Value.bool (show (Op.bytesLess y26.toList (strOfNums l1).toList || (y26.toList == (strOfNums l1).toList)) = true from q28))) rfl a ha).trans hon.symm) (And.intro (fun _ => ?_) (fun h => by rw [hon] at h; cases h))
      have hF := fr_next (fr_next (rfl) (((hf 12 62 (by kernel_rfl) rfl).trans hv12).trans (congrArg Value.bool (show (Op.bytesLess y26.toList (strOfNums l1).toList || (y26.toList == (strOfNums l1).toList)) = true from q28)))) ((hf 17 67 (by kernel_rfl) rfl).trans hv17)
      refine ls_fr hF ?_
      refine lv (.bool (decide ((IntKind.wrap .i64 (t1 + (1 : Int))) ≥ (l0_1.length : Int)))) ?_
      exact ls_fin s0 _ (congrArg (fun z => upd z 68 _) hF.symm) ⟨rfl, rfl⟩ (sub_nil _)
    by_cases q29 : (IntKind.wrap .i64 (t1 + (1 : Int))) ≥ (l0_1.length : Int)
    · replace H := ite_t q29 H
      refine cs_draw shadowboxlaw16_LeafFinds.tab3 27 0 (spl [s5_0, s5_1, s5_2, s5_3, s5_4, s5_5, s5_6, s5_7, s5_8, s5_9, s5_10, s5_11, s5_12, s5_13, s5_14, s5_15, s5_16, s5_17, s5_18, spu, spu, spu, spu, spu, spu, spu, spu]) (onl [true, true, true, true, true, true, true, true, true, true, true, true, true, true, true, true, true, true, true, false, false, false, false, false, false, false, false]) (by kernel_rfl) (by kernel_rfl) (by kernel_rfl) (by kernel_rfl) (rs := [_, _, _, _]) rfl (by kernel_rfl) (by kernel_rfl) (all_snoc (all_snoc (all_snoc (all_snoc (all_snoc (all_snoc (all_snoc (all_snoc (all_snoc (all_snoc (all_snoc (all_snoc (all_snoc (all_snoc (all_snoc (all_snoc (all_snoc (all_snoc (all_snoc (all_snoc (all_snoc (all_snoc (all_snoc (all_snoc (all_snoc (all_snoc (all_snoc (all_nil) (ops5_0 _ _ rfl rfl)) (ops5_1 _ _ ⟨rfl, rfl⟩ rfl)) (ops5_2 _ _ ⟨rfl, rfl⟩ rfl)) (ops5_3 _ _ ⟨rfl, rfl⟩ rfl)) (ops5_4 _ _ ⟨rfl, rfl⟩ rfl)) (ops5_5 _ _ ⟨rfl, rfl, rfl, rfl⟩ rfl)) (ops5_6 _ _ ⟨rfl, rfl, rfl⟩ rfl)) (ops5_7 _ _ ⟨rfl, rfl, rfl⟩ rfl)) (ops5_8 _ _ ⟨rfl, rfl⟩ rfl)) (ops5_9 _ _ ⟨rfl, rfl, rfl⟩ rfl)) (ops5_10 _ _ ⟨rfl, rfl, rfl, rfl⟩ rfl)) (ops5_11 _ _ ⟨rfl, rfl, rfl⟩ rfl)) (ops5_12 _ _ ⟨rfl, rfl⟩ rfl)) (ops5_13 _ _ ⟨rfl, rfl⟩ rfl)) (ops5_14 _ _ ⟨rfl, rfl, rfl⟩ rfl)) (ops5_15 _ _ ⟨rfl, rfl⟩ rfl)) (ops5_16 _ _ ⟨rfl, rfl, rfl⟩ rfl)) (ops5_17 _ _ ⟨rfl, rfl, rfl, rfl⟩ rfl)) (ops5_18 _ _ ⟨rfl, rfl, rfl⟩ rfl)) (op_offi 19 18 68 false rfl rfl (by kernel_rfl) (by kernel_rfl) rfl (fun v R h => by rw [hs5_18] at h; obtain ⟨h, _⟩ := h; exact h.trans (congrArg Value.bool (show (decide ((IntKind.wrap .i64 (t1 + (1 : Int))) ≥ (l0_1.length : Int))) = true from dec_t q29))) rfl rfl)) (op_offi 20 18 68 false rfl rfl (by kernel_rfl) (by kernel_rfl) rfl (fun v R h => by rw [hs5_18] at h; obtain ⟨h, _⟩ := h; exact h.trans (congrArg Value.bool (show (decide ((IntKind.wrap .i64 (t1 + (1 : Int))) ≥ (l0_1.length : Int))) = true from dec_t q29))) rfl rfl)) (op_offi 21 18 68 false rfl rfl (by kernel_rfl) (by kernel_rfl) rfl (fun v R h => by rw [hs5_18] at h; obtain ⟨h, _⟩ := h; exact h.trans (congrArg Value.bool (show (decide ((IntKind.wrap .i64 (t1 + (1 : Int))) ≥ (l0_1.length : Int))) = true from dec_t q29))) rfl rfl)) (op_offi 22 18 68 false rfl rfl (by kernel_rfl) (by kernel_rfl) rfl (fun v R h => by rw [hs5_18] at h; obtain ⟨h, _⟩ := h; exact h.trans (congrArg Value.bool (show (decide ((IntKind.wrap .i64 (t1 + (1 : Int))) ≥ (l0_1.length : Int))) = true from dec_t q29))) rfl rfl)) (op_offi 23 18 68 false rfl rfl (by kernel_rfl) (by kernel_rfl) rfl (fun v R h => by rw [hs5_18] at h; obtain ⟨h, _⟩ := h; exact h.trans (congrArg Value.bool (show (decide ((IntKind.wrap .i64 (t1 + (1 : Int))) ≥ (l0_1.length : Int))) = true from dec_t q29))) rfl rfl)) (op_offi 24 18 68 false rfl rfl (by kernel_rfl) (by kernel_rfl) rfl (fun v R h => by rw [hs5_18] at h; obtain ⟨h, _⟩ := h; exact h.trans (congrArg Value.bool (show (decide ((IntKind.wrap .i64 (t1 + (1 : Int))) ≥ (l0_1.length : Int))) = true from dec_t q29))) rfl rfl)) (op_offi 25 18 68 false rfl rfl (by kernel_rfl) (by kernel_rfl) rfl (fun v R h => by rw [hs5_18] at h; obtain ⟨h, _⟩ := h; exact h.trans (congrArg Value.bool (show (decide ((IntKind.wrap .i64 (t1 + (1 : Int))) ≥ (l0_1.length : Int))) = true from dec_t q29))) rfl rfl)) (op_offi 26 18 68 false rfl rfl (by kernel_rfl) (by kernel_rfl) rfl (fun v R h => by rw [hs5_18] at h; obtain ⟨h, _⟩ := h; exact h.trans (congrArg Value.bool (show (decide ((IntKind.wrap .i64 (t1 + (1 : Int))) ≥ (l0_1.length : Int))) = true from dec_t q29))) rfl rfl)) ?_
      intro vs Rs f' S' hp hf hx hS hR
      obtain ⟨hv12, hR12⟩ := (spe rfl hs5_12 (hp 12 (by kernel_rfl)))
      obtain ⟨hv18, hR18⟩ := (spe rfl hs5_18 (hp 18 (by kernel_rfl)))
      obtain ⟨hv24, hR24⟩ := (spe rfl rfl (hp 24 (by kernel_rfl)) : spu _ _)
      obtain ⟨hv26, hR26⟩ := (spe rfl rfl (hp 26 (by kernel_rfl)) : spu _ _)
      refine ls_fr (F := upd (upd f' 62 (.bool (Op.bytesLess y26.toList (strOfNums l1).toList || (y26.toList == (strOfNums l1).toList)))) 68 (.bool (decide ((IntKind.wrap .i64 (t1 + (1 : Int))) ≥ (l0_1.length : Int))))) (fr_next (fr_next (rfl) ((hf 12 62 (by kernel_rfl) rfl).trans hv12)) ((hf 18 68 (by kernel_rfl) rfl).trans hv18)) ?_
      refine ls_sub (s0) (sub_nil _) ?_
      refine ls_know (c := true) (dec_t q29) 68 (by kernel_rfl) ?_
      refine lofx 18 68 false true ?_
      refine ls_know (c := true) (q28) 62 (by kernel_rfl) ?_
      refine ls_on (j := 12) (t := 62) (b := true) rfl rfl (by kernel_rfl) (by kernel_rfl) ?_
      refine lv (.bool true) ?_
      refine lv (.bool true) ?_
      refine lv (.bool true) ?_
      refine ls_end ?_
      refine qn_then ?_
      refine cs_ret' ?_
      obtain rfl := Option.some.inj H
      refine qr_res (rs := [_]) rfl (fun w' hs => ⟨[.bool true], (res_tmp (by kernel_rfl) (.nil)), (), rfl, hs.pick (ts := []) (cs := []) trivial (by decide)⟩)
    replace H := ite_f q29 H
    obtain ⟨s5_19, hs5_19⟩ := exv (.slice A0_1 l0_1.length c0_1)
    refine have_opa shadowboxlaw16_LeafFinds.tab3 0 19 (fun sp => sp 19 = s5_19 ∧ sp 18 = s5_18) (fun sp on hA hon => ?_) (fun ops5_19 => ?_)
    · refine ⟨fun o ho vs Rs f' S' w hp hf hx hS hR hs => ?_⟩
      obtain rfl := Option.some.inj ho
      obtain ⟨hv18, hR18⟩ := (spe hA.2 hs5_18 (hp 18 (by kernel_rfl)))
      rw [hA.1, hs5_19]
      refine And.intro (fun a ha => (want_is (j := 18) (t := 68) (r := true) rfl rfl (by kernel_rfl) (((hf 18 68 (by kernel_rfl) rfl).trans hv18).trans (congrArg Value.bool (show (decide ((IntKind.wrap .i64 (t1 + (1 : Int))) ≥ (l0_1.length : Int))) = false from dec_f q29))) rfl a ha).trans hon.symm) (And.intro (fun _ => ?_) (fun h => by rw [hon] at h; cases h))
      have hF := fr_next (fr_next (rfl) ((hx 0 (by kernel_rfl)).trans (by kernel_rfl : (_ : Value) = .slice A0_1 l0_1.length c0_1))) (((hf 18 68 (by kernel_rfl) rfl).trans hv18).trans (congrArg Value.bool (show (decide ((IntKind.wrap .i64 (t1 + (1 : Int))) ≥ (l0_1.length : Int))) = false from dec_f q29)))
      refine ls_fr hF ?_
      refine lv (.slice A0_1 l0_1.length c0_1) ?_
      exact ls_fin s0 _ (congrArg (fun z => upd z 69 _) hF.symm) ⟨rfl, rfl⟩ (sub_nil _)
    obtain ⟨s5_20, hs5_20⟩ := exv (.int .i64 t1)
    refine have_opa shadowboxlaw16_LeafFinds.tab3 0 20 (fun sp => sp 20 = s5_20 ∧ sp 18 = s5_18) (fun sp on hA hon => ?_) (fun ops5_20 => ?_)
    · refine ⟨fun o ho vs Rs f' S' w hp hf hx hS hR hs => ?_⟩
      obtain rfl := Option.some.inj ho
      obtain ⟨hv18, hR18⟩ := (spe hA.2 hs5_18 (hp 18 (by kernel_rfl)))
      rw [hA.1, hs5_20]
      refine And.intro (fun a ha => (want_is (j := 18) (t := 68) (r := true) rfl rfl (by kernel_rfl) (((hf 18 68 (by kernel_rfl) rfl).trans hv18).trans (congrArg Value.bool (show (decide ((IntKind.wrap .i64 (t1 + (1 : Int))) ≥ (l0_1.length : Int))) = false from dec_f q29))) rfl a ha).trans hon.symm) (And.intro (fun _ => ?_) (fun h => by rw [hon] at h; cases h))
      have hF := fr_next (fr_next (rfl) ((hx 6 (by kernel_rfl)).trans (by kernel_rfl : (_ : Value) = .int .i64 t1))) (((hf 18 68 (by kernel_rfl) rfl).trans hv18).trans (congrArg Value.bool (show (decide ((IntKind.wrap .i64 (t1 + (1 : Int))) ≥ (l0_1.length : Int))) = false from dec_f q29)))
      refine ls_fr hF ?_
      refine lv (.int .i64 t1) ?_
      exact ls_fin s0 _ (congrArg (fun z => upd z 70 _) hF.symm) ⟨rfl, rfl⟩ (sub_nil _)
    obtain ⟨s5_21, hs5_21⟩ := exv (.int .i64 (IntKind.wrap .i64 (t1 + (1 : Int))))
    refine have_opa shadowboxlaw16_LeafFinds.tab3 0 21 (fun sp => sp 21 = s5_21 ∧ sp 18 = s5_18 ∧ sp 20 = s5_20) (fun sp on hA hon => ?_) (fun ops5_21 => ?_)
    · refine ⟨fun o ho vs Rs f' S' w hp hf hx hS hR hs => ?_⟩
      obtain rfl := Option.some.inj ho
      obtain ⟨hv18, hR18⟩ := (spe hA.2.1 hs5_18 (hp 18 (by kernel_rfl)))
      obtain ⟨hv20, hR20⟩ := (spe hA.2.2 hs5_20 (hp 20 (by kernel_rfl)))
      rw [hA.1, hs5_21]
      refine And.intro (fun a ha => (want_is (j := 18) (t := 68) (r := true) rfl rfl (by kernel_rfl) (((hf 18 68 (by kernel_rfl) rfl).trans hv18).trans (congrArg Value.bool (show (decide ((IntKind.wrap .i64 (t1 + (1 : Int))) ≥ (l0_1.length : Int))) = false from dec_f q29))) rfl a ha).trans hon.symm) (And.intro (fun _ => ?_) (fun h => by rw [hon] at h; cases h))
      have hF := fr_next (fr_next (rfl) (((hf 18 68 (by kernel_rfl) rfl).trans hv18).trans (congrArg Value.bool (show (decide ((IntKind.wrap .i64 (t1 + (1 : Int))) ≥ (l0_1.length : Int))) = false from dec_f q29)))) ((hf 20 70 (by kernel_rfl) rfl).trans hv20)
      refine ls_fr hF ?_
      refine lv (.int .i64 (IntKind.wrap .i64 (t1 + (1 : Int)))) ?_
      exact ls_fin s0 _ (congrArg (fun z => upd z 71 _) hF.symm) ⟨rfl, rfl⟩ (sub_nil _)
    obtain ⟨q30, H⟩ := ite_need H
    obtain ⟨q31, H⟩ := ite_need H
    obtain ⟨ad32, hA33⟩ := idoS_at (l := l0_1) (i := IntKind.wrap .i64 (t1 + (1 : Int))) R0_1 q30 q31
    obtain ⟨s5_22, hs5_22⟩ := exv (.pointer (some (ad32.add ((IntKind.wrap .i64 (t1 + (1 : Int))).toNat * 1))))
    refine have_opa shadowboxlaw16_LeafFinds.tab3 0 22 (fun sp => sp 22 = s5_22 ∧ sp 18 = s5_18 ∧ sp 19 = s5_19 ∧ sp 21 = s5_21) (fun sp on hA hon => ?_) (fun ops5_22 => ?_)
    · refine ⟨fun o ho vs Rs f' S' w hp hf hx hS hR hs => ?_⟩
      obtain rfl := Option.some.inj ho
      obtain ⟨hv18, hR18⟩ := (spe hA.2.1 hs5_18 (hp 18 (by kernel_rfl)))
      obtain ⟨hv19, hR19⟩ := (spe hA.2.2.1 hs5_19 (hp 19 (by kernel_rfl)))
      obtain ⟨hv21, hR21⟩ := (spe hA.2.2.2 hs5_21 (hp 21 (by kernel_rfl)))
      rw [hA.1, hs5_22]
      refine And.intro (fun a ha => (want_is (j := 18) (t := 68) (r := true) rfl rfl (by kernel_rfl) (((hf 18 68 (by kernel_rfl) rfl).trans hv18).trans (congrArg Value.bool (show (decide ((IntKind.wrap .i64 (t1 + (1 : Int))) ≥ (l0_1.length : Int))) = false from dec_f q29))) rfl a ha).trans hon.symm) (And.intro (fun _ => ?_) (fun h => by rw [hon] at h; cases h))
      have hF := fr_next (fr_next (fr_next (rfl) (((hf 18 68 (by kernel_rfl) rfl).trans hv18).trans (congrArg Value.bool (show (decide ((IntKind.wrap .i64 (t1 + (1 : Int))) ≥ (l0_1.length : Int))) = false from dec_f q29)))) ((hf 19 69 (by kernel_rfl) rfl).trans hv19)) ((hf 21 71 (by kernel_rfl) rfl).trans hv21)
      refine ls_fr hF ?_
      refine ls_idxv (Ec.sld 23 Int) (A := A0_1) (c := c0_1) (l := l0_1) (k := .i64) (i := IntKind.wrap .i64 (t1 + (1 : Int))) (z := 1) (ad := ad32) rfl rfl (by kernel_rfl) hA33 rfl (by kernel_rfl) (by kernel_rfl) (by kernel_rfl) (by kernel_rfl) q30 q31 ?_
      exact ls_fin s0 _ (congrArg (fun z => upd z 72 _) hF.symm) ⟨rfl, rfl⟩ (sub_nil _)
    obtain ⟨xq34, hq35, xR36, xC37⟩ := RoS.el (l := l0_1) R0_1 hA33 (i := IntKind.wrap .i64 (t1 + (1 : Int))) q30 q31
    obtain ⟨s5_23, hs5_23⟩ := exv (.slice xq34.1 ((l0_1).getD (IntKind.wrap .i64 (t1 + (1 : Int))).toNat ([] : List Int)).length xq34.2)
    refine have_opa shadowboxlaw16_LeafFinds.tab3 0 23 (fun sp => sp 23 = s5_23 ∧ sp 18 = s5_18 ∧ sp 22 = s5_22) (fun sp on hA hon => ?_) (fun ops5_23 => ?_)
    · refine ⟨fun o ho vs Rs f' S' w hp hf hx hS hR hs => ?_⟩
      obtain rfl := Option.some.inj ho
      obtain ⟨hv18, hR18⟩ := (spe hA.2.1 hs5_18 (hp 18 (by kernel_rfl)))
      obtain ⟨hv22, hR22⟩ := (spe hA.2.2 hs5_22 (hp 22 (by kernel_rfl)))
      rw [hA.1, hs5_23]
      refine And.intro (fun a ha => (want_is (j := 18) (t := 68) (r := true) rfl rfl (by kernel_rfl) (((hf 18 68 (by kernel_rfl) rfl).trans hv18).trans (congrArg Value.bool (show (decide ((IntKind.wrap .i64 (t1 + (1 : Int))) ≥ (l0_1.length : Int))) = false from dec_f q29))) rfl a ha).trans hon.symm) (And.intro (fun _ => ?_) (fun h => by rw [hon] at h; cases h))
      have hF := fr_next (fr_next (rfl) (((hf 18 68 (by kernel_rfl) rfl).trans hv18).trans (congrArg Value.bool (show (decide ((IntKind.wrap .i64 (t1 + (1 : Int))) ≥ (l0_1.length : Int))) = false from dec_f q29)))) ((hf 22 72 (by kernel_rfl) rfl).trans hv22)
      refine ls_fr hF ?_
      refine ls_load (a0 := (ad32.add ((IntKind.wrap .i64 (t1 + (1 : Int))).toNat * 1))) (v := .slice xq34.1 ((l0_1).getD (IntKind.wrap .i64 (t1 + (1 : Int))).toNat ([] : List Int)).length xq34.2) (de := (TypeDesc.slice 5)) rfl rfl (by kernel_rfl) rfl (by kernel_rfl) (by kernel_rfl) (by kernel_rfl) (fun w1 hs1 => (Rd.step (hs.old hq35) hs1.below.bw).cell0) ?_
      exact ls_fin s0 _ (congrArg (fun z => upd z 73 _) hF.symm) ⟨rfl, rfl⟩ (sub_nil _)
    obtain ⟨y38, hy39, H⟩ := lt_some H
    obtain ⟨s5_24, hs5_24⟩ := exv (.string y38)
    refine have_opa shadowboxlaw16_LeafFinds.tab3 0 24 (fun sp => sp 24 = s5_24 ∧ sp 18 = s5_18 ∧ sp 23 = s5_23) (fun sp on hA hon => ?_) (fun ops5_24 => ?_)
    · refine ⟨fun o ho vs Rs f' S' w hp hf hx hS hR hs => ?_⟩
      obtain rfl := Option.some.inj ho
      obtain ⟨hv18, hR18⟩ := (spe hA.2.1 hs5_18 (hp 18 (by kernel_rfl)))
      obtain ⟨hv23, hR23⟩ := (spe hA.2.2 hs5_23 (hp 23 (by kernel_rfl)))
      rw [hA.1, hs5_24]
      refine And.intro (fun a ha => (want_is (j := 18) (t := 68) (r := true) rfl rfl (by kernel_rfl) (((hf 18 68 (by kernel_rfl) rfl).trans hv18).trans (congrArg Value.bool (show (decide ((IntKind.wrap .i64 (t1 + (1 : Int))) ≥ (l0_1.length : Int))) = false from dec_f q29))) rfl a ha).trans hon.symm) (And.intro (fun _ => ?_) (fun h => by rw [hon] at h; cases h))
      have hF := fr_next (fr_next (rfl) (((hf 18 68 (by kernel_rfl) rfl).trans hv18).trans (congrArg Value.bool (show (decide ((IntKind.wrap .i64 (t1 + (1 : Int))) ≥ (l0_1.length : Int))) = false from dec_f q29)))) ((hf 23 73 (by kernel_rfl) rfl).trans hv23)
      refine ls_fr hF ?_
      refine ls_str (A := xq34.1) (c := xq34.2) (e := 5) (l := ((l0_1).getD (IntKind.wrap .i64 (t1 + (1 : Int))).toNat ([] : List Int))) rfl rfl (by kernel_rfl) rfl (by kernel_rfl) (by kernel_rfl) (by kernel_rfl) (by kernel_rfl) (fun w1 hs1 => (Rd.step (hs.old xR36) hs1.below.bw)) ?_
      refine ls_ren 74 (v := .string (strOfNums ((l0_1).getD (IntKind.wrap .i64 (t1 + (1 : Int))).toNat ([] : List Int)))) (v' := .string y38) (by kernel_rfl) (by rw [hy39]) ?_
      exact ls_fin s0 _ ((upd_upd _ _ _ _).trans (congrArg (fun z => upd z 74 _) hF.symm)) ⟨rfl, rfl⟩ (sub_nil _)
    obtain ⟨s5_25, hs5_25⟩ := exv (.slice A1 l1.length c1)
    refine have_opa shadowboxlaw16_LeafFinds.tab3 0 25 (fun sp => sp 25 = s5_25 ∧ sp 18 = s5_18) (fun sp on hA hon => ?_) (fun ops5_25 => ?_)
    · refine ⟨fun o ho vs Rs f' S' w hp hf hx hS hR hs => ?_⟩
      obtain rfl := Option.some.inj ho
      obtain ⟨hv18, hR18⟩ := (spe hA.2 hs5_18 (hp 18 (by kernel_rfl)))
      rw [hA.1, hs5_25]
      refine And.intro (fun a ha => (want_is (j := 18) (t := 68) (r := true) rfl rfl (by kernel_rfl) (((hf 18 68 (by kernel_rfl) rfl).trans hv18).trans (congrArg Value.bool (show (decide ((IntKind.wrap .i64 (t1 + (1 : Int))) ≥ (l0_1.length : Int))) = false from dec_f q29))) rfl a ha).trans hon.symm) (And.intro (fun _ => ?_) (fun h => by rw [hon] at h; cases h))
      have hF := fr_next (fr_next (rfl) ((hx 1 (by kernel_rfl)).trans (by kernel_rfl : (_ : Value) = .slice A1 l1.length c1))) (((hf 18 68 (by kernel_rfl) rfl).trans hv18).trans (congrArg Value.bool (show (decide ((IntKind.wrap .i64 (t1 + (1 : Int))) ≥ (l0_1.length : Int))) = false from dec_f q29)))
      refine ls_fr hF ?_
      refine lv (.slice A1 l1.length c1) ?_
      exact ls_fin s0 _ (congrArg (fun z => upd z 75 _) hF.symm) ⟨rfl, rfl⟩ (sub_nil _)
    obtain ⟨s5_26, hs5_26⟩ := exv (.string (strOfNums l1))
    refine have_opa shadowboxlaw16_LeafFinds.tab3 0 26 (fun sp => sp 26 = s5_26 ∧ sp 18 = s5_18 ∧ sp 25 = s5_25) (fun sp on hA hon => ?_) (fun ops5_26 => ?_)
    · refine ⟨fun o ho vs Rs f' S' w hp hf hx hS hR hs => ?_⟩
      obtain rfl := Option.some.inj ho
      obtain ⟨hv18, hR18⟩ := (spe hA.2.1 hs5_18 (hp 18 (by kernel_rfl)))
      obtain ⟨hv25, hR25⟩ := (spe hA.2.2 hs5_25 (hp 25 (by kernel_rfl)))
      rw [hA.1, hs5_26]
      refine And.intro (fun a ha => (want_is (j := 18) (t := 68) (r := true) rfl rfl (by kernel_rfl) (((hf 18 68 (by kernel_rfl) rfl).trans hv18).trans (congrArg Value.bool (show (decide ((IntKind.wrap .i64 (t1 + (1 : Int))) ≥ (l0_1.length : Int))) = false from dec_f q29))) rfl a ha).trans hon.symm) (And.intro (fun _ => ?_) (fun h => by rw [hon] at h; cases h))
      have hF := fr_next (fr_next (rfl) (((hf 18 68 (by kernel_rfl) rfl).trans hv18).trans (congrArg Value.bool (show (decide ((IntKind.wrap .i64 (t1 + (1 : Int))) ≥ (l0_1.length : Int))) = false from dec_f q29)))) ((hf 25 75 (by kernel_rfl) rfl).trans hv25)
      refine ls_fr hF ?_
      refine ls_str (A := A1) (c := c1) (e := 5) (l := l1) rfl rfl (by kernel_rfl) rfl (by kernel_rfl) (by kernel_rfl) (by kernel_rfl) (by kernel_rfl) (fun w1 hs1 => (Rd.step (hs.old R1) hs1.below.bw)) ?_
      exact ls_fin s0 _ (congrArg (fun z => upd z 76 _) hF.symm) ⟨rfl, rfl⟩ (sub_nil _)
    refine cs_draw shadowboxlaw16_LeafFinds.tab3 27 0 (spl [s5_0, s5_1, s5_2, s5_3, s5_4, s5_5, s5_6, s5_7, s5_8, s5_9, s5_10, s5_11, s5_12, s5_13, s5_14, s5_15, s5_16, s5_17, s5_18, s5_19, s5_20, s5_21, s5_22, s5_23, s5_24, s5_25, s5_26]) (onl [true, true, true, true, true, true, true, true, true, true, true, true, true, true, true, true, true, true, true, true, true, true, true, true, true, true, true]) (by kernel_rfl) (by kernel_rfl) (by kernel_rfl) (by kernel_rfl) (rs := [_, _, _, _]) rfl (by kernel_rfl) (by kernel_rfl) (all_snoc (all_snoc (all_snoc (all_snoc (all_snoc (all_snoc (all_snoc (all_snoc (all_snoc (all_snoc (all_snoc (all_snoc (all_snoc (all_snoc (all_snoc (all_snoc (all_snoc (all_snoc (all_snoc (all_snoc (all_snoc (all_snoc (all_snoc (all_snoc (all_snoc (all_snoc (all_snoc (all_nil) (ops5_0 _ _ rfl rfl)) (ops5_1 _ _ ⟨rfl, rfl⟩ rfl)) (ops5_2 _ _ ⟨rfl, rfl⟩ rfl)) (ops5_3 _ _ ⟨rfl, rfl⟩ rfl)) (ops5_4 _ _ ⟨rfl, rfl⟩ rfl)) (ops5_5 _ _ ⟨rfl, rfl, rfl, rfl⟩ rfl)) (ops5_6 _ _ ⟨rfl, rfl, rfl⟩ rfl)) (ops5_7 _ _ ⟨rfl, rfl, rfl⟩ rfl)) (ops5_8 _ _ ⟨rfl, rfl⟩ rfl)) (ops5_9 _ _ ⟨rfl, rfl, rfl⟩ rfl)) (ops5_10 _ _ ⟨rfl, rfl, rfl, rfl⟩ rfl)) (ops5_11 _ _ ⟨rfl, rfl, rfl⟩ rfl)) (ops5_12 _ _ ⟨rfl, rfl⟩ rfl)) (ops5_13 _ _ ⟨rfl, rfl⟩ rfl)) (ops5_14 _ _ ⟨rfl, rfl, rfl⟩ rfl)) (ops5_15 _ _ ⟨rfl, rfl⟩ rfl)) (ops5_16 _ _ ⟨rfl, rfl, rfl⟩ rfl)) (ops5_17 _ _ ⟨rfl, rfl, rfl, rfl⟩ rfl)) (ops5_18 _ _ ⟨rfl, rfl, rfl⟩ rfl)) (ops5_19 _ _ ⟨rfl, rfl⟩ rfl)) (ops5_20 _ _ ⟨rfl, rfl⟩ rfl)) (ops5_21 _ _ ⟨rfl, rfl, rfl⟩ rfl)) (ops5_22 _ _ ⟨rfl, rfl, rfl, rfl⟩ rfl)) (ops5_23 _ _ ⟨rfl, rfl, rfl⟩ rfl)) (ops5_24 _ _ ⟨rfl, rfl, rfl⟩ rfl)) (ops5_25 _ _ ⟨rfl, rfl⟩ rfl)) (ops5_26 _ _ ⟨rfl, rfl, rfl⟩ rfl)) ?_
    intro vs Rs f' S' hp hf hx hS hR
    obtain ⟨hv12, hR12⟩ := (spe rfl hs5_12 (hp 12 (by kernel_rfl)))
    obtain ⟨hv18, hR18⟩ := (spe rfl hs5_18 (hp 18 (by kernel_rfl)))
    obtain ⟨hv24, hR24⟩ := (spe rfl hs5_24 (hp 24 (by kernel_rfl)))
    obtain ⟨hv26, hR26⟩ := (spe rfl hs5_26 (hp 26 (by kernel_rfl)))
    refine ls_fr (F := upd (upd (upd (upd f' 62 (.bool (Op.bytesLess y26.toList (strOfNums l1).toList || (y26.toList == (strOfNums l1).toList)))) 68 (.bool (decide ((IntKind.wrap .i64 (t1 + (1 : Int))) ≥ (l0_1.length : Int))))) 74 (.string y38)) 76 (.string (strOfNums l1))) (fr_next (fr_next (fr_next (fr_next (rfl) ((hf 12 62 (by kernel_rfl) rfl).trans hv12)) ((hf 18 68 (by kernel_rfl) rfl).trans hv18)) ((hf 24 74 (by kernel_rfl) rfl).trans hv24)) ((hf 26 76 (by kernel_rfl) rfl).trans hv26)) ?_
    refine ls_sub (s0) (sub_nil _) ?_
    refine ls_know (c := false) (dec_f q29) 68 (by kernel_rfl) ?_
    refine ls_on (j := 18) (t := 68) (b := false) rfl rfl (by kernel_rfl) (by kernel_rfl) ?_
    refine lv (.bool (!(Op.bytesLess y38.toList (strOfNums l1).toList || (y38.toList == (strOfNums l1).toList)))) ?_
    refine ls_know (c := true) (q28) 62 (by kernel_rfl) ?_
    refine ls_on (j := 12) (t := 62) (b := true) rfl rfl (by kernel_rfl) (by kernel_rfl) ?_
    refine lv (.bool (!(Op.bytesLess y38.toList (strOfNums l1).toList || (y38.toList == (strOfNums l1).toList)))) ?_
    refine lv (.bool (!(Op.bytesLess y38.toList (strOfNums l1).toList || (y38.toList == (strOfNums l1).toList)))) ?_
    refine lv (.bool (!(Op.bytesLess y38.toList (strOfNums l1).toList || (y38.toList == (strOfNums l1).toList)))) ?_
    refine ls_end ?_
    refine qn_then ?_
    refine cs_ret' ?_
    obtain rfl := Option.some.inj H
    refine qr_res (rs := [_]) rfl (fun w' hs => ⟨[.bool (!(Op.bytesLess y38.toList (strOfNums l1).toList || (y38.toList == (strOfNums l1).toList)))], (res_tmp (by kernel_rfl) (.nil)), (), rfl, hs.pick (ts := []) (cs := []) trivial (by decide)⟩)
  replace H := ite_f q28 H
  refine cs_draw shadowboxlaw16_LeafFinds.tab3 27 0 (spl [s5_0, s5_1, s5_2, s5_3, s5_4, s5_5, s5_6, s5_7, s5_8, s5_9, s5_10, s5_11, s5_12, spu, spu, spu, spu, spu, spu, spu, spu, spu, spu, spu, spu, spu, spu]) (onl [true, true, true, true, true, true, true, true, true, true, true, true, true, false, false, false, false, false, false, false, false, false, false, false, false, false, false]) (by kernel_rfl) (by kernel_rfl) (by kernel_rfl) (by kernel_rfl) (rs := [_, _, _, _]) rfl (by kernel_rfl) (by kernel_rfl) (all_snoc (all_snoc (all_snoc (all_snoc (all_snoc (all_snoc (all_snoc (all_snoc (all_snoc (all_snoc (all_snoc (all_snoc (all_snoc (all_snoc (all_snoc (all_snoc (all_snoc (all_snoc (all_snoc (all_snoc (all_snoc (all_snoc (all_snoc (all_snoc (all_snoc (all_snoc (all_snoc (all_nil) (ops5_0 _ _ rfl rfl)) (ops5_1 _ _ ⟨rfl, rfl⟩ rfl)) (ops5_2 _ _ ⟨rfl, rfl⟩ rfl)) (ops5_3 _ _ ⟨rfl, rfl⟩ rfl)) (ops5_4 _ _ ⟨rfl, rfl⟩ rfl)) (ops5_5 _ _ ⟨rfl, rfl, rfl, rfl⟩ rfl)) (ops5_6 _ _ ⟨rfl, rfl, rfl⟩ rfl)) (ops5_7 _ _ ⟨rfl, rfl, rfl⟩ rfl)) (ops5_8 _ _ ⟨rfl, rfl⟩ rfl)) (ops5_9 _ _ ⟨rfl, rfl, rfl⟩ rfl)) (ops5_10 _ _ ⟨rfl, rfl, rfl, rfl⟩ rfl)) (ops5_11 _ _ ⟨rfl, rfl, rfl⟩ rfl)) (ops5_12 _ _ ⟨rfl, rfl⟩ rfl)) (op_offi 13 12 62 true rfl rfl (by kernel_rfl) (by kernel_rfl) rfl (fun v R h => by rw [hs5_12] at h; obtain ⟨h, _⟩ := h; exact h.trans (congrArg Value.bool (show (Op.bytesLess y26.toList (strOfNums l1).toList || (y26.toList == (strOfNums l1).toList)) = false from Bool.eq_false_iff.mpr q28))) rfl rfl)) (op_offi 14 12 62 true rfl rfl (by kernel_rfl) (by kernel_rfl) rfl (fun v R h => by rw [hs5_12] at h; obtain ⟨h, _⟩ := h; exact h.trans (congrArg Value.bool (show (Op.bytesLess y26.toList (strOfNums l1).toList || (y26.toList == (strOfNums l1).toList)) = false from Bool.eq_false_iff.mpr q28))) rfl rfl)) (op_offi 15 12 62 true rfl rfl (by kernel_rfl) (by kernel_rfl) rfl (fun v R h => by rw [hs5_12] at h; obtain ⟨h, _⟩ := h; exact h.trans (congrArg Value.bool (show (Op.bytesLess y26.toList (strOfNums l1).toList || (y26.toList == (strOfNums l1).toList)) = false from Bool.eq_false_iff.mpr q28))) rfl rfl)) (op_offi 16 12 62 true rfl rfl (by kernel_rfl) (by kernel_rfl) rfl (fun v R h => by rw [hs5_12] at h; obtain ⟨h, _⟩ := h; exact h.trans (congrArg Value.bool (show (Op.bytesLess y26.toList (strOfNums l1).toList || (y26.toList == (strOfNums l1).toList)) = false from Bool.eq_false_iff.mpr q28))) rfl rfl)) (op_offi 17 12 62 true rfl rfl (by kernel_rfl) (by kernel_rfl) rfl (fun v R h => by rw [hs5_12] at h; obtain ⟨h, _⟩ := h; exact h.trans (congrArg Value.bool (show (Op.bytesLess y26.toList (strOfNums l1).toList || (y26.toList == (strOfNums l1).toList)) = false from Bool.eq_false_iff.mpr q28))) rfl rfl)) (op_offi 18 12 62 true rfl rfl (by kernel_rfl) (by kernel_rfl) rfl (fun v R h => by rw [hs5_12] at h; obtain ⟨h, _⟩ := h; exact h.trans (congrArg Value.bool (show (Op.bytesLess y26.toList (strOfNums l1).toList || (y26.toList == (strOfNums l1).toList)) = false from Bool.eq_false_iff.mpr q28))) rfl rfl)) (op_offu 19 18 68 false rfl rfl (by kernel_rfl) (by kernel_rfl) rfl rfl rfl)) (op_offu 20 18 68 false rfl rfl (by kernel_rfl) (by kernel_rfl) rfl rfl rfl)) (op_offu 21 18 68 false rfl rfl (by kernel_rfl) (by kernel_rfl) rfl rfl rfl)) (op_offu 22 18 68 false rfl rfl (by kernel_rfl) (by kernel_rfl) rfl rfl rfl)) (op_offu 23 18 68 false rfl rfl (by kernel_rfl) (by kernel_rfl) rfl rfl rfl)) (op_offu 24 18 68 false rfl rfl (by kernel_rfl) (by kernel_rfl) rfl rfl rfl)) (op_offu 25 18 68 false rfl rfl (by kernel_rfl) (by kernel_rfl) rfl rfl rfl)) (op_offu 26 18 68 false rfl rfl (by kernel_rfl) (by kernel_rfl) rfl rfl rfl)) ?_
  intro vs Rs f' S' hp hf hx hS hR
  obtain ⟨hv12, hR12⟩ := (spe rfl hs5_12 (hp 12 (by kernel_rfl)))
  obtain ⟨hv18, hR18⟩ := (spe rfl rfl (hp 18 (by kernel_rfl)) : spu _ _)
  obtain ⟨hv24, hR24⟩ := (spe rfl rfl (hp 24 (by kernel_rfl)) : spu _ _)
  obtain ⟨hv26, hR26⟩ := (spe rfl rfl (hp 26 (by kernel_rfl)) : spu _ _)
  refine ls_fr (F := upd (upd f' 62 (.bool (Op.bytesLess y26.toList (strOfNums l1).toList || (y26.toList == (strOfNums l1).toList)))) 68 undef) (fr_next (fr_next (rfl) ((hf 12 62 (by kernel_rfl) rfl).trans hv12)) ((hf 18 68 (by kernel_rfl) rfl).trans hv18)) ?_
  refine ls_sub (s0) (sub_nil _) ?_
  refine ls_offu (j := 18) (t := 68) (b := false) rfl rfl (by kernel_rfl) (by kernel_rfl) rfl (by kernel_rfl) ?_
  refine ls_know (c := false) (Bool.eq_false_iff.mpr q28) 62 (by kernel_rfl) ?_
  refine lofx 12 62 true false ?_
  refine lv (.bool false) ?_
  refine lv (.bool false) ?_
  refine ls_end ?_
  refine qn_then ?_
  refine cs_ret' ?_
  obtain rfl := Option.some.inj H
  refine qr_res (rs := [_]) rfl (fun w' hs => ⟨[.bool false], (res_tmp (by kernel_rfl) (.nil)), (), rfl, hs.pick (ts := []) (cs := []) trivial (by decide)⟩)

end Go.Proofs.Ythhhkphbhlafbaa.G
