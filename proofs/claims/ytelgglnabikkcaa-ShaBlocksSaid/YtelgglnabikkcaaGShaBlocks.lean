/- Printed by a program of this session (sz.py): plain functions, and walks that show that the code comes to them; no condition. -/
import Derived.Test.YtelgglnabikkcaaProg
import Derived.Test.YtelgglnabikkcaaTy
import Derived.Test.YtelgglnabikkcaaG0
import Derived.Test.YtelgglnabikkcaaG1
import Derived.Test.YtelgglnabikkcaaG2
import Derived.Test.YtelgglnabikkcaaG3
set_option linter.unusedVariables false
set_option linter.unusedSimpArgs false
namespace Go.Proofs.Ytelgglnabikkcaa.G
open Go Go.RowKit Go.Proofs.Ytelgglnabikkcaa.Sx

/-! ### shadowbox/shadowboxlaw03.ShaBlocks: function 5 -/
def shadowboxlaw03_ShaBlocks.tab6 : List (List Nat) := [[], [], [0, 1], [], [], [], [0, 1, 2, 3, 4, 5], [0, 1, 2, 3, 4, 5, 6], [0, 1, 2, 3, 4, 5, 6, 7], [0, 1, 2, 3, 4, 5, 6, 7, 8], [0, 1, 2, 3, 4, 5, 6, 7, 8], [0, 1, 2, 3, 4, 5, 6, 7, 8, 9, 10], [0, 1, 2, 3, 4, 5, 6, 7, 8], [0, 1, 2, 3, 4, 5, 6, 7, 8], [0, 1, 2, 3, 4, 5, 6, 7, 8], [0, 1, 2, 3, 4, 5, 6, 7, 8, 9, 10, 11, 12, 13, 14], [0, 1, 2, 3, 4, 5, 6, 7, 8, 9, 10, 11, 12, 13, 14, 15], [0, 1, 2, 3, 4, 5, 6, 7, 8, 9, 10, 11, 12, 13, 14, 15, 16], [0, 1, 2, 3, 4, 5, 6, 7, 8, 9, 10, 11, 12, 13, 14, 15, 16, 17], [0, 1, 2, 3, 4, 5, 6, 7, 8, 9, 10, 11, 12, 13, 14, 15, 16, 17, 18], [0, 1, 2, 3, 4, 5, 6, 7, 8, 9, 10, 11, 12, 13, 14, 15, 16, 17, 18, 19], [0, 1, 2, 3, 4, 5, 6, 7, 8, 9, 10, 11, 12, 13, 14, 15, 16, 17, 18, 19, 20], [0, 1, 2, 3, 4, 5, 6, 7, 8, 9, 10, 11, 12, 13, 14, 15, 16, 17, 18, 19, 20, 21], [0, 1, 2, 3, 4, 5, 6, 7, 8, 9, 10, 11, 12, 13, 14, 15, 16, 17, 18, 19, 20, 21, 22]]
def shadowboxlaw03_ShaBlocks.jo1 (k : Nat) (a0 : ((Vc Int 8) × Int)) (a1 : (Vc Int 64)) (l2_1 : List Int) : Option (Bool) := (shadowboxref03_Keys.f k).bind fun t3 => (sha_State_Block.f k a0 a1).bind fun t9 => (shadowboxref03_Block.f k a0 a1.1 t3).bind fun t12 => (if ((t9.1.1 == t12.1.1) && (t9.2 == t12.2)) = true then (sha_State_End.f k a0 l2_1).bind fun t16 => (shadowboxref03_End.f k a0 l2_1 t3).bind fun t19 => (if (t16.1 == t19.1) = true then (sha_Begin.f k).bind fun t23 => (shadowboxref03_Begin.f k).bind fun t26 => some ((t23.1.1 == t26.1.1) && (t23.2 == t26.2)) else some false) else some false)
def shadowboxlaw03_ShaBlocks.f (k : Nat) (a0 : ((Vc Int 8) × Int)) (a1 : (Vc Int 64)) (l2 : List Int) : Option (Bool) :=
  (if (l2.length : Int) > (100 : Int) then (if (100 : Int) ≤ (l2.length : Int) then lt (l2.take ((100 : Int)).toNat) fun xl35 => (shadowboxlaw03_ShaBlocks.jo1 k a0 a1) xl35 else none) else (shadowboxlaw03_ShaBlocks.jo1 k a0 a1) l2)
set_option maxRecDepth 100000 in
set_option maxHeartbeats 4000000 in
theorem shadowboxlaw03_ShaBlocks.calls (k : Nat) (a0 : ((Vc Int 8) × Int)) (a1 : (Vc Int 64)) (A2 : Option Addr) (c2 : Nat) (l2 : List Int) (r : Bool) (b : Bs) (hs0 : St b (stl []) b.w) (R2 : Ro b A2 (em (Ec.int 5 .u8) l2)) (C2 : l2.length ≤ c2) (H : shadowboxlaw03_ShaBlocks.f k a0 a1 l2 = some r) :
    Calls Try.prog 5 #[.agg ⟨(en (Value.int .u32) a0.1.1 ++ [Value.int .u64 a0.2])⟩, .agg ⟨en (Value.int .u8) a1.1⟩, .slice A2 l2.length c2] b.w fun e w' => ∃ x : Unit, e = .returned (.bool r) ∧ St b (stl []) w' := by
  unfold shadowboxlaw03_ShaBlocks.f at H
  refine enterb (n := 37) Try.func5 rfl (by kernel_rfl) (by kernel_rfl) hs0 ?_
  refine cs_sub (s0) (sub_nil _) ?_
  refine cs_seq ?_
  refine cs_region (l := [_, _, _]) ?_
  refine ls_new rfl rfl (by kernel_rfl) 0 (fun g => .pointer (some ⟨g, 0, none⟩)) (.cells ⟨(en (Value.int .u32) a0.1.1 ++ [Value.int .u64 a0.2])⟩ 33) (fun w => by kernel_rfl) ?_
  intro g1
  refine ls_new rfl rfl (by kernel_rfl) 1 (fun g => .pointer (some ⟨g, 0, none⟩)) (.cells ⟨en (Value.int .u8) a1.1⟩ 34) (fun w => by kernel_rfl) ?_
  intro g2
  refine ls_val (v := .bool false) rfl rfl (by kernel_rfl) (fun w => by kernel_rfl) ?_
  refine ls_end ?_
  refine qn_then ?_
  refine cs_cut (fun f S => ∃ (fR : Fr) (A2_1 : Option Addr) (c2_1 : Nat) (l2_1 : List Int), f = upd (upd (upd fR 2 (.slice A2_1 l2_1.length c2_1)) 3 (.pointer (some ⟨g1, 0, none⟩))) 4 (.pointer (some ⟨g2, 0, none⟩)) ∧ S = sput (sput s0 0 (some (Ck.var 33 g1 ((en (Value.int .u32) a0.1.1 ++ [Value.int .u64 a0.2]))))) 1 (some (Ck.var 34 g2 (en (Value.int .u8) a1.1))) ∧ Ro b A2_1 (em (Ec.int 5 .u8) l2_1) ∧ l2_1.length ≤ c2_1 ∧ shadowboxlaw03_ShaBlocks.jo1 k a0 a1 l2_1 = some r) ?_ ?_
  · skip
    refine cs_seq ?_
    refine cs_region (l := [_, _, _]) ?_
    refine ls_val (v := .slice A2 l2.length c2) rfl rfl (by kernel_rfl) (fun w => by kernel_rfl) ?_
    refine ls_val (v := .int .i64 (l2.length : Int)) rfl rfl (by kernel_rfl) (fun w => by kernel_rfl) ?_
    refine ls_val (v := .bool (decide ((l2.length : Int) > (100 : Int)))) rfl rfl (by kernel_rfl) (fun w => by kernel_rfl) ?_
    refine ls_end ?_
    refine qn_then ?_
    by_cases q29 : (l2.length : Int) > (100 : Int)
    · replace H := ite_t q29 H
      refine cs_know (c := true) (dec_t q29) 10 (by kernel_rfl) ?_
      refine cs_true (by kernel_rfl) ?_
      refine cs_region (l := [_, _, _]) ?_
      refine ls_val (v := .slice A2 l2.length c2) rfl rfl (by kernel_rfl) (fun w => by kernel_rfl) ?_
      obtain ⟨q30, H⟩ := ite_need H
      obtain ⟨xl35, hy36, H⟩ := lt_some H
      have hz38 : 0 ≤ ((100 : Int)).toNat := by omega
      have hz39 : ((100 : Int)).toNat ≤ l2.length := by omega
      obtain ⟨xA31, xc32, he37, xC34, xR33⟩ := cut_at (A := A2) (c := c2) (l := l2) (Ec.int 5 .u8) 0 (((100 : Int)).toNat) hz38 hz39 C2 R2 (m := xl35) (by rw [← hy36] <;> simp) (z := 1) rfl
      refine ls_cutv (A := A2) (c := c2) (m := l2.length) (z := 1) (e := 5) (a := 0) (b := ((100 : Int)).toNat) rfl rfl (by kernel_rfl) rfl (by kernel_rfl) (by kernel_rfl) (by kernel_rfl) (.inl ⟨rfl, rfl⟩) (.inr ⟨.i64, by rw [Int.toNat_of_nonneg (by first | assumption | omega)]; kernel_rfl⟩) hz38 hz39 C2 he37 ?_
      refine ls_val (v := .slice xA31 xl35.length xc32) rfl rfl (by kernel_rfl) (fun w => by kernel_rfl) ?_
      refine ls_end ?_
      refine qn_meet (sput (sput s0 0 (some (Ck.var 33 g1 ((en (Value.int .u32) a0.1.1 ++ [Value.int .u64 a0.2]))))) 1 (some (Ck.var 34 g2 (en (Value.int .u8) a1.1)))) ⟨_, xA31, xc32, xl35, fr_next (fr_next (fr_next (rfl) (by kernel_rfl)) (by kernel_rfl)) (by kernel_rfl), rfl, xR33, xC34, H⟩ (sub_put (by exact rfl) (sub_put (by exact rfl) (sub_nil _)))
    · replace H := ite_f q29 H
      refine cs_know (c := false) (dec_f q29) 10 (by kernel_rfl) ?_
      refine cs_false (by kernel_rfl) ?_
      refine cs_skip' ?_
      refine qn_meet (sput (sput s0 0 (some (Ck.var 33 g1 ((en (Value.int .u32) a0.1.1 ++ [Value.int .u64 a0.2]))))) 1 (some (Ck.var 34 g2 (en (Value.int .u8) a1.1)))) ⟨_, A2, c2, l2, fr_next (fr_next (fr_next (rfl) (by kernel_rfl)) (by kernel_rfl)) (by kernel_rfl), rfl, R2, C2, H⟩ (sub_put (by exact rfl) (sub_put (by exact rfl) (sub_nil _)))
  · rintro f S ⟨fr1, A2_1, c2_1, l2_1, rfl, rfl, R2_1, C2_1, H⟩
    replace H : ((shadowboxref03_Keys.f k).bind fun t3 => (sha_State_Block.f k a0 a1).bind fun t9 => (shadowboxref03_Block.f k a0 a1.1 t3).bind fun t12 => (if ((t9.1.1 == t12.1.1) && (t9.2 == t12.2)) = true then (sha_State_End.f k a0 l2_1).bind fun t16 => (shadowboxref03_End.f k a0 l2_1 t3).bind fun t19 => (if (t16.1 == t19.1) = true then (sha_Begin.f k).bind fun t23 => (shadowboxref03_Begin.f k).bind fun t26 => some ((t23.1.1 == t26.1.1) && (t23.2 == t26.2)) else some false) else some false)) = some r := H
    refine cs_seq ?_
    refine cs_region (l := [_, _, _]) ?_
    obtain ⟨t3, hc4, H⟩ := bind_some H
    refine ls_callb (fid := 11) (vals := #[]) (X := Unit) (fun x => .agg ⟨en (Value.int .u32) t3.1⟩) (fun x => stl []) [] [] [] [] 2 rfl rfl (by kernel_rfl) (fun w => by kernel_rfl) trivial trivial (by decide) (fun w hs hb => shadowboxref03_Keys.calls k  t3 (lent b w [] []) hb  hc4) ?_
    intro x5
    refine ls_new rfl rfl (by kernel_rfl) 2 (fun g => .pointer (some ⟨g, 0, none⟩)) (.cells ⟨en (Value.int .u32) (vrep 64 (0 : Int)).1⟩ 35) (fun w => by kernel_rfl) ?_
    intro g6
    refine ls_storec (g := g6) (off := 0) (v := .agg ⟨en (Value.int .u32) t3.1⟩) (vs := en (Value.int .u32) t3.1) (cs := en (Value.int .u32) (vrep 64 (0 : Int)).1) (ty := 35) 2 rfl rfl rfl (by kernel_rfl) (by kernel_rfl) (by kernel_rfl) (by exact rfl) (by kernel_rfl) (len_en _ t3) (one_en (fun _ => rfl) _) (hl_of (Sub4.all _) (len_eq (len_en _ t3) (len_en _ (vrep 64 (0 : Int))))) (cs' := en (Value.int .u32) t3.1) (splc_all (len_eq (len_en _ t3) (len_en _ (vrep 64 (0 : Int))))) ?_
    refine ls_end ?_
    refine qn_then ?_
    refine cs_seq ?_
    obtain ⟨s8_0, hs8_0⟩ : ∃ z : Value → Sto → Prop, z = (fun v R => v = .agg ⟨(en (Value.int .u32) a0.1.1 ++ [Value.int .u64 a0.2])⟩ ∧ R = s0) := ⟨_, rfl⟩
    refine have_op (l := [_, _, _, _, _, _, _, _, _, _, _, _, _, _, _, _, _, _, _, _, _, _, _, _]) shadowboxlaw03_ShaBlocks.tab6 3 0 (fun sp => sp 0 = s8_0) (fun sp on hA hon => ?_) (fun ops8_0 => ?_)
    · refine ⟨fun o ho vs Rs f' S' w hp hf hx hS hR hs => ?_⟩
      obtain rfl := Option.some.inj ho
      rw [hA, hs8_0]
      refine And.intro (fun a ha => (want_none rfl a ha).trans hon.symm) (And.intro (fun _ => ?_) (fun h => by rw [hon] at h; cases h))
      have hF := fr_next (rfl) ((hx 3 (by kernel_rfl)).trans (by kernel_rfl : (_ : Value) = .pointer (some ⟨g1, 0, none⟩)))
      refine ls_fr hF ?_
      refine ls_loadagg (a := ⟨g1, 0, none⟩) (sub := (en (Value.int .u32) a0.1.1 ++ [Value.int .u64 a0.2])) rfl rfl (by kernel_rfl) rfl (by kernel_rfl) (by kernel_rfl) (by kernel_rfl) (len_app (len_en _ a0.1) (len1 _)) (fun w1 hs1 => Rd.step (hs.vars (k := 0) ((hS 0 (by kernel_rfl)).trans (by exact rfl)) (Sub4.all _)) hs1.below.bw) ?_
      exact ls_fin s0 (.agg ⟨(en (Value.int .u32) a0.1.1 ++ [Value.int .u64 a0.2])⟩) (congrArg (fun z => upd z 14 _) hF.symm) ⟨rfl, rfl⟩ (sub_nil _)
    obtain ⟨s8_1, hs8_1⟩ : ∃ z : Value → Sto → Prop, z = (fun v R => v = .agg ⟨en (Value.int .u8) a1.1⟩ ∧ R = s0) := ⟨_, rfl⟩
    refine have_op (l := [_, _, _, _, _, _, _, _, _, _, _, _, _, _, _, _, _, _, _, _, _, _, _, _]) shadowboxlaw03_ShaBlocks.tab6 3 1 (fun sp => sp 1 = s8_1) (fun sp on hA hon => ?_) (fun ops8_1 => ?_)
    · refine ⟨fun o ho vs Rs f' S' w hp hf hx hS hR hs => ?_⟩
      obtain rfl := Option.some.inj ho
      rw [hA, hs8_1]
      refine And.intro (fun a ha => (want_none rfl a ha).trans hon.symm) (And.intro (fun _ => ?_) (fun h => by rw [hon] at h; cases h))
      have hF := fr_next (rfl) ((hx 4 (by kernel_rfl)).trans (by kernel_rfl : (_ : Value) = .pointer (some ⟨g2, 0, none⟩)))
      refine ls_fr hF ?_
      refine ls_loadagg (a := ⟨g2, 0, none⟩) (sub := en (Value.int .u8) a1.1) rfl rfl (by kernel_rfl) rfl (by kernel_rfl) (by kernel_rfl) (by kernel_rfl) (len_en _ a1) (fun w1 hs1 => Rd.step (hs.vars (k := 1) ((hS 1 (by kernel_rfl)).trans (by exact rfl)) (Sub4.all _)) hs1.below.bw) ?_
      exact ls_fin s0 (.agg ⟨en (Value.int .u8) a1.1⟩) (congrArg (fun z => upd z 15 _) hF.symm) ⟨rfl, rfl⟩ (sub_nil _)
    obtain ⟨t9, hc10, H⟩ := bind_some H
    obtain ⟨s8_2, hs8_2⟩ : ∃ z : Value → Sto → Prop, z = (fun v R => ∃ x11 : Unit, v = .agg ⟨(en (Value.int .u32) t9.1.1 ++ [Value.int .u64 t9.2])⟩ ∧ R = stl []) := ⟨_, rfl⟩
    refine have_op (l := [_, _, _, _, _, _, _, _, _, _, _, _, _, _, _, _, _, _, _, _, _, _, _, _]) shadowboxlaw03_ShaBlocks.tab6 3 2 (fun sp => sp 2 = s8_2 ∧ sp 0 = s8_0 ∧ sp 1 = s8_1) (fun sp on hA hon => ?_) (fun ops8_2 => ?_)
    · refine ⟨fun o ho vs Rs f' S' w hp hf hx hS hR hs => ?_⟩
      obtain rfl := Option.some.inj ho
      obtain ⟨hv0, hR0⟩ := (spe hA.2.1 hs8_0 (hp 0 (by kernel_rfl)))
      obtain ⟨hv1, hR1⟩ := (spe hA.2.2 hs8_1 (hp 1 (by kernel_rfl)))
      rw [hA.1, hs8_2]
      refine And.intro (fun a ha => (want_none rfl a ha).trans hon.symm) (And.intro (fun _ => ?_) (fun h => by rw [hon] at h; cases h))
      have hF := fr_next (fr_next (rfl) ((hf 0 14 (by kernel_rfl) rfl).trans hv0)) ((hf 1 15 (by kernel_rfl) rfl).trans hv1)
      refine ls_fr hF ?_
      refine ls_call (fid := 12) (vals := #[.agg ⟨(en (Value.int .u32) a0.1.1 ++ [Value.int .u64 a0.2])⟩, .agg ⟨en (Value.int .u8) a1.1⟩]) (X := Unit) (fun x => .agg ⟨(en (Value.int .u32) t9.1.1 ++ [Value.int .u64 t9.2])⟩) (fun x => stl []) 0 rfl rfl (by kernel_rfl) (fun w => by kernel_rfl) (fun w1 hs1 => sha_State_Block.calls k a0 a1 t9 (bw w1) (St.refl w1)  hc10) ?_
      intro x11
      exact ls_fin (stl []) (.agg ⟨(en (Value.int .u32) t9.1.1 ++ [Value.int .u64 t9.2])⟩) (congrArg (fun z => upd z 16 _) hF.symm) ⟨x11, rfl, rfl⟩ (sub_join _)
    obtain ⟨s8_3, hs8_3⟩ : ∃ z : Value → Sto → Prop, z = (fun v R => v = .agg ⟨(en (Value.int .u32) a0.1.1 ++ [Value.int .u64 a0.2])⟩ ∧ R = s0) := ⟨_, rfl⟩
    refine have_op (l := [_, _, _, _, _, _, _, _, _, _, _, _, _, _, _, _, _, _, _, _, _, _, _, _]) shadowboxlaw03_ShaBlocks.tab6 3 3 (fun sp => sp 3 = s8_3) (fun sp on hA hon => ?_) (fun ops8_3 => ?_)
    · refine ⟨fun o ho vs Rs f' S' w hp hf hx hS hR hs => ?_⟩
      obtain rfl := Option.some.inj ho
      rw [hA, hs8_3]
      refine And.intro (fun a ha => (want_none rfl a ha).trans hon.symm) (And.intro (fun _ => ?_) (fun h => by rw [hon] at h; cases h))
      have hF := fr_next (rfl) ((hx 3 (by kernel_rfl)).trans (by kernel_rfl : (_ : Value) = .pointer (some ⟨g1, 0, none⟩)))
      refine ls_fr hF ?_
      refine ls_loadagg (a := ⟨g1, 0, none⟩) (sub := (en (Value.int .u32) a0.1.1 ++ [Value.int .u64 a0.2])) rfl rfl (by kernel_rfl) rfl (by kernel_rfl) (by kernel_rfl) (by kernel_rfl) (len_app (len_en _ a0.1) (len1 _)) (fun w1 hs1 => Rd.step (hs.vars (k := 0) ((hS 0 (by kernel_rfl)).trans (by exact rfl)) (Sub4.all _)) hs1.below.bw) ?_
      exact ls_fin s0 (.agg ⟨(en (Value.int .u32) a0.1.1 ++ [Value.int .u64 a0.2])⟩) (congrArg (fun z => upd z 17 _) hF.symm) ⟨rfl, rfl⟩ (sub_nil _)
    obtain ⟨s8_4, hs8_4⟩ : ∃ z : Value → Sto → Prop, z = (fun v R => v = .slice (some ⟨g2, 0, none⟩) a1.1.length 64 ∧ R = s0) := ⟨_, rfl⟩
    refine have_op (l := [_, _, _, _, _, _, _, _, _, _, _, _, _, _, _, _, _, _, _, _, _, _, _, _]) shadowboxlaw03_ShaBlocks.tab6 3 4 (fun sp => sp 4 = s8_4) (fun sp on hA hon => ?_) (fun ops8_4 => ?_)
    · refine ⟨fun o ho vs Rs f' S' w hp hf hx hS hR hs => ?_⟩
      obtain rfl := Option.some.inj ho
      rw [hA, hs8_4]
      refine And.intro (fun a ha => (want_none rfl a ha).trans hon.symm) (And.intro (fun _ => ?_) (fun h => by rw [hon] at h; cases h))
      have hF := fr_next (rfl) ((hx 4 (by kernel_rfl)).trans (by kernel_rfl : (_ : Value) = .pointer (some ⟨g2, 0, none⟩)))
      refine ls_fr hF ?_
      refine ls_val (v := .slice (some ⟨g2, 0, none⟩) a1.1.length 64) rfl rfl (by kernel_rfl) (fun w => by rw [show a1.1.length = 64 from a1.2]; kernel_rfl) ?_
      exact ls_fin s0 (.slice (some ⟨g2, 0, none⟩) a1.1.length 64) (congrArg (fun z => upd z 18 _) hF.symm) ⟨rfl, rfl⟩ (sub_nil _)
    obtain ⟨s8_5, hs8_5⟩ : ∃ z : Value → Sto → Prop, z = (fun v R => v = .agg ⟨en (Value.int .u32) t3.1⟩ ∧ R = s0) := ⟨_, rfl⟩
    refine have_op (l := [_, _, _, _, _, _, _, _, _, _, _, _, _, _, _, _, _, _, _, _, _, _, _, _]) shadowboxlaw03_ShaBlocks.tab6 3 5 (fun sp => sp 5 = s8_5) (fun sp on hA hon => ?_) (fun ops8_5 => ?_)
    · refine ⟨fun o ho vs Rs f' S' w hp hf hx hS hR hs => ?_⟩
      obtain rfl := Option.some.inj ho
      rw [hA, hs8_5]
      refine And.intro (fun a ha => (want_none rfl a ha).trans hon.symm) (And.intro (fun _ => ?_) (fun h => by rw [hon] at h; cases h))
      have hF := fr_next (rfl) ((hx 7 (by kernel_rfl)).trans (by kernel_rfl : (_ : Value) = .pointer (some ⟨g6, 0, none⟩)))
      refine ls_fr hF ?_
      refine ls_loadagg (a := ⟨g6, 0, none⟩) (sub := en (Value.int .u32) t3.1) rfl rfl (by kernel_rfl) rfl (by kernel_rfl) (by kernel_rfl) (by kernel_rfl) (len_en _ t3) (fun w1 hs1 => Rd.step (hs.vars (k := 2) ((hS 2 (by kernel_rfl)).trans (by exact rfl)) (Sub4.all _)) hs1.below.bw) ?_
      exact ls_fin s0 (.agg ⟨en (Value.int .u32) t3.1⟩) (congrArg (fun z => upd z 19 _) hF.symm) ⟨rfl, rfl⟩ (sub_nil _)
    obtain ⟨t12, hc13, H⟩ := bind_some H
    obtain ⟨s8_6, hs8_6⟩ : ∃ z : Value → Sto → Prop, z = (fun v R => ∃ x14 : Unit, v = .agg ⟨(en (Value.int .u32) t12.1.1 ++ [Value.int .u64 t12.2])⟩ ∧ R = stl []) := ⟨_, rfl⟩
    refine have_op (l := [_, _, _, _, _, _, _, _, _, _, _, _, _, _, _, _, _, _, _, _, _, _, _, _]) shadowboxlaw03_ShaBlocks.tab6 3 6 (fun sp => sp 6 = s8_6 ∧ sp 3 = s8_3 ∧ sp 4 = s8_4 ∧ sp 5 = s8_5) (fun sp on hA hon => ?_) (fun ops8_6 => ?_)
    · refine ⟨fun o ho vs Rs f' S' w hp hf hx hS hR hs => ?_⟩
      obtain rfl := Option.some.inj ho
      obtain ⟨hv3, hR3⟩ := (spe hA.2.1 hs8_3 (hp 3 (by kernel_rfl)))
      obtain ⟨hv4, hR4⟩ := (spe hA.2.2.1 hs8_4 (hp 4 (by kernel_rfl)))
      obtain ⟨hv5, hR5⟩ := (spe hA.2.2.2 hs8_5 (hp 5 (by kernel_rfl)))
      rw [hA.1, hs8_6]
      refine And.intro (fun a ha => (want_none rfl a ha).trans hon.symm) (And.intro (fun _ => ?_) (fun h => by rw [hon] at h; cases h))
      have hF := fr_next (fr_next (fr_next (rfl) ((hf 3 17 (by kernel_rfl) rfl).trans hv3)) ((hf 4 18 (by kernel_rfl) rfl).trans hv4)) ((hf 5 19 (by kernel_rfl) rfl).trans hv5)
      refine ls_fr hF ?_
      refine ls_call (fid := 13) (vals := #[.agg ⟨(en (Value.int .u32) a0.1.1 ++ [Value.int .u64 a0.2])⟩, .slice (some ⟨g2, 0, none⟩) a1.1.length 64, .agg ⟨en (Value.int .u32) t3.1⟩]) (X := Unit) (fun x => .agg ⟨(en (Value.int .u32) t12.1.1 ++ [Value.int .u64 t12.2])⟩) (fun x => stl []) 0 rfl rfl (by kernel_rfl) (fun w => by kernel_rfl) (fun w1 hs1 => shadowboxref03_Block.calls k a0 (some ⟨g2, 0, none⟩) 64 a1.1 t3 t12 (bw w1) (St.refl w1) (Rd.ro (Rd.step (Rd.ofen (t := 5) (hs.vars (k := 1) ((hS 1 (by kernel_rfl)).trans (by exact rfl)) (Sub4.all _))) hs1.below.bw)) (Nat.le_of_eq a1.2) hc13) ?_
      intro x14
      exact ls_fin (stl []) (.agg ⟨(en (Value.int .u32) t12.1.1 ++ [Value.int .u64 t12.2])⟩) (congrArg (fun z => upd z 20 _) hF.symm) ⟨x14, rfl, rfl⟩ (sub_join _)
    obtain ⟨s8_7, hs8_7⟩ : ∃ z : Value → Sto → Prop, z = (fun v R => v = .bool ((t9.1.1 == t12.1.1) && (t9.2 == t12.2)) ∧ R = s0) := ⟨_, rfl⟩
    refine have_op (l := [_, _, _, _, _, _, _, _, _, _, _, _, _, _, _, _, _, _, _, _, _, _, _, _]) shadowboxlaw03_ShaBlocks.tab6 3 7 (fun sp => sp 7 = s8_7 ∧ sp 2 = s8_2 ∧ sp 6 = s8_6) (fun sp on hA hon => ?_) (fun ops8_7 => ?_)
    · refine ⟨fun o ho vs Rs f' S' w hp hf hx hS hR hs => ?_⟩
      obtain rfl := Option.some.inj ho
      obtain ⟨x11, hv2, hR2⟩ := (spe hA.2.1 hs8_2 (hp 2 (by kernel_rfl)))
      obtain ⟨x14, hv6, hR6⟩ := (spe hA.2.2 hs8_6 (hp 6 (by kernel_rfl)))
      rw [hA.1, hs8_7]
      refine And.intro (fun a ha => (want_none rfl a ha).trans hon.symm) (And.intro (fun _ => ?_) (fun h => by rw [hon] at h; cases h))
      have hF := fr_next (fr_next (rfl) ((hf 2 16 (by kernel_rfl) rfl).trans hv2)) ((hf 6 20 (by kernel_rfl) rfl).trans hv6)
      refine ls_fr hF ?_
      refine ls_eql (xs := (en (Value.int .u32) t9.1.1 ++ [Value.int .u64 t9.2])) (ys := (en (Value.int .u32) t12.1.1 ++ [Value.int .u64 t12.2])) (r := ((t9.1.1 == t12.1.1) && (t9.2 == t12.2))) rfl rfl (by kernel_rfl) rfl (by kernel_rfl) (by kernel_rfl) (by kernel_rfl) (eq_st (by kernel_rfl) (by kernel_rfl) (eqf_cons (ft := 30) (fo := 0) (by kernel_rfl) (part_agg (by kernel_rfl) (by kernel_rfl) (len_en _ t9.1) (Sub4.trans (Sub4.all _) (Sub4.head _ _))) (part_agg (by kernel_rfl) (by kernel_rfl) (len_en _ t12.1) (Sub4.trans (Sub4.all _) (Sub4.head _ _))) (eq_ints (e := 23) (ln := 8) (by kernel_rfl) (by kernel_rfl) (by kernel_rfl) t9.1.2 t12.1.2 _) (eqf_last (ft := 31) (fo := 8) (by kernel_rfl) (part_one (by kernel_rfl) (Sub4.trans (Sub4.all _) (Sub4.skip (n := 8) (len_en _ t9.1) (Sub4.all _)))) (part_one (by kernel_rfl) (Sub4.trans (Sub4.all _) (Sub4.skip (n := 8) (len_en _ t12.1) (Sub4.all _)))) (eq_int (by kernel_rfl) _ _ _) (by kernel_rfl)))) ?_
      exact ls_fin s0 (.bool ((t9.1.1 == t12.1.1) && (t9.2 == t12.2))) (congrArg (fun z => upd z 21 _) hF.symm) ⟨rfl, rfl⟩ (sub_nil _)
    obtain ⟨s8_8, hs8_8⟩ : ∃ z : Value → Sto → Prop, z = (fun v R => v = .bool ((t9.1.1 == t12.1.1) && (t9.2 == t12.2)) ∧ R = s0) := ⟨_, rfl⟩
    refine have_op (l := [_, _, _, _, _, _, _, _, _, _, _, _, _, _, _, _, _, _, _, _, _, _, _, _]) shadowboxlaw03_ShaBlocks.tab6 3 8 (fun sp => sp 8 = s8_8 ∧ sp 7 = s8_7) (fun sp on hA hon => ?_) (fun ops8_8 => ?_)
    · refine ⟨fun o ho vs Rs f' S' w hp hf hx hS hR hs => ?_⟩
      obtain rfl := Option.some.inj ho
      obtain ⟨hv7, hR7⟩ := (spe hA.2 hs8_7 (hp 7 (by kernel_rfl)))
      rw [hA.1, hs8_8]
      refine And.intro (fun a ha => (want_none rfl a ha).trans hon.symm) (And.intro (fun _ => ?_) (fun h => by rw [hon] at h; cases h))
      have hF := fr_next (rfl) ((hf 7 21 (by kernel_rfl) rfl).trans hv7)
      refine ls_fr hF ?_
      refine ls_val (v := .bool ((t9.1.1 == t12.1.1) && (t9.2 == t12.2))) rfl rfl (by kernel_rfl) (fun w => by kernel_rfl) ?_
      exact ls_fin s0 (.bool ((t9.1.1 == t12.1.1) && (t9.2 == t12.2))) (congrArg (fun z => upd z 22 _) hF.symm) ⟨rfl, rfl⟩ (sub_nil _)
    by_cases q15 : ((t9.1.1 == t12.1.1) && (t9.2 == t12.2)) = true
    · replace H := ite_t q15 H
      obtain ⟨s8_9, hs8_9⟩ : ∃ z : Value → Sto → Prop, z = (fun v R => v = .agg ⟨(en (Value.int .u32) a0.1.1 ++ [Value.int .u64 a0.2])⟩ ∧ R = s0) := ⟨_, rfl⟩
      refine have_op (l := [_, _, _, _, _, _, _, _, _, _, _, _, _, _, _, _, _, _, _, _, _, _, _, _]) shadowboxlaw03_ShaBlocks.tab6 3 9 (fun sp => sp 9 = s8_9 ∧ sp 8 = s8_8) (fun sp on hA hon => ?_) (fun ops8_9 => ?_)
      · refine ⟨fun o ho vs Rs f' S' w hp hf hx hS hR hs => ?_⟩
        obtain rfl := Option.some.inj ho
        obtain ⟨hv8, hR8⟩ := (spe hA.2 hs8_8 (hp 8 (by kernel_rfl)))
        rw [hA.1, hs8_9]
        refine And.intro (fun a ha => (want_is (j := 8) (t := 22) (r := true) rfl rfl (by kernel_rfl) (((hf 8 22 (by kernel_rfl) rfl).trans hv8).trans (congrArg Value.bool (show ((t9.1.1 == t12.1.1) && (t9.2 == t12.2)) = true from q15))) rfl a ha).trans hon.symm) (And.intro (fun _ => ?_) (fun h => by rw [hon] at h; cases h))
        have hF := fr_next (fr_next (rfl) ((hx 3 (by kernel_rfl)).trans (by kernel_rfl : (_ : Value) = .pointer (some ⟨g1, 0, none⟩)))) (((hf 8 22 (by kernel_rfl) rfl).trans hv8).trans (congrArg Value.bool (show ((t9.1.1 == t12.1.1) && (t9.2 == t12.2)) = true from q15)))
        refine ls_fr hF ?_
        refine ls_loadagg (a := ⟨g1, 0, none⟩) (sub := (en (Value.int .u32) a0.1.1 ++ [Value.int .u64 a0.2])) rfl rfl (by kernel_rfl) rfl (by kernel_rfl) (by kernel_rfl) (by kernel_rfl) (len_app (len_en _ a0.1) (len1 _)) (fun w1 hs1 => Rd.step (hs.vars (k := 0) ((hS 0 (by kernel_rfl)).trans (by exact rfl)) (Sub4.all _)) hs1.below.bw) ?_
        exact ls_fin s0 (.agg ⟨(en (Value.int .u32) a0.1.1 ++ [Value.int .u64 a0.2])⟩) (congrArg (fun z => upd z 23 _) hF.symm) ⟨rfl, rfl⟩ (sub_nil _)
      obtain ⟨s8_10, hs8_10⟩ : ∃ z : Value → Sto → Prop, z = (fun v R => v = .slice A2_1 l2_1.length c2_1 ∧ R = s0) := ⟨_, rfl⟩
      refine have_op (l := [_, _, _, _, _, _, _, _, _, _, _, _, _, _, _, _, _, _, _, _, _, _, _, _]) shadowboxlaw03_ShaBlocks.tab6 3 10 (fun sp => sp 10 = s8_10 ∧ sp 8 = s8_8) (fun sp on hA hon => ?_) (fun ops8_10 => ?_)
      · refine ⟨fun o ho vs Rs f' S' w hp hf hx hS hR hs => ?_⟩
        obtain rfl := Option.some.inj ho
        obtain ⟨hv8, hR8⟩ := (spe hA.2 hs8_8 (hp 8 (by kernel_rfl)))
        rw [hA.1, hs8_10]
        refine And.intro (fun a ha => (want_is (j := 8) (t := 22) (r := true) rfl rfl (by kernel_rfl) (((hf 8 22 (by kernel_rfl) rfl).trans hv8).trans (congrArg Value.bool (show ((t9.1.1 == t12.1.1) && (t9.2 == t12.2)) = true from q15))) rfl a ha).trans hon.symm) (And.intro (fun _ => ?_) (fun h => by rw [hon] at h; cases h))
        have hF := fr_next (fr_next (rfl) ((hx 2 (by kernel_rfl)).trans (by kernel_rfl : (_ : Value) = .slice A2_1 l2_1.length c2_1))) (((hf 8 22 (by kernel_rfl) rfl).trans hv8).trans (congrArg Value.bool (show ((t9.1.1 == t12.1.1) && (t9.2 == t12.2)) = true from q15)))
        refine ls_fr hF ?_
        refine ls_val (v := .slice A2_1 l2_1.length c2_1) rfl rfl (by kernel_rfl) (fun w => by kernel_rfl) ?_
        exact ls_fin s0 (.slice A2_1 l2_1.length c2_1) (congrArg (fun z => upd z 24 _) hF.symm) ⟨rfl, rfl⟩ (sub_nil _)
      obtain ⟨t16, hc17, H⟩ := bind_some H
      obtain ⟨s8_11, hs8_11⟩ : ∃ z : Value → Sto → Prop, z = (fun v R => ∃ x18 : Unit, v = .agg ⟨en (Value.int .u8) t16.1⟩ ∧ R = stl []) := ⟨_, rfl⟩
      refine have_op (l := [_, _, _, _, _, _, _, _, _, _, _, _, _, _, _, _, _, _, _, _, _, _, _, _]) shadowboxlaw03_ShaBlocks.tab6 3 11 (fun sp => sp 11 = s8_11 ∧ sp 8 = s8_8 ∧ sp 9 = s8_9 ∧ sp 10 = s8_10) (fun sp on hA hon => ?_) (fun ops8_11 => ?_)
      · refine ⟨fun o ho vs Rs f' S' w hp hf hx hS hR hs => ?_⟩
        obtain rfl := Option.some.inj ho
        obtain ⟨hv8, hR8⟩ := (spe hA.2.1 hs8_8 (hp 8 (by kernel_rfl)))
        obtain ⟨hv9, hR9⟩ := (spe hA.2.2.1 hs8_9 (hp 9 (by kernel_rfl)))
        obtain ⟨hv10, hR10⟩ := (spe hA.2.2.2 hs8_10 (hp 10 (by kernel_rfl)))
        rw [hA.1, hs8_11]
        refine And.intro (fun a ha => (want_is (j := 8) (t := 22) (r := true) rfl rfl (by kernel_rfl) (((hf 8 22 (by kernel_rfl) rfl).trans hv8).trans (congrArg Value.bool (show ((t9.1.1 == t12.1.1) && (t9.2 == t12.2)) = true from q15))) rfl a ha).trans hon.symm) (And.intro (fun _ => ?_) (fun h => by rw [hon] at h; cases h))
        have hF := fr_next (fr_next (fr_next (rfl) (((hf 8 22 (by kernel_rfl) rfl).trans hv8).trans (congrArg Value.bool (show ((t9.1.1 == t12.1.1) && (t9.2 == t12.2)) = true from q15)))) ((hf 9 23 (by kernel_rfl) rfl).trans hv9)) ((hf 10 24 (by kernel_rfl) rfl).trans hv10)
        refine ls_fr hF ?_
        refine ls_call (fid := 14) (vals := #[.agg ⟨(en (Value.int .u32) a0.1.1 ++ [Value.int .u64 a0.2])⟩, .slice A2_1 l2_1.length c2_1]) (X := Unit) (fun x => .agg ⟨en (Value.int .u8) t16.1⟩) (fun x => stl []) 0 rfl rfl (by kernel_rfl) (fun w => by kernel_rfl) (fun w1 hs1 => sha_State_End.calls k a0 A2_1 c2_1 l2_1 t16 (bw w1) (St.refl w1) (Rd.ro (Rd.step (hs.old R2_1) hs1.below.bw)) C2_1 hc17) ?_
        intro x18
        exact ls_fin (stl []) (.agg ⟨en (Value.int .u8) t16.1⟩) (congrArg (fun z => upd z 25 _) hF.symm) ⟨x18, rfl, rfl⟩ (sub_join _)
      obtain ⟨s8_12, hs8_12⟩ : ∃ z : Value → Sto → Prop, z = (fun v R => v = .agg ⟨(en (Value.int .u32) a0.1.1 ++ [Value.int .u64 a0.2])⟩ ∧ R = s0) := ⟨_, rfl⟩
      refine have_op (l := [_, _, _, _, _, _, _, _, _, _, _, _, _, _, _, _, _, _, _, _, _, _, _, _]) shadowboxlaw03_ShaBlocks.tab6 3 12 (fun sp => sp 12 = s8_12 ∧ sp 8 = s8_8) (fun sp on hA hon => ?_) (fun ops8_12 => ?_)
      · refine ⟨fun o ho vs Rs f' S' w hp hf hx hS hR hs => ?_⟩
        obtain rfl := Option.some.inj ho
        obtain ⟨hv8, hR8⟩ := (spe hA.2 hs8_8 (hp 8 (by kernel_rfl)))
        rw [hA.1, hs8_12]
        refine And.intro (fun a ha => (want_is (j := 8) (t := 22) (r := true) rfl rfl (by kernel_rfl) (((hf 8 22 (by kernel_rfl) rfl).trans hv8).trans (congrArg Value.bool (show ((t9.1.1 == t12.1.1) && (t9.2 == t12.2)) = true from q15))) rfl a ha).trans hon.symm) (And.intro (fun _ => ?_) (fun h => by rw [hon] at h; cases h))
        have hF := fr_next (fr_next (rfl) ((hx 3 (by kernel_rfl)).trans (by kernel_rfl : (_ : Value) = .pointer (some ⟨g1, 0, none⟩)))) (((hf 8 22 (by kernel_rfl) rfl).trans hv8).trans (congrArg Value.bool (show ((t9.1.1 == t12.1.1) && (t9.2 == t12.2)) = true from q15)))
        refine ls_fr hF ?_
        refine ls_loadagg (a := ⟨g1, 0, none⟩) (sub := (en (Value.int .u32) a0.1.1 ++ [Value.int .u64 a0.2])) rfl rfl (by kernel_rfl) rfl (by kernel_rfl) (by kernel_rfl) (by kernel_rfl) (len_app (len_en _ a0.1) (len1 _)) (fun w1 hs1 => Rd.step (hs.vars (k := 0) ((hS 0 (by kernel_rfl)).trans (by exact rfl)) (Sub4.all _)) hs1.below.bw) ?_
        exact ls_fin s0 (.agg ⟨(en (Value.int .u32) a0.1.1 ++ [Value.int .u64 a0.2])⟩) (congrArg (fun z => upd z 26 _) hF.symm) ⟨rfl, rfl⟩ (sub_nil _)
      obtain ⟨s8_13, hs8_13⟩ : ∃ z : Value → Sto → Prop, z = (fun v R => v = .slice A2_1 l2_1.length c2_1 ∧ R = s0) := ⟨_, rfl⟩
      refine have_op (l := [_, _, _, _, _, _, _, _, _, _, _, _, _, _, _, _, _, _, _, _, _, _, _, _]) shadowboxlaw03_ShaBlocks.tab6 3 13 (fun sp => sp 13 = s8_13 ∧ sp 8 = s8_8) (fun sp on hA hon => ?_) (fun ops8_13 => ?_)
      · refine ⟨fun o ho vs Rs f' S' w hp hf hx hS hR hs => ?_⟩
        obtain rfl := Option.some.inj ho
        obtain ⟨hv8, hR8⟩ := (spe hA.2 hs8_8 (hp 8 (by kernel_rfl)))
        rw [hA.1, hs8_13]
        refine And.intro (fun a ha => (want_is (j := 8) (t := 22) (r := true) rfl rfl (by kernel_rfl) (((hf 8 22 (by kernel_rfl) rfl).trans hv8).trans (congrArg Value.bool (show ((t9.1.1 == t12.1.1) && (t9.2 == t12.2)) = true from q15))) rfl a ha).trans hon.symm) (And.intro (fun _ => ?_) (fun h => by rw [hon] at h; cases h))
        have hF := fr_next (fr_next (rfl) ((hx 2 (by kernel_rfl)).trans (by kernel_rfl : (_ : Value) = .slice A2_1 l2_1.length c2_1))) (((hf 8 22 (by kernel_rfl) rfl).trans hv8).trans (congrArg Value.bool (show ((t9.1.1 == t12.1.1) && (t9.2 == t12.2)) = true from q15)))
        refine ls_fr hF ?_
        refine ls_val (v := .slice A2_1 l2_1.length c2_1) rfl rfl (by kernel_rfl) (fun w => by kernel_rfl) ?_
        exact ls_fin s0 (.slice A2_1 l2_1.length c2_1) (congrArg (fun z => upd z 27 _) hF.symm) ⟨rfl, rfl⟩ (sub_nil _)
      obtain ⟨s8_14, hs8_14⟩ : ∃ z : Value → Sto → Prop, z = (fun v R => v = .agg ⟨en (Value.int .u32) t3.1⟩ ∧ R = s0) := ⟨_, rfl⟩
      refine have_op (l := [_, _, _, _, _, _, _, _, _, _, _, _, _, _, _, _, _, _, _, _, _, _, _, _]) shadowboxlaw03_ShaBlocks.tab6 3 14 (fun sp => sp 14 = s8_14 ∧ sp 8 = s8_8) (fun sp on hA hon => ?_) (fun ops8_14 => ?_)
      · refine ⟨fun o ho vs Rs f' S' w hp hf hx hS hR hs => ?_⟩
        obtain rfl := Option.some.inj ho
        obtain ⟨hv8, hR8⟩ := (spe hA.2 hs8_8 (hp 8 (by kernel_rfl)))
        rw [hA.1, hs8_14]
        refine And.intro (fun a ha => (want_is (j := 8) (t := 22) (r := true) rfl rfl (by kernel_rfl) (((hf 8 22 (by kernel_rfl) rfl).trans hv8).trans (congrArg Value.bool (show ((t9.1.1 == t12.1.1) && (t9.2 == t12.2)) = true from q15))) rfl a ha).trans hon.symm) (And.intro (fun _ => ?_) (fun h => by rw [hon] at h; cases h))
        have hF := fr_next (fr_next (rfl) ((hx 7 (by kernel_rfl)).trans (by kernel_rfl : (_ : Value) = .pointer (some ⟨g6, 0, none⟩)))) (((hf 8 22 (by kernel_rfl) rfl).trans hv8).trans (congrArg Value.bool (show ((t9.1.1 == t12.1.1) && (t9.2 == t12.2)) = true from q15)))
        refine ls_fr hF ?_
        refine ls_loadagg (a := ⟨g6, 0, none⟩) (sub := en (Value.int .u32) t3.1) rfl rfl (by kernel_rfl) rfl (by kernel_rfl) (by kernel_rfl) (by kernel_rfl) (len_en _ t3) (fun w1 hs1 => Rd.step (hs.vars (k := 2) ((hS 2 (by kernel_rfl)).trans (by exact rfl)) (Sub4.all _)) hs1.below.bw) ?_
        exact ls_fin s0 (.agg ⟨en (Value.int .u32) t3.1⟩) (congrArg (fun z => upd z 28 _) hF.symm) ⟨rfl, rfl⟩ (sub_nil _)
      refine cs_draw shadowboxlaw03_ShaBlocks.tab6 15 3 (spl [s8_0, s8_1, s8_2, s8_3, s8_4, s8_5, s8_6, s8_7, s8_8, s8_9, s8_10, s8_11, s8_12, s8_13, s8_14]) (onl [true, true, true, true, true, true, true, true, true, true, true, true, true, true, true]) (by kernel_rfl) (by kernel_rfl) (by kernel_rfl) (by kernel_rfl) (rs := [_, _, _, _, _, _, _, _, _]) rfl (by kernel_rfl) (by kernel_rfl) (all_snoc (all_snoc (all_snoc (all_snoc (all_snoc (all_snoc (all_snoc (all_snoc (all_snoc (all_snoc (all_snoc (all_snoc (all_snoc (all_snoc (all_snoc (all_nil) (ops8_0 _ _ rfl rfl)) (ops8_1 _ _ rfl rfl)) (ops8_2 _ _ ⟨rfl, rfl, rfl⟩ rfl)) (ops8_3 _ _ rfl rfl)) (ops8_4 _ _ rfl rfl)) (ops8_5 _ _ rfl rfl)) (ops8_6 _ _ ⟨rfl, rfl, rfl, rfl⟩ rfl)) (ops8_7 _ _ ⟨rfl, rfl, rfl⟩ rfl)) (ops8_8 _ _ ⟨rfl, rfl⟩ rfl)) (ops8_9 _ _ ⟨rfl, rfl⟩ rfl)) (ops8_10 _ _ ⟨rfl, rfl⟩ rfl)) (ops8_11 _ _ ⟨rfl, rfl, rfl, rfl⟩ rfl)) (ops8_12 _ _ ⟨rfl, rfl⟩ rfl)) (ops8_13 _ _ ⟨rfl, rfl⟩ rfl)) (ops8_14 _ _ ⟨rfl, rfl⟩ rfl)) ?_
      intro vs Rs f' S' hp hf hx hS hR
      obtain ⟨x11, hv2, hR2⟩ := (spe rfl hs8_2 (hp 2 (by kernel_rfl)))
      obtain ⟨x14, hv6, hR6⟩ := (spe rfl hs8_6 (hp 6 (by kernel_rfl)))
      obtain ⟨hv8, hR8⟩ := (spe rfl hs8_8 (hp 8 (by kernel_rfl)))
      obtain ⟨x18, hv11, hR11⟩ := (spe rfl hs8_11 (hp 11 (by kernel_rfl)))
      obtain ⟨hv12, hR12⟩ := (spe rfl hs8_12 (hp 12 (by kernel_rfl)))
      obtain ⟨hv13, hR13⟩ := (spe rfl hs8_13 (hp 13 (by kernel_rfl)))
      obtain ⟨hv14, hR14⟩ := (spe rfl hs8_14 (hp 14 (by kernel_rfl)))
      refine ls_fr (F := upd (upd (upd (upd (upd f' 22 (.bool ((t9.1.1 == t12.1.1) && (t9.2 == t12.2)))) 25 (.agg ⟨en (Value.int .u8) t16.1⟩)) 26 (.agg ⟨(en (Value.int .u32) a0.1.1 ++ [Value.int .u64 a0.2])⟩)) 27 (.slice A2_1 l2_1.length c2_1)) 28 (.agg ⟨en (Value.int .u32) t3.1⟩)) (fr_next (fr_next (fr_next (fr_next (fr_next (rfl) ((hf 8 22 (by kernel_rfl) rfl).trans hv8)) ((hf 11 25 (by kernel_rfl) rfl).trans hv11)) ((hf 12 26 (by kernel_rfl) rfl).trans hv12)) ((hf 13 27 (by kernel_rfl) rfl).trans hv13)) ((hf 14 28 (by kernel_rfl) rfl).trans hv14)) ?_
      refine ls_sub (s0) (sub_nil _) ?_
      refine ls_know (c := true) (q15) 22 (by kernel_rfl) ?_
      refine ls_on (j := 8) (t := 22) (b := true) rfl rfl (by kernel_rfl) (by kernel_rfl) ?_
      obtain ⟨t19, hc20, H⟩ := bind_some H
      refine ls_callb (fid := 15) (vals := #[.agg ⟨(en (Value.int .u32) a0.1.1 ++ [Value.int .u64 a0.2])⟩, .slice A2_1 l2_1.length c2_1, .agg ⟨en (Value.int .u32) t3.1⟩]) (X := Unit) (fun x => .agg ⟨en (Value.int .u8) t19.1⟩) (fun x => stl []) [] [] [] [] 123 rfl rfl (by kernel_rfl) (fun w => by kernel_rfl) trivial trivial (by decide) (fun w hs hb => shadowboxref03_End.calls k a0 A2_1 c2_1 l2_1 t3 t19 (lent b w [] []) hb (hs.ro R2_1 _ _) C2_1 hc20) ?_
      intro x21
      refine ls_on (j := 8) (t := 22) (b := true) rfl rfl (by kernel_rfl) (by kernel_rfl) ?_
      refine ls_eql (xs := en (Value.int .u8) t16.1) (ys := en (Value.int .u8) t19.1) (r := (t16.1 == t19.1)) rfl rfl (by kernel_rfl) rfl (by kernel_rfl) (by kernel_rfl) (by kernel_rfl) (eq_ints (e := 5) (ln := 32) (by kernel_rfl) (by kernel_rfl) (by kernel_rfl) t16.2 t19.2 _) ?_
      refine ls_val (v := .bool (t16.1 == t19.1)) rfl rfl (by kernel_rfl) (fun w => by kernel_rfl) ?_
      refine ls_val (v := .bool (t16.1 == t19.1)) rfl rfl (by kernel_rfl) (fun w => by kernel_rfl) ?_
      by_cases q22 : (t16.1 == t19.1) = true
      · replace H := ite_t q22 H
        refine ls_know (c := true) (q22) 32 (by kernel_rfl) ?_
        refine ls_on (j := 18) (t := 32) (b := true) rfl rfl (by kernel_rfl) (by kernel_rfl) ?_
        obtain ⟨t23, hc24, H⟩ := bind_some H
        refine ls_callb (fid := 16) (vals := #[]) (X := Unit) (fun x => .agg ⟨(en (Value.int .u32) t23.1.1 ++ [Value.int .u64 t23.2])⟩) (fun x => stl []) [] [] [] [] 123 rfl rfl (by kernel_rfl) (fun w => by kernel_rfl) trivial trivial (by decide) (fun w hs hb => sha_Begin.calls k  t23 (lent b w [] []) hb  hc24) ?_
        intro x25
        refine ls_on (j := 18) (t := 32) (b := true) rfl rfl (by kernel_rfl) (by kernel_rfl) ?_
        obtain ⟨t26, hc27, H⟩ := bind_some H
        refine ls_callb (fid := 17) (vals := #[]) (X := Unit) (fun x => .agg ⟨(en (Value.int .u32) t26.1.1 ++ [Value.int .u64 t26.2])⟩) (fun x => stl []) [] [] [] [] 123 rfl rfl (by kernel_rfl) (fun w => by kernel_rfl) trivial trivial (by decide) (fun w hs hb => shadowboxref03_Begin.calls k  t26 (lent b w [] []) hb  hc27) ?_
        intro x28
        refine ls_on (j := 18) (t := 32) (b := true) rfl rfl (by kernel_rfl) (by kernel_rfl) ?_
        refine ls_eql (xs := (en (Value.int .u32) t23.1.1 ++ [Value.int .u64 t23.2])) (ys := (en (Value.int .u32) t26.1.1 ++ [Value.int .u64 t26.2])) (r := ((t23.1.1 == t26.1.1) && (t23.2 == t26.2))) rfl rfl (by kernel_rfl) rfl (by kernel_rfl) (by kernel_rfl) (by kernel_rfl) (eq_st (by kernel_rfl) (by kernel_rfl) (eqf_cons (ft := 30) (fo := 0) (by kernel_rfl) (part_agg (by kernel_rfl) (by kernel_rfl) (len_en _ t23.1) (Sub4.trans (Sub4.all _) (Sub4.head _ _))) (part_agg (by kernel_rfl) (by kernel_rfl) (len_en _ t26.1) (Sub4.trans (Sub4.all _) (Sub4.head _ _))) (eq_ints (e := 23) (ln := 8) (by kernel_rfl) (by kernel_rfl) (by kernel_rfl) t23.1.2 t26.1.2 _) (eqf_last (ft := 31) (fo := 8) (by kernel_rfl) (part_one (by kernel_rfl) (Sub4.trans (Sub4.all _) (Sub4.skip (n := 8) (len_en _ t23.1) (Sub4.all _)))) (part_one (by kernel_rfl) (Sub4.trans (Sub4.all _) (Sub4.skip (n := 8) (len_en _ t26.1) (Sub4.all _)))) (eq_int (by kernel_rfl) _ _ _) (by kernel_rfl)))) ?_
        refine ls_val (v := .bool ((t23.1.1 == t26.1.1) && (t23.2 == t26.2))) rfl rfl (by kernel_rfl) (fun w => by kernel_rfl) ?_
        refine ls_val (v := .bool ((t23.1.1 == t26.1.1) && (t23.2 == t26.2))) rfl rfl (by kernel_rfl) (fun w => by kernel_rfl) ?_
        refine ls_end ?_
        refine qn_then ?_
        refine cs_ret' ?_
        obtain rfl := Option.some.inj H
        refine qr_res (rs := [_]) rfl (fun w' hs => ⟨[.bool ((t23.1.1 == t26.1.1) && (t23.2 == t26.2))], (res_tmp (by kernel_rfl) (.nil)), (), rfl, hs.pick (ts := []) (cs := []) trivial (by decide)⟩)
      · replace H := ite_f q22 H
        refine ls_know (c := false) (Bool.eq_false_iff.mpr q22) 32 (by kernel_rfl) ?_
        refine ls_off (j := 18) (t := 32) (b := true) (c := false) rfl rfl (by kernel_rfl) (by kernel_rfl) rfl rfl (by kernel_rfl) ?_
        refine ls_off (j := 18) (t := 32) (b := true) (c := false) rfl rfl (by kernel_rfl) (by kernel_rfl) rfl rfl (by kernel_rfl) ?_
        refine ls_off (j := 18) (t := 32) (b := true) (c := false) rfl rfl (by kernel_rfl) (by kernel_rfl) rfl rfl (by kernel_rfl) ?_
        refine ls_val (v := .bool false) rfl rfl (by kernel_rfl) (fun w => by kernel_rfl) ?_
        refine ls_val (v := .bool false) rfl rfl (by kernel_rfl) (fun w => by kernel_rfl) ?_
        refine ls_end ?_
        refine qn_then ?_
        refine cs_ret' ?_
        obtain rfl := Option.some.inj H
        refine qr_res (rs := [_]) rfl (fun w' hs => ⟨[.bool false], (res_tmp (by kernel_rfl) (.nil)), (), rfl, hs.pick (ts := []) (cs := []) trivial (by decide)⟩)
    · replace H := ite_f q15 H
      refine cs_draw shadowboxlaw03_ShaBlocks.tab6 15 3 (spl [s8_0, s8_1, s8_2, s8_3, s8_4, s8_5, s8_6, s8_7, s8_8, spu, spu, spu, spu, spu, spu]) (onl [true, true, true, true, true, true, true, true, true, false, false, false, false, false, false]) (by kernel_rfl) (by kernel_rfl) (by kernel_rfl) (by kernel_rfl) (rs := [_, _, _, _, _, _, _, _, _]) rfl (by kernel_rfl) (by kernel_rfl) (all_snoc (all_snoc (all_snoc (all_snoc (all_snoc (all_snoc (all_snoc (all_snoc (all_snoc (all_snoc (all_snoc (all_snoc (all_snoc (all_snoc (all_snoc (all_nil) (ops8_0 _ _ rfl rfl)) (ops8_1 _ _ rfl rfl)) (ops8_2 _ _ ⟨rfl, rfl, rfl⟩ rfl)) (ops8_3 _ _ rfl rfl)) (ops8_4 _ _ rfl rfl)) (ops8_5 _ _ rfl rfl)) (ops8_6 _ _ ⟨rfl, rfl, rfl, rfl⟩ rfl)) (ops8_7 _ _ ⟨rfl, rfl, rfl⟩ rfl)) (ops8_8 _ _ ⟨rfl, rfl⟩ rfl)) (op_offi 9 8 22 true rfl rfl (by kernel_rfl) (by kernel_rfl) rfl (fun v R h => by rw [hs8_8] at h; obtain ⟨h, _⟩ := h; exact h.trans (congrArg Value.bool (show ((t9.1.1 == t12.1.1) && (t9.2 == t12.2)) = false from Bool.eq_false_iff.mpr q15))) rfl rfl)) (op_offi 10 8 22 true rfl rfl (by kernel_rfl) (by kernel_rfl) rfl (fun v R h => by rw [hs8_8] at h; obtain ⟨h, _⟩ := h; exact h.trans (congrArg Value.bool (show ((t9.1.1 == t12.1.1) && (t9.2 == t12.2)) = false from Bool.eq_false_iff.mpr q15))) rfl rfl)) (op_offi 11 8 22 true rfl rfl (by kernel_rfl) (by kernel_rfl) rfl (fun v R h => by rw [hs8_8] at h; obtain ⟨h, _⟩ := h; exact h.trans (congrArg Value.bool (show ((t9.1.1 == t12.1.1) && (t9.2 == t12.2)) = false from Bool.eq_false_iff.mpr q15))) rfl rfl)) (op_offi 12 8 22 true rfl rfl (by kernel_rfl) (by kernel_rfl) rfl (fun v R h => by rw [hs8_8] at h; obtain ⟨h, _⟩ := h; exact h.trans (congrArg Value.bool (show ((t9.1.1 == t12.1.1) && (t9.2 == t12.2)) = false from Bool.eq_false_iff.mpr q15))) rfl rfl)) (op_offi 13 8 22 true rfl rfl (by kernel_rfl) (by kernel_rfl) rfl (fun v R h => by rw [hs8_8] at h; obtain ⟨h, _⟩ := h; exact h.trans (congrArg Value.bool (show ((t9.1.1 == t12.1.1) && (t9.2 == t12.2)) = false from Bool.eq_false_iff.mpr q15))) rfl rfl)) (op_offi 14 8 22 true rfl rfl (by kernel_rfl) (by kernel_rfl) rfl (fun v R h => by rw [hs8_8] at h; obtain ⟨h, _⟩ := h; exact h.trans (congrArg Value.bool (show ((t9.1.1 == t12.1.1) && (t9.2 == t12.2)) = false from Bool.eq_false_iff.mpr q15))) rfl rfl)) ?_
      intro vs Rs f' S' hp hf hx hS hR
      obtain ⟨x11, hv2, hR2⟩ := (spe rfl hs8_2 (hp 2 (by kernel_rfl)))
      obtain ⟨x14, hv6, hR6⟩ := (spe rfl hs8_6 (hp 6 (by kernel_rfl)))
      obtain ⟨hv8, hR8⟩ := (spe rfl hs8_8 (hp 8 (by kernel_rfl)))
      obtain ⟨hv11, hR11⟩ := (spe rfl rfl (hp 11 (by kernel_rfl)) : spu _ _)
      obtain ⟨hv12, hR12⟩ := (spe rfl rfl (hp 12 (by kernel_rfl)) : spu _ _)
      obtain ⟨hv13, hR13⟩ := (spe rfl rfl (hp 13 (by kernel_rfl)) : spu _ _)
      obtain ⟨hv14, hR14⟩ := (spe rfl rfl (hp 14 (by kernel_rfl)) : spu _ _)
      refine ls_fr (F := upd f' 22 (.bool ((t9.1.1 == t12.1.1) && (t9.2 == t12.2)))) (fr_next (rfl) ((hf 8 22 (by kernel_rfl) rfl).trans hv8)) ?_
      refine ls_sub (s0) (sub_nil _) ?_
      refine ls_know (c := false) (Bool.eq_false_iff.mpr q15) 22 (by kernel_rfl) ?_
      refine ls_off (j := 8) (t := 22) (b := true) (c := false) rfl rfl (by kernel_rfl) (by kernel_rfl) rfl rfl (by kernel_rfl) ?_
      refine ls_off (j := 8) (t := 22) (b := true) (c := false) rfl rfl (by kernel_rfl) (by kernel_rfl) rfl rfl (by kernel_rfl) ?_
      refine ls_val (v := .bool false) rfl rfl (by kernel_rfl) (fun w => by kernel_rfl) ?_
      refine ls_val (v := .bool false) rfl rfl (by kernel_rfl) (fun w => by kernel_rfl) ?_
      refine ls_off (j := 18) (t := 32) (b := true) (c := false) rfl rfl (by kernel_rfl) (by kernel_rfl) rfl rfl (by kernel_rfl) ?_
      refine ls_off (j := 18) (t := 32) (b := true) (c := false) rfl rfl (by kernel_rfl) (by kernel_rfl) rfl rfl (by kernel_rfl) ?_
      refine ls_off (j := 18) (t := 32) (b := true) (c := false) rfl rfl (by kernel_rfl) (by kernel_rfl) rfl rfl (by kernel_rfl) ?_
      refine ls_val (v := .bool false) rfl rfl (by kernel_rfl) (fun w => by kernel_rfl) ?_
      refine ls_val (v := .bool false) rfl rfl (by kernel_rfl) (fun w => by kernel_rfl) ?_
      refine ls_end ?_
      refine qn_then ?_
      refine cs_ret' ?_
      obtain rfl := Option.some.inj H
      refine qr_res (rs := [_]) rfl (fun w' hs => ⟨[.bool false], (res_tmp (by kernel_rfl) (.nil)), (), rfl, hs.pick (ts := []) (cs := []) trivial (by decide)⟩)

end Go.Proofs.Ytelgglnabikkcaa.G
