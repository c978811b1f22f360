/- Printed by a program of this session (sz.py): plain functions, and walks that show that the code comes to them; no condition. -/
import Derived.Test.YtelgglnabikkcaaProg
import Derived.Test.YtelgglnabikkcaaTy
import Derived.Test.YtelgglnabikkcaaG0
import Derived.Test.YtelgglnabikkcaaG1
import Derived.Test.YtelgglnabikkcaaG2
import Derived.Test.YtelgglnabikkcaaG3
set_option linter.unusedVariables false
set_option linter.unusedSimpArgs false
namespace Go.Proofs.Ytelgglnabikkcaa.G
open Go Go.RowKit Go.Proofs.Ytelgglnabikkcaa.Sx

/-! ### shadowbox/shadowboxlaw03.ShaParts: function 7 -/
def shadowboxlaw03_ShaParts.jo2 (k : Nat) (l0_1 : List Int) (l4_2 : List Int) (m0_2 : ((Vc Int 8) × Int)) : Option (Bool) := lt (IntKind.wrap .i64 ((l0_1.length : Int) - (l4_2.length : Int))) fun y5 => (if m0_2.2 = (IntKind.wrap .u64 y5) then (sha_State_End.f k m0_2 l4_2).bind fun t8 => (sha_Sum.f k l0_1).bind fun t11 => (if (t8.1 == t11.1) = true then (sha_Text.f k l0_1).bind fun t15 => (if (t15.size : Int) = (64 : Int) then (sha_Sum.f k ([] : List Int)).bind fun t19 => (if (0 : Int) < (32 : Int) then some (decide ((t19.1.getD ((0 : Int)).toNat (0 : Int)) = (227 : Int))) else none) else some false) else some false) else some false)
def shadowboxlaw03_ShaParts.tab23 : List (List Nat) := [[], [], [1], [1, 2], [1, 2, 3], [0, 1, 2, 3, 4], [0, 1, 2, 3, 4, 5]]
def shadowboxlaw03_ShaParts.lo3 (jo2 : (List Int) → (((Vc Int 8) × Int)) → Option (Bool)) : Nat → (List Int) → (((Vc Int 8) × Int)) → Option (Bool)
  | 0, _, _ => none
  | k3 + 1, l4_3, m0_3 => (if (l4_3.length : Int) ≥ (64 : Int) then (if (64 : Int) ≤ (l4_3.length : Int) then lt (l4_3.take ((64 : Int)).toNat) fun xl31 => (if 64 ≤ xl31.length then (sha_State_Block.f k3 m0_3 (vpad 64 0 xl31)).bind fun t39 => lt (l4_3.drop ((64 : Int)).toNat) fun xl46 => (shadowboxlaw03_ShaParts.lo3 jo2 k3) xl46 t39 else none) else none) else jo2 l4_3 m0_3)
def shadowboxlaw03_ShaParts.jo1 (k : Nat) (l0_1 : List Int) : Option (Bool) := (sha_Begin.f k).bind fun t1 => shadowboxlaw03_ShaParts.lo3 (shadowboxlaw03_ShaParts.jo2 k l0_1) k l0_1 t1
def shadowboxlaw03_ShaParts.f (k : Nat) (l0 : List Int) : Option (Bool) :=
  (if (l0.length : Int) > (4000 : Int) then (if (4000 : Int) ≤ (l0.length : Int) then lt (l0.take ((4000 : Int)).toNat) fun xl57 => (shadowboxlaw03_ShaParts.jo1 k) xl57 else none) else (shadowboxlaw03_ShaParts.jo1 k) l0)
set_option maxRecDepth 100000 in
set_option maxHeartbeats 4000000 in
theorem shadowboxlaw03_ShaParts.calls (k : Nat) (A0 : Option Addr) (c0 : Nat) (l0 : List Int) (r : Bool) (b : Bs) (hs0 : St b (stl []) b.w) (R0 : Ro b A0 (em (Ec.int 5 .u8) l0)) (C0 : l0.length ≤ c0) (H : shadowboxlaw03_ShaParts.f k l0 = some r) :
    Calls Try.prog 7 #[.slice A0 l0.length c0] b.w fun e w' => ∃ x : Unit, e = .returned (.bool r) ∧ St b (stl []) w' := by
  unfold shadowboxlaw03_ShaParts.f at H
  refine enterb (n := 51) Try.func7 rfl (by kernel_rfl) (by kernel_rfl) hs0 ?_
  refine cs_sub (s0) (sub_nil _) ?_
  refine cs_seq ?_
  refine cs_region (l := [_]) ?_
  refine ls_val (v := .bool false) rfl rfl (by kernel_rfl) (fun w => by kernel_rfl) ?_
  refine ls_end ?_
  refine qn_then ?_
  refine cs_cut (fun f S => ∃ (fR : Fr) (A0_1 : Option Addr) (c0_1 : Nat) (l0_1 : List Int), f = upd fR 0 (.slice A0_1 l0_1.length c0_1) ∧ S = s0 ∧ Ro b A0_1 (em (Ec.int 5 .u8) l0_1) ∧ l0_1.length ≤ c0_1 ∧ shadowboxlaw03_ShaParts.jo1 k l0_1 = some r) ?_ ?_
  · skip
    refine cs_seq ?_
    refine cs_region (l := [_, _, _]) ?_
    refine ls_val (v := .slice A0 l0.length c0) rfl rfl (by kernel_rfl) (fun w => by kernel_rfl) ?_
    refine ls_val (v := .int .i64 (l0.length : Int)) rfl rfl (by kernel_rfl) (fun w => by kernel_rfl) ?_
    refine ls_val (v := .bool (decide ((l0.length : Int) > (4000 : Int)))) rfl rfl (by kernel_rfl) (fun w => by kernel_rfl) ?_
    refine ls_end ?_
    refine qn_then ?_
    by_cases q51 : (l0.length : Int) > (4000 : Int)
    · replace H := ite_t q51 H
      refine cs_know (c := true) (dec_t q51) 7 (by kernel_rfl) ?_
      refine cs_true (by kernel_rfl) ?_
      refine cs_region (l := [_, _, _]) ?_
      refine ls_val (v := .slice A0 l0.length c0) rfl rfl (by kernel_rfl) (fun w => by kernel_rfl) ?_
      obtain ⟨q52, H⟩ := ite_need H
      obtain ⟨xl57, hy58, H⟩ := lt_some H
      have hz60 : 0 ≤ ((4000 : Int)).toNat := by omega
      have hz61 : ((4000 : Int)).toNat ≤ l0.length := by omega
      obtain ⟨xA53, xc54, he59, xC56, xR55⟩ := cut_at (A := A0) (c := c0) (l := l0) (Ec.int 5 .u8) 0 (((4000 : Int)).toNat) hz60 hz61 C0 R0 (m := xl57) (by rw [← hy58] <;> simp) (z := 1) rfl
      refine ls_cutv (A := A0) (c := c0) (m := l0.length) (z := 1) (e := 5) (a := 0) (b := ((4000 : Int)).toNat) rfl rfl (by kernel_rfl) rfl (by kernel_rfl) (by kernel_rfl) (by kernel_rfl) (.inl ⟨rfl, rfl⟩) (.inr ⟨.i64, by rw [Int.toNat_of_nonneg (by first | assumption | omega)]; kernel_rfl⟩) hz60 hz61 C0 he59 ?_
      refine ls_val (v := .slice xA53 xl57.length xc54) rfl rfl (by kernel_rfl) (fun w => by kernel_rfl) ?_
      refine ls_end ?_
      refine qn_meet (s0) ⟨_, xA53, xc54, xl57, fr_next (rfl) (by kernel_rfl), rfl, xR55, xC56, H⟩ (sub_nil _)
    · replace H := ite_f q51 H
      refine cs_know (c := false) (dec_f q51) 7 (by kernel_rfl) ?_
      refine cs_false (by kernel_rfl) ?_
      refine cs_skip' ?_
      refine qn_meet (s0) ⟨_, A0, c0, l0, fr_next (rfl) (by kernel_rfl), rfl, R0, C0, H⟩ (sub_nil _)
  · rintro f S ⟨fr1, A0_1, c0_1, l0_1, rfl, rfl, R0_1, C0_1, H⟩
    replace H : ((sha_Begin.f k).bind fun t1 => shadowboxlaw03_ShaParts.lo3 (shadowboxlaw03_ShaParts.jo2 k l0_1) k l0_1 t1) = some r := H
    refine cs_seq ?_
    refine cs_region (l := [_, _, _]) ?_
    obtain ⟨t1, hc2, H⟩ := bind_some H
    refine ls_callb (fid := 16) (vals := #[]) (X := Unit) (fun x => .agg ⟨(en (Value.int .u32) t1.1.1 ++ [Value.int .u64 t1.2])⟩) (fun x => stl []) [] [] [] [] 0 rfl rfl (by kernel_rfl) (fun w => by kernel_rfl) trivial trivial (by decide) (fun w hs hb => sha_Begin.calls k  t1 (lent b w [] []) hb  hc2) ?_
    intro x3
    refine ls_new rfl rfl (by kernel_rfl) 0 (fun g => .pointer (some ⟨g, 0, none⟩)) (.cells ⟨(en (Value.int .u32) (vrep 8 (0 : Int)).1 ++ [Value.int .u64 (0 : Int)])⟩ 33) (fun w => by kernel_rfl) ?_
    intro g4
    refine ls_storec (g := g4) (off := 0) (v := .agg ⟨(en (Value.int .u32) t1.1.1 ++ [Value.int .u64 t1.2])⟩) (vs := (en (Value.int .u32) t1.1.1 ++ [Value.int .u64 t1.2])) (cs := (en (Value.int .u32) (vrep 8 (0 : Int)).1 ++ [Value.int .u64 (0 : Int)])) (ty := 33) 0 rfl rfl rfl (by kernel_rfl) (by kernel_rfl) (by kernel_rfl) (by exact rfl) (by kernel_rfl) (len_app (len_en _ t1.1) (len1 _)) (one_app (one_en (fun _ => rfl) _) (one_cons rfl one_nil)) (hl_of (Sub4.all _) (len_eq (len_app (len_en _ t1.1) (len1 _)) (len_app (len_en _ (vrep 8 (0 : Int))) (len1 _)))) (cs' := (en (Value.int .u32) t1.1.1 ++ [Value.int .u64 t1.2])) (splc_all (len_eq (len_app (len_en _ t1.1) (len1 _)) (len_app (len_en _ (vrep 8 (0 : Int))) (len1 _)))) ?_
    refine ls_end ?_
    refine qn_then ?_
    refine cs_seq ?_
    refine cs_region (l := [_, _]) ?_
    refine ls_val (v := .slice A0_1 l0_1.length c0_1) rfl rfl (by kernel_rfl) (fun w => by kernel_rfl) ?_
    refine ls_val (v := .slice A0_1 l0_1.length c0_1) rfl rfl (by kernel_rfl) (fun w => by kernel_rfl) ?_
    refine ls_end ?_
    refine qn_then ?_
    refine cs_cut (fun f S => ∃ (fR : Fr) (A4_2 : Option Addr) (c4_2 : Nat) (l4_2 : List Int) (m0_2 : ((Vc Int 8) × Int)), f = upd (upd (upd fR 0 (.slice A0_1 l0_1.length c0_1)) 3 (.pointer (some ⟨g4, 0, none⟩))) 4 (.slice A4_2 l4_2.length c4_2) ∧ S = sput s0 0 (some (Ck.var 33 g4 ((en (Value.int .u32) m0_2.1.1 ++ [Value.int .u64 m0_2.2])))) ∧ Ro b A4_2 (em (Ec.int 5 .u8) l4_2) ∧ l4_2.length ≤ c4_2 ∧ shadowboxlaw03_ShaParts.jo2 k l0_1 l4_2 m0_2 = some r) ?_ ?_
    · skip
      refine cs_block ?_
      refine cs_sub (sput s0 0 (some (Ck.var 33 g4 ((en (Value.int .u32) t1.1.1 ++ [Value.int .u64 t1.2]))))) (sub_put (by exact rfl) (sub_nil _)) ?_
      refine cs_loop (fun kk f S => ∃ (fR : Fr) (A4_3 : Option Addr) (c4_3 : Nat) (l4_3 : List Int) (m0_3 : ((Vc Int 8) × Int)), f = upd (upd (upd fR 0 (.slice A0_1 l0_1.length c0_1)) 3 (.pointer (some ⟨g4, 0, none⟩))) 4 (.slice A4_3 l4_3.length c4_3) ∧ S = sput s0 0 (some (Ck.var 33 g4 ((en (Value.int .u32) m0_3.1.1 ++ [Value.int .u64 m0_3.2])))) ∧ Ro b A4_3 (em (Ec.int 5 .u8) l4_3) ∧ l4_3.length ≤ c4_3 ∧ shadowboxlaw03_ShaParts.lo3 (shadowboxlaw03_ShaParts.jo2 k l0_1) kk l4_3 m0_3 = some r) k ?_ ?_ ?_
      · exact ⟨_, A0_1, c0_1, l0_1, t1, fr_next (fr_next (fr_next (rfl) (by kernel_rfl)) (by kernel_rfl)) (by kernel_rfl), rfl, R0_1, C0_1, H⟩
      · rintro f S ⟨fr3, A4_3, c4_3, l4_3, m0_3, rfl, rfl, R4_3, C4_3, H⟩; cases H
      · rintro k3 f S ⟨fr3, A4_3, c4_3, l4_3, m0_3, rfl, rfl, R4_3, C4_3, H⟩
        replace H : ((if (l4_3.length : Int) ≥ (64 : Int) then (if (64 : Int) ≤ (l4_3.length : Int) then lt (l4_3.take ((64 : Int)).toNat) fun xl31 => (if 64 ≤ xl31.length then (sha_State_Block.f k3 m0_3 (vpad 64 0 xl31)).bind fun t39 => lt (l4_3.drop ((64 : Int)).toNat) fun xl46 => (shadowboxlaw03_ShaParts.lo3 (shadowboxlaw03_ShaParts.jo2 k l0_1) k3) xl46 t39 else none) else none) else (shadowboxlaw03_ShaParts.jo2 k l0_1) l4_3 m0_3)) = some r := H
        refine cs_seq ?_
        refine cs_seq ?_
        refine cs_region (l := [_, _, _]) ?_
        refine ls_val (v := .slice A4_3 l4_3.length c4_3) rfl rfl (by kernel_rfl) (fun w => by kernel_rfl) ?_
        refine ls_val (v := .int .i64 (l4_3.length : Int)) rfl rfl (by kernel_rfl) (fun w => by kernel_rfl) ?_
        refine ls_val (v := .bool (decide ((l4_3.length : Int) ≥ (64 : Int)))) rfl rfl (by kernel_rfl) (fun w => by kernel_rfl) ?_
        refine ls_end ?_
        refine qn_then ?_
        by_cases q23 : (l4_3.length : Int) ≥ (64 : Int)
        · replace H := ite_t q23 H
          refine cs_know (c := true) (dec_t q23) 14 (by kernel_rfl) ?_
          refine cs_true (by kernel_rfl) ?_
          refine cs_skip' ?_
          refine qn_then ?_
          refine cs_block ?_
          refine cs_seq ?_
          obtain ⟨s25_0, hs25_0⟩ : ∃ z : Value → Sto → Prop, z = (fun v R => v = .agg ⟨(en (Value.int .u32) m0_3.1.1 ++ [Value.int .u64 m0_3.2])⟩ ∧ R = s0) := ⟨_, rfl⟩
          refine have_op (l := [_, _, _, _, _, _, _]) shadowboxlaw03_ShaParts.tab23 1 0 (fun sp => sp 0 = s25_0) (fun sp on hA hon => ?_) (fun ops25_0 => ?_)
          · refine ⟨fun o ho vs Rs f' S' w hp hf hx hS hR hs => ?_⟩
            obtain rfl := Option.some.inj ho
            rw [hA, hs25_0]
            refine And.intro (fun a ha => (want_none rfl a ha).trans hon.symm) (And.intro (fun _ => ?_) (fun h => by rw [hon] at h; cases h))
            have hF := fr_next (rfl) ((hx 3 (by kernel_rfl)).trans (by kernel_rfl : (_ : Value) = .pointer (some ⟨g4, 0, none⟩)))
            refine ls_fr hF ?_
            refine ls_loadagg (a := ⟨g4, 0, none⟩) (sub := (en (Value.int .u32) m0_3.1.1 ++ [Value.int .u64 m0_3.2])) rfl rfl (by kernel_rfl) rfl (by kernel_rfl) (by kernel_rfl) (by kernel_rfl) (len_app (len_en _ m0_3.1) (len1 _)) (fun w1 hs1 => Rd.step (hs.vars (k := 0) ((hS 0 (by kernel_rfl)).trans (by exact rfl)) (Sub4.all _)) hs1.below.bw) ?_
            exact ls_fin s0 (.agg ⟨(en (Value.int .u32) m0_3.1.1 ++ [Value.int .u64 m0_3.2])⟩) (congrArg (fun z => upd z 15 _) hF.symm) ⟨rfl, rfl⟩ (sub_nil _)
          obtain ⟨s25_1, hs25_1⟩ : ∃ z : Value → Sto → Prop, z = (fun v R => v = .slice A4_3 l4_3.length c4_3 ∧ R = s0) := ⟨_, rfl⟩
          refine have_op (l := [_, _, _, _, _, _, _]) shadowboxlaw03_ShaParts.tab23 1 1 (fun sp => sp 1 = s25_1) (fun sp on hA hon => ?_) (fun ops25_1 => ?_)
          · refine ⟨fun o ho vs Rs f' S' w hp hf hx hS hR hs => ?_⟩
            obtain rfl := Option.some.inj ho
            rw [hA, hs25_1]
            refine And.intro (fun a ha => (want_none rfl a ha).trans hon.symm) (And.intro (fun _ => ?_) (fun h => by rw [hon] at h; cases h))
            have hF := fr_next (rfl) ((hx 4 (by kernel_rfl)).trans (by kernel_rfl : (_ : Value) = .slice A4_3 l4_3.length c4_3))
            refine ls_fr hF ?_
            refine ls_val (v := .slice A4_3 l4_3.length c4_3) rfl rfl (by kernel_rfl) (fun w => by kernel_rfl) ?_
            exact ls_fin s0 (.slice A4_3 l4_3.length c4_3) (congrArg (fun z => upd z 16 _) hF.symm) ⟨rfl, rfl⟩ (sub_nil _)
          obtain ⟨q26, H⟩ := ite_need H
          obtain ⟨xl31, hy32, H⟩ := lt_some H
          have hz34 : 0 ≤ ((64 : Int)).toNat := by omega
          have hz35 : ((64 : Int)).toNat ≤ l4_3.length := by omega
          obtain ⟨xA27, xc28, he33, xC30, xR29⟩ := cut_at (A := A4_3) (c := c4_3) (l := l4_3) (Ec.int 5 .u8) 0 (((64 : Int)).toNat) hz34 hz35 C4_3 R4_3 (m := xl31) (by rw [← hy32] <;> simp) (z := 1) rfl
          obtain ⟨s25_2, hs25_2⟩ : ∃ z : Value → Sto → Prop, z = (fun v R => v = .slice xA27 xl31.length xc28 ∧ R = s0) := ⟨_, rfl⟩
          refine have_op (l := [_, _, _, _, _, _, _]) shadowboxlaw03_ShaParts.tab23 1 2 (fun sp => sp 2 = s25_2 ∧ sp 1 = s25_1) (fun sp on hA hon => ?_) (fun ops25_2 => ?_)
          · refine ⟨fun o ho vs Rs f' S' w hp hf hx hS hR hs => ?_⟩
            obtain rfl := Option.some.inj ho
            obtain ⟨hv1, hR1⟩ := (spe hA.2 hs25_1 (hp 1 (by kernel_rfl)))
            rw [hA.1, hs25_2]
            refine And.intro (fun a ha => (want_none rfl a ha).trans hon.symm) (And.intro (fun _ => ?_) (fun h => by rw [hon] at h; cases h))
            have hF := fr_next (rfl) ((hf 1 16 (by kernel_rfl) rfl).trans hv1)
            refine ls_fr hF ?_
            refine ls_cutv (A := A4_3) (c := c4_3) (m := l4_3.length) (z := 1) (e := 5) (a := 0) (b := ((64 : Int)).toNat) rfl rfl (by kernel_rfl) rfl (by kernel_rfl) (by kernel_rfl) (by kernel_rfl) (.inl ⟨rfl, rfl⟩) (.inr ⟨.i64, by rw [Int.toNat_of_nonneg (by first | assumption | omega)]; kernel_rfl⟩) hz34 hz35 C4_3 he33 ?_
            exact ls_fin s0 (.slice xA27 xl31.length xc28) (congrArg (fun z => upd z 17 _) hF.symm) ⟨rfl, rfl⟩ (sub_nil _)
          obtain ⟨q36, H⟩ := ite_need H
          obtain ⟨ad37, hA38⟩ := ido_at (T := (Ec.int 5 .u8)) (l := xl31) (i := (0 : Int)) xR29 (by decide) (by have := q36; omega)
          obtain ⟨s25_3, hs25_3⟩ : ∃ z : Value → Sto → Prop, z = (fun v R => v = .pointer (some ad37) ∧ R = s0) := ⟨_, rfl⟩
          refine have_op (l := [_, _, _, _, _, _, _]) shadowboxlaw03_ShaParts.tab23 1 3 (fun sp => sp 3 = s25_3 ∧ sp 2 = s25_2) (fun sp on hA hon => ?_) (fun ops25_3 => ?_)
          · refine ⟨fun o ho vs Rs f' S' w hp hf hx hS hR hs => ?_⟩
            obtain rfl := Option.some.inj ho
            obtain ⟨hv2, hR2⟩ := (spe hA.2 hs25_2 (hp 2 (by kernel_rfl)))
            rw [hA.1, hs25_3]
            refine And.intro (fun a ha => (want_none rfl a ha).trans hon.symm) (And.intro (fun _ => ?_) (fun h => by rw [hon] at h; cases h))
            have hF := fr_next (rfl) ((hf 2 17 (by kernel_rfl) rfl).trans hv2)
            refine ls_fr hF ?_
            refine ls_toarr (e := 5) (A := xA27) (m := xl31.length) (c := xc28) rfl rfl (by kernel_rfl) rfl (by kernel_rfl) (by kernel_rfl) q36 hA38 ?_
            exact ls_fin s0 (.pointer (some ad37)) (congrArg (fun z => upd z 18 _) hF.symm) ⟨rfl, rfl⟩ (sub_nil _)
          obtain ⟨s25_4, hs25_4⟩ : ∃ z : Value → Sto → Prop, z = (fun v R => v = .agg ⟨en (Value.int .u8) (vpad 64 0 xl31).1⟩ ∧ R = s0) := ⟨_, rfl⟩
          refine have_op (l := [_, _, _, _, _, _, _]) shadowboxlaw03_ShaParts.tab23 1 4 (fun sp => sp 4 = s25_4 ∧ sp 3 = s25_3) (fun sp on hA hon => ?_) (fun ops25_4 => ?_)
          · refine ⟨fun o ho vs Rs f' S' w hp hf hx hS hR hs => ?_⟩
            obtain rfl := Option.some.inj ho
            obtain ⟨hv3, hR3⟩ := (spe hA.2 hs25_3 (hp 3 (by kernel_rfl)))
            rw [hA.1, hs25_4]
            refine And.intro (fun a ha => (want_none rfl a ha).trans hon.symm) (And.intro (fun _ => ?_) (fun h => by rw [hon] at h; cases h))
            have hF := fr_next (rfl) ((hf 3 18 (by kernel_rfl) rfl).trans hv3)
            refine ls_fr hF ?_
            refine ls_loadagg (a := (ad37.add 0)) (sub := en (Value.int .u8) (vpad 64 0 xl31).1) rfl rfl (by kernel_rfl) rfl (by kernel_rfl) (by kernel_rfl) (by kernel_rfl) (len_en _ (vpad 64 0 xl31)) (fun w1 hs1 => ((Rd.step (hs.old xR29) hs1.below.bw).vpad q36 0).part hA38 (Sub4.all _)) ?_
            exact ls_fin s0 (.agg ⟨en (Value.int .u8) (vpad 64 0 xl31).1⟩) (congrArg (fun z => upd z 19 _) hF.symm) ⟨rfl, rfl⟩ (sub_nil _)
          refine cs_draw shadowboxlaw03_ShaParts.tab23 5 1 (spl [s25_0, s25_1, s25_2, s25_3, s25_4]) (onl [true, true, true, true, true]) (by kernel_rfl) (by kernel_rfl) (by kernel_rfl) (by kernel_rfl) (rs := [_, _]) rfl (by kernel_rfl) (by kernel_rfl) (all_snoc (all_snoc (all_snoc (all_snoc (all_snoc (all_nil) (ops25_0 _ _ rfl rfl)) (ops25_1 _ _ rfl rfl)) (ops25_2 _ _ ⟨rfl, rfl⟩ rfl)) (ops25_3 _ _ ⟨rfl, rfl⟩ rfl)) (ops25_4 _ _ ⟨rfl, rfl⟩ rfl)) ?_
          intro vs Rs f' S' hp hf hx hS hR
          obtain ⟨hv0, hR0⟩ := (spe rfl hs25_0 (hp 0 (by kernel_rfl)))
          obtain ⟨hv4, hR4⟩ := (spe rfl hs25_4 (hp 4 (by kernel_rfl)))
          refine ls_fr (F := upd (upd (upd (upd (upd f' 0 (.slice A0_1 l0_1.length c0_1)) 3 (.pointer (some ⟨g4, 0, none⟩))) 4 (.slice A4_3 l4_3.length c4_3)) 15 (.agg ⟨(en (Value.int .u32) m0_3.1.1 ++ [Value.int .u64 m0_3.2])⟩)) 19 (.agg ⟨en (Value.int .u8) (vpad 64 0 xl31).1⟩)) (fr_next (fr_next (fr_next (fr_next (fr_next (rfl) ((hx 0 (by kernel_rfl)).trans (by kernel_rfl : (_ : Value) = .slice A0_1 l0_1.length c0_1))) ((hx 3 (by kernel_rfl)).trans (by kernel_rfl : (_ : Value) = .pointer (some ⟨g4, 0, none⟩)))) ((hx 4 (by kernel_rfl)).trans (by kernel_rfl : (_ : Value) = .slice A4_3 l4_3.length c4_3))) ((hf 0 15 (by kernel_rfl) rfl).trans hv0)) ((hf 4 19 (by kernel_rfl) rfl).trans hv4)) ?_
          refine ls_sub (sput s0 0 (some (Ck.var 33 g4 ((en (Value.int .u32) m0_3.1.1 ++ [Value.int .u64 m0_3.2]))))) (sub_put ((hS 0 (by kernel_rfl)).trans (by exact rfl)) (sub_nil _)) ?_
          obtain ⟨t39, hc40, H⟩ := bind_some H
          refine ls_callb (fid := 12) (vals := #[.agg ⟨(en (Value.int .u32) m0_3.1.1 ++ [Value.int .u64 m0_3.2])⟩, .agg ⟨en (Value.int .u8) (vpad 64 0 xl31).1⟩]) (X := Unit) (fun x => .agg ⟨(en (Value.int .u32) t39.1.1 ++ [Value.int .u64 t39.2])⟩) (fun x => stl []) [] [] [] [] 41 rfl rfl (by kernel_rfl) (fun w => by kernel_rfl) trivial trivial (by decide) (fun w hs hb => sha_State_Block.calls k3 m0_3 (vpad 64 0 xl31) t39 (lent b w [] []) hb  hc40) ?_
          intro x41
          refine ls_storec (g := g4) (off := 0) (v := .agg ⟨(en (Value.int .u32) t39.1.1 ++ [Value.int .u64 t39.2])⟩) (vs := (en (Value.int .u32) t39.1.1 ++ [Value.int .u64 t39.2])) (cs := (en (Value.int .u32) m0_3.1.1 ++ [Value.int .u64 m0_3.2])) (ty := 33) 0 rfl rfl rfl (by kernel_rfl) (by kernel_rfl) (by kernel_rfl) (by exact rfl) (by kernel_rfl) (len_app (len_en _ t39.1) (len1 _)) (one_app (one_en (fun _ => rfl) _) (one_cons rfl one_nil)) (hl_of (Sub4.all _) (len_eq (len_app (len_en _ t39.1) (len1 _)) (len_app (len_en _ m0_3.1) (len1 _)))) (cs' := (en (Value.int .u32) t39.1.1 ++ [Value.int .u64 t39.2])) (splc_all (len_eq (len_app (len_en _ t39.1) (len1 _)) (len_app (len_en _ m0_3.1) (len1 _)))) ?_
          refine ls_end ?_
          refine qn_then ?_
          refine cs_region (l := [_, _, _]) ?_
          refine ls_val (v := .slice A4_3 l4_3.length c4_3) rfl rfl (by kernel_rfl) (fun w => by kernel_rfl) ?_
          obtain ⟨xl46, hy47, H⟩ := lt_some H
          have hz49 : ((64 : Int)).toNat ≤ l4_3.length := by omega
          have hz50 : l4_3.length ≤ l4_3.length := by omega
          obtain ⟨xA42, xc43, he48, xC45, xR44⟩ := cut_at (A := A4_3) (c := c4_3) (l := l4_3) (Ec.int 5 .u8) (((64 : Int)).toNat) l4_3.length hz49 hz50 C4_3 R4_3 (m := xl46) (by rw [← hy47] <;> simp) (z := 1) rfl
          refine ls_cutv (A := A4_3) (c := c4_3) (m := l4_3.length) (z := 1) (e := 5) (a := ((64 : Int)).toNat) (b := l4_3.length) rfl rfl (by kernel_rfl) rfl (by kernel_rfl) (by kernel_rfl) (by kernel_rfl) (.inr ⟨.i64, by rw [Int.toNat_of_nonneg (by first | assumption | omega)]; kernel_rfl⟩) (.inl ⟨rfl, rfl⟩) hz49 hz50 C4_3 he48 ?_
          refine ls_val (v := .slice xA42 xl46.length xc43) rfl rfl (by kernel_rfl) (fun w => by kernel_rfl) ?_
          refine ls_end ?_
          refine qn_block ?_
          refine qn_again k3 (sput s0 0 (some (Ck.var 33 g4 ((en (Value.int .u32) t39.1.1 ++ [Value.int .u64 t39.2]))))) (Nat.le_refl _) ⟨_, xA42, xc43, xl46, t39, fr_next (fr_next (fr_next (rfl) (by kernel_rfl)) (by kernel_rfl)) (by kernel_rfl), rfl, xR44, xC45, H⟩ (sub_put (by exact rfl) (sub_nil _))
        · replace H := ite_f q23 H
          refine cs_know (c := false) (dec_f q23) 14 (by kernel_rfl) ?_
          refine cs_false (by kernel_rfl) ?_
          refine cs_exit' ?_
          refine qx_then ?_
          refine qx_then ?_
          refine qx_same ?_
          refine qn_meet (sput s0 0 (some (Ck.var 33 g4 ((en (Value.int .u32) m0_3.1.1 ++ [Value.int .u64 m0_3.2]))))) ⟨_, A4_3, c4_3, l4_3, m0_3, fr_next (fr_next (fr_next (rfl) (by kernel_rfl)) (by kernel_rfl)) (by kernel_rfl), rfl, R4_3, C4_3, H⟩ (sub_put (by exact rfl) (sub_nil _))
    · rintro f S ⟨fr2, A4_2, c4_2, l4_2, m0_2, rfl, rfl, R4_2, C4_2, H⟩
      replace H : (lt (IntKind.wrap .i64 ((l0_1.length : Int) - (l4_2.length : Int))) fun y5 => (if m0_2.2 = (IntKind.wrap .u64 y5) then (sha_State_End.f k m0_2 l4_2).bind fun t8 => (sha_Sum.f k l0_1).bind fun t11 => (if (t8.1 == t11.1) = true then (sha_Text.f k l0_1).bind fun t15 => (if (t15.size : Int) = (64 : Int) then (sha_Sum.f k ([] : List Int)).bind fun t19 => (if (0 : Int) < (32 : Int) then some (decide ((t19.1.getD ((0 : Int)).toNat (0 : Int)) = (227 : Int))) else none) else some false) else some false) else some false)) = some r := H
      refine cs_seq ?_
      refine cs_region (l := [_, _, _, _, _, _, _, _, _, _, _, _, _, _, _, _, _, _, _, _, _, _, _, _, _, _, _, _, _]) ?_
      refine ls_val (v := .pointer (some ⟨g4, (0 + 8), none⟩)) rfl rfl (by kernel_rfl) (fun w => by kernel_rfl) ?_
      refine ls_load (a0 := ⟨g4, (0 + 8), none⟩) (v := .int .u64 m0_2.2) (de := (TypeDesc.int .u64)) rfl rfl (by kernel_rfl) rfl (by kernel_rfl) (by kernel_rfl) (by kernel_rfl) (fun w hs => (hs.var (k := 0) (by exact rfl) (Sub4.trans (Sub4.all _) (Sub4.skip (n := 8) (len_en _ m0_2.1) (Sub4.all _))))) ?_
      refine ls_val (v := .slice A0_1 l0_1.length c0_1) rfl rfl (by kernel_rfl) (fun w => by kernel_rfl) ?_
      refine ls_val (v := .int .i64 (l0_1.length : Int)) rfl rfl (by kernel_rfl) (fun w => by kernel_rfl) ?_
      refine ls_val (v := .slice A4_2 l4_2.length c4_2) rfl rfl (by kernel_rfl) (fun w => by kernel_rfl) ?_
      refine ls_val (v := .int .i64 (l4_2.length : Int)) rfl rfl (by kernel_rfl) (fun w => by kernel_rfl) ?_
      obtain ⟨y5, hy6, H⟩ := lt_some H
      refine ls_val (v := .int .i64 (IntKind.wrap .i64 ((l0_1.length : Int) - (l4_2.length : Int)))) rfl rfl (by kernel_rfl) (fun w => by kernel_rfl) ?_
      refine ls_ren 29 (v := .int .i64 (IntKind.wrap .i64 ((l0_1.length : Int) - (l4_2.length : Int)))) (v' := .int .i64 y5) (by kernel_rfl) (by rw [hy6]) ?_
      refine ls_val (v := .int .u64 (IntKind.wrap .u64 y5)) rfl rfl (by kernel_rfl) (fun w => by kernel_rfl) ?_
      refine ls_val (v := .bool (decide (m0_2.2 = (IntKind.wrap .u64 y5)))) rfl rfl (by kernel_rfl) (fun w => by kernel_rfl) ?_
      refine ls_val (v := .bool (decide (m0_2.2 = (IntKind.wrap .u64 y5)))) rfl rfl (by kernel_rfl) (fun w => by kernel_rfl) ?_
      by_cases q7 : m0_2.2 = (IntKind.wrap .u64 y5)
      · replace H := ite_t q7 H
        refine ls_know (c := true) (dec_t q7) 32 (by kernel_rfl) ?_
        refine ls_on (j := 9) (t := 32) (b := true) rfl rfl (by kernel_rfl) (by kernel_rfl) ?_
        refine ls_loadagg (a := ⟨g4, 0, none⟩) (sub := (en (Value.int .u32) m0_2.1.1 ++ [Value.int .u64 m0_2.2])) rfl rfl (by kernel_rfl) rfl (by kernel_rfl) (by kernel_rfl) (by kernel_rfl) (len_app (len_en _ m0_2.1) (len1 _)) (fun w hs => (hs.vars (k := 0) (by exact rfl) (Sub4.all _))) ?_
        refine ls_on (j := 9) (t := 32) (b := true) rfl rfl (by kernel_rfl) (by kernel_rfl) ?_
        refine ls_val (v := .slice A4_2 l4_2.length c4_2) rfl rfl (by kernel_rfl) (fun w => by kernel_rfl) ?_
        refine ls_on (j := 9) (t := 32) (b := true) rfl rfl (by kernel_rfl) (by kernel_rfl) ?_
        obtain ⟨t8, hc9, H⟩ := bind_some H
        refine ls_callb (fid := 14) (vals := #[.agg ⟨(en (Value.int .u32) m0_2.1.1 ++ [Value.int .u64 m0_2.2])⟩, .slice A4_2 l4_2.length c4_2]) (X := Unit) (fun x => .agg ⟨en (Value.int .u8) t8.1⟩) (fun x => stl []) [] [] [] [] 1 rfl rfl (by kernel_rfl) (fun w => by kernel_rfl) trivial trivial (by decide) (fun w hs hb => sha_State_End.calls k m0_2 A4_2 c4_2 l4_2 t8 (lent b w [] []) hb (hs.ro R4_2 _ _) C4_2 hc9) ?_
        intro x10
        refine ls_on (j := 9) (t := 32) (b := true) rfl rfl (by kernel_rfl) (by kernel_rfl) ?_
        refine ls_val (v := .slice A0_1 l0_1.length c0_1) rfl rfl (by kernel_rfl) (fun w => by kernel_rfl) ?_
        refine ls_on (j := 9) (t := 32) (b := true) rfl rfl (by kernel_rfl) (by kernel_rfl) ?_
        obtain ⟨t11, hc12, H⟩ := bind_some H
        refine ls_callb (fid := 18) (vals := #[.slice A0_1 l0_1.length c0_1]) (X := Unit) (fun x => .agg ⟨en (Value.int .u8) t11.1⟩) (fun x => stl []) [] [] [] [] 1 rfl rfl (by kernel_rfl) (fun w => by kernel_rfl) trivial trivial (by decide) (fun w hs hb => sha_Sum.calls k A0_1 c0_1 l0_1 t11 (lent b w [] []) hb (hs.ro R0_1 _ _) C0_1 hc12) ?_
        intro x13
        refine ls_on (j := 9) (t := 32) (b := true) rfl rfl (by kernel_rfl) (by kernel_rfl) ?_
        refine ls_eql (xs := en (Value.int .u8) t8.1) (ys := en (Value.int .u8) t11.1) (r := (t8.1 == t11.1)) rfl rfl (by kernel_rfl) rfl (by kernel_rfl) (by kernel_rfl) (by kernel_rfl) (eq_ints (e := 5) (ln := 32) (by kernel_rfl) (by kernel_rfl) (by kernel_rfl) t8.2 t11.2 _) ?_
        refine ls_val (v := .bool (t8.1 == t11.1)) rfl rfl (by kernel_rfl) (fun w => by kernel_rfl) ?_
        refine ls_val (v := .bool (t8.1 == t11.1)) rfl rfl (by kernel_rfl) (fun w => by kernel_rfl) ?_
        by_cases q14 : (t8.1 == t11.1) = true
        · replace H := ite_t q14 H
          refine ls_know (c := true) (q14) 40 (by kernel_rfl) ?_
          refine ls_on (j := 17) (t := 40) (b := true) rfl rfl (by kernel_rfl) (by kernel_rfl) ?_
          refine ls_val (v := .slice A0_1 l0_1.length c0_1) rfl rfl (by kernel_rfl) (fun w => by kernel_rfl) ?_
          refine ls_on (j := 17) (t := 40) (b := true) rfl rfl (by kernel_rfl) (by kernel_rfl) ?_
          obtain ⟨t15, hc16, H⟩ := bind_some H
          refine ls_callb (fid := 20) (vals := #[.slice A0_1 l0_1.length c0_1]) (X := Unit) (fun x => .string t15) (fun x => stl []) [] [] [] [] 1 rfl rfl (by kernel_rfl) (fun w => by kernel_rfl) trivial trivial (by decide) (fun w hs hb => sha_Text.calls k A0_1 c0_1 l0_1 t15 (lent b w [] []) hb (hs.ro R0_1 _ _) C0_1 hc16) ?_
          intro x17
          refine ls_on (j := 17) (t := 40) (b := true) rfl rfl (by kernel_rfl) (by kernel_rfl) ?_
          refine ls_val (v := .int .i64 (t15.size : Int)) rfl rfl (by kernel_rfl) (fun w => by kernel_rfl) ?_
          refine ls_on (j := 17) (t := 40) (b := true) rfl rfl (by kernel_rfl) (by kernel_rfl) ?_
          refine ls_val (v := .bool (decide ((t15.size : Int) = (64 : Int)))) rfl rfl (by kernel_rfl) (fun w => by kernel_rfl) ?_
          refine ls_val (v := .bool (decide ((t15.size : Int) = (64 : Int)))) rfl rfl (by kernel_rfl) (fun w => by kernel_rfl) ?_
          refine ls_val (v := .bool (decide ((t15.size : Int) = (64 : Int)))) rfl rfl (by kernel_rfl) (fun w => by kernel_rfl) ?_
          by_cases q18 : (t15.size : Int) = (64 : Int)
          · replace H := ite_t q18 H
            refine ls_know (c := true) (dec_t q18) 46 (by kernel_rfl) ?_
            refine ls_on (j := 23) (t := 46) (b := true) rfl rfl (by kernel_rfl) (by kernel_rfl) ?_
            obtain ⟨t19, hc20, H⟩ := bind_some H
            refine ls_callb (fid := 18) (vals := #[.slice none ([] : List Int).length 0]) (X := Unit) (fun x => .agg ⟨en (Value.int .u8) t19.1⟩) (fun x => stl []) [] [] [] [] 1 rfl rfl (by kernel_rfl) (fun w => by kernel_rfl) trivial trivial (by decide) (fun w hs hb => sha_Sum.calls k none 0 ([] : List Int) t19 (lent b w [] []) hb (Ro.nil _ _) (Nat.le_refl 0) hc20) ?_
            intro x21
            refine ls_on (j := 23) (t := 46) (b := true) rfl rfl (by kernel_rfl) (by kernel_rfl) ?_
            obtain ⟨q22, H⟩ := ite_need H
            refine ls_index (l := t19.1) (E := (Value.int .u8)) (i := (0 : Int)) (kk := .i64) (ln := 32) (e := 5) rfl rfl (by kernel_rfl) t19.2 rfl (by kernel_rfl) (by kernel_rfl) (by kernel_rfl) (by kernel_rfl) (by kernel_rfl) (by decide) q22 0 ?_
            refine ls_on (j := 23) (t := 46) (b := true) rfl rfl (by kernel_rfl) (by kernel_rfl) ?_
            refine ls_val (v := .bool (decide ((t19.1.getD ((0 : Int)).toNat (0 : Int)) = (227 : Int)))) rfl rfl (by kernel_rfl) (fun w => by kernel_rfl) ?_
            refine ls_val (v := .bool (decide ((t19.1.getD ((0 : Int)).toNat (0 : Int)) = (227 : Int)))) rfl rfl (by kernel_rfl) (fun w => by kernel_rfl) ?_
            refine ls_val (v := .bool (decide ((t19.1.getD ((0 : Int)).toNat (0 : Int)) = (227 : Int)))) rfl rfl (by kernel_rfl) (fun w => by kernel_rfl) ?_
            refine ls_end ?_
            refine qn_then ?_
            refine cs_ret' ?_
            obtain rfl := Option.some.inj H
            refine qr_res (rs := [_]) rfl (fun w' hs => ⟨[.bool (decide ((t19.1.getD ((0 : Int)).toNat (0 : Int)) = (227 : Int)))], (res_tmp (by kernel_rfl) (.nil)), (), rfl, hs.pick (ts := []) (cs := []) trivial (by decide)⟩)
          · replace H := ite_f q18 H
            refine ls_know (c := false) (dec_f q18) 46 (by kernel_rfl) ?_
            refine ls_off (j := 23) (t := 46) (b := true) (c := false) rfl rfl (by kernel_rfl) (by kernel_rfl) rfl rfl (by kernel_rfl) ?_
            refine ls_off (j := 23) (t := 46) (b := true) (c := false) rfl rfl (by kernel_rfl) (by kernel_rfl) rfl rfl (by kernel_rfl) ?_
            refine ls_off (j := 23) (t := 46) (b := true) (c := false) rfl rfl (by kernel_rfl) (by kernel_rfl) rfl rfl (by kernel_rfl) ?_
            refine ls_val (v := .bool false) rfl rfl (by kernel_rfl) (fun w => by kernel_rfl) ?_
            refine ls_val (v := .bool false) rfl rfl (by kernel_rfl) (fun w => by kernel_rfl) ?_
            refine ls_end ?_
            refine qn_then ?_
            refine cs_ret' ?_
            obtain rfl := Option.some.inj H
            refine qr_res (rs := [_]) rfl (fun w' hs => ⟨[.bool false], (res_tmp (by kernel_rfl) (.nil)), (), rfl, hs.pick (ts := []) (cs := []) trivial (by decide)⟩)
        · replace H := ite_f q14 H
          refine ls_know (c := false) (Bool.eq_false_iff.mpr q14) 40 (by kernel_rfl) ?_
          refine ls_off (j := 17) (t := 40) (b := true) (c := false) rfl rfl (by kernel_rfl) (by kernel_rfl) rfl rfl (by kernel_rfl) ?_
          refine ls_off (j := 17) (t := 40) (b := true) (c := false) rfl rfl (by kernel_rfl) (by kernel_rfl) rfl rfl (by kernel_rfl) ?_
          refine ls_off (j := 17) (t := 40) (b := true) (c := false) rfl rfl (by kernel_rfl) (by kernel_rfl) rfl rfl (by kernel_rfl) ?_
          refine ls_off (j := 17) (t := 40) (b := true) (c := false) rfl rfl (by kernel_rfl) (by kernel_rfl) rfl rfl (by kernel_rfl) ?_
          refine ls_val (v := .bool false) rfl rfl (by kernel_rfl) (fun w => by kernel_rfl) ?_
          refine ls_val (v := .bool false) rfl rfl (by kernel_rfl) (fun w => by kernel_rfl) ?_
          refine ls_off (j := 23) (t := 46) (b := true) (c := false) rfl rfl (by kernel_rfl) (by kernel_rfl) rfl rfl (by kernel_rfl) ?_
          refine ls_off (j := 23) (t := 46) (b := true) (c := false) rfl rfl (by kernel_rfl) (by kernel_rfl) rfl rfl (by kernel_rfl) ?_
          refine ls_off (j := 23) (t := 46) (b := true) (c := false) rfl rfl (by kernel_rfl) (by kernel_rfl) rfl rfl (by kernel_rfl) ?_
          refine ls_val (v := .bool false) rfl rfl (by kernel_rfl) (fun w => by kernel_rfl) ?_
          refine ls_val (v := .bool false) rfl rfl (by kernel_rfl) (fun w => by kernel_rfl) ?_
          refine ls_end ?_
          refine qn_then ?_
          refine cs_ret' ?_
          obtain rfl := Option.some.inj H
          refine qr_res (rs := [_]) rfl (fun w' hs => ⟨[.bool false], (res_tmp (by kernel_rfl) (.nil)), (), rfl, hs.pick (ts := []) (cs := []) trivial (by decide)⟩)
      · replace H := ite_f q7 H
        refine ls_know (c := false) (dec_f q7) 32 (by kernel_rfl) ?_
        refine ls_off (j := 9) (t := 32) (b := true) (c := false) rfl rfl (by kernel_rfl) (by kernel_rfl) rfl rfl (by kernel_rfl) ?_
        refine ls_off (j := 9) (t := 32) (b := true) (c := false) rfl rfl (by kernel_rfl) (by kernel_rfl) rfl rfl (by kernel_rfl) ?_
        refine ls_off (j := 9) (t := 32) (b := true) (c := false) rfl rfl (by kernel_rfl) (by kernel_rfl) rfl rfl (by kernel_rfl) ?_
        refine ls_off (j := 9) (t := 32) (b := true) (c := false) rfl rfl (by kernel_rfl) (by kernel_rfl) rfl rfl (by kernel_rfl) ?_
        refine ls_off (j := 9) (t := 32) (b := true) (c := false) rfl rfl (by kernel_rfl) (by kernel_rfl) rfl rfl (by kernel_rfl) ?_
        refine ls_off (j := 9) (t := 32) (b := true) (c := false) rfl rfl (by kernel_rfl) (by kernel_rfl) rfl rfl (by kernel_rfl) ?_
        refine ls_val (v := .bool false) rfl rfl (by kernel_rfl) (fun w => by kernel_rfl) ?_
        refine ls_val (v := .bool false) rfl rfl (by kernel_rfl) (fun w => by kernel_rfl) ?_
        refine ls_off (j := 17) (t := 40) (b := true) (c := false) rfl rfl (by kernel_rfl) (by kernel_rfl) rfl rfl (by kernel_rfl) ?_
        refine ls_off (j := 17) (t := 40) (b := true) (c := false) rfl rfl (by kernel_rfl) (by kernel_rfl) rfl rfl (by kernel_rfl) ?_
        refine ls_off (j := 17) (t := 40) (b := true) (c := false) rfl rfl (by kernel_rfl) (by kernel_rfl) rfl rfl (by kernel_rfl) ?_
        refine ls_off (j := 17) (t := 40) (b := true) (c := false) rfl rfl (by kernel_rfl) (by kernel_rfl) rfl rfl (by kernel_rfl) ?_
        refine ls_val (v := .bool false) rfl rfl (by kernel_rfl) (fun w => by kernel_rfl) ?_
        refine ls_val (v := .bool false) rfl rfl (by kernel_rfl) (fun w => by kernel_rfl) ?_
        refine ls_off (j := 23) (t := 46) (b := true) (c := false) rfl rfl (by kernel_rfl) (by kernel_rfl) rfl rfl (by kernel_rfl) ?_
        refine ls_off (j := 23) (t := 46) (b := true) (c := false) rfl rfl (by kernel_rfl) (by kernel_rfl) rfl rfl (by kernel_rfl) ?_
        refine ls_off (j := 23) (t := 46) (b := true) (c := false) rfl rfl (by kernel_rfl) (by kernel_rfl) rfl rfl (by kernel_rfl) ?_
        refine ls_val (v := .bool false) rfl rfl (by kernel_rfl) (fun w => by kernel_rfl) ?_
        refine ls_val (v := .bool false) rfl rfl (by kernel_rfl) (fun w => by kernel_rfl) ?_
        refine ls_end ?_
        refine qn_then ?_
        refine cs_ret' ?_
        obtain rfl := Option.some.inj H
        refine qr_res (rs := [_]) rfl (fun w' hs => ⟨[.bool false], (res_tmp (by kernel_rfl) (.nil)), (), rfl, hs.pick (ts := []) (cs := []) trivial (by decide)⟩)

end Go.Proofs.Ytelgglnabikkcaa.G
