/- Printed by a program of this session (sz.py): plain functions, and walks that show that the code comes to them; no condition. -/
import Derived.Test.YtnjijflgafghmaaProg
import Derived.Test.YtnjijflgafghmaaTy
import Derived.Test.YtnjijflgafghmaaG0
import Derived.Test.YtnjijflgafghmaaG1
import Derived.Test.YtnjijflgafghmaaG2
import Derived.Test.YtnjijflgafghmaaG3
import Derived.Test.YtnjijflgafghmaaG4
set_option linter.unusedVariables false
set_option linter.unusedSimpArgs false
namespace Go.Proofs.Ytnjijflgafghmaa.G
open Go Go.RowKit Go.Proofs.Ytnjijflgafghmaa.Sx

/-! ### shadowbox/shadowboxlaw06.PointerChecks: function 4 -/
def shadowboxlaw06_PointerChecks.tab5 : List (List Nat) := [[], [], [], [2], [], [1, 2, 3, 4], [0, 1, 2, 3, 4, 5], [0, 1, 2, 3, 4, 5, 6], [0, 1, 2, 3, 4, 5, 6, 7], [0, 1, 2, 3, 4, 5, 6, 7], [0, 1, 2, 3, 4, 5, 6, 7, 8, 9], [0, 1, 2, 3, 4, 5, 6, 7], [0, 1, 2, 3, 4, 5, 6, 7], [0, 1, 2, 3, 4, 5, 6, 7, 8, 9, 10, 11, 12], [0, 1, 2, 3, 4, 5, 6, 7, 8, 9, 10, 11, 12, 13], [0, 1, 2, 3, 4, 5, 6, 7, 8, 9, 10, 11, 12, 13, 14], [0, 1, 2, 3, 4, 5, 6, 7, 8, 9, 10, 11, 12, 13, 14, 15], [0, 1, 2, 3, 4, 5, 6, 7, 8, 9, 10, 11, 12, 13, 14, 15, 16], [0, 1, 2, 3, 4, 5, 6, 7, 8, 9, 10, 11, 12, 13, 14, 15, 16], [0, 1, 2, 3, 4, 5, 6, 7, 8, 9, 10, 11, 12, 13, 14, 15, 16, 17, 18], [0, 1, 2, 3, 4, 5, 6, 7, 8, 9, 10, 11, 12, 13, 14, 15, 16], [0, 1, 2, 3, 4, 5, 6, 7, 8, 9, 10, 11, 12, 13, 14, 15, 16], [0, 1, 2, 3, 4, 5, 6, 7, 8, 9, 10, 11, 12, 13, 14, 15, 16, 17, 18, 19, 20, 21], [0, 1, 2, 3, 4, 5, 6, 7, 8, 9, 10, 11, 12, 13, 14, 15, 16, 17, 18, 19, 20, 21, 22], [0, 1, 2, 3, 4, 5, 6, 7, 8, 9, 10, 11, 12, 13, 14, 15, 16, 17, 18, 19, 20, 21, 22, 23], [0, 1, 2, 3, 4, 5, 6, 7, 8, 9, 10, 11, 12, 13, 14, 15, 16, 17, 18, 19, 20, 21, 22, 23, 24], [0, 1, 2, 3, 4, 5, 6, 7, 8, 9, 10, 11, 12, 13, 14, 15, 16, 17, 18, 19, 20, 21, 22, 23, 24, 25], [0, 1, 2, 3, 4, 5, 6, 7, 8, 9, 10, 11, 12, 13, 14, 15, 16, 17, 18, 19, 20, 21, 22, 23, 24, 25, 26]]
def shadowboxlaw06_PointerChecks.jo1 (k : Nat) (a0 : (Int × Int × Int × Int × (Vc Int 32))) (a1 : Int) (l2_1 : List Int) : Option (Bool) := (pointer_Of.f k a1 a0.2.1 l2_1).bind fun t2 => (shadowboxref06_Of.f k a1 a0.2.1 l2_1).bind fun t8 => (if ((t2.1 == t8.1) && ((t2.2.1 == t8.2.1) && ((t2.2.2.1 == t8.2.2.1) && ((t2.2.2.2.1 == t8.2.2.2.1) && (t2.2.2.2.2.1 == t8.2.2.2.2.1))))) = true then (pointer_Check.f k a0 l2_1).bind fun t12 => (shadowboxref06_Check.f k a0 l2_1).bind fun t15 => (if t12 = t15 then (pointer_Check.f k t2 l2_1).bind fun t19 => (shadowboxref06_Check.f k t2 l2_1).bind fun t22 => (if t19 = t22 then some true else some false) else some false) else some false)
def shadowboxlaw06_PointerChecks.f (k : Nat) (a0 : (Int × Int × Int × Int × (Vc Int 32))) (a1 : Int) (l2 : List Int) : Option (Bool) :=
  (if (l2.length : Int) > (1000 : Int) then (if (1000 : Int) ≤ (l2.length : Int) then lt (l2.take ((1000 : Int)).toNat) fun xl32 => (shadowboxlaw06_PointerChecks.jo1 k a0 a1) xl32 else none) else (shadowboxlaw06_PointerChecks.jo1 k a0 a1) l2)
set_option maxRecDepth 100000 in
set_option maxHeartbeats 4000000 in
theorem shadowboxlaw06_PointerChecks.calls (k : Nat) (a0 : (Int × Int × Int × Int × (Vc Int 32))) (a1 : Int) (A2 : Option Addr) (c2 : Nat) (l2 : List Int) (r : Bool) (b : Bs) (hs0 : St b (stl []) b.w) (R2 : Ro b A2 (em (Ec.int 5 .u8) l2)) (C2 : l2.length ≤ c2) (H : shadowboxlaw06_PointerChecks.f k a0 a1 l2 = some r) :
    Calls Try.prog 4 #[.agg ⟨([Value.int .i64 a0.1] ++ ([Value.int .i64 a0.2.1] ++ ([Value.int .i64 a0.2.2.1] ++ ([Value.int .u32 a0.2.2.2.1] ++ en (Value.int .u8) a0.2.2.2.2.1))))⟩, .int .i64 a1, .slice A2 l2.length c2] b.w fun e w' => ∃ x : Unit, e = .returned (.bool r) ∧ St b (stl []) w' := by
  unfold shadowboxlaw06_PointerChecks.f at H
  refine enterb (n := 45) Try.func4 rfl (by kernel_rfl) (by kernel_rfl) hs0 ?_
  refine cs_sub (s0) (sub_nil _) ?_
  refine cs_seq ?_
  refine cs_region (l := [_, _]) ?_
  refine ls_new rfl rfl (by kernel_rfl) 0 (fun g => .pointer (some ⟨g, 0, none⟩)) (.cells ⟨([Value.int .i64 a0.1] ++ ([Value.int .i64 a0.2.1] ++ ([Value.int .i64 a0.2.2.1] ++ ([Value.int .u32 a0.2.2.2.1] ++ en (Value.int .u8) a0.2.2.2.2.1))))⟩ 25) (fun w => by kernel_rfl) ?_
  intro g1
  refine ls_val (v := .bool false) rfl rfl (by kernel_rfl) (fun w => by kernel_rfl) ?_
  refine ls_end ?_
  refine qn_then ?_
  refine cs_cut (fun f S => ∃ (fR : Fr) (A2_1 : Option Addr) (c2_1 : Nat) (l2_1 : List Int), f = upd (upd (upd fR 1 (.int .i64 a1)) 2 (.slice A2_1 l2_1.length c2_1)) 3 (.pointer (some ⟨g1, 0, none⟩)) ∧ S = sput s0 0 (some (Ck.var 25 g1 (([Value.int .i64 a0.1] ++ ([Value.int .i64 a0.2.1] ++ ([Value.int .i64 a0.2.2.1] ++ ([Value.int .u32 a0.2.2.2.1] ++ en (Value.int .u8) a0.2.2.2.2.1))))))) ∧ Ro b A2_1 (em (Ec.int 5 .u8) l2_1) ∧ l2_1.length ≤ c2_1 ∧ shadowboxlaw06_PointerChecks.jo1 k a0 a1 l2_1 = some r) ?_ ?_
  · skip
    refine cs_seq ?_
    refine cs_region (l := [_, _, _]) ?_
    refine ls_val (v := .slice A2 l2.length c2) rfl rfl (by kernel_rfl) (fun w => by kernel_rfl) ?_
    refine ls_val (v := .int .i64 (l2.length : Int)) rfl rfl (by kernel_rfl) (fun w => by kernel_rfl) ?_
    refine ls_val (v := .bool (decide ((l2.length : Int) > (1000 : Int)))) rfl rfl (by kernel_rfl) (fun w => by kernel_rfl) ?_
    refine ls_end ?_
    refine qn_then ?_
    by_cases q26 : (l2.length : Int) > (1000 : Int)
    · replace H := ite_t q26 H
      refine cs_know (c := true) (dec_t q26) 10 (by kernel_rfl) ?_
      refine cs_true (by kernel_rfl) ?_
      refine cs_region (l := [_, _, _]) ?_
      refine ls_val (v := .slice A2 l2.length c2) rfl rfl (by kernel_rfl) (fun w => by kernel_rfl) ?_
      obtain ⟨q27, H⟩ := ite_need H
      obtain ⟨xl32, hy33, H⟩ := lt_some H
      have hz35 : 0 ≤ ((1000 : Int)).toNat := by omega
      have hz36 : ((1000 : Int)).toNat ≤ l2.length := by omega
      obtain ⟨xA28, xc29, he34, xC31, xR30⟩ := cut_at (A := A2) (c := c2) (l := l2) (Ec.int 5 .u8) 0 (((1000 : Int)).toNat) hz35 hz36 C2 R2 (m := xl32) (by rw [← hy33] <;> simp) (z := 1) rfl
      refine ls_cutv (A := A2) (c := c2) (m := l2.length) (z := 1) (e := 5) (a := 0) (b := ((1000 : Int)).toNat) rfl rfl (by kernel_rfl) rfl (by kernel_rfl) (by kernel_rfl) (by kernel_rfl) (.inl ⟨rfl, rfl⟩) (.inr ⟨.i64, by rw [Int.toNat_of_nonneg (by first | assumption | omega)]; kernel_rfl⟩) hz35 hz36 C2 he34 ?_
      refine ls_val (v := .slice xA28 xl32.length xc29) rfl rfl (by kernel_rfl) (fun w => by kernel_rfl) ?_
      refine ls_end ?_
      refine qn_meet (sput s0 0 (some (Ck.var 25 g1 (([Value.int .i64 a0.1] ++ ([Value.int .i64 a0.2.1] ++ ([Value.int .i64 a0.2.2.1] ++ ([Value.int .u32 a0.2.2.2.1] ++ en (Value.int .u8) a0.2.2.2.2.1)))))))) ⟨_, xA28, xc29, xl32, fr_next (fr_next (fr_next (rfl) (by kernel_rfl)) (by kernel_rfl)) (by kernel_rfl), rfl, xR30, xC31, H⟩ (sub_put (by exact rfl) (sub_nil _))
    · replace H := ite_f q26 H
      refine cs_know (c := false) (dec_f q26) 10 (by kernel_rfl) ?_
      refine cs_false (by kernel_rfl) ?_
      refine cs_skip' ?_
      refine qn_meet (sput s0 0 (some (Ck.var 25 g1 (([Value.int .i64 a0.1] ++ ([Value.int .i64 a0.2.1] ++ ([Value.int .i64 a0.2.2.1] ++ ([Value.int .u32 a0.2.2.2.1] ++ en (Value.int .u8) a0.2.2.2.2.1)))))))) ⟨_, A2, c2, l2, fr_next (fr_next (fr_next (rfl) (by kernel_rfl)) (by kernel_rfl)) (by kernel_rfl), rfl, R2, C2, H⟩ (sub_put (by exact rfl) (sub_nil _))
  · rintro f S ⟨fr1, A2_1, c2_1, l2_1, rfl, rfl, R2_1, C2_1, H⟩
    replace H : ((pointer_Of.f k a1 a0.2.1 l2_1).bind fun t2 => (shadowboxref06_Of.f k a1 a0.2.1 l2_1).bind fun t8 => (if ((t2.1 == t8.1) && ((t2.2.1 == t8.2.1) && ((t2.2.2.1 == t8.2.2.1) && ((t2.2.2.2.1 == t8.2.2.2.1) && (t2.2.2.2.2.1 == t8.2.2.2.2.1))))) = true then (pointer_Check.f k a0 l2_1).bind fun t12 => (shadowboxref06_Check.f k a0 l2_1).bind fun t15 => (if t12 = t15 then (pointer_Check.f k t2 l2_1).bind fun t19 => (shadowboxref06_Check.f k t2 l2_1).bind fun t22 => (if t19 = t22 then some true else some false) else some false) else some false)) = some r := H
    refine cs_seq ?_
    refine cs_region (l := [_, _, _, _, _, _, _]) ?_
    refine ls_val (v := .int .i64 a1) rfl rfl (by kernel_rfl) (fun w => by kernel_rfl) ?_
    refine ls_val (v := .pointer (some ⟨g1, (0 + 1), none⟩)) rfl rfl (by kernel_rfl) (fun w => by kernel_rfl) ?_
    refine ls_load (a0 := ⟨g1, (0 + 1), none⟩) (v := .int .i64 a0.2.1) (de := (TypeDesc.int .i64)) rfl rfl (by kernel_rfl) rfl (by kernel_rfl) (by kernel_rfl) (by kernel_rfl) (fun w hs => (hs.var (k := 0) (by exact rfl) (Sub4.trans (Sub4.all _) (Sub4.skip (n := 1) (len1 _) (Sub4.head _ _))))) ?_
    refine ls_val (v := .slice A2_1 l2_1.length c2_1) rfl rfl (by kernel_rfl) (fun w => by kernel_rfl) ?_
    obtain ⟨t2, hc3, H⟩ := bind_some H
    refine ls_callb (fid := 20) (vals := #[.int .i64 a1, .int .i64 a0.2.1, .slice A2_1 l2_1.length c2_1]) (X := Unit) (fun x => .agg ⟨([Value.int .i64 t2.1] ++ ([Value.int .i64 t2.2.1] ++ ([Value.int .i64 t2.2.2.1] ++ ([Value.int .u32 t2.2.2.2.1] ++ en (Value.int .u8) t2.2.2.2.2.1))))⟩) (fun x => stl []) [] [] [] [] 1 rfl rfl (by kernel_rfl) (fun w => by kernel_rfl) trivial trivial (by decide) (fun w hs hb => pointer_Of.calls k a1 a0.2.1 A2_1 c2_1 l2_1 t2 (lent b w [] []) hb (hs.ro R2_1 _ _) C2_1 hc3) ?_
    intro x4
    refine ls_new rfl rfl (by kernel_rfl) 1 (fun g => .pointer (some ⟨g, 0, none⟩)) (.cells ⟨([Value.int .i64 (0 : Int)] ++ ([Value.int .i64 (0 : Int)] ++ ([Value.int .i64 (0 : Int)] ++ ([Value.int .u32 (0 : Int)] ++ en (Value.int .u8) (vrep 32 (0 : Int)).1))))⟩ 25) (fun w => by kernel_rfl) ?_
    intro g5
    refine ls_storec (g := g5) (off := 0) (v := .agg ⟨([Value.int .i64 t2.1] ++ ([Value.int .i64 t2.2.1] ++ ([Value.int .i64 t2.2.2.1] ++ ([Value.int .u32 t2.2.2.2.1] ++ en (Value.int .u8) t2.2.2.2.2.1))))⟩) (vs := ([Value.int .i64 t2.1] ++ ([Value.int .i64 t2.2.1] ++ ([Value.int .i64 t2.2.2.1] ++ ([Value.int .u32 t2.2.2.2.1] ++ en (Value.int .u8) t2.2.2.2.2.1))))) (cs := ([Value.int .i64 (0 : Int)] ++ ([Value.int .i64 (0 : Int)] ++ ([Value.int .i64 (0 : Int)] ++ ([Value.int .u32 (0 : Int)] ++ en (Value.int .u8) (vrep 32 (0 : Int)).1))))) (ty := 25) 1 rfl rfl rfl (by kernel_rfl) (by kernel_rfl) (by kernel_rfl) (by exact rfl) (by kernel_rfl) (len_app (len1 _) (len_app (len1 _) (len_app (len1 _) (len_app (len1 _) (len_en _ t2.2.2.2.2))))) (one_app (one_cons rfl one_nil) (one_app (one_cons rfl one_nil) (one_app (one_cons rfl one_nil) (one_app (one_cons rfl one_nil) (one_en (fun _ => rfl) _))))) (hl_of (Sub4.all _) (len_eq (len_app (len1 _) (len_app (len1 _) (len_app (len1 _) (len_app (len1 _) (len_en _ t2.2.2.2.2))))) (len_app (len1 _) (len_app (len1 _) (len_app (len1 _) (len_app (len1 _) (len_en _ (vrep 32 (0 : Int))))))))) (cs' := ([Value.int .i64 t2.1] ++ ([Value.int .i64 t2.2.1] ++ ([Value.int .i64 t2.2.2.1] ++ ([Value.int .u32 t2.2.2.2.1] ++ en (Value.int .u8) t2.2.2.2.2.1))))) (splc_all (len_eq (len_app (len1 _) (len_app (len1 _) (len_app (len1 _) (len_app (len1 _) (len_en _ t2.2.2.2.2))))) (len_app (len1 _) (len_app (len1 _) (len_app (len1 _) (len_app (len1 _) (len_en _ (vrep 32 (0 : Int))))))))) ?_
    refine ls_end ?_
    refine qn_then ?_
    refine cs_seq ?_
    obtain ⟨s7_0, hs7_0⟩ : ∃ z : Value → Sto → Prop, z = (fun v R => v = .agg ⟨([Value.int .i64 t2.1] ++ ([Value.int .i64 t2.2.1] ++ ([Value.int .i64 t2.2.2.1] ++ ([Value.int .u32 t2.2.2.2.1] ++ en (Value.int .u8) t2.2.2.2.2.1))))⟩ ∧ R = s0) := ⟨_, rfl⟩
    refine have_op (l := [_, _, _, _, _, _, _, _, _, _, _, _, _, _, _, _, _, _, _, _, _, _, _, _, _, _, _, _]) shadowboxlaw06_PointerChecks.tab5 2 0 (fun sp => sp 0 = s7_0) (fun sp on hA hon => ?_) (fun ops7_0 => ?_)
    · refine ⟨fun o ho vs Rs f' S' w hp hf hx hS hR hs => ?_⟩
      obtain rfl := Option.some.inj ho
      rw [hA, hs7_0]
      refine And.intro (fun a ha => (want_none rfl a ha).trans hon.symm) (And.intro (fun _ => ?_) (fun h => by rw [hon] at h; cases h))
      have hF := fr_next (rfl) ((hx 7 (by kernel_rfl)).trans (by kernel_rfl : (_ : Value) = .pointer (some ⟨g5, 0, none⟩)))
      refine ls_fr hF ?_
      refine ls_loadagg (a := ⟨g5, 0, none⟩) (sub := ([Value.int .i64 t2.1] ++ ([Value.int .i64 t2.2.1] ++ ([Value.int .i64 t2.2.2.1] ++ ([Value.int .u32 t2.2.2.2.1] ++ en (Value.int .u8) t2.2.2.2.2.1))))) rfl rfl (by kernel_rfl) rfl (by kernel_rfl) (by kernel_rfl) (by kernel_rfl) (len_app (len1 _) (len_app (len1 _) (len_app (len1 _) (len_app (len1 _) (len_en _ t2.2.2.2.2))))) (fun w1 hs1 => Rd.step (hs.vars (k := 1) ((hS 1 (by kernel_rfl)).trans (by exact rfl)) (Sub4.all _)) hs1.below.bw) ?_
      exact ls_fin s0 (.agg ⟨([Value.int .i64 t2.1] ++ ([Value.int .i64 t2.2.1] ++ ([Value.int .i64 t2.2.2.1] ++ ([Value.int .u32 t2.2.2.2.1] ++ en (Value.int .u8) t2.2.2.2.2.1))))⟩) (congrArg (fun z => upd z 18 _) hF.symm) ⟨rfl, rfl⟩ (sub_nil _)
    obtain ⟨s7_1, hs7_1⟩ : ∃ z : Value → Sto → Prop, z = (fun v R => v = .int .i64 a1 ∧ R = s0) := ⟨_, rfl⟩
    refine have_op (l := [_, _, _, _, _, _, _, _, _, _, _, _, _, _, _, _, _, _, _, _, _, _, _, _, _, _, _, _]) shadowboxlaw06_PointerChecks.tab5 2 1 (fun sp => sp 1 = s7_1) (fun sp on hA hon => ?_) (fun ops7_1 => ?_)
    · refine ⟨fun o ho vs Rs f' S' w hp hf hx hS hR hs => ?_⟩
      obtain rfl := Option.some.inj ho
      rw [hA, hs7_1]
      refine And.intro (fun a ha => (want_none rfl a ha).trans hon.symm) (And.intro (fun _ => ?_) (fun h => by rw [hon] at h; cases h))
      have hF := fr_next (rfl) ((hx 1 (by kernel_rfl)).trans (by kernel_rfl : (_ : Value) = .int .i64 a1))
      refine ls_fr hF ?_
      refine ls_val (v := .int .i64 a1) rfl rfl (by kernel_rfl) (fun w => by kernel_rfl) ?_
      exact ls_fin s0 (.int .i64 a1) (congrArg (fun z => upd z 19 _) hF.symm) ⟨rfl, rfl⟩ (sub_nil _)
    obtain ⟨s7_2, hs7_2⟩ : ∃ z : Value → Sto → Prop, z = (fun v R => v = .pointer (some ⟨g1, (0 + 1), none⟩) ∧ R = s0) := ⟨_, rfl⟩
    refine have_op (l := [_, _, _, _, _, _, _, _, _, _, _, _, _, _, _, _, _, _, _, _, _, _, _, _, _, _, _, _]) shadowboxlaw06_PointerChecks.tab5 2 2 (fun sp => sp 2 = s7_2) (fun sp on hA hon => ?_) (fun ops7_2 => ?_)
    · refine ⟨fun o ho vs Rs f' S' w hp hf hx hS hR hs => ?_⟩
      obtain rfl := Option.some.inj ho
      rw [hA, hs7_2]
      refine And.intro (fun a ha => (want_none rfl a ha).trans hon.symm) (And.intro (fun _ => ?_) (fun h => by rw [hon] at h; cases h))
      have hF := fr_next (rfl) ((hx 3 (by kernel_rfl)).trans (by kernel_rfl : (_ : Value) = .pointer (some ⟨g1, 0, none⟩)))
      refine ls_fr hF ?_
      refine ls_val (v := .pointer (some ⟨g1, (0 + 1), none⟩)) rfl rfl (by kernel_rfl) (fun w => by kernel_rfl) ?_
      exact ls_fin s0 (.pointer (some ⟨g1, (0 + 1), none⟩)) (congrArg (fun z => upd z 20 _) hF.symm) ⟨rfl, rfl⟩ (sub_nil _)
    obtain ⟨s7_3, hs7_3⟩ : ∃ z : Value → Sto → Prop, z = (fun v R => v = .int .i64 a0.2.1 ∧ R = s0) := ⟨_, rfl⟩
    refine have_op (l := [_, _, _, _, _, _, _, _, _, _, _, _, _, _, _, _, _, _, _, _, _, _, _, _, _, _, _, _]) shadowboxlaw06_PointerChecks.tab5 2 3 (fun sp => sp 3 = s7_3 ∧ sp 2 = s7_2) (fun sp on hA hon => ?_) (fun ops7_3 => ?_)
    · refine ⟨fun o ho vs Rs f' S' w hp hf hx hS hR hs => ?_⟩
      obtain rfl := Option.some.inj ho
      obtain ⟨hv2, hR2⟩ := (spe hA.2 hs7_2 (hp 2 (by kernel_rfl)))
      rw [hA.1, hs7_3]
      refine And.intro (fun a ha => (want_none rfl a ha).trans hon.symm) (And.intro (fun _ => ?_) (fun h => by rw [hon] at h; cases h))
      have hF := fr_next (rfl) ((hf 2 20 (by kernel_rfl) rfl).trans hv2)
      refine ls_fr hF ?_
      refine ls_load (a0 := ⟨g1, (0 + 1), none⟩) (v := .int .i64 a0.2.1) (de := (TypeDesc.int .i64)) rfl rfl (by kernel_rfl) rfl (by kernel_rfl) (by kernel_rfl) (by kernel_rfl) (fun w1 hs1 => cell_step hs1.below.bw (hs.var (k := 0) ((hS 0 (by kernel_rfl)).trans (by exact rfl)) (Sub4.trans (Sub4.all _) (Sub4.skip (n := 1) (len1 _) (Sub4.head _ _))))) ?_
      exact ls_fin s0 (.int .i64 a0.2.1) (congrArg (fun z => upd z 21 _) hF.symm) ⟨rfl, rfl⟩ (sub_nil _)
    obtain ⟨s7_4, hs7_4⟩ : ∃ z : Value → Sto → Prop, z = (fun v R => v = .slice A2_1 l2_1.length c2_1 ∧ R = s0) := ⟨_, rfl⟩
    refine have_op (l := [_, _, _, _, _, _, _, _, _, _, _, _, _, _, _, _, _, _, _, _, _, _, _, _, _, _, _, _]) shadowboxlaw06_PointerChecks.tab5 2 4 (fun sp => sp 4 = s7_4) (fun sp on hA hon => ?_) (fun ops7_4 => ?_)
    · refine ⟨fun o ho vs Rs f' S' w hp hf hx hS hR hs => ?_⟩
      obtain rfl := Option.some.inj ho
      rw [hA, hs7_4]
      refine And.intro (fun a ha => (want_none rfl a ha).trans hon.symm) (And.intro (fun _ => ?_) (fun h => by rw [hon] at h; cases h))
      have hF := fr_next (rfl) ((hx 2 (by kernel_rfl)).trans (by kernel_rfl : (_ : Value) = .slice A2_1 l2_1.length c2_1))
      refine ls_fr hF ?_
      refine ls_val (v := .slice A2_1 l2_1.length c2_1) rfl rfl (by kernel_rfl) (fun w => by kernel_rfl) ?_
      exact ls_fin s0 (.slice A2_1 l2_1.length c2_1) (congrArg (fun z => upd z 22 _) hF.symm) ⟨rfl, rfl⟩ (sub_nil _)
    obtain ⟨t8, hc9, H⟩ := bind_some H
    obtain ⟨s7_5, hs7_5⟩ : ∃ z : Value → Sto → Prop, z = (fun v R => ∃ x10 : Unit, v = .agg ⟨([Value.int .i64 t8.1] ++ ([Value.int .i64 t8.2.1] ++ ([Value.int .i64 t8.2.2.1] ++ ([Value.int .u32 t8.2.2.2.1] ++ en (Value.int .u8) t8.2.2.2.2.1))))⟩ ∧ R = stl []) := ⟨_, rfl⟩
    refine have_op (l := [_, _, _, _, _, _, _, _, _, _, _, _, _, _, _, _, _, _, _, _, _, _, _, _, _, _, _, _]) shadowboxlaw06_PointerChecks.tab5 2 5 (fun sp => sp 5 = s7_5 ∧ sp 1 = s7_1 ∧ sp 3 = s7_3 ∧ sp 4 = s7_4) (fun sp on hA hon => ?_) (fun ops7_5 => ?_)
    · refine ⟨fun o ho vs Rs f' S' w hp hf hx hS hR hs => ?_⟩
      obtain rfl := Option.some.inj ho
      obtain ⟨hv1, hR1⟩ := (spe hA.2.1 hs7_1 (hp 1 (by kernel_rfl)))
      obtain ⟨hv3, hR3⟩ := (spe hA.2.2.1 hs7_3 (hp 3 (by kernel_rfl)))
      obtain ⟨hv4, hR4⟩ := (spe hA.2.2.2 hs7_4 (hp 4 (by kernel_rfl)))
      rw [hA.1, hs7_5]
      refine And.intro (fun a ha => (want_none rfl a ha).trans hon.symm) (And.intro (fun _ => ?_) (fun h => by rw [hon] at h; cases h))
      have hF := fr_next (fr_next (fr_next (rfl) ((hf 1 19 (by kernel_rfl) rfl).trans hv1)) ((hf 3 21 (by kernel_rfl) rfl).trans hv3)) ((hf 4 22 (by kernel_rfl) rfl).trans hv4)
      refine ls_fr hF ?_
      refine ls_call (fid := 21) (vals := #[.int .i64 a1, .int .i64 a0.2.1, .slice A2_1 l2_1.length c2_1]) (X := Unit) (fun x => .agg ⟨([Value.int .i64 t8.1] ++ ([Value.int .i64 t8.2.1] ++ ([Value.int .i64 t8.2.2.1] ++ ([Value.int .u32 t8.2.2.2.1] ++ en (Value.int .u8) t8.2.2.2.2.1))))⟩) (fun x => stl []) 0 rfl rfl (by kernel_rfl) (fun w => by kernel_rfl) (fun w1 hs1 => shadowboxref06_Of.calls k a1 a0.2.1 A2_1 c2_1 l2_1 t8 (bw w1) (St.refl w1) (Rd.ro (Rd.step (hs.old R2_1) hs1.below.bw)) C2_1 hc9) ?_
      intro x10
      exact ls_fin (stl []) (.agg ⟨([Value.int .i64 t8.1] ++ ([Value.int .i64 t8.2.1] ++ ([Value.int .i64 t8.2.2.1] ++ ([Value.int .u32 t8.2.2.2.1] ++ en (Value.int .u8) t8.2.2.2.2.1))))⟩) (congrArg (fun z => upd z 23 _) hF.symm) ⟨x10, rfl, rfl⟩ (sub_join _)
    obtain ⟨s7_6, hs7_6⟩ : ∃ z : Value → Sto → Prop, z = (fun v R => v = .bool ((t2.1 == t8.1) && ((t2.2.1 == t8.2.1) && ((t2.2.2.1 == t8.2.2.1) && ((t2.2.2.2.1 == t8.2.2.2.1) && (t2.2.2.2.2.1 == t8.2.2.2.2.1))))) ∧ R = s0) := ⟨_, rfl⟩
    refine have_op (l := [_, _, _, _, _, _, _, _, _, _, _, _, _, _, _, _, _, _, _, _, _, _, _, _, _, _, _, _]) shadowboxlaw06_PointerChecks.tab5 2 6 (fun sp => sp 6 = s7_6 ∧ sp 0 = s7_0 ∧ sp 5 = s7_5) (fun sp on hA hon => ?_) (fun ops7_6 => ?_)
    · refine ⟨fun o ho vs Rs f' S' w hp hf hx hS hR hs => ?_⟩
      obtain rfl := Option.some.inj ho
      obtain ⟨hv0, hR0⟩ := (spe hA.2.1 hs7_0 (hp 0 (by kernel_rfl)))
      obtain ⟨x10, hv5, hR5⟩ := (spe hA.2.2 hs7_5 (hp 5 (by kernel_rfl)))
      rw [hA.1, hs7_6]
      refine And.intro (fun a ha => (want_none rfl a ha).trans hon.symm) (And.intro (fun _ => ?_) (fun h => by rw [hon] at h; cases h))
      have hF := fr_next (fr_next (rfl) ((hf 0 18 (by kernel_rfl) rfl).trans hv0)) ((hf 5 23 (by kernel_rfl) rfl).trans hv5)
      refine ls_fr hF ?_
      refine ls_eql (xs := ([Value.int .i64 t2.1] ++ ([Value.int .i64 t2.2.1] ++ ([Value.int .i64 t2.2.2.1] ++ ([Value.int .u32 t2.2.2.2.1] ++ en (Value.int .u8) t2.2.2.2.2.1))))) (ys := ([Value.int .i64 t8.1] ++ ([Value.int .i64 t8.2.1] ++ ([Value.int .i64 t8.2.2.1] ++ ([Value.int .u32 t8.2.2.2.1] ++ en (Value.int .u8) t8.2.2.2.2.1))))) (r := ((t2.1 == t8.1) && ((t2.2.1 == t8.2.1) && ((t2.2.2.1 == t8.2.2.1) && ((t2.2.2.2.1 == t8.2.2.2.1) && (t2.2.2.2.2.1 == t8.2.2.2.2.1)))))) rfl rfl (by kernel_rfl) rfl (by kernel_rfl) (by kernel_rfl) (by kernel_rfl) (eq_st (by kernel_rfl) (by kernel_rfl) (eqf_cons (ft := 3) (fo := 0) (by kernel_rfl) (part_one (by kernel_rfl) (Sub4.trans (Sub4.all _) (Sub4.head _ _))) (part_one (by kernel_rfl) (Sub4.trans (Sub4.all _) (Sub4.head _ _))) (eq_int (by kernel_rfl) _ _ _) (eqf_cons (ft := 3) (fo := 1) (by kernel_rfl) (part_one (by kernel_rfl) (Sub4.trans (Sub4.all _) (Sub4.skip (n := 1) (len1 _) (Sub4.head _ _)))) (part_one (by kernel_rfl) (Sub4.trans (Sub4.all _) (Sub4.skip (n := 1) (len1 _) (Sub4.head _ _)))) (eq_int (by kernel_rfl) _ _ _) (eqf_cons (ft := 3) (fo := 2) (by kernel_rfl) (part_one (by kernel_rfl) (Sub4.trans (Sub4.all _) (Sub4.skip (n := 1) (len1 _) (Sub4.skip (n := 1) (len1 _) (Sub4.head _ _))))) (part_one (by kernel_rfl) (Sub4.trans (Sub4.all _) (Sub4.skip (n := 1) (len1 _) (Sub4.skip (n := 1) (len1 _) (Sub4.head _ _))))) (eq_int (by kernel_rfl) _ _ _) (eqf_cons (ft := 22) (fo := 3) (by kernel_rfl) (part_one (by kernel_rfl) (Sub4.trans (Sub4.all _) (Sub4.skip (n := 1) (len1 _) (Sub4.skip (n := 1) (len1 _) (Sub4.skip (n := 1) (len1 _) (Sub4.head _ _)))))) (part_one (by kernel_rfl) (Sub4.trans (Sub4.all _) (Sub4.skip (n := 1) (len1 _) (Sub4.skip (n := 1) (len1 _) (Sub4.skip (n := 1) (len1 _) (Sub4.head _ _)))))) (eq_int (by kernel_rfl) _ _ _) (eqf_last (ft := 23) (fo := 4) (by kernel_rfl) (part_agg (by kernel_rfl) (by kernel_rfl) (len_en _ t2.2.2.2.2) (Sub4.trans (Sub4.all _) (Sub4.skip (n := 1) (len1 _) (Sub4.skip (n := 1) (len1 _) (Sub4.skip (n := 1) (len1 _) (Sub4.skip (n := 1) (len1 _) (Sub4.all _))))))) (part_agg (by kernel_rfl) (by kernel_rfl) (len_en _ t8.2.2.2.2) (Sub4.trans (Sub4.all _) (Sub4.skip (n := 1) (len1 _) (Sub4.skip (n := 1) (len1 _) (Sub4.skip (n := 1) (len1 _) (Sub4.skip (n := 1) (len1 _) (Sub4.all _))))))) (eq_ints (e := 5) (ln := 32) (by kernel_rfl) (by kernel_rfl) (by kernel_rfl) t2.2.2.2.2.2 t8.2.2.2.2.2 _) (by kernel_rfl))))))) ?_
      exact ls_fin s0 (.bool ((t2.1 == t8.1) && ((t2.2.1 == t8.2.1) && ((t2.2.2.1 == t8.2.2.1) && ((t2.2.2.2.1 == t8.2.2.2.1) && (t2.2.2.2.2.1 == t8.2.2.2.2.1)))))) (congrArg (fun z => upd z 24 _) hF.symm) ⟨rfl, rfl⟩ (sub_nil _)
    obtain ⟨s7_7, hs7_7⟩ : ∃ z : Value → Sto → Prop, z = (fun v R => v = .bool ((t2.1 == t8.1) && ((t2.2.1 == t8.2.1) && ((t2.2.2.1 == t8.2.2.1) && ((t2.2.2.2.1 == t8.2.2.2.1) && (t2.2.2.2.2.1 == t8.2.2.2.2.1))))) ∧ R = s0) := ⟨_, rfl⟩
    refine have_op (l := [_, _, _, _, _, _, _, _, _, _, _, _, _, _, _, _, _, _, _, _, _, _, _, _, _, _, _, _]) shadowboxlaw06_PointerChecks.tab5 2 7 (fun sp => sp 7 = s7_7 ∧ sp 6 = s7_6) (fun sp on hA hon => ?_) (fun ops7_7 => ?_)
    · refine ⟨fun o ho vs Rs f' S' w hp hf hx hS hR hs => ?_⟩
      obtain rfl := Option.some.inj ho
      obtain ⟨hv6, hR6⟩ := (spe hA.2 hs7_6 (hp 6 (by kernel_rfl)))
      rw [hA.1, hs7_7]
      refine And.intro (fun a ha => (want_none rfl a ha).trans hon.symm) (And.intro (fun _ => ?_) (fun h => by rw [hon] at h; cases h))
      have hF := fr_next (rfl) ((hf 6 24 (by kernel_rfl) rfl).trans hv6)
      refine ls_fr hF ?_
      refine ls_val (v := .bool ((t2.1 == t8.1) && ((t2.2.1 == t8.2.1) && ((t2.2.2.1 == t8.2.2.1) && ((t2.2.2.2.1 == t8.2.2.2.1) && (t2.2.2.2.2.1 == t8.2.2.2.2.1)))))) rfl rfl (by kernel_rfl) (fun w => by kernel_rfl) ?_
      exact ls_fin s0 (.bool ((t2.1 == t8.1) && ((t2.2.1 == t8.2.1) && ((t2.2.2.1 == t8.2.2.1) && ((t2.2.2.2.1 == t8.2.2.2.1) && (t2.2.2.2.2.1 == t8.2.2.2.2.1)))))) (congrArg (fun z => upd z 25 _) hF.symm) ⟨rfl, rfl⟩ (sub_nil _)
    by_cases q11 : ((t2.1 == t8.1) && ((t2.2.1 == t8.2.1) && ((t2.2.2.1 == t8.2.2.1) && ((t2.2.2.2.1 == t8.2.2.2.1) && (t2.2.2.2.2.1 == t8.2.2.2.2.1))))) = true
    · replace H := ite_t q11 H
      obtain ⟨s7_8, hs7_8⟩ : ∃ z : Value → Sto → Prop, z = (fun v R => v = .agg ⟨([Value.int .i64 a0.1] ++ ([Value.int .i64 a0.2.1] ++ ([Value.int .i64 a0.2.2.1] ++ ([Value.int .u32 a0.2.2.2.1] ++ en (Value.int .u8) a0.2.2.2.2.1))))⟩ ∧ R = s0) := ⟨_, rfl⟩
      refine have_op (l := [_, _, _, _, _, _, _, _, _, _, _, _, _, _, _, _, _, _, _, _, _, _, _, _, _, _, _, _]) shadowboxlaw06_PointerChecks.tab5 2 8 (fun sp => sp 8 = s7_8 ∧ sp 7 = s7_7) (fun sp on hA hon => ?_) (fun ops7_8 => ?_)
      · refine ⟨fun o ho vs Rs f' S' w hp hf hx hS hR hs => ?_⟩
        obtain rfl := Option.some.inj ho
        obtain ⟨hv7, hR7⟩ := (spe hA.2 hs7_7 (hp 7 (by kernel_rfl)))
        rw [hA.1, hs7_8]
        refine And.intro (fun a ha => (want_is (j := 7) (t := 25) (r := true) rfl rfl (by kernel_rfl) (((hf 7 25 (by kernel_rfl) rfl).trans hv7).trans (congrArg Value.bool (show ((t2.1 == t8.1) && ((t2.2.1 == t8.2.1) && ((t2.2.2.1 == t8.2.2.1) && ((t2.2.2.2.1 == t8.2.2.2.1) && (t2.2.2.2.2.1 == t8.2.2.2.2.1))))) = true from q11))) rfl a ha).trans hon.symm) (And.intro (fun _ => ?_) (fun h => by rw [hon] at h; cases h))
        have hF := fr_next (fr_next (rfl) ((hx 3 (by kernel_rfl)).trans (by kernel_rfl : (_ : Value) = .pointer (some ⟨g1, 0, none⟩)))) (((hf 7 25 (by kernel_rfl) rfl).trans hv7).trans (congrArg Value.bool (show ((t2.1 == t8.1) && ((t2.2.1 == t8.2.1) && ((t2.2.2.1 == t8.2.2.1) && ((t2.2.2.2.1 == t8.2.2.2.1) && (t2.2.2.2.2.1 == t8.2.2.2.2.1))))) = true from q11)))
        refine ls_fr hF ?_
        refine ls_loadagg (a := ⟨g1, 0, none⟩) (sub := ([Value.int .i64 a0.1] ++ ([Value.int .i64 a0.2.1] ++ ([Value.int .i64 a0.2.2.1] ++ ([Value.int .u32 a0.2.2.2.1] ++ en (Value.int .u8) a0.2.2.2.2.1))))) rfl rfl (by kernel_rfl) rfl (by kernel_rfl) (by kernel_rfl) (by kernel_rfl) (len_app (len1 _) (len_app (len1 _) (len_app (len1 _) (len_app (len1 _) (len_en _ a0.2.2.2.2))))) (fun w1 hs1 => Rd.step (hs.vars (k := 0) ((hS 0 (by kernel_rfl)).trans (by exact rfl)) (Sub4.all _)) hs1.below.bw) ?_
        exact ls_fin s0 (.agg ⟨([Value.int .i64 a0.1] ++ ([Value.int .i64 a0.2.1] ++ ([Value.int .i64 a0.2.2.1] ++ ([Value.int .u32 a0.2.2.2.1] ++ en (Value.int .u8) a0.2.2.2.2.1))))⟩) (congrArg (fun z => upd z 26 _) hF.symm) ⟨rfl, rfl⟩ (sub_nil _)
      obtain ⟨s7_9, hs7_9⟩ : ∃ z : Value → Sto → Prop, z = (fun v R => v = .slice A2_1 l2_1.length c2_1 ∧ R = s0) := ⟨_, rfl⟩
      refine have_op (l := [_, _, _, _, _, _, _, _, _, _, _, _, _, _, _, _, _, _, _, _, _, _, _, _, _, _, _, _]) shadowboxlaw06_PointerChecks.tab5 2 9 (fun sp => sp 9 = s7_9 ∧ sp 7 = s7_7) (fun sp on hA hon => ?_) (fun ops7_9 => ?_)
      · refine ⟨fun o ho vs Rs f' S' w hp hf hx hS hR hs => ?_⟩
        obtain rfl := Option.some.inj ho
        obtain ⟨hv7, hR7⟩ := (spe hA.2 hs7_7 (hp 7 (by kernel_rfl)))
        rw [hA.1, hs7_9]
        refine And.intro (fun a ha => (want_is (j := 7) (t := 25) (r := true) rfl rfl (by kernel_rfl) (((hf 7 25 (by kernel_rfl) rfl).trans hv7).trans (congrArg Value.bool (show ((t2.1 == t8.1) && ((t2.2.1 == t8.2.1) && ((t2.2.2.1 == t8.2.2.1) && ((t2.2.2.2.1 == t8.2.2.2.1) && (t2.2.2.2.2.1 == t8.2.2.2.2.1))))) = true from q11))) rfl a ha).trans hon.symm) (And.intro (fun _ => ?_) (fun h => by rw [hon] at h; cases h))
        have hF := fr_next (fr_next (rfl) ((hx 2 (by kernel_rfl)).trans (by kernel_rfl : (_ : Value) = .slice A2_1 l2_1.length c2_1))) (((hf 7 25 (by kernel_rfl) rfl).trans hv7).trans (congrArg Value.bool (show ((t2.1 == t8.1) && ((t2.2.1 == t8.2.1) && ((t2.2.2.1 == t8.2.2.1) && ((t2.2.2.2.1 == t8.2.2.2.1) && (t2.2.2.2.2.1 == t8.2.2.2.2.1))))) = true from q11)))
        refine ls_fr hF ?_
        refine ls_val (v := .slice A2_1 l2_1.length c2_1) rfl rfl (by kernel_rfl) (fun w => by kernel_rfl) ?_
        exact ls_fin s0 (.slice A2_1 l2_1.length c2_1) (congrArg (fun z => upd z 27 _) hF.symm) ⟨rfl, rfl⟩ (sub_nil _)
      obtain ⟨t12, hc13, H⟩ := bind_some H
      obtain ⟨s7_10, hs7_10⟩ : ∃ z : Value → Sto → Prop, z = (fun v R => ∃ x14 : Unit, v = .int .i64 t12 ∧ R = stl []) := ⟨_, rfl⟩
      refine have_op (l := [_, _, _, _, _, _, _, _, _, _, _, _, _, _, _, _, _, _, _, _, _, _, _, _, _, _, _, _]) shadowboxlaw06_PointerChecks.tab5 2 10 (fun sp => sp 10 = s7_10 ∧ sp 7 = s7_7 ∧ sp 8 = s7_8 ∧ sp 9 = s7_9) (fun sp on hA hon => ?_) (fun ops7_10 => ?_)
      · refine ⟨fun o ho vs Rs f' S' w hp hf hx hS hR hs => ?_⟩
        obtain rfl := Option.some.inj ho
        obtain ⟨hv7, hR7⟩ := (spe hA.2.1 hs7_7 (hp 7 (by kernel_rfl)))
        obtain ⟨hv8, hR8⟩ := (spe hA.2.2.1 hs7_8 (hp 8 (by kernel_rfl)))
        obtain ⟨hv9, hR9⟩ := (spe hA.2.2.2 hs7_9 (hp 9 (by kernel_rfl)))
        rw [hA.1, hs7_10]
        refine And.intro (fun a ha => (want_is (j := 7) (t := 25) (r := true) rfl rfl (by kernel_rfl) (((hf 7 25 (by kernel_rfl) rfl).trans hv7).trans (congrArg Value.bool (show ((t2.1 == t8.1) && ((t2.2.1 == t8.2.1) && ((t2.2.2.1 == t8.2.2.1) && ((t2.2.2.2.1 == t8.2.2.2.1) && (t2.2.2.2.2.1 == t8.2.2.2.2.1))))) = true from q11))) rfl a ha).trans hon.symm) (And.intro (fun _ => ?_) (fun h => by rw [hon] at h; cases h))
        have hF := fr_next (fr_next (fr_next (rfl) (((hf 7 25 (by kernel_rfl) rfl).trans hv7).trans (congrArg Value.bool (show ((t2.1 == t8.1) && ((t2.2.1 == t8.2.1) && ((t2.2.2.1 == t8.2.2.1) && ((t2.2.2.2.1 == t8.2.2.2.1) && (t2.2.2.2.2.1 == t8.2.2.2.2.1))))) = true from q11)))) ((hf 8 26 (by kernel_rfl) rfl).trans hv8)) ((hf 9 27 (by kernel_rfl) rfl).trans hv9)
        refine ls_fr hF ?_
        refine ls_call (fid := 22) (vals := #[.agg ⟨([Value.int .i64 a0.1] ++ ([Value.int .i64 a0.2.1] ++ ([Value.int .i64 a0.2.2.1] ++ ([Value.int .u32 a0.2.2.2.1] ++ en (Value.int .u8) a0.2.2.2.2.1))))⟩, .slice A2_1 l2_1.length c2_1]) (X := Unit) (fun x => .int .i64 t12) (fun x => stl []) 0 rfl rfl (by kernel_rfl) (fun w => by kernel_rfl) (fun w1 hs1 => pointer_Check.calls k a0 A2_1 c2_1 l2_1 t12 (bw w1) (St.refl w1) (Rd.ro (Rd.step (hs.old R2_1) hs1.below.bw)) C2_1 hc13) ?_
        intro x14
        exact ls_fin (stl []) (.int .i64 t12) (congrArg (fun z => upd z 28 _) hF.symm) ⟨x14, rfl, rfl⟩ (sub_join _)
      obtain ⟨s7_11, hs7_11⟩ : ∃ z : Value → Sto → Prop, z = (fun v R => v = .agg ⟨([Value.int .i64 a0.1] ++ ([Value.int .i64 a0.2.1] ++ ([Value.int .i64 a0.2.2.1] ++ ([Value.int .u32 a0.2.2.2.1] ++ en (Value.int .u8) a0.2.2.2.2.1))))⟩ ∧ R = s0) := ⟨_, rfl⟩
      refine have_op (l := [_, _, _, _, _, _, _, _, _, _, _, _, _, _, _, _, _, _, _, _, _, _, _, _, _, _, _, _]) shadowboxlaw06_PointerChecks.tab5 2 11 (fun sp => sp 11 = s7_11 ∧ sp 7 = s7_7) (fun sp on hA hon => ?_) (fun ops7_11 => ?_)
      · refine ⟨fun o ho vs Rs f' S' w hp hf hx hS hR hs => ?_⟩
        obtain rfl := Option.some.inj ho
        obtain ⟨hv7, hR7⟩ := (spe hA.2 hs7_7 (hp 7 (by kernel_rfl)))
        rw [hA.1, hs7_11]
        refine And.intro (fun a ha => (want_is (j := 7) (t := 25) (r := true) rfl rfl (by kernel_rfl) (((hf 7 25 (by kernel_rfl) rfl).trans hv7).trans (congrArg Value.bool (show ((t2.1 == t8.1) && ((t2.2.1 == t8.2.1) && ((t2.2.2.1 == t8.2.2.1) && ((t2.2.2.2.1 == t8.2.2.2.1) && (t2.2.2.2.2.1 == t8.2.2.2.2.1))))) = true from q11))) rfl a ha).trans hon.symm) (And.intro (fun _ => ?_) (fun h => by rw [hon] at h; cases h))
        have hF := fr_next (fr_next (rfl) ((hx 3 (by kernel_rfl)).trans (by kernel_rfl : (_ : Value) = .pointer (some ⟨g1, 0, none⟩)))) (((hf 7 25 (by kernel_rfl) rfl).trans hv7).trans (congrArg Value.bool (show ((t2.1 == t8.1) && ((t2.2.1 == t8.2.1) && ((t2.2.2.1 == t8.2.2.1) && ((t2.2.2.2.1 == t8.2.2.2.1) && (t2.2.2.2.2.1 == t8.2.2.2.2.1))))) = true from q11)))
        refine ls_fr hF ?_
        refine ls_loadagg (a := ⟨g1, 0, none⟩) (sub := ([Value.int .i64 a0.1] ++ ([Value.int .i64 a0.2.1] ++ ([Value.int .i64 a0.2.2.1] ++ ([Value.int .u32 a0.2.2.2.1] ++ en (Value.int .u8) a0.2.2.2.2.1))))) rfl rfl (by kernel_rfl) rfl (by kernel_rfl) (by kernel_rfl) (by kernel_rfl) (len_app (len1 _) (len_app (len1 _) (len_app (len1 _) (len_app (len1 _) (len_en _ a0.2.2.2.2))))) (fun w1 hs1 => Rd.step (hs.vars (k := 0) ((hS 0 (by kernel_rfl)).trans (by exact rfl)) (Sub4.all _)) hs1.below.bw) ?_
        exact ls_fin s0 (.agg ⟨([Value.int .i64 a0.1] ++ ([Value.int .i64 a0.2.1] ++ ([Value.int .i64 a0.2.2.1] ++ ([Value.int .u32 a0.2.2.2.1] ++ en (Value.int .u8) a0.2.2.2.2.1))))⟩) (congrArg (fun z => upd z 29 _) hF.symm) ⟨rfl, rfl⟩ (sub_nil _)
      obtain ⟨s7_12, hs7_12⟩ : ∃ z : Value → Sto → Prop, z = (fun v R => v = .slice A2_1 l2_1.length c2_1 ∧ R = s0) := ⟨_, rfl⟩
      refine have_op (l := [_, _, _, _, _, _, _, _, _, _, _, _, _, _, _, _, _, _, _, _, _, _, _, _, _, _, _, _]) shadowboxlaw06_PointerChecks.tab5 2 12 (fun sp => sp 12 = s7_12 ∧ sp 7 = s7_7) (fun sp on hA hon => ?_) (fun ops7_12 => ?_)
      · refine ⟨fun o ho vs Rs f' S' w hp hf hx hS hR hs => ?_⟩
        obtain rfl := Option.some.inj ho
        obtain ⟨hv7, hR7⟩ := (spe hA.2 hs7_7 (hp 7 (by kernel_rfl)))
        rw [hA.1, hs7_12]
        refine And.intro (fun a ha => (want_is (j := 7) (t := 25) (r := true) rfl rfl (by kernel_rfl) (((hf 7 25 (by kernel_rfl) rfl).trans hv7).trans (congrArg Value.bool (show ((t2.1 == t8.1) && ((t2.2.1 == t8.2.1) && ((t2.2.2.1 == t8.2.2.1) && ((t2.2.2.2.1 == t8.2.2.2.1) && (t2.2.2.2.2.1 == t8.2.2.2.2.1))))) = true from q11))) rfl a ha).trans hon.symm) (And.intro (fun _ => ?_) (fun h => by rw [hon] at h; cases h))
        have hF := fr_next (fr_next (rfl) ((hx 2 (by kernel_rfl)).trans (by kernel_rfl : (_ : Value) = .slice A2_1 l2_1.length c2_1))) (((hf 7 25 (by kernel_rfl) rfl).trans hv7).trans (congrArg Value.bool (show ((t2.1 == t8.1) && ((t2.2.1 == t8.2.1) && ((t2.2.2.1 == t8.2.2.1) && ((t2.2.2.2.1 == t8.2.2.2.1) && (t2.2.2.2.2.1 == t8.2.2.2.2.1))))) = true from q11)))
        refine ls_fr hF ?_
        refine ls_val (v := .slice A2_1 l2_1.length c2_1) rfl rfl (by kernel_rfl) (fun w => by kernel_rfl) ?_
        exact ls_fin s0 (.slice A2_1 l2_1.length c2_1) (congrArg (fun z => upd z 30 _) hF.symm) ⟨rfl, rfl⟩ (sub_nil _)
      obtain ⟨t15, hc16, H⟩ := bind_some H
      obtain ⟨s7_13, hs7_13⟩ : ∃ z : Value → Sto → Prop, z = (fun v R => ∃ x17 : Unit, v = .int .i64 t15 ∧ R = stl []) := ⟨_, rfl⟩
      refine have_op (l := [_, _, _, _, _, _, _, _, _, _, _, _, _, _, _, _, _, _, _, _, _, _, _, _, _, _, _, _]) shadowboxlaw06_PointerChecks.tab5 2 13 (fun sp => sp 13 = s7_13 ∧ sp 7 = s7_7 ∧ sp 11 = s7_11 ∧ sp 12 = s7_12) (fun sp on hA hon => ?_) (fun ops7_13 => ?_)
      · refine ⟨fun o ho vs Rs f' S' w hp hf hx hS hR hs => ?_⟩
        obtain rfl := Option.some.inj ho
        obtain ⟨hv7, hR7⟩ := (spe hA.2.1 hs7_7 (hp 7 (by kernel_rfl)))
        obtain ⟨hv11, hR11⟩ := (spe hA.2.2.1 hs7_11 (hp 11 (by kernel_rfl)))
        obtain ⟨hv12, hR12⟩ := (spe hA.2.2.2 hs7_12 (hp 12 (by kernel_rfl)))
        rw [hA.1, hs7_13]
        refine And.intro (fun a ha => (want_is (j := 7) (t := 25) (r := true) rfl rfl (by kernel_rfl) (((hf 7 25 (by kernel_rfl) rfl).trans hv7).trans (congrArg Value.bool (show ((t2.1 == t8.1) && ((t2.2.1 == t8.2.1) && ((t2.2.2.1 == t8.2.2.1) && ((t2.2.2.2.1 == t8.2.2.2.1) && (t2.2.2.2.2.1 == t8.2.2.2.2.1))))) = true from q11))) rfl a ha).trans hon.symm) (And.intro (fun _ => ?_) (fun h => by rw [hon] at h; cases h))
        have hF := fr_next (fr_next (fr_next (rfl) (((hf 7 25 (by kernel_rfl) rfl).trans hv7).trans (congrArg Value.bool (show ((t2.1 == t8.1) && ((t2.2.1 == t8.2.1) && ((t2.2.2.1 == t8.2.2.1) && ((t2.2.2.2.1 == t8.2.2.2.1) && (t2.2.2.2.2.1 == t8.2.2.2.2.1))))) = true from q11)))) ((hf 11 29 (by kernel_rfl) rfl).trans hv11)) ((hf 12 30 (by kernel_rfl) rfl).trans hv12)
        refine ls_fr hF ?_
        refine ls_call (fid := 23) (vals := #[.agg ⟨([Value.int .i64 a0.1] ++ ([Value.int .i64 a0.2.1] ++ ([Value.int .i64 a0.2.2.1] ++ ([Value.int .u32 a0.2.2.2.1] ++ en (Value.int .u8) a0.2.2.2.2.1))))⟩, .slice A2_1 l2_1.length c2_1]) (X := Unit) (fun x => .int .i64 t15) (fun x => stl []) 0 rfl rfl (by kernel_rfl) (fun w => by kernel_rfl) (fun w1 hs1 => shadowboxref06_Check.calls k a0 A2_1 c2_1 l2_1 t15 (bw w1) (St.refl w1) (Rd.ro (Rd.step (hs.old R2_1) hs1.below.bw)) C2_1 hc16) ?_
        intro x17
        exact ls_fin (stl []) (.int .i64 t15) (congrArg (fun z => upd z 31 _) hF.symm) ⟨x17, rfl, rfl⟩ (sub_join _)
      obtain ⟨s7_14, hs7_14⟩ : ∃ z : Value → Sto → Prop, z = (fun v R => v = .bool (decide (t12 = t15)) ∧ R = s0) := ⟨_, rfl⟩
      refine have_op (l := [_, _, _, _, _, _, _, _, _, _, _, _, _, _, _, _, _, _, _, _, _, _, _, _, _, _, _, _]) shadowboxlaw06_PointerChecks.tab5 2 14 (fun sp => sp 14 = s7_14 ∧ sp 7 = s7_7 ∧ sp 10 = s7_10 ∧ sp 13 = s7_13) (fun sp on hA hon => ?_) (fun ops7_14 => ?_)
      · refine ⟨fun o ho vs Rs f' S' w hp hf hx hS hR hs => ?_⟩
        obtain rfl := Option.some.inj ho
        obtain ⟨hv7, hR7⟩ := (spe hA.2.1 hs7_7 (hp 7 (by kernel_rfl)))
        obtain ⟨x14, hv10, hR10⟩ := (spe hA.2.2.1 hs7_10 (hp 10 (by kernel_rfl)))
        obtain ⟨x17, hv13, hR13⟩ := (spe hA.2.2.2 hs7_13 (hp 13 (by kernel_rfl)))
        rw [hA.1, hs7_14]
        refine And.intro (fun a ha => (want_is (j := 7) (t := 25) (r := true) rfl rfl (by kernel_rfl) (((hf 7 25 (by kernel_rfl) rfl).trans hv7).trans (congrArg Value.bool (show ((t2.1 == t8.1) && ((t2.2.1 == t8.2.1) && ((t2.2.2.1 == t8.2.2.1) && ((t2.2.2.2.1 == t8.2.2.2.1) && (t2.2.2.2.2.1 == t8.2.2.2.2.1))))) = true from q11))) rfl a ha).trans hon.symm) (And.intro (fun _ => ?_) (fun h => by rw [hon] at h; cases h))
        have hF := fr_next (fr_next (fr_next (rfl) (((hf 7 25 (by kernel_rfl) rfl).trans hv7).trans (congrArg Value.bool (show ((t2.1 == t8.1) && ((t2.2.1 == t8.2.1) && ((t2.2.2.1 == t8.2.2.1) && ((t2.2.2.2.1 == t8.2.2.2.1) && (t2.2.2.2.2.1 == t8.2.2.2.2.1))))) = true from q11)))) ((hf 10 28 (by kernel_rfl) rfl).trans hv10)) ((hf 13 31 (by kernel_rfl) rfl).trans hv13)
        refine ls_fr hF ?_
        refine ls_val (v := .bool (decide (t12 = t15))) rfl rfl (by kernel_rfl) (fun w => by kernel_rfl) ?_
        exact ls_fin s0 (.bool (decide (t12 = t15))) (congrArg (fun z => upd z 32 _) hF.symm) ⟨rfl, rfl⟩ (sub_nil _)
      obtain ⟨s7_15, hs7_15⟩ : ∃ z : Value → Sto → Prop, z = (fun v R => v = .bool (decide (t12 = t15)) ∧ R = s0) := ⟨_, rfl⟩
      refine have_op (l := [_, _, _, _, _, _, _, _, _, _, _, _, _, _, _, _, _, _, _, _, _, _, _, _, _, _, _, _]) shadowboxlaw06_PointerChecks.tab5 2 15 (fun sp => sp 15 = s7_15 ∧ sp 7 = s7_7 ∧ sp 14 = s7_14) (fun sp on hA hon => ?_) (fun ops7_15 => ?_)
      · refine ⟨fun o ho vs Rs f' S' w hp hf hx hS hR hs => ?_⟩
        obtain rfl := Option.some.inj ho
        obtain ⟨hv7, hR7⟩ := (spe hA.2.1 hs7_7 (hp 7 (by kernel_rfl)))
        obtain ⟨hv14, hR14⟩ := (spe hA.2.2 hs7_14 (hp 14 (by kernel_rfl)))
        rw [hA.1, hs7_15]
        refine And.intro (fun a ha => (want_none rfl a ha).trans hon.symm) (And.intro (fun _ => ?_) (fun h => by rw [hon] at h; cases h))
        have hF := fr_next (fr_next (rfl) (((hf 7 25 (by kernel_rfl) rfl).trans hv7).trans (congrArg Value.bool (show ((t2.1 == t8.1) && ((t2.2.1 == t8.2.1) && ((t2.2.2.1 == t8.2.2.1) && ((t2.2.2.2.1 == t8.2.2.2.1) && (t2.2.2.2.2.1 == t8.2.2.2.2.1))))) = true from q11)))) ((hf 14 32 (by kernel_rfl) rfl).trans hv14)
        refine ls_fr hF ?_
        refine ls_val (v := .bool (decide (t12 = t15))) rfl rfl (by kernel_rfl) (fun w => by kernel_rfl) ?_
        exact ls_fin s0 (.bool (decide (t12 = t15))) (congrArg (fun z => upd z 33 _) hF.symm) ⟨rfl, rfl⟩ (sub_nil _)
      obtain ⟨s7_16, hs7_16⟩ : ∃ z : Value → Sto → Prop, z = (fun v R => v = .bool (decide (t12 = t15)) ∧ R = s0) := ⟨_, rfl⟩
      refine have_op (l := [_, _, _, _, _, _, _, _, _, _, _, _, _, _, _, _, _, _, _, _, _, _, _, _, _, _, _, _]) shadowboxlaw06_PointerChecks.tab5 2 16 (fun sp => sp 16 = s7_16 ∧ sp 15 = s7_15) (fun sp on hA hon => ?_) (fun ops7_16 => ?_)
      · refine ⟨fun o ho vs Rs f' S' w hp hf hx hS hR hs => ?_⟩
        obtain rfl := Option.some.inj ho
        obtain ⟨hv15, hR15⟩ := (spe hA.2 hs7_15 (hp 15 (by kernel_rfl)))
        rw [hA.1, hs7_16]
        refine And.intro (fun a ha => (want_none rfl a ha).trans hon.symm) (And.intro (fun _ => ?_) (fun h => by rw [hon] at h; cases h))
        have hF := fr_next (rfl) ((hf 15 33 (by kernel_rfl) rfl).trans hv15)
        refine ls_fr hF ?_
        refine ls_val (v := .bool (decide (t12 = t15))) rfl rfl (by kernel_rfl) (fun w => by kernel_rfl) ?_
        exact ls_fin s0 (.bool (decide (t12 = t15))) (congrArg (fun z => upd z 34 _) hF.symm) ⟨rfl, rfl⟩ (sub_nil _)
      by_cases q18 : t12 = t15
      · replace H := ite_t q18 H
        obtain ⟨s7_17, hs7_17⟩ : ∃ z : Value → Sto → Prop, z = (fun v R => v = .agg ⟨([Value.int .i64 t2.1] ++ ([Value.int .i64 t2.2.1] ++ ([Value.int .i64 t2.2.2.1] ++ ([Value.int .u32 t2.2.2.2.1] ++ en (Value.int .u8) t2.2.2.2.2.1))))⟩ ∧ R = s0) := ⟨_, rfl⟩
        refine have_op (l := [_, _, _, _, _, _, _, _, _, _, _, _, _, _, _, _, _, _, _, _, _, _, _, _, _, _, _, _]) shadowboxlaw06_PointerChecks.tab5 2 17 (fun sp => sp 17 = s7_17 ∧ sp 16 = s7_16) (fun sp on hA hon => ?_) (fun ops7_17 => ?_)
        · refine ⟨fun o ho vs Rs f' S' w hp hf hx hS hR hs => ?_⟩
          obtain rfl := Option.some.inj ho
          obtain ⟨hv16, hR16⟩ := (spe hA.2 hs7_16 (hp 16 (by kernel_rfl)))
          rw [hA.1, hs7_17]
          refine And.intro (fun a ha => (want_is (j := 16) (t := 34) (r := true) rfl rfl (by kernel_rfl) (((hf 16 34 (by kernel_rfl) rfl).trans hv16).trans (congrArg Value.bool (show (decide (t12 = t15)) = true from dec_t q18))) rfl a ha).trans hon.symm) (And.intro (fun _ => ?_) (fun h => by rw [hon] at h; cases h))
          have hF := fr_next (fr_next (rfl) ((hx 7 (by kernel_rfl)).trans (by kernel_rfl : (_ : Value) = .pointer (some ⟨g5, 0, none⟩)))) (((hf 16 34 (by kernel_rfl) rfl).trans hv16).trans (congrArg Value.bool (show (decide (t12 = t15)) = true from dec_t q18)))
          refine ls_fr hF ?_
          refine ls_loadagg (a := ⟨g5, 0, none⟩) (sub := ([Value.int .i64 t2.1] ++ ([Value.int .i64 t2.2.1] ++ ([Value.int .i64 t2.2.2.1] ++ ([Value.int .u32 t2.2.2.2.1] ++ en (Value.int .u8) t2.2.2.2.2.1))))) rfl rfl (by kernel_rfl) rfl (by kernel_rfl) (by kernel_rfl) (by kernel_rfl) (len_app (len1 _) (len_app (len1 _) (len_app (len1 _) (len_app (len1 _) (len_en _ t2.2.2.2.2))))) (fun w1 hs1 => Rd.step (hs.vars (k := 1) ((hS 1 (by kernel_rfl)).trans (by exact rfl)) (Sub4.all _)) hs1.below.bw) ?_
          exact ls_fin s0 (.agg ⟨([Value.int .i64 t2.1] ++ ([Value.int .i64 t2.2.1] ++ ([Value.int .i64 t2.2.2.1] ++ ([Value.int .u32 t2.2.2.2.1] ++ en (Value.int .u8) t2.2.2.2.2.1))))⟩) (congrArg (fun z => upd z 35 _) hF.symm) ⟨rfl, rfl⟩ (sub_nil _)
        obtain ⟨s7_18, hs7_18⟩ : ∃ z : Value → Sto → Prop, z = (fun v R => v = .slice A2_1 l2_1.length c2_1 ∧ R = s0) := ⟨_, rfl⟩
        refine have_op (l := [_, _, _, _, _, _, _, _, _, _, _, _, _, _, _, _, _, _, _, _, _, _, _, _, _, _, _, _]) shadowboxlaw06_PointerChecks.tab5 2 18 (fun sp => sp 18 = s7_18 ∧ sp 16 = s7_16) (fun sp on hA hon => ?_) (fun ops7_18 => ?_)
        · refine ⟨fun o ho vs Rs f' S' w hp hf hx hS hR hs => ?_⟩
          obtain rfl := Option.some.inj ho
          obtain ⟨hv16, hR16⟩ := (spe hA.2 hs7_16 (hp 16 (by kernel_rfl)))
          rw [hA.1, hs7_18]
          refine And.intro (fun a ha => (want_is (j := 16) (t := 34) (r := true) rfl rfl (by kernel_rfl) (((hf 16 34 (by kernel_rfl) rfl).trans hv16).trans (congrArg Value.bool (show (decide (t12 = t15)) = true from dec_t q18))) rfl a ha).trans hon.symm) (And.intro (fun _ => ?_) (fun h => by rw [hon] at h; cases h))
          have hF := fr_next (fr_next (rfl) ((hx 2 (by kernel_rfl)).trans (by kernel_rfl : (_ : Value) = .slice A2_1 l2_1.length c2_1))) (((hf 16 34 (by kernel_rfl) rfl).trans hv16).trans (congrArg Value.bool (show (decide (t12 = t15)) = true from dec_t q18)))
          refine ls_fr hF ?_
          refine ls_val (v := .slice A2_1 l2_1.length c2_1) rfl rfl (by kernel_rfl) (fun w => by kernel_rfl) ?_
          exact ls_fin s0 (.slice A2_1 l2_1.length c2_1) (congrArg (fun z => upd z 36 _) hF.symm) ⟨rfl, rfl⟩ (sub_nil _)
        obtain ⟨t19, hc20, H⟩ := bind_some H
        obtain ⟨s7_19, hs7_19⟩ : ∃ z : Value → Sto → Prop, z = (fun v R => ∃ x21 : Unit, v = .int .i64 t19 ∧ R = stl []) := ⟨_, rfl⟩
        refine have_op (l := [_, _, _, _, _, _, _, _, _, _, _, _, _, _, _, _, _, _, _, _, _, _, _, _, _, _, _, _]) shadowboxlaw06_PointerChecks.tab5 2 19 (fun sp => sp 19 = s7_19 ∧ sp 16 = s7_16 ∧ sp 17 = s7_17 ∧ sp 18 = s7_18) (fun sp on hA hon => ?_) (fun ops7_19 => ?_)
        · refine ⟨fun o ho vs Rs f' S' w hp hf hx hS hR hs => ?_⟩
          obtain rfl := Option.some.inj ho
          obtain ⟨hv16, hR16⟩ := (spe hA.2.1 hs7_16 (hp 16 (by kernel_rfl)))
          obtain ⟨hv17, hR17⟩ := (spe hA.2.2.1 hs7_17 (hp 17 (by kernel_rfl)))
          obtain ⟨hv18, hR18⟩ := (spe hA.2.2.2 hs7_18 (hp 18 (by kernel_rfl)))
          rw [hA.1, hs7_19]
          refine And.intro (fun a ha => (want_is (j := 16) (t := 34) (r := true) rfl rfl (by kernel_rfl) (((hf 16 34 (by kernel_rfl) rfl).trans hv16).trans (congrArg Value.bool (show (decide (t12 = t15)) = true from dec_t q18))) rfl a ha).trans hon.symm) (And.intro (fun _ => ?_) (fun h => by rw [hon] at h; cases h))
          have hF := fr_next (fr_next (fr_next (rfl) (((hf 16 34 (by kernel_rfl) rfl).trans hv16).trans (congrArg Value.bool (show (decide (t12 = t15)) = true from dec_t q18)))) ((hf 17 35 (by kernel_rfl) rfl).trans hv17)) ((hf 18 36 (by kernel_rfl) rfl).trans hv18)
          refine ls_fr hF ?_
          refine ls_call (fid := 22) (vals := #[.agg ⟨([Value.int .i64 t2.1] ++ ([Value.int .i64 t2.2.1] ++ ([Value.int .i64 t2.2.2.1] ++ ([Value.int .u32 t2.2.2.2.1] ++ en (Value.int .u8) t2.2.2.2.2.1))))⟩, .slice A2_1 l2_1.length c2_1]) (X := Unit) (fun x => .int .i64 t19) (fun x => stl []) 0 rfl rfl (by kernel_rfl) (fun w => by kernel_rfl) (fun w1 hs1 => pointer_Check.calls k t2 A2_1 c2_1 l2_1 t19 (bw w1) (St.refl w1) (Rd.ro (Rd.step (hs.old R2_1) hs1.below.bw)) C2_1 hc20) ?_
          intro x21
          exact ls_fin (stl []) (.int .i64 t19) (congrArg (fun z => upd z 37 _) hF.symm) ⟨x21, rfl, rfl⟩ (sub_join _)
        obtain ⟨s7_20, hs7_20⟩ : ∃ z : Value → Sto → Prop, z = (fun v R => v = .agg ⟨([Value.int .i64 t2.1] ++ ([Value.int .i64 t2.2.1] ++ ([Value.int .i64 t2.2.2.1] ++ ([Value.int .u32 t2.2.2.2.1] ++ en (Value.int .u8) t2.2.2.2.2.1))))⟩ ∧ R = s0) := ⟨_, rfl⟩
        refine have_op (l := [_, _, _, _, _, _, _, _, _, _, _, _, _, _, _, _, _, _, _, _, _, _, _, _, _, _, _, _]) shadowboxlaw06_PointerChecks.tab5 2 20 (fun sp => sp 20 = s7_20 ∧ sp 16 = s7_16) (fun sp on hA hon => ?_) (fun ops7_20 => ?_)
        · refine ⟨fun o ho vs Rs f' S' w hp hf hx hS hR hs => ?_⟩
          obtain rfl := Option.some.inj ho
          obtain ⟨hv16, hR16⟩ := (spe hA.2 hs7_16 (hp 16 (by kernel_rfl)))
          rw [hA.1, hs7_20]
          refine And.intro (fun a ha => (want_is (j := 16) (t := 34) (r := true) rfl rfl (by kernel_rfl) (((hf 16 34 (by kernel_rfl) rfl).trans hv16).trans (congrArg Value.bool (show (decide (t12 = t15)) = true from dec_t q18))) rfl a ha).trans hon.symm) (And.intro (fun _ => ?_) (fun h => by rw [hon] at h; cases h))
          have hF := fr_next (fr_next (rfl) ((hx 7 (by kernel_rfl)).trans (by kernel_rfl : (_ : Value) = .pointer (some ⟨g5, 0, none⟩)))) (((hf 16 34 (by kernel_rfl) rfl).trans hv16).trans (congrArg Value.bool (show (decide (t12 = t15)) = true from dec_t q18)))
          refine ls_fr hF ?_
          refine ls_loadagg (a := ⟨g5, 0, none⟩) (sub := ([Value.int .i64 t2.1] ++ ([Value.int .i64 t2.2.1] ++ ([Value.int .i64 t2.2.2.1] ++ ([Value.int .u32 t2.2.2.2.1] ++ en (Value.int .u8) t2.2.2.2.2.1))))) rfl rfl (by kernel_rfl) rfl (by kernel_rfl) (by kernel_rfl) (by kernel_rfl) (len_app (len1 _) (len_app (len1 _) (len_app (len1 _) (len_app (len1 _) (len_en _ t2.2.2.2.2))))) (fun w1 hs1 => Rd.step (hs.vars (k := 1) ((hS 1 (by kernel_rfl)).trans (by exact rfl)) (Sub4.all _)) hs1.below.bw) ?_
          exact ls_fin s0 (.agg ⟨([Value.int .i64 t2.1] ++ ([Value.int .i64 t2.2.1] ++ ([Value.int .i64 t2.2.2.1] ++ ([Value.int .u32 t2.2.2.2.1] ++ en (Value.int .u8) t2.2.2.2.2.1))))⟩) (congrArg (fun z => upd z 38 _) hF.symm) ⟨rfl, rfl⟩ (sub_nil _)
        obtain ⟨s7_21, hs7_21⟩ : ∃ z : Value → Sto → Prop, z = (fun v R => v = .slice A2_1 l2_1.length c2_1 ∧ R = s0) := ⟨_, rfl⟩
        refine have_op (l := [_, _, _, _, _, _, _, _, _, _, _, _, _, _, _, _, _, _, _, _, _, _, _, _, _, _, _, _]) shadowboxlaw06_PointerChecks.tab5 2 21 (fun sp => sp 21 = s7_21 ∧ sp 16 = s7_16) (fun sp on hA hon => ?_) (fun ops7_21 => ?_)
        · refine ⟨fun o ho vs Rs f' S' w hp hf hx hS hR hs => ?_⟩
          obtain rfl := Option.some.inj ho
          obtain ⟨hv16, hR16⟩ := (spe hA.2 hs7_16 (hp 16 (by kernel_rfl)))
          rw [hA.1, hs7_21]
          refine And.intro (fun a ha => (want_is (j := 16) (t := 34) (r := true) rfl rfl (by kernel_rfl) (((hf 16 34 (by kernel_rfl) rfl).trans hv16).trans (congrArg Value.bool (show (decide (t12 = t15)) = true from dec_t q18))) rfl a ha).trans hon.symm) (And.intro (fun _ => ?_) (fun h => by rw [hon] at h; cases h))
          have hF := fr_next (fr_next (rfl) ((hx 2 (by kernel_rfl)).trans (by kernel_rfl : (_ : Value) = .slice A2_1 l2_1.length c2_1))) (((hf 16 34 (by kernel_rfl) rfl).trans hv16).trans (congrArg Value.bool (show (decide (t12 = t15)) = true from dec_t q18)))
          refine ls_fr hF ?_
          refine ls_val (v := .slice A2_1 l2_1.length c2_1) rfl rfl (by kernel_rfl) (fun w => by kernel_rfl) ?_
          exact ls_fin s0 (.slice A2_1 l2_1.length c2_1) (congrArg (fun z => upd z 39 _) hF.symm) ⟨rfl, rfl⟩ (sub_nil _)
        refine cs_draw shadowboxlaw06_PointerChecks.tab5 22 2 (spl [s7_0, s7_1, s7_2, s7_3, s7_4, s7_5, s7_6, s7_7, s7_8, s7_9, s7_10, s7_11, s7_12, s7_13, s7_14, s7_15, s7_16, s7_17, s7_18, s7_19, s7_20, s7_21]) (onl [true, true, true, true, true, true, true, true, true, true, true, true, true, true, true, true, true, true, true, true, true, true]) (by kernel_rfl) (by kernel_rfl) (by kernel_rfl) (by kernel_rfl) (rs := [_, _, _, _, _, _]) rfl (by kernel_rfl) (by kernel_rfl) (all_snoc (all_snoc (all_snoc (all_snoc (all_snoc (all_snoc (all_snoc (all_snoc (all_snoc (all_snoc (all_snoc (all_snoc (all_snoc (all_snoc (all_snoc (all_snoc (all_snoc (all_snoc (all_snoc (all_snoc (all_snoc (all_snoc (all_nil) (ops7_0 _ _ rfl rfl)) (ops7_1 _ _ rfl rfl)) (ops7_2 _ _ rfl rfl)) (ops7_3 _ _ ⟨rfl, rfl⟩ rfl)) (ops7_4 _ _ rfl rfl)) (ops7_5 _ _ ⟨rfl, rfl, rfl, rfl⟩ rfl)) (ops7_6 _ _ ⟨rfl, rfl, rfl⟩ rfl)) (ops7_7 _ _ ⟨rfl, rfl⟩ rfl)) (ops7_8 _ _ ⟨rfl, rfl⟩ rfl)) (ops7_9 _ _ ⟨rfl, rfl⟩ rfl)) (ops7_10 _ _ ⟨rfl, rfl, rfl, rfl⟩ rfl)) (ops7_11 _ _ ⟨rfl, rfl⟩ rfl)) (ops7_12 _ _ ⟨rfl, rfl⟩ rfl)) (ops7_13 _ _ ⟨rfl, rfl, rfl, rfl⟩ rfl)) (ops7_14 _ _ ⟨rfl, rfl, rfl, rfl⟩ rfl)) (ops7_15 _ _ ⟨rfl, rfl, rfl⟩ rfl)) (ops7_16 _ _ ⟨rfl, rfl⟩ rfl)) (ops7_17 _ _ ⟨rfl, rfl⟩ rfl)) (ops7_18 _ _ ⟨rfl, rfl⟩ rfl)) (ops7_19 _ _ ⟨rfl, rfl, rfl, rfl⟩ rfl)) (ops7_20 _ _ ⟨rfl, rfl⟩ rfl)) (ops7_21 _ _ ⟨rfl, rfl⟩ rfl)) ?_
        intro vs Rs f' S' hp hf hx hS hR
        obtain ⟨x10, hv5, hR5⟩ := (spe rfl hs7_5 (hp 5 (by kernel_rfl)))
        obtain ⟨x14, hv10, hR10⟩ := (spe rfl hs7_10 (hp 10 (by kernel_rfl)))
        obtain ⟨x17, hv13, hR13⟩ := (spe rfl hs7_13 (hp 13 (by kernel_rfl)))
        obtain ⟨hv16, hR16⟩ := (spe rfl hs7_16 (hp 16 (by kernel_rfl)))
        obtain ⟨x21, hv19, hR19⟩ := (spe rfl hs7_19 (hp 19 (by kernel_rfl)))
        obtain ⟨hv20, hR20⟩ := (spe rfl hs7_20 (hp 20 (by kernel_rfl)))
        obtain ⟨hv21, hR21⟩ := (spe rfl hs7_21 (hp 21 (by kernel_rfl)))
        refine ls_fr (F := upd (upd (upd (upd f' 34 (.bool (decide (t12 = t15)))) 37 (.int .i64 t19)) 38 (.agg ⟨([Value.int .i64 t2.1] ++ ([Value.int .i64 t2.2.1] ++ ([Value.int .i64 t2.2.2.1] ++ ([Value.int .u32 t2.2.2.2.1] ++ en (Value.int .u8) t2.2.2.2.2.1))))⟩)) 39 (.slice A2_1 l2_1.length c2_1)) (fr_next (fr_next (fr_next (fr_next (rfl) ((hf 16 34 (by kernel_rfl) rfl).trans hv16)) ((hf 19 37 (by kernel_rfl) rfl).trans hv19)) ((hf 20 38 (by kernel_rfl) rfl).trans hv20)) ((hf 21 39 (by kernel_rfl) rfl).trans hv21)) ?_
        refine ls_sub (s0) (sub_nil _) ?_
        refine ls_know (c := true) (dec_t q18) 34 (by kernel_rfl) ?_
        refine ls_on (j := 16) (t := 34) (b := true) rfl rfl (by kernel_rfl) (by kernel_rfl) ?_
        obtain ⟨t22, hc23, H⟩ := bind_some H
        refine ls_callb (fid := 23) (vals := #[.agg ⟨([Value.int .i64 t2.1] ++ ([Value.int .i64 t2.2.1] ++ ([Value.int .i64 t2.2.2.1] ++ ([Value.int .u32 t2.2.2.2.1] ++ en (Value.int .u8) t2.2.2.2.2.1))))⟩, .slice A2_1 l2_1.length c2_1]) (X := Unit) (fun x => .int .i64 t22) (fun x => stl []) [] [] [] [] 178 rfl rfl (by kernel_rfl) (fun w => by kernel_rfl) trivial trivial (by decide) (fun w hs hb => shadowboxref06_Check.calls k t2 A2_1 c2_1 l2_1 t22 (lent b w [] []) hb (hs.ro R2_1 _ _) C2_1 hc23) ?_
        intro x24
        refine ls_on (j := 16) (t := 34) (b := true) rfl rfl (by kernel_rfl) (by kernel_rfl) ?_
        refine ls_val (v := .bool (decide (t19 = t22))) rfl rfl (by kernel_rfl) (fun w => by kernel_rfl) ?_
        refine ls_val (v := .bool (decide (t19 = t22))) rfl rfl (by kernel_rfl) (fun w => by kernel_rfl) ?_
        refine ls_val (v := .bool (decide (t19 = t22))) rfl rfl (by kernel_rfl) (fun w => by kernel_rfl) ?_
        by_cases q25 : t19 = t22
        · replace H := ite_t q25 H
          refine ls_know (c := true) (dec_t q25) 43 (by kernel_rfl) ?_
          refine ls_val (v := .bool true) rfl rfl (by kernel_rfl) (fun w => by kernel_rfl) ?_
          refine ls_val (v := .bool true) rfl rfl (by kernel_rfl) (fun w => by kernel_rfl) ?_
          refine ls_end ?_
          refine qn_then ?_
          refine cs_ret' ?_
          obtain rfl := Option.some.inj H
          refine qr_res (rs := [_]) rfl (fun w' hs => ⟨[.bool true], (res_tmp (by kernel_rfl) (.nil)), (), rfl, hs.pick (ts := []) (cs := []) trivial (by decide)⟩)
        · replace H := ite_f q25 H
          refine ls_know (c := false) (dec_f q25) 43 (by kernel_rfl) ?_
          refine ls_val (v := .bool false) rfl rfl (by kernel_rfl) (fun w => by kernel_rfl) ?_
          refine ls_val (v := .bool false) rfl rfl (by kernel_rfl) (fun w => by kernel_rfl) ?_
          refine ls_end ?_
          refine qn_then ?_
          refine cs_ret' ?_
          obtain rfl := Option.some.inj H
          refine qr_res (rs := [_]) rfl (fun w' hs => ⟨[.bool false], (res_tmp (by kernel_rfl) (.nil)), (), rfl, hs.pick (ts := []) (cs := []) trivial (by decide)⟩)
      · replace H := ite_f q18 H
        refine cs_draw shadowboxlaw06_PointerChecks.tab5 22 2 (spl [s7_0, s7_1, s7_2, s7_3, s7_4, s7_5, s7_6, s7_7, s7_8, s7_9, s7_10, s7_11, s7_12, s7_13, s7_14, s7_15, s7_16, spu, spu, spu, spu, spu]) (onl [true, true, true, true, true, true, true, true, true, true, true, true, true, true, true, true, true, false, false, false, false, false]) (by kernel_rfl) (by kernel_rfl) (by kernel_rfl) (by kernel_rfl) (rs := [_, _, _, _, _, _]) rfl (by kernel_rfl) (by kernel_rfl) (all_snoc (all_snoc (all_snoc (all_snoc (all_snoc (all_snoc (all_snoc (all_snoc (all_snoc (all_snoc (all_snoc (all_snoc (all_snoc (all_snoc (all_snoc (all_snoc (all_snoc (all_snoc (all_snoc (all_snoc (all_snoc (all_snoc (all_nil) (ops7_0 _ _ rfl rfl)) (ops7_1 _ _ rfl rfl)) (ops7_2 _ _ rfl rfl)) (ops7_3 _ _ ⟨rfl, rfl⟩ rfl)) (ops7_4 _ _ rfl rfl)) (ops7_5 _ _ ⟨rfl, rfl, rfl, rfl⟩ rfl)) (ops7_6 _ _ ⟨rfl, rfl, rfl⟩ rfl)) (ops7_7 _ _ ⟨rfl, rfl⟩ rfl)) (ops7_8 _ _ ⟨rfl, rfl⟩ rfl)) (ops7_9 _ _ ⟨rfl, rfl⟩ rfl)) (ops7_10 _ _ ⟨rfl, rfl, rfl, rfl⟩ rfl)) (ops7_11 _ _ ⟨rfl, rfl⟩ rfl)) (ops7_12 _ _ ⟨rfl, rfl⟩ rfl)) (ops7_13 _ _ ⟨rfl, rfl, rfl, rfl⟩ rfl)) (ops7_14 _ _ ⟨rfl, rfl, rfl, rfl⟩ rfl)) (ops7_15 _ _ ⟨rfl, rfl, rfl⟩ rfl)) (ops7_16 _ _ ⟨rfl, rfl⟩ rfl)) (op_offi 17 16 34 true rfl rfl (by kernel_rfl) (by kernel_rfl) rfl (fun v R h => by rw [hs7_16] at h; obtain ⟨h, _⟩ := h; exact h.trans (congrArg Value.bool (show (decide (t12 = t15)) = false from dec_f q18))) rfl rfl)) (op_offi 18 16 34 true rfl rfl (by kernel_rfl) (by kernel_rfl) rfl (fun v R h => by rw [hs7_16] at h; obtain ⟨h, _⟩ := h; exact h.trans (congrArg Value.bool (show (decide (t12 = t15)) = false from dec_f q18))) rfl rfl)) (op_offi 19 16 34 true rfl rfl (by kernel_rfl) (by kernel_rfl) rfl (fun v R h => by rw [hs7_16] at h; obtain ⟨h, _⟩ := h; exact h.trans (congrArg Value.bool (show (decide (t12 = t15)) = false from dec_f q18))) rfl rfl)) (op_offi 20 16 34 true rfl rfl (by kernel_rfl) (by kernel_rfl) rfl (fun v R h => by rw [hs7_16] at h; obtain ⟨h, _⟩ := h; exact h.trans (congrArg Value.bool (show (decide (t12 = t15)) = false from dec_f q18))) rfl rfl)) (op_offi 21 16 34 true rfl rfl (by kernel_rfl) (by kernel_rfl) rfl (fun v R h => by rw [hs7_16] at h; obtain ⟨h, _⟩ := h; exact h.trans (congrArg Value.bool (show (decide (t12 = t15)) = false from dec_f q18))) rfl rfl)) ?_
        intro vs Rs f' S' hp hf hx hS hR
        obtain ⟨x10, hv5, hR5⟩ := (spe rfl hs7_5 (hp 5 (by kernel_rfl)))
        obtain ⟨x14, hv10, hR10⟩ := (spe rfl hs7_10 (hp 10 (by kernel_rfl)))
        obtain ⟨x17, hv13, hR13⟩ := (spe rfl hs7_13 (hp 13 (by kernel_rfl)))
        obtain ⟨hv16, hR16⟩ := (spe rfl hs7_16 (hp 16 (by kernel_rfl)))
        obtain ⟨hv19, hR19⟩ := (spe rfl rfl (hp 19 (by kernel_rfl)) : spu _ _)
        obtain ⟨hv20, hR20⟩ := (spe rfl rfl (hp 20 (by kernel_rfl)) : spu _ _)
        obtain ⟨hv21, hR21⟩ := (spe rfl rfl (hp 21 (by kernel_rfl)) : spu _ _)
        refine ls_fr (F := upd f' 34 (.bool (decide (t12 = t15)))) (fr_next (rfl) ((hf 16 34 (by kernel_rfl) rfl).trans hv16)) ?_
        refine ls_sub (s0) (sub_nil _) ?_
        refine ls_know (c := false) (dec_f q18) 34 (by kernel_rfl) ?_
        refine ls_off (j := 16) (t := 34) (b := true) (c := false) rfl rfl (by kernel_rfl) (by kernel_rfl) rfl rfl (by kernel_rfl) ?_
        refine ls_off (j := 16) (t := 34) (b := true) (c := false) rfl rfl (by kernel_rfl) (by kernel_rfl) rfl rfl (by kernel_rfl) ?_
        refine ls_val (v := .bool false) rfl rfl (by kernel_rfl) (fun w => by kernel_rfl) ?_
        refine ls_val (v := .bool false) rfl rfl (by kernel_rfl) (fun w => by kernel_rfl) ?_
        refine ls_val (v := .bool false) rfl rfl (by kernel_rfl) (fun w => by kernel_rfl) ?_
        refine ls_val (v := .bool false) rfl rfl (by kernel_rfl) (fun w => by kernel_rfl) ?_
        refine ls_end ?_
        refine qn_then ?_
        refine cs_ret' ?_
        obtain rfl := Option.some.inj H
        refine qr_res (rs := [_]) rfl (fun w' hs => ⟨[.bool false], (res_tmp (by kernel_rfl) (.nil)), (), rfl, hs.pick (ts := []) (cs := []) trivial (by decide)⟩)
    · replace H := ite_f q11 H
      obtain ⟨s7_15, hs7_15⟩ : ∃ z : Value → Sto → Prop, z = (fun v R => v = .bool false ∧ R = s0) := ⟨_, rfl⟩
      refine have_op (l := [_, _, _, _, _, _, _, _, _, _, _, _, _, _, _, _, _, _, _, _, _, _, _, _, _, _, _, _]) shadowboxlaw06_PointerChecks.tab5 2 15 (fun sp => sp 15 = s7_15 ∧ sp 7 = s7_7 ∧ sp 14 = spu) (fun sp on hA hon => ?_) (fun ops7_15 => ?_)
      · refine ⟨fun o ho vs Rs f' S' w hp hf hx hS hR hs => ?_⟩
        obtain rfl := Option.some.inj ho
        obtain ⟨hv7, hR7⟩ := (spe hA.2.1 hs7_7 (hp 7 (by kernel_rfl)))
        obtain ⟨hv14, hR14⟩ := (spe hA.2.2 rfl (hp 14 (by kernel_rfl)) : spu _ _)
        rw [hA.1, hs7_15]
        refine And.intro (fun a ha => (want_none rfl a ha).trans hon.symm) (And.intro (fun _ => ?_) (fun h => by rw [hon] at h; cases h))
        have hF := fr_next (fr_next (rfl) (((hf 7 25 (by kernel_rfl) rfl).trans hv7).trans (congrArg Value.bool (show ((t2.1 == t8.1) && ((t2.2.1 == t8.2.1) && ((t2.2.2.1 == t8.2.2.1) && ((t2.2.2.2.1 == t8.2.2.2.1) && (t2.2.2.2.2.1 == t8.2.2.2.2.1))))) = false from Bool.eq_false_iff.mpr q11)))) ((hf 14 32 (by kernel_rfl) rfl).trans hv14)
        refine ls_fr hF ?_
        refine ls_val (v := .bool false) rfl rfl (by kernel_rfl) (fun w => by kernel_rfl) ?_
        exact ls_fin s0 (.bool false) (congrArg (fun z => upd z 33 _) hF.symm) ⟨rfl, rfl⟩ (sub_nil _)
      obtain ⟨s7_16, hs7_16⟩ : ∃ z : Value → Sto → Prop, z = (fun v R => v = .bool false ∧ R = s0) := ⟨_, rfl⟩
      refine have_op (l := [_, _, _, _, _, _, _, _, _, _, _, _, _, _, _, _, _, _, _, _, _, _, _, _, _, _, _, _]) shadowboxlaw06_PointerChecks.tab5 2 16 (fun sp => sp 16 = s7_16 ∧ sp 15 = s7_15) (fun sp on hA hon => ?_) (fun ops7_16 => ?_)
      · refine ⟨fun o ho vs Rs f' S' w hp hf hx hS hR hs => ?_⟩
        obtain rfl := Option.some.inj ho
        obtain ⟨hv15, hR15⟩ := (spe hA.2 hs7_15 (hp 15 (by kernel_rfl)))
        rw [hA.1, hs7_16]
        refine And.intro (fun a ha => (want_none rfl a ha).trans hon.symm) (And.intro (fun _ => ?_) (fun h => by rw [hon] at h; cases h))
        have hF := fr_next (rfl) ((hf 15 33 (by kernel_rfl) rfl).trans hv15)
        refine ls_fr hF ?_
        refine ls_val (v := .bool false) rfl rfl (by kernel_rfl) (fun w => by kernel_rfl) ?_
        exact ls_fin s0 (.bool false) (congrArg (fun z => upd z 34 _) hF.symm) ⟨rfl, rfl⟩ (sub_nil _)
      refine cs_draw shadowboxlaw06_PointerChecks.tab5 22 2 (spl [s7_0, s7_1, s7_2, s7_3, s7_4, s7_5, s7_6, s7_7, spu, spu, spu, spu, spu, spu, spu, s7_15, s7_16, spu, spu, spu, spu, spu]) (onl [true, true, true, true, true, true, true, true, false, false, false, false, false, false, false, true, true, false, false, false, false, false]) (by kernel_rfl) (by kernel_rfl) (by kernel_rfl) (by kernel_rfl) (rs := [_, _, _, _, _, _]) rfl (by kernel_rfl) (by kernel_rfl) (all_snoc (all_snoc (all_snoc (all_snoc (all_snoc (all_snoc (all_snoc (all_snoc (all_snoc (all_snoc (all_snoc (all_snoc (all_snoc (all_snoc (all_snoc (all_snoc (all_snoc (all_snoc (all_snoc (all_snoc (all_snoc (all_snoc (all_nil) (ops7_0 _ _ rfl rfl)) (ops7_1 _ _ rfl rfl)) (ops7_2 _ _ rfl rfl)) (ops7_3 _ _ ⟨rfl, rfl⟩ rfl)) (ops7_4 _ _ rfl rfl)) (ops7_5 _ _ ⟨rfl, rfl, rfl, rfl⟩ rfl)) (ops7_6 _ _ ⟨rfl, rfl, rfl⟩ rfl)) (ops7_7 _ _ ⟨rfl, rfl⟩ rfl)) (op_offi 8 7 25 true rfl rfl (by kernel_rfl) (by kernel_rfl) rfl (fun v R h => by rw [hs7_7] at h; obtain ⟨h, _⟩ := h; exact h.trans (congrArg Value.bool (show ((t2.1 == t8.1) && ((t2.2.1 == t8.2.1) && ((t2.2.2.1 == t8.2.2.1) && ((t2.2.2.2.1 == t8.2.2.2.1) && (t2.2.2.2.2.1 == t8.2.2.2.2.1))))) = false from Bool.eq_false_iff.mpr q11))) rfl rfl)) (op_offi 9 7 25 true rfl rfl (by kernel_rfl) (by kernel_rfl) rfl (fun v R h => by rw [hs7_7] at h; obtain ⟨h, _⟩ := h; exact h.trans (congrArg Value.bool (show ((t2.1 == t8.1) && ((t2.2.1 == t8.2.1) && ((t2.2.2.1 == t8.2.2.1) && ((t2.2.2.2.1 == t8.2.2.2.1) && (t2.2.2.2.2.1 == t8.2.2.2.2.1))))) = false from Bool.eq_false_iff.mpr q11))) rfl rfl)) (op_offi 10 7 25 true rfl rfl (by kernel_rfl) (by kernel_rfl) rfl (fun v R h => by rw [hs7_7] at h; obtain ⟨h, _⟩ := h; exact h.trans (congrArg Value.bool (show ((t2.1 == t8.1) && ((t2.2.1 == t8.2.1) && ((t2.2.2.1 == t8.2.2.1) && ((t2.2.2.2.1 == t8.2.2.2.1) && (t2.2.2.2.2.1 == t8.2.2.2.2.1))))) = false from Bool.eq_false_iff.mpr q11))) rfl rfl)) (op_offi 11 7 25 true rfl rfl (by kernel_rfl) (by kernel_rfl) rfl (fun v R h => by rw [hs7_7] at h; obtain ⟨h, _⟩ := h; exact h.trans (congrArg Value.bool (show ((t2.1 == t8.1) && ((t2.2.1 == t8.2.1) && ((t2.2.2.1 == t8.2.2.1) && ((t2.2.2.2.1 == t8.2.2.2.1) && (t2.2.2.2.2.1 == t8.2.2.2.2.1))))) = false from Bool.eq_false_iff.mpr q11))) rfl rfl)) (op_offi 12 7 25 true rfl rfl (by kernel_rfl) (by kernel_rfl) rfl (fun v R h => by rw [hs7_7] at h; obtain ⟨h, _⟩ := h; exact h.trans (congrArg Value.bool (show ((t2.1 == t8.1) && ((t2.2.1 == t8.2.1) && ((t2.2.2.1 == t8.2.2.1) && ((t2.2.2.2.1 == t8.2.2.2.1) && (t2.2.2.2.2.1 == t8.2.2.2.2.1))))) = false from Bool.eq_false_iff.mpr q11))) rfl rfl)) (op_offi 13 7 25 true rfl rfl (by kernel_rfl) (by kernel_rfl) rfl (fun v R h => by rw [hs7_7] at h; obtain ⟨h, _⟩ := h; exact h.trans (congrArg Value.bool (show ((t2.1 == t8.1) && ((t2.2.1 == t8.2.1) && ((t2.2.2.1 == t8.2.2.1) && ((t2.2.2.2.1 == t8.2.2.2.1) && (t2.2.2.2.2.1 == t8.2.2.2.2.1))))) = false from Bool.eq_false_iff.mpr q11))) rfl rfl)) (op_offi 14 7 25 true rfl rfl (by kernel_rfl) (by kernel_rfl) rfl (fun v R h => by rw [hs7_7] at h; obtain ⟨h, _⟩ := h; exact h.trans (congrArg Value.bool (show ((t2.1 == t8.1) && ((t2.2.1 == t8.2.1) && ((t2.2.2.1 == t8.2.2.1) && ((t2.2.2.2.1 == t8.2.2.2.1) && (t2.2.2.2.2.1 == t8.2.2.2.2.1))))) = false from Bool.eq_false_iff.mpr q11))) rfl rfl)) (ops7_15 _ _ ⟨rfl, rfl, rfl⟩ rfl)) (ops7_16 _ _ ⟨rfl, rfl⟩ rfl)) (op_offi 17 16 34 true rfl rfl (by kernel_rfl) (by kernel_rfl) rfl (fun v R h => by rw [hs7_16] at h; obtain ⟨h, _⟩ := h; exact h) rfl rfl)) (op_offi 18 16 34 true rfl rfl (by kernel_rfl) (by kernel_rfl) rfl (fun v R h => by rw [hs7_16] at h; obtain ⟨h, _⟩ := h; exact h) rfl rfl)) (op_offi 19 16 34 true rfl rfl (by kernel_rfl) (by kernel_rfl) rfl (fun v R h => by rw [hs7_16] at h; obtain ⟨h, _⟩ := h; exact h) rfl rfl)) (op_offi 20 16 34 true rfl rfl (by kernel_rfl) (by kernel_rfl) rfl (fun v R h => by rw [hs7_16] at h; obtain ⟨h, _⟩ := h; exact h) rfl rfl)) (op_offi 21 16 34 true rfl rfl (by kernel_rfl) (by kernel_rfl) rfl (fun v R h => by rw [hs7_16] at h; obtain ⟨h, _⟩ := h; exact h) rfl rfl)) ?_
      intro vs Rs f' S' hp hf hx hS hR
      obtain ⟨x10, hv5, hR5⟩ := (spe rfl hs7_5 (hp 5 (by kernel_rfl)))
      obtain ⟨hv16, hR16⟩ := (spe rfl hs7_16 (hp 16 (by kernel_rfl)))
      obtain ⟨hv19, hR19⟩ := (spe rfl rfl (hp 19 (by kernel_rfl)) : spu _ _)
      obtain ⟨hv20, hR20⟩ := (spe rfl rfl (hp 20 (by kernel_rfl)) : spu _ _)
      obtain ⟨hv21, hR21⟩ := (spe rfl rfl (hp 21 (by kernel_rfl)) : spu _ _)
      refine ls_fr (F := upd f' 34 (.bool false)) (fr_next (rfl) ((hf 16 34 (by kernel_rfl) rfl).trans hv16)) ?_
      refine ls_sub (s0) (sub_nil _) ?_
      refine ls_off (j := 16) (t := 34) (b := true) (c := false) rfl rfl (by kernel_rfl) (by kernel_rfl) rfl rfl (by kernel_rfl) ?_
      refine ls_off (j := 16) (t := 34) (b := true) (c := false) rfl rfl (by kernel_rfl) (by kernel_rfl) rfl rfl (by kernel_rfl) ?_
      refine ls_val (v := .bool false) rfl rfl (by kernel_rfl) (fun w => by kernel_rfl) ?_
      refine ls_val (v := .bool false) rfl rfl (by kernel_rfl) (fun w => by kernel_rfl) ?_
      refine ls_val (v := .bool false) rfl rfl (by kernel_rfl) (fun w => by kernel_rfl) ?_
      refine ls_val (v := .bool false) rfl rfl (by kernel_rfl) (fun w => by kernel_rfl) ?_
      refine ls_end ?_
      refine qn_then ?_
      refine cs_ret' ?_
      obtain rfl := Option.some.inj H
      refine qr_res (rs := [_]) rfl (fun w' hs => ⟨[.bool false], (res_tmp (by kernel_rfl) (.nil)), (), rfl, hs.pick (ts := []) (cs := []) trivial (by decide)⟩)

end Go.Proofs.Ytnjijflgafghmaa.G
