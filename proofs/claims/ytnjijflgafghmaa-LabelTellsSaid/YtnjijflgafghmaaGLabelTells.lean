/- Printed by a program of this session (sz.py): plain functions, and walks that show that the code comes to them; no condition. -/
import Derived.Test.YtnjijflgafghmaaProg
import Derived.Test.YtnjijflgafghmaaTy
import Derived.Test.YtnjijflgafghmaaG0
import Derived.Test.YtnjijflgafghmaaG1
import Derived.Test.YtnjijflgafghmaaG2
set_option linter.unusedVariables false
set_option linter.unusedSimpArgs false
namespace Go.Proofs.Ytnjijflgafghmaa.G
open Go Go.RowKit Go.Proofs.Ytnjijflgafghmaa.Sx

/-! ### shadowbox/shadowboxlaw08.LabelTells: function 6 -/
def shadowboxlaw08_LabelTells.jo1 (k : Nat) (a0 : (Int × (Int × Int × Int × Int × (Vc Int 32)) × Int)) (l1_1 : List Int) : Option (Bool) := (label_Seal.f k a0).bind fun t2 => (shadowboxref08_Seal.f k a0).bind fun t5 => (label_Open.f k l1_1).bind fun t8 => (shadowboxref08_Open.f k l1_1).bind fun t12 => (label_Seal.f k ((2 : Int), ((0 : Int), (0 : Int), (0 : Int), (0 : Int), (vrep 32 (0 : Int))), (1 : Int))).bind fun t16 => (if ((strOfNums t2.1).toList == (strOfNums t5.1).toList) = true then (if t2.2.1 = t5.2.1 then (if t2.2.2 = t5.2.2 then (if ((t8.1.1 == t12.1.1) && (((t8.1.2.1.1 == t12.1.2.1.1) && ((t8.1.2.1.2.1 == t12.1.2.1.2.1) && ((t8.1.2.1.2.2.1 == t12.1.2.1.2.2.1) && ((t8.1.2.1.2.2.2.1 == t12.1.2.1.2.2.2.1) && (t8.1.2.1.2.2.2.2.1 == t12.1.2.1.2.2.2.2.1))))) && (t8.1.2.2 == t12.1.2.2))) = true then (if t8.2 = t12.2 then (if (t16.1.length : Int) = (512 : Int) then (if t16.2.1 = (0 : Int) then some (decide (t16.2.2 = (0 : Int))) else some false) else some false) else some false) else some false) else some false) else some false) else some false)
def shadowboxlaw08_LabelTells.f (k : Nat) (a0 : (Int × (Int × Int × Int × Int × (Vc Int 32)) × Int)) (l1 : List Int) : Option (Bool) :=
  (if (l1.length : Int) > (600 : Int) then (if (600 : Int) ≤ (l1.length : Int) then lt (l1.take ((600 : Int)).toNat) fun xl32 => (shadowboxlaw08_LabelTells.jo1 k a0) xl32 else none) else (shadowboxlaw08_LabelTells.jo1 k a0) l1)
set_option maxRecDepth 100000 in
set_option maxHeartbeats 4000000 in
theorem shadowboxlaw08_LabelTells.calls (k : Nat) (a0 : (Int × (Int × Int × Int × Int × (Vc Int 32)) × Int)) (A1 : Option Addr) (c1 : Nat) (l1 : List Int) (r : Bool) (b : Bs) (hs0 : St b (stl []) b.w) (R1 : Ro b A1 (em (Ec.int 5 .u8) l1)) (C1 : l1.length ≤ c1) (H : shadowboxlaw08_LabelTells.f k a0 l1 = some r) :
    Calls Try.prog 6 #[.agg ⟨([Value.int .i64 a0.1] ++ (([Value.int .i64 a0.2.1.1] ++ ([Value.int .i64 a0.2.1.2.1] ++ ([Value.int .i64 a0.2.1.2.2.1] ++ ([Value.int .u32 a0.2.1.2.2.2.1] ++ en (Value.int .u8) a0.2.1.2.2.2.2.1)))) ++ [Value.int .i64 a0.2.2]))⟩, .slice A1 l1.length c1] b.w fun e w' => ∃ x : Unit, e = .returned (.bool r) ∧ St b (stl []) w' := by
  unfold shadowboxlaw08_LabelTells.f at H
  refine enterb (n := 89) Try.func6 rfl (by kernel_rfl) (by kernel_rfl) hs0 ?_
  refine cs_sub (s0) (sub_nil _) ?_
  refine cs_seq ?_
  refine cs_region (l := [_, _]) ?_
  refine ls_new rfl rfl (by kernel_rfl) 0 (fun g => .pointer (some ⟨g, 0, none⟩)) (.cells ⟨([Value.int .i64 a0.1] ++ (([Value.int .i64 a0.2.1.1] ++ ([Value.int .i64 a0.2.1.2.1] ++ ([Value.int .i64 a0.2.1.2.2.1] ++ ([Value.int .u32 a0.2.1.2.2.2.1] ++ en (Value.int .u8) a0.2.1.2.2.2.2.1)))) ++ [Value.int .i64 a0.2.2]))⟩ 42) (fun w => by kernel_rfl) ?_
  intro g1
  refine ls_val (v := .bool false) rfl rfl (by kernel_rfl) (fun w => by kernel_rfl) ?_
  refine ls_end ?_
  refine qn_then ?_
  refine cs_cut (fun f S => ∃ (fR : Fr) (A1_1 : Option Addr) (c1_1 : Nat) (l1_1 : List Int), f = upd (upd fR 1 (.slice A1_1 l1_1.length c1_1)) 2 (.pointer (some ⟨g1, 0, none⟩)) ∧ S = sput s0 0 (some (Ck.var 42 g1 (([Value.int .i64 a0.1] ++ (([Value.int .i64 a0.2.1.1] ++ ([Value.int .i64 a0.2.1.2.1] ++ ([Value.int .i64 a0.2.1.2.2.1] ++ ([Value.int .u32 a0.2.1.2.2.2.1] ++ en (Value.int .u8) a0.2.1.2.2.2.2.1)))) ++ [Value.int .i64 a0.2.2]))))) ∧ Ro b A1_1 (em (Ec.int 5 .u8) l1_1) ∧ l1_1.length ≤ c1_1 ∧ shadowboxlaw08_LabelTells.jo1 k a0 l1_1 = some r) ?_ ?_
  · skip
    refine cs_seq ?_
    refine cs_region (l := [_, _, _]) ?_
    refine ls_val (v := .slice A1 l1.length c1) rfl rfl (by kernel_rfl) (fun w => by kernel_rfl) ?_
    refine ls_val (v := .int .i64 (l1.length : Int)) rfl rfl (by kernel_rfl) (fun w => by kernel_rfl) ?_
    refine ls_val (v := .bool (decide ((l1.length : Int) > (600 : Int)))) rfl rfl (by kernel_rfl) (fun w => by kernel_rfl) ?_
    refine ls_end ?_
    refine qn_then ?_
    by_cases q26 : (l1.length : Int) > (600 : Int)
    · replace H := ite_t q26 H
      refine cs_know (c := true) (dec_t q26) 20 (by kernel_rfl) ?_
      refine cs_true (by kernel_rfl) ?_
      refine cs_region (l := [_, _, _]) ?_
      refine ls_val (v := .slice A1 l1.length c1) rfl rfl (by kernel_rfl) (fun w => by kernel_rfl) ?_
      obtain ⟨q27, H⟩ := ite_need H
      obtain ⟨xl32, hy33, H⟩ := lt_some H
      have hz35 : 0 ≤ ((600 : Int)).toNat := by omega
      have hz36 : ((600 : Int)).toNat ≤ l1.length := by omega
      obtain ⟨xA28, xc29, he34, xC31, xR30⟩ := cut_at (A := A1) (c := c1) (l := l1) (Ec.int 5 .u8) 0 (((600 : Int)).toNat) hz35 hz36 C1 R1 (m := xl32) (by rw [← hy33] <;> simp) (z := 1) rfl
      refine ls_cutv (A := A1) (c := c1) (m := l1.length) (z := 1) (e := 5) (a := 0) (b := ((600 : Int)).toNat) rfl rfl (by kernel_rfl) rfl (by kernel_rfl) (by kernel_rfl) (by kernel_rfl) (.inl ⟨rfl, rfl⟩) (.inr ⟨.i64, by rw [Int.toNat_of_nonneg (by first | assumption | omega)]; kernel_rfl⟩) hz35 hz36 C1 he34 ?_
      refine ls_val (v := .slice xA28 xl32.length xc29) rfl rfl (by kernel_rfl) (fun w => by kernel_rfl) ?_
      refine ls_end ?_
      refine qn_meet (sput s0 0 (some (Ck.var 42 g1 (([Value.int .i64 a0.1] ++ (([Value.int .i64 a0.2.1.1] ++ ([Value.int .i64 a0.2.1.2.1] ++ ([Value.int .i64 a0.2.1.2.2.1] ++ ([Value.int .u32 a0.2.1.2.2.2.1] ++ en (Value.int .u8) a0.2.1.2.2.2.2.1)))) ++ [Value.int .i64 a0.2.2])))))) ⟨_, xA28, xc29, xl32, fr_next (fr_next (rfl) (by kernel_rfl)) (by kernel_rfl), rfl, xR30, xC31, H⟩ (sub_put (by exact rfl) (sub_nil _))
    · replace H := ite_f q26 H
      refine cs_know (c := false) (dec_f q26) 20 (by kernel_rfl) ?_
      refine cs_false (by kernel_rfl) ?_
      refine cs_skip' ?_
      refine qn_meet (sput s0 0 (some (Ck.var 42 g1 (([Value.int .i64 a0.1] ++ (([Value.int .i64 a0.2.1.1] ++ ([Value.int .i64 a0.2.1.2.1] ++ ([Value.int .i64 a0.2.1.2.2.1] ++ ([Value.int .u32 a0.2.1.2.2.2.1] ++ en (Value.int .u8) a0.2.1.2.2.2.2.1)))) ++ [Value.int .i64 a0.2.2])))))) ⟨_, A1, c1, l1, fr_next (fr_next (rfl) (by kernel_rfl)) (by kernel_rfl), rfl, R1, C1, H⟩ (sub_put (by exact rfl) (sub_nil _))
  · rintro f S ⟨fr1, A1_1, c1_1, l1_1, rfl, rfl, R1_1, C1_1, H⟩
    replace H : ((label_Seal.f k a0).bind fun t2 => (shadowboxref08_Seal.f k a0).bind fun t5 => (label_Open.f k l1_1).bind fun t8 => (shadowboxref08_Open.f k l1_1).bind fun t12 => (label_Seal.f k ((2 : Int), ((0 : Int), (0 : Int), (0 : Int), (0 : Int), (vrep 32 (0 : Int))), (1 : Int))).bind fun t16 => (if ((strOfNums t2.1).toList == (strOfNums t5.1).toList) = true then (if t2.2.1 = t5.2.1 then (if t2.2.2 = t5.2.2 then (if ((t8.1.1 == t12.1.1) && (((t8.1.2.1.1 == t12.1.2.1.1) && ((t8.1.2.1.2.1 == t12.1.2.1.2.1) && ((t8.1.2.1.2.2.1 == t12.1.2.1.2.2.1) && ((t8.1.2.1.2.2.2.1 == t12.1.2.1.2.2.2.1) && (t8.1.2.1.2.2.2.2.1 == t12.1.2.1.2.2.2.2.1))))) && (t8.1.2.2 == t12.1.2.2))) = true then (if t8.2 = t12.2 then (if (t16.1.length : Int) = (512 : Int) then (if t16.2.1 = (0 : Int) then some (decide (t16.2.2 = (0 : Int))) else some false) else some false) else some false) else some false) else some false) else some false) else some false)) = some r := H
    refine cs_seq ?_
    refine cs_region (l := [_, _, _, _, _, _, _, _, _]) ?_
    refine ls_loadagg (a := ⟨g1, 0, none⟩) (sub := ([Value.int .i64 a0.1] ++ (([Value.int .i64 a0.2.1.1] ++ ([Value.int .i64 a0.2.1.2.1] ++ ([Value.int .i64 a0.2.1.2.2.1] ++ ([Value.int .u32 a0.2.1.2.2.2.1] ++ en (Value.int .u8) a0.2.1.2.2.2.2.1)))) ++ [Value.int .i64 a0.2.2]))) rfl rfl (by kernel_rfl) rfl (by kernel_rfl) (by kernel_rfl) (by kernel_rfl) (len_app (len1 _) (len_app (len_app (len1 _) (len_app (len1 _) (len_app (len1 _) (len_app (len1 _) (len_en _ a0.2.1.2.2.2.2))))) (len1 _))) (fun w hs => (hs.vars (k := 0) (by exact rfl) (Sub4.all _))) ?_
    obtain ⟨t2, hc3, H⟩ := bind_some H
    refine ls_callb (fid := 24) (vals := #[.agg ⟨([Value.int .i64 a0.1] ++ (([Value.int .i64 a0.2.1.1] ++ ([Value.int .i64 a0.2.1.2.1] ++ ([Value.int .i64 a0.2.1.2.2.1] ++ ([Value.int .u32 a0.2.1.2.2.2.1] ++ en (Value.int .u8) a0.2.1.2.2.2.2.1)))) ++ [Value.int .i64 a0.2.2]))⟩]) (X := (Option Addr × Nat)) (fun x => .tuple #[.slice x.1 t2.1.length x.2, .int .i64 t2.2.1, .int .i64 t2.2.2]) (fun x => stl [Ck.sl (Ec.int 5 .u8) x.1 x.2 t2.1]) [] [] [] [] 1 rfl rfl (by kernel_rfl) (fun w => by kernel_rfl) trivial trivial (by decide) (fun w hs hb => label_Seal.calls k a0 t2 (lent b w [] []) hb  hc3) ?_
    intro x4
    refine ls_val (v := .tuple #[.slice x4.1 t2.1.length x4.2, .int .i64 t2.2.1, .int .i64 t2.2.2]) rfl rfl (by kernel_rfl) (fun w => by kernel_rfl) ?_
    refine ls_val (v := .slice x4.1 t2.1.length x4.2) rfl rfl (by kernel_rfl) (fun w => by kernel_rfl) ?_
    refine ls_val (v := .int .i64 t2.2.1) rfl rfl (by kernel_rfl) (fun w => by kernel_rfl) ?_
    refine ls_val (v := .int .i64 t2.2.2) rfl rfl (by kernel_rfl) (fun w => by kernel_rfl) ?_
    refine ls_val (v := .slice x4.1 t2.1.length x4.2) rfl rfl (by kernel_rfl) (fun w => by kernel_rfl) ?_
    refine ls_val (v := .int .i64 t2.2.1) rfl rfl (by kernel_rfl) (fun w => by kernel_rfl) ?_
    refine ls_val (v := .int .i64 t2.2.2) rfl rfl (by kernel_rfl) (fun w => by kernel_rfl) ?_
    refine ls_end ?_
    refine qn_then ?_
    refine cs_seq ?_
    refine cs_region (l := [_, _, _, _, _, _, _, _, _]) ?_
    refine ls_loadagg (a := ⟨g1, 0, none⟩) (sub := ([Value.int .i64 a0.1] ++ (([Value.int .i64 a0.2.1.1] ++ ([Value.int .i64 a0.2.1.2.1] ++ ([Value.int .i64 a0.2.1.2.2.1] ++ ([Value.int .u32 a0.2.1.2.2.2.1] ++ en (Value.int .u8) a0.2.1.2.2.2.2.1)))) ++ [Value.int .i64 a0.2.2]))) rfl rfl (by kernel_rfl) rfl (by kernel_rfl) (by kernel_rfl) (by kernel_rfl) (len_app (len1 _) (len_app (len_app (len1 _) (len_app (len1 _) (len_app (len1 _) (len_app (len1 _) (len_en _ a0.2.1.2.2.2.2))))) (len1 _))) (fun w hs => (hs.vars (k := 0) (by exact rfl) (Sub4.all _))) ?_
    obtain ⟨t5, hc6, H⟩ := bind_some H
    refine ls_callb (fid := 25) (vals := #[.agg ⟨([Value.int .i64 a0.1] ++ (([Value.int .i64 a0.2.1.1] ++ ([Value.int .i64 a0.2.1.2.1] ++ ([Value.int .i64 a0.2.1.2.2.1] ++ ([Value.int .u32 a0.2.1.2.2.2.1] ++ en (Value.int .u8) a0.2.1.2.2.2.2.1)))) ++ [Value.int .i64 a0.2.2]))⟩]) (X := (Option Addr × Nat)) (fun x => .tuple #[.slice x.1 t5.1.length x.2, .int .i64 t5.2.1, .int .i64 t5.2.2]) (fun x => stl [Ck.sl (Ec.int 5 .u8) x.1 x.2 t5.1]) [] [] [] [] 2 rfl rfl (by kernel_rfl) (fun w => by kernel_rfl) trivial trivial (by decide) (fun w hs hb => shadowboxref08_Seal.calls k a0 t5 (lent b w [] []) hb  hc6) ?_
    intro x7
    refine ls_val (v := .tuple #[.slice x7.1 t5.1.length x7.2, .int .i64 t5.2.1, .int .i64 t5.2.2]) rfl rfl (by kernel_rfl) (fun w => by kernel_rfl) ?_
    refine ls_val (v := .slice x7.1 t5.1.length x7.2) rfl rfl (by kernel_rfl) (fun w => by kernel_rfl) ?_
    refine ls_val (v := .int .i64 t5.2.1) rfl rfl (by kernel_rfl) (fun w => by kernel_rfl) ?_
    refine ls_val (v := .int .i64 t5.2.2) rfl rfl (by kernel_rfl) (fun w => by kernel_rfl) ?_
    refine ls_val (v := .slice x7.1 t5.1.length x7.2) rfl rfl (by kernel_rfl) (fun w => by kernel_rfl) ?_
    refine ls_val (v := .int .i64 t5.2.1) rfl rfl (by kernel_rfl) (fun w => by kernel_rfl) ?_
    refine ls_val (v := .int .i64 t5.2.2) rfl rfl (by kernel_rfl) (fun w => by kernel_rfl) ?_
    refine ls_end ?_
    refine qn_then ?_
    refine cs_seq ?_
    refine cs_region (l := [_, _, _, _, _, _, _, _]) ?_
    refine ls_val (v := .slice A1_1 l1_1.length c1_1) rfl rfl (by kernel_rfl) (fun w => by kernel_rfl) ?_
    obtain ⟨t8, hc9, H⟩ := bind_some H
    refine ls_callb (fid := 26) (vals := #[.slice A1_1 l1_1.length c1_1]) (X := Unit) (fun x => .tuple #[.agg ⟨([Value.int .i64 t8.1.1] ++ (([Value.int .i64 t8.1.2.1.1] ++ ([Value.int .i64 t8.1.2.1.2.1] ++ ([Value.int .i64 t8.1.2.1.2.2.1] ++ ([Value.int .u32 t8.1.2.1.2.2.2.1] ++ en (Value.int .u8) t8.1.2.1.2.2.2.2.1)))) ++ [Value.int .i64 t8.1.2.2]))⟩, .int .i64 t8.2]) (fun x => stl []) [] [] [] [] 3 rfl rfl (by kernel_rfl) (fun w => by kernel_rfl) trivial trivial (by decide) (fun w hs hb => label_Open.calls k A1_1 c1_1 l1_1 t8 (lent b w [] []) hb (hs.ro R1_1 _ _) C1_1 hc9) ?_
    intro x10
    refine ls_val (v := .tuple #[.agg ⟨([Value.int .i64 t8.1.1] ++ (([Value.int .i64 t8.1.2.1.1] ++ ([Value.int .i64 t8.1.2.1.2.1] ++ ([Value.int .i64 t8.1.2.1.2.2.1] ++ ([Value.int .u32 t8.1.2.1.2.2.2.1] ++ en (Value.int .u8) t8.1.2.1.2.2.2.2.1)))) ++ [Value.int .i64 t8.1.2.2]))⟩, .int .i64 t8.2]) rfl rfl (by kernel_rfl) (fun w => by kernel_rfl) ?_
    refine ls_val (v := .agg ⟨([Value.int .i64 t8.1.1] ++ (([Value.int .i64 t8.1.2.1.1] ++ ([Value.int .i64 t8.1.2.1.2.1] ++ ([Value.int .i64 t8.1.2.1.2.2.1] ++ ([Value.int .u32 t8.1.2.1.2.2.2.1] ++ en (Value.int .u8) t8.1.2.1.2.2.2.2.1)))) ++ [Value.int .i64 t8.1.2.2]))⟩) rfl rfl (by kernel_rfl) (fun w => by kernel_rfl) ?_
    refine ls_val (v := .int .i64 t8.2) rfl rfl (by kernel_rfl) (fun w => by kernel_rfl) ?_
    refine ls_new rfl rfl (by kernel_rfl) 3 (fun g => .pointer (some ⟨g, 0, none⟩)) (.cells ⟨([Value.int .i64 (0 : Int)] ++ (([Value.int .i64 (0 : Int)] ++ ([Value.int .i64 (0 : Int)] ++ ([Value.int .i64 (0 : Int)] ++ ([Value.int .u32 (0 : Int)] ++ en (Value.int .u8) (vrep 32 (0 : Int)).1)))) ++ [Value.int .i64 (0 : Int)]))⟩ 42) (fun w => by kernel_rfl) ?_
    intro g11
    refine ls_storec (g := g11) (off := 0) (v := .agg ⟨([Value.int .i64 t8.1.1] ++ (([Value.int .i64 t8.1.2.1.1] ++ ([Value.int .i64 t8.1.2.1.2.1] ++ ([Value.int .i64 t8.1.2.1.2.2.1] ++ ([Value.int .u32 t8.1.2.1.2.2.2.1] ++ en (Value.int .u8) t8.1.2.1.2.2.2.2.1)))) ++ [Value.int .i64 t8.1.2.2]))⟩) (vs := ([Value.int .i64 t8.1.1] ++ (([Value.int .i64 t8.1.2.1.1] ++ ([Value.int .i64 t8.1.2.1.2.1] ++ ([Value.int .i64 t8.1.2.1.2.2.1] ++ ([Value.int .u32 t8.1.2.1.2.2.2.1] ++ en (Value.int .u8) t8.1.2.1.2.2.2.2.1)))) ++ [Value.int .i64 t8.1.2.2]))) (cs := ([Value.int .i64 (0 : Int)] ++ (([Value.int .i64 (0 : Int)] ++ ([Value.int .i64 (0 : Int)] ++ ([Value.int .i64 (0 : Int)] ++ ([Value.int .u32 (0 : Int)] ++ en (Value.int .u8) (vrep 32 (0 : Int)).1)))) ++ [Value.int .i64 (0 : Int)]))) (ty := 42) 3 rfl rfl rfl (by kernel_rfl) (by kernel_rfl) (by kernel_rfl) (by exact rfl) (by kernel_rfl) (len_app (len1 _) (len_app (len_app (len1 _) (len_app (len1 _) (len_app (len1 _) (len_app (len1 _) (len_en _ t8.1.2.1.2.2.2.2))))) (len1 _))) (one_app (one_cons rfl one_nil) (one_app (one_app (one_cons rfl one_nil) (one_app (one_cons rfl one_nil) (one_app (one_cons rfl one_nil) (one_app (one_cons rfl one_nil) (one_en (fun _ => rfl) _))))) (one_cons rfl one_nil))) (hl_of (Sub4.all _) (len_eq (len_app (len1 _) (len_app (len_app (len1 _) (len_app (len1 _) (len_app (len1 _) (len_app (len1 _) (len_en _ t8.1.2.1.2.2.2.2))))) (len1 _))) (len_app (len1 _) (len_app (len_app (len1 _) (len_app (len1 _) (len_app (len1 _) (len_app (len1 _) (len_en _ (vrep 32 (0 : Int))))))) (len1 _))))) (cs' := ([Value.int .i64 t8.1.1] ++ (([Value.int .i64 t8.1.2.1.1] ++ ([Value.int .i64 t8.1.2.1.2.1] ++ ([Value.int .i64 t8.1.2.1.2.2.1] ++ ([Value.int .u32 t8.1.2.1.2.2.2.1] ++ en (Value.int .u8) t8.1.2.1.2.2.2.2.1)))) ++ [Value.int .i64 t8.1.2.2]))) (splc_all (len_eq (len_app (len1 _) (len_app (len_app (len1 _) (len_app (len1 _) (len_app (len1 _) (len_app (len1 _) (len_en _ t8.1.2.1.2.2.2.2))))) (len1 _))) (len_app (len1 _) (len_app (len_app (len1 _) (len_app (len1 _) (len_app (len1 _) (len_app (len1 _) (len_en _ (vrep 32 (0 : Int))))))) (len1 _))))) ?_
    refine ls_val (v := .int .i64 t8.2) rfl rfl (by kernel_rfl) (fun w => by kernel_rfl) ?_
    refine ls_end ?_
    refine qn_then ?_
    refine cs_seq ?_
    refine cs_region (l := [_, _, _, _, _, _, _, _]) ?_
    refine ls_val (v := .slice A1_1 l1_1.length c1_1) rfl rfl (by kernel_rfl) (fun w => by kernel_rfl) ?_
    obtain ⟨t12, hc13, H⟩ := bind_some H
    refine ls_callb (fid := 27) (vals := #[.slice A1_1 l1_1.length c1_1]) (X := Unit) (fun x => .tuple #[.agg ⟨([Value.int .i64 t12.1.1] ++ (([Value.int .i64 t12.1.2.1.1] ++ ([Value.int .i64 t12.1.2.1.2.1] ++ ([Value.int .i64 t12.1.2.1.2.2.1] ++ ([Value.int .u32 t12.1.2.1.2.2.2.1] ++ en (Value.int .u8) t12.1.2.1.2.2.2.2.1)))) ++ [Value.int .i64 t12.1.2.2]))⟩, .int .i64 t12.2]) (fun x => stl []) [] [] [] [] 4 rfl rfl (by kernel_rfl) (fun w => by kernel_rfl) trivial trivial (by decide) (fun w hs hb => shadowboxref08_Open.calls k A1_1 c1_1 l1_1 t12 (lent b w [] []) hb (hs.ro R1_1 _ _) C1_1 hc13) ?_
    intro x14
    refine ls_val (v := .tuple #[.agg ⟨([Value.int .i64 t12.1.1] ++ (([Value.int .i64 t12.1.2.1.1] ++ ([Value.int .i64 t12.1.2.1.2.1] ++ ([Value.int .i64 t12.1.2.1.2.2.1] ++ ([Value.int .u32 t12.1.2.1.2.2.2.1] ++ en (Value.int .u8) t12.1.2.1.2.2.2.2.1)))) ++ [Value.int .i64 t12.1.2.2]))⟩, .int .i64 t12.2]) rfl rfl (by kernel_rfl) (fun w => by kernel_rfl) ?_
    refine ls_val (v := .agg ⟨([Value.int .i64 t12.1.1] ++ (([Value.int .i64 t12.1.2.1.1] ++ ([Value.int .i64 t12.1.2.1.2.1] ++ ([Value.int .i64 t12.1.2.1.2.2.1] ++ ([Value.int .u32 t12.1.2.1.2.2.2.1] ++ en (Value.int .u8) t12.1.2.1.2.2.2.2.1)))) ++ [Value.int .i64 t12.1.2.2]))⟩) rfl rfl (by kernel_rfl) (fun w => by kernel_rfl) ?_
    refine ls_val (v := .int .i64 t12.2) rfl rfl (by kernel_rfl) (fun w => by kernel_rfl) ?_
    refine ls_new rfl rfl (by kernel_rfl) 4 (fun g => .pointer (some ⟨g, 0, none⟩)) (.cells ⟨([Value.int .i64 (0 : Int)] ++ (([Value.int .i64 (0 : Int)] ++ ([Value.int .i64 (0 : Int)] ++ ([Value.int .i64 (0 : Int)] ++ ([Value.int .u32 (0 : Int)] ++ en (Value.int .u8) (vrep 32 (0 : Int)).1)))) ++ [Value.int .i64 (0 : Int)]))⟩ 47) (fun w => by kernel_rfl) ?_
    intro g15
    refine ls_storec (g := g15) (off := 0) (v := .agg ⟨([Value.int .i64 t12.1.1] ++ (([Value.int .i64 t12.1.2.1.1] ++ ([Value.int .i64 t12.1.2.1.2.1] ++ ([Value.int .i64 t12.1.2.1.2.2.1] ++ ([Value.int .u32 t12.1.2.1.2.2.2.1] ++ en (Value.int .u8) t12.1.2.1.2.2.2.2.1)))) ++ [Value.int .i64 t12.1.2.2]))⟩) (vs := ([Value.int .i64 t12.1.1] ++ (([Value.int .i64 t12.1.2.1.1] ++ ([Value.int .i64 t12.1.2.1.2.1] ++ ([Value.int .i64 t12.1.2.1.2.2.1] ++ ([Value.int .u32 t12.1.2.1.2.2.2.1] ++ en (Value.int .u8) t12.1.2.1.2.2.2.2.1)))) ++ [Value.int .i64 t12.1.2.2]))) (cs := ([Value.int .i64 (0 : Int)] ++ (([Value.int .i64 (0 : Int)] ++ ([Value.int .i64 (0 : Int)] ++ ([Value.int .i64 (0 : Int)] ++ ([Value.int .u32 (0 : Int)] ++ en (Value.int .u8) (vrep 32 (0 : Int)).1)))) ++ [Value.int .i64 (0 : Int)]))) (ty := 47) 4 rfl rfl rfl (by kernel_rfl) (by kernel_rfl) (by kernel_rfl) (by exact rfl) (by kernel_rfl) (len_app (len1 _) (len_app (len_app (len1 _) (len_app (len1 _) (len_app (len1 _) (len_app (len1 _) (len_en _ t12.1.2.1.2.2.2.2))))) (len1 _))) (one_app (one_cons rfl one_nil) (one_app (one_app (one_cons rfl one_nil) (one_app (one_cons rfl one_nil) (one_app (one_cons rfl one_nil) (one_app (one_cons rfl one_nil) (one_en (fun _ => rfl) _))))) (one_cons rfl one_nil))) (hl_of (Sub4.all _) (len_eq (len_app (len1 _) (len_app (len_app (len1 _) (len_app (len1 _) (len_app (len1 _) (len_app (len1 _) (len_en _ t12.1.2.1.2.2.2.2))))) (len1 _))) (len_app (len1 _) (len_app (len_app (len1 _) (len_app (len1 _) (len_app (len1 _) (len_app (len1 _) (len_en _ (vrep 32 (0 : Int))))))) (len1 _))))) (cs' := ([Value.int .i64 t12.1.1] ++ (([Value.int .i64 t12.1.2.1.1] ++ ([Value.int .i64 t12.1.2.1.2.1] ++ ([Value.int .i64 t12.1.2.1.2.2.1] ++ ([Value.int .u32 t12.1.2.1.2.2.2.1] ++ en (Value.int .u8) t12.1.2.1.2.2.2.2.1)))) ++ [Value.int .i64 t12.1.2.2]))) (splc_all (len_eq (len_app (len1 _) (len_app (len_app (len1 _) (len_app (len1 _) (len_app (len1 _) (len_app (len1 _) (len_en _ t12.1.2.1.2.2.2.2))))) (len1 _))) (len_app (len1 _) (len_app (len_app (len1 _) (len_app (len1 _) (len_app (len1 _) (len_app (len1 _) (len_en _ (vrep 32 (0 : Int))))))) (len1 _))))) ?_
    refine ls_val (v := .int .i64 t12.2) rfl rfl (by kernel_rfl) (fun w => by kernel_rfl) ?_
    refine ls_end ?_
    refine qn_then ?_
    refine cs_seq ?_
    refine cs_region (l := [_, _, _, _, _, _, _, _, _]) ?_
    refine ls_build (ps := [(0, .int .i64 (2 : Int)), (2, .int .i64 (1 : Int))]) (pl := #[(0, 1), (1, 36), (37, 1)]) (zv := .agg ⟨([Value.int .i64 (0 : Int)] ++ (([Value.int .i64 (0 : Int)] ++ ([Value.int .i64 (0 : Int)] ++ ([Value.int .i64 (0 : Int)] ++ ([Value.int .u32 (0 : Int)] ++ en (Value.int .u8) (vrep 32 (0 : Int)).1)))) ++ [Value.int .i64 (0 : Int)]))⟩) (zc := ([Value.int .i64 (0 : Int)] ++ (([Value.int .i64 (0 : Int)] ++ ([Value.int .i64 (0 : Int)] ++ ([Value.int .i64 (0 : Int)] ++ ([Value.int .u32 (0 : Int)] ++ en (Value.int .u8) (vrep 32 (0 : Int)).1)))) ++ [Value.int .i64 (0 : Int)]))) (r := ([Value.int .i64 (2 : Int)] ++ (([Value.int .i64 (0 : Int)] ++ ([Value.int .i64 (0 : Int)] ++ ([Value.int .i64 (0 : Int)] ++ ([Value.int .u32 (0 : Int)] ++ en (Value.int .u8) (vrep 32 (0 : Int)).1)))) ++ [Value.int .i64 (1 : Int)]))) rfl rfl (by kernel_rfl) rfl (by kernel_rfl) (by kernel_rfl) (fun w => by kernel_rfl) (fun w => by kernel_rfl) rfl (fill_cons (vs := [Value.int .i64 (2 : Int)]) (cs' := ([Value.int .i64 (2 : Int)] ++ (([Value.int .i64 (0 : Int)] ++ ([Value.int .i64 (0 : Int)] ++ ([Value.int .i64 (0 : Int)] ++ ([Value.int .u32 (0 : Int)] ++ en (Value.int .u8) (vrep 32 (0 : Int)).1)))) ++ [Value.int .i64 (0 : Int)]))) (off := 0) (size := 1) rfl (by kernel_rfl) (len1 _) (le_of_len (len_app (len1 _) (len_app (len_app (len1 _) (len_app (len1 _) (len_app (len1 _) (len_app (len1 _) (len_en _ (vrep 32 (0 : Int))))))) (len1 _))) (by decide)) (splc_in (Sub4.all _) (splc_head (len_eq (len1 _) (len1 _))) (splc_all (len_eq (len_app (len1 _) (len_app (len_app (len1 _) (len_app (len1 _) (len_app (len1 _) (len_app (len1 _) (len_en _ (vrep 32 (0 : Int))))))) (len1 _))) (len_app (len1 _) (len_app (len_app (len1 _) (len_app (len1 _) (len_app (len1 _) (len_app (len1 _) (len_en _ (vrep 32 (0 : Int))))))) (len1 _))))) (hl_of (Sub4.head _ _) (len_eq (len1 _) (len1 _)))) (fill_cons (vs := [Value.int .i64 (1 : Int)]) (cs' := ([Value.int .i64 (2 : Int)] ++ (([Value.int .i64 (0 : Int)] ++ ([Value.int .i64 (0 : Int)] ++ ([Value.int .i64 (0 : Int)] ++ ([Value.int .u32 (0 : Int)] ++ en (Value.int .u8) (vrep 32 (0 : Int)).1)))) ++ [Value.int .i64 (1 : Int)]))) (off := 37) (size := 1) rfl (by kernel_rfl) (len1 _) (le_of_len (len_app (len1 _) (len_app (len_app (len1 _) (len_app (len1 _) (len_app (len1 _) (len_app (len1 _) (len_en _ (vrep 32 (0 : Int))))))) (len1 _))) (by decide)) (splc_in (Sub4.all _) (splc_skip (n := 1) (len1 _) (splc_skip (n := 36) (len_app (len1 _) (len_app (len1 _) (len_app (len1 _) (len_app (len1 _) (len_en _ (vrep 32 (0 : Int))))))) (splc_all (len_eq (len1 _) (len1 _))))) (splc_all (len_eq (len_app (len1 _) (len_app (len_app (len1 _) (len_app (len1 _) (len_app (len1 _) (len_app (len1 _) (len_en _ (vrep 32 (0 : Int))))))) (len1 _))) (len_app (len1 _) (len_app (len_app (len1 _) (len_app (len1 _) (len_app (len1 _) (len_app (len1 _) (len_en _ (vrep 32 (0 : Int))))))) (len1 _))))) (hl_of (Sub4.skip (n := 1) (len1 _) (Sub4.skip (n := 36) (len_app (len1 _) (len_app (len1 _) (len_app (len1 _) (len_app (len1 _) (len_en _ (vrep 32 (0 : Int))))))) (Sub4.all _))) (len_eq (len1 _) (len1 _)))) fill_nil)) ?_
    obtain ⟨t16, hc17, H⟩ := bind_some H
    refine ls_callb (fid := 24) (vals := #[.agg ⟨([Value.int .i64 (2 : Int)] ++ (([Value.int .i64 (0 : Int)] ++ ([Value.int .i64 (0 : Int)] ++ ([Value.int .i64 (0 : Int)] ++ ([Value.int .u32 (0 : Int)] ++ en (Value.int .u8) (vrep 32 (0 : Int)).1)))) ++ [Value.int .i64 (1 : Int)]))⟩]) (X := (Option Addr × Nat)) (fun x => .tuple #[.slice x.1 t16.1.length x.2, .int .i64 t16.2.1, .int .i64 t16.2.2]) (fun x => stl [Ck.sl (Ec.int 5 .u8) x.1 x.2 t16.1]) [] [] [] [] 5 rfl rfl (by kernel_rfl) (fun w => by kernel_rfl) trivial trivial (by decide) (fun w hs hb => label_Seal.calls k ((2 : Int), ((0 : Int), (0 : Int), (0 : Int), (0 : Int), (vrep 32 (0 : Int))), (1 : Int)) t16 (lent b w [] []) hb  hc17) ?_
    intro x18
    refine ls_val (v := .tuple #[.slice x18.1 t16.1.length x18.2, .int .i64 t16.2.1, .int .i64 t16.2.2]) rfl rfl (by kernel_rfl) (fun w => by kernel_rfl) ?_
    refine ls_val (v := .slice x18.1 t16.1.length x18.2) rfl rfl (by kernel_rfl) (fun w => by kernel_rfl) ?_
    refine ls_val (v := .int .i64 t16.2.1) rfl rfl (by kernel_rfl) (fun w => by kernel_rfl) ?_
    refine ls_val (v := .int .i64 t16.2.2) rfl rfl (by kernel_rfl) (fun w => by kernel_rfl) ?_
    refine ls_val (v := .slice x18.1 t16.1.length x18.2) rfl rfl (by kernel_rfl) (fun w => by kernel_rfl) ?_
    refine ls_val (v := .int .i64 t16.2.1) rfl rfl (by kernel_rfl) (fun w => by kernel_rfl) ?_
    refine ls_val (v := .int .i64 t16.2.2) rfl rfl (by kernel_rfl) (fun w => by kernel_rfl) ?_
    refine ls_end ?_
    refine qn_then ?_
    refine cs_seq ?_
    refine cs_region (l := [_, _, _, _, _, _, _, _, _, _, _, _, _, _, _, _, _, _, _, _, _, _, _, _, _, _, _, _, _, _, _, _, _, _, _, _, _, _, _]) ?_
    refine ls_val (v := .slice x4.1 t2.1.length x4.2) rfl rfl (by kernel_rfl) (fun w => by kernel_rfl) ?_
    refine ls_str (A := x4.1) (c := x4.2) (e := 5) (l := t2.1) rfl rfl (by kernel_rfl) rfl (by kernel_rfl) (by kernel_rfl) (by kernel_rfl) (by kernel_rfl) (fun w hs => (hs.rd (k := 1) (by exact rfl))) ?_
    refine ls_val (v := .slice x7.1 t5.1.length x7.2) rfl rfl (by kernel_rfl) (fun w => by kernel_rfl) ?_
    refine ls_str (A := x7.1) (c := x7.2) (e := 5) (l := t5.1) rfl rfl (by kernel_rfl) rfl (by kernel_rfl) (by kernel_rfl) (by kernel_rfl) (by kernel_rfl) (fun w hs => (hs.rd (k := 2) (by exact rfl))) ?_
    refine ls_val (v := .bool ((strOfNums t2.1).toList == (strOfNums t5.1).toList)) rfl rfl (by kernel_rfl) (fun w => by kernel_rfl) ?_
    refine ls_val (v := .bool ((strOfNums t2.1).toList == (strOfNums t5.1).toList)) rfl rfl (by kernel_rfl) (fun w => by kernel_rfl) ?_
    by_cases q19 : ((strOfNums t2.1).toList == (strOfNums t5.1).toList) = true
    · replace H := ite_t q19 H
      refine ls_know (c := true) (q19) 56 (by kernel_rfl) ?_
      refine ls_on (j := 5) (t := 56) (b := true) rfl rfl (by kernel_rfl) (by kernel_rfl) ?_
      refine ls_val (v := .int .i64 t2.2.1) rfl rfl (by kernel_rfl) (fun w => by kernel_rfl) ?_
      refine ls_on (j := 5) (t := 56) (b := true) rfl rfl (by kernel_rfl) (by kernel_rfl) ?_
      refine ls_val (v := .int .i64 t5.2.1) rfl rfl (by kernel_rfl) (fun w => by kernel_rfl) ?_
      refine ls_on (j := 5) (t := 56) (b := true) rfl rfl (by kernel_rfl) (by kernel_rfl) ?_
      refine ls_val (v := .bool (decide (t2.2.1 = t5.2.1))) rfl rfl (by kernel_rfl) (fun w => by kernel_rfl) ?_
      refine ls_val (v := .bool (decide (t2.2.1 = t5.2.1))) rfl rfl (by kernel_rfl) (fun w => by kernel_rfl) ?_
      refine ls_val (v := .bool (decide (t2.2.1 = t5.2.1))) rfl rfl (by kernel_rfl) (fun w => by kernel_rfl) ?_
      by_cases q20 : t2.2.1 = t5.2.1
      · replace H := ite_t q20 H
        refine ls_know (c := true) (dec_t q20) 61 (by kernel_rfl) ?_
        refine ls_on (j := 10) (t := 61) (b := true) rfl rfl (by kernel_rfl) (by kernel_rfl) ?_
        refine ls_val (v := .int .i64 t2.2.2) rfl rfl (by kernel_rfl) (fun w => by kernel_rfl) ?_
        refine ls_on (j := 10) (t := 61) (b := true) rfl rfl (by kernel_rfl) (by kernel_rfl) ?_
        refine ls_val (v := .int .i64 t5.2.2) rfl rfl (by kernel_rfl) (fun w => by kernel_rfl) ?_
        refine ls_on (j := 10) (t := 61) (b := true) rfl rfl (by kernel_rfl) (by kernel_rfl) ?_
        refine ls_val (v := .bool (decide (t2.2.2 = t5.2.2))) rfl rfl (by kernel_rfl) (fun w => by kernel_rfl) ?_
        refine ls_val (v := .bool (decide (t2.2.2 = t5.2.2))) rfl rfl (by kernel_rfl) (fun w => by kernel_rfl) ?_
        refine ls_val (v := .bool (decide (t2.2.2 = t5.2.2))) rfl rfl (by kernel_rfl) (fun w => by kernel_rfl) ?_
        by_cases q21 : t2.2.2 = t5.2.2
        · replace H := ite_t q21 H
          refine ls_know (c := true) (dec_t q21) 66 (by kernel_rfl) ?_
          refine ls_on (j := 15) (t := 66) (b := true) rfl rfl (by kernel_rfl) (by kernel_rfl) ?_
          refine ls_loadagg (a := ⟨g11, 0, none⟩) (sub := ([Value.int .i64 t8.1.1] ++ (([Value.int .i64 t8.1.2.1.1] ++ ([Value.int .i64 t8.1.2.1.2.1] ++ ([Value.int .i64 t8.1.2.1.2.2.1] ++ ([Value.int .u32 t8.1.2.1.2.2.2.1] ++ en (Value.int .u8) t8.1.2.1.2.2.2.2.1)))) ++ [Value.int .i64 t8.1.2.2]))) rfl rfl (by kernel_rfl) rfl (by kernel_rfl) (by kernel_rfl) (by kernel_rfl) (len_app (len1 _) (len_app (len_app (len1 _) (len_app (len1 _) (len_app (len1 _) (len_app (len1 _) (len_en _ t8.1.2.1.2.2.2.2))))) (len1 _))) (fun w hs => (hs.vars (k := 3) (by exact rfl) (Sub4.all _))) ?_
          refine ls_on (j := 15) (t := 66) (b := true) rfl rfl (by kernel_rfl) (by kernel_rfl) ?_
          refine ls_loadagg (a := ⟨g15, 0, none⟩) (sub := ([Value.int .i64 t12.1.1] ++ (([Value.int .i64 t12.1.2.1.1] ++ ([Value.int .i64 t12.1.2.1.2.1] ++ ([Value.int .i64 t12.1.2.1.2.2.1] ++ ([Value.int .u32 t12.1.2.1.2.2.2.1] ++ en (Value.int .u8) t12.1.2.1.2.2.2.2.1)))) ++ [Value.int .i64 t12.1.2.2]))) rfl rfl (by kernel_rfl) rfl (by kernel_rfl) (by kernel_rfl) (by kernel_rfl) (len_app (len1 _) (len_app (len_app (len1 _) (len_app (len1 _) (len_app (len1 _) (len_app (len1 _) (len_en _ t12.1.2.1.2.2.2.2))))) (len1 _))) (fun w hs => (hs.vars (k := 4) (by exact rfl) (Sub4.all _))) ?_
          refine ls_on (j := 15) (t := 66) (b := true) rfl rfl (by kernel_rfl) (by kernel_rfl) ?_
          refine ls_eql (xs := ([Value.int .i64 t8.1.1] ++ (([Value.int .i64 t8.1.2.1.1] ++ ([Value.int .i64 t8.1.2.1.2.1] ++ ([Value.int .i64 t8.1.2.1.2.2.1] ++ ([Value.int .u32 t8.1.2.1.2.2.2.1] ++ en (Value.int .u8) t8.1.2.1.2.2.2.2.1)))) ++ [Value.int .i64 t8.1.2.2]))) (ys := ([Value.int .i64 t12.1.1] ++ (([Value.int .i64 t12.1.2.1.1] ++ ([Value.int .i64 t12.1.2.1.2.1] ++ ([Value.int .i64 t12.1.2.1.2.2.1] ++ ([Value.int .u32 t12.1.2.1.2.2.2.1] ++ en (Value.int .u8) t12.1.2.1.2.2.2.2.1)))) ++ [Value.int .i64 t12.1.2.2]))) (r := ((t8.1.1 == t12.1.1) && (((t8.1.2.1.1 == t12.1.2.1.1) && ((t8.1.2.1.2.1 == t12.1.2.1.2.1) && ((t8.1.2.1.2.2.1 == t12.1.2.1.2.2.1) && ((t8.1.2.1.2.2.2.1 == t12.1.2.1.2.2.2.1) && (t8.1.2.1.2.2.2.2.1 == t12.1.2.1.2.2.2.2.1))))) && (t8.1.2.2 == t12.1.2.2)))) rfl rfl (by kernel_rfl) rfl (by kernel_rfl) (by kernel_rfl) (by kernel_rfl) (eq_st (by kernel_rfl) (by kernel_rfl) (eqf_cons (ft := 3) (fo := 0) (by kernel_rfl) (part_one (by kernel_rfl) (Sub4.trans (Sub4.all _) (Sub4.head _ _))) (part_one (by kernel_rfl) (Sub4.trans (Sub4.all _) (Sub4.head _ _))) (eq_int (by kernel_rfl) _ _ _) (eqf_cons (ft := 25) (fo := 1) (by kernel_rfl) (part_agg (by kernel_rfl) (by kernel_rfl) (len_app (len1 _) (len_app (len1 _) (len_app (len1 _) (len_app (len1 _) (len_en _ t8.1.2.1.2.2.2.2))))) (Sub4.trans (Sub4.all _) (Sub4.skip (n := 1) (len1 _) (Sub4.head _ _)))) (part_agg (by kernel_rfl) (by kernel_rfl) (len_app (len1 _) (len_app (len1 _) (len_app (len1 _) (len_app (len1 _) (len_en _ t12.1.2.1.2.2.2.2))))) (Sub4.trans (Sub4.all _) (Sub4.skip (n := 1) (len1 _) (Sub4.head _ _)))) (eq_st (by kernel_rfl) (by kernel_rfl) (eqf_cons (ft := 3) (fo := 0) (by kernel_rfl) (part_one (by kernel_rfl) (Sub4.trans (Sub4.all _) (Sub4.head _ _))) (part_one (by kernel_rfl) (Sub4.trans (Sub4.all _) (Sub4.head _ _))) (eq_int (by kernel_rfl) _ _ _) (eqf_cons (ft := 3) (fo := 1) (by kernel_rfl) (part_one (by kernel_rfl) (Sub4.trans (Sub4.all _) (Sub4.skip (n := 1) (len1 _) (Sub4.head _ _)))) (part_one (by kernel_rfl) (Sub4.trans (Sub4.all _) (Sub4.skip (n := 1) (len1 _) (Sub4.head _ _)))) (eq_int (by kernel_rfl) _ _ _) (eqf_cons (ft := 3) (fo := 2) (by kernel_rfl) (part_one (by kernel_rfl) (Sub4.trans (Sub4.all _) (Sub4.skip (n := 1) (len1 _) (Sub4.skip (n := 1) (len1 _) (Sub4.head _ _))))) (part_one (by kernel_rfl) (Sub4.trans (Sub4.all _) (Sub4.skip (n := 1) (len1 _) (Sub4.skip (n := 1) (len1 _) (Sub4.head _ _))))) (eq_int (by kernel_rfl) _ _ _) (eqf_cons (ft := 22) (fo := 3) (by kernel_rfl) (part_one (by kernel_rfl) (Sub4.trans (Sub4.all _) (Sub4.skip (n := 1) (len1 _) (Sub4.skip (n := 1) (len1 _) (Sub4.skip (n := 1) (len1 _) (Sub4.head _ _)))))) (part_one (by kernel_rfl) (Sub4.trans (Sub4.all _) (Sub4.skip (n := 1) (len1 _) (Sub4.skip (n := 1) (len1 _) (Sub4.skip (n := 1) (len1 _) (Sub4.head _ _)))))) (eq_int (by kernel_rfl) _ _ _) (eqf_last (ft := 23) (fo := 4) (by kernel_rfl) (part_agg (by kernel_rfl) (by kernel_rfl) (len_en _ t8.1.2.1.2.2.2.2) (Sub4.trans (Sub4.all _) (Sub4.skip (n := 1) (len1 _) (Sub4.skip (n := 1) (len1 _) (Sub4.skip (n := 1) (len1 _) (Sub4.skip (n := 1) (len1 _) (Sub4.all _))))))) (part_agg (by kernel_rfl) (by kernel_rfl) (len_en _ t12.1.2.1.2.2.2.2) (Sub4.trans (Sub4.all _) (Sub4.skip (n := 1) (len1 _) (Sub4.skip (n := 1) (len1 _) (Sub4.skip (n := 1) (len1 _) (Sub4.skip (n := 1) (len1 _) (Sub4.all _))))))) (eq_ints (e := 5) (ln := 32) (by kernel_rfl) (by kernel_rfl) (by kernel_rfl) t8.1.2.1.2.2.2.2.2 t12.1.2.1.2.2.2.2.2 _) (by kernel_rfl))))))) (eqf_last (ft := 3) (fo := 37) (by kernel_rfl) (part_one (by kernel_rfl) (Sub4.trans (Sub4.all _) (Sub4.skip (n := 1) (len1 _) (Sub4.skip (n := 36) (len_app (len1 _) (len_app (len1 _) (len_app (len1 _) (len_app (len1 _) (len_en _ t8.1.2.1.2.2.2.2))))) (Sub4.all _))))) (part_one (by kernel_rfl) (Sub4.trans (Sub4.all _) (Sub4.skip (n := 1) (len1 _) (Sub4.skip (n := 36) (len_app (len1 _) (len_app (len1 _) (len_app (len1 _) (len_app (len1 _) (len_en _ t12.1.2.1.2.2.2.2))))) (Sub4.all _))))) (eq_int (by kernel_rfl) _ _ _) (by kernel_rfl))))) ?_
          refine ls_val (v := .bool ((t8.1.1 == t12.1.1) && (((t8.1.2.1.1 == t12.1.2.1.1) && ((t8.1.2.1.2.1 == t12.1.2.1.2.1) && ((t8.1.2.1.2.2.1 == t12.1.2.1.2.2.1) && ((t8.1.2.1.2.2.2.1 == t12.1.2.1.2.2.2.1) && (t8.1.2.1.2.2.2.2.1 == t12.1.2.1.2.2.2.2.1))))) && (t8.1.2.2 == t12.1.2.2)))) rfl rfl (by kernel_rfl) (fun w => by kernel_rfl) ?_
          refine ls_val (v := .bool ((t8.1.1 == t12.1.1) && (((t8.1.2.1.1 == t12.1.2.1.1) && ((t8.1.2.1.2.1 == t12.1.2.1.2.1) && ((t8.1.2.1.2.2.1 == t12.1.2.1.2.2.1) && ((t8.1.2.1.2.2.2.1 == t12.1.2.1.2.2.2.1) && (t8.1.2.1.2.2.2.2.1 == t12.1.2.1.2.2.2.2.1))))) && (t8.1.2.2 == t12.1.2.2)))) rfl rfl (by kernel_rfl) (fun w => by kernel_rfl) ?_
          by_cases q22 : ((t8.1.1 == t12.1.1) && (((t8.1.2.1.1 == t12.1.2.1.1) && ((t8.1.2.1.2.1 == t12.1.2.1.2.1) && ((t8.1.2.1.2.2.1 == t12.1.2.1.2.2.1) && ((t8.1.2.1.2.2.2.1 == t12.1.2.1.2.2.2.1) && (t8.1.2.1.2.2.2.2.1 == t12.1.2.1.2.2.2.2.1))))) && (t8.1.2.2 == t12.1.2.2))) = true
          · replace H := ite_t q22 H
            refine ls_know (c := true) (q22) 71 (by kernel_rfl) ?_
            refine ls_on (j := 20) (t := 71) (b := true) rfl rfl (by kernel_rfl) (by kernel_rfl) ?_
            refine ls_val (v := .int .i64 t8.2) rfl rfl (by kernel_rfl) (fun w => by kernel_rfl) ?_
            refine ls_on (j := 20) (t := 71) (b := true) rfl rfl (by kernel_rfl) (by kernel_rfl) ?_
            refine ls_val (v := .int .i64 t12.2) rfl rfl (by kernel_rfl) (fun w => by kernel_rfl) ?_
            refine ls_on (j := 20) (t := 71) (b := true) rfl rfl (by kernel_rfl) (by kernel_rfl) ?_
            refine ls_val (v := .bool (decide (t8.2 = t12.2))) rfl rfl (by kernel_rfl) (fun w => by kernel_rfl) ?_
            refine ls_val (v := .bool (decide (t8.2 = t12.2))) rfl rfl (by kernel_rfl) (fun w => by kernel_rfl) ?_
            refine ls_val (v := .bool (decide (t8.2 = t12.2))) rfl rfl (by kernel_rfl) (fun w => by kernel_rfl) ?_
            by_cases q23 : t8.2 = t12.2
            · replace H := ite_t q23 H
              refine ls_know (c := true) (dec_t q23) 76 (by kernel_rfl) ?_
              refine ls_on (j := 25) (t := 76) (b := true) rfl rfl (by kernel_rfl) (by kernel_rfl) ?_
              refine ls_val (v := .slice x18.1 t16.1.length x18.2) rfl rfl (by kernel_rfl) (fun w => by kernel_rfl) ?_
              refine ls_on (j := 25) (t := 76) (b := true) rfl rfl (by kernel_rfl) (by kernel_rfl) ?_
              refine ls_val (v := .int .i64 (t16.1.length : Int)) rfl rfl (by kernel_rfl) (fun w => by kernel_rfl) ?_
              refine ls_on (j := 25) (t := 76) (b := true) rfl rfl (by kernel_rfl) (by kernel_rfl) ?_
              refine ls_val (v := .bool (decide ((t16.1.length : Int) = (512 : Int)))) rfl rfl (by kernel_rfl) (fun w => by kernel_rfl) ?_
              refine ls_val (v := .bool (decide ((t16.1.length : Int) = (512 : Int)))) rfl rfl (by kernel_rfl) (fun w => by kernel_rfl) ?_
              refine ls_val (v := .bool (decide ((t16.1.length : Int) = (512 : Int)))) rfl rfl (by kernel_rfl) (fun w => by kernel_rfl) ?_
              by_cases q24 : (t16.1.length : Int) = (512 : Int)
              · replace H := ite_t q24 H
                refine ls_know (c := true) (dec_t q24) 81 (by kernel_rfl) ?_
                refine ls_on (j := 30) (t := 81) (b := true) rfl rfl (by kernel_rfl) (by kernel_rfl) ?_
                refine ls_val (v := .int .i64 t16.2.1) rfl rfl (by kernel_rfl) (fun w => by kernel_rfl) ?_
                refine ls_on (j := 30) (t := 81) (b := true) rfl rfl (by kernel_rfl) (by kernel_rfl) ?_
                refine ls_val (v := .bool (decide (t16.2.1 = (0 : Int)))) rfl rfl (by kernel_rfl) (fun w => by kernel_rfl) ?_
                refine ls_val (v := .bool (decide (t16.2.1 = (0 : Int)))) rfl rfl (by kernel_rfl) (fun w => by kernel_rfl) ?_
                refine ls_val (v := .bool (decide (t16.2.1 = (0 : Int)))) rfl rfl (by kernel_rfl) (fun w => by kernel_rfl) ?_
                by_cases q25 : t16.2.1 = (0 : Int)
                · replace H := ite_t q25 H
                  refine ls_know (c := true) (dec_t q25) 85 (by kernel_rfl) ?_
                  refine ls_on (j := 34) (t := 85) (b := true) rfl rfl (by kernel_rfl) (by kernel_rfl) ?_
                  refine ls_val (v := .int .i64 t16.2.2) rfl rfl (by kernel_rfl) (fun w => by kernel_rfl) ?_
                  refine ls_on (j := 34) (t := 85) (b := true) rfl rfl (by kernel_rfl) (by kernel_rfl) ?_
                  refine ls_val (v := .bool (decide (t16.2.2 = (0 : Int)))) rfl rfl (by kernel_rfl) (fun w => by kernel_rfl) ?_
                  refine ls_val (v := .bool (decide (t16.2.2 = (0 : Int)))) rfl rfl (by kernel_rfl) (fun w => by kernel_rfl) ?_
                  refine ls_val (v := .bool (decide (t16.2.2 = (0 : Int)))) rfl rfl (by kernel_rfl) (fun w => by kernel_rfl) ?_
                  refine ls_end ?_
                  refine qn_then ?_
                  refine cs_ret' ?_
                  obtain rfl := Option.some.inj H
                  refine qr_res (rs := [_]) rfl (fun w' hs => ⟨[.bool (decide (t16.2.2 = (0 : Int)))], (res_tmp (by kernel_rfl) (.nil)), (), rfl, hs.pick (ts := []) (cs := []) trivial (by decide)⟩)
                · replace H := ite_f q25 H
                  refine ls_know (c := false) (dec_f q25) 85 (by kernel_rfl) ?_
                  refine ls_off (j := 34) (t := 85) (b := true) (c := false) rfl rfl (by kernel_rfl) (by kernel_rfl) rfl rfl (by kernel_rfl) ?_
                  refine ls_off (j := 34) (t := 85) (b := true) (c := false) rfl rfl (by kernel_rfl) (by kernel_rfl) rfl rfl (by kernel_rfl) ?_
                  refine ls_val (v := .bool false) rfl rfl (by kernel_rfl) (fun w => by kernel_rfl) ?_
                  refine ls_val (v := .bool false) rfl rfl (by kernel_rfl) (fun w => by kernel_rfl) ?_
                  refine ls_end ?_
                  refine qn_then ?_
                  refine cs_ret' ?_
                  obtain rfl := Option.some.inj H
                  refine qr_res (rs := [_]) rfl (fun w' hs => ⟨[.bool false], (res_tmp (by kernel_rfl) (.nil)), (), rfl, hs.pick (ts := []) (cs := []) trivial (by decide)⟩)
              · replace H := ite_f q24 H
                refine ls_know (c := false) (dec_f q24) 81 (by kernel_rfl) ?_
                refine ls_off (j := 30) (t := 81) (b := true) (c := false) rfl rfl (by kernel_rfl) (by kernel_rfl) rfl rfl (by kernel_rfl) ?_
                refine ls_off (j := 30) (t := 81) (b := true) (c := false) rfl rfl (by kernel_rfl) (by kernel_rfl) rfl rfl (by kernel_rfl) ?_
                refine ls_val (v := .bool false) rfl rfl (by kernel_rfl) (fun w => by kernel_rfl) ?_
                refine ls_val (v := .bool false) rfl rfl (by kernel_rfl) (fun w => by kernel_rfl) ?_
                refine ls_off (j := 34) (t := 85) (b := true) (c := false) rfl rfl (by kernel_rfl) (by kernel_rfl) rfl rfl (by kernel_rfl) ?_
                refine ls_off (j := 34) (t := 85) (b := true) (c := false) rfl rfl (by kernel_rfl) (by kernel_rfl) rfl rfl (by kernel_rfl) ?_
                refine ls_val (v := .bool false) rfl rfl (by kernel_rfl) (fun w => by kernel_rfl) ?_
                refine ls_val (v := .bool false) rfl rfl (by kernel_rfl) (fun w => by kernel_rfl) ?_
                refine ls_end ?_
                refine qn_then ?_
                refine cs_ret' ?_
                obtain rfl := Option.some.inj H
                refine qr_res (rs := [_]) rfl (fun w' hs => ⟨[.bool false], (res_tmp (by kernel_rfl) (.nil)), (), rfl, hs.pick (ts := []) (cs := []) trivial (by decide)⟩)
            · replace H := ite_f q23 H
              refine ls_know (c := false) (dec_f q23) 76 (by kernel_rfl) ?_
              refine ls_off (j := 25) (t := 76) (b := true) (c := false) rfl rfl (by kernel_rfl) (by kernel_rfl) rfl rfl (by kernel_rfl) ?_
              refine ls_off (j := 25) (t := 76) (b := true) (c := false) rfl rfl (by kernel_rfl) (by kernel_rfl) rfl rfl (by kernel_rfl) ?_
              refine ls_off (j := 25) (t := 76) (b := true) (c := false) rfl rfl (by kernel_rfl) (by kernel_rfl) rfl rfl (by kernel_rfl) ?_
              refine ls_val (v := .bool false) rfl rfl (by kernel_rfl) (fun w => by kernel_rfl) ?_
              refine ls_val (v := .bool false) rfl rfl (by kernel_rfl) (fun w => by kernel_rfl) ?_
              refine ls_off (j := 30) (t := 81) (b := true) (c := false) rfl rfl (by kernel_rfl) (by kernel_rfl) rfl rfl (by kernel_rfl) ?_
              refine ls_off (j := 30) (t := 81) (b := true) (c := false) rfl rfl (by kernel_rfl) (by kernel_rfl) rfl rfl (by kernel_rfl) ?_
              refine ls_val (v := .bool false) rfl rfl (by kernel_rfl) (fun w => by kernel_rfl) ?_
              refine ls_val (v := .bool false) rfl rfl (by kernel_rfl) (fun w => by kernel_rfl) ?_
              refine ls_off (j := 34) (t := 85) (b := true) (c := false) rfl rfl (by kernel_rfl) (by kernel_rfl) rfl rfl (by kernel_rfl) ?_
              refine ls_off (j := 34) (t := 85) (b := true) (c := false) rfl rfl (by kernel_rfl) (by kernel_rfl) rfl rfl (by kernel_rfl) ?_
              refine ls_val (v := .bool false) rfl rfl (by kernel_rfl) (fun w => by kernel_rfl) ?_
              refine ls_val (v := .bool false) rfl rfl (by kernel_rfl) (fun w => by kernel_rfl) ?_
              refine ls_end ?_
              refine qn_then ?_
              refine cs_ret' ?_
              obtain rfl := Option.some.inj H
              refine qr_res (rs := [_]) rfl (fun w' hs => ⟨[.bool false], (res_tmp (by kernel_rfl) (.nil)), (), rfl, hs.pick (ts := []) (cs := []) trivial (by decide)⟩)
          · replace H := ite_f q22 H
            refine ls_know (c := false) (Bool.eq_false_iff.mpr q22) 71 (by kernel_rfl) ?_
            refine ls_off (j := 20) (t := 71) (b := true) (c := false) rfl rfl (by kernel_rfl) (by kernel_rfl) rfl rfl (by kernel_rfl) ?_
            refine ls_off (j := 20) (t := 71) (b := true) (c := false) rfl rfl (by kernel_rfl) (by kernel_rfl) rfl rfl (by kernel_rfl) ?_
            refine ls_off (j := 20) (t := 71) (b := true) (c := false) rfl rfl (by kernel_rfl) (by kernel_rfl) rfl rfl (by kernel_rfl) ?_
            refine ls_val (v := .bool false) rfl rfl (by kernel_rfl) (fun w => by kernel_rfl) ?_
            refine ls_val (v := .bool false) rfl rfl (by kernel_rfl) (fun w => by kernel_rfl) ?_
            refine ls_off (j := 25) (t := 76) (b := true) (c := false) rfl rfl (by kernel_rfl) (by kernel_rfl) rfl rfl (by kernel_rfl) ?_
            refine ls_off (j := 25) (t := 76) (b := true) (c := false) rfl rfl (by kernel_rfl) (by kernel_rfl) rfl rfl (by kernel_rfl) ?_
            refine ls_off (j := 25) (t := 76) (b := true) (c := false) rfl rfl (by kernel_rfl) (by kernel_rfl) rfl rfl (by kernel_rfl) ?_
            refine ls_val (v := .bool false) rfl rfl (by kernel_rfl) (fun w => by kernel_rfl) ?_
            refine ls_val (v := .bool false) rfl rfl (by kernel_rfl) (fun w => by kernel_rfl) ?_
            refine ls_off (j := 30) (t := 81) (b := true) (c := false) rfl rfl (by kernel_rfl) (by kernel_rfl) rfl rfl (by kernel_rfl) ?_
            refine ls_off (j := 30) (t := 81) (b := true) (c := false) rfl rfl (by kernel_rfl) (by kernel_rfl) rfl rfl (by kernel_rfl) ?_
            refine ls_val (v := .bool false) rfl rfl (by kernel_rfl) (fun w => by kernel_rfl) ?_
            refine ls_val (v := .bool false) rfl rfl (by kernel_rfl) (fun w => by kernel_rfl) ?_
            refine ls_off (j := 34) (t := 85) (b := true) (c := false) rfl rfl (by kernel_rfl) (by kernel_rfl) rfl rfl (by kernel_rfl) ?_
            refine ls_off (j := 34) (t := 85) (b := true) (c := false) rfl rfl (by kernel_rfl) (by kernel_rfl) rfl rfl (by kernel_rfl) ?_
            refine ls_val (v := .bool false) rfl rfl (by kernel_rfl) (fun w => by kernel_rfl) ?_
            refine ls_val (v := .bool false) rfl rfl (by kernel_rfl) (fun w => by kernel_rfl) ?_
            refine ls_end ?_
            refine qn_then ?_
            refine cs_ret' ?_
            obtain rfl := Option.some.inj H
            refine qr_res (rs := [_]) rfl (fun w' hs => ⟨[.bool false], (res_tmp (by kernel_rfl) (.nil)), (), rfl, hs.pick (ts := []) (cs := []) trivial (by decide)⟩)
        · replace H := ite_f q21 H
          refine ls_know (c := false) (dec_f q21) 66 (by kernel_rfl) ?_
          refine ls_off (j := 15) (t := 66) (b := true) (c := false) rfl rfl (by kernel_rfl) (by kernel_rfl) rfl rfl (by kernel_rfl) ?_
          refine ls_off (j := 15) (t := 66) (b := true) (c := false) rfl rfl (by kernel_rfl) (by kernel_rfl) rfl rfl (by kernel_rfl) ?_
          refine ls_off (j := 15) (t := 66) (b := true) (c := false) rfl rfl (by kernel_rfl) (by kernel_rfl) rfl rfl (by kernel_rfl) ?_
          refine ls_val (v := .bool false) rfl rfl (by kernel_rfl) (fun w => by kernel_rfl) ?_
          refine ls_val (v := .bool false) rfl rfl (by kernel_rfl) (fun w => by kernel_rfl) ?_
          refine ls_off (j := 20) (t := 71) (b := true) (c := false) rfl rfl (by kernel_rfl) (by kernel_rfl) rfl rfl (by kernel_rfl) ?_
          refine ls_off (j := 20) (t := 71) (b := true) (c := false) rfl rfl (by kernel_rfl) (by kernel_rfl) rfl rfl (by kernel_rfl) ?_
          refine ls_off (j := 20) (t := 71) (b := true) (c := false) rfl rfl (by kernel_rfl) (by kernel_rfl) rfl rfl (by kernel_rfl) ?_
          refine ls_val (v := .bool false) rfl rfl (by kernel_rfl) (fun w => by kernel_rfl) ?_
          refine ls_val (v := .bool false) rfl rfl (by kernel_rfl) (fun w => by kernel_rfl) ?_
          refine ls_off (j := 25) (t := 76) (b := true) (c := false) rfl rfl (by kernel_rfl) (by kernel_rfl) rfl rfl (by kernel_rfl) ?_
          refine ls_off (j := 25) (t := 76) (b := true) (c := false) rfl rfl (by kernel_rfl) (by kernel_rfl) rfl rfl (by kernel_rfl) ?_
          refine ls_off (j := 25) (t := 76) (b := true) (c := false) rfl rfl (by kernel_rfl) (by kernel_rfl) rfl rfl (by kernel_rfl) ?_
          refine ls_val (v := .bool false) rfl rfl (by kernel_rfl) (fun w => by kernel_rfl) ?_
          refine ls_val (v := .bool false) rfl rfl (by kernel_rfl) (fun w => by kernel_rfl) ?_
          refine ls_off (j := 30) (t := 81) (b := true) (c := false) rfl rfl (by kernel_rfl) (by kernel_rfl) rfl rfl (by kernel_rfl) ?_
          refine ls_off (j := 30) (t := 81) (b := true) (c := false) rfl rfl (by kernel_rfl) (by kernel_rfl) rfl rfl (by kernel_rfl) ?_
          refine ls_val (v := .bool false) rfl rfl (by kernel_rfl) (fun w => by kernel_rfl) ?_
          refine ls_val (v := .bool false) rfl rfl (by kernel_rfl) (fun w => by kernel_rfl) ?_
          refine ls_off (j := 34) (t := 85) (b := true) (c := false) rfl rfl (by kernel_rfl) (by kernel_rfl) rfl rfl (by kernel_rfl) ?_
          refine ls_off (j := 34) (t := 85) (b := true) (c := false) rfl rfl (by kernel_rfl) (by kernel_rfl) rfl rfl (by kernel_rfl) ?_
          refine ls_val (v := .bool false) rfl rfl (by kernel_rfl) (fun w => by kernel_rfl) ?_
          refine ls_val (v := .bool false) rfl rfl (by kernel_rfl) (fun w => by kernel_rfl) ?_
          refine ls_end ?_
          refine qn_then ?_
          refine cs_ret' ?_
          obtain rfl := Option.some.inj H
          refine qr_res (rs := [_]) rfl (fun w' hs => ⟨[.bool false], (res_tmp (by kernel_rfl) (.nil)), (), rfl, hs.pick (ts := []) (cs := []) trivial (by decide)⟩)
      · replace H := ite_f q20 H
        refine ls_know (c := false) (dec_f q20) 61 (by kernel_rfl) ?_
        refine ls_off (j := 10) (t := 61) (b := true) (c := false) rfl rfl (by kernel_rfl) (by kernel_rfl) rfl rfl (by kernel_rfl) ?_
        refine ls_off (j := 10) (t := 61) (b := true) (c := false) rfl rfl (by kernel_rfl) (by kernel_rfl) rfl rfl (by kernel_rfl) ?_
        refine ls_off (j := 10) (t := 61) (b := true) (c := false) rfl rfl (by kernel_rfl) (by kernel_rfl) rfl rfl (by kernel_rfl) ?_
        refine ls_val (v := .bool false) rfl rfl (by kernel_rfl) (fun w => by kernel_rfl) ?_
        refine ls_val (v := .bool false) rfl rfl (by kernel_rfl) (fun w => by kernel_rfl) ?_
        refine ls_off (j := 15) (t := 66) (b := true) (c := false) rfl rfl (by kernel_rfl) (by kernel_rfl) rfl rfl (by kernel_rfl) ?_
        refine ls_off (j := 15) (t := 66) (b := true) (c := false) rfl rfl (by kernel_rfl) (by kernel_rfl) rfl rfl (by kernel_rfl) ?_
        refine ls_off (j := 15) (t := 66) (b := true) (c := false) rfl rfl (by kernel_rfl) (by kernel_rfl) rfl rfl (by kernel_rfl) ?_
        refine ls_val (v := .bool false) rfl rfl (by kernel_rfl) (fun w => by kernel_rfl) ?_
        refine ls_val (v := .bool false) rfl rfl (by kernel_rfl) (fun w => by kernel_rfl) ?_
        refine ls_off (j := 20) (t := 71) (b := true) (c := false) rfl rfl (by kernel_rfl) (by kernel_rfl) rfl rfl (by kernel_rfl) ?_
        refine ls_off (j := 20) (t := 71) (b := true) (c := false) rfl rfl (by kernel_rfl) (by kernel_rfl) rfl rfl (by kernel_rfl) ?_
        refine ls_off (j := 20) (t := 71) (b := true) (c := false) rfl rfl (by kernel_rfl) (by kernel_rfl) rfl rfl (by kernel_rfl) ?_
        refine ls_val (v := .bool false) rfl rfl (by kernel_rfl) (fun w => by kernel_rfl) ?_
        refine ls_val (v := .bool false) rfl rfl (by kernel_rfl) (fun w => by kernel_rfl) ?_
        refine ls_off (j := 25) (t := 76) (b := true) (c := false) rfl rfl (by kernel_rfl) (by kernel_rfl) rfl rfl (by kernel_rfl) ?_
        refine ls_off (j := 25) (t := 76) (b := true) (c := false) rfl rfl (by kernel_rfl) (by kernel_rfl) rfl rfl (by kernel_rfl) ?_
        refine ls_off (j := 25) (t := 76) (b := true) (c := false) rfl rfl (by kernel_rfl) (by kernel_rfl) rfl rfl (by kernel_rfl) ?_
        refine ls_val (v := .bool false) rfl rfl (by kernel_rfl) (fun w => by kernel_rfl) ?_
        refine ls_val (v := .bool false) rfl rfl (by kernel_rfl) (fun w => by kernel_rfl) ?_
        refine ls_off (j := 30) (t := 81) (b := true) (c := false) rfl rfl (by kernel_rfl) (by kernel_rfl) rfl rfl (by kernel_rfl) ?_
        refine ls_off (j := 30) (t := 81) (b := true) (c := false) rfl rfl (by kernel_rfl) (by kernel_rfl) rfl rfl (by kernel_rfl) ?_
        refine ls_val (v := .bool false) rfl rfl (by kernel_rfl) (fun w => by kernel_rfl) ?_
        refine ls_val (v := .bool false) rfl rfl (by kernel_rfl) (fun w => by kernel_rfl) ?_
        refine ls_off (j := 34) (t := 85) (b := true) (c := false) rfl rfl (by kernel_rfl) (by kernel_rfl) rfl rfl (by kernel_rfl) ?_
        refine ls_off (j := 34) (t := 85) (b := true) (c := false) rfl rfl (by kernel_rfl) (by kernel_rfl) rfl rfl (by kernel_rfl) ?_
        refine ls_val (v := .bool false) rfl rfl (by kernel_rfl) (fun w => by kernel_rfl) ?_
        refine ls_val (v := .bool false) rfl rfl (by kernel_rfl) (fun w => by kernel_rfl) ?_
        refine ls_end ?_
        refine qn_then ?_
        refine cs_ret' ?_
        obtain rfl := Option.some.inj H
        refine qr_res (rs := [_]) rfl (fun w' hs => ⟨[.bool false], (res_tmp (by kernel_rfl) (.nil)), (), rfl, hs.pick (ts := []) (cs := []) trivial (by decide)⟩)
    · replace H := ite_f q19 H
      refine ls_know (c := false) (Bool.eq_false_iff.mpr q19) 56 (by kernel_rfl) ?_
      refine ls_off (j := 5) (t := 56) (b := true) (c := false) rfl rfl (by kernel_rfl) (by kernel_rfl) rfl rfl (by kernel_rfl) ?_
      refine ls_off (j := 5) (t := 56) (b := true) (c := false) rfl rfl (by kernel_rfl) (by kernel_rfl) rfl rfl (by kernel_rfl) ?_
      refine ls_off (j := 5) (t := 56) (b := true) (c := false) rfl rfl (by kernel_rfl) (by kernel_rfl) rfl rfl (by kernel_rfl) ?_
      refine ls_val (v := .bool false) rfl rfl (by kernel_rfl) (fun w => by kernel_rfl) ?_
      refine ls_val (v := .bool false) rfl rfl (by kernel_rfl) (fun w => by kernel_rfl) ?_
      refine ls_off (j := 10) (t := 61) (b := true) (c := false) rfl rfl (by kernel_rfl) (by kernel_rfl) rfl rfl (by kernel_rfl) ?_
      refine ls_off (j := 10) (t := 61) (b := true) (c := false) rfl rfl (by kernel_rfl) (by kernel_rfl) rfl rfl (by kernel_rfl) ?_
      refine ls_off (j := 10) (t := 61) (b := true) (c := false) rfl rfl (by kernel_rfl) (by kernel_rfl) rfl rfl (by kernel_rfl) ?_
      refine ls_val (v := .bool false) rfl rfl (by kernel_rfl) (fun w => by kernel_rfl) ?_
      refine ls_val (v := .bool false) rfl rfl (by kernel_rfl) (fun w => by kernel_rfl) ?_
      refine ls_off (j := 15) (t := 66) (b := true) (c := false) rfl rfl (by kernel_rfl) (by kernel_rfl) rfl rfl (by kernel_rfl) ?_
      refine ls_off (j := 15) (t := 66) (b := true) (c := false) rfl rfl (by kernel_rfl) (by kernel_rfl) rfl rfl (by kernel_rfl) ?_
      refine ls_off (j := 15) (t := 66) (b := true) (c := false) rfl rfl (by kernel_rfl) (by kernel_rfl) rfl rfl (by kernel_rfl) ?_
      refine ls_val (v := .bool false) rfl rfl (by kernel_rfl) (fun w => by kernel_rfl) ?_
      refine ls_val (v := .bool false) rfl rfl (by kernel_rfl) (fun w => by kernel_rfl) ?_
      refine ls_off (j := 20) (t := 71) (b := true) (c := false) rfl rfl (by kernel_rfl) (by kernel_rfl) rfl rfl (by kernel_rfl) ?_
      refine ls_off (j := 20) (t := 71) (b := true) (c := false) rfl rfl (by kernel_rfl) (by kernel_rfl) rfl rfl (by kernel_rfl) ?_
      refine ls_off (j := 20) (t := 71) (b := true) (c := false) rfl rfl (by kernel_rfl) (by kernel_rfl) rfl rfl (by kernel_rfl) ?_
      refine ls_val (v := .bool false) rfl rfl (by kernel_rfl) (fun w => by kernel_rfl) ?_
      refine ls_val (v := .bool false) rfl rfl (by kernel_rfl) (fun w => by kernel_rfl) ?_
      refine ls_off (j := 25) (t := 76) (b := true) (c := false) rfl rfl (by kernel_rfl) (by kernel_rfl) rfl rfl (by kernel_rfl) ?_
      refine ls_off (j := 25) (t := 76) (b := true) (c := false) rfl rfl (by kernel_rfl) (by kernel_rfl) rfl rfl (by kernel_rfl) ?_
      refine ls_off (j := 25) (t := 76) (b := true) (c := false) rfl rfl (by kernel_rfl) (by kernel_rfl) rfl rfl (by kernel_rfl) ?_
      refine ls_val (v := .bool false) rfl rfl (by kernel_rfl) (fun w => by kernel_rfl) ?_
      refine ls_val (v := .bool false) rfl rfl (by kernel_rfl) (fun w => by kernel_rfl) ?_
      refine ls_off (j := 30) (t := 81) (b := true) (c := false) rfl rfl (by kernel_rfl) (by kernel_rfl) rfl rfl (by kernel_rfl) ?_
      refine ls_off (j := 30) (t := 81) (b := true) (c := false) rfl rfl (by kernel_rfl) (by kernel_rfl) rfl rfl (by kernel_rfl) ?_
      refine ls_val (v := .bool false) rfl rfl (by kernel_rfl) (fun w => by kernel_rfl) ?_
      refine ls_val (v := .bool false) rfl rfl (by kernel_rfl) (fun w => by kernel_rfl) ?_
      refine ls_off (j := 34) (t := 85) (b := true) (c := false) rfl rfl (by kernel_rfl) (by kernel_rfl) rfl rfl (by kernel_rfl) ?_
      refine ls_off (j := 34) (t := 85) (b := true) (c := false) rfl rfl (by kernel_rfl) (by kernel_rfl) rfl rfl (by kernel_rfl) ?_
      refine ls_val (v := .bool false) rfl rfl (by kernel_rfl) (fun w => by kernel_rfl) ?_
      refine ls_val (v := .bool false) rfl rfl (by kernel_rfl) (fun w => by kernel_rfl) ?_
      refine ls_end ?_
      refine qn_then ?_
      refine cs_ret' ?_
      obtain rfl := Option.some.inj H
      refine qr_res (rs := [_]) rfl (fun w' hs => ⟨[.bool false], (res_tmp (by kernel_rfl) (.nil)), (), rfl, hs.pick (ts := []) (cs := []) trivial (by decide)⟩)

end Go.Proofs.Ytnjijflgafghmaa.G
