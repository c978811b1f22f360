/- Printed by a program of this session (sz.py): plain functions, and walks that show that the code comes to them; no condition. -/
import Derived.Test.YtnjijflgafghmaaProg
import Derived.Test.YtnjijflgafghmaaTy
import Derived.Test.YtnjijflgafghmaaG0
import Derived.Test.YtnjijflgafghmaaG1
set_option linter.unusedVariables false
set_option linter.unusedSimpArgs false
namespace Go.Proofs.Ytnjijflgafghmaa.G
open Go Go.RowKit Go.Proofs.Ytnjijflgafghmaa.Sx

/-! ### shadowbox/shadowboxlaw08.LabelBack: function 7 -/
def shadowboxlaw08_LabelBack.jo3 (k : Nat) (a0 : (Int × (Int × Int × Int × Int × (Vc Int 32)) × Int)) (a2 : Int) (t2 : (List Int) × Int × Int) (t13 : (Int × (Int × Int × Int × Int × (Vc Int 32)) × Int) × Int) (l7_3 : List Int) : Option (Bool) := (label_Open.f k l7_3).bind fun t19 => (if t13.2 = (0 : Int) then (if ((t13.1.1 == a0.1) && (((t13.1.2.1.1 == a0.2.1.1) && ((t13.1.2.1.2.1 == a0.2.1.2.1) && ((t13.1.2.1.2.2.1 == a0.2.1.2.2.1) && ((t13.1.2.1.2.2.2.1 == a0.2.1.2.2.2.1) && (t13.1.2.1.2.2.2.2.1 == a0.2.1.2.2.2.2.1))))) && (t13.1.2.2 == a0.2.2))) = true then (if t2.2.1 = (Int.tmod a0.1 (2 : Int)) then (if (decide (t19.2 = (0 : Int)) == decide (a2 = (0 : Int))) = true then (if a2 = (0 : Int) then some true else (if t19.2 = (12 : Int) then some true else some (decide (t19.2 = (11 : Int))))) else some false) else some false) else some false) else some false)
def shadowboxlaw08_LabelBack.jo5 (a2 : Int) (y17 : Int) (l7_4 : List Int) (x14_4 : Int) (lo4 : (List Int) → Int → Option (Bool)) : Option (Bool) := (if 0 ≤ IntKind.wrap .u64 x14_4 then lt (bits .and .u32 (shrv .u32 a2 (IntKind.wrap .u64 x14_4)) (1 : Int)) fun y30 => (if y30 = (1 : Int) then lt (IntKind.wrap .i64 ((Int.tmod y17 (4065 : Int)) + x14_4)) fun y33 => lt (IntKind.wrap .i64 (Int.tdiv y33 (8 : Int))) fun y35 => lt (IntKind.wrap .i64 ((Int.tmod y17 (4065 : Int)) + x14_4)) fun y37 => lt (IntKind.wrap .i64 (Int.tdiv y37 (8 : Int))) fun y39 => (if 0 ≤ y39 then (if y39 < (l7_4.length : Int) then lt (IntKind.wrap .i64 ((Int.tmod y17 (4065 : Int)) + x14_4)) fun y45 => lt (IntKind.wrap .u64 (Int.tmod y45 (8 : Int))) fun y47 => (if 0 ≤ y47 then lt (bits .xor .u8 ((l7_4).getD (y39).toNat (0 : Int)) (shlv .u8 (1 : Int) y47)) fun y50 => (if 0 ≤ y35 then (if y35 < (l7_4.length : Int) then lt ((l7_4).set (y35).toNat y50) fun y56 => lo4 y56 (IntKind.wrap .i64 (x14_4 + (1 : Int))) else none) else none) else none) else none) else none) else lo4 l7_4 (IntKind.wrap .i64 (x14_4 + (1 : Int)))) else none)
def shadowboxlaw08_LabelBack.lo4 (a2 : Int) (y17 : Int) (jo3 : (List Int) → Option (Bool)) : Nat → (List Int) → Int → Option (Bool)
  | 0, _, _ => none
  | k4 + 1, l7_4, x14_4 => (if x14_4 < (32 : Int) then (shadowboxlaw08_LabelBack.jo5 a2 y17 l7_4 x14_4 (shadowboxlaw08_LabelBack.lo4 a2 y17 jo3 k4)) else jo3 l7_4)
def shadowboxlaw08_LabelBack.jo2 (k : Nat) (a0 : (Int × (Int × Int × Int × Int × (Vc Int 32)) × Int)) (a1 : Int) (a2 : Int) (t2 : (List Int) × Int × Int) : Option (Bool) := (if (([] : List Int).length + t2.1.length) * 1 ≤ 140737488355328 then (if ((([] : List Int) ++ t2.1).length + ([(7 : Int)]).length) * 1 ≤ 140737488355328 then (label_Open.f k ((([] : List Int) ++ t2.1) ++ [(7 : Int)])).bind fun t13 => lt (IntKind.wrap .i64 ((Int.tmod a1 (4065 : Int)) + (4065 : Int))) fun y17 => shadowboxlaw08_LabelBack.lo4 a2 y17 (shadowboxlaw08_LabelBack.jo3 k a0 a2 t2 t13) k t2.1 (0 : Int) else none) else none)
def shadowboxlaw08_LabelBack.jo1 (k : Nat) (a0 : (Int × (Int × Int × Int × Int × (Vc Int 32)) × Int)) (a1 : Int) (a2 : Int) (t2 : (List Int) × Int × Int) : Option (Bool) := (if (t2.1.length : Int) = (512 : Int) then (shadowboxlaw08_LabelBack.jo2 k a0 a1 a2 t2) else some false)
def shadowboxlaw08_LabelBack.f (k : Nat) (a0 : (Int × (Int × Int × Int × Int × (Vc Int 32)) × Int)) (a1 : Int) (a2 : Int) : Option (Bool) :=
  (label_Seal.f k a0).bind fun t2 => (if t2.2.2 = (0 : Int) then (shadowboxlaw08_LabelBack.jo1 k a0 a1 a2 t2) else (label_Seal.f k ((1 : Int), ((0 : Int), (0 : Int), (0 : Int), (0 : Int), (vrep 32 (0 : Int))), (1 : Int))).bind fun t61 => (if (t2.1.length : Int) = (0 : Int) then (if t2.2.1 = (0 : Int) then (if t61.2.2 = (0 : Int) then some (decide ((t61.1.length : Int) = (512 : Int))) else some false) else some false) else some false))
set_option maxRecDepth 100000 in
set_option maxHeartbeats 4000000 in
theorem shadowboxlaw08_LabelBack.calls (k : Nat) (a0 : (Int × (Int × Int × Int × Int × (Vc Int 32)) × Int)) (a1 : Int) (a2 : Int) (r : Bool) (b : Bs) (hs0 : St b (stl []) b.w) (H : shadowboxlaw08_LabelBack.f k a0 a1 a2 = some r) :
    Calls Try.prog 7 #[.agg ⟨([Value.int .i64 a0.1] ++ (([Value.int .i64 a0.2.1.1] ++ ([Value.int .i64 a0.2.1.2.1] ++ ([Value.int .i64 a0.2.1.2.2.1] ++ ([Value.int .u32 a0.2.1.2.2.2.1] ++ en (Value.int .u8) a0.2.1.2.2.2.2.1)))) ++ [Value.int .i64 a0.2.2]))⟩, .int .i64 a1, .int .u32 a2] b.w fun e w' => ∃ x : Unit, e = .returned (.bool r) ∧ St b (stl []) w' := by
  unfold shadowboxlaw08_LabelBack.f at H
  refine enterb (n := 131) Try.func7 rfl (by kernel_rfl) (by kernel_rfl) hs0 ?_
  refine cs_sub (s0) (sub_nil _) ?_
  refine cs_seq ?_
  refine cs_region (l := [_, _]) ?_
  refine ls_new rfl rfl (by kernel_rfl) 0 (fun g => .pointer (some ⟨g, 0, none⟩)) (.cells ⟨([Value.int .i64 a0.1] ++ (([Value.int .i64 a0.2.1.1] ++ ([Value.int .i64 a0.2.1.2.1] ++ ([Value.int .i64 a0.2.1.2.2.1] ++ ([Value.int .u32 a0.2.1.2.2.2.1] ++ en (Value.int .u8) a0.2.1.2.2.2.2.1)))) ++ [Value.int .i64 a0.2.2]))⟩ 42) (fun w => by kernel_rfl) ?_
  intro g1
  refine ls_val (v := .bool false) rfl rfl (by kernel_rfl) (fun w => by kernel_rfl) ?_
  refine ls_end ?_
  refine qn_then ?_
  refine cs_seq ?_
  refine cs_region (l := [_, _, _, _, _, _, _, _, _]) ?_
  refine ls_loadagg (a := ⟨g1, 0, none⟩) (sub := ([Value.int .i64 a0.1] ++ (([Value.int .i64 a0.2.1.1] ++ ([Value.int .i64 a0.2.1.2.1] ++ ([Value.int .i64 a0.2.1.2.2.1] ++ ([Value.int .u32 a0.2.1.2.2.2.1] ++ en (Value.int .u8) a0.2.1.2.2.2.2.1)))) ++ [Value.int .i64 a0.2.2]))) rfl rfl (by kernel_rfl) rfl (by kernel_rfl) (by kernel_rfl) (by kernel_rfl) (len_app (len1 _) (len_app (len_app (len1 _) (len_app (len1 _) (len_app (len1 _) (len_app (len1 _) (len_en _ a0.2.1.2.2.2.2))))) (len1 _))) (fun w hs => (hs.vars (k := 0) (by exact rfl) (Sub4.all _))) ?_
  obtain ⟨t2, hc3, H⟩ := bind_some H
  refine ls_callb (fid := 24) (vals := #[.agg ⟨([Value.int .i64 a0.1] ++ (([Value.int .i64 a0.2.1.1] ++ ([Value.int .i64 a0.2.1.2.1] ++ ([Value.int .i64 a0.2.1.2.2.1] ++ ([Value.int .u32 a0.2.1.2.2.2.1] ++ en (Value.int .u8) a0.2.1.2.2.2.2.1)))) ++ [Value.int .i64 a0.2.2]))⟩]) (X := (Option Addr × Nat)) (fun x => .tuple #[.slice x.1 t2.1.length x.2, .int .i64 t2.2.1, .int .i64 t2.2.2]) (fun x => stl [Ck.sl (Ec.int 5 .u8) x.1 x.2 t2.1]) [] [] [] [] 1 rfl rfl (by kernel_rfl) (fun w => by kernel_rfl) trivial trivial (by decide) (fun w hs hb => label_Seal.calls k a0 t2 (lent b w [] []) hb  hc3) ?_
  intro x4
  refine ls_val (v := .tuple #[.slice x4.1 t2.1.length x4.2, .int .i64 t2.2.1, .int .i64 t2.2.2]) rfl rfl (by kernel_rfl) (fun w => by kernel_rfl) ?_
  refine ls_val (v := .slice x4.1 t2.1.length x4.2) rfl rfl (by kernel_rfl) (fun w => by kernel_rfl) ?_
  refine ls_val (v := .int .i64 t2.2.1) rfl rfl (by kernel_rfl) (fun w => by kernel_rfl) ?_
  refine ls_val (v := .int .i64 t2.2.2) rfl rfl (by kernel_rfl) (fun w => by kernel_rfl) ?_
  refine ls_val (v := .slice x4.1 t2.1.length x4.2) rfl rfl (by kernel_rfl) (fun w => by kernel_rfl) ?_
  refine ls_val (v := .int .i64 t2.2.1) rfl rfl (by kernel_rfl) (fun w => by kernel_rfl) ?_
  refine ls_val (v := .int .i64 t2.2.2) rfl rfl (by kernel_rfl) (fun w => by kernel_rfl) ?_
  refine ls_end ?_
  refine qn_then ?_
  refine cs_cut (fun f S => ∃ (fR : Fr), f = upd (upd (upd (upd (upd fR 1 (.int .i64 a1)) 2 (.int .u32 a2)) 3 (.pointer (some ⟨g1, 0, none⟩))) 7 (.slice x4.1 t2.1.length x4.2)) 8 (.int .i64 t2.2.1) ∧ S = sput (sput s0 0 (some (Ck.var 42 g1 (([Value.int .i64 a0.1] ++ (([Value.int .i64 a0.2.1.1] ++ ([Value.int .i64 a0.2.1.2.1] ++ ([Value.int .i64 a0.2.1.2.2.1] ++ ([Value.int .u32 a0.2.1.2.2.2.1] ++ en (Value.int .u8) a0.2.1.2.2.2.2.1)))) ++ [Value.int .i64 a0.2.2])))))) 1 (some (Ck.sl (Ec.int 5 .u8) x4.1 x4.2 t2.1)) ∧ shadowboxlaw08_LabelBack.jo1 k a0 a1 a2 t2 = some r) ?_ ?_
  · skip
    refine cs_seq ?_
    refine cs_region (l := [_, _]) ?_
    refine ls_val (v := .int .i64 t2.2.2) rfl rfl (by kernel_rfl) (fun w => by kernel_rfl) ?_
    refine ls_val (v := .bool (!decide (t2.2.2 = (0 : Int)))) rfl rfl (by kernel_rfl) (fun w => by kernel_rfl) ?_
    refine ls_end ?_
    refine qn_then ?_
    by_cases q60 : t2.2.2 = (0 : Int)
    · replace H := ite_t q60 H
      refine cs_know (c := false) (congrArg Bool.not (dec_t q60)) 24 (by kernel_rfl) ?_
      refine cs_false (by kernel_rfl) ?_
      refine cs_skip' ?_
      refine qn_meet (sput (sput s0 0 (some (Ck.var 42 g1 (([Value.int .i64 a0.1] ++ (([Value.int .i64 a0.2.1.1] ++ ([Value.int .i64 a0.2.1.2.1] ++ ([Value.int .i64 a0.2.1.2.2.1] ++ ([Value.int .u32 a0.2.1.2.2.2.1] ++ en (Value.int .u8) a0.2.1.2.2.2.2.1)))) ++ [Value.int .i64 a0.2.2])))))) 1 (some (Ck.sl (Ec.int 5 .u8) x4.1 x4.2 t2.1))) ⟨_, fr_next (fr_next (fr_next (fr_next (fr_next (rfl) (by kernel_rfl)) (by kernel_rfl)) (by kernel_rfl)) (by kernel_rfl)) (by kernel_rfl), rfl, H⟩ (sub_put (by exact rfl) (sub_put (by exact rfl) (sub_nil _)))
    · replace H := ite_f q60 H
      refine cs_know (c := true) (congrArg Bool.not (dec_f q60)) 24 (by kernel_rfl) ?_
      refine cs_true (by kernel_rfl) ?_
      refine cs_seq ?_
      refine cs_region (l := [_, _, _, _, _, _, _, _, _]) ?_
      refine ls_build (ps := [(0, .int .i64 (1 : Int)), (2, .int .i64 (1 : Int))]) (pl := #[(0, 1), (1, 36), (37, 1)]) (zv := .agg ⟨([Value.int .i64 (0 : Int)] ++ (([Value.int .i64 (0 : Int)] ++ ([Value.int .i64 (0 : Int)] ++ ([Value.int .i64 (0 : Int)] ++ ([Value.int .u32 (0 : Int)] ++ en (Value.int .u8) (vrep 32 (0 : Int)).1)))) ++ [Value.int .i64 (0 : Int)]))⟩) (zc := ([Value.int .i64 (0 : Int)] ++ (([Value.int .i64 (0 : Int)] ++ ([Value.int .i64 (0 : Int)] ++ ([Value.int .i64 (0 : Int)] ++ ([Value.int .u32 (0 : Int)] ++ en (Value.int .u8) (vrep 32 (0 : Int)).1)))) ++ [Value.int .i64 (0 : Int)]))) (r := ([Value.int .i64 (1 : Int)] ++ (([Value.int .i64 (0 : Int)] ++ ([Value.int .i64 (0 : Int)] ++ ([Value.int .i64 (0 : Int)] ++ ([Value.int .u32 (0 : Int)] ++ en (Value.int .u8) (vrep 32 (0 : Int)).1)))) ++ [Value.int .i64 (1 : Int)]))) rfl rfl (by kernel_rfl) rfl (by kernel_rfl) (by kernel_rfl) (fun w => by kernel_rfl) (fun w => by kernel_rfl) rfl (fill_cons (vs := [Value.int .i64 (1 : Int)]) (cs' := ([Value.int .i64 (1 : Int)] ++ (([Value.int .i64 (0 : Int)] ++ ([Value.int .i64 (0 : Int)] ++ ([Value.int .i64 (0 : Int)] ++ ([Value.int .u32 (0 : Int)] ++ en (Value.int .u8) (vrep 32 (0 : Int)).1)))) ++ [Value.int .i64 (0 : Int)]))) (off := 0) (size := 1) rfl (by kernel_rfl) (len1 _) (le_of_len (len_app (len1 _) (len_app (len_app (len1 _) (len_app (len1 _) (len_app (len1 _) (len_app (len1 _) (len_en _ (vrep 32 (0 : Int))))))) (len1 _))) (by decide)) (splc_in (Sub4.all _) (splc_head (len_eq (len1 _) (len1 _))) (splc_all (len_eq (len_app (len1 _) (len_app (len_app (len1 _) (len_app (len1 _) (len_app (len1 _) (len_app (len1 _) (len_en _ (vrep 32 (0 : Int))))))) (len1 _))) (len_app (len1 _) (len_app (len_app (len1 _) (len_app (len1 _) (len_app (len1 _) (len_app (len1 _) (len_en _ (vrep 32 (0 : Int))))))) (len1 _))))) (hl_of (Sub4.head _ _) (len_eq (len1 _) (len1 _)))) (fill_cons (vs := [Value.int .i64 (1 : Int)]) (cs' := ([Value.int .i64 (1 : Int)] ++ (([Value.int .i64 (0 : Int)] ++ ([Value.int .i64 (0 : Int)] ++ ([Value.int .i64 (0 : Int)] ++ ([Value.int .u32 (0 : Int)] ++ en (Value.int .u8) (vrep 32 (0 : Int)).1)))) ++ [Value.int .i64 (1 : Int)]))) (off := 37) (size := 1) rfl (by kernel_rfl) (len1 _) (le_of_len (len_app (len1 _) (len_app (len_app (len1 _) (len_app (len1 _) (len_app (len1 _) (len_app (len1 _) (len_en _ (vrep 32 (0 : Int))))))) (len1 _))) (by decide)) (splc_in (Sub4.all _) (splc_skip (n := 1) (len1 _) (splc_skip (n := 36) (len_app (len1 _) (len_app (len1 _) (len_app (len1 _) (len_app (len1 _) (len_en _ (vrep 32 (0 : Int))))))) (splc_all (len_eq (len1 _) (len1 _))))) (splc_all (len_eq (len_app (len1 _) (len_app (len_app (len1 _) (len_app (len1 _) (len_app (len1 _) (len_app (len1 _) (len_en _ (vrep 32 (0 : Int))))))) (len1 _))) (len_app (len1 _) (len_app (len_app (len1 _) (len_app (len1 _) (len_app (len1 _) (len_app (len1 _) (len_en _ (vrep 32 (0 : Int))))))) (len1 _))))) (hl_of (Sub4.skip (n := 1) (len1 _) (Sub4.skip (n := 36) (len_app (len1 _) (len_app (len1 _) (len_app (len1 _) (len_app (len1 _) (len_en _ (vrep 32 (0 : Int))))))) (Sub4.all _))) (len_eq (len1 _) (len1 _)))) fill_nil)) ?_
      obtain ⟨t61, hc62, H⟩ := bind_some H
      refine ls_callb (fid := 24) (vals := #[.agg ⟨([Value.int .i64 (1 : Int)] ++ (([Value.int .i64 (0 : Int)] ++ ([Value.int .i64 (0 : Int)] ++ ([Value.int .i64 (0 : Int)] ++ ([Value.int .u32 (0 : Int)] ++ en (Value.int .u8) (vrep 32 (0 : Int)).1)))) ++ [Value.int .i64 (1 : Int)]))⟩]) (X := (Option Addr × Nat)) (fun x => .tuple #[.slice x.1 t61.1.length x.2, .int .i64 t61.2.1, .int .i64 t61.2.2]) (fun x => stl [Ck.sl (Ec.int 5 .u8) x.1 x.2 t61.1]) [] [] [] [] 2 rfl rfl (by kernel_rfl) (fun w => by kernel_rfl) trivial trivial (by decide) (fun w hs hb => label_Seal.calls k ((1 : Int), ((0 : Int), (0 : Int), (0 : Int), (0 : Int), (vrep 32 (0 : Int))), (1 : Int)) t61 (lent b w [] []) hb  hc62) ?_
      intro x63
      refine ls_val (v := .tuple #[.slice x63.1 t61.1.length x63.2, .int .i64 t61.2.1, .int .i64 t61.2.2]) rfl rfl (by kernel_rfl) (fun w => by kernel_rfl) ?_
      refine ls_val (v := .slice x63.1 t61.1.length x63.2) rfl rfl (by kernel_rfl) (fun w => by kernel_rfl) ?_
      refine ls_val (v := .int .i64 t61.2.1) rfl rfl (by kernel_rfl) (fun w => by kernel_rfl) ?_
      refine ls_val (v := .int .i64 t61.2.2) rfl rfl (by kernel_rfl) (fun w => by kernel_rfl) ?_
      refine ls_val (v := .slice x63.1 t61.1.length x63.2) rfl rfl (by kernel_rfl) (fun w => by kernel_rfl) ?_
      refine ls_val (v := .int .i64 t61.2.1) rfl rfl (by kernel_rfl) (fun w => by kernel_rfl) ?_
      refine ls_val (v := .int .i64 t61.2.2) rfl rfl (by kernel_rfl) (fun w => by kernel_rfl) ?_
      refine ls_end ?_
      refine qn_then ?_
      refine cs_seq ?_
      refine cs_region (l := [_, _, _, _, _, _, _, _, _, _, _, _, _, _, _, _, _]) ?_
      refine ls_val (v := .slice x4.1 t2.1.length x4.2) rfl rfl (by kernel_rfl) (fun w => by kernel_rfl) ?_
      refine ls_val (v := .int .i64 (t2.1.length : Int)) rfl rfl (by kernel_rfl) (fun w => by kernel_rfl) ?_
      refine ls_val (v := .bool (decide ((t2.1.length : Int) = (0 : Int)))) rfl rfl (by kernel_rfl) (fun w => by kernel_rfl) ?_
      refine ls_val (v := .bool (decide ((t2.1.length : Int) = (0 : Int)))) rfl rfl (by kernel_rfl) (fun w => by kernel_rfl) ?_
      by_cases q64 : (t2.1.length : Int) = (0 : Int)
      · replace H := ite_t q64 H
        refine ls_know (c := true) (dec_t q64) 34 (by kernel_rfl) ?_
        refine ls_on (j := 3) (t := 34) (b := true) rfl rfl (by kernel_rfl) (by kernel_rfl) ?_
        refine ls_val (v := .int .i64 t2.2.1) rfl rfl (by kernel_rfl) (fun w => by kernel_rfl) ?_
        refine ls_on (j := 3) (t := 34) (b := true) rfl rfl (by kernel_rfl) (by kernel_rfl) ?_
        refine ls_val (v := .bool (decide (t2.2.1 = (0 : Int)))) rfl rfl (by kernel_rfl) (fun w => by kernel_rfl) ?_
        refine ls_val (v := .bool (decide (t2.2.1 = (0 : Int)))) rfl rfl (by kernel_rfl) (fun w => by kernel_rfl) ?_
        refine ls_val (v := .bool (decide (t2.2.1 = (0 : Int)))) rfl rfl (by kernel_rfl) (fun w => by kernel_rfl) ?_
        by_cases q65 : t2.2.1 = (0 : Int)
        · replace H := ite_t q65 H
          refine ls_know (c := true) (dec_t q65) 38 (by kernel_rfl) ?_
          refine ls_on (j := 7) (t := 38) (b := true) rfl rfl (by kernel_rfl) (by kernel_rfl) ?_
          refine ls_val (v := .int .i64 t61.2.2) rfl rfl (by kernel_rfl) (fun w => by kernel_rfl) ?_
          refine ls_on (j := 7) (t := 38) (b := true) rfl rfl (by kernel_rfl) (by kernel_rfl) ?_
          refine ls_val (v := .bool (decide (t61.2.2 = (0 : Int)))) rfl rfl (by kernel_rfl) (fun w => by kernel_rfl) ?_
          refine ls_val (v := .bool (decide (t61.2.2 = (0 : Int)))) rfl rfl (by kernel_rfl) (fun w => by kernel_rfl) ?_
          refine ls_val (v := .bool (decide (t61.2.2 = (0 : Int)))) rfl rfl (by kernel_rfl) (fun w => by kernel_rfl) ?_
          by_cases q66 : t61.2.2 = (0 : Int)
          · replace H := ite_t q66 H
            refine ls_know (c := true) (dec_t q66) 42 (by kernel_rfl) ?_
            refine ls_on (j := 11) (t := 42) (b := true) rfl rfl (by kernel_rfl) (by kernel_rfl) ?_
            refine ls_val (v := .slice x63.1 t61.1.length x63.2) rfl rfl (by kernel_rfl) (fun w => by kernel_rfl) ?_
            refine ls_on (j := 11) (t := 42) (b := true) rfl rfl (by kernel_rfl) (by kernel_rfl) ?_
            refine ls_val (v := .int .i64 (t61.1.length : Int)) rfl rfl (by kernel_rfl) (fun w => by kernel_rfl) ?_
            refine ls_on (j := 11) (t := 42) (b := true) rfl rfl (by kernel_rfl) (by kernel_rfl) ?_
            refine ls_val (v := .bool (decide ((t61.1.length : Int) = (512 : Int)))) rfl rfl (by kernel_rfl) (fun w => by kernel_rfl) ?_
            refine ls_val (v := .bool (decide ((t61.1.length : Int) = (512 : Int)))) rfl rfl (by kernel_rfl) (fun w => by kernel_rfl) ?_
            refine ls_val (v := .bool (decide ((t61.1.length : Int) = (512 : Int)))) rfl rfl (by kernel_rfl) (fun w => by kernel_rfl) ?_
            refine ls_end ?_
            refine qn_then ?_
            refine cs_ret' ?_
            refine qr_then ?_
            obtain rfl := Option.some.inj H
            refine qr_res (rs := [_]) rfl (fun w' hs => ⟨[.bool (decide ((t61.1.length : Int) = (512 : Int)))], (res_tmp (by kernel_rfl) (.nil)), (), rfl, hs.pick (ts := []) (cs := []) trivial (by decide)⟩)
          · replace H := ite_f q66 H
            refine ls_know (c := false) (dec_f q66) 42 (by kernel_rfl) ?_
            refine ls_off (j := 11) (t := 42) (b := true) (c := false) rfl rfl (by kernel_rfl) (by kernel_rfl) rfl rfl (by kernel_rfl) ?_
            refine ls_off (j := 11) (t := 42) (b := true) (c := false) rfl rfl (by kernel_rfl) (by kernel_rfl) rfl rfl (by kernel_rfl) ?_
            refine ls_off (j := 11) (t := 42) (b := true) (c := false) rfl rfl (by kernel_rfl) (by kernel_rfl) rfl rfl (by kernel_rfl) ?_
            refine ls_val (v := .bool false) rfl rfl (by kernel_rfl) (fun w => by kernel_rfl) ?_
            refine ls_val (v := .bool false) rfl rfl (by kernel_rfl) (fun w => by kernel_rfl) ?_
            refine ls_end ?_
            refine qn_then ?_
            refine cs_ret' ?_
            refine qr_then ?_
            obtain rfl := Option.some.inj H
            refine qr_res (rs := [_]) rfl (fun w' hs => ⟨[.bool false], (res_tmp (by kernel_rfl) (.nil)), (), rfl, hs.pick (ts := []) (cs := []) trivial (by decide)⟩)
        · replace H := ite_f q65 H
          refine ls_know (c := false) (dec_f q65) 38 (by kernel_rfl) ?_
          refine ls_off (j := 7) (t := 38) (b := true) (c := false) rfl rfl (by kernel_rfl) (by kernel_rfl) rfl rfl (by kernel_rfl) ?_
          refine ls_off (j := 7) (t := 38) (b := true) (c := false) rfl rfl (by kernel_rfl) (by kernel_rfl) rfl rfl (by kernel_rfl) ?_
          refine ls_val (v := .bool false) rfl rfl (by kernel_rfl) (fun w => by kernel_rfl) ?_
          refine ls_val (v := .bool false) rfl rfl (by kernel_rfl) (fun w => by kernel_rfl) ?_
          refine ls_off (j := 11) (t := 42) (b := true) (c := false) rfl rfl (by kernel_rfl) (by kernel_rfl) rfl rfl (by kernel_rfl) ?_
          refine ls_off (j := 11) (t := 42) (b := true) (c := false) rfl rfl (by kernel_rfl) (by kernel_rfl) rfl rfl (by kernel_rfl) ?_
          refine ls_off (j := 11) (t := 42) (b := true) (c := false) rfl rfl (by kernel_rfl) (by kernel_rfl) rfl rfl (by kernel_rfl) ?_
          refine ls_val (v := .bool false) rfl rfl (by kernel_rfl) (fun w => by kernel_rfl) ?_
          refine ls_val (v := .bool false) rfl rfl (by kernel_rfl) (fun w => by kernel_rfl) ?_
          refine ls_end ?_
          refine qn_then ?_
          refine cs_ret' ?_
          refine qr_then ?_
          obtain rfl := Option.some.inj H
          refine qr_res (rs := [_]) rfl (fun w' hs => ⟨[.bool false], (res_tmp (by kernel_rfl) (.nil)), (), rfl, hs.pick (ts := []) (cs := []) trivial (by decide)⟩)
      · replace H := ite_f q64 H
        refine ls_know (c := false) (dec_f q64) 34 (by kernel_rfl) ?_
        refine ls_off (j := 3) (t := 34) (b := true) (c := false) rfl rfl (by kernel_rfl) (by kernel_rfl) rfl rfl (by kernel_rfl) ?_
        refine ls_off (j := 3) (t := 34) (b := true) (c := false) rfl rfl (by kernel_rfl) (by kernel_rfl) rfl rfl (by kernel_rfl) ?_
        refine ls_val (v := .bool false) rfl rfl (by kernel_rfl) (fun w => by kernel_rfl) ?_
        refine ls_val (v := .bool false) rfl rfl (by kernel_rfl) (fun w => by kernel_rfl) ?_
        refine ls_off (j := 7) (t := 38) (b := true) (c := false) rfl rfl (by kernel_rfl) (by kernel_rfl) rfl rfl (by kernel_rfl) ?_
        refine ls_off (j := 7) (t := 38) (b := true) (c := false) rfl rfl (by kernel_rfl) (by kernel_rfl) rfl rfl (by kernel_rfl) ?_
        refine ls_val (v := .bool false) rfl rfl (by kernel_rfl) (fun w => by kernel_rfl) ?_
        refine ls_val (v := .bool false) rfl rfl (by kernel_rfl) (fun w => by kernel_rfl) ?_
        refine ls_off (j := 11) (t := 42) (b := true) (c := false) rfl rfl (by kernel_rfl) (by kernel_rfl) rfl rfl (by kernel_rfl) ?_
        refine ls_off (j := 11) (t := 42) (b := true) (c := false) rfl rfl (by kernel_rfl) (by kernel_rfl) rfl rfl (by kernel_rfl) ?_
        refine ls_off (j := 11) (t := 42) (b := true) (c := false) rfl rfl (by kernel_rfl) (by kernel_rfl) rfl rfl (by kernel_rfl) ?_
        refine ls_val (v := .bool false) rfl rfl (by kernel_rfl) (fun w => by kernel_rfl) ?_
        refine ls_val (v := .bool false) rfl rfl (by kernel_rfl) (fun w => by kernel_rfl) ?_
        refine ls_end ?_
        refine qn_then ?_
        refine cs_ret' ?_
        refine qr_then ?_
        obtain rfl := Option.some.inj H
        refine qr_res (rs := [_]) rfl (fun w' hs => ⟨[.bool false], (res_tmp (by kernel_rfl) (.nil)), (), rfl, hs.pick (ts := []) (cs := []) trivial (by decide)⟩)
  · rintro f S ⟨fr1, rfl, rfl, H⟩
    replace H : ((if (t2.1.length : Int) = (512 : Int) then (shadowboxlaw08_LabelBack.jo2 k a0 a1 a2 t2) else some false)) = some r := H
    refine cs_cut (fun f S => ∃ (fR : Fr), f = upd (upd (upd (upd (upd fR 1 (.int .i64 a1)) 2 (.int .u32 a2)) 3 (.pointer (some ⟨g1, 0, none⟩))) 7 (.slice x4.1 t2.1.length x4.2)) 8 (.int .i64 t2.2.1) ∧ S = sput (sput s0 0 (some (Ck.var 42 g1 (([Value.int .i64 a0.1] ++ (([Value.int .i64 a0.2.1.1] ++ ([Value.int .i64 a0.2.1.2.1] ++ ([Value.int .i64 a0.2.1.2.2.1] ++ ([Value.int .u32 a0.2.1.2.2.2.1] ++ en (Value.int .u8) a0.2.1.2.2.2.2.1)))) ++ [Value.int .i64 a0.2.2])))))) 1 (some (Ck.sl (Ec.int 5 .u8) x4.1 x4.2 t2.1)) ∧ shadowboxlaw08_LabelBack.jo2 k a0 a1 a2 t2 = some r) ?_ ?_
    · skip
      refine cs_seq ?_
      refine cs_region (l := [_, _, _]) ?_
      refine ls_val (v := .slice x4.1 t2.1.length x4.2) rfl rfl (by kernel_rfl) (fun w => by kernel_rfl) ?_
      refine ls_val (v := .int .i64 (t2.1.length : Int)) rfl rfl (by kernel_rfl) (fun w => by kernel_rfl) ?_
      refine ls_val (v := .bool (!decide ((t2.1.length : Int) = (512 : Int)))) rfl rfl (by kernel_rfl) (fun w => by kernel_rfl) ?_
      refine ls_end ?_
      refine qn_then ?_
      by_cases q59 : (t2.1.length : Int) = (512 : Int)
      · replace H := ite_t q59 H
        refine cs_know (c := false) (congrArg Bool.not (dec_t q59)) 49 (by kernel_rfl) ?_
        refine cs_false (by kernel_rfl) ?_
        refine cs_skip' ?_
        refine qn_meet (sput (sput s0 0 (some (Ck.var 42 g1 (([Value.int .i64 a0.1] ++ (([Value.int .i64 a0.2.1.1] ++ ([Value.int .i64 a0.2.1.2.1] ++ ([Value.int .i64 a0.2.1.2.2.1] ++ ([Value.int .u32 a0.2.1.2.2.2.1] ++ en (Value.int .u8) a0.2.1.2.2.2.2.1)))) ++ [Value.int .i64 a0.2.2])))))) 1 (some (Ck.sl (Ec.int 5 .u8) x4.1 x4.2 t2.1))) ⟨_, fr_next (fr_next (fr_next (fr_next (fr_next (rfl) (by kernel_rfl)) (by kernel_rfl)) (by kernel_rfl)) (by kernel_rfl)) (by kernel_rfl), rfl, H⟩ (sub_put (by exact rfl) (sub_put (by exact rfl) (sub_nil _)))
      · replace H := ite_f q59 H
        refine cs_know (c := true) (congrArg Bool.not (dec_f q59)) 49 (by kernel_rfl) ?_
        refine cs_true (by kernel_rfl) ?_
        refine cs_seq ?_
        refine cs_region (l := [_]) ?_
        refine ls_val (v := .bool false) rfl rfl (by kernel_rfl) (fun w => by kernel_rfl) ?_
        refine ls_end ?_
        refine qn_then ?_
        refine cs_ret' ?_
        refine qr_then ?_
        obtain rfl := Option.some.inj H
        refine qr_res (rs := [_]) rfl (fun w' hs => ⟨[.bool false], (res_tmp (by kernel_rfl) (.nil)), (), rfl, hs.pick (ts := []) (cs := []) trivial (by decide)⟩)
    · rintro f S ⟨fr2, rfl, rfl, H⟩
      replace H : ((if (([] : List Int).length + t2.1.length) * 1 ≤ 140737488355328 then (if ((([] : List Int) ++ t2.1).length + ([(7 : Int)]).length) * 1 ≤ 140737488355328 then (label_Open.f k ((([] : List Int) ++ t2.1) ++ [(7 : Int)])).bind fun t13 => lt (IntKind.wrap .i64 ((Int.tmod a1 (4065 : Int)) + (4065 : Int))) fun y17 => shadowboxlaw08_LabelBack.lo4 a2 y17 (shadowboxlaw08_LabelBack.jo3 k a0 a2 t2 t13) k t2.1 (0 : Int) else none) else none)) = some r := H
      refine cs_seq ?_
      refine cs_region (l := [_, _, _, _, _, _, _, _, _, _, _, _]) ?_
      refine ls_lit (Ec.int 5 .u8) 2 rfl rfl (by kernel_rfl) ([] : List Int) (by exact of_decide_eq_true (by kernel_rfl)) (fun w => by kernel_rfl) ?_
      intro g5
      refine ls_val (v := .slice x4.1 t2.1.length x4.2) rfl rfl (by kernel_rfl) (fun w => by kernel_rfl) ?_
      obtain ⟨q6, H⟩ := ite_need H
      refine ls_app (Ec.int 5 .u8) (A := (some ⟨g5, 0, none⟩)) (c := ([] : List Int).length) (B := x4.1) (cb := x4.2) (z := (Value.int .u8 0)) (l := ([] : List Int)) (m := t2.1) (bytes := 1) 2 rfl rfl (by kernel_rfl) rfl (by kernel_rfl) (by exact rfl) (by kernel_rfl) (fun w hs => (hs.rd (k := 1) (by exact rfl))) (by kernel_rfl) (by kernel_rfl) rfl (by decide) q6 ?_
      intro xA7 xc8
      refine ls_lit (Ec.int 5 .u8) 3 rfl rfl (by kernel_rfl) ([(7 : Int)]) (by exact of_decide_eq_true (by kernel_rfl)) (fun w => by kernel_rfl) ?_
      intro g9
      obtain ⟨q10, H⟩ := ite_need H
      refine ls_app (Ec.int 5 .u8) (A := xA7) (c := xc8) (B := (some ⟨g9, 0, none⟩)) (cb := [(7 : Int)].length) (z := (Value.int .u8 0)) (l := (([] : List Int) ++ t2.1)) (m := [(7 : Int)]) (bytes := 1) 2 rfl rfl (by kernel_rfl) rfl (by kernel_rfl) (by exact rfl) (by kernel_rfl) (fun w hs => (hs.rd (k := 3) (by exact rfl))) (by kernel_rfl) (by kernel_rfl) rfl (by decide) q10 ?_
      intro xA11 xc12
      obtain ⟨t13, hc14, H⟩ := bind_some H
      refine ls_callb (fid := 26) (vals := #[.slice xA11 ((([] : List Int) ++ t2.1) ++ [(7 : Int)]).length xc12]) (X := Unit) (fun x => .tuple #[.agg ⟨([Value.int .i64 t13.1.1] ++ (([Value.int .i64 t13.1.2.1.1] ++ ([Value.int .i64 t13.1.2.1.2.1] ++ ([Value.int .i64 t13.1.2.1.2.2.1] ++ ([Value.int .u32 t13.1.2.1.2.2.2.1] ++ en (Value.int .u8) t13.1.2.1.2.2.2.2.1)))) ++ [Value.int .i64 t13.1.2.2]))⟩, .int .i64 t13.2]) (fun x => stl []) [] [2] [] [Ck.sl (Ec.int 5 .u8) xA11 xc12 ((([] : List Int) ++ t2.1) ++ [(7 : Int)])] 4 rfl rfl (by kernel_rfl) (fun w => by kernel_rfl) trivial ⟨by exact rfl, trivial⟩ (by decide) (fun w hs hb => label_Open.calls k xA11 xc12 ((([] : List Int) ++ t2.1) ++ [(7 : Int)]) t13 (lent b w [] [Ck.sl (Ec.int 5 .u8) xA11 xc12 ((([] : List Int) ++ t2.1) ++ [(7 : Int)])]) hb (hs.ror (k := 2) (by exact rfl) (.head _)) (hs.cap (k := 2) (by exact rfl)) hc14) ?_
      intro x15
      refine ls_val (v := .tuple #[.agg ⟨([Value.int .i64 t13.1.1] ++ (([Value.int .i64 t13.1.2.1.1] ++ ([Value.int .i64 t13.1.2.1.2.1] ++ ([Value.int .i64 t13.1.2.1.2.2.1] ++ ([Value.int .u32 t13.1.2.1.2.2.2.1] ++ en (Value.int .u8) t13.1.2.1.2.2.2.2.1)))) ++ [Value.int .i64 t13.1.2.2]))⟩, .int .i64 t13.2]) rfl rfl (by kernel_rfl) (fun w => by kernel_rfl) ?_
      refine ls_val (v := .agg ⟨([Value.int .i64 t13.1.1] ++ (([Value.int .i64 t13.1.2.1.1] ++ ([Value.int .i64 t13.1.2.1.2.1] ++ ([Value.int .i64 t13.1.2.1.2.2.1] ++ ([Value.int .u32 t13.1.2.1.2.2.2.1] ++ en (Value.int .u8) t13.1.2.1.2.2.2.2.1)))) ++ [Value.int .i64 t13.1.2.2]))⟩) rfl rfl (by kernel_rfl) (fun w => by kernel_rfl) ?_
      refine ls_val (v := .int .i64 t13.2) rfl rfl (by kernel_rfl) (fun w => by kernel_rfl) ?_
      refine ls_new rfl rfl (by kernel_rfl) 4 (fun g => .pointer (some ⟨g, 0, none⟩)) (.cells ⟨([Value.int .i64 (0 : Int)] ++ (([Value.int .i64 (0 : Int)] ++ ([Value.int .i64 (0 : Int)] ++ ([Value.int .i64 (0 : Int)] ++ ([Value.int .u32 (0 : Int)] ++ en (Value.int .u8) (vrep 32 (0 : Int)).1)))) ++ [Value.int .i64 (0 : Int)]))⟩ 42) (fun w => by kernel_rfl) ?_
      intro g16
      refine ls_storec (g := g16) (off := 0) (v := .agg ⟨([Value.int .i64 t13.1.1] ++ (([Value.int .i64 t13.1.2.1.1] ++ ([Value.int .i64 t13.1.2.1.2.1] ++ ([Value.int .i64 t13.1.2.1.2.2.1] ++ ([Value.int .u32 t13.1.2.1.2.2.2.1] ++ en (Value.int .u8) t13.1.2.1.2.2.2.2.1)))) ++ [Value.int .i64 t13.1.2.2]))⟩) (vs := ([Value.int .i64 t13.1.1] ++ (([Value.int .i64 t13.1.2.1.1] ++ ([Value.int .i64 t13.1.2.1.2.1] ++ ([Value.int .i64 t13.1.2.1.2.2.1] ++ ([Value.int .u32 t13.1.2.1.2.2.2.1] ++ en (Value.int .u8) t13.1.2.1.2.2.2.2.1)))) ++ [Value.int .i64 t13.1.2.2]))) (cs := ([Value.int .i64 (0 : Int)] ++ (([Value.int .i64 (0 : Int)] ++ ([Value.int .i64 (0 : Int)] ++ ([Value.int .i64 (0 : Int)] ++ ([Value.int .u32 (0 : Int)] ++ en (Value.int .u8) (vrep 32 (0 : Int)).1)))) ++ [Value.int .i64 (0 : Int)]))) (ty := 42) 4 rfl rfl rfl (by kernel_rfl) (by kernel_rfl) (by kernel_rfl) (by exact rfl) (by kernel_rfl) (len_app (len1 _) (len_app (len_app (len1 _) (len_app (len1 _) (len_app (len1 _) (len_app (len1 _) (len_en _ t13.1.2.1.2.2.2.2))))) (len1 _))) (one_app (one_cons rfl one_nil) (one_app (one_app (one_cons rfl one_nil) (one_app (one_cons rfl one_nil) (one_app (one_cons rfl one_nil) (one_app (one_cons rfl one_nil) (one_en (fun _ => rfl) _))))) (one_cons rfl one_nil))) (hl_of (Sub4.all _) (len_eq (len_app (len1 _) (len_app (len_app (len1 _) (len_app (len1 _) (len_app (len1 _) (len_app (len1 _) (len_en _ t13.1.2.1.2.2.2.2))))) (len1 _))) (len_app (len1 _) (len_app (len_app (len1 _) (len_app (len1 _) (len_app (len1 _) (len_app (len1 _) (len_en _ (vrep 32 (0 : Int))))))) (len1 _))))) (cs' := ([Value.int .i64 t13.1.1] ++ (([Value.int .i64 t13.1.2.1.1] ++ ([Value.int .i64 t13.1.2.1.2.1] ++ ([Value.int .i64 t13.1.2.1.2.2.1] ++ ([Value.int .u32 t13.1.2.1.2.2.2.1] ++ en (Value.int .u8) t13.1.2.1.2.2.2.2.1)))) ++ [Value.int .i64 t13.1.2.2]))) (splc_all (len_eq (len_app (len1 _) (len_app (len_app (len1 _) (len_app (len1 _) (len_app (len1 _) (len_app (len1 _) (len_en _ t13.1.2.1.2.2.2.2))))) (len1 _))) (len_app (len1 _) (len_app (len_app (len1 _) (len_app (len1 _) (len_app (len1 _) (len_app (len1 _) (len_en _ (vrep 32 (0 : Int))))))) (len1 _))))) ?_
      refine ls_val (v := .int .i64 t13.2) rfl rfl (by kernel_rfl) (fun w => by kernel_rfl) ?_
      refine ls_end ?_
      refine qn_then ?_
      refine cs_seq ?_
      refine cs_region (l := [_, _, _, _, _]) ?_
      refine ls_val (v := .int .i64 a1) rfl rfl (by kernel_rfl) (fun w => by kernel_rfl) ?_
      refine ls_val (v := .int .i64 (Int.tmod a1 (4065 : Int))) rfl rfl (by kernel_rfl) (fun w => by kernel_rfl) ?_
      obtain ⟨y17, hy18, H⟩ := lt_some H
      refine ls_val (v := .int .i64 (IntKind.wrap .i64 ((Int.tmod a1 (4065 : Int)) + (4065 : Int)))) rfl rfl (by kernel_rfl) (fun w => by kernel_rfl) ?_
      refine ls_ren 61 (v := .int .i64 (IntKind.wrap .i64 ((Int.tmod a1 (4065 : Int)) + (4065 : Int)))) (v' := .int .i64 y17) (by kernel_rfl) (by rw [hy18]) ?_
      refine ls_val (v := .int .i64 (Int.tmod y17 (4065 : Int))) rfl rfl (by kernel_rfl) (fun w => by kernel_rfl) ?_
      refine ls_val (v := .int .i64 (Int.tmod y17 (4065 : Int))) rfl rfl (by kernel_rfl) (fun w => by kernel_rfl) ?_
      refine ls_end ?_
      refine qn_then ?_
      refine cs_cut (fun f S => ∃ (fR : Fr) (A7_3 : Option Addr) (c7_3 : Nat) (l7_3 : List Int), f = upd (upd (upd (upd (upd (upd fR 2 (.int .u32 a2)) 3 (.pointer (some ⟨g1, 0, none⟩))) 7 (.slice A7_3 l7_3.length c7_3)) 8 (.int .i64 t2.2.1)) 9 (.int .i64 t13.2)) 13 (.pointer (some ⟨g16, 0, none⟩)) ∧ S = sput (sput (sput s0 0 (some (Ck.var 42 g1 (([Value.int .i64 a0.1] ++ (([Value.int .i64 a0.2.1.1] ++ ([Value.int .i64 a0.2.1.2.1] ++ ([Value.int .i64 a0.2.1.2.2.1] ++ ([Value.int .u32 a0.2.1.2.2.2.1] ++ en (Value.int .u8) a0.2.1.2.2.2.2.1)))) ++ [Value.int .i64 a0.2.2])))))) 1 (some (Ck.sl (Ec.int 5 .u8) A7_3 c7_3 l7_3))) 4 (some (Ck.var 42 g16 (([Value.int .i64 t13.1.1] ++ (([Value.int .i64 t13.1.2.1.1] ++ ([Value.int .i64 t13.1.2.1.2.1] ++ ([Value.int .i64 t13.1.2.1.2.2.1] ++ ([Value.int .u32 t13.1.2.1.2.2.2.1] ++ en (Value.int .u8) t13.1.2.1.2.2.2.2.1)))) ++ [Value.int .i64 t13.1.2.2]))))) ∧ shadowboxlaw08_LabelBack.jo3 k a0 a2 t2 t13 l7_3 = some r) ?_ ?_
      · skip
        refine cs_seq ?_
        refine cs_region (l := [_]) ?_
        refine ls_val (v := .int .i64 (0 : Int)) rfl rfl (by kernel_rfl) (fun w => by kernel_rfl) ?_
        refine ls_end ?_
        refine qn_then ?_
        refine cs_block ?_
        refine cs_sub (sput (sput (sput s0 0 (some (Ck.var 42 g1 (([Value.int .i64 a0.1] ++ (([Value.int .i64 a0.2.1.1] ++ ([Value.int .i64 a0.2.1.2.1] ++ ([Value.int .i64 a0.2.1.2.2.1] ++ ([Value.int .u32 a0.2.1.2.2.2.1] ++ en (Value.int .u8) a0.2.1.2.2.2.2.1)))) ++ [Value.int .i64 a0.2.2])))))) 1 (some (Ck.sl (Ec.int 5 .u8) x4.1 x4.2 t2.1))) 4 (some (Ck.var 42 g16 (([Value.int .i64 t13.1.1] ++ (([Value.int .i64 t13.1.2.1.1] ++ ([Value.int .i64 t13.1.2.1.2.1] ++ ([Value.int .i64 t13.1.2.1.2.2.1] ++ ([Value.int .u32 t13.1.2.1.2.2.2.1] ++ en (Value.int .u8) t13.1.2.1.2.2.2.2.1)))) ++ [Value.int .i64 t13.1.2.2])))))) (sub_put (by exact rfl) (sub_put (by exact rfl) (sub_put (by exact rfl) (sub_nil _)))) ?_
        refine cs_loop (fun kk f S => ∃ (fR : Fr) (A7_4 : Option Addr) (c7_4 : Nat) (l7_4 : List Int) (x14_4 : Int), f = upd (upd (upd (upd (upd (upd (upd (upd fR 1 (.int .i64 (Int.tmod y17 (4065 : Int)))) 2 (.int .u32 a2)) 3 (.pointer (some ⟨g1, 0, none⟩))) 7 (.slice A7_4 l7_4.length c7_4)) 8 (.int .i64 t2.2.1)) 9 (.int .i64 t13.2)) 13 (.pointer (some ⟨g16, 0, none⟩))) 14 (.int .i64 x14_4) ∧ S = sput (sput (sput s0 0 (some (Ck.var 42 g1 (([Value.int .i64 a0.1] ++ (([Value.int .i64 a0.2.1.1] ++ ([Value.int .i64 a0.2.1.2.1] ++ ([Value.int .i64 a0.2.1.2.2.1] ++ ([Value.int .u32 a0.2.1.2.2.2.1] ++ en (Value.int .u8) a0.2.1.2.2.2.2.1)))) ++ [Value.int .i64 a0.2.2])))))) 1 (some (Ck.sl (Ec.int 5 .u8) A7_4 c7_4 l7_4))) 4 (some (Ck.var 42 g16 (([Value.int .i64 t13.1.1] ++ (([Value.int .i64 t13.1.2.1.1] ++ ([Value.int .i64 t13.1.2.1.2.1] ++ ([Value.int .i64 t13.1.2.1.2.2.1] ++ ([Value.int .u32 t13.1.2.1.2.2.2.1] ++ en (Value.int .u8) t13.1.2.1.2.2.2.2.1)))) ++ [Value.int .i64 t13.1.2.2]))))) ∧ shadowboxlaw08_LabelBack.lo4 a2 y17 (shadowboxlaw08_LabelBack.jo3 k a0 a2 t2 t13) kk l7_4 x14_4 = some r) k ?_ ?_ ?_
        · exact ⟨_, x4.1, x4.2, t2.1, (0 : Int), fr_next (fr_next (fr_next (fr_next (fr_next (fr_next (fr_next (fr_next (rfl) (by kernel_rfl)) (by kernel_rfl)) (by kernel_rfl)) (by kernel_rfl)) (by kernel_rfl)) (by kernel_rfl)) (by kernel_rfl)) (by kernel_rfl), rfl, H⟩
        · rintro f S ⟨fr4, A7_4, c7_4, l7_4, x14_4, rfl, rfl, H⟩; cases H
        · rintro k4 f S ⟨fr4, A7_4, c7_4, l7_4, x14_4, rfl, rfl, H⟩
          replace H : ((if x14_4 < (32 : Int) then (shadowboxlaw08_LabelBack.jo5 a2 y17 l7_4 x14_4 (shadowboxlaw08_LabelBack.lo4 a2 y17 (shadowboxlaw08_LabelBack.jo3 k a0 a2 t2 t13) k4)) else (shadowboxlaw08_LabelBack.jo3 k a0 a2 t2 t13) l7_4)) = some r := H
          refine cs_cut (fun f S => ∃ (fR : Fr), f = upd (upd (upd (upd (upd (upd (upd (upd fR 1 (.int .i64 (Int.tmod y17 (4065 : Int)))) 2 (.int .u32 a2)) 3 (.pointer (some ⟨g1, 0, none⟩))) 7 (.slice A7_4 l7_4.length c7_4)) 8 (.int .i64 t2.2.1)) 9 (.int .i64 t13.2)) 13 (.pointer (some ⟨g16, 0, none⟩))) 14 (.int .i64 x14_4) ∧ S = sput (sput (sput s0 0 (some (Ck.var 42 g1 (([Value.int .i64 a0.1] ++ (([Value.int .i64 a0.2.1.1] ++ ([Value.int .i64 a0.2.1.2.1] ++ ([Value.int .i64 a0.2.1.2.2.1] ++ ([Value.int .u32 a0.2.1.2.2.2.1] ++ en (Value.int .u8) a0.2.1.2.2.2.2.1)))) ++ [Value.int .i64 a0.2.2])))))) 1 (some (Ck.sl (Ec.int 5 .u8) A7_4 c7_4 l7_4))) 4 (some (Ck.var 42 g16 (([Value.int .i64 t13.1.1] ++ (([Value.int .i64 t13.1.2.1.1] ++ ([Value.int .i64 t13.1.2.1.2.1] ++ ([Value.int .i64 t13.1.2.1.2.2.1] ++ ([Value.int .u32 t13.1.2.1.2.2.2.1] ++ en (Value.int .u8) t13.1.2.1.2.2.2.2.1)))) ++ [Value.int .i64 t13.1.2.2]))))) ∧ shadowboxlaw08_LabelBack.jo5 a2 y17 l7_4 x14_4 (shadowboxlaw08_LabelBack.lo4 a2 y17 (shadowboxlaw08_LabelBack.jo3 k a0 a2 t2 t13) k4) = some r) ?_ ?_
          · skip
            refine cs_seq ?_
            refine cs_region (l := [_, _]) ?_
            refine ls_val (v := .int .i64 x14_4) rfl rfl (by kernel_rfl) (fun w => by kernel_rfl) ?_
            refine ls_val (v := .bool (decide (x14_4 < (32 : Int)))) rfl rfl (by kernel_rfl) (fun w => by kernel_rfl) ?_
            refine ls_end ?_
            refine qn_then ?_
            by_cases q58 : x14_4 < (32 : Int)
            · replace H := ite_t q58 H
              refine cs_know (c := true) (dec_t q58) 64 (by kernel_rfl) ?_
              refine cs_true (by kernel_rfl) ?_
              refine cs_skip' ?_
              refine qn_meet (sput (sput (sput s0 0 (some (Ck.var 42 g1 (([Value.int .i64 a0.1] ++ (([Value.int .i64 a0.2.1.1] ++ ([Value.int .i64 a0.2.1.2.1] ++ ([Value.int .i64 a0.2.1.2.2.1] ++ ([Value.int .u32 a0.2.1.2.2.2.1] ++ en (Value.int .u8) a0.2.1.2.2.2.2.1)))) ++ [Value.int .i64 a0.2.2])))))) 1 (some (Ck.sl (Ec.int 5 .u8) A7_4 c7_4 l7_4))) 4 (some (Ck.var 42 g16 (([Value.int .i64 t13.1.1] ++ (([Value.int .i64 t13.1.2.1.1] ++ ([Value.int .i64 t13.1.2.1.2.1] ++ ([Value.int .i64 t13.1.2.1.2.2.1] ++ ([Value.int .u32 t13.1.2.1.2.2.2.1] ++ en (Value.int .u8) t13.1.2.1.2.2.2.2.1)))) ++ [Value.int .i64 t13.1.2.2])))))) ⟨_, fr_next (fr_next (fr_next (fr_next (fr_next (fr_next (fr_next (fr_next (rfl) (by kernel_rfl)) (by kernel_rfl)) (by kernel_rfl)) (by kernel_rfl)) (by kernel_rfl)) (by kernel_rfl)) (by kernel_rfl)) (by kernel_rfl), rfl, H⟩ (sub_put (by exact rfl) (sub_put (by exact rfl) (sub_put (by exact rfl) (sub_nil _))))
            · replace H := ite_f q58 H
              refine cs_know (c := false) (dec_f q58) 64 (by kernel_rfl) ?_
              refine cs_false (by kernel_rfl) ?_
              refine cs_exit' ?_
              refine qx_then ?_
              refine qx_then ?_
              refine qx_same ?_
              refine qn_meet (sput (sput (sput s0 0 (some (Ck.var 42 g1 (([Value.int .i64 a0.1] ++ (([Value.int .i64 a0.2.1.1] ++ ([Value.int .i64 a0.2.1.2.1] ++ ([Value.int .i64 a0.2.1.2.2.1] ++ ([Value.int .u32 a0.2.1.2.2.2.1] ++ en (Value.int .u8) a0.2.1.2.2.2.2.1)))) ++ [Value.int .i64 a0.2.2])))))) 1 (some (Ck.sl (Ec.int 5 .u8) A7_4 c7_4 l7_4))) 4 (some (Ck.var 42 g16 (([Value.int .i64 t13.1.1] ++ (([Value.int .i64 t13.1.2.1.1] ++ ([Value.int .i64 t13.1.2.1.2.1] ++ ([Value.int .i64 t13.1.2.1.2.2.1] ++ ([Value.int .u32 t13.1.2.1.2.2.2.1] ++ en (Value.int .u8) t13.1.2.1.2.2.2.2.1)))) ++ [Value.int .i64 t13.1.2.2])))))) ⟨_, A7_4, c7_4, l7_4, fr_next (fr_next (fr_next (fr_next (fr_next (fr_next (rfl) (by kernel_rfl)) (by kernel_rfl)) (by kernel_rfl)) (by kernel_rfl)) (by kernel_rfl)) (by kernel_rfl), rfl, H⟩ (sub_put (by exact rfl) (sub_put (by exact rfl) (sub_put (by exact rfl) (sub_nil _))))
          · rintro f S ⟨fr5, rfl, rfl, H⟩
            replace H : ((if 0 ≤ IntKind.wrap .u64 x14_4 then lt (bits .and .u32 (shrv .u32 a2 (IntKind.wrap .u64 x14_4)) (1 : Int)) fun y30 => (if y30 = (1 : Int) then lt (IntKind.wrap .i64 ((Int.tmod y17 (4065 : Int)) + x14_4)) fun y33 => lt (IntKind.wrap .i64 (Int.tdiv y33 (8 : Int))) fun y35 => lt (IntKind.wrap .i64 ((Int.tmod y17 (4065 : Int)) + x14_4)) fun y37 => lt (IntKind.wrap .i64 (Int.tdiv y37 (8 : Int))) fun y39 => (if 0 ≤ y39 then (if y39 < (l7_4.length : Int) then lt (IntKind.wrap .i64 ((Int.tmod y17 (4065 : Int)) + x14_4)) fun y45 => lt (IntKind.wrap .u64 (Int.tmod y45 (8 : Int))) fun y47 => (if 0 ≤ y47 then lt (bits .xor .u8 ((l7_4).getD (y39).toNat (0 : Int)) (shlv .u8 (1 : Int) y47)) fun y50 => (if 0 ≤ y35 then (if y35 < (l7_4.length : Int) then lt ((l7_4).set (y35).toNat y50) fun y56 => (shadowboxlaw08_LabelBack.lo4 a2 y17 (shadowboxlaw08_LabelBack.jo3 k a0 a2 t2 t13) k4) y56 (IntKind.wrap .i64 (x14_4 + (1 : Int))) else none) else none) else none) else none) else none) else (shadowboxlaw08_LabelBack.lo4 a2 y17 (shadowboxlaw08_LabelBack.jo3 k a0 a2 t2 t13) k4) l7_4 (IntKind.wrap .i64 (x14_4 + (1 : Int)))) else none)) = some r := H
            refine cs_seq ?_
            refine cs_block ?_
            refine cs_seq ?_
            refine cs_region (l := [_, _, _, _, _, _]) ?_
            refine ls_val (v := .int .u32 a2) rfl rfl (by kernel_rfl) (fun w => by kernel_rfl) ?_
            refine ls_val (v := .int .i64 x14_4) rfl rfl (by kernel_rfl) (fun w => by kernel_rfl) ?_
            refine ls_val (v := .int .u64 (IntKind.wrap .u64 x14_4)) rfl rfl (by kernel_rfl) (fun w => by kernel_rfl) ?_
            obtain ⟨q29, H⟩ := ite_need H
            refine ls_shiftr (k := .u32) (yk := .u64) (x := a2) (y := (IntKind.wrap .u64 x14_4)) rfl rfl (by kernel_rfl) (fun w => by kernel_rfl) q29 ?_
            obtain ⟨y30, hy31, H⟩ := lt_some H
            refine ls_val (v := .int .u32 (bits .and .u32 (shrv .u32 a2 (IntKind.wrap .u64 x14_4)) (1 : Int))) rfl rfl (by kernel_rfl) (fun w => by kernel_rfl) ?_
            refine ls_ren 71 (v := .int .u32 (bits .and .u32 (shrv .u32 a2 (IntKind.wrap .u64 x14_4)) (1 : Int))) (v' := .int .u32 y30) (by kernel_rfl) (by rw [hy31]) ?_
            refine ls_val (v := .bool (decide (y30 = (1 : Int)))) rfl rfl (by kernel_rfl) (fun w => by kernel_rfl) ?_
            refine ls_end ?_
            refine qn_then ?_
            by_cases q32 : y30 = (1 : Int)
            · replace H := ite_t q32 H
              refine cs_know (c := true) (dec_t q32) 72 (by kernel_rfl) ?_
              refine cs_true (by kernel_rfl) ?_
              refine cs_region (l := [_, _, _, _, _, _, _, _, _, _, _, _, _, _, _, _, _, _, _, _, _]) ?_
              refine ls_val (v := .slice A7_4 l7_4.length c7_4) rfl rfl (by kernel_rfl) (fun w => by kernel_rfl) ?_
              refine ls_val (v := .int .i64 (Int.tmod y17 (4065 : Int))) rfl rfl (by kernel_rfl) (fun w => by kernel_rfl) ?_
              refine ls_val (v := .int .i64 x14_4) rfl rfl (by kernel_rfl) (fun w => by kernel_rfl) ?_
              obtain ⟨y33, hy34, H⟩ := lt_some H
              refine ls_val (v := .int .i64 (IntKind.wrap .i64 ((Int.tmod y17 (4065 : Int)) + x14_4))) rfl rfl (by kernel_rfl) (fun w => by kernel_rfl) ?_
              refine ls_ren 76 (v := .int .i64 (IntKind.wrap .i64 ((Int.tmod y17 (4065 : Int)) + x14_4))) (v' := .int .i64 y33) (by kernel_rfl) (by rw [hy34]) ?_
              obtain ⟨y35, hy36, H⟩ := lt_some H
              refine ls_val (v := .int .i64 (IntKind.wrap .i64 (Int.tdiv y33 (8 : Int)))) rfl rfl (by kernel_rfl) (fun w => by kernel_rfl) ?_
              refine ls_ren 77 (v := .int .i64 (IntKind.wrap .i64 (Int.tdiv y33 (8 : Int)))) (v' := .int .i64 y35) (by kernel_rfl) (by rw [hy36]) ?_
              refine ls_val (v := .slice A7_4 l7_4.length c7_4) rfl rfl (by kernel_rfl) (fun w => by kernel_rfl) ?_
              refine ls_val (v := .int .i64 (Int.tmod y17 (4065 : Int))) rfl rfl (by kernel_rfl) (fun w => by kernel_rfl) ?_
              refine ls_val (v := .int .i64 x14_4) rfl rfl (by kernel_rfl) (fun w => by kernel_rfl) ?_
              obtain ⟨y37, hy38, H⟩ := lt_some H
              refine ls_val (v := .int .i64 (IntKind.wrap .i64 ((Int.tmod y17 (4065 : Int)) + x14_4))) rfl rfl (by kernel_rfl) (fun w => by kernel_rfl) ?_
              refine ls_ren 81 (v := .int .i64 (IntKind.wrap .i64 ((Int.tmod y17 (4065 : Int)) + x14_4))) (v' := .int .i64 y37) (by kernel_rfl) (by rw [hy38]) ?_
              obtain ⟨y39, hy40, H⟩ := lt_some H
              refine ls_val (v := .int .i64 (IntKind.wrap .i64 (Int.tdiv y37 (8 : Int)))) rfl rfl (by kernel_rfl) (fun w => by kernel_rfl) ?_
              refine ls_ren 82 (v := .int .i64 (IntKind.wrap .i64 (Int.tdiv y37 (8 : Int)))) (v' := .int .i64 y39) (by kernel_rfl) (by rw [hy40]) ?_
              obtain ⟨q41, H⟩ := ite_need H
              obtain ⟨q42, H⟩ := ite_need H
              refine ls_at (T := (Ec.int 5 .u8)) (tk := 1) (i := y39) (by exact rfl) q41 q42 ?_
              intro ad43 hA44
              refine ls_idxv (Ec.int 5 .u8) (A := A7_4) (c := c7_4) (l := l7_4) (k := .i64) (i := y39) (z := 1) (ad := ad43) rfl rfl (by kernel_rfl) hA44 rfl (by kernel_rfl) (by kernel_rfl) (by kernel_rfl) (by kernel_rfl) q41 q42 ?_
              refine ls_load (a0 := (ad43.add ((y39).toNat * 1))) (v := .int .u8 ((l7_4).getD (y39).toNat (0 : Int))) (de := (TypeDesc.int .u8)) rfl rfl (by kernel_rfl) rfl (by kernel_rfl) (by kernel_rfl) (by kernel_rfl) (fun w hs => (hs.rd (k := 1) (by exact rfl)).at hA44 (em_sub (Ec.int 5 .u8) l7_4 (i := (y39).toNat) (by have h0 : (0 : Int) ≤ y39 := q41; have h1 : y39 < (l7_4.length : Int) := q42; omega))) ?_
              refine ls_val (v := .int .i64 (Int.tmod y17 (4065 : Int))) rfl rfl (by kernel_rfl) (fun w => by kernel_rfl) ?_
              refine ls_val (v := .int .i64 x14_4) rfl rfl (by kernel_rfl) (fun w => by kernel_rfl) ?_
              obtain ⟨y45, hy46, H⟩ := lt_some H
              refine ls_val (v := .int .i64 (IntKind.wrap .i64 ((Int.tmod y17 (4065 : Int)) + x14_4))) rfl rfl (by kernel_rfl) (fun w => by kernel_rfl) ?_
              refine ls_ren 87 (v := .int .i64 (IntKind.wrap .i64 ((Int.tmod y17 (4065 : Int)) + x14_4))) (v' := .int .i64 y45) (by kernel_rfl) (by rw [hy46]) ?_
              refine ls_val (v := .int .i64 (Int.tmod y45 (8 : Int))) rfl rfl (by kernel_rfl) (fun w => by kernel_rfl) ?_
              obtain ⟨y47, hy48, H⟩ := lt_some H
              refine ls_val (v := .int .u64 (IntKind.wrap .u64 (Int.tmod y45 (8 : Int)))) rfl rfl (by kernel_rfl) (fun w => by kernel_rfl) ?_
              refine ls_ren 89 (v := .int .u64 (IntKind.wrap .u64 (Int.tmod y45 (8 : Int)))) (v' := .int .u64 y47) (by kernel_rfl) (by rw [hy48]) ?_
              obtain ⟨q49, H⟩ := ite_need H
              refine ls_shiftl (k := .u8) (yk := .u64) (x := (1 : Int)) (y := y47) rfl rfl (by kernel_rfl) (fun w => by kernel_rfl) q49 ?_
              obtain ⟨y50, hy51, H⟩ := lt_some H
              refine ls_val (v := .int .u8 (bits .xor .u8 ((l7_4).getD (y39).toNat (0 : Int)) (shlv .u8 (1 : Int) y47))) rfl rfl (by kernel_rfl) (fun w => by kernel_rfl) ?_
              refine ls_ren 91 (v := .int .u8 (bits .xor .u8 ((l7_4).getD (y39).toNat (0 : Int)) (shlv .u8 (1 : Int) y47))) (v' := .int .u8 y50) (by kernel_rfl) (by rw [hy51]) ?_
              obtain ⟨q52, H⟩ := ite_need H
              obtain ⟨q53, H⟩ := ite_need H
              refine ls_at (T := (Ec.int 5 .u8)) (tk := 1) (i := y35) (by exact rfl) q52 q53 ?_
              intro ad54 hA55
              refine ls_idxv (Ec.int 5 .u8) (A := A7_4) (c := c7_4) (l := l7_4) (k := .i64) (i := y35) (z := 1) (ad := ad54) rfl rfl (by kernel_rfl) hA55 rfl (by kernel_rfl) (by kernel_rfl) (by kernel_rfl) (by kernel_rfl) q52 q53 ?_
              obtain ⟨y56, hy57, H⟩ := lt_some H
              refine ls_storem (Ec.int 5 .u8) (A := A7_4) (c := c7_4) (l := l7_4) (l' := y56) (ad := ad54) (off := ((y35).toNat * 1)) (v := .int .u8 y50) (vs := [Value.int .u8 y50]) 1 rfl rfl rfl hA55 (by kernel_rfl) (by kernel_rfl) (by kernel_rfl) (by exact rfl) (by kernel_rfl) (len1 _) (one_cons rfl one_nil) (hl_of (em_sub (Ec.int 5 .u8) l7_4 (i := (y35).toNat) (by have h0 : (0 : Int) ≤ y35 := q52; have h1 : y35 < (l7_4.length : Int) := q53; omega)) (len_eq (len1 _) (len1 _))) ((splc_em (Ec.int 5 .u8) l7_4 y50 (i := (y35).toNat) (by have h0 : (0 : Int) ≤ y35 := q52; have h1 : y35 < (l7_4.length : Int) := q53; omega)).trans (congrArg (em (Ec.int 5 .u8)) hy57)) (by rw [← hy57, List.length_set]) ?_
              refine ls_ren 7 (v := .slice A7_4 l7_4.length c7_4) (v' := .slice A7_4 y56.length c7_4) (by kernel_rfl) (by rw [← hy57, List.length_set]) ?_
              refine ls_ren 73 (v := .slice A7_4 l7_4.length c7_4) (v' := .slice A7_4 y56.length c7_4) (by kernel_rfl) (by rw [← hy57, List.length_set]) ?_
              refine ls_ren 78 (v := .slice A7_4 l7_4.length c7_4) (v' := .slice A7_4 y56.length c7_4) (by kernel_rfl) (by rw [← hy57, List.length_set]) ?_
              refine ls_end ?_
              refine qn_block ?_
              refine qn_then ?_
              refine cs_region (l := [_, _, _]) ?_
              refine ls_val (v := .int .i64 x14_4) rfl rfl (by kernel_rfl) (fun w => by kernel_rfl) ?_
              refine ls_val (v := .int .i64 (IntKind.wrap .i64 (x14_4 + (1 : Int)))) rfl rfl (by kernel_rfl) (fun w => by kernel_rfl) ?_
              refine ls_val (v := .int .i64 (IntKind.wrap .i64 (x14_4 + (1 : Int)))) rfl rfl (by kernel_rfl) (fun w => by kernel_rfl) ?_
              refine ls_end ?_
              refine qn_again k4 (sput (sput (sput s0 0 (some (Ck.var 42 g1 (([Value.int .i64 a0.1] ++ (([Value.int .i64 a0.2.1.1] ++ ([Value.int .i64 a0.2.1.2.1] ++ ([Value.int .i64 a0.2.1.2.2.1] ++ ([Value.int .u32 a0.2.1.2.2.2.1] ++ en (Value.int .u8) a0.2.1.2.2.2.2.1)))) ++ [Value.int .i64 a0.2.2])))))) 1 (some (Ck.sl (Ec.int 5 .u8) A7_4 c7_4 y56))) 4 (some (Ck.var 42 g16 (([Value.int .i64 t13.1.1] ++ (([Value.int .i64 t13.1.2.1.1] ++ ([Value.int .i64 t13.1.2.1.2.1] ++ ([Value.int .i64 t13.1.2.1.2.2.1] ++ ([Value.int .u32 t13.1.2.1.2.2.2.1] ++ en (Value.int .u8) t13.1.2.1.2.2.2.2.1)))) ++ [Value.int .i64 t13.1.2.2])))))) (Nat.le_refl _) ⟨_, A7_4, c7_4, y56, (IntKind.wrap .i64 (x14_4 + (1 : Int))), fr_next (fr_next (fr_next (fr_next (fr_next (fr_next (fr_next (fr_next (rfl) (by kernel_rfl)) (by kernel_rfl)) (by kernel_rfl)) (by kernel_rfl)) (by kernel_rfl)) (by kernel_rfl)) (by kernel_rfl)) (by kernel_rfl), rfl, H⟩ (sub_put (by exact rfl) (sub_put (by exact rfl) (sub_put (by exact rfl) (sub_nil _))))
            · replace H := ite_f q32 H
              refine cs_know (c := false) (dec_f q32) 72 (by kernel_rfl) ?_
              refine cs_false (by kernel_rfl) ?_
              refine cs_skip' ?_
              refine qn_block ?_
              refine qn_then ?_
              refine cs_region (l := [_, _, _]) ?_
              refine ls_val (v := .int .i64 x14_4) rfl rfl (by kernel_rfl) (fun w => by kernel_rfl) ?_
              refine ls_val (v := .int .i64 (IntKind.wrap .i64 (x14_4 + (1 : Int)))) rfl rfl (by kernel_rfl) (fun w => by kernel_rfl) ?_
              refine ls_val (v := .int .i64 (IntKind.wrap .i64 (x14_4 + (1 : Int)))) rfl rfl (by kernel_rfl) (fun w => by kernel_rfl) ?_
              refine ls_end ?_
              refine qn_again k4 (sput (sput (sput s0 0 (some (Ck.var 42 g1 (([Value.int .i64 a0.1] ++ (([Value.int .i64 a0.2.1.1] ++ ([Value.int .i64 a0.2.1.2.1] ++ ([Value.int .i64 a0.2.1.2.2.1] ++ ([Value.int .u32 a0.2.1.2.2.2.1] ++ en (Value.int .u8) a0.2.1.2.2.2.2.1)))) ++ [Value.int .i64 a0.2.2])))))) 1 (some (Ck.sl (Ec.int 5 .u8) A7_4 c7_4 l7_4))) 4 (some (Ck.var 42 g16 (([Value.int .i64 t13.1.1] ++ (([Value.int .i64 t13.1.2.1.1] ++ ([Value.int .i64 t13.1.2.1.2.1] ++ ([Value.int .i64 t13.1.2.1.2.2.1] ++ ([Value.int .u32 t13.1.2.1.2.2.2.1] ++ en (Value.int .u8) t13.1.2.1.2.2.2.2.1)))) ++ [Value.int .i64 t13.1.2.2])))))) (Nat.le_refl _) ⟨_, A7_4, c7_4, l7_4, (IntKind.wrap .i64 (x14_4 + (1 : Int))), fr_next (fr_next (fr_next (fr_next (fr_next (fr_next (fr_next (fr_next (rfl) (by kernel_rfl)) (by kernel_rfl)) (by kernel_rfl)) (by kernel_rfl)) (by kernel_rfl)) (by kernel_rfl)) (by kernel_rfl)) (by kernel_rfl), rfl, H⟩ (sub_put (by exact rfl) (sub_put (by exact rfl) (sub_put (by exact rfl) (sub_nil _))))
      · rintro f S ⟨fr3, A7_3, c7_3, l7_3, rfl, rfl, H⟩
        replace H : ((label_Open.f k l7_3).bind fun t19 => (if t13.2 = (0 : Int) then (if ((t13.1.1 == a0.1) && (((t13.1.2.1.1 == a0.2.1.1) && ((t13.1.2.1.2.1 == a0.2.1.2.1) && ((t13.1.2.1.2.2.1 == a0.2.1.2.2.1) && ((t13.1.2.1.2.2.2.1 == a0.2.1.2.2.2.1) && (t13.1.2.1.2.2.2.2.1 == a0.2.1.2.2.2.2.1))))) && (t13.1.2.2 == a0.2.2))) = true then (if t2.2.1 = (Int.tmod a0.1 (2 : Int)) then (if (decide (t19.2 = (0 : Int)) == decide (a2 = (0 : Int))) = true then (if a2 = (0 : Int) then some true else (if t19.2 = (12 : Int) then some true else some (decide (t19.2 = (11 : Int))))) else some false) else some false) else some false) else some false)) = some r := H
        refine cs_seq ?_
        refine cs_region (l := [_, _, _, _, _, _, _, _]) ?_
        refine ls_val (v := .slice A7_3 l7_3.length c7_3) rfl rfl (by kernel_rfl) (fun w => by kernel_rfl) ?_
        obtain ⟨t19, hc20, H⟩ := bind_some H
        refine ls_callb (fid := 26) (vals := #[.slice A7_3 l7_3.length c7_3]) (X := Unit) (fun x => .tuple #[.agg ⟨([Value.int .i64 t19.1.1] ++ (([Value.int .i64 t19.1.2.1.1] ++ ([Value.int .i64 t19.1.2.1.2.1] ++ ([Value.int .i64 t19.1.2.1.2.2.1] ++ ([Value.int .u32 t19.1.2.1.2.2.2.1] ++ en (Value.int .u8) t19.1.2.1.2.2.2.2.1)))) ++ [Value.int .i64 t19.1.2.2]))⟩, .int .i64 t19.2]) (fun x => stl []) [] [1] [] [Ck.sl (Ec.int 5 .u8) A7_3 c7_3 l7_3] 5 rfl rfl (by kernel_rfl) (fun w => by kernel_rfl) trivial ⟨by exact rfl, trivial⟩ (by decide) (fun w hs hb => label_Open.calls k A7_3 c7_3 l7_3 t19 (lent b w [] [Ck.sl (Ec.int 5 .u8) A7_3 c7_3 l7_3]) hb (hs.ror (k := 1) (by exact rfl) (.head _)) (hs.cap (k := 1) (by exact rfl)) hc20) ?_
        intro x21
        refine ls_val (v := .tuple #[.agg ⟨([Value.int .i64 t19.1.1] ++ (([Value.int .i64 t19.1.2.1.1] ++ ([Value.int .i64 t19.1.2.1.2.1] ++ ([Value.int .i64 t19.1.2.1.2.2.1] ++ ([Value.int .u32 t19.1.2.1.2.2.2.1] ++ en (Value.int .u8) t19.1.2.1.2.2.2.2.1)))) ++ [Value.int .i64 t19.1.2.2]))⟩, .int .i64 t19.2]) rfl rfl (by kernel_rfl) (fun w => by kernel_rfl) ?_
        refine ls_val (v := .agg ⟨([Value.int .i64 t19.1.1] ++ (([Value.int .i64 t19.1.2.1.1] ++ ([Value.int .i64 t19.1.2.1.2.1] ++ ([Value.int .i64 t19.1.2.1.2.2.1] ++ ([Value.int .u32 t19.1.2.1.2.2.2.1] ++ en (Value.int .u8) t19.1.2.1.2.2.2.2.1)))) ++ [Value.int .i64 t19.1.2.2]))⟩) rfl rfl (by kernel_rfl) (fun w => by kernel_rfl) ?_
        refine ls_val (v := .int .i64 t19.2) rfl rfl (by kernel_rfl) (fun w => by kernel_rfl) ?_
        refine ls_new rfl rfl (by kernel_rfl) 5 (fun g => .pointer (some ⟨g, 0, none⟩)) (.cells ⟨([Value.int .i64 (0 : Int)] ++ (([Value.int .i64 (0 : Int)] ++ ([Value.int .i64 (0 : Int)] ++ ([Value.int .i64 (0 : Int)] ++ ([Value.int .u32 (0 : Int)] ++ en (Value.int .u8) (vrep 32 (0 : Int)).1)))) ++ [Value.int .i64 (0 : Int)]))⟩ 42) (fun w => by kernel_rfl) ?_
        intro g22
        refine ls_storec (g := g22) (off := 0) (v := .agg ⟨([Value.int .i64 t19.1.1] ++ (([Value.int .i64 t19.1.2.1.1] ++ ([Value.int .i64 t19.1.2.1.2.1] ++ ([Value.int .i64 t19.1.2.1.2.2.1] ++ ([Value.int .u32 t19.1.2.1.2.2.2.1] ++ en (Value.int .u8) t19.1.2.1.2.2.2.2.1)))) ++ [Value.int .i64 t19.1.2.2]))⟩) (vs := ([Value.int .i64 t19.1.1] ++ (([Value.int .i64 t19.1.2.1.1] ++ ([Value.int .i64 t19.1.2.1.2.1] ++ ([Value.int .i64 t19.1.2.1.2.2.1] ++ ([Value.int .u32 t19.1.2.1.2.2.2.1] ++ en (Value.int .u8) t19.1.2.1.2.2.2.2.1)))) ++ [Value.int .i64 t19.1.2.2]))) (cs := ([Value.int .i64 (0 : Int)] ++ (([Value.int .i64 (0 : Int)] ++ ([Value.int .i64 (0 : Int)] ++ ([Value.int .i64 (0 : Int)] ++ ([Value.int .u32 (0 : Int)] ++ en (Value.int .u8) (vrep 32 (0 : Int)).1)))) ++ [Value.int .i64 (0 : Int)]))) (ty := 42) 5 rfl rfl rfl (by kernel_rfl) (by kernel_rfl) (by kernel_rfl) (by exact rfl) (by kernel_rfl) (len_app (len1 _) (len_app (len_app (len1 _) (len_app (len1 _) (len_app (len1 _) (len_app (len1 _) (len_en _ t19.1.2.1.2.2.2.2))))) (len1 _))) (one_app (one_cons rfl one_nil) (one_app (one_app (one_cons rfl one_nil) (one_app (one_cons rfl one_nil) (one_app (one_cons rfl one_nil) (one_app (one_cons rfl one_nil) (one_en (fun _ => rfl) _))))) (one_cons rfl one_nil))) (hl_of (Sub4.all _) (len_eq (len_app (len1 _) (len_app (len_app (len1 _) (len_app (len1 _) (len_app (len1 _) (len_app (len1 _) (len_en _ t19.1.2.1.2.2.2.2))))) (len1 _))) (len_app (len1 _) (len_app (len_app (len1 _) (len_app (len1 _) (len_app (len1 _) (len_app (len1 _) (len_en _ (vrep 32 (0 : Int))))))) (len1 _))))) (cs' := ([Value.int .i64 t19.1.1] ++ (([Value.int .i64 t19.1.2.1.1] ++ ([Value.int .i64 t19.1.2.1.2.1] ++ ([Value.int .i64 t19.1.2.1.2.2.1] ++ ([Value.int .u32 t19.1.2.1.2.2.2.1] ++ en (Value.int .u8) t19.1.2.1.2.2.2.2.1)))) ++ [Value.int .i64 t19.1.2.2]))) (splc_all (len_eq (len_app (len1 _) (len_app (len_app (len1 _) (len_app (len1 _) (len_app (len1 _) (len_app (len1 _) (len_en _ t19.1.2.1.2.2.2.2))))) (len1 _))) (len_app (len1 _) (len_app (len_app (len1 _) (len_app (len1 _) (len_app (len1 _) (len_app (len1 _) (len_en _ (vrep 32 (0 : Int))))))) (len1 _))))) ?_
        refine ls_val (v := .int .i64 t19.2) rfl rfl (by kernel_rfl) (fun w => by kernel_rfl) ?_
        refine ls_end ?_
        refine qn_then ?_
        refine cs_seq ?_
        refine cs_region (l := [_, _, _, _, _, _, _, _, _, _, _, _, _, _, _, _, _, _, _, _, _, _, _, _, _, _, _, _, _, _, _, _, _, _]) ?_
        refine ls_val (v := .int .i64 t13.2) rfl rfl (by kernel_rfl) (fun w => by kernel_rfl) ?_
        refine ls_val (v := .bool (decide (t13.2 = (0 : Int)))) rfl rfl (by kernel_rfl) (fun w => by kernel_rfl) ?_
        refine ls_val (v := .bool (decide (t13.2 = (0 : Int)))) rfl rfl (by kernel_rfl) (fun w => by kernel_rfl) ?_
        by_cases q23 : t13.2 = (0 : Int)
        · replace H := ite_t q23 H
          refine ls_know (c := true) (dec_t q23) 100 (by kernel_rfl) ?_
          refine ls_on (j := 2) (t := 100) (b := true) rfl rfl (by kernel_rfl) (by kernel_rfl) ?_
          refine ls_loadagg (a := ⟨g16, 0, none⟩) (sub := ([Value.int .i64 t13.1.1] ++ (([Value.int .i64 t13.1.2.1.1] ++ ([Value.int .i64 t13.1.2.1.2.1] ++ ([Value.int .i64 t13.1.2.1.2.2.1] ++ ([Value.int .u32 t13.1.2.1.2.2.2.1] ++ en (Value.int .u8) t13.1.2.1.2.2.2.2.1)))) ++ [Value.int .i64 t13.1.2.2]))) rfl rfl (by kernel_rfl) rfl (by kernel_rfl) (by kernel_rfl) (by kernel_rfl) (len_app (len1 _) (len_app (len_app (len1 _) (len_app (len1 _) (len_app (len1 _) (len_app (len1 _) (len_en _ t13.1.2.1.2.2.2.2))))) (len1 _))) (fun w hs => (hs.vars (k := 4) (by exact rfl) (Sub4.all _))) ?_
          refine ls_on (j := 2) (t := 100) (b := true) rfl rfl (by kernel_rfl) (by kernel_rfl) ?_
          refine ls_loadagg (a := ⟨g1, 0, none⟩) (sub := ([Value.int .i64 a0.1] ++ (([Value.int .i64 a0.2.1.1] ++ ([Value.int .i64 a0.2.1.2.1] ++ ([Value.int .i64 a0.2.1.2.2.1] ++ ([Value.int .u32 a0.2.1.2.2.2.1] ++ en (Value.int .u8) a0.2.1.2.2.2.2.1)))) ++ [Value.int .i64 a0.2.2]))) rfl rfl (by kernel_rfl) rfl (by kernel_rfl) (by kernel_rfl) (by kernel_rfl) (len_app (len1 _) (len_app (len_app (len1 _) (len_app (len1 _) (len_app (len1 _) (len_app (len1 _) (len_en _ a0.2.1.2.2.2.2))))) (len1 _))) (fun w hs => (hs.vars (k := 0) (by exact rfl) (Sub4.all _))) ?_
          refine ls_on (j := 2) (t := 100) (b := true) rfl rfl (by kernel_rfl) (by kernel_rfl) ?_
          refine ls_eql (xs := ([Value.int .i64 t13.1.1] ++ (([Value.int .i64 t13.1.2.1.1] ++ ([Value.int .i64 t13.1.2.1.2.1] ++ ([Value.int .i64 t13.1.2.1.2.2.1] ++ ([Value.int .u32 t13.1.2.1.2.2.2.1] ++ en (Value.int .u8) t13.1.2.1.2.2.2.2.1)))) ++ [Value.int .i64 t13.1.2.2]))) (ys := ([Value.int .i64 a0.1] ++ (([Value.int .i64 a0.2.1.1] ++ ([Value.int .i64 a0.2.1.2.1] ++ ([Value.int .i64 a0.2.1.2.2.1] ++ ([Value.int .u32 a0.2.1.2.2.2.1] ++ en (Value.int .u8) a0.2.1.2.2.2.2.1)))) ++ [Value.int .i64 a0.2.2]))) (r := ((t13.1.1 == a0.1) && (((t13.1.2.1.1 == a0.2.1.1) && ((t13.1.2.1.2.1 == a0.2.1.2.1) && ((t13.1.2.1.2.2.1 == a0.2.1.2.2.1) && ((t13.1.2.1.2.2.2.1 == a0.2.1.2.2.2.1) && (t13.1.2.1.2.2.2.2.1 == a0.2.1.2.2.2.2.1))))) && (t13.1.2.2 == a0.2.2)))) rfl rfl (by kernel_rfl) rfl (by kernel_rfl) (by kernel_rfl) (by kernel_rfl) (eq_st (by kernel_rfl) (by kernel_rfl) (eqf_cons (ft := 3) (fo := 0) (by kernel_rfl) (part_one (by kernel_rfl) (Sub4.trans (Sub4.all _) (Sub4.head _ _))) (part_one (by kernel_rfl) (Sub4.trans (Sub4.all _) (Sub4.head _ _))) (eq_int (by kernel_rfl) _ _ _) (eqf_cons (ft := 25) (fo := 1) (by kernel_rfl) (part_agg (by kernel_rfl) (by kernel_rfl) (len_app (len1 _) (len_app (len1 _) (len_app (len1 _) (len_app (len1 _) (len_en _ t13.1.2.1.2.2.2.2))))) (Sub4.trans (Sub4.all _) (Sub4.skip (n := 1) (len1 _) (Sub4.head _ _)))) (part_agg (by kernel_rfl) (by kernel_rfl) (len_app (len1 _) (len_app (len1 _) (len_app (len1 _) (len_app (len1 _) (len_en _ a0.2.1.2.2.2.2))))) (Sub4.trans (Sub4.all _) (Sub4.skip (n := 1) (len1 _) (Sub4.head _ _)))) (eq_st (by kernel_rfl) (by kernel_rfl) (eqf_cons (ft := 3) (fo := 0) (by kernel_rfl) (part_one (by kernel_rfl) (Sub4.trans (Sub4.all _) (Sub4.head _ _))) (part_one (by kernel_rfl) (Sub4.trans (Sub4.all _) (Sub4.head _ _))) (eq_int (by kernel_rfl) _ _ _) (eqf_cons (ft := 3) (fo := 1) (by kernel_rfl) (part_one (by kernel_rfl) (Sub4.trans (Sub4.all _) (Sub4.skip (n := 1) (len1 _) (Sub4.head _ _)))) (part_one (by kernel_rfl) (Sub4.trans (Sub4.all _) (Sub4.skip (n := 1) (len1 _) (Sub4.head _ _)))) (eq_int (by kernel_rfl) _ _ _) (eqf_cons (ft := 3) (fo := 2) (by kernel_rfl) (part_one (by kernel_rfl) (Sub4.trans (Sub4.all _) (Sub4.skip (n := 1) (len1 _) (Sub4.skip (n := 1) (len1 _) (Sub4.head _ _))))) (part_one (by kernel_rfl) (Sub4.trans (Sub4.all _) (Sub4.skip (n := 1) (len1 _) (Sub4.skip (n := 1) (len1 _) (Sub4.head _ _))))) (eq_int (by kernel_rfl) _ _ _) (eqf_cons (ft := 22) (fo := 3) (by kernel_rfl) (part_one (by kernel_rfl) (Sub4.trans (Sub4.all _) (Sub4.skip (n := 1) (len1 _) (Sub4.skip (n := 1) (len1 _) (Sub4.skip (n := 1) (len1 _) (Sub4.head _ _)))))) (part_one (by kernel_rfl) (Sub4.trans (Sub4.all _) (Sub4.skip (n := 1) (len1 _) (Sub4.skip (n := 1) (len1 _) (Sub4.skip (n := 1) (len1 _) (Sub4.head _ _)))))) (eq_int (by kernel_rfl) _ _ _) (eqf_last (ft := 23) (fo := 4) (by kernel_rfl) (part_agg (by kernel_rfl) (by kernel_rfl) (len_en _ t13.1.2.1.2.2.2.2) (Sub4.trans (Sub4.all _) (Sub4.skip (n := 1) (len1 _) (Sub4.skip (n := 1) (len1 _) (Sub4.skip (n := 1) (len1 _) (Sub4.skip (n := 1) (len1 _) (Sub4.all _))))))) (part_agg (by kernel_rfl) (by kernel_rfl) (len_en _ a0.2.1.2.2.2.2) (Sub4.trans (Sub4.all _) (Sub4.skip (n := 1) (len1 _) (Sub4.skip (n := 1) (len1 _) (Sub4.skip (n := 1) (len1 _) (Sub4.skip (n := 1) (len1 _) (Sub4.all _))))))) (eq_ints (e := 5) (ln := 32) (by kernel_rfl) (by kernel_rfl) (by kernel_rfl) t13.1.2.1.2.2.2.2.2 a0.2.1.2.2.2.2.2 _) (by kernel_rfl))))))) (eqf_last (ft := 3) (fo := 37) (by kernel_rfl) (part_one (by kernel_rfl) (Sub4.trans (Sub4.all _) (Sub4.skip (n := 1) (len1 _) (Sub4.skip (n := 36) (len_app (len1 _) (len_app (len1 _) (len_app (len1 _) (len_app (len1 _) (len_en _ t13.1.2.1.2.2.2.2))))) (Sub4.all _))))) (part_one (by kernel_rfl) (Sub4.trans (Sub4.all _) (Sub4.skip (n := 1) (len1 _) (Sub4.skip (n := 36) (len_app (len1 _) (len_app (len1 _) (len_app (len1 _) (len_app (len1 _) (len_en _ a0.2.1.2.2.2.2))))) (Sub4.all _))))) (eq_int (by kernel_rfl) _ _ _) (by kernel_rfl))))) ?_
          refine ls_val (v := .bool ((t13.1.1 == a0.1) && (((t13.1.2.1.1 == a0.2.1.1) && ((t13.1.2.1.2.1 == a0.2.1.2.1) && ((t13.1.2.1.2.2.1 == a0.2.1.2.2.1) && ((t13.1.2.1.2.2.2.1 == a0.2.1.2.2.2.1) && (t13.1.2.1.2.2.2.2.1 == a0.2.1.2.2.2.2.1))))) && (t13.1.2.2 == a0.2.2)))) rfl rfl (by kernel_rfl) (fun w => by kernel_rfl) ?_
          refine ls_val (v := .bool ((t13.1.1 == a0.1) && (((t13.1.2.1.1 == a0.2.1.1) && ((t13.1.2.1.2.1 == a0.2.1.2.1) && ((t13.1.2.1.2.2.1 == a0.2.1.2.2.1) && ((t13.1.2.1.2.2.2.1 == a0.2.1.2.2.2.1) && (t13.1.2.1.2.2.2.2.1 == a0.2.1.2.2.2.2.1))))) && (t13.1.2.2 == a0.2.2)))) rfl rfl (by kernel_rfl) (fun w => by kernel_rfl) ?_
          by_cases q24 : ((t13.1.1 == a0.1) && (((t13.1.2.1.1 == a0.2.1.1) && ((t13.1.2.1.2.1 == a0.2.1.2.1) && ((t13.1.2.1.2.2.1 == a0.2.1.2.2.1) && ((t13.1.2.1.2.2.2.1 == a0.2.1.2.2.2.1) && (t13.1.2.1.2.2.2.2.1 == a0.2.1.2.2.2.2.1))))) && (t13.1.2.2 == a0.2.2))) = true
          · replace H := ite_t q24 H
            refine ls_know (c := true) (q24) 105 (by kernel_rfl) ?_
            refine ls_on (j := 7) (t := 105) (b := true) rfl rfl (by kernel_rfl) (by kernel_rfl) ?_
            refine ls_val (v := .int .i64 t2.2.1) rfl rfl (by kernel_rfl) (fun w => by kernel_rfl) ?_
            refine ls_on (j := 7) (t := 105) (b := true) rfl rfl (by kernel_rfl) (by kernel_rfl) ?_
            refine ls_val (v := .pointer (some ⟨g1, (0 + 0), none⟩)) rfl rfl (by kernel_rfl) (fun w => by kernel_rfl) ?_
            refine ls_on (j := 7) (t := 105) (b := true) rfl rfl (by kernel_rfl) (by kernel_rfl) ?_
            refine ls_load (a0 := ⟨g1, (0 + 0), none⟩) (v := .int .i64 a0.1) (de := (TypeDesc.int .i64)) rfl rfl (by kernel_rfl) rfl (by kernel_rfl) (by kernel_rfl) (by kernel_rfl) (fun w hs => (hs.var (k := 0) (by exact rfl) (Sub4.trans (Sub4.all _) (Sub4.head _ _)))) ?_
            refine ls_on (j := 7) (t := 105) (b := true) rfl rfl (by kernel_rfl) (by kernel_rfl) ?_
            refine ls_val (v := .int .i64 (Int.tmod a0.1 (2 : Int))) rfl rfl (by kernel_rfl) (fun w => by kernel_rfl) ?_
            refine ls_on (j := 7) (t := 105) (b := true) rfl rfl (by kernel_rfl) (by kernel_rfl) ?_
            refine ls_val (v := .bool (decide (t2.2.1 = (Int.tmod a0.1 (2 : Int))))) rfl rfl (by kernel_rfl) (fun w => by kernel_rfl) ?_
            refine ls_val (v := .bool (decide (t2.2.1 = (Int.tmod a0.1 (2 : Int))))) rfl rfl (by kernel_rfl) (fun w => by kernel_rfl) ?_
            refine ls_val (v := .bool (decide (t2.2.1 = (Int.tmod a0.1 (2 : Int))))) rfl rfl (by kernel_rfl) (fun w => by kernel_rfl) ?_
            by_cases q25 : t2.2.1 = (Int.tmod a0.1 (2 : Int))
            · replace H := ite_t q25 H
              refine ls_know (c := true) (dec_t q25) 112 (by kernel_rfl) ?_
              refine ls_on (j := 14) (t := 112) (b := true) rfl rfl (by kernel_rfl) (by kernel_rfl) ?_
              refine ls_val (v := .int .i64 t19.2) rfl rfl (by kernel_rfl) (fun w => by kernel_rfl) ?_
              refine ls_on (j := 14) (t := 112) (b := true) rfl rfl (by kernel_rfl) (by kernel_rfl) ?_
              refine ls_val (v := .bool (decide (t19.2 = (0 : Int)))) rfl rfl (by kernel_rfl) (fun w => by kernel_rfl) ?_
              refine ls_on (j := 14) (t := 112) (b := true) rfl rfl (by kernel_rfl) (by kernel_rfl) ?_
              refine ls_val (v := .int .u32 a2) rfl rfl (by kernel_rfl) (fun w => by kernel_rfl) ?_
              refine ls_on (j := 14) (t := 112) (b := true) rfl rfl (by kernel_rfl) (by kernel_rfl) ?_
              refine ls_val (v := .bool (decide (a2 = (0 : Int)))) rfl rfl (by kernel_rfl) (fun w => by kernel_rfl) ?_
              refine ls_on (j := 14) (t := 112) (b := true) rfl rfl (by kernel_rfl) (by kernel_rfl) ?_
              refine ls_val (v := .bool (decide (t19.2 = (0 : Int)) == decide (a2 = (0 : Int)))) rfl rfl (by kernel_rfl) (fun w => by kernel_rfl) ?_
              refine ls_val (v := .bool (decide (t19.2 = (0 : Int)) == decide (a2 = (0 : Int)))) rfl rfl (by kernel_rfl) (fun w => by kernel_rfl) ?_
              refine ls_val (v := .bool (decide (t19.2 = (0 : Int)) == decide (a2 = (0 : Int)))) rfl rfl (by kernel_rfl) (fun w => by kernel_rfl) ?_
              by_cases q26 : (decide (t19.2 = (0 : Int)) == decide (a2 = (0 : Int))) = true
              · replace H := ite_t q26 H
                refine ls_know (c := true) (q26) 119 (by kernel_rfl) ?_
                refine ls_on (j := 21) (t := 119) (b := true) rfl rfl (by kernel_rfl) (by kernel_rfl) ?_
                refine ls_val (v := .int .u32 a2) rfl rfl (by kernel_rfl) (fun w => by kernel_rfl) ?_
                refine ls_on (j := 21) (t := 119) (b := true) rfl rfl (by kernel_rfl) (by kernel_rfl) ?_
                refine ls_val (v := .bool (decide (a2 = (0 : Int)))) rfl rfl (by kernel_rfl) (fun w => by kernel_rfl) ?_
                refine ls_on (j := 21) (t := 119) (b := true) rfl rfl (by kernel_rfl) (by kernel_rfl) ?_
                refine ls_val (v := .bool (decide (a2 = (0 : Int)))) rfl rfl (by kernel_rfl) (fun w => by kernel_rfl) ?_
                by_cases q27 : a2 = (0 : Int)
                · replace H := ite_t q27 H
                  refine ls_know (c := true) (dec_t q27) 122 (by kernel_rfl) ?_
                  refine ls_off (j := 24) (t := 122) (b := false) (c := true) rfl rfl (by kernel_rfl) (by kernel_rfl) rfl rfl (by kernel_rfl) ?_
                  refine ls_off (j := 24) (t := 122) (b := false) (c := true) rfl rfl (by kernel_rfl) (by kernel_rfl) rfl rfl (by kernel_rfl) ?_
                  refine ls_on (j := 21) (t := 119) (b := true) rfl rfl (by kernel_rfl) (by kernel_rfl) ?_
                  refine ls_val (v := .bool true) rfl rfl (by kernel_rfl) (fun w => by kernel_rfl) ?_
                  refine ls_on (j := 21) (t := 119) (b := true) rfl rfl (by kernel_rfl) (by kernel_rfl) ?_
                  refine ls_val (v := .bool true) rfl rfl (by kernel_rfl) (fun w => by kernel_rfl) ?_
                  refine ls_off (j := 28) (t := 126) (b := false) (c := true) rfl rfl (by kernel_rfl) (by kernel_rfl) rfl rfl (by kernel_rfl) ?_
                  refine ls_off (j := 28) (t := 126) (b := false) (c := true) rfl rfl (by kernel_rfl) (by kernel_rfl) rfl rfl (by kernel_rfl) ?_
                  refine ls_on (j := 21) (t := 119) (b := true) rfl rfl (by kernel_rfl) (by kernel_rfl) ?_
                  refine ls_val (v := .bool true) rfl rfl (by kernel_rfl) (fun w => by kernel_rfl) ?_
                  refine ls_val (v := .bool true) rfl rfl (by kernel_rfl) (fun w => by kernel_rfl) ?_
                  refine ls_val (v := .bool true) rfl rfl (by kernel_rfl) (fun w => by kernel_rfl) ?_
                  refine ls_end ?_
                  refine qn_then ?_
                  refine cs_ret' ?_
                  obtain rfl := Option.some.inj H
                  refine qr_res (rs := [_]) rfl (fun w' hs => ⟨[.bool true], (res_tmp (by kernel_rfl) (.nil)), (), rfl, hs.pick (ts := []) (cs := []) trivial (by decide)⟩)
                · replace H := ite_f q27 H
                  refine ls_know (c := false) (dec_f q27) 122 (by kernel_rfl) ?_
                  refine ls_on (j := 24) (t := 122) (b := false) rfl rfl (by kernel_rfl) (by kernel_rfl) ?_
                  refine ls_val (v := .int .i64 t19.2) rfl rfl (by kernel_rfl) (fun w => by kernel_rfl) ?_
                  refine ls_on (j := 24) (t := 122) (b := false) rfl rfl (by kernel_rfl) (by kernel_rfl) ?_
                  refine ls_val (v := .bool (decide (t19.2 = (12 : Int)))) rfl rfl (by kernel_rfl) (fun w => by kernel_rfl) ?_
                  refine ls_on (j := 21) (t := 119) (b := true) rfl rfl (by kernel_rfl) (by kernel_rfl) ?_
                  refine ls_val (v := .bool (decide (t19.2 = (12 : Int)))) rfl rfl (by kernel_rfl) (fun w => by kernel_rfl) ?_
                  refine ls_on (j := 21) (t := 119) (b := true) rfl rfl (by kernel_rfl) (by kernel_rfl) ?_
                  refine ls_val (v := .bool (decide (t19.2 = (12 : Int)))) rfl rfl (by kernel_rfl) (fun w => by kernel_rfl) ?_
                  by_cases q28 : t19.2 = (12 : Int)
                  · replace H := ite_t q28 H
                    refine ls_know (c := true) (dec_t q28) 126 (by kernel_rfl) ?_
                    refine ls_off (j := 28) (t := 126) (b := false) (c := true) rfl rfl (by kernel_rfl) (by kernel_rfl) rfl rfl (by kernel_rfl) ?_
                    refine ls_off (j := 28) (t := 126) (b := false) (c := true) rfl rfl (by kernel_rfl) (by kernel_rfl) rfl rfl (by kernel_rfl) ?_
                    refine ls_on (j := 21) (t := 119) (b := true) rfl rfl (by kernel_rfl) (by kernel_rfl) ?_
                    refine ls_val (v := .bool true) rfl rfl (by kernel_rfl) (fun w => by kernel_rfl) ?_
                    refine ls_val (v := .bool true) rfl rfl (by kernel_rfl) (fun w => by kernel_rfl) ?_
                    refine ls_val (v := .bool true) rfl rfl (by kernel_rfl) (fun w => by kernel_rfl) ?_
                    refine ls_end ?_
                    refine qn_then ?_
                    refine cs_ret' ?_
                    obtain rfl := Option.some.inj H
                    refine qr_res (rs := [_]) rfl (fun w' hs => ⟨[.bool true], (res_tmp (by kernel_rfl) (.nil)), (), rfl, hs.pick (ts := []) (cs := []) trivial (by decide)⟩)
                  · replace H := ite_f q28 H
                    refine ls_know (c := false) (dec_f q28) 126 (by kernel_rfl) ?_
                    refine ls_on (j := 28) (t := 126) (b := false) rfl rfl (by kernel_rfl) (by kernel_rfl) ?_
                    refine ls_val (v := .int .i64 t19.2) rfl rfl (by kernel_rfl) (fun w => by kernel_rfl) ?_
                    refine ls_on (j := 28) (t := 126) (b := false) rfl rfl (by kernel_rfl) (by kernel_rfl) ?_
                    refine ls_val (v := .bool (decide (t19.2 = (11 : Int)))) rfl rfl (by kernel_rfl) (fun w => by kernel_rfl) ?_
                    refine ls_on (j := 21) (t := 119) (b := true) rfl rfl (by kernel_rfl) (by kernel_rfl) ?_
                    refine ls_val (v := .bool (decide (t19.2 = (11 : Int)))) rfl rfl (by kernel_rfl) (fun w => by kernel_rfl) ?_
                    refine ls_val (v := .bool (decide (t19.2 = (11 : Int)))) rfl rfl (by kernel_rfl) (fun w => by kernel_rfl) ?_
                    refine ls_val (v := .bool (decide (t19.2 = (11 : Int)))) rfl rfl (by kernel_rfl) (fun w => by kernel_rfl) ?_
                    refine ls_end ?_
                    refine qn_then ?_
                    refine cs_ret' ?_
                    obtain rfl := Option.some.inj H
                    refine qr_res (rs := [_]) rfl (fun w' hs => ⟨[.bool (decide (t19.2 = (11 : Int)))], (res_tmp (by kernel_rfl) (.nil)), (), rfl, hs.pick (ts := []) (cs := []) trivial (by decide)⟩)
              · replace H := ite_f q26 H
                refine ls_know (c := false) (Bool.eq_false_iff.mpr q26) 119 (by kernel_rfl) ?_
                refine ls_off (j := 21) (t := 119) (b := true) (c := false) rfl rfl (by kernel_rfl) (by kernel_rfl) rfl rfl (by kernel_rfl) ?_
                refine ls_off (j := 21) (t := 119) (b := true) (c := false) rfl rfl (by kernel_rfl) (by kernel_rfl) rfl rfl (by kernel_rfl) ?_
                refine ls_off (j := 21) (t := 119) (b := true) (c := false) rfl rfl (by kernel_rfl) (by kernel_rfl) rfl rfl (by kernel_rfl) ?_
                refine ls_offu (j := 24) (t := 122) (b := false) rfl rfl (by kernel_rfl) (by kernel_rfl) rfl (by kernel_rfl) ?_
                refine ls_offu (j := 24) (t := 122) (b := false) rfl rfl (by kernel_rfl) (by kernel_rfl) rfl (by kernel_rfl) ?_
                refine ls_off (j := 21) (t := 119) (b := true) (c := false) rfl rfl (by kernel_rfl) (by kernel_rfl) rfl rfl (by kernel_rfl) ?_
                refine ls_off (j := 21) (t := 119) (b := true) (c := false) rfl rfl (by kernel_rfl) (by kernel_rfl) rfl rfl (by kernel_rfl) ?_
                refine ls_offu (j := 28) (t := 126) (b := false) rfl rfl (by kernel_rfl) (by kernel_rfl) rfl (by kernel_rfl) ?_
                refine ls_offu (j := 28) (t := 126) (b := false) rfl rfl (by kernel_rfl) (by kernel_rfl) rfl (by kernel_rfl) ?_
                refine ls_off (j := 21) (t := 119) (b := true) (c := false) rfl rfl (by kernel_rfl) (by kernel_rfl) rfl rfl (by kernel_rfl) ?_
                refine ls_val (v := .bool false) rfl rfl (by kernel_rfl) (fun w => by kernel_rfl) ?_
                refine ls_val (v := .bool false) rfl rfl (by kernel_rfl) (fun w => by kernel_rfl) ?_
                refine ls_end ?_
                refine qn_then ?_
                refine cs_ret' ?_
                obtain rfl := Option.some.inj H
                refine qr_res (rs := [_]) rfl (fun w' hs => ⟨[.bool false], (res_tmp (by kernel_rfl) (.nil)), (), rfl, hs.pick (ts := []) (cs := []) trivial (by decide)⟩)
            · replace H := ite_f q25 H
              refine ls_know (c := false) (dec_f q25) 112 (by kernel_rfl) ?_
              refine ls_off (j := 14) (t := 112) (b := true) (c := false) rfl rfl (by kernel_rfl) (by kernel_rfl) rfl rfl (by kernel_rfl) ?_
              refine ls_off (j := 14) (t := 112) (b := true) (c := false) rfl rfl (by kernel_rfl) (by kernel_rfl) rfl rfl (by kernel_rfl) ?_
              refine ls_off (j := 14) (t := 112) (b := true) (c := false) rfl rfl (by kernel_rfl) (by kernel_rfl) rfl rfl (by kernel_rfl) ?_
              refine ls_off (j := 14) (t := 112) (b := true) (c := false) rfl rfl (by kernel_rfl) (by kernel_rfl) rfl rfl (by kernel_rfl) ?_
              refine ls_off (j := 14) (t := 112) (b := true) (c := false) rfl rfl (by kernel_rfl) (by kernel_rfl) rfl rfl (by kernel_rfl) ?_
              refine ls_val (v := .bool false) rfl rfl (by kernel_rfl) (fun w => by kernel_rfl) ?_
              refine ls_val (v := .bool false) rfl rfl (by kernel_rfl) (fun w => by kernel_rfl) ?_
              refine ls_off (j := 21) (t := 119) (b := true) (c := false) rfl rfl (by kernel_rfl) (by kernel_rfl) rfl rfl (by kernel_rfl) ?_
              refine ls_off (j := 21) (t := 119) (b := true) (c := false) rfl rfl (by kernel_rfl) (by kernel_rfl) rfl rfl (by kernel_rfl) ?_
              refine ls_off (j := 21) (t := 119) (b := true) (c := false) rfl rfl (by kernel_rfl) (by kernel_rfl) rfl rfl (by kernel_rfl) ?_
              refine ls_offu (j := 24) (t := 122) (b := false) rfl rfl (by kernel_rfl) (by kernel_rfl) rfl (by kernel_rfl) ?_
              refine ls_offu (j := 24) (t := 122) (b := false) rfl rfl (by kernel_rfl) (by kernel_rfl) rfl (by kernel_rfl) ?_
              refine ls_off (j := 21) (t := 119) (b := true) (c := false) rfl rfl (by kernel_rfl) (by kernel_rfl) rfl rfl (by kernel_rfl) ?_
              refine ls_off (j := 21) (t := 119) (b := true) (c := false) rfl rfl (by kernel_rfl) (by kernel_rfl) rfl rfl (by kernel_rfl) ?_
              refine ls_offu (j := 28) (t := 126) (b := false) rfl rfl (by kernel_rfl) (by kernel_rfl) rfl (by kernel_rfl) ?_
              refine ls_offu (j := 28) (t := 126) (b := false) rfl rfl (by kernel_rfl) (by kernel_rfl) rfl (by kernel_rfl) ?_
              refine ls_off (j := 21) (t := 119) (b := true) (c := false) rfl rfl (by kernel_rfl) (by kernel_rfl) rfl rfl (by kernel_rfl) ?_
              refine ls_val (v := .bool false) rfl rfl (by kernel_rfl) (fun w => by kernel_rfl) ?_
              refine ls_val (v := .bool false) rfl rfl (by kernel_rfl) (fun w => by kernel_rfl) ?_
              refine ls_end ?_
              refine qn_then ?_
              refine cs_ret' ?_
              obtain rfl := Option.some.inj H
              refine qr_res (rs := [_]) rfl (fun w' hs => ⟨[.bool false], (res_tmp (by kernel_rfl) (.nil)), (), rfl, hs.pick (ts := []) (cs := []) trivial (by decide)⟩)
          · replace H := ite_f q24 H
            refine ls_know (c := false) (Bool.eq_false_iff.mpr q24) 105 (by kernel_rfl) ?_
            refine ls_off (j := 7) (t := 105) (b := true) (c := false) rfl rfl (by kernel_rfl) (by kernel_rfl) rfl rfl (by kernel_rfl) ?_
            refine ls_off (j := 7) (t := 105) (b := true) (c := false) rfl rfl (by kernel_rfl) (by kernel_rfl) rfl rfl (by kernel_rfl) ?_
            refine ls_off (j := 7) (t := 105) (b := true) (c := false) rfl rfl (by kernel_rfl) (by kernel_rfl) rfl rfl (by kernel_rfl) ?_
            refine ls_off (j := 7) (t := 105) (b := true) (c := false) rfl rfl (by kernel_rfl) (by kernel_rfl) rfl rfl (by kernel_rfl) ?_
            refine ls_off (j := 7) (t := 105) (b := true) (c := false) rfl rfl (by kernel_rfl) (by kernel_rfl) rfl rfl (by kernel_rfl) ?_
            refine ls_val (v := .bool false) rfl rfl (by kernel_rfl) (fun w => by kernel_rfl) ?_
            refine ls_val (v := .bool false) rfl rfl (by kernel_rfl) (fun w => by kernel_rfl) ?_
            refine ls_off (j := 14) (t := 112) (b := true) (c := false) rfl rfl (by kernel_rfl) (by kernel_rfl) rfl rfl (by kernel_rfl) ?_
            refine ls_off (j := 14) (t := 112) (b := true) (c := false) rfl rfl (by kernel_rfl) (by kernel_rfl) rfl rfl (by kernel_rfl) ?_
            refine ls_off (j := 14) (t := 112) (b := true) (c := false) rfl rfl (by kernel_rfl) (by kernel_rfl) rfl rfl (by kernel_rfl) ?_
            refine ls_off (j := 14) (t := 112) (b := true) (c := false) rfl rfl (by kernel_rfl) (by kernel_rfl) rfl rfl (by kernel_rfl) ?_
            refine ls_off (j := 14) (t := 112) (b := true) (c := false) rfl rfl (by kernel_rfl) (by kernel_rfl) rfl rfl (by kernel_rfl) ?_
            refine ls_val (v := .bool false) rfl rfl (by kernel_rfl) (fun w => by kernel_rfl) ?_
            refine ls_val (v := .bool false) rfl rfl (by kernel_rfl) (fun w => by kernel_rfl) ?_
            refine ls_off (j := 21) (t := 119) (b := true) (c := false) rfl rfl (by kernel_rfl) (by kernel_rfl) rfl rfl (by kernel_rfl) ?_
            refine ls_off (j := 21) (t := 119) (b := true) (c := false) rfl rfl (by kernel_rfl) (by kernel_rfl) rfl rfl (by kernel_rfl) ?_
            refine ls_off (j := 21) (t := 119) (b := true) (c := false) rfl rfl (by kernel_rfl) (by kernel_rfl) rfl rfl (by kernel_rfl) ?_
            refine ls_offu (j := 24) (t := 122) (b := false) rfl rfl (by kernel_rfl) (by kernel_rfl) rfl (by kernel_rfl) ?_
            refine ls_offu (j := 24) (t := 122) (b := false) rfl rfl (by kernel_rfl) (by kernel_rfl) rfl (by kernel_rfl) ?_
            refine ls_off (j := 21) (t := 119) (b := true) (c := false) rfl rfl (by kernel_rfl) (by kernel_rfl) rfl rfl (by kernel_rfl) ?_
            refine ls_off (j := 21) (t := 119) (b := true) (c := false) rfl rfl (by kernel_rfl) (by kernel_rfl) rfl rfl (by kernel_rfl) ?_
            refine ls_offu (j := 28) (t := 126) (b := false) rfl rfl (by kernel_rfl) (by kernel_rfl) rfl (by kernel_rfl) ?_
            refine ls_offu (j := 28) (t := 126) (b := false) rfl rfl (by kernel_rfl) (by kernel_rfl) rfl (by kernel_rfl) ?_
            refine ls_off (j := 21) (t := 119) (b := true) (c := false) rfl rfl (by kernel_rfl) (by kernel_rfl) rfl rfl (by kernel_rfl) ?_
            refine ls_val (v := .bool false) rfl rfl (by kernel_rfl) (fun w => by kernel_rfl) ?_
            refine ls_val (v := .bool false) rfl rfl (by kernel_rfl) (fun w => by kernel_rfl) ?_
            refine ls_end ?_
            refine qn_then ?_
            refine cs_ret' ?_
            obtain rfl := Option.some.inj H
            refine qr_res (rs := [_]) rfl (fun w' hs => ⟨[.bool false], (res_tmp (by kernel_rfl) (.nil)), (), rfl, hs.pick (ts := []) (cs := []) trivial (by decide)⟩)
        · replace H := ite_f q23 H
          refine ls_know (c := false) (dec_f q23) 100 (by kernel_rfl) ?_
          refine ls_off (j := 2) (t := 100) (b := true) (c := false) rfl rfl (by kernel_rfl) (by kernel_rfl) rfl rfl (by kernel_rfl) ?_
          refine ls_off (j := 2) (t := 100) (b := true) (c := false) rfl rfl (by kernel_rfl) (by kernel_rfl) rfl rfl (by kernel_rfl) ?_
          refine ls_off (j := 2) (t := 100) (b := true) (c := false) rfl rfl (by kernel_rfl) (by kernel_rfl) rfl rfl (by kernel_rfl) ?_
          refine ls_val (v := .bool false) rfl rfl (by kernel_rfl) (fun w => by kernel_rfl) ?_
          refine ls_val (v := .bool false) rfl rfl (by kernel_rfl) (fun w => by kernel_rfl) ?_
          refine ls_off (j := 7) (t := 105) (b := true) (c := false) rfl rfl (by kernel_rfl) (by kernel_rfl) rfl rfl (by kernel_rfl) ?_
          refine ls_off (j := 7) (t := 105) (b := true) (c := false) rfl rfl (by kernel_rfl) (by kernel_rfl) rfl rfl (by kernel_rfl) ?_
          refine ls_off (j := 7) (t := 105) (b := true) (c := false) rfl rfl (by kernel_rfl) (by kernel_rfl) rfl rfl (by kernel_rfl) ?_
          refine ls_off (j := 7) (t := 105) (b := true) (c := false) rfl rfl (by kernel_rfl) (by kernel_rfl) rfl rfl (by kernel_rfl) ?_
          refine ls_off (j := 7) (t := 105) (b := true) (c := false) rfl rfl (by kernel_rfl) (by kernel_rfl) rfl rfl (by kernel_rfl) ?_
          refine ls_val (v := .bool false) rfl rfl (by kernel_rfl) (fun w => by kernel_rfl) ?_
          refine ls_val (v := .bool false) rfl rfl (by kernel_rfl) (fun w => by kernel_rfl) ?_
          refine ls_off (j := 14) (t := 112) (b := true) (c := false) rfl rfl (by kernel_rfl) (by kernel_rfl) rfl rfl (by kernel_rfl) ?_
          refine ls_off (j := 14) (t := 112) (b := true) (c := false) rfl rfl (by kernel_rfl) (by kernel_rfl) rfl rfl (by kernel_rfl) ?_
          refine ls_off (j := 14) (t := 112) (b := true) (c := false) rfl rfl (by kernel_rfl) (by kernel_rfl) rfl rfl (by kernel_rfl) ?_
          refine ls_off (j := 14) (t := 112) (b := true) (c := false) rfl rfl (by kernel_rfl) (by kernel_rfl) rfl rfl (by kernel_rfl) ?_
          refine ls_off (j := 14) (t := 112) (b := true) (c := false) rfl rfl (by kernel_rfl) (by kernel_rfl) rfl rfl (by kernel_rfl) ?_
          refine ls_val (v := .bool false) rfl rfl (by kernel_rfl) (fun w => by kernel_rfl) ?_
          refine ls_val (v := .bool false) rfl rfl (by kernel_rfl) (fun w => by kernel_rfl) ?_
          refine ls_off (j := 21) (t := 119) (b := true) (c := false) rfl rfl (by kernel_rfl) (by kernel_rfl) rfl rfl (by kernel_rfl) ?_
          refine ls_off (j := 21) (t := 119) (b := true) (c := false) rfl rfl (by kernel_rfl) (by kernel_rfl) rfl rfl (by kernel_rfl) ?_
          refine ls_off (j := 21) (t := 119) (b := true) (c := false) rfl rfl (by kernel_rfl) (by kernel_rfl) rfl rfl (by kernel_rfl) ?_
          refine ls_offu (j := 24) (t := 122) (b := false) rfl rfl (by kernel_rfl) (by kernel_rfl) rfl (by kernel_rfl) ?_
          refine ls_offu (j := 24) (t := 122) (b := false) rfl rfl (by kernel_rfl) (by kernel_rfl) rfl (by kernel_rfl) ?_
          refine ls_off (j := 21) (t := 119) (b := true) (c := false) rfl rfl (by kernel_rfl) (by kernel_rfl) rfl rfl (by kernel_rfl) ?_
          refine ls_off (j := 21) (t := 119) (b := true) (c := false) rfl rfl (by kernel_rfl) (by kernel_rfl) rfl rfl (by kernel_rfl) ?_
          refine ls_offu (j := 28) (t := 126) (b := false) rfl rfl (by kernel_rfl) (by kernel_rfl) rfl (by kernel_rfl) ?_
          refine ls_offu (j := 28) (t := 126) (b := false) rfl rfl (by kernel_rfl) (by kernel_rfl) rfl (by kernel_rfl) ?_
          refine ls_off (j := 21) (t := 119) (b := true) (c := false) rfl rfl (by kernel_rfl) (by kernel_rfl) rfl rfl (by kernel_rfl) ?_
          refine ls_val (v := .bool false) rfl rfl (by kernel_rfl) (fun w => by kernel_rfl) ?_
          refine ls_val (v := .bool false) rfl rfl (by kernel_rfl) (fun w => by kernel_rfl) ?_
          refine ls_end ?_
          refine qn_then ?_
          refine cs_ret' ?_
          obtain rfl := Option.some.inj H
          refine qr_res (rs := [_]) rfl (fun w' hs => ⟨[.bool false], (res_tmp (by kernel_rfl) (.nil)), (), rfl, hs.pick (ts := []) (cs := []) trivial (by decide)⟩)

end Go.Proofs.Ytnjijflgafghmaa.G
