/- Printed by a program of this session (sz.py): plain functions, and walks that show that the code comes to them; no condition. -/
import Derived.Test.YtbidihabicgedaaProg
import Derived.Test.YtbidihabicgedaaTy
import Derived.Test.YtbidihabicgedaaG0
import Derived.Test.YtbidihabicgedaaG1
import Derived.Test.YtbidihabicgedaaG2
set_option linter.unusedVariables false
set_option linter.unusedSimpArgs false
namespace Go.Proofs.Ytbidihabicgedaa.G
open Go Go.RowKit Go.Proofs.Ytbidihabicgedaa.Sx

/-! ### shadowbox/shadowboxlaw07.BlockTurns: function 3 -/
def shadowboxlaw07_BlockTurns.jo6 (l0 : List Int) (a2 : Int) (t21 : (List Int) × Int) : Option (Bool) := (if a2 = (0 : Int) then (if t21.2 = (0 : Int) then (if ((strOfNums t21.1).toList == (strOfNums l0).toList) = true then some true else some false) else some false) else (if t21.2 = (12 : Int) then some (decide ((t21.1.length : Int) = (0 : Int))) else some false))
def shadowboxlaw07_BlockTurns.jo5 (k : Nat) (l0 : List Int) (a2 : Int) (t8 : (Int × Int × Int × Int × (Vc Int 32)) × Int × (Unit × Unit × Bool × Int × Bool) × (List (Int × (Vc Int 512)) × List (Vc Int 512))) (m0_5 : (Unit × Unit × Bool × Int × Bool)) (m1_5 : (List (Int × (Vc Int 512)) × List (Vc Int 512))) : Option (Bool) := (block_Read.f k ((), (), m0_5.2.2.1, m0_5.2.2.2.1, m0_5.2.2.2.2) m1_5 t8.1).bind fun t21 => (disk_Disk_Crash.f k ((), (), m0_5.2.2.1, m0_5.2.2.2.1, m0_5.2.2.2.2) m1_5 ([] : List Int)).bind fun t24 => (block_Read.f k ((), (), t24.1.1.2.2.1, t24.1.1.2.2.2.1, t24.1.1.2.2.2.2) t24.1.2 t8.1).bind fun t27 => (if t24.2 = (0 : Int) then (if t27.2 = (0 : Int) then (if ((strOfNums t27.1).toList == (strOfNums l0).toList) = true then (shadowboxlaw07_BlockTurns.jo6 l0 a2 t21) else some false) else some false) else some false)
def shadowboxlaw07_BlockTurns.jo4 (k : Nat) (l0 : List Int) (a2 : Int) (t8 : (Int × Int × Int × Int × (Vc Int 32)) × Int × (Unit × Unit × Bool × Int × Bool) × (List (Int × (Vc Int 512)) × List (Vc Int 512))) (m0_3 : (Unit × Unit × Bool × Int × Bool)) (m1_3 : (List (Int × (Vc Int 512)) × List (Vc Int 512))) (l13_4 : List Int) : Option (Bool) := (block_Write.f k ((), (), m0_3.2.2.1, m0_3.2.2.2.1, m0_3.2.2.2.2) m1_3 (5 : Int) (9 : Int) l13_4).bind fun t37 => (if t37.2.1 = (0 : Int) then (shadowboxlaw07_BlockTurns.jo5 k l0 a2 t8) ((), (), t37.2.2.1.2.2.1, t37.2.2.1.2.2.2.1, t37.2.2.1.2.2.2.2) t37.2.2.2 else some false)
def shadowboxlaw07_BlockTurns.jo8 (a2 : Int) (y19 : Int) (l13_7 : List Int) (x16_7 : Int) (lo7 : (List Int) → Int → Option (Bool)) : Option (Bool) := (if 0 ≤ IntKind.wrap .u64 x16_7 then lt (bits .and .u32 (shrv .u32 a2 (IntKind.wrap .u64 x16_7)) (1 : Int)) fun y43 => (if y43 = (1 : Int) then lt (IntKind.wrap .i64 (Int.tdiv (IntKind.wrap .i64 (y19 + x16_7)) (8 : Int))) fun y46 => lt (IntKind.wrap .i64 (Int.tdiv (IntKind.wrap .i64 (y19 + x16_7)) (8 : Int))) fun y48 => (if 0 ≤ y48 then (if y48 < (l13_7.length : Int) then lt (Int.tmod (IntKind.wrap .i64 (y19 + x16_7)) (8 : Int)) fun y54 => (if 0 ≤ IntKind.wrap .u64 y54 then lt (shlv .u8 (1 : Int) (IntKind.wrap .u64 y54)) fun y57 => lt (bits .xor .u8 ((l13_7).getD (y48).toNat (0 : Int)) y57) fun y59 => (if 0 ≤ y46 then (if y46 < (l13_7.length : Int) then lt ((l13_7).set (y46).toNat y59) fun y65 => lo7 y65 (IntKind.wrap .i64 (x16_7 + (1 : Int))) else none) else none) else none) else none) else none) else lo7 l13_7 (IntKind.wrap .i64 (x16_7 + (1 : Int)))) else none)
def shadowboxlaw07_BlockTurns.lo7 (a2 : Int) (y19 : Int) (jo4 : (List Int) → Option (Bool)) : Nat → (List Int) → Int → Option (Bool)
  | 0, _, _ => none
  | k7 + 1, l13_7, x16_7 => (if x16_7 < (32 : Int) then (shadowboxlaw07_BlockTurns.jo8 a2 y19 l13_7 x16_7 (shadowboxlaw07_BlockTurns.lo7 a2 y19 jo4 k7)) else jo4 l13_7)
def shadowboxlaw07_BlockTurns.jo3 (k : Nat) (l0 : List Int) (a1 : Int) (a2 : Int) (t8 : (Int × Int × Int × Int × (Vc Int 32)) × Int × (Unit × Unit × Bool × Int × Bool) × (List (Int × (Vc Int 512)) × List (Vc Int 512))) (m0_3 : (Unit × Unit × Bool × Int × Bool)) (m1_3 : (List (Int × (Vc Int 512)) × List (Vc Int 512))) : Option (Bool) := lt (IntKind.wrap .i64 ((8 : Int) * (l0.length : Int))) fun y12 => (if IntKind.wrap .i64 (y12 - (31 : Int)) ≠ 0 then lt (Int.tmod a1 (IntKind.wrap .i64 (y12 - (31 : Int)))) fun y15 => lt (IntKind.wrap .i64 (y15 + (IntKind.wrap .i64 (y12 - (31 : Int))))) fun y17 => lt (Int.tmod y17 (IntKind.wrap .i64 (y12 - (31 : Int)))) fun y19 => shadowboxlaw07_BlockTurns.lo7 a2 y19 (shadowboxlaw07_BlockTurns.jo4 k l0 a2 t8 m0_3 m1_3) k (([] : List Int) ++ l0) (0 : Int) else none)
def shadowboxlaw07_BlockTurns.jo2 (k : Nat) (l0 : List Int) (a1 : Int) (a2 : Int) (t1 : ((Unit × Unit × Bool × Int × Bool) × (List (Int × (Vc Int 512)) × List (Vc Int 512))) × Int) : Option (Bool) := (if (([] : List Int).length + l0.length) * 1 ≤ 140737488355328 then (block_Write.f k ((), (), t1.1.1.2.2.1, t1.1.1.2.2.2.1, t1.1.1.2.2.2.2) t1.1.2 (5 : Int) (9 : Int) (([] : List Int) ++ l0)).bind fun t8 => (if t8.2.1 = (0 : Int) then (disk_Disk_Flush.f k ((), (), t8.2.2.1.2.2.1, t8.2.2.1.2.2.2.1, t8.2.2.1.2.2.2.2) t8.2.2.2).bind fun t69 => (if t69.1 = (0 : Int) then (shadowboxlaw07_BlockTurns.jo3 k l0 a1 a2 t8) ((), (), t69.2.1.2.2.1, t69.2.1.2.2.2.1, t69.2.1.2.2.2.2) t69.2.2 else some false) else some false) else none)
def shadowboxlaw07_BlockTurns.jo1 (k : Nat) (l0 : List Int) (a1 : Int) (a2 : Int) : Option (Bool) := (disk_New.f k (20 : Int)).bind fun t1 => (if t1.2 = (0 : Int) then (shadowboxlaw07_BlockTurns.jo2 k l0 a1 a2 t1) else some false)
def shadowboxlaw07_BlockTurns.jo9 (k : Nat) (jo1 : Option (Bool)) (x31_9 : Bool) : Option (Bool) := (if x31_9 = true then (disk_New.f k (9 : Int)).bind fun t75 => (block_Write.f k ((), (), t75.1.1.2.2.1, t75.1.1.2.2.2.1, t75.1.1.2.2.2.2) t75.1.2 (2 : Int) (1 : Int) ([(120 : Int)])).bind fun t79 => (if t75.2 = (0 : Int) then (if t79.2.1 = (0 : Int) then some (decide (t79.1.1 = (2 : Int))) else some false) else some false) else jo1)
def shadowboxlaw07_BlockTurns.f (k : Nat) (l0 : List Int) (a1 : Int) (a2 : Int) : Option (Bool) :=
  (if (l0.length : Int) < (4 : Int) then (shadowboxlaw07_BlockTurns.jo9 k (shadowboxlaw07_BlockTurns.jo1 k l0 a1 a2)) true else (shadowboxlaw07_BlockTurns.jo9 k (shadowboxlaw07_BlockTurns.jo1 k l0 a1 a2)) (decide ((l0.length : Int) > (3000 : Int))))
set_option maxRecDepth 100000 in
set_option maxHeartbeats 4000000 in
theorem shadowboxlaw07_BlockTurns.calls (k : Nat) (A0 : Option Addr) (c0 : Nat) (l0 : List Int) (a1 : Int) (a2 : Int) (r : Bool) (b : Bs) (hs0 : St b (stl []) b.w) (R0 : Ro b A0 (em (Ec.int 5 .u8) l0)) (C0 : l0.length ≤ c0) (H : shadowboxlaw07_BlockTurns.f k l0 a1 a2 = some r) :
    Calls Try.prog 3 #[.slice A0 l0.length c0, .int .i64 a1, .int .u32 a2] b.w fun e w' => ∃ x : Unit, e = .returned (.bool r) ∧ St b (stl []) w' := by
  unfold shadowboxlaw07_BlockTurns.f at H
  refine enterb (n := 181) Try.func3 rfl (by kernel_rfl) (by kernel_rfl) hs0 ?_
  refine cs_sub (s0) (sub_nil _) ?_
  refine cs_seq ?_
  refine cs_region (l := [_]) ?_
  refine lv (.bool false) ?_
  refine ls_end ?_
  refine qn_then ?_
  refine cs_cut (fun f S => ∃ (fR : Fr), f = upd (upd (upd fR 0 (.slice A0 l0.length c0)) 1 (.int .i64 a1)) 2 (.int .u32 a2) ∧ S = s0 ∧ shadowboxlaw07_BlockTurns.jo1 k l0 a1 a2 = some r) ?_ ?_
  · skip
    refine cs_cut (fun f S => ∃ (fR : Fr) (x31_9 : Bool), f = upd (upd (upd (upd fR 0 (.slice A0 l0.length c0)) 1 (.int .i64 a1)) 2 (.int .u32 a2)) 31 (.bool x31_9) ∧ S = s0 ∧ shadowboxlaw07_BlockTurns.jo9 k (shadowboxlaw07_BlockTurns.jo1 k l0 a1 a2) x31_9 = some r) ?_ ?_
    · skip
      refine cs_region (l := [_, _, _, _, _, _, _, _]) ?_
      refine lv (.slice A0 l0.length c0) ?_
      refine lv (.int .i64 (l0.length : Int)) ?_
      refine lv (.bool (decide ((l0.length : Int) < (4 : Int)))) ?_
      refine lv (.bool (decide ((l0.length : Int) < (4 : Int)))) ?_
      by_cases q85 : (l0.length : Int) < (4 : Int)
      · replace H := ite_t q85 H
        refine ls_know (c := true) (dec_t q85) 27 (by kernel_rfl) ?_
        refine lofx 3 27 false true ?_
        refine lofx 3 27 false true ?_
        refine lofx 3 27 false true ?_
        refine lv (.bool true) ?_
        refine ls_end ?_
        refine qn_meet (s0) ⟨_, true, fr_next (fr_next (fr_next (fr_next (rfl) (by kernel_rfl)) (by kernel_rfl)) (by kernel_rfl)) (by kernel_rfl), rfl, H⟩ (sub_nil _)
      replace H := ite_f q85 H
      refine ls_know (c := false) (dec_f q85) 27 (by kernel_rfl) ?_
      refine ls_on (j := 3) (t := 27) (b := false) rfl rfl (by kernel_rfl) (by kernel_rfl) ?_
      refine lv (.slice A0 l0.length c0) ?_
      refine ls_on (j := 3) (t := 27) (b := false) rfl rfl (by kernel_rfl) (by kernel_rfl) ?_
      refine lv (.int .i64 (l0.length : Int)) ?_
      refine ls_on (j := 3) (t := 27) (b := false) rfl rfl (by kernel_rfl) (by kernel_rfl) ?_
      refine lv (.bool (decide ((l0.length : Int) > (3000 : Int)))) ?_
      refine lv (.bool (decide ((l0.length : Int) > (3000 : Int)))) ?_
      refine ls_end ?_
      refine qn_meet (s0) ⟨_, (decide ((l0.length : Int) > (3000 : Int))), fr_next (fr_next (fr_next (fr_next (rfl) (by kernel_rfl)) (by kernel_rfl)) (by kernel_rfl)) (by kernel_rfl), rfl, H⟩ (sub_nil _)
    rintro f S ⟨fr9, x31_9, rfl, rfl, H⟩
    replace H : ((if x31_9 = true then (disk_New.f k (9 : Int)).bind fun t75 => (block_Write.f k ((), (), t75.1.1.2.2.1, t75.1.1.2.2.2.1, t75.1.1.2.2.2.2) t75.1.2 (2 : Int) (1 : Int) ([(120 : Int)])).bind fun t79 => (if t75.2 = (0 : Int) then (if t79.2.1 = (0 : Int) then some (decide (t79.1.1 = (2 : Int))) else some false) else some false) else (shadowboxlaw07_BlockTurns.jo1 k l0 a1 a2))) = some r := H
    by_cases q74 : x31_9 = true
    · replace H := ite_t q74 H
      refine cs_know (c := true) (q74) 31 (by kernel_rfl) ?_
      refine cs_true (by kernel_rfl) ?_
      refine cs_seq ?_
      refine cs_region (l := [_, _, _, _, _, _]) ?_
      obtain ⟨t75, hc76, H⟩ := bind_some H
      refine ls_callb (fid := 6) (vals := #[.int .i64 (9 : Int)]) (X := Nat × Nat × Nat × Nat × Nat) (fun x => .tuple #[.pointer (some ⟨x.1, 0, none⟩), .int .i64 t75.2]) (fun x => stl [Ck.var 42 x.1 (([Value.slice (some ⟨x.2.2.1, 0, none⟩) x.2.2.2.2 x.2.2.2.1] ++ ([Value.map (some x.2.1)] ++ ([Value.bool t75.1.1.2.2.1] ++ ([Value.int .i64 t75.1.1.2.2.2.1] ++ [Value.bool t75.1.1.2.2.2.2]))))), Ck.mr T56 x.2.1 x.2.2.1 x.2.2.2.1 x.2.2.2.2 t75.1.2]) [] [] [] [] 0 rfl rfl (by kernel_rfl) (fun w => by kernel_rfl) trivial trivial (by decide) (fun w hs hb => disk_New.calls k (9 : Int) t75 (lent b w [] []) hb  hc76) ?_
      intro x77
      refine lv (.tuple #[.pointer (some ⟨x77.1, 0, none⟩), .int .i64 t75.2]) ?_
      refine lv (.pointer (some ⟨x77.1, 0, none⟩)) ?_
      refine lv (.int .i64 t75.2) ?_
      refine lv (.pointer (some ⟨x77.1, 0, none⟩)) ?_
      refine lv (.int .i64 t75.2) ?_
      refine ls_end ?_
      refine qn_then ?_
      refine cs_seq ?_
      refine cs_region (l := [_, _, _, _, _, _, _, _, _, _]) ?_
      refine lv (.pointer (some ⟨x77.1, 0, none⟩)) ?_
      refine ls_lit (Ec.int 5 .u8) 2 rfl rfl (by kernel_rfl) ([(120 : Int)]) (by exact of_decide_eq_true (by kernel_rfl)) (fun w => by kernel_rfl) ?_
      intro g78
      refine ls_conv (g := g78) (l := ([(120 : Int)])) (e := 5) 2 rfl rfl (by kernel_rfl) rfl (by kernel_rfl) (by kernel_rfl) (by kernel_rfl) (by exact rfl) ?_
      obtain ⟨t79, hc80, H⟩ := bind_some H
      refine ls_callb (fid := 7) (vals := #[.pointer (some ⟨x77.1, 0, none⟩), .int .i64 (2 : Int), .int .i64 (1 : Int), .slice (some ⟨g78, 0, none⟩) ([(120 : Int)]).length [(120 : Int)].length]) (X := Unit) (fun x => .tuple #[.agg ⟨([Value.int .i64 t79.1.1] ++ ([Value.int .i64 t79.1.2.1] ++ ([Value.int .i64 t79.1.2.2.1] ++ ([Value.int .u32 t79.1.2.2.2.1] ++ en (Value.int .u8) t79.1.2.2.2.2.1))))⟩, .int .i64 t79.2.1]) (fun x => stl [Ck.var 42 x77.1 (([Value.slice (some ⟨x77.2.2.1, 0, none⟩) x77.2.2.2.2 x77.2.2.2.1] ++ ([Value.map (some x77.2.1)] ++ ([Value.bool t79.2.2.1.2.2.1] ++ ([Value.int .i64 t79.2.2.1.2.2.2.1] ++ [Value.bool t79.2.2.1.2.2.2.2]))))), Ck.mr T56 x77.2.1 x77.2.2.1 x77.2.2.2.1 x77.2.2.2.2 t79.2.2.2]) [0, 1] [2] [Ck.var 42 x77.1 (([Value.slice (some ⟨x77.2.2.1, 0, none⟩) x77.2.2.2.2 x77.2.2.2.1] ++ ([Value.map (some x77.2.1)] ++ ([Value.bool t75.1.1.2.2.1] ++ ([Value.int .i64 t75.1.1.2.2.2.1] ++ [Value.bool t75.1.1.2.2.2.2]))))), Ck.mr T56 x77.2.1 x77.2.2.1 x77.2.2.2.1 x77.2.2.2.2 t75.1.2] [Ck.rs g78 (em (Ec.int 5 .u8) ([(120 : Int)]))] 3 rfl rfl (by kernel_rfl) (fun w => by kernel_rfl) ⟨by exact rfl, by exact rfl, trivial⟩ ⟨by exact rfl, trivial⟩ (by decide) (fun w hs hb => block_Write.calls k x77.1 x77.2.2.1 x77.2.2.2.2 x77.2.2.2.1 x77.2.1 ((), (), t75.1.1.2.2.1, t75.1.1.2.2.2.1, t75.1.1.2.2.2.2) t75.1.2 (2 : Int) (1 : Int) (some ⟨g78, 0, none⟩) ([(120 : Int)].length) ([(120 : Int)]) t79 (lent b w [Ck.var 42 x77.1 (([Value.slice (some ⟨x77.2.2.1, 0, none⟩) x77.2.2.2.2 x77.2.2.2.1] ++ ([Value.map (some x77.2.1)] ++ ([Value.bool t75.1.1.2.2.1] ++ ([Value.int .i64 t75.1.1.2.2.2.1] ++ [Value.bool t75.1.1.2.2.2.2]))))), Ck.mr T56 x77.2.1 x77.2.2.1 x77.2.2.2.1 x77.2.2.2.2 t75.1.2] [Ck.rs g78 (em (Ec.int 5 .u8) ([(120 : Int)]))]) hb (Rd.ror (hs.rs (k := 2) (by exact rfl)) (.head _) Ck.rs_key) (Nat.le_refl _) hc80) ?_
      intro x81
      refine lv (.tuple #[.agg ⟨([Value.int .i64 t79.1.1] ++ ([Value.int .i64 t79.1.2.1] ++ ([Value.int .i64 t79.1.2.2.1] ++ ([Value.int .u32 t79.1.2.2.2.1] ++ en (Value.int .u8) t79.1.2.2.2.2.1))))⟩, .int .i64 t79.2.1]) ?_
      refine lv (.agg ⟨([Value.int .i64 t79.1.1] ++ ([Value.int .i64 t79.1.2.1] ++ ([Value.int .i64 t79.1.2.2.1] ++ ([Value.int .u32 t79.1.2.2.2.1] ++ en (Value.int .u8) t79.1.2.2.2.2.1))))⟩) ?_
      refine lv (.int .i64 t79.2.1) ?_
      refine ls_new rfl rfl (by kernel_rfl) 3 (fun g => .pointer (some ⟨g, 0, none⟩)) (.cells ⟨([Value.int .i64 (0 : Int)] ++ ([Value.int .i64 (0 : Int)] ++ ([Value.int .i64 (0 : Int)] ++ ([Value.int .u32 (0 : Int)] ++ en (Value.int .u8) (vrep 32 (0 : Int)).1))))⟩ 30) (fun w => by kernel_rfl) ?_
      intro g82
      refine ls_storec (g := g82) (off := 0) (v := .agg ⟨([Value.int .i64 t79.1.1] ++ ([Value.int .i64 t79.1.2.1] ++ ([Value.int .i64 t79.1.2.2.1] ++ ([Value.int .u32 t79.1.2.2.2.1] ++ en (Value.int .u8) t79.1.2.2.2.2.1))))⟩) (vs := ([Value.int .i64 t79.1.1] ++ ([Value.int .i64 t79.1.2.1] ++ ([Value.int .i64 t79.1.2.2.1] ++ ([Value.int .u32 t79.1.2.2.2.1] ++ en (Value.int .u8) t79.1.2.2.2.2.1))))) (cs := ([Value.int .i64 (0 : Int)] ++ ([Value.int .i64 (0 : Int)] ++ ([Value.int .i64 (0 : Int)] ++ ([Value.int .u32 (0 : Int)] ++ en (Value.int .u8) (vrep 32 (0 : Int)).1))))) (ty := 30) 3 rfl rfl rfl (by kernel_rfl) (by kernel_rfl) (by kernel_rfl) (by exact rfl) (by kernel_rfl) (len_app (len1 _) (len_app (len1 _) (len_app (len1 _) (len_app (len1 _) (len_en _ t79.1.2.2.2.2))))) (one_app (one_cons rfl one_nil) (one_app (one_cons rfl one_nil) (one_app (one_cons rfl one_nil) (one_app (one_cons rfl one_nil) (one_en (fun _ => rfl) _))))) (hl_of (Sub4.all _) (len_eq (len_app (len1 _) (len_app (len1 _) (len_app (len1 _) (len_app (len1 _) (len_en _ t79.1.2.2.2.2))))) (len_app (len1 _) (len_app (len1 _) (len_app (len1 _) (len_app (len1 _) (len_en _ (vrep 32 (0 : Int))))))))) (cs' := ([Value.int .i64 t79.1.1] ++ ([Value.int .i64 t79.1.2.1] ++ ([Value.int .i64 t79.1.2.2.1] ++ ([Value.int .u32 t79.1.2.2.2.1] ++ en (Value.int .u8) t79.1.2.2.2.2.1))))) (splc_all (len_eq (len_app (len1 _) (len_app (len1 _) (len_app (len1 _) (len_app (len1 _) (len_en _ t79.1.2.2.2.2))))) (len_app (len1 _) (len_app (len1 _) (len_app (len1 _) (len_app (len1 _) (len_en _ (vrep 32 (0 : Int))))))))) ?_
      refine lv (.int .i64 t79.2.1) ?_
      refine ls_end ?_
      refine qn_then ?_
      refine cs_seq ?_
      refine cs_region (l := [_, _, _, _, _, _, _, _, _, _, _, _]) ?_
      refine lv (.int .i64 t75.2) ?_
      refine lv (.bool (decide (t75.2 = (0 : Int)))) ?_
      refine lv (.bool (decide (t75.2 = (0 : Int)))) ?_
      by_cases q83 : t75.2 = (0 : Int)
      · replace H := ite_t q83 H
        refine ls_know (c := true) (dec_t q83) 45 (by kernel_rfl) ?_
        refine ls_on (j := 2) (t := 45) (b := true) rfl rfl (by kernel_rfl) (by kernel_rfl) ?_
        refine lv (.int .i64 t79.2.1) ?_
        refine ls_on (j := 2) (t := 45) (b := true) rfl rfl (by kernel_rfl) (by kernel_rfl) ?_
        refine lv (.bool (decide (t79.2.1 = (0 : Int)))) ?_
        refine lv (.bool (decide (t79.2.1 = (0 : Int)))) ?_
        refine lv (.bool (decide (t79.2.1 = (0 : Int)))) ?_
        by_cases q84 : t79.2.1 = (0 : Int)
        · replace H := ite_t q84 H
          refine ls_know (c := true) (dec_t q84) 49 (by kernel_rfl) ?_
          refine ls_on (j := 6) (t := 49) (b := true) rfl rfl (by kernel_rfl) (by kernel_rfl) ?_
          refine lv (.pointer (some ⟨g82, (0 + 0), none⟩)) ?_
          refine ls_on (j := 6) (t := 49) (b := true) rfl rfl (by kernel_rfl) (by kernel_rfl) ?_
          refine ls_load (a0 := ⟨g82, (0 + 0), none⟩) (v := .int .i64 t79.1.1) (de := (TypeDesc.int .i64)) rfl rfl (by kernel_rfl) rfl (by kernel_rfl) (by kernel_rfl) (by kernel_rfl) (fun w hs => (hs.var (k := 3) (by exact rfl) (Sub4.trans (Sub4.all _) (Sub4.head _ _)))) ?_
          refine ls_on (j := 6) (t := 49) (b := true) rfl rfl (by kernel_rfl) (by kernel_rfl) ?_
          refine lv (.bool (decide (t79.1.1 = (2 : Int)))) ?_
          refine lv (.bool (decide (t79.1.1 = (2 : Int)))) ?_
          refine lv (.bool (decide (t79.1.1 = (2 : Int)))) ?_
          refine ls_end ?_
          refine qn_then ?_
          refine cs_ret' ?_
          refine qr_then ?_
          obtain rfl := Option.some.inj H
          refine qr_res (rs := [_]) rfl (fun w' hs => ⟨[.bool (decide (t79.1.1 = (2 : Int)))], (res_tmp (by kernel_rfl) (.nil)), (), rfl, hs.pick (ts := []) (cs := []) trivial (by decide)⟩)
        replace H := ite_f q84 H
        refine ls_know (c := false) (dec_f q84) 49 (by kernel_rfl) ?_
        refine lofx 6 49 true false ?_
        refine lofx 6 49 true false ?_
        refine lofx 6 49 true false ?_
        refine lv (.bool false) ?_
        refine lv (.bool false) ?_
        refine ls_end ?_
        refine qn_then ?_
        refine cs_ret' ?_
        refine qr_then ?_
        obtain rfl := Option.some.inj H
        refine qr_res (rs := [_]) rfl (fun w' hs => ⟨[.bool false], (res_tmp (by kernel_rfl) (.nil)), (), rfl, hs.pick (ts := []) (cs := []) trivial (by decide)⟩)
      replace H := ite_f q83 H
      refine ls_know (c := false) (dec_f q83) 45 (by kernel_rfl) ?_
      refine lofx 2 45 true false ?_
      refine lofx 2 45 true false ?_
      refine lv (.bool false) ?_
      refine lv (.bool false) ?_
      refine lofx 6 49 true false ?_
      refine lofx 6 49 true false ?_
      refine lofx 6 49 true false ?_
      refine lv (.bool false) ?_
      refine lv (.bool false) ?_
      refine ls_end ?_
      refine qn_then ?_
      refine cs_ret' ?_
      refine qr_then ?_
      obtain rfl := Option.some.inj H
      refine qr_res (rs := [_]) rfl (fun w' hs => ⟨[.bool false], (res_tmp (by kernel_rfl) (.nil)), (), rfl, hs.pick (ts := []) (cs := []) trivial (by decide)⟩)
    replace H := ite_f q74 H
    refine cs_know (c := false) (Bool.eq_false_iff.mpr q74) 31 (by kernel_rfl) ?_
    refine cs_false (by kernel_rfl) ?_
    refine cs_skip' ?_
    refine qn_meet (s0) ⟨_, fr_next (fr_next (fr_next (rfl) (by kernel_rfl)) (by kernel_rfl)) (by kernel_rfl), rfl, H⟩ (sub_nil _)
  rintro f S ⟨fr1, rfl, rfl, H⟩
  replace H : ((disk_New.f k (20 : Int)).bind fun t1 => (if t1.2 = (0 : Int) then (shadowboxlaw07_BlockTurns.jo2 k l0 a1 a2 t1) else some false)) = some r := H
  refine cs_seq ?_
  refine cs_region (l := [_, _, _, _, _, _]) ?_
  obtain ⟨t1, hc2, H⟩ := bind_some H
  refine ls_callb (fid := 6) (vals := #[.int .i64 (20 : Int)]) (X := Nat × Nat × Nat × Nat × Nat) (fun x => .tuple #[.pointer (some ⟨x.1, 0, none⟩), .int .i64 t1.2]) (fun x => stl [Ck.var 42 x.1 (([Value.slice (some ⟨x.2.2.1, 0, none⟩) x.2.2.2.2 x.2.2.2.1] ++ ([Value.map (some x.2.1)] ++ ([Value.bool t1.1.1.2.2.1] ++ ([Value.int .i64 t1.1.1.2.2.2.1] ++ [Value.bool t1.1.1.2.2.2.2]))))), Ck.mr T56 x.2.1 x.2.2.1 x.2.2.2.1 x.2.2.2.2 t1.1.2]) [] [] [] [] 0 rfl rfl (by kernel_rfl) (fun w => by kernel_rfl) trivial trivial (by decide) (fun w hs hb => disk_New.calls k (20 : Int) t1 (lent b w [] []) hb  hc2) ?_
  intro x3
  refine lv (.tuple #[.pointer (some ⟨x3.1, 0, none⟩), .int .i64 t1.2]) ?_
  refine lv (.pointer (some ⟨x3.1, 0, none⟩)) ?_
  refine lv (.int .i64 t1.2) ?_
  refine lv (.pointer (some ⟨x3.1, 0, none⟩)) ?_
  refine lv (.int .i64 t1.2) ?_
  refine ls_end ?_
  refine qn_then ?_
  refine cs_cut (fun f S => ∃ (fR : Fr), f = upd (upd (upd (upd fR 0 (.slice A0 l0.length c0)) 1 (.int .i64 a1)) 2 (.int .u32 a2)) 11 (.pointer (some ⟨x3.1, 0, none⟩)) ∧ S = sput (sput s0 0 (some (Ck.var 42 x3.1 (([Value.slice (some ⟨x3.2.2.1, 0, none⟩) x3.2.2.2.2 x3.2.2.2.1] ++ ([Value.map (some x3.2.1)] ++ ([Value.bool t1.1.1.2.2.1] ++ ([Value.int .i64 t1.1.1.2.2.2.1] ++ [Value.bool t1.1.1.2.2.2.2])))))))) 1 (some (Ck.mr T56 x3.2.1 x3.2.2.1 x3.2.2.2.1 x3.2.2.2.2 t1.1.2)) ∧ shadowboxlaw07_BlockTurns.jo2 k l0 a1 a2 t1 = some r) ?_ ?_
  · skip
    refine cs_seq ?_
    refine cs_region (l := [_, _]) ?_
    refine lv (.int .i64 t1.2) ?_
    refine lv (.bool (!decide (t1.2 = (0 : Int)))) ?_
    refine ls_end ?_
    refine qn_then ?_
    by_cases q73 : t1.2 = (0 : Int)
    · replace H := ite_t q73 H
      refine cs_know (c := false) (congrArg Bool.not (dec_t q73)) 59 (by kernel_rfl) ?_
      refine cs_false (by kernel_rfl) ?_
      refine cs_skip' ?_
      refine qn_meet (sput (sput s0 0 (some (Ck.var 42 x3.1 (([Value.slice (some ⟨x3.2.2.1, 0, none⟩) x3.2.2.2.2 x3.2.2.2.1] ++ ([Value.map (some x3.2.1)] ++ ([Value.bool t1.1.1.2.2.1] ++ ([Value.int .i64 t1.1.1.2.2.2.1] ++ [Value.bool t1.1.1.2.2.2.2])))))))) 1 (some (Ck.mr T56 x3.2.1 x3.2.2.1 x3.2.2.2.1 x3.2.2.2.2 t1.1.2))) ⟨_, fr_next (fr_next (fr_next (fr_next (rfl) (by kernel_rfl)) (by kernel_rfl)) (by kernel_rfl)) (by kernel_rfl), rfl, H⟩ (sub_put (by exact rfl) (sub_put (by exact rfl) (sub_nil _)))
    replace H := ite_f q73 H
    refine cs_know (c := true) (congrArg Bool.not (dec_f q73)) 59 (by kernel_rfl) ?_
    refine cs_true (by kernel_rfl) ?_
    refine cs_seq ?_
    refine cs_region (l := [_]) ?_
    refine lv (.bool false) ?_
    refine ls_end ?_
    refine qn_then ?_
    refine cs_ret' ?_
    refine qr_then ?_
    obtain rfl := Option.some.inj H
    refine qr_res (rs := [_]) rfl (fun w' hs => ⟨[.bool false], (res_tmp (by kernel_rfl) (.nil)), (), rfl, hs.pick (ts := []) (cs := []) trivial (by decide)⟩)
  rintro f S ⟨fr2, rfl, rfl, H⟩
  replace H : ((if (([] : List Int).length + l0.length) * 1 ≤ 140737488355328 then (block_Write.f k ((), (), t1.1.1.2.2.1, t1.1.1.2.2.2.1, t1.1.1.2.2.2.2) t1.1.2 (5 : Int) (9 : Int) (([] : List Int) ++ l0)).bind fun t8 => (if t8.2.1 = (0 : Int) then (disk_Disk_Flush.f k ((), (), t8.2.2.1.2.2.1, t8.2.2.1.2.2.2.1, t8.2.2.1.2.2.2.2) t8.2.2.2).bind fun t69 => (if t69.1 = (0 : Int) then (shadowboxlaw07_BlockTurns.jo3 k l0 a1 a2 t8) ((), (), t69.2.1.2.2.1, t69.2.1.2.2.2.1, t69.2.1.2.2.2.2) t69.2.2 else some false) else some false) else none)) = some r := H
  refine cs_seq ?_
  refine cs_region (l := [_, _, _, _]) ?_
  refine ls_lit (Ec.int 5 .u8) 2 rfl rfl (by kernel_rfl) ([] : List Int) (by exact of_decide_eq_true (by kernel_rfl)) (fun w => by kernel_rfl) ?_
  intro g4
  refine lv (.slice A0 l0.length c0) ?_
  obtain ⟨q5, H⟩ := ite_need H
  refine ls_app (Ec.int 5 .u8) (A := (some ⟨g4, 0, none⟩)) (c := ([] : List Int).length) (B := A0) (cb := c0) (z := (Value.int .u8 0)) (l := ([] : List Int)) (m := l0) (bytes := 1) 2 rfl rfl (by kernel_rfl) rfl (by kernel_rfl) (by exact rfl) (by kernel_rfl) (fun w hs => (hs.old R0)) (by kernel_rfl) (by kernel_rfl) rfl (by decide) q5 ?_
  intro xA6 xc7
  refine lv (.slice xA6 (([] : List Int) ++ l0).length xc7) ?_
  refine ls_end ?_
  refine qn_then ?_
  refine cs_seq ?_
  refine cs_region (l := [_, _, _, _, _, _, _, _, _]) ?_
  refine lv (.pointer (some ⟨x3.1, 0, none⟩)) ?_
  refine lv (.slice xA6 (([] : List Int) ++ l0).length xc7) ?_
  obtain ⟨t8, hc9, H⟩ := bind_some H
  refine ls_callb (fid := 7) (vals := #[.pointer (some ⟨x3.1, 0, none⟩), .int .i64 (5 : Int), .int .i64 (9 : Int), .slice xA6 (([] : List Int) ++ l0).length xc7]) (X := Unit) (fun x => .tuple #[.agg ⟨([Value.int .i64 t8.1.1] ++ ([Value.int .i64 t8.1.2.1] ++ ([Value.int .i64 t8.1.2.2.1] ++ ([Value.int .u32 t8.1.2.2.2.1] ++ en (Value.int .u8) t8.1.2.2.2.2.1))))⟩, .int .i64 t8.2.1]) (fun x => stl [Ck.var 42 x3.1 (([Value.slice (some ⟨x3.2.2.1, 0, none⟩) x3.2.2.2.2 x3.2.2.2.1] ++ ([Value.map (some x3.2.1)] ++ ([Value.bool t8.2.2.1.2.2.1] ++ ([Value.int .i64 t8.2.2.1.2.2.2.1] ++ [Value.bool t8.2.2.1.2.2.2.2]))))), Ck.mr T56 x3.2.1 x3.2.2.1 x3.2.2.2.1 x3.2.2.2.2 t8.2.2.2]) [0, 1] [2] [Ck.var 42 x3.1 (([Value.slice (some ⟨x3.2.2.1, 0, none⟩) x3.2.2.2.2 x3.2.2.2.1] ++ ([Value.map (some x3.2.1)] ++ ([Value.bool t1.1.1.2.2.1] ++ ([Value.int .i64 t1.1.1.2.2.2.1] ++ [Value.bool t1.1.1.2.2.2.2]))))), Ck.mr T56 x3.2.1 x3.2.2.1 x3.2.2.2.1 x3.2.2.2.2 t1.1.2] [Ck.sl (Ec.int 5 .u8) xA6 xc7 (([] : List Int) ++ l0)] 3 rfl rfl (by kernel_rfl) (fun w => by kernel_rfl) ⟨by exact rfl, by exact rfl, trivial⟩ ⟨by exact rfl, trivial⟩ (by decide) (fun w hs hb => block_Write.calls k x3.1 x3.2.2.1 x3.2.2.2.2 x3.2.2.2.1 x3.2.1 ((), (), t1.1.1.2.2.1, t1.1.1.2.2.2.1, t1.1.1.2.2.2.2) t1.1.2 (5 : Int) (9 : Int) xA6 xc7 (([] : List Int) ++ l0) t8 (lent b w [Ck.var 42 x3.1 (([Value.slice (some ⟨x3.2.2.1, 0, none⟩) x3.2.2.2.2 x3.2.2.2.1] ++ ([Value.map (some x3.2.1)] ++ ([Value.bool t1.1.1.2.2.1] ++ ([Value.int .i64 t1.1.1.2.2.2.1] ++ [Value.bool t1.1.1.2.2.2.2]))))), Ck.mr T56 x3.2.1 x3.2.2.1 x3.2.2.2.1 x3.2.2.2.2 t1.1.2] [Ck.sl (Ec.int 5 .u8) xA6 xc7 (([] : List Int) ++ l0)]) hb (hs.ror (k := 2) (by exact rfl) (.head _)) (hs.cap (k := 2) (by exact rfl)) hc9) ?_
  intro x10
  refine lv (.tuple #[.agg ⟨([Value.int .i64 t8.1.1] ++ ([Value.int .i64 t8.1.2.1] ++ ([Value.int .i64 t8.1.2.2.1] ++ ([Value.int .u32 t8.1.2.2.2.1] ++ en (Value.int .u8) t8.1.2.2.2.2.1))))⟩, .int .i64 t8.2.1]) ?_
  refine lv (.agg ⟨([Value.int .i64 t8.1.1] ++ ([Value.int .i64 t8.1.2.1] ++ ([Value.int .i64 t8.1.2.2.1] ++ ([Value.int .u32 t8.1.2.2.2.1] ++ en (Value.int .u8) t8.1.2.2.2.2.1))))⟩) ?_
  refine lv (.int .i64 t8.2.1) ?_
  refine ls_new rfl rfl (by kernel_rfl) 3 (fun g => .pointer (some ⟨g, 0, none⟩)) (.cells ⟨([Value.int .i64 (0 : Int)] ++ ([Value.int .i64 (0 : Int)] ++ ([Value.int .i64 (0 : Int)] ++ ([Value.int .u32 (0 : Int)] ++ en (Value.int .u8) (vrep 32 (0 : Int)).1))))⟩ 30) (fun w => by kernel_rfl) ?_
  intro g11
  refine ls_storec (g := g11) (off := 0) (v := .agg ⟨([Value.int .i64 t8.1.1] ++ ([Value.int .i64 t8.1.2.1] ++ ([Value.int .i64 t8.1.2.2.1] ++ ([Value.int .u32 t8.1.2.2.2.1] ++ en (Value.int .u8) t8.1.2.2.2.2.1))))⟩) (vs := ([Value.int .i64 t8.1.1] ++ ([Value.int .i64 t8.1.2.1] ++ ([Value.int .i64 t8.1.2.2.1] ++ ([Value.int .u32 t8.1.2.2.2.1] ++ en (Value.int .u8) t8.1.2.2.2.2.1))))) (cs := ([Value.int .i64 (0 : Int)] ++ ([Value.int .i64 (0 : Int)] ++ ([Value.int .i64 (0 : Int)] ++ ([Value.int .u32 (0 : Int)] ++ en (Value.int .u8) (vrep 32 (0 : Int)).1))))) (ty := 30) 3 rfl rfl rfl (by kernel_rfl) (by kernel_rfl) (by kernel_rfl) (by exact rfl) (by kernel_rfl) (len_app (len1 _) (len_app (len1 _) (len_app (len1 _) (len_app (len1 _) (len_en _ t8.1.2.2.2.2))))) (one_app (one_cons rfl one_nil) (one_app (one_cons rfl one_nil) (one_app (one_cons rfl one_nil) (one_app (one_cons rfl one_nil) (one_en (fun _ => rfl) _))))) (hl_of (Sub4.all _) (len_eq (len_app (len1 _) (len_app (len1 _) (len_app (len1 _) (len_app (len1 _) (len_en _ t8.1.2.2.2.2))))) (len_app (len1 _) (len_app (len1 _) (len_app (len1 _) (len_app (len1 _) (len_en _ (vrep 32 (0 : Int))))))))) (cs' := ([Value.int .i64 t8.1.1] ++ ([Value.int .i64 t8.1.2.1] ++ ([Value.int .i64 t8.1.2.2.1] ++ ([Value.int .u32 t8.1.2.2.2.1] ++ en (Value.int .u8) t8.1.2.2.2.2.1))))) (splc_all (len_eq (len_app (len1 _) (len_app (len1 _) (len_app (len1 _) (len_app (len1 _) (len_en _ t8.1.2.2.2.2))))) (len_app (len1 _) (len_app (len1 _) (len_app (len1 _) (len_app (len1 _) (len_en _ (vrep 32 (0 : Int))))))))) ?_
  refine lv (.int .i64 t8.2.1) ?_
  refine ls_end ?_
  refine qn_then ?_
  refine cs_cut (fun f S => ∃ (fR : Fr) (m0_3 : (Unit × Unit × Bool × Int × Bool)) (m1_3 : (List (Int × (Vc Int 512)) × List (Vc Int 512))), f = upd (upd (upd (upd (upd (upd fR 0 (.slice A0 l0.length c0)) 1 (.int .i64 a1)) 2 (.int .u32 a2)) 11 (.pointer (some ⟨x3.1, 0, none⟩))) 13 (.slice xA6 (([] : List Int) ++ l0).length xc7)) 14 (.pointer (some ⟨g11, 0, none⟩)) ∧ S = sput (sput (sput (sput s0 0 (some (Ck.var 42 x3.1 (([Value.slice (some ⟨x3.2.2.1, 0, none⟩) x3.2.2.2.2 x3.2.2.2.1] ++ ([Value.map (some x3.2.1)] ++ ([Value.bool m0_3.2.2.1] ++ ([Value.int .i64 m0_3.2.2.2.1] ++ [Value.bool m0_3.2.2.2.2])))))))) 1 (some (Ck.mr T56 x3.2.1 x3.2.2.1 x3.2.2.2.1 x3.2.2.2.2 m1_3))) 2 (some (Ck.sl (Ec.int 5 .u8) xA6 xc7 (([] : List Int) ++ l0)))) 3 (some (Ck.var 30 g11 (([Value.int .i64 t8.1.1] ++ ([Value.int .i64 t8.1.2.1] ++ ([Value.int .i64 t8.1.2.2.1] ++ ([Value.int .u32 t8.1.2.2.2.1] ++ en (Value.int .u8) t8.1.2.2.2.2.1))))))) ∧ shadowboxlaw07_BlockTurns.jo3 k l0 a1 a2 t8 m0_3 m1_3 = some r) ?_ ?_
  · skip
    refine cs_seq ?_
    refine cs_region (l := [_, _, _, _, _, _, _]) ?_
    refine lv (.int .i64 t8.2.1) ?_
    refine lv (.bool (!decide (t8.2.1 = (0 : Int)))) ?_
    refine lv (.bool (!decide (t8.2.1 = (0 : Int)))) ?_
    by_cases q68 : t8.2.1 = (0 : Int)
    · replace H := ite_t q68 H
      refine ls_know (c := false) (congrArg Bool.not (dec_t q68)) 71 (by kernel_rfl) ?_
      refine ls_on (j := 2) (t := 71) (b := false) rfl rfl (by kernel_rfl) (by kernel_rfl) ?_
      refine lv (.pointer (some ⟨x3.1, 0, none⟩)) ?_
      refine ls_on (j := 2) (t := 71) (b := false) rfl rfl (by kernel_rfl) (by kernel_rfl) ?_
      obtain ⟨t69, hc70, H⟩ := bind_some H
      refine ls_callb (fid := 8) (vals := #[.pointer (some ⟨x3.1, 0, none⟩)]) (X := Unit) (fun x => .int .i64 t69.1) (fun x => stl [Ck.var 42 x3.1 (([Value.slice (some ⟨x3.2.2.1, 0, none⟩) x3.2.2.2.2 x3.2.2.2.1] ++ ([Value.map (some x3.2.1)] ++ ([Value.bool t69.2.1.2.2.1] ++ ([Value.int .i64 t69.2.1.2.2.2.1] ++ [Value.bool t69.2.1.2.2.2.2]))))), Ck.mr T56 x3.2.1 x3.2.2.1 x3.2.2.2.1 x3.2.2.2.2 t69.2.2]) [0, 1] [] [Ck.var 42 x3.1 (([Value.slice (some ⟨x3.2.2.1, 0, none⟩) x3.2.2.2.2 x3.2.2.2.1] ++ ([Value.map (some x3.2.1)] ++ ([Value.bool t8.2.2.1.2.2.1] ++ ([Value.int .i64 t8.2.2.1.2.2.2.1] ++ [Value.bool t8.2.2.1.2.2.2.2]))))), Ck.mr T56 x3.2.1 x3.2.2.1 x3.2.2.2.1 x3.2.2.2.2 t8.2.2.2] [] 4 rfl rfl (by kernel_rfl) (fun w => by kernel_rfl) ⟨by exact rfl, by exact rfl, trivial⟩ trivial (by decide) (fun w hs hb => disk_Disk_Flush.calls k x3.1 x3.2.2.1 x3.2.2.2.2 x3.2.2.2.1 x3.2.1 ((), (), t8.2.2.1.2.2.1, t8.2.2.1.2.2.2.1, t8.2.2.1.2.2.2.2) t8.2.2.2 t69 (lent b w [Ck.var 42 x3.1 (([Value.slice (some ⟨x3.2.2.1, 0, none⟩) x3.2.2.2.2 x3.2.2.2.1] ++ ([Value.map (some x3.2.1)] ++ ([Value.bool t8.2.2.1.2.2.1] ++ ([Value.int .i64 t8.2.2.1.2.2.2.1] ++ [Value.bool t8.2.2.1.2.2.2.2]))))), Ck.mr T56 x3.2.1 x3.2.2.1 x3.2.2.2.1 x3.2.2.2.2 t8.2.2.2] []) hb  hc70) ?_
      intro x71
      refine ls_on (j := 2) (t := 71) (b := false) rfl rfl (by kernel_rfl) (by kernel_rfl) ?_
      refine lv (.bool (!decide (t69.1 = (0 : Int)))) ?_
      refine lv (.bool (!decide (t69.1 = (0 : Int)))) ?_
      refine ls_end ?_
      refine qn_then ?_
      by_cases q72 : t69.1 = (0 : Int)
      · replace H := ite_t q72 H
        refine cs_know (c := false) (congrArg Bool.not (dec_t q72)) 75 (by kernel_rfl) ?_
        refine cs_false (by kernel_rfl) ?_
        refine cs_skip' ?_
        refine qn_meet (sput (sput (sput (sput s0 0 (some (Ck.var 42 x3.1 (([Value.slice (some ⟨x3.2.2.1, 0, none⟩) x3.2.2.2.2 x3.2.2.2.1] ++ ([Value.map (some x3.2.1)] ++ ([Value.bool t69.2.1.2.2.1] ++ ([Value.int .i64 t69.2.1.2.2.2.1] ++ [Value.bool t69.2.1.2.2.2.2])))))))) 1 (some (Ck.mr T56 x3.2.1 x3.2.2.1 x3.2.2.2.1 x3.2.2.2.2 t69.2.2))) 2 (some (Ck.sl (Ec.int 5 .u8) xA6 xc7 (([] : List Int) ++ l0)))) 3 (some (Ck.var 30 g11 (([Value.int .i64 t8.1.1] ++ ([Value.int .i64 t8.1.2.1] ++ ([Value.int .i64 t8.1.2.2.1] ++ ([Value.int .u32 t8.1.2.2.2.1] ++ en (Value.int .u8) t8.1.2.2.2.2.1)))))))) ⟨_, ((), (), t69.2.1.2.2.1, t69.2.1.2.2.2.1, t69.2.1.2.2.2.2), t69.2.2, fr_next (fr_next (fr_next (fr_next (fr_next (fr_next (rfl) (by kernel_rfl)) (by kernel_rfl)) (by kernel_rfl)) (by kernel_rfl)) (by kernel_rfl)) (by kernel_rfl), rfl, H⟩ (sub_put (by exact rfl) (sub_put (by exact rfl) (sub_put (by exact rfl) (sub_put (by exact rfl) (sub_nil _)))))
      replace H := ite_f q72 H
      refine cs_know (c := true) (congrArg Bool.not (dec_f q72)) 75 (by kernel_rfl) ?_
      refine cs_true (by kernel_rfl) ?_
      refine cs_seq ?_
      refine cs_region (l := [_]) ?_
      refine lv (.bool false) ?_
      refine ls_end ?_
      refine qn_then ?_
      refine cs_ret' ?_
      refine qr_then ?_
      obtain rfl := Option.some.inj H
      refine qr_res (rs := [_]) rfl (fun w' hs => ⟨[.bool false], (res_tmp (by kernel_rfl) (.nil)), (), rfl, hs.pick (ts := []) (cs := []) trivial (by decide)⟩)
    replace H := ite_f q68 H
    refine ls_know (c := true) (congrArg Bool.not (dec_f q68)) 71 (by kernel_rfl) ?_
    refine lofx 2 71 false true ?_
    refine lofx 2 71 false true ?_
    refine lofx 2 71 false true ?_
    refine lv (.bool true) ?_
    refine ls_end ?_
    refine qn_then ?_
    refine cs_true (by kernel_rfl) ?_
    refine cs_seq ?_
    refine cs_region (l := [_]) ?_
    refine lv (.bool false) ?_
    refine ls_end ?_
    refine qn_then ?_
    refine cs_ret' ?_
    refine qr_then ?_
    obtain rfl := Option.some.inj H
    refine qr_res (rs := [_]) rfl (fun w' hs => ⟨[.bool false], (res_tmp (by kernel_rfl) (.nil)), (), rfl, hs.pick (ts := []) (cs := []) trivial (by decide)⟩)
  rintro f S ⟨fr3, m0_3, m1_3, rfl, rfl, H⟩
  replace H : (lt (IntKind.wrap .i64 ((8 : Int) * (l0.length : Int))) fun y12 => (if IntKind.wrap .i64 (y12 - (31 : Int)) ≠ 0 then lt (Int.tmod a1 (IntKind.wrap .i64 (y12 - (31 : Int)))) fun y15 => lt (IntKind.wrap .i64 (y15 + (IntKind.wrap .i64 (y12 - (31 : Int))))) fun y17 => lt (Int.tmod y17 (IntKind.wrap .i64 (y12 - (31 : Int)))) fun y19 => shadowboxlaw07_BlockTurns.lo7 a2 y19 (shadowboxlaw07_BlockTurns.jo4 k l0 a2 t8 m0_3 m1_3) k (([] : List Int) ++ l0) (0 : Int) else none)) = some r := H
  refine cs_seq ?_
  refine cs_region (l := [_, _, _, _, _]) ?_
  refine lv (.slice A0 l0.length c0) ?_
  refine lv (.int .i64 (l0.length : Int)) ?_
  obtain ⟨y12, hy13, H⟩ := lt_some H
  refine lv (.int .i64 (IntKind.wrap .i64 ((8 : Int) * (l0.length : Int)))) ?_
  refine ls_ren 78 (v := .int .i64 (IntKind.wrap .i64 ((8 : Int) * (l0.length : Int)))) (v' := .int .i64 y12) (by kernel_rfl) (by rw [hy13]) ?_
  refine lv (.int .i64 (IntKind.wrap .i64 (y12 - (31 : Int)))) ?_
  refine lv (.int .i64 (IntKind.wrap .i64 (y12 - (31 : Int)))) ?_
  refine ls_end ?_
  refine qn_then ?_
  refine cs_seq ?_
  refine cs_region (l := [_, _, _, _, _, _, _, _]) ?_
  refine lv (.int .i64 a1) ?_
  refine lv (.int .i64 (IntKind.wrap .i64 (y12 - (31 : Int)))) ?_
  obtain ⟨q14, H⟩ := ite_need H
  obtain ⟨y15, hy16, H⟩ := lt_some H
  refine ls_rem (k := .i64) (x := a1) (y := (IntKind.wrap .i64 (y12 - (31 : Int)))) rfl rfl (by kernel_rfl) (fun w => by kernel_rfl) q14 ?_
  refine ls_ren 82 (v := .int .i64 (Int.tmod a1 (IntKind.wrap .i64 (y12 - (31 : Int))))) (v' := .int .i64 y15) (by kernel_rfl) (by rw [hy16]) ?_
  refine lv (.int .i64 (IntKind.wrap .i64 (y12 - (31 : Int)))) ?_
  obtain ⟨y17, hy18, H⟩ := lt_some H
  refine lv (.int .i64 (IntKind.wrap .i64 (y15 + (IntKind.wrap .i64 (y12 - (31 : Int)))))) ?_
  refine ls_ren 84 (v := .int .i64 (IntKind.wrap .i64 (y15 + (IntKind.wrap .i64 (y12 - (31 : Int)))))) (v' := .int .i64 y17) (by kernel_rfl) (by rw [hy18]) ?_
  refine lv (.int .i64 (IntKind.wrap .i64 (y12 - (31 : Int)))) ?_
  obtain ⟨y19, hy20, H⟩ := lt_some H
  refine ls_rem (k := .i64) (x := y17) (y := (IntKind.wrap .i64 (y12 - (31 : Int)))) rfl rfl (by kernel_rfl) (fun w => by kernel_rfl) q14 ?_
  refine ls_ren 86 (v := .int .i64 (Int.tmod y17 (IntKind.wrap .i64 (y12 - (31 : Int))))) (v' := .int .i64 y19) (by kernel_rfl) (by rw [hy20]) ?_
  refine lv (.int .i64 y19) ?_
  refine ls_end ?_
  refine qn_then ?_
  refine cs_cut (fun f S => ∃ (fR : Fr) (A13_4 : Option Addr) (c13_4 : Nat) (l13_4 : List Int), f = upd (upd (upd (upd (upd fR 0 (.slice A0 l0.length c0)) 2 (.int .u32 a2)) 11 (.pointer (some ⟨x3.1, 0, none⟩))) 13 (.slice A13_4 l13_4.length c13_4)) 14 (.pointer (some ⟨g11, 0, none⟩)) ∧ S = sput (sput (sput (sput s0 0 (some (Ck.var 42 x3.1 (([Value.slice (some ⟨x3.2.2.1, 0, none⟩) x3.2.2.2.2 x3.2.2.2.1] ++ ([Value.map (some x3.2.1)] ++ ([Value.bool m0_3.2.2.1] ++ ([Value.int .i64 m0_3.2.2.2.1] ++ [Value.bool m0_3.2.2.2.2])))))))) 1 (some (Ck.mr T56 x3.2.1 x3.2.2.1 x3.2.2.2.1 x3.2.2.2.2 m1_3))) 2 (some (Ck.sl (Ec.int 5 .u8) A13_4 c13_4 l13_4))) 3 (some (Ck.var 30 g11 (([Value.int .i64 t8.1.1] ++ ([Value.int .i64 t8.1.2.1] ++ ([Value.int .i64 t8.1.2.2.1] ++ ([Value.int .u32 t8.1.2.2.2.1] ++ en (Value.int .u8) t8.1.2.2.2.2.1))))))) ∧ shadowboxlaw07_BlockTurns.jo4 k l0 a2 t8 m0_3 m1_3 l13_4 = some r) ?_ ?_
  · skip
    refine cs_seq ?_
    refine cs_region (l := [_]) ?_
    refine lv (.int .i64 (0 : Int)) ?_
    refine ls_end ?_
    refine qn_then ?_
    refine cs_block ?_
    refine cs_sub (sput (sput (sput (sput s0 0 (some (Ck.var 42 x3.1 (([Value.slice (some ⟨x3.2.2.1, 0, none⟩) x3.2.2.2.2 x3.2.2.2.1] ++ ([Value.map (some x3.2.1)] ++ ([Value.bool m0_3.2.2.1] ++ ([Value.int .i64 m0_3.2.2.2.1] ++ [Value.bool m0_3.2.2.2.2])))))))) 1 (some (Ck.mr T56 x3.2.1 x3.2.2.1 x3.2.2.2.1 x3.2.2.2.2 m1_3))) 2 (some (Ck.sl (Ec.int 5 .u8) xA6 xc7 (([] : List Int) ++ l0)))) 3 (some (Ck.var 30 g11 (([Value.int .i64 t8.1.1] ++ ([Value.int .i64 t8.1.2.1] ++ ([Value.int .i64 t8.1.2.2.1] ++ ([Value.int .u32 t8.1.2.2.2.1] ++ en (Value.int .u8) t8.1.2.2.2.2.1)))))))) (sub_put (by exact rfl) (sub_put (by exact rfl) (sub_put (by exact rfl) (sub_put (by exact rfl) (sub_nil _))))) ?_
    refine cs_loop (fun kk f S => ∃ (fR : Fr) (A13_7 : Option Addr) (c13_7 : Nat) (l13_7 : List Int) (x16_7 : Int), f = upd (upd (upd (upd (upd (upd (upd fR 0 (.slice A0 l0.length c0)) 1 (.int .i64 y19)) 2 (.int .u32 a2)) 11 (.pointer (some ⟨x3.1, 0, none⟩))) 13 (.slice A13_7 l13_7.length c13_7)) 14 (.pointer (some ⟨g11, 0, none⟩))) 16 (.int .i64 x16_7) ∧ S = sput (sput (sput (sput s0 0 (some (Ck.var 42 x3.1 (([Value.slice (some ⟨x3.2.2.1, 0, none⟩) x3.2.2.2.2 x3.2.2.2.1] ++ ([Value.map (some x3.2.1)] ++ ([Value.bool m0_3.2.2.1] ++ ([Value.int .i64 m0_3.2.2.2.1] ++ [Value.bool m0_3.2.2.2.2])))))))) 1 (some (Ck.mr T56 x3.2.1 x3.2.2.1 x3.2.2.2.1 x3.2.2.2.2 m1_3))) 2 (some (Ck.sl (Ec.int 5 .u8) A13_7 c13_7 l13_7))) 3 (some (Ck.var 30 g11 (([Value.int .i64 t8.1.1] ++ ([Value.int .i64 t8.1.2.1] ++ ([Value.int .i64 t8.1.2.2.1] ++ ([Value.int .u32 t8.1.2.2.2.1] ++ en (Value.int .u8) t8.1.2.2.2.2.1))))))) ∧ shadowboxlaw07_BlockTurns.lo7 a2 y19 (shadowboxlaw07_BlockTurns.jo4 k l0 a2 t8 m0_3 m1_3) kk l13_7 x16_7 = some r) k ?_ ?_ ?_
    · exact ⟨_, xA6, xc7, (([] : List Int) ++ l0), (0 : Int), fr_next (fr_next (fr_next (fr_next (fr_next (fr_next (fr_next (rfl) (by kernel_rfl)) (by kernel_rfl)) (by kernel_rfl)) (by kernel_rfl)) (by kernel_rfl)) (by kernel_rfl)) (by kernel_rfl), rfl, H⟩
    · rintro f S ⟨fr7, A13_7, c13_7, l13_7, x16_7, rfl, rfl, H⟩; cases H
    rintro k7 f S ⟨fr7, A13_7, c13_7, l13_7, x16_7, rfl, rfl, H⟩
    replace H : ((if x16_7 < (32 : Int) then (shadowboxlaw07_BlockTurns.jo8 a2 y19 l13_7 x16_7 (shadowboxlaw07_BlockTurns.lo7 a2 y19 (shadowboxlaw07_BlockTurns.jo4 k l0 a2 t8 m0_3 m1_3) k7)) else (shadowboxlaw07_BlockTurns.jo4 k l0 a2 t8 m0_3 m1_3) l13_7)) = some r := H
    refine cs_cut (fun f S => ∃ (fR : Fr), f = upd (upd (upd (upd (upd (upd (upd fR 0 (.slice A0 l0.length c0)) 1 (.int .i64 y19)) 2 (.int .u32 a2)) 11 (.pointer (some ⟨x3.1, 0, none⟩))) 13 (.slice A13_7 l13_7.length c13_7)) 14 (.pointer (some ⟨g11, 0, none⟩))) 16 (.int .i64 x16_7) ∧ S = sput (sput (sput (sput s0 0 (some (Ck.var 42 x3.1 (([Value.slice (some ⟨x3.2.2.1, 0, none⟩) x3.2.2.2.2 x3.2.2.2.1] ++ ([Value.map (some x3.2.1)] ++ ([Value.bool m0_3.2.2.1] ++ ([Value.int .i64 m0_3.2.2.2.1] ++ [Value.bool m0_3.2.2.2.2])))))))) 1 (some (Ck.mr T56 x3.2.1 x3.2.2.1 x3.2.2.2.1 x3.2.2.2.2 m1_3))) 2 (some (Ck.sl (Ec.int 5 .u8) A13_7 c13_7 l13_7))) 3 (some (Ck.var 30 g11 (([Value.int .i64 t8.1.1] ++ ([Value.int .i64 t8.1.2.1] ++ ([Value.int .i64 t8.1.2.2.1] ++ ([Value.int .u32 t8.1.2.2.2.1] ++ en (Value.int .u8) t8.1.2.2.2.2.1))))))) ∧ shadowboxlaw07_BlockTurns.jo8 a2 y19 l13_7 x16_7 (shadowboxlaw07_BlockTurns.lo7 a2 y19 (shadowboxlaw07_BlockTurns.jo4 k l0 a2 t8 m0_3 m1_3) k7) = some r) ?_ ?_
    · skip
      refine cs_seq ?_
      refine cs_region (l := [_, _]) ?_
      refine lv (.int .i64 x16_7) ?_
      refine lv (.bool (decide (x16_7 < (32 : Int)))) ?_
      refine ls_end ?_
      refine qn_then ?_
      by_cases q67 : x16_7 < (32 : Int)
      · replace H := ite_t q67 H
        refine cs_know (c := true) (dec_t q67) 88 (by kernel_rfl) ?_
        refine cs_true (by kernel_rfl) ?_
        refine cs_skip' ?_
        refine qn_meet (sput (sput (sput (sput s0 0 (some (Ck.var 42 x3.1 (([Value.slice (some ⟨x3.2.2.1, 0, none⟩) x3.2.2.2.2 x3.2.2.2.1] ++ ([Value.map (some x3.2.1)] ++ ([Value.bool m0_3.2.2.1] ++ ([Value.int .i64 m0_3.2.2.2.1] ++ [Value.bool m0_3.2.2.2.2])))))))) 1 (some (Ck.mr T56 x3.2.1 x3.2.2.1 x3.2.2.2.1 x3.2.2.2.2 m1_3))) 2 (some (Ck.sl (Ec.int 5 .u8) A13_7 c13_7 l13_7))) 3 (some (Ck.var 30 g11 (([Value.int .i64 t8.1.1] ++ ([Value.int .i64 t8.1.2.1] ++ ([Value.int .i64 t8.1.2.2.1] ++ ([Value.int .u32 t8.1.2.2.2.1] ++ en (Value.int .u8) t8.1.2.2.2.2.1)))))))) ⟨_, fr_next (fr_next (fr_next (fr_next (fr_next (fr_next (fr_next (rfl) (by kernel_rfl)) (by kernel_rfl)) (by kernel_rfl)) (by kernel_rfl)) (by kernel_rfl)) (by kernel_rfl)) (by kernel_rfl), rfl, H⟩ (sub_put (by exact rfl) (sub_put (by exact rfl) (sub_put (by exact rfl) (sub_put (by exact rfl) (sub_nil _)))))
      replace H := ite_f q67 H
      refine cs_know (c := false) (dec_f q67) 88 (by kernel_rfl) ?_
      refine cs_false (by kernel_rfl) ?_
      refine cs_exit' ?_
      refine qx_then ?_
      refine qx_then ?_
      refine qx_same ?_
      refine qn_meet (sput (sput (sput (sput s0 0 (some (Ck.var 42 x3.1 (([Value.slice (some ⟨x3.2.2.1, 0, none⟩) x3.2.2.2.2 x3.2.2.2.1] ++ ([Value.map (some x3.2.1)] ++ ([Value.bool m0_3.2.2.1] ++ ([Value.int .i64 m0_3.2.2.2.1] ++ [Value.bool m0_3.2.2.2.2])))))))) 1 (some (Ck.mr T56 x3.2.1 x3.2.2.1 x3.2.2.2.1 x3.2.2.2.2 m1_3))) 2 (some (Ck.sl (Ec.int 5 .u8) A13_7 c13_7 l13_7))) 3 (some (Ck.var 30 g11 (([Value.int .i64 t8.1.1] ++ ([Value.int .i64 t8.1.2.1] ++ ([Value.int .i64 t8.1.2.2.1] ++ ([Value.int .u32 t8.1.2.2.2.1] ++ en (Value.int .u8) t8.1.2.2.2.2.1)))))))) ⟨_, A13_7, c13_7, l13_7, fr_next (fr_next (fr_next (fr_next (fr_next (rfl) (by kernel_rfl)) (by kernel_rfl)) (by kernel_rfl)) (by kernel_rfl)) (by kernel_rfl), rfl, H⟩ (sub_put (by exact rfl) (sub_put (by exact rfl) (sub_put (by exact rfl) (sub_put (by exact rfl) (sub_nil _)))))
    rintro f S ⟨fr8, rfl, rfl, H⟩
    replace H : ((if 0 ≤ IntKind.wrap .u64 x16_7 then lt (bits .and .u32 (shrv .u32 a2 (IntKind.wrap .u64 x16_7)) (1 : Int)) fun y43 => (if y43 = (1 : Int) then lt (IntKind.wrap .i64 (Int.tdiv (IntKind.wrap .i64 (y19 + x16_7)) (8 : Int))) fun y46 => lt (IntKind.wrap .i64 (Int.tdiv (IntKind.wrap .i64 (y19 + x16_7)) (8 : Int))) fun y48 => (if 0 ≤ y48 then (if y48 < (l13_7.length : Int) then lt (Int.tmod (IntKind.wrap .i64 (y19 + x16_7)) (8 : Int)) fun y54 => (if 0 ≤ IntKind.wrap .u64 y54 then lt (shlv .u8 (1 : Int) (IntKind.wrap .u64 y54)) fun y57 => lt (bits .xor .u8 ((l13_7).getD (y48).toNat (0 : Int)) y57) fun y59 => (if 0 ≤ y46 then (if y46 < (l13_7.length : Int) then lt ((l13_7).set (y46).toNat y59) fun y65 => (shadowboxlaw07_BlockTurns.lo7 a2 y19 (shadowboxlaw07_BlockTurns.jo4 k l0 a2 t8 m0_3 m1_3) k7) y65 (IntKind.wrap .i64 (x16_7 + (1 : Int))) else none) else none) else none) else none) else none) else (shadowboxlaw07_BlockTurns.lo7 a2 y19 (shadowboxlaw07_BlockTurns.jo4 k l0 a2 t8 m0_3 m1_3) k7) l13_7 (IntKind.wrap .i64 (x16_7 + (1 : Int)))) else none)) = some r := H
    refine cs_seq ?_
    refine cs_block ?_
    refine cs_seq ?_
    refine cs_region (l := [_, _, _, _, _, _]) ?_
    refine lv (.int .u32 a2) ?_
    refine lv (.int .i64 x16_7) ?_
    refine lv (.int .u64 (IntKind.wrap .u64 x16_7)) ?_
    obtain ⟨q42, H⟩ := ite_need H
    refine ls_shiftr (k := .u32) (yk := .u64) (x := a2) (y := (IntKind.wrap .u64 x16_7)) rfl rfl (by kernel_rfl) (fun w => by kernel_rfl) q42 ?_
    obtain ⟨y43, hy44, H⟩ := lt_some H
    refine lv (.int .u32 (bits .and .u32 (shrv .u32 a2 (IntKind.wrap .u64 x16_7)) (1 : Int))) ?_
    refine ls_ren 95 (v := .int .u32 (bits .and .u32 (shrv .u32 a2 (IntKind.wrap .u64 x16_7)) (1 : Int))) (v' := .int .u32 y43) (by kernel_rfl) (by rw [hy44]) ?_
    refine lv (.bool (decide (y43 = (1 : Int)))) ?_
    refine ls_end ?_
    refine qn_then ?_
    by_cases q45 : y43 = (1 : Int)
    · replace H := ite_t q45 H
      refine cs_know (c := true) (dec_t q45) 96 (by kernel_rfl) ?_
      refine cs_true (by kernel_rfl) ?_
      refine cs_region (l := [_, _, _, _, _, _, _, _, _, _, _, _, _, _, _, _, _, _, _, _, _]) ?_
      refine lv (.slice A13_7 l13_7.length c13_7) ?_
      refine lv (.int .i64 y19) ?_
      refine lv (.int .i64 x16_7) ?_
      refine lv (.int .i64 (IntKind.wrap .i64 (y19 + x16_7))) ?_
      obtain ⟨y46, hy47, H⟩ := lt_some H
      refine lv (.int .i64 (IntKind.wrap .i64 (Int.tdiv (IntKind.wrap .i64 (y19 + x16_7)) (8 : Int)))) ?_
      refine ls_ren 101 (v := .int .i64 (IntKind.wrap .i64 (Int.tdiv (IntKind.wrap .i64 (y19 + x16_7)) (8 : Int)))) (v' := .int .i64 y46) (by kernel_rfl) (by rw [hy47]) ?_
      refine lv (.slice A13_7 l13_7.length c13_7) ?_
      refine lv (.int .i64 y19) ?_
      refine lv (.int .i64 x16_7) ?_
      refine lv (.int .i64 (IntKind.wrap .i64 (y19 + x16_7))) ?_
      obtain ⟨y48, hy49, H⟩ := lt_some H
      refine lv (.int .i64 (IntKind.wrap .i64 (Int.tdiv (IntKind.wrap .i64 (y19 + x16_7)) (8 : Int)))) ?_
      refine ls_ren 106 (v := .int .i64 (IntKind.wrap .i64 (Int.tdiv (IntKind.wrap .i64 (y19 + x16_7)) (8 : Int)))) (v' := .int .i64 y48) (by kernel_rfl) (by rw [hy49]) ?_
      obtain ⟨q50, H⟩ := ite_need H
      obtain ⟨q51, H⟩ := ite_need H
      refine ls_at (T := (Ec.int 5 .u8)) (tk := 2) (i := y48) (by exact rfl) q50 q51 ?_
      intro ad52 hA53
      refine ls_idxv (Ec.int 5 .u8) (A := A13_7) (c := c13_7) (l := l13_7) (k := .i64) (i := y48) (z := 1) (ad := ad52) rfl rfl (by kernel_rfl) hA53 rfl (by kernel_rfl) (by kernel_rfl) (by kernel_rfl) (by kernel_rfl) q50 q51 ?_
      refine ls_load (a0 := (ad52.add ((y48).toNat * 1))) (v := .int .u8 ((l13_7).getD (y48).toNat (0 : Int))) (de := (TypeDesc.int .u8)) rfl rfl (by kernel_rfl) rfl (by kernel_rfl) (by kernel_rfl) (by kernel_rfl) (fun w hs => (hs.rd (k := 2) (by exact rfl)).at hA53 (em_sub (Ec.int 5 .u8) l13_7 (i := (y48).toNat) (by have h0 : (0 : Int) ≤ y48 := q50; have h1 : y48 < (l13_7.length : Int) := q51; omega))) ?_
      refine lv (.int .i64 y19) ?_
      refine lv (.int .i64 x16_7) ?_
      refine lv (.int .i64 (IntKind.wrap .i64 (y19 + x16_7))) ?_
      obtain ⟨y54, hy55, H⟩ := lt_some H
      refine lv (.int .i64 (Int.tmod (IntKind.wrap .i64 (y19 + x16_7)) (8 : Int))) ?_
      refine ls_ren 112 (v := .int .i64 (Int.tmod (IntKind.wrap .i64 (y19 + x16_7)) (8 : Int))) (v' := .int .i64 y54) (by kernel_rfl) (by rw [hy55]) ?_
      refine lv (.int .u64 (IntKind.wrap .u64 y54)) ?_
      obtain ⟨q56, H⟩ := ite_need H
      obtain ⟨y57, hy58, H⟩ := lt_some H
      refine ls_shiftl (k := .u8) (yk := .u64) (x := (1 : Int)) (y := (IntKind.wrap .u64 y54)) rfl rfl (by kernel_rfl) (fun w => by kernel_rfl) q56 ?_
      refine ls_ren 114 (v := .int .u8 (shlv .u8 (1 : Int) (IntKind.wrap .u64 y54))) (v' := .int .u8 y57) (by kernel_rfl) (by rw [hy58]) ?_
      obtain ⟨y59, hy60, H⟩ := lt_some H
      refine lv (.int .u8 (bits .xor .u8 ((l13_7).getD (y48).toNat (0 : Int)) y57)) ?_
      refine ls_ren 115 (v := .int .u8 (bits .xor .u8 ((l13_7).getD (y48).toNat (0 : Int)) y57)) (v' := .int .u8 y59) (by kernel_rfl) (by rw [hy60]) ?_
      obtain ⟨q61, H⟩ := ite_need H
      obtain ⟨q62, H⟩ := ite_need H
      refine ls_at (T := (Ec.int 5 .u8)) (tk := 2) (i := y46) (by exact rfl) q61 q62 ?_
      intro ad63 hA64
      refine ls_idxv (Ec.int 5 .u8) (A := A13_7) (c := c13_7) (l := l13_7) (k := .i64) (i := y46) (z := 1) (ad := ad63) rfl rfl (by kernel_rfl) hA64 rfl (by kernel_rfl) (by kernel_rfl) (by kernel_rfl) (by kernel_rfl) q61 q62 ?_
      obtain ⟨y65, hy66, H⟩ := lt_some H
      refine ls_storem (Ec.int 5 .u8) (A := A13_7) (c := c13_7) (l := l13_7) (l' := y65) (ad := ad63) (off := ((y46).toNat * 1)) (v := .int .u8 y59) (vs := [Value.int .u8 y59]) 2 rfl rfl rfl hA64 (by kernel_rfl) (by kernel_rfl) (by kernel_rfl) (by exact rfl) (by kernel_rfl) (len1 _) (one_cons rfl one_nil) (hl_of (em_sub (Ec.int 5 .u8) l13_7 (i := (y46).toNat) (by have h0 : (0 : Int) ≤ y46 := q61; have h1 : y46 < (l13_7.length : Int) := q62; omega)) (len_eq (len1 _) (len1 _))) ((splc_em (Ec.int 5 .u8) l13_7 y59 (i := (y46).toNat) (by have h0 : (0 : Int) ≤ y46 := q61; have h1 : y46 < (l13_7.length : Int) := q62; omega)).trans (congrArg (em (Ec.int 5 .u8)) hy66)) (by rw [← hy66, List.length_set]) ?_
      refine ls_ren 13 (v := .slice A13_7 l13_7.length c13_7) (v' := .slice A13_7 y65.length c13_7) (by kernel_rfl) (by rw [← hy66, List.length_set]) ?_
      refine ls_ren 97 (v := .slice A13_7 l13_7.length c13_7) (v' := .slice A13_7 y65.length c13_7) (by kernel_rfl) (by rw [← hy66, List.length_set]) ?_
      refine ls_ren 102 (v := .slice A13_7 l13_7.length c13_7) (v' := .slice A13_7 y65.length c13_7) (by kernel_rfl) (by rw [← hy66, List.length_set]) ?_
      refine ls_end ?_
      refine qn_block ?_
      refine qn_then ?_
      refine cs_region (l := [_, _, _]) ?_
      refine lv (.int .i64 x16_7) ?_
      refine lv (.int .i64 (IntKind.wrap .i64 (x16_7 + (1 : Int)))) ?_
      refine lv (.int .i64 (IntKind.wrap .i64 (x16_7 + (1 : Int)))) ?_
      refine ls_end ?_
      refine qn_again k7 (sput (sput (sput (sput s0 0 (some (Ck.var 42 x3.1 (([Value.slice (some ⟨x3.2.2.1, 0, none⟩) x3.2.2.2.2 x3.2.2.2.1] ++ ([Value.map (some x3.2.1)] ++ ([Value.bool m0_3.2.2.1] ++ ([Value.int .i64 m0_3.2.2.2.1] ++ [Value.bool m0_3.2.2.2.2])))))))) 1 (some (Ck.mr T56 x3.2.1 x3.2.2.1 x3.2.2.2.1 x3.2.2.2.2 m1_3))) 2 (some (Ck.sl (Ec.int 5 .u8) A13_7 c13_7 y65))) 3 (some (Ck.var 30 g11 (([Value.int .i64 t8.1.1] ++ ([Value.int .i64 t8.1.2.1] ++ ([Value.int .i64 t8.1.2.2.1] ++ ([Value.int .u32 t8.1.2.2.2.1] ++ en (Value.int .u8) t8.1.2.2.2.2.1)))))))) (Nat.le_refl _) ⟨_, A13_7, c13_7, y65, (IntKind.wrap .i64 (x16_7 + (1 : Int))), fr_next (fr_next (fr_next (fr_next (fr_next (fr_next (fr_next (rfl) (by kernel_rfl)) (by kernel_rfl)) (by kernel_rfl)) (by kernel_rfl)) (by kernel_rfl)) (by kernel_rfl)) (by kernel_rfl), rfl, H⟩ (sub_put (by exact rfl) (sub_put (by exact rfl) (sub_put (by exact rfl) (sub_put (by exact rfl) (sub_nil _)))))
    replace H := ite_f q45 H
    refine cs_know (c := false) (dec_f q45) 96 (by kernel_rfl) ?_
    refine cs_false (by kernel_rfl) ?_
    refine cs_skip' ?_
    refine qn_block ?_
    refine qn_then ?_
    refine cs_region (l := [_, _, _]) ?_
    refine lv (.int .i64 x16_7) ?_
    refine lv (.int .i64 (IntKind.wrap .i64 (x16_7 + (1 : Int)))) ?_
    refine lv (.int .i64 (IntKind.wrap .i64 (x16_7 + (1 : Int)))) ?_
    refine ls_end ?_
    refine qn_again k7 (sput (sput (sput (sput s0 0 (some (Ck.var 42 x3.1 (([Value.slice (some ⟨x3.2.2.1, 0, none⟩) x3.2.2.2.2 x3.2.2.2.1] ++ ([Value.map (some x3.2.1)] ++ ([Value.bool m0_3.2.2.1] ++ ([Value.int .i64 m0_3.2.2.2.1] ++ [Value.bool m0_3.2.2.2.2])))))))) 1 (some (Ck.mr T56 x3.2.1 x3.2.2.1 x3.2.2.2.1 x3.2.2.2.2 m1_3))) 2 (some (Ck.sl (Ec.int 5 .u8) A13_7 c13_7 l13_7))) 3 (some (Ck.var 30 g11 (([Value.int .i64 t8.1.1] ++ ([Value.int .i64 t8.1.2.1] ++ ([Value.int .i64 t8.1.2.2.1] ++ ([Value.int .u32 t8.1.2.2.2.1] ++ en (Value.int .u8) t8.1.2.2.2.2.1)))))))) (Nat.le_refl _) ⟨_, A13_7, c13_7, l13_7, (IntKind.wrap .i64 (x16_7 + (1 : Int))), fr_next (fr_next (fr_next (fr_next (fr_next (fr_next (fr_next (rfl) (by kernel_rfl)) (by kernel_rfl)) (by kernel_rfl)) (by kernel_rfl)) (by kernel_rfl)) (by kernel_rfl)) (by kernel_rfl), rfl, H⟩ (sub_put (by exact rfl) (sub_put (by exact rfl) (sub_put (by exact rfl) (sub_put (by exact rfl) (sub_nil _)))))
  rintro f S ⟨fr4, A13_4, c13_4, l13_4, rfl, rfl, H⟩
  replace H : ((block_Write.f k ((), (), m0_3.2.2.1, m0_3.2.2.2.1, m0_3.2.2.2.2) m1_3 (5 : Int) (9 : Int) l13_4).bind fun t37 => (if t37.2.1 = (0 : Int) then (shadowboxlaw07_BlockTurns.jo5 k l0 a2 t8) ((), (), t37.2.2.1.2.2.1, t37.2.2.1.2.2.2.1, t37.2.2.1.2.2.2.2) t37.2.2.2 else some false)) = some r := H
  refine cs_cut (fun f S => ∃ (fR : Fr) (m0_5 : (Unit × Unit × Bool × Int × Bool)) (m1_5 : (List (Int × (Vc Int 512)) × List (Vc Int 512))), f = upd (upd (upd (upd fR 0 (.slice A0 l0.length c0)) 2 (.int .u32 a2)) 11 (.pointer (some ⟨x3.1, 0, none⟩))) 14 (.pointer (some ⟨g11, 0, none⟩)) ∧ S = sput (sput (sput s0 0 (some (Ck.var 42 x3.1 (([Value.slice (some ⟨x3.2.2.1, 0, none⟩) x3.2.2.2.2 x3.2.2.2.1] ++ ([Value.map (some x3.2.1)] ++ ([Value.bool m0_5.2.2.1] ++ ([Value.int .i64 m0_5.2.2.2.1] ++ [Value.bool m0_5.2.2.2.2])))))))) 1 (some (Ck.mr T56 x3.2.1 x3.2.2.1 x3.2.2.2.1 x3.2.2.2.2 m1_5))) 3 (some (Ck.var 30 g11 (([Value.int .i64 t8.1.1] ++ ([Value.int .i64 t8.1.2.1] ++ ([Value.int .i64 t8.1.2.2.1] ++ ([Value.int .u32 t8.1.2.2.2.1] ++ en (Value.int .u8) t8.1.2.2.2.2.1))))))) ∧ shadowboxlaw07_BlockTurns.jo5 k l0 a2 t8 m0_5 m1_5 = some r) ?_ ?_
  · skip
    refine cs_seq ?_
    refine cs_region (l := [_, _, _, _, _, _, _, _, _]) ?_
    refine lv (.pointer (some ⟨x3.1, 0, none⟩)) ?_
    refine lv (.slice A13_4 l13_4.length c13_4) ?_
    obtain ⟨t37, hc38, H⟩ := bind_some H
    refine ls_callb (fid := 7) (vals := #[.pointer (some ⟨x3.1, 0, none⟩), .int .i64 (5 : Int), .int .i64 (9 : Int), .slice A13_4 l13_4.length c13_4]) (X := Unit) (fun x => .tuple #[.agg ⟨([Value.int .i64 t37.1.1] ++ ([Value.int .i64 t37.1.2.1] ++ ([Value.int .i64 t37.1.2.2.1] ++ ([Value.int .u32 t37.1.2.2.2.1] ++ en (Value.int .u8) t37.1.2.2.2.2.1))))⟩, .int .i64 t37.2.1]) (fun x => stl [Ck.var 42 x3.1 (([Value.slice (some ⟨x3.2.2.1, 0, none⟩) x3.2.2.2.2 x3.2.2.2.1] ++ ([Value.map (some x3.2.1)] ++ ([Value.bool t37.2.2.1.2.2.1] ++ ([Value.int .i64 t37.2.2.1.2.2.2.1] ++ [Value.bool t37.2.2.1.2.2.2.2]))))), Ck.mr T56 x3.2.1 x3.2.2.1 x3.2.2.2.1 x3.2.2.2.2 t37.2.2.2]) [0, 1] [2] [Ck.var 42 x3.1 (([Value.slice (some ⟨x3.2.2.1, 0, none⟩) x3.2.2.2.2 x3.2.2.2.1] ++ ([Value.map (some x3.2.1)] ++ ([Value.bool m0_3.2.2.1] ++ ([Value.int .i64 m0_3.2.2.2.1] ++ [Value.bool m0_3.2.2.2.2]))))), Ck.mr T56 x3.2.1 x3.2.2.1 x3.2.2.2.1 x3.2.2.2.2 m1_3] [Ck.sl (Ec.int 5 .u8) A13_4 c13_4 l13_4] 4 rfl rfl (by kernel_rfl) (fun w => by kernel_rfl) ⟨by exact rfl, by exact rfl, trivial⟩ ⟨by exact rfl, trivial⟩ (by decide) (fun w hs hb => block_Write.calls k x3.1 x3.2.2.1 x3.2.2.2.2 x3.2.2.2.1 x3.2.1 ((), (), m0_3.2.2.1, m0_3.2.2.2.1, m0_3.2.2.2.2) m1_3 (5 : Int) (9 : Int) A13_4 c13_4 l13_4 t37 (lent b w [Ck.var 42 x3.1 (([Value.slice (some ⟨x3.2.2.1, 0, none⟩) x3.2.2.2.2 x3.2.2.2.1] ++ ([Value.map (some x3.2.1)] ++ ([Value.bool m0_3.2.2.1] ++ ([Value.int .i64 m0_3.2.2.2.1] ++ [Value.bool m0_3.2.2.2.2]))))), Ck.mr T56 x3.2.1 x3.2.2.1 x3.2.2.2.1 x3.2.2.2.2 m1_3] [Ck.sl (Ec.int 5 .u8) A13_4 c13_4 l13_4]) hb (hs.ror (k := 2) (by exact rfl) (.head _)) (hs.cap (k := 2) (by exact rfl)) hc38) ?_
    intro x39
    refine lv (.tuple #[.agg ⟨([Value.int .i64 t37.1.1] ++ ([Value.int .i64 t37.1.2.1] ++ ([Value.int .i64 t37.1.2.2.1] ++ ([Value.int .u32 t37.1.2.2.2.1] ++ en (Value.int .u8) t37.1.2.2.2.2.1))))⟩, .int .i64 t37.2.1]) ?_
    refine lv (.agg ⟨([Value.int .i64 t37.1.1] ++ ([Value.int .i64 t37.1.2.1] ++ ([Value.int .i64 t37.1.2.2.1] ++ ([Value.int .u32 t37.1.2.2.2.1] ++ en (Value.int .u8) t37.1.2.2.2.2.1))))⟩) ?_
    refine lv (.int .i64 t37.2.1) ?_
    refine ls_new rfl rfl (by kernel_rfl) 4 (fun g => .pointer (some ⟨g, 0, none⟩)) (.cells ⟨([Value.int .i64 (0 : Int)] ++ ([Value.int .i64 (0 : Int)] ++ ([Value.int .i64 (0 : Int)] ++ ([Value.int .u32 (0 : Int)] ++ en (Value.int .u8) (vrep 32 (0 : Int)).1))))⟩ 30) (fun w => by kernel_rfl) ?_
    intro g40
    refine ls_storec (g := g40) (off := 0) (v := .agg ⟨([Value.int .i64 t37.1.1] ++ ([Value.int .i64 t37.1.2.1] ++ ([Value.int .i64 t37.1.2.2.1] ++ ([Value.int .u32 t37.1.2.2.2.1] ++ en (Value.int .u8) t37.1.2.2.2.2.1))))⟩) (vs := ([Value.int .i64 t37.1.1] ++ ([Value.int .i64 t37.1.2.1] ++ ([Value.int .i64 t37.1.2.2.1] ++ ([Value.int .u32 t37.1.2.2.2.1] ++ en (Value.int .u8) t37.1.2.2.2.2.1))))) (cs := ([Value.int .i64 (0 : Int)] ++ ([Value.int .i64 (0 : Int)] ++ ([Value.int .i64 (0 : Int)] ++ ([Value.int .u32 (0 : Int)] ++ en (Value.int .u8) (vrep 32 (0 : Int)).1))))) (ty := 30) 4 rfl rfl rfl (by kernel_rfl) (by kernel_rfl) (by kernel_rfl) (by exact rfl) (by kernel_rfl) (len_app (len1 _) (len_app (len1 _) (len_app (len1 _) (len_app (len1 _) (len_en _ t37.1.2.2.2.2))))) (one_app (one_cons rfl one_nil) (one_app (one_cons rfl one_nil) (one_app (one_cons rfl one_nil) (one_app (one_cons rfl one_nil) (one_en (fun _ => rfl) _))))) (hl_of (Sub4.all _) (len_eq (len_app (len1 _) (len_app (len1 _) (len_app (len1 _) (len_app (len1 _) (len_en _ t37.1.2.2.2.2))))) (len_app (len1 _) (len_app (len1 _) (len_app (len1 _) (len_app (len1 _) (len_en _ (vrep 32 (0 : Int))))))))) (cs' := ([Value.int .i64 t37.1.1] ++ ([Value.int .i64 t37.1.2.1] ++ ([Value.int .i64 t37.1.2.2.1] ++ ([Value.int .u32 t37.1.2.2.2.1] ++ en (Value.int .u8) t37.1.2.2.2.2.1))))) (splc_all (len_eq (len_app (len1 _) (len_app (len1 _) (len_app (len1 _) (len_app (len1 _) (len_en _ t37.1.2.2.2.2))))) (len_app (len1 _) (len_app (len1 _) (len_app (len1 _) (len_app (len1 _) (len_en _ (vrep 32 (0 : Int))))))))) ?_
    refine lv (.int .i64 t37.2.1) ?_
    refine ls_end ?_
    refine qn_then ?_
    refine cs_seq ?_
    refine cs_region (l := [_, _]) ?_
    refine lv (.int .i64 t37.2.1) ?_
    refine lv (.bool (!decide (t37.2.1 = (0 : Int)))) ?_
    refine ls_end ?_
    refine qn_then ?_
    by_cases q41 : t37.2.1 = (0 : Int)
    · replace H := ite_t q41 H
      refine cs_know (c := false) (congrArg Bool.not (dec_t q41)) 124 (by kernel_rfl) ?_
      refine cs_false (by kernel_rfl) ?_
      refine cs_skip' ?_
      refine qn_meet (sput (sput (sput s0 0 (some (Ck.var 42 x3.1 (([Value.slice (some ⟨x3.2.2.1, 0, none⟩) x3.2.2.2.2 x3.2.2.2.1] ++ ([Value.map (some x3.2.1)] ++ ([Value.bool t37.2.2.1.2.2.1] ++ ([Value.int .i64 t37.2.2.1.2.2.2.1] ++ [Value.bool t37.2.2.1.2.2.2.2])))))))) 1 (some (Ck.mr T56 x3.2.1 x3.2.2.1 x3.2.2.2.1 x3.2.2.2.2 t37.2.2.2))) 3 (some (Ck.var 30 g11 (([Value.int .i64 t8.1.1] ++ ([Value.int .i64 t8.1.2.1] ++ ([Value.int .i64 t8.1.2.2.1] ++ ([Value.int .u32 t8.1.2.2.2.1] ++ en (Value.int .u8) t8.1.2.2.2.2.1)))))))) ⟨_, ((), (), t37.2.2.1.2.2.1, t37.2.2.1.2.2.2.1, t37.2.2.1.2.2.2.2), t37.2.2.2, fr_next (fr_next (fr_next (fr_next (rfl) (by kernel_rfl)) (by kernel_rfl)) (by kernel_rfl)) (by kernel_rfl), rfl, H⟩ (sub_put (by exact rfl) (sub_put (by exact rfl) (sub_put (by exact rfl) (sub_nil _))))
    replace H := ite_f q41 H
    refine cs_know (c := true) (congrArg Bool.not (dec_f q41)) 124 (by kernel_rfl) ?_
    refine cs_true (by kernel_rfl) ?_
    refine cs_seq ?_
    refine cs_region (l := [_]) ?_
    refine lv (.bool false) ?_
    refine ls_end ?_
    refine qn_then ?_
    refine cs_ret' ?_
    refine qr_then ?_
    obtain rfl := Option.some.inj H
    refine qr_res (rs := [_]) rfl (fun w' hs => ⟨[.bool false], (res_tmp (by kernel_rfl) (.nil)), (), rfl, hs.pick (ts := []) (cs := []) trivial (by decide)⟩)
  rintro f S ⟨fr5, m0_5, m1_5, rfl, rfl, H⟩
  replace H : ((block_Read.f k ((), (), m0_5.2.2.1, m0_5.2.2.2.1, m0_5.2.2.2.2) m1_5 t8.1).bind fun t21 => (disk_Disk_Crash.f k ((), (), m0_5.2.2.1, m0_5.2.2.2.1, m0_5.2.2.2.2) m1_5 ([] : List Int)).bind fun t24 => (block_Read.f k ((), (), t24.1.1.2.2.1, t24.1.1.2.2.2.1, t24.1.1.2.2.2.2) t24.1.2 t8.1).bind fun t27 => (if t24.2 = (0 : Int) then (if t27.2 = (0 : Int) then (if ((strOfNums t27.1).toList == (strOfNums l0).toList) = true then (shadowboxlaw07_BlockTurns.jo6 l0 a2 t21) else some false) else some false) else some false)) = some r := H
  refine cs_seq ?_
  refine cs_region (l := [_, _, _, _, _, _, _, _]) ?_
  refine lv (.pointer (some ⟨x3.1, 0, none⟩)) ?_
  refine ls_loadagg (a := ⟨g11, 0, none⟩) (sub := ([Value.int .i64 t8.1.1] ++ ([Value.int .i64 t8.1.2.1] ++ ([Value.int .i64 t8.1.2.2.1] ++ ([Value.int .u32 t8.1.2.2.2.1] ++ en (Value.int .u8) t8.1.2.2.2.2.1))))) rfl rfl (by kernel_rfl) rfl (by kernel_rfl) (by kernel_rfl) (by kernel_rfl) (len_app (len1 _) (len_app (len1 _) (len_app (len1 _) (len_app (len1 _) (len_en _ t8.1.2.2.2.2))))) (fun w hs => (hs.vars (k := 3) (by exact rfl) (Sub4.all _))) ?_
  obtain ⟨t21, hc22, H⟩ := bind_some H
  refine ls_callb (fid := 9) (vals := #[.pointer (some ⟨x3.1, 0, none⟩), .agg ⟨([Value.int .i64 t8.1.1] ++ ([Value.int .i64 t8.1.2.1] ++ ([Value.int .i64 t8.1.2.2.1] ++ ([Value.int .u32 t8.1.2.2.2.1] ++ en (Value.int .u8) t8.1.2.2.2.2.1))))⟩]) (X := (Option Addr × Nat)) (fun x => .tuple #[.slice x.1 t21.1.length x.2, .int .i64 t21.2]) (fun x => stl [Ck.var 42 x3.1 (([Value.slice (some ⟨x3.2.2.1, 0, none⟩) x3.2.2.2.2 x3.2.2.2.1] ++ ([Value.map (some x3.2.1)] ++ ([Value.bool m0_5.2.2.1] ++ ([Value.int .i64 m0_5.2.2.2.1] ++ [Value.bool m0_5.2.2.2.2]))))), Ck.mr T56 x3.2.1 x3.2.2.1 x3.2.2.2.1 x3.2.2.2.2 m1_5, Ck.sl (Ec.int 5 .u8) x.1 x.2 t21.1]) [0, 1] [] [Ck.var 42 x3.1 (([Value.slice (some ⟨x3.2.2.1, 0, none⟩) x3.2.2.2.2 x3.2.2.2.1] ++ ([Value.map (some x3.2.1)] ++ ([Value.bool m0_5.2.2.1] ++ ([Value.int .i64 m0_5.2.2.2.1] ++ [Value.bool m0_5.2.2.2.2]))))), Ck.mr T56 x3.2.1 x3.2.2.1 x3.2.2.2.1 x3.2.2.2.2 m1_5] [] 4 rfl rfl (by kernel_rfl) (fun w => by kernel_rfl) ⟨by exact rfl, by exact rfl, trivial⟩ trivial (by decide) (fun w hs hb => block_Read.calls k x3.1 x3.2.2.1 x3.2.2.2.2 x3.2.2.2.1 x3.2.1 ((), (), m0_5.2.2.1, m0_5.2.2.2.1, m0_5.2.2.2.2) m1_5 t8.1 t21 (lent b w [Ck.var 42 x3.1 (([Value.slice (some ⟨x3.2.2.1, 0, none⟩) x3.2.2.2.2 x3.2.2.2.1] ++ ([Value.map (some x3.2.1)] ++ ([Value.bool m0_5.2.2.1] ++ ([Value.int .i64 m0_5.2.2.2.1] ++ [Value.bool m0_5.2.2.2.2]))))), Ck.mr T56 x3.2.1 x3.2.2.1 x3.2.2.2.1 x3.2.2.2.2 m1_5] []) hb  hc22) ?_
  intro x23
  refine lv (.tuple #[.slice x23.1 t21.1.length x23.2, .int .i64 t21.2]) ?_
  refine lv (.slice x23.1 t21.1.length x23.2) ?_
  refine lv (.int .i64 t21.2) ?_
  refine lv (.slice x23.1 t21.1.length x23.2) ?_
  refine lv (.int .i64 t21.2) ?_
  refine ls_end ?_
  refine qn_then ?_
  refine cs_seq ?_
  refine cs_region (l := [_, _, _, _, _, _, _]) ?_
  refine lv (.pointer (some ⟨x3.1, 0, none⟩)) ?_
  obtain ⟨t24, hc25, H⟩ := bind_some H
  refine ls_callb (fid := 10) (vals := #[.pointer (some ⟨x3.1, 0, none⟩), .slice none ([] : List Int).length 0]) (X := Nat × Nat × Nat × Nat × Nat) (fun x => .tuple #[.pointer (some ⟨x.1, 0, none⟩), .int .i64 t24.2]) (fun x => stl [Ck.var 42 x3.1 (([Value.slice (some ⟨x3.2.2.1, 0, none⟩) x3.2.2.2.2 x3.2.2.2.1] ++ ([Value.map (some x3.2.1)] ++ ([Value.bool m0_5.2.2.1] ++ ([Value.int .i64 m0_5.2.2.2.1] ++ [Value.bool m0_5.2.2.2.2]))))), Ck.mr T56 x3.2.1 x3.2.2.1 x3.2.2.2.1 x3.2.2.2.2 m1_5, Ck.var 42 x.1 (([Value.slice (some ⟨x.2.2.1, 0, none⟩) x.2.2.2.2 x.2.2.2.1] ++ ([Value.map (some x.2.1)] ++ ([Value.bool t24.1.1.2.2.1] ++ ([Value.int .i64 t24.1.1.2.2.2.1] ++ [Value.bool t24.1.1.2.2.2.2]))))), Ck.mr T56 x.2.1 x.2.2.1 x.2.2.2.1 x.2.2.2.2 t24.1.2]) [0, 1] [] [Ck.var 42 x3.1 (([Value.slice (some ⟨x3.2.2.1, 0, none⟩) x3.2.2.2.2 x3.2.2.2.1] ++ ([Value.map (some x3.2.1)] ++ ([Value.bool m0_5.2.2.1] ++ ([Value.int .i64 m0_5.2.2.2.1] ++ [Value.bool m0_5.2.2.2.2]))))), Ck.mr T56 x3.2.1 x3.2.2.1 x3.2.2.2.1 x3.2.2.2.2 m1_5] [] 5 rfl rfl (by kernel_rfl) (fun w => by kernel_rfl) ⟨by exact rfl, by exact rfl, trivial⟩ trivial (by decide) (fun w hs hb => disk_Disk_Crash.calls k x3.1 x3.2.2.1 x3.2.2.2.2 x3.2.2.2.1 x3.2.1 ((), (), m0_5.2.2.1, m0_5.2.2.2.1, m0_5.2.2.2.2) m1_5 none 0 ([] : List Int) t24 (lent b w [Ck.var 42 x3.1 (([Value.slice (some ⟨x3.2.2.1, 0, none⟩) x3.2.2.2.2 x3.2.2.2.1] ++ ([Value.map (some x3.2.1)] ++ ([Value.bool m0_5.2.2.1] ++ ([Value.int .i64 m0_5.2.2.2.1] ++ [Value.bool m0_5.2.2.2.2]))))), Ck.mr T56 x3.2.1 x3.2.2.1 x3.2.2.2.1 x3.2.2.2.2 m1_5] []) hb (Ro.nil _ _) (Nat.le_refl 0) hc25) ?_
  intro x26
  refine lv (.tuple #[.pointer (some ⟨x26.1, 0, none⟩), .int .i64 t24.2]) ?_
  refine lv (.pointer (some ⟨x26.1, 0, none⟩)) ?_
  refine lv (.int .i64 t24.2) ?_
  refine lv (.pointer (some ⟨x26.1, 0, none⟩)) ?_
  refine lv (.int .i64 t24.2) ?_
  refine ls_end ?_
  refine qn_then ?_
  refine cs_seq ?_
  refine cs_region (l := [_, _, _, _, _, _, _, _]) ?_
  refine lv (.pointer (some ⟨x26.1, 0, none⟩)) ?_
  refine ls_loadagg (a := ⟨g11, 0, none⟩) (sub := ([Value.int .i64 t8.1.1] ++ ([Value.int .i64 t8.1.2.1] ++ ([Value.int .i64 t8.1.2.2.1] ++ ([Value.int .u32 t8.1.2.2.2.1] ++ en (Value.int .u8) t8.1.2.2.2.2.1))))) rfl rfl (by kernel_rfl) rfl (by kernel_rfl) (by kernel_rfl) (by kernel_rfl) (len_app (len1 _) (len_app (len1 _) (len_app (len1 _) (len_app (len1 _) (len_en _ t8.1.2.2.2.2))))) (fun w hs => (hs.vars (k := 3) (by exact rfl) (Sub4.all _))) ?_
  obtain ⟨t27, hc28, H⟩ := bind_some H
  refine ls_callb (fid := 9) (vals := #[.pointer (some ⟨x26.1, 0, none⟩), .agg ⟨([Value.int .i64 t8.1.1] ++ ([Value.int .i64 t8.1.2.1] ++ ([Value.int .i64 t8.1.2.2.1] ++ ([Value.int .u32 t8.1.2.2.2.1] ++ en (Value.int .u8) t8.1.2.2.2.2.1))))⟩]) (X := (Option Addr × Nat)) (fun x => .tuple #[.slice x.1 t27.1.length x.2, .int .i64 t27.2]) (fun x => stl [Ck.var 42 x26.1 (([Value.slice (some ⟨x26.2.2.1, 0, none⟩) x26.2.2.2.2 x26.2.2.2.1] ++ ([Value.map (some x26.2.1)] ++ ([Value.bool t24.1.1.2.2.1] ++ ([Value.int .i64 t24.1.1.2.2.2.1] ++ [Value.bool t24.1.1.2.2.2.2]))))), Ck.mr T56 x26.2.1 x26.2.2.1 x26.2.2.2.1 x26.2.2.2.2 t24.1.2, Ck.sl (Ec.int 5 .u8) x.1 x.2 t27.1]) [5, 6] [] [Ck.var 42 x26.1 (([Value.slice (some ⟨x26.2.2.1, 0, none⟩) x26.2.2.2.2 x26.2.2.2.1] ++ ([Value.map (some x26.2.1)] ++ ([Value.bool t24.1.1.2.2.1] ++ ([Value.int .i64 t24.1.1.2.2.2.1] ++ [Value.bool t24.1.1.2.2.2.2]))))), Ck.mr T56 x26.2.1 x26.2.2.1 x26.2.2.2.1 x26.2.2.2.2 t24.1.2] [] 7 rfl rfl (by kernel_rfl) (fun w => by kernel_rfl) ⟨by exact rfl, by exact rfl, trivial⟩ trivial (by decide) (fun w hs hb => block_Read.calls k x26.1 x26.2.2.1 x26.2.2.2.2 x26.2.2.2.1 x26.2.1 ((), (), t24.1.1.2.2.1, t24.1.1.2.2.2.1, t24.1.1.2.2.2.2) t24.1.2 t8.1 t27 (lent b w [Ck.var 42 x26.1 (([Value.slice (some ⟨x26.2.2.1, 0, none⟩) x26.2.2.2.2 x26.2.2.2.1] ++ ([Value.map (some x26.2.1)] ++ ([Value.bool t24.1.1.2.2.1] ++ ([Value.int .i64 t24.1.1.2.2.2.1] ++ [Value.bool t24.1.1.2.2.2.2]))))), Ck.mr T56 x26.2.1 x26.2.2.1 x26.2.2.2.1 x26.2.2.2.2 t24.1.2] []) hb  hc28) ?_
  intro x29
  refine lv (.tuple #[.slice x29.1 t27.1.length x29.2, .int .i64 t27.2]) ?_
  refine lv (.slice x29.1 t27.1.length x29.2) ?_
  refine lv (.int .i64 t27.2) ?_
  refine lv (.slice x29.1 t27.1.length x29.2) ?_
  refine lv (.int .i64 t27.2) ?_
  refine ls_end ?_
  refine qn_then ?_
  refine cs_cut (fun f S => ∃ (fR : Fr), f = upd (upd (upd (upd fR 0 (.slice A0 l0.length c0)) 2 (.int .u32 a2)) 12 (.int .i64 t21.2)) 19 (.slice x23.1 t21.1.length x23.2) ∧ S = sput s0 4 (some (Ck.sl (Ec.int 5 .u8) x23.1 x23.2 t21.1)) ∧ shadowboxlaw07_BlockTurns.jo6 l0 a2 t21 = some r) ?_ ?_
  · skip
    refine cs_seq ?_
    refine cs_region (l := [_, _, _, _, _, _, _, _, _, _, _, _, _]) ?_
    refine lv (.int .i64 t24.2) ?_
    refine lv (.bool (!decide (t24.2 = (0 : Int)))) ?_
    refine lv (.bool (!decide (t24.2 = (0 : Int)))) ?_
    by_cases q34 : t24.2 = (0 : Int)
    · replace H := ite_t q34 H
      refine ls_know (c := false) (congrArg Bool.not (dec_t q34)) 144 (by kernel_rfl) ?_
      refine ls_on (j := 2) (t := 144) (b := false) rfl rfl (by kernel_rfl) (by kernel_rfl) ?_
      refine lv (.int .i64 t27.2) ?_
      refine ls_on (j := 2) (t := 144) (b := false) rfl rfl (by kernel_rfl) (by kernel_rfl) ?_
      refine lv (.bool (!decide (t27.2 = (0 : Int)))) ?_
      refine lv (.bool (!decide (t27.2 = (0 : Int)))) ?_
      refine lv (.bool (!decide (t27.2 = (0 : Int)))) ?_
      by_cases q35 : t27.2 = (0 : Int)
      · replace H := ite_t q35 H
        refine ls_know (c := false) (congrArg Bool.not (dec_t q35)) 148 (by kernel_rfl) ?_
        refine ls_on (j := 6) (t := 148) (b := false) rfl rfl (by kernel_rfl) (by kernel_rfl) ?_
        refine lv (.slice x29.1 t27.1.length x29.2) ?_
        refine ls_on (j := 6) (t := 148) (b := false) rfl rfl (by kernel_rfl) (by kernel_rfl) ?_
        refine ls_str (A := x29.1) (c := x29.2) (e := 5) (l := t27.1) rfl rfl (by kernel_rfl) rfl (by kernel_rfl) (by kernel_rfl) (by kernel_rfl) (by kernel_rfl) (fun w hs => (hs.rd (k := 7) (by exact rfl))) ?_
        refine ls_on (j := 6) (t := 148) (b := false) rfl rfl (by kernel_rfl) (by kernel_rfl) ?_
        refine lv (.slice A0 l0.length c0) ?_
        refine ls_on (j := 6) (t := 148) (b := false) rfl rfl (by kernel_rfl) (by kernel_rfl) ?_
        refine ls_str (A := A0) (c := c0) (e := 5) (l := l0) rfl rfl (by kernel_rfl) rfl (by kernel_rfl) (by kernel_rfl) (by kernel_rfl) (by kernel_rfl) (fun w hs => (hs.old R0)) ?_
        refine ls_on (j := 6) (t := 148) (b := false) rfl rfl (by kernel_rfl) (by kernel_rfl) ?_
        refine lv (.bool (!((strOfNums t27.1).toList == (strOfNums l0).toList))) ?_
        refine lv (.bool (!((strOfNums t27.1).toList == (strOfNums l0).toList))) ?_
        refine ls_end ?_
        refine qn_then ?_
        by_cases q36 : ((strOfNums t27.1).toList == (strOfNums l0).toList) = true
        · replace H := ite_t q36 H
          refine cs_know (c := false) (congrArg Bool.not (q36)) 154 (by kernel_rfl) ?_
          refine cs_false (by kernel_rfl) ?_
          refine cs_skip' ?_
          refine qn_meet (sput s0 4 (some (Ck.sl (Ec.int 5 .u8) x23.1 x23.2 t21.1))) ⟨_, fr_next (fr_next (fr_next (fr_next (rfl) (by kernel_rfl)) (by kernel_rfl)) (by kernel_rfl)) (by kernel_rfl), rfl, H⟩ (sub_put (by exact rfl) (sub_nil _))
        replace H := ite_f q36 H
        refine cs_know (c := true) (congrArg Bool.not (Bool.eq_false_iff.mpr q36)) 154 (by kernel_rfl) ?_
        refine cs_true (by kernel_rfl) ?_
        refine cs_seq ?_
        refine cs_region (l := [_]) ?_
        refine lv (.bool false) ?_
        refine ls_end ?_
        refine qn_then ?_
        refine cs_ret' ?_
        refine qr_then ?_
        obtain rfl := Option.some.inj H
        refine qr_res (rs := [_]) rfl (fun w' hs => ⟨[.bool false], (res_tmp (by kernel_rfl) (.nil)), (), rfl, hs.pick (ts := []) (cs := []) trivial (by decide)⟩)
      replace H := ite_f q35 H
      refine ls_know (c := true) (congrArg Bool.not (dec_f q35)) 148 (by kernel_rfl) ?_
      refine lofx 6 148 false true ?_
      refine lofx 6 148 false true ?_
      refine lofx 6 148 false true ?_
      refine lofx 6 148 false true ?_
      refine lofx 6 148 false true ?_
      refine lv (.bool true) ?_
      refine ls_end ?_
      refine qn_then ?_
      refine cs_true (by kernel_rfl) ?_
      refine cs_seq ?_
      refine cs_region (l := [_]) ?_
      refine lv (.bool false) ?_
      refine ls_end ?_
      refine qn_then ?_
      refine cs_ret' ?_
      refine qr_then ?_
      obtain rfl := Option.some.inj H
      refine qr_res (rs := [_]) rfl (fun w' hs => ⟨[.bool false], (res_tmp (by kernel_rfl) (.nil)), (), rfl, hs.pick (ts := []) (cs := []) trivial (by decide)⟩)
    replace H := ite_f q34 H
    refine ls_know (c := true) (congrArg Bool.not (dec_f q34)) 144 (by kernel_rfl) ?_
    refine lofx 2 144 false true ?_
    refine lofx 2 144 false true ?_
    refine lv (.bool true) ?_
    refine lv (.bool true) ?_
    refine lofx 6 148 false true ?_
    refine lofx 6 148 false true ?_
    refine lofx 6 148 false true ?_
    refine lofx 6 148 false true ?_
    refine lofx 6 148 false true ?_
    refine lv (.bool true) ?_
    refine ls_end ?_
    refine qn_then ?_
    refine cs_true (by kernel_rfl) ?_
    refine cs_seq ?_
    refine cs_region (l := [_]) ?_
    refine lv (.bool false) ?_
    refine ls_end ?_
    refine qn_then ?_
    refine cs_ret' ?_
    refine qr_then ?_
    obtain rfl := Option.some.inj H
    refine qr_res (rs := [_]) rfl (fun w' hs => ⟨[.bool false], (res_tmp (by kernel_rfl) (.nil)), (), rfl, hs.pick (ts := []) (cs := []) trivial (by decide)⟩)
  rintro f S ⟨fr6, rfl, rfl, H⟩
  replace H : ((if a2 = (0 : Int) then (if t21.2 = (0 : Int) then (if ((strOfNums t21.1).toList == (strOfNums l0).toList) = true then some true else some false) else some false) else (if t21.2 = (12 : Int) then some (decide ((t21.1.length : Int) = (0 : Int))) else some false))) = some r := H
  refine cs_seq ?_
  refine cs_region (l := [_, _, _, _, _, _, _, _, _, _, _, _, _, _, _, _, _, _, _, _, _, _, _, _, _, _, _]) ?_
  refine lv (.int .u32 a2) ?_
  refine lv (.bool (decide (a2 = (0 : Int)))) ?_
  refine lv (.bool (decide (a2 = (0 : Int)))) ?_
  by_cases q30 : a2 = (0 : Int)
  · replace H := ite_t q30 H
    refine ls_know (c := true) (dec_t q30) 157 (by kernel_rfl) ?_
    refine ls_on (j := 2) (t := 157) (b := true) rfl rfl (by kernel_rfl) (by kernel_rfl) ?_
    refine lv (.int .i64 t21.2) ?_
    refine ls_on (j := 2) (t := 157) (b := true) rfl rfl (by kernel_rfl) (by kernel_rfl) ?_
    refine lv (.bool (decide (t21.2 = (0 : Int)))) ?_
    refine lv (.bool (decide (t21.2 = (0 : Int)))) ?_
    refine lv (.bool (decide (t21.2 = (0 : Int)))) ?_
    by_cases q31 : t21.2 = (0 : Int)
    · replace H := ite_t q31 H
      refine ls_know (c := true) (dec_t q31) 161 (by kernel_rfl) ?_
      refine ls_on (j := 6) (t := 161) (b := true) rfl rfl (by kernel_rfl) (by kernel_rfl) ?_
      refine lv (.slice x23.1 t21.1.length x23.2) ?_
      refine ls_on (j := 6) (t := 161) (b := true) rfl rfl (by kernel_rfl) (by kernel_rfl) ?_
      refine ls_str (A := x23.1) (c := x23.2) (e := 5) (l := t21.1) rfl rfl (by kernel_rfl) rfl (by kernel_rfl) (by kernel_rfl) (by kernel_rfl) (by kernel_rfl) (fun w hs => (hs.rd (k := 4) (by exact rfl))) ?_
      refine ls_on (j := 6) (t := 161) (b := true) rfl rfl (by kernel_rfl) (by kernel_rfl) ?_
      refine lv (.slice A0 l0.length c0) ?_
      refine ls_on (j := 6) (t := 161) (b := true) rfl rfl (by kernel_rfl) (by kernel_rfl) ?_
      refine ls_str (A := A0) (c := c0) (e := 5) (l := l0) rfl rfl (by kernel_rfl) rfl (by kernel_rfl) (by kernel_rfl) (by kernel_rfl) (by kernel_rfl) (fun w hs => (hs.old R0)) ?_
      refine ls_on (j := 6) (t := 161) (b := true) rfl rfl (by kernel_rfl) (by kernel_rfl) ?_
      refine lv (.bool ((strOfNums t21.1).toList == (strOfNums l0).toList)) ?_
      refine lv (.bool ((strOfNums t21.1).toList == (strOfNums l0).toList)) ?_
      refine lv (.bool ((strOfNums t21.1).toList == (strOfNums l0).toList)) ?_
      by_cases q32 : ((strOfNums t21.1).toList == (strOfNums l0).toList) = true
      · replace H := ite_t q32 H
        refine ls_know (c := true) (q32) 168 (by kernel_rfl) ?_
        refine lofx 13 168 false true ?_
        refine lofx 13 168 false true ?_
        refine lofx 13 168 false true ?_
        refine ls_offu (j := 16) (t := 171) (b := true) rfl rfl (by kernel_rfl) (by kernel_rfl) rfl (by kernel_rfl) ?_
        refine ls_offu (j := 16) (t := 171) (b := true) rfl rfl (by kernel_rfl) (by kernel_rfl) rfl (by kernel_rfl) ?_
        refine lofx 13 168 false true ?_
        refine lofx 13 168 false true ?_
        refine ls_offu (j := 20) (t := 175) (b := true) rfl rfl (by kernel_rfl) (by kernel_rfl) rfl (by kernel_rfl) ?_
        refine ls_offu (j := 20) (t := 175) (b := true) rfl rfl (by kernel_rfl) (by kernel_rfl) rfl (by kernel_rfl) ?_
        refine ls_offu (j := 20) (t := 175) (b := true) rfl rfl (by kernel_rfl) (by kernel_rfl) rfl (by kernel_rfl) ?_
        refine lofx 13 168 false true ?_
        refine lv (.bool true) ?_
        refine lv (.bool true) ?_
        refine ls_end ?_
        refine qn_then ?_
        refine cs_ret' ?_
        obtain rfl := Option.some.inj H
        refine qr_res (rs := [_]) rfl (fun w' hs => ⟨[.bool true], (res_tmp (by kernel_rfl) (.nil)), (), rfl, hs.pick (ts := []) (cs := []) trivial (by decide)⟩)
      replace H := ite_f q32 H
      refine ls_know (c := false) (Bool.eq_false_iff.mpr q32) 168 (by kernel_rfl) ?_
      refine ls_on (j := 13) (t := 168) (b := false) rfl rfl (by kernel_rfl) (by kernel_rfl) ?_
      refine lv (.int .u32 a2) ?_
      refine ls_on (j := 13) (t := 168) (b := false) rfl rfl (by kernel_rfl) (by kernel_rfl) ?_
      refine lv (.bool (!decide (a2 = (0 : Int)))) ?_
      refine ls_on (j := 13) (t := 168) (b := false) rfl rfl (by kernel_rfl) (by kernel_rfl) ?_
      refine lv (.bool (!decide (a2 = (0 : Int)))) ?_
      refine ls_know (c := false) (congrArg Bool.not (dec_t q30)) 171 (by kernel_rfl) ?_
      refine lofx 16 171 true false ?_
      refine lofx 16 171 true false ?_
      refine ls_on (j := 13) (t := 168) (b := false) rfl rfl (by kernel_rfl) (by kernel_rfl) ?_
      refine lv (.bool false) ?_
      refine ls_on (j := 13) (t := 168) (b := false) rfl rfl (by kernel_rfl) (by kernel_rfl) ?_
      refine lv (.bool false) ?_
      refine lofx 20 175 true false ?_
      refine lofx 20 175 true false ?_
      refine lofx 20 175 true false ?_
      refine ls_on (j := 13) (t := 168) (b := false) rfl rfl (by kernel_rfl) (by kernel_rfl) ?_
      refine lv (.bool false) ?_
      refine lv (.bool false) ?_
      refine lv (.bool false) ?_
      refine ls_end ?_
      refine qn_then ?_
      refine cs_ret' ?_
      obtain rfl := Option.some.inj H
      refine qr_res (rs := [_]) rfl (fun w' hs => ⟨[.bool false], (res_tmp (by kernel_rfl) (.nil)), (), rfl, hs.pick (ts := []) (cs := []) trivial (by decide)⟩)
    replace H := ite_f q31 H
    refine ls_know (c := false) (dec_f q31) 161 (by kernel_rfl) ?_
    refine lofx 6 161 true false ?_
    refine lofx 6 161 true false ?_
    refine lofx 6 161 true false ?_
    refine lofx 6 161 true false ?_
    refine lofx 6 161 true false ?_
    refine lv (.bool false) ?_
    refine lv (.bool false) ?_
    refine ls_on (j := 13) (t := 168) (b := false) rfl rfl (by kernel_rfl) (by kernel_rfl) ?_
    refine lv (.int .u32 a2) ?_
    refine ls_on (j := 13) (t := 168) (b := false) rfl rfl (by kernel_rfl) (by kernel_rfl) ?_
    refine lv (.bool (!decide (a2 = (0 : Int)))) ?_
    refine ls_on (j := 13) (t := 168) (b := false) rfl rfl (by kernel_rfl) (by kernel_rfl) ?_
    refine lv (.bool (!decide (a2 = (0 : Int)))) ?_
    refine ls_know (c := false) (congrArg Bool.not (dec_t q30)) 171 (by kernel_rfl) ?_
    refine lofx 16 171 true false ?_
    refine lofx 16 171 true false ?_
    refine ls_on (j := 13) (t := 168) (b := false) rfl rfl (by kernel_rfl) (by kernel_rfl) ?_
    refine lv (.bool false) ?_
    refine ls_on (j := 13) (t := 168) (b := false) rfl rfl (by kernel_rfl) (by kernel_rfl) ?_
    refine lv (.bool false) ?_
    refine lofx 20 175 true false ?_
    refine lofx 20 175 true false ?_
    refine lofx 20 175 true false ?_
    refine ls_on (j := 13) (t := 168) (b := false) rfl rfl (by kernel_rfl) (by kernel_rfl) ?_
    refine lv (.bool false) ?_
    refine lv (.bool false) ?_
    refine lv (.bool false) ?_
    refine ls_end ?_
    refine qn_then ?_
    refine cs_ret' ?_
    obtain rfl := Option.some.inj H
    refine qr_res (rs := [_]) rfl (fun w' hs => ⟨[.bool false], (res_tmp (by kernel_rfl) (.nil)), (), rfl, hs.pick (ts := []) (cs := []) trivial (by decide)⟩)
  replace H := ite_f q30 H
  refine ls_know (c := false) (dec_f q30) 157 (by kernel_rfl) ?_
  refine lofx 2 157 true false ?_
  refine lofx 2 157 true false ?_
  refine lv (.bool false) ?_
  refine lv (.bool false) ?_
  refine lofx 6 161 true false ?_
  refine lofx 6 161 true false ?_
  refine lofx 6 161 true false ?_
  refine lofx 6 161 true false ?_
  refine lofx 6 161 true false ?_
  refine lv (.bool false) ?_
  refine lv (.bool false) ?_
  refine ls_on (j := 13) (t := 168) (b := false) rfl rfl (by kernel_rfl) (by kernel_rfl) ?_
  refine lv (.int .u32 a2) ?_
  refine ls_on (j := 13) (t := 168) (b := false) rfl rfl (by kernel_rfl) (by kernel_rfl) ?_
  refine lv (.bool (!decide (a2 = (0 : Int)))) ?_
  refine ls_on (j := 13) (t := 168) (b := false) rfl rfl (by kernel_rfl) (by kernel_rfl) ?_
  refine lv (.bool (!decide (a2 = (0 : Int)))) ?_
  refine ls_know (c := true) (congrArg Bool.not (dec_f q30)) 171 (by kernel_rfl) ?_
  refine ls_on (j := 16) (t := 171) (b := true) rfl rfl (by kernel_rfl) (by kernel_rfl) ?_
  refine lv (.int .i64 t21.2) ?_
  refine ls_on (j := 16) (t := 171) (b := true) rfl rfl (by kernel_rfl) (by kernel_rfl) ?_
  refine lv (.bool (decide (t21.2 = (12 : Int)))) ?_
  refine ls_on (j := 13) (t := 168) (b := false) rfl rfl (by kernel_rfl) (by kernel_rfl) ?_
  refine lv (.bool (decide (t21.2 = (12 : Int)))) ?_
  refine ls_on (j := 13) (t := 168) (b := false) rfl rfl (by kernel_rfl) (by kernel_rfl) ?_
  refine lv (.bool (decide (t21.2 = (12 : Int)))) ?_
  by_cases q33 : t21.2 = (12 : Int)
  · replace H := ite_t q33 H
    refine ls_know (c := true) (dec_t q33) 175 (by kernel_rfl) ?_
    refine ls_on (j := 20) (t := 175) (b := true) rfl rfl (by kernel_rfl) (by kernel_rfl) ?_
    refine lv (.slice x23.1 t21.1.length x23.2) ?_
    refine ls_on (j := 20) (t := 175) (b := true) rfl rfl (by kernel_rfl) (by kernel_rfl) ?_
    refine lv (.int .i64 (t21.1.length : Int)) ?_
    refine ls_on (j := 20) (t := 175) (b := true) rfl rfl (by kernel_rfl) (by kernel_rfl) ?_
    refine lv (.bool (decide ((t21.1.length : Int) = (0 : Int)))) ?_
    refine ls_on (j := 13) (t := 168) (b := false) rfl rfl (by kernel_rfl) (by kernel_rfl) ?_
    refine lv (.bool (decide ((t21.1.length : Int) = (0 : Int)))) ?_
    refine lv (.bool (decide ((t21.1.length : Int) = (0 : Int)))) ?_
    refine lv (.bool (decide ((t21.1.length : Int) = (0 : Int)))) ?_
    refine ls_end ?_
    refine qn_then ?_
    refine cs_ret' ?_
    obtain rfl := Option.some.inj H
    refine qr_res (rs := [_]) rfl (fun w' hs => ⟨[.bool (decide ((t21.1.length : Int) = (0 : Int)))], (res_tmp (by kernel_rfl) (.nil)), (), rfl, hs.pick (ts := []) (cs := []) trivial (by decide)⟩)
  replace H := ite_f q33 H
  refine ls_know (c := false) (dec_f q33) 175 (by kernel_rfl) ?_
  refine lofx 20 175 true false ?_
  refine lofx 20 175 true false ?_
  refine lofx 20 175 true false ?_
  refine ls_on (j := 13) (t := 168) (b := false) rfl rfl (by kernel_rfl) (by kernel_rfl) ?_
  refine lv (.bool false) ?_
  refine lv (.bool false) ?_
  refine lv (.bool false) ?_
  refine ls_end ?_
  refine qn_then ?_
  refine cs_ret' ?_
  obtain rfl := Option.some.inj H
  refine qr_res (rs := [_]) rfl (fun w' hs => ⟨[.bool false], (res_tmp (by kernel_rfl) (.nil)), (), rfl, hs.pick (ts := []) (cs := []) trivial (by decide)⟩)

end Go.Proofs.Ytbidihabicgedaa.G
