/- Printed by a program of this session (sz.py): plain functions, and walks that show that the code comes to them; no condition. -/
import Derived.Test.YtbidihabicgedaaProg
import Derived.Test.YtbidihabicgedaaTy
set_option linter.unusedVariables false
set_option linter.unusedSimpArgs false
namespace Go.Proofs.Ytbidihabicgedaa.G
open Go Go.RowKit Go.Proofs.Ytbidihabicgedaa.Sx

/-! ### (*shadowbox/disk.Disk).none, specialized: function 21 -/
def disk_Disk_none_snil0.f (k : Nat) : Option (Bool) :=
  some true
set_option maxRecDepth 100000 in
set_option maxHeartbeats 4000000 in
theorem disk_Disk_none_snil0.calls (k : Nat)  (r : Bool) (b : Bs) (hs0 : St b (stl []) b.w) (H : disk_Disk_none_snil0.f k = some r) :
    Calls Try.prog 21 #[.pointer none] b.w fun e w' => ∃ x : Unit, e = .returned (.bool r) ∧ St b (stl []) w' := by
  unfold disk_Disk_none_snil0.f at H
  refine enterb (n := 12) Try.func21 rfl (by kernel_rfl) (by kernel_rfl) hs0 ?_
  refine cs_sub (s0) (sub_nil _) ?_
  refine cs_seq ?_
  refine cs_region (l := [_]) ?_
  refine ls_val (v := .bool false) rfl rfl (by kernel_rfl) (fun w => by kernel_rfl) ?_
  refine ls_end ?_
  refine qn_then ?_
  refine cs_seq ?_
  refine cs_region (l := [_, _, _, _, _, _, _, _, _, _]) ?_
  refine ls_val (v := .pointer none) rfl rfl (by kernel_rfl) (fun w => by kernel_rfl) ?_
  refine ls_val (v := .bool true) rfl rfl (by kernel_rfl) (fun w => by kernel_rfl) ?_
  refine ls_val (v := .bool true) rfl rfl (by kernel_rfl) (fun w => by kernel_rfl) ?_
  refine ls_off (j := 2) (t := 5) (b := false) (c := true) rfl rfl (by kernel_rfl) (by kernel_rfl) rfl rfl (by kernel_rfl) ?_
  refine ls_off (j := 2) (t := 5) (b := false) (c := true) rfl rfl (by kernel_rfl) (by kernel_rfl) rfl rfl (by kernel_rfl) ?_
  refine ls_off (j := 2) (t := 5) (b := false) (c := true) rfl rfl (by kernel_rfl) (by kernel_rfl) rfl rfl (by kernel_rfl) ?_
  refine ls_off (j := 2) (t := 5) (b := false) (c := true) rfl rfl (by kernel_rfl) (by kernel_rfl) rfl rfl (by kernel_rfl) ?_
  refine ls_off (j := 2) (t := 5) (b := false) (c := true) rfl rfl (by kernel_rfl) (by kernel_rfl) rfl rfl (by kernel_rfl) ?_
  refine ls_val (v := .bool true) rfl rfl (by kernel_rfl) (fun w => by kernel_rfl) ?_
  refine ls_val (v := .bool true) rfl rfl (by kernel_rfl) (fun w => by kernel_rfl) ?_
  refine ls_end ?_
  refine qn_then ?_
  refine cs_ret' ?_
  obtain rfl := Option.some.inj H
  refine qr_res (rs := [_]) rfl (fun w' hs => ⟨[.bool true], (res_tmp (by kernel_rfl) (.nil)), (), rfl, hs.pick (ts := []) (cs := []) trivial (by decide)⟩)

/-! ### (*shadowbox/disk.Disk).Len, specialized: function 16 -/
def disk_Disk_Len_snil0.f (k : Nat) : Option (Int) :=
  some (0 : Int)
set_option maxRecDepth 100000 in
set_option maxHeartbeats 4000000 in
theorem disk_Disk_Len_snil0.calls (k : Nat)  (r : Int) (b : Bs) (hs0 : St b (stl []) b.w) (H : disk_Disk_Len_snil0.f k = some r) :
    Calls Try.prog 16 #[.pointer none] b.w fun e w' => ∃ x : Unit, e = .returned (.int .i64 r) ∧ St b (stl []) w' := by
  unfold disk_Disk_Len_snil0.f at H
  refine enterb (n := 10) Try.func16 rfl (by kernel_rfl) (by kernel_rfl) hs0 ?_
  refine cs_sub (s0) (sub_nil _) ?_
  refine cs_seq ?_
  refine cs_region (l := [_]) ?_
  refine ls_val (v := .int .i64 (0 : Int)) rfl rfl (by kernel_rfl) (fun w => by kernel_rfl) ?_
  refine ls_end ?_
  refine qn_then ?_
  refine cs_seq ?_
  refine cs_seq ?_
  refine cs_region (l := [_, _]) ?_
  refine ls_val (v := .pointer none) rfl rfl (by kernel_rfl) (fun w => by kernel_rfl) ?_
  have hc2 : disk_Disk_none_snil0.f k = some true := rfl
  refine ls_callb (fid := 21) (vals := #[.pointer none]) (X := Unit) (fun x => .bool true) (fun x => stl []) [] [] [] [] 0 rfl rfl (by kernel_rfl) (fun w => by kernel_rfl) trivial trivial (by decide) (fun w hs hb => disk_Disk_none_snil0.calls k  true (lent b w [] []) hb  hc2) ?_
  intro x3
  refine ls_end ?_
  refine qn_then ?_
  refine cs_true (by kernel_rfl) ?_
  refine cs_seq ?_
  refine cs_region (l := [_]) ?_
  refine ls_val (v := .int .i64 (0 : Int)) rfl rfl (by kernel_rfl) (fun w => by kernel_rfl) ?_
  refine ls_end ?_
  refine qn_then ?_
  refine cs_ret' ?_
  refine qr_then ?_
  obtain rfl := Option.some.inj H
  refine qr_res (rs := [_]) rfl (fun w' hs => ⟨[.int .i64 (0 : Int)], (res_tmp (by kernel_rfl) (.nil)), (), rfl, hs.pick (ts := []) (cs := []) trivial (by decide)⟩)

/-! ### shadowbox/block.check, specialized: function 17 -/
def block_check_snil0.f (k : Nat) (a1 : (Int × Int × Int × Int × (Vc Int 32))) : Option (Int) :=
  some (1 : Int)
set_option maxRecDepth 100000 in
set_option maxHeartbeats 4000000 in
theorem block_check_snil0.calls (k : Nat) (a1 : (Int × Int × Int × Int × (Vc Int 32))) (r : Int) (b : Bs) (hs0 : St b (stl []) b.w) (H : block_check_snil0.f k a1 = some r) :
    Calls Try.prog 17 #[.pointer none, .agg ⟨([Value.int .i64 a1.1] ++ ([Value.int .i64 a1.2.1] ++ ([Value.int .i64 a1.2.2.1] ++ ([Value.int .u32 a1.2.2.2.1] ++ en (Value.int .u8) a1.2.2.2.2.1))))⟩] b.w fun e w' => ∃ x : Unit, e = .returned (.int .i64 r) ∧ St b (stl []) w' := by
  unfold block_check_snil0.f at H
  refine enterb (n := 23) Try.func17 rfl (by kernel_rfl) (by kernel_rfl) hs0 ?_
  refine cs_sub (s0) (sub_nil _) ?_
  refine cs_seq ?_
  refine cs_region (l := [_, _]) ?_
  refine ls_new rfl rfl (by kernel_rfl) 0 (fun g => .pointer (some ⟨g, 0, none⟩)) (.cells ⟨([Value.int .i64 a1.1] ++ ([Value.int .i64 a1.2.1] ++ ([Value.int .i64 a1.2.2.1] ++ ([Value.int .u32 a1.2.2.2.1] ++ en (Value.int .u8) a1.2.2.2.2.1))))⟩ 30) (fun w => by kernel_rfl) ?_
  intro g1
  refine ls_val (v := .int .i64 (0 : Int)) rfl rfl (by kernel_rfl) (fun w => by kernel_rfl) ?_
  refine ls_end ?_
  refine qn_then ?_
  refine cs_seq ?_
  refine cs_block ?_
  refine cs_seq ?_
  refine cs_region (l := [_, _, _, _]) ?_
  refine ls_val (v := .pointer none) rfl rfl (by kernel_rfl) (fun w => by kernel_rfl) ?_
  have hc3 : disk_Disk_Len_snil0.f k = some (0 : Int) := rfl
  refine ls_callb (fid := 16) (vals := #[.pointer none]) (X := Unit) (fun x => .int .i64 (0 : Int)) (fun x => stl []) [] [] [] [] 1 rfl rfl (by kernel_rfl) (fun w => by kernel_rfl) trivial trivial (by decide) (fun w hs hb => disk_Disk_Len_snil0.calls k  (0 : Int) (lent b w [] []) hb  hc3) ?_
  intro x4
  refine ls_val (v := .bool true) rfl rfl (by kernel_rfl) (fun w => by kernel_rfl) ?_
  refine ls_val (v := .bool true) rfl rfl (by kernel_rfl) (fun w => by kernel_rfl) ?_
  refine ls_end ?_
  refine qn_then ?_
  refine cs_true (by kernel_rfl) ?_
  refine cs_seq ?_
  refine cs_region (l := [_]) ?_
  refine ls_val (v := .int .i64 (1 : Int)) rfl rfl (by kernel_rfl) (fun w => by kernel_rfl) ?_
  refine ls_end ?_
  refine qn_then ?_
  refine cs_ret' ?_
  refine qr_block ?_
  refine qr_then ?_
  obtain rfl := Option.some.inj H
  refine qr_res (rs := [_]) rfl (fun w' hs => ⟨[.int .i64 (1 : Int)], (res_tmp (by kernel_rfl) (.nil)), (), rfl, hs.pick (ts := []) (cs := []) trivial (by decide)⟩)

/-! ### shadowbox/block.Read, specialized: function 9 -/
def block_Read_snil0.f (k : Nat) (a1 : (Int × Int × Int × Int × (Vc Int 32))) : Option ((List Int) × Int) :=
  some (([] : List Int), (1 : Int))
set_option maxRecDepth 100000 in
set_option maxHeartbeats 4000000 in
theorem block_Read_snil0.calls (k : Nat) (a1 : (Int × Int × Int × Int × (Vc Int 32))) (r : (List Int) × Int) (b : Bs) (hs0 : St b (stl []) b.w) (H : block_Read_snil0.f k a1 = some r) :
    Calls Try.prog 9 #[.pointer none, .agg ⟨([Value.int .i64 a1.1] ++ ([Value.int .i64 a1.2.1] ++ ([Value.int .i64 a1.2.2.1] ++ ([Value.int .u32 a1.2.2.2.1] ++ en (Value.int .u8) a1.2.2.2.2.1))))⟩] b.w fun e w' => ∃ x : (Option Addr × Nat), e = .returned (.tuple #[.slice x.1 r.1.length x.2, .int .i64 r.2]) ∧ St b (stl [Ck.sl (Ec.int 5 .u8) x.1 x.2 r.1]) w' := by
  unfold block_Read_snil0.f at H
  refine enterb (n := 49) Try.func9 rfl (by kernel_rfl) (by kernel_rfl) hs0 ?_
  refine cs_sub (s0) (sub_nil _) ?_
  refine cs_seq ?_
  refine cs_region (l := [_, _, _]) ?_
  refine ls_new rfl rfl (by kernel_rfl) 0 (fun g => .pointer (some ⟨g, 0, none⟩)) (.cells ⟨([Value.int .i64 a1.1] ++ ([Value.int .i64 a1.2.1] ++ ([Value.int .i64 a1.2.2.1] ++ ([Value.int .u32 a1.2.2.2.1] ++ en (Value.int .u8) a1.2.2.2.2.1))))⟩ 30) (fun w => by kernel_rfl) ?_
  intro g1
  refine ls_val (v := .slice none 0 0) rfl rfl (by kernel_rfl) (fun w => by kernel_rfl) ?_
  refine ls_val (v := .int .i64 (0 : Int)) rfl rfl (by kernel_rfl) (fun w => by kernel_rfl) ?_
  refine ls_end ?_
  refine qn_then ?_
  refine cs_seq ?_
  refine cs_seq ?_
  refine cs_region (l := [_, _, _, _]) ?_
  refine ls_val (v := .pointer none) rfl rfl (by kernel_rfl) (fun w => by kernel_rfl) ?_
  refine ls_loadagg (a := ⟨g1, 0, none⟩) (sub := ([Value.int .i64 a1.1] ++ ([Value.int .i64 a1.2.1] ++ ([Value.int .i64 a1.2.2.1] ++ ([Value.int .u32 a1.2.2.2.1] ++ en (Value.int .u8) a1.2.2.2.2.1))))) rfl rfl (by kernel_rfl) rfl (by kernel_rfl) (by kernel_rfl) (by kernel_rfl) (len_app (len1 _) (len_app (len1 _) (len_app (len1 _) (len_app (len1 _) (len_en _ a1.2.2.2.2))))) (fun w hs => (hs.vars (k := 0) (by exact rfl) (Sub4.all _))) ?_
  have hc3 : block_check_snil0.f k a1 = some (1 : Int) := rfl
  refine ls_callb (fid := 17) (vals := #[.pointer none, .agg ⟨([Value.int .i64 a1.1] ++ ([Value.int .i64 a1.2.1] ++ ([Value.int .i64 a1.2.2.1] ++ ([Value.int .u32 a1.2.2.2.1] ++ en (Value.int .u8) a1.2.2.2.2.1))))⟩]) (X := Unit) (fun x => .int .i64 (1 : Int)) (fun x => stl []) [] [] [] [] 1 rfl rfl (by kernel_rfl) (fun w => by kernel_rfl) trivial trivial (by decide) (fun w hs hb => block_check_snil0.calls k a1 (1 : Int) (lent b w [] []) hb  hc3) ?_
  intro x4
  refine ls_val (v := .int .i64 (1 : Int)) rfl rfl (by kernel_rfl) (fun w => by kernel_rfl) ?_
  refine ls_end ?_
  refine qn_then ?_
  refine cs_seq ?_
  refine cs_region (l := [_, _]) ?_
  refine ls_val (v := .int .i64 (1 : Int)) rfl rfl (by kernel_rfl) (fun w => by kernel_rfl) ?_
  refine ls_val (v := .bool true) rfl rfl (by kernel_rfl) (fun w => by kernel_rfl) ?_
  refine ls_end ?_
  refine qn_then ?_
  refine cs_true (by kernel_rfl) ?_
  refine cs_seq ?_
  refine cs_region (l := [_, _, _]) ?_
  refine ls_val (v := .int .i64 (1 : Int)) rfl rfl (by kernel_rfl) (fun w => by kernel_rfl) ?_
  refine ls_val (v := .slice none 0 0) rfl rfl (by kernel_rfl) (fun w => by kernel_rfl) ?_
  refine ls_val (v := .int .i64 (1 : Int)) rfl rfl (by kernel_rfl) (fun w => by kernel_rfl) ?_
  refine ls_end ?_
  refine qn_then ?_
  refine cs_ret' ?_
  refine qr_then ?_
  refine qr_nilrow 1 (Ec.int 5 .u8) ?_
  obtain rfl := Option.some.inj H
  refine qr_res (rs := [_, _]) rfl (fun w' hs => ⟨[.slice none 0 0, .int .i64 (1 : Int)], (res_tmp (by kernel_rfl) (res_tmp (by kernel_rfl) (.nil))), (none, 0), rfl, hs.pick (ts := [1]) (cs := [Ck.sl (Ec.int 5 .u8) none 0 ([] : List Int)]) ⟨by exact rfl, trivial⟩ (by decide)⟩)

/-! ### shadowbox/block.Write, specialized: function 7 -/
def block_Write_snil0.f (k : Nat) (a1 : Int) (a2 : Int) (l3 : List Int) : Option ((Int × Int × Int × Int × (Vc Int 32)) × Int) :=
  some (((0 : Int), (0 : Int), (0 : Int), (0 : Int), (vrep 32 (0 : Int))), (1 : Int))
set_option maxRecDepth 100000 in
set_option maxHeartbeats 4000000 in
theorem block_Write_snil0.calls (k : Nat) (a1 : Int) (a2 : Int) (A3 : Option Addr) (c3 : Nat) (l3 : List Int) (r : (Int × Int × Int × Int × (Vc Int 32)) × Int) (b : Bs) (hs0 : St b (stl []) b.w) (R3 : Ro b A3 (em (Ec.int 5 .u8) l3)) (C3 : l3.length ≤ c3) (H : block_Write_snil0.f k a1 a2 l3 = some r) :
    Calls Try.prog 7 #[.pointer none, .int .i64 a1, .int .i64 a2, .slice A3 l3.length c3] b.w fun e w' => ∃ x : Unit, e = .returned (.tuple #[.agg ⟨([Value.int .i64 r.1.1] ++ ([Value.int .i64 r.1.2.1] ++ ([Value.int .i64 r.1.2.2.1] ++ ([Value.int .u32 r.1.2.2.2.1] ++ en (Value.int .u8) r.1.2.2.2.2.1))))⟩, .int .i64 r.2]) ∧ St b (stl []) w' := by
  unfold block_Write_snil0.f at H
  refine enterb (n := 64) Try.func7 rfl (by kernel_rfl) (by kernel_rfl) hs0 ?_
  refine cs_sub (s0) (sub_nil _) ?_
  refine cs_seq ?_
  refine cs_region (l := [_, _]) ?_
  refine ls_new rfl rfl (by kernel_rfl) 0 (fun g => .pointer (some ⟨g, 0, none⟩)) (.cells ⟨([Value.int .i64 (0 : Int)] ++ ([Value.int .i64 (0 : Int)] ++ ([Value.int .i64 (0 : Int)] ++ ([Value.int .u32 (0 : Int)] ++ en (Value.int .u8) (vrep 32 (0 : Int)).1))))⟩ 30) (fun w => by kernel_rfl) ?_
  intro g1
  refine ls_val (v := .int .i64 (0 : Int)) rfl rfl (by kernel_rfl) (fun w => by kernel_rfl) ?_
  refine ls_end ?_
  refine qn_then ?_
  refine cs_seq ?_
  refine cs_seq ?_
  refine cs_region (l := [_, _, _]) ?_
  refine ls_val (v := .pointer none) rfl rfl (by kernel_rfl) (fun w => by kernel_rfl) ?_
  have hc3 : disk_Disk_Len_snil0.f k = some (0 : Int) := rfl
  refine ls_callb (fid := 16) (vals := #[.pointer none]) (X := Unit) (fun x => .int .i64 (0 : Int)) (fun x => stl []) [] [] [] [] 1 rfl rfl (by kernel_rfl) (fun w => by kernel_rfl) trivial trivial (by decide) (fun w hs hb => disk_Disk_Len_snil0.calls k  (0 : Int) (lent b w [] []) hb  hc3) ?_
  intro x4
  refine ls_val (v := .bool true) rfl rfl (by kernel_rfl) (fun w => by kernel_rfl) ?_
  refine ls_end ?_
  refine qn_then ?_
  refine cs_true (by kernel_rfl) ?_
  refine cs_seq ?_
  refine cs_region (l := [_, _, _]) ?_
  refine ls_build (ps := []) (pl := #[(0, 1), (1, 1), (2, 1), (3, 1), (4, 32)]) (zv := .agg ⟨([Value.int .i64 (0 : Int)] ++ ([Value.int .i64 (0 : Int)] ++ ([Value.int .i64 (0 : Int)] ++ ([Value.int .u32 (0 : Int)] ++ en (Value.int .u8) (vrep 32 (0 : Int)).1))))⟩) (zc := ([Value.int .i64 (0 : Int)] ++ ([Value.int .i64 (0 : Int)] ++ ([Value.int .i64 (0 : Int)] ++ ([Value.int .u32 (0 : Int)] ++ en (Value.int .u8) (vrep 32 (0 : Int)).1))))) (r := ([Value.int .i64 (0 : Int)] ++ ([Value.int .i64 (0 : Int)] ++ ([Value.int .i64 (0 : Int)] ++ ([Value.int .u32 (0 : Int)] ++ en (Value.int .u8) (vrep 32 (0 : Int)).1))))) rfl rfl (by kernel_rfl) rfl (by kernel_rfl) (by kernel_rfl) (fun w => by kernel_rfl) (fun w => by kernel_rfl) rfl fill_nil ?_
  refine ls_storec (g := g1) (off := 0) (v := .agg ⟨([Value.int .i64 (0 : Int)] ++ ([Value.int .i64 (0 : Int)] ++ ([Value.int .i64 (0 : Int)] ++ ([Value.int .u32 (0 : Int)] ++ en (Value.int .u8) (vrep 32 (0 : Int)).1))))⟩) (vs := ([Value.int .i64 (0 : Int)] ++ ([Value.int .i64 (0 : Int)] ++ ([Value.int .i64 (0 : Int)] ++ ([Value.int .u32 (0 : Int)] ++ en (Value.int .u8) (vrep 32 (0 : Int)).1))))) (cs := ([Value.int .i64 (0 : Int)] ++ ([Value.int .i64 (0 : Int)] ++ ([Value.int .i64 (0 : Int)] ++ ([Value.int .u32 (0 : Int)] ++ en (Value.int .u8) (vrep 32 (0 : Int)).1))))) (ty := 30) 0 rfl rfl rfl (by kernel_rfl) (by kernel_rfl) (by kernel_rfl) (by exact rfl) (by kernel_rfl) (len_app (len1 _) (len_app (len1 _) (len_app (len1 _) (len_app (len1 _) (len_en _ (vrep 32 (0 : Int))))))) (one_app (one_cons rfl one_nil) (one_app (one_cons rfl one_nil) (one_app (one_cons rfl one_nil) (one_app (one_cons rfl one_nil) (one_en (fun _ => rfl) _))))) (hl_of (Sub4.all _) (len_eq (len_app (len1 _) (len_app (len1 _) (len_app (len1 _) (len_app (len1 _) (len_en _ (vrep 32 (0 : Int))))))) (len_app (len1 _) (len_app (len1 _) (len_app (len1 _) (len_app (len1 _) (len_en _ (vrep 32 (0 : Int))))))))) (cs' := ([Value.int .i64 (0 : Int)] ++ ([Value.int .i64 (0 : Int)] ++ ([Value.int .i64 (0 : Int)] ++ ([Value.int .u32 (0 : Int)] ++ en (Value.int .u8) (vrep 32 (0 : Int)).1))))) (splc_all (len_eq (len_app (len1 _) (len_app (len1 _) (len_app (len1 _) (len_app (len1 _) (len_en _ (vrep 32 (0 : Int))))))) (len_app (len1 _) (len_app (len1 _) (len_app (len1 _) (len_app (len1 _) (len_en _ (vrep 32 (0 : Int))))))))) ?_
  refine ls_val (v := .int .i64 (1 : Int)) rfl rfl (by kernel_rfl) (fun w => by kernel_rfl) ?_
  refine ls_end ?_
  refine qn_then ?_
  refine cs_ret' ?_
  refine qr_then ?_
  obtain rfl := Option.some.inj H
  refine qr_res (rs := [_, _]) rfl (fun w' hs => ⟨[.agg ⟨([Value.int .i64 (0 : Int)] ++ ([Value.int .i64 (0 : Int)] ++ ([Value.int .i64 (0 : Int)] ++ ([Value.int .u32 (0 : Int)] ++ en (Value.int .u8) (vrep 32 (0 : Int)).1))))⟩, .int .i64 (1 : Int)], (.cell (by kernel_rfl) (run_cellres (by kernel_rfl) (by kernel_rfl) (len_app (len1 _) (len_app (len1 _) (len_app (len1 _) (len_app (len1 _) (len_en _ (vrep 32 (0 : Int))))))) (hs.holds 0 _ (by exact rfl))) (res_tmp (by kernel_rfl) (.nil))), (), rfl, hs.pick (ts := []) (cs := []) trivial (by decide)⟩)

/-! ### (*shadowbox/disk.Disk).none, specialized: function 21 -/
def disk_Disk_none_szero0.f (k : Nat) : Option (Bool) :=
  some true
set_option maxRecDepth 100000 in
set_option maxHeartbeats 4000000 in
theorem disk_Disk_none_szero0.calls (k : Nat) (pg0 : Nat) (r : Bool) (b : Bs) (hs0 : St b (stl [Ck.var 42 pg0 (([Value.slice none 0 0] ++ ([Value.map none] ++ ([Value.bool false] ++ ([Value.int .i64 (0 : Int)] ++ [Value.bool false])))))]) b.w) (H : disk_Disk_none_szero0.f k = some r) :
    Calls Try.prog 21 #[.pointer (some ⟨pg0, 0, none⟩)] b.w fun e w' => ∃ x : Unit, e = .returned (.bool r) ∧ St b (stl [Ck.var 42 pg0 (([Value.slice none 0 0] ++ ([Value.map none] ++ ([Value.bool false] ++ ([Value.int .i64 (0 : Int)] ++ [Value.bool false])))))]) w' := by
  unfold disk_Disk_none_szero0.f at H
  refine enterb (n := 12) Try.func21 rfl (by kernel_rfl) (by kernel_rfl) hs0 ?_
  refine cs_sub (sput s0 0 (some (Ck.var 42 pg0 (([Value.slice none 0 0] ++ ([Value.map none] ++ ([Value.bool false] ++ ([Value.int .i64 (0 : Int)] ++ [Value.bool false])))))))) (sub_put (by exact rfl) (sub_nil _)) ?_
  refine cs_seq ?_
  refine cs_region (l := [_]) ?_
  refine ls_val (v := .bool false) rfl rfl (by kernel_rfl) (fun w => by kernel_rfl) ?_
  refine ls_end ?_
  refine qn_then ?_
  refine cs_seq ?_
  refine cs_region (l := [_, _, _, _, _, _, _, _, _, _]) ?_
  refine ls_val (v := .pointer (some ⟨pg0, 0, none⟩)) rfl rfl (by kernel_rfl) (fun w => by kernel_rfl) ?_
  refine ls_val (v := .bool false) rfl rfl (by kernel_rfl) (fun w => by kernel_rfl) ?_
  refine ls_val (v := .bool false) rfl rfl (by kernel_rfl) (fun w => by kernel_rfl) ?_
  refine ls_on (j := 2) (t := 5) (b := false) rfl rfl (by kernel_rfl) (by kernel_rfl) ?_
  refine ls_val (v := .pointer (some ⟨pg0, 0, none⟩)) rfl rfl (by kernel_rfl) (fun w => by kernel_rfl) ?_
  refine ls_on (j := 2) (t := 5) (b := false) rfl rfl (by kernel_rfl) (by kernel_rfl) ?_
  refine ls_val (v := .pointer (some ⟨pg0, 0, none⟩)) rfl rfl (by kernel_rfl) (fun w => by kernel_rfl) ?_
  refine ls_on (j := 2) (t := 5) (b := false) rfl rfl (by kernel_rfl) (by kernel_rfl) ?_
  refine ls_val (v := .pointer (some ⟨pg0, (0 + 0), none⟩)) rfl rfl (by kernel_rfl) (fun w => by kernel_rfl) ?_
  refine ls_on (j := 2) (t := 5) (b := false) rfl rfl (by kernel_rfl) (by kernel_rfl) ?_
  refine ls_load (a0 := ⟨pg0, (0 + 0), none⟩) (v := .slice none 0 0) (de := (TypeDesc.slice 56)) rfl rfl (by kernel_rfl) rfl (by kernel_rfl) (by kernel_rfl) (by kernel_rfl) (fun w hs => (hs.var (k := 0) (by exact rfl) (Sub4.trans (Sub4.all _) (Sub4.head _ _)))) ?_
  refine ls_on (j := 2) (t := 5) (b := false) rfl rfl (by kernel_rfl) (by kernel_rfl) ?_
  refine ls_val (v := .bool true) rfl rfl (by kernel_rfl) (fun w => by kernel_rfl) ?_
  refine ls_val (v := .bool true) rfl rfl (by kernel_rfl) (fun w => by kernel_rfl) ?_
  refine ls_val (v := .bool true) rfl rfl (by kernel_rfl) (fun w => by kernel_rfl) ?_
  refine ls_end ?_
  refine qn_then ?_
  refine cs_ret' ?_
  obtain rfl := Option.some.inj H
  refine qr_res (rs := [_]) rfl (fun w' hs => ⟨[.bool true], (res_tmp (by kernel_rfl) (.nil)), (), rfl, hs.pick (ts := [0]) (cs := [Ck.var 42 pg0 (([Value.slice none 0 0] ++ ([Value.map none] ++ ([Value.bool false] ++ ([Value.int .i64 (0 : Int)] ++ [Value.bool false])))))]) ⟨by exact rfl, trivial⟩ (by decide)⟩)

/-! ### (*shadowbox/disk.Disk).Len, specialized: function 16 -/
def disk_Disk_Len_szero0.f (k : Nat) : Option (Int) :=
  some (0 : Int)
set_option maxRecDepth 100000 in
set_option maxHeartbeats 4000000 in
theorem disk_Disk_Len_szero0.calls (k : Nat) (pg0 : Nat) (r : Int) (b : Bs) (hs0 : St b (stl [Ck.var 42 pg0 (([Value.slice none 0 0] ++ ([Value.map none] ++ ([Value.bool false] ++ ([Value.int .i64 (0 : Int)] ++ [Value.bool false])))))]) b.w) (H : disk_Disk_Len_szero0.f k = some r) :
    Calls Try.prog 16 #[.pointer (some ⟨pg0, 0, none⟩)] b.w fun e w' => ∃ x : Unit, e = .returned (.int .i64 r) ∧ St b (stl [Ck.var 42 pg0 (([Value.slice none 0 0] ++ ([Value.map none] ++ ([Value.bool false] ++ ([Value.int .i64 (0 : Int)] ++ [Value.bool false])))))]) w' := by
  unfold disk_Disk_Len_szero0.f at H
  refine enterb (n := 10) Try.func16 rfl (by kernel_rfl) (by kernel_rfl) hs0 ?_
  refine cs_sub (sput s0 0 (some (Ck.var 42 pg0 (([Value.slice none 0 0] ++ ([Value.map none] ++ ([Value.bool false] ++ ([Value.int .i64 (0 : Int)] ++ [Value.bool false])))))))) (sub_put (by exact rfl) (sub_nil _)) ?_
  refine cs_seq ?_
  refine cs_region (l := [_]) ?_
  refine ls_val (v := .int .i64 (0 : Int)) rfl rfl (by kernel_rfl) (fun w => by kernel_rfl) ?_
  refine ls_end ?_
  refine qn_then ?_
  refine cs_seq ?_
  refine cs_seq ?_
  refine cs_region (l := [_, _]) ?_
  refine ls_val (v := .pointer (some ⟨pg0, 0, none⟩)) rfl rfl (by kernel_rfl) (fun w => by kernel_rfl) ?_
  have hc2 : disk_Disk_none_szero0.f k = some true := rfl
  refine ls_callb (fid := 21) (vals := #[.pointer (some ⟨pg0, 0, none⟩)]) (X := Unit) (fun x => .bool true) (fun x => stl [Ck.var 42 pg0 (([Value.slice none 0 0] ++ ([Value.map none] ++ ([Value.bool false] ++ ([Value.int .i64 (0 : Int)] ++ [Value.bool false])))))]) [0] [] [Ck.var 42 pg0 (([Value.slice none 0 0] ++ ([Value.map none] ++ ([Value.bool false] ++ ([Value.int .i64 (0 : Int)] ++ [Value.bool false])))))] [] 1 rfl rfl (by kernel_rfl) (fun w => by kernel_rfl) ⟨by exact rfl, trivial⟩ trivial (by decide) (fun w hs hb => disk_Disk_none_szero0.calls k pg0 true (lent b w [Ck.var 42 pg0 (([Value.slice none 0 0] ++ ([Value.map none] ++ ([Value.bool false] ++ ([Value.int .i64 (0 : Int)] ++ [Value.bool false])))))] []) hb  hc2) ?_
  intro x3
  refine ls_end ?_
  refine qn_then ?_
  refine cs_true (by kernel_rfl) ?_
  refine cs_seq ?_
  refine cs_region (l := [_]) ?_
  refine ls_val (v := .int .i64 (0 : Int)) rfl rfl (by kernel_rfl) (fun w => by kernel_rfl) ?_
  refine ls_end ?_
  refine qn_then ?_
  refine cs_ret' ?_
  refine qr_then ?_
  obtain rfl := Option.some.inj H
  refine qr_res (rs := [_]) rfl (fun w' hs => ⟨[.int .i64 (0 : Int)], (res_tmp (by kernel_rfl) (.nil)), (), rfl, hs.pick (ts := [0]) (cs := [Ck.var 42 pg0 (([Value.slice none 0 0] ++ ([Value.map none] ++ ([Value.bool false] ++ ([Value.int .i64 (0 : Int)] ++ [Value.bool false])))))]) ⟨by exact rfl, trivial⟩ (by decide)⟩)

/-! ### shadowbox/block.check, specialized: function 17 -/
def block_check_szero0.f (k : Nat) (a1 : (Int × Int × Int × Int × (Vc Int 32))) : Option (Int) :=
  some (1 : Int)
set_option maxRecDepth 100000 in
set_option maxHeartbeats 4000000 in
theorem block_check_szero0.calls (k : Nat) (pg0 : Nat) (a1 : (Int × Int × Int × Int × (Vc Int 32))) (r : Int) (b : Bs) (hs0 : St b (stl [Ck.var 42 pg0 (([Value.slice none 0 0] ++ ([Value.map none] ++ ([Value.bool false] ++ ([Value.int .i64 (0 : Int)] ++ [Value.bool false])))))]) b.w) (H : block_check_szero0.f k a1 = some r) :
    Calls Try.prog 17 #[.pointer (some ⟨pg0, 0, none⟩), .agg ⟨([Value.int .i64 a1.1] ++ ([Value.int .i64 a1.2.1] ++ ([Value.int .i64 a1.2.2.1] ++ ([Value.int .u32 a1.2.2.2.1] ++ en (Value.int .u8) a1.2.2.2.2.1))))⟩] b.w fun e w' => ∃ x : Unit, e = .returned (.int .i64 r) ∧ St b (stl [Ck.var 42 pg0 (([Value.slice none 0 0] ++ ([Value.map none] ++ ([Value.bool false] ++ ([Value.int .i64 (0 : Int)] ++ [Value.bool false])))))]) w' := by
  unfold block_check_szero0.f at H
  refine enterb (n := 23) Try.func17 rfl (by kernel_rfl) (by kernel_rfl) hs0 ?_
  refine cs_sub (sput s0 0 (some (Ck.var 42 pg0 (([Value.slice none 0 0] ++ ([Value.map none] ++ ([Value.bool false] ++ ([Value.int .i64 (0 : Int)] ++ [Value.bool false])))))))) (sub_put (by exact rfl) (sub_nil _)) ?_
  refine cs_seq ?_
  refine cs_region (l := [_, _]) ?_
  refine ls_new rfl rfl (by kernel_rfl) 1 (fun g => .pointer (some ⟨g, 0, none⟩)) (.cells ⟨([Value.int .i64 a1.1] ++ ([Value.int .i64 a1.2.1] ++ ([Value.int .i64 a1.2.2.1] ++ ([Value.int .u32 a1.2.2.2.1] ++ en (Value.int .u8) a1.2.2.2.2.1))))⟩ 30) (fun w => by kernel_rfl) ?_
  intro g1
  refine ls_val (v := .int .i64 (0 : Int)) rfl rfl (by kernel_rfl) (fun w => by kernel_rfl) ?_
  refine ls_end ?_
  refine qn_then ?_
  refine cs_seq ?_
  refine cs_block ?_
  refine cs_seq ?_
  refine cs_region (l := [_, _, _, _]) ?_
  refine ls_val (v := .pointer (some ⟨pg0, 0, none⟩)) rfl rfl (by kernel_rfl) (fun w => by kernel_rfl) ?_
  have hc3 : disk_Disk_Len_szero0.f k = some (0 : Int) := rfl
  refine ls_callb (fid := 16) (vals := #[.pointer (some ⟨pg0, 0, none⟩)]) (X := Unit) (fun x => .int .i64 (0 : Int)) (fun x => stl [Ck.var 42 pg0 (([Value.slice none 0 0] ++ ([Value.map none] ++ ([Value.bool false] ++ ([Value.int .i64 (0 : Int)] ++ [Value.bool false])))))]) [0] [] [Ck.var 42 pg0 (([Value.slice none 0 0] ++ ([Value.map none] ++ ([Value.bool false] ++ ([Value.int .i64 (0 : Int)] ++ [Value.bool false])))))] [] 2 rfl rfl (by kernel_rfl) (fun w => by kernel_rfl) ⟨by exact rfl, trivial⟩ trivial (by decide) (fun w hs hb => disk_Disk_Len_szero0.calls k pg0 (0 : Int) (lent b w [Ck.var 42 pg0 (([Value.slice none 0 0] ++ ([Value.map none] ++ ([Value.bool false] ++ ([Value.int .i64 (0 : Int)] ++ [Value.bool false])))))] []) hb  hc3) ?_
  intro x4
  refine ls_val (v := .bool true) rfl rfl (by kernel_rfl) (fun w => by kernel_rfl) ?_
  refine ls_val (v := .bool true) rfl rfl (by kernel_rfl) (fun w => by kernel_rfl) ?_
  refine ls_end ?_
  refine qn_then ?_
  refine cs_true (by kernel_rfl) ?_
  refine cs_seq ?_
  refine cs_region (l := [_]) ?_
  refine ls_val (v := .int .i64 (1 : Int)) rfl rfl (by kernel_rfl) (fun w => by kernel_rfl) ?_
  refine ls_end ?_
  refine qn_then ?_
  refine cs_ret' ?_
  refine qr_block ?_
  refine qr_then ?_
  obtain rfl := Option.some.inj H
  refine qr_res (rs := [_]) rfl (fun w' hs => ⟨[.int .i64 (1 : Int)], (res_tmp (by kernel_rfl) (.nil)), (), rfl, hs.pick (ts := [0]) (cs := [Ck.var 42 pg0 (([Value.slice none 0 0] ++ ([Value.map none] ++ ([Value.bool false] ++ ([Value.int .i64 (0 : Int)] ++ [Value.bool false])))))]) ⟨by exact rfl, trivial⟩ (by decide)⟩)

/-! ### shadowbox/block.Read, specialized: function 9 -/
def block_Read_szero0.f (k : Nat) (a1 : (Int × Int × Int × Int × (Vc Int 32))) : Option ((List Int) × Int) :=
  some (([] : List Int), (1 : Int))
set_option maxRecDepth 100000 in
set_option maxHeartbeats 4000000 in
theorem block_Read_szero0.calls (k : Nat) (pg0 : Nat) (a1 : (Int × Int × Int × Int × (Vc Int 32))) (r : (List Int) × Int) (b : Bs) (hs0 : St b (stl [Ck.var 42 pg0 (([Value.slice none 0 0] ++ ([Value.map none] ++ ([Value.bool false] ++ ([Value.int .i64 (0 : Int)] ++ [Value.bool false])))))]) b.w) (H : block_Read_szero0.f k a1 = some r) :
    Calls Try.prog 9 #[.pointer (some ⟨pg0, 0, none⟩), .agg ⟨([Value.int .i64 a1.1] ++ ([Value.int .i64 a1.2.1] ++ ([Value.int .i64 a1.2.2.1] ++ ([Value.int .u32 a1.2.2.2.1] ++ en (Value.int .u8) a1.2.2.2.2.1))))⟩] b.w fun e w' => ∃ x : (Option Addr × Nat), e = .returned (.tuple #[.slice x.1 r.1.length x.2, .int .i64 r.2]) ∧ St b (stl [Ck.var 42 pg0 (([Value.slice none 0 0] ++ ([Value.map none] ++ ([Value.bool false] ++ ([Value.int .i64 (0 : Int)] ++ [Value.bool false]))))), Ck.sl (Ec.int 5 .u8) x.1 x.2 r.1]) w' := by
  unfold block_Read_szero0.f at H
  refine enterb (n := 49) Try.func9 rfl (by kernel_rfl) (by kernel_rfl) hs0 ?_
  refine cs_sub (sput s0 0 (some (Ck.var 42 pg0 (([Value.slice none 0 0] ++ ([Value.map none] ++ ([Value.bool false] ++ ([Value.int .i64 (0 : Int)] ++ [Value.bool false])))))))) (sub_put (by exact rfl) (sub_nil _)) ?_
  refine cs_seq ?_
  refine cs_region (l := [_, _, _]) ?_
  refine ls_new rfl rfl (by kernel_rfl) 1 (fun g => .pointer (some ⟨g, 0, none⟩)) (.cells ⟨([Value.int .i64 a1.1] ++ ([Value.int .i64 a1.2.1] ++ ([Value.int .i64 a1.2.2.1] ++ ([Value.int .u32 a1.2.2.2.1] ++ en (Value.int .u8) a1.2.2.2.2.1))))⟩ 30) (fun w => by kernel_rfl) ?_
  intro g1
  refine ls_val (v := .slice none 0 0) rfl rfl (by kernel_rfl) (fun w => by kernel_rfl) ?_
  refine ls_val (v := .int .i64 (0 : Int)) rfl rfl (by kernel_rfl) (fun w => by kernel_rfl) ?_
  refine ls_end ?_
  refine qn_then ?_
  refine cs_seq ?_
  refine cs_seq ?_
  refine cs_region (l := [_, _, _, _]) ?_
  refine ls_val (v := .pointer (some ⟨pg0, 0, none⟩)) rfl rfl (by kernel_rfl) (fun w => by kernel_rfl) ?_
  refine ls_loadagg (a := ⟨g1, 0, none⟩) (sub := ([Value.int .i64 a1.1] ++ ([Value.int .i64 a1.2.1] ++ ([Value.int .i64 a1.2.2.1] ++ ([Value.int .u32 a1.2.2.2.1] ++ en (Value.int .u8) a1.2.2.2.2.1))))) rfl rfl (by kernel_rfl) rfl (by kernel_rfl) (by kernel_rfl) (by kernel_rfl) (len_app (len1 _) (len_app (len1 _) (len_app (len1 _) (len_app (len1 _) (len_en _ a1.2.2.2.2))))) (fun w hs => (hs.vars (k := 1) (by exact rfl) (Sub4.all _))) ?_
  have hc3 : block_check_szero0.f k a1 = some (1 : Int) := rfl
  refine ls_callb (fid := 17) (vals := #[.pointer (some ⟨pg0, 0, none⟩), .agg ⟨([Value.int .i64 a1.1] ++ ([Value.int .i64 a1.2.1] ++ ([Value.int .i64 a1.2.2.1] ++ ([Value.int .u32 a1.2.2.2.1] ++ en (Value.int .u8) a1.2.2.2.2.1))))⟩]) (X := Unit) (fun x => .int .i64 (1 : Int)) (fun x => stl [Ck.var 42 pg0 (([Value.slice none 0 0] ++ ([Value.map none] ++ ([Value.bool false] ++ ([Value.int .i64 (0 : Int)] ++ [Value.bool false])))))]) [0] [] [Ck.var 42 pg0 (([Value.slice none 0 0] ++ ([Value.map none] ++ ([Value.bool false] ++ ([Value.int .i64 (0 : Int)] ++ [Value.bool false])))))] [] 2 rfl rfl (by kernel_rfl) (fun w => by kernel_rfl) ⟨by exact rfl, trivial⟩ trivial (by decide) (fun w hs hb => block_check_szero0.calls k pg0 a1 (1 : Int) (lent b w [Ck.var 42 pg0 (([Value.slice none 0 0] ++ ([Value.map none] ++ ([Value.bool false] ++ ([Value.int .i64 (0 : Int)] ++ [Value.bool false])))))] []) hb  hc3) ?_
  intro x4
  refine ls_val (v := .int .i64 (1 : Int)) rfl rfl (by kernel_rfl) (fun w => by kernel_rfl) ?_
  refine ls_end ?_
  refine qn_then ?_
  refine cs_seq ?_
  refine cs_region (l := [_, _]) ?_
  refine ls_val (v := .int .i64 (1 : Int)) rfl rfl (by kernel_rfl) (fun w => by kernel_rfl) ?_
  refine ls_val (v := .bool true) rfl rfl (by kernel_rfl) (fun w => by kernel_rfl) ?_
  refine ls_end ?_
  refine qn_then ?_
  refine cs_true (by kernel_rfl) ?_
  refine cs_seq ?_
  refine cs_region (l := [_, _, _]) ?_
  refine ls_val (v := .int .i64 (1 : Int)) rfl rfl (by kernel_rfl) (fun w => by kernel_rfl) ?_
  refine ls_val (v := .slice none 0 0) rfl rfl (by kernel_rfl) (fun w => by kernel_rfl) ?_
  refine ls_val (v := .int .i64 (1 : Int)) rfl rfl (by kernel_rfl) (fun w => by kernel_rfl) ?_
  refine ls_end ?_
  refine qn_then ?_
  refine cs_ret' ?_
  refine qr_then ?_
  refine qr_nilrow 2 (Ec.int 5 .u8) ?_
  obtain rfl := Option.some.inj H
  refine qr_res (rs := [_, _]) rfl (fun w' hs => ⟨[.slice none 0 0, .int .i64 (1 : Int)], (res_tmp (by kernel_rfl) (res_tmp (by kernel_rfl) (.nil))), (none, 0), rfl, hs.pick (ts := [0, 2]) (cs := [Ck.var 42 pg0 (([Value.slice none 0 0] ++ ([Value.map none] ++ ([Value.bool false] ++ ([Value.int .i64 (0 : Int)] ++ [Value.bool false]))))), Ck.sl (Ec.int 5 .u8) none 0 ([] : List Int)]) ⟨by exact rfl, by exact rfl, trivial⟩ (by decide)⟩)

/-! ### shadowbox/block.Write, specialized: function 7 -/
def block_Write_szero0.f (k : Nat) (a1 : Int) (a2 : Int) (l3 : List Int) : Option ((Int × Int × Int × Int × (Vc Int 32)) × Int) :=
  some (((0 : Int), (0 : Int), (0 : Int), (0 : Int), (vrep 32 (0 : Int))), (1 : Int))
set_option maxRecDepth 100000 in
set_option maxHeartbeats 4000000 in
theorem block_Write_szero0.calls (k : Nat) (pg0 : Nat) (a1 : Int) (a2 : Int) (A3 : Option Addr) (c3 : Nat) (l3 : List Int) (r : (Int × Int × Int × Int × (Vc Int 32)) × Int) (b : Bs) (hs0 : St b (stl [Ck.var 42 pg0 (([Value.slice none 0 0] ++ ([Value.map none] ++ ([Value.bool false] ++ ([Value.int .i64 (0 : Int)] ++ [Value.bool false])))))]) b.w) (R3 : Ro b A3 (em (Ec.int 5 .u8) l3)) (C3 : l3.length ≤ c3) (H : block_Write_szero0.f k a1 a2 l3 = some r) :
    Calls Try.prog 7 #[.pointer (some ⟨pg0, 0, none⟩), .int .i64 a1, .int .i64 a2, .slice A3 l3.length c3] b.w fun e w' => ∃ x : Unit, e = .returned (.tuple #[.agg ⟨([Value.int .i64 r.1.1] ++ ([Value.int .i64 r.1.2.1] ++ ([Value.int .i64 r.1.2.2.1] ++ ([Value.int .u32 r.1.2.2.2.1] ++ en (Value.int .u8) r.1.2.2.2.2.1))))⟩, .int .i64 r.2]) ∧ St b (stl [Ck.var 42 pg0 (([Value.slice none 0 0] ++ ([Value.map none] ++ ([Value.bool false] ++ ([Value.int .i64 (0 : Int)] ++ [Value.bool false])))))]) w' := by
  unfold block_Write_szero0.f at H
  refine enterb (n := 64) Try.func7 rfl (by kernel_rfl) (by kernel_rfl) hs0 ?_
  refine cs_sub (sput s0 0 (some (Ck.var 42 pg0 (([Value.slice none 0 0] ++ ([Value.map none] ++ ([Value.bool false] ++ ([Value.int .i64 (0 : Int)] ++ [Value.bool false])))))))) (sub_put (by exact rfl) (sub_nil _)) ?_
  refine cs_seq ?_
  refine cs_region (l := [_, _]) ?_
  refine ls_new rfl rfl (by kernel_rfl) 1 (fun g => .pointer (some ⟨g, 0, none⟩)) (.cells ⟨([Value.int .i64 (0 : Int)] ++ ([Value.int .i64 (0 : Int)] ++ ([Value.int .i64 (0 : Int)] ++ ([Value.int .u32 (0 : Int)] ++ en (Value.int .u8) (vrep 32 (0 : Int)).1))))⟩ 30) (fun w => by kernel_rfl) ?_
  intro g1
  refine ls_val (v := .int .i64 (0 : Int)) rfl rfl (by kernel_rfl) (fun w => by kernel_rfl) ?_
  refine ls_end ?_
  refine qn_then ?_
  refine cs_seq ?_
  refine cs_seq ?_
  refine cs_region (l := [_, _, _]) ?_
  refine ls_val (v := .pointer (some ⟨pg0, 0, none⟩)) rfl rfl (by kernel_rfl) (fun w => by kernel_rfl) ?_
  have hc3 : disk_Disk_Len_szero0.f k = some (0 : Int) := rfl
  refine ls_callb (fid := 16) (vals := #[.pointer (some ⟨pg0, 0, none⟩)]) (X := Unit) (fun x => .int .i64 (0 : Int)) (fun x => stl [Ck.var 42 pg0 (([Value.slice none 0 0] ++ ([Value.map none] ++ ([Value.bool false] ++ ([Value.int .i64 (0 : Int)] ++ [Value.bool false])))))]) [0] [] [Ck.var 42 pg0 (([Value.slice none 0 0] ++ ([Value.map none] ++ ([Value.bool false] ++ ([Value.int .i64 (0 : Int)] ++ [Value.bool false])))))] [] 2 rfl rfl (by kernel_rfl) (fun w => by kernel_rfl) ⟨by exact rfl, trivial⟩ trivial (by decide) (fun w hs hb => disk_Disk_Len_szero0.calls k pg0 (0 : Int) (lent b w [Ck.var 42 pg0 (([Value.slice none 0 0] ++ ([Value.map none] ++ ([Value.bool false] ++ ([Value.int .i64 (0 : Int)] ++ [Value.bool false])))))] []) hb  hc3) ?_
  intro x4
  refine ls_val (v := .bool true) rfl rfl (by kernel_rfl) (fun w => by kernel_rfl) ?_
  refine ls_end ?_
  refine qn_then ?_
  refine cs_true (by kernel_rfl) ?_
  refine cs_seq ?_
  refine cs_region (l := [_, _, _]) ?_
  refine ls_build (ps := []) (pl := #[(0, 1), (1, 1), (2, 1), (3, 1), (4, 32)]) (zv := .agg ⟨([Value.int .i64 (0 : Int)] ++ ([Value.int .i64 (0 : Int)] ++ ([Value.int .i64 (0 : Int)] ++ ([Value.int .u32 (0 : Int)] ++ en (Value.int .u8) (vrep 32 (0 : Int)).1))))⟩) (zc := ([Value.int .i64 (0 : Int)] ++ ([Value.int .i64 (0 : Int)] ++ ([Value.int .i64 (0 : Int)] ++ ([Value.int .u32 (0 : Int)] ++ en (Value.int .u8) (vrep 32 (0 : Int)).1))))) (r := ([Value.int .i64 (0 : Int)] ++ ([Value.int .i64 (0 : Int)] ++ ([Value.int .i64 (0 : Int)] ++ ([Value.int .u32 (0 : Int)] ++ en (Value.int .u8) (vrep 32 (0 : Int)).1))))) rfl rfl (by kernel_rfl) rfl (by kernel_rfl) (by kernel_rfl) (fun w => by kernel_rfl) (fun w => by kernel_rfl) rfl fill_nil ?_
  refine ls_storec (g := g1) (off := 0) (v := .agg ⟨([Value.int .i64 (0 : Int)] ++ ([Value.int .i64 (0 : Int)] ++ ([Value.int .i64 (0 : Int)] ++ ([Value.int .u32 (0 : Int)] ++ en (Value.int .u8) (vrep 32 (0 : Int)).1))))⟩) (vs := ([Value.int .i64 (0 : Int)] ++ ([Value.int .i64 (0 : Int)] ++ ([Value.int .i64 (0 : Int)] ++ ([Value.int .u32 (0 : Int)] ++ en (Value.int .u8) (vrep 32 (0 : Int)).1))))) (cs := ([Value.int .i64 (0 : Int)] ++ ([Value.int .i64 (0 : Int)] ++ ([Value.int .i64 (0 : Int)] ++ ([Value.int .u32 (0 : Int)] ++ en (Value.int .u8) (vrep 32 (0 : Int)).1))))) (ty := 30) 1 rfl rfl rfl (by kernel_rfl) (by kernel_rfl) (by kernel_rfl) (by exact rfl) (by kernel_rfl) (len_app (len1 _) (len_app (len1 _) (len_app (len1 _) (len_app (len1 _) (len_en _ (vrep 32 (0 : Int))))))) (one_app (one_cons rfl one_nil) (one_app (one_cons rfl one_nil) (one_app (one_cons rfl one_nil) (one_app (one_cons rfl one_nil) (one_en (fun _ => rfl) _))))) (hl_of (Sub4.all _) (len_eq (len_app (len1 _) (len_app (len1 _) (len_app (len1 _) (len_app (len1 _) (len_en _ (vrep 32 (0 : Int))))))) (len_app (len1 _) (len_app (len1 _) (len_app (len1 _) (len_app (len1 _) (len_en _ (vrep 32 (0 : Int))))))))) (cs' := ([Value.int .i64 (0 : Int)] ++ ([Value.int .i64 (0 : Int)] ++ ([Value.int .i64 (0 : Int)] ++ ([Value.int .u32 (0 : Int)] ++ en (Value.int .u8) (vrep 32 (0 : Int)).1))))) (splc_all (len_eq (len_app (len1 _) (len_app (len1 _) (len_app (len1 _) (len_app (len1 _) (len_en _ (vrep 32 (0 : Int))))))) (len_app (len1 _) (len_app (len1 _) (len_app (len1 _) (len_app (len1 _) (len_en _ (vrep 32 (0 : Int))))))))) ?_
  refine ls_val (v := .int .i64 (1 : Int)) rfl rfl (by kernel_rfl) (fun w => by kernel_rfl) ?_
  refine ls_end ?_
  refine qn_then ?_
  refine cs_ret' ?_
  refine qr_then ?_
  obtain rfl := Option.some.inj H
  refine qr_res (rs := [_, _]) rfl (fun w' hs => ⟨[.agg ⟨([Value.int .i64 (0 : Int)] ++ ([Value.int .i64 (0 : Int)] ++ ([Value.int .i64 (0 : Int)] ++ ([Value.int .u32 (0 : Int)] ++ en (Value.int .u8) (vrep 32 (0 : Int)).1))))⟩, .int .i64 (1 : Int)], (.cell (by kernel_rfl) (run_cellres (by kernel_rfl) (by kernel_rfl) (len_app (len1 _) (len_app (len1 _) (len_app (len1 _) (len_app (len1 _) (len_en _ (vrep 32 (0 : Int))))))) (hs.holds 1 _ (by exact rfl))) (res_tmp (by kernel_rfl) (.nil))), (), rfl, hs.pick (ts := [0]) (cs := [Ck.var 42 pg0 (([Value.slice none 0 0] ++ ([Value.map none] ++ ([Value.bool false] ++ ([Value.int .i64 (0 : Int)] ++ [Value.bool false])))))]) ⟨by exact rfl, trivial⟩ (by decide)⟩)

/-! ### shadowbox/shadowboxlaw07.BlockNobody: function 4 -/
def shadowboxlaw07_BlockNobody.f (k : Nat) (a0 : (Int × Int × Int × Int × (Vc Int 32))) (l1 : List Int) : Option (Bool) :=
  (block_Read_snil0.f k a0).bind fun t6 => (block_Write_snil0.f k a0.1 a0.2.1 l1).bind fun t9 => (if (t6.1.length : Int) = (0 : Int) then (if t6.2 = (1 : Int) then (if ((t9.1.1 == (0 : Int)) && ((t9.1.2.1 == (0 : Int)) && ((t9.1.2.2.1 == (0 : Int)) && ((t9.1.2.2.2.1 == (0 : Int)) && (t9.1.2.2.2.2.1 == (vrep 32 (0 : Int)).1))))) = true then (if t9.2 = (1 : Int) then (block_Read_szero0.f k a0).bind fun t19 => (block_Write_szero0.f k a0.1 a0.2.1 l1).bind fun t22 => (if (t19.1.length : Int) = (0 : Int) then (if t19.2 = (1 : Int) then (if ((t22.1.1 == (0 : Int)) && ((t22.1.2.1 == (0 : Int)) && ((t22.1.2.2.1 == (0 : Int)) && ((t22.1.2.2.2.1 == (0 : Int)) && (t22.1.2.2.2.2.1 == (vrep 32 (0 : Int)).1))))) = true then (if t22.2 = (1 : Int) then some true else some false) else some false) else some false) else some false) else some false) else some false) else some false) else some false)
set_option maxRecDepth 100000 in
set_option maxHeartbeats 4000000 in
theorem shadowboxlaw07_BlockNobody.calls (k : Nat) (a0 : (Int × Int × Int × Int × (Vc Int 32))) (A1 : Option Addr) (c1 : Nat) (l1 : List Int) (r : Bool) (b : Bs) (hs0 : St b (stl []) b.w) (R1 : Ro b A1 (em (Ec.int 5 .u8) l1)) (C1 : l1.length ≤ c1) (H : shadowboxlaw07_BlockNobody.f k a0 l1 = some r) :
    Calls Try.prog 4 #[.agg ⟨([Value.int .i64 a0.1] ++ ([Value.int .i64 a0.2.1] ++ ([Value.int .i64 a0.2.2.1] ++ ([Value.int .u32 a0.2.2.2.1] ++ en (Value.int .u8) a0.2.2.2.2.1))))⟩, .slice A1 l1.length c1] b.w fun e w' => ∃ x : Unit, e = .returned (.bool r) ∧ St b (stl []) w' := by
  unfold shadowboxlaw07_BlockNobody.f at H
  refine enterb (n := 52) Try.func4 rfl (by kernel_rfl) (by kernel_rfl) hs0 ?_
  refine cs_sub (s0) (sub_nil _) ?_
  refine cs_seq ?_
  refine cs_region (l := [_, _]) ?_
  refine ls_new rfl rfl (by kernel_rfl) 0 (fun g => .pointer (some ⟨g, 0, none⟩)) (.cells ⟨([Value.int .i64 a0.1] ++ ([Value.int .i64 a0.2.1] ++ ([Value.int .i64 a0.2.2.1] ++ ([Value.int .u32 a0.2.2.2.1] ++ en (Value.int .u8) a0.2.2.2.2.1))))⟩ 30) (fun w => by kernel_rfl) ?_
  intro g1
  refine ls_val (v := .bool false) rfl rfl (by kernel_rfl) (fun w => by kernel_rfl) ?_
  refine ls_end ?_
  refine qn_then ?_
  refine cs_seq ?_
  refine cs_seq ?_
  refine cs_region (l := [_, _, _, _, _]) ?_
  refine ls_val (v := .agg ⟨([Value.slice none 0 0] ++ ([Value.map none] ++ ([Value.bool false] ++ ([Value.int .i64 (0 : Int)] ++ [Value.bool false]))))⟩) rfl rfl (by kernel_rfl) (fun w => by kernel_rfl) ?_
  refine ls_new rfl rfl (by kernel_rfl) 1 (fun g => .pointer (some ⟨g, 0, none⟩)) (.cells ⟨([Value.slice none 0 0] ++ ([Value.map none] ++ ([Value.bool false] ++ ([Value.int .i64 (0 : Int)] ++ [Value.bool false]))))⟩ 42) (fun w => by kernel_rfl) ?_
  intro g2
  refine ls_lit (Ec.ptr 24) 2 rfl rfl (by kernel_rfl) ([none, (some g2)]) (by exact of_decide_eq_true (by kernel_rfl)) (fun w => by kernel_rfl) ?_
  intro g3
  refine ls_val (v := .int .i64 (2 : Int)) rfl rfl (by kernel_rfl) (fun w => by kernel_rfl) ?_
  refine ls_val (v := .int .i64 (0 : Int)) rfl rfl (by kernel_rfl) (fun w => by kernel_rfl) ?_
  refine ls_end ?_
  refine qn_then ?_
  refine cs_block ?_
  refine cs_rounds 3 ?_
  refine rs_succ ?_
  refine cs_seq ?_
  refine cs_region (l := [_]) ?_
  refine ls_val (v := .bool true) rfl rfl (by kernel_rfl) (fun w => by kernel_rfl) ?_
  refine ls_end ?_
  refine qn_then ?_
  refine cs_seq ?_
  refine cs_true (by kernel_rfl) ?_
  refine cs_skip' ?_
  refine qn_then ?_
  refine cs_seq ?_
  refine cs_block ?_
  refine cs_seq ?_
  refine cs_region (l := [_, _, _]) ?_
  refine ls_at (T := (Ec.ptr 24)) (tk := 2) (i := (0 : Int)) (by exact rfl) (by decide) (show (0 : Int) < (([none, (some g2)]).length : Int) from of_decide_eq_true (by kernel_rfl)) ?_
  intro ad4 hA5
  refine ls_idxv (Ec.ptr 24) (A := (some ⟨g3, 0, none⟩)) (c := [none, (some g2)].length) (l := [none, (some g2)]) (k := .i64) (i := (0 : Int)) (z := 1) (ad := ad4) rfl rfl (by kernel_rfl) hA5 rfl (by kernel_rfl) (by kernel_rfl) (by kernel_rfl) (by kernel_rfl) (by decide) (show (0 : Int) < (([none, (some g2)]).length : Int) from of_decide_eq_true (by kernel_rfl)) ?_
  refine ls_load (a0 := (ad4.add (((0 : Int)).toNat * 1))) (v := .pointer none) (de := (TypeDesc.pointer 42)) rfl rfl (by kernel_rfl) rfl (by kernel_rfl) (by kernel_rfl) (by kernel_rfl) (fun w hs => (hs.rd (k := 2) (by exact rfl)).at hA5 (em_sub (Ec.ptr 24) ([none, (some g2)]) (i := ((0 : Int)).toNat) (by have h0 : (0 : Int) ≤ (0 : Int) := (by decide); have h1 : (0 : Int) < (([none, (some g2)]).length : Int) := (show (0 : Int) < (([none, (some g2)]).length : Int) from of_decide_eq_true (by kernel_rfl)); omega))) ?_
  refine ls_val (v := .pointer none) rfl rfl (by kernel_rfl) (fun w => by kernel_rfl) ?_
  refine ls_end ?_
  refine qn_then ?_
  refine cs_seq ?_
  refine cs_region (l := [_, _, _, _, _, _, _, _]) ?_
  refine ls_val (v := .pointer none) rfl rfl (by kernel_rfl) (fun w => by kernel_rfl) ?_
  refine ls_loadagg (a := ⟨g1, 0, none⟩) (sub := ([Value.int .i64 a0.1] ++ ([Value.int .i64 a0.2.1] ++ ([Value.int .i64 a0.2.2.1] ++ ([Value.int .u32 a0.2.2.2.1] ++ en (Value.int .u8) a0.2.2.2.2.1))))) rfl rfl (by kernel_rfl) rfl (by kernel_rfl) (by kernel_rfl) (by kernel_rfl) (len_app (len1 _) (len_app (len1 _) (len_app (len1 _) (len_app (len1 _) (len_en _ a0.2.2.2.2))))) (fun w hs => (hs.vars (k := 0) (by exact rfl) (Sub4.all _))) ?_
  obtain ⟨t6, hc7, H⟩ := bind_some H
  refine ls_callb (fid := 9) (vals := #[.pointer none, .agg ⟨([Value.int .i64 a0.1] ++ ([Value.int .i64 a0.2.1] ++ ([Value.int .i64 a0.2.2.1] ++ ([Value.int .u32 a0.2.2.2.1] ++ en (Value.int .u8) a0.2.2.2.2.1))))⟩]) (X := (Option Addr × Nat)) (fun x => .tuple #[.slice x.1 t6.1.length x.2, .int .i64 t6.2]) (fun x => stl [Ck.sl (Ec.int 5 .u8) x.1 x.2 t6.1]) [] [] [] [] 3 rfl rfl (by kernel_rfl) (fun w => by kernel_rfl) trivial trivial (by decide) (fun w hs hb => block_Read_snil0.calls k a0 t6 (lent b w [] []) hb  hc7) ?_
  intro x8
  refine ls_val (v := .tuple #[.slice x8.1 t6.1.length x8.2, .int .i64 t6.2]) rfl rfl (by kernel_rfl) (fun w => by kernel_rfl) ?_
  refine ls_val (v := .slice x8.1 t6.1.length x8.2) rfl rfl (by kernel_rfl) (fun w => by kernel_rfl) ?_
  refine ls_val (v := .int .i64 t6.2) rfl rfl (by kernel_rfl) (fun w => by kernel_rfl) ?_
  refine ls_val (v := .slice x8.1 t6.1.length x8.2) rfl rfl (by kernel_rfl) (fun w => by kernel_rfl) ?_
  refine ls_val (v := .int .i64 t6.2) rfl rfl (by kernel_rfl) (fun w => by kernel_rfl) ?_
  refine ls_end ?_
  refine qn_then ?_
  refine cs_seq ?_
  refine cs_region (l := [_, _, _, _, _, _, _, _, _, _, _, _, _]) ?_
  refine ls_val (v := .pointer none) rfl rfl (by kernel_rfl) (fun w => by kernel_rfl) ?_
  refine ls_val (v := .pointer (some ⟨g1, (0 + 0), none⟩)) rfl rfl (by kernel_rfl) (fun w => by kernel_rfl) ?_
  refine ls_load (a0 := ⟨g1, (0 + 0), none⟩) (v := .int .i64 a0.1) (de := (TypeDesc.int .i64)) rfl rfl (by kernel_rfl) rfl (by kernel_rfl) (by kernel_rfl) (by kernel_rfl) (fun w hs => (hs.var (k := 0) (by exact rfl) (Sub4.trans (Sub4.all _) (Sub4.head _ _)))) ?_
  refine ls_val (v := .pointer (some ⟨g1, (0 + 1), none⟩)) rfl rfl (by kernel_rfl) (fun w => by kernel_rfl) ?_
  refine ls_load (a0 := ⟨g1, (0 + 1), none⟩) (v := .int .i64 a0.2.1) (de := (TypeDesc.int .i64)) rfl rfl (by kernel_rfl) rfl (by kernel_rfl) (by kernel_rfl) (by kernel_rfl) (fun w hs => (hs.var (k := 0) (by exact rfl) (Sub4.trans (Sub4.all _) (Sub4.skip (n := 1) (len1 _) (Sub4.head _ _))))) ?_
  refine ls_val (v := .slice A1 l1.length c1) rfl rfl (by kernel_rfl) (fun w => by kernel_rfl) ?_
  obtain ⟨t9, hc10, H⟩ := bind_some H
  refine ls_callb (fid := 7) (vals := #[.pointer none, .int .i64 a0.1, .int .i64 a0.2.1, .slice A1 l1.length c1]) (X := Unit) (fun x => .tuple #[.agg ⟨([Value.int .i64 t9.1.1] ++ ([Value.int .i64 t9.1.2.1] ++ ([Value.int .i64 t9.1.2.2.1] ++ ([Value.int .u32 t9.1.2.2.2.1] ++ en (Value.int .u8) t9.1.2.2.2.2.1))))⟩, .int .i64 t9.2]) (fun x => stl []) [] [] [] [] 4 rfl rfl (by kernel_rfl) (fun w => by kernel_rfl) trivial trivial (by decide) (fun w hs hb => block_Write_snil0.calls k a0.1 a0.2.1 A1 c1 l1 t9 (lent b w [] []) hb (hs.ro R1 _ _) C1 hc10) ?_
  intro x11
  refine ls_val (v := .tuple #[.agg ⟨([Value.int .i64 t9.1.1] ++ ([Value.int .i64 t9.1.2.1] ++ ([Value.int .i64 t9.1.2.2.1] ++ ([Value.int .u32 t9.1.2.2.2.1] ++ en (Value.int .u8) t9.1.2.2.2.2.1))))⟩, .int .i64 t9.2]) rfl rfl (by kernel_rfl) (fun w => by kernel_rfl) ?_
  refine ls_val (v := .agg ⟨([Value.int .i64 t9.1.1] ++ ([Value.int .i64 t9.1.2.1] ++ ([Value.int .i64 t9.1.2.2.1] ++ ([Value.int .u32 t9.1.2.2.2.1] ++ en (Value.int .u8) t9.1.2.2.2.2.1))))⟩) rfl rfl (by kernel_rfl) (fun w => by kernel_rfl) ?_
  refine ls_val (v := .int .i64 t9.2) rfl rfl (by kernel_rfl) (fun w => by kernel_rfl) ?_
  refine ls_new rfl rfl (by kernel_rfl) 4 (fun g => .pointer (some ⟨g, 0, none⟩)) (.cells ⟨([Value.int .i64 (0 : Int)] ++ ([Value.int .i64 (0 : Int)] ++ ([Value.int .i64 (0 : Int)] ++ ([Value.int .u32 (0 : Int)] ++ en (Value.int .u8) (vrep 32 (0 : Int)).1))))⟩ 30) (fun w => by kernel_rfl) ?_
  intro g12
  refine ls_storec (g := g12) (off := 0) (v := .agg ⟨([Value.int .i64 t9.1.1] ++ ([Value.int .i64 t9.1.2.1] ++ ([Value.int .i64 t9.1.2.2.1] ++ ([Value.int .u32 t9.1.2.2.2.1] ++ en (Value.int .u8) t9.1.2.2.2.2.1))))⟩) (vs := ([Value.int .i64 t9.1.1] ++ ([Value.int .i64 t9.1.2.1] ++ ([Value.int .i64 t9.1.2.2.1] ++ ([Value.int .u32 t9.1.2.2.2.1] ++ en (Value.int .u8) t9.1.2.2.2.2.1))))) (cs := ([Value.int .i64 (0 : Int)] ++ ([Value.int .i64 (0 : Int)] ++ ([Value.int .i64 (0 : Int)] ++ ([Value.int .u32 (0 : Int)] ++ en (Value.int .u8) (vrep 32 (0 : Int)).1))))) (ty := 30) 4 rfl rfl rfl (by kernel_rfl) (by kernel_rfl) (by kernel_rfl) (by exact rfl) (by kernel_rfl) (len_app (len1 _) (len_app (len1 _) (len_app (len1 _) (len_app (len1 _) (len_en _ t9.1.2.2.2.2))))) (one_app (one_cons rfl one_nil) (one_app (one_cons rfl one_nil) (one_app (one_cons rfl one_nil) (one_app (one_cons rfl one_nil) (one_en (fun _ => rfl) _))))) (hl_of (Sub4.all _) (len_eq (len_app (len1 _) (len_app (len1 _) (len_app (len1 _) (len_app (len1 _) (len_en _ t9.1.2.2.2.2))))) (len_app (len1 _) (len_app (len1 _) (len_app (len1 _) (len_app (len1 _) (len_en _ (vrep 32 (0 : Int))))))))) (cs' := ([Value.int .i64 t9.1.1] ++ ([Value.int .i64 t9.1.2.1] ++ ([Value.int .i64 t9.1.2.2.1] ++ ([Value.int .u32 t9.1.2.2.2.1] ++ en (Value.int .u8) t9.1.2.2.2.2.1))))) (splc_all (len_eq (len_app (len1 _) (len_app (len1 _) (len_app (len1 _) (len_app (len1 _) (len_en _ t9.1.2.2.2.2))))) (len_app (len1 _) (len_app (len1 _) (len_app (len1 _) (len_app (len1 _) (len_en _ (vrep 32 (0 : Int))))))))) ?_
  refine ls_val (v := .int .i64 t9.2) rfl rfl (by kernel_rfl) (fun w => by kernel_rfl) ?_
  refine ls_end ?_
  refine qn_then ?_
  refine cs_seq ?_
  refine cs_region (l := [_, _, _, _, _, _, _, _, _, _, _, _, _, _, _, _]) ?_
  refine ls_val (v := .slice x8.1 t6.1.length x8.2) rfl rfl (by kernel_rfl) (fun w => by kernel_rfl) ?_
  refine ls_val (v := .int .i64 (t6.1.length : Int)) rfl rfl (by kernel_rfl) (fun w => by kernel_rfl) ?_
  refine ls_val (v := .bool (!decide ((t6.1.length : Int) = (0 : Int)))) rfl rfl (by kernel_rfl) (fun w => by kernel_rfl) ?_
  refine ls_val (v := .bool (!decide ((t6.1.length : Int) = (0 : Int)))) rfl rfl (by kernel_rfl) (fun w => by kernel_rfl) ?_
  by_cases q13 : (t6.1.length : Int) = (0 : Int)
  · replace H := ite_t q13 H
    refine ls_know (c := false) (congrArg Bool.not (dec_t q13)) 38 (by kernel_rfl) ?_
    refine ls_on (j := 3) (t := 38) (b := false) rfl rfl (by kernel_rfl) (by kernel_rfl) ?_
    refine ls_val (v := .int .i64 t6.2) rfl rfl (by kernel_rfl) (fun w => by kernel_rfl) ?_
    refine ls_on (j := 3) (t := 38) (b := false) rfl rfl (by kernel_rfl) (by kernel_rfl) ?_
    refine ls_val (v := .bool (!decide (t6.2 = (1 : Int)))) rfl rfl (by kernel_rfl) (fun w => by kernel_rfl) ?_
    refine ls_val (v := .bool (!decide (t6.2 = (1 : Int)))) rfl rfl (by kernel_rfl) (fun w => by kernel_rfl) ?_
    refine ls_val (v := .bool (!decide (t6.2 = (1 : Int)))) rfl rfl (by kernel_rfl) (fun w => by kernel_rfl) ?_
    by_cases q14 : t6.2 = (1 : Int)
    · replace H := ite_t q14 H
      refine ls_know (c := false) (congrArg Bool.not (dec_t q14)) 42 (by kernel_rfl) ?_
      refine ls_on (j := 7) (t := 42) (b := false) rfl rfl (by kernel_rfl) (by kernel_rfl) ?_
      refine ls_loadagg (a := ⟨g12, 0, none⟩) (sub := ([Value.int .i64 t9.1.1] ++ ([Value.int .i64 t9.1.2.1] ++ ([Value.int .i64 t9.1.2.2.1] ++ ([Value.int .u32 t9.1.2.2.2.1] ++ en (Value.int .u8) t9.1.2.2.2.2.1))))) rfl rfl (by kernel_rfl) rfl (by kernel_rfl) (by kernel_rfl) (by kernel_rfl) (len_app (len1 _) (len_app (len1 _) (len_app (len1 _) (len_app (len1 _) (len_en _ t9.1.2.2.2.2))))) (fun w hs => (hs.vars (k := 4) (by exact rfl) (Sub4.all _))) ?_
      refine ls_on (j := 7) (t := 42) (b := false) rfl rfl (by kernel_rfl) (by kernel_rfl) ?_
      refine ls_build (ps := []) (pl := #[(0, 1), (1, 1), (2, 1), (3, 1), (4, 32)]) (zv := .agg ⟨([Value.int .i64 (0 : Int)] ++ ([Value.int .i64 (0 : Int)] ++ ([Value.int .i64 (0 : Int)] ++ ([Value.int .u32 (0 : Int)] ++ en (Value.int .u8) (vrep 32 (0 : Int)).1))))⟩) (zc := ([Value.int .i64 (0 : Int)] ++ ([Value.int .i64 (0 : Int)] ++ ([Value.int .i64 (0 : Int)] ++ ([Value.int .u32 (0 : Int)] ++ en (Value.int .u8) (vrep 32 (0 : Int)).1))))) (r := ([Value.int .i64 (0 : Int)] ++ ([Value.int .i64 (0 : Int)] ++ ([Value.int .i64 (0 : Int)] ++ ([Value.int .u32 (0 : Int)] ++ en (Value.int .u8) (vrep 32 (0 : Int)).1))))) rfl rfl (by kernel_rfl) rfl (by kernel_rfl) (by kernel_rfl) (fun w => by kernel_rfl) (fun w => by kernel_rfl) rfl fill_nil ?_
      refine ls_on (j := 7) (t := 42) (b := false) rfl rfl (by kernel_rfl) (by kernel_rfl) ?_
      refine ls_neq (xs := ([Value.int .i64 t9.1.1] ++ ([Value.int .i64 t9.1.2.1] ++ ([Value.int .i64 t9.1.2.2.1] ++ ([Value.int .u32 t9.1.2.2.2.1] ++ en (Value.int .u8) t9.1.2.2.2.2.1))))) (ys := ([Value.int .i64 (0 : Int)] ++ ([Value.int .i64 (0 : Int)] ++ ([Value.int .i64 (0 : Int)] ++ ([Value.int .u32 (0 : Int)] ++ en (Value.int .u8) (vrep 32 (0 : Int)).1))))) (r := ((t9.1.1 == (0 : Int)) && ((t9.1.2.1 == (0 : Int)) && ((t9.1.2.2.1 == (0 : Int)) && ((t9.1.2.2.2.1 == (0 : Int)) && (t9.1.2.2.2.2.1 == (vrep 32 (0 : Int)).1)))))) rfl rfl (by kernel_rfl) rfl (by kernel_rfl) (by kernel_rfl) (by kernel_rfl) (eq_st (by kernel_rfl) (by kernel_rfl) (eqf_cons (ft := 3) (fo := 0) (by kernel_rfl) (part_one (by kernel_rfl) (Sub4.trans (Sub4.all _) (Sub4.head _ _))) (part_one (by kernel_rfl) (Sub4.trans (Sub4.all _) (Sub4.head _ _))) (eq_int (by kernel_rfl) _ _ _) (eqf_cons (ft := 3) (fo := 1) (by kernel_rfl) (part_one (by kernel_rfl) (Sub4.trans (Sub4.all _) (Sub4.skip (n := 1) (len1 _) (Sub4.head _ _)))) (part_one (by kernel_rfl) (Sub4.trans (Sub4.all _) (Sub4.skip (n := 1) (len1 _) (Sub4.head _ _)))) (eq_int (by kernel_rfl) _ _ _) (eqf_cons (ft := 3) (fo := 2) (by kernel_rfl) (part_one (by kernel_rfl) (Sub4.trans (Sub4.all _) (Sub4.skip (n := 1) (len1 _) (Sub4.skip (n := 1) (len1 _) (Sub4.head _ _))))) (part_one (by kernel_rfl) (Sub4.trans (Sub4.all _) (Sub4.skip (n := 1) (len1 _) (Sub4.skip (n := 1) (len1 _) (Sub4.head _ _))))) (eq_int (by kernel_rfl) _ _ _) (eqf_cons (ft := 23) (fo := 3) (by kernel_rfl) (part_one (by kernel_rfl) (Sub4.trans (Sub4.all _) (Sub4.skip (n := 1) (len1 _) (Sub4.skip (n := 1) (len1 _) (Sub4.skip (n := 1) (len1 _) (Sub4.head _ _)))))) (part_one (by kernel_rfl) (Sub4.trans (Sub4.all _) (Sub4.skip (n := 1) (len1 _) (Sub4.skip (n := 1) (len1 _) (Sub4.skip (n := 1) (len1 _) (Sub4.head _ _)))))) (eq_int (by kernel_rfl) _ _ _) (eqf_last (ft := 28) (fo := 4) (by kernel_rfl) (part_agg (by kernel_rfl) (by kernel_rfl) (len_en _ t9.1.2.2.2.2) (Sub4.trans (Sub4.all _) (Sub4.skip (n := 1) (len1 _) (Sub4.skip (n := 1) (len1 _) (Sub4.skip (n := 1) (len1 _) (Sub4.skip (n := 1) (len1 _) (Sub4.all _))))))) (part_agg (by kernel_rfl) (by kernel_rfl) (len_en _ (vrep 32 (0 : Int))) (Sub4.trans (Sub4.all _) (Sub4.skip (n := 1) (len1 _) (Sub4.skip (n := 1) (len1 _) (Sub4.skip (n := 1) (len1 _) (Sub4.skip (n := 1) (len1 _) (Sub4.all _))))))) (eq_ints (e := 5) (ln := 32) (by kernel_rfl) (by kernel_rfl) (by kernel_rfl) t9.1.2.2.2.2.2 (vrep 32 (0 : Int)).2 _) (by kernel_rfl))))))) ?_
      refine ls_val (v := .bool (!((t9.1.1 == (0 : Int)) && ((t9.1.2.1 == (0 : Int)) && ((t9.1.2.2.1 == (0 : Int)) && ((t9.1.2.2.2.1 == (0 : Int)) && (t9.1.2.2.2.2.1 == (vrep 32 (0 : Int)).1))))))) rfl rfl (by kernel_rfl) (fun w => by kernel_rfl) ?_
      refine ls_val (v := .bool (!((t9.1.1 == (0 : Int)) && ((t9.1.2.1 == (0 : Int)) && ((t9.1.2.2.1 == (0 : Int)) && ((t9.1.2.2.2.1 == (0 : Int)) && (t9.1.2.2.2.2.1 == (vrep 32 (0 : Int)).1))))))) rfl rfl (by kernel_rfl) (fun w => by kernel_rfl) ?_
      by_cases q15 : ((t9.1.1 == (0 : Int)) && ((t9.1.2.1 == (0 : Int)) && ((t9.1.2.2.1 == (0 : Int)) && ((t9.1.2.2.2.1 == (0 : Int)) && (t9.1.2.2.2.2.1 == (vrep 32 (0 : Int)).1))))) = true
      · replace H := ite_t q15 H
        refine ls_know (c := false) (congrArg Bool.not (q15)) 47 (by kernel_rfl) ?_
        refine ls_on (j := 12) (t := 47) (b := false) rfl rfl (by kernel_rfl) (by kernel_rfl) ?_
        refine ls_val (v := .int .i64 t9.2) rfl rfl (by kernel_rfl) (fun w => by kernel_rfl) ?_
        refine ls_on (j := 12) (t := 47) (b := false) rfl rfl (by kernel_rfl) (by kernel_rfl) ?_
        refine ls_val (v := .bool (!decide (t9.2 = (1 : Int)))) rfl rfl (by kernel_rfl) (fun w => by kernel_rfl) ?_
        refine ls_val (v := .bool (!decide (t9.2 = (1 : Int)))) rfl rfl (by kernel_rfl) (fun w => by kernel_rfl) ?_
        refine ls_end ?_
        refine qn_then ?_
        by_cases q16 : t9.2 = (1 : Int)
        · replace H := ite_t q16 H
          refine cs_know (c := false) (congrArg Bool.not (dec_t q16)) 50 (by kernel_rfl) ?_
          refine cs_false (by kernel_rfl) ?_
          refine cs_skip' ?_
          refine qn_block ?_
          refine qn_then ?_
          refine cs_region (l := [_, _]) ?_
          refine ls_val (v := .int .i64 (1 : Int)) rfl rfl (by kernel_rfl) (fun w => by kernel_rfl) ?_
          refine ls_val (v := .int .i64 (1 : Int)) rfl rfl (by kernel_rfl) (fun w => by kernel_rfl) ?_
          refine ls_end ?_
          refine qn_rounds ?_
          refine rs_succ ?_
          refine cs_seq ?_
          refine cs_region (l := [_]) ?_
          refine ls_val (v := .bool true) rfl rfl (by kernel_rfl) (fun w => by kernel_rfl) ?_
          refine ls_end ?_
          refine qn_then ?_
          refine cs_seq ?_
          refine cs_true (by kernel_rfl) ?_
          refine cs_skip' ?_
          refine qn_then ?_
          refine cs_seq ?_
          refine cs_block ?_
          refine cs_seq ?_
          refine cs_region (l := [_, _, _]) ?_
          refine ls_at (T := (Ec.ptr 24)) (tk := 2) (i := (1 : Int)) (by exact rfl) (by decide) (show (1 : Int) < (([none, (some g2)]).length : Int) from of_decide_eq_true (by kernel_rfl)) ?_
          intro ad17 hA18
          refine ls_idxv (Ec.ptr 24) (A := (some ⟨g3, 0, none⟩)) (c := [none, (some g2)].length) (l := [none, (some g2)]) (k := .i64) (i := (1 : Int)) (z := 1) (ad := ad17) rfl rfl (by kernel_rfl) hA18 rfl (by kernel_rfl) (by kernel_rfl) (by kernel_rfl) (by kernel_rfl) (by decide) (show (1 : Int) < (([none, (some g2)]).length : Int) from of_decide_eq_true (by kernel_rfl)) ?_
          refine ls_load (a0 := (ad17.add (((1 : Int)).toNat * 1))) (v := .pointer (some ⟨g2, 0, none⟩)) (de := (TypeDesc.pointer 42)) rfl rfl (by kernel_rfl) rfl (by kernel_rfl) (by kernel_rfl) (by kernel_rfl) (fun w hs => (hs.rd (k := 2) (by exact rfl)).at hA18 (em_sub (Ec.ptr 24) ([none, (some g2)]) (i := ((1 : Int)).toNat) (by have h0 : (0 : Int) ≤ (1 : Int) := (by decide); have h1 : (1 : Int) < (([none, (some g2)]).length : Int) := (show (1 : Int) < (([none, (some g2)]).length : Int) from of_decide_eq_true (by kernel_rfl)); omega))) ?_
          refine ls_val (v := .pointer (some ⟨g2, 0, none⟩)) rfl rfl (by kernel_rfl) (fun w => by kernel_rfl) ?_
          refine ls_end ?_
          refine qn_then ?_
          refine cs_seq ?_
          refine cs_region (l := [_, _, _, _, _, _, _, _]) ?_
          refine ls_val (v := .pointer (some ⟨g2, 0, none⟩)) rfl rfl (by kernel_rfl) (fun w => by kernel_rfl) ?_
          refine ls_loadagg (a := ⟨g1, 0, none⟩) (sub := ([Value.int .i64 a0.1] ++ ([Value.int .i64 a0.2.1] ++ ([Value.int .i64 a0.2.2.1] ++ ([Value.int .u32 a0.2.2.2.1] ++ en (Value.int .u8) a0.2.2.2.2.1))))) rfl rfl (by kernel_rfl) rfl (by kernel_rfl) (by kernel_rfl) (by kernel_rfl) (len_app (len1 _) (len_app (len1 _) (len_app (len1 _) (len_app (len1 _) (len_en _ a0.2.2.2.2))))) (fun w hs => (hs.vars (k := 0) (by exact rfl) (Sub4.all _))) ?_
          obtain ⟨t19, hc20, H⟩ := bind_some H
          refine ls_callb (fid := 9) (vals := #[.pointer (some ⟨g2, 0, none⟩), .agg ⟨([Value.int .i64 a0.1] ++ ([Value.int .i64 a0.2.1] ++ ([Value.int .i64 a0.2.2.1] ++ ([Value.int .u32 a0.2.2.2.1] ++ en (Value.int .u8) a0.2.2.2.2.1))))⟩]) (X := (Option Addr × Nat)) (fun x => .tuple #[.slice x.1 t19.1.length x.2, .int .i64 t19.2]) (fun x => stl [Ck.var 42 g2 (([Value.slice none 0 0] ++ ([Value.map none] ++ ([Value.bool false] ++ ([Value.int .i64 (0 : Int)] ++ [Value.bool false]))))), Ck.sl (Ec.int 5 .u8) x.1 x.2 t19.1]) [1] [] [Ck.var 42 g2 (([Value.slice none 0 0] ++ ([Value.map none] ++ ([Value.bool false] ++ ([Value.int .i64 (0 : Int)] ++ [Value.bool false])))))] [] 5 rfl rfl (by kernel_rfl) (fun w => by kernel_rfl) ⟨by exact rfl, trivial⟩ trivial (by decide) (fun w hs hb => block_Read_szero0.calls k g2 a0 t19 (lent b w [Ck.var 42 g2 (([Value.slice none 0 0] ++ ([Value.map none] ++ ([Value.bool false] ++ ([Value.int .i64 (0 : Int)] ++ [Value.bool false])))))] []) hb  hc20) ?_
          intro x21
          refine ls_val (v := .tuple #[.slice x21.1 t19.1.length x21.2, .int .i64 t19.2]) rfl rfl (by kernel_rfl) (fun w => by kernel_rfl) ?_
          refine ls_val (v := .slice x21.1 t19.1.length x21.2) rfl rfl (by kernel_rfl) (fun w => by kernel_rfl) ?_
          refine ls_val (v := .int .i64 t19.2) rfl rfl (by kernel_rfl) (fun w => by kernel_rfl) ?_
          refine ls_val (v := .slice x21.1 t19.1.length x21.2) rfl rfl (by kernel_rfl) (fun w => by kernel_rfl) ?_
          refine ls_val (v := .int .i64 t19.2) rfl rfl (by kernel_rfl) (fun w => by kernel_rfl) ?_
          refine ls_end ?_
          refine qn_then ?_
          refine cs_seq ?_
          refine cs_region (l := [_, _, _, _, _, _, _, _, _, _, _, _, _]) ?_
          refine ls_val (v := .pointer (some ⟨g2, 0, none⟩)) rfl rfl (by kernel_rfl) (fun w => by kernel_rfl) ?_
          refine ls_val (v := .pointer (some ⟨g1, (0 + 0), none⟩)) rfl rfl (by kernel_rfl) (fun w => by kernel_rfl) ?_
          refine ls_load (a0 := ⟨g1, (0 + 0), none⟩) (v := .int .i64 a0.1) (de := (TypeDesc.int .i64)) rfl rfl (by kernel_rfl) rfl (by kernel_rfl) (by kernel_rfl) (by kernel_rfl) (fun w hs => (hs.var (k := 0) (by exact rfl) (Sub4.trans (Sub4.all _) (Sub4.head _ _)))) ?_
          refine ls_val (v := .pointer (some ⟨g1, (0 + 1), none⟩)) rfl rfl (by kernel_rfl) (fun w => by kernel_rfl) ?_
          refine ls_load (a0 := ⟨g1, (0 + 1), none⟩) (v := .int .i64 a0.2.1) (de := (TypeDesc.int .i64)) rfl rfl (by kernel_rfl) rfl (by kernel_rfl) (by kernel_rfl) (by kernel_rfl) (fun w hs => (hs.var (k := 0) (by exact rfl) (Sub4.trans (Sub4.all _) (Sub4.skip (n := 1) (len1 _) (Sub4.head _ _))))) ?_
          refine ls_val (v := .slice A1 l1.length c1) rfl rfl (by kernel_rfl) (fun w => by kernel_rfl) ?_
          obtain ⟨t22, hc23, H⟩ := bind_some H
          refine ls_callb (fid := 7) (vals := #[.pointer (some ⟨g2, 0, none⟩), .int .i64 a0.1, .int .i64 a0.2.1, .slice A1 l1.length c1]) (X := Unit) (fun x => .tuple #[.agg ⟨([Value.int .i64 t22.1.1] ++ ([Value.int .i64 t22.1.2.1] ++ ([Value.int .i64 t22.1.2.2.1] ++ ([Value.int .u32 t22.1.2.2.2.1] ++ en (Value.int .u8) t22.1.2.2.2.2.1))))⟩, .int .i64 t22.2]) (fun x => stl [Ck.var 42 g2 (([Value.slice none 0 0] ++ ([Value.map none] ++ ([Value.bool false] ++ ([Value.int .i64 (0 : Int)] ++ [Value.bool false])))))]) [1] [] [Ck.var 42 g2 (([Value.slice none 0 0] ++ ([Value.map none] ++ ([Value.bool false] ++ ([Value.int .i64 (0 : Int)] ++ [Value.bool false])))))] [] 6 rfl rfl (by kernel_rfl) (fun w => by kernel_rfl) ⟨by exact rfl, trivial⟩ trivial (by decide) (fun w hs hb => block_Write_szero0.calls k g2 a0.1 a0.2.1 A1 c1 l1 t22 (lent b w [Ck.var 42 g2 (([Value.slice none 0 0] ++ ([Value.map none] ++ ([Value.bool false] ++ ([Value.int .i64 (0 : Int)] ++ [Value.bool false])))))] []) hb (hs.ro R1 _ _) C1 hc23) ?_
          intro x24
          refine ls_val (v := .tuple #[.agg ⟨([Value.int .i64 t22.1.1] ++ ([Value.int .i64 t22.1.2.1] ++ ([Value.int .i64 t22.1.2.2.1] ++ ([Value.int .u32 t22.1.2.2.2.1] ++ en (Value.int .u8) t22.1.2.2.2.2.1))))⟩, .int .i64 t22.2]) rfl rfl (by kernel_rfl) (fun w => by kernel_rfl) ?_
          refine ls_val (v := .agg ⟨([Value.int .i64 t22.1.1] ++ ([Value.int .i64 t22.1.2.1] ++ ([Value.int .i64 t22.1.2.2.1] ++ ([Value.int .u32 t22.1.2.2.2.1] ++ en (Value.int .u8) t22.1.2.2.2.2.1))))⟩) rfl rfl (by kernel_rfl) (fun w => by kernel_rfl) ?_
          refine ls_val (v := .int .i64 t22.2) rfl rfl (by kernel_rfl) (fun w => by kernel_rfl) ?_
          refine ls_new rfl rfl (by kernel_rfl) 6 (fun g => .pointer (some ⟨g, 0, none⟩)) (.cells ⟨([Value.int .i64 (0 : Int)] ++ ([Value.int .i64 (0 : Int)] ++ ([Value.int .i64 (0 : Int)] ++ ([Value.int .u32 (0 : Int)] ++ en (Value.int .u8) (vrep 32 (0 : Int)).1))))⟩ 30) (fun w => by kernel_rfl) ?_
          intro g25
          refine ls_storec (g := g25) (off := 0) (v := .agg ⟨([Value.int .i64 t22.1.1] ++ ([Value.int .i64 t22.1.2.1] ++ ([Value.int .i64 t22.1.2.2.1] ++ ([Value.int .u32 t22.1.2.2.2.1] ++ en (Value.int .u8) t22.1.2.2.2.2.1))))⟩) (vs := ([Value.int .i64 t22.1.1] ++ ([Value.int .i64 t22.1.2.1] ++ ([Value.int .i64 t22.1.2.2.1] ++ ([Value.int .u32 t22.1.2.2.2.1] ++ en (Value.int .u8) t22.1.2.2.2.2.1))))) (cs := ([Value.int .i64 (0 : Int)] ++ ([Value.int .i64 (0 : Int)] ++ ([Value.int .i64 (0 : Int)] ++ ([Value.int .u32 (0 : Int)] ++ en (Value.int .u8) (vrep 32 (0 : Int)).1))))) (ty := 30) 6 rfl rfl rfl (by kernel_rfl) (by kernel_rfl) (by kernel_rfl) (by exact rfl) (by kernel_rfl) (len_app (len1 _) (len_app (len1 _) (len_app (len1 _) (len_app (len1 _) (len_en _ t22.1.2.2.2.2))))) (one_app (one_cons rfl one_nil) (one_app (one_cons rfl one_nil) (one_app (one_cons rfl one_nil) (one_app (one_cons rfl one_nil) (one_en (fun _ => rfl) _))))) (hl_of (Sub4.all _) (len_eq (len_app (len1 _) (len_app (len1 _) (len_app (len1 _) (len_app (len1 _) (len_en _ t22.1.2.2.2.2))))) (len_app (len1 _) (len_app (len1 _) (len_app (len1 _) (len_app (len1 _) (len_en _ (vrep 32 (0 : Int))))))))) (cs' := ([Value.int .i64 t22.1.1] ++ ([Value.int .i64 t22.1.2.1] ++ ([Value.int .i64 t22.1.2.2.1] ++ ([Value.int .u32 t22.1.2.2.2.1] ++ en (Value.int .u8) t22.1.2.2.2.2.1))))) (splc_all (len_eq (len_app (len1 _) (len_app (len1 _) (len_app (len1 _) (len_app (len1 _) (len_en _ t22.1.2.2.2.2))))) (len_app (len1 _) (len_app (len1 _) (len_app (len1 _) (len_app (len1 _) (len_en _ (vrep 32 (0 : Int))))))))) ?_
          refine ls_val (v := .int .i64 t22.2) rfl rfl (by kernel_rfl) (fun w => by kernel_rfl) ?_
          refine ls_end ?_
          refine qn_then ?_
          refine cs_seq ?_
          refine cs_region (l := [_, _, _, _, _, _, _, _, _, _, _, _, _, _, _, _]) ?_
          refine ls_val (v := .slice x21.1 t19.1.length x21.2) rfl rfl (by kernel_rfl) (fun w => by kernel_rfl) ?_
          refine ls_val (v := .int .i64 (t19.1.length : Int)) rfl rfl (by kernel_rfl) (fun w => by kernel_rfl) ?_
          refine ls_val (v := .bool (!decide ((t19.1.length : Int) = (0 : Int)))) rfl rfl (by kernel_rfl) (fun w => by kernel_rfl) ?_
          refine ls_val (v := .bool (!decide ((t19.1.length : Int) = (0 : Int)))) rfl rfl (by kernel_rfl) (fun w => by kernel_rfl) ?_
          by_cases q26 : (t19.1.length : Int) = (0 : Int)
          · replace H := ite_t q26 H
            refine ls_know (c := false) (congrArg Bool.not (dec_t q26)) 38 (by kernel_rfl) ?_
            refine ls_on (j := 3) (t := 38) (b := false) rfl rfl (by kernel_rfl) (by kernel_rfl) ?_
            refine ls_val (v := .int .i64 t19.2) rfl rfl (by kernel_rfl) (fun w => by kernel_rfl) ?_
            refine ls_on (j := 3) (t := 38) (b := false) rfl rfl (by kernel_rfl) (by kernel_rfl) ?_
            refine ls_val (v := .bool (!decide (t19.2 = (1 : Int)))) rfl rfl (by kernel_rfl) (fun w => by kernel_rfl) ?_
            refine ls_val (v := .bool (!decide (t19.2 = (1 : Int)))) rfl rfl (by kernel_rfl) (fun w => by kernel_rfl) ?_
            refine ls_val (v := .bool (!decide (t19.2 = (1 : Int)))) rfl rfl (by kernel_rfl) (fun w => by kernel_rfl) ?_
            by_cases q27 : t19.2 = (1 : Int)
            · replace H := ite_t q27 H
              refine ls_know (c := false) (congrArg Bool.not (dec_t q27)) 42 (by kernel_rfl) ?_
              refine ls_on (j := 7) (t := 42) (b := false) rfl rfl (by kernel_rfl) (by kernel_rfl) ?_
              refine ls_loadagg (a := ⟨g25, 0, none⟩) (sub := ([Value.int .i64 t22.1.1] ++ ([Value.int .i64 t22.1.2.1] ++ ([Value.int .i64 t22.1.2.2.1] ++ ([Value.int .u32 t22.1.2.2.2.1] ++ en (Value.int .u8) t22.1.2.2.2.2.1))))) rfl rfl (by kernel_rfl) rfl (by kernel_rfl) (by kernel_rfl) (by kernel_rfl) (len_app (len1 _) (len_app (len1 _) (len_app (len1 _) (len_app (len1 _) (len_en _ t22.1.2.2.2.2))))) (fun w hs => (hs.vars (k := 6) (by exact rfl) (Sub4.all _))) ?_
              refine ls_on (j := 7) (t := 42) (b := false) rfl rfl (by kernel_rfl) (by kernel_rfl) ?_
              refine ls_build (ps := []) (pl := #[(0, 1), (1, 1), (2, 1), (3, 1), (4, 32)]) (zv := .agg ⟨([Value.int .i64 (0 : Int)] ++ ([Value.int .i64 (0 : Int)] ++ ([Value.int .i64 (0 : Int)] ++ ([Value.int .u32 (0 : Int)] ++ en (Value.int .u8) (vrep 32 (0 : Int)).1))))⟩) (zc := ([Value.int .i64 (0 : Int)] ++ ([Value.int .i64 (0 : Int)] ++ ([Value.int .i64 (0 : Int)] ++ ([Value.int .u32 (0 : Int)] ++ en (Value.int .u8) (vrep 32 (0 : Int)).1))))) (r := ([Value.int .i64 (0 : Int)] ++ ([Value.int .i64 (0 : Int)] ++ ([Value.int .i64 (0 : Int)] ++ ([Value.int .u32 (0 : Int)] ++ en (Value.int .u8) (vrep 32 (0 : Int)).1))))) rfl rfl (by kernel_rfl) rfl (by kernel_rfl) (by kernel_rfl) (fun w => by kernel_rfl) (fun w => by kernel_rfl) rfl fill_nil ?_
              refine ls_on (j := 7) (t := 42) (b := false) rfl rfl (by kernel_rfl) (by kernel_rfl) ?_
              refine ls_neq (xs := ([Value.int .i64 t22.1.1] ++ ([Value.int .i64 t22.1.2.1] ++ ([Value.int .i64 t22.1.2.2.1] ++ ([Value.int .u32 t22.1.2.2.2.1] ++ en (Value.int .u8) t22.1.2.2.2.2.1))))) (ys := ([Value.int .i64 (0 : Int)] ++ ([Value.int .i64 (0 : Int)] ++ ([Value.int .i64 (0 : Int)] ++ ([Value.int .u32 (0 : Int)] ++ en (Value.int .u8) (vrep 32 (0 : Int)).1))))) (r := ((t22.1.1 == (0 : Int)) && ((t22.1.2.1 == (0 : Int)) && ((t22.1.2.2.1 == (0 : Int)) && ((t22.1.2.2.2.1 == (0 : Int)) && (t22.1.2.2.2.2.1 == (vrep 32 (0 : Int)).1)))))) rfl rfl (by kernel_rfl) rfl (by kernel_rfl) (by kernel_rfl) (by kernel_rfl) (eq_st (by kernel_rfl) (by kernel_rfl) (eqf_cons (ft := 3) (fo := 0) (by kernel_rfl) (part_one (by kernel_rfl) (Sub4.trans (Sub4.all _) (Sub4.head _ _))) (part_one (by kernel_rfl) (Sub4.trans (Sub4.all _) (Sub4.head _ _))) (eq_int (by kernel_rfl) _ _ _) (eqf_cons (ft := 3) (fo := 1) (by kernel_rfl) (part_one (by kernel_rfl) (Sub4.trans (Sub4.all _) (Sub4.skip (n := 1) (len1 _) (Sub4.head _ _)))) (part_one (by kernel_rfl) (Sub4.trans (Sub4.all _) (Sub4.skip (n := 1) (len1 _) (Sub4.head _ _)))) (eq_int (by kernel_rfl) _ _ _) (eqf_cons (ft := 3) (fo := 2) (by kernel_rfl) (part_one (by kernel_rfl) (Sub4.trans (Sub4.all _) (Sub4.skip (n := 1) (len1 _) (Sub4.skip (n := 1) (len1 _) (Sub4.head _ _))))) (part_one (by kernel_rfl) (Sub4.trans (Sub4.all _) (Sub4.skip (n := 1) (len1 _) (Sub4.skip (n := 1) (len1 _) (Sub4.head _ _))))) (eq_int (by kernel_rfl) _ _ _) (eqf_cons (ft := 23) (fo := 3) (by kernel_rfl) (part_one (by kernel_rfl) (Sub4.trans (Sub4.all _) (Sub4.skip (n := 1) (len1 _) (Sub4.skip (n := 1) (len1 _) (Sub4.skip (n := 1) (len1 _) (Sub4.head _ _)))))) (part_one (by kernel_rfl) (Sub4.trans (Sub4.all _) (Sub4.skip (n := 1) (len1 _) (Sub4.skip (n := 1) (len1 _) (Sub4.skip (n := 1) (len1 _) (Sub4.head _ _)))))) (eq_int (by kernel_rfl) _ _ _) (eqf_last (ft := 28) (fo := 4) (by kernel_rfl) (part_agg (by kernel_rfl) (by kernel_rfl) (len_en _ t22.1.2.2.2.2) (Sub4.trans (Sub4.all _) (Sub4.skip (n := 1) (len1 _) (Sub4.skip (n := 1) (len1 _) (Sub4.skip (n := 1) (len1 _) (Sub4.skip (n := 1) (len1 _) (Sub4.all _))))))) (part_agg (by kernel_rfl) (by kernel_rfl) (len_en _ (vrep 32 (0 : Int))) (Sub4.trans (Sub4.all _) (Sub4.skip (n := 1) (len1 _) (Sub4.skip (n := 1) (len1 _) (Sub4.skip (n := 1) (len1 _) (Sub4.skip (n := 1) (len1 _) (Sub4.all _))))))) (eq_ints (e := 5) (ln := 32) (by kernel_rfl) (by kernel_rfl) (by kernel_rfl) t22.1.2.2.2.2.2 (vrep 32 (0 : Int)).2 _) (by kernel_rfl))))))) ?_
              refine ls_val (v := .bool (!((t22.1.1 == (0 : Int)) && ((t22.1.2.1 == (0 : Int)) && ((t22.1.2.2.1 == (0 : Int)) && ((t22.1.2.2.2.1 == (0 : Int)) && (t22.1.2.2.2.2.1 == (vrep 32 (0 : Int)).1))))))) rfl rfl (by kernel_rfl) (fun w => by kernel_rfl) ?_
              refine ls_val (v := .bool (!((t22.1.1 == (0 : Int)) && ((t22.1.2.1 == (0 : Int)) && ((t22.1.2.2.1 == (0 : Int)) && ((t22.1.2.2.2.1 == (0 : Int)) && (t22.1.2.2.2.2.1 == (vrep 32 (0 : Int)).1))))))) rfl rfl (by kernel_rfl) (fun w => by kernel_rfl) ?_
              by_cases q28 : ((t22.1.1 == (0 : Int)) && ((t22.1.2.1 == (0 : Int)) && ((t22.1.2.2.1 == (0 : Int)) && ((t22.1.2.2.2.1 == (0 : Int)) && (t22.1.2.2.2.2.1 == (vrep 32 (0 : Int)).1))))) = true
              · replace H := ite_t q28 H
                refine ls_know (c := false) (congrArg Bool.not (q28)) 47 (by kernel_rfl) ?_
                refine ls_on (j := 12) (t := 47) (b := false) rfl rfl (by kernel_rfl) (by kernel_rfl) ?_
                refine ls_val (v := .int .i64 t22.2) rfl rfl (by kernel_rfl) (fun w => by kernel_rfl) ?_
                refine ls_on (j := 12) (t := 47) (b := false) rfl rfl (by kernel_rfl) (by kernel_rfl) ?_
                refine ls_val (v := .bool (!decide (t22.2 = (1 : Int)))) rfl rfl (by kernel_rfl) (fun w => by kernel_rfl) ?_
                refine ls_val (v := .bool (!decide (t22.2 = (1 : Int)))) rfl rfl (by kernel_rfl) (fun w => by kernel_rfl) ?_
                refine ls_end ?_
                refine qn_then ?_
                by_cases q29 : t22.2 = (1 : Int)
                · replace H := ite_t q29 H
                  refine cs_know (c := false) (congrArg Bool.not (dec_t q29)) 50 (by kernel_rfl) ?_
                  refine cs_false (by kernel_rfl) ?_
                  refine cs_skip' ?_
                  refine qn_block ?_
                  refine qn_then ?_
                  refine cs_region (l := [_, _]) ?_
                  refine ls_val (v := .int .i64 (2 : Int)) rfl rfl (by kernel_rfl) (fun w => by kernel_rfl) ?_
                  refine ls_val (v := .int .i64 (2 : Int)) rfl rfl (by kernel_rfl) (fun w => by kernel_rfl) ?_
                  refine ls_end ?_
                  refine qn_rounds ?_
                  refine rs_succ ?_
                  refine cs_seq ?_
                  refine cs_region (l := [_]) ?_
                  refine ls_val (v := .bool false) rfl rfl (by kernel_rfl) (fun w => by kernel_rfl) ?_
                  refine ls_end ?_
                  refine qn_then ?_
                  refine cs_seq ?_
                  refine cs_false (by kernel_rfl) ?_
                  refine cs_exit' ?_
                  refine qx_then ?_
                  refine qx_then ?_
                  refine qx_same ?_
                  refine qn_then ?_
                  refine cs_seq ?_
                  refine cs_region (l := [_]) ?_
                  refine ls_val (v := .bool true) rfl rfl (by kernel_rfl) (fun w => by kernel_rfl) ?_
                  refine ls_end ?_
                  refine qn_then ?_
                  refine cs_ret' ?_
                  obtain rfl := Option.some.inj H
                  refine qr_res (rs := [_]) rfl (fun w' hs => ⟨[.bool true], (res_tmp (by kernel_rfl) (.nil)), (), rfl, hs.pick (ts := []) (cs := []) trivial (by decide)⟩)
                · replace H := ite_f q29 H
                  refine cs_know (c := true) (congrArg Bool.not (dec_f q29)) 50 (by kernel_rfl) ?_
                  refine cs_true (by kernel_rfl) ?_
                  refine cs_seq ?_
                  refine cs_region (l := [_]) ?_
                  refine ls_val (v := .bool false) rfl rfl (by kernel_rfl) (fun w => by kernel_rfl) ?_
                  refine ls_end ?_
                  refine qn_then ?_
                  refine cs_ret' ?_
                  refine qr_block ?_
                  refine qr_then ?_
                  refine qr_then ?_
                  refine qr_block ?_
                  refine qr_then ?_
                  obtain rfl := Option.some.inj H
                  refine qr_res (rs := [_]) rfl (fun w' hs => ⟨[.bool false], (res_tmp (by kernel_rfl) (.nil)), (), rfl, hs.pick (ts := []) (cs := []) trivial (by decide)⟩)
              · replace H := ite_f q28 H
                refine ls_know (c := true) (congrArg Bool.not (Bool.eq_false_iff.mpr q28)) 47 (by kernel_rfl) ?_
                refine ls_off (j := 12) (t := 47) (b := false) (c := true) rfl rfl (by kernel_rfl) (by kernel_rfl) rfl rfl (by kernel_rfl) ?_
                refine ls_off (j := 12) (t := 47) (b := false) (c := true) rfl rfl (by kernel_rfl) (by kernel_rfl) rfl rfl (by kernel_rfl) ?_
                refine ls_val (v := .bool true) rfl rfl (by kernel_rfl) (fun w => by kernel_rfl) ?_
                refine ls_end ?_
                refine qn_then ?_
                refine cs_true (by kernel_rfl) ?_
                refine cs_seq ?_
                refine cs_region (l := [_]) ?_
                refine ls_val (v := .bool false) rfl rfl (by kernel_rfl) (fun w => by kernel_rfl) ?_
                refine ls_end ?_
                refine qn_then ?_
                refine cs_ret' ?_
                refine qr_block ?_
                refine qr_then ?_
                refine qr_then ?_
                refine qr_block ?_
                refine qr_then ?_
                obtain rfl := Option.some.inj H
                refine qr_res (rs := [_]) rfl (fun w' hs => ⟨[.bool false], (res_tmp (by kernel_rfl) (.nil)), (), rfl, hs.pick (ts := []) (cs := []) trivial (by decide)⟩)
            · replace H := ite_f q27 H
              refine ls_know (c := true) (congrArg Bool.not (dec_f q27)) 42 (by kernel_rfl) ?_
              refine ls_off (j := 7) (t := 42) (b := false) (c := true) rfl rfl (by kernel_rfl) (by kernel_rfl) rfl rfl (by kernel_rfl) ?_
              refine ls_off (j := 7) (t := 42) (b := false) (c := true) rfl rfl (by kernel_rfl) (by kernel_rfl) rfl rfl (by kernel_rfl) ?_
              refine ls_off (j := 7) (t := 42) (b := false) (c := true) rfl rfl (by kernel_rfl) (by kernel_rfl) rfl rfl (by kernel_rfl) ?_
              refine ls_val (v := .bool true) rfl rfl (by kernel_rfl) (fun w => by kernel_rfl) ?_
              refine ls_val (v := .bool true) rfl rfl (by kernel_rfl) (fun w => by kernel_rfl) ?_
              refine ls_off (j := 12) (t := 47) (b := false) (c := true) rfl rfl (by kernel_rfl) (by kernel_rfl) rfl rfl (by kernel_rfl) ?_
              refine ls_off (j := 12) (t := 47) (b := false) (c := true) rfl rfl (by kernel_rfl) (by kernel_rfl) rfl rfl (by kernel_rfl) ?_
              refine ls_val (v := .bool true) rfl rfl (by kernel_rfl) (fun w => by kernel_rfl) ?_
              refine ls_end ?_
              refine qn_then ?_
              refine cs_true (by kernel_rfl) ?_
              refine cs_seq ?_
              refine cs_region (l := [_]) ?_
              refine ls_val (v := .bool false) rfl rfl (by kernel_rfl) (fun w => by kernel_rfl) ?_
              refine ls_end ?_
              refine qn_then ?_
              refine cs_ret' ?_
              refine qr_block ?_
              refine qr_then ?_
              refine qr_then ?_
              refine qr_block ?_
              refine qr_then ?_
              obtain rfl := Option.some.inj H
              refine qr_res (rs := [_]) rfl (fun w' hs => ⟨[.bool false], (res_tmp (by kernel_rfl) (.nil)), (), rfl, hs.pick (ts := []) (cs := []) trivial (by decide)⟩)
          · replace H := ite_f q26 H
            refine ls_know (c := true) (congrArg Bool.not (dec_f q26)) 38 (by kernel_rfl) ?_
            refine ls_off (j := 3) (t := 38) (b := false) (c := true) rfl rfl (by kernel_rfl) (by kernel_rfl) rfl rfl (by kernel_rfl) ?_
            refine ls_off (j := 3) (t := 38) (b := false) (c := true) rfl rfl (by kernel_rfl) (by kernel_rfl) rfl rfl (by kernel_rfl) ?_
            refine ls_val (v := .bool true) rfl rfl (by kernel_rfl) (fun w => by kernel_rfl) ?_
            refine ls_val (v := .bool true) rfl rfl (by kernel_rfl) (fun w => by kernel_rfl) ?_
            refine ls_off (j := 7) (t := 42) (b := false) (c := true) rfl rfl (by kernel_rfl) (by kernel_rfl) rfl rfl (by kernel_rfl) ?_
            refine ls_off (j := 7) (t := 42) (b := false) (c := true) rfl rfl (by kernel_rfl) (by kernel_rfl) rfl rfl (by kernel_rfl) ?_
            refine ls_off (j := 7) (t := 42) (b := false) (c := true) rfl rfl (by kernel_rfl) (by kernel_rfl) rfl rfl (by kernel_rfl) ?_
            refine ls_val (v := .bool true) rfl rfl (by kernel_rfl) (fun w => by kernel_rfl) ?_
            refine ls_val (v := .bool true) rfl rfl (by kernel_rfl) (fun w => by kernel_rfl) ?_
            refine ls_off (j := 12) (t := 47) (b := false) (c := true) rfl rfl (by kernel_rfl) (by kernel_rfl) rfl rfl (by kernel_rfl) ?_
            refine ls_off (j := 12) (t := 47) (b := false) (c := true) rfl rfl (by kernel_rfl) (by kernel_rfl) rfl rfl (by kernel_rfl) ?_
            refine ls_val (v := .bool true) rfl rfl (by kernel_rfl) (fun w => by kernel_rfl) ?_
            refine ls_end ?_
            refine qn_then ?_
            refine cs_true (by kernel_rfl) ?_
            refine cs_seq ?_
            refine cs_region (l := [_]) ?_
            refine ls_val (v := .bool false) rfl rfl (by kernel_rfl) (fun w => by kernel_rfl) ?_
            refine ls_end ?_
            refine qn_then ?_
            refine cs_ret' ?_
            refine qr_block ?_
            refine qr_then ?_
            refine qr_then ?_
            refine qr_block ?_
            refine qr_then ?_
            obtain rfl := Option.some.inj H
            refine qr_res (rs := [_]) rfl (fun w' hs => ⟨[.bool false], (res_tmp (by kernel_rfl) (.nil)), (), rfl, hs.pick (ts := []) (cs := []) trivial (by decide)⟩)
        · replace H := ite_f q16 H
          refine cs_know (c := true) (congrArg Bool.not (dec_f q16)) 50 (by kernel_rfl) ?_
          refine cs_true (by kernel_rfl) ?_
          refine cs_seq ?_
          refine cs_region (l := [_]) ?_
          refine ls_val (v := .bool false) rfl rfl (by kernel_rfl) (fun w => by kernel_rfl) ?_
          refine ls_end ?_
          refine qn_then ?_
          refine cs_ret' ?_
          refine qr_block ?_
          refine qr_then ?_
          refine qr_then ?_
          refine qr_block ?_
          refine qr_then ?_
          obtain rfl := Option.some.inj H
          refine qr_res (rs := [_]) rfl (fun w' hs => ⟨[.bool false], (res_tmp (by kernel_rfl) (.nil)), (), rfl, hs.pick (ts := []) (cs := []) trivial (by decide)⟩)
      · replace H := ite_f q15 H
        refine ls_know (c := true) (congrArg Bool.not (Bool.eq_false_iff.mpr q15)) 47 (by kernel_rfl) ?_
        refine ls_off (j := 12) (t := 47) (b := false) (c := true) rfl rfl (by kernel_rfl) (by kernel_rfl) rfl rfl (by kernel_rfl) ?_
        refine ls_off (j := 12) (t := 47) (b := false) (c := true) rfl rfl (by kernel_rfl) (by kernel_rfl) rfl rfl (by kernel_rfl) ?_
        refine ls_val (v := .bool true) rfl rfl (by kernel_rfl) (fun w => by kernel_rfl) ?_
        refine ls_end ?_
        refine qn_then ?_
        refine cs_true (by kernel_rfl) ?_
        refine cs_seq ?_
        refine cs_region (l := [_]) ?_
        refine ls_val (v := .bool false) rfl rfl (by kernel_rfl) (fun w => by kernel_rfl) ?_
        refine ls_end ?_
        refine qn_then ?_
        refine cs_ret' ?_
        refine qr_block ?_
        refine qr_then ?_
        refine qr_then ?_
        refine qr_block ?_
        refine qr_then ?_
        obtain rfl := Option.some.inj H
        refine qr_res (rs := [_]) rfl (fun w' hs => ⟨[.bool false], (res_tmp (by kernel_rfl) (.nil)), (), rfl, hs.pick (ts := []) (cs := []) trivial (by decide)⟩)
    · replace H := ite_f q14 H
      refine ls_know (c := true) (congrArg Bool.not (dec_f q14)) 42 (by kernel_rfl) ?_
      refine ls_off (j := 7) (t := 42) (b := false) (c := true) rfl rfl (by kernel_rfl) (by kernel_rfl) rfl rfl (by kernel_rfl) ?_
      refine ls_off (j := 7) (t := 42) (b := false) (c := true) rfl rfl (by kernel_rfl) (by kernel_rfl) rfl rfl (by kernel_rfl) ?_
      refine ls_off (j := 7) (t := 42) (b := false) (c := true) rfl rfl (by kernel_rfl) (by kernel_rfl) rfl rfl (by kernel_rfl) ?_
      refine ls_val (v := .bool true) rfl rfl (by kernel_rfl) (fun w => by kernel_rfl) ?_
      refine ls_val (v := .bool true) rfl rfl (by kernel_rfl) (fun w => by kernel_rfl) ?_
      refine ls_off (j := 12) (t := 47) (b := false) (c := true) rfl rfl (by kernel_rfl) (by kernel_rfl) rfl rfl (by kernel_rfl) ?_
      refine ls_off (j := 12) (t := 47) (b := false) (c := true) rfl rfl (by kernel_rfl) (by kernel_rfl) rfl rfl (by kernel_rfl) ?_
      refine ls_val (v := .bool true) rfl rfl (by kernel_rfl) (fun w => by kernel_rfl) ?_
      refine ls_end ?_
      refine qn_then ?_
      refine cs_true (by kernel_rfl) ?_
      refine cs_seq ?_
      refine cs_region (l := [_]) ?_
      refine ls_val (v := .bool false) rfl rfl (by kernel_rfl) (fun w => by kernel_rfl) ?_
      refine ls_end ?_
      refine qn_then ?_
      refine cs_ret' ?_
      refine qr_block ?_
      refine qr_then ?_
      refine qr_then ?_
      refine qr_block ?_
      refine qr_then ?_
      obtain rfl := Option.some.inj H
      refine qr_res (rs := [_]) rfl (fun w' hs => ⟨[.bool false], (res_tmp (by kernel_rfl) (.nil)), (), rfl, hs.pick (ts := []) (cs := []) trivial (by decide)⟩)
  · replace H := ite_f q13 H
    refine ls_know (c := true) (congrArg Bool.not (dec_f q13)) 38 (by kernel_rfl) ?_
    refine ls_off (j := 3) (t := 38) (b := false) (c := true) rfl rfl (by kernel_rfl) (by kernel_rfl) rfl rfl (by kernel_rfl) ?_
    refine ls_off (j := 3) (t := 38) (b := false) (c := true) rfl rfl (by kernel_rfl) (by kernel_rfl) rfl rfl (by kernel_rfl) ?_
    refine ls_val (v := .bool true) rfl rfl (by kernel_rfl) (fun w => by kernel_rfl) ?_
    refine ls_val (v := .bool true) rfl rfl (by kernel_rfl) (fun w => by kernel_rfl) ?_
    refine ls_off (j := 7) (t := 42) (b := false) (c := true) rfl rfl (by kernel_rfl) (by kernel_rfl) rfl rfl (by kernel_rfl) ?_
    refine ls_off (j := 7) (t := 42) (b := false) (c := true) rfl rfl (by kernel_rfl) (by kernel_rfl) rfl rfl (by kernel_rfl) ?_
    refine ls_off (j := 7) (t := 42) (b := false) (c := true) rfl rfl (by kernel_rfl) (by kernel_rfl) rfl rfl (by kernel_rfl) ?_
    refine ls_val (v := .bool true) rfl rfl (by kernel_rfl) (fun w => by kernel_rfl) ?_
    refine ls_val (v := .bool true) rfl rfl (by kernel_rfl) (fun w => by kernel_rfl) ?_
    refine ls_off (j := 12) (t := 47) (b := false) (c := true) rfl rfl (by kernel_rfl) (by kernel_rfl) rfl rfl (by kernel_rfl) ?_
    refine ls_off (j := 12) (t := 47) (b := false) (c := true) rfl rfl (by kernel_rfl) (by kernel_rfl) rfl rfl (by kernel_rfl) ?_
    refine ls_val (v := .bool true) rfl rfl (by kernel_rfl) (fun w => by kernel_rfl) ?_
    refine ls_end ?_
    refine qn_then ?_
    refine cs_true (by kernel_rfl) ?_
    refine cs_seq ?_
    refine cs_region (l := [_]) ?_
    refine ls_val (v := .bool false) rfl rfl (by kernel_rfl) (fun w => by kernel_rfl) ?_
    refine ls_end ?_
    refine qn_then ?_
    refine cs_ret' ?_
    refine qr_block ?_
    refine qr_then ?_
    refine qr_then ?_
    refine qr_block ?_
    refine qr_then ?_
    obtain rfl := Option.some.inj H
    refine qr_res (rs := [_]) rfl (fun w' hs => ⟨[.bool false], (res_tmp (by kernel_rfl) (.nil)), (), rfl, hs.pick (ts := []) (cs := []) trivial (by decide)⟩)

end Go.Proofs.Ytbidihabicgedaa.G
