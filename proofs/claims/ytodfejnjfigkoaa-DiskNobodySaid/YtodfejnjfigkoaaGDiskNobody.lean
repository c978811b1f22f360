/- Printed by a program of this session (sz.py): plain functions, and walks that show that the code comes to them; no condition. -/
import Derived.Test.YtodfejnjfigkoaaProg
import Derived.Test.YtodfejnjfigkoaaTy
set_option linter.unusedVariables false
set_option linter.unusedSimpArgs false
namespace Go.Proofs.Ytodfejnjfigkoaa.G
open Go Go.RowKit Go.Proofs.Ytodfejnjfigkoaa.Sx

/-! ### (*shadowbox/disk.Disk).none, specialized: function 14 -/
def disk_Disk_none_snil0.f (k : Nat) : Option (Bool) :=
  some true
set_option maxRecDepth 100000 in
set_option maxHeartbeats 4000000 in
theorem disk_Disk_none_snil0.calls (k : Nat)  (r : Bool) (b : Bs) (hs0 : St b (stl []) b.w) (H : disk_Disk_none_snil0.f k = some r) :
    Calls Try.prog 14 #[.pointer none] b.w fun e w' => ∃ x : Unit, e = .returned (.bool r) ∧ St b (stl []) w' := by
  unfold disk_Disk_none_snil0.f at H
  refine enterb (n := 12) Try.func14 rfl (by kernel_rfl) (by kernel_rfl) hs0 ?_
  refine cs_sub (s0) (sub_nil _) ?_
  refine cs_seq ?_
  refine cs_region (l := [_]) ?_
  refine ls_val (v := .bool false) rfl rfl (by kernel_rfl) (fun w => by kernel_rfl) ?_
  refine ls_end ?_
  refine qn_then ?_
  refine cs_seq ?_
  refine cs_region (l := [_, _, _, _, _, _, _, _, _, _]) ?_
  refine ls_val (v := .pointer none) rfl rfl (by kernel_rfl) (fun w => by kernel_rfl) ?_
  refine ls_val (v := .bool true) rfl rfl (by kernel_rfl) (fun w => by kernel_rfl) ?_
  refine ls_val (v := .bool true) rfl rfl (by kernel_rfl) (fun w => by kernel_rfl) ?_
  refine ls_off (j := 2) (t := 5) (b := false) (c := true) rfl rfl (by kernel_rfl) (by kernel_rfl) rfl rfl (by kernel_rfl) ?_
  refine ls_off (j := 2) (t := 5) (b := false) (c := true) rfl rfl (by kernel_rfl) (by kernel_rfl) rfl rfl (by kernel_rfl) ?_
  refine ls_off (j := 2) (t := 5) (b := false) (c := true) rfl rfl (by kernel_rfl) (by kernel_rfl) rfl rfl (by kernel_rfl) ?_
  refine ls_off (j := 2) (t := 5) (b := false) (c := true) rfl rfl (by kernel_rfl) (by kernel_rfl) rfl rfl (by kernel_rfl) ?_
  refine ls_off (j := 2) (t := 5) (b := false) (c := true) rfl rfl (by kernel_rfl) (by kernel_rfl) rfl rfl (by kernel_rfl) ?_
  refine ls_val (v := .bool true) rfl rfl (by kernel_rfl) (fun w => by kernel_rfl) ?_
  refine ls_val (v := .bool true) rfl rfl (by kernel_rfl) (fun w => by kernel_rfl) ?_
  refine ls_end ?_
  refine qn_then ?_
  refine cs_ret' ?_
  obtain rfl := Option.some.inj H
  refine qr_res (rs := [_]) rfl (fun w' hs => ⟨[.bool true], (res_tmp (by kernel_rfl) (.nil)), (), rfl, hs.pick (ts := []) (cs := []) trivial (by decide)⟩)

/-! ### (*shadowbox/disk.Disk).check, specialized: function 15 -/
def disk_Disk_check_snil0.f (k : Nat) (a1 : Int) : Option (Int) :=
  some (1 : Int)
set_option maxRecDepth 100000 in
set_option maxHeartbeats 4000000 in
theorem disk_Disk_check_snil0.calls (k : Nat) (a1 : Int) (r : Int) (b : Bs) (hs0 : St b (stl []) b.w) (H : disk_Disk_check_snil0.f k a1 = some r) :
    Calls Try.prog 15 #[.pointer none, .int .i64 a1] b.w fun e w' => ∃ x : Unit, e = .returned (.int .i64 r) ∧ St b (stl []) w' := by
  unfold disk_Disk_check_snil0.f at H
  refine enterb (n := 20) Try.func15 rfl (by kernel_rfl) (by kernel_rfl) hs0 ?_
  refine cs_sub (s0) (sub_nil _) ?_
  refine cs_seq ?_
  refine cs_region (l := [_]) ?_
  refine ls_val (v := .int .i64 (0 : Int)) rfl rfl (by kernel_rfl) (fun w => by kernel_rfl) ?_
  refine ls_end ?_
  refine qn_then ?_
  refine cs_seq ?_
  refine cs_block ?_
  refine cs_seq ?_
  refine cs_region (l := [_, _, _]) ?_
  refine ls_val (v := .pointer none) rfl rfl (by kernel_rfl) (fun w => by kernel_rfl) ?_
  have hc2 : disk_Disk_none_snil0.f k = some true := rfl
  refine ls_callb (fid := 14) (vals := #[.pointer none]) (X := Unit) (fun x => .bool true) (fun x => stl []) [] [] [] [] 0 rfl rfl (by kernel_rfl) (fun w => by kernel_rfl) trivial trivial (by decide) (fun w hs hb => disk_Disk_none_snil0.calls k  true (lent b w [] []) hb  hc2) ?_
  intro x3
  refine ls_val (v := .bool true) rfl rfl (by kernel_rfl) (fun w => by kernel_rfl) ?_
  refine ls_end ?_
  refine qn_then ?_
  refine cs_true (by kernel_rfl) ?_
  refine cs_seq ?_
  refine cs_region (l := [_]) ?_
  refine ls_val (v := .int .i64 (1 : Int)) rfl rfl (by kernel_rfl) (fun w => by kernel_rfl) ?_
  refine ls_end ?_
  refine qn_then ?_
  refine cs_ret' ?_
  refine qr_block ?_
  refine qr_then ?_
  obtain rfl := Option.some.inj H
  refine qr_res (rs := [_]) rfl (fun w' hs => ⟨[.int .i64 (1 : Int)], (res_tmp (by kernel_rfl) (.nil)), (), rfl, hs.pick (ts := []) (cs := []) trivial (by decide)⟩)

/-! ### (*shadowbox/disk.Disk).Read, specialized: function 10 -/
def disk_Disk_Read_snil0.f (k : Nat) (a1 : Int) : Option ((List Int) × Int) :=
  some (([] : List Int), (1 : Int))
set_option maxRecDepth 100000 in
set_option maxHeartbeats 4000000 in
theorem disk_Disk_Read_snil0.calls (k : Nat) (a1 : Int) (r : (List Int) × Int) (b : Bs) (hs0 : St b (stl []) b.w) (H : disk_Disk_Read_snil0.f k a1 = some r) :
    Calls Try.prog 10 #[.pointer none, .int .i64 a1] b.w fun e w' => ∃ x : (Option Addr × Nat), e = .returned (.tuple #[.slice x.1 r.1.length x.2, .int .i64 r.2]) ∧ St b (stl [Ck.sl (Ec.int 5 .u8) x.1 x.2 r.1]) w' := by
  unfold disk_Disk_Read_snil0.f at H
  refine enterb (n := 34) Try.func10 rfl (by kernel_rfl) (by kernel_rfl) hs0 ?_
  refine cs_sub (s0) (sub_nil _) ?_
  refine cs_seq ?_
  refine cs_region (l := [_, _]) ?_
  refine ls_val (v := .slice none 0 0) rfl rfl (by kernel_rfl) (fun w => by kernel_rfl) ?_
  refine ls_val (v := .int .i64 (0 : Int)) rfl rfl (by kernel_rfl) (fun w => by kernel_rfl) ?_
  refine ls_end ?_
  refine qn_then ?_
  refine cs_seq ?_
  refine cs_seq ?_
  refine cs_region (l := [_, _, _, _]) ?_
  refine ls_val (v := .pointer none) rfl rfl (by kernel_rfl) (fun w => by kernel_rfl) ?_
  refine ls_val (v := .int .i64 a1) rfl rfl (by kernel_rfl) (fun w => by kernel_rfl) ?_
  have hc2 : disk_Disk_check_snil0.f k a1 = some (1 : Int) := rfl
  refine ls_callb (fid := 15) (vals := #[.pointer none, .int .i64 a1]) (X := Unit) (fun x => .int .i64 (1 : Int)) (fun x => stl []) [] [] [] [] 0 rfl rfl (by kernel_rfl) (fun w => by kernel_rfl) trivial trivial (by decide) (fun w hs hb => disk_Disk_check_snil0.calls k a1 (1 : Int) (lent b w [] []) hb  hc2) ?_
  intro x3
  refine ls_val (v := .int .i64 (1 : Int)) rfl rfl (by kernel_rfl) (fun w => by kernel_rfl) ?_
  refine ls_end ?_
  refine qn_then ?_
  refine cs_seq ?_
  refine cs_region (l := [_, _]) ?_
  refine ls_val (v := .int .i64 (1 : Int)) rfl rfl (by kernel_rfl) (fun w => by kernel_rfl) ?_
  refine ls_val (v := .bool true) rfl rfl (by kernel_rfl) (fun w => by kernel_rfl) ?_
  refine ls_end ?_
  refine qn_then ?_
  refine cs_true (by kernel_rfl) ?_
  refine cs_seq ?_
  refine cs_region (l := [_, _, _]) ?_
  refine ls_val (v := .int .i64 (1 : Int)) rfl rfl (by kernel_rfl) (fun w => by kernel_rfl) ?_
  refine ls_val (v := .slice none 0 0) rfl rfl (by kernel_rfl) (fun w => by kernel_rfl) ?_
  refine ls_val (v := .int .i64 (1 : Int)) rfl rfl (by kernel_rfl) (fun w => by kernel_rfl) ?_
  refine ls_end ?_
  refine qn_then ?_
  refine cs_ret' ?_
  refine qr_then ?_
  refine qr_nilrow 0 (Ec.int 5 .u8) ?_
  obtain rfl := Option.some.inj H
  refine qr_res (rs := [_, _]) rfl (fun w' hs => ⟨[.slice none 0 0, .int .i64 (1 : Int)], (res_tmp (by kernel_rfl) (res_tmp (by kernel_rfl) (.nil))), (none, 0), rfl, hs.pick (ts := [0]) (cs := [Ck.sl (Ec.int 5 .u8) none 0 ([] : List Int)]) ⟨by exact rfl, trivial⟩ (by decide)⟩)

/-! ### (*shadowbox/disk.Disk).Crash, specialized: function 11 -/
def disk_Disk_Crash_snil0.f (k : Nat) (l1 : List Int) : Option (Unit × Int) :=
  some ((), (1 : Int))
set_option maxRecDepth 100000 in
set_option maxHeartbeats 4000000 in
theorem disk_Disk_Crash_snil0.calls (k : Nat) (A1 : Option Addr) (c1 : Nat) (l1 : List Int) (r : Unit × Int) (b : Bs) (hs0 : St b (stl []) b.w) (R1 : Ro b A1 (em (Ec.int 3 .i64) l1)) (C1 : l1.length ≤ c1) (H : disk_Disk_Crash_snil0.f k l1 = some r) :
    Calls Try.prog 11 #[.pointer none, .slice A1 l1.length c1] b.w fun e w' => ∃ x : Unit, e = .returned (.tuple #[.pointer none, .int .i64 r.2]) ∧ St b (stl []) w' := by
  unfold disk_Disk_Crash_snil0.f at H
  refine enterb (n := 71) Try.func11 rfl (by kernel_rfl) (by kernel_rfl) hs0 ?_
  refine cs_sub (s0) (sub_nil _) ?_
  refine cs_seq ?_
  refine cs_region (l := [_, _]) ?_
  refine ls_val (v := .pointer none) rfl rfl (by kernel_rfl) (fun w => by kernel_rfl) ?_
  refine ls_val (v := .int .i64 (0 : Int)) rfl rfl (by kernel_rfl) (fun w => by kernel_rfl) ?_
  refine ls_end ?_
  refine qn_then ?_
  refine cs_seq ?_
  refine cs_seq ?_
  refine cs_region (l := [_, _]) ?_
  refine ls_val (v := .pointer none) rfl rfl (by kernel_rfl) (fun w => by kernel_rfl) ?_
  have hc2 : disk_Disk_none_snil0.f k = some true := rfl
  refine ls_callb (fid := 14) (vals := #[.pointer none]) (X := Unit) (fun x => .bool true) (fun x => stl []) [] [] [] [] 0 rfl rfl (by kernel_rfl) (fun w => by kernel_rfl) trivial trivial (by decide) (fun w hs hb => disk_Disk_none_snil0.calls k  true (lent b w [] []) hb  hc2) ?_
  intro x3
  refine ls_end ?_
  refine qn_then ?_
  refine cs_true (by kernel_rfl) ?_
  refine cs_seq ?_
  refine cs_region (l := [_, _]) ?_
  refine ls_val (v := .pointer none) rfl rfl (by kernel_rfl) (fun w => by kernel_rfl) ?_
  refine ls_val (v := .int .i64 (1 : Int)) rfl rfl (by kernel_rfl) (fun w => by kernel_rfl) ?_
  refine ls_end ?_
  refine qn_then ?_
  refine cs_ret' ?_
  refine qr_then ?_
  obtain rfl := Option.some.inj H
  refine qr_res (rs := [_, _]) rfl (fun w' hs => ⟨[.pointer none, .int .i64 (1 : Int)], (res_tmp (by kernel_rfl) (res_tmp (by kernel_rfl) (.nil))), (), rfl, hs.pick (ts := []) (cs := []) trivial (by decide)⟩)

/-! ### (*shadowbox/disk.Disk).Fuse, specialized: function 7 -/
def disk_Disk_Fuse_snil0.f (k : Nat) (a1 : Int) : Option (Unit) :=
  some ()
set_option maxRecDepth 100000 in
set_option maxHeartbeats 4000000 in
theorem disk_Disk_Fuse_snil0.calls (k : Nat) (a1 : Int) (r : Unit) (b : Bs) (hs0 : St b (stl []) b.w) (H : disk_Disk_Fuse_snil0.f k a1 = some r) :
    Calls Try.prog 7 #[.pointer none, .int .i64 a1] b.w fun e w' => ∃ x : Unit, e = .returned (.tuple #[]) ∧ St b (stl []) w' := by
  unfold disk_Disk_Fuse_snil0.f at H
  refine enterb (n := 15) Try.func7 rfl (by kernel_rfl) (by kernel_rfl) hs0 ?_
  refine cs_sub (s0) (sub_nil _) ?_
  refine cs_seq ?_
  refine cs_region (l := [_, _, _]) ?_
  refine ls_val (v := .pointer none) rfl rfl (by kernel_rfl) (fun w => by kernel_rfl) ?_
  have hc2 : disk_Disk_none_snil0.f k = some true := rfl
  refine ls_callb (fid := 14) (vals := #[.pointer none]) (X := Unit) (fun x => .bool true) (fun x => stl []) [] [] [] [] 0 rfl rfl (by kernel_rfl) (fun w => by kernel_rfl) trivial trivial (by decide) (fun w hs hb => disk_Disk_none_snil0.calls k  true (lent b w [] []) hb  hc2) ?_
  intro x3
  refine ls_val (v := .bool false) rfl rfl (by kernel_rfl) (fun w => by kernel_rfl) ?_
  refine ls_end ?_
  refine qn_then ?_
  refine cs_false (by kernel_rfl) ?_
  refine cs_skip' ?_
  obtain rfl := Option.some.inj H
  refine qn_res (rs := []) rfl (fun w' hs => ⟨[], (.nil), (), rfl, hs.pick (ts := []) (cs := []) trivial (by decide)⟩)

/-! ### (*shadowbox/disk.Disk).Write, specialized: function 8 -/
def disk_Disk_Write_snil0.f (k : Nat) (a1 : Int) (l2 : List Int) : Option (Int) :=
  some (1 : Int)
set_option maxRecDepth 100000 in
set_option maxHeartbeats 4000000 in
theorem disk_Disk_Write_snil0.calls (k : Nat) (a1 : Int) (A2 : Option Addr) (c2 : Nat) (l2 : List Int) (r : Int) (b : Bs) (hs0 : St b (stl []) b.w) (R2 : Ro b A2 (em (Ec.int 5 .u8) l2)) (C2 : l2.length ≤ c2) (H : disk_Disk_Write_snil0.f k a1 l2 = some r) :
    Calls Try.prog 8 #[.pointer none, .int .i64 a1, .slice A2 l2.length c2] b.w fun e w' => ∃ x : Unit, e = .returned (.int .i64 r) ∧ St b (stl []) w' := by
  unfold disk_Disk_Write_snil0.f at H
  refine enterb (n := 35) Try.func8 rfl (by kernel_rfl) (by kernel_rfl) hs0 ?_
  refine cs_sub (s0) (sub_nil _) ?_
  refine cs_seq ?_
  refine cs_region (l := [_]) ?_
  refine ls_val (v := .int .i64 (0 : Int)) rfl rfl (by kernel_rfl) (fun w => by kernel_rfl) ?_
  refine ls_end ?_
  refine qn_then ?_
  refine cs_seq ?_
  refine cs_region (l := [_, _, _, _]) ?_
  refine ls_val (v := .pointer none) rfl rfl (by kernel_rfl) (fun w => by kernel_rfl) ?_
  refine ls_val (v := .int .i64 a1) rfl rfl (by kernel_rfl) (fun w => by kernel_rfl) ?_
  have hc2 : disk_Disk_check_snil0.f k a1 = some (1 : Int) := rfl
  refine ls_callb (fid := 15) (vals := #[.pointer none, .int .i64 a1]) (X := Unit) (fun x => .int .i64 (1 : Int)) (fun x => stl []) [] [] [] [] 0 rfl rfl (by kernel_rfl) (fun w => by kernel_rfl) trivial trivial (by decide) (fun w hs hb => disk_Disk_check_snil0.calls k a1 (1 : Int) (lent b w [] []) hb  hc2) ?_
  intro x3
  refine ls_val (v := .int .i64 (1 : Int)) rfl rfl (by kernel_rfl) (fun w => by kernel_rfl) ?_
  refine ls_end ?_
  refine qn_then ?_
  refine cs_seq ?_
  refine cs_seq ?_
  refine cs_region (l := [_, _, _, _, _, _, _]) ?_
  refine ls_val (v := .int .i64 (1 : Int)) rfl rfl (by kernel_rfl) (fun w => by kernel_rfl) ?_
  refine ls_val (v := .bool false) rfl rfl (by kernel_rfl) (fun w => by kernel_rfl) ?_
  refine ls_val (v := .bool false) rfl rfl (by kernel_rfl) (fun w => by kernel_rfl) ?_
  refine ls_off (j := 2) (t := 14) (b := true) (c := false) rfl rfl (by kernel_rfl) (by kernel_rfl) rfl rfl (by kernel_rfl) ?_
  refine ls_off (j := 2) (t := 14) (b := true) (c := false) rfl rfl (by kernel_rfl) (by kernel_rfl) rfl rfl (by kernel_rfl) ?_
  refine ls_off (j := 2) (t := 14) (b := true) (c := false) rfl rfl (by kernel_rfl) (by kernel_rfl) rfl rfl (by kernel_rfl) ?_
  refine ls_val (v := .bool false) rfl rfl (by kernel_rfl) (fun w => by kernel_rfl) ?_
  refine ls_end ?_
  refine qn_then ?_
  refine cs_false (by kernel_rfl) ?_
  refine cs_skip' ?_
  refine qn_then ?_
  refine cs_seq ?_
  refine cs_seq ?_
  refine cs_region (l := [_, _]) ?_
  refine ls_val (v := .int .i64 (1 : Int)) rfl rfl (by kernel_rfl) (fun w => by kernel_rfl) ?_
  refine ls_val (v := .bool false) rfl rfl (by kernel_rfl) (fun w => by kernel_rfl) ?_
  refine ls_end ?_
  refine qn_then ?_
  refine cs_false (by kernel_rfl) ?_
  refine cs_skip' ?_
  refine qn_then ?_
  refine cs_seq ?_
  refine cs_seq ?_
  refine cs_region (l := [_, _]) ?_
  refine ls_val (v := .int .i64 (1 : Int)) rfl rfl (by kernel_rfl) (fun w => by kernel_rfl) ?_
  refine ls_val (v := .bool true) rfl rfl (by kernel_rfl) (fun w => by kernel_rfl) ?_
  refine ls_end ?_
  refine qn_then ?_
  refine cs_true (by kernel_rfl) ?_
  refine cs_seq ?_
  refine cs_region (l := [_, _]) ?_
  refine ls_val (v := .int .i64 (1 : Int)) rfl rfl (by kernel_rfl) (fun w => by kernel_rfl) ?_
  refine ls_val (v := .int .i64 (1 : Int)) rfl rfl (by kernel_rfl) (fun w => by kernel_rfl) ?_
  refine ls_end ?_
  refine qn_then ?_
  refine cs_ret' ?_
  refine qr_then ?_
  obtain rfl := Option.some.inj H
  refine qr_res (rs := [_]) rfl (fun w' hs => ⟨[.int .i64 (1 : Int)], (res_tmp (by kernel_rfl) (.nil)), (), rfl, hs.pick (ts := []) (cs := []) trivial (by decide)⟩)

/-! ### (*shadowbox/disk.Disk).Flush, specialized: function 9 -/
def disk_Disk_Flush_snil0.f (k : Nat) : Option (Int) :=
  some (1 : Int)
set_option maxRecDepth 100000 in
set_option maxHeartbeats 4000000 in
theorem disk_Disk_Flush_snil0.calls (k : Nat)  (r : Int) (b : Bs) (hs0 : St b (stl []) b.w) (H : disk_Disk_Flush_snil0.f k = some r) :
    Calls Try.prog 9 #[.pointer none] b.w fun e w' => ∃ x : Unit, e = .returned (.int .i64 r) ∧ St b (stl []) w' := by
  unfold disk_Disk_Flush_snil0.f at H
  refine enterb (n := 35) Try.func9 rfl (by kernel_rfl) (by kernel_rfl) hs0 ?_
  refine cs_sub (s0) (sub_nil _) ?_
  refine cs_seq ?_
  refine cs_region (l := [_]) ?_
  refine ls_val (v := .int .i64 (0 : Int)) rfl rfl (by kernel_rfl) (fun w => by kernel_rfl) ?_
  refine ls_end ?_
  refine qn_then ?_
  refine cs_seq ?_
  refine cs_seq ?_
  refine cs_region (l := [_, _]) ?_
  refine ls_val (v := .pointer none) rfl rfl (by kernel_rfl) (fun w => by kernel_rfl) ?_
  have hc2 : disk_Disk_none_snil0.f k = some true := rfl
  refine ls_callb (fid := 14) (vals := #[.pointer none]) (X := Unit) (fun x => .bool true) (fun x => stl []) [] [] [] [] 0 rfl rfl (by kernel_rfl) (fun w => by kernel_rfl) trivial trivial (by decide) (fun w hs hb => disk_Disk_none_snil0.calls k  true (lent b w [] []) hb  hc2) ?_
  intro x3
  refine ls_end ?_
  refine qn_then ?_
  refine cs_true (by kernel_rfl) ?_
  refine cs_seq ?_
  refine cs_region (l := [_]) ?_
  refine ls_val (v := .int .i64 (1 : Int)) rfl rfl (by kernel_rfl) (fun w => by kernel_rfl) ?_
  refine ls_end ?_
  refine qn_then ?_
  refine cs_ret' ?_
  refine qr_then ?_
  obtain rfl := Option.some.inj H
  refine qr_res (rs := [_]) rfl (fun w' hs => ⟨[.int .i64 (1 : Int)], (res_tmp (by kernel_rfl) (.nil)), (), rfl, hs.pick (ts := []) (cs := []) trivial (by decide)⟩)

/-! ### (*shadowbox/disk.Disk).Len, specialized: function 12 -/
def disk_Disk_Len_snil0.f (k : Nat) : Option (Int) :=
  some (0 : Int)
set_option maxRecDepth 100000 in
set_option maxHeartbeats 4000000 in
theorem disk_Disk_Len_snil0.calls (k : Nat)  (r : Int) (b : Bs) (hs0 : St b (stl []) b.w) (H : disk_Disk_Len_snil0.f k = some r) :
    Calls Try.prog 12 #[.pointer none] b.w fun e w' => ∃ x : Unit, e = .returned (.int .i64 r) ∧ St b (stl []) w' := by
  unfold disk_Disk_Len_snil0.f at H
  refine enterb (n := 10) Try.func12 rfl (by kernel_rfl) (by kernel_rfl) hs0 ?_
  refine cs_sub (s0) (sub_nil _) ?_
  refine cs_seq ?_
  refine cs_region (l := [_]) ?_
  refine ls_val (v := .int .i64 (0 : Int)) rfl rfl (by kernel_rfl) (fun w => by kernel_rfl) ?_
  refine ls_end ?_
  refine qn_then ?_
  refine cs_seq ?_
  refine cs_seq ?_
  refine cs_region (l := [_, _]) ?_
  refine ls_val (v := .pointer none) rfl rfl (by kernel_rfl) (fun w => by kernel_rfl) ?_
  have hc2 : disk_Disk_none_snil0.f k = some true := rfl
  refine ls_callb (fid := 14) (vals := #[.pointer none]) (X := Unit) (fun x => .bool true) (fun x => stl []) [] [] [] [] 0 rfl rfl (by kernel_rfl) (fun w => by kernel_rfl) trivial trivial (by decide) (fun w hs hb => disk_Disk_none_snil0.calls k  true (lent b w [] []) hb  hc2) ?_
  intro x3
  refine ls_end ?_
  refine qn_then ?_
  refine cs_true (by kernel_rfl) ?_
  refine cs_seq ?_
  refine cs_region (l := [_]) ?_
  refine ls_val (v := .int .i64 (0 : Int)) rfl rfl (by kernel_rfl) (fun w => by kernel_rfl) ?_
  refine ls_end ?_
  refine qn_then ?_
  refine cs_ret' ?_
  refine qr_then ?_
  obtain rfl := Option.some.inj H
  refine qr_res (rs := [_]) rfl (fun w' hs => ⟨[.int .i64 (0 : Int)], (res_tmp (by kernel_rfl) (.nil)), (), rfl, hs.pick (ts := []) (cs := []) trivial (by decide)⟩)

/-! ### (*shadowbox/disk.Disk).Waiting, specialized: function 13 -/
def disk_Disk_Waiting_snil0.f (k : Nat) : Option (Int) :=
  some (0 : Int)
set_option maxRecDepth 100000 in
set_option maxHeartbeats 4000000 in
theorem disk_Disk_Waiting_snil0.calls (k : Nat)  (r : Int) (b : Bs) (hs0 : St b (stl []) b.w) (H : disk_Disk_Waiting_snil0.f k = some r) :
    Calls Try.prog 13 #[.pointer none] b.w fun e w' => ∃ x : Unit, e = .returned (.int .i64 r) ∧ St b (stl []) w' := by
  unfold disk_Disk_Waiting_snil0.f at H
  refine enterb (n := 10) Try.func13 rfl (by kernel_rfl) (by kernel_rfl) hs0 ?_
  refine cs_sub (s0) (sub_nil _) ?_
  refine cs_seq ?_
  refine cs_region (l := [_]) ?_
  refine ls_val (v := .int .i64 (0 : Int)) rfl rfl (by kernel_rfl) (fun w => by kernel_rfl) ?_
  refine ls_end ?_
  refine qn_then ?_
  refine cs_seq ?_
  refine cs_seq ?_
  refine cs_region (l := [_, _]) ?_
  refine ls_val (v := .pointer none) rfl rfl (by kernel_rfl) (fun w => by kernel_rfl) ?_
  have hc2 : disk_Disk_none_snil0.f k = some true := rfl
  refine ls_callb (fid := 14) (vals := #[.pointer none]) (X := Unit) (fun x => .bool true) (fun x => stl []) [] [] [] [] 0 rfl rfl (by kernel_rfl) (fun w => by kernel_rfl) trivial trivial (by decide) (fun w hs hb => disk_Disk_none_snil0.calls k  true (lent b w [] []) hb  hc2) ?_
  intro x3
  refine ls_end ?_
  refine qn_then ?_
  refine cs_true (by kernel_rfl) ?_
  refine cs_seq ?_
  refine cs_region (l := [_]) ?_
  refine ls_val (v := .int .i64 (0 : Int)) rfl rfl (by kernel_rfl) (fun w => by kernel_rfl) ?_
  refine ls_end ?_
  refine qn_then ?_
  refine cs_ret' ?_
  refine qr_then ?_
  obtain rfl := Option.some.inj H
  refine qr_res (rs := [_]) rfl (fun w' hs => ⟨[.int .i64 (0 : Int)], (res_tmp (by kernel_rfl) (.nil)), (), rfl, hs.pick (ts := []) (cs := []) trivial (by decide)⟩)

/-! ### (*shadowbox/disk.Disk).none, specialized: function 14 -/
def disk_Disk_none_szero0.f (k : Nat) : Option (Bool) :=
  some true
set_option maxRecDepth 100000 in
set_option maxHeartbeats 4000000 in
theorem disk_Disk_none_szero0.calls (k : Nat) (pg0 : Nat) (r : Bool) (b : Bs) (hs0 : St b (stl [Ck.var 34 pg0 (([Value.slice none 0 0] ++ ([Value.map none] ++ ([Value.bool false] ++ ([Value.int .i64 (0 : Int)] ++ [Value.bool false])))))]) b.w) (H : disk_Disk_none_szero0.f k = some r) :
    Calls Try.prog 14 #[.pointer (some ⟨pg0, 0, none⟩)] b.w fun e w' => ∃ x : Unit, e = .returned (.bool r) ∧ St b (stl [Ck.var 34 pg0 (([Value.slice none 0 0] ++ ([Value.map none] ++ ([Value.bool false] ++ ([Value.int .i64 (0 : Int)] ++ [Value.bool false])))))]) w' := by
  unfold disk_Disk_none_szero0.f at H
  refine enterb (n := 12) Try.func14 rfl (by kernel_rfl) (by kernel_rfl) hs0 ?_
  refine cs_sub (sput s0 0 (some (Ck.var 34 pg0 (([Value.slice none 0 0] ++ ([Value.map none] ++ ([Value.bool false] ++ ([Value.int .i64 (0 : Int)] ++ [Value.bool false])))))))) (sub_put (by exact rfl) (sub_nil _)) ?_
  refine cs_seq ?_
  refine cs_region (l := [_]) ?_
  refine ls_val (v := .bool false) rfl rfl (by kernel_rfl) (fun w => by kernel_rfl) ?_
  refine ls_end ?_
  refine qn_then ?_
  refine cs_seq ?_
  refine cs_region (l := [_, _, _, _, _, _, _, _, _, _]) ?_
  refine ls_val (v := .pointer (some ⟨pg0, 0, none⟩)) rfl rfl (by kernel_rfl) (fun w => by kernel_rfl) ?_
  refine ls_val (v := .bool false) rfl rfl (by kernel_rfl) (fun w => by kernel_rfl) ?_
  refine ls_val (v := .bool false) rfl rfl (by kernel_rfl) (fun w => by kernel_rfl) ?_
  refine ls_on (j := 2) (t := 5) (b := false) rfl rfl (by kernel_rfl) (by kernel_rfl) ?_
  refine ls_val (v := .pointer (some ⟨pg0, 0, none⟩)) rfl rfl (by kernel_rfl) (fun w => by kernel_rfl) ?_
  refine ls_on (j := 2) (t := 5) (b := false) rfl rfl (by kernel_rfl) (by kernel_rfl) ?_
  refine ls_val (v := .pointer (some ⟨pg0, 0, none⟩)) rfl rfl (by kernel_rfl) (fun w => by kernel_rfl) ?_
  refine ls_on (j := 2) (t := 5) (b := false) rfl rfl (by kernel_rfl) (by kernel_rfl) ?_
  refine ls_val (v := .pointer (some ⟨pg0, (0 + 0), none⟩)) rfl rfl (by kernel_rfl) (fun w => by kernel_rfl) ?_
  refine ls_on (j := 2) (t := 5) (b := false) rfl rfl (by kernel_rfl) (by kernel_rfl) ?_
  refine ls_load (a0 := ⟨pg0, (0 + 0), none⟩) (v := .slice none 0 0) (de := (TypeDesc.slice 48)) rfl rfl (by kernel_rfl) rfl (by kernel_rfl) (by kernel_rfl) (by kernel_rfl) (fun w hs => (hs.var (k := 0) (by exact rfl) (Sub4.trans (Sub4.all _) (Sub4.head _ _)))) ?_
  refine ls_on (j := 2) (t := 5) (b := false) rfl rfl (by kernel_rfl) (by kernel_rfl) ?_
  refine ls_val (v := .bool true) rfl rfl (by kernel_rfl) (fun w => by kernel_rfl) ?_
  refine ls_val (v := .bool true) rfl rfl (by kernel_rfl) (fun w => by kernel_rfl) ?_
  refine ls_val (v := .bool true) rfl rfl (by kernel_rfl) (fun w => by kernel_rfl) ?_
  refine ls_end ?_
  refine qn_then ?_
  refine cs_ret' ?_
  obtain rfl := Option.some.inj H
  refine qr_res (rs := [_]) rfl (fun w' hs => ⟨[.bool true], (res_tmp (by kernel_rfl) (.nil)), (), rfl, hs.pick (ts := [0]) (cs := [Ck.var 34 pg0 (([Value.slice none 0 0] ++ ([Value.map none] ++ ([Value.bool false] ++ ([Value.int .i64 (0 : Int)] ++ [Value.bool false])))))]) ⟨by exact rfl, trivial⟩ (by decide)⟩)

/-! ### (*shadowbox/disk.Disk).check, specialized: function 15 -/
def disk_Disk_check_szero0.f (k : Nat) (a1 : Int) : Option (Int) :=
  some (1 : Int)
set_option maxRecDepth 100000 in
set_option maxHeartbeats 4000000 in
theorem disk_Disk_check_szero0.calls (k : Nat) (pg0 : Nat) (a1 : Int) (r : Int) (b : Bs) (hs0 : St b (stl [Ck.var 34 pg0 (([Value.slice none 0 0] ++ ([Value.map none] ++ ([Value.bool false] ++ ([Value.int .i64 (0 : Int)] ++ [Value.bool false])))))]) b.w) (H : disk_Disk_check_szero0.f k a1 = some r) :
    Calls Try.prog 15 #[.pointer (some ⟨pg0, 0, none⟩), .int .i64 a1] b.w fun e w' => ∃ x : Unit, e = .returned (.int .i64 r) ∧ St b (stl [Ck.var 34 pg0 (([Value.slice none 0 0] ++ ([Value.map none] ++ ([Value.bool false] ++ ([Value.int .i64 (0 : Int)] ++ [Value.bool false])))))]) w' := by
  unfold disk_Disk_check_szero0.f at H
  refine enterb (n := 20) Try.func15 rfl (by kernel_rfl) (by kernel_rfl) hs0 ?_
  refine cs_sub (sput s0 0 (some (Ck.var 34 pg0 (([Value.slice none 0 0] ++ ([Value.map none] ++ ([Value.bool false] ++ ([Value.int .i64 (0 : Int)] ++ [Value.bool false])))))))) (sub_put (by exact rfl) (sub_nil _)) ?_
  refine cs_seq ?_
  refine cs_region (l := [_]) ?_
  refine ls_val (v := .int .i64 (0 : Int)) rfl rfl (by kernel_rfl) (fun w => by kernel_rfl) ?_
  refine ls_end ?_
  refine qn_then ?_
  refine cs_seq ?_
  refine cs_block ?_
  refine cs_seq ?_
  refine cs_region (l := [_, _, _]) ?_
  refine ls_val (v := .pointer (some ⟨pg0, 0, none⟩)) rfl rfl (by kernel_rfl) (fun w => by kernel_rfl) ?_
  have hc2 : disk_Disk_none_szero0.f k = some true := rfl
  refine ls_callb (fid := 14) (vals := #[.pointer (some ⟨pg0, 0, none⟩)]) (X := Unit) (fun x => .bool true) (fun x => stl [Ck.var 34 pg0 (([Value.slice none 0 0] ++ ([Value.map none] ++ ([Value.bool false] ++ ([Value.int .i64 (0 : Int)] ++ [Value.bool false])))))]) [0] [] [Ck.var 34 pg0 (([Value.slice none 0 0] ++ ([Value.map none] ++ ([Value.bool false] ++ ([Value.int .i64 (0 : Int)] ++ [Value.bool false])))))] [] 1 rfl rfl (by kernel_rfl) (fun w => by kernel_rfl) ⟨by exact rfl, trivial⟩ trivial (by decide) (fun w hs hb => disk_Disk_none_szero0.calls k pg0 true (lent b w [Ck.var 34 pg0 (([Value.slice none 0 0] ++ ([Value.map none] ++ ([Value.bool false] ++ ([Value.int .i64 (0 : Int)] ++ [Value.bool false])))))] []) hb  hc2) ?_
  intro x3
  refine ls_val (v := .bool true) rfl rfl (by kernel_rfl) (fun w => by kernel_rfl) ?_
  refine ls_end ?_
  refine qn_then ?_
  refine cs_true (by kernel_rfl) ?_
  refine cs_seq ?_
  refine cs_region (l := [_]) ?_
  refine ls_val (v := .int .i64 (1 : Int)) rfl rfl (by kernel_rfl) (fun w => by kernel_rfl) ?_
  refine ls_end ?_
  refine qn_then ?_
  refine cs_ret' ?_
  refine qr_block ?_
  refine qr_then ?_
  obtain rfl := Option.some.inj H
  refine qr_res (rs := [_]) rfl (fun w' hs => ⟨[.int .i64 (1 : Int)], (res_tmp (by kernel_rfl) (.nil)), (), rfl, hs.pick (ts := [0]) (cs := [Ck.var 34 pg0 (([Value.slice none 0 0] ++ ([Value.map none] ++ ([Value.bool false] ++ ([Value.int .i64 (0 : Int)] ++ [Value.bool false])))))]) ⟨by exact rfl, trivial⟩ (by decide)⟩)

/-! ### (*shadowbox/disk.Disk).Read, specialized: function 10 -/
def disk_Disk_Read_szero0.f (k : Nat) (a1 : Int) : Option ((List Int) × Int) :=
  some (([] : List Int), (1 : Int))
set_option maxRecDepth 100000 in
set_option maxHeartbeats 4000000 in
theorem disk_Disk_Read_szero0.calls (k : Nat) (pg0 : Nat) (a1 : Int) (r : (List Int) × Int) (b : Bs) (hs0 : St b (stl [Ck.var 34 pg0 (([Value.slice none 0 0] ++ ([Value.map none] ++ ([Value.bool false] ++ ([Value.int .i64 (0 : Int)] ++ [Value.bool false])))))]) b.w) (H : disk_Disk_Read_szero0.f k a1 = some r) :
    Calls Try.prog 10 #[.pointer (some ⟨pg0, 0, none⟩), .int .i64 a1] b.w fun e w' => ∃ x : (Option Addr × Nat), e = .returned (.tuple #[.slice x.1 r.1.length x.2, .int .i64 r.2]) ∧ St b (stl [Ck.var 34 pg0 (([Value.slice none 0 0] ++ ([Value.map none] ++ ([Value.bool false] ++ ([Value.int .i64 (0 : Int)] ++ [Value.bool false]))))), Ck.sl (Ec.int 5 .u8) x.1 x.2 r.1]) w' := by
  unfold disk_Disk_Read_szero0.f at H
  refine enterb (n := 34) Try.func10 rfl (by kernel_rfl) (by kernel_rfl) hs0 ?_
  refine cs_sub (sput s0 0 (some (Ck.var 34 pg0 (([Value.slice none 0 0] ++ ([Value.map none] ++ ([Value.bool false] ++ ([Value.int .i64 (0 : Int)] ++ [Value.bool false])))))))) (sub_put (by exact rfl) (sub_nil _)) ?_
  refine cs_seq ?_
  refine cs_region (l := [_, _]) ?_
  refine ls_val (v := .slice none 0 0) rfl rfl (by kernel_rfl) (fun w => by kernel_rfl) ?_
  refine ls_val (v := .int .i64 (0 : Int)) rfl rfl (by kernel_rfl) (fun w => by kernel_rfl) ?_
  refine ls_end ?_
  refine qn_then ?_
  refine cs_seq ?_
  refine cs_seq ?_
  refine cs_region (l := [_, _, _, _]) ?_
  refine ls_val (v := .pointer (some ⟨pg0, 0, none⟩)) rfl rfl (by kernel_rfl) (fun w => by kernel_rfl) ?_
  refine ls_val (v := .int .i64 a1) rfl rfl (by kernel_rfl) (fun w => by kernel_rfl) ?_
  have hc2 : disk_Disk_check_szero0.f k a1 = some (1 : Int) := rfl
  refine ls_callb (fid := 15) (vals := #[.pointer (some ⟨pg0, 0, none⟩), .int .i64 a1]) (X := Unit) (fun x => .int .i64 (1 : Int)) (fun x => stl [Ck.var 34 pg0 (([Value.slice none 0 0] ++ ([Value.map none] ++ ([Value.bool false] ++ ([Value.int .i64 (0 : Int)] ++ [Value.bool false])))))]) [0] [] [Ck.var 34 pg0 (([Value.slice none 0 0] ++ ([Value.map none] ++ ([Value.bool false] ++ ([Value.int .i64 (0 : Int)] ++ [Value.bool false])))))] [] 1 rfl rfl (by kernel_rfl) (fun w => by kernel_rfl) ⟨by exact rfl, trivial⟩ trivial (by decide) (fun w hs hb => disk_Disk_check_szero0.calls k pg0 a1 (1 : Int) (lent b w [Ck.var 34 pg0 (([Value.slice none 0 0] ++ ([Value.map none] ++ ([Value.bool false] ++ ([Value.int .i64 (0 : Int)] ++ [Value.bool false])))))] []) hb  hc2) ?_
  intro x3
  refine ls_val (v := .int .i64 (1 : Int)) rfl rfl (by kernel_rfl) (fun w => by kernel_rfl) ?_
  refine ls_end ?_
  refine qn_then ?_
  refine cs_seq ?_
  refine cs_region (l := [_, _]) ?_
  refine ls_val (v := .int .i64 (1 : Int)) rfl rfl (by kernel_rfl) (fun w => by kernel_rfl) ?_
  refine ls_val (v := .bool true) rfl rfl (by kernel_rfl) (fun w => by kernel_rfl) ?_
  refine ls_end ?_
  refine qn_then ?_
  refine cs_true (by kernel_rfl) ?_
  refine cs_seq ?_
  refine cs_region (l := [_, _, _]) ?_
  refine ls_val (v := .int .i64 (1 : Int)) rfl rfl (by kernel_rfl) (fun w => by kernel_rfl) ?_
  refine ls_val (v := .slice none 0 0) rfl rfl (by kernel_rfl) (fun w => by kernel_rfl) ?_
  refine ls_val (v := .int .i64 (1 : Int)) rfl rfl (by kernel_rfl) (fun w => by kernel_rfl) ?_
  refine ls_end ?_
  refine qn_then ?_
  refine cs_ret' ?_
  refine qr_then ?_
  refine qr_nilrow 1 (Ec.int 5 .u8) ?_
  obtain rfl := Option.some.inj H
  refine qr_res (rs := [_, _]) rfl (fun w' hs => ⟨[.slice none 0 0, .int .i64 (1 : Int)], (res_tmp (by kernel_rfl) (res_tmp (by kernel_rfl) (.nil))), (none, 0), rfl, hs.pick (ts := [0, 1]) (cs := [Ck.var 34 pg0 (([Value.slice none 0 0] ++ ([Value.map none] ++ ([Value.bool false] ++ ([Value.int .i64 (0 : Int)] ++ [Value.bool false]))))), Ck.sl (Ec.int 5 .u8) none 0 ([] : List Int)]) ⟨by exact rfl, by exact rfl, trivial⟩ (by decide)⟩)

/-! ### (*shadowbox/disk.Disk).Crash, specialized: function 11 -/
def disk_Disk_Crash_szero0.f (k : Nat) (l1 : List Int) : Option (Unit × Int) :=
  some ((), (1 : Int))
set_option maxRecDepth 100000 in
set_option maxHeartbeats 4000000 in
theorem disk_Disk_Crash_szero0.calls (k : Nat) (pg0 : Nat) (A1 : Option Addr) (c1 : Nat) (l1 : List Int) (r : Unit × Int) (b : Bs) (hs0 : St b (stl [Ck.var 34 pg0 (([Value.slice none 0 0] ++ ([Value.map none] ++ ([Value.bool false] ++ ([Value.int .i64 (0 : Int)] ++ [Value.bool false])))))]) b.w) (R1 : Ro b A1 (em (Ec.int 3 .i64) l1)) (C1 : l1.length ≤ c1) (H : disk_Disk_Crash_szero0.f k l1 = some r) :
    Calls Try.prog 11 #[.pointer (some ⟨pg0, 0, none⟩), .slice A1 l1.length c1] b.w fun e w' => ∃ x : Unit, e = .returned (.tuple #[.pointer none, .int .i64 r.2]) ∧ St b (stl [Ck.var 34 pg0 (([Value.slice none 0 0] ++ ([Value.map none] ++ ([Value.bool false] ++ ([Value.int .i64 (0 : Int)] ++ [Value.bool false])))))]) w' := by
  unfold disk_Disk_Crash_szero0.f at H
  refine enterb (n := 71) Try.func11 rfl (by kernel_rfl) (by kernel_rfl) hs0 ?_
  refine cs_sub (sput s0 0 (some (Ck.var 34 pg0 (([Value.slice none 0 0] ++ ([Value.map none] ++ ([Value.bool false] ++ ([Value.int .i64 (0 : Int)] ++ [Value.bool false])))))))) (sub_put (by exact rfl) (sub_nil _)) ?_
  refine cs_seq ?_
  refine cs_region (l := [_, _]) ?_
  refine ls_val (v := .pointer none) rfl rfl (by kernel_rfl) (fun w => by kernel_rfl) ?_
  refine ls_val (v := .int .i64 (0 : Int)) rfl rfl (by kernel_rfl) (fun w => by kernel_rfl) ?_
  refine ls_end ?_
  refine qn_then ?_
  refine cs_seq ?_
  refine cs_seq ?_
  refine cs_region (l := [_, _]) ?_
  refine ls_val (v := .pointer (some ⟨pg0, 0, none⟩)) rfl rfl (by kernel_rfl) (fun w => by kernel_rfl) ?_
  have hc2 : disk_Disk_none_szero0.f k = some true := rfl
  refine ls_callb (fid := 14) (vals := #[.pointer (some ⟨pg0, 0, none⟩)]) (X := Unit) (fun x => .bool true) (fun x => stl [Ck.var 34 pg0 (([Value.slice none 0 0] ++ ([Value.map none] ++ ([Value.bool false] ++ ([Value.int .i64 (0 : Int)] ++ [Value.bool false])))))]) [0] [] [Ck.var 34 pg0 (([Value.slice none 0 0] ++ ([Value.map none] ++ ([Value.bool false] ++ ([Value.int .i64 (0 : Int)] ++ [Value.bool false])))))] [] 1 rfl rfl (by kernel_rfl) (fun w => by kernel_rfl) ⟨by exact rfl, trivial⟩ trivial (by decide) (fun w hs hb => disk_Disk_none_szero0.calls k pg0 true (lent b w [Ck.var 34 pg0 (([Value.slice none 0 0] ++ ([Value.map none] ++ ([Value.bool false] ++ ([Value.int .i64 (0 : Int)] ++ [Value.bool false])))))] []) hb  hc2) ?_
  intro x3
  refine ls_end ?_
  refine qn_then ?_
  refine cs_true (by kernel_rfl) ?_
  refine cs_seq ?_
  refine cs_region (l := [_, _]) ?_
  refine ls_val (v := .pointer none) rfl rfl (by kernel_rfl) (fun w => by kernel_rfl) ?_
  refine ls_val (v := .int .i64 (1 : Int)) rfl rfl (by kernel_rfl) (fun w => by kernel_rfl) ?_
  refine ls_end ?_
  refine qn_then ?_
  refine cs_ret' ?_
  refine qr_then ?_
  obtain rfl := Option.some.inj H
  refine qr_res (rs := [_, _]) rfl (fun w' hs => ⟨[.pointer none, .int .i64 (1 : Int)], (res_tmp (by kernel_rfl) (res_tmp (by kernel_rfl) (.nil))), (), rfl, hs.pick (ts := [0]) (cs := [Ck.var 34 pg0 (([Value.slice none 0 0] ++ ([Value.map none] ++ ([Value.bool false] ++ ([Value.int .i64 (0 : Int)] ++ [Value.bool false])))))]) ⟨by exact rfl, trivial⟩ (by decide)⟩)

/-! ### (*shadowbox/disk.Disk).Fuse, specialized: function 7 -/
def disk_Disk_Fuse_szero0.f (k : Nat) (a1 : Int) : Option (Unit) :=
  some ()
set_option maxRecDepth 100000 in
set_option maxHeartbeats 4000000 in
theorem disk_Disk_Fuse_szero0.calls (k : Nat) (pg0 : Nat) (a1 : Int) (r : Unit) (b : Bs) (hs0 : St b (stl [Ck.var 34 pg0 (([Value.slice none 0 0] ++ ([Value.map none] ++ ([Value.bool false] ++ ([Value.int .i64 (0 : Int)] ++ [Value.bool false])))))]) b.w) (H : disk_Disk_Fuse_szero0.f k a1 = some r) :
    Calls Try.prog 7 #[.pointer (some ⟨pg0, 0, none⟩), .int .i64 a1] b.w fun e w' => ∃ x : Unit, e = .returned (.tuple #[]) ∧ St b (stl [Ck.var 34 pg0 (([Value.slice none 0 0] ++ ([Value.map none] ++ ([Value.bool false] ++ ([Value.int .i64 (0 : Int)] ++ [Value.bool false])))))]) w' := by
  unfold disk_Disk_Fuse_szero0.f at H
  refine enterb (n := 15) Try.func7 rfl (by kernel_rfl) (by kernel_rfl) hs0 ?_
  refine cs_sub (sput s0 0 (some (Ck.var 34 pg0 (([Value.slice none 0 0] ++ ([Value.map none] ++ ([Value.bool false] ++ ([Value.int .i64 (0 : Int)] ++ [Value.bool false])))))))) (sub_put (by exact rfl) (sub_nil _)) ?_
  refine cs_seq ?_
  refine cs_region (l := [_, _, _]) ?_
  refine ls_val (v := .pointer (some ⟨pg0, 0, none⟩)) rfl rfl (by kernel_rfl) (fun w => by kernel_rfl) ?_
  have hc2 : disk_Disk_none_szero0.f k = some true := rfl
  refine ls_callb (fid := 14) (vals := #[.pointer (some ⟨pg0, 0, none⟩)]) (X := Unit) (fun x => .bool true) (fun x => stl [Ck.var 34 pg0 (([Value.slice none 0 0] ++ ([Value.map none] ++ ([Value.bool false] ++ ([Value.int .i64 (0 : Int)] ++ [Value.bool false])))))]) [0] [] [Ck.var 34 pg0 (([Value.slice none 0 0] ++ ([Value.map none] ++ ([Value.bool false] ++ ([Value.int .i64 (0 : Int)] ++ [Value.bool false])))))] [] 1 rfl rfl (by kernel_rfl) (fun w => by kernel_rfl) ⟨by exact rfl, trivial⟩ trivial (by decide) (fun w hs hb => disk_Disk_none_szero0.calls k pg0 true (lent b w [Ck.var 34 pg0 (([Value.slice none 0 0] ++ ([Value.map none] ++ ([Value.bool false] ++ ([Value.int .i64 (0 : Int)] ++ [Value.bool false])))))] []) hb  hc2) ?_
  intro x3
  refine ls_val (v := .bool false) rfl rfl (by kernel_rfl) (fun w => by kernel_rfl) ?_
  refine ls_end ?_
  refine qn_then ?_
  refine cs_false (by kernel_rfl) ?_
  refine cs_skip' ?_
  obtain rfl := Option.some.inj H
  refine qn_res (rs := []) rfl (fun w' hs => ⟨[], (.nil), (), rfl, hs.pick (ts := [0]) (cs := [Ck.var 34 pg0 (([Value.slice none 0 0] ++ ([Value.map none] ++ ([Value.bool false] ++ ([Value.int .i64 (0 : Int)] ++ [Value.bool false])))))]) ⟨by exact rfl, trivial⟩ (by decide)⟩)

/-! ### (*shadowbox/disk.Disk).Write, specialized: function 8 -/
def disk_Disk_Write_szero0.f (k : Nat) (a1 : Int) (l2 : List Int) : Option (Int) :=
  some (1 : Int)
set_option maxRecDepth 100000 in
set_option maxHeartbeats 4000000 in
theorem disk_Disk_Write_szero0.calls (k : Nat) (pg0 : Nat) (a1 : Int) (A2 : Option Addr) (c2 : Nat) (l2 : List Int) (r : Int) (b : Bs) (hs0 : St b (stl [Ck.var 34 pg0 (([Value.slice none 0 0] ++ ([Value.map none] ++ ([Value.bool false] ++ ([Value.int .i64 (0 : Int)] ++ [Value.bool false])))))]) b.w) (R2 : Ro b A2 (em (Ec.int 5 .u8) l2)) (C2 : l2.length ≤ c2) (H : disk_Disk_Write_szero0.f k a1 l2 = some r) :
    Calls Try.prog 8 #[.pointer (some ⟨pg0, 0, none⟩), .int .i64 a1, .slice A2 l2.length c2] b.w fun e w' => ∃ x : Unit, e = .returned (.int .i64 r) ∧ St b (stl [Ck.var 34 pg0 (([Value.slice none 0 0] ++ ([Value.map none] ++ ([Value.bool false] ++ ([Value.int .i64 (0 : Int)] ++ [Value.bool false])))))]) w' := by
  unfold disk_Disk_Write_szero0.f at H
  refine enterb (n := 35) Try.func8 rfl (by kernel_rfl) (by kernel_rfl) hs0 ?_
  refine cs_sub (sput s0 0 (some (Ck.var 34 pg0 (([Value.slice none 0 0] ++ ([Value.map none] ++ ([Value.bool false] ++ ([Value.int .i64 (0 : Int)] ++ [Value.bool false])))))))) (sub_put (by exact rfl) (sub_nil _)) ?_
  refine cs_seq ?_
  refine cs_region (l := [_]) ?_
  refine ls_val (v := .int .i64 (0 : Int)) rfl rfl (by kernel_rfl) (fun w => by kernel_rfl) ?_
  refine ls_end ?_
  refine qn_then ?_
  refine cs_seq ?_
  refine cs_region (l := [_, _, _, _]) ?_
  refine ls_val (v := .pointer (some ⟨pg0, 0, none⟩)) rfl rfl (by kernel_rfl) (fun w => by kernel_rfl) ?_
  refine ls_val (v := .int .i64 a1) rfl rfl (by kernel_rfl) (fun w => by kernel_rfl) ?_
  have hc2 : disk_Disk_check_szero0.f k a1 = some (1 : Int) := rfl
  refine ls_callb (fid := 15) (vals := #[.pointer (some ⟨pg0, 0, none⟩), .int .i64 a1]) (X := Unit) (fun x => .int .i64 (1 : Int)) (fun x => stl [Ck.var 34 pg0 (([Value.slice none 0 0] ++ ([Value.map none] ++ ([Value.bool false] ++ ([Value.int .i64 (0 : Int)] ++ [Value.bool false])))))]) [0] [] [Ck.var 34 pg0 (([Value.slice none 0 0] ++ ([Value.map none] ++ ([Value.bool false] ++ ([Value.int .i64 (0 : Int)] ++ [Value.bool false])))))] [] 1 rfl rfl (by kernel_rfl) (fun w => by kernel_rfl) ⟨by exact rfl, trivial⟩ trivial (by decide) (fun w hs hb => disk_Disk_check_szero0.calls k pg0 a1 (1 : Int) (lent b w [Ck.var 34 pg0 (([Value.slice none 0 0] ++ ([Value.map none] ++ ([Value.bool false] ++ ([Value.int .i64 (0 : Int)] ++ [Value.bool false])))))] []) hb  hc2) ?_
  intro x3
  refine ls_val (v := .int .i64 (1 : Int)) rfl rfl (by kernel_rfl) (fun w => by kernel_rfl) ?_
  refine ls_end ?_
  refine qn_then ?_
  refine cs_seq ?_
  refine cs_seq ?_
  refine cs_region (l := [_, _, _, _, _, _, _]) ?_
  refine ls_val (v := .int .i64 (1 : Int)) rfl rfl (by kernel_rfl) (fun w => by kernel_rfl) ?_
  refine ls_val (v := .bool false) rfl rfl (by kernel_rfl) (fun w => by kernel_rfl) ?_
  refine ls_val (v := .bool false) rfl rfl (by kernel_rfl) (fun w => by kernel_rfl) ?_
  refine ls_off (j := 2) (t := 14) (b := true) (c := false) rfl rfl (by kernel_rfl) (by kernel_rfl) rfl rfl (by kernel_rfl) ?_
  refine ls_off (j := 2) (t := 14) (b := true) (c := false) rfl rfl (by kernel_rfl) (by kernel_rfl) rfl rfl (by kernel_rfl) ?_
  refine ls_off (j := 2) (t := 14) (b := true) (c := false) rfl rfl (by kernel_rfl) (by kernel_rfl) rfl rfl (by kernel_rfl) ?_
  refine ls_val (v := .bool false) rfl rfl (by kernel_rfl) (fun w => by kernel_rfl) ?_
  refine ls_end ?_
  refine qn_then ?_
  refine cs_false (by kernel_rfl) ?_
  refine cs_skip' ?_
  refine qn_then ?_
  refine cs_seq ?_
  refine cs_seq ?_
  refine cs_region (l := [_, _]) ?_
  refine ls_val (v := .int .i64 (1 : Int)) rfl rfl (by kernel_rfl) (fun w => by kernel_rfl) ?_
  refine ls_val (v := .bool false) rfl rfl (by kernel_rfl) (fun w => by kernel_rfl) ?_
  refine ls_end ?_
  refine qn_then ?_
  refine cs_false (by kernel_rfl) ?_
  refine cs_skip' ?_
  refine qn_then ?_
  refine cs_seq ?_
  refine cs_seq ?_
  refine cs_region (l := [_, _]) ?_
  refine ls_val (v := .int .i64 (1 : Int)) rfl rfl (by kernel_rfl) (fun w => by kernel_rfl) ?_
  refine ls_val (v := .bool true) rfl rfl (by kernel_rfl) (fun w => by kernel_rfl) ?_
  refine ls_end ?_
  refine qn_then ?_
  refine cs_true (by kernel_rfl) ?_
  refine cs_seq ?_
  refine cs_region (l := [_, _]) ?_
  refine ls_val (v := .int .i64 (1 : Int)) rfl rfl (by kernel_rfl) (fun w => by kernel_rfl) ?_
  refine ls_val (v := .int .i64 (1 : Int)) rfl rfl (by kernel_rfl) (fun w => by kernel_rfl) ?_
  refine ls_end ?_
  refine qn_then ?_
  refine cs_ret' ?_
  refine qr_then ?_
  obtain rfl := Option.some.inj H
  refine qr_res (rs := [_]) rfl (fun w' hs => ⟨[.int .i64 (1 : Int)], (res_tmp (by kernel_rfl) (.nil)), (), rfl, hs.pick (ts := [0]) (cs := [Ck.var 34 pg0 (([Value.slice none 0 0] ++ ([Value.map none] ++ ([Value.bool false] ++ ([Value.int .i64 (0 : Int)] ++ [Value.bool false])))))]) ⟨by exact rfl, trivial⟩ (by decide)⟩)

/-! ### (*shadowbox/disk.Disk).Flush, specialized: function 9 -/
def disk_Disk_Flush_szero0.f (k : Nat) : Option (Int) :=
  some (1 : Int)
set_option maxRecDepth 100000 in
set_option maxHeartbeats 4000000 in
theorem disk_Disk_Flush_szero0.calls (k : Nat) (pg0 : Nat) (r : Int) (b : Bs) (hs0 : St b (stl [Ck.var 34 pg0 (([Value.slice none 0 0] ++ ([Value.map none] ++ ([Value.bool false] ++ ([Value.int .i64 (0 : Int)] ++ [Value.bool false])))))]) b.w) (H : disk_Disk_Flush_szero0.f k = some r) :
    Calls Try.prog 9 #[.pointer (some ⟨pg0, 0, none⟩)] b.w fun e w' => ∃ x : Unit, e = .returned (.int .i64 r) ∧ St b (stl [Ck.var 34 pg0 (([Value.slice none 0 0] ++ ([Value.map none] ++ ([Value.bool false] ++ ([Value.int .i64 (0 : Int)] ++ [Value.bool false])))))]) w' := by
  unfold disk_Disk_Flush_szero0.f at H
  refine enterb (n := 35) Try.func9 rfl (by kernel_rfl) (by kernel_rfl) hs0 ?_
  refine cs_sub (sput s0 0 (some (Ck.var 34 pg0 (([Value.slice none 0 0] ++ ([Value.map none] ++ ([Value.bool false] ++ ([Value.int .i64 (0 : Int)] ++ [Value.bool false])))))))) (sub_put (by exact rfl) (sub_nil _)) ?_
  refine cs_seq ?_
  refine cs_region (l := [_]) ?_
  refine ls_val (v := .int .i64 (0 : Int)) rfl rfl (by kernel_rfl) (fun w => by kernel_rfl) ?_
  refine ls_end ?_
  refine qn_then ?_
  refine cs_seq ?_
  refine cs_seq ?_
  refine cs_region (l := [_, _]) ?_
  refine ls_val (v := .pointer (some ⟨pg0, 0, none⟩)) rfl rfl (by kernel_rfl) (fun w => by kernel_rfl) ?_
  have hc2 : disk_Disk_none_szero0.f k = some true := rfl
  refine ls_callb (fid := 14) (vals := #[.pointer (some ⟨pg0, 0, none⟩)]) (X := Unit) (fun x => .bool true) (fun x => stl [Ck.var 34 pg0 (([Value.slice none 0 0] ++ ([Value.map none] ++ ([Value.bool false] ++ ([Value.int .i64 (0 : Int)] ++ [Value.bool false])))))]) [0] [] [Ck.var 34 pg0 (([Value.slice none 0 0] ++ ([Value.map none] ++ ([Value.bool false] ++ ([Value.int .i64 (0 : Int)] ++ [Value.bool false])))))] [] 1 rfl rfl (by kernel_rfl) (fun w => by kernel_rfl) ⟨by exact rfl, trivial⟩ trivial (by decide) (fun w hs hb => disk_Disk_none_szero0.calls k pg0 true (lent b w [Ck.var 34 pg0 (([Value.slice none 0 0] ++ ([Value.map none] ++ ([Value.bool false] ++ ([Value.int .i64 (0 : Int)] ++ [Value.bool false])))))] []) hb  hc2) ?_
  intro x3
  refine ls_end ?_
  refine qn_then ?_
  refine cs_true (by kernel_rfl) ?_
  refine cs_seq ?_
  refine cs_region (l := [_]) ?_
  refine ls_val (v := .int .i64 (1 : Int)) rfl rfl (by kernel_rfl) (fun w => by kernel_rfl) ?_
  refine ls_end ?_
  refine qn_then ?_
  refine cs_ret' ?_
  refine qr_then ?_
  obtain rfl := Option.some.inj H
  refine qr_res (rs := [_]) rfl (fun w' hs => ⟨[.int .i64 (1 : Int)], (res_tmp (by kernel_rfl) (.nil)), (), rfl, hs.pick (ts := [0]) (cs := [Ck.var 34 pg0 (([Value.slice none 0 0] ++ ([Value.map none] ++ ([Value.bool false] ++ ([Value.int .i64 (0 : Int)] ++ [Value.bool false])))))]) ⟨by exact rfl, trivial⟩ (by decide)⟩)

/-! ### (*shadowbox/disk.Disk).Len, specialized: function 12 -/
def disk_Disk_Len_szero0.f (k : Nat) : Option (Int) :=
  some (0 : Int)
set_option maxRecDepth 100000 in
set_option maxHeartbeats 4000000 in
theorem disk_Disk_Len_szero0.calls (k : Nat) (pg0 : Nat) (r : Int) (b : Bs) (hs0 : St b (stl [Ck.var 34 pg0 (([Value.slice none 0 0] ++ ([Value.map none] ++ ([Value.bool false] ++ ([Value.int .i64 (0 : Int)] ++ [Value.bool false])))))]) b.w) (H : disk_Disk_Len_szero0.f k = some r) :
    Calls Try.prog 12 #[.pointer (some ⟨pg0, 0, none⟩)] b.w fun e w' => ∃ x : Unit, e = .returned (.int .i64 r) ∧ St b (stl [Ck.var 34 pg0 (([Value.slice none 0 0] ++ ([Value.map none] ++ ([Value.bool false] ++ ([Value.int .i64 (0 : Int)] ++ [Value.bool false])))))]) w' := by
  unfold disk_Disk_Len_szero0.f at H
  refine enterb (n := 10) Try.func12 rfl (by kernel_rfl) (by kernel_rfl) hs0 ?_
  refine cs_sub (sput s0 0 (some (Ck.var 34 pg0 (([Value.slice none 0 0] ++ ([Value.map none] ++ ([Value.bool false] ++ ([Value.int .i64 (0 : Int)] ++ [Value.bool false])))))))) (sub_put (by exact rfl) (sub_nil _)) ?_
  refine cs_seq ?_
  refine cs_region (l := [_]) ?_
  refine ls_val (v := .int .i64 (0 : Int)) rfl rfl (by kernel_rfl) (fun w => by kernel_rfl) ?_
  refine ls_end ?_
  refine qn_then ?_
  refine cs_seq ?_
  refine cs_seq ?_
  refine cs_region (l := [_, _]) ?_
  refine ls_val (v := .pointer (some ⟨pg0, 0, none⟩)) rfl rfl (by kernel_rfl) (fun w => by kernel_rfl) ?_
  have hc2 : disk_Disk_none_szero0.f k = some true := rfl
  refine ls_callb (fid := 14) (vals := #[.pointer (some ⟨pg0, 0, none⟩)]) (X := Unit) (fun x => .bool true) (fun x => stl [Ck.var 34 pg0 (([Value.slice none 0 0] ++ ([Value.map none] ++ ([Value.bool false] ++ ([Value.int .i64 (0 : Int)] ++ [Value.bool false])))))]) [0] [] [Ck.var 34 pg0 (([Value.slice none 0 0] ++ ([Value.map none] ++ ([Value.bool false] ++ ([Value.int .i64 (0 : Int)] ++ [Value.bool false])))))] [] 1 rfl rfl (by kernel_rfl) (fun w => by kernel_rfl) ⟨by exact rfl, trivial⟩ trivial (by decide) (fun w hs hb => disk_Disk_none_szero0.calls k pg0 true (lent b w [Ck.var 34 pg0 (([Value.slice none 0 0] ++ ([Value.map none] ++ ([Value.bool false] ++ ([Value.int .i64 (0 : Int)] ++ [Value.bool false])))))] []) hb  hc2) ?_
  intro x3
  refine ls_end ?_
  refine qn_then ?_
  refine cs_true (by kernel_rfl) ?_
  refine cs_seq ?_
  refine cs_region (l := [_]) ?_
  refine ls_val (v := .int .i64 (0 : Int)) rfl rfl (by kernel_rfl) (fun w => by kernel_rfl) ?_
  refine ls_end ?_
  refine qn_then ?_
  refine cs_ret' ?_
  refine qr_then ?_
  obtain rfl := Option.some.inj H
  refine qr_res (rs := [_]) rfl (fun w' hs => ⟨[.int .i64 (0 : Int)], (res_tmp (by kernel_rfl) (.nil)), (), rfl, hs.pick (ts := [0]) (cs := [Ck.var 34 pg0 (([Value.slice none 0 0] ++ ([Value.map none] ++ ([Value.bool false] ++ ([Value.int .i64 (0 : Int)] ++ [Value.bool false])))))]) ⟨by exact rfl, trivial⟩ (by decide)⟩)

/-! ### (*shadowbox/disk.Disk).Waiting, specialized: function 13 -/
def disk_Disk_Waiting_szero0.f (k : Nat) : Option (Int) :=
  some (0 : Int)
set_option maxRecDepth 100000 in
set_option maxHeartbeats 4000000 in
theorem disk_Disk_Waiting_szero0.calls (k : Nat) (pg0 : Nat) (r : Int) (b : Bs) (hs0 : St b (stl [Ck.var 34 pg0 (([Value.slice none 0 0] ++ ([Value.map none] ++ ([Value.bool false] ++ ([Value.int .i64 (0 : Int)] ++ [Value.bool false])))))]) b.w) (H : disk_Disk_Waiting_szero0.f k = some r) :
    Calls Try.prog 13 #[.pointer (some ⟨pg0, 0, none⟩)] b.w fun e w' => ∃ x : Unit, e = .returned (.int .i64 r) ∧ St b (stl [Ck.var 34 pg0 (([Value.slice none 0 0] ++ ([Value.map none] ++ ([Value.bool false] ++ ([Value.int .i64 (0 : Int)] ++ [Value.bool false])))))]) w' := by
  unfold disk_Disk_Waiting_szero0.f at H
  refine enterb (n := 10) Try.func13 rfl (by kernel_rfl) (by kernel_rfl) hs0 ?_
  refine cs_sub (sput s0 0 (some (Ck.var 34 pg0 (([Value.slice none 0 0] ++ ([Value.map none] ++ ([Value.bool false] ++ ([Value.int .i64 (0 : Int)] ++ [Value.bool false])))))))) (sub_put (by exact rfl) (sub_nil _)) ?_
  refine cs_seq ?_
  refine cs_region (l := [_]) ?_
  refine ls_val (v := .int .i64 (0 : Int)) rfl rfl (by kernel_rfl) (fun w => by kernel_rfl) ?_
  refine ls_end ?_
  refine qn_then ?_
  refine cs_seq ?_
  refine cs_seq ?_
  refine cs_region (l := [_, _]) ?_
  refine ls_val (v := .pointer (some ⟨pg0, 0, none⟩)) rfl rfl (by kernel_rfl) (fun w => by kernel_rfl) ?_
  have hc2 : disk_Disk_none_szero0.f k = some true := rfl
  refine ls_callb (fid := 14) (vals := #[.pointer (some ⟨pg0, 0, none⟩)]) (X := Unit) (fun x => .bool true) (fun x => stl [Ck.var 34 pg0 (([Value.slice none 0 0] ++ ([Value.map none] ++ ([Value.bool false] ++ ([Value.int .i64 (0 : Int)] ++ [Value.bool false])))))]) [0] [] [Ck.var 34 pg0 (([Value.slice none 0 0] ++ ([Value.map none] ++ ([Value.bool false] ++ ([Value.int .i64 (0 : Int)] ++ [Value.bool false])))))] [] 1 rfl rfl (by kernel_rfl) (fun w => by kernel_rfl) ⟨by exact rfl, trivial⟩ trivial (by decide) (fun w hs hb => disk_Disk_none_szero0.calls k pg0 true (lent b w [Ck.var 34 pg0 (([Value.slice none 0 0] ++ ([Value.map none] ++ ([Value.bool false] ++ ([Value.int .i64 (0 : Int)] ++ [Value.bool false])))))] []) hb  hc2) ?_
  intro x3
  refine ls_end ?_
  refine qn_then ?_
  refine cs_true (by kernel_rfl) ?_
  refine cs_seq ?_
  refine cs_region (l := [_]) ?_
  refine ls_val (v := .int .i64 (0 : Int)) rfl rfl (by kernel_rfl) (fun w => by kernel_rfl) ?_
  refine ls_end ?_
  refine qn_then ?_
  refine cs_ret' ?_
  refine qr_then ?_
  obtain rfl := Option.some.inj H
  refine qr_res (rs := [_]) rfl (fun w' hs => ⟨[.int .i64 (0 : Int)], (res_tmp (by kernel_rfl) (.nil)), (), rfl, hs.pick (ts := [0]) (cs := [Ck.var 34 pg0 (([Value.slice none 0 0] ++ ([Value.map none] ++ ([Value.bool false] ++ ([Value.int .i64 (0 : Int)] ++ [Value.bool false])))))]) ⟨by exact rfl, trivial⟩ (by decide)⟩)

/-! ### shadowbox/shadowboxlaw05.DiskNobody: function 4 -/
def shadowboxlaw05_DiskNobody.f (k : Nat) (a0 : Int) (l1 : List Int) : Option (Bool) :=
  (disk_Disk_Read_snil0.f k a0).bind fun t5 => (disk_Disk_Crash_snil0.f k ([a0])).bind fun t9 => (disk_Disk_Fuse_snil0.f k a0).bind fun t12 => (if (t5.1.length : Int) = (0 : Int) then (if t5.2 = (1 : Int) then (if t9.2 = (1 : Int) then (disk_Disk_Read_szero0.f k a0).bind fun t32 => (disk_Disk_Crash_szero0.f k ([a0])).bind fun t36 => (disk_Disk_Fuse_szero0.f k a0).bind fun t39 => (if (t32.1.length : Int) = (0 : Int) then (if t32.2 = (1 : Int) then (if t36.2 = (1 : Int) then some true else some false) else some false) else some false) else some false) else some false) else some false)
set_option maxRecDepth 100000 in
set_option maxHeartbeats 4000000 in
theorem shadowboxlaw05_DiskNobody.calls (k : Nat) (a0 : Int) (A1 : Option Addr) (c1 : Nat) (l1 : List Int) (r : Bool) (b : Bs) (hs0 : St b (stl []) b.w) (R1 : Ro b A1 (em (Ec.int 5 .u8) l1)) (C1 : l1.length ≤ c1) (H : shadowboxlaw05_DiskNobody.f k a0 l1 = some r) :
    Calls Try.prog 4 #[.int .i64 a0, .slice A1 l1.length c1] b.w fun e w' => ∃ x : Unit, e = .returned (.bool r) ∧ St b (stl []) w' := by
  unfold shadowboxlaw05_DiskNobody.f at H
  refine enterb (n := 73) Try.func4 rfl (by kernel_rfl) (by kernel_rfl) hs0 ?_
  refine cs_sub (s0) (sub_nil _) ?_
  refine cs_seq ?_
  refine cs_region (l := [_]) ?_
  refine ls_val (v := .bool false) rfl rfl (by kernel_rfl) (fun w => by kernel_rfl) ?_
  refine ls_end ?_
  refine qn_then ?_
  refine cs_seq ?_
  refine cs_seq ?_
  refine cs_region (l := [_, _, _, _, _]) ?_
  refine ls_val (v := .agg ⟨([Value.slice none 0 0] ++ ([Value.map none] ++ ([Value.bool false] ++ ([Value.int .i64 (0 : Int)] ++ [Value.bool false]))))⟩) rfl rfl (by kernel_rfl) (fun w => by kernel_rfl) ?_
  refine ls_new rfl rfl (by kernel_rfl) 0 (fun g => .pointer (some ⟨g, 0, none⟩)) (.cells ⟨([Value.slice none 0 0] ++ ([Value.map none] ++ ([Value.bool false] ++ ([Value.int .i64 (0 : Int)] ++ [Value.bool false]))))⟩ 34) (fun w => by kernel_rfl) ?_
  intro g1
  refine ls_lit (Ec.ptr 22) 1 rfl rfl (by kernel_rfl) ([none, (some g1)]) (by exact of_decide_eq_true (by kernel_rfl)) (fun w => by kernel_rfl) ?_
  intro g2
  refine ls_val (v := .int .i64 (2 : Int)) rfl rfl (by kernel_rfl) (fun w => by kernel_rfl) ?_
  refine ls_val (v := .int .i64 (0 : Int)) rfl rfl (by kernel_rfl) (fun w => by kernel_rfl) ?_
  refine ls_end ?_
  refine qn_then ?_
  refine cs_block ?_
  refine cs_rounds 3 ?_
  refine rs_succ ?_
  refine cs_seq ?_
  refine cs_region (l := [_]) ?_
  refine ls_val (v := .bool true) rfl rfl (by kernel_rfl) (fun w => by kernel_rfl) ?_
  refine ls_end ?_
  refine qn_then ?_
  refine cs_seq ?_
  refine cs_true (by kernel_rfl) ?_
  refine cs_skip' ?_
  refine qn_then ?_
  refine cs_seq ?_
  refine cs_block ?_
  refine cs_seq ?_
  refine cs_region (l := [_, _, _]) ?_
  refine ls_at (T := (Ec.ptr 22)) (tk := 1) (i := (0 : Int)) (by exact rfl) (by decide) (show (0 : Int) < (([none, (some g1)]).length : Int) from of_decide_eq_true (by kernel_rfl)) ?_
  intro ad3 hA4
  refine ls_idxv (Ec.ptr 22) (A := (some ⟨g2, 0, none⟩)) (c := [none, (some g1)].length) (l := [none, (some g1)]) (k := .i64) (i := (0 : Int)) (z := 1) (ad := ad3) rfl rfl (by kernel_rfl) hA4 rfl (by kernel_rfl) (by kernel_rfl) (by kernel_rfl) (by kernel_rfl) (by decide) (show (0 : Int) < (([none, (some g1)]).length : Int) from of_decide_eq_true (by kernel_rfl)) ?_
  refine ls_load (a0 := (ad3.add (((0 : Int)).toNat * 1))) (v := .pointer none) (de := (TypeDesc.pointer 34)) rfl rfl (by kernel_rfl) rfl (by kernel_rfl) (by kernel_rfl) (by kernel_rfl) (fun w hs => (hs.rd (k := 1) (by exact rfl)).at hA4 (em_sub (Ec.ptr 22) ([none, (some g1)]) (i := ((0 : Int)).toNat) (by have h0 : (0 : Int) ≤ (0 : Int) := (by decide); have h1 : (0 : Int) < (([none, (some g1)]).length : Int) := (show (0 : Int) < (([none, (some g1)]).length : Int) from of_decide_eq_true (by kernel_rfl)); omega))) ?_
  refine ls_val (v := .pointer none) rfl rfl (by kernel_rfl) (fun w => by kernel_rfl) ?_
  refine ls_end ?_
  refine qn_then ?_
  refine cs_seq ?_
  refine cs_region (l := [_, _, _, _, _, _, _, _]) ?_
  refine ls_val (v := .pointer none) rfl rfl (by kernel_rfl) (fun w => by kernel_rfl) ?_
  refine ls_val (v := .int .i64 a0) rfl rfl (by kernel_rfl) (fun w => by kernel_rfl) ?_
  obtain ⟨t5, hc6, H⟩ := bind_some H
  refine ls_callb (fid := 10) (vals := #[.pointer none, .int .i64 a0]) (X := (Option Addr × Nat)) (fun x => .tuple #[.slice x.1 t5.1.length x.2, .int .i64 t5.2]) (fun x => stl [Ck.sl (Ec.int 5 .u8) x.1 x.2 t5.1]) [] [] [] [] 2 rfl rfl (by kernel_rfl) (fun w => by kernel_rfl) trivial trivial (by decide) (fun w hs hb => disk_Disk_Read_snil0.calls k a0 t5 (lent b w [] []) hb  hc6) ?_
  intro x7
  refine ls_val (v := .tuple #[.slice x7.1 t5.1.length x7.2, .int .i64 t5.2]) rfl rfl (by kernel_rfl) (fun w => by kernel_rfl) ?_
  refine ls_val (v := .slice x7.1 t5.1.length x7.2) rfl rfl (by kernel_rfl) (fun w => by kernel_rfl) ?_
  refine ls_val (v := .int .i64 t5.2) rfl rfl (by kernel_rfl) (fun w => by kernel_rfl) ?_
  refine ls_val (v := .slice x7.1 t5.1.length x7.2) rfl rfl (by kernel_rfl) (fun w => by kernel_rfl) ?_
  refine ls_val (v := .int .i64 t5.2) rfl rfl (by kernel_rfl) (fun w => by kernel_rfl) ?_
  refine ls_end ?_
  refine qn_then ?_
  refine cs_seq ?_
  refine cs_region (l := [_, _, _, _, _, _, _, _, _]) ?_
  refine ls_val (v := .pointer none) rfl rfl (by kernel_rfl) (fun w => by kernel_rfl) ?_
  refine ls_val (v := .int .i64 a0) rfl rfl (by kernel_rfl) (fun w => by kernel_rfl) ?_
  refine ls_lit (Ec.int 3 .i64) 3 rfl rfl (by kernel_rfl) ([a0]) (by exact of_decide_eq_true (by kernel_rfl)) (fun w => by kernel_rfl) ?_
  intro g8
  obtain ⟨t9, hc10, H⟩ := bind_some H
  refine ls_callb (fid := 11) (vals := #[.pointer none, .slice (some ⟨g8, 0, none⟩) ([a0]).length [a0].length]) (X := Unit) (fun x => .tuple #[.pointer none, .int .i64 t9.2]) (fun x => stl []) [] [3] [] [Ck.sl (Ec.int 3 .i64) (some ⟨g8, 0, none⟩) ([a0].length) ([a0])] 4 rfl rfl (by kernel_rfl) (fun w => by kernel_rfl) trivial ⟨by exact rfl, trivial⟩ (by decide) (fun w hs hb => disk_Disk_Crash_snil0.calls k (some ⟨g8, 0, none⟩) ([a0].length) ([a0]) t9 (lent b w [] [Ck.sl (Ec.int 3 .i64) (some ⟨g8, 0, none⟩) ([a0].length) ([a0])]) hb (hs.ror (k := 3) (by exact rfl) (.head _)) (hs.cap (k := 3) (by exact rfl)) hc10) ?_
  intro x11
  refine ls_val (v := .tuple #[.pointer none, .int .i64 t9.2]) rfl rfl (by kernel_rfl) (fun w => by kernel_rfl) ?_
  refine ls_val (v := .pointer none) rfl rfl (by kernel_rfl) (fun w => by kernel_rfl) ?_
  refine ls_val (v := .int .i64 t9.2) rfl rfl (by kernel_rfl) (fun w => by kernel_rfl) ?_
  refine ls_val (v := .pointer none) rfl rfl (by kernel_rfl) (fun w => by kernel_rfl) ?_
  refine ls_val (v := .int .i64 t9.2) rfl rfl (by kernel_rfl) (fun w => by kernel_rfl) ?_
  refine ls_end ?_
  refine qn_then ?_
  refine cs_seq ?_
  refine cs_region (l := [_, _, _]) ?_
  refine ls_val (v := .pointer none) rfl rfl (by kernel_rfl) (fun w => by kernel_rfl) ?_
  refine ls_val (v := .int .i64 a0) rfl rfl (by kernel_rfl) (fun w => by kernel_rfl) ?_
  obtain ⟨t12, hc13, H⟩ := bind_some H
  refine ls_callb (fid := 7) (vals := #[.pointer none, .int .i64 a0]) (X := Unit) (fun x => .tuple #[]) (fun x => stl []) [] [] [] [] 4 rfl rfl (by kernel_rfl) (fun w => by kernel_rfl) trivial trivial (by decide) (fun w hs hb => disk_Disk_Fuse_snil0.calls k a0 t12 (lent b w [] []) hb  hc13) ?_
  intro x14
  refine ls_end ?_
  refine qn_then ?_
  refine cs_seq ?_
  refine cs_region (l := [_, _, _, _, _, _, _, _, _, _, _, _, _, _, _, _, _, _, _, _, _, _, _, _, _, _, _, _, _, _, _, _, _, _, _, _, _]) ?_
  refine ls_val (v := .slice x7.1 t5.1.length x7.2) rfl rfl (by kernel_rfl) (fun w => by kernel_rfl) ?_
  refine ls_val (v := .int .i64 (t5.1.length : Int)) rfl rfl (by kernel_rfl) (fun w => by kernel_rfl) ?_
  refine ls_val (v := .bool (!decide ((t5.1.length : Int) = (0 : Int)))) rfl rfl (by kernel_rfl) (fun w => by kernel_rfl) ?_
  refine ls_val (v := .bool (!decide ((t5.1.length : Int) = (0 : Int)))) rfl rfl (by kernel_rfl) (fun w => by kernel_rfl) ?_
  by_cases q15 : (t5.1.length : Int) = (0 : Int)
  · replace H := ite_t q15 H
    refine ls_know (c := false) (congrArg Bool.not (dec_t q15)) 38 (by kernel_rfl) ?_
    refine ls_on (j := 3) (t := 38) (b := false) rfl rfl (by kernel_rfl) (by kernel_rfl) ?_
    refine ls_val (v := .int .i64 t5.2) rfl rfl (by kernel_rfl) (fun w => by kernel_rfl) ?_
    refine ls_on (j := 3) (t := 38) (b := false) rfl rfl (by kernel_rfl) (by kernel_rfl) ?_
    refine ls_val (v := .bool (!decide (t5.2 = (1 : Int)))) rfl rfl (by kernel_rfl) (fun w => by kernel_rfl) ?_
    refine ls_val (v := .bool (!decide (t5.2 = (1 : Int)))) rfl rfl (by kernel_rfl) (fun w => by kernel_rfl) ?_
    refine ls_val (v := .bool (!decide (t5.2 = (1 : Int)))) rfl rfl (by kernel_rfl) (fun w => by kernel_rfl) ?_
    by_cases q16 : t5.2 = (1 : Int)
    · replace H := ite_t q16 H
      refine ls_know (c := false) (congrArg Bool.not (dec_t q16)) 42 (by kernel_rfl) ?_
      refine ls_on (j := 7) (t := 42) (b := false) rfl rfl (by kernel_rfl) (by kernel_rfl) ?_
      refine ls_val (v := .pointer none) rfl rfl (by kernel_rfl) (fun w => by kernel_rfl) ?_
      refine ls_on (j := 7) (t := 42) (b := false) rfl rfl (by kernel_rfl) (by kernel_rfl) ?_
      refine ls_val (v := .bool false) rfl rfl (by kernel_rfl) (fun w => by kernel_rfl) ?_
      refine ls_val (v := .bool false) rfl rfl (by kernel_rfl) (fun w => by kernel_rfl) ?_
      refine ls_val (v := .bool false) rfl rfl (by kernel_rfl) (fun w => by kernel_rfl) ?_
      refine ls_on (j := 11) (t := 46) (b := false) rfl rfl (by kernel_rfl) (by kernel_rfl) ?_
      refine ls_val (v := .int .i64 t9.2) rfl rfl (by kernel_rfl) (fun w => by kernel_rfl) ?_
      refine ls_on (j := 11) (t := 46) (b := false) rfl rfl (by kernel_rfl) (by kernel_rfl) ?_
      refine ls_val (v := .bool (!decide (t9.2 = (1 : Int)))) rfl rfl (by kernel_rfl) (fun w => by kernel_rfl) ?_
      refine ls_val (v := .bool (!decide (t9.2 = (1 : Int)))) rfl rfl (by kernel_rfl) (fun w => by kernel_rfl) ?_
      refine ls_val (v := .bool (!decide (t9.2 = (1 : Int)))) rfl rfl (by kernel_rfl) (fun w => by kernel_rfl) ?_
      by_cases q17 : t9.2 = (1 : Int)
      · replace H := ite_t q17 H
        refine ls_know (c := false) (congrArg Bool.not (dec_t q17)) 50 (by kernel_rfl) ?_
        refine ls_on (j := 15) (t := 50) (b := false) rfl rfl (by kernel_rfl) (by kernel_rfl) ?_
        refine ls_val (v := .pointer none) rfl rfl (by kernel_rfl) (fun w => by kernel_rfl) ?_
        refine ls_on (j := 15) (t := 50) (b := false) rfl rfl (by kernel_rfl) (by kernel_rfl) ?_
        refine ls_val (v := .int .i64 a0) rfl rfl (by kernel_rfl) (fun w => by kernel_rfl) ?_
        refine ls_on (j := 15) (t := 50) (b := false) rfl rfl (by kernel_rfl) (by kernel_rfl) ?_
        refine ls_val (v := .slice A1 l1.length c1) rfl rfl (by kernel_rfl) (fun w => by kernel_rfl) ?_
        refine ls_on (j := 15) (t := 50) (b := false) rfl rfl (by kernel_rfl) (by kernel_rfl) ?_
        have hc19 : disk_Disk_Write_snil0.f k a0 l1 = some (1 : Int) := rfl
        refine ls_callb (fid := 8) (vals := #[.pointer none, .int .i64 a0, .slice A1 l1.length c1]) (X := Unit) (fun x => .int .i64 (1 : Int)) (fun x => stl []) [] [] [] [] 4 rfl rfl (by kernel_rfl) (fun w => by kernel_rfl) trivial trivial (by decide) (fun w hs hb => disk_Disk_Write_snil0.calls k a0 A1 c1 l1 (1 : Int) (lent b w [] []) hb (hs.ro R1 _ _) C1 hc19) ?_
        intro x20
        refine ls_on (j := 15) (t := 50) (b := false) rfl rfl (by kernel_rfl) (by kernel_rfl) ?_
        refine ls_val (v := .bool false) rfl rfl (by kernel_rfl) (fun w => by kernel_rfl) ?_
        refine ls_val (v := .bool false) rfl rfl (by kernel_rfl) (fun w => by kernel_rfl) ?_
        refine ls_val (v := .bool false) rfl rfl (by kernel_rfl) (fun w => by kernel_rfl) ?_
        refine ls_on (j := 22) (t := 57) (b := false) rfl rfl (by kernel_rfl) (by kernel_rfl) ?_
        refine ls_val (v := .pointer none) rfl rfl (by kernel_rfl) (fun w => by kernel_rfl) ?_
        refine ls_on (j := 22) (t := 57) (b := false) rfl rfl (by kernel_rfl) (by kernel_rfl) ?_
        have hc22 : disk_Disk_Flush_snil0.f k = some (1 : Int) := rfl
        refine ls_callb (fid := 9) (vals := #[.pointer none]) (X := Unit) (fun x => .int .i64 (1 : Int)) (fun x => stl []) [] [] [] [] 4 rfl rfl (by kernel_rfl) (fun w => by kernel_rfl) trivial trivial (by decide) (fun w hs hb => disk_Disk_Flush_snil0.calls k  (1 : Int) (lent b w [] []) hb  hc22) ?_
        intro x23
        refine ls_on (j := 22) (t := 57) (b := false) rfl rfl (by kernel_rfl) (by kernel_rfl) ?_
        refine ls_val (v := .bool false) rfl rfl (by kernel_rfl) (fun w => by kernel_rfl) ?_
        refine ls_val (v := .bool false) rfl rfl (by kernel_rfl) (fun w => by kernel_rfl) ?_
        refine ls_val (v := .bool false) rfl rfl (by kernel_rfl) (fun w => by kernel_rfl) ?_
        refine ls_on (j := 27) (t := 62) (b := false) rfl rfl (by kernel_rfl) (by kernel_rfl) ?_
        refine ls_val (v := .pointer none) rfl rfl (by kernel_rfl) (fun w => by kernel_rfl) ?_
        refine ls_on (j := 27) (t := 62) (b := false) rfl rfl (by kernel_rfl) (by kernel_rfl) ?_
        have hc25 : disk_Disk_Len_snil0.f k = some (0 : Int) := rfl
        refine ls_callb (fid := 12) (vals := #[.pointer none]) (X := Unit) (fun x => .int .i64 (0 : Int)) (fun x => stl []) [] [] [] [] 4 rfl rfl (by kernel_rfl) (fun w => by kernel_rfl) trivial trivial (by decide) (fun w hs hb => disk_Disk_Len_snil0.calls k  (0 : Int) (lent b w [] []) hb  hc25) ?_
        intro x26
        refine ls_on (j := 27) (t := 62) (b := false) rfl rfl (by kernel_rfl) (by kernel_rfl) ?_
        refine ls_val (v := .bool false) rfl rfl (by kernel_rfl) (fun w => by kernel_rfl) ?_
        refine ls_val (v := .bool false) rfl rfl (by kernel_rfl) (fun w => by kernel_rfl) ?_
        refine ls_val (v := .bool false) rfl rfl (by kernel_rfl) (fun w => by kernel_rfl) ?_
        refine ls_on (j := 32) (t := 67) (b := false) rfl rfl (by kernel_rfl) (by kernel_rfl) ?_
        refine ls_val (v := .pointer none) rfl rfl (by kernel_rfl) (fun w => by kernel_rfl) ?_
        refine ls_on (j := 32) (t := 67) (b := false) rfl rfl (by kernel_rfl) (by kernel_rfl) ?_
        have hc28 : disk_Disk_Waiting_snil0.f k = some (0 : Int) := rfl
        refine ls_callb (fid := 13) (vals := #[.pointer none]) (X := Unit) (fun x => .int .i64 (0 : Int)) (fun x => stl []) [] [] [] [] 4 rfl rfl (by kernel_rfl) (fun w => by kernel_rfl) trivial trivial (by decide) (fun w hs hb => disk_Disk_Waiting_snil0.calls k  (0 : Int) (lent b w [] []) hb  hc28) ?_
        intro x29
        refine ls_on (j := 32) (t := 67) (b := false) rfl rfl (by kernel_rfl) (by kernel_rfl) ?_
        refine ls_val (v := .bool false) rfl rfl (by kernel_rfl) (fun w => by kernel_rfl) ?_
        refine ls_val (v := .bool false) rfl rfl (by kernel_rfl) (fun w => by kernel_rfl) ?_
        refine ls_end ?_
        refine qn_then ?_
        refine cs_false (by kernel_rfl) ?_
        refine cs_skip' ?_
        refine qn_block ?_
        refine qn_then ?_
        refine cs_region (l := [_, _]) ?_
        refine ls_val (v := .int .i64 (1 : Int)) rfl rfl (by kernel_rfl) (fun w => by kernel_rfl) ?_
        refine ls_val (v := .int .i64 (1 : Int)) rfl rfl (by kernel_rfl) (fun w => by kernel_rfl) ?_
        refine ls_end ?_
        refine qn_rounds ?_
        refine rs_succ ?_
        refine cs_seq ?_
        refine cs_region (l := [_]) ?_
        refine ls_val (v := .bool true) rfl rfl (by kernel_rfl) (fun w => by kernel_rfl) ?_
        refine ls_end ?_
        refine qn_then ?_
        refine cs_seq ?_
        refine cs_true (by kernel_rfl) ?_
        refine cs_skip' ?_
        refine qn_then ?_
        refine cs_seq ?_
        refine cs_block ?_
        refine cs_seq ?_
        refine cs_region (l := [_, _, _]) ?_
        refine ls_at (T := (Ec.ptr 22)) (tk := 1) (i := (1 : Int)) (by exact rfl) (by decide) (show (1 : Int) < (([none, (some g1)]).length : Int) from of_decide_eq_true (by kernel_rfl)) ?_
        intro ad30 hA31
        refine ls_idxv (Ec.ptr 22) (A := (some ⟨g2, 0, none⟩)) (c := [none, (some g1)].length) (l := [none, (some g1)]) (k := .i64) (i := (1 : Int)) (z := 1) (ad := ad30) rfl rfl (by kernel_rfl) hA31 rfl (by kernel_rfl) (by kernel_rfl) (by kernel_rfl) (by kernel_rfl) (by decide) (show (1 : Int) < (([none, (some g1)]).length : Int) from of_decide_eq_true (by kernel_rfl)) ?_
        refine ls_load (a0 := (ad30.add (((1 : Int)).toNat * 1))) (v := .pointer (some ⟨g1, 0, none⟩)) (de := (TypeDesc.pointer 34)) rfl rfl (by kernel_rfl) rfl (by kernel_rfl) (by kernel_rfl) (by kernel_rfl) (fun w hs => (hs.rd (k := 1) (by exact rfl)).at hA31 (em_sub (Ec.ptr 22) ([none, (some g1)]) (i := ((1 : Int)).toNat) (by have h0 : (0 : Int) ≤ (1 : Int) := (by decide); have h1 : (1 : Int) < (([none, (some g1)]).length : Int) := (show (1 : Int) < (([none, (some g1)]).length : Int) from of_decide_eq_true (by kernel_rfl)); omega))) ?_
        refine ls_val (v := .pointer (some ⟨g1, 0, none⟩)) rfl rfl (by kernel_rfl) (fun w => by kernel_rfl) ?_
        refine ls_end ?_
        refine qn_then ?_
        refine cs_seq ?_
        refine cs_region (l := [_, _, _, _, _, _, _, _]) ?_
        refine ls_val (v := .pointer (some ⟨g1, 0, none⟩)) rfl rfl (by kernel_rfl) (fun w => by kernel_rfl) ?_
        refine ls_val (v := .int .i64 a0) rfl rfl (by kernel_rfl) (fun w => by kernel_rfl) ?_
        obtain ⟨t32, hc33, H⟩ := bind_some H
        refine ls_callb (fid := 10) (vals := #[.pointer (some ⟨g1, 0, none⟩), .int .i64 a0]) (X := (Option Addr × Nat)) (fun x => .tuple #[.slice x.1 t32.1.length x.2, .int .i64 t32.2]) (fun x => stl [Ck.var 34 g1 (([Value.slice none 0 0] ++ ([Value.map none] ++ ([Value.bool false] ++ ([Value.int .i64 (0 : Int)] ++ [Value.bool false]))))), Ck.sl (Ec.int 5 .u8) x.1 x.2 t32.1]) [0] [] [Ck.var 34 g1 (([Value.slice none 0 0] ++ ([Value.map none] ++ ([Value.bool false] ++ ([Value.int .i64 (0 : Int)] ++ [Value.bool false])))))] [] 4 rfl rfl (by kernel_rfl) (fun w => by kernel_rfl) ⟨by exact rfl, trivial⟩ trivial (by decide) (fun w hs hb => disk_Disk_Read_szero0.calls k g1 a0 t32 (lent b w [Ck.var 34 g1 (([Value.slice none 0 0] ++ ([Value.map none] ++ ([Value.bool false] ++ ([Value.int .i64 (0 : Int)] ++ [Value.bool false])))))] []) hb  hc33) ?_
        intro x34
        refine ls_val (v := .tuple #[.slice x34.1 t32.1.length x34.2, .int .i64 t32.2]) rfl rfl (by kernel_rfl) (fun w => by kernel_rfl) ?_
        refine ls_val (v := .slice x34.1 t32.1.length x34.2) rfl rfl (by kernel_rfl) (fun w => by kernel_rfl) ?_
        refine ls_val (v := .int .i64 t32.2) rfl rfl (by kernel_rfl) (fun w => by kernel_rfl) ?_
        refine ls_val (v := .slice x34.1 t32.1.length x34.2) rfl rfl (by kernel_rfl) (fun w => by kernel_rfl) ?_
        refine ls_val (v := .int .i64 t32.2) rfl rfl (by kernel_rfl) (fun w => by kernel_rfl) ?_
        refine ls_end ?_
        refine qn_then ?_
        refine cs_seq ?_
        refine cs_region (l := [_, _, _, _, _, _, _, _, _]) ?_
        refine ls_val (v := .pointer (some ⟨g1, 0, none⟩)) rfl rfl (by kernel_rfl) (fun w => by kernel_rfl) ?_
        refine ls_val (v := .int .i64 a0) rfl rfl (by kernel_rfl) (fun w => by kernel_rfl) ?_
        refine ls_lit (Ec.int 3 .i64) 5 rfl rfl (by kernel_rfl) ([a0]) (by exact of_decide_eq_true (by kernel_rfl)) (fun w => by kernel_rfl) ?_
        intro g35
        obtain ⟨t36, hc37, H⟩ := bind_some H
        refine ls_callb (fid := 11) (vals := #[.pointer (some ⟨g1, 0, none⟩), .slice (some ⟨g35, 0, none⟩) ([a0]).length [a0].length]) (X := Unit) (fun x => .tuple #[.pointer none, .int .i64 t36.2]) (fun x => stl [Ck.var 34 g1 (([Value.slice none 0 0] ++ ([Value.map none] ++ ([Value.bool false] ++ ([Value.int .i64 (0 : Int)] ++ [Value.bool false])))))]) [0] [5] [Ck.var 34 g1 (([Value.slice none 0 0] ++ ([Value.map none] ++ ([Value.bool false] ++ ([Value.int .i64 (0 : Int)] ++ [Value.bool false])))))] [Ck.sl (Ec.int 3 .i64) (some ⟨g35, 0, none⟩) ([a0].length) ([a0])] 6 rfl rfl (by kernel_rfl) (fun w => by kernel_rfl) ⟨by exact rfl, trivial⟩ ⟨by exact rfl, trivial⟩ (by decide) (fun w hs hb => disk_Disk_Crash_szero0.calls k g1 (some ⟨g35, 0, none⟩) ([a0].length) ([a0]) t36 (lent b w [Ck.var 34 g1 (([Value.slice none 0 0] ++ ([Value.map none] ++ ([Value.bool false] ++ ([Value.int .i64 (0 : Int)] ++ [Value.bool false])))))] [Ck.sl (Ec.int 3 .i64) (some ⟨g35, 0, none⟩) ([a0].length) ([a0])]) hb (hs.ror (k := 5) (by exact rfl) (.head _)) (hs.cap (k := 5) (by exact rfl)) hc37) ?_
        intro x38
        refine ls_val (v := .tuple #[.pointer none, .int .i64 t36.2]) rfl rfl (by kernel_rfl) (fun w => by kernel_rfl) ?_
        refine ls_val (v := .pointer none) rfl rfl (by kernel_rfl) (fun w => by kernel_rfl) ?_
        refine ls_val (v := .int .i64 t36.2) rfl rfl (by kernel_rfl) (fun w => by kernel_rfl) ?_
        refine ls_val (v := .pointer none) rfl rfl (by kernel_rfl) (fun w => by kernel_rfl) ?_
        refine ls_val (v := .int .i64 t36.2) rfl rfl (by kernel_rfl) (fun w => by kernel_rfl) ?_
        refine ls_end ?_
        refine qn_then ?_
        refine cs_seq ?_
        refine cs_region (l := [_, _, _]) ?_
        refine ls_val (v := .pointer (some ⟨g1, 0, none⟩)) rfl rfl (by kernel_rfl) (fun w => by kernel_rfl) ?_
        refine ls_val (v := .int .i64 a0) rfl rfl (by kernel_rfl) (fun w => by kernel_rfl) ?_
        obtain ⟨t39, hc40, H⟩ := bind_some H
        refine ls_callb (fid := 7) (vals := #[.pointer (some ⟨g1, 0, none⟩), .int .i64 a0]) (X := Unit) (fun x => .tuple #[]) (fun x => stl [Ck.var 34 g1 (([Value.slice none 0 0] ++ ([Value.map none] ++ ([Value.bool false] ++ ([Value.int .i64 (0 : Int)] ++ [Value.bool false])))))]) [0] [] [Ck.var 34 g1 (([Value.slice none 0 0] ++ ([Value.map none] ++ ([Value.bool false] ++ ([Value.int .i64 (0 : Int)] ++ [Value.bool false])))))] [] 6 rfl rfl (by kernel_rfl) (fun w => by kernel_rfl) ⟨by exact rfl, trivial⟩ trivial (by decide) (fun w hs hb => disk_Disk_Fuse_szero0.calls k g1 a0 t39 (lent b w [Ck.var 34 g1 (([Value.slice none 0 0] ++ ([Value.map none] ++ ([Value.bool false] ++ ([Value.int .i64 (0 : Int)] ++ [Value.bool false])))))] []) hb  hc40) ?_
        intro x41
        refine ls_end ?_
        refine qn_then ?_
        refine cs_seq ?_
        refine cs_region (l := [_, _, _, _, _, _, _, _, _, _, _, _, _, _, _, _, _, _, _, _, _, _, _, _, _, _, _, _, _, _, _, _, _, _, _, _, _]) ?_
        refine ls_val (v := .slice x34.1 t32.1.length x34.2) rfl rfl (by kernel_rfl) (fun w => by kernel_rfl) ?_
        refine ls_val (v := .int .i64 (t32.1.length : Int)) rfl rfl (by kernel_rfl) (fun w => by kernel_rfl) ?_
        refine ls_val (v := .bool (!decide ((t32.1.length : Int) = (0 : Int)))) rfl rfl (by kernel_rfl) (fun w => by kernel_rfl) ?_
        refine ls_val (v := .bool (!decide ((t32.1.length : Int) = (0 : Int)))) rfl rfl (by kernel_rfl) (fun w => by kernel_rfl) ?_
        by_cases q42 : (t32.1.length : Int) = (0 : Int)
        · replace H := ite_t q42 H
          refine ls_know (c := false) (congrArg Bool.not (dec_t q42)) 38 (by kernel_rfl) ?_
          refine ls_on (j := 3) (t := 38) (b := false) rfl rfl (by kernel_rfl) (by kernel_rfl) ?_
          refine ls_val (v := .int .i64 t32.2) rfl rfl (by kernel_rfl) (fun w => by kernel_rfl) ?_
          refine ls_on (j := 3) (t := 38) (b := false) rfl rfl (by kernel_rfl) (by kernel_rfl) ?_
          refine ls_val (v := .bool (!decide (t32.2 = (1 : Int)))) rfl rfl (by kernel_rfl) (fun w => by kernel_rfl) ?_
          refine ls_val (v := .bool (!decide (t32.2 = (1 : Int)))) rfl rfl (by kernel_rfl) (fun w => by kernel_rfl) ?_
          refine ls_val (v := .bool (!decide (t32.2 = (1 : Int)))) rfl rfl (by kernel_rfl) (fun w => by kernel_rfl) ?_
          by_cases q43 : t32.2 = (1 : Int)
          · replace H := ite_t q43 H
            refine ls_know (c := false) (congrArg Bool.not (dec_t q43)) 42 (by kernel_rfl) ?_
            refine ls_on (j := 7) (t := 42) (b := false) rfl rfl (by kernel_rfl) (by kernel_rfl) ?_
            refine ls_val (v := .pointer none) rfl rfl (by kernel_rfl) (fun w => by kernel_rfl) ?_
            refine ls_on (j := 7) (t := 42) (b := false) rfl rfl (by kernel_rfl) (by kernel_rfl) ?_
            refine ls_val (v := .bool false) rfl rfl (by kernel_rfl) (fun w => by kernel_rfl) ?_
            refine ls_val (v := .bool false) rfl rfl (by kernel_rfl) (fun w => by kernel_rfl) ?_
            refine ls_val (v := .bool false) rfl rfl (by kernel_rfl) (fun w => by kernel_rfl) ?_
            refine ls_on (j := 11) (t := 46) (b := false) rfl rfl (by kernel_rfl) (by kernel_rfl) ?_
            refine ls_val (v := .int .i64 t36.2) rfl rfl (by kernel_rfl) (fun w => by kernel_rfl) ?_
            refine ls_on (j := 11) (t := 46) (b := false) rfl rfl (by kernel_rfl) (by kernel_rfl) ?_
            refine ls_val (v := .bool (!decide (t36.2 = (1 : Int)))) rfl rfl (by kernel_rfl) (fun w => by kernel_rfl) ?_
            refine ls_val (v := .bool (!decide (t36.2 = (1 : Int)))) rfl rfl (by kernel_rfl) (fun w => by kernel_rfl) ?_
            refine ls_val (v := .bool (!decide (t36.2 = (1 : Int)))) rfl rfl (by kernel_rfl) (fun w => by kernel_rfl) ?_
            by_cases q44 : t36.2 = (1 : Int)
            · replace H := ite_t q44 H
              refine ls_know (c := false) (congrArg Bool.not (dec_t q44)) 50 (by kernel_rfl) ?_
              refine ls_on (j := 15) (t := 50) (b := false) rfl rfl (by kernel_rfl) (by kernel_rfl) ?_
              refine ls_val (v := .pointer (some ⟨g1, 0, none⟩)) rfl rfl (by kernel_rfl) (fun w => by kernel_rfl) ?_
              refine ls_on (j := 15) (t := 50) (b := false) rfl rfl (by kernel_rfl) (by kernel_rfl) ?_
              refine ls_val (v := .int .i64 a0) rfl rfl (by kernel_rfl) (fun w => by kernel_rfl) ?_
              refine ls_on (j := 15) (t := 50) (b := false) rfl rfl (by kernel_rfl) (by kernel_rfl) ?_
              refine ls_val (v := .slice A1 l1.length c1) rfl rfl (by kernel_rfl) (fun w => by kernel_rfl) ?_
              refine ls_on (j := 15) (t := 50) (b := false) rfl rfl (by kernel_rfl) (by kernel_rfl) ?_
              have hc46 : disk_Disk_Write_szero0.f k a0 l1 = some (1 : Int) := rfl
              refine ls_callb (fid := 8) (vals := #[.pointer (some ⟨g1, 0, none⟩), .int .i64 a0, .slice A1 l1.length c1]) (X := Unit) (fun x => .int .i64 (1 : Int)) (fun x => stl [Ck.var 34 g1 (([Value.slice none 0 0] ++ ([Value.map none] ++ ([Value.bool false] ++ ([Value.int .i64 (0 : Int)] ++ [Value.bool false])))))]) [0] [] [Ck.var 34 g1 (([Value.slice none 0 0] ++ ([Value.map none] ++ ([Value.bool false] ++ ([Value.int .i64 (0 : Int)] ++ [Value.bool false])))))] [] 6 rfl rfl (by kernel_rfl) (fun w => by kernel_rfl) ⟨by exact rfl, trivial⟩ trivial (by decide) (fun w hs hb => disk_Disk_Write_szero0.calls k g1 a0 A1 c1 l1 (1 : Int) (lent b w [Ck.var 34 g1 (([Value.slice none 0 0] ++ ([Value.map none] ++ ([Value.bool false] ++ ([Value.int .i64 (0 : Int)] ++ [Value.bool false])))))] []) hb (hs.ro R1 _ _) C1 hc46) ?_
              intro x47
              refine ls_on (j := 15) (t := 50) (b := false) rfl rfl (by kernel_rfl) (by kernel_rfl) ?_
              refine ls_val (v := .bool false) rfl rfl (by kernel_rfl) (fun w => by kernel_rfl) ?_
              refine ls_val (v := .bool false) rfl rfl (by kernel_rfl) (fun w => by kernel_rfl) ?_
              refine ls_val (v := .bool false) rfl rfl (by kernel_rfl) (fun w => by kernel_rfl) ?_
              refine ls_on (j := 22) (t := 57) (b := false) rfl rfl (by kernel_rfl) (by kernel_rfl) ?_
              refine ls_val (v := .pointer (some ⟨g1, 0, none⟩)) rfl rfl (by kernel_rfl) (fun w => by kernel_rfl) ?_
              refine ls_on (j := 22) (t := 57) (b := false) rfl rfl (by kernel_rfl) (by kernel_rfl) ?_
              have hc49 : disk_Disk_Flush_szero0.f k = some (1 : Int) := rfl
              refine ls_callb (fid := 9) (vals := #[.pointer (some ⟨g1, 0, none⟩)]) (X := Unit) (fun x => .int .i64 (1 : Int)) (fun x => stl [Ck.var 34 g1 (([Value.slice none 0 0] ++ ([Value.map none] ++ ([Value.bool false] ++ ([Value.int .i64 (0 : Int)] ++ [Value.bool false])))))]) [0] [] [Ck.var 34 g1 (([Value.slice none 0 0] ++ ([Value.map none] ++ ([Value.bool false] ++ ([Value.int .i64 (0 : Int)] ++ [Value.bool false])))))] [] 6 rfl rfl (by kernel_rfl) (fun w => by kernel_rfl) ⟨by exact rfl, trivial⟩ trivial (by decide) (fun w hs hb => disk_Disk_Flush_szero0.calls k g1 (1 : Int) (lent b w [Ck.var 34 g1 (([Value.slice none 0 0] ++ ([Value.map none] ++ ([Value.bool false] ++ ([Value.int .i64 (0 : Int)] ++ [Value.bool false])))))] []) hb  hc49) ?_
              intro x50
              refine ls_on (j := 22) (t := 57) (b := false) rfl rfl (by kernel_rfl) (by kernel_rfl) ?_
              refine ls_val (v := .bool false) rfl rfl (by kernel_rfl) (fun w => by kernel_rfl) ?_
              refine ls_val (v := .bool false) rfl rfl (by kernel_rfl) (fun w => by kernel_rfl) ?_
              refine ls_val (v := .bool false) rfl rfl (by kernel_rfl) (fun w => by kernel_rfl) ?_
              refine ls_on (j := 27) (t := 62) (b := false) rfl rfl (by kernel_rfl) (by kernel_rfl) ?_
              refine ls_val (v := .pointer (some ⟨g1, 0, none⟩)) rfl rfl (by kernel_rfl) (fun w => by kernel_rfl) ?_
              refine ls_on (j := 27) (t := 62) (b := false) rfl rfl (by kernel_rfl) (by kernel_rfl) ?_
              have hc52 : disk_Disk_Len_szero0.f k = some (0 : Int) := rfl
              refine ls_callb (fid := 12) (vals := #[.pointer (some ⟨g1, 0, none⟩)]) (X := Unit) (fun x => .int .i64 (0 : Int)) (fun x => stl [Ck.var 34 g1 (([Value.slice none 0 0] ++ ([Value.map none] ++ ([Value.bool false] ++ ([Value.int .i64 (0 : Int)] ++ [Value.bool false])))))]) [0] [] [Ck.var 34 g1 (([Value.slice none 0 0] ++ ([Value.map none] ++ ([Value.bool false] ++ ([Value.int .i64 (0 : Int)] ++ [Value.bool false])))))] [] 6 rfl rfl (by kernel_rfl) (fun w => by kernel_rfl) ⟨by exact rfl, trivial⟩ trivial (by decide) (fun w hs hb => disk_Disk_Len_szero0.calls k g1 (0 : Int) (lent b w [Ck.var 34 g1 (([Value.slice none 0 0] ++ ([Value.map none] ++ ([Value.bool false] ++ ([Value.int .i64 (0 : Int)] ++ [Value.bool false])))))] []) hb  hc52) ?_
              intro x53
              refine ls_on (j := 27) (t := 62) (b := false) rfl rfl (by kernel_rfl) (by kernel_rfl) ?_
              refine ls_val (v := .bool false) rfl rfl (by kernel_rfl) (fun w => by kernel_rfl) ?_
              refine ls_val (v := .bool false) rfl rfl (by kernel_rfl) (fun w => by kernel_rfl) ?_
              refine ls_val (v := .bool false) rfl rfl (by kernel_rfl) (fun w => by kernel_rfl) ?_
              refine ls_on (j := 32) (t := 67) (b := false) rfl rfl (by kernel_rfl) (by kernel_rfl) ?_
              refine ls_val (v := .pointer (some ⟨g1, 0, none⟩)) rfl rfl (by kernel_rfl) (fun w => by kernel_rfl) ?_
              refine ls_on (j := 32) (t := 67) (b := false) rfl rfl (by kernel_rfl) (by kernel_rfl) ?_
              have hc55 : disk_Disk_Waiting_szero0.f k = some (0 : Int) := rfl
              refine ls_callb (fid := 13) (vals := #[.pointer (some ⟨g1, 0, none⟩)]) (X := Unit) (fun x => .int .i64 (0 : Int)) (fun x => stl [Ck.var 34 g1 (([Value.slice none 0 0] ++ ([Value.map none] ++ ([Value.bool false] ++ ([Value.int .i64 (0 : Int)] ++ [Value.bool false])))))]) [0] [] [Ck.var 34 g1 (([Value.slice none 0 0] ++ ([Value.map none] ++ ([Value.bool false] ++ ([Value.int .i64 (0 : Int)] ++ [Value.bool false])))))] [] 6 rfl rfl (by kernel_rfl) (fun w => by kernel_rfl) ⟨by exact rfl, trivial⟩ trivial (by decide) (fun w hs hb => disk_Disk_Waiting_szero0.calls k g1 (0 : Int) (lent b w [Ck.var 34 g1 (([Value.slice none 0 0] ++ ([Value.map none] ++ ([Value.bool false] ++ ([Value.int .i64 (0 : Int)] ++ [Value.bool false])))))] []) hb  hc55) ?_
              intro x56
              refine ls_on (j := 32) (t := 67) (b := false) rfl rfl (by kernel_rfl) (by kernel_rfl) ?_
              refine ls_val (v := .bool false) rfl rfl (by kernel_rfl) (fun w => by kernel_rfl) ?_
              refine ls_val (v := .bool false) rfl rfl (by kernel_rfl) (fun w => by kernel_rfl) ?_
              refine ls_end ?_
              refine qn_then ?_
              refine cs_false (by kernel_rfl) ?_
              refine cs_skip' ?_
              refine qn_block ?_
              refine qn_then ?_
              refine cs_region (l := [_, _]) ?_
              refine ls_val (v := .int .i64 (2 : Int)) rfl rfl (by kernel_rfl) (fun w => by kernel_rfl) ?_
              refine ls_val (v := .int .i64 (2 : Int)) rfl rfl (by kernel_rfl) (fun w => by kernel_rfl) ?_
              refine ls_end ?_
              refine qn_rounds ?_
              refine rs_succ ?_
              refine cs_seq ?_
              refine cs_region (l := [_]) ?_
              refine ls_val (v := .bool false) rfl rfl (by kernel_rfl) (fun w => by kernel_rfl) ?_
              refine ls_end ?_
              refine qn_then ?_
              refine cs_seq ?_
              refine cs_false (by kernel_rfl) ?_
              refine cs_exit' ?_
              refine qx_then ?_
              refine qx_then ?_
              refine qx_same ?_
              refine qn_then ?_
              refine cs_seq ?_
              refine cs_region (l := [_]) ?_
              refine ls_val (v := .bool true) rfl rfl (by kernel_rfl) (fun w => by kernel_rfl) ?_
              refine ls_end ?_
              refine qn_then ?_
              refine cs_ret' ?_
              obtain rfl := Option.some.inj H
              refine qr_res (rs := [_]) rfl (fun w' hs => ⟨[.bool true], (res_tmp (by kernel_rfl) (.nil)), (), rfl, hs.pick (ts := []) (cs := []) trivial (by decide)⟩)
            · replace H := ite_f q44 H
              refine ls_know (c := true) (congrArg Bool.not (dec_f q44)) 50 (by kernel_rfl) ?_
              refine ls_off (j := 15) (t := 50) (b := false) (c := true) rfl rfl (by kernel_rfl) (by kernel_rfl) rfl rfl (by kernel_rfl) ?_
              refine ls_off (j := 15) (t := 50) (b := false) (c := true) rfl rfl (by kernel_rfl) (by kernel_rfl) rfl rfl (by kernel_rfl) ?_
              refine ls_off (j := 15) (t := 50) (b := false) (c := true) rfl rfl (by kernel_rfl) (by kernel_rfl) rfl rfl (by kernel_rfl) ?_
              refine ls_off (j := 15) (t := 50) (b := false) (c := true) rfl rfl (by kernel_rfl) (by kernel_rfl) rfl rfl (by kernel_rfl) ?_
              refine ls_off (j := 15) (t := 50) (b := false) (c := true) rfl rfl (by kernel_rfl) (by kernel_rfl) rfl rfl (by kernel_rfl) ?_
              refine ls_val (v := .bool true) rfl rfl (by kernel_rfl) (fun w => by kernel_rfl) ?_
              refine ls_val (v := .bool true) rfl rfl (by kernel_rfl) (fun w => by kernel_rfl) ?_
              refine ls_off (j := 22) (t := 57) (b := false) (c := true) rfl rfl (by kernel_rfl) (by kernel_rfl) rfl rfl (by kernel_rfl) ?_
              refine ls_off (j := 22) (t := 57) (b := false) (c := true) rfl rfl (by kernel_rfl) (by kernel_rfl) rfl rfl (by kernel_rfl) ?_
              refine ls_off (j := 22) (t := 57) (b := false) (c := true) rfl rfl (by kernel_rfl) (by kernel_rfl) rfl rfl (by kernel_rfl) ?_
              refine ls_val (v := .bool true) rfl rfl (by kernel_rfl) (fun w => by kernel_rfl) ?_
              refine ls_val (v := .bool true) rfl rfl (by kernel_rfl) (fun w => by kernel_rfl) ?_
              refine ls_off (j := 27) (t := 62) (b := false) (c := true) rfl rfl (by kernel_rfl) (by kernel_rfl) rfl rfl (by kernel_rfl) ?_
              refine ls_off (j := 27) (t := 62) (b := false) (c := true) rfl rfl (by kernel_rfl) (by kernel_rfl) rfl rfl (by kernel_rfl) ?_
              refine ls_off (j := 27) (t := 62) (b := false) (c := true) rfl rfl (by kernel_rfl) (by kernel_rfl) rfl rfl (by kernel_rfl) ?_
              refine ls_val (v := .bool true) rfl rfl (by kernel_rfl) (fun w => by kernel_rfl) ?_
              refine ls_val (v := .bool true) rfl rfl (by kernel_rfl) (fun w => by kernel_rfl) ?_
              refine ls_off (j := 32) (t := 67) (b := false) (c := true) rfl rfl (by kernel_rfl) (by kernel_rfl) rfl rfl (by kernel_rfl) ?_
              refine ls_off (j := 32) (t := 67) (b := false) (c := true) rfl rfl (by kernel_rfl) (by kernel_rfl) rfl rfl (by kernel_rfl) ?_
              refine ls_off (j := 32) (t := 67) (b := false) (c := true) rfl rfl (by kernel_rfl) (by kernel_rfl) rfl rfl (by kernel_rfl) ?_
              refine ls_val (v := .bool true) rfl rfl (by kernel_rfl) (fun w => by kernel_rfl) ?_
              refine ls_end ?_
              refine qn_then ?_
              refine cs_true (by kernel_rfl) ?_
              refine cs_seq ?_
              refine cs_region (l := [_]) ?_
              refine ls_val (v := .bool false) rfl rfl (by kernel_rfl) (fun w => by kernel_rfl) ?_
              refine ls_end ?_
              refine qn_then ?_
              refine cs_ret' ?_
              refine qr_block ?_
              refine qr_then ?_
              refine qr_then ?_
              refine qr_block ?_
              refine qr_then ?_
              obtain rfl := Option.some.inj H
              refine qr_res (rs := [_]) rfl (fun w' hs => ⟨[.bool false], (res_tmp (by kernel_rfl) (.nil)), (), rfl, hs.pick (ts := []) (cs := []) trivial (by decide)⟩)
          · replace H := ite_f q43 H
            refine ls_know (c := true) (congrArg Bool.not (dec_f q43)) 42 (by kernel_rfl) ?_
            refine ls_off (j := 7) (t := 42) (b := false) (c := true) rfl rfl (by kernel_rfl) (by kernel_rfl) rfl rfl (by kernel_rfl) ?_
            refine ls_off (j := 7) (t := 42) (b := false) (c := true) rfl rfl (by kernel_rfl) (by kernel_rfl) rfl rfl (by kernel_rfl) ?_
            refine ls_val (v := .bool true) rfl rfl (by kernel_rfl) (fun w => by kernel_rfl) ?_
            refine ls_val (v := .bool true) rfl rfl (by kernel_rfl) (fun w => by kernel_rfl) ?_
            refine ls_off (j := 11) (t := 46) (b := false) (c := true) rfl rfl (by kernel_rfl) (by kernel_rfl) rfl rfl (by kernel_rfl) ?_
            refine ls_off (j := 11) (t := 46) (b := false) (c := true) rfl rfl (by kernel_rfl) (by kernel_rfl) rfl rfl (by kernel_rfl) ?_
            refine ls_val (v := .bool true) rfl rfl (by kernel_rfl) (fun w => by kernel_rfl) ?_
            refine ls_val (v := .bool true) rfl rfl (by kernel_rfl) (fun w => by kernel_rfl) ?_
            refine ls_off (j := 15) (t := 50) (b := false) (c := true) rfl rfl (by kernel_rfl) (by kernel_rfl) rfl rfl (by kernel_rfl) ?_
            refine ls_off (j := 15) (t := 50) (b := false) (c := true) rfl rfl (by kernel_rfl) (by kernel_rfl) rfl rfl (by kernel_rfl) ?_
            refine ls_off (j := 15) (t := 50) (b := false) (c := true) rfl rfl (by kernel_rfl) (by kernel_rfl) rfl rfl (by kernel_rfl) ?_
            refine ls_off (j := 15) (t := 50) (b := false) (c := true) rfl rfl (by kernel_rfl) (by kernel_rfl) rfl rfl (by kernel_rfl) ?_
            refine ls_off (j := 15) (t := 50) (b := false) (c := true) rfl rfl (by kernel_rfl) (by kernel_rfl) rfl rfl (by kernel_rfl) ?_
            refine ls_val (v := .bool true) rfl rfl (by kernel_rfl) (fun w => by kernel_rfl) ?_
            refine ls_val (v := .bool true) rfl rfl (by kernel_rfl) (fun w => by kernel_rfl) ?_
            refine ls_off (j := 22) (t := 57) (b := false) (c := true) rfl rfl (by kernel_rfl) (by kernel_rfl) rfl rfl (by kernel_rfl) ?_
            refine ls_off (j := 22) (t := 57) (b := false) (c := true) rfl rfl (by kernel_rfl) (by kernel_rfl) rfl rfl (by kernel_rfl) ?_
            refine ls_off (j := 22) (t := 57) (b := false) (c := true) rfl rfl (by kernel_rfl) (by kernel_rfl) rfl rfl (by kernel_rfl) ?_
            refine ls_val (v := .bool true) rfl rfl (by kernel_rfl) (fun w => by kernel_rfl) ?_
            refine ls_val (v := .bool true) rfl rfl (by kernel_rfl) (fun w => by kernel_rfl) ?_
            refine ls_off (j := 27) (t := 62) (b := false) (c := true) rfl rfl (by kernel_rfl) (by kernel_rfl) rfl rfl (by kernel_rfl) ?_
            refine ls_off (j := 27) (t := 62) (b := false) (c := true) rfl rfl (by kernel_rfl) (by kernel_rfl) rfl rfl (by kernel_rfl) ?_
            refine ls_off (j := 27) (t := 62) (b := false) (c := true) rfl rfl (by kernel_rfl) (by kernel_rfl) rfl rfl (by kernel_rfl) ?_
            refine ls_val (v := .bool true) rfl rfl (by kernel_rfl) (fun w => by kernel_rfl) ?_
            refine ls_val (v := .bool true) rfl rfl (by kernel_rfl) (fun w => by kernel_rfl) ?_
            refine ls_off (j := 32) (t := 67) (b := false) (c := true) rfl rfl (by kernel_rfl) (by kernel_rfl) rfl rfl (by kernel_rfl) ?_
            refine ls_off (j := 32) (t := 67) (b := false) (c := true) rfl rfl (by kernel_rfl) (by kernel_rfl) rfl rfl (by kernel_rfl) ?_
            refine ls_off (j := 32) (t := 67) (b := false) (c := true) rfl rfl (by kernel_rfl) (by kernel_rfl) rfl rfl (by kernel_rfl) ?_
            refine ls_val (v := .bool true) rfl rfl (by kernel_rfl) (fun w => by kernel_rfl) ?_
            refine ls_end ?_
            refine qn_then ?_
            refine cs_true (by kernel_rfl) ?_
            refine cs_seq ?_
            refine cs_region (l := [_]) ?_
            refine ls_val (v := .bool false) rfl rfl (by kernel_rfl) (fun w => by kernel_rfl) ?_
            refine ls_end ?_
            refine qn_then ?_
            refine cs_ret' ?_
            refine qr_block ?_
            refine qr_then ?_
            refine qr_then ?_
            refine qr_block ?_
            refine qr_then ?_
            obtain rfl := Option.some.inj H
            refine qr_res (rs := [_]) rfl (fun w' hs => ⟨[.bool false], (res_tmp (by kernel_rfl) (.nil)), (), rfl, hs.pick (ts := []) (cs := []) trivial (by decide)⟩)
        · replace H := ite_f q42 H
          refine ls_know (c := true) (congrArg Bool.not (dec_f q42)) 38 (by kernel_rfl) ?_
          refine ls_off (j := 3) (t := 38) (b := false) (c := true) rfl rfl (by kernel_rfl) (by kernel_rfl) rfl rfl (by kernel_rfl) ?_
          refine ls_off (j := 3) (t := 38) (b := false) (c := true) rfl rfl (by kernel_rfl) (by kernel_rfl) rfl rfl (by kernel_rfl) ?_
          refine ls_val (v := .bool true) rfl rfl (by kernel_rfl) (fun w => by kernel_rfl) ?_
          refine ls_val (v := .bool true) rfl rfl (by kernel_rfl) (fun w => by kernel_rfl) ?_
          refine ls_off (j := 7) (t := 42) (b := false) (c := true) rfl rfl (by kernel_rfl) (by kernel_rfl) rfl rfl (by kernel_rfl) ?_
          refine ls_off (j := 7) (t := 42) (b := false) (c := true) rfl rfl (by kernel_rfl) (by kernel_rfl) rfl rfl (by kernel_rfl) ?_
          refine ls_val (v := .bool true) rfl rfl (by kernel_rfl) (fun w => by kernel_rfl) ?_
          refine ls_val (v := .bool true) rfl rfl (by kernel_rfl) (fun w => by kernel_rfl) ?_
          refine ls_off (j := 11) (t := 46) (b := false) (c := true) rfl rfl (by kernel_rfl) (by kernel_rfl) rfl rfl (by kernel_rfl) ?_
          refine ls_off (j := 11) (t := 46) (b := false) (c := true) rfl rfl (by kernel_rfl) (by kernel_rfl) rfl rfl (by kernel_rfl) ?_
          refine ls_val (v := .bool true) rfl rfl (by kernel_rfl) (fun w => by kernel_rfl) ?_
          refine ls_val (v := .bool true) rfl rfl (by kernel_rfl) (fun w => by kernel_rfl) ?_
          refine ls_off (j := 15) (t := 50) (b := false) (c := true) rfl rfl (by kernel_rfl) (by kernel_rfl) rfl rfl (by kernel_rfl) ?_
          refine ls_off (j := 15) (t := 50) (b := false) (c := true) rfl rfl (by kernel_rfl) (by kernel_rfl) rfl rfl (by kernel_rfl) ?_
          refine ls_off (j := 15) (t := 50) (b := false) (c := true) rfl rfl (by kernel_rfl) (by kernel_rfl) rfl rfl (by kernel_rfl) ?_
          refine ls_off (j := 15) (t := 50) (b := false) (c := true) rfl rfl (by kernel_rfl) (by kernel_rfl) rfl rfl (by kernel_rfl) ?_
          refine ls_off (j := 15) (t := 50) (b := false) (c := true) rfl rfl (by kernel_rfl) (by kernel_rfl) rfl rfl (by kernel_rfl) ?_
          refine ls_val (v := .bool true) rfl rfl (by kernel_rfl) (fun w => by kernel_rfl) ?_
          refine ls_val (v := .bool true) rfl rfl (by kernel_rfl) (fun w => by kernel_rfl) ?_
          refine ls_off (j := 22) (t := 57) (b := false) (c := true) rfl rfl (by kernel_rfl) (by kernel_rfl) rfl rfl (by kernel_rfl) ?_
          refine ls_off (j := 22) (t := 57) (b := false) (c := true) rfl rfl (by kernel_rfl) (by kernel_rfl) rfl rfl (by kernel_rfl) ?_
          refine ls_off (j := 22) (t := 57) (b := false) (c := true) rfl rfl (by kernel_rfl) (by kernel_rfl) rfl rfl (by kernel_rfl) ?_
          refine ls_val (v := .bool true) rfl rfl (by kernel_rfl) (fun w => by kernel_rfl) ?_
          refine ls_val (v := .bool true) rfl rfl (by kernel_rfl) (fun w => by kernel_rfl) ?_
          refine ls_off (j := 27) (t := 62) (b := false) (c := true) rfl rfl (by kernel_rfl) (by kernel_rfl) rfl rfl (by kernel_rfl) ?_
          refine ls_off (j := 27) (t := 62) (b := false) (c := true) rfl rfl (by kernel_rfl) (by kernel_rfl) rfl rfl (by kernel_rfl) ?_
          refine ls_off (j := 27) (t := 62) (b := false) (c := true) rfl rfl (by kernel_rfl) (by kernel_rfl) rfl rfl (by kernel_rfl) ?_
          refine ls_val (v := .bool true) rfl rfl (by kernel_rfl) (fun w => by kernel_rfl) ?_
          refine ls_val (v := .bool true) rfl rfl (by kernel_rfl) (fun w => by kernel_rfl) ?_
          refine ls_off (j := 32) (t := 67) (b := false) (c := true) rfl rfl (by kernel_rfl) (by kernel_rfl) rfl rfl (by kernel_rfl) ?_
          refine ls_off (j := 32) (t := 67) (b := false) (c := true) rfl rfl (by kernel_rfl) (by kernel_rfl) rfl rfl (by kernel_rfl) ?_
          refine ls_off (j := 32) (t := 67) (b := false) (c := true) rfl rfl (by kernel_rfl) (by kernel_rfl) rfl rfl (by kernel_rfl) ?_
          refine ls_val (v := .bool true) rfl rfl (by kernel_rfl) (fun w => by kernel_rfl) ?_
          refine ls_end ?_
          refine qn_then ?_
          refine cs_true (by kernel_rfl) ?_
          refine cs_seq ?_
          refine cs_region (l := [_]) ?_
          refine ls_val (v := .bool false) rfl rfl (by kernel_rfl) (fun w => by kernel_rfl) ?_
          refine ls_end ?_
          refine qn_then ?_
          refine cs_ret' ?_
          refine qr_block ?_
          refine qr_then ?_
          refine qr_then ?_
          refine qr_block ?_
          refine qr_then ?_
          obtain rfl := Option.some.inj H
          refine qr_res (rs := [_]) rfl (fun w' hs => ⟨[.bool false], (res_tmp (by kernel_rfl) (.nil)), (), rfl, hs.pick (ts := []) (cs := []) trivial (by decide)⟩)
      · replace H := ite_f q17 H
        refine ls_know (c := true) (congrArg Bool.not (dec_f q17)) 50 (by kernel_rfl) ?_
        refine ls_off (j := 15) (t := 50) (b := false) (c := true) rfl rfl (by kernel_rfl) (by kernel_rfl) rfl rfl (by kernel_rfl) ?_
        refine ls_off (j := 15) (t := 50) (b := false) (c := true) rfl rfl (by kernel_rfl) (by kernel_rfl) rfl rfl (by kernel_rfl) ?_
        refine ls_off (j := 15) (t := 50) (b := false) (c := true) rfl rfl (by kernel_rfl) (by kernel_rfl) rfl rfl (by kernel_rfl) ?_
        refine ls_off (j := 15) (t := 50) (b := false) (c := true) rfl rfl (by kernel_rfl) (by kernel_rfl) rfl rfl (by kernel_rfl) ?_
        refine ls_off (j := 15) (t := 50) (b := false) (c := true) rfl rfl (by kernel_rfl) (by kernel_rfl) rfl rfl (by kernel_rfl) ?_
        refine ls_val (v := .bool true) rfl rfl (by kernel_rfl) (fun w => by kernel_rfl) ?_
        refine ls_val (v := .bool true) rfl rfl (by kernel_rfl) (fun w => by kernel_rfl) ?_
        refine ls_off (j := 22) (t := 57) (b := false) (c := true) rfl rfl (by kernel_rfl) (by kernel_rfl) rfl rfl (by kernel_rfl) ?_
        refine ls_off (j := 22) (t := 57) (b := false) (c := true) rfl rfl (by kernel_rfl) (by kernel_rfl) rfl rfl (by kernel_rfl) ?_
        refine ls_off (j := 22) (t := 57) (b := false) (c := true) rfl rfl (by kernel_rfl) (by kernel_rfl) rfl rfl (by kernel_rfl) ?_
        refine ls_val (v := .bool true) rfl rfl (by kernel_rfl) (fun w => by kernel_rfl) ?_
        refine ls_val (v := .bool true) rfl rfl (by kernel_rfl) (fun w => by kernel_rfl) ?_
        refine ls_off (j := 27) (t := 62) (b := false) (c := true) rfl rfl (by kernel_rfl) (by kernel_rfl) rfl rfl (by kernel_rfl) ?_
        refine ls_off (j := 27) (t := 62) (b := false) (c := true) rfl rfl (by kernel_rfl) (by kernel_rfl) rfl rfl (by kernel_rfl) ?_
        refine ls_off (j := 27) (t := 62) (b := false) (c := true) rfl rfl (by kernel_rfl) (by kernel_rfl) rfl rfl (by kernel_rfl) ?_
        refine ls_val (v := .bool true) rfl rfl (by kernel_rfl) (fun w => by kernel_rfl) ?_
        refine ls_val (v := .bool true) rfl rfl (by kernel_rfl) (fun w => by kernel_rfl) ?_
        refine ls_off (j := 32) (t := 67) (b := false) (c := true) rfl rfl (by kernel_rfl) (by kernel_rfl) rfl rfl (by kernel_rfl) ?_
        refine ls_off (j := 32) (t := 67) (b := false) (c := true) rfl rfl (by kernel_rfl) (by kernel_rfl) rfl rfl (by kernel_rfl) ?_
        refine ls_off (j := 32) (t := 67) (b := false) (c := true) rfl rfl (by kernel_rfl) (by kernel_rfl) rfl rfl (by kernel_rfl) ?_
        refine ls_val (v := .bool true) rfl rfl (by kernel_rfl) (fun w => by kernel_rfl) ?_
        refine ls_end ?_
        refine qn_then ?_
        refine cs_true (by kernel_rfl) ?_
        refine cs_seq ?_
        refine cs_region (l := [_]) ?_
        refine ls_val (v := .bool false) rfl rfl (by kernel_rfl) (fun w => by kernel_rfl) ?_
        refine ls_end ?_
        refine qn_then ?_
        refine cs_ret' ?_
        refine qr_block ?_
        refine qr_then ?_
        refine qr_then ?_
        refine qr_block ?_
        refine qr_then ?_
        obtain rfl := Option.some.inj H
        refine qr_res (rs := [_]) rfl (fun w' hs => ⟨[.bool false], (res_tmp (by kernel_rfl) (.nil)), (), rfl, hs.pick (ts := []) (cs := []) trivial (by decide)⟩)
    · replace H := ite_f q16 H
      refine ls_know (c := true) (congrArg Bool.not (dec_f q16)) 42 (by kernel_rfl) ?_
      refine ls_off (j := 7) (t := 42) (b := false) (c := true) rfl rfl (by kernel_rfl) (by kernel_rfl) rfl rfl (by kernel_rfl) ?_
      refine ls_off (j := 7) (t := 42) (b := false) (c := true) rfl rfl (by kernel_rfl) (by kernel_rfl) rfl rfl (by kernel_rfl) ?_
      refine ls_val (v := .bool true) rfl rfl (by kernel_rfl) (fun w => by kernel_rfl) ?_
      refine ls_val (v := .bool true) rfl rfl (by kernel_rfl) (fun w => by kernel_rfl) ?_
      refine ls_off (j := 11) (t := 46) (b := false) (c := true) rfl rfl (by kernel_rfl) (by kernel_rfl) rfl rfl (by kernel_rfl) ?_
      refine ls_off (j := 11) (t := 46) (b := false) (c := true) rfl rfl (by kernel_rfl) (by kernel_rfl) rfl rfl (by kernel_rfl) ?_
      refine ls_val (v := .bool true) rfl rfl (by kernel_rfl) (fun w => by kernel_rfl) ?_
      refine ls_val (v := .bool true) rfl rfl (by kernel_rfl) (fun w => by kernel_rfl) ?_
      refine ls_off (j := 15) (t := 50) (b := false) (c := true) rfl rfl (by kernel_rfl) (by kernel_rfl) rfl rfl (by kernel_rfl) ?_
      refine ls_off (j := 15) (t := 50) (b := false) (c := true) rfl rfl (by kernel_rfl) (by kernel_rfl) rfl rfl (by kernel_rfl) ?_
      refine ls_off (j := 15) (t := 50) (b := false) (c := true) rfl rfl (by kernel_rfl) (by kernel_rfl) rfl rfl (by kernel_rfl) ?_
      refine ls_off (j := 15) (t := 50) (b := false) (c := true) rfl rfl (by kernel_rfl) (by kernel_rfl) rfl rfl (by kernel_rfl) ?_
      refine ls_off (j := 15) (t := 50) (b := false) (c := true) rfl rfl (by kernel_rfl) (by kernel_rfl) rfl rfl (by kernel_rfl) ?_
      refine ls_val (v := .bool true) rfl rfl (by kernel_rfl) (fun w => by kernel_rfl) ?_
      refine ls_val (v := .bool true) rfl rfl (by kernel_rfl) (fun w => by kernel_rfl) ?_
      refine ls_off (j := 22) (t := 57) (b := false) (c := true) rfl rfl (by kernel_rfl) (by kernel_rfl) rfl rfl (by kernel_rfl) ?_
      refine ls_off (j := 22) (t := 57) (b := false) (c := true) rfl rfl (by kernel_rfl) (by kernel_rfl) rfl rfl (by kernel_rfl) ?_
      refine ls_off (j := 22) (t := 57) (b := false) (c := true) rfl rfl (by kernel_rfl) (by kernel_rfl) rfl rfl (by kernel_rfl) ?_
      refine ls_val (v := .bool true) rfl rfl (by kernel_rfl) (fun w => by kernel_rfl) ?_
      refine ls_val (v := .bool true) rfl rfl (by kernel_rfl) (fun w => by kernel_rfl) ?_
      refine ls_off (j := 27) (t := 62) (b := false) (c := true) rfl rfl (by kernel_rfl) (by kernel_rfl) rfl rfl (by kernel_rfl) ?_
      refine ls_off (j := 27) (t := 62) (b := false) (c := true) rfl rfl (by kernel_rfl) (by kernel_rfl) rfl rfl (by kernel_rfl) ?_
      refine ls_off (j := 27) (t := 62) (b := false) (c := true) rfl rfl (by kernel_rfl) (by kernel_rfl) rfl rfl (by kernel_rfl) ?_
      refine ls_val (v := .bool true) rfl rfl (by kernel_rfl) (fun w => by kernel_rfl) ?_
      refine ls_val (v := .bool true) rfl rfl (by kernel_rfl) (fun w => by kernel_rfl) ?_
      refine ls_off (j := 32) (t := 67) (b := false) (c := true) rfl rfl (by kernel_rfl) (by kernel_rfl) rfl rfl (by kernel_rfl) ?_
      refine ls_off (j := 32) (t := 67) (b := false) (c := true) rfl rfl (by kernel_rfl) (by kernel_rfl) rfl rfl (by kernel_rfl) ?_
      refine ls_off (j := 32) (t := 67) (b := false) (c := true) rfl rfl (by kernel_rfl) (by kernel_rfl) rfl rfl (by kernel_rfl) ?_
      refine ls_val (v := .bool true) rfl rfl (by kernel_rfl) (fun w => by kernel_rfl) ?_
      refine ls_end ?_
      refine qn_then ?_
      refine cs_true (by kernel_rfl) ?_
      refine cs_seq ?_
      refine cs_region (l := [_]) ?_
      refine ls_val (v := .bool false) rfl rfl (by kernel_rfl) (fun w => by kernel_rfl) ?_
      refine ls_end ?_
      refine qn_then ?_
      refine cs_ret' ?_
      refine qr_block ?_
      refine qr_then ?_
      refine qr_then ?_
      refine qr_block ?_
      refine qr_then ?_
      obtain rfl := Option.some.inj H
      refine qr_res (rs := [_]) rfl (fun w' hs => ⟨[.bool false], (res_tmp (by kernel_rfl) (.nil)), (), rfl, hs.pick (ts := []) (cs := []) trivial (by decide)⟩)
  · replace H := ite_f q15 H
    refine ls_know (c := true) (congrArg Bool.not (dec_f q15)) 38 (by kernel_rfl) ?_
    refine ls_off (j := 3) (t := 38) (b := false) (c := true) rfl rfl (by kernel_rfl) (by kernel_rfl) rfl rfl (by kernel_rfl) ?_
    refine ls_off (j := 3) (t := 38) (b := false) (c := true) rfl rfl (by kernel_rfl) (by kernel_rfl) rfl rfl (by kernel_rfl) ?_
    refine ls_val (v := .bool true) rfl rfl (by kernel_rfl) (fun w => by kernel_rfl) ?_
    refine ls_val (v := .bool true) rfl rfl (by kernel_rfl) (fun w => by kernel_rfl) ?_
    refine ls_off (j := 7) (t := 42) (b := false) (c := true) rfl rfl (by kernel_rfl) (by kernel_rfl) rfl rfl (by kernel_rfl) ?_
    refine ls_off (j := 7) (t := 42) (b := false) (c := true) rfl rfl (by kernel_rfl) (by kernel_rfl) rfl rfl (by kernel_rfl) ?_
    refine ls_val (v := .bool true) rfl rfl (by kernel_rfl) (fun w => by kernel_rfl) ?_
    refine ls_val (v := .bool true) rfl rfl (by kernel_rfl) (fun w => by kernel_rfl) ?_
    refine ls_off (j := 11) (t := 46) (b := false) (c := true) rfl rfl (by kernel_rfl) (by kernel_rfl) rfl rfl (by kernel_rfl) ?_
    refine ls_off (j := 11) (t := 46) (b := false) (c := true) rfl rfl (by kernel_rfl) (by kernel_rfl) rfl rfl (by kernel_rfl) ?_
    refine ls_val (v := .bool true) rfl rfl (by kernel_rfl) (fun w => by kernel_rfl) ?_
    refine ls_val (v := .bool true) rfl rfl (by kernel_rfl) (fun w => by kernel_rfl) ?_
    refine ls_off (j := 15) (t := 50) (b := false) (c := true) rfl rfl (by kernel_rfl) (by kernel_rfl) rfl rfl (by kernel_rfl) ?_
    refine ls_off (j := 15) (t := 50) (b := false) (c := true) rfl rfl (by kernel_rfl) (by kernel_rfl) rfl rfl (by kernel_rfl) ?_
    refine ls_off (j := 15) (t := 50) (b := false) (c := true) rfl rfl (by kernel_rfl) (by kernel_rfl) rfl rfl (by kernel_rfl) ?_
    refine ls_off (j := 15) (t := 50) (b := false) (c := true) rfl rfl (by kernel_rfl) (by kernel_rfl) rfl rfl (by kernel_rfl) ?_
    refine ls_off (j := 15) (t := 50) (b := false) (c := true) rfl rfl (by kernel_rfl) (by kernel_rfl) rfl rfl (by kernel_rfl) ?_
    refine ls_val (v := .bool true) rfl rfl (by kernel_rfl) (fun w => by kernel_rfl) ?_
    refine ls_val (v := .bool true) rfl rfl (by kernel_rfl) (fun w => by kernel_rfl) ?_
    refine ls_off (j := 22) (t := 57) (b := false) (c := true) rfl rfl (by kernel_rfl) (by kernel_rfl) rfl rfl (by kernel_rfl) ?_
    refine ls_off (j := 22) (t := 57) (b := false) (c := true) rfl rfl (by kernel_rfl) (by kernel_rfl) rfl rfl (by kernel_rfl) ?_
    refine ls_off (j := 22) (t := 57) (b := false) (c := true) rfl rfl (by kernel_rfl) (by kernel_rfl) rfl rfl (by kernel_rfl) ?_
    refine ls_val (v := .bool true) rfl rfl (by kernel_rfl) (fun w => by kernel_rfl) ?_
    refine ls_val (v := .bool true) rfl rfl (by kernel_rfl) (fun w => by kernel_rfl) ?_
    refine ls_off (j := 27) (t := 62) (b := false) (c := true) rfl rfl (by kernel_rfl) (by kernel_rfl) rfl rfl (by kernel_rfl) ?_
    refine ls_off (j := 27) (t := 62) (b := false) (c := true) rfl rfl (by kernel_rfl) (by kernel_rfl) rfl rfl (by kernel_rfl) ?_
    refine ls_off (j := 27) (t := 62) (b := false) (c := true) rfl rfl (by kernel_rfl) (by kernel_rfl) rfl rfl (by kernel_rfl) ?_
    refine ls_val (v := .bool true) rfl rfl (by kernel_rfl) (fun w => by kernel_rfl) ?_
    refine ls_val (v := .bool true) rfl rfl (by kernel_rfl) (fun w => by kernel_rfl) ?_
    refine ls_off (j := 32) (t := 67) (b := false) (c := true) rfl rfl (by kernel_rfl) (by kernel_rfl) rfl rfl (by kernel_rfl) ?_
    refine ls_off (j := 32) (t := 67) (b := false) (c := true) rfl rfl (by kernel_rfl) (by kernel_rfl) rfl rfl (by kernel_rfl) ?_
    refine ls_off (j := 32) (t := 67) (b := false) (c := true) rfl rfl (by kernel_rfl) (by kernel_rfl) rfl rfl (by kernel_rfl) ?_
    refine ls_val (v := .bool true) rfl rfl (by kernel_rfl) (fun w => by kernel_rfl) ?_
    refine ls_end ?_
    refine qn_then ?_
    refine cs_true (by kernel_rfl) ?_
    refine cs_seq ?_
    refine cs_region (l := [_]) ?_
    refine ls_val (v := .bool false) rfl rfl (by kernel_rfl) (fun w => by kernel_rfl) ?_
    refine ls_end ?_
    refine qn_then ?_
    refine cs_ret' ?_
    refine qr_block ?_
    refine qr_then ?_
    refine qr_then ?_
    refine qr_block ?_
    refine qr_then ?_
    obtain rfl := Option.some.inj H
    refine qr_res (rs := [_]) rfl (fun w' hs => ⟨[.bool false], (res_tmp (by kernel_rfl) (.nil)), (), rfl, hs.pick (ts := []) (cs := []) trivial (by decide)⟩)

end Go.Proofs.Ytodfejnjfigkoaa.G
