/- Printed by a program of this session (sz.py): the kinds of elements; no condition. -/
import Derived.Test.YtnkcadofhhcfaaaSy
namespace Go.Proofs.Ytnkcadofhhcfaaa.G
open Go Go.RowKit Go.Proofs.Ytnkcadofhhcfaaa.Sx

def T7 : Ec (Int × Int × Bool × Int) := ⟨7, fun x => ([Value.int .i64 x.1] ++ ([Value.int .i64 x.2.1] ++ ([Value.bool x.2.2.1] ++ [Value.int .u8 x.2.2.2]))), 4, ((0 : Int), (0 : Int), false, (0 : Int)), fun x => Eq.trans (len_app (len1 _) (len_app (len1 _) (len_app (len1 _) (len1 _)))) (by decide), fun x => (one_app (one_cons rfl one_nil) (one_app (one_cons rfl one_nil) (one_app (one_cons rfl one_nil) (one_cons rfl one_nil)))), by decide⟩
def T8 : Ec (Int × Int × Bool × Int) := ⟨8, fun x => ([Value.int .i64 x.1] ++ ([Value.int .i64 x.2.1] ++ ([Value.bool x.2.2.1] ++ [Value.int .u8 x.2.2.2]))), 4, ((0 : Int), (0 : Int), false, (0 : Int)), fun x => Eq.trans (len_app (len1 _) (len_app (len1 _) (len_app (len1 _) (len1 _)))) (by decide), fun x => (one_app (one_cons rfl one_nil) (one_app (one_cons rfl one_nil) (one_app (one_cons rfl one_nil) (one_cons rfl one_nil)))), by decide⟩
def T13 : Ec (ByteArray × Int) := ⟨13, fun x => ([Value.string x.1] ++ [Value.int .u64 x.2]), 2, (ByteArray.empty, (0 : Int)), fun x => Eq.trans (len_app (len1 _) (len1 _)) (by decide), fun x => (one_app (one_cons rfl one_nil) (one_cons rfl one_nil)), by decide⟩
def T14 : Ec (ByteArray × Int) := ⟨14, fun x => ([Value.string x.1] ++ [Value.int .u64 x.2]), 2, (ByteArray.empty, (0 : Int)), fun x => Eq.trans (len_app (len1 _) (len1 _)) (by decide), fun x => (one_app (one_cons rfl one_nil) (one_cons rfl one_nil)), by decide⟩
def T23 : Ec (Vc Int 32) := ⟨23, fun x => en (Value.int .u8) x.1, 32, (vrep 32 (0 : Int)), fun x => Eq.trans (len_en _ x) (by decide), fun x => (one_en (fun _ => rfl) _), by decide⟩
def T39 : Ec (Vc Int 64) := ⟨39, fun x => en (Value.int .u8) x.1, 64, (vrep 64 (0 : Int)), fun x => Eq.trans (len_en _ x) (by decide), fun x => (one_en (fun _ => rfl) _), by decide⟩
def T49 : Ec (Vc Int 8) := ⟨49, fun x => en (Value.int .u32) x.1, 8, (vrep 8 (0 : Int)), fun x => Eq.trans (len_en _ x) (by decide), fun x => (one_en (fun _ => rfl) _), by decide⟩
def T51 : Ec ((Vc Int 8) × Int) := ⟨51, fun x => (en (Value.int .u32) x.1.1 ++ [Value.int .u64 x.2]), 9, ((vrep 8 (0 : Int)), (0 : Int)), fun x => Eq.trans (len_app (len_en _ x.1) (len1 _)) (by decide), fun x => (one_app (one_en (fun _ => rfl) _) (one_cons rfl one_nil)), by decide⟩
def T52 : Ec ((Vc Int 8) × Int) := ⟨52, fun x => (en (Value.int .u32) x.1.1 ++ [Value.int .u64 x.2]), 9, ((vrep 8 (0 : Int)), (0 : Int)), fun x => Eq.trans (len_app (len_en _ x.1) (len1 _)) (by decide), fun x => (one_app (one_en (fun _ => rfl) _) (one_cons rfl one_nil)), by decide⟩
def T55 : Ec (Vc Int 64) := ⟨55, fun x => en (Value.int .u32) x.1, 64, (vrep 64 (0 : Int)), fun x => Eq.trans (len_en _ x) (by decide), fun x => (one_en (fun _ => rfl) _), by decide⟩
def T57 : Ec ((Vc Int 8) × Int) := ⟨57, fun x => (en (Value.int .u32) x.1.1 ++ [Value.int .u64 x.2]), 9, ((vrep 8 (0 : Int)), (0 : Int)), fun x => Eq.trans (len_app (len_en _ x.1) (len1 _)) (by decide), fun x => (one_app (one_en (fun _ => rfl) _) (one_cons rfl one_nil)), by decide⟩
end Go.Proofs.Ytnkcadofhhcfaaa.G
