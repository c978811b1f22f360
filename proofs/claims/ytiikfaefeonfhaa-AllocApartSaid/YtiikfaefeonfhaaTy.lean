/- Printed by a program of this session (sz.py): the kinds of elements; no condition. -/
import Derived.Test.YtiikfaefeonfhaaSf
namespace Go.Proofs.Ytiikfaefeonfhaa.G
open Go Go.RowKit Go.Proofs.Ytiikfaefeonfhaa.Sx

def T7 : Ec (Int × Int × Bool × Int) := ⟨7, fun x => ([Value.int .i64 x.1] ++ ([Value.int .i64 x.2.1] ++ ([Value.bool x.2.2.1] ++ [Value.int .u8 x.2.2.2]))), 4, ((0 : Int), (0 : Int), false, (0 : Int)), fun x => Eq.trans (len_app (len1 _) (len_app (len1 _) (len_app (len1 _) (len1 _)))) (by decide), fun x => (one_app (one_cons rfl one_nil) (one_app (one_cons rfl one_nil) (one_app (one_cons rfl one_nil) (one_cons rfl one_nil)))), by decide⟩
def T8 : Ec (Int × Int × Bool × Int) := ⟨8, fun x => ([Value.int .i64 x.1] ++ ([Value.int .i64 x.2.1] ++ ([Value.bool x.2.2.1] ++ [Value.int .u8 x.2.2.2]))), 4, ((0 : Int), (0 : Int), false, (0 : Int)), fun x => Eq.trans (len_app (len1 _) (len_app (len1 _) (len_app (len1 _) (len1 _)))) (by decide), fun x => (one_app (one_cons rfl one_nil) (one_app (one_cons rfl one_nil) (one_app (one_cons rfl one_nil) (one_cons rfl one_nil)))), by decide⟩
def T13 : Ec (ByteArray × Int) := ⟨13, fun x => ([Value.string x.1] ++ [Value.int .u64 x.2]), 2, (ByteArray.empty, (0 : Int)), fun x => Eq.trans (len_app (len1 _) (len1 _)) (by decide), fun x => (one_app (one_cons rfl one_nil) (one_cons rfl one_nil)), by decide⟩
def T14 : Ec (ByteArray × Int) := ⟨14, fun x => ([Value.string x.1] ++ [Value.int .u64 x.2]), 2, (ByteArray.empty, (0 : Int)), fun x => Eq.trans (len_app (len1 _) (len1 _)) (by decide), fun x => (one_app (one_cons rfl one_nil) (one_cons rfl one_nil)), by decide⟩
def T23 : Ec (Int × Int) := ⟨23, fun x => ([Value.int .i64 x.1] ++ [Value.int .i64 x.2]), 2, ((0 : Int), (0 : Int)), fun x => Eq.trans (len_app (len1 _) (len1 _)) (by decide), fun x => (one_app (one_cons rfl one_nil) (one_cons rfl one_nil)), by decide⟩
def T24 : Ec (Int × Int) := ⟨24, fun x => ([Value.int .i64 x.1] ++ [Value.int .i64 x.2]), 2, ((0 : Int), (0 : Int)), fun x => Eq.trans (len_app (len1 _) (len1 _)) (by decide), fun x => (one_app (one_cons rfl one_nil) (one_cons rfl one_nil)), by decide⟩
def T31 : Ec (Int × Int) := ⟨31, fun x => ([Value.int .i64 x.1] ++ [Value.int .i64 x.2]), 2, ((0 : Int), (0 : Int)), fun x => Eq.trans (len_app (len1 _) (len1 _)) (by decide), fun x => (one_app (one_cons rfl one_nil) (one_cons rfl one_nil)), by decide⟩
def T42 : Ec (Vc Int 3) := ⟨42, fun x => en (Value.int .i64) x.1, 3, (vrep 3 (0 : Int)), fun x => Eq.trans (len_en _ x) (by decide), fun x => (one_en (fun _ => rfl) _), by decide⟩
def T72 : Ec (Vc (Int × Int) 2) := ⟨72, fun x => em T24 x.1, 4, (vrep 2 ((0 : Int), (0 : Int))), fun x => Eq.trans (len_em T24 x) (by decide), fun x => (em_one T24 _), by decide⟩
end Go.Proofs.Ytiikfaefeonfhaa.G
