/- Printed by a program of this session (sz.py): the kinds of elements; no condition. -/
import Derived.Test.YtodfejnjfigkoaaSe
import Derived.Test.YtodfejnjfigkoaaSo
namespace Go.Proofs.Ytodfejnjfigkoaa.G
open Go Go.RowKit Go.Proofs.Ytodfejnjfigkoaa.Sx

def T7 : Ec (Int × Int × Bool × Int) := ⟨7, fun x => ([Value.int .i64 x.1] ++ ([Value.int .i64 x.2.1] ++ ([Value.bool x.2.2.1] ++ [Value.int .u8 x.2.2.2]))), 4, ((0 : Int), (0 : Int), false, (0 : Int)), fun x => Eq.trans (len_app (len1 _) (len_app (len1 _) (len_app (len1 _) (len1 _)))) (by decide), fun x => (one_app (one_cons rfl one_nil) (one_app (one_cons rfl one_nil) (one_app (one_cons rfl one_nil) (one_cons rfl one_nil)))), by decide⟩
def T8 : Ec (Int × Int × Bool × Int) := ⟨8, fun x => ([Value.int .i64 x.1] ++ ([Value.int .i64 x.2.1] ++ ([Value.bool x.2.2.1] ++ [Value.int .u8 x.2.2.2]))), 4, ((0 : Int), (0 : Int), false, (0 : Int)), fun x => Eq.trans (len_app (len1 _) (len_app (len1 _) (len_app (len1 _) (len1 _)))) (by decide), fun x => (one_app (one_cons rfl one_nil) (one_app (one_cons rfl one_nil) (one_app (one_cons rfl one_nil) (one_cons rfl one_nil)))), by decide⟩
def T13 : Ec (ByteArray × Int) := ⟨13, fun x => ([Value.string x.1] ++ [Value.int .u64 x.2]), 2, (ByteArray.empty, (0 : Int)), fun x => Eq.trans (len_app (len1 _) (len1 _)) (by decide), fun x => (one_app (one_cons rfl one_nil) (one_cons rfl one_nil)), by decide⟩
def T14 : Ec (ByteArray × Int) := ⟨14, fun x => ([Value.string x.1] ++ [Value.int .u64 x.2]), 2, (ByteArray.empty, (0 : Int)), fun x => Eq.trans (len_app (len1 _) (len1 _)) (by decide), fun x => (one_app (one_cons rfl one_nil) (one_cons rfl one_nil)), by decide⟩
def T43 : Ec (Vc Int 2) := ⟨43, fun x => en (Value.int .u8) x.1, 2, (vrep 2 (0 : Int)), fun x => Eq.trans (len_en _ x) (by decide), fun x => (one_en (fun _ => rfl) _), by decide⟩
def T47 : Ec (Vc Int 512) := ⟨47, fun x => en (Value.int .u8) x.1, 512, (vrep 512 (0 : Int)), fun x => Eq.trans (len_en _ x) (by decide), fun x => (one_en (fun _ => rfl) _), by decide⟩
def T48 : Ec (Vc Int 512) := ⟨48, fun x => en (Value.int .u8) x.1, 512, (vrep 512 (0 : Int)), fun x => Eq.trans (len_en _ x) (by decide), fun x => (one_en (fun _ => rfl) _), by decide⟩
end Go.Proofs.Ytodfejnjfigkoaa.G
