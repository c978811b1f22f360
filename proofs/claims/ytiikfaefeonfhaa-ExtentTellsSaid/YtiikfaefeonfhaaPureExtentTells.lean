/- The pure statement of ExtentTells; no condition. -/
import Derived.Test.YtiikfaefeonfhaaSExtentTells
import Derived.Test.YtiikfaefeonfhaaExm
import Derived.Test.YtiikfaefeonfhaaExr
set_option linter.unusedVariables false
set_option linter.unusedSimpArgs false
namespace Go.Proofs.Ytiikfaefeonfhaa.Pure
open Go Go.RowKit Go.Proofs.Ytiikfaefeonfhaa.Sx Go.Proofs.Ytiikfaefeonfhaa.G Go.Proofs.Ytiikfaefeonfhaa.Bt Go.Proofs.Ytiikfaefeonfhaa.Ext Go.Proofs.Ytiikfaefeonfhaa.Exv Go.Proofs.Ytiikfaefeonfhaa.Exm Go.Proofs.Ytiikfaefeonfhaa.Exr

theorem one_eq : addV [((2 : Int), (5 : Int))] ((5 : Int), (7 : Int)) = [((2 : Int), (7 : Int))] := by decide +kernel
theorem jo1_val {l : List Sp} (s : Sp) (n : Int) (hl : l.length ≤ 500) : shadowboxlaw09_ExtentTells.jo1 3000 s n l = some true := by
  have ha := addV_len l s
  have hr := remV_len l s
  unfold shadowboxlaw09_ExtentTells.jo1
  rw [own_val (by omega) (by omega), Option.bind_some, Add_val (l := [((2 : Int), (5 : Int))]) (by simp) (by simp), one_eq, Option.bind_some,
    Add_val (l := l) (by omega) (by omega), Option.bind_some, rAdd_val (by omega) (by omega), Option.bind_some, same_val (by omega) (by omega), Option.bind_some, if_pos (show true = true from rfl),
    Remove_val (by omega) (by omega), Option.bind_some, rRemove_val (by omega) (by omega), Option.bind_some, same_val (by omega) (by omega), Option.bind_some, if_pos (show true = true from rfl),
    Has_val (by omega) (by omega), Option.bind_some, rHas_val (by omega) (by omega), Option.bind_some, if_pos (by simp),
    Meets_val (by omega) (by omega), Option.bind_some, rMeets_val (by omega) (by omega), Option.bind_some, if_pos (by simp),
    Valid_val (by omega) (by omega), Option.bind_some, rValid_val (by omega) (by omega), Option.bind_some, if_pos (by simp),
    Total_val (by omega) (by omega), Option.bind_some, rTotal_val (by omega) (by omega), Option.bind_some, if_pos (show totV l = totV l from rfl),
    Find_val (by omega) (by omega), Option.bind_some, rFind_val (by omega) (by omega), Option.bind_some, if_pos (show fndV l n = fndV l n from rfl)]
  rfl
theorem ExtentTells : S.ExtentTells := by
  intro l s n hl hw hs hn
  refine ⟨3000, ?_⟩
  unfold shadowboxlaw09_ExtentTells.f
  split
  · rw [if_pos (by omega)]
    exact jo1_val s n (by simp; omega)
  · exact jo1_val s n (by omega)
end Go.Proofs.Ytiikfaefeonfhaa.Pure
