/- The pure statement of PointerChecks; no condition. -/
import Derived.Test.YtnjijflgafghmaaSPointerChecks
import Derived.Test.YtnjijflgafghmaaPtc
set_option linter.unusedVariables false
set_option linter.unusedSimpArgs false
namespace Go.Proofs.Ytnjijflgafghmaa.Pure
open Go Go.RowKit Go.Proofs.Ytnjijflgafghmaa.Sx Go.Proofs.Ytnjijflgafghmaa.G Go.Proofs.Ytnjijflgafghmaa.Bt Go.Proofs.Ytnjijflgafghmaa.Cod Go.Proofs.Ytnjijflgafghmaa.Ptr
theorem pchecks_one {a : Pt} {b : Int} {l : List Int} (hb : Bytes l) (hl : l.length ≤ 1000) : shadowboxlaw06_PointerChecks.jo1 200000 a b l = some true := by
  unfold shadowboxlaw06_PointerChecks.jo1
  rw [Of_val _ _ hb (by omega) (by omega), rOf_val _ _ hb (by omega) (by omega), Check_val _ hb (by omega) (by omega), rCheck_val _ hb (by omega) (by omega)]
  simp only [Option.bind_some]
  rw [Check_val _ hb (by omega) (by omega), rCheck_val _ hb (by omega) (by omega)]
  simp
theorem PointerChecks : S.PointerChecks := by
  intro a b l ha hb0 hl hw
  refine ⟨200000, ?_⟩
  have hb := bytes_of hw
  unfold shadowboxlaw06_PointerChecks.f
  by_cases h : (l.length : Int) > 1000
  · rw [if_pos h, if_pos (by omega)]
    simp only [lt]
    exact pchecks_one (hb.take _) (by simp; omega)
  · rw [if_neg h]
    exact pchecks_one hb (by omega)
end Go.Proofs.Ytnjijflgafghmaa.Pure
