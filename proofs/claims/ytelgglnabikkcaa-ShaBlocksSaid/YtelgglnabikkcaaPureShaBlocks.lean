/- The pure statement of ShaBlocks; no condition. -/
import Derived.Test.YtelgglnabikkcaaSShaBlocks
import Derived.Test.YtelgglnabikkcaaSht
set_option linter.unusedVariables false
namespace Go.Proofs.Ytelgglnabikkcaa.Pure
open Go Go.RowKit Go.Proofs.Ytelgglnabikkcaa.Sx Go.Proofs.Ytelgglnabikkcaa.G Go.Proofs.Ytelgglnabikkcaa.Bt Go.Proofs.Ytelgglnabikkcaa.Sha
theorem blocks_one {s : Vc Int 8 × Int} (hs : Wf s) {a : Vc Int 64} (ha : By a.1) {l : List Int} (hb : By l) (hl : l.length ≤ 100) : shadowboxlaw03_ShaBlocks.jo1 1000 s a l = some true := by
  unfold shadowboxlaw03_ShaBlocks.jo1
  have h64 : a.1.length = 64 := a.2
  rw [show shadowboxref03_Keys.f 1000 = some sha_keys.cst0 from keys_eq 600, show shadowboxref03_Begin.f 1000 = some (sha_Begin.cst0, 0) from begin_eq 600, Block_val hs ha (by omega), End_val hs hb (by omega) (by omega)]
  simp only [Option.bind_some]
  rw [refBlock_val s ha (by omega) (by omega) (by omega), rEnd_val hb (by omega) (by omega)]
  simp [sha_Begin.f]
theorem ShaBlocks : S.ShaBlocks := by
  intro s a l hs ha hl hw
  refine ⟨1000, ?_⟩
  have hb := lwf hw
  have hS : Wf s := by
    obtain ⟨h1, h2⟩ := hs
    simp only [Lit.wf, IntKind.min, IntKind.max, IntKind.signed, IntKind.bits, Bool.and_eq_true] at h2
    simp at h2
    refine ⟨fun x hx => ?_, by omega, by omega⟩
    have := h1 x hx
    simp only [Lit.wf, IntKind.min, IntKind.max, IntKind.signed, IntKind.bits, Bool.and_eq_true] at this
    simp at this
    unfold U32
    omega
  unfold shadowboxlaw03_ShaBlocks.f
  by_cases h : (l.length : Int) > 100
  · rw [if_pos h, if_pos (by omega)]
    simp only [lt]
    exact blocks_one hS (lwf ha) (hb.take _) (by simp; omega)
  · rw [if_neg h]
    exact blocks_one hS (lwf ha) hb (by omega)
end Go.Proofs.Ytelgglnabikkcaa.Pure
