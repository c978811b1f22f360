/- CodecTexts: texts are laid and read as the document says; Zig is the document's. -/
import Derived.Test.YtknjphpfofbdiaaSCodecTexts
import Derived.Test.YtknjphpfofbdiaaRbk
namespace Go.Proofs.Ytknjphpfofbdiaa.Pure
open Go Go.RowKit Go.Proofs.Ytknjphpfofbdiaa.Sx Go.Proofs.Ytknjphpfofbdiaa.G Go.Proofs.Ytknjphpfofbdiaa.Bt Go.Proofs.Ytknjphpfofbdiaa.Cod Go.Proofs.Ytknjphpfofbdiaa.Sho Go.Proofs.Ytknjphpfofbdiaa.Rsh Go.Proofs.Ytknjphpfofbdiaa.Rbk
theorem CodecTexts : S.CodecTexts := by
  intro l0 a1 a2 hl hb hs h2
  have hb := bytes_of hb
  have h2 := wf_i64 h2
  refine ⟨60, ?_⟩
  unfold shadowboxlaw01_CodecTexts.f
  simp only [lt]
  rw [wi64 (by omega) (by omega)]
  by_cases h : (l0.length : Int) + (a1.size : Int) > 3000
  · rw [if_pos h]
  · rw [if_neg h]
    obtain ⟨K, hR⟩ := run_ex l0
    obtain ⟨g, hg10, hg⟩ := gr_ex (v := (a1.size : Int)) (by omega) (by omega)
    rw [codec_ReadText_val hb (by omega) hR h2 (by decide), ref_ReadText_val hb (by omega) hR h2 (by decide), codec_Text_val (by omega) hg hg10 (by decide), ref_Text_val (by omega) hg hg10 (by decide), zig_val h2, refZig_val h2, zig_val (by omega)]
    simp
end Go.Proofs.Ytknjphpfofbdiaa.Pure
