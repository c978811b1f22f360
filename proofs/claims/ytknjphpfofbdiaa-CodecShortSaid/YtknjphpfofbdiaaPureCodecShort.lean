/- CodecShort: short numbers are laid and read as the document says. -/
import Derived.Test.YtknjphpfofbdiaaSCodecShort
import Derived.Test.YtknjphpfofbdiaaRsh
namespace Go.Proofs.Ytknjphpfofbdiaa.Pure
open Go Go.RowKit Go.Proofs.Ytknjphpfofbdiaa.Sx Go.Proofs.Ytknjphpfofbdiaa.G Go.Proofs.Ytknjphpfofbdiaa.Cod Go.Proofs.Ytknjphpfofbdiaa.Sho Go.Proofs.Ytknjphpfofbdiaa.Rsh
theorem short_300 : codec_Short.f 60 ([] : List Int) (300 : Int) = some [172, 2] := by
  rw [codec_Short_val (g := 2) (by simp) (by decide) (by decide) ⟨by decide, by decide, .inr (by decide)⟩ (by decide) (by decide)]
  rfl
theorem str_300 : strOfNums [172, 2] = (⟨#[172, 2]⟩ : ByteArray) := by rfl
theorem short_core (l : List Int) (a : Int) (hb : Bytes l) (hl : l.length ≤ 140737488351232) (h2000 : (l.length : Int) ≤ 2000) (h0 : 0 ≤ a) (h1 : a < 18446744073709551616) : shadowboxlaw01_CodecShort.f 60 l a = some true := by
  unfold shadowboxlaw01_CodecShort.f
  rw [if_neg (by omega)]
  obtain ⟨K, hR⟩ := run_ex l
  obtain ⟨g, hg10, hg⟩ := gr_ex h0 h1
  rw [codec_ReadShort_val hb hR (by decide), ref_ReadShort_val hb hR (by decide), codec_Short_val (by omega) h0 h1 hg hg10 (by decide), refShort_val (by omega) h0 h1 hg hg10 (by decide)]
  simp only [Option.bind_some, short_300, str_300, beq_self_eq_true, if_true]
theorem CodecShort : S.CodecShort := by
  intro l0 a1 hl hb h2
  have hb := bytes_of hb
  have h2 := wf_u64 h2
  refine ⟨60, ?_⟩
  by_cases h : (l0.length : Int) > 2000
  · have := short_core (l0.take 2000) a1 (hb.take _) (by simp; omega) (by simp; omega) h2.1 h2.2
    unfold shadowboxlaw01_CodecShort.f at this ⊢
    rw [if_neg (by simp; omega)] at this
    rw [if_pos h, if_pos (by omega)]
    exact this
  · exact short_core l0 a1 hb (by omega) (by omega) h2.1 h2.2
end Go.Proofs.Ytknjphpfofbdiaa.Pure
