/- CodecOne: bytes that are a short number are laid again as they were; with a byte less they are none. -/
import Derived.Test.YtknjphpfofbdiaaSCodecOne
import Derived.Test.YtknjphpfofbdiaaRbk
namespace Go.Proofs.Ytknjphpfofbdiaa.Pure
open Go Go.RowKit Go.Proofs.Ytknjphpfofbdiaa.Sx Go.Proofs.Ytknjphpfofbdiaa.G Go.Proofs.Ytknjphpfofbdiaa.Bt Go.Proofs.Ytknjphpfofbdiaa.Cod Go.Proofs.Ytknjphpfofbdiaa.Sho Go.Proofs.Ytknjphpfofbdiaa.Rsh Go.Proofs.Ytknjphpfofbdiaa.Rbk
theorem read_five : codec_ReadShort.f 60 ([(5 : Int)]) = some (5, 1, 0) := by
  rw [codec_ReadShort_val (K := 0) (Bytes.cons (by decide) (by decide) Bytes.nil) ⟨fun j hj => by omega, by decide, by decide, .inr (.inr (by decide))⟩ (by decide)]
  rfl
theorem one_core (l : List Int) (hb : Bytes l) (h2000 : (l.length : Int) ≤ 2000) : shadowboxlaw01_CodecOne.f 60 l = some true := by
  unfold shadowboxlaw01_CodecOne.f
  rw [if_neg (by omega)]
  obtain ⟨K, hR⟩ := run_ex l
  rw [codec_ReadShort_val hb hR (by decide), read_five]
  simp only [Option.bind_some]
  rcases rd_cases hb hR with e | e | ⟨h1, h2, h3, h4, h5, h6, e⟩
  · rw [e]; rfl
  · rw [e]; rfl
  · rw [e]
    simp only [lt]
    have hgr := isGr_v7 (l := l) (i := K) h1 (by have := (hb.get h1).1; omega)
    rw [if_pos True.intro, if_neg (by omega), if_neg (by omega), codec_Short_val (by simp) h5 h6 hgr (by omega) (by decide)]
    simp only [Option.bind_some, List.nil_append, Nat.add_sub_cancel]
    rw [sh_v7 K l hb h1 hR.1 h3, if_pos (by omega), if_pos (by omega), show ((K : Int) + 1).toNat = K + 1 by omega, if_pos (by simp), wi64 (by omega) (by omega), if_pos (by omega), if_pos (by omega), show ((K : Int) + 1 - 1).toNat = K by omega]
    have hR' : Run (l.take K) K := ⟨fun j hj => by
      have := hR.1 j hj
      simpa [List.getD_eq_getElem?_getD, hj] using this, by simp; omega, by omega, .inl (by simp; omega)⟩
    rw [codec_ReadShort_val (hb.take K) hR' (by decide)]
    simp only [Option.bind_some]
    unfold rdK
    rw [if_neg (by omega), if_pos (by simp; omega)]
    rfl
theorem CodecOne : S.CodecOne := by
  intro l0 hl hb
  have hb := bytes_of hb
  refine ⟨60, ?_⟩
  by_cases h : (l0.length : Int) > 2000
  · have := one_core (l0.take 2000) (hb.take _) (by simp; omega)
    unfold shadowboxlaw01_CodecOne.f at this ⊢
    rw [if_neg (by simp; omega)] at this
    rw [if_pos h, if_pos (by omega)]
    exact this
  · exact one_core l0 hb (by omega)
end Go.Proofs.Ytknjphpfofbdiaa.Pure
