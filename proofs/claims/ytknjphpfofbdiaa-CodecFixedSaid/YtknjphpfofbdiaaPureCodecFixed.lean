/- CodecFixed: numbers of a size are laid and taken as the document says. -/
import Derived.Test.YtknjphpfofbdiaaSCodecFixed
import Derived.Test.YtknjphpfofbdiaaCod
namespace Go.Proofs.Ytknjphpfofbdiaa.Pure
open Go Go.RowKit Go.Proofs.Ytknjphpfofbdiaa.Sx Go.Proofs.Ytknjphpfofbdiaa.G Go.Proofs.Ytknjphpfofbdiaa.Cod
theorem fixed_two : codec_Fixed.f 60 ([] : List Int) (2 : Int) ([(258 : Int), (1 : Int)]) = some [2, 1, 1, 0] := by
  rw [codec_Fixed_val (by simp) _ (by simp)]
  rfl
theorem two_str : strOfNums [2, 1, 1, 0] = (⟨#[2, 1, 1, 0]⟩ : ByteArray) := by rfl
theorem CodecFixed : S.CodecFixed := by
  intro l0 a1 a2 hl hb h1 h2
  have hb := bytes_of hb
  have h2 := wf_u64 h2
  refine ⟨60, ?_⟩
  unfold shadowboxlaw01_CodecFixed.f
  split
  · rw [if_pos (by omega)]
    simp only [lt]
    rw [codec_Take_val (hb.take _) (by simp; omega) _ (by decide), refTake_val (hb.take _) (by simp; omega) _ (by decide), codec_Fixed_val (by simp; omega) _ (by simp), refFixed_val (by simp; omega) _ _ h2.1 h2.2 (by decide)]
    simp only [Option.bind_some, fixed_two, two_str, beq_self_eq_true, if_true]
  · rw [codec_Take_val hb (by omega) _ (by decide), refTake_val hb (by omega) _ (by decide), codec_Fixed_val (by simp; omega) _ (by simp), refFixed_val (by omega) _ _ h2.1 h2.2 (by decide)]
    simp only [Option.bind_some, fixed_two, two_str, beq_self_eq_true, if_true]
end Go.Proofs.Ytknjphpfofbdiaa.Pure
