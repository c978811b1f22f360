/- CodecBack: what is laid is read, whatever stands behind it. -/
import Derived.Test.YtknjphpfofbdiaaSCodecBack
import Derived.Test.YtknjphpfofbdiaaRbk
namespace Go.Proofs.Ytknjphpfofbdiaa.Pure
open Go Go.RowKit Go.Proofs.Ytknjphpfofbdiaa.Sx Go.Proofs.Ytknjphpfofbdiaa.G Go.Proofs.Ytknjphpfofbdiaa.Bt Go.Proofs.Ytknjphpfofbdiaa.Cod Go.Proofs.Ytknjphpfofbdiaa.Sho Go.Proofs.Ytknjphpfofbdiaa.Rsh Go.Proofs.Ytknjphpfofbdiaa.Rbk
theorem and_low {a : Int} (h0 : 0 ≤ a) (h1 : a < 18446744073709551616) (n : Nat) (hn : n ≤ 7) : bits .and .u64 a (256 ^ n - 1) = a % 256 ^ n := by
  obtain ⟨m, rfl⟩ := Int.eq_ofNat_of_zero_le h0
  have e : (256 : Int) ^ n = ((2 ^ (8 * n) : Nat) : Int) := by rw [Nat.pow_mul]; simp
  have hp : 0 < 2 ^ (8 * n) := Nat.pow_pos (by decide)
  have hle : 2 ^ (8 * n) ≤ 2 ^ 64 := Nat.pow_le_pow_right (by decide) (by omega)
  rw [e, show ((2 ^ (8 * n) : Nat) : Int) - 1 = ((2 ^ (8 * n) - 1 : Nat) : Int) by omega, and_u .u64 rfl _ _ (by simp only [IntKind.bits]; omega) (by simp only [IntKind.bits]; omega), Nat.and_two_pow_sub_one_eq_mod]
  simp
theorem one_shl (n : Nat) (hn : n ≤ 7) : shlv .u64 (1 : Int) (8 * (n : Int)) = 256 ^ n := by
  have : n = 0 ∨ n = 1 ∨ n = 2 ∨ n = 3 ∨ n = 4 ∨ n = 5 ∨ n = 6 ∨ n = 7 := by omega
  rcases this with rfl | rfl | rfl | rfl | rfl | rfl | rfl | rfl <;> decide
theorem take_fix {a0 : Int} (h0 : 0 ≤ a0) (m : List Int) (n : Nat) (h1 : 1 ≤ n) (h8 : n ≤ 8) : takeS (fixS ([] : List Int) (n : Int) [a0] ++ m) (n : Int) = (a0 % 256 ^ n, m, true) := by
  have e : fixS ([] : List Int) (n : Int) [a0] = le n a0 := by
    unfold fixS
    rw [if_neg (by omega), if_neg (by omega)]
    simp
  rw [e]
  unfold takeS
  simp only [Int.toNat_natCast]
  rw [if_neg (by omega), if_neg (by omega), if_neg (by rw [List.length_append, le_length]; omega), List.take_append_of_le_length (by rw [le_length]; omega), List.take_of_length_le (by rw [le_length]; omega), val_le _ _ h0, List.drop_append_of_le_length (by rw [le_length]; omega), List.drop_of_length_le (by rw [le_length]; omega), List.nil_append]
theorem fix_bytes (a0 : Int) (n : Int) : Bytes (fixS ([] : List Int) n [a0]) := by
  unfold fixS
  split
  · exact Bytes.nil
  · split
    · exact Bytes.nil
    · simp only [List.nil_append, List.flatMap_cons, List.flatMap_nil, List.append_nil]
      exact le_bytes _ _
theorem fix_len (a0 : Int) (n : Int) : (fixS ([] : List Int) n [a0]).length ≤ 8 := by
  unfold fixS
  split
  · simp
  · split
    · simp
    · simp [le_length]; omega
theorem back_step {a0 : Int} {a1 : ByteArray} {l2 : List Int} (h0 : 0 ≤ a0) (h64 : a0 < 18446744073709551616) (hb : Bytes l2) (hl : l2.length ≤ 3000) (n : Nat) (h1 : 1 ≤ n) (h8 : n ≤ 8) {k : Nat} (hk : 20 ≤ k) :
    shadowboxlaw01_CodecBack.l1 a0 a1 l2 (k + 1) (n : Int) = shadowboxlaw01_CodecBack.l1 a0 a1 l2 k ((n + 1 : Nat) : Int) := by
  rw [shadowboxlaw01_CodecBack.l1]
  have hf := fix_len a0 n
  rw [if_pos (by omega), codec_Fixed_val (by simp) _ (by simp; omega)]
  simp only [Option.bind_some]
  rw [if_pos (by omega), codec_Take_val ((fix_bytes a0 n).append hb) (by rw [List.length_append]; omega) _ (by omega), take_fix h0 l2 n h1 h8]
  simp only [Option.bind_some, lt, beq_self_eq_true, if_true]
  rw [wi64 (n := (n : Int) + 1) (by omega) (by omega), show (n : Int) + 1 = ((n + 1 : Nat) : Int) by omega]
  by_cases h : (n : Int) < 8
  · rw [if_pos h, wi64 (by omega) (by omega), wu64, show 8 * (n : Int) % 18446744073709551616 = 8 * (n : Int) by omega, if_pos (by omega), one_shl n (by omega), wu64]
    have hp : (0 : Int) < 256 ^ n := Int.pow_pos (by decide)
    have := pow_le h8
    rw [show ((256 : Int) ^ n - 1) % 18446744073709551616 = 256 ^ n - 1 by omega, and_low h0 h64 n (by omega), if_pos rfl]
  · rw [if_neg h]
    have : n = 8 := by omega
    subst this
    have h256 : (256 : Int) ^ 8 = 18446744073709551616 := by decide
    rw [h256, if_pos (by omega)]
theorem back_end {a0 : Int} {a1 : ByteArray} {l2 : List Int} (h0 : 0 ≤ a0) (h64 : a0 < 18446744073709551616) (hb : Bytes l2) (hl : a1.size + l2.length ≤ 3000) {k : Nat} (hk : 20 ≤ k) :
    shadowboxlaw01_CodecBack.l1 a0 a1 l2 (k + 1) ((9 : Nat) : Int) = some true := by
  rw [shadowboxlaw01_CodecBack.l1]
  obtain ⟨g, hg10, hg⟩ := gr_ex h0 h64
  obtain ⟨g2, hg102, hg2⟩ := gr_ex (v := (a1.size : Int)) (by omega) (by omega)
  have hg1 := hg.1
  have hg21 := hg2.1
  have hs := sh_bytes (g - 1) a0 h0 (by rw [show g - 1 + 1 = g by omega]; exact hg.2.1)
  have hs2 := sh_bytes (g2 - 1) (a1.size : Int) (by omega) (by rw [show g2 - 1 + 1 = g2 by omega]; exact hg2.2.1)
  have hn : (sh (g - 1) a0).length = g := by rw [sh_length]; omega
  have hn2 : (sh (g2 - 1) (a1.size : Int)).length = g2 := by rw [sh_length]; omega
  have hbl := bl_length a1
  rw [if_neg (by omega), codec_Short_val (by simp) h0 h64 hg hg10 (by omega)]
  simp only [Option.bind_some, List.nil_append]
  rw [if_pos (by omega), codec_ReadShort_val (hs.append hb) (sh_run h0 hg hg10 l2) (by omega), sh_rd h0 h64 hg hg10, codec_Text_val (by simp; omega) hg2 hg102 (by omega)]
  simp only [Option.bind_some, List.nil_append, if_true]
  rw [if_pos (by simp; omega), if_pos (by simp; omega), List.append_assoc, codec_ReadText_val (K := g2 - 1) (hs2.append ((bl_bytes a1).append hb)) (by simp; omega) (sh_run (by omega) hg2 hg102 _) (by omega) (by omega)]
  have e : ((sh (g2 - 1) (a1.size : Int) ++ (bl a1 ++ l2)).take ((g2 : Int) + (a1.size : Int)).toNat).drop (g2 : Int).toNat = bl a1 := by
    rw [show ((g2 : Int) + (a1.size : Int)).toNat = g2 + a1.size by omega, Int.toNat_natCast, List.take_append, hn2, List.drop_append_of_le_length (by simp; omega)]
    rw [List.drop_of_length_le (by simp; omega), List.nil_append, show g2 + a1.size - g2 = a1.size by omega, List.take_append_of_le_length (by omega), List.take_of_length_le (by omega)]
  have hrt : rtS (sh (g2 - 1) (a1.size : Int) ++ (bl a1 ++ l2)) (g2 - 1) (a1.size : Int) = (a1, (g2 : Int) + (a1.size : Int), 0) := by
    unfold rtS
    rw [sh_rd (by omega) (by omega) hg2 hg102]
    simp only
    rw [if_pos True.intro, if_neg (by omega), if_neg (by omega), if_neg (by simp; omega), e, str_bl]
  rw [hrt]
  simp [hn, hn2, hbl]
  omega
theorem CodecBack : S.CodecBack := by
  intro a0 a1 l2 h1 hs hl hb
  have hb := bytes_of hb
  have h1 := wf_u64 h1
  refine ⟨60, ?_⟩
  unfold shadowboxlaw01_CodecBack.f
  simp only [lt]
  rw [wi64 (by omega) (by omega)]
  by_cases h : (a1.size : Int) + (l2.length : Int) > 3000
  · rw [if_pos h]
  · rw [if_neg h]
    have s1 := back_step (a1 := a1) h1.1 h1.2 hb (by omega) 1 (by omega) (by omega) (k := 59) (by omega)
    have s2 := back_step (a1 := a1) h1.1 h1.2 hb (by omega) 2 (by omega) (by omega) (k := 58) (by omega)
    have s3 := back_step (a1 := a1) h1.1 h1.2 hb (by omega) 3 (by omega) (by omega) (k := 57) (by omega)
    have s4 := back_step (a1 := a1) h1.1 h1.2 hb (by omega) 4 (by omega) (by omega) (k := 56) (by omega)
    have s5 := back_step (a1 := a1) h1.1 h1.2 hb (by omega) 5 (by omega) (by omega) (k := 55) (by omega)
    have s6 := back_step (a1 := a1) h1.1 h1.2 hb (by omega) 6 (by omega) (by omega) (k := 54) (by omega)
    have s7 := back_step (a1 := a1) h1.1 h1.2 hb (by omega) 7 (by omega) (by omega) (k := 53) (by omega)
    have s8 := back_step (a1 := a1) h1.1 h1.2 hb (by omega) 8 (by omega) (by omega) (k := 52) (by omega)
    have s9 := back_end (a1 := a1) h1.1 h1.2 hb (by omega) (k := 51) (by omega)
    exact s1.trans (s2.trans (s3.trans (s4.trans (s5.trans (s6.trans (s7.trans (s8.trans s9)))))))
end Go.Proofs.Ytknjphpfofbdiaa.Pure
