/- CodecZags: Zag of Zig is the number and Zig of Zag is the number; Zig of a number is odd just where the number is below 0; Zig(3) is 6 and Zag(5) is -3: for every int and every uint64. -/
import Derived.Test.YtknjphpfofbdiaaPCodecZagsx1
import Derived.Test.YtknjphpfofbdiaaBits
namespace Go.Proofs.Ytknjphpfofbdiaa.Pure
open Go.RowKit Go.Proofs.Ytknjphpfofbdiaa.PCodecZags Go.Proofs.YtknjphpfofbdiaaW.PrintWords Go.Proofs.YtknjphpfofbdiaaW.PrintLast

theorem zig_val (n : Int) (h0 : -9223372036854775808 ≤ n) (h1 : n < 9223372036854775808) : codec_Zig.f n = some (if 0 ≤ n then 2 * n else -2 * n - 1) := by
  unfold codec_Zig.f
  congr 1
  by_cases h : 0 ≤ n
  · rw [if_pos h, show n / 9223372036854775808 = 0 by omega, Bt.wu64 n, Bt.wu64 0, Bt.wu64]
    rw [show (0 : Int) % 18446744073709551616 = 0 by decide, Bt.xor_u64_zero _ (by omega) (by omega)]
    omega
  · rw [if_neg h, show n / 9223372036854775808 = -1 by omega, Bt.wu64 n, Bt.wu64 (-1), Bt.wu64]
    rw [show (-1 : Int) % 18446744073709551616 = 18446744073709551615 by decide, Bt.xor_u64_ones _ (by omega) (by omega)]
    omega

theorem zag_val (u : Int) (h0 : 0 ≤ u) (h1 : u < 18446744073709551616) : codec_Zag.f u = some (if u % 2 = 0 then u / 2 else -(u / 2) - 1) := by
  unfold codec_Zag.f
  congr 1
  rw [Bt.and_u64_one u h0 h1, Bt.w64 (u / 2) (by omega) (by omega), Bt.w64 (u % 2) (by omega) (by omega), Bt.w64 (-(u % 2)) (by omega) (by omega)]
  by_cases h : u % 2 = 0
  · rw [if_pos h, h]
    exact Bt.xor_i64_zero _ (by omega) (by omega)
  · rw [if_neg h, show u % 2 = 1 by omega, Bt.xor_i64_ones _ (by omega) (by omega)]
    omega

theorem CodecZags : shadowboxlaw01_CodecZags.Pure := by
  intro n u hn hu
  simp only [Lit.wf, IntKind.min, IntKind.max, IntKind.signed, IntKind.bits, Bool.and_eq_true, decide_eq_true_eq] at hn hu
  simp at hn hu
  unfold shadowboxlaw01_CodecZags.f
  rw [zig_val n (by omega) (by omega)]
  simp only [Option.bind_some]
  have hz0 : 0 ≤ (if 0 ≤ n then 2 * n else -2 * n - 1) := by split <;> omega
  have hz1 : (if 0 ≤ n then 2 * n else -2 * n - 1) < 18446744073709551616 := by split <;> omega
  rw [zag_val _ hz0 hz1]
  simp only [Option.bind_some]
  rw [if_pos (by by_cases h : 0 ≤ n <;> simp only [h, if_true, if_false] <;> split <;> omega)]
  rw [zag_val u (by omega) (by omega)]
  simp only [Option.bind_some]
  rw [zig_val _ (by split <;> omega) (by split <;> omega)]
  simp only [Option.bind_some]
  rw [if_pos (by by_cases h : u % 2 = 0 <;> simp only [h, if_true, if_false] <;> split <;> omega)]
  rw [Bt.and_u64_one _ hz0 hz1]
  have hodd : (((if 0 ≤ n then 2 * n else -2 * n - 1) % 2 == 1) == decide (n < 0)) = true := by
    by_cases h : 0 ≤ n
    · rw [if_pos h, show (2 * n) % 2 = 0 by omega, decide_eq_false (by omega)]; rfl
    · rw [if_neg h, show (-2 * n - 1) % 2 = 1 by omega, decide_eq_true (by omega)]; rfl
  rw [if_pos hodd]
  rw [zig_val 3 (by decide) (by decide), zag_val 5 (by decide) (by decide)]
  decide

end Go.Proofs.Ytknjphpfofbdiaa.Pure
