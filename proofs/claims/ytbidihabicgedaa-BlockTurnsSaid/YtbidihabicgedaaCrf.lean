/- The document's sum of bytes computes what the program's does; no condition. -/
import Derived.Test.YtbidihabicgedaaCrc3
set_option linter.unusedVariables false
set_option linter.unusedSimpArgs false
namespace Go.Proofs.Ytbidihabicgedaa.Crc
open Go Go.RowKit Go.Proofs.Ytbidihabicgedaa.Sx Go.Proofs.Ytbidihabicgedaa.G Go.Proofs.Ytbidihabicgedaa.Bt

theorem xor_half (x y : Nat) : x ^^^ y = (if x % 2 = y % 2 then 0 else 1) + 2 * ((x / 2) ^^^ (y / 2)) := by
  have h1 := @Nat.xor_mod_two_eq_one x y
  have h2 : (x ^^^ y) / 2 = (x / 2) ^^^ (y / 2) := Nat.xor_div_two
  split
  · have : ¬ (x ^^^ y) % 2 = 1 := by rw [h1]; omega
    omega
  · have : (x ^^^ y) % 2 = 1 := by rw [h1]; omega
    omega
theorem not32 (a : Nat) (h : a < 2 ^ 32) : IntKind.wrap .u32 (4294967295 - (a : Int)) = ((a ^^^ 4294967295 : Nat) : Int) := by
  have := xor_ones 32 a h
  rw [show 2 ^ 32 - 1 = 4294967295 from rfl] at this
  rw [this, wu32]
  omega
end Go.Proofs.Ytbidihabicgedaa.Crc
