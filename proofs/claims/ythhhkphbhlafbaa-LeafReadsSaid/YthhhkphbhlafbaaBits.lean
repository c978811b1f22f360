/- Bits of whole numbers, as plain numbers; no condition. -/
import Derived.RowKit
import Derived.IntWalk
namespace Go.Proofs.Ythhhkphbhlafbaa.Bt
open Go Go.RowKit
theorem bvi (w n:Nat):BitVec.ofInt w (n:Int)=BitVec.ofNat w n := by
  apply BitVec.eq_of_toNat_eq
  simp
theorem wrap_u (k:IntKind) (hk:k.signed=false) (n:Nat) (h:n<2 ^ k.bits):k.wrap (n:Int)=n := by
  have h2:((2 ^ k.bits:Nat):Int)=(2:Int) ^ k.bits := by simp
  simp only [IntKind.wrap,hk,Bool.false_and]
  rw [if_neg (by decide),← h2]
  exact Int.emod_eq_of_lt (by omega) (by exact_mod_cast h)
theorem or_u (k:IntKind) (hk:k.signed=false) (a b:Nat) (ha:a<2 ^ k.bits) (hb:b<2 ^ k.bits):bits .or k (a:Int) b=((a ||| b:Nat):Int) := by
  simp only [bits,bvi,BitVec.toNat_or,BitVec.toNat_ofNat,Nat.mod_eq_of_lt ha,Nat.mod_eq_of_lt hb]
  exact wrap_u k hk _ (Nat.or_lt_two_pow ha hb)
theorem wu64 (n:Int):IntKind.u64.wrap n=n % 18446744073709551616 := by simp [IntKind.wrap,IntKind.bits,IntKind.signed]
theorem wi64 {n:Int} (h0:-9223372036854775808≤n) (h1:n<9223372036854775808):IntKind.wrap .i64 n=n := by
  simp [IntKind.wrap,IntKind.bits,IntKind.signed]
  omega
theorem wu8 (n:Int):IntKind.wrap .u8 n=n % 256 := by simp [IntKind.wrap,IntKind.bits,IntKind.signed]
theorem wu32 (n:Int):IntKind.wrap .u32 n=n % 4294967296 := by simp [IntKind.wrap,IntKind.bits,IntKind.signed]
theorem fd (x:Int) {c:Int} (h:0≤c):Int.fdiv x c=x / c := Int.fdiv_eq_ediv_of_nonneg x h
theorem td {x:Int} (c:Int) (h:0≤x):Int.tdiv x c=x / c := Int.tdiv_eq_ediv_of_nonneg h
theorem tm {x:Int} (c:Int) (h:0≤x):Int.tmod x c=x % c := Int.tmod_eq_emod_of_nonneg h
theorem or_add {a b s:Nat} (h:a<2 ^ s):a ||| (b*2 ^ s)=a+b*2 ^ s := by
  have h1 := Nat.shiftLeft_add_eq_or_of_lt h b
  rw [Nat.shiftLeft_eq] at h1
  rw [Nat.or_comm,← h1]
  omega
theorem dd {x y z:Int} (h:0≤y):x / y / z=x / (y*z) := by
  rw [Int.ediv_ediv,if_neg (by omega)]
  omega
theorem em (x:Int) {a:Int} (b:Int) (ha:0≤a):x % (a*b)=x % a+a*(x / a % b) := by
  rw [Int.emod_def,Int.emod_def,Int.emod_def,dd ha,Int.mul_sub,← Int.mul_assoc]
  omega
end Go.Proofs.Ythhhkphbhlafbaa.Bt
