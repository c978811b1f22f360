/- The document's sum of bytes computes what the program's does; no condition. -/
import Derived.Test.YtbidihabicgedaaCrc3
set_option linter.unusedVariables false
set_option linter.unusedSimpArgs false
namespace Go.Proofs.Ytbidihabicgedaa.Crc
open Go Go.RowKit Go.Proofs.Ytbidihabicgedaa.Sx Go.Proofs.Ytbidihabicgedaa.G Go.Proofs.Ytbidihabicgedaa.Bt
theorem xor_half (x y:Nat):x ^^^ y=(if x % 2=y % 2 then 0 else 1)+2*((x / 2) ^^^ (y / 2)) := by
  have h1 := @Nat.xor_mod_two_eq_one x y
  have h2:(x ^^^ y) / 2=(x / 2) ^^^ (y / 2) := Nat.xor_div_two
  split
  · have:¬ (x ^^^ y) % 2=1 := by rw [h1]; omega
    omega
  · have:(x ^^^ y) % 2=1 := by rw [h1]; omega
    omega
theorem turn_lo1:∀ (j i k x y r:Nat),i+j=32→j<k→x<2 ^ j→y<2 ^ j→r<2 ^ i→shadowboxref02_turn.lo1 k (x:Int) (y:Int) (r:Int) ((2 ^ i % 4294967296:Nat):Int) (i:Int)=some ((r+2 ^ i*(x ^^^ y):Nat):Int) := by
  intro j
  induction j with
  | zero =>
    intro i k x y r hi hk hx hy hr
    obtain ⟨k,rfl⟩:∃ m,k=m+1 := ⟨k - 1,by omega⟩
    rw [shadowboxref02_turn.lo1,if_neg (by omega),show x=0 by omega,show y=0 by omega]
    simp
  | succ j ih =>
    intro i k x y r hi hk hx hy hr
    obtain ⟨k,rfl⟩:∃ m,k=m+1 := ⟨k - 1,by omega⟩
    have hp:2 ^ i≤2 ^ 31 := Nat.pow_le_pow_right (by decide) (by omega)
    have hj:2 ^ j≤2 ^ 31 := Nat.pow_le_pow_right (by decide) (by omega)
    have hp1:2 ^ (i+1)=2*2 ^ i := by rw [Nat.pow_succ,Nat.mul_comm]
    have hj1:2 ^ (j+1)=2*2 ^ j := by rw [Nat.pow_succ,Nat.mul_comm]
    rw [shadowboxref02_turn.lo1,if_pos (by omega)]
    simp only [lt]
    rw [tm _ (by omega),tm _ (by omega),td _ (by omega),td _ (by omega),wu32,wu32,wu32,wu32,wi64 (by omega) (by omega),Nat.mod_eq_of_lt (show 2 ^ i<4294967296 by omega)]
    rw [show (x:Int) / 2 % 4294967296=((x / 2:Nat):Int) by omega,show (y:Int) / 2 % 4294967296=((y / 2:Nat):Int) by omega,show (i:Int)+1=((i+1:Nat):Int) by omega]
    rw [show ((2 ^ i:Nat):Int)*2 % 4294967296=((2 ^ (i+1) % 4294967296:Nat):Int) by rw [hp1]; omega]
    rw [show ((r:Int)+((2 ^ i:Nat):Int)) % 4294967296=((r+2 ^ i:Nat):Int) by omega]
    rw [ih (i+1) k _ _ r (by omega) (by omega) (by omega) (by omega) (by omega),ih (i+1) k _ _ (r+2 ^ i) (by omega) (by omega) (by omega) (by omega) (by omega),xor_half x y,hp1]
    by_cases h:x % 2=y % 2
    · rw [if_pos (by omega),if_pos h]
      congr 2
      rw [Nat.zero_add,← Nat.mul_assoc,Nat.mul_comm 2]
    · rw [if_neg (by omega),if_neg h]
      congr 2
      rw [Nat.mul_add,← Nat.mul_assoc,Nat.mul_comm 2]
      omega
theorem turn_val {k a b:Nat} (hk:33≤k) (ha:a<2 ^ 32) (hb:b<2 ^ 32):shadowboxref02_turn.f k (a:Int) (b:Int)=some ((a ^^^ b:Nat):Int) := by
  unfold shadowboxref02_turn.f
  have := turn_lo1 32 0 k a b 0 (by omega) (by omega) ha hb (by decide)
  rw [show ((2 ^ 0 % 4294967296:Nat):Int)=1 from rfl,show ((0:Nat):Int)=0 from rfl] at this
  rw [this]
  simp
theorem rGo_lo3 (x6:Int) (lo:Int→Int→Option Int):∀ (j i k s:Nat),i+j=8→j+40<k→s<2 ^ 32→shadowboxref02_Go.lo3 x6 lo k (s:Int) (i:Int)=lo ((T j s:Nat):Int) (IntKind.wrap .i64 (x6+1)) := by
  intro j
  induction j with
  | zero =>
    intro i k s hi hk hs
    obtain ⟨k,rfl⟩:∃ m,k=m+1 := ⟨k - 1,by omega⟩
    rw [shadowboxref02_Go.lo3,if_neg (by omega)]
    rfl
  | succ j ih =>
    intro i k s hi hk hs
    obtain ⟨k,rfl⟩:∃ m,k=m+1 := ⟨k - 1,by omega⟩
    rw [shadowboxref02_Go.lo3,if_pos (by omega)]
    simp only [lt]
    rw [tm _ (by omega),td _ (by omega),wu32,wi64 (by omega) (by omega),show (s:Int) / 2 % 4294967296=((s / 2:Nat):Int) by omega,show (i:Int)+1=((i+1:Nat):Int) by omega,show (2197175160:Int)=((poly:Nat):Int) from rfl,turn_val (by omega) (by omega) (by decide)]
    simp only [Option.bind_some]
    have h1:T1 s<2 ^ 32 := T1_lt hs
    by_cases h:s % 2=1
    · rw [if_pos (by omega)]
      have e:T1 s=s / 2 ^^^ poly := by unfold T1; rw [if_pos h]
      rw [← e,ih (i+1) k _ (by omega) (by omega) h1]
      rfl
    · rw [if_neg (by omega)]
      have e:T1 s=s / 2 := by unfold T1; rw [if_neg h,Nat.xor_zero]
      rw [← e,ih (i+1) k _ (by omega) (by omega) h1]
      rfl
theorem not32 (a:Nat) (h:a<2 ^ 32):IntKind.wrap .u32 (4294967295 - (a:Int))=((a ^^^ 4294967295:Nat):Int) := by
  have := xor_ones 32 a h
  rw [show 2 ^ 32 - 1=4294967295 from rfl] at this
  rw [this,wu32]
  omega
theorem rGo_loop (l:List Int) (h:By l) (hl:l.length≤140737488351232):∀ (j i k:Nat) (s:Nat),i+j=l.length→j+60<k→s<2 ^ 32 →
    shadowboxref02_Go.lo1 l k (s:Int) (i:Int)=some (((F s (l.drop i)) ^^^ 4294967295:Nat):Int) := by
  intro j
  induction j with
  | zero =>
    intro i k s hi hk hs
    obtain ⟨k,rfl⟩:∃ m,k=m+1 := ⟨k - 1,by omega⟩
    unfold shadowboxref02_Go.lo1
    rw [if_neg (by omega),List.drop_of_length_le (by omega),F_nil]
    simp only [lt]
    rw [not32 s hs]
  | succ j ih =>
    intro i k s hi hk hs
    obtain ⟨k,rfl⟩:∃ m,k=m+1 := ⟨k - 1,by omega⟩
    have hil:i<l.length := by omega
    have hx := h _ (List.getElem_mem hil)
    have hg:l.getD i 0=l[i] := by simp [List.getD_eq_getElem?_getD,List.getElem?_eq_getElem hil]
    obtain ⟨c,hc⟩ := Int.eq_ofNat_of_zero_le hx.1
    unfold shadowboxref02_Go.lo1
    rw [if_pos (by omega)]
    unfold shadowboxref02_Go.jo2
    rw [if_pos (by omega),if_pos (by omega)]
    simp only [lt]
    rw [Int.toNat_natCast,hg,wu32,show l[i] % 4294967296=l[i] by omega,hc,turn_val (by omega) hs (by omega)]
    simp only [Option.bind_some]
    have e := rGo_lo3 (i:Int) (shadowboxref02_Go.lo1 l k) 8 0 k (s ^^^ c) (by omega) (by omega) (Nat.xor_lt_two_pow hs (by omega))
    rw [show ((0:Nat):Int)=0 from rfl] at e
    rw [e,wi64 (by omega) (by omega),show (i:Int)+1=((i+1:Nat):Int) by omega]
    rw [ih (i+1) k _ (by omega) (by omega) (T_lt 8 (Nat.xor_lt_two_pow hs (by omega)))]
    rw [List.drop_eq_getElem_cons hil,F_cons _ _ _ hx,hc]
    rfl
theorem rGo_val {l:List Int} (h:By l) (hl:l.length≤140737488351232) {s:Nat} (hs:s<2 ^ 32) {k:Nat} (hk:l.length+60<k):shadowboxref02_Go.f k (s:Int) l=some ((goS s l:Nat):Int) := by
  unfold shadowboxref02_Go.f
  simp only [lt]
  rw [not32 s hs]
  have := rGo_loop l h hl l.length 0 k (s ^^^ 4294967295) (by omega) hk (Nat.xor_lt_two_pow hs (by decide))
  exact this
end Go.Proofs.Ytbidihabicgedaa.Crc
