/- What a key's search among a leaf's keys computes; no condition. -/
import Derived.Test.YthhhkphbhlafbaaGz
import Derived.Test.YthhhkphbhlafbaaBits
import Derived.Lib.Bytealg
set_option linter.unusedVariables false
set_option linter.unusedSimpArgs false
namespace Go.Proofs.Ythhhkphbhlafbaa.Lfd
open Go Go.RowKit Go.Proofs.Ythhhkphbhlafbaa.Sx Go.Proofs.Ythhhkphbhlafbaa.G Go.Proofs.Ythhhkphbhlafbaa.Bt
abbrev bL := Go.Op.bytesLess
theorem bL_cons (x y:UInt8) (a b:List UInt8):bL (x :: a) (y :: b)=true ↔ x.toNat<y.toNat ∨ x=y∧bL a b=true := by
  simp [bL,Go.Op.bytesLess,UInt8.lt_iff_toNat_lt]
theorem bL_trans:∀ {a b c:List UInt8},bL a b=true→bL b c=true→bL a c=true
  | _,[],_,h,_=>by simp [bL,Go.Op.bytesLess] at h
  | _,_ :: _,[],_,h=>by simp [bL,Go.Op.bytesLess] at h
  | [],_ :: _,_ :: _,_,_=>rfl
  | x :: a,y :: b,z :: c,h1,h2=>by
    rw [bL_cons] at h1 h2 ⊢
    rcases h1 with h1 | ⟨rfl,h1⟩
    · rcases h2 with h2 | ⟨rfl,h2⟩
      · exact .inl (by omega)
      · exact .inl h1
    · rcases h2 with h2 | ⟨rfl,h2⟩
      · exact .inl h2
      · exact .inr ⟨rfl,bL_trans h1 h2⟩
def kb (l:List Int):List UInt8 := (strOfNums l).toList
theorem cmpB:∀ (a b:List UInt8),(Lib.compareBytes a b<0 ↔ bL a b=true)∧(Lib.compareBytes a b=0 ↔ a=b)
  | [],[]=>by simp [Lib.compareBytes,bL,Go.Op.bytesLess]
  | [],_ :: _=>by simp [Lib.compareBytes,bL,Go.Op.bytesLess]
  | _ :: _,[]=>by simp [Lib.compareBytes,bL,Go.Op.bytesLess]
  | x :: a,y :: b=>by
    have ih := cmpB a b
    rw [bL_cons,Lib.compareBytes]
    simp only [UInt8.lt_iff_toNat_lt]
    by_cases h1:x.toNat<y.toNat
    · rw [if_pos h1]
      refine ⟨⟨fun _=>.inl h1,fun _=>by decide⟩,⟨fun h=>by omega,fun h=>?_⟩⟩
      injection h with h _
      rw [h] at h1
      omega
    · rw [if_neg h1]
      by_cases h2:y.toNat<x.toNat
      · rw [if_pos h2]
        refine ⟨⟨fun h=>by omega,fun h=>?_⟩,⟨fun h=>by omega,fun h=>?_⟩⟩
        · rcases h with h | ⟨h,_⟩
          · exact absurd h h1
          · rw [h] at h2; omega
        · injection h with h _
          rw [h] at h2; omega
      · rw [if_neg h2]
        have e:x=y := UInt8.toNat_inj.1 (by omega)
        subst e
        refine ⟨ih.1.trans ⟨fun h=>.inr ⟨rfl,h⟩,fun h=>?_⟩,ih.2.trans ⟨fun h=>by rw [h],fun h=>?_⟩⟩
        · rcases h with h | ⟨_,h⟩
          · omega
          · exact h
        · injection h
theorem bcmp_eq (l m:List Int):bcmp l m=Lib.compareBytes (kb l) (kb m) := by
  unfold bcmp kb
  rw [Lib.cmp_eq,Lib.toList_data,Lib.toList_data]
theorem bcmp_lt (l m:List Int):bcmp l m<0 ↔ bL (kb l) (kb m)=true := by rw [bcmp_eq]; exact (cmpB _ _).1
def ka (l:List (List Int)) (i:Nat):List UInt8 := kb (l.getD i [])
def Asc (l:List (List Int)):Prop := ∀ i,i+1<l.length→bL (ka l i) (ka l (i+1))=true
theorem Asc.lt {l:List (List Int)} (h:Asc l):∀ {j i:Nat},i<j→j<l.length→bL (ka l i) (ka l j)=true := by
  intro j
  induction j with
  | zero=>intro i hi; omega
  | succ j ih =>
    intro i hi hj
    by_cases e:i=j
    · subst e; exact h i hj
    · exact bL_trans (ih (i:=i) (by omega) (by omega)) (h j hj)
def At (l:List (List Int)) (x:List Int) (i:Nat):Prop := i≤l.length∧(∀ m,m<i→bL (ka l m) (kb x)=true)∧∀ m,i≤m→m<l.length→bL (ka l m) (kb x)=false
end Go.Proofs.Ythhhkphbhlafbaa.Lfd
