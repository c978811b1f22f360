/- The pure statement of LeafReads; no condition. -/
import Derived.Test.YthhhkphbhlafbaaSLeafReads
import Derived.Test.YthhhkphbhlafbaaLrv
set_option linter.unusedVariables false
set_option linter.unusedSimpArgs false
namespace Go.Proofs.Ythhhkphbhlafbaa.Pure
open Go Go.RowKit Go.Proofs.Ythhhkphbhlafbaa.Sx Go.Proofs.Ythhhkphbhlafbaa.G Go.Proofs.Ythhhkphbhlafbaa.Bt Go.Proofs.Ythhhkphbhlafbaa.Rcd Go.Proofs.Ythhhkphbhlafbaa.Stx Go.Proofs.Ythhhkphbhlafbaa.Lfd Go.Proofs.Ythhhkphbhlafbaa.Lfv Go.Proofs.Ythhhkphbhlafbaa.Lrd Go.Proofs.Ythhhkphbhlafbaa.Lrv
theorem same_lo4 {a:Lf} (hl:a.2.2.2.length≤4096):∀ (j i k:Nat),i+j=a.2.2.2.length→j<k→shadowboxref16_Same.lo4 a a k (i:Int)=some true := by
  intro j
  induction j with
  | zero =>
    intro i k hi hk
    obtain ⟨k,rfl⟩:∃ m,k=m+1 := ⟨k - 1,by omega⟩
    rw [shadowboxref16_Same.lo4,if_neg (by omega)]
  | succ j ih =>
    intro i k hi hk
    obtain ⟨k,rfl⟩:∃ m,k=m+1 := ⟨k - 1,by omega⟩
    rw [shadowboxref16_Same.lo4,if_pos (by omega),if_pos (by omega),if_pos (by omega),if_pos (by simp),wi64 (by omega) (by omega)]
    exact ih (i+1) k (by omega) (by omega)
theorem same_lo5 {a:Lf} (hl:a.2.2.1.length≤4096) (J:Option Bool):∀ (j i k:Nat),i+j=a.2.2.1.length→j<k→shadowboxref16_Same.lo5 a a J k (i:Int)=J := by
  intro j
  induction j with
  | zero =>
    intro i k hi hk
    obtain ⟨k,rfl⟩:∃ m,k=m+1 := ⟨k - 1,by omega⟩
    rw [shadowboxref16_Same.lo5,if_neg (by omega)]
  | succ j ih =>
    intro i k hi hk
    obtain ⟨k,rfl⟩:∃ m,k=m+1 := ⟨k - 1,by omega⟩
    rw [shadowboxref16_Same.lo5,if_pos (by omega),if_pos (by omega)]
    simp only [lt]
    rw [if_pos (by omega),if_pos (by simp),wi64 (by omega) (by omega)]
    exact ih (i+1) k (by omega) (by omega)
theorem same_lo6 {a:Lf} (hl:a.2.1.length≤4096) (J:Option Bool):∀ (j i k:Nat),i+j=a.2.1.length→j<k→shadowboxref16_Same.lo6 a a J k (i:Int)=J := by
  intro j
  induction j with
  | zero =>
    intro i k hi hk
    obtain ⟨k,rfl⟩:∃ m,k=m+1 := ⟨k - 1,by omega⟩
    rw [shadowboxref16_Same.lo6,if_neg (by omega)]
  | succ j ih =>
    intro i k hi hk
    obtain ⟨k,rfl⟩:∃ m,k=m+1 := ⟨k - 1,by omega⟩
    rw [shadowboxref16_Same.lo6,if_pos (by omega),if_pos (by omega)]
    simp only [lt]
    rw [if_pos (by omega),if_pos (by simp),wi64 (by omega) (by omega)]
    exact ih (i+1) k (by omega) (by omega)
theorem same_self {a:Lf} (h1:a.2.1.length≤4096) (h2:a.2.2.1.length≤4096) (h3:a.2.2.2.length≤4096) {k:Nat} (hk:5000≤k):shadowboxref16_Same.f k a a=some true := by
  unfold shadowboxref16_Same.f shadowboxref16_Same.jo1 shadowboxref16_Same.jo2 shadowboxref16_Same.jo3
  rw [if_pos rfl,if_pos rfl,if_pos rfl,if_pos rfl]
  refine (same_lo6 h1 _ a.2.1.length 0 k (by omega) (by omega)).trans ((same_lo5 h2 _ a.2.2.1.length 0 k (by omega) (by omega)).trans ?_)
  exact same_lo4 h3 a.2.2.2.length 0 k (by omega) (by omega)
def one:Lf := (0,[[97]],[[49]],[])
theorem sx_one {v:Int} (h0:0≤v) (h1:v<128):sx v=[v] := by
  have:gr v=1 := isGr_unique (gr_is h0 (by omega)).2 ⟨by omega,by simp; omega,.inl rfl⟩
  rw [sx,this]
  rfl
theorem tx_one (x:Int) (hx:Bytes [x]):tx (strOfNums [x])=[1,x] := by
  rw [tx,bl_son hx,son_size,show (([x]:List Int).length:Int)=1 from rfl,sx_one (by decide) (by decide)]
  rfl
theorem one_enc:enc one=[0,1,0,1,97,1,49] := by
  have b1:Bytes [(97:Int)] := Bytes.cons (by decide) (by decide) Bytes.nil
  have b2:Bytes [(49:Int)] := Bytes.cons (by decide) (by decide) Bytes.nil
  have e1:kent one 0=sx 0++tx (strOfNums [97]) := rfl
  have e2:vent one 0=tx (strOfNums [49]) := by unfold vent; rw [if_pos (show one.1=0 from rfl)]; rfl
  show sx (u 0)++(sx 1++(kent one 0++(vent one 0++[])))=_
  rw [e1,e2,tx_one _ b1,tx_one _ b2,show u 0=0 by decide,sx_one (v:=0) (by decide) (by decide),sx_one (v:=1) (by decide) (by decide)]
  rfl
theorem LeafReads:S.LeafReads := by
  intro l h1 h2
  have hb := bytes_of h2
  refine ⟨100000,?_⟩
  have key:∀ m:List Int,Bytes m→shadowboxlaw16_LeafReads.jo1 100000 m=some true := by
    intro m hm
    obtain ⟨r,e1,e2,r1,r2,r3⟩ := read_both hm (k:=100000) (by omega)
    have hs:shp one=true := by decide
    have ho:rok one=true := by unfold rok; rw [hs,one_enc]; decide
    have hw:Wf one := ⟨fun x hx=>by rw [List.mem_singleton.1 hx]; exact Bytes.cons (by decide) (by decide) Bytes.nil,fun x hx=>by rw [List.mem_singleton.1 hx]; exact Bytes.cons (by decide) (by decide) Bytes.nil,fun x hx=>by cases hx⟩
    have e3 := read_back ho hw (k:=100000) (by omega)
    rw [one_enc] at e3
    unfold shadowboxlaw16_LeafReads.jo1
    rw [e1]
    simp only [Option.bind_some]
    rw [e2]
    simp only [Option.bind_some]
    rw [e3]
    simp only [Option.bind_some]
    rw [if_pos True.intro,show shadowboxref16_Same.f 100000 (r.1.1,r.1.2.1,r.1.2.2.1,r.1.2.2.2) (r.1.1,r.1.2.1,r.1.2.2.1,r.1.2.2.2)=some true from same_self (a:=r.1) r1 r2 r3 (by omega)]
    simp only [Option.bind_some]
    rw [if_pos True.intro,if_pos True.intro]
    rfl
  unfold shadowboxlaw16_LeafReads.f
  by_cases c:(l.length:Int) > 5000
  · rw [if_pos c,if_pos (by omega)]
    simp only [lt]
    exact key _ (hb.take _)
  · rw [if_neg c]
    exact key _ hb
end Go.Proofs.Ythhhkphbhlafbaa.Pure
