/- What the codec's functions compute: numbers of a size, short numbers, texts; no condition. -/
import Derived.Test.YthhhkphbhlafbaaGz
import Derived.Test.YthhhkphbhlafbaaBits
namespace Go.Proofs.Ythhhkphbhlafbaa.Cod
open Go Go.RowKit Go.Proofs.Ythhhkphbhlafbaa.Sx Go.Proofs.Ythhhkphbhlafbaa.G Go.Proofs.Ythhhkphbhlafbaa.Bt
set_option linter.unusedVariables false
set_option linter.unusedSimpArgs false
def Bytes (l:List Int):Prop := ∀ x ∈ l,0≤x∧x<256
theorem bytes_of {l:List Int} (h:∀ x ∈ l,(Lit.int .u8 x).wf=true):Bytes l := fun x hx=>by
  have := h x hx
  simp only [Lit.wf,IntKind.min,IntKind.max,IntKind.signed,IntKind.bits,Bool.and_eq_true] at this
  simp at this
  omega
theorem Bytes.take {l:List Int} (h:Bytes l) (n:Nat):Bytes (l.take n) := fun x hx=>h x (List.mem_of_mem_take hx)
theorem Bytes.drop {l:List Int} (h:Bytes l) (n:Nat):Bytes (l.drop n) := fun x hx=>h x (List.mem_of_mem_drop hx)
theorem Bytes.append {l m:List Int} (h:Bytes l) (h':Bytes m):Bytes (l++m) := fun x hx=>(List.mem_append.1 hx).elim (h x) (h' x)
theorem Bytes.nil:Bytes [] := fun x hx=>by cases hx
theorem Bytes.cons {x:Int} {l:List Int} (h0:0≤x) (h1:x<256) (h:Bytes l):Bytes (x :: l) := fun y hy=>by
  rcases List.mem_cons.1 hy with rfl | hy
  · exact ⟨h0,h1⟩
  · exact h y hy
theorem Bytes.get {l:List Int} (h:Bytes l) {i:Nat} (hi:i<l.length):0≤l.getD i 0∧l.getD i 0<256 := by
  rw [List.getD_eq_getElem?_getD,List.getElem?_eq_getElem hi,Option.getD_some]
  exact h _ (List.getElem_mem hi)
def le:Nat→Int→List Int
  | 0,_=>[]
  | n+1,v=>v % 256 :: le n (v / 256)
def val:List Int→Int
  | []=>0
  | x :: r=>x+256*val r
theorem le_length (n:Nat):∀ v,(le n v).length=n := by
  induction n with
  | zero=>intro v; rfl
  | succ n ih=>intro v; simp [le,ih]
theorem le_bytes (n:Nat):∀ v,Bytes (le n v) := by
  induction n with
  | zero=>intro v; exact Bytes.nil
  | succ n ih=>intro v; exact Bytes.cons (Int.emod_nonneg _ (by decide)) (Int.emod_lt_of_pos _ (by decide)) (ih _)
theorem val_bound {l:List Int} (h:Bytes l):0≤val l∧val l<256 ^ l.length := by
  induction l with
  | nil=>simp [val]
  | cons x r ih =>
    have h1 := h x (by simp)
    have h2 := ih (fun y hy=>h y (by simp [hy]))
    simp only [val,List.length_cons]
    rw [show (256:Int) ^ (r.length+1)=256 ^ r.length*256 from Int.pow_succ _ _]
    omega
theorem val_le (n:Nat):∀ v,0≤v→val (le n v)=v % 256 ^ n := by
  induction n with
  | zero=>intro v h; simp [le,val]
  | succ n ih =>
    intro v h
    simp only [le,val]
    rw [ih _ (by omega),show (256:Int) ^ (n+1)=256*256 ^ n from by rw [Int.pow_succ,Int.mul_comm]]
    rw [em _ _ (by decide)]
theorem pow_le {n:Nat} (h:n≤8):(256:Int) ^ n≤18446744073709551616 := by
  have:n=0 ∨ n=1 ∨ n=2 ∨ n=3 ∨ n=4 ∨ n=5 ∨ n=6 ∨ n=7 ∨ n=8 := by omega
  rcases this with rfl | rfl | rfl | rfl | rfl | rfl | rfl | rfl | rfl <;> decide
theorem val_u64 {l:List Int} (h:Bytes l) (hn:l.length≤8):0≤val l∧val l<18446744073709551616 := ⟨(val_bound h).1,Int.lt_of_lt_of_le (val_bound h).2 (pow_le hn)⟩
theorem val_take_succ:∀ (l:List Int) (i:Nat),i<l.length→val (l.take (i+1))=val (l.take i)+l.getD i 0*256 ^ i := by
  intro l
  induction l with
  | nil=>intro i h; simp at h
  | cons x r ih =>
    intro i h
    cases i with
    | zero=>simp [val]
    | succ i =>
      have h2 := ih i (by simpa using h)
      simp only [List.take_succ_cons,val,List.getD_cons_succ]
      rw [h2,Int.pow_succ]
      rw [Int.mul_add,Int.add_assoc]
      congr 2
      rw [← Int.mul_assoc,Int.mul_comm 256,Int.mul_assoc,Int.mul_comm 256]
theorem val_drop {l:List Int} {i:Nat} (h:i<l.length):val (l.drop i)=l.getD i 0+256*val (l.drop (i+1)) := by
  rw [List.drop_eq_getElem_cons h]
  simp [val,List.getD_eq_getElem?_getD,List.getElem?_eq_getElem h]
theorem shl8 {y:Int} {i:Nat} (h0:0≤y) (h1:y<256) (hi:i<8):shlv .u64 y (IntKind.wrap .i64 (8*(i:Int)))=y*256 ^ i := by
  rw [wi64 (by omega) (by omega)]
  unfold shlv
  rw [show ((8*(i:Int)).toNat)=8*i by omega,show min (8*i) (IntKind.bits .u64)=8*i by simp [IntKind.bits]; omega,show (2:Int) ^ (8*i)=256 ^ i by rw [Int.pow_mul]; rfl,wu64]
  have:i=0 ∨ i=1 ∨ i=2 ∨ i=3 ∨ i=4 ∨ i=5 ∨ i=6 ∨ i=7 := by omega
  rcases this with rfl | rfl | rfl | rfl | rfl | rfl | rfl | rfl <;> simp <;> omega
theorem shr8 {y:Int} {i:Nat} (hi:i<8):shrv .u64 y (IntKind.wrap .i64 (8*(i:Int)))=y / 256 ^ i := by
  rw [wi64 (by omega) (by omega)]
  unfold shrv
  rw [show ((8*(i:Int)).toNat)=8*i by omega,show min (8*i) (IntKind.bits .u64)=8*i by simp [IntKind.bits]; omega,show (2:Int) ^ (8*i)=256 ^ i by rw [Int.pow_mul]; rfl]
  exact fd _ (Int.le_of_lt (Int.pow_pos (by decide)))
theorem or_pow {a y:Int} {i:Nat} (ha:0≤a) (hb:a<256 ^ i) (h0:0≤y) (h1:y<256) (hi:i<8):bits .or .u64 a (y*256 ^ i)=a+y*256 ^ i := by
  obtain ⟨m,rfl⟩ := Int.eq_ofNat_of_zero_le ha
  obtain ⟨n,rfl⟩ := Int.eq_ofNat_of_zero_le h0
  have e:((256:Int) ^ i)=((2 ^ (8*i):Nat):Int) := by rw [Nat.pow_mul]; simp
  rw [e] at hb ⊢
  have hb':m<2 ^ (8*i) := by exact_mod_cast hb
  have hn:n<256 := by omega
  have hle:2 ^ (8*i)*256≤2 ^ 64 := by
    rw [show (256:Nat)=2 ^ 8 from rfl,← Nat.pow_add]
    exact Nat.pow_le_pow_right (by decide) (by omega)
  have h2:n*2 ^ (8*i)+2 ^ (8*i)≤2 ^ (8*i)*256 := by
    have:(n+1)*2 ^ (8*i)≤256*2 ^ (8*i) := Nat.mul_le_mul_right _ (by omega)
    rw [Nat.add_mul,Nat.one_mul] at this
    omega
  rw [show ((n:Int)*((2 ^ (8*i):Nat):Int))=((n*2 ^ (8*i):Nat):Int) by simp]
  rw [or_u .u64 rfl _ _ (by simp only [IntKind.bits]; omega) (by simp only [IntKind.bits]; omega),or_add hb']
  simp
def takeS (l:List Int) (n:Int):Int × List Int × Bool := if n<1 then (0,[],false) else if n > 8 then (0,[],false) else if (l.length:Int)<n then (0,[],false) else (val (l.take n.toNat),l.drop n.toNat,true)
theorem take_loop (l0:List Int) (a1:Int) (xs:List Int) (hb:Bytes xs) (h8:xs.length≤8):∀ (j i k:Nat),i+j=xs.length→j<k →
    codec_Take.lo2 l0 a1 xs k (val (xs.take i)) (i:Int)=(if (([]:List Int).length+(l0.drop a1.toNat).length)*1≤140737488355328 then some (val xs,([]:List Int)++l0.drop a1.toNat,true) else none) := by
  intro j
  induction j with
  | zero =>
    intro i k hi hk
    obtain ⟨k,rfl⟩:∃ m,k=m+1 := ⟨k - 1,by omega⟩
    unfold codec_Take.lo2
    rw [if_neg (by omega),List.take_of_length_le (by omega)]
    rfl
  | succ j ih =>
    intro i k hi hk
    obtain ⟨k,rfl⟩:∃ m,k=m+1 := ⟨k - 1,by omega⟩
    unfold codec_Take.lo2
    have hg := hb.get (i:=i) (by omega)
    rw [if_pos (by omega),if_pos (by omega)]
    simp only [lt]
    rw [if_pos (by rw [wi64 (by omega) (by omega)]; omega),Int.toNat_natCast,wu64,Int.emod_eq_of_lt hg.1 (by omega),shl8 hg.1 hg.2 (by omega),or_pow (val_bound (hb.take i)).1 (by have := (val_bound (hb.take i)).2; rwa [List.length_take,Nat.min_eq_left (by omega)] at this) hg.1 hg.2 (by omega),← val_take_succ xs i (by omega),wi64 (by omega) (by omega)]
    exact ih (i+1) k (by omega) (by omega)
theorem codec_Take_val {l:List Int} (hb:Bytes l) (hl:l.length≤140737488351232) (n:Int) {k:Nat} (hk:9≤k):codec_Take.f k l n=some (takeS l n) := by
  unfold codec_Take.f codec_Take.jo1 takeS
  split
  · rfl
  · split
    · rfl
    · split
      · rfl
      · rename_i h1 h2 h3
        rw [if_pos (by omega),if_pos (by omega)]
        simp only [lt]
        have hlen:(l.take n.toNat).length=n.toNat := by simp; omega
        have := take_loop l n (l.take n.toNat) (hb.take _) (by omega) n.toNat 0 k (by omega) (by omega)
        simp only [List.take_zero,val] at this
        rw [show ((0:Nat):Int)=0 from rfl] at this
        rw [this,if_pos (by simp; omega),List.nil_append]
theorem refTake_loop (l0:List Int) (a1:Int) (ha:1≤a1) (h8:a1≤8) (hl:a1≤(l0.length:Int)) (hb:Bytes l0) (hB:l0.length≤140737488351232):∀ (j k:Nat),(j:Int)≤a1→j<k →
    shadowboxref01_Take.lo2 l0 a1 k (val ((l0.take a1.toNat).drop j)) ((j:Int) - 1)=some (val (l0.take a1.toNat),l0.drop a1.toNat,true) := by
  intro j
  induction j with
  | zero =>
    intro k hj hk
    obtain ⟨k,rfl⟩:∃ m,k=m+1 := ⟨k - 1,by omega⟩
    unfold shadowboxref01_Take.lo2
    rw [if_neg (by omega),if_pos (by omega),if_pos hl]
    simp only [lt]
    rw [if_pos (by simp; omega)]
    simp
  | succ j ih =>
    intro k hj hk
    obtain ⟨k,rfl⟩:∃ m,k=m+1 := ⟨k - 1,by omega⟩
    unfold shadowboxref01_Take.lo2
    have hlen:(l0.take a1.toNat).length=a1.toNat := by simp; omega
    have hg := hb.get (i:=j) (by omega)
    have hd:(l0.take a1.toNat).getD j 0=l0.getD j 0 := by simp [List.getD_eq_getElem?_getD,show (j:Int)<a1 by omega]
    have hv := val_u64 ((hb.take a1.toNat).drop j) (by simp; omega)
    have hv1 := val_u64 ((hb.take a1.toNat).drop (j+1)) (by simp; omega)
    have hvd := val_drop (l:=l0.take a1.toNat) (i:=j) (by omega)
    rw [hd] at hvd
    rw [if_pos (by omega),if_pos (by omega),if_pos (by omega)]
    simp only [lt]
    rw [show (((j+1:Nat):Int) - 1).toNat=j by omega,wu64,wu64,wu64,Int.emod_eq_of_lt hg.1 (by omega),wi64 (by omega) (by omega)]
    rw [show val ((l0.take a1.toNat).drop (j+1))*256 % 18446744073709551616=val ((l0.take a1.toNat).drop (j+1))*256 by omega]
    rw [show (val ((l0.take a1.toNat).drop (j+1))*256+l0.getD j 0) % 18446744073709551616=val ((l0.take a1.toNat).drop j) by omega]
    rw [show (((j+1:Nat):Int) - 1 - 1)=(j:Int) - 1 by omega]
    exact ih k (by omega) (by omega)
theorem refTake_val {l:List Int} (hb:Bytes l) (hl:l.length≤140737488351232) (n:Int) {k:Nat} (hk:9≤k):shadowboxref01_Take.f k l n=some (takeS l n) := by
  unfold shadowboxref01_Take.f shadowboxref01_Take.jo1 takeS
  split
  · rfl
  · split
    · rfl
    · split
      · rfl
      · rename_i h1 h2 h3
        have := refTake_loop l n (by omega) (by omega) (by omega) hb hl n.toNat k (by omega) (by omega)
        rw [List.drop_of_length_le (by simp; omega)] at this
        rw [wi64 (by omega) (by omega)]
        rw [show ((n.toNat:Nat):Int)=n by omega] at this
        exact this
def fixS (l:List Int) (n:Int) (vs:List Int):List Int := if n<1 then l else if n > 8 then l else l++vs.flatMap (le n.toNat)
theorem le_snoc (n:Nat):∀ v,le (n+1) v=le n v++[v / 256 ^ n % 256] := by
  induction n with
  | zero=>intro v; simp [le]
  | succ n ih =>
    intro v
    rw [le,ih]
    simp only [le,List.cons_append]
    rw [dd (by decide),show (256:Int)*256 ^ n=256 ^ (n+1) from by rw [Int.pow_succ,Int.mul_comm]]
theorem fix_in (a1:Int) (l2:List Int) (x:Int) (g:List Int→Int→Option (List Int)) (h8:a1≤8) (acc:List Int) (hacc:acc.length≤140737488355000):∀ (j i k:Nat),(i:Int)+j=a1→j<k →
    codec_Fixed.lo4 a1 l2 x g k (acc++le i (l2.getD x.toNat 0)) (i:Int)=g (acc++le a1.toNat (l2.getD x.toNat 0)) (IntKind.wrap .i64 (x+1)) := by
  intro j
  induction j with
  | zero =>
    intro i k hi hk
    obtain ⟨k,rfl⟩:∃ m,k=m+1 := ⟨k - 1,by omega⟩
    unfold codec_Fixed.lo4
    rw [if_neg (by omega),show a1.toNat=i by omega]
  | succ j ih =>
    intro i k hi hk
    obtain ⟨k,rfl⟩:∃ m,k=m+1 := ⟨k - 1,by omega⟩
    unfold codec_Fixed.lo4
    rw [if_pos (by omega),if_pos (by rw [wi64 (by omega) (by omega)]; omega)]
    simp only [lt]
    rw [if_pos (by simp [le_length]; omega),shr8 (by omega),wu8,wi64 (by omega) (by omega),List.append_assoc,← le_snoc]
    exact ih (i+1) k (by omega) (by omega)
theorem fix_out (a1:Int) (vs:List Int) (h1:1≤a1) (h8:a1≤8) (acc:List Int) (hacc:acc.length+8*vs.length≤140737488354000):∀ (j i k:Nat),i+j=vs.length→j+9<k →
    codec_Fixed.lo2 a1 vs k (acc++(vs.take i).flatMap (le a1.toNat)) (i:Int)=some (acc++vs.flatMap (le a1.toNat)) := by
  intro j
  induction j with
  | zero =>
    intro i k hi hk
    obtain ⟨k,rfl⟩:∃ m,k=m+1 := ⟨k - 1,by omega⟩
    unfold codec_Fixed.lo2
    rw [if_neg (by omega),List.take_of_length_le (by omega)]
  | succ j ih =>
    intro i k hi hk
    obtain ⟨k,rfl⟩:∃ m,k=m+1 := ⟨k - 1,by omega⟩
    unfold codec_Fixed.lo2
    rw [if_pos (by omega)]
    unfold codec_Fixed.jo3
    rw [if_pos (by omega),if_pos (by omega)]
    have hfl:∀ (us:List Int),(us.flatMap (le a1.toNat)).length=us.length*a1.toNat := by
      intro us
      induction us with
      | nil=>simp
      | cons u r ihu=>simp [le_length,ihu,Nat.add_mul]; omega
    have hlen:(acc++(vs.take i).flatMap (le a1.toNat)).length≤140737488355000 := by
      rw [List.length_append,hfl,List.length_take]
      have:min i vs.length*a1.toNat≤vs.length*8 := Nat.mul_le_mul (Nat.min_le_right _ _) (by omega)
      omega
    have := fix_in a1 vs (i:Int) (codec_Fixed.lo2 a1 vs k) h8 _ hlen a1.toNat 0 k (by omega) (by omega)
    simp only [le,List.append_nil] at this
    rw [show ((0:Nat):Int)=0 from rfl] at this
    rw [this,wi64 (by omega) (by omega),Int.toNat_natCast,List.append_assoc]
    have hi':i<vs.length := by omega
    rw [show (vs.take i).flatMap (le a1.toNat)++le a1.toNat (vs.getD i 0)=(vs.take (i+1)).flatMap (le a1.toNat) by
      rw [List.take_add_one,List.flatMap_append,List.getElem?_eq_getElem hi',List.getD_eq_getElem?_getD,List.getElem?_eq_getElem hi']; simp]
    exact ih (i+1) k (by omega) (by omega)
theorem codec_Fixed_val {l vs:List Int} (hl:l.length+8*vs.length≤140737488354000) (n:Int) {k:Nat} (hk:vs.length+9<k):codec_Fixed.f k l n vs=some (fixS l n vs) := by
  unfold codec_Fixed.f codec_Fixed.jo1 fixS
  rw [if_pos (by simp; omega)]
  split
  · rfl
  · split
    · rfl
    · have := fix_out n vs (by omega) (by omega) l hl vs.length 0 k (by omega) (by omega)
      simp only [List.take_zero,List.flatMap_nil,List.append_nil] at this
      rw [show ((0:Nat):Int)=0 from rfl] at this
      rw [List.nil_append]
      exact this
theorem refFixed_loop (a1:Int) (h8:a1≤8) (acc:List Int) (hacc:acc.length≤140737488354000) (v:Int) (hv:0≤v) (hv1:v<18446744073709551616):∀ (j i k:Nat),(i:Int)+j=a1→j<k →
    shadowboxref01_Fixed.lo1 a1 k (v / 256 ^ i) (acc++le i v) (i:Int)=some (acc++le a1.toNat v) := by
  intro j
  induction j with
  | zero =>
    intro i k hi hk
    obtain ⟨k,rfl⟩:∃ m,k=m+1 := ⟨k - 1,by omega⟩
    unfold shadowboxref01_Fixed.lo1
    rw [if_neg (by omega),show a1.toNat=i by omega]
  | succ j ih =>
    intro i k hi hk
    obtain ⟨k,rfl⟩:∃ m,k=m+1 := ⟨k - 1,by omega⟩
    unfold shadowboxref01_Fixed.lo1
    have hp:(0:Int)<256 ^ i := Int.pow_pos (by decide)
    have hq:0≤v / 256 ^ i := Int.ediv_nonneg hv (Int.le_of_lt hp)
    have hq1:v / 256 ^ i≤v := Int.ediv_le_self _ hv
    rw [if_pos (by omega),if_pos h8]
    simp only [lt]
    rw [if_pos (by simp [le_length]; omega),tm _ hq,td _ hq,wu8,wu64,wi64 (by omega) (by omega),List.append_assoc]
    rw [show v / 256 ^ i % 256 % 256=v / 256 ^ i % 256 by omega,← le_snoc,show v / 256 ^ i / 256 % 18446744073709551616=v / 256 ^ (i+1) by
      rw [Int.pow_succ,← dd (Int.le_of_lt hp)]
      omega]
    exact ih (i+1) k (by omega) (by omega)
theorem refFixed_val {l:List Int} (hl:l.length≤140737488354000) (n:Int) (v:Int) (hv:0≤v) (hv1:v<18446744073709551616) {k:Nat} (hk:9<k):shadowboxref01_Fixed.f k l n v=some (fixS l n [v]) := by
  unfold shadowboxref01_Fixed.f fixS
  rw [if_pos (by simp; omega),List.nil_append]
  obtain ⟨k,rfl⟩:∃ m,k=m+1 := ⟨k - 1,by omega⟩
  split
  · unfold shadowboxref01_Fixed.lo1
    rw [if_neg (by omega)]
  · split
    · unfold shadowboxref01_Fixed.lo1
      rw [if_pos (by omega),if_neg (by omega)]
    · have := refFixed_loop n (by omega) l hl v hv hv1 n.toNat 0 (k+1) (by omega) (by omega)
      simp only [le,List.append_nil] at this
      rw [show ((0:Nat):Int)=0 from rfl,show v / 256 ^ 0=v by simp] at this
      simp only [List.flatMap_cons,List.flatMap_nil,List.append_nil]
      exact this
end Go.Proofs.Ythhhkphbhlafbaa.Cod
