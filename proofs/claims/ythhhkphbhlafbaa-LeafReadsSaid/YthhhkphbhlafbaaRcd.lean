/- What the codec's short numbers and texts compute, and what reading them computes; no condition. -/
import Derived.Test.YthhhkphbhlafbaaGz
import Derived.Test.YthhhkphbhlafbaaBits
namespace Go.Proofs.Ythhhkphbhlafbaa.Rcd
open Go Go.RowKit Go.Proofs.Ythhhkphbhlafbaa.Sx Go.Proofs.Ythhhkphbhlafbaa.G Go.Proofs.Ythhhkphbhlafbaa.Bt
set_option linter.unusedVariables false
set_option linter.unusedSimpArgs false
def Bytes (l:List Int):Prop := ∀ x ∈ l,0≤x∧x<256
theorem bytes_of {l:List Int} (h:∀ x ∈ l,(Lit.int .u8 x).wf=true):Bytes l := fun x hx=>by
  have := h x hx
  simp only [Lit.wf,IntKind.min,IntKind.max,IntKind.signed,IntKind.bits,Bool.and_eq_true] at this
  simp at this
  omega
theorem Bytes.take {l:List Int} (h:Bytes l) (n:Nat):Bytes (l.take n) := fun x hx=>h x (List.mem_of_mem_take hx)
theorem Bytes.drop {l:List Int} (h:Bytes l) (n:Nat):Bytes (l.drop n) := fun x hx=>h x (List.mem_of_mem_drop hx)
theorem Bytes.append {l m:List Int} (h:Bytes l) (h':Bytes m):Bytes (l++m) := fun x hx=>(List.mem_append.1 hx).elim (h x) (h' x)
theorem Bytes.nil:Bytes [] := fun x hx=>by cases hx
theorem Bytes.cons {x:Int} {l:List Int} (h0:0≤x) (h1:x<256) (h:Bytes l):Bytes (x :: l) := fun y hy=>by
  rcases List.mem_cons.1 hy with rfl | hy
  · exact ⟨h0,h1⟩
  · exact h y hy
theorem Bytes.get {l:List Int} (h:Bytes l) {i:Nat} (hi:i<l.length):0≤l.getD i 0∧l.getD i 0<256 := by
  rw [List.getD_eq_getElem?_getD,List.getElem?_eq_getElem hi,Option.getD_some]
  exact h _ (List.getElem_mem hi)
def IsLen (v:Int) (L:Nat):Prop := v<2 ^ L∧(L=0∧v=0 ∨ 1≤L∧(2:Int) ^ (L - 1)≤v)
theorem tb_all:(List.range 256).all (fun y=>decide (0≤bt bits_Len64.cst0 y∧bt bits_Len64.cst0 y≤8∧(y:Int)<2 ^ (bt bits_Len64.cst0 y).toNat∧((bt bits_Len64.cst0 y).toNat=0∧(y:Int)=0 ∨ 1≤(bt bits_Len64.cst0 y).toNat∧(2:Int) ^ ((bt bits_Len64.cst0 y).toNat - 1)≤(y:Int))))=true := by decide +kernel
theorem tb_val {y:Int} (h0:0≤y) (h1:y<256):∃ L:Nat,bt bits_Len64.cst0 y=L∧L≤8∧IsLen y L := by
  obtain ⟨n,rfl⟩ := Int.eq_ofNat_of_zero_le h0
  have h := List.all_eq_true.1 tb_all n (List.mem_range.2 (by omega))
  obtain ⟨a,b,c,d⟩ := of_decide_eq_true h
  exact ⟨(bt bits_Len64.cst0 n).toNat,by omega,by omega,c,d⟩
theorem isLen_up {v:Int} {n L:Nat} (hv:0≤v) (h0:n=0 ∨ 1≤v / 2 ^ n) (h:IsLen (v / 2 ^ n) L):IsLen v (n+L) := by
  have hp:(0:Int)<2 ^ n := Int.pow_pos (by decide)
  obtain ⟨h1,h2⟩ := h
  refine ⟨?_,?_⟩
  · rw [Int.pow_add,Int.mul_comm]
    exact Int.lt_mul_of_ediv_lt hp h1
  · rcases h2 with ⟨rfl,h2⟩ | ⟨h2,h3⟩
    · rcases h0 with rfl | h0
      · left
        refine ⟨rfl,?_⟩
        simpa using h2
      · omega
    · right
      refine ⟨by omega,?_⟩
      rw [show n+L - 1=(L - 1)+n by omega,Int.pow_add]
      exact Int.mul_le_of_le_ediv hp h3
theorem cst_size:bits_Len64.cst0.size=256 := by decide +kernel
theorem leaf {v y:Int} (n:Nat) (hv:0≤v) (hy:y=v / 2 ^ n) (h0:n=0 ∨ 1≤y) (hy0:0≤y) (h1:y<256):∃ L:Nat,bt bits_Len64.cst0 (y % 256)=L∧L≤8∧IsLen v (n+L)∧0≤y % 256∧y % 256<(bits_Len64.cst0.size:Int) := by
  have e:y % 256=y := by omega
  rw [e]
  obtain ⟨L,h2,h3,h4⟩ := tb_val hy0 h1
  subst hy
  exact ⟨L,h2,h3,isLen_up hv h0 h4,hy0,by rw [cst_size]; exact h1⟩
theorem len_val (k:Nat) {v:Int} (h0:0≤v) (h1:v<18446744073709551616):∃ L:Nat,bits_Len64.f k v=some (L:Int)∧L≤64∧IsLen v L := by
  unfold bits_Len64.f
  simp only [lt,wu8,fd _ (show (0:Int)≤4294967296 by decide),fd _ (show (0:Int)≤65536 by decide),fd _ (show (0:Int)≤256 by decide),dd (show (0:Int)≤4294967296 by decide),dd (show (0:Int)≤65536 by decide),Int.reduceMul,dd (show (0:Int)≤281474976710656 by decide)]
  by_cases c1:v≥4294967296
  · rw [if_pos c1]
    by_cases c2:v / 4294967296≥65536
    · rw [if_pos c2]
      by_cases c3:v / 281474976710656≥256
      · rw [if_pos c3]
        obtain ⟨L,e,hL,hI,a,b⟩ := leaf (y:=v / 72057594037927936) 56 h0 rfl (.inr (by omega)) (by omega) (by omega)
        refine ⟨56+L,?_,by omega,hI⟩
        rw [if_pos a,if_pos b,e]
        simp [IntKind.wrap,IntKind.bits,IntKind.signed]
        omega
      · rw [if_neg c3]
        obtain ⟨L,e,hL,hI,a,b⟩ := leaf (y:=v / 281474976710656) 48 h0 rfl (.inr (by omega)) (by omega) (by omega)
        refine ⟨48+L,?_,by omega,hI⟩
        rw [if_pos a,if_pos b,e]
        simp [IntKind.wrap,IntKind.bits,IntKind.signed]
        omega
    · rw [if_neg c2]
      by_cases c3:v / 4294967296≥256
      · rw [if_pos c3]
        obtain ⟨L,e,hL,hI,a,b⟩ := leaf (y:=v / 1099511627776) 40 h0 rfl (.inr (by omega)) (by omega) (by omega)
        refine ⟨40+L,?_,by omega,hI⟩
        rw [if_pos a,if_pos b,e]
        simp [IntKind.wrap,IntKind.bits,IntKind.signed]
        omega
      · rw [if_neg c3]
        obtain ⟨L,e,hL,hI,a,b⟩ := leaf (y:=v / 4294967296) 32 h0 rfl (.inr (by omega)) (by omega) (by omega)
        refine ⟨32+L,?_,by omega,hI⟩
        rw [if_pos a,if_pos b,e]
        simp [IntKind.wrap,IntKind.bits,IntKind.signed]
        omega
  · rw [if_neg c1]
    by_cases c2:v≥65536
    · rw [if_pos c2]
      by_cases c3:v / 65536≥256
      · rw [if_pos c3]
        obtain ⟨L,e,hL,hI,a,b⟩ := leaf (y:=v / 16777216) 24 h0 rfl (.inr (by omega)) (by omega) (by omega)
        refine ⟨24+L,?_,by omega,hI⟩
        rw [if_pos a,if_pos b,e]
        simp [IntKind.wrap,IntKind.bits,IntKind.signed]
        omega
      · rw [if_neg c3]
        obtain ⟨L,e,hL,hI,a,b⟩ := leaf (y:=v / 65536) 16 h0 rfl (.inr (by omega)) (by omega) (by omega)
        refine ⟨16+L,?_,by omega,hI⟩
        rw [if_pos a,if_pos b,e]
        simp [IntKind.wrap,IntKind.bits,IntKind.signed]
        omega
    · rw [if_neg c2]
      by_cases c3:v≥256
      · rw [if_pos c3]
        obtain ⟨L,e,hL,hI,a,b⟩ := leaf (y:=v / 256) 8 h0 rfl (.inr (by omega)) (by omega) (by omega)
        refine ⟨8+L,?_,by omega,hI⟩
        rw [if_pos a,if_pos b,e]
        simp [IntKind.wrap,IntKind.bits,IntKind.signed]
        omega
      · rw [if_neg c3]
        obtain ⟨L,e,hL,hI,a,b⟩ := leaf (y:=v) 0 h0 (by simp) (.inl rfl) (by omega) (by omega)
        refine ⟨0+L,?_,by omega,hI⟩
        rw [if_pos a,if_pos b,e]
        simp [IntKind.wrap,IntKind.bits,IntKind.signed]
        omega
theorem p128 (n:Nat):(128:Int) ^ n=2 ^ (7*n) := by rw [Int.pow_mul]; rfl
theorem pmono {b:Int} (hb:1≤b) {m n:Nat} (h:m≤n):b ^ m≤b ^ n := by
  induction h with
  | refl=>exact Int.le_refl _
  | @step m' h ih =>
    rw [Int.pow_succ]
    have h1:(0:Int)<b ^ m' := Int.pow_pos (show 0<b by omega)
    have h2 := Int.mul_le_mul_of_nonneg_left hb (Int.le_of_lt h1)
    rw [Int.mul_one] at h2
    exact Int.le_trans ih h2
def IsGr (v:Int) (g:Nat):Prop := 1≤g∧v<128 ^ g∧(g=1 ∨ (128:Int) ^ (g - 1)≤v)
theorem isGr_unique {v:Int} {g h:Nat} (hg:IsGr v g) (hh:IsGr v h):g=h := by
  obtain ⟨a1,a2,a3⟩ := hg
  obtain ⟨b1,b2,b3⟩ := hh
  by_cases e:g=h
  · exact e
  · exfalso
    by_cases l:g<h
    · have := pmono (show (1:Int)≤128 by decide) (show g≤h - 1 by omega)
      rcases b3 with b3 | b3 <;> omega
    · have := pmono (show (1:Int)≤128 by decide) (show h≤g - 1 by omega)
      rcases a3 with a3 | a3 <;> omega
theorem groups_val (k:Nat) {v:Int} (h0:0≤v) (h1:v<18446744073709551616):∃ g:Nat,codec_groups.f k v=some (g:Int)∧g≤10∧IsGr v g := by
  obtain ⟨L,e,hL,hI,hJ⟩ := len_val k h0 h1
  refine ⟨if L=0 then 1 else (L+6) / 7,?_,by split <;> omega,?_⟩
  · unfold codec_groups.f
    rw [e]
    simp only [Option.bind_some,lt]
    rw [wi64 (n:=(L:Int)+7) (by omega) (by omega),wi64 (n:=(L:Int)+7 - 1) (by omega) (by omega),td _ (by omega),wi64 (by omega) (by omega)]
    congr 1
    split <;> split <;> omega
  · have hp := p128 (if L=0 then 1 else (L+6) / 7)
    have hq := p128 ((if L=0 then 1 else (L+6) / 7) - 1)
    refine ⟨by split <;> omega,?_,?_⟩
    · rw [hp]
      exact Int.lt_of_lt_of_le hI (pmono (by decide) (by split <;> omega))
    · rw [hq]
      rcases hJ with ⟨rfl,_⟩ | ⟨h2,h3⟩
      · left; rfl
      · by_cases h8:L≤7
        · left
          split <;> omega
        · right
          exact Int.le_trans (pmono (by decide) (by split <;> omega)) h3
theorem gr_ex {v:Int} (h0:0≤v) (h1:v<18446744073709551616):∃ g:Nat,g≤10∧IsGr v g := by
  obtain ⟨g,_,h⟩ := groups_val 0 h0 h1
  exact ⟨g,h⟩
theorem groups_is (k:Nat) {v:Int} (h0:0≤v) (h1:v<18446744073709551616) {g:Nat} (h:IsGr v g):codec_groups.f k v=some (g:Int) := by
  obtain ⟨g',e,_,h'⟩ := groups_val k h0 h1
  rw [e,isGr_unique h h']
theorem isGr_down {v:Int} {g:Nat} (h:IsGr v (g+2)):IsGr (v / 128) (g+1) := by
  obtain ⟨h1,h2,h3⟩ := h
  have h3:(128:Int) ^ (g+1)≤v := by rcases h3 with h3 | h3 <;> first | omega | exact h3
  refine ⟨by omega,?_,?_⟩
  · rw [Int.pow_succ] at h2
    exact Int.ediv_lt_of_lt_mul (by decide) h2
  · right
    rw [Int.pow_succ] at h3
    exact Int.le_ediv_of_mul_le (by decide) h3
def sh:Nat→Int→List Int
  | 0,v=>[v]
  | n+1,v=>(v % 128+128) :: sh n (v / 128)
theorem sh_length (n:Nat):∀ v,(sh n v).length=n+1 := by
  induction n with
  | zero=>intro v; rfl
  | succ n ih=>intro v; simp [sh,ih]
theorem or_all:(List.range 256).all (fun b=>decide (bits .or .u8 (b:Int) 128=(b:Int) % 128+128∧bits .andNot .u8 (b:Int) 128=(b:Int) % 128))=true := by decide +kernel
theorem or128 {b:Int} (h0:0≤b) (h1:b<256):bits .or .u8 b 128=b % 128+128 := by
  obtain ⟨n,rfl⟩ := Int.eq_ofNat_of_zero_le h0
  exact (of_decide_eq_true (List.all_eq_true.1 or_all n (List.mem_range.2 (by omega)))).1
theorem andNot128 {b:Int} (h0:0≤b) (h1:b<256):bits .andNot .u8 b 128=b % 128 := by
  obtain ⟨n,rfl⟩ := Int.eq_ofNat_of_zero_le h0
  exact (of_decide_eq_true (List.all_eq_true.1 or_all n (List.mem_range.2 (by omega)))).2
theorem short_loop:∀ (j k:Nat) (x:Int) (acc:List Int),0≤x→x<128 ^ (j+1)→j≤10→j<k→acc.length+j+1≤140737488355328→codec_Short.lo1 k x acc (j:Int)=some (acc++sh j x) := by
  intro j
  induction j with
  | zero =>
    intro k x acc h0 h1 hj hk hl
    obtain ⟨k,rfl⟩:∃ m,k=m+1 := ⟨k - 1,by omega⟩
    unfold codec_Short.lo1
    rw [if_neg (by simp),if_pos (by simp; omega),wu8,show x % 256=x by simp at h1; omega]
    rfl
  | succ j ih =>
    intro k x acc h0 h1 hj hk hl
    obtain ⟨k,rfl⟩:∃ m,k=m+1 := ⟨k - 1,by omega⟩
    unfold codec_Short.lo1
    rw [if_pos (by omega)]
    simp only [lt]
    rw [if_pos (by simp; omega),wu8,or128 (by omega) (by omega),fd _ (by decide),wi64 (by omega) (by omega),show ((j+1:Nat):Int) - 1=(j:Int) by omega,ih k (x / 128) _ (by omega) (by rw [Int.pow_succ] at h1; exact Int.ediv_lt_of_lt_mul (by decide) h1) (by omega) (by omega) (by simp; omega)]
    rw [List.append_assoc,show x % 256 % 128=x % 128 by omega]
    rfl
theorem codec_Short_val {l:List Int} (hl:l.length≤140737488355000) {v:Int} (h0:0≤v) (h1:v<18446744073709551616) {g:Nat} (hg:IsGr v g) (h10:g≤10) {k:Nat} (hk:11≤k):codec_Short.f k l v=some (l++sh (g - 1) v) := by
  unfold codec_Short.f
  rw [if_pos (by simp; omega),groups_is k h0 h1 hg]
  simp only [Option.bind_some,List.nil_append]
  have := hg.1
  rw [wi64 (by omega) (by omega),show (g:Int) - 1=((g - 1:Nat):Int) by omega]
  exact short_loop (g - 1) k v l h0 (by rw [show g - 1+1=g by omega]; exact hg.2.1) (by omega) (by omega) (by omega)
theorem refShort_loop:∀ (j k:Nat) (x:Int) (acc:List Int),0≤x→x<18446744073709551616→IsGr x (j+1)→j≤10→j<k→acc.length+j+1≤140737488355328→shadowboxref01_Short.lo1 k x acc=some (acc++sh j x) := by
  intro j
  induction j with
  | zero =>
    intro k x acc h0 h01 h1 hj hk hl
    obtain ⟨k,rfl⟩:∃ m,k=m+1 := ⟨k - 1,by omega⟩
    unfold shadowboxref01_Short.lo1
    have h2 := h1.2.1
    simp at h2
    rw [if_neg (by omega),if_pos (by simp; omega),wu8,show x % 256=x by omega]
    rfl
  | succ j ih =>
    intro k x acc h0 h01 h1 hj hk hl
    obtain ⟨k,rfl⟩:∃ m,k=m+1 := ⟨k - 1,by omega⟩
    unfold shadowboxref01_Short.lo1
    have h2:(128:Int) ^ (j+1)≤x := by rcases h1.2.2 with h | h <;> first | omega | exact h
    have h3 := pmono (show (1:Int)≤128 by decide) (show 1≤j+1 by omega)
    rw [if_pos (by simp at h3; omega)]
    simp only [lt]
    rw [if_pos (by simp; omega),tm _ h0,td _ h0,wu64,wu8,wu64,show x / 128 % 18446744073709551616=x / 128 by omega,ih k (x / 128) _ (by omega) (by omega) (isGr_down h1) (by omega) (by omega) (by simp; omega)]
    rw [List.append_assoc,show (x % 128+128) % 18446744073709551616 % 256=x % 128+128 by omega]
    rfl
theorem refShort_val {l:List Int} (hl:l.length≤140737488355000) {v:Int} (h0:0≤v) (h1:v<18446744073709551616) {g:Nat} (hg:IsGr v g) (h10:g≤10) {k:Nat} (hk:11≤k):shadowboxref01_Short.f k l v=some (l++sh (g - 1) v) := by
  unfold shadowboxref01_Short.f
  rw [if_pos (by simp; omega)]
  simp only [List.nil_append]
  have := hg.1
  exact refShort_loop (g - 1) k v l h0 h1 (by rw [show g - 1+1=g by omega]; exact hg) (by omega) (by omega) (by omega)
theorem p128pos (i:Nat):(0:Int)≤128 ^ i := Int.le_of_lt (Int.pow_pos (by decide))
def v7:List Int→Int
  | []=>0
  | x :: r=>x % 128+128*v7 r
theorem v7_bound:∀ (l:List Int),0≤v7 l∧v7 l<128 ^ l.length := by
  intro l
  induction l with
  | nil=>simp [v7]
  | cons x r ih =>
    simp only [v7,List.length_cons]
    rw [show (128:Int) ^ (r.length+1)=128 ^ r.length*128 from Int.pow_succ _ _]
    omega
theorem v7_take_succ:∀ (l:List Int) (i:Nat),i<l.length→v7 (l.take (i+1))=v7 (l.take i)+l.getD i 0 % 128*128 ^ i := by
  intro l
  induction l with
  | nil=>intro i h; simp at h
  | cons x r ih =>
    intro i h
    cases i with
    | zero=>simp [v7]
    | succ i =>
      have h2 := ih i (by simpa using h)
      simp only [List.take_succ_cons,v7,List.getD_cons_succ]
      rw [h2,Int.pow_succ]
      rw [Int.mul_add,Int.add_assoc]
      congr 2
      rw [← Int.mul_assoc,Int.mul_comm 128,Int.mul_assoc,Int.mul_comm 128]
theorem v7_drop {l:List Int} {i:Nat} (h:i<l.length):v7 (l.drop i)=l.getD i 0 % 128+128*v7 (l.drop (i+1)) := by
  rw [List.drop_eq_getElem_cons h]
  simp [v7,List.getD_eq_getElem?_getD,List.getElem?_eq_getElem h]
theorem v7_drop_le (l:List Int):∀ i,v7 (l.drop i)≤v7 l := by
  intro i
  induction i with
  | zero=>simp
  | succ i ih =>
    by_cases h:i<l.length
    · have h1 := v7_drop h
      have h2 := v7_bound (l.drop (i+1))
      omega
    · have h2 := v7_bound l
      rw [List.drop_of_length_le (by omega)]
      simp [v7]
      omega
def Run (l:List Int) (k:Nat):Prop := (∀ j,j<k→128≤l.getD j 0)∧k≤l.length∧k≤10∧(k=l.length ∨ k=10 ∨ l.getD k 0<128)
theorem run_ex (l:List Int):∃ k,Run l k := by
  have:∀ (j i:Nat),i+j=min 10 l.length→(∀ m,m<i→128≤l.getD m 0)→∃ k,Run l k := by
    intro j
    induction j with
    | zero=>intro i hi h; exact ⟨i,h,by omega,by omega,by omega⟩
    | succ j ih =>
      intro i hi h
      by_cases hb:128≤l.getD i 0
      · exact ih (i+1) (by omega) (fun m hm=>by
          by_cases e:m=i
          · subst e; exact hb
          · exact h m (by omega))
      · exact ⟨i,h,by omega,by omega,by omega⟩
  exact this (min 10 l.length) 0 (by omega) (fun m hm=>by omega)
def rdK (l:List Int) (k:Nat):Int × Int × Int :=
  if k=10 then (0,0,11) else if k=l.length then (0,0,10) else if k=9∧l.getD 9 0 > 1 then (0,0,11) else if 0<k∧l.getD k 0=0 then (0,0,11) else (v7 (l.take (k+1)),(k:Int)+1,0)
theorem shl7 {y:Int} {i:Nat} (h0:0≤y) (h1:y*128 ^ i<18446744073709551616) (hi:i<10):shlv .u64 y (IntKind.wrap .i64 (7*(i:Int)))=y*128 ^ i := by
  rw [wi64 (by omega) (by omega)]
  unfold shlv
  rw [show ((7*(i:Int)).toNat)=7*i by omega,show min (7*i) (IntKind.bits .u64)=7*i by simp [IntKind.bits]; omega,← p128,wu64]
  have:0≤y*128 ^ i := Int.mul_nonneg h0 (Int.le_of_lt (Int.pow_pos (by decide)))
  exact Int.emod_eq_of_lt this h1
theorem or_pow7 {a y:Int} {i:Nat} (ha:0≤a) (hb:a<128 ^ i) (h0:0≤y) (h1:y*128 ^ i<18446744073709551616) (hi:i<10):bits .or .u64 a (y*128 ^ i)=a+y*128 ^ i := by
  obtain ⟨m,rfl⟩ := Int.eq_ofNat_of_zero_le ha
  obtain ⟨n,rfl⟩ := Int.eq_ofNat_of_zero_le h0
  have e:((128:Int) ^ i)=((2 ^ (7*i):Nat):Int) := by rw [Nat.pow_mul]; simp
  rw [e] at hb h1 ⊢
  have hb':m<2 ^ (7*i) := by exact_mod_cast hb
  have e2:((n:Int)*((2 ^ (7*i):Nat):Int))=((n*2 ^ (7*i):Nat):Int) := by simp
  rw [e2] at h1 ⊢
  have hm:m<2 ^ 64 := Nat.lt_of_lt_of_le hb' (Nat.pow_le_pow_right (by decide) (by omega))
  rw [or_u .u64 rfl _ _ hm (by simp only [IntKind.bits]; omega),or_add hb']
  simp
theorem isGr_v7 {l:List Int} {i:Nat} (hl:i<l.length) (h:i=0 ∨ 1≤l.getD i 0 % 128):IsGr (v7 (l.take (i+1))) (i+1) := by
  have h1 := v7_bound (l.take (i+1))
  rw [List.length_take,Nat.min_eq_left (by omega)] at h1
  refine ⟨by omega,h1.2,?_⟩
  rcases h with rfl | h
  · exact .inl rfl
  · right
    rw [v7_take_succ l i hl,Nat.add_sub_cancel]
    have h2 := v7_bound (l.take i)
    have h3 := Int.mul_le_mul_of_nonneg_right h (p128pos i)
    rw [Int.one_mul] at h3
    omega
theorem small_v7 {l:List Int} {i:Nat} (hl:i<l.length) (h:l.getD i 0 % 128=0):v7 (l.take (i+1))<128 ^ i := by
  have h1 := v7_bound (l.take i)
  rw [List.length_take,Nat.min_eq_left (by omega)] at h1
  rw [v7_take_succ l i hl,h]
  omega
theorem read_loop {l:List Int} (hb:Bytes l) {K:Nat} (hR:Run l K):∀ (j i k:Nat),i+j=min 10 l.length→i≤K→j<k→codec_ReadShort.lo1 l (l.take (min 10 l.length)) k (v7 (l.take i)) (i:Int)=some (rdK l K) := by
  obtain ⟨r1,r2,r3,r4⟩ := hR
  intro j
  induction j with
  | zero =>
    intro i k hi hK hk
    obtain ⟨k,rfl⟩:∃ m,k=m+1 := ⟨k - 1,by omega⟩
    unfold codec_ReadShort.lo1
    rw [if_neg (by simp; omega)]
    have hKi:K=i := by omega
    subst hKi
    unfold codec_ReadShort_1.f rdK
    simp only [Option.bind_some]
    by_cases h:(l.length:Int)≥10
    · rw [if_pos h,if_pos (by omega)]
    · rw [if_neg h,if_neg (by omega),if_pos (by omega)]
  | succ j ih =>
    intro i k hi hK hk
    obtain ⟨k,rfl⟩:∃ m,k=m+1 := ⟨k - 1,by omega⟩
    have hlen:(l.take (min 10 l.length)).length=min 10 l.length := by simp
    have hgd:(l.take (min 10 l.length)).getD i 0=l.getD i 0 := by simp [List.getD_eq_getElem?_getD,show i<min 10 l.length by omega,show i<l.length by omega]
    have hg := hb.get (i:=i) (by omega)
    unfold codec_ReadShort.lo1
    rw [if_pos (by omega)]
    unfold codec_ReadShort.jo2
    rw [if_pos (by omega),if_pos (by omega)]
    simp only [lt]
    rw [Int.toNat_natCast,hgd,andNot128 hg.1 hg.2,wu64,show l.getD i 0 % 128 % 18446744073709551616=l.getD i 0 % 128 by omega]
    obtain ⟨L,hL,hL64,hLa,hLb⟩ := len_val k (v:=l.getD i 0 % 128) (by omega) (by omega)
    have hL7:L≤7 := by
      by_cases e:L≤7
      · exact e
      · exfalso
        rcases hLb with ⟨h1,_⟩ | ⟨_,h1⟩
        · omega
        · have := pmono (show (1:Int)≤2 by decide) (show 7≤L - 1 by omega)
          omega
    rw [hL]
    simp only [Option.bind_some]
    rw [wi64 (n:=7*(i:Int)) (by omega) (by omega),wi64 (n:=(L:Int)+7*(i:Int)) (by omega) (by omega)]
    unfold codec_ReadShort_1.f
    simp only [Option.bind_some]
    by_cases hbig:(L:Int)+7*(i:Int) > 64
    · rw [if_pos hbig]
      have hi9:i=9 := by omega
      have hL2:2≤L := by omega
      have h2:2≤l.getD i 0 % 128 := by
        rcases hLb with ⟨h1,_⟩ | ⟨_,h1⟩
        · omega
        · have := pmono (show (1:Int)≤2 by decide) (show 1≤L - 1 by omega)
          omega
      unfold rdK
      by_cases hK10:K=10
      · rw [if_pos hK10]
      · have:K=9 := by omega
        subst this
        subst hi9
        rw [if_neg (by omega),if_neg (by omega),if_pos ⟨rfl,by omega⟩]
    · rw [if_neg hbig]
      unfold codec_ReadShort.jo3
      simp only [lt]
      rw [wi64 (n:=7*(i:Int)) (by omega) (by omega),if_pos (by omega),wu64,show l.getD i 0 % 128 % 18446744073709551616=l.getD i 0 % 128 by omega,Int.toNat_natCast,hgd]
      have hp:l.getD i 0 % 128*128 ^ i<18446744073709551616 := by
        have h1:l.getD i 0 % 128+1≤2 ^ L := hLa
        have h2 := Int.mul_le_mul_of_nonneg_right h1 (p128pos i)
        have h3:(2:Int) ^ L*128 ^ i≤18446744073709551616 := by
          rw [p128,← Int.pow_add]
          exact Int.le_trans (pmono (by decide) (show L+7*i≤64 by omega)) (by decide)
        have h4:(0:Int)<128 ^ i := Int.pow_pos (by decide)
        rw [Int.add_mul,Int.one_mul] at h2
        omega
      have hvb := v7_bound (l.take i)
      rw [List.length_take,Nat.min_eq_left (by omega)] at hvb
      have hs := shl7 (y:=l.getD i 0 % 128) (i:=i) (by omega) hp (by omega)
      rw [wi64 (by omega) (by omega)] at hs
      rw [hs,or_pow7 hvb.1 hvb.2 (by omega) hp (by omega),← v7_take_succ l i (by omega),wi64 (by omega) (by omega)]
      by_cases hlow:l.getD i 0<128
      · rw [if_pos hlow]
        have hKi:K=i := by
          by_cases e:K=i
          · exact e
          · have := r1 i (by omega)
            omega
        subst hKi
        have hu:v7 (l.take (K+1))<18446744073709551616 := by
          rw [v7_take_succ l K (by omega)]
          have h1:l.getD K 0 % 128+1≤2 ^ L := hLa
          have h2 := Int.mul_le_mul_of_nonneg_right h1 (p128pos K)
          have h3:(2:Int) ^ L*128 ^ K≤18446744073709551616 := by
            rw [p128,← Int.pow_add]
            exact Int.le_trans (pmono (by decide) (show L+7*K≤64 by omega)) (by decide)
          rw [Int.add_mul,Int.one_mul] at h2
          omega
        have h0 := (v7_bound (l.take (K+1))).1
        unfold rdK
        by_cases hz:0<K∧l.getD K 0=0
        · obtain ⟨g,he,hg10,hgr⟩ := groups_val k h0 hu
          have hlt := small_v7 (l:=l) (i:=K) (by omega) (by omega)
          have hne:¬ (g:Int)=(K:Int)+1 := by
            intro e
            have e2:g=K+1 := by omega
            subst e2
            rcases hgr.2.2 with h | h
            · omega
            · rw [Nat.add_sub_cancel] at h
              omega
          rw [he]
          simp only [Option.bind_some]
          rw [if_neg hne,if_neg (by omega),if_neg (by omega),if_neg (by rintro ⟨rfl,h⟩; omega),if_pos hz]
          rfl
        · have hgr := isGr_v7 (l:=l) (i:=K) (by omega) (by omega)
          rw [groups_is k h0 hu hgr]
          simp only [Option.bind_some]
          have h91:¬ (K=9∧l.getD 9 0 > 1) := by
            rintro ⟨rfl,h⟩
            have hL1:L≤1 := by omega
            have := pmono (show (1:Int)≤2 by decide) hL1
            omega
          rw [if_pos (by omega),if_neg (by omega),if_neg (by omega),if_neg h91,if_neg hz]
      · rw [if_neg hlow]
        have hne:K≠i := by
          rintro rfl
          omega
        have := ih (i+1) k (by omega) (by omega) (by omega)
        rw [show ((i+1:Nat):Int)=(i:Int)+1 by omega] at this
        exact this
theorem codec_ReadShort_val {l:List Int} (hb:Bytes l) {K:Nat} (hR:Run l K) {k:Nat} (hk:11≤k):codec_ReadShort.f k l=some (rdK l K) := by
  unfold codec_ReadShort.f
  have e:(if (10:Int)<(l.length:Int) then (10:Int) else (l.length:Int))=((min 10 l.length:Nat):Int) := by split <;> omega
  rw [e]
  simp only [lt]
  rw [if_pos (by omega),if_pos (by omega),Int.toNat_natCast]
  have := read_loop hb hR (min 10 l.length) 0 k (by omega) (by omega) (by omega)
  simpa [v7] using this
theorem low_loop (l:List Int) (x:Int) (T:Nat) (hT:T≤l.length) (hT10:T≤10) (hb:Bytes l) (hx0:0≤x) (hx1:x≤100) (hu:v7 (l.take T)<18446744073709551616):∀ (j k:Nat),j≤T→j<k →
    shadowboxref01_ReadShort.lo5 l x k (v7 ((l.take T).drop j)) ((j:Int) - 1)=some (v7 (l.take T),x+1,0) := by
  intro j
  induction j with
  | zero =>
    intro k hj hk
    obtain ⟨k,rfl⟩:∃ m,k=m+1 := ⟨k - 1,by omega⟩
    unfold shadowboxref01_ReadShort.lo5
    rw [if_neg (by omega),wi64 (by omega) (by omega)]
    simp
  | succ j ih =>
    intro k hj hk
    obtain ⟨k,rfl⟩:∃ m,k=m+1 := ⟨k - 1,by omega⟩
    unfold shadowboxref01_ReadShort.lo5
    have hlen:(l.take T).length=T := by simp; omega
    have hg := hb.get (i:=j) (by omega)
    have hd:(l.take T).getD j 0=l.getD j 0 := by simp [List.getD_eq_getElem?_getD,show j<T by omega]
    have h1 := v7_drop (l:=l.take T) (i:=j) (by omega)
    rw [hd] at h1
    have h2 := v7_drop_le (l.take T) j
    have h3 := v7_bound ((l.take T).drop (j+1))
    rw [if_pos (by omega),if_pos (by omega),if_pos (by omega)]
    simp only [lt]
    rw [show (((j+1:Nat):Int) - 1).toNat=j by omega,tm _ hg.1,wu64,wu64,wu64,wi64 (by omega) (by omega)]
    rw [show (v7 ((l.take T).drop (j+1))*128 % 18446744073709551616+l.getD j 0 % 128 % 18446744073709551616) % 18446744073709551616=v7 ((l.take T).drop j) by omega]
    rw [show (((j+1:Nat):Int) - 1 - 1)=(j:Int) - 1 by omega]
    exact ih k (by omega) (by omega)
theorem v7_u64 {l:List Int} {K:Nat} (hK:K<l.length) (h9:K≤9) (hb:Bytes l) (h:¬ (K=9∧l.getD 9 0 > 1)):v7 (l.take (K+1))<18446744073709551616 := by
  by_cases e:K=9
  · subst e
    have hg := hb.get (i:=9) (by omega)
    rw [v7_take_succ l 9 hK]
    have h1 := v7_bound (l.take 9)
    rw [List.length_take,Nat.min_eq_left (by omega)] at h1
    have h2:l.getD 9 0 % 128≤1 := by omega
    have h3 := Int.mul_le_mul_of_nonneg_right h2 (show (0:Int)≤128 ^ 9 by decide)
    have h4:(128:Int) ^ 9=9223372036854775808 := by decide
    rw [h4] at h1 h3 ⊢
    omega
  · have h1 := v7_bound (l.take (K+1))
    rw [List.length_take,Nat.min_eq_left (by omega)] at h1
    have := pmono (show (1:Int)≤128 by decide) (show K+1≤9 by omega)
    have h4:(128:Int) ^ 9=9223372036854775808 := by decide
    omega
theorem low_all (l:List Int) (K:Nat) (hK:K<l.length) (h9:K≤9) (hb:Bytes l) (h:¬ (K=9∧l.getD 9 0 > 1)) {k:Nat} (hk:11≤k):shadowboxref01_ReadShort.lo5 l (K:Int) k 0 (K:Int)=some (v7 (l.take (K+1)),(K:Int)+1,0) := by
  have := low_loop l (K:Int) (K+1) (by omega) (by omega) hb (by omega) (by omega) (v7_u64 hK h9 hb h) (K+1) k (by omega) (by omega)
  rw [List.drop_of_length_le (by simp; omega),show ((K+1:Nat):Int) - 1=(K:Int) by omega] at this
  exact this
theorem ref_j1 {l:List Int} (hb:Bytes l) {K:Nat} (hR:Run l K) {k:Nat} (hk:11≤k):shadowboxref01_ReadShort.jo1 k l (K:Int)=some (rdK l K) := by
  obtain ⟨r1,r2,r3,r4⟩ := hR
  unfold shadowboxref01_ReadShort.jo1 rdK
  by_cases h10:K=10
  · rw [if_pos (by omega),if_pos h10]
  · rw [if_neg (by omega),if_neg h10]
    unfold shadowboxref01_ReadShort.jo2
    by_cases hl:K=l.length
    · rw [if_pos (by omega),if_pos hl]
    · rw [if_neg (by omega),if_neg hl]
      unfold shadowboxref01_ReadShort.jo3
      by_cases h9:K=9
      · subst h9
        rw [if_pos (by omega),if_pos (by omega)]
        rw [show ((9:Int)).toNat=9 from rfl]
        by_cases hg:l.getD 9 0 > 1
        · rw [if_pos hg,if_pos ⟨rfl,hg⟩]
        · rw [if_neg hg,if_neg (show ¬ (9=9∧l.getD 9 0 > 1) from fun h=>hg h.2),if_pos (by omega),if_pos (by omega),if_pos (by omega),Int.toNat_natCast]
          by_cases hz:l.getD 9 0=0
          · rw [if_pos hz,if_pos ⟨by omega,hz⟩]
          · rw [if_neg hz,if_neg (fun h=>hz h.2)]
            unfold shadowboxref01_ReadShort.jo4
            exact low_all l 9 (by omega) (by omega) hb (fun h=>hg h.2) hk
      · rw [if_neg (by omega),if_neg (show ¬ (K=9∧l.getD 9 0 > 1) from fun h=>h9 h.1)]
        by_cases h0:0<K
        · rw [if_pos (by omega),if_pos (by omega),if_pos (by omega),Int.toNat_natCast]
          by_cases hz:l.getD K 0=0
          · rw [if_pos hz,if_pos ⟨h0,hz⟩]
          · rw [if_neg hz,if_neg (fun h=>hz h.2)]
            unfold shadowboxref01_ReadShort.jo4
            exact low_all l K (by omega) (by omega) hb (fun h=>h9 h.1) hk
        · rw [if_neg (by omega),if_neg (fun h=>h0 h.1)]
          unfold shadowboxref01_ReadShort.jo4
          exact low_all l K (by omega) (by omega) hb (fun h=>h9 h.1) hk
theorem ref_l6 {l:List Int} (hb:Bytes l) {K:Nat} (hR:Run l K) (g:Int→Option (Int × Int × Int)):∀ (j i k:Nat),i+j=K→j<k→shadowboxref01_ReadShort.lo6 l g k (i:Int)=g (K:Int) := by
  obtain ⟨r1,r2,r3,r4⟩ := hR
  intro j
  induction j with
  | zero =>
    intro i k hi hk
    obtain ⟨k,rfl⟩:∃ m,k=m+1 := ⟨k - 1,by omega⟩
    have hiK:i=K := by omega
    subst hiK
    unfold shadowboxref01_ReadShort.lo6
    by_cases h1:(i:Int)<(l.length:Int)
    · rw [if_pos h1]
      by_cases h2:(i:Int)<10
      · rw [if_pos h2,if_pos (by omega),Int.toNat_natCast,if_neg (by omega)]
      · rw [if_neg h2]
    · rw [if_neg h1]
  | succ j ih =>
    intro i k hi hk
    obtain ⟨k,rfl⟩:∃ m,k=m+1 := ⟨k - 1,by omega⟩
    unfold shadowboxref01_ReadShort.lo6
    have := r1 i (by omega)
    rw [if_pos (by omega),if_pos (by omega),if_pos (by omega),Int.toNat_natCast,if_pos (by omega),wi64 (by omega) (by omega)]
    exact ih (i+1) k (by omega) (by omega)
theorem ref_ReadShort_val {l:List Int} (hb:Bytes l) {K:Nat} (hR:Run l K) {k:Nat} (hk:11≤k):shadowboxref01_ReadShort.f k l=some (rdK l K) := by
  unfold shadowboxref01_ReadShort.f
  have := ref_l6 hb hR (shadowboxref01_ReadShort.jo1 k l) K 0 k (by omega) (by have := hR.2.2.1; omega)
  rw [show ((0:Nat):Int)=0 from rfl] at this
  rw [this]
  exact ref_j1 hb hR hk
theorem sh_get:∀ (n:Nat) (v:Int) (j:Nat),j<n→128≤(sh n v).getD j 0 := by
  intro n
  induction n with
  | zero=>intro v j h; omega
  | succ n ih =>
    intro v j h
    cases j with
    | zero=>simp [sh]; omega
    | succ j=>simpa [sh] using ih (v / 128) j (by omega)
theorem sh_last:∀ (n:Nat) (v:Int),(sh n v).getD n 0=v / 128 ^ n := by
  intro n
  induction n with
  | zero=>intro v; simp [sh]
  | succ n ih =>
    intro v
    have := ih (v / 128)
    simp only [sh,List.getD_cons_succ]
    rw [this,dd (by decide),Int.pow_succ,Int.mul_comm]
theorem v7_sh:∀ (n:Nat) (v:Int),0≤v→v<128 ^ (n+1)→v7 (sh n v)=v := by
  intro n
  induction n with
  | zero =>
    intro v h0 h1
    simp [sh,v7]
    simp at h1
    omega
  | succ n ih =>
    intro v h0 h1
    simp only [sh,v7]
    rw [ih (v / 128) (by omega) (by rw [Int.pow_succ] at h1; exact Int.ediv_lt_of_lt_mul (by decide) h1)]
    omega
theorem sh_bytes:∀ (n:Nat) (v:Int),0≤v→v<128 ^ (n+1)→Bytes (sh n v) := by
  intro n
  induction n with
  | zero =>
    intro v h0 h1
    simp at h1
    exact Bytes.cons h0 (by omega) Bytes.nil
  | succ n ih =>
    intro v h0 h1
    exact Bytes.cons (by omega) (by omega) (ih _ (by omega) (by rw [Int.pow_succ] at h1; exact Int.ediv_lt_of_lt_mul (by decide) h1))
theorem get_app {l m:List Int} {i:Nat} (h:i<l.length):(l++m).getD i 0=l.getD i 0 := by
  simp [List.getD_eq_getElem?_getD,List.getElem?_append_left h]
theorem sh_run {v:Int} (h0:0≤v) {g:Nat} (hg:IsGr v g) (h10:g≤10) (m:List Int):Run (sh (g - 1) v++m) (g - 1) := by
  have h1 := hg.1
  have hlen:(sh (g - 1) v).length=g := by rw [sh_length]; omega
  refine ⟨fun j hj=>?_,by rw [List.length_append]; omega,by omega,.inr (.inr ?_)⟩
  · rw [get_app (by omega)]
    exact sh_get _ _ _ hj
  · rw [get_app (by omega),sh_last]
    have h2 := hg.2.1
    rw [show g=g - 1+1 by omega,Int.pow_succ] at h2
    exact Int.ediv_lt_of_lt_mul (Int.pow_pos (by decide)) (by rw [Int.mul_comm]; exact h2)
theorem sh_rd {v:Int} (h0:0≤v) (h64:v<18446744073709551616) {g:Nat} (hg:IsGr v g) (h10:g≤10) (m:List Int):rdK (sh (g - 1) v++m) (g - 1)=(v,(g:Int),0) := by
  have h1 := hg.1
  have hlen:(sh (g - 1) v).length=g := by rw [sh_length]; omega
  have hlast:(sh (g - 1) v++m).getD (g - 1) 0=v / 128 ^ (g - 1) := by rw [get_app (by omega),sh_last]
  have hp:(0:Int)<128 ^ (g - 1) := Int.pow_pos (by decide)
  unfold rdK
  rw [if_neg (by omega),if_neg (by rw [List.length_append]; omega),if_neg,if_neg]
  · rw [show g - 1+1=g by omega,List.take_append_of_le_length (by omega),List.take_of_length_le (by omega),v7_sh _ _ h0 (by rw [show g - 1+1=g by omega]; exact hg.2.1)]
    congr 2
    omega
  · rintro ⟨h2,h3⟩
    rw [hlast] at h3
    rcases hg.2.2 with h | h
    · omega
    · have:1≤v / 128 ^ (g - 1) := Int.le_ediv_of_mul_le hp (by rw [Int.one_mul]; exact h)
      omega
  · rintro ⟨h2,h3⟩
    generalize sh (g - 1) v++m=X at hlast h3
    rw [h2] at hlast
    rw [hlast] at h3
    have h4:(128:Int) ^ 9=9223372036854775808 := by decide
    rw [h4] at h3
    omega
theorem bl_bytes (s:ByteArray):Bytes (bl s) := fun x hx=>by
  simp only [bl,List.mem_map] at hx
  obtain ⟨b,_,rfl⟩ := hx
  have := b.toNat_lt
  omega
theorem str_bl (s:ByteArray):strOfNums (bl s)=s := by
  have:(strOfNums (bl s)).data=s.data := by
    apply Array.ext'
    rw [strOfNums_data,bl,List.map_map]
    have:((fun n:Int=>UInt8.ofNat n.toNat) ∘ fun b:UInt8=>(b.toNat:Int))=id := by
      funext b
      simp
    rw [this,List.map_id]
  cases h1:strOfNums (bl s) with
  | mk d=>cases s; rw [h1] at this; simp at this; subst this; rfl
def rtS (l:List Int) (K:Nat) (a:Int):ByteArray × Int × Int :=
  if (rdK l K).2.2=0 then
    if a<0 then (⟨#[]⟩,0,3) else if (rdK l K).1 > a then (⟨#[]⟩,0,3) else if (rdK l K).1 > (l.length:Int) - (rdK l K).2.1 then (⟨#[]⟩,0,10)
    else (strOfNums ((l.take ((rdK l K).2.1+(rdK l K).1).toNat).drop (rdK l K).2.1.toNat),(rdK l K).2.1+(rdK l K).1,0)
  else (⟨#[]⟩,0,(rdK l K).2.2)
theorem rd_cases {l:List Int} (hb:Bytes l) {K:Nat} (hR:Run l K):rdK l K=(0,0,11) ∨ rdK l K=(0,0,10) ∨ (K<l.length∧K≤9∧l.getD K 0<128∧¬ (0<K∧l.getD K 0=0)∧0≤v7 (l.take (K+1))∧v7 (l.take (K+1))<18446744073709551616∧rdK l K=(v7 (l.take (K+1)),(K:Int)+1,0)) := by
  obtain ⟨r1,r2,r3,r4⟩ := hR
  unfold rdK
  by_cases h1:K=10
  · rw [if_pos h1]; exact .inl rfl
  · rw [if_neg h1]
    by_cases h2:K=l.length
    · rw [if_pos h2]; exact .inr (.inl rfl)
    · rw [if_neg h2]
      by_cases h3:K=9∧l.getD 9 0 > 1
      · rw [if_pos h3]; exact .inl rfl
      · rw [if_neg h3]
        by_cases h4:0<K∧l.getD K 0=0
        · rw [if_pos h4]; exact .inl rfl
        · rw [if_neg h4]
          exact .inr (.inr ⟨by omega,by omega,by omega,h4,(v7_bound _).1,v7_u64 (by omega) (by omega) hb h3,rfl⟩)
theorem codec_ReadText_val {l:List Int} (hb:Bytes l) (hl:l.length≤140737488355328) {K:Nat} (hR:Run l K) {a:Int} (ha:-9223372036854775808≤a∧a<9223372036854775808) {k:Nat} (hk:11≤k):codec_ReadText.f k l a=some (rtS l K a) := by
  unfold codec_ReadText.f rtS
  rw [codec_ReadShort_val hb hR hk]
  simp only [Option.bind_some,lt]
  rcases rd_cases hb hR with e | e | ⟨h1,h2,h3,h4,h5,h6,e⟩
  · rw [e]; rfl
  · rw [e]; rfl
  · rw [e]
    simp only
    rw [if_pos True.intro,if_pos True.intro]
    by_cases c1:a<0
    · rw [if_pos c1,if_pos c1]
    · rw [if_neg c1,if_neg c1,wu64 a,show a % 18446744073709551616=a by omega]
      by_cases c2:v7 (l.take (K+1)) > a
      · rw [if_pos c2,if_pos c2]
      · rw [if_neg c2,if_neg c2,wi64 (n:=(l.length:Int) - ((K:Int)+1)) (by omega) (by omega),wu64,show ((l.length:Int) - ((K:Int)+1)) % 18446744073709551616=(l.length:Int) - ((K:Int)+1) by omega]
        by_cases c3:v7 (l.take (K+1)) > (l.length:Int) - ((K:Int)+1)
        · rw [if_pos c3,if_pos c3]
        · rw [if_neg c3,if_neg c3,wi64 (n:=v7 (l.take (K+1))) (by omega) (by omega),wi64 (by omega) (by omega),if_pos (by omega),if_pos (by omega),if_pos (by omega),if_pos (by omega)]
theorem ref_ReadText_val {l:List Int} (hb:Bytes l) (hl:l.length≤140737488355328) {K:Nat} (hR:Run l K) {a:Int} (ha:-9223372036854775808≤a∧a<9223372036854775808) {k:Nat} (hk:11≤k):shadowboxref01_ReadText.f k l a=some (rtS l K a) := by
  rw [← codec_ReadText_val hb hl hR ha hk]
  unfold shadowboxref01_ReadText.f codec_ReadText.f shadowboxref01_ReadText.jo1
  rw [codec_ReadShort_val hb hR hk,ref_ReadShort_val hb hR hk]
  simp only [Option.bind_some,lt]
theorem codec_Text_val {l:List Int} {s:ByteArray} (hl:l.length+s.size≤140737488355000) {g:Nat} (hg:IsGr (s.size:Int) g) (h10:g≤10) {k:Nat} (hk:11≤k):codec_Text.f k l s=some (l++sh (g - 1) (s.size:Int)++bl s) := by
  unfold codec_Text.f
  have := hg.1
  rw [wu64,show (s.size:Int) % 18446744073709551616=s.size by omega,codec_Short_val (by omega) (by omega) (by omega) hg h10 hk]
  simp only [Option.bind_some]
  rw [if_pos (by rw [List.length_append,sh_length]; omega)]
theorem ref_Text_val {l:List Int} {s:ByteArray} (hl:l.length+s.size≤140737488355000) {g:Nat} (hg:IsGr (s.size:Int) g) (h10:g≤10) {k:Nat} (hk:11≤k):shadowboxref01_Text.f k l s=some (l++sh (g - 1) (s.size:Int)++bl s) := by
  unfold shadowboxref01_Text.f
  have := hg.1
  rw [wu64,show (s.size:Int) % 18446744073709551616=s.size by omega,refShort_val (by omega) (by omega) (by omega) hg h10 hk]
  simp only [Option.bind_some]
  rw [if_pos (by rw [List.length_append,sh_length]; omega)]
end Go.Proofs.Ythhhkphbhlafbaa.Rcd
