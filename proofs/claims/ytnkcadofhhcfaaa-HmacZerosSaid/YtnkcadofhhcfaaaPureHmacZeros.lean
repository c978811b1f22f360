/- The pure statement of HmacZeros; no condition. -/
import Derived.Test.YtnkcadofhhcfaaaSHmacZeros
import Derived.Test.YtnkcadofhhcfaaaHch
set_option linter.unusedVariables false
set_option linter.unusedSimpArgs false
namespace Go.Proofs.Ytnkcadofhhcfaaa.Pure
open Go Go.RowKit Go.Proofs.Ytnkcadofhhcfaaa.Sx Go.Proofs.Ytnkcadofhhcfaaa.G Go.Proofs.Ytnkcadofhhcfaaa.Bt Go.Proofs.Ytnkcadofhhcfaaa.Sha Go.Proofs.Ytnkcadofhhcfaaa.Hm Go.Proofs.Ytnkcadofhhcfaaa.Hc
theorem zeros_get (l : List Int) (j i : Nat) : (l ++ List.replicate j 0).getD i 0 = l.getD i 0 := by
  rw [List.getD_eq_getElem?_getD, List.getD_eq_getElem?_getD]
  by_cases h : i < l.length
  · rw [List.getElem?_append_left h]
  · rw [List.getElem?_append_right (by omega), List.getElem?_replicate, List.getElem?_eq_none (by omega : l.length ≤ i)]
    split <;> rfl
theorem mac_zeros {l : List Int} {j : Nat} (h : (l ++ List.replicate j 0).length ≤ 64) (m : List Int) : macL (l ++ List.replicate j 0) m = macL l m := by
  have h1 : l.length ≤ 64 := by simp at h; omega
  unfold macL key
  rw [if_neg (by omega), if_neg (by omega), pd_congr 92 (zeros_get l j), pd_congr 54 (zeros_get l j)]
theorem tx_len (v : List Int) : ∀ (j : Nat) (x : Int), (Hx.tx v j x).length = 2 * j
  | 0, _ => rfl
  | j + 1, x => by rw [Hx.tx]; simp [tx_len v j]; omega
theorem text_size (l m : List Int) : (textL l m).size = 64 := by
  unfold textL Hx.hexL
  rw [Hx.son_size, tx_len, (macL l m).2]
theorem x_by : ∀ p ∈ ([(⟨#[120]⟩ : ByteArray)] : List ByteArray), p.size ≤ 1000 := fun p hp => by
  have : p = ⟨#[120]⟩ := by simpa using hp
  subst this
  decide
theorem jo3_abs {k : Nat} {l b l7 z : List Int} {y : Vc Int 32} {t : ByteArray} (h1 : hmac_Mac.f k l b = some y) (h2 : hmac_Chain.f k l ([strOfNums b, (⟨#[120]⟩ : ByteArray)]) = some z) (h3 : hmac_Mac.f k l7 b = some y)
    (h4 : hmac_Chain.f k y.1 ([(⟨#[120]⟩ : ByteArray)]) = some z) (h5 : hmac_Same.f k z z = some true) (h6 : z.length = 32) (h7 : hmac_Text.f k l b = some t) (h8 : t.size = 64) : shadowboxlaw12_HmacZeros.jo3 k l b l7 = some true := by
  unfold shadowboxlaw12_HmacZeros.jo3
  rw [h1, Option.bind_some, h2, Option.bind_some, h3, Option.bind_some, if_pos (by simp), h4, Option.bind_some, h5, Option.bind_some, if_pos rfl, if_pos (by omega), h7, Option.bind_some, h8]
  rfl
theorem jo3_val {l b : List Int} {j : Nat} (hl : By l) (hll : l.length ≤ 64) (hb : By b) (hbl : b.length ≤ 500) (hj : (l ++ List.replicate j 0).length ≤ 64) : shadowboxlaw12_HmacZeros.jo3 2000 l b (l ++ List.replicate j 0) = some true := by
  have hj2 : By (l ++ List.replicate j 0) := fun x hx => by
    rcases List.mem_append.1 hx with hx | hx
    · exact hl x hx
    · have := List.eq_of_mem_replicate hx; omega
  have e1 : chainL l [strOfNums b, (⟨#[120]⟩ : ByteArray)] = chainL (macL l b).1 [(⟨#[120]⟩ : ByteArray)] := by
    rw [chainL, bl_son hb]
  have h1 := Mac_val hl (by omega) hb (by omega) (k := 2000) (by omega) (by omega)
  have h3 := Mac_val hj2 (by omega) hb (by omega) (k := 2000) (by omega) (by omega)
  rw [mac_zeros hj] at h3
  have h2 := Chain_val (ps := [strOfNums b, (⟨#[120]⟩ : ByteArray)]) (fun p hp => by
      rcases List.mem_cons.1 hp with rfl | hp
      · rw [Hx.son_size]; omega
      · exact x_by p hp) (by simp) hl (by omega) (k := 2000) (by omega)
  rw [e1] at h2
  have h4 := Chain_val (ps := [(⟨#[120]⟩ : ByteArray)]) x_by (by simp) (macL_by l b) (by rw [(macL l b).2]; omega) (k := 2000) (by omega)
  have zb := chain_by [(⟨#[120]⟩ : ByteArray)] _ (macL_by l b)
  have zl : (chainL (macL l b).1 [(⟨#[120]⟩ : ByteArray)]).length = 32 := by
    rw [chainL, chainL]
    exact (macL _ _).2
  have h7 := Text_val hl (by omega) hb (by omega) (k := 2000) (by omega) (by omega)
  have h5 := Same_val zb zb (by omega) (k := 2000) (by omega)
  exact jo3_abs h1 h2 h3 h4 (h5.trans (congrArg some (decide_eq_true rfl))) zl h7 (text_size l b)
theorem lo4_val {a : Int} {l : List Int} (jo : List Int → Option Bool) (ha : 0 ≤ bits .and .i64 a 63 ∧ bits .and .i64 a 63 ≤ 63) (h : ∀ j, (l ++ List.replicate j 0).length ≤ 64 → jo (l ++ List.replicate j 0) = some true) :
    ∀ (q k i j : Nat), i + q = 64 → q + 1 ≤ k → (l ++ List.replicate j 0).length ≤ 64 → shadowboxlaw12_HmacZeros.lo4 a jo k (l ++ List.replicate j 0) (i : Int) = some true := by
  intro q
  induction q with
  | zero =>
    intro k i j hi hk hj
    obtain ⟨k, rfl⟩ : ∃ q, k = q + 1 := ⟨k - 1, by omega⟩
    rw [shadowboxlaw12_HmacZeros.lo4, if_neg (by omega)]
    exact h j hj
  | succ q ih =>
    intro k i j hi hk hj
    obtain ⟨k, rfl⟩ : ∃ q, k = q + 1 := ⟨k - 1, by omega⟩
    rw [shadowboxlaw12_HmacZeros.lo4]
    by_cases h1 : (i : Int) < bits .and .i64 a 63
    · rw [if_pos h1]
      by_cases h2 : ((l ++ List.replicate j 0).length : Int) < 64
      · rw [if_pos h2, if_pos (by simp at h2 ⊢; omega), wi64 (by omega) (by omega), show ((i : Int) + 1) = ((i + 1 : Nat) : Int) from by omega]
        have e : l ++ List.replicate j 0 ++ [(0 : Int)] = l ++ List.replicate (j + 1) 0 := by rw [List.replicate_succ', List.append_assoc]
        rw [e]
        exact ih k (i + 1) (j + 1) (by omega) (by omega) (by simp at h2 ⊢; omega)
      · rw [if_neg h2]; exact h j hj
    · rw [if_neg h1]; exact h j hj
theorem and63 (a : Int) : 0 ≤ bits .and .i64 a 63 ∧ bits .and .i64 a 63 ≤ 63 := by
  have h : 0 ≤ bits .and .i64 a ((63 : Nat) : Int) ∧ bits .and .i64 a ((63 : Nat) : Int) ≤ ((63 : Nat) : Int) := by
    simp only [bits, bvi]
    have h1 : (BitVec.ofInt IntKind.i64.bits a &&& BitVec.ofNat IntKind.i64.bits 63).toNat ≤ 63 := by
      rw [BitVec.toNat_and]
      refine Nat.le_trans Nat.and_le_right ?_
      simp only [BitVec.toNat_ofNat]
      exact Nat.mod_le _ _
    rw [wi64 (by omega) (by omega)]
    omega
  exact h
theorem jo1_val {l b : List Int} (a : Int) (hl : By l) (hll : l.length ≤ 64) (hb : By b) : shadowboxlaw12_HmacZeros.jo1 2000 a b l = some true := by
  have key : ∀ b : List Int, By b → b.length ≤ 500 → shadowboxlaw12_HmacZeros.jo2 2000 a l b = some true := fun b hb hbl => by
    unfold shadowboxlaw12_HmacZeros.jo2
    rw [if_pos (by simp; omega)]
    have := lo4_val (a := a) (l := l) (shadowboxlaw12_HmacZeros.jo3 2000 l b) (and63 a) (fun j hj => jo3_val hl hll hb hbl hj) 64 2000 0 0 (by omega) (by omega) (by simpa using hll)
    simpa using this
  unfold shadowboxlaw12_HmacZeros.jo1
  split
  · rw [if_pos (by omega)]
    exact key _ (fun x hx => hb x (List.mem_of_mem_take hx)) (by simp; omega)
  · exact key _ hb (by omega)
theorem HmacZeros : S.HmacZeros := by
  intro l a b hl hw ha hbl hbw
  refine ⟨2000, ?_⟩
  unfold shadowboxlaw12_HmacZeros.f
  split
  · rw [if_pos (by omega)]
    exact jo1_val a (fun x hx => lwf hw x (List.mem_of_mem_take hx)) (by simp; omega) (lwf hbw)
  · exact jo1_val a (lwf hw) (by omega) (lwf hbw)
end Go.Proofs.Ytnkcadofhhcfaaa.Pure
