/- The pure statement of HmacChains; no condition. -/
import Derived.Test.YtnkcadofhhcfaaaSHmacChains
import Derived.Test.YtnkcadofhhcfaaaHch
set_option linter.unusedVariables false
set_option linter.unusedSimpArgs false
namespace Go.Proofs.Ytnkcadofhhcfaaa.Pure
open Go Go.RowKit Go.Proofs.Ytnkcadofhhcfaaa.Sx Go.Proofs.Ytnkcadofhhcfaaa.G Go.Proofs.Ytnkcadofhhcfaaa.Bt Go.Proofs.Ytnkcadofhhcfaaa.Sha Go.Proofs.Ytnkcadofhhcfaaa.Hm Go.Proofs.Ytnkcadofhhcfaaa.Hc
theorem k_by : By [(107 : Int)] := fun x hx => by
  have : x = 107 := by simpa using hx
  omega
theorem other (k : Nat) (hk : 700 ≤ k) : hmac_Chain.f k ([(107 : Int)]) ([] : List ByteArray) = some [(107 : Int)] :=
  Chain_val (ps := []) (fun p hp => by cases hp) (by simp) k_by (by simp) hk
theorem jo2_abs {k : Nat} {l m z : List Int} {ps : List ByteArray} (h1 : hmac_Chain.f k l ps = some z) (h2 : shadowboxref12_Chain.f k l ps = some z) (h3 : hmac_Same.f k z m = some (decide (z = m))) (h4 : hmac_Same.f k z z = some true)
    (h5 : ((strOfNums z).toList == (strOfNums m).toList) = decide (z = m)) (h6 : z.length ≤ 100000) (h7 : hmac_Chain.f k ([(107 : Int)]) ([] : List ByteArray) = some [(107 : Int)]) : shadowboxlaw12_HmacChains.jo2 k l ps m = some true := by
  unfold shadowboxlaw12_HmacChains.jo2
  rw [h1, Option.bind_some, h2, Option.bind_some, if_pos (by simp), h3, Option.bind_some, if_pos (by rw [h5]; simp), if_pos (by simp; omega), List.nil_append, h4, Option.bind_some, if_pos rfl, h7, Option.bind_some]
  rfl
theorem lo3_val {ps : List ByteArray} (jo : Option Bool) (hB : ps.length ≤ 10) (h : (∀ p ∈ ps, p.size ≤ 100) → jo = some true) : ∀ (j x k : Nat), x + j = ps.length → j < k → (∀ i, i < x → (ps.getD i ByteArray.empty).size ≤ 100) → shadowboxlaw12_HmacChains.lo3 ps jo k (x : Int) = some true := by
  intro j
  induction j with
  | zero =>
    intro x k hx hk hp
    obtain ⟨k, rfl⟩ : ∃ q, k = q + 1 := ⟨k - 1, by omega⟩
    rw [shadowboxlaw12_HmacChains.lo3, if_neg (by omega)]
    refine h (fun p hpm => ?_)
    obtain ⟨i, hi, rfl⟩ := List.getElem_of_mem hpm
    have := hp i (by omega)
    rwa [List.getD_eq_getElem?_getD, List.getElem?_eq_getElem hi, Option.getD_some] at this
  | succ j ih =>
    intro x k hx hk hp
    obtain ⟨k, rfl⟩ : ∃ q, k = q + 1 := ⟨k - 1, by omega⟩
    rw [shadowboxlaw12_HmacChains.lo3, if_pos (by omega), if_pos (by omega)]
    simp only [lt, show ((x : Int)).toNat = x from by omega]
    split
    · rfl
    · rename_i h1
      rw [wi64 (by omega) (by omega), show ((x : Int) + 1) = ((x + 1 : Nat) : Int) from by omega]
      refine ih (x + 1) k (by omega) (by omega) (fun i hi => ?_)
      by_cases e : i = x
      · subst e; omega
      · exact hp i (by omega)
theorem HmacChains : S.HmacChains := by
  intro l ps m hl hw hps hpw hm hmw
  refine ⟨2000, ?_⟩
  unfold shadowboxlaw12_HmacChains.f
  rw [other 2000 (by omega), Option.bind_some]
  split
  · rfl
  · split
    · rfl
    · split
      · rfl
      · unfold shadowboxlaw12_HmacChains.jo1
        refine lo3_val _ (by omega) (fun hp => ?_) ps.length 0 2000 (by omega) (by omega) (fun i hi => by omega)
        have hp' : ∀ p ∈ ps, p.size ≤ 1000 := fun p h => by have := hp p h; omega
        have hlb := lwf hw
        have hmb := lwf hmw
        have zl := chain_len ps l (by omega)
        have zb := chain_by ps l hlb
        exact jo2_abs (Chain_val hp' (by omega) hlb (by omega) (by omega)) (rChain_val hp' (by omega) hlb (by omega) (by omega)) (Same_val zb hmb (by omega) (by omega)) ((Same_val zb zb (by omega) (by omega)).trans (congrArg some (decide_eq_true rfl))) (eqb_dec zb hmb) (by omega) (other 2000 (by omega))
end Go.Proofs.Ytnkcadofhhcfaaa.Pure
