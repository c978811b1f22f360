/- The pure statement of LabelTorn; no condition. -/
import Derived.Test.YtnjijflgafghmaaSLabelTorn
import Derived.Test.YtnjijflgafghmaaLab
set_option linter.unusedVariables false
set_option linter.unusedSimpArgs false
namespace Go.Proofs.Ytnjijflgafghmaa.Pure
open Go Go.RowKit Go.Proofs.Ytnjijflgafghmaa.Sx Go.Proofs.Ytnjijflgafghmaa.G Go.Proofs.Ytnjijflgafghmaa.Bt Go.Proofs.Ytnjijflgafghmaa.Cod Go.Proofs.Ytnjijflgafghmaa.Ptr Go.Proofs.Ytnjijflgafghmaa.Lab
def ofS (l : List Int) (a : Int) : Lb := if (openL l).2 = 0 then (if Int.tmod (openL l).1.1 2 = a then (openL l).1 else zl) else zl
theorem of_val {l : List Int} (hb : Bytes l) (hl : l.length ≤ 100000) (a : Int) {k : Nat} (hk : 2000 ≤ k) : label_of.f k l a = some (ofS l a) := by
  unfold label_of.f ofS
  rw [Open_val hb hl hk]
  simp only [Option.bind_some]
  split
  · split <;> rfl
  · rfl
def chooseS (l m : List Int) : Lb × Bool := if (ofS l 0).1 > (ofS m 1).1 then (ofS l 0, true) else (ofS m 1, decide (1 ≤ (ofS m 1).1))
theorem of_one (l : List Int) (a : Int) : ofS l a = zl ∨ 1 ≤ (ofS l a).1 := by
  unfold ofS
  by_cases h : (openL l).2 = 0
  · rw [if_pos h]
    split
    · exact .inr (lright_parts (open_right h)).1.1
    · exact .inl rfl
  · rw [if_neg h]; exact .inl rfl
theorem choose_val {l m : List Int} (hb : Bytes l) (hl : l.length ≤ 100000) (hm : Bytes m) (hml : m.length ≤ 100000) {k : Nat} (hk : 2000 ≤ k) : label_Choose.f k l m = some (chooseS l m) := by
  unfold label_Choose.f chooseS
  rw [of_val hb hl _ hk, of_val hm hml _ hk]
  simp only [Option.bind_some]
  split
  · rfl
  · rcases of_one m 1 with h | h
    · rw [h]
      have e : (!((zl.1 == (0 : Int)) && (((zl.2.1.1 == (0 : Int)) && ((zl.2.1.2.1 == (0 : Int)) && ((zl.2.1.2.2.1 == (0 : Int)) && ((zl.2.1.2.2.2.1 == (0 : Int)) && (zl.2.1.2.2.2.2.1 == (vrep 32 (0 : Int)).1))))) && (zl.2.2 == (0 : Int))))) = decide (1 ≤ zl.1) := by decide +kernel
      rw [e]
    · rw [show ((ofS m 1).1 == (0 : Int)) = false by rw [beq_eq_false_iff_ne]; omega, decide_eq_true h]
      rfl
/-! What is read of a torn sector -/
theorem lb_504 {l m : List Int} (hl : l.length = 512) (hm : m.length = 512) (h : l.take 504 = m.take 504) : lbOf l = lbOf m := by
  have key : ∀ q : List Int, q.length = 512 → lbOf q = lbOf (q.take 504) := by
    intro q hq
    have e1 : (q.take 504).take 8 = q.take 8 := by rw [List.take_take]; rfl
    have e2 : ((q.take 504).drop 12).take 8 = (q.drop 12).take 8 := by rw [List.drop_take, List.take_take]; rfl
    have e3 : ((q.take 504).drop 20).take 52 = (q.drop 20).take 52 := by rw [List.drop_take, List.take_take]; rfl
    unfold lbOf
    rw [← readL_12 (q.drop 20) (by simp; omega), ← readL_12 ((q.take 504).drop 20) (by simp; omega), e1, e2, e3]
  rw [key l hl, key m hm, h]
theorem open_inv {l : List Int} (hb : Bytes l) (hl : l.length = 512) (h : (openL l).2 = 0) : (openL l).1 = lbOf l ∧ sealL (lbOf l) = l := by
  have ht : l.take 512 = l := List.take_of_length_le (by omega)
  unfold openL open2 at h ⊢
  rw [ht] at h ⊢
  rw [if_neg (by omega)] at h ⊢
  split at h
  · rename_i h1
    rw [if_pos h1]
    split at h
    · rename_i h2
      rw [if_pos h2]
      split at h
      · rename_i h3
        rw [if_pos h3]
        split at h
        · rename_i h4
          rw [if_pos h4]
          refine ⟨rfl, eqb_eq (seal_bytes ?_) hb h4⟩
          exact readL_bytes (hb.drop 20)
        · cases h
      · cases h
    · cases h
  · cases h
theorem seal_504 (a : Lb) : (sealL a).drop 504 = le 8 (u a.1) := by
  rw [seal_eq, show (504 : Nat) = 500 + 4 from rfl, ← List.drop_drop, List.drop_left' (body_len a), List.drop_left' (le_length 4 _)]
theorem le8_inj {x y : Int} (hx : 0 ≤ x ∧ x ≤ 1152921504606846976) (hy : 0 ≤ y ∧ y ≤ 1152921504606846976) (h : le 8 (u x) = le 8 (u y)) : x = y := by
  have p8 : (256 : Int) ^ 8 = 18446744073709551616 := by decide
  have h1 := congrArg val h
  rw [val_le _ _ (u_u64 _).1, val_le _ _ (u_u64 _).1, p8] at h1
  unfold u at h1
  rw [wu64, wu64] at h1
  omega
def torn (b o : List Int) (c : Nat) : List Int := b.take c ++ o.drop c
theorem torn_len {b o : List Int} (hb : b.length = 512) (ho : o.length = 512) {c : Nat} (hc : c ≤ 512) : (torn b o c).length = 512 := by
  unfold torn; simp; omega
theorem torn_drop {b o : List Int} {c n : Nat} (hb : c ≤ b.length) (h : c ≤ n) : (torn b o c).drop n = o.drop n := by
  unfold torn
  obtain ⟨j, rfl⟩ : ∃ j, n = c + j := ⟨n - c, by omega⟩
  rw [← List.drop_drop, List.drop_left' (by simp; omega), List.drop_drop]
theorem torn_take {b o : List Int} {c n : Nat} (hb : n ≤ b.length) (h : n ≤ c) : (torn b o c).take n = b.take n := by
  unfold torn
  rw [List.take_append_of_le_length (by simp; omega), List.take_take, Nat.min_eq_left h]
theorem torn_open {o : List Int} {e p : Int} (h1 : 1 ≤ e) (h2 : e ≤ 300000000) (hp : 1 ≤ p ∧ p ≤ 100000) (hob : Bytes o) (ho : o.length = 512) (hoe : o.drop 504 = le 8 (u (e - 1))) {c : Nat} (hc : c ≤ 512)
    (h : (openL (torn (sealL (e + 1, zp, p)) o c)).2 = 0) : (openL (torn (sealL (e + 1, zp, p)) o c)).1.1 = e - 1 ∨ ((openL (torn (sealL (e + 1, zp, p)) o c)).1 = (e + 1, zp, p) ∧ torn (sealL (e + 1, zp, p)) o c = sealL (e + 1, zp, p)) := by
  have hb := seal_bytes (a := ((e + 1, zp, p) : Lb)) zp_bytes
  have hbl := seal_len ((e + 1, zp, p) : Lb)
  have hr : lrightB ((e + 1, zp, p) : Lb) = true := by
    unfold lrightB inB
    rw [decide_eq_true (by simp only []; omega), decide_eq_true (by simp only []; omega), noneB_zp]
    rfl
  have hlb := (seal_lb (a := ((e + 1, zp, p) : Lb)) ⟨show (0 : Int) ≤ 0 by decide, show (0 : Int) < 4294967296 by decide⟩ hr).1
  have hT := torn_len hbl ho hc
  have hTb : Bytes (torn (sealL (e + 1, zp, p)) o c) := (hb.take c).append (hob.drop c)
  obtain ⟨i1, i2⟩ := open_inv hTb hT h
  have hri := open_right h
  rw [i1] at hri ⊢
  by_cases h5 : c ≤ 504
  · left
    have e1 : (torn (sealL (e + 1, zp, p)) o c).drop 504 = o.drop 504 := torn_drop (by omega) h5
    have e2 := seal_504 (lbOf (torn (sealL (e + 1, zp, p)) o c))
    rw [i2, e1, hoe] at e2
    have h6 := (lright_parts hri).1
    exact (le8_inj ⟨by omega, by omega⟩ ⟨by omega, h6.2⟩ e2).symm
  · right
    have e1 : (torn (sealL (e + 1, zp, p)) o c).take 504 = (sealL (e + 1, zp, p)).take 504 := torn_take (by omega) (by omega)
    have e2 := lb_504 hT hbl e1
    rw [hlb] at e2
    exact ⟨e2, by rw [← i2, e2]⟩
theorem tm2 {e : Int} (h : 0 ≤ e) : Int.tmod e 2 = e % 2 := tm 2 h
theorem of_torn {o : List Int} {e p : Int} (h1 : 1 ≤ e) (h2 : e ≤ 300000000) (hp : 1 ≤ p ∧ p ≤ 100000) (hob : Bytes o) (ho : o.length = 512) (hoe : o.drop 504 = le 8 (u (e - 1))) {c : Nat} (hc : c ≤ 512) (a : Int) :
    (ofS (torn (sealL (e + 1, zp, p)) o c) a).1 ≤ e - 1 ∨ (ofS (torn (sealL (e + 1, zp, p)) o c) a = (e + 1, zp, p) ∧ torn (sealL (e + 1, zp, p)) o c = sealL (e + 1, zp, p)) := by
  unfold ofS
  by_cases h : (openL (torn (sealL (e + 1, zp, p)) o c)).2 = 0
  · rw [if_pos h]
    split
    · rcases torn_open h1 h2 hp hob ho hoe hc h with h3 | h3
      · exact .inl (by omega)
      · exact .inr h3
    · exact .inl (show (0 : Int) ≤ e - 1 by omega)
  · rw [if_neg h]; exact .inl (show (0 : Int) ≤ e - 1 by omega)
theorem right_of {e p : Int} (h1 : 1 ≤ e) (h2 : e ≤ 300000001) (hp : 1 ≤ p ∧ p ≤ 100000) : lrightB ((e, zp, p) : Lb) = true := by
  unfold lrightB inB
  rw [decide_eq_true (by simp only []; omega), decide_eq_true (by simp only []; omega), noneB_zp]
  rfl
theorem of_seal {e p : Int} (h1 : 1 ≤ e) (h2 : e ≤ 300000001) (hp : 1 ≤ p ∧ p ≤ 100000) : ofS (sealL (e, zp, p)) (e % 2) = (e, zp, p) := by
  have e0 := open_seal (a := ((e, zp, p) : Lb)) zp_bytes ⟨show (0 : Int) ≤ 0 by decide, show (0 : Int) < 4294967296 by decide⟩ (right_of h1 h2 hp) []
  rw [List.append_nil] at e0
  unfold ofS
  rw [e0]
  simp only [tm2 (show 0 ≤ e by omega), if_true]
theorem seal_val {e p : Int} (h1 : 1 ≤ e) (h2 : e ≤ 300000001) (hp : 1 ≤ p ∧ p ≤ 100000) : label_Seal.f 3000 ((e, zp, p) : Lb) = some (sealL (e, zp, p), e % 2, 0) := by
  rw [Seal_val (a := ((e, zp, p) : Lb)) zp_bytes (by omega)]
  unfold sealS
  rw [if_pos (right_of h1 h2 hp)]
  simp only [tm2 (show 0 ≤ e by omega)]
def eqL (m : Lb) (e p : Int) : Bool := (m.1 == e) && (((m.2.1.1 == (0 : Int)) && ((m.2.1.2.1 == (0 : Int)) && ((m.2.1.2.2.1 == (0 : Int)) && ((m.2.1.2.2.2.1 == (0 : Int)) && (m.2.1.2.2.2.2.1 == (vrep 32 (0 : Int)).1))))) && (m.2.2 == p))
theorem eqL_self (e p : Int) : eqL (e, zp, p) e p = true := by
  have : (noneB zp) = true := noneB_zp
  unfold eqL
  unfold noneB at this
  simp only [this, beq_self_eq_true, Bool.and_self]
theorem eqL_ne {m : Lb} {e p : Int} (h : m.1 ≠ e) : eqL m e p = false := by
  unfold eqL
  rw [beq_eq_false_iff_ne.2 h]
  rfl
theorem jo3_val {e y5 p c : Int} (b : List Int) (t1 t2 : Int) {l : List Int} {m : Lb} (hw5 : IntKind.wrap .i64 (1 + y5) = p) (hw2 : IntKind.wrap .i64 (e + 1) = e + 1) {y9 q y19 : Int} (hw9 : IntKind.wrap .i64 (1 + y9) = q)
    (h : (m = (e, zp, p) ∧ Int.tmod y19 513 < 512) ∨ (m = (e + 1, zp, q) ∧ l = b)) : shadowboxlaw08_LabelTorn.jo3 e y5 y9 (b, t1, t2) y19 l true m = some true := by
  unfold shadowboxlaw08_LabelTorn.jo3
  rw [hw5, hw2, hw9]
  show (if true = true then (if eqL m e p = true then (if Int.tmod y19 513 < 512 then some true else some (eqL m (e + 1) q)) else (if eqL m (e + 1) q = true then (if ((strOfNums l).toList == (strOfNums b).toList) = true then (if Int.tmod y19 513 < 512 then some true else some (eqL m (e + 1) q)) else some false) else some false)) else some false) = some true
  rw [if_pos rfl]
  rcases h with ⟨rfl, hc⟩ | ⟨rfl, rfl⟩
  · rw [eqL_self, if_pos rfl, if_pos hc]
  · rw [eqL_ne (show ((e + 1, zp, q) : Lb).1 ≠ e by simp only []; omega), eqL_self, if_neg (by decide), if_pos rfl, if_pos (by simp), ite_self]
theorem torn_full {b o : List Int} (hb : b.length = 512) (ho : o.length = 512) : torn b o 512 = b := by
  unfold torn
  rw [List.take_of_length_le (by omega), List.drop_of_length_le (by omega), List.append_nil]
theorem jo2_val {o : List Int} {e y5 y9 p q y19 c : Int} (h1 : 1 ≤ e) (h2 : e ≤ 300000000) (hp : 1 ≤ p ∧ p ≤ 100000) (hq : 1 ≤ q ∧ q ≤ 100000) (hob : Bytes o) (ho : o.length = 512) (hoe : o.drop 504 = le 8 (u (e - 1))) (hc : Int.tmod y19 513 = c) (hc0 : 0 ≤ c) (hc1 : c ≤ 512)
    (hw5 : IntKind.wrap .i64 (1 + y5) = p) (hw2 : IntKind.wrap .i64 (e + 1) = e + 1) (hw9 : IntKind.wrap .i64 (1 + y9) = q) :
    shadowboxlaw08_LabelTorn.jo2 3000 e y5 y9 (sealL (e, zp, p), e % 2, 0) (sealL (e + 1, zp, q), (e + 1) % 2, 0) y19 o = some true := by
  have hal := seal_len ((e, zp, p) : Lb)
  have hbl := seal_len ((e + 1, zp, q) : Lb)
  have hab := seal_bytes (a := ((e, zp, p) : Lb)) zp_bytes
  have hbb := seal_bytes (a := ((e + 1, zp, q) : Lb)) zp_bytes
  have hT := torn_len hbl ho (c := c.toNat) (by omega)
  have hTb : Bytes (torn (sealL (e + 1, zp, q)) o c.toNat) := (hbb.take _).append (hob.drop _)
  have oa := of_seal h1 (by omega) hp
  have ob := of_seal (e := e + 1) (by omega) (by omega) hq
  have hfull : c = 512 → torn (sealL (e + 1, zp, q)) o c.toNat = sealL (e + 1, zp, q) := fun hcc => by
    rw [hcc]; exact torn_full hbl ho
  unfold shadowboxlaw08_LabelTorn.jo2
  rw [hc, if_pos hc0, if_pos (by rw [hbl]; omega)]
  simp only [lt]
  rw [if_pos (by simp [hbl]; omega), if_pos (by rw [ho]; omega), if_pos (by simp [hbl, ho]; omega)]
  have eT : (([] : List Int) ++ (sealL (e + 1, zp, q)).take c.toNat) ++ o.drop c.toNat = torn (sealL (e + 1, zp, q)) o c.toNat := rfl
  simp only [eT]
  generalize hTt : torn (sealL (e + 1, zp, q)) o c.toNat = T at *
  have oT := fun a => of_torn h1 h2 hq hob ho hoe (c := c.toNat) (by omega) a
  rw [hTt] at oT
  by_cases hpar : e % 2 = 0
  · rw [if_pos hpar, choose_val hab (by omega) hTb (by omega) (by omega)]
    simp only [Option.bind_some]
    rw [hpar] at oa
    rw [show (e + 1) % 2 = 1 by omega] at ob
    unfold chooseS
    rw [oa]
    rcases oT 1 with h3 | ⟨h3, h4⟩
    · have hne : c ≠ 512 := fun hcc => by
        rw [hfull hcc, ob] at h3
        have h3 : e + 1 ≤ e - 1 := h3
        omega
      rw [if_pos (show e > (ofS T 1).1 by omega)]
      exact jo3_val _ _ _ (c := c) hw5 hw2 hw9 (.inl ⟨rfl, by omega⟩)
    · rw [h3, if_neg (show ¬ e > e + 1 by omega), decide_eq_true (show 1 ≤ e + 1 by omega)]
      exact jo3_val _ _ _ (c := c) hw5 hw2 hw9 (.inr ⟨rfl, h4⟩)
  · rw [if_neg hpar, choose_val hTb (by omega) hab (by omega) (by omega)]
    simp only [Option.bind_some]
    have hp1 : e % 2 = 1 := by omega
    rw [hp1] at oa
    rw [show (e + 1) % 2 = 0 by omega] at ob
    unfold chooseS
    rw [oa]
    rcases oT 0 with h3 | ⟨h3, h4⟩
    · have hne : c ≠ 512 := fun hcc => by
        rw [hfull hcc, ob] at h3
        have h3 : e + 1 ≤ e - 1 := h3
        omega
      rw [if_neg (show ¬ (ofS T 0).1 > e by omega), decide_eq_true (show 1 ≤ e by omega)]
      exact jo3_val _ _ _ (c := c) hw5 hw2 hw9 (.inl ⟨rfl, by omega⟩)
    · rw [h3, if_pos (show e + 1 > e by omega)]
      exact jo3_val _ _ _ (c := c) hw5 hw2 hw9 (.inr ⟨rfl, h4⟩)
theorem and_i64 (a : Int) {m : Nat} (hm : m < 2 ^ 63) : 0 ≤ bits .and .i64 a (m : Int) ∧ bits .and .i64 a (m : Int) ≤ m := by
  simp only [bits, bvi]
  have h1 : (BitVec.ofInt IntKind.i64.bits a &&& BitVec.ofNat IntKind.i64.bits m).toNat ≤ m := by
    rw [BitVec.toNat_and]
    refine Nat.le_trans Nat.and_le_right ?_
    simp only [BitVec.toNat_ofNat]
    exact Nat.mod_le _ _
  rw [wi64 (by omega) (by omega)]
  omega
/-- What is laid is read. -/
theorem le8_zero : List.replicate 8 (0 : Int) = le 8 (u 0) := by decide
theorem LabelTorn : S.LabelTorn := by
  intro a0 a1 a2 h0 h1 h2
  have w2 := wf_i64 h2
  refine ⟨3000, ?_⟩
  unfold shadowboxlaw08_LabelTorn.f
  obtain ⟨b1, b2⟩ := and_i64 a0 (m := 268435455) (by decide)
  obtain ⟨b3, b4⟩ := and_i64 (a1.1.getD ((0 : Int)).toNat 0) (m := 65535) (by decide)
  obtain ⟨b5, b6⟩ := and_i64 (a1.1.getD ((1 : Int)).toNat 0) (m := 65535) (by decide)
  simp only [lt]
  generalize bits .and .i64 a0 (268435455 : Int) = z0 at *
  generalize bits .and .i64 (a1.1.getD ((0 : Int)).toNat (0 : Int)) (65535 : Int) = y5 at *
  generalize bits .and .i64 (a1.1.getD ((1 : Int)).toNat (0 : Int)) (65535 : Int) = y9 at *
  rw [if_pos (by decide), if_pos (by decide), wi64 (n := 1 + z0) (by omega) (by omega), wi64 (n := 1 + y5) (by omega) (by omega), wi64 (n := 1 + z0 + 1) (by omega) (by omega), wi64 (n := 1 + y9) (by omega) (by omega)]
  obtain ⟨e, he⟩ : ∃ e, e = 1 + z0 := ⟨_, rfl⟩
  rw [← he]
  have s1 := seal_val (e := e) (p := 1 + y5) (by omega) (by omega) ⟨by omega, by omega⟩
  have s2 := seal_val (e := e + 1) (p := 1 + y9) (by omega) (by omega) ⟨by omega, by omega⟩
  rw [show label_Seal.f 3000 (e, ((0 : Int), (0 : Int), (0 : Int), (0 : Int), (vrep 32 (0 : Int))), 1 + y5) = some (sealL (e, zp, 1 + y5), e % 2, 0) from s1]
  rw [show label_Seal.f 3000 (e + 1, ((0 : Int), (0 : Int), (0 : Int), (0 : Int), (vrep 32 (0 : Int))), 1 + y9) = some (sealL (e + 1, zp, 1 + y9), (e + 1) % 2, 0) from s2]
  simp only [Option.bind_some]
  rw [if_pos trivial, if_pos trivial, if_neg (by omega)]
  unfold shadowboxlaw08_LabelTorn.jo1
  have ht : -513 < Int.tmod a2 513 ∧ Int.tmod a2 513 < 513 := ⟨by have := Int.lt_tmod_of_pos a2 (show (0 : Int) < 513 by decide); omega, Int.tmod_lt_of_pos a2 (by decide)⟩
  simp only [lt]
  rw [wi64 (n := Int.tmod a2 513 + 513) (by omega) (by omega), if_pos (by decide), if_pos (by decide), if_pos (by decide)]
  have hc : ∃ c, Int.tmod (Int.tmod a2 513 + 513) 513 = c ∧ 0 ≤ c ∧ c ≤ 512 := ⟨_, rfl, by rw [tm _ (by omega)]; omega, by rw [tm _ (by omega)]; omega⟩
  obtain ⟨c, hc, hc0, hc1⟩ := hc
  by_cases h9 : e > 1
  · rw [if_pos h9, wi64 (n := e - 1) (by omega) (by omega)]
    have s3 := seal_val (e := e - 1) (p := 1) (by omega) (by omega) ⟨by omega, by omega⟩
    rw [show label_Seal.f 3000 (e - 1, ((0 : Int), (0 : Int), (0 : Int), (0 : Int), (vrep 32 (0 : Int))), (1 : Int)) = some (sealL (e - 1, zp, 1), (e - 1) % 2, 0) from s3]
    simp only [Option.bind_some]
    rw [if_pos trivial]
    exact jo2_val (by omega) (by omega) ⟨by omega, by omega⟩ ⟨by omega, by omega⟩ (seal_bytes zp_bytes) (seal_len _) (seal_504 _) hc hc0 hc1 (wi64 (by omega) (by omega)) (wi64 (by omega) (by omega)) (wi64 (by omega) (by omega))
  · rw [if_neg h9]
    have h10 : e = 1 := by omega
    refine jo2_val (by omega) (by omega) ⟨by omega, by omega⟩ ⟨by omega, by omega⟩ (fun x hx => by have := List.eq_of_mem_replicate hx; omega) List.length_replicate ?_ hc hc0 hc1 (wi64 (by omega) (by omega)) (wi64 (by omega) (by omega)) (wi64 (by omega) (by omega))
    rw [List.drop_replicate, h10]
    exact le8_zero
end Go.Proofs.Ytnjijflgafghmaa.Pure
