/- Spans: what the document computes of them; no condition. -/
import Derived.Test.YtiikfaefeonfhaaExv
set_option linter.unusedVariables false
set_option linter.unusedSimpArgs false
namespace Go.Proofs.Ytiikfaefeonfhaa.Exr
open Go Go.RowKit Go.Proofs.Ytiikfaefeonfhaa.Sx Go.Proofs.Ytiikfaefeonfhaa.G Go.Proofs.Ytiikfaefeonfhaa.Bt Go.Proofs.Ytiikfaefeonfhaa.Ext Go.Proofs.Ytiikfaefeonfhaa.Exv

theorem rright_val (k : Nat) (s : Sp) : shadowboxref09_right.f k s = some (rt s) := by
  unfold shadowboxref09_right.f rt
  by_cases h : s.1 ≥ 0
  · rw [if_pos h]
    by_cases h2 : s.1 < s.2
    · rw [if_pos h2]
      refine congrArg some (decide_eq_decide.2 ⟨fun h3 => ⟨h, h2, h3⟩, fun h3 => h3.2.2⟩)
    · rw [if_neg h2, decide_eq_false (fun h3 => h2 h3.2.1)]
  · rw [if_neg h, decide_eq_false (fun h3 => h h3.1)]
theorem rValid_lo1 {l : List Sp} (hl : l.length ≤ 1000000000) : ∀ (j x k : Nat), x + j = l.length → j < k → shadowboxref09_Valid.lo1 l k (x : Int) = some (vb (if x = 0 then -1 else (l.getD (x - 1) ((0 : Int), (0 : Int))).2) (l.drop x)) := by
  intro j
  induction j with
  | zero =>
    intro x k hx hk
    obtain ⟨k, rfl⟩ : ∃ q, k = q + 1 := ⟨k - 1, by omega⟩
    rw [shadowboxref09_Valid.lo1, if_neg (by omega), List.drop_of_length_le (by omega)]
    rfl
  | succ j ih =>
    intro x k hx hk
    obtain ⟨k, rfl⟩ : ∃ q, k = q + 1 := ⟨k - 1, by omega⟩
    rw [shadowboxref09_Valid.lo1, if_pos (by omega)]
    unfold shadowboxref09_Valid.jo2
    rw [if_pos (by omega), if_pos (by omega), show ((x : Int)).toNat = x from by omega, rright_val, drop_cons (x := x) (by omega)]
    simp only [Option.bind_some, lt, vb]
    cases h : rt (l.getD x ((0 : Int), (0 : Int))) with
    | false => simp
    | true =>
      rw [if_pos rfl, wi64 (n := (x : Int) + 1) (by omega) (by omega), show ((x : Int) + 1) = ((x + 1 : Nat) : Int) from by omega, ih (x + 1) k (by omega) (by omega), if_neg (show ¬ x + 1 = 0 by omega), Nat.add_sub_cancel]
      by_cases h1 : x = 0
      · subst h1
        have h2 : 0 ≤ (l.getD 0 ((0 : Int), (0 : Int))).1 := (of_decide_eq_true h).1
        rw [if_neg (by omega), if_pos rfl, decide_eq_true (by omega)]
        simp
      · rw [if_pos (by omega), wi64 (by omega) (by omega), if_pos (by omega), if_pos (by omega), if_neg h1, show (((x : Int) - 1)).toNat = x - 1 from by omega]
        by_cases h2 : (l.getD x ((0 : Int), (0 : Int))).1 ≤ (l.getD (x - 1) ((0 : Int), (0 : Int))).2
        · rw [if_pos h2, decide_eq_false (by omega)]
          rfl
        · rw [if_neg h2, decide_eq_true (by omega)]
          simp
theorem rValid_val {l : List Sp} (hl : l.length ≤ 1000000000) {k : Nat} (hk : l.length < k) : shadowboxref09_Valid.f k l = some (vb (-1) l) := by
  unfold shadowboxref09_Valid.f
  have := rValid_lo1 hl l.length 0 k (by omega) hk
  simpa using this
/-! ### Adding -/
theorem hwx {x : Nat} (h : x < 1000000000) : IntKind.wrap .i64 ((x : Int) + 1) = ((x + 1 : Nat) : Int) := by rw [wi64 (by omega) (by omega)]; omega
theorem hnx (x : Nat) : ((x : Int)).toNat = x := by omega
set_option maxHeartbeats 4000000 in
theorem rAdd_lo2 {l : List Sp} (hl : l.length ≤ 100000000) : ∀ (j x k : Nat) (out : List Sp) (p : Bool) (f t m : Int), x + j = l.length → j < k → out.length ≤ 2 * x → f < t → Ok m (l.drop x) → (p = true → t ≤ m) →
    shadowboxref09_Add.lo2 l k out p (x : Int) (f, t) = some (out ++ (if p = true then l.drop x else add (l.drop x) f t)) := by
  intro j
  induction j with
  | zero =>
    intro x k out p f t m hx hk ho hft hok hp
    obtain ⟨k, rfl⟩ : ∃ q, k = q + 1 := ⟨k - 1, by omega⟩
    rw [shadowboxref09_Add.lo2, if_neg (by omega), List.drop_of_length_le (by omega)]
    split
    · simp
    · rw [if_pos (by simp only [List.length_append, List.length_cons, List.length_nil]; omega)]
      rfl
  | succ j ih =>
    intro x k out p f t m hx hk ho hft hok hp
    obtain ⟨k, rfl⟩ : ∃ q, k = q + 1 := ⟨k - 1, by omega⟩
    have hxl : x < l.length := by omega
    obtain ⟨y, hy⟩ : ∃ y, l.getD x ((0 : Int), (0 : Int)) = y := ⟨_, rfl⟩
    rw [drop_cons hxl, hy] at hok ⊢
    obtain ⟨h1, h2, h3⟩ := hok
    rw [shadowboxref09_Add.lo2, if_pos (by omega)]
    unfold shadowboxref09_Add.jo3
    rw [if_pos (by omega), if_pos (by omega)]
    simp only [lt, hnx, hwx (show x < 1000000000 by omega), hy]
    have hlen1 : (out.length + [y].length) * 16 ≤ 140737488355328 := by simp only [List.length_append, List.length_cons, List.length_nil]; omega
    have gt : ∀ q : List Sp, q.length ≤ 2 * x + 2 → t ≤ y.2 → shadowboxref09_Add.lo2 l k q true ((x + 1 : Nat) : Int) (f, t) = some (q ++ l.drop (x + 1)) := fun q hq ht => by
      rw [ih (x + 1) k q true f t y.2 (by omega) (by omega) (by omega) hft h3 (fun _ => ht), if_pos rfl]
    by_cases c1 : y.2 < f
    · rw [if_pos c1, if_pos hlen1, ih (x + 1) k _ p f t y.2 (by omega) (by omega) (by simp only [List.length_append, List.length_cons, List.length_nil]; omega) hft h3 (fun hp' => by have := hp hp'; omega)]
      cases p with
      | true => simp
      | false => simp only [Bool.false_eq_true, if_false]; rw [add, if_pos c1]; simp
    · rw [if_neg c1]
      unfold shadowboxref09_Add.jo4
      simp only [lt, hnx, hwx (show x < 1000000000 by omega), hy]
      by_cases c2 : y.1 > t
      · rw [if_pos c2]
        cases p with
        | true =>
          rw [if_pos (show true = true from rfl), if_pos hlen1, gt (out ++ [y]) (by simp only [List.length_append, List.length_cons, List.length_nil]; omega) (by omega)]
          simp
        | false =>
          rw [if_neg (show ¬ false = true by decide), if_pos (by simp only [List.length_append, List.length_cons, List.length_nil]; omega), if_pos (by simp only [List.length_append, List.length_cons, List.length_nil]; omega), gt (out ++ [(f, t)] ++ [y]) (by simp only [List.length_append, List.length_cons, List.length_nil]; omega) (by omega)]
          simp only [if_true, Bool.false_eq_true, if_false]
          rw [add, if_neg c1, if_pos (by omega)]
          simp
      · rw [if_neg c2]
        cases p with
        | true => exact absurd (hp rfl) (by omega)
        | false =>
          simp only [Bool.false_eq_true, if_false]
          have e : add (y :: l.drop (x + 1)) f t = add (l.drop (x + 1)) (min f y.1) (max t y.2) := by rw [add, if_neg c1, if_neg (by omega)]
          rw [e]
          have go : ∀ f' t' : Int, f' = min f y.1 → t' = max t y.2 → shadowboxref09_Add.lo2 l k out false ((x + 1 : Nat) : Int) (f', t') = some (out ++ add (l.drop (x + 1)) (min f y.1) (max t y.2)) := fun f' t' e1 e2 => by
            rw [ih (x + 1) k out false f' t' y.2 (by omega) (by omega) (by omega) (by omega) h3 (fun h => by cases h), e1, e2]
            simp
          split
          · split
            · exact go _ _ (by omega) (by omega)
            · exact go _ _ (by omega) (by omega)
          · split
            · exact go _ _ (by omega) (by omega)
            · exact go _ _ (by omega) (by omega)
theorem rAdd_val {l : List Sp} {s : Sp} (hl : l.length ≤ 100000000) {k : Nat} (hk : l.length < k) : shadowboxref09_Add.f k l s = some (addV l s) := by
  unfold shadowboxref09_Add.f addV
  rw [rValid_val (by omega) hk, rright_val]
  simp only [Option.bind_some]
  rw [show (if (([] : List (Int × Int)).length + l.length) * 16 ≤ 140737488355328 then some (([] : List (Int × Int)) ++ l) else none) = some l by rw [if_pos (by simp; omega)]; rfl]
  split
  · rename_i h1
    split
    · rename_i h2
      have h1 := vb_vd.1 h1
      have h3 : 0 ≤ s.1 ∧ s.1 < s.2 ∧ s.2 ≤ 1099511627776 := of_decide_eq_true h2
      unfold shadowboxref09_Add.jo1
      have := rAdd_lo2 hl l.length 0 k [] false s.1 s.2 (-1) (by omega) hk (by simp) h3.2.1 h1.1 (fun h => by cases h)
      simpa using this
    · rfl
  · rfl
/-! ### Removing -/
set_option maxHeartbeats 4000000 in
theorem rRem_lo2 {l : List Sp} (hl : l.length ≤ 100000000) (s : Sp) : ∀ (j x k : Nat) (out : List Sp), x + j = l.length → j < k → out.length ≤ 2 * x → shadowboxref09_Remove.lo2 l s k out (x : Int) = some (out ++ rem (l.drop x) s.1 s.2) := by
  intro j
  induction j with
  | zero =>
    intro x k out hx hk ho
    obtain ⟨k, rfl⟩ : ∃ q, k = q + 1 := ⟨k - 1, by omega⟩
    rw [shadowboxref09_Remove.lo2, if_neg (by omega), List.drop_of_length_le (by omega)]
    simp [rem]
  | succ j ih =>
    intro x k out hx hk ho
    obtain ⟨k, rfl⟩ : ∃ q, k = q + 1 := ⟨k - 1, by omega⟩
    have hxl : x < l.length := by omega
    obtain ⟨y, hy⟩ : ∃ y, l.getD x ((0 : Int), (0 : Int)) = y := ⟨_, rfl⟩
    rw [drop_cons hxl, hy, shadowboxref09_Remove.lo2, if_pos (by omega)]
    unfold shadowboxref09_Remove.jo3
    rw [if_pos (by omega), if_pos (by omega)]
    simp only [lt, hnx, hwx (show x < 1000000000 by omega), hy]
    have hlen1 : (out.length + [y].length) * 16 ≤ 140737488355328 := by simp only [List.length_append, List.length_cons, List.length_nil]; omega
    have go : ∀ q : List Sp, q.length ≤ 2 * x + 2 → shadowboxref09_Remove.lo2 l s k q ((x + 1 : Nat) : Int) = some (q ++ rem (l.drop (x + 1)) s.1 s.2) := fun q hq => ih (x + 1) k q (by omega) (by omega) (by omega)
    by_cases c1 : y.2 ≤ s.1
    · rw [if_pos c1, if_pos hlen1, go _ (by simp only [List.length_append, List.length_cons, List.length_nil]; omega), rem, if_pos (.inl c1)]
      simp
    · rw [if_neg c1]
      by_cases c2 : y.1 ≥ s.2
      · rw [if_pos c2, if_pos hlen1, go _ (by simp only [List.length_append, List.length_cons, List.length_nil]; omega), rem, if_pos (.inr c2)]
        simp
      · rw [if_neg c2, rem, if_neg (by omega)]
        unfold shadowboxref09_Remove.jo4
        simp only [lt, hnx, hwx (show x < 1000000000 by omega), hy]
        by_cases c3 : y.1 < s.1 <;> by_cases c4 : y.2 > s.2
        · rw [if_pos c3, if_pos (by simp only [List.length_append, List.length_cons, List.length_nil]; omega), if_pos c4, if_pos (by simp only [List.length_append, List.length_cons, List.length_nil]; omega), go _ (by simp only [List.length_append, List.length_cons, List.length_nil]; omega), if_pos c3, if_pos (by omega)]
          simp
        · rw [if_pos c3, if_pos (by simp only [List.length_append, List.length_cons, List.length_nil]; omega), if_neg c4, go _ (by simp only [List.length_append, List.length_cons, List.length_nil]; omega), if_pos c3, if_neg (by omega)]
          simp
        · rw [if_neg c3, if_pos c4, if_pos (by simp only [List.length_append, List.length_cons, List.length_nil]; omega), go _ (by simp only [List.length_append, List.length_cons, List.length_nil]; omega), if_neg c3, if_pos (by omega)]
          simp
        · rw [if_neg c3, if_neg c4, go _ (by omega), if_neg c3, if_neg (by omega)]
          simp
theorem rRemove_val {l : List Sp} {s : Sp} (hl : l.length ≤ 100000000) {k : Nat} (hk : l.length < k) : shadowboxref09_Remove.f k l s = some (remV l s) := by
  unfold shadowboxref09_Remove.f remV
  rw [rValid_val (by omega) hk, rright_val]
  simp only [Option.bind_some]
  rw [show (if (([] : List (Int × Int)).length + l.length) * 16 ≤ 140737488355328 then some (([] : List (Int × Int)) ++ l) else none) = some l by rw [if_pos (by simp; omega)]; rfl]
  split
  · split
    · unfold shadowboxref09_Remove.jo1
      have := rRem_lo2 hl s l.length 0 k [] (by omega) hk (by simp)
      simpa using this
    · rfl
  · rfl
/-! ### Having, meeting, counting, finding -/
theorem rHas_lo2 {l : List Sp} (hl : l.length ≤ 100000000) (s : Sp) : ∀ (j x k : Nat), x + j = l.length → j < k → shadowboxref09_Has.lo2 l s k (x : Int) = some (hasB s.1 s.2 (l.drop x)) := by
  intro j
  induction j with
  | zero =>
    intro x k hx hk
    obtain ⟨k, rfl⟩ : ∃ q, k = q + 1 := ⟨k - 1, by omega⟩
    rw [shadowboxref09_Has.lo2, if_neg (by omega), List.drop_of_length_le (by omega)]
    rfl
  | succ j ih =>
    intro x k hx hk
    obtain ⟨k, rfl⟩ : ∃ q, k = q + 1 := ⟨k - 1, by omega⟩
    rw [drop_cons (show x < l.length by omega), shadowboxref09_Has.lo2, if_pos (by omega), if_pos (by omega)]
    simp only [lt, hnx, hwx (show x < 1000000000 by omega), ih (x + 1) k (by omega) (by omega), hasB]
    split
    · rename_i h1
      rw [decide_eq_true h1]
      split
      · rename_i h2
        rw [decide_eq_true h2]
        rfl
      · rename_i h2
        rw [decide_eq_false h2]
        rfl
    · rename_i h1
      rw [decide_eq_false h1]
      rfl
theorem rHas_val {l : List Sp} {s : Sp} (hl : l.length ≤ 100000000) {k : Nat} (hk : l.length < k) : shadowboxref09_Has.f k l s = some (hasV l s) := by
  unfold shadowboxref09_Has.f hasV shadowboxref09_Has.jo1
  have := rHas_lo2 hl s l.length 0 k (by omega) hk
  rw [show ((0 : Nat) : Int) = 0 from rfl, List.drop_zero] at this
  rw [rValid_val (by omega) hk, rright_val, this]
  simp only [Option.bind_some]
  split
  · split <;> rfl
  · rfl
theorem rMeets_lo2 {l : List Sp} (hl : l.length ≤ 100000000) (s : Sp) : ∀ (j x k : Nat), x + j = l.length → j < k → shadowboxref09_Meets.lo2 l s k (x : Int) = some (meetB s.1 s.2 (l.drop x)) := by
  intro j
  induction j with
  | zero =>
    intro x k hx hk
    obtain ⟨k, rfl⟩ : ∃ q, k = q + 1 := ⟨k - 1, by omega⟩
    rw [shadowboxref09_Meets.lo2, if_neg (by omega), List.drop_of_length_le (by omega)]
    rfl
  | succ j ih =>
    intro x k hx hk
    obtain ⟨k, rfl⟩ : ∃ q, k = q + 1 := ⟨k - 1, by omega⟩
    rw [drop_cons (show x < l.length by omega), shadowboxref09_Meets.lo2, if_pos (by omega), if_pos (by omega)]
    simp only [lt, hnx, hwx (show x < 1000000000 by omega), ih (x + 1) k (by omega) (by omega), meetB]
    split
    · rename_i h1
      rw [decide_eq_true h1]
      split
      · rename_i h2
        rw [decide_eq_true h2]
        rfl
      · rename_i h2
        rw [decide_eq_false h2]
        rfl
    · rename_i h1
      rw [decide_eq_false h1]
      rfl
theorem rMeets_val {l : List Sp} {s : Sp} (hl : l.length ≤ 100000000) {k : Nat} (hk : l.length < k) : shadowboxref09_Meets.f k l s = some (meetV l s) := by
  unfold shadowboxref09_Meets.f meetV shadowboxref09_Meets.jo1
  have := rMeets_lo2 hl s l.length 0 k (by omega) hk
  rw [show ((0 : Nat) : Int) = 0 from rfl, List.drop_zero] at this
  rw [rValid_val (by omega) hk, rright_val, this]
  simp only [Option.bind_some]
  split
  · split <;> rfl
  · rfl
theorem rTotal_lo1 {l : List Sp} (hl : l.length ≤ 100000000) (hv : vb (-1) l = true) : ∀ (j x k : Nat) (a : Int), x + j = l.length → j + l.length + 1 < k → 0 ≤ a → a + tot (l.drop x) ≤ 4000000000000 → shadowboxref09_Total.lo1 l k a (x : Int) = some (a + tot (l.drop x)) := by
  have hvd := vb_vd.1 hv
  intro j
  induction j with
  | zero =>
    intro x k a hx hk _ _
    obtain ⟨k, rfl⟩ : ∃ q, k = q + 1 := ⟨k - 1, by omega⟩
    rw [shadowboxref09_Total.lo1, if_neg (by omega), List.drop_of_length_le (by omega)]
    simp [tot]
  | succ j ih =>
    intro x k a hx hk ha hs
    obtain ⟨k, rfl⟩ : ∃ q, k = q + 1 := ⟨k - 1, by omega⟩
    have hxl : x < l.length := by omega
    have h1 := ok_mem hvd.1 _ (getD_mem hxl)
    have h1' := hvd.2 _ (getD_mem hxl)
    have h2 := tot_drop hvd.1 (x + 1)
    rw [drop_cons hxl] at hs ⊢
    simp only [tot] at hs ⊢
    rw [shadowboxref09_Total.lo1, if_pos (by omega), rValid_val (by omega) (by omega), hv]
    simp only [Option.bind_some, lt, hnx, hwx (show x < 1000000000 by omega), if_true]
    rw [if_pos (by omega), wi64 (n := a + (l.getD x ((0 : Int), (0 : Int))).2) (by omega) (by omega), wi64 (by omega) (by omega), ih (x + 1) k _ (by omega) (by omega) (by omega) (by omega)]
    congr 1
    omega
theorem rTotal_val {l : List Sp} (hl : l.length ≤ 100000000) {k : Nat} (hk : 2 * l.length + 1 < k) : shadowboxref09_Total.f k l = some (totV l) := by
  unfold shadowboxref09_Total.f totV
  by_cases h : vb (-1) l = true
  · rw [if_pos h]
    have h1 := vb_vd.1 h
    have h2 := tot_le h1.1 h1.2 (by omega)
    have := rTotal_lo1 hl h l.length 0 k 0 (by omega) (by omega) (Int.le_refl _) (by simp; omega)
    simpa using this
  · rw [if_neg h]
    obtain ⟨k, rfl⟩ : ∃ q, k = q + 1 := ⟨k - 1, by omega⟩
    rw [shadowboxref09_Total.lo1]
    split
    · rw [rValid_val (by omega) (by omega)]
      simp only [Option.bind_some]
      rw [if_neg h]
    · rfl
theorem rFind_lo2 {l : List Sp} (hl : l.length ≤ 100000000) (n : Int) (hB : ∀ x ∈ l, 0 ≤ x.1 ∧ x.1 < x.2 ∧ x.2 ≤ 1099511627776) : ∀ (j x k : Nat), x + j = l.length → j < k → shadowboxref09_Find.lo2 l n k (x : Int) = some (fnd n (l.drop x)) := by
  intro j
  induction j with
  | zero =>
    intro x k hx hk
    obtain ⟨k, rfl⟩ : ∃ q, k = q + 1 := ⟨k - 1, by omega⟩
    rw [shadowboxref09_Find.lo2, if_neg (by omega), List.drop_of_length_le (by omega)]
    rfl
  | succ j ih =>
    intro x k hx hk
    obtain ⟨k, rfl⟩ : ∃ q, k = q + 1 := ⟨k - 1, by omega⟩
    have h1 := hB _ (getD_mem (show x < l.length by omega))
    rw [drop_cons (show x < l.length by omega), shadowboxref09_Find.lo2, if_pos (by omega), if_pos (by omega)]
    simp only [lt, hnx, hwx (show x < 1000000000 by omega), ih (x + 1) k (by omega) (by omega), fnd]
    rw [wi64 (by omega) (by omega)]
    split <;> rfl
theorem rFind_val {l : List Sp} (hl : l.length ≤ 100000000) {k : Nat} (hk : l.length < k) (n : Int) : shadowboxref09_Find.f k l n = some (fndV l n) := by
  unfold shadowboxref09_Find.f fndV shadowboxref09_Find.jo1
  rw [rValid_val (by omega) hk]
  simp only [Option.bind_some]
  split
  · rfl
  · split
    · rename_i h1
      have h2 := vb_vd.1 h1
      have := rFind_lo2 hl n (fun x hx => by have := ok_mem h2.1 x hx; have := h2.2 x hx; omega) l.length 0 k (by omega) hk
      simpa using this
    · rfl
/-! ### The law's own words -/
theorem own_lo1 {l : List Sp} (hl : l.length ≤ 100000000) : ∀ (j x k : Nat) (out : List Sp), x + j = l.length → j < k → out.length ≤ x → shadowboxlaw09_own.lo1 l k out (x : Int) = some (out ++ l.drop x) := by
  intro j
  induction j with
  | zero =>
    intro x k out hx hk ho
    obtain ⟨k, rfl⟩ : ∃ q, k = q + 1 := ⟨k - 1, by omega⟩
    rw [shadowboxlaw09_own.lo1, if_neg (by omega), List.drop_of_length_le (by omega)]
    simp
  | succ j ih =>
    intro x k out hx hk ho
    obtain ⟨k, rfl⟩ : ∃ q, k = q + 1 := ⟨k - 1, by omega⟩
    rw [drop_cons (show x < l.length by omega), shadowboxlaw09_own.lo1, if_pos (by omega), if_pos (by omega), if_pos (by simp; omega), hwx (show x < 1000000000 by omega), hnx, ih (x + 1) k _ (by omega) (by omega) (by simp; omega)]
    simp
theorem own_val {l : List Sp} (hl : l.length ≤ 100000000) {k : Nat} (hk : l.length < k) : shadowboxlaw09_own.f k l = some l := by
  unfold shadowboxlaw09_own.f
  have := own_lo1 hl l.length 0 k [] (by omega) hk (Nat.le_refl _)
  simpa using this
theorem same_lo2 {l : List Sp} (hl : l.length ≤ 100000000) : ∀ (j x k : Nat), x + j = l.length → j < k → shadowboxlaw09_same.lo2 l l k (x : Int) = some true := by
  intro j
  induction j with
  | zero =>
    intro x k hx hk
    obtain ⟨k, rfl⟩ : ∃ q, k = q + 1 := ⟨k - 1, by omega⟩
    rw [shadowboxlaw09_same.lo2, if_neg (by omega)]
  | succ j ih =>
    intro x k hx hk
    obtain ⟨k, rfl⟩ : ∃ q, k = q + 1 := ⟨k - 1, by omega⟩
    rw [shadowboxlaw09_same.lo2, if_pos (by omega), if_pos (by omega), if_pos (by omega), if_pos (by simp), hwx (show x < 1000000000 by omega), ih (x + 1) k (by omega) (by omega)]
theorem same_val {l : List Sp} (hl : l.length ≤ 100000000) {k : Nat} (hk : l.length < k) : shadowboxlaw09_same.f k l l = some true := by
  unfold shadowboxlaw09_same.f shadowboxlaw09_same.jo1
  rw [if_pos rfl]
  exact same_lo2 hl l.length 0 k (by omega) hk
end Go.Proofs.Ytiikfaefeonfhaa.Exr
