/- Slices of slices: what each inner one holds, beside its place; no condition. -/
import Derived.Test.YthhhkphbhlafbaaSh
import Derived.Laws.CopyRow
import Derived.Great.BuildSlice
set_option linter.unusedVariables false
set_option linter.unusedSimpArgs false
namespace Go.Proofs.Ythhhkphbhlafbaa.Sx
open Go Go.RowKit
variable {α : Type}
abbrev Pl := Option Addr × Nat
/-- An element that is a slice, with its place and room. -/
def Ec.sls (t : TypeId) (α : Type) : Ec (Pl × List α) := ⟨t, fun c => [Value.slice c.1.1 c.2.length c.1.2], 1, ((none, 0), []), fun _ => rfl, fun _ => one_cons rfl one_nil, Nat.one_pos⟩
/-- The same, without: for what looks at the kind alone. -/
def Ec.sld (t : TypeId) (α : Type) : Ec (List α) := ⟨t, fun c => [Value.slice none c.length c.length], 1, [], fun _ => rfl, fun _ => one_cons rfl one_nil, Nat.one_pos⟩
def zs (p : Nat → Pl) (l : List (List α)) : List (Pl × List α) := (List.range l.length).map fun i => (p i, l.getD i [])
theorem zs_length (p : Nat → Pl) (l : List (List α)) : (zs p l).length = l.length := by simp [zs]
theorem zs_get (p : Nat → Pl) (l : List (List α)) {i : Nat} (h : i < l.length) (d : Pl × List α) : (zs p l).getD i d = (p i, l.getD i []) := by
  simp [zs, List.getD_eq_getElem?_getD, h]
theorem zs_take (p : Nat → Pl) (l : List (List α)) (n : Nat) : (zs p l).take n = zs p (l.take n) := by
  apply List.ext_getElem?
  intro i
  simp only [zs, List.getElem?_take, List.getElem?_map, List.length_take]
  by_cases h : i < n
  · rw [if_pos h]
    by_cases h2 : i < l.length
    · rw [List.getElem?_range h2, List.getElem?_range (by omega)]
      simp [List.getD_eq_getElem?_getD, List.getElem?_take, h]
    · rw [List.getElem?_eq_none (by simp; omega), List.getElem?_eq_none (by simp; omega)]
      rfl
  · rw [if_neg h, List.getElem?_eq_none (by simp; omega)]
    rfl
def Ins (T : Ec α) (b : Bs) (p : Nat → Pl) (l : List (List α)) : Prop := ∀ i, i < l.length → Ro b (p i).1 (em T (l.getD i [])) ∧ (l.getD i []).length ≤ (p i).2
/-- A slice of slices that nobody writes: the inner ones' places are hidden. -/
def RoS (t : TypeId) (T : Ec α) (b : Bs) (A : Option Addr) (l : List (List α)) : Prop := ∃ p, Ro b A (em (Ec.sls t α) (zs p l)) ∧ Ins T b p l
section
variable {t : TypeId} {T : Ec α} {b b' w0 : Bs} {A : Option Addr} {l : List (List α)}
theorem RoS.nil (t : TypeId) (T : Ec α) (b : Bs) (A : Option Addr) : RoS t T b A [] := ⟨fun _ => (none, 0), Ro.nil _ _, fun i h => by simp at h⟩
theorem RoS.mono (hok : ∀ k, b.fz k → k < b.w.heap.size ∧ ¬ b.ks k) (hb : b.le b') (h : RoS t T b A l) : RoS t T b' A l :=
  let ⟨p, h1, h2⟩ := h
  ⟨p, h1.mono hok hb, fun i hi => ⟨(h2 i hi).1.mono hok hb, (h2 i hi).2⟩⟩
theorem RoS.up (h : ∀ A cs, Ro b A cs → Ro b' A cs) (hr : RoS t T b A l) : RoS t T b' A l :=
  let ⟨p, h1, h2⟩ := hr
  ⟨p, h _ _ h1, fun i hi => ⟨h _ _ (h2 i hi).1, (h2 i hi).2⟩⟩
theorem St.roS {w : World} {S : Sto} (h : St w0 S w) (hr : RoS t T w0 A l) (cl ro : List Ck) : RoS t T (lent w0 w cl ro) A l :=
  let ⟨p, h1, h2⟩ := hr
  ⟨p, h.ro h1 cl ro, fun i hi => ⟨h.ro (h2 i hi).1 cl ro, (h2 i hi).2⟩⟩
theorem RoS.lit1 {q : Pl} {x : List α} (h : Ro b A (em (Ec.sls t α) [(q, x)])) (h1 : Ro b q.1 (em T x)) (h2 : x.length ≤ q.2) : RoS t T b A [x] :=
  ⟨fun _ => q, h, fun i hi => by
    have : i = 0 := by simp at hi; omega
    subst this
    exact ⟨h1, h2⟩⟩
theorem idoS_at {i : Int} (hR : RoS t T w0 A l) (h0 : 0 ≤ i) (h1 : i < (l.length : Int)) : ∃ ad, A = some ad :=
  let ⟨p, h, _⟩ := hR
  ido_at h h0 (by rw [zs_length]; exact h1)
/-- One inner slice. -/
theorem RoS.el (hR : RoS t T w0 A l) {ad : Addr} (hA : A = some ad) {i : Int} (h0 : 0 ≤ i) (h1 : i < (l.length : Int)) :
    ∃ q : Pl, Ro w0 (some (ad.add (i.toNat * 1))) [Value.slice q.1 (l.getD i.toNat []).length q.2] ∧ Ro w0 q.1 (em T (l.getD i.toNat [])) ∧ (l.getD i.toNat []).length ≤ q.2 := by
  obtain ⟨p, h, h2⟩ := hR
  have hi : i.toNat < l.length := by omega
  obtain ⟨h3, h4⟩ := h2 _ hi
  refine ⟨p i.toNat, ?_, h3, h4⟩
  have hs := em_sub (Ec.sls t α) (zs p l) (i := i.toNat) (by rw [zs_length]; exact hi)
  rw [zs_get p l hi] at hs
  intro j u hj
  obtain rfl : j = 0 := by
    have := (List.getElem?_eq_some_iff.1 hj).1
    simp at this
    omega
  have hg := hs.get 0 Nat.one_pos
  obtain ⟨ad', e, hc, hf⟩ := h (i.toNat * 1 + 0) u (hg.trans hj)
  rw [hA] at e
  obtain rfl := Option.some.inj e
  exact ⟨_, rfl, by rw [add_add]; exact hc, by rw [add_block]; exact hf⟩
theorem Rd.cell0 {w : World} {a : Addr} {v : Value} (h : Rd w (some a) [v]) : w.cell? a = some v := by
  obtain ⟨ad, e, hc⟩ := h 0 v rfl
  obtain rfl := Option.some.inj e
  simpa [Addr.add] using hc
/-- The first of them. -/
theorem cutS_at (t : TypeId) (T : Ec α) {c : Nat} (n : Nat) (h2 : n ≤ l.length) (h3 : l.length ≤ c) (hR : RoS t T w0 A l) {m : List (List α)} (hm : m = l.take n) : ∃ A' c', Value.slice (if c = 0 then A else A.map (·.add (0 * 1))) (n - 0) (c - 0) = .slice A' m.length c' ∧ m.length ≤ c' ∧ RoS t T w0 A' m := by
  obtain ⟨p, h, hi⟩ := hR
  obtain ⟨A', c', he, hC, hr⟩ := cut_at (T := Ec.sls t α) (l := zs p l) 0 n (Nat.zero_le _) (by rw [zs_length]; exact h2) (by rw [zs_length]; exact h3) h (m := zs p m) (by rw [List.drop_zero, zs_take, hm]) rfl
  rw [zs_length] at he hC
  refine ⟨A', c', he, hC, p, hr, fun i hj => ?_⟩
  subst hm
  have hj' : i < l.length := by rw [List.length_take] at hj; omega
  have e : (l.take n).getD i [] = l.getD i [] := by
    rw [List.length_take] at hj
    simp [List.getD_eq_getElem?_getD, List.getElem?_take, show i < n by omega]
  rw [e]
  exact hi i hj'
/-- What an argument holds. -/
theorem RoS.of {L : List (Pl × List α)} (h : Ro b A (em (Ec.sls t α) L)) (h2 : ∀ c ∈ L, Ro b c.1.1 (em T c.2) ∧ c.2.length ≤ c.1.2) : RoS t T b A (L.map (·.2)) := by
  have e : zs (fun i => (L.getD i ((none, 0), [])).1) (L.map (·.2)) = L := by
    apply List.ext_getElem?
    intro i
    simp only [zs, List.length_map, List.getElem?_map]
    by_cases hi : i < L.length
    · rw [List.getElem?_range hi]
      simp [List.getD_eq_getElem?_getD, List.getElem?_eq_getElem hi]
    · rw [List.getElem?_eq_none (by simp; omega), List.getElem?_eq_none (by omega)]
      rfl
  refine ⟨fun i => (L.getD i ((none, 0), [])).1, by rw [e]; exact h, fun i hi => ?_⟩
  rw [List.length_map] at hi
  have := h2 _ (List.getElem_mem hi)
  simpa [List.getD_eq_getElem?_getD, List.getElem?_eq_getElem hi] using this
end
/-! ### Cuts with a capacity, and copies into the end of a row -/
section
variable {P : Program} {Q : Exit → Act → World → Prop} {n : Nat} {ops : Array Oper} {rest : List Oper} {o : Oper} {f : Fr} {w0 : Bs} {S : Sto} {d : Nat} {t e : TypeId} {T : Ec α} {A : Option Addr} {c : Nat} {l : List α}
theorem run_cut3 {z : Nat} {w : World} (ht : P.underlying t = some (.slice e)) (hz : (P.info? e).map (·.size) = some z) {m : Nat} {lo : Option Value} {a b : Nat} {kh : IntKind}
    (hlo : (lo = none ∧ a = 0) ∨ ∃ k, lo = some (.int k (a : Int))) (h1 : a ≤ b) (h2 : b ≤ m) (h3 : m ≤ c) :
    (Instr.sliceAt t (.slice A m c) lo (some (.int kh (b : Int))) (some (.int kh (b : Int)))).run P w = .ok (.slice (if b = a then A else A.map (·.add (a * z))) (b - a) (b - a)) w := by
  obtain ⟨q, hq, hq1⟩ := Option.map_eq_some_iff.1 hz
  have hb : (Instr.sliceBounds true m c lo (some (.int kh (b : Int))) (some (.int kh (b : Int)))).run P w = .ok (a, b, b) w := by
    rcases hlo with ⟨rfl, rfl⟩ | ⟨kl, rfl⟩
    · simp [Instr.sliceBounds, run_bound (show b ≤ c by omega), run_bound (Nat.le_refl b)]
    · simp [Instr.sliceBounds, run_bound (show b ≤ c by omega), run_bound (Nat.le_refl b), run_bound h1]
  simp [Instr.sliceAt, run_underlying ht, Instr.slice, hb, sizeOf, typeInfo, hq, hq1]
theorem cut3_at (T : Ec α) (a b : Nat) (h1 : a ≤ b) (h2 : b ≤ l.length) (hR : Ro w0 A (em T l)) {m : List α} (hm : m = (l.take b).drop a) {z : Nat} (hz : z = T.z) : ∃ A' c', Value.slice (if b = a then A else A.map (·.add (a * z))) (b - a) (b - a) = .slice A' m.length c' ∧ m.length ≤ c' ∧ Ro w0 A' (em T m) :=
  cut_at (l := l.take b) (c := b) T a b h1 (by simp; omega) (by simp; omega) (hR.emtake b) (by rw [List.take_take, Nat.min_self]; exact hm) hz
theorem ls_cutv3 (hg : o.guard = none) (hd : o.dst = some d) (hn : Nat.blt d n = true) {x hi mx : Operand} {lo : Option Operand} {a b m z : Nat} {A' : Option Addr} {c' k : Nat} {kh : IntKind} (ho : o.op = .slice t x lo (some hi) (some mx)) (hx : ev f x = .slice A m c) (ht : P.underlying t = some (.slice e)) (hz : (P.info? e).map (·.size) = some z)
    (hlo : (lo.map (ev f) = none ∧ a = 0) ∨ ∃ k, lo.map (ev f) = some (.int k (a : Int))) (hhi : ev f hi = .int kh (b : Int)) (hmx : ev f mx = .int kh (b : Int)) (h1 : a ≤ b) (h2 : b ≤ m) (h3 : m ≤ c)
    (he : Value.slice (if b = a then A else A.map (·.add (a * z))) (b - a) (b - a) = .slice A' k c')
    (h : Ls P Q n ops rest (upd f d (.slice A' k c')) w0 S) : Ls P Q n ops (o :: rest) f w0 S := by
  refine ls_val hg hd hn (v := .slice (if b = a then A else A.map (·.add (a * z))) (b - a) (b - a)) (fun w => ?_) (by rw [he]; exact h)
  unfold execOp
  rw [ho]
  refine lift_v ?_
  simp only [Option.map_some, hx, hhi, hmx]
  exact run_cut3 ht hz hlo h1 h2 h3
/-- A copy over a row from a place on. -/
def lcopy (l : List α) (a : Nat) (m : List α) : List α := l.take a ++ m.take (l.length - a) ++ l.drop (a + m.length)
theorem lcopy_length {l m : List α} {a : Nat} (h : a ≤ l.length) : (lcopy l a m).length = l.length := by
  unfold lcopy
  simp
  omega
theorem ls_copyc {u : TypeId} (k : Nat) {x y : Operand} {a q cy cb : Nat} {Ax B : Option Addr} {m : List α} (hg : o.guard = none) (hd : o.dst = some d) (hn : Nat.blt d n = true) (ho : o.op = .call { callee := .builtin .copy, args := #[x, y], argTypes := #[t, u] }) (hx : ev f x = .slice Ax q cy) (hy : ev f y = .slice B m.length cb)
    (he : Value.slice (if c = a then A else A.map (·.add (a * 1))) (l.length - a) (c - a) = .slice Ax q cy) (ha : a ≤ l.length) (hz1 : T.z = 1) (hS : S k = some (Ck.sl T A c l)) (ht : P.underlying t = some (.slice e)) (hz : (P.info? e).map (·.size) = some 1) (hR : ∀ w, St w0 S w → Rd w B (em T m)) {l' : List α} (hl' : lcopy l a m = l')
    (h : Ls P Q n ops rest (upd f d (.int .i64 ((min m.length (l.length - a) : Nat) : Int))) w0 (sput S k (some (Ck.sl T A c l')))) : Ls P Q n ops (o :: rest) f w0 S :=
  ls_op hg fun ac w haa hs => op_wp haa (by
    subst hl'
    have hll := lcopy_length (m := m) ha
    injection he with he1 he2 he3
    subst he1; subst he2; subst he3
    have h0 := hs.holds k _ hS
    obtain ⟨hlen, hrow⟩ := h0
    have emz : ∀ r : List α, (em T r).length = r.length := fun r => by rw [em_length, hz1, Nat.mul_one]
    obtain ⟨w', hrun, hst⟩ : ∃ w', (Builtin.copy_ #[t, u] o.type #[.slice (if c = a then A else A.map (·.add (a * 1))) (l.length - a) (c - a), .slice B m.length cb]).run P w = .ok (.int .i64 ((min m.length (l.length - a) : Nat) : Int)) w' ∧ St w0 (sput S k (some (Ck.sl T A c (lcopy l a m)))) w' := by
      by_cases h00 : min m.length (l.length - a) = 0
      · -- nothing is copied
        have hsame : lcopy l a m = l := by
          unfold lcopy
          by_cases hm0 : m.length = 0
          · have : m = [] := List.eq_nil_of_length_eq_zero hm0
            subst this
            simp
          · have : l.length - a = 0 := by omega
            rw [this, List.take_zero, List.append_nil, List.drop_of_length_le (by omega), List.append_nil, List.take_of_length_le (by omega)]
        have hS2 : sput S k (some (Ck.sl T A c (lcopy l a m))) = S := by
          rw [hsame]
          funext j
          by_cases hj : j = k
          · subst hj; rw [sput_same]; exact hS.symm
          · rw [sput_ne _ _ hj]
        refine ⟨w, ?_, by rw [hS2]; exact hs⟩
        obtain ⟨q, hq, hq1⟩ := Option.map_eq_some_iff.1 hz
        have hmin : Nat.min m.length (l.length - a) = 0 := h00
        rw [h00]
        generalize (if c = a then A else A.map (·.add (a * 1))) = D
        cases B <;> cases D <;> simp [Builtin.copy_, run_underlying ht, sizeOf, typeInfo, hq, Builtin.lenOf, Builtin.firstCells, storeCells, loadCells, loadCellsFrom, goInt, hmin, h00, Result.andThen]
      · rcases hrow with ⟨hv', hn0⟩ | ⟨g, cap, cur, hv', hb, hob, hc1, hc2, hc3, hc4⟩
        · omega
        injection hv' with hv1 hv2 hv3
        subst hv3
        rw [hz1, Nat.mul_one] at hc3 hc4
        have hca : ¬ c = a := by omega
        subst hv1
        rw [if_neg hca]
        cases B with
        | none =>
          exfalso
          cases m with
          | nil => simp at h00
          | cons x r =>
            have hx0 : (em T (x :: r))[0]? = some ((em T (x :: r))[0]'(by rw [emz]; simp)) := List.getElem?_eq_getElem _
            obtain ⟨ad, e1, _⟩ := hR w hs 0 _ hx0
            cases e1
        | some ad =>
          have hcsl : (em T (m.take (l.length - a))).length = Nat.min m.length (l.length - a) := by rw [emz]; simp [Nat.min_comm]
          have h1 := run_copy_row (P := P) w t u o.type e g a (l.length - a) (c - a) ad m.length cb cur T.t (em T (m.take (l.length - a))) ht hz hob hcsl (fun j v hj => by
            have hj' : (em T m)[j]? = some v := by
              rw [em_take, List.getElem?_take] at hj
              split at hj
              · exact hj
              · cases hj
            obtain ⟨ad', e1, hc⟩ := hR w hs j v hj'
            obtain rfl := Option.some.inj e1
            exact hc) (by have : cur.size = c := by simpa using hc3
                          rw [hcsl]; have := Nat.min_le_right m.length (l.length - a); simp only [Nat.min_def] at *; split <;> omega) (em_one T _)
          refine ⟨w.setRow g (cur.toList.take a ++ em T (m.take (l.length - a)) ++ cur.toList.drop (a + (em T (m.take (l.length - a))).length)).toArray, by
            show (Builtin.copy_ #[t, u] o.type #[.slice (some ((⟨g, 0, none⟩ : Addr).add (a * 1))) (l.length - a) (c - a), .slice (some ad) m.length cb]).run P w = _
            rw [Nat.mul_one, addo, Nat.zero_add, h1, show goInt (em T (m.take (l.length - a))).length = .int .i64 ((min m.length (l.length - a) : Nat) : Int) from by rw [hcsl]; rfl], ?_⟩
          have hcl : cur.toList.length = c := by simpa using hc3
          have hml : (em T (m.take (l.length - a))).length = min m.length (l.length - a) := hcsl
          refine hs.set (w' := w.setRow g (cur.toList.take a ++ em T (m.take (l.length - a)) ++ cur.toList.drop (a + (em T (m.take (l.length - a))).length)).toArray) (c' := Ck.sl T (some ⟨g, 0, none⟩) c (lcopy l a m)) hS rfl rfl rfl (by simp [World.setRow]) (fun j hj hne => setRow_other w g j _ (fun e1 => hne (by simp [Ck.sl, Ck.row, Value.ownBlock, e1]))) ⟨by rw [emz, hll, hz1, Nat.mul_one], .inr ⟨g, c, _, rfl, Nat.zero_le _, setRow_heap w g cur _ T.t _ hob, by rw [hll]; exact hc1, hc2, ?_, ?_⟩⟩ (fun j hj => .inl (hj))
          · rw [hz1, Nat.mul_one]
            simp
            omega
          · rw [hz1, Nat.mul_one, hll]
            have e4 : em T (lcopy l a m) = (em T l).take a ++ em T (m.take (l.length - a)) ++ (em T l).drop (a + m.length) := by
              unfold lcopy
              rw [em_append, em_append, em_take, em_drop, hz1, Nat.mul_one, Nat.mul_one]
            rw [e4, ← hc4]
            apply List.ext_getElem?
            intro j
            have hmn : min m.length (l.length - a) ≤ l.length - a := Nat.min_le_right _ _
            by_cases hj : j < l.length
            · simp only [List.getElem?_take, List.getElem?_append, List.length_append, List.length_take, hml, hcl, List.getElem?_drop]
              by_cases c1 : j < a
              · have d1 : j < min a c := by omega
                have d2 : j < min a c + min m.length (l.length - a) := by omega
                have d3 : j < min a (min l.length c) := by omega
                have d4 : j < min a (min l.length c) + min m.length (l.length - a) := by omega
                simp [hj, c1, d1, d2, d3, d4]
              · by_cases c2 : j < a + min m.length (l.length - a)
                · have d1 : ¬ j < min a c := by omega
                  have d2 : j < min a c + min m.length (l.length - a) := by omega
                  have d3 : ¬ j < min a (min l.length c) := by omega
                  have d4 : j < min a (min l.length c) + min m.length (l.length - a) := by omega
                  have e5 : min a c = a := by omega
                  have e6 : min a (min l.length c) = a := by omega
                  simp [hj, d1, d2, d3, d4, e5, e6, c1, c2]
                · have d2 : ¬ j < min a c + min m.length (l.length - a) := by omega
                  have d4 : ¬ j < min a (min l.length c) + min m.length (l.length - a) := by omega
                  have e5 : min a c = a := by omega
                  have e6 : min a (min l.length c) = a := by omega
                  have e7 : min m.length (l.length - a) = m.length := by omega
                  rw [e5] at d2; rw [e6] at d4
                  simp only [e5, e6, if_pos hj, if_neg d2, if_neg d4, e7]
                  have e8 : a + m.length + (j - (a + m.length)) = j := by omega
                  rw [e8, if_pos hj]
            · rw [List.getElem?_eq_none (by simp; omega), List.getElem?_eq_none (by
                rw [hc4]
                simp only [List.length_append, List.length_take, List.length_drop, hml, emz]
                omega)]
    unfold execOp
    simp only [ho, resolve, invoke, builtin, Sem.run_bind, Sem.run_pure, Result.andThen_ok, List.map_toArray, List.map_cons, List.map_nil, hx, hy, hrun]
    show wpList P ops Q rest (ac.put o.dst _) _
    rw [hd]
    exact h _ _ (haa.put hn _) hst)
end
theorem whole_he (A : Option Addr) (n c : Nat) : Value.slice (if c = 0 then A else A.map (·.add (0 * 1))) (n - 0) (c - 0) = Value.slice A n c := by
  have : (if c = 0 then A else A.map (·.add (0 * 1))) = A := by
    split
    · rfl
    · cases A with
      | none => rfl
      | some ad => simp [Addr.add]
  rw [this]
  rfl
/-! ### A row of slices that grows -/
def InsC (T : Ec α) (b : Bs) (L : List (Pl × List α)) : Prop := ∀ c ∈ L, Ro b c.1.1 (em T c.2) ∧ c.2.length ≤ c.1.2
section
variable {t : TypeId} {T : Ec α} {b b' w0 : Bs} {A : Option Addr} {l m : List (List α)} {L M : List (Pl × List α)}
theorem InsC.nil (T : Ec α) (b : Bs) : InsC T b [] := fun c h => by cases h
theorem InsC.one {q : Option Addr} {n : Nat} {x : List α} (h1 : Ro b q (em T x)) (h2 : x.length ≤ n) : InsC T b [((q, n), x)] := fun c h => by
  obtain rfl := List.mem_singleton.1 h
  exact ⟨h1, h2⟩
theorem InsC.app (h : InsC T b L) (h2 : InsC T b M) : InsC T b (L ++ M) := fun c hc => (List.mem_append.1 hc).elim (h c) (h2 c)
theorem InsC.mono (hok : ∀ k, b.fz k → k < b.w.heap.size ∧ ¬ b.ks k) (hb : b.le b') (h : InsC T b L) : InsC T b' L := fun c hc => ⟨(h c hc).1.mono hok hb, (h c hc).2⟩
theorem St.insC {w : World} {S : Sto} (hs : St w0 S w) (h : InsC T w0 L) (cl ro : List Ck) : InsC T (lent w0 w cl ro) L := fun c hc => ⟨hs.ro (h c hc).1 cl ro, (h c hc).2⟩
theorem RoS.ofE (h : Ro b A (em (Ec.sls t α) L)) (h2 : InsC T b L) (e : L.map (·.2) = l) : RoS t T b A l := e ▸ RoS.of h h2
theorem lenE (e : L.map (·.2) = l) {c : Nat} (h : L.length ≤ c) : l.length ≤ c := by rw [← e, List.length_map]; exact h
theorem mapE (e : L.map (·.2) = l) (e2 : M.map (·.2) = m) : (L ++ M).map (·.2) = l ++ m := by rw [List.map_append, e, e2]
end
section
variable {P : Program} {Q : Exit → Act → World → Prop} {n : Nat} {ops : Array Oper} {rest : List Oper} {o : Oper} {f : Fr} {w0 : Bs} {S : Sto} {d : Nat} {t te : TypeId} {A B : Option Addr} {c cb : Nat} {l m : List (List α)} {L M : List (Pl × List α)}
theorem ls_appS (te : TypeId) (k : Nat) {z : Value} {bytes : Nat} (hE : L.map (·.2) = l) (hE2 : M.map (·.2) = m) (hg : o.guard = none) (hd : o.dst = some d) (hn : Nat.blt d n = true) {s x : Operand} (ho : o.op = .call { callee := .builtin .append, args := #[s, x], argTypes := #[t, t] }) (hs : ev f s = .slice A l.length c) (hS : S k = some (Ck.sl (Ec.sls te α) A c L)) (hx : ev f x = .slice B m.length cb)
    (hR : ∀ w, St w0 S w → Rd w B (em (Ec.sls te α) M)) (ht : P.underlying t = some (.slice te)) (hi : (P.info? te).map (fun i => (i.zero, i.size, i.bytes)) = some (some z, 1, bytes)) (hz : z.cells.size = 1) (hb0 : 0 < bytes) (hbytes : (l.length + m.length) * bytes ≤ 140737488355328)
    (h : ∀ A' c', Ls P Q n ops rest (upd f d (.slice A' (l ++ m).length c')) w0 (sput S k (some (Ck.sl (Ec.sls te α) A' c' (L ++ M))))) : Ls P Q n ops (o :: rest) f w0 S := by
  have el : l.length = L.length := by rw [← hE, List.length_map]
  have em' : m.length = M.length := by rw [← hE2, List.length_map]
  refine ls_app (Ec.sls te α) (l := L) (m := M) k hg hd hn ho (by rw [hs, el]) hS (by rw [hx, em']) hR ht hi hz hb0 (by rw [← el, ← em']; exact hbytes) fun A' c' => ?_
  have := h A' c'
  rw [show (L ++ M).length = (l ++ m).length by rw [List.length_append, List.length_append, el, em']]
  exact this
/-- A literal slice of one structure. -/
theorem ls_lit1 {T : Ec α} (k : Nat) (y : α) (hg : o.guard = none) (hd : o.dst = some d) (hn : Nat.blt d n = true) {x : Operand} (ho : o.op = .buildSlice t 1 #[(0, x)]) (hx : ev f x = .agg ⟨T.E y⟩) (ht : P.underlying t = some (.slice T.t)) (hi : (P.info? T.t).map (fun i => (i.zero.isSome, i.size)) = some (true, T.z)) (hz : Nat.ble T.z 16777216 = true)
    (h : ∀ g, Ls P Q n ops rest (upd f d (.slice (some ⟨g, 0, none⟩) [y].length [y].length)) w0 (sput S k (some (Ck.sl T (some ⟨g, 0, none⟩) [y].length [y])))) : Ls P Q n ops (o :: rest) f w0 S := by
  refine ls_lit T k hg hd hn [y] (by show 1 ≤ maxLen; decide) (fun w => ?_) h
  obtain ⟨ie, hie, he⟩ := Option.map_eq_some_iff.1 hi
  obtain ⟨he1, he2⟩ := Prod.mk.inj he
  obtain ⟨z, hzz⟩ := Option.isSome_iff_exists.1 he1
  have hz' := Nat.le_of_ble_eq_true hz
  have hp := T.pos
  have hf := Great.fill_whole (s := T.z) hp [Value.agg ⟨T.E y⟩] ((Array.range (1 * T.z)).map (z.cells[· % z.cells.size]!)) (fun v hv => by obtain rfl := List.mem_singleton.1 hv; show (T.E y).length = T.z; exact T.len y) (by simp)
  unfold execOp
  rw [ho]
  refine lift_v ?_
  have e : ((#[(0, x)] : Array (Nat × Operand)).map fun (i, x) => (i, ev f x)) = #[(0, Value.agg ⟨T.E y⟩)] := by rw [← hx]; simp
  rw [e]
  have hr := run_buildSlice (P := P) w t T.t 1 #[(0, Value.agg ⟨T.E y⟩)] ⟨T.E y⟩ ie z ht hie hzz (by rw [he2]; omega) (by rw [he2]; omega) (by
    rw [he2]
    refine Eq.trans hf ?_
    simp [Value.cells])
  rw [hr]
  simp [em]
end
/-! ### Effects that need not go in line: each state has a label -/
def allow (tab : List (List Nat)) (p : Nat) (ef : Nat → Bool) (dn : Nat → Nat → Bool) (q i : Nat) : Bool := !dn q i && (List.range p).all fun j => !(ef j) || (!((tab.getD i []).contains j) || dn q j)
def labOk (tab : List (List Nat)) (p : Nat) (ef : Nat → Bool) (pv : Nat → Pv) (dn : Nat → Nat → Bool) (tr : Nat → Nat → Nat) (labs : Nat → List Nat) (L qf : Nat) : Bool :=
  (List.range L).all (fun q => (List.range p).all fun i => !(ef i && allow tab p ef dn q i) || ((labs i).contains q && Nat.blt (tr q i) L && (List.range p).all fun j => !ef j || (dn (tr q i) j == (dn q j || Nat.beq j i)))) &&
  (List.range p).all (fun i => match pv i with
    | .eff e => (ef i && Nat.beq e i) || (ef e && (tab.getD i []).contains e)
    | .val _ => true) &&
  (List.range L).all (fun q => !((List.range p).all fun j => !ef j || dn q j) || Nat.beq q qf) &&
  Nat.blt 0 L && (List.range p).all (fun j => !ef j || !dn 0 j) && (List.range p).all (fun i => ef i || (labs i).contains 0)
structure ChOkL (P : Program) (n : Nat) (ops : Array Oper) (tab : List (List Nat)) (f : Fr) (w0 : Bs) (S : Sto) (keep ef : Nat → Bool) (pv : Nat → Pv) (E : Nat → (Nat → Value) → Sto → Prop) (tr : Nat → Nat → Nat) (labs : Nat → List Nat) (on : Nat → Bool) (i : Nat) : Prop where
  ok : ∀ q ∈ labs i, ∀ o, ops[i]? = some o → ∀ (es vs : Nat → Value) (f' : Fr) (S' : Sto),
    (∀ j, (tab.getD i []).contains j = true → ef j = true → vs j = es j) → (∀ j, (tab.getD i []).contains j = true → (pv j).ok es (vs j)) →
    (∀ j d, (tab.getD i []).contains j = true → dstAt ops j = some d → f' d = vs j) → (∀ t, lateOk ops tab i t = true → f' t = f t) → (∀ u, keep u = true → S' u = S u) → (ef i = true → E q es S') →
    (∀ a, At n f' a → Region.wanted o (yielded ops a.tmps) = on i) ∧
    (ef i = false → on i = true → Ls P (QPv (pv i) es n f' o.dst w0 S') n ops [{ o with guard := none }] f' w0 S') ∧ (ef i = false → on i = false → (pv i).ok es undef) ∧
    (ef i = true → on i = true → Ls P (QEf (pv i) (E (tr q i)) es i keep S n f' o.dst w0) n ops [{ o with guard := none }] f' w0 S') ∧ (ef i = true → on i = false → E (tr q i) (upv es i undef) S' ∧ (pv i).ok (upv es i undef) undef)
theorem lq_nil {p : Nat → Prop} : ∀ q ∈ ([] : List Nat), p q := fun q h => by cases h
theorem lq_cons {p : Nat → Prop} {t : Nat} {l : List Nat} (h : p t) (hr : ∀ q ∈ l, p q) : ∀ q ∈ t :: l, p q := fun q hq => by
  rcases List.mem_cons.1 hq with rfl | hq
  · exact h
  · exact hr q hq
section
variable {P : Program} {Q : Exit → Act → World → Prop} {n : Nat} {ops : Array Oper} {tab : List (List Nat)} {f : Fr} {w0 : Bs} {S : Sto} {keep ef : Nat → Bool} {pv : Nat → Pv} {E : Nat → (Nat → Value) → Sto → Prop} {on : Nat → Bool} {dn : Nat → Nat → Bool} {tr : Nat → Nat → Nat} {labs : Nat → List Nat} {L qf : Nat}
def InvL (ops : Array Oper) (n : Nat) (tab : List (List Nat)) (f : Fr) (w0 : Bs) (S : Sto) (keep ef : Nat → Bool) (pv : Nat → Pv) (E : Nat → (Nat → Value) → Sto → Prop) (dn : Nat → Nat → Bool) (L p : Nat) (b : Nat → Bool) (a : Act) (w : World) : Prop :=
  (∀ j, b j = true → j < ops.size ∧ ∀ m, (tab.getD j []).contains m = true → b m = true) ∧
  ∃ (c : Nat) (es vs : Nat → Value) (f' : Fr) (S' : Sto), c < L ∧ (∀ j, j < p → ef j = true → (b j = true ↔ dn c j = true)) ∧ (∀ j, b j = true → ef j = true → vs j = es j) ∧ (∀ j, b j = true → (pv j).ok es (vs j)) ∧
    E c es S' ∧ (∀ u, keep u = true → S' u = S u) ∧ (∀ j d, b j = true → dstAt ops j = some d → f' d = vs j) ∧ (∀ t, (∀ j, b j = true → dstAt ops j ≠ some t) → f' t = f t) ∧ At n f' a ∧ St w0 S' w
theorem chain_lab (p : Nat) (ht : tabOk ops tab = true) (hd : dstsOk ops = true) (hdn : ∀ j d, dstAt ops j = some d → Nat.blt d n = true) (hch : labOk tab p ef pv dn tr labs L qf = true) (h : ∀ i, i < p → ChOkL P n ops tab f w0 S keep ef pv E tr labs on i)
    (hp : p ≤ ops.size) (hfull : ∀ i, p ≤ i → i < ops.size → ∀ j, j < i → (tab.getD i []).contains j = true)
    (hend : ∀ b a w, (∀ j, b j = true → j < p) → (∀ j, j < p → b j = true) → InvL ops n tab f w0 S keep ef pv E dn L p b a w → wpList P ops Q (ops.toList.drop p) a w) :
    ∀ (m : Nat) (b : Nat → Bool) (a : Act) (w : World), (∀ j, b j = true → j < p) → ((List.range p).filter fun j => !b j).length = m → InvL ops n tab f w0 S keep ef pv E dn L p b a w → wpAny P .any ops Q (m + (ops.size - p)) (lof ops.size b) a w := by
  have mem_ready := @ready_mem ops
  simp only [labOk, Bool.and_eq_true] at hch
  obtain ⟨⟨⟨⟨⟨hc1, hc2⟩, hc3⟩, _⟩, _⟩, hc6⟩ := hch
  have hlab : ∀ i, i < p → ef i = false → 0 ∈ labs i := fun i hi he => by
    have h1 := List.all_eq_true.1 hc6 i (List.mem_range.2 hi)
    rw [he] at h1
    simpa using h1
  have hstep : ∀ q i, q < L → i < p → ef i = true → dn q i = false → (∀ j, j < p → ef j = true → (tab.getD i []).contains j = true → dn q j = true) → q ∈ labs i ∧ tr q i < L ∧ ∀ j, j < p → ef j = true → dn (tr q i) j = (dn q j || Nat.beq j i) := fun q i hq hi he hd0 hpr => by
    have h1 := List.all_eq_true.1 (List.all_eq_true.1 hc1 q (List.mem_range.2 hq)) i (List.mem_range.2 hi)
    have ha : allow tab p ef dn q i = true := by
      simp only [allow, hd0, Bool.not_false, Bool.true_and]
      refine List.all_eq_true.2 fun j hj => ?_
      cases e1 : ef j with
      | false => rfl
      | true =>
        cases e2 : (tab.getD i []).contains j with
        | false => rfl
        | true => rw [hpr j (List.mem_range.1 hj) e1 e2]; rfl
    rw [he, ha] at h1
    simp only [Bool.and_true, Bool.not_true, Bool.false_or, Bool.and_eq_true] at h1
    obtain ⟨⟨h1, h2⟩, h3⟩ := h1
    refine ⟨by simpa using h1, Nat.le_of_ble_eq_true h2, fun j hj hej => ?_⟩
    have h4 := List.all_eq_true.1 h3 j (List.mem_range.2 hj)
    rw [hej] at h4
    simpa using h4
  have hc2 : ∀ i e, i < p → pv i = .eff e → (ef i = true ∧ e = i) ∨ (ef e = true ∧ (tab.getD i []).contains e = true) := fun i e hi hpe => by
    have h1 := List.all_eq_true.1 hc2 i (List.mem_range.2 hi)
    simp only [hpe, Bool.or_eq_true, Bool.and_eq_true] at h1
    rcases h1 with ⟨h1, h2⟩ | h1
    · exact .inl ⟨h1, Nat.eq_of_beq_eq_true h2⟩
    · exact .inr h1
  intro m
  induction m with
  | zero =>
    intro b a w hbp hm hI
    have hall : ∀ j, j < p → b j = true := fun j hj => by
      have h1 := List.eq_nil_of_length_eq_zero hm
      cases hb : b j with
      | true => rfl
      | false =>
        have : j ∈ (List.range p).filter fun j => !b j := List.mem_filter.2 ⟨List.mem_range.2 hj, by rw [hb]; rfl⟩
        rw [h1] at this
        cases this
    have e : b = fun j => Nat.blt j p := by
      funext j
      rw [Bool.eq_iff_iff]
      exact ⟨fun h => by have := hbp j h; simp [Nat.blt]; omega, fun h => hall j (by simp [Nat.blt] at h; omega)⟩
    have h1 := hend b a w hbp hall hI
    rw [e, Nat.zero_add]
    exact tail_any ht p hfull (ops.size - p) p a w (by omega) (Nat.le_refl _) h1
  | succ m ih =>
    intro b a w hbp hm hI
    rw [show m + 1 + (ops.size - p) = (m + (ops.size - p)) + 1 from by omega]
    have hex : ∃ i, i ∈ Region.ready .any ops (lof ops.size b) := by
      have hne : ∃ i, i < ops.size ∧ b i = false := by
        rcases hl : (List.range p).filter fun j => !b j with _ | ⟨x, r⟩
        · rw [hl] at hm; cases hm
        · have hx : x ∈ (List.range p).filter fun j => !b j := by rw [hl]; simp
          rw [List.mem_filter, List.mem_range] at hx
          exact ⟨x, by omega, by simpa using hx.2⟩
      have key : ∀ q i, i ≤ q → i < ops.size → b i = false → ∃ i, i ∈ Region.ready .any ops (lof ops.size b) := by
        intro q
        induction q with
        | zero =>
          intro i hq h1 h2
          have hi0 : i = 0 := by omega
          subst hi0
          obtain ⟨o, ho⟩ : ∃ o, ops[0]? = some o := ⟨_, Array.getElem?_eq_getElem h1⟩
          exact ⟨0, mem_ready.2 ⟨h1, h2, o, ho, fun e he => by have := (tab_row ht ho).1 e he; omega⟩⟩
        | succ q ihq =>
          intro i hq h1 h2
          obtain ⟨o, ho⟩ : ∃ o, ops[i]? = some o := ⟨_, Array.getElem?_eq_getElem h1⟩
          by_cases hall : ∀ e ∈ dirOf o, b e = true
          · exact ⟨i, mem_ready.2 ⟨h1, h2, o, ho, fun e he => ⟨by have := (tab_row ht ho).1 e he; omega, hall e he⟩⟩⟩
          · obtain ⟨e, he⟩ : ∃ e, e ∈ dirOf o ∧ b e = false := by
              apply Classical.byContradiction
              intro hno
              exact hall (fun e he => by
                cases hb : b e with
                | true => rfl
                | false => exact (hno ⟨e, he, hb⟩).elim)
            have hlt := (tab_row ht ho).1 e he.1
            exact ihq e (by omega) (by omega) he.2
      obtain ⟨i, h1, h2⟩ := hne
      exact key i i (Nat.le_refl _) h1 h2
    refine ⟨fun he => (by obtain ⟨i, hi⟩ := hex; rw [he] at hi; cases hi), fun i hi => ?_⟩
    obtain ⟨h1, h2, o, ho, h3⟩ := mem_ready.1 hi
    obtain ⟨hcl, c, es, vs, f', S', hcL, hcc, hve, hvp, hE, hK, hf, hx, ha, hs⟩ := hI
    obtain ⟨r1, r2, r3⟩ := tab_row ht ho
    have hpre : ∀ j, (tab.getD i []).contains j = true → b j = true := fun j hj => by
      rcases r2 j hj with hj | ⟨e, he, hj⟩
      · exact (h3 j hj).2
      · exact (hcl e (h3 e he).2).2 j hj
    have hnot : ∀ j, b j = true → (tab.getD j []).contains i = true → False := fun j hj hc => by
      have := (hcl j hj).2 i hc
      rw [h2] at this
      cases this
    have hip : i < p := by
      by_cases e : i < p
      · exact e
      · exfalso
        have h5 : ∃ j, j < p ∧ b j = false := by
          rcases hl : (List.range p).filter fun j => !b j with _ | ⟨x, r⟩
          · rw [hl] at hm; cases hm
          · have hx : x ∈ (List.range p).filter fun j => !b j := by rw [hl]; simp
            rw [List.mem_filter, List.mem_range] at hx
            exact ⟨x, hx.1, by simpa using hx.2⟩
        obtain ⟨j, hj, hbj⟩ := h5
        have h6 := hpre j (hfull i (by omega) h1 j (by omega))
        rw [hbj] at h6
        cases h6
    have hci : ef i = true → c ∈ labs i ∧ tr c i < L ∧ ∀ j, j < p → ef j = true → dn (tr c i) j = (dn c j || Nat.beq j i) := fun he =>
      hstep c i hcL hip he (by
        cases e : dn c i with
        | false => rfl
        | true => have := (hcc i hip he).2 e; rw [h2] at this; cases this) (fun j hj hej hjt => (hcc j hj hej).1 (hpre j hjt))
    obtain ⟨q, hq, hqc⟩ : ∃ q, q ∈ labs i ∧ (ef i = true → q = c) := by
      cases he : ef i with
      | false => exact ⟨0, hlab i hip he, fun h => by cases h⟩
      | true => exact ⟨c, (hci he).1, fun _ => rfl⟩
    have hok := (h i hip).ok q hq o ho es vs f' S' (fun j hj => hve j (hpre j hj)) (fun j hj => hvp j (hpre j hj)) (fun j d hj hjd => hf j d (hpre j hj) hjd)
      (fun t hlt => hx t (fun j hj hjd => by
        have h4 := List.all_eq_true.1 hlt j (List.mem_range.2 (hcl j hj).1)
        rw [hjd] at h4
        simp only [Bool.or_eq_true, Bool.not_eq_true'] at h4
        rcases h4 with (h4 | h4) | h4
        · simp at h4
        · have := Nat.eq_of_beq_eq_true h4
          subst this
          rw [h2] at hj
          cases hj
        · exact hnot j hj h4))
      hK (fun he => by rw [hqc he]; exact hE)
    have hwant := hok.1 a ha
    -- what stands behind the step, whatever it was
    have frame : ∀ v a' , At n (updo f' o.dst v) a' → (∀ j d, up b i j = true → dstAt ops j = some d → updo f' o.dst v d = upv vs i v j) ∧ (∀ t, (∀ j, up b i j = true → dstAt ops j ≠ some t) → updo f' o.dst v t = f t) := fun v a' ha' => by
      have hodst : dstAt ops i = o.dst := by simp [dstAt, ho]
      refine ⟨fun j d hj hjd => ?_, fun t hnt => ?_⟩
      · by_cases e : j = i
        · subst e
          rw [hodst] at hjd
          rw [hjd, upv_self]
          simp [updo, upd_same]
        · rw [up_ne e] at hj
          rw [upv_ne _ _ e]
          cases hod : o.dst with
          | none => exact hf j d hj hjd
          | some q =>
            have hqd : d ≠ q := fun e2 => by
              subst e2
              have h6 := List.all_eq_true.1 hd j (List.mem_range.2 (hcl j hj).1)
              have h7 := List.all_eq_true.1 h6 i (List.mem_range.2 h1)
              rw [hjd, hodst, hod] at h7
              simp [beq_false e] at h7
            show upd f' q v d = _
            rw [upd_ne f' v hqd]
            exact hf j d hj hjd
      · have hft : f' t = f t := hx t (fun j hj => hnt j (by
          by_cases e : j = i
          · subst e; rw [h2] at hj; cases hj
          · rw [up_ne e]; exact hj))
        cases hod : o.dst with
        | none => exact hft
        | some q =>
          have hqt : t ≠ q := fun e => by
            subst e
            exact hnt i (up_self b i) (by rw [hodst, hod])
          show upd f' q v t = _
          rw [upd_ne f' v hqt]
          exact hft
    have closed : ∀ j, up b i j = true → j < ops.size ∧ ∀ m, (tab.getD j []).contains m = true → up b i m = true := fun j hj => by
      rcases up_true hj with rfl | hj
      · refine ⟨h1, fun m hm => ?_⟩
        by_cases e : m = j
        · subst e; exact up_self b _
        · rw [up_ne e]; exact hpre m hm
      · refine ⟨(hcl j hj).1, fun m hm => ?_⟩
        by_cases e : m = i
        · subst e; exact up_self b _
        · rw [up_ne e]; exact (hcl j hj).2 m hm
    have cnt : ((List.range p).filter fun j => !up b i j).length = m := by
      have := up_count (b := b) (i := i) (List.nodup_range (n := p)) (List.mem_range.2 hip) h2
      omega
    have nextP : ef i = false → ∀ v a' w', (pv i).ok es v → At n (updo f' o.dst v) a' → St w0 S' w' → wpAny P .any ops Q (m + (ops.size - p)) ((lof ops.size b).setIfInBounds i true) a' w' := fun hef v a' w' hv ha' hs' => by
      rw [lof_up h1]
      obtain ⟨f1, f2⟩ := frame v a' ha'
      refine ih (up b i) a' w' (fun j hj => (up_true hj).elim (fun e => e ▸ hip) (hbp j)) cnt ⟨closed, c, es, upv vs i v, updo f' o.dst v, S', hcL, fun j hj hej => ?_, fun j hj hej => ?_, fun j hj => ?_, hE, hK, f1, f2, ha', hs'⟩
      · have hji : j ≠ i := fun e => by subst e; rw [hef] at hej; cases hej
        rw [up_ne hji]
        exact hcc j hj hej
      · have hji : j ≠ i := fun e => by subst e; rw [hef] at hej; cases hej
        rw [up_ne hji] at hj
        rw [upv_ne _ _ hji]
        exact hve j hj hej
      · by_cases e : j = i
        · subst e; rw [upv_self]; exact hv
        · rw [up_ne e] at hj
          rw [upv_ne _ _ e]
          exact hvp j hj
    have nextE : ef i = true → ∀ v S'' a' w', E (tr q i) (upv es i v) S'' → (pv i).ok (upv es i v) v → (∀ u, keep u = true → S'' u = S u) → At n (updo f' o.dst v) a' → St w0 S'' w' → wpAny P .any ops Q (m + (ops.size - p)) ((lof ops.size b).setIfInBounds i true) a' w' := fun hef v S'' a' w' hv hpo hK' ha' hs' => by
      rw [lof_up h1]
      obtain ⟨f1, f2⟩ := frame v a' ha'
      have hqe := hqc hef
      subst hqe
      obtain ⟨_, n1, n3⟩ := hci hef
      refine ih (up b i) a' w' (fun j hj => (up_true hj).elim (fun e => e ▸ hip) (hbp j)) cnt ⟨closed, tr q i, upv es i v, upv vs i v, updo f' o.dst v, S'', n1, fun j hj hej => ?_, fun j hj hej => ?_, fun j hj => ?_, hv, hK', f1, f2, ha', hs'⟩
      · rw [n3 j hj hej]
        by_cases e : j = i
        · subst e; simp [up_self]
        · rw [up_ne e, hcc j hj hej]
          have : Nat.beq j i = false := beq_false e
          rw [this, Bool.or_false]
      · by_cases e : j = i
        · subst e; rw [upv_self, upv_self]
        · rw [up_ne e] at hj
          rw [upv_ne _ _ e, upv_ne _ _ e]
          exact hve j hj hej
      · by_cases hjc : j = i
        · subst hjc; rw [upv_self]; exact hpo
        · rw [up_ne hjc] at hj
          rw [upv_ne _ _ hjc]
          have h9 := hvp j hj
          cases hpv : pv j with
          | val u => rw [hpv] at h9; exact h9
          | eff e =>
            rw [hpv] at h9
            have hjp := hbp j hj
            have hec : e ≠ i := by
              rcases hc2 j e hjp hpv with ⟨_, h10⟩ | ⟨_, he2⟩
              · rw [h10]; exact hjc
              · have hbe := (hcl j hj).2 e he2
                intro e3
                subst e3
                rw [h2] at hbe
                cases hbe
            show vs j = upv es i v e
            rw [upv_ne _ _ hec]
            exact h9
    unfold wpOp
    rw [ho]
    simp only
    rw [hwant]
    have hput : ∀ (d : Option Nat), o.dst = d → At n (updo f' d undef) (a.put d undef) := fun d hod => by
      cases d with
      | none => exact ha
      | some q => exact ha.put (hdn i q (by simp [dstAt, ho, hod])) undef
    cases hon : on i with
    | true =>
      rw [if_pos rfl]
      left
      cases hef : ef i with
      | false =>
        have h4 := hok.2.1 hef hon a w ha hs
        unfold wpList at h4
        rw [if_pos (by simp [Region.wanted])] at h4
        have h5 : o.wp P a w (wpList P ops (QPv (pv i) es n f' o.dst w0 S') []) (QPv (pv i) es n f' o.dst w0 S') := by
          rcases h4 with h4 | ⟨_, a1, w1, h4, _⟩
          · exact h4
          · cases h4
        exact wp_mono2 (fun a' w' hq => by obtain ⟨_, v, hv, ha', hs'⟩ := hq; exact nextP hef v a' w' hv ha' hs') (fun e a' w' hne hq => absurd hq.1 hne) h5
      | true =>
        have h4 := hok.2.2.2.1 hef hon a w ha hs
        unfold wpList at h4
        rw [if_pos (by simp [Region.wanted])] at h4
        have h5 : o.wp P a w (wpList P ops (QEf (pv i) (E (tr q i)) es i keep S n f' o.dst w0) []) (QEf (pv i) (E (tr q i)) es i keep S n f' o.dst w0) := by
          rcases h4 with h4 | ⟨_, a1, w1, h4, _⟩
          · exact h4
          · cases h4
        exact wp_mono2 (fun a' w' hq => by obtain ⟨_, v, S'', hv, hpo, hK', ha', hs'⟩ := hq; exact nextE hef v S'' a' w' hv hpo hK' ha' hs') (fun e a' w' hne hq => absurd hq.1 hne) h5
    | false =>
      rw [if_neg (by simp)]
      cases hef : ef i with
      | false => exact nextP hef undef _ _ (hok.2.2.1 hef hon) (hput o.dst rfl) hs
      | true => exact nextE hef undef S' _ _ (hok.2.2.2.2 hef hon).1 (hok.2.2.2.2 hef hon).2 hK (hput o.dst rfl) hs
end
section
variable {P : Program} {Q : Exit → Act → World → Prop} {n : Nat} {ops : Array Oper} {l : List Oper} {f f' F : Fr} {w0 : Bs} {S S0 : Sto} {keep : Nat → Bool}
theorem cs_lab {id : Nat} (tab : List (List Nat)) (p : Nat) (keep ef : Nat → Bool) (pv : Nat → Pv) (E : Nat → (Nat → Value) → Sto → Prop) (DN : List (List Nat)) (TR : List (List Nat)) (LL : List (List Nat)) (on : Nat → Bool) (L qf : Nat) (hm : P.follows .mixedOrders = true) (ht : tabOk l.toArray tab = true) (hd : dstsOk l.toArray = true) (hdn : (List.range l.toArray.size).all (fun j => match dstAt l.toArray j with
    | some d => Nat.blt d n
    | none => true) = true)
    (hch : labOk tab p ef pv (fun q j => (DN.getD q []).contains j) (fun q i => (TR.getD q []).getD i 0) (fun i => LL.getD i []) L qf = true) {rs : List Oper} (hrs : l.drop p = rs) (hp : Nat.ble p l.toArray.size = true) (hfull : (List.range l.toArray.size).all (fun i => Nat.blt i p || (List.range i).all fun j => (tab.getD i []).contains j) = true)
    (h0 : ∀ es, E 0 es S) (h : ∀ i, i < p → ChOkL P n l.toArray tab f w0 S keep ef pv E (fun q i => (TR.getD q []).getD i 0) (fun i => LL.getD i []) on i)
    (hend : ∀ (es vs : Nat → Value) (f' : Fr) (S' : Sto), (∀ j, Nat.blt j p = true → ef j = true → vs j = es j) → (∀ j, Nat.blt j p = true → (pv j).ok es (vs j)) → (∀ j d, Nat.blt j p = true → dstAt l.toArray j = some d → f' d = vs j) → (∀ t, notIn p l.toArray t = true → f' t = f t) →
      (∀ u, keep u = true → S' u = S u) → E qf es S' → Ls P Q n l.toArray rs f' w0 S') : Cs P Q n (.region id l.toArray true) f w0 S := fun a w ha hs => by
  have hdn' : ∀ j d, dstAt l.toArray j = some d → Nat.blt d n = true := fun j d hj => by
    have hlt : j < l.toArray.size := by
      unfold dstAt at hj
      cases ho : l.toArray[j]? with
      | none => rw [ho] at hj; cases hj
      | some o => exact (Array.getElem?_eq_some_iff.1 ho).1
    have := List.all_eq_true.1 hdn j (List.mem_range.2 hlt)
    rw [hj] at this
    exact this
  have hpl : p ≤ l.toArray.size := by simpa [Nat.ble_eq] using hp
  have hch' := hch
  simp only [labOk, Bool.and_eq_true] at hch'
  obtain ⟨⟨⟨⟨⟨_, _⟩, h3⟩, h4⟩, h5⟩, _⟩ := hch'
  have hL : 0 < L := Nat.le_of_ble_eq_true h4
  have hd0 : ∀ j, j < p → ef j = true → ¬ (DN.getD 0 []).contains j = true := fun j hj hej e => by
    have h7 := List.all_eq_true.1 h5 j (List.mem_range.2 hj)
    rw [hej, e] at h7
    cases h7
  refine wp_region_any hm ?_
  have hs1 : St w0 S { w with drawn := w.drawn + 1 } := hs.step ⟨rfl, rfl, rfl, Nat.le_refl _, fun _ _ => rfl⟩
  have h9 := chain_lab (P := P) (Q := Q) p ht hd hdn' hch h hpl (fun i h1 h2 j h3 => ?_) (fun b a w hbp hall hI => ?_) p (fun _ => false) a { w with drawn := w.drawn + 1 } (fun j hj => (by cases hj)) (by rw [List.filter_eq_self.2 (by intro _ _; simp)]; simp) ⟨fun j hj => (by cases hj), 0, fun _ => undef, fun _ => undef, f, S, hL, fun j hj hej => ⟨fun e => (by cases e), fun e => absurd e (hd0 j hj hej)⟩, fun j hj => (by cases hj), fun j hj => (by cases hj), h0 _, fun _ _ => rfl, fun j d hj => (by cases hj), fun t _ => rfl, ha, hs1⟩
  · have e : lof l.toArray.size (fun _ => false) = Array.replicate l.toArray.size false := by
      apply Array.ext'
      apply List.ext_getElem
      · simp [lof]
      · intro i h1 h2
        simp [lof]
    rw [e, show p + (l.toArray.size - p) = l.toArray.size from by omega] at h9
    exact h9
  · have h4 := List.all_eq_true.1 hfull i (List.mem_range.2 h2)
    rw [Bool.or_eq_true] at h4
    rcases h4 with h4 | h4
    · simp [Nat.blt] at h4
      omega
    · exact List.all_eq_true.1 h4 j (List.mem_range.2 h3)
  · obtain ⟨hcl, c, es, vs, f', S', hcL, hcc, hve, hvp, hE, hK, hf, hx, ha', hs'⟩ := hI
    have hb : ∀ j, Nat.blt j p = true → b j = true := fun j hj => hall j (by simp [Nat.blt] at hj; omega)
    have hcp' : c = qf := by
      have h7 := List.all_eq_true.1 h3 c (List.mem_range.2 hcL)
      have h8 : ((List.range p).all fun j => !ef j || (DN.getD c []).contains j) = true := List.all_eq_true.2 fun j hj => by
        cases e : ef j with
        | false => rfl
        | true =>
          have := (hcc j (List.mem_range.1 hj) e).1 (hall j (List.mem_range.1 hj))
          simp only at this
          rw [this]; rfl
      rw [h8] at h7
      exact Nat.eq_of_beq_eq_true (by simpa using h7)
    subst hcp'
    show wpList P l.toArray Q (l.drop p) a w
    rw [hrs]
    refine hend es vs f' S' (fun j hj => hve j (hb j hj)) (fun j hj => hvp j (hb j hj)) (fun j d hj hjd => hf j d (hb j hj) hjd) (fun t hnt => hx t (fun j hj hjd => ?_)) hK hE a w ha' hs'
    have h4 := List.all_eq_true.1 hnt j (List.mem_range.2 (hbp j hj))
    rw [hjd] at h4
    simp at h4
end
end Go.Proofs.Ythhhkphbhlafbaa.Sx
