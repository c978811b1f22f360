/- Small lemmas for a walk: loops of a known number of rounds, nil pointers, maps; no condition. -/
import Derived.Test.YthhhkphbhlafbaaSy
import Derived.MapKept
set_option linter.unusedVariables false
set_option linter.unusedSimpArgs false
namespace Go.Proofs.Ythhhkphbhlafbaa.Sx
open Go Go.RowKit
open Go.MapKept (IsKey)

/-- Pointers to variables, or to nothing. -/
def Ec.ptr (t : TypeId) : Ec (Option (Nat × Nat)) := ⟨t, fun x => [.pointer (x.map fun g => ⟨g.1, g.2, none⟩)], 1, none, fun _ => rfl, fun _ => one_cons rfl one_nil, Nat.one_pos⟩
/-! ### 1. A loop of at most so many rounds -/
def Rs (P : Program) (x : Code) (Q : Exit → Act → World → Prop) (m n : Nat) (f : Fr) (w0 : Bs) (S : Sto) : Prop := ∀ a w, At n f a → St w0 S w → Code.rounds P x Q m a w
section
variable {P : Program} {Q : Exit → Act → World → Prop} {n : Nat} {f : Fr} {w0 : Bs} {S : Sto} {x : Code}
theorem cs_rounds (m : Nat) (h : Rs P x Q m n f w0 S) : Cs P Q n (.loop x) f w0 S := fun a w ha hs => wp_loop_rounds m (h a w ha hs)
theorem rs_succ {m : Nat} (h : Cs P (Exit.then (fun a w => Code.rounds P x Q m a w) Q) n x f w0 S) : Rs P x Q (m + 1) n f w0 S := fun a w ha hs => by
  rw [rounds_succ]
  exact h a w ha hs
theorem qn_rounds {m : Nat} (h : Rs P x Q m n f w0 S) : Qn (Exit.then (fun a w => Code.rounds P x Q m a w) Q) n f w0 S := h
end
/-! ### 2. A map with one key at most -/
def mes (p : Bool) (v : Value) (born : Nat) : Array MapEntry := if p then #[⟨.int .i64 1, v, born⟩] else #[]
/-- The map's block, opened: with its clock, and the entry's stamp. -/
def Ck.m1x (r : Nat) (p : Bool) (A : Option Addr) (n c born clock : Nat) : Ck where
  key := [r]
  holds := fun w => w.heap[r]? = some (.map (mes p (.slice A n c) born) clock)
  stable := fun w w' h hk => by rw [hk r (by simp)]; exact h
  bound := fun w h k hk => by
    have hk : k = r := by simpa using hk
    subst hk
    exact (Array.getElem?_eq_some_iff.1 h).1
def Ck.m1 (r : Nat) (p : Bool) (A : Option Addr) (n c : Nat) : Ck where
  key := [r]
  holds := fun w => (∃ born clock, born < clock + 1 ∧ (p = true → born < clock) ∧ w.heap[r]? = some (.map (mes p (.slice A n c) born) clock)) ∧ (p = false → A = none ∧ n = 0 ∧ c = 0)
  stable := fun w w' h hk => by rw [hk r (by simp)]; exact h
  bound := fun w h k hk => by
    have hk : k = r := by simpa using hk
    subst hk
    obtain ⟨⟨_, _, _, _, h⟩, _⟩ := h
    exact (Array.getElem?_eq_some_iff.1 h).1
/-- One piece turns into another one of the same key, the world as it was. -/
theorem St.recast {b : Bs} {S : Sto} {w : World} (h : St b S w) {k : Nat} {c c' : Ck} (hS : S k = some c) (hc : c'.holds w) (hk : ∀ q ∈ c'.key, q ∈ c.key) : St b (sput S k (some c')) w :=
  h.set hS rfl rfl rfl (Nat.le_refl _) (fun _ _ _ => rfl) hc (fun q hq => .inl (hk q hq))
/-- A block of the call's own is written anew. -/
theorem St.wset {b : Bs} {S : Sto} {w w' : World} (h : St b S w) {k r : Nat} {o : Obj} {c c' : Ck} (hS : S k = some c) (hr : r ∈ c.key) (hw : w' = { w with heap := w.heap.setIfInBounds r o }) (hc : c'.holds w') (hk : ∀ q ∈ c'.key, q ∈ c.key) : St b (sput S k (some c')) w' := by
  subst hw
  refine h.set hS rfl rfl rfl (by simp) (fun q hq hn => ?_) hc (fun q hq => .inl (hk q hq))
  have hne : r ≠ q := fun e => hn (e ▸ hr)
  simp [hne]
section
variable {P : Program} {Q : Exit → Act → World → Prop} {n : Nat} {ops : Array Oper} {rest : List Oper} {o : Oper} {f : Fr} {w0 : Bs} {S : Sto} {d : Nat} {t kt et : TypeId} {r : Nat} {p : Bool} {A : Option Addr} {m c : Nat}
/-- An operation that turns one piece. -/
theorem ls_turn {K : Value} (hg : o.guard = none) (hd : o.dst = some d) (hn : Nat.blt d n = true) {S' : Sto} {v : Value} (hr : ∀ w, St w0 S w → ∃ w', (execOp (ev f) o).run P w = .ok (.value v) w' ∧ St w0 S' w') (h : Ls P Q n ops rest (upd f d v) w0 S') : Ls P Q n ops (o :: rest) f w0 S :=
  ls_op hg fun a w ha hs => op_wp ha (by
    obtain ⟨w', h1, h2⟩ := hr w hs
    rw [h1]
    show wpList P ops Q rest (a.put o.dst v) w'
    rw [hd]
    exact h _ _ (ha.put hn v) h2)
theorem ls_turn0 (hg : o.guard = none) (hd : o.dst = none) {S' : Sto} {s : Next} (hs0 : s = .skip ∨ ∃ v, s = .value v) (hr : ∀ w, St w0 S w → ∃ w', (execOp (ev f) o).run P w = .ok s w' ∧ St w0 S' w') (h : Ls P Q n ops rest f w0 S') : Ls P Q n ops (o :: rest) f w0 S :=
  ls_op hg fun a w ha hs => op_wp ha (by
    obtain ⟨w', h1, h2⟩ := hr w hs
    rw [h1]
    rcases hs0 with rfl | ⟨v, rfl⟩
    · show wpList P ops Q rest (a.put o.dst undef) w'
      rw [hd]
      exact h _ _ ha h2
    · show wpList P ops Q rest (a.put o.dst v) w'
      rw [hd]
      exact h _ _ ha h2)
theorem ls_makem1 (k : Nat) (hg : o.guard = none) (hd : o.dst = some d) (hn : Nat.blt d n = true) (ho : o.op = .makeMap t none) (h : ∀ g, Ls P Q n ops rest (upd f d (.map (some g))) w0 (sput S k (some (Ck.m1 g false none 0 0)))) : Ls P Q n ops (o :: rest) f w0 S :=
  ls_op hg fun a w ha hs => op_wp ha (by
    have hr : (execOp (ev f) o).run P w = .ok (.value (.map (some w.heap.size))) (w.alloc (.map #[] 0)) := by
      unfold execOp
      rw [ho]
      rfl
    rw [hr]
    show wpList P ops Q rest (a.put o.dst _) _
    rw [hd]
    exact h w.heap.size _ _ (ha.put hn _) (hs.new ((Below.refl _ _).alloc (Nat.le_refl _) _) k (c := Ck.m1 w.heap.size false none 0 0) ⟨⟨0, 0, by decide, fun h => (by cases h), heap_alloc_new w _⟩, fun _ => ⟨rfl, rfl, rfl⟩⟩ (fun q hq => Nat.le_of_eq (show q = w.heap.size by simpa [Ck.m1] using hq).symm)))
theorem St.m1 {w : World} (h : St w0 S w) {k : Nat} (hk : S k = some (Ck.m1 r p A m c)) : ∃ born clock, (p = true → born < clock) ∧ w.heap[r]? = some (.map (mes p (.slice A m c) born) clock) ∧ (p = false → A = none ∧ m = 0 ∧ c = 0) := by
  obtain ⟨⟨b, cl, _, h1, h2⟩, h3⟩ := h.holds k _ hk
  exact ⟨b, cl, h1, h2, h3⟩
theorem isKey_int {d : TypeDesc} (hd : d = .int .i64) (x : Int) : IsKey d (.int .i64 x) := by subst hd; simp [IsKey]
theorem find_mes (p : Bool) (v : Value) (born : Nat) : Instr.findNow (.int .i64) (.int .i64 1) (mes p v born).toList 0 = some (if p then some (0, v) else none) := by
  cases p <;> simp [mes, Instr.findNow, Instr.sameNow]
theorem run_m1look {w : World} (ht : P.underlying t = some (.map kt et)) (hkt : P.underlying kt = some (.int .i64)) (hz : (P.info? et).map (·.zero) = some (some (.slice none 0 0))) {born clock : Nat} (hh : w.heap[r]? = some (.map (mes p (.slice A m c) born) clock)) (hp : p = false → A = none ∧ m = 0 ∧ c = 0) :
    (Instr.lookup t (.map (some r)) (.int .i64 1) false).run P w = .ok (.slice A m c) w := by
  obtain ⟨i, hi, hi2⟩ := Option.map_eq_some_iff.1 hz
  unfold Instr.lookup
  cases p with
  | true => simp [run_underlying ht, Result.andThen, MapKept.run_getObj_map hh, MapKept.run_checkKey hkt (isKey_int rfl 1), MapKept.run_findKey hkt (find_mes true _ born)]
  | false =>
    obtain ⟨rfl, rfl, rfl⟩ := hp rfl
    simp [run_underlying ht, Result.andThen, MapKept.run_getObj_map hh, MapKept.run_checkKey hkt (isKey_int rfl 1), MapKept.run_findKey hkt (find_mes false _ born), zeroValue, typeInfo, hi, hi2]
theorem ls_m1look (k : Nat) (hg : o.guard = none) (hd : o.dst = some d) (hn : Nat.blt d n = true) {x : Operand} (ho : o.op = .lookup t x (.const (.int .i64 1)) false) (hx : ev f x = .map (some r)) (ht : P.underlying t = some (.map kt et)) (hkt : P.underlying kt = some (.int .i64)) (hz : (P.info? et).map (·.zero) = some (some (.slice none 0 0))) (hS : ∀ w, St w0 S w → ∃ born clock, (p = true → born < clock) ∧ w.heap[r]? = some (.map (mes p (.slice A m c) born) clock) ∧ (p = false → A = none ∧ m = 0 ∧ c = 0))
    (h : Ls P Q n ops rest (upd f d (.slice A m c)) w0 S) : Ls P Q n ops (o :: rest) f w0 S :=
  ls_read hg hd hn (fun w hs => by
    obtain ⟨b, cl, _, h2, h3⟩ := hS w hs
    unfold execOp
    rw [ho]
    refine lift_v ?_
    rw [hx]
    exact run_m1look ht hkt hz h2 h3) h
theorem run_m1put {w : World} (ht : P.underlying t = some (.map kt et)) (hkt : P.underlying kt = some (.int .i64)) {born clock : Nat} {v v' : Value} (hh : w.heap[r]? = some (.map (mes p v born) clock)) (hb : p = true → born < clock) :
    ∃ b' cl', b' < cl' ∧ (Instr.mapUpdate t (.map (some r)) (.int .i64 1) v').run P w = .ok () { w with heap := w.heap.setIfInBounds r (.map (mes true v' b') cl') } := by
  unfold Instr.mapUpdate
  cases p with
  | true =>
    refine ⟨born, clock, hb rfl, ?_⟩
    have hf := MapKept.run_findKey (P := P) (w := w) hkt (find_mes true v born)
    simp only [if_true] at hf
    simp [run_underlying ht, Result.andThen, MapKept.run_getObj_map hh, MapKept.run_checkKey hkt (isKey_int rfl 1), hf]
    simp [Instr.keyThatStays, Instr.sameBits, mes, Result.andThen, MapKept.run_setObj_map _ hh]
  | false =>
    refine ⟨clock, clock + 1, by omega, ?_⟩
    have hf := MapKept.run_findKey (P := P) (w := w) hkt (find_mes false v born)
    simp only [Bool.false_eq_true, if_false] at hf
    simp [run_underlying ht, Result.andThen, MapKept.run_getObj_map hh, MapKept.run_checkKey hkt (isKey_int rfl 1), hf]
    simp [mes, MapKept.run_setObj_map _ hh]
theorem ls_m1put (k : Nat) {A' : Option Addr} {m' c' : Nat} (hg : o.guard = none) (hd : o.dst = none) {x y : Operand} (ho : o.op = .mapUpdate t x (.const (.int .i64 1)) y) (hx : ev f x = .map (some r)) (hy : ev f y = .slice A' m' c') (ht : P.underlying t = some (.map kt et)) (hkt : P.underlying kt = some (.int .i64)) (hS : S k = some (Ck.m1 r p A m c))
    (h : Ls P Q n ops rest f w0 (sput S k (some (Ck.m1 r true A' m' c')))) : Ls P Q n ops (o :: rest) f w0 S :=
  ls_turn0 hg hd (.inl rfl) (fun w hs => by
    obtain ⟨b, cl, h1, h2, h3⟩ := hs.m1 hS
    obtain ⟨b', cl', h4, h5⟩ := run_m1put ht hkt (v' := .slice A' m' c') h2 h1
    refine ⟨_, ?_, hs.wset hS (r := r) (by simp [Ck.m1]) rfl (c' := Ck.m1 r true A' m' c') ⟨⟨b', cl', by omega, fun _ => h4, (MapKept.heap_set h2).1⟩, fun h => (by cases h)⟩ (fun q hq => hq)⟩
    unfold execOp
    rw [ho]
    refine lift_u ?_
    rw [hx, hy]
    exact h5) h
theorem ls_m1clear (k : Nat) (hg : o.guard = none) (hd : o.dst = none) {x : Operand} (ho : o.op = .call { callee := .builtin .clear, args := #[x], argTypes := #[t] }) (hx : ev f x = .map (some r)) (ht : P.underlying t = some (.map kt et)) (hS : S k = some (Ck.m1 r p A m c))
    (h : Ls P Q n ops rest f w0 (sput S k (some (Ck.m1 r false none 0 0)))) : Ls P Q n ops (o :: rest) f w0 S :=
  ls_turn0 hg hd (s := .value (.tuple #[])) (.inr ⟨_, rfl⟩) (fun w hs => by
    obtain ⟨b, cl, h1, h2, h3⟩ := hs.m1 hS
    refine ⟨{ w with heap := w.heap.setIfInBounds r (.map (mes false (.slice none 0 0) 0) cl) }, ?_, hs.wset hS (r := r) (by simp [Ck.m1]) rfl (c' := Ck.m1 r false none 0 0) ⟨⟨0, cl, by omega, fun h => (by cases h), (MapKept.heap_set h2).1⟩, fun _ => ⟨rfl, rfl, rfl⟩⟩ (fun q hq => hq)⟩
    have hc : (Builtin.clear_ #[t] o.type #[.map (some r)]).run P w = .ok (.tuple #[]) { w with heap := w.heap.setIfInBounds r (.map (mes false (.slice none 0 0) 0) cl) } := by
      simp [Builtin.clear_, run_underlying ht, Result.andThen, MapKept.run_getObj_map h2, MapKept.run_setObj_map _ h2, mes]
    unfold execOp
    simp only [ho, resolve, invoke, builtin, Sem.run_bind, Sem.run_pure, Result.andThen_ok, List.map_toArray, List.map_cons, List.map_nil, hx, hc]) h
/-! A round over such a map -/
theorem St.m1x {w : World} {born clock : Nat} (h : St w0 S w) {k : Nat} (hk : S k = some (Ck.m1x r p A m c born clock)) : w.heap[r]? = some (.map (mes p (.slice A m c) born) clock) := h.holds k _ hk
theorem ls_m1open (k : Nat) {lo : List Oper} (hS : S k = some (Ck.m1 r p A m c)) (h : ∀ born clock, (p = true → born < clock) → (p = false → A = none ∧ m = 0 ∧ c = 0) → Ls P Q n ops lo f w0 (sput S k (some (Ck.m1x r p A m c born clock)))) : Ls P Q n ops lo f w0 S := fun a w ha hs => by
  obtain ⟨b, cl, h1, h2, h3⟩ := hs.m1 hS
  exact h b cl h1 h3 a w ha (hs.recast hS (c' := Ck.m1x r p A m c b cl) h2 (fun q hq => hq))
theorem ls_m1shut (k : Nat) {lo : List Oper} {born clock : Nat} (hS : S k = some (Ck.m1x r p A m c born clock)) (h1 : p = true → born < clock) (h3 : p = false → A = none ∧ m = 0 ∧ c = 0) (h : Ls P Q n ops lo f w0 (sput S k (some (Ck.m1 r p A m c)))) : Ls P Q n ops lo f w0 S := fun a w ha hs => by
  have h2 := hs.m1x hS
  cases p with
  | true => exact h a w ha (hs.recast hS (c' := Ck.m1 r true A m c) ⟨⟨born, clock, by have := h1 rfl; omega, h1, h2⟩, h3⟩ (fun q hq => hq))
  | false => exact h a w ha (hs.recast hS (c' := Ck.m1 r false A m c) ⟨⟨0, clock, by omega, fun h => (by cases h), h2⟩, h3⟩ (fun q hq => hq))
theorem ls_m1xp (k : Nat) {lo : List Oper} {born clock : Nat} {p' : Bool} (e : p = p') (hS : S k = some (Ck.m1x r p A m c born clock)) (h : Ls P Q n ops lo f w0 (sput S k (some (Ck.m1x r p' A m c born clock)))) : Ls P Q n ops lo f w0 S := fun a w ha hs => by
  subst e
  exact h a w ha (hs.recast hS (c' := Ck.m1x r p A m c born clock) (hs.m1x hS) (fun q hq => hq))
theorem ls_m1range (k k2 : Nat) {x : Operand} {born clock : Nat} (hg : o.guard = none) (hd : o.dst = some d) (hn : Nat.blt d n = true) (ho : o.op = .range t x) (hx : ev f x = .map (some r)) (ht : P.underlying t = some (.map kt et)) (hS : S k = some (Ck.m1x r p A m c born clock))
    (h : ∀ g, Ls P Q n ops rest (upd f d (.pointer (some ⟨g, 0, none⟩))) w0 (sput S k2 (some (Ck.obj g (.mapIter (some r) clock #[] clock))))) : Ls P Q n ops (o :: rest) f w0 S :=
  ls_op hg fun a w ha hs => op_wp ha (by
    have hh := hs.m1x hS
    have hr : (execOp (ev f) o).run P w = .ok (.value (.pointer (some ⟨w.heap.size, 0, none⟩))) (w.alloc (.mapIter (some r) clock #[] clock)) := by
      unfold execOp
      rw [ho]
      refine lift_v ?_
      rw [hx]
      simp [Instr.range, run_underlying ht, Result.andThen, MapKept.run_getObj_map hh]
    rw [hr]
    show wpList P ops Q rest (a.put o.dst _) _
    rw [hd]
    exact h w.heap.size _ _ (ha.put hn _) (hs.new ((Below.refl _ _).alloc (Nat.le_refl _) _) k2 (c := Ck.obj w.heap.size _) (heap_alloc_new w _) (fun q hq => Nat.le_of_eq (show q = w.heap.size by simpa [Ck.obj] using hq).symm)))
theorem run_getIter {w : World} {g : Nat} {a : Option Nat} {b : Nat} {l : Array Nat} {cl : Nat} (h : w.heap[g]? = some (.mapIter a b l cl)) : (getObj g).run P w = .ok (.mapIter a b l cl) w := by simp [getObj, Sem.run, h]
theorem run_setIter {w : World} {g : Nat} {a : Option Nat} {b : Nat} {l : Array Nat} {cl : Nat} (ob' : Obj) (h : w.heap[g]? = some (.mapIter a b l cl)) : (setObj g ob').run P w = .ok () { w with heap := w.heap.setIfInBounds g ob' } := by simp [setObj, Sem.run, h]
theorem ls_m1next (k k2 : Nat) {x : Operand} {g born clock : Nat} {ty : TypeId} (hg : o.guard = none) (hd : o.dst = some d) (hn : Nat.blt d n = true) (ho : o.op = .next x false) (hty : o.type = ty) (hx : ev f x = .pointer (some ⟨g, 0, none⟩)) (hS : S k = some (Ck.m1x r true A m c born clock)) (hS2 : S k2 = some (Ck.obj g (.mapIter (some r) clock #[] clock))) (hb : born < clock)
    (h : Ls P Q n ops rest (upd f d (.tuple #[.bool true, .int .i64 1, .slice A m c])) w0 (sput S k2 (some (Ck.obj g (.mapIter (some r) clock #[born] clock))))) : Ls P Q n ops (o :: rest) f w0 S :=
  ls_turn (K := undef) hg hd hn (fun w hs => by
    have h1 := hs.m1x hS
    have h2 : w.heap[g]? = some (.mapIter (some r) clock #[] clock) := hs.holds k2 _ hS2
    refine ⟨_, ?_, hs.wset hS2 (r := g) (by simp [Ck.obj]) rfl (c' := Ck.obj g (.mapIter (some r) clock #[born] clock)) (MapKept.heap_set h2).1 (fun q hq => hq)⟩
    unfold execOp
    rw [ho]
    refine lift_v ?_
    rw [hx]
    have hn' : ¬ clock ≤ born := by omega
    simp [Instr.next, Result.andThen, run_getIter h2, MapKept.run_getObj_map h1, mes, hb, hn', run_setIter _ h2, Question.forced]) h
theorem ls_m1over (k k2 : Nat) {x : Operand} {g born clock : Nat} (hg : o.guard = none) (hd : o.dst = some d) (hn : Nat.blt d n = true) (ho : o.op = .next x false) (hx : ev f x = .pointer (some ⟨g, 0, none⟩)) (hS : S k = some (Ck.m1x r false A m c born clock)) (hS2 : S k2 = some (Ck.obj g (.mapIter (some r) clock #[] clock)))
    (h : Ls P Q n ops rest (upd f d (.tuple #[.bool false])) w0 S) : Ls P Q n ops (o :: rest) f w0 S :=
  ls_read hg hd hn (fun w hs => by
    have h1 := hs.m1x hS
    have h2 : w.heap[g]? = some (.mapIter (some r) clock #[] clock) := hs.holds k2 _ hS2
    unfold execOp
    rw [ho]
    refine lift_v ?_
    rw [hx]
    simp [Instr.next, Result.andThen, run_getIter h2, MapKept.run_getObj_map h1, mes, Question.forced]) h
theorem ls_m1over2 (k k2 : Nat) {x : Operand} {g born clock : Nat} (hg : o.guard = none) (hd : o.dst = some d) (hn : Nat.blt d n = true) (ho : o.op = .next x false) (hx : ev f x = .pointer (some ⟨g, 0, none⟩)) (hS : S k = some (Ck.m1x r p A m c born clock)) (hS2 : S k2 = some (Ck.obj g (.mapIter (some r) clock #[born] clock))) (hb : born < clock)
    (h : Ls P Q n ops rest (upd f d (.tuple #[.bool false])) w0 S) : Ls P Q n ops (o :: rest) f w0 S :=
  ls_read hg hd hn (fun w hs => by
    have h1 := hs.m1x hS
    have h2 : w.heap[g]? = some (.mapIter (some r) clock #[born] clock) := hs.holds k2 _ hS2
    have hn : ¬ clock ≤ born := by omega
    unfold execOp
    rw [ho]
    refine lift_v ?_
    rw [hx]
    cases p <;> simp [Instr.next, Result.andThen, run_getIter h2, MapKept.run_getObj_map h1, mes, Question.forced, hn]) h
theorem ls_m1entry (k k2 : Nat) {x : Operand} {g born clock : Nat} (hg : o.guard = none) (hd : o.dst = some d) (hn : Nat.blt d n = true) (ho : o.op = .entry x) (hx : ev f x = .pointer (some ⟨g, 0, none⟩)) (hS : S k = some (Ck.m1x r true A m c born clock)) (hS2 : S k2 = some (Ck.obj g (.mapIter (some r) clock #[born] clock)))
    (h : Ls P Q n ops rest (upd f d (.tuple #[.int .i64 1, .slice A m c])) w0 S) : Ls P Q n ops (o :: rest) f w0 S :=
  ls_read hg hd hn (fun w hs => by
    have h1 := hs.m1x hS
    have h2 : w.heap[g]? = some (.mapIter (some r) clock #[born] clock) := hs.holds k2 _ hS2
    unfold execOp
    rw [ho]
    refine lift_v ?_
    rw [hx]
    simp [Instr.entry, Result.andThen, run_getIter h2, MapKept.run_getObj_map h1, mes]) h
theorem ls_m1del (k : Nat) {x y : Operand} {born clock : Nat} (hg : o.guard = none) (hd : o.dst = none) (ho : o.op = .call { callee := .builtin .delete, args := #[x, y], argTypes := #[t, kt] }) (hx : ev f x = .map (some r)) (hy : ev f y = .int .i64 1) (ht : P.underlying t = some (.map kt et)) (hkt : P.underlying kt = some (.int .i64)) (hS : S k = some (Ck.m1x r p A m c born clock))
    (h : Ls P Q n ops rest f w0 (sput S k (some (Ck.m1x r false none 0 0 born clock)))) : Ls P Q n ops (o :: rest) f w0 S :=
  ls_turn0 hg hd (s := .value (.tuple #[])) (.inr ⟨_, rfl⟩) (fun w hs => by
    have h2 := hs.m1x hS
    refine ⟨{ w with heap := w.heap.setIfInBounds r (.map (mes false (.slice none 0 0) born) clock) }, ?_, hs.wset hS (r := r) (by simp [Ck.m1x]) rfl (c' := Ck.m1x r false none 0 0 born clock) (MapKept.heap_set h2).1 (fun q hq => hq)⟩
    have hc : (Builtin.delete_ #[t, kt] o.type #[.map (some r), .int .i64 1]).run P w = .ok (.tuple #[]) { w with heap := w.heap.setIfInBounds r (.map (mes false (.slice none 0 0) born) clock) } := by
      cases p with
      | true =>
        have hf := MapKept.run_findKey (P := P) (w := w) hkt (find_mes true (.slice A m c) born)
        simp only [if_true] at hf
        simp [Builtin.delete_, run_underlying ht, Result.andThen, MapKept.run_getObj_map h2, MapKept.run_checkKey hkt (isKey_int rfl 1), hf]
        simp [mes, MapKept.run_setObj_map _ h2, Array.eraseIdxIfInBounds]
      | false =>
        have hf := MapKept.run_findKey (P := P) (w := w) hkt (find_mes false (.slice A m c) born)
        simp only [Bool.false_eq_true, if_false] at hf
        simp [Builtin.delete_, run_underlying ht, Result.andThen, MapKept.run_getObj_map h2, MapKept.run_checkKey hkt (isKey_int rfl 1), hf]
        simp [mes, MapKept.run_setObj_map _ h2]
    unfold execOp
    simp only [ho, resolve, invoke, builtin, Sem.run_bind, Sem.run_pure, Result.andThen_ok, List.map_toArray, List.map_cons, List.map_nil, hx, hy, hc]) h
end
/-! ### 9. Short names -/
section
variable {P : Program} {Q : Exit → Act → World → Prop} {n : Nat} {ops : Array Oper} {rest : List Oper} {o : Oper} {f : Fr} {w0 : Bs} {S : Sto} {d : Nat}
theorem lv (v : Value) (h : Ls P Q n ops rest (upd f d v) w0 S) (hg : o.guard = none := by rfl) (hd : o.dst = some d := by rfl) (hn : Nat.blt d n = true := by kernel_rfl) (hr : ∀ w, (execOp (ev f) o).run P w = .ok (.value v) w := by intro w; kernel_rfl) : Ls P Q n ops (o :: rest) f w0 S := ls_val hg hd hn hr h
theorem lofx (j t : Nat) (b c : Bool) (h : Ls P Q n ops rest (upd f d undef) w0 S) (hgd : o.guard = some (j, b) := by rfl) (ht : (ops[j]?).bind (·.dst) = some t := by rfl) (hn : Nat.blt t n = true := by kernel_rfl) (hf : f t = .bool c := by kernel_rfl) (hbc : (c == b) = false := by rfl) (hd : o.dst = some d := by rfl) (hdn : Nat.blt d n = true := by kernel_rfl) : Ls P Q n ops (o :: rest) f w0 S := ls_off hgd ht hn hf hbc hd hdn h
theorem wn {x : Bool} {L M : Prop} (hon : x = true) (h : L) (hg : o.guard = none := by rfl) : (∀ a, At n f a → Region.wanted o (yielded ops a.tmps) = x) ∧ (x = true → L) ∧ (x = false → M) :=
  ⟨fun a ha => (want_none hg a ha).trans hon.symm, fun _ => h, fun h => by rw [hon] at h; cases h⟩
theorem exv (x : Value) : ∃ z : Value → Sto → Prop, z = (fun v R => v = x ∧ R = s0) := ⟨_, rfl⟩
theorem opv {on : Nat → Bool} {i : Nat} {X Y : Value → Sto → Prop} {f' F : Fr} {w : World} (v : Value) (h1 : X = Y) (h2 : Y = fun v' R => v' = v ∧ R = s0) (hon : on i = true) (hF : f' = F) (hg : o.guard = none := by rfl) (hd : o.dst = some d := by rfl) (hn : Nat.blt d n = true := by kernel_rfl)
    (hr : ∀ w, (execOp (ev F) { o with guard := none }).run P w = .ok (.value v) w := by intro w; kernel_rfl) : (∀ a, At n f' a → Region.wanted o (yielded ops a.tmps) = on i) ∧ (on i = true → Ls P (QOp X n f' o.dst w) n ops [{ o with guard := none }] f' (bw w) s0) ∧ (on i = false → X undef s0) :=
  ⟨fun a ha => (want_none hg a ha).trans hon.symm, fun _ => by
    subst h1
    subst h2
    refine ls_fr hF ?_
    refine ls_val (o := { o with guard := none }) rfl hd hn hr ?_
    exact ls_fin s0 v (by rw [hd]; exact congrArg (fun z => upd z d v) hF.symm) ⟨rfl, rfl⟩ (sub_nil _), fun h => by rw [hon] at h; cases h⟩
theorem have_opa {ar : Array Oper} {id : Nat} (tab : List (List Nat)) (off i : Nat) (A : Spec → Prop) (hop : ∀ sp on, A sp → on i = true → OpOk P n ar tab f w0 S off sp on i) (h : (∀ sp on, A sp → on i = true → OpOk P n ar tab f w0 S off sp on i) → Cs P Q n (.region id ar true) f w0 S) : Cs P Q n (.region id ar true) f w0 S := h hop
end
end Go.Proofs.Ythhhkphbhlafbaa.Sx
