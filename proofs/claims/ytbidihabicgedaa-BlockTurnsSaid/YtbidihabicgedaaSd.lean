/- Small lemmas for a walk: a structure that owns a row of plain elements and a map of many keys to such; no condition. -/
import Derived.Test.YtbidihabicgedaaSm
import Derived.MapKept
import Derived.Maps.RangeRun
set_option linter.unusedVariables false
set_option linter.unusedSimpArgs false
namespace Go.Proofs.Ytbidihabicgedaa.Sx
open Go Go.RowKit
open Go.MapKept (IsKey)

/-! ### 1. A map of many keys, as a list -/
variable {α : Type}
def mget (k : Int) : List (Int × α) → Option α
  | [] => none
  | p :: r => if p.1 = k then some p.2 else mget k r
def mput (k : Int) (v : α) : List (Int × α) → List (Int × α)
  | [] => [(k, v)]
  | p :: r => if p.1 = k then (k, v) :: r else p :: mput k v r
def mdel (k : Int) : List (Int × α) → List (Int × α)
  | [] => []
  | p :: r => if p.1 = k then r else p :: mdel k r
def mkv (T : Ec α) (p : Int × α) : Value × Value := (.int .i64 p.1, .agg ⟨T.E p.2⟩)
def mpv (T : Ec α) (l : List (Int × α)) (es : List MapEntry) (clock : Nat) : Prop :=
  es.map (fun e => (e.key, e.val)) = l.map (mkv T) ∧ (∀ e ∈ es, e.born < clock) ∧ (es.map (·.born)).Nodup ∧ (l.map (·.1)).Nodup
theorem mget_none {k : Int} : ∀ {l : List (Int × α)}, mget k l = none ↔ ∀ p ∈ l, p.1 ≠ k
  | [] => by simp [mget]
  | p :: r => by
    unfold mget
    split
    · rename_i h; simp [h]
    · rename_i h; simp [h, mget_none (l := r)]
theorem find_mp (T : Ec α) (k : Int) : ∀ (l : List (Int × α)) (es : List MapEntry) (i : Nat), es.map (fun e => (e.key, e.val)) = l.map (mkv T) →
    (mget k l = none ∧ Instr.findNow (.int .i64) (.int .i64 k) es i = some none ∧ mput k = fun v : α => mput k v) ∨
    ∃ v j, mget k l = some v ∧ j < es.length ∧ Instr.findNow (.int .i64) (.int .i64 k) es i = some (some (i + j, .agg ⟨T.E v⟩)) ∧ (es[j]?.map (·.key)) = some (.int .i64 k) ∧
      (∀ v' : α, (es.modify j (fun e => { e with key := .int .i64 k, val := .agg ⟨T.E v'⟩ })).map (fun e => (e.key, e.val)) = (mput k v' l).map (mkv T)) ∧ (es.eraseIdx j).map (fun e => (e.key, e.val)) = (mdel k l).map (mkv T)
  | [], [], i, _ => .inl ⟨rfl, rfl, rfl⟩
  | [], _ :: _, _, h => by simp at h
  | _ :: _, [], _, h => by simp at h
  | p :: r, e :: es, i, h => by
    simp only [List.map_cons, List.cons.injEq] at h
    obtain ⟨h1, h2⟩ := h
    have hk : e.key = .int .i64 p.1 := (Prod.mk.inj h1).1
    have hv : e.val = .agg ⟨T.E p.2⟩ := (Prod.mk.inj h1).2
    by_cases hp : p.1 = k
    · refine .inr ⟨p.2, 0, by simp [mget, hp], by simp, by simp [Instr.findNow, Instr.sameNow, hk, hv, hp], by simp [hk, hp], fun v' => by simp [mput, hp, mkv, h2], by simp [mdel, hp, h2]⟩
    · have hp' : (k == p.1) = false := by simpa using fun h => hp h.symm
      rcases find_mp T k r es (i + 1) h2 with ⟨h3, h4, h5⟩ | ⟨v, j, h3, h4, h5, h6, h7, h8⟩
      · exact .inl ⟨by simp [mget, hp, h3], by simp [Instr.findNow, Instr.sameNow, hk, hp', h4], rfl⟩
      · refine .inr ⟨v, j + 1, by simp [mget, hp, h3], by simpa using h4, by simp [Instr.findNow, Instr.sameNow, hk, hp', h5]; omega, by simpa using h6, fun v' => ?_, ?_⟩
        · simp [mput, hp, h7, h1]
        · simp [mdel, hp, h8, h1]
theorem mput_keys {k : Int} {v : α} : ∀ {l : List (Int × α)}, (mput k v l).map (·.1) = if (mget k l).isSome then l.map (·.1) else l.map (·.1) ++ [k]
  | [] => by simp [mput, mget]
  | p :: r => by
    unfold mput mget
    split
    · rename_i h; simp [h]
    · simp only [List.map_cons, mput_keys (l := r)]
      split <;> simp
theorem mput_new {k : Int} {v : α} : ∀ {l : List (Int × α)}, mget k l = none → mput k v l = l ++ [(k, v)]
  | [], _ => rfl
  | p :: r, h => by
    unfold mget at h
    split at h
    · cases h
    · rename_i hp
      simp [mput, hp, mput_new h]
theorem mput_nodup {k : Int} {v : α} {l : List (Int × α)} (h : (l.map (·.1)).Nodup) : ((mput k v l).map (·.1)).Nodup := by
  rw [mput_keys]
  split
  · exact h
  · rename_i hg
    have hn : mget k l = none := by cases hm : mget k l with
      | none => rfl
      | some _ => simp [hm] at hg
    rw [List.nodup_append]
    refine ⟨h, by simp, ?_⟩
    intro a ha b hb
    obtain rfl : b = k := by simpa using hb
    obtain ⟨p, hp, rfl⟩ := List.mem_map.1 ha
    exact mget_none.1 hn p hp
theorem mdel_sub {k : Int} : ∀ {l : List (Int × α)}, List.Sublist (mdel k l) l
  | [] => .slnil
  | p :: r => by
    unfold mdel
    split
    · exact List.sublist_cons_self _ _
    · exact mdel_sub.cons_cons _
/-! ### 2. The piece: the map and the row -/
def Ck.mr (T : Ec α) (r gl c n : Nat) (m : List (Int × α) × List α) : Ck where
  key := [r, gl]
  holds := fun w => (∃ es clock, mpv T m.1 es.toList clock ∧ w.heap[r]? = some (.map es clock)) ∧ w.ownsRow 0 T.t T.z (.slice (some ⟨gl, 0, none⟩) n c) n (em T m.2) ∧ m.2.length = n ∧ r ≠ gl
  stable := fun w w' h hk => by
    obtain ⟨⟨es, cl, h1, h2⟩, h3, h4, h5⟩ := h
    exact ⟨⟨es, cl, h1, by rw [hk r (by simp)]; exact h2⟩, (Ck.row T.t T.z (.slice (some ⟨gl, 0, none⟩) n c) n (em T m.2)).stable w w' h3 (fun k hkk => hk k (by simp [Ck.row, Value.ownBlock] at hkk; simp [hkk])), h4, h5⟩
  bound := fun w h k hk => by
    obtain ⟨⟨es, cl, h1, h2⟩, h3, h4, h5⟩ := h
    simp at hk
    rcases hk with rfl | rfl
    · exact (Array.getElem?_eq_some_iff.1 h2).1
    · exact (Ck.row T.t T.z (.slice (some ⟨k, 0, none⟩) n c) n (em T m.2)).bound w h3 k (by simp [Ck.row, Value.ownBlock])
section
variable {P : Program} {Q : Exit → Act → World → Prop} {n : Nat} {ops : Array Oper} {rest : List Oper} {o : Oper} {f : Fr} {w0 : Bs} {S : Sto} {d : Nat} {t kt et : TypeId} {r gl c q : Nat} {T : Ec α} {m : List (Int × α) × List α}
theorem St.mrn {w : World} (h : St w0 S w) {k : Nat} (hk : S k = some (Ck.mr T r gl c q m)) : m.2.length = q := (h.holds k _ hk).2.2.1
theorem St.mrrd {w : World} (h : St w0 S w) {k : Nat} (hk : S k = some (Ck.mr T r gl c q m)) : Rd w (some ⟨gl, 0, none⟩) (em T m.2) := rd_row (h.holds k _ hk).2.1
theorem St.mrm {w : World} (h : St w0 S w) {k : Nat} (hk : S k = some (Ck.mr T r gl c q m)) : ∃ es clock, mpv T m.1 es.toList clock ∧ w.heap[r]? = some (.map es clock) := (h.holds k _ hk).1
theorem ls_mrn (k : Nat) {l : List Oper} (hS : S k = some (Ck.mr T r gl c q m)) (h : m.2.length = q → Ls P Q n ops l f w0 S) : Ls P Q n ops l f w0 S := fun a w ha hs => h (hs.mrn hS) a w ha hs
theorem cs_mrn {x : Code} (k : Nat) (hS : S k = some (Ck.mr T r gl c q m)) (h : m.2.length = q → Cs P Q n x f w0 S) : Cs P Q n x f w0 S := fun a w ha hs => h (hs.mrn hS) a w ha hs
theorem ls_makemap (k : Nat) (hg : o.guard = none) (hd : o.dst = some d) (hn : Nat.blt d n = true) (ho : o.op = .makeMap t none) (h : ∀ g, Ls P Q n ops rest (upd f d (.map (some g))) w0 (sput S k (some (Ck.obj g (.map #[] 0))))) : Ls P Q n ops (o :: rest) f w0 S :=
  ls_op hg fun a w ha hs => op_wp ha (by
    have hr : (execOp (ev f) o).run P w = .ok (.value (.map (some w.heap.size))) (w.alloc (.map #[] 0)) := by
      unfold execOp
      rw [ho]
      rfl
    rw [hr]
    show wpList P ops Q rest (a.put o.dst _) _
    rw [hd]
    exact h w.heap.size _ _ (ha.put hn _) (hs.new ((Below.refl _ _).alloc (Nat.le_refl _) _) k (c := Ck.obj w.heap.size (.map #[] 0)) (heap_alloc_new w _) (fun q hq => Nat.le_of_eq (show q = w.heap.size by simpa [Ck.obj] using hq).symm)))
/-- A row and an empty map become one piece. -/
theorem St.mkmr {w : World} (h : St w0 S w) {k1 k2 : Nat} (hne : k1 ≠ k2) {l : List α} (h1 : S k1 = some (Ck.sl T (some ⟨gl, 0, none⟩) c l)) (h2 : S k2 = some (Ck.obj r (.map #[] 0))) : St w0 (sput (sput S k1 none) k2 (some (Ck.mr T r gl c l.length ([], l)))) w := by
  have hk1 : gl ∈ (Ck.sl T (some ⟨gl, 0, none⟩) c l).key := by simp [Ck.sl, Ck.row, Value.ownBlock]
  have hk2 : r ∈ (Ck.obj r (.map #[] 0)).key := by simp [Ck.obj]
  have hap := h.apart k1 k2 _ _ hne h1 h2
  have sub : ∀ u e, u ≠ k2 → sput (sput S k1 none) k2 (some (Ck.mr T r gl c l.length ([], l))) u = some e → u ≠ k1 ∧ S u = some e := fun u e hu he => by
    rw [sput_ne _ _ hu] at he
    by_cases hu1 : u = k1
    · subst hu1; rw [sput_same] at he; cases he
    · rw [sput_ne _ _ hu1] at he; exact ⟨hu1, he⟩
  have kk : ∀ k ∈ (Ck.mr T r gl c l.length (([] : List (Int × α)), l)).key, k = r ∨ k = gl := fun k hk => by simpa [Ck.mr] using hk
  refine ⟨h.ok, h.below, fun u e he => ?_, fun u e he k hk => ?_, fun u v e e' hne' hu hv k hk hk' => ?_⟩
  · by_cases hu : u = k2
    · subst hu
      rw [sput_same] at he
      obtain rfl := Option.some.inj he
      exact ⟨⟨#[], 0, ⟨rfl, by simp, by simp, by simp⟩, h.holds u _ h2⟩, h.holds k1 _ h1, rfl, fun e => hap gl hk1 (by rw [← e]; exact hk2)⟩
    · exact h.holds u e (sub u e hu he).2
  · by_cases hu : u = k2
    · subst hu
      rw [sput_same] at he
      obtain rfl := Option.some.inj he
      rcases kk k hk with rfl | rfl
      · exact h.own u _ h2 _ hk2
      · exact h.own k1 _ h1 _ hk1
    · exact h.own u e (sub u e hu he).2 k hk
  · by_cases hu2 : u = k2
    · subst hu2
      rw [sput_same] at hu
      obtain rfl := Option.some.inj hu
      obtain ⟨hv1, hv2⟩ := sub v e' (fun h => hne' h.symm) hv
      rcases kk k hk with rfl | rfl
      · exact h.apart u v _ _ hne' h2 hv2 _ hk2 hk'
      · exact h.apart k1 v _ _ (fun h => hv1 h.symm) h1 hv2 _ hk1 hk'
    · obtain ⟨hu1, hu3⟩ := sub u e hu2 hu
      by_cases hv2 : v = k2
      · subst hv2
        rw [sput_same] at hv
        obtain rfl := Option.some.inj hv
        rcases kk k hk' with rfl | rfl
        · exact h.apart u v _ _ hne' hu3 h2 _ hk hk2
        · exact h.apart u k1 _ _ hu1 hu3 h1 _ hk hk1
      · exact h.apart u v _ _ hne' hu3 (sub v e' hv2 hv).2 k hk hk'
theorem ls_mkmr (k1 k2 : Nat) {lo : List Oper} (hne : k1 ≠ k2) {l : List α} (h1 : S k1 = some (Ck.sl T (some ⟨gl, 0, none⟩) c l)) (h2 : S k2 = some (Ck.obj r (.map #[] 0))) (h : Ls P Q n ops lo f w0 (sput (sput S k1 none) k2 (some (Ck.mr T r gl c l.length ([], l))))) : Ls P Q n ops lo f w0 S :=
  fun a w ha hs => h a w ha (hs.mkmr hne h1 h2)
theorem run_mrlook {w : World} (ht : P.underlying t = some (.map kt et)) (hkt : P.underlying kt = some (.int .i64)) (hz : (P.info? et).map (·.zero) = some (some (.agg ⟨T.E T.d⟩))) {l : List (Int × α)} {es : Array MapEntry} {clock : Nat} (hm : mpv T l es.toList clock) (hh : w.heap[r]? = some (.map es clock)) (x : Int) :
    (Instr.lookup t (.map (some r)) (.int .i64 x) true).run P w = .ok (.tuple #[.agg ⟨T.E ((mget x l).getD T.d)⟩, .bool (mget x l).isSome]) w := by
  obtain ⟨i, hi, hi2⟩ := Option.map_eq_some_iff.1 hz
  unfold Instr.lookup
  rcases find_mp T x l es.toList 0 hm.1 with ⟨h1, h2, _⟩ | ⟨v, j, h1, _, h2, _⟩
  · simp [run_underlying ht, Result.andThen, MapKept.run_getObj_map hh, MapKept.run_checkKey hkt (isKey_int rfl x), MapKept.run_findKey hkt h2, zeroValue, typeInfo, hi, hi2, h1]
  · simp [run_underlying ht, Result.andThen, MapKept.run_getObj_map hh, MapKept.run_checkKey hkt (isKey_int rfl x), MapKept.run_findKey hkt h2, h1]
theorem ls_mrlook (k : Nat) {i : Int} (hg : o.guard = none) (hd : o.dst = some d) (hn : Nat.blt d n = true) {y z : Operand} (ho : o.op = .lookup t y z true) (hx : ev f y = .map (some r)) (hy : ev f z = .int .i64 i) (ht : P.underlying t = some (.map kt et)) (hkt : P.underlying kt = some (.int .i64)) (hz : (P.info? et).map (·.zero) = some (some (.agg ⟨T.E T.d⟩))) (hS : S k = some (Ck.mr T r gl c q m))
    (h : Ls P Q n ops rest (upd f d (.tuple #[.agg ⟨T.E ((mget i m.1).getD T.d)⟩, .bool (mget i m.1).isSome])) w0 S) : Ls P Q n ops (o :: rest) f w0 S :=
  ls_read hg hd hn (fun w hs => by
    obtain ⟨es, cl, h1, h2⟩ := hs.mrm hS
    unfold execOp
    rw [ho]
    refine lift_v ?_
    rw [hx, hy]
    exact run_mrlook ht hkt hz h1 h2 i) h
theorem mpv.len {l : List (Int × α)} {es : List MapEntry} {clock : Nat} (h : mpv T l es clock) : es.length = l.length := by
  have := congrArg List.length h.1
  simpa using this
theorem ls_mrlen (k : Nat) (hg : o.guard = none) (hd : o.dst = some d) (hn : Nat.blt d n = true) {x : Operand} (ho : o.op = .call { callee := .builtin .len, args := #[x], argTypes := #[t] }) (hx : ev f x = .map (some r)) (ht : P.underlying t = some (.map kt et)) (hS : S k = some (Ck.mr T r gl c q m))
    (h : Ls P Q n ops rest (upd f d (.int .i64 (m.1.length : Int))) w0 S) : Ls P Q n ops (o :: rest) f w0 S :=
  ls_read hg hd hn (fun w hs => by
    obtain ⟨es, cl, h1, h2⟩ := hs.mrm hS
    have hl : es.size = m.1.length := by have := h1.len; simpa using this
    have hc : (Builtin.len_ #[t] o.type #[.map (some r)]).run P w = .ok (.int .i64 (m.1.length : Int)) w := by
      simp [Builtin.len_, run_underlying ht, Result.andThen, MapKept.run_getObj_map h2, goInt, hl]
    unfold execOp
    simp only [ho, resolve, invoke, builtin, Sem.run_bind, Sem.run_pure, Result.andThen_ok, List.map_toArray, List.map_cons, List.map_nil, hx, hc]) h
theorem modify_born (es : List MapEntry) (j : Nat) (g : MapEntry → MapEntry) (hg : ∀ e, (g e).born = e.born) : (es.modify j g).map (·.born) = es.map (·.born) := by
  induction es generalizing j with
  | nil => simp
  | cons e r ih => cases j with
    | zero => simp [hg]
    | succ j => simp [ih]
theorem run_mrput {w : World} (ht : P.underlying t = some (.map kt et)) (hkt : P.underlying kt = some (.int .i64)) {l : List (Int × α)} {es : Array MapEntry} {clock : Nat} (hm : mpv T l es.toList clock) (hh : w.heap[r]? = some (.map es clock)) (x : Int) (v : α) :
    ∃ es' cl', mpv T (mput x v l) es'.toList cl' ∧ (Instr.mapUpdate t (.map (some r)) (.int .i64 x) (.agg ⟨T.E v⟩)).run P w = .ok () { w with heap := w.heap.setIfInBounds r (.map es' cl') } := by
  unfold Instr.mapUpdate
  rcases find_mp T x l es.toList 0 hm.1 with ⟨h1, h2, _⟩ | ⟨u, j, h1, hj, h2, h3, h4, _⟩
  · refine ⟨es.push { key := .int .i64 x, val := .agg ⟨T.E v⟩, born := clock }, clock + 1, ⟨?_, ?_, ?_, mput_nodup hm.2.2.2⟩, ?_⟩
    · rw [mput_new h1]
      simp [hm.1, mkv]
    · intro e he
      simp only [Array.toList_push, List.mem_append, List.mem_singleton] at he
      rcases he with he | rfl
      · have := hm.2.1 e he; omega
      · exact Nat.lt_succ_self _
    · simp only [Array.toList_push, List.map_append, List.map_cons, List.map_nil]
      rw [List.nodup_append]
      refine ⟨hm.2.2.1, by simp, ?_⟩
      intro a ha b hb
      obtain rfl : b = clock := by simpa using hb
      obtain ⟨e, he, rfl⟩ := List.mem_map.1 ha
      have := hm.2.1 e he
      omega
    · simp [run_underlying ht, Result.andThen, MapKept.run_getObj_map hh, MapKept.run_checkKey hkt (isKey_int rfl x), MapKept.run_findKey hkt h2, MapKept.run_setObj_map _ hh]
  · have hk : ((es[j]?.map (·.key)).getD (.int .i64 x)) = .int .i64 x := by
      have : es[j]? = es.toList[j]? := by simp
      rw [this, h3]; rfl
    refine ⟨es.modify j (fun e => { e with key := .int .i64 x, val := .agg ⟨T.E v⟩ }), clock, ⟨by rw [Array.toList_modify]; exact h4 v, ?_, ?_, mput_nodup hm.2.2.2⟩, ?_⟩
    · intro e he
      have hb := modify_born es.toList j (fun e => { e with key := .int .i64 x, val := .agg ⟨T.E v⟩ }) (fun _ => rfl)
      rw [Array.toList_modify] at he
      have : e.born ∈ (es.toList.modify j (fun e => { e with key := .int .i64 x, val := .agg ⟨T.E v⟩ })).map (·.born) := List.mem_map.2 ⟨e, he, rfl⟩
      rw [hb] at this
      obtain ⟨e', he', h⟩ := List.mem_map.1 this
      rw [← h]
      exact hm.2.1 e' he'
    · rw [Array.toList_modify, modify_born es.toList j (fun e => { e with key := .int .i64 x, val := .agg ⟨T.E v⟩ }) (fun _ => rfl)]
      exact hm.2.2.1
    · simp [run_underlying ht, Result.andThen, MapKept.run_getObj_map hh, MapKept.run_checkKey hkt (isKey_int rfl x), MapKept.run_findKey hkt h2, hk, MapKept.run_keyThatStays (isKey_int rfl x), MapKept.run_setObj_map _ hh]
theorem ls_mrput (k : Nat) {i : Int} {v : α} (hg : o.guard = none) (hd : o.dst = none) {x y z : Operand} (ho : o.op = .mapUpdate t x y z) (hx : ev f x = .map (some r)) (hy : ev f y = .int .i64 i) (hv : ev f z = .agg ⟨T.E v⟩) (ht : P.underlying t = some (.map kt et)) (hkt : P.underlying kt = some (.int .i64)) (hS : S k = some (Ck.mr T r gl c q m))
    (h : Ls P Q n ops rest f w0 (sput S k (some (Ck.mr T r gl c q (mput i v m.1, m.2))))) : Ls P Q n ops (o :: rest) f w0 S :=
  ls_turn0 hg hd (.inl rfl) (fun w hs => by
    have h0 := hs.holds k _ hS
    obtain ⟨⟨es, cl, h1, h2⟩, h3, h4, h5⟩ := h0
    obtain ⟨es', cl', h6, h7⟩ := run_mrput ht hkt h1 h2 i v
    refine ⟨_, ?_, hs.wset hS (r := r) (by simp [Ck.mr]) rfl (c' := Ck.mr T r gl c q (mput i v m.1, m.2)) ⟨⟨es', cl', h6, (MapKept.heap_set h2).1⟩, (Ck.row T.t T.z (.slice (some ⟨gl, 0, none⟩) q c) q (em T m.2)).stable w _ h3 (fun k hk => (MapKept.heap_set h2).2 k (fun e => h5 (by simp [Ck.row, Value.ownBlock] at hk; rw [← e, hk]))), h4, h5⟩ (fun q hq => hq)⟩
    unfold execOp
    rw [ho]
    refine lift_u ?_
    rw [hx, hy, hv]
    exact h7) h
end
/-! ### 3. A round over the map -/
/-- The map, the row and the round over it; 'cur': the entry that the round holds. -/
def mrin (T : Ec α) (r gl c n gi : Nat) (cur : Option (Int × α)) (m : List (Int × α) × List α) (w : World) : Prop :=
  (∃ es clock since seen, mpv T m.1 es.toList clock ∧ w.heap[r]? = some (.map es clock) ∧ w.heap[gi]? = some (.mapIter (some r) since seen clock) ∧ clock = since ∧
    match cur with
    | none => ∀ e ∈ es.toList, e.born ∉ seen
    | some p => p ∈ m.1 ∧ ∃ e ∈ es.toList, ∃ seen' : Array Nat, seen = seen'.push e.born ∧ (e.key, e.val) = mkv T p ∧ ∀ e' ∈ es.toList, e'.born ∉ seen') ∧
  w.ownsRow 0 T.t T.z (.slice (some ⟨gl, 0, none⟩) n c) n (em T m.2) ∧ m.2.length = n ∧ r ≠ gl ∧ gi ≠ r ∧ gi ≠ gl
def Ck.mri (T : Ec α) (r gl c n gi : Nat) (cur : Option (Int × α)) (m : List (Int × α) × List α) : Ck where
  key := [r, gl, gi]
  holds := mrin T r gl c n gi cur m
  stable := fun w w' h hk => by
    obtain ⟨⟨es, cl, sn, se, h1, h2, h2i, h2c⟩, h3, h4, h5, h6, h7⟩ := h
    exact ⟨⟨es, cl, sn, se, h1, by rw [hk r (by simp)]; exact h2, by rw [hk gi (by simp)]; exact h2i, h2c⟩, (Ck.row T.t T.z (.slice (some ⟨gl, 0, none⟩) n c) n (em T m.2)).stable w w' h3 (fun k hkk => hk k (by simp [Ck.row, Value.ownBlock] at hkk; simp [hkk])), h4, h5, h6, h7⟩
  bound := fun w h k hk => by
    obtain ⟨⟨es, cl, sn, se, h1, h2, h2i, h2c⟩, h3, h4, h5, h6, h7⟩ := h
    simp at hk
    rcases hk with rfl | rfl | rfl
    · exact (Array.getElem?_eq_some_iff.1 h2).1
    · exact (Ck.row T.t T.z (.slice (some ⟨k, 0, none⟩) n c) n (em T m.2)).bound w h3 k (by simp [Ck.row, Value.ownBlock])
    · exact (Array.getElem?_eq_some_iff.1 h2i).1
section
variable {P : Program} {Q : Exit → Act → World → Prop} {n : Nat} {ops : Array Oper} {rest : List Oper} {o : Oper} {f : Fr} {w0 : Bs} {S : Sto} {d : Nat} {t kt et : TypeId} {r gl c q gi : Nat} {T : Ec α} {m : List (Int × α) × List α} {cur : Option (Int × α)} {p : Int × α}
theorem St.mrid {w : World} (h : St w0 S w) {k : Nat} (hk : S k = some (Ck.mri T r gl c q gi cur m)) : mrin T r gl c q gi cur m w := h.holds k _ hk
theorem St.mrird {w : World} (h : St w0 S w) {k : Nat} (hk : S k = some (Ck.mri T r gl c q gi cur m)) : Rd w (some ⟨gl, 0, none⟩) (em T m.2) := rd_row (h.mrid hk).2.1
theorem ls_mrin (k : Nat) {l : List Oper} (hS : S k = some (Ck.mri T r gl c q gi cur m)) (h : m.2.length = q → Ls P Q n ops l f w0 S) : Ls P Q n ops l f w0 S := fun a w ha hs => h (hs.mrid hS).2.2.1 a w ha hs
theorem ls_mrrange (k : Nat) {x : Operand} (hg : o.guard = none) (hd : o.dst = some d) (hn : Nat.blt d n = true) (ho : o.op = .range t x) (hx : ev f x = .map (some r)) (ht : P.underlying t = some (.map kt et)) (hS : S k = some (Ck.mr T r gl c q m))
    (h : ∀ gi, Ls P Q n ops rest (upd f d (.pointer (some ⟨gi, 0, none⟩))) w0 (sput S k (some (Ck.mri T r gl c q gi none m)))) : Ls P Q n ops (o :: rest) f w0 S :=
  ls_op hg fun a w ha hs => op_wp ha (by
    obtain ⟨⟨es, cl, h1, h2⟩, h3, h4, h5⟩ := hs.holds k _ hS
    have hr : (execOp (ev f) o).run P w = .ok (.value (.pointer (some ⟨w.heap.size, 0, none⟩))) (w.alloc (.mapIter (some r) cl #[] cl)) := by
      unfold execOp
      rw [ho]
      refine lift_v ?_
      rw [hx]
      simp [Instr.range, run_underlying ht, Result.andThen, MapKept.run_getObj_map h2]
    rw [hr]
    show wpList P ops Q rest (a.put o.dst _) _
    rw [hd]
    have lr : r < w.heap.size := (Array.getElem?_eq_some_iff.1 h2).1
    have lg : gl < w.heap.size := (Ck.row T.t T.z (.slice (some ⟨gl, 0, none⟩) q c) q (em T m.2)).bound w h3 gl (by simp [Ck.row, Value.ownBlock])
    have ha' := MapKept.heap_alloc w (.mapIter (some r) cl #[] cl)
    refine h w.heap.size _ _ (ha.put hn _) (hs.set hS rfl rfl rfl (by have e : (w.alloc (.mapIter (some r) cl #[] cl)).heap = w.heap.push (.mapIter (some r) cl #[] cl) := rfl; rw [e]; simp) (fun k hk _ => ha'.2 k hk) (c' := Ck.mri T r gl c q w.heap.size none m) ⟨⟨es, cl, cl, #[], h1, by rw [ha'.2 r lr]; exact h2, ha'.1, rfl, fun e _ => by simp⟩, (Ck.row T.t T.z (.slice (some ⟨gl, 0, none⟩) q c) q (em T m.2)).stable w _ h3 (fun k hk => ha'.2 k (by simp [Ck.row, Value.ownBlock] at hk; omega)), h4, h5, by omega, by omega⟩ (fun k hk => ?_))
    have : k = r ∨ k = gl ∨ k = w.heap.size := by simpa [Ck.mri] using hk
    rcases this with rfl | rfl | rfl
    · exact .inl (by simp [Ck.mr])
    · exact .inl (by simp [Ck.mr])
    · exact .inr (Nat.le_refl _))
theorem left_all {es : Array MapEntry} {seen : Array Nat} (h : ∀ e ∈ es.toList, e.born ∉ seen) : leftOf es seen = es := by
  unfold leftOf
  rw [Array.filter_eq_self]
  intro e he
  have := h e (by simpa using he)
  simpa using this
theorem ls_mrnext (k : Nat) {x : Operand} (hg : o.guard = none) (hd : o.dst = some d) (hn : Nat.blt d n = true) (ho : o.op = .next x false) (hx : ev f x = .pointer (some ⟨gi, 0, none⟩)) (hS : S k = some (Ck.mri T r gl c q gi none m))
    (h1 : m.1 = [] → Ls P Q n ops rest (upd f d (.tuple #[.bool false])) w0 (sput S k (some (Ck.mr T r gl c q ([], m.2)))))
    (h2 : ∀ p, p ∈ m.1 → (m.1.map (·.1)).Nodup → Ls P Q n ops rest (upd f d (.tuple #[.bool true, .int .i64 p.1, .agg ⟨T.E p.2⟩])) w0 (sput S k (some (Ck.mri T r gl c q gi (some p) m)))) : Ls P Q n ops (o :: rest) f w0 S :=
  ls_op hg fun a w ha hs => op_wp ha (by
    obtain ⟨⟨es, cl, sn, se, q1, q2, q3, q4, q5⟩, q6, q7, q8, q9, q10⟩ := hs.mrid hS
    subst q4
    have hx' : ∀ res w', (Instr.next (.pointer (some ⟨gi, 0, none⟩)) false o.type).run P w = .ok res w' → (execOp (ev f) o).run P w = .ok (.value res) w' := fun res w' hr => by
      unfold execOp
      rw [ho]
      refine lift_v ?_
      rw [hx]
      exact hr
    have hle : leftOf es se = es := left_all q5
    rcases run_next_at (P := P) w o.type gi r cl cl se es cl q3 q2 q1.2.1 (Nat.le_refl _) with ⟨e1, e2⟩ | ⟨e, he, w1, hw1, e2⟩
    · rw [hx' _ _ e2]
      show wpList P ops Q rest (a.put o.dst _) _
      rw [hd]
      rw [hle] at e1
      have hnil : m.1 = [] := by
        have := q1.len
        simp [e1] at this
        exact List.eq_nil_of_length_eq_zero this.symm
      have hks : ∀ k ∈ (Ck.mr T r gl c q (([] : List (Int × α)), m.2)).key, k ∈ (Ck.mri T r gl c q gi none m).key := fun k hk => by
        have : k = r ∨ k = gl := by simpa [Ck.mr] using hk
        rcases this with rfl | rfl <;> simp [Ck.mri]
      exact h1 hnil _ _ (ha.put hn _) (hs.set hS rfl rfl rfl (Nat.le_refl _) (fun _ _ _ => rfl) (c' := Ck.mr T r gl c q ([], m.2)) ⟨⟨es, cl, by rw [← hnil]; exact q1, q2⟩, q6, q7, q8⟩ (fun k hk => .inl (hks k hk)))
    · rw [hx' _ _ e2]
      show wpList P ops Q rest (a.put o.dst _) _
      rw [hd]
      rw [hle] at he
      obtain ⟨p, hp, hpe⟩ : ∃ p ∈ m.1, mkv T p = (e.key, e.val) := by
        have : (e.key, e.val) ∈ m.1.map (mkv T) := by rw [← q1.1]; exact List.mem_map.2 ⟨e, he, rfl⟩
        obtain ⟨p, hp, hpe⟩ := List.mem_map.1 this
        exact ⟨p, hp, hpe⟩
      have hk : e.key = .int .i64 p.1 := (Prod.mk.inj hpe).1.symm
      have hv : e.val = .agg ⟨T.E p.2⟩ := (Prod.mk.inj hpe).2.symm
      rw [hk, hv]
      have hgi : w1.heap[gi]? = some (.mapIter (some r) cl se cl) := by rcases hw1 with rfl | rfl <;> exact q3
      have hset : (ChangeMaps.setBlock w1 gi (.mapIter (some r) cl (se.push e.born) cl)).heap = w.heap.setIfInBounds gi (.mapIter (some r) cl (se.push e.born) cl) := by rcases hw1 with rfl | rfl <;> rfl
      have hoth : ∀ k, k ≠ gi → (ChangeMaps.setBlock w1 gi (.mapIter (some r) cl (se.push e.born) cl)).heap[k]? = w.heap[k]? := fun k hk => by rw [hset]; exact (MapKept.heap_set q3).2 k hk
      refine h2 p hp q1.2.2.2 _ _ (ha.put hn _) (hs.set hS (by rcases hw1 with rfl | rfl <;> rfl) (by rcases hw1 with rfl | rfl <;> rfl) (by rcases hw1 with rfl | rfl <;> rfl) (by rw [hset]; simp) (fun k hk hk2 => hoth k (fun e => hk2 (by subst e; simp [Ck.mri]))) (c' := Ck.mri T r gl c q gi (some p) m) ⟨⟨es, cl, cl, se.push e.born, q1, by rw [hoth r (fun e => q9 e.symm)]; exact q2, by rw [hset]; exact (MapKept.heap_set q3).1, rfl, hp, e, he, se, rfl, hpe.symm, q5⟩, (Ck.row T.t T.z (.slice (some ⟨gl, 0, none⟩) q c) q (em T m.2)).stable w _ q6 (fun k hk => hoth k (fun e => by simp [Ck.row, Value.ownBlock] at hk; omega)), q7, q8, q9, q10⟩ (fun k hk => .inl hk)))
theorem ls_mrentry (k : Nat) {x : Operand} (hg : o.guard = none) (hd : o.dst = some d) (hn : Nat.blt d n = true) (ho : o.op = .entry x) (hx : ev f x = .pointer (some ⟨gi, 0, none⟩)) (hS : S k = some (Ck.mri T r gl c q gi (some p) m))
    (h : Ls P Q n ops rest (upd f d (.tuple #[.int .i64 p.1, .agg ⟨T.E p.2⟩])) w0 S) : Ls P Q n ops (o :: rest) f w0 S :=
  ls_read hg hd hn (fun w hs => by
    obtain ⟨⟨es, cl, sn, se, q1, q2, q3, q4, q5, e, he, se', e1, e2, e3⟩, _⟩ := hs.mrid hS
    subst e1
    have hk : e.key = .int .i64 p.1 := (Prod.mk.inj e2).1
    have hv : e.val = .agg ⟨T.E p.2⟩ := (Prod.mk.inj e2).2
    unfold execOp
    rw [ho]
    refine lift_v ?_
    rw [hx, ← hk, ← hv]
    exact run_entry_at w gi r sn se' es cl e q3 q2 he q1.2.2.1) h
theorem mdel_mem {k : Int} : ∀ {l : List (Int × α)}, (l.map (·.1)).Nodup → ∀ p, p ∈ mdel k l ↔ p ∈ l ∧ p.1 ≠ k
  | [], _, p => by simp [mdel]
  | a :: l, h, p => by
    simp only [List.map_cons, List.nodup_cons] at h
    unfold mdel
    split
    · rename_i hk
      constructor
      · intro hp
        exact ⟨.tail _ hp, fun e => h.1 (by rw [hk, ← e]; exact List.mem_map.2 ⟨p, hp, rfl⟩)⟩
      · rintro ⟨hp, hne⟩
        rcases List.mem_cons.1 hp with rfl | hp
        · exact absurd hk hne
        · exact hp
    · rename_i hk
      simp only [List.mem_cons, mdel_mem h.2]
      constructor
      · rintro (rfl | ⟨hp, hne⟩)
        · exact ⟨.inl rfl, hk⟩
        · exact ⟨.inr hp, hne⟩
      · rintro ⟨rfl | hp, hne⟩
        · exact .inl rfl
        · exact .inr ⟨hp, hne⟩
theorem ls_mridel (k : Nat) {x y : Operand} (hg : o.guard = none) (hd : o.dst = none) (ho : o.op = .call { callee := .builtin .delete, args := #[x, y], argTypes := #[t, kt] }) (hx : ev f x = .map (some r)) (hy : ev f y = .int .i64 p.1) (ht : P.underlying t = some (.map kt et)) (hkt : P.underlying kt = some (.int .i64)) (hS : S k = some (Ck.mri T r gl c q gi (some p) m))
    (h : Ls P Q n ops rest f w0 (sput S k (some (Ck.mri T r gl c q gi none (mdel p.1 m.1, m.2))))) : Ls P Q n ops (o :: rest) f w0 S :=
  ls_turn0 hg hd (s := .value (.tuple #[])) (.inr ⟨_, rfl⟩) (fun w hs => by
    obtain ⟨⟨es, cl, sn, se, q1, q2, q3, q4, q5, e, he, se', e1, e2, e3⟩, q6, q7, q8, q9, q10⟩ := hs.mrid hS
    have hke : e.key = .int .i64 p.1 := (Prod.mk.inj e2).1
    rcases find_mp T p.1 m.1 es.toList 0 q1.1 with ⟨h1, h2, _⟩ | ⟨u, j, h1, hj, h2, h3, _, h4⟩
    · exact absurd rfl (mget_none.1 h1 p q5)
    · have hd' : (Builtin.delete_ #[t, kt] o.type #[.map (some r), .int .i64 p.1]).run P w = .ok (.tuple #[]) { w with heap := w.heap.setIfInBounds r (.map (es.eraseIdxIfInBounds j) cl) } := by
        simp [Builtin.delete_, run_underlying ht, Result.andThen, MapKept.run_getObj_map q2, MapKept.run_checkKey hkt (isKey_int rfl p.1), MapKept.run_findKey hkt h2, MapKept.run_setObj_map _ q2]
      have hel : (es.eraseIdxIfInBounds j).toList = es.toList.eraseIdx j := by
        unfold Array.eraseIdxIfInBounds
        rw [dif_pos (by simpa using hj)]
        simp
      have hsub : List.Sublist (es.toList.eraseIdx j) es.toList := List.eraseIdx_sublist _ _
      have hnd : ((mdel p.1 m.1).map (·.1)).Nodup := (mdel_sub.map _).nodup q1.2.2.2
      refine ⟨_, ?_, hs.wset hS (r := r) (by simp [Ck.mri]) rfl (c' := Ck.mri T r gl c q gi none (mdel p.1 m.1, m.2)) ⟨⟨_, cl, sn, se, ⟨by rw [hel]; exact h4, fun x hx => q1.2.1 x (hsub.subset (by rw [hel] at hx; exact hx)), by rw [hel]; exact (hsub.map _).nodup q1.2.2.1, hnd⟩, (MapKept.heap_set q2).1, by rw [(MapKept.heap_set q2).2 gi q9]; exact q3, q4, fun x hx hxs => ?_⟩, (Ck.row T.t T.z (.slice (some ⟨gl, 0, none⟩) q c) q (em T m.2)).stable w _ q6 (fun k hk => (MapKept.heap_set q2).2 k (fun e => q8 (by simp [Ck.row, Value.ownBlock] at hk; rw [← e, hk]))), q7, q8, q9, q10⟩ (fun q hq => hq)⟩
      · unfold execOp
        simp only [ho, resolve, invoke, builtin, Sem.run_bind, Sem.run_pure, Result.andThen_ok, List.map_toArray, List.map_cons, List.map_nil, hx, hy, hd']
      · rw [hel] at hx
        have hxe := hsub.subset hx
        subst e1
        have hb : x.born = e.born := by
          rcases Array.mem_push.1 hxs with h | h
          · exact absurd h (e3 x hxe)
          · exact h
        -- so x is e, whose key is gone
        have hxk : (x.key, x.val) ∈ (mdel p.1 m.1).map (mkv T) := by rw [← h4]; exact List.mem_map.2 ⟨x, hx, rfl⟩
        obtain ⟨y, hy1, hy2⟩ := List.mem_map.1 hxk
        have hyk := ((mdel_mem q1.2.2.2 y).1 hy1).2
        have hxe' : x = e := by
          have f1 := find_born e es.toList q1.2.2.1 he
          have f2 := find_born x es.toList q1.2.2.1 hxe
          rw [hb] at f2
          exact Option.some.inj (f2.symm.trans f1)
        subst hxe'
        have : Value.int .i64 y.1 = Value.int .i64 p.1 := ((Prod.mk.inj hy2).1).trans hke
        exact hyk (Value.int.inj this).2) h
theorem ls_mristore (k : Nat) {x y : Operand} {off : Nat} {vs : List Value} {v : Value} {l' : List α} (hg : o.guard = none) (hd : o.dst = none) (ho : o.op = .store t x y) (hx : ev f x = .pointer (some ((⟨gl, 0, none⟩ : Addr).add off))) (hy : ev f y = v) (hv : v.cells = ⟨vs⟩) (hS : S k = some (Ck.mri T r gl c q gi cur m)) {z : Nat} (hz : (P.info? t).map (·.size) = some z) (hl : vs.length = z)
    (h1 : ∀ u ∈ vs, u.oneCell' = true) (hle : off + vs.length ≤ (em T m.2).length) (hc : splc (em T m.2) off vs = em T l') (hll : l'.length = m.2.length) (h : Ls P Q n ops rest f w0 (sput S k (some (Ck.mri T r gl c q gi cur (m.1, l'))))) : Ls P Q n ops (o :: rest) f w0 S :=
  ls_op hg fun a w ha hs => op_wp ha (by
    obtain ⟨⟨es, cl, sn, se, q1, q2, q3, q4⟩, ⟨hlen, hrow⟩, q7, q8, q9, q10⟩ := hs.mrid hS
    rcases hrow with ⟨hv', _⟩ | ⟨g, cap, cur', hv', hb, hob, hc1, hc2, hc3, hc4⟩
    · injection hv' with hv'
      cases hv'
    injection hv' with hv1 hv2 hv3
    have hgg : gl = g := by injection hv1 with hv1; injection hv1
    subst hgg
    subst hv3
    subst q7
    have hcap : m.2.length * T.z ≤ c * T.z := Nat.mul_le_mul_right _ hc1
    rw [em_length] at hle
    obtain ⟨q, hq, hq1⟩ := Option.map_eq_some_iff.1 hz
    have hst := run_storeCells_at (P := P) gl off T.t vs 0 cur' w hob (by simp; omega) h1
    have hrun : (Instr.storeAt t (.pointer (some ((⟨gl, 0, none⟩ : Addr).add off))) v).run P w = .ok () (w.setRow gl (cur'.toList.take off ++ vs ++ cur'.toList.drop (off + vs.length)).toArray) := by
      have hsz : v.cells.size = q.size := by rw [hv, hq1, ← hl]; rfl
      have hvl : v.cells.toList = vs := by rw [hv]
      simp only [Nat.add_zero] at hst
      simp [Instr.storeAt, Instr.sureAddr, storeVar, sizeOf, typeInfo, hq, hsz, hvl, hst, add0]
    unfold execOp
    rw [ho]
    simp only [hx, hy]
    rw [lift_u hrun]
    show wpList P ops Q rest (a.put o.dst undef) _
    rw [hd]
    have hcl : cur'.toList.length = c * T.z := by simpa using hc3
    have htk : (cur'.toList.take off ++ vs ++ cur'.toList.drop (off + vs.length)).take (m.2.length * T.z) = em T l' := by
      rw [← hc]
      apply List.ext_getElem?
      intro j
      have hsl : (splc (em T m.2) off vs).length = m.2.length * T.z := by rw [splc_length (by rw [em_length]; exact hle), em_length]
      by_cases hj : j < m.2.length * T.z
      · rw [List.getElem?_take, if_pos hj]
        have e1 : cur'.toList.take off ++ vs ++ cur'.toList.drop (off + vs.length) = splc cur'.toList off vs := rfl
        rw [e1, splc_get (by omega), splc_get (by rw [em_length]; exact hle)]
        have e2 : ∀ i, i < m.2.length * T.z → cur'.toList[i]? = (em T m.2)[i]? := fun i hi => by
          rw [← hc4, List.getElem?_take, if_pos hi]
        by_cases c1 : j < off
        · rw [if_pos c1, if_pos c1, e2 j hj]
        · rw [if_neg c1, if_neg c1]
          by_cases c2 : j < off + vs.length
          · rw [if_pos c2, if_pos c2]
          · rw [if_neg c2, if_neg c2, e2 j hj]
      · rw [List.getElem?_eq_none (by simp; omega), List.getElem?_eq_none (by omega)]
    have hoth : ∀ k, k ≠ gl → (w.setRow gl (cur'.toList.take off ++ vs ++ cur'.toList.drop (off + vs.length)).toArray).heap[k]? = w.heap[k]? := fun k hk => setRow_other w gl k _ hk
    refine h a _ ha (hs.set (c' := Ck.mri T r gl c m.2.length gi cur (m.1, l')) hS rfl rfl rfl (by simp [World.setRow]) (fun j hj hne => hoth j (fun e1 => hne (by simp [Ck.mri, e1]))) ⟨⟨es, cl, sn, se, q1, by rw [hoth r q8]; exact q2, by rw [hoth gi q10]; exact q3, q4⟩, ⟨by rw [em_length, hll], .inr ⟨gl, c, _, rfl, Nat.zero_le _, setRow_heap w gl cur' _ T.t _ hob, hc1, hc2, ?_, ?_⟩⟩, hll, q8, q9, q10⟩ (fun k hk => .inl hk))
    · simp
      omega
    · simpa using htk)
end
/-! ### 4. What the round that lets all last computes -/
def mrlo {β : Type} (cont : List (Int × α) × List α → Option β) (k : Nat) (m : List (Int × α) × List α) : Option β :=
  if m.1.length < k ∧ (∀ p ∈ m.1, 0 ≤ p.1 ∧ p.1 < (m.2.length : Int)) then cont ([], m.1.foldl (fun L p => L.set p.1.toNat p.2) m.2) else none
theorem mrlo_zero {β : Type} {cont : List (Int × α) × List α → Option β} {m : List (Int × α) × List α} {r : β} (h : mrlo cont 0 m = some r) : False := by
  unfold mrlo at h
  rw [if_neg (by omega)] at h
  cases h
theorem mrlo_in {β : Type} {cont : List (Int × α) × List α → Option β} {k : Nat} {m : List (Int × α) × List α} {r : β} (h : mrlo cont k m = some r) : ∀ p ∈ m.1, 0 ≤ p.1 ∧ p.1 < (m.2.length : Int) := by
  unfold mrlo at h
  split at h
  · rename_i h1; exact h1.2
  · cases h
theorem mrlo_end {β : Type} {cont : List (Int × α) × List α → Option β} {k : Nat} {m : List (Int × α) × List α} {r : β} (h : mrlo cont k m = some r) (hn : m.1 = []) : cont ([], m.2) = some r := by
  unfold mrlo at h
  split at h
  · rw [hn] at h; exact h
  · cases h
theorem fold_set_len : ∀ (l : List (Int × α)) (L : List α), (l.foldl (fun L p => L.set p.1.toNat p.2) L).length = L.length
  | [], L => rfl
  | p :: l, L => by simp only [List.foldl_cons]; rw [fold_set_len l]; simp
theorem fold_set_comm : ∀ {l : List (Int × α)} {L : List α} {a : Nat} {b : α}, (∀ p ∈ l, p.1.toNat ≠ a) → (l.foldl (fun L p => L.set p.1.toNat p.2) (L.set a b)) = (l.foldl (fun L p => L.set p.1.toNat p.2) L).set a b
  | [], L, a, b, _ => rfl
  | p :: l, L, a, b, h => by
    simp only [List.foldl_cons]
    rw [List.set_comm _ _ (fun e => h p (by simp) e.symm), fold_set_comm (fun q hq => h q (by simp [hq]))]
theorem fold_del : ∀ {l : List (Int × α)} {L : List α} {p : Int × α}, (l.map (·.1)).Nodup → (∀ q ∈ l, 0 ≤ q.1) → p ∈ l → (mdel p.1 l).foldl (fun L p => L.set p.1.toNat p.2) (L.set p.1.toNat p.2) = l.foldl (fun L p => L.set p.1.toNat p.2) L
  | [], L, p, _, _, h => by cases h
  | a :: l, L, p, hn, h0, hp => by
    simp only [List.map_cons, List.nodup_cons] at hn
    unfold mdel
    by_cases e : a.1 = p.1
    · rw [if_pos e]
      have : a = p := by
        rcases List.mem_cons.1 hp with h | h
        · exact h.symm
        · exact absurd (by rw [e]; exact List.mem_map.2 ⟨p, h, rfl⟩) hn.1
      subst this
      rfl
    · rw [if_neg e]
      have hp' : p ∈ l := by
        rcases List.mem_cons.1 hp with h | h
        · exact absurd (by rw [h]) e
        · exact h
      simp only [List.foldl_cons]
      have ha := h0 a (by simp)
      have hb := h0 p (by simp [hp'])
      rw [List.set_comm _ _ (show p.1.toNat ≠ a.1.toNat by omega)]
      exact fold_del hn.2 (fun q hq => h0 q (by simp [hq])) hp'
theorem mdel_len {k : Int} {l : List (Int × α)} {p : Int × α} (h : p ∈ l) (hk : p.1 = k) : (mdel k l).length + 1 = l.length := by
  induction l with
  | nil => cases h
  | cons a l ih =>
    unfold mdel
    split
    · rfl
    · rename_i hne
      rcases List.mem_cons.1 h with h1 | h1
      · exact absurd (by rw [← h1]; exact hk) hne
      · simp only [List.length_cons, ih h1]
theorem mrlo_step {β : Type} {cont : List (Int × α) × List α → Option β} {k : Nat} {m : List (Int × α) × List α} {r : β} (h : mrlo cont (k + 1) m = some r) {p : Int × α} (hp : p ∈ m.1) (hn : (m.1.map (·.1)).Nodup) : mrlo cont k (mdel p.1 m.1, m.2.set p.1.toNat p.2) = some r := by
  unfold mrlo at h
  split at h
  · rename_i h1
    unfold mrlo
    rw [if_pos ⟨by have := mdel_len hp rfl; simp only []; omega, fun q hq => by
      have := h1.2 q (mdel_sub.subset hq)
      simpa using this⟩]
    rw [← fold_del hn (fun q hq => (h1.2 q hq).1) hp] at h
    exact h
  · cases h
/-! ### 5. Cuts with a capacity, and copies into the end of a row -/
section
variable {P : Program} {Q : Exit → Act → World → Prop} {n : Nat} {ops : Array Oper} {rest : List Oper} {o : Oper} {f : Fr} {w0 : Bs} {S : Sto} {d : Nat} {t e : TypeId} {T : Ec α} {A : Option Addr} {c : Nat} {l : List α}
theorem run_cut3 {z : Nat} {w : World} (ht : P.underlying t = some (.slice e)) (hz : (P.info? e).map (·.size) = some z) {m : Nat} {lo : Option Value} {a b : Nat} {kh : IntKind}
    (hlo : (lo = none ∧ a = 0) ∨ ∃ k, lo = some (.int k (a : Int))) (h1 : a ≤ b) (h2 : b ≤ m) (h3 : m ≤ c) :
    (Instr.sliceAt t (.slice A m c) lo (some (.int kh (b : Int))) (some (.int kh (b : Int)))).run P w = .ok (.slice (if b = a then A else A.map (·.add (a * z))) (b - a) (b - a)) w := by
  obtain ⟨q, hq, hq1⟩ := Option.map_eq_some_iff.1 hz
  have hb : (Instr.sliceBounds true m c lo (some (.int kh (b : Int))) (some (.int kh (b : Int)))).run P w = .ok (a, b, b) w := by
    rcases hlo with ⟨rfl, rfl⟩ | ⟨kl, rfl⟩
    · simp [Instr.sliceBounds, run_bound (show b ≤ c by omega), run_bound (Nat.le_refl b)]
    · simp [Instr.sliceBounds, run_bound (show b ≤ c by omega), run_bound (Nat.le_refl b), run_bound h1]
  simp [Instr.sliceAt, run_underlying ht, Instr.slice, hb, sizeOf, typeInfo, hq, hq1]
theorem cut3_at (T : Ec α) (a b : Nat) (h1 : a ≤ b) (h2 : b ≤ l.length) (hR : Ro w0 A (em T l)) {m : List α} (hm : m = (l.take b).drop a) {z : Nat} (hz : z = T.z) : ∃ A' c', Value.slice (if b = a then A else A.map (·.add (a * z))) (b - a) (b - a) = .slice A' m.length c' ∧ m.length ≤ c' ∧ Ro w0 A' (em T m) :=
  cut_at (l := l.take b) (c := b) T a b h1 (by simp; omega) (by simp; omega) (hR.emtake b) (by rw [List.take_take, Nat.min_self]; exact hm) hz
theorem ls_cutv3 (hg : o.guard = none) (hd : o.dst = some d) (hn : Nat.blt d n = true) {x hi mx : Operand} {lo : Option Operand} {a b m z : Nat} {A' : Option Addr} {c' k : Nat} {kh : IntKind} (ho : o.op = .slice t x lo (some hi) (some mx)) (hx : ev f x = .slice A m c) (ht : P.underlying t = some (.slice e)) (hz : (P.info? e).map (·.size) = some z)
    (hlo : (lo.map (ev f) = none ∧ a = 0) ∨ ∃ k, lo.map (ev f) = some (.int k (a : Int))) (hhi : ev f hi = .int kh (b : Int)) (hmx : ev f mx = .int kh (b : Int)) (h1 : a ≤ b) (h2 : b ≤ m) (h3 : m ≤ c)
    (he : Value.slice (if b = a then A else A.map (·.add (a * z))) (b - a) (b - a) = .slice A' k c')
    (h : Ls P Q n ops rest (upd f d (.slice A' k c')) w0 S) : Ls P Q n ops (o :: rest) f w0 S := by
  refine ls_val hg hd hn (v := .slice (if b = a then A else A.map (·.add (a * z))) (b - a) (b - a)) (fun w => ?_) (by rw [he]; exact h)
  unfold execOp
  rw [ho]
  refine lift_v ?_
  simp only [Option.map_some, hx, hhi, hmx]
  exact run_cut3 ht hz hlo h1 h2 h3
/-- A copy over a row from a place on. -/
def lcopy (l : List α) (a : Nat) (m : List α) : List α := l.take a ++ m.take (l.length - a) ++ l.drop (a + m.length)
theorem lcopy_length {l m : List α} {a : Nat} (h : a ≤ l.length) : (lcopy l a m).length = l.length := by
  unfold lcopy
  simp
  omega
theorem ls_copyc {u : TypeId} (k : Nat) {x y : Operand} {a q cy cb : Nat} {Ax B : Option Addr} {m : List α} (hg : o.guard = none) (hd : o.dst = some d) (hn : Nat.blt d n = true) (ho : o.op = .call { callee := .builtin .copy, args := #[x, y], argTypes := #[t, u] }) (hx : ev f x = .slice Ax q cy) (hy : ev f y = .slice B m.length cb)
    (he : Value.slice (if c = a then A else A.map (·.add (a * 1))) (l.length - a) (c - a) = .slice Ax q cy) (ha : a ≤ l.length) (hz1 : T.z = 1) (hS : S k = some (Ck.sl T A c l)) (ht : P.underlying t = some (.slice e)) (hz : (P.info? e).map (·.size) = some 1) (hR : ∀ w, St w0 S w → Rd w B (em T m)) {l' : List α} (hl' : lcopy l a m = l')
    (h : Ls P Q n ops rest (upd f d (.int .i64 ((min m.length (l.length - a) : Nat) : Int))) w0 (sput S k (some (Ck.sl T A c l')))) : Ls P Q n ops (o :: rest) f w0 S :=
  ls_op hg fun ac w haa hs => op_wp haa (by
    subst hl'
    have hll := lcopy_length (m := m) ha
    injection he with he1 he2 he3
    subst he1; subst he2; subst he3
    have h0 := hs.holds k _ hS
    obtain ⟨hlen, hrow⟩ := h0
    have emz : ∀ r : List α, (em T r).length = r.length := fun r => by rw [em_length, hz1, Nat.mul_one]
    obtain ⟨w', hrun, hst⟩ : ∃ w', (Builtin.copy_ #[t, u] o.type #[.slice (if c = a then A else A.map (·.add (a * 1))) (l.length - a) (c - a), .slice B m.length cb]).run P w = .ok (.int .i64 ((min m.length (l.length - a) : Nat) : Int)) w' ∧ St w0 (sput S k (some (Ck.sl T A c (lcopy l a m)))) w' := by
      by_cases h00 : min m.length (l.length - a) = 0
      · -- nothing is copied
        have hsame : lcopy l a m = l := by
          unfold lcopy
          by_cases hm0 : m.length = 0
          · have : m = [] := List.eq_nil_of_length_eq_zero hm0
            subst this
            simp
          · have : l.length - a = 0 := by omega
            rw [this, List.take_zero, List.append_nil, List.drop_of_length_le (by omega), List.append_nil, List.take_of_length_le (by omega)]
        have hS2 : sput S k (some (Ck.sl T A c (lcopy l a m))) = S := by
          rw [hsame]
          funext j
          by_cases hj : j = k
          · subst hj; rw [sput_same]; exact hS.symm
          · rw [sput_ne _ _ hj]
        refine ⟨w, ?_, by rw [hS2]; exact hs⟩
        obtain ⟨q, hq, hq1⟩ := Option.map_eq_some_iff.1 hz
        have hmin : Nat.min m.length (l.length - a) = 0 := h00
        rw [h00]
        generalize (if c = a then A else A.map (·.add (a * 1))) = D
        cases B <;> cases D <;> simp [Builtin.copy_, run_underlying ht, sizeOf, typeInfo, hq, Builtin.lenOf, Builtin.firstCells, storeCells, loadCells, loadCellsFrom, goInt, hmin, h00, Result.andThen]
      · rcases hrow with ⟨hv', hn0⟩ | ⟨g, cap, cur, hv', hb, hob, hc1, hc2, hc3, hc4⟩
        · omega
        injection hv' with hv1 hv2 hv3
        subst hv3
        rw [hz1, Nat.mul_one] at hc3 hc4
        have hca : ¬ c = a := by omega
        subst hv1
        rw [if_neg hca]
        cases B with
        | none =>
          exfalso
          cases m with
          | nil => simp at h00
          | cons x r =>
            have hx0 : (em T (x :: r))[0]? = some ((em T (x :: r))[0]'(by rw [emz]; simp)) := List.getElem?_eq_getElem _
            obtain ⟨ad, e1, _⟩ := hR w hs 0 _ hx0
            cases e1
        | some ad =>
          have hcsl : (em T (m.take (l.length - a))).length = Nat.min m.length (l.length - a) := by rw [emz]; simp [Nat.min_comm]
          have h1 := run_copy_row (P := P) w t u o.type e g a (l.length - a) (c - a) ad m.length cb cur T.t (em T (m.take (l.length - a))) ht hz hob hcsl (fun j v hj => by
            have hj' : (em T m)[j]? = some v := by
              rw [em_take, List.getElem?_take] at hj
              split at hj
              · exact hj
              · cases hj
            obtain ⟨ad', e1, hc⟩ := hR w hs j v hj'
            obtain rfl := Option.some.inj e1
            exact hc) (by have : cur.size = c := by simpa using hc3
                          rw [hcsl]; have := Nat.min_le_right m.length (l.length - a); simp only [Nat.min_def] at *; split <;> omega) (em_one T _)
          refine ⟨w.setRow g (cur.toList.take a ++ em T (m.take (l.length - a)) ++ cur.toList.drop (a + (em T (m.take (l.length - a))).length)).toArray, by
            show (Builtin.copy_ #[t, u] o.type #[.slice (some ((⟨g, 0, none⟩ : Addr).add (a * 1))) (l.length - a) (c - a), .slice (some ad) m.length cb]).run P w = _
            rw [Nat.mul_one, addo, Nat.zero_add, h1, show goInt (em T (m.take (l.length - a))).length = .int .i64 ((min m.length (l.length - a) : Nat) : Int) from by rw [hcsl]; rfl], ?_⟩
          have hcl : cur.toList.length = c := by simpa using hc3
          have hml : (em T (m.take (l.length - a))).length = min m.length (l.length - a) := hcsl
          refine hs.set (w' := w.setRow g (cur.toList.take a ++ em T (m.take (l.length - a)) ++ cur.toList.drop (a + (em T (m.take (l.length - a))).length)).toArray) (c' := Ck.sl T (some ⟨g, 0, none⟩) c (lcopy l a m)) hS rfl rfl rfl (by simp [World.setRow]) (fun j hj hne => setRow_other w g j _ (fun e1 => hne (by simp [Ck.sl, Ck.row, Value.ownBlock, e1]))) ⟨by rw [emz, hll, hz1, Nat.mul_one], .inr ⟨g, c, _, rfl, Nat.zero_le _, setRow_heap w g cur _ T.t _ hob, by rw [hll]; exact hc1, hc2, ?_, ?_⟩⟩ (fun j hj => .inl (hj))
          · rw [hz1, Nat.mul_one]
            simp
            omega
          · rw [hz1, Nat.mul_one, hll]
            have e4 : em T (lcopy l a m) = (em T l).take a ++ em T (m.take (l.length - a)) ++ (em T l).drop (a + m.length) := by
              unfold lcopy
              rw [em_append, em_append, em_take, em_drop, hz1, Nat.mul_one, Nat.mul_one]
            rw [e4, ← hc4]
            apply List.ext_getElem?
            intro j
            have hmn : min m.length (l.length - a) ≤ l.length - a := Nat.min_le_right _ _
            by_cases hj : j < l.length
            · simp only [List.getElem?_take, List.getElem?_append, List.length_append, List.length_take, hml, hcl, List.getElem?_drop]
              by_cases c1 : j < a
              · have d1 : j < min a c := by omega
                have d2 : j < min a c + min m.length (l.length - a) := by omega
                have d3 : j < min a (min l.length c) := by omega
                have d4 : j < min a (min l.length c) + min m.length (l.length - a) := by omega
                simp [hj, c1, d1, d2, d3, d4]
              · by_cases c2 : j < a + min m.length (l.length - a)
                · have d1 : ¬ j < min a c := by omega
                  have d2 : j < min a c + min m.length (l.length - a) := by omega
                  have d3 : ¬ j < min a (min l.length c) := by omega
                  have d4 : j < min a (min l.length c) + min m.length (l.length - a) := by omega
                  have e5 : min a c = a := by omega
                  have e6 : min a (min l.length c) = a := by omega
                  simp [hj, d1, d2, d3, d4, e5, e6, c1, c2]
                · have d2 : ¬ j < min a c + min m.length (l.length - a) := by omega
                  have d4 : ¬ j < min a (min l.length c) + min m.length (l.length - a) := by omega
                  have e5 : min a c = a := by omega
                  have e6 : min a (min l.length c) = a := by omega
                  have e7 : min m.length (l.length - a) = m.length := by omega
                  rw [e5] at d2; rw [e6] at d4
                  simp only [e5, e6, if_pos hj, if_neg d2, if_neg d4, e7]
                  have e8 : a + m.length + (j - (a + m.length)) = j := by omega
                  rw [e8, if_pos hj]
            · rw [List.getElem?_eq_none (by simp; omega), List.getElem?_eq_none (by
                rw [hc4]
                simp only [List.length_append, List.length_take, List.length_drop, hml, emz]
                omega)]
    unfold execOp
    simp only [ho, resolve, invoke, builtin, Sem.run_bind, Sem.run_pure, Result.andThen_ok, List.map_toArray, List.map_cons, List.map_nil, hx, hy, hrun]
    show wpList P ops Q rest (ac.put o.dst _) _
    rw [hd]
    exact h _ _ (haa.put hn _) hst)
end
end Go.Proofs.Ytbidihabicgedaa.Sx
