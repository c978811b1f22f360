/- Small lemmas for a walk: ints that the library sorts; a round over a map's keys; copies into an element of an own row; no condition. -/
import Derived.Test.YtbidihabicgedaaSd
import Derived.Sort.OwnSortedInts
import Derived.Lib.SlKeysI
set_option linter.unusedVariables false
set_option linter.unusedSimpArgs false
namespace Go.Proofs.Ytbidihabicgedaa.Sx
open Go Go.RowKit
open Go.MapKept (IsKey)
/-! ### 1. Ints that the library sorts -/
def sortI (l : List Int) : List Int := l.mergeSort fun x y => decide (x ≤ y)
theorem sortI_len (l : List Int) : (sortI l).length = l.length := List.length_mergeSort l
theorem sortI_perm {l l' : List Int} (h : l.Perm l') : sortI l = sortI l' := mergeSort_of_perm_i h
theorem em_ints (t : TypeId) (l : List Int) : em (Ec.int t .i64) l = l.map (Value.int .i64) := by rw [em_int]; rfl
theorem sput_self {S : Sto} {k : Nat} {c : Option Ck} (h : S k = c) : sput S k c = S := by
  funext j
  by_cases hj : j = k
  · subst hj; rw [sput_same]; exact h.symm
  · rw [sput_ne _ _ hj]
section
variable {P : Program} {Q : Exit → Act → World → Prop} {n : Nat} {ops : Array Oper} {rest : List Oper} {o : Oper} {f : Fr} {w0 : Bs} {S : Sto} {d : Nat} {A : Option Addr} {c : Nat}
theorem ls_sort {fid : FuncId} {e : TypeId} (k : Nat) {l : List Int} (hg : o.guard = none) (hd : o.dst = none) (hr : ∀ w, (execOp (ev f) o).run P w = .ok (.enter fid #[.slice A l.length c]) w) (hS : S k = some (Ck.sl (Ec.int e .i64) A c l)) (hsz : l.length < 4611686018427387904)
    (hc : ∀ (blk off cap : Nat) (zs : List Int) (w : World), Go.Sort.Holds (Value.int .i64) w blk off zs.toArray → blk < w.heap.size → zs.length < 4611686018427387904 → Calls P fid #[.slice (some ⟨blk, off, none⟩) zs.length cap] w fun e w' => e = .returned (.tuple #[]) ∧ ∃ n os, w' = Go.Sort.grow (Go.Sort.putRow (Value.int .i64) (Go.Sort.ahead w n) blk off (zs.mergeSort fun x y => decide (x ≤ y)).toArray) os)
    (hc0 : ∀ (p : Option Addr) (cap : Nat) (w : World), Calls P fid #[.slice p 0 cap] w fun e w' => e = .returned (.tuple #[]) ∧ w' = w)
    (h : Ls P Q n ops rest f w0 (sput S k (some (Ck.sl (Ec.int e .i64) A c (sortI l))))) : Ls P Q n ops (o :: rest) f w0 S :=
  ls_op hg fun a w ha hs => op_wp ha (by
    rw [hr w]
    show Calls P fid _ w _
    have hown := hs.holds k _ hS
    have key : Calls P fid #[.slice A l.length c] w fun ex w' => ex = .returned (.tuple #[]) ∧ St w0 (sput S k (some (Ck.sl (Ec.int e .i64) A c (sortI l)))) w' := by
      by_cases h0 : l.length = 0
      · have hl : l = [] := List.eq_nil_of_length_eq_zero h0
        subst hl
        refine (hc0 A c w).mono ?_
        rintro ex w' ⟨rfl, rfl⟩
        exact ⟨rfl, by rw [show sortI [] = [] from by simp [sortI], sput_self hS]; exact hs⟩
      · rcases hown.2 with ⟨hv, hn⟩ | ⟨g, cap, cur, hv, hb, hob, hc1, hc2, hc3, hc4⟩
        · omega
        injection hv with hv1 hv2 hv3
        subst hv1; subst hv3
        have hc4' : cur.toList.take l.length = l.map (Value.int .i64) := by
          have := hc4
          rw [em_ints] at this
          simpa [Ec.int] using this
        have hgs : g < w.heap.size := (Array.getElem?_eq_some_iff.1 hob).1
        refine (hc g 0 c l w (holds_of_blockI hob hc4') hgs hsz).mono ?_
        rintro ex w' ⟨rfl, nn, os, rfl⟩
        obtain ⟨_, _, _, _, hgr⟩ := grownBy_sortedI (w := w) (g := g) (n := nn) (os := os) (l.mergeSort fun x y => decide (x ≤ y)).toArray
        refine ⟨rfl, hs.set hS rfl rfl rfl ?_ ?_ (c' := Ck.sl (Ec.int e .i64) (some ⟨g, 0, none⟩) c (sortI l)) ?_ (fun q hq => .inl ?_)⟩
        · simp [Go.Sort.grow, Go.Sort.putRow, Go.Sort.mapBlock, Go.Sort.ahead]
        · intro q hq hne
          refine hgr q hq fun e1 => hne ?_
          simp only [Option.some.injEq] at e1
          simp [Ck.sl, Ck.row, Value.ownBlock, e1]
        · have h9 := ownsRow_sortedI (w := w) (base := 0) (g := g) (cap := c) (n := nn) (e := e) (os := os) (ss := l) (ts := sortI l) (sortI_len l) (Nat.zero_le _) hob hc1 hc2 (by simpa [Ec.int] using hc3)
          show World.ownsRow _ 0 e 1 (.slice (some ⟨g, 0, none⟩) (sortI l).length c) (sortI l).length (em (Ec.int e .i64) (sortI l))
          rw [em_ints, sortI_len]
          exact h9
        · have h8 : (Ck.sl (Ec.int e .i64) (some ⟨g, 0, none⟩) c (sortI l)).key = (Ck.sl (Ec.int e .i64) (some ⟨g, 0, none⟩) c l).key := by simp [Ck.sl, Ck.row, Value.ownBlock]
          rw [← h8]; exact hq
    refine key.mono ?_
    rintro ex w' ⟨rfl, hst⟩
    show wpList P ops Q rest (a.put o.dst (.tuple #[])) w'
    rw [hd]
    exact h _ _ ha hst)
theorem ls_sortd {fid : FuncId} {e : TypeId} (k : Nat) {l : List Int} (hg : o.guard = none) (hd : o.dst = some d) (hn : Nat.blt d n = true) (hr : ∀ w, (execOp (ev f) o).run P w = .ok (.enter fid #[.slice A l.length c]) w) (hS : S k = some (Ck.sl (Ec.int e .i64) A c l)) (hsz : l.length < 4611686018427387904)
    (hc : ∀ (blk off cap : Nat) (zs : List Int) (w : World), Go.Sort.Holds (Value.int .i64) w blk off zs.toArray → blk < w.heap.size → zs.length < 4611686018427387904 → Calls P fid #[.slice (some ⟨blk, off, none⟩) zs.length cap] w fun e w' => e = .returned (.tuple #[]) ∧ ∃ n os, w' = Go.Sort.grow (Go.Sort.putRow (Value.int .i64) (Go.Sort.ahead w n) blk off (zs.mergeSort fun x y => decide (x ≤ y)).toArray) os)
    (hc0 : ∀ (p : Option Addr) (cap : Nat) (w : World), Calls P fid #[.slice p 0 cap] w fun e w' => e = .returned (.tuple #[]) ∧ w' = w)
    (h : Ls P Q n ops rest (upd f d (.tuple #[])) w0 (sput S k (some (Ck.sl (Ec.int e .i64) A c (sortI l))))) : Ls P Q n ops (o :: rest) f w0 S :=
  ls_op hg fun a w ha hs => op_wp ha (by
    rw [hr w]
    show Calls P fid _ w _
    have hown := hs.holds k _ hS
    have key : Calls P fid #[.slice A l.length c] w fun ex w' => ex = .returned (.tuple #[]) ∧ St w0 (sput S k (some (Ck.sl (Ec.int e .i64) A c (sortI l)))) w' := by
      by_cases h0 : l.length = 0
      · have hl : l = [] := List.eq_nil_of_length_eq_zero h0
        subst hl
        refine (hc0 A c w).mono ?_
        rintro ex w' ⟨rfl, rfl⟩
        exact ⟨rfl, by rw [show sortI [] = [] from by simp [sortI], sput_self hS]; exact hs⟩
      · rcases hown.2 with ⟨hv, hn⟩ | ⟨g, cap, cur, hv, hb, hob, hc1, hc2, hc3, hc4⟩
        · omega
        injection hv with hv1 hv2 hv3
        subst hv1; subst hv3
        have hc4' : cur.toList.take l.length = l.map (Value.int .i64) := by
          have := hc4
          rw [em_ints] at this
          simpa [Ec.int] using this
        have hgs : g < w.heap.size := (Array.getElem?_eq_some_iff.1 hob).1
        refine (hc g 0 c l w (holds_of_blockI hob hc4') hgs hsz).mono ?_
        rintro ex w' ⟨rfl, nn, os, rfl⟩
        obtain ⟨_, _, _, _, hgr⟩ := grownBy_sortedI (w := w) (g := g) (n := nn) (os := os) (l.mergeSort fun x y => decide (x ≤ y)).toArray
        refine ⟨rfl, hs.set hS rfl rfl rfl ?_ ?_ (c' := Ck.sl (Ec.int e .i64) (some ⟨g, 0, none⟩) c (sortI l)) ?_ (fun q hq => .inl ?_)⟩
        · simp [Go.Sort.grow, Go.Sort.putRow, Go.Sort.mapBlock, Go.Sort.ahead]
        · intro q hq hne
          refine hgr q hq fun e1 => hne ?_
          simp only [Option.some.injEq] at e1
          simp [Ck.sl, Ck.row, Value.ownBlock, e1]
        · have h9 := ownsRow_sortedI (w := w) (base := 0) (g := g) (cap := c) (n := nn) (e := e) (os := os) (ss := l) (ts := sortI l) (sortI_len l) (Nat.zero_le _) hob hc1 hc2 (by simpa [Ec.int] using hc3)
          show World.ownsRow _ 0 e 1 (.slice (some ⟨g, 0, none⟩) (sortI l).length c) (sortI l).length (em (Ec.int e .i64) (sortI l))
          rw [em_ints, sortI_len]
          exact h9
        · have h8 : (Ck.sl (Ec.int e .i64) (some ⟨g, 0, none⟩) c (sortI l)).key = (Ck.sl (Ec.int e .i64) (some ⟨g, 0, none⟩) c l).key := by simp [Ck.sl, Ck.row, Value.ownBlock]
          rw [← h8]; exact hq
    refine key.mono ?_
    rintro ex w' ⟨rfl, hst⟩
    show wpList P ops Q rest (a.put o.dst (.tuple #[])) w'
    rw [hd]
    exact h _ _ (ha.put hn _) hst)
end
/-! ### 2. A round over a map's keys, which turns nothing -/
variable {α : Type}
def mrkin (T : Ec α) (r gl c n gi : Nat) (left : List (Int × α)) (cur : Option (Int × α)) (m : List (Int × α) × List α) (w : World) : Prop :=
  (∃ es clock seen, mpv T m.1 es.toList clock ∧ w.heap[r]? = some (.map es clock) ∧ w.heap[gi]? = some (.mapIter (some r) clock seen clock) ∧
    (leftOf es seen).toList.map (fun e => (e.key, e.val)) = left.map (mkv T) ∧
    ∀ p, cur = some p → ∃ e ∈ es.toList, ∃ seen' : Array Nat, seen = seen'.push e.born ∧ (e.key, e.val) = mkv T p) ∧
  w.ownsRow 0 T.t T.z (.slice (some ⟨gl, 0, none⟩) n c) n (em T m.2) ∧ m.2.length = n ∧ r ≠ gl ∧ gi ≠ r ∧ gi ≠ gl
def Ck.mrk (T : Ec α) (r gl c n gi : Nat) (left : List (Int × α)) (cur : Option (Int × α)) (m : List (Int × α) × List α) : Ck where
  key := [r, gl, gi]
  holds := mrkin T r gl c n gi left cur m
  stable := fun w w' h hk => by
    obtain ⟨⟨es, cl, se, h1, h2, h2i, h2c, h2d⟩, h3, h4, h5, h6, h7⟩ := h
    exact ⟨⟨es, cl, se, h1, by rw [hk r (by simp)]; exact h2, by rw [hk gi (by simp)]; exact h2i, h2c, h2d⟩, (Ck.row T.t T.z (.slice (some ⟨gl, 0, none⟩) n c) n (em T m.2)).stable w w' h3 (fun k hkk => hk k (by simp [Ck.row, Value.ownBlock] at hkk; simp [hkk])), h4, h5, h6, h7⟩
  bound := fun w h k hk => by
    obtain ⟨⟨es, cl, se, h1, h2, h2i, h2c, h2d⟩, h3, h4, h5, h6, h7⟩ := h
    simp at hk
    rcases hk with rfl | rfl | rfl
    · exact (Array.getElem?_eq_some_iff.1 h2).1
    · exact (Ck.row T.t T.z (.slice (some ⟨k, 0, none⟩) n c) n (em T m.2)).bound w h3 k (by simp [Ck.row, Value.ownBlock])
    · exact (Array.getElem?_eq_some_iff.1 h2i).1
theorem kv_nodup (T : Ec α) {l : List (Int × α)} {L : List MapEntry} (h : L.map (fun e => (e.key, e.val)) = l.map (mkv T)) : L.map (·.key) = l.map (fun p => Value.int .i64 p.1) := by
  have := congrArg (List.map Prod.fst) h
  simpa [List.map_map, Function.comp_def, mkv] using this
/-- What is left when one entry has come. -/
theorem left_del (T : Ec α) (e : MapEntry) (p : Int × α) (hp : (e.key, e.val) = mkv T p) : ∀ (L : List MapEntry) (l : List (Int × α)), L.map (fun e => (e.key, e.val)) = l.map (mkv T) → e ∈ L → (L.map (·.born)).Nodup → (l.map (·.1)).Nodup →
    (L.filter fun x => !(x.born == e.born)).map (fun e => (e.key, e.val)) = (mdel p.1 l).map (mkv T)
  | [], _, _, h, _, _ => by cases h
  | _ :: _, [], h, _, _, _ => by simp at h
  | x :: L, q :: l, h, hm, hb, hn => by
    simp only [List.map_cons, List.cons.injEq] at h
    obtain ⟨h1, h2⟩ := h
    simp only [List.map_cons, List.nodup_cons] at hb hn
    have hxk : x.key = .int .i64 q.1 := (Prod.mk.inj h1).1
    have hek : e.key = .int .i64 p.1 := (Prod.mk.inj hp).1
    unfold mdel
    rcases List.mem_cons.1 hm with he | he
    · subst he
      have hq : q.1 = p.1 := by
        have := hxk.symm.trans hek
        exact (Value.int.inj this).2
      rw [if_pos hq, List.filter_cons_of_neg (by simp)]
      rw [List.filter_eq_self.2 (fun y hy => by
        have : y.born ≠ e.born := fun e1 => hb.1 (by rw [← e1]; exact List.mem_map.2 ⟨y, hy, rfl⟩)
        simpa using this)]
      exact h2
    · have hbn : x.born ≠ e.born := fun e1 => hb.1 (by rw [e1]; exact List.mem_map.2 ⟨e, he, rfl⟩)
      have hq : q.1 ≠ p.1 := fun e1 => hn.1 (by
        have h5 : Value.int .i64 p.1 ∈ l.map (fun p => Value.int .i64 p.1) := by rw [← kv_nodup T h2, ← hek]; exact List.mem_map.2 ⟨e, he, rfl⟩
        obtain ⟨y, hy, hy2⟩ := List.mem_map.1 h5
        rw [e1, ← (Value.int.inj hy2).2]
        exact List.mem_map.2 ⟨y, hy, rfl⟩)
      rw [if_neg hq, List.filter_cons_of_pos (by simpa using hbn)]
      simp only [List.map_cons, h1]
      rw [left_del T e p hp L l h2 he hb.2 hn.2]
theorem leftOf_push (es : Array MapEntry) (seen : Array Nat) (b : Nat) : (leftOf es (seen.push b)).toList = (leftOf es seen).toList.filter fun x => !(x.born == b) := by
  unfold leftOf
  rw [Array.toList_filter, Array.toList_filter, List.filter_filter]
  congr 1
  funext x
  by_cases h : x.born = b <;> simp [h]
theorem Ck.mr_key {T : Ec α} {r gl c n : Nat} {m : List (Int × α) × List α} : ∀ ad, some (⟨gl, 0, none⟩ : Addr) = some ad → ad.block ∈ (Ck.mr T r gl c n m).key := fun ad e => by
  obtain rfl := Option.some.inj e
  simp [Ck.mr]
section
variable {P : Program} {Q : Exit → Act → World → Prop} {n : Nat} {ops : Array Oper} {rest : List Oper} {o : Oper} {f : Fr} {w0 : Bs} {S : Sto} {d : Nat} {t kt et : TypeId} {r gl c q gi : Nat} {T : Ec α} {m : List (Int × α) × List α} {cur : Option (Int × α)} {p : Int × α} {left : List (Int × α)}
theorem St.mrcap {w : World} (h : St w0 S w) {k : Nat} (hk : S k = some (Ck.mr T r gl c q m)) : m.2.length ≤ c := by
  obtain ⟨_, h3, h4, _⟩ := h.holds k _ hk
  rcases h3.2 with ⟨hv, hn⟩ | ⟨g, cap, cur, hv, hg, hh, hc, r⟩
  · injection hv with hv _ _; cases hv
  · injection hv with _ _ hc'; omega
theorem St.mrkd {w : World} (h : St w0 S w) {k : Nat} (hk : S k = some (Ck.mrk T r gl c q gi left cur m)) : mrkin T r gl c q gi left cur m w := h.holds k _ hk
theorem ls_mkrange (k : Nat) {x : Operand} (hg : o.guard = none) (hd : o.dst = some d) (hn : Nat.blt d n = true) (ho : o.op = .range t x) (hx : ev f x = .map (some r)) (ht : P.underlying t = some (.map kt et)) (hS : S k = some (Ck.mr T r gl c q m))
    (h : ∀ gi, Ls P Q n ops rest (upd f d (.pointer (some ⟨gi, 0, none⟩))) w0 (sput S k (some (Ck.mrk T r gl c q gi m.1 none m)))) : Ls P Q n ops (o :: rest) f w0 S :=
  ls_op hg fun a w ha hs => op_wp ha (by
    obtain ⟨⟨es, cl, h1, h2⟩, h3, h4, h5⟩ := hs.holds k _ hS
    have hr : (execOp (ev f) o).run P w = .ok (.value (.pointer (some ⟨w.heap.size, 0, none⟩))) (w.alloc (.mapIter (some r) cl #[] cl)) := by
      unfold execOp
      rw [ho]
      refine lift_v ?_
      rw [hx]
      simp [Instr.range, run_underlying ht, Result.andThen, MapKept.run_getObj_map h2]
    rw [hr]
    show wpList P ops Q rest (a.put o.dst _) _
    rw [hd]
    have lr : r < w.heap.size := (Array.getElem?_eq_some_iff.1 h2).1
    have lg : gl < w.heap.size := (Ck.row T.t T.z (.slice (some ⟨gl, 0, none⟩) q c) q (em T m.2)).bound w h3 gl (by simp [Ck.row, Value.ownBlock])
    have ha' := MapKept.heap_alloc w (.mapIter (some r) cl #[] cl)
    refine h w.heap.size _ _ (ha.put hn _) (hs.set hS rfl rfl rfl (by have e : (w.alloc (.mapIter (some r) cl #[] cl)).heap = w.heap.push (.mapIter (some r) cl #[] cl) := rfl; rw [e]; simp) (fun k hk _ => ha'.2 k hk) (c' := Ck.mrk T r gl c q w.heap.size m.1 none m) ⟨⟨es, cl, #[], h1, by rw [ha'.2 r lr]; exact h2, ha'.1, by rw [left_all (fun e _ => by simp)]; exact h1.1, fun p hp => by cases hp⟩, (Ck.row T.t T.z (.slice (some ⟨gl, 0, none⟩) q c) q (em T m.2)).stable w _ h3 (fun k hk => ha'.2 k (by simp [Ck.row, Value.ownBlock] at hk; omega)), h4, h5, by omega, by omega⟩ (fun k hk => ?_))
    have : k = r ∨ k = gl ∨ k = w.heap.size := by simpa [Ck.mrk] using hk
    rcases this with rfl | rfl | rfl
    · exact .inl (by simp [Ck.mr])
    · exact .inl (by simp [Ck.mr])
    · exact .inr (Nat.le_refl _))
theorem ls_mknext (k : Nat) {x : Operand} (hg : o.guard = none) (hd : o.dst = some d) (hn : Nat.blt d n = true) (ho : o.op = .next x false) (hx : ev f x = .pointer (some ⟨gi, 0, none⟩)) (hS : S k = some (Ck.mrk T r gl c q gi left cur m))
    (h1 : left = [] → Ls P Q n ops rest (upd f d (.tuple #[.bool false])) w0 (sput S k (some (Ck.mr T r gl c q m))))
    (h2 : ∀ p, p ∈ left → Ls P Q n ops rest (upd f d (.tuple #[.bool true, .int .i64 p.1, .agg ⟨T.E p.2⟩])) w0 (sput S k (some (Ck.mrk T r gl c q gi (mdel p.1 left) (some p) m)))) : Ls P Q n ops (o :: rest) f w0 S :=
  ls_op hg fun a w ha hs => op_wp ha (by
    obtain ⟨⟨es, cl, se, q1, q2, q3, q4, q5⟩, q6, q7, q8, q9, q10⟩ := hs.mrkd hS
    have hx' : ∀ res w', (Instr.next (.pointer (some ⟨gi, 0, none⟩)) false o.type).run P w = .ok res w' → (execOp (ev f) o).run P w = .ok (.value res) w' := fun res w' hr => by
      unfold execOp
      rw [ho]
      refine lift_v ?_
      rw [hx]
      exact hr
    have hsub : List.Sublist (leftOf es se).toList es.toList := by unfold leftOf; rw [Array.toList_filter]; exact List.filter_sublist
    rcases run_next_at (P := P) w o.type gi r cl cl se es cl q3 q2 q1.2.1 (Nat.le_refl _) with ⟨e1, e2⟩ | ⟨e, he, w1, hw1, e2⟩
    · rw [hx' _ _ e2]
      show wpList P ops Q rest (a.put o.dst _) _
      rw [hd]
      have hnil : left = [] := by
        have := congrArg List.length q4
        simp [e1] at this
        exact List.eq_nil_of_length_eq_zero this.symm
      have hks : ∀ k ∈ (Ck.mr T r gl c q m).key, k ∈ (Ck.mrk T r gl c q gi left cur m).key := fun k hk => by
        have : k = r ∨ k = gl := by simpa [Ck.mr] using hk
        rcases this with rfl | rfl <;> simp [Ck.mrk]
      exact h1 hnil _ _ (ha.put hn _) (hs.set hS rfl rfl rfl (Nat.le_refl _) (fun _ _ _ => rfl) (c' := Ck.mr T r gl c q m) ⟨⟨es, cl, q1, q2⟩, q6, q7, q8⟩ (fun k hk => .inl (hks k hk)))
    · rw [hx' _ _ e2]
      show wpList P ops Q rest (a.put o.dst _) _
      rw [hd]
      obtain ⟨p, hp, hpe⟩ : ∃ p ∈ left, mkv T p = (e.key, e.val) := by
        have : (e.key, e.val) ∈ left.map (mkv T) := by rw [← q4]; exact List.mem_map.2 ⟨e, he, rfl⟩
        obtain ⟨p, hp, hpe⟩ := List.mem_map.1 this
        exact ⟨p, hp, hpe⟩
      have hk : e.key = .int .i64 p.1 := (Prod.mk.inj hpe).1.symm
      have hv : e.val = .agg ⟨T.E p.2⟩ := (Prod.mk.inj hpe).2.symm
      rw [hk, hv]
      have hgi : w1.heap[gi]? = some (.mapIter (some r) cl se cl) := by rcases hw1 with rfl | rfl <;> exact q3
      have hset : (ChangeMaps.setBlock w1 gi (.mapIter (some r) cl (se.push e.born) cl)).heap = w.heap.setIfInBounds gi (.mapIter (some r) cl (se.push e.born) cl) := by rcases hw1 with rfl | rfl <;> rfl
      have hoth : ∀ k, k ≠ gi → (ChangeMaps.setBlock w1 gi (.mapIter (some r) cl (se.push e.born) cl)).heap[k]? = w.heap[k]? := fun k hk => by rw [hset]; exact (MapKept.heap_set q3).2 k hk
      have hbn : ((leftOf es se).toList.map (·.born)).Nodup := (hsub.map _).nodup q1.2.2.1
      have hkn : (left.map (·.1)).Nodup := by
        have a1 : (es.toList.map (·.key)).Nodup := by
          rw [kv_nodup T q1.1]
          have := q1.2.2.2
          rw [List.Nodup, List.pairwise_map] at this ⊢
          exact this.imp fun h e => h (Value.int.inj e).2
        have a2 : ((leftOf es se).toList.map (·.key)).Nodup := (hsub.map _).nodup a1
        rw [kv_nodup T q4] at a2
        rw [List.Nodup, List.pairwise_map] at a2 ⊢
        exact a2.imp fun h e => h (by rw [e])
      have hleft : (leftOf es (se.push e.born)).toList.map (fun e => (e.key, e.val)) = (mdel p.1 left).map (mkv T) := by
        rw [leftOf_push]
        exact left_del T e p hpe.symm _ _ q4 he hbn hkn
      refine h2 p hp _ _ (ha.put hn _) (hs.set hS (by rcases hw1 with rfl | rfl <;> rfl) (by rcases hw1 with rfl | rfl <;> rfl) (by rcases hw1 with rfl | rfl <;> rfl) (by rw [hset]; simp) (fun k hk hk2 => hoth k (fun e => hk2 (by subst e; simp [Ck.mrk]))) (c' := Ck.mrk T r gl c q gi (mdel p.1 left) (some p) m) ⟨⟨es, cl, se.push e.born, q1, by rw [hoth r (fun e => q9 e.symm)]; exact q2, by rw [hset]; exact (MapKept.heap_set q3).1, hleft, fun p' hp' => by obtain rfl := Option.some.inj hp'; exact ⟨e, hsub.subset he, se, rfl, hpe.symm⟩⟩, (Ck.row T.t T.z (.slice (some ⟨gl, 0, none⟩) q c) q (em T m.2)).stable w _ q6 (fun k hk => hoth k (fun e => by simp [Ck.row, Value.ownBlock] at hk; omega)), q7, q8, q9, q10⟩ (fun k hk => .inl hk)))
theorem ls_mkentry (k : Nat) {x : Operand} (hg : o.guard = none) (hd : o.dst = some d) (hn : Nat.blt d n = true) (ho : o.op = .entry x) (hx : ev f x = .pointer (some ⟨gi, 0, none⟩)) (hS : S k = some (Ck.mrk T r gl c q gi left (some p) m))
    (h : Ls P Q n ops rest (upd f d (.tuple #[.int .i64 p.1, .agg ⟨T.E p.2⟩])) w0 S) : Ls P Q n ops (o :: rest) f w0 S :=
  ls_read hg hd hn (fun w hs => by
    obtain ⟨⟨es, cl, se, q1, q2, q3, q4, q5⟩, _⟩ := hs.mrkd hS
    obtain ⟨e, he, se', e1, e2⟩ := q5 p rfl
    subst e1
    have hk : e.key = .int .i64 p.1 := (Prod.mk.inj e2).1
    have hv : e.val = .agg ⟨T.E p.2⟩ := (Prod.mk.inj e2).2
    unfold execOp
    rw [ho]
    refine lift_v ?_
    rw [hx, ← hk, ← hv]
    exact run_entry_at w gi r cl se' es cl e q3 q2 he q1.2.2.1) h
theorem ls_mkfree (k : Nat) {lo : List Oper} (hS : S k = some (Ck.mrk T r gl c q gi left cur m)) (h : Ls P Q n ops lo f w0 (sput S k (some (Ck.mrk T r gl c q gi left none m)))) : Ls P Q n ops lo f w0 S := fun a w ha hs => by
  obtain ⟨⟨es, cl, se, q1, q2, q3, q4, q5⟩, q6⟩ := hs.mrkd hS
  exact h a w ha (hs.set hS rfl rfl rfl (Nat.le_refl _) (fun _ _ _ => rfl) (c' := Ck.mrk T r gl c q gi left none m) ⟨⟨es, cl, se, q1, q2, q3, q4, fun p hp => by cases hp⟩, q6⟩ (fun k hk => .inl hk))
end
/-- What a round over a map's keys computes, whatever the order, where what follows sorts them. -/
def mrks {β : Type} (cont : List Int → Option β) (k : Nat) (l : List Int) (left : List (Int × α)) : Option β :=
  if left.length < k ∧ (l.length + left.length) * 8 ≤ 140737488355328 then cont (sortI (l ++ left.map (·.1))) else none
section
variable {β : Type} {cont : List Int → Option β} {k : Nat} {l : List Int} {left : List (Int × α)} {r : β}
theorem mrks_zero (h : mrks cont 0 l left = some r) : False := by
  unfold mrks at h
  rw [if_neg (by omega)] at h
  cases h
theorem mrks_end (h : mrks cont k l left = some r) (hn : left = []) : cont (sortI l) = some r := by
  subst hn
  unfold mrks at h
  split at h
  · simpa using h
  · cases h
theorem mrks_in (h : mrks cont k l left = some r) {p : Int × α} (hp : p ∈ left) (x : Int) : (l.length + [x].length) * 8 ≤ 140737488355328 := by
  unfold mrks at h
  split at h
  · rename_i h1
    have : 0 < left.length := List.length_pos_of_mem hp
    have := h1.2
    simp only [List.length_cons, List.length_nil]
    omega
  · cases h
theorem mdel_perm : ∀ {left : List (Int × α)} {p : Int × α}, p ∈ left → (left.map (·.1)).Perm (p.1 :: (mdel p.1 left).map (·.1))
  | [], p, h => by cases h
  | a :: l, p, h => by
    unfold mdel
    by_cases e : a.1 = p.1
    · rw [if_pos e, List.map_cons, e]
    · rw [if_neg e]
      have hp : p ∈ l := by
        rcases List.mem_cons.1 h with h | h
        · exact absurd (by rw [h]) e
        · exact h
      simp only [List.map_cons]
      exact ((mdel_perm hp).cons a.1).trans (List.Perm.swap _ _ _)
theorem mrks_step (h : mrks cont (k + 1) l left = some r) {p : Int × α} (hp : p ∈ left) : mrks cont k (l ++ [p.1]) (mdel p.1 left) = some r := by
  unfold mrks at h
  split at h
  · rename_i h1
    unfold mrks
    have hl := mdel_len hp rfl
    rw [if_pos ⟨by omega, by simp only [List.length_append, List.length_cons, List.length_nil]; omega⟩, ← h]
    congr 1
    refine sortI_perm ?_
    rw [List.append_assoc]
    exact ((mdel_perm hp).symm).append_left l
  · cases h
end
/-! ### 3. A row's place; a look-up; an array's front as a slice; a copy into an element of an own row -/
section
variable {P : Program} {Q : Exit → Act → World → Prop} {n : Nat} {ops : Array Oper} {rest : List Oper} {o : Oper} {f : Fr} {w0 : Bs} {S : Sto} {d : Nat} {t kt et : TypeId} {r gl c q : Nat} {T : Ec α} {m : List (Int × α) × List α} {A : Option Addr}
theorem ls_rowlit (k : Nat) {l : List α} {lo : List Oper} (hS : S k = some (Ck.sl T A c l)) (h0 : 0 < l.length) (h : ∀ g, A = some ⟨g, 0, none⟩ → Ls P Q n ops lo f w0 (sput S k (some (Ck.sl T (some ⟨g, 0, none⟩) c l)))) : Ls P Q n ops lo f w0 S := fun a w ha hs => by
  have h1 := hs.holds k _ hS
  rcases h1.2 with ⟨hv, hn⟩ | ⟨g, cap, cur, hv, hg, hh, hc, r⟩
  · omega
  injection hv with hA _ _
  exact h g hA a w ha (by rw [← hA, sput_self hS]; exact hs)
theorem run_mrlook1 {w : World} (ht : P.underlying t = some (.map kt et)) (hkt : P.underlying kt = some (.int .i64)) (hz : (P.info? et).map (·.zero) = some (some (.agg ⟨T.E T.d⟩))) {l : List (Int × α)} {es : Array MapEntry} {clock : Nat} (hm : mpv T l es.toList clock) (hh : w.heap[r]? = some (.map es clock)) (x : Int) :
    (Instr.lookup t (.map (some r)) (.int .i64 x) false).run P w = .ok (.agg ⟨T.E ((mget x l).getD T.d)⟩) w := by
  obtain ⟨i, hi, hi2⟩ := Option.map_eq_some_iff.1 hz
  unfold Instr.lookup
  rcases find_mp T x l es.toList 0 hm.1 with ⟨h1, h2, _⟩ | ⟨v, j, h1, _, h2, _⟩
  · simp [run_underlying ht, Result.andThen, MapKept.run_getObj_map hh, MapKept.run_checkKey hkt (isKey_int rfl x), MapKept.run_findKey hkt h2, zeroValue, typeInfo, hi, hi2, h1]
  · simp [run_underlying ht, Result.andThen, MapKept.run_getObj_map hh, MapKept.run_checkKey hkt (isKey_int rfl x), MapKept.run_findKey hkt h2, h1]
theorem ls_mrlook1 (k : Nat) {i : Int} (hg : o.guard = none) (hd : o.dst = some d) (hn : Nat.blt d n = true) {y z : Operand} (ho : o.op = .lookup t y z false) (hx : ev f y = .map (some r)) (hy : ev f z = .int .i64 i) (ht : P.underlying t = some (.map kt et)) (hkt : P.underlying kt = some (.int .i64)) (hz : (P.info? et).map (·.zero) = some (some (.agg ⟨T.E T.d⟩))) (hS : S k = some (Ck.mr T r gl c q m))
    (h : Ls P Q n ops rest (upd f d (.agg ⟨T.E ((mget i m.1).getD T.d)⟩)) w0 S) : Ls P Q n ops (o :: rest) f w0 S :=
  ls_read hg hd hn (fun w hs => by
    obtain ⟨es, cl, h1, h2⟩ := hs.mrm hS
    unfold execOp
    rw [ho]
    refine lift_v ?_
    rw [hx, hy]
    exact run_mrlook1 ht hkt hz h1 h2 i) h
/-- The front of an array that lies somewhere, as a slice. -/
theorem ls_acut {ad : Addr} {N b : Nat} {e : TypeId} {z : Nat} {kh : IntKind} (hg : o.guard = none) (hd : o.dst = some d) (hn : Nat.blt d n = true) {x hi : Operand} (ho : o.op = .slice t x none (some hi) none) (hx : ev f x = .pointer (some ad)) (hh : ev f hi = .int kh (b : Int)) (ht : P.underlying t = some (.array N e)) (hz : (P.info? e).map (·.size) = some z) (hb : b ≤ N)
    (h : Ls P Q n ops rest (upd f d (.slice (some ad) b N)) w0 S) : Ls P Q n ops (o :: rest) f w0 S :=
  ls_val hg hd hn (fun w => by
    obtain ⟨q, hq, hq1⟩ := Option.map_eq_some_iff.1 hz
    unfold execOp
    rw [ho]
    refine lift_v ?_
    have hbd : (Instr.sliceBounds false N N none (some (.int kh (b : Int))) none).run P w = .ok (0, b, N) w := by
      simp [Instr.sliceBounds, run_bound hb]
    simp only [Option.map_some, Option.map_none, hx, hh]
    have hadd : ad.add 0 = ad := by unfold Addr.add; simp
    by_cases hN : N = 0
    · subst hN
      simp [Instr.sliceAt, run_underlying ht, Instr.sureAddr, hbd, sizeOf, typeInfo, hq]
    · simp [Instr.sliceAt, run_underlying ht, Instr.sureAddr, hbd, sizeOf, typeInfo, hq, hN, hadd]) h
theorem acut_he (ad : Addr) (b N z : Nat) : Value.slice (some ad) b N = Value.slice (if N = 0 then some ad else (some ad).map (·.add (0 * z))) (b - 0) (N - 0) := by
  have hadd : ad.add 0 = ad := by unfold Addr.add; simp
  by_cases hN : N = 0 <;> simp [hN, hadd]
/-- A whole array that lies somewhere, as a slice. -/
theorem ls_awhole {ad : Addr} {N : Nat} {e : TypeId} {z : Nat} (hg : o.guard = none) (hd : o.dst = some d) (hn : Nat.blt d n = true) {x : Operand} (ho : o.op = .slice t x none none none) (hx : ev f x = .pointer (some ad)) (ht : P.underlying t = some (.array N e)) (hz : (P.info? e).map (·.size) = some z)
    (h : Ls P Q n ops rest (upd f d (.slice (some ad) N N)) w0 S) : Ls P Q n ops (o :: rest) f w0 S :=
  ls_val hg hd hn (fun w => by
    obtain ⟨q, hq, hq1⟩ := Option.map_eq_some_iff.1 hz
    unfold execOp
    rw [ho]
    refine lift_v ?_
    have hbd : (Instr.sliceBounds false N N none none none).run P w = .ok (0, N, N) w := by
      simp [Instr.sliceBounds]
    simp only [Option.map_none, hx]
    have hadd : ad.add 0 = ad := by unfold Addr.add; simp
    by_cases hN : N = 0
    · subst hN
      simp [Instr.sliceAt, run_underlying ht, Instr.sureAddr, hbd, sizeOf, typeInfo, hq]
    · simp [Instr.sliceAt, run_underlying ht, Instr.sureAddr, hbd, sizeOf, typeInfo, hq, hN, hadd]) h
theorem ls_mrcopy {β : Type} (E : β → Value) (k : Nat) (hg : o.guard = none) {x y : Operand} {off N cx cb : Nat} {B : Option Addr} {u e : TypeId} {l : List β} {v : Vc β N} {l' : List α} (ho : o.op = .call { callee := .builtin .copy, args := #[x, y], argTypes := #[t, u] }) (hx : ev f x = .slice (some ((⟨gl, 0, none⟩ : Addr).add off)) N cx) (hy : ev f y = .slice B l.length cb) (hS : S k = some (Ck.mr T r gl c q m))
    (ht : P.underlying t = some (.slice e)) (hz : (P.info? e).map (·.size) = some 1) (hR : ∀ w, St w0 S w → Rd w B (en E l)) (hE : ∀ x, (E x).oneCell' = true) (hsub : Sub4 (em T m.2) off (en E v.1)) (hres : splc (em T m.2) off (en E (vcopy v l).1) = em T l') (hll : l'.length = m.2.length)
    (hd : o.dst = some d) (hn : Nat.blt d n = true) (h : Ls P Q n ops rest (upd f d (.int .i64 ((min l.length N : Nat) : Int))) w0 (sput S k (some (Ck.mr T r gl c q (m.1, l'))))) : Ls P Q n ops (o :: rest) f w0 S :=
  ls_op hg fun a w ha hs => op_wp ha (by
    obtain ⟨⟨es, cl, q1, q2⟩, ⟨hlen, hrow⟩, q7, q8⟩ := hs.holds k _ hS
    rcases hrow with ⟨hv', _⟩ | ⟨g, cap, cur', hv', hb, hob, hc1, hc2, hc3, hc4⟩
    · injection hv' with hv'
      cases hv'
    injection hv' with hv1 hv2 hv3
    have hgg : gl = g := by injection hv1 with hv1; injection hv1
    subst hgg
    subst hv3
    subst q7
    have hcap : m.2.length * T.z ≤ c * T.z := Nat.mul_le_mul_right _ hc1
    have hv := v.2
    have hle := hsub.len
    rw [en_length, hv, em_length] at hle
    have hl0 : 0 + (en E (l.take N)).length ≤ (en E v.1).length := by rw [en_length, en_length, hv]; simp; omega
    have hsp : splc (em T m.2) off (en E (l.take N)) = em T l' := by
      have := splc_in hsub (splc_copy E v l) hres hl0
      rwa [Nat.add_zero] at this
    have hcl : cur'.toList.length = c * T.z := by simpa using hc3
    have e2 : (en E (l.take N)).length = min l.length N := by simp [en, Nat.min_comm]
    obtain ⟨w', hrun, hst⟩ : ∃ w', (Builtin.copy_ #[t, u] o.type #[.slice (some ((⟨gl, 0, none⟩ : Addr).add off)) N cx, .slice B l.length cb]).run P w = .ok (.int .i64 ((min l.length N : Nat) : Int)) w' ∧ St w0 (sput S k (some (Ck.mr T r gl c m.2.length (m.1, l')))) w' := by
      cases B with
      | none =>
        have hl : l = [] := by
          cases l with
          | nil => rfl
          | cons x r => obtain ⟨ad, e1, _⟩ := hR w hs 0 _ rfl; cases e1
        subst hl
        have e1 : em T l' = em T m.2 := by rw [← hsp]; simp [splc, en]
        obtain ⟨q, hq, hq1⟩ := Option.map_eq_some_iff.1 hz
        refine ⟨w, by rw [add0]; simp [Builtin.copy_, run_underlying ht, sizeOf, typeInfo, hq, Builtin.lenOf, Builtin.firstCells, storeCells, goInt], ?_⟩
        refine hs.set (c' := Ck.mr T r gl c m.2.length (m.1, l')) hS rfl rfl rfl (Nat.le_refl _) (fun _ _ _ => rfl) ⟨⟨es, cl, q1, q2⟩, ?_, hll, q8⟩ (fun k hk => .inl hk)
        show w.ownsRow 0 T.t T.z (.slice (some ⟨gl, 0, none⟩) m.2.length c) m.2.length (em T l')
        rw [e1]
        exact ⟨hlen, .inr ⟨gl, c, cur', rfl, hb, hob, hc1, hc2, hc3, hc4⟩⟩
      | some ad =>
        have h1 := run_copy_row (P := P) w t u o.type e gl off N cx ad l.length cb cur' T.t (en E (l.take N)) ht hz hob (by simp [en, Nat.min_comm]) (fun j v hj => by
          have hj' : (en E l)[j]? = some v := by
            rw [show en E (l.take N) = (en E l).take N by simp [en], List.getElem?_take] at hj
            split at hj
            · exact hj
            · cases hj
          obtain ⟨ad', e1, hc⟩ := hR w hs j v hj'
          obtain rfl := Option.some.inj e1
          exact hc) (by rw [e2]; have : cur'.size = c * T.z := hc3; have := Nat.min_le_right l.length N; omega) (one_en hE _)
        refine ⟨_, by rw [add0, h1, show goInt ((en E (l.take N)).length : Int) = .int .i64 ((min l.length N : Nat) : Int) from by rw [e2]; rfl], ?_⟩
        have htk : (cur'.toList.take off ++ en E (l.take N) ++ cur'.toList.drop (off + (en E (l.take N)).length)).take (m.2.length * T.z) = em T l' := by
          rw [← hsp]
          apply List.ext_getElem?
          intro j
          have hle2 : off + (en E (l.take N)).length ≤ m.2.length * T.z := by rw [e2]; have := Nat.min_le_right l.length N; omega
          have hsl : (splc (em T m.2) off (en E (l.take N))).length = m.2.length * T.z := by rw [splc_length (by rw [em_length]; exact hle2), em_length]
          by_cases hj : j < m.2.length * T.z
          · rw [List.getElem?_take, if_pos hj]
            have e1 : cur'.toList.take off ++ en E (l.take N) ++ cur'.toList.drop (off + (en E (l.take N)).length) = splc cur'.toList off (en E (l.take N)) := rfl
            rw [e1, splc_get (by omega), splc_get (by rw [em_length]; exact hle2)]
            have e2 : ∀ i, i < m.2.length * T.z → cur'.toList[i]? = (em T m.2)[i]? := fun i hi => by
              rw [← hc4, List.getElem?_take, if_pos hi]
            by_cases c1 : j < off
            · rw [if_pos c1, if_pos c1, e2 j hj]
            · rw [if_neg c1, if_neg c1]
              by_cases c2 : j < off + (en E (l.take N)).length
              · rw [if_pos c2, if_pos c2]
              · rw [if_neg c2, if_neg c2, e2 j hj]
          · rw [List.getElem?_eq_none (by simp only [List.length_take, List.length_append, List.length_drop]; omega), List.getElem?_eq_none (by omega)]
        have hoth : ∀ k, k ≠ gl → (w.setRow gl (cur'.toList.take off ++ en E (l.take N) ++ cur'.toList.drop (off + (en E (l.take N)).length)).toArray).heap[k]? = w.heap[k]? := fun k hk => setRow_other w gl k _ hk
        refine hs.set (c' := Ck.mr T r gl c m.2.length (m.1, l')) hS rfl rfl rfl (by simp [World.setRow]) (fun j hj hne => hoth j (fun e1 => hne (by simp [Ck.mr, e1]))) ⟨⟨es, cl, q1, by rw [hoth r q8]; exact q2⟩, ⟨by rw [em_length, hll], .inr ⟨gl, c, _, rfl, Nat.zero_le _, setRow_heap w gl cur' _ T.t _ hob, hc1, hc2, ?_, ?_⟩⟩, hll, q8⟩ (fun k hk => .inl hk)
        · have : (cur'.toList.take off ++ en E (l.take N) ++ cur'.toList.drop (off + (en E (l.take N)).length)).length = c * T.z := by
            simp only [List.length_append, List.length_take, List.length_drop, e2]
            have := Nat.min_le_right l.length N
            omega
          simpa using this
        · simpa using htk
    unfold execOp
    simp only [ho, resolve, invoke, builtin, Sem.run_bind, Sem.run_pure, Result.andThen_ok, List.map_toArray, List.map_cons, List.map_nil, hx, hy, hrun]
    show wpList P ops Q rest (a.put o.dst _) _
    rw [hd]
    exact h _ _ (ha.put hn _) hst)
end
end Go.Proofs.Ytbidihabicgedaa.Sx
