/- Small lemmas for a walk: a row of the call's own that lies anywhere in its block; no condition. -/
import Derived.Test.YtiikfaefeonfhaaSm
import Derived.Deep.AppendSrc
import Derived.Deep.Upon
set_option linter.unusedVariables false
set_option linter.unusedSimpArgs false
namespace Go.Proofs.Ytiikfaefeonfhaa.Sx
open Go Go.RowKit
variable {α : Type}
def soh (T : Ec α) (A : Option Addr) (c : Nat) (l : List α) (w : World) : Prop :=
  (A = none ∧ l = [] ∧ c = 0) ∨ ∃ g off cur, A = some ⟨g, off, none⟩ ∧ w.heap[g]? = some (.cells cur T.t (0, 0)) ∧ l.length ≤ c ∧ off + c * T.z ≤ cur.size ∧ (cur.toList.drop off).take (l.length * T.z) = em T l
def Ck.so (T : Ec α) (A : Option Addr) (c : Nat) (l : List α) : Ck where
  key := (A.map (·.block)).toList
  holds := soh T A c l
  stable := fun w w' h hk => by
    rcases h with h | ⟨g, off, cur, rfl, h2, h3⟩
    · exact .inl h
    · exact .inr ⟨g, off, cur, rfl, by rw [hk g (by simp)]; exact h2, h3⟩
  bound := fun w h k hk => by
    rcases h with ⟨rfl, _⟩ | ⟨g, off, cur, rfl, h2, h3⟩
    · simp at hk
    · obtain rfl : k = g := by simpa using hk
      exact (Array.getElem?_eq_some_iff.1 h2).1
theorem soh_rd {T : Ec α} {A : Option Addr} {c : Nat} {l : List α} {w : World} (h : soh T A c l w) : Rd w A (em T l) := fun j u hj => by
  rcases h with ⟨_, rfl, _⟩ | ⟨g, off, cur, rfl, h2, h3, h4, h5⟩
  · simp [em] at hj
  · refine ⟨_, rfl, ?_⟩
    rw [addo]
    rw [← h5, List.getElem?_take] at hj
    split at hj
    · rw [List.getElem?_drop, Array.getElem?_toList] at hj
      simp [World.cell?, h2, hj]
    · cases hj
theorem soh_cap {T : Ec α} {A : Option Addr} {c : Nat} {l : List α} {w : World} (h : soh T A c l w) : l.length ≤ c := by
  rcases h with ⟨_, rfl, _⟩ | ⟨g, off, cur, rfl, h2, h3, h4, h5⟩
  · exact Nat.zero_le _
  · exact h3
theorem soh_own {T : Ec α} {A : Option Addr} {c : Nat} {l : List α} {w : World} (h : (Ck.sl T A c l).holds w) : soh T A c l w := by
  rcases h.2 with ⟨hv, hn⟩ | ⟨g, cap, cur, hv, hb, hob, hc1, hc2, hc3, hc4⟩
  · injection hv with h1 h2 h3
    exact .inl ⟨h1, List.eq_nil_of_length_eq_zero hn, h3⟩
  · injection hv with h1 h2 h3
    subst h3
    exact .inr ⟨g, 0, cur, h1, hob, hc1, by rw [Nat.zero_add, hc3]; exact Nat.le_refl _, by rw [List.drop_zero]; exact hc4⟩
theorem soh_cut {T : Ec α} {A : Option Addr} {c a : Nat} {l m : List α} {w : World} (h : soh T A c l w) (ha : a ≤ l.length) (hm : l.drop a = m) {A' : Option Addr} {c' k : Nat} (he : Value.slice (if c = a then A else A.map (·.add (a * T.z))) (l.length - a) (c - a) = .slice A' k c') : soh T A' c' m w ∧ ∀ q ∈ (A'.map (·.block)).toList, q ∈ (A.map (·.block)).toList := by
  injection he with e1 e2 e3
  subst hm
  rcases h with ⟨rfl, rfl, rfl⟩ | ⟨g, off, cur, rfl, h2, h3, h4, h5⟩
  · have ha0 : a = 0 := by simpa using ha
    subst ha0
    rw [if_pos rfl] at e1
    subst e1; subst e3
    exact ⟨.inl ⟨rfl, rfl, rfl⟩, fun q hq => hq⟩
  · by_cases hca : c = a
    · rw [if_pos hca] at e1
      subst e1
      have hl : l.drop a = [] := List.drop_of_length_le (by omega)
      refine ⟨.inr ⟨g, off, cur, rfl, h2, by rw [hl]; exact Nat.zero_le _, ?_, by rw [hl]; simp [em]⟩, fun q hq => hq⟩
      rw [← e3, hca, Nat.sub_self, Nat.zero_mul]
      omega
    · rw [if_neg hca, Option.map_some, addo] at e1
      subst e1
      refine ⟨.inr ⟨g, off + a * T.z, cur, rfl, h2, by simp; omega, ?_, ?_⟩, fun q hq => by simpa using hq⟩
      · rw [← e3]
        have : (c - a) * T.z + a * T.z = c * T.z := by rw [← Nat.add_mul]; congr 1; omega
        omega
      · rw [List.length_drop, em_drop, ← h5, ← List.drop_drop]
        rw [List.drop_take]
        congr 1
        rw [Nat.sub_mul]
section
variable {P : Program} {Q : Exit → Act → World → Prop} {n : Nat} {ops : Array Oper} {rest : List Oper} {o : Oper} {f : Fr} {w0 : Bs} {S : Sto} {d : Nat} {t e : TypeId} {T : Ec α} {A : Option Addr} {c : Nat} {l m : List α}
theorem Ck.so_key : ∀ ad, A = some ad → ad.block ∈ (Ck.so T A c l).key := fun ad e => by simp [Ck.so, e]
theorem St.sord {w : World} (h : St w0 S w) {k : Nat} (hk : S k = some (Ck.so T A c l)) : Rd w A (em T l) := soh_rd (h.holds k _ hk)
theorem St.socap {w : World} (h : St w0 S w) {k : Nat} (hk : S k = some (Ck.so T A c l)) : l.length ≤ c := soh_cap (h.holds k _ hk)
theorem St.toso {w : World} (h : St w0 S w) {k : Nat} (hS : S k = some (Ck.sl T A c l)) : St w0 (sput S k (some (Ck.so T A c l))) w :=
  h.set hS rfl rfl rfl (Nat.le_refl _) (fun _ _ _ => rfl) (c' := Ck.so T A c l) (soh_own (h.holds k _ hS)) (fun q hq => .inl (by
    obtain ⟨ad, rfl, rfl⟩ : ∃ ad, A = some ad ∧ ad.block = q := by
      cases A with
      | none => simp [Ck.so] at hq
      | some ad => exact ⟨ad, rfl, by simpa [Ck.so, eq_comm] using hq⟩
    exact Ck.sl_key ad rfl))
theorem St.cutso {w : World} (h : St w0 S w) {k : Nat} (hS : S k = some (Ck.so T A c l)) {a : Nat} (ha : a ≤ l.length) (hm : l.drop a = m) {A' : Option Addr} {c' q : Nat} (he : Value.slice (if c = a then A else A.map (·.add (a * T.z))) (l.length - a) (c - a) = .slice A' q c') : St w0 (sput S k (some (Ck.so T A' c' m))) w :=
  have h1 := soh_cut (h.holds k _ hS) ha hm he
  h.set hS rfl rfl rfl (Nat.le_refl _) (fun _ _ _ => rfl) (c' := Ck.so T A' c' m) h1.1 (fun q hq => .inl (h1.2 q hq))
theorem cs_toso {y : Code} (k : Nat) (hS : S k = some (Ck.sl T A c l)) (h : Cs P Q n y f w0 (sput S k (some (Ck.so T A c l)))) : Cs P Q n y f w0 S := fun a w ha hs => h a w ha (hs.toso hS)
theorem qn_toso {Q : Exit → Act → World → Prop} (k : Nat) (hS : S k = some (Ck.sl T A c l)) (h : Qn Q n f w0 (sput S k (some (Ck.so T A c l)))) : Qn Q n f w0 S := fun a w ha hs => h a w ha (hs.toso hS)
theorem qn_cutso {Q : Exit → Act → World → Prop} (k : Nat) (hS : S k = some (Ck.so T A c l)) {a : Nat} (ha : a ≤ l.length) (hm : l.drop a = m) {A' : Option Addr} {c' q : Nat} (he : Value.slice (if c = a then A else A.map (·.add (a * T.z))) (l.length - a) (c - a) = .slice A' q c') (h : Qn Q n f w0 (sput S k (some (Ck.so T A' c' m)))) : Qn Q n f w0 S := fun a w haa hs => h a w haa (hs.cutso hS ha hm he)
theorem ls_capso {tk : Nat} {lo : List Oper} (hS : S tk = some (Ck.so T A c l)) (h : l.length ≤ c → Ls P Q n ops lo f w0 S) : Ls P Q n ops lo f w0 S := fun a w ha hs => h (hs.socap hS) a w ha hs
theorem ls_atso {tk : Nat} {i : Int} {lo : List Oper} (hS : S tk = some (Ck.so T A c l)) (h0 : 0 ≤ i) (h1 : i < (l.length : Int)) (h : ∀ ad, A = some ad → Ls P Q n ops lo f w0 S) : Ls P Q n ops lo f w0 S := ls_atr (fun w hs => hs.sord hS) h0 h1 h
theorem grown_so {w : World} {xs ys : List α} {k cap : Nat} {z : Value} (hz : z.cells.size = T.z) (hk : xs.length + ys.length = k) (hc : k ≤ cap) :
    soh T (some ⟨w.heap.size, 0, none⟩) cap (xs ++ ys) (w.drew.alloc (.cells ((em T xs).toArray ++ (em T ys).toArray ++ Builtin.zeroCells z.cells (cap - k)) T.t)) := by
  have hl : (xs ++ ys).length = k := by rw [List.length_append]; exact hk
  refine .inr ⟨w.heap.size, 0, _, rfl, heap_alloc_new w.drew _, by omega, ?_, ?_⟩
  · simp only [Array.size_append, List.size_toArray, size_zeroCells, hz, em_length, ← Nat.add_mul, Nat.zero_add]
    refine Nat.mul_le_mul_right _ ?_
    omega
  · simp only [List.drop_zero, Array.toList_append, List.append_assoc]
    rw [← List.append_assoc, ← em_append, ← em_length]
    exact List.take_left
theorem ls_appo {z : Value} {bytes cb : Nat} {B : Option Addr} (T : Ec α) {m : List α} (k : Nat) (hg : o.guard = none) (hd : o.dst = some d) (hn : Nat.blt d n = true) {s x : Operand} (ho : o.op = .call { callee := .builtin .append, args := #[s, x], argTypes := #[t, t] }) (hs : ev f s = .slice A l.length c) (hS : S k = some (Ck.so T A c l)) (hx : ev f x = .slice B m.length cb)
    (hR : ∀ w, St w0 S w → Rd w B (em T m)) (ht : P.underlying t = some (.slice T.t)) (hi : (P.info? T.t).map (fun i => (i.zero, i.size, i.bytes)) = some (some z, T.z, bytes)) (hz : z.cells.size = T.z) (hb0 : 0 < bytes) (hbytes : (l.length + m.length) * bytes ≤ 140737488355328) (hm0 : 0 < m.length)
    (h : ∀ A' c', Ls P Q n ops rest (upd f d (.slice A' (l ++ m).length c')) w0 (sput S k (some (Ck.so T A' c' (l ++ m))))) : Ls P Q n ops (o :: rest) f w0 S :=
  ls_op hg fun a w ha hst => by
    obtain ⟨i, hi, hzz⟩ := Option.map_eq_some_iff.1 hi
    simp only [Prod.mk.injEq] at hzz
    obtain ⟨hz0, hz1, hz2⟩ := hzz
    have hlen : l.length + m.length ≤ 140737488355328 := Nat.le_trans (Nat.le_mul_of_pos_right _ hb0) hbytes
    have hpos := T.pos
    obtain ⟨ad, rfl⟩ : ∃ ad, B = some ad := by
      have h0 : 0 < (em T m).length := by rw [em_length]; exact Nat.mul_pos hm0 hpos
      obtain ⟨ad, e1, _⟩ := hR w hst 0 _ (List.getElem?_eq_getElem h0)
      exact ⟨ad, e1⟩
    have hnew : ∀ j u, (em T m)[j]? = some u → w.cell? (ad.add j) = some u := fun j u hj => by
      obtain ⟨ad', e1, h1⟩ := hR w hst j u hj
      injection e1 with e1
      subst e1
      exact h1
    have hso := hst.holds k _ hS
    have hkl : ∀ c', (Ck.so T (some ⟨w.heap.size, 0, none⟩) c' (l ++ m)).key = [w.heap.size] := fun c' => rfl
    obtain ⟨A', c', w', h1, h2⟩ : ∃ A' c' w', (Builtin.append_ #[t, t] o.type #[.slice A l.length c, .slice (some ad) m.length cb]).run P w = .ok (.slice A' (l ++ m).length c') w' ∧ St w0 (sput S k (some (Ck.so T A' c' (l ++ m)))) w' := by
      have newblock : ∀ (cap : Nat), (l ++ m).length ≤ cap → St w0 (sput S k (some (Ck.so T (some ⟨w.heap.size, 0, none⟩) cap (l ++ m)))) (w.drew.alloc (.cells ((em T l).toArray ++ (em T m).toArray ++ Builtin.zeroCells z.cells (cap - (l.length + m.length))) T.t)) := fun cap hcap =>
        hst.set hS rfl rfl rfl (by simp) (fun q hq _ => heap_alloc_old w.drew _ q hq) (c' := Ck.so T (some ⟨w.heap.size, 0, none⟩) cap (l ++ m)) (grown_so hz rfl (by rw [← List.length_append]; exact hcap)) (fun q hq => .inr (by
          obtain rfl : q = w.heap.size := by simpa [Ck.so] using hq
          exact Nat.le_refl _))
      rcases hso with ⟨rfl, hl, rfl⟩ | ⟨g, off, cur, rfl, q2, q3, q4, q5⟩
      · subst hl
        have hr := run_append_nil (P := P) w t o.type T.t i z ht hi hz0 ad m.length cb (em T m) (by rw [hz1, em_length]) hnew hm0 (by omega) (by have hb := hbytes; simp only [List.length_nil, Nat.zero_add] at hb; rw [hz2]; omega)
        refine ⟨_, _, _, by simpa using hr, ?_⟩
        have := newblock (grownCap w m.length 0 T.t) (by simpa using grownCap_ge w m.length 0 T.t)
        simpa [em] using this
      · by_cases hroom : l.length + m.length ≤ c
        · have hfit : off + l.length * T.z + (em T m).length ≤ cur.size := by
            rw [em_length]
            have h9 : (l.length + m.length) * T.z ≤ c * T.z := Nat.mul_le_mul_right _ hroom
            rw [Nat.add_mul] at h9
            omega
          have hcell : ∀ j, j < cur.size → w.cell? ⟨g, j, none⟩ = some cur[j]! := fun j hj => by
            simp [World.cell?, q2, hj]
          have hr := run_append_room_src (P := P) w t t o.type T.t i ht hi g off l.length c (.slice (some ad) m.length cb) m.length (em T m) (Src.ofSlice w ht ad m.length cb (em T m) (by rw [em_length, hz1]) hnew (em_one T m)) hroom
            (fun j hj => by rw [hz1, hcell _ (by omega)]; rfl) (fun j hj => by simp [World.frozen?, q2])
          rw [hz1] at hr
          have hset : (w.setCells g (off + l.length * T.z) (em T m)) = w.setRow g (cur.toList.take (off + l.length * T.z) ++ em T m ++ cur.toList.drop (off + l.length * T.z + (em T m).length)).toArray := by
            have a1 := run_storeCells_at P g (off + l.length * T.z) T.t (em T m) 0 cur w q2 (by simpa using hfit) (em_one T m)
            have a2 := run_storeCells_cells (P := P) g (off + l.length * T.z) (em T m) 0 w (fun j hj => by rw [Nat.add_zero, hcell _ (by omega)]; rfl) (fun j hj => by simp [World.frozen?, q2]) (em_one T m)
            simp only [Nat.add_zero] at a1 a2
            have := a2.symm.trans a1
            injection this
          rw [hset] at hr
          refine ⟨some ⟨g, off, none⟩, c, w.setRow g (cur.toList.take (off + l.length * T.z) ++ em T m ++ cur.toList.drop (off + l.length * T.z + (em T m).length)).toArray, by rw [List.length_append]; exact hr, hst.set (w' := w.setRow g (cur.toList.take (off + l.length * T.z) ++ em T m ++ cur.toList.drop (off + l.length * T.z + (em T m).length)).toArray) hS rfl rfl rfl (by simp [World.setRow]) (fun q hq hne => setRow_other w g q _ (fun e => hne (by simp [Ck.so, e]))) (c' := Ck.so T (some ⟨g, off, none⟩) c (l ++ m)) (.inr ⟨g, off, _, rfl, setRow_heap w g cur _ T.t _ q2, by rw [List.length_append]; exact hroom, ?_, ?_⟩) (fun q hq => .inl hq)⟩
          · have hcl : cur.toList.length = cur.size := by simp
            have : (cur.toList.take (off + l.length * T.z) ++ em T m ++ cur.toList.drop (off + l.length * T.z + (em T m).length)).length = cur.size := by
              simp only [List.length_append, List.length_take, List.length_drop, hcl]
              omega
            simpa using (by omega : off + c * T.z ≤ (cur.toList.take (off + l.length * T.z) ++ em T m ++ cur.toList.drop (off + l.length * T.z + (em T m).length)).length)
          · have hcl : cur.toList.length = cur.size := by simp
            have e1 : (cur.toList.take (off + l.length * T.z)).drop off = em T l := by
              rw [List.drop_take, Nat.add_sub_cancel_left]; exact q5
            show ((cur.toList.take (off + l.length * T.z) ++ em T m ++ cur.toList.drop (off + l.length * T.z + (em T m).length)).toArray.toList.drop off).take ((l ++ m).length * T.z) = em T (l ++ m)
            rw [List.append_assoc, List.drop_append_of_le_length (by rw [List.length_take, hcl]; omega), e1, ← List.append_assoc, ← em_append, ← em_length]
            exact List.take_left
        · have hrd := soh_rd (T := T) (A := some ⟨g, off, none⟩) (c := c) (l := l) (w := w) (.inr ⟨g, off, cur, rfl, q2, q3, q4, q5⟩)
          have hold : ∀ j u, (em T l)[j]? = some u → w.cell? ((⟨g, off, none⟩ : Addr).add j) = some u := fun j u hj => by
            obtain ⟨ad', e1, h1⟩ := hrd j u hj
            injection e1 with e1
            subst e1
            exact h1
          have hr := run_append_grow (P := P) w t o.type T.t i z ht hi hz0 ⟨g, off, none⟩ l.length c (em T l) (by rw [em_length, hz1]) hold ad m.length cb (em T m) (by rw [em_length, hz1]) hnew (by omega) (by omega) (by rw [hz2]; exact growslice_fits (by omega) hbytes)
          exact ⟨_, _, _, by rw [List.length_append]; exact hr, newblock _ (by rw [List.length_append]; exact grownCap_ge w (l.length + m.length) c T.t)⟩
    refine op_wp ha ?_
    unfold execOp
    simp only [ho, resolve, invoke, builtin, Sem.run_bind, Sem.run_pure, Result.andThen_ok, List.map_toArray, List.map_cons, List.map_nil, hs, hx, h1]
    show wpList P ops Q rest (a.put o.dst _) w'
    rw [hd]
    exact h A' c' _ _ (ha.put hn _) h2
end
end Go.Proofs.Ytiikfaefeonfhaa.Sx
