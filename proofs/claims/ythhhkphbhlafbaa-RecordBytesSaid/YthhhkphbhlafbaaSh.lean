/- Small lemmas for a walk: a text's bytes as a row that is written; bytes that are sought and compared; no condition. -/
import Derived.Test.YthhhkphbhlafbaaSm
import Derived.Laws.IdiomCopy
import Derived.Laws.Externs
import Derived.Deep.Upon
import GoSem.Extern.BytealgCompare
set_option linter.unusedVariables false
set_option linter.unusedSimpArgs false
namespace Go.Proofs.Ythhhkphbhlafbaa.Sx
open Go Go.RowKit
variable {α : Type}
/-! ### 1. A row none of whose cells is frozen -/
def bth (T : Ec α) (A : Option Addr) (c : Nat) (l : List α) (w : World) : Prop :=
  ∃ g cur fr, A = some ⟨g, 0, none⟩ ∧ w.heap[g]? = some (.cells cur T.t fr) ∧ cur.size ≤ fr.1 ∧ l.length ≤ c ∧ l.length * T.z ≤ cur.size ∧ cur.toList.take (l.length * T.z) = em T l
def Ck.bt (T : Ec α) (A : Option Addr) (c : Nat) (l : List α) : Ck where
  key := (A.map (·.block)).toList
  holds := bth T A c l
  stable := fun w w' h hk => by
    obtain ⟨g, cur, fr, rfl, h2, h3⟩ := h
    exact ⟨g, cur, fr, rfl, by rw [hk g (by simp)]; exact h2, h3⟩
  bound := fun w h k hk => by
    obtain ⟨g, cur, fr, rfl, h2, h3⟩ := h
    obtain rfl : k = g := by simpa using hk
    exact (Array.getElem?_eq_some_iff.1 h2).1
theorem bth_rd {T : Ec α} {A : Option Addr} {c : Nat} {l : List α} {w : World} (h : bth T A c l w) : Rd w A (em T l) := fun j u hj => by
  obtain ⟨g, cur, fr, rfl, h2, h3, h4, h5, h6⟩ := h
  refine ⟨_, rfl, ?_⟩
  rw [add0]
  rw [← h6, List.getElem?_take] at hj
  split at hj
  · rw [Array.getElem?_toList] at hj
    simp [World.cell?, h2, hj]
  · cases hj
theorem heap_setCells (g : Nat) (t : TypeId) (fr : Nat × Nat) : ∀ (vs : List Value) (o : Nat) (cur : Array Value) (w : World), w.heap[g]? = some (.cells cur t fr) → o + vs.length ≤ cur.size → (w.setCells g o vs).heap[g]? = some (.cells (cur.toList.take o ++ vs ++ cur.toList.drop (o + vs.length)).toArray t fr)
  | [], o, cur, w, h, _ => by
    show w.heap[g]? = _
    rw [h]
    simp
  | v :: r, o, cur, w, h, hl => by
    have hl' : o + (r.length + 1) ≤ cur.size := hl
    have h1 : (w.setCell ⟨g, o, none⟩ v).heap[g]? = some (.cells (cur.setIfInBounds o v) t fr) := by
      simp [World.setCell, Array.getElem?_modify, h]
    rw [World.setCells, heap_setCells g t fr r (o + 1) (cur.setIfInBounds o v) _ h1 (by simp; omega)]
    congr 3
    have e : (cur.setIfInBounds o v).toList = cur.toList.take o ++ v :: cur.toList.drop (o + 1) := by
      rw [Array.toList_setIfInBounds, List.set_eq_take_append_cons_drop, if_pos (by simp; omega)]
    rw [e]
    have hlo : (cur.toList.take o).length = o := by simp; omega
    have e2 : (cur.toList.take o ++ v :: cur.toList.drop (o + 1)).take (o + 1) = cur.toList.take o ++ [v] := by
      rw [List.take_append, hlo, List.take_of_length_le (by omega), Nat.add_sub_cancel_left]
      rfl
    rw [e2]
    rw [List.drop_append, hlo, List.drop_of_length_le (by omega), List.nil_append, show o + 1 + r.length - o = r.length + 1 by omega, List.drop_succ_cons, List.drop_drop]
    simp only [List.append_assoc, List.singleton_append, List.cons_append, List.length_cons, List.nil_append]
    rw [show o + 1 + r.length = o + (r.length + 1) by omega]
section
variable {P : Program} {Q : Exit → Act → World → Prop} {n : Nat} {ops : Array Oper} {rest : List Oper} {o : Oper} {f : Fr} {w0 : Bs} {S : Sto} {d : Nat} {t ty e : TypeId} {T : Ec α} {A : Option Addr} {c : Nat} {l l' : List α} {off : Nat} {v : Value} {vs : List Value}
theorem St.btrd {w : World} (h : St w0 S w) {k : Nat} (hk : S k = some (Ck.bt T A c l)) : Rd w A (em T l) := bth_rd (h.holds k _ hk)
theorem ls_atbt {tk : Nat} {i : Int} {lo : List Oper} (hS : S tk = some (Ck.bt T A c l)) (h0 : 0 ≤ i) (h1 : i < (l.length : Int)) (h : ∀ ad, A = some ad → Ls P Q n ops lo f w0 S) : Ls P Q n ops lo f w0 S := ls_atr (fun w hs => hs.btrd hS) h0 h1 h
theorem ls_storebt (T : Ec α) (k : Nat) (hg : o.guard = none) (hd : o.dst = none) {x y : Operand} {ad : Addr} (ho : o.op = .store t x y) (hA : A = some ad) (hx : ev f x = .pointer (some (ad.add off))) (hy : ev f y = v) (hv : v.cells = ⟨vs⟩) (hS : S k = some (Ck.bt T A c l)) {z : Nat} (hz : (P.info? t).map (·.size) = some z) (hl : vs.length = z)
    (h1 : ∀ u ∈ vs, u.oneCell' = true) (hle : off + vs.length ≤ (em T l).length) (hc : splc (em T l) off vs = em T l') (hll : l'.length = l.length) (h : Ls P Q n ops rest f w0 (sput S k (some (Ck.bt T A c l')))) : Ls P Q n ops (o :: rest) f w0 S :=
  ls_op hg fun a w ha hs => op_wp ha (by
    obtain ⟨g, cur, fr, hgA, hob, hfr, hc1, hc2, hc4⟩ := hs.holds k _ hS
    rw [hgA] at hA
    obtain rfl := Option.some.inj hA
    rw [em_length] at hle
    obtain ⟨q, hq, hq1⟩ := Option.map_eq_some_iff.1 hz
    have hcell : ∀ j, j < cur.size → w.cell? ⟨g, j, none⟩ = some cur[j]! := fun j hj => by simp [World.cell?, hob, hj]
    have hst := run_storeCells_cells (P := P) g off vs 0 w (fun j hj => by rw [Nat.add_zero, hcell _ (by omega)]; rfl) (fun j hj => by simp [World.frozen?, hob]; omega) h1
    have hrun : (Instr.storeAt t (.pointer (some ((⟨g, 0, none⟩ : Addr).add off))) v).run P w = .ok () (w.setCells g off vs) := by
      have hsz : v.cells.size = q.size := by rw [hv, hq1, ← hl]; rfl
      have hvl : v.cells.toList = vs := by rw [hv]
      simp only [Nat.add_zero] at hst
      simp [Instr.storeAt, Instr.sureAddr, storeVar, sizeOf, typeInfo, hq, hsz, hvl, hst, add0]
    unfold execOp
    rw [ho]
    simp only [hx, hy]
    rw [lift_u hrun]
    show wpList P ops Q rest (a.put o.dst undef) _
    rw [hd]
    have hcl : cur.toList.length = cur.size := by simp
    have hnew := heap_setCells g T.t fr vs off cur w hob (by omega)
    have hlen : (cur.toList.take off ++ vs ++ cur.toList.drop (off + vs.length)).length = cur.size := by
      simp only [List.length_append, List.length_take, List.length_drop, hcl]
      omega
    have htk : (cur.toList.take off ++ vs ++ cur.toList.drop (off + vs.length)).take (l.length * T.z) = em T l' := by
      rw [← hc]
      apply List.ext_getElem?
      intro j
      have hsl : (splc (em T l) off vs).length = l.length * T.z := by rw [splc_length (by rw [em_length]; exact hle), em_length]
      by_cases hj : j < l.length * T.z
      · rw [List.getElem?_take, if_pos hj]
        have e1 : cur.toList.take off ++ vs ++ cur.toList.drop (off + vs.length) = splc cur.toList off vs := rfl
        rw [e1, splc_get (by omega), splc_get (by rw [em_length]; exact hle)]
        have e2 : ∀ i, i < l.length * T.z → cur.toList[i]? = (em T l)[i]? := fun i hi => by
          rw [← hc4, List.getElem?_take, if_pos hi]
        by_cases c1 : j < off
        · rw [if_pos c1, if_pos c1, e2 j hj]
        · rw [if_neg c1, if_neg c1]
          by_cases c2 : j < off + vs.length
          · rw [if_pos c2, if_pos c2]
          · rw [if_neg c2, if_neg c2, e2 j hj]
      · rw [List.getElem?_eq_none (by rw [List.length_take, hlen]; omega), List.getElem?_eq_none (by omega)]
    have hkept := World.keptBut_setCells g (may := fun p => p.block = g) vs off w (fun _ _ => rfl)
    refine h a _ ha (hs.set (c' := Ck.bt T A c l') hS (World.os_setCells w g off vs) (by
      have : ∀ (vs : List Value) (o : Nat) (w : World), (w.setCells g o vs).tape = w.tape := by
        intro vs
        induction vs with
        | nil => intro o w; rfl
        | cons v r ih => intro o w; exact (ih (o + 1) _).trans rfl
      exact this vs off w) (World.output_setCells w g off vs) (by
      have : ∀ (vs : List Value) (o : Nat) (w : World), (w.setCells g o vs).heap.size = w.heap.size := by
        intro vs
        induction vs with
        | nil => intro o w; rfl
        | cons v r ih => intro o w; exact (ih (o + 1) _).trans (by simp [World.setCell])
      rw [this]; exact Nat.le_refl _) (fun j hj hne => World.heap_setCells_other w g off vs hj (fun e1 => hne (by simp [Ck.bt, hgA, e1]))) ⟨g, _, fr, hgA, hnew, ?_, by rw [hll]; exact hc1, ?_, ?_⟩ (fun j hj => .inl hj))
    · rw [List.size_toArray, hlen]; exact hfr
    · rw [List.size_toArray, hlen, hll]; exact hc2
    · rw [hll]; exact htk)
/-- A text's bytes, as a row that may be written. -/
theorem ls_bytesbt (k : Nat) (hg : o.guard = none) (hd : o.dst = some d) (hn : Nat.blt d n = true) {x : Operand} {s : ByteArray} (ho : o.op = .convert t ty x) (hx : ev f x = .string s) {u : TypeDesc} (ht : P.underlying t = some u) (hty : P.underlying ty = some (.slice e)) (he : P.underlying e = some (.int .u8))
    (h : ∀ A c, Ls P Q n ops rest (upd f d (.slice A (bl s).length c)) w0 (sput S k (some (Ck.bt (Ec.int e .u8) A c (bl s))))) : Ls P Q n ops (o :: rest) f w0 S :=
  ls_op hg fun a w ha hs => op_wp ha (by
    have hrun := Lib.run_convert_string_bytes (P := P) w t ty e s ht hty he
    have hcap : (bl s).length ≤ grownCap w s.size 0 e := by
      rw [bl_length]
      exact grownCap_ge w s.size 0 e
    unfold execOp
    rw [ho]
    simp only [hx]
    rw [lift_v hrun]
    show wpList P ops Q rest (a.put o.dst _) _
    rw [hd, ← bl_length s]
    have hz : (Ec.int e .u8).z = 1 := rfl
    have hsz : (Lib.bytesCells w e s).size = s.size + (grownCap w s.size 0 e - s.size) := by
      simp [Lib.bytesCells]
    refine h (some ⟨w.heap.size, 0, none⟩) _ _ _ (ha.put hn _) (hs.new (w' := Lib.bytesWorld w e s) (c := Ck.bt (Ec.int e .u8) (some ⟨w.heap.size, 0, none⟩) _ (bl s)) ⟨by unfold Lib.bytesWorld World.freeze; rw [if_neg (by decide)]; rfl, by unfold Lib.bytesWorld World.freeze; rw [if_neg (by decide)]; rfl, by unfold Lib.bytesWorld World.freeze; rw [if_neg (by decide)]; rfl, by rw [Lib.bytesWorld_size]; omega, fun j hj => Lib.bytesWorld_at_old w e s j hj⟩ k ⟨w.heap.size, _, _, rfl, Lib.bytesWorld_at_new w e s, Nat.le_refl _, by rw [bl_length] at hcap ⊢; exact hcap, ?_, ?_⟩ (fun j hj => Nat.le_of_eq (show j = w.heap.size by simpa [Ck.bt] using hj).symm))
    · rw [hz, Nat.mul_one, bl_length, hsz]; omega
    · rw [hz, Nat.mul_one, em_int]
      have e1 : (Lib.bytesCells w e s).toList = en (Value.int .u8) (bl s) ++ List.replicate (grownCap w s.size 0 e - s.size) (.int .u8 0) := by
        simp [Lib.bytesCells, en, bl]
      rw [e1, ← en_length (Value.int .u8) (bl s)]
      exact List.take_left)
end
/-! ### 2. Bytes that are sought, and compared -/
section
variable {P : Program} {Q : Exit → Act → World → Prop} {n : Nat} {ops : Array Oper} {rest : List Oper} {o : Oper} {f : Fr} {w0 : Bs} {S : Sto} {d : Nat} {A B : Option Addr} {c cb : Nat} {l m : List Int} {fid : FuncId} {fn : Func} {t : TypeId}
end
end Go.Proofs.Ythhhkphbhlafbaa.Sx
