/- Small lemmas for a walk: a text's bytes as a row that is written; bytes that are sought and compared; no condition. -/
import Derived.Test.YthhhkphbhlafbaaSm
import Derived.Laws.IdiomCopy
import Derived.Laws.Externs
import Derived.Deep.Upon
import GoSem.Extern.BytealgCompare
set_option linter.unusedVariables false
set_option linter.unusedSimpArgs false
namespace Go.Proofs.Ythhhkphbhlafbaa.Sx
open Go Go.RowKit
variable {α : Type}
/-! ### 1. A row none of whose cells is frozen -/
def bth (T : Ec α) (A : Option Addr) (c : Nat) (l : List α) (w : World) : Prop :=
  ∃ g cur fr, A = some ⟨g, 0, none⟩ ∧ w.heap[g]? = some (.cells cur T.t fr) ∧ cur.size ≤ fr.1 ∧ l.length ≤ c ∧ l.length * T.z ≤ cur.size ∧ cur.toList.take (l.length * T.z) = em T l
def Ck.bt (T : Ec α) (A : Option Addr) (c : Nat) (l : List α) : Ck where
  key := (A.map (·.block)).toList
  holds := bth T A c l
  stable := fun w w' h hk => by
    obtain ⟨g, cur, fr, rfl, h2, h3⟩ := h
    exact ⟨g, cur, fr, rfl, by rw [hk g (by simp)]; exact h2, h3⟩
  bound := fun w h k hk => by
    obtain ⟨g, cur, fr, rfl, h2, h3⟩ := h
    obtain rfl : k = g := by simpa using hk
    exact (Array.getElem?_eq_some_iff.1 h2).1
theorem bth_rd {T : Ec α} {A : Option Addr} {c : Nat} {l : List α} {w : World} (h : bth T A c l w) : Rd w A (em T l) := fun j u hj => by
  obtain ⟨g, cur, fr, rfl, h2, h3, h4, h5, h6⟩ := h
  refine ⟨_, rfl, ?_⟩
  rw [add0]
  rw [← h6, List.getElem?_take] at hj
  split at hj
  · rw [Array.getElem?_toList] at hj
    simp [World.cell?, h2, hj]
  · cases hj
theorem heap_setCells (g : Nat) (t : TypeId) (fr : Nat × Nat) : ∀ (vs : List Value) (o : Nat) (cur : Array Value) (w : World), w.heap[g]? = some (.cells cur t fr) → o + vs.length ≤ cur.size → (w.setCells g o vs).heap[g]? = some (.cells (cur.toList.take o ++ vs ++ cur.toList.drop (o + vs.length)).toArray t fr)
  | [], o, cur, w, h, _ => by
    show w.heap[g]? = _
    rw [h]
    simp
  | v :: r, o, cur, w, h, hl => by
    have hl' : o + (r.length + 1) ≤ cur.size := hl
    have h1 : (w.setCell ⟨g, o, none⟩ v).heap[g]? = some (.cells (cur.setIfInBounds o v) t fr) := by
      simp [World.setCell, Array.getElem?_modify, h]
    rw [World.setCells, heap_setCells g t fr r (o + 1) (cur.setIfInBounds o v) _ h1 (by simp; omega)]
    congr 3
    have e : (cur.setIfInBounds o v).toList = cur.toList.take o ++ v :: cur.toList.drop (o + 1) := by
      rw [Array.toList_setIfInBounds, List.set_eq_take_append_cons_drop, if_pos (by simp; omega)]
    rw [e]
    have hlo : (cur.toList.take o).length = o := by simp; omega
    have e2 : (cur.toList.take o ++ v :: cur.toList.drop (o + 1)).take (o + 1) = cur.toList.take o ++ [v] := by
      rw [List.take_append, hlo, List.take_of_length_le (by omega), Nat.add_sub_cancel_left]
      rfl
    rw [e2]
    rw [List.drop_append, hlo, List.drop_of_length_le (by omega), List.nil_append, show o + 1 + r.length - o = r.length + 1 by omega, List.drop_succ_cons, List.drop_drop]
    simp only [List.append_assoc, List.singleton_append, List.cons_append, List.length_cons, List.nil_append]
    rw [show o + 1 + r.length = o + (r.length + 1) by omega]
section
variable {P : Program} {Q : Exit → Act → World → Prop} {n : Nat} {ops : Array Oper} {rest : List Oper} {o : Oper} {f : Fr} {w0 : Bs} {S : Sto} {d : Nat} {t ty e : TypeId} {T : Ec α} {A : Option Addr} {c : Nat} {l l' : List α} {off : Nat} {v : Value} {vs : List Value}
theorem Ck.bt_key : ∀ ad, A = some ad → ad.block ∈ (Ck.bt T A c l).key := fun ad e => by simp [Ck.bt, e]
theorem St.btrd {w : World} (h : St w0 S w) {k : Nat} (hk : S k = some (Ck.bt T A c l)) : Rd w A (em T l) := bth_rd (h.holds k _ hk)
theorem St.btcap {w : World} (h : St w0 S w) {k : Nat} (hk : S k = some (Ck.bt T A c l)) : l.length ≤ c := by
  obtain ⟨_, _, _, _, _, _, h4, _⟩ := h.holds k _ hk
  exact h4
theorem ls_capbt {tk : Nat} {lo : List Oper} (hS : S tk = some (Ck.bt T A c l)) (h : l.length ≤ c → Ls P Q n ops lo f w0 S) : Ls P Q n ops lo f w0 S := fun a w ha hs => h (hs.btcap hS) a w ha hs
theorem ls_atbt {tk : Nat} {i : Int} {lo : List Oper} (hS : S tk = some (Ck.bt T A c l)) (h0 : 0 ≤ i) (h1 : i < (l.length : Int)) (h : ∀ ad, A = some ad → Ls P Q n ops lo f w0 S) : Ls P Q n ops lo f w0 S := ls_atr (fun w hs => hs.btrd hS) h0 h1 h
theorem ls_storebt (T : Ec α) (k : Nat) (hg : o.guard = none) (hd : o.dst = none) {x y : Operand} {ad : Addr} (ho : o.op = .store t x y) (hA : A = some ad) (hx : ev f x = .pointer (some (ad.add off))) (hy : ev f y = v) (hv : v.cells = ⟨vs⟩) (hS : S k = some (Ck.bt T A c l)) {z : Nat} (hz : (P.info? t).map (·.size) = some z) (hl : vs.length = z)
    (h1 : ∀ u ∈ vs, u.oneCell' = true) (hle : off + vs.length ≤ (em T l).length) (hc : splc (em T l) off vs = em T l') (hll : l'.length = l.length) (h : Ls P Q n ops rest f w0 (sput S k (some (Ck.bt T A c l')))) : Ls P Q n ops (o :: rest) f w0 S :=
  ls_op hg fun a w ha hs => op_wp ha (by
    obtain ⟨g, cur, fr, hgA, hob, hfr, hc1, hc2, hc4⟩ := hs.holds k _ hS
    rw [hgA] at hA
    obtain rfl := Option.some.inj hA
    rw [em_length] at hle
    obtain ⟨q, hq, hq1⟩ := Option.map_eq_some_iff.1 hz
    have hcell : ∀ j, j < cur.size → w.cell? ⟨g, j, none⟩ = some cur[j]! := fun j hj => by simp [World.cell?, hob, hj]
    have hst := run_storeCells_cells (P := P) g off vs 0 w (fun j hj => by rw [Nat.add_zero, hcell _ (by omega)]; rfl) (fun j hj => by simp [World.frozen?, hob]; omega) h1
    have hrun : (Instr.storeAt t (.pointer (some ((⟨g, 0, none⟩ : Addr).add off))) v).run P w = .ok () (w.setCells g off vs) := by
      have hsz : v.cells.size = q.size := by rw [hv, hq1, ← hl]; rfl
      have hvl : v.cells.toList = vs := by rw [hv]
      simp only [Nat.add_zero] at hst
      simp [Instr.storeAt, Instr.sureAddr, storeVar, sizeOf, typeInfo, hq, hsz, hvl, hst, add0]
    unfold execOp
    rw [ho]
    simp only [hx, hy]
    rw [lift_u hrun]
    show wpList P ops Q rest (a.put o.dst undef) _
    rw [hd]
    have hcl : cur.toList.length = cur.size := by simp
    have hnew := heap_setCells g T.t fr vs off cur w hob (by omega)
    have hlen : (cur.toList.take off ++ vs ++ cur.toList.drop (off + vs.length)).length = cur.size := by
      simp only [List.length_append, List.length_take, List.length_drop, hcl]
      omega
    have htk : (cur.toList.take off ++ vs ++ cur.toList.drop (off + vs.length)).take (l.length * T.z) = em T l' := by
      rw [← hc]
      apply List.ext_getElem?
      intro j
      have hsl : (splc (em T l) off vs).length = l.length * T.z := by rw [splc_length (by rw [em_length]; exact hle), em_length]
      by_cases hj : j < l.length * T.z
      · rw [List.getElem?_take, if_pos hj]
        have e1 : cur.toList.take off ++ vs ++ cur.toList.drop (off + vs.length) = splc cur.toList off vs := rfl
        rw [e1, splc_get (by omega), splc_get (by rw [em_length]; exact hle)]
        have e2 : ∀ i, i < l.length * T.z → cur.toList[i]? = (em T l)[i]? := fun i hi => by
          rw [← hc4, List.getElem?_take, if_pos hi]
        by_cases c1 : j < off
        · rw [if_pos c1, if_pos c1, e2 j hj]
        · rw [if_neg c1, if_neg c1]
          by_cases c2 : j < off + vs.length
          · rw [if_pos c2, if_pos c2]
          · rw [if_neg c2, if_neg c2, e2 j hj]
      · rw [List.getElem?_eq_none (by rw [List.length_take, hlen]; omega), List.getElem?_eq_none (by omega)]
    have hkept := World.keptBut_setCells g (may := fun p => p.block = g) vs off w (fun _ _ => rfl)
    refine h a _ ha (hs.set (c' := Ck.bt T A c l') hS (World.os_setCells w g off vs) (by
      have : ∀ (vs : List Value) (o : Nat) (w : World), (w.setCells g o vs).tape = w.tape := by
        intro vs
        induction vs with
        | nil => intro o w; rfl
        | cons v r ih => intro o w; exact (ih (o + 1) _).trans rfl
      exact this vs off w) (World.output_setCells w g off vs) (by
      have : ∀ (vs : List Value) (o : Nat) (w : World), (w.setCells g o vs).heap.size = w.heap.size := by
        intro vs
        induction vs with
        | nil => intro o w; rfl
        | cons v r ih => intro o w; exact (ih (o + 1) _).trans (by simp [World.setCell])
      rw [this]; exact Nat.le_refl _) (fun j hj hne => World.heap_setCells_other w g off vs hj (fun e1 => hne (by simp [Ck.bt, hgA, e1]))) ⟨g, _, fr, hgA, hnew, ?_, by rw [hll]; exact hc1, ?_, ?_⟩ (fun j hj => .inl hj))
    · rw [List.size_toArray, hlen]; exact hfr
    · rw [List.size_toArray, hlen, hll]; exact hc2
    · rw [hll]; exact htk)
/-- A text's bytes, as a row that may be written. -/
theorem ls_bytesbt (k : Nat) (hg : o.guard = none) (hd : o.dst = some d) (hn : Nat.blt d n = true) {x : Operand} {s : ByteArray} (ho : o.op = .convert t ty x) (hx : ev f x = .string s) {u : TypeDesc} (ht : P.underlying t = some u) (hty : P.underlying ty = some (.slice e)) (he : P.underlying e = some (.int .u8))
    (h : ∀ A c, Ls P Q n ops rest (upd f d (.slice A (bl s).length c)) w0 (sput S k (some (Ck.bt (Ec.int e .u8) A c (bl s))))) : Ls P Q n ops (o :: rest) f w0 S :=
  ls_op hg fun a w ha hs => op_wp ha (by
    have hrun := Lib.run_convert_string_bytes (P := P) w t ty e s ht hty he
    have hcap : (bl s).length ≤ grownCap w s.size 0 e := by
      rw [bl_length]
      exact grownCap_ge w s.size 0 e
    unfold execOp
    rw [ho]
    simp only [hx]
    rw [lift_v hrun]
    show wpList P ops Q rest (a.put o.dst _) _
    rw [hd, ← bl_length s]
    have hz : (Ec.int e .u8).z = 1 := rfl
    have hsz : (Lib.bytesCells w e s).size = s.size + (grownCap w s.size 0 e - s.size) := by
      simp [Lib.bytesCells]
    refine h (some ⟨w.heap.size, 0, none⟩) _ _ _ (ha.put hn _) (hs.new (w' := Lib.bytesWorld w e s) (c := Ck.bt (Ec.int e .u8) (some ⟨w.heap.size, 0, none⟩) _ (bl s)) ⟨by unfold Lib.bytesWorld World.freeze; rw [if_neg (by decide)]; rfl, by unfold Lib.bytesWorld World.freeze; rw [if_neg (by decide)]; rfl, by unfold Lib.bytesWorld World.freeze; rw [if_neg (by decide)]; rfl, by rw [Lib.bytesWorld_size]; omega, fun j hj => Lib.bytesWorld_at_old w e s j hj⟩ k ⟨w.heap.size, _, _, rfl, Lib.bytesWorld_at_new w e s, Nat.le_refl _, by rw [bl_length] at hcap ⊢; exact hcap, ?_, ?_⟩ (fun j hj => Nat.le_of_eq (show j = w.heap.size by simpa [Ck.bt] using hj).symm))
    · rw [hz, Nat.mul_one, bl_length, hsz]; omega
    · rw [hz, Nat.mul_one, em_int]
      have e1 : (Lib.bytesCells w e s).toList = en (Value.int .u8) (bl s) ++ List.replicate (grownCap w s.size 0 e - s.size) (.int .u8 0) := by
        simp [Lib.bytesCells, en, bl]
      rw [e1, ← en_length (Value.int .u8) (bl s)]
      exact List.take_left)
end
/-! ### 2. Bytes that are sought, and compared -/
theorem run_loadBytes {P : Program} {w : World} : ∀ (l : List Int) (a : Addr) (acc : ByteArray), (∀ j u, (en (Value.int .u8) l)[j]? = some u → w.cell? (a.add j) = some u) → (Extern.Bytes.loadBytes a l.length acc).run P w = .ok ⟨acc.data ++ (l.map fun n => UInt8.ofNat n.toNat).toArray⟩ w
  | [], a, acc, _ => by simp [Extern.Bytes.loadBytes]
  | x :: r, a, acc, h => by
    have h0 : w.cell? a = some (.int .u8 x) := by
      have := h 0 _ rfl
      rwa [show a.add 0 = a by unfold Addr.add; simp] at this
    have hl : (load a).run P w = .ok (.int .u8 x) w := by simp [load, h0, Sem.run]
    have ih := run_loadBytes (P := P) (w := w) r (a.add 1) (acc.push x.toNat.toUInt8) (fun j u hj => by
      rw [add_add]
      have := h (1 + j) u (by rw [Nat.add_comm]; exact hj)
      exact this)
    simp only [List.length_cons, Extern.Bytes.loadBytes, Sem.run_bind, hl, Result.andThen_ok, ih]
    congr 2
    apply Array.ext'
    simp [ByteArray.push, Nat.toUInt8]
theorem run_bytesOf {P : Program} {w : World} {A : Option Addr} {c : Nat} {l : List Int} (h : Rd w A (en (Value.int .u8) l)) : (Extern.Bytes.bytesOf (.slice A l.length c)).run P w = .ok (strOfNums l) w := by
  cases A with
  | none =>
    have hl : l = [] := by
      cases l with
      | nil => rfl
      | cons x r => obtain ⟨ad, e1, _⟩ := h 0 _ rfl; cases e1
    subst hl
    rfl
  | some a =>
    have := run_loadBytes (P := P) (w := w) l a .empty (fun j u hj => by
      obtain ⟨ad, e1, hc⟩ := h j u hj
      obtain rfl := Option.some.inj e1
      exact hc)
    show (Extern.Bytes.loadBytes a l.length .empty).run P w = _
    rw [this]
    show Result.ok (⟨#[] ++ (l.map fun n => UInt8.ofNat n.toNat).toArray⟩ : ByteArray) w = _
    rw [Array.empty_append]
    rfl
def byidx (l : List Int) (c : Int) : Int := firstIdx (strOfNums l) c.toNat.toUInt8
def bcmp (l m : List Int) : Int := Extern.BytealgCompare.cmp (strOfNums l) (strOfNums m)
section
variable {P : Program} {Q : Exit → Act → World → Prop} {n : Nat} {ops : Array Oper} {rest : List Oper} {o : Oper} {f : Fr} {w0 : Bs} {S : Sto} {d : Nat} {A B : Option Addr} {c cb : Nat} {l m : List Int} {fid : FuncId} {fn : Func} {t : TypeId}
theorem ls_bidx {x : Int} (hg : o.guard = none) (hd : o.dst = some d) (hn : Nat.blt d n = true) (hr : ∀ w, (execOp (ev f) o).run P w = (callFunc fid #[.slice A l.length c, .int .u8 x]).run P w) (hf : P.funcs[fid]? = some fn) (h1 : (fn.name == "runtime.NumGoroutine") = false) (h2 : fn.body.isNone = true) (h3 : Extern.findNext fn = none) (h4 : Extern.find fn = some Extern.BytealgIndexByte.indexByte)
    (hR : ∀ w, St w0 S w → Rd w A (em (Ec.int t .u8) l)) (h : Ls P Q n ops rest (upd f d (.int .i64 (byidx l x))) w0 S) : Ls P Q n ops (o :: rest) f w0 S :=
  ls_read hg hd hn (fun w hs => by
    rw [hr, run_callFunc_extern hf h1 h2 h3 h4]
    have hb := run_bytesOf (P := P) (c := c) (by rw [← em_int t]; exact hR w hs)
    have : (Extern.BytealgIndexByte.indexByte #[.slice A l.length c, .int .u8 x]).run P w = .ok (.int .i64 (byidx l x)) w := by
      change Sem.run P (do
        let b ← Extern.Bytes.bytesOf (.slice A l.length c)
        let c' ← Extern.Bytes.asByte (.int .u8 x)
        match (List.range b.size).find? fun i => b[i]! == c' with
        | some i => pure (goInt i)
        | none => pure (goInt (-1))) w = _
      simp only [hb, Extern.Bytes.asByte, byidx, firstIdx, Sem.run_bind, Sem.run_pure, Result.andThen_ok]
      generalize List.find? (fun i => (strOfNums l)[i]! == x.toNat.toUInt8) (List.range (strOfNums l).size) = q
      cases q <;> rfl
    rw [this]
    rfl) h
theorem ls_bcmp (hg : o.guard = none) (hd : o.dst = some d) (hn : Nat.blt d n = true) (hr : ∀ w, (execOp (ev f) o).run P w = (callFunc fid #[.slice A l.length c, .slice B m.length cb]).run P w) (hf : P.funcs[fid]? = some fn) (h1 : (fn.name == "runtime.NumGoroutine") = false) (h2 : fn.body.isNone = true) (h3 : Extern.findNext fn = none) (h4 : Extern.find fn = some Extern.BytealgCompare.compare)
    (hR : ∀ w, St w0 S w → Rd w A (em (Ec.int t .u8) l)) (hR2 : ∀ w, St w0 S w → Rd w B (em (Ec.int t .u8) m)) (h : Ls P Q n ops rest (upd f d (.int .i64 (bcmp l m))) w0 S) : Ls P Q n ops (o :: rest) f w0 S :=
  ls_read hg hd hn (fun w hs => by
    rw [hr, run_callFunc_extern hf h1 h2 h3 h4]
    have hb := run_bytesOf (P := P) (c := c) (by rw [← em_int t]; exact hR w hs)
    have hb2 := run_bytesOf (P := P) (c := cb) (by rw [← em_int t]; exact hR2 w hs)
    have : (Extern.BytealgCompare.compare #[.slice A l.length c, .slice B m.length cb]).run P w = .ok (.int .i64 (bcmp l m)) w := by
      change Sem.run P (do pure (goInt (Extern.BytealgCompare.cmp (← Extern.Bytes.bytesOf (.slice A l.length c)) (← Extern.Bytes.bytesOf (.slice B m.length cb))))) w = _
      simp only [hb, hb2, bcmp, Sem.run_bind, Sem.run_pure, Result.andThen]
      rfl
    rw [this]
    rfl) h
end
end Go.Proofs.Ythhhkphbhlafbaa.Sx
