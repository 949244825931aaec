/- Laws of the walk, over any program: one operation by its run; make of a row, copy into a row and the way back from bytes to a string, each leaving a world of which the row and what has grown are known. No condition. -/
import Derived.WalkKit
import Derived.WalkLawsBesides
import Derived.Laws.CopyOwn
import Derived.Lib.BufferWrite
import Derived.Laws.Tables
import Derived.Laws.Rows
namespace Go.Proofs.YtpkgmoiffegbfaaDoor
open Go.RowKit

theorem hide {p : Prop} (h : p) : Hid p := h

section
variable {P : Program} {w : World} {ops : Array Oper} {rest : List Oper} {o : Oper} {a : Act} {Q : Exit → Act → World → Prop}

theorem wpList_run (hgd : o.guard = none) {v : Value} {w' : World} (hr : (execOp a.eval o).run P w = .ok (.value v) w')
    (h : wpList P ops Q rest (a.put o.dst v) w') : wpList P ops Q (o :: rest) a w := by
  refine wpList_plain hgd fun K hK => ?_
  unfold Oper.wp
  rw [hr]
  exact hK _ _ h

theorem madeCells_one (z : Value) (n : Nat) : madeCells #[z] n = (List.replicate n z).toArray := by
  apply Array.ext
  · simp [madeCells]
  · intro i h1 h2
    simp [madeCells, Nat.mod_one]

/-- 'make([]T, n)', T of one cell. -/
theorem law_make (hgd : o.guard = none) (l c : Operand) (t : TypeId) (hop : o.op = Op.makeSlice t l c)
    (e : TypeId) (z : Value) (bytes : Nat) (h1 : P.underlying t = some (.slice e)) (h2 : (P.info? e).map (fun i => (i.zero, i.size, i.bytes)) = some (some z, 1, bytes)) (hz : z.cells = #[z])
    (kl kc : IntKind) (L C : Int) (n : Nat) (hl : a.eval l = .int kl L) (hc : a.eval c = .int kc C) (hL : L = (n : Int)) (hC : C = (n : Int)) (b2 : bytes * n ≤ 281474976710656) (b3 : n ≤ 9223372036854775807)
    (hK : ∀ w', Hid (w'.heap[w.heap.size]? = some (.cells (List.replicate n z).toArray e (0, 0))) → w.grownBy w' none → w.heap.size < w'.heap.size → wpList P ops Q rest (a.put o.dst (.slice (some ⟨w.heap.size, 0, none⟩) n n)) w') :
    wpList P ops Q (o :: rest) a w := by
  obtain ⟨i, hi, hz0, hz1, hz2⟩ := info_parts h2
  have hr := run_make (P := P) w t e i z h1 hi hz0 kl kc L C (by omega) (by omega) (by rw [hz2, hC]; have : ((bytes * n : Nat) : Int) ≤ 281474976710656 := by omega
                                                                                       rwa [Int.natCast_mul] at this) (by omega)
  refine wpList_run (w' := w.alloc (.cells (List.replicate n z).toArray e)) hgd (v := .slice (some ⟨w.heap.size, 0, none⟩) n n) ?_ (hK _ ?_ (World.grownBy_alloc _ _ _) (by simp))
  · subst hL; subst hC
    simp only [Int.toNat_natCast, hz1, Nat.mul_one, hz, madeCells_one] at hr
    simp [execOp, hop, hl, hc, hr, Result.andThen]
  · refine hide ?_
    show (w.heap.push (.cells (List.replicate n z).toArray e))[w.heap.size]? = _
    simp

/-- 'copy(dst, s)', s a string that fits. -/
theorem law_copy_str (hgd : o.guard = none) (d s : Operand) (dT sT : TypeId)
    (ho : o.op = .call { callee := .builtin .copy, args := #[d, s], argTypes := #[dT, sT] }) (elem : TypeId) (hu : P.underlying dT = some (.slice elem)) (hsz : (P.info? elem).map (·.size) = some 1)
    (g off dLen dCap : Nat) (str : ByteArray) (hd : a.eval d = .slice (some ⟨g, off, none⟩) dLen dCap) (hs : a.eval s = .string str)
    (cur : List Value) (t : TypeId) (hg : w.heap[g]? = some (.cells cur.toArray t (0, 0))) (hle : str.size ≤ dLen) (hfit : off + str.size ≤ cur.length)
    (hK : ∀ w', Hid (w'.heap[g]? = some (.cells (splice cur off (Lib.byteCells str.data.toList)).toArray t (0, 0))) → w.grownBy w' (some g) → wpList P ops Q rest (a.put o.dst (goInt str.size)) w') :
    wpList P ops Q (o :: rest) a w := by
  have hr := Lib.run_copy_row_string (P := P) w dT sT o.type elem g off dLen dCap str cur.toArray t hu hsz hg hle (by simpa using hfit)
  refine wpList_run (w' := w.setRow g (cur.toArray.toList.take off ++ Lib.byteCells str.data.toList ++ cur.toArray.toList.drop (off + str.size)).toArray) hgd (v := goInt str.size) ?_ (hK _ ?_ ?_)
  · simp [execOp, ho, resolve, invoke, builtin, hd, hs, hr, Result.andThen]
  · refine hide ?_
    rw [setRow_heap w g _ _ t _ hg]
    simp [splice, Lib.byteCells_length]
  · exact ⟨rfl, rfl, rfl, by simp [World.setRow], fun k _ hk => setRow_other w g k _ (fun e => hk (by rw [e]))⟩

/-- 'copy(dst, src)', cells. -/
theorem law_copy (hgd : o.guard = none) (d s : Operand) (dT sT : TypeId)
    (ho : o.op = .call { callee := .builtin .copy, args := #[d, s], argTypes := #[dT, sT] }) (elem : TypeId) (hu : P.underlying dT = some (.slice elem)) (hsz : (P.info? elem).map (·.size) = some 1)
    (g off dLen dCap : Nat) (ad : Addr) (sLen sCap : Nat) (hd : a.eval d = .slice (some ⟨g, off, none⟩) dLen dCap) (hs : a.eval s = .slice (some ad) sLen sCap)
    (cur : List Value) (t : TypeId) (hg : w.heap[g]? = some (.cells cur.toArray t (0, 0))) (cs : List Value) (hn : cs.length = Nat.min sLen dLen)
    (hsrc : ∀ j v, cs[j]? = some v → w.cell? (ad.add j) = some v) (hfit : off + cs.length ≤ cur.length) (h1 : ∀ v ∈ cs, v.oneCell' = true)
    (hK : ∀ w', Hid (w'.heap[g]? = some (.cells (splice cur off cs).toArray t (0, 0))) → w.grownBy w' (some g) → wpList P ops Q rest (a.put o.dst (goInt cs.length)) w') :
    wpList P ops Q (o :: rest) a w := by
  refine wpList_copy_own hgd d s dT sT ho elem hu hsz g off dLen dCap ad sLen sCap hd hs cur.toArray t hg cs hn hsrc (by simpa using hfit) h1 (hK _ ?_ ?_)
  · refine hide ?_
    rw [setRow_heap w g _ _ t _ hg]
    simp [splice]
  · exact ⟨rfl, rfl, rfl, by simp [World.setRow], fun k _ hk => setRow_other w g k _ (fun e => hk (by rw [e]))⟩

/-- 'string(b)' of a row's first bytes. -/
theorem law_toString (hgd : o.guard = none) (x : Operand) (src dst : TypeId) (ho : o.op = .convert src dst x) (e : TypeId) (hs : P.underlying src = some (.slice e)) (he : P.underlying e = some (.int .u8)) (hdst : P.underlying dst = some .string)
    (g len cap : Nat) (hx : a.eval x = .slice (some ⟨g, 0, none⟩) len cap) (l : List UInt8) (cur : Array Value) (t : TypeId) (fr : Nat × Nat) (hg : w.heap[g]? = some (.cells cur t fr)) (hl : l.length = len)
    (hcur : cur.toList.take len = Lib.byteCells l)
    (hK : wpList P ops Q rest (a.put o.dst (.string ⟨l.toArray⟩)) w) : wpList P ops Q (o :: rest) a w := by
  subst hl
  have hr := run_convert_bytes_back (P := P) w src dst e ⟨g, 0, none⟩ cap l hs he hdst (fun j hj => by
    have h1 : (Lib.byteCells l)[j]? = some (.int .u8 (l[j].toNat : Int)) := by simp [Lib.byteCells, hj]
    rw [← hcur] at h1
    have h2 : cur[j]? = some (.int .u8 (l[j].toNat : Int)) := by
      rw [List.getElem?_take] at h1
      simpa [hj] using h1
    rw [show (⟨g, 0, none⟩ : Addr).add j = ⟨g, j, none⟩ from by unfold Addr.add; split <;> simp_all]
    simp [World.cell?, hg, h2])
  refine wpList_run hgd (v := .string ⟨l.toArray⟩) ?_ hK
  simp [execOp, ho, hx, hr, Result.andThen]
/-- A whole variable is written. -/
theorem law_store (hgd : o.guard = none) (ty : TypeId) (x y : Operand) (ho : o.op = .store ty x y)
    (g : Nat) (cells : Array Value) (hx : a.eval x = .pointer (some ⟨g, 0, none⟩)) (hy : a.eval y = .agg cells)
    (t : TypeId) (old : Array Value) (hg : w.heap[g]? = some (.cells old t (0, 0))) (hi : (P.info? ty).map (·.size) = some cells.size)
    (hold : old.size = cells.size) (h1 : cells.all (·.oneCell') = true)
    (hK : ∀ w', Hid (w'.heap[g]? = some (.cells cells t (0, 0))) → w.grownBy w' (some g) → wpList P ops Q rest (a.put o.dst undef) w') : wpList P ops Q (o :: rest) a w := by
  refine wpList_store_row hgd ty x y ho g cells hx hy t old hg hi hold h1 (hK _ ?_ ?_)
  · exact hide (setRow_heap w g _ _ t _ hg)
  · exact ⟨rfl, rfl, rfl, by simp [World.setRow], fun k _ hk => setRow_other w g k _ (fun e => hk (by rw [e]))⟩
end

theorem grown_keeps {w w' : World} {row : Option Nat} (h : w.grownBy w' row) {k : Nat} {x : Obj} (hk : w.heap[k]? = some x) (hne : some k ≠ row) : w'.heap[k]? = some x :=
  (h.block k (Array.getElem?_eq_some_iff.1 hk).1 hne).trans hk

theorem below_grown {B : Nat} {w0 w w' : World} {row : Option Nat} (hb : Below B w0 w) (h : w.grownBy w' row) (hB : B ≤ w.heap.size) (hr : ∀ k, row = some k → B ≤ k) : Below B w0 w' :=
  hb.trans ⟨h.os, h.tape, h.output, h.size, fun k hk => h.block k (by omega) (fun e => by have := hr k e.symm; omega)⟩

end Go.Proofs.YtpkgmoiffegbfaaDoor
