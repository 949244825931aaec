/- More laws of the walk, over any program: a variable of an array's or a struct's type laid anew. No condition. -/
import Derived.Test.YtpkgmoiffegbfaaDoorKit
namespace Go.Proofs.YtpkgmoiffegbfaaDoor
open Go.RowKit

section
variable {P : Program} {w : World} {ops : Array Oper} {rest : List Oper} {o : Oper} {a : Act} {Q : Exit → Act → World → Prop}

theorem law_alloc (hgd : o.guard = none) (T : TypeId) (ho : o.op = .alloc T) (Z : Array Value) (hz : (P.info? T).map (·.zero) = some (some (.agg Z)))
    (hK : wpList P ops Q rest (a.put o.dst (.pointer (some ⟨w.heap.size, 0, none⟩))) (w.alloc (.cells Z T))) : wpList P ops Q (o :: rest) a w := by
  refine wpList_run (w' := w.alloc (.cells Z T)) hgd (v := .pointer (some ⟨w.heap.size, 0, none⟩)) ?_ hK
  cases hq : P.info? T with
  | none => simp [hq] at hz
  | some i =>
    have hz' : i.zero = some (.agg Z) := by simpa [hq] using hz
    simp [execOp, ho, Instr.alloc, zeroValue, typeInfo, hq, hz', newVar, newRow, Result.andThen, Value.cells]
end

theorem grown_block {w w' : World} {row : Option Nat} (h : w.grownBy w' row) {k : Nat} (hk : k < w.heap.size) (hne : some k ≠ row) : w'.heap[k]? = w.heap[k]? := h.block k hk hne

theorem new_at (w : World) (o : Obj) : (w.alloc o).heap[w.heap.size]? = some o := by
  show (w.heap.push o)[w.heap.size]? = _
  simp
theorem below_at {B : Nat} {w w' : World} (h : Below B w w') {k : Nat} {x : Obj} (hk : w.heap[k]? = some x) (hB : k < B) : w'.heap[k]? = some x := (h.block k hB).trans hk
theorem alloc_at {w : World} (o : Obj) {k : Nat} {x : Obj} (hk : w.heap[k]? = some x) : (w.alloc o).heap[k]? = some x := by
  have h := (Array.getElem?_eq_some_iff.1 hk).1
  show (w.heap.push o)[k]? = _
  rw [Array.getElem?_push, if_neg (by omega)]
  exact hk

/-- The cells of a digest of these bytes. -/
def dg (l : List UInt8) : Array Value := (Lib.byteCells l).toArray
theorem dg_size (l : List UInt8) : (dg l).size = l.length := by simp [dg, Lib.byteCells]
theorem dg_one (l : List UInt8) : (dg l).all (·.oneCell') = true := by simp [dg, Lib.byteCells, Value.oneCell']
def z32 : List UInt8 := List.replicate 32 0
end Go.Proofs.YtpkgmoiffegbfaaDoor
