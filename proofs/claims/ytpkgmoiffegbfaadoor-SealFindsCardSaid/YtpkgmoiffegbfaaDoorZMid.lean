/- Digests out of the middle of a block; slices of one. No condition. -/
import Derived.Test.YtpkgmoiffegbfaaDoorZSeal
import Derived.Great.BuildSlice
import Derived.Great.FillDense
import Derived.Laws.AppendOwn
import Derived.Deep.MidRow
namespace Go.Proofs.YtpkgmoiffegbfaaDoor
open Go.RowKit Go.BigFrame
set_option maxRecDepth 20000

section
variable {ops : Array Oper} {rest : List Oper} {o : Oper} {a : Act} {w : World} {Q : Exit → Act → World → Prop}
/-- A digest's load, wherever it lies. -/
theorem zloadD (hgd : o.guard = none) (x : Operand) (ho : o.op = .load 28 x) (b off : Nat) (hx : a.eval x = .pointer (some ⟨b, off, none⟩)) (D : List UInt8) (hD : D.length = 32)
    (hat : ∀ i u, (Lib.byteCells D)[i]? = some u → w.cell? ⟨b, off + i, none⟩ = some u)
    (h : wpList Tryd.prog ops Q rest (a.put o.dst (.agg (dg D))) w) : wpList Tryd.prog ops Q (o :: rest) a w := by
  have hr := run_loadAt_mid (P := Tryd.prog) w b off 28 (Lib.byteCells D) _ hat Tryd.underlying28 rfl (by rw [show (Lib.byteCells D).length = 32 by simp [Lib.byteCells, hD]]; exact zsizeDig)
  refine wpList_run (w' := w) hgd (v := .agg (dg D)) ?_ h
  simp [execOp, ho, hx, hr, dg, Result.andThen]
theorem zdigFacts : ∃ i z, Tryd.prog.info? 28 = some i ∧ i.zero = some z ∧ i.size = 32 ∧ i.bytes = 32 ∧ z.cells.size = 32 := by
  have h : ((Tryd.prog.info? 28).bind fun i => i.zero.map fun z => (i.size, i.bytes, z.cells.size)) = some (32, 32, 32) := by kernel_rfl
  cases hi : Tryd.prog.info? 28 with
  | none => rw [hi] at h; cases h
  | some i =>
    rw [hi] at h
    cases hz : i.zero with
    | none => simp [hz] at h
    | some z =>
      simp [hz] at h
      exact ⟨i, z, rfl, hz, h.1, h.2.1, h.2.2⟩
/-- 'append(.., d)': the slice of one digest. -/
theorem zoneD (hgd : o.guard = none) (x : Operand) (ho : o.op = .buildSlice 52 1 #[(0, x)])
    (X : List UInt8) (hx : a.eval x = .agg (dg X)) (hX : X.length = 32)
    (h : wpList Tryd.prog ops Q rest (a.put o.dst (.slice (some ⟨w.heap.size, 0, none⟩) 1 1)) (w.alloc (.cells (dg X) 28))) : wpList Tryd.prog ops Q (o :: rest) a w := by
  obtain ⟨i, z, hi, hz, hs, _, hzs⟩ := zdigFacts
  refine wpList_buildSlice hgd 52 28 1 _ ho (dg X) i z Tryd.underlying52 hi hz (by rw [hs]; decide) (by rw [hs]; decide) ?_ h
  have hf := Go.Great.fill_whole (s := 32) (by decide) [.agg (dg X)] ((Array.range (1 * 32)).map (z.cells[· % z.cells.size]!)) (by
    intro v hv
    simp only [List.mem_cons, List.not_mem_nil, or_false] at hv
    subst hv
    simp [Value.cells, dg_size, hX]) (by simp)
  have e : (([Value.agg (dg X)].flatMap fun v => v.cells.toList).toArray) = dg X := by simp [Value.cells]
  rw [e] at hf
  rw [hs]
  simpa [hx] using hf
theorem infoI : (Tryd.prog.info? 3).map (fun i => (i.zero, i.size, i.bytes)) = some (some (.int .i64 0), 1, 8) := by kernel_rfl
/-- A row of ints of the call's own. -/
def OwnI (w : World) (base : Nat) (v : Value) (l : List Int) : Prop := w.ownsRow base 3 1 v l.length (l.map fun n => .int .i64 n)
/-- 'make([]int, 0, n)'. -/
theorem zmakeI (hgd : o.guard = none) (x y : Operand) (ho : o.op = .makeSlice 53 x y) (c : Nat) (hc : c ≤ 1000000) (hx : a.eval x = .int .i64 0) (hy : a.eval y = .int .i64 (c : Int)) (base : Nat) (hbase : base ≤ w.heap.size)
    (hK : ∀ v' w', OwnI w' base v' [] → Below w.heap.size w w' → wpList Tryd.prog ops Q rest (a.put o.dst v') w') : wpList Tryd.prog ops Q (o :: rest) a w := by
  obtain ⟨i, hi, hz0, hz1, hz2⟩ := info_parts infoI
  obtain ⟨w', hr, ho', hg⟩ := run_make_own (P := Tryd.prog) w base 53 3 i (.int .i64 0) 1 Tryd.underlying53 hi hz0 hz1 .i64 .i64 c (by rw [hz2]; omega) (by unfold maxLen; omega) hbase
  refine wpList_run (w' := w') hgd (v := .slice (some ⟨w.heap.size, 0, none⟩) 0 c) ?_ (hK _ w' ho' (below_grown (Below.refl _ _) hg (Nat.le_refl _) (by intro k e; cases e)))
  simp [execOp, ho, hx, hy, hr, Result.andThen]
/-- 'append(v, n)'. -/
theorem zappI (hgd : o.guard = none) (x y : Operand) (ho : o.op = .call { callee := .builtin .append, args := #[x, y], argTypes := #[53, 53] })
    (v : Value) (hx : a.eval x = v) (kb c : Nat) (hy : a.eval y = .slice (some ⟨kb, 0, none⟩) 1 c) (n : Int) (hkb : w.cell? ⟨kb, 0, none⟩ = some (.int .i64 n))
    (base : Nat) (l : List Int) (hown : OwnI w base v l) (hl : l.length < 1000000) (hbase : base ≤ w.heap.size)
    (hK : ∀ v' w', OwnI w' base v' (l ++ [n]) → Below base w w' → wpList Tryd.prog ops Q rest (a.put o.dst v') w') : wpList Tryd.prog ops Q (o :: rest) a w := by
  obtain ⟨i, hi, hz0, hz1, hz2⟩ := info_parts infoI
  refine wpList_append_own (P := Tryd.prog) w hgd x y 53 ho base 3 i (.int .i64 0) 1 8 Tryd.underlying53 hi hz0 hz1 hz2 rfl (by decide) v l.length _ hx hown ⟨kb, 0, none⟩ 1 c [.int .i64 n] hy rfl ?_ (by simp [Value.oneCell']) (by unfold maxLen; omega) (by omega) hbase ?_
  · intro j u hj
    match j, hj with
    | 0, hj => cases hj; exact hkb
    | j + 1, hj => simp at hj
  · intro v' w' ho' hg _
    refine hK v' w' ?_ (below_grown (Below.refl _ _) hg hbase (fun k hk => (World.ownsRow.lt hown k hk).1))
    unfold OwnI
    rw [List.length_append, List.map_append]
    exact ho'
end
end Go.Proofs.YtpkgmoiffegbfaaDoor
