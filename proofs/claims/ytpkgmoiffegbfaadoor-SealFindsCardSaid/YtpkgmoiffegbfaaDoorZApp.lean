/- Rows of bytes that a call makes: made, appended to, read back as a string. No condition but sizes. -/
import Derived.Test.YtpkgmoiffegbfaaDoorZKit
import Derived.Laws.AppendOwn
import Derived.Laws.OwnMore
import Derived.Laws.MakeOwn
namespace Go.Proofs.YtpkgmoiffegbfaaDoor
open Go.RowKit Go.BigFrame
set_option maxRecDepth 20000

theorem infoU8 : (Tryd.prog.info? 5).map (fun i => (i.zero, i.size, i.bytes)) = some (some (.int .u8 0), 1, 1) := by kernel_rfl
/-- A row of bytes of the call's own. -/
def OwnB (w : World) (base : Nat) (v : Value) (l : List UInt8) : Prop := w.ownsRow base 5 1 v l.length (Lib.byteCells l)
theorem OwnB.grown {w w' : World} {base : Nat} {v : Value} {l : List UInt8} {row : Option Nat} (h : OwnB w base v l) (hg : w.grownBy w' row) (hr : ∀ k, row = some k → k < base) : OwnB w' base v l := by
  refine World.ownsRow.kept h hg ?_
  cases hv : v.ownBlock with
  | none => exact .inl rfl
  | some k =>
    refine .inr fun e => ?_
    have h1 := hr k e.symm
    have h2 := (World.ownsRow.lt h k hv).1
    omega
theorem OwnB.nil (w : World) (base : Nat) : OwnB w base (.slice none 0 0) [] := World.ownsRow_nil w base _ _
theorem OwnB.slice {w : World} {base : Nat} {v : Value} {l : List UInt8} (h : OwnB w base v l) : ∃ a c, v = .slice a l.length c := by
  rcases h.2 with ⟨h1, h2⟩ | ⟨g, cap, cur, h1, _⟩
  · exact ⟨none, 0, by rw [h1, h2]⟩
  · exact ⟨_, _, h1⟩
section
variable {w : World} {ops : Array Oper} {rest : List Oper} {o : Oper} {a : Act} {Q : Exit → Act → World → Prop}
/-- 'append(v, c, ..)', the bytes lying in a block. -/
theorem zapp (hgd : o.guard = none) (x y : Operand) (ho : o.op = .call { callee := .builtin .append, args := #[x, y], argTypes := #[22, 22] })
    (v : Value) (hx : a.eval x = v) (kb m c : Nat) (hy : a.eval y = .slice (some ⟨kb, 0, none⟩) m c) (cs : List UInt8) (hm : cs.length = m) (hkb : ∀ j u, (Lib.byteCells cs)[j]? = some u → w.cell? ⟨kb, j, none⟩ = some u)
    (base : Nat) (l : List UInt8) (hown : OwnB w base v l) (hl : l.length < 1000000) (hm2 : m < 1000000) (hbase : base ≤ w.heap.size)
    (hK : ∀ v' w', OwnB w' base v' (l ++ cs) → w.grownBy w' v.ownBlock → wpList Tryd.prog ops Q rest (a.put o.dst v') w') : wpList Tryd.prog ops Q (o :: rest) a w := by
  obtain ⟨i, hi, hz0, hz1, hz2⟩ := info_parts infoU8
  subst hm
  obtain ⟨v', w', hr, ho', hg, _⟩ := run_append_own (P := Tryd.prog) w base 22 o.type 5 i (.int .u8 0) 1 1 Tryd.underlying22 hi hz0 hz1 hz2 rfl (by decide) v l.length _ hown ⟨kb, 0, none⟩ cs.length c (Lib.byteCells cs) (by simp [Lib.byteCells])
    (fun j u hj => by rw [Addr.add_mid, Nat.zero_add]; exact hkb j u hj) (by intro u hu; simp only [Lib.byteCells, List.mem_map] at hu; obtain ⟨b, _, rfl⟩ := hu; rfl) (by unfold maxLen; omega) (by omega) hbase
  refine wpList_run (w' := w') hgd (v := v') ?_ (hK v' w' ?_ hg)
  · simp [execOp, ho, resolve, invoke, builtin, hx, hy, hr, Result.andThen]
  · unfold OwnB
    rw [List.length_append, show Lib.byteCells (l ++ cs) = Lib.byteCells l ++ Lib.byteCells cs by simp [Lib.byteCells]]
    exact ho'
/-- 'string(v)'. -/
theorem zstring (hgd : o.guard = none) (x : Operand) (src dst : TypeId) (ho : o.op = .convert src dst x) (hs : Tryd.prog.underlying src = some (.slice 5)) (hd : Tryd.prog.underlying dst = some .string)
    (v : Value) (hx : a.eval x = v) (base : Nat) (l : List UInt8) (hown : OwnB w base v l) (hne : l ≠ [])
    (hK : wpList Tryd.prog ops Q rest (a.put o.dst (.string ⟨l.toArray⟩)) w) : wpList Tryd.prog ops Q (o :: rest) a w := by
  rcases hown.2 with ⟨_, h2⟩ | ⟨g, cap, cur, h1, _, hg, _, _, _, ht⟩
  · exact absurd (List.length_eq_zero_iff.1 h2) hne
  · subst h1
    rw [Nat.mul_one] at ht
    exact law_toString hgd x src dst ho 5 hs Tryd.underlying5 hd g l.length cap hx l cur _ _ hg rfl ht hK
/-- 'make([]byte, n, c)', both small and known. -/
theorem zmake (hgd : o.guard = none) (l c : Nat) (hlc : l ≤ c) (hc : c ≤ 1000000) (x y : Operand) (ho : o.op = .makeSlice 22 x y) (hx : a.eval x = .int .i64 (l : Int)) (hy : a.eval y = .int .i64 (c : Int))
    (hK : ∀ w', w'.heap[w.heap.size]? = some (.cells (List.replicate c (Value.int .u8 0)).toArray 5 (0, 0)) → w.grownBy w' none → w'.heap.size = w.heap.size + 1 →
      wpList Tryd.prog ops Q rest (a.put o.dst (.slice (some ⟨w.heap.size, 0, none⟩) l c)) w') : wpList Tryd.prog ops Q (o :: rest) a w := by
  obtain ⟨i, hi, hz0, hz1, hz2⟩ := info_parts infoU8
  have hr := run_make (P := Tryd.prog) w 22 5 i (.int .u8 0) Tryd.underlying22 hi hz0 .i64 .i64 (l : Int) (c : Int) (by omega) (by omega) (by rw [hz2]; omega) (by omega)
  simp only [Int.toNat_natCast, hz1, Nat.mul_one] at hr
  rw [show (Value.int IntKind.u8 0).cells = #[Value.int IntKind.u8 0] from rfl, madeCells_one] at hr
  refine wpList_run (w' := w.alloc (.cells (List.replicate c (Value.int .u8 0)).toArray 5)) hgd (v := .slice (some ⟨w.heap.size, 0, none⟩) l c) ?_ (hK _ (new_at _ _) (World.grownBy_alloc _ _ _) (by simp))
  simp [execOp, ho, hx, hy, hr, Result.andThen]
end
end Go.Proofs.YtpkgmoiffegbfaaDoor
