/- What a walk of HandleBinds leans on: what tables open, in plain Lean; digests out of the middle of a block; a slice of one digest. No condition. -/
import Derived.Test.YtaocdknpalohbaaHWorks
import Derived.Test.YtaocdknpalohbaaHRefh
import Derived.Great.BuildSlice
import Derived.Great.FillDense
import Derived.Laws.AppendOwn
import Derived.Deep.MidRow
namespace Go.Proofs.Ytaocdknpalohbaa
open Go.RowKit
set_option maxRecDepth 20000

theorem opens_at (L : List Sl) (j : Nat) (x y : Sl) (h : L.length < 1000) (hj : L[j]? = some y) : opensF L (hd (j + 1)) x = y.same x := by
  have hlt := (List.getElem?_eq_some_iff.1 hj).1
  have hl := look_hd 0 L j (by omega) hlt
  rw [Nat.zero_add] at hl
  unfold opensF
  rw [hl, hj]
theorem opens_past (L : List Sl) (x : Sl) (h : L.length < 1000) : opensF L (hd (L.length + 1)) x = false := by
  unfold opensF
  rw [look_none 0 L (fun k h1 h2 e => by have := hd_inj (by omega) (by omega) e; omega)]
theorem opens_zero (L : List Sl) (x : Sl) (h : L.length < 1000) : opensF L (hd 0) x = false := by
  unfold opensF
  rw [look_none 0 L (fun k h1 h2 e => by have := hd_inj (by omega) (by omega) e; omega)]
theorem hand_hd (j : Nat) (h : j < 1000) : handF (hd (j + 1)) = (j + 1, true) := by
  unfold handF
  rw [val_hd _ (by omega), if_pos ⟨by omega, rfl⟩]
theorem hd_ne {k i : Nat} (h : k < i) (hi : i < 1000) : (hd (k + 1) == hd (i + 1)) = false := by
  rw [beq_eq_false_iff_ne]
  intro e
  have := hd_inj (by omega) (by omega) e
  omega

/-- The cells of the digests of the handles 1 to q, side by side. -/
def digs : Nat → List Value
  | 0 => []
  | q + 1 => digs q ++ (dg (hd (q + 1))).toList
theorem digs_length : ∀ q, (digs q).length = q * 32
  | 0 => rfl
  | q + 1 => by rw [digs, List.length_append, digs_length q, Array.length_toList, dg_size, hd_length]; omega
theorem digs_at : ∀ (q j i : Nat), j < q → i < 32 → (digs q)[j * 32 + i]? = (dg (hd (j + 1))).toList[i]?
  | q + 1, j, i, hj, hi => by
    rw [digs]
    by_cases h : j = q
    · subst h
      rw [List.getElem?_append_right (by rw [digs_length]; omega), digs_length]
      congr 1
      omega
    · rw [List.getElem?_append_left (by rw [digs_length]; omega)]
      exact digs_at q j i (by omega) hi

/-- The cells from an offset on, by a name that the walk's rules leave standing. -/
noncomputable def rowAt (w : World) (g o n : Nat) : Option (Array Value) := @dite _ (∃ cs : List Value, cs.length = n ∧ w.rangeAt g o cs) (Classical.propDecidable _) (fun h => some h.choose.toArray) (fun _ => none)
theorem rowAt_of {w : World} {g o n : Nat} {cs : List Value} (hn : cs.length = n) (h : w.rangeAt g o cs) : rowAt w g o n = some cs.toArray := by
  have hex : ∃ cs : List Value, cs.length = n ∧ w.rangeAt g o cs := ⟨cs, hn, h⟩
  unfold rowAt
  rw [dif_pos hex]
  have hs := hex.choose_spec
  congr 2
  refine List.ext_getElem (hs.1.trans hn.symm) fun i h1 h2 => ?_
  have a := hs.2 i _ (List.getElem?_eq_getElem h1)
  have b := h i _ (List.getElem?_eq_getElem h2)
  rw [a] at b
  exact Option.some.inj b
noncomputable def loadRowM (n : Nat) (v : Value) (w : World) (orig : Result Next) : Result Next :=
  match v with
  | .pointer (some ⟨g, o, none⟩) => match rowAt w g o n with
    | some cs => .ok (.value (.agg cs)) w
    | none => orig
  | _ => orig
theorem exec_loadM (ρ : Operand → Value) (dst : Option Tmp) (x : Operand) (ty : TypeId) (pos : String) (after : Array Edge) (guard : Option (Nat × Bool)) (w : World) :
    (execOp ρ ⟨dst, .load 35 x, ty, pos, after, guard⟩).run Try.prog w = loadRowM 32 (ρ x) w ((do let v ← Instr.loadAt 35 (ρ x); pure (.value v) : Sem Next).run Try.prog w) := by
  unfold loadRowM
  split
  · rename_i g o hx
    split
    · rename_i cs hc
      unfold rowAt at hc
      split at hc
      · rename_i hex
        obtain rfl := Option.some.inj hc
        have hs := hex.choose_spec
        have hr := run_loadAt_mid (P := Try.prog) w g o 35 _ _ hs.2 Try.underlying35 rfl (by rw [hs.1]; exact digT.size)
        simp [execOp, hx, hr]
      · cases hc
    · rfl
  · rfl
theorem row_whole {w : World} {b : Nat} {l : List UInt8} {t : TypeId} {fz : Nat × Nat} (hl : l.length = 32) (h : w.heap[b]? = some (.cells (dg l) t fz)) : rowAt w b 0 32 = some (dg l) := by
  refine rowAt_of (cs := (dg l).toList) (by rw [Array.length_toList, dg_size, hl]) fun j v hv => ?_
  rw [Nat.zero_add]
  exact cell_of h (by simpa using hv)

theorem digFacts : ∃ i z, Try.prog.info? 35 = some i ∧ i.zero = some z ∧ i.size = 32 ∧ i.bytes = 32 ∧ z.cells.size = 32 := by
  have h : ((Try.prog.info? 35).bind fun i => i.zero.map fun z => (i.size, i.bytes, z.cells.size)) = some (32, 32, 32) := by kernel_rfl
  cases hi : Try.prog.info? 35 with
  | none => rw [hi] at h; cases h
  | some i =>
    rw [hi] at h
    cases hz : i.zero with
    | none => simp [hz] at h
    | some z =>
      simp only [Option.bind_some, hz, Option.map_some, Option.some.injEq, Prod.mk.injEq] at h
      exact ⟨i, z, rfl, hz, h.1, h.2.1, h.2.2⟩
/-- '[]Digest{x}'. -/
theorem law_one {ops : Array Oper} {rest : List Oper} {o : Oper} {a : Act} {w : World} {Q : Exit → Act → World → Prop} (hgd : o.guard = none) (x : Operand) (ho : o.op = .buildSlice 49 1 #[(0, x)])
    (X : List UInt8) (hx : a.eval x = .agg (dg X)) (hX : X.length = 32)
    (h : wpList Try.prog ops Q rest (a.put o.dst (.slice (some ⟨w.heap.size, 0, none⟩) 1 1)) (w.alloc (.cells (dg X) 35))) : wpList Try.prog ops Q (o :: rest) a w := by
  obtain ⟨i, z, hi, hz, hs, _, hzs⟩ := digFacts
  refine wpList_buildSlice hgd 49 35 1 _ ho (dg X) i z Try.underlying49 hi hz (by rw [hs]; decide) (by rw [hs]; decide) ?_ h
  have hf := Go.Great.fill_whole (s := 32) (by decide) [.agg (dg X)] ((Array.range (1 * 32)).map (z.cells[· % z.cells.size]!)) (by
    intro v hv
    simp only [List.mem_cons, List.not_mem_nil, or_false] at hv
    subst hv
    simp [Value.cells, dg_size, hX]) (by simp)
  have e : (([Value.agg (dg X)].flatMap fun v => v.cells.toList).toArray) = dg X := by simp [Value.cells]
  rw [e] at hf
  rw [hs]
  simpa [hx] using hf
end Go.Proofs.Ytaocdknpalohbaa
