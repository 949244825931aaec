/- Rows of digests and of sealed things that a call builds. No condition. -/
import Derived.Test.YtpkgmoiffegbfaaDoorZOpenedB
namespace Go.Proofs.YtpkgmoiffegbfaaDoor
open Go.RowKit Go.BigFrame
set_option maxRecDepth 20000

theorem flat_at {α : Type} (f : α → List Value) (k : Nat) : ∀ (ls : List α), (∀ x ∈ ls, (f x).length = k) → ∀ (q : Nat) (x : α), ls[q]? = some x → ∀ (i : Nat) (u : Value), (f x)[i]? = some u → (ls.flatMap f)[q * k + i]? = some u
  | [], _, q, x, h, _, _, _ => by simp at h
  | y :: t, hf, 0, x, h, i, u, hu => by
    simp only [List.getElem?_cons_zero, Option.some.injEq] at h
    subst h
    rw [List.flatMap_cons, List.getElem?_append_left (by have := (List.getElem?_eq_some_iff.1 hu).1; omega), Nat.zero_mul, Nat.zero_add]
    exact hu
  | y :: t, hf, q + 1, x, h, i, u, hu => by
    rw [List.getElem?_cons_succ] at h
    have hy := hf y (List.mem_cons_self ..)
    rw [List.flatMap_cons, List.getElem?_append_right (by rw [hy, Nat.add_mul]; omega), hy, show (q + 1) * k + i - k = q * k + i by rw [Nat.add_mul]; omega]
    exact flat_at f k t (fun z hz => hf z (List.mem_cons_of_mem _ hz)) q x h i u hu
/-- A row, whole in a block of its own. -/
def IsRow {α : Type} (T : TypeId) (f : α → List Value) (ls : List α) (u : Value) (w : World) : Prop := ∃ b, u = .slice (some ⟨b, 0, none⟩) ls.length ls.length ∧ w.heap[b]? = some (.cells (ls.flatMap f).toArray T (0, 0))
theorem IsRow.below {α : Type} {T : TypeId} {f : α → List Value} {ls : List α} {u : Value} {w w' : World} (h : IsRow T f ls u w) (hb : Below w.heap.size w w') : IsRow T f ls u w' := by
  obtain ⟨b, h1, h2⟩ := h
  exact ⟨b, h1, below_at hb h2 (zlt h2)⟩
theorem IsRow.rows {α : Type} {T : TypeId} {f : α → List Value} {k : Nat} {ls : List α} {u : Value} {w : World} (h : IsRow T f ls u w) (hf : ∀ x ∈ ls, (f x).length = k) :
    ∃ aa, u = .slice aa ls.length ls.length ∧ (0 < ls.length → ∃ b off, aa = some ⟨b, off, none⟩ ∧ b < w.heap.size ∧ RowsAt w b off k f ls) := by
  obtain ⟨b, h1, h2⟩ := h
  refine ⟨_, h1, fun _ => ⟨b, 0, rfl, zlt h2, fun q x hq i u hu => ?_⟩⟩
  rw [Nat.zero_add]
  exact zcell h2 (by rw [List.getElem?_toArray]; exact flat_at f k ls hf q x hq i u hu)
/-- A literal row of digests or of sealed things. -/
theorem wp_rows {α : Type} {o : Oper} {a : Act} {w : World} {K : Act → World → Prop} {Q : Exit → Act → World → Prop} (t e : TypeId) (k : Nat) (f : α → List Value) (parts : Array (Nat × Operand)) (ls : List α) (ho : o.op = .buildSlice t ls.length parts)
    (hu : Tryd.prog.underlying t = some (.slice e)) (hi : ∃ i z, Tryd.prog.info? e = some i ∧ i.zero = some z ∧ i.size = k) (hk : 0 < k) (hk2 : k ≤ 100) (hl : 0 < ls.length) (hl2 : ls.length ≤ 100) (hf : ∀ x ∈ ls, (f x).length = k)
    (hp : (parts.map fun (i, x) => (i, a.eval x)).toList = (((ls.map fun x => Value.agg (f x).toArray).zipIdx 0).map fun x => (x.2, x.1)))
    (h : K (a.put o.dst (.slice (some ⟨w.heap.size, 0, none⟩) ls.length ls.length)) (w.alloc (.cells (ls.flatMap f).toArray e))) : o.wp Tryd.prog a w K Q := by
  obtain ⟨i, z, hi, hz, hs⟩ := hi
  subst hs
  have hm : ls.length * i.size ≤ 100 * 100 := Nat.mul_le_mul hl2 hk2
  refine wp_buildSlice t e ls.length parts ho _ i z hu hi hz (by omega) (by have := Nat.mul_pos hl hk; omega) ?_ h
  rw [hp, Go.Great.fill_whole hk _ _ (by
    intro v hv
    obtain ⟨x, hx, rfl⟩ := List.mem_map.1 hv
    simpa [Value.cells] using hf x hx) (by simp)]
  congr 1
  simp [List.flatMap_map, Value.cells]
theorem zseaFacts : ∃ i z, Tryd.prog.info? 41 = some i ∧ i.zero = some z ∧ i.size = 4 := by
  have h : ((Tryd.prog.info? 41).bind fun i => i.zero.map fun z => i.size) = some 4 := by kernel_rfl
  cases hi : Tryd.prog.info? 41 with
  | none => rw [hi] at h; cases h
  | some i =>
    rw [hi] at h
    cases hz : i.zero with
    | none => simp [hz] at h
    | some z =>
      simp [hz] at h
      exact ⟨i, z, rfl, hz, h⟩
theorem wp_digs {o : Oper} {a : Act} {w : World} {K : Act → World → Prop} {Q : Exit → Act → World → Prop} (parts : Array (Nat × Operand)) (Ds : List (List UInt8)) (ho : o.op = .buildSlice 52 Ds.length parts)
    (hl : 0 < Ds.length) (hl2 : Ds.length ≤ 100) (hf : ∀ D ∈ Ds, D.length = 32)
    (hp : (parts.map fun (i, x) => (i, a.eval x)).toList = (((Ds.map fun D => Value.agg (dg D)).zipIdx 0).map fun x => (x.2, x.1)))
    (h : ∀ u w', IsRow 28 Lib.byteCells Ds u w' → Below w.heap.size w w' → K (a.put o.dst u) w') : o.wp Tryd.prog a w K Q := by
  obtain ⟨i, z, hi, hz, hs, _⟩ := zdigFacts
  exact wp_rows 52 28 32 Lib.byteCells parts Ds ho Tryd.underlying52 ⟨i, z, hi, hz, hs⟩ (by decide) (by decide) hl hl2 (fun D hD => by simp [Lib.byteCells, hf D hD]) hp (h _ _ ⟨_, rfl, new_at _ _⟩ ((Below.refl _ _).alloc (Nat.le_refl _) _))
theorem wp_seals {o : Oper} {a : Act} {w : World} {K : Act → World → Prop} {Q : Exit → Act → World → Prop} (parts : Array (Nat × Operand)) (xs : List Se) (ho : o.op = .buildSlice 51 xs.length parts)
    (hl : 0 < xs.length) (hl2 : xs.length ≤ 100)
    (hp : (parts.map fun (i, x) => (i, a.eval x)).toList = (((xs.map fun x => Value.agg x.cells.toArray).zipIdx 0).map fun x => (x.2, x.1)))
    (h : ∀ u w', IsRow 41 Se.cells xs u w' → Below w.heap.size w w' → K (a.put o.dst u) w') : o.wp Tryd.prog a w K Q :=
  wp_rows 51 41 4 Se.cells parts xs ho Tryd.underlying51 zseaFacts (by decide) (by decide) hl hl2 (fun _ _ => rfl) hp (h _ _ ⟨_, rfl, new_at _ _⟩ ((Below.refl _ _).alloc (Nat.le_refl _) _))
/-- An invariant for slots: a condition on the world, and a fact for each slot. -/
def SlI (n : Nat) (C : World → Prop) (R : Nat → Value → World → Prop) (S : Nat → Bool) (v : Nat → Value) (w : World) : Prop := C w ∧ ∀ j, j < n → S j = true → R j (v j) w
theorem SlI.start {n : Nat} {C : World → Prop} {R : Nat → Value → World → Prop} {w : World} (h : C w) (v : Nat → Value) : SlI n C R (fun _ => false) v w := ⟨h, fun _ _ h => by cases h⟩
theorem SlI.step {n : Nat} {C : World → Prop} {R : Nat → Value → World → Prop} {S : Nat → Bool} {v : Nat → Value} {w1 w2 : World} (h : SlI n C R S v w1) (i : Nat) (u : Value) (hC : C w2) (hk : ∀ j x, R j x w1 → R j x w2) (hR : R i u w2) : SlI n C R (upd S i true) (upd v i u) w2 :=
  SlotInv.step (C := fun _ => C) h i u hC (fun j _ x => hk j x) hR
theorem SlI.stay {n : Nat} {C : World → Prop} {R : Nat → Value → World → Prop} {S : Nat → Bool} {v : Nat → Value} {w1 : World} (h : SlI n C R S v w1) (i : Nat) (u : Value) (hR : R i u w1) : SlI n C R (upd S i true) (upd v i u) w1 := h.step i u h.1 (fun _ _ h => h) hR
end Go.Proofs.YtpkgmoiffegbfaaDoor
