/- Rows of numbers that a call makes, of one cell each, and appends to them; bits of 64. No condition but sizes. -/
import Derived.Test.YtpkgmoiffegbfaaDoorRPrime
import Derived.Test.YtpkgmoiffegbfaaDoorZApp
import Derived.Laws.Bits64b
namespace Go.Proofs.YtpkgmoiffegbfaaDoor
open Go.RowKit Go.BigFrame
set_option maxRecDepth 20000

/-- A row of the call's own, of elements of one cell each. -/
def OwnR (E : TypeId) {α : Type} (f : α → Value) (w : World) (base : Nat) (v : Value) (l : List α) : Prop := w.ownsRow base E 1 v l.length (l.map f)
section
variable {E : TypeId} {α : Type} {f : α → Value}
theorem OwnR.nil (w : World) (base : Nat) : OwnR E f w base (.slice none 0 0) [] := World.ownsRow_nil w base _ _
theorem OwnR.slice {w : World} {base : Nat} {v : Value} {l : List α} (h : OwnR E f w base v l) : ∃ a c, v = .slice a l.length c := by
  rcases h.2 with ⟨h1, h2⟩ | ⟨g, cap, cur, h1, _⟩
  · exact ⟨none, 0, by rw [h1, h2]⟩
  · exact ⟨_, _, h1⟩
theorem OwnR.lower {w : World} {b c : Nat} {v : Value} {l : List α} (h : OwnR E f w b v l) (hc : c ≤ b) : OwnR E f w c v l := by
  refine ⟨h.1, ?_⟩
  rcases h.2 with h1 | ⟨g, cap, cur, h1, h2, h3⟩
  · exact .inl h1
  · exact .inr ⟨g, cap, cur, h1, by omega, h3⟩
theorem OwnR.below {w w' : World} {base : Nat} {v : Value} {l : List α} (h : OwnR E f w base v l) (hb : Below w.heap.size w w') : OwnR E f w' base v l := by
  refine ⟨h.1, ?_⟩
  rcases h.2 with h1 | ⟨g, cap, cur, h1, h2, h3, h4⟩
  · exact .inl h1
  · exact .inr ⟨g, cap, cur, h1, h2, below_at hb h3 (zlt h3), h4⟩
/-- What lies there. -/
theorem OwnR.any {w : World} {base : Nat} {v : Value} {l : List α} (h : OwnR E f w base v l) : ∃ ga gc, v = .slice ga l.length gc ∧ (0 < l.length → ∃ g, ga = some ⟨g, 0, none⟩ ∧ base ≤ g ∧ g < w.heap.size ∧ l.length ≤ gc ∧ ∀ (i : Nat) (n : α), l[i]? = some n → w.cell? ⟨g, i, none⟩ = some (f n)) := by
  rcases h.2 with ⟨h1, h2⟩ | ⟨g, cap, cur, h1, h2, h3, h4, _, _, h7⟩
  · exact ⟨none, 0, by rw [h1, h2], fun h => by omega⟩
  · refine ⟨_, _, h1, fun _ => ⟨g, rfl, h2, zlt h3, h4, fun i n hn => zcell h3 ?_⟩⟩
    have hi : i < l.length := (List.getElem?_eq_some_iff.1 hn).1
    have e : (cur.toList.take (l.length * 1))[i]? = some (f n) := by rw [h7, List.getElem?_map, hn]; rfl
    rw [List.getElem?_take, if_pos (by omega)] at e
    simpa using e
end
section
variable {w : World} {ops : Array Oper} {rest : List Oper} {o : Oper} {a : Act} {Q : Exit → Act → World → Prop}
/-- 'append(v, n)'. -/
theorem zappR (hgd : o.guard = none) (x y : Operand) {T E : TypeId} {α : Type} {f : α → Value} (hT : Tryd.prog.underlying T = some (.slice E)) {z : Value} {bytes : Nat}
    (hinfo : (Tryd.prog.info? E).map (fun i => (i.zero, i.size, i.bytes)) = some (some z, 1, bytes)) (hz1 : z.cells.size = 1) (hb8 : bytes ≤ 8) (hf : ∀ n, (f n).oneCell' = true)
    (ho : o.op = .call { callee := .builtin .append, args := #[x, y], argTypes := #[T, T] })
    (v : Value) (hx : a.eval x = v) (kb c : Nat) (hy : a.eval y = .slice (some ⟨kb, 0, none⟩) 1 c) (n : α) (hkb : w.cell? ⟨kb, 0, none⟩ = some (f n))
    (base : Nat) (l : List α) (hown : OwnR E f w base v l) (hl : l.length < 1000000) (hbase : base ≤ w.heap.size)
    (hK : ∀ v' w', OwnR E f w' base v' (l ++ [n]) → w.grownBy w' v.ownBlock → Below base w w' → wpList Tryd.prog ops Q rest (a.put o.dst v') w') : wpList Tryd.prog ops Q (o :: rest) a w := by
  obtain ⟨i, hi, hz0, hz1', hz2⟩ := info_parts hinfo
  have hbb : (l.length + 1) * bytes ≤ 1000000 * 8 := Nat.mul_le_mul (by omega) hb8
  refine wpList_append_own (P := Tryd.prog) w hgd x y T ho base E i z 1 bytes hT hi hz0 hz1' hz2 hz1 (by decide) v l.length _ hx hown ⟨kb, 0, none⟩ 1 c [f n] hy rfl ?_ (by intro u hu; rw [List.mem_singleton] at hu; rw [hu]; exact hf n) (by unfold maxLen; omega) (by omega) hbase ?_
  · intro j u hj
    match j, hj with
    | 0, hj => cases hj; exact hkb
    | j + 1, hj => simp at hj
  · intro v' w' ho' hg _
    refine hK v' w' ?_ hg (below_grown (Below.refl _ _) hg hbase (fun k hk => (World.ownsRow.lt hown k hk).1))
    unfold OwnR
    rw [List.length_append, List.map_append]
    exact ho'
end
theorem infoU64 : (Tryd.prog.info? 39).map (fun i => (i.zero, i.size, i.bytes)) = some (some (.int .u64 0), 1, 8) := by kernel_rfl
theorem infoU32 : (Tryd.prog.info? 58).map (fun i => (i.zero, i.size, i.bytes)) = some (some (.int .u32 0), 1, 4) := by kernel_rfl
def u64v (n : Nat) : Value := .int .u64 (n : Int)
end Go.Proofs.YtpkgmoiffegbfaaDoor
