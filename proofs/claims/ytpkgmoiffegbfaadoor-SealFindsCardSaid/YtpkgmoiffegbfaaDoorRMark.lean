/- Rows of bytes that began as a string: '[]byte(s)', and one byte appended. No condition but sizes. -/
import Derived.Test.YtpkgmoiffegbfaaDoorROwn
import Derived.Lib.BufferMore
namespace Go.Proofs.YtpkgmoiffegbfaaDoor
open Go.RowKit Go.BigFrame
set_option maxRecDepth 20000

/-- A row of bytes of the call's own, which may bear the mark of a conversion. -/
def OwnM (w : World) (base : Nat) (v : Value) (l : List UInt8) : Prop := OwnB w base v l ∨ ∃ g cap cur, v = .slice (some ⟨g, 0, none⟩) l.length cap ∧ base ≤ g ∧ w.heap[g]? = some (.cells cur 5 (cur.size, cur.size + 1)) ∧ l.length ≤ cap ∧ cap ≤ maxLen ∧ cur.size = cap ∧ cur.toList.take l.length = Lib.byteCells l
theorem OwnM.slice {w : World} {base : Nat} {v : Value} {l : List UInt8} (h : OwnM w base v l) : ∃ a c, v = .slice a l.length c := by
  rcases h with h | ⟨g, cap, cur, rfl, _⟩
  · exact h.slice
  · exact ⟨_, _, rfl⟩
theorem OwnM.lt {w : World} {base : Nat} {v : Value} {l : List UInt8} (h : OwnM w base v l) : ∀ k, v.ownBlock = some k → base ≤ k ∧ k < w.heap.size := by
  rcases h with h | ⟨g, cap, cur, rfl, h1, h2, _⟩
  · exact World.ownsRow.lt h
  · intro k hk
    simp [Value.ownBlock] at hk
    subst hk
    exact ⟨h1, zlt h2⟩
theorem OwnM.below {w w' : World} {base : Nat} {v : Value} {l : List UInt8} (h : OwnM w base v l) (hb : Below w.heap.size w w') : OwnM w' base v l := by
  rcases h with h | ⟨g, cap, cur, h1, h2, h3, h4⟩
  · refine .inl ⟨h.1, ?_⟩
    rcases h.2 with h1 | ⟨g, cap, cur, h1, h2, h3, h4⟩
    · exact .inl h1
    · exact .inr ⟨g, cap, cur, h1, h2, below_at hb h3 (zlt h3), h4⟩
  · exact .inr ⟨g, cap, cur, h1, h2, below_at hb h3 (zlt h3), h4⟩
theorem OwnM.alloc {w : World} {base : Nat} {v : Value} {l : List UInt8} (h : OwnM w base v l) (o : Obj) : OwnM (w.alloc o) base v l := h.below ((Below.refl _ _).alloc (Nat.le_refl _) _)
/-- What lies there. -/
theorem OwnM.any {w : World} {base : Nat} {v : Value} {l : List UInt8} (h : OwnM w base v l) (hl : 0 < l.length) : ∃ g gc, v = .slice (some ⟨g, 0, none⟩) l.length gc ∧ base ≤ g ∧ g < w.heap.size ∧ l.length ≤ gc ∧ gc ≤ maxLen ∧ ∀ j u, (Lib.byteCells l)[j]? = some u → w.cell? ⟨g, j, none⟩ = some u := by
  have key : ∀ (cur : Array Value), cur.toList.take l.length = Lib.byteCells l → ∀ (j : Nat) (u : Value), (Lib.byteCells l)[j]? = some u → cur[j]? = some u := by
    intro cur ht j u hu
    have hj : j < l.length := by have := (List.getElem?_eq_some_iff.1 hu).1; simpa [Lib.byteCells] using this
    rw [← ht, List.getElem?_take, if_pos hj] at hu
    simpa using hu
  rcases h with h | ⟨g, cap, cur, rfl, h2, h3, h4, h5, _, h6⟩
  · rcases h.2 with ⟨_, h2⟩ | ⟨g, cap, cur, h1, h2, h3, h4, h5, _, h7⟩
    · omega
    · rw [Nat.mul_one] at h7
      exact ⟨g, cap, h1, h2, zlt h3, h4, h5, fun j u hu => zcell h3 (key cur h7 j u hu)⟩
  · exact ⟨g, cap, rfl, h2, zlt h3, h4, h5, fun j u hu => zcell h3 (key cur h6 j u hu)⟩
section
variable {w : World} {ops : Array Oper} {rest : List Oper} {o : Oper} {a : Act} {Q : Exit → Act → World → Prop}
theorem zconvM (hgd : o.guard = none) (src dst : TypeId) (x : Operand) (ho : o.op = .convert src dst x) (s : ByteArray) (hx : a.eval x = .string s) {u : TypeDesc}
    (hs : Tryd.prog.underlying src = some u) (hd : Tryd.prog.underlying dst = some (.slice 5)) (hsz : s.size ≤ 1000000) (base : Nat) (hbase : base ≤ w.heap.size)
    (hK : ∀ v' w', OwnM w' base v' s.data.toList → w.grownBy w' none → w'.heap.size = w.heap.size + 1 → wpList Tryd.prog ops Q rest (a.put o.dst v') w') : wpList Tryd.prog ops Q (o :: rest) a w := by
  have hge := grownCap_ge w s.size 0 5
  have hcm := grownCap_le_maxLen w s.size 0 5 (by unfold maxLen; omega)
  have hcs : (Lib.bytesCells w 5 s).size = grownCap w s.size 0 5 := by
    have e : s.data.size = s.size := rfl
    simp only [Lib.bytesCells, Array.size_append, Array.size_map, Array.size_replicate, e]
    omega
  refine wpList_run (w' := Lib.bytesWorld w 5 s) hgd (v := .slice (some ⟨w.heap.size, 0, none⟩) s.size (grownCap w s.size 0 5)) ?_ (hK _ _ (.inr ⟨w.heap.size, _, _, rfl, hbase, Lib.bytesWorld_at_new w _ s, hge, hcm, hcs, ?_⟩) ⟨rfl, rfl, rfl, ?_, fun k hk _ => Lib.bytesWorld_at_old w _ s k hk⟩ (Lib.bytesWorld_size w _ s))
  · simp [execOp, ho, hx, Lib.run_convert_string_bytes w src dst 5 s hs hd Tryd.underlying5, Result.andThen]
  · simp only [Lib.bytesCells, Array.toList_append, Array.toList_map]
    rw [List.take_left' (by simp)]
    rfl
  · rw [Lib.bytesWorld_size]; omega
/-- 'append(v, b)'. -/
theorem zappM (hgd : o.guard = none) (x y : Operand) (ho : o.op = .call { callee := .builtin .append, args := #[x, y], argTypes := #[22, 22] })
    (v : Value) (hx : a.eval x = v) (kb c : Nat) (hy : a.eval y = .slice (some ⟨kb, 0, none⟩) 1 c) (b : UInt8) (hkb : w.cell? ⟨kb, 0, none⟩ = some (.int .u8 (b.toNat : Int)))
    (base : Nat) (l : List UInt8) (hown : OwnM w base v l) (hl : l.length < 900000) (hbase : base ≤ w.heap.size)
    (hK : ∀ v' w', OwnM w' base v' (l ++ [b]) → Below base w w' → base ≤ w'.heap.size → wpList Tryd.prog ops Q rest (a.put o.dst v') w') : wpList Tryd.prog ops Q (o :: rest) a w := by
  have hcells : ∀ j u, (Lib.byteCells [b])[j]? = some u → w.cell? ⟨kb, j, none⟩ = some u := by
    intro j u hu
    match j, hu with
    | 0, hu => simp [Lib.byteCells] at hu; rw [hkb, hu]
  rcases hown with hown | ⟨g, cap, cur, rfl, hg, hcur, hlc, hcm, hcs, ht⟩
  · refine zapp hgd x y ho v hx kb 1 c hy [b] rfl hcells base l hown (by omega) (by omega) hbase fun v' w' h1 h2 => hK v' w' (.inl h1) ?_ (Nat.le_trans hbase h2.size)
    exact ⟨h2.os, h2.tape, h2.output, h2.size, fun k hk => h2.block k (by omega) (fun e => by have := (World.ownsRow.lt hown k e.symm).1; omega)⟩
  · obtain ⟨i, hi, hz0, hz1, hz2⟩ := info_parts infoU8
    have hf := run_firstCells_some (P := Tryd.prog) w i.size 1 ⟨kb, 0, none⟩ 1 c (Lib.byteCells [b]) (by rw [hz1]; rfl) (fun j u hu => by rw [Addr.add_mid, Nat.zero_add]; exact hcells j u hu)
    rw [hz1] at hf
    by_cases hroom : l.length + 1 ≤ cap
    · have hc0 : w.cell? ⟨g, l.length, none⟩ = some (cur[l.length]'(by omega)) := zcell hcur (by simp)
      have hfz : w.frozen? ⟨g, l.length, none⟩ = false := by
        simp [World.frozen?, hcur]
        omega
      have hst1 : (store ⟨g, l.length, none⟩ (.int .u8 (b.toNat : Int))).run Tryd.prog w = .ok () (w.setCell ⟨g, l.length, none⟩ (.int .u8 (b.toNat : Int))) := by
        rw [run_store Tryd.prog w _ _ _ rfl, hc0]
        simp [hfz]
      have hr : (Builtin.append_ #[22, 22] o.type #[.slice (some ⟨g, 0, none⟩) l.length cap, .slice (some ⟨kb, 0, none⟩) 1 c]).run Tryd.prog w = .ok (.slice (some ⟨g, 0, none⟩) (l.length + 1) cap) (w.setCell ⟨g, l.length, none⟩ (.int .u8 (b.toNat : Int))) := by
        simp [Builtin.append_, run_underlying Tryd.underlying22, sizeOf, typeInfo, hi, Builtin.lenOf, hroom, hf, Addr.add_lit, storeCells, hz1, Lib.byteCells, hst1]
      have hs := Lib.heap_setCell_same (i := l.length) hcur (.int .u8 (b.toNat : Int))
      refine wpList_run (w' := w.setCell ⟨g, l.length, none⟩ (.int .u8 (b.toNat : Int))) hgd (v := .slice (some ⟨g, 0, none⟩) (l.length + 1) cap) ?_ (hK _ _ (.inr ⟨g, cap, cur.setIfInBounds l.length (.int .u8 (b.toNat : Int)), by simp, hg, by simpa using hs, by simpa using hroom, hcm, by simpa using hcs, ?_⟩) ?_ (by simp [World.setCell]; exact hbase))
      · simp [execOp, ho, resolve, invoke, builtin, hx, hy, hr, Result.andThen]
      · rw [show Lib.byteCells (l ++ [b]) = Lib.byteCells l ++ [.int .u8 (b.toNat : Int)] by simp [Lib.byteCells], ← ht, List.length_append, List.length_singleton, Array.toList_setIfInBounds]
        rw [List.take_add_one, List.take_set_of_le (Nat.le_refl _), List.getElem?_set_self (by show l.length < cur.toList.length; rw [Array.length_toList (xs := cur), hcs]; exact hroom)]
        rfl
      · exact (Below.refl base w).setCell (by exact hg) _
    · obtain rfl : cap = l.length := by omega
      have hc : ∀ j u, (Lib.byteCells l)[j]? = some u → w.cell? ⟨g, j, none⟩ = some u := by
        intro j u hu
        have hj : j < l.length := by have := (List.getElem?_eq_some_iff.1 hu).1; simpa [Lib.byteCells] using this
        rw [← ht, List.getElem?_take, if_pos hj] at hu
        exact zcell hcur (by simpa using hu)
      have hr := run_append_grow (P := Tryd.prog) w 22 o.type 5 i (.int .u8 0) Tryd.underlying22 hi hz0 ⟨g, 0, none⟩ l.length l.length (Lib.byteCells l) (by rw [hz1]; simp [Lib.byteCells]) (fun j u hu => by rw [Addr.add_mid, Nat.zero_add]; exact hc j u hu) ⟨kb, 0, none⟩ 1 c (Lib.byteCells [b]) (by rw [hz1]; simp [Lib.byteCells]) (fun j u hu => by rw [Addr.add_mid, Nat.zero_add]; exact hcells j u hu) (by omega) (by omega) (growslice_fits (by omega) (by rw [hz2]; omega))
      have hge := grownCap_ge w (l.length + 1) l.length 5
      have hcm := grownCap_le_maxLen w (l.length + 1) l.length 5 (by unfold maxLen; omega)
      obtain ⟨C, hCs, hCt, hr⟩ : ∃ C : Array Value, C.size = grownCap w (l.length + 1) l.length 5 ∧ C.toList.take (l.length + 1) = Lib.byteCells (l ++ [b]) ∧
          (Builtin.append_ #[22, 22] o.type #[.slice (some ⟨g, 0, none⟩) l.length l.length, .slice (some ⟨kb, 0, none⟩) 1 c]).run Tryd.prog w = .ok (.slice (some ⟨w.heap.size, 0, none⟩) (l.length + 1) (grownCap w (l.length + 1) l.length 5)) (w.drew.alloc (.cells C 5)) := by
        refine ⟨_, ?_, ?_, hr⟩
        · simp only [Array.size_append, List.size_toArray, size_zeroCells, Lib.byteCells_length, List.length_singleton]
          have : (Value.int IntKind.u8 0).cells.size = 1 := rfl
          rw [this]
          omega
        · simp only [Array.toList_append, List.append_assoc]
          rw [← List.append_assoc, show Lib.byteCells (l ++ [b]) = Lib.byteCells l ++ Lib.byteCells [b] by simp [Lib.byteCells]]
          have : (Lib.byteCells l ++ Lib.byteCells [b]).length = l.length + 1 := by simp [Lib.byteCells]
          rw [← this]
          exact List.take_left
      refine wpList_run (w' := w.drew.alloc (.cells C 5)) hgd (v := .slice (some ⟨w.heap.size, 0, none⟩) (l.length + 1) (grownCap w (l.length + 1) l.length 5)) ?_ (hK _ _ ?_ ?_ (by simp; omega))
      · simp [execOp, ho, resolve, invoke, builtin, hx, hy, hr, Result.andThen]
      · have e : (l ++ [b]).length = l.length + 1 := by simp
        refine .inl ?_
        unfold OwnB
        rw [e]
        exact ⟨by simp [Lib.byteCells], .inr ⟨w.heap.size, _, C, rfl, hbase, heap_alloc_new w.drew _, hge, hcm, by rw [Nat.mul_one]; exact hCs, by rw [Nat.mul_one]; exact hCt⟩⟩
      · exact ((Below.refl base w).drew).alloc hbase _
end
end Go.Proofs.YtpkgmoiffegbfaaDoor
