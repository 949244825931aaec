/- Layer 19: the bytes of what is sealed: the walks. Conditions: numbers of their kinds. -/
import Derived.Test.YtpkgmoiffegbfaaDoorZOpen
namespace Go.Proofs.YtpkgmoiffegbfaaDoor
open Go.RowKit Go.BigFrame
set_option maxRecDepth 100000

/-- A row that may be appended to: the call's own, or one that is full. -/
def AppB (w : World) (base : Nat) (v : Value) (l : List UInt8) : Prop := OwnB w base v l ∨ ∃ g, v = .slice (some ⟨g, 0, none⟩) l.length l.length ∧ g < w.heap.size ∧ ∀ j u, (Lib.byteCells l)[j]? = some u → w.cell? ⟨g, j, none⟩ = some u
theorem AppB.slice {w : World} {base : Nat} {v : Value} {l : List UInt8} (h : AppB w base v l) : ∃ a c, v = .slice a l.length c := by
  rcases h with h | ⟨g, h, _⟩
  · exact h.slice
  · exact ⟨_, _, h⟩
theorem AppB.alloc {w : World} {base : Nat} {v : Value} {l : List UInt8} (h : AppB w base v l) (o : Obj) : AppB (w.alloc o) base v l := by
  rcases h with h | ⟨g, h1, h2, h3⟩
  · exact .inl (World.ownsRow.alloc h o)
  · refine .inr ⟨g, h1, by simp; omega, fun j u hu => ?_⟩
    exact (World.grownBy_alloc w o none).cell (h3 j u hu) (by simp)
section
variable {w : World} {ops : Array Oper} {rest : List Oper} {o : Oper} {a : Act} {Q : Exit → Act → World → Prop}
/-- 'append(v, c)'. -/
theorem zappG (hgd : o.guard = none) (x y : Operand) (ho : o.op = .call { callee := .builtin .append, args := #[x, y], argTypes := #[22, 22] })
    (v : Value) (hx : a.eval x = v) (kb c : Nat) (hy : a.eval y = .slice (some ⟨kb, 0, none⟩) 1 c) (b : UInt8) (hkb : w.cell? ⟨kb, 0, none⟩ = some (.int .u8 (b.toNat : Int)))
    (base : Nat) (l : List UInt8) (hown : AppB w base v l) (hl : l.length < 1000000) (hbase : base ≤ w.heap.size)
    (hK : ∀ v' w', OwnB w' base v' (l ++ [b]) → Below base w w' → wpList Tryd.prog ops Q rest (a.put o.dst v') w') : wpList Tryd.prog ops Q (o :: rest) a w := by
  have hcells : ∀ j u, (Lib.byteCells [b])[j]? = some u → w.cell? ⟨kb, j, none⟩ = some u := by
    intro j u hu
    match j, hu with
    | 0, hu => simp [Lib.byteCells] at hu; rw [hkb, hu]
  rcases hown with hown | ⟨g, rfl, hg, hc⟩
  · refine zapp hgd x y ho v hx kb 1 c hy [b] rfl hcells base l hown hl (by omega) hbase fun v' w' h1 h2 => hK v' w' h1 ?_
    exact ⟨h2.os, h2.tape, h2.output, h2.size, fun k hk => h2.block k (by omega) (fun e => by have := (World.ownsRow.lt hown k e.symm).1; omega)⟩
  · obtain ⟨i, hi, hz0, hz1, hz2⟩ := info_parts infoU8
    have hr := run_append_grow (P := Tryd.prog) w 22 o.type 5 i (.int .u8 0) Tryd.underlying22 hi hz0 ⟨g, 0, none⟩ l.length l.length (Lib.byteCells l) (by rw [hz1]; simp [Lib.byteCells]) (fun j u hu => by rw [zadd, Nat.zero_add]; exact hc j u hu) ⟨kb, 0, none⟩ 1 c (Lib.byteCells [b]) (by rw [hz1]; simp [Lib.byteCells]) (fun j u hu => by rw [zadd, Nat.zero_add]; exact hcells j u hu) (by omega) (by omega) (growslice_fits (by omega) (by rw [hz2]; omega))
    have hge := grownCap_ge w (l.length + 1) l.length 5
    have hcm := grownCap_le_maxLen w (l.length + 1) l.length 5 (by unfold maxLen; omega)
    obtain ⟨C, hCs, hCt, hr⟩ : ∃ C : Array Value, C.size = grownCap w (l.length + 1) l.length 5 ∧ C.toList.take (l.length + 1) = Lib.byteCells (l ++ [b]) ∧
        (Builtin.append_ #[22, 22] o.type #[.slice (some ⟨g, 0, none⟩) l.length l.length, .slice (some ⟨kb, 0, none⟩) 1 c]).run Tryd.prog w = .ok (.slice (some ⟨w.heap.size, 0, none⟩) (l.length + 1) (grownCap w (l.length + 1) l.length 5)) (w.drew.alloc (.cells C 5)) := by
      refine ⟨_, ?_, ?_, hr⟩
      · simp only [Array.size_append, List.size_toArray, size_zeroCells, Lib.byteCells_length, List.length_singleton]
        have : (Value.int IntKind.u8 0).cells.size = 1 := rfl
        rw [this]
        omega
      · simp only [Array.toList_append, List.append_assoc]
        rw [← List.append_assoc, show Lib.byteCells (l ++ [b]) = Lib.byteCells l ++ Lib.byteCells [b] by simp [Lib.byteCells]]
        have : (Lib.byteCells l ++ Lib.byteCells [b]).length = l.length + 1 := by simp [Lib.byteCells]
        rw [← this]
        exact List.take_left
    refine wpList_run (w' := w.drew.alloc (.cells C 5)) hgd (v := .slice (some ⟨w.heap.size, 0, none⟩) (l.length + 1) (grownCap w (l.length + 1) l.length 5)) ?_ (hK _ _ ?_ ?_)
    · simp [execOp, ho, resolve, invoke, builtin, hx, hy, hr, Result.andThen]
    · have e : (l ++ [b]).length = l.length + 1 := by simp
      unfold OwnB
      rw [e]
      exact ⟨by simp [Lib.byteCells], .inr ⟨w.heap.size, _, C, rfl, hbase, heap_alloc_new w.drew _, hge, hcm, by rw [Nat.mul_one]; exact hCs, by rw [Nat.mul_one]; exact hCt⟩⟩
    · exact ((Below.refl base w).drew).alloc hbase _
end

/-- An int as a uint64. -/
def u64of (r : Int) : Nat := (r % 18446744073709551616).toNat
/-- What eight answers. -/
def EightP (w : World) (base : Nat) (l : List UInt8) (e : Ending) (w' : World) : Prop := ∃ v', e = .returned v' ∧ OwnB w' base v' l ∧ Below base w w'
theorem World_slice {w : World} {base : Nat} {v : Value} {l : List UInt8} (h : OwnB w base v l) : ∃ a c, v = .slice a l.length c := h.slice
theorem u64of_wrap (r : Int) : IntKind.u64.wrap r = ((u64of r : Nat) : Int) := by
  unfold u64of
  simp [IntKind.wrap, IntKind.bits, IntKind.signed]
  omega
set_option maxHeartbeats 4000000 in
theorem eightI_any (w : World) (base : Nat) (v : Value) (l : List UInt8) (r : Int) (hr : -9223372036854775808 ≤ r ∧ r ≤ 9223372036854775807) (hv : AppB w base v l) (hl : l.length < 100000) (hbase : base ≤ w.heap.size) :
    Calls Tryd.prog 36 #[v, .int .i64 r] w (EightP w base (l ++ be8 (u64of r))) := by
  have HR := hide hr
  obtain ⟨X, hX⟩ : ∃ X, X = u64of r := ⟨_, rfl⟩
  have eX : IntKind.u64.wrap r = (X : Int) := by rw [hX]; exact u64of_wrap r
  have HX := hide hX
  clear hr hX
  obtain ⟨a, c, rfl⟩ := hv.slice
  go_enter Tryd.func36, Tryd.ntmps36
  go_wp2_with fail
  refine wp_loop_rounds 9 ?_
  rw [rounds_succ]
  go_wp2_with ((with_reducible show wpList _ _ _ (⟨some 17, _, _, _, _, _⟩ :: _) _ _); refine Hid.out ?_)
  refine hide ?_
  refine zappG rfl _ _ rfl _ rfl w.heap.size 1 rfl (UInt8.ofNat (X / 2 ^ 56)) (by
    have e : (X : Int) / 72057594037927936 % 256 = ((UInt8.ofNat (X / 2 ^ 56)).toNat : Int) := wrap8N X 56
    rw [e]
    exact zcell (new_at _ _) rfl) base (l) (hv.alloc _) (by first | omega | (simp only [List.length_append, List.length_singleton, List.length_cons, List.length_nil]; omega)) (by simp; omega) ?_
  intro v0 w0 hO0 hB'
  have hB0 : Below base w w0 := (Below.refl base w).alloc (by first | exact hbase | omega) _ |>.trans hB'
  have hZ0 : base ≤ w0.heap.size := Nat.le_trans (by simp; omega) hB'.size
  clear hB' hv
  obtain ⟨a0, c0, rfl⟩ := World_slice hO0
  rw [show ((l) ++ [UInt8.ofNat (X / 2 ^ 56)]).length = l.length + 1 by simp only [List.length_append, List.length_singleton, List.length_cons, List.length_nil]] at hO0 ⊢
  go_wp2_with fail
  rw [rounds_succ]
  go_wp2_with ((with_reducible show wpList _ _ _ (⟨some 17, _, _, _, _, _⟩ :: _) _ _); refine Hid.out ?_)
  refine hide ?_
  refine zappG rfl _ _ rfl _ rfl w0.heap.size 1 rfl (UInt8.ofNat (X / 2 ^ 48)) (by
    have e : (X : Int) / 281474976710656 % 256 = ((UInt8.ofNat (X / 2 ^ 48)).toNat : Int) := wrap8N X 48
    rw [e]
    exact zcell (new_at _ _) rfl) base (l ++ [UInt8.ofNat (X / 2 ^ 56)]) ((.inl (World.ownsRow.alloc hO0 _))) (by first | omega | (simp only [List.length_append, List.length_singleton, List.length_cons, List.length_nil]; omega)) (by simp; omega) ?_
  intro v1 w1 hO1 hB'
  have hB1 : Below base w w1 := hB0.alloc (by first | exact hZ0 | omega) _ |>.trans hB'
  have hZ1 : base ≤ w1.heap.size := Nat.le_trans (by simp; omega) hB'.size
  clear hB' hO0 hB0 hZ0
  obtain ⟨a1, c1, rfl⟩ := World_slice hO1
  rw [show ((l ++ [UInt8.ofNat (X / 2 ^ 56)]) ++ [UInt8.ofNat (X / 2 ^ 48)]).length = l.length + 2 by simp only [List.length_append, List.length_singleton, List.length_cons, List.length_nil]] at hO1 ⊢
  go_wp2_with fail
  rw [rounds_succ]
  go_wp2_with ((with_reducible show wpList _ _ _ (⟨some 17, _, _, _, _, _⟩ :: _) _ _); refine Hid.out ?_)
  refine hide ?_
  refine zappG rfl _ _ rfl _ rfl w1.heap.size 1 rfl (UInt8.ofNat (X / 2 ^ 40)) (by
    have e : (X : Int) / 1099511627776 % 256 = ((UInt8.ofNat (X / 2 ^ 40)).toNat : Int) := wrap8N X 40
    rw [e]
    exact zcell (new_at _ _) rfl) base (l ++ [UInt8.ofNat (X / 2 ^ 56)] ++ [UInt8.ofNat (X / 2 ^ 48)]) ((.inl (World.ownsRow.alloc hO1 _))) (by first | omega | (simp only [List.length_append, List.length_singleton, List.length_cons, List.length_nil]; omega)) (by simp; omega) ?_
  intro v2 w2 hO2 hB'
  have hB2 : Below base w w2 := hB1.alloc (by first | exact hZ1 | omega) _ |>.trans hB'
  have hZ2 : base ≤ w2.heap.size := Nat.le_trans (by simp; omega) hB'.size
  clear hB' hO1 hB1 hZ1
  obtain ⟨a2, c2, rfl⟩ := World_slice hO2
  rw [show ((l ++ [UInt8.ofNat (X / 2 ^ 56)] ++ [UInt8.ofNat (X / 2 ^ 48)]) ++ [UInt8.ofNat (X / 2 ^ 40)]).length = l.length + 3 by simp only [List.length_append, List.length_singleton, List.length_cons, List.length_nil]] at hO2 ⊢
  go_wp2_with fail
  rw [rounds_succ]
  go_wp2_with ((with_reducible show wpList _ _ _ (⟨some 17, _, _, _, _, _⟩ :: _) _ _); refine Hid.out ?_)
  refine hide ?_
  refine zappG rfl _ _ rfl _ rfl w2.heap.size 1 rfl (UInt8.ofNat (X / 2 ^ 32)) (by
    have e : (X : Int) / 4294967296 % 256 = ((UInt8.ofNat (X / 2 ^ 32)).toNat : Int) := wrap8N X 32
    rw [e]
    exact zcell (new_at _ _) rfl) base (l ++ [UInt8.ofNat (X / 2 ^ 56)] ++ [UInt8.ofNat (X / 2 ^ 48)] ++ [UInt8.ofNat (X / 2 ^ 40)]) ((.inl (World.ownsRow.alloc hO2 _))) (by first | omega | (simp only [List.length_append, List.length_singleton, List.length_cons, List.length_nil]; omega)) (by simp; omega) ?_
  intro v3 w3 hO3 hB'
  have hB3 : Below base w w3 := hB2.alloc (by first | exact hZ2 | omega) _ |>.trans hB'
  have hZ3 : base ≤ w3.heap.size := Nat.le_trans (by simp; omega) hB'.size
  clear hB' hO2 hB2 hZ2
  obtain ⟨a3, c3, rfl⟩ := World_slice hO3
  rw [show ((l ++ [UInt8.ofNat (X / 2 ^ 56)] ++ [UInt8.ofNat (X / 2 ^ 48)] ++ [UInt8.ofNat (X / 2 ^ 40)]) ++ [UInt8.ofNat (X / 2 ^ 32)]).length = l.length + 4 by simp only [List.length_append, List.length_singleton, List.length_cons, List.length_nil]] at hO3 ⊢
  go_wp2_with fail
  rw [rounds_succ]
  go_wp2_with ((with_reducible show wpList _ _ _ (⟨some 17, _, _, _, _, _⟩ :: _) _ _); refine Hid.out ?_)
  refine hide ?_
  refine zappG rfl _ _ rfl _ rfl w3.heap.size 1 rfl (UInt8.ofNat (X / 2 ^ 24)) (by
    have e : (X : Int) / 16777216 % 256 = ((UInt8.ofNat (X / 2 ^ 24)).toNat : Int) := wrap8N X 24
    rw [e]
    exact zcell (new_at _ _) rfl) base (l ++ [UInt8.ofNat (X / 2 ^ 56)] ++ [UInt8.ofNat (X / 2 ^ 48)] ++ [UInt8.ofNat (X / 2 ^ 40)] ++ [UInt8.ofNat (X / 2 ^ 32)]) ((.inl (World.ownsRow.alloc hO3 _))) (by first | omega | (simp only [List.length_append, List.length_singleton, List.length_cons, List.length_nil]; omega)) (by simp; omega) ?_
  intro v4 w4 hO4 hB'
  have hB4 : Below base w w4 := hB3.alloc (by first | exact hZ3 | omega) _ |>.trans hB'
  have hZ4 : base ≤ w4.heap.size := Nat.le_trans (by simp; omega) hB'.size
  clear hB' hO3 hB3 hZ3
  obtain ⟨a4, c4, rfl⟩ := World_slice hO4
  rw [show ((l ++ [UInt8.ofNat (X / 2 ^ 56)] ++ [UInt8.ofNat (X / 2 ^ 48)] ++ [UInt8.ofNat (X / 2 ^ 40)] ++ [UInt8.ofNat (X / 2 ^ 32)]) ++ [UInt8.ofNat (X / 2 ^ 24)]).length = l.length + 5 by simp only [List.length_append, List.length_singleton, List.length_cons, List.length_nil]] at hO4 ⊢
  go_wp2_with fail
  rw [rounds_succ]
  go_wp2_with ((with_reducible show wpList _ _ _ (⟨some 17, _, _, _, _, _⟩ :: _) _ _); refine Hid.out ?_)
  refine hide ?_
  refine zappG rfl _ _ rfl _ rfl w4.heap.size 1 rfl (UInt8.ofNat (X / 2 ^ 16)) (by
    have e : (X : Int) / 65536 % 256 = ((UInt8.ofNat (X / 2 ^ 16)).toNat : Int) := wrap8N X 16
    rw [e]
    exact zcell (new_at _ _) rfl) base (l ++ [UInt8.ofNat (X / 2 ^ 56)] ++ [UInt8.ofNat (X / 2 ^ 48)] ++ [UInt8.ofNat (X / 2 ^ 40)] ++ [UInt8.ofNat (X / 2 ^ 32)] ++ [UInt8.ofNat (X / 2 ^ 24)]) ((.inl (World.ownsRow.alloc hO4 _))) (by first | omega | (simp only [List.length_append, List.length_singleton, List.length_cons, List.length_nil]; omega)) (by simp; omega) ?_
  intro v5 w5 hO5 hB'
  have hB5 : Below base w w5 := hB4.alloc (by first | exact hZ4 | omega) _ |>.trans hB'
  have hZ5 : base ≤ w5.heap.size := Nat.le_trans (by simp; omega) hB'.size
  clear hB' hO4 hB4 hZ4
  obtain ⟨a5, c5, rfl⟩ := World_slice hO5
  rw [show ((l ++ [UInt8.ofNat (X / 2 ^ 56)] ++ [UInt8.ofNat (X / 2 ^ 48)] ++ [UInt8.ofNat (X / 2 ^ 40)] ++ [UInt8.ofNat (X / 2 ^ 32)] ++ [UInt8.ofNat (X / 2 ^ 24)]) ++ [UInt8.ofNat (X / 2 ^ 16)]).length = l.length + 6 by simp only [List.length_append, List.length_singleton, List.length_cons, List.length_nil]] at hO5 ⊢
  go_wp2_with fail
  rw [rounds_succ]
  go_wp2_with ((with_reducible show wpList _ _ _ (⟨some 17, _, _, _, _, _⟩ :: _) _ _); refine Hid.out ?_)
  refine hide ?_
  refine zappG rfl _ _ rfl _ rfl w5.heap.size 1 rfl (UInt8.ofNat (X / 2 ^ 8)) (by
    have e : (X : Int) / 256 % 256 = ((UInt8.ofNat (X / 2 ^ 8)).toNat : Int) := wrap8N X 8
    rw [e]
    exact zcell (new_at _ _) rfl) base (l ++ [UInt8.ofNat (X / 2 ^ 56)] ++ [UInt8.ofNat (X / 2 ^ 48)] ++ [UInt8.ofNat (X / 2 ^ 40)] ++ [UInt8.ofNat (X / 2 ^ 32)] ++ [UInt8.ofNat (X / 2 ^ 24)] ++ [UInt8.ofNat (X / 2 ^ 16)]) ((.inl (World.ownsRow.alloc hO5 _))) (by first | omega | (simp only [List.length_append, List.length_singleton, List.length_cons, List.length_nil]; omega)) (by simp; omega) ?_
  intro v6 w6 hO6 hB'
  have hB6 : Below base w w6 := hB5.alloc (by first | exact hZ5 | omega) _ |>.trans hB'
  have hZ6 : base ≤ w6.heap.size := Nat.le_trans (by simp; omega) hB'.size
  clear hB' hO5 hB5 hZ5
  obtain ⟨a6, c6, rfl⟩ := World_slice hO6
  rw [show ((l ++ [UInt8.ofNat (X / 2 ^ 56)] ++ [UInt8.ofNat (X / 2 ^ 48)] ++ [UInt8.ofNat (X / 2 ^ 40)] ++ [UInt8.ofNat (X / 2 ^ 32)] ++ [UInt8.ofNat (X / 2 ^ 24)] ++ [UInt8.ofNat (X / 2 ^ 16)]) ++ [UInt8.ofNat (X / 2 ^ 8)]).length = l.length + 7 by simp only [List.length_append, List.length_singleton, List.length_cons, List.length_nil]] at hO6 ⊢
  go_wp2_with fail
  rw [rounds_succ]
  go_wp2_with ((with_reducible show wpList _ _ _ (⟨some 17, _, _, _, _, _⟩ :: _) _ _); refine Hid.out ?_)
  refine hide ?_
  refine zappG rfl _ _ rfl _ rfl w6.heap.size 1 rfl (UInt8.ofNat (X / 2 ^ 0)) (by
    have e : (X : Int) % 256 = ((UInt8.ofNat (X / 2 ^ 0)).toNat : Int) := by have := wrap8N X 0; simpa only [Nat.pow_zero, Nat.div_one, Int.pow_zero, Int.ediv_one] using this
    rw [e]
    exact zcell (new_at _ _) rfl) base (l ++ [UInt8.ofNat (X / 2 ^ 56)] ++ [UInt8.ofNat (X / 2 ^ 48)] ++ [UInt8.ofNat (X / 2 ^ 40)] ++ [UInt8.ofNat (X / 2 ^ 32)] ++ [UInt8.ofNat (X / 2 ^ 24)] ++ [UInt8.ofNat (X / 2 ^ 16)] ++ [UInt8.ofNat (X / 2 ^ 8)]) ((.inl (World.ownsRow.alloc hO6 _))) (by first | omega | (simp only [List.length_append, List.length_singleton, List.length_cons, List.length_nil]; omega)) (by simp; omega) ?_
  intro v7 w7 hO7 hB'
  have hB7 : Below base w w7 := hB6.alloc (by first | exact hZ6 | omega) _ |>.trans hB'
  have hZ7 : base ≤ w7.heap.size := Nat.le_trans (by simp; omega) hB'.size
  clear hB' hO6 hB6 hZ6
  obtain ⟨a7, c7, rfl⟩ := World_slice hO7
  rw [show ((l ++ [UInt8.ofNat (X / 2 ^ 56)] ++ [UInt8.ofNat (X / 2 ^ 48)] ++ [UInt8.ofNat (X / 2 ^ 40)] ++ [UInt8.ofNat (X / 2 ^ 32)] ++ [UInt8.ofNat (X / 2 ^ 24)] ++ [UInt8.ofNat (X / 2 ^ 16)] ++ [UInt8.ofNat (X / 2 ^ 8)]) ++ [UInt8.ofNat (X / 2 ^ 0)]).length = l.length + 8 by simp only [List.length_append, List.length_singleton, List.length_cons, List.length_nil]] at hO7 ⊢
  go_wp2_with fail
  rw [rounds_succ]
  go_wp2
  go_ret
  refine ⟨_, rfl, ?_, hB7⟩
  have e : l ++ [UInt8.ofNat (X / 2 ^ 56)] ++ [UInt8.ofNat (X / 2 ^ 48)] ++ [UInt8.ofNat (X / 2 ^ 40)] ++ [UInt8.ofNat (X / 2 ^ 32)] ++ [UInt8.ofNat (X / 2 ^ 24)] ++ [UInt8.ofNat (X / 2 ^ 16)] ++ [UInt8.ofNat (X / 2 ^ 8)] ++ [UInt8.ofNat (X / 2 ^ 0)] = l ++ be8 X := by simp [be8]
  
  have hO := hO7
  rw [e] at hO
  rw [HX.out] at hO
  exact hO
set_option maxHeartbeats 4000000 in
theorem eightU_any (w : World) (base : Nat) (v : Value) (l : List UInt8) (X : Nat) (hv : AppB w base v l) (hl : l.length < 100000) (hbase : base ≤ w.heap.size) :
    Calls Tryd.prog 37 #[v, .int .u64 (X : Int)] w (EightP w base (l ++ be8 X)) := by
  obtain ⟨a, c, rfl⟩ := hv.slice
  go_enter Tryd.func37, Tryd.ntmps37
  go_wp2_with fail
  refine wp_loop_rounds 9 ?_
  rw [rounds_succ]
  go_wp2_with ((with_reducible show wpList _ _ _ (⟨some 16, _, _, _, _, _⟩ :: _) _ _); refine Hid.out ?_)
  refine hide ?_
  refine zappG rfl _ _ rfl _ rfl w.heap.size 1 rfl (UInt8.ofNat (X / 2 ^ 56)) (by
    have e : (X : Int) / 72057594037927936 % 256 = ((UInt8.ofNat (X / 2 ^ 56)).toNat : Int) := wrap8N X 56
    rw [e]
    exact zcell (new_at _ _) rfl) base (l) (hv.alloc _) (by first | omega | (simp only [List.length_append, List.length_singleton, List.length_cons, List.length_nil]; omega)) (by simp; omega) ?_
  intro v0 w0 hO0 hB'
  have hB0 : Below base w w0 := (Below.refl base w).alloc (by first | exact hbase | omega) _ |>.trans hB'
  have hZ0 : base ≤ w0.heap.size := Nat.le_trans (by simp; omega) hB'.size
  clear hB' hv
  obtain ⟨a0, c0, rfl⟩ := World_slice hO0
  rw [show ((l) ++ [UInt8.ofNat (X / 2 ^ 56)]).length = l.length + 1 by simp only [List.length_append, List.length_singleton, List.length_cons, List.length_nil]] at hO0 ⊢
  go_wp2_with fail
  rw [rounds_succ]
  go_wp2_with ((with_reducible show wpList _ _ _ (⟨some 16, _, _, _, _, _⟩ :: _) _ _); refine Hid.out ?_)
  refine hide ?_
  refine zappG rfl _ _ rfl _ rfl w0.heap.size 1 rfl (UInt8.ofNat (X / 2 ^ 48)) (by
    have e : (X : Int) / 281474976710656 % 256 = ((UInt8.ofNat (X / 2 ^ 48)).toNat : Int) := wrap8N X 48
    rw [e]
    exact zcell (new_at _ _) rfl) base (l ++ [UInt8.ofNat (X / 2 ^ 56)]) ((.inl (World.ownsRow.alloc hO0 _))) (by first | omega | (simp only [List.length_append, List.length_singleton, List.length_cons, List.length_nil]; omega)) (by simp; omega) ?_
  intro v1 w1 hO1 hB'
  have hB1 : Below base w w1 := hB0.alloc (by first | exact hZ0 | omega) _ |>.trans hB'
  have hZ1 : base ≤ w1.heap.size := Nat.le_trans (by simp; omega) hB'.size
  clear hB' hO0 hB0 hZ0
  obtain ⟨a1, c1, rfl⟩ := World_slice hO1
  rw [show ((l ++ [UInt8.ofNat (X / 2 ^ 56)]) ++ [UInt8.ofNat (X / 2 ^ 48)]).length = l.length + 2 by simp only [List.length_append, List.length_singleton, List.length_cons, List.length_nil]] at hO1 ⊢
  go_wp2_with fail
  rw [rounds_succ]
  go_wp2_with ((with_reducible show wpList _ _ _ (⟨some 16, _, _, _, _, _⟩ :: _) _ _); refine Hid.out ?_)
  refine hide ?_
  refine zappG rfl _ _ rfl _ rfl w1.heap.size 1 rfl (UInt8.ofNat (X / 2 ^ 40)) (by
    have e : (X : Int) / 1099511627776 % 256 = ((UInt8.ofNat (X / 2 ^ 40)).toNat : Int) := wrap8N X 40
    rw [e]
    exact zcell (new_at _ _) rfl) base (l ++ [UInt8.ofNat (X / 2 ^ 56)] ++ [UInt8.ofNat (X / 2 ^ 48)]) ((.inl (World.ownsRow.alloc hO1 _))) (by first | omega | (simp only [List.length_append, List.length_singleton, List.length_cons, List.length_nil]; omega)) (by simp; omega) ?_
  intro v2 w2 hO2 hB'
  have hB2 : Below base w w2 := hB1.alloc (by first | exact hZ1 | omega) _ |>.trans hB'
  have hZ2 : base ≤ w2.heap.size := Nat.le_trans (by simp; omega) hB'.size
  clear hB' hO1 hB1 hZ1
  obtain ⟨a2, c2, rfl⟩ := World_slice hO2
  rw [show ((l ++ [UInt8.ofNat (X / 2 ^ 56)] ++ [UInt8.ofNat (X / 2 ^ 48)]) ++ [UInt8.ofNat (X / 2 ^ 40)]).length = l.length + 3 by simp only [List.length_append, List.length_singleton, List.length_cons, List.length_nil]] at hO2 ⊢
  go_wp2_with fail
  rw [rounds_succ]
  go_wp2_with ((with_reducible show wpList _ _ _ (⟨some 16, _, _, _, _, _⟩ :: _) _ _); refine Hid.out ?_)
  refine hide ?_
  refine zappG rfl _ _ rfl _ rfl w2.heap.size 1 rfl (UInt8.ofNat (X / 2 ^ 32)) (by
    have e : (X : Int) / 4294967296 % 256 = ((UInt8.ofNat (X / 2 ^ 32)).toNat : Int) := wrap8N X 32
    rw [e]
    exact zcell (new_at _ _) rfl) base (l ++ [UInt8.ofNat (X / 2 ^ 56)] ++ [UInt8.ofNat (X / 2 ^ 48)] ++ [UInt8.ofNat (X / 2 ^ 40)]) ((.inl (World.ownsRow.alloc hO2 _))) (by first | omega | (simp only [List.length_append, List.length_singleton, List.length_cons, List.length_nil]; omega)) (by simp; omega) ?_
  intro v3 w3 hO3 hB'
  have hB3 : Below base w w3 := hB2.alloc (by first | exact hZ2 | omega) _ |>.trans hB'
  have hZ3 : base ≤ w3.heap.size := Nat.le_trans (by simp; omega) hB'.size
  clear hB' hO2 hB2 hZ2
  obtain ⟨a3, c3, rfl⟩ := World_slice hO3
  rw [show ((l ++ [UInt8.ofNat (X / 2 ^ 56)] ++ [UInt8.ofNat (X / 2 ^ 48)] ++ [UInt8.ofNat (X / 2 ^ 40)]) ++ [UInt8.ofNat (X / 2 ^ 32)]).length = l.length + 4 by simp only [List.length_append, List.length_singleton, List.length_cons, List.length_nil]] at hO3 ⊢
  go_wp2_with fail
  rw [rounds_succ]
  go_wp2_with ((with_reducible show wpList _ _ _ (⟨some 16, _, _, _, _, _⟩ :: _) _ _); refine Hid.out ?_)
  refine hide ?_
  refine zappG rfl _ _ rfl _ rfl w3.heap.size 1 rfl (UInt8.ofNat (X / 2 ^ 24)) (by
    have e : (X : Int) / 16777216 % 256 = ((UInt8.ofNat (X / 2 ^ 24)).toNat : Int) := wrap8N X 24
    rw [e]
    exact zcell (new_at _ _) rfl) base (l ++ [UInt8.ofNat (X / 2 ^ 56)] ++ [UInt8.ofNat (X / 2 ^ 48)] ++ [UInt8.ofNat (X / 2 ^ 40)] ++ [UInt8.ofNat (X / 2 ^ 32)]) ((.inl (World.ownsRow.alloc hO3 _))) (by first | omega | (simp only [List.length_append, List.length_singleton, List.length_cons, List.length_nil]; omega)) (by simp; omega) ?_
  intro v4 w4 hO4 hB'
  have hB4 : Below base w w4 := hB3.alloc (by first | exact hZ3 | omega) _ |>.trans hB'
  have hZ4 : base ≤ w4.heap.size := Nat.le_trans (by simp; omega) hB'.size
  clear hB' hO3 hB3 hZ3
  obtain ⟨a4, c4, rfl⟩ := World_slice hO4
  rw [show ((l ++ [UInt8.ofNat (X / 2 ^ 56)] ++ [UInt8.ofNat (X / 2 ^ 48)] ++ [UInt8.ofNat (X / 2 ^ 40)] ++ [UInt8.ofNat (X / 2 ^ 32)]) ++ [UInt8.ofNat (X / 2 ^ 24)]).length = l.length + 5 by simp only [List.length_append, List.length_singleton, List.length_cons, List.length_nil]] at hO4 ⊢
  go_wp2_with fail
  rw [rounds_succ]
  go_wp2_with ((with_reducible show wpList _ _ _ (⟨some 16, _, _, _, _, _⟩ :: _) _ _); refine Hid.out ?_)
  refine hide ?_
  refine zappG rfl _ _ rfl _ rfl w4.heap.size 1 rfl (UInt8.ofNat (X / 2 ^ 16)) (by
    have e : (X : Int) / 65536 % 256 = ((UInt8.ofNat (X / 2 ^ 16)).toNat : Int) := wrap8N X 16
    rw [e]
    exact zcell (new_at _ _) rfl) base (l ++ [UInt8.ofNat (X / 2 ^ 56)] ++ [UInt8.ofNat (X / 2 ^ 48)] ++ [UInt8.ofNat (X / 2 ^ 40)] ++ [UInt8.ofNat (X / 2 ^ 32)] ++ [UInt8.ofNat (X / 2 ^ 24)]) ((.inl (World.ownsRow.alloc hO4 _))) (by first | omega | (simp only [List.length_append, List.length_singleton, List.length_cons, List.length_nil]; omega)) (by simp; omega) ?_
  intro v5 w5 hO5 hB'
  have hB5 : Below base w w5 := hB4.alloc (by first | exact hZ4 | omega) _ |>.trans hB'
  have hZ5 : base ≤ w5.heap.size := Nat.le_trans (by simp; omega) hB'.size
  clear hB' hO4 hB4 hZ4
  obtain ⟨a5, c5, rfl⟩ := World_slice hO5
  rw [show ((l ++ [UInt8.ofNat (X / 2 ^ 56)] ++ [UInt8.ofNat (X / 2 ^ 48)] ++ [UInt8.ofNat (X / 2 ^ 40)] ++ [UInt8.ofNat (X / 2 ^ 32)] ++ [UInt8.ofNat (X / 2 ^ 24)]) ++ [UInt8.ofNat (X / 2 ^ 16)]).length = l.length + 6 by simp only [List.length_append, List.length_singleton, List.length_cons, List.length_nil]] at hO5 ⊢
  go_wp2_with fail
  rw [rounds_succ]
  go_wp2_with ((with_reducible show wpList _ _ _ (⟨some 16, _, _, _, _, _⟩ :: _) _ _); refine Hid.out ?_)
  refine hide ?_
  refine zappG rfl _ _ rfl _ rfl w5.heap.size 1 rfl (UInt8.ofNat (X / 2 ^ 8)) (by
    have e : (X : Int) / 256 % 256 = ((UInt8.ofNat (X / 2 ^ 8)).toNat : Int) := wrap8N X 8
    rw [e]
    exact zcell (new_at _ _) rfl) base (l ++ [UInt8.ofNat (X / 2 ^ 56)] ++ [UInt8.ofNat (X / 2 ^ 48)] ++ [UInt8.ofNat (X / 2 ^ 40)] ++ [UInt8.ofNat (X / 2 ^ 32)] ++ [UInt8.ofNat (X / 2 ^ 24)] ++ [UInt8.ofNat (X / 2 ^ 16)]) ((.inl (World.ownsRow.alloc hO5 _))) (by first | omega | (simp only [List.length_append, List.length_singleton, List.length_cons, List.length_nil]; omega)) (by simp; omega) ?_
  intro v6 w6 hO6 hB'
  have hB6 : Below base w w6 := hB5.alloc (by first | exact hZ5 | omega) _ |>.trans hB'
  have hZ6 : base ≤ w6.heap.size := Nat.le_trans (by simp; omega) hB'.size
  clear hB' hO5 hB5 hZ5
  obtain ⟨a6, c6, rfl⟩ := World_slice hO6
  rw [show ((l ++ [UInt8.ofNat (X / 2 ^ 56)] ++ [UInt8.ofNat (X / 2 ^ 48)] ++ [UInt8.ofNat (X / 2 ^ 40)] ++ [UInt8.ofNat (X / 2 ^ 32)] ++ [UInt8.ofNat (X / 2 ^ 24)] ++ [UInt8.ofNat (X / 2 ^ 16)]) ++ [UInt8.ofNat (X / 2 ^ 8)]).length = l.length + 7 by simp only [List.length_append, List.length_singleton, List.length_cons, List.length_nil]] at hO6 ⊢
  go_wp2_with fail
  rw [rounds_succ]
  go_wp2_with ((with_reducible show wpList _ _ _ (⟨some 16, _, _, _, _, _⟩ :: _) _ _); refine Hid.out ?_)
  refine hide ?_
  refine zappG rfl _ _ rfl _ rfl w6.heap.size 1 rfl (UInt8.ofNat (X / 2 ^ 0)) (by
    have e : (X : Int) % 256 = ((UInt8.ofNat (X / 2 ^ 0)).toNat : Int) := by have := wrap8N X 0; simpa only [Nat.pow_zero, Nat.div_one, Int.pow_zero, Int.ediv_one] using this
    rw [e]
    exact zcell (new_at _ _) rfl) base (l ++ [UInt8.ofNat (X / 2 ^ 56)] ++ [UInt8.ofNat (X / 2 ^ 48)] ++ [UInt8.ofNat (X / 2 ^ 40)] ++ [UInt8.ofNat (X / 2 ^ 32)] ++ [UInt8.ofNat (X / 2 ^ 24)] ++ [UInt8.ofNat (X / 2 ^ 16)] ++ [UInt8.ofNat (X / 2 ^ 8)]) ((.inl (World.ownsRow.alloc hO6 _))) (by first | omega | (simp only [List.length_append, List.length_singleton, List.length_cons, List.length_nil]; omega)) (by simp; omega) ?_
  intro v7 w7 hO7 hB'
  have hB7 : Below base w w7 := hB6.alloc (by first | exact hZ6 | omega) _ |>.trans hB'
  have hZ7 : base ≤ w7.heap.size := Nat.le_trans (by simp; omega) hB'.size
  clear hB' hO6 hB6 hZ6
  obtain ⟨a7, c7, rfl⟩ := World_slice hO7
  rw [show ((l ++ [UInt8.ofNat (X / 2 ^ 56)] ++ [UInt8.ofNat (X / 2 ^ 48)] ++ [UInt8.ofNat (X / 2 ^ 40)] ++ [UInt8.ofNat (X / 2 ^ 32)] ++ [UInt8.ofNat (X / 2 ^ 24)] ++ [UInt8.ofNat (X / 2 ^ 16)] ++ [UInt8.ofNat (X / 2 ^ 8)]) ++ [UInt8.ofNat (X / 2 ^ 0)]).length = l.length + 8 by simp only [List.length_append, List.length_singleton, List.length_cons, List.length_nil]] at hO7 ⊢
  go_wp2_with fail
  rw [rounds_succ]
  go_wp2
  go_ret
  refine ⟨_, rfl, ?_, hB7⟩
  have e : l ++ [UInt8.ofNat (X / 2 ^ 56)] ++ [UInt8.ofNat (X / 2 ^ 48)] ++ [UInt8.ofNat (X / 2 ^ 40)] ++ [UInt8.ofNat (X / 2 ^ 32)] ++ [UInt8.ofNat (X / 2 ^ 24)] ++ [UInt8.ofNat (X / 2 ^ 16)] ++ [UInt8.ofNat (X / 2 ^ 8)] ++ [UInt8.ofNat (X / 2 ^ 0)] = l ++ be8 X := by simp [be8]
  
  have hO := hO7
  rw [e] at hO
  exact hO
end Go.Proofs.YtpkgmoiffegbfaaDoor
