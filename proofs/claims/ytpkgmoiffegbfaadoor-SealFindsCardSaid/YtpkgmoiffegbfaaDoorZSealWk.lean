/- Layer 19: the chapter's examples: the walk. Condition: what the two variables of sha hold. -/
import Derived.Test.YtpkgmoiffegbfaaDoorZRows
import Derived.Laws.ResultCell
namespace Go.Proofs.YtpkgmoiffegbfaaDoor
open Go.RowKit Go.BigFrame
set_option maxRecDepth 100000
attribute [local go_sem ↓] exec_loadZ exec_eqlZ exec_neqZ exec_zeroZ
attribute [local go_sem] loadRow eqRow digEq_dg isDig_dg objAt_drew

/-- The chapter's example. -/
def xE : Se := ⟨1, 2, 3, 258⟩
def yE : Se := ⟨9, 0, 0, 0⟩
def tE : ByteArray := ⟨#[99, 111, 110, 115, 105, 103, 110, 0, 0, 0, 0, 0, 0, 0, 1, 0, 0, 0, 0, 0, 0, 0, 2, 0, 0, 0, 0, 0, 0, 0, 3, 0, 0, 0, 0, 0, 0, 1, 2]⟩
theorem xE_ok : xE.Ok := by unfold Se.Ok xE; simp
theorem yE_ok : yE.Ok := by unfold Se.Ok yE; simp
theorem xE_bytes : (⟨(seB xE).toArray⟩ : ByteArray) = tE := by kernel_rfl
theorem tE_list : tE.data.toList = seB xE := by kernel_rfl
theorem sum_tE : shaOf K64 F0 tE.data.toList = comS xE := by rw [comS, tE_list]
theorem size_tE : tE.size = 39 := rfl
theorem sealed_any (w : World) : Calls Tryd.prog 35 #[] w fun e w' => e = .returned (.tuple #[.agg xE.cells.toArray, .string tE]) ∧ Below w.heap.size w w' := by
  go_enter Tryd.func35, Tryd.ntmps35
  go_wp2
  have hg := new_at w (.cells xE.cells.toArray 41)
  have hr := run_loadVar_row (P := Tryd.prog) (w.alloc (.cells xE.cells.toArray 41)) w.heap.size 41 41 _ _ _ hg Tryd.underlying41 rfl sizeSealed
  refine bodyPost_ret (v := .tuple #[.agg xE.cells.toArray, .string tE]) ?_ rfl ⟨rfl, (Below.refl _ _).alloc (Nat.le_refl _) _⟩
  rw [results_cell_tmp (p := 0) (u := 1) (ty := 41) rfl]
  have ha : ∀ W : World, (asAddr (.pointer (some ⟨w.heap.size, 0, none⟩))).run Tryd.prog W = .ok ⟨w.heap.size, 0, none⟩ W := fun _ => rfl
  show (((asAddr (.pointer (some ⟨w.heap.size, 0, none⟩))).run Tryd.prog (w.alloc (.cells xE.cells.toArray 41))).andThen fun a w₁ => ((loadVar 41 a).run Tryd.prog w₁).andThen fun v w₂ => .ok (Value.tuple #[v, .string tE]) w₂) = _
  rw [ha]
  show (((loadVar 41 ⟨w.heap.size, 0, none⟩).run Tryd.prog (w.alloc (.cells xE.cells.toArray 41))).andThen fun v w₂ => .ok (Value.tuple #[v, .string tE]) w₂) = _
  rw [hr]
  rfl

theorem nil_ahead_commit2 (w : World) : (nilAhead 208 71 (.agg #[]) "Commit").run Tryd.prog w = .ok (some false) w := by kernel_rfl
theorem method_commit2 (w : World) : (method 208 71 (.agg #[]) "Commit").run Tryd.prog w = .ok (67, .agg #[]) w := by kernel_rfl
theorem nil_ahead_opens2 (w : World) : (nilAhead 208 71 (.agg #[]) "Opens").run Tryd.prog w = .ok (some false) w := by kernel_rfl
theorem method_opens2 (w : World) : (method 208 71 (.agg #[]) "Opens").run Tryd.prog w = .ok (68, .agg #[]) w := by kernel_rfl

/-- What stays while the examples are asked: two things in blocks of their own. -/
def WkC (N : Nat) (w0 : World) (xb yb : Nat) (x y : Se) (w : World) : Prop := Glob F0 K64 w ∧ w.heap[xb]? = some (.cells x.cells.toArray 41 (0, 0)) ∧ w.heap[yb]? = some (.cells y.cells.toArray 41 (0, 0)) ∧ Below N w0 w ∧ N ≤ w.heap.size
theorem WkC.below {N : Nat} {w0 : World} {xb yb : Nat} {x y : Se} {w w' : World} (h : WkC N w0 xb yb x y w) (hb : Below w.heap.size w w') : WkC N w0 xb yb x y w' := by
  obtain ⟨h1, h2, h3, h4, h5⟩ := h
  exact ⟨h1.below hb, below_at hb h2 (zlt h2), below_at hb h3 (zlt h3), h4.trans (hb.mono (by omega)), Nat.le_trans h5 hb.size⟩
theorem nil_ahead_commit (w : World) : (nilAhead 157 71 (.agg #[]) "Commit").run Tryd.prog w = .ok (some false) w := by kernel_rfl
theorem method_commit (w : World) : (method 157 71 (.agg #[]) "Commit").run Tryd.prog w = .ok (67, .agg #[]) w := by kernel_rfl
theorem WkC.drew {N : Nat} {w0 : World} {xb yb : Nat} {x y : Se} {w : World} (h : WkC N w0 xb yb x y w) : WkC N w0 xb yb x y w.drew := ⟨h.1, h.2.1, h.2.2.1, h.2.2.2.1.drew, h.2.2.2.2⟩
theorem zzeroSe : (Tryd.prog.info? 41).map (·.zero) = some (some (.agg #[.int .i64 0, .int .i64 0, .int .u64 0, .int .u64 0])) := by kernel_rfl
theorem seC_one (x : Se) : x.cells.toArray.all (·.oneCell') = true := by simp [Se.cells, Value.oneCell']
theorem z32_length : z32.length = 32 := by kernel_rfl
theorem ne_z32 : decide (comS xE = z32) = false := by kernel_rfl
theorem found_ex : foundL true [comS xE, z32, comS yE] [yE, xE, xE] = [1, -1, 0] := by kernel_rfl
theorem OwnI.three {w : World} {base : Nat} {v : Value} {a b c : Int} (h : OwnI w base v [a, b, c]) : ∃ g cap, v = .slice (some ⟨g, 0, none⟩) 3 cap ∧ g < w.heap.size ∧ w.cell? ⟨g, 0, none⟩ = some (.int .i64 a) ∧ w.cell? ⟨g, 1, none⟩ = some (.int .i64 b) ∧ w.cell? ⟨g, 2, none⟩ = some (.int .i64 c) := by
  rcases h.2 with ⟨_, h2⟩ | ⟨g, cap, cur, h1, _, hg, _, _, _, ht⟩
  · cases h2
  · have key : ∀ i (hi : i < 3), w.cell? ⟨g, i, none⟩ = [Value.int .i64 a, .int .i64 b, .int .i64 c][i]? := by
      intro i hi
      have h3 : (cur.toList.take (3 * 1))[i]? = [Value.int .i64 a, .int .i64 b, .int .i64 c][i]? := by
        have : cur.toList.take (3 * 1) = [Value.int .i64 a, .int .i64 b, .int .i64 c] := ht
        rw [this]
      rw [List.getElem?_take_of_lt (by omega)] at h3
      rw [← h3]
      have h4 : i < [Value.int .i64 a, .int .i64 b, .int .i64 c].length := hi
      rw [List.getElem?_eq_getElem h4] at h3
      rw [h3]
      exact zcell hg (by rw [← Array.getElem?_toList]; exact h3)
    exact ⟨g, cap, h1, zlt hg, key 0 (by decide), key 1 (by decide), key 2 (by decide)⟩
/-- The same, with what was found. -/
def W7C (N : Nat) (w0 : World) (xb yb : Nat) (x y : Se) (g : Nat) (w : World) : Prop := WkC N w0 xb yb x y w ∧ g < w.heap.size ∧ w.cell? ⟨g, 0, none⟩ = some (.int .i64 1) ∧ w.cell? ⟨g, 1, none⟩ = some (.int .i64 (-1)) ∧ w.cell? ⟨g, 2, none⟩ = some (.int .i64 0)
theorem W7C.below {N : Nat} {w0 : World} {xb yb : Nat} {x y : Se} {g : Nat} {w w' : World} (h : W7C N w0 xb yb x y g w) (hb : Below w.heap.size w w') : W7C N w0 xb yb x y g w' := by
  obtain ⟨h1, h2, h3, h4, h5⟩ := h
  exact ⟨h1.below hb, Nat.lt_of_lt_of_le h2 hb.size, (hb.cell (p := ⟨g, 0, none⟩) h2).trans h3, (hb.cell (p := ⟨g, 1, none⟩) h2).trans h4, (hb.cell (p := ⟨g, 2, none⟩) h2).trans h5⟩
theorem W7C.drew {N : Nat} {w0 : World} {xb yb : Nat} {x y : Se} {g : Nat} {w : World} (h : W7C N w0 xb yb x y g w) : W7C N w0 xb yb x y g w.drew := ⟨h.1.drew, h.2⟩
/-- What the slots hold. -/
def w6R (x y : Se) : Nat → Value → World → Prop
  | 0, u, _ => u = .iface 71 (.agg #[])
  | 1, u, _ => u = .iface 71 (.agg #[])
  | 2, u, _ => u = .agg x.cells.toArray
  | 3, u, _ => u = .agg (dg (comS x))
  | 4, u, _ => u = .agg (dg z32)
  | 5, u, _ => u = .iface 71 (.agg #[])
  | 6, u, _ => u = .agg y.cells.toArray
  | 7, u, _ => u = .agg (dg (comS y))
  | 8, u, w => IsRow 28 Lib.byteCells [comS x, z32, comS y] u w
  | 9, u, _ => u = .agg y.cells.toArray
  | 10, u, _ => u = .agg x.cells.toArray
  | 11, u, _ => u = .agg x.cells.toArray
  | _, u, w => IsRow 41 Se.cells [y, x, x] u w
theorem w6R_below {x y : Se} {j : Nat} {u : Value} {w w' : World} (h : w6R x y j u w) (hb : Below w.heap.size w w') : w6R x y j u w' := by
  match j, h with
  | 0, h | 1, h | 2, h | 3, h | 4, h | 5, h | 6, h | 7, h | 9, h | 10, h | 11, h => exact h
  | 8, h => exact IsRow.below h hb
  | j + 12, h => exact IsRow.below h hb

set_option maxHeartbeats 4000000 in
theorem sworks_any (w : World) (hG : Glob F0 K64 w) : Calls Tryd.prog 23 #[] w fun e w' => e = .returned (.bool true) ∧ Below w.heap.size w w' := by
  have HG := hide hG
  clear hG
  go_enter Tryd.func23, Tryd.ntmps23
  go_wp2_with fail
  refine (ssum_any w).mono ?_
  rintro e w2 ⟨rfl, rfl⟩
  go_wp2_with fail
  refine (sealed_any w).mono ?_
  rintro e w2 ⟨rfl, hB2⟩
  have hG2 := HG.out.below hB2
  have hT1 := xE_bytes
  have hT2 := sum_tE
  have hT3 : tE.size ≤ 1000000 := by rw [size_tE]; omega
  generalize tE = T at hT1 hT2 hT3 ⊢
  have HT := hide (And.intro hT1 (And.intro hT2 hT3))
  clear hT1 hT2 hT3
  go_wp2_with ((with_reducible show wpList _ _ _ (⟨some 2, Op.alloc _, _, _, _, _⟩ :: _) _ _); refine Hid.out ?_)
  refine hide ?_
  refine zallocK rfl 41 rfl _ zzeroSe ?_
  intro w3 hg3 hw3 hs3
  obtain ⟨xb, hxb⟩ : ∃ xb, xb = w2.heap.size := ⟨_, rfl⟩
  have hN2 := hB2.size
  have hB3 : Below w.heap.size w w3 := below_grown hB2 hw3 hN2 (by intro k e; cases e)
  have hG3 := hG2.below (below_grown (Below.refl _ _) hw3 (Nat.le_refl _) (by intro k e; cases e))
  obtain ⟨N, hN⟩ : ∃ N, N = w.heap.size := ⟨_, rfl⟩
  rw [← hxb] at hg3 hs3 hN2 ⊢
  rw [← hN] at hB3 hN2
  have HN := hide hN
  have h1N : 1 < N := by rw [hN]; exact HG.out.2.2.2
  clear hw3 hG2 hB2 hxb hN
  go_wp2_with ((with_reducible show wpList _ _ _ (⟨none, Op.store _ _ _, _, _, _, _⟩ :: _) _ _); refine Hid.out ?_)
  refine hide ?_
  refine law_store rfl _ _ _ rfl xb xE.cells.toArray rfl rfl _ _ hg3 sizeSealed rfl (seC_one _) ?_
  intro w4 hx4' hw4
  have hx4 := hx4'.out
  have hB4 := below_grown hB3 hw4 (by omega) (by intro k e; cases e; omega)
  have hG4 := hG3.grown hw4 (by omega)
  have hz4 := zlt hx4
  clear hx4' hw4 hB3 hG3 hg3 hs3
  go_wp2_with ((with_reducible show wpList _ _ _ (⟨some 4, Op.alloc _, _, _, _, _⟩ :: _) _ _); refine Hid.out ?_)
  refine hide ?_
  refine zallocK rfl 41 rfl _ zzeroSe ?_
  intro w5 hg5 hw5 hs5
  obtain ⟨yb, hyb⟩ : ∃ yb, yb = w4.heap.size := ⟨_, rfl⟩
  have hB5 := below_grown hB4 hw5 (by omega) (by intro k e; cases e)
  have hG5 := hG4.below (below_grown (Below.refl _ _) hw5 (Nat.le_refl _) (by intro k e; cases e))
  have hx5 := (hw5.block xb hz4 (by simp)).trans hx4
  rw [← hyb] at hg5 hs5 hz4 ⊢
  clear hw5 hG4 hB4 hyb hx4
  go_wp2_with ((with_reducible show wpList _ _ _ (⟨none, Op.store _ _ _, _, _, _, _⟩ :: _) _ _); refine Hid.out ?_)
  refine hide ?_
  refine law_store rfl _ _ _ rfl yb yE.cells.toArray rfl rfl _ _ hg5 sizeSealed rfl (seC_one _) ?_
  intro w6 hy6' hw6
  have hC6 : WkC N w xb yb xE yE w6 := ⟨hG5.grown hw6 (by omega), (hw6.block xb (by omega) (by simp; omega)).trans hx5, hy6'.out, below_grown hB5 hw6 (by omega) (by intro k e; cases e; omega), by have := zlt hy6'.out; omega⟩
  clear hy6' hw6 hg5 hs5 hx5 hB5 hG5 hz4 hN2
  obtain ⟨x, hxx⟩ : ∃ x, x = xE := ⟨_, rfl⟩
  obtain ⟨y, hyy⟩ : ∃ y, y = yE := ⟨_, rfl⟩
  rw [← hxx, ← hyy] at hC6
  have hx : x.Ok := hxx ▸ xE_ok
  have hy : y.Ok := hyy ▸ yE_ok
  have HX := hide hxx
  have HY := hide hyy
  clear hxx hyy
  go_upto_region 6 with (fail)
  refine region_slots 13 [14, 15, 16, 17, 18, 19, 20, 21, 22, 23, 24, 25, 26] (by kernel_rfl) (by kernel_rfl) (by decide) rfl 81 rfl (by decide) (by kernel_rfl)
    (SlI 13 (WkC N w xb yb x y) (w6R x y)) ?_ ?_ ?_
  · intro v
    exact SlI.start hC6.drew v
  · intro i hi
    match i, hi with
    | 0, _ =>
      intro S v w1 f o ho hf hI hS hall K Q' hK
      obtain rfl := Option.some.inj ho
      have e1 : f.tmps[1]?.getD undef = .iface 71 (.agg #[]) := tmp_of (hf 1)
      simp [go_sem, e1]
      exact hK _ _ (hI.stay 0 _ rfl)
    | 1, _ =>
      intro S v w1 f o ho hf hI hS hall K Q' hK
      obtain rfl := Option.some.inj ho
      have e1 : f.tmps[1]?.getD undef = .iface 71 (.agg #[]) := tmp_of (hf 1)
      simp [go_sem, e1]
      exact hK _ _ (hI.stay 1 _ rfl)
    | 5, _ =>
      intro S v w1 f o ho hf hI hS hall K Q' hK
      obtain rfl := Option.some.inj ho
      have e1 : f.tmps[1]?.getD undef = .iface 71 (.agg #[]) := tmp_of (hf 1)
      simp [go_sem, e1]
      exact hK _ _ (hI.stay 5 _ rfl)
    | 2, _ =>
      intro S v w1 f o ho hf hI hS hall K Q' hK
      obtain rfl := Option.some.inj ho
      have e1 : f.tmps[2]?.getD undef = .pointer (some ⟨xb, 0, none⟩) := tmp_of (hf 2)
      have c0 : w1.cell? ⟨xb, 0, none⟩ = some (.int .i64 x.r) := zcell hI.1.2.1 rfl
      have c1 : w1.cell? ⟨xb, 1, none⟩ = some (.int .i64 x.c) := zcell hI.1.2.1 rfl
      have c2 : w1.cell? ⟨xb, 2, none⟩ = some (.int .u64 x.b) := zcell hI.1.2.1 rfl
      have c3 : w1.cell? ⟨xb, 3, none⟩ = some (.int .u64 x.n) := zcell hI.1.2.1 rfl
      simp [go_sem, e1, c0, c1, c2, c3]
      exact hK _ _ (hI.stay 2 _ rfl)
    | 10, _ =>
      intro S v w1 f o ho hf hI hS hall K Q' hK
      obtain rfl := Option.some.inj ho
      have e1 : f.tmps[2]?.getD undef = .pointer (some ⟨xb, 0, none⟩) := tmp_of (hf 2)
      have c0 : w1.cell? ⟨xb, 0, none⟩ = some (.int .i64 x.r) := zcell hI.1.2.1 rfl
      have c1 : w1.cell? ⟨xb, 1, none⟩ = some (.int .i64 x.c) := zcell hI.1.2.1 rfl
      have c2 : w1.cell? ⟨xb, 2, none⟩ = some (.int .u64 x.b) := zcell hI.1.2.1 rfl
      have c3 : w1.cell? ⟨xb, 3, none⟩ = some (.int .u64 x.n) := zcell hI.1.2.1 rfl
      simp [go_sem, e1, c0, c1, c2, c3]
      exact hK _ _ (hI.stay 10 _ rfl)
    | 11, _ =>
      intro S v w1 f o ho hf hI hS hall K Q' hK
      obtain rfl := Option.some.inj ho
      have e1 : f.tmps[2]?.getD undef = .pointer (some ⟨xb, 0, none⟩) := tmp_of (hf 2)
      have c0 : w1.cell? ⟨xb, 0, none⟩ = some (.int .i64 x.r) := zcell hI.1.2.1 rfl
      have c1 : w1.cell? ⟨xb, 1, none⟩ = some (.int .i64 x.c) := zcell hI.1.2.1 rfl
      have c2 : w1.cell? ⟨xb, 2, none⟩ = some (.int .u64 x.b) := zcell hI.1.2.1 rfl
      have c3 : w1.cell? ⟨xb, 3, none⟩ = some (.int .u64 x.n) := zcell hI.1.2.1 rfl
      simp [go_sem, e1, c0, c1, c2, c3]
      exact hK _ _ (hI.stay 11 _ rfl)
    | 6, _ =>
      intro S v w1 f o ho hf hI hS hall K Q' hK
      obtain rfl := Option.some.inj ho
      have e1 : f.tmps[4]?.getD undef = .pointer (some ⟨yb, 0, none⟩) := tmp_of (hf 4)
      have c0 : w1.cell? ⟨yb, 0, none⟩ = some (.int .i64 y.r) := zcell hI.1.2.2.1 rfl
      have c1 : w1.cell? ⟨yb, 1, none⟩ = some (.int .i64 y.c) := zcell hI.1.2.2.1 rfl
      have c2 : w1.cell? ⟨yb, 2, none⟩ = some (.int .u64 y.b) := zcell hI.1.2.2.1 rfl
      have c3 : w1.cell? ⟨yb, 3, none⟩ = some (.int .u64 y.n) := zcell hI.1.2.2.1 rfl
      simp [go_sem, e1, c0, c1, c2, c3]
      exact hK _ _ (hI.stay 6 _ rfl)
    | 9, _ =>
      intro S v w1 f o ho hf hI hS hall K Q' hK
      obtain rfl := Option.some.inj ho
      have e1 : f.tmps[4]?.getD undef = .pointer (some ⟨yb, 0, none⟩) := tmp_of (hf 4)
      have c0 : w1.cell? ⟨yb, 0, none⟩ = some (.int .i64 y.r) := zcell hI.1.2.2.1 rfl
      have c1 : w1.cell? ⟨yb, 1, none⟩ = some (.int .i64 y.c) := zcell hI.1.2.2.1 rfl
      have c2 : w1.cell? ⟨yb, 2, none⟩ = some (.int .u64 y.b) := zcell hI.1.2.2.1 rfl
      have c3 : w1.cell? ⟨yb, 3, none⟩ = some (.int .u64 y.n) := zcell hI.1.2.2.1 rfl
      simp [go_sem, e1, c0, c1, c2, c3]
      exact hK _ _ (hI.stay 9 _ rfl)
    | 3, _ =>
      intro S v w1 f o ho hf hI hS hall K Q' hK
      obtain rfl := Option.some.inj ho
      have es : f.tmps[15]?.getD undef = .iface 71 (.agg #[]) := tmp_of ((hf 15).trans (hI.2 1 (by decide) (edge_listed hall 1 (by kernel_rfl))))
      have ex : f.tmps[16]?.getD undef = .agg x.cells.toArray := tmp_of ((hf 16).trans (hI.2 2 (by decide) (edge_listed hall 2 (by kernel_rfl))))
      have nm := nil_ahead_commit
      have mm := method_commit
      simp [go_sem, es, ex, nm, mm]
      refine (scommit_any w1 x hx hI.1.1).mono ?_
      rintro e w2 ⟨rfl, hb⟩
      exact hK _ _ (hI.step 3 _ (hI.1.below hb) (fun _ _ h => w6R_below h hb) rfl)
    | 7, _ =>
      intro S v w1 f o ho hf hI hS hall K Q' hK
      obtain rfl := Option.some.inj ho
      have es : f.tmps[19]?.getD undef = .iface 71 (.agg #[]) := tmp_of ((hf 19).trans (hI.2 5 (by decide) (edge_listed hall 5 (by kernel_rfl))))
      have ex : f.tmps[20]?.getD undef = .agg y.cells.toArray := tmp_of ((hf 20).trans (hI.2 6 (by decide) (edge_listed hall 6 (by kernel_rfl))))
      have nm := nil_ahead_commit
      have mm := method_commit
      simp [go_sem, es, ex, nm, mm]
      refine (scommit_any w1 y hy hI.1.1).mono ?_
      rintro e w2 ⟨rfl, hb⟩
      exact hK _ _ (hI.step 7 _ (hI.1.below hb) (fun _ _ h => w6R_below h hb) rfl)
    | 4, _ =>
      intro S v w1 f o ho hf hI hS hall K Q' hK
      obtain rfl := Option.some.inj ho
      simp [go_sem]
      exact hK _ _ (hI.stay 4 _ rfl)
    | 8, _ =>
      intro S v w1 f o ho hf hI hS hall K Q' hK
      obtain rfl := Option.some.inj ho
      have ea : f.eval (.tmp 17) = .agg (dg (comS x)) := (hf 17).trans (hI.2 3 (by decide) (edge_listed hall 3 (by kernel_rfl)))
      have eb : f.eval (.tmp 18) = .agg (dg z32) := (hf 18).trans (hI.2 4 (by decide) (edge_listed hall 4 (by kernel_rfl)))
      have ec : f.eval (.tmp 21) = .agg (dg (comS y)) := (hf 21).trans (hI.2 7 (by decide) (edge_listed hall 7 (by kernel_rfl)))
      refine wp_digs _ [comS x, z32, comS y] rfl (by simp) (by simp) (by intro D hD; simp only [List.mem_cons, List.not_mem_nil, or_false] at hD; rcases hD with rfl | rfl | rfl <;> first | exact comS_length _ | exact z32_length) (by simp [ea, eb, ec]) ?_
      intro u w2 hr hb
      exact hK _ _ (hI.step 8 _ (hI.1.below hb) (fun _ _ h => w6R_below h hb) hr)
    | 12, _ =>
      intro S v w1 f o ho hf hI hS hall K Q' hK
      obtain rfl := Option.some.inj ho
      have ea : f.eval (.tmp 23) = .agg y.cells.toArray := (hf 23).trans (hI.2 9 (by decide) (edge_listed hall 9 (by kernel_rfl)))
      have eb : f.eval (.tmp 24) = .agg x.cells.toArray := (hf 24).trans (hI.2 10 (by decide) (edge_listed hall 10 (by kernel_rfl)))
      have ec : f.eval (.tmp 25) = .agg x.cells.toArray := (hf 25).trans (hI.2 11 (by decide) (edge_listed hall 11 (by kernel_rfl)))
      refine wp_seals _ [y, x, x] rfl (by simp) (by simp) (by simp [ea, eb, ec]) ?_
      intro u w2 hr hb
      exact hK _ _ (hI.step 12 _ (hI.1.below hb) (fun _ _ h => w6R_below h hb) hr)
    | i + 13, hi => exact absurd hi (by omega)
  · intro S v wh hS hI
    have e0 : v 0 = .iface 71 (.agg #[]) := hI.2 0 (by decide) (hS 0 (by decide))
    have e1 : v 1 = .iface 71 (.agg #[]) := hI.2 1 (by decide) (hS 1 (by decide))
    have e2 : v 2 = .agg x.cells.toArray := hI.2 2 (by decide) (hS 2 (by decide))
    have e3 : v 3 = .agg (dg (comS x)) := hI.2 3 (by decide) (hS 3 (by decide))
    have e4 : v 4 = .agg (dg z32) := hI.2 4 (by decide) (hS 4 (by decide))
    have e5 : v 5 = .iface 71 (.agg #[]) := hI.2 5 (by decide) (hS 5 (by decide))
    have e6 : v 6 = .agg y.cells.toArray := hI.2 6 (by decide) (hS 6 (by decide))
    have e7 : v 7 = .agg (dg (comS y)) := hI.2 7 (by decide) (hS 7 (by decide))
    have r8 : IsRow 28 Lib.byteCells [comS x, z32, comS y] (v 8) wh := hI.2 8 (by decide) (hS 8 (by decide))
    have e9 : v 9 = .agg y.cells.toArray := hI.2 9 (by decide) (hS 9 (by decide))
    have e10 : v 10 = .agg x.cells.toArray := hI.2 10 (by decide) (hS 10 (by decide))
    have e11 : v 11 = .agg x.cells.toArray := hI.2 11 (by decide) (hS 11 (by decide))
    have r12 : IsRow 41 Se.cells [y, x, x] (v 12) wh := hI.2 12 (by decide) (hS 12 (by decide))
    obtain ⟨ma, e8, hm8⟩ := r8.rows (k := 32) (by intro D hD; rw [show (Lib.byteCells D).length = D.length by simp [Lib.byteCells]]; simp only [List.mem_cons, List.not_mem_nil, or_false] at hD; rcases hD with rfl | rfl | rfl <;> first | exact comS_length _ | exact z32_length)
    obtain ⟨la, e12, hm12⟩ := r12.rows (k := 4) (fun _ _ => rfl)
    have hC7 := hI.1
    simp only [putSlots, Act.put, List.setIfInBounds_toArray, List.set_cons_succ, List.set_cons_zero, List.drop_succ_cons, List.drop_zero, e0, e1, e2, e3, e4, e5, e6, e7, e8, e9, e10, e11, e12]
    clear hI hS e0 e1 e2 e3 e4 e5 e6 e7 e8 e9 e10 e11 e12 r8 r12 hC6
    go_wp2_with fail
    refine (opened_any true wh hC7.1 ma 3 [comS x, z32, comS y] (by intro D hD; simp only [List.mem_cons, List.not_mem_nil, or_false] at hD; rcases hD with rfl | rfl | rfl <;> first | exact comS_length _ | exact z32_length) (by simp) hm8 la 3 [y, x, x] (by simp) (by intro z hz; simp only [List.mem_cons, List.not_mem_nil, or_false] at hz; rcases hz with rfl | rfl | rfl <;> first | exact hx | exact hy) hm12).mono ?_
    rintro e w8 ⟨vo, rfl, ho8, hB8⟩
    have hC8 := hC7.below hB8
    rw [HX.out, HY.out, found_ex] at ho8
    obtain ⟨g, cap, rfl, hg8⟩ := ho8.three
    clear hB8 hC7 hm8 hm12
    have h8C : W7C N w xb yb x y g w8 := ⟨hC8, hg8⟩
    clear hC8 hg8
    obtain ⟨CX, hCX⟩ : ∃ CX, CX = comS x := ⟨_, rfl⟩
    obtain ⟨CY, hCY⟩ : ∃ CY, CY = comS y := ⟨_, rfl⟩
    have hl1 : CX.length = 32 := hCX ▸ comS_length x
    rw [← hCX, ← hCY]
    have HCX := hide hCX
    clear hCX hCY ho8
    go_upto_region 7 with (fail)
    refine zquiet (C := W7C N w xb yb x y g) (by kernel_rfl) (by kernel_rfl) h8C.drew ?_
    go_big_quiet_want; go_big_quiet_op; refine ⟨.agg x.cells.toArray, fun wq hq => ?_, ?_⟩
    · have c0 : wq.cell? ⟨xb, 0, none⟩ = some (.int .i64 x.r) := zcell hq.1.2.1 rfl
      have c1 : wq.cell? ⟨xb, 1, none⟩ = some (.int .i64 x.c) := zcell hq.1.2.1 rfl
      have c2 : wq.cell? ⟨xb, 2, none⟩ = some (.int .u64 x.b) := zcell hq.1.2.1 rfl
      have c3 : wq.cell? ⟨xb, 3, none⟩ = some (.int .u64 x.n) := zcell hq.1.2.1 rfl
      simp [go_sem, c0, c1, c2, c3, Se.cells]
    go_big_quiet_on
    go_big_quiet_want; go_big_quiet_op; refine ⟨.string T, fun wq hq => ?_, ?_⟩
    · exact (bytes_any wq x hx).mono fun e w' ⟨he, hb⟩ => ⟨by rw [he, HX.out, HT.out.1], hq.below hb⟩
    go_big_quiet_on
    iterate 1 (go_big_quiet_want; go_big_quiet_op; first | go_big_quiet_on | (refine ⟨_, fun _ _ => rfl, ?_⟩; go_big_quiet_on))
    go_big_quiet_want; go_big_quiet_op; refine ⟨.bool true, fun wq hq => ?_, ?_⟩
    · rfl
    go_big_quiet_on
    iterate 2 (go_big_quiet_want; go_big_quiet_op; first | go_big_quiet_on | (refine ⟨_, fun _ _ => rfl, ?_⟩; go_big_quiet_on))
    go_big_quiet_want; go_big_quiet_op; refine ⟨.agg x.cells.toArray, fun wq hq => ?_, ?_⟩
    · have c0 : wq.cell? ⟨xb, 0, none⟩ = some (.int .i64 x.r) := zcell hq.1.2.1 rfl
      have c1 : wq.cell? ⟨xb, 1, none⟩ = some (.int .i64 x.c) := zcell hq.1.2.1 rfl
      have c2 : wq.cell? ⟨xb, 2, none⟩ = some (.int .u64 x.b) := zcell hq.1.2.1 rfl
      have c3 : wq.cell? ⟨xb, 3, none⟩ = some (.int .u64 x.n) := zcell hq.1.2.1 rfl
      simp [go_sem, c0, c1, c2, c3, Se.cells]
    go_big_quiet_on
    go_big_quiet_want; go_big_quiet_op; refine ⟨.agg (dg CX), fun wq hq => ?_, ?_⟩
    · have nm := nil_ahead_commit2
      have mm := method_commit2
      simp [go_sem, nm, mm]
      exact (scommit_any wq x hx hq.1.1).mono fun e w' ⟨he, hb⟩ => ⟨by rw [he, HCX.out], hq.below hb⟩
    go_big_quiet_on
    iterate 1 (go_big_quiet_want; go_big_quiet_op; first | go_big_quiet_on | (refine ⟨_, fun _ _ => rfl, ?_⟩; go_big_quiet_on))
    go_big_quiet_want; go_big_quiet_op; refine ⟨.agg (dg CX), fun wq hq => ?_, ?_⟩
    · exact (hash_sum wq K64 F0 T hq.1.1 HT.out.2.2).mono fun e w' ⟨he, hb⟩ => ⟨by rw [he, HT.out.2.1, ← HX.out, HCX.out], hq.below hb⟩
    go_big_quiet_on
    go_big_quiet_want; go_big_quiet_op; refine ⟨.bool true, fun wq hq => ?_, ?_⟩
    · rfl
    go_big_quiet_on
    iterate 2 (go_big_quiet_want; go_big_quiet_op; first | go_big_quiet_on | (refine ⟨_, fun _ _ => rfl, ?_⟩; go_big_quiet_on))
    iterate 2 (go_big_quiet_want; go_big_quiet_op; first | go_big_quiet_on | (refine ⟨_, fun _ _ => rfl, ?_⟩; go_big_quiet_on))
    go_big_quiet_want; go_big_quiet_op; refine ⟨.agg x.cells.toArray, fun wq hq => ?_, ?_⟩
    · have c0 : wq.cell? ⟨xb, 0, none⟩ = some (.int .i64 x.r) := zcell hq.1.2.1 rfl
      have c1 : wq.cell? ⟨xb, 1, none⟩ = some (.int .i64 x.c) := zcell hq.1.2.1 rfl
      have c2 : wq.cell? ⟨xb, 2, none⟩ = some (.int .u64 x.b) := zcell hq.1.2.1 rfl
      have c3 : wq.cell? ⟨xb, 3, none⟩ = some (.int .u64 x.n) := zcell hq.1.2.1 rfl
      simp [go_sem, c0, c1, c2, c3, Se.cells]
    go_big_quiet_on
    go_big_quiet_want; go_big_quiet_op; refine ⟨.agg (dg CX), fun wq hq => ?_, ?_⟩
    · have nm := nil_ahead_commit2
      have mm := method_commit2
      simp [go_sem, nm, mm]
      exact (scommit_any wq x hx hq.1.1).mono fun e w' ⟨he, hb⟩ => ⟨by rw [he, HCX.out], hq.below hb⟩
    go_big_quiet_on
    go_big_quiet_want; go_big_quiet_op; refine ⟨.agg x.cells.toArray, fun wq hq => ?_, ?_⟩
    · have c0 : wq.cell? ⟨xb, 0, none⟩ = some (.int .i64 x.r) := zcell hq.1.2.1 rfl
      have c1 : wq.cell? ⟨xb, 1, none⟩ = some (.int .i64 x.c) := zcell hq.1.2.1 rfl
      have c2 : wq.cell? ⟨xb, 2, none⟩ = some (.int .u64 x.b) := zcell hq.1.2.1 rfl
      have c3 : wq.cell? ⟨xb, 3, none⟩ = some (.int .u64 x.n) := zcell hq.1.2.1 rfl
      simp [go_sem, c0, c1, c2, c3, Se.cells]
    go_big_quiet_on
    iterate 1 (go_big_quiet_want; go_big_quiet_op; first | go_big_quiet_on | (refine ⟨_, fun _ _ => rfl, ?_⟩; go_big_quiet_on))
    go_big_quiet_want; go_big_quiet_op; refine ⟨.func (.method "Opens") #[.iface 71 (.agg #[])] #[], fun wq hq => ?_, ?_⟩
    · have nm := nil_ahead_opens2
      simp [go_sem, nm]
    go_big_quiet_on
    iterate 1 (go_big_quiet_want; go_big_quiet_op; first | go_big_quiet_on | (refine ⟨_, fun _ _ => rfl, ?_⟩; go_big_quiet_on))
    go_big_quiet_want; go_big_quiet_op; refine ⟨.bool true, fun wq hq => ?_, ?_⟩
    · have nm := nil_ahead_opens2
      have mm := method_opens2
      simp [go_sem, nm, mm]
      exact (sopens_any wq CX hl1 x hx hq.1.1).mono fun e w' ⟨he, hb⟩ => ⟨by rw [he, HCX.out]; simp, hq.below hb⟩
    go_big_quiet_on
    iterate 4 (go_big_quiet_want; go_big_quiet_op; first | go_big_quiet_on | (refine ⟨_, fun _ _ => rfl, ?_⟩; go_big_quiet_on))
    go_big_quiet_want; go_big_quiet_op; refine ⟨.agg x.cells.toArray, fun wq hq => ?_, ?_⟩
    · have c0 : wq.cell? ⟨xb, 0, none⟩ = some (.int .i64 x.r) := zcell hq.1.2.1 rfl
      have c1 : wq.cell? ⟨xb, 1, none⟩ = some (.int .i64 x.c) := zcell hq.1.2.1 rfl
      have c2 : wq.cell? ⟨xb, 2, none⟩ = some (.int .u64 x.b) := zcell hq.1.2.1 rfl
      have c3 : wq.cell? ⟨xb, 3, none⟩ = some (.int .u64 x.n) := zcell hq.1.2.1 rfl
      simp [go_sem, c0, c1, c2, c3, Se.cells]
    go_big_quiet_on
    go_big_quiet_want; go_big_quiet_op; refine ⟨.bool false, fun wq hq => ?_, ?_⟩
    · have nm := nil_ahead_opens2
      have mm := method_opens2
      simp [go_sem, nm, mm]
      exact (sopens_any wq z32 z32_length x hx hq.1.1).mono fun e w' ⟨he, hb⟩ => ⟨by rw [he, HX.out, ne_z32], hq.below hb⟩
    go_big_quiet_on
    iterate 10 (go_big_quiet_want; go_big_quiet_op; first | go_big_quiet_on | (refine ⟨_, fun _ _ => rfl, ?_⟩; go_big_quiet_on))
    go_big_quiet_want; go_big_quiet_op; refine ⟨.int .i64 1, fun wq hq => ?_, ?_⟩
    · simp [go_sem, hq.2.2.1]
    go_big_quiet_on
    iterate 5 (go_big_quiet_want; go_big_quiet_op; first | go_big_quiet_on | (refine ⟨_, fun _ _ => rfl, ?_⟩; go_big_quiet_on))
    go_big_quiet_want; go_big_quiet_op; refine ⟨.int .i64 (-1), fun wq hq => ?_, ?_⟩
    · simp [go_sem, hq.2.2.2.1]
    go_big_quiet_on
    iterate 5 (go_big_quiet_want; go_big_quiet_op; first | go_big_quiet_on | (refine ⟨_, fun _ _ => rfl, ?_⟩; go_big_quiet_on))
    go_big_quiet_want; go_big_quiet_op; refine ⟨.int .i64 0, fun wq hq => ?_, ?_⟩
    · simp [go_sem, hq.2.2.2.2]
    go_big_quiet_on
    iterate 3 (go_big_quiet_want; go_big_quiet_op; first | go_big_quiet_on | (refine ⟨_, fun _ _ => rfl, ?_⟩; go_big_quiet_on))
    refine wpQuiet_nil ?_
    clear h8C
    intro wd hqd
    go_wp2
    go_ret
    exact ⟨rfl, HN.out ▸ hqd.1.2.2.2.1⟩
end Go.Proofs.YtpkgmoiffegbfaaDoor
