/- Layer 20: pairs of commitments, and rows of answers, that came in. No condition. -/
import Derived.Test.YtaocdknpalohbaaHHides
import Derived.ProofKit
import Derived.OpenShut
import Derived.Deep.Slices
namespace Go.Proofs.Ytaocdknpalohbaa
open Go.ChangeShapes Go.WideShapes Go.ChangeAt Go.RowKit Go.Deep

theorem cellsPair : Try.prog.cellsOf 43 = 8 := by kernel_rfl
theorem cellsSealed : Try.prog.cellsOf 31 = 4 := by kernel_rfl
theorem cellsI : Try.prog.cellsOf 3 = 1 := by kernel_rfl
theorem cellsU64 : Try.prog.cellsOf 29 = 1 := by kernel_rfl
theorem cellsBool : Try.prog.cellsOf 4 = 1 := by kernel_rfl
theorem list_of {α : Type} (Q : Nat → α → Prop) : ∀ n, (∀ i, i < n → ∃ p, Q i p) → ∃ ps : List α, ps.length = n ∧ ∀ i p, ps[i]? = some p → Q i p
  | 0, _ => ⟨[], rfl, fun i p h => by simp at h⟩
  | n + 1, h => by
    obtain ⟨ps, hl, hq⟩ := list_of Q n (fun i hi => h i (by omega))
    obtain ⟨p, hp⟩ := h n (by omega)
    refine ⟨ps ++ [p], by simp [hl], fun i q hi => ?_⟩
    by_cases hin : i < ps.length
    · rw [List.getElem?_append_left hin] at hi
      exact hq i q hi
    · have hlt := (List.getElem?_eq_some_iff.1 hi).1
      rw [List.length_append, List.length_singleton] at hlt
      obtain rfl : i = n := by omega
      rw [List.getElem?_append_right (by omega), hl, Nat.sub_self] at hi
      simp at hi
      subst hi
      exact hp
theorem eadd (b off j : Nat) : (⟨b, off, none⟩ : Addr).add j = ⟨b, off + j, none⟩ := by unfold Addr.add; split <;> simp_all
theorem one_list {α : Type} (l : List α) (h : l.length = 1) : ∃ a, l = [a] := by
  match l, h with
  | [a], _ => exact ⟨a, rfl⟩
theorem two_list {α : Type} (l : List α) (h : l.length = 2) : ∃ a b, l = [a, b] := by
  match l, h with
  | [a, b], _ => exact ⟨a, b, rfl⟩
theorem four_list {α : Type} (l : List α) (h : l.length = 4) : ∃ a b c d, l = [a, b, c, d] := by
  match l, h with
  | [a, b, c, d], _ => exact ⟨a, b, c, d, rfl⟩
theorem eight_list {α : Type} (l : List α) (h : l.length = 8) : ∃ a b c d e f g i, l = [a, b, c, d, e, f, g, i] := by
  match l, h with
  | [a, b, c, d, e, f, g, i], _ => exact ⟨a, b, c, d, e, f, g, i, rfl⟩

set_option maxRecDepth 100000 in
/-- A commitment that came in. -/
theorem open_sealed {H : Type} {enc : TypeId × Value → H} {W : World} {base : Nat} {held : Bool} {k : Nat} {c0 c1 c2 c3 : Value} {y : DataW H × List MemPlace}
    (ht : DataW.trod enc Try.prog W base (fun _ => true) held k 31 [c0, c1, c2, c3] = some y) : ∃ x : Sl, c0 = .int .i64 x.r ∧ c1 = .int .i64 x.c ∧ c2 = .int .u64 x.b ∧ c3 = .int .u64 x.n := by
  obtain ⟨xs, k, _, _, _, hxl, hg⟩ := DataW.trod_struct Try.underlying31 ht
  obtain ⟨x0, x1, x2, x3, rfl⟩ := four_list xs hxl
  have g0 : DataW.trod enc Try.prog W base (fun _ => true) held k 3 (List.take (Try.prog.cellsOf 3) (List.drop 0 [c0, c1, c2, c3])) = [x0, x1, x2, x3][0]? := hg 0 _ rfl
  have g1 : DataW.trod enc Try.prog W base (fun _ => true) held k 3 (List.take (Try.prog.cellsOf 3) (List.drop 1 [c0, c1, c2, c3])) = [x0, x1, x2, x3][1]? := hg 1 _ rfl
  have g2 : DataW.trod enc Try.prog W base (fun _ => true) held k 29 (List.take (Try.prog.cellsOf 29) (List.drop 2 [c0, c1, c2, c3])) = [x0, x1, x2, x3][2]? := hg 2 _ rfl
  have g3 : DataW.trod enc Try.prog W base (fun _ => true) held k 29 (List.take (Try.prog.cellsOf 29) (List.drop 3 [c0, c1, c2, c3])) = [x0, x1, x2, x3][3]? := hg 3 _ rfl
  rw [cellsI] at g0 g1
  rw [cellsU64] at g2 g3
  simp only [List.drop_zero, List.drop_succ_cons, List.take_succ_cons, List.take_zero, List.getElem?_cons_zero, List.getElem?_cons_succ] at g0 g1 g2 g3
  obtain ⟨n0, e0, _, _⟩ := DataW.trod_int Try.underlying3 g0
  obtain ⟨n1, e1, _, _⟩ := DataW.trod_int Try.underlying3 g1
  obtain ⟨n2, e2, _, _⟩ := DataW.trod_int Try.underlying29 g2
  obtain ⟨n3, e3, _, _⟩ := DataW.trod_int Try.underlying29 g3
  simp only [List.cons.injEq, and_true] at e0 e1 e2 e3
  exact ⟨⟨n0, n1, n2, n3⟩, e0, e1, e2, e3⟩

set_option maxRecDepth 100000 in
/-- A row of pairs of commitments that came in. -/
theorem open_pairs {H : Type} {enc : TypeId × Value → H} {W : World} {base : Nat} {held : Bool} {r : Reach} {b0 : Nat} {v : Value} {d : DataW H} {pl : List MemPlace}
    (hval : Value.okWide Try.prog W r b0 41 v) (hd : DataW.Trod enc Try.prog W base (fun _ => true) held 41 v d pl) :
    ∃ (aa : Option Addr) (cap : Nat) (ls : List (Sl × Sl)), v = .slice aa ls.length cap ∧ ls.length ≤ 9223372036854775807 ∧ (0 < ls.length → ∃ b off, aa = some ⟨b, off, none⟩ ∧ b < W.heap.size ∧ PairsAt W b off ls) := by
  obtain ⟨a1, len1, cap1, rfl⟩ := okWide_slice Try.underlying41 hval
  obtain ⟨fuel, hf⟩ := hd
  rcases open_slice Try.underlying41 hf with ⟨hcs, _⟩ | ⟨x, l, c, m, n, D, Pl, hcs, _, hl, hm, hmm, _, hi⟩
  · simp [Value.cells] at hcs
    obtain ⟨rfl, rfl, rfl⟩ := hcs
    exact ⟨none, 0, [], rfl, by decide, fun h => by simp at h⟩
  · simp [Value.cells] at hcs
    obtain ⟨rfl, rfl, rfl⟩ := hcs
    have hmc : m = cap1 := by simpa using hmm
    subst hmc
    rw [cellsPair] at hi
    have key : ∀ i, i < len1 → ∃ p : Sl × Sl, W.cell? (x.add (i * 8)) = some (.int .i64 p.1.r) ∧ W.cell? (x.add (i * 8 + 1)) = some (.int .i64 p.1.c) ∧ W.cell? (x.add (i * 8 + 2)) = some (.int .u64 p.1.b) ∧ W.cell? (x.add (i * 8 + 3)) = some (.int .u64 p.1.n) ∧
        W.cell? (x.add (i * 8 + 4)) = some (.int .i64 p.2.r) ∧ W.cell? (x.add (i * 8 + 5)) = some (.int .i64 p.2.c) ∧ W.cell? (x.add (i * 8 + 6)) = some (.int .u64 p.2.b) ∧ W.cell? (x.add (i * 8 + 7)) = some (.int .u64 p.2.n) := by
      intro i hil
      obtain ⟨cs', hc, ht⟩ := hi i (by omega)
      obtain ⟨_, hcl, hat⟩ := World.cells?_some hc
      obtain ⟨c0, c1, c2, c3, c4, c5, c6, c7, rfl⟩ := eight_list cs' hcl
      obtain ⟨xs, k, _, _, _, hxl, hg⟩ := DataW.trod_array Try.underlying43 ht
      have h0 := hg 0 (by decide)
      have h1 := hg 1 (by decide)
      rw [cellsSealed] at h0 h1
      obtain ⟨x0, x1, rfl⟩ := two_list xs hxl
      have h0' : DataW.trod enc Try.prog W base (fun _ => true) held k 31 [c0, c1, c2, c3] = some x0 := h0
      have h1' : DataW.trod enc Try.prog W base (fun _ => true) held k 31 [c4, c5, c6, c7] = some x1 := h1
      obtain ⟨xa, rfl, rfl, rfl, rfl⟩ := open_sealed h0'
      obtain ⟨xb, rfl, rfl, rfl, rfl⟩ := open_sealed h1'
      exact ⟨(xa, xb), (add_add x (i * 8) 0) ▸ hat 0 (by decide), (add_add x (i * 8) 1) ▸ hat 1 (by decide), (add_add x (i * 8) 2) ▸ hat 2 (by decide), (add_add x (i * 8) 3) ▸ hat 3 (by decide),
        (add_add x (i * 8) 4) ▸ hat 4 (by decide), (add_add x (i * 8) 5) ▸ hat 5 (by decide), (add_add x (i * 8) 6) ▸ hat 6 (by decide), (add_add x (i * 8) 7) ▸ hat 7 (by decide)⟩
    obtain ⟨ps, hpl, hps⟩ := list_of _ len1 key
    refine ⟨some x, m, ps, by rw [hpl], by rw [hpl]; unfold maxLen at hm; omega, fun h0 => ?_⟩
    have hp0 : ps[0]? = some (ps[0]'h0) := List.getElem?_eq_getElem h0
    have hc0 := (hps 0 _ hp0).1
    obtain ⟨b, off, spot⟩ := x
    have hspot : spot = none := by simpa [Addr.add] using World.cell?_spot hc0
    subst hspot
    refine ⟨b, off, rfl, ?_, fun q xa xb hq => ?_⟩
    · rw [eadd] at hc0
      exact block_lt_of_cell hc0
    · have hh := hps q (xa, xb) hq
      simp only [eadd] at hh
      exact hh

set_option maxRecDepth 100000 in
/-- A row of answers that came in. -/
theorem open_bools {H : Type} {enc : TypeId × Value → H} {W : World} {base : Nat} {held : Bool} {r : Reach} {b0 : Nat} {v : Value} {d : DataW H} {pl : List MemPlace}
    (hval : Value.okWide Try.prog W r b0 42 v) (hd : DataW.Trod enc Try.prog W base (fun _ => true) held 42 v d pl) :
    ∃ (a0 : Option Addr) (c0 : Nat) (bs : List Bool), v = .slice a0 bs.length c0 ∧ ∀ j, (h : j < bs.length) → ∃ b2 off2, a0 = some ⟨b2, off2, none⟩ ∧ b2 < W.heap.size ∧ W.cell? ⟨b2, off2 + j, none⟩ = some (.bool bs[j]) := by
  obtain ⟨a1, len1, cap1, rfl⟩ := okWide_slice Try.underlying42 hval
  obtain ⟨fuel, hf⟩ := hd
  rcases open_slice Try.underlying42 hf with ⟨hcs, _⟩ | ⟨x, l, c, m, n, D, Pl, hcs, _, hl, hm, hmm, _, hi⟩
  · simp [Value.cells] at hcs
    obtain ⟨rfl, rfl, rfl⟩ := hcs
    exact ⟨none, 0, [], rfl, fun j h => by simp at h⟩
  · simp [Value.cells] at hcs
    obtain ⟨rfl, rfl, rfl⟩ := hcs
    have hmc : m = cap1 := by simpa using hmm
    subst hmc
    rw [cellsBool] at hi
    have key : ∀ i, i < len1 → ∃ t : Bool, W.cell? (x.add (i * 1)) = some (.bool t) := by
      intro i hil
      obtain ⟨cs', hc, ht⟩ := hi i (by omega)
      obtain ⟨_, hcl, hat⟩ := World.cells?_some hc
      obtain ⟨c0, rfl⟩ := one_list cs' hcl
      obtain ⟨t, e3, _⟩ := DataW.trod_bool Try.underlying4 ht
      simp only [List.cons.injEq, and_true] at e3
      subst e3
      exact ⟨t, (add_add x (i * 1) 0) ▸ hat 0 (by decide)⟩
    obtain ⟨ps, hpl, hps⟩ := list_of _ len1 key
    refine ⟨some x, m, ps, by rw [hpl], fun j hj => ?_⟩
    have hc0 := hps j _ (List.getElem?_eq_getElem hj)
    have hz0 := hps 0 _ (List.getElem?_eq_getElem (by omega))
    obtain ⟨b, off, spot⟩ := x
    have hspot : spot = none := by simpa [Addr.add] using World.cell?_spot hz0
    clear hz0
    subst hspot
    rw [eadd, Nat.mul_one] at hc0
    exact ⟨b, off, rfl, block_lt_of_cell hc0, hc0⟩
end Go.Proofs.Ytaocdknpalohbaa
