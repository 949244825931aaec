/- Layer 16: parts that came in. No condition. -/
import Derived.Test.YtpkgmoiffegbfaaOBack
import Derived.ProofKit
import Derived.OpenShut
import Derived.Deep.Slices
namespace Go.Proofs.Ytpkgmoiffegbfaa
open Go.ChangeShapes Go.WideShapes Go.ChangeAt Go.RowKit Go.Deep

theorem partCells : Try.prog.cellsOf 53 = 4 := by kernel_rfl
theorem cellsU64 : Try.prog.cellsOf 23 = 1 := by kernel_rfl
theorem cellsU8 : Try.prog.cellsOf 5 = 1 := by kernel_rfl
theorem cellsStr : Try.prog.cellsOf 9 = 1 := by kernel_rfl
theorem cellsBool : Try.prog.cellsOf 4 = 1 := by kernel_rfl
theorem list_of {α : Type} (Q : Nat → α → Prop) : ∀ n, (∀ i, i < n → ∃ p, Q i p) → ∃ ps : List α, ps.length = n ∧ ∀ i p, ps[i]? = some p → Q i p
  | 0, _ => ⟨[], rfl, fun i p h => by simp at h⟩
  | n + 1, h => by
    obtain ⟨ps, hl, hq⟩ := list_of Q n (fun i hi => h i (by omega))
    obtain ⟨p, hp⟩ := h n (by omega)
    refine ⟨ps ++ [p], by simp [hl], fun i q hi => ?_⟩
    by_cases hin : i < ps.length
    · rw [List.getElem?_append_left hin] at hi
      exact hq i q hi
    · have hlt := (List.getElem?_eq_some_iff.1 hi).1
      rw [List.length_append, List.length_singleton] at hlt
      obtain rfl : i = n := by omega
      rw [List.getElem?_append_right (by omega), hl, Nat.sub_self] at hi
      simp at hi
      subst hi
      exact hp
theorem eadd (b off j : Nat) : (⟨b, off, none⟩ : Addr).add j = ⟨b, off + j, none⟩ := by unfold Addr.add; split <;> simp_all
/-- A list of four, and its heads. -/
theorem four_list {α : Type} (l : List α) (h : l.length = 4) : ∃ a b c d, l = [a, b, c, d] := by
  match l, h with
  | [a, b, c, d], _ => exact ⟨a, b, c, d, rfl⟩

set_option maxRecDepth 100000 in
theorem open_parts {H : Type} {enc : TypeId × Value → H} {W : World} {base : Nat} {held : Bool} {r : Reach} {b0 : Nat} {v : Value} {d : DataW H} {pl : List MemPlace}
    (hval : Value.okWide Try.prog W r b0 44 v) (hd : DataW.Trod enc Try.prog W base (fun _ => true) held 44 v d pl) : ∃ ps : List Pt, PIn W v ps ∧ Wf ps := by
  obtain ⟨a1, len1, cap1, rfl⟩ := okWide_slice Try.underlying44 hval
  obtain ⟨fuel, hf⟩ := hd
  rcases open_slice Try.underlying44 hf with ⟨hcs, _⟩ | ⟨x, l, c, m, n, D, Pl, hcs, _, hl, hm, hmm, _, hi⟩
  · simp [Value.cells] at hcs
    obtain ⟨rfl, rfl, rfl⟩ := hcs
    exact ⟨[], .inl ⟨none, 0, rfl, rfl⟩, by decide, by simp⟩
  · simp [Value.cells] at hcs
    obtain ⟨rfl, rfl, rfl⟩ := hcs
    have hmc : m = cap1 := by simpa using hmm
    subst hmc
    rw [partCells] at hi
    have key : ∀ i, i < len1 → ∃ p : Pt, (p.n < 18446744073709551616 ∧ p.wd < 256 ∧ p.t.size ≤ 9223372036854775807) ∧ W.cell? (x.add (i * 4)) = some (.int .u64 p.n) ∧ W.cell? (x.add (i * 4 + 1)) = some (.int .u8 p.wd) ∧ W.cell? (x.add (i * 4 + 2)) = some (.string p.t) ∧ W.cell? (x.add (i * 4 + 3)) = some (.bool p.b) := by
      intro i hil
      obtain ⟨cs', hc, ht⟩ := hi i (by omega)
      obtain ⟨_, hcl, hat⟩ := World.cells?_some hc
      obtain ⟨c0, c1, c2, c3, rfl⟩ := four_list cs' hcl
      obtain ⟨xs, k, _, _, _, hxl, hg⟩ := DataW.trod_struct Try.underlying53 ht
      obtain ⟨x0, x1, x2, x3, rfl⟩ := four_list xs hxl
      have g0 : DataW.trod enc Try.prog W base (fun _ => true) held k 23 (List.take (Try.prog.cellsOf 23) (List.drop 0 [c0, c1, c2, c3])) = [x0, x1, x2, x3][0]? := hg 0 _ rfl
      have g1 : DataW.trod enc Try.prog W base (fun _ => true) held k 5 (List.take (Try.prog.cellsOf 5) (List.drop 1 [c0, c1, c2, c3])) = [x0, x1, x2, x3][1]? := hg 1 _ rfl
      have g2 : DataW.trod enc Try.prog W base (fun _ => true) held k 9 (List.take (Try.prog.cellsOf 9) (List.drop 2 [c0, c1, c2, c3])) = [x0, x1, x2, x3][2]? := hg 2 _ rfl
      have g3 : DataW.trod enc Try.prog W base (fun _ => true) held k 4 (List.take (Try.prog.cellsOf 4) (List.drop 3 [c0, c1, c2, c3])) = [x0, x1, x2, x3][3]? := hg 3 _ rfl
      rw [cellsU64] at g0
      rw [cellsU8] at g1
      rw [cellsStr] at g2
      rw [cellsBool] at g3
      have a0 : W.cell? (x.add (i * 4)) = some c0 := (add_add x (i * 4) 0) ▸ hat 0 (by decide)
      have a1 : W.cell? (x.add (i * 4 + 1)) = some c1 := (add_add x (i * 4) 1) ▸ hat 1 (by decide)
      have a2 : W.cell? (x.add (i * 4 + 2)) = some c2 := (add_add x (i * 4) 2) ▸ hat 2 (by decide)
      have a3 : W.cell? (x.add (i * 4 + 3)) = some c3 := (add_add x (i * 4) 3) ▸ hat 3 (by decide)
      simp only [List.drop_zero, List.drop_succ_cons, List.take_succ_cons, List.take_zero, List.getElem?_cons_zero, List.getElem?_cons_succ] at g0 g1 g2 g3
      obtain ⟨n0, e0, _, w0⟩ := DataW.trod_int Try.underlying23 g0
      obtain ⟨n1, e1, _, w1⟩ := DataW.trod_int Try.underlying5 g1
      obtain ⟨s2, e2, _, w2⟩ := DataW.trod_string Try.underlying9 g2
      obtain ⟨b3, e3, _⟩ := DataW.trod_bool Try.underlying4 g3
      simp only [List.cons.injEq, and_true] at e0 e1 e2 e3
      subst e0 e1 e2 e3
      have u0 := bounds_u64 w0
      have u1 := bounds_u8 w1
      refine ⟨⟨n0.toNat, n1.toNat, s2, b3⟩, ⟨by show n0.toNat < _; omega, by show n1.toNat < _; omega, by unfold maxLen at w2; exact Nat.le_trans w2 (by decide)⟩, ?_, ?_, a2, a3⟩
      · rw [show ((n0.toNat : Nat) : Int) = n0 by omega]; exact a0
      · rw [show ((n1.toNat : Nat) : Int) = n1 by omega]; exact a1
    obtain ⟨ps, hpl, hps⟩ := list_of _ len1 key
    by_cases hl0 : len1 = 0
    · subst hl0
      obtain rfl : ps = [] := List.length_eq_zero_iff.1 hpl
      exact ⟨[], .inl ⟨some x, m, rfl, rfl⟩, by decide, by simp⟩
    · have hp0 : ps[0]? = some (ps[0]'(by omega)) := List.getElem?_eq_getElem (by omega)
      have hc0 := (hps 0 _ hp0).2.1
      obtain ⟨b, off, spot⟩ := x
      have hspot : spot = none := by simpa [Addr.add] using World.cell?_spot hc0
      subst hspot
      refine ⟨ps, .inr ⟨b, off, m, by rw [hpl], ?_, fun i p hp => ?_⟩, by rw [hpl]; unfold maxLen at hm; omega, fun p hp => ?_⟩
      · rw [eadd] at hc0
        exact block_lt_of_cell hc0
      · obtain ⟨_, q0, q1, q2, q3⟩ := hps i p hp
        rw [eadd] at q0 q1 q2 q3
        exact ⟨q0, q1, q2, q3⟩
      · obtain ⟨i, hi⟩ := List.mem_iff_getElem?.1 hp
        exact (hps i p hi).1
end Go.Proofs.Ytpkgmoiffegbfaa
