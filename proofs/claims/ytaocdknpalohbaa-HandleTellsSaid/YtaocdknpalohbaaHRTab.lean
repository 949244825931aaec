/- The document's table of commitments: what it holds, and what it opens. No condition. -/
import Derived.Test.YtaocdknpalohbaaHBindL
import Derived.Deep.CutRange
import Derived.Outline
namespace Go.Proofs.Ytaocdknpalohbaa
open Go.RowKit Go.BigFrame
set_option maxRecDepth 20000

theorem hand_true {d : List UInt8} (h : (handF d).2 = true) : d = hd (handF d).1 ∧ 1 ≤ (handF d).1 := by
  unfold handF at h ⊢
  by_cases hc : val (d.take 8) ≠ 0 ∧ hd (val (d.take 8)) = d
  · rw [if_pos hc]
    exact ⟨hc.2.symm, by have := hc.1; omega⟩
  · rw [if_neg hc] at h
    cases h
theorem look_some {d : List UInt8} : ∀ (i : Nat) (L : List Sl) (y : Sl), look d i L = some y → ∃ k, i < k ∧ k ≤ i + L.length ∧ d = hd k
  | i, x :: L, y, h => by
    rw [look] at h
    by_cases hc : d = hd (i + 1)
    · exact ⟨i + 1, by omega, by simp, hc⟩
    · rw [if_neg hc] at h
      obtain ⟨k, h1, h2, h3⟩ := look_some (i + 1) L y h
      exact ⟨k, by omega, by simp; omega, h3⟩
theorem opens_not {d : List UInt8} (L : List Sl) (x : Sl) (hL : L.length < 1000) (h : (handF d).2 = false) : opensF L d x = false := by
  unfold opensF
  cases hk : look d 0 L with
  | none => rfl
  | some y =>
    obtain ⟨k, h1, h2, h3⟩ := look_some 0 L y hk
    obtain ⟨j, rfl⟩ : ∃ j, k = j + 1 := ⟨k - 1, by omega⟩
    rw [h3, hand_hd j (by omega)] at h
    cases h
theorem opens_far {d : List UInt8} (L : List Sl) (x : Sl) (h : (handF d).2 = true) (hb : (handF d).1 < 18446744073709551616) (hn : L.length < (handF d).1) : opensF L d x = false := by
  have hd' := (hand_true h).1
  generalize (handF d).1 = n at hd' hb hn
  subst hd'
  unfold opensF
  rw [look_none 0 L (fun k h1 h2 e => by have := hd_inj hb (by omega) e; omega)]

/-- The cells of commitments, side by side. -/
def sealCells (L : List Sl) : List Value := L.flatMap fun x => x.cells.toList
/-- The document's table in memory: its block, and the slice that it keeps. -/
def IsRTab (w : World) (rb base : Nat) (v : Value) (L : List Sl) : Prop :=
  w.heap[rb]? = some (.cells #[v] 28 (0, 0)) ∧ w.ownsRow base 31 4 v L.length (sealCells L)
theorem seal_at : ∀ (L : List Sl) (j i : Nat) (y : Sl), L[j]? = some y → i < 4 → (sealCells L)[j * 4 + i]? = y.cells.toList[i]?
  | z :: L, 0, i, y, hj, hi => by
    simp at hj
    subst hj
    rw [sealCells, List.flatMap_cons, Nat.zero_mul, Nat.zero_add, List.getElem?_append_left (by simp [Sl.cells]; omega)]
  | z :: L, j + 1, i, y, hj, hi => by
    rw [List.getElem?_cons_succ] at hj
    rw [sealCells, List.flatMap_cons, List.getElem?_append_right (by simp [Sl.cells]; omega)]
    have h := seal_at L j i y hj hi
    rw [← h, sealCells]
    congr 1
    simp [Sl.cells]
    omega
end Go.Proofs.Ytaocdknpalohbaa
