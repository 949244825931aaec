/- Layer 23, plain laws: who is barred, rising; a count more bars no fewer. No program in sight but the kit's words. -/
import Derived.Test.YtohnagmkbjdlmaaAdded
namespace Go.Proofs.Ytohnagmkbjdlmaa
open Go.RowKit

theorem of_eight (cs : List Nat) (c : Nat) (hc : c < 8) : ofF cs 8 (c : Int) = cs.getD c 0 := by
  unfold ofF
  rw [if_pos (by omega)]
  simp
theorem bl_mem (cs : List Nat) (k x : Nat) : x ∈ bl cs k ↔ x < k ∧ 3 ≤ cs.getD x 0 := by simp [bl]
theorem bl_sorted (cs : List Nat) (k : Nat) : (bl cs k).Pairwise (· < ·) := List.Pairwise.filter _ List.pairwise_lt_range
theorem bl_step (cs : List Nat) (k j : Nat) (h : j + 1 < (bl cs k).length) : (bl cs k)[j] < (bl cs k)[j + 1] :=
  List.pairwise_iff_getElem.1 (bl_sorted cs k) j (j + 1) (by omega) h (by omega)
theorem filter_len_le {α : Type} (p q : α → Bool) (h : ∀ x, p x = true → q x = true) : ∀ l : List α, (l.filter p).length ≤ (l.filter q).length
  | [] => by simp
  | x :: l => by
    have ih := filter_len_le p q h l
    rw [List.filter_cons, List.filter_cons]
    by_cases hp : p x = true
    · rw [if_pos hp, if_pos (h x hp)]; simp; exact ih
    · rw [if_neg hp]
      split
      · simp; omega
      · exact ih
theorem bump_ge (cs : List Nat) (x c : Nat) (h : cs.length = 8) : cs.getD c 0 ≤ (bump cs x).getD c 0 := by
  by_cases hc : c < 8
  · rw [bump_at cs x c h hc]; omega
  · simp [List.getD, List.getElem?_eq_none (show cs.length ≤ c by omega)]
theorem bl_bump_len (cs : List Nat) (x k : Nat) (h : cs.length = 8) : (bl cs k).length ≤ (bl (bump cs x) k).length := by
  unfold bl
  refine filter_len_le _ _ (fun c hc => ?_) _
  simp only [decide_eq_true_eq] at hc ⊢
  have := bump_ge cs x c h
  omega
theorem bl_bump_in (cs : List Nat) (x c k : Nat) (h : cs.length = 8) (hc : c ∈ bl cs k) : c < k ∧ 3 ≤ (bump cs x).getD c 0 := by
  obtain ⟨h1, h2⟩ := (bl_mem cs k c).1 hc
  have := bump_ge cs x c h
  exact ⟨h1, by omega⟩

/-- What was noted of the first c carriers. -/
def hadC (cs : List Nat) (c : Nat) : Array Value := ((List.range 8).map fun j => encI (if j < c then cs.getD j 0 else 0)).toArray
theorem hadC_size (cs : List Nat) (c : Nat) : (hadC cs c).size = 8 := by simp [hadC]
theorem hadC_at (cs : List Nat) (c j : Nat) (h : j < 8) : (hadC cs c)[j]? = some (encI (if j < c then cs.getD j 0 else 0)) := by simp [hadC, h]
theorem hadC_set (cs : List Nat) (c : Nat) (h : c < 8) : (hadC cs c).setIfInBounds c (encI (cs.getD c 0)) = hadC cs (c + 1) := by
  apply Array.ext_getElem?
  intro j
  rw [Array.getElem?_setIfInBounds, hadC_size]
  by_cases hj : j < 8
  · rw [hadC_at cs (c + 1) j hj]
    by_cases e : c = j
    · subst e; rw [if_pos rfl, if_pos h, if_pos (by omega)]
    · rw [if_neg e, hadC_at cs c j hj]
      by_cases h1 : j < c
      · rw [if_pos h1, if_pos (by omega)]
      · rw [if_neg h1, if_neg (by omega)]
  · rw [if_neg (by omega), Array.getElem?_eq_none (by rw [hadC_size]; omega), Array.getElem?_eq_none (by rw [hadC_size]; omega)]

/-- A row that is the call's own: its cells from the k-th on. -/
def OwnRow (w : World) (a : Option Addr) (xs : List Nat) (k : Nat) : Prop :=
  k < xs.length → ∃ g cur, a = some ⟨g, 0, none⟩ ∧ w.heap[g]? = some (.cells cur 3 (0, 0)) ∧ ∀ j, k ≤ j → (h : j < xs.length) → cur[j]? = some (encI xs[j])
theorem FullRow.own {N : Nat} {w : World} {v : Value} {xs : List Nat} (h : FullRow N w v xs) : ∃ a, v = .slice a xs.length xs.length ∧ OwnRow w a xs 0 ∧ ∀ g, a = some ⟨g, 0, none⟩ → N ≤ g := by
  rcases h with ⟨rfl, rfl⟩ | ⟨g, cur, rfl, hN, hg, ht, hp, hl⟩
  · exact ⟨none, rfl, fun h => absurd h (Nat.lt_irrefl 0), fun g e => by cases e⟩
  · refine ⟨some ⟨g, 0, none⟩, rfl, fun _ => ⟨g, cur, rfl, hg, fun j _ hj => ?_⟩, fun g' e => by cases e; exact hN⟩
    have h0 : (cur.toList.take xs.length)[j]? = (xs.map encI)[j]? := by rw [ht]
    rw [List.getElem?_take_of_lt hj] at h0
    rw [← Array.getElem?_toList, h0]
    simp [hj]
theorem OwnRow.on {w w' : World} {a : Option Addr} {xs : List Nat} {k : Nat} (h : OwnRow w a xs k) (he : ∀ g, a = some ⟨g, 0, none⟩ → g < w.heap.size → w'.heap[g]? = w.heap[g]?) : OwnRow w' a xs k := by
  intro hk
  obtain ⟨g, cur, ha, hg, hc⟩ := h hk
  exact ⟨g, cur, ha, (he g ha (Array.getElem?_eq_some_iff.1 hg).1).trans hg, hc⟩
theorem heap_setCell_row (w : World) (g i : Nat) (cur : Array Value) (t : TypeId) (v : Value) (hg : w.heap[g]? = some (.cells cur t (0, 0))) : (w.setCell ⟨g, i, none⟩ v).heap[g]? = some (.cells (cur.setIfInBounds i v) t (0, 0)) := by
  rw [setCell_eq_setRow w g i cur t _ v hg, setRow_heap w g _ _ _ _ hg]
theorem OwnRow.wipe {w : World} {a : Option Addr} {xs : List Nat} {k g : Nat} (h : OwnRow w a xs k) (ha : a = some ⟨g, 0, none⟩) (hk : k < xs.length) (v : Value) : OwnRow (w.setCell ⟨g, k, none⟩ v) a xs (k + 1) := by
  intro hk1
  obtain ⟨g', cur, ha', hg, hc⟩ := h hk
  rw [ha] at ha'
  cases ha'
  refine ⟨g, _, ha, heap_setCell_row w g k cur _ v hg, fun j hj hjl => ?_⟩
  rw [Array.getElem?_setIfInBounds, if_neg (by omega)]
  exact hc j (by omega) hjl
end Go.Proofs.Ytohnagmkbjdlmaa
