/- Layer 1: NumSums, of all rows of numbers: the walk. Condition: no more numbers than a slice holds. -/
import Derived.Test.YtgbbediopjkkeaaNWork
namespace Go.Proofs.Ytgbbediopjkkeaa
open Go.RowKit Go.BigFrame Go.Shelf
set_option maxRecDepth 20000

theorem In64.take {zs : List Int} (h : In64 zs) (k : Nat) : In64 (zs.take k) := by
  intro j hj
  have hj' : j < k ∧ j < zs.length := by simpa [Nat.lt_min] using hj
  have := h j hj'.2
  rwa [List.getElem?_take_of_lt hj'.1]

set_option maxHeartbeats 2000000 in
theorem nsums_nil (a : Option Addr) (cap : Nat) (w : World) (hc : a = none → cap = 0) : Calls Try.prog 3 #[.slice a 0 cap] w fun e w' => e = .returned (.bool true) ∧ Below w.heap.size w w' := by
  cases a with
  | none =>
    obtain rfl := hc rfl
    go_enter Try.func3, Try.ntmps3
    go_wp2_with (first
      | (go_at_call 8; refine (sum_any _ _ _ [] (by decide) (fun j h => by simp at h) _ (.inl ⟨⟨_, _, rfl⟩, rfl⟩)).mono ?_; rintro e w1 ⟨rfl, hb1⟩)
      | (go_at_call 9; refine (refsum_any _ _ _ [] (by decide) (fun j h => by simp at h) _ (.inl ⟨⟨_, _, rfl⟩, rfl⟩)).mono ?_; rintro e w2 ⟨rfl, hb2⟩)
      | (go_at_call 10; refine (works_any _).mono ?_; rintro e w3 ⟨rfl, hb3⟩))
    all_goals go_ret
    exact ⟨rfl, below_in (below_in hb1 hb2) hb3⟩
  | some x =>
    clear hc
    go_enter Try.func3, Try.ntmps3
    go_wp2_with (first
      | (go_at_call 8; refine (sum_any _ _ _ [] (by decide) (fun j h => by simp at h) _ (.inl ⟨⟨_, _, rfl⟩, rfl⟩)).mono ?_; rintro e w1 ⟨rfl, hb1⟩)
      | (go_at_call 9; refine (refsum_any _ _ _ [] (by decide) (fun j h => by simp at h) _ (.inl ⟨⟨_, _, rfl⟩, rfl⟩)).mono ?_; rintro e w2 ⟨rfl, hb2⟩)
      | (go_at_call 10; refine (works_any _).mono ?_; rintro e w3 ⟨rfl, hb3⟩))
    all_goals go_ret
    exact ⟨rfl, below_in (below_in hb1 hb2) hb3⟩

theorem nsums_some (b off len cap m : Nat) (zs : List Int) (w : World) (hl : zs.length = len) (hlen : len ≤ cap) (hcap : cap ≤ 9223372036854775807) (hm : m = min len 30) (hz : In64 zs) (hb : b < w.heap.size) (hc : ∀ j, j < len → w.cell? ⟨b, off + j, none⟩ = some (.int .i64 (zs[j]?.getD 0))) :
    Calls Try.prog 3 #[.slice (some ⟨b, off, none⟩) len cap] w fun e w' => e = .returned (.bool true) ∧ Below w.heap.size w w' := by
  have hx : ∀ w' : World, Below w.heap.size w w' → Nums w'.heap.size w' (.slice (some ⟨b, off, none⟩) m cap) (zs.take 30) := by
    intro w' g
    have hml : (zs.take 30).length = m := by rw [List.length_take, hl, hm, Nat.min_comm]
    refine .inr ⟨b, off, cap, by rw [hml], Nat.lt_of_lt_of_le hb g.size, fun j hj => ?_⟩
    rw [hml] at hj
    rw [List.getElem?_take_of_lt (by omega)]
    exact (g.cell (p := ⟨b, off + j, none⟩) hb).trans (hc j (by omega))
  have hz' := hz.take 30
  have hz30 : (zs.take 30).length ≤ 9223372036854775807 := by rw [List.length_take]; omega
  generalize zs.take 30 = xs at hx hz' hz30
  clear hc hz hl
  have HX := Lib.hid hx
  clear hx
  by_cases h30 : len ≤ 30
  · have hm' : m = len := by omega
    subst hm'
    clear hm
    go_enter Try.func3, Try.ntmps3
    go_wp2_with (first
      | (go_at_call 8; refine (sum_any _ _ _ xs hz30 hz' _ (HX.out _ (Below.refl _ _))).mono ?_; rintro e w1 ⟨rfl, hb1⟩)
      | (go_at_call 9; refine (refsum_any _ _ _ xs hz30 hz' _ (HX.out _ hb1)).mono ?_; rintro e w2 ⟨rfl, hb2⟩)
      | (go_at_call 10; refine (works_any _).mono ?_; rintro e w3 ⟨rfl, hb3⟩))
    all_goals go_ret
    exact ⟨rfl, below_in (below_in hb1 hb2) hb3⟩
  · have hm' : m = 30 := by omega
    subst hm'
    clear hm
    go_enter Try.func3, Try.ntmps3
    go_wp2_with (first
      | (go_at_call 8; refine (sum_any _ _ _ xs hz30 hz' _ (HX.out _ (Below.refl _ _))).mono ?_; rintro e w1 ⟨rfl, hb1⟩)
      | (go_at_call 9; refine (refsum_any _ _ _ xs hz30 hz' _ (HX.out _ hb1)).mono ?_; rintro e w2 ⟨rfl, hb2⟩)
      | (go_at_call 10; refine (works_any _).mono ?_; rintro e w3 ⟨rfl, hb3⟩))
    all_goals go_ret
    exact ⟨rfl, below_in (below_in hb1 hb2) hb3⟩
end Go.Proofs.Ytgbbediopjkkeaa
