/- Layer 23: the chapter's examples, and a tally of eight behind some offences: the walks. Condition: the offences lie in a slice. -/
import Derived.Test.YtohnagmkbjdlmaaBar
namespace Go.Proofs.Ytohnagmkbjdlmaa
open Go.RowKit Go.BigFrame Go.Shelf
set_option maxRecDepth 20000

theorem below_grown {B : Nat} {w0 w w' : World} {r : Option Nat} (h : Below B w0 w) (g : w.grownBy w' r) (hB : B ≤ w.heap.size) (hr : ∀ k, r = some k → B ≤ k) : Below B w0 w' := h.grown g hB (fun k e => hr k e)
theorem below_drewN {B : Nat} {a w : World} (h : Below B a w) (n : Nat) : Below B a (w.drewN n) := ⟨h.os, h.tape, h.output, h.size, h.block⟩

theorem new_okI (w : World) (c : Int) (n : Nat) (hc : (n : Int) = c) (h1 : 1 ≤ n) (h8 : n ≤ 8) : Calls Try.prog 13 #[.int .i64 c] w fun e w' => e = .returned (.tuple #[.pointer (some ⟨w.heap.size, 0, none⟩), .int .i64 0]) ∧ IsTally w' w.heap.size (List.replicate 8 0) n ∧ Below w.heap.size w w' := by
  rw [← hc]; exact new_ok w n h1 h8
theorem add_okI (w : World) (tb n : Nat) (cs cs' : List Nat) (ht : IsTally w tb cs n) (c : Int) (k : Nat) (hck : (k : Int) = c) (hc : k < n) (hs : cs.getD k 0 < 1152921504606846976) (hcs : cs.set k (cs.getD k 0 + 1) = cs') :
    Calls Try.prog 14 #[.pointer (some ⟨tb, 0, none⟩), .int .i64 c] w fun e w' => e = .returned (.int .i64 0) ∧ IsTally w' tb cs' n ∧ w.grownBy w' (some tb) := by
  rw [← hck, ← hcs]; exact add_ok w tb n cs ht k hc hs
theorem of_okI (w : World) (tb n : Nat) (cs : List Nat) (ht : IsTally w tb cs n) (c : Int) (k : Nat) (hk : ofF cs n c = k) (z : Int) (hz : (k : Int) = z) :
    Calls Try.prog 8 #[.pointer (some ⟨tb, 0, none⟩), .int .i64 c] w fun e w' => e = .returned (.int .i64 z) ∧ w = w' := by
  rw [← hz, ← hk]; exact of_any w tb n cs ht c
theorem total_okI (w : World) (tb n : Nat) (cs : List Nat) (ht : IsTally w tb cs n) (hs : ∀ c ∈ cs, c ≤ 576460752303423488) (z : Int) (hz : (((cs.take n).sum : Nat) : Int) = z) :
    Calls Try.prog 12 #[.pointer (some ⟨tb, 0, none⟩)] w fun e w' => e = .returned (.int .i64 z) ∧ w = w' := by
  rw [← hz]; exact total_any w tb n cs ht hs

/-- Numbers that are told by their order. -/
def ints (xs : List Nat) : List Int := xs.map fun x : Nat => (x : Int)
theorem FullRow.ints {N : Nat} {w : World} {v : Value} {xs : List Nat} (h : FullRow N w v xs) : IntsAt w v (ints xs) := by
  rcases h with ⟨rfl, rfl⟩ | ⟨g, cur, rfl, hN, hg, ht, hp, hl⟩
  · exact .inl ⟨⟨none, 0, rfl⟩, rfl⟩
  · refine .inr ⟨g, 0, xs.length, by simp [Ytohnagmkbjdlmaa.ints], fun j hj => ?_⟩
    have hj' : j < xs.length := by simpa [Ytohnagmkbjdlmaa.ints] using hj
    have h0 : (cur.toList.take xs.length)[j]? = (xs.map encI)[j]? := by rw [ht]
    rw [List.getElem?_take_of_lt hj'] at h0
    refine cellAt hg ?_
    rw [Nat.zero_add, ← Array.getElem?_toList, h0]
    simp [hj', encI, Ytohnagmkbjdlmaa.ints]
theorem IntsAt.below {w w' : World} {v : Value} {xs : List Int} (h : IntsAt w v xs) (hb : Below w.heap.size w w') : IntsAt w' v xs := by
  rcases h with h | ⟨b, off, cap, e, hc⟩
  · exact .inl h
  · exact .inr ⟨b, off, cap, e, fun j hj => (hb.cell (p := ⟨b, off + j, none⟩) (block_lt_of_cell (hc j hj))).trans (hc j hj)⟩
theorem same_nil (a a' : Option Addr) (cap cap' : Nat) (w : World) : Calls Try.prog 10 #[.slice a 0 cap, .slice a' 0 cap'] w fun e w' => e = .returned (.bool true) ∧ w = w' := by
  go_enter Try.func10, Try.ntmps10
  go_wp2
  go_loop [5] (fun i => i = .int .i64 0) (fun _ => 0)
  case atStart => rfl
  case round =>
    subst hrel
    go_wp2
    go_ret
    exact ⟨rfl, rfl⟩
theorem same_true (xs : List Int) (hl : xs.length ≤ 9223372036854775807) (v v' : Value) (w : World) (h : IntsAt w v xs) (h' : IntsAt w v' xs) :
    Calls Try.prog 10 #[v, v'] w fun e w' => e = .returned (.bool true) ∧ ∃ n, w' = w.drewN n := by
  by_cases hx : xs = []
  · subst hx
    have e : ∀ u, IntsAt w u [] → ∃ a cap, u = .slice a 0 cap := by
      intro u hu
      rcases hu with ⟨h, _⟩ | ⟨b, off, cap, e, _⟩
      · exact h
      · exact ⟨_, _, e⟩
    obtain ⟨a, cap, rfl⟩ := e v h
    obtain ⟨a', cap', rfl⟩ := e v' h'
    exact (same_nil a a' cap cap' w).mono fun e w' ⟨he, hw⟩ => ⟨he, 0, hw ▸ rfl⟩
  · rcases h with ⟨_, h⟩ | ⟨b, off, cap, rfl, hc⟩
    · exact absurd h hx
    rcases h' with ⟨_, h'⟩ | ⟨b', off', cap', rfl, hc'⟩
    · exact absurd h' hx
    exact same_cells xs xs b b' off off' cap cap' w true (by simp) hl rfl hc hc'

/-- A row that the call wrote out. -/
theorem lit_ints (w : World) (cs : Array Value) (xs : List Int) (h : cs.toList = xs.map (Value.int .i64)) (n : Nat) (hn : xs.length = n) (t : TypeId) : IntsAt (w.alloc (.cells cs t)) (.slice (some ⟨w.heap.size, 0, none⟩) n n) xs := by
  refine .inr ⟨w.heap.size, 0, n, by rw [hn], fun j hj => ?_⟩
  refine cellAt (World.alloc_heap_new w _) ?_
  rw [Nat.zero_add, ← Array.getElem?_toList, h]
  simp [hj]

set_option maxHeartbeats 4000000 in
theorem works_any (w : World) : Calls Try.prog 6 #[] w fun e w' => e = .returned (.bool true) ∧ Below w.heap.size w w' := by
  go_enter Try.func6, Try.ntmps6
  go_wp2_with fail
  refine (new_okI _ _ 2 rfl (by decide) (by decide)).mono ?_
  rintro e w1 ⟨rfl, ht1, hb1⟩
  go_wp2_with fail
  refine (add_okI _ _ _ _ [0, 1, 0, 0, 0, 0, 0, 0] ht1 _ 1 rfl (by decide) (by decide) rfl).mono ?_
  rintro e w2 ⟨rfl, ht2, hg2⟩
  go_wp2_with fail
  refine (add_okI _ _ _ _ [0, 2, 0, 0, 0, 0, 0, 0] ht2 _ 1 rfl (by decide) (by decide) rfl).mono ?_
  rintro e w3 ⟨rfl, ht3, hg3⟩
  go_wp2_with fail
  refine (add_okI _ _ _ _ [1, 2, 0, 0, 0, 0, 0, 0] ht3 _ 0 rfl (by decide) (by decide) rfl).mono ?_
  rintro e w4 ⟨rfl, ht4, hg4⟩
  go_wp2_with fail
  refine (add_okI _ _ _ _ [1, 3, 0, 0, 0, 0, 0, 0] ht4 _ 1 rfl (by decide) (by decide) rfl).mono ?_
  rintro e w5 ⟨rfl, ht5, hg5⟩
  go_wp2_with fail
  refine (add_no _ _ _ _ ht5 _ (by decide)).mono ?_
  rintro e w6 ⟨rfl, rfl⟩
  go_wp2_with fail
  refine (add_no _ _ _ _ ht5 _ (by decide)).mono ?_
  rintro e w6 ⟨rfl, rfl⟩
  go_wp2_with fail
  refine (new_bad _ _ (by decide)).mono ?_
  rintro e w6 ⟨rfl, rfl⟩
  go_wp2_with fail
  refine (new_bad _ _ (by decide)).mono ?_
  rintro e w6 ⟨rfl, rfl⟩
  have hz1 := hb1.size
  have hB5 : Below w.heap.size w w5 := below_grown (below_grown (below_grown (below_grown hb1 hg2 hz1 (by intro k e; cases e; exact Nat.le_refl _)) hg3 (Nat.le_trans hz1 hg2.size) (by intro k e; cases e; exact Nat.le_refl _)) hg4 (Nat.le_trans (Nat.le_trans hz1 hg2.size) hg3.size) (by intro k e; cases e; exact Nat.le_refl _)) hg5 (Nat.le_trans (Nat.le_trans (Nat.le_trans hz1 hg2.size) hg3.size) hg4.size) (by intro k e; cases e; exact Nat.le_refl _)
  clear ht1 ht2 ht3 ht4 hg2 hg3 hg4 hg5 hb1
  go_wp2_with fail
  refine (of_okI _ _ _ _ ht5 _ 1 (by decide) _ rfl).mono ?_
  rintro e w6 ⟨rfl, rfl⟩
  go_wp2_with fail
  refine (of_okI _ _ _ _ ht5 _ 3 (by decide) _ rfl).mono ?_
  rintro e w6 ⟨rfl, rfl⟩
  go_wp2_with fail
  refine (of_okI _ _ _ _ ht5 _ 0 (by decide) _ rfl).mono ?_
  rintro e w6 ⟨rfl, rfl⟩
  go_wp2_with fail
  refine (barredAll_any _ _ _ _ ht5).mono ?_
  rintro e w6 ⟨v, rfl, hr6, hb6⟩
  rw [show bl [1, 3, 0, 0, 0, 0, 0, 0] 2 = [1] from by decide] at hr6
  have ht6 := ht5.below hb6
  have hB6 := hB5.trans (hb6.mono hB5.size)
  clear ht5 hb6 hB5
  go_wp2_with fail
  refine (same_true (ints [1]) (by decide) _ _ _ (hr6.ints.below ((Below.refl _ _).alloc (Nat.le_refl _) _)) (lit_ints _ _ (ints [1]) rfl 1 rfl _)).mono ?_
  rintro e w7 ⟨rfl, k, rfl⟩
  have ht7 : IsTally ((w6.alloc (.cells #[.int .i64 1] 3)).drewN k) _ _ _ := (ht6.below ((Below.refl _ _).alloc (Nat.le_refl _) (.cells #[.int .i64 1] 3))).drewN k
  have hB7 := below_drewN (hB6.alloc hB6.size (.cells #[.int .i64 1] 3)) k
  go_wp2_with fail
  refine (total_okI _ _ _ _ ht7 (by decide) 4 rfl).mono ?_
  rintro e w8 ⟨rfl, rfl⟩
  go_wp2
  go_ret
  exact ⟨rfl, hB7⟩
end Go.Proofs.Ytohnagmkbjdlmaa
