/- Layer 23: a tally in memory, and what its methods compute: the walks. Condition: counts below 2^60. -/
import Derived.Test.YtohnagmkbjdlmaaChecked
import Derived.WalkKit
import Derived.WalkLawsBesides
import Derived.BigQuiet
import Derived.Lib.Hide
import Derived.Shelf.Abstract
import Derived.RangeFuncBox
import Derived.Laws.ResultCell
import Derived.LoopTactic
import Derived.StillTailTactics
import Derived.Deep.Heap
import Derived.Laws.Tables
namespace Go.Proofs.Ytohnagmkbjdlmaa
open Go.RowKit Go.BigFrame Go.Shelf
set_option maxRecDepth 20000

/-- A tally's cells: how many offences each of eight carriers has, and how many carriers there are. -/
def tallyC (cs : List Nat) (n : Nat) : Array Value := ((cs.map fun c : Nat => Value.int .i64 (c : Int)) ++ [Value.int .i64 (n : Int)]).toArray
/-- A tally in memory. -/
structure IsTally (w : World) (tb : Nat) (cs : List Nat) (n : Nat) : Prop where
  at_ : w.heap[tb]? = some (.cells (tallyC cs n) 40 (0, 0))
  len : cs.length = 8
  some_ : 1 ≤ n
  most : n ≤ 8

theorem cellAt {w : World} {b i : Nat} {cs : Array Value} {t : TypeId} {fr : Nat × Nat} {v : Value} (h : w.heap[b]? = some (.cells cs t fr)) (hv : cs[i]? = some v) : w.cell? ⟨b, i, none⟩ = some v := by
  simp [World.cell?, h, hv]
theorem IsTally.n_at {w : World} {tb n : Nat} {cs : List Nat} (h : IsTally w tb cs n) : w.cell? ⟨tb, 8, none⟩ = some (.int .i64 (n : Int)) :=
  cellAt h.at_ (by have := h.len; simp [tallyC, ← this])
theorem IsTally.c_at {w : World} {tb n : Nat} {cs : List Nat} (h : IsTally w tb cs n) (c : Nat) (hc : c < 8) : w.cell? ⟨tb, c, none⟩ = some (.int .i64 ((cs.getD c 0 : Nat) : Int)) :=
  cellAt h.at_ (by have := h.len; simp [tallyC, List.getElem?_append_left, this, hc])
theorem IsTally.lt {w : World} {tb n : Nat} {cs : List Nat} (h : IsTally w tb cs n) : tb < w.heap.size := (Array.getElem?_eq_some_iff.1 h.at_).1
theorem IsTally.below {w w' : World} {tb n : Nat} {cs : List Nat} (h : IsTally w tb cs n) (hb : Below w.heap.size w w') : IsTally w' tb cs n := ⟨(hb.block tb h.lt).trans h.at_, h.len, h.some_, h.most⟩
theorem IsTally.drewN {w : World} {tb n : Nat} {cs : List Nat} (h : IsTally w tb cs n) (k : Nat) : IsTally (w.drewN k) tb cs n := ⟨h.at_, h.len, h.some_, h.most⟩

theorem IsTally.free {w : World} {tb n : Nat} {cs : List Nat} (h : IsTally w tb cs n) (c : Nat) : w.frozen? ⟨tb, c, none⟩ = false := by
  simp [World.frozen?, h.at_]
theorem has_yes (w : World) (tb n : Nat) (cs : List Nat) (ht : IsTally w tb cs n) (c : Nat) (hc : c < n) :
    Calls Try.prog 15 #[.pointer (some ⟨tb, 0, none⟩), .int .i64 (c : Int)] w fun e w' => e = .returned (.bool true) ∧ w = w' := by
  have h8 := ht.n_at
  have hi : decide ((c : Int) < (n : Int)) = true := by simp; omega
  have hn := ht.most
  clear ht
  go_enter Try.func15, Try.ntmps15
  go_wp2
  go_ret
  exact ⟨rfl, rfl⟩
theorem has_no (w : World) (tb n : Nat) (cs : List Nat) (ht : IsTally w tb cs n) (c : Int) (hc : c < 0 ∨ (n : Int) ≤ c) :
    Calls Try.prog 15 #[.pointer (some ⟨tb, 0, none⟩), .int .i64 c] w fun e w' => e = .returned (.bool false) ∧ w = w' := by
  have h8 := ht.n_at
  have hn := ht.most
  clear ht
  rcases hc with hc | hc
  · go_enter Try.func15, Try.ntmps15
    go_wp2
    go_ret
    exact ⟨rfl, rfl⟩
  · have h0 : 0 ≤ c := by omega
    have hi : decide (c < (n : Int)) = false := by simp; omega
    go_enter Try.func15, Try.ntmps15
    go_wp2
    go_ret
    exact ⟨rfl, rfl⟩
theorem has_nil (w : World) (c : Int) : Calls Try.prog 15 #[.pointer none, .int .i64 c] w fun e w' => e = .returned (.bool false) ∧ w = w' := by
  go_enter Try.func15, Try.ntmps15
  go_wp2
  go_ret
  exact ⟨rfl, rfl⟩

/-- How many a carrier has. -/
def ofF (cs : List Nat) (n : Nat) (c : Int) : Nat := if 0 ≤ c ∧ c < n then cs.getD c.toNat 0 else 0
theorem of_yes (w : World) (tb n : Nat) (cs : List Nat) (ht : IsTally w tb cs n) (c : Nat) (hc : c < n) :
    Calls Try.prog 8 #[.pointer (some ⟨tb, 0, none⟩), .int .i64 (c : Int)] w fun e w' => e = .returned (.int .i64 (cs.getD c 0 : Nat)) ∧ w = w' := by
  have h8 := ht.c_at c (by have := ht.most; omega)
  have hc8 : (c : Int) < 8 := by have := ht.most; omega
  go_enter Try.func8, Try.ntmps8
  go_wp2_with (go_at_call 15; refine (has_yes _ tb n cs ht c hc).mono ?_; rintro e w1 ⟨rfl, rfl⟩)
  go_ret
  exact ⟨rfl, rfl⟩
theorem of_no (w : World) (tb n : Nat) (cs : List Nat) (ht : IsTally w tb cs n) (c : Int) (hc : c < 0 ∨ (n : Int) ≤ c) :
    Calls Try.prog 8 #[.pointer (some ⟨tb, 0, none⟩), .int .i64 c] w fun e w' => e = .returned (.int .i64 0) ∧ w = w' := by
  go_enter Try.func8, Try.ntmps8
  go_wp2_with (go_at_call 15; refine (has_no _ tb n cs ht c hc).mono ?_; rintro e w1 ⟨rfl, rfl⟩)
  go_ret
  exact ⟨rfl, rfl⟩
theorem of_nil (w : World) (c : Int) : Calls Try.prog 8 #[.pointer none, .int .i64 c] w fun e w' => e = .returned (.int .i64 0) ∧ w = w' := by
  go_enter Try.func8, Try.ntmps8
  go_wp2_with (go_at_call 15; refine (has_nil _ c).mono ?_; rintro e w1 ⟨rfl, rfl⟩)
  go_ret
  exact ⟨rfl, rfl⟩
theorem of_any (w : World) (tb n : Nat) (cs : List Nat) (ht : IsTally w tb cs n) (c : Int) :
    Calls Try.prog 8 #[.pointer (some ⟨tb, 0, none⟩), .int .i64 c] w fun e w' => e = .returned (.int .i64 (ofF cs n c : Nat)) ∧ w = w' := by
  by_cases h : 0 ≤ c ∧ c < n
  · obtain ⟨k, rfl⟩ : ∃ k : Nat, c = (k : Int) := ⟨c.toNat, by omega⟩
    have e : ofF cs n (k : Int) = cs.getD k 0 := by unfold ofF; rw [if_pos h]; simp
    rw [e]
    exact of_yes w tb n cs ht k (by omega)
  · have e : ofF cs n c = 0 := if_neg h
    rw [e]
    exact of_no w tb n cs ht c (by omega)
theorem is_any (w : World) (tb n : Nat) (cs : List Nat) (ht : IsTally w tb cs n) (c : Int) (r : Bool) (hr : decide (3 ≤ ofF cs n c) = r) :
    Calls Try.prog 9 #[.pointer (some ⟨tb, 0, none⟩), .int .i64 c] w fun e w' => e = .returned (.bool r) ∧ w = w' := by
  have hI : decide ((3 : Int) ≤ (ofF cs n c : Nat)) = r := by rw [← hr]; congr 1; apply propext; omega
  obtain ⟨k, hk⟩ : ∃ k, ofF cs n c = k := ⟨_, rfl⟩
  rw [hk] at hI
  have hO := Lib.hid (hk ▸ of_any w tb n cs ht c)
  clear hr hk ht
  go_enter Try.func9, Try.ntmps9
  go_wp2_with (go_at_call 8; refine hO.out.mono ?_; rintro e w1 ⟨rfl, rfl⟩)
  go_ret
  exact ⟨rfl, rfl⟩
theorem is_nil (w : World) (c : Int) : Calls Try.prog 9 #[.pointer none, .int .i64 c] w fun e w' => e = .returned (.bool false) ∧ w = w' := by
  go_enter Try.func9, Try.ntmps9
  go_wp2_with (go_at_call 8; refine (of_nil _ c).mono ?_; rintro e w1 ⟨rfl, rfl⟩)
  go_ret
  exact ⟨rfl, rfl⟩

theorem new_bad (w : World) (n : Int) (h : n < 1 ∨ 8 < n) : Calls Try.prog 13 #[.int .i64 n] w fun e w' => e = .returned (.tuple #[.pointer none, .int .i64 11]) ∧ w = w' := by
  rcases h with h | h
  all_goals
    go_enter Try.func13, Try.ntmps13
    go_wp2
    go_ret2
    exact ⟨rfl, rfl⟩
theorem new_ok (w : World) (n : Nat) (h1 : 1 ≤ n) (h8 : n ≤ 8) : Calls Try.prog 13 #[.int .i64 (n : Int)] w fun e w' => e = .returned (.tuple #[.pointer (some ⟨w.heap.size, 0, none⟩), .int .i64 0]) ∧ IsTally w' w.heap.size (List.replicate 8 0) n ∧ Below w.heap.size w w' := by
  have hi : ¬ (n : Int) < 1 := by omega
  go_enter Try.func13, Try.ntmps13
  go_wp2
  go_ret2
  exact ⟨rfl, ⟨World.alloc_heap_new w _, rfl, h1, h8⟩, (Below.refl _ w).alloc (Nat.le_refl _) _⟩

theorem add_no (w : World) (tb n : Nat) (cs : List Nat) (ht : IsTally w tb cs n) (c : Int) (hc : c < 0 ∨ (n : Int) ≤ c) :
    Calls Try.prog 14 #[.pointer (some ⟨tb, 0, none⟩), .int .i64 c] w fun e w' => e = .returned (.int .i64 12) ∧ w = w' := by
  go_enter Try.func14, Try.ntmps14
  go_wp2_with (go_at_call 15; refine (has_no _ tb n cs ht c hc).mono ?_; rintro e w1 ⟨rfl, rfl⟩)
  go_ret
  exact ⟨rfl, rfl⟩
theorem add_nil (w : World) (c : Int) : Calls Try.prog 14 #[.pointer none, .int .i64 c] w fun e w' => e = .returned (.int .i64 1) ∧ w = w' := by
  go_enter Try.func14, Try.ntmps14
  go_wp2
  go_ret
  exact ⟨rfl, rfl⟩

theorem tallyC_set (cs : List Nat) (n c x : Nat) (hl : cs.length = 8) (hc : c < 8) : (tallyC cs n).setIfInBounds c (.int .i64 (x : Int)) = tallyC (cs.set c x) n := by
  apply Array.ext'
  simp only [tallyC, List.setIfInBounds_toArray]
  rw [List.set_append_left _ _ (by simp; omega), List.map_set]
theorem IsTally.set {w : World} {tb n : Nat} {cs : List Nat} (h : IsTally w tb cs n) (c x : Nat) (hc : c < 8) : IsTally (w.setCell ⟨tb, c, none⟩ (.int .i64 (x : Int))) tb (cs.set c x) n := by
  refine ⟨?_, by simp [h.len], h.some_, h.most⟩
  rw [setCell_eq_setRow w tb c (tallyC cs n) _ _ _ h.at_, setRow_heap w tb _ _ _ _ h.at_, tallyC_set cs n c x h.len hc]
theorem add_ok (w : World) (tb n : Nat) (cs : List Nat) (ht : IsTally w tb cs n) (c : Nat) (hc : c < n) (hs : cs.getD c 0 < 1152921504606846976) :
    Calls Try.prog 14 #[.pointer (some ⟨tb, 0, none⟩), .int .i64 (c : Int)] w fun e w' => e = .returned (.int .i64 0) ∧ IsTally w' tb (cs.set c (cs.getD c 0 + 1)) n ∧ w.grownBy w' (some tb) := by
  have h8 := ht.c_at c (by have := ht.most; omega)
  have hc8 : (c : Int) < 8 := by have := ht.most; omega
  have hc0 : (0 : Int) ≤ (c : Int) := by omega
  have hc8' : c < 8 := by omega
  have hfz := ht.free c
  have hset := Lib.hid (show IsTally ((w.setCell ⟨tb, c, none⟩ (.int .i64 ((cs.getD c 0 : Nat) + 1))).drew) tb (cs.set c (cs.getD c 0 + 1)) n from by
    have := (ht.set c (cs.getD c 0 + 1) hc8').drewN 1
    rw [Int.natCast_add] at this
    exact this)
  have hat := Lib.hid ht.at_
  obtain ⟨x, hx⟩ : ∃ x, cs.getD c 0 = x := ⟨_, rfl⟩
  rw [hx] at h8 hs hset ⊢
  have HX := Lib.hid hx
  clear hx
  go_enter Try.func14, Try.ntmps14
  go_wp2_with (go_at_call 15; refine (has_yes _ tb n cs ht c hc).mono ?_; rintro e w1 ⟨rfl, rfl⟩)
  go_still_tail 10, (by kernel_rfl)
  go_wp2
  go_ret
  exact ⟨rfl, hset.out, ⟨rfl, rfl, rfl, by simp, fun k hk hne => by
    show (w.setCell _ _).heap[k]? = w.heap[k]?
    rw [setCell_eq_setRow w tb c (tallyC cs n) _ _ _ hat.out]
    exact setRow_other w tb k _ (by simpa using hne)⟩⟩
end Go.Proofs.Ytohnagmkbjdlmaa
