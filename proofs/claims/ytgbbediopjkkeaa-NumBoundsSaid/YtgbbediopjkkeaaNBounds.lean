/- Layer 1: NumBounds, of all numbers: the walk. No condition. -/
import Derived.Test.YtgbbediopjkkeaaNWork
namespace Go.Proofs.Ytgbbediopjkkeaa
open Go.RowKit Go.BigFrame Go.Shelf
set_option maxRecDepth 20000


set_option maxHeartbeats 4000000 in
theorem bounds_lo_le (n a b : Int) (w : World) (h1 : n < a) (h2 : a ≤ b) :
    Calls Try.prog 4 #[.int .i64 n, .int .i64 a, .int .i64 b] w fun e w' => e = .returned (.bool true) ∧ Below w.heap.size w w' := by
  have i0 : ∀ w, (Instr.index 28 (.agg #[.int .i64 n, .int .i64 a]) (.int .i64 0)).run Try.prog w = .ok (.int .i64 n) w := fun _ => by kernel_rfl
  have i1 : ∀ w, (Instr.index 28 (.agg #[.int .i64 n, .int .i64 a]) (.int .i64 1)).run Try.prog w = .ok (.int .i64 a) w := fun _ => by kernel_rfl
  have C1 := Lib.hid (show clampV n a b = a by unfold clampV; (repeat' split) <;> omega)
  have C2 := Lib.hid (show clampV a a b = a by unfold clampV; (repeat' split) <;> omega)
  have W1 := Lib.hid (show (decide (a ≤ n) && decide (n ≤ b)) = false by simp <;> omega)
  have W2 := Lib.hid (show (decide (a ≤ a) && decide (a ≤ b)) = true by simp <;> omega)
  have W3 := Lib.hid (show (decide (a ≤ b) && decide (b ≤ b)) = true by simp <;> omega)
  go_enter Try.func4, Try.ntmps4
  go_wp2_with (go_at_call 10; refine (works_any _).mono ?_; rintro e w1 ⟨rfl, hb1⟩)
  refine wp_loop_rounds 3 ?_
  iterate 2
    rw [rounds_succ]
    go_wp2_with (first
      | (go_at_call_of 11 n; refine (clamp_any _ _ _ a _ C1.out).mono ?_; rintro e w2 ⟨rfl, rfl⟩)
      | (go_at_call 11; refine (clamp_any _ _ _ a _ C2.out).mono ?_; rintro e w2 ⟨rfl, rfl⟩)
      | (go_at_call_of 12 n; refine (within_any _ _ _ false _ W1.out).mono ?_; rintro e w2 ⟨rfl, rfl⟩)
      | (go_at_call 12; (with_reducible refine (within_any a a b true _ W2.out).mono ?_); rintro e w2 ⟨rfl, rfl⟩)
      | (go_at_call 12; (with_reducible refine (within_any b a b true _ W3.out).mono ?_); rintro e w2 ⟨rfl, rfl⟩))
  rw [rounds_succ]
  go_wp2
  go_ret
  exact ⟨rfl, hb1⟩


set_option maxHeartbeats 4000000 in
theorem bounds_lo_gt (n a b : Int) (w : World) (h1 : n < a) (h2 : b < a) :
    Calls Try.prog 4 #[.int .i64 n, .int .i64 a, .int .i64 b] w fun e w' => e = .returned (.bool true) ∧ Below w.heap.size w w' := by
  have i0 : ∀ w, (Instr.index 28 (.agg #[.int .i64 n, .int .i64 a]) (.int .i64 0)).run Try.prog w = .ok (.int .i64 n) w := fun _ => by kernel_rfl
  have i1 : ∀ w, (Instr.index 28 (.agg #[.int .i64 n, .int .i64 a]) (.int .i64 1)).run Try.prog w = .ok (.int .i64 a) w := fun _ => by kernel_rfl
  have C1 := Lib.hid (show clampV n a b = a by unfold clampV; (repeat' split) <;> omega)
  have C2 := Lib.hid (show clampV a a b = b by unfold clampV; (repeat' split) <;> omega)
  have W1 := Lib.hid (show (decide (a ≤ n) && decide (n ≤ b)) = false by simp <;> omega)
  have W2 := Lib.hid (show (decide (a ≤ a) && decide (a ≤ b)) = false by simp <;> omega)
  have W3 := Lib.hid (show (decide (a ≤ b) && decide (b ≤ b)) = false by simp <;> omega)
  go_enter Try.func4, Try.ntmps4
  go_wp2_with (go_at_call 10; refine (works_any _).mono ?_; rintro e w1 ⟨rfl, hb1⟩)
  refine wp_loop_rounds 3 ?_
  iterate 2
    rw [rounds_succ]
    go_wp2_with (first
      | (go_at_call_of 11 n; refine (clamp_any _ _ _ a _ C1.out).mono ?_; rintro e w2 ⟨rfl, rfl⟩)
      | (go_at_call 11; refine (clamp_any _ _ _ b _ C2.out).mono ?_; rintro e w2 ⟨rfl, rfl⟩)
      | (go_at_call_of 12 n; refine (within_any _ _ _ false _ W1.out).mono ?_; rintro e w2 ⟨rfl, rfl⟩)
      | (go_at_call 12; (with_reducible refine (within_any a a b false _ W2.out).mono ?_); rintro e w2 ⟨rfl, rfl⟩)
      | (go_at_call 12; (with_reducible refine (within_any b a b false _ W3.out).mono ?_); rintro e w2 ⟨rfl, rfl⟩))
  rw [rounds_succ]
  go_wp2
  go_ret
  exact ⟨rfl, hb1⟩


set_option maxHeartbeats 4000000 in
theorem bounds_in_le (n a b : Int) (w : World) (h1 : a ≤ n) (h2 : n ≤ b) :
    Calls Try.prog 4 #[.int .i64 n, .int .i64 a, .int .i64 b] w fun e w' => e = .returned (.bool true) ∧ Below w.heap.size w w' := by
  have i0 : ∀ w, (Instr.index 28 (.agg #[.int .i64 n, .int .i64 a]) (.int .i64 0)).run Try.prog w = .ok (.int .i64 n) w := fun _ => by kernel_rfl
  have i1 : ∀ w, (Instr.index 28 (.agg #[.int .i64 n, .int .i64 a]) (.int .i64 1)).run Try.prog w = .ok (.int .i64 a) w := fun _ => by kernel_rfl
  have C1 := Lib.hid (show clampV n a b = n by unfold clampV; (repeat' split) <;> omega)
  have C2 := Lib.hid (show clampV a a b = a by unfold clampV; (repeat' split) <;> omega)
  have W1 := Lib.hid (show (decide (a ≤ n) && decide (n ≤ b)) = true by simp <;> omega)
  have W2 := Lib.hid (show (decide (a ≤ a) && decide (a ≤ b)) = true by simp <;> omega)
  have W3 := Lib.hid (show (decide (a ≤ b) && decide (b ≤ b)) = true by simp <;> omega)
  go_enter Try.func4, Try.ntmps4
  go_wp2_with (go_at_call 10; refine (works_any _).mono ?_; rintro e w1 ⟨rfl, hb1⟩)
  refine wp_loop_rounds 3 ?_
  iterate 2
    rw [rounds_succ]
    go_wp2_with (first
      | (go_at_call_of 11 n; refine (clamp_any _ _ _ n _ C1.out).mono ?_; rintro e w2 ⟨rfl, rfl⟩)
      | (go_at_call 11; refine (clamp_any _ _ _ a _ C2.out).mono ?_; rintro e w2 ⟨rfl, rfl⟩)
      | (go_at_call_of 12 n; refine (within_any _ _ _ true _ W1.out).mono ?_; rintro e w2 ⟨rfl, rfl⟩)
      | (go_at_call 12; (with_reducible refine (within_any a a b true _ W2.out).mono ?_); rintro e w2 ⟨rfl, rfl⟩)
      | (go_at_call 12; (with_reducible refine (within_any b a b true _ W3.out).mono ?_); rintro e w2 ⟨rfl, rfl⟩))
  rw [rounds_succ]
  go_wp2
  go_ret
  exact ⟨rfl, hb1⟩


set_option maxHeartbeats 4000000 in
theorem bounds_hi_le (n a b : Int) (w : World) (h1 : b < n) (h2 : a < b) :
    Calls Try.prog 4 #[.int .i64 n, .int .i64 a, .int .i64 b] w fun e w' => e = .returned (.bool true) ∧ Below w.heap.size w w' := by
  have i0 : ∀ w, (Instr.index 28 (.agg #[.int .i64 n, .int .i64 a]) (.int .i64 0)).run Try.prog w = .ok (.int .i64 n) w := fun _ => by kernel_rfl
  have i1 : ∀ w, (Instr.index 28 (.agg #[.int .i64 n, .int .i64 a]) (.int .i64 1)).run Try.prog w = .ok (.int .i64 a) w := fun _ => by kernel_rfl
  have C1 := Lib.hid (show clampV n a b = b by unfold clampV; (repeat' split) <;> omega)
  have C2 := Lib.hid (show clampV a a b = a by unfold clampV; (repeat' split) <;> omega)
  have W1 := Lib.hid (show (decide (a ≤ n) && decide (n ≤ b)) = false by simp <;> omega)
  have W2 := Lib.hid (show (decide (a ≤ a) && decide (a ≤ b)) = true by simp <;> omega)
  have W3 := Lib.hid (show (decide (a ≤ b) && decide (b ≤ b)) = true by simp <;> omega)
  go_enter Try.func4, Try.ntmps4
  go_wp2_with (go_at_call 10; refine (works_any _).mono ?_; rintro e w1 ⟨rfl, hb1⟩)
  refine wp_loop_rounds 3 ?_
  iterate 2
    rw [rounds_succ]
    go_wp2_with (first
      | (go_at_call_of 11 n; refine (clamp_any _ _ _ b _ C1.out).mono ?_; rintro e w2 ⟨rfl, rfl⟩)
      | (go_at_call 11; refine (clamp_any _ _ _ a _ C2.out).mono ?_; rintro e w2 ⟨rfl, rfl⟩)
      | (go_at_call_of 12 n; refine (within_any _ _ _ false _ W1.out).mono ?_; rintro e w2 ⟨rfl, rfl⟩)
      | (go_at_call 12; (with_reducible refine (within_any a a b true _ W2.out).mono ?_); rintro e w2 ⟨rfl, rfl⟩)
      | (go_at_call 12; (with_reducible refine (within_any b a b true _ W3.out).mono ?_); rintro e w2 ⟨rfl, rfl⟩))
  rw [rounds_succ]
  go_wp2
  go_ret
  exact ⟨rfl, hb1⟩


set_option maxHeartbeats 4000000 in
theorem bounds_hi_eq (n a : Int) (w : World) (h1 : a < n) :
    Calls Try.prog 4 #[.int .i64 n, .int .i64 a, .int .i64 a] w fun e w' => e = .returned (.bool true) ∧ Below w.heap.size w w' := by
  have i0 : ∀ w, (Instr.index 28 (.agg #[.int .i64 n, .int .i64 a]) (.int .i64 0)).run Try.prog w = .ok (.int .i64 n) w := fun _ => by kernel_rfl
  have i1 : ∀ w, (Instr.index 28 (.agg #[.int .i64 n, .int .i64 a]) (.int .i64 1)).run Try.prog w = .ok (.int .i64 a) w := fun _ => by kernel_rfl
  have C1 := Lib.hid (show clampV n a a = a by unfold clampV; (repeat' split) <;> omega)
  have C2 := Lib.hid (show clampV a a a = a by unfold clampV; (repeat' split) <;> omega)
  have W1 := Lib.hid (show (decide (a ≤ n) && decide (n ≤ a)) = false by simp <;> omega)
  have W2 := Lib.hid (show (decide (a ≤ a) && decide (a ≤ a)) = true by simp <;> omega)
  have W3 := Lib.hid (show (decide (a ≤ a) && decide (a ≤ a)) = true by simp <;> omega)
  go_enter Try.func4, Try.ntmps4
  go_wp2_with (go_at_call 10; refine (works_any _).mono ?_; rintro e w1 ⟨rfl, hb1⟩)
  refine wp_loop_rounds 3 ?_
  iterate 2
    rw [rounds_succ]
    go_wp2_with (first
      | (go_at_call_of 11 n; refine (clamp_any _ _ _ a _ C1.out).mono ?_; rintro e w2 ⟨rfl, rfl⟩)
      | (go_at_call 11; refine (clamp_any _ _ _ a _ C2.out).mono ?_; rintro e w2 ⟨rfl, rfl⟩)
      | (go_at_call_of 12 n; refine (within_any _ _ _ false _ W1.out).mono ?_; rintro e w2 ⟨rfl, rfl⟩)
      | (go_at_call 12; (with_reducible refine (within_any a a a true _ W2.out).mono ?_); rintro e w2 ⟨rfl, rfl⟩)
      | (go_at_call 12; (with_reducible refine (within_any a a a true _ W3.out).mono ?_); rintro e w2 ⟨rfl, rfl⟩))
  rw [rounds_succ]
  go_wp2
  go_ret
  exact ⟨rfl, hb1⟩


set_option maxHeartbeats 4000000 in
theorem bounds_hi_gt (n a b : Int) (w : World) (h1 : a ≤ n) (h2 : b < a) :
    Calls Try.prog 4 #[.int .i64 n, .int .i64 a, .int .i64 b] w fun e w' => e = .returned (.bool true) ∧ Below w.heap.size w w' := by
  have i0 : ∀ w, (Instr.index 28 (.agg #[.int .i64 n, .int .i64 a]) (.int .i64 0)).run Try.prog w = .ok (.int .i64 n) w := fun _ => by kernel_rfl
  have i1 : ∀ w, (Instr.index 28 (.agg #[.int .i64 n, .int .i64 a]) (.int .i64 1)).run Try.prog w = .ok (.int .i64 a) w := fun _ => by kernel_rfl
  have C1 := Lib.hid (show clampV n a b = b by unfold clampV; (repeat' split) <;> omega)
  have C2 := Lib.hid (show clampV a a b = b by unfold clampV; (repeat' split) <;> omega)
  have W1 := Lib.hid (show (decide (a ≤ n) && decide (n ≤ b)) = false by simp <;> omega)
  have W2 := Lib.hid (show (decide (a ≤ a) && decide (a ≤ b)) = false by simp <;> omega)
  have W3 := Lib.hid (show (decide (a ≤ b) && decide (b ≤ b)) = false by simp <;> omega)
  go_enter Try.func4, Try.ntmps4
  go_wp2_with (go_at_call 10; refine (works_any _).mono ?_; rintro e w1 ⟨rfl, hb1⟩)
  refine wp_loop_rounds 3 ?_
  iterate 2
    rw [rounds_succ]
    go_wp2_with (first
      | (go_at_call_of 11 n; refine (clamp_any _ _ _ b _ C1.out).mono ?_; rintro e w2 ⟨rfl, rfl⟩)
      | (go_at_call 11; refine (clamp_any _ _ _ b _ C2.out).mono ?_; rintro e w2 ⟨rfl, rfl⟩)
      | (go_at_call_of 12 n; refine (within_any _ _ _ false _ W1.out).mono ?_; rintro e w2 ⟨rfl, rfl⟩)
      | (go_at_call 12; (with_reducible refine (within_any a a b false _ W2.out).mono ?_); rintro e w2 ⟨rfl, rfl⟩)
      | (go_at_call 12; (with_reducible refine (within_any b a b false _ W3.out).mono ?_); rintro e w2 ⟨rfl, rfl⟩))
  rw [rounds_succ]
  go_wp2
  go_ret
  exact ⟨rfl, hb1⟩


theorem bounds_any (n a b : Int) (w : World) :
    Calls Try.prog 4 #[.int .i64 n, .int .i64 a, .int .i64 b] w fun e w' => e = .returned (.bool true) ∧ Below w.heap.size w w' := by
  by_cases h1 : n < a
  · by_cases h2 : a ≤ b
    · exact bounds_lo_le n a b w h1 h2
    · exact bounds_lo_gt n a b w h1 (by omega)
  · by_cases h2 : n ≤ b
    · exact bounds_in_le n a b w (by omega) h2
    · by_cases h3 : a ≤ b
      · by_cases h4 : a = b
        · subst h4
          exact bounds_hi_eq n a w (by omega)
        · exact bounds_hi_le n a b w (by omega) (by omega)
      · exact bounds_hi_gt n a b w (by omega) (by omega)
end Go.Proofs.Ytgbbediopjkkeaa
