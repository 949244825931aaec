/- Layer 1, the document's numbers: what Add answers: the walks. Conditions: magnitudes of 64 bits. -/
import Derived.Test.YtgbbediopjkkeaaNCarry
namespace Go.Proofs.Ytgbbediopjkkeaa
open Go.RowKit Go.BigFrame Go.Shelf
set_option maxRecDepth 20000

theorem alloc_drewN (w : World) (n : Nat) (o : Obj) : (w.drewN n).alloc o = (w.alloc o).drewN n := rfl
theorem setCell_drewN (w : World) (n : Nat) (a : Addr) (v : Value) : (w.drewN n).setCell a v = (w.setCell a v).drewN n := rfl
attribute [local go_sem] alloc_drewN setCell_drewN

set_option maxHeartbeats 4000000 in
theorem wadd_same (s : Bool) (a b c d : Nat) (w : World) (ha : a < 4294967296) (hb : b < 4294967296) (hc : c < 4294967296) (hd : d < 4294967296) :
    Calls Try.prog 16 #[.agg #[.bool s, .int .u64 (a : Int), .int .u64 (b : Int), .int .u64 0, .int .u64 0], .agg #[.bool s, .int .u64 (c : Int), .int .u64 (d : Int), .int .u64 0, .int .u64 0]] w fun e w' =>
      e = .returned (.agg #[.bool s, .int .u64 (((a : Int) + c) % 4294967296), .int .u64 (((b : Int) + d + (a + c) / 4294967296) % 4294967296), .int .u64 (((b : Int) + d + (a + c) / 4294967296) / 4294967296 % 4294967296), .int .u64 (((b : Int) + d + (a + c) / 4294967296) / 4294967296 / 4294967296)]) ∧ Below w.heap.size w w' := by
  have hs : (s == s) = true := by simp
  go_enter Try.func16, Try.ntmps16
  go_wp2
  refine wp_loop_rounds 5 ?_
  iterate 4
    rw [rounds_succ]
    go_wp2
    refine region_tail 12 (by kernel_rfl) (by kernel_rfl) ?_
    simp only [List.take_succ_cons, List.take_zero, List.drop_succ_cons, List.drop_zero]
    iterate 12 (first | go_big_quiet_skip | (go_big_quiet_want; go_big_quiet_op; go_big_quiet_on))
    refine wpQuiet_nil ?_
    go_wp2
  rw [rounds_succ]
  go_wp2_with (go_at_call 27; refine (carry_any _ _ _ _ _ ?_ ?_ ?_ ?_ ?_ ?_ ?_ ?_).mono ?_; omega; omega; omega; omega; omega; omega; omega; omega; rintro e w1 ⟨rfl, k, rfl⟩)
  refine bodyPost_ret (v := .agg #[.bool s, .int .u64 (((a : Int) + c) % 4294967296), .int .u64 (((b : Int) + d + (a + c) / 4294967296) % 4294967296), .int .u64 (((b : Int) + d + (a + c) / 4294967296) / 4294967296 % 4294967296), .int .u64 (((b : Int) + d + (a + c) / 4294967296) / 4294967296 / 4294967296)]) (by simp [results, Try.results16, go_sem]) rfl ⟨rfl, ?_⟩
  repeat (refine Below.setCell ?_ (by simp <;> omega) _)
  refine below_drewN ?_ _
  repeat (refine Below.alloc ?_ (by simp <;> omega) _)
  exact Below.refl _ _


set_option maxHeartbeats 4000000 in
theorem wadd_stay0 (s t : Bool) (a b c d : Nat) (w : World) (hst : (s == t) = false) (ha : a < 4294967296) (hb : b < 4294967296) (hc : c < 4294967296) (hd : d < 4294967296)
    (hl : decide (a + b * 4294967296 < c + d * 4294967296) = false) (hbo : ¬ a < c) :
    Calls Try.prog 16 #[.agg #[.bool s, .int .u64 (a : Int), .int .u64 (b : Int), .int .u64 0, .int .u64 0], .agg #[.bool t, .int .u64 (c : Int), .int .u64 (d : Int), .int .u64 0, .int .u64 0]] w fun e w' =>
      e = .returned (.agg #[.bool s, .int .u64 ((a : Int) - c), .int .u64 ((b : Int) - d), .int .u64 0, .int .u64 0]) ∧ Below w.heap.size w w' := by
  have hp : d ≤ b := by simp only [decide_eq_false_iff_not] at hl; omega
  have h0 : (c : Int) ≤ a := by omega
  have HL := Lib.hid hl
  clear hl
  go_enter Try.func16, Try.ntmps16
  go_wp2_with (go_at_call 28; refine (less_any _ a b c d ha hc).mono ?_; rintro e w1 ⟨rfl, k, rfl⟩; rw [HL.out])
  refine wp_loop_rounds 5 ?_
  iterate 4
    rw [rounds_succ]
    go_wp2
    refine region_tail 11 (by kernel_rfl) (by kernel_rfl) ?_
    simp only [List.take_succ_cons, List.take_zero, List.drop_succ_cons, List.drop_zero]
    iterate 11 (first | go_big_quiet_skip | (go_big_quiet_want; go_big_quiet_op; go_big_quiet_on))
    refine wpQuiet_nil ?_
    go_wp2
  rw [rounds_succ]
  go_wp2
  refine bodyPost_ret (v := .agg #[.bool s, .int .u64 ((a : Int) - c), .int .u64 ((b : Int) - d), .int .u64 0, .int .u64 0]) (by simp [results, Try.results16, go_sem]) rfl ⟨rfl, ?_⟩
  repeat (first | ((with_reducible refine Below.drew ?_)) | ((with_reducible refine below_drewN ?_ _)) | ((with_reducible refine Below.alloc ?_ ?hB _); (case hB => (simp <;> omega))) | ((with_reducible refine Below.setCell ?_ ?hB _); (case hB => (simp <;> omega))))
  exact Below.refl _ _


set_option maxHeartbeats 4000000 in
theorem wadd_stay1 (s t : Bool) (a b c d : Nat) (w : World) (hst : (s == t) = false) (ha : a < 4294967296) (hb : b < 4294967296) (hc : c < 4294967296) (hd : d < 4294967296)
    (hl : decide (a + b * 4294967296 < c + d * 4294967296) = false) (hbo : a < c) :
    Calls Try.prog 16 #[.agg #[.bool s, .int .u64 (a : Int), .int .u64 (b : Int), .int .u64 0, .int .u64 0], .agg #[.bool t, .int .u64 (c : Int), .int .u64 (d : Int), .int .u64 0, .int .u64 0]] w fun e w' =>
      e = .returned (.agg #[.bool s, .int .u64 ((a : Int) + 4294967296 - c), .int .u64 ((b : Int) - (d + 1)), .int .u64 0, .int .u64 0]) ∧ Below w.heap.size w w' := by
  have hp : d < b := by simp only [decide_eq_false_iff_not] at hl; omega
  have h0 : (c : Int) ≤ a + 4294967296 := by omega
  have HL := Lib.hid hl
  clear hl
  go_enter Try.func16, Try.ntmps16
  go_wp2_with (go_at_call 28; refine (less_any _ a b c d ha hc).mono ?_; rintro e w1 ⟨rfl, k, rfl⟩; rw [HL.out])
  refine wp_loop_rounds 5 ?_
  iterate 4
    rw [rounds_succ]
    go_wp2
    refine region_tail 11 (by kernel_rfl) (by kernel_rfl) ?_
    simp only [List.take_succ_cons, List.take_zero, List.drop_succ_cons, List.drop_zero]
    iterate 11 (first | go_big_quiet_skip | (go_big_quiet_want; go_big_quiet_op; go_big_quiet_on))
    refine wpQuiet_nil ?_
    go_wp2
  rw [rounds_succ]
  go_wp2
  refine bodyPost_ret (v := .agg #[.bool s, .int .u64 ((a : Int) + 4294967296 - c), .int .u64 ((b : Int) - (d + 1)), .int .u64 0, .int .u64 0]) (by simp [results, Try.results16, go_sem]) rfl ⟨rfl, ?_⟩
  repeat (first | ((with_reducible refine Below.drew ?_)) | ((with_reducible refine below_drewN ?_ _)) | ((with_reducible refine Below.alloc ?_ ?hB _); (case hB => (simp <;> omega))) | ((with_reducible refine Below.setCell ?_ ?hB _); (case hB => (simp <;> omega))))
  exact Below.refl _ _


set_option maxHeartbeats 4000000 in
theorem wadd_swap0 (s t : Bool) (a b c d : Nat) (w : World) (hst : (s == t) = false) (ha : a < 4294967296) (hb : b < 4294967296) (hc : c < 4294967296) (hd : d < 4294967296)
    (hl : decide (a + b * 4294967296 < c + d * 4294967296) = true) (hbo : ¬ c < a) :
    Calls Try.prog 16 #[.agg #[.bool s, .int .u64 (a : Int), .int .u64 (b : Int), .int .u64 0, .int .u64 0], .agg #[.bool t, .int .u64 (c : Int), .int .u64 (d : Int), .int .u64 0, .int .u64 0]] w fun e w' =>
      e = .returned (.agg #[.bool t, .int .u64 ((c : Int) - a), .int .u64 ((d : Int) - b), .int .u64 0, .int .u64 0]) ∧ Below w.heap.size w w' := by
  have hp : b ≤ d := by simp only [decide_eq_true_eq] at hl; omega
  have h0 : (a : Int) ≤ c := by omega
  have HL := Lib.hid hl
  clear hl
  go_enter Try.func16, Try.ntmps16
  go_wp2_with (go_at_call 28; refine (less_any _ a b c d ha hc).mono ?_; rintro e w1 ⟨rfl, k, rfl⟩; rw [HL.out])
  refine wp_loop_rounds 5 ?_
  iterate 4
    rw [rounds_succ]
    go_wp2
    refine region_tail 11 (by kernel_rfl) (by kernel_rfl) ?_
    simp only [List.take_succ_cons, List.take_zero, List.drop_succ_cons, List.drop_zero]
    iterate 11 (first | go_big_quiet_skip | (go_big_quiet_want; go_big_quiet_op; go_big_quiet_on))
    refine wpQuiet_nil ?_
    go_wp2
  rw [rounds_succ]
  go_wp2
  refine bodyPost_ret (v := .agg #[.bool t, .int .u64 ((c : Int) - a), .int .u64 ((d : Int) - b), .int .u64 0, .int .u64 0]) (by simp [results, Try.results16, go_sem]) rfl ⟨rfl, ?_⟩
  repeat (first | ((with_reducible refine Below.drew ?_)) | ((with_reducible refine below_drewN ?_ _)) | ((with_reducible refine Below.alloc ?_ ?hB _); (case hB => (simp <;> omega))) | ((with_reducible refine Below.setCell ?_ ?hB _); (case hB => (simp <;> omega))))
  exact Below.refl _ _


set_option maxHeartbeats 4000000 in
theorem wadd_swap1 (s t : Bool) (a b c d : Nat) (w : World) (hst : (s == t) = false) (ha : a < 4294967296) (hb : b < 4294967296) (hc : c < 4294967296) (hd : d < 4294967296)
    (hl : decide (a + b * 4294967296 < c + d * 4294967296) = true) (hbo : c < a) :
    Calls Try.prog 16 #[.agg #[.bool s, .int .u64 (a : Int), .int .u64 (b : Int), .int .u64 0, .int .u64 0], .agg #[.bool t, .int .u64 (c : Int), .int .u64 (d : Int), .int .u64 0, .int .u64 0]] w fun e w' =>
      e = .returned (.agg #[.bool t, .int .u64 ((c : Int) + 4294967296 - a), .int .u64 ((d : Int) - (b + 1)), .int .u64 0, .int .u64 0]) ∧ Below w.heap.size w w' := by
  have hp : b < d := by simp only [decide_eq_true_eq] at hl; omega
  have h0 : (a : Int) ≤ c + 4294967296 := by omega
  have HL := Lib.hid hl
  clear hl
  go_enter Try.func16, Try.ntmps16
  go_wp2_with (go_at_call 28; refine (less_any _ a b c d ha hc).mono ?_; rintro e w1 ⟨rfl, k, rfl⟩; rw [HL.out])
  refine wp_loop_rounds 5 ?_
  iterate 4
    rw [rounds_succ]
    go_wp2
    refine region_tail 11 (by kernel_rfl) (by kernel_rfl) ?_
    simp only [List.take_succ_cons, List.take_zero, List.drop_succ_cons, List.drop_zero]
    iterate 11 (first | go_big_quiet_skip | (go_big_quiet_want; go_big_quiet_op; go_big_quiet_on))
    refine wpQuiet_nil ?_
    go_wp2
  rw [rounds_succ]
  go_wp2
  refine bodyPost_ret (v := .agg #[.bool t, .int .u64 ((c : Int) + 4294967296 - a), .int .u64 ((d : Int) - (b + 1)), .int .u64 0, .int .u64 0]) (by simp [results, Try.results16, go_sem]) rfl ⟨rfl, ?_⟩
  repeat (first | ((with_reducible refine Below.drew ?_)) | ((with_reducible refine below_drewN ?_ _)) | ((with_reducible refine Below.alloc ?_ ?hB _); (case hB => (simp <;> omega))) | ((with_reducible refine Below.setCell ?_ ?hB _); (case hB => (simp <;> omega))))
  exact Below.refl _ _

end Go.Proofs.Ytgbbediopjkkeaa
