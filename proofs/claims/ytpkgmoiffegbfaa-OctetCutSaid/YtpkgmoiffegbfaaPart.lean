/- Layer 16: a part of a row: its width and its number: the walks. No condition. -/
import Derived.Test.YtpkgmoiffegbfaaReader2
namespace Go.Proofs.Ytpkgmoiffegbfaa
open Go.RowKit Go.BigFrame
set_option maxRecDepth 20000

theorem width_any (n wd : Int) (t : ByteArray) (b : Bool) (w : World) (h0 : 0 ≤ wd) (h1 : wd < 256) :
    Calls Try.prog 27 #[.agg #[.int .u64 n, .int .u8 wd, .string t, .bool b]] w fun e w' => e = .returned (.int .i64 (1 + wd % 8)) ∧ Below w.heap.size w w' := by
  go_enter Try.func27, Try.ntmps27
  go_wp2
  all_goals (go_ret; exact ⟨rfl, (Below.refl _ _).alloc (Nat.le_refl _) _⟩)

theorem region_quiet_list {P : Program} {C : World → Prop} {id : Nat} {Q : Exit → Act → World → Prop} {a : Act} {w : World} {l : List Oper} (hm : P.follows .mixedOrders = true) (hB : Region.lexB .any l.toArray = true) (hC : C { w with drawn := w.drawn + 1 })
    (h : wpQuiet P l.toArray C (fun a' => ∀ w', C w' → Q .normal a' w') l a) : (Code.region id l.toArray true).wp P Q a w :=
  wp_region_quiet hm hB hC (by simpa using h)
/-- Where a part's box lies, whatever is made behind it. -/
def BoxAt (w0 : World) (B : Nat) (cs : Array Value) (w : World) : Prop := w.heap[B]? = some (.cells cs 53 (0, 0)) ∧ Below w0.heap.size w0 w ∧ B < w.heap.size
theorem BoxAt.below {w0 w w' : World} {B : Nat} {cs : Array Value} (h : BoxAt w0 B cs w) (hB : w0.heap.size ≤ B) (g : Below w.heap.size w w') : BoxAt w0 B cs w' :=
  ⟨(g.block B h.2.2).trans h.1, h.2.1.trans (g.mono (by have := h.2.2; omega)), Nat.lt_of_lt_of_le h.2.2 g.size⟩
theorem four_of {w0 w : World} {B : Nat} {c0 c1 c2 c3 : Value} (h : BoxAt w0 B #[c0, c1, c2, c3] w) : w.cell? ⟨B, 0, none⟩ = some c0 ∧ w.cell? ⟨B, 1, none⟩ = some c1 ∧ w.cell? ⟨B, 2, none⟩ = some c2 ∧ w.cell? ⟨B, 3, none⟩ = some c3 :=
  ⟨cellAt h.1 rfl, cellAt h.1 rfl, cellAt h.1 rfl, cellAt h.1 rfl⟩


set_option maxHeartbeats 1000000 in
theorem num_part1 (n wd : Int) (t : ByteArray) (b : Bool) (w : World) (h0 : 0 ≤ wd) (h1 : wd < 256) (_hn0 : 0 ≤ n) (_hn : n < 18446744073709551616) (hj : wd % 8 = 0) :
    Calls Try.prog 42 #[.agg #[.int .u64 n, .int .u8 wd, .string t, .bool b]] w fun e w' => e = .returned (.int .u64 (n / 72057594037927936)) ∧ Below w.heap.size w w' := by
  have hW : ∀ w, Calls Try.prog 27 #[.agg #[.int .u64 n, .int .u8 wd, .string t, .bool b]] w fun e w' => e = .returned (.int .i64 1) ∧ Below w.heap.size w w' := fun w => by
    have := width_any n wd t b w h0 h1
    rw [hj] at this
    exact this
  have hc0 : BoxAt w w.heap.size #[.int .u64 n, .int .u8 wd, .string t, .bool b] (w.alloc (.cells #[.int .u64 n, .int .u8 wd, .string t, .bool b] 53)).drew :=
    ⟨heap_alloc_new w _, (((Below.refl _ w).alloc (Nat.le_refl _) _)).drew, by simp⟩
  go_enter Try.func42, Try.ntmps42
  go_wp2
  refine region_quiet_list (C := BoxAt w w.heap.size #[.int .u64 n, .int .u8 wd, .string t, .bool b]) (by kernel_rfl) (by kernel_rfl) hc0 ?_
  generalize hB : w.heap.size = B at *
  go_big_quiet_want
  go_big_quiet_op
  refine ⟨_, fun _ _ => rfl, ?_⟩
  go_big_quiet_on
  go_big_quiet_want
  go_big_quiet_op
  refine ⟨.int .u64 n, fun wq hq => ?_, ?_⟩
  · obtain ⟨q0, q1, q2, q3⟩ := four_of hq
    simp [q0, Result.andThen]
  go_big_quiet_on
  go_big_quiet_want
  go_big_quiet_op
  refine ⟨.agg #[.int .u64 n, .int .u8 wd, .string t, .bool b], fun wq hq => ?_, ?_⟩
  · obtain ⟨q0, q1, q2, q3⟩ := four_of hq
    simp [q0, q1, q2, q3, Result.andThen]
  go_big_quiet_on
  go_big_quiet_want
  go_big_quiet_op
  refine ⟨.int .i64 1, fun wq hq => (hW wq).mono fun e w' ⟨he, hb⟩ => ⟨he, hq.below (Nat.le_of_eq hB) hb⟩, ?_⟩
  go_big_quiet_on
  iterate 5 (go_big_quiet_want; go_big_quiet_op; first | go_big_quiet_on | (refine ⟨_, fun _ _ => rfl, ?_⟩; go_big_quiet_on))
  refine wpQuiet_nil ?_
  intro wq hq
  go_wp2
  all_goals (go_ret; first | exact ⟨rfl, hq.2.1⟩ | exact ⟨by rw [Int.ediv_one]; rfl, hq.2.1⟩)

set_option maxHeartbeats 1000000 in
theorem num_part2 (n wd : Int) (t : ByteArray) (b : Bool) (w : World) (h0 : 0 ≤ wd) (h1 : wd < 256) (_hn0 : 0 ≤ n) (_hn : n < 18446744073709551616) (hj : wd % 8 = 1) :
    Calls Try.prog 42 #[.agg #[.int .u64 n, .int .u8 wd, .string t, .bool b]] w fun e w' => e = .returned (.int .u64 (n / 281474976710656)) ∧ Below w.heap.size w w' := by
  have hW : ∀ w, Calls Try.prog 27 #[.agg #[.int .u64 n, .int .u8 wd, .string t, .bool b]] w fun e w' => e = .returned (.int .i64 2) ∧ Below w.heap.size w w' := fun w => by
    have := width_any n wd t b w h0 h1
    rw [hj] at this
    exact this
  have hc0 : BoxAt w w.heap.size #[.int .u64 n, .int .u8 wd, .string t, .bool b] (w.alloc (.cells #[.int .u64 n, .int .u8 wd, .string t, .bool b] 53)).drew :=
    ⟨heap_alloc_new w _, (((Below.refl _ w).alloc (Nat.le_refl _) _)).drew, by simp⟩
  go_enter Try.func42, Try.ntmps42
  go_wp2
  refine region_quiet_list (C := BoxAt w w.heap.size #[.int .u64 n, .int .u8 wd, .string t, .bool b]) (by kernel_rfl) (by kernel_rfl) hc0 ?_
  generalize hB : w.heap.size = B at *
  go_big_quiet_want
  go_big_quiet_op
  refine ⟨_, fun _ _ => rfl, ?_⟩
  go_big_quiet_on
  go_big_quiet_want
  go_big_quiet_op
  refine ⟨.int .u64 n, fun wq hq => ?_, ?_⟩
  · obtain ⟨q0, q1, q2, q3⟩ := four_of hq
    simp [q0, Result.andThen]
  go_big_quiet_on
  go_big_quiet_want
  go_big_quiet_op
  refine ⟨.agg #[.int .u64 n, .int .u8 wd, .string t, .bool b], fun wq hq => ?_, ?_⟩
  · obtain ⟨q0, q1, q2, q3⟩ := four_of hq
    simp [q0, q1, q2, q3, Result.andThen]
  go_big_quiet_on
  go_big_quiet_want
  go_big_quiet_op
  refine ⟨.int .i64 2, fun wq hq => (hW wq).mono fun e w' ⟨he, hb⟩ => ⟨he, hq.below (Nat.le_of_eq hB) hb⟩, ?_⟩
  go_big_quiet_on
  iterate 5 (go_big_quiet_want; go_big_quiet_op; first | go_big_quiet_on | (refine ⟨_, fun _ _ => rfl, ?_⟩; go_big_quiet_on))
  refine wpQuiet_nil ?_
  intro wq hq
  go_wp2
  all_goals (go_ret; first | exact ⟨rfl, hq.2.1⟩ | exact ⟨by rw [Int.ediv_one]; rfl, hq.2.1⟩)

set_option maxHeartbeats 1000000 in
theorem num_part3 (n wd : Int) (t : ByteArray) (b : Bool) (w : World) (h0 : 0 ≤ wd) (h1 : wd < 256) (_hn0 : 0 ≤ n) (_hn : n < 18446744073709551616) (hj : wd % 8 = 2) :
    Calls Try.prog 42 #[.agg #[.int .u64 n, .int .u8 wd, .string t, .bool b]] w fun e w' => e = .returned (.int .u64 (n / 1099511627776)) ∧ Below w.heap.size w w' := by
  have hW : ∀ w, Calls Try.prog 27 #[.agg #[.int .u64 n, .int .u8 wd, .string t, .bool b]] w fun e w' => e = .returned (.int .i64 3) ∧ Below w.heap.size w w' := fun w => by
    have := width_any n wd t b w h0 h1
    rw [hj] at this
    exact this
  have hc0 : BoxAt w w.heap.size #[.int .u64 n, .int .u8 wd, .string t, .bool b] (w.alloc (.cells #[.int .u64 n, .int .u8 wd, .string t, .bool b] 53)).drew :=
    ⟨heap_alloc_new w _, (((Below.refl _ w).alloc (Nat.le_refl _) _)).drew, by simp⟩
  go_enter Try.func42, Try.ntmps42
  go_wp2
  refine region_quiet_list (C := BoxAt w w.heap.size #[.int .u64 n, .int .u8 wd, .string t, .bool b]) (by kernel_rfl) (by kernel_rfl) hc0 ?_
  generalize hB : w.heap.size = B at *
  go_big_quiet_want
  go_big_quiet_op
  refine ⟨_, fun _ _ => rfl, ?_⟩
  go_big_quiet_on
  go_big_quiet_want
  go_big_quiet_op
  refine ⟨.int .u64 n, fun wq hq => ?_, ?_⟩
  · obtain ⟨q0, q1, q2, q3⟩ := four_of hq
    simp [q0, Result.andThen]
  go_big_quiet_on
  go_big_quiet_want
  go_big_quiet_op
  refine ⟨.agg #[.int .u64 n, .int .u8 wd, .string t, .bool b], fun wq hq => ?_, ?_⟩
  · obtain ⟨q0, q1, q2, q3⟩ := four_of hq
    simp [q0, q1, q2, q3, Result.andThen]
  go_big_quiet_on
  go_big_quiet_want
  go_big_quiet_op
  refine ⟨.int .i64 3, fun wq hq => (hW wq).mono fun e w' ⟨he, hb⟩ => ⟨he, hq.below (Nat.le_of_eq hB) hb⟩, ?_⟩
  go_big_quiet_on
  iterate 5 (go_big_quiet_want; go_big_quiet_op; first | go_big_quiet_on | (refine ⟨_, fun _ _ => rfl, ?_⟩; go_big_quiet_on))
  refine wpQuiet_nil ?_
  intro wq hq
  go_wp2
  all_goals (go_ret; first | exact ⟨rfl, hq.2.1⟩ | exact ⟨by rw [Int.ediv_one]; rfl, hq.2.1⟩)

set_option maxHeartbeats 1000000 in
theorem num_part4 (n wd : Int) (t : ByteArray) (b : Bool) (w : World) (h0 : 0 ≤ wd) (h1 : wd < 256) (_hn0 : 0 ≤ n) (_hn : n < 18446744073709551616) (hj : wd % 8 = 3) :
    Calls Try.prog 42 #[.agg #[.int .u64 n, .int .u8 wd, .string t, .bool b]] w fun e w' => e = .returned (.int .u64 (n / 4294967296)) ∧ Below w.heap.size w w' := by
  have hW : ∀ w, Calls Try.prog 27 #[.agg #[.int .u64 n, .int .u8 wd, .string t, .bool b]] w fun e w' => e = .returned (.int .i64 4) ∧ Below w.heap.size w w' := fun w => by
    have := width_any n wd t b w h0 h1
    rw [hj] at this
    exact this
  have hc0 : BoxAt w w.heap.size #[.int .u64 n, .int .u8 wd, .string t, .bool b] (w.alloc (.cells #[.int .u64 n, .int .u8 wd, .string t, .bool b] 53)).drew :=
    ⟨heap_alloc_new w _, (((Below.refl _ w).alloc (Nat.le_refl _) _)).drew, by simp⟩
  go_enter Try.func42, Try.ntmps42
  go_wp2
  refine region_quiet_list (C := BoxAt w w.heap.size #[.int .u64 n, .int .u8 wd, .string t, .bool b]) (by kernel_rfl) (by kernel_rfl) hc0 ?_
  generalize hB : w.heap.size = B at *
  go_big_quiet_want
  go_big_quiet_op
  refine ⟨_, fun _ _ => rfl, ?_⟩
  go_big_quiet_on
  go_big_quiet_want
  go_big_quiet_op
  refine ⟨.int .u64 n, fun wq hq => ?_, ?_⟩
  · obtain ⟨q0, q1, q2, q3⟩ := four_of hq
    simp [q0, Result.andThen]
  go_big_quiet_on
  go_big_quiet_want
  go_big_quiet_op
  refine ⟨.agg #[.int .u64 n, .int .u8 wd, .string t, .bool b], fun wq hq => ?_, ?_⟩
  · obtain ⟨q0, q1, q2, q3⟩ := four_of hq
    simp [q0, q1, q2, q3, Result.andThen]
  go_big_quiet_on
  go_big_quiet_want
  go_big_quiet_op
  refine ⟨.int .i64 4, fun wq hq => (hW wq).mono fun e w' ⟨he, hb⟩ => ⟨he, hq.below (Nat.le_of_eq hB) hb⟩, ?_⟩
  go_big_quiet_on
  iterate 5 (go_big_quiet_want; go_big_quiet_op; first | go_big_quiet_on | (refine ⟨_, fun _ _ => rfl, ?_⟩; go_big_quiet_on))
  refine wpQuiet_nil ?_
  intro wq hq
  go_wp2
  all_goals (go_ret; first | exact ⟨rfl, hq.2.1⟩ | exact ⟨by rw [Int.ediv_one]; rfl, hq.2.1⟩)

set_option maxHeartbeats 1000000 in
theorem num_part5 (n wd : Int) (t : ByteArray) (b : Bool) (w : World) (h0 : 0 ≤ wd) (h1 : wd < 256) (_hn0 : 0 ≤ n) (_hn : n < 18446744073709551616) (hj : wd % 8 = 4) :
    Calls Try.prog 42 #[.agg #[.int .u64 n, .int .u8 wd, .string t, .bool b]] w fun e w' => e = .returned (.int .u64 (n / 16777216)) ∧ Below w.heap.size w w' := by
  have hW : ∀ w, Calls Try.prog 27 #[.agg #[.int .u64 n, .int .u8 wd, .string t, .bool b]] w fun e w' => e = .returned (.int .i64 5) ∧ Below w.heap.size w w' := fun w => by
    have := width_any n wd t b w h0 h1
    rw [hj] at this
    exact this
  have hc0 : BoxAt w w.heap.size #[.int .u64 n, .int .u8 wd, .string t, .bool b] (w.alloc (.cells #[.int .u64 n, .int .u8 wd, .string t, .bool b] 53)).drew :=
    ⟨heap_alloc_new w _, (((Below.refl _ w).alloc (Nat.le_refl _) _)).drew, by simp⟩
  go_enter Try.func42, Try.ntmps42
  go_wp2
  refine region_quiet_list (C := BoxAt w w.heap.size #[.int .u64 n, .int .u8 wd, .string t, .bool b]) (by kernel_rfl) (by kernel_rfl) hc0 ?_
  generalize hB : w.heap.size = B at *
  go_big_quiet_want
  go_big_quiet_op
  refine ⟨_, fun _ _ => rfl, ?_⟩
  go_big_quiet_on
  go_big_quiet_want
  go_big_quiet_op
  refine ⟨.int .u64 n, fun wq hq => ?_, ?_⟩
  · obtain ⟨q0, q1, q2, q3⟩ := four_of hq
    simp [q0, Result.andThen]
  go_big_quiet_on
  go_big_quiet_want
  go_big_quiet_op
  refine ⟨.agg #[.int .u64 n, .int .u8 wd, .string t, .bool b], fun wq hq => ?_, ?_⟩
  · obtain ⟨q0, q1, q2, q3⟩ := four_of hq
    simp [q0, q1, q2, q3, Result.andThen]
  go_big_quiet_on
  go_big_quiet_want
  go_big_quiet_op
  refine ⟨.int .i64 5, fun wq hq => (hW wq).mono fun e w' ⟨he, hb⟩ => ⟨he, hq.below (Nat.le_of_eq hB) hb⟩, ?_⟩
  go_big_quiet_on
  iterate 5 (go_big_quiet_want; go_big_quiet_op; first | go_big_quiet_on | (refine ⟨_, fun _ _ => rfl, ?_⟩; go_big_quiet_on))
  refine wpQuiet_nil ?_
  intro wq hq
  go_wp2
  all_goals (go_ret; first | exact ⟨rfl, hq.2.1⟩ | exact ⟨by rw [Int.ediv_one]; rfl, hq.2.1⟩)

set_option maxHeartbeats 1000000 in
theorem num_part6 (n wd : Int) (t : ByteArray) (b : Bool) (w : World) (h0 : 0 ≤ wd) (h1 : wd < 256) (_hn0 : 0 ≤ n) (_hn : n < 18446744073709551616) (hj : wd % 8 = 5) :
    Calls Try.prog 42 #[.agg #[.int .u64 n, .int .u8 wd, .string t, .bool b]] w fun e w' => e = .returned (.int .u64 (n / 65536)) ∧ Below w.heap.size w w' := by
  have hW : ∀ w, Calls Try.prog 27 #[.agg #[.int .u64 n, .int .u8 wd, .string t, .bool b]] w fun e w' => e = .returned (.int .i64 6) ∧ Below w.heap.size w w' := fun w => by
    have := width_any n wd t b w h0 h1
    rw [hj] at this
    exact this
  have hc0 : BoxAt w w.heap.size #[.int .u64 n, .int .u8 wd, .string t, .bool b] (w.alloc (.cells #[.int .u64 n, .int .u8 wd, .string t, .bool b] 53)).drew :=
    ⟨heap_alloc_new w _, (((Below.refl _ w).alloc (Nat.le_refl _) _)).drew, by simp⟩
  go_enter Try.func42, Try.ntmps42
  go_wp2
  refine region_quiet_list (C := BoxAt w w.heap.size #[.int .u64 n, .int .u8 wd, .string t, .bool b]) (by kernel_rfl) (by kernel_rfl) hc0 ?_
  generalize hB : w.heap.size = B at *
  go_big_quiet_want
  go_big_quiet_op
  refine ⟨_, fun _ _ => rfl, ?_⟩
  go_big_quiet_on
  go_big_quiet_want
  go_big_quiet_op
  refine ⟨.int .u64 n, fun wq hq => ?_, ?_⟩
  · obtain ⟨q0, q1, q2, q3⟩ := four_of hq
    simp [q0, Result.andThen]
  go_big_quiet_on
  go_big_quiet_want
  go_big_quiet_op
  refine ⟨.agg #[.int .u64 n, .int .u8 wd, .string t, .bool b], fun wq hq => ?_, ?_⟩
  · obtain ⟨q0, q1, q2, q3⟩ := four_of hq
    simp [q0, q1, q2, q3, Result.andThen]
  go_big_quiet_on
  go_big_quiet_want
  go_big_quiet_op
  refine ⟨.int .i64 6, fun wq hq => (hW wq).mono fun e w' ⟨he, hb⟩ => ⟨he, hq.below (Nat.le_of_eq hB) hb⟩, ?_⟩
  go_big_quiet_on
  iterate 5 (go_big_quiet_want; go_big_quiet_op; first | go_big_quiet_on | (refine ⟨_, fun _ _ => rfl, ?_⟩; go_big_quiet_on))
  refine wpQuiet_nil ?_
  intro wq hq
  go_wp2
  all_goals (go_ret; first | exact ⟨rfl, hq.2.1⟩ | exact ⟨by rw [Int.ediv_one]; rfl, hq.2.1⟩)

set_option maxHeartbeats 1000000 in
theorem num_part7 (n wd : Int) (t : ByteArray) (b : Bool) (w : World) (h0 : 0 ≤ wd) (h1 : wd < 256) (_hn0 : 0 ≤ n) (_hn : n < 18446744073709551616) (hj : wd % 8 = 6) :
    Calls Try.prog 42 #[.agg #[.int .u64 n, .int .u8 wd, .string t, .bool b]] w fun e w' => e = .returned (.int .u64 (n / 256)) ∧ Below w.heap.size w w' := by
  have hW : ∀ w, Calls Try.prog 27 #[.agg #[.int .u64 n, .int .u8 wd, .string t, .bool b]] w fun e w' => e = .returned (.int .i64 7) ∧ Below w.heap.size w w' := fun w => by
    have := width_any n wd t b w h0 h1
    rw [hj] at this
    exact this
  have hc0 : BoxAt w w.heap.size #[.int .u64 n, .int .u8 wd, .string t, .bool b] (w.alloc (.cells #[.int .u64 n, .int .u8 wd, .string t, .bool b] 53)).drew :=
    ⟨heap_alloc_new w _, (((Below.refl _ w).alloc (Nat.le_refl _) _)).drew, by simp⟩
  go_enter Try.func42, Try.ntmps42
  go_wp2
  refine region_quiet_list (C := BoxAt w w.heap.size #[.int .u64 n, .int .u8 wd, .string t, .bool b]) (by kernel_rfl) (by kernel_rfl) hc0 ?_
  generalize hB : w.heap.size = B at *
  go_big_quiet_want
  go_big_quiet_op
  refine ⟨_, fun _ _ => rfl, ?_⟩
  go_big_quiet_on
  go_big_quiet_want
  go_big_quiet_op
  refine ⟨.int .u64 n, fun wq hq => ?_, ?_⟩
  · obtain ⟨q0, q1, q2, q3⟩ := four_of hq
    simp [q0, Result.andThen]
  go_big_quiet_on
  go_big_quiet_want
  go_big_quiet_op
  refine ⟨.agg #[.int .u64 n, .int .u8 wd, .string t, .bool b], fun wq hq => ?_, ?_⟩
  · obtain ⟨q0, q1, q2, q3⟩ := four_of hq
    simp [q0, q1, q2, q3, Result.andThen]
  go_big_quiet_on
  go_big_quiet_want
  go_big_quiet_op
  refine ⟨.int .i64 7, fun wq hq => (hW wq).mono fun e w' ⟨he, hb⟩ => ⟨he, hq.below (Nat.le_of_eq hB) hb⟩, ?_⟩
  go_big_quiet_on
  iterate 5 (go_big_quiet_want; go_big_quiet_op; first | go_big_quiet_on | (refine ⟨_, fun _ _ => rfl, ?_⟩; go_big_quiet_on))
  refine wpQuiet_nil ?_
  intro wq hq
  go_wp2
  all_goals (go_ret; first | exact ⟨rfl, hq.2.1⟩ | exact ⟨by rw [Int.ediv_one]; rfl, hq.2.1⟩)

set_option maxHeartbeats 1000000 in
theorem num_part8 (n wd : Int) (t : ByteArray) (b : Bool) (w : World) (h0 : 0 ≤ wd) (h1 : wd < 256) (_hn0 : 0 ≤ n) (_hn : n < 18446744073709551616) (hj : wd % 8 = 7) :
    Calls Try.prog 42 #[.agg #[.int .u64 n, .int .u8 wd, .string t, .bool b]] w fun e w' => e = .returned (.int .u64 (n / 1)) ∧ Below w.heap.size w w' := by
  have hW : ∀ w, Calls Try.prog 27 #[.agg #[.int .u64 n, .int .u8 wd, .string t, .bool b]] w fun e w' => e = .returned (.int .i64 8) ∧ Below w.heap.size w w' := fun w => by
    have := width_any n wd t b w h0 h1
    rw [hj] at this
    exact this
  have hc0 : BoxAt w w.heap.size #[.int .u64 n, .int .u8 wd, .string t, .bool b] (w.alloc (.cells #[.int .u64 n, .int .u8 wd, .string t, .bool b] 53)).drew :=
    ⟨heap_alloc_new w _, (((Below.refl _ w).alloc (Nat.le_refl _) _)).drew, by simp⟩
  go_enter Try.func42, Try.ntmps42
  go_wp2
  refine region_quiet_list (C := BoxAt w w.heap.size #[.int .u64 n, .int .u8 wd, .string t, .bool b]) (by kernel_rfl) (by kernel_rfl) hc0 ?_
  generalize hB : w.heap.size = B at *
  go_big_quiet_want
  go_big_quiet_op
  refine ⟨_, fun _ _ => rfl, ?_⟩
  go_big_quiet_on
  go_big_quiet_want
  go_big_quiet_op
  refine ⟨.int .u64 n, fun wq hq => ?_, ?_⟩
  · obtain ⟨q0, q1, q2, q3⟩ := four_of hq
    simp [q0, Result.andThen]
  go_big_quiet_on
  go_big_quiet_want
  go_big_quiet_op
  refine ⟨.agg #[.int .u64 n, .int .u8 wd, .string t, .bool b], fun wq hq => ?_, ?_⟩
  · obtain ⟨q0, q1, q2, q3⟩ := four_of hq
    simp [q0, q1, q2, q3, Result.andThen]
  go_big_quiet_on
  go_big_quiet_want
  go_big_quiet_op
  refine ⟨.int .i64 8, fun wq hq => (hW wq).mono fun e w' ⟨he, hb⟩ => ⟨he, hq.below (Nat.le_of_eq hB) hb⟩, ?_⟩
  go_big_quiet_on
  iterate 5 (go_big_quiet_want; go_big_quiet_op; first | go_big_quiet_on | (refine ⟨_, fun _ _ => rfl, ?_⟩; go_big_quiet_on))
  refine wpQuiet_nil ?_
  intro wq hq
  go_wp2
  all_goals (go_ret; first | exact ⟨rfl, hq.2.1⟩ | exact ⟨by rw [Int.ediv_one]; rfl, hq.2.1⟩)
end Go.Proofs.Ytpkgmoiffegbfaa
