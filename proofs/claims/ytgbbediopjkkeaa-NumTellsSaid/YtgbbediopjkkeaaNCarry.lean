/- Layer 1, the document's numbers: what carry and less answer: the walks. Conditions: parts below 2^62 (carry). -/
import Derived.Test.YtgbbediopjkkeaaNRef
import Derived.StillTailTactics
import Derived.Deep.Heap
import Derived.LoopN
namespace Go.Proofs.Ytgbbediopjkkeaa
open Go.RowKit Go.BigFrame Go.Shelf
set_option maxRecDepth 20000

theorem still_of_quiet {P : Program} {o : Oper} {a : Act} {w : World} {K : Act → Prop} (h : o.quiet P a (fun w' => w' = w) K) : o.still P a w K := by
  obtain ⟨v, h1, h2⟩ := h
  have h3 := h1 w rfl
  unfold Oper.quietAt at h3
  unfold Oper.still
  generalize (execOp a.eval o).run P w = r at *
  cases r with
  | ok n w' =>
    cases n <;> simp only [Oper.quietUpon] at h3 <;> simp only [Oper.stillUpon]
    case value u => exact ⟨h3.1, by rw [h3.2]; exact h2⟩
    case skip => exact ⟨h3.1, by rw [← h3.2]; exact h2⟩
    case enter f args => exact ⟨h3.1, v, h3.2, h2⟩
  | halt x w' => simp only [Oper.quietUpon] at h3
theorem wpStill_of_quiet {P : Program} {ops : Array Oper} {w : World} {Q : Act → Prop} : ∀ (l : List Oper) (a : Act), wpQuiet P ops (fun w' => w' = w) Q l a → wpStill P ops w Q l a
  | [], _, h => h
  | o :: l, a, h => by
    unfold wpQuiet at h
    unfold wpStill
    split
    · rename_i hw
      simp only [hw, if_true] at h
      exact Oper.still_mono (fun a' h' => wpStill_of_quiet l a' h') (still_of_quiet h)
    · rename_i hw
      simp only [hw] at h
      exact wpStill_of_quiet l _ h

theorem region_tail {P : Program} {id : Nat} {Q : Exit → Act → World → Prop} {a : Act} {w : World} {l : List Oper} (n : Nat) (hm : P.follows .mixedOrders = true) (hB : Region.lexTailB .any l.toArray n = true)
    (h : wpQuiet P l.toArray (fun w' => w' = w.drew) (fun a' => wpList P l.toArray Q (l.drop n) a' w.drew) (l.take n) a) : (Code.region id l.toArray true).wp P Q a w :=
  wp_region_still_tail n hm hB (wpStill_of_quiet _ _ h)

theorem below_drewN {B : Nat} {w0 w : World} (h : Below B w0 w) (n : Nat) : Below B w0 (w.drewN n) := ⟨h.os, h.tape, h.output, h.size, h.block⟩

set_option maxHeartbeats 2000000 in
theorem carry_any (a b c d : Int) (w : World) (ha : a < 4611686018427387904) (hb : b < 4611686018427387904) (hc : c < 4611686018427387904) (hd : d < 4611686018427387904) (ha0 : 0 ≤ a) (hb0 : 0 ≤ b) (hc0 : 0 ≤ c) (hd0 : 0 ≤ d) :
    Calls Try.prog 27 #[.agg #[.int .u64 (a : Int), .int .u64 (b : Int), .int .u64 (c : Int), .int .u64 (d : Int)]] w fun e w' =>
      e = .returned (.agg #[.int .u64 ((a : Int) % 4294967296), .int .u64 (((b : Int) + a / 4294967296) % 4294967296), .int .u64 (((c : Int) + (b + a / 4294967296) / 4294967296) % 4294967296), .int .u64 ((d : Int) + (c + (b + a / 4294967296) / 4294967296) / 4294967296)]) ∧ ∃ k, w' = ((w.alloc (.cells #[.int .u64 ((a : Int) % 4294967296), .int .u64 (((b : Int) + a / 4294967296) % 4294967296), .int .u64 (((c : Int) + (b + a / 4294967296) / 4294967296) % 4294967296), .int .u64 ((d : Int) + (c + (b + a / 4294967296) / 4294967296) / 4294967296)] 35)).alloc (.cells #[.int .u64 ((a : Int) % 4294967296), .int .u64 (((b : Int) + a / 4294967296) % 4294967296), .int .u64 (((c : Int) + (b + a / 4294967296) / 4294967296) % 4294967296), .int .u64 ((d : Int) + (c + (b + a / 4294967296) / 4294967296) / 4294967296)] 35)).drewN k := by
  go_enter Try.func27, Try.ntmps27
  go_wp2
  refine wp_loop_rounds 4 ?_
  rw [rounds_succ]
  go_wp2
  refine region_tail 12 (by kernel_rfl) (by kernel_rfl) ?_
  simp only [List.take_succ_cons, List.take_zero, List.drop_succ_cons, List.drop_zero]
  iterate 12 (first | go_big_quiet_skip | (go_big_quiet_want; go_big_quiet_op; go_big_quiet_on))
  refine wpQuiet_nil ?_
  go_wp2
  rw [rounds_succ]
  go_wp2
  refine region_tail 12 (by kernel_rfl) (by kernel_rfl) ?_
  simp only [List.take_succ_cons, List.take_zero, List.drop_succ_cons, List.drop_zero]
  iterate 12 (first | go_big_quiet_skip | (go_big_quiet_want; go_big_quiet_op; go_big_quiet_on))
  refine wpQuiet_nil ?_
  go_wp2
  rw [rounds_succ]
  go_wp2
  refine region_tail 12 (by kernel_rfl) (by kernel_rfl) ?_
  simp only [List.take_succ_cons, List.take_zero, List.drop_succ_cons, List.drop_zero]
  iterate 12 (first | go_big_quiet_skip | (go_big_quiet_want; go_big_quiet_op; go_big_quiet_on))
  refine wpQuiet_nil ?_
  go_wp2
  rw [rounds_succ]
  go_wp2
  refine bodyPost_ret (v := .agg #[.int .u64 ((a : Int) % 4294967296), .int .u64 (((b : Int) + a / 4294967296) % 4294967296), .int .u64 (((c : Int) + (b + a / 4294967296) / 4294967296) % 4294967296), .int .u64 ((d : Int) + (c + (b + a / 4294967296) / 4294967296) / 4294967296)]) (by simp [results, Try.results27, go_sem]) rfl ⟨rfl, ?_⟩
  exact ⟨3, rfl⟩

theorem ret1_eq {x y : Bool} (h : x = y) : Ending.returned (.bool x) = Ending.returned (.bool y) := by rw [h]
set_option maxHeartbeats 2000000 in
theorem less_high (w : World) (a b c d : Nat) (hne : b ≠ d) :
    Calls Try.prog 28 #[.agg #[.int .u64 (a : Int), .int .u64 (b : Int), .int .u64 0, .int .u64 0], .agg #[.int .u64 (c : Int), .int .u64 (d : Int), .int .u64 0, .int .u64 0]] w fun e w' =>
      e = .returned (.bool (decide (b < d))) ∧ ∃ k, w' = (((w.alloc (.cells #[.int .u64 (a : Int), .int .u64 (b : Int), .int .u64 0, .int .u64 0] 35)).alloc (.cells #[.int .u64 (c : Int), .int .u64 (d : Int), .int .u64 0, .int .u64 0] 35))).drewN k := by
  have h1 : ((b : Int) != (d : Int)) = true := by rw [bne_iff_ne]; omega
  have h2 : ((b : Int) == (d : Int)) = false := by rw [beq_eq_false_iff_ne]; omega
  clear hne
  go_enter Try.func28, Try.ntmps28
  go_wp2
  refine wp_loop_rounds 5 ?_
  rw [rounds_succ]
  go_wp2
  go_quiet (fail)
  go_wp2
  rw [rounds_succ]
  go_wp2
  go_quiet (fail)
  go_wp2
  rw [rounds_succ]
  go_wp2
  go_quiet (fail)
  go_wp2
  go_quiet (fail)
  go_wp2
  all_goals go_ret
  all_goals refine ⟨ret1_eq (by first | rfl | (rw [decide_eq_decide]; omega)), ?_⟩
  all_goals (try simp only [World.drewN_drewN])
  all_goals exact ⟨_, rfl⟩
set_option maxHeartbeats 2000000 in
theorem less_low (w : World) (a b c d : Nat) (heq : b = d) (hne : a ≠ c) :
    Calls Try.prog 28 #[.agg #[.int .u64 (a : Int), .int .u64 (b : Int), .int .u64 0, .int .u64 0], .agg #[.int .u64 (c : Int), .int .u64 (d : Int), .int .u64 0, .int .u64 0]] w fun e w' =>
      e = .returned (.bool (decide (a < c))) ∧ ∃ k, w' = (((w.alloc (.cells #[.int .u64 (a : Int), .int .u64 (b : Int), .int .u64 0, .int .u64 0] 35)).alloc (.cells #[.int .u64 (c : Int), .int .u64 (d : Int), .int .u64 0, .int .u64 0] 35))).drewN k := by
  subst heq
  have h1 : ((a : Int) != (c : Int)) = true := by rw [bne_iff_ne]; omega
  have h2 : ((a : Int) == (c : Int)) = false := by rw [beq_eq_false_iff_ne]; omega
  clear hne
  go_enter Try.func28, Try.ntmps28
  go_wp2
  refine wp_loop_rounds 5 ?_
  rw [rounds_succ]
  go_wp2
  go_quiet (fail)
  go_wp2
  rw [rounds_succ]
  go_wp2
  go_quiet (fail)
  go_wp2
  rw [rounds_succ]
  go_wp2
  go_quiet (fail)
  go_wp2
  rw [rounds_succ]
  go_wp2
  go_quiet (fail)
  go_wp2
  go_quiet (fail)
  go_wp2
  all_goals go_ret
  all_goals refine ⟨ret1_eq (by first | rfl | (rw [decide_eq_decide]; omega)), ?_⟩
  all_goals (try simp only [World.drewN_drewN])
  all_goals exact ⟨_, rfl⟩
set_option maxHeartbeats 2000000 in
theorem less_same (w : World) (a b c d : Nat) (heq : b = d) (heq' : a = c) :
    Calls Try.prog 28 #[.agg #[.int .u64 (a : Int), .int .u64 (b : Int), .int .u64 0, .int .u64 0], .agg #[.int .u64 (c : Int), .int .u64 (d : Int), .int .u64 0, .int .u64 0]] w fun e w' =>
      e = .returned (.bool false) ∧ ∃ k, w' = (((w.alloc (.cells #[.int .u64 (a : Int), .int .u64 (b : Int), .int .u64 0, .int .u64 0] 35)).alloc (.cells #[.int .u64 (c : Int), .int .u64 (d : Int), .int .u64 0, .int .u64 0] 35))).drewN k := by
  subst heq
  subst heq'
  go_enter Try.func28, Try.ntmps28
  go_wp2
  refine wp_loop_rounds 5 ?_
  rw [rounds_succ]
  go_wp2
  go_quiet (fail)
  go_wp2
  rw [rounds_succ]
  go_wp2
  go_quiet (fail)
  go_wp2
  rw [rounds_succ]
  go_wp2
  go_quiet (fail)
  go_wp2
  rw [rounds_succ]
  go_wp2
  go_quiet (fail)
  go_wp2
  rw [rounds_succ]
  go_wp2
  all_goals go_ret
  all_goals refine ⟨ret1_eq (by first | rfl | (rw [decide_eq_decide]; omega)), ?_⟩
  all_goals (try simp only [World.drewN_drewN])
  all_goals exact ⟨_, rfl⟩
theorem less_any (w : World) (a b c d : Nat) (ha : a < 4294967296) (hc : c < 4294967296) :
    Calls Try.prog 28 #[.agg #[.int .u64 (a : Int), .int .u64 (b : Int), .int .u64 0, .int .u64 0], .agg #[.int .u64 (c : Int), .int .u64 (d : Int), .int .u64 0, .int .u64 0]] w fun e w' =>
      e = .returned (.bool (decide (a + b * 4294967296 < c + d * 4294967296))) ∧ ∃ k, w' = (((w.alloc (.cells #[.int .u64 (a : Int), .int .u64 (b : Int), .int .u64 0, .int .u64 0] 35)).alloc (.cells #[.int .u64 (c : Int), .int .u64 (d : Int), .int .u64 0, .int .u64 0] 35))).drewN k := by
  by_cases h1 : b = d
  · by_cases h2 : a = c
    · have e : decide (a + b * 4294967296 < c + d * 4294967296) = false := by simp; omega
      rw [e]
      exact less_same w a b c d h1 h2
    · have e : decide (a + b * 4294967296 < c + d * 4294967296) = decide (a < c) := by rw [decide_eq_decide]; omega
      rw [e]
      exact less_low w a b c d h1 h2
  · have e : decide (a + b * 4294967296 < c + d * 4294967296) = decide (b < d) := by rw [decide_eq_decide]; omega
    rw [e]
    exact less_high w a b c d h1
end Go.Proofs.Ytgbbediopjkkeaa
