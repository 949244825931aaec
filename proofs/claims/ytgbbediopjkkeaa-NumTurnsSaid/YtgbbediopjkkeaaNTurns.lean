/- Layer 1: NumTurns, of all numbers: the walk. No condition but that the numbers are of 64 and 32 bits. -/
import Derived.Test.YtgbbediopjkkeaaNWork
import Derived.Test.YtgbbediopjkkeaaNCarry
namespace Go.Proofs.Ytgbbediopjkkeaa
open Go.RowKit Go.BigFrame Go.Shelf
set_option maxRecDepth 100000


set_option maxHeartbeats 8000000 in
theorem turns_zero (a x y m : Int) (w : World) (ha : -9223372036854775808 ≤ a ∧ a ≤ 9223372036854775807) (hx : -2147483648 ≤ x ∧ x ≤ 2147483647) (hy : -2147483648 ≤ y ∧ y ≤ 2147483647) (hm : wrap64 (x * y) = m) (hm' : cut (x * y) = m ∧ fitsB (x * y) = true) :
    Calls Try.prog 6 #[.int .i64 a, .int .i64 0, .agg #[.int .i32 x, .int .i32 y]] w fun e w' => e = .returned (.bool true) ∧ Below w.heap.size w w' := by
  have hA : cut (a + 0) = a ∧ fitsB (a + 0) = true := by rw [Int.add_zero]; exact ⟨(fits_yes ha.1 ha.2).2, (fits_yes ha.1 ha.2).1⟩
  have hA' : cut (0 + a) = a ∧ fitsB (0 + a) = true := by rw [Int.zero_add]; exact ⟨(fits_yes ha.1 ha.2).2, (fits_yes ha.1 ha.2).1⟩
  have hS : cut (a - 0) = a ∧ fitsB (a - 0) = true := by rw [Int.sub_zero]; exact ⟨(fits_yes ha.1 ha.2).2, (fits_yes ha.1 ha.2).1⟩
  have hM : cut (a * 0) = 0 ∧ fitsB (a * 0) = true := by rw [Int.mul_zero]; decide
  have hM' : cut (0 * a) = 0 ∧ fitsB (0 * a) = true := by rw [Int.zero_mul]; decide
  have HA := Lib.hid hA; clear hA
  have HA' := Lib.hid hA'; clear hA'
  have HM := Lib.hid hM; clear hM
  have HM' := Lib.hid hM'; clear hM'
  have HX := Lib.hid hm'; clear hm'
  have HP := Lib.hid (show cut (x + y) = x + y ∧ fitsB (x + y) = true from ⟨(fits_yes (by omega) (by omega)).2, (fits_yes (by omega) (by omega)).1⟩)
  have HQ := Lib.hid (show cut (x - y) = x - y ∧ fitsB (x - y) = true from ⟨(fits_yes (by omega) (by omega)).2, (fits_yes (by omega) (by omega)).1⟩)
  have HS := Lib.hid hS; clear hS
  go_enter Try.func6, Try.ntmps6
  go_wp2_with (go_at_call 10; refine (works_any _).mono ?_; rintro e w1 ⟨rfl, hb1⟩)
  refine (k_add a 0 a true _ ⟨ha, by decide⟩ HA.out).mono ?_
  rintro e w2 ⟨rfl, hb2⟩
  go_wp2_with fail
  refine (k_add 0 a a true _ ⟨by decide, ha⟩ HA'.out).mono ?_
  rintro e w3 ⟨rfl, hb3⟩
  go_wp2_with fail
  refine (k_sub a 0 a true _ ⟨ha, by decide⟩ HS.out).mono ?_
  rintro e w4 ⟨rfl, hb4⟩
  go_wp2_with fail
  refine (k_mul a 0 0 true _ ⟨ha, by decide⟩ HM.out).mono ?_
  rintro e w5 ⟨rfl, hb5⟩
  go_wp2_with fail
  refine (k_mul 0 a 0 true _ ⟨by decide, ha⟩ HM'.out).mono ?_
  rintro e w6 ⟨rfl, hb6⟩
  go_wp2_with fail
  have hB : Below w.heap.size w w6 ∧ w6.heap[w.heap.size]? = some (.cells #[.int .i32 x, .int .i32 y] 44 (0, 0)) := by
    have b6 : Below (w.alloc (.cells #[.int .i32 x, .int .i32 y] 44)).heap.size (w.alloc (.cells #[.int .i32 x, .int .i32 y] 44)) w6 := below_in (below_in (below_in (below_in (below_in hb1 hb2) hb3) hb4) hb5) hb6
    exact ⟨((Below.refl _ w).alloc (Nat.le_refl _) _).trans (b6.mono (by simp)), (b6.block _ (by simp)).trans (World.alloc_heap_new w _)⟩
  obtain ⟨hB, hbox⟩ := hB
  have hcx : w6.cell? ⟨w.heap.size, 0, none⟩ = some (.int .i32 x) := cellAt hbox rfl
  have hcy : w6.cell? ⟨w.heap.size, 1, none⟩ = some (.int .i32 y) := cellAt hbox rfl
  clear hb1 hb2 hb3 hb5 hb6 hbox
  refine region_tail 7 (by kernel_rfl) (by kernel_rfl) ?_
  simp only [List.take_succ_cons, List.take_zero, List.drop_succ_cons, List.drop_zero]
  iterate 7 (first | go_big_quiet_skip | (go_big_quiet_want; go_big_quiet_op; go_big_quiet_on))
  refine wpQuiet_nil ?_
  go_wp2_with fail
  refine (k_add x y (x + y) true _ ⟨⟨by omega, by omega⟩, by omega, by omega⟩ HP.out).mono ?_
  rintro e w7 ⟨rfl, hb7⟩
  go_wp2_with fail
  refine (k_sub x y (x - y) true _ ⟨⟨by omega, by omega⟩, by omega, by omega⟩ HQ.out).mono ?_
  rintro e w8 ⟨rfl, hb8⟩
  go_wp2_with fail
  refine (k_mul x y m true _ ⟨⟨by omega, by omega⟩, by omega, by omega⟩ HX.out).mono ?_
  rintro e w9 ⟨rfl, hb9⟩
  go_wp2
  all_goals go_ret
  exact ⟨rfl, below_in (below_in (below_in hB.drew hb7) hb8) hb9⟩


set_option maxHeartbeats 8000000 in
theorem turns_tt (a b x y m n p : Int) (w : World) (ha : -9223372036854775808 ≤ a ∧ a ≤ 9223372036854775807) (hx : -2147483648 ≤ x ∧ x ≤ 2147483647) (hy : -2147483648 ≤ y ∧ y ≤ 2147483647) (hm : wrap64 (x * y) = m) (hm' : cut (x * y) = m ∧ fitsB (x * y) = true) (hb : -9223372036854775808 ≤ b ∧ b ≤ 9223372036854775807) (hn : -9223372036854775808 ≤ n ∧ n ≤ 9223372036854775807) (hA : cut (a + b) = n ∧ fitsB (a + b) = true) (hA' : cut (b + a) = n ∧ fitsB (b + a) = true) (hM : cut (a * b) = p ∧ fitsB (a * b) = true) (hM' : cut (b * a) = p ∧ fitsB (b * a) = true) (hS : cut (n - b) = a ∧ fitsB (n - b) = true) (hlt : decide (n < a) = decide (b < 0)) (hmod : p.tmod b = 0) (hdiv : p.tdiv b = a) (hb0 : ¬ b = 0) :
    Calls Try.prog 6 #[.int .i64 a, .int .i64 b, .agg #[.int .i32 x, .int .i32 y]] w fun e w' => e = .returned (.bool true) ∧ Below w.heap.size w w' := by
  have HA := Lib.hid hA; clear hA
  have HA' := Lib.hid hA'; clear hA'
  have HM := Lib.hid hM; clear hM
  have HM' := Lib.hid hM'; clear hM'
  have HX := Lib.hid hm'; clear hm'
  have HP := Lib.hid (show cut (x + y) = x + y ∧ fitsB (x + y) = true from ⟨(fits_yes (by omega) (by omega)).2, (fits_yes (by omega) (by omega)).1⟩)
  have HQ := Lib.hid (show cut (x - y) = x - y ∧ fitsB (x - y) = true from ⟨(fits_yes (by omega) (by omega)).2, (fits_yes (by omega) (by omega)).1⟩)
  have HS := Lib.hid hS; clear hS
  go_enter Try.func6, Try.ntmps6
  go_wp2_with (go_at_call 10; refine (works_any _).mono ?_; rintro e w1 ⟨rfl, hb1⟩)
  refine (k_add a b n true _ ⟨ha, hb⟩ HA.out).mono ?_
  rintro e w2 ⟨rfl, hb2⟩
  go_wp2_with fail
  refine (k_add b a n true _ ⟨hb, ha⟩ HA'.out).mono ?_
  rintro e w3 ⟨rfl, hb3⟩
  go_wp2_with fail
  refine (k_sub n b a true _ ⟨hn, hb⟩ HS.out).mono ?_
  rintro e w4 ⟨rfl, hb4⟩
  go_wp2_with fail
  refine (k_mul a b p true _ ⟨ha, hb⟩ HM.out).mono ?_
  rintro e w5 ⟨rfl, hb5⟩
  go_wp2_with fail
  refine (k_mul b a p true _ ⟨hb, ha⟩ HM'.out).mono ?_
  rintro e w6 ⟨rfl, hb6⟩
  go_wp2_with fail
  have hB : Below w.heap.size w w6 ∧ w6.heap[w.heap.size]? = some (.cells #[.int .i32 x, .int .i32 y] 44 (0, 0)) := by
    have b6 : Below (w.alloc (.cells #[.int .i32 x, .int .i32 y] 44)).heap.size (w.alloc (.cells #[.int .i32 x, .int .i32 y] 44)) w6 := below_in (below_in (below_in (below_in (below_in hb1 hb2) hb3) hb4) hb5) hb6
    exact ⟨((Below.refl _ w).alloc (Nat.le_refl _) _).trans (b6.mono (by simp)), (b6.block _ (by simp)).trans (World.alloc_heap_new w _)⟩
  obtain ⟨hB, hbox⟩ := hB
  have hcx : w6.cell? ⟨w.heap.size, 0, none⟩ = some (.int .i32 x) := cellAt hbox rfl
  have hcy : w6.cell? ⟨w.heap.size, 1, none⟩ = some (.int .i32 y) := cellAt hbox rfl
  clear hb1 hb2 hb3 hb5 hb6 hbox
  refine region_tail 7 (by kernel_rfl) (by kernel_rfl) ?_
  simp only [List.take_succ_cons, List.take_zero, List.drop_succ_cons, List.drop_zero]
  iterate 7 (first | go_big_quiet_skip | (go_big_quiet_want; go_big_quiet_op; go_big_quiet_on))
  refine wpQuiet_nil ?_
  go_wp2_with fail
  refine (k_add x y (x + y) true _ ⟨⟨by omega, by omega⟩, by omega, by omega⟩ HP.out).mono ?_
  rintro e w7 ⟨rfl, hb7⟩
  go_wp2_with fail
  refine (k_sub x y (x - y) true _ ⟨⟨by omega, by omega⟩, by omega, by omega⟩ HQ.out).mono ?_
  rintro e w8 ⟨rfl, hb8⟩
  go_wp2_with fail
  refine (k_mul x y m true _ ⟨⟨by omega, by omega⟩, by omega, by omega⟩ HX.out).mono ?_
  rintro e w9 ⟨rfl, hb9⟩
  go_wp2
  all_goals go_ret
  exact ⟨rfl, below_in (below_in (below_in hB.drew hb7) hb8) hb9⟩


set_option maxHeartbeats 8000000 in
theorem turns_tf (a b x y m n : Int) (w : World) (ha : -9223372036854775808 ≤ a ∧ a ≤ 9223372036854775807) (hx : -2147483648 ≤ x ∧ x ≤ 2147483647) (hy : -2147483648 ≤ y ∧ y ≤ 2147483647) (hm : wrap64 (x * y) = m) (hm' : cut (x * y) = m ∧ fitsB (x * y) = true) (hb : -9223372036854775808 ≤ b ∧ b ≤ 9223372036854775807) (hn : -9223372036854775808 ≤ n ∧ n ≤ 9223372036854775807) (hA : cut (a + b) = n ∧ fitsB (a + b) = true) (hA' : cut (b + a) = n ∧ fitsB (b + a) = true) (hM : cut (a * b) = 0 ∧ fitsB (a * b) = false) (hM' : cut (b * a) = 0 ∧ fitsB (b * a) = false) (hS : cut (n - b) = a ∧ fitsB (n - b) = true) (hlt : decide (n < a) = decide (b < 0)) (_hb0 : ¬ b = 0) :
    Calls Try.prog 6 #[.int .i64 a, .int .i64 b, .agg #[.int .i32 x, .int .i32 y]] w fun e w' => e = .returned (.bool true) ∧ Below w.heap.size w w' := by
  have HA := Lib.hid hA; clear hA
  have HA' := Lib.hid hA'; clear hA'
  have HM := Lib.hid hM; clear hM
  have HM' := Lib.hid hM'; clear hM'
  have HX := Lib.hid hm'; clear hm'
  have HP := Lib.hid (show cut (x + y) = x + y ∧ fitsB (x + y) = true from ⟨(fits_yes (by omega) (by omega)).2, (fits_yes (by omega) (by omega)).1⟩)
  have HQ := Lib.hid (show cut (x - y) = x - y ∧ fitsB (x - y) = true from ⟨(fits_yes (by omega) (by omega)).2, (fits_yes (by omega) (by omega)).1⟩)
  have HS := Lib.hid hS; clear hS
  go_enter Try.func6, Try.ntmps6
  go_wp2_with (go_at_call 10; refine (works_any _).mono ?_; rintro e w1 ⟨rfl, hb1⟩)
  refine (k_add a b n true _ ⟨ha, hb⟩ HA.out).mono ?_
  rintro e w2 ⟨rfl, hb2⟩
  go_wp2_with fail
  refine (k_add b a n true _ ⟨hb, ha⟩ HA'.out).mono ?_
  rintro e w3 ⟨rfl, hb3⟩
  go_wp2_with fail
  refine (k_sub n b a true _ ⟨hn, hb⟩ HS.out).mono ?_
  rintro e w4 ⟨rfl, hb4⟩
  go_wp2_with fail
  refine (k_mul a b 0 false _ ⟨ha, hb⟩ HM.out).mono ?_
  rintro e w5 ⟨rfl, hb5⟩
  go_wp2_with fail
  refine (k_mul b a 0 false _ ⟨hb, ha⟩ HM'.out).mono ?_
  rintro e w6 ⟨rfl, hb6⟩
  go_wp2_with fail
  have hB : Below w.heap.size w w6 ∧ w6.heap[w.heap.size]? = some (.cells #[.int .i32 x, .int .i32 y] 44 (0, 0)) := by
    have b6 : Below (w.alloc (.cells #[.int .i32 x, .int .i32 y] 44)).heap.size (w.alloc (.cells #[.int .i32 x, .int .i32 y] 44)) w6 := below_in (below_in (below_in (below_in (below_in hb1 hb2) hb3) hb4) hb5) hb6
    exact ⟨((Below.refl _ w).alloc (Nat.le_refl _) _).trans (b6.mono (by simp)), (b6.block _ (by simp)).trans (World.alloc_heap_new w _)⟩
  obtain ⟨hB, hbox⟩ := hB
  have hcx : w6.cell? ⟨w.heap.size, 0, none⟩ = some (.int .i32 x) := cellAt hbox rfl
  have hcy : w6.cell? ⟨w.heap.size, 1, none⟩ = some (.int .i32 y) := cellAt hbox rfl
  clear hb1 hb2 hb3 hb5 hb6 hbox
  refine region_tail 7 (by kernel_rfl) (by kernel_rfl) ?_
  simp only [List.take_succ_cons, List.take_zero, List.drop_succ_cons, List.drop_zero]
  iterate 7 (first | go_big_quiet_skip | (go_big_quiet_want; go_big_quiet_op; go_big_quiet_on))
  refine wpQuiet_nil ?_
  go_wp2_with fail
  refine (k_add x y (x + y) true _ ⟨⟨by omega, by omega⟩, by omega, by omega⟩ HP.out).mono ?_
  rintro e w7 ⟨rfl, hb7⟩
  go_wp2_with fail
  refine (k_sub x y (x - y) true _ ⟨⟨by omega, by omega⟩, by omega, by omega⟩ HQ.out).mono ?_
  rintro e w8 ⟨rfl, hb8⟩
  go_wp2_with fail
  refine (k_mul x y m true _ ⟨⟨by omega, by omega⟩, by omega, by omega⟩ HX.out).mono ?_
  rintro e w9 ⟨rfl, hb9⟩
  go_wp2
  all_goals go_ret
  exact ⟨rfl, below_in (below_in (below_in hB.drew hb7) hb8) hb9⟩


set_option maxHeartbeats 8000000 in
theorem turns_ft (a b x y m p : Int) (w : World) (ha : -9223372036854775808 ≤ a ∧ a ≤ 9223372036854775807) (hx : -2147483648 ≤ x ∧ x ≤ 2147483647) (hy : -2147483648 ≤ y ∧ y ≤ 2147483647) (hm : wrap64 (x * y) = m) (hm' : cut (x * y) = m ∧ fitsB (x * y) = true) (hb : -9223372036854775808 ≤ b ∧ b ≤ 9223372036854775807) (hA : cut (a + b) = 0 ∧ fitsB (a + b) = false) (hA' : cut (b + a) = 0 ∧ fitsB (b + a) = false) (hM : cut (a * b) = p ∧ fitsB (a * b) = true) (hM' : cut (b * a) = p ∧ fitsB (b * a) = true) (hmod : p.tmod b = 0) (hdiv : p.tdiv b = a) (hb0 : ¬ b = 0) :
    Calls Try.prog 6 #[.int .i64 a, .int .i64 b, .agg #[.int .i32 x, .int .i32 y]] w fun e w' => e = .returned (.bool true) ∧ Below w.heap.size w w' := by
  have HA := Lib.hid hA; clear hA
  have HA' := Lib.hid hA'; clear hA'
  have HM := Lib.hid hM; clear hM
  have HM' := Lib.hid hM'; clear hM'
  have HX := Lib.hid hm'; clear hm'
  have HP := Lib.hid (show cut (x + y) = x + y ∧ fitsB (x + y) = true from ⟨(fits_yes (by omega) (by omega)).2, (fits_yes (by omega) (by omega)).1⟩)
  have HQ := Lib.hid (show cut (x - y) = x - y ∧ fitsB (x - y) = true from ⟨(fits_yes (by omega) (by omega)).2, (fits_yes (by omega) (by omega)).1⟩)
  go_enter Try.func6, Try.ntmps6
  go_wp2_with (go_at_call 10; refine (works_any _).mono ?_; rintro e w1 ⟨rfl, hb1⟩)
  refine (k_add a b 0 false _ ⟨ha, hb⟩ HA.out).mono ?_
  rintro e w2 ⟨rfl, hb2⟩
  go_wp2_with fail
  refine (k_add b a 0 false _ ⟨hb, ha⟩ HA'.out).mono ?_
  rintro e w3 ⟨rfl, hb3⟩
  go_wp2_with fail
  refine (k_mul a b p true _ ⟨ha, hb⟩ HM.out).mono ?_
  rintro e w5 ⟨rfl, hb5⟩
  go_wp2_with fail
  refine (k_mul b a p true _ ⟨hb, ha⟩ HM'.out).mono ?_
  rintro e w6 ⟨rfl, hb6⟩
  go_wp2_with fail
  have hB : Below w.heap.size w w6 ∧ w6.heap[w.heap.size]? = some (.cells #[.int .i32 x, .int .i32 y] 44 (0, 0)) := by
    have b6 : Below (w.alloc (.cells #[.int .i32 x, .int .i32 y] 44)).heap.size (w.alloc (.cells #[.int .i32 x, .int .i32 y] 44)) w6 := below_in (below_in (below_in (below_in hb1 hb2) hb3) hb5) hb6
    exact ⟨((Below.refl _ w).alloc (Nat.le_refl _) _).trans (b6.mono (by simp)), (b6.block _ (by simp)).trans (World.alloc_heap_new w _)⟩
  obtain ⟨hB, hbox⟩ := hB
  have hcx : w6.cell? ⟨w.heap.size, 0, none⟩ = some (.int .i32 x) := cellAt hbox rfl
  have hcy : w6.cell? ⟨w.heap.size, 1, none⟩ = some (.int .i32 y) := cellAt hbox rfl
  clear hb1 hb2 hb3 hb5 hb6 hbox
  refine region_tail 7 (by kernel_rfl) (by kernel_rfl) ?_
  simp only [List.take_succ_cons, List.take_zero, List.drop_succ_cons, List.drop_zero]
  iterate 7 (first | go_big_quiet_skip | (go_big_quiet_want; go_big_quiet_op; go_big_quiet_on))
  refine wpQuiet_nil ?_
  go_wp2_with fail
  refine (k_add x y (x + y) true _ ⟨⟨by omega, by omega⟩, by omega, by omega⟩ HP.out).mono ?_
  rintro e w7 ⟨rfl, hb7⟩
  go_wp2_with fail
  refine (k_sub x y (x - y) true _ ⟨⟨by omega, by omega⟩, by omega, by omega⟩ HQ.out).mono ?_
  rintro e w8 ⟨rfl, hb8⟩
  go_wp2_with fail
  refine (k_mul x y m true _ ⟨⟨by omega, by omega⟩, by omega, by omega⟩ HX.out).mono ?_
  rintro e w9 ⟨rfl, hb9⟩
  go_wp2
  all_goals go_ret
  exact ⟨rfl, below_in (below_in (below_in hB.drew hb7) hb8) hb9⟩


set_option maxHeartbeats 8000000 in
theorem turns_ff (a b x y m : Int) (w : World) (ha : -9223372036854775808 ≤ a ∧ a ≤ 9223372036854775807) (hx : -2147483648 ≤ x ∧ x ≤ 2147483647) (hy : -2147483648 ≤ y ∧ y ≤ 2147483647) (hm : wrap64 (x * y) = m) (hm' : cut (x * y) = m ∧ fitsB (x * y) = true) (hb : -9223372036854775808 ≤ b ∧ b ≤ 9223372036854775807) (hA : cut (a + b) = 0 ∧ fitsB (a + b) = false) (hA' : cut (b + a) = 0 ∧ fitsB (b + a) = false) (hM : cut (a * b) = 0 ∧ fitsB (a * b) = false) (hM' : cut (b * a) = 0 ∧ fitsB (b * a) = false) (_hb0 : ¬ b = 0) :
    Calls Try.prog 6 #[.int .i64 a, .int .i64 b, .agg #[.int .i32 x, .int .i32 y]] w fun e w' => e = .returned (.bool true) ∧ Below w.heap.size w w' := by
  have HA := Lib.hid hA; clear hA
  have HA' := Lib.hid hA'; clear hA'
  have HM := Lib.hid hM; clear hM
  have HM' := Lib.hid hM'; clear hM'
  have HX := Lib.hid hm'; clear hm'
  have HP := Lib.hid (show cut (x + y) = x + y ∧ fitsB (x + y) = true from ⟨(fits_yes (by omega) (by omega)).2, (fits_yes (by omega) (by omega)).1⟩)
  have HQ := Lib.hid (show cut (x - y) = x - y ∧ fitsB (x - y) = true from ⟨(fits_yes (by omega) (by omega)).2, (fits_yes (by omega) (by omega)).1⟩)
  go_enter Try.func6, Try.ntmps6
  go_wp2_with (go_at_call 10; refine (works_any _).mono ?_; rintro e w1 ⟨rfl, hb1⟩)
  refine (k_add a b 0 false _ ⟨ha, hb⟩ HA.out).mono ?_
  rintro e w2 ⟨rfl, hb2⟩
  go_wp2_with fail
  refine (k_add b a 0 false _ ⟨hb, ha⟩ HA'.out).mono ?_
  rintro e w3 ⟨rfl, hb3⟩
  go_wp2_with fail
  refine (k_mul a b 0 false _ ⟨ha, hb⟩ HM.out).mono ?_
  rintro e w5 ⟨rfl, hb5⟩
  go_wp2_with fail
  refine (k_mul b a 0 false _ ⟨hb, ha⟩ HM'.out).mono ?_
  rintro e w6 ⟨rfl, hb6⟩
  go_wp2_with fail
  have hB : Below w.heap.size w w6 ∧ w6.heap[w.heap.size]? = some (.cells #[.int .i32 x, .int .i32 y] 44 (0, 0)) := by
    have b6 : Below (w.alloc (.cells #[.int .i32 x, .int .i32 y] 44)).heap.size (w.alloc (.cells #[.int .i32 x, .int .i32 y] 44)) w6 := below_in (below_in (below_in (below_in hb1 hb2) hb3) hb5) hb6
    exact ⟨((Below.refl _ w).alloc (Nat.le_refl _) _).trans (b6.mono (by simp)), (b6.block _ (by simp)).trans (World.alloc_heap_new w _)⟩
  obtain ⟨hB, hbox⟩ := hB
  have hcx : w6.cell? ⟨w.heap.size, 0, none⟩ = some (.int .i32 x) := cellAt hbox rfl
  have hcy : w6.cell? ⟨w.heap.size, 1, none⟩ = some (.int .i32 y) := cellAt hbox rfl
  clear hb1 hb2 hb3 hb5 hb6 hbox
  refine region_tail 7 (by kernel_rfl) (by kernel_rfl) ?_
  simp only [List.take_succ_cons, List.take_zero, List.drop_succ_cons, List.drop_zero]
  iterate 7 (first | go_big_quiet_skip | (go_big_quiet_want; go_big_quiet_op; go_big_quiet_on))
  refine wpQuiet_nil ?_
  go_wp2_with fail
  refine (k_add x y (x + y) true _ ⟨⟨by omega, by omega⟩, by omega, by omega⟩ HP.out).mono ?_
  rintro e w7 ⟨rfl, hb7⟩
  go_wp2_with fail
  refine (k_sub x y (x - y) true _ ⟨⟨by omega, by omega⟩, by omega, by omega⟩ HQ.out).mono ?_
  rintro e w8 ⟨rfl, hb8⟩
  go_wp2_with fail
  refine (k_mul x y m true _ ⟨⟨by omega, by omega⟩, by omega, by omega⟩ HX.out).mono ?_
  rintro e w9 ⟨rfl, hb9⟩
  go_wp2
  all_goals go_ret
  exact ⟨rfl, below_in (below_in (below_in hB.drew hb7) hb8) hb9⟩


theorem turns_any (a b x y : Int) (w : World) (ha : -9223372036854775808 ≤ a ∧ a ≤ 9223372036854775807) (hb : -9223372036854775808 ≤ b ∧ b ≤ 9223372036854775807) (hx : -2147483648 ≤ x ∧ x ≤ 2147483647) (hy : -2147483648 ≤ y ∧ y ≤ 2147483647) :
    Calls Try.prog 6 #[.int .i64 a, .int .i64 b, .agg #[.int .i32 x, .int .i32 y]] w fun e w' => e = .returned (.bool true) ∧ Below w.heap.size w w' := by
  have hxy : -4611686018427387904 ≤ x * y ∧ x * y ≤ 4611686018427387904 := by
    have h1 : (x * y).natAbs = x.natAbs * y.natAbs := Int.natAbs_mul x y
    have h2 : x.natAbs * y.natAbs ≤ 2147483648 * 2147483648 := Nat.mul_le_mul (by omega) (by omega)
    omega
  have hfx := fits_yes (z := x * y) (by omega) (by omega)
  have hm : wrap64 (x * y) = x * y := wrap_fits hfx.1
  have hm' : cut (x * y) = x * y ∧ fitsB (x * y) = true := ⟨hfx.2, hfx.1⟩
  by_cases hb0 : b = 0
  · subst hb0
    exact turns_zero a x y (x * y) w ha hx hy hm hm'
  · have eA : b + a = a + b := Int.add_comm b a
    have eM : b * a = a * b := Int.mul_comm b a
    cases hf : fitsB (a + b) with
    | true =>
      have hn := fits_of hf
      have cA := (fits_yes hn.1 hn.2).2
      have hS := fits_yes (z := a + b - b) (by omega) (by omega)
      have hS' : cut (a + b - b) = a ∧ fitsB (a + b - b) = true := ⟨by rw [hS.2]; omega, hS.1⟩
      have hlt : decide (a + b < a) = decide (b < 0) := by rw [decide_eq_decide]; omega
      cases hg : fitsB (a * b) with
      | true =>
        have hp := fits_of hg
        have cM := (fits_yes hp.1 hp.2).2
        exact turns_tt a b x y (x * y) (a + b) (a * b) w ha hx hy hm hm' hb hn ⟨cA, hf⟩ (by rw [eA]; exact ⟨cA, hf⟩) ⟨cM, hg⟩ (by rw [eM]; exact ⟨cM, hg⟩) hS' hlt (Int.mul_tmod_left a b) (Int.mul_tdiv_cancel a hb0) hb0
      | false =>
        have cM : cut (a * b) = 0 := by simp [cut, hg]
        exact turns_tf a b x y (x * y) (a + b) w ha hx hy hm hm' hb hn ⟨cA, hf⟩ (by rw [eA]; exact ⟨cA, hf⟩) ⟨cM, hg⟩ (by rw [eM]; exact ⟨cM, hg⟩) hS' hlt hb0
    | false =>
      have cA : cut (a + b) = 0 := by simp [cut, hf]
      cases hg : fitsB (a * b) with
      | true =>
        have hp := fits_of hg
        have cM := (fits_yes hp.1 hp.2).2
        exact turns_ft a b x y (x * y) (a * b) w ha hx hy hm hm' hb ⟨cA, hf⟩ (by rw [eA]; exact ⟨cA, hf⟩) ⟨cM, hg⟩ (by rw [eM]; exact ⟨cM, hg⟩) (Int.mul_tmod_left a b) (Int.mul_tdiv_cancel a hb0) hb0
      | false =>
        have cM : cut (a * b) = 0 := by simp [cut, hg]
        exact turns_ff a b x y (x * y) w ha hx hy hm hm' hb ⟨cA, hf⟩ (by rw [eA]; exact ⟨cA, hf⟩) ⟨cM, hg⟩ (by rw [eM]; exact ⟨cM, hg⟩) hb0
end Go.Proofs.Ytgbbediopjkkeaa
