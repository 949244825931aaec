/- Layer 1: Within and Clamp, and the chapter's examples: the walks. No condition. -/
import Derived.Test.YtgbbediopjkkeaaNRefSum
import Derived.Deep.RegionWith
namespace Go.Proofs.Ytgbbediopjkkeaa
open Go.RowKit Go.BigFrame Go.Shelf
set_option maxRecDepth 20000

theorem within_any (n a b : Int) (r : Bool) (w : World) (hr : (decide (a ≤ n) && decide (n ≤ b)) = r) :
    Calls Try.prog 12 #[.int .i64 n, .int .i64 a, .int .i64 b] w fun e w' => e = .returned (.bool r) ∧ w = w' := by
  have HR := Lib.hid hr
  clear hr
  go_enter Try.func12, Try.ntmps12
  go_wp2
  all_goals go_ret
  all_goals rename_i h
  · exact ⟨congrArg (fun r => Ending.returned (.bool r)) (show decide (n ≤ b) = r by rw [← HR.out]; simp [h]), rfl⟩
  · exact ⟨congrArg (fun r => Ending.returned (.bool r)) (show false = r by rw [← HR.out]; simp; omega), rfl⟩

/-- What Clamp answers. -/
def clampV (n a b : Int) : Int := if n < a then a else if n ≤ b then n else b
theorem clamp_any (n a b v : Int) (w : World) (hv : clampV n a b = v) :
    Calls Try.prog 11 #[.int .i64 n, .int .i64 a, .int .i64 b] w fun e w' => e = .returned (.int .i64 v) ∧ w = w' := by
  have HV := Lib.hid hv
  clear hv
  go_enter Try.func11, Try.ntmps11
  go_wp2
  all_goals go_ret
  all_goals refine ⟨congrArg (fun v => Ending.returned (.int .i64 v)) (?_ : _ = v), rfl⟩
  all_goals rw [← HV.out]
  all_goals unfold clampV
  all_goals repeat' split
  all_goals omega

theorem none_any (n : Int) (f r : Bool) (w : World) (hr : (!f && n == 0) = r) :
    Calls Try.prog 21 #[.int .i64 n, .bool f] w fun e w' => e = .returned (.bool r) ∧ w = w' := by
  have HR := Lib.hid hr
  clear hr
  cases f <;> go_enter Try.func21, Try.ntmps21 <;> go_wp2 <;> go_ret
  · exact ⟨congrArg (fun r => Ending.returned (.bool r)) (show (n == 0) = r by rw [← HR.out]; simp), rfl⟩
  · exact ⟨congrArg (fun r => Ending.returned (.bool r)) (show false = r by rw [← HR.out]; simp), rfl⟩
theorem is_any (n m : Int) (f r : Bool) (w : World) (hr : (f && n == m) = r) :
    Calls Try.prog 22 #[.int .i64 n, .bool f, .int .i64 m] w fun e w' => e = .returned (.bool r) ∧ w = w' := by
  have HR := Lib.hid hr
  clear hr
  cases f <;> go_enter Try.func22, Try.ntmps22 <;> go_wp2 <;> go_ret
  · exact ⟨congrArg (fun r => Ending.returned (.bool r)) (show false = r by rw [← HR.out]; simp), rfl⟩
  · exact ⟨congrArg (fun r => Ending.returned (.bool r)) (show (n == m) = r by rw [← HR.out]; simp), rfl⟩

theorem k_add (a b n : Int) (f : Bool) (w : World) (ha : (-9223372036854775808 ≤ a ∧ a ≤ 9223372036854775807) ∧ -9223372036854775808 ≤ b ∧ b ≤ 9223372036854775807) (hn : cut (a + b) = n ∧ fitsB (a + b) = f) :
    Calls Try.prog 14 #[.int .i64 a, .int .i64 b] w fun e w' => e = .returned (.tuple #[.int .i64 n, .bool f]) ∧ Below w.heap.size w w' := by
  rw [← hn.1, ← hn.2]
  exact add_any a b w ha.1.1 ha.1.2 ha.2.1 ha.2.2
theorem k_sub (a b n : Int) (f : Bool) (w : World) (ha : (-9223372036854775808 ≤ a ∧ a ≤ 9223372036854775807) ∧ -9223372036854775808 ≤ b ∧ b ≤ 9223372036854775807) (hn : cut (a - b) = n ∧ fitsB (a - b) = f) :
    Calls Try.prog 17 #[.int .i64 a, .int .i64 b] w fun e w' => e = .returned (.tuple #[.int .i64 n, .bool f]) ∧ Below w.heap.size w w' := by
  rw [← hn.1, ← hn.2]
  exact sub_any a b w ha.1.1 ha.1.2 ha.2.1 ha.2.2
theorem k_mul (a b n : Int) (f : Bool) (w : World) (ha : (-9223372036854775808 ≤ a ∧ a ≤ 9223372036854775807) ∧ -9223372036854775808 ≤ b ∧ b ≤ 9223372036854775807) (hn : cut (a * b) = n ∧ fitsB (a * b) = f) :
    Calls Try.prog 19 #[.int .i64 a, .int .i64 b] w fun e w' => e = .returned (.tuple #[.int .i64 n, .bool f]) ∧ Below w.heap.size w w' := by
  rw [← hn.1, ← hn.2]
  exact mul_any a b w ha.1.1 ha.1.2 ha.2.1 ha.2.2
theorem k_sum (B : Nat) (zs : List Int) (len cap : Nat) (n : Int) (f : Bool) (w : World) (hl : zs.length = len) (hB : B < w.heap.size) (hc : ∀ j, j < zs.length → w.cell? ⟨B, 0 + j, none⟩ = some (.int .i64 (zs[j]?.getD 0))) (hz : In64 zs) (hs : zs.length ≤ 9223372036854775807) (hn : sumN zs = n ∧ allFit zs = f) :
    Calls Try.prog 8 #[.slice (some ⟨B, 0, none⟩) len cap] w fun e w' => e = .returned (.tuple #[.int .i64 n, .bool f]) ∧ Below w.heap.size w w' := by
  rw [← hn.1, ← hn.2, ← hl]
  exact sum_any _ _ _ zs hs hz w (.inr ⟨B, 0, cap, rfl, hB, hc⟩)

theorem cellAt {w : World} {b i : Nat} {cs : Array Value} {t : TypeId} {fr : Nat × Nat} {v : Value} (h : w.heap[b]? = some (.cells cs t fr)) (hv : cs[i]? = some v) : w.cell? ⟨b, i, none⟩ = some v := by
  simp [World.cell?, h, hv]
theorem k_sum3 (a b c n : Int) (f : Bool) (w : World) (hz : ((-9223372036854775808 ≤ a ∧ a ≤ 9223372036854775807) ∧ -9223372036854775808 ≤ b ∧ b ≤ 9223372036854775807) ∧ -9223372036854775808 ≤ c ∧ c ≤ 9223372036854775807) (hn : sumN [a, b, c] = n ∧ allFit [a, b, c] = f) :
    Calls Try.prog 8 #[.slice (some ⟨w.heap.size, 0, none⟩) 3 3] (w.alloc (.cells #[.int .i64 a, .int .i64 b, .int .i64 c] 2)) fun e w' => e = .returned (.tuple #[.int .i64 n, .bool f]) ∧ Below w.heap.size w w' := by
  refine (k_sum w.heap.size [a, b, c] 3 3 n f _ rfl (by simp) ?_ ?_ (by simp) hn).mono ?_
  · intro j hj
    match j, hj with
    | 0, _ => exact cellAt (World.alloc_heap_new w _) rfl
    | 1, _ => exact cellAt (World.alloc_heap_new w _) rfl
    | 2, _ => exact cellAt (World.alloc_heap_new w _) rfl
  · intro j hj
    match j, hj with
    | 0, _ => exact hz.1.1
    | 1, _ => exact hz.1.2
    | 2, _ => exact hz.2
  · rintro e w' ⟨he, hb⟩
    exact ⟨he, ((Below.refl _ w).alloc (Nat.le_refl _) _).trans (hb.mono (by simp))⟩

set_option maxHeartbeats 4000000 in
theorem works_any (w : World) : Calls Try.prog 10 #[] w fun e w' => e = .returned (.bool true) ∧ Below w.heap.size w w' := by
  go_enter Try.func10, Try.ntmps10
  go_wp2_with fail
  refine (k_add _ _ 0 false _ (by decide) (by decide)).mono ?_
  rintro e w1 ⟨rfl, hb1⟩
  go_wp2_with fail
  refine (k_add _ _ 9223372036854775806 true _ (by decide) (by decide)).mono ?_
  rintro e w2 ⟨rfl, hb2⟩
  go_wp2_with fail
  refine (k_mul _ _ 0 false _ (by decide) (by decide)).mono ?_
  rintro e w3 ⟨rfl, hb3⟩
  go_wp2_with fail
  refine (k_mul _ _ 0 false _ (by decide) (by decide)).mono ?_
  rintro e w4 ⟨rfl, hb4⟩
  go_wp2_with fail
  refine (k_mul _ _ (-9223372036854775808) true _ (by decide) (by decide)).mono ?_
  rintro e w5 ⟨rfl, hb5⟩
  go_wp2_with fail
  refine (k_sum3 _ _ _ 0 false _ (by decide) (by decide)).mono ?_
  rintro e w6 ⟨rfl, hb6⟩
  go_wp2_with fail
  refine (k_sum3 _ _ _ 6 true _ (by decide) (by decide)).mono ?_
  rintro e w7 ⟨rfl, hb7⟩
  have b7 : Below w.heap.size w w7 := below_in (below_in (below_in (below_in (below_in (below_in hb1 hb2) hb3) hb4) hb5) hb6) hb7
  clear hb1 hb2 hb3 hb4 hb5 hb6 hb7
  go_wp2_with (first
    | (go_at_call 21; refine (none_any _ _ true _ ?_).mono ?_; decide; rintro e w8 ⟨rfl, rfl⟩)
    | (go_at_call 22; refine (is_any _ _ _ true _ ?_).mono ?_; decide; rintro e w8 ⟨rfl, rfl⟩)
    | (go_at_call_of 11 (0 : Int); refine (clamp_any _ _ _ 5 _ ?_).mono ?_; decide; rintro e w8 ⟨rfl, rfl⟩)
    | (go_at_call_of 11 (9 : Int); refine (clamp_any _ _ _ 9 _ ?_).mono ?_; decide; rintro e w8 ⟨rfl, rfl⟩))
  go_ret
  exact ⟨rfl, b7⟩
end Go.Proofs.Ytgbbediopjkkeaa
