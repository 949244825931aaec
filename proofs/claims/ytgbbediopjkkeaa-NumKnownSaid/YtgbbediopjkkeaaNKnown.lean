/- Layer 1: the closed statement NumKnown: the walk through its text. No condition. -/
import Derived.Test.YtgbbediopjkkeaaNWork
namespace Go.Proofs.Ytgbbediopjkkeaa
open Go.RowKit Go.BigFrame Go.Shelf
set_option maxRecDepth 20000

theorem k_sum0 (w : World) : Calls Try.prog 8 #[.slice none 0 0] w fun e w' => e = .returned (.tuple #[.int .i64 0, .bool true]) ∧ Below w.heap.size w w' :=
  sum_any none 0 0 [] (by decide) (fun j h => by simp at h) w (.inl ⟨⟨_, _, rfl⟩, rfl⟩)

set_option maxHeartbeats 4000000 in
theorem known_any (w : World) : Calls Try.prog 7 #[] w fun e w' => e = .returned (.bool true) ∧ Below w.heap.size w w' := by
  go_enter Try.func7, Try.ntmps7
  go_wp2_with fail
  refine (k_sub _ _ 0 false _ (by decide) (by decide)).mono ?_
  rintro e w1 ⟨rfl, hb1⟩
  go_wp2_with fail
  refine (k_sub _ _ 0 false _ (by decide) (by decide)).mono ?_
  rintro e w2 ⟨rfl, hb2⟩
  go_wp2_with fail
  refine (k_sub _ _ 9223372036854775807 true _ (by decide) (by decide)).mono ?_
  rintro e w3 ⟨rfl, hb3⟩
  go_wp2_with fail
  refine (k_add _ _ 0 false _ (by decide) (by decide)).mono ?_
  rintro e w4 ⟨rfl, hb4⟩
  go_wp2_with fail
  refine (k_mul _ _ 0 true _ (by decide) (by decide)).mono ?_
  rintro e w5 ⟨rfl, hb5⟩
  go_wp2_with fail
  refine (k_mul _ _ (-9223372036854775808) true _ (by decide) (by decide)).mono ?_
  rintro e w6 ⟨rfl, hb6⟩
  go_wp2_with fail
  refine (k_mul _ _ 0 false _ (by decide) (by decide)).mono ?_
  rintro e w7 ⟨rfl, hb7⟩
  go_wp2_with fail
  refine (k_mul _ _ (-9223372033963249500) true _ (by decide) (by decide)).mono ?_
  rintro e w8 ⟨rfl, hb8⟩
  go_wp2_with fail
  refine (k_sum0 _).mono ?_
  rintro e w9 ⟨rfl, hb9⟩
  go_wp2_with fail
  refine (k_sum3 _ _ _ 0 true _ (by decide) (by decide)).mono ?_
  rintro e w10 ⟨rfl, hb10⟩
  have b10 : Below w.heap.size w w10 := below_in (below_in (below_in (below_in (below_in (below_in (below_in (below_in (below_in hb1 hb2) hb3) hb4) hb5) hb6) hb7) hb8) hb9) hb10
  clear hb1 hb2 hb3 hb4 hb5 hb6 hb7 hb8 hb9 hb10
  go_wp2_with (first
    | (go_at_call 10; refine (works_any _).mono ?_; rintro e w11 ⟨rfl, hb11⟩)
    | (go_at_call 21; refine (none_any _ _ true _ ?_).mono ?_; decide; rintro e w8 ⟨rfl, rfl⟩)
    | (go_at_call 22; refine (is_any _ _ _ true _ ?_).mono ?_; decide; rintro e w8 ⟨rfl, rfl⟩)
    | (go_at_call_of 12 (1 : Int); refine (within_any _ _ _ false _ ?_).mono ?_; decide; rintro e w8 ⟨rfl, rfl⟩)
    | (go_at_call 12; refine (within_any _ _ _ true _ ?_).mono ?_; decide; rintro e w8 ⟨rfl, rfl⟩))
  go_ret
  exact ⟨rfl, below_in b10 hb11⟩
end Go.Proofs.Ytgbbediopjkkeaa
