/- Layer 16: the chapter's examples hold: the walk through 'works'. No condition. -/
import Derived.Test.YtpkgmoiffegbfaaText
import Derived.Deep.RegionWith
namespace Go.Proofs.Ytpkgmoiffegbfaa
open Go.RowKit Go.BigFrame
set_option maxRecDepth 20000

theorem w_put (w : World) : Calls Try.prog 28 #[.string ⟨#[97]⟩, .int .u64 258, .int .i64 2] w fun e w' => e = .returned (.tuple #[.string ⟨#[97, 1, 2]⟩, .int .i64 0]) ∧ Below w.heap.size w w' :=
  put_fit2 ⟨#[97]⟩ 258 w (by decide) (by decide) (by decide)
theorem w_over (w : World) : Calls Try.prog 28 #[.string ⟨#[]⟩, .int .u64 256, .int .i64 1] w fun e w' => e = .returned (.tuple #[.string ⟨#[]⟩, .int .i64 3]) ∧ Below w.heap.size w w' :=
  put_over1 ⟨#[]⟩ 256 1 w (by decide) (by decide) (by decide) (by decide)
theorem w_get1 (w : World) : Calls Try.prog 29 #[.string ⟨#[7, 1, 2]⟩, .int .i64 1, .int .i64 2] w fun e w' => e = .returned (.tuple #[.int .u64 258, .bool true]) ∧ w = w' :=
  get_ok ⟨#[7, 1, 2]⟩ 1 2 w (by decide) (by decide) (by decide) (by decide) (by decide)
theorem w_get2 (w : World) : Calls Try.prog 29 #[.string ⟨#[7, 1, 2]⟩, .int .i64 2, .int .i64 2] w fun e w' => e = .returned (.tuple #[.int .u64 0, .bool false]) ∧ w = w' :=
  get_bad ⟨#[7, 1, 2]⟩ 2 2 w (by decide) (by decide)
theorem w_text (w : World) : Calls Try.prog 10 #[.string ⟨#[]⟩, .string ⟨#[120, 121]⟩] w fun e w' => e = .returned (.tuple #[.string ⟨#[0, 2, 120, 121]⟩, .int .i64 0]) ∧ Below w.heap.size w w' :=
  puttext_fit ⟨#[]⟩ ⟨#[120, 121]⟩ w (by decide) (by decide)
theorem w_read (N M : Nat) (w : World) (h : IsRd w N M ⟨#[0, 2, 120]⟩ 0 false) : Calls Try.prog 16 #[.pointer (some ⟨N, 0, none⟩)] w fun e w' => e = .returned (.string ⟨#[]⟩) ∧ w.grownBy w' (some N) ∧ IsRd w' N M ⟨#[0, 2, 120]⟩ 2 true :=
  text_cut ⟨#[0, 2, 120]⟩ N M 0 w h (by decide) (by decide) (by decide) 2 (by decide) (by decide) (by decide)

theorem IsRd.drewN {w : World} {N M : Nat} {s : ByteArray} {a : Int} {bad : Bool} (h : IsRd w N M s a bad) (n : Nat) : IsRd (w.drewN n) N M s a bad := h
theorem below_drewN {B : Nat} {w0 w : World} (h : Below B w0 w) (n : Nat) : Below B w0 (w.drewN n) := ⟨h.os, h.tape, h.output, h.size, h.block⟩
theorem below_of_grown {w w' : World} {B N : Nat} {w0 : World} (h : Below B w0 w) (g : w.grownBy w' (some N)) (hN : B ≤ N) (hB : B ≤ w.heap.size) : Below B w0 w' := below_grown h g hB (fun k e => by cases e; exact hN)
set_option maxHeartbeats 4000000 in
theorem works_any (w : World) : Calls Try.prog 14 #[] w fun e w' => e = .returned (.bool true) ∧ Below w.heap.size w w' := by
  go_enter Try.func14, Try.ntmps14
  go_wp2_with (first
    | (go_at_call_of 28 (258 : Int); refine (w_put _).mono ?_; rintro e w1 ⟨rfl, hb1⟩)
    | (go_at_call_of 28 (256 : Int); refine (w_over _).mono ?_; rintro e w2 ⟨rfl, hb2⟩)
    | (go_at_call_of 28 (9 : Int); refine (put_arg ⟨#[]⟩ 1 9 _ ?_).mono ?_; decide; rintro e w3 ⟨rfl, rfl⟩)
    | (go_at_call_of 29 (1 : Int); refine (w_get1 _).mono ?_; rintro e w4 ⟨rfl, rfl⟩)
    | (go_at_call 29; refine (w_get2 _).mono ?_; rintro e w5 ⟨rfl, rfl⟩)
    | (go_at_call 10; refine (w_text _).mono ?_; rintro e w6 ⟨rfl, hb6⟩)
    | (go_at_call 15; refine (read_new _ _).mono ?_; rintro e w7 ⟨rfl, hb7, hr7⟩)
    | (go_at_call 16; refine (w_read _ _ _ hr7).mono ?_; rintro e w8 ⟨rfl, hg8, hr8⟩)
    | (go_at_call 20; refine (left_any _ _ _ _ _ _ hr8 ?_ ?_ ?_).mono ?_; decide; decide; decide; rintro e w9 ⟨rfl, k, rfl⟩)
    | (go_at_call 22; refine (end_any _ _ _ _ _ _ (hr8.drewN k) ?_ ?_ ?_).mono ?_; decide; decide; decide; rintro e w10 ⟨rfl, k2, rfl⟩))
  all_goals go_ret
  all_goals exact ⟨rfl, below_drewN (below_of_grown (((hb1.trans (hb2.mono hb1.size)).trans (hb6.mono (Nat.le_trans hb1.size hb2.size))).trans (hb7.mono (Nat.le_trans (Nat.le_trans hb1.size hb2.size) hb6.size))) hg8 (Nat.le_trans (Nat.le_trans hb1.size hb2.size) hb6.size) (Nat.le_trans (Nat.le_trans (Nat.le_trans hb1.size hb2.size) hb6.size) hb7.size)) _⟩
end Go.Proofs.Ytpkgmoiffegbfaa
