/- octet.Put where a number has no room, of all texts and numbers: the walks. No condition. -/
import Derived.Test.YtpkgmoiffegbfaaPut
import Derived.Laws.BitsAllLaws
namespace Go.Proofs.Ytpkgmoiffegbfaa
open Go.RowKit
set_option maxRecDepth 20000

set_option maxHeartbeats 1000000 in
theorem put_over1 (s : ByteArray) (n width : Int) (w : World) (h1 : 1 ≤ width) (h8 : width ≤ 1) (hlo : 256 ≤ n) (hn : n < 65536) :
    Calls Try.prog 28 #[.string s, .int .u64 n, .int .i64 width] w fun e w' => e = .returned (.tuple #[.string ⟨#[]⟩, .int .i64 3]) ∧ Below w.heap.size w w' := by
  have g7 : n / 72057594037927936 = 0 := by omega
  have g6 : n / 281474976710656 = 0 := by omega
  have g5 : n / 1099511627776 = 0 := by omega
  have g4 : n / 4294967296 = 0 := by omega
  have g3 : n / 16777216 = 0 := by omega
  have g2 : n / 65536 = 0 := by omega
  have gb : (n / 256 == 0) = false := by rw [beq_eq_false_iff_ne]; omega
  have gc : (n / 256 != 0) = true := by rw [bne_iff_ne]; omega
  have hw0 : 0 ≤ width := by omega
  have hw8 : width ≤ 8 := by omega
  have hw9 : 8 - width ≤ 8 := by omega
  have hmr : 0 ≤ 8 - width := by omega
  go_enter Try.func28, Try.ntmps28
  go_wp2_with (go_at_call 41; refine (wide_yes _ _ (by omega) (by omega)).mono ?_; rintro e w' ⟨rfl, rfl⟩)
  refine wp_loop_rounds 9 ?_
  iterate 9 (rw [rounds_succ]; go_wp2)
  refine wp_loop_rounds 7 ?_
  iterate 7 (rw [rounds_succ]; go_wp2)
  go_ret2
  exact ⟨rfl, (Below.refl _ w).alloc (Nat.le_refl _) _⟩

set_option maxHeartbeats 1000000 in
theorem put_over2 (s : ByteArray) (n width : Int) (w : World) (h1 : 1 ≤ width) (h8 : width ≤ 2) (hlo : 65536 ≤ n) (hn : n < 16777216) :
    Calls Try.prog 28 #[.string s, .int .u64 n, .int .i64 width] w fun e w' => e = .returned (.tuple #[.string ⟨#[]⟩, .int .i64 3]) ∧ Below w.heap.size w w' := by
  have g7 : n / 72057594037927936 = 0 := by omega
  have g6 : n / 281474976710656 = 0 := by omega
  have g5 : n / 1099511627776 = 0 := by omega
  have g4 : n / 4294967296 = 0 := by omega
  have g3 : n / 16777216 = 0 := by omega
  have gb : (n / 65536 == 0) = false := by rw [beq_eq_false_iff_ne]; omega
  have gc : (n / 65536 != 0) = true := by rw [bne_iff_ne]; omega
  have hw0 : 0 ≤ width := by omega
  have hw8 : width ≤ 8 := by omega
  have hw9 : 8 - width ≤ 8 := by omega
  have hmr : 0 ≤ 8 - width := by omega
  go_enter Try.func28, Try.ntmps28
  go_wp2_with (go_at_call 41; refine (wide_yes _ _ (by omega) (by omega)).mono ?_; rintro e w' ⟨rfl, rfl⟩)
  refine wp_loop_rounds 9 ?_
  iterate 9 (rw [rounds_succ]; go_wp2)
  refine wp_loop_rounds 6 ?_
  iterate 6 (rw [rounds_succ]; go_wp2)
  go_ret2
  exact ⟨rfl, (Below.refl _ w).alloc (Nat.le_refl _) _⟩

set_option maxHeartbeats 1000000 in
theorem put_over3 (s : ByteArray) (n width : Int) (w : World) (h1 : 1 ≤ width) (h8 : width ≤ 3) (hlo : 16777216 ≤ n) (hn : n < 4294967296) :
    Calls Try.prog 28 #[.string s, .int .u64 n, .int .i64 width] w fun e w' => e = .returned (.tuple #[.string ⟨#[]⟩, .int .i64 3]) ∧ Below w.heap.size w w' := by
  have g7 : n / 72057594037927936 = 0 := by omega
  have g6 : n / 281474976710656 = 0 := by omega
  have g5 : n / 1099511627776 = 0 := by omega
  have g4 : n / 4294967296 = 0 := by omega
  have gb : (n / 16777216 == 0) = false := by rw [beq_eq_false_iff_ne]; omega
  have gc : (n / 16777216 != 0) = true := by rw [bne_iff_ne]; omega
  have hw0 : 0 ≤ width := by omega
  have hw8 : width ≤ 8 := by omega
  have hw9 : 8 - width ≤ 8 := by omega
  have hmr : 0 ≤ 8 - width := by omega
  go_enter Try.func28, Try.ntmps28
  go_wp2_with (go_at_call 41; refine (wide_yes _ _ (by omega) (by omega)).mono ?_; rintro e w' ⟨rfl, rfl⟩)
  refine wp_loop_rounds 9 ?_
  iterate 9 (rw [rounds_succ]; go_wp2)
  refine wp_loop_rounds 5 ?_
  iterate 5 (rw [rounds_succ]; go_wp2)
  go_ret2
  exact ⟨rfl, (Below.refl _ w).alloc (Nat.le_refl _) _⟩

set_option maxHeartbeats 1000000 in
theorem put_over4 (s : ByteArray) (n width : Int) (w : World) (h1 : 1 ≤ width) (h8 : width ≤ 4) (hlo : 4294967296 ≤ n) (hn : n < 1099511627776) :
    Calls Try.prog 28 #[.string s, .int .u64 n, .int .i64 width] w fun e w' => e = .returned (.tuple #[.string ⟨#[]⟩, .int .i64 3]) ∧ Below w.heap.size w w' := by
  have g7 : n / 72057594037927936 = 0 := by omega
  have g6 : n / 281474976710656 = 0 := by omega
  have g5 : n / 1099511627776 = 0 := by omega
  have gb : (n / 4294967296 == 0) = false := by rw [beq_eq_false_iff_ne]; omega
  have gc : (n / 4294967296 != 0) = true := by rw [bne_iff_ne]; omega
  have hw0 : 0 ≤ width := by omega
  have hw8 : width ≤ 8 := by omega
  have hw9 : 8 - width ≤ 8 := by omega
  have hmr : 0 ≤ 8 - width := by omega
  go_enter Try.func28, Try.ntmps28
  go_wp2_with (go_at_call 41; refine (wide_yes _ _ (by omega) (by omega)).mono ?_; rintro e w' ⟨rfl, rfl⟩)
  refine wp_loop_rounds 9 ?_
  iterate 9 (rw [rounds_succ]; go_wp2)
  refine wp_loop_rounds 4 ?_
  iterate 4 (rw [rounds_succ]; go_wp2)
  go_ret2
  exact ⟨rfl, (Below.refl _ w).alloc (Nat.le_refl _) _⟩

set_option maxHeartbeats 1000000 in
theorem put_over5 (s : ByteArray) (n width : Int) (w : World) (h1 : 1 ≤ width) (h8 : width ≤ 5) (hlo : 1099511627776 ≤ n) (hn : n < 281474976710656) :
    Calls Try.prog 28 #[.string s, .int .u64 n, .int .i64 width] w fun e w' => e = .returned (.tuple #[.string ⟨#[]⟩, .int .i64 3]) ∧ Below w.heap.size w w' := by
  have g7 : n / 72057594037927936 = 0 := by omega
  have g6 : n / 281474976710656 = 0 := by omega
  have gb : (n / 1099511627776 == 0) = false := by rw [beq_eq_false_iff_ne]; omega
  have gc : (n / 1099511627776 != 0) = true := by rw [bne_iff_ne]; omega
  have hw0 : 0 ≤ width := by omega
  have hw8 : width ≤ 8 := by omega
  have hw9 : 8 - width ≤ 8 := by omega
  have hmr : 0 ≤ 8 - width := by omega
  go_enter Try.func28, Try.ntmps28
  go_wp2_with (go_at_call 41; refine (wide_yes _ _ (by omega) (by omega)).mono ?_; rintro e w' ⟨rfl, rfl⟩)
  refine wp_loop_rounds 9 ?_
  iterate 9 (rw [rounds_succ]; go_wp2)
  refine wp_loop_rounds 3 ?_
  iterate 3 (rw [rounds_succ]; go_wp2)
  go_ret2
  exact ⟨rfl, (Below.refl _ w).alloc (Nat.le_refl _) _⟩

set_option maxHeartbeats 1000000 in
theorem put_over6 (s : ByteArray) (n width : Int) (w : World) (h1 : 1 ≤ width) (h8 : width ≤ 6) (hlo : 281474976710656 ≤ n) (hn : n < 72057594037927936) :
    Calls Try.prog 28 #[.string s, .int .u64 n, .int .i64 width] w fun e w' => e = .returned (.tuple #[.string ⟨#[]⟩, .int .i64 3]) ∧ Below w.heap.size w w' := by
  have g7 : n / 72057594037927936 = 0 := by omega
  have gb : (n / 281474976710656 == 0) = false := by rw [beq_eq_false_iff_ne]; omega
  have gc : (n / 281474976710656 != 0) = true := by rw [bne_iff_ne]; omega
  have hw0 : 0 ≤ width := by omega
  have hw8 : width ≤ 8 := by omega
  have hw9 : 8 - width ≤ 8 := by omega
  have hmr : 0 ≤ 8 - width := by omega
  go_enter Try.func28, Try.ntmps28
  go_wp2_with (go_at_call 41; refine (wide_yes _ _ (by omega) (by omega)).mono ?_; rintro e w' ⟨rfl, rfl⟩)
  refine wp_loop_rounds 9 ?_
  iterate 9 (rw [rounds_succ]; go_wp2)
  refine wp_loop_rounds 2 ?_
  iterate 2 (rw [rounds_succ]; go_wp2)
  go_ret2
  exact ⟨rfl, (Below.refl _ w).alloc (Nat.le_refl _) _⟩

set_option maxHeartbeats 1000000 in
theorem put_over7 (s : ByteArray) (n width : Int) (w : World) (h1 : 1 ≤ width) (h8 : width ≤ 7) (hlo : 72057594037927936 ≤ n) (hn : n < 18446744073709551616) :
    Calls Try.prog 28 #[.string s, .int .u64 n, .int .i64 width] w fun e w' => e = .returned (.tuple #[.string ⟨#[]⟩, .int .i64 3]) ∧ Below w.heap.size w w' := by
  have gb : (n / 72057594037927936 == 0) = false := by rw [beq_eq_false_iff_ne]; omega
  have gc : (n / 72057594037927936 != 0) = true := by rw [bne_iff_ne]; omega
  have hw0 : 0 ≤ width := by omega
  have hw8 : width ≤ 8 := by omega
  have hw9 : 8 - width ≤ 8 := by omega
  have hmr : 0 ≤ 8 - width := by omega
  go_enter Try.func28, Try.ntmps28
  go_wp2_with (go_at_call 41; refine (wide_yes _ _ (by omega) (by omega)).mono ?_; rintro e w' ⟨rfl, rfl⟩)
  refine wp_loop_rounds 9 ?_
  iterate 9 (rw [rounds_succ]; go_wp2)
  refine wp_loop_rounds 1 ?_
  iterate 1 (rw [rounds_succ]; go_wp2)
  go_ret2
  exact ⟨rfl, (Below.refl _ w).alloc (Nat.le_refl _) _⟩

end Go.Proofs.Ytpkgmoiffegbfaa
