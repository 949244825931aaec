/- Layer 16: numbers in as many bytes are ordered as their bytes are: the walk through OctetOrder. Condition: the text has at most 140737488351232 bytes. -/
import Derived.Test.YtchjfipgipikpaaWork
import Derived.Test.YtchjfipgipikpaaLaw
import Derived.Deep.RegionWith
namespace Go.Proofs.Ytchjfipgipikpaa
open Go.RowKit Go.BigFrame
set_option maxRecDepth 20000

theorem order_below {w w1 w2 w3 : World} {o : Obj} {nq : Nat} (hb1 : Below ((w.alloc o).drewN nq).heap.size ((w.alloc o).drewN nq) w1) (hb2 : Below w1.heap.size w1 w2) (hb3 : Below w2.heap.size w2 w3) : Below w.heap.size w w3 := by
  have h0 : Below w.heap.size w ((w.alloc o).drewN nq) := below_drewN ((Below.refl _ w).alloc (Nat.le_refl _) o) nq
  have h1 := h0.trans (hb1.mono h0.size)
  have h2 := h1.trans (hb2.mono h1.size)
  exact h2.trans (hb3.mono h2.size)
theorem got_back (s : ByteArray) (X : Int) (k : Nat) (kk : Int) (hkk : kk = k) (w : World) (hs : s.size ≤ 140737488351232) (h1 : 1 ≤ k) (h8 : k ≤ 8) (hX0 : 0 ≤ X) (hX : X.toNat < 256 ^ k) :
    Calls Try.prog 29 #[.string (putN s X k), .int .i64 s.size, .int .i64 kk] w fun e w' => e = .returned (.tuple #[.int .u64 X, .bool true]) ∧ w = w' := by
  subst hkk
  refine (get_ok (putN s X k) s.size k w (by rw [putN_size]; omega) (by omega) (by omega) (by omega) (by rw [putN_size]; omega)).mono ?_
  rintro e w' ⟨rfl, h⟩
  refine ⟨?_, h⟩
  rw [Int.toNat_natCast, Int.toNat_natCast, putN_back s X k hX, Int.toNat_of_nonneg hX0]
theorem got_none (s : ByteArray) (X : Int) (k : Nat) (kk : Int) (hkk : kk = k) (w : World) (hs : s.size ≤ 140737488351232) (h8 : k ≤ 8) :
    Calls Try.prog 29 #[.string (putN s X k), .int .i64 ((s.size : Int) + 1), .int .i64 kk] w fun e w' => e = .returned (.tuple #[.int .u64 0, .bool false]) ∧ w = w' := by
  subst hkk
  exact get_bad (putN s X k) (s.size + 1) k w (by rw [putN_size]; omega) (by rw [putN_size]; omega)


theorem fit1 (s : ByteArray) (n : Int) (w : World) (hn0 : 0 ≤ n) (hn : n < 256) (hs : s.size ≤ 140737488351232) :
    Calls Try.prog 28 #[.string s, .int .u64 n, .int .i64 1] w fun e w' => e = .returned (.tuple #[.string (putN s n 1), .int .i64 0]) ∧ Below w.heap.size w w' := put_fit1 s n w hn0 hn hs
set_option maxHeartbeats 4000000 in
theorem order_walk1 (s : ByteArray) (a b wide : Int) (w : World) (hs : s.size ≤ 140737488351232) (ha : 0 ≤ a) (ha' : a < 18446744073709551616) (hb : 0 ≤ b) (hb' : b < 18446744073709551616) (hw : 0 ≤ wide) (hw' : wide < 256) (hj : wide % 8 = 0) :
    Calls Try.prog 7 #[.string s, .agg #[.int .u64 a, .int .u64 b], .int .u8 wide] w fun e w' => e = .returned (.bool true) ∧ Below w.heap.size w w' := by
  obtain ⟨X, hX⟩ : ∃ X, a / 72057594037927936 = X := ⟨_, rfl⟩
  obtain ⟨Y, hY⟩ : ∃ Y, b / 72057594037927936 = Y := ⟨_, rfl⟩
  have hX0 : 0 ≤ X := by omega
  have hX1 : X < 256 := by omega
  have hY0 : 0 ≤ Y := by omega
  have hY1 : Y < 256 := by omega
  have LX : X.toNat < 256 ^ 1 := by show _ < 256; omega
  have LY : Y.toNat < 256 ^ 1 := by show _ < 256; omega
  have HX := hide LX
  have HY := hide LY
  have f1 := putN_size s X 1
  have f2 := putN_size s Y 1
  have f3 := putN_head s X 1
  have f4 := putN_less s X Y 1 hX0 hY0 LX LY
  have f5 := putN_same s X Y 1 hX0 hY0 LX LY
  clear LX LY
  have Z1 : IntKind.i64.wrap ((s.size : Int) + 1) = (s.size : Int) + 1 := wrap64 (by omega) (by omega)
  have Z2 : IntKind.i64.wrap ((s.size : Int) + 1) = (s.size : Int) + 1 := wrap64 (by omega) (by omega)
  go_enter Try.func7, Try.ntmps7
  go_wp2
  go_quiet (fail)
  go_wp2_with (first
    | (go_at_call 14; refine (works_any _).mono ?_; rintro e w1 ⟨rfl, hb1⟩)
    | (go_at_call_of 28 X; refine (fit1 s X _ hX0 hX1 hs).mono ?_; rintro e w2 ⟨rfl, hb2⟩)
    | (go_at_call_of 28 Y; refine (fit1 s Y _ hY0 hY1 hs).mono ?_; rintro e w3 ⟨rfl, hb3⟩)
    | (go_at_call 29; (with_reducible refine (got_none s X 1 1 ?_ _ hs ?_).mono ?_); decide; decide; rintro e w4 ⟨rfl, rfl⟩)
    | (go_at_call 29; (with_reducible refine (got_back s X 1 1 ?_ _ hs ?_ ?_ hX0 HX.out).mono ?_); decide; decide; decide; rintro e w5 ⟨rfl, rfl⟩))
  all_goals go_ret
  all_goals exact ⟨by simp, order_below hb1 hb2 hb3⟩

theorem fit2 (s : ByteArray) (n : Int) (w : World) (hn0 : 0 ≤ n) (hn : n < 65536) (hs : s.size ≤ 140737488351232) :
    Calls Try.prog 28 #[.string s, .int .u64 n, .int .i64 2] w fun e w' => e = .returned (.tuple #[.string (putN s n 2), .int .i64 0]) ∧ Below w.heap.size w w' := put_fit2 s n w hn0 hn hs
set_option maxHeartbeats 4000000 in
theorem order_walk2 (s : ByteArray) (a b wide : Int) (w : World) (hs : s.size ≤ 140737488351232) (ha : 0 ≤ a) (ha' : a < 18446744073709551616) (hb : 0 ≤ b) (hb' : b < 18446744073709551616) (hw : 0 ≤ wide) (hw' : wide < 256) (hj : wide % 8 = 1) :
    Calls Try.prog 7 #[.string s, .agg #[.int .u64 a, .int .u64 b], .int .u8 wide] w fun e w' => e = .returned (.bool true) ∧ Below w.heap.size w w' := by
  obtain ⟨X, hX⟩ : ∃ X, a / 281474976710656 = X := ⟨_, rfl⟩
  obtain ⟨Y, hY⟩ : ∃ Y, b / 281474976710656 = Y := ⟨_, rfl⟩
  have hX0 : 0 ≤ X := by omega
  have hX1 : X < 65536 := by omega
  have hY0 : 0 ≤ Y := by omega
  have hY1 : Y < 65536 := by omega
  have LX : X.toNat < 256 ^ 2 := by show _ < 65536; omega
  have LY : Y.toNat < 256 ^ 2 := by show _ < 65536; omega
  have HX := hide LX
  have HY := hide LY
  have f1 := putN_size s X 2
  have f2 := putN_size s Y 2
  have f3 := putN_head s X 2
  have f4 := putN_less s X Y 2 hX0 hY0 LX LY
  have f5 := putN_same s X Y 2 hX0 hY0 LX LY
  clear LX LY
  have Z1 : IntKind.i64.wrap ((s.size : Int) + 1) = (s.size : Int) + 1 := wrap64 (by omega) (by omega)
  have Z2 : IntKind.i64.wrap ((s.size : Int) + 2) = (s.size : Int) + 2 := wrap64 (by omega) (by omega)
  go_enter Try.func7, Try.ntmps7
  go_wp2
  go_quiet (fail)
  go_wp2_with (first
    | (go_at_call 14; refine (works_any _).mono ?_; rintro e w1 ⟨rfl, hb1⟩)
    | (go_at_call_of 28 X; refine (fit2 s X _ hX0 hX1 hs).mono ?_; rintro e w2 ⟨rfl, hb2⟩)
    | (go_at_call_of 28 Y; refine (fit2 s Y _ hY0 hY1 hs).mono ?_; rintro e w3 ⟨rfl, hb3⟩)
    | (go_at_call 29; (with_reducible refine (got_none s X 2 2 ?_ _ hs ?_).mono ?_); decide; decide; rintro e w4 ⟨rfl, rfl⟩)
    | (go_at_call 29; (with_reducible refine (got_back s X 2 2 ?_ _ hs ?_ ?_ hX0 HX.out).mono ?_); decide; decide; decide; rintro e w5 ⟨rfl, rfl⟩))
  all_goals go_ret
  all_goals exact ⟨by simp, order_below hb1 hb2 hb3⟩

theorem fit3 (s : ByteArray) (n : Int) (w : World) (hn0 : 0 ≤ n) (hn : n < 16777216) (hs : s.size ≤ 140737488351232) :
    Calls Try.prog 28 #[.string s, .int .u64 n, .int .i64 3] w fun e w' => e = .returned (.tuple #[.string (putN s n 3), .int .i64 0]) ∧ Below w.heap.size w w' := put_fit3 s n w hn0 hn hs
set_option maxHeartbeats 4000000 in
theorem order_walk3 (s : ByteArray) (a b wide : Int) (w : World) (hs : s.size ≤ 140737488351232) (ha : 0 ≤ a) (ha' : a < 18446744073709551616) (hb : 0 ≤ b) (hb' : b < 18446744073709551616) (hw : 0 ≤ wide) (hw' : wide < 256) (hj : wide % 8 = 2) :
    Calls Try.prog 7 #[.string s, .agg #[.int .u64 a, .int .u64 b], .int .u8 wide] w fun e w' => e = .returned (.bool true) ∧ Below w.heap.size w w' := by
  obtain ⟨X, hX⟩ : ∃ X, a / 1099511627776 = X := ⟨_, rfl⟩
  obtain ⟨Y, hY⟩ : ∃ Y, b / 1099511627776 = Y := ⟨_, rfl⟩
  have hX0 : 0 ≤ X := by omega
  have hX1 : X < 16777216 := by omega
  have hY0 : 0 ≤ Y := by omega
  have hY1 : Y < 16777216 := by omega
  have LX : X.toNat < 256 ^ 3 := by show _ < 16777216; omega
  have LY : Y.toNat < 256 ^ 3 := by show _ < 16777216; omega
  have HX := hide LX
  have HY := hide LY
  have f1 := putN_size s X 3
  have f2 := putN_size s Y 3
  have f3 := putN_head s X 3
  have f4 := putN_less s X Y 3 hX0 hY0 LX LY
  have f5 := putN_same s X Y 3 hX0 hY0 LX LY
  clear LX LY
  have Z1 : IntKind.i64.wrap ((s.size : Int) + 1) = (s.size : Int) + 1 := wrap64 (by omega) (by omega)
  have Z2 : IntKind.i64.wrap ((s.size : Int) + 3) = (s.size : Int) + 3 := wrap64 (by omega) (by omega)
  go_enter Try.func7, Try.ntmps7
  go_wp2
  go_quiet (fail)
  go_wp2_with (first
    | (go_at_call 14; refine (works_any _).mono ?_; rintro e w1 ⟨rfl, hb1⟩)
    | (go_at_call_of 28 X; refine (fit3 s X _ hX0 hX1 hs).mono ?_; rintro e w2 ⟨rfl, hb2⟩)
    | (go_at_call_of 28 Y; refine (fit3 s Y _ hY0 hY1 hs).mono ?_; rintro e w3 ⟨rfl, hb3⟩)
    | (go_at_call 29; (with_reducible refine (got_none s X 3 3 ?_ _ hs ?_).mono ?_); decide; decide; rintro e w4 ⟨rfl, rfl⟩)
    | (go_at_call 29; (with_reducible refine (got_back s X 3 3 ?_ _ hs ?_ ?_ hX0 HX.out).mono ?_); decide; decide; decide; rintro e w5 ⟨rfl, rfl⟩))
  all_goals go_ret
  all_goals exact ⟨by simp, order_below hb1 hb2 hb3⟩

theorem fit4 (s : ByteArray) (n : Int) (w : World) (hn0 : 0 ≤ n) (hn : n < 4294967296) (hs : s.size ≤ 140737488351232) :
    Calls Try.prog 28 #[.string s, .int .u64 n, .int .i64 4] w fun e w' => e = .returned (.tuple #[.string (putN s n 4), .int .i64 0]) ∧ Below w.heap.size w w' := put_fit4 s n w hn0 hn hs
set_option maxHeartbeats 4000000 in
theorem order_walk4 (s : ByteArray) (a b wide : Int) (w : World) (hs : s.size ≤ 140737488351232) (ha : 0 ≤ a) (ha' : a < 18446744073709551616) (hb : 0 ≤ b) (hb' : b < 18446744073709551616) (hw : 0 ≤ wide) (hw' : wide < 256) (hj : wide % 8 = 3) :
    Calls Try.prog 7 #[.string s, .agg #[.int .u64 a, .int .u64 b], .int .u8 wide] w fun e w' => e = .returned (.bool true) ∧ Below w.heap.size w w' := by
  obtain ⟨X, hX⟩ : ∃ X, a / 4294967296 = X := ⟨_, rfl⟩
  obtain ⟨Y, hY⟩ : ∃ Y, b / 4294967296 = Y := ⟨_, rfl⟩
  have hX0 : 0 ≤ X := by omega
  have hX1 : X < 4294967296 := by omega
  have hY0 : 0 ≤ Y := by omega
  have hY1 : Y < 4294967296 := by omega
  have LX : X.toNat < 256 ^ 4 := by show _ < 4294967296; omega
  have LY : Y.toNat < 256 ^ 4 := by show _ < 4294967296; omega
  have HX := hide LX
  have HY := hide LY
  have f1 := putN_size s X 4
  have f2 := putN_size s Y 4
  have f3 := putN_head s X 4
  have f4 := putN_less s X Y 4 hX0 hY0 LX LY
  have f5 := putN_same s X Y 4 hX0 hY0 LX LY
  clear LX LY
  have Z1 : IntKind.i64.wrap ((s.size : Int) + 1) = (s.size : Int) + 1 := wrap64 (by omega) (by omega)
  have Z2 : IntKind.i64.wrap ((s.size : Int) + 4) = (s.size : Int) + 4 := wrap64 (by omega) (by omega)
  go_enter Try.func7, Try.ntmps7
  go_wp2
  go_quiet (fail)
  go_wp2_with (first
    | (go_at_call 14; refine (works_any _).mono ?_; rintro e w1 ⟨rfl, hb1⟩)
    | (go_at_call_of 28 X; refine (fit4 s X _ hX0 hX1 hs).mono ?_; rintro e w2 ⟨rfl, hb2⟩)
    | (go_at_call_of 28 Y; refine (fit4 s Y _ hY0 hY1 hs).mono ?_; rintro e w3 ⟨rfl, hb3⟩)
    | (go_at_call 29; (with_reducible refine (got_none s X 4 4 ?_ _ hs ?_).mono ?_); decide; decide; rintro e w4 ⟨rfl, rfl⟩)
    | (go_at_call 29; (with_reducible refine (got_back s X 4 4 ?_ _ hs ?_ ?_ hX0 HX.out).mono ?_); decide; decide; decide; rintro e w5 ⟨rfl, rfl⟩))
  all_goals go_ret
  all_goals exact ⟨by simp, order_below hb1 hb2 hb3⟩

theorem fit5 (s : ByteArray) (n : Int) (w : World) (hn0 : 0 ≤ n) (hn : n < 1099511627776) (hs : s.size ≤ 140737488351232) :
    Calls Try.prog 28 #[.string s, .int .u64 n, .int .i64 5] w fun e w' => e = .returned (.tuple #[.string (putN s n 5), .int .i64 0]) ∧ Below w.heap.size w w' := put_fit5 s n w hn0 hn hs
set_option maxHeartbeats 4000000 in
theorem order_walk5 (s : ByteArray) (a b wide : Int) (w : World) (hs : s.size ≤ 140737488351232) (ha : 0 ≤ a) (ha' : a < 18446744073709551616) (hb : 0 ≤ b) (hb' : b < 18446744073709551616) (hw : 0 ≤ wide) (hw' : wide < 256) (hj : wide % 8 = 4) :
    Calls Try.prog 7 #[.string s, .agg #[.int .u64 a, .int .u64 b], .int .u8 wide] w fun e w' => e = .returned (.bool true) ∧ Below w.heap.size w w' := by
  obtain ⟨X, hX⟩ : ∃ X, a / 16777216 = X := ⟨_, rfl⟩
  obtain ⟨Y, hY⟩ : ∃ Y, b / 16777216 = Y := ⟨_, rfl⟩
  have hX0 : 0 ≤ X := by omega
  have hX1 : X < 1099511627776 := by omega
  have hY0 : 0 ≤ Y := by omega
  have hY1 : Y < 1099511627776 := by omega
  have LX : X.toNat < 256 ^ 5 := by show _ < 1099511627776; omega
  have LY : Y.toNat < 256 ^ 5 := by show _ < 1099511627776; omega
  have HX := hide LX
  have HY := hide LY
  have f1 := putN_size s X 5
  have f2 := putN_size s Y 5
  have f3 := putN_head s X 5
  have f4 := putN_less s X Y 5 hX0 hY0 LX LY
  have f5 := putN_same s X Y 5 hX0 hY0 LX LY
  clear LX LY
  have Z1 : IntKind.i64.wrap ((s.size : Int) + 1) = (s.size : Int) + 1 := wrap64 (by omega) (by omega)
  have Z2 : IntKind.i64.wrap ((s.size : Int) + 5) = (s.size : Int) + 5 := wrap64 (by omega) (by omega)
  go_enter Try.func7, Try.ntmps7
  go_wp2
  go_quiet (fail)
  go_wp2_with (first
    | (go_at_call 14; refine (works_any _).mono ?_; rintro e w1 ⟨rfl, hb1⟩)
    | (go_at_call_of 28 X; refine (fit5 s X _ hX0 hX1 hs).mono ?_; rintro e w2 ⟨rfl, hb2⟩)
    | (go_at_call_of 28 Y; refine (fit5 s Y _ hY0 hY1 hs).mono ?_; rintro e w3 ⟨rfl, hb3⟩)
    | (go_at_call 29; (with_reducible refine (got_none s X 5 5 ?_ _ hs ?_).mono ?_); decide; decide; rintro e w4 ⟨rfl, rfl⟩)
    | (go_at_call 29; (with_reducible refine (got_back s X 5 5 ?_ _ hs ?_ ?_ hX0 HX.out).mono ?_); decide; decide; decide; rintro e w5 ⟨rfl, rfl⟩))
  all_goals go_ret
  all_goals exact ⟨by simp, order_below hb1 hb2 hb3⟩

theorem fit6 (s : ByteArray) (n : Int) (w : World) (hn0 : 0 ≤ n) (hn : n < 281474976710656) (hs : s.size ≤ 140737488351232) :
    Calls Try.prog 28 #[.string s, .int .u64 n, .int .i64 6] w fun e w' => e = .returned (.tuple #[.string (putN s n 6), .int .i64 0]) ∧ Below w.heap.size w w' := put_fit6 s n w hn0 hn hs
set_option maxHeartbeats 4000000 in
theorem order_walk6 (s : ByteArray) (a b wide : Int) (w : World) (hs : s.size ≤ 140737488351232) (ha : 0 ≤ a) (ha' : a < 18446744073709551616) (hb : 0 ≤ b) (hb' : b < 18446744073709551616) (hw : 0 ≤ wide) (hw' : wide < 256) (hj : wide % 8 = 5) :
    Calls Try.prog 7 #[.string s, .agg #[.int .u64 a, .int .u64 b], .int .u8 wide] w fun e w' => e = .returned (.bool true) ∧ Below w.heap.size w w' := by
  obtain ⟨X, hX⟩ : ∃ X, a / 65536 = X := ⟨_, rfl⟩
  obtain ⟨Y, hY⟩ : ∃ Y, b / 65536 = Y := ⟨_, rfl⟩
  have hX0 : 0 ≤ X := by omega
  have hX1 : X < 281474976710656 := by omega
  have hY0 : 0 ≤ Y := by omega
  have hY1 : Y < 281474976710656 := by omega
  have LX : X.toNat < 256 ^ 6 := by show _ < 281474976710656; omega
  have LY : Y.toNat < 256 ^ 6 := by show _ < 281474976710656; omega
  have HX := hide LX
  have HY := hide LY
  have f1 := putN_size s X 6
  have f2 := putN_size s Y 6
  have f3 := putN_head s X 6
  have f4 := putN_less s X Y 6 hX0 hY0 LX LY
  have f5 := putN_same s X Y 6 hX0 hY0 LX LY
  clear LX LY
  have Z1 : IntKind.i64.wrap ((s.size : Int) + 1) = (s.size : Int) + 1 := wrap64 (by omega) (by omega)
  have Z2 : IntKind.i64.wrap ((s.size : Int) + 6) = (s.size : Int) + 6 := wrap64 (by omega) (by omega)
  go_enter Try.func7, Try.ntmps7
  go_wp2
  go_quiet (fail)
  go_wp2_with (first
    | (go_at_call 14; refine (works_any _).mono ?_; rintro e w1 ⟨rfl, hb1⟩)
    | (go_at_call_of 28 X; refine (fit6 s X _ hX0 hX1 hs).mono ?_; rintro e w2 ⟨rfl, hb2⟩)
    | (go_at_call_of 28 Y; refine (fit6 s Y _ hY0 hY1 hs).mono ?_; rintro e w3 ⟨rfl, hb3⟩)
    | (go_at_call 29; (with_reducible refine (got_none s X 6 6 ?_ _ hs ?_).mono ?_); decide; decide; rintro e w4 ⟨rfl, rfl⟩)
    | (go_at_call 29; (with_reducible refine (got_back s X 6 6 ?_ _ hs ?_ ?_ hX0 HX.out).mono ?_); decide; decide; decide; rintro e w5 ⟨rfl, rfl⟩))
  all_goals go_ret
  all_goals exact ⟨by simp, order_below hb1 hb2 hb3⟩

theorem fit7 (s : ByteArray) (n : Int) (w : World) (hn0 : 0 ≤ n) (hn : n < 72057594037927936) (hs : s.size ≤ 140737488351232) :
    Calls Try.prog 28 #[.string s, .int .u64 n, .int .i64 7] w fun e w' => e = .returned (.tuple #[.string (putN s n 7), .int .i64 0]) ∧ Below w.heap.size w w' := put_fit7 s n w hn0 hn hs
set_option maxHeartbeats 4000000 in
theorem order_walk7 (s : ByteArray) (a b wide : Int) (w : World) (hs : s.size ≤ 140737488351232) (ha : 0 ≤ a) (ha' : a < 18446744073709551616) (hb : 0 ≤ b) (hb' : b < 18446744073709551616) (hw : 0 ≤ wide) (hw' : wide < 256) (hj : wide % 8 = 6) :
    Calls Try.prog 7 #[.string s, .agg #[.int .u64 a, .int .u64 b], .int .u8 wide] w fun e w' => e = .returned (.bool true) ∧ Below w.heap.size w w' := by
  obtain ⟨X, hX⟩ : ∃ X, a / 256 = X := ⟨_, rfl⟩
  obtain ⟨Y, hY⟩ : ∃ Y, b / 256 = Y := ⟨_, rfl⟩
  have hX0 : 0 ≤ X := by omega
  have hX1 : X < 72057594037927936 := by omega
  have hY0 : 0 ≤ Y := by omega
  have hY1 : Y < 72057594037927936 := by omega
  have LX : X.toNat < 256 ^ 7 := by show _ < 72057594037927936; omega
  have LY : Y.toNat < 256 ^ 7 := by show _ < 72057594037927936; omega
  have HX := hide LX
  have HY := hide LY
  have f1 := putN_size s X 7
  have f2 := putN_size s Y 7
  have f3 := putN_head s X 7
  have f4 := putN_less s X Y 7 hX0 hY0 LX LY
  have f5 := putN_same s X Y 7 hX0 hY0 LX LY
  clear LX LY
  have Z1 : IntKind.i64.wrap ((s.size : Int) + 1) = (s.size : Int) + 1 := wrap64 (by omega) (by omega)
  have Z2 : IntKind.i64.wrap ((s.size : Int) + 7) = (s.size : Int) + 7 := wrap64 (by omega) (by omega)
  go_enter Try.func7, Try.ntmps7
  go_wp2
  go_quiet (fail)
  go_wp2_with (first
    | (go_at_call 14; refine (works_any _).mono ?_; rintro e w1 ⟨rfl, hb1⟩)
    | (go_at_call_of 28 X; refine (fit7 s X _ hX0 hX1 hs).mono ?_; rintro e w2 ⟨rfl, hb2⟩)
    | (go_at_call_of 28 Y; refine (fit7 s Y _ hY0 hY1 hs).mono ?_; rintro e w3 ⟨rfl, hb3⟩)
    | (go_at_call 29; (with_reducible refine (got_none s X 7 7 ?_ _ hs ?_).mono ?_); decide; decide; rintro e w4 ⟨rfl, rfl⟩)
    | (go_at_call 29; (with_reducible refine (got_back s X 7 7 ?_ _ hs ?_ ?_ hX0 HX.out).mono ?_); decide; decide; decide; rintro e w5 ⟨rfl, rfl⟩))
  all_goals go_ret
  all_goals exact ⟨by simp, order_below hb1 hb2 hb3⟩

theorem fit8 (s : ByteArray) (n : Int) (w : World) (hn0 : 0 ≤ n) (hn : n < 18446744073709551616) (hs : s.size ≤ 140737488351232) :
    Calls Try.prog 28 #[.string s, .int .u64 n, .int .i64 8] w fun e w' => e = .returned (.tuple #[.string (putN s n 8), .int .i64 0]) ∧ Below w.heap.size w w' := put_fit8 s n w hn0 hn hs
set_option maxHeartbeats 4000000 in
theorem order_walk8 (s : ByteArray) (a b wide : Int) (w : World) (hs : s.size ≤ 140737488351232) (ha : 0 ≤ a) (ha' : a < 18446744073709551616) (hb : 0 ≤ b) (hb' : b < 18446744073709551616) (hw : 0 ≤ wide) (hw' : wide < 256) (hj : wide % 8 = 7) :
    Calls Try.prog 7 #[.string s, .agg #[.int .u64 a, .int .u64 b], .int .u8 wide] w fun e w' => e = .returned (.bool true) ∧ Below w.heap.size w w' := by
  obtain ⟨X, hX⟩ : ∃ X, X = a := ⟨_, rfl⟩
  obtain ⟨Y, hY⟩ : ∃ Y, Y = b := ⟨_, rfl⟩
  subst hX
  subst hY
  have hX0 : 0 ≤ X := by omega
  have hX1 : X < 18446744073709551616 := by omega
  have hY0 : 0 ≤ Y := by omega
  have hY1 : Y < 18446744073709551616 := by omega
  have LX : X.toNat < 256 ^ 8 := by show _ < 18446744073709551616; omega
  have LY : Y.toNat < 256 ^ 8 := by show _ < 18446744073709551616; omega
  have HX := hide LX
  have HY := hide LY
  have f1 := putN_size s X 8
  have f2 := putN_size s Y 8
  have f3 := putN_head s X 8
  have f4 := putN_less s X Y 8 hX0 hY0 LX LY
  have f5 := putN_same s X Y 8 hX0 hY0 LX LY
  clear LX LY
  have Z1 : IntKind.i64.wrap ((s.size : Int) + 1) = (s.size : Int) + 1 := wrap64 (by omega) (by omega)
  have Z2 : IntKind.i64.wrap ((s.size : Int) + 8) = (s.size : Int) + 8 := wrap64 (by omega) (by omega)
  go_enter Try.func7, Try.ntmps7
  go_wp2
  go_quiet (fail)
  go_wp2_with (first
    | (go_at_call 14; refine (works_any _).mono ?_; rintro e w1 ⟨rfl, hb1⟩)
    | (go_at_call_of 28 X; refine (fit8 s X _ hX0 hX1 hs).mono ?_; rintro e w2 ⟨rfl, hb2⟩)
    | (go_at_call_of 28 Y; refine (fit8 s Y _ hY0 hY1 hs).mono ?_; rintro e w3 ⟨rfl, hb3⟩)
    | (go_at_call 29; (with_reducible refine (got_none s X 8 8 ?_ _ hs ?_).mono ?_); decide; decide; rintro e w4 ⟨rfl, rfl⟩)
    | (go_at_call 29; (with_reducible refine (got_back s X 8 8 ?_ _ hs ?_ ?_ hX0 HX.out).mono ?_); decide; decide; decide; rintro e w5 ⟨rfl, rfl⟩))
  all_goals go_ret
  all_goals exact ⟨by simp, order_below hb1 hb2 hb3⟩

theorem order_any (s : ByteArray) (a b wide : Int) (w : World) (hs : s.size ≤ 140737488351232) (ha : 0 ≤ a) (ha' : a < 18446744073709551616) (hb : 0 ≤ b) (hb' : b < 18446744073709551616) (hw : 0 ≤ wide) (hw' : wide < 256) :
    Calls Try.prog 7 #[.string s, .agg #[.int .u64 a, .int .u64 b], .int .u8 wide] w fun e w' => e = .returned (.bool true) ∧ Below w.heap.size w w' := by
  have h : wide % 8 = 0 ∨ wide % 8 = 1 ∨ wide % 8 = 2 ∨ wide % 8 = 3 ∨ wide % 8 = 4 ∨ wide % 8 = 5 ∨ wide % 8 = 6 ∨ wide % 8 = 7 := by omega
  rcases h with h | h | h | h | h | h | h | h
  · exact order_walk1 s a b wide w hs ha ha' hb hb' hw hw' h
  · exact order_walk2 s a b wide w hs ha ha' hb hb' hw hw' h
  · exact order_walk3 s a b wide w hs ha ha' hb hb' hw hw' h
  · exact order_walk4 s a b wide w hs ha ha' hb hb' hw hw' h
  · exact order_walk5 s a b wide w hs ha ha' hb hb' hw hw' h
  · exact order_walk6 s a b wide w hs ha ha' hb hb' hw hw' h
  · exact order_walk7 s a b wide w hs ha ha' hb hb' hw hw' h
  · exact order_walk8 s a b wide w hs ha ha' hb hb' hw hw' h
end Go.Proofs.Ytchjfipgipikpaa
