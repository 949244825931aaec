/- Layer 1: what Mul answers: the walks through its text, its closure's, and that of math/bits.Mul64. No condition but that the numbers are of 64 bits. -/
import Derived.Test.YtgbbediopjkkeaaNAdd
import Derived.Lib.Mul64
import Derived.Laws.Bits64b
import Derived.Deep.RegionWith
namespace Go.Proofs.Ytgbbediopjkkeaa
open Go.RowKit Go.BigFrame Go.Shelf
set_option maxRecDepth 20000

theorem m_mask (a : Nat) (ha : a < 18446744073709551616) : bits .and .u64 (a : Int) 4294967295 = ((a % 4294967296 : Nat) : Int) := by
  have h := bits_and_u64_nat a 4294967295 ha (by omega)
  have e : a &&& 4294967295 = a % 4294967296 := Nat.and_two_pow_sub_one_eq_mod a 32
  rw [e] at h
  exact h
theorem m_div (a : Nat) : (a : Int) / 4294967296 = ((a / 4294967296 : Nat) : Int) := by omega
theorem m_mul (a b : Nat) : (a : Int) * (b : Int) = ((a * b : Nat) : Int) := (Int.natCast_mul a b).symm
theorem m_add (a b : Nat) : (a : Int) + (b : Int) = ((a + b : Nat) : Int) := (Int.natCast_add a b).symm
theorem m_wrap (a : Nat) (ha : a < 18446744073709551616) : IntKind.u64.wrap (a : Int) = (a : Int) := by rw [IntKind.wrap_u64]; omega
theorem m_wrapM (a : Nat) : IntKind.u64.wrap (a : Int) = ((a % 18446744073709551616 : Nat) : Int) := by rw [IntKind.wrap_u64]; omega

set_option maxHeartbeats 1000000 in
theorem mul64_any (x y : Nat) (hx : x < 18446744073709551616) (hy : y < 18446744073709551616) (w : World) :
    Calls Try.prog 30 #[.int .u64 x, .int .u64 y] w fun e w' => e = .returned (.tuple #[.int .u64 ((x * y / 18446744073709551616 : Nat) : Int), .int .u64 ((x * y % 18446744073709551616 : Nat) : Int)]) ∧ w = w' := by
  obtain ⟨bd, bt, bw, hhi⟩ := Lib.mul64_hi x y hx hy
  have ba := Lib.half_mul_le (a := x / 4294967296) (b := y / 4294967296) (by omega) (by omega)
  have bb := Lib.half_mul_le (a := x / 4294967296) (b := y % 4294967296) (by omega) (by omega)
  have bc := Lib.half_mul_le (a := x % 4294967296) (b := y / 4294967296) (by omega) (by omega)
  have ba' : x / 4294967296 * (y / 4294967296) < 18446744073709551616 := by omega
  have bb' : x / 4294967296 * (y % 4294967296) < 18446744073709551616 := by omega
  have bc' : x % 4294967296 * (y / 4294967296) < 18446744073709551616 := by omega
  have bh1 : x / 4294967296 * (y / 4294967296) + (x / 4294967296 * (y % 4294967296) + x % 4294967296 * (y % 4294967296) / 4294967296) / 4294967296 < 18446744073709551616 := by omega
  have bh : x / 4294967296 * (y / 4294967296) + (x / 4294967296 * (y % 4294967296) + x % 4294967296 * (y % 4294967296) / 4294967296) / 4294967296 + ((x / 4294967296 * (y % 4294967296) + x % 4294967296 * (y % 4294967296) / 4294967296) % 4294967296 + x % 4294967296 * (y / 4294967296)) / 4294967296 < 18446744073709551616 := by omega
  go_enter Try.func30, Try.ntmps30
  go_wp2
  simp only [m_mask x hx, m_mask y hy, m_div, m_mul, m_add, m_wrap _ bd, m_wrap _ bb', m_wrap _ bt, m_mask _ bt, m_wrap _ bc', m_wrap _ bw, m_wrap _ ba', m_wrap _ bh1, m_wrap _ bh, m_wrapM (x * y)]
  rw [hhi]
  go_ret2
  exact ⟨rfl, rfl⟩

/-- How great a number is. -/
theorem size_any (n : Int) (w : World) (h : -9223372036854775808 ≤ n) (h' : n ≤ 9223372036854775807) :
    Calls Try.prog 31 #[.int .i64 n] w fun e w' => e = .returned (.int .u64 (n.natAbs : Int)) ∧ w = w' := by
  by_cases hn : n < 0
  · have e : ∀ z : Int, z = (n.natAbs : Int) → Ending.returned (.int .u64 z) = Ending.returned (.int .u64 (n.natAbs : Int)) := fun z h => by rw [h]
    go_enter Try.func31, Try.ntmps31
    go_wp2
    go_ret
    refine ⟨e _ ?_, rfl⟩
    first | omega | (simp only [IntKind.wrap_u64]; omega)
  · have e : ∀ z : Int, z = (n.natAbs : Int) → Ending.returned (.int .u64 z) = Ending.returned (.int .u64 (n.natAbs : Int)) := fun z h => by rw [h]
    go_enter Try.func31, Try.ntmps31
    go_wp2
    go_ret
    refine ⟨e _ ?_, rfl⟩
    first | omega | (simp only [IntKind.wrap_u64]; omega)

/-- Mul's closure. -/
theorem mul1_any (hi lo most : Int) (ph pl pm : Addr) (r : Bool) (w : World) (h1 : w.cell? ph = some (.int .u64 hi)) (h2 : w.cell? pl = some (.int .u64 lo)) (h3 : w.cell? pm = some (.int .u64 most))
    (hr : ((hi == 0) && decide (lo ≤ most)) = r) :
    Calls Try.prog 32 #[.pointer (some ph), .pointer (some pl), .pointer (some pm)] w fun e w' => e = .returned (.bool r) ∧ w = w' := by
  have HR := Lib.hid hr
  clear hr
  go_enter Try.func32, Try.ntmps32
  go_wp2
  all_goals go_ret
  all_goals rename_i hi0
  · exact ⟨congrArg (fun r => Ending.returned (.bool r)) (show decide (lo ≤ most) = r by rw [← HR.out]; simp [hi0]), rfl⟩
  · exact ⟨congrArg (fun r => Ending.returned (.bool r)) (show false = r by rw [← HR.out]; simp [hi0]), rfl⟩
theorem enters_mul1 : ∀ args w, (callFunc 32 args).run Try.prog w = .ok (.enter 32 args) w := enters_of Try.func32 (by kernel_rfl) rfl

theorem told_any (n : Int) (f : Nat) (cap : Array Value) (r : Bool) (w : World) (hf : ∀ args w, (callFunc f args).run Try.prog w = .ok (.enter f args) w) (h : Calls Try.prog f cap w fun e w' => e = .returned (.bool r) ∧ w = w') :
    Calls Try.prog 25 #[.int .i64 n, .func (.func f) #[] cap] w fun e w' => e = .returned (.tuple #[.int .i64 (if r = true then n else 0), .bool r]) ∧ w = w' := by
  cases r
  · exact told_no n f cap w hf h
  · exact told_yes n f cap w hf h


theorem mul_same (a b v : Int) (P : Nat) (r : Bool) (w : World) (ha : -9223372036854775808 ≤ a) (ha' : a ≤ 9223372036854775807) (hb : -9223372036854775808 ≤ b) (hb' : b ≤ 9223372036854775807)
    (hd : (!decide (a < 0) == decide (b < 0)) = false) (hP : a.natAbs * b.natAbs = P) (hv : wrap64 (a * b) = v) (hr : (((P : Int) / 18446744073709551616 == 0) && decide ((P : Int) % 18446744073709551616 ≤ 9223372036854775807)) = r) :
    Calls Try.prog 19 #[.int .i64 a, .int .i64 b] w fun e w' => e = .returned (.tuple #[.int .i64 (if r = true then v else 0), .bool r]) ∧ Below w.heap.size w w' := by
  have HP := Lib.hid hP
  have HV := Lib.hid hv
  have HR := Lib.hid hr
  have HA : a.natAbs < 18446744073709551616 := by omega
  have HB : b.natAbs < 18446744073709551616 := by omega
  clear hP hv hr
  go_enter Try.func19, Try.ntmps19
  go_wp2_with (first
    | (go_at_call_of 31 a; refine (size_any _ _ ha ha').mono ?_; rintro e w1 ⟨rfl, rfl⟩)
    | (go_at_call 31; refine (size_any _ _ hb hb').mono ?_; rintro e w1 ⟨rfl, rfl⟩)
    | (go_at_call 30; refine (mul64_any a.natAbs b.natAbs HA HB _).mono ?_; rintro e w1 ⟨rfl, rfl⟩; rw [HP.out]))
  rw [HV.out]
  refine (told_any _ 32 _ r _ enters_mul1 (mul1_any ((P : Int) / 18446744073709551616) ((P : Int) % 18446744073709551616) 9223372036854775807 _ _ _ r _ ?_ ?_ ?_ HR.out)).mono ?_
  · exact (boxes3 w _ _ _ _ _ _).1
  · exact (boxes3 w _ _ _ _ _ _).2.1
  · exact (boxes3 w _ _ _ _ _ _).2.2
  · rintro e w1 ⟨rfl, rfl⟩
    go_wp2
    all_goals (go_ret2; exact ⟨rfl, ((((Below.refl _ w).alloc (Nat.le_refl _) _).alloc (by simp) _).alloc (by simp; omega) _)⟩)

theorem mul_diff (a b v : Int) (P : Nat) (r : Bool) (w : World) (ha : -9223372036854775808 ≤ a) (ha' : a ≤ 9223372036854775807) (hb : -9223372036854775808 ≤ b) (hb' : b ≤ 9223372036854775807)
    (hd : (!decide (a < 0) == decide (b < 0)) = true) (hP : a.natAbs * b.natAbs = P) (hv : wrap64 (a * b) = v) (hr : (((P : Int) / 18446744073709551616 == 0) && decide ((P : Int) % 18446744073709551616 ≤ 9223372036854775808)) = r) :
    Calls Try.prog 19 #[.int .i64 a, .int .i64 b] w fun e w' => e = .returned (.tuple #[.int .i64 (if r = true then v else 0), .bool r]) ∧ Below w.heap.size w w' := by
  have HP := Lib.hid hP
  have HV := Lib.hid hv
  have HR := Lib.hid hr
  have HA : a.natAbs < 18446744073709551616 := by omega
  have HB : b.natAbs < 18446744073709551616 := by omega
  clear hP hv hr
  go_enter Try.func19, Try.ntmps19
  go_wp2_with (first
    | (go_at_call_of 31 a; refine (size_any _ _ ha ha').mono ?_; rintro e w1 ⟨rfl, rfl⟩)
    | (go_at_call 31; refine (size_any _ _ hb hb').mono ?_; rintro e w1 ⟨rfl, rfl⟩)
    | (go_at_call 30; refine (mul64_any a.natAbs b.natAbs HA HB _).mono ?_; rintro e w1 ⟨rfl, rfl⟩; rw [HP.out]))
  rw [HV.out]
  refine (told_any _ 32 _ r _ enters_mul1 (mul1_any ((P : Int) / 18446744073709551616) ((P : Int) % 18446744073709551616) 9223372036854775808 _ _ _ r _ ?_ ?_ ?_ HR.out)).mono ?_
  · exact (boxes3 w _ _ _ _ _ _).1
  · exact (boxes3 w _ _ _ _ _ _).2.1
  · exact (boxes3 w _ _ _ _ _ _).2.2
  · rintro e w1 ⟨rfl, rfl⟩
    go_wp2
    all_goals (go_ret2; exact ⟨rfl, ((((Below.refl _ w).alloc (Nat.le_refl _) _).alloc (by simp) _).alloc (by simp; omega) _)⟩)

theorem wrap_fits {z : Int} (h : fitsB z = true) : wrap64 z = z := by
  have := fits_of h
  unfold wrap64
  omega
theorem if_cut {z v : Int} {r : Bool} (hv : wrap64 z = v) (hr : r = fitsB z) : (if r = true then v else 0) = cut z := by
  subst hr
  unfold cut
  split
  · rw [← hv, wrap_fits ‹_›]
  · rfl

theorem mul_any (a b : Int) (w : World) (ha : -9223372036854775808 ≤ a) (ha' : a ≤ 9223372036854775807) (hb : -9223372036854775808 ≤ b) (hb' : b ≤ 9223372036854775807) :
    Calls Try.prog 19 #[.int .i64 a, .int .i64 b] w fun e w' => e = .returned (.tuple #[.int .i64 (cut (a * b)), .bool (fitsB (a * b))]) ∧ Below w.heap.size w w' := by
  have hN : (a * b).natAbs = a.natAbs * b.natAbs := Int.natAbs_mul a b
  by_cases hd : (!decide (a < 0) == decide (b < 0)) = false
  · have hz : 0 ≤ a * b := by
      by_cases h1 : a < 0
      · have h2 : b < 0 := by simpa [h1] using hd
        exact Int.mul_nonneg_of_nonpos_of_nonpos (by omega) (by omega)
      · have h2 : ¬ b < 0 := by intro h2; simp [h1, h2] at hd
        exact Int.mul_nonneg (by omega) (by omega)
    generalize hzz : a * b = z at hN hz ⊢
    have hr : (((a.natAbs * b.natAbs : Nat) : Int) / 18446744073709551616 == 0 && decide (((a.natAbs * b.natAbs : Nat) : Int) % 18446744073709551616 ≤ 9223372036854775807)) = fitsB z := by
      rw [← hN]
      unfold fitsB
      rw [Bool.eq_iff_iff]
      simp
      omega
    refine (mul_same a b _ _ _ w ha ha' hb hb' hd rfl rfl hr).mono ?_
    rintro e w' ⟨he, hw⟩
    rw [hzz] at he
    rw [if_cut rfl rfl] at he
    exact ⟨he, hw⟩
  · have hd : (!decide (a < 0) == decide (b < 0)) = true := by simpa using hd
    have hz : a * b ≤ 0 := by
      by_cases h1 : a < 0
      · have h2 : ¬ b < 0 := by intro h2; simp [h1, h2] at hd
        exact Int.mul_nonpos_of_nonpos_of_nonneg (by omega) (by omega)
      · have h2 : b < 0 := by simpa [h1] using hd
        exact Int.mul_nonpos_of_nonneg_of_nonpos (by omega) (by omega)
    generalize hzz : a * b = z at hN hz ⊢
    have hr : (((a.natAbs * b.natAbs : Nat) : Int) / 18446744073709551616 == 0 && decide (((a.natAbs * b.natAbs : Nat) : Int) % 18446744073709551616 ≤ 9223372036854775808)) = fitsB z := by
      rw [← hN]
      unfold fitsB
      rw [Bool.eq_iff_iff]
      simp
      omega
    refine (mul_diff a b _ _ _ w ha ha' hb hb' hd rfl rfl hr).mono ?_
    rintro e w' ⟨he, hw⟩
    rw [hzz] at he
    rw [if_cut rfl rfl] at he
    exact ⟨he, hw⟩

end Go.Proofs.Ytgbbediopjkkeaa
