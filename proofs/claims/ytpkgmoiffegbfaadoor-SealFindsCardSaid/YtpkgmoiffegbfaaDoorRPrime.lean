/- The document's constants of sums, in plain Lean: the first primes, and the fractions of their roots. No condition. -/
import Derived.Test.YtpkgmoiffegbfaaDoorRLaw
import Derived.KernelRfl
namespace Go.Proofs.YtpkgmoiffegbfaaDoor
open Go.RowKit
set_option maxRecDepth 100000

/-- None of 2 .. k + 1 divides n. -/
def noDiv (n : Nat) : Nat → Bool
  | 0 => true
  | k + 1 => noDiv n k && !(n % (k + 2) == 0)
theorem noDiv_le (n : Nat) : ∀ k j, j ≤ k → noDiv n k = true → noDiv n j = true
  | 0, j, h, h2 => by obtain rfl : j = 0 := by omega
                      exact h2
  | k + 1, j, h, h2 => by
    by_cases e : j = k + 1
    · rw [e]; exact h2
    · rw [noDiv, Bool.and_eq_true] at h2
      exact noDiv_le n k j (by omega) h2.1
theorem noDiv_hit (n k m : Nat) (h : k < m) (h0 : n % (k + 2) = 0) : noDiv n m = false := by
  cases hm : noDiv n m with
  | false => rfl
  | true =>
    have := noDiv_le n m (k + 1) h hm
    rw [noDiv, h0] at this
    simp at this
/-- Is it one (of numbers from 2)? -/
def primeN (n : Nat) : Bool := noDiv n (n - 2)
/-- The primes of 2 .. k + 1. -/
def prs : Nat → List Nat
  | 0 => []
  | k + 1 => if primeN (k + 2) then prs k ++ [k + 2] else prs k
theorem prs_more (k : Nat) : ∀ d, ∃ l, prs (k + d) = prs k ++ l
  | 0 => ⟨[], by simp⟩
  | d + 1 => by
    obtain ⟨l, hl⟩ := prs_more k d
    rw [← Nat.add_assoc, prs]
    split
    · exact ⟨l ++ [k + d + 2], by rw [hl, List.append_assoc]⟩
    · exact ⟨l, hl⟩
theorem prs_bound : ∀ k x, x ∈ prs k → 2 ≤ x ∧ x < k + 2
  | 0, x, h => by cases h
  | k + 1, x, h => by
    rw [prs] at h
    split at h
    · rcases List.mem_append.1 h with h | h
      · have := prs_bound k x h; omega
      · rw [List.mem_singleton] at h; omega
    · have := prs_bound k x h; omega
/-- The first ones, so many. -/
def firstP (many : Nat) : List Nat := (prs 398).take many
theorem firstP_full (k many : Nat) (hk : k ≤ 398) (h : (prs k).length = many) : prs k = firstP many := by
  obtain ⟨l, hl⟩ := prs_more k (398 - k)
  rw [show k + (398 - k) = 398 by omega] at hl
  rw [firstP, hl, ← h, List.take_left]
theorem firstP_end (many : Nat) (h : (prs 398).length ≤ many) : prs 398 = firstP many := by rw [firstP, List.take_of_length_le h]
/-- Is its square, or its cube, at most that? -/
def belowN (n p : Nat) (cube : Bool) : Bool :=
  if cube then decide (n * n / 18446744073709551616 * n + n * n % 18446744073709551616 * n / 18446744073709551616 < p * 4294967296) || (n * n / 18446744073709551616 * n + n * n % 18446744073709551616 * n / 18446744073709551616 == p * 4294967296 && n * n % 18446744073709551616 * n % 18446744073709551616 == 0)
  else decide (n * n / 18446744073709551616 < p) || (n * n / 18446744073709551616 == p && n * n % 18446744073709551616 == 0)
/-- The fraction of a root, behind so many steps. -/
def frac (p : Nat) (cube : Bool) : Nat → Nat
  | 0 => 0
  | k + 1 => if belowN (frac p cube k ||| 2 ^ (35 - k)) p cube then frac p cube k ||| 2 ^ (35 - k) else frac p cube k
theorem frac_lt (p : Nat) (cube : Bool) : ∀ k, frac p cube k < 2 ^ 36
  | 0 => by rw [frac]; decide
  | k + 1 => by
    have h := frac_lt p cube k
    rw [frac]
    split
    · exact Nat.or_lt_two_pow h (Nat.pow_lt_pow_right (by decide) (by omega))
    · exact h
def fracW (p : Nat) (cube : Bool) : W := BitVec.ofNat 32 (frac p cube 36)
theorem fractions_first : (firstP 8).map (fracW · false) = F0.list := by kernel_rfl
theorem fractions_rounds : (firstP 64).map (fracW · true) = K64 := by kernel_rfl
end Go.Proofs.YtpkgmoiffegbfaaDoor
