/- Layer 1, plain laws: whether a number fits 64 bits, and numbers by their sign and their magnitude. No program in sight. -/
import Derived.WalkKit
namespace Go.Proofs.Ytgbbediopjkkeaa

def fitsB (z : Int) : Bool := decide (-9223372036854775808 ≤ z) && decide (z ≤ 9223372036854775807)
def cut (z : Int) : Int := if fitsB z = true then z else 0
def sgn (s : Bool) (x : Nat) : Int := if s then -(x : Int) else x
def addS (s : Bool) (x : Nat) (t : Bool) (y : Nat) : Bool := if s = t then s else if x < y then t else s
def addM (s : Bool) (x : Nat) (t : Bool) (y : Nat) : Nat := if s = t then x + y else if x < y then y - x else x - y

theorem fits_yes {z : Int} (h : -9223372036854775808 ≤ z) (h' : z ≤ 9223372036854775807) : fitsB z = true ∧ cut z = z := by
  have : fitsB z = true := by unfold fitsB; simp; omega
  exact ⟨this, by simp [cut, this]⟩
theorem fits_not {z : Int} (h : z < -9223372036854775808 ∨ 9223372036854775807 < z) : fitsB z = false ∧ cut z = 0 := by
  have : fitsB z = false := by unfold fitsB; simp; omega
  exact ⟨this, by simp [cut, this]⟩
theorem fits_of {z : Int} (h : fitsB z = true) : -9223372036854775808 ≤ z ∧ z ≤ 9223372036854775807 := by
  unfold fitsB at h; simpa using h
theorem cut_in (z : Int) : -9223372036854775808 ≤ cut z ∧ cut z ≤ 9223372036854775807 := by
  unfold cut; split
  · exact fits_of ‹_›
  · omega

theorem sgn_add (s : Bool) (x : Nat) (t : Bool) (y : Nat) : sgn (addS s x t y) (addM s x t y) = sgn s x + sgn t y := by
  unfold sgn addS addM
  cases s <;> cases t <;> by_cases h : x < y <;> simp [h] <;> omega
theorem addM_lt {s : Bool} {x : Nat} {t : Bool} {y : Nat} (hx : x < 18446744073709551616) (hy : y < 18446744073709551616) : addM s x t y < 36893488147419103232 := by
  unfold addM; split
  · omega
  · split <;> omega
theorem sgn_neg (s : Bool) (x : Nat) : sgn (!s) x = - sgn s x := by cases s <;> simp [sgn]
theorem sgn_mul (s : Bool) (x : Nat) (t : Bool) (y : Nat) : sgn (s != t) (x * y) = sgn s x * sgn t y := by
  cases s <;> cases t <;> simp [sgn, Int.neg_mul, Int.mul_neg]
theorem sgn_of (n : Int) : sgn (decide (n < 0)) n.natAbs = n := by
  unfold sgn; split <;> simp_all <;> omega
theorem sgn_no {s : Bool} {x : Nat} (h : 18446744073709551616 ≤ x) : fitsB (sgn s x) = false ∧ cut (sgn s x) = 0 :=
  fits_not (by unfold sgn; cases s <;> simp <;> omega)
theorem sgn_pos {x : Nat} (h : x < 9223372036854775808) : fitsB (sgn false x) = true ∧ cut (sgn false x) = x :=
  fits_yes (by unfold sgn; simp <;> omega) (by unfold sgn; simp <;> omega)
theorem sgn_negs {x : Nat} (h : x ≤ 9223372036854775808) : fitsB (sgn true x) = true ∧ cut (sgn true x) = -(x : Int) :=
  fits_yes (by unfold sgn; simp <;> omega) (by unfold sgn; simp <;> omega)
theorem sgn_over {x : Nat} (h : 9223372036854775808 ≤ x) : fitsB (sgn false x) = false ∧ cut (sgn false x) = 0 :=
  fits_not (by simp [sgn]; omega)
theorem sgn_under {x : Nat} (h : 9223372036854775808 < x) : fitsB (sgn true x) = false ∧ cut (sgn true x) = 0 :=
  fits_not (by simp [sgn]; omega)
end Go.Proofs.Ytgbbediopjkkeaa
