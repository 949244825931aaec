/- Layer 1: what a round of NumTells asks of the program and of the document, by contracts over two numbers. No condition but that the numbers are of 64 bits. -/
import Derived.Test.YtgbbediopjkkeaaNWork
namespace Go.Proofs.Ytgbbediopjkkeaa
open Go.RowKit Go.BigFrame Go.Shelf
set_option maxRecDepth 100000

def Tells (f : Nat) (args : Array Value) (v : Value) : Prop := ∀ w, Calls Try.prog f args w fun e w' => e = .returned v ∧ Below w.heap.size w w'

theorem wide_small' (s : Bool) (x : Nat) (h : x ≤ 9223372036854775808) : ∃ lo hi : Int, wide s x = .agg #[.bool s, .int .u64 lo, .int .u64 hi, .int .u64 0, .int .u64 0] ∧ ∀ t, wide t x = .agg #[.bool t, .int .u64 lo, .int .u64 hi, .int .u64 0, .int .u64 0] :=
  ⟨_, _, wide_small s x h, fun t => wide_small t x h⟩

theorem round_facts (a b : Int) (ha : -9223372036854775808 ≤ a ∧ a ≤ 9223372036854775807) (hb : -9223372036854775808 ≤ b ∧ b ≤ 9223372036854775807) :
    ∃ (s t : Bool) (lo hi lo' hi' : Int) (vA vS vM : Value) (c1 c2 c3 : Int) (b1 b2 b3 : Bool),
      Tells 13 #[.int .i64 a] (.agg #[.bool s, .int .u64 lo, .int .u64 hi, .int .u64 0, .int .u64 0]) ∧
      Tells 13 #[.int .i64 b] (.agg #[.bool t, .int .u64 lo', .int .u64 hi', .int .u64 0, .int .u64 0]) ∧
      Tells 14 #[.int .i64 a, .int .i64 b] (.tuple #[.int .i64 c1, .bool b1]) ∧
      Tells 16 #[.agg #[.bool s, .int .u64 lo, .int .u64 hi, .int .u64 0, .int .u64 0], .agg #[.bool t, .int .u64 lo', .int .u64 hi', .int .u64 0, .int .u64 0]] vA ∧
      Tells 15 #[vA] (.tuple #[.int .i64 c1, .bool b1]) ∧
      Tells 17 #[.int .i64 a, .int .i64 b] (.tuple #[.int .i64 c2, .bool b2]) ∧
      Tells 18 #[.agg #[.bool t, .int .u64 lo', .int .u64 hi', .int .u64 0, .int .u64 0]] (.agg #[.bool (!t), .int .u64 lo', .int .u64 hi', .int .u64 0, .int .u64 0]) ∧
      Tells 16 #[.agg #[.bool s, .int .u64 lo, .int .u64 hi, .int .u64 0, .int .u64 0], .agg #[.bool (!t), .int .u64 lo', .int .u64 hi', .int .u64 0, .int .u64 0]] vS ∧
      Tells 15 #[vS] (.tuple #[.int .i64 c2, .bool b2]) ∧
      Tells 19 #[.int .i64 a, .int .i64 b] (.tuple #[.int .i64 c3, .bool b3]) ∧
      Tells 20 #[.agg #[.bool s, .int .u64 lo, .int .u64 hi, .int .u64 0, .int .u64 0], .agg #[.bool t, .int .u64 lo', .int .u64 hi', .int .u64 0, .int .u64 0]] vM ∧
      Tells 15 #[vM] (.tuple #[.int .i64 c3, .bool b3]) := by
  obtain ⟨lo, hi, e1, e1'⟩ := wide_small' (decide (a < 0)) a.natAbs (by omega)
  obtain ⟨lo', hi', e2, e2'⟩ := wide_small' (decide (b < 0)) b.natAbs (by omega)
  have xa : a.natAbs < 18446744073709551616 := by omega
  have xb : b.natAbs < 18446744073709551616 := by omega
  have sA : sgn (addS (decide (a < 0)) a.natAbs (decide (b < 0)) b.natAbs) (addM (decide (a < 0)) a.natAbs (decide (b < 0)) b.natAbs) = a + b := by rw [sgn_add, sgn_of, sgn_of]
  have sS : sgn (addS (decide (a < 0)) a.natAbs (!decide (b < 0)) b.natAbs) (addM (decide (a < 0)) a.natAbs (!decide (b < 0)) b.natAbs) = a - b := by rw [sgn_add, sgn_neg, sgn_of, sgn_of]; omega
  have sM : sgn (decide (a < 0) != decide (b < 0)) (a.natAbs * b.natAbs) = a * b := by rw [sgn_mul, sgn_of, sgn_of]
  have mA := addM_lt (s := decide (a < 0)) (x := a.natAbs) (t := decide (b < 0)) (y := b.natAbs) xa xb
  have mS := addM_lt (s := decide (a < 0)) (x := a.natAbs) (t := !decide (b < 0)) (y := b.natAbs) xa xb
  have mM : a.natAbs * b.natAbs < 340282366920938463463374607431768211456 := by
    have := Nat.mul_le_mul (show a.natAbs ≤ 9223372036854775808 by omega) (show b.natAbs ≤ 9223372036854775808 by omega)
    omega
  refine ⟨decide (a < 0), decide (b < 0), lo, hi, lo', hi', wide (addS (decide (a < 0)) a.natAbs (decide (b < 0)) b.natAbs) (addM (decide (a < 0)) a.natAbs (decide (b < 0)) b.natAbs), wide (addS (decide (a < 0)) a.natAbs (!decide (b < 0)) b.natAbs) (addM (decide (a < 0)) a.natAbs (!decide (b < 0)) b.natAbs), wide (decide (a < 0) != decide (b < 0)) (a.natAbs * b.natAbs), cut (a + b), cut (a - b), cut (a * b), fitsB (a + b), fitsB (a - b), fitsB (a * b), ?_, ?_, ?_, ?_, ?_, ?_, ?_, ?_, ?_, ?_, ?_, ?_⟩
  · rw [← e1]; exact fun w => of_any a w ha.1 ha.2
  · rw [← e2]; exact fun w => of_any b w hb.1 hb.2
  · exact fun w => add_any a b w ha.1 ha.2 hb.1 hb.2
  · rw [← e1, ← e2]; exact fun w => wadd_any _ _ _ _ w xa xb
  · intro w; have := fits_any (addS (decide (a < 0)) a.natAbs (decide (b < 0)) b.natAbs) _ w (Nat.lt_trans mA (by decide)); rw [sA] at this; exact this
  · exact fun w => sub_any a b w ha.1 ha.2 hb.1 hb.2
  · rw [← e2, ← e2']; exact fun w => neg_any _ _ w
  · rw [← e1, ← e2']; exact fun w => wadd_any _ _ _ _ w xa xb
  · intro w; have := fits_any (addS (decide (a < 0)) a.natAbs (!decide (b < 0)) b.natAbs) _ w (Nat.lt_trans mS (by decide)); rw [sS] at this; exact this
  · exact fun w => mul_any a b w ha.1 ha.2 hb.1 hb.2
  · rw [← e1, ← e2]; exact fun w => wmul_any _ _ _ _ w xa xb
  · intro w; have := fits_any (decide (a < 0) != decide (b < 0)) _ w mM; rw [sM] at this; exact this
end Go.Proofs.Ytgbbediopjkkeaa
