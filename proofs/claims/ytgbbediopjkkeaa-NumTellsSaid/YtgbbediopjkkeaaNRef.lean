/- Layer 1, the document's numbers by sign and magnitude: what Of, Neg, Fits, carry, less, Add and Mul answer: the walks. Conditions: magnitudes of 64 bits. -/
import Derived.Test.YtgbbediopjkkeaaChecked
import Derived.Test.YtgbbediopjkkeaaNPlain
import Derived.WalkKit
import Derived.WalkLawsBesides
import Derived.BigQuiet
import Derived.Lib.Hide
import Derived.Shelf.Abstract
import Derived.RangeFuncBox
import Derived.Laws.ResultCell
import Derived.LoopTactic
namespace Go.Proofs.Ytgbbediopjkkeaa
open Go.RowKit Go.BigFrame Go.Shelf
set_option maxRecDepth 20000

/-- A number by its sign and magnitude, as the document lays it: four parts of 32 bits, the lowest first. -/
def wide4 (s : Bool) (a b c d : Nat) : Value := .agg #[.bool s, .int .u64 (a : Int), .int .u64 (b : Int), .int .u64 (c : Int), .int .u64 (d : Int)]
def wide (s : Bool) (x : Nat) : Value := wide4 s (x % 4294967296) (x / 4294967296 % 4294967296) (x / 18446744073709551616 % 4294967296) (x / 79228162514264337593543950336 % 4294967296)

theorem wide_small (s : Bool) (x : Nat) (h : x ≤ 9223372036854775808) : wide s x = .agg #[.bool s, .int .u64 ((x : Int) % 4294967296), .int .u64 ((x : Int) / 4294967296), .int .u64 0, .int .u64 0] := by
  unfold wide wide4
  rw [show x / 4294967296 % 4294967296 = x / 4294967296 from by omega, show x / 18446744073709551616 % 4294967296 = 0 from by omega, show x / 79228162514264337593543950336 % 4294967296 = 0 from by omega]
  rfl

theorem of_any (n : Int) (w : World) (h : -9223372036854775808 ≤ n) (h' : n ≤ 9223372036854775807) :
    Calls Try.prog 13 #[.int .i64 n] w fun e w' => e = .returned (wide (decide (n < 0)) n.natAbs) ∧ Below w.heap.size w w' := by
  by_cases hn : n < 0
  · obtain ⟨m, hm⟩ : ∃ m : Nat, n.natAbs = m := ⟨_, rfl⟩
    have hu : IntKind.u64.wrap (-IntKind.u64.wrap n) = (m : Int) := by simp only [IntKind.wrap_u64]; omega
    have hb : m ≤ 9223372036854775808 := by omega
    have hd : decide (n < 0) = true := by simp [hn]
    rw [hd, hm, wide_small _ _ hb]
    clear hm hd
    go_enter Try.func13, Try.ntmps13
    go_wp2
    refine bodyPost_ret (v := .agg #[.bool true, .int .u64 ((m : Int) % 4294967296), .int .u64 ((m : Int) / 4294967296), .int .u64 0, .int .u64 0]) (by simp [results, Try.results13, go_sem]) rfl ⟨rfl, ?_⟩
    exact ((Below.refl _ w).alloc (Nat.le_refl _) _).alloc (by simp) _
  · obtain ⟨m, rfl⟩ := Int.eq_ofNat_of_zero_le (show 0 ≤ n by omega)
    have hb : m ≤ 9223372036854775808 := by omega
    have hd : decide ((m : Int) < 0) = false := by simp
    rw [hd, Int.natAbs_natCast, wide_small _ _ hb]
    clear hd
    go_enter Try.func13, Try.ntmps13
    go_wp2
    refine bodyPost_ret (v := .agg #[.bool false, .int .u64 ((m : Int) % 4294967296), .int .u64 ((m : Int) / 4294967296), .int .u64 0, .int .u64 0]) (by simp [results, Try.results13, go_sem]) rfl ⟨rfl, ?_⟩
    exact ((Below.refl _ w).alloc (Nat.le_refl _) _).alloc (by simp) _

theorem neg_any (s : Bool) (x : Nat) (w : World) :
    Calls Try.prog 18 #[wide s x] w fun e w' => e = .returned (wide (!s) x) ∧ Below w.heap.size w w' := by
  unfold wide
  generalize x % 4294967296 = a, x / 4294967296 % 4294967296 = b, x / 18446744073709551616 % 4294967296 = c, x / 79228162514264337593543950336 % 4294967296 = d
  unfold wide4
  go_enter Try.func18, Try.ntmps18
  go_wp2
  refine bodyPost_ret (v := .agg #[.bool (!s), .int .u64 (a : Int), .int .u64 (b : Int), .int .u64 (c : Int), .int .u64 (d : Int)]) (by simp [results, Try.results18, go_sem]) rfl ⟨rfl, ?_⟩
  exact ((Below.refl _ w).alloc (Nat.le_refl _) _).alloc (by simp) _

theorem ret2_eq {x y : Int} {b : Bool} (h : x = y) : Ending.returned (.tuple #[.int .i64 x, .bool b]) = Ending.returned (.tuple #[.int .i64 y, .bool b]) := by rw [h]
theorem fits_any (s : Bool) (x : Nat) (w : World) (hx : x < 340282366920938463463374607431768211456) :
    Calls Try.prog 15 #[wide s x] w fun e w' => e = .returned (.tuple #[.int .i64 (cut (sgn s x)), .bool (fitsB (sgn s x))]) ∧ Below w.heap.size w w' := by
  by_cases hbig : 18446744073709551616 ≤ x
  · obtain ⟨e1, e2⟩ := sgn_no (s := s) hbig
    rw [e1, e2]
    have hcd : 0 < x / 18446744073709551616 % 4294967296 ∨ 0 < x / 79228162514264337593543950336 % 4294967296 := by omega
    clear e1 e2
    unfold wide
    generalize x % 4294967296 = a, x / 4294967296 % 4294967296 = b, x / 18446744073709551616 % 4294967296 = c, x / 79228162514264337593543950336 % 4294967296 = d at hcd ⊢
    unfold wide4
    clear hbig hx
    by_cases hc : 0 < c
    · go_enter Try.func15, Try.ntmps15
      go_wp2
      all_goals (go_ret2; exact ⟨rfl, (Below.refl _ w).alloc (Nat.le_refl _) _⟩)
    · have hd : 0 < d := by omega
      clear hcd
      go_enter Try.func15, Try.ntmps15
      go_wp2
      all_goals (go_ret2; exact ⟨rfl, (Below.refl _ w).alloc (Nat.le_refl _) _⟩)
  · obtain ⟨a, ea⟩ : ∃ a, x % 4294967296 = a := ⟨_, rfl⟩
    obtain ⟨b, eb⟩ : ∃ b, x / 4294967296 = b := ⟨_, rfl⟩
    have ha : a < 4294967296 := by omega
    have hb : b < 4294967296 := by omega
    obtain rfl : x = a + b * 4294967296 := by omega
    have ew : wide s (a + b * 4294967296) = .agg #[.bool s, .int .u64 (a : Int), .int .u64 (b : Int), .int .u64 0, .int .u64 0] := by
      unfold wide wide4
      rw [show (a + b * 4294967296) / 4294967296 % 4294967296 = b from by omega, show (a + b * 4294967296) / 18446744073709551616 % 4294967296 = 0 from by omega, show (a + b * 4294967296) / 79228162514264337593543950336 % 4294967296 = 0 from by omega, show (a + b * 4294967296) % 4294967296 = a from by omega]
      rfl
    rw [ew]
    clear ew ea eb hx
    cases s with
    | false =>
      by_cases hs : a + b * 4294967296 < 9223372036854775808
      · obtain ⟨e1, e2⟩ := sgn_pos hs
        rw [e1, e2]
        clear e1 e2 hbig
        have hs' : (a : Int) + (b : Int) * 4294967296 < 9223372036854775808 := by omega
        clear hs
        go_enter Try.func15, Try.ntmps15
        go_wp2
        all_goals go_ret2
        all_goals refine ⟨ret2_eq ?_, (Below.refl _ w).alloc (Nat.le_refl _) _⟩
        all_goals first | omega | (unfold wrap64; simp only [IntKind.wrap_u64]; omega) | (simp only [IntKind.wrap_u64]; omega)
      · obtain ⟨e1, e2⟩ := sgn_over (x := a + b * 4294967296) (by omega)
        rw [e1, e2]
        clear e1 e2 hbig
        have hs' : ¬ (a : Int) + (b : Int) * 4294967296 < 9223372036854775808 := by omega
        have hz : ((a : Int) + (b : Int) * 4294967296 == 0) = false := by rw [beq_eq_false_iff_ne]; omega
        clear hs
        go_enter Try.func15, Try.ntmps15
        go_wp2
        all_goals go_ret2
        all_goals refine ⟨ret2_eq ?_, (Below.refl _ w).alloc (Nat.le_refl _) _⟩
        all_goals first | omega | (unfold wrap64; simp only [IntKind.wrap_u64]; omega) | (simp only [IntKind.wrap_u64]; omega)
    | true =>
      by_cases hs : a + b * 4294967296 ≤ 9223372036854775808
      · obtain ⟨e1, e2⟩ := sgn_negs hs
        rw [e1, e2]
        clear e1 e2 hbig
        have hs' : (a : Int) + (b : Int) * 4294967296 ≤ 9223372036854775808 := by omega
        clear hs
        go_enter Try.func15, Try.ntmps15
        go_wp2
        all_goals go_ret2
        all_goals refine ⟨ret2_eq ?_, (Below.refl _ w).alloc (Nat.le_refl _) _⟩
        all_goals first | omega | (unfold wrap64; simp only [IntKind.wrap_u64]; omega) | (simp only [IntKind.wrap_u64]; omega)
      · obtain ⟨e1, e2⟩ := sgn_under (x := a + b * 4294967296) (by omega)
        rw [e1, e2]
        clear e1 e2 hbig
        have hs' : (9223372036854775808 : Int) < (a : Int) + (b : Int) * 4294967296 := by omega
        clear hs
        go_enter Try.func15, Try.ntmps15
        go_wp2
        all_goals go_ret2
        all_goals refine ⟨ret2_eq ?_, (Below.refl _ w).alloc (Nat.le_refl _) _⟩
        all_goals first | omega | (unfold wrap64; simp only [IntKind.wrap_u64]; omega) | (simp only [IntKind.wrap_u64]; omega)
end Go.Proofs.Ytgbbediopjkkeaa
