/- Layer 1, the document's numbers: what Mul answers, and Add and Mul by magnitudes: the walks. Conditions: magnitudes of 64 bits. -/
import Derived.Test.YtgbbediopjkkeaaNWide
import Derived.Test.YtgbbediopjkkeaaNMul
namespace Go.Proofs.Ytgbbediopjkkeaa
open Go.RowKit Go.BigFrame Go.Shelf
set_option maxRecDepth 20000

theorem prod_at (a c : Nat) (ha : a < 4294967296) (hc : c < 4294967296) : ∃ p : Nat, a * c = p ∧ IntKind.u64.wrap ((a : Int) * (c : Int)) = (p : Int) ∧ p ≤ 18446744065119617025 := by
  have h := Lib.half_mul_le (a := a) (b := c) (by omega) (by omega)
  refine ⟨a * c, rfl, ?_, h⟩
  rw [m_mul, m_wrap _ (by omega)]

set_option maxHeartbeats 4000000 in
theorem wmul_walk (s t : Bool) (a b c d p q u v : Nat) (w : World) (hp : IntKind.u64.wrap ((a : Int) * (c : Int)) = (p : Int)) (hq : IntKind.u64.wrap ((a : Int) * (d : Int)) = (q : Int)) (hu : IntKind.u64.wrap ((b : Int) * (c : Int)) = (u : Int)) (hv : IntKind.u64.wrap ((b : Int) * (d : Int)) = (v : Int))
    (bp : p ≤ 18446744065119617025) (bq : q ≤ 18446744065119617025) (bu : u ≤ 18446744065119617025) (bv : v ≤ 18446744065119617025) :
    Calls Try.prog 20 #[.agg #[.bool s, .int .u64 (a : Int), .int .u64 (b : Int), .int .u64 0, .int .u64 0], .agg #[.bool t, .int .u64 (c : Int), .int .u64 (d : Int), .int .u64 0, .int .u64 0]] w fun e w' =>
      e = .returned (.agg #[.bool (!(s == t)), .int .u64 ((p : Int) % 4294967296), .int .u64 (((p : Int) / 4294967296 + (q : Int) % 4294967296 + (u : Int) % 4294967296 + (p : Int) % 4294967296 / 4294967296) % 4294967296), .int .u64 (((q : Int) / 4294967296 + (u : Int) / 4294967296 + (v : Int) % 4294967296 + ((p : Int) / 4294967296 + (q : Int) % 4294967296 + (u : Int) % 4294967296 + (p : Int) % 4294967296 / 4294967296) / 4294967296) % 4294967296), .int .u64 ((v : Int) / 4294967296 + ((q : Int) / 4294967296 + (u : Int) / 4294967296 + (v : Int) % 4294967296 + ((p : Int) / 4294967296 + (q : Int) % 4294967296 + (u : Int) % 4294967296 + (p : Int) % 4294967296 / 4294967296) / 4294967296) / 4294967296)]) ∧ Below w.heap.size w w' := by
  go_enter Try.func20, Try.ntmps20
  go_wp2
  refine wp_loop_rounds 3 ?_
  rw [rounds_succ]
  go_wp2
  refine wp_loop_rounds 3 ?_
  iterate 2
    rw [rounds_succ]
    go_wp2
    refine region_tail 9 (by kernel_rfl) (by kernel_rfl) ?_
    simp only [List.take_succ_cons, List.take_zero, List.drop_succ_cons, List.drop_zero]
    iterate 9 (first | go_big_quiet_skip | (go_big_quiet_want; go_big_quiet_op; go_big_quiet_on))
    refine wpQuiet_nil ?_
    go_wp2
  rw [rounds_succ]
  go_wp2
  rw [rounds_succ]
  go_wp2
  refine wp_loop_rounds 3 ?_
  iterate 2
    rw [rounds_succ]
    go_wp2
    refine region_tail 9 (by kernel_rfl) (by kernel_rfl) ?_
    simp only [List.take_succ_cons, List.take_zero, List.drop_succ_cons, List.drop_zero]
    iterate 9 (first | go_big_quiet_skip | (go_big_quiet_want; go_big_quiet_op; go_big_quiet_on))
    refine wpQuiet_nil ?_
    go_wp2
  rw [rounds_succ]
  go_wp2
  rw [rounds_succ]
  go_wp2_with (go_at_call 27; refine (carry_any _ _ _ _ _ ?_ ?_ ?_ ?_ ?_ ?_ ?_ ?_).mono ?_; omega; omega; omega; omega; omega; omega; omega; omega; rintro e w1 ⟨rfl, k, rfl⟩)
  refine bodyPost_ret (v := .agg #[.bool (!(s == t)), .int .u64 ((p : Int) % 4294967296), .int .u64 (((p : Int) / 4294967296 + (q : Int) % 4294967296 + (u : Int) % 4294967296 + (p : Int) % 4294967296 / 4294967296) % 4294967296), .int .u64 (((q : Int) / 4294967296 + (u : Int) / 4294967296 + (v : Int) % 4294967296 + ((p : Int) / 4294967296 + (q : Int) % 4294967296 + (u : Int) % 4294967296 + (p : Int) % 4294967296 / 4294967296) / 4294967296) % 4294967296), .int .u64 ((v : Int) / 4294967296 + ((q : Int) / 4294967296 + (u : Int) / 4294967296 + (v : Int) % 4294967296 + ((p : Int) / 4294967296 + (q : Int) % 4294967296 + (u : Int) % 4294967296 + (p : Int) % 4294967296 / 4294967296) / 4294967296) / 4294967296)]) (by simp [results, Try.results20, go_sem]) rfl ⟨rfl, ?_⟩
  repeat (first | ((with_reducible refine Below.drew ?_)) | ((with_reducible refine below_drewN ?_ _)) | ((with_reducible refine Below.alloc ?_ ?hB _); (case hB => (simp <;> omega))) | ((with_reducible refine Below.setCell ?_ ?hB _); (case hB => (simp <;> omega))))
  exact Below.refl _ _

theorem wide_two (s : Bool) (a b : Nat) (ha : a < 4294967296) (hb : b < 4294967296) : wide s (a + b * 4294967296) = .agg #[.bool s, .int .u64 (a : Int), .int .u64 (b : Int), .int .u64 0, .int .u64 0] := by
  unfold wide wide4
  rw [show (a + b * 4294967296) / 4294967296 % 4294967296 = b from by omega, show (a + b * 4294967296) / 18446744073709551616 % 4294967296 = 0 from by omega, show (a + b * 4294967296) / 79228162514264337593543950336 % 4294967296 = 0 from by omega, show (a + b * 4294967296) % 4294967296 = a from by omega]
  rfl
theorem agg_eq {s : Bool} {x : Nat} {r0 r1 r2 r3 : Int} (h0 : r0 = ((x % 4294967296 : Nat) : Int)) (h1 : r1 = ((x / 4294967296 % 4294967296 : Nat) : Int)) (h2 : r2 = ((x / 18446744073709551616 % 4294967296 : Nat) : Int)) (h3 : r3 = ((x / 79228162514264337593543950336 % 4294967296 : Nat) : Int)) :
    Value.agg #[.bool s, .int .u64 r0, .int .u64 r1, .int .u64 r2, .int .u64 r3] = wide s x := by
  subst h0 h1 h2 h3
  rfl
theorem split_x (x : Nat) (hx : x < 18446744073709551616) : ∃ a b : Nat, a < 4294967296 ∧ b < 4294967296 ∧ x = a + b * 4294967296 :=
  ⟨x % 4294967296, x / 4294967296, by omega, by omega, by omega⟩

theorem wmul_any (s t : Bool) (x y : Nat) (w : World) (hx : x < 18446744073709551616) (hy : y < 18446744073709551616) :
    Calls Try.prog 20 #[wide s x, wide t y] w fun e w' => e = .returned (wide (s != t) (x * y)) ∧ Below w.heap.size w w' := by
  obtain ⟨a, b, ha, hb, rfl⟩ := split_x x hx
  obtain ⟨c, d, hc, hd, rfl⟩ := split_x y hy
  obtain ⟨p, ep, hp, bp⟩ := prod_at a c ha hc
  obtain ⟨q, eq, hq, bq⟩ := prod_at a d ha hd
  obtain ⟨u, eu, hu, bu⟩ := prod_at b c hb hc
  obtain ⟨v, ev, hv, bv⟩ := prod_at b d hb hd
  rw [wide_two s a b ha hb, wide_two t c d hc hd]
  have e : (a + b * 4294967296) * (c + d * 4294967296) = p + (q + u) * 4294967296 + v * 18446744073709551616 := by
    rw [← ep, ← eq, ← eu, ← ev]
    have := Lib.split_mul b a d c 4294967296
    rw [Nat.add_comm a, Nat.add_comm c, this]
    rw [Nat.add_comm (b * c), Nat.add_comm]
    omega
  rw [e]
  have hst : (s != t) = !(s == t) := rfl
  rw [hst]
  refine (wmul_walk s t a b c d p q u v w hp hq hu hv bp bq bu bv).mono ?_
  rintro e w' ⟨rfl, hw⟩
  refine ⟨congrArg Ending.returned (agg_eq ?_ ?_ ?_ ?_), hw⟩
  · omega
  · omega
  · omega
  · omega

theorem wadd_any (s t : Bool) (x y : Nat) (w : World) (hx : x < 18446744073709551616) (hy : y < 18446744073709551616) :
    Calls Try.prog 16 #[wide s x, wide t y] w fun e w' => e = .returned (wide (addS s x t y) (addM s x t y)) ∧ Below w.heap.size w w' := by
  obtain ⟨a, b, ha, hb, rfl⟩ := split_x x hx
  obtain ⟨c, d, hc, hd, rfl⟩ := split_x y hy
  rw [wide_two s a b ha hb, wide_two t c d hc hd]
  by_cases hst : s = t
  · subst hst
    have e1 : addS s (a + b * 4294967296) s (c + d * 4294967296) = s := by simp [addS]
    have e2 : addM s (a + b * 4294967296) s (c + d * 4294967296) = a + b * 4294967296 + (c + d * 4294967296) := by simp [addM]
    rw [e1, e2]
    refine (wadd_same s a b c d w ha hb hc hd).mono ?_
    rintro e w' ⟨rfl, hw⟩
    refine ⟨congrArg Ending.returned (agg_eq ?_ ?_ ?_ ?_), hw⟩ <;> omega
  · have hst' : (s == t) = false := by simp [hst]
    by_cases hl : a + b * 4294967296 < c + d * 4294967296
    · have e1 : addS s (a + b * 4294967296) t (c + d * 4294967296) = t := by simp [addS, hst, hl]
      have e2 : addM s (a + b * 4294967296) t (c + d * 4294967296) = c + d * 4294967296 - (a + b * 4294967296) := by simp [addM, hst, hl]
      rw [e1, e2]
      by_cases hbo : c < a
      · refine (wadd_swap1 s t a b c d w hst' ha hb hc hd (by simp [hl]) hbo).mono ?_
        rintro e w' ⟨rfl, hw⟩
        refine ⟨congrArg Ending.returned (agg_eq ?_ ?_ ?_ ?_), hw⟩ <;> omega
      · refine (wadd_swap0 s t a b c d w hst' ha hb hc hd (by simp [hl]) hbo).mono ?_
        rintro e w' ⟨rfl, hw⟩
        refine ⟨congrArg Ending.returned (agg_eq ?_ ?_ ?_ ?_), hw⟩ <;> omega
    · have e1 : addS s (a + b * 4294967296) t (c + d * 4294967296) = s := by simp [addS, hst, hl]
      have e2 : addM s (a + b * 4294967296) t (c + d * 4294967296) = a + b * 4294967296 - (c + d * 4294967296) := by simp [addM, hst, hl]
      rw [e1, e2]
      by_cases hbo : a < c
      · refine (wadd_stay1 s t a b c d w hst' ha hb hc hd (by simp [hl]) hbo).mono ?_
        rintro e w' ⟨rfl, hw⟩
        refine ⟨congrArg Ending.returned (agg_eq ?_ ?_ ?_ ?_), hw⟩ <;> omega
      · refine (wadd_stay0 s t a b c d w hst' ha hb hc hd (by simp [hl]) hbo).mono ?_
        rintro e w' ⟨rfl, hw⟩
        refine ⟨congrArg Ending.returned (agg_eq ?_ ?_ ?_ ?_), hw⟩ <;> omega
end Go.Proofs.Ytgbbediopjkkeaa
