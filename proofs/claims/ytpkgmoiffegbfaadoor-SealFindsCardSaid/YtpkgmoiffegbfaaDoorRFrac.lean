/- The document's constants of sums: the walks through prime, primes, below, fraction, fractions. No condition but that numbers are small. -/
import Derived.Test.YtpkgmoiffegbfaaDoorROwn
import Derived.Lib.Mul64
import Derived.Deep.RegionWith
namespace Go.Proofs.YtpkgmoiffegbfaaDoor
open Go.RowKit Go.BigFrame
set_option maxRecDepth 20000

theorem r_mask (a : Nat) (ha : a < 18446744073709551616) : bits .and .u64 (a : Int) 4294967295 = ((a % 4294967296 : Nat) : Int) := by
  have h := bits_and_u64_nat a 4294967295 ha (by omega)
  have e : a &&& 4294967295 = a % 4294967296 := Nat.and_two_pow_sub_one_eq_mod a 32
  rw [e] at h
  exact h
theorem r_div (a : Nat) : (a : Int) / 4294967296 = ((a / 4294967296 : Nat) : Int) := by omega
theorem r_mul (a b : Nat) : (a : Int) * (b : Int) = ((a * b : Nat) : Int) := (Int.natCast_mul a b).symm
theorem r_add (a b : Nat) : (a : Int) + (b : Int) = ((a + b : Nat) : Int) := (Int.natCast_add a b).symm
theorem r_wrap (a : Nat) (ha : a < 18446744073709551616) : IntKind.u64.wrap (a : Int) = (a : Int) := by rw [IntKind.wrap_u64]; omega
theorem r_wrapM (a : Nat) : IntKind.u64.wrap (a : Int) = ((a % 18446744073709551616 : Nat) : Int) := by rw [IntKind.wrap_u64]; omega
set_option maxHeartbeats 1000000 in
theorem rmul64_any (x y : Nat) (hx : x < 18446744073709551616) (hy : y < 18446744073709551616) (w : World) :
    Calls Tryd.prog 51 #[.int .u64 x, .int .u64 y] w fun e w' => e = .returned (.tuple #[.int .u64 ((x * y / 18446744073709551616 : Nat) : Int), .int .u64 ((x * y % 18446744073709551616 : Nat) : Int)]) ∧ w = w' := by
  obtain ⟨bd, bt, bw, hhi⟩ := Lib.mul64_hi x y hx hy
  have ba := Lib.half_mul_le (a := x / 4294967296) (b := y / 4294967296) (by omega) (by omega)
  have bb := Lib.half_mul_le (a := x / 4294967296) (b := y % 4294967296) (by omega) (by omega)
  have bc := Lib.half_mul_le (a := x % 4294967296) (b := y / 4294967296) (by omega) (by omega)
  have ba' : x / 4294967296 * (y / 4294967296) < 18446744073709551616 := by omega
  have bb' : x / 4294967296 * (y % 4294967296) < 18446744073709551616 := by omega
  have bc' : x % 4294967296 * (y / 4294967296) < 18446744073709551616 := by omega
  have bh1 : x / 4294967296 * (y / 4294967296) + (x / 4294967296 * (y % 4294967296) + x % 4294967296 * (y % 4294967296) / 4294967296) / 4294967296 < 18446744073709551616 := by omega
  have bh : x / 4294967296 * (y / 4294967296) + (x / 4294967296 * (y % 4294967296) + x % 4294967296 * (y % 4294967296) / 4294967296) / 4294967296 + ((x / 4294967296 * (y % 4294967296) + x % 4294967296 * (y % 4294967296) / 4294967296) % 4294967296 + x % 4294967296 * (y / 4294967296)) / 4294967296 < 18446744073709551616 := by omega
  go_enter Tryd.func51, Tryd.ntmps51
  go_wp2
  simp only [r_mask x hx, r_mask y hy, r_div, r_mul, r_add, r_wrap _ bd, r_wrap _ bb', r_wrap _ bt, r_mask _ bt, r_wrap _ bc', r_wrap _ bw, r_wrap _ ba', r_wrap _ bh1, r_wrap _ bh, r_wrapM (x * y)]
  rw [hhi]
  go_ret2
  exact ⟨rfl, rfl⟩
theorem ret_bool {a b : Bool} (h : a = b) : Ending.returned (.bool a) = .returned (.bool b) := by rw [h]
theorem prime_any (n : Nat) (h2 : 2 ≤ n) (h : n < 400) (w : World) :
    Calls Tryd.prog 49 #[.int .u64 (n : Int)] w fun e w' => e = .returned (.bool (primeN n)) ∧ w = w' := by
  obtain ⟨r, hr⟩ : ∃ r, r = primeN n := ⟨_, rfl⟩
  rw [← hr]
  have HR := hide hr
  clear hr
  have h2I : (2 : Int) ≤ (n : Int) := by omega
  have hI : (n : Int) < 400 := by omega
  go_enter Tryd.func49, Tryd.ntmps49
  go_wp2
  go_loop [3] (fun v => ∃ d : Nat, 2 ≤ d ∧ d ≤ n ∧ v = .int .u64 (d : Int) ∧ noDiv n (d - 2) = true) (fun v => n - (intOf v).toNat)
  case atStart => exact ⟨2, by omega, by omega, rfl, rfl⟩
  case round =>
    obtain ⟨d, hd2, hdn, rfl, hnd⟩ := hrel
    have HND := hide hnd
    clear hnd
    by_cases hlt : d < n
    · by_cases h0 : n % d = 0
      · have hB : ((n : Int) % (d : Int) == 0) = true := by simp; omega
        have HF : Hid (false = r) := by
          rw [HR.out, primeN, noDiv_hit n (d - 2) (n - 2) (by omega) (by rw [show d - 2 + 2 = d by omega]; exact h0)]; exact rfl
        clear h0
        go_wp2
        go_ret
        exact ⟨ret_bool HF.out, rfl⟩
      · have hB : ((n : Int) % (d : Int) == 0) = false := by simp; omega
        have hn0 : noDiv n (d + 1 - 2) = true := by
          rw [show d + 1 - 2 = d - 2 + 1 by omega, noDiv, HND.out, show d - 2 + 2 = d by omega]
          simpa using h0
        have HN := hide hn0
        clear h0 hn0
        go_wp2
        go_round
        case rel => exact ⟨d + 1, by omega, by omega, by go_num, HN.out⟩
        case measure => simp [intOf]; omega
    · obtain rfl : d = n := by omega
      go_wp2
      go_ret
      exact ⟨ret_bool (by rw [HR.out, primeN, HND.out]; try simp; try omega), rfl⟩
theorem bl1 {hi p lo : Nat} (h : (hi : Int) = (p : Int)) : (decide (hi < p) || ((lo : Int) == 0)) = (decide (hi < p) || (hi == p && lo == 0)) := by
  obtain rfl : hi = p := by omega
  simp
  cases lo <;> simp
  omega
theorem bl2 {hi p lo : Nat} (h : ¬ (hi : Int) = (p : Int)) : decide (hi < p) = (decide (hi < p) || (hi == p && lo == 0)) := by
  have : (hi == p) = false := by simp; omega
  simp [this]
theorem bl3 {hi p lo : Nat} (h : ¬ p ≤ hi) : true = (decide (hi < p) || (hi == p && lo == 0)) := by
  simp; omega
theorem below_no (n p : Nat) (hn : n < 68719476736) (hp : p < 400) (w : World) :
    Calls Tryd.prog 50 #[.int .u64 (n : Int), .int .u64 (p : Int), .bool false] w fun e w' => e = .returned (.bool (belowN n p false)) ∧ w = w' := by
  obtain ⟨r, hr⟩ : ∃ r, r = belowN n p false := ⟨_, rfl⟩
  rw [← hr]
  have hn64 : n < 18446744073709551616 := by omega
  obtain ⟨hi, hhi⟩ : ∃ hi, hi = n * n / 18446744073709551616 := ⟨_, rfl⟩
  obtain ⟨lo, hlo⟩ : ∃ lo, lo = n * n % 18446744073709551616 := ⟨_, rfl⟩
  have hr' : r = (decide (hi < p) || (hi == p && lo == 0)) := by
    rw [hr, hlo, hhi]; rfl
  have HM := hide (And.intro hhi hlo)
  have HR := hide hr'
  have HB := hide (And.intro hn hn64)
  clear hr hr' hhi hlo hn hn64
  go_enter Tryd.func50, Tryd.ntmps50
  go_wp2_with fail
  refine (rmul64_any n n HB.out.2 HB.out.2 _).mono ?_
  rintro e w1 ⟨rfl, rfl⟩
  rw [← HM.out.1, ← HM.out.2]
  go_wp2
  all_goals go_ret
  all_goals refine ⟨ret_bool ?_, rfl⟩
  · exact (bl1 (by assumption)).trans HR.out.symm
  · exact (bl2 (by assumption)).trans HR.out.symm
  · exact (bl3 (by assumption)).trans HR.out.symm
def p32 (p : Nat) : Nat := p * 4294967296
theorem sh_p32 (p : Nat) : Op.shift .shl .u64 (p : Int) .u64 32 = pure (.int .u64 (IntKind.u64.wrap (p32 p : Int))) := by
  rw [shift_shl_any _ _ _ _ (by omega)]
  congr 2
theorem p32_wrap {p : Nat} (h : p < 400) : IntKind.u64.wrap (p32 p : Int) = (p32 p : Int) := by
  unfold p32
  rw [IntKind.wrap_u64]
  omega
attribute [local go_sem 2000] sh_p32
theorem bm1 {t q la : Nat} (h : (t : Int) = (q : Int)) : (decide (t < q) || ((la : Int) == 0)) = (decide (t < q) || (t == q && la == 0)) := bl1 h
theorem below_yes (n p : Nat) (hn : n < 68719476736) (hp : p < 400) (w : World) :
    Calls Tryd.prog 50 #[.int .u64 (n : Int), .int .u64 (p : Int), .bool true] w fun e w' => e = .returned (.bool (belowN n p true)) ∧ w = w' := by
  obtain ⟨r, hr⟩ : ∃ r, r = belowN n p true := ⟨_, rfl⟩
  rw [← hr]
  have hn64 : n < 18446744073709551616 := by omega
  have hnn : n * n < 4722366482869645213696 := by
    have := Nat.mul_lt_mul'' hn hn
    omega
  obtain ⟨hi, hhi⟩ : ∃ hi, hi = n * n / 18446744073709551616 := ⟨_, rfl⟩
  obtain ⟨lo, hlo⟩ : ∃ lo, lo = n * n % 18446744073709551616 := ⟨_, rfl⟩
  have bhi : hi < 256 := by omega
  have blo : lo < 18446744073709551616 := by omega
  obtain ⟨mo, hmo⟩ : ∃ mo, mo = lo * n / 18446744073709551616 := ⟨_, rfl⟩
  obtain ⟨la, hla⟩ : ∃ la, la = lo * n % 18446744073709551616 := ⟨_, rfl⟩
  have bln : lo * n < 18446744073709551616 * 68719476736 := Nat.mul_lt_mul'' blo hn
  have bmo : mo < 68719476736 := by omega
  have bhn : hi * n < 256 * 68719476736 := Nat.mul_lt_mul'' bhi hn
  obtain ⟨t, ht⟩ : ∃ t, t = hi * n + mo := ⟨_, rfl⟩
  have bt : t < 100000000000000 := by omega
  obtain ⟨q, hq⟩ : ∃ q, q = p32 p := ⟨_, rfl⟩
  have ht1 : IntKind.u64.wrap ((hi : Int) * (n : Int)) = ((hi * n : Nat) : Int) := by rw [r_mul, r_wrap _ (by omega)]
  have ht2 : IntKind.u64.wrap (((hi * n : Nat) : Int) + (mo : Int)) = (t : Int) := by rw [r_add, ← ht, r_wrap _ (by omega)]
  have hq1 : IntKind.u64.wrap (p32 p : Int) = (q : Int) := by rw [hq]; exact p32_wrap hp
  have hr' : r = (decide (t < q) || (t == q && la == 0)) := by
    rw [hr, hq, ht, hmo, hla, hlo, hhi]; rfl
  have HM := hide (And.intro hhi hlo)
  have HM2 := hide (And.intro hmo hla)
  have HT := hide (And.intro ht1 ht2)
  have HR := hide hr'
  have HB := hide (And.intro hn64 blo)
  have HQ := hide hq1
  clear hr hr' hhi hlo hmo hla ht ht1 ht2 hnn bln bhn hn hn64 blo bhi bmo bt hq hq1
  go_enter Tryd.func50, Tryd.ntmps50
  go_wp2_with fail
  refine (rmul64_any n n HB.out.1 HB.out.1 _).mono ?_
  rintro e w1 ⟨rfl, rfl⟩
  rw [← HM.out.1, ← HM.out.2]
  go_wp2_with fail
  refine (rmul64_any lo n HB.out.2 HB.out.1 _).mono ?_
  rintro e w1 ⟨rfl, rfl⟩
  rw [← HM2.out.1, ← HM2.out.2]
  go_upto_region 6 with (fail)
  rw [HT.out.1, HT.out.2]
  have hq2 := HQ.out
  go_wp2
  all_goals go_ret
  all_goals refine ⟨ret_bool ?_, rfl⟩
  · exact (bl1 (by assumption)).trans HR.out.symm
  · exact (bl2 (by assumption)).trans HR.out.symm
  · exact (bl3 (by assumption)).trans HR.out.symm
theorem below_any (n p : Nat) (cube : Bool) (hn : n < 68719476736) (hp : p < 400) (w : World) :
    Calls Tryd.prog 50 #[.int .u64 (n : Int), .int .u64 (p : Int), .bool cube] w fun e w' => e = .returned (.bool (belowN n p cube)) ∧ w = w' := by
  cases cube
  · exact below_no n p hn hp w
  · exact below_yes n p hn hp w
/-- What a number of 64 bits is, one bit more. -/
theorem or_pow (n k : Nat) (hn : n < 68719476736) (hk : k ≤ 35) : bits .or .u64 (n : Int) (2 ^ k) = ((n ||| 2 ^ k : Nat) : Int) := by
  have h2 : 2 ^ k ≤ 2 ^ 35 := Nat.pow_le_pow_right (by decide) hk
  have := bits_or_u64_nat n (2 ^ k) (by omega) (by omega)
  rw [← this]
  congr 1
set_option maxHeartbeats 1000000 in
theorem fraction_any (p : Nat) (cube : Bool) (hp : p < 400) (w : World) :
    Calls Tryd.prog 45 #[.int .u64 (p : Int), .bool cube] w fun e w' => e = .returned (.int .u32 (wI (fracW p cube))) ∧ w = w' := by
  go_enter Tryd.func45, Tryd.ntmps45
  go_wp2
  go_loop [5, 6] (fun vn vb => ∃ k : Nat, k ≤ 36 ∧ vn = .int .u64 ((frac p cube k : Nat) : Int) ∧ vb = .int .i64 (35 - (k : Int))) (fun _ vb => (intOf vb + 1).toNat)
  case atStart => exact ⟨0, by omega, rfl, rfl⟩
  case round =>
    obtain ⟨k, hk, rfl, rfl⟩ := hrel
    obtain ⟨n, hn⟩ : ∃ n, n = frac p cube k := ⟨_, rfl⟩
    have hlt := frac_lt p cube k
    have hnx : k < 36 → frac p cube (k + 1) = if belowN (n ||| 2 ^ (35 - k)) p cube then n ||| 2 ^ (35 - k) else n := fun _ => by rw [hn, frac]
    rw [← hn] at hlt ⊢
    have HX := hide hnx
    have HN := hide hn
    clear hnx hn
    by_cases hk36 : k < 36
    · obtain ⟨j, hj⟩ : ∃ j, j = 35 - k := ⟨_, rfl⟩
      have hjI : 35 - (k : Int) = (j : Int) := by omega
      have hj35 : (j : Int) ≤ 35 := by omega
      have hw2 : (2 : Int) ^ j = ((2 ^ j : Nat) : Int) := by simp
      have hpw : 2 ^ j ≤ 2 ^ 35 := Nat.pow_le_pow_right (by decide) (by omega)
      have hor : bits .or .u64 (n : Int) (IntKind.u64.wrap (2 ^ j)) = ((n ||| 2 ^ j : Nat) : Int) := by
        rw [hw2, r_wrap _ (by omega), bits_or_u64_nat _ _ (by omega) (by omega)]
      obtain ⟨m, hm⟩ : ∃ m, m = n ||| 2 ^ j := ⟨_, rfl⟩
      have hmlt : m < 68719476736 := by rw [hm]; exact Nat.or_lt_two_pow (n := 36) hlt (by omega)
      rw [← hm] at hor
      have hnx := HX.out hk36
      rw [← hj, ← hm] at hnx
      have HO := hide hor
      have HNX := hide hnx
      have HJ := hide hj
      have HLT := hide hmlt
      clear hor hnx hj hm hw2 hpw hlt hmlt
      rw [hjI]
      go_upto_region 6 with (fail)
      rw [HO.out]
      cases hb : belowN m p cube
      all_goals
        have HBB := hide hb
        clear hb
        go_wp2_with fail
        refine (below_any m p cube HLT.out hp _).mono ?_
        rintro e w1 ⟨rfl, rfl⟩
        rw [HBB.out]
        go_wp2
        go_round
      case rel => exact ⟨k + 1, by omega, by rw [HNX.out, HBB.out]; rfl, by first | rw [show (35 - ((k + 1 : Nat) : Int)) = (j : Int) - 1 by omega] | (congr 1; omega)⟩
      case measure => simp [intOf]
      case rel => exact ⟨k + 1, by omega, by rw [HNX.out, HBB.out]; rfl, by first | rw [show (35 - ((k + 1 : Nat) : Int)) = (j : Int) - 1 by omega] | (congr 1; omega)⟩
      case measure => simp [intOf]
    · obtain rfl : k = 36 := by omega
      have hjI : (35 : Int) - ((36 : Nat) : Int) = -1 := by omega
      rw [hjI]
      go_wp2
      go_ret
      refine ⟨?_, rfl⟩
      rw [fracW, ← HN.out, wI_nat]
      rfl

def PrimesP (many : Nat) (w : World) (e : Ending) (w' : World) : Prop := ∃ v', e = .returned v' ∧ OwnR 39 u64v w' w.heap.size v' (firstP many) ∧ Below w.heap.size w w'
set_option maxHeartbeats 1000000 in
theorem primes_any (many : Nat) (hmany : many ≤ 1000) (w : World) :
    Calls Tryd.prog 44 #[.int .i64 (many : Int)] w (PrimesP many w) := by
  obtain ⟨B, hB⟩ : ∃ B, B = w.heap.size := ⟨_, rfl⟩
  have hB0 : Below B w w := by rw [hB]; exact Below.refl _ _
  have hBz : B ≤ w.heap.size := by omega
  have HB := hide hB
  clear hB
  have hmI : (many : Int) ≤ 1000 := by omega
  go_enter Tryd.func44, Tryd.ntmps44
  go_wp2
  go_loopg [3, 4] 398 (fun g v vn wi => ∃ (n : Nat) (a : Option Addr) (c : Nat), 2 ≤ n ∧ n ≤ 400 ∧ g = 400 - n ∧ vn = .int .u64 (n : Int) ∧ v = .slice a (prs (n - 2)).length c ∧ OwnR 39 u64v wi B v (prs (n - 2)) ∧ (prs (n - 2)).length ≤ many ∧ Below B w wi ∧ B ≤ wi.heap.size)
  case atStart => exact ⟨2, none, 0, by omega, by omega, rfl, rfl, rfl, OwnR.nil _ _, Nat.zero_le _, hB0, hBz⟩
  case round =>
    obtain ⟨n, a, c, hn2, hn4, rfl, rfl, rfl, hO, hlm, hBl, hz⟩ := hrel
    clear hB0 hBz
    have hnx : prs (n + 1 - 2) = if primeN n then prs (n - 2) ++ [n] else prs (n - 2) := by
      rw [show n + 1 - 2 = n - 2 + 1 by omega, prs, show n - 2 + 2 = n by omega]
    have hful : (prs (n - 2)).length = many → prs (n - 2) = firstP many := firstP_full (n - 2) many (by omega)
    have hend : n = 400 → (prs (n - 2)).length ≤ many → prs (n - 2) = firstP many := fun e h => by
      subst e
      exact firstP_end many h
    have hLl : (prs (n - 2)).length ≤ 400 := by
      have : ∀ k, (prs k).length ≤ k := by
        intro k
        induction k with
        | zero => exact Nat.le_refl _
        | succ k ih =>
          rw [prs]
          split
          · rw [List.length_append, List.length_singleton]; omega
          · omega
      have := this (n - 2)
      omega
    generalize prs (n - 2) = L at *
    have HNX := hide hnx
    have HFUL := hide hful
    have HEND := hide hend
    clear hnx hful hend
    obtain ⟨m, hm⟩ : ∃ m, m = L.length := ⟨_, rfl⟩
    rw [← hm] at hlm hLl hO ⊢
    have HM := hide hm
    clear hm
    have hn2I : (2 : Int) ≤ (n : Int) := by omega
    have hn4I : (n : Int) ≤ 400 := by omega
    by_cases hgo : n < 400 ∧ m < many
    · obtain ⟨h1, h2⟩ := hgo
      have h1I : (n : Int) < 400 := by omega
      have h2I : (m : Int) < (many : Int) := by omega
      go_upto_region 5 with (fail)
      go_wp2_with fail
      refine (prime_any n hn2 h1 _).mono ?_
      rintro e w1 ⟨rfl, rfl⟩
      cases hp : primeN n
      · have HP := hide hp
        clear hp
        go_wp2
        go_roundg (400 - (n + 1))
        case measure => omega
        case rel => exact ⟨n + 1, a, c, by omega, by omega, rfl, by go_num, by rw [HNX.out, HP.out, HM.out]; rfl, by rw [HNX.out, HP.out]; exact hO, by rw [HNX.out, HP.out]; simp; rw [← HM.out]; exact hlm, hBl, hz⟩
      · have HP := hide hp
        clear hp
        go_upto_region 6 with (fail)
        go_wp2_with ((with_reducible show wpList _ _ _ (⟨some 20, _, _, _, _, _⟩ :: _) _ _); refine Hid.out ?_)
        refine hide ?_
        refine zappR rfl _ _ (T := 82) (E := 39) (f := u64v) Tryd.underlying82 infoU64 rfl (by decide) (fun _ => rfl) rfl _ rfl wr.heap.size 1 rfl n (zcell (new_at _ _) rfl) B L (hO.below ((Below.refl _ _).alloc (Nat.le_refl _) _)) (by rw [← HM.out]; omega) (by simp; omega) ?_
        intro v' w' hO' hg' hB'
        have hB2 : Below B w w' := (hBl.alloc hz _).trans hB'
        have hz2 : B ≤ w'.heap.size := Nat.le_trans (by simp; omega) hB'.size
        clear hg' hB' hO hBl hz
        obtain ⟨a', c', rfl⟩ := hO'.slice
        go_wp2
        go_roundg (400 - (n + 1))
        case measure => omega
        case rel => exact ⟨n + 1, a', c', by omega, by omega, rfl, by go_num, by rw [HNX.out, HP.out, if_pos rfl, List.length_append, List.length_singleton], by rw [HNX.out, HP.out, if_pos rfl]; rw [List.length_append, List.length_singleton] at hO'; exact hO', by rw [HNX.out, HP.out]; simp; rw [← HM.out]; exact h2, hB2, hz2⟩
    · have hL : L = firstP many := by
        by_cases e : n = 400
        · exact HEND.out e (by rw [← HM.out]; exact hlm)
        · exact HFUL.out (by rw [← HM.out]; omega)
      have HL := hide hL
      clear hL
      by_cases h1 : n < 400
      · have h2I : (m : Int) = (many : Int) := by omega
        have h1I : (n : Int) < 400 := by omega
        go_wp2
        go_ret
        refine ⟨_, rfl, ?_, ?_⟩
        · rw [← HB.out, ← HL.out]; exact hO
        · rw [← HB.out]; exact hBl
      · have h1I : ¬ (n : Int) < 400 := by omega
        go_wp2
        go_ret
        refine ⟨_, rfl, ?_, ?_⟩
        · rw [← HB.out, ← HL.out]; exact hO
        · rw [← HB.out]; exact hBl

theorem firstP_lt {many j p : Nat} (h : (firstP many)[j]? = some p) : p < 400 := by
  have hm : p ∈ prs 398 := List.mem_of_mem_take (List.mem_of_getElem? h)
  have := prs_bound 398 p hm
  omega
theorem firstP_len (many : Nat) : (firstP many).length ≤ 398 := by
  have : ∀ k, (prs k).length ≤ k := by
    intro k
    induction k with
    | zero => exact Nat.le_refl _
    | succ k ih =>
      rw [prs]
      split
      · rw [List.length_append, List.length_singleton]; omega
      · omega
  rw [firstP, List.length_take]
  have := this 398
  omega
def FractionsP (many : Nat) (cube : Bool) (w : World) (e : Ending) (w' : World) : Prop := ∃ v', e = .returned v' ∧ OwnR 58 wv w' w.heap.size v' ((firstP many).map (fracW · cube)) ∧ Below w.heap.size w w'
set_option maxHeartbeats 1000000 in
theorem fractions_any (many : Nat) (cube : Bool) (hmany : many ≤ 1000) (w : World) :
    Calls Tryd.prog 32 #[.int .i64 (many : Int), .bool cube] w (FractionsP many cube w) := by
  have hlen := firstP_len many
  have hlt : ∀ j p, (firstP many)[j]? = some p → p < 400 := fun j p h => firstP_lt h
  have hpr := primes_any many hmany
  unfold PrimesP at hpr
  have HPR := hide hpr
  obtain ⟨P, hP⟩ : ∃ P, P = firstP many := ⟨_, rfl⟩
  unfold FractionsP
  rw [← hP] at hlen hlt ⊢
  have HP := hide hP
  have HLT := hide hlt
  clear hpr hP hlt
  go_enter Tryd.func32, Tryd.ntmps32
  go_wp2_with fail
  refine (HPR.out _).mono ?_
  rintro e w1 ⟨v1, rfl, hO1, hB1⟩
  rw [← HP.out] at hO1
  obtain ⟨ga, gc, rfl, hcl⟩ := hO1.any
  have HCL := hide hcl
  have HB1 := hide hB1
  obtain ⟨N, hN⟩ : ∃ N, N = w1.heap.size := ⟨_, rfl⟩
  have hB0 : Below N w1 w1 := by rw [hN]; exact Below.refl _ _
  have hz0 : N ≤ w1.heap.size := by omega
  have HN := hide hN
  obtain ⟨m, hm⟩ : ∃ m, m = P.length := ⟨_, rfl⟩
  rw [← hm] at hlen ⊢
  have HM := hide hm
  clear hO1 hcl hB1 hN hm
  go_wp2
  go_loopg [5, 7] m (fun g v vj wi => ∃ (j : Nat) (a : Option Addr) (c : Nat), j ≤ m ∧ g = m - j ∧ vj = .int .i64 (j : Int) ∧ v = .slice a j c ∧ OwnR 58 wv wi N v ((P.take j).map (fracW · cube)) ∧ Below N w1 wi ∧ N ≤ wi.heap.size)
  case atStart => exact ⟨0, none, 0, by omega, rfl, rfl, rfl, OwnR.nil _ _, hB0, hz0⟩
  case round =>
    obtain ⟨j, a, c, hj, rfl, rfl, rfl, hO, hBl, hz⟩ := hrel
    clear hB0 hz0
    by_cases hjm : j < m
    · have hjP : j < P.length := by rw [← HM.out]; exact hjm
      obtain ⟨g, rfl, _, hg, _, hcell⟩ := HCL.out (by omega)
      obtain ⟨p, hp⟩ : ∃ p, p = P[j] := ⟨_, rfl⟩
      have hpe : P[j]? = some p := by rw [hp]; exact List.getElem?_eq_getElem hjP
      have hc : wr.cell? ⟨g, j, none⟩ = some (.int .u64 (p : Int)) := (hBl.cell (p := ⟨g, j, none⟩) (by show g < N; rw [HN.out]; exact hg)).trans (hcell j p hpe)
      have hp4 := HLT.out j p hpe
      have htk : (P.take (j + 1)).map (fracW · cube) = (P.take j).map (fracW · cube) ++ [fracW p cube] := by
        rw [List.take_succ_eq_append_getElem hjP, List.map_append, ← hp]; rfl
      have HTK := hide htk
      have hjI : (0 : Int) ≤ (j : Int) := by omega
      have hjmI : (j : Int) < (m : Int) := by omega
      have hmI : (m : Int) ≤ 398 := by omega
      clear hcell hp hpe htk
      go_wp2_with fail
      refine (fraction_any p cube hp4 _).mono ?_
      rintro e w2 ⟨rfl, rfl⟩
      go_wp2_with ((with_reducible show wpList _ _ _ (⟨some 24, _, _, _, _, _⟩ :: _) _ _); refine Hid.out ?_)
      refine hide ?_
      refine zappR rfl _ _ (T := 66) (E := 58) (f := wv) Tryd.underlying66 infoU32 rfl (by decide) (fun _ => rfl) rfl _ rfl wr.heap.size 1 rfl (fracW p cube) (zcell (new_at _ _) rfl) N _ (hO.below ((Below.refl _ _).alloc (Nat.le_refl _) _)) (by rw [List.length_map, List.length_take]; omega) (by simp; omega) ?_
      intro v' w' hO' hg' hB'
      rw [← HTK.out] at hO'
      have hB2 : Below N w1 w' := (hBl.alloc hz _).trans hB'
      have hz2 : N ≤ w'.heap.size := Nat.le_trans (by simp; omega) hB'.size
      clear hg' hB' hO hBl hz hc
      obtain ⟨a', c', rfl⟩ := hO'.slice
      have hl1 : ((P.take (j + 1)).map (fracW · cube)).length = j + 1 := by rw [List.length_map, List.length_take]; omega
      rw [hl1] at hO' ⊢
      clear hl1
      go_wp2
      go_roundg (m - (j + 1))
      case measure => omega
      case rel => exact ⟨j + 1, a', c', by omega, rfl, by go_num, rfl, hO', hB2, hz2⟩
    · obtain rfl : j = m := by omega
      go_wp2
      go_ret
      refine ⟨_, rfl, ?_, ?_⟩
      · rw [List.take_of_length_le (by rw [← HM.out]; omega)] at hO
        exact hO.lower (by rw [HN.out]; exact HB1.out.size)
      · exact HB1.out.trans (hBl.mono (by rw [HN.out]; exact HB1.out.size))
end Go.Proofs.YtpkgmoiffegbfaaDoor
