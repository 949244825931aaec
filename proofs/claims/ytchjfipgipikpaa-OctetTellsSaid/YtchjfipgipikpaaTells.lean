/- Layer 16: what is put, what lies somewhere, and a text that is laid, is as the document says: the walk through OctetTells. Conditions: the texts have at most 140737488351232 bytes. -/
import Derived.Test.YtchjfipgipikpaaLaid
namespace Go.Proofs.Ytchjfipgipikpaa
open Go.RowKit Go.BigFrame
set_option maxRecDepth 20000

/-- What PutText answers. -/
def textF (s t : ByteArray) : ByteArray × Int := if t.size ≤ 65535 then (putN s t.size 2 ++ t, 0) else (⟨#[]⟩, 3)
theorem oputtext_any (s t : ByteArray) (w : World) (hs : s.size ≤ 140737488351232) (ht : t.size ≤ 140737488351232) :
    Calls Try.prog 10 #[.string s, .string t] w fun e w' => e = .returned (.tuple #[.string (textF s t).1, .int .i64 (textF s t).2]) ∧ Below w.heap.size w w' := by
  by_cases h : t.size ≤ 65535
  · have hp : textF s t = (putN s t.size 2 ++ t, 0) := if_pos h
    rw [hp]
    exact puttext_fit s t w hs h
  · have hp : textF s t = (⟨#[]⟩, 3) := if_neg h
    rw [hp]
    have hw : IntKind.u64.wrap (t.size : Int) = t.size := by simp [IntKind.wrap, IntKind.bits, IntKind.signed]; omega
    clear hp
    go_enter Try.func10, Try.ntmps10
    go_wp2_with (go_at_call 28; refine (over_any s t.size 2 _ ?_ ?_).mono ?_; decide; omega; rintro e w1 ⟨rfl, hb⟩)
    all_goals (go_ret2; exact ⟨rfl, hb⟩)
theorem rputtext_any (s t : ByteArray) (w : World) (hs : s.size ≤ 140737488351232) (ht : t.size ≤ 140737488351232) :
    Calls Try.prog 11 #[.string s, .string t] w fun e w' => e = .returned (.tuple #[.string (textF s t).1, .int .i64 (textF s t).2]) ∧ Below w.heap.size w w' := by
  by_cases h : t.size ≤ 65535
  · have hp : textF s t = (putN s t.size 2 ++ t, 0) := if_pos h
    rw [hp]
    have hw : IntKind.u64.wrap (t.size : Int) = t.size := by simp [IntKind.wrap, IntKind.bits, IntKind.signed]; omega
    have hn : ¬ 65535 < t.size := by omega
    have c1 : ¬ 9223372036854775807 < s.size + (be 2 t.size).length := by rw [be_length]; omega
    have c2 : ¬ 9223372036854775807 < s.size + (be 2 t.size).length + t.size := by rw [be_length]; omega
    have hx := hide (put_text s (be 2 t.size))
    clear hp
    go_enter Try.func11, Try.ntmps11
    go_wp2_with (go_at_call 36; refine (laid_any t.size 2 _ ?_ ?_).mono ?_; decide; omega; rintro e w1 ⟨rfl, hb⟩)
    all_goals (go_ret2; exact ⟨by rw [hx.out]; rfl, hb⟩)
  · have hp : textF s t = (⟨#[]⟩, 3) := if_neg h
    rw [hp]
    have hn : 65535 < t.size := by omega
    clear hp
    go_enter Try.func11, Try.ntmps11
    go_wp2
    all_goals (go_ret2; exact ⟨rfl, Below.refl _ _⟩)

theorem tells_below {w w1 : World} {o o' : Obj} {nq : Nat} (hb1 : Below (((w.alloc o).alloc o').drewN nq).heap.size (((w.alloc o).alloc o').drewN nq) w1) : Below w.heap.size w w1 := by
  have h0 : Below w.heap.size w (((w.alloc o).alloc o').drewN nq) := below_drewN (((Below.refl _ w).alloc (Nat.le_refl _) o).alloc (by simp) o') nq
  exact h0.trans (hb1.mono h0.size)
theorem tells_then {B : Nat} {a b c : World} (h : Below B a b) (hB : B ≤ b.heap.size) (k : Below b.heap.size b c) : Below B a c := h.trans (k.mono hB)
theorem wrap_u64_range (n : Int) : 0 ≤ IntKind.u64.wrap n ∧ IntKind.u64.wrap n < 18446744073709551616 ∧ IntKind.u64.wrap n % 8 = n % 8 := by
  rw [IntKind.wrap_u64]
  omega


set_option maxHeartbeats 8000000 in
theorem tells_walk1 (s t : ByteArray) (n : Nat) (at_ width : Int) (w : World) (hs : s.size ≤ 140737488351232) (ht : t.size ≤ 140737488351232) (hn : n < 18446744073709551616) (hj : width % 8 = 0) :
    Calls Try.prog 3 #[.agg #[.string s, .string t], .int .u64 n, .agg #[.int .i64 at_, .int .i64 width]] w fun e w' => e = .returned (.bool true) ∧ Below w.heap.size w w' := by
  obtain ⟨X, hX⟩ : ∃ X : Nat, (n : Int) / 72057594037927936 = (X : Int) := ⟨n / 72057594037927936, by omega⟩
  have hX1 : X < 18446744073709551616 := by omega
  obtain ⟨U, hU⟩ : ∃ U, IntKind.u64.wrap width = U := ⟨_, rfl⟩
  obtain ⟨A, hA⟩ : ∃ A, IntKind.u64.wrap at_ = A := ⟨_, rfl⟩
  obtain ⟨u0, u1, u2⟩ := wrap_u64_range width
  obtain ⟨a0, a1, _⟩ := wrap_u64_range at_
  rw [hU] at u0 u1 u2
  rw [hA] at a0 a1
  rw [hj] at u2
  have hS : (0 : Int) < (s.size : Int) + 2 := by omega
  obtain ⟨P, hP⟩ : ∃ P, A % ((s.size : Int) + 2) = P := ⟨_, rfl⟩
  have p0 : 0 ≤ P := by rw [← hP]; exact Int.emod_nonneg _ (by omega)
  have p1 : P < (s.size : Int) + 2 := by rw [← hP]; exact Int.emod_lt_of_pos _ hS
  have hPt : A.tmod ((s.size : Int) + 2) = P := by rw [Int.tmod_eq_emod_of_nonneg a0, hP]
  have Z1 : IntKind.i64.wrap ((s.size : Int) + 2) = (s.size : Int) + 2 := wrap64 (by omega) (by omega)
  have Z2 : IntKind.u64.wrap ((s.size : Int) + 2) = (s.size : Int) + 2 := by rw [IntKind.wrap_u64]; omega
  have Z3 : IntKind.i64.wrap P = P := wrap64 (by omega) (by omega)
  have Z4 : (((s.size : Int) + 2) == 0) = false := by rw [beq_eq_false_iff_ne]; omega
  have h1 := fun w => oputtext_any s t w hs ht
  have h2 := fun w => rputtext_any s t w hs ht
  generalize textF s t = p at h1 h2
  obtain ⟨T, E⟩ := p
  go_enter Try.func3, Try.ntmps3
  go_wp2
  go_quiet (fail)
  go_wp2_with (first
    | (go_at_call 10; refine (h1 _).mono ?_; rintro e w1 ⟨rfl, hb⟩; have hB := tells_below hb; clear hb)
    | (go_at_call 11; refine (h2 _).mono ?_; rintro e w2 ⟨rfl, hb⟩; replace hB := tells_then hB hB.size hb; clear hb)
    | (go_at_call 12; (with_reducible refine (puts_any s n _ _ hn hs).mono ?_); rintro e w3 ⟨rfl, hb⟩; replace hB := tells_then hB hB.size hb; clear hb)
    | (go_at_call 12; (with_reducible refine (puts_any s X _ _ hX1 hs).mono ?_); rintro e w4 ⟨rfl, hb⟩; replace hB := tells_then hB hB.size hb; clear hb)
    | (go_at_call 13; refine (gets_any s _ _ _ hs).mono ?_; rintro e w5 ⟨rfl, rfl⟩)
    | (go_at_call 14; refine (works_any _).mono ?_; rintro e w6 ⟨rfl, hb⟩; replace hB := tells_then hB hB.size hb; clear hb))
  all_goals go_ret
  all_goals exact ⟨by simp, hB⟩

set_option maxHeartbeats 8000000 in
theorem tells_walk2 (s t : ByteArray) (n : Nat) (at_ width : Int) (w : World) (hs : s.size ≤ 140737488351232) (ht : t.size ≤ 140737488351232) (hn : n < 18446744073709551616) (hj : width % 8 = 1) :
    Calls Try.prog 3 #[.agg #[.string s, .string t], .int .u64 n, .agg #[.int .i64 at_, .int .i64 width]] w fun e w' => e = .returned (.bool true) ∧ Below w.heap.size w w' := by
  obtain ⟨X, hX⟩ : ∃ X : Nat, (n : Int) / 281474976710656 = (X : Int) := ⟨n / 281474976710656, by omega⟩
  have hX1 : X < 18446744073709551616 := by omega
  obtain ⟨U, hU⟩ : ∃ U, IntKind.u64.wrap width = U := ⟨_, rfl⟩
  obtain ⟨A, hA⟩ : ∃ A, IntKind.u64.wrap at_ = A := ⟨_, rfl⟩
  obtain ⟨u0, u1, u2⟩ := wrap_u64_range width
  obtain ⟨a0, a1, _⟩ := wrap_u64_range at_
  rw [hU] at u0 u1 u2
  rw [hA] at a0 a1
  rw [hj] at u2
  have hS : (0 : Int) < (s.size : Int) + 2 := by omega
  obtain ⟨P, hP⟩ : ∃ P, A % ((s.size : Int) + 2) = P := ⟨_, rfl⟩
  have p0 : 0 ≤ P := by rw [← hP]; exact Int.emod_nonneg _ (by omega)
  have p1 : P < (s.size : Int) + 2 := by rw [← hP]; exact Int.emod_lt_of_pos _ hS
  have hPt : A.tmod ((s.size : Int) + 2) = P := by rw [Int.tmod_eq_emod_of_nonneg a0, hP]
  have Z1 : IntKind.i64.wrap ((s.size : Int) + 2) = (s.size : Int) + 2 := wrap64 (by omega) (by omega)
  have Z2 : IntKind.u64.wrap ((s.size : Int) + 2) = (s.size : Int) + 2 := by rw [IntKind.wrap_u64]; omega
  have Z3 : IntKind.i64.wrap P = P := wrap64 (by omega) (by omega)
  have Z4 : (((s.size : Int) + 2) == 0) = false := by rw [beq_eq_false_iff_ne]; omega
  have h1 := fun w => oputtext_any s t w hs ht
  have h2 := fun w => rputtext_any s t w hs ht
  generalize textF s t = p at h1 h2
  obtain ⟨T, E⟩ := p
  go_enter Try.func3, Try.ntmps3
  go_wp2
  go_quiet (fail)
  go_wp2_with (first
    | (go_at_call 10; refine (h1 _).mono ?_; rintro e w1 ⟨rfl, hb⟩; have hB := tells_below hb; clear hb)
    | (go_at_call 11; refine (h2 _).mono ?_; rintro e w2 ⟨rfl, hb⟩; replace hB := tells_then hB hB.size hb; clear hb)
    | (go_at_call 12; (with_reducible refine (puts_any s n _ _ hn hs).mono ?_); rintro e w3 ⟨rfl, hb⟩; replace hB := tells_then hB hB.size hb; clear hb)
    | (go_at_call 12; (with_reducible refine (puts_any s X _ _ hX1 hs).mono ?_); rintro e w4 ⟨rfl, hb⟩; replace hB := tells_then hB hB.size hb; clear hb)
    | (go_at_call 13; refine (gets_any s _ _ _ hs).mono ?_; rintro e w5 ⟨rfl, rfl⟩)
    | (go_at_call 14; refine (works_any _).mono ?_; rintro e w6 ⟨rfl, hb⟩; replace hB := tells_then hB hB.size hb; clear hb))
  all_goals go_ret
  all_goals exact ⟨by simp, hB⟩

set_option maxHeartbeats 8000000 in
theorem tells_walk3 (s t : ByteArray) (n : Nat) (at_ width : Int) (w : World) (hs : s.size ≤ 140737488351232) (ht : t.size ≤ 140737488351232) (hn : n < 18446744073709551616) (hj : width % 8 = 2) :
    Calls Try.prog 3 #[.agg #[.string s, .string t], .int .u64 n, .agg #[.int .i64 at_, .int .i64 width]] w fun e w' => e = .returned (.bool true) ∧ Below w.heap.size w w' := by
  obtain ⟨X, hX⟩ : ∃ X : Nat, (n : Int) / 1099511627776 = (X : Int) := ⟨n / 1099511627776, by omega⟩
  have hX1 : X < 18446744073709551616 := by omega
  obtain ⟨U, hU⟩ : ∃ U, IntKind.u64.wrap width = U := ⟨_, rfl⟩
  obtain ⟨A, hA⟩ : ∃ A, IntKind.u64.wrap at_ = A := ⟨_, rfl⟩
  obtain ⟨u0, u1, u2⟩ := wrap_u64_range width
  obtain ⟨a0, a1, _⟩ := wrap_u64_range at_
  rw [hU] at u0 u1 u2
  rw [hA] at a0 a1
  rw [hj] at u2
  have hS : (0 : Int) < (s.size : Int) + 2 := by omega
  obtain ⟨P, hP⟩ : ∃ P, A % ((s.size : Int) + 2) = P := ⟨_, rfl⟩
  have p0 : 0 ≤ P := by rw [← hP]; exact Int.emod_nonneg _ (by omega)
  have p1 : P < (s.size : Int) + 2 := by rw [← hP]; exact Int.emod_lt_of_pos _ hS
  have hPt : A.tmod ((s.size : Int) + 2) = P := by rw [Int.tmod_eq_emod_of_nonneg a0, hP]
  have Z1 : IntKind.i64.wrap ((s.size : Int) + 2) = (s.size : Int) + 2 := wrap64 (by omega) (by omega)
  have Z2 : IntKind.u64.wrap ((s.size : Int) + 2) = (s.size : Int) + 2 := by rw [IntKind.wrap_u64]; omega
  have Z3 : IntKind.i64.wrap P = P := wrap64 (by omega) (by omega)
  have Z4 : (((s.size : Int) + 2) == 0) = false := by rw [beq_eq_false_iff_ne]; omega
  have h1 := fun w => oputtext_any s t w hs ht
  have h2 := fun w => rputtext_any s t w hs ht
  generalize textF s t = p at h1 h2
  obtain ⟨T, E⟩ := p
  go_enter Try.func3, Try.ntmps3
  go_wp2
  go_quiet (fail)
  go_wp2_with (first
    | (go_at_call 10; refine (h1 _).mono ?_; rintro e w1 ⟨rfl, hb⟩; have hB := tells_below hb; clear hb)
    | (go_at_call 11; refine (h2 _).mono ?_; rintro e w2 ⟨rfl, hb⟩; replace hB := tells_then hB hB.size hb; clear hb)
    | (go_at_call 12; (with_reducible refine (puts_any s n _ _ hn hs).mono ?_); rintro e w3 ⟨rfl, hb⟩; replace hB := tells_then hB hB.size hb; clear hb)
    | (go_at_call 12; (with_reducible refine (puts_any s X _ _ hX1 hs).mono ?_); rintro e w4 ⟨rfl, hb⟩; replace hB := tells_then hB hB.size hb; clear hb)
    | (go_at_call 13; refine (gets_any s _ _ _ hs).mono ?_; rintro e w5 ⟨rfl, rfl⟩)
    | (go_at_call 14; refine (works_any _).mono ?_; rintro e w6 ⟨rfl, hb⟩; replace hB := tells_then hB hB.size hb; clear hb))
  all_goals go_ret
  all_goals exact ⟨by simp, hB⟩

set_option maxHeartbeats 8000000 in
theorem tells_walk4 (s t : ByteArray) (n : Nat) (at_ width : Int) (w : World) (hs : s.size ≤ 140737488351232) (ht : t.size ≤ 140737488351232) (hn : n < 18446744073709551616) (hj : width % 8 = 3) :
    Calls Try.prog 3 #[.agg #[.string s, .string t], .int .u64 n, .agg #[.int .i64 at_, .int .i64 width]] w fun e w' => e = .returned (.bool true) ∧ Below w.heap.size w w' := by
  obtain ⟨X, hX⟩ : ∃ X : Nat, (n : Int) / 4294967296 = (X : Int) := ⟨n / 4294967296, by omega⟩
  have hX1 : X < 18446744073709551616 := by omega
  obtain ⟨U, hU⟩ : ∃ U, IntKind.u64.wrap width = U := ⟨_, rfl⟩
  obtain ⟨A, hA⟩ : ∃ A, IntKind.u64.wrap at_ = A := ⟨_, rfl⟩
  obtain ⟨u0, u1, u2⟩ := wrap_u64_range width
  obtain ⟨a0, a1, _⟩ := wrap_u64_range at_
  rw [hU] at u0 u1 u2
  rw [hA] at a0 a1
  rw [hj] at u2
  have hS : (0 : Int) < (s.size : Int) + 2 := by omega
  obtain ⟨P, hP⟩ : ∃ P, A % ((s.size : Int) + 2) = P := ⟨_, rfl⟩
  have p0 : 0 ≤ P := by rw [← hP]; exact Int.emod_nonneg _ (by omega)
  have p1 : P < (s.size : Int) + 2 := by rw [← hP]; exact Int.emod_lt_of_pos _ hS
  have hPt : A.tmod ((s.size : Int) + 2) = P := by rw [Int.tmod_eq_emod_of_nonneg a0, hP]
  have Z1 : IntKind.i64.wrap ((s.size : Int) + 2) = (s.size : Int) + 2 := wrap64 (by omega) (by omega)
  have Z2 : IntKind.u64.wrap ((s.size : Int) + 2) = (s.size : Int) + 2 := by rw [IntKind.wrap_u64]; omega
  have Z3 : IntKind.i64.wrap P = P := wrap64 (by omega) (by omega)
  have Z4 : (((s.size : Int) + 2) == 0) = false := by rw [beq_eq_false_iff_ne]; omega
  have h1 := fun w => oputtext_any s t w hs ht
  have h2 := fun w => rputtext_any s t w hs ht
  generalize textF s t = p at h1 h2
  obtain ⟨T, E⟩ := p
  go_enter Try.func3, Try.ntmps3
  go_wp2
  go_quiet (fail)
  go_wp2_with (first
    | (go_at_call 10; refine (h1 _).mono ?_; rintro e w1 ⟨rfl, hb⟩; have hB := tells_below hb; clear hb)
    | (go_at_call 11; refine (h2 _).mono ?_; rintro e w2 ⟨rfl, hb⟩; replace hB := tells_then hB hB.size hb; clear hb)
    | (go_at_call 12; (with_reducible refine (puts_any s n _ _ hn hs).mono ?_); rintro e w3 ⟨rfl, hb⟩; replace hB := tells_then hB hB.size hb; clear hb)
    | (go_at_call 12; (with_reducible refine (puts_any s X _ _ hX1 hs).mono ?_); rintro e w4 ⟨rfl, hb⟩; replace hB := tells_then hB hB.size hb; clear hb)
    | (go_at_call 13; refine (gets_any s _ _ _ hs).mono ?_; rintro e w5 ⟨rfl, rfl⟩)
    | (go_at_call 14; refine (works_any _).mono ?_; rintro e w6 ⟨rfl, hb⟩; replace hB := tells_then hB hB.size hb; clear hb))
  all_goals go_ret
  all_goals exact ⟨by simp, hB⟩

set_option maxHeartbeats 8000000 in
theorem tells_walk5 (s t : ByteArray) (n : Nat) (at_ width : Int) (w : World) (hs : s.size ≤ 140737488351232) (ht : t.size ≤ 140737488351232) (hn : n < 18446744073709551616) (hj : width % 8 = 4) :
    Calls Try.prog 3 #[.agg #[.string s, .string t], .int .u64 n, .agg #[.int .i64 at_, .int .i64 width]] w fun e w' => e = .returned (.bool true) ∧ Below w.heap.size w w' := by
  obtain ⟨X, hX⟩ : ∃ X : Nat, (n : Int) / 16777216 = (X : Int) := ⟨n / 16777216, by omega⟩
  have hX1 : X < 18446744073709551616 := by omega
  obtain ⟨U, hU⟩ : ∃ U, IntKind.u64.wrap width = U := ⟨_, rfl⟩
  obtain ⟨A, hA⟩ : ∃ A, IntKind.u64.wrap at_ = A := ⟨_, rfl⟩
  obtain ⟨u0, u1, u2⟩ := wrap_u64_range width
  obtain ⟨a0, a1, _⟩ := wrap_u64_range at_
  rw [hU] at u0 u1 u2
  rw [hA] at a0 a1
  rw [hj] at u2
  have hS : (0 : Int) < (s.size : Int) + 2 := by omega
  obtain ⟨P, hP⟩ : ∃ P, A % ((s.size : Int) + 2) = P := ⟨_, rfl⟩
  have p0 : 0 ≤ P := by rw [← hP]; exact Int.emod_nonneg _ (by omega)
  have p1 : P < (s.size : Int) + 2 := by rw [← hP]; exact Int.emod_lt_of_pos _ hS
  have hPt : A.tmod ((s.size : Int) + 2) = P := by rw [Int.tmod_eq_emod_of_nonneg a0, hP]
  have Z1 : IntKind.i64.wrap ((s.size : Int) + 2) = (s.size : Int) + 2 := wrap64 (by omega) (by omega)
  have Z2 : IntKind.u64.wrap ((s.size : Int) + 2) = (s.size : Int) + 2 := by rw [IntKind.wrap_u64]; omega
  have Z3 : IntKind.i64.wrap P = P := wrap64 (by omega) (by omega)
  have Z4 : (((s.size : Int) + 2) == 0) = false := by rw [beq_eq_false_iff_ne]; omega
  have h1 := fun w => oputtext_any s t w hs ht
  have h2 := fun w => rputtext_any s t w hs ht
  generalize textF s t = p at h1 h2
  obtain ⟨T, E⟩ := p
  go_enter Try.func3, Try.ntmps3
  go_wp2
  go_quiet (fail)
  go_wp2_with (first
    | (go_at_call 10; refine (h1 _).mono ?_; rintro e w1 ⟨rfl, hb⟩; have hB := tells_below hb; clear hb)
    | (go_at_call 11; refine (h2 _).mono ?_; rintro e w2 ⟨rfl, hb⟩; replace hB := tells_then hB hB.size hb; clear hb)
    | (go_at_call 12; (with_reducible refine (puts_any s n _ _ hn hs).mono ?_); rintro e w3 ⟨rfl, hb⟩; replace hB := tells_then hB hB.size hb; clear hb)
    | (go_at_call 12; (with_reducible refine (puts_any s X _ _ hX1 hs).mono ?_); rintro e w4 ⟨rfl, hb⟩; replace hB := tells_then hB hB.size hb; clear hb)
    | (go_at_call 13; refine (gets_any s _ _ _ hs).mono ?_; rintro e w5 ⟨rfl, rfl⟩)
    | (go_at_call 14; refine (works_any _).mono ?_; rintro e w6 ⟨rfl, hb⟩; replace hB := tells_then hB hB.size hb; clear hb))
  all_goals go_ret
  all_goals exact ⟨by simp, hB⟩

set_option maxHeartbeats 8000000 in
theorem tells_walk6 (s t : ByteArray) (n : Nat) (at_ width : Int) (w : World) (hs : s.size ≤ 140737488351232) (ht : t.size ≤ 140737488351232) (hn : n < 18446744073709551616) (hj : width % 8 = 5) :
    Calls Try.prog 3 #[.agg #[.string s, .string t], .int .u64 n, .agg #[.int .i64 at_, .int .i64 width]] w fun e w' => e = .returned (.bool true) ∧ Below w.heap.size w w' := by
  obtain ⟨X, hX⟩ : ∃ X : Nat, (n : Int) / 65536 = (X : Int) := ⟨n / 65536, by omega⟩
  have hX1 : X < 18446744073709551616 := by omega
  obtain ⟨U, hU⟩ : ∃ U, IntKind.u64.wrap width = U := ⟨_, rfl⟩
  obtain ⟨A, hA⟩ : ∃ A, IntKind.u64.wrap at_ = A := ⟨_, rfl⟩
  obtain ⟨u0, u1, u2⟩ := wrap_u64_range width
  obtain ⟨a0, a1, _⟩ := wrap_u64_range at_
  rw [hU] at u0 u1 u2
  rw [hA] at a0 a1
  rw [hj] at u2
  have hS : (0 : Int) < (s.size : Int) + 2 := by omega
  obtain ⟨P, hP⟩ : ∃ P, A % ((s.size : Int) + 2) = P := ⟨_, rfl⟩
  have p0 : 0 ≤ P := by rw [← hP]; exact Int.emod_nonneg _ (by omega)
  have p1 : P < (s.size : Int) + 2 := by rw [← hP]; exact Int.emod_lt_of_pos _ hS
  have hPt : A.tmod ((s.size : Int) + 2) = P := by rw [Int.tmod_eq_emod_of_nonneg a0, hP]
  have Z1 : IntKind.i64.wrap ((s.size : Int) + 2) = (s.size : Int) + 2 := wrap64 (by omega) (by omega)
  have Z2 : IntKind.u64.wrap ((s.size : Int) + 2) = (s.size : Int) + 2 := by rw [IntKind.wrap_u64]; omega
  have Z3 : IntKind.i64.wrap P = P := wrap64 (by omega) (by omega)
  have Z4 : (((s.size : Int) + 2) == 0) = false := by rw [beq_eq_false_iff_ne]; omega
  have h1 := fun w => oputtext_any s t w hs ht
  have h2 := fun w => rputtext_any s t w hs ht
  generalize textF s t = p at h1 h2
  obtain ⟨T, E⟩ := p
  go_enter Try.func3, Try.ntmps3
  go_wp2
  go_quiet (fail)
  go_wp2_with (first
    | (go_at_call 10; refine (h1 _).mono ?_; rintro e w1 ⟨rfl, hb⟩; have hB := tells_below hb; clear hb)
    | (go_at_call 11; refine (h2 _).mono ?_; rintro e w2 ⟨rfl, hb⟩; replace hB := tells_then hB hB.size hb; clear hb)
    | (go_at_call 12; (with_reducible refine (puts_any s n _ _ hn hs).mono ?_); rintro e w3 ⟨rfl, hb⟩; replace hB := tells_then hB hB.size hb; clear hb)
    | (go_at_call 12; (with_reducible refine (puts_any s X _ _ hX1 hs).mono ?_); rintro e w4 ⟨rfl, hb⟩; replace hB := tells_then hB hB.size hb; clear hb)
    | (go_at_call 13; refine (gets_any s _ _ _ hs).mono ?_; rintro e w5 ⟨rfl, rfl⟩)
    | (go_at_call 14; refine (works_any _).mono ?_; rintro e w6 ⟨rfl, hb⟩; replace hB := tells_then hB hB.size hb; clear hb))
  all_goals go_ret
  all_goals exact ⟨by simp, hB⟩

set_option maxHeartbeats 8000000 in
theorem tells_walk7 (s t : ByteArray) (n : Nat) (at_ width : Int) (w : World) (hs : s.size ≤ 140737488351232) (ht : t.size ≤ 140737488351232) (hn : n < 18446744073709551616) (hj : width % 8 = 6) :
    Calls Try.prog 3 #[.agg #[.string s, .string t], .int .u64 n, .agg #[.int .i64 at_, .int .i64 width]] w fun e w' => e = .returned (.bool true) ∧ Below w.heap.size w w' := by
  obtain ⟨X, hX⟩ : ∃ X : Nat, (n : Int) / 256 = (X : Int) := ⟨n / 256, by omega⟩
  have hX1 : X < 18446744073709551616 := by omega
  obtain ⟨U, hU⟩ : ∃ U, IntKind.u64.wrap width = U := ⟨_, rfl⟩
  obtain ⟨A, hA⟩ : ∃ A, IntKind.u64.wrap at_ = A := ⟨_, rfl⟩
  obtain ⟨u0, u1, u2⟩ := wrap_u64_range width
  obtain ⟨a0, a1, _⟩ := wrap_u64_range at_
  rw [hU] at u0 u1 u2
  rw [hA] at a0 a1
  rw [hj] at u2
  have hS : (0 : Int) < (s.size : Int) + 2 := by omega
  obtain ⟨P, hP⟩ : ∃ P, A % ((s.size : Int) + 2) = P := ⟨_, rfl⟩
  have p0 : 0 ≤ P := by rw [← hP]; exact Int.emod_nonneg _ (by omega)
  have p1 : P < (s.size : Int) + 2 := by rw [← hP]; exact Int.emod_lt_of_pos _ hS
  have hPt : A.tmod ((s.size : Int) + 2) = P := by rw [Int.tmod_eq_emod_of_nonneg a0, hP]
  have Z1 : IntKind.i64.wrap ((s.size : Int) + 2) = (s.size : Int) + 2 := wrap64 (by omega) (by omega)
  have Z2 : IntKind.u64.wrap ((s.size : Int) + 2) = (s.size : Int) + 2 := by rw [IntKind.wrap_u64]; omega
  have Z3 : IntKind.i64.wrap P = P := wrap64 (by omega) (by omega)
  have Z4 : (((s.size : Int) + 2) == 0) = false := by rw [beq_eq_false_iff_ne]; omega
  have h1 := fun w => oputtext_any s t w hs ht
  have h2 := fun w => rputtext_any s t w hs ht
  generalize textF s t = p at h1 h2
  obtain ⟨T, E⟩ := p
  go_enter Try.func3, Try.ntmps3
  go_wp2
  go_quiet (fail)
  go_wp2_with (first
    | (go_at_call 10; refine (h1 _).mono ?_; rintro e w1 ⟨rfl, hb⟩; have hB := tells_below hb; clear hb)
    | (go_at_call 11; refine (h2 _).mono ?_; rintro e w2 ⟨rfl, hb⟩; replace hB := tells_then hB hB.size hb; clear hb)
    | (go_at_call 12; (with_reducible refine (puts_any s n _ _ hn hs).mono ?_); rintro e w3 ⟨rfl, hb⟩; replace hB := tells_then hB hB.size hb; clear hb)
    | (go_at_call 12; (with_reducible refine (puts_any s X _ _ hX1 hs).mono ?_); rintro e w4 ⟨rfl, hb⟩; replace hB := tells_then hB hB.size hb; clear hb)
    | (go_at_call 13; refine (gets_any s _ _ _ hs).mono ?_; rintro e w5 ⟨rfl, rfl⟩)
    | (go_at_call 14; refine (works_any _).mono ?_; rintro e w6 ⟨rfl, hb⟩; replace hB := tells_then hB hB.size hb; clear hb))
  all_goals go_ret
  all_goals exact ⟨by simp, hB⟩

set_option maxHeartbeats 8000000 in
theorem tells_walk8 (s t : ByteArray) (n : Nat) (at_ width : Int) (w : World) (hs : s.size ≤ 140737488351232) (ht : t.size ≤ 140737488351232) (hn : n < 18446744073709551616) (hj : width % 8 = 7) :
    Calls Try.prog 3 #[.agg #[.string s, .string t], .int .u64 n, .agg #[.int .i64 at_, .int .i64 width]] w fun e w' => e = .returned (.bool true) ∧ Below w.heap.size w w' := by
  obtain ⟨X, hX⟩ : ∃ X : Nat, (n : Int) / 1 = (X : Int) := ⟨n / 1, by omega⟩
  have hX1 : X < 18446744073709551616 := by omega
  obtain ⟨U, hU⟩ : ∃ U, IntKind.u64.wrap width = U := ⟨_, rfl⟩
  obtain ⟨A, hA⟩ : ∃ A, IntKind.u64.wrap at_ = A := ⟨_, rfl⟩
  obtain ⟨u0, u1, u2⟩ := wrap_u64_range width
  obtain ⟨a0, a1, _⟩ := wrap_u64_range at_
  rw [hU] at u0 u1 u2
  rw [hA] at a0 a1
  rw [hj] at u2
  have hS : (0 : Int) < (s.size : Int) + 2 := by omega
  obtain ⟨P, hP⟩ : ∃ P, A % ((s.size : Int) + 2) = P := ⟨_, rfl⟩
  have p0 : 0 ≤ P := by rw [← hP]; exact Int.emod_nonneg _ (by omega)
  have p1 : P < (s.size : Int) + 2 := by rw [← hP]; exact Int.emod_lt_of_pos _ hS
  have hPt : A.tmod ((s.size : Int) + 2) = P := by rw [Int.tmod_eq_emod_of_nonneg a0, hP]
  have Z1 : IntKind.i64.wrap ((s.size : Int) + 2) = (s.size : Int) + 2 := wrap64 (by omega) (by omega)
  have Z2 : IntKind.u64.wrap ((s.size : Int) + 2) = (s.size : Int) + 2 := by rw [IntKind.wrap_u64]; omega
  have Z3 : IntKind.i64.wrap P = P := wrap64 (by omega) (by omega)
  have Z4 : (((s.size : Int) + 2) == 0) = false := by rw [beq_eq_false_iff_ne]; omega
  have h1 := fun w => oputtext_any s t w hs ht
  have h2 := fun w => rputtext_any s t w hs ht
  generalize textF s t = p at h1 h2
  obtain ⟨T, E⟩ := p
  go_enter Try.func3, Try.ntmps3
  go_wp2
  go_quiet (fail)
  go_wp2_with (first
    | (go_at_call 10; refine (h1 _).mono ?_; rintro e w1 ⟨rfl, hb⟩; have hB := tells_below hb; clear hb)
    | (go_at_call 11; refine (h2 _).mono ?_; rintro e w2 ⟨rfl, hb⟩; replace hB := tells_then hB hB.size hb; clear hb)
    | (go_at_call 12; (with_reducible refine (puts_any s n _ _ hn hs).mono ?_); rintro e w3 ⟨rfl, hb⟩; replace hB := tells_then hB hB.size hb; clear hb)
    | (go_at_call 12; (with_reducible refine (puts_any s X _ _ hX1 hs).mono ?_); rintro e w4 ⟨rfl, hb⟩; replace hB := tells_then hB hB.size hb; clear hb)
    | (go_at_call 13; refine (gets_any s _ _ _ hs).mono ?_; rintro e w5 ⟨rfl, rfl⟩)
    | (go_at_call 14; refine (works_any _).mono ?_; rintro e w6 ⟨rfl, hb⟩; replace hB := tells_then hB hB.size hb; clear hb))
  all_goals go_ret
  all_goals exact ⟨by simp, hB⟩

theorem tells_any (s t : ByteArray) (n : Nat) (at_ width : Int) (w : World) (hs : s.size ≤ 140737488351232) (ht : t.size ≤ 140737488351232) (hn : n < 18446744073709551616) :
    Calls Try.prog 3 #[.agg #[.string s, .string t], .int .u64 n, .agg #[.int .i64 at_, .int .i64 width]] w fun e w' => e = .returned (.bool true) ∧ Below w.heap.size w w' := by
  have h : width % 8 = 0 ∨ width % 8 = 1 ∨ width % 8 = 2 ∨ width % 8 = 3 ∨ width % 8 = 4 ∨ width % 8 = 5 ∨ width % 8 = 6 ∨ width % 8 = 7 := by omega
  rcases h with h | h | h | h | h | h | h | h
  · exact tells_walk1 s t n at_ width w hs ht hn h
  · exact tells_walk2 s t n at_ width w hs ht hn h
  · exact tells_walk3 s t n at_ width w hs ht hn h
  · exact tells_walk4 s t n at_ width w hs ht hn h
  · exact tells_walk5 s t n at_ width w hs ht hn h
  · exact tells_walk6 s t n at_ width w hs ht hn h
  · exact tells_walk7 s t n at_ width w hs ht hn h
  · exact tells_walk8 s t n at_ width w hs ht hn h
end Go.Proofs.Ytchjfipgipikpaa
