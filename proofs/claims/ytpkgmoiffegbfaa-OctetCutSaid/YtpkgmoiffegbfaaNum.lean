/- The reader of layer 16: what Num, Text, Left and End answer: the walks through their text. Conditions: a text is no longer than an int holds. -/
import Derived.Test.YtpkgmoiffegbfaaGet
import Derived.Test.YtpkgmoiffegbfaaRead
namespace Go.Proofs.Ytpkgmoiffegbfaa
open Go.RowKit Go.BigFrame
set_option maxRecDepth 20000

theorem left_any (s : ByteArray) (N M : Nat) (a : Int) (bad : Bool) (w : World) (h : IsRd w N M s a bad) (ha : 0 ≤ a) (hb : a ≤ s.size) (hs : s.size ≤ 9223372036854775807) :
    Calls Try.prog 20 #[.pointer (some ⟨N, 0, none⟩)] w fun e w' => e = .returned (.int .i64 (if bad then 0 else s.size - a)) ∧ ∃ n, w' = w.drewN n := by
  obtain ⟨c0, c1, c2, c3, cM, f1, f3, hNM⟩ := h
  have hw : IntKind.i64.wrap ((s.size : Int) - a) = (s.size : Int) - a := wrap64 (by omega) (by omega)
  cases bad with
  | true =>
    go_enter Try.func20, Try.ntmps20
    go_wp2
    all_goals (go_ret; exact ⟨rfl, 0, rfl⟩)
  | false =>
    go_enter Try.func20, Try.ntmps20
    go_wp2
    all_goals (go_quiet (fail))
    all_goals (go_wp2; go_ret; exact ⟨rfl, _, rfl⟩)

theorem left_nil (w : World) : Calls Try.prog 20 #[.pointer none] w fun e w' => e = .returned (.int .i64 0) ∧ w' = w := by
  go_enter Try.func20, Try.ntmps20
  go_wp2
  all_goals (go_ret; exact ⟨rfl, rfl⟩)

theorem end_nil (w : World) : Calls Try.prog 22 #[.pointer none] w fun e w' => e = .returned (.int .i64 1) ∧ w' = w := by
  go_enter Try.func22, Try.ntmps22
  go_wp2
  all_goals (go_ret; exact ⟨rfl, rfl⟩)

theorem num_nil (n : Int) (w : World) : Calls Try.prog 18 #[.pointer none, .int .i64 n] w fun e w' => e = .returned (.int .u64 0) ∧ w' = w := by
  go_enter Try.func18, Try.ntmps18
  go_wp2
  all_goals (go_ret; exact ⟨rfl, rfl⟩)

theorem text_nil (w : World) : Calls Try.prog 16 #[.pointer none] w fun e w' => e = .returned (.string ⟨#[]⟩) ∧ w' = w := by
  go_enter Try.func16, Try.ntmps16
  go_wp2
  all_goals (go_ret; exact ⟨rfl, rfl⟩)

theorem end_any (s : ByteArray) (N M : Nat) (a : Int) (bad : Bool) (w : World) (h : IsRd w N M s a bad) (ha : 0 ≤ a) (hb : a ≤ s.size) (hs : s.size ≤ 9223372036854775807) :
    Calls Try.prog 22 #[.pointer (some ⟨N, 0, none⟩)] w fun e w' => e = .returned (.int .i64 (if bad then 14 else if a < s.size then 15 else 0)) ∧ ∃ n, w' = w.drewN n := by
  have hR := hide h
  obtain ⟨c0, c1, c2, c3, cM, f1, f3, hNM⟩ := h
  cases bad with
  | true =>
    go_enter Try.func22, Try.ntmps22
    go_wp2
    all_goals (go_ret; exact ⟨rfl, 0, rfl⟩)
  | false =>
    by_cases hlt : a < s.size
    · have hd : (0 : Int) < (s.size : Int) - a := by omega
      simp only [hlt]
      go_enter Try.func22, Try.ntmps22
      go_wp2_with (go_at_call 20; refine (left_any s N M a false _ hR.out ha hb hs).mono ?_; rintro e w' ⟨rfl, k, rfl⟩)
      all_goals (go_ret; exact ⟨rfl, _, rfl⟩)
    · have hd : ¬ (0 : Int) < (s.size : Int) - a := by omega
      simp only [hlt]
      go_enter Try.func22, Try.ntmps22
      go_wp2_with (go_at_call 20; refine (left_any s N M a false _ hR.out ha hb hs).mono ?_; rintro e w' ⟨rfl, k, rfl⟩)
      all_goals (go_ret; exact ⟨rfl, _, rfl⟩)

theorem num_bad (s : ByteArray) (N M : Nat) (a n : Int) (bad : Bool) (w : World) (h : IsRd w N M s a bad) (ha : 0 ≤ a) (hb : a ≤ s.size) (hs : s.size ≤ 9223372036854775807)
    (hbad : bad = true ∨ n < 1 ∨ 8 < n ∨ s.size - a < n) :
    Calls Try.prog 18 #[.pointer (some ⟨N, 0, none⟩), .int .i64 n] w fun e w' => e = .returned (.int .u64 0) ∧ w.grownBy w' (some N) ∧ IsRd w' N M s a true := by
  have hR := hide h
  obtain ⟨c0, c1, c2, c3, cM, f1, f3, hNM⟩ := h
  cases bad with
  | true =>
    clear hbad
    go_enter Try.func18, Try.ntmps18
    go_wp2_with (go_at_call 39; refine (step_any s N M a n true _ (hR.out.bad true) ha hb hs (.inl rfl)).mono ?_; rintro e w' ⟨rfl, hg, hr⟩; simp only [Bool.true_or, Bool.not_true, if_true] at hr ⊢)
    all_goals (go_ret; exact ⟨rfl, grown_trans (grown_set w ⟨N, 3, none⟩ _) hg, hr⟩)
  | false =>
    by_cases hw : n < 1 ∨ 8 < n
    · clear hbad
      go_enter Try.func18, Try.ntmps18
      go_wp2_with (first | (go_at_call 41; refine (wide_no _ _ hw).mono ?_; rintro e w' ⟨rfl, rfl⟩) | (go_at_call 39; refine (step_any s N M a n true _ (hR.out.bad true) ha hb hs (.inl rfl)).mono ?_; rintro e w' ⟨rfl, hg, hr⟩; simp only [Bool.true_or, Bool.not_true, if_true] at hr ⊢))
      all_goals (go_ret; exact ⟨rfl, grown_trans (grown_set w ⟨N, 3, none⟩ _) hg, hr⟩)
    · have hd : decide ((s.size : Int) - a < n) = true := by simp only [Bool.false_eq_true, false_or] at hbad; simp only [decide_eq_true_eq]; omega
      have h1 : 1 ≤ n := by omega
      have h8 : n ≤ 8 := by omega
      clear hbad hw
      go_enter Try.func18, Try.ntmps18
      go_wp2_with (first | (go_at_call 41; refine (wide_yes _ _ h1 h8).mono ?_; rintro e w' ⟨rfl, rfl⟩) | (go_at_call 39; refine (step_any s N M a n false _ (hR.out.bad false) ha hb hs ?_).mono ?_; exact .inr (by omega); rintro e w' ⟨rfl, hg, hr⟩; simp only [hd, Bool.false_or, Bool.not_true, if_true] at hr ⊢))
      all_goals (go_ret; exact ⟨rfl, grown_trans (grown_set w ⟨N, 3, none⟩ _) hg, hr⟩)

theorem num_ok (s : ByteArray) (N M : Nat) (a n : Int) (w : World) (h : IsRd w N M s a false) (ha : 0 ≤ a) (hs : s.size ≤ 9223372036854775807)
    (h1 : 1 ≤ n) (h8 : n ≤ 8) (hf : a + n ≤ s.size) :
    Calls Try.prog 18 #[.pointer (some ⟨N, 0, none⟩), .int .i64 n] w fun e w' => e = .returned (.int .u64 (val ((s.data.toList.drop a.toNat).take n.toNat))) ∧ w.grownBy w' (some N) ∧ IsRd w' N M s (a + n) false := by
  have hR := hide h
  obtain ⟨c0, c1, c2, c3, cM, f1, f3, hNM⟩ := h
  have hd : decide ((s.size : Int) - a < n) = false := by simp; omega
  have hw1 : IntKind.i64.wrap (a + n - n) = a := by rw [wrap64 (by omega) (by omega)]; omega
  have HW := hide hw1
  clear hw1
  go_enter Try.func18, Try.ntmps18
  go_wp2_with (first | (go_at_call 41; refine (wide_yes _ _ h1 h8).mono ?_; rintro e w' ⟨rfl, rfl⟩) | (go_at_call 39; refine (step_any s N M a n false _ (hR.out.bad false) ha (by omega) hs ?_).mono ?_; exact .inr (by omega); rintro e w1 ⟨rfl, hg, hr⟩; simp only [hd, Bool.false_or, Bool.not_false, Bool.false_eq_true, if_false] at hr ⊢; have hR1 := hide hr; obtain ⟨d0, d1, d2, d3, dM, g1, g3, hNM1⟩ := hr))
  have hw1 := HW.out
  all_goals (go_quiet ((go_at_call 29; refine (get_ok s a n _ hs h1 h8 ha hf).mono ?_; rintro e w' ⟨rfl, rfl⟩; exact ⟨rfl, _, rfl⟩)))
  all_goals (go_wp2; go_ret; exact ⟨rfl, grown_trans (grown_trans (grown_set w ⟨N, 3, none⟩ _) hg) ⟨rfl, rfl, rfl, Nat.le_refl _, fun _ _ _ => rfl⟩, hR1.out⟩)
end Go.Proofs.Ytpkgmoiffegbfaa
