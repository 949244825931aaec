/- Texts of layer 16: what Text answers where a text is cut, what PutText makes, and the chapter's examples. Conditions: a text has at most 140737488351232 bytes. -/
import Derived.Test.YtpkgmoiffegbfaaNum
import Derived.Test.YtpkgmoiffegbfaaOver
import Derived.BigGuard
namespace Go.Proofs.Ytpkgmoiffegbfaa
open Go.RowKit Go.BigFrame
set_option maxRecDepth 20000

theorem text_bad (s : ByteArray) (N M : Nat) (a : Int) (bad : Bool) (w : World) (h : IsRd w N M s a bad) (ha : 0 ≤ a) (hb : a ≤ s.size) (hs : s.size ≤ 9223372036854775807)
    (hbad : bad = true ∨ s.size - a < 2) :
    Calls Try.prog 16 #[.pointer (some ⟨N, 0, none⟩)] w fun e w' => e = .returned (.string ⟨#[]⟩) ∧ w.grownBy w' (some N) ∧ IsRd w' N M s a true := by
  have hB : bad = true ∨ (2 : Int) < 1 ∨ (8 : Int) < 2 ∨ s.size - a < 2 := by rcases hbad with h | h <;> simp [h]
  clear hbad
  have hR := hide h
  go_enter Try.func16, Try.ntmps16
  go_wp2_with (first | (go_at_call 18; refine (num_bad s N M a 2 bad _ hR.out ha hb hs hB).mono ?_; rintro e w1 ⟨rfl, hg, hr⟩; have hR1 := hide hr; obtain ⟨d0, d1, d2, d3, dM, g1, g3, hNM1⟩ := hr) | (go_at_call 39; refine (step_any s N M a 0 true _ hR1.out ha hb hs (.inl rfl)).mono ?_; rintro e w2 ⟨rfl, hg2, hr2⟩; simp only [Bool.true_or, Bool.not_true, if_true] at hr2 ⊢))
  all_goals (go_ret; exact ⟨rfl, grown_trans hg hg2, hr2⟩)

theorem text_cut (s : ByteArray) (N M : Nat) (a : Int) (w : World) (h : IsRd w N M s a false) (ha : 0 ≤ a) (hs : s.size ≤ 9223372036854775807)
    (hf : a + 2 ≤ s.size) (k : Nat) (hk : val ((s.data.toList.drop a.toNat).take 2) = k) (hk2 : k ≤ 65535) (hcut : s.size - (a + 2) < k) :
    Calls Try.prog 16 #[.pointer (some ⟨N, 0, none⟩)] w fun e w' => e = .returned (.string ⟨#[]⟩) ∧ w.grownBy w' (some N) ∧ IsRd w' N M s (a + 2) true := by
  have hR := hide h
  have hd : decide ((s.size : Int) - (a + 2) < (k : Int)) = true := by simp [hcut]
  have hK := hide hk
  have hw : IntKind.i64.wrap (k : Int) = k := wrap64 (by omega) (by omega)
  clear hk h
  go_enter Try.func16, Try.ntmps16
  go_wp2_with (first | (go_at_call 18; refine (num_ok s N M a 2 _ hR.out ha hs ?_ ?_ hf).mono ?_; decide; decide; rintro e w1 ⟨rfl, hg, hr⟩; rw [show (2 : Int).toNat = 2 from rfl, hK.out]; have hR1 := hide hr; obtain ⟨d0, d1, d2, d3, dM, g1, g3, hNM1⟩ := hr) | (go_at_call 39; refine (step_any s N M (a + 2) k false _ hR1.out ?_ hf hs ?_).mono ?_; omega; exact .inr (by omega); rintro e w2 ⟨rfl, hg2, hr2⟩; simp only [hd, Bool.false_or, Bool.not_true, if_true] at hr2 ⊢))
  all_goals (go_ret; exact ⟨rfl, grown_trans hg hg2, hr2⟩)

theorem puttext_fit (s t : ByteArray) (w : World) (hs : s.size ≤ 140737488351232) (ht : t.size ≤ 65535) :
    Calls Try.prog 10 #[.string s, .string t] w fun e w' => e = .returned (.tuple #[.string (⟨(s.data.toList ++ be 2 t.size).toArray⟩ ++ t), .int .i64 0]) ∧ Below w.heap.size w w' := by
  have hw : IntKind.u64.wrap (t.size : Int) = t.size := by simp [IntKind.wrap, IntKind.bits, IntKind.signed]; omega
  have hc : ¬ 9223372036854775807 < s.size + (be 2 t.size).length + t.size := by rw [be_length]; omega
  go_enter Try.func10, Try.ntmps10
  go_wp2_with (go_at_call 28; refine (put_fit2 s t.size _ ?_ ?_ hs).mono ?_; omega; omega; rintro e w1 ⟨rfl, hb⟩; simp only [Int.toNat_natCast])
  all_goals (go_ret2; exact ⟨rfl, hb⟩)
end Go.Proofs.Ytpkgmoiffegbfaa
