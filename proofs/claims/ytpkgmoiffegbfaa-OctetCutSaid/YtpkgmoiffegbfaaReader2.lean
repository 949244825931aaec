/- Layer 16: the document's reader: Text, Left, End; and both readers side by side. Conditions: a text has at most 140737488351232 bytes. -/
import Derived.Test.YtpkgmoiffegbfaaReader
namespace Go.Proofs.Ytpkgmoiffegbfaa
open Go.RowKit Go.BigFrame
set_option maxRecDepth 20000

theorem rtext_any (s : ByteArray) (K a : Nat) (bad : Bool) (w : World) (h : IsRf w K s a bad) (ha : a ≤ s.size) (hs : s.size ≤ 140737488351232) :
    Calls Try.prog 17 #[.pointer (some ⟨K, 0, none⟩)] w fun e w' => e = .returned (.string (textS s a bad).1) ∧ w.grownBy w' (some K) ∧ IsRf w' K s (textS s a bad).2.1 (textS s a bad).2.2 := by
  have hv := two_lt (s.data.toList.drop a)
  have hnum := rnum_any s K a 2 bad w h ha hs
  have hR := hide h
  clear h
  by_cases hb : bad = true ∨ (s.size : Int) - a < 2
  · have hp : textS s a bad = (⟨#[]⟩, a, true) := if_pos hb
    have hq : numS s a bad 2 = (0, a, true) := if_pos (by rcases hb with h | h <;> simp [h])
    rw [hp]
    rw [hq] at hnum
    clear hp hq hb hv
    go_enter Try.func17, Try.ntmps17
    go_wp2_with (first | (go_at_call 19; refine hnum.mono ?_; rintro e w1 ⟨rfl, hg, hr1⟩; have hR1 := hide hr1; obtain ⟨rest, c0, c1, f0, f1, hrs, hrr⟩ := hr1) | (go_at_call 40; refine (take_bad rest K 0 true _ c0 c1 f0 f1 hrs (.inl rfl)).mono ?_; rintro e w2 ⟨rfl, j, rfl⟩))
    all_goals (go_ret; exact ⟨rfl, grown_trans hg (set_keeps 1 j), hR1.out.break a j⟩)
  · have hbad : bad = false := by cases bad <;> simp_all
    subst hbad
    obtain ⟨v, hvv⟩ : ∃ v, val ((s.data.toList.drop a).take 2) = v := ⟨_, rfl⟩
    have hq : numS s a false 2 = (v, a + 2, false) := by
      unfold numS
      rw [if_neg (by simp; omega), show (2 : Int).toNat = 2 from rfl, hvv]
    rw [hvv] at hv
    have ha2 : a + 2 ≤ s.size := by omega
    have hw : IntKind.i64.wrap (v : Int) = v := wrap64 (by omega) (by omega)
    rw [hq] at hnum
    by_cases hc : (s.size : Int) - (a + 2 : Nat) < v
    · have hp : textS s a false = (⟨#[]⟩, a + 2, true) := by unfold textS; rw [if_neg hb, hvv, if_pos hc]
      rw [hp]
      have hlt : ∀ rest : ByteArray, (false = false → rest = s.extract (a + 2) s.size) → rest.size < v := fun rest hr => by rw [hr rfl, rest_size]; omega
      clear hp hq hb hvv hc
      go_enter Try.func17, Try.ntmps17
      go_wp2_with (first | (go_at_call 19; refine hnum.mono ?_; rintro e w1 ⟨rfl, hg, hr1⟩; have hR1 := hide hr1; obtain ⟨rest, c0, c1, f0, f1, hrs, hrr⟩ := hr1; have hl := hlt rest hrr; clear hrr hlt) | (go_at_call 40; refine (take_bad rest K v false _ c0 c1 f0 f1 hrs (.inr hl)).mono ?_; rintro e w2 ⟨rfl, j, rfl⟩))
      all_goals (go_ret; exact ⟨rfl, grown_trans hg (set_keeps 1 j), hR1.out.break (a + 2) j⟩)
    · have hp : textS s a false = (s.extract (a + 2) (a + 2 + v), a + 2 + v, false) := by unfold textS; rw [if_neg hb, hvv, if_neg hc]
      rw [hp]
      have hle : ∀ rest : ByteArray, (false = false → rest = s.extract (a + 2) s.size) → v ≤ rest.size ∧ rest.extract 0 v = s.extract (a + 2) (a + 2 + v) := fun rest hr => by
        rw [hr rfl, rest_size, rest_head, Nat.min_eq_left (by omega)]
        exact ⟨by omega, rfl⟩
      have HL := hide hle
      clear hp hq hb hvv hc hle
      go_enter Try.func17, Try.ntmps17
      go_wp2_with (first | (go_at_call 19; refine hnum.mono ?_; rintro e w1 ⟨rfl, hg, hr1⟩; have hR1 := hide hr1; obtain ⟨rest, c0, c1, f0, f1, hrs, hrr⟩ := hr1; have hl := (HL.out rest hrr).1; have hx := hide (HL.out rest hrr).2; clear hrr) | (go_at_call 40; refine (take_ok rest K v _ c0 c1 f0 f1 hrs hl).mono ?_; rintro e w2 ⟨rfl, j, rfl⟩))
      all_goals (go_ret; exact ⟨by rw [hx.out]; rfl, grown_trans hg (set_keeps 0 j), hR1.out.on ha2 v j rest c0⟩)

def leftS (s : ByteArray) (a : Nat) (bad : Bool) : Int := if bad then 0 else s.size - a
def endS (s : ByteArray) (a : Nat) (bad : Bool) : Int := if bad then 14 else if (a : Int) < s.size then 15 else 0

theorem rleft_any (s : ByteArray) (K a : Nat) (bad : Bool) (w : World) (h : IsRf w K s a bad) (ha : a ≤ s.size) :
    Calls Try.prog 21 #[.pointer (some ⟨K, 0, none⟩)] w fun e w' => e = .returned (.int .i64 (leftS s a bad)) ∧ ∃ n, w' = w.drewN n := by
  obtain ⟨rest, c0, c1, f0, f1, hrs, hrr⟩ := h
  cases bad with
  | true =>
    clear hrr
    go_enter Try.func21, Try.ntmps21
    go_wp2
    all_goals (go_ret; exact ⟨rfl, 0, rfl⟩)
  | false =>
    have e : (rest.size : Int) = s.size - a := by rw [hrr rfl, rest_size]; omega
    have E := hide e
    clear hrr e
    go_enter Try.func21, Try.ntmps21
    go_wp2
    all_goals (go_ret; exact ⟨by rw [E.out]; rfl, 0, rfl⟩)
theorem rend_any (s : ByteArray) (K a : Nat) (bad : Bool) (w : World) (h : IsRf w K s a bad) (ha : a ≤ s.size) :
    Calls Try.prog 23 #[.pointer (some ⟨K, 0, none⟩)] w fun e w' => e = .returned (.int .i64 (endS s a bad)) ∧ ∃ n, w' = w.drewN n := by
  obtain ⟨rest, c0, c1, f0, f1, hrs, hrr⟩ := h
  cases bad with
  | true =>
    clear hrr
    go_enter Try.func23, Try.ntmps23
    go_wp2
    all_goals (go_ret; exact ⟨rfl, 0, rfl⟩)
  | false =>
    have e : rest.size = s.size - a := by rw [hrr rfl, rest_size]
    by_cases hlt : 0 < rest.size
    · have hp : endS s a false = 15 := by
        unfold endS
        rw [if_neg (by simp), if_pos (by omega)]
      rw [hp]
      clear hrr e hp
      go_enter Try.func23, Try.ntmps23
      go_wp2
      all_goals (go_ret; exact ⟨rfl, 0, rfl⟩)
    · have hp : endS s a false = 0 := by
        unfold endS
        rw [if_neg (by simp), if_neg (by omega)]
      rw [hp]
      have h0 : rest.size = 0 := by omega
      clear hrr e hp hlt
      go_enter Try.func23, Try.ntmps23
      go_wp2
      all_goals (go_ret; exact ⟨rfl, 0, rfl⟩)

/-- Both readers, the program's ahead by one step (a', bad'). -/
def Mid (w : World) (N M K : Nat) (s : ByteArray) (a : Nat) (bad : Bool) (a' : Nat) (bad' : Bool) : Prop :=
  (IsRd w N M s a' bad' ∧ N < w.heap.size ∧ M < w.heap.size) ∧ (IsRf w K s a bad ∧ K < w.heap.size) ∧ N ≠ K ∧ M ≠ K
/-- Both readers at one place. -/
def Both (w : World) (N M K : Nat) (s : ByteArray) (a : Nat) (bad : Bool) : Prop := Mid w N M K s a bad a bad
theorem Both.drewN {w : World} {N M K : Nat} {s : ByteArray} {a : Nat} {bad : Bool} (h : Both w N M K s a bad) (n : Nat) : Both (w.drewN n) N M K s a bad := h

variable {w : World} {N M K : Nat} {s : ByteArray} {a : Nat} {bad : Bool}
theorem mid_o {w' : World} {a' : Nat} {bad' : Bool} (h : Both w N M K s a bad) (g : w.grownBy w' (some N)) (hd : IsRd w' N M s a' bad') : Mid w' N M K s a bad a' bad' := by
  obtain ⟨⟨h1, n1, m1⟩, ⟨h2, k1⟩, nk, mk⟩ := h
  exact ⟨⟨hd, Nat.lt_of_lt_of_le n1 g.size, Nat.lt_of_lt_of_le m1 g.size⟩, ⟨h2.grown g (by simpa using Ne.symm nk) k1, Nat.lt_of_lt_of_le k1 g.size⟩, nk, mk⟩
theorem mid_r {w' : World} {a' : Nat} {bad' : Bool} (h : Mid w N M K s a bad a' bad') (g : w.grownBy w' (some K)) (hf : IsRf w' K s a' bad') : Both w' N M K s a' bad' := by
  obtain ⟨⟨h1, n1, m1⟩, ⟨h2, k1⟩, nk, mk⟩ := h
  exact ⟨⟨h1.grown g (by simpa using nk) (by simpa using mk) n1 m1, Nat.lt_of_lt_of_le n1 g.size, Nat.lt_of_lt_of_le m1 g.size⟩, ⟨hf, Nat.lt_of_lt_of_le k1 g.size⟩, nk, mk⟩
theorem both_text1 (h : Both w N M K s a bad) (ha : a ≤ s.size) (hs : s.size ≤ 140737488351232) :
    Calls Try.prog 16 #[.pointer (some ⟨N, 0, none⟩)] w fun e w' => e = .returned (.string (textS s a bad).1) ∧ w.grownBy w' (some N) ∧ Mid w' N M K s a bad (textS s a bad).2.1 (textS s a bad).2.2 := by
  refine (otext_any s N M a bad w h.1.1 ha hs).mono ?_
  rintro e w' ⟨rfl, g, hd⟩
  exact ⟨rfl, g, mid_o h g hd⟩
theorem both_text2 (h : Mid w N M K s a bad (textS s a bad).2.1 (textS s a bad).2.2) (ha : a ≤ s.size) (hs : s.size ≤ 140737488351232) :
    Calls Try.prog 17 #[.pointer (some ⟨K, 0, none⟩)] w fun e w' => e = .returned (.string (textS s a bad).1) ∧ w.grownBy w' (some K) ∧ Both w' N M K s (textS s a bad).2.1 (textS s a bad).2.2 := by
  refine (rtext_any s K a bad w h.2.1.1 ha hs).mono ?_
  rintro e w' ⟨rfl, g, hf⟩
  exact ⟨rfl, g, mid_r h g hf⟩
theorem both_num1 (n : Int) (h : Both w N M K s a bad) (ha : a ≤ s.size) (hs : s.size ≤ 140737488351232) :
    Calls Try.prog 18 #[.pointer (some ⟨N, 0, none⟩), .int .i64 n] w fun e w' => e = .returned (.int .u64 (numS s a bad n).1) ∧ w.grownBy w' (some N) ∧ Mid w' N M K s a bad (numS s a bad n).2.1 (numS s a bad n).2.2 := by
  refine (onum_any s N M a n bad w h.1.1 ha hs).mono ?_
  rintro e w' ⟨rfl, g, hd⟩
  exact ⟨rfl, g, mid_o h g hd⟩
theorem both_num2 (n : Int) (h : Mid w N M K s a bad (numS s a bad n).2.1 (numS s a bad n).2.2) (ha : a ≤ s.size) (hs : s.size ≤ 140737488351232) :
    Calls Try.prog 19 #[.pointer (some ⟨K, 0, none⟩), .int .i64 n] w fun e w' => e = .returned (.int .u64 (numS s a bad n).1) ∧ w.grownBy w' (some K) ∧ Both w' N M K s (numS s a bad n).2.1 (numS s a bad n).2.2 := by
  refine (rnum_any s K a n bad w h.2.1.1 ha hs).mono ?_
  rintro e w' ⟨rfl, g, hf⟩
  exact ⟨rfl, g, mid_r h g hf⟩
theorem both_left1 (h : Both w N M K s a bad) (ha : a ≤ s.size) (hs : s.size ≤ 140737488351232) :
    Calls Try.prog 20 #[.pointer (some ⟨N, 0, none⟩)] w fun e w' => e = .returned (.int .i64 (leftS s a bad)) ∧ ∃ n, w' = w.drewN n :=
  left_any s N M a bad w h.1.1 (by omega) (by omega) (by omega)
theorem both_left2 (h : Both w N M K s a bad) (ha : a ≤ s.size) :
    Calls Try.prog 21 #[.pointer (some ⟨K, 0, none⟩)] w fun e w' => e = .returned (.int .i64 (leftS s a bad)) ∧ ∃ n, w' = w.drewN n :=
  rleft_any s K a bad w h.2.1.1 ha
theorem both_end1 (h : Both w N M K s a bad) (ha : a ≤ s.size) (hs : s.size ≤ 140737488351232) :
    Calls Try.prog 22 #[.pointer (some ⟨N, 0, none⟩)] w fun e w' => e = .returned (.int .i64 (endS s a bad)) ∧ ∃ n, w' = w.drewN n :=
  end_any s N M a bad w h.1.1 (by omega) (by omega) (by omega)
theorem both_end2 (h : Both w N M K s a bad) (ha : a ≤ s.size) :
    Calls Try.prog 23 #[.pointer (some ⟨K, 0, none⟩)] w fun e w' => e = .returned (.int .i64 (endS s a bad)) ∧ ∃ n, w' = w.drewN n :=
  rend_any s K a bad w h.2.1.1 ha
end Go.Proofs.Ytpkgmoiffegbfaa
