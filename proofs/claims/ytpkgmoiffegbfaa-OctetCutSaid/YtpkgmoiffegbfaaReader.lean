/- Layer 16: both readers, the program's and the document's, answer alike: what Num, Text, Left and End answer, by a law on the text, the place and whether it is broken. Conditions: a text has at most 140737488351232 bytes. -/
import Derived.Test.YtpkgmoiffegbfaaLaid
namespace Go.Proofs.Ytpkgmoiffegbfaa
open Go.RowKit Go.BigFrame
set_option maxRecDepth 20000

/-- A step by a number in so many bytes: what is told, the place behind it, and whether the reader is broken. -/
def numS (s : ByteArray) (a : Nat) (bad : Bool) (n : Int) : Nat × Nat × Bool :=
  if bad = true ∨ n < 1 ∨ 8 < n ∨ (s.size : Int) - a < n then (0, a, true) else (val ((s.data.toList.drop a).take n.toNat), a + n.toNat, false)
/-- A step by a text. -/
def textS (s : ByteArray) (a : Nat) (bad : Bool) : ByteArray × Nat × Bool :=
  if bad = true ∨ (s.size : Int) - a < 2 then (⟨#[]⟩, a, true)
  else if (s.size : Int) - (a + 2 : Nat) < val ((s.data.toList.drop a).take 2) then (⟨#[]⟩, a + 2, true)
  else (s.extract (a + 2) (a + 2 + val ((s.data.toList.drop a).take 2)), a + 2 + val ((s.data.toList.drop a).take 2), false)

theorem numS_le (s : ByteArray) (a : Nat) (bad : Bool) (n : Int) (h : a ≤ s.size) : (numS s a bad n).2.1 ≤ s.size := by
  unfold numS
  split
  · exact h
  · show a + n.toNat ≤ s.size
    omega
theorem textS_le (s : ByteArray) (a : Nat) (bad : Bool) (h : a ≤ s.size) : (textS s a bad).2.1 ≤ s.size := by
  unfold textS
  split
  · exact h
  · split
    · show a + 2 ≤ s.size
      omega
    · show a + 2 + _ ≤ s.size
      omega

theorem onum_any (s : ByteArray) (N M a : Nat) (n : Int) (bad : Bool) (w : World) (h : IsRd w N M s a bad) (ha : a ≤ s.size) (hs : s.size ≤ 140737488351232) :
    Calls Try.prog 18 #[.pointer (some ⟨N, 0, none⟩), .int .i64 n] w fun e w' => e = .returned (.int .u64 (numS s a bad n).1) ∧ w.grownBy w' (some N) ∧ IsRd w' N M s (numS s a bad n).2.1 (numS s a bad n).2.2 := by
  by_cases hb : bad = true ∨ n < 1 ∨ 8 < n ∨ (s.size : Int) - a < n
  · have hp : numS s a bad n = (0, a, true) := if_pos hb
    rw [hp]
    exact num_bad s N M a n bad w h (by omega) (by omega) (by omega) hb
  · have hp : numS s a bad n = (val ((s.data.toList.drop a).take n.toNat), a + n.toNat, false) := if_neg hb
    rw [hp]
    have hbad : bad = false := by cases bad <;> simp_all
    subst hbad
    have e : ((a + n.toNat : Nat) : Int) = (a : Int) + n := by omega
    show Calls Try.prog 18 _ w fun e w' => e = .returned (.int .u64 (val ((s.data.toList.drop a).take n.toNat))) ∧ w.grownBy w' (some N) ∧ IsRd w' N M s ((a + n.toNat : Nat) : Int) false
    rw [e]
    exact num_ok s N M a n w h (by omega) (by omega) (by omega) (by omega) (by omega)

theorem two_lt (l : List UInt8) : val (l.take 2) < 65536 := by
  refine Nat.lt_of_lt_of_le (val_lt _) ?_
  have hl : (l.take 2).length ≤ 2 := by simp; omega
  exact Nat.pow_le_pow_right (n := 256) (by decide) hl

theorem text_ok (s : ByteArray) (N M : Nat) (a : Int) (w : World) (h : IsRd w N M s a false) (ha : 0 ≤ a) (hs : s.size ≤ 140737488351232)
    (hf : a + 2 ≤ s.size) (k : Nat) (hk : val ((s.data.toList.drop a.toNat).take 2) = k) (hk2 : k ≤ 65535) (hcut : (k : Int) ≤ s.size - (a + 2)) :
    Calls Try.prog 16 #[.pointer (some ⟨N, 0, none⟩)] w fun e w' => e = .returned (.string (s.extract (a + 2).toNat (a + 2 + k).toNat)) ∧ w.grownBy w' (some N) ∧ IsRd w' N M s (a + 2 + k) false := by
  have hR := hide h
  have hd : decide ((s.size : Int) - (a + 2) < (k : Int)) = false := by simp [hcut]
  have hK := hide hk
  have hw : IntKind.i64.wrap (k : Int) = k := wrap64 (by omega) (by omega)
  clear hk h
  have hw2 : IntKind.i64.wrap (a + 2 + (k : Int) - (k : Int)) = a + 2 := by rw [wrap64 (by omega) (by omega)]; omega
  have hx : 0 ≤ a + 2 := by omega
  have hy : a + 2 ≤ a + 2 + (k : Int) := by omega
  have hz : a + 2 + (k : Int) ≤ s.size := by omega
  have HW := hide (And.intro hw2 (And.intro hx (And.intro hy hz)))
  clear hw2 hx hy hz
  go_enter Try.func16, Try.ntmps16
  go_wp2_with (first | (go_at_call 18; refine (num_ok s N M a 2 _ hR.out ha ?_ ?_ ?_ hf).mono ?_; omega; decide; decide; rintro e w1 ⟨rfl, hg, hr⟩; rw [show (2 : Int).toNat = 2 from rfl, hK.out]; have hR1 := hide hr; obtain ⟨d0, d1, d2, d3, dM, g1, g3, hNM1⟩ := hr) | (go_at_call 39; refine (step_any s N M (a + 2) k false _ hR1.out ?_ hf ?_ ?_).mono ?_; omega; omega; exact .inr (by omega); rintro e w2 ⟨rfl, hg2, hr2⟩; simp only [hd, Bool.false_or, Bool.not_false, Bool.false_eq_true, if_false] at hr2 ⊢; have hR2 := hide hr2; obtain ⟨m0, m1, m2, m3, mM, n1, n3, hNM2⟩ := hr2))
  obtain ⟨hw2, hx, hy, hz⟩ := HW.out
  all_goals (go_quiet (fail))
  all_goals (go_wp2; go_ret; exact ⟨rfl, grown_trans (grown_trans hg hg2) ⟨rfl, rfl, rfl, Nat.le_refl _, fun _ _ _ => rfl⟩, hR2.out⟩)

theorem otext_any (s : ByteArray) (N M a : Nat) (bad : Bool) (w : World) (h : IsRd w N M s a bad) (ha : a ≤ s.size) (hs : s.size ≤ 140737488351232) :
    Calls Try.prog 16 #[.pointer (some ⟨N, 0, none⟩)] w fun e w' => e = .returned (.string (textS s a bad).1) ∧ w.grownBy w' (some N) ∧ IsRd w' N M s (textS s a bad).2.1 (textS s a bad).2.2 := by
  have hv := two_lt (s.data.toList.drop a)
  by_cases hb : bad = true ∨ (s.size : Int) - a < 2
  · have hp : textS s a bad = (⟨#[]⟩, a, true) := if_pos hb
    rw [hp]
    exact text_bad s N M a bad w h (by omega) (by omega) (by omega) hb
  · have hbad : bad = false := by cases bad <;> simp_all
    subst hbad
    by_cases hc : (s.size : Int) - (a + 2 : Nat) < val ((s.data.toList.drop a).take 2)
    · have hp : textS s a false = (⟨#[]⟩, a + 2, true) := by unfold textS; rw [if_neg hb, if_pos hc]
      rw [hp]
      exact text_cut s N M a w h (by omega) (by omega) (by omega) _ rfl (by first | omega | (simp only [Int.toNat_natCast]; omega)) (by first | omega | (simp only [Int.toNat_natCast]; omega))
    · have hp : textS s a false = (s.extract (a + 2) (a + 2 + val ((s.data.toList.drop a).take 2)), a + 2 + val ((s.data.toList.drop a).take 2), false) := by unfold textS; rw [if_neg hb, if_neg hc]
      rw [hp]
      exact text_ok s N M a w h (by omega) (by omega) (by omega) _ rfl (by first | omega | (simp only [Int.toNat_natCast]; omega)) (by first | omega | (simp only [Int.toNat_natCast]; omega))
/-- The document's reader at K: broken or not; if not, its rest is the text from the place on. -/
def IsRf (w : World) (K : Nat) (s : ByteArray) (a : Nat) (bad : Bool) : Prop :=
  ∃ rest : ByteArray, w.cell? ⟨K, 0, none⟩ = some (.string rest) ∧ w.cell? ⟨K, 1, none⟩ = some (.bool bad) ∧ w.frozen? ⟨K, 0, none⟩ = false ∧ w.frozen? ⟨K, 1, none⟩ = false ∧ rest.size ≤ 140737488351232 ∧ (bad = false → rest = s.extract a s.size)
theorem rest_size (s : ByteArray) (a : Nat) : (s.extract a s.size).size = s.size - a := by
  rw [ByteArray.size_extract]
  omega
theorem rest_list (s : ByteArray) (a : Nat) : (s.extract a s.size).data.toList = s.data.toList.drop a := by
  rw [ByteArray.data_extract, Array.toList_extract, List.extract_eq_take_drop]
  rw [List.take_of_length_le]
  rw [List.length_drop, Array.length_toList]
  exact Nat.le_refl _
theorem rest_head (s : ByteArray) (a n : Nat) : (s.extract a s.size).extract 0 n = s.extract a (min (a + n) s.size) := by
  rw [ByteArray.extract_extract]
  simp
theorem rest_tail (s : ByteArray) (a n : Nat) (h : a ≤ s.size) : (s.extract a s.size).extract n (s.extract a s.size).size = s.extract (a + n) s.size := by
  rw [ByteArray.extract_extract, rest_size]
  congr 1
  omega
theorem IsRf.grown {w w' : World} {K : Nat} {s : ByteArray} {a : Nat} {bad : Bool} (h : IsRf w K s a bad) {r : Option Nat} (g : w.grownBy w' r) (hK : some K ≠ r) (h1 : K < w.heap.size) : IsRf w' K s a bad := by
  obtain ⟨rest, c0, c1, f0, f1, hs, hr⟩ := h
  have gK := g.block K h1 hK
  exact ⟨rest, (World.cell?_of_block (a := ⟨K, 0, none⟩) gK).trans c0, (World.cell?_of_block (a := ⟨K, 1, none⟩) gK).trans c1, (World.frozen?_of_block (a := ⟨K, 0, none⟩) gK).trans f0, (World.frozen?_of_block (a := ⟨K, 1, none⟩) gK).trans f1, hs, hr⟩

/-- take, where so many bytes are there. -/
theorem take_ok (rest : ByteArray) (K : Nat) (n : Nat) (w : World) (c0 : w.cell? ⟨K, 0, none⟩ = some (.string rest)) (c1 : w.cell? ⟨K, 1, none⟩ = some (.bool false)) (f0 : w.frozen? ⟨K, 0, none⟩ = false) (_f1 : w.frozen? ⟨K, 1, none⟩ = false)
    (_hs : rest.size ≤ 140737488351232) (hn : n ≤ rest.size) :
    Calls Try.prog 40 #[.pointer (some ⟨K, 0, none⟩), .int .i64 n] w fun e w' => e = .returned (.string (rest.extract 0 n)) ∧ ∃ j, w' = (w.setCell ⟨K, 0, none⟩ (.string (rest.extract n rest.size))).drewN j := by
  have hd : decide (rest.size < n) = false := by simp only [decide_eq_false_iff_not]; omega
  have h0 : 0 ≤ (n : Int) := by omega
  have h1 : (n : Int) ≤ rest.size := by omega
  go_enter Try.func40, Try.ntmps40
  go_wp2
  all_goals (go_ret; exact ⟨rfl, 0, rfl⟩)
theorem take_bad (rest : ByteArray) (K : Nat) (n : Nat) (bad : Bool) (w : World) (c0 : w.cell? ⟨K, 0, none⟩ = some (.string rest)) (c1 : w.cell? ⟨K, 1, none⟩ = some (.bool bad)) (_f0 : w.frozen? ⟨K, 0, none⟩ = false) (f1 : w.frozen? ⟨K, 1, none⟩ = false)
    (_hs : rest.size ≤ 140737488351232) (hb : bad = true ∨ rest.size < n) :
    Calls Try.prog 40 #[.pointer (some ⟨K, 0, none⟩), .int .i64 n] w fun e w' => e = .returned (.string ⟨#[]⟩) ∧ ∃ j, w' = (w.setCell ⟨K, 1, none⟩ (.bool true)).drewN j := by
  cases bad with
  | true =>
    clear hb
    go_enter Try.func40, Try.ntmps40
    go_wp2
    all_goals (go_ret; exact ⟨rfl, 0, rfl⟩)
  | false =>
    have hb : rest.size < n := by simpa using hb
    go_enter Try.func40, Try.ntmps40
    go_wp2
    all_goals (go_ret; exact ⟨rfl, 0, rfl⟩)
theorem set_keeps {w : World} {K : Nat} {v : Value} (i : Nat) (n : Nat) : w.grownBy ((w.setCell ⟨K, i, none⟩ v).drewN n) (some K) :=
  grown_trans (grown_set w ⟨K, i, none⟩ v) ⟨rfl, rfl, rfl, Nat.le_refl _, fun _ _ _ => rfl⟩
theorem IsRf.break {w : World} {K : Nat} {s : ByteArray} {a : Nat} {bad : Bool} (h : IsRf w K s a bad) (b n : Nat) : IsRf ((w.setCell ⟨K, 1, none⟩ (.bool true)).drewN n) K s b true := by
  obtain ⟨rest, c0, c1, f0, f1, hs, hr⟩ := h
  refine ⟨rest, ?_, ?_, ?_, ?_, hs, fun h => by cases h⟩
  · exact (World.cell?_setCell_other (h := by simp) ..).trans c0
  · exact World.cell?_setCell_same (h := c1) ..
  · rw [World.frozen?_drewN, World.frozen?_setCell]; exact f0
  · rw [World.frozen?_drewN, World.frozen?_setCell]; exact f1
theorem IsRf.on {w : World} {K : Nat} {s : ByteArray} {a : Nat} (h : IsRf w K s a false) (ha : a ≤ s.size) (k n : Nat) : ∀ rest : ByteArray, w.cell? ⟨K, 0, none⟩ = some (.string rest) → IsRf ((w.setCell ⟨K, 0, none⟩ (.string (rest.extract k rest.size))).drewN n) K s (a + k) false := by
  intro rest hrest
  obtain ⟨rest', c0, c1, f0, f1, hs, hr⟩ := h
  have e : rest = rest' := by rw [hrest] at c0; simpa using c0
  subst e
  have hx := hr rfl
  refine ⟨rest.extract k rest.size, ?_, ?_, ?_, ?_, ?_, fun _ => ?_⟩
  · exact World.cell?_setCell_same (h := c0) ..
  · exact (World.cell?_setCell_other (h := by simp) ..).trans c1
  · rw [World.frozen?_drewN, World.frozen?_setCell]; exact f0
  · rw [World.frozen?_drewN, World.frozen?_setCell]; exact f1
  · rw [ByteArray.size_extract]; omega
  · rw [hx, rest_tail s a k ha]

theorem rnum_any (s : ByteArray) (K a : Nat) (n : Int) (bad : Bool) (w : World) (h : IsRf w K s a bad) (ha : a ≤ s.size) (_hs : s.size ≤ 140737488351232) :
    Calls Try.prog 19 #[.pointer (some ⟨K, 0, none⟩), .int .i64 n] w fun e w' => e = .returned (.int .u64 (numS s a bad n).1) ∧ w.grownBy w' (some K) ∧ IsRf w' K s (numS s a bad n).2.1 (numS s a bad n).2.2 := by
  have hR := hide h
  obtain ⟨rest, c0, c1, f0, f1, hrs, hr⟩ := h
  by_cases h1 : n < 1
  · have hp : numS s a bad n = (0, a, true) := if_pos (by omega)
    rw [hp]
    clear hr hp
    go_enter Try.func19, Try.ntmps19
    go_wp2
    all_goals (go_ret; exact ⟨rfl, set_keeps 1 0, hR.out.break a 0⟩)
  · by_cases h8 : 8 < n
    · have hp : numS s a bad n = (0, a, true) := if_pos (by omega)
      rw [hp]
      clear hr hp
      go_enter Try.func19, Try.ntmps19
      go_wp2
      all_goals (go_ret; exact ⟨rfl, set_keeps 1 0, hR.out.break a 0⟩)
    · obtain ⟨k, rfl⟩ := Int.eq_ofNat_of_zero_le (show 0 ≤ n by omega)
      have d4 : decide ((k : Int) < 1) = false := by rw [decide_eq_false_iff_not]; omega
      have d5 : decide ((8 : Int) < (k : Int)) = false := by rw [decide_eq_false_iff_not]; omega
      have d6 : decide (8 < k) = false := by rw [decide_eq_false_iff_not]; omega
      have d7 : (k == 0) = false := by rw [beq_eq_false_iff_ne]; omega
      by_cases hb : bad = true ∨ rest.size < k
      · have hp : numS s a bad k = (0, a, true) := if_pos (by
          rcases hb with hb | hb
          · exact .inl hb
          · by_cases hbad : bad = true
            · exact .inl hbad
            · have := hr (by simpa using hbad)
              rw [this, rest_size] at hb
              right; right; right
              omega)
        rw [hp]
        have hG := fun w => rget_bad ⟨#[]⟩ 0 k w (by decide) (by right; right; right; right; show ((0 : Nat) : Int) < 0 + (k : Int); omega)
        clear hr hp
        go_enter Try.func19, Try.ntmps19
        go_wp2_with (first | (go_at_call 40; refine (take_bad rest K k bad _ c0 c1 f0 f1 hrs hb).mono ?_; rintro e w1 ⟨rfl, j, rfl⟩) | (go_at_call 38; refine (hG _).mono ?_; rintro e w2 ⟨rfl, rfl⟩))
        all_goals (go_ret; exact ⟨rfl, set_keeps 1 j, hR.out.break a j⟩)
      · have hbad : bad = false := by cases bad <;> simp_all
        subst hbad
        have hx := hr rfl
        have hk : k ≤ rest.size := by omega
        have hka : k ≤ s.size - a := by rw [hx, rest_size] at hk; exact hk
        have hp : numS s a false k = (val ((s.data.toList.drop a).take k), a + k, false) := by
          unfold numS
          rw [if_neg (by simp; omega)]
          simp
        rw [hp]
        have hes : (rest.extract 0 k).size = k := by rw [ByteArray.size_extract]; omega
        have hel : (rest.extract 0 k).data.toList = (s.data.toList.drop a).take k := by
          rw [ByteArray.data_extract, Array.toList_extract, List.extract_eq_take_drop, hx, rest_list]
          simp
        have hG : ∀ w, Calls Try.prog 38 #[.string (rest.extract 0 k), .int .i64 0, .int .i64 k] w fun e w' => e = .returned (.tuple #[.int .u64 (val ((s.data.toList.drop a).take k)), .bool true]) ∧ w = w' := fun w => by
          have := rget_ok (rest.extract 0 k) 0 k w (by omega) (by omega) (by omega) (by decide) (by omega)
          rw [hel] at this
          rw [Int.toNat_natCast, show (0 : Int).toNat = 0 from rfl, List.drop_zero, List.take_take, Nat.min_self] at this
          exact this
        clear hr hp hes hel hx hka hb
        go_enter Try.func19, Try.ntmps19
        go_wp2_with (first | (go_at_call 40; refine (take_ok rest K k _ c0 c1 f0 f1 hrs hk).mono ?_; rintro e w1 ⟨rfl, j, rfl⟩) | (go_at_call 38; refine (hG _).mono ?_; rintro e w2 ⟨rfl, rfl⟩))
        all_goals (go_ret; exact ⟨rfl, set_keeps 0 j, hR.out.on ha k j rest c0⟩)
end Go.Proofs.Ytpkgmoiffegbfaa
