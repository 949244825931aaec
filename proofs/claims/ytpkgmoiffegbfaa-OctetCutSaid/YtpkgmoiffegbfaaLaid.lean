/- Layer 16, the document's answer: Laid, Put, Get, PutText: the walks. Conditions: widths up to 8, texts of at most 140737488351232 bytes. -/
import Derived.Test.YtpkgmoiffegbfaaWork
import Derived.Test.YtpkgmoiffegbfaaLaw
namespace Go.Proofs.Ytpkgmoiffegbfaa
open Go.RowKit Go.BigFrame
set_option maxRecDepth 20000

theorem be_front : ∀ (j n : Nat), be (j + 1) n = UInt8.ofNat (n / 256 ^ j % 256) :: be j n
  | 0, n => by simp [be]
  | j + 1, n => by
    have h := be_front j (n / 256)
    have e : be (j + 1 + 1) n = be (j + 1) (n / 256) ++ [UInt8.ofNat (n % 256)] := rfl
    have e2 : be (j + 1) n = be j (n / 256) ++ [UInt8.ofNat (n % 256)] := rfl
    rw [e, h, e2, Nat.div_div_eq_div_mul, Nat.pow_succ, Nat.mul_comm 256]
    rfl

theorem one_cell (m : Nat) : (#[Value.int .u8 ((m : Int) % 256)].toList.take 1) = Lib.byteCells [UInt8.ofNat (m % 256)] := by
  simp [Lib.byteCells]
theorem front_text (n j m : Nat) (s : ByteArray) (h : m = n / 256 ^ j ∧ s = ⟨(be j n).toArray⟩) : m / 256 = n / 256 ^ (j + 1) ∧ (⟨[UInt8.ofNat (m % 256)].toArray⟩ ++ s : ByteArray) = ⟨(be (j + 1) n).toArray⟩ := by
  obtain ⟨rfl, rfl⟩ := h
  refine ⟨by rw [Nat.div_div_eq_div_mul, Nat.pow_succ], ?_⟩
  apply ByteArray.ext
  rw [ByteArray.data_append, be_front]
  apply Array.ext'
  rw [Array.toList_append]
  rfl
theorem laid_any (n k : Nat) (w : World) (hk : k ≤ 8) (hn : n < 18446744073709551616) :
    Calls Try.prog 36 #[.int .u64 n, .int .i64 k] w fun e w' => e = .returned (.tuple #[.string ⟨(be k n).toArray⟩, .bool (decide (n / 256 ^ k = 0))]) ∧ Below w.heap.size w w' := by
  go_enter Try.func36, Try.ntmps36
  go_wp2
  go_loopw [0, 6, 7] (fun v0 v6 v7 wr => ∃ (j m : Nat) (s : ByteArray), j ≤ k ∧ v7 = .int .i64 j ∧ v0 = .int .u64 m ∧ m < 18446744073709551616 ∧ v6 = .string s ∧ Hid (m = n / 256 ^ j ∧ s = ⟨(be j n).toArray⟩) ∧ Below w.heap.size w wr) (fun _ _ v7 _ => k - (intOf v7).toNat)
  case atStart => exact ⟨0, n, ⟨#[]⟩, Nat.zero_le _, rfl, rfl, hn, rfl, hide ⟨by simp, rfl⟩, Below.refl _ _⟩
  case round =>
    obtain ⟨j, m, s, hj, rfl, rfl, hm, rfl, hH, hB⟩ := hrel
    by_cases hlt : j < k
    · have hsz : s.size = j := by
        rw [hH.out.2]
        show ((be j n).toArray).size = j
        rw [List.size_toArray, be_length]
      have hc : ¬ 9223372036854775807 < 1 + s.size := by omega
      clear hsz
      go_wp2_with ((with_reducible show wpList _ _ _ (⟨some 17, _, _, _, _, _⟩ :: _) _ _); refine law_toString rfl _ _ _ rfl 5 Try.underlying49 Try.underlying5 Try.underlying9 _ 1 1 rfl [UInt8.ofNat (m % 256)] _ _ _ (heap_alloc_new wr _) rfl ?_ ?_; exact one_cell m)
      exact ⟨⟨j + 1, m / 256, _, by omega, by simp, by simp, by omega, rfl, hide (front_text n j m s hH.out), hB.alloc hB.size _⟩, by simp [intOf]; omega⟩
    · go_wp2
      go_ret2
      obtain rfl : j = k := by omega
      refine ⟨?_, hB⟩
      have e1 := hH.out.1
      rw [hH.out.2]
      have e2 : decide (n / 256 ^ j = 0) = decide (m = 0) := by rw [e1]
      rw [e2]
      have e3 : ((m : Int) == 0) = decide (m = 0) := by
        rw [Bool.eq_iff_iff]
        simp only [beq_iff_eq, decide_eq_true_eq]
        omega
      rw [← e3]
      rfl

/-- What Put answers. -/
def putF (s : ByteArray) (n : Nat) (width : Int) : ByteArray × Int :=
  if width < 1 ∨ 8 < width then (⟨#[]⟩, 2) else if n / 256 ^ width.toNat = 0 then (putN s n width.toNat, 0) else (⟨#[]⟩, 3)
theorem put_text (s : ByteArray) (l : List UInt8) : s ++ ⟨l.toArray⟩ = ⟨(s.data.toList ++ l).toArray⟩ := by
  apply ByteArray.ext
  rw [ByteArray.data_append]
  apply Array.ext'
  rw [Array.toList_append]

theorem rput_any (s : ByteArray) (n : Nat) (width : Int) (w : World) (hn : n < 18446744073709551616) (hs : s.size ≤ 140737488351232) :
    Calls Try.prog 37 #[.string s, .int .u64 n, .int .i64 width] w fun e w' => e = .returned (.tuple #[.string (putF s n width).1, .int .i64 (putF s n width).2]) ∧ Below w.heap.size w w' := by
  by_cases h : width < 1 ∨ 8 < width
  · have hp : putF s n width = (⟨#[]⟩, 2) := if_pos h
    rw [hp]
    by_cases h1 : width < 1
    · clear h hp
      go_enter Try.func37, Try.ntmps37
      go_wp2
      all_goals (go_ret2; exact ⟨rfl, Below.refl _ _⟩)
    · have h8 : 8 < width := by omega
      clear h hp
      go_enter Try.func37, Try.ntmps37
      go_wp2
      all_goals (go_ret2; exact ⟨rfl, Below.refl _ _⟩)
  · have h1 : 1 ≤ width := by omega
    have h8 : width ≤ 8 := by omega
    obtain ⟨k, rfl⟩ := Int.eq_ofNat_of_zero_le (show 0 ≤ width by omega)
    have hk : k ≤ 8 := by omega
    by_cases hf : n / 256 ^ k = 0
    · have hp : putF s n k = (putN s n k, 0) := by unfold putF; rw [if_neg h, Int.toNat_natCast, if_pos hf]
      rw [hp]
      have hd : decide (n / 256 ^ k = 0) = true := by simp only [decide_eq_true_eq]; exact hf
      have hl : ¬ 9223372036854775807 < s.size + (be k n).length := by rw [be_length]; omega
      have ht := hide (put_text s (be k n))
      clear h hp hf
      go_enter Try.func37, Try.ntmps37
      go_wp2_with (go_at_call 36; refine (laid_any n k _ hk hn).mono ?_; rintro e w1 ⟨rfl, hb⟩; rw [hd])
      all_goals (go_ret2; exact ⟨by rw [ht.out]; rfl, hb⟩)
    · have hp : putF s n k = (⟨#[]⟩, 3) := by unfold putF; rw [if_neg h, Int.toNat_natCast, if_neg hf]
      rw [hp]
      have hd : decide (n / 256 ^ k = 0) = false := by simp only [decide_eq_false_iff_not]; exact hf
      clear h hp hf
      go_enter Try.func37, Try.ntmps37
      go_wp2_with (go_at_call 36; refine (laid_any n k _ hk hn).mono ?_; rintro e w1 ⟨rfl, hb⟩; rw [hd])
      all_goals (go_ret2; exact ⟨rfl, hb⟩)

/-- What Get answers. -/
def getF (s : ByteArray) (at_ width : Int) : Nat × Bool :=
  if width < 1 ∨ 8 < width ∨ at_ < 0 ∨ s.size < at_ ∨ s.size < at_ + width then (0, false) else (val ((s.data.toList.drop at_.toNat).take width.toNat), true)
theorem oget_any (s : ByteArray) (at_ width : Int) (w : World) (hs : s.size ≤ 140737488351232) :
    Calls Try.prog 29 #[.string s, .int .i64 at_, .int .i64 width] w fun e w' => e = .returned (.tuple #[.int .u64 (getF s at_ width).1, .bool (getF s at_ width).2]) ∧ w = w' := by
  by_cases h : width < 1 ∨ 8 < width ∨ at_ < 0 ∨ s.size < at_ ∨ s.size < at_ + width
  · have hp : getF s at_ width = (0, false) := if_pos h
    rw [hp]
    exact get_bad s at_ width w (by omega) h
  · have hp : getF s at_ width = (val ((s.data.toList.drop at_.toNat).take width.toNat), true) := if_neg h
    rw [hp]
    exact get_ok s at_ width w (by omega) (by omega) (by omega) (by omega) (by omega)

set_option maxHeartbeats 1000000 in
theorem rget_bad (s : ByteArray) (at_ width : Int) (w : World) (_hs : s.size ≤ 9223372036854775807) (hb : width < 1 ∨ 8 < width ∨ at_ < 0 ∨ s.size < at_ ∨ s.size < at_ + width) :
    Calls Try.prog 38 #[.string s, .int .i64 at_, .int .i64 width] w fun e w' => e = .returned (.tuple #[.int .u64 0, .bool false]) ∧ w = w' := by
  by_cases h1 : width < 1
  · clear hb
    go_enter Try.func38, Try.ntmps38
    go_wp2
    all_goals (go_ret2; exact ⟨rfl, rfl⟩)
  · have d1 : decide (width < 1) = false := by simp only [decide_eq_false_iff_not]; exact h1
    by_cases h2 : 8 < width
    · clear hb
      go_enter Try.func38, Try.ntmps38
      go_wp2
      all_goals (go_ret2; exact ⟨rfl, rfl⟩)
    · have d2 : decide (8 < width) = false := by simp only [decide_eq_false_iff_not]; exact h2
      by_cases h3 : at_ < 0
      · clear hb
        go_enter Try.func38, Try.ntmps38
        go_wp2
        all_goals (go_ret2; exact ⟨rfl, rfl⟩)
      · have d3 : decide (at_ < 0) = false := by simp only [decide_eq_false_iff_not]; exact h3
        obtain ⟨m, rfl⟩ := Int.eq_ofNat_of_zero_le (show 0 ≤ at_ by omega)
        by_cases h4 : s.size < m
        · clear hb
          go_enter Try.func38, Try.ntmps38
          go_wp2
          all_goals (go_ret2; exact ⟨rfl, rfl⟩)
        · have h5 : (s.size : Int) - (m : Int) < width := by omega
          have d4 : decide (s.size < m) = false := by simp only [decide_eq_false_iff_not]; exact h4
          have h4' : m ≤ s.size := by omega
          clear hb h4
          go_enter Try.func38, Try.ntmps38
          go_wp2
          all_goals (go_ret2; exact ⟨rfl, rfl⟩)

set_option maxHeartbeats 1000000 in
theorem rget_ok (s : ByteArray) (at_ width : Int) (w : World) (hs : s.size ≤ 9223372036854775807) (h1 : 1 ≤ width) (h8 : width ≤ 8) (h0 : 0 ≤ at_) (hfit : at_ + width ≤ s.size) :
    Calls Try.prog 38 #[.string s, .int .i64 at_, .int .i64 width] w fun e w' => e = .returned (.tuple #[.int .u64 (val ((s.data.toList.drop at_.toNat).take width.toNat)), .bool true]) ∧ w = w' := by
  obtain ⟨m, rfl⟩ := Int.eq_ofNat_of_zero_le h0
  obtain ⟨wd, rfl⟩ := Int.eq_ofNat_of_zero_le (show 0 ≤ width by omega)
  simp only [Int.toNat_natCast]
  have h4 : (wd : Int) ≤ (s.size : Int) - (m : Int) := by omega
  have h5 : m ≤ s.size := by omega
  have d1 : decide ((m : Int) < 0) = false := by rw [decide_eq_false_iff_not]; omega
  have d2 : decide (s.size < m) = false := by simp [h5]
  have d3 : decide ((s.size : Int) - (m : Int) < (wd : Int)) = false := by simp [h4]
  have d4 : decide ((wd : Int) < 1) = false := by rw [decide_eq_false_iff_not]; omega
  have d5 : decide ((8 : Int) < (wd : Int)) = false := by rw [decide_eq_false_iff_not]; omega
  have d6 : decide (8 < wd) = false := by rw [decide_eq_false_iff_not]; omega
  have d7 : (wd == 0) = false := by rw [beq_eq_false_iff_ne]; omega
  go_enter Try.func38, Try.ntmps38
  go_wp2
  go_loop [8, 9] (fun n i => ∃ k : Nat, k ≤ wd ∧ i = .int .i64 k ∧ n = .int .u64 (val ((s.data.toList.drop m).take k))) (fun _ i => wd - (intOf i).toNat)
  case atStart => exact ⟨0, Nat.zero_le _, rfl, rfl⟩
  case round =>
    obtain ⟨k, hk, rfl, rfl⟩ := hrel
    by_cases hlt : k < wd
    · have hmk : m + k < s.size := by omega
      have hlen : s.data.toList.length = s.size := by simp
      have hts := take_snoc' (s.data.toList.drop m) k (by rw [List.length_drop, hlen]; omega)
      have hvs := val_snoc ((s.data.toList.drop m).take k) s[m + k]
      have hv : val ((s.data.toList.drop m).take k) < 72057594037927936 := by
        refine Nat.lt_of_lt_of_le (val_lt _) ?_
        have hl : ((s.data.toList.drop m).take k).length ≤ 7 := by simp; omega
        exact Nat.pow_le_pow_right (n := 256) (by decide) hl
      have hstep : val ((s.data.toList.drop m).take (k + 1)) = val ((s.data.toList.drop m).take k) * 256 + s[m + k].toNat := by
        rw [hts, ← hvs]
        congr 3
        rw [List.getElem_drop]
        rfl
      have HS := hide hstep
      clear hts hvs hstep
      clear hlen
      generalize val ((s.data.toList.drop m).take k) = V at *
      have hbt := s[m + k].toNat_lt
      have hmk2 : (m : Int) + (k : Int) < s.size := by omega
      go_wp2
      refine ⟨⟨k + 1, by omega, by go_num, ?_⟩, by simp [intOf]; omega⟩
      rw [HS.out]
      simp
    · go_wp2
      go_ret2
      obtain rfl : k = wd := by omega
      exact ⟨rfl, rfl⟩
theorem rget_any (s : ByteArray) (at_ width : Int) (w : World) (hs : s.size ≤ 140737488351232) :
    Calls Try.prog 38 #[.string s, .int .i64 at_, .int .i64 width] w fun e w' => e = .returned (.tuple #[.int .u64 (getF s at_ width).1, .bool (getF s at_ width).2]) ∧ w = w' := by
  by_cases h : width < 1 ∨ 8 < width ∨ at_ < 0 ∨ s.size < at_ ∨ s.size < at_ + width
  · have hp : getF s at_ width = (0, false) := if_pos h
    rw [hp]
    exact rget_bad s at_ width w (by omega) h
  · have hp : getF s at_ width = (val ((s.data.toList.drop at_.toNat).take width.toNat), true) := if_neg h
    rw [hp]
    exact rget_ok s at_ width w (by omega) (by omega) (by omega) (by omega) (by omega)

theorem over_any (s : ByteArray) (n width : Int) (w : World) (h1 : 1 ≤ width) (hd : (width ≤ 1 ∧ 256 ≤ n ∧ n < 65536) ∨ (width ≤ 2 ∧ 65536 ≤ n ∧ n < 16777216) ∨ (width ≤ 3 ∧ 16777216 ≤ n ∧ n < 4294967296) ∨ (width ≤ 4 ∧ 4294967296 ≤ n ∧ n < 1099511627776) ∨ (width ≤ 5 ∧ 1099511627776 ≤ n ∧ n < 281474976710656) ∨ (width ≤ 6 ∧ 281474976710656 ≤ n ∧ n < 72057594037927936) ∨ (width ≤ 7 ∧ 72057594037927936 ≤ n ∧ n < 18446744073709551616)) :
    Calls Try.prog 28 #[.string s, .int .u64 n, .int .i64 width] w fun e w' => e = .returned (.tuple #[.string ⟨#[]⟩, .int .i64 3]) ∧ Below w.heap.size w w' := by
  rcases hd with ⟨a, b, c⟩ | ⟨a, b, c⟩ | ⟨a, b, c⟩ | ⟨a, b, c⟩ | ⟨a, b, c⟩ | ⟨a, b, c⟩ | ⟨a, b, c⟩
  · exact put_over1 s n width w h1 a b c
  · exact put_over2 s n width w h1 a b c
  · exact put_over3 s n width w h1 a b c
  · exact put_over4 s n width w h1 a b c
  · exact put_over5 s n width w h1 a b c
  · exact put_over6 s n width w h1 a b c
  · exact put_over7 s n width w h1 a b c

theorem oput_any (s : ByteArray) (n : Nat) (width : Int) (w : World) (hn : n < 18446744073709551616) (hs : s.size ≤ 140737488351232) :
    Calls Try.prog 28 #[.string s, .int .u64 n, .int .i64 width] w fun e w' => e = .returned (.tuple #[.string (putF s n width).1, .int .i64 (putF s n width).2]) ∧ Below w.heap.size w w' := by
  by_cases h : width < 1 ∨ 8 < width
  · have hp : putF s n width = (⟨#[]⟩, 2) := if_pos h
    rw [hp]
    refine (put_arg s n width w h).mono ?_
    rintro e w' ⟨rfl, rfl⟩
    exact ⟨rfl, Below.refl _ _⟩
  · by_cases hf : n / 256 ^ width.toNat = 0
    · have hp : putF s n width = (putN s n width.toNat, 0) := by unfold putF; rw [if_neg h, if_pos hf]
      rw [hp]
      have hw : width = 1 ∨ width = 2 ∨ width = 3 ∨ width = 4 ∨ width = 5 ∨ width = 6 ∨ width = 7 ∨ width = 8 := by omega
      clear hp h
      rcases hw with rfl | rfl | rfl | rfl | rfl | rfl | rfl | rfl
      · exact put_fit1 s n w (by omega) (by simp at hf; omega) hs
      · exact put_fit2 s n w (by omega) (by simp at hf; omega) hs
      · exact put_fit3 s n w (by omega) (by simp at hf; omega) hs
      · exact put_fit4 s n w (by omega) (by simp at hf; omega) hs
      · exact put_fit5 s n w (by omega) (by simp at hf; omega) hs
      · exact put_fit6 s n w (by omega) (by simp at hf; omega) hs
      · exact put_fit7 s n w (by omega) (by simp at hf; omega) hs
      · exact put_fit8 s n w (by omega) (by omega) hs
    · have hp : putF s n width = (⟨#[]⟩, 3) := by unfold putF; rw [if_neg h, if_neg hf]
      rw [hp]
      have hw : width = 1 ∨ width = 2 ∨ width = 3 ∨ width = 4 ∨ width = 5 ∨ width = 6 ∨ width = 7 ∨ width = 8 := by omega
      clear hp h
      rcases hw with rfl | rfl | rfl | rfl | rfl | rfl | rfl | rfl
      · exact over_any s n 1 w (by decide) (by simp at hf; omega)
      · exact over_any s n 2 w (by decide) (by simp at hf; omega)
      · exact over_any s n 3 w (by decide) (by simp at hf; omega)
      · exact over_any s n 4 w (by decide) (by simp at hf; omega)
      · exact over_any s n 5 w (by decide) (by simp at hf; omega)
      · exact over_any s n 6 w (by decide) (by simp at hf; omega)
      · exact over_any s n 7 w (by decide) (by simp at hf; omega)
      · exact absurd (show n / 256 ^ 8 = 0 by omega) hf

theorem puts_any (s : ByteArray) (n : Nat) (width : Int) (w : World) (hn : n < 18446744073709551616) (hs : s.size ≤ 140737488351232) :
    Calls Try.prog 12 #[.string s, .int .u64 n, .int .i64 width] w fun e w' => e = .returned (.bool true) ∧ Below w.heap.size w w' := by
  have h1 := fun w => oput_any s n width w hn hs
  have h2 := fun w => rput_any s n width w hn hs
  generalize putF s n width = p at h1 h2
  obtain ⟨T, E⟩ := p
  go_enter Try.func12, Try.ntmps12
  go_wp2_with (first | (go_at_call 28; refine (h1 _).mono ?_; rintro e w1 ⟨rfl, hb1⟩) | (go_at_call 37; refine (h2 _).mono ?_; rintro e w2 ⟨rfl, hb2⟩))
  all_goals go_ret
  all_goals exact ⟨by simp, hb1.trans (hb2.mono hb1.size)⟩

theorem gets_any (s : ByteArray) (at_ width : Int) (w : World) (hs : s.size ≤ 140737488351232) :
    Calls Try.prog 13 #[.string s, .int .i64 at_, .int .i64 width] w fun e w' => e = .returned (.bool true) ∧ w = w' := by
  have h1 := fun w => oget_any s at_ width w hs
  have h2 := fun w => rget_any s at_ width w hs
  generalize getF s at_ width = p at h1 h2
  obtain ⟨V, B⟩ := p
  go_enter Try.func13, Try.ntmps13
  go_wp2_with (first | (go_at_call 29; refine (h1 _).mono ?_; rintro e w1 ⟨rfl, rfl⟩) | (go_at_call 38; refine (h2 _).mono ?_; rintro e w2 ⟨rfl, rfl⟩))
  all_goals go_ret
  all_goals exact ⟨by simp, rfl⟩
end Go.Proofs.Ytpkgmoiffegbfaa
