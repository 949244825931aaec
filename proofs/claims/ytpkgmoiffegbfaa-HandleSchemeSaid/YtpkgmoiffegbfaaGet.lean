/- octet.Get, of all texts, places and widths: the walks. Condition: a text of at most 9223372036854775807 bytes. -/
import Derived.Test.YtpkgmoiffegbfaaPut
import Derived.Laws.BitsAllLaws
namespace Go.Proofs.Ytpkgmoiffegbfaa
open Go.RowKit
set_option maxRecDepth 20000

/-- The number that bytes are, the highest first. -/
def val : List UInt8 → Nat := fun l => l.foldl (fun n b => n * 256 + b.toNat) 0
theorem val_snoc (l : List UInt8) (b : UInt8) : val (l ++ [b]) = val l * 256 + b.toNat := by simp [val]
theorem val_lt (l : List UInt8) : val l < 256 ^ l.length := by
  suffices h : ∀ (r : List UInt8), val r.reverse < 256 ^ r.length by
    have := h l.reverse
    simpa using this
  intro r
  induction r with
  | nil => decide
  | cons b r ih =>
    rw [List.reverse_cons, val_snoc]
    have := b.toNat_lt
    simp only [List.length_cons, Nat.pow_succ]
    omega
theorem take_snoc' (l : List UInt8) (k : Nat) (h : k < l.length) : l.take (k + 1) = l.take k ++ [l[k]] := by
  rw [List.take_succ_eq_append_getElem h]
theorem u64_join (v : Nat) (b : UInt8) (hv : v < 72057594037927936) : bits .or .u64 ((v : Int) * 256) (IntKind.u64.wrap ((b.toNat : Nat) : Int)) = ((v * 256 + b.toNat : Nat) : Int) := by
  have hb := b.toNat_lt
  rw [show IntKind.u64.wrap ((b.toNat : Nat) : Int) = ((b.toNat : Nat) : Int) from by rw [IntKind.wrap_u64]; omega]
  have h := u64_or_nat (v * 256) b.toNat (by omega) (by omega)
  rw [nat_join 8 (v * 256) b.toNat (by omega) (by omega)] at h
  simpa using h

theorem get_bad (s : ByteArray) (at_ width : Int) (w : World) (_hs : s.size ≤ 9223372036854775807) (hb : width < 1 ∨ 8 < width ∨ at_ < 0 ∨ s.size < at_ ∨ s.size < at_ + width) :
    Calls Try.prog 29 #[.string s, .int .i64 at_, .int .i64 width] w fun e w' => e = .returned (.tuple #[.int .u64 0, .bool false]) ∧ w = w' := by
  by_cases hw : width < 1 ∨ 8 < width
  · go_enter Try.func29, Try.ntmps29
    go_wp2_with (go_at_call 41; refine (wide_no _ _ hw).mono ?_; rintro e w' ⟨rfl, rfl⟩)
    go_ret2
    exact ⟨rfl, rfl⟩
  · have hw1 : 1 ≤ width := by omega
    have hw8 : width ≤ 8 := by omega
    clear hw
    by_cases h0 : at_ < 0
    · go_enter Try.func29, Try.ntmps29
      go_wp2_with (go_at_call 41; refine (wide_yes _ _ hw1 hw8).mono ?_; rintro e w' ⟨rfl, rfl⟩)
      go_ret2
      exact ⟨rfl, rfl⟩
    · have h0' : 0 ≤ at_ := by omega
      clear h0
      by_cases h2 : s.size < at_
      · go_enter Try.func29, Try.ntmps29
        go_wp2_with (go_at_call 41; refine (wide_yes _ _ hw1 hw8).mono ?_; rintro e w' ⟨rfl, rfl⟩)
        go_ret2
        exact ⟨rfl, rfl⟩
      · have h2' : at_ ≤ s.size := by omega
        have h3 : s.size < at_ + width := by omega
        have h4 : (s.size : Int) - at_ < width := by omega
        clear h2 hb
        go_enter Try.func29, Try.ntmps29
        go_wp2_with (go_at_call 41; refine (wide_yes _ _ hw1 hw8).mono ?_; rintro e w' ⟨rfl, rfl⟩)
        go_ret2
        exact ⟨rfl, rfl⟩

set_option maxHeartbeats 1000000 in
theorem get_ok (s : ByteArray) (at_ width : Int) (w : World) (hs : s.size ≤ 9223372036854775807) (h1 : 1 ≤ width) (h8 : width ≤ 8) (h0 : 0 ≤ at_) (hfit : at_ + width ≤ s.size) :
    Calls Try.prog 29 #[.string s, .int .i64 at_, .int .i64 width] w fun e w' => e = .returned (.tuple #[.int .u64 (val ((s.data.toList.drop at_.toNat).take width.toNat)), .bool true]) ∧ w = w' := by
  obtain ⟨m, rfl⟩ := Int.eq_ofNat_of_zero_le h0
  obtain ⟨wd, rfl⟩ := Int.eq_ofNat_of_zero_le (show 0 ≤ width by omega)
  simp only [Int.toNat_natCast]
  have h4 : (wd : Int) ≤ (s.size : Int) - (m : Int) := by omega
  have h5 : m ≤ s.size := by omega
  have d1 : decide ((m : Int) < 0) = false := by rw [decide_eq_false_iff_not]; omega
  have d2 : decide (s.size < m) = false := by simp [h5]
  have d3 : decide ((s.size : Int) - (m : Int) < (wd : Int)) = false := by simp [h4]
  go_enter Try.func29, Try.ntmps29
  go_wp2_with (go_at_call 41; refine (wide_yes _ _ h1 h8).mono ?_; rintro e w' ⟨rfl, rfl⟩)
  go_loop [6, 31] (fun n i => ∃ k : Nat, k ≤ wd ∧ i = .int .i64 k ∧ n = .int .u64 (val ((s.data.toList.drop m).take k))) (fun _ i => wd - (intOf i).toNat)
  case atStart => exact ⟨0, Nat.zero_le _, rfl, rfl⟩
  case round =>
    obtain ⟨k, hk, rfl, rfl⟩ := hrel
    by_cases hlt : k < wd
    · have hmk : m + k < s.size := by omega
      have hlen : s.data.toList.length = s.size := by simp
      have hts := take_snoc' (s.data.toList.drop m) k (by rw [List.length_drop, hlen]; omega)
      have hvs := val_snoc ((s.data.toList.drop m).take k) s[m + k]
      have hv : val ((s.data.toList.drop m).take k) < 72057594037927936 := by
        refine Nat.lt_of_lt_of_le (val_lt _) ?_
        have hl : ((s.data.toList.drop m).take k).length ≤ 7 := by simp; omega
        exact Nat.pow_le_pow_right (n := 256) (by decide) hl
      have hstep : val ((s.data.toList.drop m).take (k + 1)) = val ((s.data.toList.drop m).take k) * 256 + s[m + k].toNat := by
        rw [hts, ← hvs]
        congr 3
        rw [List.getElem_drop]
        rfl
      have HS := hide hstep
      clear hts hvs hstep
      clear hlen
      generalize val ((s.data.toList.drop m).take k) = V at *
      have hj := u64_join V s[m + k] hv
      have hmk2 : (m : Int) + (k : Int) < s.size := by omega
      have J := hide hj
      clear hj
      go_wp2
      refine ⟨⟨k + 1, by omega, by go_num, ?_⟩, by simp [intOf]; omega⟩
      rw [HS.out, J.out]
    · go_wp2
      go_ret2
      obtain rfl : k = wd := by omega
      exact ⟨rfl, rfl⟩

end Go.Proofs.Ytpkgmoiffegbfaa
