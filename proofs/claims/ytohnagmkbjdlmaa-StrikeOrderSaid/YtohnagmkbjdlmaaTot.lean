/- Layer 23: Total, and whether two rows are alike: the walks. Condition: counts below 2^59. -/
import Derived.Test.YtohnagmkbjdlmaaTally
import Derived.Deep.QuietTactic
namespace Go.Proofs.Ytohnagmkbjdlmaa
open Go.RowKit Go.BigFrame Go.Shelf
set_option maxRecDepth 20000

theorem sum_take_succ (cs : List Nat) (k : Nat) (h : k < cs.length) : (cs.take (k + 1)).sum = (cs.take k).sum + cs.getD k 0 := by
  rw [List.take_succ_eq_append_getElem h, List.sum_append]
  simp [List.getD, h]
theorem sum_take_le (cs : List Nat) (M : Nat) (h : ∀ c ∈ cs, c ≤ M) : ∀ k, (cs.take k).sum ≤ k * M := by
  intro k
  induction k with
  | zero => simp
  | succ k ih =>
    by_cases hk : k < cs.length
    · rw [sum_take_succ cs k hk, Nat.succ_mul]
      have : cs.getD k 0 ≤ M := by
        simp only [List.getD, List.getElem?_eq_getElem hk, Option.getD_some]
        exact h _ (List.getElem_mem hk)
      omega
    · rw [List.take_of_length_le (by omega)]
      rw [List.take_of_length_le (by omega)] at ih
      rw [Nat.succ_mul]; omega

set_option maxHeartbeats 1000000 in
theorem total_any (w : World) (tb n : Nat) (cs : List Nat) (ht : IsTally w tb cs n) (hs : ∀ c ∈ cs, c ≤ 576460752303423488) :
    Calls Try.prog 12 #[.pointer (some ⟨tb, 0, none⟩)] w fun e w' => e = .returned (.int .i64 ((cs.take n).sum : Nat)) ∧ w = w' := by
  have hn8 := ht.most
  go_enter Try.func12, Try.ntmps12
  go_wp2
  go_loop [2, 3] (fun s c => ∃ k : Nat, k ≤ n ∧ c = .int .i64 k ∧ s = .int .i64 ((cs.take k).sum : Nat)) (fun _ c => n - (intOf c).toNat)
  case atStart => exact ⟨0, Nat.zero_le _, rfl, rfl⟩
  case round =>
    obtain ⟨k, hk, rfl, rfl⟩ := hrel
    by_cases hlt : k < n
    · have h8 := ht.c_at k (by omega)
      have hc8 : (k : Int) < 8 := by omega
      have hk0 : (0 : Int) ≤ (k : Int) := by omega
      have hsum := sum_take_succ cs k (by rw [ht.len]; omega)
      have hle := sum_take_le cs 576460752303423488 hs k
      have hle2 := sum_take_le cs 576460752303423488 hs (k + 1)
      obtain ⟨S, hS⟩ : ∃ S, (cs.take k).sum = S := ⟨_, rfl⟩
      obtain ⟨S2, hS2⟩ : ∃ S2, (cs.take (k + 1)).sum = S2 := ⟨_, rfl⟩
      obtain ⟨x, hx⟩ : ∃ x, cs.getD k 0 = x := ⟨_, rfl⟩
      rw [hS, hS2, hx] at hsum
      rw [hS] at hle ⊢
      rw [hS2] at hle2
      rw [hx] at h8
      have hb : S2 ≤ 4611686018427387904 := by omega
      have HS2 := Lib.hid hS2
      have HSUM := Lib.hid hsum
      have hxb : S + x ≤ 4611686018427387904 := by omega
      clear hS hS2 hx hle hle2 hsum
      go_wp2_with (go_at_call 15; refine (has_yes _ tb n cs ht k hlt).mono ?_; rintro e w1 ⟨rfl, rfl⟩)
      refine ⟨⟨k + 1, by omega, by simp, ?_⟩, by simp [intOf]; omega⟩
      rw [HS2.out, HSUM.out]
      simp
    · obtain rfl : k = n := by omega
      go_wp2_with (go_at_call 15; refine (has_no _ tb k cs ht k (by omega)).mono ?_; rintro e w1 ⟨rfl, rfl⟩)
      go_ret
      exact ⟨rfl, rfl⟩
theorem total_nil (w : World) : Calls Try.prog 12 #[.pointer none] w fun e w' => e = .returned (.int .i64 0) ∧ w = w' := by
  go_enter Try.func12, Try.ntmps12
  go_wp2
  go_loop [2, 3] (fun s c => c = .int .i64 0 ∧ s = .int .i64 0) (fun _ _ => 0)
  case atStart => exact ⟨rfl, rfl⟩
  case round =>
    obtain ⟨rfl, rfl⟩ := hrel
    go_wp2_with (go_at_call 15; refine (has_nil _ _).mono ?_; rintro e w1 ⟨rfl, rfl⟩)
    go_ret
    exact ⟨rfl, rfl⟩

/-- A slice value that holds numbers. -/
def IntsAt (w : World) (v : Value) (xs : List Int) : Prop :=
  ((∃ a cap, v = .slice a 0 cap) ∧ xs = []) ∨ ∃ b off cap, v = .slice (some ⟨b, off, none⟩) xs.length cap ∧ ∀ j, (h : j < xs.length) → w.cell? ⟨b, off + j, none⟩ = some (.int .i64 xs[j])

set_option maxHeartbeats 1000000 in
theorem same_cells (xs ys : List Int) (b b' off off' cap cap' : Nat) (w : World) (r : Bool) (hr : decide (xs = ys) = r) (hl : xs.length ≤ 9223372036854775807) (hlen : xs.length = ys.length)
    (hx : ∀ j, (h : j < xs.length) → w.cell? ⟨b, off + j, none⟩ = some (.int .i64 xs[j])) (hy : ∀ j, (h : j < ys.length) → w.cell? ⟨b', off' + j, none⟩ = some (.int .i64 ys[j])) :
    Calls Try.prog 10 #[.slice (some ⟨b, off, none⟩) xs.length cap, .slice (some ⟨b', off', none⟩) ys.length cap'] w fun e w' => e = .returned (.bool r) ∧ ∃ n, w' = w.drewN n := by
  have HR := Lib.hid hr
  have HX := Lib.hid hx
  have HY := Lib.hid hy
  have hL := Lib.hid hlen
  clear hr hx hy
  obtain ⟨n, hn⟩ : ∃ n, xs.length = n := ⟨_, rfl⟩
  rw [hn] at hl hlen ⊢
  rw [← hlen]
  have HN := Lib.hid hn
  clear hn hlen
  go_enter Try.func10, Try.ntmps10
  go_wp2
  go_loopw [5] (fun i wr => ∃ k m : Nat, k ≤ n ∧ i = .int .i64 k ∧ Hid (xs.take k = ys.take k) ∧ wr = w.drewN m) (fun i _ => n - (intOf i).toNat)
  case atStart => exact ⟨0, 0, Nat.zero_le _, rfl, Lib.hid rfl, rfl⟩
  case round =>
    obtain ⟨k, m, hk, rfl, hT, rfl⟩ := hrel
    by_cases hlt : k < n
    · have hkx : k < xs.length := by rw [HN.out]; exact hlt
      have hky : k < ys.length := by rw [← hL.out, HN.out]; exact hlt
      have cx : w.cell? ⟨b, off + k, none⟩ = some (.int .i64 xs[k]) := HX.out k hkx
      have cy : w.cell? ⟨b', off' + k, none⟩ = some (.int .i64 ys[k]) := HY.out k hky
      have hk0 : (0 : Int) ≤ (k : Int) := by omega
      have hkn : (k : Int) < (n : Int) := by omega
      obtain ⟨x, hx⟩ : ∃ x, xs[k] = x := ⟨_, rfl⟩
      obtain ⟨y, hy⟩ : ∃ y, ys[k] = y := ⟨_, rfl⟩
      rw [hx] at cx
      rw [hy] at cy
      have hxy := Lib.hid (And.intro hx hy)
      clear hx hy
      by_cases hne : x = y
      · subst hne
        go_wp2
        go_quiet (fail)
        go_wp2
        refine ⟨⟨k + 1, _, by omega, by simp, Lib.hid ?_, rfl⟩, by simp [intOf]; omega⟩
        rw [List.take_succ_eq_append_getElem hkx, List.take_succ_eq_append_getElem hky, hT.out, hxy.out.1, hxy.out.2]
      · have hrf : r = false := by
          rw [← HR.out, decide_eq_false_iff_not]
          intro e
          subst e
          exact hne (hxy.out.1.symm.trans hxy.out.2)
        subst hrf
        have hxb : (x == y) = false := by simpa using hne
        go_wp2
        go_quiet (fail)
        go_wp2
        go_ret
        exact ⟨rfl, _, World.drewN_drewN _ _ _⟩
    · obtain rfl : k = n := by omega
      have hrt : r = true := by
        rw [← HR.out, decide_eq_true_iff]
        have h := hT.out
        rw [List.take_of_length_le (by rw [HN.out]; exact Nat.le_refl _), List.take_of_length_le (by rw [← hL.out, HN.out]; exact Nat.le_refl _)] at h
        exact h
      subst hrt
      go_wp2
      go_ret
      exact ⟨rfl, _, rfl⟩
end Go.Proofs.Ytohnagmkbjdlmaa
