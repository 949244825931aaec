/- Layer 23: a tally of eight behind some offences; and what a tally that is none tells: the walks. Condition: the offences lie in a slice. -/
import Derived.Test.YtohnagmkbjdlmaaStr
namespace Go.Proofs.Ytohnagmkbjdlmaa
open Go.RowKit Go.BigFrame Go.Shelf
set_option maxRecDepth 20000

/-- The counts behind one more offence; behind all. -/
def bump (cs : List Nat) (x : Nat) : List Nat := cs.set (x % 8) (cs.getD (x % 8) 0 + 1)
def cnt (l : List Nat) : List Nat := l.foldl bump (List.replicate 8 0)
theorem cnt_snoc (l : List Nat) (x : Nat) : cnt (l ++ [x]) = bump (cnt l) x := by simp [cnt]
theorem bump_length (cs : List Nat) (x : Nat) : (bump cs x).length = cs.length := by simp [bump]
theorem cnt_length (l : List Nat) : (cnt l).length = 8 := by
  unfold cnt
  suffices h : ∀ cs : List Nat, cs.length = 8 → (l.foldl bump cs).length = 8 from h _ rfl
  induction l with
  | nil => intro cs h; exact h
  | cons x l ih => intro cs h; exact ih _ (by rw [bump_length, h])
theorem bump_at (cs : List Nat) (x c : Nat) (h : cs.length = 8) (hc : c < 8) : (bump cs x).getD c 0 = cs.getD c 0 + if x % 8 = c then 1 else 0 := by
  have hx : x % 8 < 8 := Nat.mod_lt _ (by decide)
  unfold bump
  by_cases e : x % 8 = c
  · subst e
    simp [List.getD, h, hx]
  · simp [List.getD, e]
theorem cnt_at (l : List Nat) (c : Nat) (hc : c < 8) : (cnt l).getD c 0 = (l.filter fun x => x % 8 = c).length := by
  suffices h : ∀ cs : List Nat, cs.length = 8 → (l.foldl bump cs).getD c 0 = cs.getD c 0 + (l.filter fun x => x % 8 = c).length by
    have h0 := h (List.replicate 8 0) rfl
    have e : (List.replicate 8 0).getD c 0 = 0 := by
      match c, hc with
      | 0, _ | 1, _ | 2, _ | 3, _ | 4, _ | 5, _ | 6, _ | 7, _ => rfl
    rw [e, Nat.zero_add] at h0
    exact h0
  induction l with
  | nil => intro cs _; simp
  | cons x l ih =>
    intro cs h
    rw [List.foldl_cons, ih (bump cs x) (by rw [bump_length, h]), bump_at cs x c h hc, List.filter_cons]
    by_cases e : x % 8 = c <;> simp [e] <;> omega
theorem cnt_le (l : List Nat) (c : Nat) (hc : c ∈ cnt l) : c ≤ l.length := by
  obtain ⟨i, hi, rfl⟩ := List.mem_iff_getElem.1 hc
  have hi8 : i < 8 := by rw [cnt_length] at hi; exact hi
  have := cnt_at l i hi8
  rw [List.getD, List.getElem?_eq_getElem hi, Option.getD_some] at this
  rw [this]
  exact List.length_filter_le _ _

/-- A slice value that holds bytes. -/
def OffsAt (w : World) (v : Value) (l : List Nat) : Prop :=
  ((∃ a cap, v = .slice a 0 cap) ∧ l = []) ∨ ∃ b off cap, v = .slice (some ⟨b, off, none⟩) l.length cap ∧ b < w.heap.size ∧ ∀ j, (h : j < l.length) → w.cell? ⟨b, off + j, none⟩ = some (.int .u8 ((l[j] : Nat) : Int))
theorem OffsAt.below {w w' : World} {v : Value} {l : List Nat} (h : OffsAt w v l) (hb : Below w.heap.size w w') : OffsAt w' v l := by
  rcases h with h | ⟨b, off, cap, e, hbl, hc⟩
  · exact .inl h
  · exact .inr ⟨b, off, cap, e, Nat.lt_of_lt_of_le hbl hb.size, fun j hj => (hb.cell (p := ⟨b, off + j, none⟩) hbl).trans (hc j hj)⟩

theorem added_nil (a : Option Addr) (cap : Nat) (w : World) : Calls Try.prog 7 #[.slice a 0 cap] w fun e w' => e = .returned (.pointer (some ⟨w.heap.size, 0, none⟩)) ∧ IsTally w' w.heap.size (cnt []) 8 ∧ Below w.heap.size w w' := by
  go_enter Try.func7, Try.ntmps7
  go_wp2_with fail
  refine (new_okI _ _ 8 rfl (by decide) (by decide)).mono ?_
  rintro e w1 ⟨rfl, ht1, hb1⟩
  go_wp2
  go_loop [5] (fun i => i = .int .i64 0) (fun _ => 0)
  case atStart => rfl
  case round =>
    subst hrel
    go_wp2
    go_ret
    exact ⟨rfl, ht1, hb1⟩

set_option maxHeartbeats 2000000 in
theorem added_some (b off cap : Nat) (l : List Nat) (w : World) (hl : l.length ≤ 9223372036854775807) (hx : ∀ x ∈ l, x < 256) (hb : b < w.heap.size) (hc : ∀ j, (h : j < l.length) → w.cell? ⟨b, off + j, none⟩ = some (.int .u8 ((l[j] : Nat) : Int))) :
    Calls Try.prog 7 #[.slice (some ⟨b, off, none⟩) l.length cap] w fun e w' => e = .returned (.pointer (some ⟨w.heap.size, 0, none⟩)) ∧ IsTally w' w.heap.size (cnt (l.take 60)) 8 ∧ Below w.heap.size w w' := by
  have HC := Lib.hid hc
  have HX := Lib.hid hx
  clear hc hx
  go_enter Try.func7, Try.ntmps7
  go_wp2_with fail
  refine (new_okI _ _ 8 rfl (by decide) (by decide)).mono ?_
  rintro e w1 ⟨rfl, ht1, hb1⟩
  go_wp2
  go_loopw [5] (fun i wr => ∃ k : Nat, k ≤ l.length ∧ k ≤ 60 ∧ i = .int .i64 k ∧ IsTally wr w.heap.size (cnt (l.take k)) 8 ∧ Below w.heap.size w wr) (fun i _ => 60 - (intOf i).toNat)
  case atStart => exact ⟨0, Nat.zero_le _, Nat.zero_le _, rfl, ht1, hb1⟩
  case round =>
    obtain ⟨k, hk, hk60, rfl, htr, hBr⟩ := hrel
    clear ht1 hb1
    by_cases hlt : k < l.length ∧ k < 60
    · obtain ⟨h1, h2⟩ := hlt
      have hk0 : (0 : Int) ≤ (k : Int) := by omega
      have hkl : (k : Int) < (l.length : Int) := by omega
      have hk6 : (k : Int) < 60 := by omega
      have hcx : wr.cell? ⟨b, off + k, none⟩ = some (.int .u8 ((l[k] : Nat) : Int)) := (hBr.cell (p := ⟨b, off + k, none⟩) hb).trans (HC.out k h1)
      have hx8 := HX.out l[k] (List.getElem_mem h1)
      have htk : l.take (k + 1) = l.take k ++ [l[k]] := List.take_succ_eq_append_getElem h1
      obtain ⟨x, hxd⟩ : ∃ x, l[k] = x := ⟨_, rfl⟩
      rw [hxd] at hcx hx8 htk
      have HT := Lib.hid htk
      clear hxd htk
      obtain ⟨r, hr⟩ : ∃ r : Nat, (x : Int) % 8 = (r : Int) := ⟨x % 8, by omega⟩
      have hr8 : r < 8 := by omega
      have hxr : x % 8 = r := by omega
      have hsm : (cnt (l.take k)).getD r 0 < 1152921504606846976 := by
        rw [cnt_at _ _ hr8]
        have := List.length_filter_le (fun x => decide (x % 8 = r)) (l.take k)
        have h3 : (l.take k).length ≤ k := List.length_take_le _ _
        omega
      have hbump : (cnt (l.take k)).set r ((cnt (l.take k)).getD r 0 + 1) = cnt (l.take (k + 1)) := by rw [HT.out, cnt_snoc, bump, hxr]
      have HBU := Lib.hid hbump
      clear hbump hxr
      go_wp2_with fail
      refine (add_okI _ _ _ _ _ htr _ r rfl hr8 hsm HBU.out).mono ?_
      rintro e w2 ⟨rfl, ht2, hg2⟩
      have hB2 := below_grown hBr hg2 hBr.size (by intro q e; cases e; exact Nat.le_refl _)
      clear hcx htr hg2 hBr hr hsm
      go_wp2
      go_roundw
      case rel => exact ⟨k + 1, by omega, by omega, by simp, ht2, hB2⟩
      case measure => simp [intOf]; omega
    · have e : l.take k = l.take 60 := by
        by_cases h6 : k = 60
        · rw [h6]
        · rw [List.take_of_length_le (by omega), List.take_of_length_le (by omega)]
      rw [e] at htr
      clear e
      by_cases h1 : k < l.length
      · have hkl : (k : Int) < (l.length : Int) := by omega
        have hk6 : k = 60 := by omega
        subst hk6
        go_wp2
        go_ret
        exact ⟨rfl, htr, hBr⟩
      · have hk1 : k = l.length := by omega
        subst hk1
        go_wp2
        go_ret
        exact ⟨rfl, htr, hBr⟩

theorem added_any (v : Value) (l : List Nat) (w : World) (h : OffsAt w v l) (hl : l.length ≤ 9223372036854775807) (hx : ∀ x ∈ l, x < 256) :
    Calls Try.prog 7 #[v] w fun e w' => e = .returned (.pointer (some ⟨w.heap.size, 0, none⟩)) ∧ IsTally w' w.heap.size (cnt (l.take 60)) 8 ∧ Below w.heap.size w w' := by
  rcases h with ⟨⟨a, cap, rfl⟩, rfl⟩ | ⟨b, off, cap, rfl, hb, hc⟩
  · exact added_nil a cap w
  · exact added_some b off cap l w hl hx hb hc
end Go.Proofs.Ytohnagmkbjdlmaa
