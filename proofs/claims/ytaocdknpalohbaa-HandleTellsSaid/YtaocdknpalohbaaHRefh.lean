/- The document's Handle: the walk through its text. No condition. -/
import Derived.Test.YtaocdknpalohbaaRefd
import Derived.Test.YtaocdknpalohbaaSlots
import Derived.BigQuiet
import Derived.LoopTactic
import Derived.Deep.RegionHeld3
import Derived.Deep.QuietTactic
import Derived.Deep.MidRow
namespace Go.Proofs.Ytaocdknpalohbaa
open Go.RowKit Go.BigFrame
set_option maxRecDepth 20000

theorem val_take_succ (l : List UInt8) (j : Nat) (h : j < l.length) : val (l.take (j + 1)) = val (l.take j) * 256 + (l[j]).toNat := by
  rw [List.take_succ_eq_append_getElem h, val_snoc]
theorem val_take_lt (l : List UInt8) (j : Nat) : val (l.take j) < 256 ^ j := by
  have h := val_lt (l.take j)
  exact Nat.lt_of_lt_of_le h (Nat.pow_le_pow_right (by decide) (List.length_take_le _ _))
theorem dg_at (l : List UInt8) (j : Nat) (h : j < l.length) : (dg l)[j]? = some (.int .u8 ((l[j]).toNat : Int)) := by
  simp [dg, Lib.byteCells, h]

/-- What Handle answers. -/
def handF (l : List UInt8) : Nat × Bool := if val (l.take 8) ≠ 0 ∧ hd (val (l.take 8)) = l then (val (l.take 8), true) else (0, false)
theorem ohandle_any (l : List UInt8) (hl : l.length = 32) (w : World) :
    Calls Try.prog 17 #[.agg (dg l)] w fun e w' => e = .returned (.tuple #[.int .u64 (handF l).1, .bool (handF l).2]) ∧ Below w.heap.size w w' := by
  by_cases h0 : val (l.take 8) = 0
  · have e : handF l = (0, false) := if_neg (fun h => h.1 h0)
    rw [e]; exact handle_zero l hl h0 w
  · by_cases h1 : hd (val (l.take 8)) = l
    · have e : handF l = (val (l.take 8), true) := if_pos ⟨h0, h1⟩
      rw [e]; exact handle_yes l hl h0 h1 w
    · have e : handF l = (0, false) := if_neg (fun h => h1 h.2)
      rw [e]; exact handle_no l hl h0 h1 w

attribute [local go_sem ↓] exec_loadD exec_eqlD exec_neqD
attribute [local go_sem] dg_fold
attribute [local go_sem] loadRow eqRow dg_size digEq_dg hd_length isDig_dg objAt_new objAt_old objAt_drew objAt_drewN

/-- The box of the digest, whatever is made behind it. -/
def DigAt (w0 : World) (B : Nat) (l : List UInt8) (w : World) : Prop := w.heap[B]? = some (.cells (dg l) 35 (0, 0)) ∧ Below w0.heap.size w0 w ∧ B < w.heap.size
theorem DigAt.below {w0 w w' : World} {B : Nat} {l : List UInt8} (h : DigAt w0 B l w) (hB : w0.heap.size ≤ B) (g : Below w.heap.size w w') : DigAt w0 B l w' :=
  ⟨(g.block B h.2.2).trans h.1, h.2.1.trans (g.mono (by have := h.2.2; omega)), Nat.lt_of_lt_of_le h.2.2 g.size⟩

set_option maxHeartbeats 4000000 in
theorem rhandle_core (l : List UInt8) (hl : l.length = 32) (w : World) (h1 : Nat) (h2 : Bool) (hform : (h1, h2) = if val (l.take 8) ≠ 0 ∧ hd (val (l.take 8)) = l then (val (l.take 8), true) else (0, false)) :
    Calls Try.prog 18 #[.agg (dg l)] w fun e w' => e = .returned (.tuple #[.int .u64 h1, .bool h2]) ∧ Below w.heap.size w w' := by
  have HFORM := hide hform
  clear hform
  have hc : ∀ j, (h : j < 8) → (w.alloc (.cells (dg l) 35)).cell? ⟨w.heap.size, j, none⟩ = some (.int .u8 ((l[j]'(by omega)).toNat : Int)) := fun j h =>
    cell_of (new_at w _) (dg_at l j (by omega))
  have HL := hide hl
  have HC := hide hc
  clear hc
  go_enter Try.func18, Try.ntmps18
  go_wp2
  go_loop [4, 5] (fun n i => ∃ j : Nat, j ≤ 8 ∧ i = .int .i64 j ∧ n = .int .u64 (val (l.take j) : Nat)) (fun _ i => 8 - (intOf i).toNat)
  case atStart => exact ⟨0, by omega, rfl, rfl⟩
  case round =>
    obtain ⟨j, hj, rfl, rfl⟩ := hrel
    by_cases hlt : j < 8
    · have hcj := HC.out j hlt
      have hv := val_take_succ l j (by omega)
      have hv1 := val_take_lt l j
      have hv2 := val_take_lt l (j + 1)
      have hp : 256 ^ j ≤ 256 ^ 7 := Nat.pow_le_pow_right (by decide) (by omega)
      have hp2 : 256 ^ (j + 1) ≤ 256 ^ 8 := Nat.pow_le_pow_right (by decide) (by omega)
      obtain ⟨b, hb⟩ : ∃ b : Nat, (l[j]'(by omega)).toNat = b := ⟨_, rfl⟩
      have hb8 : b < 256 := by rw [← hb]; exact (l[j]'(by omega)).toNat_lt
      rw [hb] at hcj hv
      obtain ⟨V, hV⟩ : ∃ V, val (l.take j) = V := ⟨_, rfl⟩
      obtain ⟨U, hU⟩ : ∃ U, val (l.take (j + 1)) = U := ⟨_, rfl⟩
      rw [hV] at hv hv1 ⊢
      rw [hU] at hv hv2
      have hV7 : V < 72057594037927936 := by have : (256 : Nat) ^ 7 = 72057594037927936 := by decide
                                             omega
      clear hv1 hv2 hp hp2 hV hb
      have HU := hide hU
      have HV := hide hv
      clear hU hv
      go_wp2
      refine ⟨⟨j + 1, by omega, by simp, ?_⟩, by simp [intOf]; omega⟩
      rw [HU.out, HV.out]
      simp
    · obtain rfl : j = 8 := by omega
      clear hlt hj HC
      have hlt : val (l.take 8) < 18446744073709551616 := by
        have := val_take_lt l 8
        exact this
      have hform := HFORM.out
      clear HFORM
      obtain ⟨V, hVd⟩ : ∃ V, V = val (l.take 8) := ⟨_, rfl⟩
      rw [← hVd] at hlt hform ⊢
      clear hVd
      obtain ⟨w2, hw2⟩ : ∃ w2, w2 = w.alloc (.cells (dg l) 35) := ⟨_, rfl⟩
      have hg2 : w2.heap[w.heap.size]? = some (.cells (dg l) 35 (0, 0)) := by rw [hw2]; exact new_at _ _
      have hB2 : Below w.heap.size w w2 := by rw [hw2]; exact (Below.refl w.heap.size w).alloc (Nat.le_refl _) _
      have hz2 : w.heap.size < w2.heap.size := by rw [hw2]; simp
      rw [← hw2]
      clear hw2
      by_cases h0 : V = 0
      · subst h0
        rw [if_neg (fun h => h.1 rfl)] at hform
        injection hform with f1 f2
        subst f1 f2
        clear hlt
        go_wp2_with fail
        go_quiet (fail)
        go_wp2
        go_ret2
        exact ⟨rfl, below_drewN hB2 _⟩
      · have hVi : ((V : Int) == 0) = false := by rw [beq_eq_false_iff_ne]; omega
        have hr2 := range_dg hg2
        have huD := Try.underlying35
        have hiD : (Try.prog.info? 35).map (·.size) = some (Lib.byteCells l).length := by rw [Lib.byteCells_length, HL.out]; exact digT.size
        by_cases hne : hd V = l
        · have hb : (hd V == l) = true := by rw [beq_iff_eq]; exact hne
          rw [if_pos ⟨h0, hne⟩] at hform
          injection hform with f1 f2
          subst f1 f2
          clear h0 hne
          go_wp2_with fail
          go_region_held3 (fun w' => w'.rangeAt w.heap.size 0 (Lib.byteCells l) ∧ Below w.heap.size w w' ∧ w.heap.size < w'.heap.size) (first | assumption | exact ⟨hr2, hB2.drew, hz2⟩ | go_keep | (refine ⟨?_, ?_, ?_⟩ <;> first | assumption | go_keep))
            (first
              | (go_at_call 10; refine (rdigest_any _ _ (by omega) (by omega)).mono ?_; rintro e w' ⟨rfl, hb'⟩; have hS' := held_below (by assumption) hb'))
          all_goals
            go_wp2
            go_ret2
            exact ⟨rfl, hS'.2.1⟩
        · have hb : (hd V == l) = false := by rw [beq_eq_false_iff_ne]; exact hne
          rw [if_neg (fun h => hne h.2)] at hform
          injection hform with f1 f2
          subst f1 f2
          clear h0 hne
          go_wp2_with fail
          go_region_held3 (fun w' => w'.rangeAt w.heap.size 0 (Lib.byteCells l) ∧ Below w.heap.size w w' ∧ w.heap.size < w'.heap.size) (first | assumption | exact ⟨hr2, hB2.drew, hz2⟩ | go_keep | (refine ⟨?_, ?_, ?_⟩ <;> first | assumption | go_keep))
            (first
              | (go_at_call 10; refine (rdigest_any _ _ (by omega) (by omega)).mono ?_; rintro e w' ⟨rfl, hb'⟩; have hS' := held_below (by assumption) hb'))
          all_goals
            go_wp2
            go_ret2
            exact ⟨rfl, hS'.2.1⟩

theorem rhandle_any (l : List UInt8) (hl : l.length = 32) (w : World) :
    Calls Try.prog 18 #[.agg (dg l)] w fun e w' => e = .returned (.tuple #[.int .u64 (handF l).1, .bool (handF l).2]) ∧ Below w.heap.size w w' := rhandle_core l hl w _ _ rfl
end Go.Proofs.Ytaocdknpalohbaa
