/- Layer 1: what the document's Sum answers: the walk. Condition: no more numbers than a slice holds. -/
import Derived.Test.YtgbbediopjkkeaaNSums
import Derived.Test.YtgbbediopjkkeaaNTimes
namespace Go.Proofs.Ytgbbediopjkkeaa
open Go.RowKit Go.BigFrame Go.Shelf
set_option maxRecDepth 20000

theorem region_quiet_list {P : Program} {C : World → Prop} {id : Nat} {Q : Exit → Act → World → Prop} {a : Act} {w : World} {l : List Oper} (hm : P.follows .mixedOrders = true) (hB : Region.lexB .any l.toArray = true) (hC : C { w with drawn := w.drawn + 1 })
    (h : wpQuiet P l.toArray C (fun a' => ∀ w', C w' → Q .normal a' w') l a) : (Code.region id l.toArray true).wp P Q a w :=
  wp_region_quiet hm hB hC (by simpa using h)

theorem below_in {w0 w w' : World} (h : Below w0.heap.size w0 w) (g : Below w.heap.size w w') : Below w0.heap.size w0 w' := h.trans (g.mono h.size)

theorem wsum_walk (a b z : Int) (w : World) (ha : -9223372036854775808 ≤ a) (ha' : a ≤ 9223372036854775807) (hb : -9223372036854775808 ≤ b) (hb' : b ≤ 9223372036854775807) (hz : a + b = z) :
    Calls Try.prog 15 #[wide (addS (decide (a < 0)) a.natAbs (decide (b < 0)) b.natAbs) (addM (decide (a < 0)) a.natAbs (decide (b < 0)) b.natAbs)] w fun e w' => e = .returned (.tuple #[.int .i64 (cut z), .bool (fitsB z)]) ∧ Below w.heap.size w w' := by
  subst hz
  have e : sgn (addS (decide (a < 0)) a.natAbs (decide (b < 0)) b.natAbs) (addM (decide (a < 0)) a.natAbs (decide (b < 0)) b.natAbs) = a + b := by rw [sgn_add, sgn_of, sgn_of]
  have := fits_any (addS (decide (a < 0)) a.natAbs (decide (b < 0)) b.natAbs) (addM (decide (a < 0)) a.natAbs (decide (b < 0)) b.natAbs) w (by have := addM_lt (s := decide (a < 0)) (x := a.natAbs) (t := decide (b < 0)) (y := b.natAbs) (by omega) (by omega); omega)
  rw [e] at this
  exact this

theorem allFit_no (zs : List Int) (k : Nat) (hk : k < zs.length) (h : (st zs (k + 1)).2 = false) : allFit zs = false ∧ sumN zs = 0 := by
  have hall : allFit zs = false := by
    rw [Bool.eq_false_iff]
    intro h'
    have := List.all_eq_true.1 h' (st zs (k + 1)) (by simp only [upto, List.mem_map, List.mem_range]; exact ⟨k, hk, rfl⟩)
    rw [h] at this
    cases this
  exact ⟨hall, by simp [sumN, hall]⟩
theorem allFit_yes (zs : List Int) (h : ∀ j, j < zs.length → (st zs (j + 1)).2 = true) : allFit zs = true ∧ sumN zs = (st zs zs.length).1 := by
  have hall : allFit zs = true := by
    refine List.all_eq_true.2 fun p hp => ?_
    simp only [upto, List.mem_map, List.mem_range] at hp
    obtain ⟨j, hj, rfl⟩ := hp
    exact h j hj
  exact ⟨hall, by simp [sumN, hall]⟩

set_option maxHeartbeats 4000000 in
theorem refsum_some (b off cap : Nat) (zs : List Int) (hlen : zs.length ≤ 9223372036854775807) (hz : In64 zs) (w : World) (hb : b < w.heap.size) (hc : ∀ j, j < zs.length → w.cell? ⟨b, off + j, none⟩ = some (.int .i64 (zs[j]?.getD 0))) :
    Calls Try.prog 9 #[.slice (some ⟨b, off, none⟩) zs.length cap] w fun e W' => e = .returned (.tuple #[.int .i64 (sumN zs), .bool (allFit zs)]) ∧ Below w.heap.size w W' := by
  obtain ⟨len, hl⟩ : ∃ len, zs.length = len := ⟨_, rfl⟩
  rw [hl] at hlen hc ⊢
  have HL := Lib.hid hl
  clear hl
  go_enter Try.func9, Try.ntmps9
  go_wp2
  go_loopw [4, 5] (fun m i wr => ∃ k : Nat, k ≤ len ∧ i = .int .i64 k ∧ m = .int .i64 (st zs k).1 ∧ (∀ j, j < k → (st zs (j + 1)).2 = true) ∧ Below w.heap.size w wr) (fun _ i _ => len - (intOf i).toNat)
  case atStart => exact ⟨0, Nat.zero_le _, rfl, rfl, fun j h => by omega, Below.refl _ _⟩
  case round =>
    obtain ⟨k, hk, rfl, rfl, hall, hnx⟩ := hrel
    by_cases hlt : k < len
    · have hcx := hc k hlt
      have hs := st_in zs k
      have hzk := hz k (by rw [HL.out]; exact hlt)
      obtain ⟨s0, hs0⟩ : ∃ s0, (st zs k).1 = s0 := ⟨_, rfl⟩
      obtain ⟨z0, hz0⟩ : ∃ z0, zs[k]?.getD 0 = z0 := ⟨_, rfl⟩
      have hst : st zs (k + 1) = (cut (s0 + z0), fitsB (s0 + z0)) := by simp only [st, hs0, hz0]
      have HST := Lib.hid hst
      have HALL := Lib.hid hall
      rw [hs0] at hs ⊢
      rw [hz0] at hzk hcx
      have HCX := Lib.hid hcx
      clear hs0 hz0 hst hc hcx hall
      go_wp2
      refine region_quiet_list (C := fun wq => Below w.heap.size w wq) (by kernel_rfl) (by kernel_rfl) hnx.drew ?_
      go_big_quiet_want
      go_big_quiet_op
      first | go_big_quiet_on | (refine ⟨_, fun _ _ => rfl, ?_⟩; go_big_quiet_on)
      go_big_quiet_want
      go_big_quiet_op
      refine ⟨wide (decide (s0 < 0)) s0.natAbs, fun wq hq => (of_any s0 wq hs.1 hs.2).mono fun e w' ⟨he, hb⟩ => ⟨he, below_in hq hb⟩, ?_⟩
      go_big_quiet_on
      iterate 2 (go_big_quiet_want; go_big_quiet_op; first | go_big_quiet_on | (refine ⟨_, fun _ _ => rfl, ?_⟩; go_big_quiet_on))
      go_big_quiet_want
      go_big_quiet_op
      refine ⟨_, fun _ _ => rfl, ?_⟩
      go_big_quiet_on
      go_big_quiet_want
      go_big_quiet_op
      refine ⟨.int .i64 z0, fun wq hq => ?_, ?_⟩
      · have hq1 := (hq.cell (p := ⟨b, off + k, none⟩) hb).trans HCX.out
        simp [hq1, Result.andThen]
      go_big_quiet_on
      go_big_quiet_want
      go_big_quiet_op
      refine ⟨wide (decide (z0 < 0)) z0.natAbs, fun wq hq => (of_any z0 wq hzk.1 hzk.2).mono fun e w' ⟨he, hb⟩ => ⟨he, below_in hq hb⟩, ?_⟩
      go_big_quiet_on
      go_big_quiet_want
      go_big_quiet_op
      refine ⟨_, fun wq hq => (wadd_any _ _ _ _ wq (by omega) (by omega)).mono fun e w' ⟨he, hb⟩ => ⟨he, below_in hq hb⟩, ?_⟩
      go_big_quiet_on
      go_big_quiet_want
      go_big_quiet_op
      refine ⟨.tuple #[.int .i64 (cut (s0 + z0)), .bool (fitsB (s0 + z0))], fun wq hq => (wsum_walk s0 z0 _ wq hs.1 hs.2 hzk.1 hzk.2 rfl).mono fun e w' ⟨he, hb⟩ => ⟨he, below_in hq hb⟩, ?_⟩
      go_big_quiet_on
      iterate 5 (first | go_big_quiet_skip | (go_big_quiet_want; go_big_quiet_op; first | go_big_quiet_on | (refine ⟨_, fun _ _ => rfl, ?_⟩; go_big_quiet_on)))
      refine wpQuiet_nil ?_
      intro wq hq
      obtain ⟨c1, hc1⟩ : ∃ c1, cut (s0 + z0) = c1 := ⟨_, rfl⟩
      obtain ⟨b1, hb1⟩ : ∃ b1, fitsB (s0 + z0) = b1 := ⟨_, rfl⟩
      rw [hc1, hb1] at HST ⊢
      clear hc1 hb1 hs hzk
      cases b1
      · go_wp2
        go_ret2
        have hno := allFit_no zs k (by rw [HL.out]; exact hlt) (by rw [HST.out])
        exact ⟨by rw [hno.1, hno.2]; rfl, hq⟩
      · go_wp2
        go_roundw
        case rel =>
          refine ⟨k + 1, by omega, by go_num, by rw [HST.out], fun j hj => ?_, hq⟩
          by_cases hjk : j < k
          · exact HALL.out j hjk
          · obtain rfl : j = k := by omega
            rw [HST.out]
        case measure => simp [intOf]; omega
    · obtain rfl : k = len := by omega
      have hyes := allFit_yes zs (by rw [HL.out]; exact hall)
      rw [HL.out] at hyes
      have HY := Lib.hid hyes
      clear hyes hall
      go_wp2
      go_ret2
      exact ⟨by rw [HY.out.1, HY.out.2]; rfl, hnx⟩

theorem refsum_none (a : Option Addr) (cap : Nat) (w : World) :
    Calls Try.prog 9 #[.slice a 0 cap] w fun e W' => e = .returned (.tuple #[.int .i64 0, .bool true]) ∧ Below w.heap.size w W' := by
  go_enter Try.func9, Try.ntmps9
  go_wp2
  refine wp_loop_rounds 1 ?_
  rw [rounds_succ]
  go_wp2
  go_ret2
  exact ⟨rfl, Below.refl _ _⟩

theorem refsum_any (a : Option Addr) (len cap : Nat) (zs : List Int) (hlen : zs.length ≤ 9223372036854775807) (hz : In64 zs) (w : World) (hI : Nums w.heap.size w (.slice a len cap) zs) :
    Calls Try.prog 9 #[.slice a len cap] w fun e W' => e = .returned (.tuple #[.int .i64 (sumN zs), .bool (allFit zs)]) ∧ Below w.heap.size w W' := by
  rcases hI with ⟨⟨a0, c0, e⟩, rfl⟩ | ⟨b, off, cap', e, hb, hc⟩
  · cases e
    exact refsum_none _ _ w
  · cases e
    exact refsum_some b off cap zs hlen hz w hb hc
end Go.Proofs.Ytgbbediopjkkeaa
