/- Layer 23: StrikeKnown: Barred of a tally that is none, and the closed law's walk. No condition. -/
import Derived.RangeFuncNested
import Derived.RangeFuncBound
import Derived.RangeFuncCalls
import Derived.RangeFuncLeaves
import Derived.Shelf.Abstract
import Derived.Shelf.RegionOpen
import Derived.WalkKit
import Derived.OwnWalkIn
import Derived.TacticsInMore
import Derived.LoopNIn
import Derived.LoopIn
import Derived.Maps.AppendAt
import Derived.Test.YtohnagmkbjdlmaaAdded
namespace Go.Proofs.Ytohnagmkbjdlmaa
open Go.RowKit Go.Shelf
set_option maxRecDepth 20000
attribute [local go_sem] Oper.semAt_some


set_option maxRecDepth 100000 in
set_option maxHeartbeats 1000000 in
theorem barred1n_in (n : Nat) (hn : 1 ≤ n) (l Bt : Nat) (J : List Nat → World → Prop) (W : World) (hBt : W.cell? ⟨Bt, 0, none⟩ = some (.pointer none)) (h0 : J [] W) :
    CallsIn Fence.wide n Try.prog 18 #[.func (.yield l) #[] #[], .pointer (some ⟨Bt, 0, none⟩)] W fun e W' => (∃ v, e = .returned v) ∧ J [] W' := by
  refine callsIn_of_wp Try.func18 rfl trivial ?_ rfl
  simp only [Try.ntmps18, List.size_toArray, List.length_cons, List.length_nil, Nat.reduceAdd, Nat.reduceSub, Array.replicate_succ, Array.replicate_zero, List.push_toArray, List.append_toArray, List.nil_append, List.cons_append]
  gi_wp2
  gi_loopw [3] (fun c wr => c = .int .i64 0 ∧ wr = W) (fun _ _ => 0)
  case atStart => exact ⟨rfl, rfl⟩
  case round =>
    obtain ⟨rfl, rfl⟩ := hrel
    gi_wp2_with fail
    refine ⟨trivial, (callsIn_wide.2 (has_nil wr _)).mono ?_⟩
    rintro e w1 ⟨rfl, rfl⟩
    gi_wp2
    go_end0
    exact ⟨⟨_, rfl⟩, h0⟩
theorem barredn_in (n : Nat) (w : World) :
    CallsIn Fence.wide n Try.prog 16 #[.pointer none] w fun e w' => e = .returned (.func (.func 18) #[] #[.pointer (some ⟨w.heap.size, 0, none⟩)]) ∧ w' = w.alloc (.cells #[.pointer none] 24) := by
  refine callsIn_of_wp Try.func16 rfl trivial ?_ rfl
  simp only [Try.ntmps16, List.size_toArray, List.length_cons, List.length_nil, Nat.reduceAdd, Nat.reduceSub, Array.replicate_succ, Array.replicate_zero, List.push_toArray, List.append_toArray, List.nil_append, List.cons_append]
  gi_wp2
  go_ret
  exact ⟨rfl, rfl⟩
theorem barredn_stops (n : Nat) (hn : 1 ≤ n) (Bt : Nat) (w : World) (hBl : Bt < w.heap.size) (hBt : w.cell? ⟨Bt, 0, none⟩ = some (.pointer none)) :
    SeqStopsK Fence.wide n Try.prog 18 #[.pointer (some ⟨Bt, 0, none⟩)] (fun x : Nat => #[Value.int .i64 (x : Int)]) (fun _ _ => True) (fun ys => ys = []) (fun _ => True) 0 w := fun l J _ W hW _ _ _ h0 =>
  (barred1n_in n hn l Bt J W ((hW.cell (p := ⟨Bt, 0, none⟩) hBl).trans hBt) h0).mono fun _ _ ⟨he, hj⟩ => ⟨he, .inl ⟨_, rfl, hj⟩⟩

set_option maxRecDepth 100000 in
set_option maxHeartbeats 2000000 in
theorem barrednAll_in (n : Nat) (hn : 3 ≤ n) (w : World) :
    CallsIn Fence.wide n Try.prog 11 #[.pointer none] w fun e W' => e = .returned (.slice none 0 0) ∧ Below w.heap.size w W' := by
  have h1 : 1 ≤ n := by omega
  refine callsIn_of_wp_marks Try.func11 rfl trivial ?_ rfl
  simp only [Try.ntmps11, List.size_toArray, List.length_cons, List.length_nil, Nat.reduceAdd, Nat.reduceSub, Array.replicate_succ, Array.replicate_zero, List.push_toArray, List.append_toArray, List.nil_append, List.cons_append]
  gi_wp2_with (refine ⟨trivial, ?_⟩; gi_at_call 16; refine (barredn_in (n - 1) _).mono ?_; rintro e w' ⟨rfl, rfl⟩)
  have bO := (Boxed.new w 26 (.slice none 0 0)).alloc (.cells #[.pointer none] 24)
  have bT := Boxed.new (w.alloc (.cells #[.slice none 0 0] 26)) 24 (.pointer none)
  rw [World.size_alloc] at bT
  have hB0 : Below w.heap.size w ((w.alloc (.cells #[.slice none 0 0] 26)).alloc (.cells #[.pointer none] 24)) := ((Below.refl _ w).alloc (Nat.le_refl _) _).alloc (by simp) _
  obtain ⟨W0, hW0⟩ : ∃ W0, (w.alloc (.cells #[.slice none 0 0] 26)).alloc (.cells #[.pointer none] 24) = W0 := ⟨_, rfl⟩
  have hsz : W0.heap.size = w.heap.size + 2 := by rw [← hW0]; simp
  rw [hW0] at bO bT hB0 ⊢
  have HSZ := Lib.hid hsz
  clear hW0 hsz
  refine wpIn_rangeFunc_ownG rfl h1 (gf := 18) (lb := #[.pointer (some ⟨w.heap.size + 1, 0, none⟩)]) rfl trivial (enters_of Try.func18 (by kernel_rfl) rfl)
    (barredn_stops (n - 1) (by omega) (w.heap.size + 1) _ (by rw [HSZ.out]; omega) bT.cell) (fun _ _ => trivial) (fun _ _ _ _ _ _ _ _ => trivial) (Below.refl _ _) (fun _ => rfl)
    (fun _ W => Boxed W w.heap.size 26 (.slice none 0 0) ∧ Below w.heap.size w W)
    (fun _ _ _ => False)
    (OwnFrom.and (Own.from (fun s A B row hs hg hr => box_keep hs hg hr) _) (ownFrom_below (Nat.le_refl _) (by rw [HSZ.out]; omega)))
    (fun c => fun s A B row hs => hs.elim)
    ⟨bO, hB0⟩
    (fun x => { tmps := #[.pointer none, undef, .pointer (some ⟨w.heap.size, 0, none⟩), .int .i64 (x : Int), .pointer none, .func (.func 18) #[] #[.pointer (some ⟨w.heap.size + 1, 0, none⟩)], .int .i64 (x : Int), undef, undef, undef, undef, undef, undef], defers := [] }) ?assign ?body ?done ?stop
  case assign =>
    intro l x W K hK
    gi_wp2
    exact hK
  case body =>
    rintro l pre x W _ hlen
    exact absurd hlen (Nat.not_lt_zero _)
  case done =>
    rintro D ys W hD rfl ⟨hv, hB⟩ hK
    have hvc := hv.cell
    have hvf := hv.frozen
    gi_wp2_with (refine ⟨trivial, ?_⟩; gi_at_call 17; refine (callsIn_wide.2 (clip_nil _)).mono ?_; rintro e w1 ⟨rfl, rfl⟩)
    have hK1 := (KeepsOthers.setCell W ⟨w.heap.size, 0, none⟩ (.slice none 0 0)).same D _ hK rfl
    have c0 := box_keep (hv.set (.slice none 0 0)) (grownBy_putObj' _ D (.deferred none)) (fun r e => by cases e; exact ⟨_, hK1, rfl⟩)
    have d0 := c0.cell
    refine ⟨by simp, .inl ⟨_, _, rfl, run_takeDeferred hK1, ?_⟩⟩
    refine ⟨.slice none 0 0, ?_, rfl, (hB.setCell (p := ⟨w.heap.size, 0, none⟩) (Nat.le_refl _) _).trans (belowK_b (w := w) (Nat.le_refl _) _ D _ _ (by have := HSZ.out; omega) hK1 rfl rfl)⟩
    simp [results, Try.f11, go_sem, d0]
  case stop =>
    rintro D c pre W hD _ hF hK
    exact hF.elim
theorem barrednAll_any (w : World) : Calls Try.prog 11 #[.pointer none] w fun e W' => e = .returned (.slice none 0 0) ∧ Below w.heap.size w W' :=
  callsIn_wide.1 (barrednAll_in 3 (by omega) w)

/-- Sixteen bytes that the call wrote out. -/
def sixteen : List Nat := [0, 1, 2, 3, 4, 5, 6, 7, 0, 1, 2, 3, 4, 5, 6, 7]
theorem lit_offs (w : World) (cs : Array Value) (l : List Nat) (h : cs.toList = l.map fun x : Nat => Value.int .u8 (x : Int)) (n : Nat) (hn : l.length = n) (t : TypeId) : OffsAt (w.alloc (.cells cs t)) (.slice (some ⟨w.heap.size, 0, none⟩) n n) l := by
  refine .inr ⟨w.heap.size, 0, n, by rw [hn], by simp, fun j hj => ?_⟩
  refine cellAt (World.alloc_heap_new w _) ?_
  rw [Nat.zero_add, ← Array.getElem?_toList, h]
  simp [hj]

theorem added16 (w : World) : Calls Try.prog 7 #[.slice (some ⟨w.heap.size, 0, none⟩) 16 16] (w.alloc (.cells #[.int .u8 0, .int .u8 1, .int .u8 2, .int .u8 3, .int .u8 4, .int .u8 5, .int .u8 6, .int .u8 7, .int .u8 0, .int .u8 1, .int .u8 2, .int .u8 3, .int .u8 4, .int .u8 5, .int .u8 6, .int .u8 7] 5)) fun e w' =>
    e = .returned (.pointer (some ⟨w.heap.size + 1, 0, none⟩)) ∧ IsTally w' (w.heap.size + 1) [2, 2, 2, 2, 2, 2, 2, 2] 8 ∧ Below w.heap.size w w' := by
  have h := added_any _ sixteen _ (lit_offs w #[.int .u8 0, .int .u8 1, .int .u8 2, .int .u8 3, .int .u8 4, .int .u8 5, .int .u8 6, .int .u8 7, .int .u8 0, .int .u8 1, .int .u8 2, .int .u8 3, .int .u8 4, .int .u8 5, .int .u8 6, .int .u8 7] sixteen rfl 16 rfl 5) (by decide) (by decide)
  rw [World.size_alloc, show cnt (sixteen.take 60) = [2, 2, 2, 2, 2, 2, 2, 2] from by decide] at h
  exact h.mono fun e w' ⟨he, ht, hb⟩ => ⟨he, ht, ((Below.refl _ w).alloc (Nat.le_refl _) _).trans (hb.mono (by simp))⟩

set_option maxHeartbeats 4000000 in
theorem known_any (w : World) : Calls Try.prog 5 #[] w fun e w' => e = .returned (.bool true) ∧ Below w.heap.size w w' := by
  go_enter Try.func5, Try.ntmps5
  go_wp2_with fail
  refine (added16 _).mono ?_
  rintro e w1 ⟨rfl, ht1, hb1⟩
  obtain ⟨tb, htb⟩ : ∃ tb, tb = w.heap.size + 1 := ⟨_, rfl⟩
  rw [← htb] at ht1 ⊢
  have hN : w.heap.size ≤ tb := by omega
  clear htb
  go_wp2_with fail
  refine (barredAll_any _ _ _ _ ht1).mono ?_
  rintro e w2 ⟨v, rfl, hr2, hb2⟩
  rw [show bl [2, 2, 2, 2, 2, 2, 2, 2] 8 = [] from by decide] at hr2
  have hv : v = .slice none 0 0 := by
    rcases hr2 with ⟨h, _⟩ | ⟨_, _, _, _, _, _, h, _⟩
    · exact h
    · exact absurd h (Nat.lt_irrefl 0)
  subst hv
  have ht2 := ht1.below hb2
  have hB2 := hb1.trans (hb2.mono hb1.size)
  clear hr2 hb2 ht1 hb1
  go_wp2_with fail
  refine (total_okI _ _ _ _ ht2 (by decide) 16 rfl).mono ?_
  rintro e w3 ⟨rfl, rfl⟩
  go_wp2_with fail
  refine (add_okI _ _ _ _ [2, 2, 2, 2, 2, 2, 2, 3] ht2 _ 7 rfl (by decide) (by decide) rfl).mono ?_
  rintro e w3 ⟨rfl, ht3, hg3⟩
  have hB3 := below_grown hB2 hg3 hB2.size (by intro k e; cases e; exact hN)
  clear ht2 hg3 hB2
  go_wp2_with fail
  refine (add_no _ _ _ _ ht3 _ (by decide)).mono ?_
  rintro e w4 ⟨rfl, rfl⟩
  go_wp2_with fail
  refine (add_no _ _ _ _ ht3 _ (by decide)).mono ?_
  rintro e w4 ⟨rfl, rfl⟩
  go_wp2_with fail
  refine (add_okI _ _ _ _ [3, 2, 2, 2, 2, 2, 2, 3] ht3 _ 0 rfl (by decide) (by decide) rfl).mono ?_
  rintro e w4 ⟨rfl, ht4, hg4⟩
  have hB4 := below_grown hB3 hg4 hB3.size (by intro k e; cases e; exact hN)
  clear ht3 hg4 hB3
  go_wp2_with fail
  refine (works_any _).mono ?_
  rintro e w5 ⟨rfl, hb5⟩
  have ht5 := ht4.below hb5
  have hB5 := hB4.trans (hb5.mono hB4.size)
  clear ht4 hb5 hB4
  go_wp2_with fail
  refine (barredAll_any _ _ _ _ ht5).mono ?_
  rintro e w6 ⟨v, rfl, hr6, hb6⟩
  rw [show bl [3, 2, 2, 2, 2, 2, 2, 3] 8 = [0, 7] from by decide] at hr6
  have hB6 := hB5.trans (hb6.mono hB5.size)
  clear ht5 hb6 hB5
  go_wp2_with fail
  refine (same_true (ints [0, 7]) (by decide) _ _ _ (hr6.ints.below ((Below.refl _ _).alloc (Nat.le_refl _) _)) (lit_ints _ _ (ints [0, 7]) rfl 2 rfl _)).mono ?_
  rintro e w7 ⟨rfl, k, rfl⟩
  have hB7 := below_drewN (hB6.alloc hB6.size (.cells #[.int .i64 0, .int .i64 7] 3)) k
  go_wp2_with fail
  refine (add_nil _ _).mono ?_
  rintro e w8 ⟨rfl, rfl⟩
  go_wp2_with fail
  refine (of_nil _ _).mono ?_
  rintro e w8 ⟨rfl, rfl⟩
  go_wp2_with fail
  refine (is_nil _ _).mono ?_
  rintro e w8 ⟨rfl, rfl⟩
  go_wp2_with fail
  refine (barrednAll_any _).mono ?_
  rintro e w8 ⟨rfl, hb8⟩
  have hB8 := hB7.trans (hb8.mono hB7.size)
  go_wp2_with fail
  refine (total_nil _).mono ?_
  rintro e w9 ⟨rfl, rfl⟩
  go_wp2
  go_ret
  exact ⟨rfl, hB8⟩
end Go.Proofs.Ytohnagmkbjdlmaa
