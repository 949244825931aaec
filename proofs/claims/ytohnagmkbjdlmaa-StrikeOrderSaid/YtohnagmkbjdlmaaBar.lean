/- Layer 23: Barred: the walk through its range over a function, and the iterator's contract. No condition. -/
import Derived.RangeFuncNested
import Derived.RangeFuncBound
import Derived.RangeFuncCalls
import Derived.RangeFuncLeaves
import Derived.Shelf.Abstract
import Derived.Shelf.RegionOpen
import Derived.WalkKit
import Derived.OwnWalkIn
import Derived.TacticsInMore
import Derived.LoopNIn
import Derived.LoopIn
import Derived.Maps.AppendAt
import Derived.Test.YtohnagmkbjdlmaaTot
namespace Go.Proofs.Ytohnagmkbjdlmaa
open Go.RowKit Go.Shelf
set_option maxRecDepth 20000
attribute [local go_sem] Oper.semAt_some

/-- The barred ones among the first k. -/
def bl (cs : List Nat) (k : Nat) : List Nat := (List.range k).filter fun c => decide (3 ≤ cs.getD c 0)
theorem bl_succ (cs : List Nat) (k : Nat) : bl cs (k + 1) = if 3 ≤ cs.getD k 0 then bl cs k ++ [k] else bl cs k := by
  unfold bl
  rw [List.range_succ, List.filter_append]
  by_cases h : 3 ≤ cs.getD k 0
  · rw [if_pos h, List.filter_cons, if_pos (decide_eq_true h)]; rfl
  · rw [if_neg h, List.filter_cons, if_neg (by simpa using h)]; simp
theorem bl_length (cs : List Nat) (k : Nat) : (bl cs k).length ≤ k := by
  have := List.length_filter_le (fun c => decide (3 ≤ cs.getD c 0)) (List.range k)
  simpa [bl] using this

/-- The tally and the box that the iterator holds lie as they lay. -/
def Keep2 (tb Bt : Nat) (A B : World) : Prop := B.heap[tb]? = A.heap[tb]? ∧ B.heap[Bt]? = A.heap[Bt]?
theorem keep2_t {tb Bt : Nat} {A B C : World} (h : Keep2 tb Bt A B) (k : Keep2 tb Bt B C) : Keep2 tb Bt A C := ⟨k.1.trans h.1, k.2.trans h.2⟩
theorem keep2_b {w : World} {tb Bt : Nat} (h1 : tb < w.heap.size) (h2 : Bt < w.heap.size) (W : World) (l : Nat) (o o' : Obj) (hl : w.heap.size ≤ l) (_h : W.heap[l]? = some o) (_ : o.isCells = false) (_ : o.isWalk = false) : Keep2 tb Bt W (W.putObj l o') :=
  ⟨by simp [World.putObj, Array.getElem?_setIfInBounds]; omega, by simp [World.putObj, Array.getElem?_setIfInBounds]; omega⟩
theorem IsTally.on {A B : World} {tb n : Nat} {cs : List Nat} (h : IsTally A tb cs n) (g : B.heap[tb]? = A.heap[tb]?) : IsTally B tb cs n := ⟨g.trans h.at_, h.len, h.some_, h.most⟩

set_option maxRecDepth 100000 in
set_option maxHeartbeats 2000000 in
theorem barred1_in (n : Nat) (hn : 1 ≤ n) (l Bt tb m : Nat) (cs : List Nat) (J Jx : List Nat → World → Prop) (W : World)
    (hY : ∀ pre x W, J pre W → pre.length < 8 → YieldAt Fence.wide (n - 1) Try.prog l #[.int .i64 ((x : Nat) : Int)] W fun e W' =>
      (e = .returned (.bool true) ∧ J (pre ++ [x]) W' ∧ Keep2 tb Bt W W') ∨ (e = .returned (.bool false) ∧ Jx (pre ++ [x]) W'))
    (hBt : W.cell? ⟨Bt, 0, none⟩ = some (.pointer (some ⟨tb, 0, none⟩))) (ht : IsTally W tb cs m) (h0 : J [] W) :
    CallsIn Fence.wide n Try.prog 18 #[.func (.yield l) #[] #[], .pointer (some ⟨Bt, 0, none⟩)] W fun e W' => (∃ v, e = .returned v) ∧
      ((∃ ys, ys = bl cs m ∧ J ys W') ∨ (∃ pre, True ∧ Jx pre W')) := by
  have hm8 := ht.most
  refine callsIn_of_wp Try.func18 rfl trivial ?_ rfl
  simp only [Try.ntmps18, List.size_toArray, List.length_cons, List.length_nil, Nat.reduceAdd, Nat.reduceSub, Array.replicate_succ, Array.replicate_zero, List.push_toArray, List.append_toArray, List.nil_append, List.cons_append]
  gi_wp2
  gi_loopw [3] (fun c wr => ∃ k : Nat, k ≤ m ∧ c = .int .i64 k ∧ J (bl cs k) wr ∧ Keep2 tb Bt W wr) (fun c _ => m - (intOf c).toNat)
  case atStart => exact ⟨0, Nat.zero_le _, rfl, h0, rfl, rfl⟩
  case round =>
    obtain ⟨k, hk, rfl, hJs, hnx⟩ := hrel
    have htr := ht.on hnx.1
    have hcx : wr.cell? ⟨Bt, 0, none⟩ = some (.pointer (some ⟨tb, 0, none⟩)) := (World.cell?_of_block (a := ⟨Bt, 0, none⟩) hnx.2).trans hBt
    by_cases hlt : k < m
    · have hof : ofF cs m (k : Int) = cs.getD k 0 := by unfold ofF; rw [if_pos (by omega)]; simp
      gi_wp2_with fail
      refine ⟨trivial, (callsIn_wide.2 (has_yes wr tb m cs htr k hlt)).mono ?_⟩
      rintro e w1 ⟨rfl, rfl⟩
      have hsucc := bl_succ cs k
      by_cases h3 : 3 ≤ cs.getD k 0
      · rw [if_pos h3] at hsucc
        have HS := Lib.hid hsucc
        clear hsucc
        gi_wp2_with fail
        refine ⟨trivial, (callsIn_wide.2 (is_any wr tb m cs htr k true (by rw [hof]; simpa using h3))).mono ?_⟩
        rintro e w1 ⟨rfl, rfl⟩
        obtain ⟨fn, tmps, assign, body, hy, hR⟩ := hY _ k wr hJs (by have := bl_length cs k; omega)
        clear hJs htr
        gi_wp2
        refine hR.mono ?_
        rintro e W3 (⟨rfl, hJ3, hk3⟩ | ⟨rfl, hJx3⟩)
        · clear hcx hof h3 hBt ht
          gi_wp2
          go_roundw
          case rel => exact ⟨k + 1, by omega, by simp, by rw [HS.out]; exact hJ3, keep2_t hnx hk3⟩
          case measure => simp [intOf]; omega
        · gi_wp2
          refine bodyPost_ret (results_none rfl _ _ _) rfl ?_
          exact ⟨⟨_, rfl⟩, .inr ⟨_, trivial, hJx3⟩⟩
      · rw [if_neg h3] at hsucc
        have HS := Lib.hid hsucc
        clear hsucc
        gi_wp2_with fail
        refine ⟨trivial, (callsIn_wide.2 (is_any wr tb m cs htr k false (by rw [hof]; simpa using h3))).mono ?_⟩
        rintro e w1 ⟨rfl, rfl⟩
        clear hcx hof h3 hBt ht htr
        gi_wp2
        refine ⟨(fun f h => by cases h), ?_⟩
        gi_wp2
        go_roundw
        case rel => exact ⟨k + 1, by omega, by simp, by rw [HS.out]; exact hJs, hnx⟩
        case measure => simp [intOf]; omega
    · obtain rfl : k = m := by omega
      gi_wp2_with fail
      refine ⟨trivial, (callsIn_wide.2 (has_no wr tb k cs htr k (by omega))).mono ?_⟩
      rintro e w1 ⟨rfl, rfl⟩
      gi_wp2
      go_end0
      exact ⟨⟨_, rfl⟩, .inl ⟨_, rfl, hJs⟩⟩

theorem barred_in (n : Nat) (tb : Nat) (w : World) :
    CallsIn Fence.wide n Try.prog 16 #[.pointer (some ⟨tb, 0, none⟩)] w fun e w' => e = .returned (.func (.func 18) #[] #[.pointer (some ⟨w.heap.size, 0, none⟩)]) ∧ w' = w.alloc (.cells #[.pointer (some ⟨tb, 0, none⟩)] 24) := by
  refine callsIn_of_wp Try.func16 rfl trivial ?_ rfl
  simp only [Try.ntmps16, List.size_toArray, List.length_cons, List.length_nil, Nat.reduceAdd, Nat.reduceSub, Array.replicate_succ, Array.replicate_zero, List.push_toArray, List.append_toArray, List.nil_append, List.cons_append]
  gi_wp2
  go_ret
  exact ⟨rfl, rfl⟩

theorem clip_nil (w : World) : Calls Try.prog 17 #[.slice none 0 0] w fun e w' => e = .returned (.slice none 0 0) ∧ w = w' := by
  go_enter Try.func17, Try.ntmps17
  go_wp2
  go_ret
  exact ⟨rfl, rfl⟩
theorem clip_some (g k cap : Nat) (hk : k ≤ cap) (_hc : cap ≤ 9223372036854775807) (w : World) : Calls Try.prog 17 #[.slice (some ⟨g, 0, none⟩) k cap] w fun e w' => e = .returned (.slice (some ⟨g, 0, none⟩) k k) ∧ w = w' := by
  go_enter Try.func17, Try.ntmps17
  go_wp2
  go_ret
  exact ⟨rfl, rfl⟩

theorem barred_stops (n : Nat) (hn : 1 ≤ n) (Bt tb m : Nat) (cs : List Nat) (w : World) (hBl : Bt < w.heap.size) (hBt : w.cell? ⟨Bt, 0, none⟩ = some (.pointer (some ⟨tb, 0, none⟩))) (ht : IsTally w tb cs m) :
    SeqStopsK Fence.wide n Try.prog 18 #[.pointer (some ⟨Bt, 0, none⟩)] (fun x : Nat => #[Value.int .i64 (x : Int)]) (Keep2 tb Bt) (fun ys => ys = bl cs m) (fun _ => True) 8 w := fun l J Jx W hW _ _ hY h0 =>
  barred1_in n hn l Bt tb m cs J Jx W hY ((hW.cell (p := ⟨Bt, 0, none⟩) hBl).trans hBt) (ht.below hW) h0

theorem box_keep {A B : World} {row : Option Nat} {k : Nat} {t : TypeId} {v : Value} (h : Boxed A k t v) (hg : A.grownBy B row) (hr : ∀ r, row = some r → ∃ o : Obj, A.heap[r]? = some o ∧ o.isCells = false) : Boxed B k t v :=
  boxed_own (β := Unit) k t (fun _ => v) () A B row h hg hr

theorem infoInt : (Try.prog.info? 3).map (fun i => (i.zero, i.size, i.bytes)) = some (some (.int .i64 0), 1, 8) := by kernel_rfl
def encI (x : Nat) : Value := .int .i64 (x : Int)
/-- What Barred answers: nil, or a row of its own that is full. -/
def FullRow (N : Nat) (w : World) (v : Value) (xs : List Nat) : Prop :=
  (v = .slice none 0 0 ∧ xs = []) ∨ ∃ g cur, v = .slice (some ⟨g, 0, none⟩) xs.length xs.length ∧ N ≤ g ∧ w.heap[g]? = some (.cells cur 3 (0, 0)) ∧ cur.toList.take xs.length = xs.map encI ∧ 0 < xs.length ∧ xs.length ≤ cur.size

set_option maxRecDepth 100000 in
set_option maxHeartbeats 2000000 in
theorem barredAll_in (n : Nat) (hn : 3 ≤ n) (tb m : Nat) (cs : List Nat) (w : World) (ht : IsTally w tb cs m) :
    CallsIn Fence.wide n Try.prog 11 #[.pointer (some ⟨tb, 0, none⟩)] w fun e W' => ∃ v, e = .returned v ∧ FullRow w.heap.size W' v (bl cs m) ∧ Below w.heap.size w W' := by
  have h1 : 1 ≤ n := by omega
  obtain ⟨i0, hi, hz0, hz1, hz2⟩ := info_parts infoInt
  have htl := ht.lt
  refine callsIn_of_wp_marks Try.func11 rfl trivial ?_ rfl
  simp only [Try.ntmps11, List.size_toArray, List.length_cons, List.length_nil, Nat.reduceAdd, Nat.reduceSub, Array.replicate_succ, Array.replicate_zero, List.push_toArray, List.append_toArray, List.nil_append, List.cons_append]
  gi_wp2_with (refine ⟨trivial, ?_⟩; gi_at_call 16; refine (barred_in (n - 1) _ _).mono ?_; rintro e w' ⟨rfl, rfl⟩)
  have bO := (Boxed.new w 26 (.slice none 0 0)).alloc (.cells #[.pointer (some ⟨tb, 0, none⟩)] 24)
  have bT := Boxed.new (w.alloc (.cells #[.slice none 0 0] 26)) 24 (.pointer (some ⟨tb, 0, none⟩))
  rw [World.size_alloc] at bT
  have hB0 : Below w.heap.size w ((w.alloc (.cells #[.slice none 0 0] 26)).alloc (.cells #[.pointer (some ⟨tb, 0, none⟩)] 24)) := ((Below.refl _ w).alloc (Nat.le_refl _) _).alloc (by simp) _
  obtain ⟨W0, hW0⟩ : ∃ W0, (w.alloc (.cells #[.slice none 0 0] 26)).alloc (.cells #[.pointer (some ⟨tb, 0, none⟩)] 24) = W0 := ⟨_, rfl⟩
  have hsz : W0.heap.size = w.heap.size + 2 := by rw [← hW0]; simp
  rw [hW0] at bO bT hB0 ⊢
  have HSZ := Lib.hid hsz
  have ht0 := ht.below hB0
  clear hW0 hsz
  refine wpIn_rangeFunc_ownG rfl h1 (gf := 18) (lb := #[.pointer (some ⟨w.heap.size + 1, 0, none⟩)]) rfl trivial (enters_of Try.func18 (by kernel_rfl) rfl)
    (barred_stops (n - 1) (by omega) (w.heap.size + 1) tb m cs _ (by rw [HSZ.out]; omega) bT.cell ht0) keep2_t (keep2_b (by rw [HSZ.out]; omega) (by rw [HSZ.out]; omega)) (Below.refl _ _) (fun _ => rfl)
    (fun pre W => ((∃ v, Boxed W w.heap.size 26 v ∧ W.ownsRow w.heap.size 3 1 v pre.length (pre.map encI) ∧ (v = .slice none 0 0 ↔ pre = [])) ∧ Boxed W (w.heap.size + 1) 24 (.pointer (some ⟨tb, 0, none⟩))) ∧ Below w.heap.size w W)
    (fun _ _ _ => False)
    (OwnFrom.and (OwnFrom.and (Own.from (holdsRow_own w.heap.size w.heap.size 26 3 1 (fun pre : List Nat => pre.length) (fun pre => pre.map encI) (fun pre v => v = .slice none 0 0 ↔ pre = [])) _) (Own.from (fun s A B row hs hg hr => box_keep hs hg hr) _)) (ownFrom_below (Nat.le_refl _) (by rw [HSZ.out]; omega)))
    (fun c => fun s A B row hs => hs.elim)
    ⟨⟨⟨_, bO, World.ownsRow_nil _ _ _ _, by simp⟩, bT⟩, hB0⟩
    (fun x => { tmps := #[.pointer (some ⟨tb, 0, none⟩), undef, .pointer (some ⟨w.heap.size, 0, none⟩), .int .i64 (x : Int), .pointer (some ⟨tb, 0, none⟩), .func (.func 18) #[] #[.pointer (some ⟨w.heap.size + 1, 0, none⟩)], .int .i64 (x : Int), undef, undef, undef, undef, undef, undef], defers := [] }) ?assign ?body ?done ?stop
  case assign =>
    intro l x W K hK
    gi_wp2
    exact hK
  case body =>
    rintro l pre x W ⟨⟨⟨v, hv, hrow, hnil⟩, hbt⟩, hB⟩ hlen
    have hvc := hv.cell
    have hN1 := hB.size
    gi_wp2_with (gi_at_builtin; refine wpListIn_append_own _ rfl _ _ 26 rfl w.heap.size 3 i0 (.int .i64 0) 1 8 Try.underlying26 hi hz0 hz1 hz2 rfl (by decide) _ _ _ rfl (hrow.alloc _) ⟨W.heap.size, 0, none⟩ 1 1 [encI x] rfl rfl (cell_one_new _ _ _) (by simp [encI, Value.oneCell']) (by unfold maxLen; omega) (by omega) (by simp; omega) ?_; intro v' w1 hown' hgrow _; obtain ⟨g', cap', rfl⟩ := ownsRow_succ hown'; obtain ⟨hv1, hv2, hr2, hk2, hb2⟩ := hv.appended (by decide) hrow hB.size (Nat.le_refl _) hown' hgrow; have hc1 := hv1.cell; have hf1 := hv1.frozen; have hbt1 := (hbt.alloc _).kept hgrow (hbt.not_row (by decide) hrow))
    have hbt2 := hbt1.other (B' := w.heap.size) (by omega) (.slice (some ⟨g', 0, none⟩) (pre.length + 1) cap')
    exact ⟨hk2.from _, ⟨hb2.block tb htl, hbt2.trans hbt.symm⟩, ⟨⟨_, hv2, by simpa using hr2, by simp⟩, hbt2⟩, hB.trans hb2⟩
  case done =>
    rintro D ys W hD rfl ⟨⟨⟨v, hv, hrow, hnil⟩, hbt⟩, hB⟩ hK
    have hvc := hv.cell
    have hvf := hv.frozen
    have hnr := hv.not_row (by decide) hrow
    obtain ⟨xs, hxs⟩ : ∃ xs, bl cs m = xs := ⟨_, rfl⟩
    have hxl : xs.length ≤ 8 := by rw [← hxs]; have := bl_length cs m; have := ht.most; omega
    rw [hxs] at hrow hnil
    have HXS := Lib.hid hxs
    clear hxs
    rcases hrow.2 with ⟨rfl, hk0⟩ | ⟨g, cap, cur, rfl, hNg, hgb, hkc, hcm, hcs, hct⟩
    · obtain rfl : xs = [] := hnil.1 rfl
      gi_wp2_with (refine ⟨trivial, ?_⟩; gi_at_call 17; refine (callsIn_wide.2 (clip_nil _)).mono ?_; rintro e w1 ⟨rfl, rfl⟩)
      have hK1 := (KeepsOthers.setCell W ⟨w.heap.size, 0, none⟩ (.slice none 0 0)).same D _ hK rfl
      have c0 := box_keep (hv.set (.slice none 0 0)) (grownBy_putObj' _ D (.deferred none)) (fun r e => by cases e; exact ⟨_, hK1, rfl⟩)
      have d0 := c0.cell
      refine ⟨by simp, .inl ⟨_, _, rfl, run_takeDeferred hK1, ?_⟩⟩
      refine ⟨.slice none 0 0, ?_, _, rfl, .inl ⟨rfl, HXS.out⟩, (hB.setCell (p := ⟨w.heap.size, 0, none⟩) (Nat.le_refl _) _).trans (belowK_b (w := w) (Nat.le_refl _) _ D _ _ (by have := HSZ.out; omega) hK1 rfl rfl)⟩
      simp [results, Try.f11, go_sem, d0]
    · have hne : xs ≠ [] := fun e => by have := hnil.2 e; cases this
      have hpos : 0 < xs.length := List.length_pos_iff.2 hne
      have hgN : g ≠ w.heap.size := fun e => hnr (by rw [e]; rfl)
      gi_wp2_with (refine ⟨trivial, ?_⟩; gi_at_call 17; refine (callsIn_wide.2 (clip_some g _ cap hkc (by unfold maxLen at hcm; omega) _)).mono ?_; rintro e w1 ⟨rfl, rfl⟩)
      have hK1 := (KeepsOthers.setCell W ⟨w.heap.size, 0, none⟩ (.slice (some ⟨g, 0, none⟩) xs.length xs.length)).same D _ hK rfl
      have c0 := box_keep (hv.set (.slice (some ⟨g, 0, none⟩) xs.length xs.length)) (grownBy_putObj' _ D (.deferred none)) (fun r e => by cases e; exact ⟨_, hK1, rfl⟩)
      have d0 := c0.cell
      have hg1 : (W.setCell ⟨w.heap.size, 0, none⟩ (.slice (some ⟨g, 0, none⟩) xs.length xs.length)).heap[g]? = some (.cells cur 3 (0, 0)) := (heap_setCell_other W _ g _ hgN).trans hgb
      have hgD : g ≠ D := fun e => by have h := hgb; rw [e, hK] at h; cases h
      have hfr : FullRow w.heap.size ((W.setCell ⟨w.heap.size, 0, none⟩ (.slice (some ⟨g, 0, none⟩) xs.length xs.length)).putObj D (.deferred none)) (.slice (some ⟨g, 0, none⟩) xs.length xs.length) (bl cs m) := by
        rw [HXS.out]
        refine .inr ⟨g, cur, rfl, hNg, ?_, ?_, hpos, by omega⟩
        · rw [← hg1]
          simp [World.putObj, Ne.symm hgD]
        · rw [Nat.mul_one] at hct
          exact hct
      refine ⟨by simp, .inl ⟨_, _, rfl, run_takeDeferred hK1, ?_⟩⟩
      refine ⟨.slice (some ⟨g, 0, none⟩) xs.length xs.length, ?_, _, rfl, hfr, (hB.setCell (p := ⟨w.heap.size, 0, none⟩) (Nat.le_refl _) _).trans (belowK_b (w := w) (Nat.le_refl _) _ D _ _ (by have := HSZ.out; omega) hK1 rfl rfl)⟩
      simp [results, Try.f11, go_sem, d0]
  case stop =>
    rintro D c pre W hD _ hF hK
    exact hF.elim

theorem barredAll_any (tb m : Nat) (cs : List Nat) (w : World) (ht : IsTally w tb cs m) :
    Calls Try.prog 11 #[.pointer (some ⟨tb, 0, none⟩)] w fun e W' => ∃ v, e = .returned v ∧ FullRow w.heap.size W' v (bl cs m) ∧ Below w.heap.size w W' :=
  callsIn_wide.1 (barredAll_in 3 (by omega) tb m cs w ht)
end Go.Proofs.Ytohnagmkbjdlmaa
