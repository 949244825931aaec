/- What the document's table opens: the walk. No condition. -/
import Derived.Test.YtaocdknpalohbaaHRTab
import Derived.BigQuiet
namespace Go.Proofs.Ytaocdknpalohbaa
open Go.RowKit Go.BigFrame
set_option maxRecDepth 20000

theorem hand_small {d : List UInt8} (_h : d.length = 32) : (handF d).1 < 18446744073709551616 := by
  unfold handF
  by_cases hc : val (d.take 8) ≠ 0 ∧ hd (val (d.take 8)) = d
  · rw [if_pos hc]
    exact Nat.lt_of_lt_of_le (val_take_lt d 8) (by decide)
  · rw [if_neg hc]
    decide
/-- What stays while it is asked. -/
def ROCls (N : Nat) (w0 : World) (rb xb : Nat) (x : Sl) (v : Value) (w : World) : Prop :=
  w.heap[rb]? = some (.cells #[v] 28 (0, 0)) ∧ w.heap[xb]? = some (.cells x.cells 31 (0, 0)) ∧ Below N w0 w
attribute [local go_sem ↓] exec_loadM exec_eqlS
attribute [local go_sem] loadRowM

set_option maxHeartbeats 4000000 in
theorem ropens_any (d : List UInt8) (hd32 : d.length = 32) (x : Sl) (w : World) (rb base : Nat) (v : Value) (L : List Sl) (hL : L.length < 1000) (ht : IsRTab w rb base v L) :
    Calls Try.prog 14 #[.pointer (some ⟨rb, 0, none⟩), .agg (dg d), .agg x.cells] w fun e w' =>
      e = .returned (.bool (opensF L d x)) ∧ Below w.heap.size w w' := by
  have hdw := row_whole hd32 (alloc_at (.cells x.cells 31) (new_at w (.cells (dg d) 35)))
  go_enter Try.func14, Try.ntmps14
  go_wp2_with fail
  refine (rhandle_any d hd32 _).mono ?_
  rintro e w1 ⟨rfl, hb1⟩
  go_upto_region 2 with (fail)
  have hz := hb1.size
  rw [World.size_alloc, World.size_alloc] at hz
  have hlr := lt_of_heap ht.1
  have hrc : w1.cell? ⟨rb, 0, none⟩ = some v := cell_of (i := 0) (below_at hb1 (alloc_at _ (alloc_at _ ht.1)) (by rw [World.size_alloc, World.size_alloc]; omega)) rfl
  have hxb := below_at hb1 (heap_alloc2_new w (.cells (dg d) 35) (.cells x.cells 31)) (by rw [World.size_alloc, World.size_alloc]; omega)
  have b0 : w1.cell? ⟨w.heap.size + 1, 0, none⟩ = some (.int .i64 x.r) := cell_of (i := 0) hxb rfl
  have b1 : w1.cell? ⟨w.heap.size + 1, 1, none⟩ = some (.int .i64 x.c) := cell_of (i := 1) hxb rfl
  have b2 : w1.cell? ⟨w.heap.size + 1, 2, none⟩ = some (.int .u64 x.b) := cell_of (i := 2) hxb rfl
  have b3 : w1.cell? ⟨w.heap.size + 1, 3, none⟩ = some (.int .u64 x.n) := cell_of (i := 3) hxb rfl
  have hB : Below w.heap.size w w1 := (((Below.refl w.heap.size w).alloc (Nat.le_refl _) (.cells (dg d) 35)).alloc (by simp) (.cells x.cells 31)).trans (hb1.mono (by rw [World.size_alloc, World.size_alloc]; omega))
  obtain ⟨a, c, hv⟩ : ∃ a c, v = .slice a L.length c := by
    rcases ht.2.2 with ⟨h1, h2⟩ | ⟨g, cap, cur, h1, _⟩
    · exact ⟨none, 0, by rw [h1, h2]⟩
    · exact ⟨_, _, h1⟩
  have hown := ht.2
  have hlo : ∀ k, v.ownBlock = some k → w1.heap[k]? = w.heap[k]? := fun k e => by
    have hk := (hown.lt k e).2
    have h1 := hb1.block k (by rw [World.size_alloc, World.size_alloc]; omega)
    rw [h1]
    obtain ⟨o, ho⟩ : ∃ o, w.heap[k]? = some o := ⟨_, Array.getElem?_eq_getElem hk⟩
    rw [ho]
    exact alloc_at _ (alloc_at _ ho)
  have HW := hide hb1
  clear hb1 hdw hxb hz ht
  subst hv
  cases h2 : (handF d).2 with
  | false =>
    have ho := opens_not L x hL h2
    go_quiet (fail)
    go_wp2
    go_ret
    exact ⟨by rw [ho]; rfl, below_drewN hB _⟩
  | true =>
    obtain ⟨hd', h1⟩ := hand_true h2
    obtain ⟨j, hj⟩ : ∃ j, (handF d).1 = j + 1 := ⟨(handF d).1 - 1, by omega⟩
    have ho := opens_far L x h2
    have e1 : (((handF d).1 : Nat) : Int) = (j : Int) + 1 := by omega
    rw [e1]
    by_cases hjl : j < L.length
    · obtain ⟨y, hy⟩ : ∃ y, L[j]? = some y := ⟨_, List.getElem?_eq_getElem hjl⟩
      have hoy := opens_at L j x y hL hy
      rw [hj] at hd'
      rw [← hd'] at hoy
      rcases hown.2 with ⟨_, hn⟩ | ⟨g, cap, cur, hv, hbg, hg, hnc, hcm, hsz, htk⟩
      · exact absurd hn (by omega)
      · simp only [Value.slice.injEq] at hv
        obtain ⟨rfl, _, rfl⟩ := hv
        have hg1 := (hlo g rfl).trans hg
        have hcell : ∀ i u, i < 4 → y.cells.toList[i]? = some u → w1.cell? ⟨g, j * 4 + i, none⟩ = some u := fun i u hi hu => by
          refine cell_of hg1 ?_
          rw [← seal_at L j i y hy hi, ← htk, List.getElem?_take_of_lt (by omega)] at hu
          simpa using hu
        have c0 : w1.cell? ⟨g, j * 4, none⟩ = some (.int .i64 y.r) := hcell 0 _ (by decide) rfl
        have c1 : w1.cell? ⟨g, j * 4 + 1, none⟩ = some (.int .i64 y.c) := hcell 1 _ (by decide) rfl
        have c2 : w1.cell? ⟨g, j * 4 + 2, none⟩ = some (.int .u64 y.b) := hcell 2 _ (by decide) rfl
        have c3 : w1.cell? ⟨g, j * 4 + 3, none⟩ = some (.int .u64 y.n) := hcell 3 _ (by decide) rfl
        have hj0 : (0 : Int) ≤ (j : Int) := by omega
        have hjL : (j : Int) < (L.length : Int) := by omega
        have hjB : (j : Int) + 1 ≤ (L.length : Int) := by omega
        have hLB : (L.length : Int) < 1000 := by omega
        clear hcell hg1 hlo hown htk hsz hcm hbg hg ho e1 h1 hd'
        have HC := hide (And.intro c0 (And.intro c1 (And.intro c2 c3)))
        have HX := hide (And.intro b0 (And.intro b1 (And.intro b2 b3)))
        clear c0 c1 c2 c3 b0 b1 b2 b3
        refine region_quiet_list (C := fun w' => w' = w1.drew) (by kernel_rfl) (by kernel_rfl) rfl ?_
        iterate 4 (go_big_quiet_want; go_big_quiet_op; first | go_big_quiet_on | (refine ⟨_, fun _ _ => rfl, ?_⟩; go_big_quiet_on))
        iterate 8 (go_big_quiet_want; go_big_quiet_op; first | go_big_quiet_on | (refine ⟨_, fun wq hq => by subst hq; simp [hrc]; rfl, ?_⟩; go_big_quiet_on))
        iterate 7 (go_big_quiet_want; go_big_quiet_op; first | go_big_quiet_on | (refine ⟨_, fun wq hq => by subst hq; simp [hrc]; rfl, ?_⟩; go_big_quiet_on))
        go_big_quiet_want; go_big_quiet_op; refine ⟨.agg y.cells, ?_, ?_⟩
        · obtain ⟨c0, c1, c2, c3⟩ := HC.out
          simp [c0, c1, c2, c3, Result.andThen]; rfl
        go_big_quiet_on
        go_big_quiet_want; go_big_quiet_op; refine ⟨.agg x.cells, ?_, ?_⟩
        · obtain ⟨b0, b1, b2, b3⟩ := HX.out
          simp [b0, b1, b2, b3, Result.andThen]; rfl
        go_big_quiet_on
        go_big_quiet_want; go_big_quiet_op; refine ⟨.bool (y.same x), ?_, ?_⟩
        · simp [eqRowS, isSl_cells, digEq_cells]
        go_big_quiet_on
        iterate 2 (go_big_quiet_want; go_big_quiet_op; first | go_big_quiet_on | (refine ⟨_, fun _ _ => rfl, ?_⟩; go_big_quiet_on))
        refine wpQuiet_nil ?_
        intro w6 hc
        subst hc
        go_wp2
        go_ret
        refine ⟨?_, hB.drew⟩
        first | rfl | (rw [hoy]; rfl)
    · have hjL : ¬ (j : Int) + 1 ≤ (L.length : Int) := by omega
      by_cases hbig : (handF d).1 < 18446744073709551616
      · clear ho hd' h1 hlo hown
        have hof := opens_far L x h2 hbig (by omega)
        refine region_quiet_list (C := fun w' => w' = w1.drew) (by kernel_rfl) (by kernel_rfl) rfl ?_
        iterate 4 (go_big_quiet_want; go_big_quiet_op; first | go_big_quiet_on | (refine ⟨_, fun _ _ => rfl, ?_⟩; go_big_quiet_on))
        iterate 8 (go_big_quiet_want; go_big_quiet_op; first | go_big_quiet_on | (refine ⟨_, fun wq hq => by subst hq; simp [hrc]; rfl, ?_⟩; go_big_quiet_on))
        iterate 10 go_big_quiet_skip
        iterate 2 (go_big_quiet_want; go_big_quiet_op; first | go_big_quiet_on | (refine ⟨_, fun _ _ => rfl, ?_⟩; go_big_quiet_on))
        refine wpQuiet_nil ?_
        intro w6 hc
        subst hc
        go_wp2
        go_ret
        refine ⟨?_, hB.drew⟩
        rfl
      · exact absurd (hand_small hd32) hbig
end Go.Proofs.Ytaocdknpalohbaa
