/- HandleBinds, of all rows of commitments: the walk. Condition: they lie in a slice. -/
import Derived.Test.YtaocdknpalohbaaHBindL
import Derived.Deep.LoopGhost
import Derived.Deep.CutRange
import Derived.Outline
namespace Go.Proofs.Ytaocdknpalohbaa
open Go.RowKit Go.BigFrame
set_option maxRecDepth 100000

/-- Commitments as they lie in memory. -/
def SealsAt (w : World) (b off : Nat) (ls : List Sl) : Prop := ∀ q x, ls[q]? = some x →
  w.cell? ⟨b, off + q * 4, none⟩ = some (.int .i64 x.r) ∧ w.cell? ⟨b, off + q * 4 + 1, none⟩ = some (.int .i64 x.c) ∧ w.cell? ⟨b, off + q * 4 + 2, none⟩ = some (.int .u64 x.b) ∧ w.cell? ⟨b, off + q * 4 + 3, none⟩ = some (.int .u64 x.n)
theorem own_keep {w w' : World} {base : Nat} {e : TypeId} {size : Nat} {v : Value} {n : Nat} {xs : List Value} (h : w.ownsRow base e size v n xs) (hk : ∀ k, k < w.heap.size → base ≤ k → w'.heap[k]? = w.heap[k]?) : w'.ownsRow base e size v n xs := by
  refine ⟨h.1, ?_⟩
  rcases h.2 with hn | ⟨g, cap, cur, hv, hb, hg, rest⟩
  · exact .inl hn
  · exact .inr ⟨g, cap, cur, hv, hb, (hk g (lt_of_heap hg) hb).trans hg, rest⟩
/-- What stays while it is asked about. -/
def BI (N : Nat) (w0 : World) (B m : Nat) (u : Value) (ta ma : Nat) (x : Sl) (L : List Sl) (w : World) : Prop :=
  w.ownsRow B 35 32 u m (digs m) ∧ w.heap[N]? = some (.cells x.cells 31 (0, 0)) ∧ IsTable w ta ma L ∧ Below N w0 w
theorem BI.below {N : Nat} {w0 : World} {B m : Nat} {u : Value} {ta ma : Nat} {x : Sl} {L : List Sl} {w w' : World} (h : BI N w0 B m u ta ma x L w) (hN : N ≤ ma) (hb : Below w.heap.size w w') : BI N w0 B m u ta ma x L w' := by
  obtain ⟨h1, h2, h3, h4⟩ := h
  exact ⟨own_keep h1 (fun k hk _ => hb.block k hk), below_at hb h2 (lt_of_heap h2), h3.below (_B := 0) hb, h4.trans (hb.mono (Nat.le_trans hN (Nat.le_of_lt (lt_of_heap h3.map))))⟩
theorem same_self (x : Sl) : x.same x = true := by simp [Sl.same]
theorem same_comm (x y : Sl) : x.same y = y.same x := by
  unfold Sl.same
  by_cases h : x = y
  · simp [h]
  · simp [h, Ne.symm h]
def BCls (N : Nat) (w0 : World) (g : Nat) (cur : Array Value) (ta ma : Nat) (x : Sl) (L : List Sl) (w : World) : Prop :=
  w.heap[N]? = some (.cells x.cells 31 (0, 0)) ∧ w.heap[g]? = some (.cells cur 35 (0, 0)) ∧ IsTable w ta ma L ∧ Below N w0 w
theorem BCls.below {N : Nat} {w0 : World} {g : Nat} {cur : Array Value} {ta ma : Nat} {x : Sl} {L : List Sl} {w w' : World} (h : BCls N w0 g cur ta ma x L w) (hN : N ≤ ma) (hb : Below w.heap.size w w') : BCls N w0 g cur ta ma x L w' := by
  obtain ⟨h1, h2, h3, h4⟩ := h
  exact ⟨below_at hb h1 (lt_of_heap h1), below_at hb h2 (lt_of_heap h2), h3.below (_B := 0) hb, h4.trans (hb.mono (Nat.le_trans hN (Nat.le_of_lt (lt_of_heap h3.map))))⟩
theorem own_row {w : World} {g : Nat} {cur : Array Value} {m : Nat} (j : Nat) (hg : w.heap[g]? = some (.cells cur 35 (0, 0))) (htk : cur.toList.take (m * 32) = digs m) (hj : j < m) : rowAt w g (j * 32) 32 = some (dg (hd (j + 1))) := by
  refine rowAt_of (cs := (dg (hd (j + 1))).toList) (by rw [Array.length_toList, dg_size, hd_length]) fun i v hv => ?_
  have hi : i < 32 := by
    have := (List.getElem?_eq_some_iff.1 hv).1
    rwa [Array.length_toList, dg_size, hd_length] at this
  refine cell_of hg ?_
  rw [← digs_at m j i hj hi, ← htk, List.getElem?_take_of_lt (by omega)] at hv
  simpa using hv
theorem BCls.drew {N : Nat} {w0 : World} {g : Nat} {cur : Array Value} {ta ma : Nat} {x : Sl} {L : List Sl} {w : World} (h : BCls N w0 g cur ta ma x L w) : BCls N w0 g cur ta ma x L w.drew := ⟨h.1, h.2.1, h.2.2.1.drew, h.2.2.2.drew⟩
theorem digP (q : Nat) (h : q ≤ 40) (w : World) : Calls Try.prog 16 #[.int .u64 ((q : Int) + 1)] w fun e w' => e = .returned (.agg (dg (hd (q + 1)))) ∧ Below w.heap.size w w' := by
  have e : ((q : Int) + 1).toNat = q + 1 := by omega
  have := digest_any ((q : Int) + 1) w (by omega) (by omega)
  rwa [e] at this
theorem dig0 (w : World) : Calls Try.prog 16 #[.int .u64 0] w fun e w' => e = .returned (.agg (dg (hd 0))) ∧ Below w.heap.size w w' := digest_any 0 w (by decide) (by decide)
attribute [local go_sem ↓] exec_loadM exec_eqlD exec_neqD exec_eqlS
attribute [local go_sem] loadRowM eqRow digEq_dg isDig_dg

set_option maxHeartbeats 8000000 in
theorem binds_any (aa : Option Addr) (cap : Nat) (ls : List Sl) (x : Sl) (w : World) (hl : ls.length ≤ 9223372036854775807) (hcap : ls.length ≤ cap) (hat : 0 < ls.length → ∃ b off, aa = some ⟨b, off, none⟩ ∧ b < w.heap.size ∧ SealsAt w b off ls) :
    Calls Try.prog 6 #[.slice aa ls.length cap, .agg x.cells] w fun e w' => e = .returned (.bool true) ∧ Below w.heap.size w w' := by
  have HAT := hide hat
  clear hat
  obtain ⟨m, hm⟩ : ∃ m, m = min ls.length 40 := ⟨_, rfl⟩
  have hm40 : m ≤ 40 := by omega
  have hml : m ≤ ls.length := by omega
  have hmc : m ≤ cap := by omega
  have hmin : min (ls.length : Int) 40 = (m : Int) := by omega
  go_enter Try.func6, Try.ntmps6
  go_wp2_with fail
  refine (works_any _).mono ?_
  rintro e w1 ⟨rfl, hb1⟩
  go_upto_region 4 with (fail)
  have he : (if (40 : Int) < ↑ls.length then (40 : Int) else ↑ls.length) = (m : Int) := by split <;> omega
  simp only [he, Int.toNat_natCast]
  clear he hmin
  have hbx := below_at hb1 (new_at w (.cells x.cells 31)) (by rw [World.size_alloc]; omega)
  have hB1 : Below w.heap.size w w1 := ((Below.refl w.heap.size w).alloc (Nat.le_refl _) (.cells x.cells 31)).trans (hb1.mono (by rw [World.size_alloc]; omega))
  clear hb1
  obtain ⟨L, hL⟩ : ∃ L, L = ls.take m := ⟨_, rfl⟩
  have hLm : L.length = m := by rw [hL, List.length_take]; omega
  have HAL : Hid (0 < m → ∃ b off, aa = some ⟨b, off, none⟩ ∧ b < w.heap.size ∧ SealsAt w b off L) := hide fun h => by
    obtain ⟨b, off, h1, h2, h3⟩ := HAT.out (by omega)
    refine ⟨b, off, h1, h2, fun q y hq => h3 q y ?_⟩
    rw [hL, List.getElem?_take] at hq
    split at hq
    · exact hq
    · cases hq
  clear HAT hL hm hml hl hcap
  go_wp2_with fail
  refine (new_any _).mono ?_
  rintro e w2 ⟨rfl, ht2, hb2⟩
  have hbx2 := below_at hb2 hbx (lt_of_heap hbx)
  have hB2 := hB1.trans (hb2.mono (Nat.le_of_lt (lt_of_heap hbx)))
  have hl1 := lt_of_heap hbx
  have hl2 : w1.heap.size + 1 < w2.heap.size := lt_of_heap ht2.tab
  clear hb2 hbx hB1
  obtain ⟨N, hN⟩ : ∃ N, N = w.heap.size := ⟨_, rfl⟩
  obtain ⟨ma, hma⟩ : ∃ ma, ma = w1.heap.size := ⟨_, rfl⟩
  obtain ⟨B, hB⟩ : ∃ B, B = w2.heap.size := ⟨_, rfl⟩
  rw [← hma] at ht2 hl1 hl2 ⊢
  rw [← hN] at hbx2 hB2 hl1 ⊢
  rw [← hB] at hl2
  have HN := hide hN
  have hBle : B ≤ w2.heap.size := by omega
  clear hN hma hB
  obtain ⟨ta, hta⟩ : ∃ ta, ta = ma + 1 := ⟨_, rfl⟩
  rw [← hta] at ht2 hl2 ⊢
  have hmt : ma < ta := by omega
  clear hta
  go_wp2
  go_loopg [6, 7] 40 (fun g u i wi => ∃ q : Nat, q ≤ m ∧ g = 40 - q ∧ i = .int .i64 q ∧ wi.ownsRow B 35 32 u q (digs q) ∧ wi.heap[N]? = some (.cells x.cells 31 (0, 0)) ∧ IsTable wi ta ma (L.take q) ∧ Below N w wi ∧ B ≤ wi.heap.size)
  case atStart => exact ⟨0, Nat.zero_le _, rfl, rfl, World.ownsRow_nil _ _ _ _, hbx2, ht2, hB2, hBle⟩
  case round =>
    obtain ⟨q, hq, rfl, rfl, hown, hbx, ht, hW, hBr⟩ := hrel
    clear hbx2 ht2 hB2 hBle
    by_cases hlt : q < m
    · obtain ⟨b, off, rfl, hb, hat⟩ := HAL.out (by omega)
      rw [← HN.out] at hb
      obtain ⟨y, hy⟩ : ∃ y, L[q]? = some y := ⟨_, List.getElem?_eq_getElem (by omega)⟩
      have hq0 : (0 : Int) ≤ (q : Int) := by omega
      have hqm : (q : Int) < (m : Int) := by omega
      obtain ⟨d0, d1, d2, d3⟩ := hat q y hy
      have c0 := (hW.cell (p := ⟨b, off + q * 4, none⟩) hb).trans d0
      have c1 := (hW.cell (p := ⟨b, off + q * 4 + 1, none⟩) hb).trans d1
      have c2 := (hW.cell (p := ⟨b, off + q * 4 + 2, none⟩) hb).trans d2
      have c3 := (hW.cell (p := ⟨b, off + q * 4 + 3, none⟩) hb).trans d3
      clear hat d0 d1 d2 d3
      have hlq : (L.take q).length = q := by rw [List.length_take]; omega
      have HNA := hide (show L.take (q + 1) = L.take q ++ [y] by rw [List.take_add_one, hy]; rfl)
      have hlN := lt_of_heap hbx
      have hlma := lt_of_heap ht.map
      generalize L.take q = Lq at ht hlq HNA
      go_wp2_with fail
      refine (commit_any y wr _ _ Lq ht (by omega)).mono ?_
      rintro e w2 ⟨rfl, ht2, hg2⟩
      have hown2 := own_keep hown (fun k hk hB => hg2.block k hk (by simp; omega))
      have hbx2 := (hg2.block _ (lt_of_heap hbx) (by simp; omega)).trans hbx
      have hW2 := below_grown hW hg2 (by omega) (by intro k e; cases e; omega)
      have hBr2 := Nat.le_trans hBr hg2.size
      rw [hlq]
      clear hown hbx hW hg2 ht c0 c1 c2 c3 hlN hlma
      obtain ⟨i, z, hi, hz, hs, hby, hzs⟩ := digFacts
      go_wp2_with ((with_reducible show wpList _ _ _ (⟨some 33, Op.buildSlice _ _ _, _, _, _, _⟩ :: _) _ _); refine Hid.out ?_)
      refine hide ?_
      refine law_one rfl _ rfl (hd (q + 1)) rfl (hd_length _) ?_
      refine wpList_append_own _ rfl (.tmp 26) (.tmp 33) 49 rfl B 35 i z 32 32 Try.underlying49 hi hz hs hby hzs (by decide) u6 q (digs q) rfl (hown2.alloc _) ⟨w2.heap.size, 0, none⟩ 1 1 (dg (hd (q + 1))).toList rfl ?c1 ?c2 ?c3 ?c4 ?c5 ?c6 ?_
      case c1 => rw [Array.length_toList, dg_size, hd_length]
      case c2 => intro j u hj; rw [Addr.add_mid, Nat.zero_add]; exact cell_of (new_at w2 _) (by simpa using hj)
      case c3 => intro u hu; have h := dg_one (hd (q + 1)); rw [← Array.all_toList, List.all_eq_true] at h; exact h u hu
      case c4 => unfold maxLen; omega
      case c5 => omega
      case c6 => rw [World.size_alloc]; omega
      intro v5 w5 hown5 hg5 _
      have hz := World.size_alloc w2 (.cells (dg (hd (q + 1))) 35)
      have hba : Below w2.heap.size w2 (w2.alloc (.cells (dg (hd (q + 1))) 35)) := (Below.refl _ _).alloc (Nat.le_refl _) _
      have hol : ∀ k, k < B → some k ≠ u6.ownBlock := fun k hk e => by have := (hown2.lt k e.symm).1; omega
      have hbx5 := (hg5.block N (by omega) (hol N (by omega))).trans (below_at hba hbx2 (lt_of_heap hbx2))
      have htab := (hg5.block ta (by have := lt_of_heap ht2.tab; omega) (hol ta (by omega))).trans (below_at hba ht2.tab (lt_of_heap ht2.tab))
      have hmap := (hg5.block ma (by have := lt_of_heap ht2.map; omega) (hol ma (by omega))).trans (below_at hba ht2.map (lt_of_heap ht2.map))
      have ht5 : IsTable w5 ta ma (Lq ++ [y]) := ⟨htab, hmap⟩
      have hW5 := below_grown (hW2.trans (hba.mono (by omega))) hg5 (by omega) (by intro k e; have := (hown2.lt k e).1; omega)
      have hBr5 : B ≤ w5.heap.size := by have := hg5.size; omega
      clear hown2 hbx2 ht2 hW2 hBr2 hz hba hol htab hmap hg5
      go_wp2
      go_roundg (40 - (q + 1))
      case measure => omega
      case rel => exact ⟨q + 1, by omega, rfl, by simp, hown5, hbx5, HNA.out ▸ ht5, hW5, hBr5⟩
    · -- PART2
      obtain rfl : q = m := by omega
      have hLq : L.take q = L := List.take_of_length_le (by omega)
      rw [hLq] at ht
      clear hlt hLq hBr
      have hNm : N ≤ ma := by omega
      go_wp2
      go_loopg [8] 40 (fun gh i wi => ∃ k : Nat, k ≤ q ∧ gh = 40 - k ∧ i = .int .i64 k ∧ BI N w B q u6 ta ma x L wi)
      case atStart => exact ⟨0, Nat.zero_le _, rfl, rfl, hown, hbx, ht, hW⟩
      case round =>
        obtain ⟨i, hi, rfl, rfl, hBI⟩ := hrel
        clear hown hbx ht hW
        by_cases hlt : i < q
        · obtain ⟨b, off, rfl, hb, hat⟩ := HAL.out (by omega)
          rw [← HN.out] at hb
          obtain ⟨y, hy⟩ : ∃ y, L[i]? = some y := ⟨_, List.getElem?_eq_getElem (by omega)⟩
          have HY := hide (hat i y hy)
          have HAT := hide hat
          clear hat
          obtain ⟨hown, hbx, ht, hW⟩ := hBI
          rcases hown.2 with hn | ⟨g, cp, cur, rfl, hbg, hg, hnc, hcm, hsz, htk⟩
          · exact absurd hn.2 (by omega)
          have hi0 : (0 : Int) ≤ (i : Int) := by omega
          have hiq : (i : Int) < (q : Int) := by omega
          have hr := own_row i hg htk hlt
          go_wp2_with fail
          refine (ohandle_any (hd (i + 1)) (hd_length _) _).mono ?_
          rintro e w5 ⟨rfl, hb5⟩
          rw [hand_hd i (by omega)]
          have hc : BCls N w g cur ta ma x L w5 := BCls.below ⟨hbx, hg, ht, hW⟩ hNm hb5
          clear hr hb5 hown hbx hg ht hW
          go_upto_region 14 with (fail)
          refine region_quiet_list (C := BCls N w g cur ta ma x L) (by kernel_rfl) (by kernel_rfl) hc.drew ?_
          clear hc
          iterate 1 (go_big_quiet_want; go_big_quiet_op; first | go_big_quiet_on | (refine ⟨_, fun _ _ => rfl, ?_⟩; go_big_quiet_on))
          iterate 1 (go_big_quiet_want; go_big_quiet_op; first | go_big_quiet_on | (refine ⟨_, fun _ _ => rfl, ?_⟩; go_big_quiet_on))
          iterate 1 (go_big_quiet_want; go_big_quiet_op; first | go_big_quiet_on | (refine ⟨_, fun _ _ => rfl, ?_⟩; go_big_quiet_on))
          iterate 6 (go_big_quiet_want; go_big_quiet_op; first | go_big_quiet_on | (refine ⟨_, fun _ _ => rfl, ?_⟩; go_big_quiet_on))
          iterate 1 (go_big_quiet_want; go_big_quiet_op; first | go_big_quiet_on | (refine ⟨_, fun _ _ => rfl, ?_⟩; go_big_quiet_on))
          iterate 3 (go_big_quiet_want; go_big_quiet_op; first | go_big_quiet_on | (refine ⟨_, fun _ _ => rfl, ?_⟩; go_big_quiet_on))
          go_big_quiet_want; go_big_quiet_op; refine ⟨.pointer (some ⟨g, i * 32, none⟩), fun wq hq => ?_, ?_⟩
          · simp [go_sem]
          go_big_quiet_on
          go_big_quiet_want; go_big_quiet_op; refine ⟨.agg (dg (hd (i + 1))), fun wq hq => ?_, ?_⟩
          · have q1 := own_row i hq.2.1 htk (by omega)
            simp [q1]
          go_big_quiet_on
          iterate 2 (go_big_quiet_want; go_big_quiet_op; first | go_big_quiet_on | (refine ⟨_, fun _ _ => rfl, ?_⟩; go_big_quiet_on))
          go_big_quiet_want; go_big_quiet_op; refine ⟨.pointer (some ⟨b, off + i * 4, none⟩), fun wq hq => ?_, ?_⟩
          · simp [go_sem]
          go_big_quiet_on
          go_big_quiet_want; go_big_quiet_op; refine ⟨.agg y.cells, fun wq hq => ?_, ?_⟩
          · obtain ⟨d0, d1, d2, d3⟩ := HY.out
            have c0 := (hq.2.2.2.cell (p := ⟨b, off + i * 4, none⟩) hb).trans d0
            have c1 := (hq.2.2.2.cell (p := ⟨b, off + i * 4 + 1, none⟩) hb).trans d1
            have c2 := (hq.2.2.2.cell (p := ⟨b, off + i * 4 + 2, none⟩) hb).trans d2
            have c3 := (hq.2.2.2.cell (p := ⟨b, off + i * 4 + 3, none⟩) hb).trans d3
            simp [c0, c1, c2, c3, Result.andThen]; rfl
          go_big_quiet_on
          go_big_quiet_want; go_big_quiet_op; refine ⟨.bool true, fun wq hq => (opens_any (hd (i + 1)) (hd_length _) y wq _ _ _ hq.2.2.1).mono fun e w' ⟨he, hb⟩ => ⟨by rw [he, opens_at L i y y (by omega) hy, same_self], hq.below hNm hb⟩, ?_⟩
          go_big_quiet_on
          iterate 3 (go_big_quiet_want; go_big_quiet_op; first | go_big_quiet_on | (refine ⟨_, fun _ _ => rfl, ?_⟩; go_big_quiet_on))
          iterate 3 (go_big_quiet_want; go_big_quiet_op; first | go_big_quiet_on | (refine ⟨_, fun _ _ => rfl, ?_⟩; go_big_quiet_on))
          go_big_quiet_want; go_big_quiet_op; refine ⟨.pointer (some ⟨g, i * 32, none⟩), fun wq hq => ?_, ?_⟩
          · simp [go_sem]
          go_big_quiet_on
          go_big_quiet_want; go_big_quiet_op; refine ⟨.agg (dg (hd (i + 1))), fun wq hq => ?_, ?_⟩
          · have q1 := own_row i hq.2.1 htk (by omega)
            simp [q1]
          go_big_quiet_on
          go_big_quiet_want; go_big_quiet_op; refine ⟨.agg x.cells, fun wq hq => ?_, ?_⟩
          · have q0 := cell_of (i := 0) hq.1 rfl; have q1 := cell_of (i := 1) hq.1 rfl; have q2 := cell_of (i := 2) hq.1 rfl; have q3 := cell_of (i := 3) hq.1 rfl
            simp [q0, q1, q2, q3, Result.andThen]; rfl
          go_big_quiet_on
          go_big_quiet_want; go_big_quiet_op; refine ⟨.bool (y.same x), fun wq hq => (opens_any (hd (i + 1)) (hd_length _) x wq _ _ _ hq.2.2.1).mono fun e w' ⟨he, hb⟩ => ⟨by rw [he, opens_at L i x y (by omega) hy], hq.below hNm hb⟩, ?_⟩
          go_big_quiet_on
          go_big_quiet_want; go_big_quiet_op; refine ⟨.agg x.cells, fun wq hq => ?_, ?_⟩
          · have q0 := cell_of (i := 0) hq.1 rfl; have q1 := cell_of (i := 1) hq.1 rfl; have q2 := cell_of (i := 2) hq.1 rfl; have q3 := cell_of (i := 3) hq.1 rfl
            simp [q0, q1, q2, q3, Result.andThen]; rfl
          go_big_quiet_on
          iterate 2 (go_big_quiet_want; go_big_quiet_op; first | go_big_quiet_on | (refine ⟨_, fun _ _ => rfl, ?_⟩; go_big_quiet_on))
          go_big_quiet_want; go_big_quiet_op; refine ⟨.pointer (some ⟨b, off + i * 4, none⟩), fun wq hq => ?_, ?_⟩
          · simp [go_sem]
          go_big_quiet_on
          go_big_quiet_want; go_big_quiet_op; refine ⟨.agg y.cells, fun wq hq => ?_, ?_⟩
          · obtain ⟨d0, d1, d2, d3⟩ := HY.out
            have c0 := (hq.2.2.2.cell (p := ⟨b, off + i * 4, none⟩) hb).trans d0
            have c1 := (hq.2.2.2.cell (p := ⟨b, off + i * 4 + 1, none⟩) hb).trans d1
            have c2 := (hq.2.2.2.cell (p := ⟨b, off + i * 4 + 2, none⟩) hb).trans d2
            have c3 := (hq.2.2.2.cell (p := ⟨b, off + i * 4 + 3, none⟩) hb).trans d3
            simp [c0, c1, c2, c3, Result.andThen]; rfl
          go_big_quiet_on
          go_big_quiet_want; go_big_quiet_op; refine ⟨.bool (y.same x), fun wq hq => ?_, ?_⟩
          · simp [eqRowS, isSl_cells, digEq_cells, same_comm x y]
          go_big_quiet_on
          go_big_quiet_want; go_big_quiet_op; refine ⟨.bool false, fun wq hq => ?_, ?_⟩
          · simp
          go_big_quiet_on
          iterate 1 (go_big_quiet_want; go_big_quiet_op; first | go_big_quiet_on | (refine ⟨_, fun _ _ => rfl, ?_⟩; go_big_quiet_on))
          refine wpQuiet_nil ?_
          intro w6 hc
          go_wp2
          go_loopg [11] 40 (fun gh k wi => ∃ j : Nat, j ≤ i ∧ gh = 40 - j ∧ k = .int .i64 j ∧ BCls N w g cur ta ma x L wi)
          case atStart => exact ⟨0, Nat.zero_le _, rfl, rfl, hc⟩
          case round =>
            obtain ⟨k, hk, rfl, rfl, hcr⟩ := hrel
            clear hc
            by_cases hki : k < i
            · obtain ⟨z, hz⟩ : ∃ z, L[k]? = some z := ⟨_, List.getElem?_eq_getElem (by omega)⟩
              have HZ := hide (HAT.out k z hz)
              have hk0 : (0 : Int) ≤ (k : Int) := by omega
              have hkiI : (k : Int) < (i : Int) := by omega
              have hkq : (k : Int) < (q : Int) := by omega
              have hkq' : k < q := by omega
              go_upto_region 19 with (fail)
              refine region_quiet_list (C := BCls N w g cur ta ma x L) (by kernel_rfl) (by kernel_rfl) hcr.drew ?_
              clear hcr
              iterate 2 (go_big_quiet_want; go_big_quiet_op; first | go_big_quiet_on | (refine ⟨_, fun _ _ => rfl, ?_⟩; go_big_quiet_on))
              go_big_quiet_want; go_big_quiet_op; refine ⟨.pointer (some ⟨g, k * 32, none⟩), fun wq hq => ?_, ?_⟩
              · simp [go_sem]
              go_big_quiet_on
              go_big_quiet_want; go_big_quiet_op; refine ⟨.agg (dg (hd (k + 1))), fun wq hq => ?_, ?_⟩
              · have q1 := own_row k hq.2.1 htk (by omega)
                simp [q1]
              go_big_quiet_on
              iterate 2 (go_big_quiet_want; go_big_quiet_op; first | go_big_quiet_on | (refine ⟨_, fun _ _ => rfl, ?_⟩; go_big_quiet_on))
              go_big_quiet_want; go_big_quiet_op; refine ⟨.pointer (some ⟨g, i * 32, none⟩), fun wq hq => ?_, ?_⟩
              · simp [go_sem]
              go_big_quiet_on
              go_big_quiet_want; go_big_quiet_op; refine ⟨.agg (dg (hd (i + 1))), fun wq hq => ?_, ?_⟩
              · have q1 := own_row i hq.2.1 htk (by omega)
                simp [q1]
              go_big_quiet_on
              go_big_quiet_want; go_big_quiet_op; refine ⟨.bool false, fun wq hq => ?_, ?_⟩
              · simp [isDig_dg, hd_length, hd_ne hki (by omega)]
              go_big_quiet_on
              iterate 1 (go_big_quiet_want; go_big_quiet_op; first | go_big_quiet_on | (refine ⟨_, fun _ _ => rfl, ?_⟩; go_big_quiet_on))
              iterate 3 (go_big_quiet_want; go_big_quiet_op; first | go_big_quiet_on | (refine ⟨_, fun _ _ => rfl, ?_⟩; go_big_quiet_on))
              go_big_quiet_want; go_big_quiet_op; refine ⟨.pointer (some ⟨g, k * 32, none⟩), fun wq hq => ?_, ?_⟩
              · simp [go_sem]
              go_big_quiet_on
              go_big_quiet_want; go_big_quiet_op; refine ⟨.agg (dg (hd (k + 1))), fun wq hq => ?_, ?_⟩
              · have q1 := own_row k hq.2.1 htk (by omega)
                simp [q1]
              go_big_quiet_on
              iterate 2 (go_big_quiet_want; go_big_quiet_op; first | go_big_quiet_on | (refine ⟨_, fun _ _ => rfl, ?_⟩; go_big_quiet_on))
              go_big_quiet_want; go_big_quiet_op; refine ⟨.pointer (some ⟨b, off + i * 4, none⟩), fun wq hq => ?_, ?_⟩
              · simp [go_sem]
              go_big_quiet_on
              go_big_quiet_want; go_big_quiet_op; refine ⟨.agg y.cells, fun wq hq => ?_, ?_⟩
              · obtain ⟨d0, d1, d2, d3⟩ := HY.out
                have c0 := (hq.2.2.2.cell (p := ⟨b, off + i * 4, none⟩) hb).trans d0
                have c1 := (hq.2.2.2.cell (p := ⟨b, off + i * 4 + 1, none⟩) hb).trans d1
                have c2 := (hq.2.2.2.cell (p := ⟨b, off + i * 4 + 2, none⟩) hb).trans d2
                have c3 := (hq.2.2.2.cell (p := ⟨b, off + i * 4 + 3, none⟩) hb).trans d3
                simp [c0, c1, c2, c3, Result.andThen]; rfl
              go_big_quiet_on
              go_big_quiet_want; go_big_quiet_op; refine ⟨.bool (z.same y), fun wq hq => (opens_any (hd (k + 1)) (hd_length _) y wq _ _ _ hq.2.2.1).mono fun e w' ⟨he, hb⟩ => ⟨by rw [he, opens_at L k y z (by omega) hz], hq.below hNm hb⟩, ?_⟩
              go_big_quiet_on
              iterate 2 (go_big_quiet_want; go_big_quiet_op; first | go_big_quiet_on | (refine ⟨_, fun _ _ => rfl, ?_⟩; go_big_quiet_on))
              go_big_quiet_want; go_big_quiet_op; refine ⟨.pointer (some ⟨b, off + k * 4, none⟩), fun wq hq => ?_, ?_⟩
              · simp [go_sem]
              go_big_quiet_on
              go_big_quiet_want; go_big_quiet_op; refine ⟨.agg z.cells, fun wq hq => ?_, ?_⟩
              · obtain ⟨d0, d1, d2, d3⟩ := HZ.out
                have c0 := (hq.2.2.2.cell (p := ⟨b, off + k * 4, none⟩) hb).trans d0
                have c1 := (hq.2.2.2.cell (p := ⟨b, off + k * 4 + 1, none⟩) hb).trans d1
                have c2 := (hq.2.2.2.cell (p := ⟨b, off + k * 4 + 2, none⟩) hb).trans d2
                have c3 := (hq.2.2.2.cell (p := ⟨b, off + k * 4 + 3, none⟩) hb).trans d3
                simp [c0, c1, c2, c3, Result.andThen]; rfl
              go_big_quiet_on
              iterate 2 (go_big_quiet_want; go_big_quiet_op; first | go_big_quiet_on | (refine ⟨_, fun _ _ => rfl, ?_⟩; go_big_quiet_on))
              go_big_quiet_want; go_big_quiet_op; refine ⟨.pointer (some ⟨b, off + i * 4, none⟩), fun wq hq => ?_, ?_⟩
              · simp [go_sem]
              go_big_quiet_on
              go_big_quiet_want; go_big_quiet_op; refine ⟨.agg y.cells, fun wq hq => ?_, ?_⟩
              · obtain ⟨d0, d1, d2, d3⟩ := HY.out
                have c0 := (hq.2.2.2.cell (p := ⟨b, off + i * 4, none⟩) hb).trans d0
                have c1 := (hq.2.2.2.cell (p := ⟨b, off + i * 4 + 1, none⟩) hb).trans d1
                have c2 := (hq.2.2.2.cell (p := ⟨b, off + i * 4 + 2, none⟩) hb).trans d2
                have c3 := (hq.2.2.2.cell (p := ⟨b, off + i * 4 + 3, none⟩) hb).trans d3
                simp [c0, c1, c2, c3, Result.andThen]; rfl
              go_big_quiet_on
              go_big_quiet_want; go_big_quiet_op; refine ⟨.bool (z.same y), fun wq hq => ?_, ?_⟩
              · simp [eqRowS, isSl_cells, digEq_cells]
              go_big_quiet_on
              go_big_quiet_want; go_big_quiet_op; refine ⟨.bool false, fun wq hq => ?_, ?_⟩
              · simp
              go_big_quiet_on
              iterate 1 (go_big_quiet_want; go_big_quiet_op; first | go_big_quiet_on | (refine ⟨_, fun _ _ => rfl, ?_⟩; go_big_quiet_on))
              refine wpQuiet_nil ?_
              intro w7 hc
              go_wp2
              go_roundg (40 - (k + 1))
              case measure => omega
              case rel => exact ⟨k + 1, by omega, rfl, by simp, hc⟩
            · obtain rfl : k = i := by omega
              go_wp2
              go_roundg (40 - (k + 1))
              case measure => omega
              case rel => exact ⟨k + 1, by omega, rfl, by simp, ⟨digs_length q, .inr ⟨g, cp, cur, rfl, hbg, hcr.2.1, hnc, hcm, hsz, htk⟩⟩, hcr.1, hcr.2.2.1, hcr.2.2.2⟩
        · obtain rfl : i = q := by omega
          clear hlt
          go_upto_region 21 with (fail)
          refine region_quiet_list (C := BI N w B i u6 ta ma x L) (by kernel_rfl) (by kernel_rfl) ⟨own_keep hBI.1 fun _ _ _ => rfl, hBI.2.1, hBI.2.2.1.drew, hBI.2.2.2.drew⟩ ?_
          clear hBI
          iterate 1 (go_big_quiet_want; go_big_quiet_op; first | go_big_quiet_on | (refine ⟨_, fun _ _ => rfl, ?_⟩; go_big_quiet_on))
          go_big_quiet_want; go_big_quiet_op; refine ⟨.int .i64 i, fun wq hq => (len_any wq _ _ _ hq.2.2.1).mono fun e w' ⟨he, hb⟩ => ⟨by rw [he, hLm], hb ▸ hq⟩, ?_⟩
          go_big_quiet_on
          iterate 2 (go_big_quiet_want; go_big_quiet_op; first | go_big_quiet_on | (refine ⟨_, fun _ _ => rfl, ?_⟩; go_big_quiet_on))
          go_big_quiet_want; go_big_quiet_op; refine ⟨.bool true, fun wq hq => ?_, ?_⟩
          · simp
          go_big_quiet_on
          iterate 1 (go_big_quiet_want; go_big_quiet_op; first | go_big_quiet_on | (refine ⟨_, fun _ _ => rfl, ?_⟩; go_big_quiet_on))
          iterate 5 (go_big_quiet_want; go_big_quiet_op; first | go_big_quiet_on | (refine ⟨_, fun _ _ => rfl, ?_⟩; go_big_quiet_on))
          go_big_quiet_want; go_big_quiet_op; refine ⟨.agg (dg (hd (i + 1))), fun wq hq => (digP i hm40 wq).mono fun e w' ⟨he, hb⟩ => ⟨he, hq.below hNm hb⟩, ?_⟩
          go_big_quiet_on
          go_big_quiet_want; go_big_quiet_op; refine ⟨.agg x.cells, fun wq hq => ?_, ?_⟩
          · have q0 := cell_of (i := 0) hq.2.1 rfl; have q1 := cell_of (i := 1) hq.2.1 rfl; have q2 := cell_of (i := 2) hq.2.1 rfl; have q3 := cell_of (i := 3) hq.2.1 rfl
            simp [q0, q1, q2, q3, Result.andThen]; rfl
          go_big_quiet_on
          go_big_quiet_want; go_big_quiet_op; refine ⟨.bool false, fun wq hq => (opens_any (hd (i + 1)) (hd_length _) x wq _ _ _ hq.2.2.1).mono fun e w' ⟨he, hb⟩ => ⟨by rw [he, ← hLm, opens_past L x (by omega)], hq.below hNm hb⟩, ?_⟩
          go_big_quiet_on
          iterate 3 (go_big_quiet_want; go_big_quiet_op; first | go_big_quiet_on | (refine ⟨_, fun _ _ => rfl, ?_⟩; go_big_quiet_on))
          iterate 1 (go_big_quiet_want; go_big_quiet_op; first | go_big_quiet_on | (refine ⟨_, fun _ _ => rfl, ?_⟩; go_big_quiet_on))
          go_big_quiet_want; go_big_quiet_op; refine ⟨.agg (dg (hd 0)), fun wq hq => (dig0 wq).mono fun e w' ⟨he, hb⟩ => ⟨he, hq.below hNm hb⟩, ?_⟩
          go_big_quiet_on
          go_big_quiet_want; go_big_quiet_op; refine ⟨.agg x.cells, fun wq hq => ?_, ?_⟩
          · have q0 := cell_of (i := 0) hq.2.1 rfl; have q1 := cell_of (i := 1) hq.2.1 rfl; have q2 := cell_of (i := 2) hq.2.1 rfl; have q3 := cell_of (i := 3) hq.2.1 rfl
            simp [q0, q1, q2, q3, Result.andThen]; rfl
          go_big_quiet_on
          go_big_quiet_want; go_big_quiet_op; refine ⟨.bool false, fun wq hq => (opens_any (hd 0) (hd_length _) x wq _ _ _ hq.2.2.1).mono fun e w' ⟨he, hb⟩ => ⟨by rw [he, opens_zero L x (by omega)], hq.below hNm hb⟩, ?_⟩
          go_big_quiet_on
          iterate 3 (go_big_quiet_want; go_big_quiet_op; first | go_big_quiet_on | (refine ⟨_, fun _ _ => rfl, ?_⟩; go_big_quiet_on))
          refine wpQuiet_nil ?_
          intro w6 hc
          go_wp2
          go_ret
          exact ⟨rfl, HN.out ▸ hc.2.2.2⟩
end Go.Proofs.Ytaocdknpalohbaa
