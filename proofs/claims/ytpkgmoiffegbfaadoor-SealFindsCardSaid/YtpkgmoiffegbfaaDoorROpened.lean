/- The document's opening: the walks through Opens and Opened. No condition but that numbers are of their kinds, and what lies in the slices. -/
import Derived.Test.YtpkgmoiffegbfaaDoorRSeal
import Derived.Test.YtpkgmoiffegbfaaDoorZMarkL
namespace Go.Proofs.YtpkgmoiffegbfaaDoor
open Go.RowKit Go.BigFrame
set_option maxRecDepth 100000
attribute [local go_sem ↓] exec_loadZM exec_eqlZ exec_neqZ exec_zeroZ
attribute [local go_sem] zloadRowM eqRow digEq_dg isDig_dg objAt_drew

/-- What stays while 'Opens' is asked. -/
def RoC (n : Nat) (w0 : World) (D : List UInt8) (x : Se) (w : World) : Prop := w.heap[n]? = some (.cells (dg D) 28 (0, 0)) ∧ w.heap[n + 1]? = some (.cells x.cells.toArray 41 (0, 0)) ∧ Below n w0 w ∧ n + 1 < w.heap.size
theorem RoC.below {n : Nat} {w0 : World} {D : List UInt8} {x : Se} {w w' : World} (h : RoC n w0 D x w) (hb : Below w.heap.size w w') : RoC n w0 D x w' :=
  ⟨below_at hb h.1 (zlt h.1), below_at hb h.2.1 (zlt h.2.1), h.2.2.1.trans (hb.mono (by have := h.2.2.2; omega)), Nat.lt_of_lt_of_le h.2.2.2 hb.size⟩
theorem row_of_dg {w : World} {g : Nat} {D : List UInt8} {T : TypeId} {fr : Nat × Nat} (h : w.heap[g]? = some (.cells (dg D) T fr)) : w.rangeAt g 0 (Lib.byteCells D) := by
  intro j v hj
  rw [Nat.zero_add]
  exact zcell h (by simpa [dg] using hj)
set_option maxHeartbeats 1000000 in
theorem ropens_any (w : World) (D : List UInt8) (hD : D.length = 32) (x : Se) (ok : x.Ok) :
    Calls Tryd.prog 28 #[.agg (dg D), .agg x.cells.toArray] w fun e w' => e = .returned (.bool (decide (comS x = D))) ∧ Below w.heap.size w w' := by
  obtain ⟨n, hn⟩ : ∃ n, n = w.heap.size := ⟨_, rfl⟩
  have h0 := alloc_at (.cells x.cells.toArray 41) (new_at w (.cells (dg D) 28))
  have h1 := new_at (w.alloc (.cells (dg D) 28)) (.cells x.cells.toArray 41)
  rw [World.size_alloc] at h1
  have hB : Below n w ((w.alloc (.cells (dg D) 28)).alloc (.cells x.cells.toArray 41)) := by rw [hn]; exact ((Below.refl _ _).alloc (Nat.le_refl _) _).alloc (by simp) _
  rw [← hn] at h0 h1
  have hC : RoC n w D x ((w.alloc (.cells (dg D) 28)).alloc (.cells x.cells.toArray 41)) := ⟨h0, h1, hB, by rw [World.size_alloc, World.size_alloc, hn]; omega⟩
  have hrc := rcommit_any
  have hl := comS_length x
  obtain ⟨C, hCE⟩ : ∃ C, C = comS x := ⟨_, rfl⟩
  have HRC := hide (fun wq => hrc wq x ok)
  rw [← hCE] at HRC hl ⊢
  have HN := hide hn
  clear hn h0 h1 hB hrc hCE
  go_enter Tryd.func28, Tryd.ntmps28
  go_upto_region 1 with (fail)
  rw [← HN.out]
  refine zquiet (C := RoC n w D x) (by kernel_rfl) (by kernel_rfl) (hC.below ((Below.refl _ _).drew)) ?_
  go_big_quiet_want; go_big_quiet_op; refine ⟨.agg (dg D), fun wq hq => ?_, ?_⟩
  · have c := zrowAt_of (w := wq) (g := n) (o := 0) (n := 32) (by rw [Lib.byteCells_length, hD]) (row_of_dg hq.1)
    simp [go_sem, c]
    rfl
  go_big_quiet_on
  go_big_quiet_want; go_big_quiet_op; refine ⟨.agg x.cells.toArray, fun wq hq => ?_, ?_⟩
  · have c0 : wq.cell? ⟨n + 1, 0, none⟩ = some (.int .i64 x.r) := zcell hq.2.1 rfl
    have c1 : wq.cell? ⟨n + 1, 1, none⟩ = some (.int .i64 x.c) := zcell hq.2.1 rfl
    have c2 : wq.cell? ⟨n + 1, 2, none⟩ = some (.int .u64 x.b) := zcell hq.2.1 rfl
    have c3 : wq.cell? ⟨n + 1, 3, none⟩ = some (.int .u64 x.n) := zcell hq.2.1 rfl
    simp [go_sem, c0, c1, c2, c3, Se.cells]
  go_big_quiet_on
  go_big_quiet_want; go_big_quiet_op; refine ⟨.agg (dg C), fun wq hq => ?_, ?_⟩
  · exact (HRC.out wq).mono fun e w' ⟨he, hb⟩ => ⟨he, hq.below hb⟩
  go_big_quiet_on
  go_big_quiet_want; go_big_quiet_op; refine ⟨.bool (D == C), fun wq hq => ?_, ?_⟩
  · simp [go_sem, hl, hD]
  go_big_quiet_on
  go_big_quiet_want; go_big_quiet_op; first | go_big_quiet_on | (refine ⟨_, fun _ _ => rfl, ?_⟩; go_big_quiet_on)
  refine wpQuiet_nil ?_
  clear hC
  intro wd hqd
  go_wp2
  go_ret
  refine ⟨ret_bool (a := D == C) ?_, by rw [← HN.out]; exact hqd.2.2.1⟩
  exact Bool.eq_iff_iff.2 ⟨fun h => decide_eq_true (beq_iff_eq.1 h).symm, fun h => beq_iff_eq.2 (of_decide_eq_true h).symm⟩

/-- What stays while marks are opened. -/
def RxC (N : Nat) (w0 : World) (v : Value) (l : List Int) (w : World) : Prop := OwnI w N v l ∧ Below N w0 w ∧ N ≤ w.heap.size
theorem RxC.below {N : Nat} {w0 : World} {v : Value} {l : List Int} {w w' : World} (h : RxC N w0 v l w) (hb : Below w.heap.size w w') : RxC N w0 v l w' := ⟨h.1.below hb, h.2.1.trans (hb.mono h.2.2), Nat.le_trans h.2.2 hb.size⟩
def FoundP (N : Nat) (w : World) (l : List Int) (e : Ending) (w' : World) : Prop := ∃ v, e = .returned v ∧ OwnI w' N v l ∧ Below N w w'
set_option maxHeartbeats 4000000 in
theorem ropened_any (w : World) (ma : Option Addr) (mcap : Nat) (Ds : List (List UInt8)) (hD : ∀ D ∈ Ds, D.length = 32) (hDl : Ds.length ≤ 100) (aa : Option Addr) (cap : Nat) (ls : List Se) (hok : ∀ x ∈ ls, x.Ok) (hl : ls.length ≤ 100)
    (hmr : 0 < Ds.length → ∃ b off, ma = some ⟨b, off, none⟩ ∧ b < w.heap.size ∧ RowsAt w b off 32 Lib.byteCells Ds)
    (hat : 0 < ls.length → ∃ b off, aa = some ⟨b, off, none⟩ ∧ b < w.heap.size ∧ RowsAt w b off 4 Se.cells ls) :
    Calls Tryd.prog 29 #[.slice ma Ds.length mcap, .slice aa ls.length cap] w (FoundP w.heap.size w (foundL true Ds ls)) := by
  obtain ⟨N, hN⟩ : ∃ N, N = w.heap.size := ⟨_, rfl⟩
  have hB0 : Below N w w := by rw [hN]; exact Below.refl _ _
  have hz0 : N ≤ w.heap.size := by omega
  rw [← hN] at hmr hat ⊢
  have HN := hide hN
  have HD := hide hD
  have HOK := hide hok
  have HMR := hide hmr
  have HAT := hide hat
  obtain ⟨dl, hdl⟩ : ∃ dl, dl = Ds.length := ⟨_, rfl⟩
  obtain ⟨ll, hll⟩ : ∃ ll, ll = ls.length := ⟨_, rfl⟩
  rw [← hdl] at hDl
  rw [← hll] at hl
  rw [← hdl, ← hll]
  have HDL := hide hdl
  have HLL := hide hll
  clear hN hD hok hmr hat hdl hll
  have hdI : (dl : Int) ≤ 100 := by omega
  have hlI : (ll : Int) ≤ 100 := by omega
  go_enter Tryd.func29, Tryd.ntmps29
  go_wp2
  go_loopg [5, 6] dl (fun g v vi wi => ∃ (i : Nat), i ≤ dl ∧ g = dl - i ∧ vi = .int .i64 (i : Int) ∧ RxC N w v (foundL true (Ds.take i) ls) wi)
  case atStart => exact ⟨0, by omega, by omega, rfl, ⟨World.ownsRow_nil w N _ _, hB0, hz0⟩⟩
  case round =>
    obtain ⟨i, hi, rfl, rfl, hC⟩ := hrel
    clear hB0 hz0
    by_cases hlt : i < dl
    · have hiD : i < Ds.length := by rw [← HDL.out]; exact hlt
      obtain ⟨mb, moff, rfl, hmb, hmrow⟩ := HMR.out (by omega)
      obtain ⟨D, hDi⟩ : ∃ D, Ds[i]? = some D := ⟨_, List.getElem?_eq_getElem hiD⟩
      have hD32 := HD.out D (List.mem_of_getElem? hDi)
      have HROW : Hid (∀ W' : World, Below N w W' → W'.rangeAt mb (moff + i * 32) (Lib.byteCells D)) := hide fun W' hW j u hu => (hW.cell (p := ⟨mb, moff + i * 32 + j, none⟩) hmb).trans (hmrow i D hDi j u hu)
      have hft : foundL true (Ds.take (i + 1)) ls = foundL true (Ds.take i) ls ++ [firstOf (fun x => true && decide (comS x = D)) ls 0] := by
        rw [foundL, foundL, List.take_add_one, hDi, Option.toList_some, List.map_append]; rfl
      have hfl : (foundL true (Ds.take i) ls).length < 1000 := by rw [foundL, List.length_map, List.length_take]; omega
      obtain ⟨p, hp⟩ : ∃ p : Se → Bool, p = fun x => true && decide (comS x = D) := ⟨_, rfl⟩
      have hpx : ∀ x, p x = decide (comS x = D) := fun x => by rw [hp]; rfl
      rw [← hp] at hft
      have hst : firstOf p (ls.drop ll) ll = -1 := by rw [List.drop_of_length_le (by rw [HLL.out]; exact Nat.le_refl _)]; rfl
      have hi0 : (0 : Int) ≤ (i : Int) := by omega
      have hidI : (i : Int) < (dl : Int) := by omega
      have HP := hide hpx
      have HFT := hide hft
      have HFL := hide hfl
      have HST := hide hst
      clear hmrow hDi hft hfl hp hpx hst
      generalize foundL true (Ds.take i) ls = F at hC HFT HFL
      go_wp2_with fail
      go_loopg [7, 8] ll (fun g va vk wi => ∃ (j : Nat), j ≤ ll ∧ g = j ∧ vk = .int .i64 ((j : Int) - 1) ∧ va = .int .i64 (firstOf p (ls.drop j) j) ∧ RxC N w u5 F wi)
      case atStart => exact ⟨ll, by omega, rfl, by simp, by rw [HST.out], hC⟩
      case round =>
        obtain ⟨j, hj, hgj, rfl, rfl, hC2⟩ := hrel
        obtain rfl : j = _ := hgj.symm
        clear hC
        by_cases hj0 : 0 < j
        · obtain ⟨k, rfl⟩ : ∃ k, j = k + 1 := ⟨j - 1, by omega⟩
          have hkI : ((k + 1 : Nat) : Int) - 1 = (k : Int) := by omega
          have hkL : k < ls.length := by rw [← HLL.out]; omega
          obtain ⟨b, off, rfl, hbN, hrow⟩ := HAT.out (by omega)
          obtain ⟨x, hx⟩ : ∃ x, x = ls[k] := ⟨_, rfl⟩
          have hx' : ls[k]? = some x := by rw [hx]; exact List.getElem?_eq_getElem hkL
          have okx := HOK.out x (List.mem_of_getElem? hx')
          have hfd := firstOf_drop p ls k hkL k
          rw [← hx] at hfd
          have HRX : Hid (∀ W' : World, Below N w W' → ∀ i u, x.cells[i]? = some u → W'.cell? ⟨b, off + k * 4 + i, none⟩ = some u) := hide fun W' hW i u hu => (hW.cell (p := ⟨b, off + k * 4 + i, none⟩) hbN).trans (hrow k x hx' i u hu)
          have hk0 : (0 : Int) ≤ (k : Int) := by omega
          have hklI : (k : Int) < (ll : Int) := by omega
          have hk100 : (k : Int) ≤ 100 := by omega
          obtain ⟨fo, hfo⟩ : ∃ fo, fo = firstOf p (ls.drop (k + 1)) (k + 1) := ⟨_, rfl⟩
          rw [← hfo] at hfd ⊢
          rw [hkI]
          have HFD := hide hfd
          clear hrow hx hx' hfd hfo hj0 hkL
          go_upto_region 9 with (fail)
          refine zquiet (C := RxC N w u5 F) (by kernel_rfl) (by kernel_rfl) (hC2.below ((Below.refl _ _).drew)) ?_
          iterate 3 (go_big_quiet_want; go_big_quiet_op; first | go_big_quiet_on | (refine ⟨_, fun _ _ => rfl, ?_⟩; go_big_quiet_on))
          go_big_quiet_want; go_big_quiet_op; refine ⟨.agg (dg D), fun wq hq => ?_, ?_⟩
          · have c := zrowAt_of (w := wq) (g := mb) (o := moff + i * 32) (n := 32) (by rw [Lib.byteCells_length, hD32]) (HROW.out wq hq.2.1)
            simp [go_sem, c]
            rfl
          go_big_quiet_on
          iterate 3 (go_big_quiet_want; go_big_quiet_op; first | go_big_quiet_on | (refine ⟨_, fun _ _ => rfl, ?_⟩; go_big_quiet_on))
          go_big_quiet_want; go_big_quiet_op; refine ⟨.agg x.cells.toArray, fun wq hq => ?_, ?_⟩
          · have hr := HRX.out wq hq.2.1
            have c0 : wq.cell? ⟨b, off + k * 4, none⟩ = some (.int .i64 x.r) := hr 0 _ rfl
            have c1 : wq.cell? ⟨b, off + k * 4 + 1, none⟩ = some (.int .i64 x.c) := hr 1 _ rfl
            have c2 : wq.cell? ⟨b, off + k * 4 + 2, none⟩ = some (.int .u64 x.b) := hr 2 _ rfl
            have c3 : wq.cell? ⟨b, off + k * 4 + 3, none⟩ = some (.int .u64 x.n) := hr 3 _ rfl
            simp [go_sem, c0, c1, c2, c3, Se.cells]
          go_big_quiet_on
          go_big_quiet_want; go_big_quiet_op; refine ⟨.bool (p x), fun wq hq => ?_, ?_⟩
          · exact (ropens_any wq D hD32 x okx).mono fun e w' ⟨he, hb⟩ => ⟨by rw [he, HP.out x], hq.below hb⟩
          go_big_quiet_on
          refine wpQuiet_nil ?_
          clear hC2
          intro wd hqd
          have hfd := HFD.out
          cases hpv : p x
          all_goals
            rw [hpv] at hfd
            have HF2 := hide hfd
            clear hfd hpv
            go_wp2
            go_roundg k
            case measure => omega
            case rel => exact ⟨k, by omega, rfl, by go_num, by rw [HF2.out]; rfl, hqd⟩
        · obtain rfl : j = 0 := by omega
          rw [List.drop_zero]
          have hneg : ((0 : Nat) : Int) - 1 = -1 := rfl
          rw [hneg]
          obtain ⟨fo, hfo⟩ : ∃ fo, fo = firstOf p ls 0 := ⟨_, rfl⟩
          rw [← hfo]
          have HFO := hide hfo
          clear hfo
          go_wp2_with ((with_reducible show wpList _ _ _ (⟨some 35, _, _, _, _, _⟩ :: _) _ _); refine Hid.out ?_)
          refine hide ?_
          refine zappI rfl _ _ rfl u5 rfl wr.heap.size 1 rfl fo (zcell (new_at _ _) rfl) N F (hC2.below ((Below.refl _ _).alloc (Nat.le_refl _) _)).1 (by have := HFL.out; omega) (by simp; have := hC2.2.2; omega) ?_
          intro v' w' hO' hB'
          have hC3 : RxC N w v' (foundL true (Ds.take (i + 1)) ls) w' := ⟨by rw [HFT.out, ← HFO.out]; exact hO', (hC2.below ((Below.refl _ _).alloc (Nat.le_refl _) _)).2.1.trans hB', Nat.le_trans (by simp; have := hC2.2.2; omega) hB'.size⟩
          clear hO' hB' hC2
          go_wp2
          go_roundg (dl - (i + 1))
          case measure => omega
          case rel => exact ⟨i + 1, by omega, rfl, by go_num, hC3⟩
    · obtain rfl : i = dl := by omega
      rw [List.take_of_length_le (by rw [← HDL.out]; exact Nat.le_refl _)] at hC
      go_wp2
      go_ret
      exact ⟨_, rfl, hC.1, hC.2.1⟩
end Go.Proofs.YtpkgmoiffegbfaaDoor
