/- SealTells: the walk. Conditions: numbers of their kinds; what the two variables of sha hold. -/
import Derived.Test.YtpkgmoiffegbfaaDoorZSOpens
import Derived.Test.YtpkgmoiffegbfaaDoorROpened
namespace Go.Proofs.YtpkgmoiffegbfaaDoor
open Go.RowKit Go.BigFrame
set_option maxRecDepth 100000
attribute [local go_sem ↓] exec_loadZ exec_eqlZ exec_neqZ exec_zeroZ
attribute [local go_sem] loadRow eqRow digEq_dg isDig_dg objAt_drew

set_option maxHeartbeats 4000000 in
theorem zstells_any (x : Se) (y : Se) (D : List UInt8) (w : World) (hG : Glob F0 K64 w) (hx : x.Ok) (hy : y.Ok) (hD : D.length = 32) : Calls Tryd.prog 12 #[.agg x.cells.toArray, .agg y.cells.toArray, .agg (dg D)] w fun e w' => e = .returned (.bool true) ∧ Below w.heap.size w w' := by
  have HG := hide hG
  clear hG
  go_enter Tryd.func12, Tryd.ntmps12
  go_upto_region 1 with (fail)
  obtain ⟨n, hn⟩ : ∃ n, n = w.heap.size := ⟨_, rfl⟩
  have h1 : (((w.alloc (.cells x.cells.toArray 41)).alloc (.cells y.cells.toArray 41)).alloc (.cells (dg D) 28)).heap[w.heap.size]? = some (.cells x.cells.toArray 41 (0, 0)) := by
    have a1 := new_at w (.cells x.cells.toArray 41)
    have a2 := ((World.grownBy_alloc (w.alloc (.cells x.cells.toArray 41)) (.cells y.cells.toArray 41) none).block w.heap.size (by simp) (by simp)).trans a1
    exact ((World.grownBy_alloc _ (.cells (dg D) 28) none).block w.heap.size (by simp; omega) (by simp)).trans a2
  have h2 : (((w.alloc (.cells x.cells.toArray 41)).alloc (.cells y.cells.toArray 41)).alloc (.cells (dg D) 28)).heap[w.heap.size + 1]? = some (.cells y.cells.toArray 41 (0, 0)) := by
    have a1 := new_at (w.alloc (.cells x.cells.toArray 41)) (.cells y.cells.toArray 41)
    rw [World.size_alloc] at a1
    exact ((World.grownBy_alloc _ (.cells (dg D) 28) none).block (w.heap.size + 1) (by simp) (by simp)).trans a1
  have h3 : (((w.alloc (.cells x.cells.toArray 41)).alloc (.cells y.cells.toArray 41)).alloc (.cells (dg D) 28)).heap[w.heap.size + 2]? = some (.cells (dg D) 28 (0, 0)) := by
    have a1 := new_at ((w.alloc (.cells x.cells.toArray 41)).alloc (.cells y.cells.toArray 41)) (.cells (dg D) 28)
    rw [World.size_alloc, World.size_alloc] at a1
    exact a1
  have hB : Below w.heap.size w (((w.alloc (.cells x.cells.toArray 41)).alloc (.cells y.cells.toArray 41)).alloc (.cells (dg D) 28)) := (((Below.refl _ _).alloc (Nat.le_refl _) _).alloc (by simp) _).alloc (by simp; omega) _
  obtain ⟨W1, hW⟩ : ∃ W1, W1 = (((w.alloc (.cells x.cells.toArray 41)).alloc (.cells y.cells.toArray 41)).alloc (.cells (dg D) 28)) := ⟨_, rfl⟩
  rw [← hW] at h1 h2 h3 hB ⊢
  have hG1 := HG.out.below hB
  rw [show w.heap.size + 1 + 1 = w.heap.size + 2 from rfl]
  rw [← hn] at h1 h2 h3 hB ⊢
  have HN := hide hn
  have hn1 : 1 < n := by rw [hn]; exact HG.out.2.2.2
  clear hW hn
  go_wp2_with fail
  refine (ssum_any _).mono ?_
  rintro e w2 ⟨rfl, rfl⟩
  go_wp2_with fail
  refine (sworks_any _ hG1).mono ?_
  rintro e w2 ⟨rfl, hB2⟩
  have h12 := below_at hB2 h1 (zlt h1)
  have h22 := below_at hB2 h2 (zlt h2)
  have h32 := below_at hB2 h3 (zlt h3)
  have hG2 := hG1.below hB2
  have hBB2 := hB.trans (hB2.mono (by have := zlt h1; omega))
  have hz2 := zlt h32
  clear h1 h2 h3 hB hG1 hB2
  go_wp2_with ((with_reducible show wpList _ _ _ (⟨some 16, Op.load _ _, _, _, _, _⟩ :: _) _ _); refine Hid.out ?_)
  refine hide ?_
  refine wpList_load_row rfl 41 _ rfl n rfl _ _ _ _ h12 Tryd.underlying41 rfl sizeSealed ?_
  go_wp2_with fail
  refine (rcommit_any w2 x hx).mono ?_
  rintro e w3 ⟨rfl, hB3⟩
  have h13 := below_at hB3 h12 (zlt h12)
  have h23 := below_at hB3 h22 (zlt h22)
  have h33 := below_at hB3 h32 hz2
  have hG3 := hG2.below hB3
  have hBB3 := hBB2.trans (hB3.mono (by omega))
  have hz3 := zlt h33
  obtain ⟨CX, hCX⟩ : ∃ CX, CX = comS x := ⟨_, rfl⟩
  obtain ⟨CY, hCY⟩ : ∃ CY, CY = comS y := ⟨_, rfl⟩
  have hl1 : CX.length = 32 := hCX ▸ comS_length x
  have hl2 : CY.length = 32 := hCY ▸ comS_length y
  rw [← hCX]
  have HCX := hide hCX
  have HCY := hide hCY
  clear h12 h22 h32 hG2 hBB2 hz2 hB3 hCX hCY
  go_wp2_with ((with_reducible show wpList _ _ _ (⟨some 8, Op.alloc _, _, _, _, _⟩ :: _) _ _); refine Hid.out ?_)
  refine hide ?_
  refine zallocK rfl 28 rfl _ zzeroDig ?_
  intro w4 hg4 hw4 hs4
  obtain ⟨cb, hcb⟩ : ∃ cb, cb = w3.heap.size := ⟨_, rfl⟩
  rw [← hcb] at hg4 hs4 hz3 ⊢
  have h14 := (hw4.block n (zlt h13) (by simp)).trans h13
  have h24 := (hw4.block (n + 1) (zlt h23) (by simp)).trans h23
  have h34 := (hw4.block (n + 2) (zlt h33) (by simp)).trans h33
  have hG4 := hG3.below (below_grown (Below.refl _ _) hw4 (Nat.le_refl _) (by intro k e; cases e))
  have hBB4 := below_grown hBB3 hw4 (by omega) (by intro k e; cases e)
  clear h13 h23 h33 hG3 hBB3 hw4 hcb
  go_wp2_with ((with_reducible show wpList _ _ _ (⟨none, Op.store _ _ _, _, _, _, _⟩ :: _) _ _); refine Hid.out ?_)
  refine hide ?_
  refine law_store rfl _ _ _ rfl cb (dg CX) rfl rfl _ _ hg4 (by rw [dg_size, hl1]; exact zsizeDig) (by rw [dg_size, dg_size, hl1]; rfl) (dg_one _) ?_
  intro w5 hd5' hw5
  have hC : SpC n w x y D cb CX w5 := ⟨hG4.grown hw5 (by omega), (hw5.block n (zlt h14) (by simp; omega)).trans h14, (hw5.block (n + 1) (zlt h24) (by simp; omega)).trans h24, (hw5.block (n + 2) (zlt h34) (by simp; omega)).trans h34, hd5'.out, below_grown hBB4 hw5 (by omega) (by intro k e; cases e; omega)⟩
  clear hd5' hw5 h14 h24 h34 hG4 hBB4 hg4 hs4 hz3
  go_upto_region 5 with (fail)
  simp only [Act.put]
  refine zquiet (C := SpC n w x y D cb CX) (by kernel_rfl) (by kernel_rfl) hC.drew ?_
  go_big_quiet_want; go_big_quiet_op; refine ⟨.agg x.cells.toArray, fun wq hq => ?_, ?_⟩
  · have c0 : wq.cell? ⟨n, 0, none⟩ = some (.int .i64 x.r) := zcell hq.2.1 rfl
    have c1 : wq.cell? ⟨n, 1, none⟩ = some (.int .i64 x.c) := zcell hq.2.1 rfl
    have c2 : wq.cell? ⟨n, 2, none⟩ = some (.int .u64 x.b) := zcell hq.2.1 rfl
    have c3 : wq.cell? ⟨n, 3, none⟩ = some (.int .u64 x.n) := zcell hq.2.1 rfl
    simp [go_sem, c0, c1, c2, c3, Se.cells]
  go_big_quiet_on
  go_big_quiet_want; go_big_quiet_op; refine ⟨.string ⟨(seB x).toArray⟩, fun wq hq => ?_, ?_⟩
  · exact (bytes_any wq x hx).mono fun e w' ⟨he, hb⟩ => ⟨he, hq.below hb⟩
  go_big_quiet_on
  go_big_quiet_want; go_big_quiet_op; refine ⟨.agg x.cells.toArray, fun wq hq => ?_, ?_⟩
  · have c0 : wq.cell? ⟨n, 0, none⟩ = some (.int .i64 x.r) := zcell hq.2.1 rfl
    have c1 : wq.cell? ⟨n, 1, none⟩ = some (.int .i64 x.c) := zcell hq.2.1 rfl
    have c2 : wq.cell? ⟨n, 2, none⟩ = some (.int .u64 x.b) := zcell hq.2.1 rfl
    have c3 : wq.cell? ⟨n, 3, none⟩ = some (.int .u64 x.n) := zcell hq.2.1 rfl
    simp [go_sem, c0, c1, c2, c3, Se.cells]
  go_big_quiet_on
  go_big_quiet_want; go_big_quiet_op; refine ⟨.string ⟨(seB x).toArray⟩, fun wq hq => ?_, ?_⟩
  · exact (rbytes_any wq x hx).mono fun e w' ⟨he, hb⟩ => ⟨he, hq.below hb⟩
  go_big_quiet_on
  go_big_quiet_want; go_big_quiet_op; refine ⟨.bool true, fun wq hq => ?_, ?_⟩
  · simp [go_sem]
  go_big_quiet_on
  iterate 2 (go_big_quiet_want; go_big_quiet_op; first | go_big_quiet_on | (refine ⟨_, fun _ _ => rfl, ?_⟩; go_big_quiet_on))
  go_big_quiet_want; go_big_quiet_op; refine ⟨.agg x.cells.toArray, fun wq hq => ?_, ?_⟩
  · have c0 : wq.cell? ⟨n, 0, none⟩ = some (.int .i64 x.r) := zcell hq.2.1 rfl
    have c1 : wq.cell? ⟨n, 1, none⟩ = some (.int .i64 x.c) := zcell hq.2.1 rfl
    have c2 : wq.cell? ⟨n, 2, none⟩ = some (.int .u64 x.b) := zcell hq.2.1 rfl
    have c3 : wq.cell? ⟨n, 3, none⟩ = some (.int .u64 x.n) := zcell hq.2.1 rfl
    simp [go_sem, c0, c1, c2, c3, Se.cells]
  go_big_quiet_on
  go_big_quiet_want; go_big_quiet_op; refine ⟨.agg (dg CX), fun wq hq => ?_, ?_⟩
  · have nm := nil_ahead_commit2
    have mm := method_commit2
    simp [go_sem, nm, mm]
    exact (scommit_any wq x hx hq.1).mono fun e w' ⟨he, hb⟩ => ⟨by rw [he, HCX.out], hq.below hb⟩
  go_big_quiet_on
  go_big_quiet_want; go_big_quiet_op; refine ⟨.agg (dg CX), fun wq hq => ?_, ?_⟩
  · have q1 := hq.2.2.2.2.1
    simp [go_sem, objAt, q1, dg_size, hl1]
  go_big_quiet_on
  go_big_quiet_want; go_big_quiet_op; refine ⟨.bool true, fun wq hq => ?_, ?_⟩
  · simp [go_sem, hl1]
  go_big_quiet_on
  iterate 3 (go_big_quiet_want; go_big_quiet_op; first | go_big_quiet_on | (refine ⟨_, fun _ _ => rfl, ?_⟩; go_big_quiet_on))
  go_big_quiet_want; go_big_quiet_op; refine ⟨.agg (dg CX), fun wq hq => ?_, ?_⟩
  · have q1 := hq.2.2.2.2.1
    simp [go_sem, objAt, q1, dg_size, hl1]
  go_big_quiet_on
  go_big_quiet_want; go_big_quiet_op; refine ⟨.agg y.cells.toArray, fun wq hq => ?_, ?_⟩
  · have c0 : wq.cell? ⟨(n + 1), 0, none⟩ = some (.int .i64 y.r) := zcell hq.2.2.1 rfl
    have c1 : wq.cell? ⟨(n + 1), 1, none⟩ = some (.int .i64 y.c) := zcell hq.2.2.1 rfl
    have c2 : wq.cell? ⟨(n + 1), 2, none⟩ = some (.int .u64 y.b) := zcell hq.2.2.1 rfl
    have c3 : wq.cell? ⟨(n + 1), 3, none⟩ = some (.int .u64 y.n) := zcell hq.2.2.1 rfl
    simp [go_sem, c0, c1, c2, c3, Se.cells]
  go_big_quiet_on
  go_big_quiet_want; go_big_quiet_op; refine ⟨.bool (CY == CX), fun wq hq => ?_, ?_⟩
  · have nm := nil_ahead_opens2
    have mm := method_opens2
    simp [go_sem, nm, mm]
    exact (sopens_any wq CX hl1 y hy hq.1).mono fun e w' ⟨he, hb⟩ => ⟨by rw [he, HCY.out, Bool.beq_eq_decide_eq], hq.below hb⟩
  go_big_quiet_on
  go_big_quiet_want; go_big_quiet_op; refine ⟨.agg (dg CX), fun wq hq => ?_, ?_⟩
  · have q1 := hq.2.2.2.2.1
    simp [go_sem, objAt, q1, dg_size, hl1]
  go_big_quiet_on
  go_big_quiet_want; go_big_quiet_op; refine ⟨.agg y.cells.toArray, fun wq hq => ?_, ?_⟩
  · have c0 : wq.cell? ⟨(n + 1), 0, none⟩ = some (.int .i64 y.r) := zcell hq.2.2.1 rfl
    have c1 : wq.cell? ⟨(n + 1), 1, none⟩ = some (.int .i64 y.c) := zcell hq.2.2.1 rfl
    have c2 : wq.cell? ⟨(n + 1), 2, none⟩ = some (.int .u64 y.b) := zcell hq.2.2.1 rfl
    have c3 : wq.cell? ⟨(n + 1), 3, none⟩ = some (.int .u64 y.n) := zcell hq.2.2.1 rfl
    simp [go_sem, c0, c1, c2, c3, Se.cells]
  go_big_quiet_on
  go_big_quiet_want; go_big_quiet_op; refine ⟨.bool (CY == CX), fun wq hq => ?_, ?_⟩
  · exact (ropens_any wq CX hl1 y hy).mono fun e w' ⟨he, hb⟩ => ⟨by rw [he, HCY.out, Bool.beq_eq_decide_eq], hq.below hb⟩
  go_big_quiet_on
  go_big_quiet_want; go_big_quiet_op; refine ⟨.bool true, fun wq hq => ?_, ?_⟩
  · simp [go_sem]
  go_big_quiet_on
  iterate 3 (go_big_quiet_want; go_big_quiet_op; first | go_big_quiet_on | (refine ⟨_, fun _ _ => rfl, ?_⟩; go_big_quiet_on))
  go_big_quiet_want; go_big_quiet_op; refine ⟨.agg (dg D), fun wq hq => ?_, ?_⟩
  · have q1 := hq.2.2.2.1
    simp [go_sem, objAt, q1, dg_size, hD]
  go_big_quiet_on
  go_big_quiet_want; go_big_quiet_op; refine ⟨.agg x.cells.toArray, fun wq hq => ?_, ?_⟩
  · have c0 : wq.cell? ⟨n, 0, none⟩ = some (.int .i64 x.r) := zcell hq.2.1 rfl
    have c1 : wq.cell? ⟨n, 1, none⟩ = some (.int .i64 x.c) := zcell hq.2.1 rfl
    have c2 : wq.cell? ⟨n, 2, none⟩ = some (.int .u64 x.b) := zcell hq.2.1 rfl
    have c3 : wq.cell? ⟨n, 3, none⟩ = some (.int .u64 x.n) := zcell hq.2.1 rfl
    simp [go_sem, c0, c1, c2, c3, Se.cells]
  go_big_quiet_on
  go_big_quiet_want; go_big_quiet_op; refine ⟨.bool (CX == D), fun wq hq => ?_, ?_⟩
  · have nm := nil_ahead_opens2
    have mm := method_opens2
    simp [go_sem, nm, mm]
    exact (sopens_any wq D hD x hx hq.1).mono fun e w' ⟨he, hb⟩ => ⟨by rw [he, HCX.out, Bool.beq_eq_decide_eq], hq.below hb⟩
  go_big_quiet_on
  go_big_quiet_want; go_big_quiet_op; refine ⟨.agg (dg D), fun wq hq => ?_, ?_⟩
  · have q1 := hq.2.2.2.1
    simp [go_sem, objAt, q1, dg_size, hD]
  go_big_quiet_on
  go_big_quiet_want; go_big_quiet_op; refine ⟨.agg x.cells.toArray, fun wq hq => ?_, ?_⟩
  · have c0 : wq.cell? ⟨n, 0, none⟩ = some (.int .i64 x.r) := zcell hq.2.1 rfl
    have c1 : wq.cell? ⟨n, 1, none⟩ = some (.int .i64 x.c) := zcell hq.2.1 rfl
    have c2 : wq.cell? ⟨n, 2, none⟩ = some (.int .u64 x.b) := zcell hq.2.1 rfl
    have c3 : wq.cell? ⟨n, 3, none⟩ = some (.int .u64 x.n) := zcell hq.2.1 rfl
    simp [go_sem, c0, c1, c2, c3, Se.cells]
  go_big_quiet_on
  go_big_quiet_want; go_big_quiet_op; refine ⟨.bool (CX == D), fun wq hq => ?_, ?_⟩
  · exact (ropens_any wq D hD x hx).mono fun e w' ⟨he, hb⟩ => ⟨by rw [he, HCX.out, Bool.beq_eq_decide_eq], hq.below hb⟩
  go_big_quiet_on
  go_big_quiet_want; go_big_quiet_op; refine ⟨.bool true, fun wq hq => ?_, ?_⟩
  · simp [go_sem]
  go_big_quiet_on
  iterate 2 (go_big_quiet_want; go_big_quiet_op; first | go_big_quiet_on | (refine ⟨_, fun _ _ => rfl, ?_⟩; go_big_quiet_on))
  refine wpQuiet_nil ?_
  clear hC
  intro wd hqd
  go_wp2
  go_ret
  exact ⟨rfl, HN.out ▸ hqd.2.2.2.2.2⟩
end Go.Proofs.YtpkgmoiffegbfaaDoor
