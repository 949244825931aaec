/- Layer 19: the scheme of sums: the walks. Condition: what the two variables of sha hold; numbers of their kinds. -/
import Derived.Test.YtpkgmoiffegbfaaDoorZBytes
import Derived.Test.YtpkgmoiffegbfaaDoorZPieces
namespace Go.Proofs.YtpkgmoiffegbfaaDoor
open Go.RowKit Go.BigFrame
set_option maxRecDepth 100000
attribute [local go_sem ↓] exec_loadZ exec_eqlZ exec_neqZ exec_zeroZ
attribute [local go_sem] loadRow eqRow digEq_dg isDig_dg objAt_drew

/-- What a sealed thing is committed to by. -/
def comS (x : Se) : List UInt8 := shaOf K64 F0 (seB x)
theorem comS_length (x : Se) : (comS x).length = 32 := sha_length K64 F0 _

theorem sizeSealed : (Tryd.prog.info? 41).map (·.size) = some 4 := by kernel_rfl
theorem seB_size (x : Se) : (⟨(seB x).toArray⟩ : ByteArray).size = 39 := seB_length x

set_option maxHeartbeats 400000 in
theorem scommit_any (w : World) (x : Se) (ok : x.Ok) (hG : Glob F0 K64 w) :
    Calls Tryd.prog 67 #[.agg #[], .agg x.cells.toArray] w fun e w' => e = .returned (.agg (dg (comS x))) ∧ Below w.heap.size w w' := by
  have HG := hide hG
  clear hG
  go_enter Tryd.func67, Tryd.ntmps67
  go_wp2_with ((with_reducible show wpList _ _ _ (⟨some 4, Op.alloc _, _, _, _, _⟩ :: _) _ _); refine Hid.out ?_)
  refine hide ?_
  have hx1 := new_at (w.alloc (.cells #[] 71)) (.cells x.cells.toArray 41)
  have hB1 : Below w.heap.size w ((w.alloc (.cells #[] 71)).alloc (.cells x.cells.toArray 41)) := ((Below.refl _ _).alloc (Nat.le_refl _) _).alloc (by simp) _
  have hz1 : ((w.alloc (.cells #[] 71)).alloc (.cells x.cells.toArray 41)).heap.size = w.heap.size + 2 := by simp
  rw [World.size_alloc] at hx1
  obtain ⟨W1, hW⟩ : ∃ W1, W1 = (w.alloc (.cells #[] 71)).alloc (.cells x.cells.toArray 41) := ⟨_, rfl⟩
  rw [← hW] at hx1 hB1 hz1 ⊢
  clear hW
  refine zallocK rfl 28 rfl _ zzeroDig ?_
  intro w2 hg2 hw2 hs2
  obtain ⟨n, hn⟩ : ∃ n, n = w.heap.size := ⟨_, rfl⟩
  obtain ⟨nb, hnb⟩ : ∃ nb, nb = W1.heap.size := ⟨_, rfl⟩
  rw [← hn] at hx1 hB1 hz1 ⊢
  rw [← hnb] at hg2 hz1 hs2 ⊢
  have hx2 := (hw2.block (n + 1) (by omega) (by simp)).trans hx1
  have hB2 : Below n w w2 := below_grown hB1 hw2 (by omega) (by intro k e; cases e)
  have HN := hide hn
  have hz2 : nb < w2.heap.size := by omega
  have hz3 : n + 1 < nb := by omega
  clear hs2 hnb hz1 hn hB1 hx1 hw2
  go_wp2_with ((with_reducible show wpList _ _ _ (⟨some 5, Op.load _ _, _, _, _, _⟩ :: _) _ _); refine Hid.out ?_)
  refine hide ?_
  refine wpList_load_row rfl 41 _ rfl (n + 1) rfl _ _ _ _ hx2 Tryd.underlying41 rfl sizeSealed ?_
  go_wp2_with fail
  refine (bytes_any w2 x ok).mono ?_
  rintro e w3 ⟨rfl, hB3⟩
  have hG3 := ((HG.out.below (HN.out ▸ hB2)).below hB3)
  have hg3 := below_at hB3 hg2 hz2
  have hB3' := hB2.trans (hB3.mono (by omega))
  have hz4 := hB3.size
  go_wp2_with fail
  refine (hash_sum w3 K64 F0 ⟨(seB x).toArray⟩ hG3 (by rw [seB_size]; omega)).mono ?_
  rintro e w4 ⟨rfl, hB4⟩
  have hg4 := below_at hB4 hg3 (by omega)
  have hB4' := hB3'.trans (hB4.mono (by omega))
  have hz5 := hB4.size
  rw [show shaOf K64 F0 (⟨(seB x).toArray⟩ : ByteArray).data.toList = comS x from rfl]
  have hl := comS_length x
  generalize hD : comS x = D at hl
  have HD := hide hD
  clear hD hg2 hg3 hB2 hB3 hB3' hB4 hG3 hx2
  go_wp2_with ((with_reducible show wpList _ _ _ (⟨none, Op.store _ _ _, _, _, _, _⟩ :: _) _ _); refine Hid.out ?_)
  refine hide ?_
  refine law_store rfl _ _ _ rfl nb (dg D) rfl rfl _ _ hg4 (by rw [dg_size, hl]; exact zsizeDig) (by rw [dg_size, dg_size, hl]; rfl) (dg_one _) ?_
  intro w6 hd6 hw6
  go_wp2
  refine bodyPost_ret (results_cell_row rfl _ _ nb _ _ _ _ rfl hd6.out Tryd.underlying28 rfl (by rw [dg_size, hl]; exact zsizeDig)) rfl ⟨by rw [HD.out], ?_⟩
  rw [← HN.out]
  exact below_grown hB4' hw6 (by omega) (by intro k e; cases e; omega)

/-- What stays while 'Opens' is asked. -/
def SoC (n : Nat) (w0 : World) (D : List UInt8) (x : Se) (w : World) : Prop := Glob F0 K64 w ∧ w.heap[n]? = some (.cells #[] 71 (0, 0)) ∧ w.heap[n + 1]? = some (.cells (dg D) 28 (0, 0)) ∧ w.heap[n + 2]? = some (.cells x.cells.toArray 41 (0, 0)) ∧ Below n w0 w ∧ n + 2 < w.heap.size
theorem SoC.below {n : Nat} {w0 : World} {D : List UInt8} {x : Se} {w w' : World} (h : SoC n w0 D x w) (hb : Below w.heap.size w w') : SoC n w0 D x w' := by
  obtain ⟨h1, h2, h3, h4, h5, h6⟩ := h
  exact ⟨h1.below hb, below_at hb h2 (by omega), below_at hb h3 (by omega), below_at hb h4 h6, h5.trans (hb.mono (by omega)), Nat.lt_of_lt_of_le h6 hb.size⟩
theorem SoC.drew {n : Nat} {w0 : World} {D : List UInt8} {x : Se} {w : World} (h : SoC n w0 D x w) : SoC n w0 D x w.drew := ⟨h.1, h.2.1, h.2.2.1, h.2.2.2.1, h.2.2.2.2.1.drew, h.2.2.2.2.2⟩

set_option maxHeartbeats 400000 in
theorem sopens_any (w : World) (D : List UInt8) (hD : D.length = 32) (x : Se) (ok : x.Ok) (hG : Glob F0 K64 w) :
    Calls Tryd.prog 68 #[.agg #[], .agg (dg D), .agg x.cells.toArray] w fun e w' => e = .returned (.bool (decide (comS x = D))) ∧ Below w.heap.size w w' := by
  have HG := hide hG
  clear hG
  go_enter Tryd.func68, Tryd.ntmps68
  go_upto_region 1 with (fail)
  have hz1 : (((w.alloc (.cells #[] 71)).alloc (.cells (dg D) 28)).alloc (.cells x.cells.toArray 41)).heap.size = w.heap.size + 3 := by simp
  have h1 : (((w.alloc (.cells #[] 71)).alloc (.cells (dg D) 28)).alloc (.cells x.cells.toArray 41)).heap[w.heap.size]? = some (.cells #[] 71 (0, 0)) := by
    have a1 := new_at w (.cells #[] 71)
    have a2 := ((World.grownBy_alloc (w.alloc (.cells #[] 71)) (.cells (dg D) 28) none).block w.heap.size (by simp) (by simp)).trans a1
    exact ((World.grownBy_alloc _ (.cells x.cells.toArray 41) none).block w.heap.size (by simp; omega) (by simp)).trans a2
  have h2 : (((w.alloc (.cells #[] 71)).alloc (.cells (dg D) 28)).alloc (.cells x.cells.toArray 41)).heap[w.heap.size + 1]? = some (.cells (dg D) 28 (0, 0)) := by
    have a1 := new_at (w.alloc (.cells #[] 71)) (.cells (dg D) 28)
    rw [World.size_alloc] at a1
    exact ((World.grownBy_alloc _ (.cells x.cells.toArray 41) none).block (w.heap.size + 1) (by simp) (by simp)).trans a1
  have h3 : (((w.alloc (.cells #[] 71)).alloc (.cells (dg D) 28)).alloc (.cells x.cells.toArray 41)).heap[w.heap.size + 2]? = some (.cells x.cells.toArray 41 (0, 0)) := by
    have a1 := new_at ((w.alloc (.cells #[] 71)).alloc (.cells (dg D) 28)) (.cells x.cells.toArray 41)
    rw [World.size_alloc, World.size_alloc] at a1
    exact a1
  have hB : Below w.heap.size w (((w.alloc (.cells #[] 71)).alloc (.cells (dg D) 28)).alloc (.cells x.cells.toArray 41)) := (((Below.refl _ _).alloc (Nat.le_refl _) _).alloc (by simp) _).alloc (by simp; omega) _
  obtain ⟨W1, hW⟩ : ∃ W1, W1 = (((w.alloc (.cells #[] 71)).alloc (.cells (dg D) 28)).alloc (.cells x.cells.toArray 41)) := ⟨_, rfl⟩
  rw [← hW] at hz1 h1 h2 h3 hB ⊢
  obtain ⟨n, hn⟩ : ∃ n, n = w.heap.size := ⟨_, rfl⟩
  have hC : SoC n w D x W1 := by rw [hn]; exact ⟨HG.out.below hB, h1, h2, h3, hB, by omega⟩
  have HN := hide hn
  rw [show w.heap.size + 1 + 1 = w.heap.size + 2 from rfl, ← hn]
  clear hW hz1 h1 h2 h3 hB hn
  refine zquiet (C := SoC n w D x) (by kernel_rfl) (by kernel_rfl) hC.drew ?_
  go_big_quiet_want; go_big_quiet_op; refine ⟨.agg #[], fun wq hq => rfl, ?_⟩
  go_big_quiet_on
  go_big_quiet_want; go_big_quiet_op; refine ⟨.agg x.cells.toArray, fun wq hq => ?_, ?_⟩
  · have c0 : wq.cell? ⟨n + 2, 0, none⟩ = some (.int .i64 x.r) := zcell hq.2.2.2.1 rfl
    have c1 : wq.cell? ⟨n + 2, 1, none⟩ = some (.int .i64 x.c) := zcell hq.2.2.2.1 rfl
    have c2 : wq.cell? ⟨n + 2, 2, none⟩ = some (.int .u64 x.b) := zcell hq.2.2.2.1 rfl
    have c3 : wq.cell? ⟨n + 2, 3, none⟩ = some (.int .u64 x.n) := zcell hq.2.2.2.1 rfl
    simp [go_sem, c0, c1, c2, c3, Se.cells]
  go_big_quiet_on
  go_big_quiet_want; go_big_quiet_op; refine ⟨.agg (dg (comS x)), fun wq hq => (scommit_any wq x ok hq.1).mono fun e w' ⟨he, hb⟩ => ⟨he, hq.below hb⟩, ?_⟩
  go_big_quiet_on
  go_big_quiet_want; go_big_quiet_op; refine ⟨.agg (dg D), fun wq hq => ?_, ?_⟩
  · simp [go_sem, objAt, hq.2.2.1, dg_size, hD]
  go_big_quiet_on
  go_big_quiet_want; go_big_quiet_op; refine ⟨.bool (comS x == D), fun wq hq => ?_, ?_⟩
  · simp [go_sem, comS_length, hD]
  go_big_quiet_on
  go_big_quiet_want; go_big_quiet_op; first | go_big_quiet_on | (refine ⟨_, fun _ _ => rfl, ?_⟩; go_big_quiet_on)
  refine wpQuiet_nil ?_
  clear hC
  intro wd hqd
  go_wp2
  go_ret
  exact ⟨by rw [Bool.beq_eq_decide_eq]; rfl, HN.out ▸ hqd.2.2.2.2.1⟩

theorem ssum_any (w : World) : Calls Tryd.prog 22 #[] w fun e w' => e = .returned (.iface 71 (.agg #[])) ∧ w = w' := by
  go_enter Tryd.func22, Tryd.ntmps22
  go_wp2
  go_ret
  exact ⟨rfl, rfl⟩
end Go.Proofs.YtpkgmoiffegbfaaDoor
