/- SealApart: the walk. Conditions: numbers of their kinds; what the two variables of sha hold. -/
import Derived.Test.YtpkgmoiffegbfaaDoorZSealWk
import Derived.Test.YtpkgmoiffegbfaaDoorZSeEq
import Derived.Deep.CutBlock
namespace Go.Proofs.YtpkgmoiffegbfaaDoor
open Go.RowKit Go.BigFrame
set_option maxRecDepth 100000
attribute [local go_sem ↓] exec_loadSe exec_eqlSe
attribute [local go_sem] loadRowSe eqRowSe digEq_se isSe_cells objAt_drew

/-- What stays while it is asked. -/
def SaC (n : Nat) (w0 : World) (x y : Se) (zb : Nat) (z : Se) (w : World) : Prop := Glob F0 K64 w ∧ objAt w n = some (.cells x.cells.toArray 41 (0, 0)) ∧ objAt w (n + 1) = some (.cells y.cells.toArray 41 (0, 0)) ∧ objAt w zb = some (.cells z.cells.toArray 41 (0, 0)) ∧ Below n w0 w
theorem SaC.below {n : Nat} {w0 : World} {x y : Se} {zb : Nat} {z : Se} {w w' : World} (h : SaC n w0 x y zb z w) (hb : Below w.heap.size w w') : SaC n w0 x y zb z w' := by
  obtain ⟨h1, h2, h3, h4, h5⟩ := h
  have := zlt h2
  exact ⟨h1.below hb, below_at hb h2 this, below_at hb h3 (zlt h3), below_at hb h4 (zlt h4), h5.trans (hb.mono (by omega))⟩
theorem SaC.drew {n : Nat} {w0 : World} {x y : Se} {zb : Nat} {z : Se} {w : World} (h : SaC n w0 x y zb z w) : SaC n w0 x y zb z w.drew := ⟨h.1, h.2.1, h.2.2.1, h.2.2.2.1, h.2.2.2.2.drew⟩
theorem SaC.upd {n : Nat} {w0 : World} {x y : Se} {zb : Nat} {z z' : Se} {w w' : World} (h : SaC n w0 x y zb z w) (h1 : 1 < n) (h2 : n + 1 < zb) (hz : w'.heap[zb]? = some (.cells z'.cells.toArray 41 (0, 0))) (hg : w.grownBy w' (some zb)) : SaC n w0 x y zb z' w' := by
  obtain ⟨a1, a2, a3, _, a5⟩ := h
  have l2 := zlt a2
  exact ⟨a1.grown hg (by omega), (hg.block n l2 (by simp; omega)).trans a2, (hg.block (n + 1) (zlt a3) (by simp; omega)).trans a3, hz, below_grown a5 hg (by omega) (by intro k e; cases e; omega)⟩
theorem bits_I (a : Int) (b : Nat) : bits .xor .i64 a (b / 4) = xorI a (b / 4) := by unfold xorI; rw [Int.natCast_ediv]; rfl
theorem bits_U (a : Int) (b : Nat) : bits .xor .u64 a (b / 4) = xorU a (b / 4) := by unfold xorU; rw [Int.natCast_ediv]; rfl
theorem set_r (x : Se) (v : Int) : x.cells.toArray.setIfInBounds 0 (.int .i64 v) = (⟨v, x.c, x.b, x.n⟩ : Se).cells.toArray := by simp [Se.cells]
theorem set_c (x : Se) (v : Int) : x.cells.toArray.setIfInBounds 1 (.int .i64 v) = (⟨x.r, v, x.b, x.n⟩ : Se).cells.toArray := by simp [Se.cells]
theorem set_b (x : Se) (v : Int) : x.cells.toArray.setIfInBounds 2 (.int .u64 v) = (⟨x.r, x.c, v, x.n⟩ : Se).cells.toArray := by simp [Se.cells]
theorem set_n (x : Se) (v : Int) : x.cells.toArray.setIfInBounds 3 (.int .u64 v) = (⟨x.r, x.c, x.b, v⟩ : Se).cells.toArray := by simp [Se.cells]
theorem seB_cut (x : Se) : (⟨(seB x).toArray⟩ : ByteArray).extract 0 7 = ⟨#[99, 111, 110, 115, 105, 103, 110]⟩ := by
  have h := ext_list (⟨(seB x).toArray⟩ : ByteArray) 0 7
  have h2 : (⟨(seB x).toArray⟩ : ByteArray).data.toList = seB x := rfl
  rw [h2, List.drop_zero, show (seB x).take 7 = consL from rfl] at h
  have : ∀ (a b : ByteArray), a.data.toList = b.data.toList → a = b := fun a b h => by
    cases a; cases b
    simpa using Array.toList_inj.1 h
  exact this _ _ h
theorem toList_iff (A B : ByteArray) : (A.toList = B.toList) = (A = B) := by
  rw [ByteArray.toList_eq, ByteArray.toList_eq]
  refine propext ⟨fun h => ?_, fun h => by rw [h]⟩
  cases A; cases B
  simpa using Array.toList_inj.1 h

set_option maxHeartbeats 4000000 in
theorem zsapart_any (x : Se) (y : Se) (by_ : Nat) (w : World) (hG : Glob F0 K64 w) (hx : x.Ok) (hy : y.Ok) (hb : by_ ≤ 18446744073709551615) : Calls Tryd.prog 9 #[.agg x.cells.toArray, .agg y.cells.toArray, .int .u64 by_] w fun e w' => e = .returned (.bool true) ∧ Below w.heap.size w w' := by
  have HG := hide hG
  clear hG
  go_enter Tryd.func9, Tryd.ntmps9
  go_upto_region 1 with (fail)
  obtain ⟨n, hn⟩ : ∃ n, n = w.heap.size := ⟨_, rfl⟩
  have h1 : ((w.alloc (.cells x.cells.toArray 41)).alloc (.cells y.cells.toArray 41)).heap[w.heap.size]? = some (.cells x.cells.toArray 41 (0, 0)) := ((World.grownBy_alloc (w.alloc (.cells x.cells.toArray 41)) (.cells y.cells.toArray 41) none).block w.heap.size (by simp) (by simp)).trans (new_at w (.cells x.cells.toArray 41))
  have h2 : ((w.alloc (.cells x.cells.toArray 41)).alloc (.cells y.cells.toArray 41)).heap[w.heap.size + 1]? = some (.cells y.cells.toArray 41 (0, 0)) := by
    have a1 := new_at (w.alloc (.cells x.cells.toArray 41)) (.cells y.cells.toArray 41)
    rw [World.size_alloc] at a1
    exact a1
  have hB : Below w.heap.size w ((w.alloc (.cells x.cells.toArray 41)).alloc (.cells y.cells.toArray 41)) := ((Below.refl _ _).alloc (Nat.le_refl _) _).alloc (by simp) _
  obtain ⟨W1, hW⟩ : ∃ W1, W1 = ((w.alloc (.cells x.cells.toArray 41)).alloc (.cells y.cells.toArray 41)) := ⟨_, rfl⟩
  rw [← hW] at h1 h2 hB ⊢
  have hG1 := HG.out.below hB
  have hn1 : 1 < n := by rw [hn]; exact HG.out.2.2.2
  rw [← hn] at h1 h2 hB ⊢
  have HN := hide hn
  clear hW hn
  go_wp2_with fail
  refine (sworks_any _ hG1).mono ?_
  rintro e w2 ⟨rfl, hB2⟩
  have h12 : objAt w2 n = _ := below_at hB2 h1 (zlt h1)
  have h22 : objAt w2 (n + 1) = _ := below_at hB2 h2 (zlt h2)
  have hG2 := hG1.below hB2
  have hBB2 := hB.trans (hB2.mono (by have := zlt h1; omega))
  have hz2 := zlt h22
  clear h1 h2 hB hG1 hB2
  go_wp2_with ((with_reducible show wpList _ _ _ (⟨some 7, Op.alloc _, _, _, _, _⟩ :: _) _ _); refine Hid.out ?_)
  refine hide ?_
  refine zallocK rfl 41 rfl _ zzeroSe ?_
  intro w3 hg3 hw3 hs3
  obtain ⟨zb, hzb⟩ : ∃ zb, zb = w2.heap.size := ⟨_, rfl⟩
  rw [← hzb] at hg3 hs3 hz2 ⊢
  have h13 := (hw3.block n (zlt h12) (by simp)).trans h12
  have h23 := (hw3.block (n + 1) (zlt h22) (by simp)).trans h22
  have hG3 := hG2.below (below_grown (Below.refl _ _) hw3 (Nat.le_refl _) (by intro k e; cases e))
  have hBB3 := below_grown hBB2 hw3 (by omega) (by intro k e; cases e)
  clear h12 h22 hG2 hBB2 hw3 hzb
  go_wp2_with ((with_reducible show wpList _ _ _ (⟨none, Op.store _ _ _, _, _, _, _⟩ :: _) _ _); refine Hid.out ?_)
  refine hide ?_
  refine law_store rfl _ _ _ rfl zb x.cells.toArray rfl rfl _ _ hg3 sizeSealed rfl (seC_one _) ?_
  intro w5 hd5' hw5
  have hC : SaC n w x y zb x w5 := ⟨hG3.grown hw5 (by omega), (hw5.block n (zlt h13) (by simp; omega)).trans h13, (hw5.block (n + 1) (zlt h23) (by simp; omega)).trans h23, hd5'.out, below_grown hBB3 hw5 (by omega) (by intro k e; cases e; omega)⟩
  clear hd5' hw5 h13 h23 hG3 hBB3 hg3 hs3
  simp only [Act.put]
  go_upto_block 0 with (fail)
  have hm : (by_ : Int) % 4 = 0 ∨ (by_ : Int) % 4 = 1 ∨ (by_ : Int) % 4 = 2 ∨ (by_ : Int) % 4 = 3 := by omega
  obtain ⟨m, hme⟩ : ∃ m : Int, m = (by_ : Int) % 4 := ⟨_, rfl⟩
  rw [← hme] at hm ⊢
  clear hme
  go_cut [] from 16 to 48 (fun wc => ∃ z : Se, z.Ok ∧ (x = z ↔ by_ / 4 = 0) ∧ SaC n w x y zb z wc)
  case first =>
    have c0 : w5.cell? ⟨n, 0, none⟩ = some (.int .i64 x.r) := zcell hC.2.1 rfl
    have c1 : w5.cell? ⟨n, 1, none⟩ = some (.int .i64 x.c) := zcell hC.2.1 rfl
    have c2 : w5.cell? ⟨n, 2, none⟩ = some (.int .u64 x.b) := zcell hC.2.1 rfl
    have c3 : w5.cell? ⟨n, 3, none⟩ = some (.int .u64 x.n) := zcell hC.2.1 rfl
    rcases hm with rfl | rfl | rfl | rfl
    · go_wp2_with ((with_reducible show wpList _ _ _ (⟨none, Op.store _ _ _, _, _, _, _⟩ :: _) _ _); refine Hid.out ?_)
      refine hide ?_
      refine zstore rfl rfl 3 _ _ rfl (by kernel_rfl) zb 0 (.int .i64 (bits .xor .i64 x.r (by_ / 4))) rfl rfl rfl rfl x.cells.toArray _ hC.2.2.2.1 (by simp [Se.cells]) ?_
      intro w6 hz6 hw6
      rw [bits_I x.r by_, set_r] at hz6
      have hC6 := hC.upd (by omega) (by omega) hz6 hw6
      clear hz6 hw6 hC c0 c1 c2 c3
      go_wp2
      go_meet
      case rel =>
        refine ⟨⟨xorI x.r (by_ / 4), x.c, x.b, x.n⟩, ⟨xorI_range _ _, hx.2.1, hx.2.2.1, hx.2.2.2⟩, ?_, hC6⟩
        rw [← xorI_iff _ hx.1 (by_ / 4) (by omega)]
        exact ⟨fun h => by rw [Se.mk.injEq] at h; exact h.1.symm, fun h => by rw [h]⟩
    · go_wp2_with ((with_reducible show wpList _ _ _ (⟨none, Op.store _ _ _, _, _, _, _⟩ :: _) _ _); refine Hid.out ?_)
      refine hide ?_
      refine zstore rfl rfl 3 _ _ rfl (by kernel_rfl) zb 1 (.int .i64 (bits .xor .i64 x.c (by_ / 4))) rfl rfl rfl rfl x.cells.toArray _ hC.2.2.2.1 (by simp [Se.cells]) ?_
      intro w6 hz6 hw6
      rw [bits_I x.c by_, set_c] at hz6
      have hC6 := hC.upd (by omega) (by omega) hz6 hw6
      clear hz6 hw6 hC c0 c1 c2 c3
      go_wp2
      go_meet
      case rel =>
        refine ⟨⟨x.r, xorI x.c (by_ / 4), x.b, x.n⟩, ⟨hx.1, xorI_range _ _, hx.2.2.1, hx.2.2.2⟩, ?_, hC6⟩
        rw [← xorI_iff _ hx.2.1 (by_ / 4) (by omega)]
        exact ⟨fun h => by rw [Se.mk.injEq] at h; exact h.2.1.symm, fun h => by rw [h]⟩
    · go_wp2_with ((with_reducible show wpList _ _ _ (⟨none, Op.store _ _ _, _, _, _, _⟩ :: _) _ _); refine Hid.out ?_)
      refine hide ?_
      refine zstore rfl rfl 39 _ _ rfl (by kernel_rfl) zb 2 (.int .u64 (bits .xor .u64 x.b (by_ / 4))) rfl rfl rfl rfl x.cells.toArray _ hC.2.2.2.1 (by simp [Se.cells]) ?_
      intro w6 hz6 hw6
      rw [bits_U x.b by_, set_b] at hz6
      have hC6 := hC.upd (by omega) (by omega) hz6 hw6
      clear hz6 hw6 hC c0 c1 c2 c3
      go_wp2
      go_meet
      case rel =>
        refine ⟨⟨x.r, x.c, xorU x.b (by_ / 4), x.n⟩, ⟨hx.1, hx.2.1, xorU_range _ _, hx.2.2.2⟩, ?_, hC6⟩
        rw [← xorU_iff _ hx.2.2.1 (by_ / 4) (by omega)]
        exact ⟨fun h => by rw [Se.mk.injEq] at h; exact h.2.2.1.symm, fun h => by rw [h]⟩
    · go_wp2_with ((with_reducible show wpList _ _ _ (⟨none, Op.store _ _ _, _, _, _, _⟩ :: _) _ _); refine Hid.out ?_)
      refine hide ?_
      refine zstore rfl rfl 39 _ _ rfl (by kernel_rfl) zb 3 (.int .u64 (bits .xor .u64 x.n (by_ / 4))) rfl rfl rfl rfl x.cells.toArray _ hC.2.2.2.1 (by simp [Se.cells]) ?_
      intro w6 hz6 hw6
      rw [bits_U x.n by_, set_n] at hz6
      have hC6 := hC.upd (by omega) (by omega) hz6 hw6
      clear hz6 hw6 hC c0 c1 c2 c3
      go_wp2
      go_meet
      case rel =>
        refine ⟨⟨x.r, x.c, x.b, xorU x.n (by_ / 4)⟩, ⟨hx.1, hx.2.1, hx.2.2.1, xorU_range _ _⟩, ?_, hC6⟩
        rw [← xorU_iff _ hx.2.2.2 (by_ / 4) (by omega)]
        exact ⟨fun h => by rw [Se.mk.injEq] at h; exact h.2.2.2.symm, fun h => by rw [h]⟩
  case rest =>
    obtain ⟨z, hz, hxz, hCz⟩ := hcut
    have HXZ := hide hxz
    clear hxz hC
    go_upto_region 12 with (fail)
    refine zquiet (C := SaC n w x y zb z) (by kernel_rfl) (by kernel_rfl) hCz.drew ?_
    go_big_quiet_want; go_big_quiet_op; refine ⟨.agg x.cells.toArray, fun wq hq => ?_, ?_⟩
    · simp [go_sem, hq.2.1]
    go_big_quiet_on
    go_big_quiet_want; go_big_quiet_op; refine ⟨.string ⟨(seB x).toArray⟩, fun wq hq => (bytes_any wq x hx).mono fun e w' ⟨he, hb⟩ => ⟨he, hq.below hb⟩, ?_⟩
    go_big_quiet_on
    go_big_quiet_want; go_big_quiet_op; refine ⟨.agg y.cells.toArray, fun wq hq => ?_, ?_⟩
    · simp [go_sem, hq.2.2.1]
    go_big_quiet_on
    go_big_quiet_want; go_big_quiet_op; refine ⟨.string ⟨(seB y).toArray⟩, fun wq hq => (bytes_any wq y hy).mono fun e w' ⟨he, hb⟩ => ⟨he, hq.below hb⟩, ?_⟩
    go_big_quiet_on
    go_big_quiet_want; go_big_quiet_op; refine ⟨.agg z.cells.toArray, fun wq hq => ?_, ?_⟩
    · simp [go_sem, hq.2.2.2.1]
    go_big_quiet_on
    go_big_quiet_want; go_big_quiet_op; refine ⟨.string ⟨(seB z).toArray⟩, fun wq hq => (bytes_any wq z hz).mono fun e w' ⟨he, hb⟩ => ⟨he, hq.below hb⟩, ?_⟩
    go_big_quiet_on
    iterate 3 (go_big_quiet_want; go_big_quiet_op; first | go_big_quiet_on | (refine ⟨_, fun _ _ => rfl, ?_⟩; go_big_quiet_on))
    refine wpQuiet_nil ?_
    clear hCz
    intro wd hqd
    have hxy := bytes_eq x y hx hy
    have hxz := bytes_eq x z hx hz
    rw [HXZ.out] at hxz
    have s1 := seB_size x
    have s2 := seB_size y
    have s3 := seB_size z
    have hcut := seB_cut x
    generalize (⟨(seB x).toArray⟩ : ByteArray) = A at hxy hxz s1 hcut ⊢
    generalize (⟨(seB y).toArray⟩ : ByteArray) = B at hxy s2 ⊢
    generalize (⟨(seB z).toArray⟩ : ByteArray) = C at hxz s3 ⊢
    rw [← toList_iff] at hxy hxz
    have hc7 : (A.extract 0 7).toList = [99, 111, 110, 115, 105, 103, 110] := by rw [hcut, ByteArray.toList_eq]
    have d1 := hqd.2.1
    have d2 := hqd.2.2.1
    have hend := hqd.2.2.2.2
    by_cases e1 : x = y
    · by_cases e2 : by_ / 4 = 0
      · have f1 : A.toList = B.toList := by rw [hxy]; exact e1
        have f2 : A.toList = C.toList := by rw [hxz]; exact e2
        have f3 : (by_ : Int) / 4 = 0 := by omega
        rw [f1] at f2
        clear hxy hxz
        go_wp2
        go_ret
        exact ⟨by simp [f1, f2, f3], HN.out ▸ hend⟩
      · have f1 : A.toList = B.toList := by rw [hxy]; exact e1
        have f2 : (A.toList == C.toList) = false := by rw [beq_eq_false_iff_ne, Ne, hxz]; exact e2
        have f3 : ((by_ : Int) / 4 == 0) = false := by rw [beq_eq_false_iff_ne]; omega
        rw [f1] at f2
        clear hxy hxz
        go_wp2
        go_ret
        exact ⟨by simp [f1, f2, f3], HN.out ▸ hend⟩
    · by_cases e2 : by_ / 4 = 0
      · have f1 : (A.toList == B.toList) = false := by rw [beq_eq_false_iff_ne, Ne, hxy]; exact e1
        have f2 : A.toList = C.toList := by rw [hxz]; exact e2
        have f3 : (by_ : Int) / 4 = 0 := by omega
        rw [f2] at f1
        clear hxy hxz
        go_wp2
        go_ret
        exact ⟨by simp [f1, f2, f3], HN.out ▸ hend⟩
      · have f1 : (A.toList == B.toList) = false := by rw [beq_eq_false_iff_ne, Ne, hxy]; exact e1
        have f2 : (A.toList == C.toList) = false := by rw [beq_eq_false_iff_ne, Ne, hxz]; exact e2
        have f3 : ((by_ : Int) / 4 == 0) = false := by rw [beq_eq_false_iff_ne]; omega
        clear hxy hxz
        go_wp2
        go_ret
        exact ⟨by simp [f1, f2, f3], HN.out ▸ hend⟩
end Go.Proofs.YtpkgmoiffegbfaaDoor
