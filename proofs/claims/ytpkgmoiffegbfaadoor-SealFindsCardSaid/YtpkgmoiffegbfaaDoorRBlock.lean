/- The document's blocks: the walk through block. No condition but sizes. -/
import Derived.Test.YtpkgmoiffegbfaaDoorRPad
namespace Go.Proofs.YtpkgmoiffegbfaaDoor
open Go.RowKit Go.BigFrame
set_option maxRecDepth 100000
attribute [local go_sem] wI_div bitsW_or bitsW_xor bitsW_and
attribute [local go_sem 2000] binW_add binW_xor binW_and binW_or unW_xor

theorem rzeroW8 : (Tryd.prog.info? 59).map (·.zero) = some (some (.agg (ww (List.replicate 8 0)))) := by kernel_rfl
theorem rsizeW8 : (Tryd.prog.info? 59).map (·.size) = some 8 := by kernel_rfl
theorem s8_size (x : S8) : (ww x.list).size = 8 := rfl
set_option maxHeartbeats 8000000 in
theorem block_any (s : S8) (bs : List UInt8) (hbs : bs.length = 64) (g off c : Nat) (K : List W) (hK : K.length = 64) (kb kc : Nat) (w : World) (hg : g < w.heap.size) (hc : ∀ j u, (Lib.byteCells bs)[j]? = some u → w.cell? ⟨g, off + j, none⟩ = some u)
    (hkb : kb < w.heap.size) (hkc : ∀ (j : Nat) (n : W), K[j]? = some n → w.cell? ⟨kb, j, none⟩ = some (wv n)) :
    Calls Tryd.prog 34 #[.agg (ww s.list), .slice (some ⟨g, off, none⟩) 64 c, .slice (some ⟨kb, 0, none⟩) 64 kc] w fun e w' => e = .returned (.agg (ww (comp K s bs).list)) ∧ Below w.heap.size w w' := by
  have HC := hide hc
  have HKC := hide hkc
  clear hc hkc
  go_enter Tryd.func34, Tryd.ntmps34
  go_wp2_with ((with_reducible show wpList _ _ _ (⟨some 6, Op.alloc _, _, _, _, _⟩ :: _) _ _); refine Hid.out ?_)
  refine hide ?_
  refine zallocK rfl 59 rfl _ rzeroW8 ?_
  intro w2 hg2 hw2 hs2
  obtain ⟨N, hN⟩ : ∃ N, N = w.heap.size := ⟨_, rfl⟩
  have hn1 := new_at w (.cells (ww s.list) 59)
  have hz1 : (w.alloc (.cells (ww s.list) 59)).heap.size = N + 1 := by rw [World.size_alloc, hN]
  have hB1 : Below N w (w.alloc (.cells (ww s.list) 59)) := by rw [hN]; exact (Below.refl _ _).alloc (Nat.le_refl _) _
  rw [← hN] at hn1 hg hkb ⊢
  rw [hz1] at hg2 hs2 ⊢
  have hn2 := (hw2.block N (by omega) (by simp)).trans hn1
  have hB2 : Below N w w2 := below_grown hB1 hw2 (by omega) (by intro k e; cases e)
  have HN := hide hN
  clear hw2 hN hn1 hz1 hB1
  have hcw : ∀ j u, (Lib.byteCells bs)[j]? = some u → w2.cell? ⟨g, off + j, none⟩ = some u := fun j u h => (hB2.cell (p := ⟨g, off + j, none⟩) hg).trans (HC.out j u h)
  have HW := words_any bs hbs g off c w2 (by omega) hcw
  clear hcw
  unfold WordsP at HW
  have HWH := hide HW
  clear HW
  go_wp2_with fail
  refine HWH.out.mono ?_
  rintro e w3 ⟨v3, rfl, hO3, hB3⟩
  have hn3 := below_at hB3 hn2 (by omega)
  have hr3 := below_at hB3 hg2 (by omega)
  have hB3' : Below N w w3 := hB2.trans (hB3.mono (by omega))
  have hz3 : N + 2 ≤ w3.heap.size := by have := hB3.size; omega
  obtain ⟨M, hM⟩ : ∃ M, M = arr bs 64 := ⟨_, rfl⟩
  have hMl : M.length = 64 := by rw [hM]; exact arr_length bs 64 (by decide)
  rw [← hM] at hO3
  have HM := hide hM
  obtain ⟨ga, gc, rfl, hcl⟩ := hO3.any
  obtain ⟨gm, rfl, hgm0, hgm, _, hmc⟩ := hcl (by omega)
  rw [hMl]
  have HMC := hide hmc
  have HML := hide hMl
  clear hM hO3 hcl hmc hMl HWH hB3 hn2 hg2 hB2
  go_wp2_with ((with_reducible show wpList _ _ _ (⟨some 19, Op.load _ _, _, _, _, _⟩ :: _) _ _); refine Hid.out ?_)
  refine hide ?_
  refine wpList_load_row rfl 59 _ rfl N rfl _ (ww s.list) _ _ hn3 Tryd.underlying59 rfl rsizeW8 ?_
  go_wp2_with ((with_reducible show wpList _ _ _ (⟨some 8, Op.alloc _, _, _, _, _⟩ :: _) _ _); refine Hid.out ?_)
  refine hide ?_
  refine zallocK rfl 59 rfl _ rzeroW8 ?_
  intro w4 hg4 hw4 hs4
  obtain ⟨X, hX⟩ : ∃ X, X = w3.heap.size := ⟨_, rfl⟩
  rw [← hX] at hg4 hs4 hz3 hgm ⊢
  have hn4 := (hw4.block N (by omega) (by simp)).trans hn3
  have hr4 := (hw4.block (N + 1) (by omega) (by simp)).trans hr3
  have hB4 : Below N w w4 := below_grown hB3' hw4 (by omega) (by intro k e; cases e)
  have hm4 : ∀ (i : Nat) (n : W), M[i]? = some n → w4.cell? ⟨gm, i, none⟩ = some (wv n) := fun i n h => hw4.cell (HMC.out i n h) (by simp)
  have HX := hide hX
  have HM4 := hide hm4
  clear hw4 hX hm4 hn3 hr3 hB3' HMC
  go_wp2_with ((with_reducible show wpList _ _ _ (⟨none, Op.store _ _ _, _, _, _, _⟩ :: _) _ _); refine Hid.out ?_)
  refine hide ?_
  refine law_store rfl _ _ _ rfl X (ww s.list) rfl rfl _ _ hg4 rsizeW8 rfl (ww_one _) ?_
  intro w5 hg5' hw5
  have hg5 := hg5'.out
  have hn5 := (hw5.block N (by omega) (by simp; omega)).trans hn4
  have hr5 := (hw5.block (N + 1) (by omega) (by simp; omega)).trans hr4
  have hB5 : Below N w w5 := below_grown hB4 hw5 (by omega) (by intro k e; cases e; omega)
  have hm5 : ∀ (i : Nat) (n : W), M[i]? = some n → w5.cell? ⟨gm, i, none⟩ = some (wv n) := fun i n h => hw5.cell (HM4.out i n h) (by simp; omega)
  have hz5 : X < w5.heap.size := zlt hg5
  have HM5 := hide hm5
  have HB5 := hide (And.intro hn5 (And.intro hr5 hB5))
  have hBX : Below X w5 w5 := Below.refl X w5
  clear hw5 hg5' hm5 hg4 hn4 hr4 hB4 HM4 hs4 hn5 hr5 hB5 hs2
  go_wp2_with fail
  go_loopg [9] 64 (fun gm v wi => ∃ (t : Nat), t ≤ 64 ∧ gm = 64 - t ∧ v = .int .i64 (t : Int) ∧ wi.heap[X]? = some (.cells (ww (rounds8 K M s t).list) 59 (0, 0)) ∧ Below X w5 wi)
  case atStart => exact ⟨0, by omega, rfl, rfl, hg5, hBX⟩
  case round =>
    obtain ⟨t, ht, rfl, rfl, hx, hBl⟩ := hrel
    clear hg5 hBX
    have hz : X < wr.heap.size := zlt hx
    have hrs : t < 64 → rounds8 K M s (t + 1) = rnd (rounds8 K M s t) (K.getD t 0) (M.getD t 0) := fun _ => rfl
    obtain ⟨x, hxE⟩ : ∃ x, x = rounds8 K M s t := ⟨_, rfl⟩
    rw [← hxE] at hx hrs
    have HRS := hide hrs
    have HXE := hide hxE
    clear hrs hxE
    by_cases hlt : t < 64
    · have ht0 : (0 : Int) ≤ (t : Int) := by omega
      have htI : (t : Int) < 64 := by omega
      obtain ⟨kt, hkt⟩ : ∃ kt, kt = K.getD t 0 := ⟨_, rfl⟩
      obtain ⟨mt, hmt⟩ : ∃ mt, mt = M.getD t 0 := ⟨_, rfl⟩
      have ck : wr.cell? ⟨kb, t, none⟩ = some (.int .u32 (wI kt)) := (hBl.cell (p := ⟨kb, t, none⟩) (by show kb < X; omega)).trans ((HB5.out.2.2.cell (p := ⟨kb, t, none⟩) hkb).trans (HKC.out t kt (by rw [hkt, List.getD_eq_getElem?_getD, List.getElem?_eq_getElem (by omega)]; rfl)))
      have cm : wr.cell? ⟨gm, t, none⟩ = some (.int .u32 (wI mt)) := (hBl.cell (p := ⟨gm, t, none⟩) hgm).trans (HM5.out t mt (by rw [hmt, List.getD_eq_getElem?_getD, List.getElem?_eq_getElem (by rw [HML.out]; omega)]; rfl))
      have x0 : wr.cell? ⟨X, 0, none⟩ = some (.int .u32 (wI x.a)) := zcell hx rfl
      have x1 : wr.cell? ⟨X, 1, none⟩ = some (.int .u32 (wI x.b)) := zcell hx rfl
      have x2 : wr.cell? ⟨X, 2, none⟩ = some (.int .u32 (wI x.c)) := zcell hx rfl
      have x3 : wr.cell? ⟨X, 3, none⟩ = some (.int .u32 (wI x.d)) := zcell hx rfl
      have x4 : wr.cell? ⟨X, 4, none⟩ = some (.int .u32 (wI x.e)) := zcell hx rfl
      have x5 : wr.cell? ⟨X, 5, none⟩ = some (.int .u32 (wI x.f)) := zcell hx rfl
      have x6 : wr.cell? ⟨X, 6, none⟩ = some (.int .u32 (wI x.g)) := zcell hx rfl
      have x7 : wr.cell? ⟨X, 7, none⟩ = some (.int .u32 (wI x.h)) := zcell hx rfl
      rw [← hkt, ← hmt] at HRS
      clear hkt hmt
      go_upto_region 6 with (fail)
      refine zquiet (C := fun w' => w' = wr.drew) (by kernel_rfl) (by kernel_rfl) rfl ?_
      iterate 6 (go_big_quiet_want; go_big_quiet_op; first | go_big_quiet_on | (refine ⟨_, fun _ _ => rfl, ?_⟩; go_big_quiet_on))
      refine wpQuiet_nil ?_
      intro w6 hw6
      subst hw6
      go_upto_region 9 with (fail)
      rw [ch_doc, maj_doc]
      have HXC := hide hx
      clear hx
      refine zquiet (C := fun w' => w' = wr.drew.drew) (by kernel_rfl) (by kernel_rfl) rfl ?_
      iterate 3 (go_big_quiet_want; go_big_quiet_op; first | go_big_quiet_on | (refine ⟨_, fun _ _ => rfl, ?_⟩; go_big_quiet_on))
      go_big_quiet_want; go_big_quiet_op; refine ⟨.int .u32 (wI (rotr x.e 6)), (rrotr_any x.e 6 (by decide) (by decide) _).mono fun e w' ⟨he, hw⟩ => ⟨he, hw.symm⟩, ?_⟩
      go_big_quiet_on
      iterate 1 (go_big_quiet_want; go_big_quiet_op; first | go_big_quiet_on | (refine ⟨_, fun _ _ => rfl, ?_⟩; go_big_quiet_on))
      go_big_quiet_want; go_big_quiet_op; refine ⟨.int .u32 (wI (rotr x.e 11)), (rrotr_any x.e 11 (by decide) (by decide) _).mono fun e w' ⟨he, hw⟩ => ⟨he, hw.symm⟩, ?_⟩
      go_big_quiet_on
      iterate 2 (go_big_quiet_want; go_big_quiet_op; first | go_big_quiet_on | (refine ⟨_, fun _ _ => rfl, ?_⟩; go_big_quiet_on))
      go_big_quiet_want; go_big_quiet_op; refine ⟨.int .u32 (wI (rotr x.e 25)), (rrotr_any x.e 25 (by decide) (by decide) _).mono fun e w' ⟨he, hw⟩ => ⟨he, hw.symm⟩, ?_⟩
      go_big_quiet_on
      iterate 15 (go_big_quiet_want; go_big_quiet_op; first | go_big_quiet_on | (refine ⟨_, fun _ _ => rfl, ?_⟩; go_big_quiet_on))
      refine wpQuiet_nil ?_
      intro w7 hw7
      subst hw7
      clear ck cm x7
      go_wp2_with fail
      refine (rrotr_any x.a 2 (by decide) (by decide) _).mono ?_
      rintro e w8 ⟨rfl, rfl⟩
      go_wp2_with fail
      refine (rrotr_any x.a 13 (by decide) (by decide) _).mono ?_
      rintro e w8 ⟨rfl, rfl⟩
      go_wp2_with fail
      refine (rrotr_any x.a 22 (by decide) (by decide) _).mono ?_
      rintro e w8 ⟨rfl, rfl⟩
      go_wp2_with ((with_reducible show wpList _ _ _ (⟨none, Op.store _ _ _, _, _, _, _⟩ :: _) _ _); refine Hid.out ?_)
      refine hide ?_
      refine law_store rfl _ _ _ rfl X (ww (rnd x kt mt).list) rfl rfl _ (ww x.list) HXC.out rsizeW8 rfl (ww_one _) ?_
      intro w9 hg9 hw9
      have hB9 : Below X w5 w9 := below_grown (hBl.drew.drew) hw9 (by show X ≤ wr.heap.size; omega) (by intro k e; cases e; exact Nat.le_refl _)
      clear x0 x1 x2 x3 x4 x5 x6 hw9 hBl HXC
      go_wp2
      go_roundg (64 - (t + 1))
      case measure => omega
      case rel => exact ⟨t + 1, by omega, rfl, by go_num, by rw [HRS.out hlt]; exact hg9.out, hB9⟩
    · obtain rfl : t = 64 := by omega
      have hn6 := below_at hBl HB5.out.1 (by omega)
      have hr6 := below_at hBl HB5.out.2.1 (by omega)
      have hB6 : Below N w wr := HB5.out.2.2.trans (hBl.mono (by omega))
      have hu0 : wr.heap[N]? = some (.cells (ww (upto s x 0)) 59 (0, 0)) := by rw [upto_zero]; exact hn6
      have hgr : wr.grownBy wr (some N) := ⟨rfl, rfl, rfl, Nat.le_refl _, fun _ _ _ => rfl⟩
      obtain ⟨wk, hwk⟩ : ∃ wk, wk = wr := ⟨_, rfl⟩
      rw [← hwk] at hB6 hx hr6
      have hgk : wk.grownBy wr (some N) := by rw [hwk]; exact hgr
      have HB6 := hide (And.intro hB6 (And.intro hx hr6))
      have hzk : X < wk.heap.size := by rw [hwk]; exact hz
      clear hwk hgr hn6 hr6 hB6 hx hBl
      go_wp2_with fail
      go_loopg [16] 8 (fun gm v wi => ∃ (i : Nat), i ≤ 8 ∧ gm = 8 - i ∧ v = .int .i64 (i : Int) ∧ wi.heap[N]? = some (.cells (ww (upto s x i)) 59 (0, 0)) ∧ wk.grownBy wi (some N))
      case atStart => exact ⟨0, by omega, rfl, rfl, hu0, hgk⟩
      case round =>
        obtain ⟨i, hi, rfl, rfl, hu, hgr⟩ := hrel
        clear hu0 hgk
        by_cases hlt : i < 8
        · have hi0 : (0 : Int) ≤ (i : Int) := by omega
          have hiI : (i : Int) < 8 := by omega
          obtain ⟨si, hsi⟩ : ∃ si, si = s.list.getD i 0 := ⟨_, rfl⟩
          obtain ⟨xi, hxi⟩ : ∃ xi, xi = x.list.getD i 0 := ⟨_, rfl⟩
          have hup := upto_set s x i hlt
          rw [← hsi, ← hxi] at hup
          have cs : wr.cell? ⟨N, i, none⟩ = some (.int .u32 (wI si)) := zcell hu (by rw [ww_at, upto_at s x i hlt, ← hsi]; rfl)
          have cx : wr.cell? ⟨X, i, none⟩ = some (.int .u32 (wI xi)) := (hgr.cell (zcell HB6.out.2.1 (by rw [ww_at, hxi, List.getElem?_eq_getElem (by show i < 8; exact hlt), List.getD_eq_getElem?_getD, List.getElem?_eq_getElem (by show i < 8; exact hlt)]; rfl)) (by simp; omega))
          have HUP := hide hup
          have HU := hide hu
          clear hup hsi hxi hu
          go_upto_region 15 with (fail)
          refine ztail 9 (by kernel_rfl) (by kernel_rfl) ?_
          simp only [List.take_succ_cons, List.take_zero, List.drop_succ_cons, List.drop_zero]
          iterate 9 (go_big_quiet_want; go_big_quiet_op; first | go_big_quiet_on | (refine ⟨_, fun _ _ => rfl, ?_⟩; go_big_quiet_on))
          refine wpQuiet_nil ?_
          refine zstore rfl rfl _ _ _ rfl sizeU32 N i (.int .u32 (wI (si + xi))) rfl rfl rfl rfl _ _ (w := wr.drew) HU.out (by rw [ww_size, upto_length s x i hi]; exact hlt) ?_
          intro w11 g11 hw11
          rw [ww_set, HUP.out] at g11
          have G11 : wk.grownBy w11 (some N) := ⟨hw11.os.trans hgr.os, hw11.tape.trans hgr.tape, hw11.output.trans hgr.output, Nat.le_trans hgr.size hw11.size, fun k hk hne => (hw11.block k (Nat.lt_of_lt_of_le hk hgr.size) hne).trans (hgr.block k hk hne)⟩
          clear hgr cs cx hw11 HU HUP
          go_wp2
          go_roundg (8 - (i + 1))
          case measure => omega
          case rel => exact ⟨i + 1, by omega, rfl, by go_num, g11, G11⟩
        · obtain rfl : i = 8 := by omega
          rw [upto_eight] at hu
          have hr12 := (hgr.block (N + 1) (by omega) (by simp)).trans HB6.out.2.2
          have hB12 : Below N w wr := below_grown HB6.out.1 hgr (by omega) (by intro k e; cases e; exact Nat.le_refl _)
          have hfin : s.add x = comp K s bs := by rw [comp, ← HM.out, HXE.out]
          rw [hfin] at hu
          go_wp2_with ((with_reducible show wpList _ _ _ (⟨some 119, Op.load _ _, _, _, _, _⟩ :: _) _ _); refine Hid.out ?_)
          refine hide ?_
          refine wpList_load_row rfl 59 _ rfl N rfl _ (ww (comp K s bs).list) _ _ hu Tryd.underlying59 rfl rsizeW8 ?_
          go_wp2_with ((with_reducible show wpList _ _ _ (⟨none, Op.store _ _ _, _, _, _, _⟩ :: _) _ _); refine Hid.out ?_)
          refine hide ?_
          refine law_store rfl _ _ _ rfl (N + 1) (ww (comp K s bs).list) rfl rfl _ _ hr12 rsizeW8 rfl (ww_one _) ?_
          intro w13 hg13 hw13
          have hB13 : Below N w w13 := below_grown hB12 hw13 (by have := hgr.size; omega) (by intro k e; cases e; omega)
          go_wp2
          refine bodyPost_ret (results_cell_row rfl _ _ (N + 1) _ _ _ _ rfl hg13.out Tryd.underlying59 rfl rsizeW8) rfl ⟨rfl, ?_⟩
          rw [← HN.out]
          exact hB13
end Go.Proofs.YtpkgmoiffegbfaaDoor
