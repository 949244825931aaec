/- ShaOwn: the walk. Condition: what the two variables hold. -/
import Derived.Test.YtpkgmoiffegbfaaDoorZCmp
namespace Go.Proofs.YtpkgmoiffegbfaaDoor
open Go.RowKit Go.BigFrame
set_option maxRecDepth 100000
attribute [local go_sem ↓] exec_loadZ exec_eqlZ exec_neqZ exec_zeroZ
attribute [local go_sem] loadRow eqRow digEq_dg isDig_dg objAt_drew

/-- What stays while sums are asked. -/
def OwnC (N : Nat) (w0 : World) (n1 n2 n3 hb kb : Nat) (D1 D2 D3 : List UInt8) (th tk : List UInt8) (w : World) : Prop :=
  w.heap[n1]? = some (.cells (dg D1) 28 (0, 0)) ∧ w.heap[n2]? = some (.cells (dg D2) 28 (0, 0)) ∧ w.heap[n3]? = some (.cells (dg D3) 28 (0, 0)) ∧
    IsHash w hb K64 F0 th ∧ IsHash w kb K64 F0 tk ∧ Glob F0 K64 w ∧ Below N w0 w ∧ N ≤ w.heap.size
theorem OwnC.below {N : Nat} {w0 : World} {n1 n2 n3 hb kb : Nat} {D1 D2 D3 th tk : List UInt8} {w w' : World} (h : OwnC N w0 n1 n2 n3 hb kb D1 D2 D3 th tk w) (hb' : Below w.heap.size w w') : OwnC N w0 n1 n2 n3 hb kb D1 D2 D3 th tk w' := by
  obtain ⟨h1, h2, h3, h4, h5, h6, h7, h8⟩ := h
  exact ⟨below_at hb' h1 (zlt h1), below_at hb' h2 (zlt h2), below_at hb' h3 (zlt h3), h4.below hb', h5.below hb', h6.below hb', h7.trans (hb'.mono h8), Nat.le_trans h8 hb'.size⟩
theorem cut_size (s : ByteArray) (n m : Nat) (hm : m = min s.size n) : (s.extract 0 m).size = m := by rw [ByteArray.size_extract]; omega

set_option maxHeartbeats 8000000 in
theorem zown_any (a b c : ByteArray) (w : World) (hG : Glob F0 K64 w) : Calls Tryd.prog 4 #[.string a, .string b, .string c] w fun e w' => e = .returned (.bool true) ∧ Below w.heap.size w w' := by
  have HG := hide hG
  clear hG
  obtain ⟨ma, hma⟩ : ∃ m, m = min a.size 200 := ⟨_, rfl⟩
  obtain ⟨mb, hmb⟩ : ∃ m, m = min b.size 200 := ⟨_, rfl⟩
  obtain ⟨mc, hmc⟩ : ∃ m, m = min c.size 200 := ⟨_, rfl⟩
  have HA := hide hma
  have HB := hide hmb
  have HC := hide hmc
  have ha1 : (ma : Int) ≤ (a.size : Int) := by omega
  have hb1 : (mb : Int) ≤ (b.size : Int) := by omega
  have hc1 : (mc : Int) ≤ (c.size : Int) := by omega
  have ha2 : (if (200 : Int) < (a.size : Int) then (200 : Int) else (a.size : Int)) = (ma : Int) := by split <;> omega
  have hb2 : (if (200 : Int) < (b.size : Int) then (200 : Int) else (b.size : Int)) = (mb : Int) := by split <;> omega
  have hc2 : (if (200 : Int) < (c.size : Int) then (200 : Int) else (c.size : Int)) = (mc : Int) := by split <;> omega
  have H2 := hide (And.intro ha2 (And.intro hb2 hc2))
  clear hma hmb hmc ha2 hb2 hc2
  go_enter Tryd.func4, Tryd.ntmps4
  go_wp2_with fail
  refine (zworks_any _ HG.out).mono ?_
  rintro e w2 ⟨rfl, hB2⟩
  have hG2 := HG.out.below hB2
  have hz2 := hB2.size
  obtain ⟨N, hN⟩ : ∃ N, N = w.heap.size := ⟨_, rfl⟩
  rw [← hN] at hB2 hz2
  have HN := hide hN
  clear hN
  go_upto_region 3 with (fail)
  go_cut [0, 1, 2] from 14 to 28 (fun v0 v1 v2 wc => v0 = .string (a.extract 0 ma) ∧ v1 = .string (b.extract 0 mb) ∧ v2 = .string (c.extract 0 mc) ∧ wc = w2.drew)
  case first =>
    refine zquiet (C := fun w' => w' = w2.drew) (by kernel_rfl) (by kernel_rfl) rfl ?_
    obtain ⟨ha2, hb2, hc2⟩ := H2.out
    iterate 3 (go_big_quiet_want; go_big_quiet_op; first | go_big_quiet_on | (refine ⟨_, fun _ _ => rfl, ?_⟩; go_big_quiet_on))
    go_big_quiet_want; go_big_quiet_op; first | go_big_quiet_on | (simp only [ha2]; go_big_quiet_on) | (refine ⟨.int .i64 (ma : Int), fun wq hq => by subst hq; simp [ha2], ?_⟩; go_big_quiet_on)
    go_big_quiet_want; go_big_quiet_op; first | go_big_quiet_on | (refine ⟨.string (a.extract 0 ma), fun wq hq => by subst hq; simp [go_sem], ?_⟩; go_big_quiet_on)
    iterate 3 (go_big_quiet_want; go_big_quiet_op; first | go_big_quiet_on | (refine ⟨_, fun _ _ => rfl, ?_⟩; go_big_quiet_on))
    go_big_quiet_want; go_big_quiet_op; first | go_big_quiet_on | (simp only [hb2]; go_big_quiet_on) | (refine ⟨.int .i64 (mb : Int), fun wq hq => by subst hq; simp [hb2], ?_⟩; go_big_quiet_on)
    go_big_quiet_want; go_big_quiet_op; first | go_big_quiet_on | (refine ⟨.string (b.extract 0 mb), fun wq hq => by subst hq; simp [go_sem], ?_⟩; go_big_quiet_on)
    iterate 3 (go_big_quiet_want; go_big_quiet_op; first | go_big_quiet_on | (refine ⟨_, fun _ _ => rfl, ?_⟩; go_big_quiet_on))
    go_big_quiet_want; go_big_quiet_op; first | go_big_quiet_on | (simp only [hc2]; go_big_quiet_on) | (refine ⟨.int .i64 (mc : Int), fun wq hq => by subst hq; simp [hc2], ?_⟩; go_big_quiet_on)
    go_big_quiet_want; go_big_quiet_op; first | go_big_quiet_on | (refine ⟨.string (c.extract 0 mc), fun wq hq => by subst hq; simp [go_sem], ?_⟩; go_big_quiet_on)
    iterate 3 (go_big_quiet_want; go_big_quiet_op; first | go_big_quiet_on | (refine ⟨_, fun _ _ => rfl, ?_⟩; go_big_quiet_on))
    refine wpQuiet_nil ?_
    intro w3 hw3
    subst hw3
    go_wp2
    go_meet
    case rel => exact ⟨rfl, rfl, rfl, rfl⟩
  case rest =>
    obtain ⟨rfl, rfl, rfl, rfl⟩ := hcut
    have hG3 := hG2.drew
    have hB3 := hB2.drew
    obtain ⟨w3, hw3⟩ : ∃ w3, w3 = w2.drew := ⟨_, rfl⟩
    have hz3 : N ≤ w3.heap.size := by rw [hw3]; exact hz2
    rw [← hw3] at hG3 hB3 ⊢
    clear hw3 hG2 hB2 hz2 H2
    have sa := cut_size a 200 ma HA.out
    have sb := cut_size b 200 mb HB.out
    have sc := cut_size c 200 mc HC.out
    obtain ⟨a', ha'⟩ : ∃ a', a' = a.extract 0 ma := ⟨_, rfl⟩
    obtain ⟨b', hb'⟩ : ∃ b', b' = b.extract 0 mb := ⟨_, rfl⟩
    obtain ⟨c', hc'⟩ : ∃ c', c' = c.extract 0 mc := ⟨_, rfl⟩
    have hsa : a'.size ≤ 200 := by have := HA.out; rw [ha', sa]; omega
    have hsb : b'.size ≤ 200 := by have := HB.out; rw [hb', sb]; omega
    have hsc : c'.size ≤ 200 := by have := HC.out; rw [hc', sc]; omega
    rw [← ha', ← hb', ← hc']
    clear ha' hb' hc' sa sb sc ha1 hb1 hc1
    have la : a'.data.toList.length = a'.size := rfl
    have lb : b'.data.toList.length = b'.size := rfl
    have lc : c'.data.toList.length = c'.size := rfl
    have HL := hide (And.intro la (And.intro lb lc))
    clear la lb lc
    go_wp2_with fail
    refine (hash_new _ K64 F0 hG3).mono ?_
    rintro e w4 ⟨rfl, hh4, hB4⟩
    have hG4 := hG3.below hB4
    have hB4' := hB3.trans (hB4.mono hz3)
    have hz4 := zlt hh4.2
    obtain ⟨hb, hhb⟩ : ∃ hb, hb = w3.heap.size := ⟨_, rfl⟩
    rw [← hhb] at hh4 hz4 hz3 ⊢
    clear hhb hB4 hG3 hB3
    go_wp2_with fail
    refine (hash_write w4 hb K64 F0 [] a' hG4 hh4 (by omega) (by simp)).mono ?_
    rintro e w5 ⟨rfl, hh5, hg5⟩
    rw [List.nil_append] at hh5
    have hG5 := hG4.grown hg5 hh4.1
    have hB5 := below_grown hB4' hg5 (by omega) (by intro k e; cases e; omega)
    have hz5 := zlt hh5.2
    clear hG4 hh4 hB4' hg5 hz4
    go_wp2_with fail
    refine (hash_copy w5 hb K64 F0 _ hh5 hG5.2.2.2).mono ?_
    rintro e w6 ⟨rfl, hk6, hB6⟩
    have hG6 := hG5.below hB6
    have hh6 := hh5.below hB6
    have hB6' := hB5.trans (hB6.mono (by omega))
    have hz6 := zlt hk6.2
    obtain ⟨kb, hkb⟩ : ∃ kb, kb = w5.heap.size := ⟨_, rfl⟩
    rw [← hkb] at hk6 hz6 hz5 ⊢
    clear hkb hB6 hG5 hh5 hB5
    go_wp2_with fail
    refine (hash_digest w6 hb K64 F0 _ hG6 hh6 (by have := HL.out; omega)).mono ?_
    rintro e w7 ⟨rfl, hB7⟩
    have hG7 := hG6.below hB7
    have hh7 := hh6.below hB7
    have hk7 := hk6.below hB7
    have hB7' := hB6'.trans (hB7.mono (by omega))
    have hz7 : kb < w7.heap.size := zlt hk7.2
    have hl1 := sha_length K64 F0 a'.data.toList
    obtain ⟨D1, hD1⟩ : ∃ D, D = shaOf K64 F0 a'.data.toList := ⟨_, rfl⟩
    rw [← hD1] at hl1 ⊢
    have HD1 := hide hD1
    clear hG6 hh6 hk6 hB7 hB6' hD1 hz6
    go_wp2_with ((with_reducible show wpList _ _ _ (⟨some 9, Op.alloc _, _, _, _, _⟩ :: _) _ _); refine Hid.out ?_)
    refine hide ?_
    refine zallocK rfl 28 rfl _ zzeroDig ?_
    intro w8 hn8 hw8 hs8
    have hG8 := hG7.below (below_grown (Below.refl _ _) hw8 (Nat.le_refl _) (by intro k e; cases e))
    have hh8 : IsHash w8 hb K64 F0 a'.data.toList := hh7.below (below_grown (Below.refl _ _) hw8 (Nat.le_refl _) (by intro k e; cases e))
    have hk8 : IsHash w8 kb K64 F0 a'.data.toList := hk7.below (below_grown (Below.refl _ _) hw8 (Nat.le_refl _) (by intro k e; cases e))
    have hB8 : Below N w w8 := below_grown hB7' hw8 (by omega) (by intro k e; cases e)
    obtain ⟨n1, hn1⟩ : ∃ n1, n1 = w7.heap.size := ⟨_, rfl⟩
    rw [← hn1] at hn8 hz7 ⊢
    have hz8 : n1 < w8.heap.size := zlt hn8
    clear hn1 hw8 hs8 hG7 hh7 hk7 hB7'
    go_wp2_with ((with_reducible show wpList _ _ _ (⟨none, Op.store _ _ _, _, _, _, _⟩ :: _) _ _); refine Hid.out ?_)
    refine hide ?_
    refine law_store rfl _ _ _ rfl n1 (dg D1) rfl rfl _ _ hn8 (by rw [dg_size, hl1]; exact zsizeDig) (by rw [dg_size, dg_size, hl1]; rfl) (dg_one _) ?_
    intro w9 hn9' hw9
    have hn9 := hn9'.out
    have hG9 := hG8.grown hw9 (by have := hk8.1; omega)
    have hh9 := hh8.grown hw9 (by omega)
    have hk9 := hk8.grown hw9 (by omega)
    have hB9 := below_grown hB8 hw9 (by omega) (by intro k e; cases e; omega)
    have hz9 := zlt hn9
    clear hn9' hw9 hn8 hG8 hh8 hk8 hB8 hz8
    go_wp2_with fail
    refine (hash_write w9 hb K64 F0 _ b' hG9 hh9 (by omega) (by have := HL.out; omega)).mono ?_
    rintro e w10 ⟨rfl, hh10, hg10⟩
    have hG10 := hG9.grown hg10 hh9.1
    have hk10 := hk9.grown hg10 (by omega)
    have hn10 := (hg10.block n1 hz9 (by simp; omega)).trans hn9
    have hB10 := below_grown hB9 hg10 (by omega) (by intro k e; cases e; omega)
    have hz10 := zlt hn10
    clear hG9 hh9 hk9 hn9 hB9 hg10 hz9
    go_wp2_with fail
    refine (hash_write w10 kb K64 F0 _ c' hG10 hk10 (by omega) (by have := HL.out; omega)).mono ?_
    rintro e w11 ⟨rfl, hk11, hg11⟩
    have hG11 := hG10.grown hg11 hk10.1
    have hh11 := hh10.grown hg11 (by omega)
    have hn11 := (hg11.block n1 hz10 (by simp; omega)).trans hn10
    have hB11 := below_grown hB10 hg11 (by omega) (by intro k e; cases e; omega)
    have hz11 := zlt hn11
    clear hG10 hh10 hk10 hn10 hB10 hg11 hz10
    go_wp2_with fail
    refine (hash_digest w11 hb K64 F0 _ hG11 hh11 (by have := HL.out; rw [List.length_append]; omega)).mono ?_
    rintro e w12 ⟨rfl, hB12⟩
    have hG12 := hG11.below hB12
    have hh12 := hh11.below hB12
    have hk12 := hk11.below hB12
    have hn12 := below_at hB12 hn11 hz11
    have hB12' := hB11.trans (hB12.mono (by omega))
    have hz12 := zlt hn12
    have hl2 := sha_length K64 F0 (a'.data.toList ++ b'.data.toList)
    obtain ⟨D2, hD2⟩ : ∃ D, D = shaOf K64 F0 (a'.data.toList ++ b'.data.toList) := ⟨_, rfl⟩
    rw [← hD2] at hl2 ⊢
    have HD2 := hide hD2
    clear hG11 hh11 hk11 hn11 hB12 hB11 hD2 hz11
    go_wp2_with fail
    refine (hash_digest w12 kb K64 F0 _ hG12 hk12 (by have := HL.out; rw [List.length_append]; omega)).mono ?_
    rintro e w13 ⟨rfl, hB13⟩
    have hG13 := hG12.below hB13
    have hh13 := hh12.below hB13
    have hk13 := hk12.below hB13
    have hn13 := below_at hB13 hn12 hz12
    have hB13' := hB12'.trans (hB13.mono (by omega))
    have hz13 := zlt hn13
    have hl3 := sha_length K64 F0 (a'.data.toList ++ c'.data.toList)
    obtain ⟨D3, hD3⟩ : ∃ D, D = shaOf K64 F0 (a'.data.toList ++ c'.data.toList) := ⟨_, rfl⟩
    rw [← hD3] at hl3 ⊢
    have HD3 := hide hD3
    clear hG12 hh12 hk12 hn12 hB13 hB12' hD3 hz12
    go_wp2_with ((with_reducible show wpList _ _ _ (⟨some 10, Op.alloc _, _, _, _, _⟩ :: _) _ _); refine Hid.out ?_)
    refine hide ?_
    refine zallocK rfl 28 rfl _ zzeroDig ?_
    intro w14 hp14 hw14 hs14
    have hb14 := below_grown (Below.refl w13.heap.size w13) hw14 (Nat.le_refl _) (by intro k e; cases e)
    have hG14 := hG13.below hb14
    have hh14 := hh13.below hb14
    have hk14 := hk13.below hb14
    have hn14 := below_at hb14 hn13 hz13
    have hB14 := hB13'.trans (hb14.mono (by omega))
    obtain ⟨n2, hn2⟩ : ∃ n2, n2 = w13.heap.size := ⟨_, rfl⟩
    rw [← hn2] at hp14 hz13 hs14 ⊢
    clear hn2 hw14 hG13 hh13 hk13 hn13 hB13' hb14
    have hz14 : n2 < w14.heap.size := by omega
    clear hs14
    go_wp2_with ((with_reducible show wpList _ _ _ (⟨some 11, Op.alloc _, _, _, _, _⟩ :: _) _ _); refine Hid.out ?_)
    refine hide ?_
    refine zallocK rfl 28 rfl _ zzeroDig ?_
    intro w15 hq15 hw15 hs15
    have hb15 := below_grown (Below.refl w14.heap.size w14) hw15 (Nat.le_refl _) (by intro k e; cases e)
    have hG15 := hG14.below hb15
    have hh15 := hh14.below hb15
    have hk15 := hk14.below hb15
    have hn15 := below_at hb15 hn14 (by omega)
    have hp15 := below_at hb15 hp14 hz14
    have hB15 := hB14.trans (hb15.mono (by omega))
    obtain ⟨n3, hn3⟩ : ∃ n3, n3 = w14.heap.size := ⟨_, rfl⟩
    rw [← hn3] at hq15 hz14 hs15 ⊢
    clear hn3 hw15 hG14 hh14 hk14 hn14 hp14 hB14 hb15
    have hz15 : n3 < w15.heap.size := by omega
    clear hs15
    go_wp2_with ((with_reducible show wpList _ _ _ (⟨none, Op.store _ _ _, _, _, _, _⟩ :: _) _ _); refine Hid.out ?_)
    refine hide ?_
    refine law_store rfl _ _ _ rfl n2 (dg D2) rfl rfl _ _ hp15 (by rw [dg_size, hl2]; exact zsizeDig) (by rw [dg_size, dg_size, hl2]; rfl) (dg_one _) ?_
    intro w16 hp16' hw16
    have hp16 := hp16'.out
    have hG16 := hG15.grown hw16 (by have := hk15.1; omega)
    have hh16 := hh15.grown hw16 (by omega)
    have hk16 := hk15.grown hw16 (by omega)
    have hn16 := (hw16.block n1 (by omega) (by simp; omega)).trans hn15
    have hq16 := (hw16.block n3 hz15 (by simp; omega)).trans hq15
    have hB16 := below_grown hB15 hw16 (by omega) (by intro k e; cases e; omega)
    have hz16 := zlt hq16
    clear hp16' hw16 hG15 hh15 hk15 hn15 hp15 hq15 hB15 hz15
    go_wp2_with ((with_reducible show wpList _ _ _ (⟨none, Op.store _ _ _, _, _, _, _⟩ :: _) _ _); refine Hid.out ?_)
    refine hide ?_
    refine law_store rfl _ _ _ rfl n3 (dg D3) rfl rfl _ _ hq16 (by rw [dg_size, hl3]; exact zsizeDig) (by rw [dg_size, dg_size, hl3]; rfl) (dg_one _) ?_
    intro w17 hq17' hw17
    simp only [Act.put]
    have hcls : OwnC N w n1 n2 n3 hb kb D1 D2 D3 (a'.data.toList ++ b'.data.toList) (a'.data.toList ++ c'.data.toList) w17.drew :=
      ⟨(hw17.block n1 (by omega) (by simp; omega)).trans hn16, (hw17.block n2 (by omega) (by simp; omega)).trans hp16, hq17'.out, (hh16.grown hw17 (by omega) : IsHash w17 hb K64 F0 _), (hk16.grown hw17 (by omega) : IsHash w17 kb K64 F0 _), (hG16.grown hw17 (by have := hk16.1; omega) : Glob F0 K64 w17), (below_grown hB16 hw17 (by omega) (by intro k e; cases e; omega)).drew, Nat.le_trans (by omega) hw17.size⟩
    clear hq17' hw17 hG16 hh16 hk16 hn16 hp16 hq16 hB16 hz16
    go_upto_region 15 with (fail)
    refine zquiet (C := OwnC N w n1 n2 n3 hb kb D1 D2 D3 (a'.data.toList ++ b'.data.toList) (a'.data.toList ++ c'.data.toList)) (by kernel_rfl) (by kernel_rfl) hcls ?_
    go_big_quiet_want; go_big_quiet_op; refine ⟨.agg (dg D1), fun wq hq => ?_, ?_⟩
    · have q1 : objAt wq n1 = some (.cells (dg D1) 28 (0, 0)) := hq.1
      simp [q1, dg_size, hl1]
    go_big_quiet_on
    iterate 1 (go_big_quiet_want; go_big_quiet_op; first | go_big_quiet_on | (refine ⟨_, fun _ _ => rfl, ?_⟩; go_big_quiet_on))
    go_big_quiet_want; go_big_quiet_op; refine ⟨.agg (dg D1), fun wq hq => (hash_sum wq K64 F0 a' hq.2.2.2.2.2.1 (by omega)).mono fun e w' ⟨he, hb⟩ => ⟨by rw [he, HD1.out], hq.below hb⟩, ?_⟩
    go_big_quiet_on
    go_big_quiet_want; go_big_quiet_op; refine ⟨.bool true, fun wq hq => ?_, ?_⟩
    · simp [hl1]
    go_big_quiet_on
    iterate 1 (go_big_quiet_want; go_big_quiet_op; first | go_big_quiet_on | (refine ⟨_, fun _ _ => rfl, ?_⟩; go_big_quiet_on))
    go_big_quiet_want; go_big_quiet_op; refine ⟨.agg (dg D2), fun wq hq => ?_, ?_⟩
    · have q1 : objAt wq n2 = some (.cells (dg D2) 28 (0, 0)) := hq.2.1
      simp [q1, dg_size, hl2]
    go_big_quiet_on
    iterate 3 (go_big_quiet_want; go_big_quiet_op; first | go_big_quiet_on | (refine ⟨_, fun _ _ => rfl, ?_⟩; go_big_quiet_on))
    go_big_quiet_want; go_big_quiet_op; refine ⟨.agg (dg D2), fun wq hq => (hash_sum wq K64 F0 (a' ++ b') hq.2.2.2.2.2.1 (by rw [ByteArray.size_append]; omega)).mono fun e w' ⟨he, hb⟩ => ⟨by rw [he, HD2.out, ByteArray.data_append, Array.toList_append], hq.below hb⟩, ?_⟩
    go_big_quiet_on
    go_big_quiet_want; go_big_quiet_op; refine ⟨.bool true, fun wq hq => ?_, ?_⟩
    · simp [hl2]
    go_big_quiet_on
    iterate 2 (go_big_quiet_want; go_big_quiet_op; first | go_big_quiet_on | (refine ⟨_, fun _ _ => rfl, ?_⟩; go_big_quiet_on))
    go_big_quiet_want; go_big_quiet_op; refine ⟨.agg (dg D3), fun wq hq => ?_, ?_⟩
    · have q1 : objAt wq n3 = some (.cells (dg D3) 28 (0, 0)) := hq.2.2.1
      simp [q1, dg_size, hl3]
    go_big_quiet_on
    iterate 3 (go_big_quiet_want; go_big_quiet_op; first | go_big_quiet_on | (refine ⟨_, fun _ _ => rfl, ?_⟩; go_big_quiet_on))
    go_big_quiet_want; go_big_quiet_op; refine ⟨.agg (dg D3), fun wq hq => (hash_sum wq K64 F0 (a' ++ c') hq.2.2.2.2.2.1 (by rw [ByteArray.size_append]; omega)).mono fun e w' ⟨he, hb⟩ => ⟨by rw [he, HD3.out, ByteArray.data_append, Array.toList_append], hq.below hb⟩, ?_⟩
    go_big_quiet_on
    go_big_quiet_want; go_big_quiet_op; refine ⟨.bool true, fun wq hq => ?_, ?_⟩
    · simp [hl3]
    go_big_quiet_on
    iterate 2 (go_big_quiet_want; go_big_quiet_op; first | go_big_quiet_on | (refine ⟨_, fun _ _ => rfl, ?_⟩; go_big_quiet_on))
    iterate 1 (go_big_quiet_want; go_big_quiet_op; first | go_big_quiet_on | (refine ⟨_, fun _ _ => rfl, ?_⟩; go_big_quiet_on))
    go_big_quiet_want; go_big_quiet_op; refine ⟨.agg (dg D2), fun wq hq => (hash_digest wq hb K64 F0 _ hq.2.2.2.2.2.1 hq.2.2.2.1 (by have := HL.out; rw [List.length_append]; omega)).mono fun e w' ⟨he, hb⟩ => ⟨by rw [he, HD2.out], hq.below hb⟩, ?_⟩
    go_big_quiet_on
    go_big_quiet_want; go_big_quiet_op; refine ⟨.agg (dg D2), fun wq hq => ?_, ?_⟩
    · have q1 : objAt wq n2 = some (.cells (dg D2) 28 (0, 0)) := hq.2.1
      simp [q1, dg_size, hl2]
    go_big_quiet_on
    go_big_quiet_want; go_big_quiet_op; refine ⟨.bool true, fun wq hq => ?_, ?_⟩
    · simp [hl2]
    go_big_quiet_on
    iterate 2 (go_big_quiet_want; go_big_quiet_op; first | go_big_quiet_on | (refine ⟨_, fun _ _ => rfl, ?_⟩; go_big_quiet_on))
    iterate 1 (go_big_quiet_want; go_big_quiet_op; first | go_big_quiet_on | (refine ⟨_, fun _ _ => rfl, ?_⟩; go_big_quiet_on))
    go_big_quiet_want; go_big_quiet_op; refine ⟨.agg (dg D3), fun wq hq => (hash_digest wq kb K64 F0 _ hq.2.2.2.2.2.1 hq.2.2.2.2.1 (by have := HL.out; rw [List.length_append]; omega)).mono fun e w' ⟨he, hb⟩ => ⟨by rw [he, HD3.out], hq.below hb⟩, ?_⟩
    go_big_quiet_on
    go_big_quiet_want; go_big_quiet_op; refine ⟨.agg (dg D3), fun wq hq => ?_, ?_⟩
    · have q1 : objAt wq n3 = some (.cells (dg D3) 28 (0, 0)) := hq.2.2.1
      simp [q1, dg_size, hl3]
    go_big_quiet_on
    go_big_quiet_want; go_big_quiet_op; refine ⟨.bool true, fun wq hq => ?_, ?_⟩
    · simp [hl3]
    go_big_quiet_on
    iterate 2 (go_big_quiet_want; go_big_quiet_op; first | go_big_quiet_on | (refine ⟨_, fun _ _ => rfl, ?_⟩; go_big_quiet_on))
    refine wpQuiet_nil ?_
    clear hcls
    intro wd hq
    go_wp2
    go_ret
    exact ⟨rfl, HN.out ▸ hq.2.2.2.2.2.2.1⟩
end Go.Proofs.YtpkgmoiffegbfaaDoor
