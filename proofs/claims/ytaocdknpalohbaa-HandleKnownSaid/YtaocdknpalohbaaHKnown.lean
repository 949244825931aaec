/- HandleKnown: the walk: the chapter's examples, digests at their ends, tables without commitments, and none. No condition. -/
import Derived.Test.YtaocdknpalohbaaHWorks
import Derived.Test.YtaocdknpalohbaaHRefh
namespace Go.Proofs.Ytaocdknpalohbaa
open Go.RowKit Go.BigFrame
set_option maxRecDepth 20000

theorem dg_zero : (#[Value.int .u8 0, Value.int .u8 0, Value.int .u8 0, Value.int .u8 0, Value.int .u8 0, Value.int .u8 0, Value.int .u8 0, Value.int .u8 0, Value.int .u8 0, Value.int .u8 0, Value.int .u8 0, Value.int .u8 0, Value.int .u8 0, Value.int .u8 0, Value.int .u8 0, Value.int .u8 0, Value.int .u8 0, Value.int .u8 0, Value.int .u8 0, Value.int .u8 0, Value.int .u8 0, Value.int .u8 0, Value.int .u8 0, Value.int .u8 0, Value.int .u8 0, Value.int .u8 0, Value.int .u8 0, Value.int .u8 0, Value.int .u8 0, Value.int .u8 0, Value.int .u8 0, Value.int .u8 0] : Array Value) = dg z32 := rfl
attribute [local go_sem ↓] exec_loadD exec_eqlD
attribute [local go_sem] dg_zero
attribute [local go_sem] loadRow eqRow dg_size digEq_dg hd_length isDig_dg objAt_drew objAt_drewN

def s0 : Sl := ⟨0, 0, 0, 0⟩
theorem z32_length : z32.length = 32 := rfl

set_option maxHeartbeats 1000000 in
theorem commit_nil (x : Sl) (w : World) :
    Calls Try.prog 11 #[.pointer none, .agg x.cells] w fun e w' => e = .returned (.agg (dg z32)) ∧ Below w.heap.size w w' := by
  go_enter Try.func11, Try.ntmps11
  go_wp2_with (first
    | ((with_reducible show wpList _ _ _ (⟨some 4, Op.alloc _, _, _, _, _⟩ :: _) _ _); refine law_allocK rfl 35 rfl (dg z32) zeroDig ?_; intro w2 hg2 hw2 hs2; rw [World.size_alloc] at hg2 hs2; have o2 : objAt w2 (w.heap.size + 1) = some (.cells (dg z32) 35 (0, 0)) := hg2)
    | ((with_reducible show wpList _ _ _ (⟨none, Op.store _ _ _, _, _, _, _⟩ :: _) _ _); refine wpList_store_put rfl rfl _ _ _ rfl (w.heap.size + 1) (dg z32) _ _ rfl rfl hg2 (by rw [dg_size]; exact sizeDig) rfl (dg_one _) ?_; intro w3 hs3 hso3 hsz3 hbl3))
  have hB : Below w.heap.size w w3 := hbl3 _ _ (by omega) (below_grown ((Below.refl w.heap.size w).alloc (Nat.le_refl _) _) hw2 (by simp) (by intro k e; cases e))
  exact bodyPost_ret (results_cell_row rfl _ _ (w.heap.size + 1) _ _ _ _ rfl hs3 Try.underlying35 rfl (by rw [dg_size]; exact sizeDig)) rfl ⟨rfl, hB⟩

theorem hmax_any (w : World) : Calls Try.prog 17 #[.agg (dg (hd 18446744073709551615))] w fun e w' => e = .returned (.tuple #[.int .u64 18446744073709551615, .bool true]) ∧ Below w.heap.size w w' := by
  have h := ohandle_any (hd 18446744073709551615) (hd_length _) w
  rw [show handF (hd 18446744073709551615) = (18446744073709551615, true) from by decide +kernel] at h
  exact h
theorem hzero_any (w : World) : Calls Try.prog 17 #[.agg (dg z32)] w fun e w' => e = .returned (.tuple #[.int .u64 0, .bool false]) ∧ Below w.heap.size w w' := by
  have h := ohandle_any z32 rfl w
  rw [show handF z32 = (0, false) from by decide +kernel] at h
  exact h
def bad31 : List UInt8 := (hd 1).set 31 1
def bad8 : List UInt8 := (hd 1).set 8 1
theorem bad31_length : bad31.length = 32 := by simp [bad31, hd_length]
theorem bad8_length : bad8.length = 32 := by simp [bad8, hd_length]
theorem hbad_any (w : World) : Calls Try.prog 17 #[.agg (dg bad31)] w fun e w' => e = .returned (.tuple #[.int .u64 0, .bool false]) ∧ Below w.heap.size w w' := by
  have h := ohandle_any bad31 bad31_length w
  rw [show handF bad31 = (0, false) from by decide +kernel] at h
  exact h
theorem eq_zz : (z32 == z32) = true := by simp
theorem o_e1 : opensF [] (hd 1) s0 = false := rfl
theorem o_ez : opensF [] z32 s0 = false := rfl
theorem o_1 : opensF [s0] (hd 1) s0 = true := by decide +kernel
theorem o_b : opensF [s0] bad8 s0 = false := by decide +kernel
theorem o_n : opensF [s0] (hd 1) ⟨0, 0, 0, 1⟩ = false := by decide +kernel
theorem o_c : opensF [s0] (hd 1) ⟨0, 1, 0, 0⟩ = false := by decide +kernel
theorem o_r : opensF [s0] (hd 1) ⟨-1, 0, 0, 0⟩ = false := by decide +kernel

attribute [local go_sem] bad31_length bad8_length z32_length
set_option maxHeartbeats 4000000 in
theorem known_any (w : World) : Calls Try.prog 7 #[] w fun e w' => e = .returned (.bool true) ∧ Below w.heap.size w w' := by
  go_enter Try.func7, Try.ntmps7
  go_wp2_with fail
  refine (digest_any 18446744073709551615 _ (by decide) (by decide)).mono ?_
  rintro e w1 ⟨rfl, hb1⟩
  go_wp2_with fail
  refine (hmax_any _).mono ?_
  rintro e w2 ⟨rfl, hb2⟩
  go_wp2_with fail
  refine (hzero_any _).mono ?_
  rintro e w3 ⟨rfl, hb3⟩
  go_wp2_with fail
  refine (dig1 _).mono ?_
  rintro e w4 ⟨rfl, hb4⟩
  have hB4 : Below w.heap.size w w4 := ((hb1.trans (hb2.mono hb1.size)).trans (hb3.mono (Nat.le_trans hb1.size hb2.size))).trans (hb4.mono (Nat.le_trans (Nat.le_trans hb1.size hb2.size) hb3.size))
  clear hb1 hb2 hb3 hb4
  have hz4 := hB4.size
  go_wp2_with (first
    | ((with_reducible show wpList _ _ _ (⟨some 5, Op.alloc _, _, _, _, _⟩ :: _) _ _); refine law_allocK rfl 35 rfl (dg z32) zeroDig ?_; intro w5 hg5 hw5 hz5)
    | ((with_reducible show wpList _ _ _ (⟨none, Op.store _ (.tmp 5) _, _, _, _, _⟩ :: _) _ _); refine wpList_store_put rfl rfl _ _ _ rfl w4.heap.size (dg (hd 1)) _ _ rfl rfl hg5 (by rw [dg_size, hd_length]; exact sizeDig) (by rw [dg_size, dg_size, hd_length]; rfl) (dg_one _) ?_; intro w6 hs6 hso6 hz6 hbl6)
    | ((with_reducible show wpList _ _ _ (⟨none, Op.store _ (.tmp 24) _, _, _, _, _⟩ :: _) _ _); refine law_storeByte rfl _ _ _ rfl Try.underlying5 sizeU8 w4.heap.size 31 1 rfl rfl (by decide) (by decide) (hd 1) _ hs6 (by rw [hd_length]; decide) ?_; intro w7 hg7 hw7; have o7 : objAt w7 w4.heap.size = some (.cells (dg bad31) 35 (0, 0)) := hg7.out))
  have hB5 : Below w.heap.size w w5 := below_grown hB4 hw5 hz4 (by intro k e; cases e)
  have hB6 := hbl6 _ _ hz4 hB5
  have hB7 : Below w.heap.size w w7 := below_grown hB6 hw7 (by omega) (by intro k e; cases e; exact hz4)
  have hz7 := hw7.size
  have hb5lt : w4.heap.size < w7.heap.size := by omega
  have hg7' : w7.heap[w4.heap.size]? = some (.cells (dg bad31) 35 (0, 0)) := hg7.out
  have hIz : IsDig (dg z32) := isDig_dg rfl
  obtain ⟨b5, hb5⟩ : ∃ b5, b5 = w4.heap.size := ⟨_, rfl⟩
  rw [← hb5] at hz4 hg7' o7 hb5lt ⊢
  clear hb5 hB4 hB5 hB6 hw5 hg5 hz5 hs6 hso6 hz6 hbl6 hw7 hz7 hg7
  refine (hbad_any _).mono ?_
  rintro e w8 ⟨rfl, hb8⟩
  have hg8 := below_at hb8 hg7' hb5lt
  have hB8 := hB7.trans (hb8.mono (Nat.le_trans hz4 (Nat.le_of_lt hb5lt)))
  clear hb8 hB7 hg7' o7 hb5lt
  go_wp2_with fail
  refine (new_any _).mono ?_
  rintro e w9 ⟨rfl, ht9, hb9⟩
  have hg9 := below_at hb9 hg8 (lt_of_heap hg8)
  have hB9 := hB8.trans (hb9.mono (Nat.le_trans hz4 (Nat.le_of_lt (lt_of_heap hg8))))
  have hlt9 := lt_of_heap hg8
  obtain ⟨mb, hmb⟩ : ∃ mb, mb = w8.heap.size := ⟨_, rfl⟩
  rw [← hmb] at ht9 hlt9 ⊢
  clear hmb hb9 hg8 hB8
  have hNm : w.heap.size ≤ mb := by omega
  go_wp2_with fail
  refine (commit_nil s0 _).mono ?_
  rintro e wa ⟨rfl, hba⟩
  have hga := below_at hba hg9 (lt_of_heap hg9)
  have hta := ht9.below (_B := 0) hba
  have hBa := hB9.trans (hba.mono (Nat.le_trans hz4 (Nat.le_of_lt (lt_of_heap hg9))))
  clear hba hg9 ht9 hB9
  go_wp2_with fail
  refine (dig1 _).mono ?_
  rintro e wb ⟨rfl, hbb⟩
  have hgb := below_at hbb hga (lt_of_heap hga)
  have htb := hta.below (_B := 0) hbb
  have hBb := hBa.trans (hbb.mono (Nat.le_trans hz4 (Nat.le_of_lt (lt_of_heap hga))))
  clear hbb hga hta hBa
  go_wp2_with fail
  refine (opens_nil (hd 1) s0 _).mono ?_
  rintro e wc ⟨rfl, hbc⟩
  have hgc := below_at hbc hgb (lt_of_heap hgb)
  have htc := htb.below (_B := 0) hbc
  have hBc := hBb.trans (hbc.mono (Nat.le_trans hz4 (Nat.le_of_lt (lt_of_heap hgb))))
  clear hbc hgb htb hBb
  go_wp2_with fail
  refine (len_nil _).mono ?_
  rintro e wc ⟨rfl, rfl⟩
  go_wp2_with fail
  refine (len_any _ _ _ _ htc).mono ?_
  rintro e wd ⟨rfl, rfl⟩
  go_wp2_with fail
  refine (dig1 _).mono ?_
  rintro e wd ⟨rfl, hbd⟩
  have hgd := below_at hbd hgc (lt_of_heap hgc)
  have htd := htc.below (_B := 0) hbd
  have hBd := hBc.trans (hbd.mono (Nat.le_trans hz4 (Nat.le_of_lt (lt_of_heap hgc))))
  clear hbd hgc htc hBc
  go_wp2_with fail
  refine (opens_any (hd 1) (hd_length _) s0 _ _ _ [] htd).mono ?_
  rw [o_e1]
  rintro e we ⟨rfl, hbe⟩
  have hge := below_at hbe hgd (lt_of_heap hgd)
  have hte := htd.below (_B := 0) hbe
  have hBe := hBd.trans (hbe.mono (Nat.le_trans hz4 (Nat.le_of_lt (lt_of_heap hgd))))
  clear hbe hgd htd hBd
  go_wp2_with fail
  refine (opens_any z32 rfl s0 _ _ _ [] hte).mono ?_
  rw [o_ez]
  rintro e wf ⟨rfl, hbf⟩
  have hgf := below_at hbf hge (lt_of_heap hge)
  have htf := hte.below (_B := 0) hbf
  have hBf := hBe.trans (hbf.mono (Nat.le_trans hz4 (Nat.le_of_lt (lt_of_heap hge))))
  clear hbf hge hte hBe
  go_wp2_with fail
  refine (commit_any s0 _ _ _ [] htf (by decide)).mono ?_
  rintro e wg ⟨rfl, htg, hgg⟩
  have hgw := (hgg.block _ (lt_of_heap hgf) (by simp; omega)).trans hgf
  have hBg : Below w.heap.size w wg := below_grown hBf hgg (Nat.le_trans hz4 (Nat.le_of_lt (lt_of_heap hgf))) (by intro k e; cases e; exact hNm)
  clear hgg hgf htf hBf
  have hzg := lt_of_heap htg.tab
  go_wp2_with (first
    | ((with_reducible show wpList _ _ _ (⟨some 12, Op.alloc _, _, _, _, _⟩ :: _) _ _); refine law_allocK rfl 35 rfl (dg z32) zeroDig ?_; intro wh hgh hwh hzh; have hgh5 := (hwh.block _ (lt_of_heap hgw) (by simp)).trans hgw)
    | ((with_reducible show wpList _ _ _ (⟨none, Op.store _ (.tmp 12) _, _, _, _, _⟩ :: _) _ _); refine wpList_store_put rfl rfl _ _ _ rfl wg.heap.size (dg (hd 1)) _ _ rfl rfl hgh (by rw [dg_size, hd_length]; exact sizeDig) (by rw [dg_size, dg_size, hd_length]; rfl) (dg_one _) ?_; intro wi hsi hsoi hzi hbli; have oi : objAt wi wg.heap.size = some (.cells (dg (hd 1)) 35 (0, 0)) := hsi; have hgi5 := (hsoi b5 (Nat.ne_of_lt (lt_of_heap hgw))).trans hgh5)
    | ((with_reducible show wpList _ _ _ (⟨none, Op.store _ (.tmp 5) _, _, _, _, _⟩ :: _) _ _); refine wpList_store_put rfl rfl _ _ _ rfl b5 (dg (hd 1)) _ _ rfl rfl hgi5 (by rw [dg_size, hd_length]; exact sizeDig) (by rw [dg_size, dg_size, bad31_length, hd_length]) (dg_one _) ?_; intro wj hsj hsoj hzj hblj)
    | ((with_reducible show wpList _ _ _ (⟨none, Op.store _ (.tmp 69) _, _, _, _, _⟩ :: _) _ _); refine law_storeByte rfl _ _ _ rfl Try.underlying5 sizeU8 b5 8 1 rfl rfl (by decide) (by decide) (hd 1) _ hsj (by rw [hd_length]; decide) ?_; intro wk hgk hwk))
  have b5g : b5 < wg.heap.size := lt_of_heap hgw
  have hmg : mb < wg.heap.size := by omega
  have hgk' : wk.heap[b5]? = some (.cells (dg bad8) 35 (0, 0)) := hgk.out
  have fk : ∀ k, k ≠ wg.heap.size → k ≠ b5 → k < wg.heap.size → wk.heap[k]? = wg.heap[k]? := fun k h1 h2 h3 =>
    (hwk.block k (by omega) (by simpa using h2)).trans ((hsoj k h2).trans ((hsoi k h1).trans (hwh.block k h3 (by simp))))
  have hdk : wk.heap[wg.heap.size]? = some (.cells (dg (hd 1)) 35 (0, 0)) := (hwk.block _ (by omega) (by simp; omega)).trans ((hsoj _ (by omega)).trans hsi)
  have htk : IsTable wk (mb + 1) mb [s0] := ⟨(fk _ (by omega) (by omega) hzg).trans htg.tab, (fk _ (by omega) (by omega) hmg).trans htg.map⟩
  have hBk : Below w.heap.size w wk := below_grown (hblj _ _ hz4 (hbli _ _ (by omega) (below_grown hBg hwh (by omega) (by intro k e; cases e)))) hwk (by omega) (by intro k e; cases e; exact hz4)
  obtain ⟨b12, hb12⟩ : ∃ b12, b12 = wg.heap.size := ⟨_, rfl⟩
  rw [← hb12] at hdk ⊢
  have hN12 : w.heap.size ≤ b12 := by omega
  have h12 : b12 < wk.heap.size := lt_of_heap hdk
  clear fk hb12 hwh hgh hgh5 hsi oi hgi5 hsj hsoj hzj hblj hsoi hzi hbli hgk hwk hBg htg hgw hzh hzg b5g hmg
  refine (works_any _).mono ?_
  rintro e wl ⟨rfl, hbl⟩
  have hgl := below_at hbl hgk' (lt_of_heap hgk')
  have hdl := below_at hbl hdk (lt_of_heap hdk)
  have htl := htk.below (_B := 0) hbl
  have hBl := hBk.trans (hbl.mono (Nat.le_trans hN12 (Nat.le_of_lt h12)))
  clear hbl hgk' hdk htk hBk h12
  have o5 : objAt wl b5 = some (.cells (dg bad8) 35 (0, 0)) := hgl
  have o12 : objAt wl b12 = some (.cells (dg (hd 1)) 35 (0, 0)) := hdl
  go_wp2_with fail
  refine (opens_any (hd 1) (hd_length _) s0 _ _ _ [s0] htl).mono ?_
  rw [o_1]
  rintro e wm ⟨rfl, hbn⟩
  have hgm := below_at hbn hgl (lt_of_heap hgl)
  have hdm := below_at hbn hdl (lt_of_heap hdl)
  have htm := htl.below (_B := 0) hbn
  have hBm := hBl.trans (hbn.mono (Nat.le_trans hN12 (Nat.le_of_lt (lt_of_heap hdl))))
  clear hbn hgl hdl htl hBl o5 o12
  have o5 : objAt wm b5 = some (.cells (dg bad8) 35 (0, 0)) := hgm
  have o12 : objAt wm b12 = some (.cells (dg (hd 1)) 35 (0, 0)) := hdm
  go_wp2_with fail
  refine (opens_any bad8 bad8_length s0 _ _ _ [s0] htm).mono ?_
  rw [o_b]
  rintro e wn ⟨rfl, hbn⟩
  have hgn := below_at hbn hgm (lt_of_heap hgm)
  have hdn := below_at hbn hdm (lt_of_heap hdm)
  have htn := htm.below (_B := 0) hbn
  have hBn := hBm.trans (hbn.mono (Nat.le_trans hN12 (Nat.le_of_lt (lt_of_heap hdm))))
  clear hbn hgm hdm htm hBm o5 o12
  have o5 : objAt wn b5 = some (.cells (dg bad8) 35 (0, 0)) := hgn
  have o12 : objAt wn b12 = some (.cells (dg (hd 1)) 35 (0, 0)) := hdn
  go_wp2_with fail
  refine (opens_any (hd 1) (hd_length _) ⟨0, 0, 0, 1⟩ _ _ _ [s0] htn).mono ?_
  rw [o_n]
  rintro e wo ⟨rfl, hbn⟩
  have hgo := below_at hbn hgn (lt_of_heap hgn)
  have hdo := below_at hbn hdn (lt_of_heap hdn)
  have hto := htn.below (_B := 0) hbn
  have hBo := hBn.trans (hbn.mono (Nat.le_trans hN12 (Nat.le_of_lt (lt_of_heap hdn))))
  clear hbn hgn hdn htn hBn o5 o12
  have o5 : objAt wo b5 = some (.cells (dg bad8) 35 (0, 0)) := hgo
  have o12 : objAt wo b12 = some (.cells (dg (hd 1)) 35 (0, 0)) := hdo
  go_wp2_with fail
  refine (opens_any (hd 1) (hd_length _) ⟨0, 1, 0, 0⟩ _ _ _ [s0] hto).mono ?_
  rw [o_c]
  rintro e wp ⟨rfl, hbn⟩
  have hgp := below_at hbn hgo (lt_of_heap hgo)
  have hdp := below_at hbn hdo (lt_of_heap hdo)
  have htp := hto.below (_B := 0) hbn
  have hBp := hBo.trans (hbn.mono (Nat.le_trans hN12 (Nat.le_of_lt (lt_of_heap hdo))))
  clear hbn hgo hdo hto hBo o5 o12
  have o5 : objAt wp b5 = some (.cells (dg bad8) 35 (0, 0)) := hgp
  have o12 : objAt wp b12 = some (.cells (dg (hd 1)) 35 (0, 0)) := hdp
  go_wp2_with fail
  refine (opens_any (hd 1) (hd_length _) ⟨-1, 0, 0, 0⟩ _ _ _ [s0] htp).mono ?_
  rw [o_r]
  rintro e wq ⟨rfl, hbn⟩
  have hgq := below_at hbn hgp (lt_of_heap hgp)
  have hdq := below_at hbn hdp (lt_of_heap hdp)
  have htq := htp.below (_B := 0) hbn
  have hBq := hBp.trans (hbn.mono (Nat.le_trans hN12 (Nat.le_of_lt (lt_of_heap hdp))))
  clear hbn hgp hdp htp hBp o5 o12
  go_wp2
  go_ret
  exact ⟨rfl, hBq⟩
end Go.Proofs.Ytaocdknpalohbaa
