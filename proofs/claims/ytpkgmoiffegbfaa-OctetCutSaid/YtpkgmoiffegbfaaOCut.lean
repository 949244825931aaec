/- Layer 16, OctetCut, of all rows of parts, and places: the walk. Condition: the parts lie in a slice. -/
import Derived.Test.YtpkgmoiffegbfaaOCutL
import Derived.Deep.LoopGhost
namespace Go.Proofs.Ytpkgmoiffegbfaa
open Go.RowKit Go.BigFrame
set_option maxRecDepth 20000

theorem left_bad (s : ByteArray) (N M a : Nat) (w : World) (h : IsRd w N M s (a : Int) true) (ha : a ≤ s.size) (hs : s.size ≤ 140737488351232) :
    Calls Try.prog 20 #[.pointer (some ⟨N, 0, none⟩)] w fun e w' => e = .returned (.int .i64 0) ∧ ∃ n, w' = w.drewN n :=
  left_any s N M a true w h (by omega) (by omega) (by omega)
theorem end_bad (s : ByteArray) (N M a : Nat) (w : World) (h : IsRd w N M s (a : Int) true) (ha : a ≤ s.size) (hs : s.size ≤ 140737488351232) :
    Calls Try.prog 22 #[.pointer (some ⟨N, 0, none⟩)] w fun e w' => e = .returned (.int .i64 14) ∧ ∃ n, w' = w.drewN n :=
  end_any s N M a true w h (by omega) (by omega) (by omega)
theorem num_badS (s : ByteArray) (N M a : Nat) (n : Int) (w : World) (h : IsRd w N M s (a : Int) true) (ha : a ≤ s.size) (hs : s.size ≤ 140737488351232) :
    Calls Try.prog 18 #[.pointer (some ⟨N, 0, none⟩), .int .i64 n] w fun e w' => e = .returned (.int .u64 0) ∧ w.grownBy w' (some N) ∧ IsRd w' N M s (a : Int) true := by
  have := onum_any s N M a n true w h ha hs
  rw [numS_bad] at this
  exact this
theorem text_badS (s : ByteArray) (N M a : Nat) (w : World) (h : IsRd w N M s (a : Int) true) (ha : a ≤ s.size) (hs : s.size ≤ 140737488351232) :
    Calls Try.prog 16 #[.pointer (some ⟨N, 0, none⟩)] w fun e w' => e = .returned (.string ⟨#[]⟩) ∧ w.grownBy w' (some N) ∧ IsRd w' N M s (a : Int) true := by
  have := otext_any s N M a true w h ha hs
  rw [textS_bad] at this
  exact this
theorem below_same {B : Nat} {w0 w : World} (h : Below B w0 w) (n : Nat) : Below B w0 (w.drewN n) := ⟨h.os, h.tape, h.output, h.size, h.block⟩

set_option maxHeartbeats 4000000 in
theorem cutlaw_any (ps : List Pt) (v : Value) (at_ y : Int) (w : World) (h : PIn w v ps) (hwf : Wf ps) (hat : 0 ≤ at_ ∧ at_ ≤ 65535) (hy : 0 ≤ y ∧ y ≤ 255) :
    Calls Try.prog 6 #[v, .int .u16 at_, .int .u8 y] w fun e w' => e = .returned (.bool true) ∧ Below w.heap.size w w' := by
  have hok := cutL_ok ps hwf
  have hlen := cutL_len ps
  have hrl := rowL_len (cutL ps) hok
  have HIN := hide h
  have HWF := hide hwf
  obtain ⟨qs, hqs⟩ : ∃ qs, cutL ps = qs := ⟨_, rfl⟩
  rw [hqs] at hok hlen hrl
  have HQ := hide hqs
  have HOK := hide hok
  clear h hwf hqs hok
  go_enter Try.func6, Try.ntmps6
  go_wp2_with fail
  refine (works_any _).mono ?_
  rintro e w1 ⟨rfl, hb1⟩
  have hin1 : PIn w1 v ps := by
    rcases HIN.out with h | ⟨bk, off, cap, e, hbk, hat⟩
    · exact .inl h
    · exact .inr ⟨bk, off, cap, e, Nat.lt_of_lt_of_le hbk hb1.size, parts_on hat (hb1.block bk hbk)⟩
  go_wp2_with fail
  refine (cut_any ps v w1 hin1 HWF.out).mono ?_
  rintro e w2 ⟨u, rfl, ho2, hb2⟩
  rw [HQ.out] at ho2
  have hB2 := hb1.trans (hb2.mono hb1.size)
  clear hin1 hb1 hb2
  go_wp2_with fail
  refine (row_out qs u _ w2 ho2 (Nat.le_refl _) HOK.out hlen).mono ?_
  rintro e w3 ⟨rfl, hb3⟩
  have ho3 := ho2.on (w' := w3) (fun g hg => hb3.block g hg)
  have hB3 := hB2.trans (hb3.mono hB2.size)
  have hL3 := hb3.size
  obtain ⟨L, hL⟩ : ∃ L, w2.heap.size = L := ⟨_, rfl⟩
  rw [hL] at ho3 hL3
  clear ho2 hb3 hB2 hL
  obtain ⟨s, hs⟩ : ∃ s : ByteArray, (⟨(rowL qs).toArray⟩ : ByteArray) = s := ⟨_, rfl⟩
  have hsz : s.size = (rowL qs).length := by rw [← hs]; simp [ByteArray.size]
  have hsl : s.data.toList = rowL qs := by rw [← hs]
  rw [hs]
  have HSL := hide hsl
  have HSZ := hide hsz
  have hsb : s.size ≤ 140737488351232 := by rw [hsz]; omega
  have hN3 := hB3.size
  clear hs hsl hsz
  by_cases h0 : s.size = 0
  · have h0' : ((s.size : Int) == 0) = true := by simp [h0]
    have h0'' : s.data.toList = [] := by rw [← List.length_eq_zero_iff, ← size_list, h0]
    go_wp2
    go_ret
    exact ⟨rfl, hB3⟩
  · have hpos : 0 < s.size := by omega
    have hposI : (0 : Int) < (s.size : Int) := by omega
    have h0' : ((s.size : Int) == 0) = false := by rw [beq_eq_false_iff_ne]; omega
    obtain ⟨t, rfl⟩ : ∃ t : Nat, at_ = (t : Int) := ⟨at_.toNat, by omega⟩
    obtain ⟨k, hk⟩ : ∃ k : Nat, (t : Int) % (s.size : Int) = (k : Int) := ⟨t % s.size, by simp⟩
    have hks : k < s.size := by have := Int.emod_lt_of_pos (t : Int) hposI; omega
    have hz2 : (s.extract 0 k).size = k := by rw [ByteArray.size_extract]; omega
    have hl2 : (s.extract 0 k).data.toList = (rowL qs).take k := by rw [ByteArray.data_extract, Array.toList_extract, List.extract_eq_take_drop, HSL.out]; simp
    obtain ⟨g, cap, rfl, hgL, hpa⟩ : ∃ g cap, u = .slice (some ⟨g, 0, none⟩) qs.length cap ∧ g < L ∧ PartsAt w3 g 0 qs := by
      rcases ho3 with ⟨_, hq⟩ | h
      · exfalso
        exact h0 (by rw [HSZ.out, hq]; rfl)
      · exact h
    go_wp2_with fail
    obtain ⟨s2, hs2⟩ : ∃ s2, s.extract 0 k = s2 := ⟨_, rfl⟩
    rw [hs2] at hz2 hl2 ⊢
    have hsb2 : s2.size ≤ 140737488351232 := by omega
    have hcutsz : s2.size < (rowL qs).length := by rw [← HSZ.out]; omega
    have HL2 := hide hl2
    clear hs2 hk hl2 ho3
    refine (read_new s2 w3).mono ?_
    rintro e w4 ⟨rfl, hb4, hr4⟩
    have hpa4 := parts_on (w' := w4) hpa (hb4.block g (by omega))
    have hB4 := hB3.trans (hb4.mono hB3.size)
    have hN4 : w3.heap.size < w4.heap.size := block_lt_of_cell hr4.1
    obtain ⟨N, hN⟩ : ∃ N, w3.heap.size = N := ⟨_, rfl⟩
    rw [hN] at hr4 hN4 hL3 hN3 ⊢
    clear hpa hb4 hB3 hN
    have HC0 := hide (show Cutting s2 qs 0 0 false from ⟨Nat.zero_le _, fun _ => by simp [rowL]⟩)
    go_wp2
    go_loopg [11] qs.length (fun gg i wi => ∃ (j a : Nat) (bad : Bool), j ≤ qs.length ∧ gg = qs.length - j ∧ i = .int .i64 j ∧ IsRd wi N (N + 1) s2 (a : Int) bad ∧ Hid (Cutting s2 qs j a bad) ∧ Below w.heap.size w wi ∧ PartsAt wi g 0 qs ∧ g < wi.heap.size)
    case atStart => exact ⟨0, 0, false, Nat.zero_le _, rfl, rfl, hr4, HC0, hB4, hpa4, by omega⟩
    case round =>
      obtain ⟨j, a, bad, hj, rfl, rfl, hrd, HC, hBr, hpr, hgr⟩ := hrel
      clear hr4 HC0 hB4 hpa4 hN4
      by_cases hlt : j < qs.length
      · obtain ⟨p, hp⟩ : ∃ p, qs[j]? = some p := ⟨_, List.getElem?_eq_getElem hlt⟩
        obtain ⟨c0, c1, c2, c3⟩ := hpr j p hp
        have hj0 : (0 : Int) ≤ (j : Int) := by omega
        have hjl : (j : Int) < (qs.length : Int) := by omega
        obtain ⟨o1, o2, o3⟩ := HOK.out p (List.mem_of_getElem? hp)
        have HP := hide hp
        have HPR := hide hpr
        have hle := HC.out.1
        cases hb : p.b with
        | true =>
          rw [hb] at c3
          have hT := otext_any s2 N (N + 1) a bad wr hrd hle hsb2
          have hcut := hide (cut_text s2 qs j a k bad p hp hb o3 HL2.out HC.out)
          have HT := hide hT
          clear hT hp hb hrd hpr
          simp only [Nat.zero_add] at c0 c1 c2 c3
          go_wp2_with fail
          refine HT.out.mono ?_
          rintro e w5 ⟨rfl, hg5, hr5⟩
          have hB5 : Below w.heap.size w w5 := hBr.grown hg5 hBr.size (fun q e => by cases e; exact hN3)
          have hp5 := parts_on (w' := w5) HPR.out (hg5.block g hgr (by simp; omega))
          have hg5' := Nat.lt_of_lt_of_le hgr hg5.size
          clear hg5 hBr c0 c1 c2 c3
          go_wp2
          go_roundg (qs.length - (j + 1))
          case measure => omega
          case rel => exact ⟨j + 1, _, _, by omega, rfl, by simp, hr5, hcut, hB5, hp5, hg5'⟩
        | false =>
          rw [hb] at c3
          have hT : ∀ w', IsRd w' N (N + 1) s2 (a : Int) bad → _ := fun w' h => onum_any s2 N (N + 1) a ((1 + p.wd % 8 : Nat) : Int) bad w' h hle hsb2
          have hcut := hide (cut_num s2 qs j a bad p hp hb HC.out)
          have hWd : ∀ w, Calls Try.prog 27 #[.agg #[.int .u64 p.n, .int .u8 p.wd, .string p.t, .bool false]] w fun e w' => e = .returned (.int .i64 ((1 + p.wd % 8 : Nat) : Int)) ∧ Below w.heap.size w w' := fun w => by
            have := width_any p.n p.wd p.t false w (by omega) (by omega)
            rw [show (1 + (p.wd : Int) % 8) = ((1 + p.wd % 8 : Nat) : Int) from by omega] at this
            exact this
          have HT := hide hT
          have HWD := hide hWd
          have HRD := hide hrd
          clear hT hp hb hrd hpr hWd
          simp only [Nat.zero_add] at c0 c1 c2 c3
          go_wp2_with fail
          refine (HWD.out _).mono ?_
          rintro e w5 ⟨rfl, hb5⟩
          have hr5 := rd_below HRD.out hb5
          have hB5 := hBr.trans (hb5.mono hBr.size)
          have hp5 := parts_on (w' := w5) HPR.out (hb5.block g hgr)
          have hg5 := Nat.lt_of_lt_of_le hgr hb5.size
          clear hb5 hBr c0 c1 c2 c3
          go_wp2_with fail
          refine (HT.out _ hr5).mono ?_
          rintro e w6 ⟨rfl, hg6, hr6⟩
          have hB6 : Below w.heap.size w w6 := hB5.grown hg6 hB5.size (fun q e => by cases e; exact hN3)
          have hp6 := parts_on (w' := w6) hp5 (hg6.block g hg5 (by simp; omega))
          have hg6' := Nat.lt_of_lt_of_le hg5 hg6.size
          clear hg6 hB5 hp5 hr5
          go_wp2
          go_roundg (qs.length - (j + 1))
          case measure => omega
          case rel => exact ⟨j + 1, _, _, by omega, rfl, by simp, hr6, hcut, hB6, hp6, hg6'⟩
      · obtain rfl : j = qs.length := by omega
        obtain rfl := cut_bad s2 qs a bad HC.out hcutsz
        have hle := HC.out.1
        obtain ⟨r, hr⟩ : ∃ r : Nat, y % 8 = (r : Int) := ⟨(y % 8).toNat, by omega⟩
        have hr8 : r < 8 := by omega
        clear hlt hj hpr hgr HC
        go_wp2_with fail
        refine (end_bad s2 N (N + 1) a wr hrd hle hsb2).mono ?_
        rintro e w5 ⟨rfl, n5, rfl⟩
        go_wp2_with fail
        refine (left_bad s2 N (N + 1) a _ (rd_drewN hrd n5) hle hsb2).mono ?_
        rintro e w6 ⟨rfl, n6, rfl⟩
        go_wp2_with fail
        refine (num_badS s2 N (N + 1) a _ _ (rd_drewN hrd (n5 + n6)) hle hsb2).mono ?_
        rintro e w7 ⟨rfl, hg7, hr7⟩
        have hB7 : Below w.heap.size w w7 := (below_same hBr (n5 + n6)).grown hg7 hBr.size (fun q e => by cases e; exact hN3)
        clear hg7
        go_wp2_with fail
        refine (text_badS s2 N (N + 1) a _ hr7 hle hsb2).mono ?_
        rintro e w8 ⟨rfl, hg8, hr8'⟩
        have hB8 : Below w.heap.size w w8 := hB7.grown hg8 hB7.size (fun q e => by cases e; exact hN3)
        clear hg8
        go_wp2_with fail
        refine (end_bad s2 N (N + 1) a _ hr8' hle hsb2).mono ?_
        rintro e w9 ⟨rfl, n9, rfl⟩
        go_wp2
        go_ret
        exact ⟨rfl, below_same hB8 n9⟩
end Go.Proofs.Ytpkgmoiffegbfaa
