/- Layer 16, OctetBack, of all rows of parts: the walk. Condition: the parts lie in a slice. -/
import Derived.Test.YtpkgmoiffegbfaaCutP
import Derived.Test.YtpkgmoiffegbfaaWork
namespace Go.Proofs.Ytpkgmoiffegbfaa
open Go.RowKit Go.BigFrame
set_option maxRecDepth 20000

/-- Parts that came in; parts that the call has made. -/
def PIn (w : World) (v : Value) (ps : List Pt) : Prop := (∃ a cap, v = .slice a 0 cap ∧ ps = []) ∨ ∃ bk off cap, v = .slice (some ⟨bk, off, none⟩) ps.length cap ∧ bk < w.heap.size ∧ PartsAt w bk off ps
def OutIn (L : Nat) (w : World) (v : Value) (ps : List Pt) : Prop := (v = .slice none 0 0 ∧ ps = []) ∨ ∃ g cap, v = .slice (some ⟨g, 0, none⟩) ps.length cap ∧ g < L ∧ PartsAt w g 0 ps
theorem parts_on {w w' : World} {g o : Nat} {ps : List Pt} (h : PartsAt w g o ps) (hb : w'.heap[g]? = w.heap[g]?) : PartsAt w' g o ps := fun i p hp => by
  obtain ⟨q0, q1, q2, q3⟩ := h i p hp
  exact ⟨(World.cell?_of_block (a := ⟨g, o + i * 4, none⟩) hb).trans q0, (World.cell?_of_block (a := ⟨g, o + i * 4 + 1, none⟩) hb).trans q1, (World.cell?_of_block (a := ⟨g, o + i * 4 + 2, none⟩) hb).trans q2, (World.cell?_of_block (a := ⟨g, o + i * 4 + 3, none⟩) hb).trans q3⟩
theorem OutIn.on {L : Nat} {w w' : World} {v : Value} {ps : List Pt} (h : OutIn L w v ps) (hb : ∀ g, g < L → w'.heap[g]? = w.heap[g]?) : OutIn L w' v ps := by
  rcases h with h | ⟨g, cap, e, hL, hp⟩
  · exact .inl h
  · exact .inr ⟨g, cap, e, hL, parts_on hp (hb g hL)⟩
def Wf (ps : List Pt) : Prop := ps.length ≤ 9223372036854775807 ∧ ∀ p ∈ ps, p.n < 18446744073709551616 ∧ p.wd < 256 ∧ p.t.size ≤ 9223372036854775807
def cutL (ps : List Pt) : List Pt := (ps.take 16).map cutP
theorem cutL_ok (ps : List Pt) (h : Wf ps) : ∀ p ∈ cutL ps, p.ok := by
  intro p hp
  obtain ⟨q, hq, rfl⟩ := List.mem_map.1 hp
  have := h.2 q (List.mem_of_mem_take hq)
  exact cutP_ok q this.1 this.2.1
theorem cutL_len (ps : List Pt) : (cutL ps).length ≤ 16 := by
  have := List.length_take_le 16 ps
  simp [cutL]
  omega
theorem cut_any (ps : List Pt) (v : Value) (w : World) (h : PIn w v ps) (hwf : Wf ps) :
    Calls Try.prog 24 #[v] w fun e w' => ∃ u, e = .returned u ∧ OutIn w'.heap.size w' u (cutL ps) ∧ Below w.heap.size w w' := by
  have hO : ∀ {w' : World} {u : Value}, OutAt w.heap.size w' u (cutL ps) → OutIn w'.heap.size w' u (cutL ps) := by
    intro w' u ho
    rcases ho with h | ⟨g, cap, e, _, hl, hp⟩
    · exact .inl h
    · exact .inr ⟨g, cap, e, hl, hp⟩
  rcases h with ⟨a, cap, rfl, rfl⟩ | ⟨bk, off, cap, rfl, hbk, hat⟩
  · exact (cut_nil a cap w).mono fun e w' ⟨u, he, ho, hb⟩ => ⟨u, he, hO ho, hb⟩
  · exact (cut_some ps bk off cap w hwf.1 hat hbk fun p hp => (hwf.2 p hp).2.2).mono fun e w' ⟨u, he, ho, hb⟩ => ⟨u, he, hO ho, hb⟩
theorem row_out (qs : List Pt) (u : Value) (L : Nat) (w : World) (h : OutIn L w u qs) (hL : L ≤ w.heap.size) (hok : ∀ p ∈ qs, p.ok) (hl : qs.length ≤ 16) :
    Calls Try.prog 25 #[u] w fun e w' => e = .returned (.tuple #[.string ⟨(rowL qs).toArray⟩, .bool true]) ∧ Below w.heap.size w w' := by
  rcases h with ⟨rfl, rfl⟩ | ⟨g, cap, rfl, hg, hp⟩
  · exact (row_nil none 0 w).mono fun e w' ⟨he, hw⟩ => ⟨he, hw ▸ Below.refl _ _⟩
  · exact row_any qs g 0 cap w hok hl hp (by omega)
theorem reads_out (qs : List Pt) (u : Value) (L : Nat) (w : World) (N M : Nat) (s : ByteArray) (R : List UInt8) (h : OutIn L w u qs) (hLN : L ≤ N) (hok : ∀ p ∈ qs, p.ok) (hl : qs.length ≤ 16) (hN : N < w.heap.size)
    (hs : s.size ≤ 140737488351232) (hrow : s.data.toList = rowL qs ++ R) (hrd : IsRd w N M s 0 false) :
    Calls Try.prog 26 #[.pointer (some ⟨N, 0, none⟩), u] w fun e w' => e = .returned (.bool true) ∧ w.grownBy w' (some N) ∧ IsRd w' N M s ((rowL qs).length : Nat) false := by
  rcases h with ⟨rfl, rfl⟩ | ⟨g, cap, rfl, hg, hp⟩
  · exact (reads_nil N none 0 w).mono fun e w' ⟨he, hw⟩ => ⟨he, hw ▸ grown_self _ _, hw ▸ hrd⟩
  · have := reads_row qs g 0 cap N M s [] R w hok hl hp (by omega) (by omega) hN hs hrow hrd
    simpa using this
theorem left_at (s : ByteArray) (N M a : Nat) (w : World) (h : IsRd w N M s (a : Int) false) (ha : a ≤ s.size) (hs : s.size ≤ 140737488351232) (z : Int) (hz : (s.size : Int) - a = z) :
    Calls Try.prog 20 #[.pointer (some ⟨N, 0, none⟩)] w fun e w' => e = .returned (.int .i64 z) ∧ ∃ n, w' = w.drewN n := by
  have := left_any s N M a false w h (by omega) (by omega) (by omega)
  rw [if_neg (by decide), hz] at this
  exact this
theorem end_at (s : ByteArray) (N M a : Nat) (w : World) (h : IsRd w N M s (a : Int) false) (ha : a ≤ s.size) (hs : s.size ≤ 140737488351232) (z : Int) (hz : (if (a : Int) < s.size then 15 else 0) = z) :
    Calls Try.prog 22 #[.pointer (some ⟨N, 0, none⟩)] w fun e w' => e = .returned (.int .i64 z) ∧ ∃ n, w' = w.drewN n := by
  have := end_any s N M a false w h (by omega) (by omega) (by omega)
  rw [if_neg (by decide), hz] at this
  exact this
theorem rd_drewN {w : World} {N M : Nat} {s : ByteArray} {a : Int} {bad : Bool} (h : IsRd w N M s a bad) (n : Nat) : IsRd (w.drewN n) N M s a bad := by
  obtain ⟨c0, c1, c2, c3, cM, f1, f3, hNM⟩ := h
  exact ⟨by simpa using c0, by simpa using c1, by simpa using c2, by simpa using c3, by simpa using cM, by simpa using f1, by simpa using f3, hNM⟩

set_option maxHeartbeats 4000000 in
theorem back_any (ps : List Pt) (v : Value) (y : Int) (w : World) (h : PIn w v ps) (hwf : Wf ps) (hy : 0 ≤ y ∧ y ≤ 255) :
    Calls Try.prog 5 #[v, .int .u8 y] w fun e w' => e = .returned (.bool true) ∧ Below w.heap.size w w' := by
  have hok := cutL_ok ps hwf
  have hlen := cutL_len ps
  have hrl := rowL_len (cutL ps) hok
  have HIN := hide h
  have HWF := hide hwf
  obtain ⟨qs, hqs⟩ : ∃ qs, cutL ps = qs := ⟨_, rfl⟩
  rw [hqs] at hok hlen hrl
  have HQ := hide hqs
  have HOK := hide hok
  clear h hwf hqs hok
  go_enter Try.func5, Try.ntmps5
  go_wp2_with fail
  refine (works_any _).mono ?_
  rintro e w1 ⟨rfl, hb1⟩
  have hin1 : PIn w1 v ps := by
    rcases HIN.out with h | ⟨bk, off, cap, e, hbk, hat⟩
    · exact .inl h
    · exact .inr ⟨bk, off, cap, e, Nat.lt_of_lt_of_le hbk hb1.size, parts_on hat (hb1.block bk hbk)⟩
  go_wp2_with fail
  refine (cut_any ps v w1 hin1 HWF.out).mono ?_
  rintro e w2 ⟨u, rfl, ho2, hb2⟩
  rw [HQ.out] at ho2
  have hB2 := hb1.trans (hb2.mono hb1.size)
  clear hin1 hb1 hb2
  go_wp2_with fail
  refine (row_out qs u _ w2 ho2 (Nat.le_refl _) HOK.out hlen).mono ?_
  rintro e w3 ⟨rfl, hb3⟩
  have ho3 := ho2.on (w' := w3) (fun g hg => hb3.block g hg)
  have hB3 := hB2.trans (hb3.mono hB2.size)
  have hL3 := hb3.size
  obtain ⟨L, hL⟩ : ∃ L, w2.heap.size = L := ⟨_, rfl⟩
  rw [hL] at ho3 hL3
  clear ho2 hb3 hB2 hL
  obtain ⟨s, hs⟩ : ∃ s : ByteArray, (⟨(rowL qs).toArray⟩ : ByteArray) = s := ⟨_, rfl⟩
  have hsz : s.size = (rowL qs).length := by rw [← hs]; simp [ByteArray.size]
  have hsl : s.data.toList = rowL qs := by rw [← hs]
  rw [hs]
  have HSL := hide hsl
  have HSZ := hide hsz
  have hsb : s.size ≤ 140737488351232 := by rw [hsz]; omega
  clear hs hsl hsz
  go_wp2_with fail
  refine (read_new s w3).mono ?_
  rintro e w4 ⟨rfl, hb4, hr4⟩
  have ho4 := ho3.on (w' := w4) (fun g hg => hb4.block g (by omega))
  have hB4 := hB3.trans (hb4.mono hB3.size)
  have hN4 : w3.heap.size < w4.heap.size := block_lt_of_cell hr4.1
  obtain ⟨N, hN⟩ : ∃ N, w3.heap.size = N := ⟨_, rfl⟩
  have hNw : w.heap.size ≤ N := by have := hB3.size; omega
  rw [hN] at hr4 hN4 hL3 ⊢
  clear ho3 hb4 hB3 hN
  go_wp2_with fail
  refine (reads_out qs u L w4 N (N + 1) s [] ho4 hL3 HOK.out hlen hN4 hsb (by rw [HSL.out]; simp) hr4).mono ?_
  rintro e w5 ⟨rfl, hg5, hr5⟩
  have ho5 := ho4.on (w' := w5) (fun g hg => hg5.block g (by omega) (by simp; omega))
  have hB5 : Below w.heap.size w w5 := hB4.grown hg5 hB4.size (fun k e => by cases e; exact hNw)
  have hN5 := hg5.size
  clear ho4 hg5 hr4 hB4
  go_wp2_with fail
  refine (left_at s N (N + 1) _ w5 hr5 (by rw [HSZ.out]; exact Nat.le_refl _) hsb 0 (by rw [HSZ.out]; omega)).mono ?_
  rintro e w6 ⟨rfl, n6, rfl⟩
  go_wp2_with fail
  refine (end_at s N (N + 1) _ _ (rd_drewN hr5 n6) (by rw [HSZ.out]; exact Nat.le_refl _) hsb 0 (by rw [if_neg (by rw [HSZ.out]; omega)])).mono ?_
  rintro e w7 ⟨rfl, n7, rfl⟩
  have hy2 : (((UInt8.ofNat y.toNat).toNat : Nat) : Int) = y := by rw [UInt8.toNat_ofNat']; omega
  have hcu : (#[Value.int .u8 y] : Array Value).toList.take 1 = Lib.byteCells [UInt8.ofNat y.toNat] := by
    show [Value.int .u8 y] = [Value.int .u8 (((UInt8.ofNat y.toNat).toNat : Nat) : Int)]
    rw [hy2]
  have HCU := hide hcu
  clear hcu hy2
  go_wp2_with ((with_reducible show wpList _ _ _ (⟨some 40, _, _, _, _, _⟩ :: _) _ _); refine law_toString rfl _ _ _ rfl 5 Try.underlying49 Try.underlying5 Try.underlying9 w5.heap.size 1 1 rfl [UInt8.ofNat y.toNat] _ _ _ (heap_alloc_new _ _) rfl HCU.out ?_)
  obtain ⟨s2, hs2⟩ : ∃ s2 : ByteArray, s ++ (⟨#[UInt8.ofNat y.toNat]⟩ : ByteArray) = s2 := ⟨_, rfl⟩
  have hsl2 : s2.data.toList = rowL qs ++ [UInt8.ofNat y.toNat] := by rw [← hs2, ByteArray.data_append, Array.toList_append, HSL.out]
  have hsz2 : s2.size = (rowL qs).length + 1 := by rw [size_list, hsl2, List.length_append]; rfl
  have hsb2 : s2.size ≤ 140737488351232 := by rw [hsz2]; omega
  rw [hs2]
  clear hs2
  have hoW : OutIn L ((w5.drewN (n6 + n7)).alloc (.cells #[.int .u8 y] 5)) u qs := ho5.on fun g hg => ((Below.refl (w5.drewN (n6 + n7)).heap.size (w5.drewN (n6 + n7))).alloc (Nat.le_refl _) _).block g (by show g < w5.heap.size; omega)
  have hBW : Below w.heap.size w ((w5.drewN (n6 + n7)).alloc (.cells #[.int .u8 y] 5)) := (show Below w.heap.size w (w5.drewN (n6 + n7)) from ⟨hB5.os, hB5.tape, hB5.output, hB5.size, hB5.block⟩).alloc (by show w.heap.size ≤ w5.heap.size; omega) _
  have hLW : L ≤ ((w5.drewN (n6 + n7)).alloc (.cells #[.int .u8 y] 5)).heap.size := by rw [World.size_alloc]; show L ≤ w5.heap.size + 1; omega
  obtain ⟨W0, hW0⟩ : ∃ W0, (w5.drewN (n6 + n7)).alloc (.cells #[.int .u8 y] 5) = W0 := ⟨_, rfl⟩
  rw [hW0] at hoW hBW hLW ⊢
  clear hW0 ho5 hB5 hr5
  refine (read_new s2 W0).mono ?_
  rintro e w8 ⟨rfl, hb8, hr8⟩
  have ho8 := hoW.on (w' := w8) (fun g hg => hb8.block g (by omega))
  have hB8 := hBW.trans (hb8.mono hBW.size)
  have hN8 : W0.heap.size < w8.heap.size := block_lt_of_cell hr8.1
  obtain ⟨N2, hN2⟩ : ∃ N2, W0.heap.size = N2 := ⟨_, rfl⟩
  have hN2w : w.heap.size ≤ N2 := by have := hBW.size; omega
  rw [hN2] at hr8 hN8 hLW ⊢
  clear hoW hb8 hBW hN2
  go_wp2_with fail
  refine (reads_out qs u L w8 N2 (N2 + 1) s2 [UInt8.ofNat y.toNat] ho8 hLW HOK.out hlen hN8 hsb2 hsl2 hr8).mono ?_
  rintro e w9 ⟨rfl, hg9, hr9⟩
  have hB9 : Below w.heap.size w w9 := hB8.grown hg9 hB8.size (fun k e => by cases e; exact hN2w)
  clear ho8 hg9 hr8 hB8
  go_wp2_with fail
  refine (left_at s2 N2 (N2 + 1) _ w9 hr9 (by omega) hsb2 1 (by rw [hsz2]; omega)).mono ?_
  rintro e w10 ⟨rfl, n10, rfl⟩
  go_wp2_with fail
  refine (end_at s2 N2 (N2 + 1) _ _ (rd_drewN hr9 n10) (by omega) hsb2 15 (by rw [if_pos (by omega)])).mono ?_
  rintro e w11 ⟨rfl, n11, rfl⟩
  go_wp2
  go_ret
  exact ⟨rfl, ⟨hB9.os, hB9.tape, hB9.output, hB9.size, hB9.block⟩⟩
end Go.Proofs.Ytpkgmoiffegbfaa
