/- Layer 16: a reader answers, step by step, as the document says: the walk through OctetReads. Condition: the text has at most 140737488351232 bytes. -/
import Derived.Test.YtchjfipgipikpaaReader2
namespace Go.Proofs.Ytchjfipgipikpaa
open Go.RowKit Go.BigFrame
set_option maxRecDepth 20000

theorem reads_start {w : World} {s : ByteArray} {N M : Nat} (hr : IsRd w N M s 0 false) (hs : s.size ≤ 140737488351232) :
    Both (w.alloc (.cells #[.string s, .bool false] 37)) N M w.heap.size s 0 false := by
  have hn := heap_alloc_new w (.cells #[.string s, .bool false] 37)
  have h1 := block_lt_of_cell hr.1
  have h2 := block_lt_of_cell hr.2.2.2.2.1
  refine ⟨⟨hr.grown (r := none) (World.grownBy_alloc _ _ _) (by simp) (by simp) h1 h2, (by have h1' : N < w.heap.size := h1; simp; omega), (by have h2' : M < w.heap.size := h2; simp; omega)⟩, ⟨⟨s, cellAt hn rfl, cellAt hn rfl, openAt hn, openAt hn, hs, fun _ => ?_⟩, by simp⟩, Nat.ne_of_lt h1, Nat.ne_of_lt h2⟩
  exact (ByteArray.extract_zero_size).symm

theorem reads_then {B : Nat} {a b c : World} {N : Nat} (h : Below B a b) (hN : B ≤ N) (g : b.grownBy c (some N)) (hB : B ≤ b.heap.size) : Below B a c := below_grown h g hB (fun k e => by cases e; exact hN)
theorem reads_drew {B : Nat} {a b : World} (h : Below B a b) (n : Nat) : Below B a (b.drewN n) := ⟨h.os, h.tape, h.output, h.size, h.block⟩

set_option maxHeartbeats 8000000 in
theorem reads_any (s : ByteArray) (ao : Option Addr) (len cap : Nat) (w : World) (hs : s.size ≤ 140737488351232) (hlen : len ≤ 9223372036854775807)
    (hcell : ∀ i, i < len → ∃ (b off : Nat) (z : Int), ao = some ⟨b, off, none⟩ ∧ w.cell? ⟨b, off + i, none⟩ = some (.int .i8 z) ∧ -128 ≤ z ∧ z ≤ 127) :
    Calls Try.prog 4 #[.string s, .slice ao len cap] w fun e w' => e = .returned (.bool true) ∧ Below w.heap.size w w' := by
  have HC := hide hcell
  clear hcell
  go_enter Try.func4, Try.ntmps4
  go_wp2_with (first
    | (go_at_call 14; refine (works_any _).mono ?_; rintro e w1 ⟨rfl, hb1⟩)
    | (go_at_call 15; refine (read_new _ _).mono ?_; rintro e w2 ⟨rfl, hb2, hr2⟩; have hBo := hide (reads_start hr2 hs); have hB := hide ((hb1.trans (hb2.mono hb1.size)).alloc (Nat.le_trans hb1.size hb2.size) (.cells #[.string s, .bool false] 37)); have hN := hb1.size; have hK := Nat.le_trans hb1.size hb2.size))
  obtain ⟨N, hNe⟩ : ∃ N, N = w1.heap.size := ⟨_, rfl⟩
  obtain ⟨K, hKe⟩ : ∃ K, K = w2.heap.size := ⟨_, rfl⟩
  rw [← hNe] at hBo hN ⊢
  rw [← hKe] at hBo hK ⊢
  clear hNe hKe hr2 hb2 hb1
  generalize (w2.alloc (.cells #[.string s, .bool false] 37)) = w3 at hBo hB ⊢
  go_loopw [7, 8, 9, 10, 11, 12] (fun v7 v8 v9 v10 v11 v12 wr => ∃ (j a : Nat) (bad : Bool), j ≤ len ∧ v7 = .int .i64 j ∧ a ≤ s.size ∧ Hid (Both wr N (N + 1) K s a bad) ∧ Hid (Below w.heap.size w wr)) (fun v7 _ _ _ _ _ _ => 30 - (intOf v7).toNat)
  case atStart => exact ⟨0, 0, false, Nat.zero_le _, rfl, Nat.zero_le _, hBo, hB⟩
  case round =>
    obtain ⟨j, a, bad, hj, rfl, ha, hBo, hB⟩ := hrel
    by_cases hlt : j < len ∧ j < 30
    · obtain ⟨l1, l2⟩ := hlt
      obtain ⟨b, off, z, rfl, hz, z1, z2⟩ := HC.out j l1
      have hc : wr.cell? ⟨b, off + j, none⟩ = some (.int .i8 z) := (hB.out.cell (p := ⟨b, off + j, none⟩) (block_lt_of_cell hz)).trans hz
      clear hz HC
      have hzw : IntKind.i64.wrap z = z := wrap64 (by omega) (by omega)
      by_cases h100 : z = 100
      · subst h100
        go_wp2_with (first
      | (go_at_call 16; refine (both_text1 hBo.out ha hs).mono ?_; rintro e w4 ⟨rfl, hg, hM⟩; replace hM := hide hM; replace hB := hide (reads_then hB.out hN hg hB.out.size); clear hg hBo)
      | (go_at_call 17; refine (both_text2 hM.out ha hs).mono ?_; rintro e w5 ⟨rfl, hg, hBo⟩; replace hBo := hide hBo; replace hB := hide (reads_then hB.out hK hg hB.out.size); have ha2 := textS_le s a bad ha; clear hg hM)
      | (go_at_call 18; refine (both_num1 z hBo.out ha hs).mono ?_; rintro e w4 ⟨rfl, hg, hM⟩; replace hM := hide hM; replace hB := hide (reads_then hB.out hN hg hB.out.size); clear hg hBo)
      | (go_at_call 19; refine (both_num2 z hM.out ha hs).mono ?_; rintro e w5 ⟨rfl, hg, hBo⟩; replace hBo := hide hBo; replace hB := hide (reads_then hB.out hK hg hB.out.size); have ha2 := numS_le s a bad z ha; clear hg hM)
      | (go_at_call 20; refine (both_left1 hBo.out ha2 hs).mono ?_; rintro e w6 ⟨rfl, k1, rfl⟩)
      | (go_at_call 21; refine (both_left2 (hBo.out.drewN _) ha2).mono ?_; rintro e w7 ⟨rfl, k2, rfl⟩)
      | (go_at_call 22; refine (both_end1 (hBo.out.drewN _) ha2 hs).mono ?_; rintro e w8 ⟨rfl, k3, rfl⟩)
      | (go_at_call 23; refine (both_end2 (hBo.out.drewN _) ha2).mono ?_; rintro e w9 ⟨rfl, k4, rfl⟩))
        all_goals exact ⟨⟨j + 1, _, _, by omega, by simp, ha2, hide (hBo.out.drewN _), hide (reads_drew hB.out _)⟩, by simp [intOf]; omega⟩
      · have hne : (z == 100) = false := by rw [beq_eq_false_iff_ne]; exact h100
        go_wp2_with (first
      | (go_at_call 16; refine (both_text1 hBo.out ha hs).mono ?_; rintro e w4 ⟨rfl, hg, hM⟩; replace hM := hide hM; replace hB := hide (reads_then hB.out hN hg hB.out.size); clear hg hBo)
      | (go_at_call 17; refine (both_text2 hM.out ha hs).mono ?_; rintro e w5 ⟨rfl, hg, hBo⟩; replace hBo := hide hBo; replace hB := hide (reads_then hB.out hK hg hB.out.size); have ha2 := textS_le s a bad ha; clear hg hM)
      | (go_at_call 18; refine (both_num1 z hBo.out ha hs).mono ?_; rintro e w4 ⟨rfl, hg, hM⟩; replace hM := hide hM; replace hB := hide (reads_then hB.out hN hg hB.out.size); clear hg hBo)
      | (go_at_call 19; refine (both_num2 z hM.out ha hs).mono ?_; rintro e w5 ⟨rfl, hg, hBo⟩; replace hBo := hide hBo; replace hB := hide (reads_then hB.out hK hg hB.out.size); have ha2 := numS_le s a bad z ha; clear hg hM)
      | (go_at_call 20; refine (both_left1 hBo.out ha2 hs).mono ?_; rintro e w6 ⟨rfl, k1, rfl⟩)
      | (go_at_call 21; refine (both_left2 (hBo.out.drewN _) ha2).mono ?_; rintro e w7 ⟨rfl, k2, rfl⟩)
      | (go_at_call 22; refine (both_end1 (hBo.out.drewN _) ha2 hs).mono ?_; rintro e w8 ⟨rfl, k3, rfl⟩)
      | (go_at_call 23; refine (both_end2 (hBo.out.drewN _) ha2).mono ?_; rintro e w9 ⟨rfl, k4, rfl⟩))
        all_goals exact ⟨⟨j + 1, _, _, by omega, by simp, ha2, hide (hBo.out.drewN _), hide (reads_drew hB.out _)⟩, by simp [intOf]; omega⟩
    · by_cases l1 : j < len
      · have l2 : ¬ j < 30 := by omega
        clear hlt HC
        go_wp2_with (first
      | (go_at_call 16; refine (both_text1 hBo.out ha hs).mono ?_; rintro e w4 ⟨rfl, hg, hM⟩; replace hM := hide hM; replace hB := hide (reads_then hB.out hN hg hB.out.size); clear hg hBo)
      | (go_at_call 17; refine (both_text2 hM.out ha hs).mono ?_; rintro e w5 ⟨rfl, hg, hBo⟩; replace hBo := hide hBo; replace hB := hide (reads_then hB.out hK hg hB.out.size); have ha2 := textS_le s a bad ha; clear hg hM)
      | (go_at_call 18; refine (both_num1 z hBo.out ha hs).mono ?_; rintro e w4 ⟨rfl, hg, hM⟩; replace hM := hide hM; replace hB := hide (reads_then hB.out hN hg hB.out.size); clear hg hBo)
      | (go_at_call 19; refine (both_num2 z hM.out ha hs).mono ?_; rintro e w5 ⟨rfl, hg, hBo⟩; replace hBo := hide hBo; replace hB := hide (reads_then hB.out hK hg hB.out.size); have ha2 := numS_le s a bad z ha; clear hg hM)
      | (go_at_call 20; refine (both_left1 hBo.out ha hs).mono ?_; rintro e w6 ⟨rfl, k1, rfl⟩)
      | (go_at_call 21; refine (both_left2 (hBo.out.drewN _) ha).mono ?_; rintro e w7 ⟨rfl, k2, rfl⟩)
      | (go_at_call 22; refine (both_end1 (hBo.out.drewN _) ha hs).mono ?_; rintro e w8 ⟨rfl, k3, rfl⟩)
      | (go_at_call 23; refine (both_end2 (hBo.out.drewN _) ha).mono ?_; rintro e w9 ⟨rfl, k4, rfl⟩))
        all_goals (go_ret; exact ⟨rfl, reads_drew hB.out _⟩)
      · clear hlt HC
        go_wp2_with (first
      | (go_at_call 16; refine (both_text1 hBo.out ha hs).mono ?_; rintro e w4 ⟨rfl, hg, hM⟩; replace hM := hide hM; replace hB := hide (reads_then hB.out hN hg hB.out.size); clear hg hBo)
      | (go_at_call 17; refine (both_text2 hM.out ha hs).mono ?_; rintro e w5 ⟨rfl, hg, hBo⟩; replace hBo := hide hBo; replace hB := hide (reads_then hB.out hK hg hB.out.size); have ha2 := textS_le s a bad ha; clear hg hM)
      | (go_at_call 18; refine (both_num1 z hBo.out ha hs).mono ?_; rintro e w4 ⟨rfl, hg, hM⟩; replace hM := hide hM; replace hB := hide (reads_then hB.out hN hg hB.out.size); clear hg hBo)
      | (go_at_call 19; refine (both_num2 z hM.out ha hs).mono ?_; rintro e w5 ⟨rfl, hg, hBo⟩; replace hBo := hide hBo; replace hB := hide (reads_then hB.out hK hg hB.out.size); have ha2 := numS_le s a bad z ha; clear hg hM)
      | (go_at_call 20; refine (both_left1 hBo.out ha hs).mono ?_; rintro e w6 ⟨rfl, k1, rfl⟩)
      | (go_at_call 21; refine (both_left2 (hBo.out.drewN _) ha).mono ?_; rintro e w7 ⟨rfl, k2, rfl⟩)
      | (go_at_call 22; refine (both_end1 (hBo.out.drewN _) ha hs).mono ?_; rintro e w8 ⟨rfl, k3, rfl⟩)
      | (go_at_call 23; refine (both_end2 (hBo.out.drewN _) ha).mono ?_; rintro e w9 ⟨rfl, k4, rfl⟩))
        all_goals (go_ret; exact ⟨rfl, reads_drew hB.out _⟩)
end Go.Proofs.Ytchjfipgipikpaa
