/- Layer 16: a reader answers the parts of a row: the walk through reads. Conditions: at most sixteen parts, each text of at most 300 bytes. -/
import Derived.Test.YtpkgmoiffegbfaaRow
import Derived.Deep.RegionHeld3
namespace Go.Proofs.Ytpkgmoiffegbfaa
open Go.RowKit Go.BigFrame
set_option maxRecDepth 20000

theorem rd_below {w w' : World} {N M : Nat} {s : ByteArray} {a : Int} {bad : Bool} (h : IsRd w N M s a bad) (g : Below w.heap.size w w') : IsRd w' N M s a bad :=
  h.grown (r := none) ⟨g.os, g.tape, g.output, g.size, fun k hk _ => g.block k hk⟩ (by simp) (by simp) (block_lt_of_cell h.1) (block_lt_of_cell h.2.2.2.2.1)
theorem four_block {w w' : World} {bk o : Nat} {x0 x1 x2 x3 : Value} (h : w.cell? ⟨bk, o, none⟩ = some x0 ∧ w.cell? ⟨bk, o + 1, none⟩ = some x1 ∧ w.cell? ⟨bk, o + 2, none⟩ = some x2 ∧ w.cell? ⟨bk, o + 3, none⟩ = some x3) (hb : w'.heap[bk]? = w.heap[bk]?) :
    w'.cell? ⟨bk, o, none⟩ = some x0 ∧ w'.cell? ⟨bk, o + 1, none⟩ = some x1 ∧ w'.cell? ⟨bk, o + 2, none⟩ = some x2 ∧ w'.cell? ⟨bk, o + 3, none⟩ = some x3 :=
  ⟨(World.cell?_of_block (a := ⟨bk, o, none⟩) hb).trans h.1, (World.cell?_of_block (a := ⟨bk, o + 1, none⟩) hb).trans h.2.1, (World.cell?_of_block (a := ⟨bk, o + 2, none⟩) hb).trans h.2.2.1, (World.cell?_of_block (a := ⟨bk, o + 3, none⟩) hb).trans h.2.2.2⟩
theorem grown_of_below {w w' : World} (h : Below w.heap.size w w') (r : Option Nat) : w.grownBy w' r := ⟨h.os, h.tape, h.output, h.size, fun k hk _ => h.block k hk⟩

set_option maxHeartbeats 4000000 in
theorem reads_row (ps : List Pt) (bk off cap N M : Nat) (s : ByteArray) (A R : List UInt8) (w : World) (hok : ∀ p ∈ ps, p.ok) (hl : ps.length ≤ 16) (hat : PartsAt w bk off ps) (hbk : bk < w.heap.size) (hbN : bk ≠ N) (_hNM : N < w.heap.size)
    (hs : s.size ≤ 140737488351232) (hrow : s.data.toList = A ++ (rowL ps ++ R)) (hrd : IsRd w N M s A.length false) :
    Calls Try.prog 26 #[.pointer (some ⟨N, 0, none⟩), .slice (some ⟨bk, off, none⟩) ps.length cap] w fun e w' => e = .returned (.bool true) ∧ w.grownBy w' (some N) ∧ IsRd w' N M s (A.length + (rowL ps).length : Nat) false := by
  go_enter Try.func26, Try.ntmps26
  go_wp2
  go_loopw [5] (fun v5 wr => ∃ (j : Nat), j ≤ ps.length ∧ v5 = .int .i64 j ∧ Hid (IsRd wr N M s (A.length + (rowL (ps.take j)).length : Nat) false) ∧ w.grownBy wr (some N)) (fun v5 _ => ps.length - (intOf v5).toNat)
  case atStart => exact ⟨0, Nat.zero_le _, rfl, hide (by simpa [rowL] using hrd), grown_self _ _⟩
  case round =>
    obtain ⟨j, hj, rfl, hH, hG⟩ := hrel
    by_cases hlt : j < ps.length
    · obtain ⟨p, hp⟩ : ∃ p, ps[j]? = some p := ⟨_, List.getElem?_eq_getElem hlt⟩
      obtain ⟨q0, q1, q2, q3⟩ := hat j p hp
      have hblk := hG.block bk hbk (by simpa using hbN)
      have c0 := (World.cell?_of_block (a := ⟨bk, off + j * 4, none⟩) hblk).trans q0
      have c1 := (World.cell?_of_block (a := ⟨bk, off + j * 4 + 1, none⟩) hblk).trans q1
      have c2 := (World.cell?_of_block (a := ⟨bk, off + j * 4 + 2, none⟩) hblk).trans q2
      have c3 := (World.cell?_of_block (a := ⟨bk, off + j * 4 + 3, none⟩) hblk).trans q3
      clear q0 q1 q2 q3 hat hrd
      obtain ⟨o1, o2, o3⟩ := hok p (List.mem_of_getElem? hp)
      cases hb : p.b with
      | true =>
        rw [hb] at c3
        have hT : ∀ w', IsRd w' N M s (A.length + (rowL (ps.take j)).length : Nat) false → Calls Try.prog 16 #[.pointer (some ⟨N, 0, none⟩)] w' fun e w'' => e = .returned (.string p.t) ∧ w'.grownBy w'' (some N) ∧ IsRd w'' N M s (A.length + (rowL (ps.take (j + 1))).length : Nat) false := by
          intro w' h
          have e1 : rowL ps = rowL (ps.take j) ++ (p.bytes ++ rowL (ps.drop (j + 1))) := by
            have h1 := rowL_snoc ps j p hp
            have h2 : rowL ps = rowL (ps.take (j + 1)) ++ rowL (ps.drop (j + 1)) := by
              conv => lhs; rw [← List.take_append_drop (j + 1) ps]
              unfold rowL
              rw [List.flatMap_append]
            rw [h2, h1, List.append_assoc]
          have e2 : p.bytes = be 2 p.t.size ++ p.t.data.toList := by unfold Pt.bytes; rw [hb]; rfl
          have hat2 := textS_at s p.t (A ++ rowL (ps.take j)) (rowL (ps.drop (j + 1)) ++ R) (A.length + (rowL (ps.take j)).length) (by rw [hrow, e1, e2]; simp only [List.append_assoc]) (by rw [List.length_append]) (by omega)
          have hsz : A.length + (rowL (ps.take j)).length ≤ s.size := by rw [size_list, hrow, e1]; simp only [List.length_append]; omega
          have hc := otext_any s N M _ false w' h hsz hs
          rw [hat2] at hc
          have hlen : (rowL (ps.take (j + 1))).length = (rowL (ps.take j)).length + (2 + p.t.size) := by rw [rowL_snoc ps j p hp, List.length_append, e2, List.length_append, be_length, ← size_list]
          refine hc.mono ?_
          rintro e w'' ⟨rfl, g, hr⟩
          refine ⟨rfl, g, ?_⟩
          rw [hlen]
          have e5 : A.length + ((rowL (ps.take j)).length + (2 + p.t.size)) = A.length + (rowL (ps.take j)).length + 2 + p.t.size := by omega
          rw [e5]
          exact hr
        have HT := hide hT
        clear hT
        go_wp2
        go_region_held3 (fun w' => w'.cell? ⟨bk, off + j * 4 + 2, none⟩ = some (.string p.t))
          (first | assumption | go_keep)
          (first | (go_at_call 16; refine (HT.out _ ?_).mono ?_; exact hH.out; rintro e w4 ⟨rfl, hg4, hr4⟩; have c2b := (World.cell?_of_block (a := ⟨bk, off + j * 4 + 2, none⟩) (hg4.block bk (block_lt_of_cell c2) (by simpa using hbN))).trans c2))
        all_goals (go_wp2; exact ⟨⟨j + 1, by omega, by simp, hide hr4, grown_trans hG (grown_trans (grown_drew _ _) hg4)⟩, by simp [intOf]; omega⟩)
      | false =>
        rw [hb] at c3
        obtain ⟨X, hX⟩ : ∃ X, p.n / 256 ^ (7 - p.wd % 8) = X := ⟨_, rfl⟩
        obtain ⟨k, hk⟩ : ∃ k, 1 + p.wd % 8 = k := ⟨_, rfl⟩
        have hXk : X < 256 ^ k := by rw [← hX, ← hk]; exact part_fits _ _ o1
        have hNm : ∀ w, Calls Try.prog 42 #[.agg #[.int .u64 p.n, .int .u8 p.wd, .string p.t, .bool false]] w fun e w' => e = .returned (.int .u64 X) ∧ Below w.heap.size w w' := fun w => by
          rw [← hX]
          exact num_any p.n p.wd p.t false w o2 o1
        have hWd : ∀ w, Calls Try.prog 27 #[.agg #[.int .u64 p.n, .int .u8 p.wd, .string p.t, .bool false]] w fun e w' => e = .returned (.int .i64 k) ∧ Below w.heap.size w w' := fun w => by
          have := width_any p.n p.wd p.t false w (by omega) (by omega)
          rw [show (1 + (p.wd : Int) % 8) = (k : Int) from by omega] at this
          exact this
        have hT : ∀ w', IsRd w' N M s (A.length + (rowL (ps.take j)).length : Nat) false → Calls Try.prog 18 #[.pointer (some ⟨N, 0, none⟩), .int .i64 k] w' fun e w'' => e = .returned (.int .u64 X) ∧ w'.grownBy w'' (some N) ∧ IsRd w'' N M s (A.length + (rowL (ps.take (j + 1))).length : Nat) false := by
          intro w' h
          have e1 : rowL ps = rowL (ps.take j) ++ (p.bytes ++ rowL (ps.drop (j + 1))) := by
            have h1 := rowL_snoc ps j p hp
            have h2 : rowL ps = rowL (ps.take (j + 1)) ++ rowL (ps.drop (j + 1)) := by
              conv => lhs; rw [← List.take_append_drop (j + 1) ps]
              unfold rowL
              rw [List.flatMap_append]
            rw [h2, h1, List.append_assoc]
          have e2 : p.bytes = be k X := by unfold Pt.bytes; rw [hb, hX, hk]; rfl
          have hat2 := numS_at s (A ++ rowL (ps.take j)) (rowL (ps.drop (j + 1)) ++ R) (A.length + (rowL (ps.take j)).length) k X (by rw [hrow, e1, e2]; simp only [List.append_assoc]) (by rw [List.length_append]) (by omega) (by omega) hXk
          have hsz : A.length + (rowL (ps.take j)).length ≤ s.size := by rw [size_list, hrow, e1]; simp only [List.length_append]; omega
          have hc := onum_any s N M _ k false w' h hsz hs
          rw [hat2] at hc
          have hlen : (rowL (ps.take (j + 1))).length = (rowL (ps.take j)).length + k := by rw [rowL_snoc ps j p hp, List.length_append, e2, be_length]
          refine hc.mono ?_
          rintro e w'' ⟨rfl, g, hr⟩
          refine ⟨rfl, g, ?_⟩
          rw [hlen, ← Nat.add_assoc]
          exact hr
        have HT := hide hT
        have HX := hide hX
        have HK := hide hk
        clear hT hX hk hXk
        have S0 := And.intro c0 (And.intro c1 (And.intro c2 c3))
        have B0 := block_lt_of_cell c0
        go_wp2
        go_region_held3 (fun w' => w'.cell? ⟨bk, off + j * 4, none⟩ = some (.int .u64 p.n) ∧ w'.cell? ⟨bk, off + j * 4 + 1, none⟩ = some (.int .u8 p.wd) ∧ w'.cell? ⟨bk, off + j * 4 + 2, none⟩ = some (.string p.t) ∧ w'.cell? ⟨bk, off + j * 4 + 3, none⟩ = some (.bool false))
          (first | assumption | go_keep)
          (first
            | (go_at_call 27; refine (hWd _).mono ?_; rintro e w4 ⟨rfl, hb4⟩; have S4 := four_block S0 (hb4.block bk B0); have B4 := Nat.lt_of_lt_of_le B0 hb4.size; have hR4 := hide (rd_below hH.out.drew hb4))
            | (go_at_call 18; refine (HT.out _ ?_).mono ?_; exact hR4.out; rintro e w5 ⟨rfl, hg5, hr5⟩; have S5 := four_block S4 (hg5.block bk B4 (by simpa using hbN)); have B5 := Nat.lt_of_lt_of_le B4 hg5.size)
            | (go_at_call 42; refine (hNm _).mono ?_; rintro e w6 ⟨rfl, hb6⟩; have S6 := four_block S5 (hb6.block bk B5)))
        all_goals (go_wp2; exact ⟨⟨j + 1, by omega, by simp, hide (rd_below hr5 hb6), grown_trans hG (grown_trans (grown_drew _ _) (grown_trans (grown_of_below hb4 _) (grown_trans hg5 (grown_of_below hb6 _))))⟩, by simp [intOf]; omega⟩)
    · go_wp2
      have e : ps.take j = ps := List.take_of_length_le (by omega)
      have h := hH.out
      rw [e] at h
      go_ret
      exact ⟨rfl, hG, h⟩
end Go.Proofs.Ytpkgmoiffegbfaa
