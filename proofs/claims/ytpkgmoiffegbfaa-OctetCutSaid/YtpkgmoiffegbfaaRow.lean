/- Layer 16: a row of parts: the walk through row. Conditions: at most sixteen parts, each text of at most 300 bytes. -/
import Derived.Test.YtpkgmoiffegbfaaPart
import Derived.Test.YtpkgmoiffegbfaaBackLaw
namespace Go.Proofs.Ytpkgmoiffegbfaa
open Go.RowKit Go.BigFrame
set_option maxRecDepth 20000

/-- A part. -/
structure Pt where
  n : Nat
  wd : Nat
  t : ByteArray
  b : Bool
/-- What a part may be. -/
def Pt.ok (p : Pt) : Prop := p.n < 18446744073709551616 ∧ p.wd < 256 ∧ p.t.size ≤ 300
/-- Its bytes. -/
def Pt.bytes (p : Pt) : List UInt8 := if p.b then be 2 p.t.size ++ p.t.data.toList else be (1 + p.wd % 8) (p.n / 256 ^ (7 - p.wd % 8))
def rowL (ps : List Pt) : List UInt8 := ps.flatMap Pt.bytes
/-- Parts as they lie in memory. -/
def PartsAt (w : World) (bk off : Nat) (ps : List Pt) : Prop :=
  ∀ i p, ps[i]? = some p → w.cell? ⟨bk, off + i * 4, none⟩ = some (.int .u64 p.n) ∧ w.cell? ⟨bk, off + i * 4 + 1, none⟩ = some (.int .u8 p.wd) ∧ w.cell? ⟨bk, off + i * 4 + 2, none⟩ = some (.string p.t) ∧ w.cell? ⟨bk, off + i * 4 + 3, none⟩ = some (.bool p.b)

theorem num_any (n wd : Nat) (t : ByteArray) (b : Bool) (w : World) (h1 : wd < 256) (hn : n < 18446744073709551616) :
    Calls Try.prog 42 #[.agg #[.int .u64 n, .int .u8 wd, .string t, .bool b]] w fun e w' => e = .returned (.int .u64 (n / 256 ^ (7 - wd % 8) : Nat)) ∧ Below w.heap.size w w' := by
  have h : wd % 8 = 0 ∨ wd % 8 = 1 ∨ wd % 8 = 2 ∨ wd % 8 = 3 ∨ wd % 8 = 4 ∨ wd % 8 = 5 ∨ wd % 8 = 6 ∨ wd % 8 = 7 := by omega
  rcases h with h | h | h | h | h | h | h | h <;> rw [h]
  · exact num_part1 n wd t b w (by omega) (by omega) (by omega) (by omega) (by omega)
  · exact num_part2 n wd t b w (by omega) (by omega) (by omega) (by omega) (by omega)
  · exact num_part3 n wd t b w (by omega) (by omega) (by omega) (by omega) (by omega)
  · exact num_part4 n wd t b w (by omega) (by omega) (by omega) (by omega) (by omega)
  · exact num_part5 n wd t b w (by omega) (by omega) (by omega) (by omega) (by omega)
  · exact num_part6 n wd t b w (by omega) (by omega) (by omega) (by omega) (by omega)
  · exact num_part7 n wd t b w (by omega) (by omega) (by omega) (by omega) (by omega)
  · exact num_part8 n wd t b w (by omega) (by omega) (by omega) (by omega) (by omega)
theorem put_fitk (s : ByteArray) (x k : Nat) (w : World) (h1 : 1 ≤ k) (h8 : k ≤ 8) (hx : x < 256 ^ k) (hs : s.size ≤ 140737488351232) :
    Calls Try.prog 28 #[.string s, .int .u64 x, .int .i64 k] w fun e w' => e = .returned (.tuple #[.string ⟨(s.data.toList ++ be k x).toArray⟩, .int .i64 0]) ∧ Below w.heap.size w w' := by
  have h : k = 1 ∨ k = 2 ∨ k = 3 ∨ k = 4 ∨ k = 5 ∨ k = 6 ∨ k = 7 ∨ k = 8 := by omega
  rcases h with rfl | rfl | rfl | rfl | rfl | rfl | rfl | rfl
  · exact put_fit1 s x w (by omega) (by omega) hs
  · exact put_fit2 s x w (by omega) (by omega) hs
  · exact put_fit3 s x w (by omega) (by omega) hs
  · exact put_fit4 s x w (by omega) (by omega) hs
  · exact put_fit5 s x w (by omega) (by omega) hs
  · exact put_fit6 s x w (by omega) (by omega) hs
  · exact put_fit7 s x w (by omega) (by omega) hs
  · exact put_fit8 s x w (by omega) (by omega) hs
theorem part_fits (n wd : Nat) (hn : n < 18446744073709551616) : n / 256 ^ (7 - wd % 8) < 256 ^ (1 + wd % 8) := by
  have h : wd % 8 = 0 ∨ wd % 8 = 1 ∨ wd % 8 = 2 ∨ wd % 8 = 3 ∨ wd % 8 = 4 ∨ wd % 8 = 5 ∨ wd % 8 = 6 ∨ wd % 8 = 7 := by omega
  rcases h with h | h | h | h | h | h | h | h <;> rw [h] <;> omega
theorem Pt.len (p : Pt) (h : p.ok) : p.bytes.length ≤ 302 := by
  obtain ⟨_, _, h3⟩ := h
  unfold Pt.bytes
  split
  · rw [List.length_append, be_length, ← size_list]; omega
  · rw [be_length]; omega
theorem rowL_len : ∀ ps : List Pt, (∀ p ∈ ps, p.ok) → (rowL ps).length ≤ 302 * ps.length
  | [], _ => by simp [rowL]
  | p :: ps, h => by
    have h1 := p.len (h p (by simp))
    have h2 := rowL_len ps fun q hq => h q (by simp [hq])
    have e : rowL (p :: ps) = p.bytes ++ rowL ps := rfl
    rw [e, List.length_append, List.length_cons]
    omega
theorem rowL_snoc (ps : List Pt) (j : Nat) (p : Pt) (h : ps[j]? = some p) : rowL (ps.take (j + 1)) = rowL (ps.take j) ++ p.bytes := by
  rw [List.take_add_one, h]
  unfold rowL
  rw [List.flatMap_append]
  simp

set_option maxHeartbeats 1000000 in
theorem row_any (ps : List Pt) (bk off cap : Nat) (w : World) (hok : ∀ p ∈ ps, p.ok) (hl : ps.length ≤ 16) (hat : PartsAt w bk off ps) (hbk : bk < w.heap.size) :
    Calls Try.prog 25 #[.slice (some ⟨bk, off, none⟩) ps.length cap] w fun e w' => e = .returned (.tuple #[.string ⟨(rowL ps).toArray⟩, .bool true]) ∧ Below w.heap.size w w' := by
  go_enter Try.func25, Try.ntmps25
  go_wp2
  go_loopw [4, 5, 6] (fun v4 v5 v6 wr => ∃ (j : Nat) (s : ByteArray), j ≤ ps.length ∧ v5 = .int .i64 j ∧ v4 = .string s ∧ Hid (s = ⟨(rowL (ps.take j)).toArray⟩) ∧ Below w.heap.size w wr) (fun _ v5 _ _ => ps.length - (intOf v5).toNat)
  case atStart => exact ⟨0, ⟨#[]⟩, Nat.zero_le _, rfl, rfl, hide rfl, Below.refl _ _⟩
  case round =>
    obtain ⟨j, s, hj, rfl, rfl, hH, hB⟩ := hrel
    by_cases hlt : j < ps.length
    · obtain ⟨p, hp⟩ : ∃ p, ps[j]? = some p := ⟨_, List.getElem?_eq_getElem hlt⟩
      obtain ⟨q0, q1, q2, q3⟩ := hat j p hp
      have c0 := (hB.cell (p := ⟨bk, off + j * 4, none⟩) hbk).trans q0
      have c1 := (hB.cell (p := ⟨bk, off + j * 4 + 1, none⟩) hbk).trans q1
      have c2 := (hB.cell (p := ⟨bk, off + j * 4 + 2, none⟩) hbk).trans q2
      have c3 := (hB.cell (p := ⟨bk, off + j * 4 + 3, none⟩) hbk).trans q3
      clear q0 q1 q2 q3
      obtain ⟨o1, o2, o3⟩ := hok p (List.mem_of_getElem? hp)
      have hsz : s.size ≤ 140737488351232 := by
        rw [hH.out, size_list]
        have := rowL_len (ps.take j) fun q hq => hok q (List.mem_of_mem_take hq)
        have h2 : (ps.take j).length ≤ 16 := by rw [List.length_take]; omega
        show (rowL (ps.take j)).length ≤ _
        omega
      have htake := rowL_snoc ps j p hp
      cases hb : p.b with
      | true =>
        rw [hb] at c3
        go_wp2_with (go_at_call 10; refine (puttext_fit s p.t _ hsz ?_).mono ?_; omega; rintro e w1 ⟨rfl, hb1⟩)
        refine ⟨⟨j + 1, _, by omega, by simp, rfl, hide ?_, hB.trans (hb1.mono hB.size)⟩, by simp [intOf]; omega⟩
        rw [htake]
        have e : p.bytes = be 2 p.t.size ++ p.t.data.toList := by unfold Pt.bytes; rw [hb]; rfl
        rw [e]
        apply ByteArray.ext
        rw [ByteArray.data_append]
        apply Array.ext'
        rw [Array.toList_append, hH.out]
        simp
      | false =>
        rw [hb] at c3
        have hblk : bk < wr.heap.size := block_lt_of_cell c0
        obtain ⟨X, hX⟩ : ∃ X, p.n / 256 ^ (7 - p.wd % 8) = X := ⟨_, rfl⟩
        obtain ⟨k, hk⟩ : ∃ k, 1 + p.wd % 8 = k := ⟨_, rfl⟩
        have hXk : X < 256 ^ k := by rw [← hX, ← hk]; exact part_fits _ _ o1
        have hN : ∀ w, Calls Try.prog 42 #[.agg #[.int .u64 p.n, .int .u8 p.wd, .string p.t, .bool false]] w fun e w' => e = .returned (.int .u64 X) ∧ Below w.heap.size w w' := fun w => by
          rw [← hX]
          exact num_any p.n p.wd p.t false w o2 o1
        have hW : ∀ w, Calls Try.prog 27 #[.agg #[.int .u64 p.n, .int .u8 p.wd, .string p.t, .bool false]] w fun e w' => e = .returned (.int .i64 k) ∧ Below w.heap.size w w' := fun w => by
          have := width_any p.n p.wd p.t false w (by omega) (by omega)
          rw [show (1 + (p.wd : Int) % 8) = (k : Int) from by omega] at this
          exact this
        have hP := fun w => put_fitk s X k w (by omega) (by omega) hXk hsz
        have HX := hide hX
        have HK := hide hk
        clear hX hk hat
        go_wp2
        refine region_quiet_list (C := Below wr.heap.size wr) (by kernel_rfl) (by kernel_rfl) ((Below.refl _ wr).drew) ?_
        iterate 4 (go_big_quiet_want; go_big_quiet_op; first | go_big_quiet_on | (refine ⟨_, fun _ _ => rfl, ?_⟩; go_big_quiet_on))
        go_big_quiet_want
        go_big_quiet_op
        refine ⟨.agg #[.int .u64 p.n, .int .u8 p.wd, .string p.t, .bool false], fun wq hq => ?_, ?_⟩
        · have q0 := (hq.cell (p := ⟨bk, off + j * 4, none⟩) hblk).trans c0
          have q1 := (hq.cell (p := ⟨bk, off + j * 4 + 1, none⟩) hblk).trans c1
          have q2 := (hq.cell (p := ⟨bk, off + j * 4 + 2, none⟩) hblk).trans c2
          have q3 := (hq.cell (p := ⟨bk, off + j * 4 + 3, none⟩) hblk).trans c3
          simp [q0, q1, q2, q3, Result.andThen]
        go_big_quiet_on
        go_big_quiet_want
        go_big_quiet_op
        refine ⟨.int .u64 X, fun wq hq => (hN wq).mono fun e w' ⟨he, hb⟩ => ⟨he, hq.trans (hb.mono hq.size)⟩, ?_⟩
        go_big_quiet_on
        iterate 3 (go_big_quiet_want; go_big_quiet_op; first | go_big_quiet_on | (refine ⟨_, fun _ _ => rfl, ?_⟩; go_big_quiet_on))
        go_big_quiet_want
        go_big_quiet_op
        refine ⟨.agg #[.int .u64 p.n, .int .u8 p.wd, .string p.t, .bool false], fun wq hq => ?_, ?_⟩
        · have q0 := (hq.cell (p := ⟨bk, off + j * 4, none⟩) hblk).trans c0
          have q1 := (hq.cell (p := ⟨bk, off + j * 4 + 1, none⟩) hblk).trans c1
          have q2 := (hq.cell (p := ⟨bk, off + j * 4 + 2, none⟩) hblk).trans c2
          have q3 := (hq.cell (p := ⟨bk, off + j * 4 + 3, none⟩) hblk).trans c3
          simp [q0, q1, q2, q3, Result.andThen]
        go_big_quiet_on
        go_big_quiet_want
        go_big_quiet_op
        refine ⟨.int .i64 k, fun wq hq => (hW wq).mono fun e w' ⟨he, hb⟩ => ⟨he, hq.trans (hb.mono hq.size)⟩, ?_⟩
        go_big_quiet_on
        go_big_quiet_want
        go_big_quiet_op
        refine ⟨_, fun wq hq => (hP wq).mono fun e w' ⟨he, hb⟩ => ⟨he, hq.trans (hb.mono hq.size)⟩, ?_⟩
        go_big_quiet_on
        iterate 5 (go_big_quiet_want; go_big_quiet_op; first | go_big_quiet_on | (refine ⟨_, fun _ _ => rfl, ?_⟩; go_big_quiet_on))
        refine wpQuiet_nil ?_
        intro wq hq
        go_wp2
        refine ⟨⟨j + 1, _, by omega, by simp, rfl, hide ?_, hB.trans (hq.mono hB.size)⟩, by simp [intOf]; omega⟩
        rw [htake]
        have e : p.bytes = be k X := by
          unfold Pt.bytes
          rw [hb, HX.out, HK.out]
          rfl
        have e2 : s.data.toList = rowL (ps.take j) := by rw [hH.out]
        rw [e, e2]
    · go_wp2
      go_ret2
      have e : ps.take j = ps := List.take_of_length_le (by omega)
      refine ⟨?_, hB⟩
      rw [hH.out, e]
      rfl
end Go.Proofs.Ytpkgmoiffegbfaa
