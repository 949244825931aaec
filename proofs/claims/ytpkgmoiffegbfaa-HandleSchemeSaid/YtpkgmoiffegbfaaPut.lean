/- What octet.Put and octet.Get compute, of all texts, numbers and widths: the walks through their text. Conditions: a text of Put's has at most 140737488351232 bytes. -/
import Derived.Test.YtpkgmoiffegbfaaChecked
import Derived.Test.YtpkgmoiffegbfaaKit
import Derived.StillTailTactics
namespace Go.Proofs.Ytpkgmoiffegbfaa
open Go.RowKit
set_option maxRecDepth 20000

/-- A number's bytes, so many, the highest first. -/
def be : Nat → Nat → List UInt8
  | 0, _ => []
  | w + 1, n => be w (n / 256) ++ [UInt8.ofNat (n % 256)]

theorem be_length : ∀ w n, (be w n).length = w
  | 0, _ => rfl
  | w + 1, n => by simp [be, be_length w]

theorem splice_full {α : Type} (z : α) (a b : Nat) (X Y : List α) (hX : X.length = a) (hY : Y.length = b) :
    splice (splice (List.replicate (a + b) z) 0 X) a Y = X ++ Y := by
  subst hX; subst hY
  simp [splice]

theorem cells_at {w : World} {g off : Nat} {cur : Array Value} {t : TypeId} {fr : Nat × Nat} (h : w.heap[g]? = some (.cells cur t fr)) {cs : List Value}
    (hc : ∀ j v, cs[j]? = some v → cur[off + j]? = some v) : ∀ j v, cs[j]? = some v → w.cell? ((⟨g, off, none⟩ : Addr).add j) = some v := by
  intro j v hj
  rw [Addr.add_lit]
  simp [World.cell?, h, hc j v hj]

theorem byteCells_append (a b : List UInt8) : Lib.byteCells (a ++ b) = Lib.byteCells a ++ Lib.byteCells b := by simp [Lib.byteCells]

theorem infoU8 : (Try.prog.info? 5).map (fun i => (i.zero, i.size, i.bytes)) = some (some (.int .u8 0), 1, 1) := by kernel_rfl
theorem sizeU8 : (Try.prog.info? 5).map (·.size) = some 1 := by kernel_rfl

theorem wide_yes (n : Int) (w : World) (h1 : 1 ≤ n) (h8 : n ≤ 8) :
    Calls Try.prog 41 #[.int .i64 n] w fun e w' => e = .returned (.bool true) ∧ w = w' := by
  go_enter Try.func41, Try.ntmps41
  go_wp2
  all_goals (go_ret; exact ⟨by simp [*], rfl⟩)
theorem wide_no (n : Int) (w : World) (h1 : n < 1 ∨ 8 < n) :
    Calls Try.prog 41 #[.int .i64 n] w fun e w' => e = .returned (.bool false) ∧ w = w' := by
  rcases h1 with h | h
  · go_enter Try.func41, Try.ntmps41
    go_wp2
    all_goals (go_ret; exact ⟨by simp, rfl⟩)
  · have h' : ¬ n ≤ 8 := by omega
    go_enter Try.func41, Try.ntmps41
    go_wp2
    all_goals (go_ret; exact ⟨by simp [*], rfl⟩)

theorem put_arg (s : ByteArray) (n width : Int) (w : World) (h1 : width < 1 ∨ 8 < width) :
    Calls Try.prog 28 #[.string s, .int .u64 n, .int .i64 width] w fun e w' => e = .returned (.tuple #[.string ⟨#[]⟩, .int .i64 2]) ∧ w = w' := by
  go_enter Try.func28, Try.ntmps28
  go_wp2_with (go_at_call 41; refine (wide_no _ _ h1).mono ?_; rintro e w' ⟨rfl, rfl⟩)
  go_ret2
  exact ⟨rfl, rfl⟩

set_option maxHeartbeats 2000000 in
theorem put_fit1 (s : ByteArray) (n : Int) (w : World) (hn0 : 0 ≤ n) (hn : n < 256) (hs : s.size ≤ 140737488351232) :
    Calls Try.prog 28 #[.string s, .int .u64 n, .int .i64 1] w fun e w' => e = .returned (.tuple #[.string ⟨(s.data.toList ++ be 1 n.toNat).toArray⟩, .int .i64 0]) ∧ Below w.heap.size w w' := by
  have hbe := hide (show ([.int .u8 (n)] : List Value) = Lib.byteCells (be 1 n.toNat) from by
    simp only [be, Lib.byteCells, List.nil_append, List.map_cons, List.map_nil, UInt8.toNat_ofNat']
    congr 2; omega)
  have g7 : n / 72057594037927936 = 0 := by omega
  have g6 : n / 281474976710656 = 0 := by omega
  have g5 : n / 1099511627776 = 0 := by omega
  have g4 : n / 4294967296 = 0 := by omega
  have g3 : n / 16777216 = 0 := by omega
  have g2 : n / 65536 = 0 := by omega
  have g1 : n / 256 = 0 := by omega
  go_enter Try.func28, Try.ntmps28
  go_wp2_with (go_at_call 41; refine (wide_yes _ _ (by omega) (by omega)).mono ?_; rintro e w' ⟨rfl, rfl⟩)
  refine wp_loop_rounds 9 ?_
  iterate 9 (rw [rounds_succ]; go_wp2)
  refine wp_loop_rounds 8 ?_
  iterate 7 (rw [rounds_succ]; go_wp2)
  rw [rounds_succ]
  go_wp2_with (first | (at_make; refine law_make rfl _ _ _ rfl 5 (.int .u8 0) 1 Try.underlying49 infoU8 rfl .i64 .i64 (s.size + 1) (s.size + 1) (s.size + 1) rfl rfl (by omega) (by omega) (by omega) (by omega) ?_; intro w1 hg1 hw1 hz1) | (with_reducible show wpList _ _ _ (⟨some 48, _, _, _, _, _⟩ :: _) _ _; refine law_copy_str rfl _ _ _ _ rfl 5 Try.underlying49 sizeU8 (w.heap.size + 1) 0 _ _ s rfl rfl (List.replicate (s.size + 1) (.int .u8 0)) 5 (by simpa using hg1.out) (by omega) (by simp) ?_; intro w2 hg2 hw2))
  have hl1 : (s.size : Int) ≤ (s.size : Int) + 1 := by omega
  have hwr : IntKind.i64.wrap 7 = 7 := rfl
  go_still_tail 7, (by kernel_rfl)
  change wpList _ _ _ _ _ w2.drew
  have hA : w2.drew.heap[w.heap.size]? = some (.cells #[.int .u8 0, .int .u8 0, .int .u8 0, .int .u8 0, .int .u8 0, .int .u8 0, .int .u8 0, .int .u8 (n)] 80 (0, 0)) := grown_keeps hw2 (grown_keeps hw1 (by show (w.heap.push _)[w.heap.size]? = _; simp) (by simp)) (by simp)
  have hAc := cells_at (off := 7) (cs := [.int .u8 (n)]) hA (by intro j v hj; match j, hj with
    | 0, hj => exact hj
    )
  have hB1 : Below w.heap.size w w2.drew := ((below_grown (below_grown ((Below.refl _ w).alloc (Nat.le_refl _) _) hw1 (by simp) (by intro k e; cases e)) hw2 (by simp at hz1; omega) (by intro k e; cases e; omega))).drew
  have hz2 : w.heap.size ≤ w2.heap.size := hB1.size
  clear hA hl1 hwr
  refine law_copy rfl _ _ _ _ rfl 5 Try.underlying49 sizeU8 (w.heap.size + 1) s.size 1 1 ⟨w.heap.size, 7, none⟩ 1 1 (by simp [Act.eval]) (by simp [Act.eval]) (splice (List.replicate (s.size + 1) (Value.int IntKind.u8 0)) 0 (Lib.byteCells s.data.toList)) 5 hg2.out [.int .u8 (n)] rfl hAc (by simp [splice, Lib.byteCells_length]) (by simp [Value.oneCell']) ?_
  intro w3 hg3 hw3
  go_wp2_with (with_reducible show wpList _ _ _ (⟨some 58, _, _, _, _, _⟩ :: _) _ _; refine law_toString rfl _ _ _ rfl 5 Try.underlying49 Try.underlying5 Try.underlying9 (w.heap.size + 1) (s.size + 1) (s.size + 1) rfl (s.data.toList ++ be 1 n.toNat) _ _ _ hg3.out (by simp [be_length]) (by rw [hbe.out, byteCells_append, splice_full _ s.size 1 _ _ (by rw [Lib.byteCells_length, ← Lib.size_eq]) (by rw [Lib.byteCells_length, be_length])]; exact List.take_of_length_le (by simp [Lib.byteCells_length, be_length])) ?_)
  go_ret2
  exact ⟨rfl, below_grown hB1 hw3 hz2 (by intro k e; cases e; omega)⟩

set_option maxHeartbeats 2000000 in
theorem put_fit2 (s : ByteArray) (n : Int) (w : World) (hn0 : 0 ≤ n) (hn : n < 65536) (hs : s.size ≤ 140737488351232) :
    Calls Try.prog 28 #[.string s, .int .u64 n, .int .i64 2] w fun e w' => e = .returned (.tuple #[.string ⟨(s.data.toList ++ be 2 n.toNat).toArray⟩, .int .i64 0]) ∧ Below w.heap.size w w' := by
  have hbe := hide (show ([.int .u8 (n / 256), .int .u8 (n % 256)] : List Value) = Lib.byteCells (be 2 n.toNat) from by
    simp only [be, Lib.byteCells, List.nil_append, List.cons_append, List.map_cons, List.map_nil, UInt8.toNat_ofNat']
    simp only [List.cons.injEq, Value.int.injEq, true_and, and_true]; omega)
  have g7 : n / 72057594037927936 = 0 := by omega
  have g6 : n / 281474976710656 = 0 := by omega
  have g5 : n / 1099511627776 = 0 := by omega
  have g4 : n / 4294967296 = 0 := by omega
  have g3 : n / 16777216 = 0 := by omega
  have g2 : n / 65536 = 0 := by omega
  go_enter Try.func28, Try.ntmps28
  go_wp2_with (go_at_call 41; refine (wide_yes _ _ (by omega) (by omega)).mono ?_; rintro e w' ⟨rfl, rfl⟩)
  refine wp_loop_rounds 9 ?_
  iterate 9 (rw [rounds_succ]; go_wp2)
  refine wp_loop_rounds 7 ?_
  iterate 6 (rw [rounds_succ]; go_wp2)
  rw [rounds_succ]
  go_wp2_with (first | (at_make; refine law_make rfl _ _ _ rfl 5 (.int .u8 0) 1 Try.underlying49 infoU8 rfl .i64 .i64 (s.size + 2) (s.size + 2) (s.size + 2) rfl rfl (by omega) (by omega) (by omega) (by omega) ?_; intro w1 hg1 hw1 hz1) | (with_reducible show wpList _ _ _ (⟨some 48, _, _, _, _, _⟩ :: _) _ _; refine law_copy_str rfl _ _ _ _ rfl 5 Try.underlying49 sizeU8 (w.heap.size + 1) 0 _ _ s rfl rfl (List.replicate (s.size + 2) (.int .u8 0)) 5 (by simpa using hg1.out) (by omega) (by simp) ?_; intro w2 hg2 hw2))
  have hl1 : (s.size : Int) ≤ (s.size : Int) + 2 := by omega
  have hwr : IntKind.i64.wrap 6 = 6 := rfl
  go_still_tail 7, (by kernel_rfl)
  change wpList _ _ _ _ _ w2.drew
  have hA : w2.drew.heap[w.heap.size]? = some (.cells #[.int .u8 0, .int .u8 0, .int .u8 0, .int .u8 0, .int .u8 0, .int .u8 0, .int .u8 (n / 256), .int .u8 (n % 256)] 80 (0, 0)) := grown_keeps hw2 (grown_keeps hw1 (by show (w.heap.push _)[w.heap.size]? = _; simp) (by simp)) (by simp)
  have hAc := cells_at (off := 6) (cs := [.int .u8 (n / 256), .int .u8 (n % 256)]) hA (by intro j v hj; match j, hj with
    | 0, hj => exact hj
    | 1, hj => exact hj
    )
  have hB1 : Below w.heap.size w w2.drew := ((below_grown (below_grown ((Below.refl _ w).alloc (Nat.le_refl _) _) hw1 (by simp) (by intro k e; cases e)) hw2 (by simp at hz1; omega) (by intro k e; cases e; omega))).drew
  have hz2 : w.heap.size ≤ w2.heap.size := hB1.size
  clear hA hl1 hwr
  refine law_copy rfl _ _ _ _ rfl 5 Try.underlying49 sizeU8 (w.heap.size + 1) s.size 2 2 ⟨w.heap.size, 6, none⟩ 2 2 (by simp [Act.eval]) (by simp [Act.eval]) (splice (List.replicate (s.size + 2) (Value.int IntKind.u8 0)) 0 (Lib.byteCells s.data.toList)) 5 hg2.out [.int .u8 (n / 256), .int .u8 (n % 256)] rfl hAc (by simp [splice, Lib.byteCells_length]) (by simp [Value.oneCell']) ?_
  intro w3 hg3 hw3
  go_wp2_with (with_reducible show wpList _ _ _ (⟨some 58, _, _, _, _, _⟩ :: _) _ _; refine law_toString rfl _ _ _ rfl 5 Try.underlying49 Try.underlying5 Try.underlying9 (w.heap.size + 1) (s.size + 2) (s.size + 2) rfl (s.data.toList ++ be 2 n.toNat) _ _ _ hg3.out (by simp [be_length]) (by rw [hbe.out, byteCells_append, splice_full _ s.size 2 _ _ (by rw [Lib.byteCells_length, ← Lib.size_eq]) (by rw [Lib.byteCells_length, be_length])]; exact List.take_of_length_le (by simp [Lib.byteCells_length, be_length])) ?_)
  go_ret2
  exact ⟨rfl, below_grown hB1 hw3 hz2 (by intro k e; cases e; omega)⟩

set_option maxHeartbeats 2000000 in
theorem put_fit3 (s : ByteArray) (n : Int) (w : World) (hn0 : 0 ≤ n) (hn : n < 16777216) (hs : s.size ≤ 140737488351232) :
    Calls Try.prog 28 #[.string s, .int .u64 n, .int .i64 3] w fun e w' => e = .returned (.tuple #[.string ⟨(s.data.toList ++ be 3 n.toNat).toArray⟩, .int .i64 0]) ∧ Below w.heap.size w w' := by
  have hbe := hide (show ([.int .u8 (n / 65536), .int .u8 (n / 256 % 256), .int .u8 (n % 256)] : List Value) = Lib.byteCells (be 3 n.toNat) from by
    simp only [be, Lib.byteCells, List.nil_append, List.cons_append, List.map_cons, List.map_nil, UInt8.toNat_ofNat']
    simp only [List.cons.injEq, Value.int.injEq, true_and, and_true]; omega)
  have g7 : n / 72057594037927936 = 0 := by omega
  have g6 : n / 281474976710656 = 0 := by omega
  have g5 : n / 1099511627776 = 0 := by omega
  have g4 : n / 4294967296 = 0 := by omega
  have g3 : n / 16777216 = 0 := by omega
  go_enter Try.func28, Try.ntmps28
  go_wp2_with (go_at_call 41; refine (wide_yes _ _ (by omega) (by omega)).mono ?_; rintro e w' ⟨rfl, rfl⟩)
  refine wp_loop_rounds 9 ?_
  iterate 9 (rw [rounds_succ]; go_wp2)
  refine wp_loop_rounds 6 ?_
  iterate 5 (rw [rounds_succ]; go_wp2)
  rw [rounds_succ]
  go_wp2_with (first | (at_make; refine law_make rfl _ _ _ rfl 5 (.int .u8 0) 1 Try.underlying49 infoU8 rfl .i64 .i64 (s.size + 3) (s.size + 3) (s.size + 3) rfl rfl (by omega) (by omega) (by omega) (by omega) ?_; intro w1 hg1 hw1 hz1) | (with_reducible show wpList _ _ _ (⟨some 48, _, _, _, _, _⟩ :: _) _ _; refine law_copy_str rfl _ _ _ _ rfl 5 Try.underlying49 sizeU8 (w.heap.size + 1) 0 _ _ s rfl rfl (List.replicate (s.size + 3) (.int .u8 0)) 5 (by simpa using hg1.out) (by omega) (by simp) ?_; intro w2 hg2 hw2))
  have hl1 : (s.size : Int) ≤ (s.size : Int) + 3 := by omega
  have hwr : IntKind.i64.wrap 5 = 5 := rfl
  go_still_tail 7, (by kernel_rfl)
  change wpList _ _ _ _ _ w2.drew
  have hA : w2.drew.heap[w.heap.size]? = some (.cells #[.int .u8 0, .int .u8 0, .int .u8 0, .int .u8 0, .int .u8 0, .int .u8 (n / 65536), .int .u8 (n / 256 % 256), .int .u8 (n % 256)] 80 (0, 0)) := grown_keeps hw2 (grown_keeps hw1 (by show (w.heap.push _)[w.heap.size]? = _; simp) (by simp)) (by simp)
  have hAc := cells_at (off := 5) (cs := [.int .u8 (n / 65536), .int .u8 (n / 256 % 256), .int .u8 (n % 256)]) hA (by intro j v hj; match j, hj with
    | 0, hj => exact hj
    | 1, hj => exact hj
    | 2, hj => exact hj
    )
  have hB1 : Below w.heap.size w w2.drew := ((below_grown (below_grown ((Below.refl _ w).alloc (Nat.le_refl _) _) hw1 (by simp) (by intro k e; cases e)) hw2 (by simp at hz1; omega) (by intro k e; cases e; omega))).drew
  have hz2 : w.heap.size ≤ w2.heap.size := hB1.size
  clear hA hl1 hwr
  refine law_copy rfl _ _ _ _ rfl 5 Try.underlying49 sizeU8 (w.heap.size + 1) s.size 3 3 ⟨w.heap.size, 5, none⟩ 3 3 (by simp [Act.eval]) (by simp [Act.eval]) (splice (List.replicate (s.size + 3) (Value.int IntKind.u8 0)) 0 (Lib.byteCells s.data.toList)) 5 hg2.out [.int .u8 (n / 65536), .int .u8 (n / 256 % 256), .int .u8 (n % 256)] rfl hAc (by simp [splice, Lib.byteCells_length]) (by simp [Value.oneCell']) ?_
  intro w3 hg3 hw3
  go_wp2_with (with_reducible show wpList _ _ _ (⟨some 58, _, _, _, _, _⟩ :: _) _ _; refine law_toString rfl _ _ _ rfl 5 Try.underlying49 Try.underlying5 Try.underlying9 (w.heap.size + 1) (s.size + 3) (s.size + 3) rfl (s.data.toList ++ be 3 n.toNat) _ _ _ hg3.out (by simp [be_length]) (by rw [hbe.out, byteCells_append, splice_full _ s.size 3 _ _ (by rw [Lib.byteCells_length, ← Lib.size_eq]) (by rw [Lib.byteCells_length, be_length])]; exact List.take_of_length_le (by simp [Lib.byteCells_length, be_length])) ?_)
  go_ret2
  exact ⟨rfl, below_grown hB1 hw3 hz2 (by intro k e; cases e; omega)⟩

set_option maxHeartbeats 2000000 in
theorem put_fit4 (s : ByteArray) (n : Int) (w : World) (hn0 : 0 ≤ n) (hn : n < 4294967296) (hs : s.size ≤ 140737488351232) :
    Calls Try.prog 28 #[.string s, .int .u64 n, .int .i64 4] w fun e w' => e = .returned (.tuple #[.string ⟨(s.data.toList ++ be 4 n.toNat).toArray⟩, .int .i64 0]) ∧ Below w.heap.size w w' := by
  have hbe := hide (show ([.int .u8 (n / 16777216), .int .u8 (n / 65536 % 256), .int .u8 (n / 256 % 256), .int .u8 (n % 256)] : List Value) = Lib.byteCells (be 4 n.toNat) from by
    simp only [be, Lib.byteCells, List.nil_append, List.cons_append, List.map_cons, List.map_nil, UInt8.toNat_ofNat']
    simp only [List.cons.injEq, Value.int.injEq, true_and, and_true]; omega)
  have g7 : n / 72057594037927936 = 0 := by omega
  have g6 : n / 281474976710656 = 0 := by omega
  have g5 : n / 1099511627776 = 0 := by omega
  have g4 : n / 4294967296 = 0 := by omega
  go_enter Try.func28, Try.ntmps28
  go_wp2_with (go_at_call 41; refine (wide_yes _ _ (by omega) (by omega)).mono ?_; rintro e w' ⟨rfl, rfl⟩)
  refine wp_loop_rounds 9 ?_
  iterate 9 (rw [rounds_succ]; go_wp2)
  refine wp_loop_rounds 5 ?_
  iterate 4 (rw [rounds_succ]; go_wp2)
  rw [rounds_succ]
  go_wp2_with (first | (at_make; refine law_make rfl _ _ _ rfl 5 (.int .u8 0) 1 Try.underlying49 infoU8 rfl .i64 .i64 (s.size + 4) (s.size + 4) (s.size + 4) rfl rfl (by omega) (by omega) (by omega) (by omega) ?_; intro w1 hg1 hw1 hz1) | (with_reducible show wpList _ _ _ (⟨some 48, _, _, _, _, _⟩ :: _) _ _; refine law_copy_str rfl _ _ _ _ rfl 5 Try.underlying49 sizeU8 (w.heap.size + 1) 0 _ _ s rfl rfl (List.replicate (s.size + 4) (.int .u8 0)) 5 (by simpa using hg1.out) (by omega) (by simp) ?_; intro w2 hg2 hw2))
  have hl1 : (s.size : Int) ≤ (s.size : Int) + 4 := by omega
  have hwr : IntKind.i64.wrap 4 = 4 := rfl
  go_still_tail 7, (by kernel_rfl)
  change wpList _ _ _ _ _ w2.drew
  have hA : w2.drew.heap[w.heap.size]? = some (.cells #[.int .u8 0, .int .u8 0, .int .u8 0, .int .u8 0, .int .u8 (n / 16777216), .int .u8 (n / 65536 % 256), .int .u8 (n / 256 % 256), .int .u8 (n % 256)] 80 (0, 0)) := grown_keeps hw2 (grown_keeps hw1 (by show (w.heap.push _)[w.heap.size]? = _; simp) (by simp)) (by simp)
  have hAc := cells_at (off := 4) (cs := [.int .u8 (n / 16777216), .int .u8 (n / 65536 % 256), .int .u8 (n / 256 % 256), .int .u8 (n % 256)]) hA (by intro j v hj; match j, hj with
    | 0, hj => exact hj
    | 1, hj => exact hj
    | 2, hj => exact hj
    | 3, hj => exact hj
    )
  have hB1 : Below w.heap.size w w2.drew := ((below_grown (below_grown ((Below.refl _ w).alloc (Nat.le_refl _) _) hw1 (by simp) (by intro k e; cases e)) hw2 (by simp at hz1; omega) (by intro k e; cases e; omega))).drew
  have hz2 : w.heap.size ≤ w2.heap.size := hB1.size
  clear hA hl1 hwr
  refine law_copy rfl _ _ _ _ rfl 5 Try.underlying49 sizeU8 (w.heap.size + 1) s.size 4 4 ⟨w.heap.size, 4, none⟩ 4 4 (by simp [Act.eval]) (by simp [Act.eval]) (splice (List.replicate (s.size + 4) (Value.int IntKind.u8 0)) 0 (Lib.byteCells s.data.toList)) 5 hg2.out [.int .u8 (n / 16777216), .int .u8 (n / 65536 % 256), .int .u8 (n / 256 % 256), .int .u8 (n % 256)] rfl hAc (by simp [splice, Lib.byteCells_length]) (by simp [Value.oneCell']) ?_
  intro w3 hg3 hw3
  go_wp2_with (with_reducible show wpList _ _ _ (⟨some 58, _, _, _, _, _⟩ :: _) _ _; refine law_toString rfl _ _ _ rfl 5 Try.underlying49 Try.underlying5 Try.underlying9 (w.heap.size + 1) (s.size + 4) (s.size + 4) rfl (s.data.toList ++ be 4 n.toNat) _ _ _ hg3.out (by simp [be_length]) (by rw [hbe.out, byteCells_append, splice_full _ s.size 4 _ _ (by rw [Lib.byteCells_length, ← Lib.size_eq]) (by rw [Lib.byteCells_length, be_length])]; exact List.take_of_length_le (by simp [Lib.byteCells_length, be_length])) ?_)
  go_ret2
  exact ⟨rfl, below_grown hB1 hw3 hz2 (by intro k e; cases e; omega)⟩

set_option maxHeartbeats 2000000 in
theorem put_fit5 (s : ByteArray) (n : Int) (w : World) (hn0 : 0 ≤ n) (hn : n < 1099511627776) (hs : s.size ≤ 140737488351232) :
    Calls Try.prog 28 #[.string s, .int .u64 n, .int .i64 5] w fun e w' => e = .returned (.tuple #[.string ⟨(s.data.toList ++ be 5 n.toNat).toArray⟩, .int .i64 0]) ∧ Below w.heap.size w w' := by
  have hbe := hide (show ([.int .u8 (n / 4294967296), .int .u8 (n / 16777216 % 256), .int .u8 (n / 65536 % 256), .int .u8 (n / 256 % 256), .int .u8 (n % 256)] : List Value) = Lib.byteCells (be 5 n.toNat) from by
    simp only [be, Lib.byteCells, List.nil_append, List.cons_append, List.map_cons, List.map_nil, UInt8.toNat_ofNat']
    simp only [List.cons.injEq, Value.int.injEq, true_and, and_true]; omega)
  have g7 : n / 72057594037927936 = 0 := by omega
  have g6 : n / 281474976710656 = 0 := by omega
  have g5 : n / 1099511627776 = 0 := by omega
  go_enter Try.func28, Try.ntmps28
  go_wp2_with (go_at_call 41; refine (wide_yes _ _ (by omega) (by omega)).mono ?_; rintro e w' ⟨rfl, rfl⟩)
  refine wp_loop_rounds 9 ?_
  iterate 9 (rw [rounds_succ]; go_wp2)
  refine wp_loop_rounds 4 ?_
  iterate 3 (rw [rounds_succ]; go_wp2)
  rw [rounds_succ]
  go_wp2_with (first | (at_make; refine law_make rfl _ _ _ rfl 5 (.int .u8 0) 1 Try.underlying49 infoU8 rfl .i64 .i64 (s.size + 5) (s.size + 5) (s.size + 5) rfl rfl (by omega) (by omega) (by omega) (by omega) ?_; intro w1 hg1 hw1 hz1) | (with_reducible show wpList _ _ _ (⟨some 48, _, _, _, _, _⟩ :: _) _ _; refine law_copy_str rfl _ _ _ _ rfl 5 Try.underlying49 sizeU8 (w.heap.size + 1) 0 _ _ s rfl rfl (List.replicate (s.size + 5) (.int .u8 0)) 5 (by simpa using hg1.out) (by omega) (by simp) ?_; intro w2 hg2 hw2))
  have hl1 : (s.size : Int) ≤ (s.size : Int) + 5 := by omega
  have hwr : IntKind.i64.wrap 3 = 3 := rfl
  go_still_tail 7, (by kernel_rfl)
  change wpList _ _ _ _ _ w2.drew
  have hA : w2.drew.heap[w.heap.size]? = some (.cells #[.int .u8 0, .int .u8 0, .int .u8 0, .int .u8 (n / 4294967296), .int .u8 (n / 16777216 % 256), .int .u8 (n / 65536 % 256), .int .u8 (n / 256 % 256), .int .u8 (n % 256)] 80 (0, 0)) := grown_keeps hw2 (grown_keeps hw1 (by show (w.heap.push _)[w.heap.size]? = _; simp) (by simp)) (by simp)
  have hAc := cells_at (off := 3) (cs := [.int .u8 (n / 4294967296), .int .u8 (n / 16777216 % 256), .int .u8 (n / 65536 % 256), .int .u8 (n / 256 % 256), .int .u8 (n % 256)]) hA (by intro j v hj; match j, hj with
    | 0, hj => exact hj
    | 1, hj => exact hj
    | 2, hj => exact hj
    | 3, hj => exact hj
    | 4, hj => exact hj
    )
  have hB1 : Below w.heap.size w w2.drew := ((below_grown (below_grown ((Below.refl _ w).alloc (Nat.le_refl _) _) hw1 (by simp) (by intro k e; cases e)) hw2 (by simp at hz1; omega) (by intro k e; cases e; omega))).drew
  have hz2 : w.heap.size ≤ w2.heap.size := hB1.size
  clear hA hl1 hwr
  refine law_copy rfl _ _ _ _ rfl 5 Try.underlying49 sizeU8 (w.heap.size + 1) s.size 5 5 ⟨w.heap.size, 3, none⟩ 5 5 (by simp [Act.eval]) (by simp [Act.eval]) (splice (List.replicate (s.size + 5) (Value.int IntKind.u8 0)) 0 (Lib.byteCells s.data.toList)) 5 hg2.out [.int .u8 (n / 4294967296), .int .u8 (n / 16777216 % 256), .int .u8 (n / 65536 % 256), .int .u8 (n / 256 % 256), .int .u8 (n % 256)] rfl hAc (by simp [splice, Lib.byteCells_length]) (by simp [Value.oneCell']) ?_
  intro w3 hg3 hw3
  go_wp2_with (with_reducible show wpList _ _ _ (⟨some 58, _, _, _, _, _⟩ :: _) _ _; refine law_toString rfl _ _ _ rfl 5 Try.underlying49 Try.underlying5 Try.underlying9 (w.heap.size + 1) (s.size + 5) (s.size + 5) rfl (s.data.toList ++ be 5 n.toNat) _ _ _ hg3.out (by simp [be_length]) (by rw [hbe.out, byteCells_append, splice_full _ s.size 5 _ _ (by rw [Lib.byteCells_length, ← Lib.size_eq]) (by rw [Lib.byteCells_length, be_length])]; exact List.take_of_length_le (by simp [Lib.byteCells_length, be_length])) ?_)
  go_ret2
  exact ⟨rfl, below_grown hB1 hw3 hz2 (by intro k e; cases e; omega)⟩

set_option maxHeartbeats 2000000 in
theorem put_fit6 (s : ByteArray) (n : Int) (w : World) (hn0 : 0 ≤ n) (hn : n < 281474976710656) (hs : s.size ≤ 140737488351232) :
    Calls Try.prog 28 #[.string s, .int .u64 n, .int .i64 6] w fun e w' => e = .returned (.tuple #[.string ⟨(s.data.toList ++ be 6 n.toNat).toArray⟩, .int .i64 0]) ∧ Below w.heap.size w w' := by
  have hbe := hide (show ([.int .u8 (n / 1099511627776), .int .u8 (n / 4294967296 % 256), .int .u8 (n / 16777216 % 256), .int .u8 (n / 65536 % 256), .int .u8 (n / 256 % 256), .int .u8 (n % 256)] : List Value) = Lib.byteCells (be 6 n.toNat) from by
    simp only [be, Lib.byteCells, List.nil_append, List.cons_append, List.map_cons, List.map_nil, UInt8.toNat_ofNat']
    simp only [List.cons.injEq, Value.int.injEq, true_and, and_true]; omega)
  have g7 : n / 72057594037927936 = 0 := by omega
  have g6 : n / 281474976710656 = 0 := by omega
  go_enter Try.func28, Try.ntmps28
  go_wp2_with (go_at_call 41; refine (wide_yes _ _ (by omega) (by omega)).mono ?_; rintro e w' ⟨rfl, rfl⟩)
  refine wp_loop_rounds 9 ?_
  iterate 9 (rw [rounds_succ]; go_wp2)
  refine wp_loop_rounds 3 ?_
  iterate 2 (rw [rounds_succ]; go_wp2)
  rw [rounds_succ]
  go_wp2_with (first | (at_make; refine law_make rfl _ _ _ rfl 5 (.int .u8 0) 1 Try.underlying49 infoU8 rfl .i64 .i64 (s.size + 6) (s.size + 6) (s.size + 6) rfl rfl (by omega) (by omega) (by omega) (by omega) ?_; intro w1 hg1 hw1 hz1) | (with_reducible show wpList _ _ _ (⟨some 48, _, _, _, _, _⟩ :: _) _ _; refine law_copy_str rfl _ _ _ _ rfl 5 Try.underlying49 sizeU8 (w.heap.size + 1) 0 _ _ s rfl rfl (List.replicate (s.size + 6) (.int .u8 0)) 5 (by simpa using hg1.out) (by omega) (by simp) ?_; intro w2 hg2 hw2))
  have hl1 : (s.size : Int) ≤ (s.size : Int) + 6 := by omega
  have hwr : IntKind.i64.wrap 2 = 2 := rfl
  go_still_tail 7, (by kernel_rfl)
  change wpList _ _ _ _ _ w2.drew
  have hA : w2.drew.heap[w.heap.size]? = some (.cells #[.int .u8 0, .int .u8 0, .int .u8 (n / 1099511627776), .int .u8 (n / 4294967296 % 256), .int .u8 (n / 16777216 % 256), .int .u8 (n / 65536 % 256), .int .u8 (n / 256 % 256), .int .u8 (n % 256)] 80 (0, 0)) := grown_keeps hw2 (grown_keeps hw1 (by show (w.heap.push _)[w.heap.size]? = _; simp) (by simp)) (by simp)
  have hAc := cells_at (off := 2) (cs := [.int .u8 (n / 1099511627776), .int .u8 (n / 4294967296 % 256), .int .u8 (n / 16777216 % 256), .int .u8 (n / 65536 % 256), .int .u8 (n / 256 % 256), .int .u8 (n % 256)]) hA (by intro j v hj; match j, hj with
    | 0, hj => exact hj
    | 1, hj => exact hj
    | 2, hj => exact hj
    | 3, hj => exact hj
    | 4, hj => exact hj
    | 5, hj => exact hj
    )
  have hB1 : Below w.heap.size w w2.drew := ((below_grown (below_grown ((Below.refl _ w).alloc (Nat.le_refl _) _) hw1 (by simp) (by intro k e; cases e)) hw2 (by simp at hz1; omega) (by intro k e; cases e; omega))).drew
  have hz2 : w.heap.size ≤ w2.heap.size := hB1.size
  clear hA hl1 hwr
  refine law_copy rfl _ _ _ _ rfl 5 Try.underlying49 sizeU8 (w.heap.size + 1) s.size 6 6 ⟨w.heap.size, 2, none⟩ 6 6 (by simp [Act.eval]) (by simp [Act.eval]) (splice (List.replicate (s.size + 6) (Value.int IntKind.u8 0)) 0 (Lib.byteCells s.data.toList)) 5 hg2.out [.int .u8 (n / 1099511627776), .int .u8 (n / 4294967296 % 256), .int .u8 (n / 16777216 % 256), .int .u8 (n / 65536 % 256), .int .u8 (n / 256 % 256), .int .u8 (n % 256)] rfl hAc (by simp [splice, Lib.byteCells_length]) (by simp [Value.oneCell']) ?_
  intro w3 hg3 hw3
  go_wp2_with (with_reducible show wpList _ _ _ (⟨some 58, _, _, _, _, _⟩ :: _) _ _; refine law_toString rfl _ _ _ rfl 5 Try.underlying49 Try.underlying5 Try.underlying9 (w.heap.size + 1) (s.size + 6) (s.size + 6) rfl (s.data.toList ++ be 6 n.toNat) _ _ _ hg3.out (by simp [be_length]) (by rw [hbe.out, byteCells_append, splice_full _ s.size 6 _ _ (by rw [Lib.byteCells_length, ← Lib.size_eq]) (by rw [Lib.byteCells_length, be_length])]; exact List.take_of_length_le (by simp [Lib.byteCells_length, be_length])) ?_)
  go_ret2
  exact ⟨rfl, below_grown hB1 hw3 hz2 (by intro k e; cases e; omega)⟩

set_option maxHeartbeats 2000000 in
theorem put_fit7 (s : ByteArray) (n : Int) (w : World) (hn0 : 0 ≤ n) (hn : n < 72057594037927936) (hs : s.size ≤ 140737488351232) :
    Calls Try.prog 28 #[.string s, .int .u64 n, .int .i64 7] w fun e w' => e = .returned (.tuple #[.string ⟨(s.data.toList ++ be 7 n.toNat).toArray⟩, .int .i64 0]) ∧ Below w.heap.size w w' := by
  have hbe := hide (show ([.int .u8 (n / 281474976710656), .int .u8 (n / 1099511627776 % 256), .int .u8 (n / 4294967296 % 256), .int .u8 (n / 16777216 % 256), .int .u8 (n / 65536 % 256), .int .u8 (n / 256 % 256), .int .u8 (n % 256)] : List Value) = Lib.byteCells (be 7 n.toNat) from by
    simp only [be, Lib.byteCells, List.nil_append, List.cons_append, List.map_cons, List.map_nil, UInt8.toNat_ofNat']
    simp only [List.cons.injEq, Value.int.injEq, true_and, and_true]; omega)
  have g7 : n / 72057594037927936 = 0 := by omega
  go_enter Try.func28, Try.ntmps28
  go_wp2_with (go_at_call 41; refine (wide_yes _ _ (by omega) (by omega)).mono ?_; rintro e w' ⟨rfl, rfl⟩)
  refine wp_loop_rounds 9 ?_
  iterate 9 (rw [rounds_succ]; go_wp2)
  refine wp_loop_rounds 2 ?_
  iterate 1 (rw [rounds_succ]; go_wp2)
  rw [rounds_succ]
  go_wp2_with (first | (at_make; refine law_make rfl _ _ _ rfl 5 (.int .u8 0) 1 Try.underlying49 infoU8 rfl .i64 .i64 (s.size + 7) (s.size + 7) (s.size + 7) rfl rfl (by omega) (by omega) (by omega) (by omega) ?_; intro w1 hg1 hw1 hz1) | (with_reducible show wpList _ _ _ (⟨some 48, _, _, _, _, _⟩ :: _) _ _; refine law_copy_str rfl _ _ _ _ rfl 5 Try.underlying49 sizeU8 (w.heap.size + 1) 0 _ _ s rfl rfl (List.replicate (s.size + 7) (.int .u8 0)) 5 (by simpa using hg1.out) (by omega) (by simp) ?_; intro w2 hg2 hw2))
  have hl1 : (s.size : Int) ≤ (s.size : Int) + 7 := by omega
  have hwr : IntKind.i64.wrap 1 = 1 := rfl
  go_still_tail 7, (by kernel_rfl)
  change wpList _ _ _ _ _ w2.drew
  have hA : w2.drew.heap[w.heap.size]? = some (.cells #[.int .u8 0, .int .u8 (n / 281474976710656), .int .u8 (n / 1099511627776 % 256), .int .u8 (n / 4294967296 % 256), .int .u8 (n / 16777216 % 256), .int .u8 (n / 65536 % 256), .int .u8 (n / 256 % 256), .int .u8 (n % 256)] 80 (0, 0)) := grown_keeps hw2 (grown_keeps hw1 (by show (w.heap.push _)[w.heap.size]? = _; simp) (by simp)) (by simp)
  have hAc := cells_at (off := 1) (cs := [.int .u8 (n / 281474976710656), .int .u8 (n / 1099511627776 % 256), .int .u8 (n / 4294967296 % 256), .int .u8 (n / 16777216 % 256), .int .u8 (n / 65536 % 256), .int .u8 (n / 256 % 256), .int .u8 (n % 256)]) hA (by intro j v hj; match j, hj with
    | 0, hj => exact hj
    | 1, hj => exact hj
    | 2, hj => exact hj
    | 3, hj => exact hj
    | 4, hj => exact hj
    | 5, hj => exact hj
    | 6, hj => exact hj
    )
  have hB1 : Below w.heap.size w w2.drew := ((below_grown (below_grown ((Below.refl _ w).alloc (Nat.le_refl _) _) hw1 (by simp) (by intro k e; cases e)) hw2 (by simp at hz1; omega) (by intro k e; cases e; omega))).drew
  have hz2 : w.heap.size ≤ w2.heap.size := hB1.size
  clear hA hl1 hwr
  refine law_copy rfl _ _ _ _ rfl 5 Try.underlying49 sizeU8 (w.heap.size + 1) s.size 7 7 ⟨w.heap.size, 1, none⟩ 7 7 (by simp [Act.eval]) (by simp [Act.eval]) (splice (List.replicate (s.size + 7) (Value.int IntKind.u8 0)) 0 (Lib.byteCells s.data.toList)) 5 hg2.out [.int .u8 (n / 281474976710656), .int .u8 (n / 1099511627776 % 256), .int .u8 (n / 4294967296 % 256), .int .u8 (n / 16777216 % 256), .int .u8 (n / 65536 % 256), .int .u8 (n / 256 % 256), .int .u8 (n % 256)] rfl hAc (by simp [splice, Lib.byteCells_length]) (by simp [Value.oneCell']) ?_
  intro w3 hg3 hw3
  go_wp2_with (with_reducible show wpList _ _ _ (⟨some 58, _, _, _, _, _⟩ :: _) _ _; refine law_toString rfl _ _ _ rfl 5 Try.underlying49 Try.underlying5 Try.underlying9 (w.heap.size + 1) (s.size + 7) (s.size + 7) rfl (s.data.toList ++ be 7 n.toNat) _ _ _ hg3.out (by simp [be_length]) (by rw [hbe.out, byteCells_append, splice_full _ s.size 7 _ _ (by rw [Lib.byteCells_length, ← Lib.size_eq]) (by rw [Lib.byteCells_length, be_length])]; exact List.take_of_length_le (by simp [Lib.byteCells_length, be_length])) ?_)
  go_ret2
  exact ⟨rfl, below_grown hB1 hw3 hz2 (by intro k e; cases e; omega)⟩

set_option maxHeartbeats 2000000 in
theorem put_fit8 (s : ByteArray) (n : Int) (w : World) (hn0 : 0 ≤ n) (hn : n < 18446744073709551616) (hs : s.size ≤ 140737488351232) :
    Calls Try.prog 28 #[.string s, .int .u64 n, .int .i64 8] w fun e w' => e = .returned (.tuple #[.string ⟨(s.data.toList ++ be 8 n.toNat).toArray⟩, .int .i64 0]) ∧ Below w.heap.size w w' := by
  have hbe := hide (show ([.int .u8 (n / 72057594037927936), .int .u8 (n / 281474976710656 % 256), .int .u8 (n / 1099511627776 % 256), .int .u8 (n / 4294967296 % 256), .int .u8 (n / 16777216 % 256), .int .u8 (n / 65536 % 256), .int .u8 (n / 256 % 256), .int .u8 (n % 256)] : List Value) = Lib.byteCells (be 8 n.toNat) from by
    simp only [be, Lib.byteCells, List.nil_append, List.cons_append, List.map_cons, List.map_nil, UInt8.toNat_ofNat']
    simp only [List.cons.injEq, Value.int.injEq, true_and, and_true]; omega)
  go_enter Try.func28, Try.ntmps28
  go_wp2_with (go_at_call 41; refine (wide_yes _ _ (by omega) (by omega)).mono ?_; rintro e w' ⟨rfl, rfl⟩)
  refine wp_loop_rounds 9 ?_
  iterate 9 (rw [rounds_succ]; go_wp2)
  refine wp_loop_rounds 1 ?_
  rw [rounds_succ]
  go_wp2_with (first | (at_make; refine law_make rfl _ _ _ rfl 5 (.int .u8 0) 1 Try.underlying49 infoU8 rfl .i64 .i64 (s.size + 8) (s.size + 8) (s.size + 8) rfl rfl (by omega) (by omega) (by omega) (by omega) ?_; intro w1 hg1 hw1 hz1) | (with_reducible show wpList _ _ _ (⟨some 48, _, _, _, _, _⟩ :: _) _ _; refine law_copy_str rfl _ _ _ _ rfl 5 Try.underlying49 sizeU8 (w.heap.size + 1) 0 _ _ s rfl rfl (List.replicate (s.size + 8) (.int .u8 0)) 5 (by simpa using hg1.out) (by omega) (by simp) ?_; intro w2 hg2 hw2))
  have hl1 : (s.size : Int) ≤ (s.size : Int) + 8 := by omega
  have hwr : IntKind.i64.wrap 0 = 0 := rfl
  go_still_tail 7, (by kernel_rfl)
  change wpList _ _ _ _ _ w2.drew
  have hA : w2.drew.heap[w.heap.size]? = some (.cells #[.int .u8 (n / 72057594037927936), .int .u8 (n / 281474976710656 % 256), .int .u8 (n / 1099511627776 % 256), .int .u8 (n / 4294967296 % 256), .int .u8 (n / 16777216 % 256), .int .u8 (n / 65536 % 256), .int .u8 (n / 256 % 256), .int .u8 (n % 256)] 80 (0, 0)) := grown_keeps hw2 (grown_keeps hw1 (by show (w.heap.push _)[w.heap.size]? = _; simp) (by simp)) (by simp)
  have hAc := cells_at (off := 0) (cs := [.int .u8 (n / 72057594037927936), .int .u8 (n / 281474976710656 % 256), .int .u8 (n / 1099511627776 % 256), .int .u8 (n / 4294967296 % 256), .int .u8 (n / 16777216 % 256), .int .u8 (n / 65536 % 256), .int .u8 (n / 256 % 256), .int .u8 (n % 256)]) hA (by intro j v hj; match j, hj with
    | 0, hj => exact hj
    | 1, hj => exact hj
    | 2, hj => exact hj
    | 3, hj => exact hj
    | 4, hj => exact hj
    | 5, hj => exact hj
    | 6, hj => exact hj
    | 7, hj => exact hj
    )
  have hB1 : Below w.heap.size w w2.drew := ((below_grown (below_grown ((Below.refl _ w).alloc (Nat.le_refl _) _) hw1 (by simp) (by intro k e; cases e)) hw2 (by simp at hz1; omega) (by intro k e; cases e; omega))).drew
  have hz2 : w.heap.size ≤ w2.heap.size := hB1.size
  clear hA hl1 hwr
  refine law_copy rfl _ _ _ _ rfl 5 Try.underlying49 sizeU8 (w.heap.size + 1) s.size 8 8 ⟨w.heap.size, 0, none⟩ 8 8 (by simp [Act.eval]) (by simp [Act.eval]) (splice (List.replicate (s.size + 8) (Value.int IntKind.u8 0)) 0 (Lib.byteCells s.data.toList)) 5 hg2.out [.int .u8 (n / 72057594037927936), .int .u8 (n / 281474976710656 % 256), .int .u8 (n / 1099511627776 % 256), .int .u8 (n / 4294967296 % 256), .int .u8 (n / 16777216 % 256), .int .u8 (n / 65536 % 256), .int .u8 (n / 256 % 256), .int .u8 (n % 256)] rfl hAc (by simp [splice, Lib.byteCells_length]) (by simp [Value.oneCell']) ?_
  intro w3 hg3 hw3
  go_wp2_with (with_reducible show wpList _ _ _ (⟨some 58, _, _, _, _, _⟩ :: _) _ _; refine law_toString rfl _ _ _ rfl 5 Try.underlying49 Try.underlying5 Try.underlying9 (w.heap.size + 1) (s.size + 8) (s.size + 8) rfl (s.data.toList ++ be 8 n.toNat) _ _ _ hg3.out (by simp [be_length]) (by rw [hbe.out, byteCells_append, splice_full _ s.size 8 _ _ (by rw [Lib.byteCells_length, ← Lib.size_eq]) (by rw [Lib.byteCells_length, be_length])]; exact List.take_of_length_le (by simp [Lib.byteCells_length, be_length])) ?_)
  go_ret2
  exact ⟨rfl, below_grown hB1 hw3 hz2 (by intro k e; cases e; omega)⟩

end Go.Proofs.Ytpkgmoiffegbfaa
