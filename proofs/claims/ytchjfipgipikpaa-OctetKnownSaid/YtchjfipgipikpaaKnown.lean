/- Layer 16: the closed statement OctetKnown: the walk through its text. No condition. -/
import Derived.Test.YtchjfipgipikpaaWork
namespace Go.Proofs.Ytchjfipgipikpaa
open Go.RowKit Go.BigFrame
set_option maxRecDepth 20000

/-- The longest text, its length ahead of it. -/
def longT (L : ByteArray) : ByteArray := ⟨(be 2 65535).toArray⟩ ++ L
theorem longT_size (L : ByteArray) (h : L.size = 65535) : (longT L).size = 65537 := by
  unfold longT
  rw [ByteArray.size_append, h]
  rfl
theorem longT_head (L : ByteArray) : (longT L).extract 0 2 = ⟨#[255, 255]⟩ := by
  apply ByteArray.ext
  rw [ByteArray.data_extract]
  apply Array.ext'
  rw [Array.toList_extract, List.extract_eq_take_drop]
  have e : (longT L).data.toList = be 2 65535 ++ L.data.toList := by
    unfold longT
    rw [ByteArray.data_append, Array.toList_append]
  rw [e]
  show List.take 2 (List.drop 0 (be 2 65535 ++ L.data.toList)) = _
  rw [List.drop_zero, List.take_append_of_le_length (by rw [be_length]; exact Nat.le_refl _)]
  rfl
theorem zeros_cells (n : Nat) : ((List.replicate n (Value.int .u8 0)).toArray.toList.take n) = Lib.byteCells (List.replicate n 0) := by
  simp [Lib.byteCells]
theorem zeros_size (n : Nat) : (⟨(List.replicate n (0 : UInt8)).toArray⟩ : ByteArray).size = n := by
  show ((List.replicate n (0 : UInt8)).toArray).size = n
  simp
theorem puttext_over (t : ByteArray) (w : World) (h : 65536 ≤ t.size) (h2 : t.size < 16777216) :
    Calls Try.prog 10 #[.string ⟨#[]⟩, .string t] w fun e w' => e = .returned (.tuple #[.string ⟨#[]⟩, .int .i64 3]) ∧ Below w.heap.size w w' := by
  have hw : IntKind.u64.wrap (t.size : Int) = t.size := by simp [IntKind.wrap, IntKind.bits, IntKind.signed]; omega
  go_enter Try.func10, Try.ntmps10
  go_wp2_with (go_at_call 28; refine (put_over2 ⟨#[]⟩ t.size 2 _ ?_ ?_ ?_ ?_).mono ?_; decide; decide; omega; omega; rintro e w1 ⟨rfl, hb⟩)
  all_goals (go_ret2; exact ⟨rfl, hb⟩)

theorem k_all (w : World) : Calls Try.prog 28 #[.string ⟨#[]⟩, .int .u64 18446744073709551615, .int .i64 8] w fun e w' => e = .returned (.tuple #[.string ⟨#[255, 255, 255, 255, 255, 255, 255, 255]⟩, .int .i64 0]) ∧ Below w.heap.size w w' :=
  put_fit8 ⟨#[]⟩ 18446744073709551615 w (by decide) (by decide) (by decide)
theorem k_over (w : World) : Calls Try.prog 28 #[.string ⟨#[]⟩, .int .u64 72057594037927936, .int .i64 7] w fun e w' => e = .returned (.tuple #[.string ⟨#[]⟩, .int .i64 3]) ∧ Below w.heap.size w w' :=
  put_over7 ⟨#[]⟩ 72057594037927936 7 w (by decide) (by decide) (by decide) (by decide)
theorem k_zero (w : World) : Calls Try.prog 28 #[.string ⟨#[]⟩, .int .u64 1152921504606846976, .int .i64 0] w fun e w' => e = .returned (.tuple #[.string ⟨#[]⟩, .int .i64 2]) ∧ w = w' :=
  put_arg ⟨#[]⟩ 1152921504606846976 0 w (by decide)
theorem k_neg (w : World) : Calls Try.prog 28 #[.string ⟨#[]⟩, .int .u64 0, .int .i64 (-1)] w fun e w' => e = .returned (.tuple #[.string ⟨#[]⟩, .int .i64 2]) ∧ w = w' :=
  put_arg ⟨#[]⟩ 0 (-1) w (by decide)
theorem k_text (L : ByteArray) (h : L.size = 65535) (w : World) : Calls Try.prog 10 #[.string ⟨#[]⟩, .string L] w fun e w' => e = .returned (.tuple #[.string (longT L), .int .i64 0]) ∧ Below w.heap.size w w' := by
  have := puttext_fit ⟨#[]⟩ L w (by decide) (by omega)
  rw [h] at this
  exact this
theorem k_more (L : ByteArray) (h : L.size = 65535) (w : World) : Calls Try.prog 10 #[.string ⟨#[]⟩, .string (L ++ ⟨#[120]⟩)] w fun e w' => e = .returned (.tuple #[.string ⟨#[]⟩, .int .i64 3]) ∧ Below w.heap.size w w' := by
  have e : (L ++ ⟨#[120]⟩ : ByteArray).size = 65536 := by rw [ByteArray.size_append, h]; rfl
  exact puttext_over _ w (by omega) (by omega)
theorem k_back (w : World) : Calls Try.prog 29 #[.string ⟨#[97, 98, 99]⟩, .int .i64 (-1), .int .i64 1] w fun e w' => e = .returned (.tuple #[.int .u64 0, .bool false]) ∧ w = w' :=
  get_bad ⟨#[97, 98, 99]⟩ (-1) 1 w (by decide) (by decide)
theorem k_far (w : World) : Calls Try.prog 29 #[.string ⟨#[97, 98, 99]⟩, .int .i64 9223372036854775807, .int .i64 8] w fun e w' => e = .returned (.tuple #[.int .u64 0, .bool false]) ∧ w = w' :=
  get_bad ⟨#[97, 98, 99]⟩ 9223372036854775807 8 w (by decide) (by decide)
theorem k_none (w : World) : Calls Try.prog 29 #[.string ⟨#[97, 98, 99]⟩, .int .i64 3, .int .i64 1] w fun e w' => e = .returned (.tuple #[.int .u64 0, .bool false]) ∧ w = w' :=
  get_bad ⟨#[97, 98, 99]⟩ 3 1 w (by decide) (by decide)
theorem k_nine (w : World) : Calls Try.prog 29 #[.string ⟨#[97, 98, 99, 100, 101, 102, 103, 104, 105, 106]⟩, .int .i64 0, .int .i64 9] w fun e w' => e = .returned (.tuple #[.int .u64 0, .bool false]) ∧ w = w' :=
  get_bad ⟨#[97, 98, 99, 100, 101, 102, 103, 104, 105, 106]⟩ 0 9 w (by decide) (by decide)
theorem k_last (w : World) : Calls Try.prog 29 #[.string ⟨#[97, 98, 99]⟩, .int .i64 2, .int .i64 1] w fun e w' => e = .returned (.tuple #[.int .u64 99, .bool true]) ∧ w = w' :=
  get_ok ⟨#[97, 98, 99]⟩ 2 1 w (by decide) (by decide) (by decide) (by decide) (by decide)
theorem k_num (N M : Nat) (w : World) (h : IsRd w N M ⟨#[]⟩ 0 false) : Calls Try.prog 18 #[.pointer (some ⟨N, 0, none⟩), .int .i64 0] w fun e w' => e = .returned (.int .u64 0) ∧ w.grownBy w' (some N) ∧ IsRd w' N M ⟨#[]⟩ 0 true :=
  num_bad ⟨#[]⟩ N M 0 0 false w h (by decide) (by decide) (by decide) (by decide)
theorem k_end0 (N M : Nat) (w : World) (h : IsRd w N M ⟨#[]⟩ 0 false) : Calls Try.prog 22 #[.pointer (some ⟨N, 0, none⟩)] w fun e w' => e = .returned (.int .i64 0) ∧ ∃ n, w' = w.drewN n :=
  end_any ⟨#[]⟩ N M 0 false w h (by decide) (by decide) (by decide)
theorem k_end1 (N M : Nat) (w : World) (h : IsRd w N M ⟨#[]⟩ 0 true) : Calls Try.prog 22 #[.pointer (some ⟨N, 0, none⟩)] w fun e w' => e = .returned (.int .i64 14) ∧ ∃ n, w' = w.drewN n :=
  end_any ⟨#[]⟩ N M 0 true w h (by decide) (by decide) (by decide)

theorem below_then {B : Nat} {a b c : World} (h : Below B a b) (hB : B ≤ b.heap.size) (k : Below b.heap.size b c) : Below B a c := h.trans (k.mono hB)
theorem IsRd.below {w w' : World} {N M : Nat} {s : ByteArray} {a : Int} {bad : Bool} (h : IsRd w N M s a bad) (g : Below w.heap.size w w') (h1 : N < w.heap.size) (h2 : M < w.heap.size) : IsRd w' N M s a bad :=
  h.grown (r := none) ⟨g.os, g.tape, g.output, g.size, fun k hk _ => g.block k hk⟩ (by simp) (by simp) h1 h2
theorem IsRd.in {w : World} {N M : Nat} {s : ByteArray} {a : Int} {bad : Bool} (h : IsRd w N M s a bad) : N < w.heap.size ∧ M < w.heap.size :=
  ⟨block_lt_of_cell h.1, block_lt_of_cell h.2.2.2.2.1⟩

set_option maxHeartbeats 8000000 in
theorem known_any (w : World) : Calls Try.prog 8 #[] w fun e w' => e = .returned (.bool true) ∧ Below w.heap.size w w' := by
  obtain ⟨n, hn⟩ : ∃ n : Nat, n = 65535 := ⟨_, rfl⟩
  have hN := hide hn
  clear hn
  go_enter Try.func8, Try.ntmps8
  go_wp2_with (first
    | (go_at_call 28; (with_reducible refine (k_all _).mono ?_); rintro e w1 ⟨rfl, hb1⟩)
    | (go_at_call 28; (with_reducible refine (k_over _).mono ?_); rintro e w2 ⟨rfl, hb2⟩)
    | (go_at_call 28; (with_reducible refine (k_zero _).mono ?_); rintro e w3 ⟨rfl, rfl⟩)
    | (go_at_call 28; refine (k_neg _).mono ?_; rintro e w4 ⟨rfl, rfl⟩)
    | (at_make; refine law_make rfl _ _ _ rfl 5 (.int .u8 0) 1 Try.underlying49 infoU8 rfl .i64 .i64 65535 65535 n rfl rfl ?_ ?_ ?_ ?_ ?_; (have := hN.out; omega); (have := hN.out; omega); (have := hN.out; omega); (have := hN.out; omega); intro w5 hg5 hw5 hz5)
    | ((with_reducible show wpList _ _ _ (⟨some 46, _, _, _, _, _⟩ :: _) _ _); refine law_toString rfl _ _ _ rfl 5 Try.underlying49 Try.underlying5 Try.underlying9 _ n n rfl (List.replicate n 0) _ _ _ hg5.out (List.length_replicate ..) (zeros_cells n) ?_; have hLs := (zeros_size n).trans hN.out; generalize (⟨(List.replicate n (0 : UInt8)).toArray⟩ : ByteArray) = L at hLs ⊢; have hL := hide hLs; have hT1 := longT_size L hLs; have hT2 := longT_head L)
    | (go_at_call 10; (with_reducible refine (k_text L hL.out _).mono ?_); rintro e w6 ⟨rfl, hb6⟩)
    | (go_at_call 10; (with_reducible refine (k_more L hL.out _).mono ?_); rintro e w7 ⟨rfl, hb7⟩)
    | (go_at_call 29; (with_reducible refine (k_far _).mono ?_); rintro e w8 ⟨rfl, rfl⟩)
    | (go_at_call 29; (with_reducible refine (k_none _).mono ?_); rintro e w8 ⟨rfl, rfl⟩)
    | (go_at_call 29; (with_reducible refine (k_nine _).mono ?_); rintro e w8 ⟨rfl, rfl⟩)
    | (go_at_call 29; (with_reducible refine (k_last _).mono ?_); rintro e w8 ⟨rfl, rfl⟩)
    | (go_at_call 29; refine (k_back _).mono ?_; rintro e w8 ⟨rfl, rfl⟩)
    | (go_at_call 15; refine (read_new _ _).mono ?_; rintro e w9 ⟨rfl, hb9, hr9⟩)
    | (go_at_call 18; (with_reducible refine (num_nil _ _).mono ?_); rintro e w10 ⟨rfl, rfl⟩)
    | (go_at_call 16; (with_reducible refine (text_nil _).mono ?_); rintro e w10 ⟨rfl, rfl⟩)
    | (go_at_call 20; (with_reducible refine (left_nil _).mono ?_); rintro e w10 ⟨rfl, rfl⟩)
    | (go_at_call 22; (with_reducible refine (end_nil _).mono ?_); rintro e w10 ⟨rfl, rfl⟩)
    | (go_at_call 18; refine (k_num _ _ _ (hr9.drewN k11)).mono ?_; rintro e w12 ⟨rfl, hg12, hr12⟩)
    | (go_at_call 14; refine (works_any _).mono ?_; rintro e w13 ⟨rfl, hb13⟩; have hr13 := hr12.below hb13 hr12.in.1 hr12.in.2)
    | (go_at_call 22; refine (k_end1 _ _ _ hr13).mono ?_; rintro e w14 ⟨rfl, k14, rfl⟩)
    | (go_at_call 22; refine (k_end0 _ _ _ hr9).mono ?_; rintro e w11 ⟨rfl, k11, rfl⟩))
  all_goals go_ret
  all_goals
    have b2 := below_then hb1 hb1.size hb2
    have b5 := below_grown b2 hw5 b2.size (by intro k e; cases e)
    have b6 := below_then b5 b5.size hb6
    have b7 := below_then b6 b6.size hb7
    have b9 := below_drewN (below_then b7 b7.size hb9) k11
    have b12 := below_of_grown b9 hg12 b7.size b9.size
    have b13 := below_then b12 b12.size hb13
    exact ⟨rfl, below_drewN b13 _⟩
end Go.Proofs.Ytchjfipgipikpaa
