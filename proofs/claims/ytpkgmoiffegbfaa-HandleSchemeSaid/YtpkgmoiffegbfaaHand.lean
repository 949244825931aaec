/- What handle.Digest and handle.Handle compute: the walks through their text. No condition. -/
import Derived.Test.YtpkgmoiffegbfaaPut
import Derived.Test.YtpkgmoiffegbfaaGet
import Derived.Test.YtpkgmoiffegbfaaKitd
namespace Go.Proofs.Ytpkgmoiffegbfaa
open Go.RowKit

/-- A handle's digest. -/
def hd (n : Nat) : List UInt8 := be 8 n ++ List.replicate 24 0
theorem hd_length (n : Nat) : (hd n).length = 32 := by simp [hd, be_length]

theorem sizeDig : (Try.prog.info? 68).map (·.size) = some 32 := by kernel_rfl

theorem zeroDig : (Try.prog.info? 68).map (·.zero) = some (some (.agg (dg z32))) := by kernel_rfl
theorem splice_hd (n : Nat) : splice (Lib.byteCells z32) 0 (Lib.byteCells (be 8 n)) = Lib.byteCells (hd n) := by
  simp only [splice, List.take_zero, List.nil_append, Nat.zero_add, Lib.byteCells_length, be_length, hd, byteCells_append]
  rfl

set_option maxHeartbeats 1000000 in
theorem digest_any (n : Int) (w : World) (hn0 : 0 ≤ n) (hn : n < 18446744073709551616) :
    Calls Try.prog 43 #[.int .u64 n] w fun e w' => e = .returned (.agg (dg (hd n.toNat))) ∧ Below w.heap.size w w' := by
  go_enter Try.func43, Try.ntmps43
  go_wp2_with (with_reducible show wpList _ _ _ (⟨some 2, _, _, _, _, _⟩ :: _) _ _; refine law_alloc rfl 68 rfl (dg z32) zeroDig ?_)
  refine (put_fit8 _ _ _ hn0 hn (by decide)).mono ?_
  rintro e w1 ⟨rfl, hb1⟩
  have hz1 := hb1.size
  have hg1 := hide (below_at hb1 (new_at _ _) (by simp))
  have hB1 := ((Below.refl w.heap.size w).alloc (Nat.le_refl _) (.cells (dg z32) 68)).trans (hb1.mono (by simp))
  clear hb1
  go_wp2_with (first
    | ((with_reducible show wpList _ _ _ (⟨some 12, _, _, _, _, _⟩ :: _) _ _); refine law_copy_str rfl _ _ _ _ rfl 5 Try.underlying49 sizeU8 w.heap.size 0 32 32 _ rfl rfl (Lib.byteCells z32) 68 hg1.out (by simp [ByteArray.size, be_length]) (by simp [ByteArray.size, be_length, Lib.byteCells_length, z32]) ?_; intro w2 hg2 hw2; rw [splice_hd] at hg2; have hz2 := hw2.size)
    | ((with_reducible show wpList _ _ _ (⟨some 13, _, _, _, _, _⟩ :: _) _ _); refine wpList_load_row rfl _ _ rfl w.heap.size rfl _ (dg (hd n.toNat)) _ _ hg2.out Try.underlying68 rfl (by rw [dg_size, hd_length]; exact sizeDig) ?_)
    | ((with_reducible show wpList _ _ _ (⟨none, Op.store _ _ _, _, _, _, _⟩ :: _) _ _); refine law_store rfl _ _ _ rfl w.heap.size (dg (hd n.toNat)) rfl rfl _ (dg (hd n.toNat)) hg2.out (by rw [dg_size, hd_length]; exact sizeDig) rfl (dg_one _) ?_; intro w3 hg3 hw3))
  refine bodyPost_ret (results_cell_row rfl _ _ w.heap.size _ _ _ _ rfl hg3.out Try.underlying68 rfl (by rw [dg_size, hd_length]; exact sizeDig)) rfl ⟨rfl, ?_⟩
  simp at hz1
  exact below_grown (below_grown hB1 hw2 (by omega) (by intro k e; cases e; exact Nat.le_refl _)) hw3 (by omega) (by intro k e; cases e; exact Nat.le_refl _)
end Go.Proofs.Ytpkgmoiffegbfaa
