/- What the reference's Digest computes: the walk through its text. No condition. -/
import Derived.Test.YtaocdknpalohbaaOpens
import Derived.Test.YtaocdknpalohbaaKite
namespace Go.Proofs.Ytaocdknpalohbaa
open Go.RowKit

theorem refd_list (n : Int) (hn : 0 ≤ n) : ((((((((z32.set 7 (UInt8.ofNat (n % 256).toNat)).set 6 (UInt8.ofNat (n / 256 % 256).toNat)).set 5 (UInt8.ofNat (n / 256 / 256 % 256).toNat)).set 4 (UInt8.ofNat (n / 256 / 256 / 256 % 256).toNat)).set 3
    (UInt8.ofNat (n / 256 / 256 / 256 / 256 % 256).toNat)).set 2 (UInt8.ofNat (n / 256 / 256 / 256 / 256 / 256 % 256).toNat)).set 1 (UInt8.ofNat (n / 256 / 256 / 256 / 256 / 256 / 256 % 256).toNat)).set 0
    (UInt8.ofNat (n / 256 / 256 / 256 / 256 / 256 / 256 / 256 % 256).toNat)) = hd n.toNat := by
  obtain ⟨m, rfl⟩ := Int.eq_ofNat_of_zero_le hn
  rfl

set_option maxHeartbeats 2000000 in
theorem rdigest_any (n : Int) (w : World) (hn0 : 0 ≤ n) (hn : n < 18446744073709551616) :
    Calls Try.prog 10 #[.int .u64 n] w fun e w' => e = .returned (.agg (dg (hd n.toNat))) ∧ Below w.heap.size w w' := by
  have hfin := hide (refd_list n hn0)
  go_enter Try.func10, Try.ntmps10
  go_wp2_with (first
    | ((with_reducible show wpList _ _ _ (⟨some 2, Op.alloc _, _, _, _, _⟩ :: _) _ _); refine law_allocK rfl 35 rfl (dg z32) zeroDig ?_; intro w2 hg2 hw2 hs2)
    | ((with_reducible show wpList _ _ _ (⟨some 3, Op.alloc _, _, _, _, _⟩ :: _) _ _); refine law_allocK rfl 35 rfl (dg z32) zeroDig ?_; intro w3 hg hw3 hs3; have H2 := hide (grown_keeps hw3 hg2 (by simp)); rw [hs2] at hg hs3; have hB := below_grown (below_grown (Below.refl w.heap.size w) hw2 (Nat.le_refl _) (by intro k e; cases e)) hw3 (by omega) (by intro k e; cases e); have hg := hide hg; have hz : w.heap.size + 2 ≤ w3.heap.size := by omega))
  clear hw2 hs2 hw3 hs3 hg2
  refine wp_loop_rounds 9 ?_
  iterate 8
    (rw [rounds_succ]
     go_wp2_with ((with_reducible show wpList _ _ _ (⟨none, Op.store 5 _ _, _, _, _, _⟩ :: _) _ _); refine law_storeByte rfl _ _ _ rfl Try.underlying5 sizeU8 (w.heap.size + 1) _ _ rfl rfl (by omega) (by omega) _ _ hg.out (by simp [z32]) ?_; intro w4 hg4 hw4; have H2 := hide (grown_keeps hw4 H2.out (by simp)); have hB := below_grown hB hw4 (by omega) (by intro k e; cases e; omega); have hz := Nat.le_trans hz hw4.size; clear hg hw4; have hg := hide hg4.out; clear hg4))
  rw [hfin.out] at hg
  rw [rounds_succ]
  go_wp2_with (first
    | ((with_reducible show wpList _ _ _ (⟨some 16, _, _, _, _, _⟩ :: _) _ _); refine wpList_load_row rfl _ _ rfl (w.heap.size + 1) rfl _ (dg (hd n.toNat)) _ _ hg.out Try.underlying35 rfl (by rw [dg_size, hd_length]; exact sizeDig) ?_)
    | ((with_reducible show wpList _ _ _ (⟨none, Op.store 35 _ _, _, _, _, _⟩ :: _) _ _); refine law_store rfl _ _ _ rfl w.heap.size (dg (hd n.toNat)) rfl rfl _ (dg z32) H2.out (by rw [dg_size, hd_length]; exact sizeDig) (by rw [dg_size, dg_size, hd_length]; rfl) (dg_one _) ?_; intro w5 hg5 hw5))
  refine bodyPost_ret (results_cell_row rfl _ _ w.heap.size _ _ _ _ rfl hg5.out Try.underlying35 rfl (by rw [dg_size, hd_length]; exact sizeDig)) rfl ⟨rfl, ?_⟩
  exact below_grown hB hw5 (by omega) (by intro k e; cases e; omega)
end Go.Proofs.Ytaocdknpalohbaa
