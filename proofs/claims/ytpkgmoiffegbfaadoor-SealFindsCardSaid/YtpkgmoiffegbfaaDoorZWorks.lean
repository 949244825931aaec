/- Layer 15, the chapter's examples hold: the walk. Condition: what the two variables hold. -/
import Derived.Test.YtpkgmoiffegbfaaDoorZDigits
namespace Go.Proofs.YtpkgmoiffegbfaaDoor
open Go.RowKit Go.BigFrame
set_option maxRecDepth 100000

theorem hex_none : hexOf (shaOf K64 F0 []) = [101, 51, 98, 48, 99, 52, 52, 50, 57, 56, 102, 99, 49, 99, 49, 52, 57, 97, 102, 98, 102, 52, 99, 56, 57, 57, 54, 102, 98, 57, 50, 52, 50, 55, 97, 101, 52, 49, 101, 52, 54, 52, 57, 98, 57, 51, 52, 99, 97, 52, 57, 53, 57, 57, 49, 98, 55, 56, 53, 50, 98, 56, 53, 53] := by rw [sum_none]; kernel_rfl
theorem hex_abc : hexOf (shaOf K64 F0 [97, 98, 99]) = [98, 97, 55, 56, 49, 54, 98, 102, 56, 102, 48, 49, 99, 102, 101, 97, 52, 49, 52, 49, 52, 48, 100, 101, 53, 100, 97, 101, 50, 50, 50, 51, 98, 48, 48, 51, 54, 49, 97, 51, 57, 54, 49, 55, 55, 97, 57, 99, 98, 52, 49, 48, 102, 102, 54, 49, 102, 50, 48, 48, 49, 53, 97, 100] := by rw [sum_abc]; kernel_rfl
theorem hex_long : hexOf (shaOf K64 F0 [97, 98, 99, 100, 98, 99, 100, 101, 99, 100, 101, 102, 100, 101, 102, 103, 101, 102, 103, 104, 102, 103, 104, 105, 103, 104, 105, 106, 104, 105, 106, 107, 105, 106, 107, 108, 106, 107, 108, 109, 107, 108, 109, 110, 108, 109, 110, 111, 109, 110, 111, 112, 110, 111, 112, 113]) = [50, 52, 56, 100, 54, 97, 54, 49, 100, 50, 48, 54, 51, 56, 98, 56, 101, 53, 99, 48, 50, 54, 57, 51, 48, 99, 51, 101, 54, 48, 51, 57, 97, 51, 51, 99, 101, 52, 53, 57, 54, 52, 102, 102, 50, 49, 54, 55, 102, 54, 101, 99, 101, 100, 100, 52, 49, 57, 100, 98, 48, 54, 99, 49] := by rw [sum_long]; kernel_rfl



set_option maxHeartbeats 4000000 in
theorem zworks_any (w : World) (hG : Glob F0 K64 w) : Calls Tryd.prog 15 #[] w fun e w' => e = .returned (.bool true) ∧ Below w.heap.size w w' := by
  have HG := hide hG
  clear hG
  go_enter Tryd.func15, Tryd.ntmps15
  go_wp2_with fail
  refine (hash_new _ K64 F0 HG.out).mono ?_
  rintro e w2 ⟨rfl, hh2, hB2⟩
  have hG2 := HG.out.below hB2
  obtain ⟨hb, hhb⟩ : ∃ hb, hb = w.heap.size := ⟨_, rfl⟩
  rw [← hhb] at hh2 hB2 ⊢
  have hlt2 := zlt hh2.2
  have HHB := hide hhb
  clear hhb
  go_wp2_with fail
  refine (hash_digest w2 hb K64 F0 [] hG2 hh2 (by simp)).mono ?_
  rintro e w3 ⟨rfl, hB3⟩
  have hG3 := hG2.below hB3
  have hh3 := hh2.below hB3
  have hB3' : Below hb w w3 := hB2.trans (hB3.mono (by omega))
  have hlt3 := zlt hh3.2
  have hx0 := hex_none
  have hl0 := sha_length K64 F0 []
  generalize shaOf K64 F0 [] = D0 at hx0 hl0 ⊢
  clear hB3 hG2 hh2 hB2
  go_wp2_with ((with_reducible show wpList _ _ _ (⟨some 2, Op.alloc _, _, _, _, _⟩ :: _) _ _); refine Hid.out ?_)
  refine hide ?_
  refine zallocK rfl 28 rfl _ zzeroDig ?_
  intro w4 hg4 hw4 hs4
  obtain ⟨nb, hnb⟩ : ∃ nb, nb = w3.heap.size := ⟨_, rfl⟩
  rw [← hnb] at hg4 hs4 hlt3 ⊢
  have hh4 : IsHash w4 hb K64 F0 [] := ⟨hh3.1, (hw4.block hb (zlt hh3.2) (by simp)).trans hh3.2⟩
  have hG4 := hG3.below (below_grown (Below.refl _ _) hw4 (Nat.le_refl _) (by intro k e; cases e))
  have hB4 : Below hb w w4 := below_grown hB3' hw4 (by omega) (by intro k e; cases e)
  have hnz : nb < w4.heap.size := by omega
  clear hnb hs4 hw4
  go_wp2_with ((with_reducible show wpList _ _ _ (⟨none, Op.store _ _ _, _, _, _, _⟩ :: _) _ _); refine Hid.out ?_)
  refine hide ?_
  refine law_store rfl _ _ _ rfl nb (dg D0) rfl rfl _ _ hg4 (by rw [dg_size, hl0]; exact zsizeDig) (by rw [dg_size, dg_size, hl0]; rfl) (dg_one _) ?_
  intro w5 hd5' hw5
  have hd5 := hd5'.out
  have hh5 := hh4.grown hw5 (by omega)
  have hG5 := hG4.grown hw5 (by have := hh4.1; omega)
  have hB5 : Below hb w w5 := below_grown hB4 hw5 (by omega) (by intro k e; cases e; omega)
  clear hd5' hw5 hB4 hG4 hh4 hg4 hB3' hh3 hG3
  go_wp2_with fail
  refine (hash_write w5 hb K64 F0 [] _ hG5 hh5 (by decide) (by simp)).mono ?_
  rintro e w6 ⟨rfl, hh6, hg6⟩
  have hG6 := hG5.grown hg6 hh5.1
  have hd6 := (hg6.block nb (zlt hd5) (by simp; omega)).trans hd5
  have hB6 : Below hb w w6 := below_grown hB5 hg6 (by have := zlt hd5; omega) (by intro k e; cases e; exact Nat.le_refl _)
  clear hG5 hh5 hd5 hB5 hg6
  go_wp2_with fail
  refine (hash_write w6 hb K64 F0 _ _ hG6 hh6 (by decide) (by simp)).mono ?_
  rintro e w7 ⟨rfl, hh7, hg7⟩
  have hG7 := hG6.grown hg7 hh6.1
  have hd7 := (hg7.block nb (zlt hd6) (by simp; omega)).trans hd6
  have hB7 : Below hb w w7 := below_grown hB6 hg7 (by have := zlt hd6; omega) (by intro k e; cases e; exact Nat.le_refl _)
  have hz7 : hb < w7.heap.size := by have := zlt hd7; omega
  rw [show ([] ++ [97, 98] ++ [99] : List UInt8) = [97, 98, 99] from rfl] at hh7
  clear hG6 hh6 hd6 hB6 hg7
  go_wp2_with ((with_reducible show wpList _ _ _ (⟨some 12, Op.load _ _, _, _, _, _⟩ :: _) _ _); refine Hid.out ?_)
  refine hide ?_
  refine wpList_load_row rfl 28 _ rfl nb rfl _ _ _ _ hd7 Tryd.underlying28 rfl (by rw [dg_size, hl0]; exact zsizeDig) ?_
  clear hd7
  go_wp2_with fail
  refine (digits_any D0 hl0 w7).mono ?_
  rintro e w8 ⟨rfl, hB8⟩
  rw [hx0]
  have hG8 := hG7.below hB8
  have hh8 := hh7.below hB8
  have hB8' := hB7.trans (hB8.mono (by omega))
  have hz8 := zlt hh8.2
  clear hG7 hh7 hB7 hB8 hx0 hl0
  go_wp2_with fail
  refine (hash_digest w8 hb K64 F0 [97, 98, 99] hG8 hh8 (by simp)).mono ?_
  rintro e w9 ⟨rfl, hB9⟩
  have hx1 := hex_abc
  have hl1 := sha_length K64 F0 [97, 98, 99]
  generalize shaOf K64 F0 [97, 98, 99] = D1 at hx1 hl1 ⊢
  have hG9 := hG8.below hB9
  have hB9' := hB8'.trans (hB9.mono (by omega))
  have hz9 := hB9.size
  clear hG8 hh8 hB8' hB9
  go_wp2_with fail
  refine (digits_any D1 hl1 w9).mono ?_
  rintro e w10 ⟨rfl, hB10⟩
  rw [hx1]
  have hG10 := hG9.below hB10
  have hB10' := hB9'.trans (hB10.mono (by omega))
  have hz10 := hB10.size
  clear hG9 hB9' hB10 hx1 hl1
  go_wp2_with fail
  refine (hash_sum w10 K64 F0 _ hG10 (by decide)).mono ?_
  rintro e w11 ⟨rfl, hB11⟩
  have hx2 := hex_long
  have hl2 := sha_length K64 F0 [97, 98, 99, 100, 98, 99, 100, 101, 99, 100, 101, 102, 100, 101, 102, 103, 101, 102, 103, 104, 102, 103, 104, 105, 103, 104, 105, 106, 104, 105, 106, 107, 105, 106, 107, 108, 106, 107, 108, 109, 107, 108, 109, 110, 108, 109, 110, 111, 109, 110, 111, 112, 110, 111, 112, 113]
  have hB11' := hB10'.trans (hB11.mono (by omega))
  have hz11 := hB11.size
  clear hG10 hB10' hB11
  generalize shaOf K64 F0 _ = D2 at hx2 hl2 ⊢
  go_wp2_with fail
  refine (digits_any D2 hl2 w11).mono ?_
  rintro e w12 ⟨rfl, hB12⟩
  rw [hx2]
  have hB12' := hB11'.trans (hB12.mono (by omega))
  clear hB12 hx2 hl2
  go_wp2
  go_ret
  exact ⟨rfl, HHB.out ▸ hB12'⟩
end Go.Proofs.YtpkgmoiffegbfaaDoor
