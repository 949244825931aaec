/- ShaKnown: the walk. Condition: what the two variables hold. -/
import Derived.Test.YtpkgmoiffegbfaaDoorZCmp
namespace Go.Proofs.YtpkgmoiffegbfaaDoor
open Go.RowKit Go.BigFrame
set_option maxRecDepth 100000
attribute [local go_sem ↓] exec_loadZ exec_eqlZ exec_neqZ exec_zeroZ
attribute [local go_sem] loadRow eqRow digEq_dg isDig_dg

theorem hex_fox : hexOf (shaOf K64 F0 [84, 104, 101, 32, 113, 117, 105, 99, 107, 32, 98, 114, 111, 119, 110, 32, 102, 111, 120, 32, 106, 117, 109, 112, 115, 32, 111, 118, 101, 114, 32, 116, 104, 101, 32, 108, 97, 122, 121, 32, 100, 111, 103]) = [100, 55, 97, 56, 102, 98, 98, 51, 48, 55, 100, 55, 56, 48, 57, 52, 54, 57, 99, 97, 57, 97, 98, 99, 98, 48, 48, 56, 50, 101, 52, 102, 56, 100, 53, 54, 53, 49, 101, 52, 54, 100, 51, 99, 100, 98, 55, 54, 50, 100, 48, 50, 100, 48, 98, 102, 51, 55, 99, 57, 101, 53, 57, 50] := by rw [sum_fox]; kernel_rfl
set_option maxHeartbeats 2000000 in
theorem zknown_any (w : World) (hG : Glob F0 K64 w) : Calls Tryd.prog 5 #[] w fun e w' => e = .returned (.bool true) ∧ Below w.heap.size w w' := by
  have HG := hide hG
  clear hG
  go_enter Tryd.func5, Tryd.ntmps5
  go_wp2_with fail
  refine (write_nil _ _).mono ?_
  rintro e w2 ⟨rfl, hB2⟩
  have hG2 := HG.out.below hB2
  have hz2 := hB2.size
  go_wp2_with fail
  refine (zworks_any _ hG2).mono ?_
  rintro e w3 ⟨rfl, hB3⟩
  have hG3 := hG2.below hB3
  have hB3' := hB2.trans (hB3.mono hz2)
  have hz3 := Nat.le_trans hz2 hB3.size
  clear hG2 hB2 hB3 hz2
  go_wp2_with fail
  refine (hash_sum w3 K64 F0 _ hG3 (by decide)).mono ?_
  rintro e w4 ⟨rfl, hB4⟩
  have hx2 := hex_fox
  have hl2 := sha_length K64 F0 [84, 104, 101, 32, 113, 117, 105, 99, 107, 32, 98, 114, 111, 119, 110, 32, 102, 111, 120, 32, 106, 117, 109, 112, 115, 32, 111, 118, 101, 114, 32, 116, 104, 101, 32, 108, 97, 122, 121, 32, 100, 111, 103]
  have hB4' := hB3'.trans (hB4.mono hz3)
  have hz4 := Nat.le_trans hz3 hB4.size
  clear hG3 hB3' hB4 hz3
  generalize shaOf K64 F0 _ = D2 at hx2 hl2 ⊢
  go_wp2_with fail
  refine (digits_any D2 hl2 w4).mono ?_
  rintro e w5 ⟨rfl, hB5⟩
  rw [hx2]
  have hB5' := hB4'.trans (hB5.mono hz4)
  have hz5 := Nat.le_trans hz4 hB5.size
  clear hB5 hx2 hl2 hB4' hz4
  go_wp2_with fail
  refine (digest_nil w5).mono ?_
  rintro e w6 ⟨rfl, hB6⟩
  have hB6' := hB5'.trans (hB6.mono hz5)
  have hlz : z32.length = 32 := rfl
  clear hB6 hB5' hz5
  go_wp2_with fail
  refine (copy_nil w6).mono ?_
  rintro e w7 ⟨rfl, rfl⟩
  go_wp2
  go_ret
  exact ⟨rfl, hB6'⟩
end Go.Proofs.YtpkgmoiffegbfaaDoor
