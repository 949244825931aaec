/- ShaTells: the walk. Condition: what the two variables hold. -/
import Derived.Test.YtpkgmoiffegbfaaDoorRSum
import Derived.Test.YtpkgmoiffegbfaaDoorZPieces
namespace Go.Proofs.YtpkgmoiffegbfaaDoor
open Go.RowKit Go.BigFrame
set_option maxRecDepth 100000
attribute [local go_sem ↓] exec_loadZ exec_eqlZ exec_neqZ exec_zeroZ
attribute [local go_sem] loadRow eqRow digEq_dg isDig_dg objAt_drew

set_option maxHeartbeats 1000000 in
theorem zshatells_any (text : ByteArray) (w : World) (hG : Glob F0 K64 w) :
    Calls Tryd.prog 6 #[.string text] w fun e w' => e = .returned (.bool true) ∧ Below w.heap.size w w' := by
  have HG := hide hG
  clear hG
  obtain ⟨m, hm⟩ : ∃ m, m = min text.size 400 := ⟨_, rfl⟩
  have HM := hide hm
  have hm1 : (m : Int) ≤ (text.size : Int) := by omega
  have hm2 : (if (400 : Int) < (text.size : Int) then (400 : Int) else (text.size : Int)) = (m : Int) := by split <;> omega
  clear hm
  go_enter Tryd.func6, Tryd.ntmps6
  go_upto_region 2 with (fail)
  clear hm2
  obtain ⟨s, hs⟩ : ∃ s, s = text.extract 0 m := ⟨_, rfl⟩
  have hsz : s.size ≤ 400 := by have := HM.out; rw [hs, ByteArray.size_extract]; omega
  rw [← hs]
  clear hs hm1
  go_wp2_with fail
  refine (hash_sum w K64 F0 s HG.out (by omega)).mono ?_
  rintro e w2 ⟨rfl, hB2⟩
  have hG2 := HG.out.below hB2
  go_wp2_with fail
  refine (rsum_any s (by omega) w2).mono ?_
  rintro e w3 ⟨rfl, hB3⟩
  have hG3 := hG2.below hB3
  have hB3' : Below w.heap.size w w3 := hB2.trans (hB3.mono hB2.size)
  have hl1 := sha_length K64 F0 s.data.toList
  generalize shaOf K64 F0 s.data.toList = D at hl1 ⊢
  have HG3 := hide (And.intro hG3 hB3')
  clear hB2 hG2 hB3 hG3 hB3'
  go_wp2_with fail
  refine (zworks_any w3 HG3.out.1).mono ?_
  rintro e w4 ⟨rfl, hB4⟩
  go_wp2
  go_ret
  exact ⟨rfl, HG3.out.2.trans (hB4.mono HG3.out.2.size)⟩
end Go.Proofs.YtpkgmoiffegbfaaDoor
