/- The document's padding: the walk through pad. No condition but the text's size. -/
import Derived.Test.YtpkgmoiffegbfaaDoorRWords
namespace Go.Proofs.YtpkgmoiffegbfaaDoor
open Go.RowKit Go.BigFrame
set_option maxRecDepth 100000

def PadP (t : List UInt8) (w : World) (e : Ending) (w' : World) : Prop := ∃ v', e = .returned v' ∧ OwnM w' w.heap.size v' (padR t) ∧ Below w.heap.size w w'
theorem be8_byte (X k : Nat) (hk : k < 8) : (be8 X)[k]? = some (UInt8.ofNat (X / 2 ^ (8 * (7 - k)))) := by
  match k, hk with
  | 0, _ | 1, _ | 2, _ | 3, _ | 4, _ | 5, _ | 6, _ | 7, _ => rfl
  | k + 8, h => omega
theorem be8_take (X k : Nat) (hk : k < 8) : (be8 X).take (k + 1) = (be8 X).take k ++ [UInt8.ofNat (X / 2 ^ (8 * (7 - k)))] := by
  rw [List.take_add_one, be8_byte X k hk]; rfl
theorem byteN (X s : Nat) : ((UInt8.ofNat (X / 2 ^ s)).toNat : Int) = (X : Int) / 2 ^ s % 256 := (wrap8N X s).symm
set_option maxHeartbeats 4000000 in
theorem pad_any (text : ByteArray) (ht : text.size ≤ 100000) (w : World) :
    Calls Tryd.prog 33 #[.string text] w (PadP text.data.toList w) := by
  obtain ⟨t, htE⟩ : ∃ t, t = text.data.toList := ⟨_, rfl⟩
  have htl : t.length = text.size := by rw [htE]; rfl
  obtain ⟨N, hN⟩ : ∃ N, N = w.heap.size := ⟨_, rfl⟩
  have hB0 : Below N w w := by rw [hN]; exact Below.refl _ _
  have hz0 : N ≤ w.heap.size := by omega
  obtain ⟨n, hn⟩ : ∃ n, n = text.size := ⟨_, rfl⟩
  unfold PadP
  rw [← htE, ← hN]
  rw [← hn] at htl ht
  have HN := hide hN
  have HT := hide htE
  have HTL := hide htl
  have HTN := hide hn
  clear hN htE htl
  have hnI : (n : Int) ≤ 100000 := by omega
  have hn0 : (0 : Int) ≤ (n : Int) := by omega
  clear hn
  go_enter Tryd.func33, Tryd.ntmps33
  go_wp2_with ((with_reducible show wpList _ _ _ (⟨some 7, _, _, _, _, _⟩ :: _) _ _); refine Hid.out ?_)
  refine hide ?_
  refine zconvM rfl _ _ _ rfl text rfl Tryd.underlying9 Tryd.underlying22 (by rw [← HTN.out]; omega) N hz0 ?_
  intro v1 w1 hO1 hg1 hz1
  rw [← HT.out] at hO1
  have hB1 : Below N w w1 := below_grown hB0 hg1 hz0 (by intro k e; cases e)
  have hz1' : N ≤ w1.heap.size := by omega
  clear hg1 hz1 hB0 hz0
  go_wp2_with ((with_reducible show wpList _ _ _ (⟨some 9, _, _, _, _, _⟩ :: _) _ _); refine Hid.out ?_)
  refine hide ?_
  refine zappM rfl _ _ rfl _ rfl w1.heap.size 1 rfl 128 (zcell (new_at _ _) rfl) N t (hO1.alloc _) (by rw [HTL.out]; omega) (by simp; omega) ?_
  intro v2 w2 hO2 hB2 hz2
  have hB2' : Below N w w2 := (hB1.alloc hz1' _).trans hB2
  clear hO1 hB1 hz1' hB2
  obtain ⟨a2, c2, rfl⟩ := hO2.slice
  have hl2 : (t ++ [128]).length = n + 1 := by rw [List.length_append, HTL.out]; rfl
  rw [hl2] at hO2 ⊢
  clear hl2
  obtain ⟨z, hzE⟩ : ∃ z, z = (119 - n % 64) % 64 := ⟨_, rfl⟩
  have hz64 : z < 64 := by omega
  have HZ := hide hzE
  clear hzE
  go_wp2_with fail
  go_loopg [3] z (fun g v wi => ∃ (j : Nat) (a : Option Addr) (c : Nat), j ≤ z ∧ g = z - j ∧ v = .slice a (n + 1 + j) c ∧ OwnM wi N v (t ++ [128] ++ List.replicate j 0) ∧ Below N w wi ∧ N ≤ wi.heap.size)
  case atStart => exact ⟨0, a2, c2, by omega, rfl, rfl, by rw [List.replicate_zero, List.append_nil]; exact hO2, hB2', hz2⟩
  case round =>
    obtain ⟨j, a, c, hj, rfl, rfl, hO, hBl, hzr⟩ := hrel
    clear hO2 hB2' hz2
    obtain ⟨m, hm⟩ : ∃ m, m = n + 1 + j := ⟨_, rfl⟩
    have hm1 : (m : Int) ≤ 200000 := by omega
    have hm0 : (0 : Int) ≤ (m : Int) := by omega
    rw [← hm] at hO ⊢
    by_cases hlt : j < z
    · have htest : ((m : Int) % 64 != 56) = true := by have := HZ.out; simp; omega
      have HM := hide hm
      clear hm
      go_upto_region 3 with (fail)
      go_wp2_with ((with_reducible show wpList _ _ _ (⟨some 16, _, _, _, _, _⟩ :: _) _ _); refine Hid.out ?_)
      refine hide ?_
      refine zappM rfl _ _ rfl _ rfl wr.heap.size 1 rfl 0 (zcell (new_at _ _) rfl) N _ (hO.alloc _) (by simp [HTL.out]; omega) (by simp; omega) ?_
      intro v' w' hO' hB' hz'
      have hB3 : Below N w w' := (hBl.alloc hzr _).trans hB'
      rw [List.append_assoc (t ++ [128]), ← List.replicate_succ'] at hO'
      clear hO hBl hzr hB'
      obtain ⟨a', c', rfl⟩ := hO'.slice
      have hl1 : (t ++ [128] ++ List.replicate (j + 1) (0 : UInt8)).length = n + 1 + (j + 1) := by simp [HTL.out]; omega
      rw [hl1] at hO' ⊢
      clear hl1
      obtain ⟨m2, hm2⟩ : ∃ m2, m2 = n + 1 + (j + 1) := ⟨_, rfl⟩
      rw [← hm2] at hO' ⊢
      have HM2 := hide hm2
      clear hm2 htest
      go_wp2
      go_roundg (z - (j + 1))
      case measure => omega
      case rel => exact ⟨j + 1, a', c', by omega, rfl, by rw [HM2.out], hO', hB3, hz'⟩
    · obtain rfl : j = z := by omega
      have htest : ((m : Int) % 64 != 56) = false := by have := HZ.out; simp; omega
      have HM := hide hm
      clear hm
      obtain ⟨P, hP⟩ : ∃ P, P = t ++ [128] ++ List.replicate j (0 : UInt8) := ⟨_, rfl⟩
      have hPl : P.length = m := by rw [hP, HM.out]; simp [HTL.out]; omega
      rw [← hP] at hO
      have HP := hide hP
      have HPL := hide hPl
      obtain ⟨X, hX⟩ : ∃ X : Nat, X = 8 * n := ⟨_, rfl⟩
      have hXe : 8 * (text.size : Int) = (X : Int) := by rw [hX, HTN.out]; omega
      have hts : (text.size : Int) ≤ 100000 := by rw [← HTN.out]; exact hnI
      have hX0 : (0 : Int) ≤ (X : Int) := by omega
      have hXm : (X : Int) ≤ 800000 := by omega
      have HX := hide hX
      clear hP hPl hX
      go_upto_region 5 with (fail)
      clear hXe hts htest
      go_wp2
      go_loopg [3, 5] 8 (fun g v vi wi => ∃ (k : Nat) (a : Option Addr) (c : Nat), k ≤ 8 ∧ g = 8 - k ∧ vi = .int .i64 (7 - (k : Int)) ∧ v = .slice a (m + k) c ∧ OwnM wi N v (P ++ (be8 X).take k) ∧ Below N w wi ∧ N ≤ wi.heap.size)
      case atStart => exact ⟨0, a, c, by omega, rfl, rfl, rfl, by rw [List.take_zero, List.append_nil]; exact hO, hBl, hzr⟩
      case round =>
        obtain ⟨k, a, c, hk, rfl, rfl, rfl, hO, hBl, hzr⟩ := hrel
        by_cases hk8 : k < 8
        · obtain ⟨i, hi⟩ : ∃ i : Nat, i = 7 - k := ⟨_, rfl⟩
          have hiI : 7 - (k : Int) = (i : Int) := by omega
          have hi7 : (i : Int) ≤ 7 := by omega
          have hi0 : (0 : Int) ≤ (i : Int) := by omega
          have HI := hide hi
          rw [hiI]
          clear hi
          go_wp2_with ((with_reducible show wpList _ _ _ (⟨some 33, _, _, _, _, _⟩ :: _) _ _); refine Hid.out ?_)
          refine hide ?_
          have hbt := be8_take X k hk8
          rw [← HI.out] at hbt
          refine zappM rfl _ _ rfl _ rfl wr.heap.size 1 rfl (UInt8.ofNat (X / 2 ^ (8 * i))) (zcell (new_at _ _) (by rw [byteN]; rfl)) N _ (hO.alloc _) (by rw [List.length_append, List.length_take, HPL.out]; omega) (by simp; omega) ?_
          intro v' w' hO' hB' hz'
          have hB3 : Below N w w' := (hBl.alloc hzr _).trans hB'
          rw [List.append_assoc P, ← hbt] at hO'
          clear hO hBl hzr hB' hbt
          obtain ⟨a', c', rfl⟩ := hO'.slice
          have hl1 : (P ++ (be8 X).take (k + 1)).length = m + (k + 1) := by rw [List.length_append, List.length_take, HPL.out]; have : (be8 X).length = 8 := rfl; omega
          rw [hl1] at hO' ⊢
          clear hl1
          obtain ⟨m2, hm2⟩ : ∃ m2, m2 = m + (k + 1) := ⟨_, rfl⟩
          rw [← hm2] at hO' ⊢
          have HM2 := hide hm2
          clear hm2
          go_wp2
          go_roundg (8 - (k + 1))
          case measure => omega
          case rel => exact ⟨k + 1, a', c', by omega, rfl, by have := HI.out; congr 1; omega, by rw [HM2.out], hO', hB3, hz'⟩
        · obtain rfl : k = 8 := by omega
          have hneg : (7 : Int) - ((8 : Nat) : Int) = -1 := by omega
          rw [hneg]
          have hfin : P ++ (be8 X).take 8 = padR t := by
            rw [show (be8 X).take 8 = be8 X from rfl, HP.out, HX.out, padR, padB, HTL.out, ← HZ.out]
            simp
          rw [hfin] at hO
          clear hfin
          go_wp2
          go_ret
          exact ⟨_, rfl, hO, hBl⟩
end Go.Proofs.YtpkgmoiffegbfaaDoor
