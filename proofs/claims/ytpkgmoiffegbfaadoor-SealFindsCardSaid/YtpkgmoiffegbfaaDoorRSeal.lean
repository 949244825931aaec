/- The document's sealing: the walks through eight, Bytes, Commit, Opens. No condition but that numbers are of their kinds. -/
import Derived.Test.YtpkgmoiffegbfaaDoorRSum
import Derived.Test.YtpkgmoiffegbfaaDoorZSeal
namespace Go.Proofs.YtpkgmoiffegbfaaDoor
open Go.RowKit Go.BigFrame
set_option maxRecDepth 100000
attribute [local go_sem ↓] exec_loadZ exec_eqlZ exec_neqZ exec_zeroZ
attribute [local go_sem] loadRow eqRow digEq_dg isDig_dg objAt_drew

set_option maxHeartbeats 1000000 in
theorem reight_any (X : Nat) (hX : X ≤ 18446744073709551615) (w : World) :
    Calls Tryd.prog 40 #[.int .u64 (X : Int)] w fun e w' => e = .returned (.string ⟨(be8 X).toArray⟩) ∧ Below w.heap.size w w' := by
  obtain ⟨N, hN⟩ : ∃ N, N = w.heap.size := ⟨_, rfl⟩
  have hB0 : Below N w w := by rw [hN]; exact Below.refl _ _
  have hz0 : N ≤ w.heap.size := by omega
  have HN := hide hN
  have HX := hide hX
  have hX0 : (0 : Int) ≤ (X : Int) := by omega
  rw [← hN]
  clear hN hX
  go_enter Tryd.func40, Tryd.ntmps40
  go_wp2
  go_loopg [3, 4] 8 (fun g v vi wi => ∃ (k : Nat) (a : Option Addr) (c : Nat), k ≤ 8 ∧ g = 8 - k ∧ vi = .int .i64 (7 - (k : Int)) ∧ v = .slice a k c ∧ OwnB wi N v ((be8 X).take k) ∧ Below N w wi ∧ N ≤ wi.heap.size)
  case atStart => exact ⟨0, none, 0, by omega, rfl, rfl, rfl, OwnB.nil _ _, hB0, hz0⟩
  case round =>
    obtain ⟨k, a, c, hk, rfl, rfl, rfl, hO, hBl, hzr⟩ := hrel
    clear hB0 hz0
    by_cases hk8 : k < 8
    · obtain ⟨i, hi⟩ : ∃ i : Nat, i = 7 - k := ⟨_, rfl⟩
      have hiI : 7 - (k : Int) = (i : Int) := by omega
      have hi7 : (i : Int) ≤ 7 := by omega
      have hi0 : (0 : Int) ≤ (i : Int) := by omega
      have HI := hide hi
      rw [hiI]
      clear hi
      go_wp2_with ((with_reducible show wpList _ _ _ (⟨some 17, _, _, _, _, _⟩ :: _) _ _); refine Hid.out ?_)
      refine hide ?_
      have hbt := be8_take X k hk8
      rw [← HI.out] at hbt
      refine zapp rfl _ _ rfl _ rfl wr.heap.size 1 1 rfl [UInt8.ofNat (X / 2 ^ (8 * i))] rfl (fun j u hu => zcell (new_at _ _) (by rw [Lib.byteCells] at hu; simp only [List.map_cons, List.map_nil, byteN] at hu; simpa using hu)) N _ (hO.grown (World.grownBy_alloc _ _ none) (by intro k e; cases e)) (by rw [List.length_take]; omega) (by omega) (by simp; omega) ?_
      intro v' w' hO' hg'
      have hlo : ∀ b, (Value.slice a k c).ownBlock = some b → N ≤ b := fun b e => (World.ownsRow.lt hO b e).1
      have hB3 : Below N w w' := below_grown (hBl.alloc hzr _) hg' (by simp; omega) hlo
      have hz' : N ≤ w'.heap.size := Nat.le_trans (by simp; omega) hg'.size
      rw [← hbt] at hO'
      clear hO hBl hzr hg' hbt hlo
      obtain ⟨a', c', rfl⟩ := hO'.slice
      have hl1 : ((be8 X).take (k + 1)).length = k + 1 := by rw [List.length_take]; have : (be8 X).length = 8 := rfl; omega
      rw [hl1] at hO' ⊢
      clear hl1
      go_wp2
      go_roundg (8 - (k + 1))
      case measure => omega
      case rel => exact ⟨k + 1, a', c', by omega, rfl, by have := HI.out; congr 1; omega, rfl, hO', hB3, hz'⟩
    · obtain rfl : k = 8 := by omega
      have hneg : (7 : Int) - ((8 : Nat) : Int) = -1 := by omega
      rw [hneg]
      rw [show (be8 X).take 8 = be8 X from rfl] at hO
      go_wp2_with ((with_reducible show wpList _ _ _ (⟨some 19, _, _, _, _, _⟩ :: _) _ _); refine Hid.out ?_)
      refine hide ?_
      refine zstring rfl _ _ _ rfl Tryd.underlying22 Tryd.underlying9 _ rfl N (be8 X) hO (by simp [be8]) ?_
      go_wp2
      go_ret
      exact ⟨rfl, hBl⟩
theorem u64le (r : Int) : u64of r ≤ 18446744073709551615 := by unfold u64of; omega
theorem bcat (a b : List UInt8) : ((⟨a.toArray⟩ : ByteArray) ++ ⟨b.toArray⟩) = ⟨(a ++ b).toArray⟩ := by
  apply ByteArray.ext
  rw [ByteArray.data_append]
  simp
/-- What stays while the bytes are laid. -/
def RbC (n : Nat) (w0 : World) (x : Se) (w : World) : Prop := w.heap[n]? = some (.cells x.cells.toArray 41 (0, 0)) ∧ Below n w0 w ∧ n < w.heap.size
theorem RbC.below {n : Nat} {w0 : World} {x : Se} {w w' : World} (h : RbC n w0 x w) (hb : Below w.heap.size w w') : RbC n w0 x w' := ⟨below_at hb h.1 h.2.2, h.2.1.trans (hb.mono (Nat.le_of_lt h.2.2)), Nat.lt_of_lt_of_le h.2.2 hb.size⟩
set_option maxHeartbeats 1000000 in
theorem rbytes_any (w : World) (x : Se) (ok : x.Ok) :
    Calls Tryd.prog 27 #[.agg x.cells.toArray] w fun e w' => e = .returned (.string ⟨(seB x).toArray⟩) ∧ Below w.heap.size w w' := by
  obtain ⟨⟨_, _⟩, ⟨_, _⟩, ⟨hb0, hb1⟩, hn0, hn1⟩ := ok
  obtain ⟨n, hn⟩ : ∃ n, n = w.heap.size := ⟨_, rfl⟩
  have h1 := new_at w (.cells x.cells.toArray 41)
  have hB : Below n w (w.alloc (.cells x.cells.toArray 41)) := by rw [hn]; exact (Below.refl _ _).alloc (Nat.le_refl _) _
  have hC : RbC n w x (w.alloc (.cells x.cells.toArray 41)) := by rw [hn] at hB ⊢; exact ⟨h1, hB, by simp⟩
  have r1 := reight_any (u64of x.r) (u64le x.r)
  have r2 := reight_any (u64of x.c) (u64le x.c)
  have r3 := reight_any x.b.toNat (by omega)
  have r4 := reight_any x.n.toNat (by omega)
  have q1 := u64of_wrap x.r
  have q2 := u64of_wrap x.c
  have q3 : ((x.b.toNat : Nat) : Int) = x.b := by omega
  have q4 : ((x.n.toNat : Nat) : Int) = x.n := by omega
  have hse : seB x = consL ++ be8 (u64of x.r) ++ be8 (u64of x.c) ++ be8 x.b.toNat ++ be8 x.n.toNat := rfl
  rw [q3] at r3
  rw [q4] at r4
  obtain ⟨E1, hE1⟩ : ∃ E1, E1 = be8 (u64of x.r) := ⟨_, rfl⟩
  obtain ⟨E2, hE2⟩ : ∃ E2, E2 = be8 (u64of x.c) := ⟨_, rfl⟩
  obtain ⟨E3, hE3⟩ : ∃ E3, E3 = be8 x.b.toNat := ⟨_, rfl⟩
  obtain ⟨E4, hE4⟩ : ∃ E4, E4 = be8 x.n.toNat := ⟨_, rfl⟩
  rw [← hE1] at r1
  rw [← hE2] at r2
  rw [← hE3] at r3
  rw [← hE4] at r4
  rw [← hE1, ← hE2, ← hE3, ← hE4] at hse
  obtain ⟨T1, hT1⟩ : ∃ T1, T1 = consL ++ E1 := ⟨_, rfl⟩
  obtain ⟨T2, hT2⟩ : ∃ T2, T2 = T1 ++ E2 := ⟨_, rfl⟩
  obtain ⟨T3, hT3⟩ : ∃ T3, T3 = T2 ++ E3 := ⟨_, rfl⟩
  obtain ⟨T4, hT4⟩ : ∃ T4, T4 = T3 ++ E4 := ⟨_, rfl⟩
  have m1 : E1.length = 8 := by rw [hE1]; rfl
  have m2 : E2.length = 8 := by rw [hE2]; rfl
  have m3 : E3.length = 8 := by rw [hE3]; rfl
  have m4 : E4.length = 8 := by rw [hE4]; rfl
  have l1 : T1.length = 15 := by rw [hT1, List.length_append, m1]; rfl
  have l2 : T2.length = 23 := by rw [hT2, List.length_append, l1, m2]
  have l3 : T3.length = 31 := by rw [hT3, List.length_append, l2, m3]
  rw [← hT1, ← hT2, ← hT3, ← hT4] at hse
  have HT := hide (And.intro hT1 (And.intro hT2 (And.intro hT3 hT4)))
  have HL := hide (And.intro (And.intro m1 (And.intro m2 (And.intro m3 m4))) (And.intro l1 (And.intro l2 l3)))
  clear hT1 hT2 hT3 hT4 m1 m2 m3 m4 l1 l2 l3
  obtain ⟨Z, hZ⟩ : ∃ Z, Z = seB x := ⟨_, rfl⟩
  rw [← hZ] at hse ⊢
  obtain ⟨U1, hU1⟩ : ∃ U1, U1 = u64of x.r := ⟨_, rfl⟩
  obtain ⟨U2, hU2⟩ : ∃ U2, U2 = u64of x.c := ⟨_, rfl⟩
  rw [← hU1] at r1 q1
  rw [← hU2] at r2 q2
  have R1 := hide r1
  have R2 := hide r2
  have R3 := hide r3
  have R4 := hide r4
  have HQ := hide (And.intro q1 q2)
  have HSE := hide hse
  have HN := hide hn
  clear r1 r2 r3 r4 q1 q2 q3 q4 hse hn h1 hB hE1 hE2 hE3 hE4 hZ hU1 hU2
  go_enter Tryd.func27, Tryd.ntmps27
  go_upto_region 1 with (fail)
  rw [← HN.out]
  refine zquiet (C := RbC n w x) (by kernel_rfl) (by kernel_rfl) (hC.below ((Below.refl _ _).drew)) ?_
  iterate 1 (go_big_quiet_want; go_big_quiet_op; first | go_big_quiet_on | (refine ⟨_, fun _ _ => rfl, ?_⟩; go_big_quiet_on))
  go_big_quiet_want; go_big_quiet_op; refine ⟨.int .i64 x.r, fun wq hq => ?_, ?_⟩
  · have c0 : wq.cell? ⟨n, 0, none⟩ = some (.int .i64 x.r) := zcell hq.1 rfl
    simp [go_sem, c0]
  go_big_quiet_on
  go_big_quiet_want; go_big_quiet_op; refine ⟨.int .u64 (U1 : Int), fun wq hq => ?_, ?_⟩
  · have q1 := HQ.out.1
    simp [go_sem, q1]
  go_big_quiet_on
  go_big_quiet_want; go_big_quiet_op; refine ⟨.string ⟨E1.toArray⟩, fun wq hq => ?_, ?_⟩
  · exact (R1.out wq).mono fun e w' ⟨he, hb⟩ => ⟨he, hq.below hb⟩
  go_big_quiet_on
  go_big_quiet_want; go_big_quiet_op; refine ⟨.string ⟨T1.toArray⟩, fun wq hq => ?_, ?_⟩
  · have m := HL.out.1.1
    have h : ((⟨#[99, 111, 110, 115, 105, 103, 110]⟩ : ByteArray) ++ ⟨E1.toArray⟩) = ⟨T1.toArray⟩ := by rw [HT.out.1]; exact bcat consL E1
    simp [go_sem, m, h]
  go_big_quiet_on
  iterate 1 (go_big_quiet_want; go_big_quiet_op; first | go_big_quiet_on | (refine ⟨_, fun _ _ => rfl, ?_⟩; go_big_quiet_on))
  go_big_quiet_want; go_big_quiet_op; refine ⟨.int .i64 x.c, fun wq hq => ?_, ?_⟩
  · have c0 : wq.cell? ⟨n, 1, none⟩ = some (.int .i64 x.c) := zcell hq.1 rfl
    simp [go_sem, c0]
  go_big_quiet_on
  go_big_quiet_want; go_big_quiet_op; refine ⟨.int .u64 (U2 : Int), fun wq hq => ?_, ?_⟩
  · have q1 := HQ.out.2
    simp [go_sem, q1]
  go_big_quiet_on
  go_big_quiet_want; go_big_quiet_op; refine ⟨.string ⟨E2.toArray⟩, fun wq hq => ?_, ?_⟩
  · exact (R2.out wq).mono fun e w' ⟨he, hb⟩ => ⟨he, hq.below hb⟩
  go_big_quiet_on
  go_big_quiet_want; go_big_quiet_op; refine ⟨.string ⟨T2.toArray⟩, fun wq hq => ?_, ?_⟩
  · have m := HL.out.1.2.1
    have l := HL.out.2.1
    have h : ((⟨T1.toArray⟩ : ByteArray) ++ ⟨E2.toArray⟩) = ⟨T2.toArray⟩ := by rw [HT.out.2.1]; exact bcat T1 E2
    simp [go_sem, m, l, h]
  go_big_quiet_on
  iterate 1 (go_big_quiet_want; go_big_quiet_op; first | go_big_quiet_on | (refine ⟨_, fun _ _ => rfl, ?_⟩; go_big_quiet_on))
  go_big_quiet_want; go_big_quiet_op; refine ⟨.int .u64 x.b, fun wq hq => ?_, ?_⟩
  · have c0 : wq.cell? ⟨n, 2, none⟩ = some (.int .u64 x.b) := zcell hq.1 rfl
    simp [go_sem, c0]
  go_big_quiet_on
  go_big_quiet_want; go_big_quiet_op; refine ⟨.string ⟨E3.toArray⟩, fun wq hq => ?_, ?_⟩
  · exact (R3.out wq).mono fun e w' ⟨he, hb⟩ => ⟨he, hq.below hb⟩
  go_big_quiet_on
  go_big_quiet_want; go_big_quiet_op; refine ⟨.string ⟨T3.toArray⟩, fun wq hq => ?_, ?_⟩
  · have m := HL.out.1.2.2.1
    have l := HL.out.2.2.1
    have h : ((⟨T2.toArray⟩ : ByteArray) ++ ⟨E3.toArray⟩) = ⟨T3.toArray⟩ := by rw [HT.out.2.2.1]; exact bcat T2 E3
    simp [go_sem, m, l, h]
  go_big_quiet_on
  iterate 1 (go_big_quiet_want; go_big_quiet_op; first | go_big_quiet_on | (refine ⟨_, fun _ _ => rfl, ?_⟩; go_big_quiet_on))
  go_big_quiet_want; go_big_quiet_op; refine ⟨.int .u64 x.n, fun wq hq => ?_, ?_⟩
  · have c0 : wq.cell? ⟨n, 3, none⟩ = some (.int .u64 x.n) := zcell hq.1 rfl
    simp [go_sem, c0]
  go_big_quiet_on
  go_big_quiet_want; go_big_quiet_op; refine ⟨.string ⟨E4.toArray⟩, fun wq hq => ?_, ?_⟩
  · exact (R4.out wq).mono fun e w' ⟨he, hb⟩ => ⟨he, hq.below hb⟩
  go_big_quiet_on
  go_big_quiet_want; go_big_quiet_op; refine ⟨.string ⟨T4.toArray⟩, fun wq hq => ?_, ?_⟩
  · have m := HL.out.1.2.2.2
    have l := HL.out.2.2.2
    have h : ((⟨T3.toArray⟩ : ByteArray) ++ ⟨E4.toArray⟩) = ⟨T4.toArray⟩ := by rw [HT.out.2.2.2]; exact bcat T3 E4
    simp [go_sem, m, l, h]
  go_big_quiet_on
  iterate 1 (go_big_quiet_want; go_big_quiet_op; first | go_big_quiet_on | (refine ⟨_, fun _ _ => rfl, ?_⟩; go_big_quiet_on))
  refine wpQuiet_nil ?_
  clear hC
  intro wd hqd
  go_wp2
  go_ret
  exact ⟨by rw [HSE.out]; rfl, by rw [← HN.out]; exact hqd.2.1⟩
theorem rcommit_any (w : World) (x : Se) (ok : x.Ok) :
    Calls Tryd.prog 26 #[.agg x.cells.toArray] w fun e w' => e = .returned (.agg (dg (comS x))) ∧ Below w.heap.size w w' := by
  obtain ⟨n, hn⟩ : ∃ n, n = w.heap.size := ⟨_, rfl⟩
  have hx1 := new_at w (.cells x.cells.toArray 41)
  have hB1 : Below n w (w.alloc (.cells x.cells.toArray 41)) := by rw [hn]; exact (Below.refl _ _).alloc (Nat.le_refl _) _
  have hz1 : (w.alloc (.cells x.cells.toArray 41)).heap.size = n + 1 := by rw [World.size_alloc, hn]
  have HRB := hide (rbytes_any)
  rw [← hn] at hx1
  have HN := hide hn
  go_enter Tryd.func26, Tryd.ntmps26
  clear hn
  go_wp2_with ((with_reducible show wpList _ _ _ (⟨some 2, Op.alloc _, _, _, _, _⟩ :: _) _ _); refine Hid.out ?_)
  rw [← HN.out]
  obtain ⟨W1, hW⟩ : ∃ W1, W1 = w.alloc (.cells x.cells.toArray 41) := ⟨_, rfl⟩
  rw [← hW] at hx1 hB1 hz1 ⊢
  clear hW
  refine hide ?_
  refine zallocK rfl 28 rfl _ zzeroDig ?_
  intro w2 hg2 hw2 hs2
  rw [hz1] at hg2 hs2 ⊢
  have hx2 := (hw2.block n (by omega) (by simp)).trans hx1
  have hB2 : Below n w w2 := below_grown hB1 hw2 (by omega) (by intro k e; cases e)
  clear hw2 hx1 hB1 hz1
  go_wp2_with ((with_reducible show wpList _ _ _ (⟨some 3, Op.load _ _, _, _, _, _⟩ :: _) _ _); refine Hid.out ?_)
  refine hide ?_
  refine wpList_load_row rfl 41 _ rfl n rfl _ _ _ _ hx2 Tryd.underlying41 rfl sizeSealed ?_
  go_wp2_with fail
  refine (HRB.out w2 x ok).mono ?_
  rintro e w3 ⟨rfl, hB3⟩
  have hg3 := below_at hB3 hg2 (by omega)
  have hB3' := hB2.trans (hB3.mono (by omega))
  have hz3 := hB3.size
  go_wp2_with fail
  refine (rsum_any ⟨(seB x).toArray⟩ (by rw [seB_size]; omega) w3).mono ?_
  rintro e w4 ⟨rfl, hB4⟩
  have hg4 := below_at hB4 hg3 (by omega)
  have hB4' := hB3'.trans (hB4.mono (by omega))
  have hz4 := hB4.size
  rw [show shaOf K64 F0 (⟨(seB x).toArray⟩ : ByteArray).data.toList = comS x from rfl]
  have hl := comS_length x
  generalize hD : comS x = D at hl
  have HD := hide hD
  clear hD hg2 hg3 hB2 hB3 hB3' hB4 hx2
  go_wp2_with ((with_reducible show wpList _ _ _ (⟨none, Op.store _ _ _, _, _, _, _⟩ :: _) _ _); refine Hid.out ?_)
  refine hide ?_
  refine law_store rfl _ _ _ rfl (n + 1) (dg D) rfl rfl _ _ hg4 (by rw [dg_size, hl]; exact zsizeDig) (by rw [dg_size, dg_size, hl]; rfl) (dg_one _) ?_
  intro w6 hd6 hw6
  go_wp2
  refine bodyPost_ret (results_cell_row rfl _ _ (n + 1) _ _ _ _ rfl hd6.out Tryd.underlying28 rfl (by rw [dg_size, hl]; exact zsizeDig)) rfl ⟨by rw [HD.out], ?_⟩
  rw [← HN.out]
  exact below_grown hB4' hw6 (by omega) (by intro k e; cases e; omega)
end Go.Proofs.YtpkgmoiffegbfaaDoor
