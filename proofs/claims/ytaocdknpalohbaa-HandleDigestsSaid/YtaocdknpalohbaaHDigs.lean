/- HandleDigests, of all numbers and digests: the walk. No condition. -/
import Derived.Test.YtaocdknpalohbaaHWorks
import Derived.Test.YtaocdknpalohbaaHRefh
import Derived.Test.YtaocdknpalohbaaHTri
import Derived.Deep.LoopGhost
import Derived.Deep.CutRange
import Derived.Laws.BitsAllLaws
namespace Go.Proofs.Ytaocdknpalohbaa
open Go.RowKit Go.BigFrame
set_option maxRecDepth 20000
attribute [local go_sem ↓] exec_loadD exec_eqlD
attribute [local go_sem] loadRow eqRow dg_size digEq_dg hd_length isDig_dg objAt_drew objAt_drewN objAt_new objAt_old

set_option maxHeartbeats 4000000 in
theorem digs_any (n at_ : Nat) (l : List UInt8) (hl : l.length = 32) (w : World) (hn : n < 18446744073709551616) (ha : at_ < 256) :
    Calls Try.prog 5 #[.int .u64 (n : Int), .agg (dg l), .int .u8 (at_ : Int)] w fun e w' => e = .returned (.bool true) ∧ Below w.heap.size w w' := by
  obtain ⟨r, hr⟩ : ∃ r : Nat, (at_ : Int) % 32 = (r : Int) := ⟨at_ % 32, by omega⟩
  have hr32 : r < 32 := by omega
  have HL := hide hl
  obtain ⟨x, hx⟩ : ∃ x : Nat, ((hd n)[r]'(by rw [hd_length]; exact hr32)).toNat = x := ⟨_, rfl⟩
  have hcx := hide (dg_at (hd n) r (by rw [hd_length]; exact hr32))
  rw [hx] at hcx
  have hx8 : x < 256 := by rw [← hx]; exact UInt8.toNat_lt _
  clear hx
  have hxor := u8_xor_nat x 1 hx8 (by decide)
  have hy8 : x ^^^ 1 < 256 := Nat.xor_lt_two_pow (n := 8) hx8 (by decide)
  obtain ⟨y, hy⟩ : ∃ y : Nat, x ^^^ 1 = y := ⟨_, rfl⟩
  rw [hy] at hxor hy8
  clear hy
  have hxor' : bits .xor .u8 (x : Int) 1 = (y : Int) := hxor
  clear hxor
  go_enter Try.func5, Try.ntmps5
  go_wp2_with fail
  refine (rdigest_any _ _ (by omega) (by omega)).mono ?_
  rintro e w1 ⟨rfl, hb1⟩
  have hN : ((n : Int)).toNat = n := by omega
  rw [hN] at *
  clear hN
  have hB1 : Below w.heap.size w w1 := ((Below.refl w.heap.size w).alloc (Nat.le_refl _) _).trans (hb1.mono (by simp))
  have hx1 : w1.heap[w.heap.size]? = some (.cells (dg l) 35 (0, 0)) := below_at hb1 (new_at w _) (by simp)
  have hlt1 := lt_of_heap hx1
  obtain ⟨N, hNd⟩ : ∃ N, N = w.heap.size := ⟨_, rfl⟩
  rw [← hNd] at hB1 hx1 hlt1 ⊢
  have HN := hide hNd
  clear hNd hb1
  have o1 : objAt w1 N = some (.cells (dg l) 35 (0, 0)) := hx1
  go_upto_region 4 with (first
    | ((with_reducible show wpList _ _ _ (⟨some 7, Op.alloc _, _, _, _, _⟩ :: _) _ _); refine law_allocK rfl 35 rfl (dg z32) zeroDig ?_; intro w2 hg2 hw2 hz2)
    | ((with_reducible show wpList _ _ _ (⟨none, Op.store _ (.tmp 7) _, _, _, _, _⟩ :: _) _ _); refine wpList_store_put rfl rfl _ _ _ rfl w1.heap.size (dg (hd n)) _ _ rfl rfl hg2 (by rw [dg_size, hd_length]; exact sizeDig) (by rw [dg_size, dg_size, hd_length]; rfl) (dg_one _) ?_; intro w3 hs3 hso3 hz3 hbl3; have o3 : objAt w3 w1.heap.size = some (.cells (dg (hd n)) 35 (0, 0)) := hs3)
    | ((with_reducible show wpList _ _ _ (⟨some 8, Op.alloc _, _, _, _, _⟩ :: _) _ _); refine law_allocK rfl 35 rfl (dg z32) zeroDig ?_; intro w4 hg4 hw4 hz4; rw [hz3, hz2] at hg4 hz4 ⊢)
    | ((with_reducible show wpList _ _ _ (⟨none, Op.store _ (.tmp 8) _, _, _, _, _⟩ :: _) _ _); refine wpList_store_put rfl rfl _ _ _ rfl (w1.heap.size + 1) (dg (hd n)) _ _ rfl rfl hg4 (by rw [dg_size, hd_length]; exact sizeDig) (by rw [dg_size, dg_size, hd_length]; rfl) (dg_one _) ?_; intro w5 hs5 hso5 hz5 hbl5; have c5 := cell_of (i := r) hs5 hcx.out)
    | ((with_reducible show wpList _ _ _ (⟨none, Op.store _ (.tmp 23) _, _, _, _, _⟩ :: _) _ _); refine law_storeByte rfl _ _ _ rfl Try.underlying5 sizeU8 (w1.heap.size + 1) r (y : Int) rfl rfl (by omega) (by omega) (hd n) _ hs5 (by rw [hd_length]; exact hr32) ?_; intro w6 hg6 hw6; have o8 : objAt w6 (w1.heap.size + 1) = some (.cells (dg ((hd n).set r (UInt8.ofNat ((y : Int)).toNat))) 35 (0, 0)) := hg6.out; have h7 := (hw6.block w1.heap.size (by omega) (by simp)).trans ((hso5 _ (by omega)).trans ((hw4.block _ (by omega) (by simp)).trans hs3)); have o7 : objAt w6 w1.heap.size = some (.cells (dg (hd n)) 35 (0, 0)) := h7; have h4 := (hw6.block N (by omega) (by simp; omega)).trans ((hso5 _ (by omega)).trans ((hw4.block _ (by omega) (by simp)).trans ((hso3 _ (by omega)).trans ((hw2.block _ (by omega) (by simp)).trans hx1)))); have o4 : objAt w6 N = some (.cells (dg l) 35 (0, 0)) := h4))
  simp only [Act.put]
  have hg8 := hg6.out
  obtain ⟨m, hm⟩ : ∃ m : List UInt8, (hd n).set r (UInt8.ofNat ((y : Int)).toNat) = m := ⟨_, rfl⟩
  rw [hm] at hg8 o8
  have hml : m.length = 32 := by rw [← hm, List.length_set, hd_length]
  clear hm
  have hz6 : w1.heap.size + 1 < w6.heap.size := lt_of_heap hg8
  have hB6 : Below N w w6 := below_grown (hbl5 _ _ (by omega) (below_grown (hbl3 _ _ (by omega) (below_grown hB1 hw2 (by omega) (by intro k e; cases e))) hw4 (by omega) (by intro k e; cases e))) hw6 (by omega) (by intro k e; cases e; omega)
  clear hbl5 hbl3 hw6 hw4 hw2 hso5 hso3 hg6 hs5 hs3 o3 hz5 hz4 hz3 hz2 hg4 hg2 c5 hcx hxor' hx1 hB1 o1
  go_upto_region 5 with ((with_reducible show wpList _ _ _ (⟨some 27, _, _, _, _, _⟩ :: _) _ _); refine law_build3 rfl _ _ _ rfl (hd n) m l rfl rfl rfl (hd_length _) hml HL.out ?_)
  clear hr hx8 hy8 o8 o4 h4 hg8 o7
  obtain ⟨b7, hb7⟩ : ∃ b7, b7 = w1.heap.size := ⟨_, rfl⟩
  rw [← hb7] at h7 hz6 ⊢
  have hN7 : N ≤ b7 := by omega
  clear hb7 hlt1
  go_loopg [28] 3 (fun g i wr => ∃ k : Nat, k ≤ 3 ∧ g = 3 - k ∧ i = .int .i64 k ∧ Below N w wr ∧ wr.heap[b7]? = some (.cells (dg (hd n)) 35 (0, 0)))
  case atStart => exact ⟨0, by omega, rfl, rfl, hB6, h7⟩
  case round =>
    obtain ⟨k, hk, rfl, rfl, hBr, hr7⟩ := hrel
    clear h7 hB6 hz6
    by_cases hlt : k < 3
    · obtain ⟨T, hT⟩ : ∃ T : List UInt8, T = pick3 (hd n) m l k := ⟨_, rfl⟩
      have hTl : T.length = 32 := by
        rw [hT]
        match k, hlt with
        | 0, _ => exact hd_length _
        | 1, _ => exact hml
        | 2, _ => exact HL.out
      have hix := fun w => index_dig (hd n) m l (hd_length _) hml HL.out k hlt T hT w
      have hlr := lt_of_heap hr7
      obtain ⟨h1, hh1⟩ : ∃ h1, (handF T).1 = h1 := ⟨_, rfl⟩
      obtain ⟨h2, hh2⟩ : ∃ h2, (handF T).2 = h2 := ⟨_, rfl⟩
      have HO := hide (fun w => ohandle_any T hTl w)
      have HR := hide (fun w => rhandle_any T hTl w)
      rw [hh1, hh2] at HO HR
      clear hh1 hh2 hT
      go_wp2_with (first
        | ((with_reducible show wpList _ _ _ (⟨some 10, Op.alloc _, _, _, _, _⟩ :: _) _ _); refine law_allocK rfl 35 rfl (dg z32) zeroDig ?_; intro wa hga hwa hza)
        | ((with_reducible show wpList _ _ _ (⟨none, Op.store _ (.tmp 10) _, _, _, _, _⟩ :: _) _ _); refine wpList_store_put rfl rfl _ _ _ rfl wr.heap.size (dg T) _ _ rfl rfl hga (by rw [dg_size, hTl]; exact sizeDig) (by rw [dg_size, dg_size, hTl]; rfl) (dg_one _) ?_; intro wb hsb hsob hzb hblb; have ob : objAt wb wr.heap.size = some (.cells (dg T) 35 (0, 0)) := hsb))
      have hBb : Below N w wb := hblb _ _ (by omega) (below_grown hBr hwa (by omega) (by intro k e; cases e))
      have h7b := (hsob _ (Nat.ne_of_lt hlr)).trans ((hwa.block _ hlr (by simp)).trans hr7)
      clear hblb hsob hwa hga hza hzb hBr hr7
      refine (HO.out _).mono ?_
      rintro e wc ⟨rfl, hbc⟩
      have oc : objAt wc wr.heap.size = some (.cells (dg T) 35 (0, 0)) := below_at hbc hsb (lt_of_heap hsb)
      have h7c := below_at hbc h7b (lt_of_heap h7b)
      have hBc := hBb.trans (hbc.mono (Nat.le_trans hN7 (Nat.le_of_lt (lt_of_heap h7b))))
      clear hbc hsb ob h7b hBb
      go_wp2_with fail
      refine (HR.out _).mono ?_
      rintro e wd ⟨rfl, hbd⟩
      have h7d := below_at hbd h7c (lt_of_heap h7c)
      have hBd := hBc.trans (hbd.mono (Nat.le_trans hN7 (Nat.le_of_lt (lt_of_heap h7c))))
      clear hbd oc h7c hBc
      go_wp2
      go_roundg (3 - (k + 1))
      case measure => omega
      case rel => exact ⟨k + 1, by omega, rfl, by simp, hBd, h7d⟩
    · obtain rfl : k = 3 := by omega
      clear hlt hk
      have hlr := lt_of_heap hr7
      have hW7 : w.heap.size ≤ b7 := HN.out ▸ hN7
      have hD0 : DigAt w b7 (hd n) wr.drew := ⟨hr7, (show Below w.heap.size w wr from HN.out ▸ hBr).drew, hlr⟩
      go_wp2
      refine region_quiet_list (C := DigAt w b7 (hd n)) (by kernel_rfl) (by kernel_rfl) hD0 ?_
      clear hr7 hBr hlr hD0
      go_big_quiet_want; go_big_quiet_op; go_big_quiet_on
      go_big_quiet_want; go_big_quiet_op; refine ⟨.agg (dg (hd n)), fun wq hq => (digest_any (n : Int) wq (by omega) (by omega)).mono fun e w' ⟨he, hb⟩ => ⟨by rw [he]; simp, hq.below hW7 hb⟩, ?_⟩
      go_big_quiet_on
      go_big_quiet_want; go_big_quiet_op; refine ⟨.agg (dg (hd n)), fun wq hq => ?_, ?_⟩
      · have q : objAt wq b7 = some (.cells (dg (hd n)) 35 (0, 0)) := hq.1
        simp [q, dg_size, hd_length]
      go_big_quiet_on
      iterate 2 (go_big_quiet_want; go_big_quiet_op; first | go_big_quiet_on | (refine ⟨_, fun _ _ => rfl, ?_⟩; go_big_quiet_on))
      go_big_quiet_want; go_big_quiet_op; refine ⟨.bool true, fun wq hq => (works_any wq).mono fun e w' ⟨he, hb⟩ => ⟨he, hq.below hW7 hb⟩, ?_⟩
      go_big_quiet_on
      iterate 2 (go_big_quiet_want; go_big_quiet_op; first | go_big_quiet_on | (refine ⟨_, fun _ _ => rfl, ?_⟩; go_big_quiet_on))
      refine wpQuiet_nil ?_
      intro wq hq
      go_wp2
      go_ret
      exact ⟨rfl, hq.2.1⟩

theorem hdigs_any (n : Int) (l : List UInt8) (a : Int) (w : World) (hn : 0 ≤ n ∧ n ≤ 18446744073709551615) (hl : l.length = 32) (ha : 0 ≤ a ∧ a ≤ 255) :
    Calls Try.prog 5 #[.int .u64 n, .agg (dg l), .int .u8 a] w fun e w' => e = .returned (.bool true) ∧ Below w.heap.size w w' := by
  obtain ⟨m, rfl⟩ : ∃ m : Nat, n = (m : Int) := ⟨n.toNat, by omega⟩
  obtain ⟨k, rfl⟩ : ∃ k : Nat, a = (k : Int) := ⟨a.toNat, by omega⟩
  exact digs_any m k l hl w (by omega) (by omega)
end Go.Proofs.Ytaocdknpalohbaa
