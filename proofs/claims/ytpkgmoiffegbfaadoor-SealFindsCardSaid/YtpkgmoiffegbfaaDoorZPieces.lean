/- ShaPieces: the walk. Condition: what the two variables hold; the cuts lie in a slice. -/
import Derived.Test.YtpkgmoiffegbfaaDoorZOpen
namespace Go.Proofs.YtpkgmoiffegbfaaDoor
open Go.RowKit Go.BigFrame
set_option maxRecDepth 100000
attribute [local go_sem ↓] exec_loadZ exec_eqlZ exec_neqZ exec_zeroZ
attribute [local go_sem] loadRow eqRow digEq_dg isDig_dg objAt_drew

/-- What stays while a sum is asked. -/
def PcC (N : Nat) (w0 : World) (hb : Nat) (t : List UInt8) (w : World) : Prop := IsHash w hb K64 F0 t ∧ Glob F0 K64 w ∧ Below N w0 w ∧ N ≤ w.heap.size
theorem PcC.below {N : Nat} {w0 : World} {hb : Nat} {t : List UInt8} {w w' : World} (h : PcC N w0 hb t w) (hb' : Below w.heap.size w w') : PcC N w0 hb t w' := by
  obtain ⟨h1, h2, h3, h4⟩ := h
  exact ⟨h1.below hb', h2.below hb', h3.trans (hb'.mono h4), Nat.le_trans h4 hb'.size⟩
theorem ext_list (s : ByteArray) (i j : Nat) : (s.extract i j).data.toList = (s.data.toList.take j).drop i := by
  rw [ByteArray.data_extract, Array.toList_extract, List.extract_eq_take_drop, List.drop_take]

set_option maxHeartbeats 8000000 in
theorem zpieces_any (text : ByteArray) (aa : Option Addr) (cap : Nat) (ls : List UInt8) (w : World) (hG : Glob F0 K64 w) (hl : ls.length ≤ 9223372036854775807) (_hcap : ls.length ≤ cap)
    (hat : 0 < ls.length → ∃ b off, aa = some ⟨b, off, none⟩ ∧ b < w.heap.size ∧ RowsAt w b off 1 (fun c : UInt8 => [.int .u8 (c.toNat : Int)]) ls) :
    Calls Tryd.prog 3 #[.string text, .slice aa ls.length cap] w fun e w' => e = .returned (.bool true) ∧ Below w.heap.size w w' := by
  have HG := hide hG
  have HAT := hide hat
  clear hG hat
  obtain ⟨m, hm⟩ : ∃ m, m = min text.size 500 := ⟨_, rfl⟩
  have HM := hide hm
  have hm1 : (m : Int) ≤ (text.size : Int) := by omega
  have hm2 : (if (500 : Int) < (text.size : Int) then (500 : Int) else (text.size : Int)) = (m : Int) := by split <;> omega
  clear hm
  go_enter Tryd.func3, Tryd.ntmps3
  go_wp2_with fail
  refine (hash_new _ K64 F0 HG.out).mono ?_
  rintro e w2 ⟨rfl, hh2, hB2⟩
  have hG2 := HG.out.below hB2
  obtain ⟨hb, hhb⟩ : ∃ hb, hb = w.heap.size := ⟨_, rfl⟩
  rw [← hhb] at hh2 hB2 ⊢
  have hz2 := zlt hh2.2
  have HHB := hide hhb
  clear hhb
  go_wp2_with fail
  refine (zworks_any _ hG2).mono ?_
  rintro e w3 ⟨rfl, hB3⟩
  have hC3 : PcC hb w hb [] w3 := ⟨hh2.below hB3, hG2.below hB3, hB2.trans (hB3.mono (by omega)), Nat.le_trans (by omega) hB3.size⟩
  clear hh2 hG2 hB2 hB3 hz2
  go_upto_region 5 with (fail)
  clear hm2
  obtain ⟨s, hs⟩ : ∃ s, s = text.extract 0 m := ⟨_, rfl⟩
  have hsz : s.size ≤ 500 := by have := HM.out; rw [hs, ByteArray.size_extract]; omega
  rw [← hs]
  clear hs hm1
  have hLl : s.data.toList.length = s.size := rfl
  have HLL := hide hLl
  clear hLl
  go_wp2_with fail
  go_loopg [6, 7] 30 (fun g vat vi wi => ∃ (q at' : Nat), q ≤ ls.length ∧ q ≤ 30 ∧ at' ≤ s.size ∧ g = 30 - q ∧ vi = .int .i64 q ∧ vat = .int .i64 at' ∧ PcC hb w hb (s.data.toList.take at') wi)
  case atStart => exact ⟨0, 0, by omega, by omega, by omega, rfl, rfl, rfl, hC3⟩
  case round =>
    obtain ⟨q, p, hq, hq30, hp, rfl, rfl, rfl, hC⟩ := hrel
    clear hC3
    by_cases hlt : q < ls.length ∧ q < 30
    · obtain ⟨hql, hq3⟩ := hlt
      obtain ⟨b, off, rfl, hbl, hrow⟩ := HAT.out (by omega)
      obtain ⟨c, hcE⟩ : ∃ c : Nat, c = (ls[q]).toNat := ⟨_, rfl⟩
      have hcB : c < 256 := by rw [hcE]; exact (ls[q]).toNat_lt
      have cq : wr.cell? ⟨b, off + q, none⟩ = some (.int .u8 (c : Int)) := by
        have h1 := hrow q _ (List.getElem?_eq_getElem hql) 0 _ rfl
        rw [Nat.mul_one, Nat.add_zero] at h1
        rw [hcE]
        exact (hC.2.2.1.cell (p := ⟨b, off + q, none⟩) (by show b < hb; rw [HHB.out]; exact hbl)).trans h1
      have hq0 : (0 : Int) ≤ (q : Int) := by omega
      have hqlI : (q : Int) < (ls.length : Int) := by omega
      have hq3I : (q : Int) < 30 := by omega
      obtain ⟨nx, hnx⟩ : ∃ nx, nx = min (p + c) s.size := ⟨_, rfl⟩
      have he : (if (s.size : Int) < (p : Int) + (c : Int) then (s.size : Int) else (p : Int) + (c : Int)) = (nx : Int) := by split <;> omega
      have hs1 : (p : Int) ≤ (nx : Int) := by omega
      have hs2 : (nx : Int) ≤ (s.size : Int) := by omega
      have hs0 : (0 : Int) ≤ (p : Int) := by omega
      have hsn : (0 : Int) ≤ (nx : Int) := by omega
      have hpB : (p : Int) ≤ 500 := by omega
      have hcI : (c : Int) < 256 := by omega
      have hszI : (s.size : Int) ≤ 500 := by omega
      clear hcE hrow hnx hbl hcB
      go_upto_region 10 with (fail)
      clear he
      have hcat : s.data.toList.take p ++ (s.extract p nx).data.toList = s.data.toList.take nx := by
        rw [ext_list]
        have : s.data.toList.take p = (s.data.toList.take nx).take p := by rw [List.take_take, Nat.min_eq_left (by omega)]
        rw [this, List.take_append_drop]
      have hps : (s.extract p nx).size ≤ 1000000 := by rw [ByteArray.size_extract]; omega
      have HCAT := hide hcat
      clear hcat
      go_wp2_with fail
      refine (hash_write wr hb K64 F0 _ (s.extract p nx) hC.2.1 hC.1 hps (by rw [List.length_take]; omega)).mono ?_
      rintro e w5 ⟨rfl, hh5, hg5⟩
      rw [HCAT.out] at hh5
      have hC5 : PcC hb w hb (s.data.toList.take nx) w5.drew := ⟨hh5, (hC.2.1.grown hg5 hC.1.1 : Glob F0 K64 w5), (below_grown hC.2.2.1 hg5 hC.2.2.2 (by intro k e; cases e; exact Nat.le_refl _)).drew, Nat.le_trans hC.2.2.2 hg5.size⟩
      clear hh5 hg5 hC cq hps
      go_upto_region 12 with (fail)
      have hl1 := sha_length K64 F0 (s.data.toList.take nx)
      have hsum : (s.extract 0 nx).data.toList = s.data.toList.take nx := by rw [ext_list, List.drop_zero]
      have hsS : (s.extract 0 nx).size ≤ 1000000 := by rw [ByteArray.size_extract]; omega
      have hlt2 : (s.data.toList.take nx).length ≤ 1000000000000 := by rw [List.length_take]; have := HLL.out; omega
      generalize hD : shaOf K64 F0 (s.data.toList.take nx) = D at hl1
      have HD := hide hD
      have HS := hide hsum
      clear hD hsum
      refine zquiet (C := PcC hb w hb (s.data.toList.take nx)) (by kernel_rfl) (by kernel_rfl) hC5 ?_
      iterate 1 (go_big_quiet_want; go_big_quiet_op; first | go_big_quiet_on | (refine ⟨_, fun _ _ => rfl, ?_⟩; go_big_quiet_on))
      go_big_quiet_want; go_big_quiet_op; refine ⟨.agg (dg D), fun wq hq => (hash_digest wq hb K64 F0 _ hq.2.1 hq.1 hlt2).mono fun e w' ⟨he, hb⟩ => ⟨by rw [he, HD.out], hq.below hb⟩, ?_⟩
      go_big_quiet_on
      iterate 2 (go_big_quiet_want; go_big_quiet_op; first | go_big_quiet_on | (refine ⟨_, fun _ _ => rfl, ?_⟩; go_big_quiet_on))
      go_big_quiet_want; go_big_quiet_op; first | go_big_quiet_on | (refine ⟨.string (s.extract 0 nx), fun wq hq => by simp [go_sem], ?_⟩; go_big_quiet_on)
      go_big_quiet_want; go_big_quiet_op; refine ⟨.agg (dg D), fun wq hq => (hash_sum wq K64 F0 (s.extract 0 nx) hq.2.1 hsS).mono fun e w' ⟨he, hb⟩ => ⟨by rw [he, HS.out, HD.out], hq.below hb⟩, ?_⟩
      go_big_quiet_on
      go_big_quiet_want; go_big_quiet_op; refine ⟨.bool false, fun wq hq => ?_, ?_⟩
      · simp [hl1]
      go_big_quiet_on
      refine wpQuiet_nil ?_
      clear hC5
      intro wd hqd
      go_wp2
      go_roundg (30 - (q + 1))
      case measure => omega
      case rel => exact ⟨q + 1, nx, by omega, by omega, by omega, rfl, by simp, rfl, hqd⟩
    · have hp0 : (0 : Int) ≤ (p : Int) := by omega
      have hpI : (p : Int) ≤ (s.size : Int) := by omega
      have hcat : s.data.toList.take p ++ (s.extract p s.size).data.toList = s.data.toList := by
        rw [ext_list, List.take_of_length_le (l := s.data.toList) (i := s.size) (by have := HLL.out; omega), List.take_append_drop]
      have HCAT := hide hcat
      have hps : (s.extract p s.size).size ≤ 1000000 := by rw [ByteArray.size_extract]; omega
      have hl1 := sha_length K64 F0 s.data.toList
      have hlt2 : s.data.toList.length ≤ 1000000000000 := by have := HLL.out; omega
      have hlt3 : (s.data.toList.take p).length ≤ 1000000000000 := by rw [List.length_take]; omega
      clear hcat
      have hcnt : ¬ ((q : Int) < (ls.length : Int) ∧ (q : Int) < 30) := by omega
      by_cases h1 : (q : Int) < (ls.length : Int)
      · have h2 : ¬ (q : Int) < 30 := fun h => hcnt ⟨h1, h⟩
        clear hcnt hlt
        go_wp2_with fail
        refine (hash_write wr hb K64 F0 _ (s.extract p s.size) hC.2.1 hC.1 hps hlt3).mono ?_
        rintro e w5 ⟨rfl, hh5, hg5⟩
        rw [HCAT.out] at hh5
        have hC5 : PcC hb w hb s.data.toList w5 := ⟨hh5, hC.2.1.grown hg5 hC.1.1, below_grown hC.2.2.1 hg5 hC.2.2.2 (by intro k e; cases e; exact Nat.le_refl _), Nat.le_trans hC.2.2.2 hg5.size⟩
        clear hh5 hg5 hC hps
        go_wp2_with fail
        refine (hash_digest w5 hb K64 F0 _ hC5.2.1 hC5.1 hlt2).mono ?_
        rintro e w6 ⟨rfl, hB6⟩
        have hC6 := hC5.below hB6
        clear hC5 hB6
        go_wp2_with fail
        refine (hash_sum w6 K64 F0 s hC6.2.1 (by omega)).mono ?_
        rintro e w7 ⟨rfl, hB7⟩
        have hC7 := hC6.below hB7
        generalize shaOf K64 F0 s.data.toList = D at hl1 ⊢
        clear hC6 hB7
        go_wp2
        go_ret
        exact ⟨by simp, HHB.out ▸ hC7.2.2.1⟩
      · clear hcnt hlt
        go_wp2_with fail
        refine (hash_write wr hb K64 F0 _ (s.extract p s.size) hC.2.1 hC.1 hps hlt3).mono ?_
        rintro e w5 ⟨rfl, hh5, hg5⟩
        rw [HCAT.out] at hh5
        have hC5 : PcC hb w hb s.data.toList w5 := ⟨hh5, hC.2.1.grown hg5 hC.1.1, below_grown hC.2.2.1 hg5 hC.2.2.2 (by intro k e; cases e; exact Nat.le_refl _), Nat.le_trans hC.2.2.2 hg5.size⟩
        clear hh5 hg5 hC hps
        go_wp2_with fail
        refine (hash_digest w5 hb K64 F0 _ hC5.2.1 hC5.1 hlt2).mono ?_
        rintro e w6 ⟨rfl, hB6⟩
        have hC6 := hC5.below hB6
        clear hC5 hB6
        go_wp2_with fail
        refine (hash_sum w6 K64 F0 s hC6.2.1 (by omega)).mono ?_
        rintro e w7 ⟨rfl, hB7⟩
        have hC7 := hC6.below hB7
        generalize shaOf K64 F0 s.data.toList = D at hl1 ⊢
        clear hC6 hB7
        go_wp2
        go_ret
        exact ⟨by simp, HHB.out ▸ hC7.2.2.1⟩
end Go.Proofs.YtpkgmoiffegbfaaDoor
