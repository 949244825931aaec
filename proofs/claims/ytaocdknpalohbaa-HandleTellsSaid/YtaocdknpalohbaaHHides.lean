/- HandleHides, of all pairs of rows of commitments: the walk. Condition: they lie in slices. -/
import Derived.Test.YtaocdknpalohbaaHWorks
import Derived.Deep.LoopGhost
import Derived.Deep.CutRange
import Derived.Outline
namespace Go.Proofs.Ytaocdknpalohbaa
open Go.RowKit Go.BigFrame
set_option maxRecDepth 100000

/-- What the slots of 'd, e := a.Commit(..), b.Commit(..)' hold. -/
def hidR (M b off cap len q ta tb : Nat) (xa xb : Sl) : Nat → Value → World → Prop
  | 0, u, _ => u = .pointer (some ⟨ta, 0, none⟩)
  | 1, u, _ => u = .slice (some ⟨b, off, none⟩) len cap
  | 2, u, _ => u = .int .i64 (q : Int)
  | 3, u, _ => u = .pointer (some ⟨b, off + q * 8, none⟩)
  | 4, u, _ => u = .pointer (some ⟨b, off + q * 8, none⟩)
  | 5, u, _ => u = .agg xa.cells
  | 6, u, _ => u = .agg (dg (hd (q + 1)))
  | 7, u, _ => u = .pointer (some ⟨tb, 0, none⟩)
  | 8, u, _ => u = .slice (some ⟨b, off, none⟩) len cap
  | 9, u, _ => u = .int .i64 (q : Int)
  | 10, u, _ => u = .pointer (some ⟨b, off + q * 8, none⟩)
  | 11, u, _ => u = .pointer (some ⟨b, off + q * 8 + 4, none⟩)
  | 12, u, _ => u = .agg xb.cells
  | 13, u, _ => u = .agg (dg (hd (q + 1)))
  | _, u, w => ∃ k : Nat, M < k ∧ u = .pointer (some ⟨k, 0, none⟩) ∧ w.heap[k]? = some (.cells (dg z32) 35 (0, 0))
theorem hidR_mono {M b off cap len q ta tb : Nat} {xa xb : Sl} {j : Nat} {u : Value} {w1 w2 : World} (h : hidR M b off cap len q ta tb xa xb j u w1) (hk : ∀ k, k < w1.heap.size → M < k → w2.heap[k]? = w1.heap[k]?) : hidR M b off cap len q ta tb xa xb j u w2 := by
  match j, h with
  | 0, h | 1, h | 2, h | 3, h | 4, h | 5, h | 6, h | 7, h | 8, h | 9, h | 10, h | 11, h | 12, h | 13, h => exact h
  | j + 14, h =>
  obtain ⟨k, h2, h3, h4⟩ := h
  exact ⟨k, h2, h3, (hk k (lt_of_heap h4) h2).trans h4⟩
def hidC (N : Nat) (w0 : World) (ta ma tb mb : Nat) (La Lb : List Sl) (xa xb : Sl) (L : Nat → Bool) (w : World) : Prop :=
  Below N w0 w ∧ ∃ TA TB, IsTable w ta ma TA ∧ IsTable w tb mb TB ∧ (L 6 = false → TA = La) ∧ (L 6 = true → TA = La ++ [xa]) ∧ (L 13 = false → TB = Lb) ∧ (L 13 = true → TB = Lb ++ [xb])
theorem hidC_keep {N : Nat} {w0 : World} {ta ma tb mb : Nat} {La Lb : List Sl} {xa xb : Sl} {L : Nat → Bool} {w1 w2 : World} (h : hidC N w0 ta ma tb mb La Lb xa xb L w1) (hb : Below w1.heap.size w1 w2) (i : Nat) (h6 : i ≠ 6) (h13 : i ≠ 13) (hN : N ≤ ma := by omega) : hidC N w0 ta ma tb mb La Lb xa xb (upd L i true) w2 := by
  obtain ⟨hW, TA, TB, hA, hB, g⟩ := h
  refine ⟨hW.trans (hb.mono (Nat.le_trans hN (Nat.le_of_lt (lt_of_heap hA.map)))), TA, TB, hA.below (_B := 0) hb, hB.below (_B := 0) hb, ?_⟩
  simp only [upd, if_neg (Ne.symm h6), if_neg (Ne.symm h13)]
  exact g
/-- Pairs of commitments as they lie in memory. -/
def PairsAt (w : World) (b off : Nat) (ls : List (Sl × Sl)) : Prop := ∀ q xa xb, ls[q]? = some (xa, xb) →
  w.cell? ⟨b, off + q * 8, none⟩ = some (.int .i64 xa.r) ∧ w.cell? ⟨b, off + q * 8 + 1, none⟩ = some (.int .i64 xa.c) ∧ w.cell? ⟨b, off + q * 8 + 2, none⟩ = some (.int .u64 xa.b) ∧ w.cell? ⟨b, off + q * 8 + 3, none⟩ = some (.int .u64 xa.n) ∧
  w.cell? ⟨b, off + q * 8 + 4, none⟩ = some (.int .i64 xb.r) ∧ w.cell? ⟨b, off + q * 8 + 5, none⟩ = some (.int .i64 xb.c) ∧ w.cell? ⟨b, off + q * 8 + 6, none⟩ = some (.int .u64 xb.b) ∧ w.cell? ⟨b, off + q * 8 + 7, none⟩ = some (.int .u64 xb.n)
theorem opens_last (L : List Sl) (x : Sl) (h : L.length < 1000) : opensF (L ++ [x]) (hd (L.length + 1)) x = true := by
  have hl := look_hd 0 (L ++ [x]) L.length (by simp; omega) (by simp)
  rw [Nat.zero_add] at hl
  unfold opensF
  rw [hl]
  simp [Sl.same]

/-- What stays while a pair is asked about. -/
def HCls (N : Nat) (w0 : World) (b8 b9 ta ma tb mb q : Nat) (A B : List Sl) (w : World) : Prop :=
  w.heap[b8]? = some (.cells (dg (hd (q + 1))) 35 (0, 0)) ∧ w.heap[b9]? = some (.cells (dg (hd (q + 1))) 35 (0, 0)) ∧ IsTable w ta ma A ∧ IsTable w tb mb B ∧ Below N w0 w
theorem HCls.below {N : Nat} {w0 : World} {b8 b9 ta ma tb mb q : Nat} {A B : List Sl} {w w' : World} (h : HCls N w0 b8 b9 ta ma tb mb q A B w) (hb : Below w.heap.size w w') (hN : N ≤ ma := by omega) : HCls N w0 b8 b9 ta ma tb mb q A B w' := by
  obtain ⟨h1, h2, h3, h4, h5⟩ := h
  exact ⟨below_at hb h1 (lt_of_heap h1), below_at hb h2 (lt_of_heap h2), h3.below (_B := 0) hb, h4.below (_B := 0) hb, h5.trans (hb.mono (Nat.le_trans hN (Nat.le_of_lt (lt_of_heap h3.map))))⟩
theorem digQ (q : Nat) (h : q < 40) (w : World) : Calls Try.prog 16 #[.int .u64 ((q : Int) + 1)] w fun e w' => e = .returned (.agg (dg (hd (q + 1)))) ∧ Below w.heap.size w w' := by
  have e : ((q : Int) + 1).toNat = q + 1 := by omega
  have := digest_any ((q : Int) + 1) w (by omega) (by omega)
  rwa [e] at this
attribute [local go_sem ↓] exec_loadD exec_eqlD exec_neqD
attribute [local go_sem] loadRow eqRow digEq_dg isDig_dg

set_option maxHeartbeats 8000000 in
theorem hides_any (aa : Option Addr) (cap : Nat) (ls : List (Sl × Sl)) (a0 : Option Addr) (c0 : Nat) (bs : List Bool) (w : World) (hl : ls.length ≤ 9223372036854775807) (hat : 0 < ls.length → ∃ b off, aa = some ⟨b, off, none⟩ ∧ b < w.heap.size ∧ PairsAt w b off ls)
    (hbs : ∀ j, (h : j < bs.length) → ∃ b2 off2, a0 = some ⟨b2, off2, none⟩ ∧ b2 < w.heap.size ∧ w.cell? ⟨b2, off2 + j, none⟩ = some (.bool bs[j])) :
    Calls Try.prog 4 #[.slice aa ls.length cap, .slice a0 bs.length c0] w fun e w' => e = .returned (.bool true) ∧ Below w.heap.size w w' := by
  have HAT := hide hat
  have HBS := hide hbs
  clear hat hbs
  go_enter Try.func4, Try.ntmps4
  go_wp2_with fail
  refine (works_any _).mono ?_
  rintro e w1 ⟨rfl, hb1⟩
  go_wp2_with fail
  refine (new_any _).mono ?_
  rintro e w2 ⟨rfl, ht2, hb2⟩
  go_wp2_with fail
  refine (new_any _).mono ?_
  rintro e w3 ⟨rfl, ht3, hb3⟩
  have hs12 : w1.heap.size + 1 < w2.heap.size := lt_of_heap ht2.tab
  have ht2' := ht2.below (_B := 0) hb3
  have hB3 := (hb1.trans (hb2.mono hb1.size)).trans (hb3.mono (Nat.le_trans hb1.size hb2.size))
  have hs1 := hb1.size
  obtain ⟨ma, hma⟩ : ∃ ma, ma = w1.heap.size := ⟨_, rfl⟩
  obtain ⟨mb, hmb⟩ : ∃ mb, mb = w2.heap.size := ⟨_, rfl⟩
  rw [← hma] at hs12 ht2' hs1
  rw [← hmb] at hs12 ht3
  rw [← hma, ← hmb]
  obtain ⟨N, hN⟩ : ∃ N, N = w.heap.size := ⟨_, rfl⟩
  rw [← hN] at hB3 hs1
  have HNN := hide hN
  have HMA := hide hma
  have HMB := hide hmb
  clear hb1 hb2 hb3 ht2 hN hma hmb
  obtain ⟨ta, hta⟩ : ∃ ta, ta = ma + 1 := ⟨_, rfl⟩
  obtain ⟨tb, htb⟩ : ∃ tb, tb = mb + 1 := ⟨_, rfl⟩
  rw [← hta, ← htb]
  rw [← hta] at ht2'
  rw [← htb] at ht3
  have hord : N ≤ ma ∧ ma < ta ∧ ta < mb ∧ mb < tb := by omega
  obtain ⟨hNa, hat', htm, hmt⟩ := hord
  clear hta htb hs12 hs1
  go_wp2
  go_loopg [7] 40 (fun g i wi => ∃ q : Nat, q ≤ ls.length ∧ q ≤ 40 ∧ g = 40 - q ∧ i = .int .i64 q ∧ IsTable wi ta ma ((ls.take q).map (·.1)) ∧ IsTable wi tb mb ((ls.take q).map (·.2)) ∧ Below N w wi)
  case atStart => exact ⟨0, Nat.zero_le _, Nat.zero_le _, rfl, rfl, ht2', ht3, hB3⟩
  case round =>
    obtain ⟨q, hq, hq40, rfl, rfl, hA, hBt, hW⟩ := hrel
    clear ht2' ht3 hB3
    by_cases hlt : q < ls.length ∧ q < 40
    · obtain ⟨hql, hq4⟩ := hlt
      obtain ⟨⟨xa, xb⟩, hx⟩ : ∃ x, ls[q]? = some x := ⟨_, List.getElem?_eq_getElem hql⟩
      obtain ⟨b, off, rfl, hb, hat2⟩ := HAT.out (by omega)
      rw [← HNN.out] at hb
      have HX := hide (hat2 q xa xb hx)
      clear hat2
      have hq0 : (0 : Int) ≤ (q : Int) := by omega
      have hqlI : (q : Int) < (ls.length : Int) := by omega
      have hq4I : (q : Int) < 40 := by omega
      have hqlN : q < ls.length := hql
      have hna : (ls.take (q + 1)).map (·.1) = (ls.take q).map (·.1) ++ [xa] := by rw [List.take_add_one, hx]; simp
      have hnb : (ls.take (q + 1)).map (·.2) = (ls.take q).map (·.2) ++ [xb] := by rw [List.take_add_one, hx]; simp
      have HNA := hide hna
      have HNB := hide hnb
      obtain ⟨La, hLaE⟩ : ∃ La, (ls.take q).map (·.1) = La := ⟨_, rfl⟩
      obtain ⟨Lb, hLbE⟩ : ∃ Lb, (ls.take q).map (·.2) = Lb := ⟨_, rfl⟩
      have hLa : La.length = q := by rw [← hLaE, List.length_map, List.length_take]; omega
      have hLb : Lb.length = q := by rw [← hLbE, List.length_map, List.length_take]; omega
      rw [hLaE] at hA HNA
      rw [hLbE] at hBt HNB
      clear hna hnb hLaE hLbE hx
      go_upto_region 7 with (fail)
      go_cut [8, 9] from 14 to 69 (fun v8 v9 wc => ∃ b8 b9 : Nat, v8 = .pointer (some ⟨b8, 0, none⟩) ∧ v9 = .pointer (some ⟨b9, 0, none⟩) ∧ wc.heap[b8]? = some (.cells (dg (hd (q + 1))) 35 (0, 0)) ∧ wc.heap[b9]? = some (.cells (dg (hd (q + 1))) 35 (0, 0)) ∧
        IsTable wc ta ma (La ++ [xa]) ∧ IsTable wc tb mb (Lb ++ [xb]) ∧ Below N w wc)
      case first =>
        refine region_slots 16 [24, 25, 26, 27, 28, 29, 30, 31, 32, 33, 34, 35, 36, 37, 8, 9] (by kernel_rfl) (by kernel_rfl) (by decide) rfl 75 rfl (by decide) (by kernel_rfl)
          (BoxInv 16 (hidC N w ta ma tb mb La Lb xa xb) (hidR tb b off cap ls.length q ta tb xa xb) 14 15) ?_ ?_ ?_
        · exact BoxInv.start ⟨hW.drew, La, Lb, hA.drew, hBt.drew, fun _ => rfl, fun h => Bool.noConfusion h, fun _ => rfl, fun h => Bool.noConfusion h⟩
        · intro i hi
          match i, hi with
          | 0, _ =>
            intro L v w1 f o ho hf hI hL hall K Q' hK
            obtain rfl := Option.some.inj ho
            have e5 : f.tmps[5]?.getD undef = .pointer (some ⟨ta, 0, none⟩) := tmp_of (hf 5)
            simp [go_sem, e5]
            exact hK _ _ (hI.step 0 _ (by decide) (by decide) (by decide) (hidC_keep hI.1 (Below.refl _ _) 0 (by decide) (by decide)) (fun _ _ _ h => h) rfl (fun h => by cases h) (fun h => by cases h))
          | 7, _ =>
            intro L v w1 f o ho hf hI hL hall K Q' hK
            obtain rfl := Option.some.inj ho
            have e6 : f.tmps[6]?.getD undef = .pointer (some ⟨tb, 0, none⟩) := tmp_of (hf 6)
            simp [go_sem, e6]
            exact hK _ _ (hI.step 7 _ (by decide) (by decide) (by decide) (hidC_keep hI.1 (Below.refl _ _) 7 (by decide) (by decide)) (fun _ _ _ h => h) rfl (fun h => by cases h) (fun h => by cases h))
          | 1, _ =>
            intro L v w1 f o ho hf hI hL hall K Q' hK
            obtain rfl := Option.some.inj ho
            have e0 : f.tmps[0]?.getD undef = .slice (some ⟨b, off, none⟩) ls.length cap := tmp_of (hf 0)
            simp [go_sem, e0]
            exact hK _ _ (hI.step 1 _ (by decide) (by decide) (by decide) (hidC_keep hI.1 (Below.refl _ _) 1 (by decide) (by decide)) (fun _ _ _ h => h) rfl (fun h => by cases h) (fun h => by cases h))
          | 8, _ =>
            intro L v w1 f o ho hf hI hL hall K Q' hK
            obtain rfl := Option.some.inj ho
            have e0 : f.tmps[0]?.getD undef = .slice (some ⟨b, off, none⟩) ls.length cap := tmp_of (hf 0)
            simp [go_sem, e0]
            exact hK _ _ (hI.step 8 _ (by decide) (by decide) (by decide) (hidC_keep hI.1 (Below.refl _ _) 8 (by decide) (by decide)) (fun _ _ _ h => h) rfl (fun h => by cases h) (fun h => by cases h))
          | 2, _ =>
            intro L v w1 f o ho hf hI hL hall K Q' hK
            obtain rfl := Option.some.inj ho
            have e7 : f.tmps[7]?.getD undef = .int .i64 (q : Int) := tmp_of (hf 7)
            simp [go_sem, e7]
            exact hK _ _ (hI.step 2 _ (by decide) (by decide) (by decide) (hidC_keep hI.1 (Below.refl _ _) 2 (by decide) (by decide)) (fun _ _ _ h => h) rfl (fun h => by cases h) (fun h => by cases h))
          | 9, _ =>
            intro L v w1 f o ho hf hI hL hall K Q' hK
            obtain rfl := Option.some.inj ho
            have e7 : f.tmps[7]?.getD undef = .int .i64 (q : Int) := tmp_of (hf 7)
            simp [go_sem, e7]
            exact hK _ _ (hI.step 9 _ (by decide) (by decide) (by decide) (hidC_keep hI.1 (Below.refl _ _) 9 (by decide) (by decide)) (fun _ _ _ h => h) rfl (fun h => by cases h) (fun h => by cases h))
          | 3, _ =>
            intro L v w1 f o ho hf hI hL hall K Q' hK
            obtain rfl := Option.some.inj ho
            have e25 : f.tmps[25]?.getD undef = .slice (some ⟨b, off, none⟩) ls.length cap := tmp_of ((hf 25).trans (hI.2.1 1 (by decide) (edge_listed hall 1 (by kernel_rfl))))
            have e26 : f.tmps[26]?.getD undef = .int .i64 (q : Int) := tmp_of ((hf 26).trans (hI.2.1 2 (by decide) (edge_listed hall 2 (by kernel_rfl))))
            simp [go_sem, e25, e26, hq0, hqlI]
            exact hK _ _ (hI.step 3 _ (by decide) (by decide) (by decide) (hidC_keep hI.1 (Below.refl _ _) 3 (by decide) (by decide)) (fun _ _ _ h => h) rfl (fun h => by cases h) (fun h => by cases h))
          | 10, _ =>
            intro L v w1 f o ho hf hI hL hall K Q' hK
            obtain rfl := Option.some.inj ho
            have e32 : f.tmps[32]?.getD undef = .slice (some ⟨b, off, none⟩) ls.length cap := tmp_of ((hf 32).trans (hI.2.1 8 (by decide) (edge_listed hall 8 (by kernel_rfl))))
            have e33 : f.tmps[33]?.getD undef = .int .i64 (q : Int) := tmp_of ((hf 33).trans (hI.2.1 9 (by decide) (edge_listed hall 9 (by kernel_rfl))))
            simp [go_sem, e32, e33, hq0, hqlI]
            exact hK _ _ (hI.step 10 _ (by decide) (by decide) (by decide) (hidC_keep hI.1 (Below.refl _ _) 10 (by decide) (by decide)) (fun _ _ _ h => h) rfl (fun h => by cases h) (fun h => by cases h))
          | 4, _ =>
            intro L v w1 f o ho hf hI hL hall K Q' hK
            obtain rfl := Option.some.inj ho
            have e27 : f.tmps[27]?.getD undef = .pointer (some ⟨b, off + q * 8, none⟩) := tmp_of ((hf 27).trans (hI.2.1 3 (by decide) (edge_listed hall 3 (by kernel_rfl))))
            simp [go_sem, e27]
            exact hK _ _ (hI.step 4 _ (by decide) (by decide) (by decide) (hidC_keep hI.1 (Below.refl _ _) 4 (by decide) (by decide)) (fun _ _ _ h => h) rfl (fun h => by cases h) (fun h => by cases h))
          | 11, _ =>
            intro L v w1 f o ho hf hI hL hall K Q' hK
            obtain rfl := Option.some.inj ho
            have e34 : f.tmps[34]?.getD undef = .pointer (some ⟨b, off + q * 8, none⟩) := tmp_of ((hf 34).trans (hI.2.1 10 (by decide) (edge_listed hall 10 (by kernel_rfl))))
            simp [go_sem, e34]
            exact hK _ _ (hI.step 11 _ (by decide) (by decide) (by decide) (hidC_keep hI.1 (Below.refl _ _) 11 (by decide) (by decide)) (fun _ _ _ h => h) rfl (fun h => by cases h) (fun h => by cases h))
          | 5, _ =>
            intro L v w1 f o ho hf hI hL hall K Q' hK
            obtain rfl := Option.some.inj ho
            have e28 : f.tmps[28]?.getD undef = .pointer (some ⟨b, off + q * 8, none⟩) := tmp_of ((hf 28).trans (hI.2.1 4 (by decide) (edge_listed hall 4 (by kernel_rfl))))
            obtain ⟨d0, d1, d2, d3, d4, d5, d6, d7⟩ := HX.out
            have c0 := (hI.1.1.cell (p := ⟨b, off + q * 8, none⟩) hb).trans d0
            have c1 := (hI.1.1.cell (p := ⟨b, off + q * 8 + 1, none⟩) hb).trans d1
            have c2 := (hI.1.1.cell (p := ⟨b, off + q * 8 + 2, none⟩) hb).trans d2
            have c3 := (hI.1.1.cell (p := ⟨b, off + q * 8 + 3, none⟩) hb).trans d3
            have c4 := (hI.1.1.cell (p := ⟨b, off + q * 8 + 4, none⟩) hb).trans d4
            have c5 := (hI.1.1.cell (p := ⟨b, off + q * 8 + 5, none⟩) hb).trans d5
            have c6 := (hI.1.1.cell (p := ⟨b, off + q * 8 + 6, none⟩) hb).trans d6
            have c7 := (hI.1.1.cell (p := ⟨b, off + q * 8 + 7, none⟩) hb).trans d7
            simp [go_sem, e28, c0, c1, c2, c3]
            exact hK _ _ (hI.step 5 _ (by decide) (by decide) (by decide) (hidC_keep hI.1 (Below.refl _ _) 5 (by decide) (by decide)) (fun _ _ _ h => h) rfl (fun h => by cases h) (fun h => by cases h))
          | 12, _ =>
            intro L v w1 f o ho hf hI hL hall K Q' hK
            obtain rfl := Option.some.inj ho
            have e35 : f.tmps[35]?.getD undef = .pointer (some ⟨b, off + q * 8 + 4, none⟩) := tmp_of ((hf 35).trans (hI.2.1 11 (by decide) (edge_listed hall 11 (by kernel_rfl))))
            obtain ⟨d0, d1, d2, d3, d4, d5, d6, d7⟩ := HX.out
            have c0 := (hI.1.1.cell (p := ⟨b, off + q * 8, none⟩) hb).trans d0
            have c1 := (hI.1.1.cell (p := ⟨b, off + q * 8 + 1, none⟩) hb).trans d1
            have c2 := (hI.1.1.cell (p := ⟨b, off + q * 8 + 2, none⟩) hb).trans d2
            have c3 := (hI.1.1.cell (p := ⟨b, off + q * 8 + 3, none⟩) hb).trans d3
            have c4 := (hI.1.1.cell (p := ⟨b, off + q * 8 + 4, none⟩) hb).trans d4
            have c5 := (hI.1.1.cell (p := ⟨b, off + q * 8 + 5, none⟩) hb).trans d5
            have c6 := (hI.1.1.cell (p := ⟨b, off + q * 8 + 6, none⟩) hb).trans d6
            have c7 := (hI.1.1.cell (p := ⟨b, off + q * 8 + 7, none⟩) hb).trans d7
            simp [go_sem, e35, c4, c5, c6, c7]
            exact hK _ _ (hI.step 12 _ (by decide) (by decide) (by decide) (hidC_keep hI.1 (Below.refl _ _) 12 (by decide) (by decide)) (fun _ _ _ h => h) rfl (fun h => by cases h) (fun h => by cases h))
          | 6, _ =>
            intro L v w1 f o ho hf hI hL hall K Q' hK
            obtain rfl := Option.some.inj ho
            have e24 : f.tmps[24]?.getD undef = .pointer (some ⟨ta, 0, none⟩) := tmp_of ((hf 24).trans (hI.2.1 0 (by decide) (edge_listed hall 0 (by kernel_rfl))))
            have e29 : f.tmps[29]?.getD undef = .agg xa.cells := tmp_of ((hf 29).trans (hI.2.1 5 (by decide) (edge_listed hall 5 (by kernel_rfl))))
            obtain ⟨hW, TA, TB, hA, hBt, ga, ga', gb, gb'⟩ := hI.1
            have eT := ga hL
            rw [eT] at hA
            simp [go_sem, e24, e29]
            refine (commit_any xa w1 _ _ La hA (by omega)).mono ?_
            rintro e w2 ⟨rfl, ht2, hg2⟩
            refine hK _ _ (hI.step 6 _ (by decide) (by decide) (by decide) ?_ (fun j _ x h => hidR_mono h (fun k hk hne => hg2.block k hk (by simp; omega))) (by rw [hLa]; rfl) (fun h => by cases h) (fun h => by cases h))
            have ho : IsTable w2 tb mb TB := ⟨(hg2.block _ (lt_of_heap hBt.tab) (by simp; omega)).trans hBt.tab, (hg2.block _ (lt_of_heap hBt.map) (by simp; omega)).trans hBt.map⟩
            refine ⟨below_grown hW hg2 (Nat.le_trans hNa (Nat.le_of_lt (lt_of_heap hA.map))) (by intro k e; cases e; exact hNa), La ++ [xa], TB, ht2, ho, fun h => ?_, fun _ => rfl, gb, gb'⟩
            rw [show upd L 6 true 6 = true from if_pos rfl] at h; cases h
          | 13, _ =>
            intro L v w1 f o ho hf hI hL hall K Q' hK
            obtain rfl := Option.some.inj ho
            have e31 : f.tmps[31]?.getD undef = .pointer (some ⟨tb, 0, none⟩) := tmp_of ((hf 31).trans (hI.2.1 7 (by decide) (edge_listed hall 7 (by kernel_rfl))))
            have e36 : f.tmps[36]?.getD undef = .agg xb.cells := tmp_of ((hf 36).trans (hI.2.1 12 (by decide) (edge_listed hall 12 (by kernel_rfl))))
            obtain ⟨hW, TA, TB, hA, hBt, ga, ga', gb, gb'⟩ := hI.1
            have eT := gb hL
            rw [eT] at hBt
            simp [go_sem, e31, e36]
            refine (commit_any xb w1 _ _ Lb hBt (by omega)).mono ?_
            rintro e w2 ⟨rfl, ht2, hg2⟩
            refine hK _ _ (hI.step 13 _ (by decide) (by decide) (by decide) ?_ (fun j _ x h => hidR_mono h (fun k hk hne => hg2.block k hk (by simp; omega))) (by rw [hLb]; rfl) (fun h => by cases h) (fun h => by cases h))
            have ho : IsTable w2 ta ma TA := ⟨(hg2.block _ (lt_of_heap hA.tab) (by simp; omega)).trans hA.tab, (hg2.block _ (lt_of_heap hA.map) (by simp; omega)).trans hA.map⟩
            refine ⟨below_grown hW hg2 (Nat.le_trans hNa (Nat.le_of_lt (lt_of_heap hA.map))) (by intro k e; cases e; omega), TA, Lb ++ [xb], ho, ht2, ga, ga', fun h => ?_, fun _ => rfl⟩
            rw [show upd L 13 true 13 = true from if_pos rfl] at h; cases h
          | 14, _ =>
            intro L v w1 f o ho hf hI hL hall K Q' hK
            obtain rfl := Option.some.inj ho
            have hbn : Below w1.heap.size w1 (w1.alloc (.cells (dg z32) 35)) := (Below.refl _ _).alloc (Nat.le_refl _) _
            obtain ⟨hW, TA, TB, hA, hBt, g⟩ := hI.1
            have l1 := lt_of_heap hA.tab
            have l2 := lt_of_heap hA.map
            have l3 := lt_of_heap hBt.tab
            have l4 := lt_of_heap hBt.map
            simp [go_sem]
            refine hK _ _ (hI.step 14 _ (by decide) (by decide) (by decide) (hidC_keep hI.1 hbn 14 (by decide) (by decide)) (fun j _ x h => hidR_mono h fun k hk _ => hbn.block k hk) ⟨w1.heap.size, by omega, rfl, new_at w1 _⟩ ?_ ?_)
            · rintro _ x ⟨b, _, rfl, h⟩; exact new_ne (lt_of_heap h)
            · intro h; cases h
          | 15, _ =>
            intro L v w1 f o ho hf hI hL hall K Q' hK
            obtain rfl := Option.some.inj ho
            have hbn : Below w1.heap.size w1 (w1.alloc (.cells (dg z32) 35)) := (Below.refl _ _).alloc (Nat.le_refl _) _
            obtain ⟨hW, TA, TB, hA, hBt, g⟩ := hI.1
            have l1 := lt_of_heap hA.tab
            have l2 := lt_of_heap hA.map
            have l3 := lt_of_heap hBt.tab
            have l4 := lt_of_heap hBt.map
            simp [go_sem]
            refine hK _ _ (hI.step 15 _ (by decide) (by decide) (by decide) (hidC_keep hI.1 hbn 15 (by decide) (by decide)) (fun j _ x h => hidR_mono h fun k hk _ => hbn.block k hk) ⟨w1.heap.size, by omega, rfl, new_at w1 _⟩ ?_ ?_)
            · intro h; cases h
            · rintro _ x ⟨b, _, rfl, h⟩; exact (new_ne (lt_of_heap h)).symm
          | i + 16, hi => exact absurd hi (by omega)
        · intro L v wh hL hI
          have e0 : v 0 = .pointer (some ⟨ta, 0, none⟩) := hI.2.1 0 (by decide) (hL 0 (by decide))
          have e1 : v 1 = .slice (some ⟨b, off, none⟩) ls.length cap := hI.2.1 1 (by decide) (hL 1 (by decide))
          have e2 : v 2 = .int .i64 (q : Int) := hI.2.1 2 (by decide) (hL 2 (by decide))
          have e3 : v 3 = .pointer (some ⟨b, off + q * 8, none⟩) := hI.2.1 3 (by decide) (hL 3 (by decide))
          have e4 : v 4 = .pointer (some ⟨b, off + q * 8, none⟩) := hI.2.1 4 (by decide) (hL 4 (by decide))
          have e5 : v 5 = .agg xa.cells := hI.2.1 5 (by decide) (hL 5 (by decide))
          have e6 : v 6 = .agg (dg (hd (q + 1))) := hI.2.1 6 (by decide) (hL 6 (by decide))
          have e7 : v 7 = .pointer (some ⟨tb, 0, none⟩) := hI.2.1 7 (by decide) (hL 7 (by decide))
          have e8 : v 8 = .slice (some ⟨b, off, none⟩) ls.length cap := hI.2.1 8 (by decide) (hL 8 (by decide))
          have e9 : v 9 = .int .i64 (q : Int) := hI.2.1 9 (by decide) (hL 9 (by decide))
          have e10 : v 10 = .pointer (some ⟨b, off + q * 8, none⟩) := hI.2.1 10 (by decide) (hL 10 (by decide))
          have e11 : v 11 = .pointer (some ⟨b, off + q * 8 + 4, none⟩) := hI.2.1 11 (by decide) (hL 11 (by decide))
          have e12 : v 12 = .agg xb.cells := hI.2.1 12 (by decide) (hL 12 (by decide))
          have e13 : v 13 = .agg (dg (hd (q + 1))) := hI.2.1 13 (by decide) (hL 13 (by decide))
          obtain ⟨b8, hM8, e14, hh8⟩ := hI.2.1 14 (by decide) (hL 14 (by decide))
          obtain ⟨b9, hM9, e15, hh9⟩ := hI.2.1 15 (by decide) (hL 15 (by decide))
          have hne := hI.2.2 (hL 14 (by decide)) (hL 15 (by decide))
          rw [e14, e15] at hne
          have hne' : b8 ≠ b9 := fun h => hne (by rw [h])
          obtain ⟨hWh, TA, TB, hAh, hBh, _, ga, _, gb⟩ := hI.1
          obtain rfl := ga (hL 6 (by decide))
          obtain rfl := gb (hL 13 (by decide))
          simp only [putSlots, Act.put, List.setIfInBounds_toArray, List.set_cons_succ, List.set_cons_zero, List.drop_succ_cons, List.drop_zero, e0, e1, e2, e3, e4, e5, e6, e7, e8, e9, e10, e11, e12, e13, e14, e15]
          clear hI hL e0 e1 e2 e3 e4 e5 e6 e7 e8 e9 e10 e11 e12 e13 e14 e15 hne ga gb
          refine wpList_store_whole rfl rfl _ _ _ rfl b8 (dg (hd (q + 1))) _ _ rfl rfl hh8 (by rw [dg_size, hd_length]; exact sizeDig) (by rw [dg_size, dg_size, hd_length]; rfl) (dg_one _) ?_
          intro w5 hs8 hso hsz5 hbl
          have hh9' := (hso _ (Ne.symm hne')).trans hh9
          have hA5 : IsTable w5 ta ma (La ++ [xa]) := ⟨(hso _ (by omega)).trans hAh.tab, (hso _ (by omega)).trans hAh.map⟩
          have hB5 : IsTable w5 tb mb (Lb ++ [xb]) := ⟨(hso _ (by omega)).trans hBh.tab, (hso _ (by omega)).trans hBh.map⟩
          have hW5 := hbl N w (by omega) hWh
          clear hso hbl hh8 hh9 hAh hBh hWh
          refine wpList_store_whole rfl rfl _ _ _ rfl b9 (dg (hd (q + 1))) _ _ rfl rfl hh9' (by rw [dg_size, hd_length]; exact sizeDig) (by rw [dg_size, dg_size, hd_length]; rfl) (dg_one _) ?_
          intro w6 hs9 hso hsz6 hbl
          have hs8' := (hso _ hne').trans hs8
          have hA6 : IsTable w6 ta ma (La ++ [xa]) := ⟨(hso _ (by omega)).trans hA5.tab, (hso _ (by omega)).trans hA5.map⟩
          have hB6 : IsTable w6 tb mb (Lb ++ [xb]) := ⟨(hso _ (by omega)).trans hB5.tab, (hso _ (by omega)).trans hB5.map⟩
          have hW6 := hbl N w (by omega) hW5
          clear hso hbl hs8 hh9' hA5 hB5 hW5
          go_wp2
          go_meet
          case rel => exact ⟨b8, b9, rfl, rfl, hs8', hs9, hA6, hB6, hW6⟩
      case rest =>
        obtain ⟨b8, b9, rfl, rfl, hs8, hs9, hA6, hB6, hW6⟩ := hcut
        clear hA hBt hW
        have hcls : HCls N w b8 b9 ta ma tb mb q (La ++ [xa]) (Lb ++ [xb]) wc.drew := ⟨hs8, hs9, hA6.drew, hB6.drew, hW6.drew⟩
        clear hs8 hs9 hA6 hB6 hW6
        go_upto_region 8 with (fail)
        refine region_quiet_list (C := HCls N w b8 b9 ta ma tb mb q (La ++ [xa]) (Lb ++ [xb])) (by kernel_rfl) (by kernel_rfl) hcls ?_
        go_big_quiet_want; go_big_quiet_op; refine ⟨.agg (dg (hd (q + 1))), fun wq hq => ?_, ?_⟩
        · have q1 : objAt wq b8 = some (.cells (dg (hd (q + 1))) 35 (0, 0)) := hq.1
          simp [q1, dg_size, hd_length]
        go_big_quiet_on
        go_big_quiet_want; go_big_quiet_op; refine ⟨.agg (dg (hd (q + 1))), fun wq hq => ?_, ?_⟩
        · have q1 : objAt wq b9 = some (.cells (dg (hd (q + 1))) 35 (0, 0)) := hq.2.1
          simp [q1, dg_size, hd_length]
        go_big_quiet_on
        go_big_quiet_want; go_big_quiet_op; refine ⟨.bool false, fun wq hq => ?_, ?_⟩
        · simp [isDig_dg, hd_length]
        go_big_quiet_on
        iterate 1 (go_big_quiet_want; go_big_quiet_op; first | go_big_quiet_on | (refine ⟨_, fun _ _ => rfl, ?_⟩; go_big_quiet_on))
        go_big_quiet_want; go_big_quiet_op; refine ⟨.agg (dg (hd (q + 1))), fun wq hq => ?_, ?_⟩
        · have q1 : objAt wq b8 = some (.cells (dg (hd (q + 1))) 35 (0, 0)) := hq.1
          simp [q1, dg_size, hd_length]
        go_big_quiet_on
        iterate 1 (go_big_quiet_want; go_big_quiet_op; first | go_big_quiet_on | (refine ⟨_, fun _ _ => rfl, ?_⟩; go_big_quiet_on))
        iterate 2 (go_big_quiet_want; go_big_quiet_op; first | go_big_quiet_on | (refine ⟨_, fun _ _ => rfl, ?_⟩; go_big_quiet_on))
        go_big_quiet_want; go_big_quiet_op; refine ⟨.agg (dg (hd (q + 1))), fun wq hq => (digQ q hq4 wq).mono fun e w' ⟨he, hb⟩ => ⟨he, hq.below hb⟩, ?_⟩
        go_big_quiet_on
        go_big_quiet_want; go_big_quiet_op; refine ⟨.bool false, fun wq hq => ?_, ?_⟩
        · simp [isDig_dg, hd_length]
        go_big_quiet_on
        iterate 1 (go_big_quiet_want; go_big_quiet_op; first | go_big_quiet_on | (refine ⟨_, fun _ _ => rfl, ?_⟩; go_big_quiet_on))
        refine wpQuiet_nil ?_
        clear hcls
        intro wd hq
        go_upto_region 10 with (fail)
        by_cases hbl : q < bs.length
        · obtain ⟨b2, off2, rfl, hb2, hc2⟩ := HBS.out q hbl
          have hbl' : (q : Int) < (bs.length : Int) := by omega
          rw [← HNN.out] at hb2
          generalize bs[q] = t at hc2
          refine region_quiet_list (C := HCls N w b8 b9 ta ma tb mb q (La ++ [xa]) (Lb ++ [xb])) (by kernel_rfl) (by kernel_rfl) ⟨hq.1, hq.2.1, hq.2.2.1.drew, hq.2.2.2.1.drew, hq.2.2.2.2.drew⟩ ?_
          iterate 7 (go_big_quiet_want; go_big_quiet_op; first | go_big_quiet_on | (refine ⟨_, fun _ _ => rfl, ?_⟩; go_big_quiet_on))
          go_big_quiet_want; go_big_quiet_op; refine ⟨.pointer (some ⟨b2, off2 + q, none⟩), fun wq hq => ?_, ?_⟩
          · simp [go_sem]
          go_big_quiet_on
          go_big_quiet_want; go_big_quiet_op; refine ⟨.bool t, fun wq hq => ?_, ?_⟩
          · have q1 := (hq.2.2.2.2.cell (p := ⟨b2, off2 + q, none⟩) hb2).trans hc2
            simp [q1, Result.andThen]
          go_big_quiet_on
          iterate 2 (go_big_quiet_want; go_big_quiet_op; first | go_big_quiet_on | (refine ⟨_, fun _ _ => rfl, ?_⟩; go_big_quiet_on))
          cases t
          · iterate 9 go_big_quiet_skip
            iterate 1 (go_big_quiet_want; go_big_quiet_op; first | go_big_quiet_on | (refine ⟨_, fun _ _ => rfl, ?_⟩; go_big_quiet_on))
            refine wpQuiet_nil ?_
            intro we hq
            go_wp2
            go_roundg (40 - (q + 1))
            case measure => omega
            case rel => exact ⟨q + 1, by omega, by omega, rfl, by simp, HNA.out ▸ hq.2.2.1, HNB.out ▸ hq.2.2.2.1, hq.2.2.2.2⟩
          · iterate 1 (go_big_quiet_want; go_big_quiet_op; first | go_big_quiet_on | (refine ⟨_, fun _ _ => rfl, ?_⟩; go_big_quiet_on))
            go_big_quiet_want; go_big_quiet_op; refine ⟨.agg (dg (hd (q + 1))), fun wq hq => ?_, ?_⟩
            · have q1 : objAt wq b8 = some (.cells (dg (hd (q + 1))) 35 (0, 0)) := hq.1
              simp [q1, dg_size, hd_length]
            go_big_quiet_on
            iterate 2 (go_big_quiet_want; go_big_quiet_op; first | go_big_quiet_on | (refine ⟨_, fun _ _ => rfl, ?_⟩; go_big_quiet_on))
            go_big_quiet_want; go_big_quiet_op; refine ⟨.pointer (some ⟨b, off + q * 8, none⟩), fun wq hq => ?_, ?_⟩
            · simp [go_sem]
            go_big_quiet_on
            go_big_quiet_want; go_big_quiet_op; refine ⟨.pointer (some ⟨b, off + q * 8, none⟩), fun wq hq => ?_, ?_⟩
            · simp [go_sem]
            go_big_quiet_on
            go_big_quiet_want; go_big_quiet_op; refine ⟨.agg xa.cells, fun wq hq => ?_, ?_⟩
            · obtain ⟨d0, d1, d2, d3, _⟩ := HX.out
              have c0 := (hq.2.2.2.2.cell (p := ⟨b, off + q * 8, none⟩) hb).trans d0
              have c1 := (hq.2.2.2.2.cell (p := ⟨b, off + q * 8 + 1, none⟩) hb).trans d1
              have c2 := (hq.2.2.2.2.cell (p := ⟨b, off + q * 8 + 2, none⟩) hb).trans d2
              have c3 := (hq.2.2.2.2.cell (p := ⟨b, off + q * 8 + 3, none⟩) hb).trans d3
              simp [c0, c1, c2, c3, Result.andThen]; rfl
            go_big_quiet_on
            go_big_quiet_want; go_big_quiet_op; refine ⟨.bool true, fun wq hq => (opens_any (hd (q + 1)) (hd_length _) xa wq _ _ _ hq.2.2.1).mono fun e w' ⟨he, hb⟩ => ⟨by rw [he, ← hLa, opens_last La xa (by omega)], hq.below hb⟩, ?_⟩
            go_big_quiet_on
            iterate 2 (go_big_quiet_want; go_big_quiet_op; first | go_big_quiet_on | (refine ⟨_, fun _ _ => rfl, ?_⟩; go_big_quiet_on))
            refine wpQuiet_nil ?_
            intro we hq
            go_wp2
            go_roundg (40 - (q + 1))
            case measure => omega
            case rel => exact ⟨q + 1, by omega, by omega, rfl, by simp, HNA.out ▸ hq.2.2.1, HNB.out ▸ hq.2.2.2.1, hq.2.2.2.2⟩
        · have hbl' : ¬ (q : Int) < (bs.length : Int) := by omega
          refine region_quiet_list (C := HCls N w b8 b9 ta ma tb mb q (La ++ [xa]) (Lb ++ [xb])) (by kernel_rfl) (by kernel_rfl) ⟨hq.1, hq.2.1, hq.2.2.1.drew, hq.2.2.2.1.drew, hq.2.2.2.2.drew⟩ ?_
          iterate 5 (go_big_quiet_want; go_big_quiet_op; first | go_big_quiet_on | (refine ⟨_, fun _ _ => rfl, ?_⟩; go_big_quiet_on))
          iterate 4 go_big_quiet_skip
          iterate 2 (go_big_quiet_want; go_big_quiet_op; first | go_big_quiet_on | (refine ⟨_, fun _ _ => rfl, ?_⟩; go_big_quiet_on))
          iterate 9 go_big_quiet_skip
          iterate 1 (go_big_quiet_want; go_big_quiet_op; first | go_big_quiet_on | (refine ⟨_, fun _ _ => rfl, ?_⟩; go_big_quiet_on))
          refine wpQuiet_nil ?_
          intro we hq
          go_wp2
          go_roundg (40 - (q + 1))
          case measure => omega
          case rel => exact ⟨q + 1, by omega, by omega, rfl, by simp, HNA.out ▸ hq.2.2.1, HNB.out ▸ hq.2.2.2.1, hq.2.2.2.2⟩
    · have hlq : ((ls.take q).map (·.1)).length = ((ls.take q).map (·.2)).length := by simp
      generalize (ls.take q).map (·.1) = A at hA hlq
      generalize (ls.take q).map (·.2) = B at hBt hlq
      have hcnt : ¬ ((q : Int) < (ls.length : Int) ∧ (q : Int) < 40) := by omega
      by_cases h1 : (q : Int) < (ls.length : Int)
      · have h2 : ¬ (q : Int) < 40 := fun h => hcnt ⟨h1, h⟩
        go_wp2_with fail
        refine (len_any _ _ _ _ hA).mono ?_
        rintro e w5 ⟨rfl, rfl⟩
        go_wp2_with fail
        refine (len_any _ _ _ _ hBt).mono ?_
        rintro e w6 ⟨rfl, rfl⟩
        go_wp2
        go_ret
        exact ⟨by simp, HNN.out ▸ hW⟩
      · go_wp2_with fail
        refine (len_any _ _ _ _ hA).mono ?_
        rintro e w5 ⟨rfl, rfl⟩
        go_wp2_with fail
        refine (len_any _ _ _ _ hBt).mono ?_
        rintro e w6 ⟨rfl, rfl⟩
        go_wp2
        go_ret
        exact ⟨by simp, HNN.out ▸ hW⟩
end Go.Proofs.Ytaocdknpalohbaa
