/- SealMarks: the walk. Conditions: numbers of their kinds; what the two variables of sha hold; sizes. -/
import Derived.Test.YtpkgmoiffegbfaaDoorZMarkL
import Derived.Deep.LoopGhost
namespace Go.Proofs.YtpkgmoiffegbfaaDoor
open Go.RowKit Go.BigFrame
set_option maxRecDepth 100000
attribute [local go_sem ↓] exec_loadZM exec_eqlZ exec_neqZ exec_zeroZ exec_eqlSe
attribute [local go_sem] zloadRowM eqRow digEq_dg isDig_dg eqRowSe digEq_se isSe_cells objAt_drew

/-- What stays while marks are made. -/
def MkC (n : Nat) (w0 : World) (v : Value) (Ds : List (List UInt8)) (w : World) : Prop := Glob F0 K64 w ∧ OwnD w n v Ds ∧ Below n w0 w ∧ n ≤ w.heap.size
theorem MkC.below {n : Nat} {w0 : World} {v : Value} {Ds : List (List UInt8)} {w w' : World} (h : MkC n w0 v Ds w) (hb : Below w.heap.size w w') : MkC n w0 v Ds w' := by
  obtain ⟨h1, h2, h3, h4⟩ := h
  exact ⟨h1.below hb, h2.below hb, h3.trans (hb.mono h4), Nat.le_trans h4 hb.size⟩
theorem MkC.drew {n : Nat} {w0 : World} {v : Value} {Ds : List (List UInt8)} {w : World} (h : MkC n w0 v Ds w) : MkC n w0 v Ds w.drew := ⟨h.1, h.2.1, h.2.2.1.drew, h.2.2.2⟩
theorem OwnI.any {w : World} {base : Nat} {v : Value} {l : List Int} (h : OwnI w base v l) : ∃ ga gc, v = .slice ga l.length gc ∧ (0 < l.length → ∃ g, ga = some ⟨g, 0, none⟩ ∧ g < w.heap.size ∧ ∀ (i : Nat) (n : Int), l[i]? = some n → w.cell? ⟨g, i, none⟩ = some (.int .i64 n)) := by
  rcases h.2 with ⟨h1, h2⟩ | ⟨g, cap, cur, h1, _, hg, _, _, _, ht⟩
  · exact ⟨none, 0, by rw [h1, h2], fun h => by omega⟩
  · refine ⟨_, cap, h1, fun _ => ⟨g, rfl, zlt hg, fun i n hi => ?_⟩⟩
    have hlt := (List.getElem?_eq_some_iff.1 hi).1
    have h3 : (cur.toList.take (l.length * 1))[i]? = (l.map fun n => Value.int .i64 n)[i]? := by rw [ht]
    rw [List.getElem?_take_of_lt (by omega), List.getElem?_map, hi] at h3
    exact zcell hg (by rw [← Array.getElem?_toList]; exact h3)
/-- What the slots hold. -/
def r9R (vm : Value) (b off m cap q : Nat) (x : Se) : Nat → Value → World → Prop
  | 0, u, _ => u = vm
  | 1, u, _ => u = .iface 71 (.agg #[])
  | 2, u, _ => u = .slice (some ⟨b, off, none⟩) m cap
  | 3, u, _ => u = .int .i64 (q : Int)
  | 4, u, _ => u = .pointer (some ⟨b, off + q * 4, none⟩)
  | 5, u, _ => u = .agg x.cells.toArray
  | 6, u, _ => u = .func (.method "Commit") #[.iface 71 (.agg #[])] #[]
  | 7, _, _ => True
  | 8, u, _ => u = .iface 71 (.agg #[])
  | 9, u, _ => u = .agg (dg (comS x))
  | _, u, w => IsRow 28 Lib.byteCells [comS x] u w
theorem r9_below {vm : Value} {b off m cap q : Nat} {x : Se} {j : Nat} {u : Value} {w w' : World} (h : r9R vm b off m cap q x j u w) (hb : Below w.heap.size w w') : r9R vm b off m cap q x j u w' := by
  match j, h with
  | 0, h | 1, h | 2, h | 3, h | 4, h | 5, h | 6, h | 7, h | 8, h | 9, h => exact h
  | j + 10, h => exact IsRow.below h hb

set_option maxHeartbeats 8000000 in
theorem zsmarks_any (aa : Option Addr) (cap : Nat) (ls0 : List Se) (w : World) (hG : Glob F0 K64 w) (hl0 : ls0.length ≤ 9223372036854775807) (hcap : ls0.length ≤ cap)
    (hat : (∀ x ∈ ls0, x.Ok) ∧ (0 < ls0.length → ∃ b off, aa = some ⟨b, off, none⟩ ∧ b < w.heap.size ∧ RowsAt w b off 4 Se.cells ls0)) :
    Calls Tryd.prog 10 #[.slice aa ls0.length cap] w fun e w' => e = .returned (.bool true) ∧ Below w.heap.size w w' := by
  have HG := hide hG
  have HAT0 := hide hat
  clear hG hat
  obtain ⟨m, hm⟩ : ∃ m, m = min ls0.length 8 := ⟨_, rfl⟩
  have hm1 : (m : Int) ≤ (cap : Int) := by omega
  have hm2 : (if (8 : Int) < (ls0.length : Int) then (8 : Int) else (ls0.length : Int)) = (m : Int) := by split <;> omega
  have hm8 : m ≤ 8 := by omega
  have hml : m ≤ ls0.length := by omega
  clear hm
  go_enter Tryd.func10, Tryd.ntmps10
  go_wp2_with fail
  refine (ssum_any w).mono ?_
  rintro e w2 ⟨rfl, rfl⟩
  go_wp2_with fail
  refine (sworks_any w HG.out).mono ?_
  rintro e w2 ⟨rfl, hB2⟩
  have hG2 := HG.out.below hB2
  obtain ⟨n, hn⟩ : ∃ n, n = w.heap.size := ⟨_, rfl⟩
  have hn1 : 1 < n := by rw [hn]; exact HG.out.2.2.2
  rw [← hn] at hB2
  have hz2 : n ≤ w2.heap.size := by rw [hn]; exact hB2.size
  have HN := hide hn
  clear hn
  go_upto_region 5 with (fail)
  obtain ⟨ls, hls⟩ : ∃ ls, ls = ls0.take m := ⟨_, rfl⟩
  have hlen : ls.length = m := by rw [hls, List.length_take]; omega
  have hok : ∀ x ∈ ls, x.Ok := fun x hx => HAT0.out.1 x (List.mem_of_mem_take (hls ▸ hx))
  have hrows : 0 < m → ∃ b off, aa = some ⟨b, off, none⟩ ∧ b < n ∧ RowsAt w b off 4 Se.cells ls := fun h0 => by
    obtain ⟨b, off, h1, h2, h3⟩ := HAT0.out.2 (by omega)
    refine ⟨b, off, h1, by rw [HN.out]; exact h2, fun q x hq i u hu => h3 q x ?_ i u hu⟩
    rw [hls, List.getElem?_take] at hq
    split at hq
    · exact hq
    · cases hq
  have HOK := hide hok
  have HAT := hide hrows
  have HLN := hide hlen
  clear hls hok hrows hlen hm2 hm1
  have hC0 : MkC n w (.slice none 0 0) ((ls.take 0).map comS) w2 := ⟨hG2, OwnD.nil w2 n, hB2, hz2⟩
  clear hG2 hB2 hz2
  go_wp2_with fail
  go_loopg [4, 5] m (fun g vm vi wi => ∃ q : Nat, q ≤ m ∧ g = m - q ∧ vi = .int .i64 q ∧ MkC n w vm ((ls.take q).map comS) wi)
  case atStart => exact ⟨0, by omega, by omega, rfl, hC0⟩
  case round =>
    obtain ⟨q, hq, rfl, rfl, hCq⟩ := hrel
    clear hC0
    by_cases hlt : q < m
    · obtain ⟨b, off, rfl, hbn, hrow⟩ := HAT.out (by omega)
      have hql : q < ls.length := by rw [HLN.out]; exact hlt
      obtain ⟨x, hx⟩ : ∃ x, ls[q]? = some x := ⟨_, List.getElem?_eq_getElem hql⟩
      have okq := HOK.out x (List.mem_of_getElem? hx)
      have HROW : Hid (∀ W : World, Below n w W → ∀ i u, x.cells[i]? = some u → W.cell? ⟨b, off + q * 4 + i, none⟩ = some u) := hide fun W hW i u hu => (hW.cell (p := ⟨b, off + q * 4 + i, none⟩) hbn).trans (hrow q x hx i u hu)
      have HTK := hide (show (ls.take (q + 1)).map comS = (ls.take q).map comS ++ [comS x] by rw [List.take_add_one, hx, Option.toList_some, List.map_append]; rfl)
      have HTL := hide (show ((ls.take q).map comS).length < 1000 by rw [List.length_map, List.length_take]; omega)
      have hq0 : (0 : Int) ≤ (q : Int) := by omega
      have hqI : (q : Int) < (m : Int) := by omega
      clear hrow hx hql
      generalize (ls.take q).map comS = Dq at hCq HTK HTL
      go_upto_region 9 with (fail)
      refine region_slots 11 [27, 28, 29, 30, 31, 32, 33, 34, 35, 36, 37] (by kernel_rfl) (by kernel_rfl) (by decide) rfl 98 rfl (by decide) (by kernel_rfl) (SlI 11 (MkC n w u4 Dq) (r9R u4 b off m cap q x)) ?_ ?_ ?_
      · intro v
        exact SlI.start hCq.drew v
      · intro i hi
        match i, hi with
        | 0, _ =>
          intro S v w1 f o ho hf hI hS hall K Q' hK
          obtain rfl := Option.some.inj ho
          have e1 : f.tmps[4]?.getD undef = u4 := tmp_of (hf 4)
          simp [go_sem, e1]
          exact hK _ _ (hI.stay 0 _ rfl)
        | 1, _ =>
          intro S v w1 f o ho hf hI hS hall K Q' hK
          obtain rfl := Option.some.inj ho
          have e1 : f.tmps[3]?.getD undef = .iface 71 (.agg #[]) := tmp_of (hf 3)
          simp [go_sem, e1]
          exact hK _ _ (hI.stay 1 _ rfl)
        | 2, _ =>
          intro S v w1 f o ho hf hI hS hall K Q' hK
          obtain rfl := Option.some.inj ho
          have e1 : f.tmps[0]?.getD undef = .slice (some ⟨b, off, none⟩) m cap := tmp_of (hf 0)
          simp [go_sem, e1]
          exact hK _ _ (hI.stay 2 _ rfl)
        | 3, _ =>
          intro S v w1 f o ho hf hI hS hall K Q' hK
          obtain rfl := Option.some.inj ho
          have e1 : f.tmps[5]?.getD undef = .int .i64 (q : Int) := tmp_of (hf 5)
          simp [go_sem, e1]
          exact hK _ _ (hI.stay 3 _ rfl)
        | 4, _ =>
          intro S v w1 f o ho hf hI hS hall K Q' hK
          obtain rfl := Option.some.inj ho
          have e1 : f.tmps[29]?.getD undef = .slice (some ⟨b, off, none⟩) m cap := tmp_of ((hf 29).trans (hI.2 2 (by decide) (edge_listed hall 2 (by kernel_rfl))))
          have e2 : f.tmps[30]?.getD undef = .int .i64 (q : Int) := tmp_of ((hf 30).trans (hI.2 3 (by decide) (edge_listed hall 3 (by kernel_rfl))))
          simp [go_sem, e1, e2, hqI, hq0]
          exact hK _ _ (hI.stay 4 _ rfl)
        | 5, _ =>
          intro S v w1 f o ho hf hI hS hall K Q' hK
          obtain rfl := Option.some.inj ho
          have e1 : f.tmps[31]?.getD undef = .pointer (some ⟨b, off + q * 4, none⟩) := tmp_of ((hf 31).trans (hI.2 4 (by decide) (edge_listed hall 4 (by kernel_rfl))))
          have hr := HROW.out w1 hI.1.2.2.1
          have c0 : w1.cell? ⟨b, off + q * 4, none⟩ = some (.int .i64 x.r) := hr 0 _ rfl
          have c1 : w1.cell? ⟨b, off + q * 4 + 1, none⟩ = some (.int .i64 x.c) := hr 1 _ rfl
          have c2 : w1.cell? ⟨b, off + q * 4 + 2, none⟩ = some (.int .u64 x.b) := hr 2 _ rfl
          have c3 : w1.cell? ⟨b, off + q * 4 + 3, none⟩ = some (.int .u64 x.n) := hr 3 _ rfl
          simp [go_sem, e1, c0, c1, c2, c3]
          exact hK _ _ (hI.stay 5 _ rfl)
        | 6, _ =>
          intro S v w1 f o ho hf hI hS hall K Q' hK
          obtain rfl := Option.some.inj ho
          have e1 : f.tmps[28]?.getD undef = .iface 71 (.agg #[]) := tmp_of ((hf 28).trans (hI.2 1 (by decide) (edge_listed hall 1 (by kernel_rfl))))
          have nm := nil_ahead_commit
          have nm2 := nil_ahead_commit2
          simp [go_sem, e1, nm, nm2]
          exact hK _ _ (hI.stay 6 _ rfl)
        | 7, _ =>
          intro S v w1 f o ho hf hI hS hall K Q' hK
          obtain rfl := Option.some.inj ho
          have e1 : f.tmps[33]?.getD undef = .func (.method "Commit") #[.iface 71 (.agg #[])] #[] := tmp_of ((hf 33).trans (hI.2 6 (by decide) (edge_listed hall 6 (by kernel_rfl))))
          have nm := nil_ahead_commit
          have nm2 := nil_ahead_commit2
          simp [go_sem, e1, nm, nm2]
          exact hK _ _ (hI.stay 7 _ trivial)
        | 8, _ =>
          intro S v w1 f o ho hf hI hS hall K Q' hK
          obtain rfl := Option.some.inj ho
          have e1 : f.tmps[28]?.getD undef = .iface 71 (.agg #[]) := tmp_of ((hf 28).trans (hI.2 1 (by decide) (edge_listed hall 1 (by kernel_rfl))))
          simp [go_sem, e1]
          exact hK _ _ (hI.stay 8 _ rfl)
        | 9, _ =>
          intro S v w1 f o ho hf hI hS hall K Q' hK
          obtain rfl := Option.some.inj ho
          have es : f.tmps[35]?.getD undef = .iface 71 (.agg #[]) := tmp_of ((hf 35).trans (hI.2 8 (by decide) (edge_listed hall 8 (by kernel_rfl))))
          have ex : f.tmps[32]?.getD undef = .agg x.cells.toArray := tmp_of ((hf 32).trans (hI.2 5 (by decide) (edge_listed hall 5 (by kernel_rfl))))
          simp [go_sem, es, ex]
          refine (scommit_any w1 x okq hI.1.1).mono ?_
          rintro e w2 ⟨rfl, hb⟩
          exact hK _ _ (hI.step 9 _ (hI.1.below hb) (fun _ _ h => r9_below h hb) rfl)
        | 10, _ =>
          intro S v w1 f o ho hf hI hS hall K Q' hK
          obtain rfl := Option.some.inj ho
          have ea : f.eval (.tmp 36) = .agg (dg (comS x)) := (hf 36).trans (hI.2 9 (by decide) (edge_listed hall 9 (by kernel_rfl)))
          refine wp_digs _ [comS x] rfl (by simp) (by simp) (by intro D hD; simp only [List.mem_cons, List.not_mem_nil, or_false] at hD; exact hD ▸ comS_length x) (by simp [ea]) ?_
          intro u w2 hr hb
          exact hK _ _ (hI.step 10 _ (hI.1.below hb) (fun _ _ h => r9_below h hb) hr)
        | i + 11, hi => exact absurd hi (by omega)
      · intro S v wh hS hI
        have e0 : v 0 = u4 := hI.2 0 (by decide) (hS 0 (by decide))
        have e1 : v 1 = .iface 71 (.agg #[]) := hI.2 1 (by decide) (hS 1 (by decide))
        have e2 : v 2 = .slice (some ⟨b, off, none⟩) m cap := hI.2 2 (by decide) (hS 2 (by decide))
        have e3 : v 3 = .int .i64 (q : Int) := hI.2 3 (by decide) (hS 3 (by decide))
        have e4 : v 4 = .pointer (some ⟨b, off + q * 4, none⟩) := hI.2 4 (by decide) (hS 4 (by decide))
        have e5 : v 5 = .agg x.cells.toArray := hI.2 5 (by decide) (hS 5 (by decide))
        have e6 : v 6 = .func (.method "Commit") #[.iface 71 (.agg #[])] #[] := hI.2 6 (by decide) (hS 6 (by decide))
        have e8 : v 8 = .iface 71 (.agg #[]) := hI.2 8 (by decide) (hS 8 (by decide))
        have e9 : v 9 = .agg (dg (comS x)) := hI.2 9 (by decide) (hS 9 (by decide))
        have r10 : IsRow 28 Lib.byteCells [comS x] (v 10) wh := hI.2 10 (by decide) (hS 10 (by decide))
        obtain ⟨v7, e7⟩ : ∃ v7, v 7 = v7 := ⟨_, rfl⟩
        obtain ⟨v10, e10⟩ : ∃ v10, v 10 = v10 := ⟨_, rfl⟩
        rw [e10] at r10
        have hCh := hI.1
        simp only [putSlots, Act.put, List.setIfInBounds_toArray, List.set_cons_succ, List.set_cons_zero, List.drop_succ_cons, List.drop_zero, e0, e1, e2, e3, e4, e5, e6, e7, e8, e9, e10]
        clear hI hS e0 e1 e2 e3 e4 e5 e6 e7 e8 e9 e10 hCq
        refine zappD rfl _ _ rfl u4 rfl v10 rfl (comS x) (comS_length x) r10 n Dq hCh.2.1 HTL.out hCh.2.2.2 ?_
        intro v' w' ho' hb'
        rw [← HTK.out] at ho'
        have hC' : MkC n w v' ((ls.take (q + 1)).map comS) w' := ⟨hCh.1.belowN hb' hn1, ho', hCh.2.2.1.trans hb', Nat.le_trans hCh.2.2.2 hb'.size⟩
        clear ho' hb' hCh r10
        go_wp2
        go_roundg (m - (q + 1))
        case measure => omega
        case rel => exact ⟨q + 1, by omega, by omega, by simp, hC'⟩
    · have hqe : q = m := by omega
      subst hqe
      have hnl : ¬ (q : Int) < (q : Int) := by omega
      rw [List.take_of_length_le (by rw [HLN.out]; exact Nat.le_refl _)] at hCq
      have hDl : ∀ D ∈ ls.map comS, D.length = 32 := fun D hD => by
        obtain ⟨x, _, rfl⟩ := List.mem_map.1 hD
        exact comS_length x
      obtain ⟨ma, mc, rfl, hmr⟩ := hCq.2.1.rows hDl
      have HDL := hide hDl
      have HMR := hide hmr
      clear hDl hmr
      have hL := HLN.out
      subst hL
      go_wp2_with fail
      have hO := opened_any true wr hCq.1 ma mc (ls.map comS) HDL.out (by rw [List.length_map]; omega) HMR.out aa cap ls (by omega) HOK.out (fun h0 => by
        obtain ⟨b, off, h1, h2, h3⟩ := HAT.out h0
        exact ⟨b, off, h1, Nat.lt_of_lt_of_le h2 hCq.2.2.2, fun q x hq i u hu => (hCq.2.2.1.cell (p := ⟨b, off + q * 4 + i, none⟩) h2).trans (h3 q x hq i u hu)⟩)
      rw [List.length_map] at hO
      refine hO.mono ?_
      clear hO
      rintro e w6 ⟨v6, rfl, ho6, hB6⟩
      obtain ⟨ga, gc, rfl, hg6⟩ := ho6.any
      have hfl : (foundL true (ls.map comS) ls).length = ls.length := by simp [foundL]
      rw [hfl]
      have HG6 := hide hg6
      have HFL := hide hfl
      have HB6 := hide (hCq.2.2.1.trans (hB6.mono hCq.2.2.2))
      have HMR6 : Hid (0 < ls.length → ∃ mb moff, ma = some ⟨mb, moff, none⟩ ∧ mb < w6.heap.size ∧ RowsAt w6 mb moff 32 Lib.byteCells (ls.map comS)) := hide fun h0 => by
        obtain ⟨mb, moff, h1, h2, h3⟩ := HMR.out (by rw [List.length_map]; exact h0)
        exact ⟨mb, moff, h1, Nat.lt_of_lt_of_le h2 hB6.size, fun q x hq i u hu => (hB6.cell (p := ⟨mb, moff + q * 32 + i, none⟩) h2).trans (h3 q x hq i u hu)⟩
      have hn6 : n ≤ w6.heap.size := Nat.le_trans hCq.2.2.2 hB6.size
      have HW6 := hide (hCq.2.2.1.trans (hB6.mono hCq.2.2.2))
      clear ho6 hg6 hB6 hCq hnl hfl
      go_wp2_with fail
      go_loopg [7] ls.length (fun g vi wi => ∃ q : Nat, q ≤ ls.length ∧ g = ls.length - q ∧ vi = .int .i64 q ∧ Below w6.heap.size w6 wi)
      case atStart => exact ⟨0, by omega, by omega, rfl, Below.refl _ _⟩
      case round =>
        obtain ⟨q, hq, rfl, rfl, hCi⟩ := hrel
        by_cases hlt : q < ls.length
        · obtain ⟨b, off, rfl, hbn, hrow⟩ := HAT.out (by omega)
          obtain ⟨mb, moff, rfl, hmb, hmrow⟩ := HMR6.out (by omega)
          obtain ⟨g, rfl, hgl, hgc⟩ := HG6.out (by rw [HFL.out]; omega)
          obtain ⟨x, hx⟩ : ∃ x, ls[q]? = some x := ⟨_, List.getElem?_eq_getElem hlt⟩
          obtain ⟨j, hj1, hj2, ⟨y, hy1, hy2⟩, hj3⟩ := firstOf_spec (fun z => true && decide (comS z = comS x)) ls 0 q x hx (by simp)
          have hfq : (foundL true (ls.map comS) ls)[q]? = some (j : Int) := by
            rw [foundL, List.getElem?_map, List.getElem?_map, hx]
            simp only [Option.map_some, hj1, Nat.zero_add]
          obtain ⟨D, hD⟩ : ∃ D, D = comS x := ⟨_, rfl⟩
          have hDl : D.length = 32 := hD ▸ comS_length x
          have hDc : (Lib.byteCells D).length = 32 := by simp [Lib.byteCells, hDl]
          have hqD : (ls.map comS)[q]? = some D := by rw [List.getElem?_map, hx, hD]; rfl
          have hjD : (ls.map comS)[j]? = some D := by
            rw [List.getElem?_map, hy1, hD]
            simp only [Bool.true_and, decide_eq_true_eq] at hy2
            rw [Option.map_some, hy2]
          have HGC := hide hgc
          have HMK : Hid (∀ W : World, Below w6.heap.size w6 W → ∀ k, (ls.map comS)[k]? = some D → W.rangeAt mb (moff + k * 32) (Lib.byteCells D)) := hide fun W hW k hk i u hu => (hW.cell (p := ⟨mb, moff + k * 32 + i, none⟩) hmb).trans (hmrow k D hk i u hu)
          have HRW : Hid (∀ W : World, Below w6.heap.size w6 W → ∀ k z, ls[k]? = some z → ∀ i u, z.cells[i]? = some u → W.cell? ⟨b, off + k * 4 + i, none⟩ = some u) := hide fun W hW k z hk i u hu => (hW.cell (p := ⟨b, off + k * 4 + i, none⟩) (by show b < w6.heap.size; omega)).trans ((HW6.out.cell (p := ⟨b, off + k * 4 + i, none⟩) hbn).trans (hrow k z hk i u hu))
          have HJ3 := hide hj3
          have hq0 : (0 : Int) ≤ (q : Int) := by omega
          have hqI : (q : Int) < (ls.length : Int) := by omega
          have hj0 : (0 : Int) ≤ (j : Int) := by omega
          have hjI : (j : Int) < (ls.length : Int) := by omega
          have hjq : (j : Int) ≤ (q : Int) := by omega
          have hjl : j ≤ ls.length := by omega
          clear hrow hmrow hgc hj1 hj2 hy1 hy2 hj3 hD
          go_upto_region 16 with (fail)
          refine zquiet (C := fun W => Below w6.heap.size w6 W) (by kernel_rfl) (by kernel_rfl) hCi.drew ?_
          iterate 3 (go_big_quiet_want; go_big_quiet_op; first | go_big_quiet_on | (refine ⟨_, fun _ _ => rfl, ?_⟩; go_big_quiet_on))
          go_big_quiet_want; go_big_quiet_op; refine ⟨.int .i64 (j : Int), fun wq hq => ?_, ?_⟩
          · have c := (hq.cell (p := ⟨g, q, none⟩) hgl).trans (HGC.out q _ hfq)
            simp [go_sem, c]
          go_big_quiet_on
          go_big_quiet_want; go_big_quiet_op; refine ⟨.bool false, fun wq hq => ?_, ?_⟩
          · simp [go_sem]
          go_big_quiet_on
          iterate 4 (go_big_quiet_want; go_big_quiet_op; first | go_big_quiet_on | (refine ⟨_, fun _ _ => rfl, ?_⟩; go_big_quiet_on))
          go_big_quiet_want; go_big_quiet_op; refine ⟨.int .i64 (j : Int), fun wq hq => ?_, ?_⟩
          · have c := (hq.cell (p := ⟨g, q, none⟩) hgl).trans (HGC.out q _ hfq)
            simp [go_sem, c]
          go_big_quiet_on
          iterate 1 (go_big_quiet_want; go_big_quiet_op; first | go_big_quiet_on | (refine ⟨_, fun _ _ => rfl, ?_⟩; go_big_quiet_on))
          go_big_quiet_want; go_big_quiet_op; refine ⟨.bool false, fun wq hq => ?_, ?_⟩
          · simp [go_sem]; omega
          go_big_quiet_on
          iterate 6 (go_big_quiet_want; go_big_quiet_op; first | go_big_quiet_on | (refine ⟨_, fun _ _ => rfl, ?_⟩; go_big_quiet_on))
          go_big_quiet_want; go_big_quiet_op; refine ⟨.int .i64 (j : Int), fun wq hq => ?_, ?_⟩
          · have c := (hq.cell (p := ⟨g, q, none⟩) hgl).trans (HGC.out q _ hfq)
            simp [go_sem, c]
          go_big_quiet_on
          iterate 1 (go_big_quiet_want; go_big_quiet_op; first | go_big_quiet_on | (refine ⟨_, fun _ _ => rfl, ?_⟩; go_big_quiet_on))
          go_big_quiet_want; go_big_quiet_op; refine ⟨.agg (dg D), fun wq hq => ?_, ?_⟩
          · have c := zrowAt_of (w := wq) (g := mb) (o := moff + j * 32) (n := 32) hDc (HMK.out wq hq j hjD)
            simp [go_sem, c, dg]
          go_big_quiet_on
          iterate 3 (go_big_quiet_want; go_big_quiet_op; first | go_big_quiet_on | (refine ⟨_, fun _ _ => rfl, ?_⟩; go_big_quiet_on))
          go_big_quiet_want; go_big_quiet_op; refine ⟨.agg (dg D), fun wq hq => ?_, ?_⟩
          · have c := zrowAt_of (w := wq) (g := mb) (o := moff + q * 32) (n := 32) hDc (HMK.out wq hq q hqD)
            simp [go_sem, c, dg]
          go_big_quiet_on
          go_big_quiet_want; go_big_quiet_op; refine ⟨.bool false, fun wq hq => ?_, ?_⟩
          · simp [hDl]
          go_big_quiet_on
          iterate 1 (go_big_quiet_want; go_big_quiet_op; first | go_big_quiet_on | (refine ⟨_, fun _ _ => rfl, ?_⟩; go_big_quiet_on))
          refine wpQuiet_nil ?_
          clear hCi
          intro wd hqd
          go_wp2_with fail
          go_loopg [8] j (fun g' vk wi => ∃ k : Nat, k ≤ j ∧ g' = j - k ∧ vk = .int .i64 k ∧ Below w6.heap.size w6 wi)
          case atStart => exact ⟨0, by omega, by omega, rfl, hqd⟩
          case round =>
            obtain ⟨k, hk, rfl, rfl, hCk⟩ := hrel
            clear hqd
            have c := (hCk.cell (p := ⟨g, q, none⟩) hgl).trans (HGC.out q _ hfq)
            by_cases hkj : k < j
            · obtain ⟨z, hkz⟩ : ∃ z, ls[k]? = some z := ⟨_, List.getElem?_eq_getElem (by omega)⟩
              have hqx := hx
              have hzx : ¬ z = x := fun e => by
                have := HJ3.out k hkj z hkz
                rw [e] at this
                simp at this
              have hk0 : (0 : Int) ≤ (k : Int) := by omega
              have hkI : (k : Int) < (ls.length : Int) := by omega
              have hkJ : (k : Int) < (j : Int) := by omega
              go_upto_region 21 with (fail)
              clear c
              refine zquiet (C := fun W => Below w6.heap.size w6 W) (by kernel_rfl) (by kernel_rfl) hCk.drew ?_
              iterate 3 (go_big_quiet_want; go_big_quiet_op; first | go_big_quiet_on | (refine ⟨_, fun _ _ => rfl, ?_⟩; go_big_quiet_on))
              go_big_quiet_want; go_big_quiet_op; refine ⟨.agg z.cells.toArray, fun wq hq => ?_, ?_⟩
              · have c0 : wq.cell? ⟨b, off + k * 4, none⟩ = some (.int .i64 z.r) := HRW.out wq hq k z hkz 0 _ rfl
                have c1 : wq.cell? ⟨b, off + k * 4 + 1, none⟩ = some (.int .i64 z.c) := HRW.out wq hq k z hkz 1 _ rfl
                have c2 : wq.cell? ⟨b, off + k * 4 + 2, none⟩ = some (.int .u64 z.b) := HRW.out wq hq k z hkz 2 _ rfl
                have c3 : wq.cell? ⟨b, off + k * 4 + 3, none⟩ = some (.int .u64 z.n) := HRW.out wq hq k z hkz 3 _ rfl
                simp [go_sem, c0, c1, c2, c3, Se.cells]
              go_big_quiet_on
              iterate 3 (go_big_quiet_want; go_big_quiet_op; first | go_big_quiet_on | (refine ⟨_, fun _ _ => rfl, ?_⟩; go_big_quiet_on))
              go_big_quiet_want; go_big_quiet_op; refine ⟨.agg x.cells.toArray, fun wq hq => ?_, ?_⟩
              · have c0 : wq.cell? ⟨b, off + q * 4, none⟩ = some (.int .i64 x.r) := HRW.out wq hq q x hqx 0 _ rfl
                have c1 : wq.cell? ⟨b, off + q * 4 + 1, none⟩ = some (.int .i64 x.c) := HRW.out wq hq q x hqx 1 _ rfl
                have c2 : wq.cell? ⟨b, off + q * 4 + 2, none⟩ = some (.int .u64 x.b) := HRW.out wq hq q x hqx 2 _ rfl
                have c3 : wq.cell? ⟨b, off + q * 4 + 3, none⟩ = some (.int .u64 x.n) := HRW.out wq hq q x hqx 3 _ rfl
                simp [go_sem, c0, c1, c2, c3, Se.cells]
              go_big_quiet_on
              go_big_quiet_want; go_big_quiet_op; refine ⟨.bool false, fun wq hq => ?_, ?_⟩
              · simp [hzx]
              go_big_quiet_on
              refine wpQuiet_nil ?_
              clear hCk
              intro we hqe
              go_wp2
              go_roundg (j - (k + 1))
              case measure => omega
              case rel => exact ⟨k + 1, by omega, by omega, by simp, hqe⟩
            · have hke : k = j := by omega
              subst hke
              have hkn : ¬ (k : Int) < (k : Int) := by omega
              go_wp2
              go_roundg (ls.length - (q + 1))
              case measure => omega
              case rel => exact ⟨q + 1, by omega, by omega, by simp, hCk⟩
        · have hqe : ¬ (q : Int) < (ls.length : Int) := by omega
          go_wp2
          go_ret
          exact ⟨rfl, HN.out ▸ HW6.out.trans (hCi.mono hn6)⟩
end Go.Proofs.YtpkgmoiffegbfaaDoor
