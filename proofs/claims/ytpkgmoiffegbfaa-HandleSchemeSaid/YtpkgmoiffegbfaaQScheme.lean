/- The law HandleScheme: the walk. Condition: the two variables of sha hold words; the list lies in memory. -/
import Derived.Test.YtpkgmoiffegbfaaQKeeps
namespace Go.Proofs.Ytpkgmoiffegbfaa
open Go.RowKit Go.BigFrame
set_option maxRecDepth 100000
attribute [local go_sem ↓] exec_loadZ exec_eqlZ exec_neqZ exec_zeroZ
attribute [local go_sem] loadRow eqRow digEq_dg isDig_dg objAt_drew

/-- A sealed thing, as the table has it. -/
def toSl (x : Se) : Sl := ⟨x.r, x.c, x.b, x.n⟩
theorem toSl_cells (x : Se) : (toSl x).cells = x.cells.toArray := rfl
theorem same_self (x : Sl) : x.same x = true := by rw [same_form]; simp
theorem opens_last (L : List Sl) (x : Sl) (hL : L.length < 1000) : opensF (L ++ [x]) (hd (L.length + 1)) x = true := by
  have h := look_hd 0 (L ++ [x]) L.length (by rw [List.length_append, List.length_singleton]; omega) (by rw [List.length_append, List.length_singleton]; omega)
  rw [Nat.zero_add] at h
  rw [opensF, h, List.getElem?_append_right (Nat.le_refl _), Nat.sub_self]
  exact same_self x
/-- What stays all along. -/
def qW (KQ : List W) (FQ : S8) (N : Nat) (w0 w : World) : Prop := Glob FQ KQ w ∧ Below N w0 w ∧ N ≤ w.heap.size
theorem qW.below {KQ : List W} {FQ : S8} {N : Nat} {w0 w w' : World} (h : qW KQ FQ N w0 w) (hb : Below w.heap.size w w') : qW KQ FQ N w0 w' := ⟨h.1.below hb, h.2.1.trans (hb.mono h.2.2), Nat.le_trans h.2.2 hb.size⟩
theorem qW.grown {KQ : List W} {FQ : S8} {N : Nat} {w0 w w' : World} {r : Nat} (h : qW KQ FQ N w0 w) (hN : 1 < N) (hr : N ≤ r) (hg : w.grownBy w' (some r)) : qW KQ FQ N w0 w' := ⟨h.1.grown hg (by omega), below_grown h.2.1 hg h.2.2 (by intro k e; cases e; exact hr), Nat.le_trans h.2.2 hg.size⟩
theorem tab_ne {w : World} {tb mb g : Nat} {L : List Sl} (h : IsTable w tb mb L) (hg : w.heap[g]? = some (.cells (dg z32) 68 (0, 0))) : tb ≠ g ∧ mb ≠ g := by
  refine ⟨fun e => ?_, fun e => ?_⟩
  · have := h.tab; rw [e, hg] at this; injection this with this; injection this with h1 h2; cases h2
  · have := h.map; rw [e, hg] at this; cases this
theorem IsTable.grown {w w' : World} {tb mb g : Nat} {L : List Sl} (h : IsTable w tb mb L) (hg : w.grownBy w' (some g)) (h1 : tb ≠ g) (h2 : mb ≠ g) : IsTable w' tb mb L :=
  ⟨(hg.block tb (lt_of_heap h.tab) (by simpa using h1)).trans h.tab, (hg.block mb (lt_of_heap h.map) (by simpa using h2)).trans h.map⟩
theorem keep_map {w w' : World} {mb n : Nat} {es : Array MapEntry} (hm : w.heap[mb]? = some (.map es n)) (hg : w.grownBy w' (some mb)) : Keep w w' :=
  ⟨hg.size, fun k o ho hc => (hg.block k (lt_of_heap ho) (fun e => by cases e; rw [hm] at ho; cases ho; cases hc)).trans ho⟩
/-- A table into which k things were committed. -/
def qT (KQ : List W) (FQ : S8) (N : Nat) (w0 : World) (tb mb k : Nat) (w : World) : Prop := ∃ L : List Sl, L.length = k ∧ IsTable w tb mb L ∧ qW KQ FQ N w0 w
def qTJ (KQ : List W) (FQ : S8) (N : Nat) (w0 : World) (tb mb k : Nat) (x : Se) (D : List UInt8) (w : World) : Prop := ∃ L : List Sl, L.length = k ∧ k < 8 ∧ IsTable w tb mb (L ++ [toSl x]) ∧ D = hd (k + 1) ∧ qW KQ FQ N w0 w
theorem keeps_table (KQ : List W) (FQ : S8) (aa : Option Addr) (cap : Nat) (ls : List Se) (N : Nat) (w0 : World) (tb mb : Nat) (hN : 1 < N) (hmb : N ≤ mb)
    (hok : ∀ x ∈ ls, x.Ok) (hl : ls.length ≤ 9223372036854775807)
    (hat : 0 < ls.length → ∃ b off, aa = some ⟨b, off, none⟩ ∧ b < N ∧ RowsAt w0 b off 4 Se.cells ls) (w : World) (h0 : qT KQ FQ N w0 tb mb 0 w) :
    Calls Try.prog 32 #[.iface 61 (.pointer (some ⟨tb, 0, none⟩)), .slice aa ls.length cap] w (KeepsP ls.length (qT KQ FQ N w0 tb mb)) := by
  refine keepsTab tb aa cap ls N (qT KQ FQ N w0 tb mb) (qTJ KQ FQ N w0 tb mb) hok hl (fun k w h => by obtain ⟨L, _, _, hw⟩ := h; exact hw.2.2) ?_ ?_ ?_ ?_ ?_ ?_ ?_ w h0
  · intro h
    obtain ⟨b, off, e, hb, hr⟩ := hat h
    refine ⟨b, off, e, fun k w hw q x hx i u hu => ?_⟩
    obtain ⟨L, _, _, hw⟩ := hw
    exact (hw.2.1.cell (p := ⟨b, off + q * 4 + i, none⟩) hb).trans (hr q x hx i u hu)
  · rintro k w w' ⟨L, h1, h2, h3⟩ hb
    exact ⟨L, h1, h2.below (_B := 0) hb, h3.below hb⟩
  · rintro k x D w w' ⟨L, h1, h2, h3, h4, h5⟩ hb
    exact ⟨L, h1, h2, h3.below (_B := 0) hb, h4, h5.below hb⟩
  · rintro k x D w ⟨L, h1, h2, h3, h4, h5⟩
    exact ⟨L ++ [toSl x], by rw [List.length_append, h1]; rfl, h3, h5⟩
  · rintro k x D w w' g ⟨L, h1, h2, h3, h4, h5⟩ hg hz hgr
    obtain ⟨n1, n2⟩ := tab_ne h3 hz
    exact ⟨L, h1, h2, h3.grown hgr n1 n2, h4, h5.grown hN hg hgr⟩
  · rintro k x w hk ok ⟨L, h1, h2, h3⟩
    refine (commit_any (toSl x) w tb mb L h2 (by omega)).mono ?_
    rintro e w' ⟨rfl, ht, hg⟩
    refine ⟨hd (L.length + 1), hd_length _, rfl, ⟨L, h1, hk, ht, by rw [h1], h3.grown hN hmb hg⟩, keep_map h2.map hg⟩
  · rintro k x D w ok ⟨L, h1, h2, h3, rfl, h5⟩ hD
    refine (opens_any (hd (k + 1)) (hd_length _) (toSl x) w tb mb _ h3).mono ?_
    rintro e w' ⟨rfl, hb⟩
    refine ⟨?_, hb⟩
    rw [← h1, opens_last L (toSl x) (by omega)]
def qS (KQ : List W) (FQ : S8) (N : Nat) (w0 : World) (tb mb : Nat) (L : List Sl) (_k : Nat) (w : World) : Prop := IsTable w tb mb L ∧ qW KQ FQ N w0 w
theorem keeps_sum (KQ : List W) (FQ : S8) (aa : Option Addr) (cap : Nat) (ls : List Se) (N : Nat) (w0 : World) (tb mb : Nat) (L : List Sl) (hN : 1 < N)
    (hok : ∀ x ∈ ls, x.Ok) (hl : ls.length ≤ 9223372036854775807)
    (hat : 0 < ls.length → ∃ b off, aa = some ⟨b, off, none⟩ ∧ b < N ∧ RowsAt w0 b off 4 Se.cells ls) (w : World) (h0 : qS KQ FQ N w0 tb mb L 0 w) :
    Calls Try.prog 32 #[.iface 87 (.agg #[]), .slice aa ls.length cap] w (KeepsP ls.length (qS KQ FQ N w0 tb mb L)) := by
  refine keepsSum aa cap ls N (qS KQ FQ N w0 tb mb L) (fun k x D w => qS KQ FQ N w0 tb mb L k w ∧ D = comS KQ FQ x) hok hl (fun k w h => h.2.2.2) ?_ ?_ ?_ ?_ ?_ ?_ ?_ w h0
  · intro h
    obtain ⟨b, off, e, hb, hr⟩ := hat h
    refine ⟨b, off, e, fun k w hw q x hx i u hu => ?_⟩
    exact (hw.2.2.1.cell (p := ⟨b, off + q * 4 + i, none⟩) hb).trans (hr q x hx i u hu)
  · rintro k w w' ⟨h2, h3⟩ hb
    exact ⟨h2.below (_B := 0) hb, h3.below hb⟩
  · rintro k x D w w' ⟨⟨h2, h3⟩, h4⟩ hb
    exact ⟨⟨h2.below (_B := 0) hb, h3.below hb⟩, h4⟩
  · rintro k x D w ⟨h, _⟩
    exact h
  · rintro k x D w w' g ⟨⟨h3, h5⟩, h4⟩ hg hz hgr
    obtain ⟨n1, n2⟩ := tab_ne h3 hz
    exact ⟨⟨h3.grown hgr n1 n2, h5.grown hN hg hgr⟩, h4⟩
  · rintro k x w hk ok ⟨h2, h3⟩
    refine (scommit_any w x ok h3.1).mono ?_
    rintro e w' ⟨rfl, hb⟩
    exact ⟨comS KQ FQ x, comS_length KQ FQ x, rfl, ⟨⟨h2.below (_B := 0) hb, h3.below hb⟩, rfl⟩, keep_below hb⟩
  · rintro k x D w ok ⟨⟨h2, h3⟩, rfl⟩ hD
    refine (sopens_any w (comS KQ FQ x) hD x ok h3.1).mono ?_
    rintro e w' ⟨rfl, hb⟩
    exact ⟨by simp, hb⟩

/-- What the slots of 'd, e := t.Commit(l[0]), t.Commit(l[0])' hold. -/
def q9R (N tb mb b off m cap n : Nat) (x : Se) : Nat → Value → World → Prop
  | 0, u, _ => u = .pointer (some ⟨tb, 0, none⟩)
  | 1, u, _ => u = .slice (some ⟨b, off, none⟩) m cap
  | 2, u, _ => u = .pointer (some ⟨b, off, none⟩)
  | 3, u, _ => u = .agg x.cells.toArray
  | 4, u, _ => u = .agg (dg (hd (n + 1)))
  | 5, u, _ => u = .pointer (some ⟨tb, 0, none⟩)
  | 6, u, _ => u = .slice (some ⟨b, off, none⟩) m cap
  | 7, u, _ => u = .pointer (some ⟨b, off, none⟩)
  | 8, u, _ => u = .agg x.cells.toArray
  | 9, u, _ => u = .agg (dg (hd (n + 2)))
  | _, u, w => ∃ g : Nat, N ≤ g ∧ g ≠ mb ∧ u = .pointer (some ⟨g, 0, none⟩) ∧ w.heap[g]? = some (.cells (dg z32) 68 (0, 0))
theorem q9R_mono {N tb mb b off m cap n : Nat} {x : Se} {j : Nat} {u : Value} {w1 w2 : World} (h : q9R N tb mb b off m cap n x j u w1) (hk : ∀ k, k < w1.heap.size → k ≠ mb → w2.heap[k]? = w1.heap[k]?) : q9R N tb mb b off m cap n x j u w2 := by
  match j, h with
  | 0, h | 1, h | 2, h | 3, h | 4, h | 5, h | 6, h | 7, h | 8, h | 9, h => exact h
  | j + 10, h =>
    obtain ⟨g, h1, h2, h3, h4⟩ := h
    exact ⟨g, h1, h2, h3, (hk g (lt_of_heap h4) h2).trans h4⟩
/-- The world meanwhile. -/
def q9C (KQ : List W) (FQ : S8) (N : Nat) (w0 : World) (tb mb : Nat) (T0 : List Sl) (x : Se) (L : Nat → Bool) (w : World) : Prop :=
  qW KQ FQ N w0 w ∧ ∃ T, IsTable w tb mb T ∧ (L 4 = false → L 9 = false ∧ T = T0) ∧ (L 4 = true → L 9 = false → T = T0 ++ [toSl x]) ∧ (L 9 = true → T = T0 ++ [toSl x] ++ [toSl x])
theorem q9C_same {KQ : List W} {FQ : S8} {N : Nat} {w0 : World} {tb mb : Nat} {T0 : List Sl} {x : Se} {L : Nat → Bool} {w1 w2 : World} (h : q9C KQ FQ N w0 tb mb T0 x L w1) (i : Nat) (h4 : i ≠ 4) (h9 : i ≠ 9) (hb : Below w1.heap.size w1 w2) : q9C KQ FQ N w0 tb mb T0 x (upd L i true) w2 := by
  obtain ⟨hW, T, hT, g1, g2, g3⟩ := h
  refine ⟨hW.below hb, T, hT.below (_B := 0) hb, ?_, ?_, ?_⟩
  all_goals simp only [upd, if_neg (Ne.symm h4), if_neg (Ne.symm h9)]
  · exact g1
  · exact g2
  · exact g3
/-- What the slots of 'f, g := sum.Commit(l[0]), sum.Commit(l[0])' hold. -/
def q10R (M b off m cap : Nat) (x : Se) (D : List UInt8) : Nat → Value → World → Prop
  | 0, u, _ => u = .iface 87 (.agg #[])
  | 1, u, _ => u = .slice (some ⟨b, off, none⟩) m cap
  | 2, u, _ => u = .pointer (some ⟨b, off, none⟩)
  | 3, u, _ => u = .agg x.cells.toArray
  | 4, u, _ => u = .func (.method "Commit") #[.iface 87 (.agg #[])] #[]
  | 5, _, _ => True
  | 6, u, _ => u = .iface 87 (.agg #[])
  | 7, u, _ => u = .agg (dg D)
  | 8, u, _ => u = .iface 87 (.agg #[])
  | 9, u, _ => u = .slice (some ⟨b, off, none⟩) m cap
  | 10, u, _ => u = .pointer (some ⟨b, off, none⟩)
  | 11, u, _ => u = .agg x.cells.toArray
  | 12, u, _ => u = .func (.method "Commit") #[.iface 87 (.agg #[])] #[]
  | 13, _, _ => True
  | 14, u, _ => u = .iface 87 (.agg #[])
  | 15, u, _ => u = .agg (dg D)
  | _, u, w => ∃ g : Nat, M ≤ g ∧ u = .pointer (some ⟨g, 0, none⟩) ∧ w.heap[g]? = some (.cells (dg z32) 68 (0, 0))
theorem q10R_below {N b off m cap : Nat} {x : Se} {D : List UInt8} {j : Nat} {u : Value} {w1 w2 : World} (h : q10R N b off m cap x D j u w1) (hb : Below w1.heap.size w1 w2) : q10R N b off m cap x D j u w2 := by
  match j, h with
  | 0, h | 1, h | 2, h | 3, h | 4, h | 5, h | 6, h | 7, h | 8, h | 9, h | 10, h | 11, h | 12, h | 13, h | 14, h | 15, h => exact h
  | j + 16, h =>
    obtain ⟨g, h1, h3, h4⟩ := h
    exact ⟨g, h1, h3, below_at hb h4 (lt_of_heap h4)⟩
def q10C (KQ : List W) (FQ : S8) (N M : Nat) (w0 : World) (b4 b5 : Nat) (D1 D2 : List UInt8) (_L : Nat → Bool) (w : World) : Prop :=
  qW KQ FQ N w0 w ∧ w.heap[b4]? = some (.cells (dg D1) 68 (0, 0)) ∧ w.heap[b5]? = some (.cells (dg D2) 68 (0, 0)) ∧ M ≤ w.heap.size
theorem q10C.below {KQ : List W} {FQ : S8} {N M : Nat} {w0 : World} {b4 b5 : Nat} {D1 D2 : List UInt8} {L L' : Nat → Bool} {w1 w2 : World} (h : q10C KQ FQ N M w0 b4 b5 D1 D2 L w1) (hb : Below w1.heap.size w1 w2) : q10C KQ FQ N M w0 b4 b5 D1 D2 L' w2 :=
  ⟨h.1.below hb, below_at hb h.2.1 (lt_of_heap h.2.1), below_at hb h.2.2.1 (lt_of_heap h.2.2.1), Nat.le_trans h.2.2.2 hb.size⟩
theorem Glob.belowN {F : S8} {K : List W} {N : Nat} {w w' : World} (h : Glob F K w) (hb : Below N w w') (hN : 1 < N) : Glob F K w' := by
  obtain ⟨h0, h1, h2, h3⟩ := h
  exact ⟨fun j v hv => (hb.cell (p := ⟨0, 0 + j, none⟩) (by show 0 < N; omega)).trans (h0 j v hv), fun j v hv => (hb.cell (p := ⟨1, 0 + j, none⟩) hN).trans (h1 j v hv), h2, Nat.lt_of_lt_of_le h3 hb.size⟩
set_option maxHeartbeats 4000000 in
theorem scheme_any (KQ : List W) (FQ : S8) (aa : Option Addr) (cap : Nat) (ls : List Se) (w : World) (hG : Glob FQ KQ w) (hl : ls.length ≤ 9223372036854775807) (hcap : ls.length ≤ cap)
    (hat : (∀ x ∈ ls, x.Ok) ∧ (0 < ls.length → ∃ b off, aa = some ⟨b, off, none⟩ ∧ b < w.heap.size ∧ RowsAt w b off 4 Se.cells ls)) :
    Calls Try.prog 9 #[.slice aa ls.length cap] w fun e w' => e = .returned (.bool true) ∧ Below w.heap.size w w' := by
  obtain ⟨N, hN⟩ : ∃ N, N = w.heap.size := ⟨_, rfl⟩
  have hN1 : 1 < N := by rw [hN]; exact hG.2.2.2
  rw [← hN] at hat
  have HG := hide hG
  have HAT := hide hat
  have HN := hide hN
  clear hG hat
  go_enter Try.func9, Try.ntmps9
  clear hN
  go_wp2_with fail
  refine (works_any w).mono ?_
  rintro e w2 ⟨rfl, hB2⟩
  go_wp2_with fail
  refine (new_any w2).mono ?_
  rintro e w3 ⟨rfl, ht3, hB3⟩
  rw [← HN.out] at hB2
  have hW3 : qW KQ FQ N w w3 := by
    have h2 : qW KQ FQ N w w2 := ⟨HG.out.below (HN.out ▸ hB2), hB2, by have := hB2.size; rw [← HN.out] at this; exact this⟩
    exact h2.below hB3
  obtain ⟨mb, hmb⟩ : ∃ mb, mb = w2.heap.size := ⟨_, rfl⟩
  obtain ⟨tb, htb⟩ : ∃ tb, tb = w2.heap.size + 1 := ⟨_, rfl⟩
  have hmN : N ≤ mb := by rw [hmb]; have := hB2.size; rw [← HN.out] at this; exact this
  rw [← htb, ← hmb] at ht3
  rw [← htb]
  clear hmb htb hB2 hB3
  go_wp2_with fail
  refine (keeps_table KQ FQ aa cap ls N w tb mb hN1 hmN HAT.out.1 hl HAT.out.2 w3 ⟨[], rfl, ht3, hW3⟩).mono ?_
  rintro e w4 ⟨rfl, k, hk8, hkl, L, hL, ht4, hW4⟩
  clear ht3 hW3
  go_wp2_with fail
  refine (ssum_any _).mono ?_
  rintro e w5 ⟨rfl, rfl⟩
  go_wp2_with fail
  refine (keeps_sum KQ FQ aa cap ls N w tb mb L hN1 HAT.out.1 hl HAT.out.2 w4 ⟨ht4, hW4⟩).mono ?_
  rintro e w5 ⟨rfl, k2, _, _, ht5, hW5⟩
  clear ht4 hW4
  obtain ⟨m, hm⟩ : ∃ m, m = ls.length := ⟨_, rfl⟩
  rw [← hm]
  by_cases h0 : m = 0
  · have hLn : L.length = 0 := by omega
    have h0I : ((m : Int) == 0) = true := by rw [h0]; rfl
    have HW5 := hide hW5
    clear hm h0 hW5
    go_wp2_with fail
    refine (len_any w5 tb mb L ht5).mono ?_
    rintro e w6 ⟨rfl, rfl⟩
    rw [hLn]
    go_wp2
    go_ret
    exact ⟨rfl, by rw [← HN.out]; exact HW5.out.2.1⟩
  · have h0I : ((m : Int) == 0) = false := by simp; omega
    have hmI : (0 : Int) < (m : Int) := by omega
    have hmP : 0 < m := by omega
    obtain ⟨b, off, rfl, hbN, hrow⟩ := HAT.out.2 (by omega)
    obtain ⟨x, hx⟩ : ∃ x, ls[0]? = some x := ⟨_, List.getElem?_eq_getElem (by omega)⟩
    have okx := HAT.out.1 x (List.mem_of_getElem? hx)
    have hrd : ∀ (W' : World), Below N w W' → ∀ i u, x.cells[i]? = some u → W'.cell? ⟨b, off + i, none⟩ = some u := by
      intro W' hW i u hu
      have := (hW.cell (p := ⟨b, off + 0 * 4 + i, none⟩) hbN).trans (hrow 0 x hx i u hu)
      rw [Nat.zero_mul, Nat.add_zero] at this
      exact this
    have HRD := hide hrd
    have hL8 : L.length ≤ 8 := by omega
    clear hrow hx hrd hm
    go_wp2_with fail
    refine (ssum_any _).mono ?_
    rintro e w6 ⟨rfl, rfl⟩
    go_upto_region 9 with (fail)
    refine region_slots 12 [30, 31, 32, 33, 34, 35, 36, 37, 38, 39, 5, 6] (by kernel_rfl) (by kernel_rfl) (by decide) rfl 64 rfl (by decide) (by kernel_rfl)
      (BoxInv 12 (q9C KQ FQ N w tb mb L x) (q9R N tb mb b off m cap L.length x) 10 11) ?_ ?_ ?_
    · exact BoxInv.start ⟨hW5.below ((Below.refl _ _).drew), L, ht5.drew, fun _ => ⟨rfl, rfl⟩, fun h => Bool.noConfusion h, fun h => Bool.noConfusion h⟩
    · intro i hi
      match i, hi with
      | 0, _ =>
        intro S v w1 f o ho hf hI hS hall K Q' hK
        obtain rfl := Option.some.inj ho
        have e3 : f.tmps[3]?.getD undef = .pointer (some ⟨tb, 0, none⟩) := tmp_of (hf 3)
        simp [go_sem, e3]
        exact hK _ _ (hI.step 0 _ (by decide) (by decide) (by decide) (q9C_same hI.1 0 (by decide) (by decide) (Below.refl _ _)) (fun _ _ _ h => h) rfl (fun h => by cases h) (fun h => by cases h))
      | 1, _ =>
        intro S v w1 f o ho hf hI hS hall K Q' hK
        obtain rfl := Option.some.inj ho
        have e0 : f.tmps[0]?.getD undef = .slice (some ⟨b, off, none⟩) m cap := tmp_of (hf 0)
        simp [go_sem, e0]
        exact hK _ _ (hI.step 1 _ (by decide) (by decide) (by decide) (q9C_same hI.1 1 (by decide) (by decide) (Below.refl _ _)) (fun _ _ _ h => h) rfl (fun h => by cases h) (fun h => by cases h))
      | 2, _ =>
        intro S v w1 f o ho hf hI hS hall K Q' hK
        obtain rfl := Option.some.inj ho
        have e31 : f.tmps[31]?.getD undef = .slice (some ⟨b, off, none⟩) m cap := tmp_of ((hf 31).trans (hI.2.1 1 (by decide) (edge_listed hall 1 (by kernel_rfl))))
        simp [go_sem, e31, hmP]
        exact hK _ _ (hI.step 2 _ (by decide) (by decide) (by decide) (q9C_same hI.1 2 (by decide) (by decide) (Below.refl _ _)) (fun _ _ _ h => h) rfl (fun h => by cases h) (fun h => by cases h))
      | 3, _ =>
        intro S v w1 f o ho hf hI hS hall K Q' hK
        obtain rfl := Option.some.inj ho
        have e32 : f.tmps[32]?.getD undef = .pointer (some ⟨b, off, none⟩) := tmp_of ((hf 32).trans (hI.2.1 2 (by decide) (edge_listed hall 2 (by kernel_rfl))))
        have hr := HRD.out w1 hI.1.1.2.1
        have c0 : w1.cell? ⟨b, off, none⟩ = some (.int .i64 x.r) := hr 0 _ rfl
        have c1 : w1.cell? ⟨b, off + 1, none⟩ = some (.int .i64 x.c) := hr 1 _ rfl
        have c2 : w1.cell? ⟨b, off + 2, none⟩ = some (.int .u64 x.b) := hr 2 _ rfl
        have c3 : w1.cell? ⟨b, off + 3, none⟩ = some (.int .u64 x.n) := hr 3 _ rfl
        simp [go_sem, e32, c0, c1, c2, c3]
        exact hK _ _ (hI.step 3 _ (by decide) (by decide) (by decide) (q9C_same hI.1 3 (by decide) (by decide) (Below.refl _ _)) (fun _ _ _ h => h) rfl (fun h => by cases h) (fun h => by cases h))
      | 4, _ =>
        intro S v w1 f o ho hf hI hS hall K Q' hK
        obtain rfl := Option.some.inj ho
        have e30 : f.tmps[30]?.getD undef = .pointer (some ⟨tb, 0, none⟩) := tmp_of ((hf 30).trans (hI.2.1 0 (by decide) (edge_listed hall 0 (by kernel_rfl))))
        have e33 : f.tmps[33]?.getD undef = .agg x.cells.toArray := tmp_of ((hf 33).trans (hI.2.1 3 (by decide) (edge_listed hall 3 (by kernel_rfl))))
        obtain ⟨hW, T, hT, g1, g2, g3⟩ := hI.1
        obtain ⟨h5, rfl⟩ := g1 hS
        simp [go_sem, e30, e33]
        rw [← toSl_cells]
        refine (commit_any (toSl x) w1 _ _ _ hT (by omega)).mono ?_
        rintro e w2 ⟨rfl, ht2, hg2⟩
        refine hK _ _ (hI.step 4 _ (by decide) (by decide) (by decide) ?_ (fun j _ x h => q9R_mono h fun k hk hne => hg2.block k hk (by simpa using hne)) rfl (fun h => by cases h) (fun h => by cases h))
        refine ⟨hW.grown hN1 hmN hg2, _, ht2, ?_, ?_, ?_⟩
        · intro h; simp [upd] at h
        · intro _ _; rfl
        · intro h; simp [upd] at h; rw [h5] at h; cases h
      | 5, _ =>
        intro S v w1 f o ho hf hI hS hall K Q' hK
        obtain rfl := Option.some.inj ho
        have e3 : f.tmps[3]?.getD undef = .pointer (some ⟨tb, 0, none⟩) := tmp_of (hf 3)
        simp [go_sem, e3]
        exact hK _ _ (hI.step 5 _ (by decide) (by decide) (by decide) (q9C_same hI.1 5 (by decide) (by decide) (Below.refl _ _)) (fun _ _ _ h => h) rfl (fun h => by cases h) (fun h => by cases h))
      | 6, _ =>
        intro S v w1 f o ho hf hI hS hall K Q' hK
        obtain rfl := Option.some.inj ho
        have e0 : f.tmps[0]?.getD undef = .slice (some ⟨b, off, none⟩) m cap := tmp_of (hf 0)
        simp [go_sem, e0]
        exact hK _ _ (hI.step 6 _ (by decide) (by decide) (by decide) (q9C_same hI.1 6 (by decide) (by decide) (Below.refl _ _)) (fun _ _ _ h => h) rfl (fun h => by cases h) (fun h => by cases h))
      | 7, _ =>
        intro S v w1 f o ho hf hI hS hall K Q' hK
        obtain rfl := Option.some.inj ho
        have e36 : f.tmps[36]?.getD undef = .slice (some ⟨b, off, none⟩) m cap := tmp_of ((hf 36).trans (hI.2.1 6 (by decide) (edge_listed hall 6 (by kernel_rfl))))
        simp [go_sem, e36, hmP]
        exact hK _ _ (hI.step 7 _ (by decide) (by decide) (by decide) (q9C_same hI.1 7 (by decide) (by decide) (Below.refl _ _)) (fun _ _ _ h => h) rfl (fun h => by cases h) (fun h => by cases h))
      | 8, _ =>
        intro S v w1 f o ho hf hI hS hall K Q' hK
        obtain rfl := Option.some.inj ho
        have e37 : f.tmps[37]?.getD undef = .pointer (some ⟨b, off, none⟩) := tmp_of ((hf 37).trans (hI.2.1 7 (by decide) (edge_listed hall 7 (by kernel_rfl))))
        have hr := HRD.out w1 hI.1.1.2.1
        have c0 : w1.cell? ⟨b, off, none⟩ = some (.int .i64 x.r) := hr 0 _ rfl
        have c1 : w1.cell? ⟨b, off + 1, none⟩ = some (.int .i64 x.c) := hr 1 _ rfl
        have c2 : w1.cell? ⟨b, off + 2, none⟩ = some (.int .u64 x.b) := hr 2 _ rfl
        have c3 : w1.cell? ⟨b, off + 3, none⟩ = some (.int .u64 x.n) := hr 3 _ rfl
        simp [go_sem, e37, c0, c1, c2, c3]
        exact hK _ _ (hI.step 8 _ (by decide) (by decide) (by decide) (q9C_same hI.1 8 (by decide) (by decide) (Below.refl _ _)) (fun _ _ _ h => h) rfl (fun h => by cases h) (fun h => by cases h))
      | 9, _ =>
        intro S v w1 f o ho hf hI hS hall K Q' hK
        obtain rfl := Option.some.inj ho
        have e35 : f.tmps[35]?.getD undef = .pointer (some ⟨tb, 0, none⟩) := tmp_of ((hf 35).trans (hI.2.1 5 (by decide) (edge_listed hall 5 (by kernel_rfl))))
        have e38 : f.tmps[38]?.getD undef = .agg x.cells.toArray := tmp_of ((hf 38).trans (hI.2.1 8 (by decide) (edge_listed hall 8 (by kernel_rfl))))
        obtain ⟨hW, T, hT, g1, g2, g3⟩ := hI.1
        have hL2 : S 4 = true := edge_listed hall 4 (by kernel_rfl)
        obtain rfl := g2 hL2 hS
        simp [go_sem, e35, e38]
        rw [← toSl_cells]
        refine (commit_any (toSl x) w1 _ _ _ hT (by simp; omega)).mono ?_
        rintro e w2 ⟨rfl, ht2, hg2⟩
        rw [show (L ++ [toSl x]).length + 1 = L.length + 2 by simp]
        refine hK _ _ (hI.step 9 _ (by decide) (by decide) (by decide) ?_ (fun j _ x h => q9R_mono h fun k hk hne => hg2.block k hk (by simpa using hne)) rfl (fun h => by cases h) (fun h => by cases h))
        refine ⟨hW.grown hN1 hmN hg2, _, ht2, ?_, ?_, ?_⟩
        · intro h; simp [upd] at h; rw [hL2] at h; cases h
        · intro _ h; simp [upd] at h
        · intro _; rfl
      | 10, _ =>
        intro S v w1 f o ho hf hI hS hall K Q' hK
        obtain rfl := Option.some.inj ho
        obtain ⟨hW, T, hT, g⟩ := hI.1
        have hlt' := lt_of_heap hT.map
        refine wp_allocZ rfl ?_
        intro w2 hg hb
        refine hK _ _ (hI.step 10 _ (by decide) (by decide) (by decide) (q9C_same hI.1 10 (by decide) (by decide) hb) (fun j _ x h => q9R_mono h fun k hk _ => hb.block k hk) ⟨w1.heap.size, hW.2.2, by omega, rfl, hg⟩ ?_ ?_)
        · rintro _ x ⟨g, _, _, rfl, h⟩; exact new_ne (lt_of_heap h)
        · intro h; cases h
      | 11, _ =>
        intro S v w1 f o ho hf hI hS hall K Q' hK
        obtain rfl := Option.some.inj ho
        obtain ⟨hW, T, hT, g⟩ := hI.1
        have hlt' := lt_of_heap hT.map
        refine wp_allocZ rfl ?_
        intro w2 hg hb
        refine hK _ _ (hI.step 11 _ (by decide) (by decide) (by decide) (q9C_same hI.1 11 (by decide) (by decide) hb) (fun j _ x h => q9R_mono h fun k hk _ => hb.block k hk) ⟨w1.heap.size, hW.2.2, by omega, rfl, hg⟩ ?_ ?_)
        · intro h; cases h
        · rintro _ x ⟨g, _, _, rfl, h⟩; exact (new_ne (lt_of_heap h)).symm
      | i + 12, hi => exact absurd hi (by omega)
    · intro S v wh hS hI
      have e0 : v 0 = .pointer (some ⟨tb, 0, none⟩) := hI.2.1 0 (by decide) (hS 0 (by decide))
      have e1 : v 1 = .slice (some ⟨b, off, none⟩) m cap := hI.2.1 1 (by decide) (hS 1 (by decide))
      have e2 : v 2 = .pointer (some ⟨b, off, none⟩) := hI.2.1 2 (by decide) (hS 2 (by decide))
      have e3 : v 3 = .agg x.cells.toArray := hI.2.1 3 (by decide) (hS 3 (by decide))
      have e4 : v 4 = .agg (dg (hd (L.length + 1))) := hI.2.1 4 (by decide) (hS 4 (by decide))
      have e5 : v 5 = .pointer (some ⟨tb, 0, none⟩) := hI.2.1 5 (by decide) (hS 5 (by decide))
      have e6 : v 6 = .slice (some ⟨b, off, none⟩) m cap := hI.2.1 6 (by decide) (hS 6 (by decide))
      have e7 : v 7 = .pointer (some ⟨b, off, none⟩) := hI.2.1 7 (by decide) (hS 7 (by decide))
      have e8 : v 8 = .agg x.cells.toArray := hI.2.1 8 (by decide) (hS 8 (by decide))
      have e9 : v 9 = .agg (dg (hd (L.length + 2))) := hI.2.1 9 (by decide) (hS 9 (by decide))
      obtain ⟨b4, hN4, hm4, e10, hh4⟩ := hI.2.1 10 (by decide) (hS 10 (by decide))
      obtain ⟨b5, hN5, hm5, e11, hh5⟩ := hI.2.1 11 (by decide) (hS 11 (by decide))
      have hne := hI.2.2 (hS 10 (by decide)) (hS 11 (by decide))
      rw [e10, e11] at hne
      have hne' : b4 ≠ b5 := fun h => hne (by rw [h])
      obtain ⟨hWh, T, hT, g1, g2, g3⟩ := hI.1
      obtain rfl := g3 (hS 9 (by decide))
      simp only [putSlots, Act.put, List.setIfInBounds_toArray, List.set_cons_succ, List.set_cons_zero, List.drop_succ_cons, List.drop_zero, e0, e1, e2, e3, e4, e5, e6, e7, e8, e9, e10, e11]
      clear hI hS e0 e1 e2 e3 e4 e5 e6 e7 e8 e9 e10 e11 hne g1 g2 g3
      obtain ⟨D1, hD1⟩ : ∃ D1, D1 = hd (L.length + 1) := ⟨_, rfl⟩
      obtain ⟨D2, hD2⟩ : ∃ D2, D2 = hd (L.length + 2) := ⟨_, rfl⟩
      have hl1 : D1.length = 32 := by rw [hD1]; exact hd_length _
      have hl2 : D2.length = 32 := by rw [hD2]; exact hd_length _
      have hDD : (D1 == D2) = false := by
        rw [beq_eq_false_iff_ne, hD1, hD2]
        intro h
        have := hd_inj (by omega) (by omega) h
        omega
      rw [← hD1, ← hD2]
      have HDD := hide hDD
      clear hD1 hD2 hDD
      refine wpList_store_put rfl rfl _ _ _ rfl b4 (dg D1) (dg z32) _ rfl rfl hh4 (by rw [dg_size, hl1]; exact zsizeDig) (by rw [dg_size, dg_size, hl1]; rfl) (dg_one _) ?_
      intro w7 hd7 hk7 hz7 hb7
      refine wpList_store_put rfl rfl _ _ _ rfl b5 (dg D2) (dg z32) _ rfl rfl ((hk7 b5 (Ne.symm hne')).trans hh5) (by rw [dg_size, hl2]; exact zsizeDig) (by rw [dg_size, dg_size, hl2]; rfl) (dg_one _) ?_
      intro w8 hd8 hk8 hz8 hb8
      have hd7' := (hk8 b4 hne').trans hd7
      have hW8 : qW KQ FQ N w w8 := by
        have hb := hb8 N w hN5 (hb7 N w hN4 hWh.2.1)
        refine ⟨HG.out.belowN (HN.out ▸ hb) (HN.out ▸ hN1), hb, by rw [hz8, hz7]; exact hWh.2.2⟩
      obtain ⟨M, hM⟩ : ∃ M, M = w8.heap.size := ⟨_, rfl⟩
      have hb4M : b4 < M := by rw [hM]; exact lt_of_heap hd7'
      have hb5M : b5 < M := by rw [hM]; exact lt_of_heap hd8
      have hNM : N ≤ M := by rw [hM]; exact hW8.2.2
      have hC8 : q10C KQ FQ N M w b4 b5 D1 D2 (fun _ => false) w8 := ⟨hW8, hd7', hd8, by omega⟩
      clear hM
      clear hd7 hd8 hk7 hk8 hz7 hz8 hb7 hb8 hW8 hd7' hh4 hh5 hT hWh hm4 hm5 ht5
      simp only [Act.put]
      go_upto_region 10 with (fail)
      refine region_slots 18 [40, 41, 42, 43, 44, 45, 46, 47, 48, 49, 50, 51, 52, 53, 54, 55, 7, 8] (by kernel_rfl) (by kernel_rfl) (by decide) rfl 64 rfl (by decide) (by kernel_rfl)
        (BoxInv 18 (q10C KQ FQ N M w b4 b5 D1 D2) (q10R M b off m cap x (comS KQ FQ x)) 16 17) ?_ ?_ ?_
      · exact BoxInv.start (hC8.below ((Below.refl _ _).drew)) 
      · intro i hi
        match i, hi with
        | 0, _ =>
          intro S v w1 f o ho hf hI hS hall K Q' hK
          obtain rfl := Option.some.inj ho
          have e4 : f.tmps[4]?.getD undef = .iface 87 (.agg #[]) := tmp_of (hf 4)
          simp [go_sem, e4]
          exact hK _ _ (hI.step 0 _ (by decide) (by decide) (by decide) (hI.1.below (Below.refl _ _)) (fun _ _ _ h => h) rfl (fun h => by cases h) (fun h => by cases h))
        | 1, _ =>
          intro S v w1 f o ho hf hI hS hall K Q' hK
          obtain rfl := Option.some.inj ho
          have e0 : f.tmps[0]?.getD undef = .slice (some ⟨b, off, none⟩) m cap := tmp_of (hf 0)
          simp [go_sem, e0]
          exact hK _ _ (hI.step 1 _ (by decide) (by decide) (by decide) (hI.1.below (Below.refl _ _)) (fun _ _ _ h => h) rfl (fun h => by cases h) (fun h => by cases h))
        | 2, _ =>
          intro S v w1 f o ho hf hI hS hall K Q' hK
          obtain rfl := Option.some.inj ho
          have e41 : f.tmps[41]?.getD undef = .slice (some ⟨b, off, none⟩) m cap := tmp_of ((hf 41).trans (hI.2.1 1 (by decide) (edge_listed hall 1 (by kernel_rfl))))
          simp [go_sem, e41, hmP]
          exact hK _ _ (hI.step 2 _ (by decide) (by decide) (by decide) (hI.1.below (Below.refl _ _)) (fun _ _ _ h => h) rfl (fun h => by cases h) (fun h => by cases h))
        | 3, _ =>
          intro S v w1 f o ho hf hI hS hall K Q' hK
          obtain rfl := Option.some.inj ho
          have e42 : f.tmps[42]?.getD undef = .pointer (some ⟨b, off, none⟩) := tmp_of ((hf 42).trans (hI.2.1 2 (by decide) (edge_listed hall 2 (by kernel_rfl))))
          have hr := HRD.out w1 hI.1.1.2.1
          have c0 : w1.cell? ⟨b, off, none⟩ = some (.int .i64 x.r) := hr 0 _ rfl
          have c1 : w1.cell? ⟨b, off + 1, none⟩ = some (.int .i64 x.c) := hr 1 _ rfl
          have c2 : w1.cell? ⟨b, off + 2, none⟩ = some (.int .u64 x.b) := hr 2 _ rfl
          have c3 : w1.cell? ⟨b, off + 3, none⟩ = some (.int .u64 x.n) := hr 3 _ rfl
          simp [go_sem, e42, c0, c1, c2, c3]
          exact hK _ _ (hI.step 3 _ (by decide) (by decide) (by decide) (hI.1.below (Below.refl _ _)) (fun _ _ _ h => h) rfl (fun h => by cases h) (fun h => by cases h))
        | 4, _ =>
          intro S v w1 f o ho hf hI hS hall K Q' hK
          obtain rfl := Option.some.inj ho
          have e40 : f.tmps[40]?.getD undef = .iface 87 (.agg #[]) := tmp_of ((hf 40).trans (hI.2.1 0 (by decide) (edge_listed hall 0 (by kernel_rfl))))
          have nm := nilSumC
          simp [go_sem, e40, nm]
          exact hK _ _ (hI.step 4 _ (by decide) (by decide) (by decide) (hI.1.below (Below.refl _ _)) (fun _ _ _ h => h) rfl (fun h => by cases h) (fun h => by cases h))
        | 5, _ =>
          intro S v w1 f o ho hf hI hS hall K Q' hK
          obtain rfl := Option.some.inj ho
          have e44 : f.tmps[44]?.getD undef = .func (.method "Commit") #[.iface 87 (.agg #[])] #[] := tmp_of ((hf 44).trans (hI.2.1 4 (by decide) (edge_listed hall 4 (by kernel_rfl))))
          have nm := nilSumC
          simp [go_sem, e44, nm]
          exact hK _ _ (hI.step 5 _ (by decide) (by decide) (by decide) (hI.1.below (Below.refl _ _)) (fun _ _ _ h => h) trivial (fun h => by cases h) (fun h => by cases h))
        | 6, _ =>
          intro S v w1 f o ho hf hI hS hall K Q' hK
          obtain rfl := Option.some.inj ho
          have e40 : f.tmps[40]?.getD undef = .iface 87 (.agg #[]) := tmp_of ((hf 40).trans (hI.2.1 0 (by decide) (edge_listed hall 0 (by kernel_rfl))))
          simp [go_sem, e40]
          exact hK _ _ (hI.step 6 _ (by decide) (by decide) (by decide) (hI.1.below (Below.refl _ _)) (fun _ _ _ h => h) rfl (fun h => by cases h) (fun h => by cases h))
        | 7, _ =>
          intro S v w1 f o ho hf hI hS hall K Q' hK
          obtain rfl := Option.some.inj ho
          have e46 : f.tmps[46]?.getD undef = .iface 87 (.agg #[]) := tmp_of ((hf 46).trans (hI.2.1 6 (by decide) (edge_listed hall 6 (by kernel_rfl))))
          have e43 : f.tmps[43]?.getD undef = .agg x.cells.toArray := tmp_of ((hf 43).trans (hI.2.1 3 (by decide) (edge_listed hall 3 (by kernel_rfl))))
          have mm := mthSumC
          simp [go_sem, e46, e43, mm]
          refine (scommit_any w1 x okx hI.1.1.1).mono ?_
          rintro e w2 ⟨rfl, hb⟩
          exact hK _ _ (hI.step 7 _ (by decide) (by decide) (by decide) (hI.1.below hb) (fun _ _ _ h => q10R_below h hb) rfl (fun h => by cases h) (fun h => by cases h))
        | 8, _ =>
          intro S v w1 f o ho hf hI hS hall K Q' hK
          obtain rfl := Option.some.inj ho
          have e4 : f.tmps[4]?.getD undef = .iface 87 (.agg #[]) := tmp_of (hf 4)
          simp [go_sem, e4]
          exact hK _ _ (hI.step 8 _ (by decide) (by decide) (by decide) (hI.1.below (Below.refl _ _)) (fun _ _ _ h => h) rfl (fun h => by cases h) (fun h => by cases h))
        | 9, _ =>
          intro S v w1 f o ho hf hI hS hall K Q' hK
          obtain rfl := Option.some.inj ho
          have e0 : f.tmps[0]?.getD undef = .slice (some ⟨b, off, none⟩) m cap := tmp_of (hf 0)
          simp [go_sem, e0]
          exact hK _ _ (hI.step 9 _ (by decide) (by decide) (by decide) (hI.1.below (Below.refl _ _)) (fun _ _ _ h => h) rfl (fun h => by cases h) (fun h => by cases h))
        | 10, _ =>
          intro S v w1 f o ho hf hI hS hall K Q' hK
          obtain rfl := Option.some.inj ho
          have e49 : f.tmps[49]?.getD undef = .slice (some ⟨b, off, none⟩) m cap := tmp_of ((hf 49).trans (hI.2.1 9 (by decide) (edge_listed hall 9 (by kernel_rfl))))
          simp [go_sem, e49, hmP]
          exact hK _ _ (hI.step 10 _ (by decide) (by decide) (by decide) (hI.1.below (Below.refl _ _)) (fun _ _ _ h => h) rfl (fun h => by cases h) (fun h => by cases h))
        | 11, _ =>
          intro S v w1 f o ho hf hI hS hall K Q' hK
          obtain rfl := Option.some.inj ho
          have e50 : f.tmps[50]?.getD undef = .pointer (some ⟨b, off, none⟩) := tmp_of ((hf 50).trans (hI.2.1 10 (by decide) (edge_listed hall 10 (by kernel_rfl))))
          have hr := HRD.out w1 hI.1.1.2.1
          have c0 : w1.cell? ⟨b, off, none⟩ = some (.int .i64 x.r) := hr 0 _ rfl
          have c1 : w1.cell? ⟨b, off + 1, none⟩ = some (.int .i64 x.c) := hr 1 _ rfl
          have c2 : w1.cell? ⟨b, off + 2, none⟩ = some (.int .u64 x.b) := hr 2 _ rfl
          have c3 : w1.cell? ⟨b, off + 3, none⟩ = some (.int .u64 x.n) := hr 3 _ rfl
          simp [go_sem, e50, c0, c1, c2, c3]
          exact hK _ _ (hI.step 11 _ (by decide) (by decide) (by decide) (hI.1.below (Below.refl _ _)) (fun _ _ _ h => h) rfl (fun h => by cases h) (fun h => by cases h))
        | 12, _ =>
          intro S v w1 f o ho hf hI hS hall K Q' hK
          obtain rfl := Option.some.inj ho
          have e48 : f.tmps[48]?.getD undef = .iface 87 (.agg #[]) := tmp_of ((hf 48).trans (hI.2.1 8 (by decide) (edge_listed hall 8 (by kernel_rfl))))
          have nm := nilSumC
          simp [go_sem, e48, nm]
          exact hK _ _ (hI.step 12 _ (by decide) (by decide) (by decide) (hI.1.below (Below.refl _ _)) (fun _ _ _ h => h) rfl (fun h => by cases h) (fun h => by cases h))
        | 13, _ =>
          intro S v w1 f o ho hf hI hS hall K Q' hK
          obtain rfl := Option.some.inj ho
          have e52 : f.tmps[52]?.getD undef = .func (.method "Commit") #[.iface 87 (.agg #[])] #[] := tmp_of ((hf 52).trans (hI.2.1 12 (by decide) (edge_listed hall 12 (by kernel_rfl))))
          have nm := nilSumC
          simp [go_sem, e52, nm]
          exact hK _ _ (hI.step 13 _ (by decide) (by decide) (by decide) (hI.1.below (Below.refl _ _)) (fun _ _ _ h => h) trivial (fun h => by cases h) (fun h => by cases h))
        | 14, _ =>
          intro S v w1 f o ho hf hI hS hall K Q' hK
          obtain rfl := Option.some.inj ho
          have e48 : f.tmps[48]?.getD undef = .iface 87 (.agg #[]) := tmp_of ((hf 48).trans (hI.2.1 8 (by decide) (edge_listed hall 8 (by kernel_rfl))))
          simp [go_sem, e48]
          exact hK _ _ (hI.step 14 _ (by decide) (by decide) (by decide) (hI.1.below (Below.refl _ _)) (fun _ _ _ h => h) rfl (fun h => by cases h) (fun h => by cases h))
        | 15, _ =>
          intro S v w1 f o ho hf hI hS hall K Q' hK
          obtain rfl := Option.some.inj ho
          have e54 : f.tmps[54]?.getD undef = .iface 87 (.agg #[]) := tmp_of ((hf 54).trans (hI.2.1 14 (by decide) (edge_listed hall 14 (by kernel_rfl))))
          have e51 : f.tmps[51]?.getD undef = .agg x.cells.toArray := tmp_of ((hf 51).trans (hI.2.1 11 (by decide) (edge_listed hall 11 (by kernel_rfl))))
          have mm := mthSumC
          simp [go_sem, e54, e51, mm]
          refine (scommit_any w1 x okx hI.1.1.1).mono ?_
          rintro e w2 ⟨rfl, hb⟩
          exact hK _ _ (hI.step 15 _ (by decide) (by decide) (by decide) (hI.1.below hb) (fun _ _ _ h => q10R_below h hb) rfl (fun h => by cases h) (fun h => by cases h))
        | 16, _ =>
          intro S v w1 f o ho hf hI hS hall K Q' hK
          obtain rfl := Option.some.inj ho
          refine wp_allocZ rfl ?_
          intro w2 hg hb
          refine hK _ _ (hI.step 16 _ (by decide) (by decide) (by decide) (hI.1.below hb) (fun j _ x h => q10R_below h hb) ⟨w1.heap.size, hI.1.2.2.2, rfl, hg⟩ ?_ ?_)
          · rintro _ x ⟨g, _, rfl, h⟩; exact new_ne (lt_of_heap h)
          · intro h; cases h
        | 17, _ =>
          intro S v w1 f o ho hf hI hS hall K Q' hK
          obtain rfl := Option.some.inj ho
          refine wp_allocZ rfl ?_
          intro w2 hg hb
          refine hK _ _ (hI.step 17 _ (by decide) (by decide) (by decide) (hI.1.below hb) (fun j _ x h => q10R_below h hb) ⟨w1.heap.size, hI.1.2.2.2, rfl, hg⟩ ?_ ?_)
          · intro h; cases h
          · rintro _ x ⟨g, _, rfl, h⟩; exact (new_ne (lt_of_heap h)).symm
        | i + 18, hi => exact absurd hi (by omega)
      · intro S v wh hS hI
        have e0 : v 0 = .iface 87 (.agg #[]) := hI.2.1 0 (by decide) (hS 0 (by decide))
        have e1 : v 1 = .slice (some ⟨b, off, none⟩) m cap := hI.2.1 1 (by decide) (hS 1 (by decide))
        have e2 : v 2 = .pointer (some ⟨b, off, none⟩) := hI.2.1 2 (by decide) (hS 2 (by decide))
        have e3 : v 3 = .agg x.cells.toArray := hI.2.1 3 (by decide) (hS 3 (by decide))
        have e4 : v 4 = .func (.method "Commit") #[.iface 87 (.agg #[])] #[] := hI.2.1 4 (by decide) (hS 4 (by decide))
        obtain ⟨v5, e5⟩ : ∃ v5, v 5 = v5 := ⟨_, rfl⟩
        have e6 : v 6 = .iface 87 (.agg #[]) := hI.2.1 6 (by decide) (hS 6 (by decide))
        have e7 : v 7 = .agg (dg (comS KQ FQ x)) := hI.2.1 7 (by decide) (hS 7 (by decide))
        have e8 : v 8 = .iface 87 (.agg #[]) := hI.2.1 8 (by decide) (hS 8 (by decide))
        have e9 : v 9 = .slice (some ⟨b, off, none⟩) m cap := hI.2.1 9 (by decide) (hS 9 (by decide))
        have e10 : v 10 = .pointer (some ⟨b, off, none⟩) := hI.2.1 10 (by decide) (hS 10 (by decide))
        have e11 : v 11 = .agg x.cells.toArray := hI.2.1 11 (by decide) (hS 11 (by decide))
        have e12 : v 12 = .func (.method "Commit") #[.iface 87 (.agg #[])] #[] := hI.2.1 12 (by decide) (hS 12 (by decide))
        obtain ⟨v13, e13⟩ : ∃ v13, v 13 = v13 := ⟨_, rfl⟩
        have e14 : v 14 = .iface 87 (.agg #[]) := hI.2.1 14 (by decide) (hS 14 (by decide))
        have e15 : v 15 = .agg (dg (comS KQ FQ x)) := hI.2.1 15 (by decide) (hS 15 (by decide))
        obtain ⟨b7, hN7, e16, hh7⟩ := hI.2.1 16 (by decide) (hS 16 (by decide))
        obtain ⟨b8, hN8, e17, hh8⟩ := hI.2.1 17 (by decide) (hS 17 (by decide))
        have hne := hI.2.2 (hS 16 (by decide)) (hS 17 (by decide))
        rw [e16, e17] at hne
        have hne2 : b7 ≠ b8 := fun h => hne (by rw [h])
        obtain ⟨hWh, hb4, hb5, _⟩ := hI.1
        simp only [putSlots, Act.put, List.setIfInBounds_toArray, List.set_cons_succ, List.set_cons_zero, List.drop_succ_cons, List.drop_zero, e0, e1, e2, e3, e4, e5, e6, e7, e8, e9, e10, e11, e12, e13, e14, e15, e16, e17]
        clear hI hS e0 e1 e2 e3 e4 e5 e6 e7 e8 e9 e10 e11 e12 e13 e14 e15 e16 e17 hne hC8
        have hl3 := comS_length KQ FQ x
        generalize comS KQ FQ x = D at hl3 ⊢
        refine wpList_store_put rfl rfl _ _ _ rfl b7 (dg D) (dg z32) _ rfl rfl hh7 (by rw [dg_size, hl3]; exact zsizeDig) (by rw [dg_size, dg_size, hl3]; rfl) (dg_one _) ?_
        intro w9 hd9 hk9 hz9 hb9
        refine wpList_store_put rfl rfl _ _ _ rfl b8 (dg D) (dg z32) _ rfl rfl ((hk9 b8 (Ne.symm hne2)).trans hh8) (by rw [dg_size, hl3]; exact zsizeDig) (by rw [dg_size, dg_size, hl3]; rfl) (dg_one _) ?_
        intro w10 hd10 hk10 hz10 hb10
        have o7 : objAt w10 b7 = some (.cells (dg D) 68 (0, 0)) := (hk10 b7 hne2).trans hd9
        have o8 : objAt w10 b8 = some (.cells (dg D) 68 (0, 0)) := hd10
        have o4 : objAt w10 b4 = some (.cells (dg D1) 68 (0, 0)) := (hk10 b4 (by omega)).trans ((hk9 b4 (by omega)).trans hb4)
        have o5 : objAt w10 b5 = some (.cells (dg D2) 68 (0, 0)) := (hk10 b5 (by omega)).trans ((hk9 b5 (by omega)).trans hb5)
        have hB10 : Below N w w10 := hb10 N w (by omega) (hb9 N w (by omega) hWh.2.1)
        have z1 : (dg D1).size = 32 := by rw [dg_size, hl1]
        have z2 : (dg D2).size = 32 := by rw [dg_size, hl2]
        have z3 : (dg D).size = 32 := by rw [dg_size, hl3]
        have hdd := HDD.out
        have HB := hide hB10
        clear hd9 hk9 hz9 hb9 hd10 hk10 hz10 hb10 hh7 hh8 hWh hb4 hb5 hB10 hW5
        simp only [Act.put]
        go_wp2
        go_ret
        exact ⟨by simp, by rw [← HN.out]; exact HB.out⟩
end Go.Proofs.Ytpkgmoiffegbfaa
