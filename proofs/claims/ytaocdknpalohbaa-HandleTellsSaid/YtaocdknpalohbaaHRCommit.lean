/- What the document's table does with a commitment: the walk. No condition. -/
import Derived.Test.YtaocdknpalohbaaHRApp
import Derived.Test.YtaocdknpalohbaaRefd
namespace Go.Proofs.Ytaocdknpalohbaa
open Go.RowKit Go.BigFrame
set_option maxRecDepth 20000

/-- What the slots of 't.Kept = append(t.Kept, x)' hold. -/
def rcR (N rb base : Nat) (u0 : Value) (x : Sl) (T : List Sl) : Nat → Value → World → Prop
  | 0, u, _ => u = .pointer (some ⟨rb, 0, none⟩)
  | 1, u, _ => u = .pointer (some ⟨rb, 0, none⟩)
  | 2, u, _ => u = .pointer (some ⟨rb, 0, none⟩)
  | 3, u, _ => u = .pointer (some ⟨rb, 0, none⟩)
  | 4, u, _ => u = u0
  | 5, u, _ => u = .agg x.cells
  | 6, u, w => ∃ kb : Nat, u = .slice (some ⟨kb, 0, none⟩) 1 1 ∧ N ≤ kb ∧ w.heap[kb]? = some (.cells x.cells 31 (0, 0))
  | 7, u, w => w.ownsRow base 31 4 u (T.length + 1) (sealCells (T ++ [x]))
  | _, u, _ => u = .pointer (some ⟨rb, 0, none⟩)
/-- The world meanwhile. -/
def rcC (N : Nat) (w0 : World) (xb db rb base : Nat) (u0 : Value) (x : Sl) (T : List Sl) (L : Nat → Bool) (w : World) : Prop :=
  w.heap[xb]? = some (.cells x.cells 31 (0, 0)) ∧ w.heap[db]? = some (.cells (dg z32) 35 (0, 0)) ∧ w.heap[rb]? = some (.cells #[u0] 28 (0, 0)) ∧ Below rb w0 w ∧
    (∀ k, k < N → k ≠ rb → some k ≠ u0.ownBlock → w.heap[k]? = w0.heap[k]?) ∧ N ≤ w.heap.size ∧ (L 7 = false → w.ownsRow base 31 4 u0 T.length (sealCells T))
theorem own_keepR {w w' : World} {base : Nat} {e : TypeId} {size : Nat} {v : Value} {n : Nat} {xs : List Value} (h : w.ownsRow base e size v n xs) (hb : Below w.heap.size w w') : w'.ownsRow base e size v n xs := by
  refine ⟨h.1, ?_⟩
  rcases h.2 with hn | ⟨g, cap, cur, hv, hbb, hg, rest⟩
  · exact .inl hn
  · exact .inr ⟨g, cap, cur, hv, hbb, below_at hb hg (lt_of_heap hg), rest⟩
theorem own_grownR {w w' : World} {base : Nat} {e e' : TypeId} {size d : Nat} {v : Value} {n : Nat} {xs : List Value} {C : Array Value} {fz : Nat × Nat} (h : w.ownsRow base e size v n xs) (hg : w.grownBy w' (some d)) (hd : w.heap[d]? = some (.cells C e' fz)) (hne : e' ≠ e) : w'.ownsRow base e size v n xs := by
  refine ⟨h.1, ?_⟩
  rcases h.2 with hn | ⟨g, cap, cur, hv, hbb, hgg, rest⟩
  · exact .inl hn
  · refine .inr ⟨g, cap, cur, hv, hbb, (hg.block g (lt_of_heap hgg) fun e => ?_).trans hgg, rest⟩
    cases e
    rw [hgg] at hd
    cases hd
    exact hne rfl
theorem rcR_mono {N rb base : Nat} {u0 : Value} {x : Sl} {T : List Sl} {j : Nat} {u : Value} {w1 w2 : World} (h : rcR N rb base u0 x T j u w1) (hb : Below w1.heap.size w1 w2) : rcR N rb base u0 x T j u w2 := by
  match j, h with
  | 0, h | 1, h | 2, h | 3, h | 4, h | 5, h => exact h
  | 6, ⟨kb, h1, h2, h3⟩ => exact ⟨kb, h1, h2, below_at hb h3 (lt_of_heap h3)⟩
  | 7, h => exact own_keepR h hb
  | j + 8, h => exact h
theorem own_keep_drew {w : World} {base : Nat} {e : TypeId} {size : Nat} {v : Value} {n : Nat} {xs : List Value} (h : w.ownsRow base e size v n xs) : w.drew.ownsRow base e size v n xs := h
theorem rcC_keep {N : Nat} {w0 : World} {xb db rb base : Nat} {u0 : Value} {x : Sl} {T : List Sl} {L : Nat → Bool} {w1 w2 : World} (h : rcC N w0 xb db rb base u0 x T L w1) (hb : Below w1.heap.size w1 w2) (i : Nat) (hi : i ≠ 7) : rcC N w0 xb db rb base u0 x T (upd L i true) w2 := by
  obtain ⟨h1, h2, h3, h4, h5, h6, h7⟩ := h
  refine ⟨below_at hb h1 (lt_of_heap h1), below_at hb h2 (lt_of_heap h2), below_at hb h3 (lt_of_heap h3), h4.trans (hb.mono (Nat.le_of_lt (lt_of_heap h3))), fun k a b c => (hb.block k (by omega)).trans (h5 k a b c), Nat.le_trans h6 hb.size, ?_⟩
  rw [show upd L i true 7 = L 7 from if_neg (Ne.symm hi)]
  exact fun h => own_keepR (h7 h) hb
theorem rc_step {N : Nat} {w0 : World} {xb db rb base : Nat} {u0 : Value} {x : Sl} {T : List Sl} {L : Nat → Bool} {v : Nat → Value} {w1 w2 : World} (h : rcC N w0 xb db rb base u0 x T L w1 ∧ ∀ j, j < 10 → L j = true → rcR N rb base u0 x T j (v j) w1) (i : Nat) (u : Value)
    (hC : rcC N w0 xb db rb base u0 x T (upd L i true) w2) (hk : ∀ j, j < 10 → j ≠ i → L j = true → ∀ x', rcR N rb base u0 x T j x' w1 → rcR N rb base u0 x T j x' w2) (hR : rcR N rb base u0 x T i u w2) :
    rcC N w0 xb db rb base u0 x T (upd L i true) w2 ∧ ∀ j, j < 10 → upd L i true j = true → rcR N rb base u0 x T j (upd v i u j) w2 := by
  refine ⟨hC, fun j hj hl => ?_⟩
  by_cases hji : j = i
  · subst hji; rw [show upd v j u j = u from if_pos rfl]; exact hR
  · rw [show upd v i u j = v j from if_neg hji]
    rw [show upd L i true j = L j from if_neg hji] at hl
    exact hk j hj hji hl _ (h.2 j hj hl)

set_option maxHeartbeats 4000000 in
theorem rcommit_any (x : Sl) (w : World) (rb base : Nat) (v : Value) (T : List Sl) (hT : T.length < 1000) (ht : IsRTab w rb base v T) (hbase : base ≤ w.heap.size) (hrb : rb < base) :
    Calls Try.prog 12 #[.pointer (some ⟨rb, 0, none⟩), .agg x.cells] w fun e w' =>
      e = .returned (.agg (dg (hd (T.length + 1)))) ∧ (∃ v', IsRTab w' rb base v' (T ++ [x])) ∧ Below rb w w' ∧ ∀ k, k < w.heap.size → k ≠ rb → some k ≠ v.ownBlock → w'.heap[k]? = w.heap[k]? := by
  go_enter Try.func12, Try.ntmps12
  go_wp2_with ((with_reducible show wpList _ _ _ (⟨some 4, Op.alloc _, _, _, _, _⟩ :: _) _ _); refine law_allocK rfl 35 rfl (dg z32) zeroDig ?_; intro w2 hg2 hw2 hs2; refine Hid.out ?_)
  refine hide ?_
  go_upto_region 1 with (fail)
  obtain ⟨u0, hu0⟩ : ∃ u0, u0 = v := ⟨_, rfl⟩
  obtain ⟨xb, hxb⟩ : ∃ xb, xb = w.heap.size := ⟨_, rfl⟩
  obtain ⟨db, hdb⟩ : ∃ db, db = w.heap.size + 1 := ⟨_, rfl⟩
  obtain ⟨N, hNN⟩ : ∃ N, N = w.heap.size := ⟨_, rfl⟩
  have hba : Below w.heap.size w (w.alloc (.cells x.cells 31)) := (Below.refl _ _).alloc (Nat.le_refl _) _
  have hz1 := World.size_alloc w (.cells x.cells 31)
  have hB2 : Below w.heap.size w w2 := below_grown hba hw2 (by omega) (by intro k e; cases e)
  have hx2 := (hw2.block w.heap.size (by omega) (by simp)).trans (new_at w (.cells x.cells 31))
  rw [hz1] at hg2 hs2
  have hr2 := below_at hB2 ht.1 (lt_of_heap ht.1)
  have hC : rcC N w xb db rb base u0 x T (fun _ => false) w2.drew := by
    rw [hu0, hxb, hdb, hNN]
    exact ⟨hx2, hg2, hr2, (hB2.mono (Nat.le_of_lt (lt_of_heap ht.1))).drew, fun k h1 _ _ => hB2.block k h1, hB2.size, fun _ => own_keep_drew (own_keepR ht.2 hB2)⟩
  have hol : ∀ k, u0.ownBlock = some k → base ≤ k ∧ k < N := by rw [hu0, hNN]; exact ht.2.lt
  have hxN : N ≤ xb := by omega
  have hdN : N ≤ db := by omega
  have hbN : base ≤ N := by omega
  rw [← hdb, ← hxb]
  have HE := hide (And.intro hu0 hNN)
  clear hu0 hxb hdb hNN
  refine region_slots 10 [5, 6, 7, 8, 9, 10, 11, 12, 13, 14] (by kernel_rfl) (by kernel_rfl) (by decide) rfl 22 rfl (by decide) (by kernel_rfl)
    (fun L v w1 => rcC N w xb db rb base u0 x T L w1 ∧ ∀ j, j < 10 → L j = true → rcR N rb base u0 x T j (v j) w1) ?_ ?_ ?_
  · intro v'
    exact ⟨hC, fun j _ h => by cases h⟩
  · intro i hi
    match i, hi with
    | 0, _ =>
      intro L v w1 f o ho hf hI hL hall K Q' hK
      obtain rfl := Option.some.inj ho
      have e0 : f.tmps[0]?.getD undef = .pointer (some ⟨rb, 0, none⟩) := tmp_of (hf 0)
      simp [go_sem, e0]
      exact hK _ _ (rc_step hI 0 _ (rcC_keep hI.1 (Below.refl _ _) 0 (by decide)) (fun _ _ _ _ _ h => h) rfl)
    | 1, _ =>
      intro L v w1 f o ho hf hI hL hall K Q' hK
      obtain rfl := Option.some.inj ho
      have e0 : f.tmps[0]?.getD undef = .pointer (some ⟨rb, 0, none⟩) := tmp_of (hf 0)
      simp [go_sem, e0]
      exact hK _ _ (rc_step hI 1 _ (rcC_keep hI.1 (Below.refl _ _) 1 (by decide)) (fun _ _ _ _ _ h => h) rfl)
    | 2, _ =>
      intro L v w1 f o ho hf hI hL hall K Q' hK
      obtain rfl := Option.some.inj ho
      have e6 : f.tmps[6]?.getD undef = .pointer (some ⟨rb, 0, none⟩) := tmp_of ((hf 6).trans (hI.2 1 (by decide) (edge_listed hall 1 (by kernel_rfl))))
      simp [go_sem, e6]
      exact hK _ _ (rc_step hI 2 _ (rcC_keep hI.1 (Below.refl _ _) 2 (by decide)) (fun _ _ _ _ _ h => h) rfl)
    | 3, _ =>
      intro L v w1 f o ho hf hI hL hall K Q' hK
      obtain rfl := Option.some.inj ho
      have e7 : f.tmps[7]?.getD undef = .pointer (some ⟨rb, 0, none⟩) := tmp_of ((hf 7).trans (hI.2 2 (by decide) (edge_listed hall 2 (by kernel_rfl))))
      simp [go_sem, e7]
      exact hK _ _ (rc_step hI 3 _ (rcC_keep hI.1 (Below.refl _ _) 3 (by decide)) (fun _ _ _ _ _ h => h) rfl)
    | 4, _ =>
      intro L v w1 f o ho hf hI hL hall K Q' hK
      obtain rfl := Option.some.inj ho
      have e8 : f.tmps[8]?.getD undef = .pointer (some ⟨rb, 0, none⟩) := tmp_of ((hf 8).trans (hI.2 3 (by decide) (edge_listed hall 3 (by kernel_rfl))))
      have c0 := cell_of (i := 0) hI.1.2.2.1 rfl
      simp [go_sem, e8, c0]
      exact hK _ _ (rc_step hI 4 _ (rcC_keep hI.1 (Below.refl _ _) 4 (by decide)) (fun _ _ _ _ _ h => h) rfl)
    | 5, _ =>
      intro L v w1 f o ho hf hI hL hall K Q' hK
      obtain rfl := Option.some.inj ho
      have e3 : f.tmps[3]?.getD undef = .pointer (some ⟨xb, 0, none⟩) := tmp_of (hf 3)
      have c0 := cell_of (i := 0) hI.1.1 rfl
      have c1 := cell_of (i := 1) hI.1.1 rfl
      have c2 := cell_of (i := 2) hI.1.1 rfl
      have c3 := cell_of (i := 3) hI.1.1 rfl
      simp [go_sem, e3, c0, c1, c2, c3]
      exact hK _ _ (rc_step hI 5 _ (rcC_keep hI.1 (Below.refl _ _) 5 (by decide)) (fun _ _ _ _ _ h => h) rfl)
    | 6, _ =>
      intro L v w1 f o ho hf hI hL hall K Q' hK
      obtain rfl := Option.some.inj ho
      have ev : f.eval (.tmp 10) = .agg x.cells := (hf 10).trans (hI.2 5 (by decide) (edge_listed hall 5 (by kernel_rfl)))
      have hbn : Below w1.heap.size w1 (w1.alloc (.cells x.cells 31)) := (Below.refl _ _).alloc (Nat.le_refl _) _
      unfold Oper.wp
      rw [exec_buildS _ _ _ _ _ _ _ x _ ev]
      refine hK _ _ (rc_step hI 6 _ (rcC_keep hI.1 hbn 6 (by decide)) (fun j _ _ _ u h => rcR_mono h hbn) ⟨w1.heap.size, rfl, hI.1.2.2.2.2.2.1, new_at w1 _⟩)
    | 7, _ =>
      intro L v w1 f o ho hf hI hL hall K Q' hK
      obtain rfl := Option.some.inj ho
      have ev1 : f.eval (.tmp 9) = u0 := (hf 9).trans (hI.2 4 (by decide) (edge_listed hall 4 (by kernel_rfl)))
      obtain ⟨kb, hv6, hkN, hkb⟩ := hI.2 6 (by decide) (edge_listed hall 6 (by kernel_rfl))
      have ev2 : f.eval (.tmp 11) = .slice (some ⟨kb, 0, none⟩) 1 1 := (hf 11).trans hv6
      obtain ⟨hx, hdb, hr, hB, hG, hN, hown⟩ := hI.1
      obtain ⟨v7, w7, hrun, hown7, hg⟩ := run_appS w1 26 base (by omega) u0 T x kb (hown hL) hT hkb
      have hne : ∀ k, N ≤ k → some k ≠ u0.ownBlock := fun k hk e => by have := (hol k e.symm).2; omega
      have hner : some rb ≠ u0.ownBlock := fun e => by have := (hol rb e.symm).1; omega
      unfold Oper.wp
      rw [exec_appS _ _ _ _ _ _ _ _ _ _ _ _ _ ev1 ev2 hrun]
      refine hK _ _ (rc_step hI 7 _ ⟨(hg.block _ (lt_of_heap hx) (hne _ hxN)).trans hx, (hg.block _ (lt_of_heap hdb) (hne _ hdN)).trans hdb, (hg.block _ (lt_of_heap hr) hner).trans hr, below_grown hB hg (Nat.le_of_lt (lt_of_heap hr)) (by intro k e; have := (hol k e).1; omega), fun k h1 h2 h3 => (hg.block k (by omega) h3).trans (hG k h1 h2 h3), Nat.le_trans hN hg.size, fun h => ?_⟩ (fun j _ hji _ u h => ?_) hown7)
      · rw [show upd L 7 true 7 = true from if_pos rfl] at h; cases h
      · match j, h with
        | 0, h | 1, h | 2, h | 3, h | 4, h | 5, h => exact h
        | 6, ⟨kb, h1, h2, h3⟩ => exact ⟨kb, h1, h2, (hg.block kb (lt_of_heap h3) (hne kb h2)).trans h3⟩
        | 7, h => exact absurd rfl hji
        | j + 8, h => exact h
    | 8, _ =>
      intro L v w1 f o ho hf hI hL hall K Q' hK
      obtain rfl := Option.some.inj ho
      have e5 : f.tmps[5]?.getD undef = .pointer (some ⟨rb, 0, none⟩) := tmp_of ((hf 5).trans (hI.2 0 (by decide) (edge_listed hall 0 (by kernel_rfl))))
      simp [go_sem, e5]
      exact hK _ _ (rc_step hI 8 _ (rcC_keep hI.1 (Below.refl _ _) 8 (by decide)) (fun _ _ _ _ _ h => h) rfl)
    | 9, _ =>
      intro L v w1 f o ho hf hI hL hall K Q' hK
      obtain rfl := Option.some.inj ho
      have e13 : f.tmps[13]?.getD undef = .pointer (some ⟨rb, 0, none⟩) := tmp_of ((hf 13).trans (hI.2 8 (by decide) (edge_listed hall 8 (by kernel_rfl))))
      simp [go_sem, e13]
      exact hK _ _ (rc_step hI 9 _ (rcC_keep hI.1 (Below.refl _ _) 9 (by decide)) (fun _ _ _ _ _ h => h) rfl)
    | i + 10, hi => exact absurd hi (by omega)
  · intro L v9 wh hL hI
    have e0 : v9 0 = .pointer (some ⟨rb, 0, none⟩) := hI.2 0 (by decide) (hL 0 (by decide))
    have e1 : v9 1 = .pointer (some ⟨rb, 0, none⟩) := hI.2 1 (by decide) (hL 1 (by decide))
    have e2 : v9 2 = .pointer (some ⟨rb, 0, none⟩) := hI.2 2 (by decide) (hL 2 (by decide))
    have e3 : v9 3 = .pointer (some ⟨rb, 0, none⟩) := hI.2 3 (by decide) (hL 3 (by decide))
    have e4 : v9 4 = u0 := hI.2 4 (by decide) (hL 4 (by decide))
    have e5 : v9 5 = .agg x.cells := hI.2 5 (by decide) (hL 5 (by decide))
    have e8 : v9 8 = .pointer (some ⟨rb, 0, none⟩) := hI.2 8 (by decide) (hL 8 (by decide))
    have e9 : v9 9 = .pointer (some ⟨rb, 0, none⟩) := hI.2 9 (by decide) (hL 9 (by decide))
    have hown7 : wh.ownsRow base 31 4 (v9 7) (T.length + 1) (sealCells (T ++ [x])) := hI.2 7 (by decide) (hL 7 (by decide))
    obtain ⟨hx, hdb5, hr, hB, hG, hNw, _⟩ := hI.1
    clear hI hL
    obtain ⟨v7, e7⟩ : ∃ v7, v9 7 = v7 := ⟨_, rfl⟩
    obtain ⟨v6, e6⟩ : ∃ v6, v9 6 = v6 := ⟨_, rfl⟩
    rw [e7] at hown7
    simp only [putSlots, Act.put, List.setIfInBounds_toArray, List.set_cons_succ, List.set_cons_zero, List.drop_succ_cons, List.drop_zero, e0, e1, e2, e3, e4, e5, e6, e7, e8, e9]
    clear e0 e1 e2 e3 e4 e5 e6 e7 e8 e9
    have hone : v7.oneCell' = true := by rcases hown7.2 with ⟨rfl, _⟩ | ⟨g, cap, cur, rfl, _⟩ <;> rfl
    refine wpList_store_oneTo rfl 26 _ _ rfl rfl rb v7 rfl rfl hone 28 u0 hr (by kernel_rfl) ?_
    have hr6 := setRow_heap wh rb #[u0] #[v7] 28 (0, 0) hr
    have hso : ∀ k, k ≠ rb → (wh.setRow rb #[v7]).heap[k]? = wh.heap[k]? := fun k hk => setRow_other wh rb k #[v7] hk
    have hsz : (wh.setRow rb #[v7]).heap.size = wh.heap.size := by simp [World.setRow]
    have hB6 : Below rb w (wh.setRow rb #[v7]) := ⟨hB.os, hB.tape, hB.output, by rw [hsz]; exact hB.size, fun k hk => (hso k (by omega)).trans (hB.block k hk)⟩
    generalize wh.setRow rb #[v7] = w6 at *
    have hdb6 := (hso db (by omega)).trans hdb5
    have hown6 : w6.ownsRow base 31 4 v7 (T.length + 1) (sealCells (T ++ [x])) := by
      refine ⟨hown7.1, ?_⟩
      rcases hown7.2 with hn | ⟨g, cap, cur, hv, hbb, hg, rest⟩
      · exact .inl hn
      · exact .inr ⟨g, cap, cur, hv, hbb, (hso g (by omega)).trans hg, rest⟩
    have hG6 : ∀ k, k < N → k ≠ rb → some k ≠ u0.ownBlock → w6.heap[k]? = w.heap[k]? := fun k h1 h2 h3 => (hso k h2).trans (hG k h1 h2 h3)
    have hs6 : N ≤ w6.heap.size := by omega
    obtain ⟨a, c, rfl⟩ : ∃ a c, v7 = .slice a (T.length + 1) c := by
      rcases hown6.2 with ⟨_, h⟩ | ⟨g, cap, cur, h, _⟩
      · exact absurd h (by omega)
      · exact ⟨_, _, h⟩
    have hrc := cell_of (i := 0) hr6 rfl
    clear hso hsz hown7 hx hdb5 hr hB hG hNw hone
    go_wp2_with fail
    refine (rdigest_any ((T.length : Int) + 1) _ (by omega) (by omega)).mono ?_
    rintro e w7 ⟨rfl, hb7⟩
    rw [show ((T.length : Int) + 1).toNat = T.length + 1 by omega]
    have hz7 := hb7.size
    have hdb7 := below_at hb7 hdb6 (lt_of_heap hdb6)
    have hr7 := below_at hb7 hr6 (lt_of_heap hr6)
    have hown7 := own_keepR hown6 hb7
    have hB7 : Below rb w w7 := hB6.trans (hb7.mono (Nat.le_of_lt (lt_of_heap hr6)))
    have hG7 : ∀ k, k < N → k ≠ rb → some k ≠ u0.ownBlock → w7.heap[k]? = w.heap[k]? := fun k h1 h2 h3 => (hb7.block k (by omega)).trans (hG6 k h1 h2 h3)
    have hdlt := lt_of_heap hdb7
    clear hb7 hdb6 hr6 hown6 hB6 hG6 hrc
    go_wp2_with ((with_reducible show wpList _ _ _ (⟨none, Op.store _ _ _, _, _, _, _⟩ :: _) _ _); refine Hid.out ?_)
    refine hide ?_
    refine law_store rfl _ _ _ rfl db (dg (hd (T.length + 1))) rfl rfl _ (dg z32) hdb7 (by rw [dg_size, hd_length]; exact sizeDig) (by rw [dg_size, dg_size, hd_length]; rfl) (dg_one _) ?_
    intro w8 hg8 hw8
    go_wp2
    refine bodyPost_ret (results_cell_row rfl _ _ db _ _ _ _ rfl hg8.out Try.underlying35 rfl (by rw [dg_size, hd_length]; exact sizeDig)) rfl ⟨rfl, ⟨_, (hw8.block rb (lt_of_heap hr7) (by simp; omega)).trans hr7, by rw [List.length_append]; exact own_grownR hown7 hw8 hdb7 (by decide)⟩, below_grown hB7 hw8 (Nat.le_of_lt (lt_of_heap hr7)) (by intro k e; cases e; omega), fun k h1 h2 h3 => ?_⟩
    obtain ⟨hu0, hNN⟩ := HE.out
    exact (hw8.block k (by omega) (by simp; omega)).trans (hG7 k (by omega) h2 (hu0 ▸ h3))
end Go.Proofs.Ytaocdknpalohbaa
