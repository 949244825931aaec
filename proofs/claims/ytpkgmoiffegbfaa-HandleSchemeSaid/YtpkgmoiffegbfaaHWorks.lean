/- The chapter's examples hold: the walk through 'works'. No condition. -/
import Derived.Test.YtpkgmoiffegbfaaHolds
import Derived.Test.YtpkgmoiffegbfaaSlots
import Derived.BigQuiet
import Derived.Deep.DeepCutAuto
namespace Go.Proofs.Ytpkgmoiffegbfaa
open Go.RowKit Go.BigFrame
set_option maxRecDepth 20000

theorem exec_storeD (ρ : Operand → Value) (dst : Option Tmp) (x y : Operand) (ty : TypeId) (pos : String) (after : Array Edge) (guard : Option (Nat × Bool)) (w : World) :
    (execOp ρ ⟨dst, .store 68 x y, ty, pos, after, guard⟩).run Try.prog w = storeRow 32 (ρ x) (ρ y) w ((do Instr.storeAt 68 (ρ x) (ρ y); pure .skip : Sem Next).run Try.prog w) :=
  exec_store digT.size ρ dst x y ty pos after guard w
attribute [local go_sem ↓] exec_storeD
attribute [local go_sem] storeRow objAt_setRow objAt_new objAt_old objAt_drew objAt_drewN dg_size hd_length

def sA : Sl := ⟨1, 0, 7, 0⟩
def sB : Sl := ⟨1, 0, 8, 0⟩

theorem lt_of_heap {w : World} {b : Nat} {o : Obj} (h : w.heap[b]? = some o) : b < w.heap.size := (Array.getElem?_eq_some_iff.1 h).1
theorem new_ne {w : World} {b : Nat} (h : b < w.heap.size) : Value.pointer (some ⟨w.heap.size, 0, none⟩) ≠ Value.pointer (some ⟨b, 0, none⟩) := by
  intro h'; injection h' with h'; injection h' with h'; injection h' with h'; omega

/-- What the slots of 'x, y := t.Commit(a), t.Commit(a)' hold. -/
def twoR (N tb mb : Nat) : Nat → Value → World → Prop
  | 0, u, _ => u = .pointer (some ⟨tb, 0, none⟩)
  | 1, u, _ => u = .agg sA.cells
  | 2, u, _ => u = .agg (dg (hd 1))
  | 3, u, _ => u = .pointer (some ⟨tb, 0, none⟩)
  | 4, u, _ => u = .agg sA.cells
  | 5, u, _ => u = .agg (dg (hd 2))
  | _, u, w => ∃ b : Nat, N + 4 ≤ b ∧ b ≠ mb ∧ u = .pointer (some ⟨b, 0, none⟩) ∧ w.heap[b]? = some (.cells (dg z32) 68 (0, 0))
theorem twoR_mono {N tb mb j : Nat} {u : Value} {w1 w2 : World} (h : twoR N tb mb j u w1) (hk : ∀ k, k < w1.heap.size → k ≠ mb → w2.heap[k]? = w1.heap[k]?) : twoR N tb mb j u w2 := by
  match j, h with
  | 0, h => exact h
  | 1, h => exact h
  | 2, h => exact h
  | 3, h => exact h
  | 4, h => exact h
  | 5, h => exact h
  | j + 6, h =>
  obtain ⟨b, h1, h2, h3, h4⟩ := h
  exact ⟨b, h1, h2, h3, (hk b (lt_of_heap h4) h2).trans h4⟩
/-- The world meanwhile. -/
def twoC (N tb mb : Nat) (w0 : World) (L : Nat → Bool) (w : World) : Prop :=
  w.heap[N]? = some (.cells sA.cells 71 (0, 0)) ∧ w.heap[N + 1]? = some (.cells sB.cells 71 (0, 0)) ∧ Below N w0 w ∧
    ∃ T, IsTable w tb mb T ∧ (L 2 = false → L 5 = false ∧ T = []) ∧ (L 2 = true → L 5 = false → T = [sA]) ∧ (L 5 = true → T = [sA, sA])
theorem twoC_same {N tb mb : Nat} {w0 : World} {L : Nat → Bool} {w1 w2 : World} (h : twoC N tb mb w0 L w1) (i : Nat) (h2 : i ≠ 2) (h5 : i ≠ 5) (hb : Below w1.heap.size w1 w2) : twoC N tb mb w0 (upd L i true) w2 := by
  obtain ⟨hA, hB, hW, T, hT, g1, g2, g3⟩ := h
  refine ⟨below_at hb hA (lt_of_heap hA), below_at hb hB (lt_of_heap hB), hW.trans (hb.mono (Nat.le_of_lt (lt_of_heap hA))), T, hT.below (_B := 0) hb, ?_, ?_, ?_⟩
  all_goals simp only [upd, if_neg (Ne.symm h2), if_neg (Ne.symm h5)]
  · exact g1
  · exact g2
  · exact g3

/-- What stays while the examples are asked. -/
def WCls (N : Nat) (w0 : World) (b4 b5 b6 : Nat) (w : World) : Prop :=
  w.heap[N]? = some (.cells sA.cells 71 (0, 0)) ∧ w.heap[N + 1]? = some (.cells sB.cells 71 (0, 0)) ∧ w.heap[b4]? = some (.cells (dg (hd 1)) 68 (0, 0)) ∧
    w.heap[b5]? = some (.cells (dg (hd 2)) 68 (0, 0)) ∧ w.heap[b6]? = some (.cells (dg (hd 258)) 68 (0, 0)) ∧ IsTable w (N + 1 + 1 + 1) (N + 1 + 1) [sA, sA] ∧ Below N w0 w
theorem WCls.below {N : Nat} {w0 : World} {b4 b5 b6 : Nat} {w w' : World} (h : WCls N w0 b4 b5 b6 w) (hb : Below w.heap.size w w') : WCls N w0 b4 b5 b6 w' := by
  obtain ⟨h1, h2, h3, h4, h5, h6, h7⟩ := h
  exact ⟨below_at hb h1 (lt_of_heap h1), below_at hb h2 (lt_of_heap h2), below_at hb h3 (lt_of_heap h3), below_at hb h4 (lt_of_heap h4), below_at hb h5 (lt_of_heap h5), h6.below (_B := 0) hb, h7.trans (hb.mono (Nat.le_of_lt (lt_of_heap h1)))⟩
theorem region_quiet_list {P : Program} {C : World → Prop} {id : Nat} {Q : Exit → Act → World → Prop} {a : Act} {w : World} {l : List Oper} (hm : P.follows .mixedOrders = true) (hB : Region.lexB .any l.toArray = true) (hC : C w.drew)
    (h : wpQuiet P l.toArray C (fun a' => ∀ w', C w' → Q .normal a' w') l a) : (Code.region id l.toArray true).wp P Q a w :=
  wp_region_quiet hm hB hC (by simpa using h)
theorem dig1 (w : World) : Calls Try.prog 43 #[.int .u64 1] w fun e w' => e = .returned (.agg (dg (hd 1))) ∧ Below w.heap.size w w' := digest_any 1 w (by decide) (by decide)
theorem dig2 (w : World) : Calls Try.prog 43 #[.int .u64 2] w fun e w' => e = .returned (.agg (dg (hd 2))) ∧ Below w.heap.size w w' := digest_any 2 w (by decide) (by decide)
theorem dig3 (w : World) : Calls Try.prog 43 #[.int .u64 3] w fun e w' => e = .returned (.agg (dg (hd 3))) ∧ Below w.heap.size w w' := digest_any 3 w (by decide) (by decide)
theorem opensAA : opensF [sA, sA] (hd 1) sA = true := by decide +kernel
theorem opensAB : opensF [sA, sA] (hd 1) sB = false := by decide +kernel
theorem opens3 : opensF [sA, sA] (hd 3) sA = false := by decide +kernel
theorem eq11 : (hd 1 == hd 1) = true := by simp
theorem eq22 : (hd 2 == hd 2) = true := by simp

attribute [local go_sem ↓] exec_loadD exec_eqlD
attribute [local go_sem] loadRow eqRow digEq_dg isDig_dg

set_option maxHeartbeats 4000000 in
theorem works_any (w : World) : Calls Try.prog 30 #[] w fun e w' => e = .returned (.bool true) ∧ Below w.heap.size w w' := by
  go_enter Try.func30, Try.ntmps30
  go_wp2_with (go_at_call 31; refine (new_any _).mono ?_; rintro e w1 ⟨rfl, ht1, hb1⟩)
  have e1 : ((w.alloc (.cells sA.cells 71)).alloc (.cells sB.cells 71)).heap.size = w.heap.size + 2 := by rw [World.size_alloc, World.size_alloc]
  have hA1 := below_at hb1 (alloc_at _ (new_at w (.cells sA.cells 71))) (by have := e1; show _ < ((w.alloc (.cells sA.cells 71)).alloc (.cells sB.cells 71)).heap.size; omega)
  have hB1 := below_at hb1 (heap_alloc2_new w (.cells sA.cells 71) (.cells sB.cells 71)) (by have := e1; show _ < ((w.alloc (.cells sA.cells 71)).alloc (.cells sB.cells 71)).heap.size; omega)
  have hbb : Below w.heap.size w w1 := (((Below.refl w.heap.size w).alloc (Nat.le_refl _) (.cells sA.cells 71)).alloc (by simp) (.cells sB.cells 71)).trans (hb1.mono (by have := e1; show _ ≤ ((w.alloc (.cells sA.cells 71)).alloc (.cells sB.cells 71)).heap.size; omega))
  have ht1' : IsTable w1 (w.heap.size + 1 + 1 + 1) (w.heap.size + 1 + 1) [] := by
    have h : IsTable w1 (((w.alloc (.cells sA.cells 71)).alloc (.cells sB.cells 71)).heap.size + 1) ((w.alloc (.cells sA.cells 71)).alloc (.cells sB.cells 71)).heap.size [] := ht1
    rw [e1] at h
    exact h
  clear ht1 hb1 e1
  obtain ⟨N, hN⟩ : ∃ N, N = w.heap.size := ⟨_, rfl⟩
  rw [← hN] at ht1' hA1 hB1 hbb ⊢
  have HN := hide hN
  clear hN
  have hlt1 : N + 3 < w1.heap.size := lt_of_heap ht1'.tab
  refine region_slots 8 [10, 11, 12, 13, 14, 15, 4, 5] (by kernel_rfl) (by kernel_rfl) (by decide) rfl 70 rfl (by decide) (by kernel_rfl)
    (BoxInv 8 (twoC N (N + 1 + 1 + 1) (N + 1 + 1) w) (twoR N (N + 1 + 1 + 1) (N + 1 + 1)) 6 7) ?_ ?_ ?_
  · exact BoxInv.start ⟨hA1, hB1, hbb.drew, [], ht1'.drew, fun _ => ⟨rfl, rfl⟩, fun h => Bool.noConfusion h, fun h => Bool.noConfusion h⟩
  · intro i hi
    match i, hi with
    | 0, _ =>
      intro L v w1 f o ho hf hI hL hall K Q' hK
      obtain rfl := Option.some.inj ho
      have e3 : f.tmps[3]?.getD undef = .pointer (some ⟨N + 1 + 1 + 1, 0, none⟩) := tmp_of (hf 3)
      simp [go_sem, e3]
      exact hK _ _ (hI.step 0 _ (by decide) (by decide) (by decide) (twoC_same hI.1 0 (by decide) (by decide) (Below.refl _ _)) (fun _ _ _ h => h) rfl (fun h => by cases h) (fun h => by cases h))
    | 1, _ =>
      intro L v w1 f o ho hf hI hL hall K Q' hK
      obtain rfl := Option.some.inj ho
      have e1 : f.tmps[1]?.getD undef = .pointer (some ⟨N, 0, none⟩) := tmp_of (hf 1)
      have c0 := cell_of (i := 0) hI.1.1 rfl
      have c1 := cell_of (i := 1) hI.1.1 rfl
      have c2 := cell_of (i := 2) hI.1.1 rfl
      have c3 := cell_of (i := 3) hI.1.1 rfl
      simp [go_sem, e1, c0, c1, c2, c3]
      exact hK _ _ (hI.step 1 _ (by decide) (by decide) (by decide) (twoC_same hI.1 1 (by decide) (by decide) (Below.refl _ _)) (fun _ _ _ h => h) rfl (fun h => by cases h) (fun h => by cases h))
    | 2, _ =>
      intro L v w1 f o ho hf hI hL hall K Q' hK
      obtain rfl := Option.some.inj ho
      have e0 : f.tmps[10]?.getD undef = .pointer (some ⟨N + 1 + 1 + 1, 0, none⟩) := tmp_of ((hf 10).trans (hI.2.1 0 (by decide) (edge_listed hall 0 (by kernel_rfl))))
      have e1 : f.tmps[11]?.getD undef = .agg sA.cells := tmp_of ((hf 11).trans (hI.2.1 1 (by decide) (edge_listed hall 1 (by kernel_rfl))))
      obtain ⟨hA, hB, hW, T, hT, g1, g2, g3⟩ := hI.1
      obtain ⟨h5, rfl⟩ := g1 hL
      have hAm : N ≠ N + 1 + 1 := by omega
      simp [go_sem, e0, e1]
      refine (commit_any sA w1 _ _ [] hT (by decide)).mono ?_
      rintro e w2 ⟨rfl, ht2, hg2⟩
      refine hK _ _ (hI.step 2 _ (by decide) (by decide) (by decide) ?_ (fun j _ x h => twoR_mono h fun k hk hne => hg2.block k hk (by simpa using hne)) rfl (fun h => by cases h) (fun h => by cases h))
      refine ⟨(hg2.block _ (lt_of_heap hA) (by simp; omega)).trans hA, (hg2.block _ (lt_of_heap hB) (by simp)).trans hB, below_grown hW hg2 (Nat.le_of_lt (lt_of_heap hA)) (by intro k e; cases e; omega), _, ht2, ?_, ?_, ?_⟩
      · intro h; simp [upd] at h
      · intro _ _; rfl
      · intro h; simp [upd] at h; rw [h5] at h; cases h
    | 3, _ =>
      intro L v w1 f o ho hf hI hL hall K Q' hK
      obtain rfl := Option.some.inj ho
      have e3 : f.tmps[3]?.getD undef = .pointer (some ⟨N + 1 + 1 + 1, 0, none⟩) := tmp_of (hf 3)
      simp [go_sem, e3]
      exact hK _ _ (hI.step 3 _ (by decide) (by decide) (by decide) (twoC_same hI.1 3 (by decide) (by decide) (Below.refl _ _)) (fun _ _ _ h => h) rfl (fun h => by cases h) (fun h => by cases h))
    | 4, _ =>
      intro L v w1 f o ho hf hI hL hall K Q' hK
      obtain rfl := Option.some.inj ho
      have e1 : f.tmps[1]?.getD undef = .pointer (some ⟨N, 0, none⟩) := tmp_of (hf 1)
      have c0 := cell_of (i := 0) hI.1.1 rfl
      have c1 := cell_of (i := 1) hI.1.1 rfl
      have c2 := cell_of (i := 2) hI.1.1 rfl
      have c3 := cell_of (i := 3) hI.1.1 rfl
      simp [go_sem, e1, c0, c1, c2, c3]
      exact hK _ _ (hI.step 4 _ (by decide) (by decide) (by decide) (twoC_same hI.1 4 (by decide) (by decide) (Below.refl _ _)) (fun _ _ _ h => h) rfl (fun h => by cases h) (fun h => by cases h))
    | 5, _ =>
      intro L v w1 f o ho hf hI hL hall K Q' hK
      obtain rfl := Option.some.inj ho
      have e0 : f.tmps[13]?.getD undef = .pointer (some ⟨N + 1 + 1 + 1, 0, none⟩) := tmp_of ((hf 13).trans (hI.2.1 3 (by decide) (edge_listed hall 3 (by kernel_rfl))))
      have e1 : f.tmps[14]?.getD undef = .agg sA.cells := tmp_of ((hf 14).trans (hI.2.1 4 (by decide) (edge_listed hall 4 (by kernel_rfl))))
      obtain ⟨hA, hB, hW, T, hT, g1, g2, g3⟩ := hI.1
      have hL2 : L 2 = true := edge_listed hall 2 (by kernel_rfl)
      obtain rfl := g2 hL2 hL
      simp [go_sem, e0, e1]
      refine (commit_any sA w1 _ _ [sA] hT (by decide)).mono ?_
      rintro e w2 ⟨rfl, ht2, hg2⟩
      refine hK _ _ (hI.step 5 _ (by decide) (by decide) (by decide) ?_ (fun j _ x h => twoR_mono h fun k hk hne => hg2.block k hk (by simpa using hne)) rfl (fun h => by cases h) (fun h => by cases h))
      refine ⟨(hg2.block _ (lt_of_heap hA) (by simp; omega)).trans hA, (hg2.block _ (lt_of_heap hB) (by simp)).trans hB, below_grown hW hg2 (Nat.le_of_lt (lt_of_heap hA)) (by intro k e; cases e; omega), _, ht2, ?_, ?_, ?_⟩
      · intro h; simp [upd] at h; rw [hL2] at h; cases h
      · intro _ h; simp [upd] at h
      · intro _; rfl
    | 6, _ =>
      intro L v w1 f o ho hf hI hL hall K Q' hK
      obtain rfl := Option.some.inj ho
      have hbn : Below w1.heap.size w1 (w1.alloc (.cells (dg z32) 68)) := (Below.refl _ _).alloc (Nat.le_refl _) _
      obtain ⟨hA, hB, hW, T, hT, g⟩ := hI.1
      have hlt := lt_of_heap hT.tab
      have hlt' := lt_of_heap hT.map
      simp [go_sem]
      refine hK _ _ (hI.step 6 _ (by decide) (by decide) (by decide) (twoC_same hI.1 6 (by decide) (by decide) hbn) (fun j _ x h => twoR_mono h fun k hk _ => hbn.block k hk) ⟨w1.heap.size, by omega, by omega, rfl, new_at w1 _⟩ ?_ ?_)
      · rintro _ x ⟨b, _, _, rfl, h⟩; exact new_ne (lt_of_heap h)
      · intro h; cases h
    | 7, _ =>
      intro L v w1 f o ho hf hI hL hall K Q' hK
      obtain rfl := Option.some.inj ho
      have hbn : Below w1.heap.size w1 (w1.alloc (.cells (dg z32) 68)) := (Below.refl _ _).alloc (Nat.le_refl _) _
      obtain ⟨hA, hB, hW, T, hT, g⟩ := hI.1
      have hlt := lt_of_heap hT.tab
      have hlt' := lt_of_heap hT.map
      simp [go_sem]
      refine hK _ _ (hI.step 7 _ (by decide) (by decide) (by decide) (twoC_same hI.1 7 (by decide) (by decide) hbn) (fun j _ x h => twoR_mono h fun k hk _ => hbn.block k hk) ⟨w1.heap.size, by omega, by omega, rfl, new_at w1 _⟩ ?_ ?_)
      · intro h; cases h
      · rintro _ x ⟨b, _, _, rfl, h⟩; exact (new_ne (lt_of_heap h)).symm
  · intro L v wh hL hI
    have e0 : v 0 = .pointer (some ⟨N + 1 + 1 + 1, 0, none⟩) := hI.2.1 0 (by decide) (hL 0 (by decide))
    have e1 : v 1 = .agg sA.cells := hI.2.1 1 (by decide) (hL 1 (by decide))
    have e2 : v 2 = .agg (dg (hd 1)) := hI.2.1 2 (by decide) (hL 2 (by decide))
    have e3 : v 3 = .pointer (some ⟨N + 1 + 1 + 1, 0, none⟩) := hI.2.1 3 (by decide) (hL 3 (by decide))
    have e4 : v 4 = .agg sA.cells := hI.2.1 4 (by decide) (hL 4 (by decide))
    have e5 : v 5 = .agg (dg (hd 2)) := hI.2.1 5 (by decide) (hL 5 (by decide))
    obtain ⟨b4, hN4, hm4, e6, hh4⟩ := hI.2.1 6 (by decide) (hL 6 (by decide))
    obtain ⟨b5, hN5, hm5, e7, hh5⟩ := hI.2.1 7 (by decide) (hL 7 (by decide))
    have hne := hI.2.2 (hL 6 (by decide)) (hL 7 (by decide))
    rw [e6, e7] at hne
    have hne' : b4 ≠ b5 := fun h => hne (by rw [h])
    obtain ⟨hA, hB, hW, T, hT, g1, g2, g3⟩ := hI.1
    obtain rfl := g3 (hL 5 (by decide))
    simp only [putSlots, Act.put, List.setIfInBounds_toArray, List.set_cons_succ, List.set_cons_zero, List.drop_succ_cons, List.drop_zero, e0, e1, e2, e3, e4, e5, e6, e7]
    clear hI hL e0 e1 e2 e3 e4 e5 e6 e7 hne g1 g2 g3
    refine wpList_store_whole rfl rfl _ _ _ rfl b4 (dg (hd 1)) _ _ rfl rfl hh4 (by rw [dg_size, hd_length]; exact sizeDig) (by rw [dg_size, dg_size, hd_length]; rfl) (dg_one _) ?_
    intro w2 hs4 hso hsz2 hbl
    have hh5' := (hso _ (Ne.symm hne')).trans hh5
    have hA2 := (hso N (by omega)).trans hA
    have hB2 := (hso (N + 1) (by omega)).trans hB
    have ht2 : IsTable w2 (N + 1 + 1 + 1) (N + 1 + 1) [sA, sA] := ⟨(hso _ (by omega)).trans hT.tab, (hso _ (by omega)).trans hT.map⟩
    have hW2 := hbl N w (by omega) hW
    clear hso hbl hh4 hh5 hA hB hT hW
    refine wpList_store_whole rfl rfl _ _ _ rfl b5 (dg (hd 2)) _ _ rfl rfl hh5' (by rw [dg_size, hd_length]; exact sizeDig) (by rw [dg_size, dg_size, hd_length]; rfl) (dg_one _) ?_
    intro w3 hs5 hso hsz3 hbl
    have hs4' := (hso _ hne').trans hs4
    have hA3 := (hso N (by omega)).trans hA2
    have hB3 := (hso (N + 1) (by omega)).trans hB2
    have ht3 : IsTable w3 (N + 1 + 1 + 1) (N + 1 + 1) [sA, sA] := ⟨(hso _ (by omega)).trans ht2.tab, (hso _ (by omega)).trans ht2.map⟩
    have hW3 := hbl N w (by omega) hW2
    clear hso hbl hs4 hh5' hA2 hB2 ht2 hW2
    go_wp2_with (first
      | (go_at_call 43; refine (digest_any 258 _ (by decide) (by decide)).mono ?_; rintro e w4 ⟨rfl, hb4⟩)
      | ((with_reducible show wpList _ _ _ (⟨some 6, Op.alloc _, _, _, _, _⟩ :: _) _ _); refine law_allocK rfl 68 rfl (dg z32) zeroDig ?_; intro w5 hg5 hw5 hz5)
      | ((with_reducible show wpList _ _ _ (⟨none, Op.store _ _ _, _, _, _, _⟩ :: _) _ _); refine wpList_store_put rfl rfl _ _ _ rfl w4.heap.size (dg (hd 258)) _ _ rfl rfl hg5 (by rw [dg_size, hd_length]; exact sizeDig) (by rw [dg_size, dg_size, hd_length]; rfl) (dg_one _) ?_; intro w6 hs6 hso hsz6 hbl))
    have hz4 : ∀ k, k < w3.heap.size → k ≠ w4.heap.size := fun k hk => Nat.ne_of_lt (Nat.lt_of_lt_of_le hk hb4.size)
    have hcls : WCls N w b4 b5 w4.heap.size w6.drew := by
      have f4 : ∀ k o, w3.heap[k]? = some o → w6.heap[k]? = some o := fun k o h => (hso k (hz4 k (lt_of_heap h))).trans ((hw5.block k (Nat.lt_of_lt_of_le (lt_of_heap h) hb4.size) (by simp)).trans (below_at hb4 h (lt_of_heap h)))
      have hN3 : N ≤ w4.heap.size := Nat.le_trans (Nat.le_of_lt (lt_of_heap hA3)) hb4.size
      exact ⟨f4 _ _ hA3, f4 _ _ hB3, f4 _ _ hs4', f4 _ _ hs5, hs6, ⟨f4 _ _ ht3.tab, f4 _ _ ht3.map⟩, (hbl N w hN3 (below_grown (hW3.trans (hb4.mono (Nat.le_of_lt (lt_of_heap hA3)))) hw5 hN3 (by intro k e; cases e))).drew⟩
    clear hso hbl hw5 hg5 hz5 hs5 hsz6 hs6 hz4
    simp only [Act.put, List.setIfInBounds_toArray, List.set_cons_succ, List.set_cons_zero]
    clear hs4' hA3 hB3 ht3 hW3
    refine region_quiet_list (C := WCls N w b4 b5 w4.heap.size) (by kernel_rfl) (by kernel_rfl) hcls ?_
    go_big_quiet_want; go_big_quiet_op; refine ⟨_, fun _ _ => rfl, ?_⟩; go_big_quiet_on
    go_big_quiet_want; go_big_quiet_op; refine ⟨.int .u8 1, fun wq hq => ?_, ?_⟩
    · have q := cell_of (i := 6) hq.2.2.2.2.1 (show _ = some (Value.int .u8 1) from by kernel_rfl); simp [q, Result.andThen]
    go_big_quiet_on
    iterate 2 (go_big_quiet_want; go_big_quiet_op; first | go_big_quiet_on | (refine ⟨_, fun _ _ => rfl, ?_⟩; go_big_quiet_on))
    go_big_quiet_want; go_big_quiet_op; refine ⟨_, fun _ _ => rfl, ?_⟩; go_big_quiet_on
    go_big_quiet_want; go_big_quiet_op; refine ⟨.int .u8 2, fun wq hq => ?_, ?_⟩
    · have q := cell_of (i := 7) hq.2.2.2.2.1 (show _ = some (Value.int .u8 2) from by kernel_rfl); simp [q, Result.andThen]
    go_big_quiet_on
    iterate 3 (go_big_quiet_want; go_big_quiet_op; first | go_big_quiet_on | (refine ⟨_, fun _ _ => rfl, ?_⟩; go_big_quiet_on))
    go_big_quiet_want; go_big_quiet_op; refine ⟨_, fun _ _ => rfl, ?_⟩; go_big_quiet_on
    go_big_quiet_want; go_big_quiet_op; refine ⟨.int .u8 0, fun wq hq => ?_, ?_⟩
    · have q := cell_of (i := 0) hq.2.2.2.2.1 (show _ = some (Value.int .u8 0) from by kernel_rfl); simp [q, Result.andThen]
    go_big_quiet_on
    iterate 3 (go_big_quiet_want; go_big_quiet_op; first | go_big_quiet_on | (refine ⟨_, fun _ _ => rfl, ?_⟩; go_big_quiet_on))
    go_big_quiet_want; go_big_quiet_op; refine ⟨_, fun _ _ => rfl, ?_⟩; go_big_quiet_on
    go_big_quiet_want; go_big_quiet_op; refine ⟨.int .u8 0, fun wq hq => ?_, ?_⟩
    · have q := cell_of (i := 8) hq.2.2.2.2.1 (show _ = some (Value.int .u8 0) from by kernel_rfl); simp [q, Result.andThen]
    go_big_quiet_on
    iterate 3 (go_big_quiet_want; go_big_quiet_op; first | go_big_quiet_on | (refine ⟨_, fun _ _ => rfl, ?_⟩; go_big_quiet_on))
    go_big_quiet_want; go_big_quiet_op; refine ⟨.agg (dg (hd 1)), fun wq hq => ?_, ?_⟩
    · have q : objAt wq b4 = some (.cells (dg (hd 1)) 68 (0, 0)) := hq.2.2.1
      simp [q, dg_size, hd_length]
    go_big_quiet_on
    go_big_quiet_want; go_big_quiet_op; refine ⟨.agg (dg (hd 1)), fun wq hq => (dig1 wq).mono fun e w' ⟨he, hb⟩ => ⟨he, hq.below hb⟩, ?_⟩
    go_big_quiet_on
    iterate 3 (go_big_quiet_want; go_big_quiet_op; first | go_big_quiet_on | (refine ⟨_, fun _ _ => rfl, ?_⟩; go_big_quiet_on))
    go_big_quiet_want; go_big_quiet_op; refine ⟨.agg (dg (hd 2)), fun wq hq => ?_, ?_⟩
    · have q : objAt wq b5 = some (.cells (dg (hd 2)) 68 (0, 0)) := hq.2.2.2.1
      simp [q, dg_size, hd_length]
    go_big_quiet_on
    go_big_quiet_want; go_big_quiet_op; refine ⟨.agg (dg (hd 2)), fun wq hq => (dig2 wq).mono fun e w' ⟨he, hb⟩ => ⟨he, hq.below hb⟩, ?_⟩
    go_big_quiet_on
    iterate 3 (go_big_quiet_want; go_big_quiet_op; first | go_big_quiet_on | (refine ⟨_, fun _ _ => rfl, ?_⟩; go_big_quiet_on))
    iterate 1 (go_big_quiet_want; go_big_quiet_op; first | go_big_quiet_on | (refine ⟨_, fun _ _ => rfl, ?_⟩; go_big_quiet_on))
    go_big_quiet_want; go_big_quiet_op; refine ⟨.agg (dg (hd 1)), fun wq hq => ?_, ?_⟩
    · have q : objAt wq b4 = some (.cells (dg (hd 1)) 68 (0, 0)) := hq.2.2.1
      simp [q, dg_size, hd_length]
    go_big_quiet_on
    go_big_quiet_want; go_big_quiet_op; refine ⟨.agg sA.cells, fun wq hq => ?_, ?_⟩
    · have q0 := cell_of (i := 0) hq.1 rfl; have q1 := cell_of (i := 1) hq.1 rfl; have q2 := cell_of (i := 2) hq.1 rfl; have q3 := cell_of (i := 3) hq.1 rfl
      simp [q0, q1, q2, q3, Result.andThen]; rfl
    go_big_quiet_on
    go_big_quiet_want; go_big_quiet_op; refine ⟨.bool true, fun wq hq => (opens_any (hd 1) (hd_length _) sA wq _ _ _ hq.2.2.2.2.2.1).mono fun e w' ⟨he, hb⟩ => ⟨by rw [he, opensAA], hq.below hb⟩, ?_⟩
    go_big_quiet_on
    iterate 2 (go_big_quiet_want; go_big_quiet_op; first | go_big_quiet_on | (refine ⟨_, fun _ _ => rfl, ?_⟩; go_big_quiet_on))
    iterate 1 (go_big_quiet_want; go_big_quiet_op; first | go_big_quiet_on | (refine ⟨_, fun _ _ => rfl, ?_⟩; go_big_quiet_on))
    go_big_quiet_want; go_big_quiet_op; refine ⟨.agg (dg (hd 1)), fun wq hq => ?_, ?_⟩
    · have q : objAt wq b4 = some (.cells (dg (hd 1)) 68 (0, 0)) := hq.2.2.1
      simp [q, dg_size, hd_length]
    go_big_quiet_on
    go_big_quiet_want; go_big_quiet_op; refine ⟨.agg sB.cells, fun wq hq => ?_, ?_⟩
    · have q0 := cell_of (i := 0) hq.2.1 rfl; have q1 := cell_of (i := 1) hq.2.1 rfl; have q2 := cell_of (i := 2) hq.2.1 rfl; have q3 := cell_of (i := 3) hq.2.1 rfl
      simp [q0, q1, q2, q3, Result.andThen]; rfl
    go_big_quiet_on
    go_big_quiet_want; go_big_quiet_op; refine ⟨.bool false, fun wq hq => (opens_any (hd 1) (hd_length _) sB wq _ _ _ hq.2.2.2.2.2.1).mono fun e w' ⟨he, hb⟩ => ⟨by rw [he, opensAB], hq.below hb⟩, ?_⟩
    go_big_quiet_on
    iterate 3 (go_big_quiet_want; go_big_quiet_op; first | go_big_quiet_on | (refine ⟨_, fun _ _ => rfl, ?_⟩; go_big_quiet_on))
    iterate 1 (go_big_quiet_want; go_big_quiet_op; first | go_big_quiet_on | (refine ⟨_, fun _ _ => rfl, ?_⟩; go_big_quiet_on))
    go_big_quiet_want; go_big_quiet_op; refine ⟨.agg (dg (hd 3)), fun wq hq => (dig3 wq).mono fun e w' ⟨he, hb⟩ => ⟨he, hq.below hb⟩, ?_⟩
    go_big_quiet_on
    go_big_quiet_want; go_big_quiet_op; refine ⟨.agg sA.cells, fun wq hq => ?_, ?_⟩
    · have q0 := cell_of (i := 0) hq.1 rfl; have q1 := cell_of (i := 1) hq.1 rfl; have q2 := cell_of (i := 2) hq.1 rfl; have q3 := cell_of (i := 3) hq.1 rfl
      simp [q0, q1, q2, q3, Result.andThen]; rfl
    go_big_quiet_on
    go_big_quiet_want; go_big_quiet_op; refine ⟨.bool false, fun wq hq => (opens_any (hd 3) (hd_length _) sA wq _ _ _ hq.2.2.2.2.2.1).mono fun e w' ⟨he, hb⟩ => ⟨by rw [he, opens3], hq.below hb⟩, ?_⟩
    go_big_quiet_on
    iterate 3 (go_big_quiet_want; go_big_quiet_op; first | go_big_quiet_on | (refine ⟨_, fun _ _ => rfl, ?_⟩; go_big_quiet_on))
    iterate 1 (go_big_quiet_want; go_big_quiet_op; first | go_big_quiet_on | (refine ⟨_, fun _ _ => rfl, ?_⟩; go_big_quiet_on))
    go_big_quiet_want; go_big_quiet_op; refine ⟨.int .i64 2, fun wq hq => (len_any wq _ _ _ hq.2.2.2.2.2.1).mono fun e w' ⟨he, hb⟩ => ⟨he, hb ▸ hq⟩, ?_⟩
    go_big_quiet_on
    iterate 3 (go_big_quiet_want; go_big_quiet_op; first | go_big_quiet_on | (refine ⟨_, fun _ _ => rfl, ?_⟩; go_big_quiet_on))
    refine wpQuiet_nil ?_
    intro wq hq
    go_wp2
    go_ret
    exact ⟨rfl, HN.out ▸ hq.2.2.2.2.2.2⟩
end Go.Proofs.Ytpkgmoiffegbfaa
