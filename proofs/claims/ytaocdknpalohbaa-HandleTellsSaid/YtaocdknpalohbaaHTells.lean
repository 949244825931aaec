/- HandleTells, of all rows of steps: the walk. Condition: they lie in a slice. -/
import Derived.Test.YtaocdknpalohbaaHRCommit
import Derived.Test.YtaocdknpalohbaaHROpens
import Derived.Deep.LoopGhost
import Derived.Deep.CutRange
import Derived.Deep.CutBlock
import Derived.StillTailTactics
import Derived.Outline
namespace Go.Proofs.Ytaocdknpalohbaa
open Go.RowKit Go.BigFrame
set_option maxRecDepth 100000

theorem still_of_quiet {P : Program} {o : Oper} {a : Act} {w : World} {K : Act → Prop} (h : o.quiet P a (fun w' => w' = w) K) : o.still P a w K := by
  obtain ⟨v, h1, h2⟩ := h
  have h3 := h1 w rfl
  unfold Oper.quietAt at h3
  unfold Oper.still
  generalize (execOp a.eval o).run P w = r at *
  cases r with
  | ok n w' =>
    cases n <;> simp only [Oper.quietUpon] at h3 <;> simp only [Oper.stillUpon]
    case value u => exact ⟨h3.1, by rw [h3.2]; exact h2⟩
    case skip => exact ⟨h3.1, by rw [← h3.2]; exact h2⟩
    case enter f args => exact ⟨h3.1, v, h3.2, h2⟩
  | halt x w' => simp only [Oper.quietUpon] at h3
theorem wpStill_of_quiet {P : Program} {ops : Array Oper} {w : World} {Q : Act → Prop} : ∀ (l : List Oper) (a : Act), wpQuiet P ops (fun w' => w' = w) Q l a → wpStill P ops w Q l a
  | [], _, h => h
  | o :: l, a, h => by
    unfold wpQuiet at h
    unfold wpStill
    split
    · rename_i hw
      simp only [hw, if_true] at h
      exact Oper.still_mono (fun a' h' => wpStill_of_quiet l a' h') (still_of_quiet h)
    · rename_i hw
      simp only [hw] at h
      exact wpStill_of_quiet l _ h

theorem region_tail {P : Program} {id : Nat} {Q : Exit → Act → World → Prop} {a : Act} {w : World} {l : List Oper} (n : Nat) (hm : P.follows .mixedOrders = true) (hB : Region.lexTailB .any l.toArray n = true)
    (h : wpQuiet P l.toArray (fun w' => w' = w.drew) (fun a' => wpList P l.toArray Q (l.drop n) a' w.drew) (l.take n) a) : (Code.region id l.toArray true).wp P Q a w :=
  wp_region_still_tail n hm hB (wpStill_of_quiet _ _ h)

/-- A step. -/
structure St where
  what : Nat
  k : Nat
  bend : Nat
  x : Sl
def St.cells (s : St) : Array Value := #[.int .u8 s.what, .int .u8 s.k, .int .u8 s.bend, .int .i64 s.x.r, .int .i64 s.x.c, .int .u64 s.x.b, .int .u64 s.x.n]
def St.Ok (s : St) : Prop := s.what < 256 ∧ s.k < 256 ∧ s.bend < 256
/-- Steps as they lie in memory. -/
def StepsAt (w : World) (b off : Nat) (ls : List St) : Prop := ∀ q s, ls[q]? = some s → s.Ok ∧ ∀ i u, s.cells[i]? = some u → w.cell? ⟨b, off + q * 7 + i, none⟩ = some u

theorem IsRTab.below {w w' : World} {rb base : Nat} {u : Value} {T : List Sl} (h : IsRTab w rb base u T) (hb : Below w.heap.size w w') : IsRTab w' rb base u T := ⟨below_at hb h.1 (lt_of_heap h.1), own_keepR h.2 hb⟩
theorem IsRTab.slice {w : World} {rb base : Nat} {u : Value} {T : List Sl} (h : IsRTab w rb base u T) : ∃ a c, u = .slice a T.length c := by
  rcases h.2.2 with ⟨h1, h2⟩ | ⟨g, cap, cur, h1, _⟩
  · exact ⟨none, 0, by rw [h1, h2]⟩
  · exact ⟨_, _, h1⟩

theorem IsRTab.grown {w w' : World} {rb base d : Nat} {u : Value} {T : List Sl} (h : IsRTab w rb base u T) (hg : w.grownBy w' (some d)) (hd : d < base) (hne : d ≠ rb) : IsRTab w' rb base u T := by
  refine ⟨(hg.block rb (lt_of_heap h.1) (by simp; omega)).trans h.1, h.2.1, ?_⟩
  rcases h.2.2 with hn | ⟨g, cap, cur, hv, hbb, hgg, rest⟩
  · exact .inl hn
  · exact .inr ⟨g, cap, cur, hv, hbb, (hg.block g (lt_of_heap hgg) (by simp; omega)).trans hgg, rest⟩
theorem IsRTab.row {w : World} {rb base c n : Nat} {a : Option Addr} {L : List Sl} (h : IsRTab w rb base (.slice a n c) L) {j : Nat} {y : Sl} (hy : L[j]? = some y) :
    ∃ g, a = some ⟨g, 0, none⟩ ∧ base ≤ g ∧ ∀ i u, i < 4 → y.cells.toList[i]? = some u → w.cell? ⟨g, j * 4 + i, none⟩ = some u := by
  have hjl := (List.getElem?_eq_some_iff.1 hy).1
  rcases h.2.2 with ⟨_, hn⟩ | ⟨g, cap, cur, hv, hbg, hg, hnc, hcm, hsz, htk⟩
  · exact absurd hn (by omega)
  · simp only [Value.slice.injEq] at hv
    obtain ⟨rfl, _, rfl⟩ := hv
    refine ⟨g, rfl, hbg, fun i u hi hu => cell_of hg ?_⟩
    rw [← seal_at L j i y hy hi, ← htk, List.getElem?_take_of_lt (by omega)] at hu
    simpa using hu
theorem xor_u8 (a b : Int) : ∃ n : Nat, n < 256 ∧ bits .xor .u8 a b = (n : Int) := by
  have h := (BitVec.ofInt 8 a ^^^ BitVec.ofInt 8 b).isLt
  refine ⟨(BitVec.ofInt 8 a ^^^ BitVec.ofInt 8 b).toNat, h, ?_⟩
  show IntKind.u8.wrap (((BitVec.ofInt 8 a ^^^ BitVec.ofInt 8 b).toNat : Nat) : Int) = _
  generalize (BitVec.ofInt 8 a ^^^ BitVec.ofInt 8 b).toNat = n at h
  simp [IntKind.wrap, IntKind.bits, IntKind.signed]
  omega

/-- What stays while a digest is asked. -/
def TC (N : Nat) (w0 : World) (ta ma rb : Nat) (u : Value) (L : List Sl) (xb : Nat) (y : Sl) (db : Nat) (d : List UInt8) (w : World) : Prop :=
  w.heap[xb]? = some (.cells y.cells 31 (0, 0)) ∧ w.heap[db]? = some (.cells (dg d) 35 (0, 0)) ∧ IsTable w ta ma L ∧ IsRTab w rb (rb + 1) u L ∧ Below N w0 w ∧ rb + 1 ≤ w.heap.size
theorem TC.below {N : Nat} {w0 : World} {ta ma rb : Nat} {u : Value} {L : List Sl} {xb : Nat} {y : Sl} {db : Nat} {d : List UInt8} {w w' : World} (h : TC N w0 ta ma rb u L xb y db d w) (hb : Below w.heap.size w w') (hN : N ≤ ma := by omega) : TC N w0 ta ma rb u L xb y db d w' := by
  obtain ⟨h1, h2, h3, h4, h5, h6⟩ := h
  exact ⟨below_at hb h1 (lt_of_heap h1), below_at hb h2 (lt_of_heap h2), h3.below (_B := 0) hb, h4.below hb, h5.trans (hb.mono (Nat.le_trans hN (Nat.le_of_lt (lt_of_heap h3.map)))), Nat.le_trans h6 hb.size⟩

/-- What stays while the lengths are asked. -/
def KC (N : Nat) (w0 : World) (ta ma rb : Nat) (u : Value) (L : List Sl) (w : World) : Prop := IsTable w ta ma L ∧ IsRTab w rb (rb + 1) u L ∧ Below N w0 w ∧ rb + 1 ≤ w.heap.size
/-- What the slots of 't.Commit(x) != m.Commit(x)' hold. -/
def tcR (ta : Nat) (L : List Sl) (x : Sl) : Nat → Value → World → Prop
  | 0, u, _ => u = .pointer (some ⟨ta, 0, none⟩)
  | 1, u, _ => u = .agg x.cells
  | 2, u, _ => u = .agg (dg (hd (L.length + 1)))
  | 3, u, _ => u = .agg x.cells
  | _, u, _ => u = .agg (dg (hd (L.length + 1)))
theorem tcR_mono {ta : Nat} {L : List Sl} {x : Sl} {j : Nat} {u : Value} {w1 w2 : World} (h : tcR ta L x j u w1) : tcR ta L x j u w2 := by
  match j, h with
  | 0, h | 1, h | 2, h | 3, h => exact h
  | j + 4, h => exact h
def tcC (N : Nat) (w0 : World) (ta ma rb xb : Nat) (u : Value) (L : List Sl) (x : Sl) (S : Nat → Bool) (w : World) : Prop :=
  w.heap[xb]? = some (.cells x.cells 31 (0, 0)) ∧ Below N w0 w ∧ rb + 1 ≤ w.heap.size ∧ ∃ TA v TB, IsTable w ta ma TA ∧ IsRTab w rb (rb + 1) v TB ∧ (S 2 = false → TA = L) ∧ (S 2 = true → TA = L ++ [x]) ∧ (S 4 = false → TB = L ∧ v = u) ∧ (S 4 = true → TB = L ++ [x])
theorem tcC_keep {N : Nat} {w0 : World} {ta ma rb xb : Nat} {u : Value} {L : List Sl} {x : Sl} {S : Nat → Bool} {w1 w2 : World} (h : tcC N w0 ta ma rb xb u L x S w1) (i : Nat) (h2 : i ≠ 2) (h4 : i ≠ 4) (hb : w2 = w1) : tcC N w0 ta ma rb xb u L x (upd S i true) w2 := by
  subst hb
  obtain ⟨hx, hW, hz, TA, v, TB, hA, hB, g⟩ := h
  refine ⟨hx, hW, hz, TA, v, TB, hA, hB, ?_⟩
  simp only [upd, if_neg (Ne.symm h2), if_neg (Ne.symm h4)]
  exact g
attribute [local go_sem ↓] exec_loadD exec_neqD
attribute [local go_sem] loadRow eqRow digEq_dg isDig_dg

set_option maxHeartbeats 8000000 in
theorem tells_any (aa : Option Addr) (cap : Nat) (ls : List St) (w : World) (hl : ls.length ≤ 9223372036854775807) (hat : 0 < ls.length → ∃ b off, aa = some ⟨b, off, none⟩ ∧ b < w.heap.size ∧ StepsAt w b off ls) :
    Calls Try.prog 3 #[.slice aa ls.length cap] w fun e w' => e = .returned (.bool true) ∧ Below w.heap.size w w' := by
  have HAT := hide hat
  clear hat
  go_enter Try.func3, Try.ntmps3
  go_wp2_with fail
  refine (works_any _).mono ?_
  rintro e w1 ⟨rfl, hb1⟩
  go_wp2_with fail
  refine (new_any _).mono ?_
  rintro e w2 ⟨rfl, ht2, hb2⟩
  have hB2 : Below w.heap.size w w2 := hb1.trans (hb2.mono hb1.size)
  have hs1 := hb1.size
  have hs2 : w1.heap.size + 1 < w2.heap.size := lt_of_heap ht2.tab
  clear hb1 hb2
  obtain ⟨N, hN⟩ : ∃ N, N = w.heap.size := ⟨_, rfl⟩
  obtain ⟨ma, hma⟩ : ∃ ma, ma = w1.heap.size := ⟨_, rfl⟩
  rw [← hma] at ht2 hs1 hs2 ⊢
  rw [← hN] at hB2 hs1
  have HN := hide hN
  clear hN hma
  obtain ⟨ta, hta⟩ : ∃ ta, ta = ma + 1 := ⟨_, rfl⟩
  rw [← hta] at ht2 hs2 ⊢
  have hmt : ma < ta := by omega
  clear hta
  go_wp2_with fail
  obtain ⟨rb, hrb⟩ : ∃ rb, rb = w2.heap.size := ⟨_, rfl⟩
  obtain ⟨w3, hw3⟩ : ∃ w3, w3 = w2.alloc (.cells #[.slice none 0 0] 28) := ⟨_, rfl⟩
  have hr3 : IsRTab w3 rb (rb + 1) (.slice none 0 0) [] := ⟨by rw [hw3, hrb]; exact new_at w2 _, World.ownsRow_nil _ _ _ _⟩
  have hba : Below w2.heap.size w2 w3 := by rw [hw3]; exact (Below.refl _ _).alloc (Nat.le_refl _) _
  have ht3 := ht2.below (_B := 0) hba
  have hB3 := hB2.trans (hba.mono (by omega))
  have hz3 : rb + 1 ≤ w3.heap.size := by rw [hw3, hrb, World.size_alloc]; exact Nat.le_refl _
  rw [← hw3, ← hrb]
  rw [← hrb] at hs2
  clear hw3 hrb hba ht2 hB2
  go_loopg [5] 30 (fun g i wi => ∃ (q : Nat) (L : List Sl) (u0 : Value), q ≤ ls.length ∧ q ≤ 30 ∧ g = 30 - q ∧ i = .int .i64 q ∧ L.length ≤ q ∧ IsTable wi ta ma L ∧ IsRTab wi rb (rb + 1) u0 L ∧ Below N w wi ∧ rb + 1 ≤ wi.heap.size)
  case atStart => exact ⟨0, [], _, Nat.zero_le _, Nat.zero_le _, rfl, rfl, Nat.le_refl _, ht3, hr3, hB3, hz3⟩
  case round =>
    obtain ⟨q, L, u0, hq, hq30, rfl, rfl, hLq, ht, hr, hW, hz⟩ := hrel
    clear ht3 hr3 hB3 hz3
    by_cases hlt : q < ls.length ∧ q < 30
    · obtain ⟨hql, hq3⟩ := hlt
      obtain ⟨b, off, rfl, hb, hat⟩ := HAT.out (by omega)
      rw [← HN.out] at hb
      obtain ⟨s, hs⟩ : ∃ s, ls[q]? = some s := ⟨_, List.getElem?_eq_getElem hql⟩
      obtain ⟨hok, hcells⟩ := hat q s hs
      have cc : ∀ i u, s.cells[i]? = some u → wr.cell? ⟨b, off + q * 7 + i, none⟩ = some u := fun i u hu => (hW.cell (p := ⟨b, off + q * 7 + i, none⟩) hb).trans (hcells i u hu)
      have c0 : wr.cell? ⟨b, off + q * 7, none⟩ = some (.int .u8 s.what) := cc 0 _ rfl
      have c1 : wr.cell? ⟨b, off + q * 7 + 1, none⟩ = some (.int .u8 s.k) := cc 1 _ rfl
      have c2 : wr.cell? ⟨b, off + q * 7 + 2, none⟩ = some (.int .u8 s.bend) := cc 2 _ rfl
      have c3 : wr.cell? ⟨b, off + q * 7 + 3, none⟩ = some (.int .i64 s.x.r) := cc 3 _ rfl
      have c4 : wr.cell? ⟨b, off + q * 7 + 4, none⟩ = some (.int .i64 s.x.c) := cc 4 _ rfl
      have c5 : wr.cell? ⟨b, off + q * 7 + 5, none⟩ = some (.int .u64 s.x.b) := cc 5 _ rfl
      have c6 : wr.cell? ⟨b, off + q * 7 + 6, none⟩ = some (.int .u64 s.x.n) := cc 6 _ rfl
      have hq0 : (0 : Int) ≤ (q : Int) := by omega
      have hqlI : (q : Int) < (ls.length : Int) := by omega
      have hq3I : (q : Int) < 30 := by omega
      clear cc hcells hat
      go_upto_region 9 with (fail)
      obtain ⟨w4, hw4⟩ : ∃ w4, w4 = wr.alloc (.cells s.cells 33) := ⟨_, rfl⟩
      obtain ⟨sb, hsb⟩ : ∃ sb, sb = wr.heap.size := ⟨_, rfl⟩
      have hba : Below wr.heap.size wr w4 := by rw [hw4]; exact (Below.refl _ _).alloc (Nat.le_refl _) _
      have hS4 : w4.heap[sb]? = some (.cells s.cells 33 (0, 0)) := by rw [hw4, hsb]; exact new_at wr _
      have ht4 := ht.below (_B := 0) hba
      have hr4 := hr.below hba
      have hol : ∀ g, u0.ownBlock = some g → g < sb := fun g e => by rw [hsb]; exact (hr.2.lt g e).2
      have hW4 := hW.trans (hba.mono (by omega))
      have hz4 : rb + 1 ≤ w4.heap.size := Nat.le_trans hz hba.size
      rw [show #[Value.int IntKind.u8 ↑s.what, Value.int IntKind.u8 ↑s.k, Value.int IntKind.u8 ↑s.bend, Value.int IntKind.i64 s.x.r, Value.int IntKind.i64 s.x.c, Value.int IntKind.u64 s.x.b, Value.int IntKind.u64 s.x.n] = s.cells from rfl]
      rw [← hw4, ← hsb]
      clear hw4 hsb hba ht hr hW hz c0 c1 c2 c3 c4 c5 c6
      obtain ⟨a, c, rfl⟩ := hr4.slice
      have hrc := cell_of (i := 0) hr4.1 rfl
      have p1 : w4.cell? ⟨sb, 1, none⟩ = some (.int .u8 s.k) := cell_of (i := 1) hS4 rfl
      have hne : (L.length : Int) + 1 ≠ 0 := by omega
      go_upto_region 10 with (fail)
      obtain ⟨j, hj⟩ : ∃ j, j = s.k % (L.length + 1) := ⟨_, rfl⟩
      have hkL : s.k % (L.length + 1) < L.length + 1 := Nat.mod_lt _ (by omega)
      have e1 : wrap64 ((s.k : Nat) : Int) = (s.k : Int) := by have := hok.2.1; unfold wrap64; omega
      have e2 : ((s.k : Nat) : Int).tmod ((L.length : Int) + 1) = (j : Int) := by
        rw [Int.tmod_eq_emod_of_nonneg (by omega), hj]
        push_cast
        rfl
      have e3 : wrap64 (1 + (j : Int)) = (j : Int) + 1 := by unfold wrap64; omega
      rw [e1, e2, e3]
      clear e1 e2 e3
      have hjl : j ≤ L.length := by omega
      clear hj hkL
      have hj0 : (0 : Int) ≤ (j : Int) := by omega
      have hjB : (j : Int) < 1000 := by omega
      go_wp2_with fail
      refine (rdigest_any ((j : Int) + 1) _ (by omega) (by omega)).mono ?_
      rintro e w5 ⟨rfl, hb5⟩
      rw [show ((j : Int) + 1).toNat = j + 1 by omega]
      have hS5 := below_at hb5 hS4 (lt_of_heap hS4)
      have ht5 := ht4.below (_B := 0) hb5
      have hr5 := hr4.below hb5
      have hW5 := hW4.trans (hb5.mono (by omega))
      have hz5 : rb + 1 ≤ w5.heap.size := Nat.le_trans hz4 hb5.size
      clear hb5 hS4 ht4 hr4 hW4 hz4 hrc p1 hne
      go_wp2_with ((with_reducible show wpList _ _ _ (⟨some 8, Op.alloc _, _, _, _, _⟩ :: _) _ _); refine Hid.out ?_)
      refine hide ?_
      refine law_allocK rfl 35 rfl (dg z32) zeroDig ?_
      intro w6 hg6 hw6 hs6
      have hb6 : Below w5.heap.size w5 w6 := below_grown (Below.refl _ _) hw6 (Nat.le_refl _) (by intro k e; cases e)
      go_wp2_with ((with_reducible show wpList _ _ _ (⟨none, Op.store _ _ _, _, _, _, _⟩ :: _) _ _); refine Hid.out ?_)
      refine hide ?_
      refine law_store rfl _ _ _ rfl w5.heap.size (dg (hd (j + 1))) rfl rfl _ (dg z32) hg6 (by rw [dg_size, hd_length]; exact sizeDig) (by rw [dg_size, dg_size, hd_length]; rfl) (dg_one _) ?_
      intro w7 hg7' hw7
      have hg7 := hg7'.out
      have hb7 : Below w5.heap.size w5 w7 := below_grown hb6 hw7 hb6.size (by intro k e; cases e; exact Nat.le_refl _)
      obtain ⟨db, hdb⟩ : ∃ db, db = w5.heap.size := ⟨_, rfl⟩
      have hS7 := below_at hb7 hS5 (lt_of_heap hS5)
      have ht7 := ht5.below (_B := 0) hb7
      have hr7 := hr5.below hb7
      have hW7 := hW5.trans (hb7.mono (by omega))
      have hz7 : rb + 1 ≤ db := by omega
      have hsd : sb < db := by have := lt_of_heap hS5; omega
      rw [← hdb] at hg7 ⊢
      clear hg7' hw7 hb7 hg6 hw6 hs6 hb6 hS5 ht5 hr5 hW5 hz5 hdb
      have x0 : w7.cell? ⟨sb, 3, none⟩ = some (.int .i64 s.x.r) := cell_of (i := 3) hS7 rfl
      have x1 : w7.cell? ⟨sb, 4, none⟩ = some (.int .i64 s.x.c) := cell_of (i := 4) hS7 rfl
      have x2 : w7.cell? ⟨sb, 5, none⟩ = some (.int .u64 s.x.b) := cell_of (i := 5) hS7 rfl
      have x3 : w7.cell? ⟨sb, 6, none⟩ = some (.int .u64 s.x.n) := cell_of (i := 6) hS7 rfl
      go_upto_region 12 with (fail)
      obtain ⟨w8, hw8⟩ : ∃ w8, w8 = w7.alloc (.cells s.x.cells 31) := ⟨_, rfl⟩
      obtain ⟨xb, hxb⟩ : ∃ xb, xb = w7.heap.size := ⟨_, rfl⟩
      have hb8 : Below w7.heap.size w7 w8 := by rw [hw8]; exact (Below.refl _ _).alloc (Nat.le_refl _) _
      have hX8 : w8.heap[xb]? = some (.cells s.x.cells 31 (0, 0)) := by rw [hw8, hxb]; exact new_at w7 _
      have hS8 := below_at hb8 hS7 (lt_of_heap hS7)
      have hd8 := below_at hb8 hg7 (lt_of_heap hg7)
      have ht8 := ht7.below (_B := 0) hb8
      have hr8 := hr7.below hb8
      have hdx : db < xb := by have := lt_of_heap hg7; omega
      have hW8 := hW7.trans (hb8.mono (by omega))
      rw [show #[Value.int IntKind.i64 s.x.r, Value.int IntKind.i64 s.x.c, Value.int IntKind.u64 s.x.b, Value.int IntKind.u64 s.x.n] = s.x.cells from rfl]
      rw [← hw8, ← hxb]
      clear hw8 hxb hb8 hS7 hg7 ht7 hr7 hW7 x0 x1 x2 x3
      have p0 : w8.cell? ⟨sb, 0, none⟩ = some (.int .u8 s.what) := cell_of (i := 0) hS8 rfl
      have hwB : (s.what : Int) < 256 := by have := hok.1; omega
      go_upto_block 2 with (fail)
      have hm : (s.what : Int) % 4 = 0 ∨ (s.what : Int) % 4 = 1 ∨ (s.what : Int) % 4 = 2 ∨ (s.what : Int) % 4 = 3 := by omega
      obtain ⟨m, hme⟩ : ∃ m : Int, m = (s.what : Int) % 4 := ⟨_, rfl⟩
      rw [← hme] at hm ⊢
      clear hme
      go_cut [75] from 45 to 110 (fun _ wc => ∃ (L' : List Sl) (u' : Value), L'.length ≤ q + 1 ∧ IsTable wc ta ma L' ∧ IsRTab wc rb (rb + 1) u' L' ∧ Below N w wc ∧ rb + 1 ≤ wc.heap.size)
      case first =>
        rcases hm with rfl | rfl | rfl | rfl
        · go_upto_region 20 with (fail)
          refine region_slots 5 [78, 79, 80, 81, 82] (by kernel_rfl) (by kernel_rfl) (by decide) rfl 117 rfl (by decide) (by kernel_rfl)
            (fun S v w1 => tcC N w ta ma rb xb (.slice a L.length c) L s.x S w1 ∧ ∀ j, j < 5 → S j = true → tcR ta L s.x j (v j) w1) ?_ ?_ ?_
          · intro v
            exact ⟨⟨hX8, hW8.drew, by have := lt_of_heap hX8; show rb + 1 ≤ w8.heap.size; omega, L, _, L, ht8.drew, ⟨hr8.1, own_keep_drew hr8.2⟩, fun _ => rfl, (fun h => by cases h), fun _ => ⟨rfl, rfl⟩, (fun h => by cases h)⟩, (fun _ _ h => by cases h)⟩
          · intro i hi
            match i, hi with
            | 0, _ =>
              intro S v w1 f o ho hf hI hS hall K Q' hK
              obtain rfl := Option.some.inj ho
              have e3 : f.tmps[3]?.getD undef = .pointer (some ⟨ta, 0, none⟩) := tmp_of (hf 3)
              simp [go_sem, e3]
              exact hK _ _ (SlotInv.step hI 0 _ (tcC_keep hI.1 0 (by decide) (by decide) rfl) (fun _ _ _ h => tcR_mono h) rfl)
            | 1, _ =>
              intro S v w1 f o ho hf hI hS hall K Q' hK
              obtain rfl := Option.some.inj ho
              have e9 : f.tmps[9]?.getD undef = .pointer (some ⟨xb, 0, none⟩) := tmp_of (hf 9)
              have c0 := cell_of (i := 0) hI.1.1 rfl
              have c1 := cell_of (i := 1) hI.1.1 rfl
              have c2 := cell_of (i := 2) hI.1.1 rfl
              have c3 := cell_of (i := 3) hI.1.1 rfl
              simp [go_sem, e9, c0, c1, c2, c3]
              exact hK _ _ (SlotInv.step hI 1 _ (tcC_keep hI.1 1 (by decide) (by decide) rfl) (fun _ _ _ h => tcR_mono h) rfl)
            | 3, _ =>
              intro S v w1 f o ho hf hI hS hall K Q' hK
              obtain rfl := Option.some.inj ho
              have e9 : f.tmps[9]?.getD undef = .pointer (some ⟨xb, 0, none⟩) := tmp_of (hf 9)
              have c0 := cell_of (i := 0) hI.1.1 rfl
              have c1 := cell_of (i := 1) hI.1.1 rfl
              have c2 := cell_of (i := 2) hI.1.1 rfl
              have c3 := cell_of (i := 3) hI.1.1 rfl
              simp [go_sem, e9, c0, c1, c2, c3]
              exact hK _ _ (SlotInv.step hI 3 _ (tcC_keep hI.1 3 (by decide) (by decide) rfl) (fun _ _ _ h => tcR_mono h) rfl)
            | 2, _ =>
              intro S v w1 f o ho hf hI hS hall K Q' hK
              obtain rfl := Option.some.inj ho
              have e78 : f.tmps[78]?.getD undef = .pointer (some ⟨ta, 0, none⟩) := tmp_of ((hf 78).trans (hI.2 0 (by decide) (edge_listed hall 0 (by kernel_rfl))))
              have e79 : f.tmps[79]?.getD undef = .agg s.x.cells := tmp_of ((hf 79).trans (hI.2 1 (by decide) (edge_listed hall 1 (by kernel_rfl))))
              obtain ⟨hx, hW, hz, TA, v', TB, hA, hB, ga, ga', gb, gb'⟩ := hI.1
              have eT := ga hS
              rw [eT] at hA
              simp [go_sem, e78, e79]
              refine (commit_any s.x w1 _ _ L hA (by omega)).mono ?_
              rintro e w2 ⟨rfl, ht2, hg2⟩
              refine hK _ _ (SlotInv.step hI 2 _ ?_ (fun _ _ _ h => tcR_mono h) rfl)
              refine ⟨(hg2.block xb (lt_of_heap hx) (by simp; omega)).trans hx, below_grown hW hg2 (by omega) (by intro k e; cases e; omega), Nat.le_trans hz hg2.size, L ++ [s.x], v', TB, ht2, hB.grown hg2 (by omega) (by omega), fun h => ?_, fun _ => rfl, gb, gb'⟩
              rw [show upd S 2 true 2 = true from if_pos rfl] at h; cases h
            | 4, _ =>
              intro S v w1 f o ho hf hI hS hall K Q' hK
              obtain rfl := Option.some.inj ho
              have e4 : f.tmps[4]?.getD undef = .pointer (some ⟨rb, 0, none⟩) := tmp_of (hf 4)
              have e81 : f.tmps[81]?.getD undef = .agg s.x.cells := tmp_of ((hf 81).trans (hI.2 3 (by decide) (edge_listed hall 3 (by kernel_rfl))))
              obtain ⟨hx, hW, hz, TA, v', TB, hA, hB, ga, ga', gb, gb'⟩ := hI.1
              obtain ⟨eT, eV⟩ := gb hS
              rw [eT, eV] at hB
              simp [go_sem, e4, e81]
              refine (rcommit_any s.x w1 rb (rb + 1) _ L (by omega) hB hz (by omega)).mono ?_
              rintro e w2 ⟨rfl, ⟨v2, ht2⟩, hb2, hk2⟩
              refine hK _ _ (SlotInv.step hI 4 _ ?_ (fun _ _ _ h => tcR_mono h) rfl)
              refine ⟨(hk2 xb (lt_of_heap hx) (by omega) (fun e => by have := hol xb e.symm; omega)).trans hx, hW.trans (hb2.mono (by omega)), Nat.le_of_lt_succ (Nat.lt_succ_of_lt (lt_of_heap ht2.1)) |> fun _ => Nat.succ_le_of_lt (lt_of_heap ht2.1), TA, v2, L ++ [s.x], ⟨(hb2.block ta (by omega)).trans hA.tab, (hb2.block ma (by omega)).trans hA.map⟩, ht2, ga, ga', fun h => ?_, fun _ => rfl⟩
              rw [show upd S 4 true 4 = true from if_pos rfl] at h; cases h
            | i + 5, hi => exact absurd hi (by omega)
          · intro S v wh hS hI
            have e0 : v 0 = .pointer (some ⟨ta, 0, none⟩) := hI.2 0 (by decide) (hS 0 (by decide))
            have e1 : v 1 = .agg s.x.cells := hI.2 1 (by decide) (hS 1 (by decide))
            have e2 : v 2 = .agg (dg (hd (L.length + 1))) := hI.2 2 (by decide) (hS 2 (by decide))
            have e3 : v 3 = .agg s.x.cells := hI.2 3 (by decide) (hS 3 (by decide))
            have e4 : v 4 = .agg (dg (hd (L.length + 1))) := hI.2 4 (by decide) (hS 4 (by decide))
            obtain ⟨hx, hW, hz, TA, v', TB, hA, hB, _, ga, _, gb⟩ := hI.1
            obtain rfl := ga (hS 2 (by decide))
            obtain rfl := gb (hS 4 (by decide))
            simp only [putSlots, Act.put, List.setIfInBounds_toArray, List.set_cons_succ, List.set_cons_zero, List.drop_succ_cons, List.drop_zero, e0, e1, e2, e3, e4]
            clear hI hS e0 e1 e2 e3 e4 ga gb
            have hqq : (dg (hd (L.length + 1))) = dg (hd (L.length + 1)) := rfl
            have hlen : (hd (L.length + 1)).length = 32 := hd_length _
            go_wp2
            go_meet
            case rel => exact ⟨L ++ [s.x], v', by simp; omega, hA, hB, hW, hz⟩
        · go_upto_region 20 with (fail)
          refine region_slots 5 [78, 79, 80, 81, 82] (by kernel_rfl) (by kernel_rfl) (by decide) rfl 117 rfl (by decide) (by kernel_rfl)
            (fun S v w1 => tcC N w ta ma rb xb (.slice a L.length c) L s.x S w1 ∧ ∀ j, j < 5 → S j = true → tcR ta L s.x j (v j) w1) ?_ ?_ ?_
          · intro v
            exact ⟨⟨hX8, hW8.drew, by have := lt_of_heap hX8; show rb + 1 ≤ w8.heap.size; omega, L, _, L, ht8.drew, ⟨hr8.1, own_keep_drew hr8.2⟩, fun _ => rfl, (fun h => by cases h), fun _ => ⟨rfl, rfl⟩, (fun h => by cases h)⟩, (fun _ _ h => by cases h)⟩
          · intro i hi
            match i, hi with
            | 0, _ =>
              intro S v w1 f o ho hf hI hS hall K Q' hK
              obtain rfl := Option.some.inj ho
              have e3 : f.tmps[3]?.getD undef = .pointer (some ⟨ta, 0, none⟩) := tmp_of (hf 3)
              simp [go_sem, e3]
              exact hK _ _ (SlotInv.step hI 0 _ (tcC_keep hI.1 0 (by decide) (by decide) rfl) (fun _ _ _ h => tcR_mono h) rfl)
            | 1, _ =>
              intro S v w1 f o ho hf hI hS hall K Q' hK
              obtain rfl := Option.some.inj ho
              have e9 : f.tmps[9]?.getD undef = .pointer (some ⟨xb, 0, none⟩) := tmp_of (hf 9)
              have c0 := cell_of (i := 0) hI.1.1 rfl
              have c1 := cell_of (i := 1) hI.1.1 rfl
              have c2 := cell_of (i := 2) hI.1.1 rfl
              have c3 := cell_of (i := 3) hI.1.1 rfl
              simp [go_sem, e9, c0, c1, c2, c3]
              exact hK _ _ (SlotInv.step hI 1 _ (tcC_keep hI.1 1 (by decide) (by decide) rfl) (fun _ _ _ h => tcR_mono h) rfl)
            | 3, _ =>
              intro S v w1 f o ho hf hI hS hall K Q' hK
              obtain rfl := Option.some.inj ho
              have e9 : f.tmps[9]?.getD undef = .pointer (some ⟨xb, 0, none⟩) := tmp_of (hf 9)
              have c0 := cell_of (i := 0) hI.1.1 rfl
              have c1 := cell_of (i := 1) hI.1.1 rfl
              have c2 := cell_of (i := 2) hI.1.1 rfl
              have c3 := cell_of (i := 3) hI.1.1 rfl
              simp [go_sem, e9, c0, c1, c2, c3]
              exact hK _ _ (SlotInv.step hI 3 _ (tcC_keep hI.1 3 (by decide) (by decide) rfl) (fun _ _ _ h => tcR_mono h) rfl)
            | 2, _ =>
              intro S v w1 f o ho hf hI hS hall K Q' hK
              obtain rfl := Option.some.inj ho
              have e78 : f.tmps[78]?.getD undef = .pointer (some ⟨ta, 0, none⟩) := tmp_of ((hf 78).trans (hI.2 0 (by decide) (edge_listed hall 0 (by kernel_rfl))))
              have e79 : f.tmps[79]?.getD undef = .agg s.x.cells := tmp_of ((hf 79).trans (hI.2 1 (by decide) (edge_listed hall 1 (by kernel_rfl))))
              obtain ⟨hx, hW, hz, TA, v', TB, hA, hB, ga, ga', gb, gb'⟩ := hI.1
              have eT := ga hS
              rw [eT] at hA
              simp [go_sem, e78, e79]
              refine (commit_any s.x w1 _ _ L hA (by omega)).mono ?_
              rintro e w2 ⟨rfl, ht2, hg2⟩
              refine hK _ _ (SlotInv.step hI 2 _ ?_ (fun _ _ _ h => tcR_mono h) rfl)
              refine ⟨(hg2.block xb (lt_of_heap hx) (by simp; omega)).trans hx, below_grown hW hg2 (by omega) (by intro k e; cases e; omega), Nat.le_trans hz hg2.size, L ++ [s.x], v', TB, ht2, hB.grown hg2 (by omega) (by omega), fun h => ?_, fun _ => rfl, gb, gb'⟩
              rw [show upd S 2 true 2 = true from if_pos rfl] at h; cases h
            | 4, _ =>
              intro S v w1 f o ho hf hI hS hall K Q' hK
              obtain rfl := Option.some.inj ho
              have e4 : f.tmps[4]?.getD undef = .pointer (some ⟨rb, 0, none⟩) := tmp_of (hf 4)
              have e81 : f.tmps[81]?.getD undef = .agg s.x.cells := tmp_of ((hf 81).trans (hI.2 3 (by decide) (edge_listed hall 3 (by kernel_rfl))))
              obtain ⟨hx, hW, hz, TA, v', TB, hA, hB, ga, ga', gb, gb'⟩ := hI.1
              obtain ⟨eT, eV⟩ := gb hS
              rw [eT, eV] at hB
              simp [go_sem, e4, e81]
              refine (rcommit_any s.x w1 rb (rb + 1) _ L (by omega) hB hz (by omega)).mono ?_
              rintro e w2 ⟨rfl, ⟨v2, ht2⟩, hb2, hk2⟩
              refine hK _ _ (SlotInv.step hI 4 _ ?_ (fun _ _ _ h => tcR_mono h) rfl)
              refine ⟨(hk2 xb (lt_of_heap hx) (by omega) (fun e => by have := hol xb e.symm; omega)).trans hx, hW.trans (hb2.mono (by omega)), Nat.le_of_lt_succ (Nat.lt_succ_of_lt (lt_of_heap ht2.1)) |> fun _ => Nat.succ_le_of_lt (lt_of_heap ht2.1), TA, v2, L ++ [s.x], ⟨(hb2.block ta (by omega)).trans hA.tab, (hb2.block ma (by omega)).trans hA.map⟩, ht2, ga, ga', fun h => ?_, fun _ => rfl⟩
              rw [show upd S 4 true 4 = true from if_pos rfl] at h; cases h
            | i + 5, hi => exact absurd hi (by omega)
          · intro S v wh hS hI
            have e0 : v 0 = .pointer (some ⟨ta, 0, none⟩) := hI.2 0 (by decide) (hS 0 (by decide))
            have e1 : v 1 = .agg s.x.cells := hI.2 1 (by decide) (hS 1 (by decide))
            have e2 : v 2 = .agg (dg (hd (L.length + 1))) := hI.2 2 (by decide) (hS 2 (by decide))
            have e3 : v 3 = .agg s.x.cells := hI.2 3 (by decide) (hS 3 (by decide))
            have e4 : v 4 = .agg (dg (hd (L.length + 1))) := hI.2 4 (by decide) (hS 4 (by decide))
            obtain ⟨hx, hW, hz, TA, v', TB, hA, hB, _, ga, _, gb⟩ := hI.1
            obtain rfl := ga (hS 2 (by decide))
            obtain rfl := gb (hS 4 (by decide))
            simp only [putSlots, Act.put, List.setIfInBounds_toArray, List.set_cons_succ, List.set_cons_zero, List.drop_succ_cons, List.drop_zero, e0, e1, e2, e3, e4]
            clear hI hS e0 e1 e2 e3 e4 ga gb
            have hqq : (dg (hd (L.length + 1))) = dg (hd (L.length + 1)) := rfl
            have hlen : (hd (L.length + 1)).length = 32 := hd_length _
            go_wp2
            go_meet
            case rel => exact ⟨L ++ [s.x], v', by simp; omega, hA, hB, hW, hz⟩
        · have hrc8 := cell_of (i := 0) hr8.1 rfl
          have p2 : w8.cell? ⟨sb, 2, none⟩ = some (.int .u8 s.bend) := cell_of (i := 2) hS8 rfl
          have hbB : (s.bend : Int) < 256 := by have := hok.2.2; omega
          have hLB : (L.length : Int) < 1000 := by omega
          have hbm : (s.bend : Int) % 2 = 0 ∨ (s.bend : Int) % 2 = 1 := by omega
          by_cases hjL : j < L.length
          · have hjI : (j : Int) + 1 ≤ (L.length : Int) := by omega
            rcases hbm with hb0 | hb0
            · have hb1 : ((s.bend : Int) % 2 == 0) = true := by simp [hb0]
              obtain ⟨y, hy⟩ : ∃ y, L[j]? = some y := ⟨_, List.getElem?_eq_getElem hjL⟩
              obtain ⟨g, rfl, hgb, hgc⟩ := hr8.row hy
              have y0 : w8.cell? ⟨g, j * 4, none⟩ = some (.int .i64 y.r) := hgc 0 _ (by decide) rfl
              have y1 : w8.cell? ⟨g, j * 4 + 1, none⟩ = some (.int .i64 y.c) := hgc 1 _ (by decide) rfl
              have y2 : w8.cell? ⟨g, j * 4 + 2, none⟩ = some (.int .u64 y.b) := hgc 2 _ (by decide) rfl
              have y3 : w8.cell? ⟨g, j * 4 + 3, none⟩ = some (.int .u64 y.n) := hgc 3 _ (by decide) rfl
              have hgx : g < sb := hol g rfl
              clear hgc hy
              go_upto_region 24 with (fail)
              go_wp2_with ((with_reducible show wpList _ _ _ (⟨none, Op.store 31 _ _, _, _, _, _⟩ :: _) _ _); refine Hid.out ?_)
              refine hide ?_
              refine wpList_store_whole rfl rfl _ _ _ rfl xb y.cells s.x.cells _ rfl rfl hX8 sealedU rfl (by simp [Sl.cells, Value.oneCell']) ?_
              intro w9 X9 hso hsz9 hbl
              have D9 := (hso db (by omega)).trans hd8
              have S9 := (hso sb (by omega)).trans hS8
              have T9 : IsTable w9 ta ma L := ⟨(hso ta (by omega)).trans ht8.tab, (hso ma (by omega)).trans ht8.map⟩
              have R9 : IsRTab w9 rb (rb + 1) (.slice (some ⟨g, 0, none⟩) L.length c) L := by
                refine ⟨(hso rb (by omega)).trans hr8.1, hr8.2.1, ?_⟩
                rcases hr8.2.2 with ⟨hn, _⟩ | ⟨g', cap, cur, hv, hbb, hgg, rest⟩
                · cases hn
                · refine .inr ⟨g', cap, cur, hv, hbb, (hso g' ?_).trans hgg, rest⟩
                  cases hv
                  omega
              have W9 := hbl N w (by omega) hW8
              have Z9 : rb + 1 ≤ w9.heap.size := by have := lt_of_heap X9; omega
              clear hso hsz9 hbl y0 y1 y2 y3 hX8 hd8 ht8 hr8 hW8 hS8 p0 hrc8 p2
              have hlen : ((hd (j + 1)) : List UInt8).length = 32 := by simp [hd_length]
              go_upto_region 25 with (fail)
              have hcls : TC N w ta ma rb (.slice (some ⟨g, 0, none⟩) L.length c) L xb y db (hd (j + 1)) w9.drew := ⟨X9, D9, T9.drew, ⟨R9.1, own_keep_drew R9.2⟩, W9.drew, Z9⟩
              refine region_quiet_list (C := TC N w ta ma rb (.slice (some ⟨g, 0, none⟩) L.length c) L xb y db (hd (j + 1))) (by kernel_rfl) (by kernel_rfl) hcls ?_
              iterate 1 (go_big_quiet_want; go_big_quiet_op; first | go_big_quiet_on | (refine ⟨_, fun _ _ => rfl, ?_⟩; go_big_quiet_on))
              go_big_quiet_want; go_big_quiet_op; refine ⟨.agg (dg (hd (j + 1))), fun wq hq => ?_, ?_⟩
              · have q1 : objAt wq db = some (.cells (dg (hd (j + 1))) 35 (0, 0)) := hq.2.1
                simp [q1, dg_size, hlen]
              go_big_quiet_on
              go_big_quiet_want; go_big_quiet_op; refine ⟨.agg y.cells, fun wq hq => ?_, ?_⟩
              · have c0 := cell_of (i := 0) hq.1 rfl
                have c1 := cell_of (i := 1) hq.1 rfl
                have c2 := cell_of (i := 2) hq.1 rfl
                have c3 := cell_of (i := 3) hq.1 rfl
                simp [c0, c1, c2, c3, Result.andThen]; rfl
              go_big_quiet_on
              go_big_quiet_want; go_big_quiet_op; refine ⟨.bool (opensF L (hd (j + 1)) y), fun wq hq => (opens_any (hd (j + 1)) hlen y wq _ _ _ hq.2.2.1).mono fun e w' ⟨he, hb⟩ => ⟨he, hq.below hb⟩, ?_⟩
              go_big_quiet_on
              go_big_quiet_want; go_big_quiet_op; refine ⟨.agg (dg (hd (j + 1))), fun wq hq => ?_, ?_⟩
              · have q1 : objAt wq db = some (.cells (dg (hd (j + 1))) 35 (0, 0)) := hq.2.1
                simp [q1, dg_size, hlen]
              go_big_quiet_on
              go_big_quiet_want; go_big_quiet_op; refine ⟨.agg y.cells, fun wq hq => ?_, ?_⟩
              · have c0 := cell_of (i := 0) hq.1 rfl
                have c1 := cell_of (i := 1) hq.1 rfl
                have c2 := cell_of (i := 2) hq.1 rfl
                have c3 := cell_of (i := 3) hq.1 rfl
                simp [c0, c1, c2, c3, Result.andThen]; rfl
              go_big_quiet_on
              go_big_quiet_want; go_big_quiet_op; refine ⟨.bool (opensF L (hd (j + 1)) y), fun wq hq => (ropens_any (hd (j + 1)) hlen y wq rb (rb + 1) _ L (by omega) hq.2.2.2.1).mono fun e w' ⟨he, hb⟩ => ⟨he, hq.below hb⟩, ?_⟩
              go_big_quiet_on
              go_big_quiet_want; go_big_quiet_op; refine ⟨.bool false, fun wq hq => ?_, ?_⟩
              · simp
              go_big_quiet_on
              refine wpQuiet_nil ?_
              clear hcls
              intro wd hq
              go_wp2
              go_meet
              case rel => exact ⟨L, _, by omega, hq.2.2.1, hq.2.2.2.1, hq.2.2.2.2.1, hq.2.2.2.2.2⟩
            · have hb1 : ((s.bend : Int) % 2 == 0) = false := by simp [hb0]
              have X9 := hX8
              have D9 := hd8
              have S9 := hS8
              have T9 := ht8
              have R9 := hr8
              have W9 := hW8
              have Z9 : rb + 1 ≤ w8.heap.size := by have := lt_of_heap hX8; omega
              have hlen : ((hd (j + 1)) : List UInt8).length = 32 := by simp [hd_length]
              go_upto_region 25 with (fail)
              have hcls : TC N w ta ma rb (.slice a L.length c) L xb s.x db (hd (j + 1)) w8.drew := ⟨X9, D9, T9.drew, ⟨R9.1, own_keep_drew R9.2⟩, W9.drew, Z9⟩
              refine region_quiet_list (C := TC N w ta ma rb (.slice a L.length c) L xb s.x db (hd (j + 1))) (by kernel_rfl) (by kernel_rfl) hcls ?_
              iterate 1 (go_big_quiet_want; go_big_quiet_op; first | go_big_quiet_on | (refine ⟨_, fun _ _ => rfl, ?_⟩; go_big_quiet_on))
              go_big_quiet_want; go_big_quiet_op; refine ⟨.agg (dg (hd (j + 1))), fun wq hq => ?_, ?_⟩
              · have q1 : objAt wq db = some (.cells (dg (hd (j + 1))) 35 (0, 0)) := hq.2.1
                simp [q1, dg_size, hlen]
              go_big_quiet_on
              go_big_quiet_want; go_big_quiet_op; refine ⟨.agg s.x.cells, fun wq hq => ?_, ?_⟩
              · have c0 := cell_of (i := 0) hq.1 rfl
                have c1 := cell_of (i := 1) hq.1 rfl
                have c2 := cell_of (i := 2) hq.1 rfl
                have c3 := cell_of (i := 3) hq.1 rfl
                simp [c0, c1, c2, c3, Result.andThen]; rfl
              go_big_quiet_on
              go_big_quiet_want; go_big_quiet_op; refine ⟨.bool (opensF L (hd (j + 1)) s.x), fun wq hq => (opens_any (hd (j + 1)) hlen s.x wq _ _ _ hq.2.2.1).mono fun e w' ⟨he, hb⟩ => ⟨he, hq.below hb⟩, ?_⟩
              go_big_quiet_on
              go_big_quiet_want; go_big_quiet_op; refine ⟨.agg (dg (hd (j + 1))), fun wq hq => ?_, ?_⟩
              · have q1 : objAt wq db = some (.cells (dg (hd (j + 1))) 35 (0, 0)) := hq.2.1
                simp [q1, dg_size, hlen]
              go_big_quiet_on
              go_big_quiet_want; go_big_quiet_op; refine ⟨.agg s.x.cells, fun wq hq => ?_, ?_⟩
              · have c0 := cell_of (i := 0) hq.1 rfl
                have c1 := cell_of (i := 1) hq.1 rfl
                have c2 := cell_of (i := 2) hq.1 rfl
                have c3 := cell_of (i := 3) hq.1 rfl
                simp [c0, c1, c2, c3, Result.andThen]; rfl
              go_big_quiet_on
              go_big_quiet_want; go_big_quiet_op; refine ⟨.bool (opensF L (hd (j + 1)) s.x), fun wq hq => (ropens_any (hd (j + 1)) hlen s.x wq rb (rb + 1) _ L (by omega) hq.2.2.2.1).mono fun e w' ⟨he, hb⟩ => ⟨he, hq.below hb⟩, ?_⟩
              go_big_quiet_on
              go_big_quiet_want; go_big_quiet_op; refine ⟨.bool false, fun wq hq => ?_, ?_⟩
              · simp
              go_big_quiet_on
              refine wpQuiet_nil ?_
              clear hcls
              intro wd hq
              go_wp2
              go_meet
              case rel => exact ⟨L, _, by omega, hq.2.2.1, hq.2.2.2.1, hq.2.2.2.2.1, hq.2.2.2.2.2⟩
          · have hjI : ¬ (j : Int) + 1 ≤ (L.length : Int) := by omega
            have X9 := hX8
            have D9 := hd8
            have S9 := hS8
            have T9 := ht8
            have R9 := hr8
            have W9 := hW8
            have Z9 : rb + 1 ≤ w8.heap.size := by have := lt_of_heap hX8; omega
            have hlen : ((hd (j + 1)) : List UInt8).length = 32 := by simp [hd_length]
            go_upto_region 25 with (fail)
            have hcls : TC N w ta ma rb (.slice a L.length c) L xb s.x db (hd (j + 1)) w8.drew := ⟨X9, D9, T9.drew, ⟨R9.1, own_keep_drew R9.2⟩, W9.drew, Z9⟩
            refine region_quiet_list (C := TC N w ta ma rb (.slice a L.length c) L xb s.x db (hd (j + 1))) (by kernel_rfl) (by kernel_rfl) hcls ?_
            iterate 1 (go_big_quiet_want; go_big_quiet_op; first | go_big_quiet_on | (refine ⟨_, fun _ _ => rfl, ?_⟩; go_big_quiet_on))
            go_big_quiet_want; go_big_quiet_op; refine ⟨.agg (dg (hd (j + 1))), fun wq hq => ?_, ?_⟩
            · have q1 : objAt wq db = some (.cells (dg (hd (j + 1))) 35 (0, 0)) := hq.2.1
              simp [q1, dg_size, hlen]
            go_big_quiet_on
            go_big_quiet_want; go_big_quiet_op; refine ⟨.agg s.x.cells, fun wq hq => ?_, ?_⟩
            · have c0 := cell_of (i := 0) hq.1 rfl
              have c1 := cell_of (i := 1) hq.1 rfl
              have c2 := cell_of (i := 2) hq.1 rfl
              have c3 := cell_of (i := 3) hq.1 rfl
              simp [c0, c1, c2, c3, Result.andThen]; rfl
            go_big_quiet_on
            go_big_quiet_want; go_big_quiet_op; refine ⟨.bool (opensF L (hd (j + 1)) s.x), fun wq hq => (opens_any (hd (j + 1)) hlen s.x wq _ _ _ hq.2.2.1).mono fun e w' ⟨he, hb⟩ => ⟨he, hq.below hb⟩, ?_⟩
            go_big_quiet_on
            go_big_quiet_want; go_big_quiet_op; refine ⟨.agg (dg (hd (j + 1))), fun wq hq => ?_, ?_⟩
            · have q1 : objAt wq db = some (.cells (dg (hd (j + 1))) 35 (0, 0)) := hq.2.1
              simp [q1, dg_size, hlen]
            go_big_quiet_on
            go_big_quiet_want; go_big_quiet_op; refine ⟨.agg s.x.cells, fun wq hq => ?_, ?_⟩
            · have c0 := cell_of (i := 0) hq.1 rfl
              have c1 := cell_of (i := 1) hq.1 rfl
              have c2 := cell_of (i := 2) hq.1 rfl
              have c3 := cell_of (i := 3) hq.1 rfl
              simp [c0, c1, c2, c3, Result.andThen]; rfl
            go_big_quiet_on
            go_big_quiet_want; go_big_quiet_op; refine ⟨.bool (opensF L (hd (j + 1)) s.x), fun wq hq => (ropens_any (hd (j + 1)) hlen s.x wq rb (rb + 1) _ L (by omega) hq.2.2.2.1).mono fun e w' ⟨he, hb⟩ => ⟨he, hq.below hb⟩, ?_⟩
            go_big_quiet_on
            go_big_quiet_want; go_big_quiet_op; refine ⟨.bool false, fun wq hq => ?_, ?_⟩
            · simp
            go_big_quiet_on
            refine wpQuiet_nil ?_
            clear hcls
            intro wd hq
            go_wp2
            go_meet
            case rel => exact ⟨L, _, by omega, hq.2.2.1, hq.2.2.2.1, hq.2.2.2.2.1, hq.2.2.2.2.2⟩
        · have hrc8 := cell_of (i := 0) hr8.1 rfl
          have p2 : w8.cell? ⟨sb, 2, none⟩ = some (.int .u8 s.bend) := cell_of (i := 2) hS8 rfl
          have hbB : (s.bend : Int) < 256 := by have := hok.2.2; omega
          have hLB : (L.length : Int) < 1000 := by omega
          by_cases hjL : j < L.length
          · have hjI : (j : Int) + 1 ≤ (L.length : Int) := by omega
            obtain ⟨y, hy⟩ : ∃ y, L[j]? = some y := ⟨_, List.getElem?_eq_getElem hjL⟩
            obtain ⟨g, rfl, hgb, hgc⟩ := hr8.row hy
            have y0 : w8.cell? ⟨g, j * 4, none⟩ = some (.int .i64 y.r) := hgc 0 _ (by decide) rfl
            have y1 : w8.cell? ⟨g, j * 4 + 1, none⟩ = some (.int .i64 y.c) := hgc 1 _ (by decide) rfl
            have y2 : w8.cell? ⟨g, j * 4 + 2, none⟩ = some (.int .u64 y.b) := hgc 2 _ (by decide) rfl
            have y3 : w8.cell? ⟨g, j * 4 + 3, none⟩ = some (.int .u64 y.n) := hgc 3 _ (by decide) rfl
            have hgx : g < sb := hol g rfl
            clear hgc hy
            go_upto_region 14 with (fail)
            go_wp2_with ((with_reducible show wpList _ _ _ (⟨none, Op.store 31 _ _, _, _, _, _⟩ :: _) _ _); refine Hid.out ?_)
            refine hide ?_
            refine wpList_store_whole rfl rfl _ _ _ rfl xb y.cells s.x.cells _ rfl rfl hX8 sealedU rfl (by simp [Sl.cells, Value.oneCell']) ?_
            intro w9 X9 hso hsz9 hbl
            have D9 := (hso db (by omega)).trans hd8
            have S9 := (hso sb (by omega)).trans hS8
            have T9 : IsTable w9 ta ma L := ⟨(hso ta (by omega)).trans ht8.tab, (hso ma (by omega)).trans ht8.map⟩
            have R9 : IsRTab w9 rb (rb + 1) (.slice (some ⟨g, 0, none⟩) L.length c) L := by
              refine ⟨(hso rb (by omega)).trans hr8.1, hr8.2.1, ?_⟩
              rcases hr8.2.2 with ⟨hn, _⟩ | ⟨g', cap, cur, hv, hbb, hgg, rest⟩
              · cases hn
              · refine .inr ⟨g', cap, cur, hv, hbb, (hso g' ?_).trans hgg, rest⟩
                cases hv
                omega
            have W9 := hbl N w (by omega) hW8
            have Z9 : rb + 1 ≤ w9.heap.size := by have := lt_of_heap X9; omega
            clear hso hsz9 hbl y0 y1 y2 y3 hX8 hd8 ht8 hr8 hW8 hS8 p0 hrc8 p2
            have q1 : w9.cell? ⟨sb, 1, none⟩ = some (.int .u8 s.k) := cell_of (i := 1) S9 rfl
            have q2 : w9.cell? ⟨sb, 2, none⟩ = some (.int .u8 s.bend) := cell_of (i := 2) S9 rfl
            obtain ⟨i, hi, hil⟩ : ∃ i : Nat, (s.bend : Int) % 32 = (i : Int) ∧ i < 32 := ⟨s.bend % 32, by omega, by omega⟩
            have hil' : i < (hd (j + 1)).length := by rw [hd_length]; exact hil
            have q3 : w9.cell? ⟨db, i, none⟩ = some (.int .u8 (((hd (j + 1))[i].toNat : Nat) : Int)) := cell_of D9 (by simp [dg, Lib.byteCells, hil'])
            have hiI : (i : Int) < 32 := by omega
            have hi0 : (0 : Int) ≤ (i : Int) := by omega
            generalize (hd (j + 1))[i].toNat = bt at q3
            have hkB : (s.k : Int) < 256 := by have := hok.2.1; omega
            obtain ⟨n, hn, hxe⟩ := xor_u8 (bt : Int) (1 + (s.k : Int) % 3)
            go_upto_region 15 with (fail)
            refine region_tail 11 (by kernel_rfl) (by kernel_rfl) ?_
            simp only [List.take_succ_cons, List.take_zero, List.drop_succ_cons, List.drop_zero]
            iterate 2 (go_big_quiet_want; go_big_quiet_op; first | go_big_quiet_on | (refine ⟨_, fun wq hq => by subst hq; simp [q2]; rfl, ?_⟩; go_big_quiet_on))
            go_big_quiet_want; go_big_quiet_op; first | go_big_quiet_on | (refine ⟨.int .u8 (i : Int), fun wq hq => by subst hq; simp [hi], ?_⟩; go_big_quiet_on)
            go_big_quiet_want; go_big_quiet_op; first | go_big_quiet_on | (refine ⟨.pointer (some ⟨db, i, none⟩), fun wq hq => by subst hq; simp [go_sem], ?_⟩; go_big_quiet_on)
            go_big_quiet_want; go_big_quiet_op; first | go_big_quiet_on | (refine ⟨.int .u8 (bt : Int), fun wq hq => by subst hq; simp [q3], ?_⟩; go_big_quiet_on)
            iterate 4 (go_big_quiet_want; go_big_quiet_op; first | go_big_quiet_on | (refine ⟨_, fun wq hq => by subst hq; simp [q1]; rfl, ?_⟩; go_big_quiet_on))
            iterate 2 (go_big_quiet_want; go_big_quiet_op; first | go_big_quiet_on | (refine ⟨.int .u8 (n : Int), fun wq hq => by subst hq; simp [hxe], ?_⟩; go_big_quiet_on))
            refine wpQuiet_nil ?_
            refine law_storeByte rfl _ _ _ rfl Try.underlying5 sizeU8 db i (n : Int) rfl rfl (by omega) (by omega) (hd (j + 1)) _ D9 hil' ?_
            intro w10 hg10 hw10
            simp only [Act.put]
            obtain ⟨d', hd', hdl⟩ : ∃ d' : List UInt8, d' = (hd (j + 1)).set i (UInt8.ofNat ((n : Nat) : Int).toNat) ∧ d'.length = 32 := ⟨_, rfl, by simp [hd_length]⟩
            have D10 := hg10.out
            rw [← hd'] at D10
            have X10 := (hw10.block xb (lt_of_heap X9) (by simp; omega)).trans X9
            have T10 : IsTable w10 ta ma L := ⟨(hw10.block ta (lt_of_heap T9.tab) (by simp; omega)).trans T9.tab, (hw10.block ma (lt_of_heap T9.map) (by simp; omega)).trans T9.map⟩
            have R10 : IsRTab w10 rb (rb + 1) (.slice (some ⟨g, 0, none⟩) L.length c) L := by
              refine ⟨(hw10.block rb (lt_of_heap R9.1) (by simp; omega)).trans R9.1, R9.2.1, ?_⟩
              rcases R9.2.2 with hn | ⟨g', cap, cur, hv, hbb, hgg, rest⟩
              · exact .inl hn
              · refine .inr ⟨g', cap, cur, hv, hbb, (hw10.block g' (lt_of_heap hgg) ?_).trans hgg, rest⟩
                have := hol g' (by rw [hv]; rfl)
                simp; omega
            have W10 := below_grown (B := N) W9.drew hw10 (by show N ≤ w9.heap.size; omega) (by intro k e; cases e; omega)
            have Z10 : rb + 1 ≤ w10.heap.size := Nat.le_trans Z9 hw10.size
            clear D9 X9 S9 T9 R9 W9 Z9 hg10 hw10 q1 q2 q3 hxe hn hi hd'
            have hlen : (d' : List UInt8).length = 32 := by exact hdl
            go_upto_region 16 with (fail)
            have hcls : TC N w ta ma rb (.slice (some ⟨g, 0, none⟩) L.length c) L xb y db d' w10.drew := ⟨X10, D10, T10.drew, ⟨R10.1, own_keep_drew R10.2⟩, W10.drew, Z10⟩
            refine region_quiet_list (C := TC N w ta ma rb (.slice (some ⟨g, 0, none⟩) L.length c) L xb y db d') (by kernel_rfl) (by kernel_rfl) hcls ?_
            iterate 1 (go_big_quiet_want; go_big_quiet_op; first | go_big_quiet_on | (refine ⟨_, fun _ _ => rfl, ?_⟩; go_big_quiet_on))
            go_big_quiet_want; go_big_quiet_op; refine ⟨.agg (dg d'), fun wq hq => ?_, ?_⟩
            · have q1 : objAt wq db = some (.cells (dg d') 35 (0, 0)) := hq.2.1
              simp [q1, dg_size, hlen]
            go_big_quiet_on
            go_big_quiet_want; go_big_quiet_op; refine ⟨.agg y.cells, fun wq hq => ?_, ?_⟩
            · have c0 := cell_of (i := 0) hq.1 rfl
              have c1 := cell_of (i := 1) hq.1 rfl
              have c2 := cell_of (i := 2) hq.1 rfl
              have c3 := cell_of (i := 3) hq.1 rfl
              simp [c0, c1, c2, c3, Result.andThen]; rfl
            go_big_quiet_on
            go_big_quiet_want; go_big_quiet_op; refine ⟨.bool (opensF L d' y), fun wq hq => (opens_any d' hlen y wq _ _ _ hq.2.2.1).mono fun e w' ⟨he, hb⟩ => ⟨he, hq.below hb⟩, ?_⟩
            go_big_quiet_on
            go_big_quiet_want; go_big_quiet_op; refine ⟨.agg (dg d'), fun wq hq => ?_, ?_⟩
            · have q1 : objAt wq db = some (.cells (dg d') 35 (0, 0)) := hq.2.1
              simp [q1, dg_size, hlen]
            go_big_quiet_on
            go_big_quiet_want; go_big_quiet_op; refine ⟨.agg y.cells, fun wq hq => ?_, ?_⟩
            · have c0 := cell_of (i := 0) hq.1 rfl
              have c1 := cell_of (i := 1) hq.1 rfl
              have c2 := cell_of (i := 2) hq.1 rfl
              have c3 := cell_of (i := 3) hq.1 rfl
              simp [c0, c1, c2, c3, Result.andThen]; rfl
            go_big_quiet_on
            go_big_quiet_want; go_big_quiet_op; refine ⟨.bool (opensF L d' y), fun wq hq => (ropens_any d' hlen y wq rb (rb + 1) _ L (by omega) hq.2.2.2.1).mono fun e w' ⟨he, hb⟩ => ⟨he, hq.below hb⟩, ?_⟩
            go_big_quiet_on
            go_big_quiet_want; go_big_quiet_op; refine ⟨.bool false, fun wq hq => ?_, ?_⟩
            · simp
            go_big_quiet_on
            refine wpQuiet_nil ?_
            clear hcls
            intro wd hq
            go_wp2
            go_meet
            case rel => exact ⟨L, _, by omega, hq.2.2.1, hq.2.2.2.1, hq.2.2.2.2.1, hq.2.2.2.2.2⟩
          · have hjI : ¬ (j : Int) + 1 ≤ (L.length : Int) := by omega
            have X9 := hX8
            have D9 := hd8
            have S9 := hS8
            have T9 := ht8
            have R9 := hr8
            have W9 := hW8
            have Z9 : rb + 1 ≤ w8.heap.size := by have := lt_of_heap hX8; omega
            have q1 : w8.cell? ⟨sb, 1, none⟩ = some (.int .u8 s.k) := cell_of (i := 1) S9 rfl
            have q2 : w8.cell? ⟨sb, 2, none⟩ = some (.int .u8 s.bend) := cell_of (i := 2) S9 rfl
            obtain ⟨i, hi, hil⟩ : ∃ i : Nat, (s.bend : Int) % 32 = (i : Int) ∧ i < 32 := ⟨s.bend % 32, by omega, by omega⟩
            have hil' : i < (hd (j + 1)).length := by rw [hd_length]; exact hil
            have q3 : w8.cell? ⟨db, i, none⟩ = some (.int .u8 (((hd (j + 1))[i].toNat : Nat) : Int)) := cell_of D9 (by simp [dg, Lib.byteCells, hil'])
            have hiI : (i : Int) < 32 := by omega
            have hi0 : (0 : Int) ≤ (i : Int) := by omega
            generalize (hd (j + 1))[i].toNat = bt at q3
            have hkB : (s.k : Int) < 256 := by have := hok.2.1; omega
            obtain ⟨n, hn, hxe⟩ := xor_u8 (bt : Int) (1 + (s.k : Int) % 3)
            go_upto_region 15 with (fail)
            refine region_tail 11 (by kernel_rfl) (by kernel_rfl) ?_
            simp only [List.take_succ_cons, List.take_zero, List.drop_succ_cons, List.drop_zero]
            iterate 2 (go_big_quiet_want; go_big_quiet_op; first | go_big_quiet_on | (refine ⟨_, fun wq hq => by subst hq; simp [q2]; rfl, ?_⟩; go_big_quiet_on))
            go_big_quiet_want; go_big_quiet_op; first | go_big_quiet_on | (refine ⟨.int .u8 (i : Int), fun wq hq => by subst hq; simp [hi], ?_⟩; go_big_quiet_on)
            go_big_quiet_want; go_big_quiet_op; first | go_big_quiet_on | (refine ⟨.pointer (some ⟨db, i, none⟩), fun wq hq => by subst hq; simp [go_sem], ?_⟩; go_big_quiet_on)
            go_big_quiet_want; go_big_quiet_op; first | go_big_quiet_on | (refine ⟨.int .u8 (bt : Int), fun wq hq => by subst hq; simp [q3], ?_⟩; go_big_quiet_on)
            iterate 4 (go_big_quiet_want; go_big_quiet_op; first | go_big_quiet_on | (refine ⟨_, fun wq hq => by subst hq; simp [q1]; rfl, ?_⟩; go_big_quiet_on))
            iterate 2 (go_big_quiet_want; go_big_quiet_op; first | go_big_quiet_on | (refine ⟨.int .u8 (n : Int), fun wq hq => by subst hq; simp [hxe], ?_⟩; go_big_quiet_on))
            refine wpQuiet_nil ?_
            refine law_storeByte rfl _ _ _ rfl Try.underlying5 sizeU8 db i (n : Int) rfl rfl (by omega) (by omega) (hd (j + 1)) _ D9 hil' ?_
            intro w10 hg10 hw10
            simp only [Act.put]
            obtain ⟨d', hd', hdl⟩ : ∃ d' : List UInt8, d' = (hd (j + 1)).set i (UInt8.ofNat ((n : Nat) : Int).toNat) ∧ d'.length = 32 := ⟨_, rfl, by simp [hd_length]⟩
            have D10 := hg10.out
            rw [← hd'] at D10
            have X10 := (hw10.block xb (lt_of_heap X9) (by simp; omega)).trans X9
            have T10 : IsTable w10 ta ma L := ⟨(hw10.block ta (lt_of_heap T9.tab) (by simp; omega)).trans T9.tab, (hw10.block ma (lt_of_heap T9.map) (by simp; omega)).trans T9.map⟩
            have R10 : IsRTab w10 rb (rb + 1) (.slice a L.length c) L := by
              refine ⟨(hw10.block rb (lt_of_heap R9.1) (by simp; omega)).trans R9.1, R9.2.1, ?_⟩
              rcases R9.2.2 with hn | ⟨g', cap, cur, hv, hbb, hgg, rest⟩
              · exact .inl hn
              · refine .inr ⟨g', cap, cur, hv, hbb, (hw10.block g' (lt_of_heap hgg) ?_).trans hgg, rest⟩
                have := hol g' (by rw [hv]; rfl)
                simp; omega
            have W10 := below_grown (B := N) W9.drew hw10 (by show N ≤ w8.heap.size; omega) (by intro k e; cases e; omega)
            have Z10 : rb + 1 ≤ w10.heap.size := Nat.le_trans Z9 hw10.size
            clear D9 X9 S9 T9 R9 W9 Z9 hg10 hw10 q1 q2 q3 hxe hn hi hd'
            have hlen : (d' : List UInt8).length = 32 := by exact hdl
            go_upto_region 16 with (fail)
            have hcls : TC N w ta ma rb (.slice a L.length c) L xb s.x db d' w10.drew := ⟨X10, D10, T10.drew, ⟨R10.1, own_keep_drew R10.2⟩, W10.drew, Z10⟩
            refine region_quiet_list (C := TC N w ta ma rb (.slice a L.length c) L xb s.x db d') (by kernel_rfl) (by kernel_rfl) hcls ?_
            iterate 1 (go_big_quiet_want; go_big_quiet_op; first | go_big_quiet_on | (refine ⟨_, fun _ _ => rfl, ?_⟩; go_big_quiet_on))
            go_big_quiet_want; go_big_quiet_op; refine ⟨.agg (dg d'), fun wq hq => ?_, ?_⟩
            · have q1 : objAt wq db = some (.cells (dg d') 35 (0, 0)) := hq.2.1
              simp [q1, dg_size, hlen]
            go_big_quiet_on
            go_big_quiet_want; go_big_quiet_op; refine ⟨.agg s.x.cells, fun wq hq => ?_, ?_⟩
            · have c0 := cell_of (i := 0) hq.1 rfl
              have c1 := cell_of (i := 1) hq.1 rfl
              have c2 := cell_of (i := 2) hq.1 rfl
              have c3 := cell_of (i := 3) hq.1 rfl
              simp [c0, c1, c2, c3, Result.andThen]; rfl
            go_big_quiet_on
            go_big_quiet_want; go_big_quiet_op; refine ⟨.bool (opensF L d' s.x), fun wq hq => (opens_any d' hlen s.x wq _ _ _ hq.2.2.1).mono fun e w' ⟨he, hb⟩ => ⟨he, hq.below hb⟩, ?_⟩
            go_big_quiet_on
            go_big_quiet_want; go_big_quiet_op; refine ⟨.agg (dg d'), fun wq hq => ?_, ?_⟩
            · have q1 : objAt wq db = some (.cells (dg d') 35 (0, 0)) := hq.2.1
              simp [q1, dg_size, hlen]
            go_big_quiet_on
            go_big_quiet_want; go_big_quiet_op; refine ⟨.agg s.x.cells, fun wq hq => ?_, ?_⟩
            · have c0 := cell_of (i := 0) hq.1 rfl
              have c1 := cell_of (i := 1) hq.1 rfl
              have c2 := cell_of (i := 2) hq.1 rfl
              have c3 := cell_of (i := 3) hq.1 rfl
              simp [c0, c1, c2, c3, Result.andThen]; rfl
            go_big_quiet_on
            go_big_quiet_want; go_big_quiet_op; refine ⟨.bool (opensF L d' s.x), fun wq hq => (ropens_any d' hlen s.x wq rb (rb + 1) _ L (by omega) hq.2.2.2.1).mono fun e w' ⟨he, hb⟩ => ⟨he, hq.below hb⟩, ?_⟩
            go_big_quiet_on
            go_big_quiet_want; go_big_quiet_op; refine ⟨.bool false, fun wq hq => ?_, ?_⟩
            · simp
            go_big_quiet_on
            refine wpQuiet_nil ?_
            clear hcls
            intro wd hq
            go_wp2
            go_meet
            case rel => exact ⟨L, _, by omega, hq.2.2.1, hq.2.2.2.1, hq.2.2.2.2.1, hq.2.2.2.2.2⟩
      case rest =>
        obtain ⟨L', u', hL', hT, hR, hW', hz'⟩ := hcut
        obtain ⟨a', c', rfl⟩ := hR.slice
        clear hol hX8 hS8 hd8 ht8 hr8 hW8 p0
        go_upto_region 27 with (fail)
        refine region_quiet_list (C := KC N w ta ma rb (.slice a' L'.length c') L') (by kernel_rfl) (by kernel_rfl) ⟨hT.drew, ⟨hR.1, own_keep_drew hR.2⟩, hW'.drew, hz'⟩ ?_
        iterate 1 (go_big_quiet_want; go_big_quiet_op; first | go_big_quiet_on | (refine ⟨_, fun _ _ => rfl, ?_⟩; go_big_quiet_on))
        go_big_quiet_want; go_big_quiet_op; refine ⟨.int .i64 L'.length, fun wq hq => (len_any wq _ _ L' hq.1).mono fun e w' ⟨he, hw⟩ => ⟨he, hw ▸ hq⟩, ?_⟩
        go_big_quiet_on
        iterate 1 (go_big_quiet_want; go_big_quiet_op; first | go_big_quiet_on | (refine ⟨_, fun _ _ => rfl, ?_⟩; go_big_quiet_on))
        go_big_quiet_want; go_big_quiet_op; refine ⟨.slice a' L'.length c', fun wq hq => ?_, ?_⟩
        · have c0 := cell_of (i := 0) hq.2.1.1 rfl
          simp [c0, Result.andThen]
        go_big_quiet_on
        iterate 2 (go_big_quiet_want; go_big_quiet_op; first | go_big_quiet_on | (refine ⟨_, fun _ _ => rfl, ?_⟩; go_big_quiet_on))
        refine wpQuiet_nil ?_
        clear hT hR hW' hz'
        intro we hq
        go_wp2
        go_roundg (30 - (q + 1))
        case measure => omega
        case rel => exact ⟨q + 1, L', _, by omega, by omega, rfl, by simp, hL', hq.1, hq.2.1, hq.2.2.1, hq.2.2.2⟩
    · have hcnt : ¬ ((q : Int) < (ls.length : Int) ∧ (q : Int) < 30) := by omega
      clear ht hr hz
      by_cases h1 : (q : Int) < (ls.length : Int)
      · have h2 : ¬ (q : Int) < 30 := fun h => hcnt ⟨h1, h⟩
        go_wp2
        go_ret
        exact ⟨rfl, HN.out ▸ hW⟩
      · go_wp2
        go_ret
        exact ⟨rfl, HN.out ▸ hW⟩
end Go.Proofs.Ytaocdknpalohbaa
