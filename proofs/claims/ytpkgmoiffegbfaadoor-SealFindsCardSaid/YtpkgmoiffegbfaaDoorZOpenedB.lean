/- Layer 19: what opens marks, of each the first: the walk. Condition: what the two variables of sha hold; numbers of their kinds; sizes. -/
import Derived.Test.YtpkgmoiffegbfaaDoorZMid
import Derived.Test.YtpkgmoiffegbfaaDoorZOpened
namespace Go.Proofs.YtpkgmoiffegbfaaDoor
open Go.RowKit Go.BigFrame
set_option maxRecDepth 100000
attribute [local go_sem ↓] exec_eqlZ exec_neqZ exec_zeroZ
attribute [local go_sem] eqRow digEq_dg isDig_dg objAt_drew

/-- What is found for each mark. -/
def foundL (o : Bool) (Ds : List (List UInt8)) (ls : List Se) : List Int := Ds.map fun D => firstOf (fun x => o && decide (comS x = D)) ls 0

theorem zboxS {ops : Array Oper} {rest : List Oper} {o : Oper} {a : Act} {w : World} {Q : Exit → Act → World → Prop} (hgd : o.guard = none) (x : Operand) (ho : o.op = .box 43 x) (b : Bool) (hx : a.eval x = SchV b)
    (h : wpList Tryd.prog ops Q rest (a.put o.dst (.pointer (some ⟨w.heap.size, 0, none⟩))) (w.alloc (.cells #[SchV b] 43))) : wpList Tryd.prog ops Q (o :: rest) a w := by
  have hr : (Instr.box 43 (SchV b)).run Tryd.prog w = .ok (.pointer (some ⟨w.heap.size, 0, none⟩)) (w.alloc (.cells #[SchV b] 43)) := by cases b <;> rfl
  refine wpList_run (w' := w.alloc (.cells #[SchV b] 43)) hgd (v := .pointer (some ⟨w.heap.size, 0, none⟩)) ?_ h
  simp [execOp, ho, hx, hr, Result.andThen]
theorem OwnI.lower {w : World} {b c : Nat} {v : Value} {l : List Int} (h : OwnI w b v l) (hc : c ≤ b) : OwnI w c v l := by
  refine ⟨h.1, ?_⟩
  rcases h.2 with h1 | ⟨g, cap, cur, h1, h2, h3⟩
  · exact .inl h1
  · exact .inr ⟨g, cap, cur, h1, by omega, h3⟩
theorem OwnI.grown {w w' : World} {base : Nat} {v : Value} {l : List Int} {row : Option Nat} (h : OwnI w base v l) (hg : w.grownBy w' row) (hr : ∀ k, row = some k → v.ownBlock ≠ some k) : OwnI w' base v l := by
  refine World.ownsRow.kept h hg ?_
  cases hv : v.ownBlock with
  | none => exact .inl rfl
  | some k => exact .inr fun e => hr k e.symm hv
theorem OwnI.below {w w' : World} {base : Nat} {v : Value} {l : List Int} (h : OwnI w base v l) (hb : Below w.heap.size w w') : OwnI w' base v l := by
  refine ⟨h.1, ?_⟩
  rcases h.2 with h1 | ⟨g, cap, cur, h1, h2, h3, h4⟩
  · exact .inl h1
  · exact .inr ⟨g, cap, cur, h1, h2, below_at hb h3 (zlt h3), h4⟩
theorem Glob.belowN {F : S8} {K : List W} {N : Nat} {w w' : World} (h : Glob F K w) (hb : Below N w w') (hN : 1 < N) : Glob F K w' := by
  obtain ⟨h0, h1, h2, h3⟩ := h
  exact ⟨fun j v hv => (hb.cell (p := ⟨0, 0 + j, none⟩) (by show 0 < N; omega)).trans (h0 j v hv), fun j v hv => (hb.cell (p := ⟨1, 0 + j, none⟩) hN).trans (h1 j v hv), h2, Nat.lt_of_lt_of_le h3 hb.size⟩
/-- What stays while marks are opened. -/
def OpC (o : Bool) (n : Nat) (w0 w : World) : Prop := Glob F0 K64 w ∧ w.heap[n]? = some (.cells #[SchV o] 43 (0, 0)) ∧ Below n w0 w ∧ n < w.heap.size
theorem OpC.below {o : Bool} {n : Nat} {w0 w w' : World} (h : OpC o n w0 w) (hb : Below w.heap.size w w') : OpC o n w0 w' := by
  obtain ⟨h1, h2, h3, h4⟩ := h
  exact ⟨h1.below hb, below_at hb h2 h4, h3.trans (hb.mono (by omega)), Nat.lt_of_lt_of_le h4 hb.size⟩

set_option maxHeartbeats 4000000 in
theorem opened_any (o : Bool) (w : World) (hG : Glob F0 K64 w) (ma : Option Addr) (mcap : Nat) (Ds : List (List UInt8)) (hD : ∀ D ∈ Ds, D.length = 32) (hDl : Ds.length ≤ 100)
    (hmat : 0 < Ds.length → ∃ b off, ma = some ⟨b, off, none⟩ ∧ b < w.heap.size ∧ RowsAt w b off 32 Lib.byteCells Ds)
    (aa : Option Addr) (cap : Nat) (ls : List Se) (hl : ls.length ≤ 9223372036854775807) (hok : ∀ x ∈ ls, x.Ok)
    (hat : 0 < ls.length → ∃ b off, aa = some ⟨b, off, none⟩ ∧ b < w.heap.size ∧ RowsAt w b off 4 Se.cells ls) :
    Calls Tryd.prog 25 #[SchV o, .slice ma Ds.length mcap, .slice aa ls.length cap] w
      fun e w' => ∃ v, e = .returned v ∧ OwnI w' w.heap.size v (foundL o Ds ls) ∧ Below w.heap.size w w' := by
  have HG := hide hG
  have HMAT := hide hmat
  have HAT := hide hat
  have HOK := hide hok
  have HD := hide hD
  have hsv : (SchV o).cells = #[SchV o] := by cases o <;> rfl
  have hDI : (Ds.length : Int) ≤ 100 := by omega
  clear hG hmat hat hok hD
  go_enter Tryd.func25, Tryd.ntmps25
  go_wp2_with ((with_reducible show wpList _ _ _ (⟨some 3, Op.box _ _, _, _, _, _⟩ :: _) _ _); refine Hid.out ?_)
  refine hide ?_
  refine zboxS rfl _ rfl o rfl ?_
  obtain ⟨n, hn⟩ : ∃ n, n = w.heap.size := ⟨_, rfl⟩
  have hs1 := new_at w (.cells #[SchV o] 43)
  have hB1 : Below w.heap.size w (w.alloc (.cells #[SchV o] 43)) := (Below.refl _ _).alloc (Nat.le_refl _) _
  have hz1 := World.size_alloc w (.cells #[SchV o] 43)
  have hG1 := HG.out.below hB1
  rw [← hn] at hs1 hB1 hz1 ⊢
  generalize w.alloc (.cells #[SchV o] 43) = w1 at hs1 hB1 hz1 hG1 ⊢
  have HN := hide hn
  clear hn
  go_wp2_with ((with_reducible show wpList _ _ _ (⟨some 12, Op.makeSlice _ _ _, _, _, _, _⟩ :: _) _ _); refine Hid.out ?_)
  refine hide ?_
  refine zmakeI rfl _ _ rfl Ds.length (by omega) rfl rfl (n + 1) (by omega) ?_
  intro v2 w2 ho2 hb2
  have hC2 : OpC o n w w2 := OpC.below ⟨hG1, hs1, hB1, by omega⟩ hb2
  clear hs1 hB1 hG1 hb2 hz1
  have hf0 : foundL o (Ds.take 0) ls = [] := rfl
  rw [← hf0] at ho2
  clear hf0
  go_wp2_with fail
  go_loopg [7, 15] Ds.length (fun g vo vi wi => ∃ q : Nat, q ≤ Ds.length ∧ g = Ds.length - q ∧ vi = .int .i64 q ∧ OwnI wi (n + 1) vo (foundL o (Ds.take q) ls) ∧ OpC o n w wi)
  case atStart => exact ⟨0, by omega, by omega, rfl, ho2, hC2⟩
  case round =>
    obtain ⟨q, hq, rfl, rfl, hoq, hCq⟩ := hrel
    clear ho2 hC2
    by_cases hlt : q < Ds.length
    · obtain ⟨b, off, rfl, hbl, hrow⟩ := HMAT.out (by omega)
      obtain ⟨D, hDq⟩ : ∃ D, D = Ds[q] := ⟨_, rfl⟩
      have hD32 : D.length = 32 := by rw [hDq]; exact HD.out _ (List.getElem_mem hlt)
      have hcells : ∀ i u, (Lib.byteCells D)[i]? = some u → wr.cell? ⟨b, off + q * 32 + i, none⟩ = some u := fun i u hu => (hCq.2.2.1.cell (p := ⟨b, off + q * 32 + i, none⟩) (by show b < n; rw [HN.out]; exact hbl)).trans (hrow q _ (by rw [hDq]; exact List.getElem?_eq_getElem hlt) i u hu)
      have htk : foundL o (Ds.take (q + 1)) ls = foundL o (Ds.take q) ls ++ [firstOf (fun x => o && decide (comS x = D)) ls 0] := by
        rw [List.take_add_one, List.getElem?_eq_getElem hlt, ← hDq]
        simp [foundL]
      have hfl : (foundL o (Ds.take q) ls).length < 1000000 := by simp [foundL]; omega
      have HTK := hide htk
      have HFL := hide hfl
      have hq0 : (0 : Int) ≤ (q : Int) := by omega
      have hqI : (q : Int) < (Ds.length : Int) := by omega
      have HROW := hide hcells
      clear hrow hDq htk hcells hfl
      go_wp2_with ((with_reducible show wpList _ _ _ (⟨some 18, Op.load _ _, _, _, _, _⟩ :: _) _ _); refine Hid.out ?_)
      refine hide ?_
      refine zloadD rfl _ rfl b (off + q * 32) rfl D hD32 HROW.out ?_
      go_wp2_with ((with_reducible show wpList _ _ _ (⟨some 9, Op.alloc _, _, _, _, _⟩ :: _) _ _); refine Hid.out ?_)
      refine hide ?_
      refine zallocK rfl 28 rfl _ zzeroDig ?_
      intro w4 hg4 hw4 hs4
      obtain ⟨db, hdb⟩ : ∃ db, db = wr.heap.size := ⟨_, rfl⟩
      rw [← hdb] at hg4 hs4 ⊢
      have hC4 : OpC o n w w4 := hCq.below (below_grown (Below.refl _ _) hw4 (Nat.le_refl _) (by intro k e; cases e))
      have ho4 : OwnI w4 (n + 1) u7 (foundL o (Ds.take q) ls) := hoq.grown hw4 (by intro k e; cases e)
      have hod : u7.ownBlock ≠ some db := fun e => by have := (World.ownsRow.lt hoq db e).2; omega
      have hdn : n + 1 ≤ db := by rw [hdb]; exact hCq.2.2.2
      clear hw4 hoq hCq hdb
      go_wp2_with ((with_reducible show wpList _ _ _ (⟨none, Op.store _ _ _, _, _, _, _⟩ :: _) _ _); refine Hid.out ?_)
      refine hide ?_
      refine law_store rfl _ _ _ rfl db (dg D) rfl rfl _ _ hg4 (by rw [dg_size, hD32]; exact zsizeDig) (by rw [dg_size, dg_size, hD32]; rfl) (dg_one _) ?_
      intro w5 hd5' hw5
      have hd5 := hd5'.out
      have ho5 := ho4.grown hw5 (by intro k e; cases e; exact hod)
      have hC5 : OpC o n w w5 := ⟨hC4.1.grown hw5 (by have := hC4.1.2.2.2; have := HG.out.2.2.2; have := HN.out; omega), (hw5.block n hC4.2.2.2 (by simp; omega)).trans hC4.2.1, below_grown hC4.2.2.1 hw5 (by have := hC4.2.2.2; omega) (by intro k e; cases e; omega), Nat.lt_of_lt_of_le hC4.2.2.2 hw5.size⟩
      have hdl5 := zlt hd5
      clear hd5' hw5 ho4 hod hC4 hg4 hs4
      go_wp2_with fail
      refine (indexfunc_any o w5 n db D hD32 aa cap ls hl HOK.out ⟨hC5.1, hC5.2.1, hd5, Below.refl _ _, Nat.le_refl _⟩ (fun h0 => ?_)).mono ?_
      · obtain ⟨b', off', h1, h2, h3⟩ := HAT.out h0
        have hn5 := hC5.2.2.2
        exact ⟨b', off', h1, by rw [← HN.out] at h2; omega, fun q x hq i u hu => (hC5.2.2.1.cell (p := ⟨b', off' + q * 4 + i, none⟩) (by show b' < n; rw [HN.out]; exact h2)).trans (h3 q x hq i u hu)⟩
      rintro e w6 ⟨rfl, hB6⟩
      have ho6 := ho5.below hB6
      have hC6 := hC5.below hB6
      clear ho5 hC5 hB6 hd5 hdl5
      obtain ⟨R, hR⟩ : ∃ R, R = firstOf (fun x => o && decide (comS x = D)) ls 0 := ⟨_, rfl⟩
      rw [← hR] at HTK ⊢
      clear hR
      go_wp2_with ((with_reducible show wpList _ _ _ (⟨some 24, _, _, _, _, _⟩ :: _) _ _); refine Hid.out ?_)
      refine hide ?_
      have hb7 : Below w6.heap.size w6 (w6.alloc (.cells #[.int .i64 R] 3)) := (Below.refl _ _).alloc (Nat.le_refl _) _
      have ho7 := ho6.below hb7
      have hC7 := hC6.below hb7
      have hc7 : (w6.alloc (.cells #[.int .i64 R] 3)).cell? ⟨w6.heap.size, 0, none⟩ = some (.int .i64 R) := zcell (new_at _ _) rfl
      clear ho6 hC6 hb7
      refine zappI rfl _ _ rfl u7 rfl w6.heap.size 1 rfl R hc7 (n + 1) _ ho7 HFL.out hC7.2.2.2 ?_
      intro v8 w8 ho8 hb8
      rw [← HTK.out] at ho8
      have hC8 : OpC o n w w8 := ⟨hC7.1.belowN hb8 (by have := HG.out.2.2.2; have := HN.out; omega), (hb8.block n (by omega)).trans hC7.2.1, hC7.2.2.1.trans (hb8.mono (by omega)), Nat.lt_of_lt_of_le hC7.2.2.2 hb8.size⟩
      clear ho7 hC7 hc7 hb8
      go_wp2
      go_roundg (Ds.length - (q + 1))
      case measure => omega
      case rel => exact ⟨q + 1, by omega, by omega, by simp, ho8, hC8⟩
    · have hqe : q = Ds.length := by omega
      subst hqe
      rw [List.take_length] at hoq
      have hn1 : ¬ ((Ds.length : Int) < (Ds.length : Int)) := by omega
      go_wp2
      go_ret
      exact ⟨_, rfl, HN.out ▸ hoq.lower (by omega), HN.out ▸ hCq.2.2.1⟩
end Go.Proofs.YtpkgmoiffegbfaaDoor
