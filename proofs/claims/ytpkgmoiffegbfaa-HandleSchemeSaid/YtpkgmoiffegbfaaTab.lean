/- What a table's New, Len, Commit and Opens compute: the walks through their text. Condition: fewer than 2^62 commitments. -/
import Derived.Test.YtpkgmoiffegbfaaTabSpec
import Derived.StillTailTactics
import Derived.Laws.NewBlocks
namespace Go.Proofs.Ytpkgmoiffegbfaa
set_option maxRecDepth 100000
open Go.RowKit

theorem sealedU : (Try.prog.info? 71).map (·.size) = some 4 := by kernel_rfl
theorem sealedZ : (Try.prog.info? 71).map (·.zero) = some (some (.agg (Sl.cells ⟨0, 0, 0, 0⟩))) := by kernel_rfl
section
variable (ρ : Operand → Value) (dst : Option Tmp) (x y : Operand) (yt ty : TypeId) (pos : String) (after : Array Edge) (guard : Option (Nat × Bool)) (w : World)
theorem exec_loadS : (execOp ρ ⟨dst, .load 71 x, ty, pos, after, guard⟩).run Try.prog w = loadRow 4 (ρ x) w ((do let v ← Instr.loadAt 71 (ρ x); pure (.value v) : Sem Next).run Try.prog w) :=
  exec_load Try.underlying71 rfl sealedU ρ dst x ty pos after guard w
theorem exec_lookupT : (execOp ρ ⟨dst, .lookup 83 x y true, ty, pos, after, guard⟩).run Try.prog w = lkRow (.agg (Sl.cells ⟨0, 0, 0, 0⟩)) (ρ x) (ρ y) w ((do let v ← Instr.lookup 83 (ρ x) (ρ y) true; pure (.value v) : Sem Next).run Try.prog w) :=
  digT.exec_lookup Try.underlying83 sealedZ ρ dst x y ty pos after guard w
end

def lenRow (v : Value) (w : World) (orig : Result Next) : Result Next :=
  match v with
  | .map (some r) => match objAt w r with
    | some (.map es _) => .ok (.value (goInt es.size)) w
    | _ => orig
  | _ => orig
theorem exec_lenT (ρ : Operand → Value) (dst : Option Tmp) (x : Operand) (ty : TypeId) (pos : String) (after : Array Edge) (guard : Option (Nat × Bool)) (w : World) :
    (execOp ρ ⟨dst, .call { callee := .builtin .len, args := #[x], argTypes := #[83] }, ty, pos, after, guard⟩).run Try.prog w =
      lenRow (ρ x) w ((do let d ← resolve ρ { callee := .builtin .len, args := #[x], argTypes := #[83] } ty; invoke d.target d.args : Sem Next).run Try.prog w) := by
  unfold lenRow
  split
  · rename_i r hx
    split
    · rename_i es clk hr
      simp [execOp, hx, resolve, invoke, builtin, Builtin.len_, run_underlying Try.underlying83, run_getObj_map w r es clk hr]
    · rfl
  · rfl

section
variable {P : Program} {w : World} {ops : Array Oper} {rest : List Oper} {o : Oper} {a : Act} {Q : Exit → Act → World → Prop}
/-- A new entry of a map kept by digests. -/
theorem law_update {T e M E : TypeId} (D : DigType P T e) (hM : P.underlying M = some (.map T E)) (hgd : o.guard = none) (x y z : Operand) (ho : o.op = .mapUpdate M x y z)
    (r : Nat) (X : Array Value) (v : Value) (hx : a.eval x = .map (some r)) (hy : a.eval y = .agg X) (hz : a.eval z = v) (hX : IsDig X) (es : Array MapEntry) (clk : Nat)
    (hr : w.heap[r]? = some (.map es clk)) (h : DigKeys es.toList) (hnew : findDg X es.toList = none)
    (hK : ∀ w', Hid (w'.heap[r]? = some (.map (es.push { key := .agg X, val := v, born := clk }) (clk + 1))) → w.grownBy w' (some r) → wpList P ops Q rest (a.put o.dst undef) w') : wpList P ops Q (o :: rest) a w := by
  refine wpList_plain hgd fun K hK' => ?_
  have hu := D.update hM hX v w r es clk hr h hnew
  have hlt := (Array.getElem?_eq_some_iff.1 hr).1
  unfold Oper.wp execOp
  simp only [ho, hx, hy, hz, Sem.run_bind, hu, Result.andThen_ok, Sem.run_pure]
  refine hK' _ _ (hK _ ?_ ?_)
  · exact hide (by simp [hlt])
  · exact ⟨rfl, rfl, rfl, by simp, fun k _ hk => by
      show (w.heap.setIfInBounds r _)[k]? = _
      rw [Array.getElem?_setIfInBounds, if_neg (fun e => hk (by rw [e]))]⟩

theorem law_allocK (hgd : o.guard = none) (T : TypeId) (ho : o.op = .alloc T) (Z : Array Value) (hz : (P.info? T).map (·.zero) = some (some (.agg Z)))
    (hK : ∀ w', w'.heap[w.heap.size]? = some (.cells Z T (0, 0)) → w.grownBy w' none → w'.heap.size = w.heap.size + 1 → wpList P ops Q rest (a.put o.dst (.pointer (some ⟨w.heap.size, 0, none⟩))) w') : wpList P ops Q (o :: rest) a w :=
  law_alloc hgd T ho Z hz (hK _ (new_at _ _) (World.grownBy_alloc _ _ _) (by simp))
end

theorem cell_of {w : World} {b i : Nat} {cs : Array Value} {t : TypeId} {fr : Nat × Nat} {v : Value} (h : w.heap[b]? = some (.cells cs t fr)) (hv : cs[i]? = some v) : w.cell? ⟨b, i, none⟩ = some v := by
  simp [World.cell?, h, hv]

theorem new_any (w : World) : Calls Try.prog 31 #[] w fun e w' => e = .returned (.pointer (some ⟨w.heap.size + 1, 0, none⟩)) ∧ IsTable w' (w.heap.size + 1) w.heap.size [] ∧ Below w.heap.size w w' := by
  have hmm := @run_makeMap Try.prog
  go_enter Try.func31, Try.ntmps31
  go_wp2
  go_ret
  refine ⟨rfl, ⟨?_, ?_⟩, ?_⟩
  · exact heap_alloc2_new w _ _
  · exact heap_alloc2_old w _ _
  · exact ((Below.refl w.heap.size w).alloc (Nat.le_refl _) _).alloc (by simp) _

attribute [local go_sem ↓] exec_loadD exec_eqlD exec_neqD exec_loadS exec_lookupT exec_lenT
attribute [local go_sem] objAt_new objAt_old objAt_drew objAt_drewN Sl.cells_size loadRow eqRow lkRow lenRow dg_size digEq_dg hd_length isDig_dg

theorem len_any (w : World) (tb mb : Nat) (L : List Sl) (ht : IsTable w tb mb L) :
    Calls Try.prog 34 #[.pointer (some ⟨tb, 0, none⟩)] w fun e w' => e = .returned (.int .i64 L.length) ∧ w = w' := by
  have hc := cell_of (i := 0) ht.tab rfl
  have hm : objAt w mb = some (.map (entsFrom 0 L).toArray L.length) := ht.map
  have hl := entsFrom_length 0 L
  go_enter Try.func34, Try.ntmps34
  go_wp2
  go_ret
  exact ⟨rfl, rfl⟩

theorem len_nil (w : World) : Calls Try.prog 34 #[.pointer none] w fun e w' => e = .returned (.int .i64 0) ∧ w = w' := by
  go_enter Try.func34, Try.ntmps34
  go_wp2
  go_ret
  exact ⟨rfl, rfl⟩

theorem new_ents (L : List Sl) (hL : L.length < 4611686018427387904) : findDg (dg (hd (L.length + 1))) (entsFrom 0 L).toArray.toList = none := by
  rw [show (entsFrom 0 L).toArray.toList = entsFrom 0 L from rfl, findDg_ents, look_none 0 L (fun k h1 h2 e => by
    have := hd_inj (by omega) (by omega) e
    omega)]
  rfl

set_option maxHeartbeats 1000000 in
theorem commit_any (x : Sl) (w : World) (tb mb : Nat) (L : List Sl) (ht : IsTable w tb mb L) (hL : L.length < 4611686018427387904) :
    Calls Try.prog 35 #[.pointer (some ⟨tb, 0, none⟩), .agg x.cells] w fun e w' =>
      e = .returned (.agg (dg (hd (L.length + 1)))) ∧ IsTable w' tb mb (L ++ [x]) ∧ w.grownBy w' (some mb) := by
  have hlb := entsFrom_length 0 L
  have hmblt : mb < w.heap.size := (Array.getElem?_eq_some_iff.1 ht.map).1
  have htblt : tb < w.heap.size := (Array.getElem?_eq_some_iff.1 ht.tab).1
  have htm : Hid (tb ≠ mb) := hide (fun e => by have h1 := ht.tab; rw [e, ht.map] at h1; cases h1)
  go_enter Try.func35, Try.ntmps35
  go_wp2_with ((with_reducible show wpList _ _ _ (⟨some 4, Op.alloc _, _, _, _, _⟩ :: _) _ _); refine law_allocK rfl 68 rfl (dg z32) zeroDig ?_; intro w2 hg2 hw2 hs2; have ht2 := grown_keeps hw2 (alloc_at _ ht.tab) (by simp); have hm2 := grown_keeps hw2 (alloc_at _ ht.map) (by simp); have hx2 := grown_keeps hw2 (new_at w _) (by simp); have hc2 := cell_of (i := 0) ht2 rfl; have om2 : objAt w2 mb = some (.map (entsFrom 0 L).toArray L.length) := hm2)
  have hss : (w.alloc (.cells x.cells 71)).heap.size = w.heap.size + 1 := by simp
  rw [hss] at hg2 hs2
  have hB2 : Below w.heap.size w w2 := below_grown ((Below.refl w.heap.size w).alloc (Nat.le_refl _) _) hw2 (by simp) (by intro k e; cases e)
  clear hw2 hss hlb
  have hsz2 : w.heap.size + 1 < w2.heap.size := by omega
  refine (digest_any _ _ (by omega) (by omega)).mono ?_
  rintro e w3 ⟨rfl, hb3⟩
  rw [show ((L.length : Int) + 1).toNat = L.length + 1 by omega]
  have hz3 := hb3.size
  have ht3 := below_at hb3 ht2 (by omega)
  have hm3 := below_at hb3 hm2 (by omega)
  have hx3 := below_at hb3 hx2 (by omega)
  have hg3 := below_at hb3 hg2 (by omega)
  have hB3 := hB2.trans (hb3.mono (by omega))
  clear hb3 hB2 hg2 ht2 hm2 om2 hx2 hc2 hs2
  go_wp2_with ((with_reducible show wpList _ _ _ (⟨none, Op.store _ (.tmp 4) (.tmp 15), _, _, _, _⟩ :: _) _ _); refine law_store rfl _ _ _ rfl (w.heap.size + 1) (dg (hd (L.length + 1))) rfl rfl _ _ hg3 (by rw [dg_size, hd_length]; exact sizeDig) (by rw [dg_size, dg_size, hd_length]; rfl) (dg_one _) ?_; intro w4 hg4 hw4)
  have hz4 := hw4.size
  have ht4 := grown_keeps hw4 ht3 (by simp; omega)
  have hm4 := grown_keeps hw4 hm3 (by simp; omega)
  have hx4 := grown_keeps hw4 hx3 (by simp)
  have hc4 := cell_of (i := 0) ht4 rfl
  have hB4 := below_grown hB3 hw4 (by omega) (by intro k e; cases e; omega)
  have hg4' := hg4.out
  have og4 : objAt w4 (w.heap.size + 1) = some (.cells (dg (hd (L.length + 1))) 68 (0, 0)) := hg4.out
  have ox4 : objAt w4 w.heap.size = some (.cells x.cells 71 (0, 0)) := hx4
  clear hw4 hg3 ht3 hm3 hx3 hB3
  go_still_tail 6, (by kernel_rfl)
  change wpList _ _ _ _ _ w4.drew
  refine law_update digT Try.underlying83 rfl _ _ _ rfl mb (dg (hd (L.length + 1))) (.agg x.cells) rfl rfl rfl (isDig_dg (hd_length _)) _ _ hm4 (entsFrom_keys 0 L) (new_ents L hL) ?_
  intro w5 hm5 hw5
  have hw5' : w4.grownBy w5 (some mb) := ⟨hw5.os, hw5.tape, hw5.output, hw5.size, hw5.block⟩
  have hz5 := hw5'.size
  have ht5 := hide (grown_keeps hw5' ht4 (by simpa using htm.out))
  have hg5 := grown_keeps hw5' hg4' (by simp; omega)
  have og5 : objAt w5 (w.heap.size + 1) = some (.cells (dg (hd (L.length + 1))) 68 (0, 0)) := hg5
  have hB5 : w.grownBy w5 (some mb) := ⟨hw5'.os.trans hB4.os, hw5'.tape.trans hB4.tape, hw5'.output.trans hB4.output, by omega, fun k hk hne => (hw5'.block k (by omega) hne).trans (hB4.block k hk)⟩
  clear hw5 hw5' hc4 og4 ox4 hx4 hm4 ht4 hg4 hg4' hB4
  go_wp2_with (first
    | ((with_reducible show wpList _ _ _ (⟨none, Op.store _ _ _, _, _, _, _⟩ :: _) _ _); refine law_store rfl _ _ _ rfl (w.heap.size + 1) (dg (hd (L.length + 1))) rfl rfl _ _ hg5 (by rw [dg_size, hd_length]; exact sizeDig) rfl (dg_one _) ?_; intro w6 hg6 hw6))
  refine bodyPost_ret (results_cell_row rfl _ _ (w.heap.size + 1) _ _ _ _ rfl hg6.out Try.underlying68 rfl (by rw [dg_size, hd_length]; exact sizeDig)) rfl ⟨rfl, ⟨?_, ?_⟩, ?_⟩
  · exact grown_keeps hw6 ht5.out (by simp; omega)
  · have h := grown_keeps hw6 hm5.out (by simp; omega)
    rw [h, entsFrom_snoc]
    simp
  · exact ⟨hw6.os.trans hB5.os, hw6.tape.trans hB5.tape, hw6.output.trans hB5.output, Nat.le_trans hB5.size hw6.size, fun k hk hne => (hw6.block k (by omega) (by simp; omega)).trans (hB5.block k hk hne)⟩

theorem cells_form (x : Sl) : x.cells = #[.int .i64 x.r, .int .i64 x.c, .int .u64 x.b, .int .u64 x.n] := rfl
def IsSl (X : Array Value) : Prop := ∃ x : Sl, X = x.cells
theorem isSl_cells (x : Sl) : IsSl x.cells := ⟨x, rfl⟩
theorem digEq_cells (x y : Sl) : digEq x.cells y.cells = x.same y := by
  rw [Bool.eq_iff_iff, digEq_iff]
  simp only [Sl.same, decide_eq_true_eq]
  constructor
  · intro h
    obtain ⟨a, b, c, d⟩ := x
    obtain ⟨a', b', c', d'⟩ := y
    simp [Sl.cells] at h
    simp [h]
  · intro h; rw [h]
theorem equal_sl (x y : Sl) (w : World) : (Op.equal 71 (.agg x.cells) (.agg y.cells)).run Try.prog w = .ok (x.same y) w := by
  have h : x.same y = ((x.r == y.r) && ((x.c == y.c) && ((x.b == y.b) && (x.n == y.n)))) := by
    rw [Bool.eq_iff_iff]
    obtain ⟨a, b, c, d⟩ := x
    obtain ⟨a', b', c', d'⟩ := y
    simp [Sl.same]
  rw [h]
  simp [go_sem, Op.equal, Op.maxDepth, cells_form]
  by_cases h1 : x.r = y.r <;> by_cases h2 : x.c = y.c <;> by_cases h3 : x.b = y.b <;> by_cases h4 : x.n = y.n <;> simp [h1, h2, h3, h4]

noncomputable def eqRowS (neg : Bool) (v u : Value) (w : World) (orig : Result Next) : Result Next :=
  match v, u with
  | .agg X, .agg Y => @ite _ (IsSl X ∧ IsSl Y) (Classical.propDecidable _) (.ok (.value (.bool (neg != digEq X Y))) w) orig
  | _, _ => orig
theorem sealedPlain : Try.prog.eqGuardType Try.prog.depth 71 = false := by kernel_rfl
section
variable (ρ : Operand → Value) (dst : Option Tmp) (x y : Operand) (yt ty : TypeId) (pos : String) (after : Array Edge) (guard : Option (Nat × Bool)) (w : World)
theorem exec_eqlS : (execOp ρ ⟨dst, .binOp .eql 71 x y yt, ty, pos, after, guard⟩).run Try.prog w = eqRowS false (ρ x) (ρ y) w ((do let v ← (do eqGuard .eql 71 x y (ρ x) (ρ y); binOp .eql 71 (ρ x) (ρ y)); pure (.value v) : Sem Next).run Try.prog w) := by
  unfold eqRowS
  split
  · rename_i X Y hx hy
    split
    · rename_i h
      obtain ⟨⟨a, rfl⟩, ⟨b, rfl⟩⟩ := h
      simp [execOp, hx, hy, eqGuard, binOp, equal_sl, digEq_cells]
    · rfl
  · rfl
end
end Go.Proofs.Ytpkgmoiffegbfaa
