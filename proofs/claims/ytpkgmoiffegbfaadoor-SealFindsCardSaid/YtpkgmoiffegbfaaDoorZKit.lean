/- Words in memory; one cell written; strings made bytes. No condition. -/
import Derived.Test.YtpkgmoiffegbfaaDoorZWord
import Derived.Test.YtpkgmoiffegbfaaDoorKite
import Derived.Lib.ConvBytes
import Derived.Deep.LoopGhost
import Derived.Deep.MidRow
namespace Go.Proofs.YtpkgmoiffegbfaaDoor
open Go.RowKit Go.BigFrame
set_option maxRecDepth 20000

theorem zlt {w : World} {b : Nat} {o : Obj} (h : w.heap[b]? = some o) : b < w.heap.size := (Array.getElem?_eq_some_iff.1 h).1
theorem zcell {w : World} {b i : Nat} {cs : Array Value} {t : TypeId} {fr : Nat × Nat} {v : Value} (h : w.heap[b]? = some (.cells cs t fr)) (hv : cs[i]? = some v) : w.cell? ⟨b, i, none⟩ = some v := by
  simp [World.cell?, h, hv]
theorem ztail {P : Program} {id : Nat} {Q : Exit → Act → World → Prop} {a : Act} {w : World} {l : List Oper} (n : Nat) (hm : P.follows .mixedOrders = true) (hB : Region.lexTailB .any l.toArray n = true)
    (h : wpQuiet P l.toArray (fun w' => w' = w.drew) (fun a' => wpList P l.toArray Q (l.drop n) a' w.drew) (l.take n) a) : (Code.region id l.toArray true).wp P Q a w := by
  have conv : ∀ (l' : List Oper) (a : Act) {Q : Act → Prop}, wpQuiet P l.toArray (fun w' => w' = w.drew) Q l' a → wpStill P l.toArray w.drew Q l' a := by
    intro l'
    induction l' with
    | nil => intro a Q h; exact h
    | cons o l' ih =>
      intro a Q h
      unfold wpQuiet at h
      unfold wpStill
      split
      · rename_i hw
        simp only [hw, if_true] at h
        refine Oper.still_mono (fun a' h' => ih a' h') ?_
        obtain ⟨v, h1, h2⟩ := h
        have h3 := h1 w.drew rfl
        unfold Oper.quietAt at h3
        unfold Oper.still
        generalize (execOp a.eval o).run P w.drew = r at *
        cases r with
        | ok n w' =>
          cases n <;> simp only [Oper.quietUpon] at h3 <;> simp only [Oper.stillUpon]
          case value u => exact ⟨h3.1, by rw [h3.2]; exact h2⟩
          case skip => exact ⟨h3.1, by rw [← h3.2]; exact h2⟩
          case enter f args => exact ⟨h3.1, v, h3.2, h2⟩
        | halt x w' => simp only [Oper.quietUpon] at h3
      · rename_i hw
        simp only [hw] at h
        exact ih _ h
  exact wp_region_still_tail n hm hB (conv _ _ h)
section
variable {P : Program} {w : World} {ops : Array Oper} {rest : List Oper} {o : Oper} {a : Act} {Q : Exit → Act → World → Prop}
theorem zallocK (hgd : o.guard = none) (T : TypeId) (ho : o.op = .alloc T) (Z : Array Value) (hz : (P.info? T).map (·.zero) = some (some (.agg Z)))
    (hK : ∀ w', w'.heap[w.heap.size]? = some (.cells Z T (0, 0)) → w.grownBy w' none → w'.heap.size = w.heap.size + 1 → wpList P ops Q rest (a.put o.dst (.pointer (some ⟨w.heap.size, 0, none⟩))) w') : wpList P ops Q (o :: rest) a w :=
  law_alloc hgd T ho Z hz (hK _ (new_at _ _) (World.grownBy_alloc _ _ _) (by simp))
/-- One cell written, of a block known whole. -/
theorem zstore (hgd : o.guard = none) (hds : o.dst = none) (ty : TypeId) (x y : Operand) (ho : o.op = .store ty x y) (hsz : (P.info? ty).map (·.size) = some 1)
    (g i : Nat) (v : Value) (hx : a.eval x = .pointer (some ⟨g, i, none⟩)) (hy : a.eval y = v) (hv : v.cells = #[v]) (hv1 : v.oneCell' = true)
    (cs : Array Value) (t : TypeId) (hg : w.heap[g]? = some (.cells cs t (0, 0))) (hi : i < cs.size)
    (hK : ∀ w', w'.heap[g]? = some (.cells (cs.setIfInBounds i v) t (0, 0)) → w.grownBy w' (some g) → wpList P ops Q rest a w') : wpList P ops Q (o :: rest) a w := by
  refine wpList_plain hgd fun K hK' => ?_
  have hc : w.cell? ⟨g, i, none⟩ = some (cs[i]'hi) := by simp [World.cell?, hg, hi]
  have hf : w.frozen? ⟨g, i, none⟩ = false := frozen_of_row w g i _ t hg
  have hst : (storeVar ty ⟨g, i, none⟩ v).run P w = .ok () (w.setCell ⟨g, i, none⟩ v) := by
    cases hq : P.info? ty with
    | none => simp [hq] at hsz
    | some j =>
      have hj : j.size = 1 := by simpa [hq] using hsz
      have hst1 : (store ⟨g, i, none⟩ v).run P w = .ok () (w.setCell ⟨g, i, none⟩ v) := by
        rw [run_store P w _ v _ hv1, hc]
        simp [hf]
      simp [storeVar, sizeOf, typeInfo, hq, hj, hv, storeCells, Addr.add, hst1]
  unfold Oper.wp execOp
  simp only [ho, hx, hy, Instr.storeAt, Instr.sureAddr, Sem.run_bind, Sem.run_pure, Result.andThen_ok, hst]
  have := hK' a _ (hK (w.setCell ⟨g, i, none⟩ v) (heap_setCell_same w g i _ t _ hg) ⟨rfl, rfl, rfl, by simp [World.setCell], fun k _ hk => heap_setCell_other w _ k _ (fun e => hk (by rw [e]))⟩)
  show _
  rw [Oper.upon, hds]
  exact this
/-- '[]byte(s)'. -/
theorem zconv (hgd : o.guard = none) (src dst e : TypeId) (x : Operand) (ho : o.op = .convert src dst x) (s : ByteArray) (hx : a.eval x = .string s) {u : TypeDesc}
    (hs : P.underlying src = some u) (hd : P.underlying dst = some (.slice e)) (he : P.underlying e = some (.int .u8))
    (hK : ∀ w' cap, (∀ j, j < s.size → w'.cell? ⟨w.heap.size, j, none⟩ = some (.int .u8 (s.data.toList.getD j 0).toNat)) → w.grownBy w' none → w'.heap.size = w.heap.size + 1 →
      wpList P ops Q rest (a.put o.dst (.slice (some ⟨w.heap.size, 0, none⟩) s.size cap)) w') : wpList P ops Q (o :: rest) a w := by
  refine wpList_run (w' := Lib.bytesWorld w e s) hgd (v := .slice (some ⟨w.heap.size, 0, none⟩) s.size (grownCap w s.size 0 e)) ?_ (hK _ _ (fun j hj => Lib.bytesWorld_cell w e s j hj) ⟨rfl, rfl, rfl, ?_, fun k hk _ => Lib.bytesWorld_at_old w e s k hk⟩ (Lib.bytesWorld_size w e s))
  · simp [execOp, ho, hx, Lib.run_convert_string_bytes w src dst e s hs hd he, Result.andThen]
  · rw [Lib.bytesWorld_size]; omega
end

/-- The cells of words. -/
def wv (x : W) : Value := .int .u32 (wI x)
def ww (l : List W) : Array Value := (l.map wv).toArray
theorem ww_size (l : List W) : (ww l).size = l.length := by simp [ww]
theorem ww_at (l : List W) (j : Nat) : (ww l)[j]? = l[j]?.map wv := by simp [ww]
theorem ww_set (l : List W) (i : Nat) (x : W) : (ww l).setIfInBounds i (.int .u32 (wI x)) = ww (l.set i x) := by
  simp [ww, List.map_set, wv]
theorem ww_one (l : List W) : (ww l).all (·.oneCell') = true := by simp [ww, wv, Value.oneCell']
end Go.Proofs.YtpkgmoiffegbfaaDoor
