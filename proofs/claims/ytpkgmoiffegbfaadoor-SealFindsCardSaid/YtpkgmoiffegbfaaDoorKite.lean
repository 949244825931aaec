/- A law of the walk: one byte written into a variable whose cells are known as bytes. No condition. -/
import Derived.Test.YtpkgmoiffegbfaaDoorKitd
namespace Go.Proofs.YtpkgmoiffegbfaaDoor
open Go.RowKit

theorem dg_set (l : List UInt8) (i : Nat) (b : UInt8) : (dg l).setIfInBounds i (.int .u8 ((b.toNat : Nat) : Int)) = dg (l.set i b) := by
  simp [dg, Lib.byteCells, List.map_set]

section
variable {P : Program} {w : World} {ops : Array Oper} {rest : List Oper} {o : Oper} {a : Act} {Q : Exit → Act → World → Prop}
theorem law_storeByte (hgd : o.guard = none) (ty : TypeId) (x y : Operand) (ho : o.op = .store ty x y) (_hty : P.underlying ty = some (.int .u8)) (hsz : (P.info? ty).map (·.size) = some 1)
    (g i : Nat) (v : Int) (hx : a.eval x = .pointer (some ⟨g, i, none⟩)) (hy : a.eval y = .int .u8 v) (hv0 : 0 ≤ v) (hv : v < 256)
    (l : List UInt8) (t : TypeId) (hg : w.heap[g]? = some (.cells (dg l) t (0, 0))) (hi : i < l.length)
    (hK : ∀ w', Hid (w'.heap[g]? = some (.cells (dg (l.set i (UInt8.ofNat v.toNat))) t (0, 0))) → w.grownBy w' (some g) → wpList P ops Q rest (a.put o.dst undef) w') : wpList P ops Q (o :: rest) a w := by
  refine wpList_plain hgd fun K hK' => ?_
  have hc : w.cell? ⟨g, i, none⟩ = some ((dg l)[i]'(by rw [dg_size]; exact hi)) := by
    simp [World.cell?, hg, dg_size, hi]
  have hf : w.frozen? ⟨g, i, none⟩ = false := frozen_of_row w g i _ t hg
  have hst : (storeVar ty ⟨g, i, none⟩ (.int .u8 v)).run P w = .ok () (w.setCell ⟨g, i, none⟩ (.int .u8 v)) := by
    cases hq : P.info? ty with
    | none => simp [hq] at hsz
    | some j =>
      have hj : j.size = 1 := by simpa [hq] using hsz
      have hst1 : (store ⟨g, i, none⟩ (.int .u8 v)).run P w = .ok () (w.setCell ⟨g, i, none⟩ (.int .u8 v)) := by
        rw [run_store P w _ (.int .u8 v) _ rfl, hc]
        simp [hf]
      simp [storeVar, sizeOf, typeInfo, hq, hj, Value.cells, storeCells, Addr.add, hst1]
  unfold Oper.wp execOp
  simp only [ho, hx, hy, Instr.storeAt, Instr.sureAddr, Sem.run_bind, Sem.run_pure, Result.andThen_ok, hst]
  refine hK' _ _ (hK _ ?_ ?_)
  · refine hide ?_
    rw [heap_setCell_same w g i _ t _ hg]
    have e : v = (((UInt8.ofNat v.toNat).toNat : Nat) : Int) := by rw [UInt8.toNat_ofNat']; omega
    rw [← dg_set, ← e]
  · exact ⟨rfl, rfl, rfl, by simp [World.setCell], fun k _ hk => heap_setCell_other w _ k _ (fun e => hk (by rw [e]))⟩
end
end Go.Proofs.YtpkgmoiffegbfaaDoor
