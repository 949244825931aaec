/- What handle.Handle computes: the walks through its text. No condition. -/
import Derived.Test.YtpkgmoiffegbfaaHand
import Derived.Deep.RegionHeld3
import Derived.BigQuiet
import Derived.Deep.QuietTactic
import Derived.Deep.MidRow
namespace Go.Proofs.Ytpkgmoiffegbfaa
set_option maxRecDepth 100000
open Go.RowKit

theorem digT : DigType Try.prog 68 5 where
  arr := Try.underlying68
  byte := Try.underlying5
  cells := by kernel_rfl
  cell := by kernel_rfl
  size := by kernel_rfl
  key := by kernel_rfl
  at2 := by kernel_rfl
  tiled := by kernel_rfl
  types := ⟨Try.prog.types.size - 1, by kernel_rfl⟩
  plain := by kernel_rfl

section
variable (ρ : Operand → Value) (dst : Option Tmp) (x y : Operand) (yt ty : TypeId) (pos : String) (after : Array Edge) (guard : Option (Nat × Bool)) (w : World)
theorem exec_loadD : (execOp ρ ⟨dst, .load 68 x, ty, pos, after, guard⟩).run Try.prog w = loadRow 32 (ρ x) w ((do let v ← Instr.loadAt 68 (ρ x); pure (.value v) : Sem Next).run Try.prog w) :=
  exec_load Try.underlying68 rfl digT.size ρ dst x ty pos after guard w
theorem exec_eqlD : (execOp ρ ⟨dst, .binOp .eql 68 x y yt, ty, pos, after, guard⟩).run Try.prog w = eqRow false (ρ x) (ρ y) w ((do let v ← (do eqGuard .eql 68 x y (ρ x) (ρ y); binOp .eql 68 (ρ x) (ρ y)); pure (.value v) : Sem Next).run Try.prog w) :=
  digT.exec_eql ρ dst x y yt ty pos after guard w
theorem exec_neqD : (execOp ρ ⟨dst, .binOp .neq 68 x y yt, ty, pos, after, guard⟩).run Try.prog w = eqRow true (ρ x) (ρ y) w ((do let v ← (do eqGuard .neq 68 x y (ρ x) (ρ y); binOp .neq 68 (ρ x) (ρ y)); pure (.value v) : Sem Next).run Try.prog w) :=
  digT.exec_neq ρ dst x y yt ty pos after guard w
end
theorem take8 (l : List UInt8) (_hl : l.length = 32) : (dg l).toList.take 8 = Lib.byteCells (l.take 8) := by
  simp [dg, Lib.byteCells, List.map_take]

attribute [local go_sem ↓] exec_loadD exec_eqlD exec_neqD
attribute [local go_sem] loadRow eqRow dg_size digEq_dg hd_length isDig_dg objAt_new objAt_old objAt_drew

theorem dg_fold (l : List UInt8) : (Lib.byteCells l).toArray = dg l := rfl
attribute [local go_sem] dg_fold
theorem range_dg {w : World} {g : Nat} {l : List UInt8} {t : TypeId} {fr : Nat × Nat} (h : w.heap[g]? = some (.cells (dg l) t fr)) : w.rangeAt g 0 (Lib.byteCells l) := by
  intro j v hj
  simp [World.cell?, h, dg, hj]
theorem held_below {B : Nat} {x : List Value} {w0 w1 w2 : World} (h : w1.rangeAt B 0 x ∧ Below B w0 w1 ∧ B < w1.heap.size) (hb : Below w1.heap.size w1 w2) :
    w2.rangeAt B 0 x ∧ Below B w0 w2 ∧ B < w2.heap.size :=
  ⟨fun j v hj => (hb.cell (p := ⟨B, 0 + j, none⟩) h.2.2).trans (h.1 j v hj), h.2.1.trans (hb.mono (Nat.le_of_lt h.2.2)), Nat.lt_of_lt_of_le h.2.2 hb.size⟩

end Go.Proofs.Ytpkgmoiffegbfaa
