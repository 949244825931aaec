/- Digests compared, and read whole: rules of the walk. No condition. -/
import Derived.Test.YtpkgmoiffegbfaaDoorZWorks
import Derived.Test.YtpkgmoiffegbfaaDoorKitd
namespace Go.Proofs.YtpkgmoiffegbfaaDoor
open Go.RowKit

theorem zdigT : DigType Tryd.prog 28 5 where
  arr := Tryd.underlying28
  byte := Tryd.underlying5
  cells := by kernel_rfl
  cell := by kernel_rfl
  size := by kernel_rfl
  key := by kernel_rfl
  at2 := by kernel_rfl
  tiled := by kernel_rfl
  types := ⟨Tryd.prog.types.size - 1, by kernel_rfl⟩
  plain := by kernel_rfl
section
variable (ρ : Operand → Value) (dst : Option Tmp) (x y : Operand) (yt ty : TypeId) (pos : String) (after : Array Edge) (guard : Option (Nat × Bool)) (w : World)
theorem exec_loadZ : (execOp ρ ⟨dst, .load 28 x, ty, pos, after, guard⟩).run Tryd.prog w = loadRow 32 (ρ x) w ((do let v ← Instr.loadAt 28 (ρ x); pure (.value v) : Sem Next).run Tryd.prog w) :=
  exec_load Tryd.underlying28 rfl zdigT.size ρ dst x ty pos after guard w
theorem exec_eqlZ : (execOp ρ ⟨dst, .binOp .eql 28 x y yt, ty, pos, after, guard⟩).run Tryd.prog w = eqRow false (ρ x) (ρ y) w ((do let v ← (do eqGuard .eql 28 x y (ρ x) (ρ y); binOp .eql 28 (ρ x) (ρ y)); pure (.value v) : Sem Next).run Tryd.prog w) :=
  zdigT.exec_eql ρ dst x y yt ty pos after guard w
theorem exec_neqZ : (execOp ρ ⟨dst, .binOp .neq 28 x y yt, ty, pos, after, guard⟩).run Tryd.prog w = eqRow true (ρ x) (ρ y) w ((do let v ← (do eqGuard .neq 28 x y (ρ x) (ρ y); binOp .neq 28 (ρ x) (ρ y)); pure (.value v) : Sem Next).run Tryd.prog w) :=
  zdigT.exec_neq ρ dst x y yt ty pos after guard w
/-- 'api.Digest{}'. -/
theorem exec_zeroZ : (execOp ρ ⟨dst, .build 28 #[], ty, pos, after, guard⟩).run Tryd.prog w = .ok (.value (.agg (dg z32))) w := by
  cases hq : Tryd.prog.info? 28 with
  | none => have := zzeroDig; simp [hq] at this
  | some i =>
    have hz : i.zero = some (.agg (dg z32)) := by have := zzeroDig; simpa [hq] using this
    simp [execOp, Instr.build, zeroValue, typeInfo, hq, hz, Result.andThen]
    rfl
end
end Go.Proofs.YtpkgmoiffegbfaaDoor
