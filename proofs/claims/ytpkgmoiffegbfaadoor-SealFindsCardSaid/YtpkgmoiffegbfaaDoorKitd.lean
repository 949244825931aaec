/- Rules of the walk at the level of a whole operation: a digest's variable read, digests compared, a map asked by a digest. No condition. -/
import Derived.Test.YtpkgmoiffegbfaaDoorKitc
namespace Go.Proofs.YtpkgmoiffegbfaaDoor
open Go.RowKit

theorem below_drewN {B : Nat} {a w : World} (h : Below B a w) (n : Nat) : Below B a (w.drewN n) := ⟨h.os, h.tape, h.output, h.size, h.block⟩

/-- What lies in a block: a name of its own, that the walk's rules leave standing. -/
def objAt (w : World) (b : Nat) : Option Obj := w.heap[b]?
theorem objAt_new (w : World) (o : Obj) : objAt (w.alloc o) w.heap.size = some o := new_at w o
theorem objAt_old (w : World) (o : Obj) {b : Nat} (h : b < w.heap.size) : objAt (w.alloc o) b = objAt w b := by
  show (w.heap.push o)[b]? = w.heap[b]?
  rw [Array.getElem?_push, if_neg (Nat.ne_of_lt h)]
theorem objAt_drew (w : World) (b : Nat) : objAt w.drew b = objAt w b := rfl
theorem objAt_drewN (w : World) (n b : Nat) : objAt (w.drewN n) b = objAt w b := rfl

section
variable {P : Program} {T e : TypeId}

def loadRow (n : Nat) (v : Value) (w : World) (orig : Result Next) : Result Next :=
  match v with
  | .pointer (some ⟨g, 0, none⟩) => match objAt w g with
    | some (.cells cs _ _) => if cs.size = n then .ok (.value (.agg cs)) w else orig
    | _ => orig
  | _ => orig

theorem exec_load {d : TypeDesc} {n : Nat} (hu : P.underlying T = some d) (hd : (match d with | .struct _ | .array _ _ => true | _ => false) = true) (hs : (P.info? T).map (·.size) = some n)
    (ρ : Operand → Value) (dst : Option Tmp) (x : Operand) (ty : TypeId) (pos : String) (after : Array Edge) (guard : Option (Nat × Bool)) (w : World) :
    (execOp ρ ⟨dst, .load T x, ty, pos, after, guard⟩).run P w = loadRow n (ρ x) w ((do let v ← Instr.loadAt T (ρ x); pure (.value v) : Sem Next).run P w) := by
  unfold loadRow
  split
  · rename_i g hx
    split
    · rename_i cs t fr hg
      split
      · rename_i hn
        have hr := run_loadVar_row (P := P) w g t T cs fr d hg hu hd (by rw [hs, hn])
        simp [execOp, hx, Instr.loadAt, Instr.sureAddr, hr]
      · rfl
    · rfl
  · rfl

noncomputable def eqRow (neg : Bool) (v u : Value) (w : World) (orig : Result Next) : Result Next :=
  match v, u with
  | .agg X, .agg Y => @ite _ (IsDig X ∧ IsDig Y) (Classical.propDecidable _) (.ok (.value (.bool (neg != digEq X Y))) w) orig
  | _, _ => orig

theorem DigType.exec_eql (D : DigType P T e) (ρ : Operand → Value) (dst : Option Tmp) (x y : Operand) (yt ty : TypeId) (pos : String) (after : Array Edge) (guard : Option (Nat × Bool)) (w : World) :
    (execOp ρ ⟨dst, .binOp .eql T x y yt, ty, pos, after, guard⟩).run P w = eqRow false (ρ x) (ρ y) w ((do let v ← (do eqGuard .eql T x y (ρ x) (ρ y); binOp .eql T (ρ x) (ρ y)); pure (.value v) : Sem Next).run P w) := by
  unfold eqRow
  split
  · rename_i X Y hx hy
    split
    · rename_i h
      simp [execOp, hx, hy, eqGuard, D.plain, binOp, D.equal h.1 h.2]
    · rfl
  · rfl
theorem DigType.exec_neq (D : DigType P T e) (ρ : Operand → Value) (dst : Option Tmp) (x y : Operand) (yt ty : TypeId) (pos : String) (after : Array Edge) (guard : Option (Nat × Bool)) (w : World) :
    (execOp ρ ⟨dst, .binOp .neq T x y yt, ty, pos, after, guard⟩).run P w = eqRow true (ρ x) (ρ y) w ((do let v ← (do eqGuard .neq T x y (ρ x) (ρ y); binOp .neq T (ρ x) (ρ y)); pure (.value v) : Sem Next).run P w) := by
  unfold eqRow
  split
  · rename_i X Y hx hy
    split
    · rename_i h
      simp [execOp, hx, hy, eqGuard, D.plain, binOp, D.equal h.1 h.2]
    · rfl
  · rfl

noncomputable def lkRow (z : Value) (v u : Value) (w : World) (orig : Result Next) : Result Next :=
  match v, u with
  | .map (some r), .agg X => match objAt w r with
    | some (.map es _) => @ite _ (IsDig X ∧ DigKeys es.toList) (Classical.propDecidable _) (.ok (.value (.tuple #[(findDg X es.toList).getD z, .bool (findDg X es.toList).isSome])) w) orig
    | _ => orig
  | _, _ => orig

theorem DigType.exec_lookup (D : DigType P T e) {M E : TypeId} (hM : P.underlying M = some (.map T E)) {z : Value} (hz : (P.info? E).map (·.zero) = some (some z))
    (ρ : Operand → Value) (dst : Option Tmp) (x y : Operand) (ty : TypeId) (pos : String) (after : Array Edge) (guard : Option (Nat × Bool)) (w : World) :
    (execOp ρ ⟨dst, .lookup M x y true, ty, pos, after, guard⟩).run P w = lkRow z (ρ x) (ρ y) w ((do let v ← Instr.lookup M (ρ x) (ρ y) true; pure (.value v) : Sem Next).run P w) := by
  unfold lkRow
  split
  · rename_i r X hx hy
    split
    · rename_i es clk hr
      split
      · rename_i h
        simp [execOp, hx, hy, D.lookup hM hz h.1 w r es clk hr h.2]
      · rfl
    · rfl
  · rfl
end
end Go.Proofs.YtpkgmoiffegbfaaDoor
