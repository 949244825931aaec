/- What lies in a world, as a list of blocks; what a region that draws its order leaves of it; a whole variable stored, at the level of an operation. No condition. -/
import Derived.Test.YtpkgmoiffegbfaaOpens
import Derived.Test.YtpkgmoiffegbfaaKite
import Derived.Deep.Quiet
namespace Go.Proofs.Ytpkgmoiffegbfaa
set_option maxRecDepth 100000
open Go.RowKit

/-- Each listed block holds what is listed. -/
def Has (F : List (Nat × Obj)) (w : World) : Prop := ∀ p ∈ F, w.heap[p.1]? = some p.2
theorem Has.nil (w : World) : Has [] w := by intro p hp; cases hp
theorem Has.cons {F : List (Nat × Obj)} {w : World} {b : Nat} {x : Obj} (hx : w.heap[b]? = some x) (h : Has F w) : Has ((b, x) :: F) w := by
  intro p hp
  rcases List.mem_cons.1 hp with rfl | hp
  · exact hx
  · exact h p hp
theorem Has.head {F : List (Nat × Obj)} {w : World} {b : Nat} {x : Obj} (h : Has ((b, x) :: F) w) : w.heap[b]? = some x := h (b, x) (List.mem_cons_self ..)
theorem Has.tail {F : List (Nat × Obj)} {w : World} {p : Nat × Obj} (h : Has (p :: F) w) : Has F w := fun q hq => h q (List.mem_cons_of_mem _ hq)
theorem Has.alloc {F : List (Nat × Obj)} {w : World} (h : Has F w) (o : Obj) : Has F (w.alloc o) := fun p hp => alloc_at o (h p hp)
theorem Has.drew {F : List (Nat × Obj)} {w : World} (h : Has F w) : Has F w.drew := h
theorem Has.drewN {F : List (Nat × Obj)} {w : World} (h : Has F w) (n : Nat) : Has F (w.drewN n) := h
theorem Has.below {F : List (Nat × Obj)} {w w' : World} (h : Has F w) (hb : Below w.heap.size w w') : Has F w' := fun p hp => below_at hb (h p hp) (Array.getElem?_eq_some_iff.1 (h p hp)).1
theorem Has.lt {F : List (Nat × Obj)} {w : World} (h : Has F w) : ∀ p ∈ F, p.1 < w.heap.size := fun p hp => (Array.getElem?_eq_some_iff.1 (h p hp)).1
theorem Has.grown {F : List (Nat × Obj)} {w w' : World} {r : Nat} (h : Has F w) (hg : w.grownBy w' (some r)) (hr : ∀ p ∈ F, p.1 ≠ r) : Has F w' := fun p hp =>
  grown_keeps hg (h p hp) (by simpa using hr p hp)

/-- The class of the worlds that are as w0 below B, and hold what is listed. -/
def Holds (B : Nat) (w0 : World) (F : List (Nat × Obj)) (w : World) : Prop := Below B w0 w ∧ B ≤ w.heap.size ∧ Has F w
theorem Holds.step {B : Nat} {w0 w w' : World} {F : List (Nat × Obj)} (h : Holds B w0 F w) (hb : Below w.heap.size w w') : Holds B w0 F w' :=
  ⟨h.1.trans (hb.mono h.2.1), Nat.le_trans h.2.1 hb.size, h.2.2.below hb⟩
theorem Holds.drew {B : Nat} {w0 w : World} {F : List (Nat × Obj)} (h : Holds B w0 F w) : Holds B w0 F w.drew := ⟨h.1.drew, h.2.1, h.2.2⟩

theorem IsTable.alloc {w : World} {tb mb : Nat} {L : List Sl} (h : IsTable w tb mb L) (o : Obj) : IsTable (w.alloc o) tb mb L := ⟨alloc_at o h.tab, alloc_at o h.map⟩
theorem IsTable.drew {w : World} {tb mb : Nat} {L : List Sl} (h : IsTable w tb mb L) : IsTable w.drew tb mb L := ⟨h.tab, h.map⟩

/-- A whole variable written, as a rule. -/
def storeRow (n : Nat) (v u : Value) (w : World) (orig : Result Next) : Result Next :=
  match v, u with
  | .pointer (some ⟨g, 0, none⟩), .agg X => match objAt w g with
    | some (.cells cur _ (0, 0)) => if cur.size = n ∧ X.size = n ∧ X.all (·.oneCell') = true then .ok .skip (w.setRow g X) else orig
    | _ => orig
  | _, _ => orig
theorem exec_store {P : Program} {T : TypeId} {n : Nat} (hs : (P.info? T).map (·.size) = some n)
    (ρ : Operand → Value) (dst : Option Tmp) (x y : Operand) (ty : TypeId) (pos : String) (after : Array Edge) (guard : Option (Nat × Bool)) (w : World) :
    (execOp ρ ⟨dst, .store T x y, ty, pos, after, guard⟩).run P w = storeRow n (ρ x) (ρ y) w ((do Instr.storeAt T (ρ x) (ρ y); pure .skip : Sem Next).run P w) := by
  unfold storeRow
  split
  · rename_i g X hx hy
    split
    · rename_i cur t hg
      split
      · rename_i h
        have hr := run_storeVar_row (P := P) w g t T cur X hg (by rw [hs, h.2.1]) (by rw [h.1, h.2.1]) h.2.2
        simp [execOp, hx, hy, Instr.storeAt, Instr.sureAddr, hr]
      · rfl
    · rfl
  · rfl
theorem objAt_setRow (w : World) (g b : Nat) (X : Array Value) : objAt (w.setRow g X) b = if b = g then (objAt w g).map (fun o => match o with | .cells _ t fr => .cells X t fr | o => o) else objAt w b := by
  unfold objAt
  by_cases h : b = g
  · subst h
    rw [if_pos rfl]
    cases hb : w.heap[b]? with
    | none =>
      simp only [Option.map_none]
      rw [Array.getElem?_eq_none_iff] at hb ⊢
      simpa [World.setRow] using hb
    | some o =>
      have hlt := (Array.getElem?_eq_some_iff.1 hb).1
      cases o with
      | cells c t fr => simpa using setRow_heap w b c X t fr hb
      | _ => simp [World.setRow, Array.getElem?_modify, hb]
  · rw [if_neg h]
    exact setRow_other w g b X h
end Go.Proofs.Ytpkgmoiffegbfaa
