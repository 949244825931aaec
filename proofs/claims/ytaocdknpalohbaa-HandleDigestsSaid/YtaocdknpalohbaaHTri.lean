/- Arrays of three digests: how they are built, and what lies in them. No condition. -/
import Derived.Test.YtaocdknpalohbaaHolds
import Derived.Great.FillDense
namespace Go.Proofs.Ytaocdknpalohbaa
open Go.RowKit
set_option maxRecDepth 20000

/-- Three rows of cells, side by side. -/
def tri (X Y Z : Array Value) : Array Value := (X.toList ++ (Y.toList ++ Z.toList)).toArray
theorem triZero : (Try.prog.info? 45).map (fun i => i.zero.map (·.cells.size)) = some (some 96) := by kernel_rfl
theorem run_tri (X Y Z : Array Value) (hX : X.size = 32) (hY : Y.size = 32) (hZ : Z.size = 32) (w : World) :
    (Instr.build 45 #[(0, .agg X), (1, .agg Y), (2, .agg Z)]).run Try.prog w = .ok (.agg (tri X Y Z)) w := by
  refine run_build w _ _ _ ?_
  have h1 := triZero
  have h2 := digT.size
  unfold Program.built
  cases hi : Try.prog.info? 45 with
  | none => rw [hi] at h1; cases h1
  | some it =>
    rw [hi] at h1
    cases hz : it.zero with
    | none => simp [hz] at h1
    | some z =>
      simp only [Option.map_some, hz, Option.some.injEq] at h1
      cases hd : Try.prog.info? 35 with
      | none => rw [hd] at h2; cases h2
      | some ie =>
        rw [hd] at h2
        simp only [Option.map_some, Option.some.injEq] at h2
        simp only [Try.underlying45, hz, hd, h2]
        have hf := Go.Great.fill_whole (s := 32) (by decide) [.agg X, .agg Y, .agg Z] z.cells (by
          intro v hv
          simp only [List.mem_cons, List.not_mem_nil, or_false] at hv
          rcases hv with rfl | rfl | rfl <;> simpa [Value.cells]) (by rw [h1]; rfl)
        have e : (([Value.agg X, Value.agg Y, Value.agg Z].flatMap fun v => v.cells.toList).toArray) = tri X Y Z := by simp [tri, Value.cells]
        rw [e] at hf
        exact hf
theorem digAgg : ∀ w, (isAgg 35).run Try.prog w = .ok true w := fun _ => by kernel_rfl
theorem digSize : ∀ w, (sizeOf 35).run Try.prog w = .ok 32 w := fun _ => by kernel_rfl
theorem index_tri (X Y Z : Array Value) (hX : X.size = 32) (hY : Y.size = 32) (hZ : Z.size = 32) (w : World) (k : Nat) (hk : k < 3) :
    (Instr.index 45 (.agg (tri X Y Z)) (.int .i64 (k : Int))).run Try.prog w = .ok (.agg (match k with | 0 => X | 1 => Y | _ => Z)) w := by
  have hX' : X.toList.length = 32 := by simpa
  have hY' : Y.toList.length = 32 := by simpa
  have hZ' : Z.toList.length = 32 := by simpa
  have hk' : (0 : Int) ≤ (k : Int) ∧ (k : Int) < 3 := by omega
  simp [Instr.index, asIntOf, run_underlying Try.underlying45, part, hk, hk']
  congr 2
  match k, hk with
  | 0, _ => simp [tri, hX']
  | 1, _ => simp [tri, hX', hY']
  | 2, _ =>
    simp [tri]
    rw [← List.append_assoc, List.drop_left' (by simp [hX, hY]), List.take_of_length_le (by omega)]
theorem law_build3 {ops : Array Oper} {rest : List Oper} {o : Oper} {a : Act} {w : World} {Q : Exit → Act → World → Prop} (hgd : o.guard = none) (x y z : Operand) (ho : o.op = .build 45 #[(0, x), (1, y), (2, z)])
    (X Y Z : List UInt8) (hx : a.eval x = .agg (dg X)) (hy : a.eval y = .agg (dg Y)) (hz : a.eval z = .agg (dg Z)) (hX : X.length = 32) (hY : Y.length = 32) (hZ : Z.length = 32)
    (h : wpList Try.prog ops Q rest (a.put o.dst (.agg (tri (dg X) (dg Y) (dg Z)))) w) : wpList Try.prog ops Q (o :: rest) a w := by
  refine wpList_run (w' := w) hgd (v := .agg (tri (dg X) (dg Y) (dg Z))) ?_ h
  have hr := run_tri (dg X) (dg Y) (dg Z) (by rw [dg_size, hX]) (by rw [dg_size, hY]) (by rw [dg_size, hZ]) w
  simp [execOp, ho, hx, hy, hz, hr]
def pick3 (X Y Z : List UInt8) : Nat → List UInt8
  | 0 => X
  | 1 => Y
  | _ => Z
theorem index_dig (X Y Z : List UInt8) (hX : X.length = 32) (hY : Y.length = 32) (hZ : Z.length = 32) (k : Nat) (hk : k < 3) (T : List UInt8) (hT : T = pick3 X Y Z k) (w : World) :
    (Instr.index 45 (.agg (tri (dg X) (dg Y) (dg Z))) (.int .i64 (k : Int))).run Try.prog w = .ok (.agg (dg T)) w := by
  rw [index_tri _ _ _ (by rw [dg_size, hX]) (by rw [dg_size, hY]) (by rw [dg_size, hZ]) w k hk, hT]
  match k, hk with
  | 0, _ => rfl
  | 1, _ => rfl
  | 2, _ => rfl
end Go.Proofs.Ytaocdknpalohbaa
