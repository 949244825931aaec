/- What the document's append takes: rules at the operation. No condition. -/
import Derived.Test.YtaocdknpalohbaaHRTab
import Derived.Test.YtaocdknpalohbaaSlots
namespace Go.Proofs.Ytaocdknpalohbaa
open Go.RowKit Go.BigFrame
set_option maxRecDepth 20000

theorem sealFacts : ∃ i z, Try.prog.info? 31 = some i ∧ i.zero = some z ∧ i.size = 4 ∧ i.bytes = 32 ∧ z.cells.size = 4 := by
  have h : ((Try.prog.info? 31).bind fun i => i.zero.map fun z => (i.size, i.bytes, z.cells.size)) = some (4, 32, 4) := by kernel_rfl
  cases hi : Try.prog.info? 31 with
  | none => rw [hi] at h; cases h
  | some i =>
    rw [hi] at h
    cases hz : i.zero with
    | none => simp [hz] at h
    | some z =>
      simp only [Option.bind_some, hz, Option.map_some, Option.some.injEq, Prod.mk.injEq] at h
      exact ⟨i, z, rfl, hz, h.1, h.2.1, h.2.2⟩
theorem exec_buildS (ρ : Operand → Value) (dst : Option Tmp) (ty : TypeId) (pos : String) (after : Array Edge) (guard : Option (Nat × Bool)) (y : Operand) (x : Sl) (w : World) (hy : ρ y = .agg x.cells) :
    (execOp ρ ⟨dst, .buildSlice 26 1 #[(0, y)], ty, pos, after, guard⟩).run Try.prog w = .ok (.value (.slice (some ⟨w.heap.size, 0, none⟩) 1 1)) (w.alloc (.cells x.cells 31)) := by
  obtain ⟨i, z, hi, hz, hs, _, hzs⟩ := sealFacts
  have hf := Go.Great.fill_whole (s := 4) (by decide) [.agg x.cells] ((Array.range (1 * 4)).map (z.cells[· % z.cells.size]!)) (by
    intro v hv
    simp only [List.mem_cons, List.not_mem_nil, or_false] at hv
    subst hv
    rfl) (by simp)
  have e : (([Value.agg x.cells].flatMap fun v => v.cells.toList).toArray) = x.cells := by simp [Value.cells]
  rw [e] at hf
  have hr := run_buildSlice (P := Try.prog) w 26 31 1 #[(0, .agg x.cells)] x.cells i z Try.underlying26 hi hz (by rw [hs]; decide) (by rw [hs]; decide) (by rw [hs]; simpa using hf)
  simp [execOp, hy, hr, Result.andThen]
theorem exec_appS (ρ : Operand → Value) (dst : Option Tmp) (ty : TypeId) (pos : String) (after : Array Edge) (guard : Option (Nat × Bool)) (x y : Operand) (v u r : Value) (w w2 : World) (hx : ρ x = v) (hy : ρ y = u)
    (hrun : (Builtin.append_ #[26, 26] ty #[v, u]).run Try.prog w = .ok r w2) :
    (execOp ρ ⟨dst, Op.call { callee := Callee.builtin Builtin.append, args := #[x, y], argTypes := #[26, 26] }, ty, pos, after, guard⟩).run Try.prog w = .ok (.value r) w2 := by
  simp [execOp, resolve, invoke, builtin, hx, hy, hrun, Result.andThen]
theorem run_appS (w : World) (ty : TypeId) (base : Nat) (hb : base ≤ w.heap.size) (v : Value) (T : List Sl) (x : Sl) (kb : Nat) (hown : w.ownsRow base 31 4 v T.length (sealCells T)) (hT : T.length < 1000)
    (hk : w.heap[kb]? = some (.cells x.cells 31 (0, 0))) :
    ∃ v' w', (Builtin.append_ #[26, 26] ty #[v, .slice (some ⟨kb, 0, none⟩) 1 1]).run Try.prog w = .ok v' w' ∧ w'.ownsRow base 31 4 v' (T.length + 1) (sealCells (T ++ [x])) ∧ w.grownBy w' v.ownBlock := by
  obtain ⟨i, z, hi, hz, hs, hby, hzs⟩ := sealFacts
  obtain ⟨v', w', hr, ho, hg, _⟩ := run_append_own (P := Try.prog) w base 26 ty 31 i z 4 32 Try.underlying26 hi hz hs hby hzs (by decide) v T.length _ hown ⟨kb, 0, none⟩ 1 1 x.cells.toList rfl
    (fun j u hj => by rw [Addr.add_mid, Nat.zero_add]; exact cell_of hk (by simpa using hj))
    (by intro u hu; simp [Sl.cells] at hu; rcases hu with rfl | rfl | rfl | rfl <;> rfl) (by unfold maxLen; omega) (by omega) hb
  refine ⟨v', w', hr, ?_, hg⟩
  rw [show sealCells (T ++ [x]) = sealCells T ++ x.cells.toList by simp [sealCells]]
  exact ho
end Go.Proofs.Ytaocdknpalohbaa
