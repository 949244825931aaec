/- SealMarks: what its walk leans on: rows of digests of the call's own; digests out of the middle of a block; the first that is like. No condition. -/
import Derived.Test.YtpkgmoiffegbfaaDoorZSealWk
import Derived.Test.YtpkgmoiffegbfaaDoorZSeEq
namespace Go.Proofs.YtpkgmoiffegbfaaDoor
open Go.RowKit Go.BigFrame
set_option maxRecDepth 20000

/-- The cells from an offset on, by a name that the walk's rules leave standing. -/
noncomputable def zrowAt (w : World) (g o n : Nat) : Option (Array Value) := @dite _ (∃ cs : List Value, cs.length = n ∧ w.rangeAt g o cs) (Classical.propDecidable _) (fun h => some h.choose.toArray) (fun _ => none)
theorem zrowAt_of {w : World} {g o n : Nat} {cs : List Value} (hn : cs.length = n) (h : w.rangeAt g o cs) : zrowAt w g o n = some cs.toArray := by
  have hex : ∃ cs : List Value, cs.length = n ∧ w.rangeAt g o cs := ⟨cs, hn, h⟩
  unfold zrowAt
  rw [dif_pos hex]
  have hs := hex.choose_spec
  congr 2
  refine List.ext_getElem (hs.1.trans hn.symm) fun i h1 h2 => ?_
  have a := hs.2 i _ (List.getElem?_eq_getElem h1)
  have b := h i _ (List.getElem?_eq_getElem h2)
  rw [a] at b
  exact Option.some.inj b
noncomputable def zloadRowM (n : Nat) (v : Value) (w : World) (orig : Result Next) : Result Next :=
  match v with
  | .pointer (some ⟨g, o, none⟩) => match zrowAt w g o n with
    | some cs => .ok (.value (.agg cs)) w
    | none => orig
  | _ => orig
theorem exec_loadZM (ρ : Operand → Value) (dst : Option Tmp) (x : Operand) (ty : TypeId) (pos : String) (after : Array Edge) (guard : Option (Nat × Bool)) (w : World) :
    (execOp ρ ⟨dst, .load 28 x, ty, pos, after, guard⟩).run Tryd.prog w = zloadRowM 32 (ρ x) w ((do let v ← Instr.loadAt 28 (ρ x); pure (.value v) : Sem Next).run Tryd.prog w) := by
  unfold zloadRowM
  split
  · rename_i g o hx
    split
    · rename_i cs hc
      unfold zrowAt at hc
      split at hc
      · rename_i hex
        obtain rfl := Option.some.inj hc
        have hs := hex.choose_spec
        have hr := run_loadAt_mid (P := Tryd.prog) w g o 28 _ _ hs.2 Tryd.underlying28 rfl (by rw [hs.1]; exact zsizeDig)
        simp [execOp, hx, hr]
      · cases hc
    · rfl
  · rfl
/-- A row of digests of the call's own. -/
def OwnD (w : World) (base : Nat) (v : Value) (Ds : List (List UInt8)) : Prop := w.ownsRow base 28 32 v Ds.length (Ds.flatMap Lib.byteCells)
theorem OwnD.nil (w : World) (base : Nat) : OwnD w base (.slice none 0 0) [] := World.ownsRow_nil w base _ _
theorem OwnD.below {w w' : World} {base : Nat} {v : Value} {Ds : List (List UInt8)} (h : OwnD w base v Ds) (hb : Below w.heap.size w w') : OwnD w' base v Ds := by
  refine ⟨h.1, ?_⟩
  rcases h.2 with h1 | ⟨g, cap, cur, h1, h2, h3, h4⟩
  · exact .inl h1
  · exact .inr ⟨g, cap, cur, h1, h2, below_at hb h3 (zlt h3), h4⟩
/-- What it is like. -/
theorem OwnD.rows {w : World} {base : Nat} {v : Value} {Ds : List (List UInt8)} (h : OwnD w base v Ds) (hD : ∀ D ∈ Ds, D.length = 32) :
    ∃ ma cap, v = .slice ma Ds.length cap ∧ (0 < Ds.length → ∃ b off, ma = some ⟨b, off, none⟩ ∧ b < w.heap.size ∧ RowsAt w b off 32 Lib.byteCells Ds) := by
  rcases h.2 with ⟨h1, h2⟩ | ⟨g, cap, cur, h1, _, hg, _, _, _, ht⟩
  · exact ⟨none, 0, by rw [h1, h2], fun h => by omega⟩
  · refine ⟨_, cap, h1, fun _ => ⟨g, 0, rfl, zlt hg, fun q x hq i u hu => ?_⟩⟩
    have hf := flat_at Lib.byteCells 32 Ds (fun D hD' => by simp [Lib.byteCells, hD D hD']) q x hq i u hu
    rw [← ht] at hf
    have hlt := (List.getElem?_eq_some_iff.1 hf).1
    rw [List.length_take] at hlt
    rw [List.getElem?_take_of_lt (by omega)] at hf
    rw [Nat.zero_add]
    exact zcell hg (by rw [← Array.getElem?_toList]; exact hf)
section
variable {ops : Array Oper} {rest : List Oper} {o : Oper} {a : Act} {w : World} {Q : Exit → Act → World → Prop}
/-- 'append(v, d)', the digest lying in a slice of one. -/
theorem zappD (hgd : o.guard = none) (x y : Operand) (ho : o.op = .call { callee := .builtin .append, args := #[x, y], argTypes := #[52, 52] })
    (v : Value) (hx : a.eval x = v) (u : Value) (hy : a.eval y = u) (D : List UInt8) (hD : D.length = 32) (hu : IsRow 28 Lib.byteCells [D] u w)
    (base : Nat) (Ds : List (List UInt8)) (hown : OwnD w base v Ds) (hl : Ds.length < 1000) (hbase : base ≤ w.heap.size)
    (hK : ∀ v' w', OwnD w' base v' (Ds ++ [D]) → Below base w w' → wpList Tryd.prog ops Q rest (a.put o.dst v') w') : wpList Tryd.prog ops Q (o :: rest) a w := by
  obtain ⟨i, z, hi, hz, hs, hby, hzs⟩ := zdigFacts
  obtain ⟨b, h1, h2⟩ := hu
  refine wpList_append_own (P := Tryd.prog) w hgd x y 52 ho base 28 i z 32 32 Tryd.underlying52 hi hz hs hby hzs (by decide) v Ds.length _ hx hown ⟨b, 0, none⟩ 1 1 (Lib.byteCells D) (by rw [hy, h1]; rfl) (by simp [Lib.byteCells, hD]) ?_ ?_ (by unfold maxLen; omega) (by omega) hbase ?_
  · intro j u hj
    rw [Addr.add_mid, Nat.zero_add]
    exact zcell h2 (by simpa using hj)
  · intro u hu
    simp only [Lib.byteCells, List.mem_map] at hu
    obtain ⟨c, _, rfl⟩ := hu
    rfl
  · intro v' w' ho' hg _
    refine hK v' w' ?_ (below_grown (Below.refl _ _) hg hbase (fun k hk => (World.ownsRow.lt hown k hk).1))
    unfold OwnD
    rw [List.length_append, List.flatMap_append]
    simpa using ho'
end
/-- The first that is like: where it is. -/
theorem firstOf_spec (p : Se → Bool) : ∀ (ls : List Se) (k i : Nat) (x : Se), ls[i]? = some x → p x = true → ∃ j : Nat, firstOf p ls k = ((k + j : Nat) : Int) ∧ j ≤ i ∧ (∃ y, ls[j]? = some y ∧ p y = true) ∧ ∀ q, q < j → ∀ y, ls[q]? = some y → p y = false
  | [], _, i, x, h, _ => by simp at h
  | y :: t, k, i, x, h, hp => by
    by_cases hy : p y = true
    · exact ⟨0, by simp [firstOf, hy], Nat.zero_le _, ⟨y, rfl, hy⟩, fun q hq => by omega⟩
    · cases i with
      | zero => simp at h; rw [h] at hy; exact absurd hp hy
      | succ i =>
        rw [List.getElem?_cons_succ] at h
        obtain ⟨j, h1, h2, h3, h4⟩ := firstOf_spec p t (k + 1) i x h hp
        refine ⟨j + 1, by simp only [firstOf, hy, if_false, h1, Bool.false_eq_true]; omega, by omega, h3, fun q hq z hz => ?_⟩
        cases q with
        | zero => simp at hz; rw [← hz]; simpa using hy
        | succ q => exact h4 q (by omega) z hz
end Go.Proofs.YtpkgmoiffegbfaaDoor
