/- A law on drawn regions, over any program: as region_loose, with the frame kept abstract: a step sees a frame of which it knows what each slot holds. No condition. -/
import Derived.Test.YtpkgmoiffegbfaaDoorLoose
import Derived.Deep.MidRow
import Derived.Laws.CopyOwn
namespace Go.Proofs.YtpkgmoiffegbfaaDoor
open Go.RowKit

/-- A frame in which the slots s, from the j-th on, hold v. -/
def putSlots (a : Act) : List Nat → Nat → (Nat → Value) → Act
  | [], _, _ => a
  | k :: r, j, v => putSlots (a.put (some k) (v j)) r (j + 1) v

/-- The place of a slot in the list. -/
def slotAt : List Nat → Nat → Nat → Option Nat
  | [], _, _ => none
  | k :: r, j, t => match slotAt r (j + 1) t with
    | some i => some i
    | none => if t = k then some j else none

theorem put_self (a : Act) (k : Nat) : a.put (some k) (a.eval (.tmp k)) = a := by
  obtain ⟨t, d⟩ := a
  simp only [Act.put, Act.eval]
  congr 1
  apply Array.ext
  · simp
  · intro i h1 h2
    rw [Array.getElem_setIfInBounds]
    · split
      · rename_i h; subst h; simp [Array.getD, h2]
      · rfl

theorem putSlots_self (a : Act) (s : List Nat) : ∀ j v, (∀ i, i < s.length → v (j + i) = a.eval (.tmp (s.getD i 0))) → putSlots a s j v = a := by
  induction s with
  | nil => intro j v _; rfl
  | cons k r ih =>
    intro j v h
    have h0 := h 0 (by simp)
    simp only [Nat.add_zero, List.getD_cons_zero] at h0
    show putSlots (a.put (some k) (v j)) r (j + 1) v = a
    rw [h0, put_self]
    refine ih (j + 1) v (fun i hi => ?_)
    have := h (i + 1) (by simp; omega)
    rw [show j + 1 + i = j + (i + 1) by omega, this]
    simp

theorem put_comm' (a : Act) {k m : Nat} (h : k ≠ m) (x y : Value) : (a.put (some k) x).put (some m) y = (a.put (some m) y).put (some k) x := by
  obtain ⟨t, d⟩ := a
  simp only [Act.put]
  congr 1
  exact Array.setIfInBounds_comm x y h

theorem put_put (a : Act) (k : Nat) (x y : Value) : (a.put (some k) x).put (some k) y = a.put (some k) y := by
  obtain ⟨t, d⟩ := a
  simp only [Act.put]
  congr 1
  simp

theorem putSlots_put (r : List Nat) {k : Nat} (hk : k ∉ r) (u : Value) : ∀ (a : Act) j v, (putSlots a r j v).put (some k) u = putSlots (a.put (some k) u) r j v := by
  induction r with
  | nil => intro a j v; rfl
  | cons m r ih =>
    intro a j v
    have hm : k ≠ m := fun h => hk (by simp [h])
    show (putSlots (a.put (some m) (v j)) r (j + 1) v).put (some k) u = putSlots ((a.put (some k) u).put (some m) (v j)) r (j + 1) v
    rw [ih (fun h => hk (by simp [h])), put_comm' a (Ne.symm hm)]

theorem putSlots_congr (r : List Nat) : ∀ (a : Act) j (v v' : Nat → Value), (∀ i, j ≤ i → v i = v' i) → putSlots a r j v = putSlots a r j v' := by
  induction r with
  | nil => intro a j v v' _; rfl
  | cons m r ih =>
    intro a j v v' h
    show putSlots (a.put (some m) (v j)) r (j + 1) v = putSlots (a.put (some m) (v' j)) r (j + 1) v'
    rw [h j (Nat.le_refl _)]
    exact ih _ _ _ _ fun i hi => h i (by omega)

theorem putSlots_upd (s : List Nat) (hn : s.Nodup) (u : Value) : ∀ (a : Act) j v i, i < s.length → putSlots a s j (upd v (j + i) u) = (putSlots a s j v).put (some (s.getD i 0)) u := by
  induction s with
  | nil => intro a j v i hi; cases hi
  | cons k r ih =>
    intro a j v i hi
    obtain ⟨hk, hr⟩ := List.nodup_cons.1 hn
    match i with
    | 0 =>
      show putSlots (a.put (some k) (upd v (j + 0) u j)) r (j + 1) (upd v (j + 0) u) = (putSlots (a.put (some k) (v j)) r (j + 1) v).put (some k) u
      rw [putSlots_put r hk, put_put]
      rw [show upd v (j + 0) u j = u by simp [upd]]
      exact putSlots_congr r _ _ _ _ fun i hi => by simp [upd]; intro h; omega
    | i + 1 =>
      show putSlots (a.put (some k) (upd v (j + (i + 1)) u j)) r (j + 1) (upd v (j + (i + 1)) u) = _
      rw [show upd v (j + (i + 1)) u j = v j by simp [upd], show j + (i + 1) = j + 1 + i by omega]
      rw [ih hr (a.put (some k) (v j)) (j + 1) v i (by simpa using hi)]
      simp [putSlots]

theorem eval_put_ne (a : Act) {k t : Nat} (h : t ≠ k) (x : Value) : (a.put (some k) x).eval (.tmp t) = a.eval (.tmp t) := by
  simp only [Act.put, Act.eval]
  simp [Array.getD_eq_getD_getElem?, Ne.symm h]
theorem eval_put_same (a : Act) {k : Nat} (h : k < a.tmps.size) (x : Value) : (a.put (some k) x).eval (.tmp k) = x := by
  simp only [Act.put, Act.eval]
  simp [Array.getD_eq_getD_getElem?, h]
theorem size_put (a : Act) (k : Nat) (x : Value) : (a.put (some k) x).tmps.size = a.tmps.size := by simp [Act.put]
theorem defers_put (a : Act) (k : Nat) (x : Value) : (a.put (some k) x).defers = a.defers := rfl

theorem putSlots_eval (s : List Nat) : ∀ (a : Act) j v t, (∀ k ∈ s, k < a.tmps.size) → (putSlots a s j v).eval (.tmp t) = match slotAt s j t with | some i => v i | none => a.eval (.tmp t) := by
  induction s with
  | nil => intro a j v t _; rfl
  | cons k r ih =>
    intro a j v t hs
    show (putSlots (a.put (some k) (v j)) r (j + 1) v).eval (.tmp t) = _
    rw [ih _ _ _ _ (fun m hm => by rw [size_put]; exact hs m (by simp [hm]))]
    have e : slotAt (k :: r) j t = match slotAt r (j + 1) t with | some i => some i | none => if t = k then some j else none := rfl
    rw [e]
    cases slotAt r (j + 1) t with
    | some i => rfl
    | none =>
      dsimp only
      by_cases h : t = k
      · subst h; rw [if_pos rfl]; exact eval_put_same a (hs t (by simp)) _
      · rw [if_neg h]; exact eval_put_ne a h _
theorem putSlots_defers (s : List Nat) : ∀ (a : Act) j v, (putSlots a s j v).defers = a.defers := by
  induction s with
  | nil => intro a j v; rfl
  | cons k r ih => intro a j v; show (putSlots (a.put (some k) (v j)) r (j + 1) v).defers = _; rw [ih]; rfl

/-- What slot t of the frame holds. -/
def held (a : Act) (s : List Nat) (v : Nat → Value) (t : Nat) : Value := match slotAt s 0 t with | some i => v i | none => a.eval (.tmp t)

theorem wpList_of_oper {P : Program} {ops : Array Oper} {Q : Exit → Act → World → Prop} {o : Oper} {a : Act} {w : World} (hg : o.guard = none) (h : Oper.wp P o a w (fun a w => wpList P ops Q [] a w) Q) : wpList P ops Q [o] a w := by
  unfold wpList
  have e : Region.wanted o (yielded ops a.tmps) = true := by unfold Region.wanted; rw [hg]
  rw [if_pos e]
  exact .inl h

/-- Region_loose, the frame abstract. S: what is listed so far; v: what the slots hold. -/
theorem region_slots {P : Program} {id : Nat} {Q : Exit → Act → World → Prop} {a : Act} {w : World} {l : List Oper} (n : Nat) (s : List Nat) (hm : P.follows .mixedOrders = true) (hB : looseB .any l.toArray n = true)
    (hn : s.Nodup) (hsn : s.length = n) (N : Nat) (hN : a.tmps.size = N) (hs' : (s.all fun k => decide (k < N)) = true) (hd : ((List.range n).all fun i => match l[i]? with | some o => o.dst == some (s.getD i 0) && o.guard == none | none => false) = true)
    (Inv : (Nat → Bool) → (Nat → Value) → World → Prop) (h0 : ∀ v, Inv (fun _ => false) v w.drew)
    (hstep : ∀ i, i < n → ∀ (L : Nat → Bool) (v : Nat → Value) (w1 : World) (f : Act) (o : Oper), l[i]? = some o → (∀ t, f.eval (.tmp t) = held a s v t) → Inv L v w1 → L i = false → (∀ e ∈ o.after, Region.binds .any e = true → L e.on = true) →
      ∀ (K : Act → World → Prop) (Q' : Exit → Act → World → Prop), (∀ u w2, Inv (upd L i true) (upd v i u) w2 → K (f.put o.dst u) w2) → Oper.wp P o f w1 K Q')
    (hdone : ∀ L v w1, (∀ i, i < n → L i = true) → Inv L v w1 → wpList P l.toArray Q (l.drop n) (putSlots a s 0 v) w1) : (Code.region id l.toArray true).wp P Q a w := by
  have hs : ∀ k ∈ s, k < a.tmps.size := fun k hk => by rw [hN]; exact of_decide_eq_true (List.all_eq_true.1 hs' k hk)
  refine region_loose n hm hB (fun v => putSlots a s 0 v) (fun i => a.eval (.tmp (s.getD i 0))) (putSlots_self a s 0 _ fun i _ => by rw [Nat.zero_add]) Inv (h0 _) ?_ hdone
  intro i hi L v w1 K o ho hI hL hall hK
  have hdi := List.all_eq_true.1 hd i (List.mem_range.2 hi)
  rw [ho] at hdi
  simp only [Bool.and_eq_true, beq_iff_eq] at hdi
  refine wpList_of_oper hdi.2 (hstep i hi L v w1 _ o ho (fun t => putSlots_eval s a 0 v t hs) hI hL hall _ _ ?_)
  intro u w2 h2
  have := hK u w2 h2
  have e := putSlots_upd s hn u a 0 v i (by omega)
  rw [Nat.zero_add] at e
  rw [e, ← hdi.1] at this
  exact this

/-- An invariant for such a region: a condition on the world, by what is listed; a fact for each slot; two slots that differ. -/
def BoxInv (n : Nat) (C : (Nat → Bool) → World → Prop) (R : Nat → Value → World → Prop) (p q : Nat) (L : Nat → Bool) (v : Nat → Value) (w : World) : Prop :=
  C L w ∧ (∀ j, j < n → L j = true → R j (v j) w) ∧ (L p = true → L q = true → v p ≠ v q)

theorem tmp_of {f : Act} {t : Nat} {x : Value} (h : f.eval (.tmp t) = x) : f.tmps[t]?.getD undef = x := by
  rw [← h, Act.eval, Array.getD_eq_getD_getElem?]
theorem edge_listed {o : Oper} {L : Nat → Bool} (hall : ∀ e ∈ o.after, Region.binds .any e = true → L e.on = true) (j : Nat) (h : (o.after.any fun e => Region.binds .any e && e.on == j) = true) : L j = true := by
  obtain ⟨i, hi, hh⟩ := Array.any_eq_true.1 h
  simp only [Bool.and_eq_true, beq_iff_eq] at hh
  rw [← hh.2]
  exact hall _ (Array.getElem_mem hi) hh.1
theorem BoxInv.start {n : Nat} {C : (Nat → Bool) → World → Prop} {R : Nat → Value → World → Prop} {p q : Nat} {w : World} (h : C (fun _ => false) w) (v : Nat → Value) : BoxInv n C R p q (fun _ => false) v w :=
  ⟨h, fun _ _ h => Bool.noConfusion h, fun h _ => Bool.noConfusion h⟩
theorem BoxInv.step {n : Nat} {C : (Nat → Bool) → World → Prop} {R : Nat → Value → World → Prop} {p q : Nat} {L : Nat → Bool} {v : Nat → Value} {w1 w2 : World} (h : BoxInv n C R p q L v w1) (i : Nat) (u : Value)
    (hp : p < n) (hq : q < n) (hpq : p ≠ q) (hC : C (upd L i true) w2) (hk : ∀ j, j < n → ∀ x, R j x w1 → R j x w2) (hR : R i u w2) (hd : i = p → ∀ x, R q x w1 → u ≠ x) (hd' : i = q → ∀ x, R p x w1 → x ≠ u) :
    BoxInv n C R p q (upd L i true) (upd v i u) w2 := by
  obtain ⟨_, h2, h3⟩ := h
  refine ⟨hC, fun j hj hl => ?_, fun hl hl' => ?_⟩
  · by_cases hji : j = i
    · subst hji; simp only [upd]; exact hR
    · simp only [upd, if_neg hji] at hl ⊢; exact hk j hj _ (h2 j hj hl)
  · by_cases hip : p = i
    · subst hip
      simp only [upd, if_neg (Ne.symm hpq)] at hl' ⊢
      exact hd rfl _ (h2 q hq hl')
    · by_cases hiq : q = i
      · subst hiq
        simp only [upd, if_neg hip] at hl ⊢
        exact hd' rfl _ (h2 p hp hl)
      · simp only [upd, if_neg hip, if_neg hiq] at hl hl' ⊢
        exact h3 hl hl'

theorem SlotInv.step {n : Nat} {C : (Nat → Bool) → World → Prop} {R : Nat → Value → World → Prop} {L : Nat → Bool} {v : Nat → Value} {w1 w2 : World} (h : C L w1 ∧ ∀ j, j < n → L j = true → R j (v j) w1) (i : Nat) (u : Value)
    (hC : C (upd L i true) w2) (hk : ∀ j, j < n → ∀ x, R j x w1 → R j x w2) (hR : R i u w2) : C (upd L i true) w2 ∧ ∀ j, j < n → upd L i true j = true → R j (upd v i u j) w2 := by
  refine ⟨hC, fun j hj hl => ?_⟩
  by_cases hji : j = i
  · subst hji; simp only [upd]; exact hR
  · simp only [upd, if_neg hji] at hl ⊢; exact hk j hj _ (h.2 j hj hl)

/-- A whole variable written: the world behind it is a letter, of which is told what it holds. -/
theorem wpList_store_whole {P : Program} {ops : Array Oper} {rest : List Oper} {op : Oper} {a : Act} {w : World} {Q : Exit → Act → World → Prop} (hgd : op.guard = none) (hds : op.dst = none) (ty : TypeId) (x y : Operand) (ho : op.op = .store ty x y)
    (b : Nat) (cells old : Array Value) (T : TypeId) (hx : a.eval x = .pointer (some ⟨b, 0, none⟩)) (hy : a.eval y = .agg cells) (hb : w.heap[b]? = some (.cells old T (0, 0))) (hi : (P.info? ty).map (·.size) = some cells.size) (hsz : old.size = cells.size) (h1 : cells.all (·.oneCell') = true)
    (h : ∀ w', w'.heap[b]? = some (.cells cells T (0, 0)) → (∀ k, k ≠ b → w'.heap[k]? = w.heap[k]?) → w'.heap.size = w.heap.size → (∀ B w0, B ≤ b → Below B w0 w → Below B w0 w') → wpList P ops Q rest a w') : wpList P ops Q (op :: rest) a w := by
  refine wpList_plain hgd fun _ hK => ?_
  unfold Oper.wp execOp
  have hr := run_storeVar_row (P := P) w b T ty old cells hb hi hsz h1
  simp only [ho, hx, hy, Instr.storeAt, Instr.sureAddr, Sem.run_bind, Sem.run_pure, Result.andThen_ok, hr]
  have := hK a (w.setRow b cells) (h _ (setRow_heap w b old cells T (0, 0) hb) (fun k hk => setRow_other w b k cells hk) (by simp) (fun B w0 hB h0 => below_setRow h0 hB cells))
  show _
  rw [Oper.upon, hds]
  exact this

/-- The same, behind a law that leaves the frame as it wrote it. -/
theorem wpList_store_put {P : Program} {ops : Array Oper} {rest : List Oper} {op : Oper} {a : Act} {w : World} {Q : Exit → Act → World → Prop} (hgd : op.guard = none) (hds : op.dst = none) (ty : TypeId) (x y : Operand) (ho : op.op = .store ty x y)
    (b : Nat) (cells old : Array Value) (T : TypeId) (hx : a.eval x = .pointer (some ⟨b, 0, none⟩)) (hy : a.eval y = .agg cells) (hb : w.heap[b]? = some (.cells old T (0, 0))) (hi : (P.info? ty).map (·.size) = some cells.size) (hsz : old.size = cells.size) (h1 : cells.all (·.oneCell') = true)
    (h : ∀ w', w'.heap[b]? = some (.cells cells T (0, 0)) → (∀ k, k ≠ b → w'.heap[k]? = w.heap[k]?) → w'.heap.size = w.heap.size → (∀ B w0, B ≤ b → Below B w0 w → Below B w0 w') → wpList P ops Q rest (a.put op.dst undef) w') : wpList P ops Q (op :: rest) a w := by
  refine wpList_store_whole hgd hds ty x y ho b cells old T hx hy hb hi hsz h1 ?_
  rw [hds] at h
  exact h
end Go.Proofs.YtpkgmoiffegbfaaDoor
