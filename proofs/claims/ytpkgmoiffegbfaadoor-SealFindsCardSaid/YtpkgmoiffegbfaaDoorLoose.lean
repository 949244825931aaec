/- A law on drawn regions, over any program: the first n operations, in whatever order their edges allow, keep an invariant over what has been listed, the values so far and the world; then the rest follow in their one order. No condition. -/
import Derived.StillTail
import Derived.WalkKit
namespace Go.Proofs.YtpkgmoiffegbfaaDoor
open Go.RowKit

def upd {α : Type} (v : Nat → α) (i : Nat) (u : α) : Nat → α := fun j => if j = i then u else v j

/-- What the kernel checks of such a region. -/
def looseB (md : Region.Mode) (ops : Array Oper) (n : Nat) : Bool :=
  Region.sinkB md ops n && Region.chainB md ops n && decide (n < ops.size) &&
  Region.seqB md ops (ops.size - n) n (Array.replicate n true ++ Array.replicate (ops.size - n) false) &&
  (List.range ops.size).all (fun j => match ops[j]? with | some o => o.after.all (fun e => !Region.binds md e || decide (e.on < j)) | none => true)

section
variable {P : Program} {ops : Array Oper} {Q : Exit → Act → World → Prop}

theorem upon_then {o : Oper} {a : Act} {next K : Act → World → Prop} {r : Result Next} (h : o.upon P a next (Exit.then K Q) r) : o.upon P a next Q r := by
  cases r with
  | ok n w =>
    cases n with
    | value v => exact h
    | skip => exact h
    | defer d => exact h
    | enter f args =>
      refine Calls.mono h ?_
      intro e w'' hh
      cases e <;> exact hh
    | row r args => exact h
    | _ => exact h
  | halt x w => cases x <;> exact h

theorem wpOp_of_list {i : Nat} {o : Oper} {K : Act → World → Prop} {a : Act} {w : World} (ho : ops[i]? = some o) (h : wpList P ops (Exit.then K Q) [o] a w) : wpOp P ops Q i K a w := by
  unfold wpOp
  simp only [ho]
  unfold wpList at h
  split
  · rename_i hw
    simp only [hw, if_true] at h
    rcases h with h | h
    · exact .inl (upon_then h)
    · exact .inr h
  · rename_i hw
    simp only [hw] at h
    exact h

theorem headInv_set {md : Region.Mode} {n i : Nat} {listed : Array Bool} (inv : HeadInv md ops n listed) (hi : i ∈ Region.ready md ops listed) (hin : i < n) : HeadInv md ops n (listed.setIfInBounds i true) := inv.set hi hin

theorem least_unlisted {md : Region.Mode} {n : Nat} {listed : Array Bool} (hord : (List.range ops.size).all (fun j => match ops[j]? with | some o => o.after.all (fun e => !Region.binds md e || decide (e.on < j)) | none => true) = true)
    (hsz : listed.size = ops.size) (hn : n < ops.size) : ∀ i, i < n → listed.getD i true = false → Region.ready md ops listed ≠ [] := by
  intro i
  induction i using Nat.strongRecOn with
  | _ i ih =>
    intro hi hun hr
    have hio : i < ops.size := by omega
    have hnot : i ∉ Region.ready md ops listed := by rw [hr]; exact List.not_mem_nil
    apply hnot
    refine mem_ready.2 ⟨hun, ops[i], Array.getElem?_eq_getElem hio, fun e he hb => ?_⟩
    have h1 := List.all_eq_true.1 hord i (List.mem_range.2 hio)
    rw [Array.getElem?_eq_getElem hio] at h1
    have h2 := Array.all_eq_true'.1 h1 e he
    simp only [hb, Bool.not_true, Bool.false_or, decide_eq_true_eq] at h2
    cases hl : listed.getD e.on false with
    | true => rfl
    | false =>
      exact absurd hr (ih e.on h2 (by omega) (getD_in (by omega) hl))
end

theorem region_loose {P : Program} {id : Nat} {Q : Exit → Act → World → Prop} {a : Act} {w : World} {l : List Oper} (n : Nat) (hm : P.follows .mixedOrders = true) (hB : looseB .any l.toArray n = true)
    (frame : (Nat → Value) → Act) (v0 : Nat → Value) (ha : frame v0 = a) (Inv : (Nat → Bool) → (Nat → Value) → World → Prop) (h0 : Inv (fun _ => false) v0 w.drew)
    (hstep : ∀ i, i < n → ∀ (L : Nat → Bool) (v : Nat → Value) (w1 : World) (K : Act → World → Prop) (o : Oper), l[i]? = some o → Inv L v w1 → L i = false → (∀ e ∈ o.after, Region.binds .any e = true → L e.on = true) →
      (∀ u w2, Inv (upd L i true) (upd v i u) w2 → K (frame (upd v i u)) w2) → wpList P l.toArray (Exit.then K Q) [o] (frame v) w1)
    (hdone : ∀ L v w1, (∀ i, i < n → L i = true) → Inv L v w1 → wpList P l.toArray Q (l.drop n) (frame v) w1) : (Code.region id l.toArray true).wp P Q a w := by
  unfold looseB at hB
  simp only [Bool.and_eq_true, decide_eq_true_eq] at hB
  obtain ⟨⟨⟨⟨hs, hc⟩, hn⟩, hseq⟩, hord⟩ := hB
  refine wp_region_any hm ?_
  change wpAny P .any l.toArray Q l.toArray.size _ a w.drew
  have main : ∀ (f : Nat) (listed : Array Bool) (v : Nat → Value) (w1 : World), HeadInv .any l.toArray n listed → ((List.range n).filter (fun i => listed.getD i false = false)).length = f →
      Inv (fun j => listed.getD j false) v w1 → wpAny P .any l.toArray Q (f + (l.toArray.size - n)) listed (frame v) w1 := by
    intro f
    induction f with
    | zero =>
      intro listed v w1 inv hf hI
      have hall : ∀ i, i < n → listed.getD i false = true := by
        intro i hi
        cases hl : listed.getD i false with
        | true => rfl
        | false =>
          have : i ∈ (List.range n).filter (fun i => listed.getD i false = false) := List.mem_filter.2 ⟨List.mem_range.2 hi, by simp only [hl, decide_true]⟩
          rw [List.length_eq_zero_iff.1 hf] at this
          cases this
      have hlisted : listed = Array.replicate n true ++ Array.replicate (l.toArray.size - n) false := by
        apply Array.ext
        · rw [inv.size]; simp only [Array.size_append, Array.size_replicate]; omega
        · intro i h1 h2
          by_cases hin : i < n
          · have := hall i hin
            rw [Array.getD_eq_getD_getElem?, Array.getElem?_eq_getElem h1] at this
            rw [Array.getElem_append_left (by simpa using hin), Array.getElem_replicate]
            exact this
          · have := inv.tail i (by omega) (by rw [inv.size] at h1; exact h1)
            rw [Array.getD_eq_getD_getElem?, Array.getElem?_eq_getElem h1] at this
            rw [Array.getElem_append_right (by simp; omega), Array.getElem_replicate]
            exact this
      subst hlisted
      rw [Nat.zero_add]
      have hlen : (l.drop n).length = l.toArray.size - n := by simp
      have := wpAny_of_seq (md := .any) (Q' := Q) (l.drop n) n (Array.replicate n true ++ Array.replicate (l.toArray.size - n) false) (frame v) w1 (fun j => by simp) (by rw [hlen]; exact hseq) (hdone _ v w1 hall hI)
      rw [hlen] at this
      exact this
    | succ f ih =>
      intro listed v w1 inv hf hI
      have hne : (List.range n).filter (fun i => listed.getD i false = false) ≠ [] := by intro h; rw [h] at hf; cases hf
      obtain ⟨i0, hi0⟩ := List.exists_mem_of_ne_nil _ hne
      obtain ⟨hi0n, hi0l⟩ := List.mem_filter.1 hi0
      have hi0n := List.mem_range.1 hi0n
      have hi0l : listed.getD i0 false = false := by simpa using hi0l
      have hun0 : listed.getD i0 true = false := getD_in (by rw [inv.size]; omega) hi0l
      rw [show f + 1 + (l.toArray.size - n) = (f + (l.toArray.size - n)) + 1 by omega]
      refine ⟨fun h => absurd h (least_unlisted hord inv.size hn i0 hi0n hun0), fun i hi => ?_⟩
      have hin : i < n := by
        rcases Nat.lt_or_ge i n with h | h
        · exact h
        · exact absurd hi (tail_waits hs hc hn inv _ i0 rfl hi0n hun0 i h)
      obtain ⟨hun, o, ho, hall⟩ := mem_ready.1 hi
      have hunf : listed.getD i false = false := getD_both hun
      have hil : i < listed.size := by rw [inv.size]; omega
      refine wpOp_of_list ho (hstep i hin (fun j => listed.getD j false) v w1 _ o (by simpa using ho) hI hunf hall ?_)
      intro u w2 hI2
      refine ih _ _ w2 (inv.set hi hin) ?_ ?_
      · have hfun : (List.range n).filter (fun j => (listed.setIfInBounds i true).getD j false = false) = ((List.range n).filter (fun j => listed.getD j false = false)).filter (fun j => j ≠ i) := by
          rw [List.filter_filter]
          apply List.filter_congr
          intro j hj
          by_cases hji : j = i
          · subst hji
            simp [Array.getD_eq_getD_getElem?, hil]
          · simp [Array.getD_eq_getD_getElem?, hji, Ne.symm hji]
        rw [hfun]
        have hnd : ((List.range n).filter (fun j => listed.getD j false = false)).Nodup := List.nodup_range.filter _
        have hmem : i ∈ (List.range n).filter (fun j => listed.getD j false = false) := List.mem_filter.2 ⟨List.mem_range.2 hin, by simp only [hunf, decide_true]⟩
        have := hnd.erase_eq_filter i
        have hlen := List.length_erase_of_mem hmem
        rw [this] at hlen
        simp only [ne_eq] at hlen ⊢
        have e : (fun j : Nat => decide ¬ j = i) = (fun j => j != i) := by funext j; by_cases h : j = i <;> simp [h]
        rw [e]
        omega
      · have e : (fun j => (listed.setIfInBounds i true).getD j false) = upd (fun j => listed.getD j false) i true := by
          funext j
          unfold upd
          by_cases hji : j = i
          · subst hji; simp [Array.getD_eq_getD_getElem?, hil]
          · simp [Array.getD_eq_getD_getElem?, hji, Ne.symm hji]
        rw [e]
        exact hI2
  have e0 : (fun j => (Array.replicate l.toArray.size false).getD j false) = fun _ => false := by
    funext j
    simp [Array.getD_eq_getD_getElem?, Array.getElem?_replicate]
    split <;> rfl
  have inv0 : HeadInv .any l.toArray n (Array.replicate l.toArray.size false) :=
    ⟨by simp, fun j oj _ hl => (by rw [getD_replicate_false] at hl; cases hl), fun t _ ht => getD_in (by simpa using ht) (getD_replicate_false _ _)⟩
  have hlen : ((List.range n).filter (fun i => (Array.replicate l.toArray.size false).getD i false = false)).length = n := by
    rw [List.filter_eq_self.2 (fun i _ => by rw [getD_replicate_false]; rfl), List.length_range]
  have := main n (Array.replicate l.toArray.size false) v0 w.drew inv0 hlen (by rw [e0]; exact h0)
  rw [show n + (l.toArray.size - n) = l.toArray.size by omega, ha] at this
  exact this
end Go.Proofs.YtpkgmoiffegbfaaDoor
