/- A law on a range over a function whose iterator keeps a state in one cell, over any program: no round leaves it early. No condition. -/
import Derived.Test.YtpkgmoiffegbfaaDoorZKit
import Derived.RangeFuncNested
import Derived.RangeFuncBound
import Derived.RangeFuncCalls
import Derived.RangeFuncLeaves
import Derived.Shelf.Abstract
import Derived.OwnWalkIn
import Derived.TacticsInMore
import Derived.LoopNIn
import Derived.LoopIn
namespace Go.Proofs.YtpkgmoiffegbfaaDoor
open Go.RowKit Go.Shelf

/-- What is no cells stays. -/
def KeepsRec (B : Nat) (W W' : World) : Prop := ∀ k o, B ≤ k → W.heap[k]? = some o → o.isCells = false → W'.heap[k]? = some o
/-- The book-keeping of a range over a function: what is no cells stays as it is under a write of cells. -/
def Books (B : World → Prop) : Prop := ∀ W W' r, B W → W.grownBy W' (some r) → (∃ o : Obj, W.heap[r]? = some o ∧ o.isCells = true) → B W'

theorem zrange {P : Program} {n : Nat} {gop : Operand} {p : Tmp} {assign body : Code} {Q : Exit → Act → World → Prop} {a : Act} {w : World} (h1 : 1 ≤ n) {gf : Nat} {lb : Array Value}
    (hg : a.eval gop = .func (.func gf) #[] lb) (eg : ∀ args w, (callFunc gf args).run P w = .ok (.enter gf args) w) (sb N : Nat) (x : Nat → Value) (J : Nat → World → Prop)
    (hJ : ∀ k W W' row, J k W → W.grownBy W' row → (∀ r, row = some r → w.heap.size ≤ r) → J k W') (h0 : J 0 w) (hsb : sb < w.heap.size) (ra : Act → Nat → Act)
    (hassign : ∀ (l k : Nat) (W : World) (K : Act → World → Prop), K (ra a k) W → assign.wpIn (Fence.wide.inRound l) (n - 1 - 1) P (Exit.then K (fun _ _ _ => False)) { tmps := (#[p].zip #[x k]).foldl (fun t (p, v) => t.setIfInBounds p v) a.tmps, defers := [] } W)
    (hbody : ∀ (l k : Nat) (W : World), k < N → J k W → body.wpIn (Fence.wide.inRound l) (n - 1 - 1) P (fun e _ W' => e = .normal ∧ KeepsRec w.heap.size W W' ∧ W'.heap[sb]? = W.heap[sb]? ∧ J (k + 1) W') (ra a k) W)
    (hiter : ∀ (l : Nat) (B : World → Prop), Books B → (∀ k W, k < N → J k W → B W → YieldAt Fence.wide (n - 1 - 1) P l #[x k] W fun e W' => e = .returned (.bool true) ∧ W'.heap[sb]? = W.heap[sb]? ∧ J (k + 1) W' ∧ B W') →
      ∀ W, J 0 W → B W → W.heap[sb]? = w.heap[sb]? → CallsIn Fence.wide (n - 1) P gf (#[.func (.yield l) #[] #[]] ++ lb) W fun e W' => (∃ v, e = .returned v) ∧ J N W' ∧ B W')
    (hdone : ∀ (D : Nat) (W : World), w.heap.size ≤ D → J N W → W.heap[D]? = some (.deferred (some [])) → Q .normal { a with defers := { target := .collected D, args := #[] } :: a.defers } W) :
    (Code.rangeFunc gop #[p] assign body).wpIn Fence.wide n P Q a w := by
  refine wpIn_rangeFunc ?_
  intro fn hfn
  have hro : Fence.wide.round = none := rfl
  rw [hro]
  obtain ⟨rec, hrec⟩ : ∃ rec : LoopState → Loop, rec = fun st => { state := st, pending := none, fn, tmps := a.tmps, params := #[p], assign, body, defers := w.heap.size } := ⟨_, rfl⟩
  obtain ⟨L, hL⟩ : ∃ L, L = w.heap.size + 1 := ⟨_, rfl⟩
  obtain ⟨W1, hW1⟩ : ∃ W1, (w.alloc (.deferred (some []))).alloc (.loop (rec .ready)) = W1 := ⟨_, rfl⟩
  have hD1 : W1.heap[w.heap.size]? = some (.deferred (some [])) := by rw [← hW1]; exact alloc_at _ (new_at w _)
  have hL1 : W1.heap[L]? = some (.loop (rec .ready)) := by
    rw [← hW1, hL]
    have := new_at (w.alloc (.deferred (some []))) (.loop (rec .ready))
    rwa [World.size_alloc] at this
  have hg1 : w.grownBy W1 none := by
    rw [← hW1]
    have g1 := World.grownBy_alloc w (.deferred (some [])) none
    have g2 := World.grownBy_alloc (w.alloc (.deferred (some []))) (.loop (rec .ready)) none
    exact ⟨rfl, rfl, rfl, Nat.le_trans g1.size g2.size, fun k hk _ => (g2.block k (Nat.lt_of_lt_of_le hk g1.size) (by simp)).trans (g1.block k hk (by simp))⟩
  have put : ∀ (W : World) (o o' : Obj), W.heap[L]? = some o → W.grownBy (W.putObj L o') (some L) := fun W _ o' _ => grownBy_putObj' W L o'
  refine ⟨L, [{ target := .collected w.heap.size, args := #[] }], W1, { target := .fn (.func gf) lb, args := #[.func (.yield L) #[] #[]] }, W1, gf, #[.func (.yield L) #[] #[]] ++ lb, W1, ?_, ?_, fun _ _ => trivial, ?_, fun _ => h1, ?_⟩
  · rw [hL, ← hW1, hrec]; exact run_enterLoop_outer _ _ _ _ _
  · simp only [resolve, hg]
    simp [go_sem]
  · simp [invoke, go_sem, eg]
  · refine (hiter L (fun W => W.heap[L]? = some (.loop (rec .ready)) ∧ W.heap[w.heap.size]? = some (.deferred (some []))) ?_ ?_ W1 (hJ _ _ _ none h0 hg1 (by intro r e; cases e)) ⟨hL1, hD1⟩ (hg1.block sb hsb (by simp))).mono ?_
    · rintro W W' r ⟨b1, b2⟩ hgr ⟨o, ho, hc⟩
      have keep : ∀ {k : Nat} {u : Obj}, W.heap[k]? = some u → u.isCells = false → W'.heap[k]? = some u := fun {k u} hk hu => (hgr.block k (zlt hk) (by
        intro e; cases e; rw [hk] at ho; cases ho; rw [hu] at hc; cases hc)).trans hk
      exact ⟨keep b1 rfl, keep b2 rfl⟩
    · rintro k W hk hj ⟨b1, b2⟩
      have hy := run_yield (P := P) (args := #[x k]) b1 (by rw [hrec]; rfl)
      rw [hrec] at hy
      refine ⟨fn, _, assign, body, hy, roundIn_of_wpIn hfn ?_⟩
      refine hassign L k W _ ?_
      refine ⟨_, run_beginRound b1 (by rw [hrec]), ?_⟩
      have hlt := zlt b1
      have hl2 : (W.putObj L (.loop { rec .ready with state := .busy })).heap[L]? = some (.loop { rec .ready with state := .busy }) := World.putObj_heap_same hlt
      have hk2 : (W.putObj L (.loop { rec .ready with state := .busy })).heap[w.heap.size]? = some (.deferred (some [])) := (World.putObj_heap_other (by omega)).trans b2
      have hj2 := hJ k _ _ (some L) hj (put W _ (.loop { rec .ready with state := .busy }) b1) (by intro r e; cases e; omega)
      have hs2 : (W.putObj L (.loop { rec .ready with state := .busy })).heap[sb]? = W.heap[sb]? := World.putObj_heap_other (by omega)
      refine wpIn_mono (hbody L k _ hk hj2) ?_
      rintro e a3 W3 ⟨rfl, hk3, hs3, hj3⟩
      have hl3 := hk3 L _ (by omega) hl2 rfl
      have hd3 := hk3 w.heap.size _ (Nat.le_refl _) hk2 rfl
      have hr := run_endRound (P := P) none hl3
      refine ⟨_, _, hr, ?_⟩
      have hlt3 := zlt hl3
      refine ⟨rfl, ((World.putObj_heap_other (by omega)).trans hs3).trans hs2, hJ _ _ _ (some L) hj3 (put W3 _ _ hl3) (by intro r e; cases e; omega), ?_, (World.putObj_heap_other (by omega)).trans hd3⟩
      rw [World.putObj_heap_same hlt3, hrec]
      rfl
    · rintro e W2 ⟨⟨v, rfl⟩, hj, b1, b2⟩
      have he := run_endLoop (P := P) b1 (by rw [hrec]; simp)
      rw [show (rec LoopState.ready).pending = none by rw [hrec]] at he
      exact ⟨none, _, he, hdone _ _ (Nat.le_refl _) (hJ _ _ _ (some L) hj (put W2 _ _ b1) (by intro r e; cases e; omega)) ((World.putObj_heap_other (by omega)).trans b2)⟩
end Go.Proofs.YtpkgmoiffegbfaaDoor
