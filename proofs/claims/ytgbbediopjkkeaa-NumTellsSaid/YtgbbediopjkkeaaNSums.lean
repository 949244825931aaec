/- Layer 1: what Sum answers: the walk through its range over a function, and the iterator's contract. Condition: no more numbers than a slice holds. -/
import Derived.RangeFuncNested
import Derived.RangeFuncBound
import Derived.RangeFuncCalls
import Derived.RangeFuncLeaves
import Derived.Shelf.Abstract
import Derived.Shelf.RegionOpen
import Derived.WalkKit
import Derived.OwnWalkIn
import Derived.TacticsInMore
import Derived.LoopNIn
import Derived.LoopIn
import Derived.Test.YtgbbediopjkkeaaNAdd
namespace Go.Proofs.Ytgbbediopjkkeaa
open Go.RowKit Go.Shelf
set_option maxRecDepth 20000
attribute [local go_sem] Oper.semAt_some

/-- What is reckoned behind k numbers, and whether it fits. -/
def st (zs : List Int) : Nat → Int × Bool
  | 0 => (0, true)
  | k + 1 => (cut ((st zs k).1 + zs[k]?.getD 0), fitsB ((st zs k).1 + zs[k]?.getD 0))
def upto {α : Type} (f : Nat → α) (k : Nat) : List α := (List.range k).map f
theorem upto_succ {α : Type} (f : Nat → α) (k : Nat) : upto f (k + 1) = upto f k ++ [f k] := by simp [upto, List.range_succ]
theorem upto_length {α : Type} (f : Nat → α) (k : Nat) : (upto f k).length = k := by simp [upto]
theorem st_in (zs : List Int) (k : Nat) : -9223372036854775808 ≤ (st zs k).1 ∧ (st zs k).1 ≤ 9223372036854775807 := by
  cases k with
  | zero => simp [st]
  | succ k => exact cut_in _

theorem abides_below {β : Type} {B : Nat} {J : β → World → Prop} (h : AbidesFrom B J) {s : β} {w w' : World} (hs : J s w) (g : Below w.heap.size w w') : J s w' :=
  h s w w' none hs ⟨g.os, g.tape, g.output, g.size, fun k hk _ => g.block k hk⟩ (fun r e => by cases e)

set_option maxRecDepth 100000 in
set_option maxHeartbeats 2000000 in
theorem sums1_in (n : Nat) (hn : 1 ≤ n) (l Bs n₀ b off len cap : Nat) (zs : List Int) (hlen : len ≤ 9223372036854775807) (hb : b < n₀) (hwz : ∀ j, j < len → -9223372036854775808 ≤ zs[j]?.getD 0 ∧ zs[j]?.getD 0 ≤ 9223372036854775807) (J Jx : List (Int × Bool) → World → Prop) (W : World) (hJ : AbidesFrom W.heap.size J)
    (hY : ∀ pre x W, J pre W → pre.length < len → YieldAt Fence.wide (n - 1) Try.prog l #[.int .i64 x.1, .bool x.2] W fun e W' =>
      (e = .returned (.bool true) ∧ J (pre ++ [x]) W' ∧ Below n₀ W W') ∨ (e = .returned (.bool false) ∧ Jx (pre ++ [x]) W'))
    (hn₀ : n₀ ≤ W.heap.size) (hBs : W.cell? ⟨Bs, 0, none⟩ = some (.slice (some ⟨b, off, none⟩) len cap)) (hc : ∀ j, j < len → W.cell? ⟨b, off + j, none⟩ = some (.int .i64 (zs[j]?.getD 0))) (h0 : J [] W) :
    CallsIn Fence.wide n Try.prog 33 #[.func (.yield l) #[] #[], .pointer (some ⟨Bs, 0, none⟩)] W fun e W' => (∃ v, e = .returned v) ∧
      ((∃ ys, ys = upto (fun j => st zs (j + 1)) len ∧ J ys W') ∨ (∃ pre, (∃ k, k ≤ len ∧ pre = upto (fun j => st zs (j + 1)) k) ∧ Jx pre W')) := by
  refine callsIn_of_wp Try.func33 rfl trivial ?_ rfl
  simp only [Try.ntmps33, List.size_toArray, List.length_cons, List.length_nil, Nat.reduceAdd, Nat.reduceSub, Array.replicate_succ, Array.replicate_zero, List.push_toArray, List.append_toArray, List.nil_append, List.cons_append]
  gi_wp2
  gi_loopw [3, 4, 9] (fun m f i wr => ∃ k : Nat, k ≤ len ∧ i = .int .i64 k ∧ m = .int .i64 (st zs k).1 ∧ f = .bool (st zs k).2 ∧ J (upto (fun j => st zs (j + 1)) k) wr ∧ Below n₀ W wr)
    (fun _ _ i _ => len - (intOf i).toNat)
  case atStart => exact ⟨0, Nat.zero_le _, rfl, rfl, rfl, h0, Below.refl _ _⟩
  case round =>
    obtain ⟨k, hk, rfl, rfl, rfl, hJs, hnx⟩ := hrel
    by_cases hlt : k < len
    · have hcx : wr.cell? ⟨b, off + k, none⟩ = some (.int .i64 (zs[k]?.getD 0)) := (hnx.cell (p := ⟨b, off + k, none⟩) hb).trans (hc k hlt)
      have hs := st_in zs k
      have hz := hwz k hlt
      obtain ⟨s0, hs0⟩ : ∃ s0, (st zs k).1 = s0 := ⟨_, rfl⟩
      obtain ⟨f0, hf0⟩ : ∃ f0, (st zs k).2 = f0 := ⟨_, rfl⟩
      obtain ⟨z0, hz0⟩ : ∃ z0, zs[k]?.getD 0 = z0 := ⟨_, rfl⟩
      have hst : st zs (k + 1) = (cut (s0 + z0), fitsB (s0 + z0)) := by simp only [st, hs0, hz0]
      have HST := Lib.hid hst
      rw [hs0] at hs ⊢
      rw [hf0]
      rw [hz0] at hz hcx
      clear hs0 hf0 hz0 hst hwz hc
      gi_wp2_with fail
      refine ⟨trivial, (callsIn_wide.2 (add_any s0 z0 _ hs.1 hs.2 hz.1 hz.2)).mono ?_⟩
      rintro e w1 ⟨rfl, hg⟩
      have hJ1 := abides_below hJ hJs hg
      have hnx1 : Below n₀ W w1 := hnx.trans (hg.mono (Nat.le_trans hn₀ hnx.size))
      obtain ⟨fn, tmps, assign, body, hy, hR⟩ := hY _ (cut (s0 + z0), fitsB (s0 + z0)) w1 hJ1 (by rw [upto_length]; exact hlt)
      dsimp only at hy
      obtain ⟨c1, hc1⟩ : ∃ c1, cut (s0 + z0) = c1 := ⟨_, rfl⟩
      obtain ⟨b1, hb1⟩ : ∃ b1, fitsB (s0 + z0) = b1 := ⟨_, rfl⟩
      rw [hc1, hb1] at hy hR HST ⊢
      clear hc1 hb1 hs hz hcx hJs hnx
      gi_wp2
      refine hR.mono ?_
      rintro e W3 (⟨rfl, hJ3, hk3⟩ | ⟨rfl, hJx3⟩)
      · gi_wp2
        go_roundw
        case rel => exact ⟨k + 1, by omega, by simp, by rw [HST.out], by rw [HST.out], by rw [upto_succ, HST.out]; exact hJ3, hnx1.trans hk3⟩
        case measure => simp [intOf]; omega
      · gi_wp2
        refine bodyPost_ret (results_none rfl _ _ _) rfl ?_
        exact ⟨⟨_, rfl⟩, .inr ⟨_, ⟨k + 1, by omega, by rw [upto_succ, HST.out]⟩, hJx3⟩⟩
    · obtain rfl : k = len := by omega
      gi_wp2
      go_end0
      exact ⟨⟨_, rfl⟩, .inl ⟨_, rfl, hJs⟩⟩

set_option maxRecDepth 100000 in
set_option maxHeartbeats 1000000 in
theorem sums1_nil_in (n : Nat) (l Bs cap : Nat) (a : Option Addr) (J : List (Int × Bool) → World → Prop) (W : World) (hBs : W.cell? ⟨Bs, 0, none⟩ = some (.slice a 0 cap)) (h0 : J [] W) :
    CallsIn Fence.wide n Try.prog 33 #[.func (.yield l) #[] #[], .pointer (some ⟨Bs, 0, none⟩)] W fun e W' => (∃ v, e = .returned v) ∧ J [] W' := by
  refine callsIn_of_wp Try.func33 rfl trivial ?_ rfl
  simp only [Try.ntmps33, List.size_toArray, List.length_cons, List.length_nil, Nat.reduceAdd, Nat.reduceSub, Array.replicate_succ, Array.replicate_zero, List.push_toArray, List.append_toArray, List.nil_append, List.cons_append]
  gi_wp2
  gi_loopw [3, 4, 9] (fun m f i wr => i = .int .i64 0 ∧ J [] wr) (fun _ _ _ _ => 0)
  case atStart => exact ⟨rfl, h0⟩
  case round =>
    obtain ⟨rfl, hJs⟩ := hrel
    gi_wp2
    go_end0
    exact ⟨⟨_, rfl⟩, hJs⟩

theorem sums_in (n : Nat) (a : Option Addr) (len cap : Nat) (w : World) :
    CallsIn Fence.wide n Try.prog 23 #[.slice a len cap] w fun e w' => e = .returned (.func (.func 33) #[] #[.pointer (some ⟨w.heap.size, 0, none⟩)]) ∧ w' = w.alloc (.cells #[.slice a len cap] 22) := by
  refine callsIn_of_wp Try.func23 rfl trivial ?_ rfl
  simp only [Try.ntmps23, List.size_toArray, List.length_cons, List.length_nil, Nat.reduceAdd, Nat.reduceSub, Array.replicate_succ, Array.replicate_zero, List.push_toArray, List.append_toArray, List.nil_append, List.cons_append]
  gi_wp2
  go_ret
  exact ⟨rfl, rfl⟩

/-- The slice value sv holds the numbers zs, in a block below n₀; or it is nil and there are none. -/
def Nums (n₀ : Nat) (W : World) (sv : Value) (zs : List Int) : Prop :=
  ((∃ a cap, sv = .slice a 0 cap) ∧ zs = []) ∨ ∃ b off cap, sv = .slice (some ⟨b, off, none⟩) zs.length cap ∧ b < n₀ ∧ ∀ j, j < zs.length → W.cell? ⟨b, off + j, none⟩ = some (.int .i64 (zs[j]?.getD 0))
theorem Nums.below {n₀ : Nat} {A B : World} (h : Below n₀ A B) {sv : Value} {zs : List Int} : Nums n₀ A sv zs → Nums n₀ B sv zs
  | .inl e => .inl e
  | .inr ⟨b, off, cap, e, hb, hc⟩ => .inr ⟨b, off, cap, e, hb, fun j hj => (h.cell (p := ⟨b, off + j, none⟩) hb).trans (hc j hj)⟩
/-- Numbers of 64 bits. -/
def In64 (zs : List Int) : Prop := ∀ j, j < zs.length → -9223372036854775808 ≤ zs[j]?.getD 0 ∧ zs[j]?.getD 0 ≤ 9223372036854775807

theorem sums_stops (n : Nat) (hn : 1 ≤ n) (Bs n₀ : Nat) (sv : Value) (zs : List Int) (hlen : zs.length ≤ 9223372036854775807) (hz : In64 zs) (w : World) (hBs : Bs < w.heap.size) (hn₀ : n₀ ≤ w.heap.size)
    (hc : w.cell? ⟨Bs, 0, none⟩ = some sv) (hI : Nums n₀ w sv zs) :
    SeqStopsK Fence.wide n Try.prog 33 #[.pointer (some ⟨Bs, 0, none⟩)] (fun x : Int × Bool => #[Value.int .i64 x.1, Value.bool x.2]) (Below n₀) (fun ys => ys = upto (fun j => st zs (j + 1)) zs.length)
      (fun pre => ∃ k, k ≤ zs.length ∧ pre = upto (fun j => st zs (j + 1)) k) zs.length w := fun l J Jx W hW hJ hJx hY h0 => by
  have hc' := (hW.cell (p := ⟨Bs, 0, none⟩) hBs).trans hc
  rcases hI.below (hW.mono hn₀) with ⟨⟨a0, c0, rfl⟩, rfl⟩ | ⟨b, off, cap, rfl, hb, hcs⟩
  · exact (sums1_nil_in n l Bs c0 a0 J W hc' h0).mono fun e W' ⟨he, hj⟩ => ⟨he, .inl ⟨_, rfl, hj⟩⟩
  · exact sums1_in n hn l Bs n₀ b off zs.length cap zs hlen hb hz J Jx W hJ hY (Nat.le_trans hn₀ hW.size) hc' hcs h0

/-- What Sum answers: the last of what is reckoned, if all of it fits. -/
def allFit (zs : List Int) : Bool := (upto (fun j => st zs (j + 1)) zs.length).all (·.2)
def sumN (zs : List Int) : Int := if allFit zs = true then (st zs zs.length).1 else 0
def lastOf (pre : List (Int × Bool)) : Int := (pre.getLast?.map (·.1)).getD 0
theorem lastOf_snoc (pre : List (Int × Bool)) (x : Int × Bool) : lastOf (pre ++ [x]) = x.1 := by simp [lastOf]
theorem lastOf_upto (zs : List Int) (k : Nat) : lastOf (upto (fun j => st zs (j + 1)) k) = (st zs k).1 := by
  cases k with
  | zero => rfl
  | succ k => rw [upto_succ, lastOf_snoc]

theorem box_keep {A B : World} {row : Option Nat} {k : Nat} {t : TypeId} {v : Value} (h : Boxed A k t v) (hg : A.grownBy B row) (hr : ∀ r, row = some r → ∃ o : Obj, A.heap[r]? = some o ∧ o.isCells = false) : Boxed B k t v :=
  boxed_own (β := Unit) k t (fun _ => v) () A B row h hg hr

set_option maxRecDepth 100000 in
set_option maxHeartbeats 2000000 in
theorem sum_in (n : Nat) (hn : 3 ≤ n) (a : Option Addr) (len cap : Nat) (zs : List Int) (hlen : zs.length ≤ 9223372036854775807) (hz : In64 zs) (w : World) (hI : Nums w.heap.size w (.slice a len cap) zs) :
    CallsIn Fence.wide n Try.prog 8 #[.slice a len cap] w fun e W' => e = .returned (.tuple #[.int .i64 (sumN zs), .bool (allFit zs)]) ∧ Below w.heap.size w W' := by
  have h1 : 1 ≤ n := by omega
  refine callsIn_of_wp_marks Try.func8 rfl trivial ?_ rfl
  simp only [Try.ntmps8, List.size_toArray, List.length_cons, List.length_nil, Nat.reduceAdd, Nat.reduceSub, Array.replicate_succ, Array.replicate_zero, List.push_toArray, List.append_toArray, List.nil_append, List.cons_append]
  gi_wp2_with (refine ⟨trivial, ?_⟩; gi_at_call 23; refine (sums_in (n - 1) _ _ _ _).mono ?_; rintro e w' ⟨rfl, rfl⟩)
  have bR0 := (((Boxed.new w 2 (.int .i64 0)).alloc (.cells #[.bool false] 4)).alloc (.cells #[.int .i64 0] 2)).alloc (.cells #[.slice a len cap] 22)
  have bR1 := ((Boxed.new (w.alloc (.cells #[.int .i64 0] 2)) 4 (.bool false)).alloc (.cells #[.int .i64 0] 2)).alloc (.cells #[.slice a len cap] 22)
  have bL := (Boxed.new ((w.alloc (.cells #[.int .i64 0] 2)).alloc (.cells #[.bool false] 4)) 2 (.int .i64 0)).alloc (.cells #[.slice a len cap] 22)
  have bN := Boxed.new (((w.alloc (.cells #[.int .i64 0] 2)).alloc (.cells #[.bool false] 4)).alloc (.cells #[.int .i64 0] 2)) 22 (.slice a len cap)
  rw [World.size_alloc] at bR1
  rw [World.size_alloc, World.size_alloc] at bL
  rw [World.size_alloc, World.size_alloc, World.size_alloc] at bN
  have hB0 : Below w.heap.size w ((((w.alloc (.cells #[.int .i64 0] 2)).alloc (.cells #[.bool false] 4)).alloc (.cells #[.int .i64 0] 2)).alloc (.cells #[.slice a len cap] 22)) := ((((Below.refl _ w).alloc (Nat.le_refl _) _).alloc (by simp) _).alloc (by simp; omega) _).alloc (by simp; omega) _
  obtain ⟨W0, hW0⟩ : ∃ W0, (((w.alloc (.cells #[.int .i64 0] 2)).alloc (.cells #[.bool false] 4)).alloc (.cells #[.int .i64 0] 2)).alloc (.cells #[.slice a len cap] 22) = W0 := ⟨_, rfl⟩
  have hsz : W0.heap.size = w.heap.size + 4 := by rw [← hW0]; simp
  rw [hW0] at bR0 bR1 bL bN hB0 ⊢
  have HSZ := Lib.hid hsz
  clear hW0 hsz
  refine wpIn_rangeFunc_ownG rfl h1 (gf := 33) (lb := #[.pointer (some ⟨w.heap.size + 1 + 1 + 1, 0, none⟩)]) rfl trivial (enters_of Try.func33 (by kernel_rfl) rfl)
    (sums_stops (n - 1) (by omega) (w.heap.size + 1 + 1 + 1) w.heap.size _ zs hlen hz _ (by rw [HSZ.out]; omega) (by rw [HSZ.out]; omega) bN.cell (hI.below hB0)) belowK_t (belowK_b (by rw [HSZ.out]; omega)) (Below.refl _ _) (fun _ => rfl)
    (fun pre W => ((∀ p ∈ pre, p.2 = true) ∧ Boxed W w.heap.size 2 (.int .i64 0) ∧ Boxed W (w.heap.size + 1) 4 (.bool false) ∧ Boxed W (w.heap.size + 1 + 1) 2 (.int .i64 (lastOf pre))) ∧ Below w.heap.size w W)
    (fun c pre W => (c = .ret ∧ (∃ (ini : List (Int × Bool)) (last : Int × Bool), pre = ini ++ [last] ∧ last.2 = false) ∧ Boxed W w.heap.size 2 (.int .i64 0) ∧ Boxed W (w.heap.size + 1) 4 (.bool false)) ∧ Below w.heap.size w W)
    (OwnFrom.and (Own.from (fun s A B row hs hg hr => ⟨hs.1, box_keep hs.2.1 hg hr, box_keep hs.2.2.1 hg hr, box_keep hs.2.2.2 hg hr⟩) _) (ownFrom_below (Nat.le_refl _) (by rw [HSZ.out]; omega)))
    (fun c => OwnFrom.and (Own.from (fun s A B row hs hg hr => ⟨hs.1, hs.2.1, box_keep hs.2.2.1 hg hr, box_keep hs.2.2.2 hg hr⟩) _) (ownFrom_below (Nat.le_refl _) (by rw [HSZ.out]; omega)))
    ⟨⟨by simp, bR0, bR1, bL⟩, hB0⟩
    (fun x => { tmps := #[.slice a len cap, undef, .pointer (some ⟨w.heap.size, 0, none⟩), .pointer (some ⟨w.heap.size + 1, 0, none⟩), .pointer (some ⟨w.heap.size + 1 + 1, 0, none⟩), .int .i64 x.1, .bool x.2, .slice a len cap, .func (.func 33) #[] #[.pointer (some ⟨w.heap.size + 1 + 1 + 1, 0, none⟩)], .int .i64 x.1, .bool x.2, undef, undef, undef, undef], defers := [] }) ?assign ?body ?done ?stop
  case assign =>
    intro l x W K hK
    gi_wp2
    exact hK
  case body =>
    rintro l pre x W ⟨⟨hp, b0, b1, b2⟩, hB⟩ _
    obtain ⟨x1, x2⟩ := x
    have h0c := b0.cell
    have h0f := b0.frozen
    have h1c := b1.cell
    have h1f := b1.frozen
    have h2c := b2.cell
    have h2f := b2.frozen
    cases x2
    · gi_wp2
      exact ⟨((KeepsOthers.setCell _ _ _).trans (KeepsOthers.setCell _ _ _)).from _, ⟨rfl, ⟨pre, (x1, false), rfl, rfl⟩, (b0.set _).other (by omega) _, (b1.other (by omega) _).set _⟩, (hB.setCell (p := ⟨w.heap.size, 0, none⟩) (Nat.le_refl _) _).setCell (p := ⟨w.heap.size + 1, 0, none⟩) (Nat.le_succ _) _⟩
    · gi_wp2
      exact ⟨(KeepsOthers.setCell _ _ _).from _, (Below.refl w.heap.size W).setCell (p := ⟨w.heap.size + 1 + 1, 0, none⟩) (by show w.heap.size ≤ w.heap.size + 1 + 1; omega) _,
        ⟨fun p hp' => (List.mem_append.1 hp').elim (hp p) (fun e => by simp at e; subst e; rfl), b0.other (by omega) _, b1.other (by omega) _, by rw [lastOf_snoc]; exact b2.set _⟩, hB.setCell (p := ⟨w.heap.size + 1 + 1, 0, none⟩) (by show w.heap.size ≤ w.heap.size + 1 + 1; omega) _⟩
  case done =>
    rintro D ys W hD rfl ⟨⟨hp, b0, b1, b2⟩, hB⟩ hK
    have hall : allFit zs = true := List.all_eq_true.2 hp
    have hsum : sumN zs = (st zs zs.length).1 := by simp [sumN, hall]
    rw [lastOf_upto] at b2
    obtain ⟨m, hm⟩ : ∃ m, (st zs zs.length).1 = m := ⟨_, rfl⟩
    rw [hm] at b2 hsum
    have HALL := Lib.hid hall
    have HSUM := Lib.hid hsum
    clear hm hsum hall
    have h0c := b0.cell
    have h0f := b0.frozen
    have h1c := b1.cell
    have h1f := b1.frozen
    have h2c := b2.cell
    have h2f := b2.frozen
    gi_wp2
    have hK1 := (KeepsOthers.setCell W ⟨w.heap.size, 0, none⟩ (.int .i64 m)).same D _ hK rfl
    have hK2 := (KeepsOthers.setCell (W.setCell ⟨w.heap.size, 0, none⟩ (.int .i64 m)) ⟨w.heap.size + 1, 0, none⟩ (.bool true)).same D _ hK1 rfl
    have c0 := box_keep ((b0.set (.int .i64 m)).other (B' := w.heap.size + 1) (by omega) (.bool true)) (grownBy_putObj' _ D (.deferred none)) (fun r e => by cases e; exact ⟨_, hK2, rfl⟩)
    have c1 := box_keep ((b1.other (B' := w.heap.size) (by omega) (.int .i64 m)).set (.bool true)) (grownBy_putObj' _ D (.deferred none)) (fun r e => by cases e; exact ⟨_, hK2, rfl⟩)
    have d0 := c0.cell
    have d1 := c1.cell
    refine ⟨by simp, .inl ⟨_, _, rfl, run_takeDeferred hK2, ?_⟩⟩
    refine ⟨.tuple #[.int .i64 m, .bool true], ?_, by rw [HALL.out, HSUM.out], ((hB.setCell (p := ⟨w.heap.size, 0, none⟩) (Nat.le_refl _) _).setCell (p := ⟨w.heap.size + 1, 0, none⟩) (Nat.le_succ _) _).trans (belowK_b (w := w) (Nat.le_refl _) _ D _ _ (by have := HSZ.out; omega) hK2 rfl rfl)⟩
    simp [results, Try.f8, go_sem, d0, d1]
  case stop =>
    rintro D c pre W hD ⟨k, hk, rfl⟩ ⟨⟨rfl, ⟨ini, last, e1, e2⟩, b0, b1⟩, hB⟩ hK
    have hall : allFit zs = false := by
      rw [Bool.eq_false_iff]
      intro h
      have h' := List.all_eq_true.1 h
      obtain ⟨k', rfl⟩ : ∃ k', k = k' + 1 := by
        cases k with
        | zero => simp [upto] at e1
        | succ k' => exact ⟨k', rfl⟩
      rw [upto_succ] at e1
      obtain ⟨rfl, e5⟩ := List.append_inj' e1 rfl
      obtain rfl : st zs (k' + 1) = last := by simpa using e5
      have := h' (st zs (k' + 1)) (by simp only [upto, List.mem_map, List.mem_range]; exact ⟨k', by omega, rfl⟩)
      rw [e2] at this
      cases this
    have hsum : sumN zs = 0 := by simp [sumN, hall]
    have HALL := Lib.hid hall
    have HSUM := Lib.hid hsum
    have h0c := b0.cell
    have h1c := b1.cell
    clear hall hsum e1
    gi_wp2
    have d0 := (box_keep b0 (grownBy_putObj' _ D (.deferred none)) (fun r e => by cases e; exact ⟨_, hK, rfl⟩)).cell
    have d1 := (box_keep b1 (grownBy_putObj' _ D (.deferred none)) (fun r e => by cases e; exact ⟨_, hK, rfl⟩)).cell
    refine ⟨by simp, .inl ⟨_, _, rfl, run_takeDeferred hK, ?_⟩⟩
    refine ⟨.tuple #[.int .i64 0, .bool false], ?_, by rw [HALL.out, HSUM.out], hB.trans (belowK_b (w := w) (Nat.le_refl _) _ D _ _ (by have := HSZ.out; omega) hK rfl rfl)⟩
    simp [results, Try.f8, go_sem, d0, d1]

theorem sum_any (a : Option Addr) (len cap : Nat) (zs : List Int) (hlen : zs.length ≤ 9223372036854775807) (hz : In64 zs) (w : World) (hI : Nums w.heap.size w (.slice a len cap) zs) :
    Calls Try.prog 8 #[.slice a len cap] w fun e W' => e = .returned (.tuple #[.int .i64 (sumN zs), .bool (allFit zs)]) ∧ Below w.heap.size w W' :=
  callsIn_wide.1 (sum_in 3 (by omega) a len cap zs hlen hz w hI)
end Go.Proofs.Ytgbbediopjkkeaa
