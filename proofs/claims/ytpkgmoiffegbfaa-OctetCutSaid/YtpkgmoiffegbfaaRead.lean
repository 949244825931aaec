/- The reader of layer 16: what Read makes, and what a step, Num, Text, Left and End answer. No condition. -/
import Derived.Test.YtpkgmoiffegbfaaChecked
import Derived.Test.YtpkgmoiffegbfaaKit
import Derived.StillTailTactics
import Derived.BigQuiet
import Derived.Deep.Heap
namespace Go.Proofs.Ytpkgmoiffegbfaa
open Go.RowKit Go.BigFrame
set_option maxRecDepth 20000

theorem run_store_fn (P : Program) (w : World) (a : Addr) (m : Mode) (fn : Fn) (first captured : Array Value) : (store a (.func fn first captured) m).run P w = stored P w a (.func fn first captured) m := run_store P w a _ m rfl
attribute [local go_sem] run_store_fn

theorem cellAt {w : World} {b i : Nat} {cs : Array Value} {t : TypeId} {fr : Nat × Nat} {v : Value} (h : w.heap[b]? = some (.cells cs t fr)) (hv : cs[i]? = some v) : w.cell? ⟨b, i, none⟩ = some v := by
  simp [World.cell?, h, hv]
theorem openAt {w : World} {b i : Nat} {cs : Array Value} {t : TypeId} (h : w.heap[b]? = some (.cells cs t (0, 0))) : w.frozen? ⟨b, i, none⟩ = false := by
  simp [World.frozen?, h]

/-- A reader at N, whose own variable lies at M: its text, its place, whether it is broken. -/
def IsRd (w : World) (N M : Nat) (s : ByteArray) (a : Int) (bad : Bool) : Prop :=
  w.cell? ⟨N, 0, none⟩ = some (.string s) ∧ w.cell? ⟨N, 1, none⟩ = some (.int .i64 a) ∧ w.cell? ⟨N, 2, none⟩ = some (.func (.func 39) #[] #[.pointer (some ⟨M, 0, none⟩)]) ∧ w.cell? ⟨N, 3, none⟩ = some (.bool bad) ∧
  w.cell? ⟨M, 0, none⟩ = some (.pointer (some ⟨N, 0, none⟩)) ∧ w.frozen? ⟨N, 1, none⟩ = false ∧ w.frozen? ⟨N, 3, none⟩ = false ∧ N ≠ M

theorem read_new (s : ByteArray) (w : World) : Calls Try.prog 15 #[.string s] w fun e w' => e = .returned (.pointer (some ⟨w.heap.size, 0, none⟩)) ∧ Below w.heap.size w w' ∧ IsRd w' w.heap.size (w.heap.size + 1) s 0 false := by
  go_enter Try.func15, Try.ntmps15
  go_wp2
  go_ret
  refine ⟨rfl, ?_, ?_⟩
  · exact ((Below.refl _ _).alloc (Nat.le_refl _) _).alloc (by simp) _
  · have h1 : ((w.alloc (.cells #[.string s, .int .i64 0, .func (.func 39) #[] #[.pointer (some ⟨w.heap.size + 1, 0, none⟩)], .bool false] 76)).alloc (.cells #[.pointer (some ⟨w.heap.size, 0, none⟩)] 34)).heap[w.heap.size]? = some (.cells #[.string s, .int .i64 0, .func (.func 39) #[] #[.pointer (some ⟨w.heap.size + 1, 0, none⟩)], .bool false] 76 (0, 0)) := by
      show ((w.heap.push _).push _)[w.heap.size]? = _
      simp [Array.getElem?_push]
    have h2 : ((w.alloc (.cells #[.string s, .int .i64 0, .func (.func 39) #[] #[.pointer (some ⟨w.heap.size + 1, 0, none⟩)], .bool false] 76)).alloc (.cells #[.pointer (some ⟨w.heap.size, 0, none⟩)] 34)).heap[w.heap.size + 1]? = some (.cells #[.pointer (some ⟨w.heap.size, 0, none⟩)] 34 (0, 0)) := by
      exact heap_alloc2_new w _ _
    exact ⟨cellAt h1 rfl, cellAt h1 rfl, cellAt h1 rfl, cellAt h1 rfl, cellAt h2 rfl, openAt h1, openAt h1, by omega⟩

theorem still_of_quiet {P : Program} {o : Oper} {a : Act} {w : World} {K : Act → Prop} (h : o.quiet P a (fun w' => w' = w) K) : o.still P a w K := by
  obtain ⟨v, h1, h2⟩ := h
  have h3 := h1 w rfl
  unfold Oper.quietAt at h3
  unfold Oper.still
  generalize (execOp a.eval o).run P w = r at *
  cases r with
  | ok n w' =>
    cases n <;> simp only [Oper.quietUpon] at h3 <;> simp only [Oper.stillUpon]
    case value u => exact ⟨h3.1, by rw [h3.2]; exact h2⟩
    case skip => exact ⟨h3.1, by rw [← h3.2]; exact h2⟩
    case enter f args => exact ⟨h3.1, v, h3.2, h2⟩
  | halt x w' => simp only [Oper.quietUpon] at h3
theorem wpStill_of_quiet {P : Program} {ops : Array Oper} {w : World} {Q : Act → Prop} : ∀ (l : List Oper) (a : Act), wpQuiet P ops (fun w' => w' = w) Q l a → wpStill P ops w Q l a
  | [], _, h => h
  | o :: l, a, h => by
    unfold wpQuiet at h
    unfold wpStill
    split
    · rename_i hw
      simp only [hw, if_true] at h
      exact Oper.still_mono (fun a' h' => wpStill_of_quiet l a' h') (still_of_quiet h)
    · rename_i hw
      simp only [hw] at h
      exact wpStill_of_quiet l _ h

theorem wrap64 {n : Int} (h : -9223372036854775808 ≤ n) (h' : n ≤ 9223372036854775807) : IntKind.i64.wrap n = n := by
  unfold IntKind.wrap
  simp only [IntKind.bits, IntKind.signed]
  simp
  omega
theorem grown_set (w : World) (a : Addr) (u : Value) : w.grownBy (w.setCell a u) (some a.block) :=
  ⟨rfl, rfl, rfl, by simp [World.setCell], fun k _ hk => Deep.blk_setCell_other w a u k (fun e => hk (by rw [e]))⟩
theorem grown_drew (w : World) (r : Option Nat) : w.grownBy w.drew r := ⟨rfl, rfl, rfl, Nat.le_refl _, fun _ _ _ => rfl⟩
theorem grown_trans {w w1 w2 : World} {r : Option Nat} (h : w.grownBy w1 r) (g : w1.grownBy w2 r) : w.grownBy w2 r :=
  ⟨g.os.trans h.os, g.tape.trans h.tape, g.output.trans h.output, Nat.le_trans h.size g.size, fun k hk hr => (g.block k (Nat.lt_of_lt_of_le hk h.size) hr).trans (h.block k hk hr)⟩
theorem grown_self (w : World) (r : Option Nat) : w.grownBy w r := ⟨rfl, rfl, rfl, Nat.le_refl _, fun _ _ _ => rfl⟩

theorem IsRd.drew {w : World} {N M : Nat} {s : ByteArray} {a : Int} {bad : Bool} (h : IsRd w N M s a bad) : IsRd w.drew N M s a bad := h
theorem IsRd.bad {w : World} {N M : Nat} {s : ByteArray} {a : Int} {bad : Bool} (h : IsRd w N M s a bad) (b : Bool) : IsRd (w.setCell ⟨N, 3, none⟩ (.bool b)) N M s a b := by
  obtain ⟨c0, c1, c2, c3, cM, f1, f3, hNM⟩ := h
  refine ⟨?_, ?_, ?_, World.cell?_setCell_same (h := c3) .., ?_, ?_, ?_, hNM⟩
  · exact (World.cell?_setCell_other (h := by simp) ..).trans c0
  · exact (World.cell?_setCell_other (h := by simp) ..).trans c1
  · exact (World.cell?_setCell_other (h := by simp) ..).trans c2
  · exact (World.cell?_setCell_other (h := by simp) ..).trans cM
  · rw [World.frozen?_setCell]; exact f1
  · rw [World.frozen?_setCell]; exact f3
theorem IsRd.at {w : World} {N M : Nat} {s : ByteArray} {a : Int} {bad : Bool} (h : IsRd w N M s a bad) (b : Int) : IsRd (w.setCell ⟨N, 1, none⟩ (.int .i64 b)) N M s b bad := by
  obtain ⟨c0, c1, c2, c3, cM, f1, f3, hNM⟩ := h
  refine ⟨?_, World.cell?_setCell_same (h := c1) .., ?_, ?_, ?_, ?_, ?_, hNM⟩
  · exact (World.cell?_setCell_other (h := by simp) ..).trans c0
  · exact (World.cell?_setCell_other (h := by simp) ..).trans c2
  · exact (World.cell?_setCell_other (h := by simp) ..).trans c3
  · exact (World.cell?_setCell_other (h := by simp) ..).trans cM
  · rw [World.frozen?_setCell]; exact f1
  · rw [World.frozen?_setCell]; exact f3
theorem IsRd.grown {w w' : World} {N M : Nat} {s : ByteArray} {a : Int} {bad : Bool} (h : IsRd w N M s a bad) {r : Option Nat} (g : w.grownBy w' r) (hN : some N ≠ r) (hM : some M ≠ r) (h1 : N < w.heap.size) (h2 : M < w.heap.size) : IsRd w' N M s a bad := by
  obtain ⟨c0, c1, c2, c3, cM, f1, f3, hNM⟩ := h
  have gN := g.block N h1 hN
  have gM := g.block M h2 hM
  exact ⟨(World.cell?_of_block (a := ⟨N, 0, none⟩) gN).trans c0, (World.cell?_of_block (a := ⟨N, 1, none⟩) gN).trans c1, (World.cell?_of_block (a := ⟨N, 2, none⟩) gN).trans c2, (World.cell?_of_block (a := ⟨N, 3, none⟩) gN).trans c3, (World.cell?_of_block (a := ⟨M, 0, none⟩) gM).trans cM, (World.frozen?_of_block (a := ⟨N, 1, none⟩) gN).trans f1, (World.frozen?_of_block (a := ⟨N, 3, none⟩) gN).trans f3, hNM⟩

set_option maxHeartbeats 4000000 in
theorem step_any (s : ByteArray) (N M : Nat) (a n : Int) (bad : Bool) (w : World) (h : IsRd w N M s a bad) (ha : 0 ≤ a) (hb : a ≤ s.size) (hs : s.size ≤ 9223372036854775807) (hn : bad = true ∨ 0 ≤ n) :
    Calls Try.prog 39 #[.int .i64 n, .pointer (some ⟨M, 0, none⟩)] w fun e w' => e = .returned (.bool (!(bad || decide ((s.size : Int) - a < n)))) ∧ w.grownBy w' (some N) ∧
      IsRd w' N M s (if bad || decide ((s.size : Int) - a < n) then a else a + n) (bad || decide ((s.size : Int) - a < n)) := by
  have hR := hide h
  obtain ⟨c0, c1, c2, c3, cM, f1, f3, hNM⟩ := h
  cases bad with
  | true =>
    clear hn
    go_enter Try.func39, Try.ntmps39
    go_wp2
    refine wp_region_still_tail 21 (by kernel_rfl) (by kernel_rfl) ?_
    simp only [List.take_succ_cons, List.take_zero, List.drop_succ_cons, List.drop_zero]
    change wpStill _ _ w.drew _ _ _
    refine wpStill_of_quiet _ _ ?_
    iterate 21 (first | go_big_quiet_skip | (go_big_quiet_want; go_big_quiet_op; go_big_quiet_on))
    refine wpQuiet_nil ?_
    go_wp2
    all_goals (go_ret; exact ⟨rfl, grown_trans (grown_set w ⟨N, 3, none⟩ _) (grown_drew _ _), by simpa using (hR.out.bad true).drew⟩)
  | false =>
    have hn : 0 ≤ n := by simpa using hn
    have hw : IntKind.i64.wrap ((s.size : Int) - a) = (s.size : Int) - a := wrap64 (by omega) (by omega)
    by_cases hgt : (s.size : Int) - a < n
    · have hd : decide ((s.size : Int) - a < n) = true := by simp [hgt]
      simp only [hd]
      go_enter Try.func39, Try.ntmps39
      go_wp2
      refine wp_region_still_tail 21 (by kernel_rfl) (by kernel_rfl) ?_
      simp only [List.take_succ_cons, List.take_zero, List.drop_succ_cons, List.drop_zero]
      change wpStill _ _ w.drew _ _ _
      refine wpStill_of_quiet _ _ ?_
      iterate 21 (first | go_big_quiet_skip | (go_big_quiet_want; go_big_quiet_op; go_big_quiet_on))
      refine wpQuiet_nil ?_
      go_wp2
      all_goals (go_ret; exact ⟨rfl, grown_trans (grown_set w ⟨N, 3, none⟩ _) (grown_drew _ _), by simpa using (hR.out.bad true).drew⟩)
    · have hd : decide ((s.size : Int) - a < n) = false := by simp [hgt]
      have hw2 : IntKind.i64.wrap (a + n) = a + n := wrap64 (by clear hw; omega) (by clear hw; omega)
      simp only [hd]
      go_enter Try.func39, Try.ntmps39
      go_wp2
      refine wp_region_still_tail 21 (by kernel_rfl) (by kernel_rfl) ?_
      simp only [List.take_succ_cons, List.take_zero, List.drop_succ_cons, List.drop_zero]
      change wpStill _ _ w.drew _ _ _
      refine wpStill_of_quiet _ _ ?_
      iterate 21 (first | go_big_quiet_skip | (go_big_quiet_want; go_big_quiet_op; go_big_quiet_on))
      refine wpQuiet_nil ?_
      go_wp2
      all_goals (go_ret; exact ⟨rfl, grown_trans (grown_trans (grown_set w ⟨N, 3, none⟩ (.bool false)) (grown_set _ ⟨N, 1, none⟩ _)) (grown_drew _ _), by simpa using ((hR.out.bad false).at (a + n)).drew⟩)
end Go.Proofs.Ytpkgmoiffegbfaa
