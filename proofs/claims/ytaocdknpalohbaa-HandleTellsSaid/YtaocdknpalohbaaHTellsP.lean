/- The law HandleTells, lifted. No condition. -/
import Derived.Test.YtaocdknpalohbaaRows
import Derived.Test.YtaocdknpalohbaaHTells
import Derived.Test.YtaocdknpalohbaaHSeal
import Derived.ProofKit
import Derived.SizedLaws
import Derived.OpenShut
import Derived.Deep.Slices
namespace Go.Proofs.Ytaocdknpalohbaa
open Go.ChangeShapes Go.WideShapes Go.ChangeAt Go.RowKit Go.Deep
open Go.ChangeMaps (open_string shut_string)

theorem cellsStep : Try.prog.cellsOf 33 = 7 := by kernel_rfl
theorem cellsU8 : Try.prog.cellsOf 5 = 1 := by kernel_rfl
theorem seven_list {α : Type} (l : List α) (h : l.length = 7) : ∃ a b c d e f g, l = [a, b, c, d, e, f, g] := by
  match l, h with
  | [a, b, c, d, e, f, g], _ => exact ⟨a, b, c, d, e, f, g, rfl⟩

set_option maxRecDepth 100000 in
/-- A step that came in. -/
theorem open_step {H : Type} {enc : TypeId × Value → H} {W : World} {base : Nat} {held : Bool} {k : Nat} {c0 c1 c2 c3 c4 c5 c6 : Value} {y : DataW H × List MemPlace}
    (ht : DataW.trod enc Try.prog W base (fun _ => true) held k 33 [c0, c1, c2, c3, c4, c5, c6] = some y) : ∃ s : St, s.Ok ∧ [c0, c1, c2, c3, c4, c5, c6] = s.cells.toList := by
  obtain ⟨xs, k, _, _, _, hxl, hg⟩ := DataW.trod_struct Try.underlying33 ht
  obtain ⟨x0, x1, x2, x3, rfl⟩ := four_list xs hxl
  have g0 : DataW.trod enc Try.prog W base (fun _ => true) held k 5 (List.take (Try.prog.cellsOf 5) (List.drop 0 [c0, c1, c2, c3, c4, c5, c6])) = [x0, x1, x2, x3][0]? := hg 0 _ rfl
  have g1 : DataW.trod enc Try.prog W base (fun _ => true) held k 5 (List.take (Try.prog.cellsOf 5) (List.drop 1 [c0, c1, c2, c3, c4, c5, c6])) = [x0, x1, x2, x3][1]? := hg 1 _ rfl
  have g2 : DataW.trod enc Try.prog W base (fun _ => true) held k 5 (List.take (Try.prog.cellsOf 5) (List.drop 2 [c0, c1, c2, c3, c4, c5, c6])) = [x0, x1, x2, x3][2]? := hg 2 _ rfl
  have g3 : DataW.trod enc Try.prog W base (fun _ => true) held k 31 (List.take (Try.prog.cellsOf 31) (List.drop 3 [c0, c1, c2, c3, c4, c5, c6])) = [x0, x1, x2, x3][3]? := hg 3 _ rfl
  rw [cellsU8] at g0 g1 g2
  rw [cellsSealed] at g3
  simp only [List.drop_zero, List.drop_succ_cons, List.take_succ_cons, List.take_zero, List.getElem?_cons_zero, List.getElem?_cons_succ] at g0 g1 g2 g3
  obtain ⟨n0, e0, _, f0⟩ := DataW.trod_int Try.underlying5 g0
  obtain ⟨n1, e1, _, f1⟩ := DataW.trod_int Try.underlying5 g1
  obtain ⟨n2, e2, _, f2⟩ := DataW.trod_int Try.underlying5 g2
  simp only [List.cons.injEq, and_true] at e0 e1 e2
  subst e0 e1 e2
  obtain ⟨x, rfl, rfl, rfl, rfl⟩ := open_sealed g3
  have b0 := bounds_u8 f0
  have b1 := bounds_u8 f1
  have b2 := bounds_u8 f2
  obtain ⟨m0, rfl⟩ := Int.eq_ofNat_of_zero_le b0.1
  obtain ⟨m1, rfl⟩ := Int.eq_ofNat_of_zero_le b1.1
  obtain ⟨m2, rfl⟩ := Int.eq_ofNat_of_zero_le b2.1
  exact ⟨⟨m0, m1, m2, x⟩, ⟨by simp; omega, by simp; omega, by simp; omega⟩, rfl⟩

set_option maxRecDepth 100000 in
/-- A row of steps that came in. -/
theorem open_steps {H : Type} {enc : TypeId × Value → H} {W : World} {base : Nat} {held : Bool} {r : Reach} {b0 : Nat} {v : Value} {d : DataW H} {pl : List MemPlace}
    (hval : Value.okWide Try.prog W r b0 22 v) (hd : DataW.Trod enc Try.prog W base (fun _ => true) held 22 v d pl) :
    ∃ (aa : Option Addr) (cap : Nat) (ls : List St), v = .slice aa ls.length cap ∧ ls.length ≤ 9223372036854775807 ∧ (0 < ls.length → ∃ b off, aa = some ⟨b, off, none⟩ ∧ b < W.heap.size ∧ StepsAt W b off ls) := by
  obtain ⟨a1, len1, cap1, rfl⟩ := okWide_slice Try.underlying22 hval
  obtain ⟨fuel, hf⟩ := hd
  rcases open_slice Try.underlying22 hf with ⟨hcs, _⟩ | ⟨x, l, c, m, n, D, Pl, hcs, _, hl, hm, hmm, _, hi⟩
  · simp [Value.cells] at hcs
    obtain ⟨rfl, rfl, rfl⟩ := hcs
    exact ⟨none, 0, [], rfl, by decide, fun h => by simp at h⟩
  · simp [Value.cells] at hcs
    obtain ⟨rfl, rfl, rfl⟩ := hcs
    have hmc : m = cap1 := by simpa using hmm
    subst hmc
    rw [cellsStep] at hi
    have key : ∀ i, i < len1 → ∃ s : St, s.Ok ∧ ∀ j u, s.cells[j]? = some u → W.cell? (x.add (i * 7 + j)) = some u := by
      intro i hil
      obtain ⟨cs', hc, ht⟩ := hi i (by omega)
      obtain ⟨_, hcl, hat⟩ := World.cells?_some hc
      obtain ⟨c0, c1, c2, c3, c4, c5, c6, rfl⟩ := seven_list cs' hcl
      obtain ⟨s, hok, hs⟩ := open_step ht
      refine ⟨s, hok, fun j u hu => ?_⟩
      have hj : j < 7 := (Array.getElem?_eq_some_iff.1 hu).1
      have h1 := hat j (by simpa using hj)
      rw [add_add] at h1
      rw [h1]
      have e : s.cells[j]? = s.cells.toList[j]? := by simp
      rw [e, ← hs] at hu
      exact hu
    obtain ⟨ps, hpl, hps⟩ := list_of _ len1 key
    refine ⟨some x, m, ps, by rw [hpl], by rw [hpl]; unfold maxLen at hm; omega, fun h0 => ?_⟩
    have hp0 : ps[0]? = some (ps[0]'h0) := List.getElem?_eq_getElem h0
    have hc0 := (hps 0 _ hp0).2 0 _ rfl
    obtain ⟨b, off, spot⟩ := x
    have hspot : spot = none := by simpa [Addr.add] using World.cell?_spot hc0
    subst hspot
    refine ⟨b, off, rfl, ?_, fun q s hq => ?_⟩
    · rw [eadd] at hc0
      exact block_lt_of_cell hc0
    · obtain ⟨hok, hh⟩ := hps q s hq
      refine ⟨hok, fun i u hu => ?_⟩
      have := hh i u hu
      rw [eadd] at this
      rw [Nat.add_assoc]
      exact this

theorem tells_knob : ownKnob Try.prog.godebug = none := by kernel_rfl
theorem tells_laid : laidOutB Try.prog = true := by kernel_rfl

set_option maxRecDepth 100000 in
theorem tells_lifted (os : Os) (started : os.Started) (H : Type) (enc : TypeId × Value → H) :
    ReturnsInHanded {} Try.checked os 3 .any (Rows.handleTellsSpec.pre6 enc Try.prog Try.f3 Rows.handleTellsRow.domain false) (Rows.handleTellsSpec.post enc Try.prog Try.f3 false true false false) := by
  refine returnsInHanded_of_change_sized (C := Try.checked) tells_knob started (by kernel_rfl) Try.func3
    (ChangeSpec.witness6 (enc := enc) (C := Try.checked) false ⟨#[], #[.slice none 0 0], []⟩ 8 (by kernel_rfl) (by kernel_rfl) (by kernel_rfl) (by kernel_rfl)) ?_
  intro W base args ds gs before hval0 hW hcnd hsz0 _
  have hval : ∀ (j : Nat) t v, Try.f3.params[j]? = some t → args[j]? = some v → Value.okWide Try.prog W .any base t v := hval0
  have hW' := hW
  obtain ⟨p, q, hA0, hV, rfl, hfz, hnd⟩ := hW
  have hA : DataW.TrodAll enc Try.prog W 0 (fun _ => true) true Try.f3.params.toList args.toList ds p := hA0
  rw [Try.params3] at hA hval
  obtain ⟨v0, vs0, d0, ds0, p0, q0, hargs, rfl, rfl, h0, r0⟩ := trodAll_cons hA
  obtain ⟨rfl, rfl, rfl⟩ := trodAll_nil r0
  obtain rfl : args = #[v0] := by cases args; simp_all
  obtain ⟨rfl, rfl⟩ := trodVars_none hV
  have k0 := h0
  have lt0 : ∀ x ∈ p0, x.block < W.heap.size := by obtain ⟨m, hm⟩ := k0; exact DataW.trod_lt m _ _ _ hm
  obtain ⟨aa, cap, ls, rfl, hl, hat⟩ := open_steps (hval 0 22 v0 rfl rfl) h0
  clear hA0 hval0
  refine (tells_any aa cap ls W hl hat).mono fun e W' ⟨he, bel⟩ => ?_
  subst he
  exact ⟨_, rfl, _, _, _, [], _, [], hW', trodAll_mk1 (shut_bool Try.underlying4 _),
    (trodAll_cons_mk (Below.trod tells_laid (by kernel_rfl) (of_decide_eq_true (by kernel_rfl)) k0 bel lt0) trodAll_mk0), rfl, bel.frame _, fun h => by cases h⟩

theorem tells_proved : Rows.HandleTellsSaid :=
  OpenClaim.holds_of_wide 3 Try.f3 rfl rfl rfl rfl rfl rfl rfl ⟨rfl, rfl, rfl, rfl, rfl⟩ rfl rfl rfl rfl rfl (by kernel_rfl) Try.func3 (by kernel_rfl)
    (of_decide_eq_true (by kernel_rfl)) (by unfold Func.isWrapper; first | (rw [if_pos (by decide +kernel)]; kernel_rfl) | (rw [if_neg (by decide +kernel)]; exact ⟨rfl, rfl⟩))
    (fun os started H enc _ => tells_lifted os started H enc)
#print axioms tells_proved
end Go.Proofs.Ytaocdknpalohbaa
