/- The law HandleScheme, lifted: what the two variables of sha hold does not matter, so long as it is of their types. No condition. -/
import Derived.Test.YtpkgmoiffegbfaaRows
import Derived.Test.YtpkgmoiffegbfaaQScheme
import Derived.ProofKit
import Derived.SizedLaws
import Derived.OpenShut
namespace Go.Proofs.Ytpkgmoiffegbfaa
open Go.ChangeShapes Go.WideShapes Go.ChangeAt Go.RowKit
open Go.ChangeMaps (open_string shut_string)
set_option maxRecDepth 100000

section
variable {H : Type} {enc : TypeId × Value → H}
theorem change_shaped {a : Assume} {C : Checked} {os : Os} {f : FuncId} {fn : Func} {s : ChangeSpec} {conds : List PathCond} {apart fresh handsOn again : Bool}
    (own : ownKnob C.prog.godebug = none) (started : os.Started) (noInit : C.prog.inits.idxOf? f = none) (hfn : C.prog.funcs[f]? = some fn)
    (witness : ∃ (w : World) (tape : Tape) (i : Input), w.os = os ∧ (w.forCall tape i).Shaped C.prog ∧ i.vars = [] ∧ Input.okWide C.prog (w.forCall tape i) .any w.heap.size f i ∧
      s.pre6 enc C.prog fn conds apart (w.forCall tape i).memory i.args ∧ a.holds C.prog (lone (Frame.enter C.prog f i.args .normal) [] (w.forCall tape i)))
    (contract : ∀ (V : World) (base : Nat) (args : Array Value) (ds gs : List (DataW H)) (before : List MemPlace), V.ShapedOpen C.prog →
      (∀ (j : Nat) t v, fn.params[j]? = some t → args[j]? = some v → Value.okWide C.prog V .any base t v) →
      DataW.Whole enc C.prog fn.params.toList s.vars apart V args.toList ds gs before →
      Calls C.prog f args V fun e V' => ∃ v, e = .returned v ∧ s.post enc C.prog fn apart fresh handsOn again V args v V') :
    ReturnsInHanded a C os f .any (s.pre6 enc C.prog fn conds apart) (s.post enc C.prog fn apart fresh handsOn again) := by
  refine returnsInHanded_of_calls own started noInit witness ?_
  intro w tape i _ hsh _ hok hpre _
  obtain ⟨_, _, _, fn', hfn', _, _, _, _, hval⟩ := hok
  have e : fn' = fn := Option.some.inj (hfn'.symm.trans hfn)
  subst e
  obtain ⟨⟨ds, gs, before, hw, _⟩, _⟩ := hpre
  have hw' := DataW.Whole.of_heap (w' := w.forCall tape i) (by rfl) hw
  refine (contract (w.forCall tape i) w.heap.size i.args ds gs before hsh hval hw').mono fun e V' ⟨v, he, hp⟩ => ?_
  subst he
  exact ChangeSpec.post_blind hp
end
theorem word_of {z : Int} (h0 : 0 ≤ z) (h1 : z ≤ 4294967295) : ∃ x : W, Value.int .u32 z = wv x := by
  refine ⟨BitVec.ofNat 32 z.toNat, ?_⟩
  rw [wv, wI_nat]
  congr 1
  omega
theorem glob_words {V : World} (hsh : V.ShapedOpen Try.prog) (g n : Nat) (t : TypeId) (hn : 0 < n) (hg : g < Try.prog.globals.size)
    (hr : (((begin Try.prog (fun _ _ => 0) default).world.heap[g]?).bind Obj.row?).map (fun r => (r.1.size, r.2)) = some (n, t)) (hb : Try.prog.buildable t = true)
    (hct : Try.prog.cellTypes Try.prog.depth t = some (List.replicate n 94)) : ∃ l : List W, l.length = n ∧ V.heap[g]? = some (.cells (ww l) t (0, 0)) := by
  cases hrow : ((begin Try.prog (fun _ _ => 0) default).world.heap[g]?).bind Obj.row? with
  | none => rw [hrow] at hr; cases hr
  | some r =>
    obtain ⟨zero, t'⟩ := r
    rw [hrow] at hr
    simp only [Option.map_some, Option.some.injEq, Prod.mk.injEq] at hr
    obtain ⟨hz, rfl⟩ := hr
    obtain ⟨cs, hcs, hsz, hok⟩ := hsh.1 g zero t' hg hrow
    obtain ⟨ts, hts, _, hcell⟩ := hok hb
    rw [hct] at hts
    obtain rfl := Option.some.inj hts
    have key : ∀ i, i < n → ∃ x : W, cs[i]? = some (wv x) := by
      intro i hi
      have hiv : cs[i]? = some (cs[i]'(by omega)) := Array.getElem?_eq_getElem (by omega)
      obtain ⟨u, hu, hk⟩ := hcell i _ hiv
      rw [List.length_replicate, Nat.mod_eq_of_lt hi, List.getElem?_replicate, if_pos hi] at hu
      obtain rfl := Option.some.inj hu
      rw [hiv]
      unfold Cell.ok at hk
      rw [Try.underlying94] at hk
      generalize cs[i]'(by omega) = v at hk ⊢
      cases v <;> simp only at hk
      obtain ⟨rfl, h0, h1⟩ := hk
      obtain ⟨x, hx⟩ := word_of (by simpa [IntKind.min, IntKind.signed] using h0) (by simpa [IntKind.max, IntKind.signed, IntKind.bits] using h1)
      exact ⟨x, by rw [hx]⟩
    obtain ⟨l, hl, hx⟩ := zlist_of _ n key
    refine ⟨l, hl, ?_⟩
    rw [hcs]
    have : cs = ww l := by
      apply Array.ext
      · rw [ww_size, hl]; omega
      · intro i h1 h2
        rw [ww_size] at h2
        have h3 := hx i _ (List.getElem?_eq_getElem h2)
        rw [Array.getElem?_eq_getElem h1] at h3
        rw [Option.some.inj h3]
        simp [ww]
    rw [this]
theorem glob_any {V : World} (hsh : V.ShapedOpen Try.prog) : ∃ (F : S8) (K : List W), Glob F K V := by
  obtain ⟨l, hl, h0⟩ := glob_words hsh 0 8 112 (by decide) (of_decide_eq_true (by kernel_rfl)) (by kernel_rfl) (by kernel_rfl) (by kernel_rfl)
  obtain ⟨K, hK, h1⟩ := glob_words hsh 1 64 120 (by decide) (of_decide_eq_true (by kernel_rfl)) (by kernel_rfl) (by kernel_rfl) (by kernel_rfl)
  match l, hl with
  | [a, b, c, d, e, f, g, h], _ =>
    refine ⟨⟨a, b, c, d, e, f, g, h⟩, K, fun j v hv => ?_, fun j v hv => ?_, hK, zlt h1⟩
    · rw [Nat.zero_add]; exact zcell h0 (by rw [ww, List.getElem?_toArray]; exact hv)
    · rw [Nat.zero_add]; exact zcell h1 (by rw [ww, List.getElem?_toArray]; exact hv)
theorem scheme_knob : ownKnob Try.prog.godebug = none := by kernel_rfl
theorem scheme_laid : laidOutB Try.prog = true := by kernel_rfl

theorem scheme_lifted (os : Os) (started : os.Started) (H : Type) (enc : TypeId × Value → H) :
    ReturnsInHanded {} Try.checked os 9 .any (Rows.handleSchemeSpec.pre6 enc Try.prog Try.f9 Rows.handleSchemeRow.domain false) (Rows.handleSchemeSpec.post enc Try.prog Try.f9 false true false false) := by
  refine change_shaped (C := Try.checked) scheme_knob started (by kernel_rfl) Try.func9
    (ChangeSpec.witness6 (enc := enc) (C := Try.checked) false ⟨#[], #[.slice none 0 0], []⟩ 8 (by kernel_rfl) (by kernel_rfl) (by kernel_rfl) (by kernel_rfl)) ?_
  intro V base args ds gs before hsh hval0 hW
  have hval : ∀ (j : Nat) t v, Try.f9.params[j]? = some t → args[j]? = some v → Value.okWide Try.prog V .any base t v := hval0
  have hW' := hW
  obtain ⟨p, q, hA0, hV, rfl, hfz, hnd⟩ := hW
  have hA : DataW.TrodAll enc Try.prog V 0 (fun _ => true) true Try.f9.params.toList args.toList ds p := hA0
  rw [Try.params9] at hA hval
  obtain ⟨v0, vs0, d0, ds0, p0, q0, hargs, rfl, rfl, h0, r0⟩ := trodAll_cons hA
  obtain ⟨rfl, rfl, rfl⟩ := trodAll_nil r0
  obtain rfl : args = #[v0] := by cases args; simp_all
  obtain ⟨rfl, rfl⟩ := trodVars_none hV
  have k0 := h0
  have lt0 : ∀ x ∈ p0, x.block < V.heap.size := by obtain ⟨m, hm⟩ := k0; exact DataW.trod_lt m _ _ _ hm
  obtain ⟨aa, cap, ls, rfl, hl, hcap, hat⟩ := zopen_seals (hval 0 60 v0 rfl rfl) h0
  clear hA0 hval0
  obtain ⟨F, K, hG⟩ := glob_any hsh
  refine (scheme_any K F aa cap ls V hG hl hcap hat).mono fun e V' ⟨he, bel⟩ => ?_
  subst he
  exact ⟨_, rfl, _, _, _, [], _, [], hW', trodAll_mk1 (shut_bool Try.underlying4 _),
    (trodAll_cons_mk (Below.trod scheme_laid (by kernel_rfl) (of_decide_eq_true (by kernel_rfl)) k0 bel lt0) trodAll_mk0), rfl, bel.frame _, fun h => by cases h⟩

theorem scheme_proved : Rows.HandleSchemeSaid :=
  OpenClaim.holds_of_wide 9 Try.f9 rfl rfl rfl rfl rfl rfl rfl ⟨rfl, rfl, rfl, rfl, rfl⟩ rfl rfl rfl rfl rfl (by kernel_rfl) Try.func9 (by kernel_rfl)
    (of_decide_eq_true (by kernel_rfl)) (by unfold Func.isWrapper; first | (rw [if_pos (by decide +kernel)]; kernel_rfl) | (rw [if_neg (by decide +kernel)]; exact ⟨rfl, rfl⟩))
    (fun os started H enc _ => scheme_lifted os started H enc)
#print axioms scheme_proved
end Go.Proofs.Ytpkgmoiffegbfaa
