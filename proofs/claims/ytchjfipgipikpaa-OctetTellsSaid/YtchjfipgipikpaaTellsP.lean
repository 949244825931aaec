/- Layer 16, OctetTells: what is put, what lies somewhere, and a text that is laid, or why not, is as the document says: for every input the law returns true, and the input reads as it did. No condition. -/
import Derived.Test.YtchjfipgipikpaaRows
import Derived.Test.YtchjfipgipikpaaTells
import Derived.ProofKit
import Derived.SizedLaws
import Derived.OpenShut
namespace Go.Proofs.Ytchjfipgipikpaa
open Go.ChangeShapes Go.WideShapes Go.ChangeAt Go.RowKit

theorem tells_knob : ownKnob Try.prog.godebug = none := by kernel_rfl
theorem tells_laid : laidOutB Try.prog = true := by kernel_rfl
theorem tells_cells1 : Try.prog.cellsOf 9 = 1 := by kernel_rfl
theorem tells_cells2 : Try.prog.cellsOf 22 = 2 := by kernel_rfl
theorem tells_cells3 : Try.prog.cellsOf 3 = 1 := by kernel_rfl
theorem tells_cells4 : Try.prog.cellsOf 24 = 2 := by kernel_rfl
theorem tells_list2 {α : Type} (l : List α) (h : (⟨l⟩ : Array α).size = 2) : ∃ a b, l = [a, b] := by
  match l, h with
  | [a, b], _ => exact ⟨a, b, rfl⟩

section
variable {H : Type} {enc : TypeId × Value → H} {W : World} {base : Nat} {sp : Nat → Bool} {held : Bool} {r : Reach} {b0 : Nat} {v : Value} {d : DataW H} {ps : List MemPlace}

set_option maxRecDepth 100000 in
theorem open_texts (hval : Value.okWide Try.prog W r b0 22 v) (hd : DataW.Trod enc Try.prog W base sp held 22 v d ps) :
    ∃ s t : ByteArray, v = .agg #[.string s, .string t] ∧ d = .agg [.lit (.string s.data.toList), .lit (.string t.data.toList)] := by
  obtain ⟨cs, rfl, hsz, _⟩ : ∃ cs, v = .agg cs ∧ cs.size = Try.prog.cellsOf 22 ∧ Row.okWide Try.prog W r b0 22 cs := by
    simpa [Value.okWide, Try.underlying22] using hval
  rw [tells_cells2] at hsz
  obtain ⟨l⟩ := cs
  obtain ⟨c0, c1, rfl⟩ := tells_list2 l hsz
  obtain ⟨fuel, hf⟩ := hd
  obtain ⟨xs, m, _, hx, _, hlen, hget⟩ := DataW.trod_array Try.underlying22 hf
  have h0 := hget 0 (by decide)
  have h1 := hget 1 (by decide)
  rw [tells_cells1] at h0 h1
  obtain ⟨x0, x1, rfl⟩ : ∃ x0 x1, xs = [x0, x1] := tells_list2 xs (by simpa using hlen)
  obtain ⟨s, f0, g0, _⟩ := DataW.trod_string Try.underlying9 h0
  obtain ⟨t, f1, g1, _⟩ := DataW.trod_string Try.underlying9 h1
  simp [Value.cells] at f0 f1
  subst f0 f1 g0 g1
  simp only [Prod.mk.injEq] at hx
  exact ⟨s, t, rfl, hx.1⟩

set_option maxRecDepth 100000 in
theorem open_ints2 (hval : Value.okWide Try.prog W r b0 24 v) (hd : DataW.Trod enc Try.prog W base sp held 24 v d ps) :
    ∃ a b : Int, v = .agg #[.int .i64 a, .int .i64 b] := by
  obtain ⟨cs, rfl, hsz, _⟩ : ∃ cs, v = .agg cs ∧ cs.size = Try.prog.cellsOf 24 ∧ Row.okWide Try.prog W r b0 24 cs := by
    simpa [Value.okWide, Try.underlying24] using hval
  rw [tells_cells4] at hsz
  obtain ⟨l⟩ := cs
  obtain ⟨c0, c1, rfl⟩ := tells_list2 l hsz
  obtain ⟨fuel, hf⟩ := hd
  obtain ⟨xs, m, _, _, _, hlen, hget⟩ := DataW.trod_array Try.underlying24 hf
  have h0 := hget 0 (by decide)
  have h1 := hget 1 (by decide)
  rw [tells_cells3] at h0 h1
  obtain ⟨x0, x1, rfl⟩ : ∃ x0 x1, xs = [x0, x1] := tells_list2 xs (by simpa using hlen)
  obtain ⟨a, f0, _, _⟩ := DataW.trod_int Try.underlying3 h0
  obtain ⟨b, f1, _, _⟩ := DataW.trod_int Try.underlying3 h1
  simp [Value.cells] at f0 f1
  subst f0 f1
  exact ⟨a, b, rfl⟩
end

set_option maxRecDepth 100000 in
theorem tells_lifted (os : Os) (started : os.Started) (H : Type) (enc : TypeId × Value → H) :
    ReturnsInHanded {} Try.checked os 3 .any (Rows.octetTellsSpec.pre6 enc Try.prog Try.f3 Rows.octetTellsRow.domain false) (Rows.octetTellsSpec.post enc Try.prog Try.f3 false true false false) := by
  refine returnsInHanded_of_change_sized (C := Try.checked) tells_knob started (by kernel_rfl) Try.func3
    (ChangeSpec.witness6 (enc := enc) (C := Try.checked) false ⟨#[], #[.agg #[.string ⟨#[]⟩, .string ⟨#[]⟩], .int .u64 0, .agg #[.int .i64 0, .int .i64 0]], []⟩ 8 (by kernel_rfl) (by kernel_rfl) (by kernel_rfl) (by kernel_rfl)) ?_
  intro W base args ds gs before hval0 hW hcnd hsz0 _
  have hval : ∀ (j : Nat) t v, Try.f3.params[j]? = some t → args[j]? = some v → Value.okWide Try.prog W .any base t v := hval0
  have hsz : (DataW.weightsEach Try.prog (Try.f3.params.toList ++ Rows.octetTellsSpec.plain.varTypes Try.prog) (ds ++ gs)).all (· ≤ reachBytes) = true := hsz0
  have hW' := hW
  obtain ⟨p, q, hA0, hV, rfl, hfz, hnd⟩ := hW
  have hA : DataW.TrodAll enc Try.prog W 0 (fun _ => true) true Try.f3.params.toList args.toList ds p := hA0
  rw [Try.params3] at hA hval hsz
  obtain ⟨v0, vs0, d0, ds0, p0, q0, hargs, rfl, rfl, h0, r0⟩ := trodAll_cons hA
  obtain ⟨v1, vs1, d1, ds1, p1, q1, rfl, rfl, rfl, h1, r1⟩ := trodAll_cons r0
  obtain ⟨v2, vs2, d2, ds2, p2, q2, rfl, rfl, rfl, h2, r2⟩ := trodAll_cons r1
  obtain ⟨rfl, rfl, rfl⟩ := trodAll_nil r2
  obtain rfl : args = #[v0, v1, v2] := by cases args; simp_all
  obtain ⟨rfl, rfl⟩ := trodVars_none hV
  have k0 := h0
  have k1 := h1
  have k2 := h2
  have lt0 : ∀ x ∈ p0, x.block < W.heap.size := by obtain ⟨m, hm⟩ := k0; exact DataW.trod_lt m _ _ _ hm
  have lt1 : ∀ x ∈ p1, x.block < W.heap.size := by obtain ⟨m, hm⟩ := k1; exact DataW.trod_lt m _ _ _ hm
  have lt2 : ∀ x ∈ p2, x.block < W.heap.size := by obtain ⟨m, hm⟩ := k2; exact DataW.trod_lt m _ _ _ hm
  obtain ⟨s, t, rfl, rfl⟩ := open_texts (hval 0 22 v0 rfl rfl) h0
  obtain ⟨c, rfl, rfl, rfl, wc⟩ := open_int Try.underlying23 (hval 1 23 v1 rfl rfl) h1
  obtain ⟨a, b, rfl⟩ := open_ints2 (hval 2 24 v2 rfl rfl) h2
  have r1' := List.all_eq_true.1 hsz _ (DataW.weights_mem_each (j := 0) (t := 22) rfl rfl s.data.toList.length (by simp [DataW.weights, DataW.weightsAll, Try.underlying22]))
  have r2' := List.all_eq_true.1 hsz _ (DataW.weights_mem_each (j := 0) (t := 22) rfl rfl t.data.toList.length (by simp [DataW.weights, DataW.weightsAll, Try.underlying22]))
  have hs' : s.size ≤ 140737488351232 := by
    have e : s.data.toList.length = s.size := by rw [Array.length_toList]; rfl
    rw [e] at r1'
    have h := of_decide_eq_true r1'
    simpa [reachBytes] using h
  have ht' : t.size ≤ 140737488351232 := by
    have e : t.data.toList.length = t.size := by rw [Array.length_toList]; rfl
    rw [e] at r2'
    have h := of_decide_eq_true r2'
    simpa [reachBytes] using h
  have bc := bounds_u64 wc
  obtain ⟨n, rfl⟩ := Int.eq_ofNat_of_zero_le bc.1
  clear hA0 hval0
  refine (tells_any s t n a b W hs' ht' (by omega)).mono fun e W' ⟨he, bel⟩ => ?_
  subst he
  exact ⟨_, rfl, _, _, _, [], _, [], hW', trodAll_mk1 (shut_bool Try.underlying4 _),
    (trodAll_cons_mk (Below.trod tells_laid (by kernel_rfl) (of_decide_eq_true (by kernel_rfl)) k0 bel lt0) (trodAll_cons_mk (Below.trod tells_laid (by kernel_rfl) (of_decide_eq_true (by kernel_rfl)) k1 bel lt1) (trodAll_cons_mk (Below.trod tells_laid (by kernel_rfl) (of_decide_eq_true (by kernel_rfl)) k2 bel lt2) trodAll_mk0))), rfl, bel.frame _, fun h => by cases h⟩

theorem tells_proved : Rows.OctetTellsSaid :=
  OpenClaim.holds_of_wide 3 Try.f3 rfl rfl rfl rfl rfl rfl rfl ⟨rfl, rfl, rfl, rfl, rfl⟩ rfl rfl rfl rfl rfl (by kernel_rfl) Try.func3 (by kernel_rfl)
    (of_decide_eq_true (by kernel_rfl)) (by unfold Func.isWrapper; first | (rw [if_pos (by decide +kernel)]; kernel_rfl) | (rw [if_neg (by decide +kernel)]; exact ⟨rfl, rfl⟩))
    (fun os started H enc _ => tells_lifted os started H enc)
#print axioms tells_proved
end Go.Proofs.Ytchjfipgipikpaa
