/- What the listed variables give the walks. No condition. -/
import Derived.Test.YtpkgmoiffegbfaaDoorRows
import Derived.Test.YtpkgmoiffegbfaaDoorTie
import Derived.Test.YtpkgmoiffegbfaaDoorCards
import Derived.Test.YtpkgmoiffegbfaaDoorZCmp
import Derived.ProofKit
import Derived.LaidMore
import Derived.OpenShut
import Derived.Stop.Joined
import Derived.SizedLaws
import Derived.SevenTiedAt
namespace Go.Proofs.YtpkgmoiffegbfaaDoor
open Go.ChangeShapes Go.WideShapes Go.ChangeAt Go.WideMaps Go.WideElems Go.RowKit

def laid2 : List (String × DataW Unit) := [("consign/sha.first", Rows.laid_consign_sha_first), ("consign/sha.rounds", Rows.laid_consign_sha_rounds)]
theorem gFirst : Tryd.prog.globalNamed "consign/sha.first" = some 0 := by kernel_rfl
theorem gRounds : Tryd.prog.globalNamed "consign/sha.rounds" = some 1 := by kernel_rfl
theorem tFirst : (Tryd.prog.globals[0]?).map (·.type) = some 60 := by kernel_rfl
theorem tRounds : (Tryd.prog.globals[1]?).map (·.type) = some 80 := by kernel_rfl
theorem door_met (os : Os) (args : Array Value) : laidMetH Tryd.prog laid2 ((World.doorLaid Tryd.prog 19 os).forCall (fun _ _ => 0) ⟨#[], args, []⟩).memory :=
  laidMetH_of_parts3 (fuel := 8) (laidMet_of_run' 8 (by kernel_rfl) (by kernel_rfl)) (by kernel_rfl) (by kernel_rfl)

theorem cellsU32 : Tryd.prog.cellsOf 58 = 1 := by kernel_rfl
/-- An array of words that reads as these. -/
theorem words_of {H : Type} {enc : TypeId × Value → H} {V : World} {base : Nat} {held : Bool} {T : TypeId} {n m : Nat} (hT : Tryd.prog.underlying T = some (.array n 58)) (hTc : Tryd.prog.cellsOf T = n) {cs : List Value} {pl : List MemPlace} (l : List W)
    (h : DataW.trod enc Tryd.prog V base (fun _ => true) held m T cs = some (.agg (l.map fun x => .lit (.int .u32 (wI x))), pl)) : cs = l.map wv := by
  obtain ⟨xs, m1, _, hx1, hlen, hxn, hel⟩ := DataW.trod_array hT h
  simp only [Prod.mk.injEq, DataW.agg.injEq] at hx1
  have hll : l.length = n := by
    have := congrArg List.length hx1.1
    simp only [List.length_map] at this
    omega
  have hcl : cs.length = n := by omega
  refine List.ext_getElem (by rw [List.length_map]; omega) fun i h1 h2 => ?_
  have hi : i < n := by omega
  have he := hel i hi
  rw [cellsU32, Nat.mul_one, List.getElem?_eq_getElem (by omega)] at he
  obtain ⟨k, e1, e2, _⟩ := DataW.trod_int Tryd.underlying58 he
  have h3 : (xs[i]'(by omega)).1 = .lit (.int .u32 (wI (l[i]'(by omega)))) := by
    have h4 : (xs.map fun x => x.fst)[i]? = (l.map fun x => (DataW.lit (.int .u32 (wI x)) : DataW H))[i]? := by rw [← hx1.1]
    rw [List.getElem?_map, List.getElem?_map, List.getElem?_eq_getElem (by omega), List.getElem?_eq_getElem (by omega)] at h4
    simpa using h4
  rw [e2] at h3
  have hk : k = wI (l[i]'(by omega)) := by simpa using h3
  rw [List.drop_eq_getElem_cons h1] at e1
  simp only [List.take_succ_cons, List.take_zero, List.cons.injEq, and_true] at e1
  rw [e1, hk, List.getElem_map]
  rfl
theorem first_lit {H : Type} : (Rows.laid_consign_sha_first : DataW H) = .agg (F0.list.map fun x => .lit (.int .u32 (wI x))) := rfl
theorem rounds_lit {H : Type} : (Rows.laid_consign_sha_rounds : DataW H) = .agg (K64.map fun x => .lit (.int .u32 (wI x))) := rfl
theorem of_laid {V : World} (h : laidMetH Tryd.prog laid2 V) : Glob F0 K64 V := by
  rw [MakeChecks.laidMetH_plain _ _ _ (by kernel_rfl)] at h
  obtain ⟨ps, ⟨g0, t0, cs0, f0, p0, q0, hg0, ht0, hv0, hd0, ⟨g1, t1, cs1, f1, p1, q1, hg1, ht1, hv1, hd1, _, _⟩, _⟩, _, _⟩ := h
  obtain rfl := Option.some.inj (gFirst.symm.trans hg0)
  obtain rfl := Option.some.inj (gRounds.symm.trans hg1)
  obtain rfl := Option.some.inj (tFirst.symm.trans ht0)
  obtain rfl := Option.some.inj (tRounds.symm.trans ht1)
  rw [first_lit] at hd0
  rw [rounds_lit] at hd1
  have e0 := words_of Tryd.underlying60 (by kernel_rfl) F0.list hd0
  have e1 := words_of Tryd.underlying80 (by kernel_rfl) K64 hd1
  have r0 : V.rangeAt 0 0 (F0.list.map wv) := fun j v hv => by
    have := World.var?_cell hg0 hv0 j
    rw [Nat.zero_add]
    rw [← e0] at hv
    rw [this]
    simpa using hv
  have r1 : V.rangeAt 1 0 (K64.map wv) := fun j v hv => by
    have := World.var?_cell hg1 hv1 j
    rw [Nat.zero_add]
    rw [← e1] at hv
    rw [this]
    simpa using hv
  exact ⟨r0, r1, rfl, block_lt_of_cell (r1 0 _ rfl)⟩
end Go.Proofs.YtpkgmoiffegbfaaDoor
