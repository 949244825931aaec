/- A digest that came in: it is thirty-two bytes. No condition. -/
import Derived.Test.YtaocdknpalohbaaHandB
import Derived.ProofKit
import Derived.OpenShut
namespace Go.Proofs.Ytaocdknpalohbaa
open Go.ChangeShapes Go.WideShapes Go.ChangeAt Go.RowKit

theorem digCells : Try.prog.cellsOf 35 = 32 := by kernel_rfl
theorem byteCellsOf : Try.prog.cellsOf 5 = 1 := by kernel_rfl
theorem list_dig (cs : List Value) (h : ∀ i, i < cs.length → ∃ n : Int, cs[i]? = some (.int .u8 n) ∧ 0 ≤ n ∧ n ≤ 255) : ∃ l : List UInt8, l.length = cs.length ∧ cs = Lib.byteCells l := by
  induction cs with
  | nil => exact ⟨[], rfl, rfl⟩
  | cons v cs ih =>
    obtain ⟨l, hl, e⟩ := ih (fun i hi => by have := h (i + 1) (by simp; omega); simpa using this)
    obtain ⟨n, hn, h0, h1⟩ := h 0 (by simp)
    simp only [List.getElem?_cons_zero, Option.some.injEq] at hn
    refine ⟨UInt8.ofNat n.toNat :: l, by simp [hl], ?_⟩
    have e2 : n = (((UInt8.ofNat n.toNat).toNat : Nat) : Int) := by rw [UInt8.toNat_ofNat']; omega
    simp only [Lib.byteCells, List.map_cons]
    rw [hn, ← e2]
    congr 1
theorem open_dig {H : Type} {enc : TypeId × Value → H} {W : World} {base : Nat} {sp : Nat → Bool} {held : Bool} {r : Reach} {b0 : Nat} {v : Value} {d : DataW H} {ps : List MemPlace}
    (hval : Value.okWide Try.prog W r b0 35 v) (hd : DataW.Trod enc Try.prog W base sp held 35 v d ps) : ∃ l : List UInt8, l.length = 32 ∧ v = .agg (dg l) := by
  obtain ⟨cs, rfl, hsz, _⟩ : ∃ cs, v = .agg cs ∧ cs.size = Try.prog.cellsOf 35 ∧ Row.okWide Try.prog W r b0 35 cs := by
    simpa [Value.okWide, Try.underlying35] using hval
  rw [digCells] at hsz
  obtain ⟨fuel, hf⟩ := hd
  obtain ⟨xs, m, _, _, _, hlen, hget⟩ := DataW.trod_array Try.underlying35 hf
  obtain ⟨l, hl, e⟩ := list_dig cs.toList (fun i hi => by
    have hi32 : i < 32 := by rw [Array.length_toList, hsz] at hi; exact hi
    have hg := hget i hi32
    rw [byteCellsOf] at hg
    have ex : xs[i]? = some xs[i] := List.getElem?_eq_getElem (by omega)
    rw [ex] at hg
    obtain ⟨n, f, _, wf⟩ := DataW.trod_int Try.underlying5 hg
    refine ⟨n, ?_, (bounds_u8 wf).1, (bounds_u8 wf).2⟩
    have hc : (cs.toList.drop (i * 1)).take 1 = [Value.int .u8 n] := by simpa [Value.cells] using f
    have h0 : ((cs.toList.drop (i * 1)).take 1)[0]? = some (Value.int .u8 n) := by rw [hc]; rfl
    rw [List.getElem?_take_of_lt (by decide), List.getElem?_drop] at h0
    simpa using h0)
  refine ⟨l, by rw [hl, Array.length_toList, hsz], ?_⟩
  rw [dg, ← e]
end Go.Proofs.Ytaocdknpalohbaa
