/- Layer 20: rows of commitments, and commitments by value, that came in. No condition. -/
import Derived.Test.YtaocdknpalohbaaHBinds
import Derived.Test.YtaocdknpalohbaaHPair
namespace Go.Proofs.Ytaocdknpalohbaa
open Go.ChangeShapes Go.WideShapes Go.ChangeAt Go.RowKit Go.Deep

set_option maxRecDepth 100000 in
/-- A row of commitments that came in. -/
theorem open_seals {H : Type} {enc : TypeId × Value → H} {W : World} {base : Nat} {held : Bool} {r : Reach} {b0 : Nat} {v : Value} {d : DataW H} {pl : List MemPlace}
    (hval : Value.okWide Try.prog W r b0 26 v) (hd : DataW.Trod enc Try.prog W base (fun _ => true) held 26 v d pl) :
    ∃ (aa : Option Addr) (cap : Nat) (ls : List Sl), v = .slice aa ls.length cap ∧ ls.length ≤ 9223372036854775807 ∧ ls.length ≤ cap ∧ (0 < ls.length → ∃ b off, aa = some ⟨b, off, none⟩ ∧ b < W.heap.size ∧ SealsAt W b off ls) := by
  obtain ⟨a1, len1, cap1, rfl⟩ := okWide_slice Try.underlying26 hval
  obtain ⟨fuel, hf⟩ := hd
  rcases open_slice Try.underlying26 hf with ⟨hcs, _⟩ | ⟨x, l, c, m, n, D, Pl, hcs, _, hl, hm, hmm, _, hi⟩
  · simp [Value.cells] at hcs
    obtain ⟨rfl, rfl, rfl⟩ := hcs
    exact ⟨none, 0, [], rfl, by decide, Nat.le_refl _, fun h => by simp at h⟩
  · simp [Value.cells] at hcs
    obtain ⟨rfl, rfl, rfl⟩ := hcs
    have hmc : m = cap1 := by simpa using hmm
    subst hmc
    rw [cellsSealed] at hi
    have key : ∀ i, i < len1 → ∃ p : Sl, W.cell? (x.add (i * 4)) = some (.int .i64 p.r) ∧ W.cell? (x.add (i * 4 + 1)) = some (.int .i64 p.c) ∧ W.cell? (x.add (i * 4 + 2)) = some (.int .u64 p.b) ∧ W.cell? (x.add (i * 4 + 3)) = some (.int .u64 p.n) := by
      intro i hil
      obtain ⟨cs', hc, ht⟩ := hi i (by omega)
      obtain ⟨_, hcl, hat⟩ := World.cells?_some hc
      obtain ⟨c0, c1, c2, c3, rfl⟩ := four_list cs' hcl
      obtain ⟨xa, rfl, rfl, rfl, rfl⟩ := open_sealed ht
      exact ⟨xa, (add_add x (i * 4) 0) ▸ hat 0 (by decide), (add_add x (i * 4) 1) ▸ hat 1 (by decide), (add_add x (i * 4) 2) ▸ hat 2 (by decide), (add_add x (i * 4) 3) ▸ hat 3 (by decide)⟩
    obtain ⟨ps, hpl, hps⟩ := list_of _ len1 key
    refine ⟨some x, m, ps, by rw [hpl], by rw [hpl]; unfold maxLen at hm; omega, by rw [hpl]; exact hl, fun h0 => ?_⟩
    have hp0 : ps[0]? = some (ps[0]'h0) := List.getElem?_eq_getElem h0
    have hc0 := (hps 0 _ hp0).1
    obtain ⟨b, off, spot⟩ := x
    have hspot : spot = none := by simpa [Addr.add] using World.cell?_spot hc0
    subst hspot
    refine ⟨b, off, rfl, ?_, fun q xa hq => ?_⟩
    · rw [eadd] at hc0
      exact block_lt_of_cell hc0
    · have hh := hps q xa hq
      simp only [eadd] at hh
      exact hh

set_option maxRecDepth 100000 in
/-- A commitment that came in by value. -/
theorem open_sealedv {H : Type} {enc : TypeId × Value → H} {W : World} {base : Nat} {held : Bool} {r : Reach} {b0 : Nat} {v : Value} {d : DataW H} {ps : List MemPlace}
    (hval : Value.okWide Try.prog W r b0 31 v) (hd : DataW.Trod enc Try.prog W base (fun _ => true) held 31 v d ps) : ∃ x : Sl, v = .agg x.cells := by
  obtain ⟨cs, rfl, hsz, _⟩ : ∃ cs, v = .agg cs ∧ cs.size = Try.prog.cellsOf 31 ∧ Row.okWide Try.prog W r b0 31 cs := by
    simpa [Value.okWide, Try.underlying31] using hval
  rw [cellsSealed] at hsz
  obtain ⟨l⟩ := cs
  obtain ⟨c0, c1, c2, c3, rfl⟩ := four_list l hsz
  obtain ⟨fuel, hf⟩ := hd
  obtain ⟨x, rfl, rfl, rfl, rfl⟩ := open_sealed hf
  exact ⟨x, rfl⟩
end Go.Proofs.Ytaocdknpalohbaa
