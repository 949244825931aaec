/- Offences that came in: a slice of bytes. No condition. -/
import Derived.Test.YtohnagmkbjdlmaaAdded
import Derived.ProofKit
import Derived.OpenShut
namespace Go.Proofs.Ytohnagmkbjdlmaa
open Go.ChangeShapes Go.WideShapes Go.ChangeAt Go.RowKit

theorem open_offs {H : Type} {enc : TypeId × Value → H} {W : World} {base : Nat} {sp : Nat → Bool} {held : Bool} {r : Reach} {b0 : Nat} {v : Value} {d : DataW H} {ps : List MemPlace}
    (hval : Value.okWide Try.prog W r b0 22 v) (hd : DataW.Trod enc Try.prog W base sp held 22 v d ps) : ∃ l : List Nat, OffsAt W v l ∧ l.length ≤ 9223372036854775807 ∧ ∀ x ∈ l, x < 256 := by
  obtain ⟨a1, len1, cap1, rfl⟩ := okWide_slice Try.underlying22 hval
  obtain ⟨fuel, hf⟩ := hd
  rcases open_ints Try.underlying22 Try.underlying5 (by kernel_rfl) hf with ⟨hcs, _⟩ | ⟨x, l, c, zs, hcs, _, hl, hm, hz, _, hcell, hwz⟩
  · simp [Value.cells] at hcs
    obtain ⟨rfl, rfl, rfl⟩ := hcs
    exact ⟨[], .inl ⟨⟨none, 0, rfl⟩, rfl⟩, by decide, by simp⟩
  · simp [Value.cells] at hcs
    obtain ⟨rfl, rfl, rfl⟩ := hcs
    by_cases hl0 : len1 = 0
    · subst hl0
      exact ⟨[], .inl ⟨⟨some x, cap1, rfl⟩, rfl⟩, by decide, by simp⟩
    · have hzl : len1 ≤ zs.length := by rw [hz]; split <;> omega
      obtain ⟨b, off, spot⟩ := x
      have hc0 := hcell 0 (by omega)
      have hspot : spot = none := by simpa [Addr.add] using World.cell?_spot hc0
      subst hspot
      have hbd : ∀ j, (h : j < zs.length) → 0 ≤ zs[j] ∧ zs[j] ≤ 255 := fun j h => bounds_u8 (hwz _ (List.getElem_mem h))
      have hat : ∀ i, (h : i < len1) → W.cell? ⟨b, off + i, none⟩ = some (.int .u8 (zs[i]'(by omega))) := by
        intro i hi
        have hc := hcell i (by omega)
        have e : (⟨b, off, none⟩ : Addr).add i = ⟨b, off + i, none⟩ := by
          unfold Addr.add
          split <;> simp_all
        rw [← e, hc, List.getD, List.getElem?_eq_getElem (by omega), Option.getD_some]
      have hlen : ((zs.take len1).map Int.toNat).length = len1 := by simp; omega
      refine ⟨(zs.take len1).map Int.toNat, .inr ⟨b, off, cap1, by rw [hlen], block_lt_of_cell (hat 0 (by omega)), fun j hj => ?_⟩, by rw [hlen]; unfold maxLen at hm; omega, ?_⟩
      · have hj' : j < len1 := by rw [hlen] at hj; exact hj
        rw [hat j hj']
        have h0 := (hbd j (by omega)).1
        simp only [List.getElem_map, List.getElem_take]
        congr 2
        omega
      · intro y hy
        obtain ⟨z, hz1, rfl⟩ := List.mem_map.1 hy
        have := bounds_u8 (hwz z (List.mem_of_mem_take hz1))
        omega

theorem open_offs2 {H : Type} {enc : TypeId × Value → H} {W : World} {base : Nat} {held : Bool} {r : Reach} {b0 : Nat} {v : Value} {d : DataW H} {ps : List MemPlace}
    (hval : Value.okWide Try.prog W r b0 22 v) (hd : DataW.Trod enc Try.prog W base (fun _ => true) held 22 v d ps) :
    ∃ (a : Option Addr) (len cap : Nat) (l : List Nat), v = .slice a len cap ∧ l.length = len ∧ len ≤ cap ∧ cap ≤ 9223372036854775807 ∧ (∀ x ∈ l, x < 256) ∧
      (cap = 0 ∨ ∃ b off, a = some ⟨b, off, none⟩ ∧ b < W.heap.size ∧ ∀ j, (h : j < l.length) → W.cell? ⟨b, off + j, none⟩ = some (.int .u8 ((l[j] : Nat) : Int))) := by
  obtain ⟨a1, len1, cap1, rfl⟩ := okWide_slice Try.underlying22 hval
  obtain ⟨fuel, hf⟩ := hd
  rcases open_ints Try.underlying22 Try.underlying5 (by kernel_rfl) hf with ⟨hcs, _⟩ | ⟨x, l, c, zs, hcs, _, hl, hm, hz, _, hcell, hwz⟩
  · simp [Value.cells] at hcs
    obtain ⟨rfl, rfl, rfl⟩ := hcs
    exact ⟨none, 0, 0, [], rfl, rfl, Nat.le_refl _, by decide, by simp, .inl rfl⟩
  · simp [Value.cells] at hcs
    obtain ⟨rfl, rfl, rfl⟩ := hcs
    have hzc : zs.length = cap1 := by simpa using hz
    have hlen : ((zs.take len1).map Int.toNat).length = len1 := by simp; omega
    refine ⟨_, len1, cap1, (zs.take len1).map Int.toNat, rfl, hlen, hl, by unfold maxLen at hm; omega, ?_, ?_⟩
    · intro y hy
      obtain ⟨z, hz1, rfl⟩ := List.mem_map.1 hy
      have := bounds_u8 (hwz z (List.mem_of_mem_take hz1))
      omega
    · by_cases hc0 : cap1 = 0
      · exact .inl hc0
      · obtain ⟨b, off, spot⟩ := x
        have hcc := hcell 0 (by omega)
        have hspot : spot = none := by simpa [Addr.add] using World.cell?_spot hcc
        subst hspot
        have hat : ∀ i, (h : i < zs.length) → W.cell? ⟨b, off + i, none⟩ = some (.int .u8 zs[i]) := by
          intro i hi
          have hc := hcell i hi
          have e : (⟨b, off, none⟩ : Addr).add i = ⟨b, off + i, none⟩ := by
            unfold Addr.add
            split <;> simp_all
          rw [← e, hc, List.getD, List.getElem?_eq_getElem hi, Option.getD_some]
        refine .inr ⟨b, off, rfl, block_lt_of_cell (hat 0 (by omega)), fun j hj => ?_⟩
        have hj' : j < len1 := by rw [hlen] at hj; exact hj
        have hjz : j < zs.length := by omega
        rw [hat j hjz]
        have h0 := (bounds_u8 (hwz _ (List.getElem_mem hjz))).1
        simp only [List.getElem_map, List.getElem_take]
        congr 2
        omega
end Go.Proofs.Ytohnagmkbjdlmaa
