/- Layer 23, StrikeOrder: its row turned: the walk of the region that makes both tallies. Condition: the offences lie in a slice, sixty at most. -/
import Derived.Test.YtohnagmkbjdlmaaSOrdL
import Derived.Test.YtohnagmkbjdlmaaSlots
import Derived.BigQuiet
namespace Go.Proofs.Ytohnagmkbjdlmaa
open Go.RowKit Go.BigFrame
set_option maxRecDepth 20000

theorem infoB : (Try.prog.info? 5).map (fun i => (i.zero, i.size, i.bytes)) = some (some (.int .u8 0), 1, 1) := by kernel_rfl
theorem run_app_nil (w : World) (ty : TypeId) (g n cap : Nat) (h : n ≤ cap) : (Builtin.append_ #[22, 22] ty #[.slice (some ⟨g, 0, none⟩) n cap, .slice none 0 0]).run Try.prog w = .ok (.slice (some ⟨g, 0, none⟩) n cap) w := by
  have hs : ∀ w, (sizeOf 5).run Try.prog w = .ok 1 w := fun _ => by kernel_rfl
  simp [Builtin.append_, run_underlying Try.underlying22, hs, Builtin.lenOf, Builtin.firstCells, h, storeCells]
/-- What is appended: nothing, or cells that lie there. -/
def NewsAt (w : World) (v : Value) (m : Nat) (news : List Nat) : Prop :=
  news.length = m ∧ ((v = .slice none 0 0 ∧ m = 0) ∨ ∃ ad c, v = .slice (some ad) m c ∧ ∀ j, (h : j < news.length) → w.cell? (ad.add j) = some (encB news[j]))
theorem run_app (w : World) (ty : TypeId) (N : Nat) (hN : N ≤ w.heap.size) (v : Value) (n : Nat) (xs : List Nat) (hown : w.ownsRow N 5 1 v n (xs.map encB)) (hsome : ∃ g cap, v = .slice (some ⟨g, 0, none⟩) n cap)
    (u : Value) (m : Nat) (news : List Nat) (hu : NewsAt w u m news) (hs : n + m ≤ 60) :
    ∃ g cap w', (Builtin.append_ #[22, 22] ty #[v, u]).run Try.prog w = .ok (.slice (some ⟨g, 0, none⟩) (n + m) cap) w' ∧ w'.ownsRow N 5 1 (.slice (some ⟨g, 0, none⟩) (n + m) cap) (n + m) ((xs ++ news).map encB) ∧ w.grownBy w' v.ownBlock := by
  obtain ⟨g, cap, rfl⟩ := hsome
  have hnc : n ≤ cap := by
    rcases hown.2 with ⟨h, _⟩ | ⟨g', cap', cur, e, _, _, h, _⟩
    · cases h
    · cases e; exact h
  obtain ⟨hl, hu⟩ := hu
  rcases hu with ⟨rfl, rfl⟩ | ⟨ad, c, rfl, hc⟩
  · obtain rfl : news = [] := List.length_eq_zero_iff.1 hl
    refine ⟨g, cap, w, ?_, by simpa using hown, ⟨rfl, rfl, rfl, Nat.le_refl _, fun _ _ _ => rfl⟩⟩
    rw [run_app_nil w ty g n cap hnc]; rfl
  · obtain ⟨i0, hi, hz0, hz1, hz2⟩ := info_parts infoB
    obtain ⟨v', w', hr, ho, hg, hn⟩ := run_append_own (P := Try.prog) w N 22 ty 5 i0 (.int .u8 0) 1 1 Try.underlying22 hi hz0 hz1 hz2 rfl (by decide) _ n _ hown ad m c (news.map encB) (by simp [hl])
      (fun j x hx => by
        have hj : j < news.length := by
          have := (List.getElem?_eq_some_iff.1 hx).1
          simpa using this
        rw [hc j hj]
        simpa [hj] using hx) (by simp [encB, Value.oneCell']) (by unfold maxLen; omega) (by omega) hN
    rcases ho.2 with ⟨rfl, h0⟩ | ⟨g', cap', cur, rfl, hrest⟩
    · have := (hn.1 rfl).1
      cases this
    · exact ⟨g', cap', w', hr, by simpa using ho, hg⟩
end Go.Proofs.Ytohnagmkbjdlmaa
