/- What a table's Opens answers: the walks through its text. No condition. -/
import Derived.Test.YtpkgmoiffegbfaaTab
import Derived.Deep.RegionHeld3
import Derived.Deep.MidRow
namespace Go.Proofs.Ytpkgmoiffegbfaa
set_option maxRecDepth 100000
open Go.RowKit

attribute [local go_sem ↓] exec_loadS
attribute [local go_sem] cells_form objAt_new objAt_old objAt_drew loadRow dg_size isDig_dg dg_fold

theorem same_form (x y : Sl) : x.same y = ((x.r == y.r) && ((x.c == y.c) && ((x.b == y.b) && (x.n == y.n)))) := by
  rw [Bool.eq_iff_iff]
  obtain ⟨a, b, c, d⟩ := x
  obtain ⟨a', b', c', d'⟩ := y
  simp [Sl.same]

set_option maxHeartbeats 1000000 in
theorem opens_none (d : List UInt8) (hd32 : d.length = 32) (x : Sl) (w : World) (tb mb : Nat) (L : List Sl) (ht : IsTable w tb mb L) (hlk : look d 0 L = none) :
    Calls Try.prog 44 #[.pointer (some ⟨tb, 0, none⟩), .agg (dg d), .agg x.cells] w fun e w' =>
      e = .returned (.bool false) ∧ Below w.heap.size w w' := by
  have hmblt : mb < w.heap.size := (Array.getElem?_eq_some_iff.1 ht.map).1
  have htblt : tb < w.heap.size := (Array.getElem?_eq_some_iff.1 ht.tab).1
  have hkeys := entsFrom_keys 0 L
  have hfd := findDg_ents d 0 L
  rw [hlk] at hfd
  simp only [Option.map_none] at hfd
  clear hlk
  go_enter Try.func44, Try.ntmps44
  go_wp2_with fail
  obtain ⟨w2, hw2⟩ : ∃ w2, w2 = (w.alloc (.cells (dg d) 68)).alloc (.cells x.cells 71) := ⟨_, rfl⟩
  rw [cells_form] at hw2
  rw [← hw2]
  have ht2 : w2.heap[tb]? = some (.cells #[.map (some mb)] 85 (0, 0)) := by rw [hw2]; exact alloc_at _ (alloc_at _ ht.tab)
  have hm2 : w2.heap[mb]? = some (.map (entsFrom 0 L).toArray L.length) := by rw [hw2]; exact alloc_at _ (alloc_at _ ht.map)
  have hg2 : w2.heap[w.heap.size]? = some (.cells (dg d) 68 (0, 0)) := by rw [hw2]; exact alloc_at _ (new_at _ _)
  have hx2 : objAt w2 (w.heap.size + 1) = some (.cells x.cells 71 (0, 0)) := by rw [hw2]; exact heap_alloc2_new _ _ _
  rw [cells_form] at hx2
  have hB2 : Below w.heap.size w w2 := by rw [hw2]; exact ((Below.refl w.heap.size w).alloc (Nat.le_refl _) _).alloc (by simp) _
  have hz2 : w2.heap.size = w.heap.size + 2 := by rw [hw2]; simp
  have hc2 := cell_of (i := 0) ht2 rfl
  have l1 : mb < w2.heap.size := by omega
  have l2 : tb < w2.heap.size := by omega
  have l3 : w.heap.size < w2.heap.size := by omega
  have l4 : w.heap.size + 1 < w2.heap.size := by omega
  have hr2 := range_dg hg2
  have huD := Try.underlying68
  have hiD : (Try.prog.info? 68).map (·.size) = some (Lib.byteCells d).length := by rw [Lib.byteCells_length, hd32]; exact digT.size
  have hlk : (Instr.lookup 83 (.map (some mb)) (.agg (dg d)) true).run Try.prog w2.drew = .ok (.tuple #[.agg (Sl.cells ⟨0, 0, 0, 0⟩), .bool false]) w2.drew := by
    have h := digT.lookup Try.underlying83 sealedZ (isDig_dg hd32) w2.drew mb _ _ hm2 hkeys
    rw [h, show (entsFrom 0 L).toArray.toList = entsFrom 0 L from rfl, hfd]
    rfl
  have HA := hide (show ∀ o : Obj, (w2.alloc o).drew.cell? ⟨tb, 0, none⟩ = some (.map (some mb)) ∧ (w2.alloc o).drew.rangeAt w.heap.size 0 (Lib.byteCells d) ∧ (Instr.lookup 83 (.map (some mb)) (.agg (dg d)) true).run Try.prog (w2.alloc o).drew = .ok (.tuple #[.agg (Sl.cells ⟨0, 0, 0, 0⟩), .bool false]) (w2.alloc o).drew from fun o => by
    refine ⟨cell_of (i := 0) (alloc_at o ht2) rfl, range_dg (alloc_at o hg2), ?_⟩
    have h := digT.lookup Try.underlying83 sealedZ (isDig_dg hd32) (w2.alloc o).drew mb _ _ (alloc_at o hm2) hkeys
    rw [h, show (entsFrom 0 L).toArray.toList = entsFrom 0 L from rfl, hfd]
    rfl)
  have HK := hide hkeys
  clear hw2 hz2 ht2 hg2 hm2 hfd hkeys
  go_region_held3 (fun w' => w'.cell? ⟨tb, 0, none⟩ = some (.map (some mb)) ∧ w'.rangeAt w.heap.size 0 (Lib.byteCells d) ∧ (Instr.lookup 83 (.map (some mb)) (.agg (dg d)) true).run Try.prog w' = .ok (.tuple #[.agg (Sl.cells ⟨0, 0, 0, 0⟩), .bool false]) w') (first | assumption | exact ⟨hc2, hr2, hlk⟩ | exact HA.out _ | go_keep) (first | fail)
  all_goals
    go_wp2
    go_ret
    exact ⟨rfl, (hB2.alloc (by omega) _).drew⟩

set_option maxHeartbeats 1000000 in
theorem opens_some (d : List UInt8) (hd32 : d.length = 32) (x y : Sl) (w : World) (tb mb : Nat) (L : List Sl) (ht : IsTable w tb mb L) (hlk : look d 0 L = some y) :
    Calls Try.prog 44 #[.pointer (some ⟨tb, 0, none⟩), .agg (dg d), .agg x.cells] w fun e w' =>
      e = .returned (.bool (y.same x)) ∧ Below w.heap.size w w' := by
  have hmblt : mb < w.heap.size := (Array.getElem?_eq_some_iff.1 ht.map).1
  have htblt : tb < w.heap.size := (Array.getElem?_eq_some_iff.1 ht.tab).1
  have hkeys := entsFrom_keys 0 L
  have hfd := findDg_ents d 0 L
  rw [hlk] at hfd
  simp only [Option.map_some] at hfd
  clear hlk
  go_enter Try.func44, Try.ntmps44
  go_wp2_with fail
  obtain ⟨w2, hw2⟩ : ∃ w2, w2 = (w.alloc (.cells (dg d) 68)).alloc (.cells x.cells 71) := ⟨_, rfl⟩
  rw [cells_form] at hw2
  rw [← hw2]
  have ht2 : w2.heap[tb]? = some (.cells #[.map (some mb)] 85 (0, 0)) := by rw [hw2]; exact alloc_at _ (alloc_at _ ht.tab)
  have hm2 : w2.heap[mb]? = some (.map (entsFrom 0 L).toArray L.length) := by rw [hw2]; exact alloc_at _ (alloc_at _ ht.map)
  have hg2 : w2.heap[w.heap.size]? = some (.cells (dg d) 68 (0, 0)) := by rw [hw2]; exact alloc_at _ (new_at _ _)
  have hx2 : objAt w2 (w.heap.size + 1) = some (.cells x.cells 71 (0, 0)) := by rw [hw2]; exact heap_alloc2_new _ _ _
  rw [cells_form] at hx2
  have hB2 : Below w.heap.size w w2 := by rw [hw2]; exact ((Below.refl w.heap.size w).alloc (Nat.le_refl _) _).alloc (by simp) _
  have hz2 : w2.heap.size = w.heap.size + 2 := by rw [hw2]; simp
  have hc2 := cell_of (i := 0) ht2 rfl
  have l1 : mb < w2.heap.size := by omega
  have l2 : tb < w2.heap.size := by omega
  have l3 : w.heap.size < w2.heap.size := by omega
  have l4 : w.heap.size + 1 < w2.heap.size := by omega
  have hr2 := range_dg hg2
  have huD := Try.underlying68
  have hiD : (Try.prog.info? 68).map (·.size) = some (Lib.byteCells d).length := by rw [Lib.byteCells_length, hd32]; exact digT.size
  have hlk : (Instr.lookup 83 (.map (some mb)) (.agg (dg d)) true).run Try.prog w2.drew = .ok (.tuple #[.agg y.cells, .bool true]) w2.drew := by
    have h := digT.lookup Try.underlying83 sealedZ (isDig_dg hd32) w2.drew mb _ _ hm2 hkeys
    rw [h, show (entsFrom 0 L).toArray.toList = entsFrom 0 L from rfl, hfd]
    rfl
  have HA := hide (show ∀ o : Obj, (w2.alloc o).drew.cell? ⟨tb, 0, none⟩ = some (.map (some mb)) ∧ (w2.alloc o).drew.rangeAt w.heap.size 0 (Lib.byteCells d) ∧ (Instr.lookup 83 (.map (some mb)) (.agg (dg d)) true).run Try.prog (w2.alloc o).drew = .ok (.tuple #[.agg y.cells, .bool true]) (w2.alloc o).drew from fun o => by
    refine ⟨cell_of (i := 0) (alloc_at o ht2) rfl, range_dg (alloc_at o hg2), ?_⟩
    have h := digT.lookup Try.underlying83 sealedZ (isDig_dg hd32) (w2.alloc o).drew mb _ _ (alloc_at o hm2) hkeys
    rw [h, show (entsFrom 0 L).toArray.toList = entsFrom 0 L from rfl, hfd]
    rfl)
  have HK := hide hkeys
  clear hw2 hz2 ht2 hg2 hm2 hfd hkeys
  go_region_held3 (fun w' => w'.cell? ⟨tb, 0, none⟩ = some (.map (some mb)) ∧ w'.rangeAt w.heap.size 0 (Lib.byteCells d) ∧ (Instr.lookup 83 (.map (some mb)) (.agg (dg d)) true).run Try.prog w' = .ok (.tuple #[.agg y.cells, .bool true]) w') (first | assumption | exact ⟨hc2, hr2, hlk⟩ | exact HA.out _ | go_keep) (first | fail)
  all_goals
    go_wp2
    all_goals
      go_ret
      refine ⟨?_, (hB2.alloc (by omega) _).drew⟩
      clear HA HK hlk
      rw [same_form]
      simp_all

theorem opens_any (d : List UInt8) (hd32 : d.length = 32) (x : Sl) (w : World) (tb mb : Nat) (L : List Sl) (ht : IsTable w tb mb L) :
    Calls Try.prog 44 #[.pointer (some ⟨tb, 0, none⟩), .agg (dg d), .agg x.cells] w fun e w' =>
      e = .returned (.bool (opensF L d x)) ∧ Below w.heap.size w w' := by
  unfold opensF
  cases hlk : look d 0 L with
  | none => exact opens_none d hd32 x w tb mb L ht hlk
  | some y => exact opens_some d hd32 x y w tb mb L ht hlk

theorem opens_nil (d : List UInt8) (x : Sl) (w : World) :
    Calls Try.prog 44 #[.pointer none, .agg (dg d), .agg x.cells] w fun e w' =>
      e = .returned (.bool false) ∧ Below w.heap.size w w' := by
  go_enter Try.func44, Try.ntmps44
  go_wp2
  go_ret
  exact ⟨rfl, ((Below.refl w.heap.size w).alloc (Nat.le_refl _) _).alloc (by simp) _⟩
end Go.Proofs.Ytpkgmoiffegbfaa
