/- What handle.Handle computes: the walks through its text. No condition. -/
import Derived.Test.YtaocdknpalohbaaHand
import Derived.Deep.RegionHeld3
import Derived.BigQuiet
import Derived.Deep.QuietTactic
import Derived.Deep.MidRow
namespace Go.Proofs.Ytaocdknpalohbaa
open Go.RowKit

theorem digT : DigType Try.prog 35 5 where
  arr := Try.underlying35
  byte := Try.underlying5
  cells := by kernel_rfl
  cell := by kernel_rfl
  size := by kernel_rfl
  key := by kernel_rfl
  at2 := by kernel_rfl
  tiled := by kernel_rfl
  types := ⟨Try.prog.types.size - 1, by kernel_rfl⟩
  plain := by kernel_rfl

section
variable (ρ : Operand → Value) (dst : Option Tmp) (x y : Operand) (yt ty : TypeId) (pos : String) (after : Array Edge) (guard : Option (Nat × Bool)) (w : World)
theorem exec_loadD : (execOp ρ ⟨dst, .load 35 x, ty, pos, after, guard⟩).run Try.prog w = loadRow 32 (ρ x) w ((do let v ← Instr.loadAt 35 (ρ x); pure (.value v) : Sem Next).run Try.prog w) :=
  exec_load Try.underlying35 rfl digT.size ρ dst x ty pos after guard w
theorem exec_eqlD : (execOp ρ ⟨dst, .binOp .eql 35 x y yt, ty, pos, after, guard⟩).run Try.prog w = eqRow false (ρ x) (ρ y) w ((do let v ← (do eqGuard .eql 35 x y (ρ x) (ρ y); binOp .eql 35 (ρ x) (ρ y)); pure (.value v) : Sem Next).run Try.prog w) :=
  digT.exec_eql ρ dst x y yt ty pos after guard w
theorem exec_neqD : (execOp ρ ⟨dst, .binOp .neq 35 x y yt, ty, pos, after, guard⟩).run Try.prog w = eqRow true (ρ x) (ρ y) w ((do let v ← (do eqGuard .neq 35 x y (ρ x) (ρ y); binOp .neq 35 (ρ x) (ρ y)); pure (.value v) : Sem Next).run Try.prog w) :=
  digT.exec_neq ρ dst x y yt ty pos after guard w
end
theorem take8 (l : List UInt8) (_hl : l.length = 32) : (dg l).toList.take 8 = Lib.byteCells (l.take 8) := by
  simp [dg, Lib.byteCells, List.map_take]

attribute [local go_sem ↓] exec_loadD exec_eqlD exec_neqD
attribute [local go_sem] loadRow eqRow dg_size digEq_dg hd_length isDig_dg objAt_new objAt_old objAt_drew

set_option maxHeartbeats 1000000 in
theorem handle_zero (l : List UInt8) (hl : l.length = 32) (h0 : val (l.take 8) = 0) (w : World) :
    Calls Try.prog 17 #[.agg (dg l)] w fun e w' => e = .returned (.tuple #[.int .u64 0, .bool false]) ∧ Below w.heap.size w w' := by
  have ht8 : (l.take 8).length = 8 := by simp [hl]
  have hz8 : (⟨(l.take 8).toArray⟩ : ByteArray).size = 8 := by show (l.take 8).toArray.size = 8; simp [hl]
  have hv := hide (show val ((((⟨(l.take 8).toArray⟩ : ByteArray).data.toList).drop (Int.toNat 0)).take (Int.toNat 8)) = 0 from by
    show val ((((l.take 8).toArray.toList).drop 0).take 8) = 0
    simp [List.take_take, h0])
  have HL := hide hl
  clear h0 hl
  go_enter Try.func17, Try.ntmps17
  go_wp2_with ((with_reducible show wpList _ _ _ (⟨some 8, _, _, _, _, _⟩ :: _) _ _); refine law_toString rfl _ _ _ rfl 5 Try.underlying59 Try.underlying5 Try.underlying9 w.heap.size 8 32 rfl (l.take 8) _ _ _ (new_at _ _) ht8 (take8 l HL.out) ?_)
  refine (get_ok _ _ _ _ (by rw [hz8]; decide) (by decide) (by decide) (by decide) (by rw [hz8]; decide)).mono ?_
  rw [hv.out]
  rintro e w1 ⟨rfl, rfl⟩
  go_wp2_with fail
  go_quiet (fail)
  go_wp2
  go_ret2
  exact ⟨rfl, below_drewN ((Below.refl w.heap.size w).alloc (Nat.le_refl _) _) _⟩

theorem dg_fold (l : List UInt8) : (Lib.byteCells l).toArray = dg l := rfl
attribute [local go_sem] dg_fold
theorem range_dg {w : World} {g : Nat} {l : List UInt8} {t : TypeId} {fr : Nat × Nat} (h : w.heap[g]? = some (.cells (dg l) t fr)) : w.rangeAt g 0 (Lib.byteCells l) := by
  intro j v hj
  simp [World.cell?, h, dg, hj]
theorem held_below {B : Nat} {x : List Value} {w0 w1 w2 : World} (h : w1.rangeAt B 0 x ∧ Below B w0 w1 ∧ B < w1.heap.size) (hb : Below w1.heap.size w1 w2) :
    w2.rangeAt B 0 x ∧ Below B w0 w2 ∧ B < w2.heap.size :=
  ⟨fun j v hj => (hb.cell (p := ⟨B, 0 + j, none⟩) h.2.2).trans (h.1 j v hj), h.2.1.trans (hb.mono (Nat.le_of_lt h.2.2)), Nat.lt_of_lt_of_le h.2.2 hb.size⟩

set_option maxHeartbeats 1000000 in
theorem handle_no (l : List UInt8) (hl : l.length = 32) (h0 : val (l.take 8) ≠ 0) (hne : hd (val (l.take 8)) ≠ l) (w : World) :
    Calls Try.prog 17 #[.agg (dg l)] w fun e w' => e = .returned (.tuple #[.int .u64 0, .bool false]) ∧ Below w.heap.size w w' := by
  have ht8 : (l.take 8).length = 8 := by simp [hl]
  have hz8 : (⟨(l.take 8).toArray⟩ : ByteArray).size = 8 := by show (l.take 8).toArray.size = 8; simp [hl]
  have hlt : val (l.take 8) < 18446744073709551616 := by
    have := val_lt (l.take 8)
    rw [ht8] at this
    exact this
  obtain ⟨V, hVd⟩ : ∃ V, V = val (l.take 8) := ⟨_, rfl⟩
  rw [← hVd] at h0 hlt hne
  have hv := hide (show val ((((⟨(l.take 8).toArray⟩ : ByteArray).data.toList).drop (Int.toNat 0)).take (Int.toNat 8)) = V from by
    show val ((((l.take 8).toArray.toList).drop 0).take 8) = V
    simp [List.take_take, hVd])
  have HL := hide hl
  have hb : (hd V == l) = false := by rw [beq_eq_false_iff_ne]; exact hne
  have hVi : ((V : Int) == 0) = false := by rw [beq_eq_false_iff_ne]; omega
  clear h0 hVd hne
  go_enter Try.func17, Try.ntmps17
  go_wp2_with ((with_reducible show wpList _ _ _ (⟨some 8, _, _, _, _, _⟩ :: _) _ _); refine law_toString rfl _ _ _ rfl 5 Try.underlying59 Try.underlying5 Try.underlying9 w.heap.size 8 32 rfl (l.take 8) _ _ _ (new_at _ _) ht8 (take8 l HL.out) ?_)
  refine (get_ok _ _ _ _ (by rw [hz8]; decide) (by decide) (by decide) (by decide) (by rw [hz8]; decide)).mono ?_
  rw [hv.out]
  rintro e w1 ⟨rfl, rfl⟩
  obtain ⟨w2, hw2⟩ : ∃ w2, w2 = w.alloc (.cells (dg l) 35) := ⟨_, rfl⟩
  have hg2 : w2.heap[w.heap.size]? = some (.cells (dg l) 35 (0, 0)) := by rw [hw2]; exact new_at _ _
  have hB2 : Below w.heap.size w w2 := by rw [hw2]; exact (Below.refl w.heap.size w).alloc (Nat.le_refl _) _
  have hz2 : w.heap.size < w2.heap.size := by rw [hw2]; simp
  rw [← hw2]
  clear hw2
  go_wp2_with fail
  have hr2 := range_dg hg2
  have huD := Try.underlying35
  have hiD : (Try.prog.info? 35).map (·.size) = some (Lib.byteCells l).length := by rw [Lib.byteCells_length, HL.out]; exact digT.size
  go_region_held3 (fun w' => w'.rangeAt w.heap.size 0 (Lib.byteCells l) ∧ Below w.heap.size w w' ∧ w.heap.size < w'.heap.size) (first | assumption | exact ⟨hr2, hB2.drew, hz2⟩ | go_keep | (refine ⟨?_, ?_, ?_⟩ <;> first | assumption | go_keep))
    (first
      | (go_at_call 16; refine (digest_any _ _ (by omega) (by omega)).mono ?_; rintro e w' ⟨rfl, hb'⟩; have hS' := held_below (by assumption) hb'))
  all_goals
    go_wp2
    go_ret2
    exact ⟨rfl, hS'.2.1⟩
set_option maxHeartbeats 1000000 in
theorem handle_yes (l : List UInt8) (hl : l.length = 32) (h0 : val (l.take 8) ≠ 0) (hne : hd (val (l.take 8)) = l) (w : World) :
    Calls Try.prog 17 #[.agg (dg l)] w fun e w' => e = .returned (.tuple #[.int .u64 (val (l.take 8)), .bool true]) ∧ Below w.heap.size w w' := by
  have ht8 : (l.take 8).length = 8 := by simp [hl]
  have hz8 : (⟨(l.take 8).toArray⟩ : ByteArray).size = 8 := by show (l.take 8).toArray.size = 8; simp [hl]
  have hlt : val (l.take 8) < 18446744073709551616 := by
    have := val_lt (l.take 8)
    rw [ht8] at this
    exact this
  obtain ⟨V, hVd⟩ : ∃ V, V = val (l.take 8) := ⟨_, rfl⟩
  rw [← hVd] at h0 hlt hne ⊢
  have hv := hide (show val ((((⟨(l.take 8).toArray⟩ : ByteArray).data.toList).drop (Int.toNat 0)).take (Int.toNat 8)) = V from by
    show val ((((l.take 8).toArray.toList).drop 0).take 8) = V
    simp [List.take_take, hVd])
  have HL := hide hl
  have hb : (hd V == l) = true := by rw [beq_iff_eq]; exact hne
  have hVi : ((V : Int) == 0) = false := by rw [beq_eq_false_iff_ne]; omega
  clear h0 hVd hne
  go_enter Try.func17, Try.ntmps17
  go_wp2_with ((with_reducible show wpList _ _ _ (⟨some 8, _, _, _, _, _⟩ :: _) _ _); refine law_toString rfl _ _ _ rfl 5 Try.underlying59 Try.underlying5 Try.underlying9 w.heap.size 8 32 rfl (l.take 8) _ _ _ (new_at _ _) ht8 (take8 l HL.out) ?_)
  refine (get_ok _ _ _ _ (by rw [hz8]; decide) (by decide) (by decide) (by decide) (by rw [hz8]; decide)).mono ?_
  rw [hv.out]
  rintro e w1 ⟨rfl, rfl⟩
  obtain ⟨w2, hw2⟩ : ∃ w2, w2 = w.alloc (.cells (dg l) 35) := ⟨_, rfl⟩
  have hg2 : w2.heap[w.heap.size]? = some (.cells (dg l) 35 (0, 0)) := by rw [hw2]; exact new_at _ _
  have hB2 : Below w.heap.size w w2 := by rw [hw2]; exact (Below.refl w.heap.size w).alloc (Nat.le_refl _) _
  have hz2 : w.heap.size < w2.heap.size := by rw [hw2]; simp
  rw [← hw2]
  clear hw2
  go_wp2_with fail
  have hr2 := range_dg hg2
  have huD := Try.underlying35
  have hiD : (Try.prog.info? 35).map (·.size) = some (Lib.byteCells l).length := by rw [Lib.byteCells_length, HL.out]; exact digT.size
  go_region_held3 (fun w' => w'.rangeAt w.heap.size 0 (Lib.byteCells l) ∧ Below w.heap.size w w' ∧ w.heap.size < w'.heap.size) (first | assumption | exact ⟨hr2, hB2.drew, hz2⟩ | go_keep | (refine ⟨?_, ?_, ?_⟩ <;> first | assumption | go_keep))
    (first
      | (go_at_call 16; refine (digest_any _ _ (by omega) (by omega)).mono ?_; rintro e w' ⟨rfl, hb'⟩; have hS' := held_below (by assumption) hb'))
  all_goals
    go_wp2
    go_ret2
    exact ⟨rfl, hS'.2.1⟩
end Go.Proofs.Ytaocdknpalohbaa
