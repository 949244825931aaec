/- What take does to the state: the walk. No condition. -/
import Derived.Test.YtpkgmoiffegbfaaDoorZSpec
namespace Go.Proofs.YtpkgmoiffegbfaaDoor
open Go.RowKit Go.BigFrame
set_option maxRecDepth 100000
attribute [local go_sem] wI_div bitsW_or bitsW_xor bitsW_and
attribute [local go_sem 2000] binW_add binW_xor binW_and binW_or unW_xor

theorem zeroW64 : (Tryd.prog.info? 80).map (·.zero) = some (some (.agg (ww (List.replicate 64 0)))) := by kernel_rfl
theorem sizeU32 : (Tryd.prog.info? 58).map (·.size) = some 1 := by kernel_rfl

theorem shW_8 (x : W) : Op.shift .shl .u32 (wI x) .u64 8 = pure (.int .u32 (wI (x <<< 8))) := shW_shl x .u64 8
attribute [local go_sem 2000] shW_8
theorem piece_size (bs : ByteArray) (i j : Nat) (h : j ≤ bs.size) (hij : i ≤ j) : (bs.extract i j).size = j - i := by
  rw [ByteArray.size_extract]; omega
theorem piece_data (bs : ByteArray) (i j : Nat) : (bs.extract i j).data.toList = (bs.data.toList.drop i).take (j - i) := by
  rw [ByteArray.data_extract, Array.toList_extract, List.extract_eq_take_drop]
theorem byte_word (c : UInt8) : ∃ y : W, wI y = (c.toNat : Int) ∧ y = BitVec.ofNat 32 c.toNat ∧ 0 ≤ wI y ∧ wI y < 256 := by
  have := c.toNat_lt
  refine ⟨BitVec.ofNat 32 c.toNat, ?_, rfl, ?_, ?_⟩ <;> rw [wI_nat, Nat.mod_eq_of_lt (by omega)] <;> omega
theorem four_bytes (l : List UInt8) (h : l.length = 4) : ∃ a b c d, l = [a, b, c, d] := by
  match l, h with
  | [a, b, c, d], _ => exact ⟨a, b, c, d, rfl⟩

/-- What the slots of a late word hold. -/
def lateR (A t : Nat) (x1 x6 x14 x15 : W) : Nat → Value
  | 0 => .int .i64 (t : Int)
  | 1 => .int .i64 (t : Int)
  | 2 => .int .i64 ((t : Int) - 2)
  | 3 => .pointer (some ⟨A, t - 2, none⟩)
  | 4 => .int .u32 (wI x1)
  | 5 => .int .u32 (wI (parts x1 17 19 10))
  | 6 => .int .i64 (t : Int)
  | 7 => .int .i64 ((t : Int) - 7)
  | 8 => .pointer (some ⟨A, t - 7, none⟩)
  | 9 => .int .u32 (wI x6)
  | 10 => .int .u32 (wI (parts x1 17 19 10 + x6))
  | 11 => .int .i64 (t : Int)
  | 12 => .int .i64 ((t : Int) - 15)
  | 13 => .pointer (some ⟨A, t - 15, none⟩)
  | 14 => .int .u32 (wI x14)
  | 15 => .int .u32 (wI (parts x14 7 18 3))
  | 16 => .int .u32 (wI ((parts x1 17 19 10 + x6) + parts x14 7 18 3))
  | 17 => .int .i64 (t : Int)
  | 18 => .int .i64 ((t : Int) - 16)
  | 19 => .pointer (some ⟨A, t - 16, none⟩)
  | 20 => .int .u32 (wI x15)
  | 21 => .int .u32 (wI ((parts x1 17 19 10 + x6 + parts x14 7 18 3) + x15))
  | 22 => .pointer (some ⟨A, t, none⟩)
  | _ => undef
def lateC (w0 w : World) : Prop := w.heap = w0.heap ∧ w0.grownBy w none
theorem lateC.cell {w0 w : World} (h : lateC w0 w) {a : Addr} {v : Value} (hc : w0.cell? a = some v) : w.cell? a = some v := by
  unfold World.cell? at hc ⊢
  rw [h.1]
  exact hc
theorem lateC.drew {w0 w : World} (h : lateC w0 w) : lateC w0 w.drew := ⟨h.1, ⟨h.2.os, h.2.tape, h.2.output, h.2.size, h.2.block⟩⟩
theorem late_step {A t : Nat} {x1 x6 x14 x15 : W} {w0 w1 w2 : World} {S : Nat → Bool} {v : Nat → Value} (h : lateC w0 w1 ∧ ∀ j, j < 23 → S j = true → v j = lateR A t x1 x6 x14 x15 j) (i : Nat) (u : Value) (hC : lateC w0 w2) (hu : u = lateR A t x1 x6 x14 x15 i) :
    lateC w0 w2 ∧ ∀ j, j < 23 → upd S i true j = true → upd v i u j = lateR A t x1 x6 x14 x15 j := by
  refine ⟨hC, fun j hj hl => ?_⟩
  by_cases hji : j = i
  · subst hji; simp only [upd]; exact hu
  · simp only [upd, if_neg hji] at hl ⊢; exact h.2 j hj hl

theorem index_ww {n : Nat} {T : TypeId} (hT : Tryd.prog.underlying T = some (.array n 58)) (l : List W) (hl : l.length = n) (t : Nat) (ht : t < n) (w : World) : (Instr.index T (.agg (ww l)) (.int .i64 (t : Int))).run Tryd.prog w = .ok (.int .u32 (wI (l.getD t 0))) w := by
  have hs : ∃ i, Tryd.prog.info? 58 = some i ∧ i.size = 1 := by
    cases hq : Tryd.prog.info? 58 with
    | none => have := sizeU32; simp [hq] at this
    | some i => exact ⟨i, rfl, by have := sizeU32; simpa [hq] using this⟩
  obtain ⟨i, hi, hi1⟩ := hs
  have e : (ww l)[t]? = some (.int .u32 (wI (l.getD t 0))) := by rw [ww_at, List.getElem?_eq_getElem (by omega), List.getD_eq_getElem?_getD, List.getElem?_eq_getElem (by omega)]; rfl
  have hte : (t : Int) < (n : Int) := by omega
  simp [Instr.index, asIntOf, run_underlying hT, part, isAgg, run_underlying Tryd.underlying58, sizeOf, typeInfo, hi, hi1, ht, e]

/-- The state while it is added to. -/
def upto (s x : S8) (i : Nat) : List W := (s.add x).list.take i ++ s.list.drop i
theorem upto_zero (s x : S8) : upto s x 0 = s.list := rfl
theorem upto_eight (s x : S8) : upto s x 8 = (s.add x).list := rfl
theorem upto_set (s x : S8) (i : Nat) (h : i < 8) : (upto s x i).set i (s.list.getD i 0 + x.list.getD i 0) = upto s x (i + 1) := by
  match i, h with
  | 0, _ | 1, _ | 2, _ | 3, _ | 4, _ | 5, _ | 6, _ | 7, _ => rfl
  | i + 8, h => exact absurd h (by omega)
theorem upto_at (s x : S8) (i : Nat) (h : i < 8) : (upto s x i)[i]? = some (s.list.getD i 0) := by
  match i, h with
  | 0, _ | 1, _ | 2, _ | 3, _ | 4, _ | 5, _ | 6, _ | 7, _ => rfl
  | i + 8, h => exact absurd h (by omega)
theorem upto_length (s x : S8) (i : Nat) (h : i ≤ 8) : (upto s x i).length = 8 := by
  simp [upto, S8.list]; omega
theorem row_set (l : List W) (tail : List Value) (i : Nat) (h : i < l.length) (y : W) : ((l.map wv ++ tail).toArray).setIfInBounds i (.int .u32 (wI y)) = ((l.set i y).map wv ++ tail).toArray := by
  simp only [List.setIfInBounds_toArray]
  rw [List.set_append_left _ _ (by simpa using h), List.map_set]
  rfl

set_option maxHeartbeats 4000000 in
theorem take_any (w : World) (hb : Nat) (s : S8) (tail : List Value) (T : TypeId) (bs : ByteArray) (hbs : bs.size = 64) (K : List W) (hK : K.length = 64) (hk : w.rangeAt 1 0 (K.map wv)) (h1 : 1 < hb)
    (hh : w.heap[hb]? = some (.cells (s.list.map wv ++ tail).toArray T (0, 0))) :
    Calls Tryd.prog 31 #[.pointer (some ⟨hb, 0, none⟩), .string bs] w fun e w' =>
      e = .returned (.tuple #[]) ∧ w'.heap[hb]? = some (.cells ((comp K s bs.data.toList).list.map wv ++ tail).toArray T (0, 0)) ∧ w.grownBy w' (some hb) := by
  have HK := hide hk
  have HBS := hide hbs
  clear hk hbs
  go_enter Tryd.func31, Tryd.ntmps31
  go_wp2_with ((with_reducible show wpList _ _ _ (⟨some 4, Op.alloc _, _, _, _, _⟩ :: _) _ _); refine Hid.out ?_)
  refine hide ?_
  refine zallocK rfl 80 rfl _ zeroW64 ?_
  intro w2 hg2 hw2 hs2
  obtain ⟨A, hA⟩ : ∃ A, A = w.heap.size := ⟨_, rfl⟩
  have hbA : hb < A := by rw [hA]; exact zlt hh
  rw [← hA] at hg2 hs2 ⊢
  have hG2 : Below A w w2 := by rw [hA]; exact below_grown (Below.refl _ _) hw2 (Nat.le_refl _) (by intro k e; cases e)
  have HA := hide hA
  clear hA hw2
  go_wp2_with fail
  go_loopg [22] 64 (fun g i wi => ∃ t : Nat, t ≤ 64 ∧ g = 64 - t ∧ i = .int .i64 t ∧ wi.heap[A]? = some (.cells (ww (arr bs.data.toList t)) 80 (0, 0)) ∧ Below A w wi ∧ A < wi.heap.size)
  case atStart => exact ⟨0, by omega, rfl, rfl, by rw [arr_zero]; exact hg2, hG2, zlt hg2⟩
  case round =>
    obtain ⟨t, ht, rfl, rfl, hg, hG, hz⟩ := hrel
    clear hg2 hG2 hs2
    by_cases hlt : t < 64
    · have ht0 : (0 : Int) ≤ (t : Int) := by omega
      have htI : (t : Int) < 64 := by omega
      by_cases h16 : t < 16
      · have h16I : (t : Int) < 16 := by omega
        have hs0 : (0 : Int) ≤ 4 * (t : Int) := by omega
        have hs1 : 4 * (t : Int) + 4 ≤ (bs.size : Int) := by have := HBS.out; omega
        have hs2 : 4 * (t : Int) ≤ 4 * (t : Int) + 4 := by omega
        go_upto_region 6 with (fail)
        go_wp2_with ((with_reducible show wpList _ _ _ (⟨some 57, Op.convert _ _ _, _, _, _, _⟩ :: _) _ _); refine Hid.out ?_)
        refine hide ?_
        have hpl : (bs.extract (4 * t) (4 * t + 4)).size = 4 := by rw [piece_size bs _ _ (by have := HBS.out; omega) (by omega)]; omega
        have hpd := piece_data bs (4 * t) (4 * t + 4)
        rw [show 4 * t + 4 - 4 * t = 4 by omega] at hpd
        obtain ⟨c0, c1, c2, c3, hc4⟩ := four_bytes ((bs.data.toList.drop (4 * t)).take 4) (by have h := congrArg List.length hpd; rw [← h]; exact hpl)
        rw [hc4] at hpd
        refine zconv rfl _ _ 5 _ rfl (bs.extract (4 * t) (4 * t + 4)) rfl Tryd.underlying9 Tryd.underlying22 Tryd.underlying5 ?_
        intro w3 cap hcs hw3 hs3
        obtain ⟨B, hB⟩ : ∃ B, B = wr.heap.size := ⟨_, rfl⟩
        rw [← hB] at hcs hs3 ⊢
        rw [hpd] at hcs
        obtain ⟨y0, e0, f0, b0a, b0b⟩ := byte_word c0
        obtain ⟨y1, e1, f1, b1a, b1b⟩ := byte_word c1
        obtain ⟨y2, e2, f2, b2a, b2b⟩ := byte_word c2
        obtain ⟨y3, e3, f3, b3a, b3b⟩ := byte_word c3
        have z0 : w3.cell? ⟨B, 0, none⟩ = some (.int .u8 (wI y0)) := by rw [e0]; exact hcs 0 (by omega)
        have z1 : w3.cell? ⟨B, 1, none⟩ = some (.int .u8 (wI y1)) := by rw [e1]; exact hcs 1 (by omega)
        have z2 : w3.cell? ⟨B, 2, none⟩ = some (.int .u8 (wI y2)) := by rw [e2]; exact hcs 2 (by omega)
        have z3 : w3.cell? ⟨B, 3, none⟩ = some (.int .u8 (wI y3)) := by rw [e3]; exact hcs 3 (by omega)
        have g0 := (hw3.block A (by omega) (by simp)).trans hg
        have G0 : Below A w w3 := below_grown hG hw3 (by omega) (by intro k e; cases e)
        have Z0 : B < w3.heap.size := by omega
        have hAB : A < B := by omega
        have hPK : packW [c0, c1, c2, c3] = (((y0 <<< 8 ||| y1) <<< 8 ||| y2) <<< 8 ||| y3) := by rw [f0, f1, f2, f3]; simp [packW]
        have hAl : t < (arr bs.data.toList t).length := by rw [arr_length _ _ ht]; exact hlt
        have HAR := hide (arr_succ bs.data.toList t hlt _ (by rw [sched_early _ _ h16, hc4, hPK]))
        clear hcs hs3 hw3 e0 e1 e2 e3 f0 f1 f2 f3 hPK hg hG hz hB hpd hc4
        rw [hpl]
        clear hpl hs0 hs1 hs2
        go_wp2_with fail
        refine wp_loop_rounds 5 ?_
        rw [rounds_succ]
        have q0 : w3.cell? ⟨A, t, none⟩ = some (.int .u32 (wI (0))) := zcell g0 (by rw [ww_at, arr_self _ _ hlt]; rfl)
        have r0 := z0
        have l0a := b0a
        have l0b := b0b
        go_wp2_with ((with_reducible show wpList _ _ _ (⟨none, Op.store _ _ _, _, _, _, _⟩ :: _) _ _); refine Hid.out ?_)
        refine hide ?_
        refine zstore rfl rfl _ _ _ rfl sizeU32 A t (.int .u32 (wI y0)) rfl rfl rfl rfl _ _ g0 (by rw [ww_size, arr_length _ _ ht]; exact hlt) ?_
        intro v0 g1 w0g
        rw [ww_set] at g1
        have G1 := below_grown G0 w0g (by omega) (by intro k e; cases e; exact Nat.le_refl _)
        have z0z : B < v0.heap.size := Nat.lt_of_lt_of_le Z0 w0g.size
        have Z1 := z0z
        have z1 : v0.cell? ⟨B, 1, none⟩ = some (.int .u8 (wI y1)) := w0g.cell z1 (by simp; omega)
        have z2 : v0.cell? ⟨B, 2, none⟩ = some (.int .u8 (wI y2)) := w0g.cell z2 (by simp; omega)
        have z3 : v0.cell? ⟨B, 3, none⟩ = some (.int .u8 (wI y3)) := w0g.cell z3 (by simp; omega)
        go_wp2_with fail
        clear q0 r0 l0a l0b g0 w0g G0 Z0 z0z
        rw [rounds_succ]
        have q1 : v0.cell? ⟨A, t, none⟩ = some (.int .u32 (wI (y0))) := zcell g1 (by rw [ww_at, List.getElem?_set_self hAl]; rfl)
        have r1 := z1
        have l1a := b1a
        have l1b := b1b
        go_wp2_with ((with_reducible show wpList _ _ _ (⟨none, Op.store _ _ _, _, _, _, _⟩ :: _) _ _); refine Hid.out ?_)
        refine hide ?_
        refine zstore rfl rfl _ _ _ rfl sizeU32 A t (.int .u32 (wI (y0 <<< 8 ||| y1))) rfl rfl rfl rfl _ _ g1 (by rw [ww_size, List.length_set, arr_length _ _ ht]; exact hlt) ?_
        intro v1 g2 w1g
        rw [ww_set, List.set_set] at g2
        have G2 := below_grown G1 w1g (by omega) (by intro k e; cases e; exact Nat.le_refl _)
        have z1z : B < v1.heap.size := Nat.lt_of_lt_of_le Z1 w1g.size
        have Z2 := z1z
        have z2 : v1.cell? ⟨B, 2, none⟩ = some (.int .u8 (wI y2)) := w1g.cell z2 (by simp; omega)
        have z3 : v1.cell? ⟨B, 3, none⟩ = some (.int .u8 (wI y3)) := w1g.cell z3 (by simp; omega)
        go_wp2_with fail
        clear q1 r1 l1a l1b g1 w1g G1 Z1 z1z
        rw [rounds_succ]
        have q2 : v1.cell? ⟨A, t, none⟩ = some (.int .u32 (wI ((y0 <<< 8 ||| y1)))) := zcell g2 (by rw [ww_at, List.getElem?_set_self hAl]; rfl)
        have r2 := z2
        have l2a := b2a
        have l2b := b2b
        go_wp2_with ((with_reducible show wpList _ _ _ (⟨none, Op.store _ _ _, _, _, _, _⟩ :: _) _ _); refine Hid.out ?_)
        refine hide ?_
        refine zstore rfl rfl _ _ _ rfl sizeU32 A t (.int .u32 (wI ((y0 <<< 8 ||| y1) <<< 8 ||| y2))) rfl rfl rfl rfl _ _ g2 (by rw [ww_size, List.length_set, arr_length _ _ ht]; exact hlt) ?_
        intro v2 g3 w2g
        rw [ww_set, List.set_set] at g3
        have G3 := below_grown G2 w2g (by omega) (by intro k e; cases e; exact Nat.le_refl _)
        have z2z : B < v2.heap.size := Nat.lt_of_lt_of_le Z2 w2g.size
        have Z3 := z2z
        have z3 : v2.cell? ⟨B, 3, none⟩ = some (.int .u8 (wI y3)) := w2g.cell z3 (by simp; omega)
        go_wp2_with fail
        clear q2 r2 l2a l2b g2 w2g G2 Z2 z2z
        rw [rounds_succ]
        have q3 : v2.cell? ⟨A, t, none⟩ = some (.int .u32 (wI (((y0 <<< 8 ||| y1) <<< 8 ||| y2)))) := zcell g3 (by rw [ww_at, List.getElem?_set_self hAl]; rfl)
        have r3 := z3
        have l3a := b3a
        have l3b := b3b
        go_wp2_with ((with_reducible show wpList _ _ _ (⟨none, Op.store _ _ _, _, _, _, _⟩ :: _) _ _); refine Hid.out ?_)
        refine hide ?_
        refine zstore rfl rfl _ _ _ rfl sizeU32 A t (.int .u32 (wI (((y0 <<< 8 ||| y1) <<< 8 ||| y2) <<< 8 ||| y3))) rfl rfl rfl rfl _ _ g3 (by rw [ww_size, List.length_set, arr_length _ _ ht]; exact hlt) ?_
        intro v3 g4 w3g
        rw [ww_set, List.set_set] at g4
        have G4 := below_grown G3 w3g (by omega) (by intro k e; cases e; exact Nat.le_refl _)
        have z3z : B < v3.heap.size := Nat.lt_of_lt_of_le Z3 w3g.size
        have Z4 := z3z
        go_wp2_with fail
        clear q3 r3 l3a l3b g3 w3g G3 Z3 z3z
        rw [rounds_succ]
        go_wp2
        go_roundg (64 - (t + 1))
        case measure => omega
        case rel => exact ⟨t + 1, by omega, rfl, by simp, by rw [HAR.out]; exact g4, G4, by omega⟩
      · obtain ⟨x1, hx1⟩ : ∃ x, x = (sched bs.data.toList t).getD 1 0 := ⟨_, rfl⟩
        obtain ⟨x6, hx6⟩ : ∃ x, x = (sched bs.data.toList t).getD 6 0 := ⟨_, rfl⟩
        obtain ⟨x14, hx14⟩ : ∃ x, x = (sched bs.data.toList t).getD 14 0 := ⟨_, rfl⟩
        obtain ⟨x15, hx15⟩ : ∃ x, x = (sched bs.data.toList t).getD 15 0 := ⟨_, rfl⟩
        have q2 : wr.cell? ⟨A, t - 2, none⟩ = some (.int .u32 (wI x1)) := zcell hg (by rw [ww_at, hx1, show t - 2 = t - 1 - 1 by omega, arr_at _ _ 1 (by omega) ht]; rfl)
        have q7 : wr.cell? ⟨A, t - 7, none⟩ = some (.int .u32 (wI x6)) := zcell hg (by rw [ww_at, hx6, show t - 7 = t - 1 - 6 by omega, arr_at _ _ 6 (by omega) ht]; rfl)
        have q15 : wr.cell? ⟨A, t - 15, none⟩ = some (.int .u32 (wI x14)) := zcell hg (by rw [ww_at, hx14, show t - 15 = t - 1 - 14 by omega, arr_at _ _ 14 (by omega) ht]; rfl)
        have q16 : wr.cell? ⟨A, t - 16, none⟩ = some (.int .u32 (wI x15)) := zcell hg (by rw [ww_at, hx15, show t - 16 = t - 1 - 15 by omega, arr_at _ _ 15 (by omega) ht]; rfl)
        have HAR := hide (arr_succ bs.data.toList t hlt _ (by rw [sched_late _ _ h16, ← hx1, ← hx6, ← hx14, ← hx15]))
        have hAl : t < (arr bs.data.toList t).length := by rw [arr_length _ _ ht]; exact hlt
        clear hx1 hx6 hx14 hx15
        have h16I : ¬ (t : Int) < 16 := by omega
        have h16J : 16 ≤ (t : Int) := by omega
        have m2 : IntKind.i64.wrap ((t : Int) - 2) = (t : Int) - 2 := by simp [IntKind.wrap, IntKind.bits, IntKind.signed]; omega
        have m7 : IntKind.i64.wrap ((t : Int) - 7) = (t : Int) - 7 := by simp [IntKind.wrap, IntKind.bits, IntKind.signed]; omega
        have m15 : IntKind.i64.wrap ((t : Int) - 15) = (t : Int) - 15 := by simp [IntKind.wrap, IntKind.bits, IntKind.signed]; omega
        have m16 : IntKind.i64.wrap ((t : Int) - 16) = (t : Int) - 16 := by simp [IntKind.wrap, IntKind.bits, IntKind.signed]; omega
        have HM := hide (And.intro m2 (And.intro m7 (And.intro m15 m16)))
        clear m2 m7 m15 m16
        go_upto_region 5 with (fail)
        refine region_slots 23 [27, 28, 29, 30, 31, 32, 33, 34, 35, 36, 37, 38, 39, 40, 41, 42, 43, 44, 45, 46, 47, 48, 49] (by kernel_rfl) (by kernel_rfl) (by decide) rfl 177 rfl (by decide) (by kernel_rfl)
          (fun S v w1 => lateC wr w1 ∧ ∀ j, j < 23 → S j = true → v j = lateR A t x1 x6 x14 x15 j) ?_ ?_ ?_
        · intro v
          exact ⟨⟨rfl, ⟨rfl, rfl, rfl, Nat.le_refl _, fun _ _ _ => rfl⟩⟩, fun _ _ h => by cases h⟩
        · obtain ⟨m2, m7, m15, m16⟩ := HM.out
          have n2a : (2 : Int) ≤ (t : Int) := by omega
          have n2b : (t : Int) - 2 < 64 := by omega
          have n7a : (7 : Int) ≤ (t : Int) := by omega
          have n7b : (t : Int) - 7 < 64 := by omega
          have n15a : (15 : Int) ≤ (t : Int) := by omega
          have n15b : (t : Int) - 15 < 64 := by omega
          have n16a : (16 : Int) ≤ (t : Int) := by omega
          have n16b : (t : Int) - 16 < 64 := by omega
          intro i hi
          match i, hi with
          | 0, _ =>
            intro S v w1 f o ho hf hI hS hall K' Q' hK'
            obtain rfl := Option.some.inj ho
            have e5 : f.tmps[5]?.getD undef = .int .i64 (t : Int) := tmp_of (hf 5)
            simp [go_sem, e5]
            exact hK' _ _ (late_step hI 0 _ hI.1 rfl)
          | 1, _ =>
            intro S v w1 f o ho hf hI hS hall K' Q' hK'
            obtain rfl := Option.some.inj ho
            have e5 : f.tmps[5]?.getD undef = .int .i64 (t : Int) := tmp_of (hf 5)
            simp [go_sem, e5]
            exact hK' _ _ (late_step hI 1 _ hI.1 rfl)
          | 2, _ =>
            intro S v w1 f o ho hf hI hS hall K' Q' hK'
            obtain rfl := Option.some.inj ho
            have e28 : f.tmps[28]?.getD undef = .int .i64 (t : Int) := tmp_of ((hf 28).trans (hI.2 1 (by decide) (edge_listed hall 1 (by kernel_rfl))))
            simp [go_sem, e28]
            exact hK' _ _ (late_step hI 2 _ hI.1 (by rw [m2]; rfl))
          | 3, _ =>
            intro S v w1 f o ho hf hI hS hall K' Q' hK'
            obtain rfl := Option.some.inj ho
            have e29 : f.tmps[29]?.getD undef = .int .i64 ((t : Int) - 2) := tmp_of ((hf 29).trans (hI.2 2 (by decide) (edge_listed hall 2 (by kernel_rfl))))
            have e4 : f.tmps[4]?.getD undef = .pointer (some ⟨A, 0, none⟩) := tmp_of (hf 4)
            simp [go_sem, e29, e4, n2a, n2b]
            exact hK' _ _ (late_step hI 3 _ hI.1 (by rw [show ((t : Int) - 2).toNat = t - 2 by omega]; rfl))
          | 4, _ =>
            intro S v w1 f o ho hf hI hS hall K' Q' hK'
            obtain rfl := Option.some.inj ho
            have e30 : f.tmps[30]?.getD undef = .pointer (some ⟨A, t - 2, none⟩) := tmp_of ((hf 30).trans (hI.2 3 (by decide) (edge_listed hall 3 (by kernel_rfl))))
            have q := hI.1.cell q2
            simp [go_sem, e30, q]
            exact hK' _ _ (late_step hI 4 _ hI.1 rfl)
          | 5, _ =>
            intro S v w1 f o ho hf hI hS hall K' Q' hK'
            obtain rfl := Option.some.inj ho
            have e31 : f.tmps[31]?.getD undef = .int .u32 (wI x1) := tmp_of ((hf 31).trans (hI.2 4 (by decide) (edge_listed hall 4 (by kernel_rfl))))
            simp [go_sem, e31]
            refine (part_any x1 17 19 10 (by decide) (by decide) (by decide) (by decide) (by decide) (by decide) _).mono ?_
            rintro e w2 ⟨rfl, rfl⟩
            exact hK' _ _ (late_step hI 5 _ hI.1.drew rfl)
          | 6, _ =>
            intro S v w1 f o ho hf hI hS hall K' Q' hK'
            obtain rfl := Option.some.inj ho
            have e5 : f.tmps[5]?.getD undef = .int .i64 (t : Int) := tmp_of (hf 5)
            simp [go_sem, e5]
            exact hK' _ _ (late_step hI 6 _ hI.1 rfl)
          | 7, _ =>
            intro S v w1 f o ho hf hI hS hall K' Q' hK'
            obtain rfl := Option.some.inj ho
            have e33 : f.tmps[33]?.getD undef = .int .i64 (t : Int) := tmp_of ((hf 33).trans (hI.2 6 (by decide) (edge_listed hall 6 (by kernel_rfl))))
            simp [go_sem, e33]
            exact hK' _ _ (late_step hI 7 _ hI.1 (by rw [m7]; rfl))
          | 8, _ =>
            intro S v w1 f o ho hf hI hS hall K' Q' hK'
            obtain rfl := Option.some.inj ho
            have e34 : f.tmps[34]?.getD undef = .int .i64 ((t : Int) - 7) := tmp_of ((hf 34).trans (hI.2 7 (by decide) (edge_listed hall 7 (by kernel_rfl))))
            have e4 : f.tmps[4]?.getD undef = .pointer (some ⟨A, 0, none⟩) := tmp_of (hf 4)
            simp [go_sem, e34, e4, n7a, n7b]
            exact hK' _ _ (late_step hI 8 _ hI.1 (by rw [show ((t : Int) - 7).toNat = t - 7 by omega]; rfl))
          | 9, _ =>
            intro S v w1 f o ho hf hI hS hall K' Q' hK'
            obtain rfl := Option.some.inj ho
            have e35 : f.tmps[35]?.getD undef = .pointer (some ⟨A, t - 7, none⟩) := tmp_of ((hf 35).trans (hI.2 8 (by decide) (edge_listed hall 8 (by kernel_rfl))))
            have q := hI.1.cell q7
            simp [go_sem, e35, q]
            exact hK' _ _ (late_step hI 9 _ hI.1 rfl)
          | 10, _ =>
            intro S v w1 f o ho hf hI hS hall K' Q' hK'
            obtain rfl := Option.some.inj ho
            have e32 : f.tmps[32]?.getD undef = .int .u32 (wI (parts x1 17 19 10)) := tmp_of ((hf 32).trans (hI.2 5 (by decide) (edge_listed hall 5 (by kernel_rfl))))
            have e36 : f.tmps[36]?.getD undef = .int .u32 (wI x6) := tmp_of ((hf 36).trans (hI.2 9 (by decide) (edge_listed hall 9 (by kernel_rfl))))
            simp [go_sem, e32, e36]
            exact hK' _ _ (late_step hI 10 _ hI.1 rfl)
          | 11, _ =>
            intro S v w1 f o ho hf hI hS hall K' Q' hK'
            obtain rfl := Option.some.inj ho
            have e5 : f.tmps[5]?.getD undef = .int .i64 (t : Int) := tmp_of (hf 5)
            simp [go_sem, e5]
            exact hK' _ _ (late_step hI 11 _ hI.1 rfl)
          | 12, _ =>
            intro S v w1 f o ho hf hI hS hall K' Q' hK'
            obtain rfl := Option.some.inj ho
            have e38 : f.tmps[38]?.getD undef = .int .i64 (t : Int) := tmp_of ((hf 38).trans (hI.2 11 (by decide) (edge_listed hall 11 (by kernel_rfl))))
            simp [go_sem, e38]
            exact hK' _ _ (late_step hI 12 _ hI.1 (by rw [m15]; rfl))
          | 13, _ =>
            intro S v w1 f o ho hf hI hS hall K' Q' hK'
            obtain rfl := Option.some.inj ho
            have e39 : f.tmps[39]?.getD undef = .int .i64 ((t : Int) - 15) := tmp_of ((hf 39).trans (hI.2 12 (by decide) (edge_listed hall 12 (by kernel_rfl))))
            have e4 : f.tmps[4]?.getD undef = .pointer (some ⟨A, 0, none⟩) := tmp_of (hf 4)
            simp [go_sem, e39, e4, n15a, n15b]
            exact hK' _ _ (late_step hI 13 _ hI.1 (by rw [show ((t : Int) - 15).toNat = t - 15 by omega]; rfl))
          | 14, _ =>
            intro S v w1 f o ho hf hI hS hall K' Q' hK'
            obtain rfl := Option.some.inj ho
            have e40 : f.tmps[40]?.getD undef = .pointer (some ⟨A, t - 15, none⟩) := tmp_of ((hf 40).trans (hI.2 13 (by decide) (edge_listed hall 13 (by kernel_rfl))))
            have q := hI.1.cell q15
            simp [go_sem, e40, q]
            exact hK' _ _ (late_step hI 14 _ hI.1 rfl)
          | 15, _ =>
            intro S v w1 f o ho hf hI hS hall K' Q' hK'
            obtain rfl := Option.some.inj ho
            have e41 : f.tmps[41]?.getD undef = .int .u32 (wI x14) := tmp_of ((hf 41).trans (hI.2 14 (by decide) (edge_listed hall 14 (by kernel_rfl))))
            simp [go_sem, e41]
            refine (part_any x14 7 18 3 (by decide) (by decide) (by decide) (by decide) (by decide) (by decide) _).mono ?_
            rintro e w2 ⟨rfl, rfl⟩
            exact hK' _ _ (late_step hI 15 _ hI.1.drew rfl)
          | 16, _ =>
            intro S v w1 f o ho hf hI hS hall K' Q' hK'
            obtain rfl := Option.some.inj ho
            have e37 : f.tmps[37]?.getD undef = .int .u32 (wI (parts x1 17 19 10 + x6)) := tmp_of ((hf 37).trans (hI.2 10 (by decide) (edge_listed hall 10 (by kernel_rfl))))
            have e42 : f.tmps[42]?.getD undef = .int .u32 (wI (parts x14 7 18 3)) := tmp_of ((hf 42).trans (hI.2 15 (by decide) (edge_listed hall 15 (by kernel_rfl))))
            simp [go_sem, e37, e42]
            exact hK' _ _ (late_step hI 16 _ hI.1 rfl)
          | 17, _ =>
            intro S v w1 f o ho hf hI hS hall K' Q' hK'
            obtain rfl := Option.some.inj ho
            have e5 : f.tmps[5]?.getD undef = .int .i64 (t : Int) := tmp_of (hf 5)
            simp [go_sem, e5]
            exact hK' _ _ (late_step hI 17 _ hI.1 rfl)
          | 18, _ =>
            intro S v w1 f o ho hf hI hS hall K' Q' hK'
            obtain rfl := Option.some.inj ho
            have e44 : f.tmps[44]?.getD undef = .int .i64 (t : Int) := tmp_of ((hf 44).trans (hI.2 17 (by decide) (edge_listed hall 17 (by kernel_rfl))))
            simp [go_sem, e44]
            exact hK' _ _ (late_step hI 18 _ hI.1 (by rw [m16]; rfl))
          | 19, _ =>
            intro S v w1 f o ho hf hI hS hall K' Q' hK'
            obtain rfl := Option.some.inj ho
            have e45 : f.tmps[45]?.getD undef = .int .i64 ((t : Int) - 16) := tmp_of ((hf 45).trans (hI.2 18 (by decide) (edge_listed hall 18 (by kernel_rfl))))
            have e4 : f.tmps[4]?.getD undef = .pointer (some ⟨A, 0, none⟩) := tmp_of (hf 4)
            simp [go_sem, e45, e4, n16a, n16b]
            exact hK' _ _ (late_step hI 19 _ hI.1 (by rw [show ((t : Int) - 16).toNat = t - 16 by omega]; rfl))
          | 20, _ =>
            intro S v w1 f o ho hf hI hS hall K' Q' hK'
            obtain rfl := Option.some.inj ho
            have e46 : f.tmps[46]?.getD undef = .pointer (some ⟨A, t - 16, none⟩) := tmp_of ((hf 46).trans (hI.2 19 (by decide) (edge_listed hall 19 (by kernel_rfl))))
            have q := hI.1.cell q16
            simp [go_sem, e46, q]
            exact hK' _ _ (late_step hI 20 _ hI.1 rfl)
          | 21, _ =>
            intro S v w1 f o ho hf hI hS hall K' Q' hK'
            obtain rfl := Option.some.inj ho
            have e43 : f.tmps[43]?.getD undef = .int .u32 (wI ((parts x1 17 19 10 + x6) + parts x14 7 18 3)) := tmp_of ((hf 43).trans (hI.2 16 (by decide) (edge_listed hall 16 (by kernel_rfl))))
            have e47 : f.tmps[47]?.getD undef = .int .u32 (wI x15) := tmp_of ((hf 47).trans (hI.2 20 (by decide) (edge_listed hall 20 (by kernel_rfl))))
            simp [go_sem, e43, e47]
            exact hK' _ _ (late_step hI 21 _ hI.1 rfl)
          | 22, _ =>
            intro S v w1 f o ho hf hI hS hall K' Q' hK'
            obtain rfl := Option.some.inj ho
            have e27 : f.tmps[27]?.getD undef = .int .i64 (t : Int) := tmp_of ((hf 27).trans (hI.2 0 (by decide) (edge_listed hall 0 (by kernel_rfl))))
            have e4 : f.tmps[4]?.getD undef = .pointer (some ⟨A, 0, none⟩) := tmp_of (hf 4)
            simp [go_sem, e27, e4, ht0, htI]
            exact hK' _ _ (late_step hI 22 _ hI.1 rfl)
          | i + 23, hi => exact absurd hi (by omega)
        · intro S v wh hS hI
          have e21 : v 21 = .int .u32 (wI (parts x1 17 19 10 + x6 + parts x14 7 18 3 + x15)) := hI.2 21 (by decide) (hS 21 (by decide))
          have e22 : v 22 = .pointer (some ⟨A, t, none⟩) := hI.2 22 (by decide) (hS 22 (by decide))
          obtain ⟨hC1, hC2⟩ := hI.1
          have gh : wh.heap[A]? = some (.cells (ww (arr bs.data.toList t)) 80 (0, 0)) := by rw [hC1]; exact hg
          have Gh : Below A w wh := below_grown hG hC2 (by omega) (by intro k e; cases e)
          have Zh : A < wh.heap.size := by rw [hC1]; exact hz
          simp only [putSlots, Act.put, List.setIfInBounds_toArray, List.set_cons_succ, List.set_cons_zero, List.drop_succ_cons, List.drop_zero, e21, e22]
          clear hI hS e21 e22 hC1 hC2 q2 q7 q15 q16 hg hG hz
          refine zstore rfl rfl _ _ _ rfl sizeU32 A t (.int .u32 (wI (parts x1 17 19 10 + x6 + parts x14 7 18 3 + x15))) rfl rfl rfl rfl _ _ gh (by rw [ww_size, arr_length _ _ ht]; exact hlt) ?_
          intro v1 g1 w1g
          rw [ww_set] at g1
          have G1 := below_grown Gh w1g (by omega) (by intro k e; cases e; exact Nat.le_refl _)
          have Z1 : A < v1.heap.size := Nat.lt_of_lt_of_le Zh w1g.size
          clear gh Gh Zh w1g
          go_wp2
          go_roundg (64 - (t + 1))
          case measure => omega
          case rel => exact ⟨t + 1, by omega, rfl, by simp, by rw [HAR.out]; exact g1, G1, Z1⟩
    · obtain rfl : t = 64 := by omega
      clear hlt ht
      obtain ⟨M, hM⟩ : ∃ M, M = arr bs.data.toList 64 := ⟨_, rfl⟩
      have hMl : M.length = 64 := by rw [hM]; exact arr_length _ _ (by omega)
      rw [← hM] at hg
      have HM := hide hM
      clear hM
      have s0 : wr.cell? ⟨hb, 0, none⟩ = some (.int .u32 (wI s.a)) := (hG.cell (p := ⟨hb, 0, none⟩) hbA).trans (zcell hh rfl)
      have s1 : wr.cell? ⟨hb, 1, none⟩ = some (.int .u32 (wI s.b)) := (hG.cell (p := ⟨hb, 1, none⟩) hbA).trans (zcell hh rfl)
      have s2 : wr.cell? ⟨hb, 2, none⟩ = some (.int .u32 (wI s.c)) := (hG.cell (p := ⟨hb, 2, none⟩) hbA).trans (zcell hh rfl)
      have s3 : wr.cell? ⟨hb, 3, none⟩ = some (.int .u32 (wI s.d)) := (hG.cell (p := ⟨hb, 3, none⟩) hbA).trans (zcell hh rfl)
      have s4 : wr.cell? ⟨hb, 4, none⟩ = some (.int .u32 (wI s.e)) := (hG.cell (p := ⟨hb, 4, none⟩) hbA).trans (zcell hh rfl)
      have s5 : wr.cell? ⟨hb, 5, none⟩ = some (.int .u32 (wI s.f)) := (hG.cell (p := ⟨hb, 5, none⟩) hbA).trans (zcell hh rfl)
      have s6 : wr.cell? ⟨hb, 6, none⟩ = some (.int .u32 (wI s.g)) := (hG.cell (p := ⟨hb, 6, none⟩) hbA).trans (zcell hh rfl)
      have s7 : wr.cell? ⟨hb, 7, none⟩ = some (.int .u32 (wI s.h)) := (hG.cell (p := ⟨hb, 7, none⟩) hbA).trans (zcell hh rfl)
      go_upto_region 12 with (fail)
      go_quiet (fail)
      clear s0 s1 s2 s3 s4 s5 s6 s7
      have hkr : (wr.drewN nq).rangeAt 1 0 (K.map wv) := fun j v hv => by
        have := HK.out j v hv
        exact (hG.cell (p := ⟨1, 0 + j, none⟩) (by show 1 < A; omega)).trans this
      go_upto_region 13 with (fail)
      go_wp2_with ((with_reducible show wpList _ _ _ (⟨some 106, Op.load _ _, _, _, _, _⟩ :: _) _ _); refine Hid.out ?_)
      refine hide ?_
      refine wpList_load_mid rfl 80 _ rfl 1 0 rfl (K.map wv) _ hkr Tryd.underlying80 rfl (by rw [List.length_map, hK]; kernel_rfl) ?_
      rw [show (K.map wv).toArray = ww K from rfl]
      obtain ⟨wa, hwa⟩ : ∃ wa, wa = wr.drewN nq := ⟨_, rfl⟩
      have ga : wa.heap[A]? = some (.cells (ww M) 80 (0, 0)) := by rw [hwa]; exact hg
      have Ga : Below A w wa := by rw [hwa]; exact ⟨hG.os, hG.tape, hG.output, hG.size, hG.block⟩
      have Za : A < wa.heap.size := by rw [hwa]; exact hz
      rw [← hwa]
      clear hg hG hz hkr hwa
      go_wp2_with fail
      go_loopg [8, 9, 10, 11, 12, 13, 14, 15, 107] 64 (fun g v8 v9 v10 v11 v12 v13 v14 v15 i wi => ∃ (t : Nat) (x : S8), t ≤ 64 ∧ g = 64 - t ∧ x = rounds8 K M s t ∧ i = .int .i64 t ∧ v8 = .int .u32 (wI x.a) ∧ v9 = .int .u32 (wI x.b) ∧ v10 = .int .u32 (wI x.c) ∧ v11 = .int .u32 (wI x.d) ∧ v12 = .int .u32 (wI x.e) ∧ v13 = .int .u32 (wI x.f) ∧ v14 = .int .u32 (wI x.g) ∧ v15 = .int .u32 (wI x.h) ∧
        wi.heap[A]? = some (.cells (ww M) 80 (0, 0)) ∧ Below A w wi ∧ A < wi.heap.size)
      case atStart => exact ⟨0, s, by omega, rfl, rfl, rfl, rfl, rfl, rfl, rfl, rfl, rfl, rfl, rfl, ga, Ga, Za⟩
      case round =>
        obtain ⟨t, x, ht, rfl, hx, rfl, rfl, rfl, rfl, rfl, rfl, rfl, rfl, rfl, hg, hG, hz⟩ := hrel
        have HX := hide hx
        clear ga Ga Za hx
        by_cases hlt : t < 64
        · have ht0 : (0 : Int) ≤ (t : Int) := by omega
          have htI : (t : Int) < 64 := by omega
          have hidx := index_ww Tryd.underlying80 K hK t hlt
          have qm : wr.cell? ⟨A, t, none⟩ = some (.int .u32 (wI (M.getD t 0))) := zcell hg (by rw [ww_at, List.getElem?_eq_getElem (by omega), List.getD_eq_getElem?_getD, List.getElem?_eq_getElem (by omega)]; rfl)
          obtain ⟨kt, hkt⟩ : ∃ kt, kt = K.getD t 0 := ⟨_, rfl⟩
          obtain ⟨mt, hmt⟩ : ∃ mt, mt = M.getD t 0 := ⟨_, rfl⟩
          rw [← hmt] at qm
          rw [← hkt] at hidx
          have HKM := hide (And.intro hkt hmt)
          clear hkt hmt
          go_upto_region 16 with (fail)
          clear hidx
          refine zquiet (C := fun w' => w' = wr.drew) (by kernel_rfl) (by kernel_rfl) rfl ?_
          iterate 2 (go_big_quiet_want; go_big_quiet_op; first | go_big_quiet_on | (refine ⟨_, fun _ _ => rfl, ?_⟩; go_big_quiet_on))
          go_big_quiet_want; go_big_quiet_op; refine ⟨.int .u32 (wI (rights x.e 6 11 25)), (right_any x.e 6 11 25 (by decide) (by decide) (by decide) (by decide) (by decide) (by decide) _).mono fun e w' ⟨he, hw⟩ => ⟨he, hw.symm⟩, ?_⟩
          go_big_quiet_on
          iterate 16 (go_big_quiet_want; go_big_quiet_op; first | go_big_quiet_on | (refine ⟨_, fun _ _ => rfl, ?_⟩; go_big_quiet_on))
          refine wpQuiet_nil ?_
          intro w5 hw5
          subst hw5
          clear qm
          go_wp2_with fail
          refine (right_any x.a 2 13 22 (by decide) (by decide) (by decide) (by decide) (by decide) (by decide) _).mono ?_
          rintro e w6 ⟨rfl, rfl⟩
          have gd := hg
          clear hg
          have HR : rounds8 K M s (t + 1) = rnd x kt mt := by rw [rounds8, ← HX.out, ← HKM.out.1, ← HKM.out.2]
          have HRH := hide HR
          clear HR
          go_wp2
          go_roundg (64 - (t + 1))
          case measure => omega
          case rel => exact ⟨t + 1, rnd x kt mt, by omega, rfl, HRH.out.symm, by simp, rfl, rfl, rfl, rfl, rfl, rfl, rfl, rfl, gd, hG.drew, hz⟩
        · obtain rfl : t = 64 := by omega
          clear hlt ht
          have HXE : Hid (x = rounds8 K M s 64) := HX
          have hh2 : wr.heap[hb]? = some (.cells ((upto s x 0).map wv ++ tail).toArray T (0, 0)) := by rw [upto_zero]; exact (hG.block hb hbA).trans hh
          have hG2 : w.grownBy wr (some hb) := by
            refine ⟨hG.os, hG.tape, hG.output, Nat.le_trans (by rw [← HA.out]; exact Nat.le_refl _) (Nat.le_of_lt hz), fun k hk _ => hG.block k (by rw [HA.out]; exact hk)⟩
          clear hg
          go_upto_region 20 with (fail)
          go_wp2_with fail
          rw [show Value.agg #[.int .u32 (wI x.a), .int .u32 (wI x.b), .int .u32 (wI x.c), .int .u32 (wI x.d), .int .u32 (wI x.e), .int .u32 (wI x.f), .int .u32 (wI x.g), .int .u32 (wI x.h)] = .agg (ww x.list) from rfl]
          go_loopg [163] 8 (fun g i wi => ∃ t : Nat, t ≤ 8 ∧ g = 8 - t ∧ i = .int .i64 t ∧ wi.heap[hb]? = some (.cells ((upto s x t).map wv ++ tail).toArray T (0, 0)) ∧ w.grownBy wi (some hb))
          case atStart => exact ⟨0, by omega, rfl, rfl, hh2, hG2⟩
          case round =>
            obtain ⟨t, ht, rfl, rfl, hg, hG⟩ := hrel
            clear hh2 hG2 hz
            by_cases hlt : t < 8
            · have ht0 : (0 : Int) ≤ (t : Int) := by omega
              have htI : (t : Int) < 8 := by omega
              have hidx := index_ww Tryd.underlying59 x.list rfl t hlt
              have qs : wr.cell? ⟨hb, t, none⟩ = some (.int .u32 (wI (s.list.getD t 0))) := zcell hg (by
                have := upto_at s x t hlt
                simp only [List.getElem?_toArray]
                rw [List.getElem?_append_left (by rw [List.length_map, upto_length s x t ht]; exact hlt), List.getElem?_map, this]
                rfl)
              have HUP := hide (upto_set s x t hlt)
              generalize s.list.getD t 0 = st at qs HUP
              generalize x.list.getD t 0 = xt at hidx HUP
              go_upto_region 23 with (fail)
              clear hidx
              refine ztail 9 (by kernel_rfl) (by kernel_rfl) ?_
              simp only [List.take_succ_cons, List.take_zero, List.drop_succ_cons, List.drop_zero]
              iterate 9 (go_big_quiet_want; go_big_quiet_op; first | go_big_quiet_on | (refine ⟨_, fun _ _ => rfl, ?_⟩; go_big_quiet_on))
              refine wpQuiet_nil ?_
              refine zstore rfl rfl _ _ _ rfl sizeU32 hb t (.int .u32 (wI (st + xt))) rfl rfl rfl rfl _ _ (w := wr.drew) hg (by simp only [List.size_toArray, List.length_append, List.length_map, upto_length s x t ht]; omega) ?_
              intro v1 g1 w1g
              rw [row_set _ _ _ (by rw [upto_length s x t ht]; exact hlt), HUP.out] at g1
              have G1 : w.grownBy v1 (some hb) := ⟨w1g.os.trans hG.os, w1g.tape.trans hG.tape, w1g.output.trans hG.output, Nat.le_trans hG.size w1g.size, fun k hk hne => (w1g.block k (Nat.lt_of_lt_of_le hk hG.size) hne).trans (hG.block k hk hne)⟩
              clear hg hG qs w1g
              go_wp2
              go_roundg (8 - (t + 1))
              case measure => omega
              case rel => exact ⟨t + 1, by omega, rfl, by simp, g1, G1⟩
            · obtain rfl : t = 8 := by omega
              go_wp2
              refine bodyPost_end (results_none rfl _ _ _) rfl ?_
              refine ⟨rfl, ?_, hG⟩
              rw [upto_eight] at hg
              rw [hg, comp, ← HM.out, ← HXE.out]
end Go.Proofs.YtpkgmoiffegbfaaDoor
