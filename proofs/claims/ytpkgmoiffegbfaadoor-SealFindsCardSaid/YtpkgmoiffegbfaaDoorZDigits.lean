/- A digest's hexadecimal digits: the walk; the chapter's examples. No condition but what the variables hold. -/
import Derived.Test.YtpkgmoiffegbfaaDoorZEval
namespace Go.Proofs.YtpkgmoiffegbfaaDoor
open Go.RowKit Go.BigFrame
set_option maxRecDepth 100000

def hexd (n : Nat) : UInt8 := if n < 10 then UInt8.ofNat (48 + n) else UInt8.ofNat (87 + n)
/-- The digits of bytes. -/
def hexOf (l : List UInt8) : List UInt8 := l.flatMap fun b => [hexd (b.toNat / 16), hexd (b.toNat % 16)]

/-- What the slots hold while two digits are made. -/
def dgR (N : Nat) (a : Option Addr) (c db j b : Nat) : Nat → Value → World → Prop
  | 0, u, _ => u = .slice a (2 * j) c
  | 1, u, _ => u = .int .i64 (j : Int)
  | 2, u, _ => u = .pointer (some ⟨db, j, none⟩)
  | 3, u, _ => u = .int .u8 (b : Int)
  | 4, u, _ => u = .int .u8 ((b / 16 : Nat) : Int)
  | 5, u, _ => u = .int .u8 ((hexd (b / 16)).toNat : Int)
  | 6, u, _ => u = .int .i64 (j : Int)
  | 7, u, _ => u = .pointer (some ⟨db, j, none⟩)
  | 8, u, _ => u = .int .u8 (b : Int)
  | 9, u, _ => u = .int .u8 ((b % 16 : Nat) : Int)
  | 10, u, _ => u = .int .u8 ((hexd (b % 16)).toNat : Int)
  | _, u, w => ∃ kb : Nat, u = .slice (some ⟨kb, 0, none⟩) 2 2 ∧ N ≤ kb ∧ w.heap[kb]? = some (.cells #[.int .u8 ((hexd (b / 16)).toNat : Int), .int .u8 ((hexd (b % 16)).toNat : Int)] 5 (0, 0))
theorem dgR_mono {N : Nat} {a : Option Addr} {c db j b k : Nat} {u : Value} {w1 w2 : World} (h : dgR N a c db j b k u w1) (hb : Below w1.heap.size w1 w2) : dgR N a c db j b k u w2 := by
  match k, h with
  | 0, h | 1, h | 2, h | 3, h | 4, h | 5, h | 6, h | 7, h | 8, h | 9, h | 10, h => exact h
  | k + 11, h =>
    obtain ⟨kb, h1, h2, h3⟩ := h
    exact ⟨kb, h1, h2, below_at hb h3 (zlt h3)⟩
theorem idx_hex (n : Nat) (h : n < 16) (w : World) : (Instr.index 9 (.string { data := #[48, 49, 50, 51, 52, 53, 54, 55, 56, 57, 97, 98, 99, 100, 101, 102] }) (.int .u8 (n : Int))).run Tryd.prog w = .ok (.int .u8 ((hexd n).toNat : Int)) w := by
  match n, h with
  | 0, _ => first | rfl | kernel_rfl
  | 1, _ => first | rfl | kernel_rfl
  | 2, _ => first | rfl | kernel_rfl
  | 3, _ => first | rfl | kernel_rfl
  | 4, _ => first | rfl | kernel_rfl
  | 5, _ => first | rfl | kernel_rfl
  | 6, _ => first | rfl | kernel_rfl
  | 7, _ => first | rfl | kernel_rfl
  | 8, _ => first | rfl | kernel_rfl
  | 9, _ => first | rfl | kernel_rfl
  | 10, _ => first | rfl | kernel_rfl
  | 11, _ => first | rfl | kernel_rfl
  | 12, _ => first | rfl | kernel_rfl
  | 13, _ => first | rfl | kernel_rfl
  | 14, _ => first | rfl | kernel_rfl
  | 15, _ => first | rfl | kernel_rfl
  | n + 16, h => exact absurd h (by omega)

theorem hexOf_length (l : List UInt8) : (hexOf l).length = 2 * l.length := by
  induction l with
  | nil => rfl
  | cons b l ih => rw [hexOf, List.flatMap_cons, List.length_append]; have : (l.flatMap fun b => [hexd (b.toNat / 16), hexd (b.toNat % 16)]).length = 2 * l.length := ih; rw [this]; simp; omega
theorem hexOf_snoc (l : List UInt8) (j : Nat) (h : j < l.length) : hexOf (l.take (j + 1)) = hexOf (l.take j) ++ [hexd ((l[j]).toNat / 16), hexd ((l[j]).toNat % 16)] := by
  rw [List.take_succ_eq_append_getElem h, hexOf, List.flatMap_append]
  rfl

set_option maxHeartbeats 4000000 in
theorem digits_any (l : List UInt8) (hl : l.length = 32) (w : World) :
    Calls Tryd.prog 20 #[.agg (dg l)] w fun e w' => e = .returned (.string ⟨(hexOf l).toArray⟩) ∧ Below w.heap.size w w' := by
  have HL := hide hl
  clear hl
  go_enter Tryd.func20, Tryd.ntmps20
  go_wp2_with fail
  obtain ⟨db, hdb⟩ : ∃ db, db = w.heap.size := ⟨_, rfl⟩
  have hg2 := new_at w (.cells (dg l) 28)
  have hB2 : Below db w (w.alloc (.cells (dg l) 28)) := by rw [hdb]; exact (Below.refl _ _).alloc (Nat.le_refl _) _
  have hz2 := World.size_alloc w (.cells (dg l) 28)
  rw [← hdb] at hg2 hz2 ⊢
  generalize w.alloc (.cells (dg l) 28) = w2 at hg2 hB2 hz2 ⊢
  have HDB := hide hdb
  clear hdb
  go_loopg [3, 4] 32 (fun g v i wi => ∃ (j : Nat) (a : Option Addr) (c : Nat), j ≤ 32 ∧ g = 32 - j ∧ i = .int .i64 j ∧ v = .slice a (2 * j) c ∧ OwnB wi (db + 1) v (hexOf (l.take j)) ∧ wi.heap[db]? = some (.cells (dg l) 28 (0, 0)) ∧ Below db w wi ∧ db + 1 ≤ wi.heap.size)
  case atStart => exact ⟨0, none, 0, by omega, rfl, rfl, rfl, OwnB.nil _ _, hg2, hB2, by omega⟩
  case round =>
    obtain ⟨j, a, c, hj, rfl, rfl, rfl, hO, hd, hB, hz⟩ := hrel
    clear hg2 hB2 hz2
    by_cases hlt : j < 32
    · have hj0 : (0 : Int) ≤ (j : Int) := by omega
      have hjI : (j : Int) < 32 := by omega
      have hjl : j < l.length := by rw [HL.out]; exact hlt
      obtain ⟨b, hbE⟩ : ∃ b, b = (l[j]).toNat := ⟨_, rfl⟩
      have hbB : b < 256 := by rw [hbE]; exact (l[j]).toNat_lt
      have hc : wr.cell? ⟨db, j, none⟩ = some (.int .u8 (b : Int)) := zcell hd (by rw [hbE]; simp [dg, Lib.byteCells, hjl])
      go_upto_region 5 with (fail)
      have hq0 : ((b : Int) / 16) = ((b / 16 : Nat) : Int) := by simp
      have hq3 : ((b : Int) % 16) = ((b % 16 : Nat) : Int) := by simp
      refine region_slots 12 [9, 10, 11, 12, 13, 14, 15, 16, 17, 18, 19, 20] (by kernel_rfl) (by kernel_rfl) (by decide) rfl 24 rfl (by decide) (by kernel_rfl)
        (fun S v w1 => wr.grownBy w1 none ∧ ∀ k, k < 12 → S k = true → dgR wr.heap.size a c db j b k (v k) w1) ?_ ?_ ?_
      · intro v
        exact ⟨⟨rfl, rfl, rfl, Nat.le_refl _, fun _ _ _ => rfl⟩, fun _ _ h => by cases h⟩
      · have hbI : (b : Int) < 256 := by omega
        intro i hi
        match i, hi with
        | 0, _ =>
          intro S v w1 f o ho hf hI hS hall K' Q' hK'
          obtain rfl := Option.some.inj ho
          have e3 : f.tmps[3]?.getD undef = .slice a (2 * j) c := tmp_of (hf 3)
          simp [go_sem, e3]
          exact hK' _ _ (SlotInv.step (n := 12) (C := fun _ w1 => wr.grownBy w1 none) (R := dgR wr.heap.size a c db j b) hI 0 _ hI.1 (fun _ _ _ h => h) rfl)
        | 1, _ =>
          intro S v w1 f o ho hf hI hS hall K' Q' hK'
          obtain rfl := Option.some.inj ho
          have e4 : f.tmps[4]?.getD undef = .int .i64 (j : Int) := tmp_of (hf 4)
          simp [go_sem, e4]
          exact hK' _ _ (SlotInv.step (n := 12) (C := fun _ w1 => wr.grownBy w1 none) (R := dgR wr.heap.size a c db j b) hI 1 _ hI.1 (fun _ _ _ h => h) rfl)
        | 2, _ =>
          intro S v w1 f o ho hf hI hS hall K' Q' hK'
          obtain rfl := Option.some.inj ho
          have e1 : f.tmps[1]?.getD undef = .pointer (some ⟨db, 0, none⟩) := tmp_of (hf 1)
          have e10 : f.tmps[10]?.getD undef = .int .i64 (j : Int) := tmp_of ((hf 10).trans (hI.2 1 (by decide) (edge_listed hall 1 (by kernel_rfl))))
          simp [go_sem, e1, e10, hj0, hjI]
          exact hK' _ _ (SlotInv.step (n := 12) (C := fun _ w1 => wr.grownBy w1 none) (R := dgR wr.heap.size a c db j b) hI 2 _ hI.1 (fun _ _ _ h => h) rfl)
        | 3, _ =>
          intro S v w1 f o ho hf hI hS hall K' Q' hK'
          obtain rfl := Option.some.inj ho
          have e11 : f.tmps[11]?.getD undef = .pointer (some ⟨db, j, none⟩) := tmp_of ((hf 11).trans (hI.2 2 (by decide) (edge_listed hall 2 (by kernel_rfl))))
          have q := hI.1.cell (v := .int .u8 (b : Int)) (a := ⟨db, j, none⟩) hc (by simp)
          simp [go_sem, e11, q]
          exact hK' _ _ (SlotInv.step (n := 12) (C := fun _ w1 => wr.grownBy w1 none) (R := dgR wr.heap.size a c db j b) hI 3 _ hI.1 (fun _ _ _ h => h) rfl)
        | 4, _ =>
          intro S v w1 f o ho hf hI hS hall K' Q' hK'
          obtain rfl := Option.some.inj ho
          have e12 : f.tmps[12]?.getD undef = .int .u8 (b : Int) := tmp_of ((hf 12).trans (hI.2 3 (by decide) (edge_listed hall 3 (by kernel_rfl))))
          simp [go_sem, e12]
          exact hK' _ _ (SlotInv.step (n := 12) (C := fun _ w1 => wr.grownBy w1 none) (R := dgR wr.heap.size a c db j b) hI 4 _ hI.1 (fun _ _ _ h => h) (by rw [hq0, show IntKind.u8.wrap ((b / 16 : Nat) : Int) = ((b / 16 : Nat) : Int) by simp [IntKind.wrap, IntKind.bits, IntKind.signed]; omega]; rfl))
        | 5, _ =>
          intro S v w1 f o ho hf hI hS hall K' Q' hK'
          obtain rfl := Option.some.inj ho
          have e13 : f.tmps[13]?.getD undef = .int .u8 ((b / 16 : Nat) : Int) := tmp_of ((hf 13).trans (hI.2 4 (by decide) (edge_listed hall 4 (by kernel_rfl))))
          have q := idx_hex (b / 16) (by omega)
          rw [← hq0] at e13 q
          simp [go_sem, e13, q]
          exact hK' _ _ (SlotInv.step (n := 12) (C := fun _ w1 => wr.grownBy w1 none) (R := dgR wr.heap.size a c db j b) hI 5 _ hI.1 (fun _ _ _ h => h) rfl)
        | 6, _ =>
          intro S v w1 f o ho hf hI hS hall K' Q' hK'
          obtain rfl := Option.some.inj ho
          have e4 : f.tmps[4]?.getD undef = .int .i64 (j : Int) := tmp_of (hf 4)
          simp [go_sem, e4]
          exact hK' _ _ (SlotInv.step (n := 12) (C := fun _ w1 => wr.grownBy w1 none) (R := dgR wr.heap.size a c db j b) hI 6 _ hI.1 (fun _ _ _ h => h) rfl)
        | 7, _ =>
          intro S v w1 f o ho hf hI hS hall K' Q' hK'
          obtain rfl := Option.some.inj ho
          have e1 : f.tmps[1]?.getD undef = .pointer (some ⟨db, 0, none⟩) := tmp_of (hf 1)
          have e15 : f.tmps[15]?.getD undef = .int .i64 (j : Int) := tmp_of ((hf 15).trans (hI.2 6 (by decide) (edge_listed hall 6 (by kernel_rfl))))
          simp [go_sem, e1, e15, hj0, hjI]
          exact hK' _ _ (SlotInv.step (n := 12) (C := fun _ w1 => wr.grownBy w1 none) (R := dgR wr.heap.size a c db j b) hI 7 _ hI.1 (fun _ _ _ h => h) rfl)
        | 8, _ =>
          intro S v w1 f o ho hf hI hS hall K' Q' hK'
          obtain rfl := Option.some.inj ho
          have e16 : f.tmps[16]?.getD undef = .pointer (some ⟨db, j, none⟩) := tmp_of ((hf 16).trans (hI.2 7 (by decide) (edge_listed hall 7 (by kernel_rfl))))
          have q := hI.1.cell (v := .int .u8 (b : Int)) (a := ⟨db, j, none⟩) hc (by simp)
          simp [go_sem, e16, q]
          exact hK' _ _ (SlotInv.step (n := 12) (C := fun _ w1 => wr.grownBy w1 none) (R := dgR wr.heap.size a c db j b) hI 8 _ hI.1 (fun _ _ _ h => h) rfl)
        | 9, _ =>
          intro S v w1 f o ho hf hI hS hall K' Q' hK'
          obtain rfl := Option.some.inj ho
          have e17 : f.tmps[17]?.getD undef = .int .u8 (b : Int) := tmp_of ((hf 17).trans (hI.2 8 (by decide) (edge_listed hall 8 (by kernel_rfl))))
          simp [go_sem, e17]
          exact hK' _ _ (SlotInv.step (n := 12) (C := fun _ w1 => wr.grownBy w1 none) (R := dgR wr.heap.size a c db j b) hI 9 _ hI.1 (fun _ _ _ h => h) (by rw [Int.tmod_eq_emod_of_nonneg (by omega), hq3]; rfl))
        | 10, _ =>
          intro S v w1 f o ho hf hI hS hall K' Q' hK'
          obtain rfl := Option.some.inj ho
          have e18 : f.tmps[18]?.getD undef = .int .u8 ((b % 16 : Nat) : Int) := tmp_of ((hf 18).trans (hI.2 9 (by decide) (edge_listed hall 9 (by kernel_rfl))))
          have q := idx_hex (b % 16) (by omega)
          rw [← hq3] at e18 q
          simp [go_sem, e18, q]
          exact hK' _ _ (SlotInv.step (n := 12) (C := fun _ w1 => wr.grownBy w1 none) (R := dgR wr.heap.size a c db j b) hI 10 _ hI.1 (fun _ _ _ h => h) rfl)
        | 11, _ =>
          intro S v w1 f o ho hf hI hS hall K' Q' hK'
          obtain rfl := Option.some.inj ho
          have e14 : f.tmps[14]?.getD undef = .int .u8 ((hexd (b / 16)).toNat : Int) := tmp_of ((hf 14).trans (hI.2 5 (by decide) (edge_listed hall 5 (by kernel_rfl))))
          have e19 : f.tmps[19]?.getD undef = .int .u8 ((hexd (b % 16)).toNat : Int) := tmp_of ((hf 19).trans (hI.2 10 (by decide) (edge_listed hall 10 (by kernel_rfl))))
          have hbn : Below w1.heap.size w1 (w1.alloc (.cells #[.int .u8 ((hexd (b / 16)).toNat : Int), .int .u8 ((hexd (b % 16)).toNat : Int)] 5)) := (Below.refl _ _).alloc (Nat.le_refl _) _
          have hga := World.grownBy_alloc w1 (.cells #[.int .u8 ((hexd (b / 16)).toNat : Int), .int .u8 ((hexd (b % 16)).toNat : Int)] 5) none
          obtain ⟨x1, hx1⟩ : ∃ x1, x1 = (hexd (b / 16)).toNat := ⟨_, rfl⟩
          obtain ⟨x2, hx2⟩ : ∃ x2, x2 = (hexd (b % 16)).toNat := ⟨_, rfl⟩
          rw [← hx1] at e14
          rw [← hx2] at e19
          rw [← hx1, ← hx2] at hbn hga
          simp [go_sem, e14, e19]
          exact hK' _ _ (SlotInv.step (n := 12) (C := fun _ w1 => wr.grownBy w1 none) (R := dgR wr.heap.size a c db j b) hI 11 _ ⟨hga.os.trans hI.1.os, hga.tape.trans hI.1.tape, hga.output.trans hI.1.output, Nat.le_trans hI.1.size hga.size, fun k hk _ => (hga.block k (Nat.lt_of_lt_of_le hk hI.1.size) (by simp)).trans (hI.1.block k hk (by simp))⟩ (fun _ _ _ h => dgR_mono h hbn) ⟨w1.heap.size, rfl, hI.1.size, by rw [← hx1, ← hx2]; exact new_at w1 _⟩)
        | i + 12, hi => exact absurd hi (by omega)
      · intro S v wh hS hI
        have e9 : v 0 = .slice a (2 * j) c := hI.2 0 (by decide) (hS 0 (by decide))
        obtain ⟨kb, e20, hkN, hkb⟩ := hI.2 11 (by decide) (hS 11 (by decide))
        have hgw := hI.1
        simp only [putSlots, Act.put, List.setIfInBounds_toArray, List.set_cons_succ, List.set_cons_zero, List.drop_succ_cons, List.drop_zero, e9, e20]
        clear hI hS
        refine zapp rfl _ _ rfl _ rfl kb 2 2 rfl [hexd (b / 16), hexd (b % 16)] rfl (fun i u hu => zcell hkb (by simpa [Lib.byteCells] using hu)) (db + 1) (hexOf (l.take j)) (hO.grown hgw (by intro k e; cases e)) (by rw [hexOf_length, List.length_take]; omega) (by omega) (Nat.le_trans hz hgw.size) ?_
        intro v' w' hO' hg'
        have hlo : ∀ k, (Value.slice a (2 * j) c).ownBlock = some k → db + 1 ≤ k := fun k e => (World.ownsRow.lt hO k e).1
        have hd' := (hg'.block db (Nat.lt_of_lt_of_le (zlt hd) hgw.size) (fun e => by have := hlo db e.symm; omega)).trans ((hgw.block db (zlt hd) (by simp)).trans hd)
        have hB1 : Below db w wh := below_grown hB hgw (by omega) (by intro k e; cases e)
        have hB' : Below db w w' := below_grown hB1 hg' (by have := hgw.size; omega) (by intro k e; have := hlo k e; omega)
        have hz' : db + 1 ≤ w'.heap.size := Nat.le_trans (Nat.le_trans hz hgw.size) hg'.size
        rw [show hexOf (l.take j) ++ [hexd (b / 16), hexd (b % 16)] = hexOf (l.take (j + 1)) by rw [hbE]; exact (hexOf_snoc l j hjl).symm] at hO'
        obtain ⟨a', c', rfl⟩ := hO'.slice
        rw [show (hexOf (l.take (j + 1))).length = 2 * (j + 1) by rw [hexOf_length, List.length_take]; omega] at hO' ⊢
        clear hO hd hB hz hkb hgw hg' hlo hB1 e9 e20
        go_wp2
        go_roundg (32 - (j + 1))
        case measure => omega
        case rel => exact ⟨j + 1, a', c', by omega, rfl, by simp, rfl, hO', hd', hB', hz'⟩
    · obtain rfl : j = 32 := by omega
      have htk : l.take 32 = l := List.take_of_length_le (by rw [HL.out]; exact Nat.le_refl _)
      rw [htk] at hO
      have hne : hexOf l ≠ [] := by intro e; have h1 := hexOf_length l; rw [e, HL.out] at h1; simp at h1
      clear htk hlt hj
      go_wp2_with ((with_reducible show wpList _ _ _ (⟨some 23, _, _, _, _, _⟩ :: _) _ _); refine Hid.out ?_)
      refine hide ?_
      refine zstring rfl _ _ _ rfl Tryd.underlying22 Tryd.underlying9 _ rfl (db + 1) (hexOf l) hO hne ?_
      go_wp2
      go_ret
      exact ⟨rfl, HDB.out ▸ hB⟩
end Go.Proofs.YtpkgmoiffegbfaaDoor
