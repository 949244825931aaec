/- Layer 1: NumTells, of all numbers: the walk. No condition but that the numbers are of 64 and 8 bits. -/
import Derived.Test.YtgbbediopjkkeaaNRound
import Derived.Deep.RegionHeld3
import Derived.Deep.DrawnRows
import Derived.Deep.CutRange
import Derived.Test.YtgbbediopjkkeaaSlots
namespace Go.Proofs.Ytgbbediopjkkeaa
open Go.RowKit Go.BigFrame Go.Shelf
set_option maxRecDepth 100000
attribute [local go_sem ↓] Go.wp_at_zero Go.wp_at_succ

theorem ends_at (r : Nat) (h : r < 4) (g : r < [Value.int .i64 0, Value.int .i64 4294967296, Value.int .i64 (-9223372036854775808), Value.int .i64 9223372036854775807].length) : ∃ e : Int, [Value.int .i64 0, Value.int .i64 4294967296, Value.int .i64 (-9223372036854775808), Value.int .i64 9223372036854775807][r] = .int .i64 e := by
  match r, h with
  | 0, _ => exact ⟨_, rfl⟩
  | 1, _ => exact ⟨_, rfl⟩
  | 2, _ => exact ⟨_, rfl⟩
  | 3, _ => exact ⟨_, rfl⟩
theorem wrap64_in (z : Int) : -9223372036854775808 ≤ wrap64 z ∧ wrap64 z ≤ 9223372036854775807 := by unfold wrap64; omega

/-- What the slots of a round's first region hold. -/
def roundR (N B : Nat) (x0 x1 : Int) (s : Bool) (lo hi : Int) (t : Bool) (lo' hi' : Int) : Nat → Value → World → Prop
  | 0, u, _ => u = .pointer (some ⟨B, 0, none⟩)
  | 1, u, _ => u = .int .i64 x0
  | 2, u, _ => u = .agg #[.bool s, .int .u64 lo, .int .u64 hi, .int .u64 0, .int .u64 0]
  | 3, u, _ => u = .pointer (some ⟨B, 1, none⟩)
  | 4, u, _ => u = .int .i64 x1
  | 5, u, _ => u = .agg #[.bool t, .int .u64 lo', .int .u64 hi', .int .u64 0, .int .u64 0]
  | _, u, w => ∃ b : Nat, N ≤ b ∧ b ≠ B ∧ u = .pointer (some ⟨b, 0, none⟩) ∧ w.heap[b]? = some (.cells #[.bool false, .int .u64 0, .int .u64 0, .int .u64 0, .int .u64 0] 37 (0, 0))

theorem lt_of_heap {w : World} {b : Nat} {o : Obj} (h : w.heap[b]? = some o) : b < w.heap.size := by
  rcases Nat.lt_or_ge b w.heap.size with h' | h'
  · exact h'
  · rw [Array.getElem?_eq_none h'] at h; cases h
theorem alloc_at {w : World} {b : Nat} {o : Obj} (o' : Obj) (h : w.heap[b]? = some o) : (w.alloc o').heap[b]? = some o := by
  have hb : Below w.heap.size w (w.alloc o') := (Below.refl _ _).alloc (Nat.le_refl _) _
  exact (hb.block _ (lt_of_heap h)).trans h
theorem new_ne {w : World} {b : Nat} (h : b < w.heap.size) : Value.pointer (some ⟨w.heap.size, 0, none⟩) ≠ Value.pointer (some ⟨b, 0, none⟩) := by
  intro h'; injection h' with h'; injection h' with h'; injection h' with h'; omega
theorem round_on {B b12 b13 : Nat} {w0 w w' : World} {x y z : Obj} (hx : w.heap[B]? = some x) (hy : w.heap[b12]? = some y) (hz : w.heap[b13]? = some z) (hB : Below w0.heap.size w0 w) (hb : Below w.heap.size w w') :
    w'.heap[B]? = some x ∧ w'.heap[b12]? = some y ∧ w'.heap[b13]? = some z ∧ Below w0.heap.size w0 w' :=
  ⟨(hb.block _ (lt_of_heap hx)).trans hx, (hb.block _ (lt_of_heap hy)).trans hy, (hb.block _ (lt_of_heap hz)).trans hz, hB.trans (hb.mono hB.size)⟩
theorem roundR_mono {N B : Nat} {x0 x1 : Int} {s : Bool} {lo hi : Int} {t : Bool} {lo' hi' : Int} {j : Nat} {u : Value} {w1 w2 : World} (h : roundR N B x0 x1 s lo hi t lo' hi' j u w1) (hb : Below w1.heap.size w1 w2) : roundR N B x0 x1 s lo hi t lo' hi' j u w2 := by
  match j, h with
  | 0, h => exact h
  | 1, h => exact h
  | 2, h => exact h
  | 3, h => exact h
  | 4, h => exact h
  | 5, h => exact h
  | j + 6, h =>
  obtain ⟨b, h1, h2, h3, h4⟩ := h
  exact ⟨b, h1, h2, h3, (hb.block _ (lt_of_heap h4)).trans h4⟩

/-- What the slots of a round's second drawn region hold. -/
def roundS (s : Bool) (lo hi : Int) (t : Bool) (lo' hi' : Int) (vS : Value) (c2 : Int) (b2 : Bool) : Nat → Value
  | 0 => .agg #[.bool s, .int .u64 lo, .int .u64 hi, .int .u64 0, .int .u64 0]
  | 1 => .agg #[.bool t, .int .u64 lo', .int .u64 hi', .int .u64 0, .int .u64 0]
  | 2 => .agg #[.bool (!t), .int .u64 lo', .int .u64 hi', .int .u64 0, .int .u64 0]
  | 3 => vS
  | 4 => .tuple #[.int .i64 c2, .bool b2]
  | 5 => .tuple #[.int .i64 c2, .bool b2]
  | 6 => .int .i64 c2
  | 7 => .bool b2
  | _ => .int .i64 c2

set_option maxHeartbeats 4000000 in
theorem tells_any (a b : Int) (m n : Nat) (w : World) (ha : -9223372036854775808 ≤ a ∧ a ≤ 9223372036854775807) (hb : -9223372036854775808 ≤ b ∧ b ≤ 9223372036854775807) (hm : m < 256) (hn : n < 256) :
    Calls Try.prog 5 #[.int .i64 a, .int .i64 b, .agg #[.int .u8 (m : Int), .int .u8 (n : Int)]] w fun e w' => e = .returned (.bool true) ∧ Below w.heap.size w w' := by
  obtain ⟨r, hr⟩ : ∃ r : Nat, (m : Int) % 4 = (r : Int) := ⟨m % 4, by omega⟩
  obtain ⟨q, hq⟩ : ∃ q : Nat, (n : Int) % 4 = (q : Int) := ⟨n % 4, by omega⟩
  have hr4 : r < 4 := by omega
  have hq4 : q < 4 := by omega
  obtain ⟨e1, he1⟩ := ends_at r hr4 (by simpa using hr4)
  obtain ⟨e2, he2⟩ := ends_at q hq4 (by simpa using hq4)
  go_enter Try.func5, Try.ntmps5
  go_wp2
  refine region_tail 11 (by kernel_rfl) (by kernel_rfl) ?_
  simp only [List.take_succ_cons, List.take_zero, List.drop_succ_cons, List.drop_zero]
  iterate 11 (first | go_big_quiet_skip | (go_big_quiet_want; go_big_quiet_op; go_big_quiet_on))
  refine wpQuiet_nil ?_
  go_wp2
  refine region_tail 11 (by kernel_rfl) (by kernel_rfl) ?_
  simp only [List.take_succ_cons, List.take_zero, List.drop_succ_cons, List.drop_zero]
  iterate 11 (first | go_big_quiet_skip | (go_big_quiet_want; go_big_quiet_op; go_big_quiet_on))
  refine wpQuiet_nil ?_
  go_wp2
  have hc := wrap64_in (wrap64 (e1 + ↑m / 4) - 31)
  have hd := wrap64_in (wrap64 (e2 - ↑n / 4) + 31)
  generalize wrap64 (wrap64 (e1 + ↑m / 4) - 31) = c at hc ⊢
  generalize wrap64 (wrap64 (e2 - ↑n / 4) + 31) = d at hd ⊢
  have hB0 : Below w.heap.size w ((w.alloc (.cells #[.int .u8 (m : Int), .int .u8 (n : Int)] 31)).alloc (.cells #[.int .i64 0, .int .i64 4294967296, .int .i64 (-9223372036854775808), .int .i64 9223372036854775807] 32)).drew.drew := ((((Below.refl _ w).alloc (Nat.le_refl _) _).alloc (by simp) _).drew).drew
  clear hr hq
  go_loopg [59] 3 (fun g i wr => ∃ k : Nat, k ≤ 3 ∧ g = 3 - k ∧ i = .int .i64 k ∧ Below w.heap.size w wr)
  case atStart => exact ⟨0, by omega, rfl, rfl, hB0⟩
  case round =>
    obtain ⟨k, hk, rfl, rfl, hnx⟩ := hrel
    by_cases hlt : k < 3
    · obtain ⟨x0, x1, hx0, hx1, hix⟩ : ∃ x0 x1 : Int, (-9223372036854775808 ≤ x0 ∧ x0 ≤ 9223372036854775807) ∧ (-9223372036854775808 ≤ x1 ∧ x1 ≤ 9223372036854775807) ∧
          ∀ w, (Instr.index 33 (.agg #[.int .i64 a, .int .i64 b, .int .i64 c, .int .i64 d, .int .i64 a, .int .i64 d]) (.int .i64 (k : Int))).run Try.prog w = .ok (.agg #[.int .i64 x0, .int .i64 x1]) w := by
        match k, hlt with
        | 0, _ => exact ⟨a, b, ha, hb, fun _ => by kernel_rfl⟩
        | 1, _ => exact ⟨c, d, hc, hd, fun _ => by kernel_rfl⟩
        | 2, _ => exact ⟨a, d, ha, hd, fun _ => by kernel_rfl⟩
      obtain ⟨s, t, lo, hi, lo', hi', vA, vS, vM, c1, c2, c3, b1, b2, b3, f1, f2, f3, f4, f5, f6, f7, f8, f9, f10, f11, f12⟩ := round_facts x0 x1 hx0 hx1
      have F1 := Lib.hid f1; have F2 := Lib.hid f2
      have F3 := Lib.hid f3; have F4 := Lib.hid f4; have F5 := Lib.hid f5; have F6 := Lib.hid f6; have F7 := Lib.hid f7; have F8 := Lib.hid f8; have F9 := Lib.hid f9; have F10 := Lib.hid f10; have F11 := Lib.hid f11; have F12 := Lib.hid f12
      clear f1 f2 f3 f4 f5 f6 f7 f8 f9 f10 f11 f12
      go_upto_region 7 with (fail)
      have hsz := World.size_alloc wr (.cells #[.int .i64 x0, .int .i64 x1] 28)
      obtain ⟨w7, hw7⟩ : ∃ w7, wr.alloc (.cells #[.int .i64 x0, .int .i64 x1] 28) = w7 := ⟨_, rfl⟩
      have hbox : w7.heap[wr.heap.size]? = some (.cells #[.int .i64 x0, .int .i64 x1] 28 (0, 0)) := by rw [← hw7]; exact World.alloc_heap_new wr _
      rw [hw7] at hsz ⊢
      have hB7 : Below w.heap.size w w7 := by rw [← hw7]; exact hnx.alloc hnx.size _
      generalize wr.heap.size = B at hbox hsz ⊢
      clear hw7 hnx
      go_cut [12, 13, 59] from 59 to 142 (fun p q i wc => ∃ b12 b13 : Nat, p = .pointer (some ⟨b12, 0, none⟩) ∧ q = .pointer (some ⟨b13, 0, none⟩) ∧ i = .int .i64 (k : Int) ∧ wc.heap[B]? = some (.cells #[.int .i64 x0, .int .i64 x1] 28 (0, 0)) ∧
        wc.heap[b12]? = some (.cells #[.bool s, .int .u64 lo, .int .u64 hi, .int .u64 0, .int .u64 0] 37 (0, 0)) ∧ wc.heap[b13]? = some (.cells #[.bool t, .int .u64 lo', .int .u64 hi', .int .u64 0, .int .u64 0] 37 (0, 0)) ∧ Below w.heap.size w wc)
      case first =>
        have hc0 : w7.cell? ⟨B, 0, none⟩ = some (.int .i64 x0) := cellAt hbox rfl
        have hc1 : w7.cell? ⟨B, 1, none⟩ = some (.int .i64 x1) := cellAt hbox rfl
        refine region_slots 8 [62, 63, 64, 65, 66, 67, 12, 13] (by kernel_rfl) (by kernel_rfl) (by decide) rfl 144 rfl (by decide) (by kernel_rfl)
          (BoxInv 8 (fun _ w' => w'.heap[B]? = some (.cells #[.int .i64 x0, .int .i64 x1] 28 (0, 0)) ∧ Below w.heap.size w w') (roundR w.heap.size B x0 x1 s lo hi t lo' hi') 6 7) ?_ ?_ ?_
        · exact BoxInv.start ⟨hbox, hB7.drew⟩
        · intro i hi8
          match i, hi8 with
          | 0, _ =>
            intro L v w1 f o ho hf hI hL hall K Q' hK
            obtain rfl := Option.some.inj ho
            have e11 : f.tmps[11]?.getD undef = .pointer (some ⟨B, 0, none⟩) := tmp_of (hf 11)
            simp [go_sem, e11]
            exact hK _ _ (hI.step 0 _ (by decide) (by decide) (by decide) hI.1 (fun _ _ _ h => h) rfl (fun h => by cases h) (fun h => by cases h))
          | 1, _ =>
            intro L v w1 f o ho hf hI hL hall K Q' hK
            obtain rfl := Option.some.inj ho
            have h0 := hI.2.1 0 (by decide) (edge_listed hall 0 (by kernel_rfl))
            have e0 : f.tmps[62]?.getD undef = .pointer (some ⟨B, 0, none⟩) := tmp_of ((hf 62).trans h0)
            have hc0 : w1.cell? ⟨B, 0, none⟩ = some (.int .i64 x0) := cellAt hI.1.1 rfl
            simp [go_sem, e0, hc0]
            exact hK _ _ (hI.step 1 _ (by decide) (by decide) (by decide) hI.1 (fun _ _ _ h => h) rfl (fun h => by cases h) (fun h => by cases h))
          | 2, _ =>
            intro L v w1 f o ho hf hI hL hall K Q' hK
            obtain rfl := Option.some.inj ho
            have h1 := hI.2.1 1 (by decide) (edge_listed hall 1 (by kernel_rfl))
            have e1 : f.tmps[63]?.getD undef = .int .i64 x0 := tmp_of ((hf 63).trans h1)
            simp [go_sem, e1]
            refine (F1.out w1).mono ?_
            rintro e w2 ⟨rfl, hb2⟩
            exact hK _ _ (hI.step 2 _ (by decide) (by decide) (by decide) ⟨(hb2.block _ (lt_of_heap hI.1.1)).trans hI.1.1, below_in hI.1.2 hb2⟩ (fun j _ x h => roundR_mono h hb2) rfl (fun h => by cases h) (fun h => by cases h))
          | 3, _ =>
            intro L v w1 f o ho hf hI hL hall K Q' hK
            obtain rfl := Option.some.inj ho
            have e11 : f.tmps[11]?.getD undef = .pointer (some ⟨B, 0, none⟩) := tmp_of (hf 11)
            simp [go_sem, e11]
            exact hK _ _ (hI.step 3 _ (by decide) (by decide) (by decide) hI.1 (fun _ _ _ h => h) rfl (fun h => by cases h) (fun h => by cases h))
          | 4, _ =>
            intro L v w1 f o ho hf hI hL hall K Q' hK
            obtain rfl := Option.some.inj ho
            have h3 := hI.2.1 3 (by decide) (edge_listed hall 3 (by kernel_rfl))
            have e3 : f.tmps[65]?.getD undef = .pointer (some ⟨B, 1, none⟩) := tmp_of ((hf 65).trans h3)
            have hc0 : w1.cell? ⟨B, 1, none⟩ = some (.int .i64 x1) := cellAt hI.1.1 rfl
            simp [go_sem, e3, hc0]
            exact hK _ _ (hI.step 4 _ (by decide) (by decide) (by decide) hI.1 (fun _ _ _ h => h) rfl (fun h => by cases h) (fun h => by cases h))
          | 5, _ =>
            intro L v w1 f o ho hf hI hL hall K Q' hK
            obtain rfl := Option.some.inj ho
            have h4 := hI.2.1 4 (by decide) (edge_listed hall 4 (by kernel_rfl))
            have e4 : f.tmps[66]?.getD undef = .int .i64 x1 := tmp_of ((hf 66).trans h4)
            simp [go_sem, e4]
            refine (F2.out w1).mono ?_
            rintro e w2 ⟨rfl, hb2⟩
            exact hK _ _ (hI.step 5 _ (by decide) (by decide) (by decide) ⟨(hb2.block _ (lt_of_heap hI.1.1)).trans hI.1.1, below_in hI.1.2 hb2⟩ (fun j _ x h => roundR_mono h hb2) rfl (fun h => by cases h) (fun h => by cases h))
          | 6, _ =>
            intro L v w1 f o ho hf hI hL hall K Q' hK
            obtain rfl := Option.some.inj ho
            simp [go_sem]
            refine hK _ _ (hI.step 6 _ (by decide) (by decide) (by decide) ⟨alloc_at _ hI.1.1, hI.1.2.alloc hI.1.2.size _⟩ (fun j _ x h => roundR_mono h ((Below.refl _ _).alloc (Nat.le_refl _) _)) ⟨w1.heap.size, hI.1.2.size, Nat.ne_of_gt (lt_of_heap hI.1.1), rfl, World.alloc_heap_new w1 _⟩ ?_ ?_)
            · rintro _ x ⟨b, _, _, rfl, h⟩; exact new_ne (lt_of_heap h)
            · intro h; cases h
          | 7, _ =>
            intro L v w1 f o ho hf hI hL hall K Q' hK
            obtain rfl := Option.some.inj ho
            simp [go_sem]
            refine hK _ _ (hI.step 7 _ (by decide) (by decide) (by decide) ⟨alloc_at _ hI.1.1, hI.1.2.alloc hI.1.2.size _⟩ (fun j _ x h => roundR_mono h ((Below.refl _ _).alloc (Nat.le_refl _) _)) ⟨w1.heap.size, hI.1.2.size, Nat.ne_of_gt (lt_of_heap hI.1.1), rfl, World.alloc_heap_new w1 _⟩ ?_ ?_)
            · intro h; cases h
            · rintro _ x ⟨b, _, _, rfl, h⟩; exact (new_ne (lt_of_heap h)).symm
        · intro L v w1 hL hI
          have e0 : v 0 = .pointer (some ⟨B, 0, none⟩) := hI.2.1 0 (by decide) (hL 0 (by decide))
          have e1' : v 1 = .int .i64 x0 := hI.2.1 1 (by decide) (hL 1 (by decide))
          have e2' : v 2 = .agg #[.bool s, .int .u64 lo, .int .u64 hi, .int .u64 0, .int .u64 0] := hI.2.1 2 (by decide) (hL 2 (by decide))
          have e3 : v 3 = .pointer (some ⟨B, 1, none⟩) := hI.2.1 3 (by decide) (hL 3 (by decide))
          have e4 : v 4 = .int .i64 x1 := hI.2.1 4 (by decide) (hL 4 (by decide))
          have e5 : v 5 = .agg #[.bool t, .int .u64 lo', .int .u64 hi', .int .u64 0, .int .u64 0] := hI.2.1 5 (by decide) (hL 5 (by decide))
          obtain ⟨b12, hN12, hB12, e6, hh6⟩ := hI.2.1 6 (by decide) (hL 6 (by decide))
          obtain ⟨b13, hN13, hB13, e7, hh7⟩ := hI.2.1 7 (by decide) (hL 7 (by decide))
          have hne := hI.2.2 (hL 6 (by decide)) (hL 7 (by decide))
          have hbox1 := hI.1.1
          have hBw1 := hI.1.2
          rw [e6, e7] at hne
          have hne' : b12 ≠ b13 := fun h => hne (by rw [h])
          simp only [putSlots, Act.put, List.setIfInBounds_toArray, List.set_cons_succ, List.set_cons_zero, List.drop_succ_cons, List.drop_zero, e0, e1', e2', e3, e4, e5, e6, e7]
          clear hI hL e0 e1' e2' e3 e4 e5 e6 e7 hne
          refine wpList_store_whole rfl rfl _ _ _ rfl b12 #[.bool s, .int .u64 lo, .int .u64 hi, .int .u64 0, .int .u64 0] _ _ rfl rfl hh6 (by kernel_rfl) rfl (by simp [Value.oneCell']) ?_
          intro w2 hs12 hso hsz2 hbl
          have hh7' := (hso _ (Ne.symm hne')).trans hh7
          have hbox2 := (hso _ (Ne.symm hB12)).trans hbox1
          have hBw2 := hbl _ _ hN12 hBw1
          clear hbl hso hh6 hh7 hbox1 hBw1
          refine wpList_store_whole rfl rfl _ _ _ rfl b13 #[.bool t, .int .u64 lo', .int .u64 hi', .int .u64 0, .int .u64 0] _ _ rfl rfl hh7' (by kernel_rfl) rfl (by simp [Value.oneCell']) ?_
          intro w3 hs13 hso hsz3 hbl
          have hs12' := (hso _ hne').trans hs12
          have hbox3 := (hso _ (Ne.symm hB13)).trans hbox2
          have hBw3 := hbl _ _ hN13 hBw2
          clear hbl hso hs12 hh7' hbox2 hBw2
          go_wp2
          go_meet
          case rel => exact ⟨b12, b13, rfl, rfl, rfl, hbox3, hs12', hs13, hBw3⟩
      case rest =>
        obtain ⟨b12, b13, rfl, rfl, rfl, hbx, h12, h13, hBc⟩ := hcut
        have hx0c : wc.cell? ⟨B, 0, none⟩ = some (.int .i64 x0) := cellAt hbx rfl
        have hx1c : wc.cell? ⟨B, 1, none⟩ = some (.int .i64 x1) := cellAt hbx rfl
        go_wp2_with fail
        refine (F3.out _).mono ?_
        rintro e wd ⟨rfl, hbd⟩
        clear hx0c hx1c
        obtain ⟨hbx, h12, h13, hBc⟩ := round_on hbx h12 h13 hBc hbd
        clear hbd
        have hp0c : wd.cell? ⟨b12, 0, none⟩ = some (.bool s) := cellAt h12 rfl
        have hq0c : wd.cell? ⟨b13, 0, none⟩ = some (.bool t) := cellAt h13 rfl
        have hp1c : wd.cell? ⟨b12, 1, none⟩ = some (.int .u64 lo) := cellAt h12 rfl
        have hq1c : wd.cell? ⟨b13, 1, none⟩ = some (.int .u64 lo') := cellAt h13 rfl
        have hp2c : wd.cell? ⟨b12, 2, none⟩ = some (.int .u64 hi) := cellAt h12 rfl
        have hq2c : wd.cell? ⟨b13, 2, none⟩ = some (.int .u64 hi') := cellAt h13 rfl
        have hp3c : wd.cell? ⟨b12, 3, none⟩ = some (.int .u64 0) := cellAt h12 rfl
        have hq3c : wd.cell? ⟨b13, 3, none⟩ = some (.int .u64 0) := cellAt h13 rfl
        have hp4c : wd.cell? ⟨b12, 4, none⟩ = some (.int .u64 0) := cellAt h12 rfl
        have hq4c : wd.cell? ⟨b13, 4, none⟩ = some (.int .u64 0) := cellAt h13 rfl
        go_wp2_with fail
        refine (F4.out _).mono ?_
        rintro e we ⟨rfl, hbd⟩
        clear hp0c hq0c hp1c hq1c hp2c hq2c hp3c hq3c hp4c hq4c
        obtain ⟨hbx, h12, h13, hBc⟩ := round_on hbx h12 h13 hBc hbd
        clear hbd
        go_wp2_with fail
        refine (F5.out _).mono ?_
        rintro e wf ⟨rfl, hbd⟩
        obtain ⟨hbx, h12, h13, hBc⟩ := round_on hbx h12 h13 hBc hbd
        clear hbd
        have hx0c : wf.cell? ⟨B, 0, none⟩ = some (.int .i64 x0) := cellAt hbx rfl
        have hx1c : wf.cell? ⟨B, 1, none⟩ = some (.int .i64 x1) := cellAt hbx rfl
        go_wp2_with fail
        refine (F6.out _).mono ?_
        rintro e wg ⟨rfl, hbd⟩
        clear hx0c hx1c
        obtain ⟨hbx, h12, h13, hBc⟩ := round_on hbx h12 h13 hBc hbd
        clear hbd
        go_wp2_with fail
        refine region_slots 9 [92, 93, 94, 95, 96, 91, 97, 98, 20] (by kernel_rfl) (by kernel_rfl) (by decide) rfl 144 rfl (by decide) (by kernel_rfl)
          (fun L v w' => (w'.heap[B]? = some (.cells #[.int .i64 x0, .int .i64 x1] 28 (0, 0)) ∧ w'.heap[b12]? = some (.cells #[.bool s, .int .u64 lo, .int .u64 hi, .int .u64 0, .int .u64 0] 37 (0, 0)) ∧ w'.heap[b13]? = some (.cells #[.bool t, .int .u64 lo', .int .u64 hi', .int .u64 0, .int .u64 0] 37 (0, 0)) ∧ Below w.heap.size w w') ∧
            ∀ j, j < 9 → L j = true → v j = roundS s lo hi t lo' hi' vS c2 b2 j) ?_ ?_ ?_
        · exact fun v => ⟨⟨hbx, h12, h13, hBc.drew⟩, fun _ _ h => Bool.noConfusion h⟩
        · intro i hi8
          match i, hi8 with
          | 0, _ =>
            intro L v w1 f o ho hf hI hL hall K Q' hK
            obtain rfl := Option.some.inj ho
            have ep : f.tmps[12]?.getD undef = .pointer (some ⟨b12, 0, none⟩) := tmp_of (hf 12)
            have hc0 : w1.cell? ⟨b12, 0, none⟩ = some (.bool s) := cellAt hI.1.2.1 rfl
            have hc1 : w1.cell? ⟨b12, 1, none⟩ = some (.int .u64 lo) := cellAt hI.1.2.1 rfl
            have hc2 : w1.cell? ⟨b12, 2, none⟩ = some (.int .u64 hi) := cellAt hI.1.2.1 rfl
            have hc3 : w1.cell? ⟨b12, 3, none⟩ = some (.int .u64 0) := cellAt hI.1.2.1 rfl
            have hc4 : w1.cell? ⟨b12, 4, none⟩ = some (.int .u64 0) := cellAt hI.1.2.1 rfl
            simp [go_sem, ep, hc0, hc1, hc2, hc3, hc4]
            exact hK _ _ (SlotInv.step (C := fun _ w' => w'.heap[B]? = some (.cells #[.int .i64 x0, .int .i64 x1] 28 (0, 0)) ∧ w'.heap[b12]? = some (.cells #[.bool s, .int .u64 lo, .int .u64 hi, .int .u64 0, .int .u64 0] 37 (0, 0)) ∧ w'.heap[b13]? = some (.cells #[.bool t, .int .u64 lo', .int .u64 hi', .int .u64 0, .int .u64 0] 37 (0, 0)) ∧ Below w.heap.size w w') (R := fun j x _ => x = roundS s lo hi t lo' hi' vS c2 b2 j) hI 0 _ hI.1 (fun _ _ _ h => h) rfl)
          | 1, _ =>
            intro L v w1 f o ho hf hI hL hall K Q' hK
            obtain rfl := Option.some.inj ho
            have ep : f.tmps[13]?.getD undef = .pointer (some ⟨b13, 0, none⟩) := tmp_of (hf 13)
            have hc0 : w1.cell? ⟨b13, 0, none⟩ = some (.bool t) := cellAt hI.1.2.2.1 rfl
            have hc1 : w1.cell? ⟨b13, 1, none⟩ = some (.int .u64 lo') := cellAt hI.1.2.2.1 rfl
            have hc2 : w1.cell? ⟨b13, 2, none⟩ = some (.int .u64 hi') := cellAt hI.1.2.2.1 rfl
            have hc3 : w1.cell? ⟨b13, 3, none⟩ = some (.int .u64 0) := cellAt hI.1.2.2.1 rfl
            have hc4 : w1.cell? ⟨b13, 4, none⟩ = some (.int .u64 0) := cellAt hI.1.2.2.1 rfl
            simp [go_sem, ep, hc0, hc1, hc2, hc3, hc4]
            exact hK _ _ (SlotInv.step (C := fun _ w' => w'.heap[B]? = some (.cells #[.int .i64 x0, .int .i64 x1] 28 (0, 0)) ∧ w'.heap[b12]? = some (.cells #[.bool s, .int .u64 lo, .int .u64 hi, .int .u64 0, .int .u64 0] 37 (0, 0)) ∧ w'.heap[b13]? = some (.cells #[.bool t, .int .u64 lo', .int .u64 hi', .int .u64 0, .int .u64 0] 37 (0, 0)) ∧ Below w.heap.size w w') (R := fun j x _ => x = roundS s lo hi t lo' hi' vS c2 b2 j) hI 1 _ hI.1 (fun _ _ _ h => h) rfl)
          | 2, _ =>
            intro L v w1 f o ho hf hI hL hall K Q' hK
            obtain rfl := Option.some.inj ho
            have e1 : f.tmps[93]?.getD undef = .agg #[.bool t, .int .u64 lo', .int .u64 hi', .int .u64 0, .int .u64 0] := tmp_of ((hf 93).trans (hI.2 1 (by decide) (edge_listed hall 1 (by kernel_rfl))))
            simp [go_sem, e1]
            refine (F7.out w1).mono ?_
            rintro e w2 ⟨rfl, hb2⟩
            exact hK _ _ (SlotInv.step (C := fun _ w' => w'.heap[B]? = some (.cells #[.int .i64 x0, .int .i64 x1] 28 (0, 0)) ∧ w'.heap[b12]? = some (.cells #[.bool s, .int .u64 lo, .int .u64 hi, .int .u64 0, .int .u64 0] 37 (0, 0)) ∧ w'.heap[b13]? = some (.cells #[.bool t, .int .u64 lo', .int .u64 hi', .int .u64 0, .int .u64 0] 37 (0, 0)) ∧ Below w.heap.size w w') (R := fun j x _ => x = roundS s lo hi t lo' hi' vS c2 b2 j) hI 2 _ (round_on hI.1.1 hI.1.2.1 hI.1.2.2.1 hI.1.2.2.2 hb2) (fun _ _ _ h => h) rfl)
          | 3, _ =>
            intro L v w1 f o ho hf hI hL hall K Q' hK
            obtain rfl := Option.some.inj ho
            have e0 : f.tmps[92]?.getD undef = .agg #[.bool s, .int .u64 lo, .int .u64 hi, .int .u64 0, .int .u64 0] := tmp_of ((hf 92).trans (hI.2 0 (by decide) (edge_listed hall 0 (by kernel_rfl))))
            have e2 : f.tmps[94]?.getD undef = .agg #[.bool (!t), .int .u64 lo', .int .u64 hi', .int .u64 0, .int .u64 0] := tmp_of ((hf 94).trans (hI.2 2 (by decide) (edge_listed hall 2 (by kernel_rfl))))
            simp [go_sem, e0, e2]
            refine (F8.out w1).mono ?_
            rintro e w2 ⟨rfl, hb2⟩
            exact hK _ _ (SlotInv.step (C := fun _ w' => w'.heap[B]? = some (.cells #[.int .i64 x0, .int .i64 x1] 28 (0, 0)) ∧ w'.heap[b12]? = some (.cells #[.bool s, .int .u64 lo, .int .u64 hi, .int .u64 0, .int .u64 0] 37 (0, 0)) ∧ w'.heap[b13]? = some (.cells #[.bool t, .int .u64 lo', .int .u64 hi', .int .u64 0, .int .u64 0] 37 (0, 0)) ∧ Below w.heap.size w w') (R := fun j x _ => x = roundS s lo hi t lo' hi' vS c2 b2 j) hI 3 _ (round_on hI.1.1 hI.1.2.1 hI.1.2.2.1 hI.1.2.2.2 hb2) (fun _ _ _ h => h) rfl)
          | 4, _ =>
            intro L v w1 f o ho hf hI hL hall K Q' hK
            obtain rfl := Option.some.inj ho
            have e3 : f.tmps[95]?.getD undef = vS := tmp_of ((hf 95).trans (hI.2 3 (by decide) (edge_listed hall 3 (by kernel_rfl))))
            simp [go_sem, e3]
            refine (F9.out w1).mono ?_
            rintro e w2 ⟨rfl, hb2⟩
            exact hK _ _ (SlotInv.step (C := fun _ w' => w'.heap[B]? = some (.cells #[.int .i64 x0, .int .i64 x1] 28 (0, 0)) ∧ w'.heap[b12]? = some (.cells #[.bool s, .int .u64 lo, .int .u64 hi, .int .u64 0, .int .u64 0] 37 (0, 0)) ∧ w'.heap[b13]? = some (.cells #[.bool t, .int .u64 lo', .int .u64 hi', .int .u64 0, .int .u64 0] 37 (0, 0)) ∧ Below w.heap.size w w') (R := fun j x _ => x = roundS s lo hi t lo' hi' vS c2 b2 j) hI 4 _ (round_on hI.1.1 hI.1.2.1 hI.1.2.2.1 hI.1.2.2.2 hb2) (fun _ _ _ h => h) rfl)
          | 5, _ =>
            intro L v w1 f o ho hf hI hL hall K Q' hK
            obtain rfl := Option.some.inj ho
            have e4 : f.tmps[96]?.getD undef = .tuple #[.int .i64 c2, .bool b2] := tmp_of ((hf 96).trans (hI.2 4 (by decide) (edge_listed hall 4 (by kernel_rfl))))
            simp [go_sem, e4]
            exact hK _ _ (SlotInv.step (C := fun _ w' => w'.heap[B]? = some (.cells #[.int .i64 x0, .int .i64 x1] 28 (0, 0)) ∧ w'.heap[b12]? = some (.cells #[.bool s, .int .u64 lo, .int .u64 hi, .int .u64 0, .int .u64 0] 37 (0, 0)) ∧ w'.heap[b13]? = some (.cells #[.bool t, .int .u64 lo', .int .u64 hi', .int .u64 0, .int .u64 0] 37 (0, 0)) ∧ Below w.heap.size w w') (R := fun j x _ => x = roundS s lo hi t lo' hi' vS c2 b2 j) hI 5 _ hI.1 (fun _ _ _ h => h) rfl)
          | 6, _ =>
            intro L v w1 f o ho hf hI hL hall K Q' hK
            obtain rfl := Option.some.inj ho
            have e5 : f.tmps[91]?.getD undef = .tuple #[.int .i64 c2, .bool b2] := tmp_of ((hf 91).trans (hI.2 5 (by decide) (edge_listed hall 5 (by kernel_rfl))))
            simp [go_sem, e5]
            exact hK _ _ (SlotInv.step (C := fun _ w' => w'.heap[B]? = some (.cells #[.int .i64 x0, .int .i64 x1] 28 (0, 0)) ∧ w'.heap[b12]? = some (.cells #[.bool s, .int .u64 lo, .int .u64 hi, .int .u64 0, .int .u64 0] 37 (0, 0)) ∧ w'.heap[b13]? = some (.cells #[.bool t, .int .u64 lo', .int .u64 hi', .int .u64 0, .int .u64 0] 37 (0, 0)) ∧ Below w.heap.size w w') (R := fun j x _ => x = roundS s lo hi t lo' hi' vS c2 b2 j) hI 6 _ hI.1 (fun _ _ _ h => h) rfl)
          | 7, _ =>
            intro L v w1 f o ho hf hI hL hall K Q' hK
            obtain rfl := Option.some.inj ho
            have e5 : f.tmps[91]?.getD undef = .tuple #[.int .i64 c2, .bool b2] := tmp_of ((hf 91).trans (hI.2 5 (by decide) (edge_listed hall 5 (by kernel_rfl))))
            simp [go_sem, e5]
            exact hK _ _ (SlotInv.step (C := fun _ w' => w'.heap[B]? = some (.cells #[.int .i64 x0, .int .i64 x1] 28 (0, 0)) ∧ w'.heap[b12]? = some (.cells #[.bool s, .int .u64 lo, .int .u64 hi, .int .u64 0, .int .u64 0] 37 (0, 0)) ∧ w'.heap[b13]? = some (.cells #[.bool t, .int .u64 lo', .int .u64 hi', .int .u64 0, .int .u64 0] 37 (0, 0)) ∧ Below w.heap.size w w') (R := fun j x _ => x = roundS s lo hi t lo' hi' vS c2 b2 j) hI 7 _ hI.1 (fun _ _ _ h => h) rfl)
          | 8, _ =>
            intro L v w1 f o ho hf hI hL hall K Q' hK
            obtain rfl := Option.some.inj ho
            have e6 : f.tmps[97]?.getD undef = .int .i64 c2 := tmp_of ((hf 97).trans (hI.2 6 (by decide) (edge_listed hall 6 (by kernel_rfl))))
            simp [go_sem, e6]
            exact hK _ _ (SlotInv.step (C := fun _ w' => w'.heap[B]? = some (.cells #[.int .i64 x0, .int .i64 x1] 28 (0, 0)) ∧ w'.heap[b12]? = some (.cells #[.bool s, .int .u64 lo, .int .u64 hi, .int .u64 0, .int .u64 0] 37 (0, 0)) ∧ w'.heap[b13]? = some (.cells #[.bool t, .int .u64 lo', .int .u64 hi', .int .u64 0, .int .u64 0] 37 (0, 0)) ∧ Below w.heap.size w w') (R := fun j x _ => x = roundS s lo hi t lo' hi' vS c2 b2 j) hI 8 _ hI.1 (fun _ _ _ h => h) rfl)
        · intro L v wh hL hI
          have e0' : v 0 = .agg #[.bool s, .int .u64 lo, .int .u64 hi, .int .u64 0, .int .u64 0] := hI.2 0 (by decide) (hL 0 (by decide))
          have e1' : v 1 = .agg #[.bool t, .int .u64 lo', .int .u64 hi', .int .u64 0, .int .u64 0] := hI.2 1 (by decide) (hL 1 (by decide))
          have e2' : v 2 = .agg #[.bool (!t), .int .u64 lo', .int .u64 hi', .int .u64 0, .int .u64 0] := hI.2 2 (by decide) (hL 2 (by decide))
          have e3' : v 3 = vS := hI.2 3 (by decide) (hL 3 (by decide))
          have e4' : v 4 = .tuple #[.int .i64 c2, .bool b2] := hI.2 4 (by decide) (hL 4 (by decide))
          have e5' : v 5 = .tuple #[.int .i64 c2, .bool b2] := hI.2 5 (by decide) (hL 5 (by decide))
          have e6' : v 6 = .int .i64 c2 := hI.2 6 (by decide) (hL 6 (by decide))
          have e7' : v 7 = .bool b2 := hI.2 7 (by decide) (hL 7 (by decide))
          have e8' : v 8 = .int .i64 c2 := hI.2 8 (by decide) (hL 8 (by decide))
          obtain ⟨hbx, h12, h13, hBc⟩ := hI.1
          simp only [putSlots, Act.put, List.setIfInBounds_toArray, List.set_cons_succ, List.set_cons_zero, List.drop_succ_cons, List.drop_zero, e0', e1', e2', e3', e4', e5', e6', e7', e8']
          clear hI hL e0' e1' e2' e3' e4' e5' e6' e7' e8'
          have hx0c : wh.cell? ⟨B, 0, none⟩ = some (.int .i64 x0) := cellAt hbx rfl
          have hx1c : wh.cell? ⟨B, 1, none⟩ = some (.int .i64 x1) := cellAt hbx rfl
          go_wp2_with fail
          refine (F10.out _).mono ?_
          rintro e wi ⟨rfl, hbd⟩
          clear hx0c hx1c
          obtain ⟨hbx, h12, h13, hBc⟩ := round_on hbx h12 h13 hBc hbd
          clear hbd
          have hp0c : wi.cell? ⟨b12, 0, none⟩ = some (.bool s) := cellAt h12 rfl
          have hq0c : wi.cell? ⟨b13, 0, none⟩ = some (.bool t) := cellAt h13 rfl
          have hp1c : wi.cell? ⟨b12, 1, none⟩ = some (.int .u64 lo) := cellAt h12 rfl
          have hq1c : wi.cell? ⟨b13, 1, none⟩ = some (.int .u64 lo') := cellAt h13 rfl
          have hp2c : wi.cell? ⟨b12, 2, none⟩ = some (.int .u64 hi) := cellAt h12 rfl
          have hq2c : wi.cell? ⟨b13, 2, none⟩ = some (.int .u64 hi') := cellAt h13 rfl
          have hp3c : wi.cell? ⟨b12, 3, none⟩ = some (.int .u64 0) := cellAt h12 rfl
          have hq3c : wi.cell? ⟨b13, 3, none⟩ = some (.int .u64 0) := cellAt h13 rfl
          have hp4c : wi.cell? ⟨b12, 4, none⟩ = some (.int .u64 0) := cellAt h12 rfl
          have hq4c : wi.cell? ⟨b13, 4, none⟩ = some (.int .u64 0) := cellAt h13 rfl
          go_wp2_with fail
          refine (F11.out _).mono ?_
          rintro e wj ⟨rfl, hbd⟩
          clear hp0c hq0c hp1c hq1c hp2c hq2c hp3c hq3c hp4c hq4c
          obtain ⟨hbx, h12, h13, hBc⟩ := round_on hbx h12 h13 hBc hbd
          clear hbd
          go_wp2_with fail
          refine (F12.out _).mono ?_
          rintro e wk ⟨rfl, hbd⟩
          obtain ⟨hbx, h12, h13, hBc⟩ := round_on hbx h12 h13 hBc hbd
          clear hbd
          clear hbx h12 h13
          go_wp2
          go_roundg (3 - (k + 1))
          case measure => clear hc hd; omega
          case rel => exact ⟨k + 1, by omega, rfl, by go_num, hBc⟩
    · obtain rfl : k = 3 := by omega
      clear hlt
      go_wp2_with (go_at_call 10; refine (works_any _).mono ?_; rintro e w1 ⟨rfl, hb1⟩)
      go_ret
      exact ⟨rfl, below_in hnx hb1⟩

theorem ntells_any (a b x y : Int) (w : World) (ha : -9223372036854775808 ≤ a ∧ a ≤ 9223372036854775807) (hb : -9223372036854775808 ≤ b ∧ b ≤ 9223372036854775807) (hx : 0 ≤ x ∧ x ≤ 255) (hy : 0 ≤ y ∧ y ≤ 255) :
    Calls Try.prog 5 #[.int .i64 a, .int .i64 b, .agg #[.int .u8 x, .int .u8 y]] w fun e w' => e = .returned (.bool true) ∧ Below w.heap.size w w' := by
  obtain ⟨m, rfl⟩ : ∃ m : Nat, x = (m : Int) := ⟨x.toNat, by omega⟩
  obtain ⟨n, rfl⟩ : ∃ n : Nat, y = (n : Int) := ⟨y.toNat, by omega⟩
  exact tells_any a b m n w ha hb (by omega) (by omega)
end Go.Proofs.Ytgbbediopjkkeaa
