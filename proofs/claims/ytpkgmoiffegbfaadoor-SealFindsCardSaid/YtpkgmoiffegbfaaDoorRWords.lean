/- The document's words of a block: the walks through rotr and words. No condition but sizes. -/
import Derived.Test.YtpkgmoiffegbfaaDoorRFrac
import Derived.Test.YtpkgmoiffegbfaaDoorRMark
namespace Go.Proofs.YtpkgmoiffegbfaaDoor
open Go.RowKit Go.BigFrame
set_option maxRecDepth 100000

theorem shW_l24 (x : W) : Op.shift .shl .u32 (wI x) .u64 24 = pure (.int .u32 (wI (x <<< 24))) := shW_shl x .u64 24
theorem shW_l16 (x : W) : Op.shift .shl .u32 (wI x) .u64 16 = pure (.int .u32 (wI (x <<< 16))) := shW_shl x .u64 16
theorem shW_l8 (x : W) : Op.shift .shl .u32 (wI x) .u64 8 = pure (.int .u32 (wI (x <<< 8))) := shW_shl x .u64 8
theorem shW_r3 (x : W) : Op.shift .shr .u32 (wI x) .u64 3 = pure (.int .u32 (wI (x >>> 3))) := shW_shr x .u64 3
theorem shW_r10 (x : W) : Op.shift .shr .u32 (wI x) .u64 10 = pure (.int .u32 (wI (x >>> 10))) := shW_shr x .u64 10
attribute [local go_sem] wI_div bitsW_or bitsW_xor bitsW_and
attribute [local go_sem 2000] binW_add binW_xor binW_and binW_or unW_xor shW_l24 shW_l16 shW_l8 shW_r3 shW_r10
theorem rrotr_any (x : W) (n : Nat) (h0 : 0 < n) (h : n < 32) (w : World) :
    Calls Tryd.prog 47 #[.int .u32 (wI x), .int .u64 (n : Int)] w fun e w' => e = .returned (.int .u32 (wI (rotr x n))) ∧ w = w' := by
  have h2 := shW_shl x .u64 (32 - n)
  have h3 := shW_shr x .u64 n
  have h4 : (32 : Int) - (n : Int) = ((32 - n : Nat) : Int) := by omega
  have h5 : IntKind.u64.wrap (32 - (n : Int)) = ((32 - n : Nat) : Int) := by rw [h4, r_wrap _ (by omega)]
  obtain ⟨m, hm⟩ : ∃ m, m = 32 - n := ⟨_, rfl⟩
  rw [← hm] at h2 h4 h5
  have hmod : wI x * 2 ^ m % 4294967296 = wI (x <<< m) := by
    unfold wI
    rw [BitVec.toNat_shiftLeft, Nat.shiftLeft_eq, Int.natCast_emod, Int.natCast_mul, Int.natCast_pow]
    rfl
  have HMOD := Lib.hid hmod
  clear hmod
  have HM := Lib.hid hm
  clear hm
  go_enter Tryd.func47, Tryd.ntmps47
  go_wp2
  go_ret
  refine ⟨?_, rfl⟩
  show Ending.returned (.int .u32 (bits .or .u32 (wI (x >>> n)) (wI x * 2 ^ m % 4294967296))) = _
  rw [HMOD.out, bitsW_or, ← rotr_doc, ← HM.out]
/-- An invariant for slots: a condition on the world; what each slot holds; the last one is a new row of one cell. -/
def SlX (V : List Value) (y : Value) (M : Nat) (j : Nat) (u : Value) (w : World) : Prop := match V[j]? with
  | some x => u = x
  | none => ∃ kb : Nat, u = .slice (some ⟨kb, 0, none⟩) 1 1 ∧ M ≤ kb ∧ w.heap[kb]? = some (.cells #[y] 58 (0, 0))
theorem slX_mono {V : List Value} {y : Value} {M j : Nat} {u : Value} {w w' : World} (h : SlX V y M j u w) (hb : Below w.heap.size w w') : SlX V y M j u w' := by
  unfold SlX at h ⊢
  cases hv : V[j]? with
  | some x => rw [hv] at h; exact h
  | none =>
    rw [hv] at h
    obtain ⟨kb, h1, h2, h3⟩ := h
    exact ⟨kb, h1, h2, below_at hb h3 (zlt h3)⟩
def SlW (n : Nat) (C : World → Prop) (V : List Value) (y : Value) (M : Nat) (S : Nat → Bool) (v : Nat → Value) (w : World) : Prop := C w ∧ ∀ j, j < n → S j = true → SlX V y M j (v j) w
section
variable {n : Nat} {C : World → Prop} {V : List Value} {y : Value} {M : Nat} {S : Nat → Bool} {v : Nat → Value} {w w1 w2 : World}
theorem SlW.start (h : C w) (v : Nat → Value) : SlW n C V y M (fun _ => false) v w := ⟨h, fun _ _ h => by cases h⟩
theorem SlW.step (h : SlW n C V y M S v w1) (i : Nat) (u : Value) (hC : C w2) (hk : ∀ j x, SlX V y M j x w1 → SlX V y M j x w2) (hR : SlX V y M i u w2) : SlW n C V y M (upd S i true) (upd v i u) w2 :=
  SlotInv.step (C := fun _ => C) (R := SlX V y M) h i u hC (fun j _ x => hk j x) hR
theorem SlW.stay (h : SlW n C V y M S v w1) (i : Nat) (u : Value) (hR : SlX V y M i u w1) : SlW n C V y M (upd S i true) (upd v i u) w1 := h.step i u h.1 (fun _ _ h => h) hR
end
def WordsP (bs : List UInt8) (w : World) (e : Ending) (w' : World) : Prop := ∃ v', e = .returned v' ∧ OwnR 58 wv w' w.heap.size v' (arr bs 64) ∧ Below w.heap.size w w'
theorem arr_full (bs : List UInt8) : arr bs 64 = (sched bs 64).reverse := by simp [arr]
theorem sched_back (bs : List UInt8) (t i : Nat) (hi : i < t) : (sched bs t).reverse[t - 1 - i]? = some ((sched bs t).getD i 0) := by
  have hl := sched_length bs t
  rw [List.getElem?_reverse (by omega), hl, show t - 1 - (t - 1 - i) = i by omega, List.getD_eq_getElem?_getD, List.getElem?_eq_getElem (by omega)]
  rfl
set_option maxHeartbeats 4000000 in
theorem words_any (bs : List UInt8) (hbs : bs.length = 64) (g off c : Nat) (w : World) (hg : g < w.heap.size) (hc : ∀ j u, (Lib.byteCells bs)[j]? = some u → w.cell? ⟨g, off + j, none⟩ = some u) :
    Calls Tryd.prog 46 #[.slice (some ⟨g, off, none⟩) 64 c] w (WordsP bs w) := by
  have HC := hide hc
  obtain ⟨N, hN⟩ : ∃ N, N = w.heap.size := ⟨_, rfl⟩
  have hB0 : Below N w w := by rw [hN]; exact Below.refl _ _
  have hz0 : N ≤ w.heap.size := by omega
  rw [← hN] at hg
  have HN := hide hN
  clear hc hN
  go_enter Tryd.func46, Tryd.ntmps46
  go_wp2
  go_loopg [3, 4] 64 (fun gm v vt wi => ∃ (t : Nat) (a : Option Addr) (cp : Nat), t ≤ 64 ∧ gm = 64 - t ∧ vt = .int .i64 (t : Int) ∧ v = .slice a t cp ∧ OwnR 58 wv wi N v (sched bs t).reverse ∧ Below N w wi ∧ N ≤ wi.heap.size)
  case atStart => exact ⟨0, none, 0, by omega, rfl, rfl, rfl, OwnR.nil _ _, hB0, hz0⟩
  case round =>
    obtain ⟨t, a, cp, ht, rfl, rfl, rfl, hO, hBl, hz⟩ := hrel
    clear hB0 hz0
    have hl := sched_length bs t
    by_cases hlt : t < 64
    · have htI : (t : Int) < 64 := by omega
      have ht0 : (0 : Int) ≤ (t : Int) := by omega
      by_cases h16 : t < 16
      · have h16I : (t : Int) < 16 := by omega
        obtain ⟨c0, c1, c2, c3, hc4⟩ := four_bytes ((bs.drop (4 * t)).take 4) (by rw [List.length_take, List.length_drop]; omega)
        have hat : ∀ i b, [c0, c1, c2, c3][i]? = some b → wr.cell? ⟨g, off + (4 * t + i), none⟩ = some (.int .u8 (b.toNat : Int)) := by
          intro i b hb
          refine (hBl.cell (p := ⟨g, off + (4 * t + i), none⟩) hg).trans (HC.out (4 * t + i) _ ?_)
          have hi : i < 4 := (List.getElem?_eq_some_iff.1 hb).1
          rw [← hc4, List.getElem?_take, if_pos hi, List.getElem?_drop] at hb
          simp [Lib.byteCells, hb]
        obtain ⟨y0, e0, f0, b0a, b0b⟩ := byte_word c0
        obtain ⟨y1, e1, f1, b1a, b1b⟩ := byte_word c1
        obtain ⟨y2, e2, f2, b2a, b2b⟩ := byte_word c2
        obtain ⟨y3, e3, f3, b3a, b3b⟩ := byte_word c3
        obtain ⟨q0, hq0⟩ : ∃ q0, q0 = 4 * t := ⟨_, rfl⟩
        have z0 : wr.cell? ⟨g, off + q0, none⟩ = some (.int .u8 (wI y0)) := by rw [e0, hq0]; exact hat 0 c0 rfl
        have z1 : wr.cell? ⟨g, off + (q0 + 1), none⟩ = some (.int .u8 (wI y1)) := by rw [e1, hq0]; exact hat 1 c1 rfl
        have z2 : wr.cell? ⟨g, off + (q0 + 2), none⟩ = some (.int .u8 (wI y2)) := by rw [e2, hq0]; exact hat 2 c2 rfl
        have z3 : wr.cell? ⟨g, off + (q0 + 3), none⟩ = some (.int .u8 (wI y3)) := by rw [e3, hq0]; exact hat 3 c3 rfl
        obtain ⟨q1, hq1⟩ : ∃ q1, q1 = q0 + 1 := ⟨_, rfl⟩
        obtain ⟨q2, hq2⟩ : ∃ q2, q2 = q0 + 2 := ⟨_, rfl⟩
        obtain ⟨q3, hq3⟩ : ∃ q3, q3 = q0 + 3 := ⟨_, rfl⟩
        rw [← hq1] at z1
        rw [← hq2] at z2
        rw [← hq3] at z3
        have i0 : IntKind.i64.wrap (4 * (t : Int)) = (q0 : Int) := by rw [IntWalk.i64_in _ (by omega)]; omega
        have i1 : IntKind.i64.wrap ((q0 : Int) + 1) = (q1 : Int) := by rw [IntWalk.i64_in _ (by omega)]; omega
        have i2 : IntKind.i64.wrap ((q0 : Int) + 2) = (q2 : Int) := by rw [IntWalk.i64_in _ (by omega)]; omega
        have i3 : IntKind.i64.wrap ((q0 : Int) + 3) = (q3 : Int) := by rw [IntWalk.i64_in _ (by omega)]; omega
        have j0 : (0 : Int) ≤ (q0 : Int) ∧ (q0 : Int) < 64 := by omega
        have j1 : (0 : Int) ≤ (q1 : Int) ∧ (q1 : Int) < 64 := by omega
        have j2 : (0 : Int) ≤ (q2 : Int) ∧ (q2 : Int) < 64 := by omega
        have j3 : (0 : Int) ≤ (q3 : Int) ∧ (q3 : Int) < 64 := by omega
        obtain ⟨j0a, j0b⟩ := j0
        obtain ⟨j1a, j1b⟩ := j1
        obtain ⟨j2a, j2b⟩ := j2
        obtain ⟨j3a, j3b⟩ := j3
        have k0 : IntKind.u32.wrap (wI y0) = wI y0 := by rw [IntKind.wrap_u32]; omega
        have k1 : IntKind.u32.wrap (wI y1) = wI y1 := by rw [IntKind.wrap_u32]; omega
        have k2 : IntKind.u32.wrap (wI y2) = wI y2 := by rw [IntKind.wrap_u32]; omega
        have k3 : IntKind.u32.wrap (wI y3) = wI y3 := by rw [IntKind.wrap_u32]; omega
        have hS : (sched bs (t + 1)).reverse = (sched bs t).reverse ++ [y0 <<< 24 ||| y1 <<< 16 ||| y2 <<< 8 ||| y3] := by
          rw [sched_early bs t h16, List.reverse_cons, hc4, pack_doc, f0, f1, f2, f3]; rfl
        have HS := hide hS
        have hll : (sched bs t).reverse.length = t := by rw [List.length_reverse, hl]
        generalize (sched bs t).reverse = L at *
        have HLL := hide hll
        clear hS hat hc4 e0 e1 e2 e3 f0 f1 f2 f3 hq0 hq1 hq2 hq3 b0a b0b b1a b1b b2a b2b b3a b3b hl hll
        go_upto_region 6 with (fail)
        have hgr : g < wr.heap.size := Nat.lt_of_lt_of_le hg hz
        refine region_slots 35 [15, 16, 17, 18, 19, 20, 21, 22, 23, 24, 25, 26, 27, 28, 29, 30, 31, 32, 33, 34, 35, 36, 37, 38, 39, 40, 41, 42, 43, 44, 45, 46, 47, 48, 49] (by kernel_rfl) (by kernel_rfl) (by decide) rfl 96 rfl (by decide) (by kernel_rfl)
          (SlW 35 (fun w1 => Below wr.heap.size wr w1) [.slice a t cp, .slice (some ⟨g, off, none⟩) 64 c, .int .i64 (t : Int), .int .i64 (q0 : Int), .pointer (some ⟨g, off + q0, none⟩), .int .u8 (wI y0), .int .u32 (wI y0), .int .u32 (wI (y0 <<< 24)), .slice (some ⟨g, off, none⟩) 64 c, .int .i64 (t : Int), .int .i64 (q0 : Int), .int .i64 (q1 : Int), .pointer (some ⟨g, off + q1, none⟩), .int .u8 (wI y1), .int .u32 (wI y1), .int .u32 (wI (y1 <<< 16)), .int .u32 (wI (y0 <<< 24 ||| y1 <<< 16)), .slice (some ⟨g, off, none⟩) 64 c, .int .i64 (t : Int), .int .i64 (q0 : Int), .int .i64 (q2 : Int), .pointer (some ⟨g, off + q2, none⟩), .int .u8 (wI y2), .int .u32 (wI y2), .int .u32 (wI (y2 <<< 8)), .int .u32 (wI (y0 <<< 24 ||| y1 <<< 16 ||| y2 <<< 8)), .slice (some ⟨g, off, none⟩) 64 c, .int .i64 (t : Int), .int .i64 (q0 : Int), .int .i64 (q3 : Int), .pointer (some ⟨g, off + q3, none⟩), .int .u8 (wI y3), .int .u32 (wI y3), .int .u32 (wI (y0 <<< 24 ||| y1 <<< 16 ||| y2 <<< 8 ||| y3))] (wv (y0 <<< 24 ||| y1 <<< 16 ||| y2 <<< 8 ||| y3)) wr.heap.size) ?_ ?_ ?_
        · intro v
          exact SlW.start ((Below.refl _ _).drew) v
        · intro i hi
          match i, hi with
          | 0, _ =>
            intro S v w1 f o ho hf hI hS hall K' Q' hK'
            obtain rfl := Option.some.inj ho
            have e3 : f.tmps[3]?.getD undef = .slice a t cp := tmp_of (hf 3)
            simp [go_sem, e3]
            exact hK' _ _ (SlW.stay hI 0 _ rfl)
          | 1, _ =>
            intro S v w1 f o ho hf hI hS hall K' Q' hK'
            obtain rfl := Option.some.inj ho
            have e0 : f.tmps[0]?.getD undef = .slice (some ⟨g, off, none⟩) 64 c := tmp_of (hf 0)
            simp [go_sem, e0]
            exact hK' _ _ (SlW.stay hI 1 _ rfl)
          | 2, _ =>
            intro S v w1 f o ho hf hI hS hall K' Q' hK'
            obtain rfl := Option.some.inj ho
            have e4 : f.tmps[4]?.getD undef = .int .i64 (t : Int) := tmp_of (hf 4)
            simp [go_sem, e4]
            exact hK' _ _ (SlW.stay hI 2 _ rfl)
          | 3, _ =>
            intro S v w1 f o ho hf hI hS hall K' Q' hK'
            obtain rfl := Option.some.inj ho
            have e17 : f.tmps[17]?.getD undef = .int .i64 (t : Int) := tmp_of ((hf 17).trans (hI.2 2 (by decide) (edge_listed hall 2 (by kernel_rfl))))
            simp [go_sem, e17, i0]
            exact hK' _ _ (SlW.stay hI 3 _ rfl)
          | 4, _ =>
            intro S v w1 f o ho hf hI hS hall K' Q' hK'
            obtain rfl := Option.some.inj ho
            have e16 : f.tmps[16]?.getD undef = .slice (some ⟨g, off, none⟩) 64 c := tmp_of ((hf 16).trans (hI.2 1 (by decide) (edge_listed hall 1 (by kernel_rfl))))
            have e18 : f.tmps[18]?.getD undef = .int .i64 (q0 : Int) := tmp_of ((hf 18).trans (hI.2 3 (by decide) (edge_listed hall 3 (by kernel_rfl))))
            simp [go_sem, e16, e18, j0a, j0b]
            exact hK' _ _ (SlW.stay hI 4 _ rfl)
          | 5, _ =>
            intro S v w1 f o ho hf hI hS hall K' Q' hK'
            obtain rfl := Option.some.inj ho
            have e19 : f.tmps[19]?.getD undef = .pointer (some ⟨g, off + q0, none⟩) := tmp_of ((hf 19).trans (hI.2 4 (by decide) (edge_listed hall 4 (by kernel_rfl))))
            have q := (hI.1.cell (p := ⟨g, off + q0, none⟩) (hgr)).trans z0
            simp [go_sem, e19, q]
            exact hK' _ _ (SlW.stay hI 5 _ rfl)
          | 6, _ =>
            intro S v w1 f o ho hf hI hS hall K' Q' hK'
            obtain rfl := Option.some.inj ho
            have e20 : f.tmps[20]?.getD undef = .int .u8 (wI y0) := tmp_of ((hf 20).trans (hI.2 5 (by decide) (edge_listed hall 5 (by kernel_rfl))))
            simp [go_sem, e20, k0]
            exact hK' _ _ (SlW.stay hI 6 _ rfl)
          | 7, _ =>
            intro S v w1 f o ho hf hI hS hall K' Q' hK'
            obtain rfl := Option.some.inj ho
            have e21 : f.tmps[21]?.getD undef = .int .u32 (wI y0) := tmp_of ((hf 21).trans (hI.2 6 (by decide) (edge_listed hall 6 (by kernel_rfl))))
            simp [go_sem, e21]
            exact hK' _ _ (SlW.stay hI 7 _ rfl)
          | 8, _ =>
            intro S v w1 f o ho hf hI hS hall K' Q' hK'
            obtain rfl := Option.some.inj ho
            have e0 : f.tmps[0]?.getD undef = .slice (some ⟨g, off, none⟩) 64 c := tmp_of (hf 0)
            simp [go_sem, e0]
            exact hK' _ _ (SlW.stay hI 8 _ rfl)
          | 9, _ =>
            intro S v w1 f o ho hf hI hS hall K' Q' hK'
            obtain rfl := Option.some.inj ho
            have e4 : f.tmps[4]?.getD undef = .int .i64 (t : Int) := tmp_of (hf 4)
            simp [go_sem, e4]
            exact hK' _ _ (SlW.stay hI 9 _ rfl)
          | 10, _ =>
            intro S v w1 f o ho hf hI hS hall K' Q' hK'
            obtain rfl := Option.some.inj ho
            have e24 : f.tmps[24]?.getD undef = .int .i64 (t : Int) := tmp_of ((hf 24).trans (hI.2 9 (by decide) (edge_listed hall 9 (by kernel_rfl))))
            simp [go_sem, e24, i0]
            exact hK' _ _ (SlW.stay hI 10 _ rfl)
          | 11, _ =>
            intro S v w1 f o ho hf hI hS hall K' Q' hK'
            obtain rfl := Option.some.inj ho
            have e25 : f.tmps[25]?.getD undef = .int .i64 (q0 : Int) := tmp_of ((hf 25).trans (hI.2 10 (by decide) (edge_listed hall 10 (by kernel_rfl))))
            simp [go_sem, e25, i1]
            exact hK' _ _ (SlW.stay hI 11 _ rfl)
          | 12, _ =>
            intro S v w1 f o ho hf hI hS hall K' Q' hK'
            obtain rfl := Option.some.inj ho
            have e23 : f.tmps[23]?.getD undef = .slice (some ⟨g, off, none⟩) 64 c := tmp_of ((hf 23).trans (hI.2 8 (by decide) (edge_listed hall 8 (by kernel_rfl))))
            have e26 : f.tmps[26]?.getD undef = .int .i64 (q1 : Int) := tmp_of ((hf 26).trans (hI.2 11 (by decide) (edge_listed hall 11 (by kernel_rfl))))
            simp [go_sem, e23, e26, j1a, j1b]
            exact hK' _ _ (SlW.stay hI 12 _ rfl)
          | 13, _ =>
            intro S v w1 f o ho hf hI hS hall K' Q' hK'
            obtain rfl := Option.some.inj ho
            have e27 : f.tmps[27]?.getD undef = .pointer (some ⟨g, off + q1, none⟩) := tmp_of ((hf 27).trans (hI.2 12 (by decide) (edge_listed hall 12 (by kernel_rfl))))
            have q := (hI.1.cell (p := ⟨g, off + q1, none⟩) (hgr)).trans z1
            simp [go_sem, e27, q]
            exact hK' _ _ (SlW.stay hI 13 _ rfl)
          | 14, _ =>
            intro S v w1 f o ho hf hI hS hall K' Q' hK'
            obtain rfl := Option.some.inj ho
            have e28 : f.tmps[28]?.getD undef = .int .u8 (wI y1) := tmp_of ((hf 28).trans (hI.2 13 (by decide) (edge_listed hall 13 (by kernel_rfl))))
            simp [go_sem, e28, k1]
            exact hK' _ _ (SlW.stay hI 14 _ rfl)
          | 15, _ =>
            intro S v w1 f o ho hf hI hS hall K' Q' hK'
            obtain rfl := Option.some.inj ho
            have e29 : f.tmps[29]?.getD undef = .int .u32 (wI y1) := tmp_of ((hf 29).trans (hI.2 14 (by decide) (edge_listed hall 14 (by kernel_rfl))))
            simp [go_sem, e29]
            exact hK' _ _ (SlW.stay hI 15 _ rfl)
          | 16, _ =>
            intro S v w1 f o ho hf hI hS hall K' Q' hK'
            obtain rfl := Option.some.inj ho
            have e22 : f.tmps[22]?.getD undef = .int .u32 (wI (y0 <<< 24)) := tmp_of ((hf 22).trans (hI.2 7 (by decide) (edge_listed hall 7 (by kernel_rfl))))
            have e30 : f.tmps[30]?.getD undef = .int .u32 (wI (y1 <<< 16)) := tmp_of ((hf 30).trans (hI.2 15 (by decide) (edge_listed hall 15 (by kernel_rfl))))
            simp [go_sem, e22, e30]
            exact hK' _ _ (SlW.stay hI 16 _ rfl)
          | 17, _ =>
            intro S v w1 f o ho hf hI hS hall K' Q' hK'
            obtain rfl := Option.some.inj ho
            have e0 : f.tmps[0]?.getD undef = .slice (some ⟨g, off, none⟩) 64 c := tmp_of (hf 0)
            simp [go_sem, e0]
            exact hK' _ _ (SlW.stay hI 17 _ rfl)
          | 18, _ =>
            intro S v w1 f o ho hf hI hS hall K' Q' hK'
            obtain rfl := Option.some.inj ho
            have e4 : f.tmps[4]?.getD undef = .int .i64 (t : Int) := tmp_of (hf 4)
            simp [go_sem, e4]
            exact hK' _ _ (SlW.stay hI 18 _ rfl)
          | 19, _ =>
            intro S v w1 f o ho hf hI hS hall K' Q' hK'
            obtain rfl := Option.some.inj ho
            have e33 : f.tmps[33]?.getD undef = .int .i64 (t : Int) := tmp_of ((hf 33).trans (hI.2 18 (by decide) (edge_listed hall 18 (by kernel_rfl))))
            simp [go_sem, e33, i0]
            exact hK' _ _ (SlW.stay hI 19 _ rfl)
          | 20, _ =>
            intro S v w1 f o ho hf hI hS hall K' Q' hK'
            obtain rfl := Option.some.inj ho
            have e34 : f.tmps[34]?.getD undef = .int .i64 (q0 : Int) := tmp_of ((hf 34).trans (hI.2 19 (by decide) (edge_listed hall 19 (by kernel_rfl))))
            simp [go_sem, e34, i2]
            exact hK' _ _ (SlW.stay hI 20 _ rfl)
          | 21, _ =>
            intro S v w1 f o ho hf hI hS hall K' Q' hK'
            obtain rfl := Option.some.inj ho
            have e32 : f.tmps[32]?.getD undef = .slice (some ⟨g, off, none⟩) 64 c := tmp_of ((hf 32).trans (hI.2 17 (by decide) (edge_listed hall 17 (by kernel_rfl))))
            have e35 : f.tmps[35]?.getD undef = .int .i64 (q2 : Int) := tmp_of ((hf 35).trans (hI.2 20 (by decide) (edge_listed hall 20 (by kernel_rfl))))
            simp [go_sem, e32, e35, j2a, j2b]
            exact hK' _ _ (SlW.stay hI 21 _ rfl)
          | 22, _ =>
            intro S v w1 f o ho hf hI hS hall K' Q' hK'
            obtain rfl := Option.some.inj ho
            have e36 : f.tmps[36]?.getD undef = .pointer (some ⟨g, off + q2, none⟩) := tmp_of ((hf 36).trans (hI.2 21 (by decide) (edge_listed hall 21 (by kernel_rfl))))
            have q := (hI.1.cell (p := ⟨g, off + q2, none⟩) (hgr)).trans z2
            simp [go_sem, e36, q]
            exact hK' _ _ (SlW.stay hI 22 _ rfl)
          | 23, _ =>
            intro S v w1 f o ho hf hI hS hall K' Q' hK'
            obtain rfl := Option.some.inj ho
            have e37 : f.tmps[37]?.getD undef = .int .u8 (wI y2) := tmp_of ((hf 37).trans (hI.2 22 (by decide) (edge_listed hall 22 (by kernel_rfl))))
            simp [go_sem, e37, k2]
            exact hK' _ _ (SlW.stay hI 23 _ rfl)
          | 24, _ =>
            intro S v w1 f o ho hf hI hS hall K' Q' hK'
            obtain rfl := Option.some.inj ho
            have e38 : f.tmps[38]?.getD undef = .int .u32 (wI y2) := tmp_of ((hf 38).trans (hI.2 23 (by decide) (edge_listed hall 23 (by kernel_rfl))))
            simp [go_sem, e38]
            exact hK' _ _ (SlW.stay hI 24 _ rfl)
          | 25, _ =>
            intro S v w1 f o ho hf hI hS hall K' Q' hK'
            obtain rfl := Option.some.inj ho
            have e31 : f.tmps[31]?.getD undef = .int .u32 (wI (y0 <<< 24 ||| y1 <<< 16)) := tmp_of ((hf 31).trans (hI.2 16 (by decide) (edge_listed hall 16 (by kernel_rfl))))
            have e39 : f.tmps[39]?.getD undef = .int .u32 (wI (y2 <<< 8)) := tmp_of ((hf 39).trans (hI.2 24 (by decide) (edge_listed hall 24 (by kernel_rfl))))
            simp [go_sem, e31, e39]
            exact hK' _ _ (SlW.stay hI 25 _ rfl)
          | 26, _ =>
            intro S v w1 f o ho hf hI hS hall K' Q' hK'
            obtain rfl := Option.some.inj ho
            have e0 : f.tmps[0]?.getD undef = .slice (some ⟨g, off, none⟩) 64 c := tmp_of (hf 0)
            simp [go_sem, e0]
            exact hK' _ _ (SlW.stay hI 26 _ rfl)
          | 27, _ =>
            intro S v w1 f o ho hf hI hS hall K' Q' hK'
            obtain rfl := Option.some.inj ho
            have e4 : f.tmps[4]?.getD undef = .int .i64 (t : Int) := tmp_of (hf 4)
            simp [go_sem, e4]
            exact hK' _ _ (SlW.stay hI 27 _ rfl)
          | 28, _ =>
            intro S v w1 f o ho hf hI hS hall K' Q' hK'
            obtain rfl := Option.some.inj ho
            have e42 : f.tmps[42]?.getD undef = .int .i64 (t : Int) := tmp_of ((hf 42).trans (hI.2 27 (by decide) (edge_listed hall 27 (by kernel_rfl))))
            simp [go_sem, e42, i0]
            exact hK' _ _ (SlW.stay hI 28 _ rfl)
          | 29, _ =>
            intro S v w1 f o ho hf hI hS hall K' Q' hK'
            obtain rfl := Option.some.inj ho
            have e43 : f.tmps[43]?.getD undef = .int .i64 (q0 : Int) := tmp_of ((hf 43).trans (hI.2 28 (by decide) (edge_listed hall 28 (by kernel_rfl))))
            simp [go_sem, e43, i3]
            exact hK' _ _ (SlW.stay hI 29 _ rfl)
          | 30, _ =>
            intro S v w1 f o ho hf hI hS hall K' Q' hK'
            obtain rfl := Option.some.inj ho
            have e41 : f.tmps[41]?.getD undef = .slice (some ⟨g, off, none⟩) 64 c := tmp_of ((hf 41).trans (hI.2 26 (by decide) (edge_listed hall 26 (by kernel_rfl))))
            have e44 : f.tmps[44]?.getD undef = .int .i64 (q3 : Int) := tmp_of ((hf 44).trans (hI.2 29 (by decide) (edge_listed hall 29 (by kernel_rfl))))
            simp [go_sem, e41, e44, j3a, j3b]
            exact hK' _ _ (SlW.stay hI 30 _ rfl)
          | 31, _ =>
            intro S v w1 f o ho hf hI hS hall K' Q' hK'
            obtain rfl := Option.some.inj ho
            have e45 : f.tmps[45]?.getD undef = .pointer (some ⟨g, off + q3, none⟩) := tmp_of ((hf 45).trans (hI.2 30 (by decide) (edge_listed hall 30 (by kernel_rfl))))
            have q := (hI.1.cell (p := ⟨g, off + q3, none⟩) (hgr)).trans z3
            simp [go_sem, e45, q]
            exact hK' _ _ (SlW.stay hI 31 _ rfl)
          | 32, _ =>
            intro S v w1 f o ho hf hI hS hall K' Q' hK'
            obtain rfl := Option.some.inj ho
            have e46 : f.tmps[46]?.getD undef = .int .u8 (wI y3) := tmp_of ((hf 46).trans (hI.2 31 (by decide) (edge_listed hall 31 (by kernel_rfl))))
            simp [go_sem, e46, k3]
            exact hK' _ _ (SlW.stay hI 32 _ rfl)
          | 33, _ =>
            intro S v w1 f o ho hf hI hS hall K' Q' hK'
            obtain rfl := Option.some.inj ho
            have e40 : f.tmps[40]?.getD undef = .int .u32 (wI (y0 <<< 24 ||| y1 <<< 16 ||| y2 <<< 8)) := tmp_of ((hf 40).trans (hI.2 25 (by decide) (edge_listed hall 25 (by kernel_rfl))))
            have e47 : f.tmps[47]?.getD undef = .int .u32 (wI y3) := tmp_of ((hf 47).trans (hI.2 32 (by decide) (edge_listed hall 32 (by kernel_rfl))))
            simp [go_sem, e40, e47]
            exact hK' _ _ (SlW.stay hI 33 _ rfl)
          | 34, _ =>
            intro S v w1 f o ho hf hI hS hall K' Q' hK'
            obtain rfl := Option.some.inj ho
            have e48 : f.tmps[48]?.getD undef = .int .u32 (wI (y0 <<< 24 ||| y1 <<< 16 ||| y2 <<< 8 ||| y3)) := tmp_of ((hf 48).trans (hI.2 33 (by decide) (edge_listed hall 33 (by kernel_rfl))))
            have e48 : f.tmps[48]?.getD undef = .int .u32 (wI (y0 <<< 24 ||| y1 <<< 16 ||| y2 <<< 8 ||| y3)) := tmp_of ((hf 48).trans (hI.2 33 (by decide) (edge_listed hall 33 (by kernel_rfl))))
            have hbn : Below w1.heap.size w1 (w1.alloc (.cells #[.int .u32 (wI (y0 <<< 24 ||| y1 <<< 16 ||| y2 <<< 8 ||| y3))] 58)) := (Below.refl _ _).alloc (Nat.le_refl _) _
            have hbm : Below wr.heap.size wr (w1.alloc (.cells #[.int .u32 (wI (y0 <<< 24 ||| y1 <<< 16 ||| y2 <<< 8 ||| y3))] 58)) := hI.1.alloc hI.1.size _
            simp [go_sem, e48]
            exact hK' _ _ (SlW.step hI 34 _ hbm (fun j x h => slX_mono h hbn) ⟨w1.heap.size, rfl, hI.1.size, new_at w1 _⟩)
          | i + 35, hi => exact absurd hi (by omega)
        · intro S v wh hS hI
          have e15 : v 0 = .slice a t cp := hI.2 0 (by decide) (hS 0 (by decide))
          obtain ⟨kb, e49, hkN, hkb⟩ := hI.2 34 (by decide) (hS 34 (by decide))
          have hgw : Below wr.heap.size wr wh := hI.1
          simp only [putSlots, Act.put, List.setIfInBounds_toArray, List.set_cons_succ, List.set_cons_zero, List.drop_succ_cons, List.drop_zero, e15, e49]
          clear hI hS
          refine zappR rfl _ _ (T := 66) (E := 58) (f := wv) Tryd.underlying66 infoU32 rfl (by decide) (fun _ => rfl) rfl _ rfl kb 1 rfl (y0 <<< 24 ||| y1 <<< 16 ||| y2 <<< 8 ||| y3) (zcell hkb rfl) N L (hO.below hgw) (by rw [HLL.out]; omega) (Nat.le_trans hz hgw.size) ?_
          intro v' w' hO' _ hB'
          rw [← HS.out] at hO'
          have hB2 : Below N w w' := hBl.trans ((hgw.mono hz).trans hB')
          have hz2 : N ≤ w'.heap.size := Nat.le_trans (Nat.le_trans hz hgw.size) hB'.size
          clear hB' hO hBl hz hgw hkb hgr e15 e49
          obtain ⟨a', c', rfl⟩ := hO'.slice
          have hl1 : (sched bs (t + 1)).reverse.length = t + 1 := by rw [List.length_reverse, sched_length]
          rw [hl1] at hO' ⊢
          clear hl1
          go_wp2
          go_roundg (64 - (t + 1))
          case measure => omega
          case rel => exact ⟨t + 1, a', c', by omega, rfl, by go_num, rfl, hO', hB2, hz2⟩
      · have h16I : ¬ (t : Int) < 16 := by omega
        obtain ⟨ga, gc, hv, hcl⟩ := hO.any
        obtain ⟨ga, rfl, hgN, hgr, _, hcell⟩ := hcl (by rw [List.length_reverse, hl]; omega)
        rw [List.length_reverse, hl] at hv
        obtain ⟨rfl, -, rfl⟩ : a = some ⟨ga, 0, none⟩ ∧ t = t ∧ cp = gc := by injection hv with a b c; exact ⟨a, b, c⟩
        obtain ⟨x1, hx1⟩ : ∃ x1, x1 = (sched bs t).getD 1 0 := ⟨_, rfl⟩
        obtain ⟨x6, hx6⟩ : ∃ x6, x6 = (sched bs t).getD 6 0 := ⟨_, rfl⟩
        obtain ⟨x14, hx14⟩ : ∃ x14, x14 = (sched bs t).getD 14 0 := ⟨_, rfl⟩
        obtain ⟨x15, hx15⟩ : ∃ x15, x15 = (sched bs t).getD 15 0 := ⟨_, rfl⟩
        have z2 : wr.cell? ⟨ga, t - 1 - 1, none⟩ = some (.int .u32 (wI x1)) := by rw [hx1]; exact hcell _ _ (sched_back bs t 1 (by omega))
        have z7 : wr.cell? ⟨ga, t - 1 - 6, none⟩ = some (.int .u32 (wI x6)) := by rw [hx6]; exact hcell _ _ (sched_back bs t 6 (by omega))
        have z15 : wr.cell? ⟨ga, t - 1 - 14, none⟩ = some (.int .u32 (wI x14)) := by rw [hx14]; exact hcell _ _ (sched_back bs t 14 (by omega))
        have z16 : wr.cell? ⟨ga, t - 1 - 15, none⟩ = some (.int .u32 (wI x15)) := by rw [hx15]; exact hcell _ _ (sched_back bs t 15 (by omega))
        have hS : (sched bs (t + 1)).reverse = (sched bs t).reverse ++ [parts x1 17 19 10 + x6 + parts x14 7 18 3 + x15] := by
          rw [sched_late bs t h16, List.reverse_cons, ← hx1, ← hx6, ← hx14, ← hx15]
        have HS := hide hS
        have hll : (sched bs t).reverse.length = t := by rw [List.length_reverse, hl]
        obtain ⟨p2, hp2⟩ : ∃ p2, p2 = t - 1 - 1 := ⟨_, rfl⟩
        obtain ⟨p7, hp7⟩ : ∃ p7, p7 = t - 1 - 6 := ⟨_, rfl⟩
        obtain ⟨p15, hp15⟩ : ∃ p15, p15 = t - 1 - 14 := ⟨_, rfl⟩
        obtain ⟨p16, hp16⟩ : ∃ p16, p16 = t - 1 - 15 := ⟨_, rfl⟩
        rw [← hp2] at z2
        rw [← hp7] at z7
        rw [← hp15] at z15
        rw [← hp16] at z16
        have i2 : IntKind.i64.wrap ((t : Int) - 2) = (p2 : Int) := by rw [IntWalk.i64_in _ (by omega)]; omega
        have i7 : IntKind.i64.wrap ((t : Int) - 7) = (p7 : Int) := by rw [IntWalk.i64_in _ (by omega)]; omega
        have i15 : IntKind.i64.wrap ((t : Int) - 15) = (p15 : Int) := by rw [IntWalk.i64_in _ (by omega)]; omega
        have i16 : IntKind.i64.wrap ((t : Int) - 16) = (p16 : Int) := by rw [IntWalk.i64_in _ (by omega)]; omega
        obtain ⟨j2a, j2b⟩ : (0 : Int) ≤ (p2 : Int) ∧ (p2 : Int) < (t : Int) := by omega
        obtain ⟨j7a, j7b⟩ : (0 : Int) ≤ (p7 : Int) ∧ (p7 : Int) < (t : Int) := by omega
        obtain ⟨j15a, j15b⟩ : (0 : Int) ≤ (p15 : Int) ∧ (p15 : Int) < (t : Int) := by omega
        obtain ⟨j16a, j16b⟩ : (0 : Int) ≤ (p16 : Int) ∧ (p16 : Int) < (t : Int) := by omega
        generalize (sched bs t).reverse = L at *
        have HLL := hide hll
        clear hS hx1 hx6 hx14 hx15 hp2 hp7 hp15 hp16 hl hll hv hcl hcell
        go_upto_region 7 with (fail)
        refine zquiet (C := fun w' => w' = wr.drew) (by kernel_rfl) (by kernel_rfl) rfl ?_
        iterate 12 (go_big_quiet_want; go_big_quiet_op; first | go_big_quiet_on | (refine ⟨_, fun _ _ => rfl, ?_⟩; go_big_quiet_on))
        refine wpQuiet_nil ?_
        intro w5 hw5
        subst hw5
        clear z2 z15 i2 i15 j2a j2b j15a j15b
        go_wp2_with fail
        refine (rrotr_any x14 7 (by decide) (by decide) _).mono ?_
        rintro e w6 ⟨rfl, rfl⟩
        go_wp2_with fail
        refine (rrotr_any x14 18 (by decide) (by decide) _).mono ?_
        rintro e w6 ⟨rfl, rfl⟩
        go_wp2_with fail
        refine (rrotr_any x1 17 (by decide) (by decide) _).mono ?_
        rintro e w6 ⟨rfl, rfl⟩
        go_wp2_with fail
        refine (rrotr_any x1 19 (by decide) (by decide) _).mono ?_
        rintro e w6 ⟨rfl, rfl⟩
        obtain ⟨s0, hs0⟩ : ∃ s0, s0 = parts x14 7 18 3 := ⟨_, rfl⟩
        obtain ⟨s1, hs1⟩ : ∃ s1, s1 = parts x1 17 19 10 := ⟨_, rfl⟩
        have e0 : rotr x14 7 ^^^ rotr x14 18 ^^^ x14 >>> 3 = s0 := hs0.symm
        have e1 : rotr x1 17 ^^^ rotr x1 19 ^^^ x1 >>> 10 = s1 := hs1.symm
        have hS := HS.out
        rw [← hs0, ← hs1] at hS
        have HS2 := hide hS
        have HE := hide (And.intro e0 e1)
        clear e0 e1 hs0 hs1 hS HS
        go_upto_region 10 with (fail)
        rw [HE.out.1, HE.out.2]
        have z7' : wr.drew.cell? ⟨ga, p7, none⟩ = some (.int .u32 (wI x6)) := z7
        have z16' : wr.drew.cell? ⟨ga, p16, none⟩ = some (.int .u32 (wI x15)) := z16
        have hB5 : Below N w wr.drew := hBl.drew
        have hO5 : OwnR 58 wv wr.drew N (.slice (some ⟨ga, 0, none⟩) t cp) L := hO.below ((Below.refl _ _).drew)
        have hz5 : N ≤ wr.drew.heap.size := hz
        have hgr5 : ga < wr.drew.heap.size := hgr
        clear z7 z16 hBl hO hz hgr
        generalize wr.drew = wd at *
        refine region_slots 17 [77, 78, 79, 80, 81, 82, 83, 84, 85, 86, 87, 88, 89, 90, 91, 92, 93] (by kernel_rfl) (by kernel_rfl) (by decide) rfl 96 rfl (by decide) (by kernel_rfl)
          (SlW 17 (fun w1 => Below wd.heap.size wd w1) [.slice (some ⟨ga, 0, none⟩) t cp, .int .u32 (wI s1), .slice (some ⟨ga, 0, none⟩) t cp, .int .i64 (t : Int), .int .i64 (p7 : Int), .pointer (some ⟨ga, p7, none⟩), .int .u32 (wI x6), .int .u32 (wI (s1 + x6)), .int .u32 (wI s0), .int .u32 (wI (s1 + x6 + s0)), .slice (some ⟨ga, 0, none⟩) t cp, .int .i64 (t : Int), .int .i64 (p16 : Int), .pointer (some ⟨ga, p16, none⟩), .int .u32 (wI x15), .int .u32 (wI (s1 + x6 + s0 + x15))] (wv (s1 + x6 + s0 + x15)) wd.heap.size) ?_ ?_ ?_
        · intro v
          exact SlW.start ((Below.refl _ _).drew) v
        · intro i hi
          match i, hi with
          | 0, _ =>
            intro S v w1 f o ho hf hI hS hall K' Q' hK'
            obtain rfl := Option.some.inj ho
            have e3 : f.tmps[3]?.getD undef = .slice (some ⟨ga, 0, none⟩) t cp := tmp_of (hf 3)
            simp [go_sem, e3]
            exact hK' _ _ (SlW.stay hI 0 _ rfl)
          | 1, _ =>
            intro S v w1 f o ho hf hI hS hall K' Q' hK'
            obtain rfl := Option.some.inj ho
            have e8 : f.tmps[8]?.getD undef = .int .u32 (wI s1) := tmp_of (hf 8)
            simp [go_sem, e8]
            exact hK' _ _ (SlW.stay hI 1 _ rfl)
          | 2, _ =>
            intro S v w1 f o ho hf hI hS hall K' Q' hK'
            obtain rfl := Option.some.inj ho
            have e3 : f.tmps[3]?.getD undef = .slice (some ⟨ga, 0, none⟩) t cp := tmp_of (hf 3)
            simp [go_sem, e3]
            exact hK' _ _ (SlW.stay hI 2 _ rfl)
          | 3, _ =>
            intro S v w1 f o ho hf hI hS hall K' Q' hK'
            obtain rfl := Option.some.inj ho
            have e4 : f.tmps[4]?.getD undef = .int .i64 (t : Int) := tmp_of (hf 4)
            simp [go_sem, e4]
            exact hK' _ _ (SlW.stay hI 3 _ rfl)
          | 4, _ =>
            intro S v w1 f o ho hf hI hS hall K' Q' hK'
            obtain rfl := Option.some.inj ho
            have e80 : f.tmps[80]?.getD undef = .int .i64 (t : Int) := tmp_of ((hf 80).trans (hI.2 3 (by decide) (edge_listed hall 3 (by kernel_rfl))))
            simp [go_sem, e80, i7]
            exact hK' _ _ (SlW.stay hI 4 _ rfl)
          | 5, _ =>
            intro S v w1 f o ho hf hI hS hall K' Q' hK'
            obtain rfl := Option.some.inj ho
            have e79 : f.tmps[79]?.getD undef = .slice (some ⟨ga, 0, none⟩) t cp := tmp_of ((hf 79).trans (hI.2 2 (by decide) (edge_listed hall 2 (by kernel_rfl))))
            have e81 : f.tmps[81]?.getD undef = .int .i64 (p7 : Int) := tmp_of ((hf 81).trans (hI.2 4 (by decide) (edge_listed hall 4 (by kernel_rfl))))
            simp [go_sem, e79, e81, j7a, j7b]
            exact hK' _ _ (SlW.stay hI 5 _ rfl)
          | 6, _ =>
            intro S v w1 f o ho hf hI hS hall K' Q' hK'
            obtain rfl := Option.some.inj ho
            have e82 : f.tmps[82]?.getD undef = .pointer (some ⟨ga, p7, none⟩) := tmp_of ((hf 82).trans (hI.2 5 (by decide) (edge_listed hall 5 (by kernel_rfl))))
            have q := (hI.1.cell (p := ⟨ga, p7, none⟩) (hgr5)).trans z7'
            simp [go_sem, e82, q]
            exact hK' _ _ (SlW.stay hI 6 _ rfl)
          | 7, _ =>
            intro S v w1 f o ho hf hI hS hall K' Q' hK'
            obtain rfl := Option.some.inj ho
            have e78 : f.tmps[78]?.getD undef = .int .u32 (wI s1) := tmp_of ((hf 78).trans (hI.2 1 (by decide) (edge_listed hall 1 (by kernel_rfl))))
            have e83 : f.tmps[83]?.getD undef = .int .u32 (wI x6) := tmp_of ((hf 83).trans (hI.2 6 (by decide) (edge_listed hall 6 (by kernel_rfl))))
            simp [go_sem, e78, e83]
            exact hK' _ _ (SlW.stay hI 7 _ rfl)
          | 8, _ =>
            intro S v w1 f o ho hf hI hS hall K' Q' hK'
            obtain rfl := Option.some.inj ho
            have e7 : f.tmps[7]?.getD undef = .int .u32 (wI s0) := tmp_of (hf 7)
            simp [go_sem, e7]
            exact hK' _ _ (SlW.stay hI 8 _ rfl)
          | 9, _ =>
            intro S v w1 f o ho hf hI hS hall K' Q' hK'
            obtain rfl := Option.some.inj ho
            have e84 : f.tmps[84]?.getD undef = .int .u32 (wI (s1 + x6)) := tmp_of ((hf 84).trans (hI.2 7 (by decide) (edge_listed hall 7 (by kernel_rfl))))
            have e85 : f.tmps[85]?.getD undef = .int .u32 (wI s0) := tmp_of ((hf 85).trans (hI.2 8 (by decide) (edge_listed hall 8 (by kernel_rfl))))
            simp [go_sem, e84, e85]
            exact hK' _ _ (SlW.stay hI 9 _ rfl)
          | 10, _ =>
            intro S v w1 f o ho hf hI hS hall K' Q' hK'
            obtain rfl := Option.some.inj ho
            have e3 : f.tmps[3]?.getD undef = .slice (some ⟨ga, 0, none⟩) t cp := tmp_of (hf 3)
            simp [go_sem, e3]
            exact hK' _ _ (SlW.stay hI 10 _ rfl)
          | 11, _ =>
            intro S v w1 f o ho hf hI hS hall K' Q' hK'
            obtain rfl := Option.some.inj ho
            have e4 : f.tmps[4]?.getD undef = .int .i64 (t : Int) := tmp_of (hf 4)
            simp [go_sem, e4]
            exact hK' _ _ (SlW.stay hI 11 _ rfl)
          | 12, _ =>
            intro S v w1 f o ho hf hI hS hall K' Q' hK'
            obtain rfl := Option.some.inj ho
            have e88 : f.tmps[88]?.getD undef = .int .i64 (t : Int) := tmp_of ((hf 88).trans (hI.2 11 (by decide) (edge_listed hall 11 (by kernel_rfl))))
            simp [go_sem, e88, i16]
            exact hK' _ _ (SlW.stay hI 12 _ rfl)
          | 13, _ =>
            intro S v w1 f o ho hf hI hS hall K' Q' hK'
            obtain rfl := Option.some.inj ho
            have e87 : f.tmps[87]?.getD undef = .slice (some ⟨ga, 0, none⟩) t cp := tmp_of ((hf 87).trans (hI.2 10 (by decide) (edge_listed hall 10 (by kernel_rfl))))
            have e89 : f.tmps[89]?.getD undef = .int .i64 (p16 : Int) := tmp_of ((hf 89).trans (hI.2 12 (by decide) (edge_listed hall 12 (by kernel_rfl))))
            simp [go_sem, e87, e89, j16a, j16b]
            exact hK' _ _ (SlW.stay hI 13 _ rfl)
          | 14, _ =>
            intro S v w1 f o ho hf hI hS hall K' Q' hK'
            obtain rfl := Option.some.inj ho
            have e90 : f.tmps[90]?.getD undef = .pointer (some ⟨ga, p16, none⟩) := tmp_of ((hf 90).trans (hI.2 13 (by decide) (edge_listed hall 13 (by kernel_rfl))))
            have q := (hI.1.cell (p := ⟨ga, p16, none⟩) (hgr5)).trans z16'
            simp [go_sem, e90, q]
            exact hK' _ _ (SlW.stay hI 14 _ rfl)
          | 15, _ =>
            intro S v w1 f o ho hf hI hS hall K' Q' hK'
            obtain rfl := Option.some.inj ho
            have e86 : f.tmps[86]?.getD undef = .int .u32 (wI (s1 + x6 + s0)) := tmp_of ((hf 86).trans (hI.2 9 (by decide) (edge_listed hall 9 (by kernel_rfl))))
            have e91 : f.tmps[91]?.getD undef = .int .u32 (wI x15) := tmp_of ((hf 91).trans (hI.2 14 (by decide) (edge_listed hall 14 (by kernel_rfl))))
            simp [go_sem, e86, e91]
            exact hK' _ _ (SlW.stay hI 15 _ rfl)
          | 16, _ =>
            intro S v w1 f o ho hf hI hS hall K' Q' hK'
            obtain rfl := Option.some.inj ho
            have e92 : f.tmps[92]?.getD undef = .int .u32 (wI (s1 + x6 + s0 + x15)) := tmp_of ((hf 92).trans (hI.2 15 (by decide) (edge_listed hall 15 (by kernel_rfl))))
            have e92 : f.tmps[92]?.getD undef = .int .u32 (wI (s1 + x6 + s0 + x15)) := tmp_of ((hf 92).trans (hI.2 15 (by decide) (edge_listed hall 15 (by kernel_rfl))))
            have hbn : Below w1.heap.size w1 (w1.alloc (.cells #[.int .u32 (wI (s1 + x6 + s0 + x15))] 58)) := (Below.refl _ _).alloc (Nat.le_refl _) _
            have hbm : Below wd.heap.size wd (w1.alloc (.cells #[.int .u32 (wI (s1 + x6 + s0 + x15))] 58)) := hI.1.alloc hI.1.size _
            simp [go_sem, e92]
            exact hK' _ _ (SlW.step hI 16 _ hbm (fun j x h => slX_mono h hbn) ⟨w1.heap.size, rfl, hI.1.size, new_at w1 _⟩)
          | i + 17, hi => exact absurd hi (by omega)
        · intro S v wh hS hI
          have e77 : v 0 = .slice (some ⟨ga, 0, none⟩) t cp := hI.2 0 (by decide) (hS 0 (by decide))
          obtain ⟨kb, e93, hkN, hkb⟩ := hI.2 16 (by decide) (hS 16 (by decide))
          have hgw : Below wd.heap.size wd wh := hI.1
          simp only [putSlots, Act.put, List.setIfInBounds_toArray, List.set_cons_succ, List.set_cons_zero, List.drop_succ_cons, List.drop_zero, e77, e93]
          clear hI hS
          refine zappR rfl _ _ (T := 66) (E := 58) (f := wv) Tryd.underlying66 infoU32 rfl (by decide) (fun _ => rfl) rfl _ rfl kb 1 rfl (s1 + x6 + s0 + x15) (zcell hkb rfl) N L (hO5.below hgw) (by rw [HLL.out]; omega) (Nat.le_trans hz5 hgw.size) ?_
          intro v' w' hO' _ hB'
          rw [← HS2.out] at hO'
          have hB2 : Below N w w' := hB5.trans ((hgw.mono hz5).trans hB')
          have hz2 : N ≤ w'.heap.size := Nat.le_trans (Nat.le_trans hz5 hgw.size) hB'.size
          clear hB' hO5 hB5 hz5 hgw hkb hgr5 e77 e93
          obtain ⟨a', c', rfl⟩ := hO'.slice
          have hl1 : (sched bs (t + 1)).reverse.length = t + 1 := by rw [List.length_reverse, sched_length]
          rw [hl1] at hO' ⊢
          clear hl1
          go_wp2
          go_roundg (64 - (t + 1))
          case measure => omega
          case rel => exact ⟨t + 1, a', c', by omega, rfl, by go_num, rfl, hO', hB2, hz2⟩
    · obtain rfl : t = 64 := by omega
      go_wp2
      go_ret
      exact ⟨_, rfl, by rw [arr_full, ← HN.out]; exact hO, by rw [← HN.out]; exact hBl⟩
end Go.Proofs.YtpkgmoiffegbfaaDoor
