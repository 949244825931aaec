/- Layer 19: the bytes of what is sealed: the walk. Condition: numbers of their kinds. -/
import Derived.Test.YtpkgmoiffegbfaaDoorZSealW
import Derived.Lib.SlBytesConst
namespace Go.Proofs.YtpkgmoiffegbfaaDoor
open Go.RowKit Go.BigFrame
set_option maxRecDepth 100000

def consL : List UInt8 := [99, 111, 110, 115, 105, 103, 110]
def consC : Array Value := #[.int .u8 99, .int .u8 111, .int .u8 110, .int .u8 115, .int .u8 105, .int .u8 103, .int .u8 110]
/-- The bytes of what is sealed. -/
def seB (x : Se) : List UInt8 := consL ++ be8 (u64of x.r) ++ be8 (u64of x.c) ++ be8 x.b.toNat ++ be8 x.n.toNat
theorem be8_length (n : Nat) : (be8 n).length = 8 := rfl
theorem seB_length (x : Se) : (seB x).length = 39 := by simp [seB, be8_length, consL]

def byR (base xb : Nat) (x : Se) (S : Nat → Bool) : Nat → Value → World → Prop
  | 0, u, _ => u = .slice (some ⟨base, 0, none⟩) 7 7
  | 1, u, _ => u = .slice (some ⟨base, 0, none⟩) 7 7
  | 2, u, _ => u = .pointer (some ⟨xb, 0, none⟩)
  | 3, u, _ => u = .int .i64 x.r
  | 4, u, w => S 7 = false → OwnB w base u (consL ++ be8 (u64of x.r))
  | 5, u, _ => u = .pointer (some ⟨xb, 1, none⟩)
  | 6, u, _ => u = .int .i64 x.c
  | _, u, w => OwnB w base u (consL ++ be8 (u64of x.r) ++ be8 (u64of x.c))
def byC (base : Nat) (w0 : World) (S : Nat → Bool) (w : World) : Prop :=
  Below base w0 w ∧ base ≤ w.heap.size ∧ (S 0 = false → w = w0) ∧ (S 0 = true → S 1 = false → w = w0.alloc (.cells consC 5)) ∧ (S 1 = true → S 4 = false → w = w0.alloc (.cells consC 5 (consC.size, consC.size + 1))) ∧ (S 1 = true → S 0 = true) ∧ (S 4 = true → S 1 = true) ∧ (S 7 = true → S 4 = true)
def byI (base xb : Nat) (x : Se) (w0 : World) (S : Nat → Bool) (v : Nat → Value) (w : World) : Prop := byC base w0 S w ∧ ∀ j, j < 8 → S j = true → byR base xb x S j (v j) w
theorem by_plain {base xb : Nat} {x : Se} {w0 : World} {S : Nat → Bool} {v : Nat → Value} {w : World} (h : byI base xb x w0 S v w) (i : Nat) (u : Value) (h0 : i ≠ 0) (h1 : i ≠ 1) (h4 : i ≠ 4) (h7 : i ≠ 7) (hu : byR base xb x S i u w) : byI base xb x w0 (upd S i true) (upd v i u) w := by
  have e : ∀ k, k ≠ i → upd S i true k = S k := fun k hk => if_neg hk
  have hR : ∀ j u', byR base xb x (upd S i true) j u' w = byR base xb x S j u' w := by
    intro j u'
    match j with
    | 0 | 1 | 2 | 3 | 5 | 6 | j + 7 => rfl
    | 4 => show (upd S i true 7 = false → _) = _; rw [e 7 (Ne.symm h7)]; rfl
  obtain ⟨⟨c1, c2, c3, c4, c5, c6, c7, c8⟩, hr⟩ := h
  refine ⟨⟨c1, c2, ?_, ?_, ?_, ?_, ?_, ?_⟩, fun j hj hl => ?_⟩
  · rw [e 0 (Ne.symm h0)]; exact c3
  · rw [e 0 (Ne.symm h0), e 1 (Ne.symm h1)]; exact c4
  · rw [e 1 (Ne.symm h1), e 4 (Ne.symm h4)]; exact c5
  · rw [e 1 (Ne.symm h1), e 0 (Ne.symm h0)]; exact c6
  · rw [e 4 (Ne.symm h4), e 1 (Ne.symm h1)]; exact c7
  · rw [e 7 (Ne.symm h7), e 4 (Ne.symm h4)]; exact c8
  · rw [hR]
    by_cases hji : j = i
    · subst hji; rw [show upd v j u j = u from if_pos rfl]; exact hu
    · rw [show upd v i u j = v j from if_neg hji]
      exact hr j hj (by rw [e j hji] at hl; exact hl)
/-- What the slots of the second row hold. -/
def cyR (base xb : Nat) (x : Se) (v3 : Value) (l : List UInt8) (S : Nat → Bool) : Nat → Value → World → Prop
  | 0, u, _ => u = v3
  | 1, u, _ => u = .pointer (some ⟨xb, 2, none⟩)
  | 2, u, _ => u = .int .u64 x.b
  | 3, u, w => S 6 = false → OwnB w base u (l ++ be8 x.b.toNat)
  | 4, u, _ => u = .pointer (some ⟨xb, 3, none⟩)
  | 5, u, _ => u = .int .u64 x.n
  | _, u, w => OwnB w base u (l ++ be8 x.b.toNat ++ be8 x.n.toNat)
def cyI (base xb : Nat) (x : Se) (v3 : Value) (l : List UInt8) (w0 : World) (S : Nat → Bool) (v : Nat → Value) (w : World) : Prop := (Below base w0 w ∧ base ≤ w.heap.size ∧ (S 3 = false → OwnB w base v3 l) ∧ (S 6 = true → S 3 = true)) ∧ ∀ j, j < 7 → S j = true → cyR base xb x v3 l S j (v j) w
theorem cy_plain {base xb : Nat} {x : Se} {v3 : Value} {l : List UInt8} {w0 : World} {S : Nat → Bool} {v : Nat → Value} {w : World} (h : cyI base xb x v3 l w0 S v w) (i : Nat) (u : Value) (h3 : i ≠ 3) (h6 : i ≠ 6) (hu : cyR base xb x v3 l S i u w) : cyI base xb x v3 l w0 (upd S i true) (upd v i u) w := by
  have e : ∀ k, k ≠ i → upd S i true k = S k := fun k hk => if_neg hk
  have hR : ∀ j u', cyR base xb x v3 l (upd S i true) j u' w = cyR base xb x v3 l S j u' w := by
    intro j u'
    match j with
    | 0 | 1 | 2 | 4 | 5 | j + 6 => rfl
    | 3 => show (upd S i true 6 = false → _) = _; rw [e 6 (Ne.symm h6)]; rfl
  obtain ⟨⟨c1, c2, c3, c4⟩, hr⟩ := h
  refine ⟨⟨c1, c2, ?_, ?_⟩, fun j hj hl => ?_⟩
  · rw [e 3 (Ne.symm h3)]; exact c3
  · rw [e 6 (Ne.symm h6), e 3 (Ne.symm h3)]; exact c4
  · rw [hR]
    by_cases hji : j = i
    · subst hji; rw [show upd v j u j = u from if_pos rfl]; exact hu
    · rw [show upd v i u j = v j from if_neg hji]
      exact hr j hj (by rw [e j hji] at hl; exact hl)
theorem by_new {base xb : Nat} {x : Se} {w0 : World} {S : Nat → Bool} {v : Nat → Value} {w w' : World} (_h : byI base xb x w0 S v w) (i : Nat) (u : Value) (hC : byC base w0 (upd S i true) w') (hk : ∀ j, j < 8 → j ≠ i → S j = true → byR base xb x (upd S i true) j (v j) w') (hu : byR base xb x (upd S i true) i u w') : byI base xb x w0 (upd S i true) (upd v i u) w' := by
  refine ⟨hC, fun j hj hl => ?_⟩
  by_cases hji : j = i
  · subst hji; rw [show upd v j u j = u from if_pos rfl]; exact hu
  · rw [show upd v i u j = v j from if_neg hji]
    rw [show upd S i true j = S j from if_neg hji] at hl
    exact hk j hj hji hl
theorem cy_new {base xb : Nat} {x : Se} {v3 : Value} {l : List UInt8} {w0 : World} {S : Nat → Bool} {v : Nat → Value} {w w' : World} (_h : cyI base xb x v3 l w0 S v w) (i : Nat) (u : Value) (hC : Below base w0 w' ∧ base ≤ w'.heap.size ∧ (upd S i true 3 = false → OwnB w' base v3 l) ∧ (upd S i true 6 = true → upd S i true 3 = true)) (hk : ∀ j, j < 7 → j ≠ i → S j = true → cyR base xb x v3 l (upd S i true) j (v j) w') (hu : cyR base xb x v3 l (upd S i true) i u w') : cyI base xb x v3 l w0 (upd S i true) (upd v i u) w' := by
  refine ⟨hC, fun j hj hl => ?_⟩
  by_cases hji : j = i
  · subst hji; rw [show upd v j u j = u from if_pos rfl]; exact hu
  · rw [show upd v i u j = v j from if_neg hji]
    rw [show upd S i true j = S j from if_neg hji] at hl
    exact hk j hj hji hl

set_option maxHeartbeats 4000000 in
theorem bytes_any (w : World) (x : Se) (ok : x.Ok) :
    Calls Tryd.prog 24 #[.agg x.cells.toArray] w fun e w' => e = .returned (.string ⟨(seB x).toArray⟩) ∧ Below w.heap.size w w' := by
  obtain ⟨okr, okc, okb, okn⟩ := ok
  have HOK := hide (And.intro okr (And.intro okc (And.intro okb okn)))
  clear okr okc okb okn
  go_enter Tryd.func24, Tryd.ntmps24
  go_wp2_with fail
  obtain ⟨xb, hxb⟩ : ∃ xb, xb = w.heap.size := ⟨_, rfl⟩
  have hx2 := new_at w (.cells x.cells.toArray 41)
  have hz2 := World.size_alloc w (.cells x.cells.toArray 41)
  have hB2 : Below xb w (w.alloc (.cells x.cells.toArray 41)) := by rw [hxb]; exact (Below.refl _ _).alloc (Nat.le_refl _) _
  rw [← hxb] at hx2 hz2 ⊢
  have HXB := hide hxb
  clear hxb
  generalize w.alloc (.cells x.cells.toArray 41) = w2 at hx2 hz2 hB2 ⊢
  obtain ⟨base, hbase⟩ : ∃ base, base = w2.heap.size := ⟨_, rfl⟩
  have hxlt : xb < base := by omega
  obtain ⟨w0, hw0⟩ : ∃ w0, w0 = w2.drew := ⟨_, rfl⟩
  have hx0 : w0.heap[xb]? = some (.cells x.cells.toArray 41 (0, 0)) := by rw [hw0]; exact hx2
  have hb0 : w0.heap.size = base := by rw [hw0, hbase]; rfl
  have hB0 : Below xb w w0 := by rw [hw0]; exact hB2.drew
  have HB0 := hide hb0
  clear hz2 hb0
  refine region_slots 8 [4, 5, 6, 7, 8, 9, 10, 11] (by kernel_rfl) (by kernel_rfl) (by decide) rfl 20 rfl (by decide) (by kernel_rfl) (byI base xb x w0) ?_ ?_ ?_
  · intro v
    rw [← hw0]
    exact ⟨⟨Below.refl _ _, Nat.le_of_eq HB0.out.symm, fun _ => rfl, (fun h => by cases h), (fun h => by cases h), (fun h => by cases h), (fun h => by cases h), (fun h => by cases h)⟩, fun _ _ h => by cases h⟩
  · intro i hi
    match i, hi with
    | 0, _ =>
      intro S v w1 f o ho hf hI hS hall K Q' hK
      obtain rfl := Option.some.inj ho
      have ew := hI.1.2.2.1 hS
      subst ew
      have hS1 : S 1 = false := by
        cases h : S 1 with
        | false => rfl
        | true => rw [hI.1.2.2.2.2.2.1 h] at hS; cases hS
      have hS4 : S 4 = false := by
        cases h : S 4 with
        | false => rfl
        | true => rw [hI.1.2.2.2.2.2.2.1 h] at hS1; cases hS1
      have hb := HB0.out
      simp [go_sem]
      rw [hb]
      refine hK _ _ (by_new hI 0 _ ⟨(Below.refl _ _).alloc (by rw [hb]; exact Nat.le_refl _) _, by rw [World.size_alloc]; omega, ?_, ?_, ?_, ?_, ?_, ?_⟩ (fun j hj hj0 hl => ?_) rfl)
      · intro h; cases h
      · intro _ _; rfl
      · intro h; rw [show upd S 0 true 1 = S 1 from rfl, hS1] at h; cases h
      · intro _; rfl
      · exact hI.1.2.2.2.2.2.2.1
      · exact hI.1.2.2.2.2.2.2.2
      · match j, hj, hj0 with
        | 1, _, _ => rw [hS1] at hl; cases hl
        | 2, _, _ => exact hI.2 2 (by decide) hl
        | 3, _, _ => exact hI.2 3 (by decide) hl
        | 4, _, _ => rw [hS4] at hl; cases hl
        | 5, _, _ => exact hI.2 5 (by decide) hl
        | 6, _, _ => exact hI.2 6 (by decide) hl
        | 7, _, _ => rw [hI.1.2.2.2.2.2.2.2 hl] at hS4; cases hS4
        | 0, _, h => exact absurd rfl h
    | 1, _ =>
      intro S v w1 f o ho hf hI hS hall K Q' hK
      obtain rfl := Option.some.inj ho
      have h0 := edge_listed hall 0 (by kernel_rfl)
      have ew := hI.1.2.2.2.1 h0 hS
      subst ew
      have e4 : f.tmps[4]?.getD undef = .slice (some ⟨base, 0, none⟩) 7 7 := tmp_of ((hf 4).trans (hI.2 0 (by decide) (edge_listed hall 0 (by kernel_rfl))))
      have hS4 : S 4 = false := by
        cases h : S 4 with
        | false => rfl
        | true => rw [hI.1.2.2.2.2.2.2.1 h] at hS; cases hS
      have hb := HB0.out
      have hc := Lib.run_convert_bytes_const (P := Tryd.prog) w0 22 5 consC 7 7 Tryd.underlying22 Tryd.underlying5
      rw [hb] at hc
      simp [go_sem, e4, hc]
      refine hK _ _ (by_new hI 1 _ ⟨(Below.refl _ _).alloc (by rw [hb]; exact Nat.le_refl _) _, by rw [World.size_alloc]; omega, ?_, ?_, ?_, ?_, ?_, ?_⟩ (fun j hj hj0 hl => ?_) rfl)
      · intro h; rw [show upd S 1 true 0 = S 0 from rfl, h0] at h; cases h
      · intro _ h; cases h
      · intro _ _; rfl
      · intro _; exact h0
      · intro _; rfl
      · exact hI.1.2.2.2.2.2.2.2
      · match j, hj, hj0 with
        | 0, _, _ => exact hI.2 0 (by decide) hl
        | 2, _, _ => exact hI.2 2 (by decide) hl
        | 3, _, _ => exact hI.2 3 (by decide) hl
        | 4, _, _ => rw [hS4] at hl; cases hl
        | 5, _, _ => exact hI.2 5 (by decide) hl
        | 6, _, _ => exact hI.2 6 (by decide) hl
        | 7, _, _ => rw [hI.1.2.2.2.2.2.2.2 hl] at hS4; cases hS4
        | 1, _, h => exact absurd rfl h
    | 2, _ =>
      intro S v w1 f o ho hf hI hS hall K Q' hK
      obtain rfl := Option.some.inj ho
      have e1 : f.tmps[1]?.getD undef = .pointer (some ⟨xb, 0, none⟩) := tmp_of (hf 1)
      simp [go_sem, e1]
      exact hK _ _ (by_plain hI 2 _ (by decide) (by decide) (by decide) (by decide) rfl)
    | 5, _ =>
      intro S v w1 f o ho hf hI hS hall K Q' hK
      obtain rfl := Option.some.inj ho
      have e1 : f.tmps[1]?.getD undef = .pointer (some ⟨xb, 0, none⟩) := tmp_of (hf 1)
      simp [go_sem, e1]
      exact hK _ _ (by_plain hI 5 _ (by decide) (by decide) (by decide) (by decide) rfl)
    | 3, _ =>
      intro S v w1 f o ho hf hI hS hall K Q' hK
      obtain rfl := Option.some.inj ho
      have e6 : f.tmps[6]?.getD undef = .pointer (some ⟨xb, 0, none⟩) := tmp_of ((hf 6).trans (hI.2 2 (by decide) (edge_listed hall 2 (by kernel_rfl))))
      have c0 : w1.cell? ⟨xb, 0, none⟩ = some (.int .i64 x.r) := (hI.1.1.cell (p := ⟨xb, 0, none⟩) hxlt).trans (zcell hx0 rfl)
      simp [go_sem, e6, c0]
      exact hK _ _ (by_plain hI 3 _ (by decide) (by decide) (by decide) (by decide) rfl)
    | 6, _ =>
      intro S v w1 f o ho hf hI hS hall K Q' hK
      obtain rfl := Option.some.inj ho
      have e9 : f.tmps[9]?.getD undef = .pointer (some ⟨xb, 1, none⟩) := tmp_of ((hf 9).trans (hI.2 5 (by decide) (edge_listed hall 5 (by kernel_rfl))))
      have c1 : w1.cell? ⟨xb, 1, none⟩ = some (.int .i64 x.c) := (hI.1.1.cell (p := ⟨xb, 1, none⟩) hxlt).trans (zcell hx0 rfl)
      simp [go_sem, e9, c1]
      exact hK _ _ (by_plain hI 6 _ (by decide) (by decide) (by decide) (by decide) rfl)
    | 4, _ =>
      intro S v w1 f o ho hf hI hS hall K Q' hK
      obtain rfl := Option.some.inj ho
      have h1 := edge_listed hall 1 (by kernel_rfl)
      have ew := hI.1.2.2.2.2.1 h1 hS
      subst ew
      have e5 : f.tmps[5]?.getD undef = .slice (some ⟨base, 0, none⟩) 7 7 := tmp_of ((hf 5).trans (hI.2 1 (by decide) (edge_listed hall 1 (by kernel_rfl))))
      have e7 : f.tmps[7]?.getD undef = .int .i64 x.r := tmp_of ((hf 7).trans (hI.2 3 (by decide) (edge_listed hall 3 (by kernel_rfl))))
      have hS7 : S 7 = false := by
        cases h : S 7 with
        | false => rfl
        | true => rw [hI.1.2.2.2.2.2.2.2 h] at hS; cases hS
      have hb := HB0.out
      have hn := new_at w0 (.cells consC 5 (consC.size, consC.size + 1))
      rw [hb] at hn
      have hA : AppB (w0.alloc (.cells consC 5 (consC.size, consC.size + 1))) base (.slice (some ⟨base, 0, none⟩) 7 7) consL := .inr ⟨base, rfl, zlt hn, fun j u hu => zcell hn (by rw [← hu]; simp [consC, consL, Lib.byteCells])⟩
      simp [go_sem, e5, e7]
      refine (eightI_any _ base _ consL x.r HOK.out.1 hA (by decide) (by rw [World.size_alloc]; omega)).mono ?_
      rintro e w2 ⟨v', rfl, hO, hB⟩
      refine hK _ _ (by_new hI 4 _ ⟨((Below.refl base w0).alloc (by rw [hb]; exact Nat.le_refl _) _).trans hB, Nat.le_trans (by rw [World.size_alloc]; omega) hB.size, ?_, ?_, ?_, ?_, ?_, ?_⟩ (fun j hj hj0 hl => ?_) ?_)
      · intro h; rw [show upd S 4 true 0 = S 0 from rfl, hI.1.2.2.2.2.2.1 h1] at h; cases h
      · intro _ h; rw [show upd S 4 true 1 = S 1 from rfl, h1] at h; cases h
      · intro _ h; cases h
      · exact hI.1.2.2.2.2.2.1
      · intro _; exact h1
      · intro _; rfl
      · match j, hj, hj0 with
        | 0, _, _ => exact hI.2 0 (by decide) hl
        | 1, _, _ => exact hI.2 1 (by decide) hl
        | 2, _, _ => exact hI.2 2 (by decide) hl
        | 3, _, _ => exact hI.2 3 (by decide) hl
        | 5, _, _ => exact hI.2 5 (by decide) hl
        | 6, _, _ => exact hI.2 6 (by decide) hl
        | 7, _, _ => rw [hS7] at hl; cases hl
        | 4, _, h => exact absurd rfl h
      · intro _; exact hO
    | 7, _ =>
      intro S v w1 f o ho hf hI hS hall K Q' hK
      obtain rfl := Option.some.inj ho
      have h4 := edge_listed hall 4 (by kernel_rfl)
      have hO4 : OwnB w1 base (v 4) (consL ++ be8 (u64of x.r)) := hI.2 4 (by decide) h4 hS
      have e8 : f.tmps[8]?.getD undef = v 4 := tmp_of (hf 8)
      have e10 : f.tmps[10]?.getD undef = .int .i64 x.c := tmp_of ((hf 10).trans (hI.2 6 (by decide) (edge_listed hall 6 (by kernel_rfl))))
      simp [go_sem, e8, e10]
      refine (eightI_any w1 base _ _ x.c HOK.out.2.1 (.inl hO4) (by simp [be8_length, consL]) hI.1.2.1).mono ?_
      rintro e w2 ⟨v', rfl, hO, hB⟩
      have h1 := hI.1.2.2.2.2.2.2.1 h4
      refine hK _ _ (by_new hI 7 _ ⟨hI.1.1.trans hB, Nat.le_trans hI.1.2.1 hB.size, ?_, ?_, ?_, hI.1.2.2.2.2.2.1, hI.1.2.2.2.2.2.2.1, fun _ => h4⟩ (fun j hj hj0 hl => ?_) hO)
      · intro h; rw [show upd S 7 true 0 = S 0 from rfl, hI.1.2.2.2.2.2.1 h1] at h; cases h
      · intro _ h; rw [show upd S 7 true 1 = S 1 from rfl, h1] at h; cases h
      · intro _ h; rw [show upd S 7 true 4 = S 4 from rfl, h4] at h; cases h
      · match j, hj, hj0 with
        | 0, _, _ => exact hI.2 0 (by decide) hl
        | 1, _, _ => exact hI.2 1 (by decide) hl
        | 2, _, _ => exact hI.2 2 (by decide) hl
        | 3, _, _ => exact hI.2 3 (by decide) hl
        | 4, _, _ => intro h; cases h
        | 5, _, _ => exact hI.2 5 (by decide) hl
        | 6, _, _ => exact hI.2 6 (by decide) hl
        | 7, _, h => exact absurd rfl h
    | i + 8, hi => exact absurd hi (by omega)
  · intro S v wh hS hI
    have hO : OwnB wh base (v 7) (consL ++ be8 (u64of x.r) ++ be8 (u64of x.c)) := hI.2 7 (by decide) (hS 7 (by decide))
    have hBw := hI.1.1
    have hZw := hI.1.2.1
    obtain ⟨v3, e7⟩ : ∃ v3, v 7 = v3 := ⟨_, rfl⟩
    rw [e7] at hO
    simp only [putSlots, Act.put, List.setIfInBounds_toArray, List.set_cons_succ, List.set_cons_zero, List.drop_succ_cons, List.drop_zero, e7]
    clear hI hS e7
    have hxh : wh.heap[xb]? = some (.cells x.cells.toArray 41 (0, 0)) := (hBw.block xb hxlt).trans hx0
    have hBx : Below xb w wh := hB0.trans (hBw.mono (by omega))
    have hll : (consL ++ be8 (u64of x.r) ++ be8 (u64of x.c)).length = 23 := by simp [be8_length, consL]
    obtain ⟨l, hl⟩ : ∃ l, l = consL ++ be8 (u64of x.r) ++ be8 (u64of x.c) := ⟨_, rfl⟩
    rw [← hl] at hO hll
    have HL := hide hl
    clear hl hBw hx0 hB0
    go_upto_region 2 with (fail)
    refine region_slots 7 [12, 13, 14, 15, 16, 17, 18] (by kernel_rfl) (by kernel_rfl) (by decide) rfl 20 rfl (by decide) (by kernel_rfl) (cyI base xb x v3 l wh) ?_ ?_ ?_
    · intro v'
      exact ⟨⟨(Below.refl _ _).drew, hZw, (fun _ => hO), (fun h => by cases h)⟩, fun _ _ h => by cases h⟩
    · intro i hi
      match i, hi with
      | 0, _ =>
        intro S v w1 f o ho hf hI hS hall K Q' hK
        obtain rfl := Option.some.inj ho
        have e3 : f.tmps[3]?.getD undef = v3 := tmp_of (hf 3)
        simp [go_sem, e3]
        exact hK _ _ (cy_plain hI 0 _ (by decide) (by decide) rfl)
      | 1, _ =>
        intro S v w1 f o ho hf hI hS hall K Q' hK
        obtain rfl := Option.some.inj ho
        have e1 : f.tmps[1]?.getD undef = .pointer (some ⟨xb, 0, none⟩) := tmp_of (hf 1)
        simp [go_sem, e1]
        exact hK _ _ (cy_plain hI 1 _ (by decide) (by decide) rfl)
      | 4, _ =>
        intro S v w1 f o ho hf hI hS hall K Q' hK
        obtain rfl := Option.some.inj ho
        have e1 : f.tmps[1]?.getD undef = .pointer (some ⟨xb, 0, none⟩) := tmp_of (hf 1)
        simp [go_sem, e1]
        exact hK _ _ (cy_plain hI 4 _ (by decide) (by decide) rfl)
      | 2, _ =>
        intro S v w1 f o ho hf hI hS hall K Q' hK
        obtain rfl := Option.some.inj ho
        have e13 : f.tmps[13]?.getD undef = .pointer (some ⟨xb, 2, none⟩) := tmp_of ((hf 13).trans (hI.2 1 (by decide) (edge_listed hall 1 (by kernel_rfl))))
        have c2 : w1.cell? ⟨xb, 2, none⟩ = some (.int .u64 x.b) := (hI.1.1.cell (p := ⟨xb, 2, none⟩) hxlt).trans (zcell hxh rfl)
        simp [go_sem, e13, c2]
        exact hK _ _ (cy_plain hI 2 _ (by decide) (by decide) rfl)
      | 5, _ =>
        intro S v w1 f o ho hf hI hS hall K Q' hK
        obtain rfl := Option.some.inj ho
        have e16 : f.tmps[16]?.getD undef = .pointer (some ⟨xb, 3, none⟩) := tmp_of ((hf 16).trans (hI.2 4 (by decide) (edge_listed hall 4 (by kernel_rfl))))
        have c3 : w1.cell? ⟨xb, 3, none⟩ = some (.int .u64 x.n) := (hI.1.1.cell (p := ⟨xb, 3, none⟩) hxlt).trans (zcell hxh rfl)
        simp [go_sem, e16, c3]
        exact hK _ _ (cy_plain hI 5 _ (by decide) (by decide) rfl)
      | 3, _ =>
        intro S v w1 f o ho hf hI hS hall K Q' hK
        obtain rfl := Option.some.inj ho
        have e12 : f.tmps[12]?.getD undef = v3 := tmp_of ((hf 12).trans (hI.2 0 (by decide) (edge_listed hall 0 (by kernel_rfl))))
        have e14 : f.tmps[14]?.getD undef = .int .u64 x.b := tmp_of ((hf 14).trans (hI.2 2 (by decide) (edge_listed hall 2 (by kernel_rfl))))
        have hO3 := hI.1.2.2.1 hS
        have hn : x.b = ((x.b.toNat : Nat) : Int) := (Int.toNat_of_nonneg HOK.out.2.2.1.1).symm
        simp [go_sem, e12, e14]
        rw [hn]
        refine (eightU_any w1 base _ _ x.b.toNat (.inl hO3) (by omega) hI.1.2.1).mono ?_
        rintro e w2 ⟨v', rfl, hO', hB⟩
        have hS6 : S 6 = false := by
          cases h : S 6 with
          | false => rfl
          | true => rw [hI.1.2.2.2 h] at hS; cases hS
        refine hK _ _ (cy_new hI 3 _ ⟨hI.1.1.trans hB, Nat.le_trans hI.1.2.1 hB.size, (fun h => by cases h), fun _ => rfl⟩ (fun j hj hj0 hl => ?_) (fun _ => hO'))
        match j, hj, hj0 with
        | 0, _, _ => exact hI.2 0 (by decide) hl
        | 1, _, _ => exact hI.2 1 (by decide) hl
        | 2, _, _ => exact hI.2 2 (by decide) hl
        | 4, _, _ => exact hI.2 4 (by decide) hl
        | 5, _, _ => exact hI.2 5 (by decide) hl
        | 6, _, _ => rw [hS6] at hl; cases hl
        | 3, _, h => exact absurd rfl h
      | 6, _ =>
        intro S v w1 f o ho hf hI hS hall K Q' hK
        obtain rfl := Option.some.inj ho
        have h3 := edge_listed hall 3 (by kernel_rfl)
        have hO3 : OwnB w1 base (v 3) (l ++ be8 x.b.toNat) := hI.2 3 (by decide) h3 hS
        have e15 : f.tmps[15]?.getD undef = v 3 := tmp_of (hf 15)
        have e17 : f.tmps[17]?.getD undef = .int .u64 x.n := tmp_of ((hf 17).trans (hI.2 5 (by decide) (edge_listed hall 5 (by kernel_rfl))))
        have hn : x.n = ((x.n.toNat : Nat) : Int) := (Int.toNat_of_nonneg HOK.out.2.2.2.1).symm
        simp [go_sem, e15, e17]
        rw [hn]
        refine (eightU_any w1 base _ _ x.n.toNat (.inl hO3) (by simp [be8_length]; omega) hI.1.2.1).mono ?_
        rintro e w2 ⟨v', rfl, hO', hB⟩
        refine hK _ _ (cy_new hI 6 _ ⟨hI.1.1.trans hB, Nat.le_trans hI.1.2.1 hB.size, (fun h => by rw [show upd S 6 true 3 = S 3 from rfl, h3] at h; cases h), fun _ => h3⟩ (fun j hj hj0 hl => ?_) hO')
        match j, hj, hj0 with
        | 0, _, _ => exact hI.2 0 (by decide) hl
        | 1, _, _ => exact hI.2 1 (by decide) hl
        | 2, _, _ => exact hI.2 2 (by decide) hl
        | 3, _, _ => intro h; cases h
        | 4, _, _ => exact hI.2 4 (by decide) hl
        | 5, _, _ => exact hI.2 5 (by decide) hl
        | 6, _, h => exact absurd rfl h
      | i + 7, hi => exact absurd hi (by omega)
    · intro S v wz hS hI
      have hOz : OwnB wz base (v 6) (l ++ be8 x.b.toNat ++ be8 x.n.toNat) := hI.2 6 (by decide) (hS 6 (by decide))
      have hBz := hI.1.1
      obtain ⟨v6, e6⟩ : ∃ v6, v 6 = v6 := ⟨_, rfl⟩
      rw [e6] at hOz
      simp only [putSlots, Act.put, List.setIfInBounds_toArray, List.set_cons_succ, List.set_cons_zero, List.drop_succ_cons, List.drop_zero, e6]
      clear hI hS e6
      have hse : l ++ be8 x.b.toNat ++ be8 x.n.toNat = seB x := by rw [HL.out]; rfl
      rw [hse] at hOz
      refine zstring rfl _ _ _ rfl Tryd.underlying22 Tryd.underlying9 _ rfl base (seB x) hOz (by intro e; have h := seB_length x; rw [e] at h; cases h) ?_
      go_wp2
      go_ret
      have := hBx.trans (hBz.mono (by omega))
      rw [HXB.out] at this
      exact ⟨rfl, this⟩
end Go.Proofs.YtpkgmoiffegbfaaDoor
