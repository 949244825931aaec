/- Layer 23, StrikeOrder, of all offences: the walk. Condition: the offences lie in a slice. -/
import Derived.Test.YtohnagmkbjdlmaaSOrdA
import Derived.Deep.LoopGhost
import Derived.Deep.CutRange
import Derived.Maps.AppendAt
namespace Go.Proofs.Ytohnagmkbjdlmaa
open Go.RowKit Go.BigFrame Go.Shelf
set_option maxRecDepth 100000

theorem grown_of_below {w w' : World} (h : Below w.heap.size w w') : w.grownBy w' none := ⟨h.os, h.tape, h.output, h.size, fun k hk _ => h.block k hk⟩
def RowIs (w : World) (N : Nat) (u : Value) (n : Nat) (xs : List Nat) : Prop := w.ownsRow N 5 1 u n (xs.map encB) ∧ ∃ g cap, u = .slice (some ⟨g, 0, none⟩) n cap
theorem RowIs.below {w w' : World} {N : Nat} {u : Value} {n : Nat} {xs : List Nat} (h : RowIs w N u n xs) (hb : Below w.heap.size w w') : RowIs w' N u n xs :=
  ⟨h.1.kept (grown_of_below hb) (by cases hv : u.ownBlock <;> simp), h.2⟩
def TalIs (w : World) (N : Nat) (u : Value) (cs : List Nat) : Prop := ∃ tb, u = .pointer (some ⟨tb, 0, none⟩) ∧ IsTally w tb cs 8 ∧ N ≤ tb
theorem TalIs.below {w w' : World} {N : Nat} {u : Value} {cs : List Nat} (h : TalIs w N u cs) (hb : Below w.heap.size w w') : TalIs w' N u cs := by
  obtain ⟨tb, e, ht, hN⟩ := h
  exact ⟨tb, e, ht.below hb, hN⟩
theorem TalIs.app {w w' : World} {N N' : Nat} {u v : Value} {cs : List Nat} {n : Nat} {xs : List Nat} (h : TalIs w N u cs) (hr : RowIs w N' v n xs) (hg : w.grownBy w' v.ownBlock) : TalIs w' N u cs := by
  obtain ⟨tb, e, ht, hN⟩ := h
  refine ⟨tb, e, ht.on (hg.block tb ht.lt fun e2 => ?_), hN⟩
  obtain ⟨ho, g, cap, rfl⟩ := hr
  rcases ho.2 with ⟨h, _⟩ | ⟨g', cap', cur, e3, _, hgb, _⟩
  · cases h
  · cases e3
    have e4 : tb = g := by simpa [Value.ownBlock] using e2
    have := ht.at_
    rw [e4, hgb] at this
    cases this
theorem news_drop (b off m cap k : Nat) (l : List Nat) (w : World) (hl : l.length = m) (hkm : k ≤ m) (hmc : m ≤ cap) (hc : ∀ j, (h : j < l.length) → w.cell? ⟨b, off + j, none⟩ = some (encB l[j])) :
    NewsAt w (.slice (if cap = k then some ⟨b, off, none⟩ else some ⟨b, off + k, none⟩) (m - k) (cap - k)) (m - k) (l.drop k) := by
  refine ⟨by simp [hl], ?_⟩
  by_cases h : cap = k
  · rw [if_pos h]
    refine .inr ⟨⟨b, off, none⟩, cap - k, rfl, fun j hj => ?_⟩
    simp at hj
    omega
  · rw [if_neg h]
    refine .inr ⟨⟨b, off + k, none⟩, cap - k, rfl, fun j hj => ?_⟩
    have hj' : k + j < l.length := by simp at hj; omega
    rw [Addr.add_mid, Nat.add_assoc, hc (k + j) hj', List.getElem_drop]
theorem exec_app (ρ : Operand → Value) (dst : Option Tmp) (ty : TypeId) (pos : String) (after : Array Edge) (guard : Option (Nat × Bool)) (x y : Operand) (v u r : Value) (w w2 : World) (hx : ρ x = v) (hy : ρ y = u)
    (hrun : (Builtin.append_ #[22, 22] ty #[v, u]).run Try.prog w = .ok r w2) :
    (execOp ρ ⟨dst, Op.call { callee := Callee.builtin Builtin.append, args := #[x, y], argTypes := #[22, 22] }, ty, pos, after, guard⟩).run Try.prog w = .ok (.value r) w2 := by
  simp [execOp, resolve, invoke, builtin, hx, hy, hrun, Result.andThen]
theorem row_own {w : World} {N n : Nat} {u : Value} {xs : List Nat} (h : RowIs w N u n xs) : ∀ k, u.ownBlock = some k → N ≤ k := fun k hk => (h.1.lt k hk).1
theorem RowIs.offs {w : World} {N n : Nat} {u : Value} {xs : List Nat} (h : RowIs w N u n xs) (hn : xs.length = n) : OffsAt w u xs := by
  obtain ⟨ho, g, cap, rfl⟩ := h
  refine .inr ⟨g, 0, cap, by rw [hn], (ho.lt g rfl).2, fun j hj => ?_⟩
  have hc := ho.cells (g := g) rfl j (encB xs[j]) (by simp [hj])
  have e : (⟨g, 0, none⟩ : Addr).add j = ⟨g, 0 + j, none⟩ := by unfold Addr.add; split <;> simp_all
  rw [← e]
  exact hc
theorem rowi_ints {w : World} {N n : Nat} {v : Value} {xs : List Nat} (ho : w.ownsRow N 3 1 v n (xs.map encI)) (hn : xs.length = n) : IntsAt w v (ints xs) := by
  rcases ho.2 with ⟨rfl, rfl⟩ | ⟨g, cap, cur, rfl, hNg, hgb, hrest⟩
  · obtain rfl : xs = [] := List.length_eq_zero_iff.1 hn
    exact .inl ⟨⟨none, 0, rfl⟩, rfl⟩
  · refine .inr ⟨g, 0, cap, by simp [ints, hn], fun j hj => ?_⟩
    have hj' : j < xs.length := by simpa [ints] using hj
    have hc := ho.cells (g := g) rfl j (encI xs[j]) (by simp [hj'])
    have e : (⟨g, 0, none⟩ : Addr).add j = ⟨g, 0 + j, none⟩ := by unfold Addr.add; split <;> simp_all
    rw [← e, hc]
    simp [ints, encI]
theorem rowi_drewN {w : World} {N n : Nat} {v : Value} {xs : List Value} (ho : w.ownsRow N 3 1 v n xs) (k : Nat) : (w.drewN k).ownsRow N 3 1 v n xs := ho
theorem IsTally.row {w w' : World} {tb N n : Nat} {cs : List Nat} {v : Value} {xs : List Value} {o : Obj} (h : IsTally w tb cs 8) (ho : w.ownsRow N 3 1 v n xs) (hg : (w.alloc o).grownBy w' v.ownBlock) : IsTally w' tb cs 8 := by
  have h1 := h.below ((Below.refl w.heap.size w).alloc (Nat.le_refl _) o)
  refine h1.on (hg.block tb h1.lt fun e2 => ?_)
  rcases ho.2 with ⟨rfl, _⟩ | ⟨g, cap, cur, rfl, _, hgb, _⟩
  · cases e2
  · have e4 : tb = g := by simpa [Value.ownBlock] using e2
    have := h.at_
    rw [e4, hgb] at this
    cases this
/-- What the slots of the region hold. -/
def ordR (w0 : World) (N : Nat) (a : Option Addr) (m cap k : Nat) (l : List Nat) (L : Nat → Bool) : Nat → Value → World → Prop
  | 1, u, w => TalIs w N u (cnt l)
  | 2, u, w => L 6 = false → RowIs w N u 0 []
  | 4, u, _ => u = .int .i64 (k : Int)
  | 5, u, _ => ∀ w', Below N w0 w' → NewsAt w' u (m - k) (l.drop k)
  | 6, u, w => L 10 = false → RowIs w N u (m - k) (l.drop k)
  | 8, u, _ => u = .int .i64 (k : Int)
  | 9, u, _ => ∀ w', Below N w0 w' → NewsAt w' u k (l.take k)
  | 10, u, w => RowIs w N u m (l.drop k ++ l.take k)
  | 11, u, w => TalIs w N u (cnt l)
  | 12, u, w => TalIs w N u (cnt l)
  | _, u, _ => u = .slice a m cap
def ordC (w0 : World) (N : Nat) (L : Nat → Bool) (w : World) : Prop := Below N w0 w ∧ N ≤ w.heap.size ∧ (L 10 = true → L 6 = true) ∧ (L 11 = true → L 10 = true)
theorem ord_step {w0 : World} {N : Nat} {a : Option Addr} {m cap k : Nat} {l : List Nat} {L : Nat → Bool} {v : Nat → Value} {w1 w2 : World} (h : ordC w0 N L w1 ∧ ∀ j, j < 13 → L j = true → ordR w0 N a m cap k l L j (v j) w1) (i : Nat) (u : Value)
    (hC : ordC w0 N (upd L i true) w2) (hk : ∀ j, j < 13 → j ≠ i → L j = true → ∀ x, ordR w0 N a m cap k l L j x w1 → ordR w0 N a m cap k l (upd L i true) j x w2) (hR : ordR w0 N a m cap k l (upd L i true) i u w2) :
    ordC w0 N (upd L i true) w2 ∧ ∀ j, j < 13 → upd L i true j = true → ordR w0 N a m cap k l (upd L i true) j (upd v i u j) w2 := by
  refine ⟨hC, fun j hj hl => ?_⟩
  by_cases hji : j = i
  · subst hji; rw [show upd v j u j = u from if_pos rfl]; exact hR
  · rw [show upd v i u j = v j from if_neg hji]
    rw [show upd L i true j = L j from if_neg hji] at hl
    exact hk j hj hji hl _ (h.2 j hj hl)
/-- A step that only makes memory keeps all that it does not itself turn. -/
theorem ord_keep {w0 : World} {N : Nat} {a : Option Addr} {m cap k : Nat} {l : List Nat} {L : Nat → Bool} {w1 w2 : World} (hb : Below w1.heap.size w1 w2) (i : Nat) (j : Nat) (x : Value) (h : ordR w0 N a m cap k l L j x w1) : ordR w0 N a m cap k l (upd L i true) j x w2 := by
  have hu : ∀ q, upd L i true q = false → L q = false := fun q hq => by
    unfold upd at hq
    split at hq
    · cases hq
    · exact hq
  match j, h with
  | 0, h | 3, h | 4, h | 5, h | 7, h | 8, h | 9, h => exact h
  | 1, h | 11, h | 12, h => exact h.below hb
  | 2, h => exact fun hf => (h (hu 6 hf)).below hb
  | 6, h => exact fun hf => (h (hu 10 hf)).below hb
  | 10, h => exact h.below hb
  | j + 13, h => exact h
theorem ordC_keep {w0 : World} {N : Nat} {L : Nat → Bool} {w1 w2 : World} (h : ordC w0 N L w1) (hb : Below w1.heap.size w1 w2) (i : Nat) (h10 : i ≠ 10) (h11 : i ≠ 11) : ordC w0 N (upd L i true) w2 := by
  obtain ⟨hB, hN, h1, h2⟩ := h
  refine ⟨hB.trans (hb.mono hN), Nat.le_trans hN hb.size, fun h => ?_, fun h => ?_⟩
  · rw [show upd L i true 10 = L 10 from if_neg (Ne.symm h10)] at h
    unfold upd
    split
    · rfl
    · exact h1 h
  · rw [show upd L i true 11 = L 11 from if_neg (Ne.symm h11)] at h
    unfold upd
    split
    · rfl
    · exact h2 h

set_option maxHeartbeats 8000000 in
theorem order_any (a : Option Addr) (len0 cap m y k : Nat) (l : List Nat) (w : World) (hm : m = min len0 60) (hl : l.length = m) (hlen : len0 ≤ cap) (hcap : cap ≤ 9223372036854775807) (hy : y < 256) (hk : k = y % (m + 1)) (hx : ∀ x ∈ l, x < 256)
    (hA : cap = 0 ∨ ∃ b off, a = some ⟨b, off, none⟩ ∧ b < w.heap.size ∧ ∀ j, (h : j < l.length) → w.cell? ⟨b, off + j, none⟩ = some (encB l[j])) :
    Calls Try.prog 3 #[.slice a len0 cap, .int .u8 (y : Int)] w fun e w' => e = .returned (.bool true) ∧ Below w.heap.size w w' := by
  have hm60 : m ≤ 60 := by omega
  have hkm : k ≤ m := by have := Nat.mod_lt y (show 0 < m + 1 by omega); omega
  have hky : (y : Int) % ((m : Int) + 1) = (k : Int) := by rw [hk]; simp
  have HA := Lib.hid hA
  have HX := Lib.hid hx
  have HL := Lib.hid hl
  have HM := Lib.hid hm
  clear hA hx hm hk
  go_enter Try.func3, Try.ntmps3
  go_wp2_with fail
  refine (works_any _).mono ?_
  rintro e w1 ⟨rfl, hb1⟩
  go_upto_region 3 with (fail)
  go_cut [0] from 14 (fun v0 wc => v0 = .slice a m cap ∧ wc = w1)
  case first =>
    have hmm := HM.out
    rcases HA.out with rfl | ⟨b, off, rfl, _, _⟩
    · obtain rfl : len0 = 0 := by omega
      obtain rfl : m = 0 := by omega
      clear hmm
      cases a with
      | none =>
        go_wp2
        go_meet
        case rel => exact ⟨rfl, rfl⟩
      | some x =>
        go_wp2
        go_meet
        case rel => exact ⟨rfl, rfl⟩
    by_cases h60 : len0 ≤ 60
    · obtain rfl : m = len0 := by omega
      clear hmm
      go_wp2
      go_meet
      case rel => exact ⟨rfl, rfl⟩
    · obtain rfl : m = 60 := by omega
      clear hmm
      go_wp2
      go_meet
      case rel => exact ⟨rfl, rfl⟩
  case rest =>
    obtain ⟨rfl, rfl⟩ := hcut
    obtain ⟨N, hN⟩ : ∃ N, N = w.heap.size := ⟨_, rfl⟩
    have hA2 := HA.out
    rw [← hN] at hA2 hb1
    have HA2 := Lib.hid hA2
    clear hA2
    have HNN := Lib.hid hN
    have hN1 : N ≤ wc.heap.size := by rw [hN]; exact hb1.size
    clear hN
    go_wp2
    rw [hky]
    have hkc : k ≤ cap := by have := HM.out; omega
    have hmc : m ≤ cap := by have := HM.out; omega
    refine region_slots 13 [25, 26, 27, 28, 29, 30, 31, 32, 33, 34, 35, 36, 6] (by kernel_rfl) (by kernel_rfl) (by decide) rfl 113 rfl (by decide) (by kernel_rfl)
      (fun L v w' => ordC w N L w' ∧ ∀ j, j < 13 → L j = true → ordR w N a m cap k l L j (v j) w') ?_ ?_ ?_
    · exact fun v => ⟨⟨hb1.drew, hN1, fun h => Bool.noConfusion h, fun h => Bool.noConfusion h⟩, fun _ _ h => Bool.noConfusion h⟩
    · intro i hi
      match i, hi with
      | 0, _ =>
        intro L v w1 f o ho hf hI hL hall K Q' hK
        obtain rfl := Option.some.inj ho
        have e0 : f.tmps[0]?.getD undef = .slice a m cap := tmp_of (hf 0)
        simp [go_sem, e0]
        exact hK _ _ (ord_step hI 0 _ (ordC_keep hI.1 (Below.refl _ _) 0 (by decide) (by decide)) (fun j _ _ _ x h => ord_keep (Below.refl _ _) 0 j x h) rfl)
      | 3, _ =>
        intro L v w1 f o ho hf hI hL hall K Q' hK
        obtain rfl := Option.some.inj ho
        have e0 : f.tmps[0]?.getD undef = .slice a m cap := tmp_of (hf 0)
        simp [go_sem, e0]
        exact hK _ _ (ord_step hI 3 _ (ordC_keep hI.1 (Below.refl _ _) 3 (by decide) (by decide)) (fun j _ _ _ x h => ord_keep (Below.refl _ _) 3 j x h) rfl)
      | 7, _ =>
        intro L v w1 f o ho hf hI hL hall K Q' hK
        obtain rfl := Option.some.inj ho
        have e0 : f.tmps[0]?.getD undef = .slice a m cap := tmp_of (hf 0)
        simp [go_sem, e0]
        exact hK _ _ (ord_step hI 7 _ (ordC_keep hI.1 (Below.refl _ _) 7 (by decide) (by decide)) (fun j _ _ _ x h => ord_keep (Below.refl _ _) 7 j x h) rfl)
      | 4, _ =>
        intro L v w1 f o ho hf hI hL hall K Q' hK
        obtain rfl := Option.some.inj ho
        have e5 : f.tmps[5]?.getD undef = .int .i64 (k : Int) := tmp_of (hf 5)
        simp [go_sem, e5]
        exact hK _ _ (ord_step hI 4 _ (ordC_keep hI.1 (Below.refl _ _) 4 (by decide) (by decide)) (fun j _ _ _ x h => ord_keep (Below.refl _ _) 4 j x h) rfl)
      | 8, _ =>
        intro L v w1 f o ho hf hI hL hall K Q' hK
        obtain rfl := Option.some.inj ho
        have e5 : f.tmps[5]?.getD undef = .int .i64 (k : Int) := tmp_of (hf 5)
        simp [go_sem, e5]
        exact hK _ _ (ord_step hI 8 _ (ordC_keep hI.1 (Below.refl _ _) 8 (by decide) (by decide)) (fun j _ _ _ x h => ord_keep (Below.refl _ _) 8 j x h) rfl)
      | 1, _ =>
        intro L v w1 f o ho hf hI hL hall K Q' hK
        obtain rfl := Option.some.inj ho
        have e25 : f.tmps[25]?.getD undef = .slice a m cap := tmp_of ((hf 25).trans (hI.2 0 (by decide) (edge_listed hall 0 (by kernel_rfl))))
        simp [go_sem, e25]
        refine (added_any _ l w1 ?_ (by omega) HX.out).mono ?_
        · rcases HA2.out with rfl | ⟨b, off, rfl, hb, hc⟩
          · obtain rfl : m = 0 := by omega
            exact .inl ⟨⟨a, 0, rfl⟩, List.length_eq_zero_iff.1 HL.out⟩
          · refine .inr ⟨b, off, cap, by rw [HL.out], Nat.lt_of_lt_of_le hb hI.1.2.1, fun j hj => ?_⟩
            exact (hI.1.1.cell (p := ⟨b, off + j, none⟩) hb).trans (hc j hj)
        rintro e w2 ⟨rfl, ht2, hb2⟩
        rw [List.take_of_length_le (by omega)] at ht2
        exact hK _ _ (ord_step hI 1 _ (ordC_keep hI.1 hb2 1 (by decide) (by decide)) (fun j _ _ _ x h => ord_keep hb2 1 j x h) ⟨_, rfl, ht2, hI.1.2.1⟩)
      | 2, _ =>
        intro L v w1 f o ho hf hI hL hall K Q' hK
        obtain rfl := Option.some.inj ho
        simp [go_sem]
        refine hK _ _ (ord_step hI 2 _ (ordC_keep hI.1 ((Below.refl _ _).alloc (Nat.le_refl _) _) 2 (by decide) (by decide)) (fun j _ _ _ x h => ord_keep ((Below.refl _ _).alloc (Nat.le_refl _) _) 2 j x h) ?_)
        exact fun _ => ⟨World.ownsRow_made w1 #[] 0 hI.1.2.1 (by decide) rfl, w1.heap.size, 0, rfl⟩
      | 5, _ =>
        intro L v w1 f o ho hf hI hL hall K Q' hK
        obtain rfl := Option.some.inj ho
        have e28 : f.tmps[28]?.getD undef = .slice a m cap := tmp_of ((hf 28).trans (hI.2 3 (by decide) (edge_listed hall 3 (by kernel_rfl))))
        have e29 : f.tmps[29]?.getD undef = .int .i64 (k : Int) := tmp_of ((hf 29).trans (hI.2 4 (by decide) (edge_listed hall 4 (by kernel_rfl))))
        rcases HA2.out with rfl | ⟨b, off, rfl, hb, hc⟩
        · obtain rfl : m = 0 := by omega
          obtain rfl : k = 0 := by omega
          cases a with
          | none =>
            simp [go_sem, e28, e29]
            refine hK _ _ (ord_step hI 5 _ (ordC_keep hI.1 (Below.refl _ _) 5 (by decide) (by decide)) (fun j _ _ _ x h => ord_keep (Below.refl _ _) 5 j x h) ?_)
            intro w' hw'
            exact ⟨by simp [HL.out], .inl ⟨rfl, rfl⟩⟩
          | some x =>
            simp [go_sem, e28, e29]
            refine hK _ _ (ord_step hI 5 _ (ordC_keep hI.1 (Below.refl _ _) 5 (by decide) (by decide)) (fun j _ _ _ x h => ord_keep (Below.refl _ _) 5 j x h) ?_)
            intro w' hw'
            exact ⟨by simp [HL.out], .inr ⟨x, 0, rfl, fun j hj => absurd hj (by have := HL.out; simp <;> omega)⟩⟩
        · simp [go_sem, e28, e29, hkm]
          refine hK _ _ (ord_step hI 5 _ (ordC_keep hI.1 (Below.refl _ _) 5 (by decide) (by decide)) (fun j _ _ _ x h => ord_keep (Below.refl _ _) 5 j x h) ?_)
          intro w' hw'
          exact news_drop b off m cap k l w' HL.out hkm hmc (fun j hj => (hw'.cell (p := ⟨b, off + j, none⟩) hb).trans (hc j hj))
      | 9, _ =>
        intro L v w1 f o ho hf hI hL hall K Q' hK
        obtain rfl := Option.some.inj ho
        have e32 : f.tmps[32]?.getD undef = .slice a m cap := tmp_of ((hf 32).trans (hI.2 7 (by decide) (edge_listed hall 7 (by kernel_rfl))))
        have e33 : f.tmps[33]?.getD undef = .int .i64 (k : Int) := tmp_of ((hf 33).trans (hI.2 8 (by decide) (edge_listed hall 8 (by kernel_rfl))))
        rcases HA2.out with rfl | ⟨b, off, rfl, hb, hc⟩
        · obtain rfl : m = 0 := by omega
          obtain rfl : k = 0 := by omega
          cases a with
          | none =>
            simp [go_sem, e32, e33]
            refine hK _ _ (ord_step hI 9 _ (ordC_keep hI.1 (Below.refl _ _) 9 (by decide) (by decide)) (fun j _ _ _ x h => ord_keep (Below.refl _ _) 9 j x h) ?_)
            intro w' hw'
            exact ⟨by simp, .inl ⟨rfl, rfl⟩⟩
          | some x =>
            simp [go_sem, e32, e33]
            refine hK _ _ (ord_step hI 9 _ (ordC_keep hI.1 (Below.refl _ _) 9 (by decide) (by decide)) (fun j _ _ _ x h => ord_keep (Below.refl _ _) 9 j x h) ?_)
            intro w' hw'
            exact ⟨by simp, .inr ⟨x, 0, rfl, fun j hj => absurd hj (by have := HL.out; simp <;> omega)⟩⟩
        · simp [go_sem, e32, e33, hkc]
          refine hK _ _ (ord_step hI 9 _ (ordC_keep hI.1 (Below.refl _ _) 9 (by decide) (by decide)) (fun j _ _ _ x h => ord_keep (Below.refl _ _) 9 j x h) ?_)
          intro w' hw'
          refine ⟨by rw [List.length_take, HL.out]; omega, .inr ⟨⟨b, off, none⟩, cap, rfl, fun j hj => ?_⟩⟩
          rw [Addr.add_mid, List.getElem_take]
          exact (hw'.cell (p := ⟨b, off + j, none⟩) hb).trans (hc j _)
      | 6, _ =>
        intro L v w1 f o ho hf hI hL hall K Q' hK
        obtain rfl := Option.some.inj ho
        have ev1 : f.eval (.tmp 27) = v 2 := hf 27
        have ev2 : f.eval (.tmp 30) = v 5 := hf 30
        have h1 := hI.2 2 (by decide) (edge_listed hall 2 (by kernel_rfl)) hL
        have h2 := hI.2 5 (by decide) (edge_listed hall 5 (by kernel_rfl)) w1 hI.1.1
        obtain ⟨g, cp, w2, hrun, hown, hg⟩ := run_app w1 22 N hI.1.2.1 (v 2) 0 [] h1.1 h1.2 (v 5) (m - k) (l.drop k) h2 (by omega)
        rw [Nat.zero_add, List.nil_append] at hown
        rw [Nat.zero_add] at hrun
        unfold Oper.wp
        rw [exec_app _ _ _ _ _ _ _ _ _ _ _ _ _ ev1 ev2 hrun]
        refine hK _ _ (ord_step hI 6 _ ⟨below_grown hI.1.1 hg hI.1.2.1 (row_own h1), Nat.le_trans hI.1.2.1 hg.size, ?_, ?_⟩ ?_ ?_)
        · exact fun _ => if_pos rfl
        · exact hI.1.2.2.2
        · intro j hj hji hlj x h
          have hn10 : L 10 = false := by
            cases h10 : L 10 with
            | false => rfl
            | true => rw [hI.1.2.2.1 h10] at hL; cases hL
          match j, h with
          | 0, h | 3, h | 4, h | 5, h | 7, h | 8, h | 9, h => exact h
          | 1, h | 12, h => exact h.app h1 hg
          | 2, h => intro hf; rw [show upd L 6 true 6 = true from if_pos rfl] at hf; cases hf
          | 6, h => exact absurd rfl hji
          | 10, h => rw [hn10] at hlj; cases hlj
          | 11, h => rw [hI.1.2.2.2 hlj] at hn10; cases hn10
          | j + 13, h => exact h
        · exact fun _ => ⟨hown, g, cp, rfl⟩
      | 10, _ =>
        intro L v w1 f o ho hf hI hL hall K Q' hK
        obtain rfl := Option.some.inj ho
        have ev1 : f.eval (.tmp 31) = v 6 := hf 31
        have ev2 : f.eval (.tmp 34) = v 9 := hf 34
        have h1 := hI.2 6 (by decide) (edge_listed hall 6 (by kernel_rfl)) hL
        have h2 := hI.2 9 (by decide) (edge_listed hall 9 (by kernel_rfl)) w1 hI.1.1
        obtain ⟨g, cp, w2, hrun, hown, hg⟩ := run_app w1 22 N hI.1.2.1 (v 6) (m - k) (l.drop k) h1.1 h1.2 (v 9) k (l.take k) h2 (by omega)
        rw [Nat.sub_add_cancel hkm] at hrun hown
        have hL6 : L 6 = true := edge_listed hall 6 (by kernel_rfl)
        unfold Oper.wp
        rw [exec_app _ _ _ _ _ _ _ _ _ _ _ _ _ ev1 ev2 hrun]
        refine hK _ _ (ord_step hI 10 _ ⟨below_grown hI.1.1 hg hI.1.2.1 (row_own h1), Nat.le_trans hI.1.2.1 hg.size, ?_, ?_⟩ ?_ ?_)
        · exact fun _ => hL6
        · exact fun _ => if_pos rfl
        · intro j hj hji hlj x h
          match j, h with
          | 0, h | 3, h | 4, h | 5, h | 7, h | 8, h | 9, h => exact h
          | 1, h | 12, h => exact h.app h1 hg
          | 2, h => intro hf; rw [show upd L 10 true 6 = L 6 from if_neg (by decide), hL6] at hf; cases hf
          | 6, h => intro hf; rw [show upd L 10 true 10 = true from if_pos rfl] at hf; cases hf
          | 10, h => exact absurd rfl hji
          | 11, h => rw [hI.1.2.2.2 hlj] at hL; cases hL
          | j + 13, h => exact h
        · exact ⟨hown, g, cp, rfl⟩
      | 11, _ =>
        intro L v w1 f o ho hf hI hL hall K Q' hK
        obtain rfl := Option.some.inj ho
        have e35 : f.tmps[35]?.getD undef = v 10 := tmp_of (hf 35)
        have hL10 : L 10 = true := edge_listed hall 10 (by kernel_rfl)
        have h1 := hI.2 10 (by decide) hL10
        have hlr : (l.drop k ++ l.take k).length = m := by rw [List.length_append, List.length_drop, List.length_take, HL.out]; omega
        simp [go_sem, e35]
        refine (added_any _ (l.drop k ++ l.take k) w1 (h1.offs hlr) (by omega) ?_).mono ?_
        · intro z hz
          rcases List.mem_append.1 hz with h | h
          · exact HX.out z (List.mem_of_mem_drop h)
          · exact HX.out z (List.mem_of_mem_take h)
        rintro e w2 ⟨rfl, ht2, hb2⟩
        rw [List.take_of_length_le (by omega), cnt_rot] at ht2
        refine hK _ _ (ord_step hI 11 _ ⟨hI.1.1.trans (hb2.mono hI.1.2.1), Nat.le_trans hI.1.2.1 hb2.size, hI.1.2.2.1, fun _ => hL10⟩ (fun j _ _ _ x h => ord_keep hb2 11 j x h) ⟨_, rfl, ht2, hI.1.2.1⟩)
      | 12, _ =>
        intro L v w1 f o ho hf hI hL hall K Q' hK
        obtain rfl := Option.some.inj ho
        have e26 : f.tmps[26]?.getD undef = v 1 := tmp_of (hf 26)
        have h1 := hI.2 1 (by decide) (edge_listed hall 1 (by kernel_rfl))
        simp [go_sem, e26]
        exact hK _ _ (ord_step hI 12 _ (ordC_keep hI.1 (Below.refl _ _) 12 (by decide) (by decide)) (fun j _ _ _ x h => ord_keep (Below.refl _ _) 12 j x h) h1)
    · intro L v wh hL hI
      have e0 : v 0 = .slice a m cap := hI.2 0 (by decide) (hL 0 (by decide))
      have e3 : v 3 = .slice a m cap := hI.2 3 (by decide) (hL 3 (by decide))
      have e7 : v 7 = .slice a m cap := hI.2 7 (by decide) (hL 7 (by decide))
      have e4 : v 4 = .int .i64 (k : Int) := hI.2 4 (by decide) (hL 4 (by decide))
      have e8 : v 8 = .int .i64 (k : Int) := hI.2 8 (by decide) (hL 8 (by decide))
      obtain ⟨tb, e12, htb, hNtb⟩ := hI.2 12 (by decide) (hL 12 (by decide))
      obtain ⟨tc, e11, htc, hNtc⟩ := hI.2 11 (by decide) (hL 11 (by decide))
      have hBh := hI.1.1
      simp only [putSlots, Act.put, List.setIfInBounds_toArray, List.set_cons_succ, List.set_cons_zero, List.drop_succ_cons, List.drop_zero, e0, e3, e7, e4, e8, e11, e12]
      generalize v 1 = u1
      generalize v 2 = u2
      generalize v 5 = u5
      generalize v 6 = u6
      generalize v 9 = u9
      generalize v 10 = u10
      clear hI hL e0 e3 e7 e4 e8 e11 e12 hky
      go_wp2
      obtain ⟨i0, hi, hz0, hz1, hz2⟩ := info_parts infoInt
      obtain ⟨cs, hcs⟩ : ∃ cs, cnt l = cs := ⟨_, rfl⟩
      have hcs8 : cs.length = 8 := by rw [← hcs]; exact cnt_length _
      have hseen : ∀ q, q < 8 → seen l q m = cs.getD q 0 := fun q hq => by rw [← HL.out, seen_all l q hq, hcs]
      have hsum : (cs.take 8).sum = m := by rw [List.take_of_length_le (by omega), ← hcs, cnt_sum, HL.out]
      have hsm : ∀ c ∈ cs, c ≤ 576460752303423488 := fun c hc => by rw [← hcs] at hc; have := cnt_le _ c hc; omega
      rw [hcs] at htb htc
      have HSEEN := Lib.hid hseen
      have HSUM := Lib.hid hsum
      have HSM := Lib.hid hsm
      have hNh : N ≤ wh.heap.size := Nat.le_trans hNtb (Nat.le_of_lt htb.lt)
      clear hcs hseen hsum hsm hl hkm hkc hmc hb1 hN1 hy hNtc hNtb
      go_loopg [8, 9] 8 (fun g v c wi => ∃ q : Nat, q ≤ 8 ∧ g = 8 - q ∧ c = .int .i64 q ∧ IsTally wi tb cs 8 ∧ IsTally wi tc cs 8 ∧ Below N w wi ∧ N ≤ wi.heap.size ∧ wi.ownsRow N 3 1 v (bl cs q).length ((bl cs q).map encI))
      case atStart => exact ⟨0, by omega, rfl, rfl, htb, htc, hBh, hNh, World.ownsRow_nil _ _ _ _⟩
      case round =>
        obtain ⟨q, hq, rfl, rfl, htb', htc', hBr, hNr, hown⟩ := hrel
        clear htb htc hBh hNh
        by_cases hq8 : q < 8
        · have hq0 : (0 : Int) ≤ (q : Int) := by omega
          have hq8' : (q : Int) < 8 := by omega
          obtain ⟨wo, hwo⟩ : ∃ wo : World, wo = wr := ⟨_, rfl⟩
          rw [← hwo] at htb' htc' hBr hNr hown ⊢
          clear hwo
          go_wp2
          go_loopg [10, 11] m (fun g n i wi => ∃ j : Nat, j ≤ m ∧ g = m - j ∧ i = .int .i64 j ∧ n = .int .i64 (seen l q j : Nat) ∧ wi = wo)
          case atStart => exact ⟨0, by omega, rfl, rfl, by rw [seen_zero]; rfl, rfl⟩
          case round =>
            obtain ⟨j, hj, rfl, rfl, rfl, rfl⟩ := hrel
            by_cases hjm : j < m
            · have hjl : j < l.length := by rw [HL.out]; exact hjm
              rcases HA2.out with rfl | ⟨b, off, rfl, hb, hc⟩
              · exact absurd hjm (by have := HM.out; omega)
              have hcx : wr.cell? ⟨b, off + j, none⟩ = some (encB l[j]) := (hBr.cell (p := ⟨b, off + j, none⟩) hb).trans (hc j hjl)
              have hss := seen_succ l q j hjl
              have hsl := seen_le l q j
              obtain ⟨x, hx⟩ : ∃ x, l[j] = x := ⟨_, rfl⟩
              have hx8 := HX.out l[j] (List.getElem_mem hjl)
              rw [hx] at hcx hss hx8
              have hcx' : wr.cell? ⟨b, off + j, none⟩ = some (.int .u8 (x : Int)) := hcx
              obtain ⟨S, hS⟩ : ∃ S, seen l q j = S := ⟨_, rfl⟩
              rw [hS] at hss hsl ⊢
              obtain ⟨r, hr⟩ : ∃ r : Nat, (x : Int) % 8 = (r : Int) := ⟨x % 8, by omega⟩
              have hxr : x % 8 = r := by omega
              rw [hxr] at hss
              have HSS := Lib.hid hss
              have hj0 : (0 : Int) ≤ (j : Int) := by omega
              have hjm' : (j : Int) < (m : Int) := by omega
              clear hx hS hxr hcx hss hc
              by_cases hrq : r = q
              · subst hrq
                go_wp2
                go_roundg (m - (j + 1))
                case measure => omega
                case rel => exact ⟨j + 1, by omega, rfl, by simp, by rw [HSS.out]; simp, rfl⟩
              · have h1 : ((r : Int) == (q : Int)) = false := by rw [beq_eq_false_iff_ne]; omega
                have h2 : (r == q) = false := by simpa using hrq
                go_wp2
                go_roundg (m - (j + 1))
                case measure => omega
                case rel => exact ⟨j + 1, by omega, rfl, by simp, by rw [HSS.out, if_neg hrq]; simp, rfl⟩
            · obtain rfl : j = m := by omega
              clear hjm hj
              rw [HSEEN.out q hq8]
              obtain ⟨y, hy⟩ : ∃ y, cs.getD q 0 = y := ⟨_, rfl⟩
              have hof1 := of_any wr tb 8 cs htb' (q : Int)
              have hof2 := of_any wr tc 8 cs htc' (q : Int)
              rw [of_eight cs q hq8, hy] at hof1 hof2
              rw [hy]
              have HO1 := Lib.hid hof1
              have HO2 := Lib.hid hof2
              have hsucc := bl_succ cs q
              rw [hy] at hsucc
              clear hof1 hof2
              by_cases h3 : 3 ≤ y
              · rw [if_pos h3] at hsucc
                have HIS := Lib.hid (is_any wr tb 8 cs htb' (q : Int) true (by rw [of_eight cs q hq8, hy]; simpa using h3))
                have hd3 : decide ((3 : Int) ≤ (y : Int)) = true := decide_eq_true (by omega)
                have hbl := bl_length cs q
                have HSU := Lib.hid hsucc
                obtain ⟨X, hX⟩ : ∃ X, bl cs q = X := ⟨_, rfl⟩
                rw [hX] at hown hbl
                have HXX := Lib.hid hX
                have HT1 := Lib.hid htb'
                have HT2 := Lib.hid htc'
                have HBR := Lib.hid hBr
                clear hsucc hy hX htb' htc' hBr
                go_wp2_with fail
                refine HO1.out.mono ?_
                rintro e w5 ⟨rfl, rfl⟩
                go_wp2_with fail
                refine HO2.out.mono ?_
                rintro e w5 ⟨rfl, rfl⟩
                go_wp2_with fail
                refine HIS.out.mono ?_
                rintro e w5 ⟨rfl, rfl⟩
                go_wp2_with (at_builtin; refine wpList_append_own _ rfl _ _ 26 rfl N 3 i0 (.int .i64 0) 1 8 Try.underlying26 hi hz0 hz1 hz2 rfl (by decide) _ _ _ rfl (hown.alloc _) ⟨wr.heap.size, 0, none⟩ 1 1 [encI q] rfl rfl (cell_one_new _ _ _) (by simp [encI, Value.oneCell']) (by unfold maxLen; omega) (by omega) (by simp; omega) ?_; intro v' w5 hown' hgrow _)
                have ht5 := HT1.out.row hown hgrow
                have hs5 := HT2.out.row hown hgrow
                have hB5 := below_grown (HBR.out.alloc hNr _) hgrow (by rw [World.size_alloc]; omega) (fun k hk => (hown.lt k hk).1)
                have hN5 : N ≤ w5.heap.size := Nat.le_trans hNr (Nat.le_trans (by simp) hgrow.size)
                have hrow5 : w5.ownsRow N 3 1 v' (bl cs (q + 1)).length ((bl cs (q + 1)).map encI) := by
                  rw [HSU.out, HXX.out, List.length_append, List.map_append]
                  exact hown'
                clear hgrow hown' hown
                go_wp2
                go_roundg (8 - (q + 1))
                case measure => omega
                case rel => exact ⟨q + 1, by omega, rfl, by simp, ht5, hs5, hB5, hN5, hrow5⟩
              · rw [if_neg h3] at hsucc
                have HIS := Lib.hid (is_any wr tb 8 cs htb' (q : Int) false (by rw [of_eight cs q hq8, hy]; simpa using h3))
                have hd3 : decide ((3 : Int) ≤ (y : Int)) = false := decide_eq_false (by omega)
                have HSU := Lib.hid hsucc
                have hrow5 : wr.ownsRow N 3 1 u8 (bl cs (q + 1)).length ((bl cs (q + 1)).map encI) := by
                  rw [HSU.out]
                  exact hown
                clear hsucc hy hown
                go_wp2_with fail
                refine HO1.out.mono ?_
                rintro e w5 ⟨rfl, rfl⟩
                go_wp2_with fail
                refine HO2.out.mono ?_
                rintro e w5 ⟨rfl, rfl⟩
                go_wp2_with fail
                refine HIS.out.mono ?_
                rintro e w5 ⟨rfl, rfl⟩
                go_wp2
                go_roundg (8 - (q + 1))
                case measure => omega
                case rel => exact ⟨q + 1, by omega, rfl, by simp, htb', htc', hBr, hNr, hrow5⟩
        · obtain rfl : q = 8 := by omega
          clear hq8 hq
          have hi8 := rowi_ints hown rfl
          go_wp2_with fail
          refine (barredAll_any _ _ _ _ htb').mono ?_
          rintro e w5 ⟨v, rfl, hr5, hb5⟩
          have hi5 := hi8.below hb5
          have ht5 := htb'.below hb5
          have hs5 := htc'.below hb5
          have hB5 := hBr.trans (hb5.mono hNr)
          have hN5 := Nat.le_trans hNr hb5.size
          clear hb5 htb' htc' hBr hNr hi8 hown
          have hlen8 : (ints (bl cs 8)).length ≤ 9223372036854775807 := by have := bl_length cs 8; simp [ints]; omega
          go_wp2_with fail
          refine (same_true _ hlen8 _ _ _ hr5.ints hi5).mono ?_
          rintro e w6 ⟨rfl, n6, rfl⟩
          go_wp2_with fail
          refine (barredAll_any _ _ _ _ (hs5.drewN n6)).mono ?_
          rintro e w7 ⟨v7, rfl, hr7, hb7⟩
          have hi7 := (show IntsAt (w5.drewN n6) u8 (ints (bl cs 8)) from hi5).below hb7
          have ht7 := (ht5.drewN n6).below hb7
          have hs7 := (hs5.drewN n6).below hb7
          have hB7 := (below_drewN hB5 n6).trans (hb7.mono hN5)
          clear hr5 hi5 ht5 hs5 hB5 hb7
          go_wp2_with fail
          refine (same_true _ hlen8 _ _ _ hr7.ints hi7).mono ?_
          rintro e w8 ⟨rfl, n8, rfl⟩
          go_wp2_with fail
          refine (total_okI _ _ _ _ (ht7.drewN n8) HSM.out (m : Int) (by rw [HSUM.out])).mono ?_
          rintro e w9 ⟨rfl, rfl⟩
          go_wp2_with fail
          refine (total_okI _ _ _ _ (hs7.drewN n8) HSM.out (m : Int) (by rw [HSUM.out])).mono ?_
          rintro e w9 ⟨rfl, rfl⟩
          go_wp2
          go_ret
          exact ⟨rfl, HNN.out ▸ below_drewN hB7 n8⟩

theorem order_law (a : Option Addr) (len0 cap : Nat) (l0 : List Nat) (y : Int) (w : World) (hl0 : l0.length = len0) (hlen : len0 ≤ cap) (hcap : cap ≤ 9223372036854775807) (hx : ∀ x ∈ l0, x < 256) (hy : 0 ≤ y ∧ y ≤ 255)
    (hA : cap = 0 ∨ ∃ b off, a = some ⟨b, off, none⟩ ∧ b < w.heap.size ∧ ∀ j, (h : j < l0.length) → w.cell? ⟨b, off + j, none⟩ = some (.int .u8 ((l0[j] : Nat) : Int))) :
    Calls Try.prog 3 #[.slice a len0 cap, .int .u8 y] w fun e w' => e = .returned (.bool true) ∧ Below w.heap.size w w' := by
  obtain ⟨z, rfl⟩ : ∃ z : Nat, y = (z : Int) := ⟨y.toNat, by omega⟩
  refine order_any a len0 cap (min len0 60) z (z % (min len0 60 + 1)) (l0.take 60) w rfl (by rw [List.length_take, hl0, Nat.min_comm]) hlen hcap (by omega) rfl (fun x h => hx x (List.mem_of_mem_take h)) ?_
  rcases hA with h | ⟨b, off, ha, hb, hc⟩
  · exact .inl h
  · refine .inr ⟨b, off, ha, hb, fun j hj => ?_⟩
    rw [List.getElem_take]
    exact hc j (by have := List.length_take_le' 60 l0; omega)
end Go.Proofs.Ytohnagmkbjdlmaa
