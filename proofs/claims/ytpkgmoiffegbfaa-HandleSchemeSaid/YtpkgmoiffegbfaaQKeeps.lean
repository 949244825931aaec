/- The law HandleScheme: does a scheme open what it committed? The walk through keeps. Condition: what the scheme's methods do. -/
import Derived.Test.YtpkgmoiffegbfaaZSeal
import Derived.Test.YtpkgmoiffegbfaaHWorks
namespace Go.Proofs.Ytpkgmoiffegbfaa
open Go.RowKit Go.BigFrame
set_option maxRecDepth 100000
attribute [local go_sem ↓] exec_loadZ exec_eqlZ exec_neqZ exec_zeroZ
attribute [local go_sem] loadRow eqRow digEq_dg isDig_dg objAt_drew

/-- All blocks of cells are as they were. -/
def Keep (w w' : World) : Prop := w.heap.size ≤ w'.heap.size ∧ ∀ (k : Nat) (o : Obj), w.heap[k]? = some o → o.isCells = true → w'.heap[k]? = some o
theorem Keep.cell {w w' : World} (h : Keep w w') {a : Addr} {v : Value} (hc : w.cell? a = some v) : w'.cell? a = some v := by
  unfold World.cell? at hc ⊢
  cases ho : w.heap[a.block]? with
  | none => rw [ho] at hc; simp at hc
  | some o =>
    rw [ho] at hc
    cases o with
    | cells cs t fr => rw [h.2 _ _ ho rfl]; exact hc
    | _ => simp at hc
theorem keep_below {w w' : World} (h : Below w.heap.size w w') : Keep w w' := ⟨h.size, fun k o ho _ => below_at h ho (Array.getElem?_eq_some_iff.1 ho).1⟩
theorem slot_step {n : Nat} {C : (Nat → Bool) → World → Prop} {R : Nat → Value → World → Prop} {L : Nat → Bool} {v : Nat → Value} {w1 w2 : World} (h : C L w1 ∧ ∀ j, j < n → L j = true → R j (v j) w1) (i : Nat) (u : Value)
    (hC : C (upd L i true) w2) (hk : ∀ j, j ≠ i → ∀ x, R j x w1 → R j x w2) (hR : R i u w2) : C (upd L i true) w2 ∧ ∀ j, j < n → upd L i true j = true → R j (upd v i u j) w2 := by
  refine ⟨hC, fun j hj hl => ?_⟩
  by_cases hji : j = i
  · subst hji; simp only [upd]; exact hR
  · simp only [upd, if_neg hji] at hl ⊢; exact hk j hji _ (h.2 j hj hl)
/-- What stays while 'Opens' is asked. -/
def kD (b o g : Nat) (x : Se) (D : List UInt8) (k : Nat) (J : Nat → Se → List UInt8 → World → Prop) (w : World) : Prop := J k x D w ∧ w.heap[g]? = some (.cells (dg D) 68 (0, 0)) ∧ ∀ i u, x.cells[i]? = some u → w.cell? ⟨b, o + i, none⟩ = some u
theorem kD.below {b o g : Nat} {x : Se} {D : List UInt8} {k : Nat} {J : Nat → Se → List UInt8 → World → Prop} {w w' : World} (h : kD b o g x D k J w) (hJb : ∀ k x D w w', J k x D w → Below w.heap.size w w' → J k x D w') (hb : Below w.heap.size w w') : kD b o g x D k J w' :=
  ⟨hJb _ _ _ _ _ h.1 hb, below_at hb h.2.1 (zlt h.2.1), fun i u hu => (keep_below hb).cell (h.2.2 i u hu)⟩
def KeepsP (n : Nat) (I : Nat → World → Prop) (e : Ending) (w' : World) : Prop := e = .returned (.bool true) ∧ ∃ k, k ≤ 8 ∧ k ≤ n ∧ I k w'
/-- What holds of the world while a thing is committed. -/
def kC (N b o : Nat) (x : Se) (I : Nat → World → Prop) (k : Nat) (S : Nat → Bool) (w : World) : Prop := (∀ i u, x.cells[i]? = some u → w.cell? ⟨b, o + i, none⟩ = some u) ∧ N ≤ w.heap.size ∧ (S 8 = false → I k w)
section
variable {N b o : Nat} {x : Se} {I : Nat → World → Prop} {k : Nat} {S : Nat → Bool} {w w' : World}
theorem kC.stay (h : kC N b o x I k S w) (i : Nat) (hi : i ≠ 8) : kC N b o x I k (upd S i true) w := ⟨h.1, h.2.1, fun hs => h.2.2 (by simpa [upd, Ne.symm hi] using hs)⟩
theorem kC.commit (h : kC N b o x I k S w) (hk : Keep w w') : kC N b o x I k (upd S 8 true) w' := ⟨fun i u hu => hk.cell (h.1 i u hu), Nat.le_trans h.2.1 hk.1, fun hs => by simp [upd] at hs⟩
theorem kC.below (h : kC N b o x I k S w) (hIb : ∀ k w w', I k w → Below w.heap.size w w' → I k w') (hb : Below w.heap.size w w') : kC N b o x I k (upd S 9 true) w' :=
  ⟨fun i u hu => (keep_below hb).cell (h.1 i u hu), Nat.le_trans h.2.1 hb.size, fun hs => hIb _ _ _ (h.2.2 (by simpa [upd] using hs)) hb⟩
end
theorem wp_allocZ {o : Oper} {a : Act} {w : World} {K : Act → World → Prop} {Q : Exit → Act → World → Prop} (ho : o.op = .alloc 68)
    (hK : ∀ w', w'.heap[w.heap.size]? = some (.cells (dg z32) 68 (0, 0)) → Below w.heap.size w w' → K (a.put o.dst (.pointer (some ⟨w.heap.size, 0, none⟩))) w') : o.wp Try.prog a w K Q := by
  cases hq : Try.prog.info? 68 with
  | none => have := zzeroDig; simp [hq] at this
  | some i =>
    have hz : i.zero = some (.agg (dg z32)) := by have := zzeroDig; simpa [hq] using this
    have hr : (execOp a.eval o).run Try.prog w = .ok (.value (.pointer (some ⟨w.heap.size, 0, none⟩))) (w.alloc (.cells (dg z32) 68)) := by
      simp [execOp, ho, Instr.alloc, zeroValue, typeInfo, hq, hz, Result.andThen, Value.cells, newVar, newRow]
    unfold Oper.wp
    rw [hr]
    exact hK _ (new_at _ _) ((Below.refl _ _).alloc (Nat.le_refl _) _)

theorem nilSumC  (w : World) : (nilAhead 224 87 (.agg #[]) "Commit").run Try.prog w = .ok (some false) w := by kernel_rfl
theorem mthSumC  (w : World) : (method 224 87 (.agg #[]) "Commit").run Try.prog w = .ok (61, .agg #[]) w := by kernel_rfl
theorem nilSumC2  (w : World) : (nilAhead 224 87 (.agg #[]) "Commit").run Try.prog w = .ok (some false) w := by kernel_rfl
theorem nilSumO2  (w : World) : (nilAhead 224 87 (.agg #[]) "Opens").run Try.prog w = .ok (some false) w := by kernel_rfl
theorem mthSumO2  (w : World) : (method 224 87 (.agg #[]) "Opens").run Try.prog w = .ok (62, .agg #[]) w := by kernel_rfl
/-- What the slots hold. -/
def kRSum  (N b off m cap q : Nat) (x : Se) (k : Nat) (J : Nat → Se → List UInt8 → World → Prop) : Nat → Value → World → Prop
  | 0, u, _ => u = .iface 87 (.agg #[])
  | 1, u, _ => u = .slice (some ⟨b, off, none⟩) m cap
  | 2, u, _ => u = .int .i64 (q : Int)
  | 3, u, _ => u = .pointer (some ⟨b, off + q * 4, none⟩)
  | 4, u, _ => u = .agg x.cells.toArray
  | 5, u, _ => u = .func (.method "Commit") #[.iface 87 (.agg #[])] #[]
  | 6, _, _ => True
  | 7, u, _ => u = .iface 87 (.agg #[])
  | 8, u, w => ∃ D : List UInt8, D.length = 32 ∧ u = .agg (dg D) ∧ J k x D w
  | _, u, w => ∃ g : Nat, u = .pointer (some ⟨g, 0, none⟩) ∧ N ≤ g ∧ w.heap[g]? = some (.cells (dg z32) 68 (0, 0))
theorem kRSum_keep {N b off m cap q : Nat} {x : Se} {k : Nat} {J : Nat → Se → List UInt8 → World → Prop} {j : Nat} {u : Value} {w w' : World} (hk : Keep w w') (hj : j ≠ 8) (h : kRSum  N b off m cap q x k J j u w) : kRSum  N b off m cap q x k J j u w' := by
  match j, h, hj with
  | 0, h, _ | 1, h, _ | 2, h, _ | 3, h, _ | 4, h, _ | 5, h, _ | 6, h, _ | 7, h, _ => exact h
  | 8, _, hj => exact absurd rfl hj
  | j + 9, h, _ =>
    obtain ⟨g, h1, h2, h3⟩ := h
    exact ⟨g, h1, h2, hk.2 _ _ h3 rfl⟩
theorem kRSum_below {N b off m cap q : Nat} {x : Se} {k : Nat} {J : Nat → Se → List UInt8 → World → Prop} {j : Nat} {u : Value} {w w' : World} (hJb : ∀ k x D w w', J k x D w → Below w.heap.size w w' → J k x D w') (hb : Below w.heap.size w w') (h : kRSum  N b off m cap q x k J j u w) : kRSum  N b off m cap q x k J j u w' := by
  match j, h with
  | 0, h | 1, h | 2, h | 3, h | 4, h | 5, h | 6, h | 7, h => exact h
  | 8, h =>
    obtain ⟨D, h1, h2, h3⟩ := h
    exact ⟨D, h1, h2, hJb _ _ _ _ _ h3 hb⟩
  | j + 9, h =>
    obtain ⟨g, h1, h2, h3⟩ := h
    exact ⟨g, h1, h2, (keep_below hb).2 _ _ h3 rfl⟩
set_option maxHeartbeats 4000000 in
theorem keepsSum  (aa : Option Addr) (cap : Nat) (ls : List Se) (N : Nat) (I : Nat → World → Prop) (J : Nat → Se → List UInt8 → World → Prop)
    (hok : ∀ x ∈ ls, x.Ok) (hl : ls.length ≤ 9223372036854775807) (hIN : ∀ k w, I k w → N ≤ w.heap.size)
    (hat : 0 < ls.length → ∃ b off, aa = some ⟨b, off, none⟩ ∧ ∀ k w, I k w → RowsAt w b off 4 Se.cells ls)
    (hIb : ∀ k w w', I k w → Below w.heap.size w w' → I k w') (hJb : ∀ k x D w w', J k x D w → Below w.heap.size w w' → J k x D w') (hJI : ∀ k x D w, J k x D w → I (k + 1) w)
    (hJs : ∀ k x D w w' g, J k x D w → N ≤ g → w.heap[g]? = some (.cells (dg z32) 68 (0, 0)) → w.grownBy w' (some g) → J k x D w')
    (hcom : ∀ k x w, k < 8 → x.Ok → I k w → Calls Try.prog 61 #[.agg #[], .agg x.cells.toArray] w fun e w' => ∃ D : List UInt8, D.length = 32 ∧ e = .returned (.agg (dg D)) ∧ J k x D w' ∧ Keep w w')
    (hopn : ∀ k x D w, x.Ok → J k x D w → D.length = 32 → Calls Try.prog 62 #[.agg #[], .agg (dg D), .agg x.cells.toArray] w fun e w' => e = .returned (.bool true) ∧ Below w.heap.size w w')
    (w : World) (h0 : I 0 w) :
    Calls Try.prog 32 #[.iface 87 (.agg #[]), .slice aa ls.length cap] w (KeepsP ls.length I) := by
  have HAT := hide hat
  have HOK := hide hok
  have HIB := hide hIb
  have HJB := hide hJb
  have HJI := hide hJI
  have HJS := hide hJs
  have HCOM := hide hcom
  have HOPN := hide hopn
  have HIN := hide hIN
  clear hat hok hIb hJb hJI hJs hcom hopn hIN
  go_enter Try.func32, Try.ntmps32
  go_wp2
  go_loopg [5] 8 (fun g vi wi => ∃ q : Nat, q ≤ ls.length ∧ q ≤ 8 ∧ g = 8 - q ∧ vi = .int .i64 q ∧ I q wi)
  case atStart => exact ⟨0, by omega, by omega, by omega, rfl, h0⟩
  case round =>
    obtain ⟨q, hq, hq8, rfl, rfl, hI0⟩ := hrel
    clear h0
    by_cases hlt : q < ls.length ∧ q < 8
    · obtain ⟨hql, hq7⟩ := hlt
      obtain ⟨b, off, rfl, hrow⟩ := HAT.out (by omega)
      obtain ⟨x, hx⟩ : ∃ x, ls[q]? = some x := ⟨_, List.getElem?_eq_getElem hql⟩
      have okx := HOK.out x (List.mem_of_getElem? hx)
      have hrd : ∀ i u, x.cells[i]? = some u → wr.cell? ⟨b, off + q * 4 + i, none⟩ = some u := hrow q wr hI0 q x hx
      have hNz := HIN.out q wr hI0
      have hq0 : (0 : Int) ≤ (q : Int) := by omega
      have hqI : (q : Int) < (ls.length : Int) := by omega
      have hq8I : (q : Int) < 8 := by omega
      have HRD := hide hrd
      have HROW := hide (show ∀ k w, I k w → ∀ i u, x.cells[i]? = some u → w.cell? ⟨b, off + q * 4 + i, none⟩ = some u from fun k w h => hrow k w h q x hx)
      obtain ⟨k, hkE⟩ : ∃ k, k = q := ⟨_, rfl⟩
      have hIk : I k wr := by rw [hkE]; exact hI0
      have HK := hide hkE
      clear hrow hx hrd hkE hI0
      go_upto_region 4 with (fail)
      refine region_slots 10 [17, 18, 19, 20, 21, 22, 23, 24, 25, 6] (by kernel_rfl) (by kernel_rfl) (by decide) rfl 37 rfl (by decide) (by kernel_rfl) (fun S v w1 => kC N b (off + q * 4) x I k S w1 ∧ ∀ j, j < 10 → S j = true → kRSum  N b off ls.length cap q x k J j (v j) w1) ?_ ?_ ?_
      · intro v
        exact ⟨⟨HRD.out, hNz, fun _ => HIB.out _ _ _ hIk ((Below.refl _ _).drew)⟩, fun _ _ h => by cases h⟩
      · intro i hi
        match i, hi with
        | 0, _ =>
          intro S v w1 f o ho hf hI hS hall K Q' hK
          obtain rfl := Option.some.inj ho
          have e0 : f.tmps[0]?.getD undef = .iface 87 (.agg #[]) := tmp_of (hf 0)
          simp [go_sem, e0]
          exact hK _ _ (slot_step (C := kC N b (off + q * 4) x I k) (R := kRSum  N b off ls.length cap q x k J) hI 0 _ (hI.1.stay 0 (by decide)) (fun _ _ _ h => h) rfl)
        | 1, _ =>
          intro S v w1 f o ho hf hI hS hall K Q' hK
          obtain rfl := Option.some.inj ho
          have e1 : f.tmps[1]?.getD undef = .slice (some ⟨b, off, none⟩) ls.length cap := tmp_of (hf 1)
          simp [go_sem, e1]
          exact hK _ _ (slot_step (C := kC N b (off + q * 4) x I k) (R := kRSum  N b off ls.length cap q x k J) hI 1 _ (hI.1.stay 1 (by decide)) (fun _ _ _ h => h) rfl)
        | 2, _ =>
          intro S v w1 f o ho hf hI hS hall K Q' hK
          obtain rfl := Option.some.inj ho
          have e5 : f.tmps[5]?.getD undef = .int .i64 (q : Int) := tmp_of (hf 5)
          simp [go_sem, e5]
          exact hK _ _ (slot_step (C := kC N b (off + q * 4) x I k) (R := kRSum  N b off ls.length cap q x k J) hI 2 _ (hI.1.stay 2 (by decide)) (fun _ _ _ h => h) rfl)
        | 3, _ =>
          intro S v w1 f o ho hf hI hS hall K Q' hK
          obtain rfl := Option.some.inj ho
          have e18 : f.tmps[18]?.getD undef = .slice (some ⟨b, off, none⟩) ls.length cap := tmp_of ((hf 18).trans (hI.2 1 (by decide) (edge_listed hall 1 (by kernel_rfl))))
          have e19 : f.tmps[19]?.getD undef = .int .i64 (q : Int) := tmp_of ((hf 19).trans (hI.2 2 (by decide) (edge_listed hall 2 (by kernel_rfl))))
          simp [go_sem, e18, e19, hqI, hq0]
          exact hK _ _ (slot_step (C := kC N b (off + q * 4) x I k) (R := kRSum  N b off ls.length cap q x k J) hI 3 _ (hI.1.stay 3 (by decide)) (fun _ _ _ h => h) rfl)
        | 4, _ =>
          intro S v w1 f o ho hf hI hS hall K Q' hK
          obtain rfl := Option.some.inj ho
          have e20 : f.tmps[20]?.getD undef = .pointer (some ⟨b, off + q * 4, none⟩) := tmp_of ((hf 20).trans (hI.2 3 (by decide) (edge_listed hall 3 (by kernel_rfl))))
          have hr := hI.1.1
          have c0 : w1.cell? ⟨b, off + q * 4, none⟩ = some (.int .i64 x.r) := hr 0 _ rfl
          have c1 : w1.cell? ⟨b, off + q * 4 + 1, none⟩ = some (.int .i64 x.c) := hr 1 _ rfl
          have c2 : w1.cell? ⟨b, off + q * 4 + 2, none⟩ = some (.int .u64 x.b) := hr 2 _ rfl
          have c3 : w1.cell? ⟨b, off + q * 4 + 3, none⟩ = some (.int .u64 x.n) := hr 3 _ rfl
          simp [go_sem, e20, c0, c1, c2, c3]
          exact hK _ _ (slot_step (C := kC N b (off + q * 4) x I k) (R := kRSum  N b off ls.length cap q x k J) hI 4 _ (hI.1.stay 4 (by decide)) (fun _ _ _ h => h) rfl)
        | 5, _ =>
          intro S v w1 f o ho hf hI hS hall K Q' hK
          obtain rfl := Option.some.inj ho
          have e17 : f.tmps[17]?.getD undef = .iface 87 (.agg #[]) := tmp_of ((hf 17).trans (hI.2 0 (by decide) (edge_listed hall 0 (by kernel_rfl))))
          have nm := nilSumC
          have nm2 := nilSumC2
          simp [go_sem, e17, nm, nm2]
          exact hK _ _ (slot_step (C := kC N b (off + q * 4) x I k) (R := kRSum  N b off ls.length cap q x k J) hI 5 _ (hI.1.stay 5 (by decide)) (fun _ _ _ h => h) rfl)
        | 6, _ =>
          intro S v w1 f o ho hf hI hS hall K Q' hK
          obtain rfl := Option.some.inj ho
          have e22 : f.tmps[22]?.getD undef = .func (.method "Commit") #[.iface 87 (.agg #[])] #[] := tmp_of ((hf 22).trans (hI.2 5 (by decide) (edge_listed hall 5 (by kernel_rfl))))
          have nm := nilSumC
          have nm2 := nilSumC2
          simp [go_sem, e22, nm, nm2]
          exact hK _ _ (slot_step (C := kC N b (off + q * 4) x I k) (R := kRSum  N b off ls.length cap q x k J) hI 6 _ (hI.1.stay 6 (by decide)) (fun _ _ _ h => h) trivial)
        | 7, _ =>
          intro S v w1 f o ho hf hI hS hall K Q' hK
          obtain rfl := Option.some.inj ho
          have e17 : f.tmps[17]?.getD undef = .iface 87 (.agg #[]) := tmp_of ((hf 17).trans (hI.2 0 (by decide) (edge_listed hall 0 (by kernel_rfl))))
          simp [go_sem, e17]
          exact hK _ _ (slot_step (C := kC N b (off + q * 4) x I k) (R := kRSum  N b off ls.length cap q x k J) hI 7 _ (hI.1.stay 7 (by decide)) (fun _ _ _ h => h) rfl)
        | 8, _ =>
          intro S v w1 f o ho hf hI hS hall K Q' hK
          obtain rfl := Option.some.inj ho
          have e24 : f.tmps[24]?.getD undef = .iface 87 (.agg #[]) := tmp_of ((hf 24).trans (hI.2 7 (by decide) (edge_listed hall 7 (by kernel_rfl))))
          have e21 : f.tmps[21]?.getD undef = .agg x.cells.toArray := tmp_of ((hf 21).trans (hI.2 4 (by decide) (edge_listed hall 4 (by kernel_rfl))))
          have mm := mthSumC
          simp [go_sem, e24, e21, mm]
          refine (HCOM.out k x w1 (by rw [HK.out]; exact hq7) okx (hI.1.2.2 hS)).mono ?_
          rintro e w2 ⟨D, hD, rfl, hJ, hk⟩
          exact hK _ _ (slot_step (C := kC N b (off + q * 4) x I k) (R := kRSum  N b off ls.length cap q x k J) hI 8 _ (hI.1.commit hk) (fun j hj u h => kRSum_keep hk hj h) ⟨D, hD, rfl, hJ⟩)
        | 9, _ =>
          intro S v w1 f o ho hf hI hS hall K Q' hK
          obtain rfl := Option.some.inj ho
          refine wp_allocZ rfl ?_
          intro w2 hg hb
          exact hK _ _ (slot_step (C := kC N b (off + q * 4) x I k) (R := kRSum  N b off ls.length cap q x k J) hI 9 _ (hI.1.below HIB.out hb) (fun j hj u h => kRSum_below HJB.out hb h) ⟨_, rfl, hI.1.2.1, hg⟩)
        | i + 10, hi => exact absurd hi (by omega)
      · intro S v wh hS hI
        have e0 : v 0 = .iface 87 (.agg #[]) := hI.2 0 (by decide) (hS 0 (by decide))
        have e1 : v 1 = .slice (some ⟨b, off, none⟩) ls.length cap := hI.2 1 (by decide) (hS 1 (by decide))
        have e2 : v 2 = .int .i64 (q : Int) := hI.2 2 (by decide) (hS 2 (by decide))
        have e3 : v 3 = .pointer (some ⟨b, off + q * 4, none⟩) := hI.2 3 (by decide) (hS 3 (by decide))
        have e4 : v 4 = .agg x.cells.toArray := hI.2 4 (by decide) (hS 4 (by decide))
        have e5 : v 5 = .func (.method "Commit") #[.iface 87 (.agg #[])] #[] := hI.2 5 (by decide) (hS 5 (by decide))
        have e7 : v 7 = .iface 87 (.agg #[]) := hI.2 7 (by decide) (hS 7 (by decide))
        obtain ⟨D, hD, e8, hJ⟩ := hI.2 8 (by decide) (hS 8 (by decide))
        obtain ⟨g, e9, hgN, hg⟩ := hI.2 9 (by decide) (hS 9 (by decide))
        obtain ⟨v6, e6⟩ : ∃ v6, v 6 = v6 := ⟨_, rfl⟩
        simp only [putSlots, Act.put, List.setIfInBounds_toArray, List.set_cons_succ, List.set_cons_zero, List.drop_succ_cons, List.drop_zero, e0, e1, e2, e3, e4, e5, e6, e7, e8, e9]
        clear hI hS e0 e1 e2 e3 e4 e5 e6 e7 e8 e9 hIk
        refine law_store rfl _ _ _ rfl g (dg D) rfl rfl _ _ hg (by rw [dg_size, hD]; exact zsizeDig) (by rw [dg_size, dg_size, hD]; rfl) (dg_one _) ?_
        intro w5 hg5 hw5
        have hJ5 := HJS.out k x D wh w5 g hJ hgN hg hw5
        have hC5 : kD b (off + q * 4) g x D k J w5 := ⟨hJ5, hg5.out, HROW.out (k + 1) w5 (HJI.out _ _ _ _ hJ5)⟩
        clear hg5 hw5 hJ5 hJ hg
        go_upto_region 5 with (fail)
        simp only [Act.put]
        refine zquiet (C := kD b (off + q * 4) g x D k J) (by kernel_rfl) (by kernel_rfl) (hC5.below HJB.out ((Below.refl _ _).drew)) ?_
        iterate 1 (go_big_quiet_want; go_big_quiet_op; first | go_big_quiet_on | (refine ⟨_, fun _ _ => rfl, ?_⟩; go_big_quiet_on))
        go_big_quiet_want; go_big_quiet_op; refine ⟨.agg (dg D), fun wq hq => ?_, ?_⟩
        · have q1 := hq.2.1
          simp [go_sem, objAt, q1, dg_size, hD]
        go_big_quiet_on
        iterate 3 (go_big_quiet_want; go_big_quiet_op; first | go_big_quiet_on | (refine ⟨_, fun _ _ => rfl, ?_⟩; go_big_quiet_on))
        go_big_quiet_want; go_big_quiet_op; refine ⟨.agg x.cells.toArray, fun wq hq => ?_, ?_⟩
        · have hr := hq.2.2
          have c0 : wq.cell? ⟨b, off + q * 4, none⟩ = some (.int .i64 x.r) := hr 0 _ rfl
          have c1 : wq.cell? ⟨b, off + q * 4 + 1, none⟩ = some (.int .i64 x.c) := hr 1 _ rfl
          have c2 : wq.cell? ⟨b, off + q * 4 + 2, none⟩ = some (.int .u64 x.b) := hr 2 _ rfl
          have c3 : wq.cell? ⟨b, off + q * 4 + 3, none⟩ = some (.int .u64 x.n) := hr 3 _ rfl
          simp [go_sem, c0, c1, c2, c3, Se.cells]
        go_big_quiet_on
        go_big_quiet_want; go_big_quiet_op; refine ⟨.func (.method "Opens") #[.iface 87 (.agg #[])] #[], fun wq hq => ?_, ?_⟩
        · have nm := nilSumO2
          simp [go_sem, nm]
        go_big_quiet_on
        go_big_quiet_want; go_big_quiet_op; refine ⟨.func (.method "Opens") #[.iface 87 (.agg #[])] #[], fun wq hq => ?_, ?_⟩
        · have nm := nilSumO2
          simp [go_sem, nm]
        go_big_quiet_on
        iterate 1 (go_big_quiet_want; go_big_quiet_op; first | go_big_quiet_on | (refine ⟨_, fun _ _ => rfl, ?_⟩; go_big_quiet_on))
        go_big_quiet_want; go_big_quiet_op; refine ⟨.bool true, fun wq hq => ?_, ?_⟩
        · have nm := nilSumO2
          have mm := mthSumO2
          simp [go_sem, nm, mm]
          exact (HOPN.out k x D wq okx hq.1 hD).mono fun e w' ⟨he, hb⟩ => ⟨he, hq.below HJB.out hb⟩
        go_big_quiet_on
        go_big_quiet_want; go_big_quiet_op; first | go_big_quiet_on | (refine ⟨_, fun _ _ => rfl, ?_⟩; go_big_quiet_on)
        refine wpQuiet_nil ?_
        intro wd hqd
        have hIn := HJI.out _ _ _ _ hqd.1
        rw [HK.out] at hIn
        clear hC5 hqd
        go_wp2
        go_roundg (8 - (q + 1))
        case measure => omega
        case rel => exact ⟨q + 1, by omega, by omega, rfl, by go_num, hIn⟩
    · have hcnt : ¬ ((q : Int) < (ls.length : Int) ∧ (q : Int) < 8) := by omega
      clear hlt
      by_cases h1 : (q : Int) < (ls.length : Int)
      all_goals
        first | have h2 : ¬ (q : Int) < 8 := fun h => hcnt ⟨h1, h⟩ | skip
        clear hcnt
        go_wp2
        go_ret
        exact ⟨rfl, q, hq8, hq, hI0⟩

theorem nilTabC (tb : Nat) (w : World) : (nilAhead 224 61 (.pointer (some ⟨tb, 0, none⟩)) "Commit").run Try.prog w = .ok (some false) w := by rfl
theorem mthTabC (tb : Nat) (w : World) : (method 224 61 (.pointer (some ⟨tb, 0, none⟩)) "Commit").run Try.prog w = .ok (35, .pointer (some ⟨tb, 0, none⟩)) w := by rfl
theorem nilTabC2 (tb : Nat) (w : World) : (nilAhead 224 61 (.pointer (some ⟨tb, 0, none⟩)) "Commit").run Try.prog w = .ok (some false) w := by rfl
theorem nilTabO2 (tb : Nat) (w : World) : (nilAhead 224 61 (.pointer (some ⟨tb, 0, none⟩)) "Opens").run Try.prog w = .ok (some false) w := by rfl
theorem mthTabO2 (tb : Nat) (w : World) : (method 224 61 (.pointer (some ⟨tb, 0, none⟩)) "Opens").run Try.prog w = .ok (44, .pointer (some ⟨tb, 0, none⟩)) w := by rfl
/-- What the slots hold. -/
def kRTab (tb : Nat) (N b off m cap q : Nat) (x : Se) (k : Nat) (J : Nat → Se → List UInt8 → World → Prop) : Nat → Value → World → Prop
  | 0, u, _ => u = .iface 61 (.pointer (some ⟨tb, 0, none⟩))
  | 1, u, _ => u = .slice (some ⟨b, off, none⟩) m cap
  | 2, u, _ => u = .int .i64 (q : Int)
  | 3, u, _ => u = .pointer (some ⟨b, off + q * 4, none⟩)
  | 4, u, _ => u = .agg x.cells.toArray
  | 5, u, _ => u = .func (.method "Commit") #[.iface 61 (.pointer (some ⟨tb, 0, none⟩))] #[]
  | 6, _, _ => True
  | 7, u, _ => u = .iface 61 (.pointer (some ⟨tb, 0, none⟩))
  | 8, u, w => ∃ D : List UInt8, D.length = 32 ∧ u = .agg (dg D) ∧ J k x D w
  | _, u, w => ∃ g : Nat, u = .pointer (some ⟨g, 0, none⟩) ∧ N ≤ g ∧ w.heap[g]? = some (.cells (dg z32) 68 (0, 0))
theorem kRTab_keep {tb : Nat} {N b off m cap q : Nat} {x : Se} {k : Nat} {J : Nat → Se → List UInt8 → World → Prop} {j : Nat} {u : Value} {w w' : World} (hk : Keep w w') (hj : j ≠ 8) (h : kRTab tb N b off m cap q x k J j u w) : kRTab tb N b off m cap q x k J j u w' := by
  match j, h, hj with
  | 0, h, _ | 1, h, _ | 2, h, _ | 3, h, _ | 4, h, _ | 5, h, _ | 6, h, _ | 7, h, _ => exact h
  | 8, _, hj => exact absurd rfl hj
  | j + 9, h, _ =>
    obtain ⟨g, h1, h2, h3⟩ := h
    exact ⟨g, h1, h2, hk.2 _ _ h3 rfl⟩
theorem kRTab_below {tb : Nat} {N b off m cap q : Nat} {x : Se} {k : Nat} {J : Nat → Se → List UInt8 → World → Prop} {j : Nat} {u : Value} {w w' : World} (hJb : ∀ k x D w w', J k x D w → Below w.heap.size w w' → J k x D w') (hb : Below w.heap.size w w') (h : kRTab tb N b off m cap q x k J j u w) : kRTab tb N b off m cap q x k J j u w' := by
  match j, h with
  | 0, h | 1, h | 2, h | 3, h | 4, h | 5, h | 6, h | 7, h => exact h
  | 8, h =>
    obtain ⟨D, h1, h2, h3⟩ := h
    exact ⟨D, h1, h2, hJb _ _ _ _ _ h3 hb⟩
  | j + 9, h =>
    obtain ⟨g, h1, h2, h3⟩ := h
    exact ⟨g, h1, h2, (keep_below hb).2 _ _ h3 rfl⟩
set_option maxHeartbeats 4000000 in
theorem keepsTab (tb : Nat) (aa : Option Addr) (cap : Nat) (ls : List Se) (N : Nat) (I : Nat → World → Prop) (J : Nat → Se → List UInt8 → World → Prop)
    (hok : ∀ x ∈ ls, x.Ok) (hl : ls.length ≤ 9223372036854775807) (hIN : ∀ k w, I k w → N ≤ w.heap.size)
    (hat : 0 < ls.length → ∃ b off, aa = some ⟨b, off, none⟩ ∧ ∀ k w, I k w → RowsAt w b off 4 Se.cells ls)
    (hIb : ∀ k w w', I k w → Below w.heap.size w w' → I k w') (hJb : ∀ k x D w w', J k x D w → Below w.heap.size w w' → J k x D w') (hJI : ∀ k x D w, J k x D w → I (k + 1) w)
    (hJs : ∀ k x D w w' g, J k x D w → N ≤ g → w.heap[g]? = some (.cells (dg z32) 68 (0, 0)) → w.grownBy w' (some g) → J k x D w')
    (hcom : ∀ k x w, k < 8 → x.Ok → I k w → Calls Try.prog 35 #[.pointer (some ⟨tb, 0, none⟩), .agg x.cells.toArray] w fun e w' => ∃ D : List UInt8, D.length = 32 ∧ e = .returned (.agg (dg D)) ∧ J k x D w' ∧ Keep w w')
    (hopn : ∀ k x D w, x.Ok → J k x D w → D.length = 32 → Calls Try.prog 44 #[.pointer (some ⟨tb, 0, none⟩), .agg (dg D), .agg x.cells.toArray] w fun e w' => e = .returned (.bool true) ∧ Below w.heap.size w w')
    (w : World) (h0 : I 0 w) :
    Calls Try.prog 32 #[.iface 61 (.pointer (some ⟨tb, 0, none⟩)), .slice aa ls.length cap] w (KeepsP ls.length I) := by
  have HAT := hide hat
  have HOK := hide hok
  have HIB := hide hIb
  have HJB := hide hJb
  have HJI := hide hJI
  have HJS := hide hJs
  have HCOM := hide hcom
  have HOPN := hide hopn
  have HIN := hide hIN
  clear hat hok hIb hJb hJI hJs hcom hopn hIN
  go_enter Try.func32, Try.ntmps32
  go_wp2
  go_loopg [5] 8 (fun g vi wi => ∃ q : Nat, q ≤ ls.length ∧ q ≤ 8 ∧ g = 8 - q ∧ vi = .int .i64 q ∧ I q wi)
  case atStart => exact ⟨0, by omega, by omega, by omega, rfl, h0⟩
  case round =>
    obtain ⟨q, hq, hq8, rfl, rfl, hI0⟩ := hrel
    clear h0
    by_cases hlt : q < ls.length ∧ q < 8
    · obtain ⟨hql, hq7⟩ := hlt
      obtain ⟨b, off, rfl, hrow⟩ := HAT.out (by omega)
      obtain ⟨x, hx⟩ : ∃ x, ls[q]? = some x := ⟨_, List.getElem?_eq_getElem hql⟩
      have okx := HOK.out x (List.mem_of_getElem? hx)
      have hrd : ∀ i u, x.cells[i]? = some u → wr.cell? ⟨b, off + q * 4 + i, none⟩ = some u := hrow q wr hI0 q x hx
      have hNz := HIN.out q wr hI0
      have hq0 : (0 : Int) ≤ (q : Int) := by omega
      have hqI : (q : Int) < (ls.length : Int) := by omega
      have hq8I : (q : Int) < 8 := by omega
      have HRD := hide hrd
      have HROW := hide (show ∀ k w, I k w → ∀ i u, x.cells[i]? = some u → w.cell? ⟨b, off + q * 4 + i, none⟩ = some u from fun k w h => hrow k w h q x hx)
      obtain ⟨k, hkE⟩ : ∃ k, k = q := ⟨_, rfl⟩
      have hIk : I k wr := by rw [hkE]; exact hI0
      have HK := hide hkE
      clear hrow hx hrd hkE hI0
      go_upto_region 4 with (fail)
      refine region_slots 10 [17, 18, 19, 20, 21, 22, 23, 24, 25, 6] (by kernel_rfl) (by kernel_rfl) (by decide) rfl 37 rfl (by decide) (by kernel_rfl) (fun S v w1 => kC N b (off + q * 4) x I k S w1 ∧ ∀ j, j < 10 → S j = true → kRTab tb N b off ls.length cap q x k J j (v j) w1) ?_ ?_ ?_
      · intro v
        exact ⟨⟨HRD.out, hNz, fun _ => HIB.out _ _ _ hIk ((Below.refl _ _).drew)⟩, fun _ _ h => by cases h⟩
      · intro i hi
        match i, hi with
        | 0, _ =>
          intro S v w1 f o ho hf hI hS hall K Q' hK
          obtain rfl := Option.some.inj ho
          have e0 : f.tmps[0]?.getD undef = .iface 61 (.pointer (some ⟨tb, 0, none⟩)) := tmp_of (hf 0)
          simp [go_sem, e0]
          exact hK _ _ (slot_step (C := kC N b (off + q * 4) x I k) (R := kRTab tb N b off ls.length cap q x k J) hI 0 _ (hI.1.stay 0 (by decide)) (fun _ _ _ h => h) rfl)
        | 1, _ =>
          intro S v w1 f o ho hf hI hS hall K Q' hK
          obtain rfl := Option.some.inj ho
          have e1 : f.tmps[1]?.getD undef = .slice (some ⟨b, off, none⟩) ls.length cap := tmp_of (hf 1)
          simp [go_sem, e1]
          exact hK _ _ (slot_step (C := kC N b (off + q * 4) x I k) (R := kRTab tb N b off ls.length cap q x k J) hI 1 _ (hI.1.stay 1 (by decide)) (fun _ _ _ h => h) rfl)
        | 2, _ =>
          intro S v w1 f o ho hf hI hS hall K Q' hK
          obtain rfl := Option.some.inj ho
          have e5 : f.tmps[5]?.getD undef = .int .i64 (q : Int) := tmp_of (hf 5)
          simp [go_sem, e5]
          exact hK _ _ (slot_step (C := kC N b (off + q * 4) x I k) (R := kRTab tb N b off ls.length cap q x k J) hI 2 _ (hI.1.stay 2 (by decide)) (fun _ _ _ h => h) rfl)
        | 3, _ =>
          intro S v w1 f o ho hf hI hS hall K Q' hK
          obtain rfl := Option.some.inj ho
          have e18 : f.tmps[18]?.getD undef = .slice (some ⟨b, off, none⟩) ls.length cap := tmp_of ((hf 18).trans (hI.2 1 (by decide) (edge_listed hall 1 (by kernel_rfl))))
          have e19 : f.tmps[19]?.getD undef = .int .i64 (q : Int) := tmp_of ((hf 19).trans (hI.2 2 (by decide) (edge_listed hall 2 (by kernel_rfl))))
          simp [go_sem, e18, e19, hqI, hq0]
          exact hK _ _ (slot_step (C := kC N b (off + q * 4) x I k) (R := kRTab tb N b off ls.length cap q x k J) hI 3 _ (hI.1.stay 3 (by decide)) (fun _ _ _ h => h) rfl)
        | 4, _ =>
          intro S v w1 f o ho hf hI hS hall K Q' hK
          obtain rfl := Option.some.inj ho
          have e20 : f.tmps[20]?.getD undef = .pointer (some ⟨b, off + q * 4, none⟩) := tmp_of ((hf 20).trans (hI.2 3 (by decide) (edge_listed hall 3 (by kernel_rfl))))
          have hr := hI.1.1
          have c0 : w1.cell? ⟨b, off + q * 4, none⟩ = some (.int .i64 x.r) := hr 0 _ rfl
          have c1 : w1.cell? ⟨b, off + q * 4 + 1, none⟩ = some (.int .i64 x.c) := hr 1 _ rfl
          have c2 : w1.cell? ⟨b, off + q * 4 + 2, none⟩ = some (.int .u64 x.b) := hr 2 _ rfl
          have c3 : w1.cell? ⟨b, off + q * 4 + 3, none⟩ = some (.int .u64 x.n) := hr 3 _ rfl
          simp [go_sem, e20, c0, c1, c2, c3]
          exact hK _ _ (slot_step (C := kC N b (off + q * 4) x I k) (R := kRTab tb N b off ls.length cap q x k J) hI 4 _ (hI.1.stay 4 (by decide)) (fun _ _ _ h => h) rfl)
        | 5, _ =>
          intro S v w1 f o ho hf hI hS hall K Q' hK
          obtain rfl := Option.some.inj ho
          have e17 : f.tmps[17]?.getD undef = .iface 61 (.pointer (some ⟨tb, 0, none⟩)) := tmp_of ((hf 17).trans (hI.2 0 (by decide) (edge_listed hall 0 (by kernel_rfl))))
          have nm := nilTabC tb
          have nm2 := nilTabC2 tb
          simp [go_sem, e17, nm, nm2]
          exact hK _ _ (slot_step (C := kC N b (off + q * 4) x I k) (R := kRTab tb N b off ls.length cap q x k J) hI 5 _ (hI.1.stay 5 (by decide)) (fun _ _ _ h => h) rfl)
        | 6, _ =>
          intro S v w1 f o ho hf hI hS hall K Q' hK
          obtain rfl := Option.some.inj ho
          have e22 : f.tmps[22]?.getD undef = .func (.method "Commit") #[.iface 61 (.pointer (some ⟨tb, 0, none⟩))] #[] := tmp_of ((hf 22).trans (hI.2 5 (by decide) (edge_listed hall 5 (by kernel_rfl))))
          have nm := nilTabC tb
          have nm2 := nilTabC2 tb
          simp [go_sem, e22, nm, nm2]
          exact hK _ _ (slot_step (C := kC N b (off + q * 4) x I k) (R := kRTab tb N b off ls.length cap q x k J) hI 6 _ (hI.1.stay 6 (by decide)) (fun _ _ _ h => h) trivial)
        | 7, _ =>
          intro S v w1 f o ho hf hI hS hall K Q' hK
          obtain rfl := Option.some.inj ho
          have e17 : f.tmps[17]?.getD undef = .iface 61 (.pointer (some ⟨tb, 0, none⟩)) := tmp_of ((hf 17).trans (hI.2 0 (by decide) (edge_listed hall 0 (by kernel_rfl))))
          simp [go_sem, e17]
          exact hK _ _ (slot_step (C := kC N b (off + q * 4) x I k) (R := kRTab tb N b off ls.length cap q x k J) hI 7 _ (hI.1.stay 7 (by decide)) (fun _ _ _ h => h) rfl)
        | 8, _ =>
          intro S v w1 f o ho hf hI hS hall K Q' hK
          obtain rfl := Option.some.inj ho
          have e24 : f.tmps[24]?.getD undef = .iface 61 (.pointer (some ⟨tb, 0, none⟩)) := tmp_of ((hf 24).trans (hI.2 7 (by decide) (edge_listed hall 7 (by kernel_rfl))))
          have e21 : f.tmps[21]?.getD undef = .agg x.cells.toArray := tmp_of ((hf 21).trans (hI.2 4 (by decide) (edge_listed hall 4 (by kernel_rfl))))
          have mm := mthTabC tb
          simp [go_sem, e24, e21, mm]
          refine (HCOM.out k x w1 (by rw [HK.out]; exact hq7) okx (hI.1.2.2 hS)).mono ?_
          rintro e w2 ⟨D, hD, rfl, hJ, hk⟩
          exact hK _ _ (slot_step (C := kC N b (off + q * 4) x I k) (R := kRTab tb N b off ls.length cap q x k J) hI 8 _ (hI.1.commit hk) (fun j hj u h => kRTab_keep hk hj h) ⟨D, hD, rfl, hJ⟩)
        | 9, _ =>
          intro S v w1 f o ho hf hI hS hall K Q' hK
          obtain rfl := Option.some.inj ho
          refine wp_allocZ rfl ?_
          intro w2 hg hb
          exact hK _ _ (slot_step (C := kC N b (off + q * 4) x I k) (R := kRTab tb N b off ls.length cap q x k J) hI 9 _ (hI.1.below HIB.out hb) (fun j hj u h => kRTab_below HJB.out hb h) ⟨_, rfl, hI.1.2.1, hg⟩)
        | i + 10, hi => exact absurd hi (by omega)
      · intro S v wh hS hI
        have e0 : v 0 = .iface 61 (.pointer (some ⟨tb, 0, none⟩)) := hI.2 0 (by decide) (hS 0 (by decide))
        have e1 : v 1 = .slice (some ⟨b, off, none⟩) ls.length cap := hI.2 1 (by decide) (hS 1 (by decide))
        have e2 : v 2 = .int .i64 (q : Int) := hI.2 2 (by decide) (hS 2 (by decide))
        have e3 : v 3 = .pointer (some ⟨b, off + q * 4, none⟩) := hI.2 3 (by decide) (hS 3 (by decide))
        have e4 : v 4 = .agg x.cells.toArray := hI.2 4 (by decide) (hS 4 (by decide))
        have e5 : v 5 = .func (.method "Commit") #[.iface 61 (.pointer (some ⟨tb, 0, none⟩))] #[] := hI.2 5 (by decide) (hS 5 (by decide))
        have e7 : v 7 = .iface 61 (.pointer (some ⟨tb, 0, none⟩)) := hI.2 7 (by decide) (hS 7 (by decide))
        obtain ⟨D, hD, e8, hJ⟩ := hI.2 8 (by decide) (hS 8 (by decide))
        obtain ⟨g, e9, hgN, hg⟩ := hI.2 9 (by decide) (hS 9 (by decide))
        obtain ⟨v6, e6⟩ : ∃ v6, v 6 = v6 := ⟨_, rfl⟩
        simp only [putSlots, Act.put, List.setIfInBounds_toArray, List.set_cons_succ, List.set_cons_zero, List.drop_succ_cons, List.drop_zero, e0, e1, e2, e3, e4, e5, e6, e7, e8, e9]
        clear hI hS e0 e1 e2 e3 e4 e5 e6 e7 e8 e9 hIk
        refine law_store rfl _ _ _ rfl g (dg D) rfl rfl _ _ hg (by rw [dg_size, hD]; exact zsizeDig) (by rw [dg_size, dg_size, hD]; rfl) (dg_one _) ?_
        intro w5 hg5 hw5
        have hJ5 := HJS.out k x D wh w5 g hJ hgN hg hw5
        have hC5 : kD b (off + q * 4) g x D k J w5 := ⟨hJ5, hg5.out, HROW.out (k + 1) w5 (HJI.out _ _ _ _ hJ5)⟩
        clear hg5 hw5 hJ5 hJ hg
        go_upto_region 5 with (fail)
        simp only [Act.put]
        refine zquiet (C := kD b (off + q * 4) g x D k J) (by kernel_rfl) (by kernel_rfl) (hC5.below HJB.out ((Below.refl _ _).drew)) ?_
        iterate 1 (go_big_quiet_want; go_big_quiet_op; first | go_big_quiet_on | (refine ⟨_, fun _ _ => rfl, ?_⟩; go_big_quiet_on))
        go_big_quiet_want; go_big_quiet_op; refine ⟨.agg (dg D), fun wq hq => ?_, ?_⟩
        · have q1 := hq.2.1
          simp [go_sem, objAt, q1, dg_size, hD]
        go_big_quiet_on
        iterate 3 (go_big_quiet_want; go_big_quiet_op; first | go_big_quiet_on | (refine ⟨_, fun _ _ => rfl, ?_⟩; go_big_quiet_on))
        go_big_quiet_want; go_big_quiet_op; refine ⟨.agg x.cells.toArray, fun wq hq => ?_, ?_⟩
        · have hr := hq.2.2
          have c0 : wq.cell? ⟨b, off + q * 4, none⟩ = some (.int .i64 x.r) := hr 0 _ rfl
          have c1 : wq.cell? ⟨b, off + q * 4 + 1, none⟩ = some (.int .i64 x.c) := hr 1 _ rfl
          have c2 : wq.cell? ⟨b, off + q * 4 + 2, none⟩ = some (.int .u64 x.b) := hr 2 _ rfl
          have c3 : wq.cell? ⟨b, off + q * 4 + 3, none⟩ = some (.int .u64 x.n) := hr 3 _ rfl
          simp [go_sem, c0, c1, c2, c3, Se.cells]
        go_big_quiet_on
        go_big_quiet_want; go_big_quiet_op; refine ⟨.func (.method "Opens") #[.iface 61 (.pointer (some ⟨tb, 0, none⟩))] #[], fun wq hq => ?_, ?_⟩
        · have nm := nilTabO2 tb
          simp [go_sem, nm]
        go_big_quiet_on
        go_big_quiet_want; go_big_quiet_op; refine ⟨.func (.method "Opens") #[.iface 61 (.pointer (some ⟨tb, 0, none⟩))] #[], fun wq hq => ?_, ?_⟩
        · have nm := nilTabO2 tb
          simp [go_sem, nm]
        go_big_quiet_on
        iterate 1 (go_big_quiet_want; go_big_quiet_op; first | go_big_quiet_on | (refine ⟨_, fun _ _ => rfl, ?_⟩; go_big_quiet_on))
        go_big_quiet_want; go_big_quiet_op; refine ⟨.bool true, fun wq hq => ?_, ?_⟩
        · have nm := nilTabO2 tb
          have mm := mthTabO2 tb
          simp [go_sem, nm, mm]
          exact (HOPN.out k x D wq okx hq.1 hD).mono fun e w' ⟨he, hb⟩ => ⟨he, hq.below HJB.out hb⟩
        go_big_quiet_on
        go_big_quiet_want; go_big_quiet_op; first | go_big_quiet_on | (refine ⟨_, fun _ _ => rfl, ?_⟩; go_big_quiet_on)
        refine wpQuiet_nil ?_
        intro wd hqd
        have hIn := HJI.out _ _ _ _ hqd.1
        rw [HK.out] at hIn
        clear hC5 hqd
        go_wp2
        go_roundg (8 - (q + 1))
        case measure => omega
        case rel => exact ⟨q + 1, by omega, by omega, rfl, by go_num, hIn⟩
    · have hcnt : ¬ ((q : Int) < (ls.length : Int) ∧ (q : Int) < 8) := by omega
      clear hlt
      by_cases h1 : (q : Int) < (ls.length : Int)
      all_goals
        first | have h2 : ¬ (q : Int) < 8 := fun h => hcnt ⟨h1, h⟩ | skip
        clear hcnt
        go_wp2
        go_ret
        exact ⟨rfl, q, hq8, hq, hI0⟩
end Go.Proofs.Ytpkgmoiffegbfaa
