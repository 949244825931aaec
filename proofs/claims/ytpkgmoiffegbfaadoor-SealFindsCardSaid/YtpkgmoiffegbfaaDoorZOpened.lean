/- Layer 19: what opens marks: the walks. Condition: what the two variables of sha hold; numbers of their kinds. -/
import Derived.Test.YtpkgmoiffegbfaaDoorZSeal
namespace Go.Proofs.YtpkgmoiffegbfaaDoor
open Go.RowKit Go.BigFrame
set_option maxRecDepth 100000
attribute [local go_sem ↓] exec_loadZ exec_eqlZ exec_neqZ exec_zeroZ
attribute [local go_sem] loadRow eqRow digEq_dg isDig_dg objAt_drew

/-- A scheme: that of sums, or none. -/
def SchV (o : Bool) : Value := if o then .iface 71 (.agg #[]) else .nilIface
theorem opened1_none (w : World) (x : Se) (sb db : Nat) (D : List UInt8) (hD : D.length = 32) (hs : w.heap[sb]? = some (.cells #[.nilIface] 43 (0, 0))) (hd : w.heap[db]? = some (.cells (dg D) 28 (0, 0))) :
    Calls Tryd.prog 39 #[.agg x.cells.toArray, .pointer (some ⟨sb, 0, none⟩), .pointer (some ⟨db, 0, none⟩)] w fun e w' => e = .returned (.bool false) ∧ Below w.heap.size w w' := by
  have c0 : w.cell? ⟨sb, 0, none⟩ = some .nilIface := zcell hs rfl
  have hlt := zlt hs
  go_enter Tryd.func39, Tryd.ntmps39
  go_wp2
  go_ret
  exact ⟨rfl, (Below.refl _ _).alloc (Nat.le_refl _) _⟩
theorem nil_ahead_opens (w : World) : (nilAhead 157 71 (.agg #[]) "Opens").run Tryd.prog w = .ok (some false) w := by kernel_rfl
theorem method_opens (w : World) : (method 157 71 (.agg #[]) "Opens").run Tryd.prog w = .ok (68, .agg #[]) w := by kernel_rfl
theorem opened1_sum (w : World) (x : Se) (ok : x.Ok) (hG : Glob F0 K64 w) (sb db : Nat) (D : List UInt8) (hD : D.length = 32) (hs : w.heap[sb]? = some (.cells #[.iface 71 (.agg #[])] 43 (0, 0))) (hd : w.heap[db]? = some (.cells (dg D) 28 (0, 0))) :
    Calls Tryd.prog 39 #[.agg x.cells.toArray, .pointer (some ⟨sb, 0, none⟩), .pointer (some ⟨db, 0, none⟩)] w fun e w' => e = .returned (.bool (decide (comS x = D))) ∧ Below w.heap.size w w' := by
  go_enter Tryd.func39, Tryd.ntmps39
  go_upto_region 1 with (fail)
  have hB : Below w.heap.size w (w.alloc (.cells x.cells.toArray 41)) := (Below.refl _ _).alloc (Nat.le_refl _) _
  have hn := new_at w (.cells x.cells.toArray 41)
  have hs1 := below_at hB hs (zlt hs)
  have hd1 := below_at hB hd (zlt hd)
  have hG1 := hG.below hB
  have hz := World.size_alloc w (.cells x.cells.toArray 41)
  obtain ⟨W1, hW⟩ : ∃ W1, W1 = w.alloc (.cells x.cells.toArray 41) := ⟨_, rfl⟩
  obtain ⟨n, hnn⟩ : ∃ n, n = w.heap.size := ⟨_, rfl⟩
  rw [← hW] at hB hn hs1 hd1 hG1 hz ⊢
  rw [← hnn] at hB hn hz ⊢
  have HN := hide hnn
  clear hW hs hd hG hnn
  have c0 : W1.cell? ⟨sb, 0, none⟩ = some (.iface 71 (.agg #[])) := zcell hs1 rfl
  have d0 : objAt W1 db = some (.cells (dg D) 28 (0, 0)) := hd1
  have ds : (dg D).size = 32 := by rw [dg_size, hD]
  have x0 : W1.cell? ⟨n, 0, none⟩ = some (.int .i64 x.r) := zcell hn rfl
  have x1 : W1.cell? ⟨n, 1, none⟩ = some (.int .i64 x.c) := zcell hn rfl
  have x2 : W1.cell? ⟨n, 2, none⟩ = some (.int .u64 x.b) := zcell hn rfl
  have x3 : W1.cell? ⟨n, 3, none⟩ = some (.int .u64 x.n) := zcell hn rfl
  have nm := nil_ahead_opens
  have mm := method_opens
  clear hs1 hd1 hn
  go_wp2_with fail
  refine (sopens_any W1 D hD x ok hG1).mono ?_
  rintro e w3 ⟨rfl, hB3⟩
  go_wp2
  go_ret
  exact ⟨rfl, HN.out ▸ hB.trans (hB3.mono (by omega))⟩
theorem opened1_any (o : Bool) (w : World) (x : Se) (ok : x.Ok) (hG : Glob F0 K64 w) (sb db : Nat) (D : List UInt8) (hD : D.length = 32) (hs : w.heap[sb]? = some (.cells #[SchV o] 43 (0, 0))) (hd : w.heap[db]? = some (.cells (dg D) 28 (0, 0))) :
    Calls Tryd.prog 39 #[.agg x.cells.toArray, .pointer (some ⟨sb, 0, none⟩), .pointer (some ⟨db, 0, none⟩)] w fun e w' => e = .returned (.bool (o && decide (comS x = D))) ∧ Below w.heap.size w w' := by
  cases o with
  | false => exact opened1_none w x sb db D hD hs hd
  | true => exact opened1_sum w x ok hG sb db D hD hs hd

/-- What stays while the things are gone through. -/
def IxC (o : Bool) (n : Nat) (w0 : World) (sb db : Nat) (D : List UInt8) (w : World) : Prop := Glob F0 K64 w ∧ w.heap[sb]? = some (.cells #[SchV o] 43 (0, 0)) ∧ w.heap[db]? = some (.cells (dg D) 28 (0, 0)) ∧ Below n w0 w ∧ n ≤ w.heap.size
theorem IxC.below {o : Bool} {n : Nat} {w0 : World} {sb db : Nat} {D : List UInt8} {w w' : World} (h : IxC o n w0 sb db D w) (hb : Below w.heap.size w w') : IxC o n w0 sb db D w' := by
  obtain ⟨h1, h2, h3, h4, h5⟩ := h
  exact ⟨h1.below hb, below_at hb h2 (zlt h2), below_at hb h3 (zlt h3), h4.trans (hb.mono (by omega)), Nat.le_trans h5 hb.size⟩
/-- Which of some things is the first. -/
def firstOf (p : Se → Bool) : List Se → Nat → Int
  | [], _ => -1
  | x :: t, k => if p x then (k : Int) else firstOf p t (k + 1)
theorem firstOf_drop (p : Se → Bool) (ls : List Se) (q : Nat) (h : q < ls.length) (k : Nat) : firstOf p (ls.drop q) k = if p ls[q] then (k : Int) else firstOf p (ls.drop (q + 1)) (k + 1) := by
  rw [List.drop_eq_getElem_cons h]
  rfl

set_option maxHeartbeats 4000000 in
theorem indexfunc_any (o : Bool) (w : World) (sb db : Nat) (D : List UInt8) (hD : D.length = 32) (aa : Option Addr) (cap : Nat) (ls : List Se) (hl : ls.length ≤ 9223372036854775807) (hok : ∀ x ∈ ls, x.Ok)
    (hC : IxC o w.heap.size w sb db D w)
    (hat : 0 < ls.length → ∃ b off, aa = some ⟨b, off, none⟩ ∧ b < w.heap.size ∧ RowsAt w b off 4 Se.cells ls) :
    Calls Tryd.prog 38 #[.slice aa ls.length cap, .func (.func 39) #[] #[.pointer (some ⟨sb, 0, none⟩), .pointer (some ⟨db, 0, none⟩)]] w
      fun e w' => e = .returned (.int .i64 (firstOf (fun x => o && decide (comS x = D)) ls 0)) ∧ Below w.heap.size w w' := by
  have HAT := hide hat
  have HOK := hide hok
  obtain ⟨n, hn⟩ : ∃ n, n = w.heap.size := ⟨_, rfl⟩
  obtain ⟨R, hR⟩ : ∃ R, R = firstOf (fun x => o && decide (comS x = D)) ls 0 := ⟨_, rfl⟩
  rw [← hn] at hC
  rw [← hR]
  have HN := hide hn
  have HR := hide hR
  clear hat hok hn hR
  go_enter Tryd.func38, Tryd.ntmps38
  go_wp2_with fail
  go_loopg [8] ls.length (fun g vi wi => ∃ q : Nat, q ≤ ls.length ∧ g = ls.length - q ∧ vi = .int .i64 q ∧ R = firstOf (fun x => o && decide (comS x = D)) (ls.drop q) q ∧ IxC o n w sb db D wi)
  case atStart => exact ⟨0, by omega, by omega, rfl, HR.out, hC⟩
  case round =>
    obtain ⟨q, hq, rfl, rfl, hRq, hCq⟩ := hrel
    by_cases hlt : q < ls.length
    · obtain ⟨b, off, rfl, hbl, hrow⟩ := HAT.out (by omega)
      have hcells : ∀ i u, (ls[q]).cells[i]? = some u → wr.cell? ⟨b, off + q * 4 + i, none⟩ = some u := fun i u hu => (hCq.2.2.2.1.cell (p := ⟨b, off + q * 4 + i, none⟩) (by show b < n; rw [HN.out]; exact hbl)).trans (hrow q _ (List.getElem?_eq_getElem hlt) i u hu)
      have okq := HOK.out _ (List.getElem_mem hlt)
      have hf := firstOf_drop (fun x => o && decide (comS x = D)) ls q hlt q
      obtain ⟨x, hx⟩ : ∃ x, x = ls[q] := ⟨_, rfl⟩
      rw [← hx] at hcells okq hf
      have c0 : wr.cell? ⟨b, off + q * 4, none⟩ = some (.int .i64 x.r) := hcells 0 _ rfl
      have c1 : wr.cell? ⟨b, off + q * 4 + 1, none⟩ = some (.int .i64 x.c) := hcells 1 _ rfl
      have c2 : wr.cell? ⟨b, off + q * 4 + 2, none⟩ = some (.int .u64 x.b) := hcells 2 _ rfl
      have c3 : wr.cell? ⟨b, off + q * 4 + 3, none⟩ = some (.int .u64 x.n) := hcells 3 _ rfl
      have HX := hide hx
      have HRQ := hide (hRq.trans hf)
      have hq0 : (0 : Int) ≤ (q : Int) := by omega
      have hqI : (q : Int) < (ls.length : Int) := by omega
      clear hcells hrow hx hf hRq hq
      go_wp2_with fail
      refine (opened1_any o wr x okq hCq.1 sb db D hD hCq.2.1 hCq.2.2.1).mono ?_
      rintro e w3 ⟨rfl, hB3⟩
      have hC3 := hCq.below hB3
      clear hB3 hCq c0 c1 c2 c3
      cases hp : (o && decide (comS x = D)) with
      | true =>
        have HR2 := HRQ.out
        simp only [hp, if_true] at HR2
        subst HR2
        go_wp2
        go_ret
        exact ⟨rfl, HN.out ▸ hC3.2.2.2.1⟩
      | false =>
        go_wp2
        go_roundg (ls.length - (q + 1))
        case measure => omega
        case rel =>
          have HR2 := HRQ.out
          simp only [hp, Bool.false_eq_true, if_false] at HR2
          exact ⟨q + 1, by omega, by omega, by simp, HR2, hC3⟩
    · have hqe : q = ls.length := by omega
      subst hqe
      rw [List.drop_length] at hRq
      have hn1 : ¬ ((ls.length : Int) < (ls.length : Int)) := by omega
      obtain rfl : R = -1 := hRq
      go_wp2
      go_ret
      exact ⟨rfl, HN.out ▸ hCq.2.2.2.1⟩
end Go.Proofs.YtpkgmoiffegbfaaDoor
