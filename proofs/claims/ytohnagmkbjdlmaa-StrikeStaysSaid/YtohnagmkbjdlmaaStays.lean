/- Layer 23, StrikeStays, of all offences: the walk. Condition: the offences lie in a slice. -/
import Derived.Test.YtohnagmkbjdlmaaStaysL
import Derived.Deep.LoopGhost
import Derived.Deep.QuietTactic
import Derived.IntWalk
import Derived.BigQuiet
namespace Go.Proofs.Ytohnagmkbjdlmaa
open Go.RowKit Go.BigFrame Go.Shelf
set_option maxRecDepth 100000

theorem isF_any (w : World) (tb : Nat) (cs : List Nat) (ht : IsTally w tb cs 8) (c : Nat) (hc : c < 8) (h3 : 3 ≤ cs.getD c 0) :
    Calls Try.prog 9 #[.pointer (some ⟨tb, 0, none⟩), .int .i64 (c : Int)] w fun e w' => e = .returned (.bool true) ∧ w = w' :=
  is_any w tb 8 cs ht c true (by rw [of_eight cs c hc]; simpa using h3)

theorem region_quiet_list {P : Program} {C : World → Prop} {id : Nat} {Q : Exit → Act → World → Prop} {a : Act} {w : World} {l : List Oper} (hm : P.follows .mixedOrders = true) (hB : Region.lexB .any l.toArray = true) (hC : C w.drew)
    (h : wpQuiet P l.toArray C (fun a' => ∀ w', C w' → Q .normal a' w') l a) : (Code.region id l.toArray true).wp P Q a w :=
  wp_region_quiet hm hB hC (by simpa using h)
/-- A world of which nothing but the count of draws has moved. -/
def Drawn (w0 w : World) : Prop := ∃ n, w = w0.drewN n
theorem drawn_of (tb : Nat) (cs : List Nat) (w0 : World) (ht : IsTally w0 tb cs 8) (c y : Nat) (hc : c < 8) (hy : cs.getD c 0 = y) (z : Int) (hz : (y : Int) = z) (w : World) (h : Drawn w0 w) :
    Calls Try.prog 8 #[.pointer (some ⟨tb, 0, none⟩), .int .i64 (c : Int)] w fun e w' => e = .returned (.int .i64 z) ∧ Drawn w0 w' := by
  obtain ⟨n, rfl⟩ := h
  have hO := of_any (w0.drewN n) tb 8 cs (ht.drewN n) (c : Int)
  rw [of_eight cs c hc, hy, hz] at hO
  exact hO.mono fun e w' ⟨he, hw⟩ => ⟨he, n, hw.symm⟩
theorem drawn_is (tb : Nat) (cs : List Nat) (w0 : World) (ht : IsTally w0 tb cs 8) (c : Nat) (hc : c < 8) (h3 : 3 ≤ cs.getD c 0) (w : World) (h : Drawn w0 w) :
    Calls Try.prog 9 #[.pointer (some ⟨tb, 0, none⟩), .int .i64 (c : Int)] w fun e w' => e = .returned (.bool true) ∧ Drawn w0 w' := by
  obtain ⟨n, rfl⟩ := h
  exact (isF_any (w0.drewN n) tb cs (ht.drewN n) c hc h3).mono fun e w' ⟨he, hw⟩ => ⟨he, n, hw.symm⟩
theorem drawn_cell {w0 w : World} (h : Drawn w0 w) (p : Addr) : w.cell? p = w0.cell? p := by
  obtain ⟨n, rfl⟩ := h
  exact World.cell?_drewN _ _ _

set_option maxHeartbeats 8000000 in
theorem stays_some (b off cap : Nat) (l : List Nat) (w : World) (_hl : l.length ≤ 9223372036854775807) (hx : ∀ x ∈ l, x < 256) (hb : b < w.heap.size) (hc : ∀ j, (h : j < l.length) → w.cell? ⟨b, off + j, none⟩ = some (.int .u8 ((l[j] : Nat) : Int))) :
    Calls Try.prog 4 #[.slice (some ⟨b, off, none⟩) l.length cap] w fun e w' => e = .returned (.bool true) ∧ Below w.heap.size w w' := by
  have HC := Lib.hid hc
  have HX := Lib.hid hx
  clear hc hx
  go_enter Try.func4, Try.ntmps4
  go_wp2_with fail
  refine (new_okI _ _ 8 rfl (by decide) (by decide)).mono ?_
  rintro e w1 ⟨rfl, ht1, hb1⟩
  go_wp2_with fail
  refine (works_any _).mono ?_
  rintro e w2 ⟨rfl, hb2⟩
  have ht2 := ht1.below hb2
  have hB2 := hb1.trans (hb2.mono hb1.size)
  clear ht1 hb1 hb2
  obtain ⟨tb, htb⟩ : ∃ tb, tb = w.heap.size := ⟨_, rfl⟩
  rw [← htb] at ht2 hB2 ⊢
  have HTB := Lib.hid htb
  have hbt : b < tb := by omega
  clear htb hb
  go_wp2
  go_loopg [5] 60 (fun g i wr => ∃ k : Nat, k ≤ l.length ∧ k ≤ 60 ∧ g = 60 - k ∧ i = .int .i64 k ∧ IsTally wr tb (cnt (l.take k)) 8 ∧ Below tb w wr)
  case atStart => exact ⟨0, Nat.zero_le _, Nat.zero_le _, rfl, rfl, ht2, hB2⟩
  case round =>
    obtain ⟨k, hk, hk60, rfl, rfl, htr, hBr⟩ := hrel
    clear ht2 hB2
    by_cases hlt : k < l.length ∧ k < 60
    · obtain ⟨h1, h2⟩ := hlt
      have hk0 : (0 : Int) ≤ (k : Int) := by omega
      have hkl : (k : Int) < (l.length : Int) := by omega
      have hk6 : (k : Int) < 60 := by omega
      have hx8 := HX.out l[k] (List.getElem_mem h1)
      have htk : l.take (k + 1) = l.take k ++ [l[k]] := List.take_succ_eq_append_getElem h1
      obtain ⟨x, hxd⟩ : ∃ x, l[k] = x := ⟨_, rfl⟩
      have hcx0 : w.cell? ⟨b, off + k, none⟩ = some (.int .u8 (x : Int)) := hxd ▸ HC.out k h1
      rw [hxd] at hx8 htk
      obtain ⟨cs, hcs⟩ : ∃ cs, cnt (l.take k) = cs := ⟨_, rfl⟩
      have hcs8 : cs.length = 8 := by rw [← hcs]; exact cnt_length _
      have hnext : cnt (l.take (k + 1)) = bump cs x := by rw [htk, cnt_snoc, hcs]
      have hsmall : ∀ c ∈ cs, c ≤ 60 := by
        intro c hc
        rw [← hcs] at hc
        have := cnt_le _ c hc
        have h3 : (l.take k).length ≤ k := List.length_take_le _ _
        omega
      rw [hcs] at htr
      have HN := Lib.hid hnext
      have HS := Lib.hid hsmall
      have HC0 := Lib.hid hcx0
      clear hxd htk hcs hnext hsmall hcx0
      go_wp2_with fail
      refine (barredAll_any _ _ _ _ htr).mono ?_
      rintro e w3 ⟨v, rfl, hr3, hb3⟩
      obtain ⟨a, rfl, hown, hag⟩ := hr3.own
      have ht3 := htr.below hb3
      have htlt := htr.lt
      have hB3 := hBr.trans (hb3.mono (Nat.le_of_lt htlt))
      have hsz3 := hb3.size
      obtain ⟨X, hX⟩ : ∃ X, bl cs 8 = X := ⟨_, rfl⟩
      rw [hX] at hown ⊢
      have hXl : X.length ≤ 8 := by rw [← hX]; exact bl_length cs 8
      have HXe := Lib.hid hX
      have HOWN := Lib.hid hown
      have hag' : ∀ g, a = some ⟨g, 0, none⟩ → tb < g := fun g e => Nat.lt_of_lt_of_le htlt (hag g e)
      have HAG := Lib.hid hag'
      clear hX hr3 hb3 htr hBr hown hag hag'
      go_wp2
      have hH : ∀ cells, cells = hadC cs 0 → (w3.alloc (.cells cells 36)).heap[w3.heap.size]? = some (.cells (hadC cs 0) 36 (0, 0)) := fun cells e => by rw [e]; exact World.alloc_heap_new w3 _
      have ht4 := ht3.below ((Below.refl w3.heap.size w3).alloc (Nat.le_refl _) (.cells (hadC cs 0) 36))
      have hB4 := hB3.alloc (by omega) (.cells (hadC cs 0) 36)
      have hown4 : OwnRow (w3.alloc (.cells (hadC cs 0) 36)) a X 0 := HOWN.out.on fun g _ hg => ((Below.refl w3.heap.size w3).alloc (Nat.le_refl _) _).block g hg
      have hne : ∀ g, a = some ⟨g, 0, none⟩ → 0 < X.length → g ≠ w3.heap.size := fun g e h0 e2 => by
        obtain ⟨g', cur, ha, hg, _⟩ := HOWN.out h0
        rw [e] at ha
        cases ha
        have := (Array.getElem?_eq_some_iff.1 hg).1
        omega
      obtain ⟨H, hHd⟩ : ∃ H, H = w3.heap.size := ⟨_, rfl⟩
      rw [← hHd] at hH hne hsz3 ⊢
      have htH : tb < H := by omega
      have hz4 : H < (w3.alloc (.cells (hadC cs 0) 36)).heap.size := by rw [World.size_alloc]; omega
      clear hHd hsz3 ht3 hB3
      have HNE := Lib.hid hne
      clear hne HOWN
      go_loopg [8] 8 (fun g c wi => ∃ q : Nat, q ≤ 8 ∧ g = 8 - q ∧ c = .int .i64 q ∧ IsTally wi tb cs 8 ∧ Below tb w wi ∧ wi.heap[H]? = some (.cells (hadC cs q) 36 (0, 0)) ∧ OwnRow wi a X 0)
      case atStart => exact ⟨0, by omega, rfl, rfl, ht4, hB4, hH _ rfl, hown4⟩
      case round =>
        obtain ⟨q, hq, rfl, rfl, hti, hBi, hHi, howni⟩ := hrel
        clear ht4 hB4 hH hown4 hz4
        have HOW := Lib.hid howni
        clear howni
        by_cases hq8 : q < 8
        · have hq0 : (0 : Int) ≤ (q : Int) := by omega
          have hq8' : (q : Int) < 8 := by omega
          have hof := of_any wr tb 8 cs hti (q : Int)
          rw [of_eight cs q hq8] at hof
          have hcell : wr.cell? ⟨H, q, none⟩ = some (encI (if q < q then cs.getD q 0 else 0)) := cellAt hHi (hadC_at cs q q hq8)
          have hfz : wr.frozen? ⟨H, q, none⟩ = false := by simp [World.frozen?, hHi]
          have HH := Lib.hid hHi
          obtain ⟨y, hy⟩ : ∃ y, cs.getD q 0 = y := ⟨_, rfl⟩
          rw [hy] at hof
          have HY := Lib.hid hy
          clear hy
          have HO := Lib.hid hof
          clear hof hHi
          go_wp2_with fail
          refine HO.out.mono ?_
          rintro e w5 ⟨rfl, rfl⟩
          go_wp2
          have hrow := heap_setCell_row wr H q _ _ (encI y) HH.out
          rw [← HY.out, hadC_set cs q hq8, HY.out] at hrow
          have hoth : ∀ j, j ≠ H → (wr.setCell ⟨H, q, none⟩ (encI y)).heap[j]? = wr.heap[j]? := fun j hj => heap_setCell_other wr _ j _ hj
          have htn := hti.on (hoth tb (by omega))
          have hBn := hBi.setCell (p := ⟨H, q, none⟩) (Nat.le_of_lt htH) (encI y)
          have hon : OwnRow (wr.setCell ⟨H, q, none⟩ (encI y)) a X 0 := fun h0 => (HOW.out.on fun g e _ => hoth g (HNE.out g e h0)) h0
          go_roundg (8 - (q + 1))
          case measure => omega
          case rel => exact ⟨q + 1, by omega, rfl, by simp, htn, hBn, hrow, hon⟩
        · obtain rfl : q = 8 := by omega
          clear hq8 hq
          have hcx : wr.cell? ⟨b, off + k, none⟩ = some (.int .u8 (x : Int)) := (hBi.cell (p := ⟨b, off + k, none⟩) hbt).trans HC0.out
          obtain ⟨r, hr⟩ : ∃ r : Nat, (x : Int) % 8 = (r : Int) := ⟨x % 8, by omega⟩
          have hr8 : r < 8 := by omega
          have hxr : x % 8 = r := by omega
          have hsm : cs.getD r 0 < 1152921504606846976 := by
            have : cs.getD r 0 ≤ 60 := by
              rw [List.getD, List.getElem?_eq_getElem (by omega), Option.getD_some]
              exact HS.out _ (List.getElem_mem _)
            omega
          have hbump : cs.set r (cs.getD r 0 + 1) = bump cs x := by rw [bump, hxr]
          have HBU := Lib.hid hbump
          have HXR := Lib.hid hxr
          clear hbump hxr
          go_wp2_with fail
          refine (add_okI _ _ _ _ _ hti _ r rfl hr8 hsm HBU.out).mono ?_
          rintro e w5 ⟨rfl, ht5, hg5⟩
          have hHn := (hg5.block H (by have := (Array.getElem?_eq_some_iff.1 hHi).1; exact this) (by simp; omega)).trans hHi
          have hB5 := below_grown hBi hg5 (Nat.le_of_lt hti.lt) (by intro q e; cases e; exact Nat.le_refl _)
          have hown5 : OwnRow w5 a X 0 := HOW.out.on fun g e hg => hg5.block g hg (by have := HAG.out g e; simp; omega)
          have HOWN5 := Lib.hid hown5
          clear hown5 hg5 hti hBi hHi hcx hsm HOW
          go_wp2
          go_loopg [10] 8 (fun g c wi => ∃ q m : Nat, q ≤ 8 ∧ g = 8 - q ∧ c = .int .i64 q ∧ wi = w5.drewN m)
          case atStart => exact ⟨0, 0, by omega, rfl, rfl, rfl⟩
          case round =>
            obtain ⟨q, m, hq, rfl, rfl, rfl⟩ := hrel
            by_cases hq8 : q < 8
            · have hq0 : (0 : Int) ≤ (q : Int) := by omega
              have hq8' : (q : Int) < 8 := by omega
              obtain ⟨y, hy⟩ : ∃ y, cs.getD q 0 = y := ⟨_, rfl⟩
              have hld : w5.cell? ⟨H, q, none⟩ = some (.int .i64 (y : Int)) := by
                have h := cellAt hHn (hadC_at cs 8 q hq8)
                rw [if_pos hq8, hy] at h
                exact h
              have HLD := Lib.hid hld
              have hbq := bump_at cs x q hcs8 hq8
              rw [HXR.out, hy] at hbq
              have hys : y ≤ 60 := by
                rw [← hy, List.getD, List.getElem?_eq_getElem (by omega), Option.getD_some]
                exact HS.out _ (List.getElem_mem _)
              clear hld hy
              by_cases hqr : q = r
              · subst hqr
                rw [if_pos rfl] at hbq
                have hof := drawn_of tb (bump cs x) w5 ht5 q (y + 1) hq8 hbq ((y : Int) + 1) (by omega)
                have HOF := Lib.hid hof
                have hwr : IntKind.i64.wrap ((y : Int) + 1) = (y : Int) + 1 := IntWalk.i64_in _ (by omega)
                clear hof hbq hr
                go_wp2
                refine region_quiet_list (C := Drawn w5) (by kernel_rfl) (by kernel_rfl) ⟨m + 1, rfl⟩ ?_
                iterate 4 (go_big_quiet_want; go_big_quiet_op; first | go_big_quiet_on | (refine ⟨_, fun _ _ => rfl, ?_⟩; go_big_quiet_on))
                iterate 7 go_big_quiet_skip
                iterate 2 (go_big_quiet_want; go_big_quiet_op; first | go_big_quiet_on | (refine ⟨_, fun _ _ => rfl, ?_⟩; go_big_quiet_on))
                iterate 4 (go_big_quiet_want; go_big_quiet_op; first | go_big_quiet_on | (refine ⟨_, fun _ _ => rfl, ?_⟩; go_big_quiet_on))
                iterate 2 (go_big_quiet_want; go_big_quiet_op; first | go_big_quiet_on | (refine ⟨_, fun _ _ => rfl, ?_⟩; go_big_quiet_on))
                go_big_quiet_want; go_big_quiet_op; refine ⟨.int .i64 ((y : Int) + 1), fun wq hq => HOF.out wq hq, ?_⟩
                go_big_quiet_on
                iterate 1 (go_big_quiet_want; go_big_quiet_op; first | go_big_quiet_on | (refine ⟨_, fun _ _ => rfl, ?_⟩; go_big_quiet_on))
                iterate 1 (go_big_quiet_want; go_big_quiet_op; first | go_big_quiet_on | (refine ⟨_, fun _ _ => rfl, ?_⟩; go_big_quiet_on))
                go_big_quiet_want; go_big_quiet_op; refine ⟨.int .i64 (y : Int), fun wq hq => ?_, ?_⟩
                · have q0 := (drawn_cell hq ⟨H, q, none⟩).trans HLD.out
                  simp [q0, Result.andThen]
                go_big_quiet_on
                iterate 2 (go_big_quiet_want; go_big_quiet_op; first | go_big_quiet_on | (refine ⟨_, fun _ _ => rfl, ?_⟩; go_big_quiet_on))
                iterate 2 (go_big_quiet_want; go_big_quiet_op; first | go_big_quiet_on | (refine ⟨_, fun _ _ => rfl, ?_⟩; go_big_quiet_on))
                refine wpQuiet_nil ?_
                intro wq hq
                obtain ⟨m2, rfl⟩ := hq
                go_wp2
                go_roundg (8 - (q + 1))
                case measure => omega
                case rel => exact ⟨q + 1, _, by omega, rfl, by simp, rfl⟩
              · rw [if_neg (Ne.symm hqr)] at hbq
                have hof := drawn_of tb (bump cs x) w5 ht5 q y hq8 hbq (y : Int) rfl
                have HOF := Lib.hid hof
                have hqrB : ((q : Int) == (r : Int)) = false := by rw [beq_eq_false_iff_ne]; omega
                have hqrC : ((q : Int) != (r : Int)) = true := by simp; omega
                have hqrD : (q == r) = false := by simpa using hqr
                have hqrE : (q != r) = true := by simpa using hqr
                clear hof hbq hqr
                go_wp2
                refine region_quiet_list (C := Drawn w5) (by kernel_rfl) (by kernel_rfl) ⟨m + 1, rfl⟩ ?_
                iterate 4 (go_big_quiet_want; go_big_quiet_op; first | go_big_quiet_on | (refine ⟨_, fun _ _ => rfl, ?_⟩; go_big_quiet_on))
                iterate 2 (go_big_quiet_want; go_big_quiet_op; first | go_big_quiet_on | (refine ⟨_, fun _ _ => rfl, ?_⟩; go_big_quiet_on))
                go_big_quiet_want; go_big_quiet_op; refine ⟨.int .i64 (y : Int), fun wq hq => HOF.out wq hq, ?_⟩
                go_big_quiet_on
                iterate 1 (go_big_quiet_want; go_big_quiet_op; first | go_big_quiet_on | (refine ⟨_, fun _ _ => rfl, ?_⟩; go_big_quiet_on))
                iterate 1 (go_big_quiet_want; go_big_quiet_op; first | go_big_quiet_on | (refine ⟨_, fun _ _ => rfl, ?_⟩; go_big_quiet_on))
                go_big_quiet_want; go_big_quiet_op; refine ⟨.int .i64 (y : Int), fun wq hq => ?_, ?_⟩
                · have q0 := (drawn_cell hq ⟨H, q, none⟩).trans HLD.out
                  simp [q0, Result.andThen]
                go_big_quiet_on
                iterate 1 (go_big_quiet_want; go_big_quiet_op; first | go_big_quiet_on | (refine ⟨_, fun _ _ => rfl, ?_⟩; go_big_quiet_on))
                iterate 2 (go_big_quiet_want; go_big_quiet_op; first | go_big_quiet_on | (refine ⟨_, fun _ _ => rfl, ?_⟩; go_big_quiet_on))
                iterate 4 (go_big_quiet_want; go_big_quiet_op; first | go_big_quiet_on | (refine ⟨_, fun _ _ => rfl, ?_⟩; go_big_quiet_on))
                iterate 8 go_big_quiet_skip
                iterate 2 (go_big_quiet_want; go_big_quiet_op; first | go_big_quiet_on | (refine ⟨_, fun _ _ => rfl, ?_⟩; go_big_quiet_on))
                refine wpQuiet_nil ?_
                intro wq hq
                obtain ⟨m2, rfl⟩ := hq
                go_wp2
                go_roundg (8 - (q + 1))
                case measure => omega
                case rel => exact ⟨q + 1, _, by omega, rfl, by simp, rfl⟩
            · obtain rfl : q = 8 := by omega
              clear hq8 hq
              have ht5m := ht5.drewN m
              have hB5m := below_drewN hB5 m
              have hown5m : OwnRow (w5.drewN m) a X 0 := HOWN5.out
              clear ht5 hB5 hHn HOWN5
              go_wp2
              go_loopg [11] X.length (fun g c wi => ∃ q : Nat, q ≤ X.length ∧ g = X.length - q ∧ c = .int .i64 q ∧ IsTally wi tb (bump cs x) 8 ∧ Below tb w wi ∧ OwnRow wi a X q)
              case atStart => exact ⟨0, by omega, rfl, rfl, ht5m, hB5m, hown5m⟩
              case round =>
                obtain ⟨q, hq, rfl, rfl, hti, hBi, howni⟩ := hrel
                clear ht5m hB5m hown5m
                by_cases hqX : q < X.length
                · obtain ⟨g, cur, rfl, hg, hcur⟩ := howni hqX
                  have hq0 : (0 : Int) ≤ (q : Int) := by omega
                  have hqX' : (q : Int) < (X.length : Int) := by omega
                  obtain ⟨y, hy⟩ : ∃ y, X[q] = y := ⟨_, rfl⟩
                  have hmem : y ∈ bl cs 8 := by rw [HXe.out, ← hy]; exact List.getElem_mem hqX
                  obtain ⟨hy8, hy3⟩ := bl_bump_in cs x y 8 hcs8 hmem
                  have hcell : wr.cell? ⟨g, q, none⟩ = some (.int .i64 (y : Int)) := by
                    have h := cellAt hg (hcur q (Nat.le_refl _) hqX)
                    rw [hy] at h
                    exact h
                  have hfz : wr.frozen? ⟨g, q, none⟩ = false := by simp [World.frozen?, hg]
                  have HIS := Lib.hid (isF_any wr tb (bump cs x) hti y hy8 hy3)
                  have HG := Lib.hid (HAG.out g rfl)
                  have HWN := Lib.hid howni
                  clear hy hmem hy8 hy3 hg hcur howni
                  go_wp2_with fail
                  refine HIS.out.mono ?_
                  rintro e w6 ⟨rfl, rfl⟩
                  go_wp2
                  have htn := hti.on (heap_setCell_other wr ⟨g, q, none⟩ tb (.int .i64 (-1)) (by have := HG.out; show tb ≠ g; omega))
                  have hBn := hBi.setCell (p := ⟨g, q, none⟩) (Nat.le_of_lt HG.out) (.int .i64 (-1))
                  have hon := HWN.out.wipe rfl hqX (.int .i64 (-1))
                  go_roundg (X.length - (q + 1))
                  case measure => omega
                  case rel => exact ⟨q + 1, by omega, rfl, by simp, htn, hBn, hon⟩
                · obtain rfl : q = X.length := by omega
                  clear hqX hq howni
                  go_wp2_with fail
                  refine (barredAll_any _ _ _ _ hti).mono ?_
                  rintro e w6 ⟨v2, rfl, hr6, hb6⟩
                  obtain ⟨a2, rfl, hown6, _⟩ := hr6.own
                  have ht6 := hti.below hb6
                  have hB6 := hBi.trans (hb6.mono (Nat.le_of_lt hti.lt))
                  obtain ⟨Y, hY⟩ : ∃ Y, bl (bump cs x) 8 = Y := ⟨_, rfl⟩
                  rw [hY] at hown6 ⊢
                  have hYl : Y.length ≤ 8 := by rw [← hY]; exact bl_length _ 8
                  have hXY : X.length ≤ Y.length := by rw [← hY, ← HXe.out]; exact bl_bump_len cs x 8 hcs8
                  have HYe := Lib.hid hY
                  have HO6 := Lib.hid hown6
                  clear hY hr6 hb6 hti hBi hown6
                  go_wp2
                  go_loopg [13] Y.length (fun g c wi => ∃ q m : Nat, q ≤ Y.length ∧ g = Y.length - q ∧ c = .int .i64 q ∧ wi = w6.drewN m)
                  case atStart => exact ⟨0, 0, by omega, rfl, rfl, rfl⟩
                  case round =>
                    obtain ⟨q, m2, hq, rfl, rfl, rfl⟩ := hrel
                    by_cases hqY : q < Y.length
                    · obtain ⟨g2, cur2, rfl, hg2, hcur2⟩ := HO6.out (Nat.lt_of_le_of_lt (Nat.zero_le _) hqY)
                      obtain ⟨y, hy⟩ : ∃ y, Y[q] = y := ⟨_, rfl⟩
                      have hmem : y ∈ bl (bump cs x) 8 := by rw [HYe.out, ← hy]; exact List.getElem_mem hqY
                      obtain ⟨hy8, hy3⟩ := (bl_mem _ 8 y).1 hmem
                      have hcy : w6.cell? ⟨g2, q, none⟩ = some (.int .i64 (y : Int)) := by
                        have h := cellAt hg2 (hcur2 q (Nat.zero_le _) hqY)
                        rw [hy] at h
                        exact h
                      have HIS := Lib.hid (fun wq hq => drawn_is tb (bump cs x) w6 ht6 y hy8 hy3 wq hq)
                      have hq0 : (0 : Int) ≤ (q : Int) := by omega
                      have hqY' : (q : Int) < (Y.length : Int) := by omega
                      cases q with
                      | zero =>
                        have HY0 := Lib.hid hcy
                        clear hcy hy hmem hy8 hy3 hg2 hcur2
                        go_wp2
                        refine region_quiet_list (C := Drawn w6) (by kernel_rfl) (by kernel_rfl) ⟨m2 + 1, rfl⟩ ?_
                        iterate 4 (go_big_quiet_want; go_big_quiet_op; first | go_big_quiet_on | (refine ⟨_, fun _ _ => rfl, ?_⟩; go_big_quiet_on))
                        go_big_quiet_want; go_big_quiet_op; refine ⟨.int .i64 (y : Int), fun wq hq => ?_, ?_⟩
                        · have q0 := (drawn_cell hq ⟨g2, 0, none⟩).trans HY0.out
                          simp [q0, Result.andThen]
                        go_big_quiet_on
                        go_big_quiet_want; go_big_quiet_op; refine ⟨.bool true, fun wq hq => HIS.out wq hq, ?_⟩
                        go_big_quiet_on
                        iterate 2 (go_big_quiet_want; go_big_quiet_op; first | go_big_quiet_on | (refine ⟨_, fun _ _ => rfl, ?_⟩; go_big_quiet_on))
                        iterate 3 (go_big_quiet_want; go_big_quiet_op; first | go_big_quiet_on | (refine ⟨_, fun _ _ => rfl, ?_⟩; go_big_quiet_on))
                        iterate 10 go_big_quiet_skip
                        iterate 2 (go_big_quiet_want; go_big_quiet_op; first | go_big_quiet_on | (refine ⟨_, fun _ _ => rfl, ?_⟩; go_big_quiet_on))
                        refine wpQuiet_nil ?_
                        intro wq hq
                        obtain ⟨m2, rfl⟩ := hq
                        go_wp2
                        go_roundg (Y.length - (0 + 1))
                        case measure => omega
                        case rel => exact ⟨0 + 1, _, by omega, rfl, by simp, rfl⟩
                      | succ j =>
                        obtain ⟨y0, hy0⟩ : ∃ y0, Y[j]'(by omega) = y0 := ⟨_, rfl⟩
                        have hlt0 : y0 < y := by
                          have h := bl_step (bump cs x) 8 j (by rw [HYe.out]; exact hqY)
                          rw [← hy0, ← hy]
                          simpa [HYe.out] using h
                        have hcy0 : w6.cell? ⟨g2, j, none⟩ = some (.int .i64 (y0 : Int)) := by
                          have h := cellAt hg2 (hcur2 j (Nat.zero_le _) (by omega))
                          rw [hy0] at h
                          exact h
                        have HY0 := Lib.hid hcy0
                        have HY1 := Lib.hid hcy
                        have hle : decide ((y : Int) ≤ (y0 : Int)) = false := by simp; omega
                        have hj0 : (0 : Int) ≤ (j : Int) := by omega
                        have hjY : (j : Int) < (Y.length : Int) := by omega
                        have hj1 : decide ((0 : Int) < (j : Int) + 1) = true := decide_eq_true (by omega)
                        clear hcy hcy0 hy hy0 hmem hy8 hy3 hg2 hcur2
                        go_wp2
                        refine region_quiet_list (C := Drawn w6) (by kernel_rfl) (by kernel_rfl) ⟨m2 + 1, rfl⟩ ?_
                        iterate 4 (go_big_quiet_want; go_big_quiet_op; first | go_big_quiet_on | (refine ⟨_, fun _ _ => rfl, ?_⟩; go_big_quiet_on))
                        go_big_quiet_want; go_big_quiet_op; refine ⟨.int .i64 (y : Int), fun wq hq => ?_, ?_⟩
                        · have q0 := (drawn_cell hq ⟨g2, j + 1, none⟩).trans HY1.out
                          simp [q0, Result.andThen]
                        go_big_quiet_on
                        go_big_quiet_want; go_big_quiet_op; refine ⟨.bool true, fun wq hq => HIS.out wq hq, ?_⟩
                        go_big_quiet_on
                        iterate 2 (go_big_quiet_want; go_big_quiet_op; first | go_big_quiet_on | (refine ⟨_, fun _ _ => rfl, ?_⟩; go_big_quiet_on))
                        iterate 3 (go_big_quiet_want; go_big_quiet_op; first | go_big_quiet_on | (refine ⟨_, fun _ _ => rfl, ?_⟩; go_big_quiet_on))
                        iterate 3 (go_big_quiet_want; go_big_quiet_op; first | go_big_quiet_on | (refine ⟨_, fun _ _ => rfl, ?_⟩; go_big_quiet_on))
                        go_big_quiet_want; go_big_quiet_op; refine ⟨.int .i64 (y : Int), fun wq hq => ?_, ?_⟩
                        · have q0 := (drawn_cell hq ⟨g2, j + 1, none⟩).trans HY1.out
                          simp [q0, Result.andThen]
                        go_big_quiet_on
                        iterate 4 (go_big_quiet_want; go_big_quiet_op; first | go_big_quiet_on | (refine ⟨_, fun _ _ => rfl, ?_⟩; go_big_quiet_on))
                        go_big_quiet_want; go_big_quiet_op; refine ⟨.int .i64 (y0 : Int), fun wq hq => ?_, ?_⟩
                        · have q0 := (drawn_cell hq ⟨g2, j, none⟩).trans HY0.out
                          simp [q0, Result.andThen]
                        go_big_quiet_on
                        iterate 1 (go_big_quiet_want; go_big_quiet_op; first | go_big_quiet_on | (refine ⟨_, fun _ _ => rfl, ?_⟩; go_big_quiet_on))
                        iterate 2 (go_big_quiet_want; go_big_quiet_op; first | go_big_quiet_on | (refine ⟨_, fun _ _ => rfl, ?_⟩; go_big_quiet_on))
                        refine wpQuiet_nil ?_
                        intro wq hq
                        obtain ⟨m2, rfl⟩ := hq
                        go_wp2
                        go_roundg (Y.length - (j + 1 + 1))
                        case measure => omega
                        case rel => exact ⟨j + 1 + 1, _, by omega, rfl, by simp, rfl⟩
                    · obtain rfl : q = Y.length := by omega
                      have hfin : IsTally (w6.drewN m2) tb (cnt (l.take (k + 1))) 8 := by rw [HN.out]; exact ht6.drewN m2
                      have hBfin := below_drewN hB6 m2
                      have hlen : decide ((Y.length : Int) < (X.length : Int)) = false := decide_eq_false (by omega)
                      clear hqY hq ht6 hB6
                      go_wp2
                      go_roundg (60 - (k + 1))
                      case measure => omega
                      case rel => exact ⟨k + 1, by omega, by omega, rfl, by simp, hfin, hBfin⟩
    · have hte : ¬ (k < l.length ∧ k < 60) := hlt
      by_cases h1 : k < l.length
      · have hkl : (k : Int) < (l.length : Int) := by omega
        obtain rfl : k = 60 := by omega
        go_wp2
        go_ret
        exact ⟨rfl, HTB.out ▸ hBr⟩
      · obtain rfl : k = l.length := by omega
        go_wp2
        go_ret
        exact ⟨rfl, HTB.out ▸ hBr⟩

theorem stays_nil (a : Option Addr) (cap : Nat) (w : World) : Calls Try.prog 4 #[.slice a 0 cap] w fun e w' => e = .returned (.bool true) ∧ Below w.heap.size w w' := by
  go_enter Try.func4, Try.ntmps4
  go_wp2_with fail
  refine (new_okI _ _ 8 rfl (by decide) (by decide)).mono ?_
  rintro e w1 ⟨rfl, ht1, hb1⟩
  go_wp2_with fail
  refine (works_any _).mono ?_
  rintro e w2 ⟨rfl, hb2⟩
  have hB2 := hb1.trans (hb2.mono hb1.size)
  clear ht1 hb1 hb2
  go_wp2
  go_loop [5] (fun i => i = .int .i64 0) (fun _ => 0)
  case atStart => rfl
  case round =>
    subst hrel
    go_wp2
    go_ret
    exact ⟨rfl, hB2⟩
theorem stays_any (v : Value) (l : List Nat) (w : World) (h : OffsAt w v l) (hl : l.length ≤ 9223372036854775807) (hx : ∀ x ∈ l, x < 256) :
    Calls Try.prog 4 #[v] w fun e w' => e = .returned (.bool true) ∧ Below w.heap.size w w' := by
  rcases h with ⟨⟨a, cap, rfl⟩, rfl⟩ | ⟨b, off, cap, rfl, hb, hc⟩
  · exact stays_nil a cap w
  · exact stays_some b off cap l w hl hx hb hc
end Go.Proofs.Ytohnagmkbjdlmaa
