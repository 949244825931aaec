/- SealFinds: the walk. Conditions: numbers of their kinds; what the two variables of sha hold; what lies in the slices. -/
import Derived.Test.YtpkgmoiffegbfaaDoorZSTells
import Derived.Test.YtpkgmoiffegbfaaDoorZSMarks
import Derived.Laws.AppendOwnNone
namespace Go.Proofs.YtpkgmoiffegbfaaDoor
open Go.RowKit Go.BigFrame
set_option maxRecDepth 100000
attribute [local go_sem ↓] exec_loadZM exec_eqlZ exec_neqZ exec_zeroZ
attribute [local go_sem] zloadRowM eqRow digEq_dg isDig_dg objAt_drew

theorem flat_inv (Ds : List (List UInt8)) (hD : ∀ D ∈ Ds, D.length = 32) (j : Nat) (u : Value) (h : (Ds.flatMap Lib.byteCells)[j]? = some u) : ∃ q D i, Ds[q]? = some D ∧ (Lib.byteCells D)[i]? = some u ∧ j = q * 32 + i := by
  have hlen : ∀ l : List (List UInt8), (∀ D ∈ l, D.length = 32) → (l.flatMap Lib.byteCells).length = l.length * 32 := by
    intro l hl
    induction l with
    | nil => rfl
    | cons D l ih =>
      rw [List.flatMap_cons, List.length_append, ih (fun x hx => hl x (List.mem_cons_of_mem _ hx)), Lib.byteCells_length, hl D (List.mem_cons_self ..), List.length_cons]
      omega
  have hj := (List.getElem?_eq_some_iff.1 h).1
  rw [hlen Ds hD] at hj
  have hq : j / 32 < Ds.length := by omega
  have hDq : Ds[j / 32]? = some Ds[j / 32] := List.getElem?_eq_getElem hq
  have hi : j % 32 < (Lib.byteCells Ds[j / 32]).length := by rw [Lib.byteCells_length, hD _ (List.getElem_mem hq)]; omega
  have hb : (Lib.byteCells Ds[j / 32])[j % 32]? = some (Lib.byteCells Ds[j / 32])[j % 32] := List.getElem?_eq_getElem hi
  have hf := flat_at Lib.byteCells 32 Ds (fun D hD' => by rw [Lib.byteCells_length, hD D hD']) (j / 32) _ hDq (j % 32) _ hb
  rw [show j / 32 * 32 + j % 32 = j by omega, h] at hf
  exact ⟨j / 32, _, j % 32, hDq, by rw [hb, Option.some.inj hf], by omega⟩
section
variable {ops : Array Oper} {rest : List Oper} {o : Oper} {a : Act} {w : World} {Q : Exit → Act → World → Prop}
/-- 'append(v, more...)', of digests. -/
theorem zappDs (hgd : o.guard = none) (x y : Operand) (ho : o.op = .call { callee := .builtin .append, args := #[x, y], argTypes := #[52, 52] })
    (v : Value) (hx : a.eval x = v) (ma : Option Addr) (m c : Nat) (hy : a.eval y = .slice ma m c) (Ds : List (List UInt8)) (hD : ∀ D ∈ Ds, D.length = 32) (hm : Ds.length = m) (hnone : ma = none → c = 0)
    (hat : 0 < m → ∃ b off, ma = some ⟨b, off, none⟩ ∧ RowsAt w b off 32 Lib.byteCells Ds)
    (base : Nat) (Es : List (List UInt8)) (hown : OwnD w base v Es) (hl : Es.length + m < 1000) (hbase : base ≤ w.heap.size)
    (hK : ∀ v' w', OwnD w' base v' (Es ++ Ds) → Below base w w' → wpList Tryd.prog ops Q rest (a.put o.dst v') w') : wpList Tryd.prog ops Q (o :: rest) a w := by
  obtain ⟨i, z, hi, hz, hs, hby, hzs⟩ := zdigFacts
  cases ma with
  | none =>
    have hm0 : m = 0 := by
      rcases Nat.eq_zero_or_pos m with h | h
      · exact h
      · obtain ⟨b, off, e, _⟩ := hat h; cases e
    obtain rfl := hnone rfl
    subst hm0
    obtain rfl : Ds = [] := List.length_eq_zero_iff.1 hm
    refine wpList_append_own_none hgd x y 52 ho base 28 i 32 Tryd.underlying52 hi v Es.length _ hx hown hy (hK v w ?_ (Below.refl _ _))
    rw [List.append_nil]
    exact hown
  | some ad =>
    refine wpList_append_own (P := Tryd.prog) w hgd x y 52 ho base 28 i z 32 32 Tryd.underlying52 hi hz hs hby hzs (by decide) v Es.length _ hx hown ad m c (Ds.flatMap Lib.byteCells) hy ?_ ?_ ?_ (by unfold maxLen; omega) (by omega) hbase ?_
    · have : ∀ l : List (List UInt8), (∀ D ∈ l, D.length = 32) → (l.flatMap Lib.byteCells).length = l.length * 32 := by
        intro l hl
        induction l with
        | nil => rfl
        | cons D l ih =>
          rw [List.flatMap_cons, List.length_append, ih (fun x hx => hl x (List.mem_cons_of_mem _ hx)), Lib.byteCells_length, hl D (List.mem_cons_self ..), List.length_cons]
          omega
      rw [this Ds hD, hm]
    · intro j u hj
      obtain ⟨q, D, i, h1, h2, rfl⟩ := flat_inv Ds hD j u hj
      obtain ⟨b, off, e, hr⟩ := hat (by have := (List.getElem?_eq_some_iff.1 h1).1; omega)
      obtain rfl := Option.some.inj e
      rw [zadd, ← Nat.add_assoc]
      exact hr q D h1 i u h2
    · intro u hu
      simp only [List.mem_flatMap, Lib.byteCells, List.mem_map] at hu
      obtain ⟨_, _, c, _, rfl⟩ := hu
      rfl
    · intro v' w' ho' hg _
      refine hK v' w' ?_ (below_grown (Below.refl _ _) hg hbase (fun k hk => (World.ownsRow.lt hown k hk).1))
      unfold OwnD
      rw [List.length_append, List.flatMap_append, hm]
      exact ho'
end
theorem min8 (n m : Nat) (h : m = min n 8) : (if (8 : Int) < (n : Int) then (8 : Int) else (n : Int)) = (m : Int) := by split <;> omega
/-- The marks of things, by numbers. -/
def marksOf (ls : List Se) (os : List UInt8) : List (List UInt8) := os.map fun c => comS (ls.getD (c.toNat % ls.length) ⟨0, 0, 0, 0⟩)
set_option maxHeartbeats 8000000 in
theorem zsfinds_any (aa : Option Addr) (cap : Nat) (ls0 : List Se) (ao : Option Addr) (co : Nat) (os0 : List UInt8) (am : Option Addr) (cm : Nat) (Ms0 : List (List UInt8)) (w : World) (hG : Glob F0 K64 w)
    (hl0 : ls0.length ≤ 9223372036854775807) (hcap : ls0.length ≤ cap) (hat : (∀ x ∈ ls0, x.Ok) ∧ (0 < ls0.length → ∃ b off, aa = some ⟨b, off, none⟩ ∧ b < w.heap.size ∧ RowsAt w b off 4 Se.cells ls0))
    (ho0 : os0.length ≤ 9223372036854775807) (hco : os0.length ≤ co) (hao : 0 < os0.length → ∃ b off, ao = some ⟨b, off, none⟩ ∧ b < w.heap.size ∧ RowsAt w b off 1 (fun c : UInt8 => [.int .u8 (c.toNat : Int)]) os0)
    (hm0 : Ms0.length ≤ 9223372036854775807) (hcm : Ms0.length ≤ cm) (ham : (∀ x ∈ Ms0, x.length = 32) ∧ (0 < Ms0.length → ∃ b off, am = some ⟨b, off, none⟩ ∧ b < w.heap.size ∧ RowsAt w b off 32 Lib.byteCells Ms0)) (hmn : am = none → cm = 0) :
    Calls Tryd.prog 13 #[.slice aa ls0.length cap, .slice ao os0.length co, .slice am Ms0.length cm] w fun e w' => e = .returned (.bool true) ∧ Below w.heap.size w w' := by
  have HG := hide hG
  have HAT0 := hide hat
  have HAO0 := hide hao
  have HAM0 := hide ham
  have HMN := hide hmn
  clear hG hat hao ham hmn
  obtain ⟨m, hm⟩ : ∃ m, m = min ls0.length 8 := ⟨_, rfl⟩
  obtain ⟨k, hk⟩ : ∃ k, k = min os0.length 8 := ⟨_, rfl⟩
  obtain ⟨d, hd⟩ : ∃ d, d = min Ms0.length 8 := ⟨_, rfl⟩
  have e1 := min8 _ _ hm
  have e2 := min8 _ _ hk
  have e3 := min8 _ _ hd
  have b1 : (m : Int) ≤ (cap : Int) := by omega
  have b2 : (k : Int) ≤ (co : Int) := by omega
  have b3 : (d : Int) ≤ (cm : Int) := by omega
  have a1 : m ≤ 8 ∧ m ≤ ls0.length := by omega
  have a2 : k ≤ 8 ∧ k ≤ os0.length := by omega
  have a3 : d ≤ 8 ∧ d ≤ Ms0.length := by omega
  have HM := hide (And.intro hm (And.intro hk hd))
  have E1 := hide e1
  have E2 := hide e2
  have E3 := hide e3
  clear hm hk hd e1 e2 e3
  go_enter Tryd.func13, Tryd.ntmps13
  go_upto_region 1 with (fail)
  refine zquiet (C := fun w' => w' = w.drew) (by kernel_rfl) (by kernel_rfl) rfl ?_
  have ha1 := E1.out
  have ha2 := E2.out
  have ha3 := E3.out
  iterate 3 (go_big_quiet_want; go_big_quiet_op; first | go_big_quiet_on | (refine ⟨_, fun _ _ => rfl, ?_⟩; go_big_quiet_on))
  go_big_quiet_want; go_big_quiet_op; first | go_big_quiet_on | (simp only [ha1]; go_big_quiet_on) | (refine ⟨.int .i64 (m : Int), fun wq hq => by subst hq; simp [ha1], ?_⟩; go_big_quiet_on)
  go_big_quiet_want; go_big_quiet_op; first | go_big_quiet_on | (refine ⟨.slice aa m cap, fun wq hq => by subst hq; simp [go_sem], ?_⟩; go_big_quiet_on)
  iterate 3 (go_big_quiet_want; go_big_quiet_op; first | go_big_quiet_on | (refine ⟨_, fun _ _ => rfl, ?_⟩; go_big_quiet_on))
  go_big_quiet_want; go_big_quiet_op; first | go_big_quiet_on | (simp only [ha2]; go_big_quiet_on) | (refine ⟨.int .i64 (k : Int), fun wq hq => by subst hq; simp [ha2], ?_⟩; go_big_quiet_on)
  go_big_quiet_want; go_big_quiet_op; first | go_big_quiet_on | (refine ⟨.slice ao k co, fun wq hq => by subst hq; simp [go_sem], ?_⟩; go_big_quiet_on)
  iterate 3 (go_big_quiet_want; go_big_quiet_op; first | go_big_quiet_on | (refine ⟨_, fun _ _ => rfl, ?_⟩; go_big_quiet_on))
  go_big_quiet_want; go_big_quiet_op; first | go_big_quiet_on | (simp only [ha3]; go_big_quiet_on) | (refine ⟨.int .i64 (d : Int), fun wq hq => by subst hq; simp [ha3], ?_⟩; go_big_quiet_on)
  go_big_quiet_want; go_big_quiet_op; first | go_big_quiet_on | (refine ⟨.slice am d cm, fun wq hq => by subst hq; simp [go_sem], ?_⟩; go_big_quiet_on)
  iterate 3 (go_big_quiet_want; go_big_quiet_op; first | go_big_quiet_on | (refine ⟨_, fun _ _ => rfl, ?_⟩; go_big_quiet_on))
  refine wpQuiet_nil ?_
  intro w2 hw2
  subst hw2
  clear ha1 ha2 ha3 b1 b2 b3
  obtain ⟨ls, hls⟩ : ∃ ls, ls = ls0.take m := ⟨_, rfl⟩
  obtain ⟨os, hos⟩ : ∃ os, os = os0.take k := ⟨_, rfl⟩
  obtain ⟨Ms, hMs⟩ : ∃ Ms, Ms = Ms0.take d := ⟨_, rfl⟩
  have l1 : ls.length = m := by rw [hls, List.length_take]; omega
  have l2 : os.length = k := by rw [hos, List.length_take]; omega
  have l3 : Ms.length = d := by rw [hMs, List.length_take]; omega
  have sub : ∀ {α : Type} (l : List α) (n q : Nat) (x : α), (l.take n)[q]? = some x → l[q]? = some x := by
    intro α l n q x h
    rw [List.getElem?_take] at h
    split at h
    · exact h
    · cases h
  have okl : ∀ x ∈ ls, x.Ok := fun x hx => HAT0.out.1 x (List.mem_of_mem_take (hls ▸ hx))
  have okM : ∀ x ∈ Ms, x.length = 32 := fun x hx => HAM0.out.1 x (List.mem_of_mem_take (hMs ▸ hx))
  have rl : 0 < m → ∃ b off, aa = some ⟨b, off, none⟩ ∧ b < w.heap.size ∧ RowsAt w b off 4 Se.cells ls := fun h0 => by
    obtain ⟨b, off, h1, h2, h3⟩ := HAT0.out.2 (by omega)
    exact ⟨b, off, h1, h2, fun q x hq i u hu => h3 q x (sub _ _ _ _ (hls ▸ hq)) i u hu⟩
  have ro : 0 < k → ∃ b off, ao = some ⟨b, off, none⟩ ∧ b < w.heap.size ∧ RowsAt w b off 1 (fun c : UInt8 => [.int .u8 (c.toNat : Int)]) os := fun h0 => by
    obtain ⟨b, off, h1, h2, h3⟩ := HAO0.out (by omega)
    exact ⟨b, off, h1, h2, fun q x hq i u hu => h3 q x (sub _ _ _ _ (hos ▸ hq)) i u hu⟩
  have rM : 0 < d → ∃ b off, am = some ⟨b, off, none⟩ ∧ b < w.heap.size ∧ RowsAt w b off 32 Lib.byteCells Ms := fun h0 => by
    obtain ⟨b, off, h1, h2, h3⟩ := HAM0.out.2 (by omega)
    exact ⟨b, off, h1, h2, fun q x hq i u hu => h3 q x (sub _ _ _ _ (hMs ▸ hq)) i u hu⟩
  obtain ⟨n, hn⟩ : ∃ n, n = w.heap.size := ⟨_, rfl⟩
  have hn1 : 1 < n := by rw [hn]; exact HG.out.2.2.2
  rw [← hn] at rl ro rM
  have hB2 : Below n w w.drew := by rw [hn]; exact (Below.refl _ _).drew
  have hz2 : n ≤ w.drew.heap.size := by rw [hn]; exact Nat.le_refl _
  have HN := hide hn
  have OKL := hide okl
  have OKM := hide okM
  have RL := hide rl
  have RO := hide ro
  have RM := hide rM
  have L1 := hide l1
  have L2 := hide l2
  have L3 := hide l3
  clear hn hls hos hMs l1 l2 l3 okl okM rl ro rM sub
  generalize w.drew = w2 at hB2 hz2 ⊢
  go_wp2_with ((with_reducible show wpList _ _ _ (⟨some 29, _, _, _, _, _⟩ :: _) _ _); refine Hid.out ?_)
  refine hide ?_
  refine zappDs rfl _ _ rfl _ rfl am d cm rfl Ms OKM.out L3.out HMN.out (fun h0 => by
    obtain ⟨b, off, h1, h2, h3⟩ := RM.out h0
    exact ⟨b, off, h1, fun q x hq i u hu => ((hB2.alloc hz2 _).cell (p := ⟨b, off + q * 32 + i, none⟩) h2).trans (h3 q x hq i u hu)⟩) n [] (World.ownsRow_made w2 #[] 0 hz2 (Nat.zero_le _) rfl) (by simp; omega) (by simp; omega) ?_
  intro v3 w3 hO3 hB3
  rw [List.nil_append] at hO3
  have hC0 : MkC n w v3 (Ms ++ marksOf ls (os.take 0)) w3 := ⟨HG.out.belowN (HN.out ▸ ((hB2.alloc hz2 _).trans hB3)) (HN.out ▸ hn1), by rw [List.take_zero, marksOf, List.map_nil, List.append_nil]; exact hO3, (hB2.alloc hz2 _).trans hB3, Nat.le_trans (by simp; omega) hB3.size⟩
  clear hO3 hB3 hB2 hz2
  obtain ⟨m8, _⟩ := a1
  obtain ⟨k8, _⟩ := a2
  obtain ⟨d8, _⟩ := a3
  go_wp2_with fail
  go_loopg [7, 8] k (fun g vm vi wi => ∃ q : Nat, q ≤ k ∧ g = k - q ∧ vi = .int .i64 q ∧ MkC n w vm (Ms ++ marksOf ls (os.take q)) wi)
  case atStart => exact ⟨0, by omega, by omega, rfl, hC0⟩
  case round =>
    obtain ⟨q, hq, rfl, rfl, hCq⟩ := hrel
    clear hC0
    by_cases hlt : q < k ∧ 0 < m
    · obtain ⟨hqk, hm0⟩ := hlt
      obtain ⟨b, off, rfl, hbn, hrow⟩ := RL.out hm0
      obtain ⟨bo, offo, rfl, hbo, hrowo⟩ := RO.out (by omega)
      obtain ⟨c8, hc8⟩ : ∃ c8, os[q]? = some c8 := ⟨_, List.getElem?_eq_getElem (by rw [L2.out]; exact hqk)⟩
      obtain ⟨c, hcE⟩ : ∃ c, c = c8.toNat := ⟨_, rfl⟩
      have hcB : c < 256 := by rw [hcE]; exact c8.toNat_lt
      obtain ⟨r, hr⟩ : ∃ r, r = c % m := ⟨_, rfl⟩
      have hrm : r < m := by rw [hr]; exact Nat.mod_lt _ hm0
      obtain ⟨x, hx⟩ : ∃ x, ls[r]? = some x := ⟨_, List.getElem?_eq_getElem (by rw [L1.out]; exact hrm)⟩
      have okx := OKL.out x (List.mem_of_getElem? hx)
      have cc : wr.cell? ⟨bo, offo + q, none⟩ = some (.int .u8 (c : Int)) := by
        have h1 := hrowo q c8 hc8 0 _ rfl
        rw [Nat.mul_one, Nat.add_zero] at h1
        rw [hcE]
        exact (hCq.2.2.1.cell (p := ⟨bo, offo + q, none⟩) hbo).trans h1
      have hrg : wr.rangeAt b (off + r * 4) x.cells := fun j u hu => (hCq.2.2.1.cell (p := ⟨b, off + r * 4 + j, none⟩) hbn).trans (hrow r x hx j u hu)
      have HRG := hide hrg
      have htk : Ms ++ marksOf ls (os.take (q + 1)) = Ms ++ marksOf ls (os.take q) ++ [comS x] := by
        rw [List.take_add_one, hc8, Option.toList_some, marksOf, List.map_append, List.append_assoc]
        congr 2
        rw [List.map_cons, List.map_nil, L1.out, ← hcE, ← hr, List.getD_eq_getElem?_getD, hx]
        rfl
      have HTK := hide htk
      have HTL := hide (show (Ms ++ marksOf ls (os.take q)).length < 1000 by rw [List.length_append, L3.out, marksOf, List.length_map, List.length_take]; omega)
      have hmod : (c : Int) % (m : Int) = (r : Int) := by rw [hr]; rfl
      have hc0 : (0 : Int) ≤ (c : Int) := by omega
      have hc256 : (c : Int) < 256 := by omega
      have hmI : (0 : Int) < (m : Int) := by omega
      have hmI8 : (m : Int) ≤ 8 := by omega
      have hr0 : (0 : Int) ≤ (r : Int) := by omega
      have hrI : (r : Int) < (m : Int) := by omega
      have hq0 : (0 : Int) ≤ (q : Int) := by omega
      have hqI : (q : Int) < (k : Int) := by omega
      have hm1 : (1 : Int) ≤ (m : Int) := by omega
      clear hrow hrowo hc8 hcE hr hx htk hrg
      generalize Ms ++ marksOf ls (os.take q) = Fq at hCq HTK HTL
      go_wp2_with ((with_reducible show wpList _ _ _ (⟨some 52, Op.load _ _, _, _, _, _⟩ :: _) _ _); refine Hid.out ?_)
      refine hide ?_
      refine wpList_load_mid rfl 41 _ rfl b (off + r * 4) rfl x.cells _ HRG.out Tryd.underlying41 rfl sizeSealed ?_
      go_wp2_with fail
      refine (rcommit_any wr x okx).mono ?_
      rintro e w4 ⟨rfl, hB4⟩
      have hC4 := hCq.below hB4
      obtain ⟨D, hD⟩ : ∃ D, D = comS x := ⟨_, rfl⟩
      have hDl : D.length = 32 := hD ▸ comS_length x
      rw [← hD] at HTK ⊢
      clear hD cc hCq HRG hB4 hmod
      go_wp2_with ((with_reducible show wpList _ _ _ (⟨some 54, _, _, _, _, _⟩ :: _) _ _); refine Hid.out ?_)
      refine hide ?_
      refine zoneD rfl _ rfl D rfl hDl ?_
      go_wp2_with ((with_reducible show wpList _ _ _ (⟨some 55, _, _, _, _, _⟩ :: _) _ _); refine Hid.out ?_)
      refine hide ?_
      have hCa := hC4.below ((Below.refl _ _).alloc (Nat.le_refl _) (.cells (dg D) 28))
      refine zappD rfl _ _ rfl u7 rfl _ rfl D hDl ⟨w4.heap.size, rfl, by have := new_at w4 (.cells (dg D) 28); simpa [dg] using this⟩ n Fq hCa.2.1 HTL.out hCa.2.2.2 ?_
      intro v' w' ho' hb'
      rw [← HTK.out] at ho'
      have hC' : MkC n w v' (Ms ++ marksOf ls (os.take (q + 1))) w' := ⟨hCa.1.belowN hb' hn1, ho', hCa.2.2.1.trans hb', Nat.le_trans hCa.2.2.2 hb'.size⟩
      clear ho' hb' hCa hC4
      go_wp2
      go_roundg (k - (q + 1))
      case measure => omega
      case rel => exact ⟨q + 1, by omega, rfl, by go_num, hC'⟩
    · have hFl : (Ms ++ marksOf ls (os.take q)).length ≤ 16 := by rw [List.length_append, L3.out, marksOf, List.length_map, List.length_take]; omega
      have hFD : ∀ D ∈ Ms ++ marksOf ls (os.take q), D.length = 32 := by
        intro D hD
        rcases List.mem_append.1 hD with h | h
        · exact OKM.out D h
        · obtain ⟨c, _, rfl⟩ := List.mem_map.1 h
          exact comS_length _
      have hcnt : ¬ ((q : Int) < (k : Int) ∧ (0 : Int) < (m : Int)) := by omega
      clear hlt
      generalize Ms ++ marksOf ls (os.take q) = F at hCq hFl hFD
      obtain ⟨ma, mc, rfl, hmr⟩ := hCq.2.1.rows hFD
      have HFD := hide hFD
      have HMR := hide hmr
      have HFLN := hide hFl
      have hFI : (F.length : Int) ≤ 16 := by omega
      clear hFD hmr hFl
      by_cases h1 : (q : Int) < (k : Int)
      all_goals
        first | have h2 : ¬ (0 : Int) < (m : Int) := fun h => hcnt ⟨h1, h⟩ | skip
        clear hcnt
        go_wp2_with fail
        refine (ssum_any _).mono ?_
        rintro e w5 ⟨rfl, rfl⟩
        go_wp2_with fail
        have hO := opened_any true wr hCq.1 ma mc F HFD.out (by have := HFLN.out; omega) HMR.out aa cap ls (by rw [L1.out]; omega) OKL.out (fun h0 => by
          obtain ⟨b, off, h1, h2, h3⟩ := RL.out (by rw [← L1.out]; exact h0)
          exact ⟨b, off, h1, Nat.lt_of_lt_of_le h2 hCq.2.2.2, fun q x hq i u hu => (hCq.2.2.1.cell (p := ⟨b, off + q * 4 + i, none⟩) h2).trans (h3 q x hq i u hu)⟩)
        rw [L1.out] at hO
        refine hO.mono ?_
        clear hO
        rintro e w6 ⟨v6, rfl, ho6, hB6⟩
        have hC6 := hCq.below hB6
        have hrr := ropened_any w6 ma mc F HFD.out (by have := HFLN.out; omega) aa cap ls OKL.out (by rw [L1.out]; omega) (fun h0 => by
          obtain ⟨b, off, h1, h2, h3⟩ := HMR.out h0
          exact ⟨b, off, h1, Nat.lt_of_lt_of_le h2 hB6.size, fun q x hq i u hu => (hB6.cell (p := ⟨b, off + q * 32 + i, none⟩) h2).trans (h3 q x hq i u hu)⟩) (fun h0 => by
          obtain ⟨b, off, h1, h2, h3⟩ := RL.out (by rw [← L1.out]; exact h0)
          exact ⟨b, off, h1, Nat.lt_of_lt_of_le h2 hC6.2.2.2, fun q x hq i u hu => (hC6.2.2.1.cell (p := ⟨b, off + q * 4 + i, none⟩) h2).trans (h3 q x hq i u hu)⟩)
        unfold FoundP at hrr
        rw [L1.out] at hrr
        have hFL16 : (foundL true F ls).length ≤ 16 := by rw [foundL, List.length_map]; exact HFLN.out
        generalize foundL true F ls = FL at ho6 hrr hFL16
        have HFL16 := hide hFL16
        clear hFL16
        obtain ⟨ga, gc, rfl, hg6⟩ := ho6.any
        have HG6 := hide hg6
        have HRR := hide hrr
        clear ho6 hg6 hrr hCq hB6
        go_wp2_with fail
        refine HRR.out.mono ?_
        rintro e w7 ⟨v7, rfl, ho7, hB7⟩
        obtain ⟨gb, gd, rfl, hg7⟩ := ho7.any
        have hC7 := hC6.below hB7
        have HC7 := hide hC7
        have HG7 := hide hg7
        have HB7 := hide hB7
        obtain ⟨L, hL⟩ : ∃ L, L = FL.length := ⟨_, rfl⟩
        rw [← hL]
        have hLI : (L : Int) ≤ 16 := by have := HFL16.out; omega
        have HL := hide hL
        clear ho7 hB7 hg7 hC6 hC7 HRR hL
        go_wp2_with fail
        go_loopg [11] L (fun g vi wi => ∃ q : Nat, q ≤ L ∧ g = L - q ∧ vi = .int .i64 q ∧ Below w7.heap.size w7 wi)
        case atStart => exact ⟨0, by omega, by omega, rfl, Below.refl _ _⟩
        case round =>
          obtain ⟨q, hq, rfl, rfl, hCi⟩ := hrel
          by_cases hlt : q < L
          · obtain ⟨z, hz⟩ : ∃ z, FL[q]? = some z := ⟨_, List.getElem?_eq_getElem (by rw [← HL.out]; exact hlt)⟩
            obtain ⟨g1, rfl, hg1, hc1⟩ := HG6.out (by rw [← HL.out]; omega)
            obtain ⟨g2, rfl, hg2, hc2⟩ := HG7.out (by rw [← HL.out]; omega)
            have c1 : w7.cell? ⟨g1, q, none⟩ = some (.int .i64 z) := (HB7.out.cell (p := ⟨g1, q, none⟩) hg1).trans (hc1 q z hz)
            have c2 : w7.cell? ⟨g2, q, none⟩ = some (.int .i64 z) := hc2 q z hz
            have hg17 : g1 < w7.heap.size := Nat.lt_of_lt_of_le hg1 HB7.out.size
            have K1 := hide c1
            have K2 := hide c2
            have hq0 : (0 : Int) ≤ (q : Int) := by omega
            have hqI : (q : Int) < (L : Int) := by omega
            clear hc1 hc2 hz c1 c2
            go_upto_region 13 with (fail)
            refine zquiet (C := fun W => Below w7.heap.size w7 W) (by kernel_rfl) (by kernel_rfl) hCi.drew ?_
            iterate 3 (go_big_quiet_want; go_big_quiet_op; first | go_big_quiet_on | (refine ⟨_, fun _ _ => rfl, ?_⟩; go_big_quiet_on))
            go_big_quiet_want; go_big_quiet_op; refine ⟨.int .i64 z, fun wq hq => ?_, ?_⟩
            · have c := (hq.cell (p := ⟨g1, q, none⟩) hg17).trans K1.out
              simp [go_sem, c]
            go_big_quiet_on
            iterate 3 (go_big_quiet_want; go_big_quiet_op; first | go_big_quiet_on | (refine ⟨_, fun _ _ => rfl, ?_⟩; go_big_quiet_on))
            go_big_quiet_want; go_big_quiet_op; refine ⟨.int .i64 z, fun wq hq => ?_, ?_⟩
            · have c := (hq.cell (p := ⟨g2, q, none⟩) hg2).trans K2.out
              simp [go_sem, c]
            go_big_quiet_on
            go_big_quiet_want; go_big_quiet_op; refine ⟨.bool false, fun wq hq => ?_, ?_⟩
            · simp [go_sem]
            go_big_quiet_on
            refine wpQuiet_nil ?_
            intro wd hqd
            clear hCi
            go_wp2
            go_roundg (L - (q + 1))
            case measure => omega
            case rel => exact ⟨q + 1, by omega, rfl, by go_num, hqd⟩
          · obtain rfl : q = L := by omega
            have hnl : ¬ (q : Int) < (q : Int) := by omega
            have hCw := HC7.out.below hCi
            clear hCi
            go_wp2_with fail
            refine (sworks_any wr hCw.1).mono ?_
            rintro e w9 ⟨rfl, hB9⟩
            go_wp2
            go_ret
            exact ⟨rfl, by rw [← HN.out]; exact hCw.2.2.1.trans (hB9.mono hCw.2.2.2)⟩
end Go.Proofs.YtpkgmoiffegbfaaDoor
