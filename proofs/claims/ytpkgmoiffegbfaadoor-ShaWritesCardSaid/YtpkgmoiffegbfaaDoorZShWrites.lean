/- ShaWrites: the walk. Condition: what the two variables hold; the acts lie in a slice. -/
import Derived.Test.YtpkgmoiffegbfaaDoorZShTells
namespace Go.Proofs.YtpkgmoiffegbfaaDoor
open Go.RowKit Go.BigFrame Go.ChangeShapes Go.WideShapes Go.ChangeAt Go.Deep
set_option maxRecDepth 100000
attribute [local go_sem ↓] exec_loadZ exec_eqlZ exec_neqZ exec_zeroZ
attribute [local go_sem] loadRow eqRow digEq_dg isDig_dg objAt_drew

theorem zcAct : Tryd.prog.cellsOf 37 = 2 := by kernel_rfl
theorem zsizeAct : (Tryd.prog.info? 37).map (·.size) = some 2 := by kernel_rfl
theorem zzeroAct : (Tryd.prog.info? 37).map (·.zero) = some (some (.agg #[.int .u8 0, .string ⟨#[]⟩])) := by kernel_rfl
section
variable {H : Type} {enc : TypeId × Value → H} {V : World} {base : Nat} {held : Bool} {r : Reach} {b0 : Nat} {v : Value} {d : DataW H} {pl : List MemPlace}
theorem zopen_act {m : Nat} {cs : List Value} {y : DataW H × List MemPlace} (hl : cs.length = 2)
    (ht : DataW.trod enc Tryd.prog V base (fun _ => true) held m 37 cs = some y) : ∃ x : Ac, cs = x.cells ∧ x.what < 256 := by
  obtain ⟨c0, c1, rfl⟩ := ztwo cs hl
  obtain ⟨xs, k, _, _, _, hxl, hg⟩ := DataW.trod_struct Tryd.underlying37 ht
  obtain ⟨x0, x1, rfl⟩ := ztwo xs hxl
  have g0 : DataW.trod enc Tryd.prog V base (fun _ => true) held k 5 (List.take (Tryd.prog.cellsOf 5) (List.drop 0 [c0, c1])) = [x0, x1][0]? := hg 0 _ rfl
  have g1 : DataW.trod enc Tryd.prog V base (fun _ => true) held k 9 (List.take (Tryd.prog.cellsOf 9) (List.drop 1 [c0, c1])) = [x0, x1][1]? := hg 1 _ rfl
  rw [zcU8] at g0
  rw [zcStr] at g1
  simp only [List.drop_zero, List.drop_succ_cons, List.take_succ_cons, List.take_zero, List.getElem?_cons_zero, List.getElem?_cons_succ] at g0 g1
  obtain ⟨n0, e0, _, f0⟩ := DataW.trod_int Tryd.underlying5 g0
  obtain ⟨s1, e1, _⟩ := DataW.trod_string Tryd.underlying9 g1
  simp only [List.cons.injEq, and_true] at e0 e1
  subst e0 e1
  have hb := bounds_u8 f0
  exact ⟨⟨n0.toNat, s1⟩, by simp [Ac.cells]; omega, by show n0.toNat < 256; omega⟩
theorem zopen_acts (hval : Value.okWide Tryd.prog V r b0 35 v) (hd : DataW.Trod enc Tryd.prog V base (fun _ => true) held 35 v d pl) :
    ∃ (aa : Option Addr) (cap : Nat) (ls : List Ac), v = .slice aa ls.length cap ∧ ls.length ≤ 9223372036854775807 ∧ ls.length ≤ cap ∧ ((∀ x ∈ ls, x.what < 256) ∧ (0 < ls.length → ∃ b off, aa = some ⟨b, off, none⟩ ∧ b < V.heap.size ∧ RowsAt V b off 2 Ac.cells ls)) := by
  obtain ⟨aa, cap, ls, h1, h2, h3, h4, h5⟩ := zopen_rows (k := 2) (by decide) Tryd.underlying35 zcAct Ac.cells (fun x => x.what < 256) (fun _ => rfl) (fun m cs y hl ht => zopen_act hl ht) hval hd
  exact ⟨aa, cap, ls, h1, h2, h3, h4, h5⟩
end
theorem cat_list (a b : ByteArray) : (a ++ b).data.toList = a.data.toList ++ b.data.toList := by rw [ByteArray.data_append]; simp
theorem acC_one (x : Ac) : x.cells.toArray.all (·.oneCell') = true := by simp [Ac.cells, Value.oneCell']

set_option maxHeartbeats 8000000 in
theorem zshawrites_any (aa : Option Addr) (cap : Nat) (ls : List Ac) (w : World) (hG : Glob F0 K64 w) (hl : ls.length ≤ 9223372036854775807) (_hcap : ls.length ≤ cap)
    (hat : (∀ x ∈ ls, x.what < 256) ∧ (0 < ls.length → ∃ b off, aa = some ⟨b, off, none⟩ ∧ b < w.heap.size ∧ RowsAt w b off 2 Ac.cells ls)) :
    Calls Tryd.prog 7 #[.slice aa ls.length cap] w fun e w' => e = .returned (.bool true) ∧ Below w.heap.size w w' := by
  have HG := hide hG
  have HAT := hide hat
  clear hG hat
  go_enter Tryd.func7, Tryd.ntmps7
  go_wp2_with fail
  refine (hash_new _ K64 F0 HG.out).mono ?_
  rintro e w2 ⟨rfl, hh2, hB2⟩
  have hG2 := HG.out.below hB2
  obtain ⟨N, hN⟩ : ∃ N, N = w.heap.size := ⟨_, rfl⟩
  rw [← hN] at hh2 hB2 ⊢
  have hz2 := zlt hh2.2
  have HN := hide hN
  clear hN
  go_wp2_with fail
  refine (zworks_any _ hG2).mono ?_
  rintro e w3 ⟨rfl, hB3⟩
  have hh3 := hh2.below hB3
  have hG3 := hG2.below hB3
  have hB3' := hB2.trans (hB3.mono (by omega))
  have hz3 : N ≤ w3.heap.size := Nat.le_trans (by omega) hB3.size
  clear hh2 hG2 hB2 hB3 hz2
  go_wp2_with fail
  go_loopg [3, 4, 5] 20 (fun g vh va vi wi => ∃ (q hb : Nat) (al : ByteArray), q ≤ ls.length ∧ q ≤ 20 ∧ g = 20 - q ∧ vi = .int .i64 q ∧ vh = .pointer (some ⟨hb, 0, none⟩) ∧ va = .string al ∧ al.size ≤ 150 * q ∧ N ≤ hb ∧ IsHash wi hb K64 F0 al.data.toList ∧ Glob F0 K64 wi ∧ Below N w wi ∧ N ≤ wi.heap.size)
  case atStart => exact ⟨0, N, ⟨#[]⟩, by omega, by omega, by omega, rfl, rfl, rfl, Nat.zero_le _, Nat.le_refl _, hh3, hG3, hB3', hz3⟩
  case round =>
    obtain ⟨q, hb, al, hq, hq20, rfl, rfl, rfl, rfl, hal, hbN, hh, hG, hB, hz⟩ := hrel
    clear hh3 hG3 hB3' hz3
    have halB : al.size ≤ 3000 := by omega
    have hll : al.data.toList.length = al.size := rfl
    by_cases hlt : q < ls.length ∧ q < 20
    · obtain ⟨hql, hq2⟩ := hlt
      obtain ⟨b, off, rfl, hbl, hrow⟩ := HAT.out.2 (by omega)
      obtain ⟨x, hx⟩ : ∃ x, x = ls[q] := ⟨_, rfl⟩
      have hxw : x.what < 256 := by rw [hx]; exact HAT.out.1 _ (List.getElem_mem hql)
      have hrg : wr.rangeAt b (off + q * 2) x.cells := fun j u hu => (hB.cell (p := ⟨b, off + q * 2 + j, none⟩) (by show b < N; rw [HN.out]; exact hbl)).trans (hrow q x (by rw [hx]; exact List.getElem?_eq_getElem hql) j u hu)
      have hq0 : (0 : Int) ≤ (q : Int) := by omega
      have hqlI : (q : Int) < (ls.length : Int) := by omega
      have hq2I : (q : Int) < 20 := by omega
      have HRG := hide hrg
      have HLL := hide hll
      clear hx hrow hrg hll
      go_wp2_with ((with_reducible show wpList _ _ _ (⟨some 28, Op.load _ _, _, _, _, _⟩ :: _) _ _); refine Hid.out ?_)
      refine hide ?_
      refine wpList_load_mid rfl 37 _ rfl b (off + q * 2) rfl x.cells _ HRG.out Tryd.underlying37 rfl zsizeAct ?_
      go_wp2_with ((with_reducible show wpList _ _ _ (⟨some 6, Op.alloc _, _, _, _, _⟩ :: _) _ _); refine Hid.out ?_)
      refine hide ?_
      refine zallocK rfl 37 rfl _ zzeroAct ?_
      intro w4 hg4 hw4 hs4
      obtain ⟨A, hA⟩ : ∃ A, A = wr.heap.size := ⟨_, rfl⟩
      rw [← hA] at hg4 hs4 hz ⊢
      have hh4 := hh.below (w' := w4) (below_grown (Below.refl _ _) hw4 (Nat.le_refl _) (by intro k e; cases e))
      have hhA : hb < A := by rw [hA]; exact zlt hh.2
      have hG4 := hG.below (w' := w4) (below_grown (Below.refl _ _) hw4 (Nat.le_refl _) (by intro k e; cases e))
      have hB4 : Below N w w4 := below_grown hB hw4 (by omega) (by intro k e; cases e)
      clear hw4 hh hG hB hA
      go_wp2_with ((with_reducible show wpList _ _ _ (⟨none, Op.store _ _ _, _, _, _, _⟩ :: _) _ _); refine Hid.out ?_)
      refine hide ?_
      refine law_store rfl _ _ _ rfl A x.cells.toArray rfl rfl _ _ hg4 zsizeAct rfl (acC_one x) ?_
      intro w5 hg5' hw5
      have hg5 := hg5'.out
      have hh5 := hh4.grown hw5 (by omega)
      have hA1 : 1 < A := by have := hh4.1; omega
      have hG5 := hG4.grown hw5 hA1
      have hB5 : Below N w w5 := below_grown hB4 hw5 (by omega) (by intro k e; cases e; omega)
      have hz5 : A < w5.heap.size := zlt hg5
      have c0 : w5.cell? ⟨A, 0, none⟩ = some (.int .u8 (x.what : Int)) := zcell hg5 rfl
      have c1 : w5.cell? ⟨A, 1, none⟩ = some (.string x.text) := zcell hg5 rfl
      have H5 := hide (And.intro hh5 (And.intro hG5 hB5))
      clear hw5 hg5' hg5 hh4 hG4 hB4 hg4 hs4 hh5 hG5 hB5 HRG
      have hw0 : (0 : Int) ≤ (x.what : Int) := by omega
      have hw256 : (x.what : Int) < 256 := by omega
      have hcase : x.what % 3 = 0 ∨ x.what % 3 = 1 ∨ x.what % 3 = 2 := by omega
      rcases hcase with h3 | h3 | h3
      · have hm3 : (x.what : Int) % 3 = 0 := by omega
        obtain ⟨m, hm⟩ : ∃ m, m = min x.text.size 150 := ⟨_, rfl⟩
        have hm1 : (m : Int) ≤ (x.text.size : Int) := by omega
        have hm2 : (if (150 : Int) < (x.text.size : Int) then (150 : Int) else (x.text.size : Int)) = (m : Int) := by split <;> omega
        have HM := hide hm
        clear h3 hm
        go_upto_region 14 with (fail)
        clear hm2 hm3
        obtain ⟨s, hs⟩ : ∃ s, s = x.text.extract 0 m := ⟨_, rfl⟩
        have hsz : s.size ≤ 150 := by have := HM.out; rw [hs, ByteArray.size_extract]; omega
        rw [← hs]
        clear hs hm1
        go_wp2_with fail
        refine (hash_write w5 hb K64 F0 _ s H5.out.2.1 H5.out.1 (by omega) (by rw [HLL.out]; omega)).mono ?_
        rintro e w6 ⟨rfl, hh6, hg6⟩
        have hG6 := H5.out.2.1.grown hg6 H5.out.1.1
        have hB6 : Below N w w6 := below_grown H5.out.2.2 hg6 (by omega) (by intro k e; cases e; omega)
        have hz6 : N ≤ w6.heap.size := Nat.le_trans (by omega) hg6.size
        rw [← cat_list] at hh6
        have has : (al ++ s).size ≤ 150 * (q + 1) := by rw [ByteArray.size_append]; omega
        clear hg6 c0 c1
        go_wp2
        go_roundg (20 - (q + 1))
        case measure => omega
        case rel => exact ⟨q + 1, hb, al ++ s, by omega, by omega, rfl, by go_num, rfl, rfl, has, hbN, hh6, hG6, hB6, hz6⟩
      · have hm3 : (x.what : Int) % 3 = 1 := by omega
        clear h3
        go_upto_region 17 with (fail)
        go_wp2_with fail
        refine (hash_digest w5 hb K64 F0 _ H5.out.2.1 H5.out.1 (by rw [HLL.out]; omega)).mono ?_
        rintro e w6 ⟨rfl, hB6⟩
        have hh6 := H5.out.1.below hB6
        have hG6 := H5.out.2.1.below hB6
        have hB6' := H5.out.2.2.trans (hB6.mono (by omega))
        have hz6 : N ≤ w6.heap.size := Nat.le_trans (by omega) hB6.size
        have H6 := hide (And.intro hh6 (And.intro hG6 hB6'))
        clear c0 c1 hB6 hh6 hG6 hB6' hm3
        go_wp2_with fail
        refine (rsum_any al (by omega) w6).mono ?_
        rintro e w7 ⟨rfl, hB7⟩
        have hh7 := H6.out.1.below hB7
        have hG7 := H6.out.2.1.below hB7
        have hB7' := H6.out.2.2.trans (hB7.mono (by omega))
        have hz7 : N ≤ w7.heap.size := Nat.le_trans (by omega) hB7.size
        have hl1 := sha_length K64 F0 al.data.toList
        generalize shaOf K64 F0 al.data.toList = D at hl1 ⊢
        have has : al.size ≤ 150 * (q + 1) := by omega
        clear hB7
        go_wp2
        go_roundg (20 - (q + 1))
        case measure => omega
        case rel => exact ⟨q + 1, hb, al, by omega, by omega, rfl, by go_num, rfl, rfl, has, hbN, hh7, hG7, hB7', hz7⟩
      · have hm3 : (x.what : Int) % 3 = 2 := by omega
        clear h3
        go_upto_region 9 with (fail)
        go_wp2_with fail
        refine (hash_copy w5 hb K64 F0 _ H5.out.1 H5.out.2.1.2.2.2).mono ?_
        rintro e w6 ⟨rfl, hh6, hB6⟩
        have hG6 := H5.out.2.1.below hB6
        have hB6' := H5.out.2.2.trans (hB6.mono (by omega))
        have hz6 : N ≤ w6.heap.size := Nat.le_trans (by omega) hB6.size
        have has : al.size ≤ 150 * (q + 1) := by omega
        obtain ⟨hb', hbE⟩ : ∃ hb', hb' = w5.heap.size := ⟨_, rfl⟩
        rw [← hbE] at hh6 ⊢
        have hbN' : N ≤ hb' := by omega
        have HBE := hide hbE
        clear hB6 c0 c1 hbE hm3
        go_wp2
        go_roundg (20 - (q + 1))
        case measure => omega
        case rel => exact ⟨q + 1, hb', al, by omega, by omega, rfl, by go_num, rfl, rfl, has, hbN', hh6, hG6, hB6', hz6⟩
    · have hcnt : ¬ ((q : Int) < (ls.length : Int) ∧ (q : Int) < 20) := by omega
      have H5 := hide (And.intro hh (And.intro hG hB))
      have HLL := hide hll
      clear hlt hh hG hB hll
      by_cases h1 : (q : Int) < (ls.length : Int)
      all_goals
        first | have h2 : ¬ (q : Int) < 20 := fun h => hcnt ⟨h1, h⟩ | skip
        clear hcnt
        go_wp2_with fail
        refine (hash_digest wr hb K64 F0 _ H5.out.2.1 H5.out.1 (by rw [HLL.out]; omega)).mono ?_
        rintro e w6 ⟨rfl, hB6⟩
        have hB6' := H5.out.2.2.trans (hB6.mono hz)
        have hz6 : N ≤ w6.heap.size := Nat.le_trans hz hB6.size
        clear hB6
        go_wp2_with fail
        refine (rsum_any al (by omega) w6).mono ?_
        rintro e w7 ⟨rfl, hB7⟩
        have hB7' := hB6'.trans (hB7.mono hz6)
        have hl1 := sha_length K64 F0 al.data.toList
        generalize shaOf K64 F0 al.data.toList = D at hl1 ⊢
        clear hB7
        go_wp2
        go_ret
        exact ⟨by simp, by rw [← HN.out]; exact hB7'⟩
end Go.Proofs.YtpkgmoiffegbfaaDoor
