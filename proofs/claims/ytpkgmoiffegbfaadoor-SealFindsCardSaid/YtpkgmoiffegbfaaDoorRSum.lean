/- The document's sum: the walk through Sum. No condition but the text's size. -/
import Derived.Test.YtpkgmoiffegbfaaDoorRBlock
import Derived.Test.YtpkgmoiffegbfaaDoorZCmp
namespace Go.Proofs.YtpkgmoiffegbfaaDoor
open Go.RowKit Go.BigFrame
set_option maxRecDepth 100000

section
variable (ρ : Operand → Value) (dst : Option Tmp) (x : Operand) (ty : TypeId) (pos : String) (after : Array Edge) (guard : Option (Nat × Bool)) (w : World)
theorem exec_loadW8 : (execOp ρ ⟨dst, .load 59 x, ty, pos, after, guard⟩).run Tryd.prog w = loadRow 8 (ρ x) w ((do let v ← Instr.loadAt 59 (ρ x); pure (.value v) : Sem Next).run Tryd.prog w) :=
  exec_load Tryd.underlying59 rfl rsizeW8 ρ dst x ty pos after guard w
end
attribute [local go_sem ↓] exec_loadW8
attribute [local go_sem] loadRow objAt_drew
theorem grown_of_below {w w' : World} (h : Below w.heap.size w w') : w.grownBy w' none := ⟨h.os, h.tape, h.output, h.size, fun k hk _ => h.block k hk⟩
theorem grown_trans {w w1 w2 : World} {r1 r2 r : Option Nat} (h1 : w.grownBy w1 r1) (h2 : w1.grownBy w2 r2) (e1 : ∀ k, k < w.heap.size → some k ≠ r → some k ≠ r1) (e2 : ∀ k, k < w.heap.size → some k ≠ r → some k ≠ r2) : w.grownBy w2 r :=
  ⟨h2.os.trans h1.os, h2.tape.trans h1.tape, h2.output.trans h1.output, Nat.le_trans h1.size h2.size, fun k hk hne => (h2.block k (Nat.lt_of_lt_of_le hk h1.size) (e2 k hk hne)).trans (h1.block k hk (e1 k hk hne))⟩
def z8 : List W := List.replicate 8 0
/-- Eight words laid, so many so far. -/
def laidW (l : List W) (i : Nat) : List W := l.take i ++ List.replicate (8 - i) 0
theorem laidW_len (l : List W) (hl : l.length = 8) (i : Nat) (h : i ≤ 8) : (laidW l i).length = 8 := by simp [laidW]; omega
theorem laidW_set (l : List W) (hl : l.length = 8) (i : Nat) (h : i < 8) (x : W) (hx : l[i]? = some x) : (laidW l i).set i x = laidW l (i + 1) := by
  unfold laidW
  rw [List.set_append_right _ _ (by simp; omega), List.take_add_one, hx]
  have e : i - (l.take i).length = 0 := by simp; omega
  rw [e, show 8 - i = (8 - (i + 1)) + 1 by omega, List.replicate_succ, List.set_cons_zero]
  simp
/-- Bytes of a digest laid, so many so far. -/
def laidB (l : List UInt8) (i : Nat) : List UInt8 := l.take i ++ List.replicate (32 - i) 0
theorem laidB_len (l : List UInt8) (hl : l.length = 32) (i : Nat) (h : i ≤ 32) : (laidB l i).length = 32 := by simp [laidB]; omega
theorem laidB_set (l : List UInt8) (hl : l.length = 32) (i : Nat) (h : i < 32) (x : UInt8) (hx : l[i]? = some x) : (laidB l i).set i x = laidB l (i + 1) := by
  unfold laidB
  rw [List.set_append_right _ _ (by simp; omega), List.take_add_one, hx]
  have e : i - (l.take i).length = 0 := by simp; omega
  rw [e, show 32 - i = (32 - (i + 1)) + 1 by omega, List.replicate_succ, List.set_cons_zero]
  simp
theorem outB_at (s : S8) (i : Nat) (h : i < 32) : (outB s)[i]? = some (byteW (s.list.getD (i / 4) 0 >>> (24 - 8 * (i % 4)))) := by
  match i, h with
  | 0, _ | 1, _ | 2, _ | 3, _ | 4, _ | 5, _ | 6, _ | 7, _ | 8, _ | 9, _ | 10, _ | 11, _ | 12, _ | 13, _ | 14, _ | 15, _ => rfl
  | 16, _ | 17, _ | 18, _ | 19, _ | 20, _ | 21, _ | 22, _ | 23, _ | 24, _ | 25, _ | 26, _ | 27, _ | 28, _ | 29, _ | 30, _ | 31, _ => rfl
  | i + 32, h => omega
theorem padR_bound (t : List UInt8) : 0 < (padR t).length ∧ (padR t).length ≤ t.length + 100 := by
  simp [padR, padB, be8]; omega
theorem out_length (s : S8) : (outB s).length = 32 := rfl
theorem K64_length : K64.length = 64 := by kernel_rfl
set_option maxHeartbeats 8000000 in
theorem rsum_gen (K : List W) (F1 : S8) (hKl : K.length = 64) (hKf : (firstP 64).map (fracW · true) = K) (hFf : (firstP 8).map (fracW · false) = F1.list) (text : ByteArray) (ht : text.size ≤ 90000) (w : World) :
    Calls Tryd.prog 21 #[.string text] w fun e w' => e = .returned (.agg (dg (shaOf K F1 text.data.toList))) ∧ Below w.heap.size w w' := by
  have HKF := hide hKf
  have HFF := hide hFf
  clear hKf hFf
  obtain ⟨N, hN⟩ : ∃ N, N = w.heap.size := ⟨_, rfl⟩
  have hB0 : Below N w w := by rw [hN]; exact Below.refl _ _
  obtain ⟨D, hD⟩ : ∃ D, D = shaOf K F1 text.data.toList := ⟨_, rfl⟩
  have HD := hide hD
  rw [← hD]
  clear hD
  go_enter Tryd.func21, Tryd.ntmps21
  go_wp2_with ((with_reducible show wpList _ _ _ (⟨some 2, Op.alloc _, _, _, _, _⟩ :: _) _ _); refine Hid.out ?_)
  refine hide ?_
  refine zallocK rfl 28 rfl _ zzeroDig ?_
  intro w1 hg1 hw1 hs1
  rw [← hN] at hg1 hs1 ⊢
  have hB1 : Below N w w1 := below_grown hB0 hw1 (by omega) (by intro k e; cases e)
  have HN := hide hN
  clear hN hB0 hw1
  go_wp2_with ((with_reducible show wpList _ _ _ (⟨some 3, Op.alloc _, _, _, _, _⟩ :: _) _ _); refine Hid.out ?_)
  refine hide ?_
  refine zallocK rfl 59 rfl _ rzeroW8 ?_
  intro w2 hg2 hw2 hs2
  rw [hs1] at hg2 hs2 ⊢
  have hr2 := (hw2.block N (by omega) (by simp)).trans hg1
  have hB2 : Below N w w2 := below_grown hB1 hw2 (by omega) (by intro k e; cases e)
  clear hw2 hB1 hg1 hs1
  have hfr := fractions_any 8 false (by decide) w2
  unfold FractionsP at hfr
  have HFR := hide hfr
  clear hfr
  go_wp2_with fail
  refine HFR.out.mono ?_
  rintro e w3 ⟨v3, rfl, hO3, hB3⟩
  rw [HFF.out] at hO3
  have hr3 := below_at hB3 hr2 (by omega)
  have hs3 := below_at hB3 hg2 (by omega)
  have hB3' : Below N w w3 := hB2.trans (hB3.mono (by omega))
  have hz3 : N + 2 ≤ w3.heap.size := by have := hB3.size; omega
  obtain ⟨ga, gc, rfl, hcl⟩ := hO3.any
  obtain ⟨gf, rfl, hgf0, hgf, _, hfc⟩ := hcl (by show 0 < 8; decide)
  have hF8 : F1.list.length = 8 := rfl
  rw [hF8]
  have HFC := hide hfc
  have hgfN : N + 2 ≤ gf := by omega
  have hl0 : w3.heap[N + 1]? = some (.cells (ww (laidW F1.list 0)) 59 (0, 0)) := hs3
  have hG3 : w3.grownBy w3 (some (N + 1)) := ⟨rfl, rfl, rfl, Nat.le_refl _, fun _ _ _ => rfl⟩
  have H3 := hide (And.intro hr3 hB3')
  obtain ⟨F, hF⟩ : ∃ F, F = F1.list := ⟨_, rfl⟩
  rw [← hF] at HFC hl0 hF8
  have HF := hide hF
  clear hF hO3 hcl hfc HFR hB3 hr2 hg2 hB2 hs3 hr3 hB3' hs2
  go_wp2_with fail
  go_loopg [5] 8 (fun gm v wi => ∃ (i : Nat), i ≤ 8 ∧ gm = 8 - i ∧ v = .int .i64 (i : Int) ∧ wi.heap[N + 1]? = some (.cells (ww (laidW F i)) 59 (0, 0)) ∧ w3.grownBy wi (some (N + 1)))
  case atStart => exact ⟨0, by omega, rfl, rfl, hl0, hG3⟩
  case round =>
    obtain ⟨i, hi, rfl, rfl, hl, hG⟩ := hrel
    clear hl0 hG3
    by_cases hlt : i < 8
    · have hi0 : (0 : Int) ≤ (i : Int) := by omega
      have hiI : (i : Int) < 8 := by omega
      obtain ⟨x, hx⟩ : ∃ x, F[i]? = some x := ⟨_, List.getElem?_eq_getElem (by omega)⟩
      have cx : wr.cell? ⟨gf, i, none⟩ = some (.int .u32 (wI x)) := hG.cell (HFC.out i x hx) (by simp; omega)
      have HLS := hide (laidW_set F hF8 i hlt x hx)
      clear hx
      go_wp2_with ((with_reducible show wpList _ _ _ (⟨none, Op.store _ _ _, _, _, _, _⟩ :: _) _ _); refine Hid.out ?_)
      refine hide ?_
      refine zstore rfl rfl _ _ _ rfl sizeU32 (N + 1) i (.int .u32 (wI x)) rfl rfl rfl rfl _ _ hl (by rw [ww_size, laidW_len F hF8 i hi]; exact hlt) ?_
      intro w5 g5 hw5
      rw [ww_set, HLS.out] at g5
      have G5 : w3.grownBy w5 (some (N + 1)) := grown_trans hG hw5 (fun k _ h => h) (fun k _ h => h)
      clear hl hG cx hw5
      go_wp2
      go_roundg (8 - (i + 1))
      case measure => omega
      case rel => exact ⟨i + 1, by omega, rfl, by go_num, g5, G5⟩
    · obtain rfl : i = 8 := by omega
      have hW0 : wr.heap[N + 1]? = some (.cells (ww (whole K F1 [] 0).list) 59 (0, 0)) := by
        have e : laidW F 8 = F1.list := by rw [laidW, List.take_of_length_le (by omega), HF.out]; simp
        rw [e] at hl
        exact hl
      have hr6 := (hG.block N (by omega) (by simp)).trans H3.out.1
      have hB6 : Below N w wr := below_grown H3.out.2 hG (by omega) (by intro k e; cases e; omega)
      have hz6 : N + 2 ≤ wr.heap.size := by have := hG.size; omega
      have H6 := hide (And.intro hr6 hB6)
      clear hl hG hr6 hB6 H3 HFC hgf0 hgf hgfN hi hlt hF8
      have hfr := fractions_any 64 true (by decide) wr
      unfold FractionsP at hfr
      have HFR := hide hfr
      clear hfr
      go_wp2_with fail
      refine HFR.out.mono ?_
      rintro e w7 ⟨v7, rfl, hO7, hB7⟩
      rw [HKF.out] at hO7
      have hW7 := below_at hB7 hW0 (by omega)
      have hr7 := below_at hB7 H6.out.1 (by omega)
      have hB7' : Below N w w7 := H6.out.2.trans (hB7.mono (by omega))
      have hz7 : N + 2 ≤ w7.heap.size := by have := hB7.size; omega
      obtain ⟨ka, kc, rfl, hcl⟩ := hO7.any
      obtain ⟨kb, rfl, hkb0, hkb, _, hkc⟩ := hcl (by rw [hKl]; decide)
      have hkbN : N + 2 ≤ kb := by omega
      rw [hKl]
      have HKC := hide hkc
      clear hO7 hcl hkc HFR hB7 hW0 hkb0 H6
      have hpd := pad_any text (by omega) w7
      unfold PadP at hpd
      have HPD := hide hpd
      clear hpd
      go_wp2_with fail
      refine HPD.out.mono ?_
      rintro e w8 ⟨v8, rfl, hO8, hB8⟩
      have hW8 := below_at hB8 hW7 (by omega)
      have hr8 := below_at hB8 hr7 (by omega)
      have hB8' : Below N w w8 := hB7'.trans (hB8.mono (by omega))
      have hz8 : N + 2 ≤ w8.heap.size := by have := hB8.size; omega
      have hkb8 : kb < w8.heap.size := by have := hB8.size; omega
      have hk8 : ∀ (j : Nat) (n : W), K[j]? = some n → w8.cell? ⟨kb, j, none⟩ = some (wv n) := fun j n h => (hB8.cell (p := ⟨kb, j, none⟩) hkb).trans (HKC.out j n h)
      obtain ⟨P, hP⟩ : ∃ P, P = padR text.data.toList := ⟨_, rfl⟩
      rw [← hP] at hO8
      have hPmod : P.length % 64 = 0 := by rw [hP]; exact padR_length _
      have hPbig : P.length ≤ 100000 := by
        rw [hP]
        have h1 : text.data.toList.length = text.size := rfl
        have := (padR_bound text.data.toList).2
        omega
      have hPpos : 0 < P.length := by rw [hP]; exact (padR_bound _).1
      obtain ⟨gp, pc, rfl, hgp0, hgp, hpl, hpm, hcp⟩ := hO8.any hPpos
      have hgpN : N + 2 ≤ gp := by omega
      have HPQ := hide hP
      have HK8 := hide hk8
      have HCP := hide hcp
      have H8 := hide (And.intro hr8 hB8')
      obtain ⟨m, hm⟩ : ∃ m, m = P.length / 64 := ⟨_, rfl⟩
      have hPm : P.length = 64 * m := by omega
      obtain ⟨pl, hplE⟩ : ∃ pl, pl = P.length := ⟨_, rfl⟩
      rw [← hplE] at hPm hPbig hPpos hpl ⊢
      have HPm := hide hPm
      have HPL := hide hplE
      have HM := hide hm
      have hl0 : w8.heap[N + 1]? = some (.cells (ww (whole K F1 P 0).list) 59 (0, 0)) := hW8
      have hG8 : w8.grownBy w8 (some (N + 1)) := ⟨rfl, rfl, rfl, Nat.le_refl _, fun _ _ _ => rfl⟩
      unfold maxLen at hpm
      clear hP hk8 hcp hr8 hB8' hplE hm hPmod hPm hW8 hO8 hW7 hr7 hB7' HPD HKC hB8 hgp0
      go_wp2_with fail
      go_loopg [8] m (fun gm v wi => ∃ (k : Nat), k ≤ m ∧ gm = m - k ∧ v = .int .i64 ((64 * k : Nat) : Int) ∧ wi.heap[N + 1]? = some (.cells (ww (whole K F1 P k).list) 59 (0, 0)) ∧ w8.grownBy wi (some (N + 1)))
      case atStart => exact ⟨0, by omega, rfl, rfl, hl0, hG8⟩
      case round =>
        obtain ⟨k, hk, rfl, rfl, hl, hG⟩ := hrel
        clear hl0 hG8
        obtain ⟨o, ho⟩ : ∃ o, o = 64 * k := ⟨_, rfl⟩
        rw [← ho]
        have ho0 : (0 : Int) ≤ (o : Int) := by omega
        have hPm := HPm.out
        by_cases hlt : k < m
        · have hoI : (o : Int) + 64 ≤ (pl : Int) := by omega
          have hoL : (o : Int) < (pl : Int) := by omega
          have hoB : (o : Int) ≤ 100000 := by omega
          have hpcI : (pl : Int) ≤ (pc : Int) := by omega
          have hwr : IntKind.i64.wrap ((o : Int) + 64) = ((o + 64 : Nat) : Int) := by rw [IntWalk.i64_in _ (by omega)]; omega
          obtain ⟨o2, ho2⟩ : ∃ o2, o2 = o + 64 := ⟨_, rfl⟩
          rw [← ho2] at hwr
          obtain ⟨h1, h2, h3, h4⟩ : (o : Int) ≤ (o2 : Int) ∧ (o2 : Int) ≤ (pc : Int) ∧ (0 : Int) ≤ (o2 : Int) ∧ (o2 : Int) ≤ (pl : Int) := by omega
          obtain ⟨S, hS⟩ : ∃ S, S = whole K F1 P k := ⟨_, rfl⟩
          rw [← hS] at hl
          have hsz := s8_size S
          have hob : objAt wr (N + 1) = some (.cells (ww S.list) 59 (0, 0)) := hl
          have HO := hide (And.intro ho ho2)
          have HL := hide hl
          have HG := hide hG
          have HS := hide hS
          clear ho ho2 hl hG hS hPm
          go_upto_region 12 with (fail)
          refine ztail 7 (by kernel_rfl) (by kernel_rfl) ?_
          simp only [List.take_succ_cons, List.take_zero, List.drop_succ_cons, List.drop_zero]
          iterate 7 (go_big_quiet_want; go_big_quiet_op; first | go_big_quiet_on | (refine ⟨_, fun _ _ => rfl, ?_⟩; go_big_quiet_on))
          refine wpQuiet_nil ?_
          go_wp2_with fail
          rw [show o2 - o = 64 by have := HO.out.2; omega]
          obtain ⟨bs, hbsE⟩ : ∃ bs, bs = (P.drop (k * 64)).take 64 := ⟨_, rfl⟩
          have hPm := HPm.out
          have hbs : bs.length = 64 := by
            rw [hbsE, List.length_take, List.length_drop, ← HPL.out]
            omega
          clear hPm
          have hcb : ∀ j u, (Lib.byteCells bs)[j]? = some u → wr.drew.cell? ⟨gp, o + j, none⟩ = some u := by
            intro j u hu
            have hj : j < 64 := by have := (List.getElem?_eq_some_iff.1 hu).1; simpa [Lib.byteCells, hbs] using this
            refine HG.out.cell (HCP.out (o + j) u ?_) (by simp; omega)
            rw [hbsE] at hu
            simp only [Lib.byteCells, List.getElem?_map, List.getElem?_take, List.getElem?_drop] at hu ⊢
            rw [if_pos hj, show k * 64 + j = o + j by have := HO.out.1; omega] at hu
            exact hu
          have hgz : w8.heap.size ≤ wr.drew.heap.size := HG.out.size
          have hblk := block_any S bs hbs gp o (pc - o) K hKl kb kc wr.drew (by omega) hcb (by omega) (fun j n h => HG.out.cell (HK8.out j n h) (by simp; omega))
          have hsw : comp K S bs = whole K F1 P (k + 1) := by rw [whole, ← hbsE, ← HS.out]
          generalize comp K S bs = S2 at hblk hsw
          have HBL := hide hblk
          have HSW := hide hsw
          clear hcb hblk hsw
          refine HBL.out.mono ?_
          rintro e w14 ⟨rfl, hB14⟩
          have hl14 := below_at hB14 HL.out (zlt HL.out)
          have hG14 : w8.grownBy w14 (some (N + 1)) := grown_trans HG.out (w1 := wr) (r2 := none) ⟨hB14.os, hB14.tape, hB14.output, hB14.size, fun b hb _ => hB14.block b hb⟩ (fun b _ h => h) (fun b _ _ => by simp)
          clear hB14 HBL hbsE hgz HL hob
          go_wp2_with ((with_reducible show wpList _ _ _ (⟨none, Op.store _ _ _, _, _, _, _⟩ :: _) _ _); refine Hid.out ?_)
          refine hide ?_
          refine law_store rfl _ _ _ rfl (N + 1) (ww S2.list) rfl rfl _ _ hl14 rsizeW8 rfl (ww_one _) ?_
          intro w15 hg15 hw15
          have hl15 := hg15.out
          rw [HSW.out] at hl15
          have hG15 : w8.grownBy w15 (some (N + 1)) := grown_trans hG14 hw15 (fun b _ h => h) (fun b _ h => h)
          clear hg15 hw15 hl14 hG14
          go_wp2
          go_roundg (m - (k + 1))
          case measure => omega
          case rel => exact ⟨k + 1, by omega, rfl, by have := HO.out.2; have := HO.out.1; congr 1; omega, hl15, hG15⟩
        · obtain rfl : k = m := by omega
          have hoL : (o : Int) = (pl : Int) := by omega
          have hSE : whole K F1 P k = whole K F1 P (P.length / 64) := by rw [← HM.out]
          obtain ⟨S, hS⟩ : ∃ S, S = whole K F1 P k := ⟨_, rfl⟩
          have hDS : D = outB S := by rw [hS, hSE, HPQ.out, ← shaOf_pad, HD.out]
          rw [← hS] at hl
          have hr9 := (hG.block N (by omega) (by simp)).trans H8.out.1
          have hB9 : Below N w wr := below_grown H8.out.2 hG (by omega) (by intro k e; cases e; omega)
          have hz9 : N + 2 ≤ wr.heap.size := by have := hG.size; omega
          have HDS := hide hDS
          clear hSE hS hDS hG ho hPm
          go_wp2_with ((with_reducible show wpList _ _ _ (⟨some 9, Op.alloc _, _, _, _, _⟩ :: _) _ _); refine Hid.out ?_)
          refine hide ?_
          refine zallocK rfl 28 rfl _ zzeroDig ?_
          intro w16 hg16 hw16 hs16
          obtain ⟨Q, hQ⟩ : ∃ Q, Q = wr.heap.size := ⟨_, rfl⟩
          rw [← hQ] at hg16 hs16 hz9 ⊢
          have hl16 := (hw16.block (N + 1) (by omega) (by simp)).trans hl
          have hr16 := (hw16.block N (by omega) (by simp)).trans hr9
          have hB16 : Below N w w16 := below_grown hB9 hw16 (by omega) (by intro k e; cases e)
          have hd0 : w16.heap[Q]? = some (.cells (dg (laidB D 0)) 28 (0, 0)) := hg16
          have hG16 : w16.grownBy w16 (some Q) := ⟨rfl, rfl, rfl, Nat.le_refl _, fun _ _ _ => rfl⟩
          have hDl : D.length = 32 := by rw [HDS.out]; rfl
          have H16 := hide (And.intro hl16 (And.intro hr16 hB16))
          clear hQ hw16 hl hr9 hB9 hg16 hl16 hr16 hB16
          go_wp2_with fail
          go_loopg [10] 32 (fun gm v wi => ∃ (i : Nat), i ≤ 32 ∧ gm = 32 - i ∧ v = .int .i64 (i : Int) ∧ wi.heap[Q]? = some (.cells (dg (laidB D i)) 28 (0, 0)) ∧ w16.grownBy wi (some Q))
          case atStart => exact ⟨0, by omega, rfl, rfl, hd0, hG16⟩
          case round =>
            obtain ⟨i, hi, rfl, rfl, hd, hG⟩ := hrel
            clear hd0 hG16
            by_cases hlt : i < 32
            · have hi0 : (0 : Int) ≤ (i : Int) := by omega
              have hiI : (i : Int) < 32 := by omega
              obtain ⟨q, hq⟩ : ∃ q, q = i / 4 := ⟨_, rfl⟩
              obtain ⟨r, hr⟩ : ∃ r, r = i % 4 := ⟨_, rfl⟩
              obtain ⟨sf, hsf⟩ : ∃ sf, sf = 24 - 8 * r := ⟨_, rfl⟩
              have hq4 : (i : Int) / 4 = (q : Int) := by omega
              have hr4 : (i : Int) % 4 = (r : Int) := by omega
              have hsf4 : (24 : Int) - 8 * (r : Int) = (sf : Int) := by omega
              have hq8 : (q : Int) < 8 := by omega
              have hq0 : (0 : Int) ≤ (q : Int) := by omega
              have hr0 : (0 : Int) ≤ (r : Int) := by omega
              have hr3 : (r : Int) ≤ 3 := by omega
              have hsf0 : (0 : Int) ≤ (sf : Int) := by omega
              have hsf24 : (sf : Int) ≤ 24 := by omega
              obtain ⟨y, hy⟩ : ∃ y, y = S.list.getD q 0 := ⟨_, rfl⟩
              have cy : wr.cell? ⟨N + 1, q, none⟩ = some (.int .u32 (wI y)) := hG.cell (zcell H16.out.1 (by
                have hql : q < S.list.length := by show q < 8; omega
                rw [ww_at, hy, List.getD_eq_getElem?_getD, List.getElem?_eq_getElem hql]; rfl)) (by simp; omega)
              have hat : D[i]? = some (byteW (y >>> sf)) := by rw [HDS.out, outB_at S i hlt, hy, hsf, hq, hr]
              have HLB := hide (laidB_set D hDl i hlt _ hat)
              clear hat hy hsf hq hr
              go_wp2_with ((with_reducible show wpList _ _ _ (⟨none, Op.store _ _ _, _, _, _, _⟩ :: _) _ _); refine Hid.out ?_)
              refine hide ?_
              have hv : wI y / 2 ^ sf % 256 = ((byteW (y >>> sf)).toNat : Int) := by rw [wI_div, ← wrap8W, IntKind.wrap_u8]
              refine zstore rfl rfl _ _ _ rfl sizeU8z Q i (.int .u8 ((byteW (y >>> sf)).toNat : Int)) rfl (congrArg (Value.int .u8) hv) rfl rfl _ _ hd (by rw [dg_size, laidB_len D hDl i hi]; exact hlt) ?_
              intro w17 g17 hw17
              rw [dg_set, HLB.out] at g17
              have G17 : w16.grownBy w17 (some Q) := grown_trans hG hw17 (fun b _ h => h) (fun b _ h => h)
              clear hd hG cy hw17 hv hq4 hr4 hsf4
              go_wp2
              go_roundg (32 - (i + 1))
              case measure => omega
              case rel => exact ⟨i + 1, by omega, rfl, by go_num, g17, G17⟩
            · obtain rfl : i = 32 := by omega
              have hfin : laidB D 32 = D := by rw [laidB, List.take_of_length_le (by omega)]; simp
              rw [hfin] at hd
              have hr18 := (hG.block N (by omega) (by simp; omega)).trans H16.out.2.1
              have hB18 : Below N w wr := below_grown H16.out.2.2 hG (by omega) (by intro k e; cases e; omega)
              have hdz : (Tryd.prog.info? 28).map (·.size) = some (dg D).size := by rw [dg_size, hDl]; exact zsizeDig
              have HDZ := hide hdz
              clear hdz hG hfin
              go_wp2_with ((with_reducible show wpList _ _ _ (⟨some 56, Op.load _ _, _, _, _, _⟩ :: _) _ _); refine Hid.out ?_)
              refine hide ?_
              refine wpList_load_row rfl 28 _ rfl Q rfl _ (dg D) _ _ hd Tryd.underlying28 rfl HDZ.out ?_
              go_wp2_with ((with_reducible show wpList _ _ _ (⟨none, Op.store _ _ _, _, _, _, _⟩ :: _) _ _); refine Hid.out ?_)
              refine hide ?_
              refine law_store rfl _ _ _ rfl N (dg D) rfl rfl _ _ hr18 HDZ.out (by rw [dg_size, dg_size, hDl]; rfl) (dg_one _) ?_
              intro w19 hg19 hw19
              have hB19 : Below N w w19 := below_grown hB18 hw19 (by have := zlt hr18; omega) (by intro k e; cases e; exact Nat.le_refl _)
              go_wp2
              refine bodyPost_ret (results_cell_row rfl _ _ N _ _ _ _ rfl hg19.out Tryd.underlying28 rfl HDZ.out) rfl ⟨rfl, ?_⟩
              rw [← HN.out]
              exact hB19
theorem rsum_any (text : ByteArray) (ht : text.size ≤ 90000) (w : World) :
    Calls Tryd.prog 21 #[.string text] w fun e w' => e = .returned (.agg (dg (shaOf K64 F0 text.data.toList))) ∧ Below w.heap.size w w' :=
  rsum_gen K64 F0 K64_length fractions_rounds fractions_first text ht w
end Go.Proofs.YtpkgmoiffegbfaaDoor
