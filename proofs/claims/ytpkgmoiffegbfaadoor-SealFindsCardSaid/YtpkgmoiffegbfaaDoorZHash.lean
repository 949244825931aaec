/- Hashes, by the text that was written into them: New, Write, Digest, Copy, Sum. No condition but sizes. -/
import Derived.Test.YtpkgmoiffegbfaaDoorZDig
namespace Go.Proofs.YtpkgmoiffegbfaaDoor
open Go.RowKit Go.BigFrame
set_option maxRecDepth 100000

/-- What package sha's two variables hold. -/
def Glob (F : S8) (K : List W) (w : World) : Prop := w.rangeAt 0 0 (F.list.map wv) ∧ w.rangeAt 1 0 (K.map wv) ∧ K.length = 64 ∧ 1 < w.heap.size
theorem Glob.below {F : S8} {K : List W} {w w' : World} (h : Glob F K w) (hb : Below w.heap.size w w') : Glob F K w' := by
  obtain ⟨h0, h1, h2, h3⟩ := h
  exact ⟨fun j v hv => (hb.cell (p := ⟨0, 0 + j, none⟩) (by show 0 < w.heap.size; omega)).trans (h0 j v hv), fun j v hv => (hb.cell (p := ⟨1, 0 + j, none⟩) h3).trans (h1 j v hv), h2, Nat.lt_of_lt_of_le h3 hb.size⟩
theorem Glob.grown {F : S8} {K : List W} {w w' : World} {r : Nat} (h : Glob F K w) (hg : w.grownBy w' (some r)) (hr : 1 < r) : Glob F K w' := by
  obtain ⟨h0, h1, h2, h3⟩ := h
  exact ⟨fun j v hv => hg.cell (h0 j v hv) (by simp; omega), fun j v hv => hg.cell (h1 j v hv) (by simp; omega), h2, Nat.lt_of_lt_of_le h3 hg.size⟩
theorem Glob.drew {F : S8} {K : List W} {w : World} (h : Glob F K w) : Glob F K w.drew := h

/-- The state behind a text's whole blocks. -/
def stOf (K : List W) (F : S8) (t : List UInt8) : S8 := whole K F t (t.length / 64)
def restOf (t : List UInt8) : List UInt8 := t.drop (t.length / 64 * 64)
/-- The sum of a text. -/
def shaOf (K : List W) (F : S8) (t : List UInt8) : List UInt8 := outB (lastS K (stOf K F t) (restOf t) t.length)
theorem whole_add (K : List W) (s : S8) (bs : List UInt8) (a : Nat) : ∀ b, whole K s bs (a + b) = whole K (whole K s bs a) (bs.drop (a * 64)) b
  | 0 => rfl
  | b + 1 => by
    rw [← Nat.add_assoc, whole, whole, whole_add K s bs a b, List.drop_drop]
    congr 3
    omega
theorem whole_prefix (K : List W) (s : S8) (bs t : List UInt8) : ∀ k, k * 64 ≤ bs.length → whole K s (bs ++ t) k = whole K s bs k
  | 0, _ => rfl
  | k + 1, h => by
    rw [whole, whole, whole_prefix K s bs t k (by omega)]
    congr 1
    rw [List.drop_append_of_le_length (by omega), List.take_append_of_le_length (by rw [List.length_drop]; omega)]
theorem stOf_append (K : List W) (F : S8) (t u : List UInt8) : whole K (stOf K F t) (restOf t ++ u) ((restOf t ++ u).length / 64) = stOf K F (t ++ u) := by
  have hl : (restOf t ++ u).length = t.length - t.length / 64 * 64 + u.length := by simp [restOf]
  have hn : (t ++ u).length / 64 = t.length / 64 + (restOf t ++ u).length / 64 := by rw [hl, List.length_append]; omega
  rw [stOf, stOf, hn, whole_add, whole_prefix K F t u _ (by omega), restOf, List.drop_append_of_le_length (by omega)]
theorem restOf_append (t u : List UInt8) : restOf (t ++ u) = (restOf t ++ u).drop ((restOf t ++ u).length / 64 * 64) := by
  have hl : (restOf t ++ u).length = t.length - t.length / 64 * 64 + u.length := by simp [restOf]
  have hd : restOf t ++ u = (t ++ u).drop (t.length / 64 * 64) := by rw [restOf, List.drop_append_of_le_length (by omega)]
  rw [hl, hd, List.drop_drop, restOf, List.length_append]
  congr 1
  omega
theorem restOf_length (t : List UInt8) : (restOf t).length < 64 := by simp [restOf]; omega

/-- A hash into which a text was written. -/
def IsHash (w : World) (hb : Nat) (K : List W) (F : S8) (t : List UInt8) : Prop := 1 < hb ∧ w.heap[hb]? = some (.cells (hcells (stOf K F t) ⟨(restOf t).toArray⟩ t.length) 62 (0, 0))
theorem IsHash.below {w w' : World} {hb : Nat} {K : List W} {F : S8} {t : List UInt8} (h : IsHash w hb K F t) (hB : Below w.heap.size w w') : IsHash w' hb K F t := ⟨h.1, below_at hB h.2 (zlt h.2)⟩
theorem IsHash.grown {w w' : World} {hb r : Nat} {K : List W} {F : S8} {t : List UInt8} (h : IsHash w hb K F t) (hg : w.grownBy w' (some r)) (hr : hb ≠ r) : IsHash w' hb K F t := ⟨h.1, (hg.block hb (zlt h.2) (by simpa using hr)).trans h.2⟩

theorem hash_write (w : World) (hb : Nat) (K : List W) (F : S8) (t : List UInt8) (text : ByteArray) (hG : Glob F K w) (h : IsHash w hb K F t) (ht : text.size ≤ 1000000) (hl : t.length ≤ 1000000000000) :
    Calls Tryd.prog 16 #[.pointer (some ⟨hb, 0, none⟩), .string text] w fun e w' => e = .returned (.tuple #[]) ∧ IsHash w' hb K F (t ++ text.data.toList) ∧ w.grownBy w' (some hb) := by
  have hr : (ByteArray.mk (restOf t).toArray).size ≤ 1000000 := by have := restOf_length t; simp [ByteArray.size]; omega
  refine (write_any w hb (stOf K F t) ⟨(restOf t).toArray⟩ text t.length K hG.2.2.1 hG.2.1 h.1 h.2 hr ht hl).mono ?_
  rintro e w' ⟨rfl, hh, hg⟩
  refine ⟨rfl, ⟨h.1, ?_⟩, hg⟩
  have e1 : (ByteArray.mk (restOf t).toArray ++ text).data.toList = restOf t ++ text.data.toList := by rw [ByteArray.data_append]; simp
  have e2 : (ByteArray.mk (restOf t).toArray ++ text).size = (restOf t ++ text.data.toList).length := by rw [← e1]; rfl
  have e4 : (t ++ text.data.toList).length = t.length + text.size := by rw [List.length_append]; rfl
  rw [hh, ← stOf_append, restOf_append, e1, e2, e4]
  have e3 : (ByteArray.mk (restOf t).toArray ++ text).extract ((restOf t ++ text.data.toList).length / 64 * 64) (restOf t ++ text.data.toList).length = ⟨((restOf t ++ text.data.toList).drop ((restOf t ++ text.data.toList).length / 64 * 64)).toArray⟩ := by
    apply ByteArray.ext
    apply Array.toList_inj.1
    rw [ByteArray.data_extract, Array.toList_extract, e1, List.extract_eq_take_drop, List.take_of_length_le (by rw [List.length_drop]; exact Nat.le_refl _)]
  rw [e3]

theorem hash_digest (w : World) (hb : Nat) (K : List W) (F : S8) (t : List UInt8) (hG : Glob F K w) (h : IsHash w hb K F t) (hl : t.length ≤ 1000000000000) :
    Calls Tryd.prog 17 #[.pointer (some ⟨hb, 0, none⟩)] w fun e w' => e = .returned (.agg (dg (shaOf K F t))) ∧ Below w.heap.size w w' := by
  have hr : (ByteArray.mk (restOf t).toArray).size ≤ 1000000 := by have := restOf_length t; simp [ByteArray.size]; omega
  have := digest_any w hb (stOf K F t) ⟨(restOf t).toArray⟩ t.length K hG.2.2.1 hG.2.1 hG.2.2.2 h.2 hr hl
  simpa [shaOf] using this
theorem sha_length (K : List W) (F : S8) (t : List UInt8) : (shaOf K F t).length = 32 := rfl

theorem hash_new (w : World) (K : List W) (F : S8) (hG : Glob F K w) :
    Calls Tryd.prog 14 #[] w fun e w' => e = .returned (.pointer (some ⟨w.heap.size, 0, none⟩)) ∧ IsHash w' w.heap.size K F [] ∧ Below w.heap.size w w' := by
  have HG := hide hG
  clear hG
  go_enter Tryd.func14, Tryd.ntmps14
  go_wp2_with ((with_reducible show wpList _ _ _ (⟨some 1, Op.load _ _, _, _, _, _⟩ :: _) _ _); refine Hid.out ?_)
  refine hide ?_
  refine wpList_load_mid rfl 60 _ rfl 0 0 rfl (F.list.map wv) _ HG.out.1 Tryd.underlying60 rfl (by rw [List.length_map]; kernel_rfl) ?_
  rw [show (F.list.map wv).toArray = #[.int .u32 (wI F.a), .int .u32 (wI F.b), .int .u32 (wI F.c), .int .u32 (wI F.d), .int .u32 (wI F.e), .int .u32 (wI F.f), .int .u32 (wI F.g), .int .u32 (wI F.h)] from rfl]
  go_wp2
  go_ret
  exact ⟨rfl, ⟨HG.out.2.2.2, new_at w _⟩, (Below.refl _ _).alloc (Nat.le_refl _) _⟩

set_option maxHeartbeats 400000 in
theorem hash_sum (w : World) (K : List W) (F : S8) (text : ByteArray) (hG : Glob F K w) (ht : text.size ≤ 1000000) :
    Calls Tryd.prog 18 #[.string text] w fun e w' => e = .returned (.agg (dg (shaOf K F text.data.toList))) ∧ Below w.heap.size w w' := by
  have HG := hide hG
  clear hG
  go_enter Tryd.func18, Tryd.ntmps18
  go_wp2_with ((with_reducible show wpList _ _ _ (⟨some 2, Op.alloc _, _, _, _, _⟩ :: _) _ _); refine Hid.out ?_)
  refine hide ?_
  refine zallocK rfl 28 rfl _ zzeroDig ?_
  intro w2 hg2 hw2 hs2
  have hB2 : Below w.heap.size w w2 := below_grown (Below.refl _ _) hw2 (Nat.le_refl _) (by intro k e; cases e)
  have hG2 := HG.out.below hB2
  have hd2 := hg2
  have hN : w.heap.size < w2.heap.size := by omega
  clear hw2 hg2 hs2
  go_wp2_with fail
  refine (hash_new _ K F hG2).mono ?_
  rintro e w3 ⟨rfl, hh3, hB3⟩
  have hG3 := hG2.below hB3
  have hd3 := below_at hB3 hd2 (by omega)
  have hB3' : Below w.heap.size w w3 := hB2.trans (hB3.mono (by omega))
  have hz3 := zlt hh3.2
  go_wp2_with fail
  refine (hash_write w3 w2.heap.size K F [] text hG3 hh3 ht (by simp)).mono ?_
  rintro e w4 ⟨rfl, hh4, hg4⟩
  have hG4 := hG3.grown hg4 hh3.1
  have hd4 := (hg4.block w.heap.size (by omega) (by simp; omega)).trans hd3
  have hB4 : Below w.heap.size w w4 := below_grown hB3' hg4 (by omega) (by intro k e; cases e; omega)
  have hz4 := zlt hh4.2
  rw [List.nil_append] at hh4
  go_wp2_with fail
  refine (hash_digest w4 w2.heap.size K F text.data.toList hG4 hh4 (by have : text.data.toList.length = text.size := rfl; omega)).mono ?_
  rintro e w5 ⟨rfl, hB5⟩
  have hd5 := below_at hB5 hd4 (zlt hd4)
  have hB5' : Below w.heap.size w w5 := hB4.trans (hB5.mono (by omega))
  have hz5 := zlt hd5
  clear hd2 hd3 hd4 hB2 hB3 hB3' hB4 hB5 hg4 hh3 hh4 hG2 hG3 hG4
  generalize hD : shaOf K F text.data.toList = D
  have hDl : D.length = 32 := by rw [← hD]; exact sha_length K F _
  have HDD := hide hD
  clear hD
  go_wp2_with ((with_reducible show wpList _ _ _ (⟨none, Op.store _ _ _, _, _, _, _⟩ :: _) _ _); refine Hid.out ?_)
  refine hide ?_
  refine law_store rfl _ _ _ rfl w.heap.size (dg D) rfl rfl _ _ hd5 (by rw [dg_size, hDl]; exact zsizeDig) (by rw [dg_size, dg_size, hDl]; rfl) (dg_one _) ?_
  intro w6 hd6 hw6
  go_wp2
  refine bodyPost_ret (results_cell_row rfl _ _ w.heap.size _ _ _ _ rfl hd6.out Tryd.underlying28 rfl (by rw [dg_size, hDl]; exact zsizeDig)) rfl ⟨by rw [HDD.out], ?_⟩
  exact below_grown hB5' hw6 (by omega) (by intro k e; cases e; exact Nat.le_refl _)

theorem write_nil (text : ByteArray) (w : World) : Calls Tryd.prog 16 #[.pointer none, .string text] w fun e w' => e = .returned (.tuple #[]) ∧ Below w.heap.size w w' := by
  go_enter Tryd.func16, Tryd.ntmps16
  go_wp2
  refine bodyPost_ret (results_none rfl _ _ _) rfl ⟨rfl, (Below.refl _ _).alloc (Nat.le_refl _) _⟩
theorem digest_nil (w : World) : Calls Tryd.prog 17 #[.pointer none] w fun e w' => e = .returned (.agg (dg z32)) ∧ Below w.heap.size w w' := by
  go_enter Tryd.func17, Tryd.ntmps17
  go_wp2_with ((with_reducible show wpList _ _ _ (⟨some 2, Op.alloc _, _, _, _, _⟩ :: _) _ _); refine Hid.out ?_)
  refine hide ?_
  refine zallocK rfl 28 rfl _ zzeroDig ?_
  intro w2 hg2 hw2 hs2
  have hB2 : Below w.heap.size w w2 := below_grown (Below.refl _ _) hw2 (Nat.le_refl _) (by intro k e; cases e)
  have hol : z32.length = 32 := rfl
  have hz2 := zlt hg2
  clear hw2 hs2
  go_wp2_with (first
    | ((with_reducible show wpList _ _ _ (⟨some 11, _, _, _, _, _⟩ :: _) _ _); refine wpList_load_row rfl _ _ rfl w.heap.size rfl _ (dg z32) _ _ hg2 Tryd.underlying28 rfl (by rw [dg_size, hol]; exact zsizeDig) ?_)
    | ((with_reducible show wpList _ _ _ (⟨none, Op.store _ _ _, _, _, _, _⟩ :: _) _ _); refine law_store rfl _ _ _ rfl w.heap.size (dg z32) rfl rfl _ (dg z32) hg2 (by rw [dg_size, hol]; exact zsizeDig) rfl (dg_one _) ?_; intro w9 hd9 hw9))
  refine bodyPost_ret (results_cell_row rfl _ _ w.heap.size _ _ _ _ rfl hd9.out Tryd.underlying28 rfl (by rw [dg_size, hol]; exact zsizeDig)) rfl ⟨rfl, ?_⟩
  exact below_grown hB2 hw9 (by omega) (by intro k e; cases e; exact Nat.le_refl _)
theorem copy_nil (w : World) : Calls Tryd.prog 19 #[.pointer none] w fun e w' => e = .returned (.pointer none) ∧ w = w' := by
  go_enter Tryd.func19, Tryd.ntmps19
  go_wp2
  go_ret
  exact ⟨rfl, rfl⟩

theorem hash_copy (w : World) (hb : Nat) (K : List W) (F : S8) (t : List UInt8) (h : IsHash w hb K F t) (h2 : 1 < w.heap.size) :
    Calls Tryd.prog 19 #[.pointer (some ⟨hb, 0, none⟩)] w fun e w' => e = .returned (.pointer (some ⟨w.heap.size, 0, none⟩)) ∧ IsHash w' w.heap.size K F t ∧ Below w.heap.size w w' := by
  have hh := h.2
  have H := hide h
  clear h
  go_enter Tryd.func19, Tryd.ntmps19
  go_wp2_with ((with_reducible show wpList _ _ _ (⟨some 8, Op.load _ _, _, _, _, _⟩ :: _) _ _); refine Hid.out ?_)
  refine hide ?_
  refine wpList_load_row rfl 62 _ rfl hb rfl _ _ _ _ hh Tryd.underlying62 rfl (by rw [hcells_size]; exact sizeHash) ?_
  go_wp2_with ((with_reducible show wpList _ _ _ (⟨some 3, Op.alloc _, _, _, _, _⟩ :: _) _ _); refine Hid.out ?_)
  refine hide ?_
  refine zallocK rfl 62 rfl _ zeroHash ?_
  intro w3 hg3 hw3 hs3
  go_wp2_with ((with_reducible show wpList _ _ _ (⟨none, Op.store _ _ _, _, _, _, _⟩ :: _) _ _); refine Hid.out ?_)
  refine hide ?_
  refine law_store rfl _ _ _ rfl w.heap.size _ rfl rfl _ _ hg3 (by rw [hcells_size]; exact sizeHash) (by rw [hcells_size, hcells_size]) (hcells_one _ _ _) ?_
  intro w4 hg4' hw4
  have hB3 : Below w.heap.size w w3 := below_grown (Below.refl _ _) hw3 (Nat.le_refl _) (by intro k e; cases e)
  have hB4 : Below w.heap.size w w4 := below_grown hB3 hw4 hB3.size (by intro k e; cases e; exact Nat.le_refl _)
  go_wp2
  go_ret
  exact ⟨rfl, ⟨h2, hg4'.out⟩, hB4⟩
end Go.Proofs.YtpkgmoiffegbfaaDoor
