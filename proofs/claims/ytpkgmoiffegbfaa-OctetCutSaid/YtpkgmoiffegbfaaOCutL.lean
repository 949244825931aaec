/- Layer 16, plain laws: a reader of a row that is cut: it stands where it would stand, or is bad. No program in sight but the kit's words. -/
import Derived.Test.YtpkgmoiffegbfaaOBack
namespace Go.Proofs.Ytpkgmoiffegbfaa
open Go.RowKit

/-- Where a reader of a cut row may stand behind j parts. -/
def Cutting (s : ByteArray) (qs : List Pt) (j a : Nat) (bad : Bool) : Prop := a ≤ s.size ∧ (bad = false → a = (rowL (qs.take j)).length)
theorem rowL_next (qs : List Pt) (j : Nat) (p : Pt) (h : qs[j]? = some p) : (rowL (qs.take (j + 1))).length = (rowL (qs.take j)).length + p.bytes.length := by
  rw [rowL_snoc qs j p h, List.length_append]
theorem cut_num (s : ByteArray) (qs : List Pt) (j a : Nat) (bad : Bool) (p : Pt) (hp : qs[j]? = some p) (hb : p.b = false) (h : Cutting s qs j a bad) :
    Cutting s qs (j + 1) (numS s a bad ((1 + p.wd % 8 : Nat) : Int)).2.1 (numS s a bad ((1 + p.wd % 8 : Nat) : Int)).2.2 := by
  have hle := numS_le s a bad ((1 + p.wd % 8 : Nat) : Int) h.1
  refine ⟨hle, fun hf => ?_⟩
  have hlen : p.bytes.length = 1 + p.wd % 8 := by unfold Pt.bytes; rw [hb]; simp [be_length]
  rw [rowL_next qs j p hp, hlen]
  unfold numS at hf ⊢
  split at hf
  · cases hf
  · rename_i hn
    rw [if_neg hn]
    have hbad : bad = false := by cases bad <;> simp_all
    rw [h.2 hbad]
    show _ + ((1 + p.wd % 8 : Nat) : Int).toNat = _
    rw [Int.toNat_natCast]
theorem cut_text (s : ByteArray) (qs : List Pt) (j a k : Nat) (bad : Bool) (p : Pt) (hp : qs[j]? = some p) (hb : p.b = true) (hok : p.t.size ≤ 300) (hs : s.data.toList = (rowL qs).take k) (h : Cutting s qs j a bad) :
    Cutting s qs (j + 1) (textS s a bad).2.1 (textS s a bad).2.2 := by
  have hle := textS_le s a bad h.1
  refine ⟨hle, fun hf => ?_⟩
  have hby : p.bytes = be 2 p.t.size ++ p.t.data.toList := by unfold Pt.bytes; rw [hb]; rfl
  have hlen : p.bytes.length = 2 + p.t.size := by rw [hby, List.length_append, be_length, ← size_list]
  rw [rowL_next qs j p hp, hlen]
  have hbad : bad = false := by
    cases bad with
    | false => rfl
    | true => rw [textS_bad] at hf; cases hf
  subst hbad
  have ha := h.2 rfl
  have hv : ¬ ((s.size : Int) - a < 2) → val ((s.data.toList.drop a).take 2) = p.t.size := by
    intro hn
    have h1 := rowL_snoc qs j p hp
    have h2 : rowL qs = rowL (qs.take (j + 1)) ++ rowL (qs.drop (j + 1)) := by
      conv => lhs; rw [← List.take_append_drop (j + 1) qs]
      unfold rowL
      rw [List.flatMap_append]
    have h3 : rowL qs = rowL (qs.take j) ++ (be 2 p.t.size ++ (p.t.data.toList ++ rowL (qs.drop (j + 1)))) := by
      rw [h2, h1, hby, List.append_assoc, List.append_assoc]
    have hsz : s.size ≤ k := by rw [size_list, hs, List.length_take]; omega
    have h4 : (s.data.toList.drop a).take 2 = be 2 p.t.size := by
      rw [hs, List.drop_take, List.take_take, Nat.min_eq_left (by omega), h3, drop_here _ _ a ha.symm]
      exact take_here _ _ 2 (be_length 2 _)
    rw [h4]
    exact val_be 2 _ (by show _ < 65536; omega)
  unfold textS at hf ⊢
  split at hf
  · cases hf
  · rename_i hn
    rw [if_neg hn]
    have hv' := hv (fun h => hn (.inr h))
    split at hf
    · cases hf
    · rename_i hn2
      rw [if_neg hn2]
      show a + 2 + val ((s.data.toList.drop a).take 2) = _
      rw [hv', ha]
      omega
/-- At the row's end it is bad, if something was cut. -/
theorem cut_bad (s : ByteArray) (qs : List Pt) (a : Nat) (bad : Bool) (h : Cutting s qs qs.length a bad) (hs : s.size < (rowL qs).length) : bad = true := by
  cases bad with
  | true => rfl
  | false =>
    have := h.2 rfl
    rw [List.take_length] at this
    have := h.1
    omega
end Go.Proofs.Ytpkgmoiffegbfaa
