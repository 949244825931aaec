/- Layer 16: plain laws for rows of numbers and texts: what was put at a place is read there. No condition. -/
import Derived.Test.YtpkgmoiffegbfaaReader2
namespace Go.Proofs.Ytpkgmoiffegbfaa

theorem drop_here {α : Type} (A B : List α) (a : Nat) (h : A.length = a) : (A ++ B).drop a = B := by
  subst h
  rw [List.drop_append_of_le_length (Nat.le_refl _), List.drop_length, List.nil_append]
theorem take_here {α : Type} (A B : List α) (a : Nat) (h : A.length = a) : (A ++ B).take a = A := by
  subst h
  rw [List.take_append_of_le_length (Nat.le_refl _), List.take_length]
theorem size_list (s : ByteArray) : s.size = s.data.toList.length := by rw [Array.length_toList]; rfl

theorem numS_at (s : ByteArray) (A B : List UInt8) (a k n : Nat) (hs : s.data.toList = A ++ (be k n ++ B)) (ha : A.length = a) (h1 : 1 ≤ k) (h8 : k ≤ 8) (hn : n < 256 ^ k) : numS s a false k = (n, a + k, false) := by
  have hsz : s.size = a + (k + B.length) := by rw [size_list, hs, List.length_append, List.length_append, be_length, ha]
  unfold numS
  rw [if_neg (by simp; omega), hs, drop_here A _ a ha, Int.toNat_natCast, take_here _ _ k (be_length k n), val_be k n hn]
theorem textS_at (s t : ByteArray) (A B : List UInt8) (a : Nat) (hs : s.data.toList = A ++ (be 2 t.size ++ (t.data.toList ++ B))) (ha : A.length = a) (ht : t.size ≤ 65535) : textS s a false = (t, a + 2 + t.size, false) := by
  have hsz : s.size = a + (2 + (t.size + B.length)) := by rw [size_list, hs, List.length_append, List.length_append, List.length_append, be_length, ha, ← size_list]
  have hv : val ((s.data.toList.drop a).take 2) = t.size := by
    rw [hs, drop_here A _ a ha, take_here _ _ 2 (be_length 2 _)]
    exact val_be 2 _ (by show _ < 65536; omega)
  unfold textS
  rw [if_neg (by simp; omega), hv, if_neg (by omega)]
  have e : s.extract (a + 2) (a + 2 + t.size) = t := by
    apply ByteArray.ext
    rw [ByteArray.data_extract]
    apply Array.ext'
    rw [Array.toList_extract, List.extract_eq_take_drop, hs]
    have h2 : (A ++ (be 2 t.size ++ (t.data.toList ++ B))).drop (a + 2) = t.data.toList ++ B := by
      rw [← List.append_assoc]
      exact drop_here _ _ _ (by rw [List.length_append, be_length, ha])
    rw [h2, show a + 2 + t.size - (a + 2) = t.size from by omega]
    exact take_here _ _ _ (size_list t).symm
  rw [e]

/-- Where a row is cut within a number, the step is bad. -/
theorem numS_cut (s : ByteArray) (a k : Nat) (h : s.size < a + k) : numS s a false k = (0, a, true) := by
  unfold numS
  rw [if_pos (by right; right; right; omega)]
theorem numS_bad (s : ByteArray) (a : Nat) (n : Int) : numS s a true n = (0, a, true) := if_pos (.inl rfl)
theorem textS_bad (s : ByteArray) (a : Nat) : textS s a true = (⟨#[]⟩, a, true) := if_pos (.inl rfl)
end Go.Proofs.Ytpkgmoiffegbfaa
