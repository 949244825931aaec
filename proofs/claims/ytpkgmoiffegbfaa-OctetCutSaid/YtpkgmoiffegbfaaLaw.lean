/- Layer 16: plain laws of numbers' bytes: they are read back, and ordered as the numbers are. No condition. -/
import Derived.Test.YtpkgmoiffegbfaaGet
namespace Go.Proofs.Ytpkgmoiffegbfaa

/-- A text, and a number behind it. -/
def putN (s : ByteArray) (n : Int) (k : Nat) : ByteArray := ⟨(s.data.toList ++ be k n.toNat).toArray⟩

theorem val_be : ∀ (k n : Nat), n < 256 ^ k → val (be k n) = n
  | 0, n, h => by
    have : n = 0 := by simpa using h
    subst this
    rfl
  | k + 1, n, h => by
    have h1 : n / 256 < 256 ^ k := by
      rw [Nat.div_lt_iff_lt_mul (by decide)]
      rwa [Nat.pow_succ] at h
    simp only [be]
    rw [val_snoc, val_be k _ h1, UInt8.toNat_ofNat']
    omega

theorem be_inj {k m n : Nat} (hm : m < 256 ^ k) (hn : n < 256 ^ k) (h : be k m = be k n) : m = n := by
  rw [← val_be k m hm, ← val_be k n hn, h]

theorem less_same : ∀ (l x y : List UInt8), Op.bytesLess (l ++ x) (l ++ y) = Op.bytesLess x y
  | [], _, _ => rfl
  | a :: l, x, y => by
    have h : Op.bytesLess (a :: (l ++ x)) (a :: (l ++ y)) = (a < a || (a == a && Op.bytesLess (l ++ x) (l ++ y))) := rfl
    rw [List.cons_append, List.cons_append, h, less_same l x y]
    simp

theorem less_snoc : ∀ (l m : List UInt8) (a b : UInt8), l.length = m.length → Op.bytesLess (l ++ [a]) (m ++ [b]) = (Op.bytesLess l m || (l == m && decide (a < b)))
  | [], [], a, b, _ => by
    have h : Op.bytesLess [a] [b] = (a < b || (a == b && Op.bytesLess [] [])) := rfl
    simp [h, Op.bytesLess]
  | [], _ :: _, _, _, h => by simp at h
  | _ :: _, [], _, _, h => by simp at h
  | x :: l, y :: m, a, b, h => by
    have e1 : Op.bytesLess (x :: (l ++ [a])) (y :: (m ++ [b])) = (x < y || (x == y && Op.bytesLess (l ++ [a]) (m ++ [b]))) := rfl
    have e2 : Op.bytesLess (x :: l) (y :: m) = (x < y || (x == y && Op.bytesLess l m)) := rfl
    rw [List.cons_append, List.cons_append, e1, e2, less_snoc l m a b (by simpa using h)]
    have e3 : (x :: l == y :: m) = (x == y && l == m) := rfl
    rw [e3]
    cases decide (x < y) <;> cases (x == y) <;> cases Op.bytesLess l m <;> simp

theorem less_be : ∀ (k m n : Nat), m < 256 ^ k → n < 256 ^ k → Op.bytesLess (be k m) (be k n) = decide (m < n)
  | 0, m, n, hm, hn => by
    have : m = 0 := by simpa using hm
    have : n = 0 := by simpa using hn
    subst m; subst n
    rfl
  | k + 1, m, n, hm, hn => by
    have h1 : m / 256 < 256 ^ k := by
      rw [Nat.div_lt_iff_lt_mul (by decide)]
      rwa [Nat.pow_succ] at hm
    have h2 : n / 256 < 256 ^ k := by
      rw [Nat.div_lt_iff_lt_mul (by decide)]
      rwa [Nat.pow_succ] at hn
    simp only [be]
    rw [less_snoc _ _ _ _ (by rw [be_length, be_length]), less_be k _ _ h1 h2]
    have e : (be k (m / 256) == be k (n / 256)) = decide (m / 256 = n / 256) := by
      rw [Bool.eq_iff_iff]
      simp only [beq_iff_eq, decide_eq_true_eq]
      exact ⟨be_inj h1 h2, fun h => by rw [h]⟩
    rw [e]
    have e4 : decide (UInt8.ofNat (m % 256) < UInt8.ofNat (n % 256)) = decide (m % 256 < n % 256) := by
      rw [Bool.eq_iff_iff]
      simp only [decide_eq_true_eq, UInt8.lt_iff_toNat_lt, UInt8.toNat_ofNat']
      omega
    rw [e4, Bool.eq_iff_iff]
    simp only [Bool.or_eq_true, Bool.and_eq_true, decide_eq_true_eq]
    omega

theorem putN_size (s : ByteArray) (n : Int) (k : Nat) : (putN s n k).size = s.size + k := by
  show ((s.data.toList ++ be k n.toNat).toArray).size = _
  rw [List.size_toArray, List.length_append, be_length, Array.length_toList]
  rfl
theorem putN_list (s : ByteArray) (n : Int) (k : Nat) : (putN s n k).toList = s.data.toList ++ be k n.toNat := by
  rw [ByteArray.toList_eq]
  rfl
theorem putN_head (s : ByteArray) (n : Int) (k : Nat) : (putN s n k).extract 0 s.size = s := by
  apply ByteArray.ext
  rw [ByteArray.data_extract]
  apply Array.ext'
  rw [Array.toList_extract, List.extract_eq_take_drop]
  show List.take (s.size - 0) (List.drop 0 (s.data.toList ++ be k n.toNat)) = _
  rw [List.drop_zero, Nat.sub_zero, List.take_append_of_le_length (by rw [Array.length_toList]; exact Nat.le_refl _), List.take_of_length_le (by rw [Array.length_toList]; exact Nat.le_refl _)]
theorem putN_back (s : ByteArray) (n : Int) (k : Nat) (hn : n.toNat < 256 ^ k) : val (((putN s n k).data.toList.drop s.size).take k) = n.toNat := by
  have e : (putN s n k).data.toList = s.data.toList ++ be k n.toNat := rfl
  rw [e, List.drop_append_of_le_length (by rw [Array.length_toList]; exact Nat.le_refl _), List.drop_of_length_le (by rw [Array.length_toList]; exact Nat.le_refl _), List.nil_append, List.take_of_length_le (by rw [be_length]; exact Nat.le_refl _)]
  exact val_be k _ hn
theorem putN_less (s : ByteArray) (m n : Int) (k : Nat) (hm0 : 0 ≤ m) (hn0 : 0 ≤ n) (hm : m.toNat < 256 ^ k) (hn : n.toNat < 256 ^ k) : Op.bytesLess (putN s m k).toList (putN s n k).toList = decide (m < n) := by
  rw [putN_list, putN_list, less_same, less_be k _ _ hm hn, Bool.eq_iff_iff]
  simp only [decide_eq_true_eq]
  omega
theorem putN_same (s : ByteArray) (m n : Int) (k : Nat) (hm0 : 0 ≤ m) (hn0 : 0 ≤ n) (hm : m.toNat < 256 ^ k) (hn : n.toNat < 256 ^ k) : ((putN s m k).toList == (putN s n k).toList) = (m == n) := by
  rw [putN_list, putN_list, Bool.eq_iff_iff]
  simp only [beq_iff_eq, List.append_cancel_left_eq]
  exact ⟨fun h => by have := be_inj hm hn h; omega, fun h => by rw [h]⟩
end Go.Proofs.Ytpkgmoiffegbfaa
