/- Sums of 256 bits in plain Lean: what a block does to eight words. No condition. -/
import Derived.Test.YtpkgmoiffegbfaaDoorZKit
namespace Go.Proofs.YtpkgmoiffegbfaaDoor
open Go.RowKit
set_option maxRecDepth 20000

/-- Four bytes as a word. -/
def packW (l : List UInt8) : W := l.foldl (fun x c => x <<< 8 ||| BitVec.ofNat 32 c.toNat) 0
/-- The words of a block, the last one first. -/
def sched (bs : List UInt8) : Nat → List W
  | 0 => []
  | t + 1 => (if t < 16 then packW ((bs.drop (4 * t)).take 4)
      else parts ((sched bs t).getD 1 0) 17 19 10 + (sched bs t).getD 6 0 + parts ((sched bs t).getD 14 0) 7 18 3 + (sched bs t).getD 15 0) :: sched bs t
theorem sched_length (bs : List UInt8) : ∀ t, (sched bs t).length = t
  | 0 => rfl
  | t + 1 => by rw [sched, List.length_cons, sched_length bs t]
theorem sched_early (bs : List UInt8) (t : Nat) (h : t < 16) : sched bs (t + 1) = packW ((bs.drop (4 * t)).take 4) :: sched bs t := by rw [sched, if_pos h]
theorem sched_late (bs : List UInt8) (t : Nat) (h : ¬ t < 16) : sched bs (t + 1) = (parts ((sched bs t).getD 1 0) 17 19 10 + (sched bs t).getD 6 0 + parts ((sched bs t).getD 14 0) 7 18 3 + (sched bs t).getD 15 0) :: sched bs t := by rw [sched, if_neg h]
/-- The array meanwhile. -/
def arr (bs : List UInt8) (t : Nat) : List W := (sched bs t).reverse ++ List.replicate (64 - t) 0
theorem arr_length (bs : List UInt8) (t : Nat) (h : t ≤ 64) : (arr bs t).length = 64 := by simp [arr, sched_length]; omega
theorem arr_zero (bs : List UInt8) : arr bs 0 = List.replicate 64 0 := rfl
theorem arr_succ (bs : List UInt8) (t : Nat) (h : t < 64) (x : W) (hx : sched bs (t + 1) = x :: sched bs t) : arr bs (t + 1) = (arr bs t).set t x := by
  have hl := sched_length bs t
  rw [arr, arr, hx, List.reverse_cons, List.append_assoc, List.set_append_right _ _ (by simp [hl])]
  congr 1
  rw [List.length_reverse, hl, Nat.sub_self, show 64 - t = (64 - (t + 1)) + 1 by omega, List.replicate_succ, List.set_cons_zero]
  rfl
theorem arr_at (bs : List UInt8) (t i : Nat) (hi : i < t) (_h : t ≤ 64) : (arr bs t)[t - 1 - i]? = some ((sched bs t).getD i 0) := by
  have hl := sched_length bs t
  rw [arr, List.getElem?_append_left (by simp [hl]; omega), List.getElem?_reverse (by omega), hl, show t - 1 - (t - 1 - i) = i by omega]
  rw [List.getD_eq_getElem?_getD, List.getElem?_eq_getElem (by omega)]
  rfl
theorem arr_self (bs : List UInt8) (t : Nat) (h : t < 64) : (arr bs t)[t]? = some 0 := by
  have hl := sched_length bs t
  rw [arr, List.getElem?_append_right (by simp [hl]), List.length_reverse, hl, Nat.sub_self]
  rw [List.getElem?_replicate, if_pos (by omega)]

/-- Eight words. -/
structure S8 where
  a : W
  b : W
  c : W
  d : W
  e : W
  f : W
  g : W
  h : W
def S8.list (s : S8) : List W := [s.a, s.b, s.c, s.d, s.e, s.f, s.g, s.h]
def S8.add (s x : S8) : S8 := ⟨s.a + x.a, s.b + x.b, s.c + x.c, s.d + x.d, s.e + x.e, s.f + x.f, s.g + x.g, s.h + x.h⟩
/-- One round. -/
def one (s : S8) (k w : W) : W := s.h + rights s.e 6 11 25 + (s.g ^^^ (s.e &&& (s.f ^^^ s.g))) + k + w
def two (s : S8) : W := rights s.a 2 13 22 + (s.a &&& s.b ||| s.c &&& (s.a ||| s.b))
def rnd (s : S8) (k w : W) : S8 := ⟨one s k w + two s, s.a, s.b, s.c, s.d + one s k w, s.e, s.f, s.g⟩
def rounds8 (K ws : List W) (s : S8) : Nat → S8
  | 0 => s
  | t + 1 => rnd (rounds8 K ws s t) (K.getD t 0) (ws.getD t 0)
/-- The state behind a block. -/
def comp (K : List W) (s : S8) (bs : List UInt8) : S8 := s.add (rounds8 K (arr bs 64) s 64)
end Go.Proofs.YtpkgmoiffegbfaaDoor
