/- Layer 23, plain laws: the counts of a row do not turn with its order; together they are all. No program in sight but the kit's words. -/
import Derived.Test.YtohnagmkbjdlmaaStaysL
namespace Go.Proofs.Ytohnagmkbjdlmaa
open Go.RowKit

theorem ext8 {a b : List Nat} (ha : a.length = 8) (hb : b.length = 8) (h : ∀ c, c < 8 → a.getD c 0 = b.getD c 0) : a = b := by
  apply List.ext_getElem (by rw [ha, hb])
  intro i h1 h2
  have := h i (by omega)
  rwa [List.getD, List.getElem?_eq_getElem h1, List.getD, List.getElem?_eq_getElem h2, Option.getD_some, Option.getD_some] at this
theorem cnt_rot (l : List Nat) (k : Nat) : cnt (l.drop k ++ l.take k) = cnt l := by
  refine ext8 (cnt_length _) (cnt_length _) fun c hc => ?_
  rw [cnt_at _ c hc, cnt_at _ c hc, List.filter_append, List.length_append]
  conv => rhs; rw [← List.take_append_drop k l, List.filter_append, List.length_append]
  omega
theorem sum_bump (cs : List Nat) (x : Nat) (h : cs.length = 8) : (bump cs x).sum = cs.sum + 1 := by
  have hx : x % 8 < 8 := Nat.mod_lt _ (by decide)
  unfold bump
  match cs, h with
  | [a, b, c, d, e, f, g, i], _ =>
    generalize x % 8 = r at hx
    match r, hx with
    | 0, _ | 1, _ | 2, _ | 3, _ | 4, _ | 5, _ | 6, _ | 7, _ => simp [List.getD] <;> omega
theorem cnt_sum (l : List Nat) : (cnt l).sum = l.length := by
  unfold cnt
  suffices h : ∀ cs : List Nat, cs.length = 8 → (l.foldl bump cs).sum = cs.sum + l.length by
    have := h (List.replicate 8 0) rfl
    simpa using this
  induction l with
  | nil => intro cs _; simp
  | cons x l ih =>
    intro cs h
    rw [List.foldl_cons, ih _ (by rw [bump_length, h]), sum_bump cs x h, List.length_cons]
    omega
/-- How many of the first i are of a carrier. -/
def seen (l : List Nat) (c i : Nat) : Nat := ((l.take i).filter fun x => x % 8 = c).length
theorem seen_zero (l : List Nat) (c : Nat) : seen l c 0 = 0 := by simp [seen]
theorem seen_succ (l : List Nat) (c i : Nat) (h : i < l.length) : seen l c (i + 1) = seen l c i + if l[i] % 8 = c then 1 else 0 := by
  unfold seen
  rw [List.take_succ_eq_append_getElem h, List.filter_append, List.length_append]
  congr 1
  by_cases e : l[i] % 8 = c <;> simp [e]
theorem seen_all (l : List Nat) (c : Nat) (hc : c < 8) : seen l c l.length = (cnt l).getD c 0 := by
  unfold seen
  rw [List.take_length, cnt_at l c hc]
theorem seen_le (l : List Nat) (c i : Nat) : seen l c i ≤ i := by
  unfold seen
  exact Nat.le_trans (List.length_filter_le _ _) (List.length_take_le _ _)
def encB (x : Nat) : Value := .int .u8 (x : Int)
end Go.Proofs.Ytohnagmkbjdlmaa
