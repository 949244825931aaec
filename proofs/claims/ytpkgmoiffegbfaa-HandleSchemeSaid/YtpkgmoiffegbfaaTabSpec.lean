/- A table of commitments, in plain Lean: what it holds, by which digest, and what it answers. No condition. -/
import Derived.Test.YtpkgmoiffegbfaaHandB
namespace Go.Proofs.Ytpkgmoiffegbfaa
set_option maxRecDepth 100000
open Go.RowKit

/-- What a commitment is of. -/
structure Sl where
  r : Int
  c : Int
  b : Int
  n : Int
  deriving DecidableEq
def Sl.cells (x : Sl) : Array Value := #[.int .i64 x.r, .int .i64 x.c, .int .u64 x.b, .int .u64 x.n]
theorem Sl.cells_size (x : Sl) : x.cells.size = 4 := rfl
def Sl.same (x y : Sl) : Bool := decide (x = y)

theorem val_be : ∀ (w n : Nat), val (be w n) = n % 256 ^ w
  | 0, n => by simp [be, val, Nat.mod_one]
  | w + 1, n => by
    rw [be, val_snoc, val_be w, UInt8.toNat_ofNat']
    have h := Nat.mod_mul (x := n) (a := 256) (b := 256 ^ w)
    rw [show 256 ^ (w + 1) = 256 * 256 ^ w from Nat.pow_succ', h]
    generalize n / 256 % 256 ^ w = q
    omega
theorem hd_take (n : Nat) : (hd n).take 8 = be 8 n := by
  unfold hd
  rw [List.take_append_of_le_length (by rw [be_length]; exact Nat.le_refl _), List.take_of_length_le (by rw [be_length]; exact Nat.le_refl _)]
theorem val_hd (n : Nat) (h : n < 18446744073709551616) : val ((hd n).take 8) = n := by
  rw [hd_take, val_be]
  exact Nat.mod_eq_of_lt h
theorem hd_inj {a b : Nat} (ha : a < 18446744073709551616) (hb : b < 18446744073709551616) (h : hd a = hd b) : a = b := by
  rw [← val_hd a ha, ← val_hd b hb, h]

/-- A table's entries: the i-th commitment at the digest of the handle i + 1. -/
def entsFrom (i : Nat) : List Sl → List MapEntry
  | [] => []
  | x :: L => { key := .agg (dg (hd (i + 1))), val := .agg x.cells, born := i } :: entsFrom (i + 1) L
theorem entsFrom_length : ∀ (i : Nat) (L : List Sl), (entsFrom i L).length = L.length
  | _, [] => rfl
  | i, x :: L => by simp [entsFrom, entsFrom_length (i + 1) L]
theorem entsFrom_snoc : ∀ (i : Nat) (L : List Sl) (x : Sl), entsFrom i (L ++ [x]) = entsFrom i L ++ [{ key := .agg (dg (hd (i + L.length + 1))), val := .agg x.cells, born := i + L.length }]
  | i, [], x => by simp [entsFrom]
  | i, y :: L, x => by
    simp only [List.cons_append, entsFrom, entsFrom_snoc (i + 1) L x, List.length_cons]
    simp only [show i + 1 + L.length = i + (L.length + 1) by omega]
theorem entsFrom_keys : ∀ (i : Nat) (L : List Sl), DigKeys (entsFrom i L)
  | _, [] => by intro e he; simp [entsFrom] at he
  | i, x :: L => by
    intro e he
    simp only [entsFrom, List.mem_cons] at he
    rcases he with rfl | he
    · exact ⟨_, rfl, isDig_dg (hd_length _)⟩
    · exact entsFrom_keys (i + 1) L e he

/-- What is kept at a digest. -/
def look (d : List UInt8) : Nat → List Sl → Option Sl
  | _, [] => none
  | i, x :: L => if d = hd (i + 1) then some x else look d (i + 1) L
theorem findDg_ents (d : List UInt8) : ∀ (i : Nat) (L : List Sl), findDg (dg d) (entsFrom i L) = (look d i L).map fun x => .agg x.cells
  | _, [] => rfl
  | i, x :: L => by
    simp only [entsFrom, findDg, digEq_dg, look]
    by_cases h : d = hd (i + 1)
    · simp [h]
    · simp [h, findDg_ents d (i + 1) L]
theorem look_none {d : List UInt8} : ∀ (i : Nat) (L : List Sl), (∀ k, i < k → k ≤ i + L.length → d ≠ hd k) → look d i L = none
  | _, [], _ => rfl
  | i, x :: L, h => by
    rw [look, if_neg (h (i + 1) (by omega) (by simp))]
    exact look_none (i + 1) L (fun k h1 h2 => h k (by omega) (by simp at h2 ⊢; omega))
theorem look_hd : ∀ (i : Nat) (L : List Sl) (k : Nat), i + L.length < 18446744073709551616 → k < L.length → look (hd (i + k + 1)) i L = L[k]?
  | i, [], k, _, hk => by simp at hk
  | i, x :: L, k, hb, hk => by
    cases k with
    | zero => simp [look]
    | succ k =>
      simp only [List.length_cons] at hb hk
      have hne : hd (i + (k + 1) + 1) ≠ hd (i + 1) := fun e => by
        have := hd_inj (by omega) (by omega) e
        omega
      rw [look, if_neg hne, show i + (k + 1) + 1 = (i + 1) + k + 1 by omega, look_hd (i + 1) L k (by omega) (by omega)]
      simp

/-- Does a digest open something? -/
def opensF (L : List Sl) (d : List UInt8) (x : Sl) : Bool :=
  match look d 0 L with
  | some y => y.same x
  | none => false

/-- A table in memory: its block, its map's, and what was committed. -/
structure IsTable (w : World) (tb mb : Nat) (L : List Sl) : Prop where
  tab : w.heap[tb]? = some (.cells #[.map (some mb)] 85 (0, 0))
  map : w.heap[mb]? = some (.map (entsFrom 0 L).toArray L.length)

theorem IsTable.below {w w' : World} {_B tb mb : Nat} {L : List Sl} (h : IsTable w tb mb L) (hb : Below w.heap.size w w') : IsTable w' tb mb L :=
  ⟨below_at hb h.tab (Array.getElem?_eq_some_iff.1 h.tab).1, below_at hb h.map (Array.getElem?_eq_some_iff.1 h.map).1⟩
end Go.Proofs.Ytpkgmoiffegbfaa
