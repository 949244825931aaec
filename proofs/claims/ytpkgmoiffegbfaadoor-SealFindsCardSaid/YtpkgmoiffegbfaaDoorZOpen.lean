/- Layers 15 and 19: what came in, opened. No condition. -/
import Derived.Test.YtpkgmoiffegbfaaDoorZLaid
import Derived.Deep.Slices
namespace Go.Proofs.YtpkgmoiffegbfaaDoor
open Go.ChangeShapes Go.WideShapes Go.ChangeAt Go.RowKit Go.Deep

/-- A sealed thing. -/
structure Se where
  r : Int
  c : Int
  b : Int
  n : Int
  deriving DecidableEq
def Se.cells (x : Se) : List Value := [.int .i64 x.r, .int .i64 x.c, .int .u64 x.b, .int .u64 x.n]
def Se.Ok (x : Se) : Prop := (-9223372036854775808 ≤ x.r ∧ x.r ≤ 9223372036854775807) ∧ (-9223372036854775808 ≤ x.c ∧ x.c ≤ 9223372036854775807) ∧ (0 ≤ x.b ∧ x.b ≤ 18446744073709551615) ∧ (0 ≤ x.n ∧ x.n ≤ 18446744073709551615)
/-- What is done with a hash. -/
structure Ac where
  what : Nat
  text : ByteArray
def Ac.cells (x : Ac) : List Value := [.int .u8 x.what, .string x.text]
def Ac.Ok (x : Ac) : Prop := x.what < 256 ∧ x.text.size ≤ 140737488351232
/-- Rows of things as they lie in memory. -/
def RowsAt {α : Type} (V : World) (b off k : Nat) (f : α → List Value) (ls : List α) : Prop := ∀ q x, ls[q]? = some x → ∀ i u, (f x)[i]? = some u → V.cell? ⟨b, off + q * k + i, none⟩ = some u

theorem zlist_of {α : Type} (Q : Nat → α → Prop) : ∀ n, (∀ i, i < n → ∃ p, Q i p) → ∃ ps : List α, ps.length = n ∧ ∀ i p, ps[i]? = some p → Q i p
  | 0, _ => ⟨[], rfl, fun i p h => by simp at h⟩
  | n + 1, h => by
    obtain ⟨ps, hl, hq⟩ := zlist_of Q n (fun i hi => h i (by omega))
    obtain ⟨p, hp⟩ := h n (by omega)
    refine ⟨ps ++ [p], by simp [hl], fun i q hi => ?_⟩
    by_cases hin : i < ps.length
    · rw [List.getElem?_append_left hin] at hi
      exact hq i q hi
    · have hlt := (List.getElem?_eq_some_iff.1 hi).1
      rw [List.length_append, List.length_singleton] at hlt
      obtain rfl : i = n := by omega
      rw [List.getElem?_append_right (by omega), hl, Nat.sub_self] at hi
      simp at hi
      subst hi
      exact hp
theorem zadd (b off j : Nat) : (⟨b, off, none⟩ : Addr).add j = ⟨b, off + j, none⟩ := by unfold Addr.add; split <;> simp_all

section
variable {H : Type} {enc : TypeId × Value → H} {V : World} {base : Nat} {held : Bool} {r : Reach} {b0 : Nat} {v : Value} {d : DataW H} {pl : List MemPlace}
/-- A row of things that came in. -/
theorem zopen_rows {α : Type} {T E : TypeId} {k : Nat} (hk : 0 < k) (hT : Tryd.prog.underlying T = some (.slice E)) (hE : Tryd.prog.cellsOf E = k) (f : α → List Value) (P : α → Prop) (hfk : ∀ x, (f x).length = k)
    (hf : ∀ (m : Nat) (cs : List Value) (y : DataW H × List MemPlace), cs.length = k → DataW.trod enc Tryd.prog V base (fun _ => true) held m E cs = some y → ∃ x, cs = f x ∧ P x)
    (hval : Value.okWide Tryd.prog V r b0 T v) (hd : DataW.Trod enc Tryd.prog V base (fun _ => true) held T v d pl) :
    ∃ (aa : Option Addr) (cap : Nat) (ls : List α), v = .slice aa ls.length cap ∧ ls.length ≤ 9223372036854775807 ∧ ls.length ≤ cap ∧ (∀ x ∈ ls, P x) ∧ (0 < ls.length → ∃ b off, aa = some ⟨b, off, none⟩ ∧ b < V.heap.size ∧ RowsAt V b off k f ls) := by
  obtain ⟨a1, len1, cap1, rfl⟩ := okWide_slice hT hval
  obtain ⟨fuel, hf'⟩ := hd
  rcases open_slice hT hf' with ⟨hcs, _⟩ | ⟨x, l, c, m, n, D, Pl, hcs, _, hl, hm, hmm, _, hi⟩
  · simp [Value.cells] at hcs
    obtain ⟨rfl, rfl, rfl⟩ := hcs
    exact ⟨none, 0, [], rfl, by simp, Nat.le_refl _, by simp, fun h => by simp at h⟩
  · simp [Value.cells] at hcs
    obtain ⟨rfl, rfl, rfl⟩ := hcs
    have hmc : m = cap1 := by simpa using hmm
    subst hmc
    rw [hE] at hi
    have key : ∀ i, i < len1 → ∃ y : α, P y ∧ ∀ j u, (f y)[j]? = some u → V.cell? (x.add (i * k + j)) = some u := by
      intro i hil
      obtain ⟨cs', hc, ht⟩ := hi i (by omega)
      obtain ⟨_, hcl, hat⟩ := World.cells?_some hc
      obtain ⟨y, rfl, hp⟩ := hf _ cs' _ hcl ht
      refine ⟨y, hp, fun j u hu => ?_⟩
      have hj : j < k := by rw [← hfk y]; exact (List.getElem?_eq_some_iff.1 hu).1
      rw [← add_add, hat j hj]
      exact hu
    obtain ⟨ps, hpl, hps⟩ := zlist_of _ len1 key
    refine ⟨some x, m, ps, by rw [hpl], by rw [hpl]; unfold maxLen at hm; omega, by rw [hpl]; exact hl, fun y hy => ?_, fun h0 => ?_⟩
    · obtain ⟨q, hq, rfl⟩ := List.getElem_of_mem hy
      exact (hps q _ (List.getElem?_eq_getElem hq)).1
    · have hp0 : ps[0]? = some (ps[0]'h0) := List.getElem?_eq_getElem h0
      have hl0 : 0 < (f (ps[0]'h0)).length := by rw [hfk]; exact hk
      have hc0 := (hps 0 _ hp0).2 0 _ (List.getElem?_eq_getElem hl0)
      obtain ⟨b, off, spot⟩ := x
      have hspot : spot = none := by simpa [Addr.add] using World.cell?_spot hc0
      subst hspot
      refine ⟨b, off, rfl, ?_, fun q y hq i u hu => ?_⟩
      · rw [zadd] at hc0
        exact block_lt_of_cell hc0
      · have := (hps q y hq).2 i u hu
        rw [zadd] at this
        rw [Nat.add_assoc]
        exact this

theorem zfour {α : Type} (l : List α) (h : l.length = 4) : ∃ a b c d, l = [a, b, c, d] := by
  match l, h with
  | [a, b, c, d], _ => exact ⟨a, b, c, d, rfl⟩
theorem zone {α : Type} (l : List α) (h : l.length = 1) : ∃ a, l = [a] := by
  match l, h with
  | [a], _ => exact ⟨a, rfl⟩
theorem ztwo {α : Type} (l : List α) (h : l.length = 2) : ∃ a b, l = [a, b] := by
  match l, h with
  | [a, b], _ => exact ⟨a, b, rfl⟩
theorem zcI : Tryd.prog.cellsOf 3 = 1 := by kernel_rfl
theorem zcU64 : Tryd.prog.cellsOf 39 = 1 := by kernel_rfl
theorem zcU8 : Tryd.prog.cellsOf 5 = 1 := by kernel_rfl
theorem zcStr : Tryd.prog.cellsOf 9 = 1 := by kernel_rfl
theorem zcSealed : Tryd.prog.cellsOf 41 = 4 := by kernel_rfl
theorem zcDig : Tryd.prog.cellsOf 28 = 32 := by kernel_rfl
/-- A sealed thing that came in. -/
theorem zopen_sealed {m : Nat} {cs : List Value} {y : DataW H × List MemPlace} (hl : cs.length = 4)
    (ht : DataW.trod enc Tryd.prog V base (fun _ => true) held m 41 cs = some y) : ∃ x : Se, cs = x.cells ∧ x.Ok := by
  obtain ⟨c0, c1, c2, c3, rfl⟩ := zfour cs hl
  obtain ⟨xs, k, _, _, _, hxl, hg⟩ := DataW.trod_struct Tryd.underlying41 ht
  obtain ⟨x0, x1, x2, x3, rfl⟩ := zfour xs hxl
  have g0 : DataW.trod enc Tryd.prog V base (fun _ => true) held k 3 (List.take (Tryd.prog.cellsOf 3) (List.drop 0 [c0, c1, c2, c3])) = [x0, x1, x2, x3][0]? := hg 0 _ rfl
  have g1 : DataW.trod enc Tryd.prog V base (fun _ => true) held k 3 (List.take (Tryd.prog.cellsOf 3) (List.drop 1 [c0, c1, c2, c3])) = [x0, x1, x2, x3][1]? := hg 1 _ rfl
  have g2 : DataW.trod enc Tryd.prog V base (fun _ => true) held k 39 (List.take (Tryd.prog.cellsOf 39) (List.drop 2 [c0, c1, c2, c3])) = [x0, x1, x2, x3][2]? := hg 2 _ rfl
  have g3 : DataW.trod enc Tryd.prog V base (fun _ => true) held k 39 (List.take (Tryd.prog.cellsOf 39) (List.drop 3 [c0, c1, c2, c3])) = [x0, x1, x2, x3][3]? := hg 3 _ rfl
  rw [zcI] at g0 g1
  rw [zcU64] at g2 g3
  simp only [List.drop_zero, List.drop_succ_cons, List.take_succ_cons, List.take_zero, List.getElem?_cons_zero, List.getElem?_cons_succ] at g0 g1 g2 g3
  obtain ⟨n0, e0, _, f0⟩ := DataW.trod_int Tryd.underlying3 g0
  obtain ⟨n1, e1, _, f1⟩ := DataW.trod_int Tryd.underlying3 g1
  obtain ⟨n2, e2, _, f2⟩ := DataW.trod_int Tryd.underlying39 g2
  obtain ⟨n3, e3, _, f3⟩ := DataW.trod_int Tryd.underlying39 g3
  simp only [List.cons.injEq, and_true] at e0 e1 e2 e3
  subst e0 e1 e2 e3
  exact ⟨⟨n0, n1, n2, n3⟩, rfl, bounds_i64 f0, bounds_i64 f1, bounds_u64 f2, bounds_u64 f3⟩
theorem zopen_sealedv (hval : Value.okWide Tryd.prog V r b0 41 v) (hd : DataW.Trod enc Tryd.prog V base (fun _ => true) held 41 v d pl) : ∃ x : Se, v = .agg x.cells.toArray ∧ x.Ok := by
  obtain ⟨cs, rfl, hsz, _⟩ : ∃ cs, v = .agg cs ∧ cs.size = Tryd.prog.cellsOf 41 ∧ Row.okWide Tryd.prog V r b0 41 cs := by
    simpa [Value.okWide, Tryd.underlying41] using hval
  rw [zcSealed] at hsz
  obtain ⟨fuel, hf⟩ := hd
  obtain ⟨x, hx, ok⟩ := zopen_sealed (cs := cs.toList) (by simpa using hsz) hf
  exact ⟨x, by rw [← hx], ok⟩
/-- A digest that came in. -/
theorem zopen_digc {m : Nat} {cs : List Value} {y : DataW H × List MemPlace} (_hl : cs.length = 32)
    (ht : DataW.trod enc Tryd.prog V base (fun _ => true) held m 28 cs = some y) : ∃ l : List UInt8, cs = Lib.byteCells l ∧ l.length = 32 := by
  obtain ⟨xs, m1, _, _, hlen, hxn, hel⟩ := DataW.trod_array Tryd.underlying28 ht
  have hcl : cs.length = 32 := by rw [zcDig] at hlen; exact hlen
  have key : ∀ i, i < 32 → ∃ c : UInt8, cs[i]? = some (.int .u8 (c.toNat : Int)) := by
    intro i hi
    have he := hel i hi
    rw [zcU8, Nat.mul_one, List.getElem?_eq_getElem (by omega)] at he
    obtain ⟨k, e1, _, f⟩ := DataW.trod_int Tryd.underlying5 he
    have hk := bounds_u8 f
    rw [List.drop_eq_getElem_cons (by omega)] at e1
    simp only [List.take_succ_cons, List.take_zero, List.cons.injEq, and_true] at e1
    refine ⟨UInt8.ofNat k.toNat, ?_⟩
    rw [List.getElem?_eq_getElem (by omega), e1, UInt8.toNat_ofNat', show ((k.toNat % 2 ^ 8 : Nat) : Int) = k by omega]
  obtain ⟨l, hll, hl⟩ := zlist_of _ 32 key
  refine ⟨l, List.ext_getElem (by simp [Lib.byteCells, hcl, hll]) fun i h1 h2 => ?_, hll⟩
  have := hl i _ (List.getElem?_eq_getElem (by omega))
  rw [List.getElem?_eq_getElem h1] at this
  rw [Option.some.inj this]
  simp [Lib.byteCells]
theorem zopen_dig (hval : Value.okWide Tryd.prog V r b0 28 v) (hd : DataW.Trod enc Tryd.prog V base (fun _ => true) held 28 v d pl) : ∃ l : List UInt8, v = .agg (dg l) ∧ l.length = 32 := by
  obtain ⟨cs, rfl, hsz, _⟩ : ∃ cs, v = .agg cs ∧ cs.size = Tryd.prog.cellsOf 28 ∧ Row.okWide Tryd.prog V r b0 28 cs := by
    simpa [Value.okWide, Tryd.underlying28] using hval
  rw [zcDig] at hsz
  obtain ⟨fuel, hf⟩ := hd
  obtain ⟨l, hx, ok⟩ := zopen_digc (cs := cs.toList) (by simpa using hsz) hf
  exact ⟨l, by rw [dg, ← hx], ok⟩
theorem zopen_u64 (_hval : Value.okWide Tryd.prog V r b0 39 v) (hd : DataW.Trod enc Tryd.prog V base (fun _ => true) held 39 v d pl) : ∃ n : Nat, v = .int .u64 n ∧ n ≤ 18446744073709551615 := by
  obtain ⟨n, rfl, _, _, wf⟩ := open_int Tryd.underlying39 _hval hd
  have h := bounds_u64 wf
  exact ⟨n.toNat, by rw [Int.toNat_of_nonneg h.1], by omega⟩
theorem zopen_u8s (hval : Value.okWide Tryd.prog V r b0 22 v) (hd : DataW.Trod enc Tryd.prog V base (fun _ => true) held 22 v d pl) :
    ∃ (aa : Option Addr) (cap : Nat) (ls : List UInt8), v = .slice aa ls.length cap ∧ ls.length ≤ 9223372036854775807 ∧ ls.length ≤ cap ∧ (0 < ls.length → ∃ b off, aa = some ⟨b, off, none⟩ ∧ b < V.heap.size ∧ RowsAt V b off 1 (fun c : UInt8 => [.int .u8 (c.toNat : Int)]) ls) := by
  obtain ⟨aa, cap, ls, h1, h2, h3, _, h4⟩ := zopen_rows (k := 1) (by decide) Tryd.underlying22 zcU8 (fun c : UInt8 => [.int .u8 (c.toNat : Int)]) (fun _ => True) (fun _ => rfl) (fun m cs y hl ht => by
    obtain ⟨c0, rfl⟩ := zone cs hl
    obtain ⟨k, e, _, f⟩ := DataW.trod_int Tryd.underlying5 ht
    have hk := bounds_u8 f
    simp only [List.cons.injEq, and_true] at e
    refine ⟨UInt8.ofNat k.toNat, ?_, trivial⟩
    rw [e, UInt8.toNat_ofNat', show ((k.toNat % 2 ^ 8 : Nat) : Int) = k by omega]) hval hd
  exact ⟨aa, cap, ls, h1, h2, h3, h4⟩
theorem zopen_seals (hval : Value.okWide Tryd.prog V r b0 51 v) (hd : DataW.Trod enc Tryd.prog V base (fun _ => true) held 51 v d pl) :
    ∃ (aa : Option Addr) (cap : Nat) (ls : List Se), v = .slice aa ls.length cap ∧ ls.length ≤ 9223372036854775807 ∧ ls.length ≤ cap ∧ ((∀ x ∈ ls, x.Ok) ∧ (0 < ls.length → ∃ b off, aa = some ⟨b, off, none⟩ ∧ b < V.heap.size ∧ RowsAt V b off 4 Se.cells ls)) := by
  obtain ⟨aa, cap, ls, h1, h2, h3, h4, h5⟩ := zopen_rows (k := 4) (by decide) Tryd.underlying51 zcSealed Se.cells Se.Ok (fun _ => rfl) (fun m cs y hl ht => zopen_sealed hl ht) hval hd
  exact ⟨aa, cap, ls, h1, h2, h3, h4, h5⟩
theorem zopen_digs (hval : Value.okWide Tryd.prog V r b0 52 v) (hd : DataW.Trod enc Tryd.prog V base (fun _ => true) held 52 v d pl) :
    ∃ (aa : Option Addr) (cap : Nat) (ls : List (List UInt8)), v = .slice aa ls.length cap ∧ ls.length ≤ 9223372036854775807 ∧ ls.length ≤ cap ∧ ((∀ x ∈ ls, x.length = 32) ∧ (0 < ls.length → ∃ b off, aa = some ⟨b, off, none⟩ ∧ b < V.heap.size ∧ RowsAt V b off 32 Lib.byteCells ls)) := by
  obtain ⟨aa, cap, ls, h1, h2, h3, _, h5⟩ := zopen_rows (α := { l : List UInt8 // l.length = 32 }) (k := 32) (by decide) Tryd.underlying52 zcDig (fun l => Lib.byteCells l.1) (fun _ => True) (fun l => by simp [Lib.byteCells, l.2]) (fun m cs y hl ht => by
    obtain ⟨l, h1, h2⟩ := zopen_digc hl ht
    exact ⟨⟨l, h2⟩, h1, trivial⟩) hval hd
  refine ⟨aa, cap, ls.map (·.1), by rw [List.length_map]; exact h1, by rw [List.length_map]; exact h2, by rw [List.length_map]; exact h3, fun x hx => ?_, fun h0 => ?_⟩
  · obtain ⟨y, _, rfl⟩ := List.mem_map.1 hx
    exact y.2
  · rw [List.length_map] at h0
    obtain ⟨b, off, ha, hb, hr⟩ := h5 h0
    refine ⟨b, off, ha, hb, fun q x hq i u hu => ?_⟩
    rw [List.getElem?_map] at hq
    cases hy : ls[q]? with
    | none => rw [hy] at hq; cases hq
    | some y =>
      rw [hy] at hq
      cases hq
      exact hr q y hy i u hu
end
end Go.Proofs.YtpkgmoiffegbfaaDoor
