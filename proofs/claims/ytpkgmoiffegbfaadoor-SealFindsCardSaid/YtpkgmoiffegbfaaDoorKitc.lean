/- Rules of the walk for arrays of bytes that are taken whole (digests): read, compared, and as a map's keys, over any program with such a type. No condition. -/
import Derived.Test.YtpkgmoiffegbfaaDoorKitb
import Derived.DeepKeys3
namespace Go.Proofs.YtpkgmoiffegbfaaDoor
open Go.RowKit

theorem byteCells_inj {a b : List UInt8} (h : Lib.byteCells a = Lib.byteCells b) : a = b := by
  induction a generalizing b with
  | nil => cases b with
    | nil => rfl
    | cons y b => simp [Lib.byteCells] at h
  | cons x a ih => cases b with
    | nil => simp [Lib.byteCells] at h
    | cons y b =>
      simp only [Lib.byteCells, List.map_cons, List.cons.injEq, Value.int.injEq, true_and] at h
      have h1 : x = y := UInt8.toNat_inj.1 (by omega)
      rw [h1, ih h.2]
theorem dg_inj {a b : List UInt8} (h : dg a = dg b) : a = b := byteCells_inj (by simpa [dg] using h)

/-- The cells of some digest. -/
def IsDig (X : Array Value) : Prop := ∃ l : List UInt8, l.length = 32 ∧ X = dg l
theorem isDig_dg {l : List UInt8} (h : l.length = 32) : IsDig (dg l) := ⟨l, h, rfl⟩
theorem IsDig.size {X : Array Value} (h : IsDig X) : X.size = 32 := by obtain ⟨l, hl, rfl⟩ := h; rw [dg_size, hl]
noncomputable def digEq (X Y : Array Value) : Bool := @decide (X = Y) (Classical.propDecidable _)
theorem digEq_dg (a b : List UInt8) : digEq (dg a) (dg b) = (a == b) := by
  unfold digEq
  rw [Bool.eq_iff_iff]
  simp only [decide_eq_true_eq, beq_iff_eq]
  exact ⟨dg_inj, fun h => by rw [h]⟩
theorem digEq_iff {X Y : Array Value} : digEq X Y = true ↔ X = Y := by unfold digEq; simp only [decide_eq_true_eq]

/-- What is asked of a type of digests. -/
structure DigType (P : Program) (T e : TypeId) : Prop where
  arr : P.underlying T = some (.array 32 e)
  byte : P.underlying e = some (.int .u8)
  cells : P.cellsOf T = 32
  cell : P.cellsOf e = 1
  size : (P.info? T).map (·.size) = some 32
  key : P.keyType T = true
  at2 : P.keyTypeAt 2 T = true
  tiled : P.tiled 2 T = true
  types : ∃ m, P.types.size = m + 1
  plain : P.eqGuardType P.depth T = false

section
variable {P : Program} {T e : TypeId}

theorem DigType.keyOf (D : DigType P T e) {X : Array Value} (h : IsDig X) : ∃ l, keyOf P T (.agg X) = some l := by
  obtain ⟨l, hl, rfl⟩ := h
  obtain ⟨m, hm⟩ := D.types
  have h1 : ∀ i ∈ List.range 32, P.keyLits (m + 1) e (((Lib.byteCells l).drop (i * P.cellsOf e)).take (P.cellsOf e)) = some [.int .u8 ((l.getD i 0).toNat : Int)] := by
    intro i hi
    have hi' : i < 32 := List.mem_range.1 hi
    have hil : i < l.length := by omega
    rw [D.cell, Nat.mul_one, List.drop_eq_getElem_cons (by rw [Lib.byteCells_length]; exact hil)]
    have hb := (l[i]).toNat_lt
    simp only [List.take_succ_cons, List.take_zero, Program.keyLits, D.byte]
    simp only [Lib.byteCells, List.getElem_map]
    have hw : (Lit.int .u8 ((l[i].toNat : Nat) : Int)).wf = true := by simp [Lit.wf, IntKind.min, IntKind.max, IntKind.bits, IntKind.signed]; omega
    rw [if_pos (by simpa using hw)]
    simp [List.getD, hil]
  have hmap : ∀ (L : List Nat), (∀ i ∈ L, i ∈ List.range 32) → (L.mapM fun i => P.keyLits (m + 1) e (((Lib.byteCells l).drop (i * P.cellsOf e)).take (P.cellsOf e))) = some (L.map fun i => [.int .u8 ((l.getD i 0).toNat : Int)]) := by
    intro L
    induction L with
    | nil => intro _; rfl
    | cons x L ih =>
      intro hL
      rw [List.mapM_cons, h1 x (hL x (by simp)), ih (fun i hi => hL i (by simp [hi]))]
      rfl
  unfold Go.keyOf
  rw [D.arr]
  have hf : (Value.agg (dg l)).formed P T = true := by simp [Value.formed, D.arr, D.cells, dg_size, hl]
  simp only [D.key, hf, Bool.and_self, if_true, hm]
  have hk : P.keyLits (m + 1 + 1) T (Value.agg (dg l)).cells.toList = some ((List.range 32).map fun i => [Lit.int .u8 ((l.getD i 0).toNat : Int)]).flatten := by
    have hcs : (Value.agg (dg l)).cells.toList = Lib.byteCells l := by simp [Value.cells, dg]
    rw [hcs]
    unfold Program.keyLits
    simp only [D.arr]
    rw [if_pos (by rw [Lib.byteCells_length, D.cells, hl]), hmap _ (fun i hi => hi)]
    rfl
  rw [hk]
  exact ⟨_, rfl⟩

theorem DigType.wide (D : DigType P T e) : (match P.underlying T with | some (.array _ _) | some (.struct _) => true | _ => false) = true := by rw [D.arr]

theorem DigType.equal (D : DigType P T e) {X Y : Array Value} (hX : IsDig X) (hY : IsDig Y) (w : World) : (Op.equal T (.agg X) (.agg Y)).run P w = .ok (digEq X Y) w := by
  obtain ⟨lx, kx⟩ := D.keyOf hX
  obtain ⟨ly, ky⟩ := D.keyOf hY
  obtain ⟨r, hr, hi⟩ := run_equal_deep w (m := 2) (by omega) D.at2 D.wide kx ky
  rw [hr]
  have : r = digEq X Y := by
    rw [Bool.eq_iff_iff, hi, digEq_iff]
    constructor
    · intro h; subst h
      have := keyOf_inj_deep D.tiled D.wide kx ky
      simpa using this
    · intro h; subst h
      rw [kx] at ky
      exact Option.some.inj ky
  rw [this]

theorem DigType.check (D : DigType P T e) {X : Array Value} (hX : IsDig X) (em : Bool) (w : World) : (Instr.checkKey em 10000 T (.agg X)).run P w = .ok () w := by
  obtain ⟨lx, kx⟩ := D.keyOf hX
  exact (deep_law (m := 2) (by omega) D.at2 D.tiled D.wide).check w em kx

/-- What a map's entries hold at a key. -/
noncomputable def findDg (X : Array Value) : List MapEntry → Option Value
  | [] => none
  | en :: es => match en.key with
    | .agg K => if digEq X K then some en.val else findDg X es
    | _ => findDg X es
def DigKeys (es : List MapEntry) : Prop := ∀ en ∈ es, ∃ K, en.key = .agg K ∧ IsDig K

theorem DigType.asking (D : DigType P T e) {X : Array Value} (hX : IsDig X) (w : World) : ∀ (es : List MapEntry) (i : Nat), DigKeys es →
    ∃ r, (Instr.findAsking T (.agg X) es i).run P w = .ok r w ∧ r.map (·.2) = findDg X es
  | [], i, _ => ⟨none, by simp [Instr.findAsking], rfl⟩
  | en :: es, i, h => by
    obtain ⟨K, hk, hK⟩ := h en (by simp)
    have heq := D.equal hX hK w
    cases hb : digEq X K with
    | true =>
      refine ⟨some (i, en.val), ?_, ?_⟩
      · simp [Instr.findAsking, hk, heq, hb]
      · simp [findDg, hk, hb]
    | false =>
      obtain ⟨r, hr, hf⟩ := D.asking hX w es (i + 1) (fun y hy => h y (by simp [hy]))
      refine ⟨r, ?_, ?_⟩
      · simp [Instr.findAsking, hk, heq, hb, hr]
      · simp [findDg, hk, hb, hf]

theorem DigType.findKey (D : DigType P T e) {X : Array Value} (hX : IsDig X) (w : World) (es : List MapEntry) (h : DigKeys es) :
    ∃ r, (Instr.findKey T (.agg X) es).run P w = .ok r w ∧ r.map (·.2) = findDg X es := by
  cases es with
  | nil => exact ⟨none, by simp [Instr.findKey, run_underlying D.arr, Instr.findNow], rfl⟩
  | cons en es =>
    obtain ⟨K, hk, hK⟩ := h en (by simp)
    obtain ⟨r, hr, hf⟩ := D.asking hX w (en :: es) 0 h
    refine ⟨r, ?_, hf⟩
    simp [Instr.findKey, run_underlying D.arr, Instr.findNow, Instr.sameNow, hr]

theorem run_getObj_map (w : World) (r : Nat) (es : Array MapEntry) (clk : Nat) (h : w.heap[r]? = some (.map es clk)) : (getObj r).run P w = .ok (.map es clk) w := by
  simp [getObj, Sem.run, h]

theorem DigType.lookup (D : DigType P T e) {M E : TypeId} (hM : P.underlying M = some (.map T E)) {z : Value} (hz : (P.info? E).map (·.zero) = some (some z)) {X : Array Value} (hX : IsDig X) (w : World) (r : Nat) (es : Array MapEntry) (clk : Nat)
    (hr : w.heap[r]? = some (.map es clk)) (h : DigKeys es.toList) :
    (Instr.lookup M (.map (some r)) (.agg X) true).run P w = .ok (.tuple #[(findDg X es.toList).getD z, .bool (findDg X es.toList).isSome]) w := by
  obtain ⟨rr, hrr, hf⟩ := D.findKey hX w es.toList h
  have hzero : (zeroValue E).run P w = .ok z w := by
    cases hq : P.info? E with
    | none => simp [hq] at hz
    | some i =>
      have hz' : i.zero = some z := by simpa [hq] using hz
      simp [zeroValue, typeInfo, hq, hz']
  rw [← hf]
  cases rr with
  | none => simp [Instr.lookup, run_underlying hM, run_getObj_map w r es clk hr, D.check hX, hrr, hzero]
  | some x => simp [Instr.lookup, run_underlying hM, run_getObj_map w r es clk hr, D.check hX, hrr]

theorem DigType.update (D : DigType P T e) {M E : TypeId} (hM : P.underlying M = some (.map T E)) {X : Array Value} (hX : IsDig X) (v : Value) (w : World) (r : Nat) (es : Array MapEntry) (clk : Nat)
    (hr : w.heap[r]? = some (.map es clk)) (h : DigKeys es.toList) (hnew : findDg X es.toList = none) :
    (Instr.mapUpdate M (.map (some r)) (.agg X) v).run P w = .ok () { w with heap := w.heap.setIfInBounds r (.map (es.push { key := .agg X, val := v, born := clk }) (clk + 1)) } := by
  obtain ⟨rr, hrr, hf⟩ := D.findKey hX w es.toList h
  rw [hnew] at hf
  have hn : rr = none := by cases rr with
    | none => rfl
    | some x => simp at hf
  subst hn
  simp [Instr.mapUpdate, run_underlying hM, run_getObj_map w r es clk hr, D.check hX, hrr, setObj, Sem.run, hr]
end
end Go.Proofs.YtpkgmoiffegbfaaDoor
