/- Sealed things compared; their bytes tell them apart; '^' with a small number. No condition. -/
import Derived.Test.YtpkgmoiffegbfaaDoorZRows
namespace Go.Proofs.YtpkgmoiffegbfaaDoor
open Go.RowKit Go.BigFrame
set_option maxRecDepth 20000

theorem seC_inj {x y : Se} (h : x.cells.toArray = y.cells.toArray) : x = y := by
  obtain ⟨a, b, c, d⟩ := x
  obtain ⟨a', b', c', d'⟩ := y
  simp [Se.cells] at h
  simp [h]
def IsSe (X : Array Value) : Prop := ∃ x : Se, X = x.cells.toArray
theorem isSe_cells (x : Se) : IsSe x.cells.toArray := ⟨x, rfl⟩
theorem digEq_se (x y : Se) : digEq x.cells.toArray y.cells.toArray = decide (x = y) := by
  rw [Bool.eq_iff_iff, digEq_iff, decide_eq_true_eq]
  exact ⟨seC_inj, fun h => by rw [h]⟩
theorem equal_se (x y : Se) (w : World) : (Op.equal 41 (.agg x.cells.toArray) (.agg y.cells.toArray)).run Tryd.prog w = .ok (decide (x = y)) w := by
  have h : decide (x = y) = ((x.r == y.r) && ((x.c == y.c) && ((x.b == y.b) && (x.n == y.n)))) := by
    rw [Bool.eq_iff_iff]
    obtain ⟨a, b, c, d⟩ := x
    obtain ⟨a', b', c', d'⟩ := y
    simp
  rw [h]
  simp [go_sem, Op.equal, Op.maxDepth, Se.cells]
  by_cases h1 : x.r = y.r <;> by_cases h2 : x.c = y.c <;> by_cases h3 : x.b = y.b <;> by_cases h4 : x.n = y.n <;> simp [h1, h2, h3, h4]
noncomputable def eqRowSe (neg : Bool) (v u : Value) (w : World) (orig : Result Next) : Result Next :=
  match v, u with
  | .agg X, .agg Y => @ite _ (IsSe X ∧ IsSe Y) (Classical.propDecidable _) (.ok (.value (.bool (neg != digEq X Y))) w) orig
  | _, _ => orig
section
variable (ρ : Operand → Value) (dst : Option Tmp) (x y : Operand) (yt ty : TypeId) (pos : String) (after : Array Edge) (guard : Option (Nat × Bool)) (w : World)
theorem exec_eqlSe : (execOp ρ ⟨dst, .binOp .eql 41 x y yt, ty, pos, after, guard⟩).run Tryd.prog w = eqRowSe false (ρ x) (ρ y) w ((do let v ← (do eqGuard .eql 41 x y (ρ x) (ρ y); binOp .eql 41 (ρ x) (ρ y)); pure (.value v) : Sem Next).run Tryd.prog w) := by
  unfold eqRowSe
  split
  · rename_i X Y hx hy
    split
    · rename_i h
      obtain ⟨⟨a, rfl⟩, ⟨b, rfl⟩⟩ := h
      simp [execOp, hx, hy, eqGuard, binOp, equal_se, digEq_se]
    · rfl
  · rfl
/-- A sealed thing read whole. -/
noncomputable def loadRowSe (v : Value) (w : World) (orig : Result Next) : Result Next :=
  match v with
  | .pointer (some ⟨g, 0, none⟩) => match objAt w g with
    | some (.cells cs _ _) => @ite _ (IsSe cs) (Classical.propDecidable _) (.ok (.value (.agg cs)) w) orig
    | _ => orig
  | _ => orig
theorem exec_loadSe : (execOp ρ ⟨dst, .load 41 x, ty, pos, after, guard⟩).run Tryd.prog w = loadRowSe (ρ x) w ((do let v ← Instr.loadAt 41 (ρ x); pure (.value v) : Sem Next).run Tryd.prog w) := by
  unfold loadRowSe
  split
  · rename_i g hx
    split
    · rename_i cs t fr hg
      split
      · rename_i h
        obtain ⟨a, rfl⟩ := h
        have hr := run_loadVar_row (P := Tryd.prog) w g t 41 _ fr _ hg Tryd.underlying41 rfl sizeSealed
        simp [execOp, hx, Instr.loadAt, Instr.sureAddr, hr]
      · rfl
    · rfl
  · rfl
end
theorem byte_eq {a b : Nat} (h : UInt8.ofNat a = UInt8.ofNat b) : a % 256 = b % 256 := by
  have := congrArg UInt8.toNat h
  simpa using this
theorem be8_inj {n m : Nat} (hn : n ≤ 18446744073709551615) (hm : m ≤ 18446744073709551615) (h : be8 n = be8 m) : n = m := by
  simp only [be8, List.cons.injEq, and_true] at h
  obtain ⟨h7, h6, h5, h4, h3, h2, h1, h0⟩ := h
  have h7 := byte_eq h7
  have h6 := byte_eq h6
  have h5 := byte_eq h5
  have h4 := byte_eq h4
  have h3 := byte_eq h3
  have h2 := byte_eq h2
  have h1 := byte_eq h1
  have h0 := byte_eq h0
  omega
theorem u64of_le (r : Int) : u64of r ≤ 18446744073709551615 := by unfold u64of; omega
theorem u64of_inj {a b : Int} (ha : -9223372036854775808 ≤ a ∧ a ≤ 9223372036854775807) (hb : -9223372036854775808 ≤ b ∧ b ≤ 9223372036854775807) (h : u64of a = u64of b) : a = b := by unfold u64of at h; omega
theorem seB_inj {x y : Se} (hx : x.Ok) (hy : y.Ok) (h : seB x = seB y) : x = y := by
  obtain ⟨a, b, c, d⟩ := x
  obtain ⟨a', b', c', d'⟩ := y
  obtain ⟨ha, hb, hc, hd⟩ := hx
  obtain ⟨ha', hb', hc', hd'⟩ := hy
  unfold seB at h
  obtain ⟨h, h4⟩ := List.append_inj' h rfl
  obtain ⟨h, h3⟩ := List.append_inj' h rfl
  obtain ⟨h, h2⟩ := List.append_inj' h rfl
  obtain ⟨_, h1⟩ := List.append_inj' h rfl
  have e1 := u64of_inj ha ha' (be8_inj (u64of_le _) (u64of_le _) h1)
  have e2 := u64of_inj hb hb' (be8_inj (u64of_le _) (u64of_le _) h2)
  dsimp only at hc hc' hd hd' h3 h4 e1 e2
  have e3 := be8_inj (by omega) (by omega) h3
  have e4 := be8_inj (by omega) (by omega) h4
  have e5 : c = c' := by omega
  have e6 : d = d' := by omega
  rw [e1, e2, e5, e6]
theorem bytes_eq (x y : Se) (hx : x.Ok) (hy : y.Ok) : ((⟨(seB x).toArray⟩ : ByteArray) = ⟨(seB y).toArray⟩) = (x = y) := by
  refine propext ⟨fun h => seB_inj hx hy ?_, fun h => by rw [h]⟩
  have := congrArg (fun b : ByteArray => b.data.toList) h
  exact this
theorem ofInt_wrap_i64 (n : Int) : BitVec.ofInt 64 (IntKind.i64.wrap n) = BitVec.ofInt 64 n := by
  apply BitVec.eq_of_toNat_eq
  rw [BitVec.toNat_ofInt, BitVec.toNat_ofInt, IntKind.wrap_i64]
  omega
theorem ofInt_wrap_u64 (n : Int) : BitVec.ofInt 64 (IntKind.u64.wrap n) = BitVec.ofInt 64 n := by
  apply BitVec.eq_of_toNat_eq
  rw [BitVec.toNat_ofInt, BitVec.toNat_ofInt, IntKind.wrap_u64]
  omega
theorem xor_self_iff (A : BitVec 64) (m : Nat) (hm : m < 4611686018427387904) : A ^^^ BitVec.ofInt 64 (m : Int) = A ↔ m = 0 := by
  constructor
  · intro h
    have h2 : A ^^^ (A ^^^ BitVec.ofInt 64 (m : Int)) = A ^^^ A := by rw [h]
    rw [← BitVec.xor_assoc, BitVec.xor_self, BitVec.zero_xor] at h2
    have h3 := congrArg BitVec.toNat h2
    rw [BitVec.toNat_ofInt, BitVec.toNat_zero] at h3
    omega
  · rintro rfl
    show A ^^^ 0#64 = A
    exact BitVec.xor_zero
/-- '^' of a number of 64 bits. -/
def xorI (a : Int) (m : Nat) : Int := IntKind.i64.wrap ((BitVec.ofInt 64 a ^^^ BitVec.ofInt 64 (m : Int)).toNat : Int)
def xorU (a : Int) (m : Nat) : Int := IntKind.u64.wrap ((BitVec.ofInt 64 a ^^^ BitVec.ofInt 64 (m : Int)).toNat : Int)
theorem xorI_range (a : Int) (m : Nat) : -9223372036854775808 ≤ xorI a m ∧ xorI a m ≤ 9223372036854775807 := by unfold xorI; rw [IntKind.wrap_i64]; omega
theorem xorU_range (a : Int) (m : Nat) : 0 ≤ xorU a m ∧ xorU a m ≤ 18446744073709551615 := by unfold xorU; rw [IntKind.wrap_u64]; omega
theorem ofInt_natBack (A : BitVec 64) : BitVec.ofInt 64 (A.toNat : Int) = A := by
  apply BitVec.eq_of_toNat_eq
  rw [BitVec.toNat_ofInt]
  have := A.isLt
  omega
theorem xorI_iff (a : Int) (ha : -9223372036854775808 ≤ a ∧ a ≤ 9223372036854775807) (m : Nat) (hm : m < 4611686018427387904) : xorI a m = a ↔ m = 0 := by
  rw [← xor_self_iff (BitVec.ofInt 64 a) m hm]
  constructor
  · intro h
    have h2 := congrArg (BitVec.ofInt 64) h
    unfold xorI at h2
    rw [ofInt_wrap_i64, ofInt_natBack] at h2
    exact h2
  · intro h
    unfold xorI
    rw [h, BitVec.toNat_ofInt, IntKind.wrap_i64]
    omega
theorem xorU_iff (a : Int) (ha : 0 ≤ a ∧ a ≤ 18446744073709551615) (m : Nat) (hm : m < 4611686018427387904) : xorU a m = a ↔ m = 0 := by
  rw [← xor_self_iff (BitVec.ofInt 64 a) m hm]
  constructor
  · intro h
    have h2 := congrArg (BitVec.ofInt 64) h
    unfold xorU at h2
    rw [ofInt_wrap_u64, ofInt_natBack] at h2
    exact h2
  · intro h
    unfold xorU
    rw [h, BitVec.toNat_ofInt, IntKind.wrap_u64]
    omega
end Go.Proofs.YtpkgmoiffegbfaaDoor
