/- Words of 32 bits: the walk's rules; turning right. No condition. -/
import Derived.Test.YtpkgmoiffegbfaaDoorProg
import Derived.Test.YtpkgmoiffegbfaaDoorSlots
import Derived.BigQuiet
import Derived.LoopTactic
import Derived.Deep.QuietTactic
import Derived.StillTailTactics
import Derived.Outline
import Derived.Lib.Hide
import Derived.Deep.CutRange
namespace Go.Proofs.YtpkgmoiffegbfaaDoor
open Go.RowKit Go.BigFrame
set_option maxRecDepth 20000

/-- A word of 32 bits, and what it is as a number. -/
abbrev W := BitVec 32
def wI (x : W) : Int := (x.toNat : Int)
theorem wI_nat (n : Nat) : wI (BitVec.ofNat 32 n) = ((n % 4294967296 : Nat) : Int) := by simp [wI]
theorem wrap_u32 (n : Nat) : IntKind.u32.wrap (n : Int) = wI (BitVec.ofNat 32 n) := by
  rw [wI_nat]; simp [IntKind.wrap, IntKind.bits, IntKind.signed]
theorem wI_bv (x : W) : BitVec.ofInt 32 (wI x) = x := by
  simp [wI]
theorem wI_back (x : W) : IntKind.u32.wrap ((x.toNat : Nat) : Int) = wI x := by
  rw [wrap_u32]; simp
theorem wI_lt (x : W) : 0 ≤ wI x ∧ wI x < 4294967296 := by
  have := x.isLt
  unfold wI
  omega
section
variable (t : TypeId) (x y : W)
theorem binW_add : binOp .add t (.int .u32 (wI x)) (.int .u32 (wI y)) = pure (.int .u32 (wI (x + y))) := by
  rw [binOp_add]
  show pure (Value.int .u32 (IntKind.u32.wrap (wI x + wI y))) = _
  have : wI x + wI y = ((x.toNat + y.toNat : Nat) : Int) := by simp [wI]
  rw [this, wrap_u32]
  congr 2
theorem binW_xor : binOp .xor t (.int .u32 (wI x)) (.int .u32 (wI y)) = pure (.int .u32 (wI (x ^^^ y))) := by
  rw [binOp_xor, intBits_xor]
  show pure (Value.int .u32 (IntKind.u32.wrap (((BitVec.ofInt 32 (wI x) ^^^ BitVec.ofInt 32 (wI y) : W)).toNat : Nat))) = _
  rw [wI_bv, wI_bv, wI_back]
theorem binW_and : binOp .and t (.int .u32 (wI x)) (.int .u32 (wI y)) = pure (.int .u32 (wI (x &&& y))) := by
  rw [binOp_and, intBits_and]
  show pure (Value.int .u32 (IntKind.u32.wrap (((BitVec.ofInt 32 (wI x) &&& BitVec.ofInt 32 (wI y) : W)).toNat : Nat))) = _
  rw [wI_bv, wI_bv, wI_back]
theorem binW_or : binOp .or t (.int .u32 (wI x)) (.int .u32 (wI y)) = pure (.int .u32 (wI (x ||| y))) := by
  rw [binOp_or, intBits_or]
  show pure (Value.int .u32 (IntKind.u32.wrap (((BitVec.ofInt 32 (wI x) ||| BitVec.ofInt 32 (wI y) : W)).toNat : Nat))) = _
  rw [wI_bv, wI_bv, wI_back]
theorem unW_xor : Op.unary .xor (.int .u32 (wI x)) = pure (.int .u32 (wI (~~~x))) := by
  show pure (Value.int .u32 (IntKind.u32.wrap (((BitVec.ofInt 32 4294967295 ^^^ BitVec.ofInt 32 (wI x) : W)).toNat : Nat))) = _
  rw [wI_bv]
  have e : (BitVec.ofInt 32 4294967295 : W) = BitVec.allOnes 32 := by decide
  rw [e, BitVec.allOnes_xor, wI_back]
theorem shW_shl (yk : IntKind) (n : Nat) : Op.shift .shl .u32 (wI x) yk (n : Int) = pure (.int .u32 (wI (x <<< n))) := by
  rw [shift_shl_any _ _ _ _ (by omega)]
  have e : wI x * 2 ^ min ((n : Int)).toNat IntKind.u32.bits = ((x.toNat * 2 ^ min n 32 : Nat) : Int) := by
    simp [wI, IntKind.bits]
  rw [e, wrap_u32]
  congr 3
  apply BitVec.eq_of_toNat_eq
  rw [BitVec.toNat_ofNat, BitVec.toNat_shiftLeft, Nat.shiftLeft_eq]
  by_cases h : n ≤ 32
  · rw [Nat.min_eq_left h]
  · rw [Nat.min_eq_right (by omega)]
    have e1 : (2 : Nat) ^ n = 2 ^ 32 * 2 ^ (n - 32) := by rw [← Nat.pow_add]; congr 1; omega
    rw [e1, Nat.mul_comm x.toNat (2 ^ 32 * _), Nat.mul_assoc, Nat.mul_mod_right, Nat.mul_mod_left]
theorem shW_shr (yk : IntKind) (n : Nat) : Op.shift .shr .u32 (wI x) yk (n : Int) = pure (.int .u32 (wI (x >>> n))) := by
  rw [shift_shr_any _ _ _ _ (by omega)]
  have e : wI x / 2 ^ min ((n : Int)).toNat IntKind.u32.bits = ((x.toNat / 2 ^ min n 32 : Nat) : Int) := by
    simp [wI, IntKind.bits]
  rw [e]
  congr 2
  show _ = (((x >>> n).toNat : Nat) : Int)
  congr 1
  rw [BitVec.toNat_ushiftRight, Nat.shiftRight_eq_div_pow]
  by_cases h : n ≤ 32
  · rw [Nat.min_eq_left h]
  · rw [Nat.min_eq_right (by omega)]
    have h1 : x.toNat < 2 ^ 32 := x.isLt
    rw [Nat.div_eq_of_lt h1, Nat.div_eq_of_lt (Nat.lt_of_lt_of_le h1 (Nat.pow_le_pow_right (by decide) (by omega)))]
end

theorem zquiet {P : Program} {C : World → Prop} {id : Nat} {Q : Exit → Act → World → Prop} {a : Act} {w : World} {l : List Oper} (hm : P.follows .mixedOrders = true) (hB : Region.lexB .any l.toArray = true) (hC : C w.drew)
    (h : wpQuiet P l.toArray C (fun a' => ∀ w', C w' → Q .normal a' w') l a) : (Code.region id l.toArray true).wp P Q a w :=
  wp_region_quiet hm hB hC (by simpa using h)
/-- Turned right. -/
def rotr (x : W) (n : Nat) : W := x <<< (32 - n) ||| x >>> n
theorem wI_div (x : W) (n : Nat) : wI x / 2 ^ n = wI (x >>> n) := by
  have e : wI x / 2 ^ n = ((x.toNat / 2 ^ n : Nat) : Int) := by simp [wI]
  rw [e]
  show _ = (((x >>> n).toNat : Nat) : Int)
  rw [BitVec.toNat_ushiftRight, Nat.shiftRight_eq_div_pow]
theorem bitsW_or (x y : W) : bits .or .u32 (wI x) (wI y) = wI (x ||| y) := by
  show IntKind.u32.wrap ((((BitVec.ofInt 32 (wI x) ||| BitVec.ofInt 32 (wI y) : W)).toNat : Nat) : Int) = _
  rw [wI_bv, wI_bv, wI_back]
theorem bitsW_xor (x y : W) : bits .xor .u32 (wI x) (wI y) = wI (x ^^^ y) := by
  show IntKind.u32.wrap ((((BitVec.ofInt 32 (wI x) ^^^ BitVec.ofInt 32 (wI y) : W)).toNat : Nat) : Int) = _
  rw [wI_bv, wI_bv, wI_back]
theorem bitsW_and (x y : W) : bits .and .u32 (wI x) (wI y) = wI (x &&& y) := by
  show IntKind.u32.wrap ((((BitVec.ofInt 32 (wI x) &&& BitVec.ofInt 32 (wI y) : W)).toNat : Nat) : Int) = _
  rw [wI_bv, wI_bv, wI_back]
attribute [local go_sem] wI_div bitsW_or bitsW_xor bitsW_and
attribute [local go_sem 2000] binW_add binW_xor binW_and binW_or unW_xor
theorem neg_and (n : Nat) (h0 : 0 < n) (h : n < 32) : bits .and .u64 (IntKind.u64.wrap (-(n : Int))) 31 = ((32 - n : Nat) : Int) := by
  have key : ∀ k : Fin 32, 0 < k.val → bits .and .u64 (IntKind.u64.wrap (-(k.val : Int))) 31 = ((32 - k.val : Nat) : Int) := by decide
  exact key ⟨n, h⟩ h0
theorem rot_any (x : W) (n : Nat) (h0 : 0 < n) (h : n < 32) (w : World) :
    Calls Tryd.prog 48 #[.int .u32 (wI x), .int .i64 (-(n : Int))] w fun e w' => e = .returned (.int .u32 (wI (rotr x n))) ∧ w = w' := by
  have h1 := neg_and n h0 h
  have h2 := shW_shl x .u64 (32 - n)
  have h3 := shW_shr x .u64 n
  have h4 : IntKind.u64.wrap (32 - ((32 - n : Nat) : Int)) = (n : Int) := by
    rw [show (32 - ((32 - n : Nat) : Int)) = (n : Int) by omega]
    simp [IntKind.wrap, IntKind.bits, IntKind.signed]
    omega
  obtain ⟨m, hm⟩ : ∃ m, m = 32 - n := ⟨_, rfl⟩
  rw [← hm] at h1 h2 h4
  have HM := Lib.hid hm
  clear hm
  go_enter Tryd.func48, Tryd.ntmps48
  go_wp2
  go_ret
  exact ⟨by rw [rotr, ← HM.out]; rfl, rfl⟩

def rights (x : W) (a b c : Nat) : W := rotr x a ^^^ rotr x b ^^^ rotr x c
def parts (x : W) (a b c : Nat) : W := rotr x a ^^^ rotr x b ^^^ x >>> c
theorem right_any (x : W) (a b c : Nat) (ha0 : 0 < a) (ha : a < 32) (hb0 : 0 < b) (hb : b < 32) (hc0 : 0 < c) (hc : c < 32) (w : World) :
    Calls Tryd.prog 43 #[.int .u32 (wI x), .int .i64 (a : Int), .int .i64 (b : Int), .int .i64 (c : Int)] w fun e w' => e = .returned (.int .u32 (wI (rights x a b c))) ∧ w = w' := by
  have haB : (a : Int) < 32 := by omega
  have hbB : (b : Int) < 32 := by omega
  have hcB : (c : Int) < 32 := by omega
  go_enter Tryd.func43, Tryd.ntmps43
  go_wp2_with fail
  refine (rot_any x a ha0 ha _).mono ?_
  rintro e w' ⟨rfl, rfl⟩
  go_wp2_with fail
  refine (rot_any x b hb0 hb _).mono ?_
  rintro e w' ⟨rfl, rfl⟩
  go_wp2_with fail
  refine (rot_any x c hc0 hc _).mono ?_
  rintro e w' ⟨rfl, rfl⟩
  go_wp2
  go_ret
  exact ⟨rfl, rfl⟩
theorem part_any (x : W) (a b c : Nat) (ha0 : 0 < a) (ha : a < 32) (hb0 : 0 < b) (hb : b < 32) (hc0 : 0 < c) (hc : c < 32) (w : World) :
    Calls Tryd.prog 42 #[.int .u32 (wI x), .int .i64 (a : Int), .int .i64 (b : Int), .int .i64 (c : Int)] w fun e w' => e = .returned (.int .u32 (wI (parts x a b c))) ∧ w' = w.drew := by
  have haB : (a : Int) < 32 := by omega
  have hbB : (b : Int) < 32 := by omega
  have hcB : (c : Int) < 32 := by omega
  go_enter Tryd.func42, Tryd.ntmps42
  go_wp2_with fail
  refine zquiet (C := fun w' => w' = w.drew) (by kernel_rfl) (by kernel_rfl) rfl ?_
  iterate 3 (go_big_quiet_want; go_big_quiet_op; first | go_big_quiet_on | (refine ⟨_, fun _ _ => rfl, ?_⟩; go_big_quiet_on))
  go_big_quiet_want; go_big_quiet_op; refine ⟨.int .u32 (wI (rotr x a)), (rot_any x a ha0 ha _).mono fun e w' ⟨he, hw⟩ => ⟨he, hw.symm⟩, ?_⟩
  go_big_quiet_on
  iterate 3 (go_big_quiet_want; go_big_quiet_op; first | go_big_quiet_on | (refine ⟨_, fun _ _ => rfl, ?_⟩; go_big_quiet_on))
  go_big_quiet_want; go_big_quiet_op; refine ⟨.int .u32 (wI (rotr x b)), (rot_any x b hb0 hb _).mono fun e w' ⟨he, hw⟩ => ⟨he, hw.symm⟩, ?_⟩
  go_big_quiet_on
  iterate 6 (go_big_quiet_want; go_big_quiet_op; first | go_big_quiet_on | (refine ⟨_, fun _ _ => rfl, ?_⟩; go_big_quiet_on))
  refine wpQuiet_nil ?_
  intro w2 hq
  subst hq
  go_wp2
  go_ret
  exact ⟨rfl, rfl⟩
end Go.Proofs.YtpkgmoiffegbfaaDoor
