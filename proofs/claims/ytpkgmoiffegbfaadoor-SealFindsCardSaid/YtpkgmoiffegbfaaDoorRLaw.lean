/- The document's sum in plain Lean: its padding, its words, its rounds are the program's. No condition. -/
import Derived.Test.YtpkgmoiffegbfaaDoorZEval
namespace Go.Proofs.YtpkgmoiffegbfaaDoor
open Go.RowKit
set_option maxRecDepth 20000

/-- A text, padded, as the document says. -/
def padR (t : List UInt8) : List UInt8 := t ++ padB t.length t.length
theorem padB_mod (r len : Nat) : padB (r % 64) len = padB r len := by unfold padB; rw [Nat.mod_mod]
theorem padR_length (t : List UInt8) : (padR t).length % 64 = 0 := by
  simp [padR, padB, be8]; omega
theorem shaOf_pad (K : List W) (F : S8) (t : List UInt8) : shaOf K F t = outB (whole K F (padR t) ((padR t).length / 64)) := by
  have hl : (restOf t).length = t.length % 64 := by simp [restOf]; omega
  have hn : (padR t).length / 64 = t.length / 64 + (restOf t ++ padB (restOf t).length t.length).length / 64 := by
    rw [hl, padB_mod, List.length_append, hl, padR, List.length_append]
    omega
  rw [shaOf, lastS, stOf, hn, whole_add, padR, whole_prefix K F t _ _ (by omega), List.drop_append_of_le_length (by omega), hl, padB_mod]
  rfl
/-- Turned right, as the document writes it. -/
theorem rotr_doc (x : W) (n : Nat) : x >>> n ||| x <<< (32 - n) = rotr x n := by rw [rotr, BitVec.or_comm]
theorem ch_doc (e f g : W) : e &&& f ^^^ ~~~e &&& g = g ^^^ (e &&& (f ^^^ g)) := by
  apply BitVec.eq_of_getLsbD_eq
  intro i hi
  simp only [BitVec.getLsbD_xor, BitVec.getLsbD_and, BitVec.getLsbD_not, hi, decide_true, Bool.true_and]
  cases e.getLsbD i <;> cases f.getLsbD i <;> cases g.getLsbD i <;> rfl
theorem maj_doc (a b c : W) : a &&& b ^^^ a &&& c ^^^ b &&& c = a &&& b ||| c &&& (a ||| b) := by
  apply BitVec.eq_of_getLsbD_eq
  intro i hi
  simp only [BitVec.getLsbD_xor, BitVec.getLsbD_and, BitVec.getLsbD_or]
  cases a.getLsbD i <;> cases b.getLsbD i <;> cases c.getLsbD i <;> rfl
theorem pack_doc (a b c d : W) : a <<< 24 ||| b <<< 16 ||| c <<< 8 ||| d = (((0 <<< 8 ||| a) <<< 8 ||| b) <<< 8 ||| c) <<< 8 ||| d := by
  simp [BitVec.shiftLeft_or_distrib, ← BitVec.shiftLeft_add]
end Go.Proofs.YtpkgmoiffegbfaaDoor
