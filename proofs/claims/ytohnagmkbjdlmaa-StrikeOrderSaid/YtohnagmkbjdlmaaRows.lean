/-
  No cell of these rows narrows 'for every input' (looked for: loops, veiled, ifaces, maps, wideKeys, modest, calm, conditions, laid).
  DERIVED. THE GIVEN ROWS OF THIS SEAT. 3 by the template 'for every input the law returns true; each argument reads behind the call as it read before'; 0 by the template 'total and deterministic' (their statements: YtohnagmkbjdlmaaTotals.lean).
  GIVEN WITH THE SEED: the statements are not yours to turn. If you find one false, say at which input.
  Laid BY PROGRAM, IN A SANDBOX (cutbox-rows.mjs): the forced cells as the released guide's own fill.sh prints them over the translation 166d645d530a42dd… (all of the seat's roots in one cut). By AI agents, Wed Nov 11 2026. No macro, syntax, notation, axiom, sorry.
-/
import Derived.Test.YtohnagmkbjdlmaaChecked
import GoSem.Claim
import GoSem.ClaimJoined
import GoSem.ClaimMapViews
import Derived.JoinedTies
import Derived.KernelRfl
namespace Go.Proofs.Ytohnagmkbjdlmaa
/- THE CELL 'sum', in the pinned program and in every row, IS THE sha256 OF THE DUMP (.gsa) THAT YtohnagmkbjdlmaaProg.lean LOADS. Nothing in Lean hashes anything: it is a label: what it is worth is what the hold of that sum in a sandbox is worth. -/
noncomputable def Try.pinned : Pinned := { name := "ytohnagmkbjdlmaa", sum := "166d645d530a42ddf65169a75d568caafeed8651a89bfa52be1853bf4d2afe53", checked := Try.checked }
namespace Rows
def none {H : Type} : Left H := { results := [], args := [] }

/-- 'consignlaw23.StrikeOrder': WHATEVER THE INPUT: true; the input reads as it did. -/
def strikeOrderSpec : ChangeSpec := { name := "strikeOrder", fn := fun _ => fun
  | [d1, d2] => { results := [.lit (.bool true)], args := [d1, d2] }
  | _ => none }
def strikeOrderRow : OpenClaim := { program := "ytohnagmkbjdlmaa", sum := "166d645d530a42ddf65169a75d568caafeed8651a89bfa52be1853bf4d2afe53", func := "consign/consignlaw23.StrikeOrder", spec := "strikeOrder", unfollowed := true, recurses := true, apart := false }
def StrikeOrderSaid : Prop := strikeOrderRow.holds Try.pinned (OpenSpec.ofChange strikeOrderSpec)

/-- ITS FALSE NEIGHBOUR: 'it returns false'. Refute it at one input. -/
def strikeOrderWrong : ChangeSpec := { name := "strikeOrder", fn := fun _ => fun
  | [d1, d2] => { results := [.lit (.bool false)], args := [d1, d2] }
  | _ => none }
def StrikeOrderWrongFalsely : Prop := strikeOrderRow.holds Try.pinned (OpenSpec.ofChange strikeOrderWrong)

/-- 'consignlaw23.StrikeStays': WHATEVER THE INPUT: true; the input reads as it did. -/
def strikeStaysSpec : ChangeSpec := { name := "strikeStays", fn := fun _ => fun
  | [d] => { results := [.lit (.bool true)], args := [d] }
  | _ => none }
def strikeStaysRow : OpenClaim := { program := "ytohnagmkbjdlmaa", sum := "166d645d530a42ddf65169a75d568caafeed8651a89bfa52be1853bf4d2afe53", func := "consign/consignlaw23.StrikeStays", spec := "strikeStays", unfollowed := true, recurses := true, apart := false }
def StrikeStaysSaid : Prop := strikeStaysRow.holds Try.pinned (OpenSpec.ofChange strikeStaysSpec)

/-- ITS FALSE NEIGHBOUR: 'it returns false'. Refute it at one input. -/
def strikeStaysWrong : ChangeSpec := { name := "strikeStays", fn := fun _ => fun
  | [d] => { results := [.lit (.bool false)], args := [d] }
  | _ => none }
def StrikeStaysWrongFalsely : Prop := strikeStaysRow.holds Try.pinned (OpenSpec.ofChange strikeStaysWrong)

/-- 'consignlaw23.StrikeKnown': WHATEVER THE INPUT: true; the input reads as it did. -/
def strikeKnownSpec : ChangeSpec := { name := "strikeKnown", fn := fun _ => fun
  | [] => { results := [.lit (.bool true)], args := [] }
  | _ => none }
def strikeKnownRow : OpenClaim := { program := "ytohnagmkbjdlmaa", sum := "166d645d530a42ddf65169a75d568caafeed8651a89bfa52be1853bf4d2afe53", func := "consign/consignlaw23.StrikeKnown", spec := "strikeKnown", unfollowed := true, recurses := true, apart := false }
def StrikeKnownSaid : Prop := strikeKnownRow.holds Try.pinned (OpenSpec.ofChange strikeKnownSpec)

/-- ITS FALSE NEIGHBOUR: 'it returns false'. Refute it at one input. -/
def strikeKnownWrong : ChangeSpec := { name := "strikeKnown", fn := fun _ => fun
  | [] => { results := [.lit (.bool false)], args := [] }
  | _ => none }
def StrikeKnownWrongFalsely : Prop := strikeKnownRow.holds Try.pinned (OpenSpec.ofChange strikeKnownWrong)

/- THE SECOND FORM. 'bulk': how many values and letters a reading holds, each counted each time it is reached (what is shared counts as often as it is met; a slice's spare places count too). A statement '..UptoSaid' is the law's where the arguments, and the package variables that the reading takes, are together of bulk at most 1048576: NARROWER than '..Said'. Prove '..Said' where nothing that the law and all that it calls make is longer than what came in: it says more and counts as full. Else prove '..UptoSaid'. A law counts once. -/
mutual
def uptoBulk {H : Type} : DataW H → Nat
  | .lit (.string bytes) => bytes.length + 1
  | .lit _ => 1
  | .nil => 1
  | .ptr d => uptoBulk d + 1
  | .slice elems spare => uptoBulkAll elems + uptoBulkAll spare + 1
  | .agg parts => uptoBulkAll parts + 1
  | .iface _ d => uptoBulk d + 1
  | .map entries => uptoBulkEntries entries + 1
  | .held _ => 1
def uptoBulkAll {H : Type} : List (DataW H) → Nat
  | [] => 0
  | d :: r => uptoBulk d + uptoBulkAll r
def uptoBulkEntries {H : Type} : List (Lit × DataW H) → Nat
  | [] => 0
  | x :: r => uptoBulkEntry x + uptoBulkEntries r
def uptoBulkEntry {H : Type} : Lit × DataW H → Nat
  | (.string bytes, d) => bytes.length + uptoBulk d + 1
  | (_, d) => uptoBulk d + 1
 end
def uptoSmall : (H : Type) → List (DataW H) → Bool := fun _ ds => decide (uptoBulkAll ds ≤ 1048576)
def OpenSpec.upto (s : _root_.Go.ChangeSpec) : _root_.Go.OpenSpec := { _root_.Go.OpenSpec.ofChange s with cond := some uptoSmall }

/-- 'consignlaw23.StrikeOrder', WHERE WHAT IT READS IS OF BULK AT MOST 1048576: true; the input reads as it did. -/
def strikeOrderUptoRow : OpenClaim := { program := "ytohnagmkbjdlmaa", sum := "166d645d530a42ddf65169a75d568caafeed8651a89bfa52be1853bf4d2afe53", func := "consign/consignlaw23.StrikeOrder", spec := "strikeOrder", unfollowed := true, recurses := true, apart := false, narrowed := true }
def StrikeOrderUptoSaid : Prop := strikeOrderUptoRow.holds Try.pinned (OpenSpec.upto strikeOrderSpec)

/-- 'consignlaw23.StrikeStays', WHERE WHAT IT READS IS OF BULK AT MOST 1048576: true; the input reads as it did. -/
def strikeStaysUptoRow : OpenClaim := { program := "ytohnagmkbjdlmaa", sum := "166d645d530a42ddf65169a75d568caafeed8651a89bfa52be1853bf4d2afe53", func := "consign/consignlaw23.StrikeStays", spec := "strikeStays", unfollowed := true, recurses := true, apart := false, narrowed := true }
def StrikeStaysUptoSaid : Prop := strikeStaysUptoRow.holds Try.pinned (OpenSpec.upto strikeStaysSpec)

/-- 'consignlaw23.StrikeKnown', WHERE WHAT IT READS IS OF BULK AT MOST 1048576: true; the input reads as it did. -/
def strikeKnownUptoRow : OpenClaim := { program := "ytohnagmkbjdlmaa", sum := "166d645d530a42ddf65169a75d568caafeed8651a89bfa52be1853bf4d2afe53", func := "consign/consignlaw23.StrikeKnown", spec := "strikeKnown", unfollowed := true, recurses := true, apart := false, narrowed := true }
def StrikeKnownUptoSaid : Prop := strikeKnownUptoRow.holds Try.pinned (OpenSpec.upto strikeKnownSpec)

end Rows
end Go.Proofs.Ytohnagmkbjdlmaa
