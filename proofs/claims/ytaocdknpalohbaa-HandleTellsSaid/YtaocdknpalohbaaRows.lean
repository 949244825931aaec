/-
  No cell of these rows narrows 'for every input' (looked for: loops, veiled, ifaces, maps, wideKeys, modest, calm, conditions, laid).
  DERIVED. THE GIVEN ROWS OF THIS SEAT. 5 by the template 'for every input the law returns true; each argument reads behind the call as it read before'; 0 by the template 'total and deterministic' (their statements: YtaocdknpalohbaaTotals.lean).
  GIVEN WITH THE SEED: the statements are not yours to turn. If you find one false, say at which input.
  Laid BY PROGRAM, IN A SANDBOX (cutbox-rows.mjs): the forced cells as the released guide's own fill.sh prints them over the translation cb5b3001a67c3612… (all of the seat's roots in one cut). By AI agents, Wed Nov 11 2026. No macro, syntax, notation, axiom, sorry.
-/
import Derived.Test.YtaocdknpalohbaaChecked
import GoSem.Claim
import GoSem.ClaimJoined
import GoSem.ClaimMapViews
import Derived.JoinedTies
import Derived.KernelRfl
namespace Go.Proofs.Ytaocdknpalohbaa
/- THE CELL 'sum', in the pinned program and in every row, IS THE sha256 OF THE DUMP (.gsa) THAT YtaocdknpalohbaaProg.lean LOADS. Nothing in Lean hashes anything: it is a label: what it is worth is what the hold of that sum in a sandbox is worth. -/
noncomputable def Try.pinned : Pinned := { name := "ytaocdknpalohbaa", sum := "cb5b3001a67c3612de07cd05a88ee3b2eef5c4abf333f2f90544df576309c22d", checked := Try.checked }
namespace Rows
def none {H : Type} : Left H := { results := [], args := [] }

/-- 'consignlaw20.HandleTells': WHATEVER THE INPUT: true; the input reads as it did. -/
def handleTellsSpec : ChangeSpec := { name := "handleTells", fn := fun _ => fun
  | [d] => { results := [.lit (.bool true)], args := [d] }
  | _ => none }
def handleTellsRow : OpenClaim := { program := "ytaocdknpalohbaa", sum := "cb5b3001a67c3612de07cd05a88ee3b2eef5c4abf333f2f90544df576309c22d", func := "consign/consignlaw20.HandleTells", spec := "handleTells", plainKeys := false, apart := false }
def HandleTellsSaid : Prop := handleTellsRow.holds Try.pinned (OpenSpec.ofChange handleTellsSpec)

/-- ITS FALSE NEIGHBOUR: 'it returns false'. Refute it at one input. -/
def handleTellsWrong : ChangeSpec := { name := "handleTells", fn := fun _ => fun
  | [d] => { results := [.lit (.bool false)], args := [d] }
  | _ => none }
def HandleTellsWrongFalsely : Prop := handleTellsRow.holds Try.pinned (OpenSpec.ofChange handleTellsWrong)

/-- 'consignlaw20.HandleHides': WHATEVER THE INPUT: true; the input reads as it did. -/
def handleHidesSpec : ChangeSpec := { name := "handleHides", fn := fun _ => fun
  | [d1, d2] => { results := [.lit (.bool true)], args := [d1, d2] }
  | _ => none }
def handleHidesRow : OpenClaim := { program := "ytaocdknpalohbaa", sum := "cb5b3001a67c3612de07cd05a88ee3b2eef5c4abf333f2f90544df576309c22d", func := "consign/consignlaw20.HandleHides", spec := "handleHides", plainKeys := false, apart := false }
def HandleHidesSaid : Prop := handleHidesRow.holds Try.pinned (OpenSpec.ofChange handleHidesSpec)

/-- ITS FALSE NEIGHBOUR: 'it returns false'. Refute it at one input. -/
def handleHidesWrong : ChangeSpec := { name := "handleHides", fn := fun _ => fun
  | [d1, d2] => { results := [.lit (.bool false)], args := [d1, d2] }
  | _ => none }
def HandleHidesWrongFalsely : Prop := handleHidesRow.holds Try.pinned (OpenSpec.ofChange handleHidesWrong)

/-- 'consignlaw20.HandleDigests': WHATEVER THE INPUT: true; the input reads as it did. -/
def handleDigestsSpec : ChangeSpec := { name := "handleDigests", fn := fun _ => fun
  | [d1, d2, d3] => { results := [.lit (.bool true)], args := [d1, d2, d3] }
  | _ => none }
def handleDigestsRow : OpenClaim := { program := "ytaocdknpalohbaa", sum := "cb5b3001a67c3612de07cd05a88ee3b2eef5c4abf333f2f90544df576309c22d", func := "consign/consignlaw20.HandleDigests", spec := "handleDigests", plainKeys := false, apart := false }
def HandleDigestsSaid : Prop := handleDigestsRow.holds Try.pinned (OpenSpec.ofChange handleDigestsSpec)

/-- ITS FALSE NEIGHBOUR: 'it returns false'. Refute it at one input. -/
def handleDigestsWrong : ChangeSpec := { name := "handleDigests", fn := fun _ => fun
  | [d1, d2, d3] => { results := [.lit (.bool false)], args := [d1, d2, d3] }
  | _ => none }
def HandleDigestsWrongFalsely : Prop := handleDigestsRow.holds Try.pinned (OpenSpec.ofChange handleDigestsWrong)

/-- 'consignlaw20.HandleBinds': WHATEVER THE INPUT: true; the input reads as it did. -/
def handleBindsSpec : ChangeSpec := { name := "handleBinds", fn := fun _ => fun
  | [d1, d2] => { results := [.lit (.bool true)], args := [d1, d2] }
  | _ => none }
def handleBindsRow : OpenClaim := { program := "ytaocdknpalohbaa", sum := "cb5b3001a67c3612de07cd05a88ee3b2eef5c4abf333f2f90544df576309c22d", func := "consign/consignlaw20.HandleBinds", spec := "handleBinds", plainKeys := false, apart := false }
def HandleBindsSaid : Prop := handleBindsRow.holds Try.pinned (OpenSpec.ofChange handleBindsSpec)

/-- ITS FALSE NEIGHBOUR: 'it returns false'. Refute it at one input. -/
def handleBindsWrong : ChangeSpec := { name := "handleBinds", fn := fun _ => fun
  | [d1, d2] => { results := [.lit (.bool false)], args := [d1, d2] }
  | _ => none }
def HandleBindsWrongFalsely : Prop := handleBindsRow.holds Try.pinned (OpenSpec.ofChange handleBindsWrong)

/-- 'consignlaw20.HandleKnown': WHATEVER THE INPUT: true; the input reads as it did. -/
def handleKnownSpec : ChangeSpec := { name := "handleKnown", fn := fun _ => fun
  | [] => { results := [.lit (.bool true)], args := [] }
  | _ => none }
def handleKnownRow : OpenClaim := { program := "ytaocdknpalohbaa", sum := "cb5b3001a67c3612de07cd05a88ee3b2eef5c4abf333f2f90544df576309c22d", func := "consign/consignlaw20.HandleKnown", spec := "handleKnown", plainKeys := false, apart := false }
def HandleKnownSaid : Prop := handleKnownRow.holds Try.pinned (OpenSpec.ofChange handleKnownSpec)

/-- ITS FALSE NEIGHBOUR: 'it returns false'. Refute it at one input. -/
def handleKnownWrong : ChangeSpec := { name := "handleKnown", fn := fun _ => fun
  | [] => { results := [.lit (.bool false)], args := [] }
  | _ => none }
def HandleKnownWrongFalsely : Prop := handleKnownRow.holds Try.pinned (OpenSpec.ofChange handleKnownWrong)

/- THE SECOND FORM. 'bulk': how many values and letters a reading holds, each counted each time it is reached (what is shared counts as often as it is met; a slice's spare places count too). A statement '..UptoSaid' is the law's where the arguments, and the package variables that the reading takes, are together of bulk at most 1048576: NARROWER than '..Said'. Prove '..Said' where nothing that the law and all that it calls make is longer than what came in: it says more and counts as full. Else prove '..UptoSaid'. A law counts once. -/
mutual
def uptoBulk {H : Type} : DataW H → Nat
  | .lit (.string bytes) => bytes.length + 1
  | .lit _ => 1
  | .nil => 1
  | .ptr d => uptoBulk d + 1
  | .slice elems spare => uptoBulkAll elems + uptoBulkAll spare + 1
  | .agg parts => uptoBulkAll parts + 1
  | .iface _ d => uptoBulk d + 1
  | .map entries => uptoBulkEntries entries + 1
  | .held _ => 1
def uptoBulkAll {H : Type} : List (DataW H) → Nat
  | [] => 0
  | d :: r => uptoBulk d + uptoBulkAll r
def uptoBulkEntries {H : Type} : List (Lit × DataW H) → Nat
  | [] => 0
  | x :: r => uptoBulkEntry x + uptoBulkEntries r
def uptoBulkEntry {H : Type} : Lit × DataW H → Nat
  | (.string bytes, d) => bytes.length + uptoBulk d + 1
  | (_, d) => uptoBulk d + 1
 end
def uptoSmall : (H : Type) → List (DataW H) → Bool := fun _ ds => decide (uptoBulkAll ds ≤ 1048576)
def OpenSpec.upto (s : _root_.Go.ChangeSpec) : _root_.Go.OpenSpec := { _root_.Go.OpenSpec.ofChange s with cond := some uptoSmall }

/-- 'consignlaw20.HandleTells', WHERE WHAT IT READS IS OF BULK AT MOST 1048576: true; the input reads as it did. -/
def handleTellsUptoRow : OpenClaim := { program := "ytaocdknpalohbaa", sum := "cb5b3001a67c3612de07cd05a88ee3b2eef5c4abf333f2f90544df576309c22d", func := "consign/consignlaw20.HandleTells", spec := "handleTells", plainKeys := false, apart := false, narrowed := true }
def HandleTellsUptoSaid : Prop := handleTellsUptoRow.holds Try.pinned (OpenSpec.upto handleTellsSpec)

/-- 'consignlaw20.HandleHides', WHERE WHAT IT READS IS OF BULK AT MOST 1048576: true; the input reads as it did. -/
def handleHidesUptoRow : OpenClaim := { program := "ytaocdknpalohbaa", sum := "cb5b3001a67c3612de07cd05a88ee3b2eef5c4abf333f2f90544df576309c22d", func := "consign/consignlaw20.HandleHides", spec := "handleHides", plainKeys := false, apart := false, narrowed := true }
def HandleHidesUptoSaid : Prop := handleHidesUptoRow.holds Try.pinned (OpenSpec.upto handleHidesSpec)

/-- 'consignlaw20.HandleDigests', WHERE WHAT IT READS IS OF BULK AT MOST 1048576: true; the input reads as it did. -/
def handleDigestsUptoRow : OpenClaim := { program := "ytaocdknpalohbaa", sum := "cb5b3001a67c3612de07cd05a88ee3b2eef5c4abf333f2f90544df576309c22d", func := "consign/consignlaw20.HandleDigests", spec := "handleDigests", plainKeys := false, apart := false, narrowed := true }
def HandleDigestsUptoSaid : Prop := handleDigestsUptoRow.holds Try.pinned (OpenSpec.upto handleDigestsSpec)

/-- 'consignlaw20.HandleBinds', WHERE WHAT IT READS IS OF BULK AT MOST 1048576: true; the input reads as it did. -/
def handleBindsUptoRow : OpenClaim := { program := "ytaocdknpalohbaa", sum := "cb5b3001a67c3612de07cd05a88ee3b2eef5c4abf333f2f90544df576309c22d", func := "consign/consignlaw20.HandleBinds", spec := "handleBinds", plainKeys := false, apart := false, narrowed := true }
def HandleBindsUptoSaid : Prop := handleBindsUptoRow.holds Try.pinned (OpenSpec.upto handleBindsSpec)

/-- 'consignlaw20.HandleKnown', WHERE WHAT IT READS IS OF BULK AT MOST 1048576: true; the input reads as it did. -/
def handleKnownUptoRow : OpenClaim := { program := "ytaocdknpalohbaa", sum := "cb5b3001a67c3612de07cd05a88ee3b2eef5c4abf333f2f90544df576309c22d", func := "consign/consignlaw20.HandleKnown", spec := "handleKnown", plainKeys := false, apart := false, narrowed := true }
def HandleKnownUptoSaid : Prop := handleKnownUptoRow.holds Try.pinned (OpenSpec.upto handleKnownSpec)

end Rows
end Go.Proofs.Ytaocdknpalohbaa
