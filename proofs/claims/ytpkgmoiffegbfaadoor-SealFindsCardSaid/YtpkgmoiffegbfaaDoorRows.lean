/-
  NARROWER THAN 'FOR EVERY INPUT', by the rows' own cells (each row's printed sentence says how): ShaPieces: laid · ShaOwn: laid · ShaKnown: laid · ShaTells: laid · ShaWrites: laid · SealOpens: laid · SealApart: laid · SealMarks: laid · SealKnown: laid · SealTells: laid · SealFinds: laid.
  DERIVED. THE GIVEN ROWS OF THIS SEAT. 11 by the template 'for every input the law returns true; each argument reads behind the call as it read before'; 0 by the template 'total and deterministic' (their statements: YtpkgmoiffegbfaaDoorTotals.lean).
  GIVEN WITH THE SEED: the statements are not yours to turn. If you find one false, say at which input.
  Laid BY PROGRAM, IN A SANDBOX (cutbox-rows.mjs): the forced cells as the released guide's own fill.sh prints them over the translation 79f9980c43d12f43… (all of the seat's roots in one cut). By AI agents, Wed Nov 11 2026. No macro, syntax, notation, axiom, sorry.
-/
import Derived.Test.YtpkgmoiffegbfaaDoorChecked
import GoSem.Claim
import GoSem.ClaimJoined
import GoSem.ClaimMapViews
import Derived.JoinedTies
import Derived.KernelRfl
namespace Go.Proofs.YtpkgmoiffegbfaaDoor
/- THE CELL 'sum', in the pinned program and in every row, IS THE sha256 OF THE DUMP (.gsa) THAT YtpkgmoiffegbfaaDoorProg.lean LOADS. Nothing in Lean hashes anything: it is a label: what it is worth is what the hold of that sum in a sandbox is worth. -/
noncomputable def Tryd.pinned : Pinned := { name := "ytpkgmoiffegbfaadoor", sum := "79f9980c43d12f435af31aefe755c5c14a8a1d338d3e5766ca8dcb620ebcc5fc", checked := Tryd.checked }
namespace Rows
def none {H : Type} : Left H := { results := [], args := [] }

/- WHAT THE LISTED PACKAGE-LEVEL VARIABLES READ AS WHEN THE CALL BEGINS. Each datum BY PROGRAM (the guide's laid-datum.mjs) off the statement by which the dump's own 'gosem.cut.vars' lays the variable. In a bare row this is a premise. The card (YtpkgmoiffegbfaaDoorCards.lean) ties it to the program's text. -/
def laid_consign_sha_first {H : Type} : DataW H := .agg [.lit (.int .u32 1779033703), .lit (.int .u32 3144134277), .lit (.int .u32 1013904242), .lit (.int .u32 2773480762), .lit (.int .u32 1359893119), .lit (.int .u32 2600822924), .lit (.int .u32 528734635), .lit (.int .u32 1541459225)]
def laid_consign_sha_rounds {H : Type} : DataW H := .agg [.lit (.int .u32 1116352408), .lit (.int .u32 1899447441), .lit (.int .u32 3049323471), .lit (.int .u32 3921009573), .lit (.int .u32 961987163), .lit (.int .u32 1508970993), .lit (.int .u32 2453635748), .lit (.int .u32 2870763221), .lit (.int .u32 3624381080), .lit (.int .u32 310598401), .lit (.int .u32 607225278), .lit (.int .u32 1426881987), .lit (.int .u32 1925078388), .lit (.int .u32 2162078206), .lit (.int .u32 2614888103), .lit (.int .u32 3248222580), .lit (.int .u32 3835390401), .lit (.int .u32 4022224774), .lit (.int .u32 264347078), .lit (.int .u32 604807628), .lit (.int .u32 770255983), .lit (.int .u32 1249150122), .lit (.int .u32 1555081692), .lit (.int .u32 1996064986), .lit (.int .u32 2554220882), .lit (.int .u32 2821834349), .lit (.int .u32 2952996808), .lit (.int .u32 3210313671), .lit (.int .u32 3336571891), .lit (.int .u32 3584528711), .lit (.int .u32 113926993), .lit (.int .u32 338241895), .lit (.int .u32 666307205), .lit (.int .u32 773529912), .lit (.int .u32 1294757372), .lit (.int .u32 1396182291), .lit (.int .u32 1695183700), .lit (.int .u32 1986661051), .lit (.int .u32 2177026350), .lit (.int .u32 2456956037), .lit (.int .u32 2730485921), .lit (.int .u32 2820302411), .lit (.int .u32 3259730800), .lit (.int .u32 3345764771), .lit (.int .u32 3516065817), .lit (.int .u32 3600352804), .lit (.int .u32 4094571909), .lit (.int .u32 275423344), .lit (.int .u32 430227734), .lit (.int .u32 506948616), .lit (.int .u32 659060556), .lit (.int .u32 883997877), .lit (.int .u32 958139571), .lit (.int .u32 1322822218), .lit (.int .u32 1537002063), .lit (.int .u32 1747873779), .lit (.int .u32 1955562222), .lit (.int .u32 2024104815), .lit (.int .u32 2227730452), .lit (.int .u32 2361852424), .lit (.int .u32 2428436474), .lit (.int .u32 2756734187), .lit (.int .u32 3204031479), .lit (.int .u32 3329325298)]

/-- 'consignlaw15.ShaPieces': WHATEVER THE INPUT: true; the input reads as it did. -/
def shaPiecesSpec : ChangeSpec := { name := "shaPieces", fn := fun _ => fun
  | [d1, d2] => { results := [.lit (.bool true)], args := [d1, d2] }
  | _ => none }
def shaPiecesRow : OpenClaim := { program := "ytpkgmoiffegbfaadoor", sum := "79f9980c43d12f435af31aefe755c5c14a8a1d338d3e5766ca8dcb620ebcc5fc", func := "consign/consignlaw15.ShaPieces", spec := "shaPieces", unfollowed := true, recurses := true, named := ["consign/sha.first", "consign/sha.rounds"], apart := false, laid := [("consign/sha.first", laid_consign_sha_first), ("consign/sha.rounds", laid_consign_sha_rounds)] }
def ShaPiecesSaid : Prop := shaPiecesRow.holds Tryd.pinned (OpenSpec.ofChange shaPiecesSpec)

/-- ITS FALSE NEIGHBOUR: 'it returns false'. Refute it at one input. -/
def shaPiecesWrong : ChangeSpec := { name := "shaPieces", fn := fun _ => fun
  | [d1, d2] => { results := [.lit (.bool false)], args := [d1, d2] }
  | _ => none }
def ShaPiecesWrongFalsely : Prop := shaPiecesRow.holds Tryd.pinned (OpenSpec.ofChange shaPiecesWrong)

/-- 'consignlaw15.ShaOwn': WHATEVER THE INPUT: true; the input reads as it did. -/
def shaOwnSpec : ChangeSpec := { name := "shaOwn", fn := fun _ => fun
  | [d1, d2, d3] => { results := [.lit (.bool true)], args := [d1, d2, d3] }
  | _ => none }
def shaOwnRow : OpenClaim := { program := "ytpkgmoiffegbfaadoor", sum := "79f9980c43d12f435af31aefe755c5c14a8a1d338d3e5766ca8dcb620ebcc5fc", func := "consign/consignlaw15.ShaOwn", spec := "shaOwn", unfollowed := true, recurses := true, named := ["consign/sha.first", "consign/sha.rounds"], apart := false, laid := [("consign/sha.first", laid_consign_sha_first), ("consign/sha.rounds", laid_consign_sha_rounds)] }
def ShaOwnSaid : Prop := shaOwnRow.holds Tryd.pinned (OpenSpec.ofChange shaOwnSpec)

/-- ITS FALSE NEIGHBOUR: 'it returns false'. Refute it at one input. -/
def shaOwnWrong : ChangeSpec := { name := "shaOwn", fn := fun _ => fun
  | [d1, d2, d3] => { results := [.lit (.bool false)], args := [d1, d2, d3] }
  | _ => none }
def ShaOwnWrongFalsely : Prop := shaOwnRow.holds Tryd.pinned (OpenSpec.ofChange shaOwnWrong)

/-- 'consignlaw15.ShaKnown': WHATEVER THE INPUT: true; the input reads as it did. -/
def shaKnownSpec : ChangeSpec := { name := "shaKnown", fn := fun _ => fun
  | [] => { results := [.lit (.bool true)], args := [] }
  | _ => none }
def shaKnownRow : OpenClaim := { program := "ytpkgmoiffegbfaadoor", sum := "79f9980c43d12f435af31aefe755c5c14a8a1d338d3e5766ca8dcb620ebcc5fc", func := "consign/consignlaw15.ShaKnown", spec := "shaKnown", unfollowed := true, recurses := true, named := ["consign/sha.rounds", "consign/sha.first"], apart := false, laid := [("consign/sha.first", laid_consign_sha_first), ("consign/sha.rounds", laid_consign_sha_rounds)] }
def ShaKnownSaid : Prop := shaKnownRow.holds Tryd.pinned (OpenSpec.ofChange shaKnownSpec)

/-- ITS FALSE NEIGHBOUR: 'it returns false'. Refute it at one input. -/
def shaKnownWrong : ChangeSpec := { name := "shaKnown", fn := fun _ => fun
  | [] => { results := [.lit (.bool false)], args := [] }
  | _ => none }
def ShaKnownWrongFalsely : Prop := shaKnownRow.holds Tryd.pinned (OpenSpec.ofChange shaKnownWrong)

/-- 'consignlaw15.ShaTells': WHATEVER THE INPUT: true; the input reads as it did. -/
def shaTellsSpec : ChangeSpec := { name := "shaTells", fn := fun _ => fun
  | [d] => { results := [.lit (.bool true)], args := [d] }
  | _ => none }
def shaTellsRow : OpenClaim := { program := "ytpkgmoiffegbfaadoor", sum := "79f9980c43d12f435af31aefe755c5c14a8a1d338d3e5766ca8dcb620ebcc5fc", func := "consign/consignlaw15.ShaTells", spec := "shaTells", unfollowed := true, recurses := true, named := ["consign/sha.first", "consign/sha.rounds"], apart := false, laid := [("consign/sha.first", laid_consign_sha_first), ("consign/sha.rounds", laid_consign_sha_rounds)] }
def ShaTellsSaid : Prop := shaTellsRow.holds Tryd.pinned (OpenSpec.ofChange shaTellsSpec)

/-- ITS FALSE NEIGHBOUR: 'it returns false'. Refute it at one input. -/
def shaTellsWrong : ChangeSpec := { name := "shaTells", fn := fun _ => fun
  | [d] => { results := [.lit (.bool false)], args := [d] }
  | _ => none }
def ShaTellsWrongFalsely : Prop := shaTellsRow.holds Tryd.pinned (OpenSpec.ofChange shaTellsWrong)

/-- 'consignlaw15.ShaWrites': WHATEVER THE INPUT: true; the input reads as it did. -/
def shaWritesSpec : ChangeSpec := { name := "shaWrites", fn := fun _ => fun
  | [d] => { results := [.lit (.bool true)], args := [d] }
  | _ => none }
def shaWritesRow : OpenClaim := { program := "ytpkgmoiffegbfaadoor", sum := "79f9980c43d12f435af31aefe755c5c14a8a1d338d3e5766ca8dcb620ebcc5fc", func := "consign/consignlaw15.ShaWrites", spec := "shaWrites", unfollowed := true, recurses := true, named := ["consign/sha.first", "consign/sha.rounds"], apart := false, laid := [("consign/sha.first", laid_consign_sha_first), ("consign/sha.rounds", laid_consign_sha_rounds)] }
def ShaWritesSaid : Prop := shaWritesRow.holds Tryd.pinned (OpenSpec.ofChange shaWritesSpec)

/-- ITS FALSE NEIGHBOUR: 'it returns false'. Refute it at one input. -/
def shaWritesWrong : ChangeSpec := { name := "shaWrites", fn := fun _ => fun
  | [d] => { results := [.lit (.bool false)], args := [d] }
  | _ => none }
def ShaWritesWrongFalsely : Prop := shaWritesRow.holds Tryd.pinned (OpenSpec.ofChange shaWritesWrong)

/-- 'consignlaw19.SealOpens': WHATEVER THE INPUT: true; the input reads as it did. -/
def sealOpensSpec : ChangeSpec := { name := "sealOpens", fn := fun _ => fun
  | [d1, d2, d3] => { results := [.lit (.bool true)], args := [d1, d2, d3] }
  | _ => none }
def sealOpensRow : OpenClaim := { program := "ytpkgmoiffegbfaadoor", sum := "79f9980c43d12f435af31aefe755c5c14a8a1d338d3e5766ca8dcb620ebcc5fc", func := "consign/consignlaw19.SealOpens", spec := "sealOpens", unfollowed := true, recurses := true, named := ["consign/sha.first", "consign/sha.rounds"], apart := false, laid := [("consign/sha.first", laid_consign_sha_first), ("consign/sha.rounds", laid_consign_sha_rounds)] }
def SealOpensSaid : Prop := sealOpensRow.holds Tryd.pinned (OpenSpec.ofChange sealOpensSpec)

/-- ITS FALSE NEIGHBOUR: 'it returns false'. Refute it at one input. -/
def sealOpensWrong : ChangeSpec := { name := "sealOpens", fn := fun _ => fun
  | [d1, d2, d3] => { results := [.lit (.bool false)], args := [d1, d2, d3] }
  | _ => none }
def SealOpensWrongFalsely : Prop := sealOpensRow.holds Tryd.pinned (OpenSpec.ofChange sealOpensWrong)

/-- 'consignlaw19.SealApart': WHATEVER THE INPUT: true; the input reads as it did. -/
def sealApartSpec : ChangeSpec := { name := "sealApart", fn := fun _ => fun
  | [d1, d2, d3] => { results := [.lit (.bool true)], args := [d1, d2, d3] }
  | _ => none }
def sealApartRow : OpenClaim := { program := "ytpkgmoiffegbfaadoor", sum := "79f9980c43d12f435af31aefe755c5c14a8a1d338d3e5766ca8dcb620ebcc5fc", func := "consign/consignlaw19.SealApart", spec := "sealApart", unfollowed := true, recurses := true, named := ["consign/sha.first", "consign/sha.rounds"], apart := false, laid := [("consign/sha.first", laid_consign_sha_first), ("consign/sha.rounds", laid_consign_sha_rounds)] }
def SealApartSaid : Prop := sealApartRow.holds Tryd.pinned (OpenSpec.ofChange sealApartSpec)

/-- ITS FALSE NEIGHBOUR: 'it returns false'. Refute it at one input. -/
def sealApartWrong : ChangeSpec := { name := "sealApart", fn := fun _ => fun
  | [d1, d2, d3] => { results := [.lit (.bool false)], args := [d1, d2, d3] }
  | _ => none }
def SealApartWrongFalsely : Prop := sealApartRow.holds Tryd.pinned (OpenSpec.ofChange sealApartWrong)

/-- 'consignlaw19.SealMarks': WHATEVER THE INPUT: true; the input reads as it did. -/
def sealMarksSpec : ChangeSpec := { name := "sealMarks", fn := fun _ => fun
  | [d] => { results := [.lit (.bool true)], args := [d] }
  | _ => none }
def sealMarksRow : OpenClaim := { program := "ytpkgmoiffegbfaadoor", sum := "79f9980c43d12f435af31aefe755c5c14a8a1d338d3e5766ca8dcb620ebcc5fc", func := "consign/consignlaw19.SealMarks", spec := "sealMarks", unfollowed := true, recurses := true, named := ["consign/sha.first", "consign/sha.rounds"], apart := false, laid := [("consign/sha.first", laid_consign_sha_first), ("consign/sha.rounds", laid_consign_sha_rounds)] }
def SealMarksSaid : Prop := sealMarksRow.holds Tryd.pinned (OpenSpec.ofChange sealMarksSpec)

/-- ITS FALSE NEIGHBOUR: 'it returns false'. Refute it at one input. -/
def sealMarksWrong : ChangeSpec := { name := "sealMarks", fn := fun _ => fun
  | [d] => { results := [.lit (.bool false)], args := [d] }
  | _ => none }
def SealMarksWrongFalsely : Prop := sealMarksRow.holds Tryd.pinned (OpenSpec.ofChange sealMarksWrong)

/-- 'consignlaw19.SealKnown': WHATEVER THE INPUT: true; the input reads as it did. -/
def sealKnownSpec : ChangeSpec := { name := "sealKnown", fn := fun _ => fun
  | [] => { results := [.lit (.bool true)], args := [] }
  | _ => none }
def sealKnownRow : OpenClaim := { program := "ytpkgmoiffegbfaadoor", sum := "79f9980c43d12f435af31aefe755c5c14a8a1d338d3e5766ca8dcb620ebcc5fc", func := "consign/consignlaw19.SealKnown", spec := "sealKnown", unfollowed := true, recurses := true, named := ["consign/sha.first", "consign/sha.rounds"], apart := false, laid := [("consign/sha.first", laid_consign_sha_first), ("consign/sha.rounds", laid_consign_sha_rounds)] }
def SealKnownSaid : Prop := sealKnownRow.holds Tryd.pinned (OpenSpec.ofChange sealKnownSpec)

/-- ITS FALSE NEIGHBOUR: 'it returns false'. Refute it at one input. -/
def sealKnownWrong : ChangeSpec := { name := "sealKnown", fn := fun _ => fun
  | [] => { results := [.lit (.bool false)], args := [] }
  | _ => none }
def SealKnownWrongFalsely : Prop := sealKnownRow.holds Tryd.pinned (OpenSpec.ofChange sealKnownWrong)

/-- 'consignlaw19.SealTells': WHATEVER THE INPUT: true; the input reads as it did. -/
def sealTellsSpec : ChangeSpec := { name := "sealTells", fn := fun _ => fun
  | [d1, d2, d3] => { results := [.lit (.bool true)], args := [d1, d2, d3] }
  | _ => none }
def sealTellsRow : OpenClaim := { program := "ytpkgmoiffegbfaadoor", sum := "79f9980c43d12f435af31aefe755c5c14a8a1d338d3e5766ca8dcb620ebcc5fc", func := "consign/consignlaw19.SealTells", spec := "sealTells", unfollowed := true, recurses := true, named := ["consign/sha.first", "consign/sha.rounds"], apart := false, laid := [("consign/sha.first", laid_consign_sha_first), ("consign/sha.rounds", laid_consign_sha_rounds)] }
def SealTellsSaid : Prop := sealTellsRow.holds Tryd.pinned (OpenSpec.ofChange sealTellsSpec)

/-- ITS FALSE NEIGHBOUR: 'it returns false'. Refute it at one input. -/
def sealTellsWrong : ChangeSpec := { name := "sealTells", fn := fun _ => fun
  | [d1, d2, d3] => { results := [.lit (.bool false)], args := [d1, d2, d3] }
  | _ => none }
def SealTellsWrongFalsely : Prop := sealTellsRow.holds Tryd.pinned (OpenSpec.ofChange sealTellsWrong)

/-- 'consignlaw19.SealFinds': WHATEVER THE INPUT: true; the input reads as it did. -/
def sealFindsSpec : ChangeSpec := { name := "sealFinds", fn := fun _ => fun
  | [d1, d2, d3] => { results := [.lit (.bool true)], args := [d1, d2, d3] }
  | _ => none }
def sealFindsRow : OpenClaim := { program := "ytpkgmoiffegbfaadoor", sum := "79f9980c43d12f435af31aefe755c5c14a8a1d338d3e5766ca8dcb620ebcc5fc", func := "consign/consignlaw19.SealFinds", spec := "sealFinds", unfollowed := true, recurses := true, named := ["consign/sha.first", "consign/sha.rounds"], apart := false, laid := [("consign/sha.first", laid_consign_sha_first), ("consign/sha.rounds", laid_consign_sha_rounds)] }
def SealFindsSaid : Prop := sealFindsRow.holds Tryd.pinned (OpenSpec.ofChange sealFindsSpec)

/-- ITS FALSE NEIGHBOUR: 'it returns false'. Refute it at one input. -/
def sealFindsWrong : ChangeSpec := { name := "sealFinds", fn := fun _ => fun
  | [d1, d2, d3] => { results := [.lit (.bool false)], args := [d1, d2, d3] }
  | _ => none }
def SealFindsWrongFalsely : Prop := sealFindsRow.holds Tryd.pinned (OpenSpec.ofChange sealFindsWrong)

/- THE SECOND FORM. 'bulk': how many values and letters a reading holds, each counted each time it is reached (what is shared counts as often as it is met; a slice's spare places count too). A statement '..UptoSaid' is the law's where the arguments, and the package variables that the reading takes, are together of bulk at most 1048576: NARROWER than '..Said'. Prove '..Said' where nothing that the law and all that it calls make is longer than what came in: it says more and counts as full. Else prove '..UptoSaid'. A law counts once. -/
mutual
def uptoBulk {H : Type} : DataW H → Nat
  | .lit (.string bytes) => bytes.length + 1
  | .lit _ => 1
  | .nil => 1
  | .ptr d => uptoBulk d + 1
  | .slice elems spare => uptoBulkAll elems + uptoBulkAll spare + 1
  | .agg parts => uptoBulkAll parts + 1
  | .iface _ d => uptoBulk d + 1
  | .map entries => uptoBulkEntries entries + 1
  | .held _ => 1
def uptoBulkAll {H : Type} : List (DataW H) → Nat
  | [] => 0
  | d :: r => uptoBulk d + uptoBulkAll r
def uptoBulkEntries {H : Type} : List (Lit × DataW H) → Nat
  | [] => 0
  | x :: r => uptoBulkEntry x + uptoBulkEntries r
def uptoBulkEntry {H : Type} : Lit × DataW H → Nat
  | (.string bytes, d) => bytes.length + uptoBulk d + 1
  | (_, d) => uptoBulk d + 1
 end
def uptoSmall : (H : Type) → List (DataW H) → Bool := fun _ ds => decide (uptoBulkAll ds ≤ 1048576)
def OpenSpec.upto (s : _root_.Go.ChangeSpec) : _root_.Go.OpenSpec := { _root_.Go.OpenSpec.ofChange s with cond := some uptoSmall }

/-- 'consignlaw15.ShaPieces', WHERE WHAT IT READS IS OF BULK AT MOST 1048576: true; the input reads as it did. -/
def shaPiecesUptoRow : OpenClaim := { program := "ytpkgmoiffegbfaadoor", sum := "79f9980c43d12f435af31aefe755c5c14a8a1d338d3e5766ca8dcb620ebcc5fc", func := "consign/consignlaw15.ShaPieces", spec := "shaPieces", unfollowed := true, recurses := true, named := ["consign/sha.first", "consign/sha.rounds"], apart := false, laid := [("consign/sha.first", laid_consign_sha_first), ("consign/sha.rounds", laid_consign_sha_rounds)], narrowed := true }
def ShaPiecesUptoSaid : Prop := shaPiecesUptoRow.holds Tryd.pinned (OpenSpec.upto shaPiecesSpec)

/-- 'consignlaw15.ShaOwn', WHERE WHAT IT READS IS OF BULK AT MOST 1048576: true; the input reads as it did. -/
def shaOwnUptoRow : OpenClaim := { program := "ytpkgmoiffegbfaadoor", sum := "79f9980c43d12f435af31aefe755c5c14a8a1d338d3e5766ca8dcb620ebcc5fc", func := "consign/consignlaw15.ShaOwn", spec := "shaOwn", unfollowed := true, recurses := true, named := ["consign/sha.first", "consign/sha.rounds"], apart := false, laid := [("consign/sha.first", laid_consign_sha_first), ("consign/sha.rounds", laid_consign_sha_rounds)], narrowed := true }
def ShaOwnUptoSaid : Prop := shaOwnUptoRow.holds Tryd.pinned (OpenSpec.upto shaOwnSpec)

/-- 'consignlaw15.ShaKnown', WHERE WHAT IT READS IS OF BULK AT MOST 1048576: true; the input reads as it did. -/
def shaKnownUptoRow : OpenClaim := { program := "ytpkgmoiffegbfaadoor", sum := "79f9980c43d12f435af31aefe755c5c14a8a1d338d3e5766ca8dcb620ebcc5fc", func := "consign/consignlaw15.ShaKnown", spec := "shaKnown", unfollowed := true, recurses := true, named := ["consign/sha.rounds", "consign/sha.first"], apart := false, laid := [("consign/sha.first", laid_consign_sha_first), ("consign/sha.rounds", laid_consign_sha_rounds)], narrowed := true }
def ShaKnownUptoSaid : Prop := shaKnownUptoRow.holds Tryd.pinned (OpenSpec.upto shaKnownSpec)

/-- 'consignlaw15.ShaTells', WHERE WHAT IT READS IS OF BULK AT MOST 1048576: true; the input reads as it did. -/
def shaTellsUptoRow : OpenClaim := { program := "ytpkgmoiffegbfaadoor", sum := "79f9980c43d12f435af31aefe755c5c14a8a1d338d3e5766ca8dcb620ebcc5fc", func := "consign/consignlaw15.ShaTells", spec := "shaTells", unfollowed := true, recurses := true, named := ["consign/sha.first", "consign/sha.rounds"], apart := false, laid := [("consign/sha.first", laid_consign_sha_first), ("consign/sha.rounds", laid_consign_sha_rounds)], narrowed := true }
def ShaTellsUptoSaid : Prop := shaTellsUptoRow.holds Tryd.pinned (OpenSpec.upto shaTellsSpec)

/-- 'consignlaw15.ShaWrites', WHERE WHAT IT READS IS OF BULK AT MOST 1048576: true; the input reads as it did. -/
def shaWritesUptoRow : OpenClaim := { program := "ytpkgmoiffegbfaadoor", sum := "79f9980c43d12f435af31aefe755c5c14a8a1d338d3e5766ca8dcb620ebcc5fc", func := "consign/consignlaw15.ShaWrites", spec := "shaWrites", unfollowed := true, recurses := true, named := ["consign/sha.first", "consign/sha.rounds"], apart := false, laid := [("consign/sha.first", laid_consign_sha_first), ("consign/sha.rounds", laid_consign_sha_rounds)], narrowed := true }
def ShaWritesUptoSaid : Prop := shaWritesUptoRow.holds Tryd.pinned (OpenSpec.upto shaWritesSpec)

/-- 'consignlaw19.SealOpens', WHERE WHAT IT READS IS OF BULK AT MOST 1048576: true; the input reads as it did. -/
def sealOpensUptoRow : OpenClaim := { program := "ytpkgmoiffegbfaadoor", sum := "79f9980c43d12f435af31aefe755c5c14a8a1d338d3e5766ca8dcb620ebcc5fc", func := "consign/consignlaw19.SealOpens", spec := "sealOpens", unfollowed := true, recurses := true, named := ["consign/sha.first", "consign/sha.rounds"], apart := false, laid := [("consign/sha.first", laid_consign_sha_first), ("consign/sha.rounds", laid_consign_sha_rounds)], narrowed := true }
def SealOpensUptoSaid : Prop := sealOpensUptoRow.holds Tryd.pinned (OpenSpec.upto sealOpensSpec)

/-- 'consignlaw19.SealApart', WHERE WHAT IT READS IS OF BULK AT MOST 1048576: true; the input reads as it did. -/
def sealApartUptoRow : OpenClaim := { program := "ytpkgmoiffegbfaadoor", sum := "79f9980c43d12f435af31aefe755c5c14a8a1d338d3e5766ca8dcb620ebcc5fc", func := "consign/consignlaw19.SealApart", spec := "sealApart", unfollowed := true, recurses := true, named := ["consign/sha.first", "consign/sha.rounds"], apart := false, laid := [("consign/sha.first", laid_consign_sha_first), ("consign/sha.rounds", laid_consign_sha_rounds)], narrowed := true }
def SealApartUptoSaid : Prop := sealApartUptoRow.holds Tryd.pinned (OpenSpec.upto sealApartSpec)

/-- 'consignlaw19.SealMarks', WHERE WHAT IT READS IS OF BULK AT MOST 1048576: true; the input reads as it did. -/
def sealMarksUptoRow : OpenClaim := { program := "ytpkgmoiffegbfaadoor", sum := "79f9980c43d12f435af31aefe755c5c14a8a1d338d3e5766ca8dcb620ebcc5fc", func := "consign/consignlaw19.SealMarks", spec := "sealMarks", unfollowed := true, recurses := true, named := ["consign/sha.first", "consign/sha.rounds"], apart := false, laid := [("consign/sha.first", laid_consign_sha_first), ("consign/sha.rounds", laid_consign_sha_rounds)], narrowed := true }
def SealMarksUptoSaid : Prop := sealMarksUptoRow.holds Tryd.pinned (OpenSpec.upto sealMarksSpec)

/-- 'consignlaw19.SealKnown', WHERE WHAT IT READS IS OF BULK AT MOST 1048576: true; the input reads as it did. -/
def sealKnownUptoRow : OpenClaim := { program := "ytpkgmoiffegbfaadoor", sum := "79f9980c43d12f435af31aefe755c5c14a8a1d338d3e5766ca8dcb620ebcc5fc", func := "consign/consignlaw19.SealKnown", spec := "sealKnown", unfollowed := true, recurses := true, named := ["consign/sha.first", "consign/sha.rounds"], apart := false, laid := [("consign/sha.first", laid_consign_sha_first), ("consign/sha.rounds", laid_consign_sha_rounds)], narrowed := true }
def SealKnownUptoSaid : Prop := sealKnownUptoRow.holds Tryd.pinned (OpenSpec.upto sealKnownSpec)

/-- 'consignlaw19.SealTells', WHERE WHAT IT READS IS OF BULK AT MOST 1048576: true; the input reads as it did. -/
def sealTellsUptoRow : OpenClaim := { program := "ytpkgmoiffegbfaadoor", sum := "79f9980c43d12f435af31aefe755c5c14a8a1d338d3e5766ca8dcb620ebcc5fc", func := "consign/consignlaw19.SealTells", spec := "sealTells", unfollowed := true, recurses := true, named := ["consign/sha.first", "consign/sha.rounds"], apart := false, laid := [("consign/sha.first", laid_consign_sha_first), ("consign/sha.rounds", laid_consign_sha_rounds)], narrowed := true }
def SealTellsUptoSaid : Prop := sealTellsUptoRow.holds Tryd.pinned (OpenSpec.upto sealTellsSpec)

/-- 'consignlaw19.SealFinds', WHERE WHAT IT READS IS OF BULK AT MOST 1048576: true; the input reads as it did. -/
def sealFindsUptoRow : OpenClaim := { program := "ytpkgmoiffegbfaadoor", sum := "79f9980c43d12f435af31aefe755c5c14a8a1d338d3e5766ca8dcb620ebcc5fc", func := "consign/consignlaw19.SealFinds", spec := "sealFinds", unfollowed := true, recurses := true, named := ["consign/sha.first", "consign/sha.rounds"], apart := false, laid := [("consign/sha.first", laid_consign_sha_first), ("consign/sha.rounds", laid_consign_sha_rounds)], narrowed := true }
def SealFindsUptoSaid : Prop := sealFindsUptoRow.holds Tryd.pinned (OpenSpec.upto sealFindsSpec)

end Rows
end Go.Proofs.YtpkgmoiffegbfaaDoor
