/-
  DERIVED. GIVEN WITH THE SEED: THE CARDS: each row of YtpkgmoiffegbfaaDoorRows.lean that lists a variable, with what it lists TIED to the program's text (the seventh form; the later family's looks); each row that meets fmt, with fmt's text TOLD by the authors' own Lean function (tested against real Go, not proved from fmt's source: count such statements apart). THE CARD IS WHAT COUNTS. Prove the row's statement (the work); the ties are given (YtpkgmoiffegbfaaDoorTie.lean); close each card by the builder's one call (the guide's Derived/Test/ToyasCard.lean, 'card_holds'). Laid BY PROGRAM, IN A SANDBOX (cutbox-door.mjs). By AI agents, Wed Nov 11 2026. No macro, syntax, notation, axiom, sorry.
-/
import Derived.Test.YtpkgmoiffegbfaaDoorRows
import GoSem.ClaimSeven
namespace Go.Proofs.YtpkgmoiffegbfaaDoor
namespace Rows

/-- THE TIED CARD OF 'consignlaw15.ShaPieces'. -/
def shaPiecesCard : Claim7 := { stood := { row := shaPiecesRow, standIns := [], harness := (true, "80bcf6426dc4aeaa85941890689a0b9cbf313b703e996334a8da0bc2c9c32b4b"), looks := false }, kinds := [], alts := [], laidByText := true, laidKinds := [.data, .data], laidTests := true, laidLooks := .later }
def ShaPiecesCardSaid : Prop := Claim7.holds Tryd.pinned (.plain (OpenSpec.ofChange shaPiecesSpec)) shaPiecesCard

/-- THE TIED CARD OF 'consignlaw15.ShaOwn'. -/
def shaOwnCard : Claim7 := { stood := { row := shaOwnRow, standIns := [], harness := (true, "80bcf6426dc4aeaa85941890689a0b9cbf313b703e996334a8da0bc2c9c32b4b"), looks := false }, kinds := [], alts := [], laidByText := true, laidKinds := [.data, .data], laidTests := true, laidLooks := .later }
def ShaOwnCardSaid : Prop := Claim7.holds Tryd.pinned (.plain (OpenSpec.ofChange shaOwnSpec)) shaOwnCard

/-- THE TIED CARD OF 'consignlaw15.ShaKnown'. -/
def shaKnownCard : Claim7 := { stood := { row := shaKnownRow, standIns := [], harness := (true, "80bcf6426dc4aeaa85941890689a0b9cbf313b703e996334a8da0bc2c9c32b4b"), looks := false }, kinds := [], alts := [], laidByText := true, laidKinds := [.data, .data], laidTests := true, laidLooks := .later }
def ShaKnownCardSaid : Prop := Claim7.holds Tryd.pinned (.plain (OpenSpec.ofChange shaKnownSpec)) shaKnownCard

/-- THE TIED CARD OF 'consignlaw15.ShaTells'. -/
def shaTellsCard : Claim7 := { stood := { row := shaTellsRow, standIns := [], harness := (true, "80bcf6426dc4aeaa85941890689a0b9cbf313b703e996334a8da0bc2c9c32b4b"), looks := false }, kinds := [], alts := [], laidByText := true, laidKinds := [.data, .data], laidTests := true, laidLooks := .later }
def ShaTellsCardSaid : Prop := Claim7.holds Tryd.pinned (.plain (OpenSpec.ofChange shaTellsSpec)) shaTellsCard

/-- THE TIED CARD OF 'consignlaw15.ShaWrites'. -/
def shaWritesCard : Claim7 := { stood := { row := shaWritesRow, standIns := [], harness := (true, "80bcf6426dc4aeaa85941890689a0b9cbf313b703e996334a8da0bc2c9c32b4b"), looks := false }, kinds := [], alts := [], laidByText := true, laidKinds := [.data, .data], laidTests := true, laidLooks := .later }
def ShaWritesCardSaid : Prop := Claim7.holds Tryd.pinned (.plain (OpenSpec.ofChange shaWritesSpec)) shaWritesCard

/-- THE TIED CARD OF 'consignlaw19.SealOpens'. -/
def sealOpensCard : Claim7 := { stood := { row := sealOpensRow, standIns := [], harness := (true, "80bcf6426dc4aeaa85941890689a0b9cbf313b703e996334a8da0bc2c9c32b4b"), looks := false }, kinds := [], alts := [], laidByText := true, laidKinds := [.data, .data], laidTests := true, laidLooks := .later }
def SealOpensCardSaid : Prop := Claim7.holds Tryd.pinned (.plain (OpenSpec.ofChange sealOpensSpec)) sealOpensCard

/-- THE TIED CARD OF 'consignlaw19.SealApart'. -/
def sealApartCard : Claim7 := { stood := { row := sealApartRow, standIns := [], harness := (true, "80bcf6426dc4aeaa85941890689a0b9cbf313b703e996334a8da0bc2c9c32b4b"), looks := false }, kinds := [], alts := [], laidByText := true, laidKinds := [.data, .data], laidTests := true, laidLooks := .later }
def SealApartCardSaid : Prop := Claim7.holds Tryd.pinned (.plain (OpenSpec.ofChange sealApartSpec)) sealApartCard

/-- THE TIED CARD OF 'consignlaw19.SealMarks'. -/
def sealMarksCard : Claim7 := { stood := { row := sealMarksRow, standIns := [], harness := (true, "80bcf6426dc4aeaa85941890689a0b9cbf313b703e996334a8da0bc2c9c32b4b"), looks := false }, kinds := [], alts := [], laidByText := true, laidKinds := [.data, .data], laidTests := true, laidLooks := .later }
def SealMarksCardSaid : Prop := Claim7.holds Tryd.pinned (.plain (OpenSpec.ofChange sealMarksSpec)) sealMarksCard

/-- THE TIED CARD OF 'consignlaw19.SealKnown'. -/
def sealKnownCard : Claim7 := { stood := { row := sealKnownRow, standIns := [], harness := (true, "80bcf6426dc4aeaa85941890689a0b9cbf313b703e996334a8da0bc2c9c32b4b"), looks := false }, kinds := [], alts := [], laidByText := true, laidKinds := [.data, .data], laidTests := true, laidLooks := .later }
def SealKnownCardSaid : Prop := Claim7.holds Tryd.pinned (.plain (OpenSpec.ofChange sealKnownSpec)) sealKnownCard

/-- THE TIED CARD OF 'consignlaw19.SealTells'. -/
def sealTellsCard : Claim7 := { stood := { row := sealTellsRow, standIns := [], harness := (true, "80bcf6426dc4aeaa85941890689a0b9cbf313b703e996334a8da0bc2c9c32b4b"), looks := false }, kinds := [], alts := [], laidByText := true, laidKinds := [.data, .data], laidTests := true, laidLooks := .later }
def SealTellsCardSaid : Prop := Claim7.holds Tryd.pinned (.plain (OpenSpec.ofChange sealTellsSpec)) sealTellsCard

/-- THE TIED CARD OF 'consignlaw19.SealFinds'. -/
def sealFindsCard : Claim7 := { stood := { row := sealFindsRow, standIns := [], harness := (true, "80bcf6426dc4aeaa85941890689a0b9cbf313b703e996334a8da0bc2c9c32b4b"), looks := false }, kinds := [], alts := [], laidByText := true, laidKinds := [.data, .data], laidTests := true, laidLooks := .later }
def SealFindsCardSaid : Prop := Claim7.holds Tryd.pinned (.plain (OpenSpec.ofChange sealFindsSpec)) sealFindsCard

/-- THE SECOND FORM's CARD OF 'consignlaw15.ShaPieces'. -/
def shaPiecesUptoCard : Claim7 := { stood := { row := shaPiecesUptoRow, standIns := [], harness := (true, "80bcf6426dc4aeaa85941890689a0b9cbf313b703e996334a8da0bc2c9c32b4b"), looks := false }, kinds := [], alts := [], laidByText := true, laidKinds := [.data, .data], laidTests := true, laidLooks := .later }
def ShaPiecesUptoCardSaid : Prop := Claim7.holds Tryd.pinned (.plain (OpenSpec.upto shaPiecesSpec)) shaPiecesUptoCard

/-- THE SECOND FORM's CARD OF 'consignlaw15.ShaOwn'. -/
def shaOwnUptoCard : Claim7 := { stood := { row := shaOwnUptoRow, standIns := [], harness := (true, "80bcf6426dc4aeaa85941890689a0b9cbf313b703e996334a8da0bc2c9c32b4b"), looks := false }, kinds := [], alts := [], laidByText := true, laidKinds := [.data, .data], laidTests := true, laidLooks := .later }
def ShaOwnUptoCardSaid : Prop := Claim7.holds Tryd.pinned (.plain (OpenSpec.upto shaOwnSpec)) shaOwnUptoCard

/-- THE SECOND FORM's CARD OF 'consignlaw15.ShaKnown'. -/
def shaKnownUptoCard : Claim7 := { stood := { row := shaKnownUptoRow, standIns := [], harness := (true, "80bcf6426dc4aeaa85941890689a0b9cbf313b703e996334a8da0bc2c9c32b4b"), looks := false }, kinds := [], alts := [], laidByText := true, laidKinds := [.data, .data], laidTests := true, laidLooks := .later }
def ShaKnownUptoCardSaid : Prop := Claim7.holds Tryd.pinned (.plain (OpenSpec.upto shaKnownSpec)) shaKnownUptoCard

/-- THE SECOND FORM's CARD OF 'consignlaw15.ShaTells'. -/
def shaTellsUptoCard : Claim7 := { stood := { row := shaTellsUptoRow, standIns := [], harness := (true, "80bcf6426dc4aeaa85941890689a0b9cbf313b703e996334a8da0bc2c9c32b4b"), looks := false }, kinds := [], alts := [], laidByText := true, laidKinds := [.data, .data], laidTests := true, laidLooks := .later }
def ShaTellsUptoCardSaid : Prop := Claim7.holds Tryd.pinned (.plain (OpenSpec.upto shaTellsSpec)) shaTellsUptoCard

/-- THE SECOND FORM's CARD OF 'consignlaw15.ShaWrites'. -/
def shaWritesUptoCard : Claim7 := { stood := { row := shaWritesUptoRow, standIns := [], harness := (true, "80bcf6426dc4aeaa85941890689a0b9cbf313b703e996334a8da0bc2c9c32b4b"), looks := false }, kinds := [], alts := [], laidByText := true, laidKinds := [.data, .data], laidTests := true, laidLooks := .later }
def ShaWritesUptoCardSaid : Prop := Claim7.holds Tryd.pinned (.plain (OpenSpec.upto shaWritesSpec)) shaWritesUptoCard

/-- THE SECOND FORM's CARD OF 'consignlaw19.SealOpens'. -/
def sealOpensUptoCard : Claim7 := { stood := { row := sealOpensUptoRow, standIns := [], harness := (true, "80bcf6426dc4aeaa85941890689a0b9cbf313b703e996334a8da0bc2c9c32b4b"), looks := false }, kinds := [], alts := [], laidByText := true, laidKinds := [.data, .data], laidTests := true, laidLooks := .later }
def SealOpensUptoCardSaid : Prop := Claim7.holds Tryd.pinned (.plain (OpenSpec.upto sealOpensSpec)) sealOpensUptoCard

/-- THE SECOND FORM's CARD OF 'consignlaw19.SealApart'. -/
def sealApartUptoCard : Claim7 := { stood := { row := sealApartUptoRow, standIns := [], harness := (true, "80bcf6426dc4aeaa85941890689a0b9cbf313b703e996334a8da0bc2c9c32b4b"), looks := false }, kinds := [], alts := [], laidByText := true, laidKinds := [.data, .data], laidTests := true, laidLooks := .later }
def SealApartUptoCardSaid : Prop := Claim7.holds Tryd.pinned (.plain (OpenSpec.upto sealApartSpec)) sealApartUptoCard

/-- THE SECOND FORM's CARD OF 'consignlaw19.SealMarks'. -/
def sealMarksUptoCard : Claim7 := { stood := { row := sealMarksUptoRow, standIns := [], harness := (true, "80bcf6426dc4aeaa85941890689a0b9cbf313b703e996334a8da0bc2c9c32b4b"), looks := false }, kinds := [], alts := [], laidByText := true, laidKinds := [.data, .data], laidTests := true, laidLooks := .later }
def SealMarksUptoCardSaid : Prop := Claim7.holds Tryd.pinned (.plain (OpenSpec.upto sealMarksSpec)) sealMarksUptoCard

/-- THE SECOND FORM's CARD OF 'consignlaw19.SealKnown'. -/
def sealKnownUptoCard : Claim7 := { stood := { row := sealKnownUptoRow, standIns := [], harness := (true, "80bcf6426dc4aeaa85941890689a0b9cbf313b703e996334a8da0bc2c9c32b4b"), looks := false }, kinds := [], alts := [], laidByText := true, laidKinds := [.data, .data], laidTests := true, laidLooks := .later }
def SealKnownUptoCardSaid : Prop := Claim7.holds Tryd.pinned (.plain (OpenSpec.upto sealKnownSpec)) sealKnownUptoCard

/-- THE SECOND FORM's CARD OF 'consignlaw19.SealTells'. -/
def sealTellsUptoCard : Claim7 := { stood := { row := sealTellsUptoRow, standIns := [], harness := (true, "80bcf6426dc4aeaa85941890689a0b9cbf313b703e996334a8da0bc2c9c32b4b"), looks := false }, kinds := [], alts := [], laidByText := true, laidKinds := [.data, .data], laidTests := true, laidLooks := .later }
def SealTellsUptoCardSaid : Prop := Claim7.holds Tryd.pinned (.plain (OpenSpec.upto sealTellsSpec)) sealTellsUptoCard

/-- THE SECOND FORM's CARD OF 'consignlaw19.SealFinds'. -/
def sealFindsUptoCard : Claim7 := { stood := { row := sealFindsUptoRow, standIns := [], harness := (true, "80bcf6426dc4aeaa85941890689a0b9cbf313b703e996334a8da0bc2c9c32b4b"), looks := false }, kinds := [], alts := [], laidByText := true, laidKinds := [.data, .data], laidTests := true, laidLooks := .later }
def SealFindsUptoCardSaid : Prop := Claim7.holds Tryd.pinned (.plain (OpenSpec.upto sealFindsSpec)) sealFindsUptoCard
end Rows
end Go.Proofs.YtpkgmoiffegbfaaDoor
