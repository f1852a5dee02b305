/-
  DERIVED. GIVEN WITH THE SEED: THE CARDS: each row of YtokakpbpenndlaaGreatDoorRows.lean that lists a variable, with what it lists TIED to the program's text (the seventh form; the later family's looks); each row that meets fmt, with fmt's text TOLD by the authors' own Lean function (tested against real Go, not proved from fmt's source: count such statements apart). THE CARD IS WHAT COUNTS. Prove the row's statement (the work); the ties are given (YtokakpbpenndlaaGreatDoorTie.lean); close each card by the builder's one call (the guide's Derived/Test/ToyasCard.lean, 'card_holds'). Laid BY PROGRAM, IN A SANDBOX (cutbox-door.mjs). By AI agents, Wed Nov 11 2026. No macro, syntax, notation, axiom, sorry.
-/
import Derived.Test.YtokakpbpenndlaaGreatDoorRows
import GoSem.ClaimSeven
namespace Go.Proofs.YtokakpbpenndlaaGreatDoor
namespace Rows

/-- THE TIED CARD OF 'apportionlaw30.RemitBytes'. -/
def remitBytesCard : Claim7 := { stood := { row := remitBytesRow, standIns := [], harness := (true, "6b218375fa6670fc78b769f8378284340a692e68bd3c1fcb2db2b308b8675b86"), looks := true }, kinds := [], alts := [], laidByText := true, laidKinds := [.data, .data, .data], laidTests := true, laidLooks := .later }
def RemitBytesCardSaid : Prop := Claim7.holds Tryz.pinned (.plain (OpenSpec.ofChange remitBytesSpec)) remitBytesCard

/-- THE TIED CARD OF 'apportionlaw30.RemitBack'. -/
def remitBackCard : Claim7 := { stood := { row := remitBackRow, standIns := [], harness := (true, "6b218375fa6670fc78b769f8378284340a692e68bd3c1fcb2db2b308b8675b86"), looks := true }, kinds := [], alts := [], laidByText := true, laidKinds := [.data, .data, .data], laidTests := true, laidLooks := .later }
def RemitBackCardSaid : Prop := Claim7.holds Tryz.pinned (.plain (OpenSpec.ofChange remitBackSpec)) remitBackCard

/-- THE TIED CARD OF 'apportionlaw30.RemitFiles'. -/
def remitFilesCard : Claim7 := { stood := { row := remitFilesRow, standIns := [], harness := (true, "6b218375fa6670fc78b769f8378284340a692e68bd3c1fcb2db2b308b8675b86"), looks := true }, kinds := [], alts := [], laidByText := true, laidKinds := [.data, .data, .data], laidTests := true, laidLooks := .later }
def RemitFilesCardSaid : Prop := Claim7.holds Tryz.pinned (.plain (OpenSpec.ofChange remitFilesSpec)) remitFilesCard

/-- THE TIED CARD OF 'apportionlaw30.RemitNone'. -/
def remitNoneCard : Claim7 := { stood := { row := remitNoneRow, standIns := [], harness := (true, "6b218375fa6670fc78b769f8378284340a692e68bd3c1fcb2db2b308b8675b86"), looks := true }, kinds := [], alts := [], laidByText := true, laidKinds := [.data, .data, .data], laidTests := true, laidLooks := .later }
def RemitNoneCardSaid : Prop := Claim7.holds Tryz.pinned (.plain (OpenSpec.ofChange remitNoneSpec)) remitNoneCard

/-- THE TIED CARD OF 'apportionlaw30.RemitOrder'. -/
def remitOrderCard : Claim7 := { stood := { row := remitOrderRow, standIns := [], harness := (true, "6b218375fa6670fc78b769f8378284340a692e68bd3c1fcb2db2b308b8675b86"), looks := true }, kinds := [], alts := [], laidByText := true, laidKinds := [.data, .data, .data], laidTests := true, laidLooks := .later }
def RemitOrderCardSaid : Prop := Claim7.holds Tryz.pinned (.plain (OpenSpec.ofChange remitOrderSpec)) remitOrderCard

/-- THE TIED CARD OF 'apportionlaw30.RemitKnown'. -/
def remitKnownCard : Claim7 := { stood := { row := remitKnownRow, standIns := [], harness := (true, "6b218375fa6670fc78b769f8378284340a692e68bd3c1fcb2db2b308b8675b86"), looks := true }, kinds := [], alts := [], laidByText := true, laidKinds := [.data, .data, .data], laidTests := true, laidLooks := .later }
def RemitKnownCardSaid : Prop := Claim7.holds Tryz.pinned (.plain (OpenSpec.ofChange remitKnownSpec)) remitKnownCard

/-- THE TIED CARD OF 'apportionlaw30.RemitAll'. -/
def remitAllCard : Claim7 := { stood := { row := remitAllRow, standIns := [], harness := (true, "6b218375fa6670fc78b769f8378284340a692e68bd3c1fcb2db2b308b8675b86"), looks := true }, kinds := [], alts := [], laidByText := true, laidKinds := [.data, .data, .data], laidTests := true, laidLooks := .later }
def RemitAllCardSaid : Prop := Claim7.holds Tryz.pinned (.plain (OpenSpec.ofChange remitAllSpec)) remitAllCard

/-- THE SECOND FORM's CARD OF 'apportionlaw30.RemitBytes'. -/
def remitBytesUptoCard : Claim7 := { stood := { row := remitBytesUptoRow, standIns := [], harness := (true, "6b218375fa6670fc78b769f8378284340a692e68bd3c1fcb2db2b308b8675b86"), looks := true }, kinds := [], alts := [], laidByText := true, laidKinds := [.data, .data, .data], laidTests := true, laidLooks := .later }
def RemitBytesUptoCardSaid : Prop := Claim7.holds Tryz.pinned (.plain (OpenSpec.upto remitBytesSpec)) remitBytesUptoCard

/-- THE SECOND FORM's CARD OF 'apportionlaw30.RemitBack'. -/
def remitBackUptoCard : Claim7 := { stood := { row := remitBackUptoRow, standIns := [], harness := (true, "6b218375fa6670fc78b769f8378284340a692e68bd3c1fcb2db2b308b8675b86"), looks := true }, kinds := [], alts := [], laidByText := true, laidKinds := [.data, .data, .data], laidTests := true, laidLooks := .later }
def RemitBackUptoCardSaid : Prop := Claim7.holds Tryz.pinned (.plain (OpenSpec.upto remitBackSpec)) remitBackUptoCard

/-- THE SECOND FORM's CARD OF 'apportionlaw30.RemitFiles'. -/
def remitFilesUptoCard : Claim7 := { stood := { row := remitFilesUptoRow, standIns := [], harness := (true, "6b218375fa6670fc78b769f8378284340a692e68bd3c1fcb2db2b308b8675b86"), looks := true }, kinds := [], alts := [], laidByText := true, laidKinds := [.data, .data, .data], laidTests := true, laidLooks := .later }
def RemitFilesUptoCardSaid : Prop := Claim7.holds Tryz.pinned (.plain (OpenSpec.upto remitFilesSpec)) remitFilesUptoCard

/-- THE SECOND FORM's CARD OF 'apportionlaw30.RemitNone'. -/
def remitNoneUptoCard : Claim7 := { stood := { row := remitNoneUptoRow, standIns := [], harness := (true, "6b218375fa6670fc78b769f8378284340a692e68bd3c1fcb2db2b308b8675b86"), looks := true }, kinds := [], alts := [], laidByText := true, laidKinds := [.data, .data, .data], laidTests := true, laidLooks := .later }
def RemitNoneUptoCardSaid : Prop := Claim7.holds Tryz.pinned (.plain (OpenSpec.upto remitNoneSpec)) remitNoneUptoCard

/-- THE SECOND FORM's CARD OF 'apportionlaw30.RemitOrder'. -/
def remitOrderUptoCard : Claim7 := { stood := { row := remitOrderUptoRow, standIns := [], harness := (true, "6b218375fa6670fc78b769f8378284340a692e68bd3c1fcb2db2b308b8675b86"), looks := true }, kinds := [], alts := [], laidByText := true, laidKinds := [.data, .data, .data], laidTests := true, laidLooks := .later }
def RemitOrderUptoCardSaid : Prop := Claim7.holds Tryz.pinned (.plain (OpenSpec.upto remitOrderSpec)) remitOrderUptoCard

/-- THE SECOND FORM's CARD OF 'apportionlaw30.RemitKnown'. -/
def remitKnownUptoCard : Claim7 := { stood := { row := remitKnownUptoRow, standIns := [], harness := (true, "6b218375fa6670fc78b769f8378284340a692e68bd3c1fcb2db2b308b8675b86"), looks := true }, kinds := [], alts := [], laidByText := true, laidKinds := [.data, .data, .data], laidTests := true, laidLooks := .later }
def RemitKnownUptoCardSaid : Prop := Claim7.holds Tryz.pinned (.plain (OpenSpec.upto remitKnownSpec)) remitKnownUptoCard

/-- THE SECOND FORM's CARD OF 'apportionlaw30.RemitAll'. -/
def remitAllUptoCard : Claim7 := { stood := { row := remitAllUptoRow, standIns := [], harness := (true, "6b218375fa6670fc78b769f8378284340a692e68bd3c1fcb2db2b308b8675b86"), looks := true }, kinds := [], alts := [], laidByText := true, laidKinds := [.data, .data, .data], laidTests := true, laidLooks := .later }
def RemitAllUptoCardSaid : Prop := Claim7.holds Tryz.pinned (.plain (OpenSpec.upto remitAllSpec)) remitAllUptoCard
end Rows
end Go.Proofs.YtokakpbpenndlaaGreatDoor
