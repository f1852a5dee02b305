/-
  DERIVED. GIVEN WITH THE SEED: THE CARDS: each row of YtjneghncmgjkeaaGreatDoorRows.lean that lists a variable, with what it lists TIED to the program's text (the seventh form; the later family's looks); each row that meets fmt, with fmt's text TOLD by the authors' own Lean function (tested against real Go, not proved from fmt's source: count such statements apart). THE CARD IS WHAT COUNTS. Prove the row's statement (the work); the ties are given (YtjneghncmgjkeaaGreatDoorTie.lean); close each card by the builder's one call (the guide's Derived/Test/ToyasCard.lean, 'card_holds'). Laid BY PROGRAM, IN A SANDBOX (cutbox-door.mjs). By AI agents, Wed Nov 11 2026. No macro, syntax, notation, axiom, sorry.
-/
import Derived.Test.YtjneghncmgjkeaaGreatDoorRows
import GoSem.ClaimSeven
namespace Go.Proofs.YtjneghncmgjkeaaGreatDoor
namespace Rows

/-- THE TIED CARD OF 'apportionlaw17.AddrParses'. -/
def addrParsesCard : Claim7 := { stood := { row := addrParsesRow, standIns := [], harness := (true, "32a22932db439d718eabe6719faf68e14d64c4a6a1a15a1543707692ef893662"), looks := true }, kinds := [], alts := [], laidByText := true, laidKinds := [.data, .data, .data, .data, .sentinel, .sentinel, .listed, .data, .pinned], laidTests := true, laidLooks := .later }
def AddrParsesCardSaid : Prop := Claim7.holds Tryz.pinned (.plain (OpenSpec.ofChange addrParsesSpec)) addrParsesCard

/-- THE TIED CARD OF 'apportionlaw17.AddrTexts'. -/
def addrTextsCard : Claim7 := { stood := { row := addrTextsRow, standIns := [], harness := (true, "32a22932db439d718eabe6719faf68e14d64c4a6a1a15a1543707692ef893662"), looks := true }, kinds := [], alts := [], laidByText := true, laidKinds := [.data, .data, .data, .data, .sentinel, .sentinel, .listed, .data, .pinned], laidTests := true, laidLooks := .later }
def AddrTextsCardSaid : Prop := Claim7.holds Tryz.pinned (.plain (OpenSpec.ofChange addrTextsSpec)) addrTextsCard

/-- THE TIED CARD OF 'apportionlaw17.AddrBack'. -/
def addrBackCard : Claim7 := { stood := { row := addrBackRow, standIns := [], harness := (true, "32a22932db439d718eabe6719faf68e14d64c4a6a1a15a1543707692ef893662"), looks := true }, kinds := [], alts := [], laidByText := true, laidKinds := [.data, .data, .data, .data, .sentinel, .sentinel, .listed, .data, .pinned], laidTests := true, laidLooks := .later }
def AddrBackCardSaid : Prop := Claim7.holds Tryz.pinned (.plain (OpenSpec.ofChange addrBackSpec)) addrBackCard

/-- THE TIED CARD OF 'apportionlaw17.AddrFields'. -/
def addrFieldsCard : Claim7 := { stood := { row := addrFieldsRow, standIns := [], harness := (true, "32a22932db439d718eabe6719faf68e14d64c4a6a1a15a1543707692ef893662"), looks := true }, kinds := [], alts := [], laidByText := true, laidKinds := [.data, .data, .data, .data, .sentinel, .sentinel, .listed, .data, .pinned], laidTests := true, laidLooks := .later }
def AddrFieldsCardSaid : Prop := Claim7.holds Tryz.pinned (.plain (OpenSpec.ofChange addrFieldsSpec)) addrFieldsCard

/-- THE TIED CARD OF 'apportionlaw17.AddrParts'. -/
def addrPartsCard : Claim7 := { stood := { row := addrPartsRow, standIns := [], harness := (true, "32a22932db439d718eabe6719faf68e14d64c4a6a1a15a1543707692ef893662"), looks := true }, kinds := [], alts := [], laidByText := true, laidKinds := [.data, .data, .data, .data, .sentinel, .sentinel, .listed, .data, .pinned], laidTests := true, laidLooks := .later }
def AddrPartsCardSaid : Prop := Claim7.holds Tryz.pinned (.plain (OpenSpec.ofChange addrPartsSpec)) addrPartsCard

/-- THE TIED CARD OF 'apportionlaw17.AddrKnown'. -/
def addrKnownCard : Claim7 := { stood := { row := addrKnownRow, standIns := [], harness := (true, "32a22932db439d718eabe6719faf68e14d64c4a6a1a15a1543707692ef893662"), looks := true }, kinds := [], alts := [], laidByText := true, laidKinds := [.data, .data, .data, .data, .sentinel, .sentinel, .listed, .data, .pinned], laidTests := true, laidLooks := .later }
def AddrKnownCardSaid : Prop := Claim7.holds Tryz.pinned (.plain (OpenSpec.ofChange addrKnownSpec)) addrKnownCard

/-- THE TIED CARD OF 'apportionlaw17.AddrLoose'. -/
def addrLooseCard : Claim7 := { stood := { row := addrLooseRow, standIns := [], harness := (true, "32a22932db439d718eabe6719faf68e14d64c4a6a1a15a1543707692ef893662"), looks := true }, kinds := [], alts := [], laidByText := true, laidKinds := [.data, .data, .data, .data, .sentinel, .sentinel, .listed, .data, .pinned], laidTests := true, laidLooks := .later }
def AddrLooseCardSaid : Prop := Claim7.holds Tryz.pinned (.plain (OpenSpec.ofChange addrLooseSpec)) addrLooseCard

/-- THE SECOND FORM's CARD OF 'apportionlaw17.AddrParses'. -/
def addrParsesUptoCard : Claim7 := { stood := { row := addrParsesUptoRow, standIns := [], harness := (true, "32a22932db439d718eabe6719faf68e14d64c4a6a1a15a1543707692ef893662"), looks := true }, kinds := [], alts := [], laidByText := true, laidKinds := [.data, .data, .data, .data, .sentinel, .sentinel, .listed, .data, .pinned], laidTests := true, laidLooks := .later }
def AddrParsesUptoCardSaid : Prop := Claim7.holds Tryz.pinned (.plain (OpenSpec.upto addrParsesSpec)) addrParsesUptoCard

/-- THE SECOND FORM's CARD OF 'apportionlaw17.AddrTexts'. -/
def addrTextsUptoCard : Claim7 := { stood := { row := addrTextsUptoRow, standIns := [], harness := (true, "32a22932db439d718eabe6719faf68e14d64c4a6a1a15a1543707692ef893662"), looks := true }, kinds := [], alts := [], laidByText := true, laidKinds := [.data, .data, .data, .data, .sentinel, .sentinel, .listed, .data, .pinned], laidTests := true, laidLooks := .later }
def AddrTextsUptoCardSaid : Prop := Claim7.holds Tryz.pinned (.plain (OpenSpec.upto addrTextsSpec)) addrTextsUptoCard

/-- THE SECOND FORM's CARD OF 'apportionlaw17.AddrBack'. -/
def addrBackUptoCard : Claim7 := { stood := { row := addrBackUptoRow, standIns := [], harness := (true, "32a22932db439d718eabe6719faf68e14d64c4a6a1a15a1543707692ef893662"), looks := true }, kinds := [], alts := [], laidByText := true, laidKinds := [.data, .data, .data, .data, .sentinel, .sentinel, .listed, .data, .pinned], laidTests := true, laidLooks := .later }
def AddrBackUptoCardSaid : Prop := Claim7.holds Tryz.pinned (.plain (OpenSpec.upto addrBackSpec)) addrBackUptoCard

/-- THE SECOND FORM's CARD OF 'apportionlaw17.AddrFields'. -/
def addrFieldsUptoCard : Claim7 := { stood := { row := addrFieldsUptoRow, standIns := [], harness := (true, "32a22932db439d718eabe6719faf68e14d64c4a6a1a15a1543707692ef893662"), looks := true }, kinds := [], alts := [], laidByText := true, laidKinds := [.data, .data, .data, .data, .sentinel, .sentinel, .listed, .data, .pinned], laidTests := true, laidLooks := .later }
def AddrFieldsUptoCardSaid : Prop := Claim7.holds Tryz.pinned (.plain (OpenSpec.upto addrFieldsSpec)) addrFieldsUptoCard

/-- THE SECOND FORM's CARD OF 'apportionlaw17.AddrParts'. -/
def addrPartsUptoCard : Claim7 := { stood := { row := addrPartsUptoRow, standIns := [], harness := (true, "32a22932db439d718eabe6719faf68e14d64c4a6a1a15a1543707692ef893662"), looks := true }, kinds := [], alts := [], laidByText := true, laidKinds := [.data, .data, .data, .data, .sentinel, .sentinel, .listed, .data, .pinned], laidTests := true, laidLooks := .later }
def AddrPartsUptoCardSaid : Prop := Claim7.holds Tryz.pinned (.plain (OpenSpec.upto addrPartsSpec)) addrPartsUptoCard

/-- THE SECOND FORM's CARD OF 'apportionlaw17.AddrKnown'. -/
def addrKnownUptoCard : Claim7 := { stood := { row := addrKnownUptoRow, standIns := [], harness := (true, "32a22932db439d718eabe6719faf68e14d64c4a6a1a15a1543707692ef893662"), looks := true }, kinds := [], alts := [], laidByText := true, laidKinds := [.data, .data, .data, .data, .sentinel, .sentinel, .listed, .data, .pinned], laidTests := true, laidLooks := .later }
def AddrKnownUptoCardSaid : Prop := Claim7.holds Tryz.pinned (.plain (OpenSpec.upto addrKnownSpec)) addrKnownUptoCard

/-- THE SECOND FORM's CARD OF 'apportionlaw17.AddrLoose'. -/
def addrLooseUptoCard : Claim7 := { stood := { row := addrLooseUptoRow, standIns := [], harness := (true, "32a22932db439d718eabe6719faf68e14d64c4a6a1a15a1543707692ef893662"), looks := true }, kinds := [], alts := [], laidByText := true, laidKinds := [.data, .data, .data, .data, .sentinel, .sentinel, .listed, .data, .pinned], laidTests := true, laidLooks := .later }
def AddrLooseUptoCardSaid : Prop := Claim7.holds Tryz.pinned (.plain (OpenSpec.upto addrLooseSpec)) addrLooseUptoCard
end Rows
end Go.Proofs.YtjneghncmgjkeaaGreatDoor
