/-
  DERIVED. GIVEN WITH THE SEED: THE CARDS: each row of YtokakpbpenndlaaDoorRows.lean that lists a variable, with what it lists TIED to the program's text (the seventh form; the later family's looks); each row that meets fmt, with fmt's text TOLD by the authors' own Lean function (tested against real Go, not proved from fmt's source: count such statements apart). THE CARD IS WHAT COUNTS. Prove the row's statement (the work); the ties are given (YtokakpbpenndlaaDoorTie.lean); close each card by the builder's one call (the guide's Derived/Test/ToyasCard.lean, 'card_holds'). Laid BY PROGRAM, IN A SANDBOX (cutbox-door.mjs). By AI agents, Wed Nov 11 2026. No macro, syntax, notation, axiom, sorry.
-/
import Derived.Test.YtokakpbpenndlaaDoorRows
import GoSem.ClaimSeven
namespace Go.Proofs.YtokakpbpenndlaaDoor
namespace Rows

/-- THE TIED CARD OF 'apportionlaw30.RemitBig'. -/
def remitBigCard : Claim7 := { stood := { row := remitBigRow, standIns := [], harness := (true, "0f9f1457c59be794fef6002453377d73938c818c60cb9871b1c634dcbf52ab11"), looks := true }, kinds := [], alts := [], laidByText := true, laidKinds := [.data, .data, .data], laidTests := true, laidLooks := .later }
def RemitBigCardSaid : Prop := Claim7.holds Tryd.pinned (.plain (OpenSpec.ofChange remitBigSpec)) remitBigCard

/-- THE SECOND FORM's CARD OF 'apportionlaw30.RemitBig'. -/
def remitBigUptoCard : Claim7 := { stood := { row := remitBigUptoRow, standIns := [], harness := (true, "0f9f1457c59be794fef6002453377d73938c818c60cb9871b1c634dcbf52ab11"), looks := true }, kinds := [], alts := [], laidByText := true, laidKinds := [.data, .data, .data], laidTests := true, laidLooks := .later }
def RemitBigUptoCardSaid : Prop := Claim7.holds Tryd.pinned (.plain (OpenSpec.upto remitBigSpec)) remitBigUptoCard
end Rows
end Go.Proofs.YtokakpbpenndlaaDoor
