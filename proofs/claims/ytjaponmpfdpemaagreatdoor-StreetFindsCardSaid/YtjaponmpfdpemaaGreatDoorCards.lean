/-
  DERIVED. GIVEN WITH THE SEED: THE CARDS: each row of YtjaponmpfdpemaaGreatDoorRows.lean that lists a variable, with what it lists TIED to the program's text (the seventh form; the later family's looks); each row that meets fmt, with fmt's text TOLD by the authors' own Lean function (tested against real Go, not proved from fmt's source: count such statements apart). THE CARD IS WHAT COUNTS. Prove the row's statement (the work); the ties are given (YtjaponmpfdpemaaGreatDoorTie.lean); close each card by the builder's one call (the guide's Derived/Test/ToyasCard.lean, 'card_holds'). Laid BY PROGRAM, IN A SANDBOX (cutbox-door.mjs). By AI agents, Wed Nov 11 2026. No macro, syntax, notation, axiom, sorry.
-/
import Derived.Test.YtjaponmpfdpemaaGreatDoorRows
import GoSem.ClaimSeven
namespace Go.Proofs.YtjaponmpfdpemaaGreatDoor
namespace Rows

/-- THE TIED CARD OF 'apportionlaw18.StreetAt'. -/
def streetAtCard : Claim7 := { stood := { row := streetAtRow, standIns := [], harness := (true, "2f99f80101145ca6bc6a392b88c9c97481f4d3f884af19871da4ae7cdeb83020"), looks := true }, kinds := [], alts := [], laidByText := true, laidKinds := [.data, .data, .data, .data, .sentinel, .sentinel, .listed, .data, .pinned], laidTests := true, laidLooks := .later }
def StreetAtCardSaid : Prop := Claim7.holds Tryz.pinned (.plain (OpenSpec.ofChange streetAtSpec)) streetAtCard

/-- THE TIED CARD OF 'apportionlaw18.StreetMany'. -/
def streetManyCard : Claim7 := { stood := { row := streetManyRow, standIns := [], harness := (true, "2f99f80101145ca6bc6a392b88c9c97481f4d3f884af19871da4ae7cdeb83020"), looks := true }, kinds := [], alts := [], laidByText := true, laidKinds := [.data, .data, .data, .data, .sentinel, .sentinel, .listed, .data, .pinned], laidTests := true, laidLooks := .later }
def StreetManyCardSaid : Prop := Claim7.holds Tryz.pinned (.plain (OpenSpec.ofChange streetManySpec)) streetManyCard

/-- THE TIED CARD OF 'apportionlaw18.StreetBetween'. -/
def streetBetweenCard : Claim7 := { stood := { row := streetBetweenRow, standIns := [], harness := (true, "2f99f80101145ca6bc6a392b88c9c97481f4d3f884af19871da4ae7cdeb83020"), looks := true }, kinds := [], alts := [], laidByText := true, laidKinds := [.data, .data, .data, .data, .sentinel, .sentinel, .listed, .data, .pinned], laidTests := true, laidLooks := .later }
def StreetBetweenCardSaid : Prop := Claim7.holds Tryz.pinned (.plain (OpenSpec.ofChange streetBetweenSpec)) streetBetweenCard

/-- THE TIED CARD OF 'apportionlaw18.StreetOrder'. -/
def streetOrderCard : Claim7 := { stood := { row := streetOrderRow, standIns := [], harness := (true, "2f99f80101145ca6bc6a392b88c9c97481f4d3f884af19871da4ae7cdeb83020"), looks := true }, kinds := [], alts := [], laidByText := true, laidKinds := [.data, .data, .data, .data, .sentinel, .sentinel, .listed, .data, .pinned], laidTests := true, laidLooks := .later }
def StreetOrderCardSaid : Prop := Claim7.holds Tryz.pinned (.plain (OpenSpec.ofChange streetOrderSpec)) streetOrderCard

/-- THE TIED CARD OF 'apportionlaw18.StreetEach'. -/
def streetEachCard : Claim7 := { stood := { row := streetEachRow, standIns := [], harness := (true, "2f99f80101145ca6bc6a392b88c9c97481f4d3f884af19871da4ae7cdeb83020"), looks := true }, kinds := [], alts := [], laidByText := true, laidKinds := [.data, .data, .data, .data, .sentinel, .sentinel, .listed, .data, .pinned], laidTests := true, laidLooks := .later }
def StreetEachCardSaid : Prop := Claim7.holds Tryz.pinned (.plain (OpenSpec.ofChange streetEachSpec)) streetEachCard

/-- THE TIED CARD OF 'apportionlaw18.StreetKnown'. -/
def streetKnownCard : Claim7 := { stood := { row := streetKnownRow, standIns := [], harness := (true, "2f99f80101145ca6bc6a392b88c9c97481f4d3f884af19871da4ae7cdeb83020"), looks := true }, kinds := [], alts := [], laidByText := true, laidKinds := [.data, .data, .data, .data, .sentinel, .sentinel, .listed, .data, .pinned], laidTests := true, laidLooks := .later }
def StreetKnownCardSaid : Prop := Claim7.holds Tryz.pinned (.plain (OpenSpec.ofChange streetKnownSpec)) streetKnownCard

/-- THE TIED CARD OF 'apportionlaw18.StreetFinds'. -/
def streetFindsCard : Claim7 := { stood := { row := streetFindsRow, standIns := [], harness := (true, "2f99f80101145ca6bc6a392b88c9c97481f4d3f884af19871da4ae7cdeb83020"), looks := true }, kinds := [], alts := [], laidByText := true, laidKinds := [.data, .data, .data, .data, .sentinel, .sentinel, .listed, .data, .pinned], laidTests := true, laidLooks := .later }
def StreetFindsCardSaid : Prop := Claim7.holds Tryz.pinned (.plain (OpenSpec.ofChange streetFindsSpec)) streetFindsCard

/-- THE TIED CARD OF 'apportionlaw18.StreetNone'. -/
def streetNoneCard : Claim7 := { stood := { row := streetNoneRow, standIns := [], harness := (true, "2f99f80101145ca6bc6a392b88c9c97481f4d3f884af19871da4ae7cdeb83020"), looks := true }, kinds := [], alts := [], laidByText := true, laidKinds := [.data, .data, .data, .data, .sentinel, .sentinel, .listed, .data, .pinned], laidTests := true, laidLooks := .later }
def StreetNoneCardSaid : Prop := Claim7.holds Tryz.pinned (.plain (OpenSpec.ofChange streetNoneSpec)) streetNoneCard

/-- THE SECOND FORM's CARD OF 'apportionlaw18.StreetAt'. -/
def streetAtUptoCard : Claim7 := { stood := { row := streetAtUptoRow, standIns := [], harness := (true, "2f99f80101145ca6bc6a392b88c9c97481f4d3f884af19871da4ae7cdeb83020"), looks := true }, kinds := [], alts := [], laidByText := true, laidKinds := [.data, .data, .data, .data, .sentinel, .sentinel, .listed, .data, .pinned], laidTests := true, laidLooks := .later }
def StreetAtUptoCardSaid : Prop := Claim7.holds Tryz.pinned (.plain (OpenSpec.upto streetAtSpec)) streetAtUptoCard

/-- THE SECOND FORM's CARD OF 'apportionlaw18.StreetMany'. -/
def streetManyUptoCard : Claim7 := { stood := { row := streetManyUptoRow, standIns := [], harness := (true, "2f99f80101145ca6bc6a392b88c9c97481f4d3f884af19871da4ae7cdeb83020"), looks := true }, kinds := [], alts := [], laidByText := true, laidKinds := [.data, .data, .data, .data, .sentinel, .sentinel, .listed, .data, .pinned], laidTests := true, laidLooks := .later }
def StreetManyUptoCardSaid : Prop := Claim7.holds Tryz.pinned (.plain (OpenSpec.upto streetManySpec)) streetManyUptoCard

/-- THE SECOND FORM's CARD OF 'apportionlaw18.StreetBetween'. -/
def streetBetweenUptoCard : Claim7 := { stood := { row := streetBetweenUptoRow, standIns := [], harness := (true, "2f99f80101145ca6bc6a392b88c9c97481f4d3f884af19871da4ae7cdeb83020"), looks := true }, kinds := [], alts := [], laidByText := true, laidKinds := [.data, .data, .data, .data, .sentinel, .sentinel, .listed, .data, .pinned], laidTests := true, laidLooks := .later }
def StreetBetweenUptoCardSaid : Prop := Claim7.holds Tryz.pinned (.plain (OpenSpec.upto streetBetweenSpec)) streetBetweenUptoCard

/-- THE SECOND FORM's CARD OF 'apportionlaw18.StreetOrder'. -/
def streetOrderUptoCard : Claim7 := { stood := { row := streetOrderUptoRow, standIns := [], harness := (true, "2f99f80101145ca6bc6a392b88c9c97481f4d3f884af19871da4ae7cdeb83020"), looks := true }, kinds := [], alts := [], laidByText := true, laidKinds := [.data, .data, .data, .data, .sentinel, .sentinel, .listed, .data, .pinned], laidTests := true, laidLooks := .later }
def StreetOrderUptoCardSaid : Prop := Claim7.holds Tryz.pinned (.plain (OpenSpec.upto streetOrderSpec)) streetOrderUptoCard

/-- THE SECOND FORM's CARD OF 'apportionlaw18.StreetEach'. -/
def streetEachUptoCard : Claim7 := { stood := { row := streetEachUptoRow, standIns := [], harness := (true, "2f99f80101145ca6bc6a392b88c9c97481f4d3f884af19871da4ae7cdeb83020"), looks := true }, kinds := [], alts := [], laidByText := true, laidKinds := [.data, .data, .data, .data, .sentinel, .sentinel, .listed, .data, .pinned], laidTests := true, laidLooks := .later }
def StreetEachUptoCardSaid : Prop := Claim7.holds Tryz.pinned (.plain (OpenSpec.upto streetEachSpec)) streetEachUptoCard

/-- THE SECOND FORM's CARD OF 'apportionlaw18.StreetKnown'. -/
def streetKnownUptoCard : Claim7 := { stood := { row := streetKnownUptoRow, standIns := [], harness := (true, "2f99f80101145ca6bc6a392b88c9c97481f4d3f884af19871da4ae7cdeb83020"), looks := true }, kinds := [], alts := [], laidByText := true, laidKinds := [.data, .data, .data, .data, .sentinel, .sentinel, .listed, .data, .pinned], laidTests := true, laidLooks := .later }
def StreetKnownUptoCardSaid : Prop := Claim7.holds Tryz.pinned (.plain (OpenSpec.upto streetKnownSpec)) streetKnownUptoCard

/-- THE SECOND FORM's CARD OF 'apportionlaw18.StreetFinds'. -/
def streetFindsUptoCard : Claim7 := { stood := { row := streetFindsUptoRow, standIns := [], harness := (true, "2f99f80101145ca6bc6a392b88c9c97481f4d3f884af19871da4ae7cdeb83020"), looks := true }, kinds := [], alts := [], laidByText := true, laidKinds := [.data, .data, .data, .data, .sentinel, .sentinel, .listed, .data, .pinned], laidTests := true, laidLooks := .later }
def StreetFindsUptoCardSaid : Prop := Claim7.holds Tryz.pinned (.plain (OpenSpec.upto streetFindsSpec)) streetFindsUptoCard

/-- THE SECOND FORM's CARD OF 'apportionlaw18.StreetNone'. -/
def streetNoneUptoCard : Claim7 := { stood := { row := streetNoneUptoRow, standIns := [], harness := (true, "2f99f80101145ca6bc6a392b88c9c97481f4d3f884af19871da4ae7cdeb83020"), looks := true }, kinds := [], alts := [], laidByText := true, laidKinds := [.data, .data, .data, .data, .sentinel, .sentinel, .listed, .data, .pinned], laidTests := true, laidLooks := .later }
def StreetNoneUptoCardSaid : Prop := Claim7.holds Tryz.pinned (.plain (OpenSpec.upto streetNoneSpec)) streetNoneUptoCard
end Rows
end Go.Proofs.YtjaponmpfdpemaaGreatDoor
