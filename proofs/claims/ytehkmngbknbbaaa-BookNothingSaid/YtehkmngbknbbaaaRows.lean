/-
  No cell of these rows narrows 'for every input' (looked for: loops, veiled, ifaces, maps, wideKeys, modest, calm, conditions, laid).
  DERIVED. THE GIVEN ROWS OF THIS SEAT. 11 by the template 'for every input the law returns true; each argument reads behind the call as it read before'; 0 by the template 'total and deterministic' (their statements: YtehkmngbknbbaaaTotals.lean).
  GIVEN WITH THE SEED: the statements are not yours to turn. If you find one false, say at which input.
  Laid BY PROGRAM, IN A SANDBOX (cutbox-rows.mjs): the forced cells as the released guide's own fill.sh prints them over the translation c82c0f5666f995d8… (all of the seat's roots in one cut). By AI agents, Wed Nov 11 2026. No macro, syntax, notation, axiom, sorry.
-/
import Derived.Test.YtehkmngbknbbaaaChecked
import GoSem.Claim
import GoSem.ClaimJoined
import GoSem.ClaimMapViews
import Derived.JoinedTies
import Derived.KernelRfl
namespace Go.Proofs.Ytehkmngbknbbaaa
/- THE CELL 'sum', in the pinned program and in every row, IS THE sha256 OF THE DUMP (.gsa) THAT YtehkmngbknbbaaaProg.lean LOADS. Nothing in Lean hashes anything: it is a label: what it is worth is what the hold of that sum in a sandbox is worth. -/
noncomputable def Try.pinned : Pinned := { name := "ytehkmngbknbbaaa", sum := "c82c0f5666f995d81c871d12f909f30ac743e0afd1486f81a504fb8550b8bf30", checked := Try.checked }
namespace Rows
def none {H : Type} : Left H := { results := [], args := [] }

/-- 'apportionlaw25.OrderBytes': WHATEVER THE INPUT: true; the input reads as it did. -/
def orderBytesSpec : ChangeSpec := { name := "orderBytes", fn := fun _ => fun
  | [d1, d2] => { results := [.lit (.bool true)], args := [d1, d2] }
  | _ => none }
def orderBytesRow : OpenClaim := { program := "ytehkmngbknbbaaa", sum := "c82c0f5666f995d81c871d12f909f30ac743e0afd1486f81a504fb8550b8bf30", func := "apportion/apportionlaw25.OrderBytes", spec := "orderBytes", unfollowed := true, recurses := true, named := ["math/bits.divideError", "math/bits.overflowError"], plainKeys := false, apart := false }
def OrderBytesSaid : Prop := orderBytesRow.holds Try.pinned (OpenSpec.ofChange orderBytesSpec)

/-- ITS FALSE NEIGHBOUR: 'it returns false'. Refute it at one input. -/
def orderBytesWrong : ChangeSpec := { name := "orderBytes", fn := fun _ => fun
  | [d1, d2] => { results := [.lit (.bool false)], args := [d1, d2] }
  | _ => none }
def OrderBytesWrongFalsely : Prop := orderBytesRow.holds Try.pinned (OpenSpec.ofChange orderBytesWrong)

/-- 'apportionlaw25.OrderWhole': WHATEVER THE INPUT: true; the input reads as it did. -/
def orderWholeSpec : ChangeSpec := { name := "orderWhole", fn := fun _ => fun
  | [d1, d2] => { results := [.lit (.bool true)], args := [d1, d2] }
  | _ => none }
def orderWholeRow : OpenClaim := { program := "ytehkmngbknbbaaa", sum := "c82c0f5666f995d81c871d12f909f30ac743e0afd1486f81a504fb8550b8bf30", func := "apportion/apportionlaw25.OrderWhole", spec := "orderWhole", unfollowed := true, recurses := true, named := ["math/bits.divideError", "math/bits.overflowError"], plainKeys := false, apart := false }
def OrderWholeSaid : Prop := orderWholeRow.holds Try.pinned (OpenSpec.ofChange orderWholeSpec)

/-- ITS FALSE NEIGHBOUR: 'it returns false'. Refute it at one input. -/
def orderWholeWrong : ChangeSpec := { name := "orderWhole", fn := fun _ => fun
  | [d1, d2] => { results := [.lit (.bool false)], args := [d1, d2] }
  | _ => none }
def OrderWholeWrongFalsely : Prop := orderWholeRow.holds Try.pinned (OpenSpec.ofChange orderWholeWrong)

/-- 'apportionlaw25.OrderReturns': WHATEVER THE INPUT: true; the input reads as it did. -/
def orderReturnsSpec : ChangeSpec := { name := "orderReturns", fn := fun _ => fun
  | [d1, d2, d3, d4, d5, d6] => { results := [.lit (.bool true)], args := [d1, d2, d3, d4, d5, d6] }
  | _ => none }
def orderReturnsRow : OpenClaim := { program := "ytehkmngbknbbaaa", sum := "c82c0f5666f995d81c871d12f909f30ac743e0afd1486f81a504fb8550b8bf30", func := "apportion/apportionlaw25.OrderReturns", spec := "orderReturns", inPlace := ["math/bits.Add64"], unfollowed := true, recurses := true, named := ["math/bits.divideError", "math/bits.overflowError"], plainKeys := false, apart := false }
def OrderReturnsSaid : Prop := orderReturnsRow.holds Try.pinned (OpenSpec.ofChange orderReturnsSpec)

/-- ITS FALSE NEIGHBOUR: 'it returns false'. Refute it at one input. -/
def orderReturnsWrong : ChangeSpec := { name := "orderReturns", fn := fun _ => fun
  | [d1, d2, d3, d4, d5, d6] => { results := [.lit (.bool false)], args := [d1, d2, d3, d4, d5, d6] }
  | _ => none }
def OrderReturnsWrongFalsely : Prop := orderReturnsRow.holds Try.pinned (OpenSpec.ofChange orderReturnsWrong)

/-- 'apportionlaw25.OrderKnown': WHATEVER THE INPUT: true; the input reads as it did. -/
def orderKnownSpec : ChangeSpec := { name := "orderKnown", fn := fun _ => fun
  | [] => { results := [.lit (.bool true)], args := [] }
  | _ => none }
def orderKnownRow : OpenClaim := { program := "ytehkmngbknbbaaa", sum := "c82c0f5666f995d81c871d12f909f30ac743e0afd1486f81a504fb8550b8bf30", func := "apportion/apportionlaw25.OrderKnown", spec := "orderKnown", inPlace := ["math/bits.Add64"], unfollowed := true, recurses := true, named := ["math/bits.divideError", "math/bits.overflowError"], plainKeys := false, apart := false }
def OrderKnownSaid : Prop := orderKnownRow.holds Try.pinned (OpenSpec.ofChange orderKnownSpec)

/-- ITS FALSE NEIGHBOUR: 'it returns false'. Refute it at one input. -/
def orderKnownWrong : ChangeSpec := { name := "orderKnown", fn := fun _ => fun
  | [] => { results := [.lit (.bool false)], args := [] }
  | _ => none }
def OrderKnownWrongFalsely : Prop := orderKnownRow.holds Try.pinned (OpenSpec.ofChange orderKnownWrong)

/-- 'apportionlaw25.OrderTotal': WHATEVER THE INPUT: true; the input reads as it did. -/
def orderTotalSpec : ChangeSpec := { name := "orderTotal", fn := fun _ => fun
  | [d1, d2] => { results := [.lit (.bool true)], args := [d1, d2] }
  | _ => none }
def orderTotalRow : OpenClaim := { program := "ytehkmngbknbbaaa", sum := "c82c0f5666f995d81c871d12f909f30ac743e0afd1486f81a504fb8550b8bf30", func := "apportion/apportionlaw25.OrderTotal", spec := "orderTotal", inPlace := ["math/bits.Add64"], unfollowed := true, recurses := true, named := ["math/bits.divideError", "math/bits.overflowError"], plainKeys := false, apart := false }
def OrderTotalSaid : Prop := orderTotalRow.holds Try.pinned (OpenSpec.ofChange orderTotalSpec)

/-- ITS FALSE NEIGHBOUR: 'it returns false'. Refute it at one input. -/
def orderTotalWrong : ChangeSpec := { name := "orderTotal", fn := fun _ => fun
  | [d1, d2] => { results := [.lit (.bool false)], args := [d1, d2] }
  | _ => none }
def OrderTotalWrongFalsely : Prop := orderTotalRow.holds Try.pinned (OpenSpec.ofChange orderTotalWrong)

/-- 'apportionlaw29.BookKnown': WHATEVER THE INPUT: true; the input reads as it did. -/
def bookKnownSpec : ChangeSpec := { name := "bookKnown", fn := fun _ => fun
  | [] => { results := [.lit (.bool true)], args := [] }
  | _ => none }
def bookKnownRow : OpenClaim := { program := "ytehkmngbknbbaaa", sum := "c82c0f5666f995d81c871d12f909f30ac743e0afd1486f81a504fb8550b8bf30", func := "apportion/apportionlaw29.BookKnown", spec := "bookKnown", unfollowed := true, recurses := true, named := ["math/bits.divideError", "math/bits.overflowError"], plainKeys := false, apart := false }
def BookKnownSaid : Prop := bookKnownRow.holds Try.pinned (OpenSpec.ofChange bookKnownSpec)

/-- ITS FALSE NEIGHBOUR: 'it returns false'. Refute it at one input. -/
def bookKnownWrong : ChangeSpec := { name := "bookKnown", fn := fun _ => fun
  | [] => { results := [.lit (.bool false)], args := [] }
  | _ => none }
def BookKnownWrongFalsely : Prop := bookKnownRow.holds Try.pinned (OpenSpec.ofChange bookKnownWrong)

/-- 'apportionlaw29.BookNone': WHATEVER THE INPUT: true; the input reads as it did. -/
def bookNoneSpec : ChangeSpec := { name := "bookNone", fn := fun _ => fun
  | [d1, d2, d3] => { results := [.lit (.bool true)], args := [d1, d2, d3] }
  | _ => none }
def bookNoneRow : OpenClaim := { program := "ytehkmngbknbbaaa", sum := "c82c0f5666f995d81c871d12f909f30ac743e0afd1486f81a504fb8550b8bf30", func := "apportion/apportionlaw29.BookNone", spec := "bookNone", unfollowed := true, recurses := true, named := ["math/bits.divideError", "math/bits.overflowError"], plainKeys := false, apart := false }
def BookNoneSaid : Prop := bookNoneRow.holds Try.pinned (OpenSpec.ofChange bookNoneSpec)

/-- ITS FALSE NEIGHBOUR: 'it returns false'. Refute it at one input. -/
def bookNoneWrong : ChangeSpec := { name := "bookNone", fn := fun _ => fun
  | [d1, d2, d3] => { results := [.lit (.bool false)], args := [d1, d2, d3] }
  | _ => none }
def BookNoneWrongFalsely : Prop := bookNoneRow.holds Try.pinned (OpenSpec.ofChange bookNoneWrong)

/-- 'apportionlaw29.BookAgain': WHATEVER THE INPUT: true; the input reads as it did. -/
def bookAgainSpec : ChangeSpec := { name := "bookAgain", fn := fun _ => fun
  | [d1, d2] => { results := [.lit (.bool true)], args := [d1, d2] }
  | _ => none }
def bookAgainRow : OpenClaim := { program := "ytehkmngbknbbaaa", sum := "c82c0f5666f995d81c871d12f909f30ac743e0afd1486f81a504fb8550b8bf30", func := "apportion/apportionlaw29.BookAgain", spec := "bookAgain", unfollowed := true, recurses := true, named := ["math/bits.divideError", "math/bits.overflowError"], plainKeys := false, apart := false }
def BookAgainSaid : Prop := bookAgainRow.holds Try.pinned (OpenSpec.ofChange bookAgainSpec)

/-- ITS FALSE NEIGHBOUR: 'it returns false'. Refute it at one input. -/
def bookAgainWrong : ChangeSpec := { name := "bookAgain", fn := fun _ => fun
  | [d1, d2] => { results := [.lit (.bool false)], args := [d1, d2] }
  | _ => none }
def BookAgainWrongFalsely : Prop := bookAgainRow.holds Try.pinned (OpenSpec.ofChange bookAgainWrong)

/-- 'apportionlaw29.BookNothing': WHATEVER THE INPUT: true; the input reads as it did. -/
def bookNothingSpec : ChangeSpec := { name := "bookNothing", fn := fun _ => fun
  | [d1, d2, d3] => { results := [.lit (.bool true)], args := [d1, d2, d3] }
  | _ => none }
def bookNothingRow : OpenClaim := { program := "ytehkmngbknbbaaa", sum := "c82c0f5666f995d81c871d12f909f30ac743e0afd1486f81a504fb8550b8bf30", func := "apportion/apportionlaw29.BookNothing", spec := "bookNothing", unfollowed := true, recurses := true, named := ["math/bits.divideError", "math/bits.overflowError"], plainKeys := false, apart := false }
def BookNothingSaid : Prop := bookNothingRow.holds Try.pinned (OpenSpec.ofChange bookNothingSpec)

/-- ITS FALSE NEIGHBOUR: 'it returns false'. Refute it at one input. -/
def bookNothingWrong : ChangeSpec := { name := "bookNothing", fn := fun _ => fun
  | [d1, d2, d3] => { results := [.lit (.bool false)], args := [d1, d2, d3] }
  | _ => none }
def BookNothingWrongFalsely : Prop := bookNothingRow.holds Try.pinned (OpenSpec.ofChange bookNothingWrong)

/-- 'apportionlaw25.OrderBack': WHATEVER THE INPUT: true; the input reads as it did. -/
def orderBackSpec : ChangeSpec := { name := "orderBack", fn := fun _ => fun
  | [d1, d2, d3] => { results := [.lit (.bool true)], args := [d1, d2, d3] }
  | _ => none }
def orderBackRow : OpenClaim := { program := "ytehkmngbknbbaaa", sum := "c82c0f5666f995d81c871d12f909f30ac743e0afd1486f81a504fb8550b8bf30", func := "apportion/apportionlaw25.OrderBack", spec := "orderBack", inPlace := ["math/bits.Add64"], unfollowed := true, recurses := true, named := ["math/bits.divideError", "math/bits.overflowError"], plainKeys := false, apart := false }
def OrderBackSaid : Prop := orderBackRow.holds Try.pinned (OpenSpec.ofChange orderBackSpec)

/-- ITS FALSE NEIGHBOUR: 'it returns false'. Refute it at one input. -/
def orderBackWrong : ChangeSpec := { name := "orderBack", fn := fun _ => fun
  | [d1, d2, d3] => { results := [.lit (.bool false)], args := [d1, d2, d3] }
  | _ => none }
def OrderBackWrongFalsely : Prop := orderBackRow.holds Try.pinned (OpenSpec.ofChange orderBackWrong)

/-- 'apportionlaw29.BookBack': WHATEVER THE INPUT: true; the input reads as it did. -/
def bookBackSpec : ChangeSpec := { name := "bookBack", fn := fun _ => fun
  | [d1, d2] => { results := [.lit (.bool true)], args := [d1, d2] }
  | _ => none }
def bookBackRow : OpenClaim := { program := "ytehkmngbknbbaaa", sum := "c82c0f5666f995d81c871d12f909f30ac743e0afd1486f81a504fb8550b8bf30", func := "apportion/apportionlaw29.BookBack", spec := "bookBack", unfollowed := true, recurses := true, named := ["math/bits.divideError", "math/bits.overflowError"], plainKeys := false, apart := false }
def BookBackSaid : Prop := bookBackRow.holds Try.pinned (OpenSpec.ofChange bookBackSpec)

/-- ITS FALSE NEIGHBOUR: 'it returns false'. Refute it at one input. -/
def bookBackWrong : ChangeSpec := { name := "bookBack", fn := fun _ => fun
  | [d1, d2] => { results := [.lit (.bool false)], args := [d1, d2] }
  | _ => none }
def BookBackWrongFalsely : Prop := bookBackRow.holds Try.pinned (OpenSpec.ofChange bookBackWrong)

/- THE SECOND FORM. 'bulk': how many values and letters a reading holds, each counted each time it is reached (what is shared counts as often as it is met; a slice's spare places count too). A statement '..UptoSaid' is the law's where the arguments, and the package variables that the reading takes, are together of bulk at most 1048576: NARROWER than '..Said'. Prove '..Said' where nothing that the law and all that it calls make is longer than what came in: it says more and counts as full. Else prove '..UptoSaid'. A law counts once. -/
mutual
def uptoBulk {H : Type} : DataW H → Nat
  | .lit (.string bytes) => bytes.length + 1
  | .lit _ => 1
  | .nil => 1
  | .ptr d => uptoBulk d + 1
  | .slice elems spare => uptoBulkAll elems + uptoBulkAll spare + 1
  | .agg parts => uptoBulkAll parts + 1
  | .iface _ d => uptoBulk d + 1
  | .map entries => uptoBulkEntries entries + 1
  | .held _ => 1
def uptoBulkAll {H : Type} : List (DataW H) → Nat
  | [] => 0
  | d :: r => uptoBulk d + uptoBulkAll r
def uptoBulkEntries {H : Type} : List (Lit × DataW H) → Nat
  | [] => 0
  | x :: r => uptoBulkEntry x + uptoBulkEntries r
def uptoBulkEntry {H : Type} : Lit × DataW H → Nat
  | (.string bytes, d) => bytes.length + uptoBulk d + 1
  | (_, d) => uptoBulk d + 1
 end
def uptoSmall : (H : Type) → List (DataW H) → Bool := fun _ ds => decide (uptoBulkAll ds ≤ 1048576)
def OpenSpec.upto (s : _root_.Go.ChangeSpec) : _root_.Go.OpenSpec := { _root_.Go.OpenSpec.ofChange s with cond := some uptoSmall }

/-- 'apportionlaw25.OrderBytes', WHERE WHAT IT READS IS OF BULK AT MOST 1048576: true; the input reads as it did. -/
def orderBytesUptoRow : OpenClaim := { program := "ytehkmngbknbbaaa", sum := "c82c0f5666f995d81c871d12f909f30ac743e0afd1486f81a504fb8550b8bf30", func := "apportion/apportionlaw25.OrderBytes", spec := "orderBytes", unfollowed := true, recurses := true, named := ["math/bits.divideError", "math/bits.overflowError"], plainKeys := false, apart := false, narrowed := true }
def OrderBytesUptoSaid : Prop := orderBytesUptoRow.holds Try.pinned (OpenSpec.upto orderBytesSpec)

/-- 'apportionlaw25.OrderWhole', WHERE WHAT IT READS IS OF BULK AT MOST 1048576: true; the input reads as it did. -/
def orderWholeUptoRow : OpenClaim := { program := "ytehkmngbknbbaaa", sum := "c82c0f5666f995d81c871d12f909f30ac743e0afd1486f81a504fb8550b8bf30", func := "apportion/apportionlaw25.OrderWhole", spec := "orderWhole", unfollowed := true, recurses := true, named := ["math/bits.divideError", "math/bits.overflowError"], plainKeys := false, apart := false, narrowed := true }
def OrderWholeUptoSaid : Prop := orderWholeUptoRow.holds Try.pinned (OpenSpec.upto orderWholeSpec)

/-- 'apportionlaw25.OrderReturns', WHERE WHAT IT READS IS OF BULK AT MOST 1048576: true; the input reads as it did. -/
def orderReturnsUptoRow : OpenClaim := { program := "ytehkmngbknbbaaa", sum := "c82c0f5666f995d81c871d12f909f30ac743e0afd1486f81a504fb8550b8bf30", func := "apportion/apportionlaw25.OrderReturns", spec := "orderReturns", inPlace := ["math/bits.Add64"], unfollowed := true, recurses := true, named := ["math/bits.divideError", "math/bits.overflowError"], plainKeys := false, apart := false, narrowed := true }
def OrderReturnsUptoSaid : Prop := orderReturnsUptoRow.holds Try.pinned (OpenSpec.upto orderReturnsSpec)

/-- 'apportionlaw25.OrderKnown', WHERE WHAT IT READS IS OF BULK AT MOST 1048576: true; the input reads as it did. -/
def orderKnownUptoRow : OpenClaim := { program := "ytehkmngbknbbaaa", sum := "c82c0f5666f995d81c871d12f909f30ac743e0afd1486f81a504fb8550b8bf30", func := "apportion/apportionlaw25.OrderKnown", spec := "orderKnown", inPlace := ["math/bits.Add64"], unfollowed := true, recurses := true, named := ["math/bits.divideError", "math/bits.overflowError"], plainKeys := false, apart := false, narrowed := true }
def OrderKnownUptoSaid : Prop := orderKnownUptoRow.holds Try.pinned (OpenSpec.upto orderKnownSpec)

/-- 'apportionlaw25.OrderTotal', WHERE WHAT IT READS IS OF BULK AT MOST 1048576: true; the input reads as it did. -/
def orderTotalUptoRow : OpenClaim := { program := "ytehkmngbknbbaaa", sum := "c82c0f5666f995d81c871d12f909f30ac743e0afd1486f81a504fb8550b8bf30", func := "apportion/apportionlaw25.OrderTotal", spec := "orderTotal", inPlace := ["math/bits.Add64"], unfollowed := true, recurses := true, named := ["math/bits.divideError", "math/bits.overflowError"], plainKeys := false, apart := false, narrowed := true }
def OrderTotalUptoSaid : Prop := orderTotalUptoRow.holds Try.pinned (OpenSpec.upto orderTotalSpec)

/-- 'apportionlaw29.BookKnown', WHERE WHAT IT READS IS OF BULK AT MOST 1048576: true; the input reads as it did. -/
def bookKnownUptoRow : OpenClaim := { program := "ytehkmngbknbbaaa", sum := "c82c0f5666f995d81c871d12f909f30ac743e0afd1486f81a504fb8550b8bf30", func := "apportion/apportionlaw29.BookKnown", spec := "bookKnown", unfollowed := true, recurses := true, named := ["math/bits.divideError", "math/bits.overflowError"], plainKeys := false, apart := false, narrowed := true }
def BookKnownUptoSaid : Prop := bookKnownUptoRow.holds Try.pinned (OpenSpec.upto bookKnownSpec)

/-- 'apportionlaw29.BookNone', WHERE WHAT IT READS IS OF BULK AT MOST 1048576: true; the input reads as it did. -/
def bookNoneUptoRow : OpenClaim := { program := "ytehkmngbknbbaaa", sum := "c82c0f5666f995d81c871d12f909f30ac743e0afd1486f81a504fb8550b8bf30", func := "apportion/apportionlaw29.BookNone", spec := "bookNone", unfollowed := true, recurses := true, named := ["math/bits.divideError", "math/bits.overflowError"], plainKeys := false, apart := false, narrowed := true }
def BookNoneUptoSaid : Prop := bookNoneUptoRow.holds Try.pinned (OpenSpec.upto bookNoneSpec)

/-- 'apportionlaw29.BookAgain', WHERE WHAT IT READS IS OF BULK AT MOST 1048576: true; the input reads as it did. -/
def bookAgainUptoRow : OpenClaim := { program := "ytehkmngbknbbaaa", sum := "c82c0f5666f995d81c871d12f909f30ac743e0afd1486f81a504fb8550b8bf30", func := "apportion/apportionlaw29.BookAgain", spec := "bookAgain", unfollowed := true, recurses := true, named := ["math/bits.divideError", "math/bits.overflowError"], plainKeys := false, apart := false, narrowed := true }
def BookAgainUptoSaid : Prop := bookAgainUptoRow.holds Try.pinned (OpenSpec.upto bookAgainSpec)

/-- 'apportionlaw29.BookNothing', WHERE WHAT IT READS IS OF BULK AT MOST 1048576: true; the input reads as it did. -/
def bookNothingUptoRow : OpenClaim := { program := "ytehkmngbknbbaaa", sum := "c82c0f5666f995d81c871d12f909f30ac743e0afd1486f81a504fb8550b8bf30", func := "apportion/apportionlaw29.BookNothing", spec := "bookNothing", unfollowed := true, recurses := true, named := ["math/bits.divideError", "math/bits.overflowError"], plainKeys := false, apart := false, narrowed := true }
def BookNothingUptoSaid : Prop := bookNothingUptoRow.holds Try.pinned (OpenSpec.upto bookNothingSpec)

/-- 'apportionlaw25.OrderBack', WHERE WHAT IT READS IS OF BULK AT MOST 1048576: true; the input reads as it did. -/
def orderBackUptoRow : OpenClaim := { program := "ytehkmngbknbbaaa", sum := "c82c0f5666f995d81c871d12f909f30ac743e0afd1486f81a504fb8550b8bf30", func := "apportion/apportionlaw25.OrderBack", spec := "orderBack", inPlace := ["math/bits.Add64"], unfollowed := true, recurses := true, named := ["math/bits.divideError", "math/bits.overflowError"], plainKeys := false, apart := false, narrowed := true }
def OrderBackUptoSaid : Prop := orderBackUptoRow.holds Try.pinned (OpenSpec.upto orderBackSpec)

/-- 'apportionlaw29.BookBack', WHERE WHAT IT READS IS OF BULK AT MOST 1048576: true; the input reads as it did. -/
def bookBackUptoRow : OpenClaim := { program := "ytehkmngbknbbaaa", sum := "c82c0f5666f995d81c871d12f909f30ac743e0afd1486f81a504fb8550b8bf30", func := "apportion/apportionlaw29.BookBack", spec := "bookBack", unfollowed := true, recurses := true, named := ["math/bits.divideError", "math/bits.overflowError"], plainKeys := false, apart := false, narrowed := true }
def BookBackUptoSaid : Prop := bookBackUptoRow.holds Try.pinned (OpenSpec.upto bookBackSpec)

end Rows
end Go.Proofs.Ytehkmngbknbbaaa
