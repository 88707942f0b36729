/-
  DERIVED. GIVEN WITH THE SEED: THE CARDS: each row of YtjmbfcodmmnbiaaDoorRows.lean that lists a variable, with what it lists TIED to the program's text (the seventh form; the later family's looks); each row that meets fmt, with fmt's text TOLD by the authors' own Lean function (tested against real Go, not proved from fmt's source: count such statements apart). THE CARD IS WHAT COUNTS. Prove the row's statement (the work); the ties are given (YtjmbfcodmmnbiaaDoorTie.lean); close each card by the builder's one call (the guide's Derived/Test/ToyasCard.lean, 'card_holds'). Laid BY PROGRAM, IN A SANDBOX (cutbox-door.mjs). By AI agents, Wed Nov 11 2026. No macro, syntax, notation, axiom, sorry.
-/
import Derived.Test.YtjmbfcodmmnbiaaDoorRows
import GoSem.ClaimSeven
namespace Go.Proofs.YtjmbfcodmmnbiaaDoor
namespace Rows

/-- THE TIED CARD OF 'towpathlaw19.ExprEnough'. -/
def exprEnoughCard : Claim7 := { stood := { row := exprEnoughRow, standIns := [], harness := (true, "556173cdda498f3ca69c937693c79dfd5c2a46ccdbbc56bf43218a40f9f2b442"), looks := true }, kinds := [], alts := [], laidByText := true, laidKinds := [.data, .data, .data, .data, .sentinel, .sentinel, .pinned], laidTests := true, laidLooks := .later }
def ExprEnoughCardSaid : Prop := Claim7.holds Tryd.pinned (.plain (OpenSpec.ofChange exprEnoughSpec)) exprEnoughCard

/-- THE TIED CARD OF 'towpathlaw19.ExprWords'. -/
def exprWordsCard : Claim7 := { stood := { row := exprWordsRow, standIns := [], harness := (true, "556173cdda498f3ca69c937693c79dfd5c2a46ccdbbc56bf43218a40f9f2b442"), looks := true }, kinds := [], alts := [], laidByText := true, laidKinds := [.data, .data, .data, .data, .sentinel, .sentinel, .pinned], laidTests := true, laidLooks := .later }
def ExprWordsCardSaid : Prop := Claim7.holds Tryd.pinned (.plain (OpenSpec.ofChange exprWordsSpec)) exprWordsCard

/-- THE TIED CARD OF 'towpathlaw19.ExprJoins'. -/
def exprJoinsCard : Claim7 := { stood := { row := exprJoinsRow, standIns := [], harness := (true, "556173cdda498f3ca69c937693c79dfd5c2a46ccdbbc56bf43218a40f9f2b442"), looks := true }, kinds := [], alts := [], laidByText := true, laidKinds := [.data, .data, .data, .data, .sentinel, .sentinel, .pinned], laidTests := true, laidLooks := .later }
def ExprJoinsCardSaid : Prop := Claim7.holds Tryd.pinned (.plain (OpenSpec.ofChange exprJoinsSpec)) exprJoinsCard

/-- THE SECOND FORM's CARD OF 'towpathlaw19.ExprEnough'. -/
def exprEnoughUptoCard : Claim7 := { stood := { row := exprEnoughUptoRow, standIns := [], harness := (true, "556173cdda498f3ca69c937693c79dfd5c2a46ccdbbc56bf43218a40f9f2b442"), looks := true }, kinds := [], alts := [], laidByText := true, laidKinds := [.data, .data, .data, .data, .sentinel, .sentinel, .pinned], laidTests := true, laidLooks := .later }
def ExprEnoughUptoCardSaid : Prop := Claim7.holds Tryd.pinned (.plain (OpenSpec.upto exprEnoughSpec)) exprEnoughUptoCard

/-- THE SECOND FORM's CARD OF 'towpathlaw19.ExprWords'. -/
def exprWordsUptoCard : Claim7 := { stood := { row := exprWordsUptoRow, standIns := [], harness := (true, "556173cdda498f3ca69c937693c79dfd5c2a46ccdbbc56bf43218a40f9f2b442"), looks := true }, kinds := [], alts := [], laidByText := true, laidKinds := [.data, .data, .data, .data, .sentinel, .sentinel, .pinned], laidTests := true, laidLooks := .later }
def ExprWordsUptoCardSaid : Prop := Claim7.holds Tryd.pinned (.plain (OpenSpec.upto exprWordsSpec)) exprWordsUptoCard

/-- THE SECOND FORM's CARD OF 'towpathlaw19.ExprJoins'. -/
def exprJoinsUptoCard : Claim7 := { stood := { row := exprJoinsUptoRow, standIns := [], harness := (true, "556173cdda498f3ca69c937693c79dfd5c2a46ccdbbc56bf43218a40f9f2b442"), looks := true }, kinds := [], alts := [], laidByText := true, laidKinds := [.data, .data, .data, .data, .sentinel, .sentinel, .pinned], laidTests := true, laidLooks := .later }
def ExprJoinsUptoCardSaid : Prop := Claim7.holds Tryd.pinned (.plain (OpenSpec.upto exprJoinsSpec)) exprJoinsUptoCard
end Rows
end Go.Proofs.YtjmbfcodmmnbiaaDoor
