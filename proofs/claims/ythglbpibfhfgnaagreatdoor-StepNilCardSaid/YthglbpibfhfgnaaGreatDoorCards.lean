/-
  DERIVED. GIVEN WITH THE SEED: THE CARDS: each row of YthglbpibfhfgnaaGreatDoorRows.lean that lists a variable, with what it lists TIED to the program's text (the seventh form; the later family's looks); each row that meets fmt, with fmt's text TOLD by the authors' own Lean function (tested against real Go, not proved from fmt's source: count such statements apart). THE CARD IS WHAT COUNTS. Prove the row's statement (the work); the ties are given (YthglbpibfhfgnaaGreatDoorTie.lean); close each card by the builder's one call (the guide's Derived/Test/ToyasCard.lean, 'card_holds'). Laid BY PROGRAM, IN A SANDBOX (cutbox-door.mjs). By AI agents, Wed Nov 11 2026. No macro, syntax, notation, axiom, sorry.
-/
import Derived.Test.YthglbpibfhfgnaaGreatDoorRows
import GoSem.ClaimSeven
namespace Go.Proofs.YthglbpibfhfgnaaGreatDoor
namespace Rows

/-- THE TIED CARD OF 'towpathlaw22.StepPassed'. -/
def stepPassedCard : Claim7 := { stood := { row := stepPassedRow, standIns := [], harness := (true, "7e2c88da19aebb535a24aabf5e3e13941ecc897b469bbb5c3d5ec6895706146a"), looks := true }, kinds := [], alts := [], laidByText := true, laidKinds := [.data, .data, .data, .data, .sentinel, .sentinel, .pinned], laidTests := true, laidLooks := .later }
def StepPassedCardSaid : Prop := Claim7.holds Tryz.pinned (.plain (OpenSpec.ofChange stepPassedSpec)) stepPassedCard

/-- THE TIED CARD OF 'towpathlaw22.StepApart'. -/
def stepApartCard : Claim7 := { stood := { row := stepApartRow, standIns := [], harness := (true, "7e2c88da19aebb535a24aabf5e3e13941ecc897b469bbb5c3d5ec6895706146a"), looks := true }, kinds := [], alts := [], laidByText := true, laidKinds := [.data, .data, .data, .data, .sentinel, .sentinel, .pinned], laidTests := true, laidLooks := .later }
def StepApartCardSaid : Prop := Claim7.holds Tryz.pinned (.plain (OpenSpec.ofChange stepApartSpec)) stepApartCard

/-- THE TIED CARD OF 'towpathlaw22.StepRuns'. -/
def stepRunsCard : Claim7 := { stood := { row := stepRunsRow, standIns := [], harness := (true, "7e2c88da19aebb535a24aabf5e3e13941ecc897b469bbb5c3d5ec6895706146a"), looks := true }, kinds := [], alts := [], laidByText := true, laidKinds := [.data, .data, .data, .data, .sentinel, .sentinel, .pinned], laidTests := true, laidLooks := .later }
def StepRunsCardSaid : Prop := Claim7.holds Tryz.pinned (.plain (OpenSpec.ofChange stepRunsSpec)) stepRunsCard

/-- THE TIED CARD OF 'towpathlaw22.StepNews'. -/
def stepNewsCard : Claim7 := { stood := { row := stepNewsRow, standIns := [], harness := (true, "7e2c88da19aebb535a24aabf5e3e13941ecc897b469bbb5c3d5ec6895706146a"), looks := true }, kinds := [], alts := [], laidByText := true, laidKinds := [.data, .data, .data, .data, .sentinel, .sentinel, .pinned], laidTests := true, laidLooks := .later }
def StepNewsCardSaid : Prop := Claim7.holds Tryz.pinned (.plain (OpenSpec.ofChange stepNewsSpec)) stepNewsCard

/-- THE TIED CARD OF 'towpathlaw22.StepNil'. -/
def stepNilCard : Claim7 := { stood := { row := stepNilRow, standIns := [], harness := (true, "7e2c88da19aebb535a24aabf5e3e13941ecc897b469bbb5c3d5ec6895706146a"), looks := true }, kinds := [], alts := [], laidByText := true, laidKinds := [.data, .data, .data, .data, .sentinel, .sentinel, .pinned], laidTests := true, laidLooks := .later }
def StepNilCardSaid : Prop := Claim7.holds Tryz.pinned (.plain (OpenSpec.ofChange stepNilSpec)) stepNilCard

/-- THE SECOND FORM's CARD OF 'towpathlaw22.StepPassed'. -/
def stepPassedUptoCard : Claim7 := { stood := { row := stepPassedUptoRow, standIns := [], harness := (true, "7e2c88da19aebb535a24aabf5e3e13941ecc897b469bbb5c3d5ec6895706146a"), looks := true }, kinds := [], alts := [], laidByText := true, laidKinds := [.data, .data, .data, .data, .sentinel, .sentinel, .pinned], laidTests := true, laidLooks := .later }
def StepPassedUptoCardSaid : Prop := Claim7.holds Tryz.pinned (.plain (OpenSpec.upto stepPassedSpec)) stepPassedUptoCard

/-- THE SECOND FORM's CARD OF 'towpathlaw22.StepApart'. -/
def stepApartUptoCard : Claim7 := { stood := { row := stepApartUptoRow, standIns := [], harness := (true, "7e2c88da19aebb535a24aabf5e3e13941ecc897b469bbb5c3d5ec6895706146a"), looks := true }, kinds := [], alts := [], laidByText := true, laidKinds := [.data, .data, .data, .data, .sentinel, .sentinel, .pinned], laidTests := true, laidLooks := .later }
def StepApartUptoCardSaid : Prop := Claim7.holds Tryz.pinned (.plain (OpenSpec.upto stepApartSpec)) stepApartUptoCard

/-- THE SECOND FORM's CARD OF 'towpathlaw22.StepRuns'. -/
def stepRunsUptoCard : Claim7 := { stood := { row := stepRunsUptoRow, standIns := [], harness := (true, "7e2c88da19aebb535a24aabf5e3e13941ecc897b469bbb5c3d5ec6895706146a"), looks := true }, kinds := [], alts := [], laidByText := true, laidKinds := [.data, .data, .data, .data, .sentinel, .sentinel, .pinned], laidTests := true, laidLooks := .later }
def StepRunsUptoCardSaid : Prop := Claim7.holds Tryz.pinned (.plain (OpenSpec.upto stepRunsSpec)) stepRunsUptoCard

/-- THE SECOND FORM's CARD OF 'towpathlaw22.StepNews'. -/
def stepNewsUptoCard : Claim7 := { stood := { row := stepNewsUptoRow, standIns := [], harness := (true, "7e2c88da19aebb535a24aabf5e3e13941ecc897b469bbb5c3d5ec6895706146a"), looks := true }, kinds := [], alts := [], laidByText := true, laidKinds := [.data, .data, .data, .data, .sentinel, .sentinel, .pinned], laidTests := true, laidLooks := .later }
def StepNewsUptoCardSaid : Prop := Claim7.holds Tryz.pinned (.plain (OpenSpec.upto stepNewsSpec)) stepNewsUptoCard

/-- THE SECOND FORM's CARD OF 'towpathlaw22.StepNil'. -/
def stepNilUptoCard : Claim7 := { stood := { row := stepNilUptoRow, standIns := [], harness := (true, "7e2c88da19aebb535a24aabf5e3e13941ecc897b469bbb5c3d5ec6895706146a"), looks := true }, kinds := [], alts := [], laidByText := true, laidKinds := [.data, .data, .data, .data, .sentinel, .sentinel, .pinned], laidTests := true, laidLooks := .later }
def StepNilUptoCardSaid : Prop := Claim7.holds Tryz.pinned (.plain (OpenSpec.upto stepNilSpec)) stepNilUptoCard
end Rows
end Go.Proofs.YthglbpibfhfgnaaGreatDoor
