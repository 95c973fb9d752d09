/-
  DERIVED. GIVEN WITH THE SEED: THE CARDS: each row of YtagmlijhgncklaaGreatDoorRows.lean that lists a variable, with what it lists TIED to the program's text (the seventh form; the later family's looks); each row that meets fmt, with fmt's text TOLD by the authors' own Lean function (tested against real Go, not proved from fmt's source: count such statements apart). THE CARD IS WHAT COUNTS. Prove the row's statement (the work); the ties are given (YtagmlijhgncklaaGreatDoorTie.lean); close each card by the builder's one call (the guide's Derived/Test/ToyasCard.lean, 'card_holds'). Laid BY PROGRAM, IN A SANDBOX (cutbox-door.mjs). By AI agents, Wed Nov 11 2026. No macro, syntax, notation, axiom, sorry.
-/
import Derived.Test.YtagmlijhgncklaaGreatDoorRows
import GoSem.ClaimSeven
namespace Go.Proofs.YtagmlijhgncklaaGreatDoor
namespace Rows

/-- THE TIED CARD OF 'metronometop.TopWoken'. -/
def topWokenCard : Claim7 := { stood := { row := topWokenRow, standIns := [], harness := (true, "e3ab3581ec434e94efa9521c3a76ed0c5ec288d6f621a12e2b52a61e743c0039"), looks := true }, kinds := [], alts := [], laidByText := true, laidKinds := [.data, .pinned, .data], laidTests := true, laidLooks := .later }
def TopWokenCardSaid : Prop := Claim7.holds Tryz.pinned (.plain (OpenSpec.ofChange topWokenSpec)) topWokenCard

/-- THE TIED CARD OF 'metronometop.TopRobins'. -/
def topRobinsCard : Claim7 := { stood := { row := topRobinsRow, standIns := [], harness := (true, "e3ab3581ec434e94efa9521c3a76ed0c5ec288d6f621a12e2b52a61e743c0039"), looks := true }, kinds := [], alts := [], laidByText := true, laidKinds := [.data, .pinned, .data], laidTests := true, laidLooks := .later }
def TopRobinsCardSaid : Prop := Claim7.holds Tryz.pinned (.plain (OpenSpec.ofChange topRobinsSpec)) topRobinsCard

/-- THE TIED CARD OF 'metronometop.TopDead'. -/
def topDeadCard : Claim7 := { stood := { row := topDeadRow, standIns := [], harness := (true, "e3ab3581ec434e94efa9521c3a76ed0c5ec288d6f621a12e2b52a61e743c0039"), looks := true }, kinds := [], alts := [], laidByText := true, laidKinds := [.data, .pinned, .data], laidTests := true, laidLooks := .later }
def TopDeadCardSaid : Prop := Claim7.holds Tryz.pinned (.plain (OpenSpec.ofChange topDeadSpec)) topDeadCard

/-- THE TIED CARD OF 'metronometop.TopSporadic'. -/
def topSporadicCard : Claim7 := { stood := { row := topSporadicRow, standIns := [], harness := (true, "e3ab3581ec434e94efa9521c3a76ed0c5ec288d6f621a12e2b52a61e743c0039"), looks := true }, kinds := [], alts := [], laidByText := true, laidKinds := [.data, .pinned, .data], laidTests := true, laidLooks := .later }
def TopSporadicCardSaid : Prop := Claim7.holds Tryz.pinned (.plain (OpenSpec.ofChange topSporadicSpec)) topSporadicCard

/-- THE SECOND FORM's CARD OF 'metronometop.TopWoken'. -/
def topWokenUptoCard : Claim7 := { stood := { row := topWokenUptoRow, standIns := [], harness := (true, "e3ab3581ec434e94efa9521c3a76ed0c5ec288d6f621a12e2b52a61e743c0039"), looks := true }, kinds := [], alts := [], laidByText := true, laidKinds := [.data, .pinned, .data], laidTests := true, laidLooks := .later }
def TopWokenUptoCardSaid : Prop := Claim7.holds Tryz.pinned (.plain (OpenSpec.upto topWokenSpec)) topWokenUptoCard

/-- THE SECOND FORM's CARD OF 'metronometop.TopRobins'. -/
def topRobinsUptoCard : Claim7 := { stood := { row := topRobinsUptoRow, standIns := [], harness := (true, "e3ab3581ec434e94efa9521c3a76ed0c5ec288d6f621a12e2b52a61e743c0039"), looks := true }, kinds := [], alts := [], laidByText := true, laidKinds := [.data, .pinned, .data], laidTests := true, laidLooks := .later }
def TopRobinsUptoCardSaid : Prop := Claim7.holds Tryz.pinned (.plain (OpenSpec.upto topRobinsSpec)) topRobinsUptoCard

/-- THE SECOND FORM's CARD OF 'metronometop.TopDead'. -/
def topDeadUptoCard : Claim7 := { stood := { row := topDeadUptoRow, standIns := [], harness := (true, "e3ab3581ec434e94efa9521c3a76ed0c5ec288d6f621a12e2b52a61e743c0039"), looks := true }, kinds := [], alts := [], laidByText := true, laidKinds := [.data, .pinned, .data], laidTests := true, laidLooks := .later }
def TopDeadUptoCardSaid : Prop := Claim7.holds Tryz.pinned (.plain (OpenSpec.upto topDeadSpec)) topDeadUptoCard

/-- THE SECOND FORM's CARD OF 'metronometop.TopSporadic'. -/
def topSporadicUptoCard : Claim7 := { stood := { row := topSporadicUptoRow, standIns := [], harness := (true, "e3ab3581ec434e94efa9521c3a76ed0c5ec288d6f621a12e2b52a61e743c0039"), looks := true }, kinds := [], alts := [], laidByText := true, laidKinds := [.data, .pinned, .data], laidTests := true, laidLooks := .later }
def TopSporadicUptoCardSaid : Prop := Claim7.holds Tryz.pinned (.plain (OpenSpec.upto topSporadicSpec)) topSporadicUptoCard
end Rows
end Go.Proofs.YtagmlijhgncklaaGreatDoor
