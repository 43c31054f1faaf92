/-
  DERIVED. GIVEN WITH THE SEED: THE CARDS: each row of YtdpdmbceakdlmaaGreatDoorRows.lean that lists a variable, with what it lists TIED to the program's text (the seventh form; the later family's looks); each row that meets fmt, with fmt's text TOLD by the authors' own Lean function (tested against real Go, not proved from fmt's source: count such statements apart). THE CARD IS WHAT COUNTS. Prove the row's statement (the work); the ties are given (YtdpdmbceakdlmaaGreatDoorTie.lean); close each card by the builder's one call (the guide's Derived/Test/ToyasCard.lean, 'card_holds'). Laid BY PROGRAM, IN A SANDBOX (cutbox-door.mjs). By AI agents, Wed Nov 11 2026. No macro, syntax, notation, axiom, sorry.
-/
import Derived.Test.YtdpdmbceakdlmaaGreatDoorRows
import GoSem.ClaimSeven
namespace Go.Proofs.YtdpdmbceakdlmaaGreatDoor
namespace Rows

/-- THE TIED CARD OF 'fathomlaw07.RunsPlays'. -/
def runsPlaysCard : Claim7 := { stood := { row := runsPlaysRow, standIns := [], harness := (true, "ed82f5a8216c25b4c1bd6568485d7e7ac51dfcb39bd302504561512b9df43e98"), looks := false }, kinds := [], alts := [], laidByText := true, laidKinds := [.data], laidTests := true, laidLooks := .later }
def RunsPlaysCardSaid : Prop := Claim7.holds Tryz.pinned (.plain (OpenSpec.ofChange runsPlaysSpec)) runsPlaysCard

/-- THE TIED CARD OF 'fathomlaw07.RunsKnown'. -/
def runsKnownCard : Claim7 := { stood := { row := runsKnownRow, standIns := [], harness := (true, "ed82f5a8216c25b4c1bd6568485d7e7ac51dfcb39bd302504561512b9df43e98"), looks := false }, kinds := [], alts := [], laidByText := true, laidKinds := [.data], laidTests := true, laidLooks := .later }
def RunsKnownCardSaid : Prop := Claim7.holds Tryz.pinned (.plain (OpenSpec.ofChange runsKnownSpec)) runsKnownCard

/-- THE SECOND FORM's CARD OF 'fathomlaw07.RunsPlays'. -/
def runsPlaysUptoCard : Claim7 := { stood := { row := runsPlaysUptoRow, standIns := [], harness := (true, "ed82f5a8216c25b4c1bd6568485d7e7ac51dfcb39bd302504561512b9df43e98"), looks := false }, kinds := [], alts := [], laidByText := true, laidKinds := [.data], laidTests := true, laidLooks := .later }
def RunsPlaysUptoCardSaid : Prop := Claim7.holds Tryz.pinned (.plain (OpenSpec.upto runsPlaysSpec)) runsPlaysUptoCard

/-- THE SECOND FORM's CARD OF 'fathomlaw07.RunsKnown'. -/
def runsKnownUptoCard : Claim7 := { stood := { row := runsKnownUptoRow, standIns := [], harness := (true, "ed82f5a8216c25b4c1bd6568485d7e7ac51dfcb39bd302504561512b9df43e98"), looks := false }, kinds := [], alts := [], laidByText := true, laidKinds := [.data], laidTests := true, laidLooks := .later }
def RunsKnownUptoCardSaid : Prop := Claim7.holds Tryz.pinned (.plain (OpenSpec.upto runsKnownSpec)) runsKnownUptoCard
end Rows
end Go.Proofs.YtdpdmbceakdlmaaGreatDoor
