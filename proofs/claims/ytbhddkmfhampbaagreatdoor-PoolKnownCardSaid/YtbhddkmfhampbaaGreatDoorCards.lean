/-
  DERIVED. GIVEN WITH THE SEED: THE CARDS: each row of YtbhddkmfhampbaaGreatDoorRows.lean that lists a variable, with what it lists TIED to the program's text (the seventh form; the later family's looks); each row that meets fmt, with fmt's text TOLD by the authors' own Lean function (tested against real Go, not proved from fmt's source: count such statements apart). THE CARD IS WHAT COUNTS. Prove the row's statement (the work); the ties are given (YtbhddkmfhampbaaGreatDoorTie.lean); close each card by the builder's one call (the guide's Derived/Test/ToyasCard.lean, 'card_holds'). Laid BY PROGRAM, IN A SANDBOX (cutbox-door.mjs). By AI agents, Wed Nov 11 2026. No macro, syntax, notation, axiom, sorry.
-/
import Derived.Test.YtbhddkmfhampbaaGreatDoorRows
import GoSem.ClaimSeven
namespace Go.Proofs.YtbhddkmfhampbaaGreatDoor
namespace Rows

/-- THE TIED CARD OF 'fathomlaw03.PoolPlays'. -/
def poolPlaysCard : Claim7 := { stood := { row := poolPlaysRow, standIns := [], harness := (true, "587d047b93e2fa4f324aadc979228bd034ec6b262eb74052636eb328f636213b"), looks := false }, kinds := [], alts := [], laidByText := true, laidKinds := [.data], laidTests := true, laidLooks := .later }
def PoolPlaysCardSaid : Prop := Claim7.holds Tryz.pinned (.plain (OpenSpec.ofChange poolPlaysSpec)) poolPlaysCard

/-- THE TIED CARD OF 'fathomlaw03.PoolKnown'. -/
def poolKnownCard : Claim7 := { stood := { row := poolKnownRow, standIns := [], harness := (true, "587d047b93e2fa4f324aadc979228bd034ec6b262eb74052636eb328f636213b"), looks := false }, kinds := [], alts := [], laidByText := true, laidKinds := [.data], laidTests := true, laidLooks := .later }
def PoolKnownCardSaid : Prop := Claim7.holds Tryz.pinned (.plain (OpenSpec.ofChange poolKnownSpec)) poolKnownCard

/-- THE SECOND FORM's CARD OF 'fathomlaw03.PoolPlays'. -/
def poolPlaysUptoCard : Claim7 := { stood := { row := poolPlaysUptoRow, standIns := [], harness := (true, "587d047b93e2fa4f324aadc979228bd034ec6b262eb74052636eb328f636213b"), looks := false }, kinds := [], alts := [], laidByText := true, laidKinds := [.data], laidTests := true, laidLooks := .later }
def PoolPlaysUptoCardSaid : Prop := Claim7.holds Tryz.pinned (.plain (OpenSpec.upto poolPlaysSpec)) poolPlaysUptoCard

/-- THE SECOND FORM's CARD OF 'fathomlaw03.PoolKnown'. -/
def poolKnownUptoCard : Claim7 := { stood := { row := poolKnownUptoRow, standIns := [], harness := (true, "587d047b93e2fa4f324aadc979228bd034ec6b262eb74052636eb328f636213b"), looks := false }, kinds := [], alts := [], laidByText := true, laidKinds := [.data], laidTests := true, laidLooks := .later }
def PoolKnownUptoCardSaid : Prop := Claim7.holds Tryz.pinned (.plain (OpenSpec.upto poolKnownSpec)) poolKnownUptoCard
end Rows
end Go.Proofs.YtbhddkmfhampbaaGreatDoor
