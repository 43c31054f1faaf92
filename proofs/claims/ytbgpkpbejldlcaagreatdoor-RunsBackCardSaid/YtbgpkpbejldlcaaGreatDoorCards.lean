/-
  DERIVED. GIVEN WITH THE SEED: THE CARDS: each row of YtbgpkpbejldlcaaGreatDoorRows.lean that lists a variable, with what it lists TIED to the program's text (the seventh form; the later family's looks); each row that meets fmt, with fmt's text TOLD by the authors' own Lean function (tested against real Go, not proved from fmt's source: count such statements apart). THE CARD IS WHAT COUNTS. Prove the row's statement (the work); the ties are given (YtbgpkpbejldlcaaGreatDoorTie.lean); close each card by the builder's one call (the guide's Derived/Test/ToyasCard.lean, 'card_holds'). Laid BY PROGRAM, IN A SANDBOX (cutbox-door.mjs). By AI agents, Wed Nov 11 2026. No macro, syntax, notation, axiom, sorry.
-/
import Derived.Test.YtbgpkpbejldlcaaGreatDoorRows
import GoSem.ClaimSeven
namespace Go.Proofs.YtbgpkpbejldlcaaGreatDoor
namespace Rows

/-- THE TIED CARD OF 'fathomlaw07.RunsPages'. -/
def runsPagesCard : Claim7 := { stood := { row := runsPagesRow, standIns := [], harness := (true, "00d2acd8ed8cd77a30a74584953e45e4bf6764a3672b66652b85a10ac141c5c5"), looks := false }, kinds := [], alts := [], laidByText := true, laidKinds := [.data], laidTests := true, laidLooks := .later }
def RunsPagesCardSaid : Prop := Claim7.holds Tryz.pinned (.plain (OpenSpec.ofChange runsPagesSpec)) runsPagesCard

/-- THE TIED CARD OF 'fathomlaw07.RunsNone'. -/
def runsNoneCard : Claim7 := { stood := { row := runsNoneRow, standIns := [], harness := (true, "00d2acd8ed8cd77a30a74584953e45e4bf6764a3672b66652b85a10ac141c5c5"), looks := false }, kinds := [], alts := [], laidByText := true, laidKinds := [.data], laidTests := true, laidLooks := .later }
def RunsNoneCardSaid : Prop := Claim7.holds Tryz.pinned (.plain (OpenSpec.ofChange runsNoneSpec)) runsNoneCard

/-- THE TIED CARD OF 'fathomlaw07.RunsBack'. -/
def runsBackCard : Claim7 := { stood := { row := runsBackRow, standIns := [], harness := (true, "00d2acd8ed8cd77a30a74584953e45e4bf6764a3672b66652b85a10ac141c5c5"), looks := false }, kinds := [], alts := [], laidByText := true, laidKinds := [.data], laidTests := true, laidLooks := .later }
def RunsBackCardSaid : Prop := Claim7.holds Tryz.pinned (.plain (OpenSpec.ofChange runsBackSpec)) runsBackCard

/-- THE TIED CARD OF 'fathomlaw07.RunsPlays'. -/
def runsPlaysCard : Claim7 := { stood := { row := runsPlaysRow, standIns := [], harness := (true, "00d2acd8ed8cd77a30a74584953e45e4bf6764a3672b66652b85a10ac141c5c5"), looks := false }, kinds := [], alts := [], laidByText := true, laidKinds := [.data], laidTests := true, laidLooks := .later }
def RunsPlaysCardSaid : Prop := Claim7.holds Tryz.pinned (.plain (OpenSpec.ofChange runsPlaysSpec)) runsPlaysCard

/-- THE TIED CARD OF 'fathomlaw07.RunsKnown'. -/
def runsKnownCard : Claim7 := { stood := { row := runsKnownRow, standIns := [], harness := (true, "00d2acd8ed8cd77a30a74584953e45e4bf6764a3672b66652b85a10ac141c5c5"), looks := false }, kinds := [], alts := [], laidByText := true, laidKinds := [.data], laidTests := true, laidLooks := .later }
def RunsKnownCardSaid : Prop := Claim7.holds Tryz.pinned (.plain (OpenSpec.ofChange runsKnownSpec)) runsKnownCard

/-- THE SECOND FORM's CARD OF 'fathomlaw07.RunsPages'. -/
def runsPagesUptoCard : Claim7 := { stood := { row := runsPagesUptoRow, standIns := [], harness := (true, "00d2acd8ed8cd77a30a74584953e45e4bf6764a3672b66652b85a10ac141c5c5"), looks := false }, kinds := [], alts := [], laidByText := true, laidKinds := [.data], laidTests := true, laidLooks := .later }
def RunsPagesUptoCardSaid : Prop := Claim7.holds Tryz.pinned (.plain (OpenSpec.upto runsPagesSpec)) runsPagesUptoCard

/-- THE SECOND FORM's CARD OF 'fathomlaw07.RunsNone'. -/
def runsNoneUptoCard : Claim7 := { stood := { row := runsNoneUptoRow, standIns := [], harness := (true, "00d2acd8ed8cd77a30a74584953e45e4bf6764a3672b66652b85a10ac141c5c5"), looks := false }, kinds := [], alts := [], laidByText := true, laidKinds := [.data], laidTests := true, laidLooks := .later }
def RunsNoneUptoCardSaid : Prop := Claim7.holds Tryz.pinned (.plain (OpenSpec.upto runsNoneSpec)) runsNoneUptoCard

/-- THE SECOND FORM's CARD OF 'fathomlaw07.RunsBack'. -/
def runsBackUptoCard : Claim7 := { stood := { row := runsBackUptoRow, standIns := [], harness := (true, "00d2acd8ed8cd77a30a74584953e45e4bf6764a3672b66652b85a10ac141c5c5"), looks := false }, kinds := [], alts := [], laidByText := true, laidKinds := [.data], laidTests := true, laidLooks := .later }
def RunsBackUptoCardSaid : Prop := Claim7.holds Tryz.pinned (.plain (OpenSpec.upto runsBackSpec)) runsBackUptoCard

/-- THE SECOND FORM's CARD OF 'fathomlaw07.RunsPlays'. -/
def runsPlaysUptoCard : Claim7 := { stood := { row := runsPlaysUptoRow, standIns := [], harness := (true, "00d2acd8ed8cd77a30a74584953e45e4bf6764a3672b66652b85a10ac141c5c5"), looks := false }, kinds := [], alts := [], laidByText := true, laidKinds := [.data], laidTests := true, laidLooks := .later }
def RunsPlaysUptoCardSaid : Prop := Claim7.holds Tryz.pinned (.plain (OpenSpec.upto runsPlaysSpec)) runsPlaysUptoCard

/-- THE SECOND FORM's CARD OF 'fathomlaw07.RunsKnown'. -/
def runsKnownUptoCard : Claim7 := { stood := { row := runsKnownUptoRow, standIns := [], harness := (true, "00d2acd8ed8cd77a30a74584953e45e4bf6764a3672b66652b85a10ac141c5c5"), looks := false }, kinds := [], alts := [], laidByText := true, laidKinds := [.data], laidTests := true, laidLooks := .later }
def RunsKnownUptoCardSaid : Prop := Claim7.holds Tryz.pinned (.plain (OpenSpec.upto runsKnownSpec)) runsKnownUptoCard
end Rows
end Go.Proofs.YtbgpkpbejldlcaaGreatDoor
