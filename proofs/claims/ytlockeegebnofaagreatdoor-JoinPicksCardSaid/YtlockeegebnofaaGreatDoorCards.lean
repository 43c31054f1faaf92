/-
  DERIVED. GIVEN WITH THE SEED: THE CARDS: each row of YtlockeegebnofaaGreatDoorRows.lean that lists a variable, with what it lists TIED to the program's text (the seventh form; the later family's looks); each row that meets fmt, with fmt's text TOLD by the authors' own Lean function (tested against real Go, not proved from fmt's source: count such statements apart). THE CARD IS WHAT COUNTS. Prove the row's statement (the work); the ties are given (YtlockeegebnofaaGreatDoorTie.lean); close each card by the builder's one call (the guide's Derived/Test/ToyasCard.lean, 'card_holds'). Laid BY PROGRAM, IN A SANDBOX (cutbox-door.mjs). By AI agents, Wed Nov 11 2026. No macro, syntax, notation, axiom, sorry.
-/
import Derived.Test.YtlockeegebnofaaGreatDoorRows
import GoSem.ClaimSeven
namespace Go.Proofs.YtlockeegebnofaaGreatDoor
namespace Rows

/-- THE TIED CARD OF 'fathomlaw11.JoinPicks'. -/
def joinPicksCard : Claim7 := { stood := { row := joinPicksRow, standIns := [], harness := (true, "c227b62bbf562523c8da3f1ae6aa55204ee04caf9c940ec744a183cb74a847f0"), looks := false }, kinds := [], alts := [], laidByText := true, laidKinds := [.data, .data, .data, .data], laidTests := true, laidLooks := .later }
def JoinPicksCardSaid : Prop := Claim7.holds Tryz.pinned (.plain (OpenSpec.ofChange joinPicksSpec)) joinPicksCard

/-- THE TIED CARD OF 'fathomlaw11.JoinOver'. -/
def joinOverCard : Claim7 := { stood := { row := joinOverRow, standIns := [], harness := (true, "c227b62bbf562523c8da3f1ae6aa55204ee04caf9c940ec744a183cb74a847f0"), looks := false }, kinds := [], alts := [], laidByText := true, laidKinds := [.data, .data, .data, .data], laidTests := true, laidLooks := .later }
def JoinOverCardSaid : Prop := Claim7.holds Tryz.pinned (.plain (OpenSpec.ofChange joinOverSpec)) joinOverCard

/-- THE SECOND FORM's CARD OF 'fathomlaw11.JoinPicks'. -/
def joinPicksUptoCard : Claim7 := { stood := { row := joinPicksUptoRow, standIns := [], harness := (true, "c227b62bbf562523c8da3f1ae6aa55204ee04caf9c940ec744a183cb74a847f0"), looks := false }, kinds := [], alts := [], laidByText := true, laidKinds := [.data, .data, .data, .data], laidTests := true, laidLooks := .later }
def JoinPicksUptoCardSaid : Prop := Claim7.holds Tryz.pinned (.plain (OpenSpec.upto joinPicksSpec)) joinPicksUptoCard

/-- THE SECOND FORM's CARD OF 'fathomlaw11.JoinOver'. -/
def joinOverUptoCard : Claim7 := { stood := { row := joinOverUptoRow, standIns := [], harness := (true, "c227b62bbf562523c8da3f1ae6aa55204ee04caf9c940ec744a183cb74a847f0"), looks := false }, kinds := [], alts := [], laidByText := true, laidKinds := [.data, .data, .data, .data], laidTests := true, laidLooks := .later }
def JoinOverUptoCardSaid : Prop := Claim7.holds Tryz.pinned (.plain (OpenSpec.upto joinOverSpec)) joinOverUptoCard
end Rows
end Go.Proofs.YtlockeegebnofaaGreatDoor
