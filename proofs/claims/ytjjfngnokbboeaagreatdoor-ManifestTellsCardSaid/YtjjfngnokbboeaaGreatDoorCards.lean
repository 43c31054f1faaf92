/-
  DERIVED. GIVEN WITH THE SEED: THE CARDS: each row of YtjjfngnokbboeaaGreatDoorRows.lean that lists a variable, with what it lists TIED to the program's text (the seventh form; the later family's looks); each row that meets fmt, with fmt's text TOLD by the authors' own Lean function (tested against real Go, not proved from fmt's source: count such statements apart). THE CARD IS WHAT COUNTS. Prove the row's statement (the work); the ties are given (YtjjfngnokbboeaaGreatDoorTie.lean); close each card by the builder's one call (the guide's Derived/Test/ToyasCard.lean, 'card_holds'). Laid BY PROGRAM, IN A SANDBOX (cutbox-door.mjs). By AI agents, Wed Nov 11 2026. No macro, syntax, notation, axiom, sorry.
-/
import Derived.Test.YtjjfngnokbboeaaGreatDoorRows
import GoSem.ClaimSeven
namespace Go.Proofs.YtjjfngnokbboeaaGreatDoor
namespace Rows

/-- THE TIED CARD OF 'fathomlaw28.ManifestCrash'. -/
def manifestCrashCard : Claim7 := { stood := { row := manifestCrashRow, standIns := [], harness := (true, "67f46092d3c9915dedc9767fc484d5b90a3b7324a288f5316f3274008dba4fc8"), looks := false }, kinds := [], alts := [], laidByText := true, laidKinds := [.data, .sentinel], laidTests := true, laidLooks := .later }
def ManifestCrashCardSaid : Prop := Claim7.holds Tryz.pinned (.plain (OpenSpec.ofChange manifestCrashSpec)) manifestCrashCard

/-- THE TIED CARD OF 'fathomlaw28.ManifestTells'. -/
def manifestTellsCard : Claim7 := { stood := { row := manifestTellsRow, standIns := [], harness := (true, "67f46092d3c9915dedc9767fc484d5b90a3b7324a288f5316f3274008dba4fc8"), looks := false }, kinds := [], alts := [], laidByText := true, laidKinds := [.data, .sentinel], laidTests := true, laidLooks := .later }
def ManifestTellsCardSaid : Prop := Claim7.holds Tryz.pinned (.plain (OpenSpec.ofChange manifestTellsSpec)) manifestTellsCard

/-- THE TIED CARD OF 'fathomlaw28.ManifestTwice'. -/
def manifestTwiceCard : Claim7 := { stood := { row := manifestTwiceRow, standIns := [], harness := (true, "67f46092d3c9915dedc9767fc484d5b90a3b7324a288f5316f3274008dba4fc8"), looks := false }, kinds := [], alts := [], laidByText := true, laidKinds := [.data, .sentinel], laidTests := true, laidLooks := .later }
def ManifestTwiceCardSaid : Prop := Claim7.holds Tryz.pinned (.plain (OpenSpec.ofChange manifestTwiceSpec)) manifestTwiceCard

/-- THE SECOND FORM's CARD OF 'fathomlaw28.ManifestCrash'. -/
def manifestCrashUptoCard : Claim7 := { stood := { row := manifestCrashUptoRow, standIns := [], harness := (true, "67f46092d3c9915dedc9767fc484d5b90a3b7324a288f5316f3274008dba4fc8"), looks := false }, kinds := [], alts := [], laidByText := true, laidKinds := [.data, .sentinel], laidTests := true, laidLooks := .later }
def ManifestCrashUptoCardSaid : Prop := Claim7.holds Tryz.pinned (.plain (OpenSpec.upto manifestCrashSpec)) manifestCrashUptoCard

/-- THE SECOND FORM's CARD OF 'fathomlaw28.ManifestTells'. -/
def manifestTellsUptoCard : Claim7 := { stood := { row := manifestTellsUptoRow, standIns := [], harness := (true, "67f46092d3c9915dedc9767fc484d5b90a3b7324a288f5316f3274008dba4fc8"), looks := false }, kinds := [], alts := [], laidByText := true, laidKinds := [.data, .sentinel], laidTests := true, laidLooks := .later }
def ManifestTellsUptoCardSaid : Prop := Claim7.holds Tryz.pinned (.plain (OpenSpec.upto manifestTellsSpec)) manifestTellsUptoCard

/-- THE SECOND FORM's CARD OF 'fathomlaw28.ManifestTwice'. -/
def manifestTwiceUptoCard : Claim7 := { stood := { row := manifestTwiceUptoRow, standIns := [], harness := (true, "67f46092d3c9915dedc9767fc484d5b90a3b7324a288f5316f3274008dba4fc8"), looks := false }, kinds := [], alts := [], laidByText := true, laidKinds := [.data, .sentinel], laidTests := true, laidLooks := .later }
def ManifestTwiceUptoCardSaid : Prop := Claim7.holds Tryz.pinned (.plain (OpenSpec.upto manifestTwiceSpec)) manifestTwiceUptoCard
end Rows
end Go.Proofs.YtjjfngnokbboeaaGreatDoor
