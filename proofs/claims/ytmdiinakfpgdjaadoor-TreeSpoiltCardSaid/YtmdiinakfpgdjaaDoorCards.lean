/-
  DERIVED. GIVEN WITH THE SEED: THE CARDS: each row of YtmdiinakfpgdjaaDoorRows.lean that lists a variable, with what it lists TIED to the program's text (the seventh form; the later family's looks); each row that meets fmt, with fmt's text TOLD by the authors' own Lean function (tested against real Go, not proved from fmt's source: count such statements apart). THE CARD IS WHAT COUNTS. Prove the row's statement (the work); the ties are given (YtmdiinakfpgdjaaDoorTie.lean); close each card by the builder's one call (the guide's Derived/Test/ToyasCard.lean, 'card_holds'). Laid BY PROGRAM, IN A SANDBOX (cutbox-door.mjs). By AI agents, Wed Nov 11 2026. No macro, syntax, notation, axiom, sorry.
-/
import Derived.Test.YtmdiinakfpgdjaaDoorRows
import GoSem.ClaimSeven
namespace Go.Proofs.YtmdiinakfpgdjaaDoor
namespace Rows

/-- THE TIED CARD OF 'fathomlaw09.TreeSpoilt'. -/
def treeSpoiltCard : Claim7 := { stood := { row := treeSpoiltRow, standIns := [], harness := (true, "2e723fc3c96955ecf2e51494f27ea23129be734265c358ed1125c21cedc9495a"), looks := false }, kinds := [], alts := [], laidByText := true, laidKinds := [.data], laidTests := true, laidLooks := .later }
def TreeSpoiltCardSaid : Prop := Claim7.holds Tryd.pinned (.plain (OpenSpec.ofChange treeSpoiltSpec)) treeSpoiltCard

/-- THE SECOND FORM's CARD OF 'fathomlaw09.TreeSpoilt'. -/
def treeSpoiltUptoCard : Claim7 := { stood := { row := treeSpoiltUptoRow, standIns := [], harness := (true, "2e723fc3c96955ecf2e51494f27ea23129be734265c358ed1125c21cedc9495a"), looks := false }, kinds := [], alts := [], laidByText := true, laidKinds := [.data], laidTests := true, laidLooks := .later }
def TreeSpoiltUptoCardSaid : Prop := Claim7.holds Tryd.pinned (.plain (OpenSpec.upto treeSpoiltSpec)) treeSpoiltUptoCard
end Rows
end Go.Proofs.YtmdiinakfpgdjaaDoor
