/-
  DERIVED. GIVEN WITH THE SEED: THE CARDS: each row of YtjpkcdhjleemlaaGreatDoorRows.lean that lists a variable, with what it lists TIED to the program's text (the seventh form; the later family's looks); each row that meets fmt, with fmt's text TOLD by the authors' own Lean function (tested against real Go, not proved from fmt's source: count such statements apart). THE CARD IS WHAT COUNTS. Prove the row's statement (the work); the ties are given (YtjpkcdhjleemlaaGreatDoorTie.lean); close each card by the builder's one call (the guide's Derived/Test/ToyasCard.lean, 'card_holds'). Laid BY PROGRAM, IN A SANDBOX (cutbox-door.mjs). By AI agents, Wed Nov 11 2026. No macro, syntax, notation, axiom, sorry.
-/
import Derived.Test.YtjpkcdhjleemlaaGreatDoorRows
import GoSem.ClaimSeven
namespace Go.Proofs.YtjpkcdhjleemlaaGreatDoor
namespace Rows

/-- THE TIED CARD OF 'fathomlaw10.RelTurns'. -/
def relTurnsCard : Claim7 := { stood := { row := relTurnsRow, standIns := [], harness := (true, "defa5eae98056944f8ad6a3c991703dcc3029655168d0f316811e7a59a0973a8"), looks := false }, kinds := [], alts := [], laidByText := true, laidKinds := [.data, .data, .data, .data], laidTests := true, laidLooks := .later }
def RelTurnsCardSaid : Prop := Claim7.holds Tryz.pinned (.plain (OpenSpec.ofChange relTurnsSpec)) relTurnsCard

/-- THE TIED CARD OF 'fathomlaw10.RelNone'. -/
def relNoneCard : Claim7 := { stood := { row := relNoneRow, standIns := [], harness := (true, "defa5eae98056944f8ad6a3c991703dcc3029655168d0f316811e7a59a0973a8"), looks := false }, kinds := [], alts := [], laidByText := true, laidKinds := [.data, .data, .data, .data], laidTests := true, laidLooks := .later }
def RelNoneCardSaid : Prop := Claim7.holds Tryz.pinned (.plain (OpenSpec.ofChange relNoneSpec)) relNoneCard

/-- THE SECOND FORM's CARD OF 'fathomlaw10.RelTurns'. -/
def relTurnsUptoCard : Claim7 := { stood := { row := relTurnsUptoRow, standIns := [], harness := (true, "defa5eae98056944f8ad6a3c991703dcc3029655168d0f316811e7a59a0973a8"), looks := false }, kinds := [], alts := [], laidByText := true, laidKinds := [.data, .data, .data, .data], laidTests := true, laidLooks := .later }
def RelTurnsUptoCardSaid : Prop := Claim7.holds Tryz.pinned (.plain (OpenSpec.upto relTurnsSpec)) relTurnsUptoCard

/-- THE SECOND FORM's CARD OF 'fathomlaw10.RelNone'. -/
def relNoneUptoCard : Claim7 := { stood := { row := relNoneUptoRow, standIns := [], harness := (true, "defa5eae98056944f8ad6a3c991703dcc3029655168d0f316811e7a59a0973a8"), looks := false }, kinds := [], alts := [], laidByText := true, laidKinds := [.data, .data, .data, .data], laidTests := true, laidLooks := .later }
def RelNoneUptoCardSaid : Prop := Claim7.holds Tryz.pinned (.plain (OpenSpec.upto relNoneSpec)) relNoneUptoCard
end Rows
end Go.Proofs.YtjpkcdhjleemlaaGreatDoor
