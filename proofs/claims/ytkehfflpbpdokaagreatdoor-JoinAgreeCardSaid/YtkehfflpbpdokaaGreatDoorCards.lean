/-
  DERIVED. GIVEN WITH THE SEED: THE CARDS: each row of YtkehfflpbpdokaaGreatDoorRows.lean that lists a variable, with what it lists TIED to the program's text (the seventh form; the later family's looks); each row that meets fmt, with fmt's text TOLD by the authors' own Lean function (tested against real Go, not proved from fmt's source: count such statements apart). THE CARD IS WHAT COUNTS. Prove the row's statement (the work); the ties are given (YtkehfflpbpdokaaGreatDoorTie.lean); close each card by the builder's one call (the guide's Derived/Test/ToyasCard.lean, 'card_holds'). Laid BY PROGRAM, IN A SANDBOX (cutbox-door.mjs). By AI agents, Wed Nov 11 2026. No macro, syntax, notation, axiom, sorry.
-/
import Derived.Test.YtkehfflpbpdokaaGreatDoorRows
import GoSem.ClaimSeven
namespace Go.Proofs.YtkehfflpbpdokaaGreatDoor
namespace Rows

/-- THE TIED CARD OF 'fathomlaw10.RelTurns'. -/
def relTurnsCard : Claim7 := { stood := { row := relTurnsRow, standIns := [], harness := (true, "8f1f23cd866a01638e87cbabaf019f45ba89c3196fbfcd7ff07fd23e1cd597b5"), looks := false }, kinds := [], alts := [], laidByText := true, laidKinds := [.data, .data, .data, .data], laidTests := true, laidLooks := .later }
def RelTurnsCardSaid : Prop := Claim7.holds Tryz.pinned (.plain (OpenSpec.ofChange relTurnsSpec)) relTurnsCard

/-- THE TIED CARD OF 'fathomlaw11.JoinAgree'. -/
def joinAgreeCard : Claim7 := { stood := { row := joinAgreeRow, standIns := [], harness := (true, "8f1f23cd866a01638e87cbabaf019f45ba89c3196fbfcd7ff07fd23e1cd597b5"), looks := false }, kinds := [], alts := [], laidByText := true, laidKinds := [.data, .data, .data, .data], laidTests := true, laidLooks := .later }
def JoinAgreeCardSaid : Prop := Claim7.holds Tryz.pinned (.plain (OpenSpec.ofChange joinAgreeSpec)) joinAgreeCard

/-- THE TIED CARD OF 'fathomlaw12.HashAlike'. -/
def hashAlikeCard : Claim7 := { stood := { row := hashAlikeRow, standIns := [], harness := (true, "8f1f23cd866a01638e87cbabaf019f45ba89c3196fbfcd7ff07fd23e1cd597b5"), looks := false }, kinds := [], alts := [], laidByText := true, laidKinds := [.data, .data, .data, .data], laidTests := true, laidLooks := .later }
def HashAlikeCardSaid : Prop := Claim7.holds Tryz.pinned (.plain (OpenSpec.ofChange hashAlikeSpec)) hashAlikeCard

/-- THE SECOND FORM's CARD OF 'fathomlaw10.RelTurns'. -/
def relTurnsUptoCard : Claim7 := { stood := { row := relTurnsUptoRow, standIns := [], harness := (true, "8f1f23cd866a01638e87cbabaf019f45ba89c3196fbfcd7ff07fd23e1cd597b5"), looks := false }, kinds := [], alts := [], laidByText := true, laidKinds := [.data, .data, .data, .data], laidTests := true, laidLooks := .later }
def RelTurnsUptoCardSaid : Prop := Claim7.holds Tryz.pinned (.plain (OpenSpec.upto relTurnsSpec)) relTurnsUptoCard

/-- THE SECOND FORM's CARD OF 'fathomlaw11.JoinAgree'. -/
def joinAgreeUptoCard : Claim7 := { stood := { row := joinAgreeUptoRow, standIns := [], harness := (true, "8f1f23cd866a01638e87cbabaf019f45ba89c3196fbfcd7ff07fd23e1cd597b5"), looks := false }, kinds := [], alts := [], laidByText := true, laidKinds := [.data, .data, .data, .data], laidTests := true, laidLooks := .later }
def JoinAgreeUptoCardSaid : Prop := Claim7.holds Tryz.pinned (.plain (OpenSpec.upto joinAgreeSpec)) joinAgreeUptoCard

/-- THE SECOND FORM's CARD OF 'fathomlaw12.HashAlike'. -/
def hashAlikeUptoCard : Claim7 := { stood := { row := hashAlikeUptoRow, standIns := [], harness := (true, "8f1f23cd866a01638e87cbabaf019f45ba89c3196fbfcd7ff07fd23e1cd597b5"), looks := false }, kinds := [], alts := [], laidByText := true, laidKinds := [.data, .data, .data, .data], laidTests := true, laidLooks := .later }
def HashAlikeUptoCardSaid : Prop := Claim7.holds Tryz.pinned (.plain (OpenSpec.upto hashAlikeSpec)) hashAlikeUptoCard
end Rows
end Go.Proofs.YtkehfflpbpdokaaGreatDoor
