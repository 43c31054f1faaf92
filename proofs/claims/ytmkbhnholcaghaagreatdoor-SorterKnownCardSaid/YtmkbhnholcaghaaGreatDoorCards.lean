/-
  DERIVED. GIVEN WITH THE SEED: THE CARDS: each row of YtmkbhnholcaghaaGreatDoorRows.lean that lists a variable, with what it lists TIED to the program's text (the seventh form; the later family's looks); each row that meets fmt, with fmt's text TOLD by the authors' own Lean function (tested against real Go, not proved from fmt's source: count such statements apart). THE CARD IS WHAT COUNTS. Prove the row's statement (the work); the ties are given (YtmkbhnholcaghaaGreatDoorTie.lean); close each card by the builder's one call (the guide's Derived/Test/ToyasCard.lean, 'card_holds'). Laid BY PROGRAM, IN A SANDBOX (cutbox-door.mjs). By AI agents, Wed Nov 11 2026. No macro, syntax, notation, axiom, sorry.
-/
import Derived.Test.YtmkbhnholcaghaaGreatDoorRows
import GoSem.ClaimSeven
namespace Go.Proofs.YtmkbhnholcaghaaGreatDoor
namespace Rows

/-- THE TIED CARD OF 'fathomlaw08.SorterNone'. -/
def sorterNoneCard : Claim7 := { stood := { row := sorterNoneRow, standIns := [], harness := (true, "788b4acc54a210a3af5b8befa88d4fdfea862ff099296c0f4e72c366c874adc3"), looks := false }, kinds := [], alts := [], laidByText := true, laidKinds := [.data, .data, .data, .data], laidTests := true, laidLooks := .later }
def SorterNoneCardSaid : Prop := Claim7.holds Tryz.pinned (.plain (OpenSpec.ofChange sorterNoneSpec)) sorterNoneCard

/-- THE TIED CARD OF 'fathomlaw08.SorterSorts'. -/
def sorterSortsCard : Claim7 := { stood := { row := sorterSortsRow, standIns := [], harness := (true, "788b4acc54a210a3af5b8befa88d4fdfea862ff099296c0f4e72c366c874adc3"), looks := false }, kinds := [], alts := [], laidByText := true, laidKinds := [.data, .data, .data, .data], laidTests := true, laidLooks := .later }
def SorterSortsCardSaid : Prop := Claim7.holds Tryz.pinned (.plain (OpenSpec.ofChange sorterSortsSpec)) sorterSortsCard

/-- THE TIED CARD OF 'fathomlaw08.SorterPlays'. -/
def sorterPlaysCard : Claim7 := { stood := { row := sorterPlaysRow, standIns := [], harness := (true, "788b4acc54a210a3af5b8befa88d4fdfea862ff099296c0f4e72c366c874adc3"), looks := false }, kinds := [], alts := [], laidByText := true, laidKinds := [.data, .data, .data, .data], laidTests := true, laidLooks := .later }
def SorterPlaysCardSaid : Prop := Claim7.holds Tryz.pinned (.plain (OpenSpec.ofChange sorterPlaysSpec)) sorterPlaysCard

/-- THE TIED CARD OF 'fathomlaw08.SorterMerges'. -/
def sorterMergesCard : Claim7 := { stood := { row := sorterMergesRow, standIns := [], harness := (true, "788b4acc54a210a3af5b8befa88d4fdfea862ff099296c0f4e72c366c874adc3"), looks := false }, kinds := [], alts := [], laidByText := true, laidKinds := [.data, .data, .data, .data], laidTests := true, laidLooks := .later }
def SorterMergesCardSaid : Prop := Claim7.holds Tryz.pinned (.plain (OpenSpec.ofChange sorterMergesSpec)) sorterMergesCard

/-- THE TIED CARD OF 'fathomlaw08.SorterKnown'. -/
def sorterKnownCard : Claim7 := { stood := { row := sorterKnownRow, standIns := [], harness := (true, "788b4acc54a210a3af5b8befa88d4fdfea862ff099296c0f4e72c366c874adc3"), looks := false }, kinds := [], alts := [], laidByText := true, laidKinds := [.data, .data, .data, .data], laidTests := true, laidLooks := .later }
def SorterKnownCardSaid : Prop := Claim7.holds Tryz.pinned (.plain (OpenSpec.ofChange sorterKnownSpec)) sorterKnownCard

/-- THE SECOND FORM's CARD OF 'fathomlaw08.SorterNone'. -/
def sorterNoneUptoCard : Claim7 := { stood := { row := sorterNoneUptoRow, standIns := [], harness := (true, "788b4acc54a210a3af5b8befa88d4fdfea862ff099296c0f4e72c366c874adc3"), looks := false }, kinds := [], alts := [], laidByText := true, laidKinds := [.data, .data, .data, .data], laidTests := true, laidLooks := .later }
def SorterNoneUptoCardSaid : Prop := Claim7.holds Tryz.pinned (.plain (OpenSpec.upto sorterNoneSpec)) sorterNoneUptoCard

/-- THE SECOND FORM's CARD OF 'fathomlaw08.SorterSorts'. -/
def sorterSortsUptoCard : Claim7 := { stood := { row := sorterSortsUptoRow, standIns := [], harness := (true, "788b4acc54a210a3af5b8befa88d4fdfea862ff099296c0f4e72c366c874adc3"), looks := false }, kinds := [], alts := [], laidByText := true, laidKinds := [.data, .data, .data, .data], laidTests := true, laidLooks := .later }
def SorterSortsUptoCardSaid : Prop := Claim7.holds Tryz.pinned (.plain (OpenSpec.upto sorterSortsSpec)) sorterSortsUptoCard

/-- THE SECOND FORM's CARD OF 'fathomlaw08.SorterPlays'. -/
def sorterPlaysUptoCard : Claim7 := { stood := { row := sorterPlaysUptoRow, standIns := [], harness := (true, "788b4acc54a210a3af5b8befa88d4fdfea862ff099296c0f4e72c366c874adc3"), looks := false }, kinds := [], alts := [], laidByText := true, laidKinds := [.data, .data, .data, .data], laidTests := true, laidLooks := .later }
def SorterPlaysUptoCardSaid : Prop := Claim7.holds Tryz.pinned (.plain (OpenSpec.upto sorterPlaysSpec)) sorterPlaysUptoCard

/-- THE SECOND FORM's CARD OF 'fathomlaw08.SorterMerges'. -/
def sorterMergesUptoCard : Claim7 := { stood := { row := sorterMergesUptoRow, standIns := [], harness := (true, "788b4acc54a210a3af5b8befa88d4fdfea862ff099296c0f4e72c366c874adc3"), looks := false }, kinds := [], alts := [], laidByText := true, laidKinds := [.data, .data, .data, .data], laidTests := true, laidLooks := .later }
def SorterMergesUptoCardSaid : Prop := Claim7.holds Tryz.pinned (.plain (OpenSpec.upto sorterMergesSpec)) sorterMergesUptoCard

/-- THE SECOND FORM's CARD OF 'fathomlaw08.SorterKnown'. -/
def sorterKnownUptoCard : Claim7 := { stood := { row := sorterKnownUptoRow, standIns := [], harness := (true, "788b4acc54a210a3af5b8befa88d4fdfea862ff099296c0f4e72c366c874adc3"), looks := false }, kinds := [], alts := [], laidByText := true, laidKinds := [.data, .data, .data, .data], laidTests := true, laidLooks := .later }
def SorterKnownUptoCardSaid : Prop := Claim7.holds Tryz.pinned (.plain (OpenSpec.upto sorterKnownSpec)) sorterKnownUptoCard
end Rows
end Go.Proofs.YtmkbhnholcaghaaGreatDoor
