/-
  DERIVED. GIVEN WITH THE SEED: THE CARDS: each row of YtbhddkmfhampbaaDoorRows.lean that lists a variable, with what it lists TIED to the program's text (the seventh form; the later family's looks); each row that meets fmt, with fmt's text TOLD by the authors' own Lean function (tested against real Go, not proved from fmt's source: count such statements apart). THE CARD IS WHAT COUNTS. Prove the row's statement (the work); the ties are given (YtbhddkmfhampbaaDoorTie.lean); close each card by the builder's one call (the guide's Derived/Test/ToyasCard.lean, 'card_holds'). Laid BY PROGRAM, IN A SANDBOX (cutbox-door.mjs). By AI agents, Wed Nov 11 2026. No macro, syntax, notation, axiom, sorry.
-/
import Derived.Test.YtbhddkmfhampbaaDoorRows
import GoSem.ClaimSeven
namespace Go.Proofs.YtbhddkmfhampbaaDoor
namespace Rows

/-- THE TIED CARD OF 'fathomlaw03.PoolPins'. -/
def poolPinsCard : Claim7 := { stood := { row := poolPinsRow, standIns := [], harness := (true, "03993e1e9fb10ff75e64dfc18511df3267aeff12c427530c485fde1ecdb453c9"), looks := false }, kinds := [], alts := [], laidByText := true, laidKinds := [.data], laidTests := true, laidLooks := .later }
def PoolPinsCardSaid : Prop := Claim7.holds Tryd.pinned (.plain (OpenSpec.ofChange poolPinsSpec)) poolPinsCard

/-- THE TIED CARD OF 'fathomlaw03.PoolNone'. -/
def poolNoneCard : Claim7 := { stood := { row := poolNoneRow, standIns := [], harness := (true, "03993e1e9fb10ff75e64dfc18511df3267aeff12c427530c485fde1ecdb453c9"), looks := false }, kinds := [], alts := [], laidByText := true, laidKinds := [.data], laidTests := true, laidLooks := .later }
def PoolNoneCardSaid : Prop := Claim7.holds Tryd.pinned (.plain (OpenSpec.ofChange poolNoneSpec)) poolNoneCard

/-- THE TIED CARD OF 'fathomlaw03.PoolTells'. -/
def poolTellsCard : Claim7 := { stood := { row := poolTellsRow, standIns := [], harness := (true, "03993e1e9fb10ff75e64dfc18511df3267aeff12c427530c485fde1ecdb453c9"), looks := false }, kinds := [], alts := [], laidByText := true, laidKinds := [.data], laidTests := true, laidLooks := .later }
def PoolTellsCardSaid : Prop := Claim7.holds Tryd.pinned (.plain (OpenSpec.ofChange poolTellsSpec)) poolTellsCard

/-- THE SECOND FORM's CARD OF 'fathomlaw03.PoolPins'. -/
def poolPinsUptoCard : Claim7 := { stood := { row := poolPinsUptoRow, standIns := [], harness := (true, "03993e1e9fb10ff75e64dfc18511df3267aeff12c427530c485fde1ecdb453c9"), looks := false }, kinds := [], alts := [], laidByText := true, laidKinds := [.data], laidTests := true, laidLooks := .later }
def PoolPinsUptoCardSaid : Prop := Claim7.holds Tryd.pinned (.plain (OpenSpec.upto poolPinsSpec)) poolPinsUptoCard

/-- THE SECOND FORM's CARD OF 'fathomlaw03.PoolNone'. -/
def poolNoneUptoCard : Claim7 := { stood := { row := poolNoneUptoRow, standIns := [], harness := (true, "03993e1e9fb10ff75e64dfc18511df3267aeff12c427530c485fde1ecdb453c9"), looks := false }, kinds := [], alts := [], laidByText := true, laidKinds := [.data], laidTests := true, laidLooks := .later }
def PoolNoneUptoCardSaid : Prop := Claim7.holds Tryd.pinned (.plain (OpenSpec.upto poolNoneSpec)) poolNoneUptoCard

/-- THE SECOND FORM's CARD OF 'fathomlaw03.PoolTells'. -/
def poolTellsUptoCard : Claim7 := { stood := { row := poolTellsUptoRow, standIns := [], harness := (true, "03993e1e9fb10ff75e64dfc18511df3267aeff12c427530c485fde1ecdb453c9"), looks := false }, kinds := [], alts := [], laidByText := true, laidKinds := [.data], laidTests := true, laidLooks := .later }
def PoolTellsUptoCardSaid : Prop := Claim7.holds Tryd.pinned (.plain (OpenSpec.upto poolTellsSpec)) poolTellsUptoCard
end Rows
end Go.Proofs.YtbhddkmfhampbaaDoor
