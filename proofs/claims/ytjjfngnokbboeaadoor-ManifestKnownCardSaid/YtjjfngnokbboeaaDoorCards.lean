/-
  DERIVED. GIVEN WITH THE SEED: THE CARDS: each row of YtjjfngnokbboeaaDoorRows.lean that lists a variable, with what it lists TIED to the program's text (the seventh form; the later family's looks); each row that meets fmt, with fmt's text TOLD by the authors' own Lean function (tested against real Go, not proved from fmt's source: count such statements apart). THE CARD IS WHAT COUNTS. Prove the row's statement (the work); the ties are given (YtjjfngnokbboeaaDoorTie.lean); close each card by the builder's one call (the guide's Derived/Test/ToyasCard.lean, 'card_holds'). Laid BY PROGRAM, IN A SANDBOX (cutbox-door.mjs). By AI agents, Wed Nov 11 2026. No macro, syntax, notation, axiom, sorry.
-/
import Derived.Test.YtjjfngnokbboeaaDoorRows
import GoSem.ClaimSeven
namespace Go.Proofs.YtjjfngnokbboeaaDoor
namespace Rows

/-- THE TIED CARD OF 'fathomlaw28.ManifestCodes'. -/
def manifestCodesCard : Claim7 := { stood := { row := manifestCodesRow, standIns := [], harness := (true, "6e3cbfe2a982a718224deaef95a419a573cdf82d666f56b65101d70d7e483918"), looks := false }, kinds := [], alts := [], laidByText := true, laidKinds := [.data, .sentinel], laidTests := true, laidLooks := .later }
def ManifestCodesCardSaid : Prop := Claim7.holds Tryd.pinned (.plain (OpenSpec.ofChange manifestCodesSpec)) manifestCodesCard

/-- THE TIED CARD OF 'fathomlaw28.ManifestBack'. -/
def manifestBackCard : Claim7 := { stood := { row := manifestBackRow, standIns := [], harness := (true, "6e3cbfe2a982a718224deaef95a419a573cdf82d666f56b65101d70d7e483918"), looks := false }, kinds := [], alts := [], laidByText := true, laidKinds := [.data, .sentinel], laidTests := true, laidLooks := .later }
def ManifestBackCardSaid : Prop := Claim7.holds Tryd.pinned (.plain (OpenSpec.ofChange manifestBackSpec)) manifestBackCard

/-- THE TIED CARD OF 'fathomlaw28.ManifestKnown'. -/
def manifestKnownCard : Claim7 := { stood := { row := manifestKnownRow, standIns := [], harness := (true, "6e3cbfe2a982a718224deaef95a419a573cdf82d666f56b65101d70d7e483918"), looks := false }, kinds := [], alts := [], laidByText := true, laidKinds := [.data, .sentinel], laidTests := true, laidLooks := .later }
def ManifestKnownCardSaid : Prop := Claim7.holds Tryd.pinned (.plain (OpenSpec.ofChange manifestKnownSpec)) manifestKnownCard

/-- THE SECOND FORM's CARD OF 'fathomlaw28.ManifestCodes'. -/
def manifestCodesUptoCard : Claim7 := { stood := { row := manifestCodesUptoRow, standIns := [], harness := (true, "6e3cbfe2a982a718224deaef95a419a573cdf82d666f56b65101d70d7e483918"), looks := false }, kinds := [], alts := [], laidByText := true, laidKinds := [.data, .sentinel], laidTests := true, laidLooks := .later }
def ManifestCodesUptoCardSaid : Prop := Claim7.holds Tryd.pinned (.plain (OpenSpec.upto manifestCodesSpec)) manifestCodesUptoCard

/-- THE SECOND FORM's CARD OF 'fathomlaw28.ManifestBack'. -/
def manifestBackUptoCard : Claim7 := { stood := { row := manifestBackUptoRow, standIns := [], harness := (true, "6e3cbfe2a982a718224deaef95a419a573cdf82d666f56b65101d70d7e483918"), looks := false }, kinds := [], alts := [], laidByText := true, laidKinds := [.data, .sentinel], laidTests := true, laidLooks := .later }
def ManifestBackUptoCardSaid : Prop := Claim7.holds Tryd.pinned (.plain (OpenSpec.upto manifestBackSpec)) manifestBackUptoCard

/-- THE SECOND FORM's CARD OF 'fathomlaw28.ManifestKnown'. -/
def manifestKnownUptoCard : Claim7 := { stood := { row := manifestKnownUptoRow, standIns := [], harness := (true, "6e3cbfe2a982a718224deaef95a419a573cdf82d666f56b65101d70d7e483918"), looks := false }, kinds := [], alts := [], laidByText := true, laidKinds := [.data, .sentinel], laidTests := true, laidLooks := .later }
def ManifestKnownUptoCardSaid : Prop := Claim7.holds Tryd.pinned (.plain (OpenSpec.upto manifestKnownSpec)) manifestKnownUptoCard
end Rows
end Go.Proofs.YtjjfngnokbboeaaDoor
