/-
  No cell of these rows narrows 'for every input' (looked for: loops, veiled, ifaces, maps, wideKeys, modest, calm, conditions, laid).
  DERIVED. THE GIVEN ROWS OF THIS SEAT. 6 by the template 'for every input the law returns true; each argument reads behind the call as it read before'; 0 by the template 'total and deterministic' (their statements: YtndnjggcpdkbiaaTotals.lean).
  GIVEN WITH THE SEED: the statements are not yours to turn. If you find one false, say at which input.
  Laid BY PROGRAM, IN A SANDBOX (cutbox-rows.mjs): the forced cells as the released guide's own fill.sh prints them over the translation 217006b79772920a… (all of the seat's roots in one cut). By AI agents, Wed Nov 11 2026. No macro, syntax, notation, axiom, sorry.
-/
import Derived.Test.YtndnjggcpdkbiaaChecked
import GoSem.Claim
import GoSem.ClaimJoined
import GoSem.ClaimMapViews
import Derived.JoinedTies
import Derived.KernelRfl
namespace Go.Proofs.Ytndnjggcpdkbiaa
/- THE CELL 'sum', in the pinned program and in every row, IS THE sha256 OF THE DUMP (.gsa) THAT YtndnjggcpdkbiaaProg.lean LOADS. Nothing in Lean hashes anything: it is a label: what it is worth is what the hold of that sum in a sandbox is worth. -/
noncomputable def Try.pinned : Pinned := { name := "ytndnjggcpdkbiaa", sum := "217006b79772920a14c74f87d14c9cecfbedbc08f8d9db60929f6cd7bc3057ed", checked := Try.checked }
namespace Rows
def none {H : Type} : Left H := { results := [], args := [] }

/-- 'fathomlaw06.RowBytes': WHATEVER THE INPUT: true; the input reads as it did. -/
def rowBytesSpec : ChangeSpec := { name := "rowBytes", fn := fun _ => fun
  | [d1, d2, d3] => { results := [.lit (.bool true)], args := [d1, d2, d3] }
  | _ => none }
def rowBytesRow : OpenClaim := { program := "ytndnjggcpdkbiaa", sum := "217006b79772920a14c74f87d14c9cecfbedbc08f8d9db60929f6cd7bc3057ed", func := "fathom/fathomlaw06.RowBytes", spec := "rowBytes", unfollowed := true, recurses := true, apart := false }
def RowBytesSaid : Prop := rowBytesRow.holds Try.pinned (OpenSpec.ofChange rowBytesSpec)

/-- ITS FALSE NEIGHBOUR: 'it returns false'. Refute it at one input. -/
def rowBytesWrong : ChangeSpec := { name := "rowBytes", fn := fun _ => fun
  | [d1, d2, d3] => { results := [.lit (.bool false)], args := [d1, d2, d3] }
  | _ => none }
def RowBytesWrongFalsely : Prop := rowBytesRow.holds Try.pinned (OpenSpec.ofChange rowBytesWrong)

/-- 'fathomlaw06.RowOrder': WHATEVER THE INPUT: true; the input reads as it did. -/
def rowOrderSpec : ChangeSpec := { name := "rowOrder", fn := fun _ => fun
  | [d1, d2] => { results := [.lit (.bool true)], args := [d1, d2] }
  | _ => none }
def rowOrderRow : OpenClaim := { program := "ytndnjggcpdkbiaa", sum := "217006b79772920a14c74f87d14c9cecfbedbc08f8d9db60929f6cd7bc3057ed", func := "fathom/fathomlaw06.RowOrder", spec := "rowOrder", unfollowed := true, recurses := true, apart := false }
def RowOrderSaid : Prop := rowOrderRow.holds Try.pinned (OpenSpec.ofChange rowOrderSpec)

/-- ITS FALSE NEIGHBOUR: 'it returns false'. Refute it at one input. -/
def rowOrderWrong : ChangeSpec := { name := "rowOrder", fn := fun _ => fun
  | [d1, d2] => { results := [.lit (.bool false)], args := [d1, d2] }
  | _ => none }
def RowOrderWrongFalsely : Prop := rowOrderRow.holds Try.pinned (OpenSpec.ofChange rowOrderWrong)

/-- 'fathomlaw06.RowTurns': WHATEVER THE INPUT: true; the input reads as it did. -/
def rowTurnsSpec : ChangeSpec := { name := "rowTurns", fn := fun _ => fun
  | [d1, d2] => { results := [.lit (.bool true)], args := [d1, d2] }
  | _ => none }
def rowTurnsRow : OpenClaim := { program := "ytndnjggcpdkbiaa", sum := "217006b79772920a14c74f87d14c9cecfbedbc08f8d9db60929f6cd7bc3057ed", func := "fathom/fathomlaw06.RowTurns", spec := "rowTurns", unfollowed := true, recurses := true, apart := false }
def RowTurnsSaid : Prop := rowTurnsRow.holds Try.pinned (OpenSpec.ofChange rowTurnsSpec)

/-- ITS FALSE NEIGHBOUR: 'it returns false'. Refute it at one input. -/
def rowTurnsWrong : ChangeSpec := { name := "rowTurns", fn := fun _ => fun
  | [d1, d2] => { results := [.lit (.bool false)], args := [d1, d2] }
  | _ => none }
def RowTurnsWrongFalsely : Prop := rowTurnsRow.holds Try.pinned (OpenSpec.ofChange rowTurnsWrong)

/-- 'fathomlaw06.RowBack': WHATEVER THE INPUT: true; the input reads as it did. -/
def rowBackSpec : ChangeSpec := { name := "rowBack", fn := fun _ => fun
  | [d1, d2] => { results := [.lit (.bool true)], args := [d1, d2] }
  | _ => none }
def rowBackRow : OpenClaim := { program := "ytndnjggcpdkbiaa", sum := "217006b79772920a14c74f87d14c9cecfbedbc08f8d9db60929f6cd7bc3057ed", func := "fathom/fathomlaw06.RowBack", spec := "rowBack", unfollowed := true, recurses := true, apart := false }
def RowBackSaid : Prop := rowBackRow.holds Try.pinned (OpenSpec.ofChange rowBackSpec)

/-- ITS FALSE NEIGHBOUR: 'it returns false'. Refute it at one input. -/
def rowBackWrong : ChangeSpec := { name := "rowBack", fn := fun _ => fun
  | [d1, d2] => { results := [.lit (.bool false)], args := [d1, d2] }
  | _ => none }
def RowBackWrongFalsely : Prop := rowBackRow.holds Try.pinned (OpenSpec.ofChange rowBackWrong)

/-- 'fathomlaw06.RowAround': WHATEVER THE INPUT: true; the input reads as it did. -/
def rowAroundSpec : ChangeSpec := { name := "rowAround", fn := fun _ => fun
  | [d1, d2] => { results := [.lit (.bool true)], args := [d1, d2] }
  | _ => none }
def rowAroundRow : OpenClaim := { program := "ytndnjggcpdkbiaa", sum := "217006b79772920a14c74f87d14c9cecfbedbc08f8d9db60929f6cd7bc3057ed", func := "fathom/fathomlaw06.RowAround", spec := "rowAround", unfollowed := true, recurses := true, apart := false }
def RowAroundSaid : Prop := rowAroundRow.holds Try.pinned (OpenSpec.ofChange rowAroundSpec)

/-- ITS FALSE NEIGHBOUR: 'it returns false'. Refute it at one input. -/
def rowAroundWrong : ChangeSpec := { name := "rowAround", fn := fun _ => fun
  | [d1, d2] => { results := [.lit (.bool false)], args := [d1, d2] }
  | _ => none }
def RowAroundWrongFalsely : Prop := rowAroundRow.holds Try.pinned (OpenSpec.ofChange rowAroundWrong)

/-- 'fathomlaw06.RowKnown': WHATEVER THE INPUT: true; the input reads as it did. -/
def rowKnownSpec : ChangeSpec := { name := "rowKnown", fn := fun _ => fun
  | [] => { results := [.lit (.bool true)], args := [] }
  | _ => none }
def rowKnownRow : OpenClaim := { program := "ytndnjggcpdkbiaa", sum := "217006b79772920a14c74f87d14c9cecfbedbc08f8d9db60929f6cd7bc3057ed", func := "fathom/fathomlaw06.RowKnown", spec := "rowKnown", unfollowed := true, recurses := true, apart := false }
def RowKnownSaid : Prop := rowKnownRow.holds Try.pinned (OpenSpec.ofChange rowKnownSpec)

/-- ITS FALSE NEIGHBOUR: 'it returns false'. Refute it at one input. -/
def rowKnownWrong : ChangeSpec := { name := "rowKnown", fn := fun _ => fun
  | [] => { results := [.lit (.bool false)], args := [] }
  | _ => none }
def RowKnownWrongFalsely : Prop := rowKnownRow.holds Try.pinned (OpenSpec.ofChange rowKnownWrong)

/- THE SECOND FORM. 'bulk': how many values and letters a reading holds, each counted each time it is reached (what is shared counts as often as it is met; a slice's spare places count too). A statement '..UptoSaid' is the law's where the arguments, and the package variables that the reading takes, are together of bulk at most 1048576: NARROWER than '..Said'. Prove '..Said' where nothing that the law and all that it calls make is longer than what came in: it says more and counts as full. Else prove '..UptoSaid'. A law counts once. -/
mutual
def uptoBulk {H : Type} : DataW H → Nat
  | .lit (.string bytes) => bytes.length + 1
  | .lit _ => 1
  | .nil => 1
  | .ptr d => uptoBulk d + 1
  | .slice elems spare => uptoBulkAll elems + uptoBulkAll spare + 1
  | .agg parts => uptoBulkAll parts + 1
  | .iface _ d => uptoBulk d + 1
  | .map entries => uptoBulkEntries entries + 1
  | .held _ => 1
def uptoBulkAll {H : Type} : List (DataW H) → Nat
  | [] => 0
  | d :: r => uptoBulk d + uptoBulkAll r
def uptoBulkEntries {H : Type} : List (Lit × DataW H) → Nat
  | [] => 0
  | x :: r => uptoBulkEntry x + uptoBulkEntries r
def uptoBulkEntry {H : Type} : Lit × DataW H → Nat
  | (.string bytes, d) => bytes.length + uptoBulk d + 1
  | (_, d) => uptoBulk d + 1
 end
def uptoSmall : (H : Type) → List (DataW H) → Bool := fun _ ds => decide (uptoBulkAll ds ≤ 1048576)
def OpenSpec.upto (s : _root_.Go.ChangeSpec) : _root_.Go.OpenSpec := { _root_.Go.OpenSpec.ofChange s with cond := some uptoSmall }

/-- 'fathomlaw06.RowBytes', WHERE WHAT IT READS IS OF BULK AT MOST 1048576: true; the input reads as it did. -/
def rowBytesUptoRow : OpenClaim := { program := "ytndnjggcpdkbiaa", sum := "217006b79772920a14c74f87d14c9cecfbedbc08f8d9db60929f6cd7bc3057ed", func := "fathom/fathomlaw06.RowBytes", spec := "rowBytes", unfollowed := true, recurses := true, apart := false, narrowed := true }
def RowBytesUptoSaid : Prop := rowBytesUptoRow.holds Try.pinned (OpenSpec.upto rowBytesSpec)

/-- 'fathomlaw06.RowOrder', WHERE WHAT IT READS IS OF BULK AT MOST 1048576: true; the input reads as it did. -/
def rowOrderUptoRow : OpenClaim := { program := "ytndnjggcpdkbiaa", sum := "217006b79772920a14c74f87d14c9cecfbedbc08f8d9db60929f6cd7bc3057ed", func := "fathom/fathomlaw06.RowOrder", spec := "rowOrder", unfollowed := true, recurses := true, apart := false, narrowed := true }
def RowOrderUptoSaid : Prop := rowOrderUptoRow.holds Try.pinned (OpenSpec.upto rowOrderSpec)

/-- 'fathomlaw06.RowTurns', WHERE WHAT IT READS IS OF BULK AT MOST 1048576: true; the input reads as it did. -/
def rowTurnsUptoRow : OpenClaim := { program := "ytndnjggcpdkbiaa", sum := "217006b79772920a14c74f87d14c9cecfbedbc08f8d9db60929f6cd7bc3057ed", func := "fathom/fathomlaw06.RowTurns", spec := "rowTurns", unfollowed := true, recurses := true, apart := false, narrowed := true }
def RowTurnsUptoSaid : Prop := rowTurnsUptoRow.holds Try.pinned (OpenSpec.upto rowTurnsSpec)

/-- 'fathomlaw06.RowBack', WHERE WHAT IT READS IS OF BULK AT MOST 1048576: true; the input reads as it did. -/
def rowBackUptoRow : OpenClaim := { program := "ytndnjggcpdkbiaa", sum := "217006b79772920a14c74f87d14c9cecfbedbc08f8d9db60929f6cd7bc3057ed", func := "fathom/fathomlaw06.RowBack", spec := "rowBack", unfollowed := true, recurses := true, apart := false, narrowed := true }
def RowBackUptoSaid : Prop := rowBackUptoRow.holds Try.pinned (OpenSpec.upto rowBackSpec)

/-- 'fathomlaw06.RowAround', WHERE WHAT IT READS IS OF BULK AT MOST 1048576: true; the input reads as it did. -/
def rowAroundUptoRow : OpenClaim := { program := "ytndnjggcpdkbiaa", sum := "217006b79772920a14c74f87d14c9cecfbedbc08f8d9db60929f6cd7bc3057ed", func := "fathom/fathomlaw06.RowAround", spec := "rowAround", unfollowed := true, recurses := true, apart := false, narrowed := true }
def RowAroundUptoSaid : Prop := rowAroundUptoRow.holds Try.pinned (OpenSpec.upto rowAroundSpec)

/-- 'fathomlaw06.RowKnown', WHERE WHAT IT READS IS OF BULK AT MOST 1048576: true; the input reads as it did. -/
def rowKnownUptoRow : OpenClaim := { program := "ytndnjggcpdkbiaa", sum := "217006b79772920a14c74f87d14c9cecfbedbc08f8d9db60929f6cd7bc3057ed", func := "fathom/fathomlaw06.RowKnown", spec := "rowKnown", unfollowed := true, recurses := true, apart := false, narrowed := true }
def RowKnownUptoSaid : Prop := rowKnownUptoRow.holds Try.pinned (OpenSpec.upto rowKnownSpec)

end Rows
end Go.Proofs.Ytndnjggcpdkbiaa
