/-
  NARROWER THAN 'FOR EVERY INPUT', by the rows' own cells (each row's printed sentence says how): PoolPins: laid · PoolNone: laid · PoolTells: laid.
  DERIVED. THE GIVEN ROWS OF THIS SEAT. 3 by the template 'for every input the law returns true; each argument reads behind the call as it read before'; 0 by the template 'total and deterministic' (their statements: YtbhddkmfhampbaaDoorTotals.lean).
  GIVEN WITH THE SEED: the statements are not yours to turn. If you find one false, say at which input.
  Laid BY PROGRAM, IN A SANDBOX (cutbox-rows.mjs): the forced cells as the released guide's own fill.sh prints them over the translation c612f6d1de610e77… (all of the seat's roots in one cut). By AI agents, Wed Nov 11 2026. No macro, syntax, notation, axiom, sorry.
-/
import Derived.Test.YtbhddkmfhampbaaDoorChecked
import GoSem.Claim
import GoSem.ClaimJoined
import GoSem.ClaimMapViews
import Derived.JoinedTies
import Derived.KernelRfl
namespace Go.Proofs.YtbhddkmfhampbaaDoor
/- THE CELL 'sum', in the pinned program and in every row, IS THE sha256 OF THE DUMP (.gsa) THAT YtbhddkmfhampbaaDoorProg.lean LOADS. Nothing in Lean hashes anything: it is a label: what it is worth is what the hold of that sum in a sandbox is worth. -/
noncomputable def Tryd.pinned : Pinned := { name := "ytbhddkmfhampbaadoor", sum := "c612f6d1de610e77a1474725dacde324a1fc39bd5a8888906a4ac0708fad5b8b", checked := Tryd.checked }
namespace Rows
def none {H : Type} : Left H := { results := [], args := [] }

/- WHAT THE LISTED PACKAGE-LEVEL VARIABLES READ AS WHEN THE CALL BEGINS. Each datum BY PROGRAM (the guide's laid-datum.mjs) off the statement by which the dump's own 'gosem.cut.vars' lays the variable. In a bare row this is a premise. The card (YtbhddkmfhampbaaDoorCards.lean) ties it to the program's text. -/
def laid_fathom_page_steps {H : Type} : DataW H := .agg [.lit (.int .u32 0), .lit (.int .u32 498536548), .lit (.int .u32 997073096), .lit (.int .u32 651767980), .lit (.int .u32 1994146192), .lit (.int .u32 1802195444), .lit (.int .u32 1303535960), .lit (.int .u32 1342533948), .lit (.int .u32 3988292384), .lit (.int .u32 4027552580), .lit (.int .u32 3604390888), .lit (.int .u32 3412177804), .lit (.int .u32 2607071920), .lit (.int .u32 2262029012), .lit (.int .u32 2685067896), .lit (.int .u32 3183342108)]

/-- 'fathomlaw03.PoolPins': WHATEVER THE INPUT: true; the input reads as it did. -/
def poolPinsSpec : ChangeSpec := { name := "poolPins", fn := fun _ => fun
  | [d] => { results := [.lit (.bool true)], args := [d] }
  | _ => none }
def poolPinsRow : OpenClaim := { program := "ytbhddkmfhampbaadoor", sum := "c612f6d1de610e77a1474725dacde324a1fc39bd5a8888906a4ac0708fad5b8b", func := "fathom/fathomlaw03.PoolPins", spec := "poolPins", unfollowed := true, recurses := true, named := ["fathom/page.steps"], plainKeys := false, apart := false, laid := [("fathom/page.steps", laid_fathom_page_steps)] }
def PoolPinsSaid : Prop := poolPinsRow.holds Tryd.pinned (OpenSpec.ofChange poolPinsSpec)

/-- ITS FALSE NEIGHBOUR: 'it returns false'. Refute it at one input. -/
def poolPinsWrong : ChangeSpec := { name := "poolPins", fn := fun _ => fun
  | [d] => { results := [.lit (.bool false)], args := [d] }
  | _ => none }
def PoolPinsWrongFalsely : Prop := poolPinsRow.holds Tryd.pinned (OpenSpec.ofChange poolPinsWrong)

/-- 'fathomlaw03.PoolNone': WHATEVER THE INPUT: true; the input reads as it did. -/
def poolNoneSpec : ChangeSpec := { name := "poolNone", fn := fun _ => fun
  | [d1, d2] => { results := [.lit (.bool true)], args := [d1, d2] }
  | _ => none }
def poolNoneRow : OpenClaim := { program := "ytbhddkmfhampbaadoor", sum := "c612f6d1de610e77a1474725dacde324a1fc39bd5a8888906a4ac0708fad5b8b", func := "fathom/fathomlaw03.PoolNone", spec := "poolNone", unfollowed := true, recurses := true, named := ["fathom/page.steps"], plainKeys := false, apart := false, laid := [("fathom/page.steps", laid_fathom_page_steps)] }
def PoolNoneSaid : Prop := poolNoneRow.holds Tryd.pinned (OpenSpec.ofChange poolNoneSpec)

/-- ITS FALSE NEIGHBOUR: 'it returns false'. Refute it at one input. -/
def poolNoneWrong : ChangeSpec := { name := "poolNone", fn := fun _ => fun
  | [d1, d2] => { results := [.lit (.bool false)], args := [d1, d2] }
  | _ => none }
def PoolNoneWrongFalsely : Prop := poolNoneRow.holds Tryd.pinned (OpenSpec.ofChange poolNoneWrong)

/-- 'fathomlaw03.PoolTells': WHATEVER THE INPUT: true; the input reads as it did. -/
def poolTellsSpec : ChangeSpec := { name := "poolTells", fn := fun _ => fun
  | [d1, d2, d3] => { results := [.lit (.bool true)], args := [d1, d2, d3] }
  | _ => none }
def poolTellsRow : OpenClaim := { program := "ytbhddkmfhampbaadoor", sum := "c612f6d1de610e77a1474725dacde324a1fc39bd5a8888906a4ac0708fad5b8b", func := "fathom/fathomlaw03.PoolTells", spec := "poolTells", unfollowed := true, recurses := true, named := ["fathom/page.steps"], plainKeys := false, apart := false, laid := [("fathom/page.steps", laid_fathom_page_steps)] }
def PoolTellsSaid : Prop := poolTellsRow.holds Tryd.pinned (OpenSpec.ofChange poolTellsSpec)

/-- ITS FALSE NEIGHBOUR: 'it returns false'. Refute it at one input. -/
def poolTellsWrong : ChangeSpec := { name := "poolTells", fn := fun _ => fun
  | [d1, d2, d3] => { results := [.lit (.bool false)], args := [d1, d2, d3] }
  | _ => none }
def PoolTellsWrongFalsely : Prop := poolTellsRow.holds Tryd.pinned (OpenSpec.ofChange poolTellsWrong)

/- THE SECOND FORM. 'bulk': how many values and letters a reading holds, each counted each time it is reached (what is shared counts as often as it is met; a slice's spare places count too). A statement '..UptoSaid' is the law's where the arguments, and the package variables that the reading takes, are together of bulk at most 1048576: NARROWER than '..Said'. Prove '..Said' where nothing that the law and all that it calls make is longer than what came in: it says more and counts as full. Else prove '..UptoSaid'. A law counts once. -/
mutual
def uptoBulk {H : Type} : DataW H → Nat
  | .lit (.string bytes) => bytes.length + 1
  | .lit _ => 1
  | .nil => 1
  | .ptr d => uptoBulk d + 1
  | .slice elems spare => uptoBulkAll elems + uptoBulkAll spare + 1
  | .agg parts => uptoBulkAll parts + 1
  | .iface _ d => uptoBulk d + 1
  | .map entries => uptoBulkEntries entries + 1
  | .held _ => 1
def uptoBulkAll {H : Type} : List (DataW H) → Nat
  | [] => 0
  | d :: r => uptoBulk d + uptoBulkAll r
def uptoBulkEntries {H : Type} : List (Lit × DataW H) → Nat
  | [] => 0
  | x :: r => uptoBulkEntry x + uptoBulkEntries r
def uptoBulkEntry {H : Type} : Lit × DataW H → Nat
  | (.string bytes, d) => bytes.length + uptoBulk d + 1
  | (_, d) => uptoBulk d + 1
 end
def uptoSmall : (H : Type) → List (DataW H) → Bool := fun _ ds => decide (uptoBulkAll ds ≤ 1048576)
def OpenSpec.upto (s : _root_.Go.ChangeSpec) : _root_.Go.OpenSpec := { _root_.Go.OpenSpec.ofChange s with cond := some uptoSmall }

/-- 'fathomlaw03.PoolPins', WHERE WHAT IT READS IS OF BULK AT MOST 1048576: true; the input reads as it did. -/
def poolPinsUptoRow : OpenClaim := { program := "ytbhddkmfhampbaadoor", sum := "c612f6d1de610e77a1474725dacde324a1fc39bd5a8888906a4ac0708fad5b8b", func := "fathom/fathomlaw03.PoolPins", spec := "poolPins", unfollowed := true, recurses := true, named := ["fathom/page.steps"], plainKeys := false, apart := false, laid := [("fathom/page.steps", laid_fathom_page_steps)], narrowed := true }
def PoolPinsUptoSaid : Prop := poolPinsUptoRow.holds Tryd.pinned (OpenSpec.upto poolPinsSpec)

/-- 'fathomlaw03.PoolNone', WHERE WHAT IT READS IS OF BULK AT MOST 1048576: true; the input reads as it did. -/
def poolNoneUptoRow : OpenClaim := { program := "ytbhddkmfhampbaadoor", sum := "c612f6d1de610e77a1474725dacde324a1fc39bd5a8888906a4ac0708fad5b8b", func := "fathom/fathomlaw03.PoolNone", spec := "poolNone", unfollowed := true, recurses := true, named := ["fathom/page.steps"], plainKeys := false, apart := false, laid := [("fathom/page.steps", laid_fathom_page_steps)], narrowed := true }
def PoolNoneUptoSaid : Prop := poolNoneUptoRow.holds Tryd.pinned (OpenSpec.upto poolNoneSpec)

/-- 'fathomlaw03.PoolTells', WHERE WHAT IT READS IS OF BULK AT MOST 1048576: true; the input reads as it did. -/
def poolTellsUptoRow : OpenClaim := { program := "ytbhddkmfhampbaadoor", sum := "c612f6d1de610e77a1474725dacde324a1fc39bd5a8888906a4ac0708fad5b8b", func := "fathom/fathomlaw03.PoolTells", spec := "poolTells", unfollowed := true, recurses := true, named := ["fathom/page.steps"], plainKeys := false, apart := false, laid := [("fathom/page.steps", laid_fathom_page_steps)], narrowed := true }
def PoolTellsUptoSaid : Prop := poolTellsUptoRow.holds Tryd.pinned (OpenSpec.upto poolTellsSpec)

end Rows
end Go.Proofs.YtbhddkmfhampbaaDoor
