/-
  NARROWER THAN 'FOR EVERY INPUT', by the rows' own cells (each row's printed sentence says how): ManifestCodes: laid · ManifestBack: laid · ManifestKnown: laid.
  DERIVED. THE GIVEN ROWS OF THIS SEAT. 3 by the template 'for every input the law returns true; each argument reads behind the call as it read before'; 0 by the template 'total and deterministic' (their statements: YtjjfngnokbboeaaDoorTotals.lean).
  GIVEN WITH THE SEED: the statements are not yours to turn. If you find one false, say at which input.
  Laid BY PROGRAM, IN A SANDBOX (cutbox-rows.mjs): the forced cells as the released guide's own fill.sh prints them over the translation 4757fa126a218faf… (all of the seat's roots in one cut). By AI agents, Wed Nov 11 2026. No macro, syntax, notation, axiom, sorry.
-/
import Derived.Test.YtjjfngnokbboeaaDoorChecked
import GoSem.Claim
import GoSem.ClaimJoined
import GoSem.ClaimMapViews
import Derived.JoinedTies
import Derived.KernelRfl
namespace Go.Proofs.YtjjfngnokbboeaaDoor
/- THE CELL 'sum', in the pinned program and in every row, IS THE sha256 OF THE DUMP (.gsa) THAT YtjjfngnokbboeaaDoorProg.lean LOADS. Nothing in Lean hashes anything: it is a label: what it is worth is what the hold of that sum in a sandbox is worth. -/
noncomputable def Tryd.pinned : Pinned := { name := "ytjjfngnokbboeaadoor", sum := "4757fa126a218faf24fedbbfd2ffb76671bb51cb6fe8019812b8c830883c64c1", checked := Tryd.checked }
namespace Rows
def none {H : Type} : Left H := { results := [], args := [] }

/- WHAT THE LISTED PACKAGE-LEVEL VARIABLES READ AS WHEN THE CALL BEGINS. Each datum BY PROGRAM (the guide's laid-datum.mjs) off the statement by which the dump's own 'gosem.cut.vars' lays the variable. In a bare row this is a premise. The card (YtjjfngnokbboeaaDoorCards.lean) ties it to the program's text. -/
def laid_fathom_page_steps {H : Type} : DataW H := .agg [.lit (.int .u32 0), .lit (.int .u32 498536548), .lit (.int .u32 997073096), .lit (.int .u32 651767980), .lit (.int .u32 1994146192), .lit (.int .u32 1802195444), .lit (.int .u32 1303535960), .lit (.int .u32 1342533948), .lit (.int .u32 3988292384), .lit (.int .u32 4027552580), .lit (.int .u32 3604390888), .lit (.int .u32 3412177804), .lit (.int .u32 2607071920), .lit (.int .u32 2262029012), .lit (.int .u32 2685067896), .lit (.int .u32 3183342108)]
def laid_bytes_ErrTooLarge {H : Type} : DataW H := .iface "*errors.errorString" (.ptr (.agg [.lit (.string [98, 121, 116, 101, 115, 46, 66, 117, 102, 102, 101, 114, 58, 32, 116, 111, 111, 32, 108, 97, 114, 103, 101])]))

/-- 'fathomlaw28.ManifestCodes': WHATEVER THE INPUT: true; the input reads as it did. -/
def manifestCodesSpec : ChangeSpec := { name := "manifestCodes", fn := fun _ => fun
  | [d1, d2] => { results := [.lit (.bool true)], args := [d1, d2] }
  | _ => none }
def manifestCodesRow : OpenClaim := { program := "ytjjfngnokbboeaadoor", sum := "4757fa126a218faf24fedbbfd2ffb76671bb51cb6fe8019812b8c830883c64c1", func := "fathom/fathomlaw28.ManifestCodes", spec := "manifestCodes", unfollowed := true, recurses := true, named := ["fathom/page.steps", "bytes.ErrTooLarge"], apart := false, laid := [("fathom/page.steps", laid_fathom_page_steps), ("bytes.ErrTooLarge", laid_bytes_ErrTooLarge)] }
def ManifestCodesSaid : Prop := manifestCodesRow.holds Tryd.pinned (OpenSpec.ofChange manifestCodesSpec)

/-- ITS FALSE NEIGHBOUR: 'it returns false'. Refute it at one input. -/
def manifestCodesWrong : ChangeSpec := { name := "manifestCodes", fn := fun _ => fun
  | [d1, d2] => { results := [.lit (.bool false)], args := [d1, d2] }
  | _ => none }
def ManifestCodesWrongFalsely : Prop := manifestCodesRow.holds Tryd.pinned (OpenSpec.ofChange manifestCodesWrong)

/-- 'fathomlaw28.ManifestBack': WHATEVER THE INPUT: true; the input reads as it did. -/
def manifestBackSpec : ChangeSpec := { name := "manifestBack", fn := fun _ => fun
  | [d1, d2] => { results := [.lit (.bool true)], args := [d1, d2] }
  | _ => none }
def manifestBackRow : OpenClaim := { program := "ytjjfngnokbboeaadoor", sum := "4757fa126a218faf24fedbbfd2ffb76671bb51cb6fe8019812b8c830883c64c1", func := "fathom/fathomlaw28.ManifestBack", spec := "manifestBack", unfollowed := true, recurses := true, named := ["fathom/page.steps", "bytes.ErrTooLarge"], apart := false, laid := [("fathom/page.steps", laid_fathom_page_steps), ("bytes.ErrTooLarge", laid_bytes_ErrTooLarge)] }
def ManifestBackSaid : Prop := manifestBackRow.holds Tryd.pinned (OpenSpec.ofChange manifestBackSpec)

/-- ITS FALSE NEIGHBOUR: 'it returns false'. Refute it at one input. -/
def manifestBackWrong : ChangeSpec := { name := "manifestBack", fn := fun _ => fun
  | [d1, d2] => { results := [.lit (.bool false)], args := [d1, d2] }
  | _ => none }
def ManifestBackWrongFalsely : Prop := manifestBackRow.holds Tryd.pinned (OpenSpec.ofChange manifestBackWrong)

/-- 'fathomlaw28.ManifestKnown': WHATEVER THE INPUT: true; the input reads as it did. -/
def manifestKnownSpec : ChangeSpec := { name := "manifestKnown", fn := fun _ => fun
  | [] => { results := [.lit (.bool true)], args := [] }
  | _ => none }
def manifestKnownRow : OpenClaim := { program := "ytjjfngnokbboeaadoor", sum := "4757fa126a218faf24fedbbfd2ffb76671bb51cb6fe8019812b8c830883c64c1", func := "fathom/fathomlaw28.ManifestKnown", spec := "manifestKnown", unfollowed := true, recurses := true, named := ["bytes.ErrTooLarge", "fathom/page.steps"], apart := false, laid := [("fathom/page.steps", laid_fathom_page_steps), ("bytes.ErrTooLarge", laid_bytes_ErrTooLarge)] }
def ManifestKnownSaid : Prop := manifestKnownRow.holds Tryd.pinned (OpenSpec.ofChange manifestKnownSpec)

/-- ITS FALSE NEIGHBOUR: 'it returns false'. Refute it at one input. -/
def manifestKnownWrong : ChangeSpec := { name := "manifestKnown", fn := fun _ => fun
  | [] => { results := [.lit (.bool false)], args := [] }
  | _ => none }
def ManifestKnownWrongFalsely : Prop := manifestKnownRow.holds Tryd.pinned (OpenSpec.ofChange manifestKnownWrong)

/- THE SECOND FORM. 'bulk': how many values and letters a reading holds, each counted each time it is reached (what is shared counts as often as it is met; a slice's spare places count too). A statement '..UptoSaid' is the law's where the arguments, and the package variables that the reading takes, are together of bulk at most 1048576: NARROWER than '..Said'. Prove '..Said' where nothing that the law and all that it calls make is longer than what came in: it says more and counts as full. Else prove '..UptoSaid'. A law counts once. -/
mutual
def uptoBulk {H : Type} : DataW H → Nat
  | .lit (.string bytes) => bytes.length + 1
  | .lit _ => 1
  | .nil => 1
  | .ptr d => uptoBulk d + 1
  | .slice elems spare => uptoBulkAll elems + uptoBulkAll spare + 1
  | .agg parts => uptoBulkAll parts + 1
  | .iface _ d => uptoBulk d + 1
  | .map entries => uptoBulkEntries entries + 1
  | .held _ => 1
def uptoBulkAll {H : Type} : List (DataW H) → Nat
  | [] => 0
  | d :: r => uptoBulk d + uptoBulkAll r
def uptoBulkEntries {H : Type} : List (Lit × DataW H) → Nat
  | [] => 0
  | x :: r => uptoBulkEntry x + uptoBulkEntries r
def uptoBulkEntry {H : Type} : Lit × DataW H → Nat
  | (.string bytes, d) => bytes.length + uptoBulk d + 1
  | (_, d) => uptoBulk d + 1
 end
def uptoSmall : (H : Type) → List (DataW H) → Bool := fun _ ds => decide (uptoBulkAll ds ≤ 1048576)
def OpenSpec.upto (s : _root_.Go.ChangeSpec) : _root_.Go.OpenSpec := { _root_.Go.OpenSpec.ofChange s with cond := some uptoSmall }

/-- 'fathomlaw28.ManifestCodes', WHERE WHAT IT READS IS OF BULK AT MOST 1048576: true; the input reads as it did. -/
def manifestCodesUptoRow : OpenClaim := { program := "ytjjfngnokbboeaadoor", sum := "4757fa126a218faf24fedbbfd2ffb76671bb51cb6fe8019812b8c830883c64c1", func := "fathom/fathomlaw28.ManifestCodes", spec := "manifestCodes", unfollowed := true, recurses := true, named := ["fathom/page.steps", "bytes.ErrTooLarge"], apart := false, laid := [("fathom/page.steps", laid_fathom_page_steps), ("bytes.ErrTooLarge", laid_bytes_ErrTooLarge)], narrowed := true }
def ManifestCodesUptoSaid : Prop := manifestCodesUptoRow.holds Tryd.pinned (OpenSpec.upto manifestCodesSpec)

/-- 'fathomlaw28.ManifestBack', WHERE WHAT IT READS IS OF BULK AT MOST 1048576: true; the input reads as it did. -/
def manifestBackUptoRow : OpenClaim := { program := "ytjjfngnokbboeaadoor", sum := "4757fa126a218faf24fedbbfd2ffb76671bb51cb6fe8019812b8c830883c64c1", func := "fathom/fathomlaw28.ManifestBack", spec := "manifestBack", unfollowed := true, recurses := true, named := ["fathom/page.steps", "bytes.ErrTooLarge"], apart := false, laid := [("fathom/page.steps", laid_fathom_page_steps), ("bytes.ErrTooLarge", laid_bytes_ErrTooLarge)], narrowed := true }
def ManifestBackUptoSaid : Prop := manifestBackUptoRow.holds Tryd.pinned (OpenSpec.upto manifestBackSpec)

/-- 'fathomlaw28.ManifestKnown', WHERE WHAT IT READS IS OF BULK AT MOST 1048576: true; the input reads as it did. -/
def manifestKnownUptoRow : OpenClaim := { program := "ytjjfngnokbboeaadoor", sum := "4757fa126a218faf24fedbbfd2ffb76671bb51cb6fe8019812b8c830883c64c1", func := "fathom/fathomlaw28.ManifestKnown", spec := "manifestKnown", unfollowed := true, recurses := true, named := ["bytes.ErrTooLarge", "fathom/page.steps"], apart := false, laid := [("fathom/page.steps", laid_fathom_page_steps), ("bytes.ErrTooLarge", laid_bytes_ErrTooLarge)], narrowed := true }
def ManifestKnownUptoSaid : Prop := manifestKnownUptoRow.holds Tryd.pinned (OpenSpec.upto manifestKnownSpec)

end Rows
end Go.Proofs.YtjjfngnokbboeaaDoor
