/-
  NARROWER THAN 'FOR EVERY INPUT', by the rows' own cells (each row's printed sentence says how): ManifestCrash: laid · ManifestTells: laid · ManifestTwice: laid.
  DERIVED. THE GIVEN ROWS OF THIS SEAT. 3 by the template 'for every input the law returns true; each argument reads behind the call as it read before'; 0 by the template 'total and deterministic' (their statements: YtjjfngnokbboeaaGreatDoorTotals.lean).
  GIVEN WITH THE SEED: the statements are not yours to turn. If you find one false, say at which input.
  Laid BY PROGRAM, IN A SANDBOX (cutbox-rows.mjs): the forced cells as the released guide's own fill.sh prints them over the translation 55c7f194166f1830… (all of the seat's roots in one cut). By AI agents, Wed Nov 11 2026. No macro, syntax, notation, axiom, sorry.
-/
import Derived.Test.YtjjfngnokbboeaaGreatDoorChecked
import GoSem.Claim
import GoSem.ClaimJoined
import GoSem.ClaimMapViews
import Derived.JoinedTies
import Derived.KernelRfl
namespace Go.Proofs.YtjjfngnokbboeaaGreatDoor
/- THE CELL 'sum', in the pinned program and in every row, IS THE sha256 OF THE DUMP (.gsa) THAT YtjjfngnokbboeaaGreatDoorProg.lean LOADS. Nothing in Lean hashes anything: it is a label: what it is worth is what the hold of that sum in a sandbox is worth. -/
noncomputable def Tryz.pinned : Pinned := { name := "ytjjfngnokbboeaagreatdoor", sum := "55c7f194166f1830f4e36a91cd27275daadedd51ca0e54be6860462852728528", checked := Tryz.checked }
namespace Rows
def none {H : Type} : Left H := { results := [], args := [] }

/- WHAT THE LISTED PACKAGE-LEVEL VARIABLES READ AS WHEN THE CALL BEGINS. Each datum BY PROGRAM (the guide's laid-datum.mjs) off the statement by which the dump's own 'gosem.cut.vars' lays the variable. In a bare row this is a premise. The card (YtjjfngnokbboeaaGreatDoorCards.lean) ties it to the program's text. -/
def laid_fathom_page_steps {H : Type} : DataW H := .agg [.lit (.int .u32 0), .lit (.int .u32 498536548), .lit (.int .u32 997073096), .lit (.int .u32 651767980), .lit (.int .u32 1994146192), .lit (.int .u32 1802195444), .lit (.int .u32 1303535960), .lit (.int .u32 1342533948), .lit (.int .u32 3988292384), .lit (.int .u32 4027552580), .lit (.int .u32 3604390888), .lit (.int .u32 3412177804), .lit (.int .u32 2607071920), .lit (.int .u32 2262029012), .lit (.int .u32 2685067896), .lit (.int .u32 3183342108)]
def laid_bytes_ErrTooLarge {H : Type} : DataW H := .iface "*errors.errorString" (.ptr (.agg [.lit (.string [98, 121, 116, 101, 115, 46, 66, 117, 102, 102, 101, 114, 58, 32, 116, 111, 111, 32, 108, 97, 114, 103, 101])]))

/-- 'fathomlaw28.ManifestCrash': WHATEVER THE INPUT: true; the input reads as it did. -/
def manifestCrashSpec : ChangeSpec := { name := "manifestCrash", fn := fun _ => fun
  | [d1, d2, d3, d4, d5] => { results := [.lit (.bool true)], args := [d1, d2, d3, d4, d5] }
  | _ => none }
def manifestCrashRow : OpenClaim := { program := "ytjjfngnokbboeaagreatdoor", sum := "55c7f194166f1830f4e36a91cd27275daadedd51ca0e54be6860462852728528", func := "fathom/fathomlaw28.ManifestCrash", spec := "manifestCrash", unfollowed := true, recurses := true, named := ["fathom/page.steps", "bytes.ErrTooLarge"], apart := false, laid := [("fathom/page.steps", laid_fathom_page_steps), ("bytes.ErrTooLarge", laid_bytes_ErrTooLarge)] }
def ManifestCrashSaid : Prop := manifestCrashRow.holds Tryz.pinned (OpenSpec.ofChange manifestCrashSpec)

/-- ITS FALSE NEIGHBOUR: 'it returns false'. Refute it at one input. -/
def manifestCrashWrong : ChangeSpec := { name := "manifestCrash", fn := fun _ => fun
  | [d1, d2, d3, d4, d5] => { results := [.lit (.bool false)], args := [d1, d2, d3, d4, d5] }
  | _ => none }
def ManifestCrashWrongFalsely : Prop := manifestCrashRow.holds Tryz.pinned (OpenSpec.ofChange manifestCrashWrong)

/-- 'fathomlaw28.ManifestTells': WHATEVER THE INPUT: true; the input reads as it did. -/
def manifestTellsSpec : ChangeSpec := { name := "manifestTells", fn := fun _ => fun
  | [d1, d2] => { results := [.lit (.bool true)], args := [d1, d2] }
  | _ => none }
def manifestTellsRow : OpenClaim := { program := "ytjjfngnokbboeaagreatdoor", sum := "55c7f194166f1830f4e36a91cd27275daadedd51ca0e54be6860462852728528", func := "fathom/fathomlaw28.ManifestTells", spec := "manifestTells", unfollowed := true, recurses := true, named := ["fathom/page.steps", "bytes.ErrTooLarge"], apart := false, laid := [("fathom/page.steps", laid_fathom_page_steps), ("bytes.ErrTooLarge", laid_bytes_ErrTooLarge)] }
def ManifestTellsSaid : Prop := manifestTellsRow.holds Tryz.pinned (OpenSpec.ofChange manifestTellsSpec)

/-- ITS FALSE NEIGHBOUR: 'it returns false'. Refute it at one input. -/
def manifestTellsWrong : ChangeSpec := { name := "manifestTells", fn := fun _ => fun
  | [d1, d2] => { results := [.lit (.bool false)], args := [d1, d2] }
  | _ => none }
def ManifestTellsWrongFalsely : Prop := manifestTellsRow.holds Tryz.pinned (OpenSpec.ofChange manifestTellsWrong)

/-- 'fathomlaw28.ManifestTwice': WHATEVER THE INPUT: true; the input reads as it did. -/
def manifestTwiceSpec : ChangeSpec := { name := "manifestTwice", fn := fun _ => fun
  | [d1, d2, d3, d4] => { results := [.lit (.bool true)], args := [d1, d2, d3, d4] }
  | _ => none }
def manifestTwiceRow : OpenClaim := { program := "ytjjfngnokbboeaagreatdoor", sum := "55c7f194166f1830f4e36a91cd27275daadedd51ca0e54be6860462852728528", func := "fathom/fathomlaw28.ManifestTwice", spec := "manifestTwice", unfollowed := true, recurses := true, named := ["fathom/page.steps", "bytes.ErrTooLarge"], apart := false, laid := [("fathom/page.steps", laid_fathom_page_steps), ("bytes.ErrTooLarge", laid_bytes_ErrTooLarge)] }
def ManifestTwiceSaid : Prop := manifestTwiceRow.holds Tryz.pinned (OpenSpec.ofChange manifestTwiceSpec)

/-- ITS FALSE NEIGHBOUR: 'it returns false'. Refute it at one input. -/
def manifestTwiceWrong : ChangeSpec := { name := "manifestTwice", fn := fun _ => fun
  | [d1, d2, d3, d4] => { results := [.lit (.bool false)], args := [d1, d2, d3, d4] }
  | _ => none }
def ManifestTwiceWrongFalsely : Prop := manifestTwiceRow.holds Tryz.pinned (OpenSpec.ofChange manifestTwiceWrong)

/- THE SECOND FORM. 'bulk': how many values and letters a reading holds, each counted each time it is reached (what is shared counts as often as it is met; a slice's spare places count too). A statement '..UptoSaid' is the law's where the arguments, and the package variables that the reading takes, are together of bulk at most 1048576: NARROWER than '..Said'. Prove '..Said' where nothing that the law and all that it calls make is longer than what came in: it says more and counts as full. Else prove '..UptoSaid'. A law counts once. -/
mutual
def uptoBulk {H : Type} : DataW H → Nat
  | .lit (.string bytes) => bytes.length + 1
  | .lit _ => 1
  | .nil => 1
  | .ptr d => uptoBulk d + 1
  | .slice elems spare => uptoBulkAll elems + uptoBulkAll spare + 1
  | .agg parts => uptoBulkAll parts + 1
  | .iface _ d => uptoBulk d + 1
  | .map entries => uptoBulkEntries entries + 1
  | .held _ => 1
def uptoBulkAll {H : Type} : List (DataW H) → Nat
  | [] => 0
  | d :: r => uptoBulk d + uptoBulkAll r
def uptoBulkEntries {H : Type} : List (Lit × DataW H) → Nat
  | [] => 0
  | x :: r => uptoBulkEntry x + uptoBulkEntries r
def uptoBulkEntry {H : Type} : Lit × DataW H → Nat
  | (.string bytes, d) => bytes.length + uptoBulk d + 1
  | (_, d) => uptoBulk d + 1
 end
def uptoSmall : (H : Type) → List (DataW H) → Bool := fun _ ds => decide (uptoBulkAll ds ≤ 1048576)
def OpenSpec.upto (s : _root_.Go.ChangeSpec) : _root_.Go.OpenSpec := { _root_.Go.OpenSpec.ofChange s with cond := some uptoSmall }

/-- 'fathomlaw28.ManifestCrash', WHERE WHAT IT READS IS OF BULK AT MOST 1048576: true; the input reads as it did. -/
def manifestCrashUptoRow : OpenClaim := { program := "ytjjfngnokbboeaagreatdoor", sum := "55c7f194166f1830f4e36a91cd27275daadedd51ca0e54be6860462852728528", func := "fathom/fathomlaw28.ManifestCrash", spec := "manifestCrash", unfollowed := true, recurses := true, named := ["fathom/page.steps", "bytes.ErrTooLarge"], apart := false, laid := [("fathom/page.steps", laid_fathom_page_steps), ("bytes.ErrTooLarge", laid_bytes_ErrTooLarge)], narrowed := true }
def ManifestCrashUptoSaid : Prop := manifestCrashUptoRow.holds Tryz.pinned (OpenSpec.upto manifestCrashSpec)

/-- 'fathomlaw28.ManifestTells', WHERE WHAT IT READS IS OF BULK AT MOST 1048576: true; the input reads as it did. -/
def manifestTellsUptoRow : OpenClaim := { program := "ytjjfngnokbboeaagreatdoor", sum := "55c7f194166f1830f4e36a91cd27275daadedd51ca0e54be6860462852728528", func := "fathom/fathomlaw28.ManifestTells", spec := "manifestTells", unfollowed := true, recurses := true, named := ["fathom/page.steps", "bytes.ErrTooLarge"], apart := false, laid := [("fathom/page.steps", laid_fathom_page_steps), ("bytes.ErrTooLarge", laid_bytes_ErrTooLarge)], narrowed := true }
def ManifestTellsUptoSaid : Prop := manifestTellsUptoRow.holds Tryz.pinned (OpenSpec.upto manifestTellsSpec)

/-- 'fathomlaw28.ManifestTwice', WHERE WHAT IT READS IS OF BULK AT MOST 1048576: true; the input reads as it did. -/
def manifestTwiceUptoRow : OpenClaim := { program := "ytjjfngnokbboeaagreatdoor", sum := "55c7f194166f1830f4e36a91cd27275daadedd51ca0e54be6860462852728528", func := "fathom/fathomlaw28.ManifestTwice", spec := "manifestTwice", unfollowed := true, recurses := true, named := ["fathom/page.steps", "bytes.ErrTooLarge"], apart := false, laid := [("fathom/page.steps", laid_fathom_page_steps), ("bytes.ErrTooLarge", laid_bytes_ErrTooLarge)], narrowed := true }
def ManifestTwiceUptoSaid : Prop := manifestTwiceUptoRow.holds Tryz.pinned (OpenSpec.upto manifestTwiceSpec)

end Rows
end Go.Proofs.YtjjfngnokbboeaaGreatDoor
