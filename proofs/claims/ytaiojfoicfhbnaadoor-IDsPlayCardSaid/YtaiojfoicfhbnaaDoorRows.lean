/-
  NARROWER THAN 'FOR EVERY INPUT', by the rows' own cells (each row's printed sentence says how): CreditPlays: laid · CreditFirst: laid · WindowTells: laid · ProofMany: laid · ProofHere: laid · ProofPlays: laid · IDsFull: laid · IDsOnce: laid · IDsPlay: laid.
  DERIVED. THE GIVEN ROWS OF THIS SEAT. 9 by the template 'for every input the law returns true; each argument reads behind the call as it read before'; 0 by the template 'total and deterministic' (their statements: YtaiojfoicfhbnaaDoorTotals.lean).
  GIVEN WITH THE SEED: the statements are not yours to turn. If you find one false, say at which input.
  Laid BY PROGRAM, IN A SANDBOX (cutbox-rows.mjs): the forced cells as the released guide's own fill.sh prints them over the translation e5ba8fd2a245ace2… (all of the seat's roots in one cut). By AI agents, Wed Nov 11 2026. No macro, syntax, notation, axiom, sorry.
-/
import Derived.Test.YtaiojfoicfhbnaaDoorChecked
import GoSem.Claim
import GoSem.ClaimJoined
import GoSem.ClaimMapViews
import Derived.JoinedTies
import Derived.KernelRfl
namespace Go.Proofs.YtaiojfoicfhbnaaDoor
/- THE CELL 'sum', in the pinned program and in every row, IS THE sha256 OF THE DUMP (.gsa) THAT YtaiojfoicfhbnaaDoorProg.lean LOADS. Nothing in Lean hashes anything: it is a label: what it is worth is what the hold of that sum in a sandbox is worth. -/
noncomputable def Tryd.pinned : Pinned := { name := "ytaiojfoicfhbnaadoor", sum := "e5ba8fd2a245ace287550b06350fca00fbf53221f2e4df0f44f64e442e0205f3", checked := Tryd.checked }
namespace Rows
def none {H : Type} : Left H := { results := [], args := [] }

/- WHAT THE LISTED PACKAGE-LEVEL VARIABLES READ AS WHEN THE CALL BEGINS. Each datum BY PROGRAM (the guide's laid-datum.mjs) off the statement by which the dump's own 'gosem.cut.vars' lays the variable. In a bare row this is a premise. The card (YtaiojfoicfhbnaaDoorCards.lean) ties it to the program's text. -/
def laid_errors_errorType {H : Type} : DataW H := .iface "internal/reflectlite.rtype" (.agg [.ptr (.lit (.string [101, 114, 114, 111, 114]))])

/-- 'wirelaw1.CreditPlays': WHATEVER THE INPUT: true; the input reads as it did. -/
def creditPlaysSpec : ChangeSpec := { name := "creditPlays", fn := fun _ => fun
  | [d1, d2] => { results := [.lit (.bool true)], args := [d1, d2] }
  | _ => none }
def creditPlaysRow : OpenClaim := { program := "ytaiojfoicfhbnaadoor", sum := "e5ba8fd2a245ace287550b06350fca00fbf53221f2e4df0f44f64e442e0205f3", func := "wanderwire/wirelaw1.CreditPlays", spec := "creditPlays", inPlace := ["internal/reflectlite.ValueOf", "(internal/reflectlite.Value).Type", "(internal/reflectlite.Value).IsNil", "internal/reflectlite.TypeOf", "(internal/reflectlite.Value).Elem", "(internal/reflectlite.Value).Set"], unfollowed := true, recurses := true, named := ["errors.errorType"], apart := false, laid := [("errors.errorType", laid_errors_errorType)] }
def CreditPlaysSaid : Prop := creditPlaysRow.holds Tryd.pinned (OpenSpec.ofChange creditPlaysSpec)

/-- ITS FALSE NEIGHBOUR: 'it returns false'. Refute it at one input. -/
def creditPlaysWrong : ChangeSpec := { name := "creditPlays", fn := fun _ => fun
  | [d1, d2] => { results := [.lit (.bool false)], args := [d1, d2] }
  | _ => none }
def CreditPlaysWrongFalsely : Prop := creditPlaysRow.holds Tryd.pinned (OpenSpec.ofChange creditPlaysWrong)

/-- 'wirelaw4.CreditFirst': WHATEVER THE INPUT: true; the input reads as it did. -/
def creditFirstSpec : ChangeSpec := { name := "creditFirst", fn := fun _ => fun
  | [d] => { results := [.lit (.bool true)], args := [d] }
  | _ => none }
def creditFirstRow : OpenClaim := { program := "ytaiojfoicfhbnaadoor", sum := "e5ba8fd2a245ace287550b06350fca00fbf53221f2e4df0f44f64e442e0205f3", func := "wanderwire/wirelaw4.CreditFirst", spec := "creditFirst", inPlace := ["internal/reflectlite.ValueOf", "(internal/reflectlite.Value).Type", "(internal/reflectlite.Value).IsNil", "internal/reflectlite.TypeOf", "(internal/reflectlite.Value).Elem", "(internal/reflectlite.Value).Set"], unfollowed := true, recurses := true, named := ["errors.errorType"], apart := false, laid := [("errors.errorType", laid_errors_errorType)] }
def CreditFirstSaid : Prop := creditFirstRow.holds Tryd.pinned (OpenSpec.ofChange creditFirstSpec)

/-- ITS FALSE NEIGHBOUR: 'it returns false'. Refute it at one input. -/
def creditFirstWrong : ChangeSpec := { name := "creditFirst", fn := fun _ => fun
  | [d] => { results := [.lit (.bool false)], args := [d] }
  | _ => none }
def CreditFirstWrongFalsely : Prop := creditFirstRow.holds Tryd.pinned (OpenSpec.ofChange creditFirstWrong)

/-- 'wirelaw2.WindowTells': WHATEVER THE INPUT: true; the input reads as it did. -/
def windowTellsSpec : ChangeSpec := { name := "windowTells", fn := fun _ => fun
  | [d1, d2] => { results := [.lit (.bool true)], args := [d1, d2] }
  | _ => none }
def windowTellsRow : OpenClaim := { program := "ytaiojfoicfhbnaadoor", sum := "e5ba8fd2a245ace287550b06350fca00fbf53221f2e4df0f44f64e442e0205f3", func := "wanderwire/wirelaw2.WindowTells", spec := "windowTells", inPlace := ["internal/reflectlite.ValueOf", "(internal/reflectlite.Value).Type", "(internal/reflectlite.Value).IsNil", "internal/reflectlite.TypeOf", "(internal/reflectlite.Value).Elem", "(internal/reflectlite.Value).Set"], unfollowed := true, recurses := true, named := ["errors.errorType"], apart := false, laid := [("errors.errorType", laid_errors_errorType)] }
def WindowTellsSaid : Prop := windowTellsRow.holds Tryd.pinned (OpenSpec.ofChange windowTellsSpec)

/-- ITS FALSE NEIGHBOUR: 'it returns false'. Refute it at one input. -/
def windowTellsWrong : ChangeSpec := { name := "windowTells", fn := fun _ => fun
  | [d1, d2] => { results := [.lit (.bool false)], args := [d1, d2] }
  | _ => none }
def WindowTellsWrongFalsely : Prop := windowTellsRow.holds Tryd.pinned (OpenSpec.ofChange windowTellsWrong)

/-- 'wirelaw4.ProofMany': WHATEVER THE INPUT: true; the input reads as it did. -/
def proofManySpec : ChangeSpec := { name := "proofMany", fn := fun _ => fun
  | [d] => { results := [.lit (.bool true)], args := [d] }
  | _ => none }
def proofManyRow : OpenClaim := { program := "ytaiojfoicfhbnaadoor", sum := "e5ba8fd2a245ace287550b06350fca00fbf53221f2e4df0f44f64e442e0205f3", func := "wanderwire/wirelaw4.ProofMany", spec := "proofMany", inPlace := ["internal/reflectlite.ValueOf", "(internal/reflectlite.Value).Type", "(internal/reflectlite.Value).IsNil", "internal/reflectlite.TypeOf", "(internal/reflectlite.Value).Elem", "(internal/reflectlite.Value).Set"], unfollowed := true, recurses := true, named := ["errors.errorType"], apart := false, laid := [("errors.errorType", laid_errors_errorType)] }
def ProofManySaid : Prop := proofManyRow.holds Tryd.pinned (OpenSpec.ofChange proofManySpec)

/-- ITS FALSE NEIGHBOUR: 'it returns false'. Refute it at one input. -/
def proofManyWrong : ChangeSpec := { name := "proofMany", fn := fun _ => fun
  | [d] => { results := [.lit (.bool false)], args := [d] }
  | _ => none }
def ProofManyWrongFalsely : Prop := proofManyRow.holds Tryd.pinned (OpenSpec.ofChange proofManyWrong)

/-- 'wirelaw1.ProofHere': WHATEVER THE INPUT: true; the input reads as it did. -/
def proofHereSpec : ChangeSpec := { name := "proofHere", fn := fun _ => fun
  | [d1, d2, d3, d4, d5, d6] => { results := [.lit (.bool true)], args := [d1, d2, d3, d4, d5, d6] }
  | _ => none }
def proofHereRow : OpenClaim := { program := "ytaiojfoicfhbnaadoor", sum := "e5ba8fd2a245ace287550b06350fca00fbf53221f2e4df0f44f64e442e0205f3", func := "wanderwire/wirelaw1.ProofHere", spec := "proofHere", inPlace := ["internal/reflectlite.ValueOf", "(internal/reflectlite.Value).Type", "(internal/reflectlite.Value).IsNil", "internal/reflectlite.TypeOf", "(internal/reflectlite.Value).Elem", "(internal/reflectlite.Value).Set"], unfollowed := true, recurses := true, named := ["errors.errorType"], apart := false, laid := [("errors.errorType", laid_errors_errorType)] }
def ProofHereSaid : Prop := proofHereRow.holds Tryd.pinned (OpenSpec.ofChange proofHereSpec)

/-- ITS FALSE NEIGHBOUR: 'it returns false'. Refute it at one input. -/
def proofHereWrong : ChangeSpec := { name := "proofHere", fn := fun _ => fun
  | [d1, d2, d3, d4, d5, d6] => { results := [.lit (.bool false)], args := [d1, d2, d3, d4, d5, d6] }
  | _ => none }
def ProofHereWrongFalsely : Prop := proofHereRow.holds Tryd.pinned (OpenSpec.ofChange proofHereWrong)

/-- 'wirelaw1.ProofPlays': WHATEVER THE INPUT: true; the input reads as it did. -/
def proofPlaysSpec : ChangeSpec := { name := "proofPlays", fn := fun _ => fun
  | [d] => { results := [.lit (.bool true)], args := [d] }
  | _ => none }
def proofPlaysRow : OpenClaim := { program := "ytaiojfoicfhbnaadoor", sum := "e5ba8fd2a245ace287550b06350fca00fbf53221f2e4df0f44f64e442e0205f3", func := "wanderwire/wirelaw1.ProofPlays", spec := "proofPlays", inPlace := ["internal/reflectlite.ValueOf", "(internal/reflectlite.Value).Type", "(internal/reflectlite.Value).IsNil", "internal/reflectlite.TypeOf", "(internal/reflectlite.Value).Elem", "(internal/reflectlite.Value).Set"], unfollowed := true, recurses := true, named := ["errors.errorType"], apart := false, laid := [("errors.errorType", laid_errors_errorType)] }
def ProofPlaysSaid : Prop := proofPlaysRow.holds Tryd.pinned (OpenSpec.ofChange proofPlaysSpec)

/-- ITS FALSE NEIGHBOUR: 'it returns false'. Refute it at one input. -/
def proofPlaysWrong : ChangeSpec := { name := "proofPlays", fn := fun _ => fun
  | [d] => { results := [.lit (.bool false)], args := [d] }
  | _ => none }
def ProofPlaysWrongFalsely : Prop := proofPlaysRow.holds Tryd.pinned (OpenSpec.ofChange proofPlaysWrong)

/-- 'wirelaw4.IDsFull': WHATEVER THE INPUT: true; the input reads as it did. -/
def iDsFullSpec : ChangeSpec := { name := "iDsFull", fn := fun _ => fun
  | [d] => { results := [.lit (.bool true)], args := [d] }
  | _ => none }
def iDsFullRow : OpenClaim := { program := "ytaiojfoicfhbnaadoor", sum := "e5ba8fd2a245ace287550b06350fca00fbf53221f2e4df0f44f64e442e0205f3", func := "wanderwire/wirelaw4.IDsFull", spec := "iDsFull", inPlace := ["internal/reflectlite.ValueOf", "(internal/reflectlite.Value).Type", "(internal/reflectlite.Value).IsNil", "internal/reflectlite.TypeOf", "(internal/reflectlite.Value).Elem", "(internal/reflectlite.Value).Set"], unfollowed := true, recurses := true, named := ["errors.errorType"], apart := false, laid := [("errors.errorType", laid_errors_errorType)] }
def IDsFullSaid : Prop := iDsFullRow.holds Tryd.pinned (OpenSpec.ofChange iDsFullSpec)

/-- ITS FALSE NEIGHBOUR: 'it returns false'. Refute it at one input. -/
def iDsFullWrong : ChangeSpec := { name := "iDsFull", fn := fun _ => fun
  | [d] => { results := [.lit (.bool false)], args := [d] }
  | _ => none }
def IDsFullWrongFalsely : Prop := iDsFullRow.holds Tryd.pinned (OpenSpec.ofChange iDsFullWrong)

/-- 'wirelaw1.IDsOnce': WHATEVER THE INPUT: true; the input reads as it did. -/
def iDsOnceSpec : ChangeSpec := { name := "iDsOnce", fn := fun _ => fun
  | [d1, d2] => { results := [.lit (.bool true)], args := [d1, d2] }
  | _ => none }
def iDsOnceRow : OpenClaim := { program := "ytaiojfoicfhbnaadoor", sum := "e5ba8fd2a245ace287550b06350fca00fbf53221f2e4df0f44f64e442e0205f3", func := "wanderwire/wirelaw1.IDsOnce", spec := "iDsOnce", inPlace := ["internal/reflectlite.ValueOf", "(internal/reflectlite.Value).Type", "(internal/reflectlite.Value).IsNil", "internal/reflectlite.TypeOf", "(internal/reflectlite.Value).Elem", "(internal/reflectlite.Value).Set"], unfollowed := true, recurses := true, named := ["errors.errorType"], apart := false, laid := [("errors.errorType", laid_errors_errorType)] }
def IDsOnceSaid : Prop := iDsOnceRow.holds Tryd.pinned (OpenSpec.ofChange iDsOnceSpec)

/-- ITS FALSE NEIGHBOUR: 'it returns false'. Refute it at one input. -/
def iDsOnceWrong : ChangeSpec := { name := "iDsOnce", fn := fun _ => fun
  | [d1, d2] => { results := [.lit (.bool false)], args := [d1, d2] }
  | _ => none }
def IDsOnceWrongFalsely : Prop := iDsOnceRow.holds Tryd.pinned (OpenSpec.ofChange iDsOnceWrong)

/-- 'wirelaw1.IDsPlay': WHATEVER THE INPUT: true; the input reads as it did. -/
def iDsPlaySpec : ChangeSpec := { name := "iDsPlay", fn := fun _ => fun
  | [d1, d2] => { results := [.lit (.bool true)], args := [d1, d2] }
  | _ => none }
def iDsPlayRow : OpenClaim := { program := "ytaiojfoicfhbnaadoor", sum := "e5ba8fd2a245ace287550b06350fca00fbf53221f2e4df0f44f64e442e0205f3", func := "wanderwire/wirelaw1.IDsPlay", spec := "iDsPlay", inPlace := ["internal/reflectlite.ValueOf", "(internal/reflectlite.Value).Type", "(internal/reflectlite.Value).IsNil", "internal/reflectlite.TypeOf", "(internal/reflectlite.Value).Elem", "(internal/reflectlite.Value).Set"], unfollowed := true, recurses := true, named := ["errors.errorType"], apart := false, laid := [("errors.errorType", laid_errors_errorType)] }
def IDsPlaySaid : Prop := iDsPlayRow.holds Tryd.pinned (OpenSpec.ofChange iDsPlaySpec)

/-- ITS FALSE NEIGHBOUR: 'it returns false'. Refute it at one input. -/
def iDsPlayWrong : ChangeSpec := { name := "iDsPlay", fn := fun _ => fun
  | [d1, d2] => { results := [.lit (.bool false)], args := [d1, d2] }
  | _ => none }
def IDsPlayWrongFalsely : Prop := iDsPlayRow.holds Tryd.pinned (OpenSpec.ofChange iDsPlayWrong)

/- THE SECOND FORM. 'bulk': how many values and letters a reading holds, each counted each time it is reached (what is shared counts as often as it is met; a slice's spare places count too). A statement '..UptoSaid' is the law's where the arguments, and the package variables that the reading takes, are together of bulk at most 1048576: NARROWER than '..Said'. Prove '..Said' where nothing that the law and all that it calls make is longer than what came in: it says more and counts as full. Else prove '..UptoSaid'. A law counts once. -/
mutual
def uptoBulk {H : Type} : DataW H → Nat
  | .lit (.string bytes) => bytes.length + 1
  | .lit _ => 1
  | .nil => 1
  | .ptr d => uptoBulk d + 1
  | .slice elems spare => uptoBulkAll elems + uptoBulkAll spare + 1
  | .agg parts => uptoBulkAll parts + 1
  | .iface _ d => uptoBulk d + 1
  | .map entries => uptoBulkEntries entries + 1
  | .held _ => 1
def uptoBulkAll {H : Type} : List (DataW H) → Nat
  | [] => 0
  | d :: r => uptoBulk d + uptoBulkAll r
def uptoBulkEntries {H : Type} : List (Lit × DataW H) → Nat
  | [] => 0
  | x :: r => uptoBulkEntry x + uptoBulkEntries r
def uptoBulkEntry {H : Type} : Lit × DataW H → Nat
  | (.string bytes, d) => bytes.length + uptoBulk d + 1
  | (_, d) => uptoBulk d + 1
 end
def uptoSmall : (H : Type) → List (DataW H) → Bool := fun _ ds => decide (uptoBulkAll ds ≤ 1048576)
def OpenSpec.upto (s : _root_.Go.ChangeSpec) : _root_.Go.OpenSpec := { _root_.Go.OpenSpec.ofChange s with cond := some uptoSmall }

/-- 'wirelaw1.CreditPlays', WHERE WHAT IT READS IS OF BULK AT MOST 1048576: true; the input reads as it did. -/
def creditPlaysUptoRow : OpenClaim := { program := "ytaiojfoicfhbnaadoor", sum := "e5ba8fd2a245ace287550b06350fca00fbf53221f2e4df0f44f64e442e0205f3", func := "wanderwire/wirelaw1.CreditPlays", spec := "creditPlays", inPlace := ["internal/reflectlite.ValueOf", "(internal/reflectlite.Value).Type", "(internal/reflectlite.Value).IsNil", "internal/reflectlite.TypeOf", "(internal/reflectlite.Value).Elem", "(internal/reflectlite.Value).Set"], unfollowed := true, recurses := true, named := ["errors.errorType"], apart := false, laid := [("errors.errorType", laid_errors_errorType)], narrowed := true }
def CreditPlaysUptoSaid : Prop := creditPlaysUptoRow.holds Tryd.pinned (OpenSpec.upto creditPlaysSpec)

/-- 'wirelaw4.CreditFirst', WHERE WHAT IT READS IS OF BULK AT MOST 1048576: true; the input reads as it did. -/
def creditFirstUptoRow : OpenClaim := { program := "ytaiojfoicfhbnaadoor", sum := "e5ba8fd2a245ace287550b06350fca00fbf53221f2e4df0f44f64e442e0205f3", func := "wanderwire/wirelaw4.CreditFirst", spec := "creditFirst", inPlace := ["internal/reflectlite.ValueOf", "(internal/reflectlite.Value).Type", "(internal/reflectlite.Value).IsNil", "internal/reflectlite.TypeOf", "(internal/reflectlite.Value).Elem", "(internal/reflectlite.Value).Set"], unfollowed := true, recurses := true, named := ["errors.errorType"], apart := false, laid := [("errors.errorType", laid_errors_errorType)], narrowed := true }
def CreditFirstUptoSaid : Prop := creditFirstUptoRow.holds Tryd.pinned (OpenSpec.upto creditFirstSpec)

/-- 'wirelaw2.WindowTells', WHERE WHAT IT READS IS OF BULK AT MOST 1048576: true; the input reads as it did. -/
def windowTellsUptoRow : OpenClaim := { program := "ytaiojfoicfhbnaadoor", sum := "e5ba8fd2a245ace287550b06350fca00fbf53221f2e4df0f44f64e442e0205f3", func := "wanderwire/wirelaw2.WindowTells", spec := "windowTells", inPlace := ["internal/reflectlite.ValueOf", "(internal/reflectlite.Value).Type", "(internal/reflectlite.Value).IsNil", "internal/reflectlite.TypeOf", "(internal/reflectlite.Value).Elem", "(internal/reflectlite.Value).Set"], unfollowed := true, recurses := true, named := ["errors.errorType"], apart := false, laid := [("errors.errorType", laid_errors_errorType)], narrowed := true }
def WindowTellsUptoSaid : Prop := windowTellsUptoRow.holds Tryd.pinned (OpenSpec.upto windowTellsSpec)

/-- 'wirelaw4.ProofMany', WHERE WHAT IT READS IS OF BULK AT MOST 1048576: true; the input reads as it did. -/
def proofManyUptoRow : OpenClaim := { program := "ytaiojfoicfhbnaadoor", sum := "e5ba8fd2a245ace287550b06350fca00fbf53221f2e4df0f44f64e442e0205f3", func := "wanderwire/wirelaw4.ProofMany", spec := "proofMany", inPlace := ["internal/reflectlite.ValueOf", "(internal/reflectlite.Value).Type", "(internal/reflectlite.Value).IsNil", "internal/reflectlite.TypeOf", "(internal/reflectlite.Value).Elem", "(internal/reflectlite.Value).Set"], unfollowed := true, recurses := true, named := ["errors.errorType"], apart := false, laid := [("errors.errorType", laid_errors_errorType)], narrowed := true }
def ProofManyUptoSaid : Prop := proofManyUptoRow.holds Tryd.pinned (OpenSpec.upto proofManySpec)

/-- 'wirelaw1.ProofHere', WHERE WHAT IT READS IS OF BULK AT MOST 1048576: true; the input reads as it did. -/
def proofHereUptoRow : OpenClaim := { program := "ytaiojfoicfhbnaadoor", sum := "e5ba8fd2a245ace287550b06350fca00fbf53221f2e4df0f44f64e442e0205f3", func := "wanderwire/wirelaw1.ProofHere", spec := "proofHere", inPlace := ["internal/reflectlite.ValueOf", "(internal/reflectlite.Value).Type", "(internal/reflectlite.Value).IsNil", "internal/reflectlite.TypeOf", "(internal/reflectlite.Value).Elem", "(internal/reflectlite.Value).Set"], unfollowed := true, recurses := true, named := ["errors.errorType"], apart := false, laid := [("errors.errorType", laid_errors_errorType)], narrowed := true }
def ProofHereUptoSaid : Prop := proofHereUptoRow.holds Tryd.pinned (OpenSpec.upto proofHereSpec)

/-- 'wirelaw1.ProofPlays', WHERE WHAT IT READS IS OF BULK AT MOST 1048576: true; the input reads as it did. -/
def proofPlaysUptoRow : OpenClaim := { program := "ytaiojfoicfhbnaadoor", sum := "e5ba8fd2a245ace287550b06350fca00fbf53221f2e4df0f44f64e442e0205f3", func := "wanderwire/wirelaw1.ProofPlays", spec := "proofPlays", inPlace := ["internal/reflectlite.ValueOf", "(internal/reflectlite.Value).Type", "(internal/reflectlite.Value).IsNil", "internal/reflectlite.TypeOf", "(internal/reflectlite.Value).Elem", "(internal/reflectlite.Value).Set"], unfollowed := true, recurses := true, named := ["errors.errorType"], apart := false, laid := [("errors.errorType", laid_errors_errorType)], narrowed := true }
def ProofPlaysUptoSaid : Prop := proofPlaysUptoRow.holds Tryd.pinned (OpenSpec.upto proofPlaysSpec)

/-- 'wirelaw4.IDsFull', WHERE WHAT IT READS IS OF BULK AT MOST 1048576: true; the input reads as it did. -/
def iDsFullUptoRow : OpenClaim := { program := "ytaiojfoicfhbnaadoor", sum := "e5ba8fd2a245ace287550b06350fca00fbf53221f2e4df0f44f64e442e0205f3", func := "wanderwire/wirelaw4.IDsFull", spec := "iDsFull", inPlace := ["internal/reflectlite.ValueOf", "(internal/reflectlite.Value).Type", "(internal/reflectlite.Value).IsNil", "internal/reflectlite.TypeOf", "(internal/reflectlite.Value).Elem", "(internal/reflectlite.Value).Set"], unfollowed := true, recurses := true, named := ["errors.errorType"], apart := false, laid := [("errors.errorType", laid_errors_errorType)], narrowed := true }
def IDsFullUptoSaid : Prop := iDsFullUptoRow.holds Tryd.pinned (OpenSpec.upto iDsFullSpec)

/-- 'wirelaw1.IDsOnce', WHERE WHAT IT READS IS OF BULK AT MOST 1048576: true; the input reads as it did. -/
def iDsOnceUptoRow : OpenClaim := { program := "ytaiojfoicfhbnaadoor", sum := "e5ba8fd2a245ace287550b06350fca00fbf53221f2e4df0f44f64e442e0205f3", func := "wanderwire/wirelaw1.IDsOnce", spec := "iDsOnce", inPlace := ["internal/reflectlite.ValueOf", "(internal/reflectlite.Value).Type", "(internal/reflectlite.Value).IsNil", "internal/reflectlite.TypeOf", "(internal/reflectlite.Value).Elem", "(internal/reflectlite.Value).Set"], unfollowed := true, recurses := true, named := ["errors.errorType"], apart := false, laid := [("errors.errorType", laid_errors_errorType)], narrowed := true }
def IDsOnceUptoSaid : Prop := iDsOnceUptoRow.holds Tryd.pinned (OpenSpec.upto iDsOnceSpec)

/-- 'wirelaw1.IDsPlay', WHERE WHAT IT READS IS OF BULK AT MOST 1048576: true; the input reads as it did. -/
def iDsPlayUptoRow : OpenClaim := { program := "ytaiojfoicfhbnaadoor", sum := "e5ba8fd2a245ace287550b06350fca00fbf53221f2e4df0f44f64e442e0205f3", func := "wanderwire/wirelaw1.IDsPlay", spec := "iDsPlay", inPlace := ["internal/reflectlite.ValueOf", "(internal/reflectlite.Value).Type", "(internal/reflectlite.Value).IsNil", "internal/reflectlite.TypeOf", "(internal/reflectlite.Value).Elem", "(internal/reflectlite.Value).Set"], unfollowed := true, recurses := true, named := ["errors.errorType"], apart := false, laid := [("errors.errorType", laid_errors_errorType)], narrowed := true }
def IDsPlayUptoSaid : Prop := iDsPlayUptoRow.holds Tryd.pinned (OpenSpec.upto iDsPlaySpec)

end Rows
end Go.Proofs.YtaiojfoicfhbnaaDoor
