/-
  NARROWER THAN 'FOR EVERY INPUT', by the rows' own cells (each row's printed sentence says how): EndSilent: laid · EndTwice: laid · TalkSilent: laid · TopPaths: laid.
  DERIVED. THE GIVEN ROWS OF THIS SEAT. 4 by the template 'for every input the law returns true; each argument reads behind the call as it read before'; 0 by the template 'total and deterministic' (their statements: YtaindcicloapfaaDoorTotals.lean).
  GIVEN WITH THE SEED: the statements are not yours to turn. If you find one false, say at which input.
  Laid BY PROGRAM, IN A SANDBOX (cutbox-rows.mjs): the forced cells as the released guide's own fill.sh prints them over the translation 41cd235623caac37… (all of the seat's roots in one cut). By AI agents, Wed Nov 11 2026. No macro, syntax, notation, axiom, sorry.
-/
import Derived.Test.YtaindcicloapfaaDoorChecked
import GoSem.Claim
import GoSem.ClaimJoined
import GoSem.ClaimMapViews
import Derived.JoinedTies
import Derived.KernelRfl
namespace Go.Proofs.YtaindcicloapfaaDoor
/- THE CELL 'sum', in the pinned program and in every row, IS THE sha256 OF THE DUMP (.gsa) THAT YtaindcicloapfaaDoorProg.lean LOADS. Nothing in Lean hashes anything: it is a label: what it is worth is what the hold of that sum in a sandbox is worth. -/
noncomputable def Tryd.pinned : Pinned := { name := "ytaindcicloapfaadoor", sum := "41cd235623caac3798a93d383b1e538917126809f78af87c1475b398d1b948ae", checked := Tryd.checked }
namespace Rows
def none {H : Type} : Left H := { results := [], args := [] }

/- WHAT THE LISTED PACKAGE-LEVEL VARIABLES READ AS WHEN THE CALL BEGINS. Each datum BY PROGRAM (the guide's laid-datum.mjs) off the statement by which the dump's own 'gosem.cut.vars' lays the variable. In a bare row this is a premise. The card (YtaindcicloapfaaDoorCards.lean) ties it to the program's text. -/
def laid_wanderwire_varint_kinds {H : Type} : DataW H := .agg [.agg [.lit (.int .i64 1), .lit (.int .i64 64)], .agg [.lit (.int .i64 2), .lit (.int .i64 16384)], .agg [.lit (.int .i64 4), .lit (.int .i64 1073741824)]]
def laid_wanderwire_frame_counts {H : Type} : DataW H := .agg [.lit (.int .i64 0), .lit (.int .i64 0), .lit (.int .i64 0), .lit (.int .i64 1), .lit (.int .i64 1), .lit (.int .i64 1), .lit (.int .i64 1), .lit (.int .i64 2), .lit (.int .i64 1)]

/-- 'wirelaw4.EndSilent': WHATEVER THE INPUT: true; the input reads as it did. -/
def endSilentSpec : ChangeSpec := { name := "endSilent", fn := fun _ => fun
  | [d] => { results := [.lit (.bool true)], args := [d] }
  | _ => none }
def endSilentRow : OpenClaim := { program := "ytaindcicloapfaadoor", sum := "41cd235623caac3798a93d383b1e538917126809f78af87c1475b398d1b948ae", func := "wanderwire/wirelaw4.EndSilent", spec := "endSilent", inPlace := ["internal/abi.NoEscape"], unfollowed := true, recurses := true, named := ["wanderwire/varint.kinds", "wanderwire/frame.counts"], apart := false, laid := [("wanderwire/varint.kinds", laid_wanderwire_varint_kinds), ("wanderwire/frame.counts", laid_wanderwire_frame_counts)] }
def EndSilentSaid : Prop := endSilentRow.holds Tryd.pinned (OpenSpec.ofChange endSilentSpec)

/-- ITS FALSE NEIGHBOUR: 'it returns false'. Refute it at one input. -/
def endSilentWrong : ChangeSpec := { name := "endSilent", fn := fun _ => fun
  | [d] => { results := [.lit (.bool false)], args := [d] }
  | _ => none }
def EndSilentWrongFalsely : Prop := endSilentRow.holds Tryd.pinned (OpenSpec.ofChange endSilentWrong)

/-- 'wirelaw2.EndTwice': WHATEVER THE INPUT: true; the input reads as it did. -/
def endTwiceSpec : ChangeSpec := { name := "endTwice", fn := fun _ => fun
  | [d1, d2, d3] => { results := [.lit (.bool true)], args := [d1, d2, d3] }
  | _ => none }
def endTwiceRow : OpenClaim := { program := "ytaindcicloapfaadoor", sum := "41cd235623caac3798a93d383b1e538917126809f78af87c1475b398d1b948ae", func := "wanderwire/wirelaw2.EndTwice", spec := "endTwice", inPlace := ["internal/abi.NoEscape"], unfollowed := true, recurses := true, named := ["wanderwire/varint.kinds", "wanderwire/frame.counts"], apart := false, laid := [("wanderwire/varint.kinds", laid_wanderwire_varint_kinds), ("wanderwire/frame.counts", laid_wanderwire_frame_counts)] }
def EndTwiceSaid : Prop := endTwiceRow.holds Tryd.pinned (OpenSpec.ofChange endTwiceSpec)

/-- ITS FALSE NEIGHBOUR: 'it returns false'. Refute it at one input. -/
def endTwiceWrong : ChangeSpec := { name := "endTwice", fn := fun _ => fun
  | [d1, d2, d3] => { results := [.lit (.bool false)], args := [d1, d2, d3] }
  | _ => none }
def EndTwiceWrongFalsely : Prop := endTwiceRow.holds Tryd.pinned (OpenSpec.ofChange endTwiceWrong)

/-- 'wirelaw4.TalkSilent': WHATEVER THE INPUT: true; the input reads as it did. -/
def talkSilentSpec : ChangeSpec := { name := "talkSilent", fn := fun _ => fun
  | [d1, d2] => { results := [.lit (.bool true)], args := [d1, d2] }
  | _ => none }
def talkSilentRow : OpenClaim := { program := "ytaindcicloapfaadoor", sum := "41cd235623caac3798a93d383b1e538917126809f78af87c1475b398d1b948ae", func := "wanderwire/wirelaw4.TalkSilent", spec := "talkSilent", inPlace := ["internal/abi.NoEscape"], unfollowed := true, recurses := true, named := ["wanderwire/varint.kinds", "wanderwire/frame.counts"], apart := false, laid := [("wanderwire/varint.kinds", laid_wanderwire_varint_kinds), ("wanderwire/frame.counts", laid_wanderwire_frame_counts)] }
def TalkSilentSaid : Prop := talkSilentRow.holds Tryd.pinned (OpenSpec.ofChange talkSilentSpec)

/-- ITS FALSE NEIGHBOUR: 'it returns false'. Refute it at one input. -/
def talkSilentWrong : ChangeSpec := { name := "talkSilent", fn := fun _ => fun
  | [d1, d2] => { results := [.lit (.bool false)], args := [d1, d2] }
  | _ => none }
def TalkSilentWrongFalsely : Prop := talkSilentRow.holds Tryd.pinned (OpenSpec.ofChange talkSilentWrong)

/-- 'wiretop.TopPaths': WHATEVER THE INPUT: true; the input reads as it did. -/
def topPathsSpec : ChangeSpec := { name := "topPaths", fn := fun _ => fun
  | [d1, d2] => { results := [.lit (.bool true)], args := [d1, d2] }
  | _ => none }
def topPathsRow : OpenClaim := { program := "ytaindcicloapfaadoor", sum := "41cd235623caac3798a93d383b1e538917126809f78af87c1475b398d1b948ae", func := "wanderwire/wiretop.TopPaths", spec := "topPaths", inPlace := ["internal/abi.NoEscape"], unfollowed := true, recurses := true, named := ["wanderwire/varint.kinds", "wanderwire/frame.counts"], apart := false, laid := [("wanderwire/varint.kinds", laid_wanderwire_varint_kinds), ("wanderwire/frame.counts", laid_wanderwire_frame_counts)] }
def TopPathsSaid : Prop := topPathsRow.holds Tryd.pinned (OpenSpec.ofChange topPathsSpec)

/-- ITS FALSE NEIGHBOUR: 'it returns false'. Refute it at one input. -/
def topPathsWrong : ChangeSpec := { name := "topPaths", fn := fun _ => fun
  | [d1, d2] => { results := [.lit (.bool false)], args := [d1, d2] }
  | _ => none }
def TopPathsWrongFalsely : Prop := topPathsRow.holds Tryd.pinned (OpenSpec.ofChange topPathsWrong)

/- THE SECOND FORM. 'bulk': how many values and letters a reading holds, each counted each time it is reached (what is shared counts as often as it is met; a slice's spare places count too). A statement '..UptoSaid' is the law's where the arguments, and the package variables that the reading takes, are together of bulk at most 1048576: NARROWER than '..Said'. Prove '..Said' where nothing that the law and all that it calls make is longer than what came in: it says more and counts as full. Else prove '..UptoSaid'. A law counts once. -/
mutual
def uptoBulk {H : Type} : DataW H → Nat
  | .lit (.string bytes) => bytes.length + 1
  | .lit _ => 1
  | .nil => 1
  | .ptr d => uptoBulk d + 1
  | .slice elems spare => uptoBulkAll elems + uptoBulkAll spare + 1
  | .agg parts => uptoBulkAll parts + 1
  | .iface _ d => uptoBulk d + 1
  | .map entries => uptoBulkEntries entries + 1
  | .held _ => 1
def uptoBulkAll {H : Type} : List (DataW H) → Nat
  | [] => 0
  | d :: r => uptoBulk d + uptoBulkAll r
def uptoBulkEntries {H : Type} : List (Lit × DataW H) → Nat
  | [] => 0
  | x :: r => uptoBulkEntry x + uptoBulkEntries r
def uptoBulkEntry {H : Type} : Lit × DataW H → Nat
  | (.string bytes, d) => bytes.length + uptoBulk d + 1
  | (_, d) => uptoBulk d + 1
 end
def uptoSmall : (H : Type) → List (DataW H) → Bool := fun _ ds => decide (uptoBulkAll ds ≤ 1048576)
def OpenSpec.upto (s : _root_.Go.ChangeSpec) : _root_.Go.OpenSpec := { _root_.Go.OpenSpec.ofChange s with cond := some uptoSmall }

/-- 'wirelaw4.EndSilent', WHERE WHAT IT READS IS OF BULK AT MOST 1048576: true; the input reads as it did. -/
def endSilentUptoRow : OpenClaim := { program := "ytaindcicloapfaadoor", sum := "41cd235623caac3798a93d383b1e538917126809f78af87c1475b398d1b948ae", func := "wanderwire/wirelaw4.EndSilent", spec := "endSilent", inPlace := ["internal/abi.NoEscape"], unfollowed := true, recurses := true, named := ["wanderwire/varint.kinds", "wanderwire/frame.counts"], apart := false, laid := [("wanderwire/varint.kinds", laid_wanderwire_varint_kinds), ("wanderwire/frame.counts", laid_wanderwire_frame_counts)], narrowed := true }
def EndSilentUptoSaid : Prop := endSilentUptoRow.holds Tryd.pinned (OpenSpec.upto endSilentSpec)

/-- 'wirelaw2.EndTwice', WHERE WHAT IT READS IS OF BULK AT MOST 1048576: true; the input reads as it did. -/
def endTwiceUptoRow : OpenClaim := { program := "ytaindcicloapfaadoor", sum := "41cd235623caac3798a93d383b1e538917126809f78af87c1475b398d1b948ae", func := "wanderwire/wirelaw2.EndTwice", spec := "endTwice", inPlace := ["internal/abi.NoEscape"], unfollowed := true, recurses := true, named := ["wanderwire/varint.kinds", "wanderwire/frame.counts"], apart := false, laid := [("wanderwire/varint.kinds", laid_wanderwire_varint_kinds), ("wanderwire/frame.counts", laid_wanderwire_frame_counts)], narrowed := true }
def EndTwiceUptoSaid : Prop := endTwiceUptoRow.holds Tryd.pinned (OpenSpec.upto endTwiceSpec)

/-- 'wirelaw4.TalkSilent', WHERE WHAT IT READS IS OF BULK AT MOST 1048576: true; the input reads as it did. -/
def talkSilentUptoRow : OpenClaim := { program := "ytaindcicloapfaadoor", sum := "41cd235623caac3798a93d383b1e538917126809f78af87c1475b398d1b948ae", func := "wanderwire/wirelaw4.TalkSilent", spec := "talkSilent", inPlace := ["internal/abi.NoEscape"], unfollowed := true, recurses := true, named := ["wanderwire/varint.kinds", "wanderwire/frame.counts"], apart := false, laid := [("wanderwire/varint.kinds", laid_wanderwire_varint_kinds), ("wanderwire/frame.counts", laid_wanderwire_frame_counts)], narrowed := true }
def TalkSilentUptoSaid : Prop := talkSilentUptoRow.holds Tryd.pinned (OpenSpec.upto talkSilentSpec)

/-- 'wiretop.TopPaths', WHERE WHAT IT READS IS OF BULK AT MOST 1048576: true; the input reads as it did. -/
def topPathsUptoRow : OpenClaim := { program := "ytaindcicloapfaadoor", sum := "41cd235623caac3798a93d383b1e538917126809f78af87c1475b398d1b948ae", func := "wanderwire/wiretop.TopPaths", spec := "topPaths", inPlace := ["internal/abi.NoEscape"], unfollowed := true, recurses := true, named := ["wanderwire/varint.kinds", "wanderwire/frame.counts"], apart := false, laid := [("wanderwire/varint.kinds", laid_wanderwire_varint_kinds), ("wanderwire/frame.counts", laid_wanderwire_frame_counts)], narrowed := true }
def TopPathsUptoSaid : Prop := topPathsUptoRow.holds Tryd.pinned (OpenSpec.upto topPathsSpec)

end Rows
end Go.Proofs.YtaindcicloapfaaDoor
