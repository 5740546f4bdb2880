/-
  NARROWER THAN 'FOR EVERY INPUT', by the rows' own cells (each row's printed sentence says how): MoveNone: laid · MovePlays: laid · AckBack: laid · AckOne: laid · AckTells: laid · FramePing: laid · FrameBack: laid · FrameTells: laid · PacketPing: laid · PacketBack: laid · PacketTells: laid.
  DERIVED. THE GIVEN ROWS OF THIS SEAT. 11 by the template 'for every input the law returns true; each argument reads behind the call as it read before'; 0 by the template 'total and deterministic' (their statements: YthnolkbolmbkdaaDoorTotals.lean).
  GIVEN WITH THE SEED: the statements are not yours to turn. If you find one false, say at which input.
  Laid BY PROGRAM, IN A SANDBOX (cutbox-rows.mjs): the forced cells as the released guide's own fill.sh prints them over the translation 3592b4641237f73b… (all of the seat's roots in one cut). By AI agents, Wed Nov 11 2026. No macro, syntax, notation, axiom, sorry.
-/
import Derived.Test.YthnolkbolmbkdaaDoorChecked
import GoSem.Claim
import GoSem.ClaimJoined
import GoSem.ClaimMapViews
import Derived.JoinedTies
import Derived.KernelRfl
namespace Go.Proofs.YthnolkbolmbkdaaDoor
/- THE CELL 'sum', in the pinned program and in every row, IS THE sha256 OF THE DUMP (.gsa) THAT YthnolkbolmbkdaaDoorProg.lean LOADS. Nothing in Lean hashes anything: it is a label: what it is worth is what the hold of that sum in a sandbox is worth. -/
noncomputable def Tryd.pinned : Pinned := { name := "ythnolkbolmbkdaadoor", sum := "3592b4641237f73b7cf617a41a6a2494435497e20520acfe1a083b779057f879", checked := Tryd.checked }
namespace Rows
def none {H : Type} : Left H := { results := [], args := [] }

/- WHAT THE LISTED PACKAGE-LEVEL VARIABLES READ AS WHEN THE CALL BEGINS. Each datum BY PROGRAM (the guide's laid-datum.mjs) off the statement by which the dump's own 'gosem.cut.vars' lays the variable. In a bare row this is a premise. The card (YthnolkbolmbkdaaDoorCards.lean) ties it to the program's text. -/
def laid_errors_errorType {H : Type} : DataW H := .iface "internal/reflectlite.rtype" (.agg [.ptr (.lit (.string [101, 114, 114, 111, 114]))])
def laid_wanderwire_varint_kinds {H : Type} : DataW H := .agg [.agg [.lit (.int .i64 1), .lit (.int .i64 64)], .agg [.lit (.int .i64 2), .lit (.int .i64 16384)], .agg [.lit (.int .i64 4), .lit (.int .i64 1073741824)]]
def laid_wanderwire_frame_counts {H : Type} : DataW H := .agg [.lit (.int .i64 0), .lit (.int .i64 0), .lit (.int .i64 0), .lit (.int .i64 1), .lit (.int .i64 1), .lit (.int .i64 1), .lit (.int .i64 1), .lit (.int .i64 2), .lit (.int .i64 1)]

/-- 'wirelaw4.MoveNone': WHATEVER THE INPUT: true; the input reads as it did. -/
def moveNoneSpec : ChangeSpec := { name := "moveNone", fn := fun _ => fun
  | [d1, d2] => { results := [.lit (.bool true)], args := [d1, d2] }
  | _ => none }
def moveNoneRow : OpenClaim := { program := "ythnolkbolmbkdaadoor", sum := "3592b4641237f73b7cf617a41a6a2494435497e20520acfe1a083b779057f879", func := "wanderwire/wirelaw4.MoveNone", spec := "moveNone", inPlace := ["internal/reflectlite.ValueOf", "(internal/reflectlite.Value).Type", "(internal/reflectlite.Value).IsNil", "internal/reflectlite.TypeOf", "(internal/reflectlite.Value).Elem", "(internal/reflectlite.Value).Set"], unfollowed := true, recurses := true, named := ["errors.errorType"], apart := false, laid := [("errors.errorType", laid_errors_errorType)] }
def MoveNoneSaid : Prop := moveNoneRow.holds Tryd.pinned (OpenSpec.ofChange moveNoneSpec)

/-- ITS FALSE NEIGHBOUR: 'it returns false'. Refute it at one input. -/
def moveNoneWrong : ChangeSpec := { name := "moveNone", fn := fun _ => fun
  | [d1, d2] => { results := [.lit (.bool false)], args := [d1, d2] }
  | _ => none }
def MoveNoneWrongFalsely : Prop := moveNoneRow.holds Tryd.pinned (OpenSpec.ofChange moveNoneWrong)

/-- 'wirelaw2.MovePlays': WHATEVER THE INPUT: true; the input reads as it did. -/
def movePlaysSpec : ChangeSpec := { name := "movePlays", fn := fun _ => fun
  | [d1, d2] => { results := [.lit (.bool true)], args := [d1, d2] }
  | _ => none }
def movePlaysRow : OpenClaim := { program := "ythnolkbolmbkdaadoor", sum := "3592b4641237f73b7cf617a41a6a2494435497e20520acfe1a083b779057f879", func := "wanderwire/wirelaw2.MovePlays", spec := "movePlays", inPlace := ["internal/reflectlite.ValueOf", "(internal/reflectlite.Value).Type", "(internal/reflectlite.Value).IsNil", "internal/reflectlite.TypeOf", "(internal/reflectlite.Value).Elem", "(internal/reflectlite.Value).Set"], unfollowed := true, recurses := true, named := ["errors.errorType"], apart := false, laid := [("errors.errorType", laid_errors_errorType)] }
def MovePlaysSaid : Prop := movePlaysRow.holds Tryd.pinned (OpenSpec.ofChange movePlaysSpec)

/-- ITS FALSE NEIGHBOUR: 'it returns false'. Refute it at one input. -/
def movePlaysWrong : ChangeSpec := { name := "movePlays", fn := fun _ => fun
  | [d1, d2] => { results := [.lit (.bool false)], args := [d1, d2] }
  | _ => none }
def MovePlaysWrongFalsely : Prop := movePlaysRow.holds Tryd.pinned (OpenSpec.ofChange movePlaysWrong)

/-- 'wirelaw1.AckBack': WHATEVER THE INPUT: true; the input reads as it did. -/
def ackBackSpec : ChangeSpec := { name := "ackBack", fn := fun _ => fun
  | [d1, d2] => { results := [.lit (.bool true)], args := [d1, d2] }
  | _ => none }
def ackBackRow : OpenClaim := { program := "ythnolkbolmbkdaadoor", sum := "3592b4641237f73b7cf617a41a6a2494435497e20520acfe1a083b779057f879", func := "wanderwire/wirelaw1.AckBack", spec := "ackBack", inPlace := ["internal/abi.NoEscape"], unfollowed := true, recurses := true, named := ["wanderwire/varint.kinds"], apart := false, laid := [("wanderwire/varint.kinds", laid_wanderwire_varint_kinds)] }
def AckBackSaid : Prop := ackBackRow.holds Tryd.pinned (OpenSpec.ofChange ackBackSpec)

/-- ITS FALSE NEIGHBOUR: 'it returns false'. Refute it at one input. -/
def ackBackWrong : ChangeSpec := { name := "ackBack", fn := fun _ => fun
  | [d1, d2] => { results := [.lit (.bool false)], args := [d1, d2] }
  | _ => none }
def AckBackWrongFalsely : Prop := ackBackRow.holds Tryd.pinned (OpenSpec.ofChange ackBackWrong)

/-- 'wirelaw4.AckOne': WHATEVER THE INPUT: true; the input reads as it did. -/
def ackOneSpec : ChangeSpec := { name := "ackOne", fn := fun _ => fun
  | [d] => { results := [.lit (.bool true)], args := [d] }
  | _ => none }
def ackOneRow : OpenClaim := { program := "ythnolkbolmbkdaadoor", sum := "3592b4641237f73b7cf617a41a6a2494435497e20520acfe1a083b779057f879", func := "wanderwire/wirelaw4.AckOne", spec := "ackOne", inPlace := ["internal/abi.NoEscape"], unfollowed := true, recurses := true, named := ["wanderwire/varint.kinds"], apart := false, laid := [("wanderwire/varint.kinds", laid_wanderwire_varint_kinds)] }
def AckOneSaid : Prop := ackOneRow.holds Tryd.pinned (OpenSpec.ofChange ackOneSpec)

/-- ITS FALSE NEIGHBOUR: 'it returns false'. Refute it at one input. -/
def ackOneWrong : ChangeSpec := { name := "ackOne", fn := fun _ => fun
  | [d] => { results := [.lit (.bool false)], args := [d] }
  | _ => none }
def AckOneWrongFalsely : Prop := ackOneRow.holds Tryd.pinned (OpenSpec.ofChange ackOneWrong)

/-- 'wirelaw1.AckTells': WHATEVER THE INPUT: true; the input reads as it did. -/
def ackTellsSpec : ChangeSpec := { name := "ackTells", fn := fun _ => fun
  | [d1, d2] => { results := [.lit (.bool true)], args := [d1, d2] }
  | _ => none }
def ackTellsRow : OpenClaim := { program := "ythnolkbolmbkdaadoor", sum := "3592b4641237f73b7cf617a41a6a2494435497e20520acfe1a083b779057f879", func := "wanderwire/wirelaw1.AckTells", spec := "ackTells", inPlace := ["internal/abi.NoEscape", "internal/reflectlite.ValueOf", "(internal/reflectlite.Value).Type", "(internal/reflectlite.Value).IsNil", "internal/reflectlite.TypeOf", "(internal/reflectlite.Value).Elem", "(internal/reflectlite.Value).Set"], unfollowed := true, recurses := true, named := ["wanderwire/varint.kinds", "errors.errorType"], apart := false, laid := [("errors.errorType", laid_errors_errorType), ("wanderwire/varint.kinds", laid_wanderwire_varint_kinds)] }
def AckTellsSaid : Prop := ackTellsRow.holds Tryd.pinned (OpenSpec.ofChange ackTellsSpec)

/-- ITS FALSE NEIGHBOUR: 'it returns false'. Refute it at one input. -/
def ackTellsWrong : ChangeSpec := { name := "ackTells", fn := fun _ => fun
  | [d1, d2] => { results := [.lit (.bool false)], args := [d1, d2] }
  | _ => none }
def AckTellsWrongFalsely : Prop := ackTellsRow.holds Tryd.pinned (OpenSpec.ofChange ackTellsWrong)

/-- 'wirelaw4.FramePing': WHATEVER THE INPUT: true; the input reads as it did. -/
def framePingSpec : ChangeSpec := { name := "framePing", fn := fun _ => fun
  | [d] => { results := [.lit (.bool true)], args := [d] }
  | _ => none }
def framePingRow : OpenClaim := { program := "ythnolkbolmbkdaadoor", sum := "3592b4641237f73b7cf617a41a6a2494435497e20520acfe1a083b779057f879", func := "wanderwire/wirelaw4.FramePing", spec := "framePing", inPlace := ["internal/abi.NoEscape"], unfollowed := true, recurses := true, named := ["wanderwire/frame.counts", "wanderwire/varint.kinds"], apart := false, laid := [("wanderwire/varint.kinds", laid_wanderwire_varint_kinds), ("wanderwire/frame.counts", laid_wanderwire_frame_counts)] }
def FramePingSaid : Prop := framePingRow.holds Tryd.pinned (OpenSpec.ofChange framePingSpec)

/-- ITS FALSE NEIGHBOUR: 'it returns false'. Refute it at one input. -/
def framePingWrong : ChangeSpec := { name := "framePing", fn := fun _ => fun
  | [d] => { results := [.lit (.bool false)], args := [d] }
  | _ => none }
def FramePingWrongFalsely : Prop := framePingRow.holds Tryd.pinned (OpenSpec.ofChange framePingWrong)

/-- 'wirelaw2.FrameBack': WHATEVER THE INPUT: true; the input reads as it did. -/
def frameBackSpec : ChangeSpec := { name := "frameBack", fn := fun _ => fun
  | [d1, d2, d3] => { results := [.lit (.bool true)], args := [d1, d2, d3] }
  | _ => none }
def frameBackRow : OpenClaim := { program := "ythnolkbolmbkdaadoor", sum := "3592b4641237f73b7cf617a41a6a2494435497e20520acfe1a083b779057f879", func := "wanderwire/wirelaw2.FrameBack", spec := "frameBack", inPlace := ["internal/abi.NoEscape"], unfollowed := true, recurses := true, named := ["wanderwire/frame.counts", "wanderwire/varint.kinds"], apart := false, laid := [("wanderwire/varint.kinds", laid_wanderwire_varint_kinds), ("wanderwire/frame.counts", laid_wanderwire_frame_counts)] }
def FrameBackSaid : Prop := frameBackRow.holds Tryd.pinned (OpenSpec.ofChange frameBackSpec)

/-- ITS FALSE NEIGHBOUR: 'it returns false'. Refute it at one input. -/
def frameBackWrong : ChangeSpec := { name := "frameBack", fn := fun _ => fun
  | [d1, d2, d3] => { results := [.lit (.bool false)], args := [d1, d2, d3] }
  | _ => none }
def FrameBackWrongFalsely : Prop := frameBackRow.holds Tryd.pinned (OpenSpec.ofChange frameBackWrong)

/-- 'wirelaw2.FrameTells': WHATEVER THE INPUT: true; the input reads as it did. -/
def frameTellsSpec : ChangeSpec := { name := "frameTells", fn := fun _ => fun
  | [d1, d2] => { results := [.lit (.bool true)], args := [d1, d2] }
  | _ => none }
def frameTellsRow : OpenClaim := { program := "ythnolkbolmbkdaadoor", sum := "3592b4641237f73b7cf617a41a6a2494435497e20520acfe1a083b779057f879", func := "wanderwire/wirelaw2.FrameTells", spec := "frameTells", inPlace := ["internal/reflectlite.ValueOf", "(internal/reflectlite.Value).Type", "(internal/reflectlite.Value).IsNil", "internal/reflectlite.TypeOf", "(internal/reflectlite.Value).Elem", "(internal/reflectlite.Value).Set", "internal/abi.NoEscape"], unfollowed := true, recurses := true, named := ["wanderwire/frame.counts", "errors.errorType", "wanderwire/varint.kinds"], apart := false, laid := [("errors.errorType", laid_errors_errorType), ("wanderwire/varint.kinds", laid_wanderwire_varint_kinds), ("wanderwire/frame.counts", laid_wanderwire_frame_counts)] }
def FrameTellsSaid : Prop := frameTellsRow.holds Tryd.pinned (OpenSpec.ofChange frameTellsSpec)

/-- ITS FALSE NEIGHBOUR: 'it returns false'. Refute it at one input. -/
def frameTellsWrong : ChangeSpec := { name := "frameTells", fn := fun _ => fun
  | [d1, d2] => { results := [.lit (.bool false)], args := [d1, d2] }
  | _ => none }
def FrameTellsWrongFalsely : Prop := frameTellsRow.holds Tryd.pinned (OpenSpec.ofChange frameTellsWrong)

/-- 'wirelaw4.PacketPing': WHATEVER THE INPUT: true; the input reads as it did. -/
def packetPingSpec : ChangeSpec := { name := "packetPing", fn := fun _ => fun
  | [d] => { results := [.lit (.bool true)], args := [d] }
  | _ => none }
def packetPingRow : OpenClaim := { program := "ythnolkbolmbkdaadoor", sum := "3592b4641237f73b7cf617a41a6a2494435497e20520acfe1a083b779057f879", func := "wanderwire/wirelaw4.PacketPing", spec := "packetPing", inPlace := ["internal/abi.NoEscape", "internal/reflectlite.ValueOf", "(internal/reflectlite.Value).Type", "(internal/reflectlite.Value).IsNil", "internal/reflectlite.TypeOf", "(internal/reflectlite.Value).Elem", "(internal/reflectlite.Value).Set"], unfollowed := true, recurses := true, named := ["wanderwire/frame.counts", "wanderwire/varint.kinds", "errors.errorType"], apart := false, laid := [("errors.errorType", laid_errors_errorType), ("wanderwire/varint.kinds", laid_wanderwire_varint_kinds), ("wanderwire/frame.counts", laid_wanderwire_frame_counts)] }
def PacketPingSaid : Prop := packetPingRow.holds Tryd.pinned (OpenSpec.ofChange packetPingSpec)

/-- ITS FALSE NEIGHBOUR: 'it returns false'. Refute it at one input. -/
def packetPingWrong : ChangeSpec := { name := "packetPing", fn := fun _ => fun
  | [d] => { results := [.lit (.bool false)], args := [d] }
  | _ => none }
def PacketPingWrongFalsely : Prop := packetPingRow.holds Tryd.pinned (OpenSpec.ofChange packetPingWrong)

/-- 'wirelaw2.PacketBack': WHATEVER THE INPUT: true; the input reads as it did. -/
def packetBackSpec : ChangeSpec := { name := "packetBack", fn := fun _ => fun
  | [d1, d2, d3, d4] => { results := [.lit (.bool true)], args := [d1, d2, d3, d4] }
  | _ => none }
def packetBackRow : OpenClaim := { program := "ythnolkbolmbkdaadoor", sum := "3592b4641237f73b7cf617a41a6a2494435497e20520acfe1a083b779057f879", func := "wanderwire/wirelaw2.PacketBack", spec := "packetBack", inPlace := ["internal/abi.NoEscape"], unfollowed := true, recurses := true, named := ["wanderwire/frame.counts", "wanderwire/varint.kinds"], apart := false, laid := [("wanderwire/varint.kinds", laid_wanderwire_varint_kinds), ("wanderwire/frame.counts", laid_wanderwire_frame_counts)] }
def PacketBackSaid : Prop := packetBackRow.holds Tryd.pinned (OpenSpec.ofChange packetBackSpec)

/-- ITS FALSE NEIGHBOUR: 'it returns false'. Refute it at one input. -/
def packetBackWrong : ChangeSpec := { name := "packetBack", fn := fun _ => fun
  | [d1, d2, d3, d4] => { results := [.lit (.bool false)], args := [d1, d2, d3, d4] }
  | _ => none }
def PacketBackWrongFalsely : Prop := packetBackRow.holds Tryd.pinned (OpenSpec.ofChange packetBackWrong)

/-- 'wirelaw2.PacketTells': WHATEVER THE INPUT: true; the input reads as it did. -/
def packetTellsSpec : ChangeSpec := { name := "packetTells", fn := fun _ => fun
  | [d1, d2, d3, d4, d5] => { results := [.lit (.bool true)], args := [d1, d2, d3, d4, d5] }
  | _ => none }
def packetTellsRow : OpenClaim := { program := "ythnolkbolmbkdaadoor", sum := "3592b4641237f73b7cf617a41a6a2494435497e20520acfe1a083b779057f879", func := "wanderwire/wirelaw2.PacketTells", spec := "packetTells", inPlace := ["internal/abi.NoEscape", "internal/reflectlite.ValueOf", "(internal/reflectlite.Value).Type", "(internal/reflectlite.Value).IsNil", "internal/reflectlite.TypeOf", "(internal/reflectlite.Value).Elem", "(internal/reflectlite.Value).Set"], unfollowed := true, recurses := true, named := ["wanderwire/frame.counts", "wanderwire/varint.kinds", "errors.errorType"], apart := false, laid := [("errors.errorType", laid_errors_errorType), ("wanderwire/varint.kinds", laid_wanderwire_varint_kinds), ("wanderwire/frame.counts", laid_wanderwire_frame_counts)] }
def PacketTellsSaid : Prop := packetTellsRow.holds Tryd.pinned (OpenSpec.ofChange packetTellsSpec)

/-- ITS FALSE NEIGHBOUR: 'it returns false'. Refute it at one input. -/
def packetTellsWrong : ChangeSpec := { name := "packetTells", fn := fun _ => fun
  | [d1, d2, d3, d4, d5] => { results := [.lit (.bool false)], args := [d1, d2, d3, d4, d5] }
  | _ => none }
def PacketTellsWrongFalsely : Prop := packetTellsRow.holds Tryd.pinned (OpenSpec.ofChange packetTellsWrong)

/- THE SECOND FORM. 'bulk': how many values and letters a reading holds, each counted each time it is reached (what is shared counts as often as it is met; a slice's spare places count too). A statement '..UptoSaid' is the law's where the arguments, and the package variables that the reading takes, are together of bulk at most 1048576: NARROWER than '..Said'. Prove '..Said' where nothing that the law and all that it calls make is longer than what came in: it says more and counts as full. Else prove '..UptoSaid'. A law counts once. -/
mutual
def uptoBulk {H : Type} : DataW H → Nat
  | .lit (.string bytes) => bytes.length + 1
  | .lit _ => 1
  | .nil => 1
  | .ptr d => uptoBulk d + 1
  | .slice elems spare => uptoBulkAll elems + uptoBulkAll spare + 1
  | .agg parts => uptoBulkAll parts + 1
  | .iface _ d => uptoBulk d + 1
  | .map entries => uptoBulkEntries entries + 1
  | .held _ => 1
def uptoBulkAll {H : Type} : List (DataW H) → Nat
  | [] => 0
  | d :: r => uptoBulk d + uptoBulkAll r
def uptoBulkEntries {H : Type} : List (Lit × DataW H) → Nat
  | [] => 0
  | x :: r => uptoBulkEntry x + uptoBulkEntries r
def uptoBulkEntry {H : Type} : Lit × DataW H → Nat
  | (.string bytes, d) => bytes.length + uptoBulk d + 1
  | (_, d) => uptoBulk d + 1
 end
def uptoSmall : (H : Type) → List (DataW H) → Bool := fun _ ds => decide (uptoBulkAll ds ≤ 1048576)
def OpenSpec.upto (s : _root_.Go.ChangeSpec) : _root_.Go.OpenSpec := { _root_.Go.OpenSpec.ofChange s with cond := some uptoSmall }

/-- 'wirelaw4.MoveNone', WHERE WHAT IT READS IS OF BULK AT MOST 1048576: true; the input reads as it did. -/
def moveNoneUptoRow : OpenClaim := { program := "ythnolkbolmbkdaadoor", sum := "3592b4641237f73b7cf617a41a6a2494435497e20520acfe1a083b779057f879", func := "wanderwire/wirelaw4.MoveNone", spec := "moveNone", inPlace := ["internal/reflectlite.ValueOf", "(internal/reflectlite.Value).Type", "(internal/reflectlite.Value).IsNil", "internal/reflectlite.TypeOf", "(internal/reflectlite.Value).Elem", "(internal/reflectlite.Value).Set"], unfollowed := true, recurses := true, named := ["errors.errorType"], apart := false, laid := [("errors.errorType", laid_errors_errorType)], narrowed := true }
def MoveNoneUptoSaid : Prop := moveNoneUptoRow.holds Tryd.pinned (OpenSpec.upto moveNoneSpec)

/-- 'wirelaw2.MovePlays', WHERE WHAT IT READS IS OF BULK AT MOST 1048576: true; the input reads as it did. -/
def movePlaysUptoRow : OpenClaim := { program := "ythnolkbolmbkdaadoor", sum := "3592b4641237f73b7cf617a41a6a2494435497e20520acfe1a083b779057f879", func := "wanderwire/wirelaw2.MovePlays", spec := "movePlays", inPlace := ["internal/reflectlite.ValueOf", "(internal/reflectlite.Value).Type", "(internal/reflectlite.Value).IsNil", "internal/reflectlite.TypeOf", "(internal/reflectlite.Value).Elem", "(internal/reflectlite.Value).Set"], unfollowed := true, recurses := true, named := ["errors.errorType"], apart := false, laid := [("errors.errorType", laid_errors_errorType)], narrowed := true }
def MovePlaysUptoSaid : Prop := movePlaysUptoRow.holds Tryd.pinned (OpenSpec.upto movePlaysSpec)

/-- 'wirelaw1.AckBack', WHERE WHAT IT READS IS OF BULK AT MOST 1048576: true; the input reads as it did. -/
def ackBackUptoRow : OpenClaim := { program := "ythnolkbolmbkdaadoor", sum := "3592b4641237f73b7cf617a41a6a2494435497e20520acfe1a083b779057f879", func := "wanderwire/wirelaw1.AckBack", spec := "ackBack", inPlace := ["internal/abi.NoEscape"], unfollowed := true, recurses := true, named := ["wanderwire/varint.kinds"], apart := false, laid := [("wanderwire/varint.kinds", laid_wanderwire_varint_kinds)], narrowed := true }
def AckBackUptoSaid : Prop := ackBackUptoRow.holds Tryd.pinned (OpenSpec.upto ackBackSpec)

/-- 'wirelaw4.AckOne', WHERE WHAT IT READS IS OF BULK AT MOST 1048576: true; the input reads as it did. -/
def ackOneUptoRow : OpenClaim := { program := "ythnolkbolmbkdaadoor", sum := "3592b4641237f73b7cf617a41a6a2494435497e20520acfe1a083b779057f879", func := "wanderwire/wirelaw4.AckOne", spec := "ackOne", inPlace := ["internal/abi.NoEscape"], unfollowed := true, recurses := true, named := ["wanderwire/varint.kinds"], apart := false, laid := [("wanderwire/varint.kinds", laid_wanderwire_varint_kinds)], narrowed := true }
def AckOneUptoSaid : Prop := ackOneUptoRow.holds Tryd.pinned (OpenSpec.upto ackOneSpec)

/-- 'wirelaw1.AckTells', WHERE WHAT IT READS IS OF BULK AT MOST 1048576: true; the input reads as it did. -/
def ackTellsUptoRow : OpenClaim := { program := "ythnolkbolmbkdaadoor", sum := "3592b4641237f73b7cf617a41a6a2494435497e20520acfe1a083b779057f879", func := "wanderwire/wirelaw1.AckTells", spec := "ackTells", inPlace := ["internal/abi.NoEscape", "internal/reflectlite.ValueOf", "(internal/reflectlite.Value).Type", "(internal/reflectlite.Value).IsNil", "internal/reflectlite.TypeOf", "(internal/reflectlite.Value).Elem", "(internal/reflectlite.Value).Set"], unfollowed := true, recurses := true, named := ["wanderwire/varint.kinds", "errors.errorType"], apart := false, laid := [("errors.errorType", laid_errors_errorType), ("wanderwire/varint.kinds", laid_wanderwire_varint_kinds)], narrowed := true }
def AckTellsUptoSaid : Prop := ackTellsUptoRow.holds Tryd.pinned (OpenSpec.upto ackTellsSpec)

/-- 'wirelaw4.FramePing', WHERE WHAT IT READS IS OF BULK AT MOST 1048576: true; the input reads as it did. -/
def framePingUptoRow : OpenClaim := { program := "ythnolkbolmbkdaadoor", sum := "3592b4641237f73b7cf617a41a6a2494435497e20520acfe1a083b779057f879", func := "wanderwire/wirelaw4.FramePing", spec := "framePing", inPlace := ["internal/abi.NoEscape"], unfollowed := true, recurses := true, named := ["wanderwire/frame.counts", "wanderwire/varint.kinds"], apart := false, laid := [("wanderwire/varint.kinds", laid_wanderwire_varint_kinds), ("wanderwire/frame.counts", laid_wanderwire_frame_counts)], narrowed := true }
def FramePingUptoSaid : Prop := framePingUptoRow.holds Tryd.pinned (OpenSpec.upto framePingSpec)

/-- 'wirelaw2.FrameBack', WHERE WHAT IT READS IS OF BULK AT MOST 1048576: true; the input reads as it did. -/
def frameBackUptoRow : OpenClaim := { program := "ythnolkbolmbkdaadoor", sum := "3592b4641237f73b7cf617a41a6a2494435497e20520acfe1a083b779057f879", func := "wanderwire/wirelaw2.FrameBack", spec := "frameBack", inPlace := ["internal/abi.NoEscape"], unfollowed := true, recurses := true, named := ["wanderwire/frame.counts", "wanderwire/varint.kinds"], apart := false, laid := [("wanderwire/varint.kinds", laid_wanderwire_varint_kinds), ("wanderwire/frame.counts", laid_wanderwire_frame_counts)], narrowed := true }
def FrameBackUptoSaid : Prop := frameBackUptoRow.holds Tryd.pinned (OpenSpec.upto frameBackSpec)

/-- 'wirelaw2.FrameTells', WHERE WHAT IT READS IS OF BULK AT MOST 1048576: true; the input reads as it did. -/
def frameTellsUptoRow : OpenClaim := { program := "ythnolkbolmbkdaadoor", sum := "3592b4641237f73b7cf617a41a6a2494435497e20520acfe1a083b779057f879", func := "wanderwire/wirelaw2.FrameTells", spec := "frameTells", inPlace := ["internal/reflectlite.ValueOf", "(internal/reflectlite.Value).Type", "(internal/reflectlite.Value).IsNil", "internal/reflectlite.TypeOf", "(internal/reflectlite.Value).Elem", "(internal/reflectlite.Value).Set", "internal/abi.NoEscape"], unfollowed := true, recurses := true, named := ["wanderwire/frame.counts", "errors.errorType", "wanderwire/varint.kinds"], apart := false, laid := [("errors.errorType", laid_errors_errorType), ("wanderwire/varint.kinds", laid_wanderwire_varint_kinds), ("wanderwire/frame.counts", laid_wanderwire_frame_counts)], narrowed := true }
def FrameTellsUptoSaid : Prop := frameTellsUptoRow.holds Tryd.pinned (OpenSpec.upto frameTellsSpec)

/-- 'wirelaw4.PacketPing', WHERE WHAT IT READS IS OF BULK AT MOST 1048576: true; the input reads as it did. -/
def packetPingUptoRow : OpenClaim := { program := "ythnolkbolmbkdaadoor", sum := "3592b4641237f73b7cf617a41a6a2494435497e20520acfe1a083b779057f879", func := "wanderwire/wirelaw4.PacketPing", spec := "packetPing", inPlace := ["internal/abi.NoEscape", "internal/reflectlite.ValueOf", "(internal/reflectlite.Value).Type", "(internal/reflectlite.Value).IsNil", "internal/reflectlite.TypeOf", "(internal/reflectlite.Value).Elem", "(internal/reflectlite.Value).Set"], unfollowed := true, recurses := true, named := ["wanderwire/frame.counts", "wanderwire/varint.kinds", "errors.errorType"], apart := false, laid := [("errors.errorType", laid_errors_errorType), ("wanderwire/varint.kinds", laid_wanderwire_varint_kinds), ("wanderwire/frame.counts", laid_wanderwire_frame_counts)], narrowed := true }
def PacketPingUptoSaid : Prop := packetPingUptoRow.holds Tryd.pinned (OpenSpec.upto packetPingSpec)

/-- 'wirelaw2.PacketBack', WHERE WHAT IT READS IS OF BULK AT MOST 1048576: true; the input reads as it did. -/
def packetBackUptoRow : OpenClaim := { program := "ythnolkbolmbkdaadoor", sum := "3592b4641237f73b7cf617a41a6a2494435497e20520acfe1a083b779057f879", func := "wanderwire/wirelaw2.PacketBack", spec := "packetBack", inPlace := ["internal/abi.NoEscape"], unfollowed := true, recurses := true, named := ["wanderwire/frame.counts", "wanderwire/varint.kinds"], apart := false, laid := [("wanderwire/varint.kinds", laid_wanderwire_varint_kinds), ("wanderwire/frame.counts", laid_wanderwire_frame_counts)], narrowed := true }
def PacketBackUptoSaid : Prop := packetBackUptoRow.holds Tryd.pinned (OpenSpec.upto packetBackSpec)

/-- 'wirelaw2.PacketTells', WHERE WHAT IT READS IS OF BULK AT MOST 1048576: true; the input reads as it did. -/
def packetTellsUptoRow : OpenClaim := { program := "ythnolkbolmbkdaadoor", sum := "3592b4641237f73b7cf617a41a6a2494435497e20520acfe1a083b779057f879", func := "wanderwire/wirelaw2.PacketTells", spec := "packetTells", inPlace := ["internal/abi.NoEscape", "internal/reflectlite.ValueOf", "(internal/reflectlite.Value).Type", "(internal/reflectlite.Value).IsNil", "internal/reflectlite.TypeOf", "(internal/reflectlite.Value).Elem", "(internal/reflectlite.Value).Set"], unfollowed := true, recurses := true, named := ["wanderwire/frame.counts", "wanderwire/varint.kinds", "errors.errorType"], apart := false, laid := [("errors.errorType", laid_errors_errorType), ("wanderwire/varint.kinds", laid_wanderwire_varint_kinds), ("wanderwire/frame.counts", laid_wanderwire_frame_counts)], narrowed := true }
def PacketTellsUptoSaid : Prop := packetTellsUptoRow.holds Tryd.pinned (OpenSpec.upto packetTellsSpec)

end Rows
end Go.Proofs.YthnolkbolmbkdaaDoor
