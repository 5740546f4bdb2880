/-
  NARROWER THAN 'FOR EVERY INPUT', by the rows' own cells (each row's printed sentence says how): StreamOrder: laid · StreamPlays: laid · LinkMany: laid · LinkPlays: laid · LossTells: laid · RangesTell: laid · RangesSet: laid.
  DERIVED. THE GIVEN ROWS OF THIS SEAT. 7 by the template 'for every input the law returns true; each argument reads behind the call as it read before'; 0 by the template 'total and deterministic' (their statements: YtbmfknnbpnllkaaDoorTotals.lean).
  GIVEN WITH THE SEED: the statements are not yours to turn. If you find one false, say at which input.
  Laid BY PROGRAM, IN A SANDBOX (cutbox-rows.mjs): the forced cells as the released guide's own fill.sh prints them over the translation 0a01ad7e691680d9… (all of the seat's roots in one cut). By AI agents, Wed Nov 11 2026. No macro, syntax, notation, axiom, sorry.
-/
import Derived.Test.YtbmfknnbpnllkaaDoorChecked
import GoSem.Claim
import GoSem.ClaimJoined
import GoSem.ClaimMapViews
import Derived.JoinedTies
import Derived.KernelRfl
namespace Go.Proofs.YtbmfknnbpnllkaaDoor
/- THE CELL 'sum', in the pinned program and in every row, IS THE sha256 OF THE DUMP (.gsa) THAT YtbmfknnbpnllkaaDoorProg.lean LOADS. Nothing in Lean hashes anything: it is a label: what it is worth is what the hold of that sum in a sandbox is worth. -/
noncomputable def Tryd.pinned : Pinned := { name := "ytbmfknnbpnllkaadoor", sum := "0a01ad7e691680d9bcb0b53fec7d0706929cae82f8e688c0c399c9512da4781c", checked := Tryd.checked }
namespace Rows
def none {H : Type} : Left H := { results := [], args := [] }

/- WHAT THE LISTED PACKAGE-LEVEL VARIABLES READ AS WHEN THE CALL BEGINS. Each datum BY PROGRAM (the guide's laid-datum.mjs) off the statement by which the dump's own 'gosem.cut.vars' lays the variable. In a bare row this is a premise. The card (YtbmfknnbpnllkaaDoorCards.lean) ties it to the program's text. -/
def laid_errors_errorType {H : Type} : DataW H := .iface "internal/reflectlite.rtype" (.agg [.ptr (.lit (.string [101, 114, 114, 111, 114]))])

/-- 'wirelaw1.StreamOrder': WHATEVER THE INPUT: true; the input reads as it did. -/
def streamOrderSpec : ChangeSpec := { name := "streamOrder", fn := fun _ => fun
  | [d1, d2] => { results := [.lit (.bool true)], args := [d1, d2] }
  | _ => none }
def streamOrderRow : OpenClaim := { program := "ytbmfknnbpnllkaadoor", sum := "0a01ad7e691680d9bcb0b53fec7d0706929cae82f8e688c0c399c9512da4781c", func := "wanderwire/wirelaw1.StreamOrder", spec := "streamOrder", inPlace := ["internal/reflectlite.ValueOf", "(internal/reflectlite.Value).Type", "(internal/reflectlite.Value).IsNil", "internal/reflectlite.TypeOf", "(internal/reflectlite.Value).Elem", "(internal/reflectlite.Value).Set"], unfollowed := true, recurses := true, named := ["errors.errorType"], apart := false, laid := [("errors.errorType", laid_errors_errorType)] }
def StreamOrderSaid : Prop := streamOrderRow.holds Tryd.pinned (OpenSpec.ofChange streamOrderSpec)

/-- ITS FALSE NEIGHBOUR: 'it returns false'. Refute it at one input. -/
def streamOrderWrong : ChangeSpec := { name := "streamOrder", fn := fun _ => fun
  | [d1, d2] => { results := [.lit (.bool false)], args := [d1, d2] }
  | _ => none }
def StreamOrderWrongFalsely : Prop := streamOrderRow.holds Tryd.pinned (OpenSpec.ofChange streamOrderWrong)

/-- 'wirelaw1.StreamPlays': WHATEVER THE INPUT: true; the input reads as it did. -/
def streamPlaysSpec : ChangeSpec := { name := "streamPlays", fn := fun _ => fun
  | [d1, d2] => { results := [.lit (.bool true)], args := [d1, d2] }
  | _ => none }
def streamPlaysRow : OpenClaim := { program := "ytbmfknnbpnllkaadoor", sum := "0a01ad7e691680d9bcb0b53fec7d0706929cae82f8e688c0c399c9512da4781c", func := "wanderwire/wirelaw1.StreamPlays", spec := "streamPlays", inPlace := ["internal/reflectlite.ValueOf", "(internal/reflectlite.Value).Type", "(internal/reflectlite.Value).IsNil", "internal/reflectlite.TypeOf", "(internal/reflectlite.Value).Elem", "(internal/reflectlite.Value).Set"], unfollowed := true, recurses := true, named := ["errors.errorType"], apart := false, laid := [("errors.errorType", laid_errors_errorType)] }
def StreamPlaysSaid : Prop := streamPlaysRow.holds Tryd.pinned (OpenSpec.ofChange streamPlaysSpec)

/-- ITS FALSE NEIGHBOUR: 'it returns false'. Refute it at one input. -/
def streamPlaysWrong : ChangeSpec := { name := "streamPlays", fn := fun _ => fun
  | [d1, d2] => { results := [.lit (.bool false)], args := [d1, d2] }
  | _ => none }
def StreamPlaysWrongFalsely : Prop := streamPlaysRow.holds Tryd.pinned (OpenSpec.ofChange streamPlaysWrong)

/-- 'wirelaw4.LinkMany': WHATEVER THE INPUT: true; the input reads as it did. -/
def linkManySpec : ChangeSpec := { name := "linkMany", fn := fun _ => fun
  | [d1, d2] => { results := [.lit (.bool true)], args := [d1, d2] }
  | _ => none }
def linkManyRow : OpenClaim := { program := "ytbmfknnbpnllkaadoor", sum := "0a01ad7e691680d9bcb0b53fec7d0706929cae82f8e688c0c399c9512da4781c", func := "wanderwire/wirelaw4.LinkMany", spec := "linkMany", inPlace := ["internal/reflectlite.ValueOf", "(internal/reflectlite.Value).Type", "(internal/reflectlite.Value).IsNil", "internal/reflectlite.TypeOf", "(internal/reflectlite.Value).Elem", "(internal/reflectlite.Value).Set"], unfollowed := true, recurses := true, named := ["errors.errorType"], apart := false, laid := [("errors.errorType", laid_errors_errorType)] }
def LinkManySaid : Prop := linkManyRow.holds Tryd.pinned (OpenSpec.ofChange linkManySpec)

/-- ITS FALSE NEIGHBOUR: 'it returns false'. Refute it at one input. -/
def linkManyWrong : ChangeSpec := { name := "linkMany", fn := fun _ => fun
  | [d1, d2] => { results := [.lit (.bool false)], args := [d1, d2] }
  | _ => none }
def LinkManyWrongFalsely : Prop := linkManyRow.holds Tryd.pinned (OpenSpec.ofChange linkManyWrong)

/-- 'wirelaw2.LinkPlays': WHATEVER THE INPUT: true; the input reads as it did. -/
def linkPlaysSpec : ChangeSpec := { name := "linkPlays", fn := fun _ => fun
  | [d1, d2] => { results := [.lit (.bool true)], args := [d1, d2] }
  | _ => none }
def linkPlaysRow : OpenClaim := { program := "ytbmfknnbpnllkaadoor", sum := "0a01ad7e691680d9bcb0b53fec7d0706929cae82f8e688c0c399c9512da4781c", func := "wanderwire/wirelaw2.LinkPlays", spec := "linkPlays", inPlace := ["internal/reflectlite.ValueOf", "(internal/reflectlite.Value).Type", "(internal/reflectlite.Value).IsNil", "internal/reflectlite.TypeOf", "(internal/reflectlite.Value).Elem", "(internal/reflectlite.Value).Set"], unfollowed := true, recurses := true, named := ["errors.errorType"], apart := false, laid := [("errors.errorType", laid_errors_errorType)] }
def LinkPlaysSaid : Prop := linkPlaysRow.holds Tryd.pinned (OpenSpec.ofChange linkPlaysSpec)

/-- ITS FALSE NEIGHBOUR: 'it returns false'. Refute it at one input. -/
def linkPlaysWrong : ChangeSpec := { name := "linkPlays", fn := fun _ => fun
  | [d1, d2] => { results := [.lit (.bool false)], args := [d1, d2] }
  | _ => none }
def LinkPlaysWrongFalsely : Prop := linkPlaysRow.holds Tryd.pinned (OpenSpec.ofChange linkPlaysWrong)

/-- 'wirelaw2.LossTells': WHATEVER THE INPUT: true; the input reads as it did. -/
def lossTellsSpec : ChangeSpec := { name := "lossTells", fn := fun _ => fun
  | [d1, d2, d3, d4] => { results := [.lit (.bool true)], args := [d1, d2, d3, d4] }
  | _ => none }
def lossTellsRow : OpenClaim := { program := "ytbmfknnbpnllkaadoor", sum := "0a01ad7e691680d9bcb0b53fec7d0706929cae82f8e688c0c399c9512da4781c", func := "wanderwire/wirelaw2.LossTells", spec := "lossTells", inPlace := ["internal/reflectlite.ValueOf", "(internal/reflectlite.Value).Type", "(internal/reflectlite.Value).IsNil", "internal/reflectlite.TypeOf", "(internal/reflectlite.Value).Elem", "(internal/reflectlite.Value).Set"], unfollowed := true, recurses := true, named := ["errors.errorType"], apart := false, laid := [("errors.errorType", laid_errors_errorType)] }
def LossTellsSaid : Prop := lossTellsRow.holds Tryd.pinned (OpenSpec.ofChange lossTellsSpec)

/-- ITS FALSE NEIGHBOUR: 'it returns false'. Refute it at one input. -/
def lossTellsWrong : ChangeSpec := { name := "lossTells", fn := fun _ => fun
  | [d1, d2, d3, d4] => { results := [.lit (.bool false)], args := [d1, d2, d3, d4] }
  | _ => none }
def LossTellsWrongFalsely : Prop := lossTellsRow.holds Tryd.pinned (OpenSpec.ofChange lossTellsWrong)

/-- 'wirelaw1.RangesTell': WHATEVER THE INPUT: true; the input reads as it did. -/
def rangesTellSpec : ChangeSpec := { name := "rangesTell", fn := fun _ => fun
  | [d1, d2, d3] => { results := [.lit (.bool true)], args := [d1, d2, d3] }
  | _ => none }
def rangesTellRow : OpenClaim := { program := "ytbmfknnbpnllkaadoor", sum := "0a01ad7e691680d9bcb0b53fec7d0706929cae82f8e688c0c399c9512da4781c", func := "wanderwire/wirelaw1.RangesTell", spec := "rangesTell", inPlace := ["internal/reflectlite.ValueOf", "(internal/reflectlite.Value).Type", "(internal/reflectlite.Value).IsNil", "internal/reflectlite.TypeOf", "(internal/reflectlite.Value).Elem", "(internal/reflectlite.Value).Set"], unfollowed := true, recurses := true, named := ["errors.errorType"], apart := false, laid := [("errors.errorType", laid_errors_errorType)] }
def RangesTellSaid : Prop := rangesTellRow.holds Tryd.pinned (OpenSpec.ofChange rangesTellSpec)

/-- ITS FALSE NEIGHBOUR: 'it returns false'. Refute it at one input. -/
def rangesTellWrong : ChangeSpec := { name := "rangesTell", fn := fun _ => fun
  | [d1, d2, d3] => { results := [.lit (.bool false)], args := [d1, d2, d3] }
  | _ => none }
def RangesTellWrongFalsely : Prop := rangesTellRow.holds Tryd.pinned (OpenSpec.ofChange rangesTellWrong)

/-- 'wirelaw1.RangesSet': WHATEVER THE INPUT: true; the input reads as it did. -/
def rangesSetSpec : ChangeSpec := { name := "rangesSet", fn := fun _ => fun
  | [d1, d2, d3, d4] => { results := [.lit (.bool true)], args := [d1, d2, d3, d4] }
  | _ => none }
def rangesSetRow : OpenClaim := { program := "ytbmfknnbpnllkaadoor", sum := "0a01ad7e691680d9bcb0b53fec7d0706929cae82f8e688c0c399c9512da4781c", func := "wanderwire/wirelaw1.RangesSet", spec := "rangesSet", inPlace := ["internal/reflectlite.ValueOf", "(internal/reflectlite.Value).Type", "(internal/reflectlite.Value).IsNil", "internal/reflectlite.TypeOf", "(internal/reflectlite.Value).Elem", "(internal/reflectlite.Value).Set"], unfollowed := true, recurses := true, named := ["errors.errorType"], apart := false, laid := [("errors.errorType", laid_errors_errorType)] }
def RangesSetSaid : Prop := rangesSetRow.holds Tryd.pinned (OpenSpec.ofChange rangesSetSpec)

/-- ITS FALSE NEIGHBOUR: 'it returns false'. Refute it at one input. -/
def rangesSetWrong : ChangeSpec := { name := "rangesSet", fn := fun _ => fun
  | [d1, d2, d3, d4] => { results := [.lit (.bool false)], args := [d1, d2, d3, d4] }
  | _ => none }
def RangesSetWrongFalsely : Prop := rangesSetRow.holds Tryd.pinned (OpenSpec.ofChange rangesSetWrong)

/- THE SECOND FORM. 'bulk': how many values and letters a reading holds, each counted each time it is reached (what is shared counts as often as it is met; a slice's spare places count too). A statement '..UptoSaid' is the law's where the arguments, and the package variables that the reading takes, are together of bulk at most 1048576: NARROWER than '..Said'. Prove '..Said' where nothing that the law and all that it calls make is longer than what came in: it says more and counts as full. Else prove '..UptoSaid'. A law counts once. -/
mutual
def uptoBulk {H : Type} : DataW H → Nat
  | .lit (.string bytes) => bytes.length + 1
  | .lit _ => 1
  | .nil => 1
  | .ptr d => uptoBulk d + 1
  | .slice elems spare => uptoBulkAll elems + uptoBulkAll spare + 1
  | .agg parts => uptoBulkAll parts + 1
  | .iface _ d => uptoBulk d + 1
  | .map entries => uptoBulkEntries entries + 1
  | .held _ => 1
def uptoBulkAll {H : Type} : List (DataW H) → Nat
  | [] => 0
  | d :: r => uptoBulk d + uptoBulkAll r
def uptoBulkEntries {H : Type} : List (Lit × DataW H) → Nat
  | [] => 0
  | x :: r => uptoBulkEntry x + uptoBulkEntries r
def uptoBulkEntry {H : Type} : Lit × DataW H → Nat
  | (.string bytes, d) => bytes.length + uptoBulk d + 1
  | (_, d) => uptoBulk d + 1
 end
def uptoSmall : (H : Type) → List (DataW H) → Bool := fun _ ds => decide (uptoBulkAll ds ≤ 1048576)
def OpenSpec.upto (s : _root_.Go.ChangeSpec) : _root_.Go.OpenSpec := { _root_.Go.OpenSpec.ofChange s with cond := some uptoSmall }

/-- 'wirelaw1.StreamOrder', WHERE WHAT IT READS IS OF BULK AT MOST 1048576: true; the input reads as it did. -/
def streamOrderUptoRow : OpenClaim := { program := "ytbmfknnbpnllkaadoor", sum := "0a01ad7e691680d9bcb0b53fec7d0706929cae82f8e688c0c399c9512da4781c", func := "wanderwire/wirelaw1.StreamOrder", spec := "streamOrder", inPlace := ["internal/reflectlite.ValueOf", "(internal/reflectlite.Value).Type", "(internal/reflectlite.Value).IsNil", "internal/reflectlite.TypeOf", "(internal/reflectlite.Value).Elem", "(internal/reflectlite.Value).Set"], unfollowed := true, recurses := true, named := ["errors.errorType"], apart := false, laid := [("errors.errorType", laid_errors_errorType)], narrowed := true }
def StreamOrderUptoSaid : Prop := streamOrderUptoRow.holds Tryd.pinned (OpenSpec.upto streamOrderSpec)

/-- 'wirelaw1.StreamPlays', WHERE WHAT IT READS IS OF BULK AT MOST 1048576: true; the input reads as it did. -/
def streamPlaysUptoRow : OpenClaim := { program := "ytbmfknnbpnllkaadoor", sum := "0a01ad7e691680d9bcb0b53fec7d0706929cae82f8e688c0c399c9512da4781c", func := "wanderwire/wirelaw1.StreamPlays", spec := "streamPlays", inPlace := ["internal/reflectlite.ValueOf", "(internal/reflectlite.Value).Type", "(internal/reflectlite.Value).IsNil", "internal/reflectlite.TypeOf", "(internal/reflectlite.Value).Elem", "(internal/reflectlite.Value).Set"], unfollowed := true, recurses := true, named := ["errors.errorType"], apart := false, laid := [("errors.errorType", laid_errors_errorType)], narrowed := true }
def StreamPlaysUptoSaid : Prop := streamPlaysUptoRow.holds Tryd.pinned (OpenSpec.upto streamPlaysSpec)

/-- 'wirelaw4.LinkMany', WHERE WHAT IT READS IS OF BULK AT MOST 1048576: true; the input reads as it did. -/
def linkManyUptoRow : OpenClaim := { program := "ytbmfknnbpnllkaadoor", sum := "0a01ad7e691680d9bcb0b53fec7d0706929cae82f8e688c0c399c9512da4781c", func := "wanderwire/wirelaw4.LinkMany", spec := "linkMany", inPlace := ["internal/reflectlite.ValueOf", "(internal/reflectlite.Value).Type", "(internal/reflectlite.Value).IsNil", "internal/reflectlite.TypeOf", "(internal/reflectlite.Value).Elem", "(internal/reflectlite.Value).Set"], unfollowed := true, recurses := true, named := ["errors.errorType"], apart := false, laid := [("errors.errorType", laid_errors_errorType)], narrowed := true }
def LinkManyUptoSaid : Prop := linkManyUptoRow.holds Tryd.pinned (OpenSpec.upto linkManySpec)

/-- 'wirelaw2.LinkPlays', WHERE WHAT IT READS IS OF BULK AT MOST 1048576: true; the input reads as it did. -/
def linkPlaysUptoRow : OpenClaim := { program := "ytbmfknnbpnllkaadoor", sum := "0a01ad7e691680d9bcb0b53fec7d0706929cae82f8e688c0c399c9512da4781c", func := "wanderwire/wirelaw2.LinkPlays", spec := "linkPlays", inPlace := ["internal/reflectlite.ValueOf", "(internal/reflectlite.Value).Type", "(internal/reflectlite.Value).IsNil", "internal/reflectlite.TypeOf", "(internal/reflectlite.Value).Elem", "(internal/reflectlite.Value).Set"], unfollowed := true, recurses := true, named := ["errors.errorType"], apart := false, laid := [("errors.errorType", laid_errors_errorType)], narrowed := true }
def LinkPlaysUptoSaid : Prop := linkPlaysUptoRow.holds Tryd.pinned (OpenSpec.upto linkPlaysSpec)

/-- 'wirelaw2.LossTells', WHERE WHAT IT READS IS OF BULK AT MOST 1048576: true; the input reads as it did. -/
def lossTellsUptoRow : OpenClaim := { program := "ytbmfknnbpnllkaadoor", sum := "0a01ad7e691680d9bcb0b53fec7d0706929cae82f8e688c0c399c9512da4781c", func := "wanderwire/wirelaw2.LossTells", spec := "lossTells", inPlace := ["internal/reflectlite.ValueOf", "(internal/reflectlite.Value).Type", "(internal/reflectlite.Value).IsNil", "internal/reflectlite.TypeOf", "(internal/reflectlite.Value).Elem", "(internal/reflectlite.Value).Set"], unfollowed := true, recurses := true, named := ["errors.errorType"], apart := false, laid := [("errors.errorType", laid_errors_errorType)], narrowed := true }
def LossTellsUptoSaid : Prop := lossTellsUptoRow.holds Tryd.pinned (OpenSpec.upto lossTellsSpec)

/-- 'wirelaw1.RangesTell', WHERE WHAT IT READS IS OF BULK AT MOST 1048576: true; the input reads as it did. -/
def rangesTellUptoRow : OpenClaim := { program := "ytbmfknnbpnllkaadoor", sum := "0a01ad7e691680d9bcb0b53fec7d0706929cae82f8e688c0c399c9512da4781c", func := "wanderwire/wirelaw1.RangesTell", spec := "rangesTell", inPlace := ["internal/reflectlite.ValueOf", "(internal/reflectlite.Value).Type", "(internal/reflectlite.Value).IsNil", "internal/reflectlite.TypeOf", "(internal/reflectlite.Value).Elem", "(internal/reflectlite.Value).Set"], unfollowed := true, recurses := true, named := ["errors.errorType"], apart := false, laid := [("errors.errorType", laid_errors_errorType)], narrowed := true }
def RangesTellUptoSaid : Prop := rangesTellUptoRow.holds Tryd.pinned (OpenSpec.upto rangesTellSpec)

/-- 'wirelaw1.RangesSet', WHERE WHAT IT READS IS OF BULK AT MOST 1048576: true; the input reads as it did. -/
def rangesSetUptoRow : OpenClaim := { program := "ytbmfknnbpnllkaadoor", sum := "0a01ad7e691680d9bcb0b53fec7d0706929cae82f8e688c0c399c9512da4781c", func := "wanderwire/wirelaw1.RangesSet", spec := "rangesSet", inPlace := ["internal/reflectlite.ValueOf", "(internal/reflectlite.Value).Type", "(internal/reflectlite.Value).IsNil", "internal/reflectlite.TypeOf", "(internal/reflectlite.Value).Elem", "(internal/reflectlite.Value).Set"], unfollowed := true, recurses := true, named := ["errors.errorType"], apart := false, laid := [("errors.errorType", laid_errors_errorType)], narrowed := true }
def RangesSetUptoSaid : Prop := rangesSetUptoRow.holds Tryd.pinned (OpenSpec.upto rangesSetSpec)

end Rows
end Go.Proofs.YtbmfknnbpnllkaaDoor
