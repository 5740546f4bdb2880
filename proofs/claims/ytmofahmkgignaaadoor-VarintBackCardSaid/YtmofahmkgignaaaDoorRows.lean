/-
  NARROWER THAN 'FOR EVERY INPUT', by the rows' own cells (each row's printed sentence says how): TripTells: laid · NumberTells: laid · VarintShort: laid · VarintBack: laid · VarintTells: laid · PathThrice: laid · PathTells: laid · PathKnown: laid.
  DERIVED. THE GIVEN ROWS OF THIS SEAT. 8 by the template 'for every input the law returns true; each argument reads behind the call as it read before'; 0 by the template 'total and deterministic' (their statements: YtmofahmkgignaaaDoorTotals.lean).
  GIVEN WITH THE SEED: the statements are not yours to turn. If you find one false, say at which input.
  Laid BY PROGRAM, IN A SANDBOX (cutbox-rows.mjs): the forced cells as the released guide's own fill.sh prints them over the translation 40570ae83e4ee3f0… (all of the seat's roots in one cut). By AI agents, Wed Nov 11 2026. No macro, syntax, notation, axiom, sorry.
-/
import Derived.Test.YtmofahmkgignaaaDoorChecked
import GoSem.Claim
import GoSem.ClaimJoined
import GoSem.ClaimMapViews
import Derived.JoinedTies
import Derived.KernelRfl
namespace Go.Proofs.YtmofahmkgignaaaDoor
/- THE CELL 'sum', in the pinned program and in every row, IS THE sha256 OF THE DUMP (.gsa) THAT YtmofahmkgignaaaDoorProg.lean LOADS. Nothing in Lean hashes anything: it is a label: what it is worth is what the hold of that sum in a sandbox is worth. -/
noncomputable def Tryd.pinned : Pinned := { name := "ytmofahmkgignaaadoor", sum := "40570ae83e4ee3f0ba431f560b840f79e406621a210b358b0f26b5f2395b004b", checked := Tryd.checked }
namespace Rows
def none {H : Type} : Left H := { results := [], args := [] }

/- WHAT THE LISTED PACKAGE-LEVEL VARIABLES READ AS WHEN THE CALL BEGINS. Each datum BY PROGRAM (the guide's laid-datum.mjs) off the statement by which the dump's own 'gosem.cut.vars' lays the variable. In a bare row this is a premise. The card (YtmofahmkgignaaaDoorCards.lean) ties it to the program's text. -/
def laid_errors_errorType {H : Type} : DataW H := .iface "internal/reflectlite.rtype" (.agg [.ptr (.lit (.string [101, 114, 114, 111, 114]))])
def laid_wanderwire_varint_kinds {H : Type} : DataW H := .agg [.agg [.lit (.int .i64 1), .lit (.int .i64 64)], .agg [.lit (.int .i64 2), .lit (.int .i64 16384)], .agg [.lit (.int .i64 4), .lit (.int .i64 1073741824)]]

/-- 'wirelaw1.TripTells': WHATEVER THE INPUT: true; the input reads as it did. -/
def tripTellsSpec : ChangeSpec := { name := "tripTells", fn := fun _ => fun
  | [d1, d2, d3] => { results := [.lit (.bool true)], args := [d1, d2, d3] }
  | _ => none }
def tripTellsRow : OpenClaim := { program := "ytmofahmkgignaaadoor", sum := "40570ae83e4ee3f0ba431f560b840f79e406621a210b358b0f26b5f2395b004b", func := "wanderwire/wirelaw1.TripTells", spec := "tripTells", inPlace := ["internal/reflectlite.ValueOf", "(internal/reflectlite.Value).Type", "(internal/reflectlite.Value).IsNil", "internal/reflectlite.TypeOf", "(internal/reflectlite.Value).Elem", "(internal/reflectlite.Value).Set"], unfollowed := true, recurses := true, named := ["errors.errorType"], apart := false, laid := [("errors.errorType", laid_errors_errorType)] }
def TripTellsSaid : Prop := tripTellsRow.holds Tryd.pinned (OpenSpec.ofChange tripTellsSpec)

/-- ITS FALSE NEIGHBOUR: 'it returns false'. Refute it at one input. -/
def tripTellsWrong : ChangeSpec := { name := "tripTells", fn := fun _ => fun
  | [d1, d2, d3] => { results := [.lit (.bool false)], args := [d1, d2, d3] }
  | _ => none }
def TripTellsWrongFalsely : Prop := tripTellsRow.holds Tryd.pinned (OpenSpec.ofChange tripTellsWrong)

/-- 'wirelaw1.NumberTells': WHATEVER THE INPUT: true; the input reads as it did. -/
def numberTellsSpec : ChangeSpec := { name := "numberTells", fn := fun _ => fun
  | [d1, d2, d3, d4, d5] => { results := [.lit (.bool true)], args := [d1, d2, d3, d4, d5] }
  | _ => none }
def numberTellsRow : OpenClaim := { program := "ytmofahmkgignaaadoor", sum := "40570ae83e4ee3f0ba431f560b840f79e406621a210b358b0f26b5f2395b004b", func := "wanderwire/wirelaw1.NumberTells", spec := "numberTells", inPlace := ["internal/reflectlite.ValueOf", "(internal/reflectlite.Value).Type", "(internal/reflectlite.Value).IsNil", "internal/reflectlite.TypeOf", "(internal/reflectlite.Value).Elem", "(internal/reflectlite.Value).Set"], unfollowed := true, recurses := true, named := ["errors.errorType"], apart := false, laid := [("errors.errorType", laid_errors_errorType)] }
def NumberTellsSaid : Prop := numberTellsRow.holds Tryd.pinned (OpenSpec.ofChange numberTellsSpec)

/-- ITS FALSE NEIGHBOUR: 'it returns false'. Refute it at one input. -/
def numberTellsWrong : ChangeSpec := { name := "numberTells", fn := fun _ => fun
  | [d1, d2, d3, d4, d5] => { results := [.lit (.bool false)], args := [d1, d2, d3, d4, d5] }
  | _ => none }
def NumberTellsWrongFalsely : Prop := numberTellsRow.holds Tryd.pinned (OpenSpec.ofChange numberTellsWrong)

/-- 'wirelaw4.VarintShort': WHATEVER THE INPUT: true; the input reads as it did. -/
def varintShortSpec : ChangeSpec := { name := "varintShort", fn := fun _ => fun
  | [d1, d2] => { results := [.lit (.bool true)], args := [d1, d2] }
  | _ => none }
def varintShortRow : OpenClaim := { program := "ytmofahmkgignaaadoor", sum := "40570ae83e4ee3f0ba431f560b840f79e406621a210b358b0f26b5f2395b004b", func := "wanderwire/wirelaw4.VarintShort", spec := "varintShort", unfollowed := true, recurses := true, named := ["wanderwire/varint.kinds"], apart := false, laid := [("wanderwire/varint.kinds", laid_wanderwire_varint_kinds)] }
def VarintShortSaid : Prop := varintShortRow.holds Tryd.pinned (OpenSpec.ofChange varintShortSpec)

/-- ITS FALSE NEIGHBOUR: 'it returns false'. Refute it at one input. -/
def varintShortWrong : ChangeSpec := { name := "varintShort", fn := fun _ => fun
  | [d1, d2] => { results := [.lit (.bool false)], args := [d1, d2] }
  | _ => none }
def VarintShortWrongFalsely : Prop := varintShortRow.holds Tryd.pinned (OpenSpec.ofChange varintShortWrong)

/-- 'wirelaw1.VarintBack': WHATEVER THE INPUT: true; the input reads as it did. -/
def varintBackSpec : ChangeSpec := { name := "varintBack", fn := fun _ => fun
  | [d1, d2, d3, d4] => { results := [.lit (.bool true)], args := [d1, d2, d3, d4] }
  | _ => none }
def varintBackRow : OpenClaim := { program := "ytmofahmkgignaaadoor", sum := "40570ae83e4ee3f0ba431f560b840f79e406621a210b358b0f26b5f2395b004b", func := "wanderwire/wirelaw1.VarintBack", spec := "varintBack", inPlace := ["internal/abi.NoEscape"], unfollowed := true, recurses := true, named := ["wanderwire/varint.kinds"], apart := false, laid := [("wanderwire/varint.kinds", laid_wanderwire_varint_kinds)] }
def VarintBackSaid : Prop := varintBackRow.holds Tryd.pinned (OpenSpec.ofChange varintBackSpec)

/-- ITS FALSE NEIGHBOUR: 'it returns false'. Refute it at one input. -/
def varintBackWrong : ChangeSpec := { name := "varintBack", fn := fun _ => fun
  | [d1, d2, d3, d4] => { results := [.lit (.bool false)], args := [d1, d2, d3, d4] }
  | _ => none }
def VarintBackWrongFalsely : Prop := varintBackRow.holds Tryd.pinned (OpenSpec.ofChange varintBackWrong)

/-- 'wirelaw1.VarintTells': WHATEVER THE INPUT: true; the input reads as it did. -/
def varintTellsSpec : ChangeSpec := { name := "varintTells", fn := fun _ => fun
  | [d1, d2, d3] => { results := [.lit (.bool true)], args := [d1, d2, d3] }
  | _ => none }
def varintTellsRow : OpenClaim := { program := "ytmofahmkgignaaadoor", sum := "40570ae83e4ee3f0ba431f560b840f79e406621a210b358b0f26b5f2395b004b", func := "wanderwire/wirelaw1.VarintTells", spec := "varintTells", inPlace := ["internal/reflectlite.ValueOf", "(internal/reflectlite.Value).Type", "(internal/reflectlite.Value).IsNil", "internal/reflectlite.TypeOf", "(internal/reflectlite.Value).Elem", "(internal/reflectlite.Value).Set", "internal/abi.NoEscape"], unfollowed := true, recurses := true, named := ["wanderwire/varint.kinds", "errors.errorType"], apart := false, laid := [("errors.errorType", laid_errors_errorType), ("wanderwire/varint.kinds", laid_wanderwire_varint_kinds)] }
def VarintTellsSaid : Prop := varintTellsRow.holds Tryd.pinned (OpenSpec.ofChange varintTellsSpec)

/-- ITS FALSE NEIGHBOUR: 'it returns false'. Refute it at one input. -/
def varintTellsWrong : ChangeSpec := { name := "varintTells", fn := fun _ => fun
  | [d1, d2, d3] => { results := [.lit (.bool false)], args := [d1, d2, d3] }
  | _ => none }
def VarintTellsWrongFalsely : Prop := varintTellsRow.holds Tryd.pinned (OpenSpec.ofChange varintTellsWrong)

/-- 'wirelaw1.PathThrice': WHATEVER THE INPUT: true; the input reads as it did. -/
def pathThriceSpec : ChangeSpec := { name := "pathThrice", fn := fun _ => fun
  | [d] => { results := [.lit (.bool true)], args := [d] }
  | _ => none }
def pathThriceRow : OpenClaim := { program := "ytmofahmkgignaaadoor", sum := "40570ae83e4ee3f0ba431f560b840f79e406621a210b358b0f26b5f2395b004b", func := "wanderwire/wirelaw1.PathThrice", spec := "pathThrice", inPlace := ["internal/reflectlite.ValueOf", "(internal/reflectlite.Value).Type", "(internal/reflectlite.Value).IsNil", "internal/reflectlite.TypeOf", "(internal/reflectlite.Value).Elem", "(internal/reflectlite.Value).Set"], unfollowed := true, recurses := true, named := ["errors.errorType"], apart := false, laid := [("errors.errorType", laid_errors_errorType)] }
def PathThriceSaid : Prop := pathThriceRow.holds Tryd.pinned (OpenSpec.ofChange pathThriceSpec)

/-- ITS FALSE NEIGHBOUR: 'it returns false'. Refute it at one input. -/
def pathThriceWrong : ChangeSpec := { name := "pathThrice", fn := fun _ => fun
  | [d] => { results := [.lit (.bool false)], args := [d] }
  | _ => none }
def PathThriceWrongFalsely : Prop := pathThriceRow.holds Tryd.pinned (OpenSpec.ofChange pathThriceWrong)

/-- 'wirelaw1.PathTells': WHATEVER THE INPUT: true; the input reads as it did. -/
def pathTellsSpec : ChangeSpec := { name := "pathTells", fn := fun _ => fun
  | [d1, d2] => { results := [.lit (.bool true)], args := [d1, d2] }
  | _ => none }
def pathTellsRow : OpenClaim := { program := "ytmofahmkgignaaadoor", sum := "40570ae83e4ee3f0ba431f560b840f79e406621a210b358b0f26b5f2395b004b", func := "wanderwire/wirelaw1.PathTells", spec := "pathTells", inPlace := ["internal/reflectlite.ValueOf", "(internal/reflectlite.Value).Type", "(internal/reflectlite.Value).IsNil", "internal/reflectlite.TypeOf", "(internal/reflectlite.Value).Elem", "(internal/reflectlite.Value).Set"], unfollowed := true, recurses := true, named := ["errors.errorType"], apart := false, laid := [("errors.errorType", laid_errors_errorType)] }
def PathTellsSaid : Prop := pathTellsRow.holds Tryd.pinned (OpenSpec.ofChange pathTellsSpec)

/-- ITS FALSE NEIGHBOUR: 'it returns false'. Refute it at one input. -/
def pathTellsWrong : ChangeSpec := { name := "pathTells", fn := fun _ => fun
  | [d1, d2] => { results := [.lit (.bool false)], args := [d1, d2] }
  | _ => none }
def PathTellsWrongFalsely : Prop := pathTellsRow.holds Tryd.pinned (OpenSpec.ofChange pathTellsWrong)

/-- 'wirelaw4.PathKnown': WHATEVER THE INPUT: true; the input reads as it did. -/
def pathKnownSpec : ChangeSpec := { name := "pathKnown", fn := fun _ => fun
  | [d1, d2] => { results := [.lit (.bool true)], args := [d1, d2] }
  | _ => none }
def pathKnownRow : OpenClaim := { program := "ytmofahmkgignaaadoor", sum := "40570ae83e4ee3f0ba431f560b840f79e406621a210b358b0f26b5f2395b004b", func := "wanderwire/wirelaw4.PathKnown", spec := "pathKnown", inPlace := ["internal/reflectlite.ValueOf", "(internal/reflectlite.Value).Type", "(internal/reflectlite.Value).IsNil", "internal/reflectlite.TypeOf", "(internal/reflectlite.Value).Elem", "(internal/reflectlite.Value).Set"], unfollowed := true, recurses := true, named := ["errors.errorType"], apart := false, laid := [("errors.errorType", laid_errors_errorType)] }
def PathKnownSaid : Prop := pathKnownRow.holds Tryd.pinned (OpenSpec.ofChange pathKnownSpec)

/-- ITS FALSE NEIGHBOUR: 'it returns false'. Refute it at one input. -/
def pathKnownWrong : ChangeSpec := { name := "pathKnown", fn := fun _ => fun
  | [d1, d2] => { results := [.lit (.bool false)], args := [d1, d2] }
  | _ => none }
def PathKnownWrongFalsely : Prop := pathKnownRow.holds Tryd.pinned (OpenSpec.ofChange pathKnownWrong)

/- THE SECOND FORM. 'bulk': how many values and letters a reading holds, each counted each time it is reached (what is shared counts as often as it is met; a slice's spare places count too). A statement '..UptoSaid' is the law's where the arguments, and the package variables that the reading takes, are together of bulk at most 1048576: NARROWER than '..Said'. Prove '..Said' where nothing that the law and all that it calls make is longer than what came in: it says more and counts as full. Else prove '..UptoSaid'. A law counts once. -/
mutual
def uptoBulk {H : Type} : DataW H → Nat
  | .lit (.string bytes) => bytes.length + 1
  | .lit _ => 1
  | .nil => 1
  | .ptr d => uptoBulk d + 1
  | .slice elems spare => uptoBulkAll elems + uptoBulkAll spare + 1
  | .agg parts => uptoBulkAll parts + 1
  | .iface _ d => uptoBulk d + 1
  | .map entries => uptoBulkEntries entries + 1
  | .held _ => 1
def uptoBulkAll {H : Type} : List (DataW H) → Nat
  | [] => 0
  | d :: r => uptoBulk d + uptoBulkAll r
def uptoBulkEntries {H : Type} : List (Lit × DataW H) → Nat
  | [] => 0
  | x :: r => uptoBulkEntry x + uptoBulkEntries r
def uptoBulkEntry {H : Type} : Lit × DataW H → Nat
  | (.string bytes, d) => bytes.length + uptoBulk d + 1
  | (_, d) => uptoBulk d + 1
 end
def uptoSmall : (H : Type) → List (DataW H) → Bool := fun _ ds => decide (uptoBulkAll ds ≤ 1048576)
def OpenSpec.upto (s : _root_.Go.ChangeSpec) : _root_.Go.OpenSpec := { _root_.Go.OpenSpec.ofChange s with cond := some uptoSmall }

/-- 'wirelaw1.TripTells', WHERE WHAT IT READS IS OF BULK AT MOST 1048576: true; the input reads as it did. -/
def tripTellsUptoRow : OpenClaim := { program := "ytmofahmkgignaaadoor", sum := "40570ae83e4ee3f0ba431f560b840f79e406621a210b358b0f26b5f2395b004b", func := "wanderwire/wirelaw1.TripTells", spec := "tripTells", inPlace := ["internal/reflectlite.ValueOf", "(internal/reflectlite.Value).Type", "(internal/reflectlite.Value).IsNil", "internal/reflectlite.TypeOf", "(internal/reflectlite.Value).Elem", "(internal/reflectlite.Value).Set"], unfollowed := true, recurses := true, named := ["errors.errorType"], apart := false, laid := [("errors.errorType", laid_errors_errorType)], narrowed := true }
def TripTellsUptoSaid : Prop := tripTellsUptoRow.holds Tryd.pinned (OpenSpec.upto tripTellsSpec)

/-- 'wirelaw1.NumberTells', WHERE WHAT IT READS IS OF BULK AT MOST 1048576: true; the input reads as it did. -/
def numberTellsUptoRow : OpenClaim := { program := "ytmofahmkgignaaadoor", sum := "40570ae83e4ee3f0ba431f560b840f79e406621a210b358b0f26b5f2395b004b", func := "wanderwire/wirelaw1.NumberTells", spec := "numberTells", inPlace := ["internal/reflectlite.ValueOf", "(internal/reflectlite.Value).Type", "(internal/reflectlite.Value).IsNil", "internal/reflectlite.TypeOf", "(internal/reflectlite.Value).Elem", "(internal/reflectlite.Value).Set"], unfollowed := true, recurses := true, named := ["errors.errorType"], apart := false, laid := [("errors.errorType", laid_errors_errorType)], narrowed := true }
def NumberTellsUptoSaid : Prop := numberTellsUptoRow.holds Tryd.pinned (OpenSpec.upto numberTellsSpec)

/-- 'wirelaw4.VarintShort', WHERE WHAT IT READS IS OF BULK AT MOST 1048576: true; the input reads as it did. -/
def varintShortUptoRow : OpenClaim := { program := "ytmofahmkgignaaadoor", sum := "40570ae83e4ee3f0ba431f560b840f79e406621a210b358b0f26b5f2395b004b", func := "wanderwire/wirelaw4.VarintShort", spec := "varintShort", unfollowed := true, recurses := true, named := ["wanderwire/varint.kinds"], apart := false, laid := [("wanderwire/varint.kinds", laid_wanderwire_varint_kinds)], narrowed := true }
def VarintShortUptoSaid : Prop := varintShortUptoRow.holds Tryd.pinned (OpenSpec.upto varintShortSpec)

/-- 'wirelaw1.VarintBack', WHERE WHAT IT READS IS OF BULK AT MOST 1048576: true; the input reads as it did. -/
def varintBackUptoRow : OpenClaim := { program := "ytmofahmkgignaaadoor", sum := "40570ae83e4ee3f0ba431f560b840f79e406621a210b358b0f26b5f2395b004b", func := "wanderwire/wirelaw1.VarintBack", spec := "varintBack", inPlace := ["internal/abi.NoEscape"], unfollowed := true, recurses := true, named := ["wanderwire/varint.kinds"], apart := false, laid := [("wanderwire/varint.kinds", laid_wanderwire_varint_kinds)], narrowed := true }
def VarintBackUptoSaid : Prop := varintBackUptoRow.holds Tryd.pinned (OpenSpec.upto varintBackSpec)

/-- 'wirelaw1.VarintTells', WHERE WHAT IT READS IS OF BULK AT MOST 1048576: true; the input reads as it did. -/
def varintTellsUptoRow : OpenClaim := { program := "ytmofahmkgignaaadoor", sum := "40570ae83e4ee3f0ba431f560b840f79e406621a210b358b0f26b5f2395b004b", func := "wanderwire/wirelaw1.VarintTells", spec := "varintTells", inPlace := ["internal/reflectlite.ValueOf", "(internal/reflectlite.Value).Type", "(internal/reflectlite.Value).IsNil", "internal/reflectlite.TypeOf", "(internal/reflectlite.Value).Elem", "(internal/reflectlite.Value).Set", "internal/abi.NoEscape"], unfollowed := true, recurses := true, named := ["wanderwire/varint.kinds", "errors.errorType"], apart := false, laid := [("errors.errorType", laid_errors_errorType), ("wanderwire/varint.kinds", laid_wanderwire_varint_kinds)], narrowed := true }
def VarintTellsUptoSaid : Prop := varintTellsUptoRow.holds Tryd.pinned (OpenSpec.upto varintTellsSpec)

/-- 'wirelaw1.PathThrice', WHERE WHAT IT READS IS OF BULK AT MOST 1048576: true; the input reads as it did. -/
def pathThriceUptoRow : OpenClaim := { program := "ytmofahmkgignaaadoor", sum := "40570ae83e4ee3f0ba431f560b840f79e406621a210b358b0f26b5f2395b004b", func := "wanderwire/wirelaw1.PathThrice", spec := "pathThrice", inPlace := ["internal/reflectlite.ValueOf", "(internal/reflectlite.Value).Type", "(internal/reflectlite.Value).IsNil", "internal/reflectlite.TypeOf", "(internal/reflectlite.Value).Elem", "(internal/reflectlite.Value).Set"], unfollowed := true, recurses := true, named := ["errors.errorType"], apart := false, laid := [("errors.errorType", laid_errors_errorType)], narrowed := true }
def PathThriceUptoSaid : Prop := pathThriceUptoRow.holds Tryd.pinned (OpenSpec.upto pathThriceSpec)

/-- 'wirelaw1.PathTells', WHERE WHAT IT READS IS OF BULK AT MOST 1048576: true; the input reads as it did. -/
def pathTellsUptoRow : OpenClaim := { program := "ytmofahmkgignaaadoor", sum := "40570ae83e4ee3f0ba431f560b840f79e406621a210b358b0f26b5f2395b004b", func := "wanderwire/wirelaw1.PathTells", spec := "pathTells", inPlace := ["internal/reflectlite.ValueOf", "(internal/reflectlite.Value).Type", "(internal/reflectlite.Value).IsNil", "internal/reflectlite.TypeOf", "(internal/reflectlite.Value).Elem", "(internal/reflectlite.Value).Set"], unfollowed := true, recurses := true, named := ["errors.errorType"], apart := false, laid := [("errors.errorType", laid_errors_errorType)], narrowed := true }
def PathTellsUptoSaid : Prop := pathTellsUptoRow.holds Tryd.pinned (OpenSpec.upto pathTellsSpec)

/-- 'wirelaw4.PathKnown', WHERE WHAT IT READS IS OF BULK AT MOST 1048576: true; the input reads as it did. -/
def pathKnownUptoRow : OpenClaim := { program := "ytmofahmkgignaaadoor", sum := "40570ae83e4ee3f0ba431f560b840f79e406621a210b358b0f26b5f2395b004b", func := "wanderwire/wirelaw4.PathKnown", spec := "pathKnown", inPlace := ["internal/reflectlite.ValueOf", "(internal/reflectlite.Value).Type", "(internal/reflectlite.Value).IsNil", "internal/reflectlite.TypeOf", "(internal/reflectlite.Value).Elem", "(internal/reflectlite.Value).Set"], unfollowed := true, recurses := true, named := ["errors.errorType"], apart := false, laid := [("errors.errorType", laid_errors_errorType)], narrowed := true }
def PathKnownUptoSaid : Prop := pathKnownUptoRow.holds Tryd.pinned (OpenSpec.upto pathKnownSpec)

end Rows
end Go.Proofs.YtmofahmkgignaaaDoor
