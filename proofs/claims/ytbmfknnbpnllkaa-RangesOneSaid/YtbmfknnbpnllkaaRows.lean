/-
  No cell of these rows narrows 'for every input' (looked for: loops, veiled, ifaces, maps, wideKeys, modest, calm, conditions, laid).
  DERIVED. THE GIVEN ROWS OF THIS SEAT. 5 by the template 'for every input the law returns true; each argument reads behind the call as it read before'; 0 by the template 'total and deterministic' (their statements: YtbmfknnbpnllkaaTotals.lean).
  GIVEN WITH THE SEED: the statements are not yours to turn. If you find one false, say at which input.
  Laid BY PROGRAM, IN A SANDBOX (cutbox-rows.mjs): the forced cells as the released guide's own fill.sh prints them over the translation 85bbd90d4c5780e7… (all of the seat's roots in one cut). By AI agents, Wed Nov 11 2026. No macro, syntax, notation, axiom, sorry.
-/
import Derived.Test.YtbmfknnbpnllkaaChecked
import GoSem.Claim
import GoSem.ClaimJoined
import GoSem.ClaimMapViews
import Derived.JoinedTies
import Derived.KernelRfl
namespace Go.Proofs.Ytbmfknnbpnllkaa
/- THE CELL 'sum', in the pinned program and in every row, IS THE sha256 OF THE DUMP (.gsa) THAT YtbmfknnbpnllkaaProg.lean LOADS. Nothing in Lean hashes anything: it is a label: what it is worth is what the hold of that sum in a sandbox is worth. -/
noncomputable def Try.pinned : Pinned := { name := "ytbmfknnbpnllkaa", sum := "85bbd90d4c5780e7abc761ba71703dc3135f4dcfc219c48e57f148322da081fb", checked := Try.checked }
namespace Rows
def none {H : Type} : Left H := { results := [], args := [] }

/-- 'wirelaw4.StreamGap': WHATEVER THE INPUT: true; the input reads as it did. -/
def streamGapSpec : ChangeSpec := { name := "streamGap", fn := fun _ => fun
  | [d1, d2] => { results := [.lit (.bool true)], args := [d1, d2] }
  | _ => none }
def streamGapRow : OpenClaim := { program := "ytbmfknnbpnllkaa", sum := "85bbd90d4c5780e7abc761ba71703dc3135f4dcfc219c48e57f148322da081fb", func := "wanderwire/wirelaw4.StreamGap", spec := "streamGap", apart := false }
def StreamGapSaid : Prop := streamGapRow.holds Try.pinned (OpenSpec.ofChange streamGapSpec)

/-- ITS FALSE NEIGHBOUR: 'it returns false'. Refute it at one input. -/
def streamGapWrong : ChangeSpec := { name := "streamGap", fn := fun _ => fun
  | [d1, d2] => { results := [.lit (.bool false)], args := [d1, d2] }
  | _ => none }
def StreamGapWrongFalsely : Prop := streamGapRow.holds Try.pinned (OpenSpec.ofChange streamGapWrong)

/-- 'wirelaw2.LinkKeeps': WHATEVER THE INPUT: true; the input reads as it did. -/
def linkKeepsSpec : ChangeSpec := { name := "linkKeeps", fn := fun _ => fun
  | [d1, d2] => { results := [.lit (.bool true)], args := [d1, d2] }
  | _ => none }
def linkKeepsRow : OpenClaim := { program := "ytbmfknnbpnllkaa", sum := "85bbd90d4c5780e7abc761ba71703dc3135f4dcfc219c48e57f148322da081fb", func := "wanderwire/wirelaw2.LinkKeeps", spec := "linkKeeps", apart := false }
def LinkKeepsSaid : Prop := linkKeepsRow.holds Try.pinned (OpenSpec.ofChange linkKeepsSpec)

/-- ITS FALSE NEIGHBOUR: 'it returns false'. Refute it at one input. -/
def linkKeepsWrong : ChangeSpec := { name := "linkKeeps", fn := fun _ => fun
  | [d1, d2] => { results := [.lit (.bool false)], args := [d1, d2] }
  | _ => none }
def LinkKeepsWrongFalsely : Prop := linkKeepsRow.holds Try.pinned (OpenSpec.ofChange linkKeepsWrong)

/-- 'wirelaw4.LossNone': WHATEVER THE INPUT: true; the input reads as it did. -/
def lossNoneSpec : ChangeSpec := { name := "lossNone", fn := fun _ => fun
  | [d1, d2, d3] => { results := [.lit (.bool true)], args := [d1, d2, d3] }
  | _ => none }
def lossNoneRow : OpenClaim := { program := "ytbmfknnbpnllkaa", sum := "85bbd90d4c5780e7abc761ba71703dc3135f4dcfc219c48e57f148322da081fb", func := "wanderwire/wirelaw4.LossNone", spec := "lossNone", unfollowed := true, recurses := true, apart := false }
def LossNoneSaid : Prop := lossNoneRow.holds Try.pinned (OpenSpec.ofChange lossNoneSpec)

/-- ITS FALSE NEIGHBOUR: 'it returns false'. Refute it at one input. -/
def lossNoneWrong : ChangeSpec := { name := "lossNone", fn := fun _ => fun
  | [d1, d2, d3] => { results := [.lit (.bool false)], args := [d1, d2, d3] }
  | _ => none }
def LossNoneWrongFalsely : Prop := lossNoneRow.holds Try.pinned (OpenSpec.ofChange lossNoneWrong)

/-- 'wirelaw2.LossNever': WHATEVER THE INPUT: true; the input reads as it did. -/
def lossNeverSpec : ChangeSpec := { name := "lossNever", fn := fun _ => fun
  | [d1, d2, d3, d4, d5] => { results := [.lit (.bool true)], args := [d1, d2, d3, d4, d5] }
  | _ => none }
def lossNeverRow : OpenClaim := { program := "ytbmfknnbpnllkaa", sum := "85bbd90d4c5780e7abc761ba71703dc3135f4dcfc219c48e57f148322da081fb", func := "wanderwire/wirelaw2.LossNever", spec := "lossNever", unfollowed := true, recurses := true, apart := false }
def LossNeverSaid : Prop := lossNeverRow.holds Try.pinned (OpenSpec.ofChange lossNeverSpec)

/-- ITS FALSE NEIGHBOUR: 'it returns false'. Refute it at one input. -/
def lossNeverWrong : ChangeSpec := { name := "lossNever", fn := fun _ => fun
  | [d1, d2, d3, d4, d5] => { results := [.lit (.bool false)], args := [d1, d2, d3, d4, d5] }
  | _ => none }
def LossNeverWrongFalsely : Prop := lossNeverRow.holds Try.pinned (OpenSpec.ofChange lossNeverWrong)

/-- 'wirelaw4.RangesOne': WHATEVER THE INPUT: true; the input reads as it did. -/
def rangesOneSpec : ChangeSpec := { name := "rangesOne", fn := fun _ => fun
  | [d] => { results := [.lit (.bool true)], args := [d] }
  | _ => none }
def rangesOneRow : OpenClaim := { program := "ytbmfknnbpnllkaa", sum := "85bbd90d4c5780e7abc761ba71703dc3135f4dcfc219c48e57f148322da081fb", func := "wanderwire/wirelaw4.RangesOne", spec := "rangesOne", unfollowed := true, recurses := true, apart := false }
def RangesOneSaid : Prop := rangesOneRow.holds Try.pinned (OpenSpec.ofChange rangesOneSpec)

/-- ITS FALSE NEIGHBOUR: 'it returns false'. Refute it at one input. -/
def rangesOneWrong : ChangeSpec := { name := "rangesOne", fn := fun _ => fun
  | [d] => { results := [.lit (.bool false)], args := [d] }
  | _ => none }
def RangesOneWrongFalsely : Prop := rangesOneRow.holds Try.pinned (OpenSpec.ofChange rangesOneWrong)

/- THE SECOND FORM. 'bulk': how many values and letters a reading holds, each counted each time it is reached (what is shared counts as often as it is met; a slice's spare places count too). A statement '..UptoSaid' is the law's where the arguments, and the package variables that the reading takes, are together of bulk at most 1048576: NARROWER than '..Said'. Prove '..Said' where nothing that the law and all that it calls make is longer than what came in: it says more and counts as full. Else prove '..UptoSaid'. A law counts once. -/
mutual
def uptoBulk {H : Type} : DataW H → Nat
  | .lit (.string bytes) => bytes.length + 1
  | .lit _ => 1
  | .nil => 1
  | .ptr d => uptoBulk d + 1
  | .slice elems spare => uptoBulkAll elems + uptoBulkAll spare + 1
  | .agg parts => uptoBulkAll parts + 1
  | .iface _ d => uptoBulk d + 1
  | .map entries => uptoBulkEntries entries + 1
  | .held _ => 1
def uptoBulkAll {H : Type} : List (DataW H) → Nat
  | [] => 0
  | d :: r => uptoBulk d + uptoBulkAll r
def uptoBulkEntries {H : Type} : List (Lit × DataW H) → Nat
  | [] => 0
  | x :: r => uptoBulkEntry x + uptoBulkEntries r
def uptoBulkEntry {H : Type} : Lit × DataW H → Nat
  | (.string bytes, d) => bytes.length + uptoBulk d + 1
  | (_, d) => uptoBulk d + 1
 end
def uptoSmall : (H : Type) → List (DataW H) → Bool := fun _ ds => decide (uptoBulkAll ds ≤ 1048576)
def OpenSpec.upto (s : _root_.Go.ChangeSpec) : _root_.Go.OpenSpec := { _root_.Go.OpenSpec.ofChange s with cond := some uptoSmall }

/-- 'wirelaw4.StreamGap', WHERE WHAT IT READS IS OF BULK AT MOST 1048576: true; the input reads as it did. -/
def streamGapUptoRow : OpenClaim := { program := "ytbmfknnbpnllkaa", sum := "85bbd90d4c5780e7abc761ba71703dc3135f4dcfc219c48e57f148322da081fb", func := "wanderwire/wirelaw4.StreamGap", spec := "streamGap", apart := false, narrowed := true }
def StreamGapUptoSaid : Prop := streamGapUptoRow.holds Try.pinned (OpenSpec.upto streamGapSpec)

/-- 'wirelaw2.LinkKeeps', WHERE WHAT IT READS IS OF BULK AT MOST 1048576: true; the input reads as it did. -/
def linkKeepsUptoRow : OpenClaim := { program := "ytbmfknnbpnllkaa", sum := "85bbd90d4c5780e7abc761ba71703dc3135f4dcfc219c48e57f148322da081fb", func := "wanderwire/wirelaw2.LinkKeeps", spec := "linkKeeps", apart := false, narrowed := true }
def LinkKeepsUptoSaid : Prop := linkKeepsUptoRow.holds Try.pinned (OpenSpec.upto linkKeepsSpec)

/-- 'wirelaw4.LossNone', WHERE WHAT IT READS IS OF BULK AT MOST 1048576: true; the input reads as it did. -/
def lossNoneUptoRow : OpenClaim := { program := "ytbmfknnbpnllkaa", sum := "85bbd90d4c5780e7abc761ba71703dc3135f4dcfc219c48e57f148322da081fb", func := "wanderwire/wirelaw4.LossNone", spec := "lossNone", unfollowed := true, recurses := true, apart := false, narrowed := true }
def LossNoneUptoSaid : Prop := lossNoneUptoRow.holds Try.pinned (OpenSpec.upto lossNoneSpec)

/-- 'wirelaw2.LossNever', WHERE WHAT IT READS IS OF BULK AT MOST 1048576: true; the input reads as it did. -/
def lossNeverUptoRow : OpenClaim := { program := "ytbmfknnbpnllkaa", sum := "85bbd90d4c5780e7abc761ba71703dc3135f4dcfc219c48e57f148322da081fb", func := "wanderwire/wirelaw2.LossNever", spec := "lossNever", unfollowed := true, recurses := true, apart := false, narrowed := true }
def LossNeverUptoSaid : Prop := lossNeverUptoRow.holds Try.pinned (OpenSpec.upto lossNeverSpec)

/-- 'wirelaw4.RangesOne', WHERE WHAT IT READS IS OF BULK AT MOST 1048576: true; the input reads as it did. -/
def rangesOneUptoRow : OpenClaim := { program := "ytbmfknnbpnllkaa", sum := "85bbd90d4c5780e7abc761ba71703dc3135f4dcfc219c48e57f148322da081fb", func := "wanderwire/wirelaw4.RangesOne", spec := "rangesOne", unfollowed := true, recurses := true, apart := false, narrowed := true }
def RangesOneUptoSaid : Prop := rangesOneUptoRow.holds Try.pinned (OpenSpec.upto rangesOneSpec)

end Rows
end Go.Proofs.Ytbmfknnbpnllkaa
