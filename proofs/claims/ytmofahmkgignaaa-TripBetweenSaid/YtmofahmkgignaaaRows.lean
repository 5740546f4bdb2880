/-
  No cell of these rows narrows 'for every input' (looked for: loops, veiled, ifaces, maps, wideKeys, modest, calm, conditions, laid).
  DERIVED. THE GIVEN ROWS OF THIS SEAT. 5 by the template 'for every input the law returns true; each argument reads behind the call as it read before'; 0 by the template 'total and deterministic' (their statements: YtmofahmkgignaaaTotals.lean).
  GIVEN WITH THE SEED: the statements are not yours to turn. If you find one false, say at which input.
  Laid BY PROGRAM, IN A SANDBOX (cutbox-rows.mjs): the forced cells as the released guide's own fill.sh prints them over the translation 9467febb5c656069… (all of the seat's roots in one cut). By AI agents, Wed Nov 11 2026. No macro, syntax, notation, axiom, sorry.
-/
import Derived.Test.YtmofahmkgignaaaChecked
import GoSem.Claim
import GoSem.ClaimJoined
import GoSem.ClaimMapViews
import Derived.JoinedTies
import Derived.KernelRfl
namespace Go.Proofs.Ytmofahmkgignaaa
/- THE CELL 'sum', in the pinned program and in every row, IS THE sha256 OF THE DUMP (.gsa) THAT YtmofahmkgignaaaProg.lean LOADS. Nothing in Lean hashes anything: it is a label: what it is worth is what the hold of that sum in a sandbox is worth. -/
noncomputable def Try.pinned : Pinned := { name := "ytmofahmkgignaaa", sum := "9467febb5c656069c96fe64c3a531016702b1de9345f64eb4b9c09ec27861258", checked := Try.checked }
namespace Rows
def none {H : Type} : Left H := { results := [], args := [] }

/-- 'wirelaw1.Names': WHATEVER THE INPUT: true; the input reads as it did. -/
def namesSpec : ChangeSpec := { name := "names", fn := fun _ => fun
  | [] => { results := [.lit (.bool true)], args := [] }
  | _ => none }
def namesRow : OpenClaim := { program := "ytmofahmkgignaaa", sum := "9467febb5c656069c96fe64c3a531016702b1de9345f64eb4b9c09ec27861258", func := "wanderwire/wirelaw1.Names", spec := "names", apart := false }
def NamesSaid : Prop := namesRow.holds Try.pinned (OpenSpec.ofChange namesSpec)

/-- ITS FALSE NEIGHBOUR: 'it returns false'. Refute it at one input. -/
def namesWrong : ChangeSpec := { name := "names", fn := fun _ => fun
  | [] => { results := [.lit (.bool false)], args := [] }
  | _ => none }
def NamesWrongFalsely : Prop := namesRow.holds Try.pinned (OpenSpec.ofChange namesWrong)

/-- 'wirelaw4.TripSame': WHATEVER THE INPUT: true; the input reads as it did. -/
def tripSameSpec : ChangeSpec := { name := "tripSame", fn := fun _ => fun
  | [d1, d2] => { results := [.lit (.bool true)], args := [d1, d2] }
  | _ => none }
def tripSameRow : OpenClaim := { program := "ytmofahmkgignaaa", sum := "9467febb5c656069c96fe64c3a531016702b1de9345f64eb4b9c09ec27861258", func := "wanderwire/wirelaw4.TripSame", spec := "tripSame", apart := false }
def TripSameSaid : Prop := tripSameRow.holds Try.pinned (OpenSpec.ofChange tripSameSpec)

/-- ITS FALSE NEIGHBOUR: 'it returns false'. Refute it at one input. -/
def tripSameWrong : ChangeSpec := { name := "tripSame", fn := fun _ => fun
  | [d1, d2] => { results := [.lit (.bool false)], args := [d1, d2] }
  | _ => none }
def TripSameWrongFalsely : Prop := tripSameRow.holds Try.pinned (OpenSpec.ofChange tripSameWrong)

/-- 'wirelaw1.TripBetween': WHATEVER THE INPUT: true; the input reads as it did. -/
def tripBetweenSpec : ChangeSpec := { name := "tripBetween", fn := fun _ => fun
  | [d1, d2] => { results := [.lit (.bool true)], args := [d1, d2] }
  | _ => none }
def tripBetweenRow : OpenClaim := { program := "ytmofahmkgignaaa", sum := "9467febb5c656069c96fe64c3a531016702b1de9345f64eb4b9c09ec27861258", func := "wanderwire/wirelaw1.TripBetween", spec := "tripBetween", apart := false }
def TripBetweenSaid : Prop := tripBetweenRow.holds Try.pinned (OpenSpec.ofChange tripBetweenSpec)

/-- ITS FALSE NEIGHBOUR: 'it returns false'. Refute it at one input. -/
def tripBetweenWrong : ChangeSpec := { name := "tripBetween", fn := fun _ => fun
  | [d1, d2] => { results := [.lit (.bool false)], args := [d1, d2] }
  | _ => none }
def TripBetweenWrongFalsely : Prop := tripBetweenRow.holds Try.pinned (OpenSpec.ofChange tripBetweenWrong)

/-- 'wirelaw1.NumberWhole': WHATEVER THE INPUT: true; the input reads as it did. -/
def numberWholeSpec : ChangeSpec := { name := "numberWhole", fn := fun _ => fun
  | [d1, d2, d3, d4, d5, d6] => { results := [.lit (.bool true)], args := [d1, d2, d3, d4, d5, d6] }
  | _ => none }
def numberWholeRow : OpenClaim := { program := "ytmofahmkgignaaa", sum := "9467febb5c656069c96fe64c3a531016702b1de9345f64eb4b9c09ec27861258", func := "wanderwire/wirelaw1.NumberWhole", spec := "numberWhole", apart := false }
def NumberWholeSaid : Prop := numberWholeRow.holds Try.pinned (OpenSpec.ofChange numberWholeSpec)

/-- ITS FALSE NEIGHBOUR: 'it returns false'. Refute it at one input. -/
def numberWholeWrong : ChangeSpec := { name := "numberWhole", fn := fun _ => fun
  | [d1, d2, d3, d4, d5, d6] => { results := [.lit (.bool false)], args := [d1, d2, d3, d4, d5, d6] }
  | _ => none }
def NumberWholeWrongFalsely : Prop := numberWholeRow.holds Try.pinned (OpenSpec.ofChange numberWholeWrong)

/-- 'wirelaw4.NumberNext': WHATEVER THE INPUT: true; the input reads as it did. -/
def numberNextSpec : ChangeSpec := { name := "numberNext", fn := fun _ => fun
  | [d] => { results := [.lit (.bool true)], args := [d] }
  | _ => none }
def numberNextRow : OpenClaim := { program := "ytmofahmkgignaaa", sum := "9467febb5c656069c96fe64c3a531016702b1de9345f64eb4b9c09ec27861258", func := "wanderwire/wirelaw4.NumberNext", spec := "numberNext", apart := false }
def NumberNextSaid : Prop := numberNextRow.holds Try.pinned (OpenSpec.ofChange numberNextSpec)

/-- ITS FALSE NEIGHBOUR: 'it returns false'. Refute it at one input. -/
def numberNextWrong : ChangeSpec := { name := "numberNext", fn := fun _ => fun
  | [d] => { results := [.lit (.bool false)], args := [d] }
  | _ => none }
def NumberNextWrongFalsely : Prop := numberNextRow.holds Try.pinned (OpenSpec.ofChange numberNextWrong)

/- THE SECOND FORM. 'bulk': how many values and letters a reading holds, each counted each time it is reached (what is shared counts as often as it is met; a slice's spare places count too). A statement '..UptoSaid' is the law's where the arguments, and the package variables that the reading takes, are together of bulk at most 1048576: NARROWER than '..Said'. Prove '..Said' where nothing that the law and all that it calls make is longer than what came in: it says more and counts as full. Else prove '..UptoSaid'. A law counts once. -/
mutual
def uptoBulk {H : Type} : DataW H → Nat
  | .lit (.string bytes) => bytes.length + 1
  | .lit _ => 1
  | .nil => 1
  | .ptr d => uptoBulk d + 1
  | .slice elems spare => uptoBulkAll elems + uptoBulkAll spare + 1
  | .agg parts => uptoBulkAll parts + 1
  | .iface _ d => uptoBulk d + 1
  | .map entries => uptoBulkEntries entries + 1
  | .held _ => 1
def uptoBulkAll {H : Type} : List (DataW H) → Nat
  | [] => 0
  | d :: r => uptoBulk d + uptoBulkAll r
def uptoBulkEntries {H : Type} : List (Lit × DataW H) → Nat
  | [] => 0
  | x :: r => uptoBulkEntry x + uptoBulkEntries r
def uptoBulkEntry {H : Type} : Lit × DataW H → Nat
  | (.string bytes, d) => bytes.length + uptoBulk d + 1
  | (_, d) => uptoBulk d + 1
 end
def uptoSmall : (H : Type) → List (DataW H) → Bool := fun _ ds => decide (uptoBulkAll ds ≤ 1048576)
def OpenSpec.upto (s : _root_.Go.ChangeSpec) : _root_.Go.OpenSpec := { _root_.Go.OpenSpec.ofChange s with cond := some uptoSmall }

/-- 'wirelaw1.Names', WHERE WHAT IT READS IS OF BULK AT MOST 1048576: true; the input reads as it did. -/
def namesUptoRow : OpenClaim := { program := "ytmofahmkgignaaa", sum := "9467febb5c656069c96fe64c3a531016702b1de9345f64eb4b9c09ec27861258", func := "wanderwire/wirelaw1.Names", spec := "names", apart := false, narrowed := true }
def NamesUptoSaid : Prop := namesUptoRow.holds Try.pinned (OpenSpec.upto namesSpec)

/-- 'wirelaw4.TripSame', WHERE WHAT IT READS IS OF BULK AT MOST 1048576: true; the input reads as it did. -/
def tripSameUptoRow : OpenClaim := { program := "ytmofahmkgignaaa", sum := "9467febb5c656069c96fe64c3a531016702b1de9345f64eb4b9c09ec27861258", func := "wanderwire/wirelaw4.TripSame", spec := "tripSame", apart := false, narrowed := true }
def TripSameUptoSaid : Prop := tripSameUptoRow.holds Try.pinned (OpenSpec.upto tripSameSpec)

/-- 'wirelaw1.TripBetween', WHERE WHAT IT READS IS OF BULK AT MOST 1048576: true; the input reads as it did. -/
def tripBetweenUptoRow : OpenClaim := { program := "ytmofahmkgignaaa", sum := "9467febb5c656069c96fe64c3a531016702b1de9345f64eb4b9c09ec27861258", func := "wanderwire/wirelaw1.TripBetween", spec := "tripBetween", apart := false, narrowed := true }
def TripBetweenUptoSaid : Prop := tripBetweenUptoRow.holds Try.pinned (OpenSpec.upto tripBetweenSpec)

/-- 'wirelaw1.NumberWhole', WHERE WHAT IT READS IS OF BULK AT MOST 1048576: true; the input reads as it did. -/
def numberWholeUptoRow : OpenClaim := { program := "ytmofahmkgignaaa", sum := "9467febb5c656069c96fe64c3a531016702b1de9345f64eb4b9c09ec27861258", func := "wanderwire/wirelaw1.NumberWhole", spec := "numberWhole", apart := false, narrowed := true }
def NumberWholeUptoSaid : Prop := numberWholeUptoRow.holds Try.pinned (OpenSpec.upto numberWholeSpec)

/-- 'wirelaw4.NumberNext', WHERE WHAT IT READS IS OF BULK AT MOST 1048576: true; the input reads as it did. -/
def numberNextUptoRow : OpenClaim := { program := "ytmofahmkgignaaa", sum := "9467febb5c656069c96fe64c3a531016702b1de9345f64eb4b9c09ec27861258", func := "wanderwire/wirelaw4.NumberNext", spec := "numberNext", apart := false, narrowed := true }
def NumberNextUptoSaid : Prop := numberNextUptoRow.holds Try.pinned (OpenSpec.upto numberNextSpec)

end Rows
end Go.Proofs.Ytmofahmkgignaaa
