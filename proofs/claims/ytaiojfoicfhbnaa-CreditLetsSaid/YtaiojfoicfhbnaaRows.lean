/-
  No cell of these rows narrows 'for every input' (looked for: loops, veiled, ifaces, maps, wideKeys, modest, calm, conditions, laid).
  DERIVED. THE GIVEN ROWS OF THIS SEAT. 3 by the template 'for every input the law returns true; each argument reads behind the call as it read before'; 0 by the template 'total and deterministic' (their statements: YtaiojfoicfhbnaaTotals.lean).
  GIVEN WITH THE SEED: the statements are not yours to turn. If you find one false, say at which input.
  Laid BY PROGRAM, IN A SANDBOX (cutbox-rows.mjs): the forced cells as the released guide's own fill.sh prints them over the translation 74d2215eccefd6fe… (all of the seat's roots in one cut). By AI agents, Wed Nov 11 2026. No macro, syntax, notation, axiom, sorry.
-/
import Derived.Test.YtaiojfoicfhbnaaChecked
import GoSem.Claim
import GoSem.ClaimJoined
import GoSem.ClaimMapViews
import Derived.JoinedTies
import Derived.KernelRfl
namespace Go.Proofs.Ytaiojfoicfhbnaa
/- THE CELL 'sum', in the pinned program and in every row, IS THE sha256 OF THE DUMP (.gsa) THAT YtaiojfoicfhbnaaProg.lean LOADS. Nothing in Lean hashes anything: it is a label: what it is worth is what the hold of that sum in a sandbox is worth. -/
noncomputable def Try.pinned : Pinned := { name := "ytaiojfoicfhbnaa", sum := "74d2215eccefd6fe5b4d2b92f208c8d0dcf99b936224e5cd2503017a6c2a3670", checked := Try.checked }
namespace Rows
def none {H : Type} : Left H := { results := [], args := [] }

/-- 'wirelaw1.CreditLets': WHATEVER THE INPUT: true; the input reads as it did. -/
def creditLetsSpec : ChangeSpec := { name := "creditLets", fn := fun _ => fun
  | [d1, d2] => { results := [.lit (.bool true)], args := [d1, d2] }
  | _ => none }
def creditLetsRow : OpenClaim := { program := "ytaiojfoicfhbnaa", sum := "74d2215eccefd6fe5b4d2b92f208c8d0dcf99b936224e5cd2503017a6c2a3670", func := "wanderwire/wirelaw1.CreditLets", spec := "creditLets", apart := false }
def CreditLetsSaid : Prop := creditLetsRow.holds Try.pinned (OpenSpec.ofChange creditLetsSpec)

/-- ITS FALSE NEIGHBOUR: 'it returns false'. Refute it at one input. -/
def creditLetsWrong : ChangeSpec := { name := "creditLets", fn := fun _ => fun
  | [d1, d2] => { results := [.lit (.bool false)], args := [d1, d2] }
  | _ => none }
def CreditLetsWrongFalsely : Prop := creditLetsRow.holds Try.pinned (OpenSpec.ofChange creditLetsWrong)

/-- 'wirelaw4.WindowThere': WHATEVER THE INPUT: true; the input reads as it did. -/
def windowThereSpec : ChangeSpec := { name := "windowThere", fn := fun _ => fun
  | [d1, d2] => { results := [.lit (.bool true)], args := [d1, d2] }
  | _ => none }
def windowThereRow : OpenClaim := { program := "ytaiojfoicfhbnaa", sum := "74d2215eccefd6fe5b4d2b92f208c8d0dcf99b936224e5cd2503017a6c2a3670", func := "wanderwire/wirelaw4.WindowThere", spec := "windowThere", apart := false }
def WindowThereSaid : Prop := windowThereRow.holds Try.pinned (OpenSpec.ofChange windowThereSpec)

/-- ITS FALSE NEIGHBOUR: 'it returns false'. Refute it at one input. -/
def windowThereWrong : ChangeSpec := { name := "windowThere", fn := fun _ => fun
  | [d1, d2] => { results := [.lit (.bool false)], args := [d1, d2] }
  | _ => none }
def WindowThereWrongFalsely : Prop := windowThereRow.holds Try.pinned (OpenSpec.ofChange windowThereWrong)

/-- 'wirelaw2.WindowHalf': WHATEVER THE INPUT: true; the input reads as it did. -/
def windowHalfSpec : ChangeSpec := { name := "windowHalf", fn := fun _ => fun
  | [d1, d2] => { results := [.lit (.bool true)], args := [d1, d2] }
  | _ => none }
def windowHalfRow : OpenClaim := { program := "ytaiojfoicfhbnaa", sum := "74d2215eccefd6fe5b4d2b92f208c8d0dcf99b936224e5cd2503017a6c2a3670", func := "wanderwire/wirelaw2.WindowHalf", spec := "windowHalf", apart := false }
def WindowHalfSaid : Prop := windowHalfRow.holds Try.pinned (OpenSpec.ofChange windowHalfSpec)

/-- ITS FALSE NEIGHBOUR: 'it returns false'. Refute it at one input. -/
def windowHalfWrong : ChangeSpec := { name := "windowHalf", fn := fun _ => fun
  | [d1, d2] => { results := [.lit (.bool false)], args := [d1, d2] }
  | _ => none }
def WindowHalfWrongFalsely : Prop := windowHalfRow.holds Try.pinned (OpenSpec.ofChange windowHalfWrong)

/- THE SECOND FORM. 'bulk': how many values and letters a reading holds, each counted each time it is reached (what is shared counts as often as it is met; a slice's spare places count too). A statement '..UptoSaid' is the law's where the arguments, and the package variables that the reading takes, are together of bulk at most 1048576: NARROWER than '..Said'. Prove '..Said' where nothing that the law and all that it calls make is longer than what came in: it says more and counts as full. Else prove '..UptoSaid'. A law counts once. -/
mutual
def uptoBulk {H : Type} : DataW H → Nat
  | .lit (.string bytes) => bytes.length + 1
  | .lit _ => 1
  | .nil => 1
  | .ptr d => uptoBulk d + 1
  | .slice elems spare => uptoBulkAll elems + uptoBulkAll spare + 1
  | .agg parts => uptoBulkAll parts + 1
  | .iface _ d => uptoBulk d + 1
  | .map entries => uptoBulkEntries entries + 1
  | .held _ => 1
def uptoBulkAll {H : Type} : List (DataW H) → Nat
  | [] => 0
  | d :: r => uptoBulk d + uptoBulkAll r
def uptoBulkEntries {H : Type} : List (Lit × DataW H) → Nat
  | [] => 0
  | x :: r => uptoBulkEntry x + uptoBulkEntries r
def uptoBulkEntry {H : Type} : Lit × DataW H → Nat
  | (.string bytes, d) => bytes.length + uptoBulk d + 1
  | (_, d) => uptoBulk d + 1
 end
def uptoSmall : (H : Type) → List (DataW H) → Bool := fun _ ds => decide (uptoBulkAll ds ≤ 1048576)
def OpenSpec.upto (s : _root_.Go.ChangeSpec) : _root_.Go.OpenSpec := { _root_.Go.OpenSpec.ofChange s with cond := some uptoSmall }

/-- 'wirelaw1.CreditLets', WHERE WHAT IT READS IS OF BULK AT MOST 1048576: true; the input reads as it did. -/
def creditLetsUptoRow : OpenClaim := { program := "ytaiojfoicfhbnaa", sum := "74d2215eccefd6fe5b4d2b92f208c8d0dcf99b936224e5cd2503017a6c2a3670", func := "wanderwire/wirelaw1.CreditLets", spec := "creditLets", apart := false, narrowed := true }
def CreditLetsUptoSaid : Prop := creditLetsUptoRow.holds Try.pinned (OpenSpec.upto creditLetsSpec)

/-- 'wirelaw4.WindowThere', WHERE WHAT IT READS IS OF BULK AT MOST 1048576: true; the input reads as it did. -/
def windowThereUptoRow : OpenClaim := { program := "ytaiojfoicfhbnaa", sum := "74d2215eccefd6fe5b4d2b92f208c8d0dcf99b936224e5cd2503017a6c2a3670", func := "wanderwire/wirelaw4.WindowThere", spec := "windowThere", apart := false, narrowed := true }
def WindowThereUptoSaid : Prop := windowThereUptoRow.holds Try.pinned (OpenSpec.upto windowThereSpec)

/-- 'wirelaw2.WindowHalf', WHERE WHAT IT READS IS OF BULK AT MOST 1048576: true; the input reads as it did. -/
def windowHalfUptoRow : OpenClaim := { program := "ytaiojfoicfhbnaa", sum := "74d2215eccefd6fe5b4d2b92f208c8d0dcf99b936224e5cd2503017a6c2a3670", func := "wanderwire/wirelaw2.WindowHalf", spec := "windowHalf", apart := false, narrowed := true }
def WindowHalfUptoSaid : Prop := windowHalfUptoRow.holds Try.pinned (OpenSpec.upto windowHalfSpec)

end Rows
end Go.Proofs.Ytaiojfoicfhbnaa
