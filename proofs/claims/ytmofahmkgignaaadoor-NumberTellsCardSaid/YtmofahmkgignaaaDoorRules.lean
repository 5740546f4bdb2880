/- Rules of the walk on worlds in which only new blocks were made. No condition of its own. -/
import Derived.Test.YtmofahmkgignaaaDoorSince
namespace Go.Proofs.YtmofahmkgignaaaDoor
open Go.ChangeShapes Go.WideShapes Go.ChangeAt Go.RowKit
set_option linter.unusedVariables false

/-- what is below a number is below the next one: a rule of the walk -/
theorem lt_up {n m : Nat} (h : n < m) : (n < m + 1) = True := eq_true (by omega)
/-- what a world says of one in which only new blocks were made: three rules of the walk -/
theorem rules {W w1 : World} (hb : Below W.heap.size W w1) : (∀ b, b < W.heap.size → (b < w1.heap.size) = True) ∧ (∀ b o, b < W.heap.size → w1.cell? ⟨b, o, none⟩ = W.cell? ⟨b, o, none⟩) ∧ (∀ b o, b < W.heap.size → w1.frozen? ⟨b, o, none⟩ = W.frozen? ⟨b, o, none⟩) :=
  ⟨fun b h => eq_true (by have := hb.size; omega), fun b o h => hb.cell (p := ⟨b, o, none⟩) h, fun b o h => hb.frozen (p := ⟨b, o, none⟩) h⟩
/-- the walk stands ahead of the statement that begins with region n -/
theorem stop_at (n : Nat) {P : Program} {ops : Array Oper} {d : Bool} {c : Code} {Q : Exit → Act → World → Prop} {a : Act} {w : World}
    (h : Code.wp P ((Code.region n ops d).seq c) Q a w) : Code.wp P ((Code.region n ops d).seq c) Q a w := h
end Go.Proofs.YtmofahmkgignaaaDoor
