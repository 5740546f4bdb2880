/- Rules of the walk on worlds in which only new blocks were made. No condition of its own. -/
import Derived.Test.YtjjmoaaongnjiaaGreatDoorSince
namespace Go.Proofs.YtjjmoaaongnjiaaGreatDoor
open Go.ChangeShapes Go.WideShapes Go.ChangeAt Go.RowKit
set_option linter.unusedVariables false

/-- what is below a number is below the next one: a rule of the walk -/
@[go_sem] theorem lt_up {n m : Nat} (h : n < m) : (n < m + 1) = True := eq_true (by omega)
/-- a store lays no cell and takes none away: a rule of the walk -/
@[go_sem] theorem isSome_put (w : World) (a b : Addr) (v : Value) : ((w.setCell a v).cell? b).isSome = (w.cell? b).isSome := by
  by_cases h : a.block = b.block
  · have e : (w.setCell a v).heap[b.block]? = (w.heap[b.block]?).map fun
      | .cells c elem frozen => .cells (if a.spot.isSome then c else c.setIfInBounds a.off v) elem frozen
      | o => o := by
      simp only [World.setCell, Array.getElem?_modify]
      rw [if_pos h]
      cases w.heap[b.block]? <;> rfl
    unfold World.cell?
    rw [e]
    cases hb : w.heap[b.block]? with
    | none => rfl
    | some o =>
      cases o <;> simp only [Option.map_some]
      split
      · rfl
      · split
        · rfl
        · rw [Bool.eq_iff_iff]; simp
  · unfold World.cell?
    have e : (w.setCell a v).heap[b.block]? = w.heap[b.block]? := by
      simp only [World.setCell, Array.getElem?_modify]
      rw [if_neg h]
    rw [e]
/-- what a world says of one in which only new blocks were made: three rules of the walk -/
theorem rules {W w1 : World} (hb : Below W.heap.size W w1) : (∀ b, b < W.heap.size → (b < w1.heap.size) = True) ∧ (∀ b o, b < W.heap.size → w1.cell? ⟨b, o, none⟩ = W.cell? ⟨b, o, none⟩) ∧ (∀ b o, b < W.heap.size → w1.frozen? ⟨b, o, none⟩ = W.frozen? ⟨b, o, none⟩) :=
  ⟨fun b h => eq_true (by have := hb.size; omega), fun b o h => hb.cell (p := ⟨b, o, none⟩) h, fun b o h => hb.frozen (p := ⟨b, o, none⟩) h⟩
/-- what a world says of one block of another in which only new blocks were made -/
theorem keep1 {W w1 : World} {g : Nat} (hb : Below W.heap.size W w1) (hg : g < W.heap.size) : (g < w1.heap.size) ∧ (∀ o, w1.cell? ⟨g, o, none⟩ = W.cell? ⟨g, o, none⟩) ∧ (∀ o, w1.frozen? ⟨g, o, none⟩ = W.frozen? ⟨g, o, none⟩) :=
  ⟨Nat.lt_of_lt_of_le hg hb.size, fun o => hb.cell (p := ⟨g, o, none⟩) hg, fun o => hb.frozen (p := ⟨g, o, none⟩) hg⟩
theorem keepk {W w1 : World} (g : Nat) {R : Prop} (hb : Below W.heap.size W w1) (hg : g < W.heap.size) (h : (g < w1.heap.size) → (∀ o, w1.cell? ⟨g, o, none⟩ = W.cell? ⟨g, o, none⟩) → (∀ o, w1.frozen? ⟨g, o, none⟩ = W.frozen? ⟨g, o, none⟩) → R) : R :=
  h (keep1 hb hg).1 (keep1 hb hg).2.1 (keep1 hb hg).2.2
/-- block g holds these cells, from its head on, none of it frozen -/
def Row (w : World) (g : Nat) (l : List Value) : Prop := g < w.heap.size ∧ (∀ o, w.frozen? ⟨g, o, none⟩ = false) ∧ ∀ (j : Nat) v, l[j]? = some v → w.cell? ⟨g, j, none⟩ = some v
theorem Row.mk3 {w : World} {g : Nat} {a b c : Value} (h : g < w.heap.size) (hf : ∀ o, w.frozen? ⟨g, o, none⟩ = false) (h0 : w.cell? ⟨g, 0, none⟩ = some a) (h1 : w.cell? ⟨g, 1, none⟩ = some b) (h2 : w.cell? ⟨g, 2, none⟩ = some c) : Row w g [a, b, c] := by
  refine ⟨h, hf, fun j v hj => ?_⟩
  match j, hj with
  | 0, hj => simp at hj; rw [← hj]; exact h0
  | 1, hj => simp at hj; rw [← hj]; exact h1
  | 2, hj => simp at hj; rw [← hj]; exact h2
  | _ + 3, hj => simp at hj
theorem Row.get3 {w : World} {g : Nat} {a b c : Value} (h : Row w g [a, b, c]) : (g < w.heap.size) ∧ (∀ o, w.frozen? ⟨g, o, none⟩ = false) ∧ w.cell? ⟨g, 0, none⟩ = some a ∧ w.cell? ⟨g, 1, none⟩ = some b ∧ w.cell? ⟨g, 2, none⟩ = some c :=
  ⟨h.1, h.2.1, h.2.2 0 a rfl, h.2.2 1 b rfl, h.2.2 2 c rfl⟩
theorem Row.later {w w1 : World} {g : Nat} {l : List Value} (h : Row w g l) (hb : Below w.heap.size w w1) : Row w1 g l :=
  ⟨Nat.lt_of_lt_of_le h.1 hb.size, fun o => (hb.frozen (p := ⟨g, o, none⟩) h.1).trans (h.2.1 o), fun j v hj => (hb.cell (p := ⟨g, j, none⟩) h.1).trans (h.2.2 j v hj)⟩
/-- the walk stands ahead of the statement that begins with region n -/
theorem stop_at (n : Nat) {P : Program} {ops : Array Oper} {d : Bool} {c : Code} {Q : Exit → Act → World → Prop} {a : Act} {w : World}
    (h : Code.wp P ((Code.region n ops d).seq c) Q a w) : Code.wp P ((Code.region n ops d).seq c) Q a w := h
end Go.Proofs.YtjjmoaaongnjiaaGreatDoor
