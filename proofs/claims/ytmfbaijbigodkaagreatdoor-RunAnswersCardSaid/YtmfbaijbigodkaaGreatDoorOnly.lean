/- Worlds in which one block alone, and what is new, has changed. No condition of its own. -/
import Derived.Test.YtmfbaijbigodkaaGreatDoorBase
import Derived.Laws.AppendOwn
namespace Go.Proofs.YtmfbaijbigodkaaGreatDoor
open Go.ChangeShapes Go.WideShapes Go.ChangeAt Go.RowKit
set_option linter.unusedVariables false

/-- block g alone, and what is new, has changed -/
def Only (w w' : World) (g : Nat) : Prop := w.grownBy w' (some g)
namespace Only
variable {a w w' : World} {g : Nat}
theorem refl (w : World) (g : Nat) : Only w w g := World.grownBy.refl w _
theorem drew (h : Only a w g) : Only a w.drew g := ⟨h.os, h.tape, h.output, h.size, h.block⟩
theorem drewN (h : Only a w g) (n : Nat) : Only a (w.drewN n) g := ⟨h.os, h.tape, h.output, h.size, h.block⟩
theorem alloc (h : Only a w g) (o : Obj) : Only a (w.alloc o) g :=
  ⟨h.os, h.tape, h.output, Nat.le_trans h.size (by simp), fun i hi hne => (Below.heap_alloc w o i (Nat.lt_of_lt_of_le hi h.size)).trans (h.block i hi hne)⟩
theorem put (h : Only a w g) (i : Nat) (u : Value) : Only a (w.setCell ⟨g, i, none⟩ u) g :=
  ⟨h.os, h.tape, h.output, by simpa [World.setCell] using h.size, fun k hk hne => (Below.heap_setCell w ⟨g, i, none⟩ u k (by rintro rfl; exact hne rfl)).trans (h.block k hk hne)⟩
theorem fresh_put (h : Only a w g) {p : Addr} (hp : a.heap.size ≤ p.block) (u : Value) : Only a (w.setCell p u) g :=
  ⟨h.os, h.tape, h.output, by simpa [World.setCell] using h.size, fun k hk hne => (Below.heap_setCell w p u k (by rintro rfl; omega)).trans (h.block k hk hne)⟩
theorem trans (h : Only a w g) (k : Only w w' g) : Only a w' g :=
  ⟨k.os.trans h.os, k.tape.trans h.tape, k.output.trans h.output, Nat.le_trans h.size k.size, fun i hi hne => (k.block i (Nat.lt_of_lt_of_le hi h.size) hne).trans (h.block i hi hne)⟩
theorem of_below (h : Below a.heap.size a w) (g : Nat) : Only a w g := ⟨h.os, h.tape, h.output, h.size, fun i hi _ => h.block i hi⟩
theorem below {B : Nat} (k : Only w w' g) (h : Below B a w) (hB : B ≤ w.heap.size) (hg : B ≤ g) : Below B a w' := h.grown k hB (fun x e => by injection e with e; omega)
theorem other {b : Nat} {t : TypeId} {cs : Array Value} (k : Only w w' g) (h : BlockIs w b t cs) (hne : b ≠ g) : BlockIs w' b t cs := (k.block b h.lt (fun e => by injection e with e; exact hne e)).trans h
theorem size_le (k : Only w w' g) : w.heap.size ≤ w'.heap.size := k.size
end Only
end Go.Proofs.YtmfbaijbigodkaaGreatDoor
