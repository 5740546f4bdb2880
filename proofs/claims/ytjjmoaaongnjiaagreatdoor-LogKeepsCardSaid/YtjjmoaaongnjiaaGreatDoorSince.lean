/- What lies behind a call's beginning: worlds in which nothing that was there has changed. No condition of its own. -/
import Derived.Test.YtjjmoaaongnjiaaGreatDoorOnly
namespace Go.Proofs.YtjjmoaaongnjiaaGreatDoor
open Go.ChangeShapes Go.WideShapes Go.ChangeAt Go.RowKit
set_option linter.unusedVariables false

/-- nothing that was there in w has changed -/
def Since (w W : World) : Prop := Below w.heap.size w W
namespace Since
variable {w W W' : World}
theorem refl (w : World) : Since w w := Below.refl _ _
theorem alloc (h : Since w W) (o : Obj) : Since w (W.alloc o) := Below.alloc h h.size o
theorem drew (h : Since w W) : Since w W.drew := ⟨h.os, h.tape, h.output, h.size, h.block⟩
theorem drewN (h : Since w W) (n : Nat) : Since w (W.drewN n) := ⟨h.os, h.tape, h.output, h.size, h.block⟩
theorem later (h : Since w W) (hb : Below W.heap.size W W') : Since w W' := below_steps h hb h.size
theorem set (h : Since w W) {p : Addr} (hp : w.heap.size ≤ p.block) (u : Value) : Since w (W.setCell p u) := Below.setCell h hp u
theorem only {g : Nat} (h : Since w W) (k : Only W W' g) (hg : w.heap.size ≤ g) : Since w W' := k.below h h.size hg
theorem out (h : Since w W) : Below w.heap.size w W := h
theorem le (h : Since w W) : w.heap.size ≤ W.heap.size := h.size
theorem cell (h : Since w W) {b o : Nat} {v : Value} (hlt : b < w.heap.size) (hc : w.cell? ⟨b, o, none⟩ = some v) : W.cell? ⟨b, o, none⟩ = some v := (Below.cell (p := ⟨b, o, none⟩) h hlt).trans hc
end Since
end Go.Proofs.YtjjmoaaongnjiaaGreatDoor
