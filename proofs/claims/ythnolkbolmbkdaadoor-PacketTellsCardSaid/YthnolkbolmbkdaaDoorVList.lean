/- Plain words on numbers' bytes one behind the other, and a builder that stays. No condition of its own. -/
import Derived.Test.YthnolkbolmbkdaaDoorVBuild
import Derived.Test.YthnolkbolmbkdaaDoorVarint
namespace Go.Proofs.YthnolkbolmbkdaaDoor
open Go.ChangeShapes Go.WideShapes Go.ChangeAt Go.RowKit
set_option linter.unusedVariables false

/-- a builder of the call's own stays as it is while only new blocks are made -/
theorem builderAt_later {T e : TypeId} {B b : Nat} {p : Value} {bs : List Value} {w w1 : World} (h : Lib.BuilderAt T e B b p bs w) (hb : Below w.heap.size w w1) : Lib.BuilderAt T e B b p bs w1 := by
  have hlt := h.lt
  obtain ⟨h1, v, h2, h3, h4⟩ := h
  refine ⟨h1, v, (hb.block b hlt).trans h2, ?_, h4⟩
  exact h3.kept (row := none) ⟨hb.os, hb.tape, hb.output, hb.size, fun i hi _ => hb.block i hi⟩ (by cases hv : v.ownBlock <;> simp)
theorem builder_later {T e : TypeId} {B b : Nat} {bs : List Value} {w w1 : World} (h : Lib.IsBuilder T e B b bs w) (hb : Below w.heap.size w w1) : Lib.IsBuilder T e B b bs w1 :=
  h.imp (fun h => builderAt_later h hb) (fun h => builderAt_later h hb)

/-- the numbers' bytes, one behind the other -/
def allL (zs : List Int) : List UInt8 := zs.flatMap vbytes
theorem allL_snoc (zs : List Int) (z : Int) : allL (zs ++ [z]) = allL zs ++ vbytes z := by simp [allL]
theorem vbytes_four (n : Int) : (vbytes n).length ≤ 4 := by
  have := vbytes_length n
  unfold longN at this
  split at this
  · omega
  · split at this <;> omega
theorem allL_short (zs : List Int) : (allL zs).length ≤ 4 * zs.length := by
  induction zs with
  | nil => simp [allL]
  | cons z r ih =>
    have e : allL (z :: r) = vbytes z ++ allL r := by simp [allL]
    have := vbytes_four z
    rw [e, List.length_append, List.length_cons]
    omega
theorem ith_mem {zs : List Int} {k : Nat} (h : k < zs.length) : ith zs k ∈ zs := by
  unfold ith
  simp [List.getD, h]
theorem take_ith {zs : List Int} {k : Nat} (h : k < zs.length) : zs.take (k + 1) = zs.take k ++ [ith zs k] := by
  rw [List.take_succ_eq_append_getElem h]
  unfold ith
  simp [List.getD, h]

end Go.Proofs.YthnolkbolmbkdaaDoor
