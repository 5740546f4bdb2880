/- Contracts of package path and its reference in one piece each: what each returns, for every argument. No condition. -/
import Derived.Test.YthnolkbolmbkdaaPathRef
import Derived.Test.YthnolkbolmbkdaaTold
import Derived.Test.YthnolkbolmbkdaaRules
namespace Go.Proofs.Ythnolkbolmbkdaa
open Go.ChangeShapes Go.WideShapes Go.ChangeAt Go.RowKit
set_option linter.unusedVariables false

theorem pathE_iff {i o : Int} {k : Bool} : pathE i o k = 0 ↔ PathOk i o k := by
  constructor
  · intro h
    by_cases hp : PathOk i o k
    · exact hp
    · exact absurd h (pathE_no hp)
  · exact pathE_ok
def cameI (i o : Int) (k : Bool) (n : Int) : Int := if cameE i o k n = 0 then i + n else 0
def cameO (i o : Int) (k : Bool) (n : Int) : Int := if cameE i o k n = 0 then o else 0
def cameK (i o : Int) (k : Bool) (n : Int) : Bool := if cameE i o k n = 0 then k else false
def sendI (i o : Int) (k : Bool) (n : Int) : Int := if sendE i o k n = 0 then i else 0
def sendO (i o : Int) (k : Bool) (n : Int) : Int := if sendE i o k n = 0 then o + n else 0
def sendK (i o : Int) (k : Bool) (n : Int) : Bool := if sendE i o k n = 0 then k else false
def roomV (i o : Int) (k : Bool) : Int := if pathE i o k = 0 then roomN i o k else 0
def proveE (i o : Int) (k : Bool) : Int := if pathE i o k = 0 then (if i = 0 then 5 else 0) else pathE i o k
def proveI (i o : Int) (k : Bool) : Int := if proveE i o k = 0 then i else 0
def proveO (i o : Int) (k : Bool) : Int := if proveE i o k = 0 then o else 0
def proveK (i o : Int) (k : Bool) : Bool := if proveE i o k = 0 then true else false

theorem pcheck_any (i o : Int) (k : Bool) (w : World) :
    Calls Try.prog 30 #[.agg #[.int .i64 i, .int .i64 o, .bool k]] w fun e w' => e = .returned (errV (pathE i o k)) ∧ Below w.heap.size w w' := by
  by_cases h : PathOk i o k
  · rw [pathE_ok h]
    exact (pcheck_yes i o k h w).mono fun _ _ hh => ⟨hh.1, hh.2 ▸ (Below.refl _ _).alloc (Nat.le_refl _) _⟩
  · rw [errV_pos (pathE_no h)]
    exact (pcheck_no i o k h w).mono fun _ _ hh => ⟨hh.1, hh.2 ▸ (Below.refl _ _).alloc (Nat.le_refl _) _⟩
theorem came_any (i o : Int) (k : Bool) (n : Int) (w : World) :
    Calls Try.prog 18 #[.agg #[.int .i64 i, .int .i64 o, .bool k], .int .i64 n] w fun e w' => e = .returned (.tuple #[.agg #[.int .i64 (cameI i o k n), .int .i64 (cameO i o k n), .bool (cameK i o k n)], errV (cameE i o k n)]) ∧ Below w.heap.size w w' := by
  unfold cameI cameO cameK
  by_cases h : cameE i o k n = 0
  · rw [if_pos h, if_pos h, if_pos h, h]; exact came_yes i o k n h w
  · rw [if_neg h, if_neg h, if_neg h, errV_pos h]; exact came_no i o k n h w
theorem send_any (i o : Int) (k : Bool) (n : Int) (w : World) :
    Calls Try.prog 28 #[.agg #[.int .i64 i, .int .i64 o, .bool k], .int .i64 n] w fun e w' => e = .returned (.tuple #[.agg #[.int .i64 (sendI i o k n), .int .i64 (sendO i o k n), .bool (sendK i o k n)], errV (sendE i o k n)]) ∧ Below w.heap.size w w' := by
  unfold sendI sendO sendK
  by_cases h : sendE i o k n = 0
  · rw [if_pos h, if_pos h, if_pos h, h]; exact send_yes i o k n h w
  · rw [if_neg h, if_neg h, if_neg h, errV_pos h]; exact send_no i o k n h w
/-- how much may be sent is as much as there is room for -/
theorem sendE_room {i o n : Int} {k : Bool} (h : PathOk i o k) (n0 : 0 ≤ n) (n1 : n ≤ 200) : sendE i o k n = 0 ↔ n ≤ roomN i o k := by
  unfold sendE roomN
  rw [if_pos (pathE_ok h)]
  have kn := h.kn
  have i1 := h.i1
  have o1 := h.o1
  have o2 := h.o2
  cases k <;> simp <;> split <;> (try split) <;> omega
end Go.Proofs.Ythnolkbolmbkdaa
