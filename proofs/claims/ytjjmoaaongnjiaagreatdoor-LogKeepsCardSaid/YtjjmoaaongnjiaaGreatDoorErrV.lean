/- An error by its number. No program here. -/
import Derived.Test.YtjjmoaaongnjiaaGreatDoorBase
namespace Go.Proofs.YtjjmoaaongnjiaaGreatDoor
open Go.ChangeShapes Go.WideShapes Go.ChangeAt Go.RowKit
set_option linter.unusedVariables false

/-- an error by its number: 0 is nil -/
def errV (n : Int) : Value := if n = 0 then .nilIface else .iface 46 (.int .i64 n)
theorem errV_zero : errV 0 = .nilIface := rfl
theorem errV_pos {n : Int} (h : n ≠ 0) : errV n = .iface 46 (.int .i64 n) := by unfold errV; rw [if_neg h]
end Go.Proofs.YtjjmoaaongnjiaaGreatDoor
