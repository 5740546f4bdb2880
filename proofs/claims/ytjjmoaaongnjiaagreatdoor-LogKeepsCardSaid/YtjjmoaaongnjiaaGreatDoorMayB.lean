/- Whether a number may be, as a Bool: contracts of varint.May and wireref1.May in one piece each. No condition. -/
import Derived.Test.YtjjmoaaongnjiaaGreatDoorMay
import Derived.Test.YtjjmoaaongnjiaaGreatDoorRMay
import Derived.Test.YtjjmoaaongnjiaaGreatDoorRules
namespace Go.Proofs.YtjjmoaaongnjiaaGreatDoor
open Go.ChangeShapes Go.WideShapes Go.ChangeAt Go.RowKit
set_option linter.unusedVariables false

instance (n : Int) : Decidable (MayBe n) := by unfold MayBe; infer_instance
/-- may a number be -/
def mayB (n : Int) : Bool := decide (0 ≤ n) && decide (n ≤ 1073741823)
theorem mayB_iff {n : Int} : mayB n = true ↔ MayBe n := by unfold mayB MayBe; simp
theorem mayB_not {n : Int} (h : ¬ MayBe n) : mayB n = false := by
  cases hb : mayB n
  · rfl
  · exact absurd (mayB_iff.1 hb) h
theorem rmay_any (n : Int) (w : World) : Calls Tryz.prog 13 #[.int .i64 n] w fun e w' => e = .returned (.bool (mayB n)) ∧ w = w' := by
  by_cases h : MayBe n
  · rw [mayB_iff.2 h]; exact rmay_yes n h.1 h.2 w
  · rw [mayB_not h]; exact rmay_no n h w
theorem may_any (n : Int) (w : World) : Calls Tryz.prog 28 #[.int .i64 n] w fun e w' => e = .returned (.bool (mayB n)) ∧ w = w' := by
  by_cases h : MayBe n
  · rw [mayB_iff.2 h]; exact may_yes n h.1 h.2 w
  · rw [mayB_not h]; exact may_no n h w
end Go.Proofs.YtjjmoaaongnjiaaGreatDoor
