/- Contract of varint.May: whether a number may be. No condition. -/
import Derived.Test.YtmfbaijbigodkaaGreatDoorBase
namespace Go.Proofs.YtmfbaijbigodkaaGreatDoor
open Go.ChangeShapes Go.WideShapes Go.ChangeAt Go.RowKit

/-- a number that may be -/
def MayBe (n : Int) : Prop := 0 ≤ n ∧ n ≤ 1073741823
theorem may_yes (n : Int) (h1 : 0 ≤ n) (h2 : n ≤ 1073741823) (w : World) :
    Calls Tryz.prog 93 #[.int .i64 n] w fun e w' => e = .returned (.bool true) ∧ w = w' := by
  go_enter Tryz.func93, Tryz.ntmps93
  go_wp2
  go_ret
  exact ⟨rfl, rfl⟩
theorem may_no (n : Int) (h : ¬ MayBe n) (w : World) :
    Calls Tryz.prog 93 #[.int .i64 n] w fun e w' => e = .returned (.bool false) ∧ w = w' := by
  unfold MayBe at h
  by_cases h1 : 0 ≤ n
  · have h2 : decide (n ≤ 1073741823) = false := by simp; omega
    clear h
    go_enter Tryz.func93, Tryz.ntmps93
    go_wp2
    go_ret
    exact ⟨rfl, rfl⟩
  · clear h
    go_enter Tryz.func93, Tryz.ntmps93
    go_wp2
    go_ret
    exact ⟨rfl, rfl⟩
end Go.Proofs.YtmfbaijbigodkaaGreatDoor
