/- Contracts of package number and its reference in one piece each: what each returns, for every argument. No condition. -/
import Derived.Test.YthnolkbolmbkdaaDoorNumRef
import Derived.Test.YthnolkbolmbkdaaDoorTold
import Derived.Test.YthnolkbolmbkdaaDoorRules
import Derived.Test.YthnolkbolmbkdaaDoorMayB
namespace Go.Proofs.YthnolkbolmbkdaaDoor
open Go.ChangeShapes Go.WideShapes Go.ChangeAt Go.RowKit
set_option linter.unusedVariables false

instance (n known : Int) : Decidable (NeedOk n known) := by unfold NeedOk; infer_instance
def needE (n known : Int) : Int := if NeedOk n known then 0 else 1
def needV (n known : Int) : Int := if NeedOk n known then leastN (n - known) else 0
theorem need_any (n known : Int) (w : World) :
    Calls Tryd.prog 85 #[.int .i64 n, .int .i64 known] w fun e w' => e = .returned (.tuple #[.int .i64 (needV n known), errV (needE n known)]) ∧ w = w' := by
  unfold needV needE
  by_cases h : NeedOk n known
  · rw [if_pos h, if_pos h]; exact need_yes n known h w
  · rw [if_neg h, if_neg h]; exact need_no n known h w
instance (cut b next : Int) : Decidable (WholeOk cut b next) := by unfold WholeOk; infer_instance
def wholeE (cut b next : Int) : Int := if WholeOk cut b next then 0 else 1
def wholeV (cut b next : Int) : Int := if WholeOk cut b next then wholeN cut b next else 0
theorem whole_any (cut b next : Int) (w : World) :
    Calls Tryd.prog 111 #[.int .i64 cut, .int .i64 b, .int .i64 next] w fun e w' => e = .returned (.tuple #[.int .i64 (wholeV cut b next), errV (wholeE cut b next)]) ∧ w = w' := by
  unfold wholeV wholeE
  by_cases h : WholeOk cut b next
  · rw [if_pos h, if_pos h]; exact whole_yes cut b next h w
  · rw [if_neg h, if_neg h]; exact whole_no cut b next h w
end Go.Proofs.YthnolkbolmbkdaaDoor
