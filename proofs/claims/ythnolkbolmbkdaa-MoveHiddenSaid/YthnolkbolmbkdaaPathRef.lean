/- Contracts of wireref1.Path, Came, Send. No condition. -/
import Derived.Test.YthnolkbolmbkdaaPath
import Derived.Test.YthnolkbolmbkdaaRMay
namespace Go.Proofs.Ythnolkbolmbkdaa
open Go.ChangeShapes Go.WideShapes Go.ChangeAt Go.RowKit
set_option linter.unusedVariables false

theorem pathE_bne {i o : Int} {k : Bool} (h : ¬ PathOk i o k) : (pathE i o k == 0) = false := beq_eq_false_iff_ne.2 (pathE_no h)

end Go.Proofs.Ythnolkbolmbkdaa
