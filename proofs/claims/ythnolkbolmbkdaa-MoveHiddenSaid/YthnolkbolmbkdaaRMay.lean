/- Contract of wireref1.May. No condition. -/
import Derived.Test.YthnolkbolmbkdaaMay
namespace Go.Proofs.Ythnolkbolmbkdaa
open Go.ChangeShapes Go.WideShapes Go.ChangeAt Go.RowKit

end Go.Proofs.Ythnolkbolmbkdaa
