/- slices.Concat of two slices of ranges. Condition: the slices can be read. -/
import Derived.Test.YtjjmoaaongnjiaaGreatDoorGrow
import Derived.Test.YtjjmoaaongnjiaaGreatDoorCat
namespace Go.Proofs.YtjjmoaaongnjiaaGreatDoor
open Go.ChangeShapes Go.WideShapes Go.ChangeAt Go.RowKit
set_option linter.unusedVariables false

end Go.Proofs.YtjjmoaaongnjiaaGreatDoor
