/- slices.Grow of no ranges, by the shelf's contract laid in plain words; slices.Concat of two. Condition: the slices can be read. -/
import Derived.Shelf.Spec.SlicesGrow
import Derived.Test.YtjjmoaaongnjiaaGreatDoorAdd
namespace Go.Proofs.YtjjmoaaongnjiaaGreatDoor
open Go.Shelf Go.ChangeShapes Go.WideShapes Go.ChangeAt Go.RowKit
set_option linter.unusedVariables false
end Go.Proofs.YtjjmoaaongnjiaaGreatDoor
