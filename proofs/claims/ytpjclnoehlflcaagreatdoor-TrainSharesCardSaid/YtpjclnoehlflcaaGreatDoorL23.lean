/-
  The law TrainLess: the walk, lists.
-/
import Derived.Test.YtpjclnoehlflcaaGreatDoorU19
namespace Go.Abs.Seat
noncomputable section
open Go Go.Abs Go.Proofs.Tryz
set_option maxRecDepth 100000
set_option maxHeartbeats 40000000
attribute [local irreducible] IntKind.wrap pEq qha

end
end Go.Abs.Seat
