/-
  The law TrainLess: the walk, no feasts.
-/
import Derived.Test.YtpjclnoehlflcaaGreatDoorU17
/-! The law TrainLess: the walk, no feasts. -/
namespace Go.Abs.Seat
noncomputable section
open Go Go.Abs Go.Proofs.Tryz
set_option maxRecDepth 100000
set_option maxHeartbeats 40000000
attribute [local irreducible] IntKind.wrap pEq pSlice
end
end Go.Abs.Seat
