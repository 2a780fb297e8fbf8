/-
  When jobs are done: lists that are no plans.
-/
import Derived.Test.YtlmadgdonalncaaGreatDoorB82
import Derived.Test.YtlmadgdonalncaaGreatDoorU4
namespace Go.Abs.Seat
noncomputable section
open Go Go.Abs Go.Proofs.Tryz
set_option maxRecDepth 100000
set_option maxHeartbeats 40000000
attribute [local irreducible] IntKind.wrap pEq

end
end Go.Abs.Seat
