/-
  A dial that is opened: the first days of all years.
-/
import Derived.Test.YtcnidgafdonioaaGreatVE3
namespace Go.Abs.Seat
noncomputable section
open Go Go.Abs Go.Proofs.Tryz
set_option maxRecDepth 100000
set_option maxHeartbeats 40000000
attribute [local irreducible] IntKind.wrap pEq

end
end Go.Abs.Seat
