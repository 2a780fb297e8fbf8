/-
  The document's near: the fractions of products that come nearest.
-/
import Derived.Test.YtcnidgafdonioaaGreatVU9
import Derived.Test.YtcnidgafdonioaaGreatVT44
import Derived.Test.YtcnidgafdonioaaGreatVU13
import Derived.Test.YtcnidgafdonioaaGreatVU5
namespace Go.Abs.Seat
noncomputable section
open Go Go.Abs Go.Proofs.Tryz
set_option maxRecDepth 100000
set_option maxHeartbeats 40000000
attribute [local irreducible] IntKind.wrap pEq

end
end Go.Abs.Seat
