/-
  Feasts, and the years in which two of them meet.
-/
import Derived.Test.YtcnidgafdonioaaGreatVE5
/-! Feasts, and the years in which two of them meet. -/
namespace Go.Abs.Seat
noncomputable section
open Go Go.Abs Go.Proofs.Tryz
set_option maxRecDepth 100000
set_option maxHeartbeats 40000000
attribute [local irreducible] IntKind.wrap pEq
section
attribute [local irreducible] pSlice
end
end
end Go.Abs.Seat

