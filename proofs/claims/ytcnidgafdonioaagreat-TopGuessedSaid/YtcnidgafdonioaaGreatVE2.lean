/-
  Leap years, months, days of a year, dates.
-/
import Derived.Test.YtcnidgafdonioaaGreatVE1
import Derived.Test.YtcnidgafdonioaaGreatVU5
/-! Leap years, months, days of a year, dates. -/
namespace Go.Abs.Seat
noncomputable section
open Go Go.Abs Go.Proofs.Tryz
set_option maxRecDepth 100000
set_option maxHeartbeats 40000000
attribute [local irreducible] IntKind.wrap pEq
section
attribute [local irreducible] pSlice
end
end
end Go.Abs.Seat

