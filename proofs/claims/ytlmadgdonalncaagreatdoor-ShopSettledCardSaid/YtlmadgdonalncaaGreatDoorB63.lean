/-
  Books of accounts: the best settlement, as the document finds it.
-/
import Derived.Test.YtlmadgdonalncaaGreatDoorB60
import Derived.Test.YtlmadgdonalncaaGreatDoorB61
import Derived.Test.YtlmadgdonalncaaGreatDoorU14
/-! Books of accounts: the best settlement, as the document finds it. -/
namespace Go.Abs.Seat
noncomputable section
open Go Go.Abs Go.Proofs.Tryz
set_option maxRecDepth 100000
set_option maxHeartbeats 40000000
attribute [local irreducible] IntKind.wrap pEq

end
end Go.Abs.Seat
