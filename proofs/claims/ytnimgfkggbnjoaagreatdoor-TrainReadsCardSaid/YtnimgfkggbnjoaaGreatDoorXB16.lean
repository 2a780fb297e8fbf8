/-
  Pieces as defined, as the document tells it.
-/
import Derived.Test.YtnimgfkggbnjoaaGreatDoorXU10
namespace Go.Abs.Seat
noncomputable section
open Go Go.Abs Go.Proofs.Tryz
set_option maxRecDepth 100000
set_option maxHeartbeats 40000000
attribute [local irreducible] IntKind.wrap pEq

end
end Go.Abs.Seat
