/-
  The best settings: of no feasts, and what is refused.
-/
import Derived.Test.YtpjclnoehlflcaaGreatDoorU18
/-! The best settings: of no feasts, and what is refused. -/
namespace Go.Abs.Seat
noncomputable section
open Go Go.Abs Go.Proofs.Tryz
set_option maxRecDepth 100000
set_option maxHeartbeats 40000000
attribute [local irreducible] IntKind.wrap pEq
section
variable {v:AV} {k:Nat} {b bF bE bN bL:Bool} {n d u m:Int} {w:AV} {f:List Int}
end
end
end Go.Abs.Seat

