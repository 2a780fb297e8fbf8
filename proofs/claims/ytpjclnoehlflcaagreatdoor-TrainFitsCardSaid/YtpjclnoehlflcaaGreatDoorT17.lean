/-
  The fraction of a chain: Fold.
-/
import Derived.Test.YtpjclnoehlflcaaGreatDoorT16
/-! The fraction of a chain: Fold. -/
namespace Go.Abs.Seat
open Go Go.Abs Go.Proofs.Tryz
set_option maxRecDepth 100000
set_option maxHeartbeats 4000000
attribute [local irreducible] IntKind.wrap pEq

theorem eqIf_nil : q0 20 true .nili .nili = some true := by kernel_rfl
theorem eqIf_no (cst : Bool) (m : Int) : q0 20 cst (.iface 106 (.agg [iv m])) .nili = some false := by kernel_rfl

end Go.Abs.Seat
