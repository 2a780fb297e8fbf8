/-
  Calendars, moons and feasts, plainly.
-/
import Derived.Test.YtcnidgafdonioaaGreatVU7
import Derived.Test.YtcnidgafdonioaaGreatVU6
namespace Go.Abs.Seat
noncomputable section

end
end Go.Abs.Seat
namespace Go.Abs.Seat
open Go Go.Abs Go.Proofs.Tryz
set_option maxRecDepth 100000
set_option maxHeartbeats 4000000
attribute [local irreducible] IntKind.wrap pEq

end Go.Abs.Seat
namespace Go.Abs.Seat


end Go.Abs.Seat
namespace Go.Abs.Seat
open Go Go.Abs Go.Proofs.Tryz
set_option maxRecDepth 100000
set_option maxHeartbeats 4000000
attribute [local irreducible] IntKind.wrap pEq

end Go.Abs.Seat
namespace Go.Abs.Seat
def okTail (t:List Nat):Prop :=(∀ y,y ∈ t → 1 ≤ y) ∧ (t ≠ [] → lastNe t)
theorem okTail.lt {t:List Nat} (h:okTail t):(foS t).2 < (foS t).1 :=by
 cases t with
 |nil => decide
 |cons y t => exact foS_lt y t h.1 (h.2 (by simp))

end Go.Abs.Seat
namespace Go.Abs.Seat
open Go Go.Abs Go.Proofs.Tryz
set_option maxRecDepth 100000
set_option maxHeartbeats 4000000
attribute [local irreducible] IntKind.wrap pEq pSlice

end Go.Abs.Seat
