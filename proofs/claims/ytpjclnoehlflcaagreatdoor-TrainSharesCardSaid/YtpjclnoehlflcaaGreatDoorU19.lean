/-
  The law TrainKeeps.
  Settings: one feast more, and a greater limit.
  Settings with one feast more and a greater limit, in numbers.
  The law TrainLess: the walk.
  The law TrainLess: the walk, no train.
-/
import Derived.Test.YtpjclnoehlflcaaGreatDoorU7
import Derived.Test.YtpjclnoehlflcaaGreatDoorT28
import Derived.Test.YtpjclnoehlflcaaGreatDoorU15
import Derived.Test.YtpjclnoehlflcaaGreatDoorU9
import Derived.Test.YtpjclnoehlflcaaGreatDoorU5
/-! The law TrainKeeps. -/
namespace Go.Abs.Seat
open Go Go.Abs Go.Proofs.Tryz
set_option maxRecDepth 100000
set_option maxHeartbeats 4000000
attribute [local irreducible] IntKind.wrap pEq
section
variable {v:AV} {k:Nat} {b bF bE bS bN bL:Bool} {n d u m:Int} {w z:AV} {f s:List Int}
end
section
variable {v:AV} {k:Nat} {b bF bE bS bN bL:Bool} {n d u m:Int} {w z:AV} {f s:List Int}
end
end Go.Abs.Seat

namespace Go.Abs.Seat
noncomputable section
open Go Go.Abs Go.Proofs.Tryz
set_option maxRecDepth 100000

end
end Go.Abs.Seat
namespace Go.Abs.Seat
noncomputable section
open Go Go.Abs Go.Proofs.Tryz
set_option maxRecDepth 100000
set_option maxHeartbeats 40000000
attribute [local irreducible] IntKind.wrap pEq

end
end Go.Abs.Seat
namespace Go.Abs.Seat
noncomputable section
open Go Go.Abs Go.Proofs.Tryz
set_option maxRecDepth 100000
set_option maxHeartbeats 40000000
attribute [local irreducible] IntKind.wrap pEq qha


end
end Go.Abs.Seat
