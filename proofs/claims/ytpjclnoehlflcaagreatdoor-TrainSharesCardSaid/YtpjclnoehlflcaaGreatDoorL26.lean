/-
  The law TrainWorst, of whatever comes in.
-/
import Derived.Test.YtpjclnoehlflcaaGreatDoorL25
import Derived.Test.YtpjclnoehlflcaaGreatDoorU20
namespace Go.Abs.Seat
open Go Go.Abs Go.Proofs.Tryz
set_option maxRecDepth 100000
set_option maxHeartbeats 40000000
attribute [local irreducible] IntKind.wrap pEq

end Go.Abs.Seat
