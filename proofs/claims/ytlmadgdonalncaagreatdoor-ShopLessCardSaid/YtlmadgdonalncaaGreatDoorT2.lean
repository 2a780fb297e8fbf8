/-
  Which lists of pairs are trains.
-/
import Derived.Test.YtlmadgdonalncaaGreatDoorU6
namespace Go.Abs.Seat
open Go Go.Abs Go.Proofs.Tryz
set_option maxRecDepth 100000
set_option maxHeartbeats 4000000
attribute [local irreducible] IntKind.wrap pEq
def gd:List (Int × Int) → Prop
 | [] => True
 |p :: r => (tth p.1 ∧ tth p.2) ∧ gd r
end Go.Abs.Seat
