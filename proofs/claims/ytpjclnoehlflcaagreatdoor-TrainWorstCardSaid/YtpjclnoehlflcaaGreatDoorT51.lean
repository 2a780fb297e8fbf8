/-
  The document's near: the fractions of products that come nearest.
-/
import Derived.Test.YtpjclnoehlflcaaGreatDoorU9
import Derived.Test.YtpjclnoehlflcaaGreatDoorT44
import Derived.Test.YtpjclnoehlflcaaGreatDoorU4
/-! The document's near: the fractions of products that come nearest. -/
namespace Go.Abs.Seat
noncomputable section
open Go Go.Abs Go.Proofs.Tryz
set_option maxRecDepth 100000
set_option maxHeartbeats 40000000
attribute [local irreducible] IntKind.wrap pEq
abbrev rR (l:List Nat) (n d i:Nat):List (Nat × Nat) :=(l.take i).flatMap (rcOf l n d)
end
end Go.Abs.Seat
