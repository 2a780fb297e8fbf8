/-
  The best settings of a hand.
-/
import Derived.Test.YtnimgfkggbnjoaaGreatDoorXU7
import Derived.Test.YtnimgfkggbnjoaaGreatDoorXU4
namespace Go.Abs.Seat
noncomputable section
open Go Go.Abs Go.Proofs.Tryz
set_option maxRecDepth 100000
set_option maxHeartbeats 4000000
attribute [local irreducible] IntKind.wrap pEq
theorem _root_.Go.Abs.WkV.int {a b:Int} (e:a = b):WkV (iv a) (iv b) :=e ▸ WkV.refl _
theorem _root_.Go.Abs.WkV.eq {a b:AV} (e:a = b):WkV a b :=e ▸ WkV.refl _
instance (L u t l):Decidable (kp L u t l) :=Classical.propDecidable _
end
end Go.Abs.Seat
