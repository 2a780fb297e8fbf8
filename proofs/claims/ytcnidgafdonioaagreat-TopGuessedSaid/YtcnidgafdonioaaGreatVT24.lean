/-
  The best settings of a hand.
-/
import Derived.Test.YtcnidgafdonioaaGreatVU7
import Derived.Test.YtcnidgafdonioaaGreatVU4
namespace Go.Abs.Seat
noncomputable section
open Go Go.Abs Go.Proofs.Tryz
set_option maxRecDepth 100000
set_option maxHeartbeats 4000000
attribute [local irreducible] IntKind.wrap pEq
theorem _root_.Go.Abs.WkV.int {a b:Int} (e:a = b):WkV (iv a) (iv b) :=e ▸ WkV.refl _
theorem _root_.Go.Abs.WkV.eq {a b:AV} (e:a = b):WkV a b :=e ▸ WkV.refl _
theorem lenIs_ivs (l:List Int):lenIs (ivs l) (l.length * 1) = true :=by
 have :=lenIs_eq (ivs l)
 rw [ivs_len] at this
 rw [Nat.mul_one];exact this
instance (L u t l):Decidable (kp L u t l) :=Classical.propDecidable _
end
end Go.Abs.Seat
