/-
  The law ShopAdds.
-/
import Derived.Test.YtikikanopganaaaGreatDoorB26
/-! The law ShopAdds. -/
namespace Go.Abs.Seat
noncomputable section
open Go Go.Abs Go.Proofs.Tryz
set_option maxRecDepth 100000
set_option maxHeartbeats 40000000
attribute [local irreducible] IntKind.wrap pEq

abbrev tv3 (a b c : Int) : AV := .agg [iv a, iv b, iv c]
def rgOk (a b : Int) : Prop := (tth a ∧ tth b) ∧ a ≤ b
end
end Go.Abs.Seat
