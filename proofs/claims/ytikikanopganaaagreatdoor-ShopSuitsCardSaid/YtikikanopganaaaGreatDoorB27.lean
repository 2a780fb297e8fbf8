/-
  New links that somebody proposes.
-/
import Derived.Test.YtikikanopganaaaGreatDoorU15
/-! New links that somebody proposes. -/
namespace Go.Abs.Seat
noncomputable section
open Go Go.Abs Go.Proofs.Tryz
set_option maxRecDepth 100000
set_option maxHeartbeats 40000000
attribute [local irreducible] IntKind.wrap pEq

def lnOk (N : List Lk) (lo hi f a b : Int) : Prop := (0 ≤ f ∧ f ≤ (N.length : Int)) ∧ (tr N f.toNat).length ≤ 2 ∧ (lo ≤ a ∧ a ≤ hi) ∧ lo ≤ b ∧ b ≤ hi
instance (N : List Lk) (lo hi f a b : Int) : Decidable (lnOk N lo hi f a b) := Classical.propDecidable _
end
end Go.Abs.Seat
