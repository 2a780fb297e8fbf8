/-
  The nearest fractions of some pairs.
-/
import Derived.Test.YtcnidgafdonioaaGreatVU13
/-! The nearest fractions of some pairs. -/
namespace Go.Abs.Seat
noncomputable section
open Go Go.Abs Go.Proofs.Tryz
set_option maxRecDepth 100000
set_option maxHeartbeats 40000000
attribute [local irreducible] IntKind.wrap pEq
section
variable {n d:Nat} {s:NS} {q:Nat × Nat}
end
structure NB (s:NS) (m:Nat):Prop where
 e1:s.2.1 ≤ 10800000000
 e2:s.2.2 ≤ 216000
 ln:s.1.length ≤ m
theorem NB.one {s:NS} {m n d:Nat} {q:Nat × Nat} (_h:NB s m) (h1:(dQ n d q).1 ≤ 10800000000) (h2:q.2 ≤ 216000):NB ([q],dQ n d q) (m + 1) :=⟨h1,h2,by simp⟩
section
variable (all:List Nat) (c:Nat) (hll:all.length ≤ 216001)
include hll
end
end
end Go.Abs.Seat

