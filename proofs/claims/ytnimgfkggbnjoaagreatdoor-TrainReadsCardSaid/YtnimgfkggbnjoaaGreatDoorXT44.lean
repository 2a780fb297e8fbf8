/-
  The nearest fractions of some pairs.
-/
import Derived.Test.YtnimgfkggbnjoaaGreatDoorXU9
/-! The nearest fractions of some pairs. -/
namespace Go.Abs.Seat
noncomputable section
open Go Go.Abs Go.Proofs.Tryz
set_option maxRecDepth 100000
set_option maxHeartbeats 40000000
attribute [local irreducible] IntKind.wrap pEq
section
variable {n d:Nat} {s:NS} {q:Nat × Nat}
end
structure NB (s:NS) (m:Nat):Prop where
 e1:s.2.1 ≤ 10800000000
 e2:s.2.2 ≤ 216000
 ln:s.1.length ≤ m
theorem rnC {m:Nat} {rs:List Nat} {xs:List AV} {k:Nat} {j c e:Nat} (hj:j < rs.length) (h1:rs.getD j 0 = c) (h2:e = m + j) (hx:Lives noL xs):RnV m rs (.lst xs k (.ch c)) (.lst xs k (.ch e)) :=RnV.ch hj h1 h2 (qc1 hx)
theorem NB.one {s:NS} {m n d:Nat} {q:Nat × Nat} (_h:NB s m) (h1:(dQ n d q).1 ≤ 10800000000) (h2:q.2 ≤ 216000):NB ([q],dQ n d q) (m + 1) :=⟨h1,h2,by simp⟩
section
variable (all:List Nat) (c:Nat) (hll:all.length ≤ 216001)
include hll
end
theorem qnm:∀ l:List (Int × Int),wkl (flat l) = flat l
 | [] => by simp only [flat,wkl]
 |p :: r => by simp only [flat,wkl,wk,qnm r]
end
end Go.Abs.Seat

