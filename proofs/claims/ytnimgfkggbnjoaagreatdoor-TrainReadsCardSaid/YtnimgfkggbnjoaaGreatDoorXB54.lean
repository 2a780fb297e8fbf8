/-
  Books of accounts: what must be paid.
-/
import Derived.Test.YtnimgfkggbnjoaaGreatDoorXU11
import Derived.Test.YtnimgfkggbnjoaaGreatDoorXU5
namespace Go.Abs.Seat
noncomputable section
open Go Go.Abs Go.Proofs.Tryz
set_option maxRecDepth 100000
set_option maxHeartbeats 40000000
attribute [local irreducible] IntKind.wrap pEq
structure LfI (E X:List LkI) (a:Int) (i:Nat) (at':Int) (many:Nat):Prop where
 le:many ≤ i
 z:many = 0 → ∀ j,j < i → opn X j → ¬ tch (gL E j) a
 o:many = 1 → ∃ p,at' = Int.ofNat p ∧ (p < i ∧ opn X p ∧ tch (gL E p) a) ∧ ∀ j,j < i → opn X j → tch (gL E j) a → j = p
 t:2 ≤ many → ∃ p q,p < q ∧ q < i ∧ (opn X p ∧ tch (gL E p) a) ∧ opn X q ∧ tch (gL E q) a
theorem LfI.no {E X:List LkI} {a:Int} {i:Nat} {at':Int} {many:Nat} (h:LfI E X a i at' many) (hn:¬ (opn X i ∧ tch (gL E i) a)):LfI E X a (i + 1) at' many :=by
 have ne:∀ j,opn X j → tch (gL E j) a → j ≠ i :=fun j oj tj e => hn (by subst e;exact ⟨oj,tj⟩)
 refine ⟨by have :=h.le;omega,fun z j hj oj tj => h.z z j (by have :=ne j oj tj;omega) oj tj,fun z => ?_,fun z => ?_⟩
 ·obtain ⟨p,h1,⟨h2,h3⟩,h4⟩ :=h.o z
  exact ⟨p,h1,⟨by omega,h3⟩,fun j hj oj tj => h4 j (by have :=ne j oj tj;omega) oj tj⟩
 ·obtain ⟨p,q,h1,h2,h3⟩ :=h.t z
  exact ⟨p,q,h1,by omega,h3⟩
end
end Go.Abs.Seat
