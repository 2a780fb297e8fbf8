/-
  Books of accounts: what must be paid.
-/
import Derived.Test.YtlmadgdonalncaaGreatDoorU12
import Derived.Test.YtlmadgdonalncaaGreatDoorU5
namespace Go.Abs.Seat
noncomputable section
open Go Go.Abs Go.Proofs.Tryz
set_option maxRecDepth 100000
set_option maxHeartbeats 40000000
attribute [local irreducible] IntKind.wrap pEq
theorem qiy:∀ (X:List LkI) {i:Nat},i < X.length → (lks X)[i * 3]? = some (iv (gL X i).1) ∧ (lks X)[i * 3 + 1]? = some (iv (gL X i).2.1) ∧ (lks X)[i * 3 + 2]? = some (iv (gL X i).2.2)
 | [],_,h => absurd h (Nat.not_lt_zero _)
 |x :: r,0,_ => ⟨rfl,rfl,rfl⟩
 |x :: r,i + 1,h => by
  have :=qiy r (i :=i) (Nat.lt_of_succ_lt_succ h)
  rw [show (i + 1) * 3 = i * 3 + 3 by omega,show i * 3 + 3 + 1 = i * 3 + 1 + 3 by omega,show i * 3 + 3 + 2 = i * 3 + 2 + 3 by omega]
  exact this
theorem qm6:∀ (X:List LkI) {i:Nat} (c:Int),i < X.length → ∀ j,(lks (X.set i ((gL X i).1,(gL X i).2.1,c)))[j]? = if j = i * 3 + 2 then some (iv c) else (lks X)[j]?
 | [],_,_,h,_ => absurd h (Nat.not_lt_zero _)
 |x :: r,0,c,_,j => by
  rcases j with _ | _ | _ | j
  ·rfl
  ·rfl
  ·rfl
  ·rw [if_neg (by omega)];rfl
 |x :: r,i + 1,c,h,j => by
  have ih :=qm6 r (i :=i) c (Nat.lt_of_succ_lt_succ h)
  rcases j with _ | _ | _ | j
  ·rw [if_neg (by omega)];rfl
  ·rw [if_neg (by omega)];rfl
  ·rw [if_neg (by omega)];rfl
  ·have h1:(lks ((x :: r).set (i + 1) ((gL (x :: r) (i + 1)).1,(gL (x :: r) (i + 1)).2.1,c)))[j + 3]? = (lks (r.set i ((gL r i).1,(gL r i).2.1,c)))[j]? :=rfl
   have h2:(lks (x :: r))[j + 3]? = (lks r)[j]? :=rfl
   rw [h1,h2,ih]
   by_cases e:j = i * 3 + 2
   ·rw [if_pos e,if_pos (by omega)]
   ·rw [if_neg e,if_neg (by omega)]
theorem qfq (L:List LkI):qb0 (L.length * 3) (lks L) = some (lks L) :=by
 have :=qji L L.length (Nat.le_refl _)
 rwa [List.take_length] at this
theorem qc4:∀ l:List LkI,qc2 (lks l) = true
 | [] => rfl
 | _ :: r => qc4 r
structure LfI (E X:List LkI) (a:Int) (i:Nat) (at':Int) (many:Nat):Prop where
 le:many ≤ i
 z:many = 0 → ∀ j,j < i → opn X j → ¬ tch (gL E j) a
 o:many = 1 → ∃ p,at' = Int.ofNat p ∧ (p < i ∧ opn X p ∧ tch (gL E p) a) ∧ ∀ j,j < i → opn X j → tch (gL E j) a → j = p
 t:2 ≤ many → ∃ p q,p < q ∧ q < i ∧ (opn X p ∧ tch (gL E p) a) ∧ opn X q ∧ tch (gL E q) a
theorem LfI.init {E X:List LkI} {a:Int}:LfI E X a 0 (-1) 0 :=⟨Nat.le_refl _,fun _ _ h => absurd h (Nat.not_lt_zero _),fun h => absurd h (by decide),fun h => absurd h (by decide)⟩
theorem LfI.no {E X:List LkI} {a:Int} {i:Nat} {at':Int} {many:Nat} (h:LfI E X a i at' many) (hn:¬ (opn X i ∧ tch (gL E i) a)):LfI E X a (i + 1) at' many :=by
 have ne:∀ j,opn X j → tch (gL E j) a → j ≠ i :=fun j oj tj e => hn (by subst e;exact ⟨oj,tj⟩)
 refine ⟨by have :=h.le;omega,fun z j hj oj tj => h.z z j (by have :=ne j oj tj;omega) oj tj,fun z => ?_,fun z => ?_⟩
 ·obtain ⟨p,h1,⟨h2,h3⟩,h4⟩ :=h.o z
  exact ⟨p,h1,⟨by omega,h3⟩,fun j hj oj tj => h4 j (by have :=ne j oj tj;omega) oj tj⟩
 ·obtain ⟨p,q,h1,h2,h3⟩ :=h.t z
  exact ⟨p,q,h1,by omega,h3⟩
end
end Go.Abs.Seat
