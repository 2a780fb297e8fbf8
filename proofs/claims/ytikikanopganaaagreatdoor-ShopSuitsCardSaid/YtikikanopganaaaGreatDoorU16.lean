/-
  The best new link is the first one of the nearest: plain.
  A wider range: changes, plain.
  The law ShopNewer.
-/
import Derived.Test.YtikikanopganaaaGreatDoorB27
import Derived.Test.YtikikanopganaaaGreatDoorU12
import Derived.Test.YtikikanopganaaaGreatDoorU8
/-! The best new link is the first one of the nearest: plain. -/
namespace Go.Abs.Seat
noncomputable section
open Go Go.Abs Go.Proofs.Tryz
set_option maxRecDepth 100000
set_option maxHeartbeats 4000000

def ltK (x y : Lk) : Prop := x.1 < y.1 ∨ x.1 = y.1 ∧ (x.2.1 < y.2.1 ∨ x.2.1 = y.2.1 ∧ x.2.2 < y.2.2)
theorem ltK_as {x y : Lk} (h : ltK x y) : ¬ ltK y x := by unfold ltK at *; omega
end
end Go.Abs.Seat

/-! A wider range: changes, plain. -/
namespace Go.Abs.Seat
noncomputable section
open Go Go.Abs Go.Proofs.Tryz
set_option maxRecDepth 100000
set_option maxHeartbeats 40000000
attribute [local irreducible] IntKind.wrap pEq

theorem fstO_is {α : Type} {f : Nat → Option α} : ∀ {n k : Nat}, (∃ x, fstO f k n = some x) ↔ ∃ j x, k ≤ j ∧ j < k + n ∧ f j = some x
 | 0, k => ⟨fun ⟨_, h⟩ => (by cases h), fun ⟨j, _, h1, h2, _⟩ => by omega⟩
 |n + 1, k => by
  rw [fstO]
  cases e : f k with
  |some y => exact ⟨fun _ => ⟨k, y, Nat.le_refl _, by omega, e⟩, fun _ => ⟨y, rfl⟩⟩
  |none =>
   show (∃ x, fstO f (k + 1) n = some x) ↔ _
   rw [fstO_is]
   constructor
   ·rintro ⟨j, x, h1, h2, h3⟩; exact ⟨j, x, by omega, by omega, h3⟩
   ·rintro ⟨j, x, h1, h2, h3⟩
    by_cases ej : j = k
    ·subst ej; rw [e] at h3; cases h3
    ·exact ⟨j, x, by omega, by omega, h3⟩
theorem wide_pure (a b : Int) {x : Bool} (p : Pure prog 42 [iv a, iv b] (.bool x)) : Pure prog 49 [iv a, iv b] (.bool (x && decide (IntKind.i64.wrap (b - a) ≤ 10))) := by
 cases x
 all_goals
  refine pure_sym hE rfl (by repeat' (first | exact trivial | assumption | exact flat_no _ | exact (fun _ h => nomatch h) | apply And.intro)) (by repeat' (first | exact trivial | assumption | exact flat_no _ | exact (fun _ h => nomatch h) | apply And.intro)) fun S q pc hS hq hC hE => ?_
  conv => whnf
  repeat ((first
   |refine sym_pure hC (p) ?_
   |refine sym_drawn hS (by kernel_rfl) ?_
   |refine sym_eq hq true (eqBool_same _ _) ?_
   |rw [beq_self_eq_true]
   |rw [bne_self_eq_false]); conv => whnf)
  exact ⟨_, rfl, Wk.refl _⟩
end
end Go.Abs.Seat

/-! The law ShopNewer. -/
namespace Go.Abs.Seat
noncomputable section
open Go Go.Abs Go.Proofs.Tryz
set_option maxRecDepth 100000
set_option maxHeartbeats 40000000
attribute [local irreducible] IntKind.wrap pEq

end
end Go.Abs.Seat
