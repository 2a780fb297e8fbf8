/-
  New links, as the document tells them.
-/
import Derived.Test.YtikikanopganaaaGreatDoorU11
import Derived.Test.YtikikanopganaaaGreatDoorB7
import Derived.Test.YtikikanopganaaaGreatDoorB9
/-! New links, as the document tells them. -/
namespace Go.Abs.Seat
noncomputable section
open Go Go.Abs Go.Proofs.Tryz
set_option maxRecDepth 100000
set_option maxHeartbeats 40000000
attribute [local irreducible] IntKind.wrap pEq

theorem rRange_pure (a b : Int) : Pure prog 42 [iv a, iv b] (.bool (decide ((tth a ∧ tth b) ∧ a ≤ b))) := by
 by_cases h1 : tth a
 ·have c1 : decide (tth a) = true := decide_eq_true h1
  by_cases h2 : tth b
  ·have c2 : decide (tth b) = true := decide_eq_true h2
   refine pure_sym hE rfl (by repeat' (first | exact trivial | assumption | exact flat_no _ | exact (fun _ h => nomatch h) | apply And.intro)) (by repeat' (first | exact trivial | assumption | exact flat_no _ | exact (fun _ h => nomatch h) | apply And.intro)) fun S q pc hS hq hC hE => ?_
   conv => whnf
   repeat ((first
    |refine ko_rT c1 ?_
    |refine ko_sF c1 ?_
    |refine plan_as (pick_t c1) ?_
    |refine bool_true c1 ?_
    |refine ko_rT c2 ?_
    |refine ko_sF c2 ?_
    |refine plan_as (pick_t c2) ?_
    |refine bool_true c2 ?_
    |refine ko_rT (gd_tt c1) ?_
    |refine ko_sF (gd_tt c1) ?_
    |refine plan_as (pick_t (gd_tt c1)) ?_
    |refine bool_true (gd_tt c1) ?_
    |refine ko_rT (gd_tt c2) ?_
    |refine ko_sF (gd_tt c2) ?_
    |refine plan_as (pick_t (gd_tt c2)) ?_
    |refine bool_true (gd_tt c2) ?_
    |refine sym_pure hC (rTeeth_pure a) ?_
    |refine sym_pure hC (rTeeth_pure b) ?_
    |refine sym_drawn hS (by kernel_rfl) ?_); conv => whnf)
   exact ⟨_, rfl, wkb (by simp [h1, h2])⟩
  ·have c2 : decide (tth b) = false := decide_eq_false h2
   refine pure_sym hE rfl (by repeat' (first | exact trivial | assumption | exact flat_no _ | exact (fun _ h => nomatch h) | apply And.intro)) (by repeat' (first | exact trivial | assumption | exact flat_no _ | exact (fun _ h => nomatch h) | apply And.intro)) fun S q pc hS hq hC hE => ?_
   conv => whnf
   repeat ((first
    |refine ko_rT c1 ?_
    |refine ko_sF c1 ?_
    |refine plan_as (pick_t c1) ?_
    |refine bool_true c1 ?_
    |refine ko_sT c2 ?_
    |refine ko_rF c2 ?_
    |refine plan_as (pick_f c2) ?_
    |refine bool_false c2 ?_
    |refine ko_rT (gd_tt c1) ?_
    |refine ko_sF (gd_tt c1) ?_
    |refine plan_as (pick_t (gd_tt c1)) ?_
    |refine bool_true (gd_tt c1) ?_
    |refine ko_sT (gd_tf c2) ?_
    |refine ko_rF (gd_tf c2) ?_
    |refine plan_as (pick_f (gd_tf c2)) ?_
    |refine bool_false (gd_tf c2) ?_
    |refine sym_pure hC (rTeeth_pure a) ?_
    |refine sym_pure hC (rTeeth_pure b) ?_
    |refine sym_drawn hS (by kernel_rfl) ?_); conv => whnf)
   exact ⟨_, rfl, wkb (by simp [h2])⟩
 ·have c1 : decide (tth a) = false := decide_eq_false h1
  refine pure_sym hE rfl (by repeat' (first | exact trivial | assumption | exact flat_no _ | exact (fun _ h => nomatch h) | apply And.intro)) (by repeat' (first | exact trivial | assumption | exact flat_no _ | exact (fun _ h => nomatch h) | apply And.intro)) fun S q pc hS hq hC hE => ?_
  conv => whnf
  repeat ((first
   |refine ko_sT c1 ?_
   |refine ko_rF c1 ?_
   |refine plan_as (pick_f c1) ?_
   |refine bool_false c1 ?_
   |refine ko_sT (gd_tf c1) ?_
   |refine ko_rF (gd_tf c1) ?_
   |refine plan_as (pick_f (gd_tf c1)) ?_
   |refine bool_false (gd_tf c1) ?_
   |refine sym_pure hC (rTeeth_pure a) ?_
   |refine sym_drawn hS (by kernel_rfl) ?_); conv => whnf)
  exact ⟨_, rfl, wkb (by simp [h1])⟩
structure nwK (N : List Lk) (x : Lk) : Prop where
 f : x.1 ≤ N.length
 l : (tr N x.1).length ≤ 2
 a : tN x.2.1
 b : tN x.2.2
end
end Go.Abs.Seat
