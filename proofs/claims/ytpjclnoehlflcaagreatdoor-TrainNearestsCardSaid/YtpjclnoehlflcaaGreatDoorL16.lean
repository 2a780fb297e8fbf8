/-
  The law TrainNearests.
-/
import Derived.Test.YtpjclnoehlflcaaGreatDoorU14
/-! The law TrainNearests. -/
namespace Go.Abs.Seat
open Go Go.Abs Go.Proofs.Tryz
set_option maxRecDepth 100000
set_option maxHeartbeats 40000000
attribute [local irreducible] IntKind.wrap pEq

theorem trainNearests (hk : Pure prog 16 [] (.bool true)) (a b p s : Int) (hs : -9223372036854775808 ≤ s ∧ s < 9223372036854775808) {N : AV} {l : List Int} (hN : IL N l) (n d : Int) :
  Pure prog 7 [rv a b p s N, fv n d] (.bool true) := by
 have lN := hN.no
 by_cases h8 : l.length ≤ 8
 ·obtain ⟨bR, iR, rR, eR⟩ := rule_b hN (by omega) a b p s hs
  have iF := isFraction_pure n d
  have rF := rFraction_pure n d
  by_cases hall : rOk a b p s l ∧ isF n d
  ·obtain ⟨ho, hf⟩ := hall
   rw [decide_eq_true hf] at iF rF
   obtain rfl : bR = true := eR.2 ho
   obtain ⟨a, b, p, n, d, rfl, rfl, rfl, rfl, rfl, h1, h2, h3, h4, h5, h6, h7⟩ := rf_nat ho hf
   obtain ⟨pP, pR⟩ := near_both hN (by omega) a b p n d s ho hf
   have hbo := nrT_bo (lets := mny p s) (N := n) (fun x hx => tp_le (a := a) (b := b) (l := l) (by omega) h3 hx) h7.1 p
   clear iR iF eR
   generalize nrT (tp a b l) p (mny p s) n d = o at *
   rcases o with _ | _ | ⟨q, r⟩
   ·have pS := hk
    rcases hN.cs with rfl | rfl
    all_goals
     refine pure_sym hE rfl (by repeat' (first | exact trivial | assumption | exact flat_no _ | exact (fun _ h => nomatch h) | apply And.intro)) (by repeat' (first | exact trivial | assumption | exact flat_no _ | exact (fun _ h => nomatch h) | apply And.intro)) fun S q pc hS hq hC hE => ?_
     conv => whnf
     repeat ((first
      |refine sym_pure hC (slim_yes (by omega)) ?_
      |refine sym_pure hC (pP) ?_
      |refine sym_pure hC (pR) ?_
      |refine sym_pure hC (rR) ?_
      |refine sym_pure hC (rF) ?_
      |refine sym_pure hC (pS) ?_
      |refine sym_pure hC (hk) ?_
      |refine sym_drawn hS (by kernel_rfl) ?_
      |refine sym_eq hq true (eqBool_same _ _) ?_
      |rw [beq_self_eq_true]
      |rw [bne_self_eq_false]); conv => whnf)
     exact ⟨_, rfl, Wk.refl _⟩
   ·have h1 : 1 ≤ 0 ∧ 0 ≤ p := (show RT (tp a b l) p (mny p s) [] from hbo.1).1
    omega
   ·have hlen : (q :: r).length ≤ p := (show RT (tp a b l) p (mny p s) (q :: r) from hbo.1).1.2
    have pS := rSame_pure (q :: r) (q :: r) (by omega)
    rw [decide_eq_true rfl] at pS
    rcases hN.cs with rfl | rfl
    all_goals
     refine pure_sym hE rfl (by repeat' (first | exact trivial | assumption | exact flat_no _ | exact (fun _ h => nomatch h) | apply And.intro)) (by repeat' (first | exact trivial | assumption | exact flat_no _ | exact (fun _ h => nomatch h) | apply And.intro)) fun S q pc hS hq hC hE => ?_
     conv => whnf
     repeat ((first
      |refine sym_pure hC (slim_yes (by omega)) ?_
      |refine sym_pure hC (pP) ?_
      |refine sym_pure hC (pR) ?_
      |refine sym_pure hC (rR) ?_
      |refine sym_pure hC (rF) ?_
      |refine sym_pure hC (pS) ?_
      |refine sym_pure hC (hk) ?_
      |refine sym_drawn hS (by kernel_rfl) ?_
      |refine sym_eq hq true (eqBool_same _ _) ?_
      |rw [beq_self_eq_true]
      |rw [bne_self_eq_false]); conv => whnf)
     exact ⟨_, rfl, Wk.refl _⟩
  ·obtain ⟨bF, eF, iF, rF⟩ : ∃ bF, (bF = true ↔ isF n d) ∧ Pure prog 64 [fv n d] (.bool bF) ∧ Pure prog 19 [fv n d] (.bool bF) := ⟨decide (isF n d), decide_eq_true_iff, iF, rF⟩
   have hno : (bR && bF) = false := by
    rw [Bool.eq_false_iff]
    intro h
    rw [Bool.and_eq_true] at h
    exact hall ⟨eR.1 h.1, eF.1 h.2⟩
   have pP := near_no hN a b p s n d iR iF hno
   have pR := hk
   have pS := hk
   clear eR eF iR iF
   rcases hN with ⟨rfl, rfl⟩ | rfl <;> cases bR <;> cases bF
   all_goals first
    |exact absurd hno (by decide)
    |skip
     refine pure_sym hE rfl (by repeat' (first | exact trivial | assumption | exact flat_no _ | exact (fun _ h => nomatch h) | apply And.intro)) (by repeat' (first | exact trivial | assumption | exact flat_no _ | exact (fun _ h => nomatch h) | apply And.intro)) fun S q pc hS hq hC hE => ?_
     conv => whnf
     repeat ((first
      |refine sym_pure hC (slim_yes (by omega)) ?_
      |refine sym_pure hC (pP) ?_
      |refine sym_pure hC (pR) ?_
      |refine sym_pure hC (rR) ?_
      |refine sym_pure hC (rF) ?_
      |refine sym_pure hC (pS) ?_
      |refine sym_pure hC (hk) ?_
      |refine sym_drawn hS (by kernel_rfl) ?_
      |refine sym_eq hq true (eqBool_same _ _) ?_
      |rw [beq_self_eq_true]
      |rw [bne_self_eq_false]); conv => whnf)
     exact ⟨_, rfl, Wk.refl _⟩
 ·rcases hN with ⟨rfl, rfl⟩ | rfl
  ·exact absurd (Nat.zero_le _) h8
  ·refine pure_sym hE rfl (by repeat' (first | exact trivial | assumption | exact flat_no _ | exact (fun _ h => nomatch h) | apply And.intro)) (by repeat' (first | exact trivial | assumption | exact flat_no _ | exact (fun _ h => nomatch h) | apply And.intro)) fun S q pc hS hq hC hE => ?_
   conv => whnf
   repeat ((first
    |refine sym_pure hC (slim_not (by omega)) ?_
    |refine sym_pure hC (hk) ?_
    |refine sym_drawn hS (by kernel_rfl) ?_
    |refine sym_eq hq true (eqBool_same _ _) ?_
    |rw [beq_self_eq_true]
    |rw [bne_self_eq_false]); conv => whnf)
   exact ⟨_, rfl, Wk.refl _⟩
end Go.Abs.Seat
