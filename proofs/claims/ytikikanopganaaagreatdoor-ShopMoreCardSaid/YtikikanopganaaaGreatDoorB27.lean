/-
  New links that somebody proposes.
-/
import Derived.Test.YtikikanopganaaaGreatDoorL32
/-! New links that somebody proposes. -/
namespace Go.Abs.Seat
noncomputable section
open Go Go.Abs Go.Proofs.Tryz
set_option maxRecDepth 100000
set_option maxHeartbeats 40000000
attribute [local irreducible] IntKind.wrap pEq

def lnOk (N : List Lk) (lo hi f a b : Int) : Prop := (0 ≤ f ∧ f ≤ (N.length : Int)) ∧ (tr N f.toNat).length ≤ 2 ∧ (lo ≤ a ∧ a ≤ hi) ∧ lo ≤ b ∧ b ≤ hi
instance (N : List Lk) (lo hi f a b : Int) : Decidable (lnOk N lo hi f a b) := Classical.propDecidable _
theorem trA_cases {N : List Lk} {H : List Nat} (h : pcN N H) {k : Nat} (hk : k ≤ N.length) : (Pure prog 29 [.agg [nkA N, nl (zl H)], nv k] .nils ∧ (tr N k).length = 0) ∨ Pure prog 29 [.agg [nkA N, nl (zl H)], nv k] (pv (zp (tr N k))) := by
 have p := rTrainA_pure h hk
 by_cases h1 : 1 ≤ k
 ·rw [tvA_pos h.ok.wf h1 hk] at p
  exact .inr p
 ·obtain rfl : k = 0 := by omega
  exact .inl ⟨p, rfl⟩
theorem link_pure {N : List Lk} {H : List Nat} (h : pcN N H) (lo hi f a b : Int) : Pure prog 44 [.agg [nkA N, nl (zl H)], iv lo, iv hi, tv3 f a b] (.bool (decide (lnOk N lo hi f a b))) := by
 have lN := lks_no (cL N)
 have lM := ivs_no (zl H)
 by_cases q1 : 0 ≤ f
 ·by_cases q2 : f ≤ (N.length : Int)
  ·have q12 : 0 ≤ f ∧ f ≤ (N.length : Int) := ⟨q1, q2⟩
   obtain ⟨k, rfl, _⟩ := int_nat (m := (N.length : Int)) (a := f) q12
   have c1 : decide (Int.ofNat k ≥ 0) = true := decide_eq_true q1
   have c2 : decide (Int.ofNat k ≤ (N.length : Int)) = true := decide_eq_true q2
   have lT := flat_no (zp (tr N k))
   have hz := zp_len (tr N k)
   rcases trA_cases h (Int.ofNat_le.1 q2) with ⟨pT, hd⟩ | pT
   ·have q3 : (tr N k).length ≤ 2 := by omega
    have c3 : (true : Bool) = true := rfl
    by_cases q4 : lo ≤ a
    ·have c4 : decide (a ≥ lo) = true := decide_eq_true q4
     by_cases q5 : a ≤ hi
     ·have c5 : decide (a ≤ hi) = true := decide_eq_true q5
      by_cases q6 : lo ≤ b
      ·have c6 : decide (b ≥ lo) = true := decide_eq_true q6
       by_cases q7 : b ≤ hi
       ·have c7 : decide (b ≤ hi) = true := decide_eq_true q7
        rw [decide_eq_true (show lnOk N lo hi (Int.ofNat k) a b from ⟨q12, q3, ⟨q4, q5⟩, q6, q7⟩)]
        refine pure_sym hE rfl (by repeat' (first | exact trivial | assumption | exact flat_no _ | exact (fun _ h => nomatch h) | apply And.intro)) (by repeat' (first | exact trivial | assumption | exact flat_no _ | exact (fun _ h => nomatch h) | apply And.intro)) fun S q pc hS hq hC hE => ?_
        conv => whnf
        repeat ((first
         |refine ko_rT c1 ?_
         |refine ko_sF c1 ?_
         |refine plan_as (pick_t c1) ?_
         |refine bool_true c1 ?_
         |refine ko_rT c2 ?_
         |refine ko_sF c2 ?_
         |refine plan_as (pick_t c2) ?_
         |refine bool_true c2 ?_
         |refine ko_rT c3 ?_
         |refine ko_sF c3 ?_
         |refine plan_as (pick_t c3) ?_
         |refine bool_true c3 ?_
         |refine ko_rT c4 ?_
         |refine ko_sF c4 ?_
         |refine plan_as (pick_t c4) ?_
         |refine bool_true c4 ?_
         |refine ko_rT c5 ?_
         |refine ko_sF c5 ?_
         |refine plan_as (pick_t c5) ?_
         |refine bool_true c5 ?_
         |refine ko_rT c6 ?_
         |refine ko_sF c6 ?_
         |refine plan_as (pick_t c6) ?_
         |refine bool_true c6 ?_
         |refine ko_rT c7 ?_
         |refine ko_sF c7 ?_
         |refine plan_as (pick_t c7) ?_
         |refine bool_true c7 ?_
         |refine ko_rT (gd_tt c1) ?_
         |refine ko_sF (gd_tt c1) ?_
         |refine plan_as (pick_t (gd_tt c1)) ?_
         |refine bool_true (gd_tt c1) ?_
         |refine ko_rT (gd_tt c2) ?_
         |refine ko_sF (gd_tt c2) ?_
         |refine plan_as (pick_t (gd_tt c2)) ?_
         |refine bool_true (gd_tt c2) ?_
         |refine ko_rT (gd_tt c3) ?_
         |refine ko_sF (gd_tt c3) ?_
         |refine plan_as (pick_t (gd_tt c3)) ?_
         |refine bool_true (gd_tt c3) ?_
         |refine ko_rT (gd_tt c4) ?_
         |refine ko_sF (gd_tt c4) ?_
         |refine plan_as (pick_t (gd_tt c4)) ?_
         |refine bool_true (gd_tt c4) ?_
         |refine ko_rT (gd_tt c5) ?_
         |refine ko_sF (gd_tt c5) ?_
         |refine plan_as (pick_t (gd_tt c5)) ?_
         |refine bool_true (gd_tt c5) ?_
         |refine ko_rT (gd_tt c6) ?_
         |refine ko_sF (gd_tt c6) ?_
         |refine plan_as (pick_t (gd_tt c6)) ?_
         |refine bool_true (gd_tt c6) ?_
         |refine ko_rT (gd_tt c7) ?_
         |refine ko_sF (gd_tt c7) ?_
         |refine plan_as (pick_t (gd_tt c7)) ?_
         |refine bool_true (gd_tt c7) ?_
         |refine sym_pure hC (pT) ?_
         |refine sym_drawn hS (by kernel_rfl) ?_); conv => whnf)
        exact ⟨_, rfl, wkb c7⟩
       ·have c7 : decide (b ≤ hi) = false := decide_eq_false q7
        rw [decide_eq_false fun z : lnOk N lo hi (Int.ofNat k) a b => q7 z.2.2.2.2]
        refine pure_sym hE rfl (by repeat' (first | exact trivial | assumption | exact flat_no _ | exact (fun _ h => nomatch h) | apply And.intro)) (by repeat' (first | exact trivial | assumption | exact flat_no _ | exact (fun _ h => nomatch h) | apply And.intro)) fun S q pc hS hq hC hE => ?_
        conv => whnf
        repeat ((first
         |refine ko_rT c1 ?_
         |refine ko_sF c1 ?_
         |refine plan_as (pick_t c1) ?_
         |refine bool_true c1 ?_
         |refine ko_rT c2 ?_
         |refine ko_sF c2 ?_
         |refine plan_as (pick_t c2) ?_
         |refine bool_true c2 ?_
         |refine ko_rT c3 ?_
         |refine ko_sF c3 ?_
         |refine plan_as (pick_t c3) ?_
         |refine bool_true c3 ?_
         |refine ko_rT c4 ?_
         |refine ko_sF c4 ?_
         |refine plan_as (pick_t c4) ?_
         |refine bool_true c4 ?_
         |refine ko_rT c5 ?_
         |refine ko_sF c5 ?_
         |refine plan_as (pick_t c5) ?_
         |refine bool_true c5 ?_
         |refine ko_rT c6 ?_
         |refine ko_sF c6 ?_
         |refine plan_as (pick_t c6) ?_
         |refine bool_true c6 ?_
         |refine ko_sT c7 ?_
         |refine ko_rF c7 ?_
         |refine plan_as (pick_f c7) ?_
         |refine bool_false c7 ?_
         |refine ko_rT (gd_tt c1) ?_
         |refine ko_sF (gd_tt c1) ?_
         |refine plan_as (pick_t (gd_tt c1)) ?_
         |refine bool_true (gd_tt c1) ?_
         |refine ko_rT (gd_tt c2) ?_
         |refine ko_sF (gd_tt c2) ?_
         |refine plan_as (pick_t (gd_tt c2)) ?_
         |refine bool_true (gd_tt c2) ?_
         |refine ko_rT (gd_tt c3) ?_
         |refine ko_sF (gd_tt c3) ?_
         |refine plan_as (pick_t (gd_tt c3)) ?_
         |refine bool_true (gd_tt c3) ?_
         |refine ko_rT (gd_tt c4) ?_
         |refine ko_sF (gd_tt c4) ?_
         |refine plan_as (pick_t (gd_tt c4)) ?_
         |refine bool_true (gd_tt c4) ?_
         |refine ko_rT (gd_tt c5) ?_
         |refine ko_sF (gd_tt c5) ?_
         |refine plan_as (pick_t (gd_tt c5)) ?_
         |refine bool_true (gd_tt c5) ?_
         |refine ko_rT (gd_tt c6) ?_
         |refine ko_sF (gd_tt c6) ?_
         |refine plan_as (pick_t (gd_tt c6)) ?_
         |refine bool_true (gd_tt c6) ?_
         |refine ko_sT (gd_tf c7) ?_
         |refine ko_rF (gd_tf c7) ?_
         |refine plan_as (pick_f (gd_tf c7)) ?_
         |refine bool_false (gd_tf c7) ?_
         |refine sym_pure hC (pT) ?_
         |refine sym_drawn hS (by kernel_rfl) ?_); conv => whnf)
        exact ⟨_, rfl, wkb c7⟩
      ·have c6 : decide (b ≥ lo) = false := decide_eq_false q6
       rw [decide_eq_false fun z : lnOk N lo hi (Int.ofNat k) a b => q6 z.2.2.2.1]
       refine pure_sym hE rfl (by repeat' (first | exact trivial | assumption | exact flat_no _ | exact (fun _ h => nomatch h) | apply And.intro)) (by repeat' (first | exact trivial | assumption | exact flat_no _ | exact (fun _ h => nomatch h) | apply And.intro)) fun S q pc hS hq hC hE => ?_
       conv => whnf
       repeat ((first
        |refine ko_rT c1 ?_
        |refine ko_sF c1 ?_
        |refine plan_as (pick_t c1) ?_
        |refine bool_true c1 ?_
        |refine ko_rT c2 ?_
        |refine ko_sF c2 ?_
        |refine plan_as (pick_t c2) ?_
        |refine bool_true c2 ?_
        |refine ko_rT c3 ?_
        |refine ko_sF c3 ?_
        |refine plan_as (pick_t c3) ?_
        |refine bool_true c3 ?_
        |refine ko_rT c4 ?_
        |refine ko_sF c4 ?_
        |refine plan_as (pick_t c4) ?_
        |refine bool_true c4 ?_
        |refine ko_rT c5 ?_
        |refine ko_sF c5 ?_
        |refine plan_as (pick_t c5) ?_
        |refine bool_true c5 ?_
        |refine ko_sT c6 ?_
        |refine ko_rF c6 ?_
        |refine plan_as (pick_f c6) ?_
        |refine bool_false c6 ?_
        |refine ko_rT (gd_tt c1) ?_
        |refine ko_sF (gd_tt c1) ?_
        |refine plan_as (pick_t (gd_tt c1)) ?_
        |refine bool_true (gd_tt c1) ?_
        |refine ko_rT (gd_tt c2) ?_
        |refine ko_sF (gd_tt c2) ?_
        |refine plan_as (pick_t (gd_tt c2)) ?_
        |refine bool_true (gd_tt c2) ?_
        |refine ko_rT (gd_tt c3) ?_
        |refine ko_sF (gd_tt c3) ?_
        |refine plan_as (pick_t (gd_tt c3)) ?_
        |refine bool_true (gd_tt c3) ?_
        |refine ko_rT (gd_tt c4) ?_
        |refine ko_sF (gd_tt c4) ?_
        |refine plan_as (pick_t (gd_tt c4)) ?_
        |refine bool_true (gd_tt c4) ?_
        |refine ko_rT (gd_tt c5) ?_
        |refine ko_sF (gd_tt c5) ?_
        |refine plan_as (pick_t (gd_tt c5)) ?_
        |refine bool_true (gd_tt c5) ?_
        |refine ko_sT (gd_tf c6) ?_
        |refine ko_rF (gd_tf c6) ?_
        |refine plan_as (pick_f (gd_tf c6)) ?_
        |refine bool_false (gd_tf c6) ?_
        |refine sym_pure hC (pT) ?_
        |refine sym_drawn hS (by kernel_rfl) ?_); conv => whnf)
       exact ⟨_, rfl, Wk.refl _⟩
     ·have c5 : decide (a ≤ hi) = false := decide_eq_false q5
      rw [decide_eq_false fun z : lnOk N lo hi (Int.ofNat k) a b => q5 z.2.2.1.2]
      refine pure_sym hE rfl (by repeat' (first | exact trivial | assumption | exact flat_no _ | exact (fun _ h => nomatch h) | apply And.intro)) (by repeat' (first | exact trivial | assumption | exact flat_no _ | exact (fun _ h => nomatch h) | apply And.intro)) fun S q pc hS hq hC hE => ?_
      conv => whnf
      repeat ((first
       |refine ko_rT c1 ?_
       |refine ko_sF c1 ?_
       |refine plan_as (pick_t c1) ?_
       |refine bool_true c1 ?_
       |refine ko_rT c2 ?_
       |refine ko_sF c2 ?_
       |refine plan_as (pick_t c2) ?_
       |refine bool_true c2 ?_
       |refine ko_rT c3 ?_
       |refine ko_sF c3 ?_
       |refine plan_as (pick_t c3) ?_
       |refine bool_true c3 ?_
       |refine ko_rT c4 ?_
       |refine ko_sF c4 ?_
       |refine plan_as (pick_t c4) ?_
       |refine bool_true c4 ?_
       |refine ko_sT c5 ?_
       |refine ko_rF c5 ?_
       |refine plan_as (pick_f c5) ?_
       |refine bool_false c5 ?_
       |refine ko_rT (gd_tt c1) ?_
       |refine ko_sF (gd_tt c1) ?_
       |refine plan_as (pick_t (gd_tt c1)) ?_
       |refine bool_true (gd_tt c1) ?_
       |refine ko_rT (gd_tt c2) ?_
       |refine ko_sF (gd_tt c2) ?_
       |refine plan_as (pick_t (gd_tt c2)) ?_
       |refine bool_true (gd_tt c2) ?_
       |refine ko_rT (gd_tt c3) ?_
       |refine ko_sF (gd_tt c3) ?_
       |refine plan_as (pick_t (gd_tt c3)) ?_
       |refine bool_true (gd_tt c3) ?_
       |refine ko_rT (gd_tt c4) ?_
       |refine ko_sF (gd_tt c4) ?_
       |refine plan_as (pick_t (gd_tt c4)) ?_
       |refine bool_true (gd_tt c4) ?_
       |refine ko_sT (gd_tf c5) ?_
       |refine ko_rF (gd_tf c5) ?_
       |refine plan_as (pick_f (gd_tf c5)) ?_
       |refine bool_false (gd_tf c5) ?_
       |refine sym_pure hC (pT) ?_
       |refine sym_drawn hS (by kernel_rfl) ?_); conv => whnf)
      exact ⟨_, rfl, Wk.refl _⟩
    ·have c4 : decide (a ≥ lo) = false := decide_eq_false q4
     rw [decide_eq_false fun z : lnOk N lo hi (Int.ofNat k) a b => q4 z.2.2.1.1]
     refine pure_sym hE rfl (by repeat' (first | exact trivial | assumption | exact flat_no _ | exact (fun _ h => nomatch h) | apply And.intro)) (by repeat' (first | exact trivial | assumption | exact flat_no _ | exact (fun _ h => nomatch h) | apply And.intro)) fun S q pc hS hq hC hE => ?_
     conv => whnf
     repeat ((first
      |refine ko_rT c1 ?_
      |refine ko_sF c1 ?_
      |refine plan_as (pick_t c1) ?_
      |refine bool_true c1 ?_
      |refine ko_rT c2 ?_
      |refine ko_sF c2 ?_
      |refine plan_as (pick_t c2) ?_
      |refine bool_true c2 ?_
      |refine ko_rT c3 ?_
      |refine ko_sF c3 ?_
      |refine plan_as (pick_t c3) ?_
      |refine bool_true c3 ?_
      |refine ko_sT c4 ?_
      |refine ko_rF c4 ?_
      |refine plan_as (pick_f c4) ?_
      |refine bool_false c4 ?_
      |refine ko_rT (gd_tt c1) ?_
      |refine ko_sF (gd_tt c1) ?_
      |refine plan_as (pick_t (gd_tt c1)) ?_
      |refine bool_true (gd_tt c1) ?_
      |refine ko_rT (gd_tt c2) ?_
      |refine ko_sF (gd_tt c2) ?_
      |refine plan_as (pick_t (gd_tt c2)) ?_
      |refine bool_true (gd_tt c2) ?_
      |refine ko_rT (gd_tt c3) ?_
      |refine ko_sF (gd_tt c3) ?_
      |refine plan_as (pick_t (gd_tt c3)) ?_
      |refine bool_true (gd_tt c3) ?_
      |refine ko_sT (gd_tf c4) ?_
      |refine ko_rF (gd_tf c4) ?_
      |refine plan_as (pick_f (gd_tf c4)) ?_
      |refine bool_false (gd_tf c4) ?_
      |refine sym_pure hC (pT) ?_
      |refine sym_drawn hS (by kernel_rfl) ?_); conv => whnf)
     exact ⟨_, rfl, Wk.refl _⟩
   ·by_cases q3 : (tr N k).length ≤ 2
    ·have c3 : decide (((zp (tr N k)).length : Int) < 3) = true := decide_eq_true (by rw [hz]; omega)
     by_cases q4 : lo ≤ a
     ·have c4 : decide (a ≥ lo) = true := decide_eq_true q4
      by_cases q5 : a ≤ hi
      ·have c5 : decide (a ≤ hi) = true := decide_eq_true q5
       by_cases q6 : lo ≤ b
       ·have c6 : decide (b ≥ lo) = true := decide_eq_true q6
        by_cases q7 : b ≤ hi
        ·have c7 : decide (b ≤ hi) = true := decide_eq_true q7
         rw [decide_eq_true (show lnOk N lo hi (Int.ofNat k) a b from ⟨q12, q3, ⟨q4, q5⟩, q6, q7⟩)]
         refine pure_sym hE rfl (by repeat' (first | exact trivial | assumption | exact flat_no _ | exact (fun _ h => nomatch h) | apply And.intro)) (by repeat' (first | exact trivial | assumption | exact flat_no _ | exact (fun _ h => nomatch h) | apply And.intro)) fun S q pc hS hq hC hE => ?_
         conv => whnf
         repeat ((first
          |refine ko_rT c1 ?_
          |refine ko_sF c1 ?_
          |refine plan_as (pick_t c1) ?_
          |refine bool_true c1 ?_
          |refine ko_rT c2 ?_
          |refine ko_sF c2 ?_
          |refine plan_as (pick_t c2) ?_
          |refine bool_true c2 ?_
          |refine ko_rT c3 ?_
          |refine ko_sF c3 ?_
          |refine plan_as (pick_t c3) ?_
          |refine bool_true c3 ?_
          |refine ko_rT c4 ?_
          |refine ko_sF c4 ?_
          |refine plan_as (pick_t c4) ?_
          |refine bool_true c4 ?_
          |refine ko_rT c5 ?_
          |refine ko_sF c5 ?_
          |refine plan_as (pick_t c5) ?_
          |refine bool_true c5 ?_
          |refine ko_rT c6 ?_
          |refine ko_sF c6 ?_
          |refine plan_as (pick_t c6) ?_
          |refine bool_true c6 ?_
          |refine ko_rT c7 ?_
          |refine ko_sF c7 ?_
          |refine plan_as (pick_t c7) ?_
          |refine bool_true c7 ?_
          |refine ko_rT (gd_tt c1) ?_
          |refine ko_sF (gd_tt c1) ?_
          |refine plan_as (pick_t (gd_tt c1)) ?_
          |refine bool_true (gd_tt c1) ?_
          |refine ko_rT (gd_tt c2) ?_
          |refine ko_sF (gd_tt c2) ?_
          |refine plan_as (pick_t (gd_tt c2)) ?_
          |refine bool_true (gd_tt c2) ?_
          |refine ko_rT (gd_tt c3) ?_
          |refine ko_sF (gd_tt c3) ?_
          |refine plan_as (pick_t (gd_tt c3)) ?_
          |refine bool_true (gd_tt c3) ?_
          |refine ko_rT (gd_tt c4) ?_
          |refine ko_sF (gd_tt c4) ?_
          |refine plan_as (pick_t (gd_tt c4)) ?_
          |refine bool_true (gd_tt c4) ?_
          |refine ko_rT (gd_tt c5) ?_
          |refine ko_sF (gd_tt c5) ?_
          |refine plan_as (pick_t (gd_tt c5)) ?_
          |refine bool_true (gd_tt c5) ?_
          |refine ko_rT (gd_tt c6) ?_
          |refine ko_sF (gd_tt c6) ?_
          |refine plan_as (pick_t (gd_tt c6)) ?_
          |refine bool_true (gd_tt c6) ?_
          |refine ko_rT (gd_tt c7) ?_
          |refine ko_sF (gd_tt c7) ?_
          |refine plan_as (pick_t (gd_tt c7)) ?_
          |refine bool_true (gd_tt c7) ?_
          |refine sym_pure hC (pT) ?_
          |refine sym_drawn hS (by kernel_rfl) ?_); conv => whnf)
         exact ⟨_, rfl, wkb c7⟩
        ·have c7 : decide (b ≤ hi) = false := decide_eq_false q7
         rw [decide_eq_false fun z : lnOk N lo hi (Int.ofNat k) a b => q7 z.2.2.2.2]
         refine pure_sym hE rfl (by repeat' (first | exact trivial | assumption | exact flat_no _ | exact (fun _ h => nomatch h) | apply And.intro)) (by repeat' (first | exact trivial | assumption | exact flat_no _ | exact (fun _ h => nomatch h) | apply And.intro)) fun S q pc hS hq hC hE => ?_
         conv => whnf
         repeat ((first
          |refine ko_rT c1 ?_
          |refine ko_sF c1 ?_
          |refine plan_as (pick_t c1) ?_
          |refine bool_true c1 ?_
          |refine ko_rT c2 ?_
          |refine ko_sF c2 ?_
          |refine plan_as (pick_t c2) ?_
          |refine bool_true c2 ?_
          |refine ko_rT c3 ?_
          |refine ko_sF c3 ?_
          |refine plan_as (pick_t c3) ?_
          |refine bool_true c3 ?_
          |refine ko_rT c4 ?_
          |refine ko_sF c4 ?_
          |refine plan_as (pick_t c4) ?_
          |refine bool_true c4 ?_
          |refine ko_rT c5 ?_
          |refine ko_sF c5 ?_
          |refine plan_as (pick_t c5) ?_
          |refine bool_true c5 ?_
          |refine ko_rT c6 ?_
          |refine ko_sF c6 ?_
          |refine plan_as (pick_t c6) ?_
          |refine bool_true c6 ?_
          |refine ko_sT c7 ?_
          |refine ko_rF c7 ?_
          |refine plan_as (pick_f c7) ?_
          |refine bool_false c7 ?_
          |refine ko_rT (gd_tt c1) ?_
          |refine ko_sF (gd_tt c1) ?_
          |refine plan_as (pick_t (gd_tt c1)) ?_
          |refine bool_true (gd_tt c1) ?_
          |refine ko_rT (gd_tt c2) ?_
          |refine ko_sF (gd_tt c2) ?_
          |refine plan_as (pick_t (gd_tt c2)) ?_
          |refine bool_true (gd_tt c2) ?_
          |refine ko_rT (gd_tt c3) ?_
          |refine ko_sF (gd_tt c3) ?_
          |refine plan_as (pick_t (gd_tt c3)) ?_
          |refine bool_true (gd_tt c3) ?_
          |refine ko_rT (gd_tt c4) ?_
          |refine ko_sF (gd_tt c4) ?_
          |refine plan_as (pick_t (gd_tt c4)) ?_
          |refine bool_true (gd_tt c4) ?_
          |refine ko_rT (gd_tt c5) ?_
          |refine ko_sF (gd_tt c5) ?_
          |refine plan_as (pick_t (gd_tt c5)) ?_
          |refine bool_true (gd_tt c5) ?_
          |refine ko_rT (gd_tt c6) ?_
          |refine ko_sF (gd_tt c6) ?_
          |refine plan_as (pick_t (gd_tt c6)) ?_
          |refine bool_true (gd_tt c6) ?_
          |refine ko_sT (gd_tf c7) ?_
          |refine ko_rF (gd_tf c7) ?_
          |refine plan_as (pick_f (gd_tf c7)) ?_
          |refine bool_false (gd_tf c7) ?_
          |refine sym_pure hC (pT) ?_
          |refine sym_drawn hS (by kernel_rfl) ?_); conv => whnf)
         exact ⟨_, rfl, wkb c7⟩
       ·have c6 : decide (b ≥ lo) = false := decide_eq_false q6
        rw [decide_eq_false fun z : lnOk N lo hi (Int.ofNat k) a b => q6 z.2.2.2.1]
        refine pure_sym hE rfl (by repeat' (first | exact trivial | assumption | exact flat_no _ | exact (fun _ h => nomatch h) | apply And.intro)) (by repeat' (first | exact trivial | assumption | exact flat_no _ | exact (fun _ h => nomatch h) | apply And.intro)) fun S q pc hS hq hC hE => ?_
        conv => whnf
        repeat ((first
         |refine ko_rT c1 ?_
         |refine ko_sF c1 ?_
         |refine plan_as (pick_t c1) ?_
         |refine bool_true c1 ?_
         |refine ko_rT c2 ?_
         |refine ko_sF c2 ?_
         |refine plan_as (pick_t c2) ?_
         |refine bool_true c2 ?_
         |refine ko_rT c3 ?_
         |refine ko_sF c3 ?_
         |refine plan_as (pick_t c3) ?_
         |refine bool_true c3 ?_
         |refine ko_rT c4 ?_
         |refine ko_sF c4 ?_
         |refine plan_as (pick_t c4) ?_
         |refine bool_true c4 ?_
         |refine ko_rT c5 ?_
         |refine ko_sF c5 ?_
         |refine plan_as (pick_t c5) ?_
         |refine bool_true c5 ?_
         |refine ko_sT c6 ?_
         |refine ko_rF c6 ?_
         |refine plan_as (pick_f c6) ?_
         |refine bool_false c6 ?_
         |refine ko_rT (gd_tt c1) ?_
         |refine ko_sF (gd_tt c1) ?_
         |refine plan_as (pick_t (gd_tt c1)) ?_
         |refine bool_true (gd_tt c1) ?_
         |refine ko_rT (gd_tt c2) ?_
         |refine ko_sF (gd_tt c2) ?_
         |refine plan_as (pick_t (gd_tt c2)) ?_
         |refine bool_true (gd_tt c2) ?_
         |refine ko_rT (gd_tt c3) ?_
         |refine ko_sF (gd_tt c3) ?_
         |refine plan_as (pick_t (gd_tt c3)) ?_
         |refine bool_true (gd_tt c3) ?_
         |refine ko_rT (gd_tt c4) ?_
         |refine ko_sF (gd_tt c4) ?_
         |refine plan_as (pick_t (gd_tt c4)) ?_
         |refine bool_true (gd_tt c4) ?_
         |refine ko_rT (gd_tt c5) ?_
         |refine ko_sF (gd_tt c5) ?_
         |refine plan_as (pick_t (gd_tt c5)) ?_
         |refine bool_true (gd_tt c5) ?_
         |refine ko_sT (gd_tf c6) ?_
         |refine ko_rF (gd_tf c6) ?_
         |refine plan_as (pick_f (gd_tf c6)) ?_
         |refine bool_false (gd_tf c6) ?_
         |refine sym_pure hC (pT) ?_
         |refine sym_drawn hS (by kernel_rfl) ?_); conv => whnf)
        exact ⟨_, rfl, Wk.refl _⟩
      ·have c5 : decide (a ≤ hi) = false := decide_eq_false q5
       rw [decide_eq_false fun z : lnOk N lo hi (Int.ofNat k) a b => q5 z.2.2.1.2]
       refine pure_sym hE rfl (by repeat' (first | exact trivial | assumption | exact flat_no _ | exact (fun _ h => nomatch h) | apply And.intro)) (by repeat' (first | exact trivial | assumption | exact flat_no _ | exact (fun _ h => nomatch h) | apply And.intro)) fun S q pc hS hq hC hE => ?_
       conv => whnf
       repeat ((first
        |refine ko_rT c1 ?_
        |refine ko_sF c1 ?_
        |refine plan_as (pick_t c1) ?_
        |refine bool_true c1 ?_
        |refine ko_rT c2 ?_
        |refine ko_sF c2 ?_
        |refine plan_as (pick_t c2) ?_
        |refine bool_true c2 ?_
        |refine ko_rT c3 ?_
        |refine ko_sF c3 ?_
        |refine plan_as (pick_t c3) ?_
        |refine bool_true c3 ?_
        |refine ko_rT c4 ?_
        |refine ko_sF c4 ?_
        |refine plan_as (pick_t c4) ?_
        |refine bool_true c4 ?_
        |refine ko_sT c5 ?_
        |refine ko_rF c5 ?_
        |refine plan_as (pick_f c5) ?_
        |refine bool_false c5 ?_
        |refine ko_rT (gd_tt c1) ?_
        |refine ko_sF (gd_tt c1) ?_
        |refine plan_as (pick_t (gd_tt c1)) ?_
        |refine bool_true (gd_tt c1) ?_
        |refine ko_rT (gd_tt c2) ?_
        |refine ko_sF (gd_tt c2) ?_
        |refine plan_as (pick_t (gd_tt c2)) ?_
        |refine bool_true (gd_tt c2) ?_
        |refine ko_rT (gd_tt c3) ?_
        |refine ko_sF (gd_tt c3) ?_
        |refine plan_as (pick_t (gd_tt c3)) ?_
        |refine bool_true (gd_tt c3) ?_
        |refine ko_rT (gd_tt c4) ?_
        |refine ko_sF (gd_tt c4) ?_
        |refine plan_as (pick_t (gd_tt c4)) ?_
        |refine bool_true (gd_tt c4) ?_
        |refine ko_sT (gd_tf c5) ?_
        |refine ko_rF (gd_tf c5) ?_
        |refine plan_as (pick_f (gd_tf c5)) ?_
        |refine bool_false (gd_tf c5) ?_
        |refine sym_pure hC (pT) ?_
        |refine sym_drawn hS (by kernel_rfl) ?_); conv => whnf)
       exact ⟨_, rfl, Wk.refl _⟩
     ·have c4 : decide (a ≥ lo) = false := decide_eq_false q4
      rw [decide_eq_false fun z : lnOk N lo hi (Int.ofNat k) a b => q4 z.2.2.1.1]
      refine pure_sym hE rfl (by repeat' (first | exact trivial | assumption | exact flat_no _ | exact (fun _ h => nomatch h) | apply And.intro)) (by repeat' (first | exact trivial | assumption | exact flat_no _ | exact (fun _ h => nomatch h) | apply And.intro)) fun S q pc hS hq hC hE => ?_
      conv => whnf
      repeat ((first
       |refine ko_rT c1 ?_
       |refine ko_sF c1 ?_
       |refine plan_as (pick_t c1) ?_
       |refine bool_true c1 ?_
       |refine ko_rT c2 ?_
       |refine ko_sF c2 ?_
       |refine plan_as (pick_t c2) ?_
       |refine bool_true c2 ?_
       |refine ko_rT c3 ?_
       |refine ko_sF c3 ?_
       |refine plan_as (pick_t c3) ?_
       |refine bool_true c3 ?_
       |refine ko_sT c4 ?_
       |refine ko_rF c4 ?_
       |refine plan_as (pick_f c4) ?_
       |refine bool_false c4 ?_
       |refine ko_rT (gd_tt c1) ?_
       |refine ko_sF (gd_tt c1) ?_
       |refine plan_as (pick_t (gd_tt c1)) ?_
       |refine bool_true (gd_tt c1) ?_
       |refine ko_rT (gd_tt c2) ?_
       |refine ko_sF (gd_tt c2) ?_
       |refine plan_as (pick_t (gd_tt c2)) ?_
       |refine bool_true (gd_tt c2) ?_
       |refine ko_rT (gd_tt c3) ?_
       |refine ko_sF (gd_tt c3) ?_
       |refine plan_as (pick_t (gd_tt c3)) ?_
       |refine bool_true (gd_tt c3) ?_
       |refine ko_sT (gd_tf c4) ?_
       |refine ko_rF (gd_tf c4) ?_
       |refine plan_as (pick_f (gd_tf c4)) ?_
       |refine bool_false (gd_tf c4) ?_
       |refine sym_pure hC (pT) ?_
       |refine sym_drawn hS (by kernel_rfl) ?_); conv => whnf)
      exact ⟨_, rfl, Wk.refl _⟩
    ·have c3 : decide (((zp (tr N k)).length : Int) < 3) = false := decide_eq_false (by rw [hz]; omega)
     rw [decide_eq_false fun z : lnOk N lo hi (Int.ofNat k) a b => q3 z.2.1]
     refine pure_sym hE rfl (by repeat' (first | exact trivial | assumption | exact flat_no _ | exact (fun _ h => nomatch h) | apply And.intro)) (by repeat' (first | exact trivial | assumption | exact flat_no _ | exact (fun _ h => nomatch h) | apply And.intro)) fun S q pc hS hq hC hE => ?_
     conv => whnf
     repeat ((first
      |refine ko_rT c1 ?_
      |refine ko_sF c1 ?_
      |refine plan_as (pick_t c1) ?_
      |refine bool_true c1 ?_
      |refine ko_rT c2 ?_
      |refine ko_sF c2 ?_
      |refine plan_as (pick_t c2) ?_
      |refine bool_true c2 ?_
      |refine ko_sT c3 ?_
      |refine ko_rF c3 ?_
      |refine plan_as (pick_f c3) ?_
      |refine bool_false c3 ?_
      |refine ko_rT (gd_tt c1) ?_
      |refine ko_sF (gd_tt c1) ?_
      |refine plan_as (pick_t (gd_tt c1)) ?_
      |refine bool_true (gd_tt c1) ?_
      |refine ko_rT (gd_tt c2) ?_
      |refine ko_sF (gd_tt c2) ?_
      |refine plan_as (pick_t (gd_tt c2)) ?_
      |refine bool_true (gd_tt c2) ?_
      |refine ko_sT (gd_tf c3) ?_
      |refine ko_rF (gd_tf c3) ?_
      |refine plan_as (pick_f (gd_tf c3)) ?_
      |refine bool_false (gd_tf c3) ?_
      |refine sym_pure hC (pT) ?_
      |refine sym_drawn hS (by kernel_rfl) ?_); conv => whnf)
     exact ⟨_, rfl, Wk.refl _⟩
  ·have c1 : decide (f ≥ 0) = true := decide_eq_true q1
   have c2 : decide (f ≤ (N.length : Int)) = false := decide_eq_false q2
   rw [decide_eq_false fun z : lnOk N lo hi f a b => q2 z.1.2]
   refine pure_sym hE rfl (by repeat' (first | exact trivial | assumption | exact flat_no _ | exact (fun _ h => nomatch h) | apply And.intro)) (by repeat' (first | exact trivial | assumption | exact flat_no _ | exact (fun _ h => nomatch h) | apply And.intro)) fun S q pc hS hq hC hE => ?_
   conv => whnf
   repeat ((first
    |refine ko_rT c1 ?_
    |refine ko_sF c1 ?_
    |refine plan_as (pick_t c1) ?_
    |refine bool_true c1 ?_
    |refine ko_sT c2 ?_
    |refine ko_rF c2 ?_
    |refine plan_as (pick_f c2) ?_
    |refine bool_false c2 ?_
    |refine ko_rT (gd_tt c1) ?_
    |refine ko_sF (gd_tt c1) ?_
    |refine plan_as (pick_t (gd_tt c1)) ?_
    |refine bool_true (gd_tt c1) ?_
    |refine ko_sT (gd_tf c2) ?_
    |refine ko_rF (gd_tf c2) ?_
    |refine plan_as (pick_f (gd_tf c2)) ?_
    |refine bool_false (gd_tf c2) ?_
    |refine sym_drawn hS (by kernel_rfl) ?_); conv => whnf)
   exact ⟨_, rfl, Wk.refl _⟩
 ·have c1 : decide (f ≥ 0) = false := decide_eq_false q1
  rw [decide_eq_false fun z : lnOk N lo hi f a b => q1 z.1.1]
  refine pure_sym hE rfl (by repeat' (first | exact trivial | assumption | exact flat_no _ | exact (fun _ h => nomatch h) | apply And.intro)) (by repeat' (first | exact trivial | assumption | exact flat_no _ | exact (fun _ h => nomatch h) | apply And.intro)) fun S q pc hS hq hC hE => ?_
  conv => whnf
  repeat ((first
   |refine ko_sT c1 ?_
   |refine ko_rF c1 ?_
   |refine plan_as (pick_f c1) ?_
   |refine bool_false c1 ?_
   |refine ko_sT (gd_tf c1) ?_
   |refine ko_rF (gd_tf c1) ?_
   |refine plan_as (pick_f (gd_tf c1)) ?_
   |refine bool_false (gd_tf c1) ?_
   |refine sym_drawn hS (by kernel_rfl) ?_); conv => whnf)
  exact ⟨_, rfl, Wk.refl _⟩
end
end Go.Abs.Seat
