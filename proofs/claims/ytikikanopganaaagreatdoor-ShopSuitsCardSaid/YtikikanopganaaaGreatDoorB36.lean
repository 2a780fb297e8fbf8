/-
  Which list of changes comes before.
-/
import Derived.Test.YtikikanopganaaaGreatDoorB35
/-! Which list of changes comes before. -/
namespace Go.Abs.Seat
noncomputable section
open Go Go.Abs Go.Proofs.Tryz
set_option maxRecDepth 100000
set_option maxHeartbeats 40000000
attribute [local irreducible] IntKind.wrap pEq

theorem eqCg_ne (cst : Bool) {x y : Lk} (h : x ≠ y) : q0 66 cst (lkV x) (lkV y) = some false := by
 show q0 66 cst (tv3 (Int.ofNat x.1) (Int.ofNat x.2.1) (Int.ofNat x.2.2)) (tv3 (Int.ofNat y.1) (Int.ofNat y.2.1) (Int.ofNat y.2.2)) = _
 rw [eqCg]
 by_cases h1 : Int.ofNat x.1 = Int.ofNat y.1
 ·rw [show (Int.ofNat x.1 == Int.ofNat y.1) = true from beq_iff_eq.2 h1]
  by_cases h2 : Int.ofNat x.2.1 = Int.ofNat y.2.1
  ·rw [show (Int.ofNat x.2.1 == Int.ofNat y.2.1) = true from beq_iff_eq.2 h2]
   by_cases h3 : Int.ofNat x.2.2 = Int.ofNat y.2.2
   ·exact absurd (Prod.ext (Int.ofNat.inj h1) (Prod.ext (Int.ofNat.inj h2) (Int.ofNat.inj h3))) h
   ·rw [show (Int.ofNat x.2.2 == Int.ofNat y.2.2) = false from beq_eq_false_iff_ne.2 h3]
  ·rw [show (Int.ofNat x.2.1 == Int.ofNat y.2.1) = false from beq_eq_false_iff_ne.2 h2]
 ·rw [show (Int.ofNat x.1 == Int.ofNat y.1) = false from beq_eq_false_iff_ne.2 h1]
instance (x y : Lk) : Decidable (ltK x y) := by unfold ltK; infer_instance
def soonB : List Lk → List Lk → Bool
 |x :: a, y :: b => if x = y then soonB a b else decide (ltK x y)
 | _, _ => false
theorem ltK_b {x y : Lk} {bb : Bool} (h : bb = true ↔ ordP (Int.ofNat x.2.1) (Int.ofNat x.2.2) (Int.ofNat y.2.1) (Int.ofNat y.2.2) < 0) (e : x.1 = y.1) : decide (ltK x y) = bb := by
 rw [Bool.eq_iff_iff, decide_eq_true_iff, h, ordP_lt]
 unfold ltK
 constructor
 ·rintro (q | ⟨_, q | ⟨q1, q2⟩⟩)
  ·omega
  ·exact .inl (Int.ofNat_lt.2 q)
  ·exact .inr ⟨congrArg Int.ofNat q1, Int.ofNat_lt.2 q2⟩
 ·rintro (q | ⟨q1, q2⟩)
  ·exact .inr ⟨e, .inl (Int.ofNat_lt.1 q)⟩
  ·exact .inr ⟨e, .inr ⟨Int.ofNat.inj q1, Int.ofNat_lt.1 q2⟩⟩
theorem lsooner_pure {va vb : AV} {a b : List Lk} (ha : gV va a) (hb : gV vb b) (he : a.length = b.length) (h2 : a.length ≤ 2) : Pure prog 54 [va, vb] (.bool (soonB a b)) := by
 have la := lks_no (cL a)
 have lb := lks_no (cL b)
 rcases ha with rfl | ⟨rfl, rfl⟩
 ·rcases hb with rfl | ⟨rfl, rfl⟩
  rotate_left
  ·obtain rfl : a = [] := List.eq_nil_of_length_eq_zero he
   show Pure prog _ _ (.bool false)
   refine pure_sym hE rfl (by repeat' (first | exact trivial | assumption | exact flat_no _ | exact (fun _ h => nomatch h) | apply And.intro)) (by repeat' (first | exact trivial | assumption | exact flat_no _ | exact (fun _ h => nomatch h) | apply And.intro)) fun S q pc hS hq hC hE => ?_
   conv => whnf
   refine sym_unroll hE hS ?_
   conv => whnf
   exact ⟨_, rfl, Wk.refl _⟩
  ·refine pure_sym hE rfl (by repeat' (first | exact trivial | assumption | exact flat_no _ | exact (fun _ h => nomatch h) | apply And.intro)) (by repeat' (first | exact trivial | assumption | exact flat_no _ | exact (fun _ h => nomatch h) | apply And.intro)) fun S q pc hS hq hC hE => ?_
   conv => whnf
   refine sym_loop hE hS (A := Nat) [0, 1] (fun i => [(5, nv i)]) (fun _ => []) (fun i => i ≤ a.length ∧ soonB (a.drop i) (b.drop i) = soonB a b) (fun i => a.length - i) 0 rfl rfl (by refine ⟨rfl, rfl, rfl, rfl, ?_, ?_⟩ <;> repeat' (first | exact trivial | exact rfl | exact Nat.zero_le _ | exact bdl_no la | exact bdl_no lb | exact Nat.le_of_ble_eq_true rfl | exact bdl_no (by assumption) | exact bdl_no (flat_no _) | exact bdl_no (ivs_no _) | exact Nat.max_le.2 ⟨Nat.le_of_ble_eq_true rfl, bdl_no (ivs_no _)⟩ | apply And.intro)) ⟨Nat.zero_le _, rfl⟩ ?_
   intro i ⟨hi, hs⟩
   have hi1 : i < a.length → IntKind.i64.wrap (Int.ofNat i + 1) = Int.ofNat (i + 1) := fun h => wrapN (m := i + 1) (by omega)
   conv => whnf
   by_cases h : i < a.length
   ·have hb : i < b.length := by omega
    rw [drop_gN a h, drop_gN b hb, soonB] at hs
    have t1 := tak_nk a h
    have t2 := tak_nk b hb
    have n1 := nth_nk0 a h
    have n2 := nth_nk0 b hb
    have m1 := lkP0 (N := a) h
    have m2 := lkP0 (N := b) hb
    by_cases hxy : gN a i = gN b i
    ·rw [if_pos hxy] at hs
     have hq' : ∀ cst, q0 66 cst (lkV (gN a i)) (lkV (gN b i)) = some true := fun cst => by rw [hxy]; exact eqCg_same _ _ _ _
     refine bool_true (ltN_t h) ?_
     conv => whnf
     repeat ((first
      |refine plan_as (takP t1) ?_
      |refine plan_as (takP t2) ?_
      |refine ko_rT (inR_t h) ?_
      |refine ko_sF (inR_t h) ?_
      |refine plan_as (pick_t (inR_t h)) ?_
      |refine bool_true (inR_t h) ?_
      |refine ko_rT (inR_t hb) ?_
      |refine ko_sF (inR_t hb) ?_
      |refine plan_as (pick_t (inR_t hb)) ?_
      |refine bool_true (inR_t hb) ?_
      |refine sym_drawn hS (by kernel_rfl) ?_); conv => whnf)
     refine sym_eq hq true (hq' _) ?_
     conv => whnf
     refine sym_drawn hS (by kernel_rfl) ?_
     conv => whnf
     exact ⟨i + 1, ⟨h, hs⟩, by omega, (by refine ⟨rfl, rfl, rfl, rfl, ?_, ?_⟩ <;> repeat' (first | exact trivial | exact rfl | exact Nat.zero_le _ | exact congrArg (fun z => some (AV.int .i64 z)) (hi1 h) | exact bdl_no la | exact bdl_no lb | exact Nat.le_of_ble_eq_true rfl | exact bdl_no (by assumption) | exact bdl_no (flat_no _) | exact bdl_no (ivs_no _) | exact Nat.max_le.2 ⟨Nat.le_of_ble_eq_true rfl, bdl_no (ivs_no _)⟩ | apply And.intro))⟩
    ·rw [if_neg hxy] at hs
     obtain ⟨bb, pB, iB⟩ := dec_b (before_pure (Int.ofNat (gN a i).2.1) (Int.ofNat (gN a i).2.2) (Int.ofNat (gN b i).2.1) (Int.ofNat (gN b i).2.2))
     by_cases q1 : (gN a i).1 < (gN b i).1
     ·have c1 : decide (Int.ofNat (gN a i).1 < Int.ofNat (gN b i).1) = true := decide_eq_true (Int.ofNat_lt.2 q1)
      rw [decide_eq_true (show ltK (gN a i) (gN b i) from .inl q1)] at hs
      rw [← hs]
      refine bool_true (ltN_t h) ?_
      conv => whnf
      repeat ((first
       |refine plan_as (takP t1) ?_
       |refine plan_as (takP t2) ?_
       |refine ko_rT (inR_t h) ?_
       |refine ko_sF (inR_t h) ?_
       |refine plan_as (pick_t (inR_t h)) ?_
       |refine bool_true (inR_t h) ?_
       |refine ko_rT (inR_t hb) ?_
       |refine ko_sF (inR_t hb) ?_
       |refine plan_as (pick_t (inR_t hb)) ?_
       |refine bool_true (inR_t hb) ?_
       |refine sym_drawn hS (by kernel_rfl) ?_); conv => whnf)
      refine sym_eq hq false (eqCg_ne _ hxy) ?_
      conv => whnf
      repeat ((first
       |refine plan_as (nthP n1) ?_
       |refine plan_as (nthP n2) ?_
       |refine ko_rT (inR_t h) ?_
       |refine ko_sF (inR_t h) ?_
       |refine plan_as (pick_t (inR_t h)) ?_
       |refine bool_true (inR_t h) ?_
       |refine ko_rT (inR_t hb) ?_
       |refine ko_sF (inR_t hb) ?_
       |refine plan_as (pick_t (inR_t hb)) ?_
       |refine bool_true (inR_t hb) ?_
       |refine ko_rT c1 ?_
       |refine ko_sF c1 ?_
       |refine plan_as (pick_t c1) ?_
       |refine bool_true c1 ?_
       |refine ko_sT (gft c1) ?_
       |refine ko_rF (gft c1) ?_
       |refine plan_as (pick_f (gft c1)) ?_
       |refine bool_false (gft c1) ?_
       |refine sym_drawn hS (by kernel_rfl) ?_); conv => whnf)
      exact ⟨_, rfl, Wk.refl _⟩
     ·have c1 : decide (Int.ofNat (gN a i).1 < Int.ofNat (gN b i).1) = false := decide_eq_false fun k => q1 (Int.ofNat_lt.1 k)
      by_cases q2 : (gN a i).1 = (gN b i).1
      ·have c2 : (Int.ofNat (gN a i).1 == Int.ofNat (gN b i).1) = true := beq_iff_eq.2 (congrArg Int.ofNat q2)
       rw [ltK_b iB q2] at hs
       rw [← hs]
       refine bool_true (ltN_t h) ?_
       conv => whnf
       repeat ((first
        |refine plan_as (takP t1) ?_
        |refine plan_as (takP t2) ?_
        |refine ko_rT (inR_t h) ?_
        |refine ko_sF (inR_t h) ?_
        |refine plan_as (pick_t (inR_t h)) ?_
        |refine bool_true (inR_t h) ?_
        |refine ko_rT (inR_t hb) ?_
        |refine ko_sF (inR_t hb) ?_
        |refine plan_as (pick_t (inR_t hb)) ?_
        |refine bool_true (inR_t hb) ?_
        |refine sym_drawn hS (by kernel_rfl) ?_); conv => whnf)
       refine sym_eq hq false (eqCg_ne _ hxy) ?_
       conv => whnf
       repeat ((first
        |refine plan_as (nthP n1) ?_
        |refine plan_as (nthP n2) ?_
        |refine plan_as (takP m1) ?_
        |refine plan_as (takP m2) ?_
        |refine ko_rT (inR_t h) ?_
        |refine ko_sF (inR_t h) ?_
        |refine plan_as (pick_t (inR_t h)) ?_
        |refine bool_true (inR_t h) ?_
        |refine ko_rT (inR_t hb) ?_
        |refine ko_sF (inR_t hb) ?_
        |refine plan_as (pick_t (inR_t hb)) ?_
        |refine bool_true (inR_t hb) ?_
        |refine ko_sT c1 ?_
        |refine ko_rF c1 ?_
        |refine plan_as (pick_f c1) ?_
        |refine bool_false c1 ?_
        |refine ko_rT (gff c1) ?_
        |refine ko_sF (gff c1) ?_
        |refine plan_as (pick_t (gff c1)) ?_
        |refine bool_true (gff c1) ?_
        |refine ko_rT c2 ?_
        |refine ko_sF c2 ?_
        |refine plan_as (pick_t c2) ?_
        |refine bool_true c2 ?_
        |refine ko_rT (gd_tt c2) ?_
        |refine ko_sF (gd_tt c2) ?_
        |refine plan_as (pick_t (gd_tt c2)) ?_
        |refine bool_true (gd_tt c2) ?_
        |refine sym_pure hC (pB) ?_
        |refine sym_drawn hS (by kernel_rfl) ?_); conv => whnf)
       exact ⟨_, rfl, Wk.refl _⟩
      ·have c2 : (Int.ofNat (gN a i).1 == Int.ofNat (gN b i).1) = false := beq_eq_false_iff_ne.2 fun k => q2 (Int.ofNat.inj k)
       rw [decide_eq_false (show ¬ ltK (gN a i) (gN b i) by unfold ltK; omega)] at hs
       rw [← hs]
       refine bool_true (ltN_t h) ?_
       conv => whnf
       repeat ((first
        |refine plan_as (takP t1) ?_
        |refine plan_as (takP t2) ?_
        |refine ko_rT (inR_t h) ?_
        |refine ko_sF (inR_t h) ?_
        |refine plan_as (pick_t (inR_t h)) ?_
        |refine bool_true (inR_t h) ?_
        |refine ko_rT (inR_t hb) ?_
        |refine ko_sF (inR_t hb) ?_
        |refine plan_as (pick_t (inR_t hb)) ?_
        |refine bool_true (inR_t hb) ?_
        |refine sym_drawn hS (by kernel_rfl) ?_); conv => whnf)
       refine sym_eq hq false (eqCg_ne _ hxy) ?_
       conv => whnf
       repeat ((first
        |refine plan_as (nthP n1) ?_
        |refine plan_as (nthP n2) ?_
        |refine ko_rT (inR_t h) ?_
        |refine ko_sF (inR_t h) ?_
        |refine plan_as (pick_t (inR_t h)) ?_
        |refine bool_true (inR_t h) ?_
        |refine ko_rT (inR_t hb) ?_
        |refine ko_sF (inR_t hb) ?_
        |refine plan_as (pick_t (inR_t hb)) ?_
        |refine bool_true (inR_t hb) ?_
        |refine ko_sT c1 ?_
        |refine ko_rF c1 ?_
        |refine plan_as (pick_f c1) ?_
        |refine bool_false c1 ?_
        |refine ko_rT (gff c1) ?_
        |refine ko_sF (gff c1) ?_
        |refine plan_as (pick_t (gff c1)) ?_
        |refine bool_true (gff c1) ?_
        |refine ko_sT c2 ?_
        |refine ko_rF c2 ?_
        |refine plan_as (pick_f c2) ?_
        |refine bool_false c2 ?_
        |refine ko_sT (gd_tf c2) ?_
        |refine ko_rF (gd_tf c2) ?_
        |refine plan_as (pick_f (gd_tf c2)) ?_
        |refine bool_false (gd_tf c2) ?_
        |refine sym_drawn hS (by kernel_rfl) ?_); conv => whnf)
       exact ⟨_, rfl, Wk.refl _⟩
   ·refine bool_false (ltN_f h) ?_
    conv => whnf
    rw [List.drop_eq_nil_of_le (by omega)] at hs
    rw [← hs]
    exact ⟨_, rfl, Wk.refl _⟩
 ·obtain rfl : b = [] := List.eq_nil_of_length_eq_zero he.symm
  show Pure prog _ _ (.bool false)
  rcases hb with rfl | ⟨rfl, _⟩
  all_goals
   refine pure_sym hE rfl (by repeat' (first | exact trivial | assumption | exact flat_no _ | exact (fun _ h => nomatch h) | apply And.intro)) (by repeat' (first | exact trivial | assumption | exact flat_no _ | exact (fun _ h => nomatch h) | apply And.intro)) fun S q pc hS hq hC hE => ?_
   conv => whnf
   refine sym_unroll hE hS ?_
   conv => whnf
   exact ⟨_, rfl, Wk.refl _⟩
end
end Go.Abs.Seat
