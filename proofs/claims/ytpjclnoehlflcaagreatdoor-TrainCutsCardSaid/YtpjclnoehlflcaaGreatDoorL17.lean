/-
  The law TrainCuts.
-/
import Derived.Test.YtpjclnoehlflcaaGreatDoorU14
/-! The law TrainCuts. -/
namespace Go.Abs.Seat
open Go Go.Abs Go.Proofs.Tryz
set_option maxRecDepth 100000
set_option maxHeartbeats 40000000
attribute [local irreducible] IntKind.wrap pEq

theorem cuts_iff {x y n d : Nat} (hy : 1 ≤ y) (hg : Nat.gcd x y = 1) (hd : 1 ≤ d) : x * d = n * y ↔ (x, y) = redF n d := by
 have e : redF x y = (x, y) := by
  unfold redF
  rw [hg, Nat.div_one, Nat.div_one]
 rw [← redF_eq hy hd, e]
theorem cuts_no {N : AV} {l : List Int} (hN : IL N l) (a b p s n d : Int) {e : Int} (he : e = 2 ∨ e = 5) (pP : Pure prog 34 [rv a b p s N, fv n d] (.tup [.nils, iv e])) : Pure prog 39 [rv a b p s N, fv n d] (.tup [.nils, iv e]) := by
 have lN := hN.no
 rcases hN.cs with rfl | rfl <;> rcases he with rfl | rfl
 all_goals
  refine pure_sym hE rfl (by repeat' (first | exact trivial | assumption | exact flat_no _ | exact (fun _ h => nomatch h) | apply And.intro)) (by repeat' (first | exact trivial | assumption | exact flat_no _ | exact (fun _ h => nomatch h) | apply And.intro)) fun S q pc hS hq hC hE => ?_
  conv => whnf
  refine sym_pure hC (pP) ?_
  conv => whnf
  exact ⟨_, rfl, Wk.refl _⟩
theorem cuts_some {N : AV} {l : List Int} (hN : IL N l) (a b p s : Int) (n d : Nat) {t : List (Nat × Nat)} {k x y : Nat} (hv : TV (pv (zp t)) k x y) (hn : n ≤ 50000) (hd : 1 ≤ d ∧ d ≤ 50000) (pP : Pure prog 34 [rv a b p s N, fv (Int.ofNat n) (Int.ofNat d)] (.tup [pv (zp t), iv 0])) : Pure prog 39 [rv a b p s N, fv (Int.ofNat n) (Int.ofNat d)] (if x * d = n * y then .tup [pv (zp t), iv 0] else .tup [.nils, iv 5]) := by
 have lN := hN.no
 have lt := flat_no (zp t)
 have b1 : x * d ≤ 216000 * 50000 := Nat.mul_le_mul hv.bx.2 hd.2
 have b2 : n * y ≤ 50000 * 216000 := Nat.mul_le_mul hn hv.by_.2
 have pT := hv.tu
 have pC := compare_pure x y n d (by omega) (by omega)
 by_cases h : x * d = n * y
 ·rw [if_pos h]
  rcases hN.cs with rfl | rfl
  all_goals
   refine pure_sym hE rfl (by repeat' (first | exact trivial | assumption | exact flat_no _ | exact (fun _ h => nomatch h) | apply And.intro)) (by repeat' (first | exact trivial | assumption | exact flat_no _ | exact (fun _ h => nomatch h) | apply And.intro)) fun S q pc hS hq hC hE => ?_
   conv => whnf
   refine sym_pure hC (pP) ?_
   conv => whnf
   repeat ((first
    |refine sym_pure hC (pT) ?_
    |refine sym_pure hC (pC) ?_
    |refine sym_drawn hS (by kernel_rfl) ?_
    |refine sym_eq hq true (eqBool_same _ _) ?_
    |rw [beq_self_eq_true]
    |rw [bne_self_eq_false]); conv => whnf)
   refine bool_false ((show (Int.ofNat (x * d) - Int.ofNat (n * y) != 0) = false by rw [h, Int.sub_self]; rfl)) ?_
   conv => whnf
   exact ⟨_, rfl, Wk.refl _⟩
 ·rw [if_neg h]
  rcases hN.cs with rfl | rfl
  all_goals
   refine pure_sym hE rfl (by repeat' (first | exact trivial | assumption | exact flat_no _ | exact (fun _ h => nomatch h) | apply And.intro)) (by repeat' (first | exact trivial | assumption | exact flat_no _ | exact (fun _ h => nomatch h) | apply And.intro)) fun S q pc hS hq hC hE => ?_
   conv => whnf
   refine sym_pure hC (pP) ?_
   conv => whnf
   repeat ((first
    |refine sym_pure hC (pT) ?_
    |refine sym_pure hC (pC) ?_
    |refine sym_drawn hS (by kernel_rfl) ?_
    |refine sym_eq hq true (eqBool_same _ _) ?_
    |rw [beq_self_eq_true]
    |rw [bne_self_eq_false]); conv => whnf)
   refine bool_true (bne_iff_ne.2 (fun e => h (Int.ofNat.inj (Int.sub_eq_zero.1 e)))) ?_
   conv => whnf
   exact ⟨_, rfl, Wk.refl _⟩
theorem trainCuts (hk : Pure prog 16 [] (.bool true)) (a b p s : Int) (hs : -9223372036854775808 ≤ s ∧ s < 9223372036854775808) {N : AV} {l : List Int} (hN : IL N l) (n d : Int) :
  Pure prog 9 [rv a b p s N, fv n d] (.bool true) := by
 have lN := hN.no
 by_cases h8 : l.length ≤ 8
 ·obtain ⟨bR, iR, rR, eR⟩ := rule_b hN (by omega) a b p s hs
  have iF := isFraction_pure n d
  have rF := rFraction_pure n d
  by_cases hall : rOk a b p s l ∧ isF n d
  ·obtain ⟨ho, hf⟩ := hall
   rw [decide_eq_true hf] at iF rF
   obtain rfl : bR = true := eR.2 ho
   obtain ⟨a, b, p, n, d, rfl, rfl, rfl, rfl, rfl, h1, h2, h3, h4, h5, h6, h7⟩ := rf_nat ho hf
   obtain ⟨pP, pR⟩ := near_both hN (by omega) a b p n d s ho hf
   have hbo := nrT_bo (lets := mny p s) (N := n) (fun x hx => tp_le (a := a) (b := b) (l := l) (by omega) h3 hx) h7.1 p
   clear iR iF eR
   generalize nrT (tp a b l) p (mny p s) n d = o at *
   rcases o with _ | _ | ⟨q, r⟩
   ·have pC := cuts_no hN (Int.ofNat a) (Int.ofNat b) (Int.ofNat p) s (Int.ofNat n) (Int.ofNat d) (.inr rfl) pP
    have pS := hk
    have pT := hk
    have pU := hk
    rcases hN.cs with rfl | rfl
    all_goals
     refine pure_sym hE rfl (by repeat' (first | exact trivial | assumption | exact flat_no _ | exact (fun _ h => nomatch h) | apply And.intro)) (by repeat' (first | exact trivial | assumption | exact flat_no _ | exact (fun _ h => nomatch h) | apply And.intro)) fun S q pc hS hq hC hE => ?_
     conv => whnf
     repeat ((first
      |refine sym_pure hC (slim_yes (by omega)) ?_
      |refine sym_pure hC (pC) ?_
      |refine sym_pure hC (pR) ?_
      |refine sym_pure hC (rR) ?_
      |refine sym_pure hC (rF) ?_
      |refine sym_pure hC (pS) ?_
      |refine sym_pure hC (pT) ?_
      |refine sym_pure hC (pU) ?_
      |refine sym_pure hC (hk) ?_
      |refine sym_drawn hS (by kernel_rfl) ?_
      |refine sym_eq hq true (eqBool_same _ _) ?_
      |rw [beq_self_eq_true]
      |rw [bne_self_eq_false]); conv => whnf)
     exact ⟨_, rfl, Wk.refl _⟩
   ·have h1 : 1 ≤ 0 ∧ 0 ≤ p := (show RT (tp a b l) p (mny p s) [] from hbo.1).1
    omega
   ·have hRT : RT (tp a b l) p (mny p s) (q :: r) := hbo.1
    have hlen := hRT.1
    have tt := tv_zp (t := q :: r) (fun x hx => (⟨Nat.le_trans h1 (tp_ge hx).1, Nat.le_trans (tp_ge hx).2 h3⟩ : 4 ≤ x ∧ x ≤ 60)) (by omega) hRT.2.2.all
    have pC := cuts_some hN (Int.ofNat a) (Int.ofNat b) (Int.ofNat p) s n d tt h6 h7 pP
    have pT := tt.rtu
    have pU := rReduced_pure n d (by omega) (by omega) h7.1
    have hiff := cuts_iff (n := n) tt.by_.1 tt.g h7.1
    generalize (redF (xP (q :: r)) (yP (q :: r))).1 = x at *
    generalize (redF (xP (q :: r)) (yP (q :: r))).2 = y at *
    have pS := rSame_pure (q :: r) (q :: r) (by omega)
    rw [decide_eq_true rfl] at pS
    by_cases h : x * d = n * y
    ·rw [if_pos h] at pC
     have e := hiff.1 h
     rw [show n / Nat.gcd n d = x from (congrArg Prod.fst e).symm, show d / Nat.gcd n d = y from (congrArg Prod.snd e).symm] at pU
     rcases hN.cs with rfl | rfl
     all_goals
      refine pure_sym hE rfl (by repeat' (first | exact trivial | assumption | exact flat_no _ | exact (fun _ h => nomatch h) | apply And.intro)) (by repeat' (first | exact trivial | assumption | exact flat_no _ | exact (fun _ h => nomatch h) | apply And.intro)) fun S q pc hS hq hC hE => ?_
      conv => whnf
      repeat ((first
       |refine sym_pure hC (slim_yes (by omega)) ?_
       |refine sym_pure hC (pC) ?_
       |refine sym_pure hC (pR) ?_
       |refine sym_pure hC (rR) ?_
       |refine sym_pure hC (rF) ?_
       |refine sym_pure hC (pT) ?_
       |refine sym_pure hC (pU) ?_
       |refine sym_drawn hS (by kernel_rfl) ?_
       |refine sym_eq hq true (eqBool_same _ _) ?_
       |rw [beq_self_eq_true]
       |rw [bne_self_eq_false]); conv => whnf)
      refine sym_eq hq true (eqQ_same (.inl rfl) _ _ _) ?_
      conv => whnf
      repeat ((first
       |refine sym_pure hC (pS) ?_
       |refine sym_pure hC (hk) ?_
       |refine sym_drawn hS (by kernel_rfl) ?_
       |refine sym_eq hq true (eqBool_same _ _) ?_
       |rw [beq_self_eq_true]
       |rw [bne_self_eq_false]); conv => whnf)
      exact ⟨_, rfl, Wk.refl _⟩
    ·rw [if_neg h] at pC
     have ne : ¬ (Int.ofNat x = Int.ofNat (n / Nat.gcd n d) ∧ Int.ofNat y = Int.ofNat (d / Nat.gcd n d)) := fun e => h (hiff.2 (Prod.ext (Int.ofNat.inj e.1) (Int.ofNat.inj e.2)))
     rcases hN.cs with rfl | rfl
     all_goals
      refine pure_sym hE rfl (by repeat' (first | exact trivial | assumption | exact flat_no _ | exact (fun _ h => nomatch h) | apply And.intro)) (by repeat' (first | exact trivial | assumption | exact flat_no _ | exact (fun _ h => nomatch h) | apply And.intro)) fun S q pc hS hq hC hE => ?_
      conv => whnf
      repeat ((first
       |refine sym_pure hC (slim_yes (by omega)) ?_
       |refine sym_pure hC (pC) ?_
       |refine sym_pure hC (pR) ?_
       |refine sym_pure hC (rR) ?_
       |refine sym_pure hC (rF) ?_
       |refine sym_pure hC (pT) ?_
       |refine sym_pure hC (pU) ?_
       |refine sym_drawn hS (by kernel_rfl) ?_
       |refine sym_eq hq true (eqBool_same _ _) ?_
       |rw [beq_self_eq_true]
       |rw [bne_self_eq_false]); conv => whnf)
      refine sym_eq hq false (eqQ_ne (.inl rfl) _ _ _ _ _ ne) ?_
      conv => whnf
      repeat ((first
       |refine sym_pure hC (pS) ?_
       |refine sym_pure hC (hk) ?_
       |refine sym_drawn hS (by kernel_rfl) ?_
       |refine sym_eq hq true (eqBool_same _ _) ?_
       |rw [beq_self_eq_true]
       |rw [bne_self_eq_false]); conv => whnf)
      exact ⟨_, rfl, Wk.refl _⟩
  ·obtain ⟨bF, eF, iF, rF⟩ : ∃ bF, (bF = true ↔ isF n d) ∧ Pure prog 64 [fv n d] (.bool bF) ∧ Pure prog 19 [fv n d] (.bool bF) := ⟨decide (isF n d), decide_eq_true_iff, iF, rF⟩
   have hno : (bR && bF) = false := by
    rw [Bool.eq_false_iff]
    intro h
    rw [Bool.and_eq_true] at h
    exact hall ⟨eR.1 h.1, eF.1 h.2⟩
   have pC := cuts_no hN a b p s n d (.inl rfl) (near_no hN a b p s n d iR iF hno)
   have pR := hk
   have pS := hk
   have pT := hk
   have pU := hk
   clear eR eF iR iF
   rcases hN with ⟨rfl, rfl⟩ | rfl <;> cases bR <;> cases bF
   all_goals first
    |exact absurd hno (by decide)
    |skip
     refine pure_sym hE rfl (by repeat' (first | exact trivial | assumption | exact flat_no _ | exact (fun _ h => nomatch h) | apply And.intro)) (by repeat' (first | exact trivial | assumption | exact flat_no _ | exact (fun _ h => nomatch h) | apply And.intro)) fun S q pc hS hq hC hE => ?_
     conv => whnf
     repeat ((first
      |refine sym_pure hC (slim_yes (by omega)) ?_
      |refine sym_pure hC (pC) ?_
      |refine sym_pure hC (pR) ?_
      |refine sym_pure hC (rR) ?_
      |refine sym_pure hC (rF) ?_
      |refine sym_pure hC (pS) ?_
      |refine sym_pure hC (pT) ?_
      |refine sym_pure hC (pU) ?_
      |refine sym_pure hC (hk) ?_
      |refine sym_drawn hS (by kernel_rfl) ?_
      |refine sym_eq hq true (eqBool_same _ _) ?_
      |rw [beq_self_eq_true]
      |rw [bne_self_eq_false]); conv => whnf)
     exact ⟨_, rfl, Wk.refl _⟩
 ·rcases hN with ⟨rfl, rfl⟩ | rfl
  ·exact absurd (Nat.zero_le _) h8
  ·refine pure_sym hE rfl (by repeat' (first | exact trivial | assumption | exact flat_no _ | exact (fun _ h => nomatch h) | apply And.intro)) (by repeat' (first | exact trivial | assumption | exact flat_no _ | exact (fun _ h => nomatch h) | apply And.intro)) fun S q pc hS hq hC hE => ?_
   conv => whnf
   repeat ((first
    |refine sym_pure hC (slim_not (by omega)) ?_
    |refine sym_pure hC (hk) ?_
    |refine sym_drawn hS (by kernel_rfl) ?_
    |refine sym_eq hq true (eqBool_same _ _) ?_
    |rw [beq_self_eq_true]
    |rw [bne_self_eq_false]); conv => whnf)
   exact ⟨_, rfl, Wk.refl _⟩
end Go.Abs.Seat
