/-
  The law TrainRivals.
-/
import Derived.Test.YtpjclnoehlflcaaGreatDoorU14
/-! The law TrainRivals. -/
namespace Go.Abs.Seat
open Go Go.Abs Go.Proofs.Tryz
set_option maxRecDepth 100000
set_option maxHeartbeats 40000000
attribute [local irreducible] IntKind.wrap pEq

theorem fits_p {N : AV} {l : List Int} (h : IL N l) (hl : l.length < 4611686018427387904) (a b p s : Int) (ho : rOk a b p s l) (hs0 : -9223372036854775808 ≤ s ∧ s < 9223372036854775808) {L : List (Int × Int)} (hk : 1 ≤ L.length ∧ L.length ≤ 3) (iT : Pure prog 63 [pv L] (.bool true)) :
  ∃ r, Pure prog 31 [rv a b p s N, pv L] (.tup [.bool r, iv 0]) ∧ (r = true ↔ fitsP a b p s l L) := by
 obtain ⟨a, b, rfl, rfl, _⟩ := rOk_nat ho
 have hd := Classical.propDecidable (fitsP (Int.ofNat a) (Int.ofNat b) p s l L)
 refine ⟨decide (fitsP (Int.ofNat a) (Int.ofNat b) p s l L), ?_, decide_eq_true_iff⟩
 match L, hk with
 | [(a0, b0)], _ => exact fits1 h hl a b p s ho hs0 a0 b0 iT decide_eq_true_iff
 | [(a0, b0), (a1, b1)], _ => exact fits2 h hl a b p s ho hs0 a0 b0 a1 b1 iT decide_eq_true_iff
 | [(a0, b0), (a1, b1), (a2, b2)], _ => exact fits3 h hl a b p s ho hs0 a0 b0 a1 b1 a2 b2 iT decide_eq_true_iff
theorem trainRivals_yes (hk : Pure prog 16 [] (.bool true)) (a b p n d : Nat) (s : Int) {N : AV} {l : List Int} (hN : IL N l) (h8 : l.length ≤ 8) {u : List (Nat × Nat)} (ho : rOk (Int.ofNat a) (Int.ofNat b) (Int.ofNat p) s l) (hf : isF (Int.ofNat n) (Int.ofNat d)) (hu : RT (tp a b l) p (mny p s) u) :
  Pure prog 8 [rv (Int.ofNat a) (Int.ofNat b) (Int.ofNat p) s N, fv (Int.ofNat n) (Int.ofNat d), pv (zp u)] (.bool true) := by
 obtain ⟨a', b', p', n', d', e1, e2, e3, e4, e5, h1, h2, h3, h4, h5, h6, h7⟩ := rf_nat ho hf
 cases e1; cases e2; cases e3; cases e4; cases e5
 have hs : -9223372036854775808 ≤ s ∧ s < 9223372036854775808 := by omega
 have h460 : ∀ x, tp a b l x → 4 ≤ x ∧ x ≤ 60 := fun x hx => ⟨Nat.le_trans h1 (tp_ge hx).1, Nat.le_trans (tp_ge hx).2 h3⟩
 have hpos : ∀ x, tp a b l x → 1 ≤ x := fun x hx => by have := h460 x hx; omega
 obtain ⟨pP, _⟩ := near_both hN (by omega) a b p n d s ho hf
 have hbo := nrT_bo (lets := mny p s) (N := n) (fun x hx => tp_le (a := a) (b := b) (l := l) (by omega) h3 hx) h7.1 p
 have rR := rRule_pure hN (by omega) (Int.ofNat a) (Int.ofNat b) (Int.ofNat p) s (r := true) ⟨fun _ => ho, fun _ => rfl⟩
 have rF := rFraction_pure (Int.ofNat n) (Int.ofNat d)
 rw [decide_eq_true hf] at rF
 have lN := hN.no
 generalize nrT (tp a b l) p (mny p s) n d = o at *
 rcases o with _ | t
 ·exact absurd hu (hbo u)
 ·have hB : Bst (tp a b l) p (mny p s) n d t := hbo
  have hT := hB.1
  have lu3 := hu.1
  have lt3 := hT.1
  have tu := tv_zp h460 (by omega) hu.2.2.all
  have tt := tv_zp h460 (by omega) hT.2.2.all
  have yu := yP_pos hpos hu.2.2.all
  have yt := yP_pos hpos hT.2.2.all
  obtain ⟨r1, pF1, f1⟩ := fits_p hN (by omega) _ _ _ s ho hs (L := zp u) (by rw [zp_len]; omega) tu.isT
  obtain ⟨r2, pF2, f2⟩ := fits_p hN (by omega) _ _ _ s ho hs (L := zp t) (by rw [zp_len]; omega) tt.isT
  obtain rfl := f1.2 hu.fits
  obtain rfl := f2.2 hT.fits
  have ru := tu.rT
  have rt := tt.rT
  have pN := nearer_pure tt tu n d h6 h7
  have hle := (near_fle (N := n) (D := d) yt yu).2 (hB.fle hu)
  have htie := fun h => hB.tie hu ((near_fle (N := n) (D := d) yu yt).1 h)
  have hle : farN n d (redF (xP t) (yP t)).1 (redF (xP t) (yP t)).2 (redF (xP u) (yP u)).2 ≤ farN n d (redF (xP u) (yP u)).1 (redF (xP u) (yP u)).2 (redF (xP t) (yP t)).2 := hle
  have htie : farN n d (redF (xP u) (yP u)).1 (redF (xP u) (yP u)).2 (redF (xP t) (yP t)).2 ≤ farN n d (redF (xP t) (yP t)).1 (redF (xP t) (yP t)).2 (redF (xP u) (yP u)).2 → t.length < u.length ∨ u.length = t.length ∧ ¬ ltL u t := htie
  have zu := zp_len u
  have zt := zp_len t
  have pS := rSooner_pure u t (by omega)
  have hsoo : u.length = t.length → ¬ ltL u t → sooB u t = false := fun h1 h2 => Bool.eq_false_iff.2 fun e => h2 ((sooB_lt h1).1 e)
  clear tu tt f1 f2
  have lu := flat_no (zp u)
  have ltt := flat_no (zp t)
  have pP : Pure prog 34 [rv (Int.ofNat a) (Int.ofNat b) (Int.ofNat p) s N, fv (Int.ofNat n) (Int.ofNat d)] (.tup [pv (zp t), iv 0]) := by
   have e : trA t = pv (zp t) := trA_ne (fun e => by rw [e] at lt3; exact absurd lt3.1 (by decide))
   have pP : Pure prog 34 [rv (Int.ofNat a) (Int.ofNat b) (Int.ofNat p) s N, fv (Int.ofNat n) (Int.ofNat d)] (.tup [trA t, iv 0]) := pP
   rwa [e] at pP
  generalize farN n d (redF (xP t) (yP t)).1 (redF (xP t) (yP t)).2 (redF (xP u) (yP u)).2 = A at *
  generalize farN n d (redF (xP u) (yP u)).1 (redF (xP u) (yP u)).2 (redF (xP t) (yP t)).2 = B at *
  have sl1 := slim_yes (n := (l.length : Int)) (by omega)
  have sl2 := slim_yes (n := ((zp u).length : Int)) (by omega)
  by_cases h : A < B
  ·rw [ordI_m h] at pN
   rcases hN.cs with rfl | rfl
   all_goals
    refine pure_sym hE rfl (by repeat' (first | exact trivial | assumption | exact flat_no _ | exact (fun _ h => nomatch h) | apply And.intro)) (by repeat' (first | exact trivial | assumption | exact flat_no _ | exact (fun _ h => nomatch h) | apply And.intro)) fun S q pc hS hq hC hE => ?_
    conv => whnf
    repeat ((first
     |refine sym_pure hC (slim_yes (by omega)) ?_
     |refine sym_pure hC (sl2) ?_
     |refine sym_pure hC (rR) ?_
     |refine sym_pure hC (rF) ?_
     |refine sym_pure hC (ru) ?_
     |refine sym_pure hC (pF1) ?_
     |refine sym_pure hC (pP) ?_
     |refine sym_pure hC (rt) ?_
     |refine sym_pure hC (pF2) ?_
     |refine sym_pure hC (pN) ?_
     |refine sym_pure hC (hk) ?_
     |refine sym_drawn hS (by kernel_rfl) ?_
     |refine sym_eq hq true (eqBool_same _ _) ?_
     |rw [beq_self_eq_true]
     |rw [bne_self_eq_false]); conv => whnf)
    exact ⟨_, rfl, Wk.refl _⟩
  ·rw [ordI_z (show A = B by omega)] at pN
   rcases htie (by omega) with h5 | ⟨h5, h6⟩
   ·have c1 : decide (((zp u).length : Int) > ((zp t).length : Int)) = true := decide_eq_true (by rw [zu, zt]; omega)
    rcases hN.cs with rfl | rfl
    all_goals
     refine pure_sym hE rfl (by repeat' (first | exact trivial | assumption | exact flat_no _ | exact (fun _ h => nomatch h) | apply And.intro)) (by repeat' (first | exact trivial | assumption | exact flat_no _ | exact (fun _ h => nomatch h) | apply And.intro)) fun S q pc hS hq hC hE => ?_
     conv => whnf
     repeat ((first
      |refine sym_pure hC (slim_yes (by omega)) ?_
      |refine sym_pure hC (sl2) ?_
      |refine sym_pure hC (rR) ?_
      |refine sym_pure hC (rF) ?_
      |refine sym_pure hC (ru) ?_
      |refine sym_pure hC (pF1) ?_
      |refine sym_pure hC (pP) ?_
      |refine sym_pure hC (rt) ?_
      |refine sym_pure hC (pF2) ?_
      |refine sym_pure hC (pN) ?_
      |refine sym_pure hC (hk) ?_
      |refine sym_drawn hS (by kernel_rfl) ?_
      |refine sym_eq hq true (eqBool_same _ _) ?_
      |rw [beq_self_eq_true]
      |rw [bne_self_eq_false]); conv => whnf)
     repeat ((first
      |refine ko_rT c1 ?_
      |refine ko_sF c1 ?_
      |refine plan_as (pick_t c1) ?_
      |refine bool_true c1 ?_
      |refine sym_pure hC (hk) ?_
      |refine sym_drawn hS (by kernel_rfl) ?_); conv => whnf)
     exact ⟨_, rfl, Wk.refl _⟩
   ·have c1 : decide (((zp u).length : Int) > ((zp t).length : Int)) = false := decide_eq_false (by rw [zu, zt]; omega)
    have c2 : (((zp u).length : Int) == ((zp t).length : Int)) = true := by rw [zu, zt, h5]; exact beq_self_eq_true _
    rw [hsoo h5 h6] at pS
    rcases hN.cs with rfl | rfl
    all_goals
     refine pure_sym hE rfl (by repeat' (first | exact trivial | assumption | exact flat_no _ | exact (fun _ h => nomatch h) | apply And.intro)) (by repeat' (first | exact trivial | assumption | exact flat_no _ | exact (fun _ h => nomatch h) | apply And.intro)) fun S q pc hS hq hC hE => ?_
     conv => whnf
     repeat ((first
      |refine sym_pure hC (slim_yes (by omega)) ?_
      |refine sym_pure hC (sl2) ?_
      |refine sym_pure hC (rR) ?_
      |refine sym_pure hC (rF) ?_
      |refine sym_pure hC (ru) ?_
      |refine sym_pure hC (pF1) ?_
      |refine sym_pure hC (pP) ?_
      |refine sym_pure hC (rt) ?_
      |refine sym_pure hC (pF2) ?_
      |refine sym_pure hC (pN) ?_
      |refine sym_pure hC (hk) ?_
      |refine sym_drawn hS (by kernel_rfl) ?_
      |refine sym_eq hq true (eqBool_same _ _) ?_
      |rw [beq_self_eq_true]
      |rw [bne_self_eq_false]); conv => whnf)
     repeat ((first
      |refine ko_sT c1 ?_
      |refine ko_rF c1 ?_
      |refine plan_as (pick_f c1) ?_
      |refine bool_false c1 ?_
      |refine ko_rT c2 ?_
      |refine ko_sF c2 ?_
      |refine plan_as (pick_t c2) ?_
      |refine bool_true c2 ?_
      |refine sym_pure hC (pS) ?_
      |refine sym_pure hC (hk) ?_
      |refine sym_drawn hS (by kernel_rfl) ?_); conv => whnf)
     exact ⟨_, rfl, Wk.refl _⟩

theorem trainRivals (hk : Pure prog 16 [] (.bool true)) (a b p s : Int) (hs : -9223372036854775808 ≤ s ∧ s < 9223372036854775808) {N : AV} {l : List Int} (hN : IL N l) (n d : Int) {v : AV} {L : List (Int × Int)} (hv : PQ v L) :
  Pure prog 8 [rv a b p s N, fv n d, v] (.bool true) := by
 have lN := hN.no
 have lv := hv.no
 by_cases h8 : l.length ≤ 8 ∧ L.length ≤ 8
 ·have h81 := h8.1
  have h82 := h8.2
  obtain ⟨bR, iR, rR, eR⟩ := rule_b hN (by omega) a b p s hs
  have hT : ∃ bT, TS v L.length bT ∧ (bT = true → 1 ≤ L.length ∧ L.length ≤ 3) := by
   rcases hv.tr with ⟨x, y, h⟩ | h
   ·exact ⟨true, h.ts, fun _ => h.k1⟩
   ·exact ⟨false, h.ts, fun e => nomatch e⟩
  obtain ⟨bT, sv, hk3⟩ := hT
  have rT := sv.rT h82
  obtain ⟨bF, eF, rF⟩ : ∃ bF, (bF = true ↔ isF n d) ∧ Pure prog 19 [fv n d] (.bool bF) := ⟨decide (isF n d), decide_eq_true_iff, rFraction_pure n d⟩
  by_cases hall : (bR && bF && bT) = true
  ·simp only [Bool.and_eq_true] at hall
   obtain ⟨⟨rfl, rfl⟩, rfl⟩ := hall
   have hk3 := hk3 rfl
   have hv : v = pv L := by
    rcases hv with ⟨_, rfl⟩ | e
    ·have : 1 ≤ 0 := hk3.1
     omega
    ·exact e
   subst hv
   have ho := eR.1 rfl
   have hf := eF.1 rfl
   obtain ⟨r, pF, eI⟩ := fits_p hN (by omega) a b p s ho hs hk3 sv.isT
   cases r with
   |true =>
    obtain ⟨a, b, p, n, d, rfl, rfl, rfl, rfl, rfl, _⟩ := rf_nat ho hf
    obtain ⟨u, rfl, hu⟩ := fits_nat (eI.1 rfl)
    exact trainRivals_yes hk a b p n d s hN h81 ho hf hu
   |false =>
    clear sv eR eF eI iR ho hf
    rcases hN with ⟨rfl, rfl⟩ | rfl
    all_goals
     refine pure_sym hE rfl (by repeat' (first | exact trivial | assumption | exact flat_no _ | exact (fun _ h => nomatch h) | apply And.intro)) (by repeat' (first | exact trivial | assumption | exact flat_no _ | exact (fun _ h => nomatch h) | apply And.intro)) fun S q pc hS hq hC hE => ?_
     conv => whnf
     repeat ((first
      |refine sym_pure hC (slim_yes (by omega)) ?_
      |refine sym_pure hC (rR) ?_
      |refine sym_pure hC (rF) ?_
      |refine sym_pure hC (rT) ?_
      |refine sym_pure hC (pF) ?_
      |refine sym_pure hC (hk) ?_
      |refine sym_drawn hS (by kernel_rfl) ?_
      |refine sym_eq hq true (eqBool_same _ _) ?_
      |rw [beq_self_eq_true]
      |rw [bne_self_eq_false]); conv => whnf)
     exact ⟨_, rfl, Wk.refl _⟩
  ·have pF := hk
   clear sv eR eF iR
   rcases hN with ⟨rfl, rfl⟩ | rfl <;> rcases hv with ⟨rfl, rfl⟩ | rfl <;> cases bR <;> cases bF <;> cases bT
   all_goals first
    |exact absurd rfl hall
    |skip
     refine pure_sym hE rfl (by repeat' (first | exact trivial | assumption | exact flat_no _ | exact (fun _ h => nomatch h) | apply And.intro)) (by repeat' (first | exact trivial | assumption | exact flat_no _ | exact (fun _ h => nomatch h) | apply And.intro)) fun S q pc hS hq hC hE => ?_
     conv => whnf
     repeat ((first
      |refine sym_pure hC (slim_yes (by omega)) ?_
      |refine sym_pure hC (rR) ?_
      |refine sym_pure hC (rF) ?_
      |refine sym_pure hC (rT) ?_
      |refine sym_pure hC (pF) ?_
      |refine sym_pure hC (hk) ?_
      |refine sym_drawn hS (by kernel_rfl) ?_
      |refine sym_eq hq true (eqBool_same _ _) ?_
      |rw [beq_self_eq_true]
      |rw [bne_self_eq_false]); conv => whnf)
     exact ⟨_, rfl, Wk.refl _⟩
 ·rcases hN with ⟨rfl, rfl⟩ | rfl <;> rcases hv with ⟨rfl, rfl⟩ | rfl
  ·exact absurd ⟨Nat.zero_le _, Nat.zero_le _⟩ h8
  ·have h82 : ¬ L.length ≤ 8 := fun h => h8 ⟨Nat.zero_le _, h⟩
   refine pure_sym hE rfl (by repeat' (first | exact trivial | assumption | exact flat_no _ | exact (fun _ h => nomatch h) | apply And.intro)) (by repeat' (first | exact trivial | assumption | exact flat_no _ | exact (fun _ h => nomatch h) | apply And.intro)) fun S q pc hS hq hC hE => ?_
   conv => whnf
   repeat ((first
    |refine sym_pure hC (slim_not (by omega)) ?_
    |refine sym_pure hC (slim_yes (by decide)) ?_
    |refine sym_pure hC (hk) ?_
    |refine sym_drawn hS (by kernel_rfl) ?_
    |refine sym_eq hq true (eqBool_same _ _) ?_
    |rw [beq_self_eq_true]
    |rw [bne_self_eq_false]); conv => whnf)
   exact ⟨_, rfl, Wk.refl _⟩
  ·have h82 : ¬ l.length ≤ 8 := fun h => h8 ⟨h, Nat.zero_le _⟩
   refine pure_sym hE rfl (by repeat' (first | exact trivial | assumption | exact flat_no _ | exact (fun _ h => nomatch h) | apply And.intro)) (by repeat' (first | exact trivial | assumption | exact flat_no _ | exact (fun _ h => nomatch h) | apply And.intro)) fun S q pc hS hq hC hE => ?_
   conv => whnf
   repeat ((first
    |refine sym_pure hC (slim_not (by omega)) ?_
    |refine sym_pure hC (slim_yes (by decide)) ?_
    |refine sym_pure hC (hk) ?_
    |refine sym_drawn hS (by kernel_rfl) ?_
    |refine sym_eq hq true (eqBool_same _ _) ?_
    |rw [beq_self_eq_true]
    |rw [bne_self_eq_false]); conv => whnf)
   exact ⟨_, rfl, Wk.refl _⟩
  ·by_cases h1 : l.length ≤ 8
   ·have h82 : ¬ L.length ≤ 8 := fun h => h8 ⟨h1, h⟩
    refine pure_sym hE rfl (by repeat' (first | exact trivial | assumption | exact flat_no _ | exact (fun _ h => nomatch h) | apply And.intro)) (by repeat' (first | exact trivial | assumption | exact flat_no _ | exact (fun _ h => nomatch h) | apply And.intro)) fun S q pc hS hq hC hE => ?_
    conv => whnf
    repeat ((first
     |refine sym_pure hC (slim_not (by omega)) ?_
     |refine sym_pure hC (slim_yes (by omega)) ?_
     |refine sym_pure hC (hk) ?_
     |refine sym_drawn hS (by kernel_rfl) ?_
     |refine sym_eq hq true (eqBool_same _ _) ?_
     |rw [beq_self_eq_true]
     |rw [bne_self_eq_false]); conv => whnf)
    exact ⟨_, rfl, Wk.refl _⟩
   ·refine pure_sym hE rfl (by repeat' (first | exact trivial | assumption | exact flat_no _ | exact (fun _ h => nomatch h) | apply And.intro)) (by repeat' (first | exact trivial | assumption | exact flat_no _ | exact (fun _ h => nomatch h) | apply And.intro)) fun S q pc hS hq hC hE => ?_
    conv => whnf
    repeat ((first
     |refine sym_pure hC (slim_not (by omega)) ?_
     |refine sym_pure hC (slim_yes (by omega)) ?_
     |refine sym_pure hC (hk) ?_
     |refine sym_drawn hS (by kernel_rfl) ?_
     |refine sym_eq hq true (eqBool_same _ _) ?_
     |rw [beq_self_eq_true]
     |rw [bne_self_eq_false]); conv => whnf)
    exact ⟨_, rfl, Wk.refl _⟩
end Go.Abs.Seat
