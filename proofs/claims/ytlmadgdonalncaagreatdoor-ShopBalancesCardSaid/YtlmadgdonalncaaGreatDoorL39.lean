/-
  The law ShopBalances.
-/
import Derived.Test.YtlmadgdonalncaaGreatDoorB65
/-! The law ShopBalances. -/
namespace Go.Abs.Seat
noncomputable section
open Go Go.Abs Go.Proofs.Tryz
set_option maxRecDepth 100000
set_option maxHeartbeats 40000000
attribute [local irreducible] IntKind.wrap pEq

theorem shopBalances (known : Pure prog 13 [] (.bool true)) (a : Int) {x : AV} {L : List LkI} (hx : LL x L) : Pure prog 3 [iv a, x] (.bool true) := by
 have lx := hx.no
 by_cases hl : L.length ≤ 10
 ·have pK := rBook_pure hx a hl
  have c0 : decide ((L.length : Int) > 10) = false := decide_eq_false (by omega)
  by_cases h : bkOk a L
  ·rw [decide_eq_true h] at pK
   obtain ⟨k, rfl⟩ : ∃ k : Nat, a = Int.ofNat k := ⟨a.toNat, by have := h.1; exact (Int.toNat_of_nonneg (by omega)).symm⟩
   have hk5 : 2 ≤ k ∧ k ≤ 5 := ⟨Int.ofNat_le.1 h.1.1, Int.ofNat_le.1 h.1.2⟩
   obtain ⟨R, hR⟩ := bk_best h
   have pB := sBalances_yes hx h
   have pS := settle_run hx h rfl (bk_sum h) (bk_bd h) hR
   have pC := rBal_pure hx h
   have pT := rsettle_pure (b := blL L k) (by rw [blL_len]; exact hk5) (bk_sum h) (bk_bd h) hR
   have hRl : R.length ≤ 1000 := by
    obtain ⟨E, e1, e2, _⟩ := hR
    have h1 := (slv_sol e2).2.1.1
    have h2 := e1.length_le
    have h3 := cnL_6 (b := blL L k) (by rw [blL_len]; exact hk5.2)
    omega
   have pE := sameE_self R hRl
   have lR := enV_no R
   have lb := ivs_no (blL L k)
   have pQ := same_pure (blL L k) (blL L k) (by rw [blL_len]; omega) (b := true) ⟨fun _ => rfl, fun _ => rfl⟩
   rw [show (Int.ofNat k).toNat = k from rfl] at pB
   generalize blL L k = b at *
   obtain ⟨v, hv⟩ : ∃ v, v = enV R := ⟨_, rfl⟩
   rw [← hv] at pS pT pE lR
   have hv2 : v = .nils ∨ v = lkA R := by
    rw [hv]; unfold enV; split
    ·exact .inl rfl
    ·exact .inr rfl
   clear hR hv h
   rcases hx with ⟨rfl, rfl⟩ | rfl <;> rcases hv2 with rfl | rfl
   all_goals
    refine pure_sym hE rfl (by repeat' (first | exact trivial | assumption | exact flat_no _ | exact (fun _ h => nomatch h) | apply And.intro)) (by repeat' (first | exact trivial | assumption | exact flat_no _ | exact (fun _ h => nomatch h) | apply And.intro)) fun S q pc hS hq hC hE => ?_
    conv => whnf
    repeat ((first
     |refine ko_sT c0 ?_
     |refine ko_rF c0 ?_
     |refine plan_as (pick_f c0) ?_
     |refine bool_false c0 ?_
     |refine sym_pure hC (pB) ?_
     |refine sym_pure hC (pS) ?_
     |refine sym_pure hC (pK) ?_
     |refine sym_pure hC (pC) ?_
     |refine sym_pure hC (pQ) ?_
     |refine sym_pure hC (pT) ?_
     |refine sym_pure hC (pE) ?_
     |refine sym_pure hC (known) ?_
     |refine sym_drawn hS (by kernel_rfl) ?_); conv => whnf)
    exact ⟨_, rfl, Wk.refl _⟩
  ·rw [decide_eq_false h] at pK
   have pB := sBalances_no hx h
   have pS := sSettle_no hx h
   clear h
   rcases hx with ⟨rfl, rfl⟩ | rfl
   all_goals
    refine pure_sym hE rfl (by repeat' (first | exact trivial | assumption | exact flat_no _ | exact (fun _ h => nomatch h) | apply And.intro)) (by repeat' (first | exact trivial | assumption | exact flat_no _ | exact (fun _ h => nomatch h) | apply And.intro)) fun S q pc hS hq hC hE => ?_
    conv => whnf
    repeat ((first
     |refine ko_sT c0 ?_
     |refine ko_rF c0 ?_
     |refine plan_as (pick_f c0) ?_
     |refine bool_false c0 ?_
     |refine sym_pure hC (pB) ?_
     |refine sym_pure hC (pS) ?_
     |refine sym_pure hC (pK) ?_
     |refine sym_pure hC (known) ?_
     |refine sym_drawn hS (by kernel_rfl) ?_); conv => whnf)
    exact ⟨_, rfl, Wk.refl _⟩
 ·have c0 : decide ((L.length : Int) > 10) = true := decide_eq_true (by omega)
  rcases hx with ⟨rfl, rfl⟩ | rfl
  ·exact absurd (Nat.zero_le 10) hl
  ·refine pure_sym hE rfl (by repeat' (first | exact trivial | assumption | exact flat_no _ | exact (fun _ h => nomatch h) | apply And.intro)) (by repeat' (first | exact trivial | assumption | exact flat_no _ | exact (fun _ h => nomatch h) | apply And.intro)) fun S q pc hS hq hC hE => ?_
   conv => whnf
   repeat ((first
    |refine ko_rT c0 ?_
    |refine ko_sF c0 ?_
    |refine plan_as (pick_t c0) ?_
    |refine bool_true c0 ?_
    |refine sym_pure hC (known) ?_
    |refine sym_drawn hS (by kernel_rfl) ?_); conv => whnf)
   exact ⟨_, rfl, Wk.refl _⟩
end
end Go.Abs.Seat
