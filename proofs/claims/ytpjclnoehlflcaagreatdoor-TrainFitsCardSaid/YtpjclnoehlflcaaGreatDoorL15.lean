/-
  The law TrainFits.
-/
import Derived.Test.YtpjclnoehlflcaaGreatDoorT35
import Derived.Test.YtpjclnoehlflcaaGreatDoorL4
/-! The law TrainFits. -/
namespace Go.Abs.Seat
open Go Go.Abs Go.Proofs.Tryz
set_option maxRecDepth 100000
set_option maxHeartbeats 40000000
attribute [local irreducible] IntKind.wrap pEq

/-- TrainFits, of whatever rules and lists. -/
theorem trainFits (hk : Pure prog 16 [] (.bool true)) (a b p s : Int) (hs : -9223372036854775808 ≤ s ∧ s < 9223372036854775808) {N : AV} {l : List Int} (hN : IL N l) {v : AV} {L : List (Int × Int)} (hv : PQ v L) :
    Pure prog 6 [rv a b p s N, v] (.bool true) := by
  have lN := hN.no
  have lv := hv.no
  by_cases h8 : l.length ≤ 8 ∧ L.length ≤ 8
  · have h81 := h8.1
    have h82 := h8.2
    obtain ⟨bR, iR, rR, eR⟩ := rule_b hN (by omega) a b p s hs
    have pC := check_pure hN a b p s iR
    have hT : ∃ bT, TS v L.length bT ∧ (bT = true → 1 ≤ L.length ∧ L.length ≤ 3) := by
      rcases hv.tr with ⟨x, y, h⟩ | h
      · exact ⟨true, h.ts, fun _ => h.k1⟩
      · exact ⟨false, h.ts, fun e => nomatch e⟩
    obtain ⟨bT, sv, hk3⟩ := hT
    have rT := sv.rT h82
    by_cases hall : (bR && bT) = true
    · simp only [Bool.and_eq_true] at hall
      obtain ⟨rfl, rfl⟩ := hall
      have hk3 := hk3 rfl
      have hv : v = pv L := by
        rcases hv with ⟨_, rfl⟩ | e
        · have : 1 ≤ 0 := hk3.1
          omega
        · exact e
      subst hv
      obtain ⟨r, pF, rF, _⟩ := fits_both hN (by omega) a b p s (eR.1 rfl) hs hk3 sv.isT
      clear sv eR iR
      rcases hN with ⟨rfl, rfl⟩ | rfl <;> cases r
      all_goals
        refine pure_sym hE rfl (by repeat' (first | exact trivial | assumption | exact flat_no _ | exact (fun _ h => nomatch h) | apply And.intro)) (by repeat' (first | exact trivial | assumption | exact flat_no _ | exact (fun _ h => nomatch h) | apply And.intro)) fun S q pc hS hq hC hE => ?_
        conv => whnf
        repeat ((first
          | refine sym_pure hC (slim_yes (by omega)) ?_
          | refine sym_pure hC (pC) ?_
          | refine sym_pure hC (pF) ?_
          | refine sym_pure hC (rR) ?_
          | refine sym_pure hC (rT) ?_
          | refine sym_pure hC (rF) ?_
          | refine sym_pure hC (hk) ?_
          | refine sym_drawn hS (by kernel_rfl) ?_
          | refine sym_eq hq true (eqBool_same _ _) ?_
          | rw [beq_self_eq_true]
          | rw [bne_self_eq_false]); conv => whnf)
        exact ⟨_, rfl, Wk.refl _⟩
    · have hno : (bR && bT) = false := Bool.eq_false_iff.2 hall
      have pF := fits_no hN sv a b p s iR hno
      have rF := hk
      clear sv eR iR
      rcases hN with ⟨rfl, rfl⟩ | rfl <;> rcases hv with ⟨rfl, rfl⟩ | rfl <;> cases bR <;> cases bT
      all_goals first
        | exact absurd rfl hall
        | skip
          refine pure_sym hE rfl (by repeat' (first | exact trivial | assumption | exact flat_no _ | exact (fun _ h => nomatch h) | apply And.intro)) (by repeat' (first | exact trivial | assumption | exact flat_no _ | exact (fun _ h => nomatch h) | apply And.intro)) fun S q pc hS hq hC hE => ?_
          conv => whnf
          repeat ((first
            | refine sym_pure hC (slim_yes (by omega)) ?_
            | refine sym_pure hC (pC) ?_
            | refine sym_pure hC (pF) ?_
            | refine sym_pure hC (rR) ?_
            | refine sym_pure hC (rT) ?_
            | refine sym_pure hC (rF) ?_
            | refine sym_pure hC (hk) ?_
            | refine sym_drawn hS (by kernel_rfl) ?_
            | refine sym_eq hq true (eqBool_same _ _) ?_
            | rw [beq_self_eq_true]
            | rw [bne_self_eq_false]); conv => whnf)
          exact ⟨_, rfl, Wk.refl _⟩
  · rcases hN with ⟨rfl, rfl⟩ | rfl <;> rcases hv with ⟨rfl, rfl⟩ | rfl
    · exact absurd ⟨Nat.zero_le _, Nat.zero_le _⟩ h8
    · have h82 : ¬ L.length ≤ 8 := fun h => h8 ⟨Nat.zero_le _, h⟩
      refine pure_sym hE rfl (by repeat' (first | exact trivial | assumption | exact flat_no _ | exact (fun _ h => nomatch h) | apply And.intro)) (by repeat' (first | exact trivial | assumption | exact flat_no _ | exact (fun _ h => nomatch h) | apply And.intro)) fun S q pc hS hq hC hE => ?_
      conv => whnf
      repeat ((first
        | refine sym_pure hC (slim_not (by omega)) ?_
        | refine sym_pure hC (slim_yes (by decide)) ?_
        | refine sym_pure hC (hk) ?_
        | refine sym_drawn hS (by kernel_rfl) ?_
        | refine sym_eq hq true (eqBool_same _ _) ?_
        | rw [beq_self_eq_true]
        | rw [bne_self_eq_false]); conv => whnf)
      exact ⟨_, rfl, Wk.refl _⟩
    · have h82 : ¬ l.length ≤ 8 := fun h => h8 ⟨h, Nat.zero_le _⟩
      refine pure_sym hE rfl (by repeat' (first | exact trivial | assumption | exact flat_no _ | exact (fun _ h => nomatch h) | apply And.intro)) (by repeat' (first | exact trivial | assumption | exact flat_no _ | exact (fun _ h => nomatch h) | apply And.intro)) fun S q pc hS hq hC hE => ?_
      conv => whnf
      repeat ((first
        | refine sym_pure hC (slim_not (by omega)) ?_
        | refine sym_pure hC (slim_yes (by decide)) ?_
        | refine sym_pure hC (hk) ?_
        | refine sym_drawn hS (by kernel_rfl) ?_
        | refine sym_eq hq true (eqBool_same _ _) ?_
        | rw [beq_self_eq_true]
        | rw [bne_self_eq_false]); conv => whnf)
      exact ⟨_, rfl, Wk.refl _⟩
    · by_cases h1 : l.length ≤ 8
      · have h82 : ¬ L.length ≤ 8 := fun h => h8 ⟨h1, h⟩
        refine pure_sym hE rfl (by repeat' (first | exact trivial | assumption | exact flat_no _ | exact (fun _ h => nomatch h) | apply And.intro)) (by repeat' (first | exact trivial | assumption | exact flat_no _ | exact (fun _ h => nomatch h) | apply And.intro)) fun S q pc hS hq hC hE => ?_
        conv => whnf
        repeat ((first
          | refine sym_pure hC (slim_not (by omega)) ?_
          | refine sym_pure hC (slim_yes (by omega)) ?_
          | refine sym_pure hC (hk) ?_
          | refine sym_drawn hS (by kernel_rfl) ?_
          | refine sym_eq hq true (eqBool_same _ _) ?_
          | rw [beq_self_eq_true]
          | rw [bne_self_eq_false]); conv => whnf)
        exact ⟨_, rfl, Wk.refl _⟩
      · refine pure_sym hE rfl (by repeat' (first | exact trivial | assumption | exact flat_no _ | exact (fun _ h => nomatch h) | apply And.intro)) (by repeat' (first | exact trivial | assumption | exact flat_no _ | exact (fun _ h => nomatch h) | apply And.intro)) fun S q pc hS hq hC hE => ?_
        conv => whnf
        repeat ((first
          | refine sym_pure hC (slim_not (by omega)) ?_
          | refine sym_pure hC (slim_yes (by omega)) ?_
          | refine sym_pure hC (hk) ?_
          | refine sym_drawn hS (by kernel_rfl) ?_
          | refine sym_eq hq true (eqBool_same _ _) ?_
          | rw [beq_self_eq_true]
          | rw [bne_self_eq_false]); conv => whnf)
        exact ⟨_, rfl, Wk.refl _⟩
end Go.Abs.Seat
