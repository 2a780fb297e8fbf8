/-
  The fraction of a chain: Fold.
-/
import Derived.Test.YtgojpjbbahljeaaGreatDoorT16
/-! The fraction of a chain: Fold. -/
namespace Go.Abs.Seat
open Go Go.Abs Go.Proofs.Tryz
set_option maxRecDepth 100000
set_option maxHeartbeats 4000000
attribute [local irreducible] IntKind.wrap pEq

theorem eqIf_nil : q0 20 true .nili .nili = some true := by kernel_rfl
theorem eqIf_no (cst : Bool) (m : Int) : q0 20 cst (.iface 106 (.agg [iv m])) .nili = some false := by kernel_rfl

theorem fold_no {v : AV} {l : List Int} (h : IL v l) (hl : l.length < 4611686018427387904) (hc : ¬ chOk l) : Pure prog 28 [v] (.tup [fv 0 0, iv 2]) := by
  have lv := h.no
  rcases h with ⟨rfl, rfl⟩ | rfl
  · refine pure_sym hE rfl (by repeat' (first | exact trivial | assumption | exact flat_no _ | exact (fun _ h => nomatch h) | apply And.intro)) (by repeat' (first | exact trivial | assumption | exact flat_no _ | exact (fun _ h => nomatch h) | apply And.intro)) fun S q pc hS hq hC hE => ?_
    conv => whnf
    refine sym_pure hC (in_pure 0 1 24) ?_
    conv => whnf
    exact ⟨_, rfl, Wk.refl _⟩
  · have ln := ivs_no l
    refine pure_sym hE rfl (by repeat' (first | exact trivial | assumption | exact flat_no _ | exact (fun _ h => nomatch h) | apply And.intro)) (by repeat' (first | exact trivial | assumption | exact flat_no _ | exact (fun _ h => nomatch h) | apply And.intro)) fun S q pc hS hq hC hE => ?_
    conv => whnf
    refine sym_pure hC (in_pure (l.length : Int) 1 24) ?_
    conv => whnf
    by_cases h1 : 1 ≤ l.length ∧ l.length ≤ 24
    · rw [decide_eq_true (show (1 : Int) ≤ (l.length : Int) ∧ (l.length : Int) ≤ 24 by omega)]
      conv => whnf
      refine sym_loop hE hS (A := Nat) [0, 2, 3, 11, 12] (fun i => [(13, nv i)]) (fun _ => []) (fun i => i ≤ l.length ∧ ∀ j, j < i → chAt l j) (fun i => l.length - i) 0 rfl rfl ⟨rfl, rfl, rfl, rfl, by repeat' (first | exact trivial | exact rfl | exact Nat.zero_le _ | exact Nat.le_of_ble_eq_true rfl | exact bdl_no (by assumption) | exact bdl_no (flat_no _) | apply And.intro), by repeat' (first | exact trivial | exact rfl | exact Nat.zero_le _ | exact Nat.le_of_ble_eq_true rfl | exact bdl_no (by assumption) | exact bdl_no (flat_no _) | apply And.intro)⟩ ⟨Nat.zero_le _, fun j h => absurd h (Nat.not_lt_zero _)⟩ ?_
      intro i ⟨hi, hf⟩
      conv => whnf
      by_cases h : i < l.length
      · rw [show decide (Int.ofNat i < ↑l.length) = true from ltN_t h]
        conv => whnf
        refine bool_true (inR_t (i := i) (n := l.length) h) ?_
        conv => whnf
        refine plan_as (nthP (nth_ivs1 (l := l) (i := i) h)) ?_
        conv => whnf
        rw [minI_1]
        refine sym_pure hC (in_pure (gi l i) _ 50000) ?_
        conv => whnf
        by_cases h1 : (if i = 0 then 0 else 1) ≤ gi l i ∧ gi l i ≤ 50000
        · rw [decide_eq_true h1]
          conv => whnf
          rw [show IntKind.i64.wrap (Int.ofNat i + 1) = Int.ofNat (i + 1) from wrapN (m := i + 1) (by omega)]
          exact ⟨i + 1, ⟨h, upto hf h1⟩, by omega, ⟨rfl, rfl, rfl, rfl, by repeat' (first | exact trivial | exact rfl | exact Nat.zero_le _ | exact Nat.le_of_ble_eq_true rfl | exact bdl_no (by assumption) | exact bdl_no (flat_no _) | apply And.intro), by repeat' (first | exact trivial | exact rfl | exact Nat.zero_le _ | exact Nat.le_of_ble_eq_true rfl | exact bdl_no (by assumption) | exact bdl_no (flat_no _) | apply And.intro)⟩⟩
        · rw [decide_eq_false h1]
          conv => whnf
          exact ⟨_, rfl, Wk.refl _⟩
      · exact absurd ⟨fun j hj => hf j (by omega), h1⟩ hc
    · rw [decide_eq_false (show ¬ ((1 : Int) ≤ (l.length : Int) ∧ (l.length : Int) ≤ 24) by omega)]
      conv => whnf
      exact ⟨_, rfl, Wk.refl _⟩

theorem fold_ok (l : List Nat) (hc : chOk (zl l)) (ho : foOk l) : Pure prog 28 [nl (zl l)] (.tup [fv (Int.ofNat (foS l).1) (Int.ofNat (foS l).2), iv 0]) := by
  have hz := zl_len l
  have hx : ∀ i, i < l.length → l.getD i 0 ≤ 50000 := fun i hi => by
    have := (hc.1 i (by omega)).2
    rw [zl_gi l hi] at this
    exact Int.ofNat_le.1 this
  have pf := folded_pure l hx (by have := hc.2; omega) ho
  have ln := ivs_no (zl l)
  generalize zl l = z at *
  refine pure_sym hE rfl (by repeat' (first | exact trivial | assumption | exact flat_no _ | exact (fun _ h => nomatch h) | apply And.intro)) (by repeat' (first | exact trivial | assumption | exact flat_no _ | exact (fun _ h => nomatch h) | apply And.intro)) fun S q pc hS hq hC hE => ?_
  conv => whnf
  refine sym_pure hC (in_pure (z.length : Int) 1 24) ?_
  conv => whnf
  rw [decide_eq_true (show (1 : Int) ≤ (z.length : Int) ∧ (z.length : Int) ≤ 24 by have := hc.2; omega)]
  conv => whnf
  refine sym_loop hE hS (A := Nat) [0, 2, 3, 11, 12] (fun i => [(13, nv i)]) (fun _ => []) (fun i => i ≤ z.length) (fun i => z.length - i) 0 rfl rfl ⟨rfl, rfl, rfl, rfl, by repeat' (first | exact trivial | exact rfl | exact Nat.zero_le _ | exact Nat.le_of_ble_eq_true rfl | exact bdl_no (by assumption) | exact bdl_no (flat_no _) | apply And.intro), by repeat' (first | exact trivial | exact rfl | exact Nat.zero_le _ | exact Nat.le_of_ble_eq_true rfl | exact bdl_no (by assumption) | exact bdl_no (flat_no _) | apply And.intro)⟩ (Nat.zero_le _) ?_
  intro i hi
  have hl := hc.2
  conv => whnf
  by_cases h : i < z.length
  · rw [show decide (Int.ofNat i < ↑z.length) = true from ltN_t h]
    conv => whnf
    refine bool_true (inR_t (i := i) (n := z.length) h) ?_
    conv => whnf
    refine plan_as (nthP (nth_ivs1 (l := z) (i := i) h)) ?_
    conv => whnf
    rw [minI_1]
    refine sym_pure hC (in_pure (gi z i) _ 50000) ?_
    conv => whnf
    rw [decide_eq_true (show (if i = 0 then 0 else 1) ≤ gi z i ∧ gi z i ≤ 50000 from hc.1 i h)]
    conv => whnf
    rw [show IntKind.i64.wrap (Int.ofNat i + 1) = Int.ofNat (i + 1) from wrapN (m := i + 1) (by omega)]
    exact ⟨i + 1, h, by omega, ⟨rfl, rfl, rfl, rfl, by repeat' (first | exact trivial | exact rfl | exact Nat.zero_le _ | exact Nat.le_of_ble_eq_true rfl | exact bdl_no (by assumption) | exact bdl_no (flat_no _) | apply And.intro), by repeat' (first | exact trivial | exact rfl | exact Nat.zero_le _ | exact Nat.le_of_ble_eq_true rfl | exact bdl_no (by assumption) | exact bdl_no (flat_no _) | apply And.intro)⟩⟩
  · rw [show decide (Int.ofNat i < ↑z.length) = false from ltN_f h]
    conv => whnf
    refine sym_pure hC (pf) ?_
    conv => whnf
    refine sym_fn hE hS ?_
    conv => whnf
    refine sym_eq hq true eqIf_nil ?_
    conv => whnf
    exact ⟨_, rfl, Wk.refl _⟩

theorem fold_big (l : List Nat) (hc : chOk (zl l)) (ho : ¬ foOk l) : Pure prog 28 [nl (zl l)] (.tup [fv 0 0, iv 7]) := by
  have hz := zl_len l
  have hx : ∀ i, i < l.length → l.getD i 0 ≤ 50000 := fun i hi => by
    have := (hc.1 i (by omega)).2
    rw [zl_gi l hi] at this
    exact Int.ofNat_le.1 this
  obtain ⟨m, pf⟩ := folded_panic l hx (by have := hc.2; omega) ho
  have ln := ivs_no (zl l)
  generalize zl l = z at *
  refine pure_sym hE rfl (by repeat' (first | exact trivial | assumption | exact flat_no _ | exact (fun _ h => nomatch h) | apply And.intro)) (by repeat' (first | exact trivial | assumption | exact flat_no _ | exact (fun _ h => nomatch h) | apply And.intro)) fun S q pc hS hq hC hE => ?_
  conv => whnf
  refine sym_pure hC (in_pure (z.length : Int) 1 24) ?_
  conv => whnf
  rw [decide_eq_true (show (1 : Int) ≤ (z.length : Int) ∧ (z.length : Int) ≤ 24 by have := hc.2; omega)]
  conv => whnf
  refine sym_loop hE hS (A := Nat) [0, 2, 3, 11, 12] (fun i => [(13, nv i)]) (fun _ => []) (fun i => i ≤ z.length) (fun i => z.length - i) 0 rfl rfl ⟨rfl, rfl, rfl, rfl, by repeat' (first | exact trivial | exact rfl | exact Nat.zero_le _ | exact Nat.le_of_ble_eq_true rfl | exact bdl_no (by assumption) | exact bdl_no (flat_no _) | apply And.intro), by repeat' (first | exact trivial | exact rfl | exact Nat.zero_le _ | exact Nat.le_of_ble_eq_true rfl | exact bdl_no (by assumption) | exact bdl_no (flat_no _) | apply And.intro)⟩ (Nat.zero_le _) ?_
  intro i hi
  have hl := hc.2
  conv => whnf
  by_cases h : i < z.length
  · rw [show decide (Int.ofNat i < ↑z.length) = true from ltN_t h]
    conv => whnf
    refine bool_true (inR_t (i := i) (n := z.length) h) ?_
    conv => whnf
    refine plan_as (nthP (nth_ivs1 (l := z) (i := i) h)) ?_
    conv => whnf
    rw [minI_1]
    refine sym_pure hC (in_pure (gi z i) _ 50000) ?_
    conv => whnf
    rw [decide_eq_true (show (if i = 0 then 0 else 1) ≤ gi z i ∧ gi z i ≤ 50000 from hc.1 i h)]
    conv => whnf
    rw [show IntKind.i64.wrap (Int.ofNat i + 1) = Int.ofNat (i + 1) from wrapN (m := i + 1) (by omega)]
    exact ⟨i + 1, h, by omega, ⟨rfl, rfl, rfl, rfl, by repeat' (first | exact trivial | exact rfl | exact Nat.zero_le _ | exact Nat.le_of_ble_eq_true rfl | exact bdl_no (by assumption) | exact bdl_no (flat_no _) | apply And.intro), by repeat' (first | exact trivial | exact rfl | exact Nat.zero_le _ | exact Nat.le_of_ble_eq_true rfl | exact bdl_no (by assumption) | exact bdl_no (flat_no _) | apply And.intro)⟩⟩
  · rw [show decide (Int.ofNat i < ↑z.length) = false from ltN_f h]
    conv => whnf
    refine sym_call hC ?_
    conv => whnf
    refine sym_panic hS (pf) ?_
    conv => whnf
    refine sym_fn hE hS ?_
    conv => whnf
    refine sym_eq hq false (eqIf_no _ _) ?_
    conv => whnf
    exact ⟨_, rfl, Wk.refl _⟩
end Go.Abs.Seat
